/- Helper text: every compiled operation keeps its promise. -/
import Derived.Test.YtdpebmcdjoadeaaGreatDoorAxOpL
namespace Go.Ax
variable {E : Env} {N : Nat} {μ μ' : Mu} {P : Program}

theorem bytes_loop {f : Value → ByteArray → Sem (ForInStep ByteArray)}
    (hf : ∀ n s w, (f (.int .u8 n) s).run P w = .ok (ForInStep.yield (s.push (UInt8.ofNat n.toNat))) w) :
    ∀ {vs : List AV} {l : List UInt8} {vs' : List Value} (acc : ByteArray) (w : World), LRel E μ vs vs' → bytesOf vs = some l →
    (forIn vs' acc f : Sem ByteArray).run P w = Result.ok ⟨(acc.data.toList ++ l).toArray⟩ w
  | _, l, _, acc, w, .nil, h => by
    simp only [bytesOf] at h; cases h
    simp
  | _, l, _, acc, w, .cons (v := v) (v' := v') hv hs, h => by
    unfold bytesOf at h
    split at h
    · rename_i heq; cases heq
    · rename_i n us heq
      cases heq
      split at h
      · rename_i l' hl'
        cases h
        cases hv
        rw [List.forIn_cons, bind_ok (hf n acc w)]
        have := bytes_loop hf (acc.push (UInt8.ofNat n.toNat)) w hs hl'
        simp only
        rw [this]
        simp
      · cases h
    · cases h
theorem bytesToStr_ok (o : Oper) (s d e : TypeId) (x : Operand) (ho : o.op = .convert s d x) (hs : P.underlying s = some (.slice e)) (hd : P.underlying d = some .string) (he : P.underlying e = some (.int .u8)) :
    ReadOk P o (bytesToStrf (cOpd x)) := by
  intro E N μ ρ a h w v hr r hf
  have hx := hr x (by rw [ho]; simp [Op.operands])
  have conv : ∀ (ad : Option Addr) (len cap : Nat) (q : Value), a.eval x = .slice ad len cap → (Conv.bytesToString (.slice ad len cap)).run P w = .ok q w → (execOp a.eval o).run P w = .ok (.value q) w := by
    intro ad len cap q hxv hq
    simp only [execOp, ho, hxv]
    refine run_value ?_
    unfold convert
    rw [bind_ok (run_underlying hs w), bind_ok (run_underlying hd w)]
    simp only
    rw [bind_ok (run_underlying he w)]; exact hq
  unfold bytesToStrf at hf
  split at hf
  · rename_i eq
    cases hf
    have hv := hx _ eq
    generalize hxv : a.eval x = xv at hv
    cases hv
    exact ⟨_, .str ByteArray.empty, conv _ _ _ _ hxv rfl⟩
  · rename_i b off len cap z loose eq
    split at hf
    · split at hf
      · rename_i vs hvs
        split at hf
        · rename_i l hl
          cases hf
          have hv := hx _ eq
          generalize hxv : a.eval x = xv at hv
          cases hv with | slice hb hss hl' hc ht hn => ?_
          obtain ⟨vs', h1, h2, h3, h4⟩ := getCells_ok (P := P) r hb hss hvs
          refine ⟨.string ⟨l.toArray⟩, ?_, conv _ _ _ _ hxv ?_⟩
          · have := VRel.str (E := E) (μ := μ) ⟨l.toArray⟩
            simpa using this
          · unfold Conv.bytesToString
            simp only
            rw [bind_ok (h1 w rfl)]
            rw [← Array.forIn_toList]
            rw [bind_ok (bytes_loop (fun _ _ _ => rfl) ByteArray.empty w h2 hl)]
            rfl
        · cases hf
      · cases hf
    · cases hf
  · cases hf

theorem cOp_ok (o : Oper) : KOk P o (cOp P o.op) := by
  unfold cOp
  split
  · rename_i x ho; exact move_ok o x (.inl ho)
  · rename_i x ho; exact move_ok o x (.inr ho)
  · rename_i c x y ho; exact pick_ok o c x y ho
  · rename_i t ho
    unfold cAlloc
    split
    · rename_i z hz; exact alloc_ok o t ho hz
    · trivial
  · rename_i t x ho; exact box_ok o t x ho
  · rename_i t parts ho
    unfold cBuild
    split
    · rename_i z fs hz ht
      split
      · rename_i places hp
        split
        · rename_i l hl; exact build_struct_ok o t parts ho hz ht hp hl
        · trivial
      · trivial
    · rename_i z n e hz ht
      split
      · rename_i s hs; exact build_array_ok o t parts ho hz ht hs
      · trivial
    · trivial
  · rename_i t len parts ho
    unfold cBuildSlice
    split
    · rename_i e ht
      split
      · rename_i s z hs hz
        split
        · rename_i hzs
          split
          · rename_i hm; exact buildSlice_ok o t e len parts ho ht hs hz (beq_t hzs) (ble_t hm)
          · trivial
        · trivial
      · trivial
    · trivial
  · rename_i t x ho
    unfold cLoad
    split
    · rename_i ha
      split
      · rename_i n hn; exact loadN_ok o t x ho ha hn
      · trivial
    · rename_i ha; exact load1_ok o t x ho ha
    · trivial
  · rename_i t x y ho
    unfold cStore
    split
    · rename_i n _ hn; exact storeN_ok o t x y ho hn
    · rename_i _ hn; exact store1_ok o t x y ho hn
    · trivial
  · rename_i x ho; exact nilCheck_ok o x ho
  · rename_i op t x y t' ho
    unfold cBin
    split
    · exact bin_ok (add_ok t x y) o ho
    · exact bin_ok (sub_ok t x y) o ho
    · exact bin_ok (mul_ok t x y) o ho
    · exact bin_ok (quo_ok t x y) o ho
    · exact bin_ok (rem_ok t x y) o ho
    · split
      · rename_i f hf; exact bin_ok (eql_ok (cEq_ok hf)) o ho
      · trivial
    · split
      · rename_i f hf; exact bin_ok (neq_ok (cEq_ok hf)) o ho
      · trivial
    · exact bin_ok (lss_ok t x y) o ho
    · exact bin_ok (leq_ok t x y) o ho
    · exact bin_ok (gtr_ok t x y) o ho
    · exact bin_ok (geq_ok t x y) o ho
    · exact bin_ok (shl_ok t x y) o ho
    · exact bin_ok (shr_ok t x y) o ho
    · exact bin_ok (bits_ok .and (.inl rfl) t x y) o ho
    · exact bin_ok (bits_ok .or (.inr (.inl rfl)) t x y) o ho
    · exact bin_ok (bits_ok .xor (.inr (.inr (.inl rfl))) t x y) o ho
    · exact bin_ok (bits_ok .andNot (.inr (.inr (.inr rfl))) t x y) o ho
  · rename_i op t x ho
    unfold cUn
    split
    · exact not_ok o t x ho
    · exact neg_ok o t x ho
    · trivial
  · rename_i s d x ho
    unfold cConvert
    split
    · rename_i j k hs hd; exact toInt_ok o s d x ho hs hd
    · rename_i hs hd; exact same_ok o s d x ho hs hd
    · rename_i j hs hd; exact intToStr_ok o s d x ho hs hd
    · rename_i e hs hd
      split
      · rename_i he; exact strToBytes_ok o s d e x ho hs hd he
      · trivial
    · rename_i e hs hd
      split
      · rename_i he; exact bytesToStr_ok o s d e x ho hs hd he
      · trivial
    · trivial
  · rename_i t x ho
    unfold cMkIface
    split
    · trivial
    · rename_i d hd hne; exact mkIface_ok o t x ho hne (fun ms e => hd ms e)
    · trivial
  · rename_i fn xs ys ho
    unfold cMkFunc
    split
    · rename_i f; exact mkFunc_ok o f xs ys ho
    · trivial
  · rename_i t ho; exact mkMap_ok o t ho
  · rename_i t l c ho
    unfold cMkSlice
    split
    · rename_i e ht
      split
      · rename_i z b s hz hb hs
        split
        · rename_i hzs; exact mkSlice_ok o t e l c ho ht hs hz hb (beq_t hzs)
        · trivial
      · trivial
    · trivial
  · rename_i t x lo hi mx ho
    unfold cSlice
    split
    · rename_i ht
      split
      · exact sliceStr_ok o t x lo hi ho ht
      · trivial
    · rename_i e ht
      split
      · rename_i hi2 _ _ _ n hn; exact sliceSl_ok o t e x lo hi2 none ho ht hn (fun h => absurd rfl h)
      · rename_i n hi' m hn; exact sliceSl_ok o t e x lo (some hi') (some m) ho ht hn (fun _ => by simp)
      · trivial
    · trivial
  · rename_i t x f ho
    unfold cFieldAddr
    split
    · rename_i fs ht
      split
      · rename_i fd hf
        split
        · trivial
        · rename_i n hn0 hn; exact fieldAddr_ok o t x f ho ht hf hn (fun e => hn0 e)
        · trivial
      · trivial
    · trivial
  · rename_i t x f ho
    unfold cField
    split
    · rename_i fs ht
      split
      · rename_i fd hf
        split
        · rename_i n ha hn; exact fieldN_ok o t x f ho ht hf ha hn
        · rename_i ha; exact field1_ok o t x f ho ht hf ha
        · trivial
      · trivial
    · trivial
  · rename_i t x i ho
    unfold cIndexAddr
    split
    · rename_i e ht
      split
      · rename_i n hn; exact indexAddr_ok o t e x i ho ht hn
      · trivial
    · rename_i n e ht
      split
      · rename_i s hs; exact indexArr_ok o t e x i ho ht hs
      · trivial
    · trivial
  · rename_i t x i ho
    unfold cIndex
    split
    · rename_i ht; exact indexStr_ok o t x i ho ht
    · trivial
  · rename_i t x i ok ho
    unfold cLookup
    split
    · rename_i k e ht
      split
      · rename_i n z hn hz; exact lookup_ok o x i ok ho ht hn hz
      · trivial
    · trivial
  · rename_i t m k v ho
    unfold cMapUpdate
    split
    · rename_i kt et ht
      split
      · rename_i n hn; exact mapUpdate_ok o m k v ho ht hn
      · trivial
    · trivial
  · rename_i x s t ok ho
    unfold cTypeAssert
    split
    · trivial
    · rename_i d z hd ht hz; exact typeAssert_ok o x s t ok ho ht (fun ms e => hd ms e) hz
    · trivial
  · rename_i x i ho; exact extract_ok o x i ho
  · rename_i c ho
    unfold cCall
    split
    · rename_i f hc; exact callF_ok o c f ho hc
    · rename_i x _ hc; exact callV_ok o c x ho hc
    · trivial
    · rename_i b hc; exact cBuiltin_ok o c b ho hc
  · trivial
end Go.Ax
