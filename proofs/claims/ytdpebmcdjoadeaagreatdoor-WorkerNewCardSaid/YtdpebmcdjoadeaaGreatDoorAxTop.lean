/- Helper text: the executor over a whole program, with snaps in place of calls; what a run says of the program. -/
import Derived.Test.YtdpebmcdjoadeaaGreatDoorAxSnapB
namespace Go.Ax
variable {P : Program}

noncomputable def withBody (P : Program) (fn : Func) : Option AF := match fn.body with
  | some _ => some (cFunc P fn)
  | none => none
noncomputable def primOf : List (Nat × List Snap) → Nat → Option (List AV → H → RV)
  | [], _ => none
  | (g, l) :: r, f => match Nat.beq f g with
    | true => some (useSnaps l)
    | false => primOf r f
/-- the program's functions; snaps come first -/
noncomputable def cfgOf (P : Program) (pr : List (Nat × List Snap)) : Cfg := { fn := fun i => (P.funcs[i]?).bind (withBody P), prim := primOf pr }
def noNum (P : Program) : Bool := P.funcs.toList.all fun f => !(f.name == "runtime.NumGoroutine")
def SnapsOk (P : Program) (pr : List (Nat × List Snap)) : Prop := ∀ g l, (g, l) ∈ pr → ∀ s, s ∈ l → s.f = g ∧ SnapOk P s

theorem primOf_mem : ∀ {pr : List (Nat × List Snap)} {f : Nat} {p : List AV → H → RV}, primOf pr f = some p → ∃ l, (f, l) ∈ pr ∧ p = useSnaps l
  | [], f, p, h => by cases h
  | (g, l) :: r, f, p, h => by
    unfold primOf at h
    split at h
    · rename_i e
      have e := Nat.eq_of_beq_eq_true e
      subst e
      cases h
      exact ⟨l, List.mem_cons_self, rfl⟩
    · obtain ⟨l', h1, h2⟩ := primOf_mem h
      exact ⟨l', List.mem_cons_of_mem _ h1, h2⟩
theorem cfg_ok (hn : noNum P = true) {pr : List (Nat × List Snap)} (hp : SnapsOk P pr) : CfgOk P (cfgOf P pr) where
  fn := fun f af h => by
    cases hf : P.funcs[f]? with
    | none => simp [cfgOf, hf] at h
    | some fn =>
      simp only [cfgOf, hf, Option.bind_some] at h
      unfold withBody at h
      split at h
      · rename_i c hc
        cases h
        have hmem : fn ∈ P.funcs.toList := by
          have : P.funcs.toList[f]? = some fn := by simpa using hf
          exact List.mem_of_getElem? this
        have := List.all_eq_true.mp hn fn hmem
        exact ⟨fn, c, rfl, hc, by simpa using this, rfl⟩
      · cases h
  prim := fun f p h args h0 v h' e => by
    obtain ⟨l, h1, rfl⟩ := primOf_mem (show primOf pr f = some p from h)
    exact useSnaps_ok (hp f l h1) e

theorem cfg_snap (hmix : P.follows .mixedOrders = true) (hn : noNum P = true) {pr : List (Nat × List Snap)} (hp : SnapsOk P pr) {n : Nat} {s : Snap} (hs : checkSnap (cfgOf P pr) n s = true) : SnapOk P s :=
  snap_ok (call_ok (cfg_ok hn hp) (fun n id ops => draw_ok hmix n id ops) n) hs
theorem snaps_nil : SnapsOk P [] := fun _ _ h => by cases h

/-- did the call return true? -/
def isTrue : RV → Bool
  | .ok (.bool b) _ => b
  | _ => false
theorem true_calls (hmix : P.follows .mixedOrders = true) (hn : noNum P = true) {pr : List (Nat × List Snap)} (hp : SnapsOk P pr) {n f : Nat}
    (hr : isTrue (call (cfgOf P pr) n f [] { heap := .nil, next := 0, sibs := .nil }) = true) (w : World) :
    Calls P f #[] w fun e w' => e = .returned (.bool true) ∧ RowKit.Below w.heap.size w w' := by
  cases hc : call (cfgOf P pr) n f [] { heap := .nil, next := 0, sibs := .nil } with
  | err m => rw [hc] at hr; cases hr
  | ok u h =>
    rw [hc] at hr
    cases u with
    | bool b =>
      have hb : b = true := hr
      subst hb
      refine Calls.mono (call_sound hmix (cfg_ok hn hp) hc ⟨fun _ => .bool true, fun _ => rfl⟩ #[] .nil w) fun e w' ⟨u', μ', q1, q2, _, q4⟩ => ?_
      cases q2
      exact ⟨q1, q4⟩
    | _ => cases hr
end Go.Ax
