/- Helper text: closed facts on the program's types and functions, proved piece by piece. -/
import Derived.Test.YtdpebmcdjoadeaaGreatDoorProg
import Derived.JoinedOf
import Derived.KernelRfl
namespace Go.Proofs.YtdpebmcdjoadeaaGreatDoor
open Go

theorem all_append {α : Type} {p : α → Bool} {l m : List α} (h : l.all p = true) (k : m.all p = true) : (l ++ m).all p = true := by simp [h, k]
theorem range_step {p : Nat → Bool} {a k b : Nat} (h : (List.range' 0 a).all p = true) (g : (List.range' a k).all p = true) (e : a + k = b) : (List.range' 0 b).all p = true := by
  subst e
  have := all_append h g
  rwa [show List.range' 0 a ++ List.range' a k = List.range' 0 (a + k) by
    have := List.range'_append (s := 0) (m := a) (n := k) (step := 1)
    simpa using this] at this
theorem range_done {p : Nat → Bool} {n : Nat} (h : (List.range' 0 n).all p = true) : (List.range n).all p = true := by rw [List.range_eq_range']; exact h
theorem take_step {α : Type} {p : α → Bool} {l : List α} {a k b : Nat} (h : (l.take a).all p = true) (g : ((l.drop a).take k).all p = true) (e : a + k = b) : (l.take b).all p = true := by
  subst e
  rw [List.take_add]
  exact all_append h g
theorem take_done {α : Type} {p : α → Bool} {l : List α} {n : Nat} (h : (l.take n).all p = true) (e : l.length = n) : l.all p = true := by
  subst e
  simpa using h

def rowedAt (P : Program) (n t : Nat) : Bool := match P.underlying t with | some (.map _ e) => decide (e < n) | _ => true
theorem mapsRowed_eq {P : Program} {n : Nat} (h : P.types.size = n) : mapsRowed P = (List.range n).all (rowedAt P n) := by subst h; rfl
def plainAt (P : Program) (t : Nat) : Bool := match P.underlying t with | some (.map k _) => (match P.underlying k with | some (.array _ _) | some (.struct _) => false | _ => true) | _ => true
theorem plainKeys_eq {P : Program} {n : Nat} (h : P.types.size = n) : P.plainKeys = (List.range n).all (plainAt P) := by subst h; rfl
theorem typesSize : Tryz.prog.types.size = 785 := by kernel_rfl
theorem funcsLength : Tryz.prog.funcs.toList.length = 871 := by kernel_rfl
theorem fine_0 : (List.range' 0 40).all (rowFine Tryz.prog) = true := by kernel_rfl
theorem fine_40 : (List.range' 40 40).all (rowFine Tryz.prog) = true := by kernel_rfl
theorem fine_to80 : (List.range' 0 80).all (rowFine Tryz.prog) = true := range_step fine_0 fine_40 rfl
theorem fine_80 : (List.range' 80 40).all (rowFine Tryz.prog) = true := by kernel_rfl
theorem fine_to120 : (List.range' 0 120).all (rowFine Tryz.prog) = true := range_step fine_to80 fine_80 rfl
theorem fine_120 : (List.range' 120 40).all (rowFine Tryz.prog) = true := by kernel_rfl
theorem fine_to160 : (List.range' 0 160).all (rowFine Tryz.prog) = true := range_step fine_to120 fine_120 rfl
theorem fine_160 : (List.range' 160 40).all (rowFine Tryz.prog) = true := by kernel_rfl
theorem fine_to200 : (List.range' 0 200).all (rowFine Tryz.prog) = true := range_step fine_to160 fine_160 rfl
theorem fine_200 : (List.range' 200 40).all (rowFine Tryz.prog) = true := by kernel_rfl
theorem fine_to240 : (List.range' 0 240).all (rowFine Tryz.prog) = true := range_step fine_to200 fine_200 rfl
theorem fine_240 : (List.range' 240 40).all (rowFine Tryz.prog) = true := by kernel_rfl
theorem fine_to280 : (List.range' 0 280).all (rowFine Tryz.prog) = true := range_step fine_to240 fine_240 rfl
theorem fine_280 : (List.range' 280 40).all (rowFine Tryz.prog) = true := by kernel_rfl
theorem fine_to320 : (List.range' 0 320).all (rowFine Tryz.prog) = true := range_step fine_to280 fine_280 rfl
theorem fine_320 : (List.range' 320 40).all (rowFine Tryz.prog) = true := by kernel_rfl
theorem fine_to360 : (List.range' 0 360).all (rowFine Tryz.prog) = true := range_step fine_to320 fine_320 rfl
theorem fine_360 : (List.range' 360 40).all (rowFine Tryz.prog) = true := by kernel_rfl
theorem fine_to400 : (List.range' 0 400).all (rowFine Tryz.prog) = true := range_step fine_to360 fine_360 rfl
theorem fine_400 : (List.range' 400 40).all (rowFine Tryz.prog) = true := by kernel_rfl
theorem fine_to440 : (List.range' 0 440).all (rowFine Tryz.prog) = true := range_step fine_to400 fine_400 rfl
theorem fine_440 : (List.range' 440 40).all (rowFine Tryz.prog) = true := by kernel_rfl
theorem fine_to480 : (List.range' 0 480).all (rowFine Tryz.prog) = true := range_step fine_to440 fine_440 rfl
theorem fine_480 : (List.range' 480 40).all (rowFine Tryz.prog) = true := by kernel_rfl
theorem fine_to520 : (List.range' 0 520).all (rowFine Tryz.prog) = true := range_step fine_to480 fine_480 rfl
theorem fine_520 : (List.range' 520 40).all (rowFine Tryz.prog) = true := by kernel_rfl
theorem fine_to560 : (List.range' 0 560).all (rowFine Tryz.prog) = true := range_step fine_to520 fine_520 rfl
theorem fine_560 : (List.range' 560 40).all (rowFine Tryz.prog) = true := by kernel_rfl
theorem fine_to600 : (List.range' 0 600).all (rowFine Tryz.prog) = true := range_step fine_to560 fine_560 rfl
theorem fine_600 : (List.range' 600 40).all (rowFine Tryz.prog) = true := by kernel_rfl
theorem fine_to640 : (List.range' 0 640).all (rowFine Tryz.prog) = true := range_step fine_to600 fine_600 rfl
theorem fine_640 : (List.range' 640 40).all (rowFine Tryz.prog) = true := by kernel_rfl
theorem fine_to680 : (List.range' 0 680).all (rowFine Tryz.prog) = true := range_step fine_to640 fine_640 rfl
theorem fine_680 : (List.range' 680 40).all (rowFine Tryz.prog) = true := by kernel_rfl
theorem fine_to720 : (List.range' 0 720).all (rowFine Tryz.prog) = true := range_step fine_to680 fine_680 rfl
theorem fine_720 : (List.range' 720 40).all (rowFine Tryz.prog) = true := by kernel_rfl
theorem fine_to760 : (List.range' 0 760).all (rowFine Tryz.prog) = true := range_step fine_to720 fine_720 rfl
theorem fine_760 : (List.range' 760 25).all (rowFine Tryz.prog) = true := by kernel_rfl
theorem fine_to785 : (List.range' 0 785).all (rowFine Tryz.prog) = true := range_step fine_to760 fine_760 rfl
theorem fine : (List.range Tryz.prog.types.size).all (rowFine Tryz.prog) = true := by rw [typesSize]; exact range_done fine_to785
theorem globalsFine : Tryz.prog.globals.all (fun g => decide (g.type < 785)) = true := by kernel_rfl
theorem params_0 : (Tryz.prog.funcs.toList.take 100).all (fun f => f.params.all fun t => decide (t < 785)) = true := by kernel_rfl
theorem params_100 : ((Tryz.prog.funcs.toList.drop 100).take 100).all (fun f => f.params.all fun t => decide (t < 785)) = true := by kernel_rfl
theorem params_to200 : (Tryz.prog.funcs.toList.take 200).all (fun f => f.params.all fun t => decide (t < 785)) = true := take_step params_0 params_100 rfl
theorem params_200 : ((Tryz.prog.funcs.toList.drop 200).take 100).all (fun f => f.params.all fun t => decide (t < 785)) = true := by kernel_rfl
theorem params_to300 : (Tryz.prog.funcs.toList.take 300).all (fun f => f.params.all fun t => decide (t < 785)) = true := take_step params_to200 params_200 rfl
theorem params_300 : ((Tryz.prog.funcs.toList.drop 300).take 100).all (fun f => f.params.all fun t => decide (t < 785)) = true := by kernel_rfl
theorem params_to400 : (Tryz.prog.funcs.toList.take 400).all (fun f => f.params.all fun t => decide (t < 785)) = true := take_step params_to300 params_300 rfl
theorem params_400 : ((Tryz.prog.funcs.toList.drop 400).take 100).all (fun f => f.params.all fun t => decide (t < 785)) = true := by kernel_rfl
theorem params_to500 : (Tryz.prog.funcs.toList.take 500).all (fun f => f.params.all fun t => decide (t < 785)) = true := take_step params_to400 params_400 rfl
theorem params_500 : ((Tryz.prog.funcs.toList.drop 500).take 100).all (fun f => f.params.all fun t => decide (t < 785)) = true := by kernel_rfl
theorem params_to600 : (Tryz.prog.funcs.toList.take 600).all (fun f => f.params.all fun t => decide (t < 785)) = true := take_step params_to500 params_500 rfl
theorem params_600 : ((Tryz.prog.funcs.toList.drop 600).take 100).all (fun f => f.params.all fun t => decide (t < 785)) = true := by kernel_rfl
theorem params_to700 : (Tryz.prog.funcs.toList.take 700).all (fun f => f.params.all fun t => decide (t < 785)) = true := take_step params_to600 params_600 rfl
theorem params_700 : ((Tryz.prog.funcs.toList.drop 700).take 100).all (fun f => f.params.all fun t => decide (t < 785)) = true := by kernel_rfl
theorem params_to800 : (Tryz.prog.funcs.toList.take 800).all (fun f => f.params.all fun t => decide (t < 785)) = true := take_step params_to700 params_700 rfl
theorem params_800 : ((Tryz.prog.funcs.toList.drop 800).take 71).all (fun f => f.params.all fun t => decide (t < 785)) = true := by kernel_rfl
theorem params_to871 : (Tryz.prog.funcs.toList.take 871).all (fun f => f.params.all fun t => decide (t < 785)) = true := take_step params_to800 params_800 rfl
theorem paramsFine : Tryz.prog.funcs.all (fun f => f.params.all fun t => decide (t < 785)) = true := by rw [← Array.all_toList]; exact take_done params_to871 funcsLength
theorem laidOut : laidOutB Tryz.prog = true := by
  unfold laidOutB
  rw [Bool.and_eq_true, Bool.and_eq_true]
  refine ⟨⟨fine, ?_⟩, ?_⟩
  · rw [typesSize]; exact globalsFine
  · rw [typesSize]; exact paramsFine
theorem mapsr_0 : (List.range' 0 100).all (rowedAt Tryz.prog 785) = true := by kernel_rfl
theorem mapsr_100 : (List.range' 100 100).all (rowedAt Tryz.prog 785) = true := by kernel_rfl
theorem mapsr_to200 : (List.range' 0 200).all (rowedAt Tryz.prog 785) = true := range_step mapsr_0 mapsr_100 rfl
theorem mapsr_200 : (List.range' 200 100).all (rowedAt Tryz.prog 785) = true := by kernel_rfl
theorem mapsr_to300 : (List.range' 0 300).all (rowedAt Tryz.prog 785) = true := range_step mapsr_to200 mapsr_200 rfl
theorem mapsr_300 : (List.range' 300 100).all (rowedAt Tryz.prog 785) = true := by kernel_rfl
theorem mapsr_to400 : (List.range' 0 400).all (rowedAt Tryz.prog 785) = true := range_step mapsr_to300 mapsr_300 rfl
theorem mapsr_400 : (List.range' 400 100).all (rowedAt Tryz.prog 785) = true := by kernel_rfl
theorem mapsr_to500 : (List.range' 0 500).all (rowedAt Tryz.prog 785) = true := range_step mapsr_to400 mapsr_400 rfl
theorem mapsr_500 : (List.range' 500 100).all (rowedAt Tryz.prog 785) = true := by kernel_rfl
theorem mapsr_to600 : (List.range' 0 600).all (rowedAt Tryz.prog 785) = true := range_step mapsr_to500 mapsr_500 rfl
theorem mapsr_600 : (List.range' 600 100).all (rowedAt Tryz.prog 785) = true := by kernel_rfl
theorem mapsr_to700 : (List.range' 0 700).all (rowedAt Tryz.prog 785) = true := range_step mapsr_to600 mapsr_600 rfl
theorem mapsr_700 : (List.range' 700 85).all (rowedAt Tryz.prog 785) = true := by kernel_rfl
theorem mapsr_to785 : (List.range' 0 785).all (rowedAt Tryz.prog 785) = true := range_step mapsr_to700 mapsr_700 rfl
theorem mapsRow : mapsRowed Tryz.prog = true := (mapsRowed_eq typesSize).trans (range_done mapsr_to785)
theorem plainr_0 : (List.range' 0 100).all (plainAt Tryz.prog) = true := by kernel_rfl
theorem plainr_100 : (List.range' 100 100).all (plainAt Tryz.prog) = true := by kernel_rfl
theorem plainr_to200 : (List.range' 0 200).all (plainAt Tryz.prog) = true := range_step plainr_0 plainr_100 rfl
theorem plainr_200 : (List.range' 200 100).all (plainAt Tryz.prog) = true := by kernel_rfl
theorem plainr_to300 : (List.range' 0 300).all (plainAt Tryz.prog) = true := range_step plainr_to200 plainr_200 rfl
theorem plainr_300 : (List.range' 300 100).all (plainAt Tryz.prog) = true := by kernel_rfl
theorem plainr_to400 : (List.range' 0 400).all (plainAt Tryz.prog) = true := range_step plainr_to300 plainr_300 rfl
theorem plainr_400 : (List.range' 400 100).all (plainAt Tryz.prog) = true := by kernel_rfl
theorem plainr_to500 : (List.range' 0 500).all (plainAt Tryz.prog) = true := range_step plainr_to400 plainr_400 rfl
theorem plainr_500 : (List.range' 500 100).all (plainAt Tryz.prog) = true := by kernel_rfl
theorem plainr_to600 : (List.range' 0 600).all (plainAt Tryz.prog) = true := range_step plainr_to500 plainr_500 rfl
theorem plainr_600 : (List.range' 600 100).all (plainAt Tryz.prog) = true := by kernel_rfl
theorem plainr_to700 : (List.range' 0 700).all (plainAt Tryz.prog) = true := range_step plainr_to600 plainr_600 rfl
theorem plainr_700 : (List.range' 700 85).all (plainAt Tryz.prog) = true := by kernel_rfl
theorem plainr_to785 : (List.range' 0 785).all (plainAt Tryz.prog) = true := range_step plainr_to700 plainr_700 rfl
theorem plainKeysAre : Tryz.prog.plainKeys = true := (plainKeys_eq typesSize).trans (range_done plainr_to785)
theorem heard_0 : (Tryz.prog.funcs.toList.take 60).all (fun fn => (Stop.rowOf fn).isNone || !fn.norace) = true := by kernel_rfl
theorem heard_60 : ((Tryz.prog.funcs.toList.drop 60).take 60).all (fun fn => (Stop.rowOf fn).isNone || !fn.norace) = true := by kernel_rfl
theorem heard_to120 : (Tryz.prog.funcs.toList.take 120).all (fun fn => (Stop.rowOf fn).isNone || !fn.norace) = true := take_step heard_0 heard_60 rfl
theorem heard_120 : ((Tryz.prog.funcs.toList.drop 120).take 60).all (fun fn => (Stop.rowOf fn).isNone || !fn.norace) = true := by kernel_rfl
theorem heard_to180 : (Tryz.prog.funcs.toList.take 180).all (fun fn => (Stop.rowOf fn).isNone || !fn.norace) = true := take_step heard_to120 heard_120 rfl
theorem heard_180 : ((Tryz.prog.funcs.toList.drop 180).take 60).all (fun fn => (Stop.rowOf fn).isNone || !fn.norace) = true := by kernel_rfl
theorem heard_to240 : (Tryz.prog.funcs.toList.take 240).all (fun fn => (Stop.rowOf fn).isNone || !fn.norace) = true := take_step heard_to180 heard_180 rfl
theorem heard_240 : ((Tryz.prog.funcs.toList.drop 240).take 60).all (fun fn => (Stop.rowOf fn).isNone || !fn.norace) = true := by kernel_rfl
theorem heard_to300 : (Tryz.prog.funcs.toList.take 300).all (fun fn => (Stop.rowOf fn).isNone || !fn.norace) = true := take_step heard_to240 heard_240 rfl
theorem heard_300 : ((Tryz.prog.funcs.toList.drop 300).take 60).all (fun fn => (Stop.rowOf fn).isNone || !fn.norace) = true := by kernel_rfl
theorem heard_to360 : (Tryz.prog.funcs.toList.take 360).all (fun fn => (Stop.rowOf fn).isNone || !fn.norace) = true := take_step heard_to300 heard_300 rfl
theorem heard_360 : ((Tryz.prog.funcs.toList.drop 360).take 60).all (fun fn => (Stop.rowOf fn).isNone || !fn.norace) = true := by kernel_rfl
theorem heard_to420 : (Tryz.prog.funcs.toList.take 420).all (fun fn => (Stop.rowOf fn).isNone || !fn.norace) = true := take_step heard_to360 heard_360 rfl
theorem heard_420 : ((Tryz.prog.funcs.toList.drop 420).take 60).all (fun fn => (Stop.rowOf fn).isNone || !fn.norace) = true := by kernel_rfl
theorem heard_to480 : (Tryz.prog.funcs.toList.take 480).all (fun fn => (Stop.rowOf fn).isNone || !fn.norace) = true := take_step heard_to420 heard_420 rfl
theorem heard_480 : ((Tryz.prog.funcs.toList.drop 480).take 60).all (fun fn => (Stop.rowOf fn).isNone || !fn.norace) = true := by kernel_rfl
theorem heard_to540 : (Tryz.prog.funcs.toList.take 540).all (fun fn => (Stop.rowOf fn).isNone || !fn.norace) = true := take_step heard_to480 heard_480 rfl
theorem heard_540 : ((Tryz.prog.funcs.toList.drop 540).take 60).all (fun fn => (Stop.rowOf fn).isNone || !fn.norace) = true := by kernel_rfl
theorem heard_to600 : (Tryz.prog.funcs.toList.take 600).all (fun fn => (Stop.rowOf fn).isNone || !fn.norace) = true := take_step heard_to540 heard_540 rfl
theorem heard_600 : ((Tryz.prog.funcs.toList.drop 600).take 60).all (fun fn => (Stop.rowOf fn).isNone || !fn.norace) = true := by kernel_rfl
theorem heard_to660 : (Tryz.prog.funcs.toList.take 660).all (fun fn => (Stop.rowOf fn).isNone || !fn.norace) = true := take_step heard_to600 heard_600 rfl
theorem heard_660 : ((Tryz.prog.funcs.toList.drop 660).take 60).all (fun fn => (Stop.rowOf fn).isNone || !fn.norace) = true := by kernel_rfl
theorem heard_to720 : (Tryz.prog.funcs.toList.take 720).all (fun fn => (Stop.rowOf fn).isNone || !fn.norace) = true := take_step heard_to660 heard_660 rfl
theorem heard_720 : ((Tryz.prog.funcs.toList.drop 720).take 60).all (fun fn => (Stop.rowOf fn).isNone || !fn.norace) = true := by kernel_rfl
theorem heard_to780 : (Tryz.prog.funcs.toList.take 780).all (fun fn => (Stop.rowOf fn).isNone || !fn.norace) = true := take_step heard_to720 heard_720 rfl
theorem heard_780 : ((Tryz.prog.funcs.toList.drop 780).take 60).all (fun fn => (Stop.rowOf fn).isNone || !fn.norace) = true := by kernel_rfl
theorem heard_to840 : (Tryz.prog.funcs.toList.take 840).all (fun fn => (Stop.rowOf fn).isNone || !fn.norace) = true := take_step heard_to780 heard_780 rfl
theorem heard_840 : ((Tryz.prog.funcs.toList.drop 840).take 31).all (fun fn => (Stop.rowOf fn).isNone || !fn.norace) = true := by kernel_rfl
theorem heard_to871 : (Tryz.prog.funcs.toList.take 871).all (fun fn => (Stop.rowOf fn).isNone || !fn.norace) = true := take_step heard_to840 heard_840 rfl
theorem heard : Tryz.prog.stopsHeard = true := by
  unfold Program.stopsHeard
  rw [← Array.all_toList]
  exact take_done heard_to871 funcsLength
end Go.Proofs.YtdpebmcdjoadeaaGreatDoor
