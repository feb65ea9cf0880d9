/- batch: rows, changes, small functions. -/
import Derived.Test.YtdhhjhkonmacdaaSd
import Derived.Test.YtdhhjhkonmacdaaTy
namespace Go.Proofs.Ytdhhjhkonmacdaa
open Go.RowKit
set_option linter.unusedSimpArgs false
set_option maxHeartbeats 4000000
set_option linter.unusedVariables false
attribute [local irreducible] QV EvU Wt J G Fin
structure RowD where
  key : ByteArray
  val : Sl UInt8
deriving Inhabited
def RowD.cells (x : RowD) : List Value := [.string x.key, x.val.v]
instance instGoTRowD : GoT RowD where
  deep x w := Dp.deep x.val w
  foot x b := Dp.foot x.val b
  stay x w w' h hs := Dp.stay x.val w w' h hs
  lt x w b h hb := Dp.lt x.val w b h hb
  sz := 2
  enc := RowD.cells
  len _ := rfl
  pos := by decide
  one x u hu := by simp [RowD.cells] at hu; rcases hu with rfl | rfl <;> rfl
  dflt w := Sl.none_deep w
instance : SzIs RowD 2 := ⟨rfl⟩
instance kn_RowD_val {w0 : World} {mo : List Nat} {m : List Res} {x : RowD} [h : Kn w0 mo m x] : Kn w0 mo m x.val := ⟨fun w hw => h.h w hw⟩
structure Chg where
  key : ByteArray
  val : Sl UInt8
  gone : Bool
deriving Inhabited
def Chg.cells (x : Chg) : List Value := [.string x.key, x.val.v, .bool x.gone]
instance instGoTChg : GoT Chg where
  deep x w := Dp.deep x.val w
  foot x b := Dp.foot x.val b
  stay x w w' h hs := Dp.stay x.val w w' h hs
  lt x w b h hb := Dp.lt x.val w b h hb
  sz := 3
  enc := Chg.cells
  len _ := rfl
  pos := by decide
  one x u hu := by simp [Chg.cells] at hu; rcases hu with rfl | rfl | rfl <;> rfl
  dflt w := Sl.none_deep w
instance : SzIs Chg 3 := ⟨rfl⟩
instance kn_Chg_val {w0 : World} {mo : List Nat} {m : List Res} {x : Chg} [h : Kn w0 mo m x] : Kn w0 mo m x.val := ⟨fun w hw => h.h w hw⟩
/-- Same: the same bytes? -/
theorem same_calls (a b : Sl UInt8) (w : World) (ha : Dp.deep a w) (hb : Dp.deep b w) : Calls Try.prog 11 [a.v, b.v].toArray w fun e w' => e = .returned (.bool ((textOf a.l).toList == (textOf b.l).toList)) ∧ Below w.heap.size w w' := by
  haveI := Old.of ha
  haveI := Old.of hb
  refine enter Try.func11 rfl Try.ntmps11 ?_
  repeat' (first
      | refine J.bu ?_
      | refine J.bg ?_
      | refine J.boxA nofun rfl .none (.plain rfl) (fun _ _ => ?_)
      | refine J.box1 nofun rfl .none (.plain rfl) rfl (fun _ _ => ?_)
      | refine J.alloc nofun rfl .none (fun _ _ => ?_)
      | refine J.sto ?_
      | refine J.stoN ?_
      | refine J.lit (fun _ _ => ?_)
      | refine J.alt nofun ?_ ?_
      | exact J.stop
      | refine J.fin ?_
      | refine G.seq ?_
      | refine G.region ?_
      | refine G.draw (by kernel_rfl) (by kernel_rfl) ?_
      | refine Fin.go ?_
      | refine G.condT ?_
      | refine G.condF ?_
      | (refine G.cond rfl (fun h => ?_) (fun h => ?_) <;> (have hp := h; try simp only [decide_eq_true_eq, decide_eq_false_iff_not, Bool.and_eq_true, Bool.or_eq_true, Bool.and_eq_false_iff, Bool.or_eq_false_iff, Bool.not_eq_true', Bool.not_eq_false'] at hp))
      | refine G.ret ?_
      | refine G.skip ?_
      | refine G.exit ?_
      | refine G.block ?_
      | refine Fin.resS Try.results11 ?_
      | refine Fin.resT Try.results11 ?_)
  all_goals first | exact fun w' hw => ⟨rfl, hw.out⟩
theorem equal_calls (a b : Sl UInt8) (w : World) (ha : Dp.deep a w) (hb : Dp.deep b w) : Calls Try.prog 40 [a.v, b.v].toArray w fun e w' => e = .returned (.bool ((textOf a.l).toList == (textOf b.l).toList)) ∧ Below w.heap.size w w' := by
  haveI := Old.of ha
  haveI := Old.of hb
  refine enter Try.func40 rfl Try.ntmps40 ?_
  repeat' (first
      | refine J.bu ?_
      | refine J.bg ?_
      | refine J.boxA nofun rfl .none (.plain rfl) (fun _ _ => ?_)
      | refine J.box1 nofun rfl .none (.plain rfl) rfl (fun _ _ => ?_)
      | refine J.alloc nofun rfl .none (fun _ _ => ?_)
      | refine J.sto ?_
      | refine J.stoN ?_
      | refine J.lit (fun _ _ => ?_)
      | refine J.alt nofun ?_ ?_
      | exact J.stop
      | refine J.fin ?_
      | refine G.seq ?_
      | refine G.region ?_
      | refine G.draw (by kernel_rfl) (by kernel_rfl) ?_
      | refine Fin.go ?_
      | refine G.condT ?_
      | refine G.condF ?_
      | (refine G.cond rfl (fun h => ?_) (fun h => ?_) <;> (have hp := h; try simp only [decide_eq_true_eq, decide_eq_false_iff_not, Bool.and_eq_true, Bool.or_eq_true, Bool.and_eq_false_iff, Bool.or_eq_false_iff, Bool.not_eq_true', Bool.not_eq_false'] at hp))
      | refine G.ret ?_
      | refine G.skip ?_
      | refine G.exit ?_
      | refine G.block ?_
      | refine Fin.resS Try.results40 ?_
      | refine Fin.resT Try.results40 ?_)
  all_goals first | exact fun w' hw => ⟨rfl, hw.out⟩
/-- Copy. -/
theorem copy_gives (a : Sl UInt8) (w : World) (ha : Dp.deep a w) (hl : a.l.length ≤ 140737488355328) : Gives Try.prog 36 [a.v] w (fun x : Sl UInt8 => x.l = a.l ∧ (x.A = none ↔ a.l = [])) (fun x => x.v) := by
  haveI := Old.of ha
  refine enter Try.func36 rfl Try.ntmps36 ?_
  repeat' (first
      | refine J.bu ?_
      | refine J.bg ?_
      | refine J.boxA nofun rfl .none (.plain rfl) (fun _ _ => ?_)
      | refine J.box1 nofun rfl .none (.plain rfl) rfl (fun _ _ => ?_)
      | refine J.alloc nofun rfl .none (fun _ _ => ?_)
      | refine J.sto ?_
      | refine J.stoN ?_
      | refine J.lit (fun _ _ => ?_)
      | refine J.alt nofun ?_ ?_
      | exact J.stop
      | (refine J.weak (m' := Res.own 5 (Sl.none : Sl UInt8) :: []) (fun w hw => hw.own0 5) (fun h => h.trans (List.sublist_cons_self _ _)) ?_; refine J.apX (S := Sl.none) (T := a) (fun S' hS' hn => ?_))
      | refine J.fin ?_
      | refine G.seq ?_
      | refine G.region ?_
      | refine G.draw (by kernel_rfl) (by kernel_rfl) ?_
      | refine Fin.go ?_
      | refine G.condT ?_
      | refine G.condF ?_
      | (refine G.cond rfl (fun h => ?_) (fun h => ?_) <;> (have hp := h; try simp only [decide_eq_true_eq, decide_eq_false_iff_not, Bool.and_eq_true, Bool.or_eq_true, Bool.and_eq_false_iff, Bool.or_eq_false_iff, Bool.not_eq_true', Bool.not_eq_false'] at hp))
      | refine G.ret ?_
      | refine G.skip ?_
      | refine G.exit ?_
      | refine G.block ?_
      | refine Fin.resS Try.results36 ?_
      | refine Fin.resT Try.results36 ?_)
  all_goals first | exact fun w' hw => ⟨S', _, ⟨by simpa using hS', by simpa using hn⟩, rfl, hw.freeze⟩
end Go.Proofs.Ytdhhjhkonmacdaa
