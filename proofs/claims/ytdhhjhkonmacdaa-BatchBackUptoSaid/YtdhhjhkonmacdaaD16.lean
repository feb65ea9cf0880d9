/- batch: Apply. -/
import Derived.Test.YtdhhjhkonmacdaaD15
namespace Go.Proofs.Ytdhhjhkonmacdaa
open Go.RowKit
set_option linter.unusedSimpArgs false
set_option maxHeartbeats 4000000
set_option linter.unusedVariables false
attribute [local irreducible] QV EvU Wt J G Fin
/-- Apply's answer: the rows as pairs, the error. -/
def applyS (S : List RowD) (T : List Chg) : List (ByteArray × List UInt8) × Int := if !mayR S || !mayC T then ([], 2) else (mergeC S T, 0)
theorem apply_gives (S : Sl RowD) (T : Sl Chg) (w : World) (hS : Dp.deep S w) (hT : Dp.deep T w) (va : ∀ x ∈ S.l, x.val.l.length ≤ 140737488355328) (vb : ∀ x ∈ T.l, x.val.l.length ≤ 140737488355328) (hl : S.l.length ≤ 140737488355328) (hl2 : T.l.length ≤ 140737488355328) (hlen : S.l.length + T.l.length ≤ 1099511627776) :
    Gives Try.prog 13 [S.v, T.v] w (fun x : Sl RowD => x.l.map pr = (applyS S.l T.l).1) (fun x => .tuple #[x.v, .int .i64 (applyS S.l T.l).2]) := by
  haveI oS := Old.of hS
  haveI oT := Old.of hT
  refine enter Try.func13 rfl Try.ntmps13 ?_
  repeat' (first
      | refine J.bu ?_
      | refine J.bg ?_
      | refine J.boxA nofun rfl .none (.plain rfl) (fun _ _ => ?_)
      | refine J.box1 nofun rfl .none (.plain rfl) rfl (fun _ _ => ?_)
      | refine J.alloc nofun rfl .none (fun _ _ => ?_)
      | refine J.sto ?_
      | refine J.stoN ?_
      | refine J.lit (fun _ _ => ?_)
      | refine J.alt nofun ?_ ?_
      | exact J.stop
      | refine G.condTh ?_
      | refine G.condFh ?_
      | refine J.call (fun w' hw => may_calls S w' (Kn.get hw) hl) ?_
      | refine J.callgc (fun _ w' hw => mayc_calls T w' (Kn.get hw) hl2) ?_
      | refine J.fin ?_
      | refine G.seq ?_
      | refine G.region ?_
      | refine G.draw (by kernel_rfl) (by kernel_rfl) ?_
      | refine Fin.go ?_
      | refine G.condT ?_
      | refine G.condF ?_
      | (refine G.cond rfl (fun h => ?_) (fun h => ?_) <;> (have hp := h; try simp only [decide_eq_true_eq, decide_eq_false_iff_not, Bool.and_eq_true, Bool.or_eq_true, Bool.and_eq_false_iff, Bool.or_eq_false_iff, Bool.not_eq_true', Bool.not_eq_false'] at hp))
      | refine G.ret ?_
      | refine G.skip ?_
      | refine G.exit ?_
      | refine G.block ?_
      | refine Fin.resS Try.results13 ?_
      | refine Fin.resT Try.results13 ?_)
  · exact fun w' hw => ⟨Sl.none, [], by simp_all [applyS], by simp_all [applyS], hw.add0 (fun w => Sl.none_deep w)⟩
  · rename_i g hg
    refine J.weak (m' := MA g Sl.none []) (fun w' hw0 => by
      have hw : Mem w [] [.blk g (.cells [(Sl.none : Sl RowD).v].toArray 34 (0, 0))] w' := hw0
      exact ((((hw.own0 (α := RowD) 59).add0 (Φ := Dp.deep ([] : List RowD)) (fun w x hx => absurd hx List.not_mem_nil)).front (Res.own 59 (Sl.none : Sl RowD))).front (.blk g (.cells [(Sl.none : Sl RowD).v].toArray 34 (0, 0))))) (fun _ => List.nil_sublist _) ?_
    refine J.cW (m1 := MA g Sl.none []) (m1' := fun q : { q : Sl RowD × List Nat // q.1.l.map pr = (Sl.none : Sl RowD).l.map pr ++ mergeC S.l T.l } => MA g q.1.1 q.1.2) (fun w' hw hm => both_calls S T g Sl.none [] w' hm (oS.now hw) (oT.now hw) va vb (by simpa using hlen)) (fun q => ?_)
    repeat' (first
        | refine J.bu ?_
        | refine J.bg ?_
        | refine J.boxA nofun rfl .none (.plain rfl) (fun _ _ => ?_)
        | refine J.box1 nofun rfl .none (.plain rfl) rfl (fun _ _ => ?_)
        | refine J.alloc nofun rfl .none (fun _ _ => ?_)
        | refine J.sto ?_
        | refine J.stoN ?_
        | refine J.lit (fun _ _ => ?_)
        | refine J.alt nofun ?_ ?_
        | exact J.stop
        | refine J.fin ?_
        | refine G.seq ?_
        | refine G.region ?_
        | refine G.draw (by kernel_rfl) (by kernel_rfl) ?_
        | refine Fin.go ?_
        | refine G.condT ?_
        | refine G.condF ?_
        | (refine G.cond rfl (fun h => ?_) (fun h => ?_) <;> (have hp := h; try simp only [decide_eq_true_eq, decide_eq_false_iff_not, Bool.and_eq_true, Bool.or_eq_true, Bool.and_eq_false_iff, Bool.or_eq_false_iff, Bool.not_eq_true', Bool.not_eq_false'] at hp))
        | refine G.ret ?_
        | refine G.skip ?_
        | refine G.exit ?_
        | refine G.block ?_
        | refine Fin.resS Try.results13 ?_
        | refine Fin.resT Try.results13 ?_)
    exact fun w' hw => ⟨q.1.1, _, by simpa [applyS, hp] using q.2, by simp [applyS, hp], Mem.freezeN (hw.forget (m' := [Res.own 59 q.1.1, .held q.1.2 (Dp.deep q.1.1.l)]) (by repeat (first | exact List.Sublist.refl _ | exact List.nil_sublist _ | apply List.Sublist.cons_cons | apply List.Sublist.cons)))⟩
end Go.Proofs.Ytdhhjhkonmacdaa
