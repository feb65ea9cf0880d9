import Derived.Test.YtmlhkloopmbpeaaI2
namespace Go.Proofs.Ytmlhkloopmbpeaa
open Go.RowKit
set_option linter.unusedSimpArgs false
set_option maxHeartbeats 4000000
set_option linter.unusedVariables false
attribute [local irreducible] QV EvU Wt J G Fin
def idle (i : Inst) : Bool := decide (i.state = 1) || decide (i.state = 2) || decide (i.state = 7) || decide (i.state = 9)
def findF (i : Inst) (what : Int) (c : Cfg) : Row × Bool :=
  match rowAt c i.state what with
  | some r => (r, true)
  | none =>
    if what = 10 ∨ what = 2 then (endR, idle i || decide (i.state = 8))
    else if what = 8 then (endR, idle i || decide (i.state = 5))
    else (⟨0, 0, false, 0⟩, false)
theorem find_calls (i : Inst) (what : Int) (c : Cfg) (w : World) : Calls Try.prog 13 [.agg i.cells.toArray, .int .u8 what, .agg c.cells.toArray].toArray w fun e w' => e = .returned (.tuple #[.agg (findF i what c).1.cells.toArray, .bool (findF i what c).2]) ∧ Below w.heap.size w w' := by
  have hf := rows_found c i.state what
  have hk := keys_ok c
  cases hr : rowAt c i.state what with
  | some r =>
    rw [hr] at hf
    refine enter Try.func13 rfl Try.ntmps13 ?_
    repeat' (first
        | refine J.au ?_
        | refine J.ag ?_
        | refine J.boxA nofun rfl .none (.plain rfl) (fun _ _ => ?_)
        | refine J.box1 nofun rfl .none (.plain rfl) rfl (fun _ _ => ?_)
        | refine J.alloc nofun rfl .none (fun _ _ => ?_)
        | refine J.sto ?_
        | refine J.stoN ?_
        | refine J.lit (fun _ _ => ?_)
        | refine J.alt nofun ?_ ?_
        | exact J.stop
        | refine G.drawsD (id := 1) (.op .q 0 (.op .q 2 (.op .q 3 (.op .q 4 (.op .q 5 (.alt .h 1 (.op .q 6 (.op .q 7 (.op .q 8 (.op .q 9 (.op .a 10 (.op .a 11 (.op .q 12 .nil))))))) (.alt .a 10 (.op .h 1 (.op .q 6 (.op .q 7 (.op .q 8 (.op .q 9 (.op .a 11 (.op .q 12 .nil))))))) .stop))))))) [8] (by kernel_rfl) (by kernel_rfl) ?_
        | refine G.drawsD (id := 6) (.op .q 0 (.op .q 1 (.op .q 2 (.op .q 3 (.op .q 4 (.op .q 5 (.op .q 6 (.op .a 7 (.op .q 8 .nil))))))))) [6] (by kernel_rfl) (by kernel_rfl) ?_
        | refine G.drawsD (id := 8) (.op .q 0 (.op .q 1 (.op .q 2 (.op .q 3 (.op .q 4 (.op .q 5 (.op .q 6 (.op .a 7 (.op .q 8 .nil))))))))) [6] (by kernel_rfl) (by kernel_rfl) ?_
        | refine J.callN (r := fun gg => .map (some gg)) (n := fun gg => [.mp gg (rowsV c)]) (fun w hw => rows_calls c w) (fun gg hgg => ?_)
        | refine J.lookS hf hk ⟨_, _, rfl⟩ ?_
        | refine J.call (fun w hw => end_calls w) ?_
        | refine J.fin ?_
        | refine G.seq ?_
        | refine G.region ?_
        | refine G.draw (by kernel_rfl) (by kernel_rfl) ?_
        | refine Fin.go ?_
        | refine G.condT ?_
        | refine G.condF ?_
        | (refine G.cond rfl (fun h => ?_) (fun h => ?_) <;> (have hp := h; try simp only [decide_eq_true_eq, decide_eq_false_iff_not, Bool.and_eq_true, Bool.or_eq_true, Bool.and_eq_false_iff, Bool.or_eq_false_iff, Bool.not_eq_true', Bool.not_eq_false'] at hp))
        | refine G.ret ?_
        | refine G.skip ?_
        | refine G.exit ?_
        | refine G.block ?_
        | refine Fin.resS Try.results13 ?_
        | refine Fin.resT Try.results13 ?_)
    all_goals first | exact fun w' hw => ⟨by simp [findF, hr, rowV, idle, Row.cells, endR, *], hw.out⟩
  | none =>
    rw [hr] at hf
    have hF : findF i what c = if what = 10 ∨ what = 2 then (endR, idle i || decide (i.state = 8)) else if what = 8 then (endR, idle i || decide (i.state = 5)) else (⟨0, 0, false, 0⟩, false) := by simp only [findF, hr]
    clear hr
    refine enter Try.func13 rfl Try.ntmps13 ?_
    repeat' (first
        | refine J.au ?_
        | refine J.ag ?_
        | refine J.boxA nofun rfl .none (.plain rfl) (fun _ _ => ?_)
        | refine J.box1 nofun rfl .none (.plain rfl) rfl (fun _ _ => ?_)
        | refine J.alloc nofun rfl .none (fun _ _ => ?_)
        | refine J.sto ?_
        | refine J.stoN ?_
        | refine J.lit (fun _ _ => ?_)
        | refine J.alt nofun ?_ ?_
        | exact J.stop
        | refine G.drawsD (id := 1) (.op .q 0 (.op .q 2 (.op .q 3 (.op .q 4 (.op .q 5 (.alt .h 1 (.op .q 6 (.op .q 7 (.op .q 8 (.op .q 9 (.op .a 10 (.op .a 11 (.op .q 12 .nil))))))) (.alt .a 10 (.op .h 1 (.op .q 6 (.op .q 7 (.op .q 8 (.op .q 9 (.op .a 11 (.op .q 12 .nil))))))) .stop))))))) [8] (by kernel_rfl) (by kernel_rfl) ?_
        | refine G.drawsD (id := 6) (.op .q 0 (.op .q 1 (.op .q 2 (.op .q 3 (.op .q 4 (.op .q 5 (.op .q 6 (.op .a 7 (.op .q 8 .nil))))))))) [6] (by kernel_rfl) (by kernel_rfl) ?_
        | refine G.drawsD (id := 8) (.op .q 0 (.op .q 1 (.op .q 2 (.op .q 3 (.op .q 4 (.op .q 5 (.op .q 6 (.op .a 7 (.op .q 8 .nil))))))))) [6] (by kernel_rfl) (by kernel_rfl) ?_
        | refine J.callN (r := fun gg => .map (some gg)) (n := fun gg => [.mp gg (rowsV c)]) (fun w hw => rows_calls c w) (fun gg hgg => ?_)
        | refine J.lookN hf hk ⟨_, _, rfl⟩ ?_
        | refine J.call (fun w hw => end_calls w) ?_
        | refine J.fin ?_
        | refine G.seq ?_
        | refine G.region ?_
        | refine G.draw (by kernel_rfl) (by kernel_rfl) ?_
        | refine Fin.go ?_
        | refine G.condT ?_
        | refine G.condF ?_
        | (refine G.cond rfl (fun h => ?_) (fun h => ?_) <;> (have hp := h; try simp only [decide_eq_true_eq, decide_eq_false_iff_not, Bool.and_eq_true, Bool.or_eq_true, Bool.and_eq_false_iff, Bool.or_eq_false_iff, Bool.not_eq_true', Bool.not_eq_false'] at hp))
        | refine G.ret ?_
        | refine G.skip ?_
        | refine G.exit ?_
        | refine G.block ?_
        | refine Fin.resS Try.results13 ?_
        | refine Fin.resT Try.results13 ?_)
    all_goals first | exact fun w' hw => ⟨by rw [hF]; simp [idle, Row.cells, endR, *], hw.out⟩
end Go.Proofs.Ytmlhkloopmbpeaa
