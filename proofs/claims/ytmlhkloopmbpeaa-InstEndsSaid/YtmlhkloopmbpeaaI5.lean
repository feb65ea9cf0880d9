import Derived.Test.YtmlhkloopmbpeaaI4
namespace Go.Proofs.Ytmlhkloopmbpeaa
open Go.RowKit
set_option linter.unusedSimpArgs false
set_option maxHeartbeats 4000000
set_option linter.unusedVariables false
attribute [local irreducible] QV EvU Wt J G Fin
def C0 : Cfg := ⟨2, 0, 3, 9⟩
def I0 : Inst := ⟨1, 0, 0, 1, false, 3, 0, false, 0, false, false, 0⟩
def Ia : Inst := ⟨1, 0, 0, 1, false, 4, 7, true, 99, false, false, 0⟩
def Ic : Inst := ⟨1, 0, 0, 1, false, 5, 10, true, 99, false, false, 0⟩
def Id : Inst := ⟨1, 0, 0, 1, false, 6, 0, true, 99, false, false, 0⟩
theorem e1 : doF I0 2 5 99 C0 = (Ia, 0, 0) := by decide
theorem e2 : doF Ia 8 6 0 C0 = (Ia, 0, 0) := by decide
theorem e3 : doF Ia 8 7 0 C0 = (Ic, 0, 0) := by decide
theorem e4 : doF Ic 5 8 0 C0 = (Id, 2, 0) := by decide
theorem e5 : doF Id 1 9 0 C0 = (Id, 0, 12) := by decide
theorem do_lit {i j : Inst} {what now at_ ask e : Int} (h : doF i what now at_ C0 = (j, ask, e)) (w : World) : Calls Try.prog 8 [.agg i.cells.toArray, .int .u8 what, .int .u64 now, .int .u64 at_, .agg C0.cells.toArray].toArray w fun en w' => en = .returned (.tuple #[.agg j.cells.toArray, .int .u8 ask, .int .i64 e]) ∧ Below w.heap.size w w' := by
  have := do_calls i what now at_ C0 w
  rw [h] at this
  exact this
theorem lives_calls (w : World) : Calls Try.prog 7 [].toArray w fun e w' => e = .returned (.bool true) ∧ Below w.heap.size w w' := by
  refine enter Try.func7 rfl Try.ntmps7 ?_
  repeat' (first
      | refine J.au ?_
      | refine J.ag ?_
      | refine J.boxA nofun rfl .none (.plain rfl) (fun _ _ => ?_)
      | refine J.box1 nofun rfl .none (.plain rfl) rfl (fun _ _ => ?_)
      | refine J.alloc nofun rfl .none (fun _ _ => ?_)
      | refine J.sto ?_
      | refine J.stoN ?_
      | refine J.lit (fun _ _ => ?_)
      | refine J.alt nofun ?_ ?_
      | exact J.stop
      | refine G.drawsD (id := 2) (.op .q 0 (.op .q 1 (.op .q 2 (.op .q 3 (.op .q 4 (.op .q 5 (.op .q 6 (.op .a 7 (.op .a 8 (.op .q 9 (.op .q 10 .nil))))))))))) [2] (by kernel_rfl) (by kernel_rfl) ?_
      | refine G.drawsD (id := 3) (.op .q 0 (.op .q 1 (.op .q 2 (.op .q 3 (.op .q 4 (.op .q 5 (.op .q 6 (.op .a 7 (.op .a 8 (.op .q 9 (.op .q 10 .nil))))))))))) [5] (by kernel_rfl) (by kernel_rfl) ?_
      | refine G.drawsD (id := 4) (.op .q 0 (.op .q 1 (.op .q 2 (.op .q 3 (.op .q 4 (.op .q 5 (.op .q 6 (.op .a 7 (.op .a 8 (.op .q 9 (.op .q 10 .nil))))))))))) [8] (by kernel_rfl) (by kernel_rfl) ?_
      | refine G.drawsD (id := 5) (.op .q 0 (.op .q 1 (.op .q 2 (.op .q 3 (.op .q 4 (.op .q 5 (.op .q 6 (.op .a 7 (.op .a 8 (.op .q 9 (.op .q 10 .nil))))))))))) [11] (by kernel_rfl) (by kernel_rfl) ?_
      | refine G.drawsD (id := 6) (.op .q 0 (.op .q 1 (.op .q 2 (.op .q 3 (.op .q 4 (.op .q 5 (.op .q 6 (.op .a 7 (.op .a 8 (.op .q 9 (.op .q 10 .nil))))))))))) [14] (by kernel_rfl) (by kernel_rfl) ?_
      | refine J.call (fun w _ => conf_calls w) ?_
      | refine J.call (fun w _ => do_lit e1 w) ?_
      | refine J.call (fun w _ => do_lit e2 w) ?_
      | refine J.call (fun w _ => do_lit e3 w) ?_
      | refine J.call (fun w _ => do_lit e4 w) ?_
      | refine J.call (fun w _ => do_lit e5 w) ?_
      | refine J.fin ?_
      | refine G.seq ?_
      | refine G.region ?_
      | refine G.draw (by kernel_rfl) (by kernel_rfl) ?_
      | refine Fin.go ?_
      | refine G.condT ?_
      | refine G.condF ?_
      | (refine G.cond rfl (fun h => ?_) (fun h => ?_) <;> (have hp := h; try simp only [decide_eq_true_eq, decide_eq_false_iff_not, Bool.and_eq_true, Bool.or_eq_true, Bool.and_eq_false_iff, Bool.or_eq_false_iff, Bool.not_eq_true', Bool.not_eq_false'] at hp))
      | refine G.ret ?_
      | refine G.skip ?_
      | refine G.exit ?_
      | refine G.block ?_
      | refine Fin.resS Try.results7 ?_
      | refine Fin.resT Try.results7 ?_)
  all_goals first | exact fun w' hw => ⟨by simp [Ia, Ic, Id], hw.out⟩
end Go.Proofs.Ytmlhkloopmbpeaa
