import Derived.Test.YtmlhkloopmbpeaaI3
namespace Go.Proofs.Ytmlhkloopmbpeaa
open Go.RowKit
set_option linter.unusedSimpArgs false
set_option maxHeartbeats 4000000
set_option linter.unusedVariables false
attribute [local irreducible] QV EvU Wt J G Fin
def doF (i : Inst) (what now at_ : Int) (c : Cfg) : Inst × Int × Int :=
  if (!mayI i || decide (what < 1) || decide (11 < what) || decide (1099511627776 < now) || decide (1099511627776 < at_) || !spansOk c) = true then (i, 0, 2)
  else if (!staysF i what now && !(findF i what c).2) = true then (i, 0, 12)
  else
    let i1 := if what = 2 then { i with noticed := true, kill := at_ } else if what = 3 then { i with risk := true } else i
    if staysF i what now = true then (i1, 0, 0)
    else ({ i1 with state := (findF i what c).1.state, due := if (findF i what c).1.timed = true then IntKind.u64.wrap (now + (findF i what c).1.due) else 0 }, (findF i what c).1.ask, 0)
theorem do_calls (i : Inst) (what now at_ : Int) (c : Cfg) (w : World) : Calls Try.prog 8 [.agg i.cells.toArray, .int .u8 what, .int .u64 now, .int .u64 at_, .agg c.cells.toArray].toArray w fun e w' => e = .returned (.tuple #[.agg (doF i what now at_ c).1.cells.toArray, .int .u8 (doF i what now at_ c).2.1, .int .i64 (doF i what now at_ c).2.2]) ∧ Below w.heap.size w w' := by
  refine enter Try.func8 rfl Try.ntmps8 ?_
  repeat' (first
      | refine J.au ?_
      | refine J.ag ?_
      | refine J.boxA nofun rfl .none (.plain rfl) (fun _ _ => ?_)
      | refine J.box1 nofun rfl .none (.plain rfl) rfl (fun _ _ => ?_)
      | refine J.alloc nofun rfl .none (fun _ _ => ?_)
      | refine J.sto ?_
      | refine J.stoN ?_
      | refine J.lit (fun _ _ => ?_)
      | refine J.alt nofun ?_ ?_
      | exact J.stop
      | refine G.drawsD (id := 17) (.op .q 0 (.op .q 1 (.op .q 2 (.op .a 3 (.op .q 4 (.op .q 5 .nil)))))) [10] (by kernel_rfl) (by kernel_rfl) ?_
      | refine J.callg (fun w _ => may_calls i w) ?_
      | refine J.callg (fun w _ => spans_calls c w) ?_
      | refine J.call (fun w _ => may_calls i w) ?_
      | refine J.call (fun w _ => stays_calls i what now w) ?_
      | refine J.call (fun w _ => find_calls i what c w) ?_
      | refine J.fin ?_
      | refine G.seq ?_
      | refine G.region ?_
      | refine G.draw (by kernel_rfl) (by kernel_rfl) ?_
      | refine Fin.go ?_
      | refine G.condT ?_
      | refine G.condF ?_
      | (refine G.cond rfl (fun h => ?_) (fun h => ?_) <;> (have hp := h; try simp only [decide_eq_true_eq, decide_eq_false_iff_not, Bool.and_eq_true, Bool.or_eq_true, Bool.and_eq_false_iff, Bool.or_eq_false_iff, Bool.not_eq_true', Bool.not_eq_false'] at hp))
      | refine G.ret ?_
      | refine G.skip ?_
      | refine G.exit ?_
      | refine G.block ?_
      | refine Fin.resS Try.results8 ?_
      | refine Fin.resT Try.results8 ?_)
  all_goals first | exact fun w' hw => ⟨by clear hw; subst_vars; first | (simp [doF, Inst.cells, *]; done) | (simp_all only [Bool.not_false, Bool.true_and, Bool.not_eq_false', false_or, Bool.false_eq_true]; simp [doF, Inst.cells, *]; done), hw.out⟩
end Go.Proofs.Ytmlhkloopmbpeaa
