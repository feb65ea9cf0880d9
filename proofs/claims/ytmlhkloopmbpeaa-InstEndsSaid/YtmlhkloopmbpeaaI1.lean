import Derived.Test.YtmlhkloopmbpeaaSa
import Derived.Test.YtmlhkloopmbpeaaTy
namespace Go.Proofs.Ytmlhkloopmbpeaa
open Go.RowKit
set_option linter.unusedSimpArgs false
set_option maxHeartbeats 4000000
set_option linter.unusedVariables false
attribute [local irreducible] QV EvU Wt J G Fin
/-! what the code computes -/
structure Inst where
  id : Int
  token : Int
  pool : Int
  weight : Int
  spot : Bool
  state : Int
  due : Int
  noticed : Bool
  kill : Int
  risk : Bool
  held : Bool
  version : Int
deriving Inhabited, DecidableEq
def Inst.cells (i : Inst) : List Value := [.int .u64 i.id, .int .u64 i.token, .int .i64 i.pool, .int .i64 i.weight, .bool i.spot, .int .u8 i.state, .int .u64 i.due, .bool i.noticed, .int .u64 i.kill, .bool i.risk, .bool i.held, .int .u32 i.version]
structure Cfg where
  drain : Int
  hookIn : Int
  hookOut : Int
  deadline : Int
def Cfg.cells (c : Cfg) : List Value := [.slice none 0 0, .int .u8 0, .int .i64 0, .bool false, .int .i64 0, .int .i64 0, .int .i64 0, .int .i64 0, .int .i64 0, .int .i64 0, .int .u64 c.drain, .int .u64 c.hookIn, .int .u64 c.hookOut, .int .u64 0, .int .u64 c.deadline, .int .u64 0, .bool false, .int .i64 0, .slice none 0 0, .slice none 0 0]
structure Row where
  state : Int
  due : Int
  timed : Bool
  ask : Int
def Row.cells (r : Row) : List Value := [.int .u8 r.state, .int .u64 r.due, .bool r.timed, .int .u8 r.ask]
def mayI (i : Inst) : Bool := !(decide (i.id < 1) || decide (4611686018427387904 < i.id) || decide (4611686018427387904 < i.token)) && !(decide (i.pool < 0) || decide (64 ≤ i.pool) || decide (i.weight < 1) || decide (100 < i.weight)) && !(decide (i.state < 1) || decide (9 < i.state)) && (decide (i.due ≤ 1099511758848) && decide (i.kill ≤ 1099511758848) && (i.noticed || decide (i.kill = 0)))
def spansOk (c : Cfg) : Bool := decide (imax (imax (imax c.hookIn c.hookOut) c.drain) c.deadline ≤ 65536)
def endR : Row := ⟨6, 0, false, 2⟩
def upR (c : Cfg) : Row := if 0 < c.hookIn then ⟨2, c.hookIn, true, 0⟩ else ⟨3, 0, false, 0⟩
def leftR (c : Cfg) : Row := if 0 < c.hookOut then ⟨5, c.hookOut, true, 0⟩ else endR
def rowsL (c : Cfg) : List ((Int × Int) × Row) := [((1, 1), upR c), ((9, 1), upR c), ((7, 1), ⟨7, c.deadline, true, 3⟩), ((7, 7), ⟨8, 0, false, 0⟩), ((3, 2), ⟨4, c.drain, true, 0⟩), ((3, 9), ⟨4, c.drain, true, 0⟩), ((2, 4), ⟨2, c.hookIn, true, 0⟩), ((5, 4), ⟨5, c.hookOut, true, 0⟩), ((2, 5), ⟨3, 0, false, 0⟩), ((2, 6), endR), ((5, 5), endR), ((5, 6), endR), ((8, 11), ⟨9, c.deadline, true, 4⟩), ((4, 8), leftR c)]
def staysF (i : Inst) (what now : Int) : Bool :=
  if what = 8 then decide (i.state = 3) || decide (i.state = 8) || decide (i.state = 6) || decide (now < i.due)
  else if what = 2 then decide (i.state = 4) || decide (i.state = 5)
  else if what = 3 then decide (i.state = 3)
  else if what = 4 then decide (i.state = 5) && i.noticed
  else false
theorem may_calls (i : Inst) (w : World) : Calls Try.prog 5 [.agg i.cells.toArray].toArray w fun e w' => e = .returned (.bool (mayI i)) ∧ Below w.heap.size w w' := by
  refine enter Try.func5 rfl Try.ntmps5 ?_
  repeat' (first
      | refine J.au ?_
      | refine J.ag ?_
      | refine J.boxA nofun rfl .none (.plain rfl) (fun _ _ => ?_)
      | refine J.box1 nofun rfl .none (.plain rfl) rfl (fun _ _ => ?_)
      | refine J.alloc nofun rfl .none (fun _ _ => ?_)
      | refine J.sto ?_
      | refine J.stoN ?_
      | refine J.lit (fun _ _ => ?_)
      | refine J.alt nofun ?_ ?_
      | exact J.stop
      | refine J.fin ?_
      | refine G.seq ?_
      | refine G.region ?_
      | refine G.draw (by kernel_rfl) (by kernel_rfl) ?_
      | refine Fin.go ?_
      | refine G.condT ?_
      | refine G.condF ?_
      | (refine G.cond rfl (fun h => ?_) (fun h => ?_) <;> (have hp := h; try simp only [decide_eq_true_eq, decide_eq_false_iff_not, Bool.and_eq_true, Bool.or_eq_true, Bool.and_eq_false_iff, Bool.or_eq_false_iff, Bool.not_eq_true', Bool.not_eq_false'] at hp))
      | refine G.ret ?_
      | refine G.skip ?_
      | refine G.exit ?_
      | refine G.block ?_
      | refine Fin.to (Fin.ret1 Try.results5 rfl ?_))
  all_goals exact fun w' hw => ⟨by simp [mayI, *], hw.out⟩
theorem end_calls (w : World) : Calls Try.prog 15 [].toArray w fun e w' => e = .returned (.agg endR.cells.toArray) ∧ Below w.heap.size w w' := by
  refine enter Try.func15 rfl Try.ntmps15 ?_
  repeat' (first
      | refine J.au ?_
      | refine J.ag ?_
      | refine J.boxA nofun rfl .none (.plain rfl) (fun _ _ => ?_)
      | refine J.box1 nofun rfl .none (.plain rfl) rfl (fun _ _ => ?_)
      | refine J.alloc nofun rfl .none (fun _ _ => ?_)
      | refine J.sto ?_
      | refine J.stoN ?_
      | refine J.lit (fun _ _ => ?_)
      | refine J.alt nofun ?_ ?_
      | exact J.stop
      | refine J.fin ?_
      | refine G.seq ?_
      | refine G.region ?_
      | refine G.draw (by kernel_rfl) (by kernel_rfl) ?_
      | refine Fin.go ?_
      | refine G.condT ?_
      | refine G.condF ?_
      | (refine G.cond rfl (fun h => ?_) (fun h => ?_) <;> (have hp := h; try simp only [decide_eq_true_eq, decide_eq_false_iff_not, Bool.and_eq_true, Bool.or_eq_true, Bool.and_eq_false_iff, Bool.or_eq_false_iff, Bool.not_eq_true', Bool.not_eq_false'] at hp))
      | refine G.ret ?_
      | refine G.skip ?_
      | refine G.exit ?_
      | refine G.block ?_
      | refine Fin.resS Try.results15 ?_
      | refine Fin.resT Try.results15 ?_)
  all_goals exact fun w' hw => ⟨rfl, hw.out⟩
theorem up_calls (c : Cfg) (w : World) : Calls Try.prog 16 [.agg c.cells.toArray].toArray w fun e w' => e = .returned (.agg (upR c).cells.toArray) ∧ Below w.heap.size w w' := by
  refine enter Try.func16 rfl Try.ntmps16 ?_
  repeat' (first
      | refine J.au ?_
      | refine J.ag ?_
      | refine J.boxA nofun rfl .none (.plain rfl) (fun _ _ => ?_)
      | refine J.box1 nofun rfl .none (.plain rfl) rfl (fun _ _ => ?_)
      | refine J.alloc nofun rfl .none (fun _ _ => ?_)
      | refine J.sto ?_
      | refine J.stoN ?_
      | refine J.lit (fun _ _ => ?_)
      | refine J.alt nofun ?_ ?_
      | exact J.stop
      | refine J.fin ?_
      | refine G.seq ?_
      | refine G.region ?_
      | refine G.draw (by kernel_rfl) (by kernel_rfl) ?_
      | refine Fin.go ?_
      | refine G.condT ?_
      | refine G.condF ?_
      | (refine G.cond rfl (fun h => ?_) (fun h => ?_) <;> (have hp := h; try simp only [decide_eq_true_eq, decide_eq_false_iff_not, Bool.and_eq_true, Bool.or_eq_true, Bool.and_eq_false_iff, Bool.or_eq_false_iff, Bool.not_eq_true', Bool.not_eq_false'] at hp))
      | refine G.ret ?_
      | refine G.skip ?_
      | refine G.exit ?_
      | refine G.block ?_
      | refine Fin.resS Try.results16 ?_
      | refine Fin.resT Try.results16 ?_)
  all_goals exact fun w' hw => ⟨by simp [upR, hp]; rfl, hw.out⟩
theorem left_calls (c : Cfg) (w : World) : Calls Try.prog 17 [.agg c.cells.toArray].toArray w fun e w' => e = .returned (.agg (leftR c).cells.toArray) ∧ Below w.heap.size w w' := by
  refine enter Try.func17 rfl Try.ntmps17 ?_
  repeat' (first
      | refine J.au ?_
      | refine J.ag ?_
      | refine J.boxA nofun rfl .none (.plain rfl) (fun _ _ => ?_)
      | refine J.box1 nofun rfl .none (.plain rfl) rfl (fun _ _ => ?_)
      | refine J.alloc nofun rfl .none (fun _ _ => ?_)
      | refine J.sto ?_
      | refine J.stoN ?_
      | refine J.lit (fun _ _ => ?_)
      | refine J.alt nofun ?_ ?_
      | exact J.stop
      | refine J.call (fun w hw => end_calls w) ?_
      | refine J.fin ?_
      | refine G.seq ?_
      | refine G.region ?_
      | refine G.draw (by kernel_rfl) (by kernel_rfl) ?_
      | refine Fin.go ?_
      | refine G.condT ?_
      | refine G.condF ?_
      | (refine G.cond rfl (fun h => ?_) (fun h => ?_) <;> (have hp := h; try simp only [decide_eq_true_eq, decide_eq_false_iff_not, Bool.and_eq_true, Bool.or_eq_true, Bool.and_eq_false_iff, Bool.or_eq_false_iff, Bool.not_eq_true', Bool.not_eq_false'] at hp))
      | refine G.ret ?_
      | refine G.skip ?_
      | refine G.exit ?_
      | refine G.block ?_
      | refine Fin.resS Try.results17 ?_
      | refine Fin.resT Try.results17 ?_)
  all_goals exact fun w' hw => ⟨by simp [leftR, hp]; rfl, hw.out⟩
theorem spans_calls (c : Cfg) (w : World) : Calls Try.prog 11 [.agg c.cells.toArray].toArray w fun e w' => e = .returned (.bool (spansOk c)) ∧ Below w.heap.size w w' := by
  refine enter Try.func11 rfl Try.ntmps11 ?_
  repeat' (first
      | refine J.au ?_
      | refine J.ag ?_
      | refine J.boxA nofun rfl .none (.plain rfl) (fun _ _ => ?_)
      | refine J.box1 nofun rfl .none (.plain rfl) rfl (fun _ _ => ?_)
      | refine J.alloc nofun rfl .none (fun _ _ => ?_)
      | refine J.sto ?_
      | refine J.stoN ?_
      | refine J.lit (fun _ _ => ?_)
      | refine J.alt nofun ?_ ?_
      | exact J.stop
      | refine J.fin ?_
      | refine G.seq ?_
      | refine G.region ?_
      | refine G.draw (by kernel_rfl) (by kernel_rfl) ?_
      | refine Fin.go ?_
      | refine G.condT ?_
      | refine G.condF ?_
      | (refine G.cond rfl (fun h => ?_) (fun h => ?_) <;> (have hp := h; try simp only [decide_eq_true_eq, decide_eq_false_iff_not, Bool.and_eq_true, Bool.or_eq_true, Bool.and_eq_false_iff, Bool.or_eq_false_iff, Bool.not_eq_true', Bool.not_eq_false'] at hp))
      | refine G.ret ?_
      | refine G.skip ?_
      | refine G.exit ?_
      | refine G.block ?_
      | refine Fin.resS Try.results11 ?_
      | refine Fin.resT Try.results11 ?_)
  all_goals exact fun w' hw => ⟨rfl, hw.out⟩
theorem stays_calls (i : Inst) (what now : Int) (w : World) : Calls Try.prog 12 [.agg i.cells.toArray, .int .u8 what, .int .u64 now].toArray w fun e w' => e = .returned (.bool (staysF i what now)) ∧ Below w.heap.size w w' := by
  refine enter Try.func12 rfl Try.ntmps12 ?_
  repeat' (first
      | refine J.au ?_
      | refine J.ag ?_
      | refine J.boxA nofun rfl .none (.plain rfl) (fun _ _ => ?_)
      | refine J.box1 nofun rfl .none (.plain rfl) rfl (fun _ _ => ?_)
      | refine J.alloc nofun rfl .none (fun _ _ => ?_)
      | refine J.sto ?_
      | refine J.stoN ?_
      | refine J.lit (fun _ _ => ?_)
      | refine J.alt nofun ?_ ?_
      | exact J.stop
      | refine J.fin ?_
      | refine G.seq ?_
      | refine G.region ?_
      | refine G.draw (by kernel_rfl) (by kernel_rfl) ?_
      | refine Fin.go ?_
      | refine G.condT ?_
      | refine G.condF ?_
      | (refine G.cond rfl (fun h => ?_) (fun h => ?_) <;> (have hp := h; try simp only [decide_eq_true_eq, decide_eq_false_iff_not, Bool.and_eq_true, Bool.or_eq_true, Bool.and_eq_false_iff, Bool.or_eq_false_iff, Bool.not_eq_true', Bool.not_eq_false'] at hp))
      | refine G.ret ?_
      | refine G.skip ?_
      | refine G.exit ?_
      | refine G.block ?_
      | refine Fin.resS Try.results12 ?_
      | refine Fin.resT Try.results12 ?_)
  all_goals first | exact fun w' hw => ⟨by simp [staysF, *], hw.out⟩ | skip
theorem serves_calls (i : Inst) (w : World) : Calls Try.prog 6 [.agg i.cells.toArray].toArray w fun e w' => e = .returned (.bool (decide (i.state = 3))) ∧ Below w.heap.size w w' := by
  refine enter Try.func6 rfl Try.ntmps6 ?_
  repeat' (first
      | refine J.au ?_
      | refine J.ag ?_
      | refine J.boxA nofun rfl .none (.plain rfl) (fun _ _ => ?_)
      | refine J.box1 nofun rfl .none (.plain rfl) rfl (fun _ _ => ?_)
      | refine J.alloc nofun rfl .none (fun _ _ => ?_)
      | refine J.sto ?_
      | refine J.stoN ?_
      | refine J.lit (fun _ _ => ?_)
      | refine J.alt nofun ?_ ?_
      | exact J.stop
      | refine J.fin ?_
      | refine G.seq ?_
      | refine G.region ?_
      | refine G.draw (by kernel_rfl) (by kernel_rfl) ?_
      | refine Fin.go ?_
      | refine G.condT ?_
      | refine G.condF ?_
      | (refine G.cond rfl (fun h => ?_) (fun h => ?_) <;> (have hp := h; try simp only [decide_eq_true_eq, decide_eq_false_iff_not, Bool.and_eq_true, Bool.or_eq_true, Bool.and_eq_false_iff, Bool.or_eq_false_iff, Bool.not_eq_true', Bool.not_eq_false'] at hp))
      | refine G.ret ?_
      | refine G.skip ?_
      | refine G.exit ?_
      | refine G.block ?_
      | refine Fin.resS Try.results6 ?_
      | refine Fin.resT Try.results6 ?_)
  all_goals exact fun w' hw => ⟨rfl, hw.out⟩
theorem comes_calls (i : Inst) (w : World) : Calls Try.prog 9 [.agg i.cells.toArray].toArray w fun e w' => e = .returned (.bool (decide (i.state = 1) || decide (i.state = 2) || decide (i.state = 9))) ∧ Below w.heap.size w w' := by
  refine enter Try.func9 rfl Try.ntmps9 ?_
  repeat' (first
      | refine J.au ?_
      | refine J.ag ?_
      | refine J.boxA nofun rfl .none (.plain rfl) (fun _ _ => ?_)
      | refine J.box1 nofun rfl .none (.plain rfl) rfl (fun _ _ => ?_)
      | refine J.alloc nofun rfl .none (fun _ _ => ?_)
      | refine J.sto ?_
      | refine J.stoN ?_
      | refine J.lit (fun _ _ => ?_)
      | refine J.alt nofun ?_ ?_
      | exact J.stop
      | refine J.fin ?_
      | refine G.seq ?_
      | refine G.region ?_
      | refine G.draw (by kernel_rfl) (by kernel_rfl) ?_
      | refine Fin.go ?_
      | refine G.condT ?_
      | refine G.condF ?_
      | (refine G.cond rfl (fun h => ?_) (fun h => ?_) <;> (have hp := h; try simp only [decide_eq_true_eq, decide_eq_false_iff_not, Bool.and_eq_true, Bool.or_eq_true, Bool.and_eq_false_iff, Bool.or_eq_false_iff, Bool.not_eq_true', Bool.not_eq_false'] at hp))
      | refine G.ret ?_
      | refine G.skip ?_
      | refine G.exit ?_
      | refine G.block ?_
      | refine Fin.resS Try.results9 ?_
      | refine Fin.resT Try.results9 ?_)
  all_goals exact fun w' hw => ⟨rfl, hw.out⟩
theorem conf_calls (w : World) : Calls Try.prog 10 [].toArray w fun e w' => e = .returned (.agg (Cfg.cells ⟨2, 0, 3, 9⟩).toArray) ∧ Below w.heap.size w w' := by
  refine enter Try.func10 rfl Try.ntmps10 ?_
  repeat' (first
      | refine J.au ?_
      | refine J.ag ?_
      | refine J.boxA nofun rfl .none (.plain rfl) (fun _ _ => ?_)
      | refine J.box1 nofun rfl .none (.plain rfl) rfl (fun _ _ => ?_)
      | refine J.alloc nofun rfl .none (fun _ _ => ?_)
      | refine J.sto ?_
      | refine J.stoN ?_
      | refine J.lit (fun _ _ => ?_)
      | refine J.alt nofun ?_ ?_
      | exact J.stop
      | refine J.fin ?_
      | refine G.seq ?_
      | refine G.region ?_
      | refine G.draw (by kernel_rfl) (by kernel_rfl) ?_
      | refine Fin.go ?_
      | refine G.condT ?_
      | refine G.condF ?_
      | (refine G.cond rfl (fun h => ?_) (fun h => ?_) <;> (have hp := h; try simp only [decide_eq_true_eq, decide_eq_false_iff_not, Bool.and_eq_true, Bool.or_eq_true, Bool.and_eq_false_iff, Bool.or_eq_false_iff, Bool.not_eq_true', Bool.not_eq_false'] at hp))
      | refine G.ret ?_
      | refine G.skip ?_
      | refine G.exit ?_
      | refine G.block ?_
      | refine Fin.resS Try.results10 ?_
      | refine Fin.resT Try.results10 ?_)
  all_goals exact fun w' hw => ⟨rfl, hw.out⟩
end Go.Proofs.Ytmlhkloopmbpeaa
