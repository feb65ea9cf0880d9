/- batch: may changes. -/
import Derived.Test.YtdhhjhkonmacdaaD4
namespace Go.Proofs.Ytdhhjhkonmacdaa
open Go.RowKit
set_option linter.unusedSimpArgs false
set_option maxHeartbeats 4000000
set_option linter.unusedVariables false
attribute [local irreducible] QV EvU Wt J G Fin
def bare (x : Chg) : Bool := x.gone && decide (0 < x.val.l.length)
theorem bare_calls (x : Chg) (w : World) : Calls Try.prog 23 [.agg x.cells.toArray].toArray w fun e w' => e = .returned (.bool (bare x)) ∧ Below w.heap.size w w' := by
  refine enter Try.func23 rfl Try.ntmps23 ?_
  repeat' (first
      | refine J.bu ?_
      | refine J.bg ?_
      | refine J.boxA nofun rfl .none (.plain rfl) (fun _ _ => ?_)
      | refine J.box1 nofun rfl .none (.plain rfl) rfl (fun _ _ => ?_)
      | refine J.alloc nofun rfl .none (fun _ _ => ?_)
      | refine J.sto ?_
      | refine J.stoN ?_
      | refine J.lit (fun _ _ => ?_)
      | refine J.alt nofun ?_ ?_
      | exact J.stop
      | refine J.fin ?_
      | refine G.seq ?_
      | refine G.region ?_
      | refine G.draw (by kernel_rfl) (by kernel_rfl) ?_
      | refine Fin.go ?_
      | refine G.condT ?_
      | refine G.condF ?_
      | (refine G.cond rfl (fun h => ?_) (fun h => ?_) <;> (have hp := h; try simp only [decide_eq_true_eq, decide_eq_false_iff_not, Bool.and_eq_true, Bool.or_eq_true, Bool.and_eq_false_iff, Bool.or_eq_false_iff, Bool.not_eq_true', Bool.not_eq_false'] at hp))
      | refine G.ret ?_
      | refine G.skip ?_
      | refine G.exit ?_
      | refine G.block ?_
      | refine Fin.resS Try.results23 ?_
      | refine Fin.resT Try.results23 ?_)
  exact fun w' hw => ⟨by simp [bare], hw.out⟩
def idx (p : Chg → Bool) : List Chg → Nat → Int
  | [], _ => -1
  | x :: r, i => if p x then (i : Int) else idx p r (i + 1)
theorem idxc_calls (s : Sl Chg) (w : World) (hs : Dp.deep s w) (hl : s.l.length ≤ 140737488355328) : Calls Try.prog 48 [s.v, .func (.func 23) #[] #[]].toArray w fun e w' => e = .returned (.int .i64 (idx bare s.l 0)) ∧ Below w.heap.size w w' := by
  haveI := Old.of hs
  refine enter Try.func48 rfl Try.ntmps48 ?_
  repeat' (first
      | refine J.bu ?_
      | refine J.bg ?_
      | refine J.boxA nofun rfl .none (.plain rfl) (fun _ _ => ?_)
      | refine J.box1 nofun rfl .none (.plain rfl) rfl (fun _ _ => ?_)
      | refine J.alloc nofun rfl .none (fun _ _ => ?_)
      | refine J.sto ?_
      | refine J.stoN ?_
      | refine J.lit (fun _ _ => ?_)
      | refine J.alt nofun ?_ ?_
      | exact J.stop
      | refine J.fin ?_
      | refine G.seq ?_
      | refine G.region ?_
      | refine G.draw (by kernel_rfl) (by kernel_rfl) ?_
      | refine Fin.go ?_
      | refine G.condT ?_
      | refine G.condF ?_
      | (refine G.cond rfl (fun h => ?_) (fun h => ?_) <;> (have hp := h; try simp only [decide_eq_true_eq, decide_eq_false_iff_not, Bool.and_eq_true, Bool.or_eq_true, Bool.and_eq_false_iff, Bool.or_eq_false_iff, Bool.not_eq_true', Bool.not_eq_false'] at hp))
      | refine G.ret ?_
      | refine G.skip ?_
      | refine G.exit ?_
      | refine G.block ?_
      | refine Fin.resS Try.results48 ?_
      | refine Fin.resT Try.results48 ?_)
  refine G.loopA (0 : Nat) (fun i => [(8, .int .i64 (i : Nat)), (7, .int .i64 (s.l.length : Int)), (1, .func (.func 23) #[] #[]), (0, s.v)]) (fun _ => []) (fun i => i ≤ s.l.length ∧ idx bare s.l 0 = idx bare (s.l.drop i) i) (fun i => s.l.length - i) ⟨by omega, by simp⟩ ?_
  rintro i ⟨hi, hgo⟩
  repeat' (first
      | refine J.bu ?_
      | refine J.bg ?_
      | refine J.boxA nofun rfl .none (.plain rfl) (fun _ _ => ?_)
      | refine J.box1 nofun rfl .none (.plain rfl) rfl (fun _ _ => ?_)
      | refine J.alloc nofun rfl .none (fun _ _ => ?_)
      | refine J.sto ?_
      | refine J.stoN ?_
      | refine J.lit (fun _ _ => ?_)
      | refine J.alt nofun ?_ ?_
      | exact J.stop
      | refine J.call (fun w _ => bare_calls (el s.l default i) w) ?_
      | refine J.fin ?_
      | refine G.seq ?_
      | refine G.region ?_
      | refine G.draw (by kernel_rfl) (by kernel_rfl) ?_
      | refine Fin.go ?_
      | refine G.condT ?_
      | refine G.condF ?_
      | (refine G.cond rfl (fun h => ?_) (fun h => ?_) <;> (have hp := h; try simp only [decide_eq_true_eq, decide_eq_false_iff_not, Bool.and_eq_true, Bool.or_eq_true, Bool.and_eq_false_iff, Bool.or_eq_false_iff, Bool.not_eq_true', Bool.not_eq_false'] at hp))
      | refine G.ret ?_
      | refine G.skip ?_
      | refine G.exit ?_
      | refine G.block ?_
      | refine Fin.resS Try.results48 ?_
      | refine Fin.resT Try.results48 ?_)
  · refine fun w' hw => ⟨?_, hw.out⟩
    rw [hgo, el_drop s.l default i (by omega)]
    simp [idx, hp]
  · refine Fin.again (i + 1) ⟨by omega, ?_⟩ (by omega)
    rw [hgo, el_drop s.l default i (by omega)]
    simp [idx, hp]
  · refine fun w' hw => ⟨?_, hw.out⟩
    rw [hgo, show i = s.l.length by omega]
    simp [idx]
theorem idx_neg (p : Chg → Bool) : ∀ (l : List Chg) (i : Nat), decide (0 ≤ idx p l i) = l.any p
  | [], i => by simp [idx]
  | x :: r, i => by
    by_cases h : p x
    · simp [idx, h]
    · simp [idx, h, idx_neg p r (i + 1)]
theorem anyc_calls (s : Sl Chg) (w : World) (hs : Dp.deep s w) (hl : s.l.length ≤ 140737488355328) : Calls Try.prog 22 [s.v, .func (.func 23) #[] #[]].toArray w fun e w' => e = .returned (.bool (s.l.any bare)) ∧ Below w.heap.size w w' := by
  refine enter Try.func22 rfl Try.ntmps22 ?_
  repeat' (first
      | refine J.bu ?_
      | refine J.bg ?_
      | refine J.boxA nofun rfl .none (.plain rfl) (fun _ _ => ?_)
      | refine J.box1 nofun rfl .none (.plain rfl) rfl (fun _ _ => ?_)
      | refine J.alloc nofun rfl .none (fun _ _ => ?_)
      | refine J.sto ?_
      | refine J.stoN ?_
      | refine J.lit (fun _ _ => ?_)
      | refine J.alt nofun ?_ ?_
      | exact J.stop
      | refine J.call (fun w' hw => idxc_calls s w' ((Old.of hs).later hw) hl) ?_
      | refine J.fin ?_
      | refine G.seq ?_
      | refine G.region ?_
      | refine G.draw (by kernel_rfl) (by kernel_rfl) ?_
      | refine Fin.go ?_
      | refine G.condT ?_
      | refine G.condF ?_
      | (refine G.cond rfl (fun h => ?_) (fun h => ?_) <;> (have hp := h; try simp only [decide_eq_true_eq, decide_eq_false_iff_not, Bool.and_eq_true, Bool.or_eq_true, Bool.and_eq_false_iff, Bool.or_eq_false_iff, Bool.not_eq_true', Bool.not_eq_false'] at hp))
      | refine G.ret ?_
      | refine G.skip ?_
      | refine G.exit ?_
      | refine G.block ?_
      | refine Fin.resS Try.results22 ?_
      | refine Fin.resT Try.results22 ?_)
  exact fun w' hw => ⟨by rw [idx_neg], hw.out⟩
/-- MayChange -/
def mayC (l : List Chg) : Bool := !l.any bare && risesL Chg.key Chg.val true e0 l
theorem mayc_calls (s : Sl Chg) (w : World) (hs : Dp.deep s w) (hl : s.l.length ≤ 140737488355328) : Calls Try.prog 7 [s.v].toArray w fun e w' => e = .returned (.bool (mayC s.l)) ∧ Below w.heap.size w w' := by
  refine enter Try.func7 rfl Try.ntmps7 ?_
  repeat' (first
      | refine J.bu ?_
      | refine J.bg ?_
      | refine J.boxA nofun rfl .none (.plain rfl) (fun _ _ => ?_)
      | refine J.box1 nofun rfl .none (.plain rfl) rfl (fun _ _ => ?_)
      | refine J.alloc nofun rfl .none (fun _ _ => ?_)
      | refine J.sto ?_
      | refine J.stoN ?_
      | refine J.lit (fun _ _ => ?_)
      | refine J.alt nofun ?_ ?_
      | exact J.stop
      | refine J.call (fun w' hw => anyc_calls s w' ((Old.of hs).later hw) hl) ?_
      | (refine J.call (F := 24) (v := .bool (risesL Chg.key Chg.val true e0 s.l)) (fun w' hw => ?_) ?_; focus exact rising_calls s.l Chg.key Chg.val 25 26 _ w' hl (fun w'' hb i hi => chg_key s _ i w'' (blk_at hw mem0 hb) (Old.at_ ((Old.of hs).later hw) hb) (fresh_not hw mem0 hs) hi) (fun w'' hb i hi => chg_val s _ i w'' (blk_at hw mem0 hb) (Old.at_ ((Old.of hs).later hw) hb) (fresh_not hw mem0 hs) hi))
      | refine J.fin ?_
      | refine G.seq ?_
      | refine G.region ?_
      | refine G.draw (by kernel_rfl) (by kernel_rfl) ?_
      | refine Fin.go ?_
      | refine G.condT ?_
      | refine G.condF ?_
      | (refine G.cond rfl (fun h => ?_) (fun h => ?_) <;> (have hp := h; try simp only [decide_eq_true_eq, decide_eq_false_iff_not, Bool.and_eq_true, Bool.or_eq_true, Bool.and_eq_false_iff, Bool.or_eq_false_iff, Bool.not_eq_true', Bool.not_eq_false'] at hp))
      | refine G.ret ?_
      | refine G.skip ?_
      | refine G.exit ?_
      | refine G.block ?_
      | refine Fin.resS Try.results7 ?_
      | refine Fin.resT Try.results7 ?_)
  all_goals exact fun w' hw => ⟨by simp [mayC, hp], hw.out⟩
end Go.Proofs.Ytdhhjhkonmacdaa
