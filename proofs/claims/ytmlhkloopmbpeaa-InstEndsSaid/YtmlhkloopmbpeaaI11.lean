import Derived.Test.YtmlhkloopmbpeaaI5
import Derived.Test.YtmlhkloopmbpeaaI10
namespace Go.Proofs.Ytmlhkloopmbpeaa
open Go.RowKit
set_option linter.unusedSimpArgs false
set_option maxHeartbeats 4000000
set_option linter.unusedVariables false
attribute [local irreducible] QV EvU Wt J G Fin
theorem ends_calls (i : Inst) (now drain hook beats : Int) (w : World) (hn : 0 ≤ now) (h1 : 0 ≤ drain.tmod 60 ∧ drain.tmod 60 < 60) (h2 : 0 ≤ hook.tmod 60 ∧ hook.tmod 60 < 60) :
    Calls Try.prog 3 [.agg i.cells.toArray, .int .u64 now, .int .u8 drain, .int .u8 hook, .int .u64 beats].toArray w fun e w' => e = .returned (.bool true) ∧ Below w.heap.size w w' := by
  refine enter Try.func3 rfl Try.ntmps3 ?_
  repeat' (first
      | refine J.au ?_
      | refine J.ag ?_
      | refine J.boxA nofun rfl .none (.plain rfl) (fun _ _ => ?_)
      | refine J.box1 nofun rfl .none (.plain rfl) rfl (fun _ _ => ?_)
      | refine J.alloc nofun rfl .none (fun _ _ => ?_)
      | refine J.sto ?_
      | refine J.stoN ?_
      | refine J.lit (fun _ _ => ?_)
      | refine J.alt nofun ?_ ?_
      | exact J.stop
      | refine J.call (fun w _ => may_calls i w) ?_
      | refine J.callg (fun w _ => serves_calls i w) ?_
      | refine J.call (fun w _ => lives_calls w) ?_
      | refine J.fin ?_
      | refine G.seq ?_
      | refine G.region ?_
      | refine G.draw (by kernel_rfl) (by kernel_rfl) ?_
      | refine Fin.go ?_
      | refine G.condT ?_
      | refine G.condF ?_
      | (refine G.cond rfl (fun h => ?_) (fun h => ?_) <;> (have hp := h; try simp only [decide_eq_true_eq, decide_eq_false_iff_not, Bool.and_eq_true, Bool.or_eq_true, Bool.and_eq_false_iff, Bool.or_eq_false_iff, Bool.not_eq_true', Bool.not_eq_false'] at hp))
      | refine G.ret ?_
      | refine G.skip ?_
      | refine G.exit ?_
      | refine G.block ?_
      | refine Fin.resS Try.results3 ?_
      | refine Fin.resT Try.results3 ?_)
  · exact fun w' hw => ⟨rfl, hw.out⟩
  · rename_i g5 hg5 g11 hg11
    obtain ⟨⟨hm, hs⟩, hnow⟩ := hp
    have hno : now ≤ 1099511626776 := by omega
    have hdo : ∀ w, Calls Try.prog 8 [.agg i.cells.toArray, .int .u8 2, .int .u64 now, .int .u64 (now + 120), .agg (cfgE (drain.tmod 60) (hook.tmod 60)).cells.toArray].toArray w fun e w' => e = .returned (.tuple #[.agg (instAt i now (drain.tmod 60) (hook.tmod 60) 0).cells.toArray, .int .u8 0, .int .i64 0]) ∧ Below w.heap.size w w' := fun w => by
      have := do_calls i 2 now (now + 120) (cfgE (drain.tmod 60) (hook.tmod 60)) w
      rw [notice hm hs h1 h2 ⟨hn, hno⟩] at this
      exact this
    have h0 : (instAt i now (drain.tmod 60) (hook.tmod 60) 0).state = 4 ∧ (instAt i now (drain.tmod 60) (hook.tmod 60) 0).noticed = true ∧ (instAt i now (drain.tmod 60) (hook.tmod 60) 0).kill = now + 120 := by simp [instAt, h1.1]
    repeat' (first
        | refine J.au ?_
        | refine J.ag ?_
        | refine J.boxA nofun rfl .none (.plain rfl) (fun _ _ => ?_)
        | refine J.box1 nofun rfl .none (.plain rfl) rfl (fun _ _ => ?_)
        | refine J.alloc nofun rfl .none (fun _ _ => ?_)
        | refine J.sto ?_
        | refine J.stoN ?_
        | refine J.lit (fun _ _ => ?_)
        | refine J.alt nofun ?_ ?_
        | exact J.stop
        | refine J.call (fun w _ => hdo w) ?_
        | refine J.callg (fun w _ => serves_calls _ w) ?_
        | refine J.fin ?_
        | refine G.seq ?_
        | refine G.region ?_
        | refine G.draw (by kernel_rfl) (by kernel_rfl) ?_
        | refine Fin.go ?_
        | refine G.condT ?_
        | refine G.condF ?_
        | (refine G.cond rfl (fun h => ?_) (fun h => ?_) <;> (have hp := h; try simp only [decide_eq_true_eq, decide_eq_false_iff_not, Bool.and_eq_true, Bool.or_eq_true, Bool.and_eq_false_iff, Bool.or_eq_false_iff, Bool.not_eq_true', Bool.not_eq_false'] at hp))
        | refine G.ret ?_
        | refine G.skip ?_
        | refine G.exit ?_
        | refine G.block ?_
        | refine Fin.resS Try.results3 ?_
        | refine Fin.resT Try.results3 ?_)
    · intro w' hw; exfalso
      simp [h0.1, h0.2.1, h0.2.2] at h
    · refine G.loopA (0 : Nat) (fun t => [(15, .int .u64 (t : Nat)), (14, .int .i64 (if (t : Int) = drain.tmod 60 + hook.tmod 60 + 1 then 1 else 0)), (11, pt g11 0), (5, pt g5 0), (4, .int .u64 beats), (1, .int .u64 now)])
        (fun t => [.blk g11 (.cells (cfgE (drain.tmod 60) (hook.tmod 60)).cells.toArray 32 (0, 0)), .blk g5 (.cells (instAt i now (drain.tmod 60) (hook.tmod 60) (t : Nat)).cells.toArray 25 (0, 0))])
        (fun t => (t : Int) ≤ drain.tmod 60 + hook.tmod 60 + 1) (fun t => 200 - t) (by omega) ?_ (hs := ?_)
      · intro t ht
        have hmod : 0 ≤ (t : Int).tmod 64 := Int.tmod_nonneg 64 (by omega)
        have hwr : IntKind.u64.wrap ((cfgE (drain.tmod 60) (hook.tmod 60)).drain + (cfgE (drain.tmod 60) (hook.tmod 60)).hookOut) = drain.tmod 60 + hook.tmod 60 := wrap_u64 (by simp [cfgE]; omega) (by simp [cfgE]; omega)
        by_cases hlt : (t : Int) ≤ drain.tmod 60 + hook.tmod 60
        · have hbe : ∀ w, Calls Try.prog 8 [.agg (instAt i now (drain.tmod 60) (hook.tmod 60) (t : Nat)).cells.toArray, .int .u8 4, .int .u64 (now + (t : Nat)), .int .u64 0, .agg (cfgE (drain.tmod 60) (hook.tmod 60)).cells.toArray].toArray w fun en w' => en = .returned (.tuple #[.agg (instAt i now (drain.tmod 60) (hook.tmod 60) (t : Nat)).cells.toArray, .int .u8 (doF (instAt i now (drain.tmod 60) (hook.tmod 60) (t : Nat)) 4 (now + (t : Nat)) 0 (cfgE (drain.tmod 60) (hook.tmod 60))).2.1, .int .i64 (doF (instAt i now (drain.tmod 60) (hook.tmod 60) (t : Nat)) 4 (now + (t : Nat)) 0 (cfgE (drain.tmod 60) (hook.tmod 60))).2.2]) ∧ Below w.heap.size w w' := fun w => by
            have := do_calls (instAt i now (drain.tmod 60) (hook.tmod 60) (t : Nat)) 4 (now + (t : Nat)) 0 (cfgE (drain.tmod 60) (hook.tmod 60)) w
            rw [beat hm h1 h2 ⟨hn, hno⟩ ⟨by omega, hlt⟩] at this
            exact this
          generalize (doF (instAt i now (drain.tmod 60) (hook.tmod 60) (t : Nat)) 4 (now + (t : Nat)) 0 (cfgE (drain.tmod 60) (hook.tmod 60))).2.1 = ask at hbe
          generalize (doF (instAt i now (drain.tmod 60) (hook.tmod 60) (t : Nat)) 4 (now + (t : Nat)) 0 (cfgE (drain.tmod 60) (hook.tmod 60))).2.2 = e at hbe
          have htk : ∀ w, Calls Try.prog 8 [.agg (instAt i now (drain.tmod 60) (hook.tmod 60) (t : Nat)).cells.toArray, .int .u8 8, .int .u64 (now + (t : Nat)), .int .u64 0, .agg (cfgE (drain.tmod 60) (hook.tmod 60)).cells.toArray].toArray w fun en w' => en = .returned (.tuple #[.agg (instAt i now (drain.tmod 60) (hook.tmod 60) ((t + 1 : Nat))).cells.toArray, .int .u8 (if (t : Int) = drain.tmod 60 + hook.tmod 60 then 2 else 0), .int .i64 0]) ∧ Below w.heap.size w w' := fun w => by
            have := do_calls (instAt i now (drain.tmod 60) (hook.tmod 60) (t : Nat)) 8 (now + (t : Nat)) 0 (cfgE (drain.tmod 60) (hook.tmod 60)) w
            rw [tick hm h1 h2 ⟨hn, hno⟩ ⟨by omega, hlt⟩] at this
            exact this
          repeat' (first
              | refine J.au ?_
              | refine J.ag ?_
              | refine J.boxA nofun rfl .none (.plain rfl) (fun _ _ => ?_)
              | refine J.box1 nofun rfl .none (.plain rfl) rfl (fun _ _ => ?_)
              | refine J.alloc nofun rfl .none (fun _ _ => ?_)
              | refine J.sto ?_
              | refine J.stoN ?_
              | refine J.lit (fun _ _ => ?_)
              | refine J.alt nofun ?_ ?_
              | exact J.stop
              | refine J.call (fun w _ => hbe w) ?_
              | refine J.call (fun w _ => htk w) ?_
              | refine J.call (fun w _ => lives_calls w) ?_
              | refine J.fin ?_
              | refine G.seq ?_
              | refine G.region ?_
              | refine G.draw (by kernel_rfl) (by kernel_rfl) ?_
              | refine Fin.go ?_
              | refine G.condT ?_
              | refine G.condF ?_
              | (refine G.cond rfl (fun h => ?_) (fun h => ?_) <;> (have hp := h; try simp only [decide_eq_true_eq, decide_eq_false_iff_not, Bool.and_eq_true, Bool.or_eq_true, Bool.and_eq_false_iff, Bool.or_eq_false_iff, Bool.not_eq_true', Bool.not_eq_false'] at hp))
              | refine G.ret ?_
              | refine G.skip ?_
              | refine G.exit ?_
              | refine G.block ?_
              | refine Fin.resS Try.results3 ?_
              | refine Fin.resT Try.results3 ?_)
          all_goals first
            | (refine Fin.again (t + 1) (by omega) (by omega) (hs := ?_)
               intro a ha; refine ha.keep ?_
               repeat (first | exact keep_nil | apply keep_cons rfl | apply keep_cons2 rfl (by first | rfl | (congr 1; omega) | (congr 1; simp; done) | (congr 1; rw [if_neg (by omega), if_pos (by simp at *; omega)]; omega) | (congr 1; rw [if_neg (by omega), if_neg (by simp at *; omega)]))))
            | (exfalso; simp only [hwr] at *; omega)
           
        · have ht' : (t : Int) = drain.tmod 60 + hook.tmod 60 + 1 := by omega
          repeat' (first
              | refine J.au ?_
              | refine J.ag ?_
              | refine J.boxA nofun rfl .none (.plain rfl) (fun _ _ => ?_)
              | refine J.box1 nofun rfl .none (.plain rfl) rfl (fun _ _ => ?_)
              | refine J.alloc nofun rfl .none (fun _ _ => ?_)
              | refine J.sto ?_
              | refine J.stoN ?_
              | refine J.lit (fun _ _ => ?_)
              | refine J.alt nofun ?_ ?_
              | exact J.stop
              | refine J.callg (fun w _ => lives_calls w) ?_
              | refine J.fin ?_
              | refine G.seq ?_
              | refine G.region ?_
              | refine G.draw (by kernel_rfl) (by kernel_rfl) ?_
              | refine Fin.go ?_
              | refine G.condT ?_
              | refine G.condF ?_
              | (refine G.cond rfl (fun h => ?_) (fun h => ?_) <;> (have hp := h; try simp only [decide_eq_true_eq, decide_eq_false_iff_not, Bool.and_eq_true, Bool.or_eq_true, Bool.and_eq_false_iff, Bool.or_eq_false_iff, Bool.not_eq_true', Bool.not_eq_false'] at hp))
              | refine G.ret ?_
              | refine G.skip ?_
              | refine G.exit ?_
              | refine G.block ?_
              | refine Fin.resS Try.results3 ?_
              | refine Fin.resT Try.results3 ?_)
          all_goals first
            | (exfalso; simp only [hwr] at *; omega)
            | exact fun w' hw => ⟨by simp [instAt, ht', show ¬ drain.tmod 60 + hook.tmod 60 + 1 ≤ drain.tmod 60 by omega, show ¬ drain.tmod 60 + hook.tmod 60 + 1 ≤ drain.tmod 60 + hook.tmod 60 by omega], hw.out⟩
           
      · intro a ha; refine ha.keep ?_
        repeat (first | exact keep_nil | apply keep_cons rfl | apply keep_cons2 rfl (by rw [if_neg (by simp; omega)]))
end Go.Proofs.Ytmlhkloopmbpeaa
