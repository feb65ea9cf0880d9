/- batch: the reader's numbers and changes. -/
import Derived.Test.YtdhhjhkonmacdaaD5
import Derived.Test.YtdhhjhkonmacdaaD7
namespace Go.Proofs.Ytdhhjhkonmacdaa
open Go.RowKit
set_option linter.unusedSimpArgs false
set_option maxHeartbeats 4000000
set_option linter.unusedVariables false
attribute [local irreducible] QV EvU Wt J G Fin
def numS (s : Sl UInt8) (k : Nat) : Nat × Int × Sl UInt8 := if s.l.length < k then (0, 4, s) else (unle (s.l.take k), 0, s.drop k 1)
theorem number_calls (s : Sl UInt8) (g k : Nat) (hk : k = 1 ∨ k = 4) (w : World) (h0 : Mem w [g] [rd g s] w) (hs : Old w [g] s) (hl : s.l.length ≤ 140737488355328) : Calls Try.prog 27 [pt g 0, .int .i64 (k : Int)].toArray w fun e w' => e = .returned (.tuple #[.int .i64 ((numS s k).1 : Int), .int .i64 (numS s k).2.1]) ∧ Mem w [g] [rd g (numS s k).2.2] w' := by
  haveI := hs
  by_cases hlt : s.l.length < k
  · have ht : takeS s k = (Sl.none, 4, s) := by simp [takeS, hlt]
    have hn : numS s k = (0, 4, s) := by simp [numS, hlt]
    rw [hn]
    refine enterM Try.func27 rfl Try.ntmps27 rfl (by repeat (first | exact SlotsF.nil | apply SlotsF.cons rfl)) h0 ?_
    repeat' (first
        | refine J.bu ?_
        | refine J.bg ?_
        | refine J.boxA nofun rfl .none (.plain rfl) (fun _ _ => ?_)
        | refine J.box1 nofun rfl .none (.plain rfl) rfl (fun _ _ => ?_)
        | refine J.alloc nofun rfl .none (fun _ _ => ?_)
        | refine J.sto ?_
        | refine J.stoN ?_
        | refine J.lit (fun _ _ => ?_)
        | refine J.alt nofun ?_ ?_
        | exact J.stop
        | refine J.cW (ι := Unit) (m1 := [rd g s]) (r := fun _ => .tuple #[Sl.none.v, .int .i64 4]) (m1' := fun _ => [rd g s]) (fun w' hw hm => (take_calls s g k w' hm ⟨hs.later hw, hs.out⟩).mono fun e w'' h => by rw [ht] at h; exact ⟨(), h.1, h.2⟩) (fun _ => ?_)
        | refine J.fin ?_
        | refine G.seq ?_
        | refine G.region ?_
        | refine G.draw (by kernel_rfl) (by kernel_rfl) ?_
        | refine Fin.go ?_
        | refine G.condT ?_
        | refine G.condF ?_
        | (refine G.cond rfl (fun h => ?_) (fun h => ?_) <;> (have hp := h; try simp only [decide_eq_true_eq, decide_eq_false_iff_not, Bool.and_eq_true, Bool.or_eq_true, Bool.and_eq_false_iff, Bool.or_eq_false_iff, Bool.not_eq_true', Bool.not_eq_false'] at hp))
        | refine G.ret ?_
        | refine G.skip ?_
        | refine G.exit ?_
        | refine G.block ?_
        | refine Fin.resS Try.results27 ?_
        | refine Fin.resT Try.results27 ?_)
    exact fun w' hw => ⟨rfl, hw⟩
  · have ht : takeS s k = (s.head k, 0, s.drop k 1) := by simp [takeS, hlt]
    have hn : numS s k = (unle (s.l.take k), 0, s.drop k 1) := by simp [numS, hlt]
    have hg : getF (s.head k).l 0 k = (unle (s.l.take k), 0) := by
      unfold getF
      rw [if_neg (by simp), if_neg (by simp [Sl.head]; omega)]
      simp [Sl.head, List.take_take]
    have hb : unle (s.l.take k) < 4294967296 := by
      have := unle_lt (s.l.take k)
      rw [List.length_take, Nat.min_eq_left (by omega)] at this
      rcases hk with rfl | rfl <;> simp at this <;> omega
    have hhl : (s.head k).l.length ≤ 140737488355328 := by simp [Sl.head]; omega
    have hk4 : k = 1 ∨ k = 2 ∨ k = 4 ∨ k = 8 := hk.elim .inl fun h => .inr (.inr (.inl h))
    rw [hn]
    refine enterM Try.func27 rfl Try.ntmps27 rfl (by repeat (first | exact SlotsF.nil | apply SlotsF.cons rfl)) h0 ?_
    repeat' (first
        | refine J.bu ?_
        | refine J.bg ?_
        | refine J.boxA nofun rfl .none (.plain rfl) (fun _ _ => ?_)
        | refine J.box1 nofun rfl .none (.plain rfl) rfl (fun _ _ => ?_)
        | refine J.alloc nofun rfl .none (fun _ _ => ?_)
        | refine J.sto ?_
        | refine J.stoN ?_
        | refine J.lit (fun _ _ => ?_)
        | refine J.alt nofun ?_ ?_
        | exact J.stop
        | refine J.cW (ι := Unit) (m1 := [rd g s]) (r := fun _ => .tuple #[(s.head k).v, .int .i64 0]) (m1' := fun _ => [rd g (s.drop k 1)]) (fun w' hw hm => (take_calls s g k w' hm ⟨hs.later hw, hs.out⟩).mono fun e w'' h => by rw [ht] at h; exact ⟨(), h.1, h.2⟩) (fun _ => ?_)
        | refine J.call (fun w' hw => by have := get_calls (s.head k) 0 k hk4 w' ((Part.head s k).deep _ (hs.later hw)) hhl; rw [hg] at this; exact this) ?_
        | refine J.fin ?_
        | refine G.seq ?_
        | refine G.region ?_
        | refine G.draw (by kernel_rfl) (by kernel_rfl) ?_
        | refine Fin.go ?_
        | refine G.condT ?_
        | refine G.condF ?_
        | (refine G.cond rfl (fun h => ?_) (fun h => ?_) <;> (have hp := h; try simp only [decide_eq_true_eq, decide_eq_false_iff_not, Bool.and_eq_true, Bool.or_eq_true, Bool.and_eq_false_iff, Bool.or_eq_false_iff, Bool.not_eq_true', Bool.not_eq_false'] at hp))
        | refine G.ret ?_
        | refine G.skip ?_
        | refine G.exit ?_
        | refine G.block ?_
        | refine Fin.resS Try.results27 ?_
        | refine Fin.resT Try.results27 ?_)
    exact fun w' hw => ⟨rfl, hw⟩
end Go.Proofs.Ytdhhjhkonmacdaa
