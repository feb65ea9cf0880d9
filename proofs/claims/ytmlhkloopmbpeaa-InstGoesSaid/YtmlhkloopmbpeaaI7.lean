import Derived.Test.YtmlhkloopmbpeaaI5
import Derived.Test.YtmlhkloopmbpeaaI6
namespace Go.Proofs.Ytmlhkloopmbpeaa
open Go.RowKit
set_option linter.unusedSimpArgs false
set_option maxHeartbeats 4000000
set_option linter.unusedVariables false
attribute [local irreducible] QV EvU Wt J G Fin
structure Deed where
  what : Int
  wait : Int
  at_ : Int
deriving Inhabited
def Deed.cells (d : Deed) : List Value := [.int .u8 d.what, .int .u8 d.wait, .int .u64 d.at_]
def cfgOf (hi ho dr : Int) : Cfg := ⟨IntKind.u64.wrap dr, IntKind.u64.wrap hi, IntKind.u64.wrap ho, 5⟩
theorem goes_calls (i : Inst) (A : Option Addr) (B : Addr) (l : List Deed) (cp : Nat) (hi ho dr : Int) (w : World) (hA : Based A l.length B) (hR : RowI w B 3 l Deed.cells default) :
    Calls Try.prog 4 [.agg i.cells.toArray, .slice A l.length cp, .int .u16 hi, .int .u16 ho, .int .u16 dr].toArray w fun e w' => e = .returned (.bool true) ∧ Below w.heap.size w w' := by
  refine enter Try.func4 rfl Try.ntmps4 ?_
  repeat' (first
      | refine J.au ?_
      | refine J.ag ?_
      | refine J.boxA nofun rfl .none (.plain rfl) (fun _ _ => ?_)
      | refine J.box1 nofun rfl .none (.plain rfl) rfl (fun _ _ => ?_)
      | refine J.alloc nofun rfl .none (fun _ _ => ?_)
      | refine J.sto ?_
      | refine J.stoN ?_
      | refine J.lit (fun _ _ => ?_)
      | refine J.alt nofun ?_ ?_
      | exact J.stop
      | refine J.call (fun w _ => may_calls i w) ?_
      | refine J.call (fun w _ => lives_calls w) ?_
      | refine J.fin ?_
      | refine G.seq ?_
      | refine G.region ?_
      | refine G.draw (by kernel_rfl) (by kernel_rfl) ?_
      | refine Fin.go ?_
      | refine G.condT ?_
      | refine G.condF ?_
      | (refine G.cond rfl (fun h => ?_) (fun h => ?_) <;> (have hp := h; try simp only [decide_eq_true_eq, decide_eq_false_iff_not, Bool.and_eq_true, Bool.or_eq_true, Bool.and_eq_false_iff, Bool.or_eq_false_iff, Bool.not_eq_true', Bool.not_eq_false'] at hp))
      | refine G.ret ?_
      | refine G.skip ?_
      | refine G.exit ?_
      | refine G.block ?_
      | refine Fin.resS Try.results4 ?_
      | refine Fin.resT Try.results4 ?_)
  · exact fun w' hw => ⟨rfl, hw.out⟩
  · rename_i g5 hg5 g11 hg11
    refine G.loop4 0 i 0 false (fun (k : Nat) (j : Inst) (now : Int) (left : Bool) => [(14, .int .i64 (k : Nat)), (13, .bool left), (12, .int .u64 now), (11, pt g11 0), (5, pt g5 0), (1, .slice A l.length cp)])
      (fun k j now left => [.blk g11 (.cells (cfgOf hi ho dr).cells.toArray 32 (0, 0)), .blk g5 (.cells j.cells.toArray 25 (0, 0))])
      (fun k j now left => k ≤ l.length ∧ mayI j = true ∧ 0 ≤ now ∧ (left = true → (j.state = 4 ∨ j.state = 5 ∨ j.state = 6))) (fun k _ _ _ => l.length - k) ⟨by simp, by simpa using hp, by simp, by simp⟩ ?_
    intro k j now left ⟨hk, hmay, hnow, hleft⟩
    have HF := fine j (el l default k).what (IntKind.u64.wrap (now + IntKind.u64.wrap (el l default k).wait)) ((el l default k).at_.tmod 1000) (cfgOf hi ho dr) hmay (wrap_nonneg _) (wrap_nonneg _) (wrap_nonneg _) (wrap_nonneg _) (by simp [cfgOf])
    have hdo := fun w => do_calls j (el l default k).what (IntKind.u64.wrap (now + IntKind.u64.wrap (el l default k).wait)) ((el l default k).at_.tmod 1000) (cfgOf hi ho dr) w
    have hnow' := wrap_nonneg (now + IntKind.u64.wrap (el l default k).wait)
    generalize doF j (el l default k).what (IntKind.u64.wrap (now + IntKind.u64.wrap (el l default k).wait)) ((el l default k).at_.tmod 1000) (cfgOf hi ho dr) = D at HF hdo
    obtain ⟨x, ask, e⟩ := D
    simp only at HF hdo
    repeat' (first
        | refine J.au ?_
        | refine J.ag ?_
        | refine J.boxA nofun rfl .none (.plain rfl) (fun _ _ => ?_)
        | refine J.box1 nofun rfl .none (.plain rfl) rfl (fun _ _ => ?_)
        | refine J.alloc nofun rfl .none (fun _ _ => ?_)
        | refine J.sto ?_
        | refine J.stoN ?_
        | refine J.lit (fun _ _ => ?_)
        | refine J.alt nofun ?_ ?_
        | exact J.stop
        | refine G.drawsD (id := 10) (.op .q 0 (.op .q 1 (.op .q 2 (.op .q 3 (.op .q 4 (.op .q 5 (.op .q 6 (.op .q 7 (.op .q 8 (.op .q 9 (.op .q 10 (.op .q 11 (.op .q 12 (.op .q 13 (.op .q 14 (.op .q 15 (.op .q 16 (.op .q 17 (.op .q 18 (.op .a 19 (.op .a 20 (.op .q 21 (.op .q 22 .nil))))))))))))))))))))))) [15] (by kernel_rfl) (by kernel_rfl) ?_
        | refine J.call (fun w _ => hdo w) ?_
        | refine J.call (fun w _ => may_calls x w) ?_
        | refine J.callg (fun w _ => serves_calls x w) ?_
        | refine J.callg (fun w _ => comes_calls x w) ?_
        | refine J.call (fun w _ => lives_calls w) ?_
        | refine J.fin ?_
        | refine G.seq ?_
        | refine G.region ?_
        | refine G.draw (by kernel_rfl) (by kernel_rfl) ?_
        | refine Fin.go ?_
        | refine G.condT ?_
        | refine G.condF ?_
        | (refine G.cond rfl (fun h => ?_) (fun h => ?_) <;> (have hp := h; try simp only [decide_eq_true_eq, decide_eq_false_iff_not, Bool.and_eq_true, Bool.or_eq_true, Bool.and_eq_false_iff, Bool.or_eq_false_iff, Bool.not_eq_true', Bool.not_eq_false'] at hp))
        | refine G.ret ?_
        | refine G.skip ?_
        | refine G.exit ?_
        | refine G.block ?_
        | refine Fin.resS Try.results4 ?_
        | refine Fin.resT Try.results4 ?_)
    · intro w' hw; exfalso
      have he : e ≠ 0 := by intro he; simp_all
      obtain ⟨hx, ha⟩ := HF.no he
      subst hx; subst ha
      simp at h
    · refine Fin.again4 (k + 1) j (IntKind.u64.wrap (now + IntKind.u64.wrap (el l default k).wait)) left ⟨by omega, hmay, hnow', hleft⟩ (by omega)
    · intro w' hw; exfalso
      have he : e = 0 := by simp_all
      have h6 := HF.ends he
      have ha := HF.asks he
      simp [HF.may he, HF.id he, HF.weight he, HF.version he] at h
      by_cases hs : j.state = 6
      · have hx := h6 hs
        subst hx
        simp [hs] at h ha
        exact ha h
      · simp [hs] at h ha
        by_cases hq : x.state = 6
        · simp [hq, ha.1 hq] at h
        · have : ¬ ask = 2 := fun hk => hq (ha.2 hk)
          simp [hq, this] at h
    · intro w' hw; exfalso
      have he : e = 0 := by simp_all
      have h1 := HF.serves he
      have h2 := HF.left he
      simp at h
      obtain ⟨h3 | h3, h4⟩ := h
      · have := h2 (hleft h3); omega
      · have := h1 h3.1; omega
    · have he : e = 0 := by simp_all
      refine Fin.again4 (k + 1) x (IntKind.u64.wrap (now + IntKind.u64.wrap (el l default k).wait)) (left || (decide (j.state = 3) && !decide (x.state = 3))) ⟨by omega, HF.may he, hnow', ?_⟩ (by omega)
      intro hl
      simp at hl
      rcases hl with hl | hl
      · exact HF.left he (hleft hl)
      · have := HF.serves he hl.1; omega
    · exact fun w' hw => ⟨rfl, hw.out⟩
end Go.Proofs.Ytmlhkloopmbpeaa
