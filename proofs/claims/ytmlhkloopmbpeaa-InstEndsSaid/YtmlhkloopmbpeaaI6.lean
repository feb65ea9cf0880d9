import Derived.Test.YtmlhkloopmbpeaaI4
namespace Go.Proofs.Ytmlhkloopmbpeaa
open Go.RowKit
set_option linter.unusedSimpArgs false
set_option maxHeartbeats 4000000
set_option linter.unusedVariables false
theorem rowAt_mem {c : Cfg} {st what : Int} {r : Row} (h : rowAt c st what = some r) : ((st, what), r) ∈ rowsL c := by
  unfold rowAt at h
  cases hf : (rowsL c).find? (fun p => decide (p.1 = (st, what))) with
  | none => rw [hf] at h; cases h
  | some p =>
    rw [hf] at h
    have h1 := List.find?_some hf
    have h2 := List.mem_of_find?_eq_some hf
    simp at h h1
    obtain ⟨a, b⟩ := p
    simp at h h1
    rw [← h1, ← h]
    exact h2
theorem wrap_nonneg (z : Int) : 0 ≤ IntKind.u64.wrap z := by
  simp only [IntKind.wrap, IntKind.bits, IntKind.signed]; simp; omega
structure Fine (i x : Inst) (ask e : Int) : Prop where
  no : e ≠ 0 → x = i ∧ ask = 0
  may : e = 0 → mayI x = true
  id : e = 0 → x.id = i.id
  weight : e = 0 → x.weight = i.weight
  version : e = 0 → x.version = i.version
  ends : e = 0 → i.state = 6 → x = i
  asks : e = 0 → ((x.state = 6 ∧ i.state ≠ 6) ↔ ask = 2)
  serves : e = 0 → i.state = 3 → x.state = 3 ∨ x.state = 4
  left : e = 0 → (i.state = 4 ∨ i.state = 5 ∨ i.state = 6) → (x.state = 4 ∨ x.state = 5 ∨ x.state = 6)
theorem le_imax (a b : Int) : a ≤ imax a b ∧ b ≤ imax a b := by
  unfold imax; split <;> omega
theorem spans_le {c : Cfg} (h : spansOk c = true) : c.drain ≤ 65536 ∧ c.hookIn ≤ 65536 ∧ c.hookOut ≤ 65536 ∧ c.deadline ≤ 65536 := by
  simp only [spansOk, decide_eq_true_eq] at h
  have a1 := le_imax c.hookIn c.hookOut
  have a2 := le_imax (imax c.hookIn c.hookOut) c.drain
  have a3 := le_imax (imax (imax c.hookIn c.hookOut) c.drain) c.deadline
  omega
structure RowFine (i : Inst) (r : Row) : Prop where
  state : 1 ≤ r.state ∧ r.state ≤ 9
  due : 0 ≤ r.due ∧ r.due ≤ 65536
  six : i.state ≠ 6
  ask : r.state = 6 ↔ r.ask = 2
  serves : i.state = 3 → r.state = 4
  left : i.state = 4 ∨ i.state = 5 → r.state = 5 ∨ r.state = 6
theorem rowFine (i : Inst) (what : Int) (c : Cfg) (hs : spansOk c = true) (h1 : 0 ≤ c.drain) (h2 : 0 ≤ c.hookIn) (h3 : 0 ≤ c.hookOut) (h4 : 0 ≤ c.deadline) (hok : (findF i what c).2 = true) : RowFine i (findF i what c).1 := by
  obtain ⟨s1, s2, s3, s4⟩ := spans_le hs
  unfold findF at hok ⊢
  cases hr : rowAt c i.state what with
  | some r =>
    simp only
    have hm := rowAt_mem hr
    simp only [rowsL, List.mem_cons, List.not_mem_nil, or_false, Prod.mk.injEq] at hm
    rcases hm with ⟨⟨ha, _⟩, rfl⟩ | ⟨⟨ha, _⟩, rfl⟩ | ⟨⟨ha, _⟩, rfl⟩ | ⟨⟨ha, _⟩, rfl⟩ | ⟨⟨ha, _⟩, rfl⟩ | ⟨⟨ha, _⟩, rfl⟩ | ⟨⟨ha, _⟩, rfl⟩ | ⟨⟨ha, _⟩, rfl⟩ | ⟨⟨ha, _⟩, rfl⟩ | ⟨⟨ha, _⟩, rfl⟩ | ⟨⟨ha, _⟩, rfl⟩ | ⟨⟨ha, _⟩, rfl⟩ | ⟨⟨ha, _⟩, rfl⟩ | ⟨⟨ha, _⟩, rfl⟩ <;>
      first
      | (refine ⟨?_, ?_, ?_, ?_, ?_, ?_⟩ <;> simp [ha, endR] <;> omega)
      | (unfold upR; split <;> refine ⟨?_, ?_, ?_, ?_, ?_, ?_⟩ <;> simp [ha] <;> omega)
      | (unfold leftR endR; split <;> refine ⟨?_, ?_, ?_, ?_, ?_, ?_⟩ <;> simp [ha] <;> omega)
      | (refine ⟨?_, ?_, ?_, ?_, ?_, ?_⟩ <;> simp [ha, endR])
  | none =>
    rw [hr] at hok
    simp only at hok ⊢
    by_cases c1 : what = 10 ∨ what = 2
    · simp only [c1, if_true, idle, Bool.or_eq_true, decide_eq_true_eq] at hok ⊢
      refine ⟨by simp [endR], by simp [endR], by omega, by simp [endR], by omega, by simp [endR]⟩
    · by_cases c2 : what = 8
      · simp only [c1, c2, if_true, if_false, idle, Bool.or_eq_true, decide_eq_true_eq] at hok ⊢
        simp at hok ⊢
        refine ⟨by simp [endR], by simp [endR], by omega, by simp [endR], by omega, by simp [endR]⟩
      · simp [c1, c2] at hok
theorem fine (i : Inst) (what now at_ : Int) (c : Cfg) (hm : mayI i = true) (hn : 0 ≤ now) (h1 : 0 ≤ c.drain) (h2 : 0 ≤ c.hookIn) (h3 : 0 ≤ c.hookOut) (h4 : 0 ≤ c.deadline) : Fine i (doF i what now at_ c).1 (doF i what now at_ c).2.1 (doF i what now at_ c).2.2 := by
  unfold doF
  split
  · exact ⟨by simp, by simp, by simp, by simp, by simp, by simp, by simp, by simp, by simp⟩
  · rename_i hg
    split
    · exact ⟨by simp, by simp, by simp, by simp, by simp, by simp, by simp, by simp, by simp⟩
    · rename_i hk
      simp only [Bool.or_eq_true, decide_eq_true_eq, Bool.not_eq_true', not_or, Bool.not_eq_false] at hg
      obtain ⟨⟨⟨⟨⟨_, g1⟩, g2⟩, g3⟩, g4⟩, g5⟩ := hg
      have hm' := hm
      have n32 : ¬ (3 : Int) = 2 := by decide
      simp only [mayI, Bool.and_eq_true, Bool.or_eq_true, decide_eq_true_eq, Bool.not_eq_true', Bool.or_eq_false_iff, decide_eq_false_iff_not] at hm'
      by_cases hs : staysF i what now = true
      · simp only [hs, if_true]
        simp only [staysF] at hs
        by_cases w2 : what = 2
        · simp only [w2] at hs; simp at hs
          simp only [w2, if_true]
          exact ⟨by simp, fun _ => by simp only [mayI, Bool.and_eq_true, Bool.or_eq_true, decide_eq_true_eq, Bool.not_eq_true', Bool.or_eq_false_iff, decide_eq_false_iff_not]; exact ⟨⟨⟨hm'.1.1.1, hm'.1.1.2⟩, by omega⟩, ⟨by omega, by omega⟩, by first | exact hm'.2.2 | simp⟩, by simp, by simp, by simp, by (simp; try omega), by (simp; try omega), by (simp; try omega), by simp⟩
        · by_cases w3 : what = 3
          · simp only [w3] at hs; simp at hs
            simp only [w3, n32, if_true, if_false]
            exact ⟨by simp, fun _ => by simp only [mayI, Bool.and_eq_true, Bool.or_eq_true, decide_eq_true_eq, Bool.not_eq_true', Bool.or_eq_false_iff, decide_eq_false_iff_not]; exact ⟨⟨⟨hm'.1.1.1, hm'.1.1.2⟩, by omega⟩, ⟨by omega, by omega⟩, by first | exact hm'.2.2 | simp⟩, by simp, by simp, by simp, by (simp; try omega), by (simp; try omega), by (simp; try omega), by simp⟩
          · simp only [w2, w3, if_false]
            exact ⟨by simp, by simp [hm], by simp, by simp, by simp, by simp, by simp, by (simp; try omega), by simp⟩
      · simp only [hs, Bool.false_eq_true, if_false]
        have hok : (findF i what c).2 = true := by
          cases hb : (findF i what c).2 with
          | true => rfl
          | false => simp [hb, hs] at hk
        have hr := rowFine i what c g5 h1 h2 h3 h4 hok
        generalize hrr : (findF i what c).1 = r at hr ⊢
        obtain ⟨r1, r2, r3, r4, r5, r6⟩ := hr
        have hw : IntKind.u64.wrap (now + r.due) = now + r.due := wrap_u64 (by omega) (by omega)
        rw [hw]
        have hdue : (if r.timed = true then now + r.due else 0) ≤ 1099511758848 := by split <;> omega
        generalize (if r.timed = true then now + r.due else 0) = due at hdue ⊢
        by_cases w2 : what = 2
        · simp only [w2, if_true]
          exact ⟨by simp, fun _ => by simp only [mayI, Bool.and_eq_true, Bool.or_eq_true, decide_eq_true_eq, Bool.not_eq_true', Bool.or_eq_false_iff, decide_eq_false_iff_not]; exact ⟨⟨⟨hm'.1.1.1, hm'.1.1.2⟩, by omega⟩, ⟨by omega, by omega⟩, by first | exact hm'.2.2 | simp⟩, by simp, by simp, by simp, by (simp; try omega), by (simp; try omega), by (simp; try omega), by (simp; try omega)⟩
        · by_cases w3 : what = 3
          · simp only [w3, n32, if_true, if_false]
            exact ⟨by simp, fun _ => by simp only [mayI, Bool.and_eq_true, Bool.or_eq_true, decide_eq_true_eq, Bool.not_eq_true', Bool.or_eq_false_iff, decide_eq_false_iff_not]; exact ⟨⟨⟨hm'.1.1.1, hm'.1.1.2⟩, by omega⟩, ⟨by omega, by omega⟩, by first | exact hm'.2.2 | simp⟩, by simp, by simp, by simp, by (simp; try omega), by (simp; try omega), by (simp; try omega), by (simp; try omega)⟩
          · simp only [w2, w3, if_false]
            exact ⟨by simp, fun _ => by simp only [mayI, Bool.and_eq_true, Bool.or_eq_true, decide_eq_true_eq, Bool.not_eq_true', Bool.or_eq_false_iff, decide_eq_false_iff_not]; exact ⟨⟨⟨hm'.1.1.1, hm'.1.1.2⟩, by omega⟩, ⟨by omega, by omega⟩, by first | exact hm'.2.2 | simp⟩, by simp, by simp, by simp, by (simp; try omega), by (simp; try omega), by (simp; try omega), by (simp; try omega)⟩
end Go.Proofs.Ytmlhkloopmbpeaa
