/- batch: the plain law, the round trips. -/
import Derived.Test.YtdhhjhkonmacdaaE1
namespace Go.Proofs.Ytdhhjhkonmacdaa
open Go.RowKit
set_option linter.unusedSimpArgs false
set_option maxHeartbeats 4000000
set_option linter.unusedVariables false
theorem numL_le {n k : Nat} {r : List UInt8} (h : n < 2 ^ (8 * k)) : numL (le n k ++ r) k = (n, 0, r) := by
  unfold numL
  have hl := le_len n k
  rw [if_neg (by simp [hl]), List.take_append_of_le_length (by omega), List.take_of_length_le (by omega), List.drop_append_of_le_length (by omega), List.drop_of_length_le (by omega), unle_le k n h]
  rfl
theorem takL_app (l r : List UInt8) : takL (l ++ r) l.length = (l, 0, r) := by simp [takL]
theorem le_one (n : Nat) : le n 1 = [byteOf (n : Int)] := by rw [le_succ]; rfl
theorem chL_enc {x : PC} (h : (x.1.size ≤ 16 ∧ x.2.1.length ≤ 524288) ∧ (x.2.2 = true → x.2.1 = [])) (r : List UInt8) : chL (enc1 x ++ r) = (0, x.1, x.2.1, x.2.2, r) := by
  obtain ⟨k, v, g⟩ := x
  obtain ⟨⟨hk, hv⟩, hg⟩ := h
  simp only at hk hv hg
  have hks : k.data.toList.length = k.size := by simp
  unfold enc1 chL
  have e1 : ∀ R, byteOf (k.size : Int) :: R = le k.size 1 ++ R := fun R => by rw [le_one]; rfl
  simp only [List.cons_append, List.append_assoc]
  rw [e1, numL_le (by omega)]
  simp only [Int.zero_ne_one, ne_eq, not_true_eq_false, if_false]
  rw [← hks, takL_app]
  simp only [ne_eq, not_true_eq_false, if_false, textOf_data]
  cases g with
  | true =>
    have e2 : ([1] : List UInt8) ++ r = le 1 1 ++ r := by rw [le_one]; rfl
    simp only [if_true]
    rw [e2, numL_le (by decide)]
    simp [hg rfl]
  | false =>
    simp only [Bool.false_eq_true, if_false, List.cons_append, List.append_assoc]
    have e2 : ∀ R : List UInt8, (0 : UInt8) :: R = le 0 1 ++ R := fun R => by rw [le_one]; rfl
    rw [e2, numL_le (by decide)]
    simp only [ne_eq, not_true_eq_false, if_false]
    rw [numL_le (by omega)]
    simp [takL_app, show ¬ 524288 < v.length by omega]
theorem getL_enc : ∀ (l acc : List PC), mayP (acc ++ l) = true → getL l.length (l.flatMap enc1) acc = (0, acc ++ l, [])
  | [], acc, _ => by simp [getL]
  | x :: l, acc, h => by
    have hx := mayP_mem h (x := x) (by simp)
    rw [List.length_cons, List.flatMap_cons]
    unfold getL
    rw [chL_enc hx]
    simp only [ne_eq, not_true_eq_false, if_false]
    have h1 : acc ++ x :: l = acc ++ [(x.1, x.2.1, x.2.2)] ++ l := by simp
    have hm : mayP ((acc ++ [(x.1, x.2.1, x.2.2)]).drop ((acc ++ [(x.1, x.2.1, x.2.2)]).length - 2)) = true := by
      have := mayP_sub h (acc ++ [(x.1, x.2.1, x.2.2)]).length ((acc ++ [(x.1, x.2.1, x.2.2)]).length - 2)
      rwa [h1, List.take_left] at this
    rw [hm, if_neg (by simp), h1]
    exact getL_enc l _ (by rw [← h1]; exact h)
theorem get_put {l : List PC} (h : mayP l = true) (hl : l.length < 4294967296) : getBL (putB l) = (0, l) := by
  unfold getBL putB
  rw [numL_le (by simpa using hl)]
  simp only [ne_eq, not_true_eq_false, if_false]
  rw [getL_enc l [] (by simpa using h)]
  simp
theorem numL_ok {b : List UInt8} {k : Nat} (h : (numL b k).2.1 = 0) : b = le (numL b k).1 k ++ (numL b k).2.2 ∧ (numL b k).1 < 2 ^ (8 * k) := by
  unfold numL at *
  split at h
  · simp at h
  · rename_i hlt
    rw [if_neg hlt]
    have h1 : (b.take k).length = k := by rw [List.length_take]; omega
    have h2 := le_unle (b.take k)
    rw [h1] at h2
    refine ⟨?_, ?_⟩
    · simp only [h2, List.take_append_drop]
    · have := unle_lt (b.take k)
      rwa [h1] at this
theorem takL_ok {b : List UInt8} {n : Nat} (h : (takL b n).2.1 = 0) : b = (takL b n).1 ++ (takL b n).2.2 ∧ (takL b n).1.length = n := by
  unfold takL at *
  split at h
  · simp at h
  · rename_i hlt
    rw [if_neg hlt]
    exact ⟨(List.take_append_drop n b).symm, by simp only [List.length_take]; omega⟩
theorem enc1_ge (x : PC) : 2 ≤ (enc1 x).length := by
  unfold enc1
  split <;> simp <;> omega
theorem chL_ok {b : List UInt8} (h : (chL b).1 = 0) : b = enc1 ((chL b).2.1, (chL b).2.2.1, (chL b).2.2.2.1) ++ (chL b).2.2.2.2 := by
  obtain ⟨n1, e1, s1, hN1⟩ : ∃ n e r, numL b 1 = (n, e, r) := ⟨_, _, _, rfl⟩
  obtain ⟨v2, e2, s2, hN2⟩ : ∃ n e r, takL s1 n1 = (n, e, r) := ⟨_, _, _, rfl⟩
  obtain ⟨n3, e3, s3, hN3⟩ : ∃ n e r, numL s2 1 = (n, e, r) := ⟨_, _, _, rfl⟩
  obtain ⟨n4, e4, s4, hN4⟩ : ∃ n e r, numL s3 4 = (n, e, r) := ⟨_, _, _, rfl⟩
  obtain ⟨v5, e5, s5, hN5⟩ : ∃ n e r, takL s4 n4 = (n, e, r) := ⟨_, _, _, rfl⟩
  have p1 := @numL_ok b 1; rw [hN1] at p1
  have p2 := @takL_ok s1 n1; rw [hN2] at p2
  have p3 := @numL_ok s2 1; rw [hN3] at p3
  have p4 := @numL_ok s3 4; rw [hN4] at p4
  have p5 := @takL_ok s4 n4; rw [hN5] at p5
  simp only at p1 p2 p3 p4 p5
  simp only [chL, hN1, hN2, hN3, hN4, hN5] at h ⊢
  by_cases h1 : e1 = 0
  case neg => simp [h1] at h
  obtain ⟨q1, r1⟩ := p1 h1
  simp only [h1, not_true_eq_false, if_false] at h ⊢
  by_cases h2 : e2 = 0
  case neg => simp [h2] at h
  obtain ⟨q2, r2⟩ := p2 h2
  simp only [h2, not_true_eq_false, if_false] at h ⊢
  by_cases h3 : e3 = 0
  case neg => simp [h3] at h
  obtain ⟨q3, r3⟩ := p3 h3
  simp only [h3, not_true_eq_false, if_false] at h ⊢
  have hks : (textOf v2).size = n1 := by rw [textOf_size]; exact r2
  by_cases h31 : 1 < n3
  · simp [h31] at h
  simp only [h31, if_false] at h ⊢
  by_cases h32 : n3 = 1
  · simp only [h32, if_true] at h ⊢
    rw [q1, q2, q3, h32, le_one, le_one]
    simp only [enc1, hks, data_textOf, if_true]
    simp [byteOf]
  simp only [h32, if_false] at h ⊢
  by_cases h4 : e4 = 0
  case neg => simp [h4] at h
  obtain ⟨q4, r4⟩ := p4 h4
  simp only [h4, not_true_eq_false, if_false] at h ⊢
  by_cases h41 : 524288 < n4
  · simp [h41] at h
  simp only [h41, if_false] at h ⊢
  obtain ⟨q5, r5⟩ := p5 h
  rw [q1, q2, q3, show n3 = 0 by omega, q4, q5, le_one, le_one]
  simp only [enc1, hks, data_textOf, r5]
  simp [byteOf]
theorem getL_ok : ∀ (n : Nat) (b : List UInt8) (acc : List PC), mayP acc = true → (getL n b acc).1 = 0 → ∃ l, (getL n b acc).2.1 = acc ++ l ∧ l.length = n ∧ b = l.flatMap enc1 ++ (getL n b acc).2.2 ∧ mayP (acc ++ l) = true
  | 0, b, acc, hm, _ => ⟨[], by simp [getL], rfl, by simp [getL], by simpa using hm⟩
  | n + 1, b, acc, hm, h => by
    have hc := @chL_ok b
    unfold getL at h ⊢
    by_cases h1 : (chL b).1 = 0
    case neg => simp [h1] at h
    simp only [h1, not_true_eq_false, if_false] at h ⊢
    split at h
    · simp at h
    · rename_i hn
      rw [if_neg hn]
      have hm2 := mayP_snoc hm (by simpa using hn)
      obtain ⟨l, g1, g2, g3, g4⟩ := getL_ok n _ _ hm2 h
      refine ⟨((chL b).2.1, (chL b).2.2.1, (chL b).2.2.2.1) :: l, by simp [g1], by simp [g2], ?_, by simpa using g4⟩
      rw [List.flatMap_cons, List.append_assoc, ← g3]
      exact hc h1
theorem encs_ge : ∀ l : List PC, 2 * l.length ≤ (l.flatMap enc1).length
  | [] => by simp
  | x :: r => by
    have := encs_ge r
    have := enc1_ge x
    rw [List.flatMap_cons, List.length_append, List.length_cons]; omega
theorem put_get {b : List UInt8} (h : (getBL b).1 = 0) : putB (getBL b).2 = b ∧ mayP (getBL b).2 = true ∧ 2 * (getBL b).2.length ≤ b.length := by
  have hn := @numL_ok b 4
  unfold getBL at h ⊢
  by_cases h1 : (numL b 4).2.1 = 0
  case neg => simp [h1] at h
  simp only [h1, not_true_eq_false, if_false] at h ⊢
  by_cases h2 : (getL (numL b 4).1 (numL b 4).2.2 []).1 = 0
  case neg => simp [h2] at h
  simp only [h2, not_true_eq_false, if_false] at h ⊢
  split at h
  · simp at h
  · rename_i h3
    rw [if_neg h3]
    obtain ⟨l, g1, g2, g3, g4⟩ := getL_ok _ _ _ rfl h2
    have g5 : (getL (numL b 4).1 (numL b 4).2.2 []).2.2 = [] := List.eq_nil_of_length_eq_zero (by omega)
    simp only [List.nil_append] at g1 g4
    simp only [g1]
    rw [g5, List.append_nil] at g3
    have hb : putB l = b := by
      unfold putB
      rw [g2, ← g3]
      exact (hn h1).1.symm
    refine ⟨hb, g4, ?_⟩
    have := encs_ge l
    rw [← hb]; unfold putB
    rw [List.length_append]; omega
theorem getB_nil {b : List UInt8} (h : ¬ (getBL b).1 = 0) : (getBL b).2 = [] := by
  unfold getBL at *
  repeat' split
  all_goals first | rfl | (exfalso; simp_all)
end Go.Proofs.Ytdhhjhkonmacdaa
