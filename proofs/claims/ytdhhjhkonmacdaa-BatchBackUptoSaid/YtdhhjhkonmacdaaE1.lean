/- batch: the plain law: what is put is got, what is got is put. -/
import Derived.Test.YtdhhjhkonmacdaaD12
namespace Go.Proofs.Ytdhhjhkonmacdaa
open Go.RowKit
set_option linter.unusedSimpArgs false
set_option maxHeartbeats 4000000
set_option linter.unusedVariables false
theorem le_succ (n k : Nat) : le n (k + 1) = byteOf (n : Int) :: le (n / 256) k := by
  unfold le
  rw [List.range_succ_eq_map, List.map_cons, List.map_map]
  congr 1
  · simp
  · apply List.map_congr_left
    intro j _
    have : 2 ^ (8 * (j + 1)) = 256 * 2 ^ (8 * j) := by rw [Nat.mul_add, Nat.pow_add, Nat.mul_comm]
    show byteOf (((n / 2 ^ (8 * (j + 1)) : Nat)) : Int) = byteOf (((n / 256 / 2 ^ (8 * j) : Nat)) : Int)
    rw [this, Nat.div_div_eq_div_mul]
theorem byteOf_nat (n : Nat) : (byteOf (n : Int)).toNat = n % 256 := by
  unfold byteOf
  rw [show ((n : Int) % 256).toNat = n % 256 by omega, UInt8.toNat_ofNat']
  omega
theorem byteOf_back (b : UInt8) : byteOf (b.toNat : Int) = b := by
  apply UInt8.toNat_inj.1
  rw [byteOf_nat]; have := b.toNat_lt; omega
theorem unle_le : ∀ (k n : Nat), n < 2 ^ (8 * k) → unle (le n k) = n
  | 0, n, h => by simp at h; subst h; rfl
  | k + 1, n, h => by
    have hp : 2 ^ (8 * (k + 1)) = 256 * 2 ^ (8 * k) := by rw [Nat.mul_add, Nat.pow_add, Nat.mul_comm]
    rw [le_succ, unle, byteOf_nat, unle_le k (n / 256) (by rw [hp] at h; exact Nat.div_lt_of_lt_mul h)]
    omega
theorem le_unle : ∀ (l : List UInt8), le (unle l) l.length = l
  | [] => rfl
  | b :: r => by
    rw [List.length_cons, le_succ, unle]
    have hb := b.toNat_lt
    have h1 : byteOf ((b.toNat + 256 * unle r : Nat) : Int) = b := by
      apply UInt8.toNat_inj.1
      rw [byteOf_nat]; omega
    rw [h1, show (b.toNat + 256 * unle r) / 256 = unle r by omega, le_unle r]
theorem le1 (b : UInt8) : le (unle [b]) 1 = [b] := le_unle [b]
theorem byteOf_unle1 (b : UInt8) : byteOf (unle [b] : Nat) = b := by
  have := le1 b
  rw [le_succ] at this
  injection this
theorem data_textOf (l : List UInt8) : (textOf l).data.toList = l := by simp [textOf]
theorem textOf_data (p : ByteArray) : textOf p.data.toList = p := by simp [textOf]
theorem textOf_size (l : List UInt8) : (textOf l).size = l.length := by simp [textOf, ByteArray.size]
/-! over lists -/
def numL (l : List UInt8) (k : Nat) : Nat × Int × List UInt8 := if l.length < k then (0, 4, l) else (unle (l.take k), 0, l.drop k)
def takL (l : List UInt8) (n : Nat) : List UInt8 × Int × List UInt8 := if l.length < n then ([], 4, l) else (l.take n, 0, l.drop n)
def chL (s : List UInt8) : Int × ByteArray × List UInt8 × Bool × List UInt8 :=
  let q1 := numL s 1
  if ¬ q1.2.1 = 0 then (q1.2.1, e0, [], false, q1.2.2)
  else
    let q2 := takL q1.2.2 q1.1
    if ¬ q2.2.1 = 0 then (q2.2.1, e0, [], false, q2.2.2)
    else
      let q3 := numL q2.2.2 1
      if ¬ q3.2.1 = 0 then (q3.2.1, textOf q2.1, [], false, q3.2.2)
      else if 1 < q3.1 then (5, textOf q2.1, [], false, q3.2.2)
      else if q3.1 = 1 then (0, textOf q2.1, [], true, q3.2.2)
      else
        let q4 := numL q3.2.2 4
        if ¬ q4.2.1 = 0 then (q4.2.1, textOf q2.1, [], false, q4.2.2)
        else if 524288 < q4.1 then (3, textOf q2.1, [], false, q4.2.2)
        else
          let q5 := takL q4.2.2 q4.1
          (q5.2.1, textOf q2.1, q5.1, false, q5.2.2)
theorem numS_L (s : Sl UInt8) (k : Nat) : ((numS s k).1, (numS s k).2.1, (numS s k).2.2.l) = numL s.l k := by
  unfold numS numL; split <;> simp [Sl.drop]
theorem takS_L (s : Sl UInt8) (k : Nat) : ((takeS s k).1.l, (takeS s k).2.1, (takeS s k).2.2.l) = takL s.l k := by
  unfold takeS takL; split <;> simp [Sl.drop, Sl.head]
theorem chS_L (s : Sl UInt8) : ((chS s).1, (chS s).2.1, (chS s).2.2.1, (chS s).2.2.2.1, (chS s).2.2.2.2.l) = chL s.l := by
  unfold chS chL
  simp only [← numS_L, ← takS_L]
  repeat' split
  all_goals rfl
def getL : Nat → List UInt8 → List PC → Int × List PC × List UInt8
  | 0, s, acc => (0, acc, s)
  | n + 1, s, acc =>
    if ¬ (chL s).1 = 0 then ((chL s).1, [], s)
    else if mayP ((acc ++ [((chL s).2.1, (chL s).2.2.1, (chL s).2.2.2.1)]).drop ((acc ++ [((chL s).2.1, (chL s).2.2.1, (chL s).2.2.2.1)]).length - 2)) = false then (5, [], s)
    else getL n (chL s).2.2.2.2 (acc ++ [((chL s).2.1, (chL s).2.2.1, (chL s).2.2.2.1)])
theorem getN_L : ∀ (n : Nat) (s : Sl UInt8) (acc : List PC), ((getN n s acc).1, (getN n s acc).2.1, (getN n s acc).2.2.l) = getL n s.l acc
  | 0, s, acc => rfl
  | n + 1, s, acc => by
    unfold getN getL
    rw [← chS_L]
    simp only
    split
    · rfl
    · split
      · rfl
      · exact getN_L n _ _
def getBL (b : List UInt8) : Int × List PC :=
  if ¬ (numL b 4).2.1 = 0 then ((numL b 4).2.1, [])
  else if ¬ (getL (numL b 4).1 (numL b 4).2.2 []).1 = 0 then ((getL (numL b 4).1 (numL b 4).2.2 []).1, [])
  else if 0 < (getL (numL b 4).1 (numL b 4).2.2 []).2.2.length then (5, [])
  else (0, (getL (numL b 4).1 (numL b 4).2.2 []).2.1)
theorem getB_L (s : Sl UInt8) : getB s = getBL s.l := by
  unfold getB getBL
  rw [← numS_L, ← getN_L]
/-! may -/
theorem rises_tail {f : Bool} {p : ByteArray} {x : ByteArray × Nat} {l : List (ByteArray × Nat)} (h : rises f p (x :: l) = true) : rises true e0 l = true := by
  match l with
  | [] => rfl
  | (k, n) :: r =>
    simp only [rises, Bool.and_eq_true] at h ⊢
    refine ⟨?_, h.2.2⟩
    have := h.2.1
    unfold kvOk at *
    simp only [Bool.not_eq_true', Bool.or_eq_false_iff, Bool.and_eq_false_iff] at this ⊢
    exact ⟨⟨this.1.1, .inl rfl⟩, this.2⟩
theorem rises_drop : ∀ (i : Nat) (l : List (ByteArray × Nat)), rises true e0 l = true → rises true e0 (l.drop i) = true
  | 0, l, h => h
  | i + 1, [], h => by simpa using h
  | i + 1, x :: l, h => rises_drop i l (rises_tail h)
theorem rises_take : ∀ (i : Nat) (f : Bool) (p : ByteArray) (l : List (ByteArray × Nat)), rises f p l = true → rises f p (l.take i) = true
  | 0, f, p, l, h => rfl
  | i + 1, f, p, [], h => rfl
  | i + 1, f, p, (k, n) :: l, h => by
    simp only [rises, Bool.and_eq_true, List.take_succ_cons] at h ⊢
    exact ⟨h.1, rises_take i _ _ _ h.2⟩
theorem rises_snoc2 : ∀ (f : Bool) (p : ByteArray) (l : List (ByteArray × Nat)) (y x : ByteArray × Nat), rises f p (l ++ [y]) = true → rises true e0 [y, x] = true → rises f p (l ++ [y, x]) = true
  | f, p, [], (k, n), (k2, n2), h1, h2 => by
    simp only [rises, Bool.and_eq_true, List.nil_append] at h1 h2 ⊢
    exact ⟨h1.1, h2.2.1, trivial⟩
  | f, p, (k, n) :: l, y, x, h1, h2 => by
    simp only [rises, Bool.and_eq_true, List.cons_append] at h1 ⊢
    exact ⟨h1.1, rises_snoc2 _ _ l y x h1.2 h2⟩
theorem mayP_split (l : List PC) : mayP l = true ↔ (∀ x ∈ l, x.2.2 = true → x.2.1 = []) ∧ rises true e0 (l.map fun x => (x.1, x.2.1.length)) = true := by
  unfold mayP
  simp only [Bool.and_eq_true, Bool.not_eq_true', List.any_eq_false, decide_eq_true_eq, not_and]
  constructor
  · rintro ⟨h1, h2⟩
    refine ⟨fun x hx hg => ?_, h2⟩
    have := h1 x hx hg
    exact List.eq_nil_of_length_eq_zero (by omega)
  · rintro ⟨h1, h2⟩
    exact ⟨fun x hx hg => by rw [h1 x hx hg]; simp, h2⟩
theorem mayP_sub {l : List PC} (h : mayP l = true) (i j : Nat) : mayP ((l.take i).drop j) = true := by
  rw [mayP_split] at *
  refine ⟨fun x hx => h.1 x (List.mem_of_mem_take (List.mem_of_mem_drop hx)), ?_⟩
  rw [List.map_drop, List.map_take]
  exact rises_drop _ _ (rises_take _ _ _ _ h.2)
theorem mayP_snoc {l : List PC} {x : PC} (h : mayP l = true) (h2 : mayP ((l ++ [x]).drop ((l ++ [x]).length - 2)) = true) : mayP (l ++ [x]) = true := by
  rcases List.eq_nil_or_concat l with rfl | ⟨r, y, rfl⟩
  · simpa using h2
  · have hd : (r ++ [y] ++ [x]).drop ((r ++ [y] ++ [x]).length - 2) = [y, x] := by
      rw [show (r ++ [y] ++ [x]).length - 2 = r.length by simp, List.append_assoc, List.drop_left]; rfl
    simp only [List.concat_eq_append] at *
    rw [hd] at h2
    rw [mayP_split] at *
    refine ⟨fun z hz => ?_, ?_⟩
    · rcases List.mem_append.1 hz with hz | hz
      · exact h.1 z hz
      · simp at hz; subst hz; exact h2.1 z (by simp)
    · rw [List.map_append, List.map_append, List.append_assoc]
      refine rises_snoc2 _ _ _ _ _ (by simpa using h.2) (by simpa using h2.2)
theorem mayP_mem {l : List PC} (h : mayP l = true) {x : PC} (hx : x ∈ l) : (x.1.size ≤ 16 ∧ x.2.1.length ≤ 524288) ∧ (x.2.2 = true → x.2.1 = []) := by
  rw [mayP_split] at h
  exact ⟨rises_mem _ _ _ h.2 (x.1, x.2.1.length) (List.mem_map_of_mem (f := fun x : PC => (x.1, x.2.1.length)) hx), h.1 x hx⟩
end Go.Proofs.Ytdhhjhkonmacdaa
