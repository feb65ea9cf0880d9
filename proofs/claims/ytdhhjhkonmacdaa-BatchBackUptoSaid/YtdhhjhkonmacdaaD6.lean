/- num.Get. -/
import Derived.Test.YtdhhjhkonmacdaaD3
namespace Go.Proofs.Ytdhhjhkonmacdaa
open Go.RowKit
set_option linter.unusedSimpArgs false
set_option maxHeartbeats 4000000
set_option linter.unusedVariables false
attribute [local irreducible] QV EvU Wt J G Fin
/-- The number of bytes, the least first. -/
def unle : List UInt8 → Nat
  | [] => 0
  | b :: r => b.toNat + 256 * unle r
theorem unle_lt : ∀ l : List UInt8, unle l < 2 ^ (8 * l.length)
  | [] => by simp [unle]
  | b :: r => by
    have h := unle_lt r
    have hb : b.toNat < 256 := b.toNat_lt
    have : 2 ^ (8 * (r.length + 1)) = 256 * 2 ^ (8 * r.length) := by rw [Nat.mul_add, Nat.pow_add, Nat.mul_comm]
    rw [List.length_cons, this]
    simp only [unle]
    omega
theorem unle_snoc : ∀ (l : List UInt8) (b : UInt8), unle (l ++ [b]) = unle l + b.toNat * 2 ^ (8 * l.length)
  | [], b => by simp [unle]
  | a :: r, b => by
    have : 2 ^ (8 * (r.length + 1)) = 256 * 2 ^ (8 * r.length) := by rw [Nat.mul_add, Nat.pow_add, Nat.mul_comm]
    simp only [List.cons_append, unle, unle_snoc r b, List.length_cons, this]
    rw [Nat.mul_add, Nat.mul_left_comm, Nat.add_assoc]
theorem or_step {n c i : Nat} (hn : n < 2 ^ (8 * i)) (hc : c < 256) (hi : i < 8) :
    bor .u64 (n : Int) (IntKind.u64.wrap ((c : Int) * 2 ^ (min (8 * (i : Int)).toNat IntKind.u64.bits))) = ((n + c * 2 ^ (8 * i) : Nat) : Int) := by
  have h8 : (8 * (i : Int)).toNat = 8 * i := by omega
  have hm : min (8 * i) IntKind.u64.bits = 8 * i := Nat.min_eq_left (by simp only [IntKind.bits]; omega)
  have hp : c * 2 ^ (8 * i) < 18446744073709551616 := by
    have h1 : 2 ^ (8 * i) ≤ 2 ^ 56 := Nat.pow_le_pow_right (by decide) (by omega)
    have h2 : c * 2 ^ (8 * i) ≤ 255 * 2 ^ 56 := Nat.mul_le_mul (by omega) h1
    omega
  have hn2 : n < 18446744073709551616 := by
    have h1 : 2 ^ (8 * i) ≤ 2 ^ 56 := Nat.pow_le_pow_right (by decide) (by omega)
    omega
  rw [h8, hm]
  have hz : ((c : Int) * 2 ^ (8 * i)) = ((c * 2 ^ (8 * i) : Nat) : Int) := by simp
  rw [hz, wrap_u64 (by omega) (by omega)]
  unfold bor
  have hb : (BitVec.ofInt IntKind.u64.bits (n : Int) ||| BitVec.ofInt IntKind.u64.bits ((c * 2 ^ (8 * i) : Nat) : Int)).toNat = n + c * 2 ^ (8 * i) := by
    rw [BitVec.toNat_or, BitVec.ofInt_natCast, BitVec.ofInt_natCast, BitVec.toNat_ofNat, BitVec.toNat_ofNat]
    rw [Nat.mod_eq_of_lt (show n < 2 ^ IntKind.u64.bits from hn2), Nat.mod_eq_of_lt (show c * 2 ^ (8 * i) < 2 ^ IntKind.u64.bits from hp)]
    rw [Nat.or_comm, Nat.mul_comm c, ← Nat.two_pow_add_eq_or_of_lt hn, Nat.add_comm]
  rw [hb, wrap_u64 (by omega) ?_]
  have h1 : 2 ^ (8 * i) ≤ 2 ^ 56 := Nat.pow_le_pow_right (by decide) (by omega)
  have h2 : c * 2 ^ (8 * i) ≤ 255 * 2 ^ 56 := Nat.mul_le_mul (by omega) h1
  omega
def getF (l : List UInt8) (at_ k : Nat) : Nat × Int := if l.length < at_ then (0, 2) else if l.length - at_ < k then (0, 4) else (unle ((l.drop at_).take k), 0)
theorem get_calls (b : Sl UInt8) (at_ k : Nat) (hk : k = 1 ∨ k = 2 ∨ k = 4 ∨ k = 8) (w : World) (hb : Dp.deep b w) (hl : b.l.length ≤ 140737488355328) : Calls Try.prog 50 [b.v, .int .i64 (at_ : Int), .int .i64 (k : Int)].toArray w fun e w' => e = .returned (.tuple #[.int .u64 ((getF b.l at_ k).1 : Int), .int .i64 (getF b.l at_ k).2]) ∧ Below w.heap.size w w' := by
  have hf : (decide ((k : Int) = 1) || decide ((k : Int) = 2) || decide ((k : Int) = 4) || decide ((k : Int) = 8)) = true := by
    rcases hk with rfl | rfl | rfl | rfl <;> rfl
  have hk8 : k ≤ 8 := by omega
  haveI := Old.of hb
  refine enter Try.func50 rfl Try.ntmps50 ?_
  repeat' (first
      | refine J.bu ?_
      | refine J.bg ?_
      | refine J.boxA nofun rfl .none (.plain rfl) (fun _ _ => ?_)
      | refine J.box1 nofun rfl .none (.plain rfl) rfl (fun _ _ => ?_)
      | refine J.alloc nofun rfl .none (fun _ _ => ?_)
      | refine J.sto ?_
      | refine J.stoN ?_
      | refine J.lit (fun _ _ => ?_)
      | refine J.alt nofun ?_ ?_
      | exact J.stop
      | refine G.condTh ?_
      | refine G.condFh ?_
      | refine J.call (fun w _ => fits_true k hf w) ?_
      | refine J.fin ?_
      | refine G.seq ?_
      | refine G.region ?_
      | refine G.draw (by kernel_rfl) (by kernel_rfl) ?_
      | refine Fin.go ?_
      | refine G.condT ?_
      | refine G.condF ?_
      | (refine G.cond rfl (fun h => ?_) (fun h => ?_) <;> (have hp := h; try simp only [decide_eq_true_eq, decide_eq_false_iff_not, Bool.and_eq_true, Bool.or_eq_true, Bool.and_eq_false_iff, Bool.or_eq_false_iff, Bool.not_eq_true', Bool.not_eq_false'] at hp))
      | refine G.ret ?_
      | refine G.skip ?_
      | refine G.exit ?_
      | refine G.block ?_
      | refine Fin.resS Try.results50 ?_
      | refine Fin.resT Try.results50 ?_)
  · refine fun w' hw => ⟨?_, hw.out⟩
    have : b.l.length < at_ := by simp at h; omega
    simp [getF, this]
  · refine fun w' hw => ⟨?_, hw.out⟩
    have h1 : ¬ b.l.length < at_ := by omega
    have h2 : b.l.length - at_ < k := by simpa [Sl.drop] using hp
    simp [getF, h1, h2]
  · have h1 : ¬ b.l.length < at_ := by rename_i hp1; omega
    have h2 : ¬ b.l.length - at_ < k := by simpa [Sl.drop] using hp
    have hS : ((b.drop at_ 1).head k).l = (b.l.drop at_).take k := rfl
    have hSl : ((b.drop at_ 1).head k).l.length = k := by rw [hS]; simp; omega
    haveI hKn : Kn w [] [] ((b.drop at_ 1).head k) := inferInstance
    generalize (b.drop at_ 1).head k = T at hS hSl hKn
    refine G.loopA (0 : Nat) (fun i => [(35, .int .i64 (i : Nat)), (34, .int .i64 (T.l.length : Int)), (33, T.v), (6, .int .u64 (unle (T.l.take i) : Nat))]) (fun _ => []) (fun i => i ≤ k) (fun i => k - i) (by omega) ?_
    rintro i hi
    by_cases hik : i < k
    · have hb1 : (el T.l default i).toNat < 256 := (el T.l default i).toNat_lt
      have hlt : unle (T.l.take i) < 2 ^ (8 * i) := by
        have := unle_lt (T.l.take i)
        rwa [List.length_take, Nat.min_eq_left (by omega)] at this
      have hstep : Value.int .u64 (bor .u64 ((unle (T.l.take i) : Nat) : Int) (IntKind.u64.wrap (((el T.l default i).toNat : Int) * 2 ^ (min (8 * (i : Int)).toNat IntKind.u64.bits)))) = Value.int .u64 ((unle (T.l.take (i + 1)) : Nat) : Int) := by
        rw [or_step hlt hb1 (by omega), el_take T.l default i (by omega), unle_snoc, List.length_take, Nat.min_eq_left (by omega)]
      repeat' (first
          | refine J.bu ?_
          | refine J.bg ?_
          | refine J.boxA nofun rfl .none (.plain rfl) (fun _ _ => ?_)
          | refine J.box1 nofun rfl .none (.plain rfl) rfl (fun _ _ => ?_)
          | refine J.alloc nofun rfl .none (fun _ _ => ?_)
          | refine J.sto ?_
          | refine J.stoN ?_
          | refine J.lit (fun _ _ => ?_)
          | refine J.alt nofun ?_ ?_
          | exact J.stop
          | refine G.condTh ?_
          | refine G.condFh ?_
          | refine J.fin ?_
          | refine G.seq ?_
          | refine G.region ?_
          | refine G.draw (by kernel_rfl) (by kernel_rfl) ?_
          | refine Fin.go ?_
          | refine G.condT ?_
          | refine G.condF ?_
          | (refine G.cond rfl (fun h => ?_) (fun h => ?_) <;> (have hp := h; try simp only [decide_eq_true_eq, decide_eq_false_iff_not, Bool.and_eq_true, Bool.or_eq_true, Bool.and_eq_false_iff, Bool.or_eq_false_iff, Bool.not_eq_true', Bool.not_eq_false'] at hp))
          | refine G.ret ?_
          | refine G.skip ?_
          | refine G.exit ?_
          | refine G.block ?_
          | refine Fin.resS Try.results50 ?_
          | refine Fin.resT Try.results50 ?_)
      · refine Fin.again (i + 1) (by omega) (by omega)
    · skip
      repeat' (first
          | refine J.bu ?_
          | refine J.bg ?_
          | refine J.boxA nofun rfl .none (.plain rfl) (fun _ _ => ?_)
          | refine J.box1 nofun rfl .none (.plain rfl) rfl (fun _ _ => ?_)
          | refine J.alloc nofun rfl .none (fun _ _ => ?_)
          | refine J.sto ?_
          | refine J.stoN ?_
          | refine J.lit (fun _ _ => ?_)
          | refine J.alt nofun ?_ ?_
          | exact J.stop
          | refine G.condTh ?_
          | refine G.condFh ?_
          | refine J.fin ?_
          | refine G.seq ?_
          | refine G.region ?_
          | refine G.draw (by kernel_rfl) (by kernel_rfl) ?_
          | refine Fin.go ?_
          | refine G.condT ?_
          | refine G.condF ?_
          | (refine G.cond rfl (fun h => ?_) (fun h => ?_) <;> (have hp := h; try simp only [decide_eq_true_eq, decide_eq_false_iff_not, Bool.and_eq_true, Bool.or_eq_true, Bool.and_eq_false_iff, Bool.or_eq_false_iff, Bool.not_eq_true', Bool.not_eq_false'] at hp))
          | refine G.ret ?_
          | refine G.skip ?_
          | refine G.exit ?_
          | refine G.block ?_
          | refine Fin.resS Try.results50 ?_
          | refine Fin.resT Try.results50 ?_)
      refine fun w' hw => ⟨?_, hw.out⟩
      simp only [getF, if_neg h1, if_neg h2]
      rw [← hS, show i = T.l.length by omega, List.take_length]
end Go.Proofs.Ytdhhjhkonmacdaa
