/- numbers as bytes. -/
import Derived.Test.YtdhhjhkonmacdaaD1
namespace Go.Proofs.Ytdhhjhkonmacdaa
open Go.RowKit
set_option linter.unusedSimpArgs false
set_option maxHeartbeats 4000000
set_option linter.unusedVariables false
attribute [local irreducible] QV EvU Wt J G Fin
theorem fits_calls (k : Int) (w : World) : Calls Try.prog 54 [.int .i64 k].toArray w fun e w' => e = .returned (.bool (decide (k = 1) || decide (k = 2) || decide (k = 4) || decide (k = 8))) ∧ Below w.heap.size w w' := by
  refine enter Try.func54 rfl Try.ntmps54 ?_
  repeat' (first
      | refine J.bu ?_
      | refine J.bg ?_
      | refine J.boxA nofun rfl .none (.plain rfl) (fun _ _ => ?_)
      | refine J.box1 nofun rfl .none (.plain rfl) rfl (fun _ _ => ?_)
      | refine J.alloc nofun rfl .none (fun _ _ => ?_)
      | refine J.sto ?_
      | refine J.stoN ?_
      | refine J.lit (fun _ _ => ?_)
      | refine J.alt nofun ?_ ?_
      | exact J.stop
      | refine J.fin ?_
      | refine G.seq ?_
      | refine G.region ?_
      | refine G.draw (by kernel_rfl) (by kernel_rfl) ?_
      | refine Fin.go ?_
      | refine G.condT ?_
      | refine G.condF ?_
      | (refine G.cond rfl (fun h => ?_) (fun h => ?_) <;> (have hp := h; try simp only [decide_eq_true_eq, decide_eq_false_iff_not, Bool.and_eq_true, Bool.or_eq_true, Bool.and_eq_false_iff, Bool.or_eq_false_iff, Bool.not_eq_true', Bool.not_eq_false'] at hp))
      | refine G.ret ?_
      | refine G.skip ?_
      | refine G.exit ?_
      | refine G.block ?_
      | refine Fin.resS Try.results54 ?_
      | refine Fin.resT Try.results54 ?_)
  all_goals first | exact fun w' hw => ⟨rfl, hw.out⟩
def LenOk (x : Nat) (r : Int) : Prop := 0 ≤ r ∧ r ≤ 64 ∧ (8 < r ↔ 256 ≤ x) ∧ (16 < r ↔ 65536 ≤ x) ∧ (32 < r ↔ 4294967296 ≤ x)
def tabOk (T : ByteArray) : Bool := (List.range 256).all fun j => decide (0 ≤ byteAt T j) && decide (byteAt T j ≤ 8) && (decide (j = 0) || decide (1 ≤ byteAt T j))
theorem len_goal {T : ByteArray} {n : Int} {x j : Nat} (hc : tabOk T = true) (hj : j < 256) (hn : 0 ≤ n ∧ n ≤ 56) (h : ∀ t, 0 ≤ t → t ≤ 8 → (1 ≤ j → 1 ≤ t) → LenOk x (n + t)) : LenOk x (IntKind.i64.wrap (n + IntKind.i64.wrap (byteAt T j))) := by
  have := (List.all_eq_true.1 hc) j (by simpa using hj)
  simp only [Bool.and_eq_true, Bool.or_eq_true, decide_eq_true_eq] at this
  rw [wrap_i64 (z := byteAt T j) (by omega) (by omega), wrap_i64 (by omega) (by omega)]
  exact h _ this.1.1 this.1.2 (fun h => by omega)
theorem J.tab {P : Program} {N : Nat} {w0 : World} {ops : Array Oper} {Q : Act → World → Prop} {l : Pl Oper} {s : Slots} {mo : List Nat} {kk m : List Res} {f : Fl} {d : Nat} {x y : Operand} {ty t : TypeId} {ps : String} {af : Array Edge} {k : IntKind} {a : Int} {p : ByteArray} {j : Nat} [hu : TyU P t .string]
    (K : J P N w0 ops Q l ((d, .int .u8 (byteAt p j)) :: s) mo kk m) (hd : Nat.blt d N = true := by rfl) (hx : EvU N true s x (.string p) := by exact EvU.plain rfl) (hy : EvU N true s y (.int k a) := by exact EvU.plain rfl) (hi : NatI a j := by infer_instance) (hj : j < 256 := by omega) (hp : Nat.ble 256 p.size = true := by decide +kernel) :
    J P N w0 ops Q (.op f ⟨some d, .index t x y, ty, ps, af, none⟩ l) s mo kk m :=
  J.q rfl hd Wt.none (q_indexS hx hy hi (fun _ => Nat.lt_of_lt_of_le hj (Nat.le_of_ble_eq_true hp))) K
theorem wrapU8 {x : Nat} (h : x < 256) : (IntKind.u8.wrap (x : Int)).toNat = x := by rw [wrap_u8 (by omega) (by omega)]; simp
theorem len_calls (x : Nat) (hx : x < 18446744073709551616) (w : World) : Calls Try.prog 55 [.int .u64 (x : Int)].toArray w fun e w' => ∃ r, LenOk x r ∧ e = .returned (.int .i64 r) ∧ Below w.heap.size w w' := by
  refine enter Try.func55 rfl Try.ntmps55 ?_
  repeat' (first
      | refine J.tab ?_
      | refine J.bu ?_
      | refine J.bg ?_
      | refine J.boxA nofun rfl .none (.plain rfl) (fun _ _ => ?_)
      | refine J.box1 nofun rfl .none (.plain rfl) rfl (fun _ _ => ?_)
      | refine J.alloc nofun rfl .none (fun _ _ => ?_)
      | refine J.sto ?_
      | refine J.stoN ?_
      | refine J.lit (fun _ _ => ?_)
      | refine J.alt nofun ?_ ?_
      | exact J.stop
      | refine G.condTh ?_
      | refine G.condFh ?_
      | refine J.fin ?_
      | refine G.seq ?_
      | refine G.region ?_
      | refine G.draw (by kernel_rfl) (by kernel_rfl) ?_
      | refine Fin.go ?_
      | refine G.condT ?_
      | refine G.condF ?_
      | (refine G.cond rfl (fun h => ?_) (fun h => ?_) <;> (have hp := h; try simp only [decide_eq_true_eq, decide_eq_false_iff_not, Bool.and_eq_true, Bool.or_eq_true, Bool.and_eq_false_iff, Bool.or_eq_false_iff, Bool.not_eq_true', Bool.not_eq_false'] at hp))
      | refine G.ret ?_
      | refine G.skip ?_
      | refine G.exit ?_
      | refine G.block ?_
      | refine Fin.resS Try.results55 ?_
      | refine Fin.resT Try.results55 ?_)
  all_goals
    refine fun w' hw => ⟨_, ?_, rfl, hw.out⟩
    first
      | (refine len_goal (by decide +kernel) ?_ (by omega) (fun t h0 h1 h2 => ?_)
         · first | omega | (rw [wrapU8 (by omega)]; omega)
         · first | (unfold LenOk; omega) | (rw [wrapU8 (by omega)] at h2; unfold LenOk; omega))
     
end Go.Proofs.Ytdhhjhkonmacdaa
