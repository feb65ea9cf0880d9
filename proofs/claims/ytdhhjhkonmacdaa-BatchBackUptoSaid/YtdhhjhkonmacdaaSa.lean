/- Generic: steps that find their own rule. -/
import Derived.Test.YtdhhjhkonmacdaaSn
namespace Go.Proofs.Ytdhhjhkonmacdaa
open Go.RowKit
set_option linter.unusedVariables false
set_option linter.unusedSimpArgs false
theorem mem0 {x : Res} {l : List Res} : x ∈ x :: l := List.mem_cons_self
theorem mem1 {x y : Res} {l : List Res} (h : x ∈ l) : x ∈ y :: l := List.mem_cons_of_mem _ h
theorem not0 {x : Nat} : x ∉ ([] : List Nat) := by simp
theorem wrap_i64 {z : Int} (h1 : -9223372036854775808 ≤ z) (h2 : z ≤ 9223372036854775807) : IntKind.wrap .i64 z = z := by
  have : IntKind.wrap .i64 z = if z % 18446744073709551616 ≥ 9223372036854775808 then z % 18446744073709551616 - 18446744073709551616 else z % 18446744073709551616 := by simp [IntKind.wrap, IntKind.bits, IntKind.signed]
  rw [this]; split <;> omega
theorem wrap_u64 {z : Int} (h1 : 0 ≤ z) (h2 : z ≤ 18446744073709551615) : IntKind.wrap .u64 z = z := by
  simp only [IntKind.wrap, IntKind.bits, IntKind.signed]; simp; omega
theorem wrap_u16 {z : Int} (h1 : 0 ≤ z) (h2 : z ≤ 65535) : IntKind.wrap .u16 z = z := by
  simp only [IntKind.wrap, IntKind.bits, IntKind.signed]; simp; omega
theorem wrap_u32 {z : Int} (h1 : 0 ≤ z) (h2 : z ≤ 4294967295) : IntKind.wrap .u32 z = z := by
  simp only [IntKind.wrap, IntKind.bits, IntKind.signed]; simp; omega
theorem wrap_u8 {z : Int} (h1 : 0 ≤ z) (h2 : z ≤ 255) : IntKind.wrap .u8 z = z := by
  simp only [IntKind.wrap, IntKind.bits, IntKind.signed]; simp; omega
/-! which operation it is -/
section
variable {P : Program} {N : Nat} {w0 : World} {c : Bool} {s : Slots} {mo : List Nat} {m : List Res} {d : Option Tmp} {v : Value} {ty : TypeId} {ps : String} {af : Array Edge} {g : Option (Nat × Bool)}
theorem QVg.bin {bo : BinOp} {t ty2 : TypeId} {x y : Operand} (h : QV P N w0 c s mo m ⟨d, .binOp bo t x y ty2, ty, ps, af, g⟩ v) : QV P N w0 c s mo m ⟨d, .binOp bo t x y ty2, ty, ps, af, g⟩ v := h
theorem QVg.lss {t ty2 : TypeId} {x y : Operand} (h : QV P N w0 c s mo m ⟨d, .binOp .lss t x y ty2, ty, ps, af, g⟩ v) : QV P N w0 c s mo m ⟨d, .binOp .lss t x y ty2, ty, ps, af, g⟩ v := h
theorem QVg.leq {t ty2 : TypeId} {x y : Operand} (h : QV P N w0 c s mo m ⟨d, .binOp .leq t x y ty2, ty, ps, af, g⟩ v) : QV P N w0 c s mo m ⟨d, .binOp .leq t x y ty2, ty, ps, af, g⟩ v := h
theorem QVg.gtr {t ty2 : TypeId} {x y : Operand} (h : QV P N w0 c s mo m ⟨d, .binOp .gtr t x y ty2, ty, ps, af, g⟩ v) : QV P N w0 c s mo m ⟨d, .binOp .gtr t x y ty2, ty, ps, af, g⟩ v := h
theorem QVg.geq {t ty2 : TypeId} {x y : Operand} (h : QV P N w0 c s mo m ⟨d, .binOp .geq t x y ty2, ty, ps, af, g⟩ v) : QV P N w0 c s mo m ⟨d, .binOp .geq t x y ty2, ty, ps, af, g⟩ v := h
theorem QVg.eql {t ty2 : TypeId} {x y : Operand} (h : QV P N w0 c s mo m ⟨d, .binOp .eql t x y ty2, ty, ps, af, g⟩ v) : QV P N w0 c s mo m ⟨d, .binOp .eql t x y ty2, ty, ps, af, g⟩ v := h
theorem QVg.neq {t ty2 : TypeId} {x y : Operand} (h : QV P N w0 c s mo m ⟨d, .binOp .neq t x y ty2, ty, ps, af, g⟩ v) : QV P N w0 c s mo m ⟨d, .binOp .neq t x y ty2, ty, ps, af, g⟩ v := h
theorem QVg.add {t ty2 : TypeId} {x y : Operand} (h : QV P N w0 c s mo m ⟨d, .binOp .add t x y ty2, ty, ps, af, g⟩ v) : QV P N w0 c s mo m ⟨d, .binOp .add t x y ty2, ty, ps, af, g⟩ v := h
theorem QVg.sub {t ty2 : TypeId} {x y : Operand} (h : QV P N w0 c s mo m ⟨d, .binOp .sub t x y ty2, ty, ps, af, g⟩ v) : QV P N w0 c s mo m ⟨d, .binOp .sub t x y ty2, ty, ps, af, g⟩ v := h
theorem QVg.mul {t ty2 : TypeId} {x y : Operand} (h : QV P N w0 c s mo m ⟨d, .binOp .mul t x y ty2, ty, ps, af, g⟩ v) : QV P N w0 c s mo m ⟨d, .binOp .mul t x y ty2, ty, ps, af, g⟩ v := h
theorem QVg.load {t : TypeId} {x : Operand} (h : QV P N w0 c s mo m ⟨d, .load t x, ty, ps, af, g⟩ v) : QV P N w0 c s mo m ⟨d, .load t x, ty, ps, af, g⟩ v := h
theorem QVg.pick {x y z : Operand} (h : QV P N w0 c s mo m ⟨d, .pick x y z, ty, ps, af, g⟩ v) : QV P N w0 c s mo m ⟨d, .pick x y z, ty, ps, af, g⟩ v := h
theorem QVg.builtin {b : Builtin} {as : Array Operand} {ts : Array TypeId} (h : QV P N w0 c s mo m ⟨d, .call ⟨.builtin b, as, ts⟩, ty, ps, af, g⟩ v) : QV P N w0 c s mo m ⟨d, .call ⟨.builtin b, as, ts⟩, ty, ps, af, g⟩ v := h
theorem QVg.convert {t ty2 : TypeId} {x : Operand} (h : QV P N w0 c s mo m ⟨d, .convert t ty2 x, ty, ps, af, g⟩ v) : QV P N w0 c s mo m ⟨d, .convert t ty2 x, ty, ps, af, g⟩ v := h
end
attribute [local irreducible] QV EvU Wt J G Fin

section
variable {P : Program} {N : Nat} {w0 : World} {ops : Array Oper} {Q : Act → World → Prop} {l : Pl Oper} {s : Slots} {mo : List Nat} {kk m m' : List Res} {o : Oper} {f : Fl} {v u : Value} {c : Bool} {d : Nat} {x y z : Operand} {ty t : TypeId} {ps : String} {af : Array Edge} {g : Option (Nat × Bool)} {k : IntKind} {a b : Int}
/-- An operation that reads and is not guarded. -/
theorem J.au (K : J P N w0 ops Q l ((d, v) :: s) mo kk m) (ho : o.dst = some d := by rfl) (hd : Nat.blt d N = true := by rfl) (hwt : o.guard = none := by rfl)
    (hq : QV P N w0 true s mo (f.sel kk m) o v := by
      first
      | exact q_move (by first | exact EvU.cond rfl | exact EvU.left rfl | exact EvU.left2 rfl | exact EvU.left3 rfl | exact EvU.plain rfl)
      | exact q_assign (by first | exact EvU.cond rfl | exact EvU.left rfl | exact EvU.left2 rfl | exact EvU.left3 rfl | exact EvU.plain rfl)
      | (apply QVg.load; first
          | exact q_load (by first | exact EvU.plain rfl | exact EvU.cond rfl | exact EvU.left rfl | exact EvU.left2 rfl | exact EvU.left3 rfl) (by repeat (first | exact mem0 | apply mem1)) (by repeat (first | exact Nth.zero | apply Nth.succ))
          | exact q_loadR (by first | exact EvU.plain rfl | exact EvU.cond rfl | exact EvU.left rfl | exact EvU.left2 rfl | exact EvU.left3 rfl) (by infer_instance) (by intro hc; first | omega | (simp at hc; omega)) (by repeat (first | exact Nth.zero | apply Nth.succ)) (by first | exact not0 | assumption | (simp; omega))
          | exact q_loadR0 (by first | exact EvU.plain rfl | exact EvU.cond rfl | exact EvU.left rfl | exact EvU.left2 rfl | exact EvU.left3 rfl) (by infer_instance) (by intro hc; first | omega | (simp at hc; omega)) (by repeat (first | exact Nth.zero | apply Nth.succ)) (by first | exact not0 | assumption | (simp; omega))
          | exact q_loadRN (by first | exact EvU.plain rfl | exact EvU.cond rfl | exact EvU.left rfl | exact EvU.left2 rfl | exact EvU.left3 rfl) (by infer_instance) (by intro hc; first | omega | (simp at hc; omega)) (by first | exact not0 | assumption | (simp; omega))
          | exact q_loadRS (by first | exact EvU.plain rfl | exact EvU.cond rfl | exact EvU.left rfl | exact EvU.left2 rfl | exact EvU.left3 rfl) (by infer_instance) (by intro hc; first | omega | (simp at hc; omega)) (by repeat (first | exact Cut.nil | apply Cut.take | apply Cut.drop)) (by first | exact not0 | assumption | (simp; omega))
          | exact q_loadN (by first | exact EvU.plain rfl | exact EvU.cond rfl | exact EvU.left rfl | exact EvU.left2 rfl | exact EvU.left3 rfl) (by repeat (first | exact mem0 | apply mem1)) (by repeat (first | exact Cut.nil | apply Cut.take | apply Cut.drop)))
      | exact q_field (by first | exact EvU.plain rfl | exact EvU.cond rfl | exact EvU.left rfl | exact EvU.left2 rfl | exact EvU.left3 rfl) (by first | exact Nat.zero_add _ | exact Nat.add_zero _ | (simp only [Nat.reduceAdd]; rfl) | rfl)
      | exact q_fieldA (by first | exact EvU.plain rfl | exact EvU.cond rfl | exact EvU.left rfl | exact EvU.left2 rfl | exact EvU.left3 rfl)
      | (apply QVg.bin; first
          | (apply QVg.lss; first
              | exact q_lss (by first | exact EvU.plain rfl | exact EvU.cond rfl | exact EvU.left rfl | exact EvU.left2 rfl | exact EvU.left3 rfl) (by first | exact EvU.plain rfl | exact EvU.cond rfl | exact EvU.left rfl | exact EvU.left2 rfl | exact EvU.left3 rfl)
              | exact q_lssS (by first | exact EvU.plain rfl | exact EvU.cond rfl | exact EvU.left rfl | exact EvU.left2 rfl | exact EvU.left3 rfl) (by first | exact EvU.plain rfl | exact EvU.cond rfl | exact EvU.left rfl | exact EvU.left2 rfl | exact EvU.left3 rfl))
          | (apply QVg.leq; first
              | exact q_leq (by first | exact EvU.plain rfl | exact EvU.cond rfl | exact EvU.left rfl | exact EvU.left2 rfl | exact EvU.left3 rfl) (by first | exact EvU.plain rfl | exact EvU.cond rfl | exact EvU.left rfl | exact EvU.left2 rfl | exact EvU.left3 rfl)
              | exact q_leqS (by first | exact EvU.plain rfl | exact EvU.cond rfl | exact EvU.left rfl | exact EvU.left2 rfl | exact EvU.left3 rfl) (by first | exact EvU.plain rfl | exact EvU.cond rfl | exact EvU.left rfl | exact EvU.left2 rfl | exact EvU.left3 rfl))
          | (apply QVg.gtr; first
              | exact q_gtr (by first | exact EvU.plain rfl | exact EvU.cond rfl | exact EvU.left rfl | exact EvU.left2 rfl | exact EvU.left3 rfl) (by first | exact EvU.plain rfl | exact EvU.cond rfl | exact EvU.left rfl | exact EvU.left2 rfl | exact EvU.left3 rfl)
              | exact q_gtrS (by first | exact EvU.plain rfl | exact EvU.cond rfl | exact EvU.left rfl | exact EvU.left2 rfl | exact EvU.left3 rfl) (by first | exact EvU.plain rfl | exact EvU.cond rfl | exact EvU.left rfl | exact EvU.left2 rfl | exact EvU.left3 rfl))
          | (apply QVg.geq; first
              | exact q_geq (by first | exact EvU.plain rfl | exact EvU.cond rfl | exact EvU.left rfl | exact EvU.left2 rfl | exact EvU.left3 rfl) (by first | exact EvU.plain rfl | exact EvU.cond rfl | exact EvU.left rfl | exact EvU.left2 rfl | exact EvU.left3 rfl)
              | exact q_geqS (by first | exact EvU.plain rfl | exact EvU.cond rfl | exact EvU.left rfl | exact EvU.left2 rfl | exact EvU.left3 rfl) (by first | exact EvU.plain rfl | exact EvU.cond rfl | exact EvU.left rfl | exact EvU.left2 rfl | exact EvU.left3 rfl))
          | (apply QVg.eql; first
              | exact q_eql (by first | exact EvU.plain rfl | exact EvU.cond rfl | exact EvU.left rfl | exact EvU.left2 rfl | exact EvU.left3 rfl) (by first | exact EvU.plain rfl | exact EvU.cond rfl | exact EvU.left rfl | exact EvU.left2 rfl | exact EvU.left3 rfl)
              | exact q_eqlB (by first | exact EvU.plain rfl | exact EvU.cond rfl | exact EvU.left rfl | exact EvU.left2 rfl | exact EvU.left3 rfl) (by first | exact EvU.plain rfl | exact EvU.cond rfl | exact EvU.left rfl | exact EvU.left2 rfl | exact EvU.left3 rfl)
              | exact q_eqlS (by first | exact EvU.plain rfl | exact EvU.cond rfl | exact EvU.left rfl | exact EvU.left2 rfl | exact EvU.left3 rfl) (by first | exact EvU.plain rfl | exact EvU.cond rfl | exact EvU.left rfl | exact EvU.left2 rfl | exact EvU.left3 rfl)
              | exact q_eqlX (by first | exact EvU.plain rfl | exact EvU.cond rfl | exact EvU.left rfl | exact EvU.left2 rfl | exact EvU.left3 rfl) (by first | exact EvU.plain rfl | exact EvU.cond rfl | exact EvU.left rfl | exact EvU.left2 rfl | exact EvU.left3 rfl) (by repeat (first | exact FEq.nil | apply FEq.int (by infer_instance) (by infer_instance) rfl (by repeat (first | exact Nth.zero | apply Nth.succ)) (by repeat (first | exact Nth.zero | apply Nth.succ)) | apply FEq.bool (by infer_instance) (by infer_instance) rfl (by repeat (first | exact Nth.zero | apply Nth.succ)) (by repeat (first | exact Nth.zero | apply Nth.succ)) | apply FEq.str (by infer_instance) (by infer_instance) rfl (by repeat (first | exact Nth.zero | apply Nth.succ)) (by repeat (first | exact Nth.zero | apply Nth.succ)))))
          | (apply QVg.neq; first
              | exact q_neq (by first | exact EvU.plain rfl | exact EvU.cond rfl | exact EvU.left rfl | exact EvU.left2 rfl | exact EvU.left3 rfl) (by first | exact EvU.plain rfl | exact EvU.cond rfl | exact EvU.left rfl | exact EvU.left2 rfl | exact EvU.left3 rfl)
              | exact q_neqB (by first | exact EvU.plain rfl | exact EvU.cond rfl | exact EvU.left rfl | exact EvU.left2 rfl | exact EvU.left3 rfl) (by first | exact EvU.plain rfl | exact EvU.cond rfl | exact EvU.left rfl | exact EvU.left2 rfl | exact EvU.left3 rfl)
              | exact q_neqS (by first | exact EvU.plain rfl | exact EvU.cond rfl | exact EvU.left rfl | exact EvU.left2 rfl | exact EvU.left3 rfl) (by first | exact EvU.plain rfl | exact EvU.cond rfl | exact EvU.left rfl | exact EvU.left2 rfl | exact EvU.left3 rfl)
              | exact q_neqX (by first | exact EvU.plain rfl | exact EvU.cond rfl | exact EvU.left rfl | exact EvU.left2 rfl | exact EvU.left3 rfl) (by first | exact EvU.plain rfl | exact EvU.cond rfl | exact EvU.left rfl | exact EvU.left2 rfl | exact EvU.left3 rfl) (by repeat (first | exact FEq.nil | apply FEq.int (by infer_instance) (by infer_instance) rfl (by repeat (first | exact Nth.zero | apply Nth.succ)) (by repeat (first | exact Nth.zero | apply Nth.succ)) | apply FEq.bool (by infer_instance) (by infer_instance) rfl (by repeat (first | exact Nth.zero | apply Nth.succ)) (by repeat (first | exact Nth.zero | apply Nth.succ)) | apply FEq.str (by infer_instance) (by infer_instance) rfl (by repeat (first | exact Nth.zero | apply Nth.succ)) (by repeat (first | exact Nth.zero | apply Nth.succ)))))
          | (apply QVg.add; first
              | exact q_addN (by first | exact EvU.plain rfl | exact EvU.cond rfl | exact EvU.left rfl | exact EvU.left2 rfl | exact EvU.left3 rfl) (by first | exact EvU.plain rfl | exact EvU.cond rfl | exact EvU.left rfl | exact EvU.left2 rfl | exact EvU.left3 rfl) (by intro hc; first | exact wrap_i64 (by omega) (by omega) | exact wrap_u64 (by omega) (by omega) | exact wrap_u8 (by omega) (by omega) | exact wrap_u32 (by omega) (by omega))
              | exact q_add (by first | exact EvU.plain rfl | exact EvU.cond rfl | exact EvU.left rfl | exact EvU.left2 rfl | exact EvU.left3 rfl) (by first | exact EvU.plain rfl | exact EvU.cond rfl | exact EvU.left rfl | exact EvU.left2 rfl | exact EvU.left3 rfl))
          | (apply QVg.sub; first
              | exact q_subN (by first | exact EvU.plain rfl | exact EvU.cond rfl | exact EvU.left rfl | exact EvU.left2 rfl | exact EvU.left3 rfl) (by first | exact EvU.plain rfl | exact EvU.cond rfl | exact EvU.left rfl | exact EvU.left2 rfl | exact EvU.left3 rfl) (by intro hc; first | exact wrap_i64 (by omega) (by omega) | exact wrap_u64 (by omega) (by omega) | exact wrap_u8 (by omega) (by omega) | exact wrap_u32 (by omega) (by omega))
              | exact q_sub (by first | exact EvU.plain rfl | exact EvU.cond rfl | exact EvU.left rfl | exact EvU.left2 rfl | exact EvU.left3 rfl) (by first | exact EvU.plain rfl | exact EvU.cond rfl | exact EvU.left rfl | exact EvU.left2 rfl | exact EvU.left3 rfl))
          | (apply QVg.mul; first
              | exact q_mulN (by first | exact EvU.plain rfl | exact EvU.cond rfl | exact EvU.left rfl | exact EvU.left2 rfl | exact EvU.left3 rfl) (by first | exact EvU.plain rfl | exact EvU.cond rfl | exact EvU.left rfl | exact EvU.left2 rfl | exact EvU.left3 rfl) (by intro hc; first | exact wrap_i64 (by omega) (by omega) | exact wrap_u64 (by omega) (by omega) | exact wrap_u8 (by omega) (by omega) | exact wrap_u32 (by omega) (by omega) | exact wrap_u16 (by omega) (by omega))
              | exact q_mul (by first | exact EvU.plain rfl | exact EvU.cond rfl | exact EvU.left rfl | exact EvU.left2 rfl | exact EvU.left3 rfl) (by first | exact EvU.plain rfl | exact EvU.cond rfl | exact EvU.left rfl | exact EvU.left2 rfl | exact EvU.left3 rfl))
          | exact q_quo (by first | exact EvU.plain rfl | exact EvU.cond rfl | exact EvU.left rfl | exact EvU.left2 rfl | exact EvU.left3 rfl) (by first | exact EvU.plain rfl | exact EvU.cond rfl | exact EvU.left rfl | exact EvU.left2 rfl | exact EvU.left3 rfl) (by intro hc; first | omega | (simp at hc; omega))
          | exact q_rem (by first | exact EvU.plain rfl | exact EvU.cond rfl | exact EvU.left rfl | exact EvU.left2 rfl | exact EvU.left3 rfl) (by first | exact EvU.plain rfl | exact EvU.cond rfl | exact EvU.left rfl | exact EvU.left2 rfl | exact EvU.left3 rfl) (by intro hc; first | omega | (simp at hc; omega))
          | exact q_shr (by first | exact EvU.plain rfl | exact EvU.cond rfl | exact EvU.left rfl | exact EvU.left2 rfl | exact EvU.left3 rfl) (by first | exact EvU.plain rfl | exact EvU.cond rfl | exact EvU.left rfl | exact EvU.left2 rfl | exact EvU.left3 rfl) (by intro hc; first | omega | (simp at hc; omega))
          | exact q_shl (by first | exact EvU.plain rfl | exact EvU.cond rfl | exact EvU.left rfl | exact EvU.left2 rfl | exact EvU.left3 rfl) (by first | exact EvU.plain rfl | exact EvU.cond rfl | exact EvU.left rfl | exact EvU.left2 rfl | exact EvU.left3 rfl) (by intro hc; first | omega | (simp at hc; omega))
          | exact q_band (by first | exact EvU.plain rfl | exact EvU.cond rfl | exact EvU.left rfl | exact EvU.left2 rfl | exact EvU.left3 rfl) (by first | exact EvU.plain rfl | exact EvU.cond rfl | exact EvU.left rfl | exact EvU.left2 rfl | exact EvU.left3 rfl)
          | exact q_bor (by first | exact EvU.plain rfl | exact EvU.cond rfl | exact EvU.left rfl | exact EvU.left2 rfl | exact EvU.left3 rfl) (by first | exact EvU.plain rfl | exact EvU.cond rfl | exact EvU.left rfl | exact EvU.left2 rfl | exact EvU.left3 rfl))
      | (apply QVg.pick; first
          | exact q_or (by first | exact EvU.plain rfl | exact EvU.cond rfl | exact EvU.left rfl | exact EvU.left2 rfl | exact EvU.left3 rfl) rfl
          | exact q_and (by first | exact EvU.plain rfl | exact EvU.cond rfl | exact EvU.left rfl | exact EvU.left2 rfl | exact EvU.left3 rfl) rfl
          | exact q_or2 (by first | exact EvU.plain rfl | exact EvU.cond rfl | exact EvU.left rfl | exact EvU.left2 rfl | exact EvU.left3 rfl) rfl
          | exact q_and2 (by first | exact EvU.plain rfl | exact EvU.cond rfl | exact EvU.left rfl | exact EvU.left2 rfl | exact EvU.left3 rfl) rfl
          | exact q_pick (by first | exact EvU.plain rfl | exact EvU.cond rfl | exact EvU.left rfl | exact EvU.left2 rfl | exact EvU.left3 rfl) (by first | exact EvU.plain rfl | exact EvU.cond rfl | exact EvU.left rfl | exact EvU.left2 rfl | exact EvU.left3 rfl) (by first | exact EvU.plain rfl | exact EvU.cond rfl | exact EvU.left rfl | exact EvU.left2 rfl | exact EvU.left3 rfl))
      | exact q_index' (by first | exact EvU.plain rfl | exact EvU.cond rfl | exact EvU.left rfl | exact EvU.left2 rfl | exact EvU.left3 rfl) (by first | exact EvU.plain rfl | exact EvU.cond rfl | exact EvU.left rfl | exact EvU.left2 rfl | exact EvU.left3 rfl) (by infer_instance) (by infer_instance) (by intro hc; first | omega | (simp at hc; omega))
      | (apply QVg.builtin; first
          | exact q_len (by first | exact EvU.plain rfl | exact EvU.cond rfl | exact EvU.left rfl | exact EvU.left2 rfl | exact EvU.left3 rfl)
          | exact q_lenS (by first | exact EvU.plain rfl | exact EvU.cond rfl | exact EvU.left rfl | exact EvU.left2 rfl | exact EvU.left3 rfl)
          | exact q_max2 (by first | exact EvU.plain rfl | exact EvU.cond rfl | exact EvU.left rfl | exact EvU.left2 rfl | exact EvU.left3 rfl) (by first | exact EvU.plain rfl | exact EvU.cond rfl | exact EvU.left rfl | exact EvU.left2 rfl | exact EvU.left3 rfl)
          | exact q_min2 (by first | exact EvU.plain rfl | exact EvU.cond rfl | exact EvU.left rfl | exact EvU.left2 rfl | exact EvU.left3 rfl) (by first | exact EvU.plain rfl | exact EvU.cond rfl | exact EvU.left rfl | exact EvU.left2 rfl | exact EvU.left3 rfl)
          | exact q_max4 (by first | exact EvU.plain rfl | exact EvU.cond rfl | exact EvU.left rfl | exact EvU.left2 rfl | exact EvU.left3 rfl) (by first | exact EvU.plain rfl | exact EvU.cond rfl | exact EvU.left rfl | exact EvU.left2 rfl | exact EvU.left3 rfl) (by first | exact EvU.plain rfl | exact EvU.cond rfl | exact EvU.left rfl | exact EvU.left2 rfl | exact EvU.left3 rfl) (by first | exact EvU.plain rfl | exact EvU.cond rfl | exact EvU.left rfl | exact EvU.left2 rfl | exact EvU.left3 rfl))
      | exact q_not (by first | exact EvU.plain rfl | exact EvU.cond rfl | exact EvU.left rfl | exact EvU.left2 rfl | exact EvU.left3 rfl)
      | exact q_extract (by first | exact EvU.plain rfl | exact EvU.cond rfl | exact EvU.left rfl | exact EvU.left2 rfl | exact EvU.left3 rfl) (by repeat (first | exact Nth.zero | apply Nth.succ))
      | exact q_nilCheck (by first | exact EvU.plain rfl | exact EvU.cond rfl | exact EvU.left rfl | exact EvU.left2 rfl | exact EvU.left3 rfl)
      | exact q_build (by repeat (first | exact Evp.nil | apply Evp.cons (by first | exact EvU.cond rfl | exact EvU.left rfl | exact EvU.left2 rfl | exact EvU.left3 rfl | exact EvU.plain rfl))) (by repeat (first | exact Fill.nil | apply Fill.one rfl rfl (by repeat (first | exact SetAt.zero | apply SetAt.succ)) | apply Fill.agg rfl rfl rfl (by repeat (first | exact SetsAt.nil | apply SetsAt.cons (by repeat (first | exact SetAt.zero | apply SetAt.succ))))))
      | exact q_makeFunc (by repeat (first | exact Evs.nil | apply Evs.cons (by first | exact EvU.cond rfl | exact EvU.left rfl | exact EvU.left2 rfl | exact EvU.left3 rfl | exact EvU.plain rfl))) (by repeat (first | exact Evs.nil | apply Evs.cons (by first | exact EvU.cond rfl | exact EvU.left rfl | exact EvU.left2 rfl | exact EvU.left3 rfl | exact EvU.plain rfl)))
      | exact q_indexS (by first | exact EvU.plain rfl | exact EvU.cond rfl | exact EvU.left rfl | exact EvU.left2 rfl | exact EvU.left3 rfl) (by first | exact EvU.plain rfl | exact EvU.cond rfl | exact EvU.left rfl | exact EvU.left2 rfl | exact EvU.left3 rfl) (by infer_instance) (by intro hc; first | omega | (simp at hc; omega))
      | (apply QVg.convert; first
          | exact q_convN (by first | exact EvU.plain rfl | exact EvU.cond rfl | exact EvU.left rfl | exact EvU.left2 rfl | exact EvU.left3 rfl) (by intro hc; first | exact wrap_i64 (by omega) (by omega) | exact wrap_u64 (by omega) (by omega) | exact wrap_u8 (by omega) (by omega) | exact wrap_u32 (by omega) (by omega) | exact wrap_u16 (by omega) (by omega))
          | exact q_conv (by first | exact EvU.plain rfl | exact EvU.cond rfl | exact EvU.left rfl | exact EvU.left2 rfl | exact EvU.left3 rfl)
          | exact q_convS (by first | exact EvU.plain rfl | exact EvU.cond rfl | exact EvU.left rfl | exact EvU.left2 rfl | exact EvU.left3 rfl))) : J P N w0 ops Q (.op f o l) s mo kk m :=
  J.q ho hd (by rw [hwt]; exact Wt.none) hq K
/-- An operation that reads and is guarded. -/
theorem J.ag (K : J P N w0 ops Q l ((d, bif c then v else undef) :: s) mo kk m) (ho : o.dst = some d := by rfl) (hd : Nat.blt d N = true := by rfl)
    (hwt : Wt N ops s o.guard c := by first | exact Wt.yes rfl rfl | exact Wt.no rfl rfl | exact Wt.yes2 rfl rfl | exact Wt.no2 rfl rfl)
    (hq : QV P N w0 c s mo (f.sel kk m) o v := by
      first
      | exact q_move (by first | exact EvU.cond rfl | exact EvU.left rfl | exact EvU.left2 rfl | exact EvU.left3 rfl | exact EvU.plain rfl)
      | exact q_assign (by first | exact EvU.cond rfl | exact EvU.left rfl | exact EvU.left2 rfl | exact EvU.left3 rfl | exact EvU.plain rfl)
      | (apply QVg.load; first
          | exact q_load (by first | exact EvU.plain rfl | exact EvU.cond rfl | exact EvU.left rfl | exact EvU.left2 rfl | exact EvU.left3 rfl) (by repeat (first | exact mem0 | apply mem1)) (by repeat (first | exact Nth.zero | apply Nth.succ))
          | exact q_loadR (by first | exact EvU.plain rfl | exact EvU.cond rfl | exact EvU.left rfl | exact EvU.left2 rfl | exact EvU.left3 rfl) (by infer_instance) (by intro hc; first | omega | (simp at hc; omega)) (by repeat (first | exact Nth.zero | apply Nth.succ)) (by first | exact not0 | assumption | (simp; omega))
          | exact q_loadR0 (by first | exact EvU.plain rfl | exact EvU.cond rfl | exact EvU.left rfl | exact EvU.left2 rfl | exact EvU.left3 rfl) (by infer_instance) (by intro hc; first | omega | (simp at hc; omega)) (by repeat (first | exact Nth.zero | apply Nth.succ)) (by first | exact not0 | assumption | (simp; omega))
          | exact q_loadRN (by first | exact EvU.plain rfl | exact EvU.cond rfl | exact EvU.left rfl | exact EvU.left2 rfl | exact EvU.left3 rfl) (by infer_instance) (by intro hc; first | omega | (simp at hc; omega)) (by first | exact not0 | assumption | (simp; omega))
          | exact q_loadRS (by first | exact EvU.plain rfl | exact EvU.cond rfl | exact EvU.left rfl | exact EvU.left2 rfl | exact EvU.left3 rfl) (by infer_instance) (by intro hc; first | omega | (simp at hc; omega)) (by repeat (first | exact Cut.nil | apply Cut.take | apply Cut.drop)) (by first | exact not0 | assumption | (simp; omega))
          | exact q_loadN (by first | exact EvU.plain rfl | exact EvU.cond rfl | exact EvU.left rfl | exact EvU.left2 rfl | exact EvU.left3 rfl) (by repeat (first | exact mem0 | apply mem1)) (by repeat (first | exact Cut.nil | apply Cut.take | apply Cut.drop)))
      | exact q_field (by first | exact EvU.plain rfl | exact EvU.cond rfl | exact EvU.left rfl | exact EvU.left2 rfl | exact EvU.left3 rfl) (by first | exact Nat.zero_add _ | exact Nat.add_zero _ | (simp only [Nat.reduceAdd]; rfl) | rfl)
      | exact q_fieldA (by first | exact EvU.plain rfl | exact EvU.cond rfl | exact EvU.left rfl | exact EvU.left2 rfl | exact EvU.left3 rfl)
      | (apply QVg.bin; first
          | (apply QVg.lss; first
              | exact q_lss (by first | exact EvU.plain rfl | exact EvU.cond rfl | exact EvU.left rfl | exact EvU.left2 rfl | exact EvU.left3 rfl) (by first | exact EvU.plain rfl | exact EvU.cond rfl | exact EvU.left rfl | exact EvU.left2 rfl | exact EvU.left3 rfl)
              | exact q_lssS (by first | exact EvU.plain rfl | exact EvU.cond rfl | exact EvU.left rfl | exact EvU.left2 rfl | exact EvU.left3 rfl) (by first | exact EvU.plain rfl | exact EvU.cond rfl | exact EvU.left rfl | exact EvU.left2 rfl | exact EvU.left3 rfl))
          | (apply QVg.leq; first
              | exact q_leq (by first | exact EvU.plain rfl | exact EvU.cond rfl | exact EvU.left rfl | exact EvU.left2 rfl | exact EvU.left3 rfl) (by first | exact EvU.plain rfl | exact EvU.cond rfl | exact EvU.left rfl | exact EvU.left2 rfl | exact EvU.left3 rfl)
              | exact q_leqS (by first | exact EvU.plain rfl | exact EvU.cond rfl | exact EvU.left rfl | exact EvU.left2 rfl | exact EvU.left3 rfl) (by first | exact EvU.plain rfl | exact EvU.cond rfl | exact EvU.left rfl | exact EvU.left2 rfl | exact EvU.left3 rfl))
          | (apply QVg.gtr; first
              | exact q_gtr (by first | exact EvU.plain rfl | exact EvU.cond rfl | exact EvU.left rfl | exact EvU.left2 rfl | exact EvU.left3 rfl) (by first | exact EvU.plain rfl | exact EvU.cond rfl | exact EvU.left rfl | exact EvU.left2 rfl | exact EvU.left3 rfl)
              | exact q_gtrS (by first | exact EvU.plain rfl | exact EvU.cond rfl | exact EvU.left rfl | exact EvU.left2 rfl | exact EvU.left3 rfl) (by first | exact EvU.plain rfl | exact EvU.cond rfl | exact EvU.left rfl | exact EvU.left2 rfl | exact EvU.left3 rfl))
          | (apply QVg.geq; first
              | exact q_geq (by first | exact EvU.plain rfl | exact EvU.cond rfl | exact EvU.left rfl | exact EvU.left2 rfl | exact EvU.left3 rfl) (by first | exact EvU.plain rfl | exact EvU.cond rfl | exact EvU.left rfl | exact EvU.left2 rfl | exact EvU.left3 rfl)
              | exact q_geqS (by first | exact EvU.plain rfl | exact EvU.cond rfl | exact EvU.left rfl | exact EvU.left2 rfl | exact EvU.left3 rfl) (by first | exact EvU.plain rfl | exact EvU.cond rfl | exact EvU.left rfl | exact EvU.left2 rfl | exact EvU.left3 rfl))
          | (apply QVg.eql; first
              | exact q_eql (by first | exact EvU.plain rfl | exact EvU.cond rfl | exact EvU.left rfl | exact EvU.left2 rfl | exact EvU.left3 rfl) (by first | exact EvU.plain rfl | exact EvU.cond rfl | exact EvU.left rfl | exact EvU.left2 rfl | exact EvU.left3 rfl)
              | exact q_eqlB (by first | exact EvU.plain rfl | exact EvU.cond rfl | exact EvU.left rfl | exact EvU.left2 rfl | exact EvU.left3 rfl) (by first | exact EvU.plain rfl | exact EvU.cond rfl | exact EvU.left rfl | exact EvU.left2 rfl | exact EvU.left3 rfl)
              | exact q_eqlS (by first | exact EvU.plain rfl | exact EvU.cond rfl | exact EvU.left rfl | exact EvU.left2 rfl | exact EvU.left3 rfl) (by first | exact EvU.plain rfl | exact EvU.cond rfl | exact EvU.left rfl | exact EvU.left2 rfl | exact EvU.left3 rfl)
              | exact q_eqlX (by first | exact EvU.plain rfl | exact EvU.cond rfl | exact EvU.left rfl | exact EvU.left2 rfl | exact EvU.left3 rfl) (by first | exact EvU.plain rfl | exact EvU.cond rfl | exact EvU.left rfl | exact EvU.left2 rfl | exact EvU.left3 rfl) (by repeat (first | exact FEq.nil | apply FEq.int (by infer_instance) (by infer_instance) rfl (by repeat (first | exact Nth.zero | apply Nth.succ)) (by repeat (first | exact Nth.zero | apply Nth.succ)) | apply FEq.bool (by infer_instance) (by infer_instance) rfl (by repeat (first | exact Nth.zero | apply Nth.succ)) (by repeat (first | exact Nth.zero | apply Nth.succ)) | apply FEq.str (by infer_instance) (by infer_instance) rfl (by repeat (first | exact Nth.zero | apply Nth.succ)) (by repeat (first | exact Nth.zero | apply Nth.succ)))))
          | (apply QVg.neq; first
              | exact q_neq (by first | exact EvU.plain rfl | exact EvU.cond rfl | exact EvU.left rfl | exact EvU.left2 rfl | exact EvU.left3 rfl) (by first | exact EvU.plain rfl | exact EvU.cond rfl | exact EvU.left rfl | exact EvU.left2 rfl | exact EvU.left3 rfl)
              | exact q_neqB (by first | exact EvU.plain rfl | exact EvU.cond rfl | exact EvU.left rfl | exact EvU.left2 rfl | exact EvU.left3 rfl) (by first | exact EvU.plain rfl | exact EvU.cond rfl | exact EvU.left rfl | exact EvU.left2 rfl | exact EvU.left3 rfl)
              | exact q_neqS (by first | exact EvU.plain rfl | exact EvU.cond rfl | exact EvU.left rfl | exact EvU.left2 rfl | exact EvU.left3 rfl) (by first | exact EvU.plain rfl | exact EvU.cond rfl | exact EvU.left rfl | exact EvU.left2 rfl | exact EvU.left3 rfl)
              | exact q_neqX (by first | exact EvU.plain rfl | exact EvU.cond rfl | exact EvU.left rfl | exact EvU.left2 rfl | exact EvU.left3 rfl) (by first | exact EvU.plain rfl | exact EvU.cond rfl | exact EvU.left rfl | exact EvU.left2 rfl | exact EvU.left3 rfl) (by repeat (first | exact FEq.nil | apply FEq.int (by infer_instance) (by infer_instance) rfl (by repeat (first | exact Nth.zero | apply Nth.succ)) (by repeat (first | exact Nth.zero | apply Nth.succ)) | apply FEq.bool (by infer_instance) (by infer_instance) rfl (by repeat (first | exact Nth.zero | apply Nth.succ)) (by repeat (first | exact Nth.zero | apply Nth.succ)) | apply FEq.str (by infer_instance) (by infer_instance) rfl (by repeat (first | exact Nth.zero | apply Nth.succ)) (by repeat (first | exact Nth.zero | apply Nth.succ)))))
          | (apply QVg.add; first
              | exact q_addN (by first | exact EvU.plain rfl | exact EvU.cond rfl | exact EvU.left rfl | exact EvU.left2 rfl | exact EvU.left3 rfl) (by first | exact EvU.plain rfl | exact EvU.cond rfl | exact EvU.left rfl | exact EvU.left2 rfl | exact EvU.left3 rfl) (by intro hc; first | exact wrap_i64 (by omega) (by omega) | exact wrap_u64 (by omega) (by omega) | exact wrap_u8 (by omega) (by omega) | exact wrap_u32 (by omega) (by omega))
              | exact q_add (by first | exact EvU.plain rfl | exact EvU.cond rfl | exact EvU.left rfl | exact EvU.left2 rfl | exact EvU.left3 rfl) (by first | exact EvU.plain rfl | exact EvU.cond rfl | exact EvU.left rfl | exact EvU.left2 rfl | exact EvU.left3 rfl))
          | (apply QVg.sub; first
              | exact q_subN (by first | exact EvU.plain rfl | exact EvU.cond rfl | exact EvU.left rfl | exact EvU.left2 rfl | exact EvU.left3 rfl) (by first | exact EvU.plain rfl | exact EvU.cond rfl | exact EvU.left rfl | exact EvU.left2 rfl | exact EvU.left3 rfl) (by intro hc; first | exact wrap_i64 (by omega) (by omega) | exact wrap_u64 (by omega) (by omega) | exact wrap_u8 (by omega) (by omega) | exact wrap_u32 (by omega) (by omega))
              | exact q_sub (by first | exact EvU.plain rfl | exact EvU.cond rfl | exact EvU.left rfl | exact EvU.left2 rfl | exact EvU.left3 rfl) (by first | exact EvU.plain rfl | exact EvU.cond rfl | exact EvU.left rfl | exact EvU.left2 rfl | exact EvU.left3 rfl))
          | (apply QVg.mul; first
              | exact q_mulN (by first | exact EvU.plain rfl | exact EvU.cond rfl | exact EvU.left rfl | exact EvU.left2 rfl | exact EvU.left3 rfl) (by first | exact EvU.plain rfl | exact EvU.cond rfl | exact EvU.left rfl | exact EvU.left2 rfl | exact EvU.left3 rfl) (by intro hc; first | exact wrap_i64 (by omega) (by omega) | exact wrap_u64 (by omega) (by omega) | exact wrap_u8 (by omega) (by omega) | exact wrap_u32 (by omega) (by omega) | exact wrap_u16 (by omega) (by omega))
              | exact q_mul (by first | exact EvU.plain rfl | exact EvU.cond rfl | exact EvU.left rfl | exact EvU.left2 rfl | exact EvU.left3 rfl) (by first | exact EvU.plain rfl | exact EvU.cond rfl | exact EvU.left rfl | exact EvU.left2 rfl | exact EvU.left3 rfl))
          | exact q_quo (by first | exact EvU.plain rfl | exact EvU.cond rfl | exact EvU.left rfl | exact EvU.left2 rfl | exact EvU.left3 rfl) (by first | exact EvU.plain rfl | exact EvU.cond rfl | exact EvU.left rfl | exact EvU.left2 rfl | exact EvU.left3 rfl) (by intro hc; first | omega | (simp at hc; omega))
          | exact q_rem (by first | exact EvU.plain rfl | exact EvU.cond rfl | exact EvU.left rfl | exact EvU.left2 rfl | exact EvU.left3 rfl) (by first | exact EvU.plain rfl | exact EvU.cond rfl | exact EvU.left rfl | exact EvU.left2 rfl | exact EvU.left3 rfl) (by intro hc; first | omega | (simp at hc; omega))
          | exact q_shr (by first | exact EvU.plain rfl | exact EvU.cond rfl | exact EvU.left rfl | exact EvU.left2 rfl | exact EvU.left3 rfl) (by first | exact EvU.plain rfl | exact EvU.cond rfl | exact EvU.left rfl | exact EvU.left2 rfl | exact EvU.left3 rfl) (by intro hc; first | omega | (simp at hc; omega))
          | exact q_shl (by first | exact EvU.plain rfl | exact EvU.cond rfl | exact EvU.left rfl | exact EvU.left2 rfl | exact EvU.left3 rfl) (by first | exact EvU.plain rfl | exact EvU.cond rfl | exact EvU.left rfl | exact EvU.left2 rfl | exact EvU.left3 rfl) (by intro hc; first | omega | (simp at hc; omega))
          | exact q_band (by first | exact EvU.plain rfl | exact EvU.cond rfl | exact EvU.left rfl | exact EvU.left2 rfl | exact EvU.left3 rfl) (by first | exact EvU.plain rfl | exact EvU.cond rfl | exact EvU.left rfl | exact EvU.left2 rfl | exact EvU.left3 rfl)
          | exact q_bor (by first | exact EvU.plain rfl | exact EvU.cond rfl | exact EvU.left rfl | exact EvU.left2 rfl | exact EvU.left3 rfl) (by first | exact EvU.plain rfl | exact EvU.cond rfl | exact EvU.left rfl | exact EvU.left2 rfl | exact EvU.left3 rfl))
      | (apply QVg.pick; first
          | exact q_or (by first | exact EvU.plain rfl | exact EvU.cond rfl | exact EvU.left rfl | exact EvU.left2 rfl | exact EvU.left3 rfl) rfl
          | exact q_and (by first | exact EvU.plain rfl | exact EvU.cond rfl | exact EvU.left rfl | exact EvU.left2 rfl | exact EvU.left3 rfl) rfl
          | exact q_or2 (by first | exact EvU.plain rfl | exact EvU.cond rfl | exact EvU.left rfl | exact EvU.left2 rfl | exact EvU.left3 rfl) rfl
          | exact q_and2 (by first | exact EvU.plain rfl | exact EvU.cond rfl | exact EvU.left rfl | exact EvU.left2 rfl | exact EvU.left3 rfl) rfl
          | exact q_pick (by first | exact EvU.plain rfl | exact EvU.cond rfl | exact EvU.left rfl | exact EvU.left2 rfl | exact EvU.left3 rfl) (by first | exact EvU.plain rfl | exact EvU.cond rfl | exact EvU.left rfl | exact EvU.left2 rfl | exact EvU.left3 rfl) (by first | exact EvU.plain rfl | exact EvU.cond rfl | exact EvU.left rfl | exact EvU.left2 rfl | exact EvU.left3 rfl))
      | exact q_index' (by first | exact EvU.plain rfl | exact EvU.cond rfl | exact EvU.left rfl | exact EvU.left2 rfl | exact EvU.left3 rfl) (by first | exact EvU.plain rfl | exact EvU.cond rfl | exact EvU.left rfl | exact EvU.left2 rfl | exact EvU.left3 rfl) (by infer_instance) (by infer_instance) (by intro hc; first | omega | (simp at hc; omega))
      | (apply QVg.builtin; first
          | exact q_len (by first | exact EvU.plain rfl | exact EvU.cond rfl | exact EvU.left rfl | exact EvU.left2 rfl | exact EvU.left3 rfl)
          | exact q_lenS (by first | exact EvU.plain rfl | exact EvU.cond rfl | exact EvU.left rfl | exact EvU.left2 rfl | exact EvU.left3 rfl)
          | exact q_max2 (by first | exact EvU.plain rfl | exact EvU.cond rfl | exact EvU.left rfl | exact EvU.left2 rfl | exact EvU.left3 rfl) (by first | exact EvU.plain rfl | exact EvU.cond rfl | exact EvU.left rfl | exact EvU.left2 rfl | exact EvU.left3 rfl)
          | exact q_min2 (by first | exact EvU.plain rfl | exact EvU.cond rfl | exact EvU.left rfl | exact EvU.left2 rfl | exact EvU.left3 rfl) (by first | exact EvU.plain rfl | exact EvU.cond rfl | exact EvU.left rfl | exact EvU.left2 rfl | exact EvU.left3 rfl)
          | exact q_max4 (by first | exact EvU.plain rfl | exact EvU.cond rfl | exact EvU.left rfl | exact EvU.left2 rfl | exact EvU.left3 rfl) (by first | exact EvU.plain rfl | exact EvU.cond rfl | exact EvU.left rfl | exact EvU.left2 rfl | exact EvU.left3 rfl) (by first | exact EvU.plain rfl | exact EvU.cond rfl | exact EvU.left rfl | exact EvU.left2 rfl | exact EvU.left3 rfl) (by first | exact EvU.plain rfl | exact EvU.cond rfl | exact EvU.left rfl | exact EvU.left2 rfl | exact EvU.left3 rfl))
      | exact q_not (by first | exact EvU.plain rfl | exact EvU.cond rfl | exact EvU.left rfl | exact EvU.left2 rfl | exact EvU.left3 rfl)
      | exact q_extract (by first | exact EvU.plain rfl | exact EvU.cond rfl | exact EvU.left rfl | exact EvU.left2 rfl | exact EvU.left3 rfl) (by repeat (first | exact Nth.zero | apply Nth.succ))
      | exact q_nilCheck (by first | exact EvU.plain rfl | exact EvU.cond rfl | exact EvU.left rfl | exact EvU.left2 rfl | exact EvU.left3 rfl)
      | exact q_build (by repeat (first | exact Evp.nil | apply Evp.cons (by first | exact EvU.cond rfl | exact EvU.left rfl | exact EvU.left2 rfl | exact EvU.left3 rfl | exact EvU.plain rfl))) (by repeat (first | exact Fill.nil | apply Fill.one rfl rfl (by repeat (first | exact SetAt.zero | apply SetAt.succ)) | apply Fill.agg rfl rfl rfl (by repeat (first | exact SetsAt.nil | apply SetsAt.cons (by repeat (first | exact SetAt.zero | apply SetAt.succ))))))
      | exact q_makeFunc (by repeat (first | exact Evs.nil | apply Evs.cons (by first | exact EvU.cond rfl | exact EvU.left rfl | exact EvU.left2 rfl | exact EvU.left3 rfl | exact EvU.plain rfl))) (by repeat (first | exact Evs.nil | apply Evs.cons (by first | exact EvU.cond rfl | exact EvU.left rfl | exact EvU.left2 rfl | exact EvU.left3 rfl | exact EvU.plain rfl)))
      | exact q_indexS (by first | exact EvU.plain rfl | exact EvU.cond rfl | exact EvU.left rfl | exact EvU.left2 rfl | exact EvU.left3 rfl) (by first | exact EvU.plain rfl | exact EvU.cond rfl | exact EvU.left rfl | exact EvU.left2 rfl | exact EvU.left3 rfl) (by infer_instance) (by intro hc; first | omega | (simp at hc; omega))
      | (apply QVg.convert; first
          | exact q_convN (by first | exact EvU.plain rfl | exact EvU.cond rfl | exact EvU.left rfl | exact EvU.left2 rfl | exact EvU.left3 rfl) (by intro hc; first | exact wrap_i64 (by omega) (by omega) | exact wrap_u64 (by omega) (by omega) | exact wrap_u8 (by omega) (by omega) | exact wrap_u32 (by omega) (by omega) | exact wrap_u16 (by omega) (by omega))
          | exact q_conv (by first | exact EvU.plain rfl | exact EvU.cond rfl | exact EvU.left rfl | exact EvU.left2 rfl | exact EvU.left3 rfl)
          | exact q_convS (by first | exact EvU.plain rfl | exact EvU.cond rfl | exact EvU.left rfl | exact EvU.left2 rfl | exact EvU.left3 rfl))) : J P N w0 ops Q (.op f o l) s mo kk m :=
  J.qg ho hd hwt hq K
/-- A call that leaves memory as it was, but for new blocks. -/
theorem J.call {F : FuncId} [hF : FnC P F] {args : List Operand} {at_ : Array TypeId} {first cap vs full : List Value} (hcall : ∀ w, Mem w0 mo (f.sel kk m) w → Calls P F full.toArray w (fun e w' => e = .returned v ∧ Below w.heap.size w w'))
    (K : J P N w0 ops Q l ((d, v) :: s) mo kk m) (hd : Nat.blt d N = true := by rfl)
    (hx : EvU N true s x (.func (.func F) first.toArray cap.toArray) := by exact EvU.plain rfl) (ha : Evs N true s args vs := by repeat (first | exact Evs.nil | apply Evs.cons (by first | exact EvU.cond rfl | exact EvU.left rfl | exact EvU.left2 rfl | exact EvU.left3 rfl | exact EvU.plain rfl))) (hfull : first ++ vs ++ cap = full := by rfl) :
    J P N w0 ops Q (.op f ⟨some d, .call ⟨.value x, args.toArray, at_⟩, ty, ps, af, none⟩ l) s mo kk m :=
  J.q rfl hd Wt.none (q_call hx ha hfull hcall) K
theorem J.callg {F : FuncId} [hF : FnC P F] {args : List Operand} {at_ : Array TypeId} {first cap vs full : List Value} (hcall : ∀ w, Mem w0 mo (f.sel kk m) w → Calls P F full.toArray w (fun e w' => e = .returned v ∧ Below w.heap.size w w'))
    (K : J P N w0 ops Q l ((d, bif c then v else undef) :: s) mo kk m) (hd : Nat.blt d N = true := by rfl)
    (hwt : Wt N ops s g c := by first | exact Wt.yes rfl rfl | exact Wt.no rfl rfl | exact Wt.yes2 rfl rfl | exact Wt.no2 rfl rfl)
    (hx : EvU N c s x (.func (.func F) first.toArray cap.toArray) := by first | exact EvU.plain rfl | exact EvU.cond rfl) (ha : Evs N c s args vs := by repeat (first | exact Evs.nil | apply Evs.cons (by first | exact EvU.cond rfl | exact EvU.left rfl | exact EvU.left2 rfl | exact EvU.left3 rfl | exact EvU.plain rfl))) (hfull : first ++ vs ++ cap = full := by rfl) :
    J P N w0 ops Q (.op f ⟨some d, .call ⟨.value x, args.toArray, at_⟩, ty, ps, af, g⟩ l) s mo kk m :=
  J.qg rfl hd hwt (q_call hx ha hfull hcall) K
theorem J.callN {ι : Type} {F : FuncId} [hF : FnC P F] {args : List Operand} {at_ : Array TypeId} {first cap vs full : List Value} {r : ι → Value} {n : ι → List Res} (hcall : ∀ w, Mem w0 mo m w → Calls P F full.toArray w (fun e w' => ∃ i, e = .returned (r i) ∧ Mem w [] (n i) w'))
    (K : ∀ i, (∀ q ∈ n i, ∀ b, q.at b → w0.heap.size ≤ b) → J P N w0 ops Q l ((d, r i) :: s) mo (f.grow (n i) kk) (n i ++ m)) (hf : f ≠ .q := by exact nofun) (hd : Nat.blt d N = true := by rfl) (hx : EvU N true s x (.func (.func F) first.toArray cap.toArray) := by exact EvU.plain rfl) (ha : Evs N true s args vs := by repeat (first | exact Evs.nil | apply Evs.cons (by first | exact EvU.cond rfl | exact EvU.left rfl | exact EvU.left2 rfl | exact EvU.left3 rfl | exact EvU.plain rfl))) (hfull : first ++ vs ++ cap = full := by rfl) :
    J P N w0 ops Q (.op f ⟨some d, .call ⟨.value x, args.toArray, at_⟩, ty, ps, af, none⟩ l) s mo kk m :=
  J.callNew hf hd Wt.none hx ha hfull hcall K
theorem J.lookS {G : Nat} {es : List (Value × Value)} {kt et : TypeId} {KK : Value → Prop} {zc : List Value} [hu : TyU P t (.map kt et)] [hk : MapK P kt KK] [hz : TyC P et zc] (hf : Found es v (some u)) (hK : ∀ p ∈ es, KK p.1) (hv : KK v) (K : J P N w0 ops Q l ((d, .tuple #[u, .bool true]) :: s) mo kk m)
    (hm : Res.mp G es ∈ f.sel kk m := by repeat (first | exact mem0 | apply mem1)) (hd : Nat.blt d N = true := by rfl) (hx : EvU N true s x (.map (some G)) := by exact EvU.plain rfl) (hy : EvU N true s y v := by exact EvU.plain rfl) : J P N w0 ops Q (.op f ⟨some d, .lookup t x y true, ty, ps, af, none⟩ l) s mo kk m :=
  J.q rfl hd Wt.none (q_lookupS hx hy hm hf hK hv) K
theorem J.lookN {G : Nat} {es : List (Value × Value)} {kt et : TypeId} {KK : Value → Prop} {z : Value} [hu : TyU P t (.map kt et)] [hk : MapK P kt KK] [hz : TyV P et z] (hf : Found es v none) (hK : ∀ p ∈ es, KK p.1) (hv : KK v) (K : J P N w0 ops Q l ((d, .tuple #[z, .bool false]) :: s) mo kk m)
    (hm : Res.mp G es ∈ f.sel kk m := by repeat (first | exact mem0 | apply mem1)) (hd : Nat.blt d N = true := by rfl) (hx : EvU N true s x (.map (some G)) := by exact EvU.plain rfl) (hy : EvU N true s y v := by exact EvU.plain rfl) : J P N w0 ops Q (.op f ⟨some d, .lookup t x y true, ty, ps, af, none⟩ l) s mo kk m :=
  J.q rfl hd Wt.none (q_lookupN hx hy hm hf hK hv) K
theorem J.sto {G o : Nat} {cs cs' : List Value} {e : TypeId} [hs : TyS P t 1 false] (K : J P N w0 ops Q l s mo kk m') (hx : EvU N true s x (pt G o) := by exact EvU.plain rfl) (hy : EvU N true s y v := by exact EvU.plain rfl) (hv : v.oneCell' = true := by rfl)
    (hm : Upd (.blk G (.cells cs.toArray e (0, 0))) (.blk G (.cells cs'.toArray e (0, 0))) m m' := by repeat (first | exact Upd.here | apply Upd.there)) (hc : SetAt v cs o cs' := by repeat (first | exact SetAt.zero | apply SetAt.succ)) (hk : kk.Sublist m' := by repeat (first | exact List.Sublist.refl _ | exact List.nil_sublist _ | apply List.Sublist.cons_cons | apply List.Sublist.cons)) : J P N w0 ops Q (.op .a ⟨none, .store t x y, ty, ps, af, none⟩ l) s mo kk m :=
  J.store (hs := hs) Wt.none hx hy hv hc hm hk K
theorem J.stoN {G o n : Nat} {cs cs' vs : List Value} {e : TypeId} [hs : TyS P t n true] (K : J P N w0 ops Q l s mo kk m') (hx : EvU N true s x (pt G o) := by exact EvU.plain rfl) (hy : EvU N true s y (.agg vs.toArray) := by exact EvU.plain rfl)
    (hm : Upd (.blk G (.cells cs.toArray e (0, 0))) (.blk G (.cells cs'.toArray e (0, 0))) m m' := by repeat (first | exact Upd.here | apply Upd.there)) (hc : SetsAt vs cs o cs' := by repeat (first | exact SetsAt.nil | apply SetsAt.cons (by repeat (first | exact SetAt.zero | apply SetAt.succ)))) (hn : Nat.beq vs.length n = true := by rfl) (hv : vs.all (·.oneCell') = true := by rfl) (hb : Nat.ble (o + n) cs.length = true := by rfl) (hk : kk.Sublist m' := by repeat (first | exact List.Sublist.refl _ | exact List.nil_sublist _ | apply List.Sublist.cons_cons | apply List.Sublist.cons)) : J P N w0 ops Q (.op .a ⟨none, .store t x y, ty, ps, af, none⟩ l) s mo kk m :=
  J.storeN (hs := hs) Wt.none hx hy hn hv hc hb hm hk K
theorem J.lit {n sz bytes e : Nat} {zc zl cs : List Value} {r : List (Nat × Operand)} {vs : List (Nat × Value)} [hl : TyAp P t e sz bytes zc]
    (K : ∀ G, w0.heap.size ≤ G → J P N w0 ops Q l ((d, .slice (some ⟨G, 0, none⟩) n n) :: s) mo (f.grow [.blk G (.cells cs.toArray e (0, 0))] kk) (.blk G (.cells cs.toArray e (0, 0)) :: m))
    (hf : f ≠ .q := by exact nofun) (hd : Nat.blt d N = true := by rfl) (hx : Evp N true s r vs := by repeat (first | exact Evp.nil | apply Evp.cons (by first | exact EvU.cond rfl | exact EvU.left rfl | exact EvU.left2 rfl | exact EvU.left3 rfl | exact EvU.plain rfl))) (hr : Reps zc n zl := by exact Reps.rep _ _) (hfill : Fill (fun i => some (i * sz, sz)) zl vs cs := by repeat (first | exact Fill.nil | apply Fill.one rfl rfl (by repeat (first | exact SetAt.zero | apply SetAt.succ)) | apply Fill.agg rfl rfl rfl (by repeat (first | exact SetsAt.nil | apply SetsAt.cons (by repeat (first | exact SetAt.zero | apply SetAt.succ)))))) (hsz : Nat.ble (n * sz) (2 ^ 24) = true := by rfl) :
    J P N w0 ops Q (.op f ⟨some d, .buildSlice t n r.toArray, ty, ps, af, none⟩ l) s mo kk m :=
  J.buildSlice (hl := hl) hf hd Wt.none hx hr hfill hsz K
end
/-! regions that draw their order and do something: what they write is dropped from what holds all the while -/
inductive Rem (r : Res) : List Res → List Res → Prop
  | here {m : List Res} : Rem r (r :: m) m
  | there {x : Res} {m m' : List Res} : Rem r m m' → Rem r (x :: m) (x :: m')
theorem Rem.sub {r : Res} {m m' : List Res} (h : Rem r m m') : m'.Sublist m := by
  induction h with
  | here => exact List.sublist_cons_self _ _
  | there _ ih => exact ih.cons_cons _
inductive Less (s : Slots) : List Nat → List Res → List Res → Prop
  | nil {m : List Res} : Less s [] m m
  | drop {t G o : Nat} {ob : Obj} {ts : List Nat} {m m1 m2 : List Res} : look s t = some (pt G o) → Rem (.blk G ob) m m1 → Less s ts m1 m2 → Less s (t :: ts) m m2
  | skip {t : Nat} {ts : List Nat} {m m2 : List Res} : Less s ts m m2 → Less s (t :: ts) m m2
theorem Less.sub {s : Slots} {ts : List Nat} {m m' : List Res} (h : Less s ts m m') : m'.Sublist m := by
  induction h with
  | nil => exact List.Sublist.refl _
  | drop _ h1 _ ih => exact ih.trans h1.sub
  | skip _ ih => exact ih
section
variable {P : Program} {N : Nat} {w0 : World} {Q : Exit → Act → World → Prop} {s : Slots} {mo : List Nat} {kk m : List Res}
theorem NthO.get {α : Type} {l : List α} {n : Nat} {v : α} (h : l[n]? = some v) : l[n]? = some v := h
theorem G.drawsD {id : Nat} {l : List Oper} (pl : Pl Nat) (ts : List Nat) {pl' : Pl Oper} (hm : P.follows .mixedOrders = true) (hB : drawB l pl = true) (h : J P N w0 l.toArray (fun a w => Q .normal a w) pl' s mo kk m)
    (hpl : PlIs l pl pl' := by repeat (first | exact PlIs.nil | exact PlIs.stop | apply PlIs.op rfl | apply PlIs.alt rfl | apply PlIs.many (by repeat (first | exact GetAll.nil | apply GetAll.cons rfl)))) (hk : Less s ts m kk := by repeat (first | exact Less.nil | apply Less.drop rfl (by repeat (first | exact Rem.here | apply Rem.there)) | apply Less.skip)) : G P N w0 Q (.region id l.toArray true) s mo m :=
  G.draws pl kk hm hB hpl hk.sub h
end
/-! ends -/
section
variable {P : Program} {N : Nat} {w0 : World} {s : Slots} {mo : List Nat} {m : List Res}
inductive Strip : (Exit → Act → World → Prop) → Exit → (Exit → Act → World → Prop) → Exit → Prop
  | done {Q : Exit → Act → World → Prop} {e : Exit} : Strip Q e Q e
  | thenRet {K : Act → World → Prop} {Q Q' : Exit → Act → World → Prop} {e' : Exit} : Strip Q .ret Q' e' → Strip (Exit.then K Q) .ret Q' e'
  | thenExit {K : Act → World → Prop} {Q Q' : Exit → Act → World → Prop} {e' : Exit} {id : Nat} : Strip Q (.exit id) Q' e' → Strip (Exit.then K Q) (.exit id) Q' e'
  | blkRet {id : Nat} {Q Q' : Exit → Act → World → Prop} {e' : Exit} : Strip Q .ret Q' e' → Strip (Exit.inBlock id Q) .ret Q' e'
  | blkNormal {id : Nat} {Q Q' : Exit → Act → World → Prop} {e' : Exit} : Strip Q .normal Q' e' → Strip (Exit.inBlock id Q) .normal Q' e'
  | blkExit {id : Nat} {Q Q' : Exit → Act → World → Prop} {e' : Exit} : Strip Q .normal Q' e' → Strip (Exit.inBlock id Q) (.exit id) Q' e'
  | blkOther {id id' : Nat} {Q Q' : Exit → Act → World → Prop} {e' : Exit} : Nat.beq id' id = false → Strip Q (.exit id') Q' e' → Strip (Exit.inBlock id Q) (.exit id') Q' e'
theorem Fin.strip {Q Q' : Exit → Act → World → Prop} {e e' : Exit} (hs : Strip Q e Q' e') (h : Fin N w0 Q' e' s mo m) : Fin N w0 Q e s mo m := by
  induction hs with
  | done => exact h
  | thenRet _ ih => exact Fin.then_ret (ih h)
  | thenExit _ ih => exact Fin.then_exit (ih h)
  | blkRet _ ih => exact Fin.block_ret (ih h)
  | blkNormal _ ih => exact Fin.block (ih h)
  | blkExit _ ih => exact Fin.block_exit (ih h)
  | blkOther hne _ ih => exact Fin.block_other hne (ih h)
/-- On to what follows. -/
theorem Fin.go {Q Q' : Exit → Act → World → Prop} {e : Exit} {y : Code} (h : G P N w0 Q' y s mo m) (hs : Strip Q e (Exit.then (y.wp P Q') Q') .normal := by repeat (first | exact Strip.done | apply Strip.blkNormal | apply Strip.blkExit | apply Strip.thenExit | apply Strip.blkOther rfl)) : Fin N w0 Q e s mo m :=
  Fin.strip hs (Fin.then h)
/-- The function returns. -/
theorem Fin.to {Q : Exit → Act → World → Prop} {fn : Func} {R : Ending → World → Prop} (h : Fin N w0 (bodyPost P fn R) .ret s mo m) (hs : Strip Q .ret (bodyPost P fn R) .ret := by repeat (first | exact Strip.done | apply Strip.blkRet | apply Strip.thenRet)) : Fin N w0 Q .ret s mo m :=
  Fin.strip hs h
end
section
variable {P : Program} {N : Nat} {w0 : World} {s : Slots} {mo : List Nat} {m : List Res}
theorem Fin.resS {Q : Exit → Act → World → Prop} {fn : Func} {R : Ending → World → Prop} {r : ResultVar} {v : Value} (hr : fn.results = #[r]) (h : ∀ w, Mem w0 mo m w → R (.returned v) w)
    (hs : Strip Q .ret (bodyPost P fn R) .ret := by repeat (first | exact Strip.done | apply Strip.blkRet | apply Strip.thenRet)) (hv : RVals P s m [r] [v] := by repeat (first | exact RVals.nil | apply RVals.tmp rfl | apply RVals.cells (by infer_instance) rfl (by repeat (first | exact mem0 | apply mem1)) (by repeat (first | exact Cut.nil | apply Cut.take | apply Cut.drop)) | apply RVals.cell (by infer_instance) rfl (by repeat (first | exact mem0 | apply mem1)) (by repeat (first | exact Nth.zero | apply Nth.succ)))) : Fin N w0 Q .ret s mo m :=
  Fin.strip hs (Fin.retS hr hv h)
theorem Fin.resT {Q : Exit → Act → World → Prop} {fn : Func} {R : Ending → World → Prop} {rs : List ResultVar} {v1 v2 : Value} {vs : List Value} (hr : fn.results = rs.toArray) (h : ∀ w, Mem w0 mo m w → R (.returned (.tuple (v1 :: v2 :: vs).toArray)) w)
    (hs : Strip Q .ret (bodyPost P fn R) .ret := by repeat (first | exact Strip.done | apply Strip.blkRet | apply Strip.thenRet)) (hv : RVals P s m rs (v1 :: v2 :: vs) := by repeat (first | exact RVals.nil | apply RVals.tmp rfl | apply RVals.cells (by infer_instance) rfl (by repeat (first | exact mem0 | apply mem1)) (by repeat (first | exact Cut.nil | apply Cut.take | apply Cut.drop)) | apply RVals.cell (by infer_instance) rfl (by repeat (first | exact mem0 | apply mem1)) (by repeat (first | exact Nth.zero | apply Nth.succ)))) : Fin N w0 Q .ret s mo m :=
  Fin.strip hs (Fin.retT hr hv h)
end
section
variable {P : Program} {N : Nat} {w0 : World} {Q : Exit → Act → World → Prop} {s : Slots} {mo : List Nat} {m : List Res} {x y : Code}
theorem G.condT {z : Operand} (h : G P N w0 Q x s mo m) (hz : ev s z = some (.bool true) := by rfl) : G P N w0 Q (.cond z x y) s mo m := G.cond hz (fun _ => h) nofun
theorem G.condF {z : Operand} (h : G P N w0 Q y s mo m) (hz : ev s z = some (.bool false) := by rfl) : G P N w0 Q (.cond z x y) s mo m := G.cond hz nofun (fun _ => h)
end
/-! loops -/
theorem keep_cons2 {s : Slots} {i : Nat} {v v' : Value} {t : Slots} (h : look s i = some v') (e : v' = v) (ht : ∀ p ∈ t, look s p.1 = some p.2) : ∀ p ∈ (i, v) :: t, look s p.1 = some p.2 := keep_cons (e ▸ h) ht
section
variable {P : Program} {N : Nat} {w0 : World} {Q : Exit → Act → World → Prop} {s : Slots} {mo : List Nat} {m : List Res} {c cd : Code}
theorem G.loopA {ι : Type} (i0 : ι) (S : ι → Slots) (M : ι → List Res) (pre : ι → Prop) (μ : ι → Nat) (h0 : pre i0)
    (round : ∀ i, pre i → G P N w0 (Exit.then (fun a w => ∃ j, pre j ∧ μ j < μ i ∧ Holds N (S j) a ∧ Mem w0 mo (M j) w) Q) c (S i) mo (M i))
    (hs : ∀ a, Holds N s a → Holds N (S i0) a := by intro a ha; refine ha.keep ?_; repeat (first | exact keep_nil | apply keep_cons rfl | apply keep_cons2 rfl (by first | rfl | assumption | (symm; assumption) | (simp; done) | (congr 1; omega) | (congr 1; simp; done) | (congr 1; simp; omega) | (simp [*]; done) | (congr 1; simp [*]; omega))))
    (hm : ∀ w, Mem w0 mo m w → Mem w0 mo (M i0) w := by intro w hw; first | exact hw | (refine Mem.forget hw ?_; repeat (first | exact List.Sublist.refl _ | apply List.Sublist.cons_cons | apply List.Sublist.cons))) : G P N w0 Q (.loop c) s mo m :=
  G.loop i0 S M pre μ h0 hs hm round
theorem Fin.again {ι : Type} {S : ι → Slots} {M : ι → List Res} {pre : ι → Prop} {μ : ι → Nat} {i : ι} (j : ι) (hp : pre j) (hlt : μ j < μ i)
    (hs : ∀ a, Holds N s a → Holds N (S j) a := by intro a ha; refine ha.keep ?_; repeat (first | exact keep_nil | apply keep_cons rfl | apply keep_cons2 rfl (by first | rfl | assumption | (symm; assumption) | (simp; done) | (congr 1; omega) | (congr 1; simp; done) | (congr 1; simp; omega) | (simp [*]; done) | (congr 1; simp [*]; omega))))
    (hm : ∀ w, Mem w0 mo m w → Mem w0 mo (M j) w := by intro w hw; first | exact hw | (refine Mem.forget hw ?_; repeat (first | exact List.Sublist.refl _ | apply List.Sublist.cons_cons | apply List.Sublist.cons))) :
    Fin N w0 (Exit.then (fun a w => ∃ j, pre j ∧ μ j < μ i ∧ Holds N (S j) a ∧ Mem w0 mo (M j) w) Q) .normal s mo m := Fin.round j hp hlt hs hm
theorem G.loop2 {α β : Type} (a0 : α) (b0 : β) (S : α → β → Slots) (M : α → β → List Res) (pre : α → β → Prop) (μ : α → β → Nat) (h0 : pre a0 b0)
    (round : ∀ a b, pre a b → G P N w0 (Exit.then (fun A w => ∃ a1 b1, pre a1 b1 ∧ μ a1 b1 < μ a b ∧ Holds N (S a1 b1) A ∧ Mem w0 mo (M a1 b1) w) Q) cd (S a b) mo (M a b))
    (hs : ∀ A, Holds N s A → Holds N (S a0 b0) A := by intro a ha; refine ha.keep ?_; repeat (first | exact keep_nil | apply keep_cons rfl | apply keep_cons2 rfl (by first | rfl | assumption | (symm; assumption) | (simp; done) | (congr 1; omega) | (congr 1; simp; done) | (congr 1; simp; omega) | (simp [*]; done) | (congr 1; simp [*]; omega))))
    (hm : ∀ w, Mem w0 mo m w → Mem w0 mo (M a0 b0) w := by intro w hw; first | exact hw | (refine Mem.forget hw ?_; repeat (first | exact List.Sublist.refl _ | apply List.Sublist.cons_cons | apply List.Sublist.cons))) : G P N w0 Q (.loop cd) s mo m :=
  G.loop (ι := α × β) (a0, b0) (fun i => S i.1 i.2) (fun i => M i.1 i.2) (fun i => pre i.1 i.2) (fun i => μ i.1 i.2) h0 hs hm (fun i hi => by
    have h := round i.1 i.2 hi
    refine (congrArg (fun K => G P N w0 (Exit.then K Q) cd (S i.1 i.2) mo (M i.1 i.2)) ?_).mp h
    funext A w
    apply propext
    constructor
    · rintro ⟨a1, b1, h⟩; exact ⟨(a1, b1), h⟩
    · rintro ⟨⟨a1, b1⟩, h⟩; exact ⟨a1, b1, h⟩)
theorem Fin.again2 {α β : Type} {S : α → β → Slots} {M : α → β → List Res} {pre : α → β → Prop} {μ : α → β → Nat} {nn : Nat} (a0 : α) (b0 : β) (hp : pre a0 b0) (hlt : μ a0 b0 < nn)
    (hs : ∀ A, Holds N s A → Holds N (S a0 b0) A := by intro a ha; refine ha.keep ?_; repeat (first | exact keep_nil | apply keep_cons rfl | apply keep_cons2 rfl (by first | rfl | assumption | (symm; assumption) | (simp; done) | (congr 1; omega) | (congr 1; simp; done) | (congr 1; simp; omega) | (simp [*]; done) | (congr 1; simp [*]; omega))))
    (hm : ∀ w, Mem w0 mo m w → Mem w0 mo (M a0 b0) w := by intro w hw; first | exact hw | (refine Mem.forget hw ?_; repeat (first | exact List.Sublist.refl _ | apply List.Sublist.cons_cons | apply List.Sublist.cons))) : Fin N w0 (Exit.then (fun A w => ∃ a1 b1, pre a1 b1 ∧ μ a1 b1 < nn ∧ Holds N (S a1 b1) A ∧ Mem w0 mo (M a1 b1) w) Q) .normal s mo m := by unfold Fin; intro A w hA hw; exact ⟨a0, b0, hp, hlt, hs A hA, hm w hw⟩
theorem G.loop3 {α β γ : Type} (a0 : α) (b0 : β) (c0 : γ) (S : α → β → γ → Slots) (M : α → β → γ → List Res) (pre : α → β → γ → Prop) (μ : α → β → γ → Nat) (h0 : pre a0 b0 c0)
    (round : ∀ a b c, pre a b c → G P N w0 (Exit.then (fun A w => ∃ a1 b1 c1, pre a1 b1 c1 ∧ μ a1 b1 c1 < μ a b c ∧ Holds N (S a1 b1 c1) A ∧ Mem w0 mo (M a1 b1 c1) w) Q) cd (S a b c) mo (M a b c))
    (hs : ∀ A, Holds N s A → Holds N (S a0 b0 c0) A := by intro a ha; refine ha.keep ?_; repeat (first | exact keep_nil | apply keep_cons rfl | apply keep_cons2 rfl (by first | rfl | assumption | (symm; assumption) | (simp; done) | (congr 1; omega) | (congr 1; simp; done) | (congr 1; simp; omega) | (simp [*]; done) | (congr 1; simp [*]; omega))))
    (hm : ∀ w, Mem w0 mo m w → Mem w0 mo (M a0 b0 c0) w := by intro w hw; first | exact hw | (refine Mem.forget hw ?_; repeat (first | exact List.Sublist.refl _ | apply List.Sublist.cons_cons | apply List.Sublist.cons))) : G P N w0 Q (.loop cd) s mo m :=
  G.loop (ι := α × β × γ) (a0, b0, c0) (fun i => S i.1 i.2.1 i.2.2) (fun i => M i.1 i.2.1 i.2.2) (fun i => pre i.1 i.2.1 i.2.2) (fun i => μ i.1 i.2.1 i.2.2) h0 hs hm (fun i hi => by
    have h := round i.1 i.2.1 i.2.2 hi
    refine (congrArg (fun K => G P N w0 (Exit.then K Q) cd (S i.1 i.2.1 i.2.2) mo (M i.1 i.2.1 i.2.2)) ?_).mp h
    funext A w
    apply propext
    constructor
    · rintro ⟨a1, b1, c1, h⟩; exact ⟨(a1, b1, c1), h⟩
    · rintro ⟨⟨a1, b1, c1⟩, h⟩; exact ⟨a1, b1, c1, h⟩)
theorem Fin.again3 {α β γ : Type} {S : α → β → γ → Slots} {M : α → β → γ → List Res} {pre : α → β → γ → Prop} {μ : α → β → γ → Nat} {nn : Nat} (a0 : α) (b0 : β) (c0 : γ) (hp : pre a0 b0 c0) (hlt : μ a0 b0 c0 < nn)
    (hs : ∀ A, Holds N s A → Holds N (S a0 b0 c0) A := by intro a ha; refine ha.keep ?_; repeat (first | exact keep_nil | apply keep_cons rfl | apply keep_cons2 rfl (by first | rfl | assumption | (symm; assumption) | (simp; done) | (congr 1; omega) | (congr 1; simp; done) | (congr 1; simp; omega) | (simp [*]; done) | (congr 1; simp [*]; omega))))
    (hm : ∀ w, Mem w0 mo m w → Mem w0 mo (M a0 b0 c0) w := by intro w hw; first | exact hw | (refine Mem.forget hw ?_; repeat (first | exact List.Sublist.refl _ | apply List.Sublist.cons_cons | apply List.Sublist.cons))) : Fin N w0 (Exit.then (fun A w => ∃ a1 b1 c1, pre a1 b1 c1 ∧ μ a1 b1 c1 < nn ∧ Holds N (S a1 b1 c1) A ∧ Mem w0 mo (M a1 b1 c1) w) Q) .normal s mo m := by unfold Fin; intro A w hA hw; exact ⟨a0, b0, c0, hp, hlt, hs A hA, hm w hw⟩
theorem G.loop4 {α β γ δ : Type} (a0 : α) (b0 : β) (c0 : γ) (d0 : δ) (S : α → β → γ → δ → Slots) (M : α → β → γ → δ → List Res) (pre : α → β → γ → δ → Prop) (μ : α → β → γ → δ → Nat) (h0 : pre a0 b0 c0 d0)
    (round : ∀ a b c d, pre a b c d → G P N w0 (Exit.then (fun A w => ∃ a1 b1 c1 d1, pre a1 b1 c1 d1 ∧ μ a1 b1 c1 d1 < μ a b c d ∧ Holds N (S a1 b1 c1 d1) A ∧ Mem w0 mo (M a1 b1 c1 d1) w) Q) cd (S a b c d) mo (M a b c d))
    (hs : ∀ A, Holds N s A → Holds N (S a0 b0 c0 d0) A := by intro a ha; refine ha.keep ?_; repeat (first | exact keep_nil | apply keep_cons rfl | apply keep_cons2 rfl (by first | rfl | assumption | (symm; assumption) | (simp; done) | (congr 1; omega) | (congr 1; simp; done) | (congr 1; simp; omega) | (simp [*]; done) | (congr 1; simp [*]; omega))))
    (hm : ∀ w, Mem w0 mo m w → Mem w0 mo (M a0 b0 c0 d0) w := by intro w hw; first | exact hw | (refine Mem.forget hw ?_; repeat (first | exact List.Sublist.refl _ | apply List.Sublist.cons_cons | apply List.Sublist.cons))) : G P N w0 Q (.loop cd) s mo m :=
  G.loop (ι := α × β × γ × δ) (a0, b0, c0, d0) (fun i => S i.1 i.2.1 i.2.2.1 i.2.2.2) (fun i => M i.1 i.2.1 i.2.2.1 i.2.2.2) (fun i => pre i.1 i.2.1 i.2.2.1 i.2.2.2) (fun i => μ i.1 i.2.1 i.2.2.1 i.2.2.2) h0 hs hm (fun i hi => by
    have h := round i.1 i.2.1 i.2.2.1 i.2.2.2 hi
    refine (congrArg (fun K => G P N w0 (Exit.then K Q) cd (S i.1 i.2.1 i.2.2.1 i.2.2.2) mo (M i.1 i.2.1 i.2.2.1 i.2.2.2)) ?_).mp h
    funext A w
    apply propext
    constructor
    · rintro ⟨a1, b1, c1, d1, h⟩; exact ⟨(a1, b1, c1, d1), h⟩
    · rintro ⟨⟨a1, b1, c1, d1⟩, h⟩; exact ⟨a1, b1, c1, d1, h⟩)
theorem Fin.again4 {α β γ δ : Type} {S : α → β → γ → δ → Slots} {M : α → β → γ → δ → List Res} {pre : α → β → γ → δ → Prop} {μ : α → β → γ → δ → Nat} {nn : Nat} (a0 : α) (b0 : β) (c0 : γ) (d0 : δ) (hp : pre a0 b0 c0 d0) (hlt : μ a0 b0 c0 d0 < nn)
    (hs : ∀ A, Holds N s A → Holds N (S a0 b0 c0 d0) A := by intro a ha; refine ha.keep ?_; repeat (first | exact keep_nil | apply keep_cons rfl | apply keep_cons2 rfl (by first | rfl | assumption | (symm; assumption) | (simp; done) | (congr 1; omega) | (congr 1; simp; done) | (congr 1; simp; omega) | (simp [*]; done) | (congr 1; simp [*]; omega))))
    (hm : ∀ w, Mem w0 mo m w → Mem w0 mo (M a0 b0 c0 d0) w := by intro w hw; first | exact hw | (refine Mem.forget hw ?_; repeat (first | exact List.Sublist.refl _ | apply List.Sublist.cons_cons | apply List.Sublist.cons))) : Fin N w0 (Exit.then (fun A w => ∃ a1 b1 c1 d1, pre a1 b1 c1 d1 ∧ μ a1 b1 c1 d1 < nn ∧ Holds N (S a1 b1 c1 d1) A ∧ Mem w0 mo (M a1 b1 c1 d1) w) Q) .normal s mo m := by unfold Fin; intro A w hA hw; exact ⟨a0, b0, c0, d0, hp, hlt, hs A hA, hm w hw⟩
end
end Go.Proofs.Ytdhhjhkonmacdaa
