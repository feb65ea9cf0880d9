/- Generic: what single operations come to. -/
import Derived.Test.YtdhhjhkonmacdaaSy
namespace Go.Proofs.Ytdhhjhkonmacdaa
open Go.RowKit
set_option linter.unusedVariables false
set_option linter.unusedSimpArgs false

/-! ### what is asked of a program's types -/
class TyS (P : Program) (t : TypeId) (n : outParam Nat) (agg : outParam Bool) : Prop where
  size : ∀ w, (sizeOf t).run P w = .ok n w
  agg : ∀ w, (isAgg t).run P w = .ok agg w
class TyZ (P : Program) (t : TypeId) (z : outParam Value) : Prop where
  zero : ∀ w, (zeroValue t).run P w = .ok z w
class TyU (P : Program) (t : TypeId) (d : outParam TypeDesc) : Prop where
  und : P.underlying t = some d
class TyF (P : Program) (t f : Nat) (off : outParam Nat) : Prop where
  field : ∀ w a, (Instr.fieldAt t (.pointer (some a)) f).run P w = .ok (.pointer (some (a.add off))) w
class FnC (P : Program) (f : FuncId) : Prop where
  call : ∀ args w, (callFunc f args).run P w = .ok (.enter f args) w
class NatI (i : Int) (j : outParam Nat) : Prop where
  eq : i = (j : Int)
instance (j : Nat) : NatI (j : Int) j := ⟨rfl⟩
instance (n : Nat) : NatI (@OfNat.ofNat Int n _) n := ⟨rfl⟩
instance {i k : Int} {a b : Nat} [ha : NatI i a] [hb : NatI k b] : NatI (i + k) (a + b) := ⟨by rw [ha.eq, hb.eq]; simp⟩
theorem TyF.mk' {P : Program} {t f : Nat} {fs : Array Field} {fd : Field} {off n : Nat} (hu : P.underlying t = some (.struct fs)) (hf : fs[f]? = some fd) (hs : ∀ w, (sizeOf fd.type).run P w = .ok (n + 1) w) (ho : fd.offset = off) : TyF P t f off := ⟨fun w a => by
  simp [Instr.fieldAt, run_underlying hu, hf, Instr.sureAddr, fieldPlace, hs, ho]⟩
theorem add_off (g o k : Nat) : (⟨g, o, none⟩ : Addr).add k = ⟨g, o + k, none⟩ := by unfold Addr.add; split <;> simp_all
theorem add_add (A : Addr) (i k : Nat) : (A.add i).add k = A.add (i + k) := by
  unfold Addr.add
  by_cases h1 : i = 0 <;> by_cases h2 : k = 0 <;> simp [h1, h2, Nat.add_assoc]
theorem add_zero (A : Addr) : A.add 0 = A := by simp [Addr.add]

inductive Nth (v : Value) : List Value → Nat → Prop
  | zero {l : List Value} : Nth v (v :: l) 0
  | succ {a : Value} {l : List Value} {n : Nat} : Nth v l n → Nth v (a :: l) (n + 1)
theorem Nth.get {v : Value} {l : List Value} {n : Nat} (h : Nth v l n) : l[n]? = some v := by
  induction h with
  | zero => rfl
  | succ h ih => simpa using ih
/-- The cells from a place on. -/
inductive Cut : List Value → Nat → Nat → List Value → Prop
  | nil {l : List Value} : Cut l 0 0 []
  | take {a : Value} {l r : List Value} {n : Nat} : Cut l 0 n r → Cut (a :: l) 0 (n + 1) (a :: r)
  | drop {a : Value} {l r : List Value} {i n : Nat} : Cut l i n r → Cut (a :: l) (i + 1) n r
theorem Cut.eq {l r : List Value} {i n : Nat} (h : Cut l i n r) : (l.drop i).take n = r ∧ r.length = n := by
  induction h with
  | nil => simp
  | take h ih => simpa using ih
  | drop h ih => simpa using ih
section
variable {P : Program} {N : Nat} {w0 : World} {ops : Array Oper} {Q : Act → World → Prop} {l : List (Fl × Oper)} {s : Slots} {mo : List Nat} {m : List Res} {f : Fl} {v u : Value} {c : Bool} {d : Option Tmp} {x y z : Operand} {ty t : TypeId} {ps : String} {af : Array Edge} {g : Option (Nat × Bool)} {k : IntKind} {a b : Int}
theorem quiet_of_run {o : Oper} {A : Act} {C : World → Prop} {w : World} (h : (execOp A.eval o).run P w = .ok (.value v) w) : o.quietAt P A C w v := by
  unfold Oper.quietAt; rw [h]; exact ⟨rfl, rfl⟩
theorem q_move (hx : EvU N c s x v) : QV P N w0 c s mo m ⟨d, .move x, ty, ps, af, g⟩ v := fun hc A hA w hw => quiet_of_run (by
  show Result.ok (Next.value (A.eval x)) w = _; rw [hx hc A hA])
theorem q_assign (hx : EvU N c s x v) : QV P N w0 c s mo m ⟨d, .assign x, ty, ps, af, g⟩ v := fun hc A hA w hw => quiet_of_run (by
  show Result.ok (Next.value (A.eval x)) w = _; rw [hx hc A hA])
/-- 'a || b': b was worked out where a does not hold. -/
theorem q_or {p q : Bool} (hx : EvU N c s x (.bool p)) (hy : ev s y = some (bif !p then .bool q else u)) : QV P N w0 c s mo m ⟨d, .pick x (.const (.bool true)) y, ty, ps, af, g⟩ (.bool (p || q)) := fun hc A hA w hw => quiet_of_run (by
  simp only [execOp, hx hc A hA]; rw [hA.ev hy]; cases p <;> rfl)
theorem q_and {p q : Bool} (hx : EvU N c s x (.bool p)) (hy : ev s y = some (bif p then .bool q else u)) : QV P N w0 c s mo m ⟨d, .pick x y (.const (.bool false)), ty, ps, af, g⟩ (.bool (p && q)) := fun hc A hA w hw => quiet_of_run (by
  simp only [execOp, hx hc A hA]; rw [hA.ev hy]; cases p <;> rfl)
/-- The same under a guard c of their own. -/
theorem q_or2 {p q : Bool} (hx : EvU N c s x (.bool p)) (hy : ev s y = some (bif (c && !p) then .bool q else u)) : QV P N w0 c s mo m ⟨d, .pick x (.const (.bool true)) y, ty, ps, af, g⟩ (.bool (p || q)) := fun hc A hA w hw => quiet_of_run (by
  simp only [execOp, hx hc A hA]; rw [hA.ev hy, hc]; cases p <;> rfl)
theorem q_and2 {p q : Bool} (hx : EvU N c s x (.bool p)) (hy : ev s y = some (bif (c && p) then .bool q else u)) : QV P N w0 c s mo m ⟨d, .pick x y (.const (.bool false)), ty, ps, af, g⟩ (.bool (p && q)) := fun hc A hA w hw => quiet_of_run (by
  simp only [execOp, hx hc A hA]; rw [hA.ev hy, hc]; cases p <;> rfl)
theorem q_pick {p : Bool} (hx : EvU N c s x (.bool p)) (hy : EvU N c s y v) (hz : EvU N c s z u) : QV P N w0 c s mo m ⟨d, .pick x y z, ty, ps, af, g⟩ (bif p then v else u) := fun hc A hA w hw => quiet_of_run (by
  simp only [execOp, hx hc A hA, hy hc A hA, hz hc A hA]; cases p <;> rfl)
theorem q_not {p : Bool} (hx : EvU N c s x (.bool p)) : QV P N w0 c s mo m ⟨d, .unOp .not t x, ty, ps, af, g⟩ (.bool (!p)) := fun hc A hA w hw => quiet_of_run (by simp only [execOp, hx hc A hA]; rfl)
theorem q_neg (hx : EvU N c s x (.int k a)) : QV P N w0 c s mo m ⟨d, .unOp .neg t x, ty, ps, af, g⟩ (.int k (k.wrap (0 - a))) := fun hc A hA w hw => quiet_of_run (by simp only [execOp, hx hc A hA]; rfl)
/-! integers -/
theorem bin_run {op : BinOp} {A : Act} {w : World} (hk : (binOp op t (.int k a) (.int k b)).run P w = .ok v w) (hx : A.eval x = .int k a) (hy : A.eval y = .int k b) : (execOp A.eval ⟨d, .binOp op t x y ty, ty, ps, af, g⟩).run P w = .ok (.value v) w := by
  have he : (eqGuard op t x y (.int k a) (.int k b)).run P w = .ok () w := by
    unfold eqGuard
    split <;> rfl
  simp only [execOp, hx, hy]
  simp [he, hk]
theorem q_add {ty2 : TypeId} (hx : EvU N c s x (.int k a)) (hy : EvU N c s y (.int k b)) : QV P N w0 c s mo m ⟨d, .binOp .add t x y ty2, ty, ps, af, g⟩ (.int k (k.wrap (a + b))) := fun hc A hA w hw => quiet_of_run (by
  simp only [execOp, hx hc A hA, hy hc A hA]; simp [eqGuard, binOp, Op.intArith])
theorem q_sub {ty2 : TypeId} (hx : EvU N c s x (.int k a)) (hy : EvU N c s y (.int k b)) : QV P N w0 c s mo m ⟨d, .binOp .sub t x y ty2, ty, ps, af, g⟩ (.int k (k.wrap (a - b))) := fun hc A hA w hw => quiet_of_run (by
  simp only [execOp, hx hc A hA, hy hc A hA]; simp [eqGuard, binOp, Op.intArith])
theorem q_mul {ty2 : TypeId} (hx : EvU N c s x (.int k a)) (hy : EvU N c s y (.int k b)) : QV P N w0 c s mo m ⟨d, .binOp .mul t x y ty2, ty, ps, af, g⟩ (.int k (k.wrap (a * b))) := fun hc A hA w hw => quiet_of_run (by
  simp only [execOp, hx hc A hA, hy hc A hA]; simp [eqGuard, binOp, Op.intArith])
/-- A sum that stays in its kind. -/
theorem q_addN {ty2 : TypeId} (hx : EvU N c s x (.int k a)) (hy : EvU N c s y (.int k b)) (h : c = true → k.wrap (a + b) = a + b) : QV P N w0 c s mo m ⟨d, .binOp .add t x y ty2, ty, ps, af, g⟩ (.int k (a + b)) := fun hc A hA w hw => by
  have := q_add (P := P) (w0 := w0) (mo := mo) (m := m) (d := d) (t := t) (ty := ty) (ty2 := ty2) (ps := ps) (af := af) (g := g) hx hy hc A hA w hw
  rwa [h hc] at this
theorem q_subN {ty2 : TypeId} (hx : EvU N c s x (.int k a)) (hy : EvU N c s y (.int k b)) (h : c = true → k.wrap (a - b) = a - b) : QV P N w0 c s mo m ⟨d, .binOp .sub t x y ty2, ty, ps, af, g⟩ (.int k (a - b)) := fun hc A hA w hw => by
  have := q_sub (P := P) (w0 := w0) (mo := mo) (m := m) (d := d) (t := t) (ty := ty) (ty2 := ty2) (ps := ps) (af := af) (g := g) hx hy hc A hA w hw
  rwa [h hc] at this
theorem q_mulN {ty2 : TypeId} (hx : EvU N c s x (.int k a)) (hy : EvU N c s y (.int k b)) (h : c = true → k.wrap (a * b) = a * b) : QV P N w0 c s mo m ⟨d, .binOp .mul t x y ty2, ty, ps, af, g⟩ (.int k (a * b)) := fun hc A hA w hw => by
  have := q_mul (P := P) (w0 := w0) (mo := mo) (m := m) (d := d) (t := t) (ty := ty) (ty2 := ty2) (ps := ps) (af := af) (g := g) hx hy hc A hA w hw
  rwa [h hc] at this
theorem q_quo {ty2 : TypeId} (hx : EvU N c s x (.int k a)) (hy : EvU N c s y (.int k b)) (h : c = true → b ≠ 0) : QV P N w0 c s mo m ⟨d, .binOp .quo t x y ty2, ty, ps, af, g⟩ (.int k (k.wrap (a.tdiv b))) := fun hc A hA w hw => quiet_of_run (by
  simp only [execOp, hx hc A hA, hy hc A hA]; simp [eqGuard, binOp, Op.intDiv, h hc])
theorem q_rem {ty2 : TypeId} (hx : EvU N c s x (.int k a)) (hy : EvU N c s y (.int k b)) (h : c = true → b ≠ 0) : QV P N w0 c s mo m ⟨d, .binOp .rem t x y ty2, ty, ps, af, g⟩ (.int k (a.tmod b)) := fun hc A hA w hw => quiet_of_run (by
  simp only [execOp, hx hc A hA, hy hc A hA]; simp [eqGuard, binOp, Op.intDiv, h hc])
theorem q_lss {ty2 : TypeId} (hx : EvU N c s x (.int k a)) (hy : EvU N c s y (.int k b)) : QV P N w0 c s mo m ⟨d, .binOp .lss t x y ty2, ty, ps, af, g⟩ (.bool (decide (a < b))) := fun hc A hA w hw => quiet_of_run (by
  simp only [execOp, hx hc A hA, hy hc A hA]; simp [eqGuard, binOp, Op.intCmp])
theorem q_leq {ty2 : TypeId} (hx : EvU N c s x (.int k a)) (hy : EvU N c s y (.int k b)) : QV P N w0 c s mo m ⟨d, .binOp .leq t x y ty2, ty, ps, af, g⟩ (.bool (decide (a ≤ b))) := fun hc A hA w hw => quiet_of_run (by
  simp only [execOp, hx hc A hA, hy hc A hA]; simp [eqGuard, binOp, Op.intCmp])
theorem q_gtr {ty2 : TypeId} (hx : EvU N c s x (.int k a)) (hy : EvU N c s y (.int k b)) : QV P N w0 c s mo m ⟨d, .binOp .gtr t x y ty2, ty, ps, af, g⟩ (.bool (decide (b < a))) := fun hc A hA w hw => quiet_of_run (by
  simp only [execOp, hx hc A hA, hy hc A hA]; simp [eqGuard, binOp, Op.intCmp])
theorem q_geq {ty2 : TypeId} (hx : EvU N c s x (.int k a)) (hy : EvU N c s y (.int k b)) : QV P N w0 c s mo m ⟨d, .binOp .geq t x y ty2, ty, ps, af, g⟩ (.bool (decide (b ≤ a))) := fun hc A hA w hw => quiet_of_run (by
  simp only [execOp, hx hc A hA, hy hc A hA]; simp [eqGuard, binOp, Op.intCmp])
theorem q_eql {ty2 : TypeId} (hx : EvU N c s x (.int k a)) (hy : EvU N c s y (.int k b)) : QV P N w0 c s mo m ⟨d, .binOp .eql t x y ty2, ty, ps, af, g⟩ (.bool (decide (a = b))) := fun hc A hA w hw => quiet_of_run (by
  simp only [execOp, hx hc A hA, hy hc A hA]; simp [eqGuard, binOp, Op.intCmp]; rfl)
theorem q_neq {ty2 : TypeId} (hx : EvU N c s x (.int k a)) (hy : EvU N c s y (.int k b)) : QV P N w0 c s mo m ⟨d, .binOp .neq t x y ty2, ty, ps, af, g⟩ (.bool (!decide (a = b))) := fun hc A hA w hw => quiet_of_run (by
  simp only [execOp, hx hc A hA, hy hc A hA]; simp [eqGuard, binOp, Op.intCmp]; rfl)
theorem q_shl {ty2 : TypeId} {k2 : IntKind} (hx : EvU N c s x (.int k a)) (hy : EvU N c s y (.int k2 b)) (h : c = true → 0 ≤ b) : QV P N w0 c s mo m ⟨d, .binOp .shl t x y ty2, ty, ps, af, g⟩ (.int k (k.wrap (a * 2 ^ (min b.toNat k.bits)))) := fun hc A hA w hw => quiet_of_run (by
  have : ¬ b < 0 := by have := h hc; omega
  simp only [execOp, hx hc A hA, hy hc A hA]; simp [eqGuard, binOp, Op.shift, this])
theorem q_shr {ty2 : TypeId} {k2 : IntKind} (hx : EvU N c s x (.int k a)) (hy : EvU N c s y (.int k2 b)) (h : c = true → 0 ≤ b) : QV P N w0 c s mo m ⟨d, .binOp .shr t x y ty2, ty, ps, af, g⟩ (.int k (a.fdiv (2 ^ (min b.toNat k.bits)))) := fun hc A hA w hw => quiet_of_run (by
  have : ¬ b < 0 := by have := h hc; omega
  simp only [execOp, hx hc A hA, hy hc A hA]; simp [eqGuard, binOp, Op.shift, this])
/-! bools, strings -/
theorem eqIn_bool {p q : Bool} {w : World} [hu : TyU P t .bool] (n : Nat) : (Op.equalIn (n + 1) t (.bool p) (.bool q)).run P w = .ok (p == q) w := by
  simp [Op.equalIn, run_underlying hu.und]
theorem eq_bool {p q : Bool} {w : World} [hu : TyU P t .bool] : (Op.equal t (.bool p) (.bool q)).run P w = .ok (p == q) w := eqIn_bool 9999
theorem q_eqlB {ty2 : TypeId} {p q : Bool} [hu : TyU P t .bool] (hx : EvU N c s x (.bool p)) (hy : EvU N c s y (.bool q)) : QV P N w0 c s mo m ⟨d, .binOp .eql t x y ty2, ty, ps, af, g⟩ (.bool (p == q)) := fun hc A hA w hw => quiet_of_run (by
  simp only [execOp, hx hc A hA, hy hc A hA]; simp [eqGuard, binOp, eq_bool])
theorem q_neqB {ty2 : TypeId} {p q : Bool} [hu : TyU P t .bool] (hx : EvU N c s x (.bool p)) (hy : EvU N c s y (.bool q)) : QV P N w0 c s mo m ⟨d, .binOp .neq t x y ty2, ty, ps, af, g⟩ (.bool (!(p == q))) := fun hc A hA w hw => quiet_of_run (by
  simp only [execOp, hx hc A hA, hy hc A hA]; simp [eqGuard, binOp, eq_bool])
theorem q_eqlS {ty2 : TypeId} {p q : ByteArray} (hx : EvU N c s x (.string p)) (hy : EvU N c s y (.string q)) : QV P N w0 c s mo m ⟨d, .binOp .eql t x y ty2, ty, ps, af, g⟩ (.bool (p.toList == q.toList)) := fun hc A hA w hw => quiet_of_run (by
  simp only [execOp, hx hc A hA, hy hc A hA]; simp [eqGuard, binOp, Op.stringOp])
theorem q_neqS {ty2 : TypeId} {p q : ByteArray} (hx : EvU N c s x (.string p)) (hy : EvU N c s y (.string q)) : QV P N w0 c s mo m ⟨d, .binOp .neq t x y ty2, ty, ps, af, g⟩ (.bool (!(p.toList == q.toList))) := fun hc A hA w hw => quiet_of_run (by
  simp only [execOp, hx hc A hA, hy hc A hA]; simp [eqGuard, binOp, Op.stringOp])
theorem q_lssS {ty2 : TypeId} {p q : ByteArray} (hx : EvU N c s x (.string p)) (hy : EvU N c s y (.string q)) : QV P N w0 c s mo m ⟨d, .binOp .lss t x y ty2, ty, ps, af, g⟩ (.bool (Op.bytesLess p.toList q.toList)) := fun hc A hA w hw => quiet_of_run (by
  simp only [execOp, hx hc A hA, hy hc A hA]; simp [eqGuard, binOp, Op.stringOp])
theorem q_gtrS {ty2 : TypeId} {p q : ByteArray} (hx : EvU N c s x (.string p)) (hy : EvU N c s y (.string q)) : QV P N w0 c s mo m ⟨d, .binOp .gtr t x y ty2, ty, ps, af, g⟩ (.bool (!(Op.bytesLess p.toList q.toList || p.toList == q.toList))) := fun hc A hA w hw => quiet_of_run (by
  simp only [execOp, hx hc A hA, hy hc A hA]; simp [eqGuard, binOp, Op.stringOp])
theorem q_geqS {ty2 : TypeId} {p q : ByteArray} (hx : EvU N c s x (.string p)) (hy : EvU N c s y (.string q)) : QV P N w0 c s mo m ⟨d, .binOp .geq t x y ty2, ty, ps, af, g⟩ (.bool (!Op.bytesLess p.toList q.toList)) := fun hc A hA w hw => quiet_of_run (by
  simp only [execOp, hx hc A hA, hy hc A hA]; simp [eqGuard, binOp, Op.stringOp])
theorem q_leqS {ty2 : TypeId} {p q : ByteArray} (hx : EvU N c s x (.string p)) (hy : EvU N c s y (.string q)) : QV P N w0 c s mo m ⟨d, .binOp .leq t x y ty2, ty, ps, af, g⟩ (.bool (Op.bytesLess p.toList q.toList || p.toList == q.toList)) := fun hc A hA w hw => quiet_of_run (by
  simp only [execOp, hx hc A hA, hy hc A hA]; simp [eqGuard, binOp, Op.stringOp])
/-! addresses -/
theorem q_field {o off o' : Nat} {G : Nat} {fi : Nat} [hf : TyF P t fi off] (hx : EvU N c s x (.pointer (some ⟨G, o, none⟩))) (ho : o + off = o') : QV P N w0 c s mo m ⟨d, .fieldAddr t x fi, ty, ps, af, g⟩ (.pointer (some ⟨G, o', none⟩)) := fun hc A hA w hw => quiet_of_run (by
  simp only [execOp, hx hc A hA]; simp [hf.field, add_off, ho])
theorem q_fieldA {off : Nat} {B : Addr} {i : Nat} {fi : Nat} [hf : TyF P t fi off] (hx : EvU N c s x (.pointer (some (B.add i)))) : QV P N w0 c s mo m ⟨d, .fieldAddr t x fi, ty, ps, af, g⟩ (.pointer (some (B.add (i + off)))) := fun hc A hA w hw => quiet_of_run (by
  simp only [execOp, hx hc A hA]; simp [hf.field, add_add])
theorem q_index {B : Addr} {n cp e j sz : Nat} {ag : Bool} [hu : TyU P t (.slice e)] [hs : TyS P e sz ag] (hx : EvU N c s x (.slice (some B) n cp)) (hy : EvU N c s y (.int k a)) [hi : NatI a j] (h : c = true → j < n) :
    QV P N w0 c s mo m ⟨d, .indexAddr t x y, ty, ps, af, g⟩ (.pointer (some (B.add (j * sz)))) := fun hc A hA w hw => quiet_of_run (by
  have h1 : 0 ≤ a ∧ a < (n : Int) := by rw [hi.eq]; have := h hc; omega
  have h2 : a.toNat = j := by rw [hi.eq]; simp
  simp only [execOp, hx hc A hA, hy hc A hA]; simp [Instr.indexAt, asIntOf, run_underlying hu.und, h1, h2, hs.size])
theorem q_nilCheck {B : Addr} (hx : EvU N c s x (.pointer (some B))) : QV P N w0 c s mo m ⟨d, .nilCheck x, ty, ps, af, g⟩ (.pointer (some B)) := fun hc A hA w hw => quiet_of_run (by
  simp only [execOp, hx hc A hA]; rfl)
theorem q_extract {vs : List Value} {i : Nat} (hx : EvU N c s x (.tuple vs.toArray)) (hv : Nth v vs i) : QV P N w0 c s mo m ⟨d, .extract x i, ty, ps, af, g⟩ v := fun hc A hA w hw => quiet_of_run (by
  simp only [execOp, hx hc A hA]; simp [Instr.extract, hv.get])
/-! loads -/
theorem run_loadVar1 {w : World} {p : Addr} [hs : TyS P t 1 false] (h : w.cell? p = some v) : (loadVar t p).run P w = .ok v w := by
  simp [loadVar, hs.agg, h]
theorem run_loadVarN {w : World} {p : Addr} {n : Nat} {vs : List Value} [hs : TyS P t n true] (hn : vs.length = n) (h : ∀ j v, vs[j]? = some v → w.cell? (p.add j) = some v) : (loadVar t p).run P w = .ok (.agg vs.toArray) w := by
  subst hn
  simp [loadVar, hs.agg, hs.size, run_loadCells_list w p vs h]
theorem cell_blk {w : World} {G o : Nat} {cs : Array Value} {e : TypeId} {fr : Nat × Nat} (h : w.heap[G]? = some (.cells cs e fr)) : w.cell? ⟨G, o, none⟩ = cs[o]? := by simp [World.cell?, h]
theorem q_load {G o : Nat} {cs : List Value} {e : TypeId} {fr : Nat × Nat} [hs : TyS P t 1 false] (hx : EvU N c s x (.pointer (some ⟨G, o, none⟩))) (hm : Res.blk G (.cells cs.toArray e fr) ∈ m) (hv : Nth v cs o) : QV P N w0 c s mo m ⟨d, .load t x, ty, ps, af, g⟩ v := fun hc A hA w hw => quiet_of_run (by
  have h1 : w.cell? ⟨G, o, none⟩ = some v := (cell_blk (hw.sat _ hm)).trans (by simpa using hv.get)
  simp only [execOp, hx hc A hA]; simp [Instr.loadAt, Instr.sureAddr, run_loadVar1 h1])
theorem q_loadN {G o n : Nat} {cs : List Value} {e : TypeId} {fr : Nat × Nat} {vs : List Value} [hs : TyS P t n true] (hx : EvU N c s x (.pointer (some ⟨G, o, none⟩))) (hm : Res.blk G (.cells cs.toArray e fr) ∈ m) (hv : Cut cs o n vs) : QV P N w0 c s mo m ⟨d, .load t x, ty, ps, af, g⟩ (.agg vs.toArray) := fun hc A hA w hw => quiet_of_run (by
  have h1 : ∀ j v, vs[j]? = some v → w.cell? ((⟨G, o, none⟩ : Addr).add j) = some v := fun j v hj => by
    rw [add_off, cell_blk (hw.sat _ hm)]
    rw [← hv.eq.1, List.getElem?_take] at hj
    split at hj
    · simpa using hj
    · simp at hj
  simp only [execOp, hx hc A hA]; simp [Instr.loadAt, Instr.sureAddr, run_loadVarN hv.eq.2 h1])
theorem q_loadO {p : Addr} [hs : TyS P t 1 false] (hx : EvU N c s x (.pointer (some p))) (hp : c = true → w0.cell? p = some v) (hmo : p.block ∉ mo) : QV P N w0 c s mo m ⟨d, .load t x, ty, ps, af, g⟩ v := fun hc A hA w hw => quiet_of_run (by
  simp only [execOp, hx hc A hA]; simp [Instr.loadAt, Instr.sureAddr, run_loadVar1 (hw.cell_old (hp hc) hmo)])
theorem q_loadON {p : Addr} {n : Nat} {vs : List Value} [hs : TyS P t n true] (hx : EvU N c s x (.pointer (some p))) (hn : vs.length = n) (hp : c = true → ∀ j v, vs[j]? = some v → w0.cell? (p.add j) = some v) (hmo : p.block ∉ mo) : QV P N w0 c s mo m ⟨d, .load t x, ty, ps, af, g⟩ (.agg vs.toArray) := fun hc A hA w hw => quiet_of_run (by
  have hb : ∀ j, (p.add j).block = p.block := fun j => by unfold Addr.add; split <;> rfl
  simp only [execOp, hx hc A hA]; simp [Instr.loadAt, Instr.sureAddr, run_loadVarN hn (fun j v hj => hw.cell_old (hp hc j v hj) (by rw [hb]; exact hmo))])
end
end Go.Proofs.Ytdhhjhkonmacdaa
