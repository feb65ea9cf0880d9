/- Generic: slices that are read, strings, length. -/
import Derived.Test.YtdhhjhkonmacdaaSp
namespace Go.Proofs.Ytdhhjhkonmacdaa
open Go.RowKit
set_option linter.unusedVariables false
set_option linter.unusedSimpArgs false

/-- Where a slice's elements lie, if it has some. -/
class Based (A : Option Addr) (n : Nat) (B : outParam Addr) : Prop where
  base : 0 < n → A = some B
instance (B : Addr) (n : Nat) : Based (some B) n B := ⟨fun _ => rfl⟩
/-- An element of a list (simp doesn't look inside). -/
def el {α : Type} (l : List α) (d : α) (k : Nat) : α := l.getD k d
theorem el_eq {α : Type} {l : List α} {d : α} {k : Nat} (h : k < l.length) : el l d k = l[k] := by simp [el, h]
theorem el_get {α : Type} {l : List α} {d : α} {k : Nat} (h : k < l.length) : l[k]? = some (el l d k) := by simp [el, h]
theorem el_drop {α : Type} (l : List α) (d : α) (k : Nat) (h : k < l.length) : l.drop k = el l d k :: l.drop (k + 1) := by
  rw [List.drop_eq_getElem_cons h, el_eq h]
theorem el_take {α : Type} (l : List α) (d : α) (k : Nat) (h : k < l.length) : l.take (k + 1) = l.take k ++ [el l d k] := by
  rw [List.take_succ_eq_append_getElem h, el_eq h]
theorem el_mem {α : Type} {l : List α} {d : α} {k : Nat} (h : k < l.length) : el l d k ∈ l := by rw [el_eq h]; exact List.getElem_mem h
/-- A row of elements in memory: their cells. -/
class RowI (w : World) (B : Addr) {α : outParam Type} (sz : outParam Nat) (l : outParam (List α)) (enc : outParam (α → List Value)) (dflt : outParam α) : Prop where
  row : ∀ j x, l[j]? = some x → (enc x).length = sz ∧ ∀ o v, (enc x)[o]? = some v → w.cell? (B.add (j * sz + o)) = some v
theorem RowI.at_ {w : World} {B : Addr} {α : Type} {sz : Nat} {l : List α} {enc : α → List Value} {dflt : α} (h : RowI w B sz l enc dflt) {j : Nat} (hj : j < l.length) : (enc (el l dflt j)).length = sz ∧ ∀ o v, (enc (el l dflt j))[o]? = some v → w.cell? (B.add (j * sz + o)) = some v := by
  have : l[j]? = some (el l dflt j) := el_get hj
  exact h.row j _ this
section
variable {P : Program} {N : Nat} {w0 : World} {ops : Array Oper} {Q : Act → World → Prop} {l : List (Fl × Oper)} {s : Slots} {mo : List Nat} {m m' : List Res} {f : Fl} {v u : Value} {c : Bool} {d : Option Tmp} {x y z : Operand} {ty t : TypeId} {ps : String} {af : Array Edge} {g : Option (Nat × Bool)} {k : IntKind} {a b : Int} {at_ : Array TypeId}
theorem q_len {A : Option Addr} {n cp : Nat} {e : TypeId} [hu : TyU P t (.slice e)] (hx : EvU N c s x (.slice A n cp)) : QV P N w0 c s mo m ⟨d, .call ⟨.builtin .len, #[x], #[t]⟩, ty, ps, af, g⟩ (.int .i64 n) := fun hc A hA w hw => quiet_of_run (by
  simp only [execOp, resolve]
  simp [invoke, builtin, Builtin.len_, hx hc A hA, run_underlying hu.und, goInt])
theorem q_lenS {p : ByteArray} [hu : TyU P t .string] (hx : EvU N c s x (.string p)) : QV P N w0 c s mo m ⟨d, .call ⟨.builtin .len, #[x], #[t]⟩, ty, ps, af, g⟩ (.int .i64 p.size) := fun hc A hA w hw => quiet_of_run (by
  simp only [execOp, resolve]
  simp [invoke, builtin, Builtin.len_, hx hc A hA, run_underlying hu.und, goInt])
theorem q_index' {A : Option Addr} {B : Addr} {n cp e j sz : Nat} {ag : Bool} [hu : TyU P t (.slice e)] [hs : TyS P e sz ag] (hx : EvU N c s x (.slice A n cp)) (hy : EvU N c s y (.int k a)) (hB : Based A n B) (hi : NatI a j) (h : c = true → j < n) :
    QV P N w0 c s mo m ⟨d, .indexAddr t x y, ty, ps, af, g⟩ (.pointer (some (B.add (j * sz)))) := fun hc A' hA w hw => by
  have hj := h hc
  obtain rfl := hB.base (by omega)
  exact q_index (P := P) (w0 := w0) (mo := mo) (m := m) (d := d) (ty := ty) (ps := ps) (af := af) (g := g) hx hy h hc A' hA w hw
theorem q_loadR {B : Addr} {α : Type} {sz j o : Nat} {L : List α} {enc : α → List Value} {dflt : α} [hs : TyS P t 1 false] (hx : EvU N c s x (.pointer (some (B.add (j * sz + o))))) (hR : RowI w0 B sz L enc dflt) (hj : c = true → j < L.length) (hv : Nth v (enc (el L dflt j)) o) (hmo : B.block ∉ mo) :
    QV P N w0 c s mo m ⟨d, .load t x, ty, ps, af, g⟩ v := fun hc A hA w hw => by
  have hb : ∀ i, (B.add i).block = B.block := fun i => by unfold Addr.add; split <;> rfl
  exact q_loadO (P := P) (w0 := w0) (mo := mo) (m := m) (d := d) (ty := ty) (ps := ps) (af := af) (g := g) hx (fun hc => (hR.at_ (hj hc)).2 o v hv.get) (by rw [hb]; exact hmo) hc A hA w hw
theorem q_loadR0 {B : Addr} {α : Type} {sz j : Nat} {L : List α} {enc : α → List Value} {dflt : α} [hs : TyS P t 1 false] (hx : EvU N c s x (.pointer (some (B.add (j * sz))))) (hR : RowI w0 B sz L enc dflt) (hj : c = true → j < L.length) (hv : Nth v (enc (el L dflt j)) 0) (hmo : B.block ∉ mo) :
    QV P N w0 c s mo m ⟨d, .load t x, ty, ps, af, g⟩ v := q_loadR (o := 0) hx hR hj hv hmo
theorem q_loadRN {B : Addr} {α : Type} {sz j : Nat} {L : List α} {enc : α → List Value} {dflt : α} [hs : TyS P t sz true] (hx : EvU N c s x (.pointer (some (B.add (j * sz))))) (hR : RowI w0 B sz L enc dflt) (hj : c = true → j < L.length) (hmo : B.block ∉ mo) :
    QV P N w0 c s mo m ⟨d, .load t x, ty, ps, af, g⟩ (.agg (enc (el L dflt j)).toArray) := fun hc A hA w hw => by
  have hb : ∀ i, (B.add i).block = B.block := fun i => by unfold Addr.add; split <;> rfl
  have h2 := hR.at_ (hj hc)
  exact q_loadON (P := P) (w0 := w0) (mo := mo) (m := m) (d := d) (ty := ty) (ps := ps) (af := af) (g := g) hx h2.1 (fun _ j' v' hj' => by rw [add_add]; exact h2.2 j' v' hj') (by rw [hb]; exact hmo) hc A hA w hw
theorem q_loadRS {B : Addr} {α : Type} {sz n j o : Nat} {L : List α} {enc : α → List Value} {dflt : α} {vs : List Value} [hs : TyS P t n true] (hx : EvU N c s x (.pointer (some (B.add (j * sz + o))))) (hR : RowI w0 B sz L enc dflt) (hj : c = true → j < L.length) (hv : Cut (enc (el L dflt j)) o n vs) (hmo : B.block ∉ mo) :
    QV P N w0 c s mo m ⟨d, .load t x, ty, ps, af, g⟩ (.agg vs.toArray) := fun hc A hA w hw => by
  have hb : ∀ i, (B.add i).block = B.block := fun i => by unfold Addr.add; split <;> rfl
  have h2 := hR.at_ (hj hc)
  refine q_loadON (P := P) (w0 := w0) (mo := mo) (m := m) (d := d) (ty := ty) (ps := ps) (af := af) (g := g) hx hv.eq.2 (fun _ j' v' hj' => ?_) (by rw [hb]; exact hmo) hc A hA w hw
  rw [add_add, Nat.add_assoc]
  refine h2.2 (o + j') v' ?_
  rw [← hv.eq.1, List.getElem?_take] at hj'
  split at hj'
  · simpa using hj'
  · simp at hj'
/-- A byte of a string. -/
def byteAt (p : ByteArray) (i : Nat) : Int := ((p.data.toList.getD i 0).toNat : Int)
theorem q_indexS {p : ByteArray} {j : Nat} [hu : TyU P t .string] (hx : EvU N c s x (.string p)) (hy : EvU N c s y (.int k a)) (hi : NatI a j) (h : c = true → j < p.size) :
    QV P N w0 c s mo m ⟨d, .index t x y, ty, ps, af, g⟩ (.int .u8 (byteAt p j)) := fun hc A hA w hw => quiet_of_run (by
  have hj := h hc
  have h1 : 0 ≤ a := by rw [hi.eq]; omega
  have h2 : a.toNat = j := by rw [hi.eq]; simp
  have h3 : p[j]? = some (p.data.toList.getD j 0) := by
    have : j < p.data.toList.length := by simpa using hj
    rw [List.getD_eq_getElem?_getD, List.getElem?_eq_getElem this]
    show (if h : j < p.size then some p[j] else none) = _
    simp [hj]; rfl
  simp only [execOp, hx hc A hA, hy hc A hA]
  simp [Instr.index, asIntOf, run_underlying hu.und, h1, h2, h3, byteAt])
end
end Go.Proofs.Ytdhhjhkonmacdaa
