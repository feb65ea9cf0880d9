/- Generic: data (slices, and what lies in them) as Lean data; what is known of memory that is turned no more. -/
import Derived.Test.YtdhhjhkonmacdaaSb
import Derived.Laws.Slices
import Derived.Laws.BytesString
import Derived.Laws.Cover3
namespace Go.Proofs.Ytdhhjhkonmacdaa
open Go.RowKit
set_option linter.unusedVariables false
set_option linter.unusedSimpArgs false
/-- What a datum says of memory, and where it looks. -/
class Dp (α : Type) where
  deep : α → World → Prop
  foot : α → Nat → Prop
  stay : ∀ (x : α) (w w' : World), deep x w → (∀ b, foot x b → w'.heap[b]? = w.heap[b]?) → deep x w'
  lt : ∀ (x : α) (w : World) (b : Nat), deep x w → foot x b → b < w.heap.size
/-- A Go type's data: their cells. -/
class GoT (α : Type) extends Inhabited α, Dp α where
  sz : Nat
  enc : α → List Value
  len : ∀ x, (enc x).length = sz
  pos : 0 < sz
  one : ∀ x, ∀ u ∈ enc x, u.oneCell' = true
  dflt : ∀ w, Dp.deep (default : α) w
class SzIs (α : Type) [GoT α] (n : Nat) : Prop where
  eq : n = GoT.sz α
/-- A slice. -/
structure Sl (α : Type) where
  A : Option Addr
  B : Addr
  l : List α
  cp : Nat
  base : 0 < l.length → A = some B
  le : l.length ≤ cp
  nil : A = none → cp = 0
section
variable {α β : Type}
def Sl.none : Sl α := ⟨.none, default, [], 0, by simp, Nat.le_refl _, fun _ => rfl⟩
instance : Inhabited (Sl α) := ⟨Sl.none⟩
def Sl.v (s : Sl α) : Value := .slice s.A s.l.length s.cp
instance (s : Sl α) : Based s.A s.l.length s.B := ⟨s.base⟩
@[simp] theorem Sl.none_l : (Sl.none : Sl α).l = [] := rfl
@[simp] theorem Sl.none_A : (Sl.none : Sl α).A = .none := rfl
@[simp] theorem Sl.none_v : (Sl.none : Sl α).v = .slice .none 0 0 := rfl
theorem Sl.nil_l {s : Sl α} (h : s.A = .none) : s.l = [] := List.eq_nil_of_length_eq_zero (by have := s.nil h; have := s.le; omega)
theorem Sl.nil_v {s : Sl α} (h : s.A = .none) : s.v = .slice .none 0 0 := by
  unfold Sl.v; rw [Sl.nil_l h, s.nil h, h]; rfl
/-- s[i:] -/
def Sl.drop (s : Sl α) (i sz : Nat) : Sl α := ⟨if s.cp = i then s.A else s.A.map (·.add (i * sz)), s.B.add (i * sz), s.l.drop i, s.cp - i, fun h => by
  have h1 : i < s.l.length := by simp at h; omega
  have h2 := s.le
  rw [if_neg (by omega), s.base (by omega)]; rfl, by have := s.le; simp; omega, fun h => by
  by_cases h1 : s.cp = i
  · omega
  · rw [if_neg h1] at h
    have := s.nil (by simpa using h)
    omega⟩
/-- s[:n] -/
def Sl.pre (s : Sl α) (n : Nat) : Sl α := ⟨s.A, s.B, s.l.take n, s.cp, fun h => s.base (by simp at h; omega), by have := s.le; simp; omega, s.nil⟩
/-- s[:n:n] -/
def Sl.head (s : Sl α) (n : Nat) : Sl α := ⟨s.A, s.B, s.l.take n, (s.l.take n).length, fun h => s.base (by simp at h; omega), Nat.le_refl _, fun h => by rw [Sl.nil_l h]; simp⟩
instance [Dp α] : Dp (List α) where
  deep l w := ∀ x ∈ l, Dp.deep x w
  foot l b := ∃ x ∈ l, Dp.foot x b
  stay l w w' h hs x hx := Dp.stay x w w' (h x hx) fun b hb => hs b ⟨x, hx, hb⟩
  lt l w b h := fun ⟨x, hx, hb⟩ => Dp.lt x w b (h x hx) hb
instance [Dp α] [Dp β] : Dp (α × β) where
  deep p w := Dp.deep p.1 w ∧ Dp.deep p.2 w
  foot p b := Dp.foot p.1 b ∨ Dp.foot p.2 b
  stay p w w' h hs := ⟨Dp.stay p.1 w w' h.1 fun b hb => hs b (.inl hb), Dp.stay p.2 w w' h.2 fun b hb => hs b (.inr hb)⟩
  lt p w b h hb := hb.elim (Dp.lt p.1 w b h.1) (Dp.lt p.2 w b h.2)
def Sl.Row [GoT α] (s : Sl α) (w : World) : Prop := RowI w s.B (GoT.sz α) s.l GoT.enc default
instance instDpSl [GoT α] : Dp (Sl α) where
  deep s w := s.Row w ∧ Dp.deep s.l w
  foot s b := (s.l ≠ [] ∧ b = s.B.block) ∨ Dp.foot s.l b
  stay s w w' h hs := by
    refine ⟨⟨fun j x hj => ?_⟩, Dp.stay s.l w w' h.2 fun b hb => hs b (.inr hb)⟩
    obtain ⟨h1, h2⟩ := h.1.row j x hj
    refine ⟨h1, fun o v hv => ?_⟩
    have hne : s.l ≠ [] := fun e => by rw [e] at hj; simp at hj
    have := h2 o v hv
    exact (World.cell?_of_block (hs _ (.inl ⟨hne, by rw [add_block]⟩))).trans this
  lt s w b h hb := by
    rcases hb with ⟨hne, rfl⟩ | hb
    · obtain ⟨x, r, hx⟩ := List.exists_cons_of_ne_nil hne
      obtain ⟨h1, h2⟩ := h.1.row 0 x (by rw [hx]; rfl)
      have hp : 0 < (GoT.enc x).length := by rw [GoT.len]; exact GoT.pos
      have := World.block_lt_of_cell? w _ (h2 0 _ (List.getElem?_eq_getElem hp))
      rwa [add_block] at this
    · exact Dp.lt s.l w b h.2 hb
theorem Sl.none_deep [GoT α] (w : World) : Dp.deep (Sl.none : Sl α) w := ⟨⟨fun j x h => by simp at h⟩, fun x hx => by simp at hx⟩
instance [GoT α] : GoT (Sl α) where
  sz := 1
  enc s := [s.v]
  len _ := rfl
  pos := Nat.one_pos
  one x u hu := by simp at hu; subst hu; rfl
  dflt := Sl.none_deep
/-- Bytes. -/
instance : GoT UInt8 where
  deep _ _ := True
  foot _ _ := False
  stay _ _ _ _ _ := trivial
  lt _ _ _ _ h := h.elim
  sz := 1
  enc b := [.int .u8 (b.toNat : Int)]
  len _ := rfl
  pos := Nat.one_pos
  one x u hu := by simp at hu; subst hu; rfl
  dflt _ := trivial
/-- Whole numbers of type int, int64. -/
instance : GoT Int where
  deep _ _ := True
  foot _ _ := False
  stay _ _ _ _ _ := trivial
  lt _ _ _ _ h := h.elim
  sz := 1
  enc a := [.int .i64 a]
  len _ := rfl
  pos := Nat.one_pos
  one x u hu := by simp at hu; subst hu; rfl
  dflt _ := trivial
/-- Texts. -/
instance : GoT ByteArray where
  deep _ _ := True
  foot _ _ := False
  stay _ _ _ _ _ := trivial
  lt _ _ _ _ h := h.elim
  sz := 1
  enc a := [.string a]
  len _ := rfl
  pos := Nat.one_pos
  one x u hu := by simp at hu; subst hu; rfl
  dflt _ := trivial
end

instance : SzIs UInt8 1 := ⟨rfl⟩
instance : SzIs Int 1 := ⟨rfl⟩
instance : SzIs ByteArray 1 := ⟨rfl⟩
instance {α : Type} [GoT α] : SzIs (Sl α) 1 := ⟨rfl⟩

theorem uwrap_nonneg (k : IntKind) (hk : k.signed = false) (z : Int) : 0 ≤ k.wrap z := by
  have : k.wrap z = z % 2 ^ k.bits := by simp [IntKind.wrap, hk]
  rw [this]
  exact Int.emod_nonneg _ (by have : (0 : Int) < 2 ^ k.bits := Int.pow_pos (by decide); omega)
instance : NatI 0 0 := ⟨rfl⟩
instance : NatI 1 1 := ⟨rfl⟩
instance : NatI 2 2 := ⟨rfl⟩
instance : NatI 3 3 := ⟨rfl⟩
instance : NatI 4 4 := ⟨rfl⟩
instance : NatI 5 5 := ⟨rfl⟩
instance : NatI 6 6 := ⟨rfl⟩
instance : NatI 7 7 := ⟨rfl⟩
instance : NatI 8 8 := ⟨rfl⟩
instance : NatI 9 9 := ⟨rfl⟩
instance : NatI 10 10 := ⟨rfl⟩
instance : NatI 11 11 := ⟨rfl⟩
instance : NatI 12 12 := ⟨rfl⟩
instance : NatI 13 13 := ⟨rfl⟩
instance : NatI 14 14 := ⟨rfl⟩
instance : NatI 15 15 := ⟨rfl⟩
instance : NatI 16 16 := ⟨rfl⟩
instance : NatI 17 17 := ⟨rfl⟩
instance : NatI 18 18 := ⟨rfl⟩
instance : NatI 19 19 := ⟨rfl⟩
instance : NatI 20 20 := ⟨rfl⟩
instance : NatI 21 21 := ⟨rfl⟩
instance : NatI 22 22 := ⟨rfl⟩
instance : NatI 23 23 := ⟨rfl⟩
instance : NatI 24 24 := ⟨rfl⟩
instance : NatI 25 25 := ⟨rfl⟩
instance : NatI 26 26 := ⟨rfl⟩
instance : NatI 27 27 := ⟨rfl⟩
instance : NatI 28 28 := ⟨rfl⟩
instance : NatI 29 29 := ⟨rfl⟩
instance : NatI 30 30 := ⟨rfl⟩
instance : NatI 31 31 := ⟨rfl⟩
instance : NatI 32 32 := ⟨rfl⟩
instance : NatI 33 33 := ⟨rfl⟩
instance : NatI 40 40 := ⟨rfl⟩
instance : NatI 48 48 := ⟨rfl⟩
instance : NatI 56 56 := ⟨rfl⟩
instance : NatI 63 63 := ⟨rfl⟩
instance : NatI 64 64 := ⟨rfl⟩
instance instNatMul {i k : Int} {a b : Nat} [ha : NatI i a] [hb : NatI k b] : NatI (i * k) (a * b) := ⟨by rw [ha.eq, hb.eq]; simp⟩
instance instNatU8 (z : Int) : NatI (IntKind.u8.wrap z) (IntKind.u8.wrap z).toNat := ⟨(Int.toNat_of_nonneg (uwrap_nonneg .u8 rfl z)).symm⟩
/-- A byte. -/
def byteOf (z : Int) : UInt8 := UInt8.ofNat (z % 256).toNat
theorem byteOf_toNat (z : Int) : ((byteOf z).toNat : Int) = IntKind.u8.wrap z := by
  have h : IntKind.u8.wrap z = z % 256 := by simp [IntKind.wrap, IntKind.signed, IntKind.bits]
  rw [h]
  unfold byteOf
  have h1 : 0 ≤ z % 256 := Int.emod_nonneg _ (by decide)
  have h2 : z % 256 < 256 := Int.emod_lt_of_pos _ (by decide)
  have h3 : (UInt8.ofNat (z % 256).toNat).toNat = (z % 256).toNat % 256 := by simp
  rw [h3]
  omega
theorem byteOf_enc (z : Int) : GoT.enc (byteOf z) = [.int .u8 (IntKind.u8.wrap z)] := by
  show [Value.int .u8 ((byteOf z).toNat : Int)] = _
  rw [byteOf_toNat]
theorem byteOf_enc' {z : Int} (h0 : 0 ≤ z) (h1 : z ≤ 255) : GoT.enc (byteOf z) = [.int .u8 z] := by rw [byteOf_enc, wrap_u8 h0 h1]

/-! ### what is known -/
/-- Of old memory, whatever is turned of mo. -/
class Old (w0 : World) (mo : List Nat) {α : Type} [Dp α] (x : α) : Prop where
  at0 : Dp.deep x w0
  out : ∀ b ∈ mo, ¬ Dp.foot x b
theorem Old.of {w0 : World} {α : Type} [Dp α] {x : α} (h : Dp.deep x w0) : Old w0 [] x := ⟨h, by simp⟩
class InM (m : List Res) {α : Type} [Dp α] (x : α) : Prop where
  mem : ∃ bs, Res.held bs (Dp.deep x) ∈ m
instance inM_here {α : Type} [Dp α] {x : α} {bs : List Nat} {m : List Res} : InM (.held bs (Dp.deep x) :: m) x := ⟨⟨bs, by simp⟩⟩
instance (priority := low) inM_there {α : Type} [Dp α] {x : α} {r : Res} {m : List Res} [h : InM m x] : InM (r :: m) x := ⟨by obtain ⟨bs, h⟩ := h.mem; exact ⟨bs, by simp [h]⟩⟩
/-- Known now. -/
class Kn (w0 : World) (mo : List Nat) (m : List Res) {α : Type} [Dp α] (x : α) : Prop where
  h : ∀ w, Mem w0 mo m w → Dp.deep x w
section
variable {w0 : World} {mo : List Nat} {m : List Res} {α β : Type}
theorem Old.later [Dp α] {x : α} (h : Old w0 mo x) {w : World} (hw : Mem w0 mo m w) : Dp.deep x w :=
  Dp.stay x w0 w h.at0 fun b hb => hw.old b (Dp.lt x w0 b h.at0 hb) fun hm => h.out b hm hb
instance (priority := low) kn_old [Dp α] {x : α} [h : Old w0 mo x] : Kn w0 mo m x := ⟨fun w hw => h.later hw⟩
instance (priority := low) kn_inM [Dp α] {x : α} [h : InM m x] : Kn w0 mo m x := ⟨fun w hw => by obtain ⟨bs, h⟩ := h.mem; exact (hw.sat _ h).1⟩
instance kn_el [GoT α] {s : Sl α} {k : Nat} [h : Kn w0 mo m s] : Kn w0 mo m (el s.l default k) := ⟨fun w hw => by
  by_cases hk : k < s.l.length
  · exact (h.h w hw).2 _ (el_mem hk)
  · have : el s.l default k = default := by simp [el, List.getElem?_eq_none (by omega : s.l.length ≤ k)]
    rw [this]; exact GoT.dflt w⟩
theorem Sl.drop_deep [GoT α] {s : Sl α} {w : World} (h : Dp.deep s w) (i : Nat) : Dp.deep (s.drop i (GoT.sz α)) w := by
  refine ⟨⟨fun j x hj => ?_⟩, fun x hx => h.2 x (List.mem_of_mem_drop hx)⟩
  have hj' : s.l[i + j]? = some x := by simpa [Sl.drop] using hj
  obtain ⟨h1, h2⟩ := h.1.row (i + j) x hj'
  refine ⟨h1, fun o v hv => ?_⟩
  have := h2 o v hv
  show w.cell? ((s.B.add (i * GoT.sz α)).add (j * GoT.sz α + o)) = some v
  rw [add_add, ← Nat.add_assoc, ← Nat.add_mul]; exact this
theorem Sl.pre_deep [GoT α] {s : Sl α} {w : World} (h : Dp.deep s w) (n : Nat) : Dp.deep (s.pre n) w := by
  refine ⟨⟨fun j x hj => ?_⟩, fun x hx => h.2 x (List.mem_of_mem_take hx)⟩
  have hj' : s.l[j]? = some x := by
    have : (s.l.take n)[j]? = some x := hj
    rw [List.getElem?_take] at this
    split at this
    · exact this
    · cases this
  exact h.1.row j x hj'
theorem Sl.head_deep [GoT α] {s : Sl α} {w : World} (h : Dp.deep s w) (n : Nat) : Dp.deep (s.head n) w := Sl.pre_deep h n
instance kn_drop [GoT α] {s : Sl α} {i : Nat} [h : Kn w0 mo m s] : Kn w0 mo m (s.drop i (GoT.sz α)) := ⟨fun w hw => Sl.drop_deep (h.h w hw) i⟩
instance kn_drop2 [GoT α] {s : Sl α} {i sz : Nat} [h : Kn w0 mo m s] [hz : SzIs α sz] : Kn w0 mo m (s.drop i sz) := ⟨fun w hw => by rw [hz.eq]; exact Sl.drop_deep (h.h w hw) i⟩
instance kn_pre [GoT α] {s : Sl α} {n : Nat} [h : Kn w0 mo m s] : Kn w0 mo m (s.pre n) := ⟨fun w hw => Sl.pre_deep (h.h w hw) n⟩
instance kn_head [GoT α] {s : Sl α} {n : Nat} [h : Kn w0 mo m s] : Kn w0 mo m (s.head n) := ⟨fun w hw => Sl.head_deep (h.h w hw) n⟩
instance kn_none [GoT α] : Kn w0 mo m (Sl.none : Sl α) := ⟨fun w _ => Sl.none_deep w⟩
theorem Kn.get [Dp α] {x : α} [h : Kn w0 mo m x] {w : World} (hw : Mem w0 mo m w) : Dp.deep x w := h.h w hw
end
section
variable {P : Program} {N : Nat} {w0 : World} {ops : Array Oper} {Q : Act → World → Prop} {l : List (Fl × Oper)} {s : Slots} {mo : List Nat} {m m' : List Res} {f : Fl} {v u : Value} {c : Bool} {d : Option Tmp} {x y z : Operand} {ty t : TypeId} {ps : String} {af : Array Edge} {g : Option (Nat × Bool)} {k : IntKind} {a b : Int} {at_ : Array TypeId} {α : Type}
theorem run_load1 {w : World} {A : Act} {p : Addr} [hs : TyS P t 1 false] (hx : A.eval x = .pointer (some p)) (hp : w.cell? p = some v) : (execOp A.eval ⟨d, .load t x, ty, ps, af, g⟩).run P w = .ok (.value v) w := by
  simp only [execOp, hx]; simp [Instr.loadAt, Instr.sureAddr, run_loadVar1 hp]
theorem run_loadN {w : World} {A : Act} {p : Addr} {n : Nat} {vs : List Value} [hs : TyS P t n true] (hx : A.eval x = .pointer (some p)) (hn : vs.length = n) (hp : ∀ j v, vs[j]? = some v → w.cell? (p.add j) = some v) : (execOp A.eval ⟨d, .load t x, ty, ps, af, g⟩).run P w = .ok (.value (.agg vs.toArray)) w := by
  simp only [execOp, hx]; simp [Instr.loadAt, Instr.sureAddr, run_loadVarN hn hp]
theorem Sl.cells [GoT α] {S : Sl α} {w : World} (h : Dp.deep S w) {j : Nat} (hj : j < S.l.length) : (GoT.enc (el S.l default j)).length = GoT.sz α ∧ ∀ o v, (GoT.enc (el S.l default j))[o]? = some v → w.cell? (S.B.add (j * GoT.sz α + o)) = some v := h.1.row j _ (el_get hj)
/-- An element's cell. -/
theorem q_loadS [GoT α] {S : Sl α} {sz j o : Nat} [hs : TyS P t 1 false] (hx : EvU N c s x (.pointer (some (S.B.add (j * sz + o))))) (hk : Kn w0 mo m S) (hz : sz = GoT.sz α) (hj : c = true → j < S.l.length) (hv : Nth v (GoT.enc (el S.l default j)) o) :
    QV P N w0 c s mo m ⟨d, .load t x, ty, ps, af, g⟩ v := fun hc A hA w hw => quiet_of_run (run_load1 (hx hc A hA) (by rw [hz]; exact (Sl.cells (hk.h w hw) (hj hc)).2 o v hv.get))
theorem q_loadS0 [GoT α] {S : Sl α} {sz j : Nat} [hs : TyS P t 1 false] (hx : EvU N c s x (.pointer (some (S.B.add (j * sz))))) (hk : Kn w0 mo m S) (hz : sz = GoT.sz α) (hj : c = true → j < S.l.length) (hv : Nth v (GoT.enc (el S.l default j)) 0) :
    QV P N w0 c s mo m ⟨d, .load t x, ty, ps, af, g⟩ v := q_loadS (o := 0) hx hk hz hj hv
/-- An element. -/
theorem q_loadSN [GoT α] {S : Sl α} {sz j : Nat} {vs : List Value} [hs : TyS P t sz true] (hx : EvU N c s x (.pointer (some (S.B.add (j * sz))))) (hk : Kn w0 mo m S) (hz : sz = GoT.sz α) (hj : c = true → j < S.l.length) (hv : GoT.enc (el S.l default j) = vs) :
    QV P N w0 c s mo m ⟨d, .load t x, ty, ps, af, g⟩ (.agg vs.toArray) := fun hc A hA w hw => quiet_of_run (by
  subst hv
  have h := Sl.cells (hk.h w hw) (hj hc)
  exact run_loadN (hx hc A hA) (by rw [h.1, hz]) (fun j' v' hj' => by rw [add_add, hz]; exact h.2 j' v' hj'))
/-- A struct within an element. -/
theorem q_loadSS [GoT α] {S : Sl α} {sz n j o : Nat} {vs : List Value} [hs : TyS P t n true] (hx : EvU N c s x (.pointer (some (S.B.add (j * sz + o))))) (hk : Kn w0 mo m S) (hz : sz = GoT.sz α) (hj : c = true → j < S.l.length) (hv : Cut (GoT.enc (el S.l default j)) o n vs) :
    QV P N w0 c s mo m ⟨d, .load t x, ty, ps, af, g⟩ (.agg vs.toArray) := fun hc A hA w hw => quiet_of_run (by
  have h := Sl.cells (hk.h w hw) (hj hc)
  refine run_loadN (hx hc A hA) hv.eq.2 (fun j' v' hj' => ?_)
  rw [add_add, Nat.add_assoc, hz]
  refine h.2 (o + j') v' ?_
  rw [← hv.eq.1, List.getElem?_take] at hj'
  split at hj'
  · simpa using hj'
  · simp at hj')
/-! slices of slices -/
theorem run_slice {w : World} {lo hi mx : Option Value} {S : Sl α} {i h mm e sz : Nat} {ag : Bool} [hu : TyU P t (.slice e)] [hs : TyS P e sz ag] (hb : (Instr.sliceBounds true S.l.length S.cp lo hi mx).run P w = .ok (i, h, mm) w) :
    (Instr.sliceAt t S.v lo hi mx).run P w = .ok (.slice (if mm = i then S.A else S.A.map (·.add (i * sz))) (h - i) (mm - i)) w := by
  unfold Sl.v
  simp [Instr.sliceAt, Instr.slice, run_underlying hu.und, hb, hs.size]
theorem run_bound {w : World} {kk : IntKind} {j y : Nat} (code : BoundsCode) (h : j ≤ y) : (Instr.sliceBound (.int kk (j : Int)) y code).run P w = .ok j w := by
  rw [run_sliceBound w kk (j : Int) y code (by omega) (by omega)]; simp
theorem q_sliceL {S : Sl α} {i e sz : Nat} {ag : Bool} [hu : TyU P t (.slice e)] [hs : TyS P e sz ag] (hx : EvU N c s x S.v) (hy : EvU N c s y (.int k a)) (hi : NatI a i) (h : c = true → i ≤ S.l.length) :
    QV P N w0 c s mo m ⟨d, .slice t x (some y) none none, ty, ps, af, g⟩ (S.drop i sz).v := fun hc A hA w hw => quiet_of_run (by
  have h1 := h hc
  have h2 := S.le
  simp only [execOp, hx hc A hA, hy hc A hA, hi.eq, Option.map_some, Option.map_none]
  simp [run_slice (P := P) (S := S) (lo := some (.int k (i : Int))) (hi := none) (mx := none) (i := i) (h := S.l.length) (mm := S.cp) (e := e) (sz := sz) (w := w) (t := t) (by simp [Instr.sliceBounds, run_bound _ h1])]
  simp [Sl.drop, Sl.v])
theorem q_sliceH {S : Sl α} {i e sz : Nat} {ag : Bool} [hu : TyU P t (.slice e)] [hs : TyS P e sz ag] (hx : EvU N c s x S.v) (hy : EvU N c s y (.int k a)) (hi : NatI a i) (h : c = true → i ≤ S.l.length) :
    QV P N w0 c s mo m ⟨d, .slice t x none (some y) none, ty, ps, af, g⟩ (S.pre i).v := fun hc A hA w hw => quiet_of_run (by
  have h1 := h hc
  have h2 := S.le
  simp only [execOp, hx hc A hA, hy hc A hA, hi.eq, Option.map_some, Option.map_none]
  simp [run_slice (P := P) (S := S) (lo := none) (hi := some (.int k (i : Int))) (mx := none) (i := 0) (h := i) (mm := S.cp) (e := e) (sz := sz) (w := w) (t := t) (by simp [Instr.sliceBounds, run_bound _ (show i ≤ S.cp by omega)])]
  have e1 : (if S.cp = 0 then S.A else S.A.map (fun x => x.add 0)) = S.A := by split <;> simp [add_zero]
  simp [Sl.pre, Sl.v, Nat.min_eq_left h1, add_zero, e1])
theorem q_sliceHM {S : Sl α} {i e sz : Nat} {ag : Bool} {k2 : IntKind} {a2 : Int} [hu : TyU P t (.slice e)] [hs : TyS P e sz ag] (hx : EvU N c s x S.v) (hy : EvU N c s y (.int k a)) (hz : EvU N c s z (.int k2 a2)) (hi : NatI a i) (hi2 : NatI a2 i) (h : c = true → i ≤ S.l.length) :
    QV P N w0 c s mo m ⟨d, .slice t x none (some y) (some z), ty, ps, af, g⟩ (S.head i).v := fun hc A hA w hw => quiet_of_run (by
  have h1 := h hc
  have h2 := S.le
  simp only [execOp, hx hc A hA, hy hc A hA, hz hc A hA, hi.eq, hi2.eq, Option.map_some, Option.map_none]
  simp [run_slice (P := P) (S := S) (lo := none) (hi := some (.int k (i : Int))) (mx := some (.int k2 (i : Int))) (i := 0) (h := i) (mm := i) (e := e) (sz := sz) (w := w) (t := t) (by simp [Instr.sliceBounds, run_bound _ (show i ≤ S.cp by omega), run_bound _ (Nat.le_refl i)])]
  have e1 : (if i = 0 then S.A else S.A.map (fun x => x.add 0)) = S.A := by split <;> simp [add_zero]
  simp [Sl.head, Sl.v, Nat.min_eq_left h1, add_zero, e1])
/-- A shift of a number that is not below 0. -/
theorem q_shrN {ty2 : TypeId} {k2 : IntKind} {n j : Nat} (hx : EvU N c s x (.int k a)) (hy : EvU N c s y (.int k2 b)) (hn : NatI a n) (hj : NatI b j) (h : c = true → j ≤ k.bits) : QV P N w0 c s mo m ⟨d, .binOp .shr t x y ty2, ty, ps, af, g⟩ (.int k ((n / 2 ^ j : Nat) : Int)) := fun hc A hA w hw => by
  have h1 := q_shr (P := P) (w0 := w0) (mo := mo) (m := m) (d := d) (t := t) (ty := ty) (ty2 := ty2) (ps := ps) (af := af) (g := g) hx hy (fun _ => by rw [hj.eq]; omega) hc A hA w hw
  have h2 : a.fdiv (2 ^ (min b.toNat k.bits)) = ((n / 2 ^ j : Nat) : Int) := by
    have := h hc
    rw [hn.eq, hj.eq, Int.toNat_natCast, Nat.min_eq_left this, Int.fdiv_eq_ediv_of_nonneg _ (Int.pow_nonneg (by decide))]
    simp
  rwa [h2] at h1
/-- s == nil -/
theorem q_eqNil {S : Sl α} {e : TypeId} {ty2 : TypeId} [hu : TyU P t (.slice e)] (hx : EvU N c s x S.v) : QV P N w0 c s mo m ⟨d, .binOp .eql t x (.const (.slice none 0 0)) ty2, ty, ps, af, g⟩ (.bool S.A.isNone) := fun hc A hA w hw => quiet_of_run (by
  simp only [execOp, hx hc A hA, Sl.v]
  simp [eqGuard, Act.eval, binOp, run_equal_slice_nil w t e _ _ _ hu.und])
end
end Go.Proofs.Ytdhhjhkonmacdaa
