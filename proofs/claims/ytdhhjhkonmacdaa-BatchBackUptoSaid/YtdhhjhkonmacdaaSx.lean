/- Generic: a symbolic walk over the model. Assertions on slots and memory; rules for code, regions and single operations. -/
import Derived.Tactics
import Derived.Below
import Derived.Deep.Quiet
import Derived.Maps.AppendAt
import Derived.Laws.OwnMore
import Derived.KernelRfl
namespace Go.Proofs.Ytdhhjhkonmacdaa
open Go.RowKit
set_option linter.unusedVariables false
set_option linter.unusedSimpArgs false

/-! ### slots -/
abbrev Slots := List (Nat × Value)
def look : Slots → Nat → Option Value
  | [], _ => none
  | (j, v) :: r, i => bif Nat.beq j i then some v else look r i
structure Holds (N : Nat) (s : Slots) (a : Act) : Prop where
  defers : a.defers = []
  size : a.tmps.size = N
  slot : ∀ i v, look s i = some v → a.tmps.getD i undef = v
def ev (s : Slots) : Operand → Option Value
  | .tmp t => look s t
  | .const v => some v
  | .global g => some (.pointer (some ⟨g, 0, none⟩))
  | .func f => some (.func (.func f) #[] #[])
theorem Holds.ev {N : Nat} {s : Slots} {a : Act} (h : Holds N s a) {x : Operand} {v : Value} (hx : ev s x = some v) : a.eval x = v := by
  cases x with
  | tmp t => exact h.slot t v hx
  | const u => exact Option.some.inj hx
  | global g => exact Option.some.inj hx
  | func f => exact Option.some.inj hx
theorem look_cons (d : Nat) (v : Value) (s : Slots) (i : Nat) : look ((d, v) :: s) i = if d = i then some v else look s i := by
  show (bif Nat.beq d i then some v else look s i) = _
  by_cases h : d = i
  · subst h; simp
  · have : Nat.beq d i = false := by
      cases hb : Nat.beq d i with
      | false => rfl
      | true => exact absurd (Nat.eq_of_beq_eq_true hb) h
    simp [this, h]
theorem Holds.put {N : Nat} {s : Slots} {a : Act} (h : Holds N s a) {d : Nat} (hd : Nat.blt d N = true) (v : Value) : Holds N ((d, v) :: s) (a.put (some d) v) := by
  have hd' : d < N := by simpa [Nat.blt_eq] using hd
  refine ⟨h.defers, by simp [Act.put, h.size], fun i u hi => ?_⟩
  rw [look_cons] at hi
  simp only [Act.put]
  by_cases e : d = i
  · subst e
    simp at hi; subst hi
    simp [Array.getD_eq_getD_getElem?, h.size, hd']
  · rw [if_neg e] at hi
    have := h.slot i u hi
    simp only [Array.getD_eq_getD_getElem?] at this ⊢
    rw [Array.getElem?_setIfInBounds_ne e]
    exact this
theorem Holds.put_none {N : Nat} {s : Slots} {a : Act} (h : Holds N s a) (v : Value) : Holds N s (a.put none v) := h
theorem Holds.sub {N : Nat} {s s' : Slots} {a : Act} (h : Holds N s a) (hs : ∀ i v, look s' i = some v → look s i = some v) : Holds N s' a := ⟨h.defers, h.size, fun i v hi => h.slot i v (hs i v hi)⟩

/-! ### memory -/
inductive Res
  | blk (g : Nat) (o : Obj)
  | row (v : Value) (e : TypeId) (sz n : Nat) (xs : List Value)
  | mp (g : Nat) (l : List (Value × Value))
  | held (bs : List Nat) (Φ : World → Prop)
def Res.at : Res → Nat → Prop
  | .blk g _, b => g = b
  | .row v _ _ _ _, b => v.ownBlock = some b
  | .mp g _, b => g = b
  | .held bs _, b => b ∈ bs
def Res.sat (w : World) : Res → Prop
  | .blk g o => w.heap[g]? = some o
  | .row v e sz n xs => w.ownsRow 0 e sz v n xs
  | .mp g l => ∃ es clock, w.heap[g]? = some (.map es clock) ∧ (es.toList.map fun e => (e.key, e.val)).Perm l
  | .held bs Φ => Φ w ∧ (∀ b ∈ bs, b < w.heap.size) ∧ ∀ w' : World, (∀ b ∈ bs, w'.heap[b]? = w.heap[b]?) → Φ w'
/-- The world now: against w0 nothing old has turned but blocks of mo; m tells blocks and rows, each apart from the others. -/
structure Mem (w0 : World) (mo : List Nat) (m : List Res) (w : World) : Prop where
  os : w.os = w0.os
  tape : w.tape = w0.tape
  output : w.output = w0.output
  size : w0.heap.size ≤ w.heap.size
  old : ∀ b, b < w0.heap.size → b ∉ mo → w.heap[b]? = w0.heap[b]?
  sat : ∀ r ∈ m, r.sat w
  new : ∀ r ∈ m, ∀ b, r.at b → w0.heap.size ≤ b ∨ b ∈ mo
  apart : m.Pairwise (fun r r' => ∀ b, r.at b → ¬ r'.at b)
theorem Res.lt {w : World} {r : Res} (h : r.sat w) {b : Nat} (hb : r.at b) : b < w.heap.size := by
  cases r with
  | blk g o => cases hb; exact (Array.getElem?_eq_some_iff.1 h).1
  | row v e sz n xs => exact (World.ownsRow.lt h b hb).2
  | mp g l => cases hb; obtain ⟨es, c, h1, _⟩ := h; exact (Array.getElem?_eq_some_iff.1 h1).1
  | held bs Φ => exact h.2.1 b hb
theorem Res.keep {w w' : World} {r : Res} (h : r.sat w) (hk : ∀ b, r.at b → w'.heap[b]? = w.heap[b]?) : r.sat w' := by
  cases r with
  | blk g o => exact (hk g rfl).trans h
  | mp g l => obtain ⟨es, c, h1, h2⟩ := h; exact ⟨es, c, (hk g rfl).trans h1, h2⟩
  | held bs Φ =>
    obtain ⟨h1, h2, h3⟩ := h
    refine ⟨h3 w' hk, fun b hb => ?_, fun w2 h4 => h3 w2 fun b hb => (h4 b hb).trans (hk b hb)⟩
    have h5 := hk b hb
    rw [Array.getElem?_eq_getElem (h2 b hb)] at h5
    exact (Array.getElem?_eq_some_iff.1 h5).1
  | row v e sz n xs =>
    obtain ⟨h1, h2⟩ := h
    refine ⟨h1, ?_⟩
    rcases h2 with h2 | ⟨g, cap, cur, rfl, hb, hg, rest⟩
    · exact .inl h2
    · exact .inr ⟨g, cap, cur, rfl, hb, (hk g rfl).trans hg, rest⟩
theorem Mem.start (w : World) : Mem w [] [] w := ⟨rfl, rfl, rfl, Nat.le_refl _, fun _ _ _ => rfl, by simp, by simp, by simp⟩
section
variable {w0 w w' : World} {mo : List Nat} {m m' m1 m2 : List Res}
theorem Mem.below (h : Mem w0 mo m w) (hb : Below w.heap.size w w') : Mem w0 mo m w' :=
  ⟨hb.os.trans h.os, hb.tape.trans h.tape, hb.output.trans h.output, Nat.le_trans h.size hb.size,
    fun b hlt hn => (hb.block b (Nat.lt_of_lt_of_le hlt h.size)).trans (h.old b hlt hn),
    fun r hr => Res.keep (h.sat r hr) fun b hat => hb.block b (Res.lt (h.sat r hr) hat), h.new, h.apart⟩
/-- Nothing old was written. -/
theorem Mem.out (h : Mem w0 [] m w) : Below w0.heap.size w0 w :=
  ⟨h.os, h.tape, h.output, h.size, fun b hb => h.old b hb (by simp)⟩
theorem Mem.forget (h : Mem w0 mo m w) (hs : m'.Sublist m) : Mem w0 mo m' w :=
  ⟨h.os, h.tape, h.output, h.size, h.old, fun r hr => h.sat r (hs.subset hr), fun r hr => h.new r (hs.subset hr), h.apart.sublist hs⟩
theorem Mem.perm (h : Mem w0 mo m w) (hs : m'.Perm m) : Mem w0 mo m' w :=
  ⟨h.os, h.tape, h.output, h.size, h.old, fun r hr => h.sat r (hs.subset hr), fun r hr => h.new r (hs.subset hr), (hs.pairwise_iff (fun {a b} hab x hb ha => hab x ha hb)).2 h.apart⟩
/-- One more resource, of blocks that are new. -/
theorem Mem.more {r : Res} (h : Mem w0 mo m w) (hb : Below w.heap.size w w') (hr : r.sat w') (hn : ∀ b, r.at b → w.heap.size ≤ b) : Mem w0 mo (r :: m) w' := by
  have h' := h.below hb
  refine ⟨h'.os, h'.tape, h'.output, h'.size, h'.old, fun x hx => ?_, fun x hx b hat => ?_, List.pairwise_cons.2 ⟨fun x hx b hat hat' => ?_, h'.apart⟩⟩
  · rcases List.mem_cons.1 hx with rfl | hx
    · exact hr
    · exact h'.sat x hx
  · rcases List.mem_cons.1 hx with rfl | hx
    · exact .inl (Nat.le_trans h.size (hn b hat))
    · exact h'.new x hx b hat
  · exact absurd (Nat.lt_of_lt_of_le (Res.lt (h.sat x hx) hat') (hn b hat)) (Nat.lt_irrefl _)
theorem Mem.alloc (h : Mem w0 mo m w) (o : Obj) : Mem w0 mo (.blk w.heap.size o :: m) (w.alloc o) :=
  h.more ((Below.refl _ _).alloc (Nat.le_refl _) o) (show (w.heap.push o)[w.heap.size]? = some o by simp) (fun b hb => by cases hb; exact Nat.le_refl _)
theorem Mem.cell_old (h : Mem w0 mo m w) {p : Addr} {v : Value} (hc : w0.cell? p = some v) (hn : p.block ∉ mo) : w.cell? p = some v :=
  (World.cell?_of_block (h.old p.block (World.block_lt_of_cell? w0 p hc) hn)).trans hc
/-- What resource r lies in has turned: r' tells of it now. -/
theorem Mem.turn {r r' : Res} (h : Mem w0 mo (m1 ++ r :: m2) w) (hg : ∀ b, b < w.heap.size → ¬ r.at b → w'.heap[b]? = w.heap[b]?) (hr : r'.sat w') (hat : ∀ b, r'.at b → r.at b ∨ w.heap.size ≤ b)
    (h1 : w'.os = w.os) (h2 : w'.tape = w.tape) (h3 : w'.output = w.output) (h4 : w.heap.size ≤ w'.heap.size) : Mem w0 mo (m1 ++ r' :: m2) w' := by
  have hap := h.apart
  rw [List.pairwise_append, List.pairwise_cons] at hap
  obtain ⟨p1, ⟨p2, p3⟩, p4⟩ := hap
  have hne : ∀ x, x ∈ m1 ∨ x ∈ m2 → ∀ b, x.at b → ¬ r.at b := by
    intro x hx b hb hb'
    rcases hx with hx | hx
    · exact p4 x hx r (by simp) b hb hb'
    · exact p2 x hx b hb' hb
  have hin : ∀ x, x ∈ m1 ∨ x ∈ m2 → x ∈ m1 ++ r :: m2 := fun x hx => by rcases hx with hx | hx <;> simp [hx]
  have hne' : ∀ x, x ∈ m1 ∨ x ∈ m2 → ∀ b, x.at b → ¬ r'.at b := fun x hx b hb hb' => by
    rcases hat b hb' with hb' | hb'
    · exact hne x hx b hb hb'
    · exact absurd (Nat.lt_of_lt_of_le (Res.lt (h.sat x (hin x hx)) hb) hb') (Nat.lt_irrefl _)
  refine ⟨h1.trans h.os, h2.trans h.tape, h3.trans h.output, Nat.le_trans h.size h4, fun b hb hn => ?_, fun x hx => ?_, fun x hx b hb => ?_, ?_⟩
  · refine (hg b (Nat.lt_of_lt_of_le hb h.size) fun e => ?_).trans (h.old b hb hn)
    rcases h.new r (by simp) b e with h' | h'
    · omega
    · exact hn h'
  · have key : ∀ x, x ∈ m1 ∨ x ∈ m2 → x.sat w' := fun x hx => Res.keep (h.sat x (hin x hx)) fun b hb => hg b (Res.lt (h.sat x (hin x hx)) hb) (hne x hx b hb)
    simp only [List.mem_append, List.mem_cons] at hx
    rcases hx with hx | rfl | hx
    · exact key x (.inl hx)
    · exact hr
    · exact key x (.inr hx)
  · simp only [List.mem_append, List.mem_cons] at hx
    rcases hx with hx | rfl | hx
    · exact h.new x (hin x (.inl hx)) b hb
    · rcases hat b hb with hb | hb
      · exact h.new r (by simp) b hb
      · exact .inl (Nat.le_trans h.size hb)
    · exact h.new x (hin x (.inr hx)) b hb
  · rw [List.pairwise_append, List.pairwise_cons]
    refine ⟨p1, ⟨fun x hx b hb hb' => hne' x (.inr hx) b hb' hb, p3⟩, fun x hx y hy b hb hb' => ?_⟩
    rcases List.mem_cons.1 hy with rfl | hy
    · exact hne' x (.inl hx) b hb hb'
    · exact p4 x hx y (by simp [hy]) b hb hb'
/-- A store into a tracked block. -/
theorem Mem.store {g : Nat} {cs : Array Value} {e : TypeId} (h : Mem w0 mo (m1 ++ .blk g (.cells cs e (0, 0)) :: m2) w) (i : Nat) (u : Value) :
    Mem w0 mo (m1 ++ .blk g (.cells (cs.setIfInBounds i u) e (0, 0)) :: m2) (w.setCell ⟨g, i, none⟩ u) := by
  have hb : w.heap[g]? = some (.cells cs e (0, 0)) := h.sat (.blk g (.cells cs e (0, 0))) (by simp)
  refine h.turn (fun b _ hn => Below.heap_setCell w _ u b (fun e => hn e.symm)) ?_ (fun b hb => .inl hb) rfl rfl rfl (by simp [World.setCell])
  show (w.heap.modify g _)[g]? = _
  rw [Array.getElem?_modify, if_pos rfl, hb]
  rfl
end
end Go.Proofs.Ytdhhjhkonmacdaa
