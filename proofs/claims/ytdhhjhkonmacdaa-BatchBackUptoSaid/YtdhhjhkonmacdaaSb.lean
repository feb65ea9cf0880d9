/- Generic: a new base. What has been made and is turned no more is read as old memory; X: blocks that may be turned (what is told of old memory stays clear of them). -/
import Derived.Test.YtdhhjhkonmacdaaSa
namespace Go.Proofs.Ytdhhjhkonmacdaa
open Go.RowKit
set_option linter.unusedVariables false
set_option linter.unusedSimpArgs false
def Res.blocks : Res → List Nat
  | .blk g _ => [g]
  | .row v _ _ _ _ => v.ownBlock.toList
  | .mp g _ => [g]
  | .held bs _ => bs
theorem Res.at_iff {r : Res} {b : Nat} : r.at b ↔ b ∈ r.blocks := by
  cases r with
  | blk g o => simp [Res.at, Res.blocks, eq_comm]
  | mp g o => simp [Res.at, Res.blocks, eq_comm]
  | row v e sz n xs => simp [Res.at, Res.blocks]
  | held bs Φ => simp [Res.at, Res.blocks]
def blocksOf : List Res → List Nat
  | [] => []
  | r :: m => r.blocks ++ blocksOf m
theorem mem_blocksOf {m : List Res} {b : Nat} : b ∈ blocksOf m ↔ ∃ r ∈ m, r.at b := by
  induction m with
  | nil => simp [blocksOf]
  | cons r m ih => simp [blocksOf, ih, Res.at_iff]
theorem blocksOf_append (a b : List Res) : blocksOf (a ++ b) = blocksOf a ++ blocksOf b := by
  induction a with
  | nil => rfl
  | cons r m ih => simp [blocksOf, ih]
section
variable {w0 w w' : World} {mo : List Nat} {m m' m1 m2 : List Res}
theorem Mem.lt (h : Mem w0 mo m w) : ∀ b ∈ blocksOf m, b < w.heap.size := fun b hb => by
  obtain ⟨r, hr, hat⟩ := mem_blocksOf.1 hb
  exact Res.lt (h.sat r hr) hat
theorem Mem.newB (h : Mem w0 mo m w) : ∀ b ∈ blocksOf m, w0.heap.size ≤ b ∨ b ∈ mo := fun b hb => by
  obtain ⟨r, hr, hat⟩ := mem_blocksOf.1 hb
  exact h.new r hr b hat
theorem Mem.rebase (h : Mem w0 mo m w) : Mem w (blocksOf m) m w :=
  ⟨rfl, rfl, rfl, Nat.le_refl _, fun _ _ _ => rfl, h.sat, fun r hr b hb => .inr (mem_blocksOf.2 ⟨r, hr, hb⟩), h.apart⟩
theorem Mem.trans (h : Mem w0 mo m w) (h' : Mem w (blocksOf m) m' w') : Mem w0 mo m' w' :=
  ⟨h'.os.trans h.os, h'.tape.trans h.tape, h'.output.trans h.output, Nat.le_trans h.size h'.size,
    fun b hb hn => (h'.old b (Nat.lt_of_lt_of_le hb h.size) fun hm => by
      rcases h.newB b hm with h1 | h1
      · omega
      · exact hn h1).trans (h.old b hb hn),
    h'.sat, fun r hr b hb => by
      rcases h'.new r hr b hb with h1 | h1
      · exact .inl (Nat.le_trans h.size h1)
      · exact h.newB b h1, h'.apart⟩
/-- m1 out of m; m2: the rest. -/
inductive Take : List Res → List Res → List Res → Prop
  | nil {m : List Res} : Take [] m m
  | take {r : Res} {m1 m m2 : List Res} : Take m1 m m2 → Take (r :: m1) (r :: m) m2
  | skip {r : Res} {m1 m m2 : List Res} : Take m1 m m2 → Take m1 (r :: m) (r :: m2)
theorem Take.perm (h : Take m1 m m2) : (m1 ++ m2).Perm m := by
  induction h with
  | nil => exact List.Perm.refl _
  | take _ ih => exact ih.cons _
  | skip _ ih => exact (List.perm_middle).trans (ih.cons _)
/-- What a callee did with what was handed to it. -/
theorem Mem.back (h : Mem w0 mo (m1 ++ m2) w) (h' : Mem w (blocksOf m1) m' w') : Mem w0 mo (m' ++ m2) w' := by
  have hap := List.pairwise_append.1 h.apart
  have hk : ∀ r ∈ m2, ∀ b, r.at b → w'.heap[b]? = w.heap[b]? := fun r hr b hb => h'.old b (Res.lt (h.sat r (by simp [hr])) hb) fun hm => by
    obtain ⟨r', hr', hat⟩ := mem_blocksOf.1 hm
    exact hap.2.2 r' hr' r hr b hat hb
  have hn : ∀ r ∈ m', ∀ b, r.at b → w.heap.size ≤ b ∨ b ∈ blocksOf m1 := h'.new
  refine ⟨h'.os.trans h.os, h'.tape.trans h.tape, h'.output.trans h.output, Nat.le_trans h.size h'.size, fun b hb hno => ?_, fun r hr => ?_, fun r hr b hb => ?_, ?_⟩
  · refine (h'.old b (Nat.lt_of_lt_of_le hb h.size) fun hm => ?_).trans (h.old b hb hno)
    obtain ⟨r', hr', hat⟩ := mem_blocksOf.1 hm
    rcases h.new r' (by simp [hr']) b hat with h1 | h1
    · omega
    · exact hno h1
  · rcases List.mem_append.1 hr with hr | hr
    · exact h'.sat r hr
    · exact Res.keep (h.sat r (by simp [hr])) (hk r hr)
  · rcases List.mem_append.1 hr with hr | hr
    · rcases hn r hr b hb with h1 | h1
      · exact .inl (Nat.le_trans h.size h1)
      · obtain ⟨r', hr', hat⟩ := mem_blocksOf.1 h1
        exact h.new r' (by simp [hr']) b hat
    · exact h.new r (by simp [hr]) b hb
  · refine List.pairwise_append.2 ⟨h'.apart, hap.2.1, fun r hr q hq b h1 h2 => ?_⟩
    rcases hn r hr b h1 with h3 | h3
    · exact absurd (Nat.lt_of_lt_of_le (Res.lt (h.sat q (by simp [hq])) h2) h3) (Nat.lt_irrefl _)
    · obtain ⟨r', hr', hat⟩ := mem_blocksOf.1 h3
      exact hap.2.2 r' hr' q hq b hat h2
end
/-! ### what is told of old memory, clear of X -/
class SubX (mo X : List Nat) : Prop where
  sub : ∀ b ∈ mo, b ∈ X
instance (X : List Nat) : SubX [] X := ⟨by simp⟩
instance (X : List Nat) : SubX X X := ⟨fun _ h => h⟩
/-- A row of elements in memory, clear of X. -/
class RowX (w : World) (X : List Nat) (B : Addr) {α : outParam Type} (sz : outParam Nat) (l : outParam (List α)) (enc : outParam (α → List Value)) (dflt : outParam α) : Prop where
  row : RowI w B sz l enc dflt
  pos : 0 < sz
  lt : l ≠ [] → B.block < w.heap.size
  out : l ≠ [] → B.block ∉ X
/-- A later world: from (w0, X0), m being what may be turned, to (w, X). -/
class Later (w0 : outParam World) (X0 : outParam (List Nat)) (w : World) (X : List Nat) : Prop where
  size : w0.heap.size ≤ w.heap.size
  same : ∀ b, b < w0.heap.size → b ∉ X0 → w.heap[b]? = w0.heap[b]? ∧ b ∉ X
theorem Later.refl (w : World) (X : List Nat) : Later w X w X := ⟨Nat.le_refl _, fun _ _ h => ⟨rfl, h⟩⟩
theorem Later.trans {w0 w1 w2 : World} {X0 X1 X2 : List Nat} (h : Later w0 X0 w1 X1) (h' : Later w1 X1 w2 X2) : Later w0 X0 w2 X2 :=
  ⟨Nat.le_trans h.size h'.size, fun b hb hn => by
    obtain ⟨h1, h2⟩ := h.same b hb hn
    obtain ⟨h3, h4⟩ := h'.same b (Nat.lt_of_lt_of_le hb h.size) h2
    exact ⟨h3.trans h1, h4⟩⟩
theorem Later.mem {w0 w : World} {mo X : List Nat} {m : List Res} [hs : SubX mo X] (h : Mem w0 mo m w) : Later w0 X w (blocksOf m ++ X) :=
  ⟨h.size, fun b hb hn => ⟨h.old b hb fun hm => hn (hs.sub b hm), fun hm => by
    rcases List.mem_append.1 hm with h1 | h1
    · rcases h.newB b h1 with h2 | h2
      · omega
      · exact hn (hs.sub b h2)
    · exact hn h1⟩⟩
theorem Later.cell {w0 w : World} {X0 X : List Nat} (h : Later w0 X0 w X) {p : Addr} {v : Value} (hc : w0.cell? p = some v) (hn : p.block ∉ X0) : w.cell? p = some v :=
  (World.cell?_of_block (h.same p.block (World.block_lt_of_cell? w0 p hc) hn).1).trans hc
theorem add_block (B : Addr) (i : Nat) : (B.add i).block = B.block := by unfold Addr.add; split <;> rfl
theorem RowX.later {w0 w : World} {X0 X : List Nat} {B : Addr} {α : Type} {sz : Nat} {l : List α} {enc : α → List Value} {dflt : α} (h : RowX w0 X0 B sz l enc dflt) (hl : Later w0 X0 w X) : RowX w X B sz l enc dflt := by
  refine ⟨⟨fun j x hj => ?_⟩, h.pos, fun hne => Nat.lt_of_lt_of_le (h.lt hne) hl.size, fun hne => (hl.same _ (h.lt hne) (h.out hne)).2⟩
  obtain ⟨h1, h2⟩ := h.row.row j x hj
  have hne : l ≠ [] := fun e => by subst e; simp at hj
  exact ⟨h1, fun o v hv => hl.cell (h2 o v hv) (by rw [add_block]; exact h.out hne)⟩
instance (priority := low) RowX.ofLater {w0 w : World} {X0 X : List Nat} {B : Addr} {α : Type} {sz : Nat} {l : List α} {enc : α → List Value} {dflt : α} [hl : Later w0 X0 w X] [h : RowX w0 X0 B sz l enc dflt] : RowX w X B sz l enc dflt := h.later hl
theorem RowX.nil (w : World) (X : List Nat) (B : Addr) {α : Type} (enc : α → List Value) (dflt : α) : RowX w X B 1 ([] : List α) enc dflt := ⟨⟨by simp⟩, Nat.one_pos, by simp, by simp⟩
theorem RowX.more {w : World} {X Y : List Nat} {B : Addr} {α : Type} {sz : Nat} {l : List α} {enc : α → List Value} {dflt : α} (h : RowX w X B sz l enc dflt) (hy : l ≠ [] → B.block ∉ Y) : RowX w Y B sz l enc dflt := ⟨h.row, h.pos, h.lt, hy⟩
theorem flatMap_get {α : Type} {enc : α → List Value} {sz : Nat} : ∀ (l : List α), (∀ x ∈ l, (enc x).length = sz) → ∀ (j : Nat) (x : α), l[j]? = some x → ∀ o v, (enc x)[o]? = some v → (l.flatMap enc)[j * sz + o]? = some v
  | [], _, j, x, h, _, _, _ => by simp at h
  | a :: l, hl, 0, x, h, o, v, hv => by
    simp at h; subst h
    have : o < (enc a).length := (List.getElem?_eq_some_iff.1 hv).1
    rw [List.flatMap_cons, List.getElem?_append_left (by simpa using this)]
    simpa using hv
  | a :: l, hl, j + 1, x, h, o, v, hv => by
    have ha := hl a (by simp)
    rw [List.flatMap_cons, List.getElem?_append_right (by rw [ha, Nat.succ_mul]; omega), ha, show (j + 1) * sz + o - sz = j * sz + o by rw [Nat.succ_mul]; omega]
    exact flatMap_get l (fun x hx => hl x (by simp [hx])) j x (by simpa using h) o v hv
/-- What an owned row tells. -/
theorem ownsRow_rowX {w : World} {X : List Nat} {e : TypeId} {sz n : Nat} {v : Value} {α : Type} {l : List α} {enc : α → List Value} {dflt : α} (h : w.ownsRow 0 e sz v n (l.flatMap enc)) (hsz : 0 < sz) (hl : ∀ x ∈ l, (enc x).length = sz)
    (hX : ∀ b, v.ownBlock = some b → b ∉ X) : ∃ A B cp, v = .slice A l.length cp ∧ Based A l.length B ∧ RowX w X B sz l enc dflt ∧ l.length ≤ cp ∧ n = l.length ∧ (A = none → cp = 0) ∧ (l ≠ [] → v.ownBlock = some B.block) := by
  obtain ⟨h1, h2⟩ := h
  have hlen : (l.flatMap enc).length = l.length * sz := by
    clear h1 h2
    induction l with
    | nil => simp
    | cons a r ih => rw [List.flatMap_cons, List.length_append, ih (fun x hx => hl x (by simp [hx])), hl a (by simp), List.length_cons, Nat.succ_mul]; omega
  have hn : n = l.length := by
    rw [hlen] at h1
    exact (Nat.eq_of_mul_eq_mul_right hsz h1).symm
  subst hn
  rcases h2 with ⟨rfl, h0⟩ | ⟨g, cap, cur, rfl, hb, hg, hcap, _, hcur, hrest⟩
  · have : l = [] := List.eq_nil_of_length_eq_zero h0
    subst this
    exact ⟨none, default, 0, rfl, ⟨fun h => absurd h (by simp)⟩, ⟨⟨by simp⟩, hsz, by simp, by simp⟩, Nat.le_refl _, rfl, fun _ => rfl, by simp⟩
  · refine ⟨some ⟨g, 0, none⟩, ⟨g, 0, none⟩, cap, rfl, ⟨fun _ => rfl⟩, ⟨⟨fun j x hj => ⟨hl x (List.mem_of_getElem? hj), fun o v hv => ?_⟩⟩, hsz, fun _ => (Array.getElem?_eq_some_iff.1 hg).1, fun _ => hX g rfl⟩, hcap, rfl, nofun, fun _ => rfl⟩
    have := flatMap_get l hl j x hj o v hv
    rw [← hrest] at this
    rw [add_off, cell_blk hg, Nat.zero_add]
    have hlt := (List.getElem?_eq_some_iff.1 this).1
    rw [List.getElem?_take_of_lt (by rw [List.length_take] at hlt; omega)] at this
    simpa using this
section
variable {P : Program} {N : Nat} {w0 : World} {ops : Array Oper} {Q : Act → World → Prop} {l : Pl Oper} {s : Slots} {mo : List Nat} {kk m m1 m2 : List Res} {f : Fl} {v u : Value} {c : Bool} {d : Nat} {x y z : Operand} {ty t : TypeId} {ps : String} {af : Array Edge} {g : Option (Nat × Bool)} {k : IntKind} {a b : Int} {at_ : Array TypeId}
/-- A new base behind an operation: R w w1: what it did, out of world w. -/
theorem J.re {ι : Type} {o : Oper} {r : ι → Value} {R : ι → World → World → Prop} {m' : ι → List Res} (hf : f ≠ .q) (ho : o.dst = some d) (hd : Nat.blt d N = true) (hwt : Wt N ops s o.guard true)
    (he : ∀ A, Holds N s A → ∀ w, Mem w0 mo m w → effAt P o A w (fun u w' => ∃ i, u = r i ∧ R i w w' ∧ Mem w0 mo (m' i) w')) (hk : ∀ i, kk.Sublist (m' i))
    (K : ∀ i w w1, Mem w0 mo m w → R i w w1 → Mem w0 mo (m' i) w1 → J P N w1 ops Q l ((d, r i) :: s) (blocksOf (m' i)) kk (m' i)) : J P N w0 ops Q (.op f o l) s mo kk m := by
  intro hkm a ha
  cases f with
  | q => exact absurd rfl hf
  | _ =>
    simp only [Run, stepT, hwt a ha o rfl, if_true]
    refine ⟨{ q : ι × World × World // Mem w0 mo m q.2.1 ∧ R q.1 q.2.1 q.2.2 ∧ Mem w0 mo (m' q.1) q.2.2 }, fun q => r q.1.1, fun q => Mem q.1.2.2 (blocksOf (m' q.1.1)) (m' q.1.1), fun q => Mem q.1.2.2 (blocksOf (m' q.1.1)) kk,
      fun q => Mem.class (hk _), fun q w hw => q.2.2.2.trans hw, fun _ => Mem.closed, fun w hw => ?_, fun q => by rw [ho]; exact K q.1.1 _ _ q.2.1 q.2.2.1 q.2.2.2 (hk _) _ (ha.put hd _)⟩
    exact (he a ha w hw).mono fun u w' ⟨i, h1, h2, h3⟩ => ⟨⟨(i, w, w'), hw, h2, h3⟩, h1, h3.rebase⟩
/-- The same, the operation having no slot. -/
theorem J.re0 {ι : Type} {o : Oper} {R : ι → World → World → Prop} {m' : ι → List Res} (hf : f ≠ .q) (ho : o.dst = none) (hwt : Wt N ops s o.guard true)
    (he : ∀ A, Holds N s A → ∀ w, Mem w0 mo m w → effAt P o A w (fun u w' => ∃ i, R i w w' ∧ Mem w0 mo (m' i) w')) (hk : ∀ i, kk.Sublist (m' i))
    (K : ∀ i w w1, Mem w0 mo m w → R i w w1 → Mem w0 mo (m' i) w1 → J P N w1 ops Q l s (blocksOf (m' i)) kk (m' i)) : J P N w0 ops Q (.op f o l) s mo kk m := by
  intro hkm a ha
  cases f with
  | q => exact absurd rfl hf
  | _ =>
    simp only [Run, stepT, hwt a ha o rfl, if_true]
    refine ⟨Value × { q : ι × World × World // Mem w0 mo m q.2.1 ∧ R q.1 q.2.1 q.2.2 ∧ Mem w0 mo (m' q.1) q.2.2 }, fun q => q.1, fun q => Mem q.2.1.2.2 (blocksOf (m' q.2.1.1)) (m' q.2.1.1), fun q => Mem q.2.1.2.2 (blocksOf (m' q.2.1.1)) kk,
      fun q => Mem.class (hk _), fun q w hw => q.2.2.2.2.trans hw, fun _ => Mem.closed, fun w hw => ?_, fun q => by rw [ho]; exact K q.2.1.1 _ _ q.2.2.1 q.2.2.2.1 q.2.2.2.2 (hk _) _ ha⟩
    exact (he a ha w hw).mono fun u w' ⟨i, h2, h3⟩ => ⟨(u, ⟨(i, w, w'), hw, h2, h3⟩), rfl, h3.rebase⟩
/-- A call that turns m1 (out of m) into m1', and of whose answer R tells: on from a new base. -/
theorem J.callX {ι : Type} {F : FuncId} [hF : FnC P F] {args : List Operand} {first cap vs full : List Value} {r : ι → Value} {R : ι → World → World → Prop} {m1' : ι → List Res}
    (hcall : ∀ w, Mem w0 mo m w → Mem w (blocksOf m1) m1 w → Calls P F full.toArray w (fun e w' => ∃ i, e = .returned (r i) ∧ R i w w' ∧ Mem w (blocksOf m1) (m1' i) w'))
    (K : ∀ i w w1, Mem w0 mo m w → R i w w1 → Mem w0 mo (m1' i ++ m2) w1 → J P N w1 ops Q l ((d, r i) :: s) (blocksOf (m1' i ++ m2)) kk (m1' i ++ m2))
    (ht : Take m1 m m2) (hf : f ≠ .q) (hd : Nat.blt d N = true) (hwt : Wt N ops s g true) (hx : EvU N true s x (.func (.func F) first.toArray cap.toArray)) (ha : Evs N true s args vs) (hfull : first ++ vs ++ cap = full) (hk : ∀ i, kk.Sublist (m1' i ++ m2)) :
    J P N w0 ops Q (.op f ⟨some d, .call ⟨.value x, args.toArray, at_⟩, ty, ps, af, g⟩ l) s mo kk m :=
  J.re (r := r) (R := R) (m' := fun i => m1' i ++ m2) hf rfl hd hwt (fun A hA w hw => by
    unfold effAt
    rw [run_callv (hx rfl A hA) (ha.eq rfl hA), hfull]
    have hp := hw.perm ht.perm
    exact (hcall w hw (hp.forget (List.sublist_append_left _ _)).rebase).mono fun e w' ⟨i, h1, h2, h3⟩ => ⟨r i, h1, i, rfl, h2, hp.back h3⟩) hk K
theorem G.re {Q : Exit → Act → World → Prop} {cd : Code} (K : ∀ w, Mem w0 mo m w → G P N w Q cd s (blocksOf m) m) : G P N w0 Q cd s mo m := fun a w ha hw => K w hw a w ha hw.rebase
theorem Fin.re {Q : Exit → Act → World → Prop} {e : Exit} (K : ∀ w, Mem w0 mo m w → Fin N w Q e s (blocksOf m) m) : Fin N w0 Q e s mo m := fun a w ha hw => K w hw a w ha hw.rebase
/-- A loop that tells of its world at its head. -/
theorem G.loopX {ι : Type} {Q : Exit → Act → World → Prop} {cd : Code} (i0 : ι) (S : ι → Slots) (M : ι → List Res) (pre : ι → World → Prop) (μ : ι → Nat)
    (h0 : ∀ w, Mem w0 mo m w → pre i0 w)
    (round : ∀ i w1, Mem w0 mo (M i) w1 → pre i w1 → G P N w1 (Exit.then (fun a w => ∃ j, μ j < μ i ∧ Holds N (S j) a ∧ Mem w1 (blocksOf (M i)) (M j) w ∧ pre j w) Q) cd (S i) (blocksOf (M i)) (M i))
    (hs : ∀ a, Holds N s a → Holds N (S i0) a) (hm : ∀ w, Mem w0 mo m w → Mem w0 mo (M i0) w) : G P N w0 Q (.loop cd) s mo m := fun a w ha hw => by
  intro b k cs
  have key : ∀ n i, μ i = n → ∀ a w, Holds N (S i) a → Mem w0 mo (M i) w → pre i w → ∃ e a' w', Q e a' w' ∧ Arrives P (lone (b.at a (.code cd :: .inLoop cd :: k)) cs w) b k cs e a' w' := by
    intro n
    induction n using Nat.strongRecOn with
    | _ n ih =>
      intro i hi a w ha hw hp
      obtain ⟨e, a', w', hq, harr⟩ := round i w hw hp a w ha hw.rebase b (.inLoop cd :: k) cs
      cases e with
      | normal =>
        obtain ⟨j, hlt, hsj, hmj, hpj⟩ := hq
        obtain ⟨e, a2, w2, hq2, harr2⟩ := ih (μ j) (by omega) j rfl a' w' hsj (hw.trans hmj) hpj
        exact ⟨e, a2, w2, hq2, .of_steps (Steps.trans harr (.one step_inLoop)) harr2⟩
      | exit id => exact ⟨_, a', w', hq, .pass (x := .inLoop cd) rfl (fun _ _ => .inl (by simp)) harr⟩
      | goto l => exact ⟨_, a', w', hq, .pass (x := .inLoop cd) rfl (fun _ _ => .inl (by simp)) harr⟩
      | ret => exact ⟨_, a', w', hq, .pass (x := .inLoop cd) rfl (fun _ _ => .inl (by simp)) harr⟩
      | panic ch => exact ⟨_, a', w', hq, .pass (x := .inLoop cd) rfl (fun _ _ => .inl (by simp)) harr⟩
      | outgrown => exact ⟨_, a', w', hq, .pass (x := .inLoop cd) rfl (fun _ _ => .inl (by simp)) harr⟩
  obtain ⟨e, a', w', hq, harr⟩ := key _ i0 rfl a w (hs a ha) (hm w hw) (h0 w hw)
  exact ⟨e, a', w', hq, .of_steps (.one step_loop) harr⟩
theorem Fin.roundX {ι : Type} {Q : Exit → Act → World → Prop} {S : ι → Slots} {M : ι → List Res} {pre : ι → World → Prop} {μ : ι → Nat} {w1 : World} {X : List Nat} {n : Nat} (j : ι) (hb : ∀ w, Mem w0 mo m w → Mem w1 X (M j) w ∧ pre j w) (hlt : μ j < n) (hs : ∀ a, Holds N s a → Holds N (S j) a) :
    Fin N w0 (Exit.then (fun a w => ∃ j, μ j < n ∧ Holds N (S j) a ∧ Mem w1 X (M j) w ∧ pre j w) Q) .normal s mo m := fun a w ha hw => ⟨j, hlt, hs a ha, (hb w hw).1, (hb w hw).2⟩
end
end Go.Proofs.Ytdhhjhkonmacdaa
