/- Generic: steps that find their own rule, over data. -/
import Derived.Test.YtdhhjhkonmacdaaSc
namespace Go.Proofs.Ytdhhjhkonmacdaa
open Go.RowKit
set_option linter.unusedVariables false
set_option linter.unusedSimpArgs false
section
variable {w0 w : World} {mo : List Nat} {m m' : List Res} {α β : Type}
/-- A resource is told otherwise. -/
theorem Mem.conv {r r' : Res} (hu : Upd r r' m m') (hs : ∀ w, r.sat w → r'.sat w) (hat : ∀ b, r'.at b → r.at b) (h : Mem w0 mo m w) : Mem w0 mo m' w := by
  obtain ⟨m1, m2, rfl, rfl⟩ := hu.split
  exact h.turn (w' := w) (fun _ _ _ => rfl) (hs w (h.sat r (by simp))) (fun b hb => .inl (hat b hb)) rfl rfl rfl (Nat.le_refl _)
/-- Two resources are told as one. -/
theorem Mem.join {r1 r2 r : Res} (h : Mem w0 mo (r1 :: r2 :: m) w) (hs : ∀ w, r1.sat w → r2.sat w → r.sat w) (hat : ∀ b, r.at b → r1.at b ∨ r2.at b) : Mem w0 mo (r :: m) w := by
  have hap := h.apart
  rw [List.pairwise_cons, List.pairwise_cons] at hap
  refine ⟨h.os, h.tape, h.output, h.size, h.old, fun x hx => ?_, fun x hx b hb => ?_, List.pairwise_cons.2 ⟨fun x hx b hb => ?_, hap.2.2⟩⟩
  · rcases List.mem_cons.1 hx with rfl | hx
    · exact hs w (h.sat r1 (by simp)) (h.sat r2 (by simp))
    · exact h.sat x (by simp [hx])
  · rcases List.mem_cons.1 hx with rfl | hx
    · rcases hat b hb with hb | hb
      · exact h.new r1 (by simp) b hb
      · exact h.new r2 (by simp) b hb
    · exact h.new x (by simp [hx]) b hb
  · rcases hat b hb with hb | hb
    · exact hap.1 x (by simp [hx]) b hb
    · exact hap.2.1 x hx b hb
/-- Nothing is told. -/
theorem Mem.add0 {Φ : World → Prop} (h : Mem w0 mo m w) (hΦ : ∀ w, Φ w) : Mem w0 mo (.held [] Φ :: m) w :=
  h.more (Below.refl _ w) ⟨hΦ w, by simp, fun w' _ => hΦ w'⟩ (fun b hb => by cases hb)
theorem Mem.none [GoT α] (h : Mem w0 mo m w) : Mem w0 mo (.held [] (Dp.deep (Sl.none : Sl α)) :: m) w := h.add0 Sl.none_deep
theorem Mem.own0 [GoT α] (h : Mem w0 mo m w) (e : TypeId) : Mem w0 mo (Res.own e (Sl.none : Sl α) :: m) w := h.nilRow e (GoT.sz α)
theorem ownB [GoT α] {e : TypeId} {S : Sl α} (h : (Res.own e S).sat w) (hne : S.l ≠ []) : S.v.ownBlock = some S.B.block := by
  have := S.base (List.length_pos_iff.2 hne)
  simp [Sl.v, this, Value.ownBlock]
/-- What is own is turned no more. -/
theorem own_held [GoT α] {e : TypeId} {S : Sl α} (h : (Res.own e S).sat w) (hd : Dp.deep S.l w) (bs : List Nat) (hb : ∀ b ∈ bs, b < w.heap.size) (hst : ∀ w', (∀ b ∈ bs, w'.heap[b]? = w.heap[b]?) → Dp.deep S.l w') : (Res.held (S.v.ownBlock.toList ++ bs) (Dp.deep S)).sat w := by
  refine ⟨⟨own_row h, hd⟩, fun b hbb => ?_, fun w' hw' => ⟨?_, hst w' fun b hb => hw' b (by simp [hb])⟩⟩
  · rcases List.mem_append.1 hbb with hb1 | hb1
    · exact (World.ownsRow.lt h b (by simpa using hb1)).2
    · exact hb b hb1
  · have h2 : (Res.own e S).sat w' := Res.keep h fun b hb => hw' b (by simp [show S.v.ownBlock = some b from hb])
    exact own_row h2
theorem Mem.freeze [GoT α] [Flat α] {e : TypeId} {S : Sl α} (h : Mem w0 mo (Res.own e S :: m) w) : Mem w0 mo (.held S.v.ownBlock.toList (Dp.deep S) :: m) w :=
  Mem.conv Upd.here (fun w h => by
    have := own_held h (fun x _ => Flat.deep x w) [] (by simp) (fun w' _ x _ => Flat.deep x w')
    simpa using this) (fun b hb => by simpa [Res.at] using hb) h
/-- The same, what its elements reach being told beside it. -/
theorem Mem.freezeN [GoT α] {e : TypeId} {S : Sl α} {bs : List Nat} (h : Mem w0 mo (Res.own e S :: .held bs (Dp.deep S.l) :: m) w) : Mem w0 mo (.held (S.v.ownBlock.toList ++ bs) (Dp.deep S) :: m) w :=
  h.join (fun w h1 h2 => own_held h1 h2.1 bs h2.2.1 h2.2.2) (fun b hb => by
    rcases List.mem_append.1 hb with hb | hb
    · exact .inl (by simpa [Res.at] using hb)
    · exact .inr hb)
theorem Mem.heldJoin [Dp α] [Dp β] {γ : Type} [Dp γ] {x : α} {y : β} {z : γ} {b1 b2 : List Nat} (h : Mem w0 mo (.held b1 (Dp.deep x) :: .held b2 (Dp.deep y) :: m) w) (hz : ∀ w, Dp.deep x w → Dp.deep y w → Dp.deep z w) : Mem w0 mo (.held (b1 ++ b2) (Dp.deep z) :: m) w :=
  h.join (fun w h1 h2 => ⟨hz w h1.1 h2.1, fun b hb => by
    rcases List.mem_append.1 hb with hb | hb
    · exact h1.2.1 b hb
    · exact h2.2.1 b hb, fun w' hw' => hz w' (h1.2.2 w' fun b hb => hw' b (by simp [hb])) (h2.2.2 w' fun b hb => hw' b (by simp [hb]))⟩) (fun b hb => by
    rcases List.mem_append.1 hb with hb | hb
    · exact .inl hb
    · exact .inr hb)
theorem Mem.heldTo [Dp α] [Dp β] {x : α} {y : β} {bs : List Nat} (h : Mem w0 mo (.held bs (Dp.deep x) :: m) w) (hy : ∀ w, Dp.deep x w → Dp.deep y w) : Mem w0 mo (.held bs (Dp.deep y) :: m) w :=
  Mem.conv (r := .held bs (Dp.deep x)) (r' := .held bs (Dp.deep y)) Upd.here (fun w h => ⟨hy w h.1, h.2.1, fun w' hw' => hy w' (h.2.2 w' hw')⟩) (fun b hb => hb) h
theorem Mem.flat [GoT α] [Flat α] (x : α) (h : Mem w0 mo m w) : Mem w0 mo (.held [] (Dp.deep x) :: m) w := h.add0 fun w => Flat.deep x w
end
theorem Run.less' {P : Program} {ops : Array Oper} {Q : Act → World → Prop} {D D' : World → Prop} (hD : ∀ w, D w → D' w) : ∀ (l : Pl Oper) (C : World → Prop) (a : Act), Run P ops Q l C a D' → Run P ops Q l C a D
  | .nil, C, a, h => fun w hw => h w (hD w hw)
  | .stop, C, a, h => trivial
  | .op .q o r, C, a, h => by
    simp only [Run] at h ⊢
    split
    · rename_i hw; rw [if_pos hw] at h; obtain ⟨v, h1, h2⟩ := h; exact ⟨v, h1, Run.less' hD r C _ h2⟩
    · rename_i hw; rw [if_neg hw] at h; exact Run.less' hD r C _ h
  | .op .a o r, C, a, h => by
    simp only [Run] at h ⊢
    exact h.less (fun a h => Run.less' hD r C a h) hD
  | .op .h o r, C, a, h => by
    simp only [Run] at h ⊢
    exact h.less (fun a h => Run.less' hD r C a h) hD
  | .alt f o r m, C, a, h => by
    simp only [Run] at h ⊢
    exact ⟨h.1.less (fun a h => Run.less' hD r C a h) hD, Run.less' hD m C a h.2⟩
  | .many l r, C, a, h => by
    simp only [Run, Many] at h ⊢
    obtain ⟨I, E, k0, rest⟩ := h
    exact ⟨I, E, fun w hw => k0 w (hD w hw), rest⟩
theorem J.weak {P : Program} {N : Nat} {w0 : World} {ops : Array Oper} {Q : Act → World → Prop} {l : Pl Oper} {s : Slots} {mo : List Nat} {kk m m' : List Res} (hm : ∀ w, Mem w0 mo m w → Mem w0 mo m' w) (hk : kk.Sublist m → kk.Sublist m') (h : J P N w0 ops Q l s mo kk m') : J P N w0 ops Q l s mo kk m :=
  fun hkm a ha => Run.less' hm l _ a (h (hk hkm) a ha)
/-- m1 out of m, found by search. -/
class TakeC (m1 m : List Res) (m2 : outParam (List Res)) : Prop where
  take : Take m1 m m2
instance takeC_nil {m : List Res} : TakeC [] m m := ⟨.nil⟩
instance takeC_head {r : Res} {m1 m m2 : List Res} [h : TakeC m1 m m2] : TakeC (r :: m1) (r :: m) m2 := ⟨h.take.take⟩
instance (priority := low) takeC_skip {r x : Res} {m1 m m2 : List Res} [h : TakeC (r :: m1) m m2] : TakeC (r :: m1) (x :: m) (x :: m2) := ⟨h.take.skip⟩
inductive App : List Res → List Res → List Res → Prop
  | nil {b : List Res} : App [] b b
  | cons {x : Res} {a b c : List Res} : App a b c → App (x :: a) b (x :: c)
theorem App.eq {a b c : List Res} (h : App a b c) : a ++ b = c := by
  induction h with
  | nil => rfl
  | cons _ ih => rw [List.cons_append, ih]
/-- A call that hands back new data. -/
def Gives (P : Program) (F : FuncId) (args : List Value) (w : World) {α : Type} [Dp α] (p : α → Prop) (r : α → Value) : Prop :=
  Calls P F args.toArray w fun e w' => ∃ x bs, p x ∧ e = .returned (r x) ∧ Mem w [] [.held bs (Dp.deep x)] w'
attribute [local irreducible] QV EvU Wt J G Fin
section
variable {P : Program} {N : Nat} {w0 : World} {ops : Array Oper} {Q : Act → World → Prop} {l : Pl Oper} {s : Slots} {mo : List Nat} {kk m m1 m2 m' : List Res} {o : Oper} {f : Fl} {v u : Value} {c : Bool} {d : Nat} {x y z : Operand} {ty t : TypeId} {ps : String} {af : Array Edge} {g : Option (Nat × Bool)} {k : IntKind} {a b : Int} {at_ : Array TypeId} {α : Type}
/-- An operation that reads and is not guarded. -/
theorem J.bu (K : J P N w0 ops Q l ((d, v) :: s) mo kk m) (ho : o.dst = some d := by rfl) (hd : Nat.blt d N = true := by rfl) (hwt : o.guard = none := by rfl)
    (hq : QV P N w0 true s mo (f.sel kk m) o v := by
      first
      | exact q_move (by first | exact EvU.cond rfl | exact EvU.left rfl | exact EvU.left2 rfl | exact EvU.left3 rfl | exact EvU.plain rfl)
      | exact q_assign (by first | exact EvU.cond rfl | exact EvU.left rfl | exact EvU.left2 rfl | exact EvU.left3 rfl | exact EvU.plain rfl)
      | (apply QVg.load; first
          | exact q_loadS (by first | exact EvU.plain rfl | exact EvU.cond rfl | exact EvU.left rfl | exact EvU.left2 rfl | exact EvU.left3 rfl) (by infer_instance) (by rfl) (by intro hc; first | omega | (simp at hc; omega)) (by repeat (first | exact Nth.zero | apply Nth.succ))
          | exact q_loadS0 (by first | exact EvU.plain rfl | exact EvU.cond rfl | exact EvU.left rfl | exact EvU.left2 rfl | exact EvU.left3 rfl) (by infer_instance) (by rfl) (by intro hc; first | omega | (simp at hc; omega)) (by repeat (first | exact Nth.zero | apply Nth.succ))
          | exact q_loadSN (by first | exact EvU.plain rfl | exact EvU.cond rfl | exact EvU.left rfl | exact EvU.left2 rfl | exact EvU.left3 rfl) (by infer_instance) (by rfl) (by intro hc; first | omega | (simp at hc; omega)) (by rfl)
          | exact q_loadSS (by first | exact EvU.plain rfl | exact EvU.cond rfl | exact EvU.left rfl | exact EvU.left2 rfl | exact EvU.left3 rfl) (by infer_instance) (by rfl) (by intro hc; first | omega | (simp at hc; omega)) (by repeat (first | exact Cut.nil | apply Cut.take | apply Cut.drop))
          | exact q_load (by first | exact EvU.plain rfl | exact EvU.cond rfl | exact EvU.left rfl | exact EvU.left2 rfl | exact EvU.left3 rfl) (by repeat (first | exact mem0 | apply mem1)) (by repeat (first | exact Nth.zero | apply Nth.succ))
          | exact q_loadR (by first | exact EvU.plain rfl | exact EvU.cond rfl | exact EvU.left rfl | exact EvU.left2 rfl | exact EvU.left3 rfl) (by infer_instance) (by intro hc; first | omega | (simp at hc; omega)) (by repeat (first | exact Nth.zero | apply Nth.succ)) (by first | exact not0 | assumption | (simp; omega))
          | exact q_loadR0 (by first | exact EvU.plain rfl | exact EvU.cond rfl | exact EvU.left rfl | exact EvU.left2 rfl | exact EvU.left3 rfl) (by infer_instance) (by intro hc; first | omega | (simp at hc; omega)) (by repeat (first | exact Nth.zero | apply Nth.succ)) (by first | exact not0 | assumption | (simp; omega))
          | exact q_loadRN (by first | exact EvU.plain rfl | exact EvU.cond rfl | exact EvU.left rfl | exact EvU.left2 rfl | exact EvU.left3 rfl) (by infer_instance) (by intro hc; first | omega | (simp at hc; omega)) (by first | exact not0 | assumption | (simp; omega))
          | exact q_loadRS (by first | exact EvU.plain rfl | exact EvU.cond rfl | exact EvU.left rfl | exact EvU.left2 rfl | exact EvU.left3 rfl) (by infer_instance) (by intro hc; first | omega | (simp at hc; omega)) (by repeat (first | exact Cut.nil | apply Cut.take | apply Cut.drop)) (by first | exact not0 | assumption | (simp; omega))
          | exact q_loadN (by first | exact EvU.plain rfl | exact EvU.cond rfl | exact EvU.left rfl | exact EvU.left2 rfl | exact EvU.left3 rfl) (by repeat (first | exact mem0 | apply mem1)) (by repeat (first | exact Cut.nil | apply Cut.take | apply Cut.drop)))
      | exact q_field (by first | exact EvU.plain rfl | exact EvU.cond rfl | exact EvU.left rfl | exact EvU.left2 rfl | exact EvU.left3 rfl) (by first | exact Nat.zero_add _ | exact Nat.add_zero _ | (simp only [Nat.reduceAdd]; rfl) | rfl)
      | exact q_fieldA (by first | exact EvU.plain rfl | exact EvU.cond rfl | exact EvU.left rfl | exact EvU.left2 rfl | exact EvU.left3 rfl)
      | (apply QVg.bin; first
          | (apply QVg.lss; first
              | exact q_lss (by first | exact EvU.plain rfl | exact EvU.cond rfl | exact EvU.left rfl | exact EvU.left2 rfl | exact EvU.left3 rfl) (by first | exact EvU.plain rfl | exact EvU.cond rfl | exact EvU.left rfl | exact EvU.left2 rfl | exact EvU.left3 rfl)
              | exact q_lssS (by first | exact EvU.plain rfl | exact EvU.cond rfl | exact EvU.left rfl | exact EvU.left2 rfl | exact EvU.left3 rfl) (by first | exact EvU.plain rfl | exact EvU.cond rfl | exact EvU.left rfl | exact EvU.left2 rfl | exact EvU.left3 rfl))
          | (apply QVg.leq; first
              | exact q_leq (by first | exact EvU.plain rfl | exact EvU.cond rfl | exact EvU.left rfl | exact EvU.left2 rfl | exact EvU.left3 rfl) (by first | exact EvU.plain rfl | exact EvU.cond rfl | exact EvU.left rfl | exact EvU.left2 rfl | exact EvU.left3 rfl)
              | exact q_leqS (by first | exact EvU.plain rfl | exact EvU.cond rfl | exact EvU.left rfl | exact EvU.left2 rfl | exact EvU.left3 rfl) (by first | exact EvU.plain rfl | exact EvU.cond rfl | exact EvU.left rfl | exact EvU.left2 rfl | exact EvU.left3 rfl))
          | (apply QVg.gtr; first
              | exact q_gtr (by first | exact EvU.plain rfl | exact EvU.cond rfl | exact EvU.left rfl | exact EvU.left2 rfl | exact EvU.left3 rfl) (by first | exact EvU.plain rfl | exact EvU.cond rfl | exact EvU.left rfl | exact EvU.left2 rfl | exact EvU.left3 rfl)
              | exact q_gtrS (by first | exact EvU.plain rfl | exact EvU.cond rfl | exact EvU.left rfl | exact EvU.left2 rfl | exact EvU.left3 rfl) (by first | exact EvU.plain rfl | exact EvU.cond rfl | exact EvU.left rfl | exact EvU.left2 rfl | exact EvU.left3 rfl))
          | (apply QVg.geq; first
              | exact q_geq (by first | exact EvU.plain rfl | exact EvU.cond rfl | exact EvU.left rfl | exact EvU.left2 rfl | exact EvU.left3 rfl) (by first | exact EvU.plain rfl | exact EvU.cond rfl | exact EvU.left rfl | exact EvU.left2 rfl | exact EvU.left3 rfl)
              | exact q_geqS (by first | exact EvU.plain rfl | exact EvU.cond rfl | exact EvU.left rfl | exact EvU.left2 rfl | exact EvU.left3 rfl) (by first | exact EvU.plain rfl | exact EvU.cond rfl | exact EvU.left rfl | exact EvU.left2 rfl | exact EvU.left3 rfl))
          | (apply QVg.eql; first
              | exact q_eqNil (by first | exact EvU.plain rfl | exact EvU.cond rfl | exact EvU.left rfl | exact EvU.left2 rfl | exact EvU.left3 rfl)
              | exact q_eql (by first | exact EvU.plain rfl | exact EvU.cond rfl | exact EvU.left rfl | exact EvU.left2 rfl | exact EvU.left3 rfl) (by first | exact EvU.plain rfl | exact EvU.cond rfl | exact EvU.left rfl | exact EvU.left2 rfl | exact EvU.left3 rfl)
              | exact q_eqlB (by first | exact EvU.plain rfl | exact EvU.cond rfl | exact EvU.left rfl | exact EvU.left2 rfl | exact EvU.left3 rfl) (by first | exact EvU.plain rfl | exact EvU.cond rfl | exact EvU.left rfl | exact EvU.left2 rfl | exact EvU.left3 rfl)
              | exact q_eqlS (by first | exact EvU.plain rfl | exact EvU.cond rfl | exact EvU.left rfl | exact EvU.left2 rfl | exact EvU.left3 rfl) (by first | exact EvU.plain rfl | exact EvU.cond rfl | exact EvU.left rfl | exact EvU.left2 rfl | exact EvU.left3 rfl)
              | exact q_eqlX (by first | exact EvU.plain rfl | exact EvU.cond rfl | exact EvU.left rfl | exact EvU.left2 rfl | exact EvU.left3 rfl) (by first | exact EvU.plain rfl | exact EvU.cond rfl | exact EvU.left rfl | exact EvU.left2 rfl | exact EvU.left3 rfl) (by repeat (first | exact FEq.nil | apply FEq.int (by infer_instance) (by infer_instance) rfl (by repeat (first | exact Nth.zero | apply Nth.succ)) (by repeat (first | exact Nth.zero | apply Nth.succ)) | apply FEq.bool (by infer_instance) (by infer_instance) rfl (by repeat (first | exact Nth.zero | apply Nth.succ)) (by repeat (first | exact Nth.zero | apply Nth.succ)) | apply FEq.str (by infer_instance) (by infer_instance) rfl (by repeat (first | exact Nth.zero | apply Nth.succ)) (by repeat (first | exact Nth.zero | apply Nth.succ)))))
          | (apply QVg.neq; first
              | exact q_neq (by first | exact EvU.plain rfl | exact EvU.cond rfl | exact EvU.left rfl | exact EvU.left2 rfl | exact EvU.left3 rfl) (by first | exact EvU.plain rfl | exact EvU.cond rfl | exact EvU.left rfl | exact EvU.left2 rfl | exact EvU.left3 rfl)
              | exact q_neqB (by first | exact EvU.plain rfl | exact EvU.cond rfl | exact EvU.left rfl | exact EvU.left2 rfl | exact EvU.left3 rfl) (by first | exact EvU.plain rfl | exact EvU.cond rfl | exact EvU.left rfl | exact EvU.left2 rfl | exact EvU.left3 rfl)
              | exact q_neqS (by first | exact EvU.plain rfl | exact EvU.cond rfl | exact EvU.left rfl | exact EvU.left2 rfl | exact EvU.left3 rfl) (by first | exact EvU.plain rfl | exact EvU.cond rfl | exact EvU.left rfl | exact EvU.left2 rfl | exact EvU.left3 rfl)
              | exact q_neqX (by first | exact EvU.plain rfl | exact EvU.cond rfl | exact EvU.left rfl | exact EvU.left2 rfl | exact EvU.left3 rfl) (by first | exact EvU.plain rfl | exact EvU.cond rfl | exact EvU.left rfl | exact EvU.left2 rfl | exact EvU.left3 rfl) (by repeat (first | exact FEq.nil | apply FEq.int (by infer_instance) (by infer_instance) rfl (by repeat (first | exact Nth.zero | apply Nth.succ)) (by repeat (first | exact Nth.zero | apply Nth.succ)) | apply FEq.bool (by infer_instance) (by infer_instance) rfl (by repeat (first | exact Nth.zero | apply Nth.succ)) (by repeat (first | exact Nth.zero | apply Nth.succ)) | apply FEq.str (by infer_instance) (by infer_instance) rfl (by repeat (first | exact Nth.zero | apply Nth.succ)) (by repeat (first | exact Nth.zero | apply Nth.succ)))))
          | (apply QVg.add; first
              | exact q_addN (by first | exact EvU.plain rfl | exact EvU.cond rfl | exact EvU.left rfl | exact EvU.left2 rfl | exact EvU.left3 rfl) (by first | exact EvU.plain rfl | exact EvU.cond rfl | exact EvU.left rfl | exact EvU.left2 rfl | exact EvU.left3 rfl) (by intro hc; first | exact wrap_i64 (by omega) (by omega) | exact wrap_u64 (by omega) (by omega) | exact wrap_u8 (by omega) (by omega) | exact wrap_u32 (by omega) (by omega))
              | exact q_add (by first | exact EvU.plain rfl | exact EvU.cond rfl | exact EvU.left rfl | exact EvU.left2 rfl | exact EvU.left3 rfl) (by first | exact EvU.plain rfl | exact EvU.cond rfl | exact EvU.left rfl | exact EvU.left2 rfl | exact EvU.left3 rfl))
          | (apply QVg.sub; first
              | exact q_subN (by first | exact EvU.plain rfl | exact EvU.cond rfl | exact EvU.left rfl | exact EvU.left2 rfl | exact EvU.left3 rfl) (by first | exact EvU.plain rfl | exact EvU.cond rfl | exact EvU.left rfl | exact EvU.left2 rfl | exact EvU.left3 rfl) (by intro hc; first | exact wrap_i64 (by omega) (by omega) | exact wrap_u64 (by omega) (by omega) | exact wrap_u8 (by omega) (by omega) | exact wrap_u32 (by omega) (by omega))
              | exact q_sub (by first | exact EvU.plain rfl | exact EvU.cond rfl | exact EvU.left rfl | exact EvU.left2 rfl | exact EvU.left3 rfl) (by first | exact EvU.plain rfl | exact EvU.cond rfl | exact EvU.left rfl | exact EvU.left2 rfl | exact EvU.left3 rfl))
          | (apply QVg.mul; first
              | exact q_mulN (by first | exact EvU.plain rfl | exact EvU.cond rfl | exact EvU.left rfl | exact EvU.left2 rfl | exact EvU.left3 rfl) (by first | exact EvU.plain rfl | exact EvU.cond rfl | exact EvU.left rfl | exact EvU.left2 rfl | exact EvU.left3 rfl) (by intro hc; first | exact wrap_i64 (by omega) (by omega) | exact wrap_u64 (by omega) (by omega) | exact wrap_u8 (by omega) (by omega) | exact wrap_u32 (by omega) (by omega) | exact wrap_u16 (by omega) (by omega))
              | exact q_mul (by first | exact EvU.plain rfl | exact EvU.cond rfl | exact EvU.left rfl | exact EvU.left2 rfl | exact EvU.left3 rfl) (by first | exact EvU.plain rfl | exact EvU.cond rfl | exact EvU.left rfl | exact EvU.left2 rfl | exact EvU.left3 rfl))
          | exact q_quo (by first | exact EvU.plain rfl | exact EvU.cond rfl | exact EvU.left rfl | exact EvU.left2 rfl | exact EvU.left3 rfl) (by first | exact EvU.plain rfl | exact EvU.cond rfl | exact EvU.left rfl | exact EvU.left2 rfl | exact EvU.left3 rfl) (by intro hc; first | omega | (simp at hc; omega))
          | exact q_rem (by first | exact EvU.plain rfl | exact EvU.cond rfl | exact EvU.left rfl | exact EvU.left2 rfl | exact EvU.left3 rfl) (by first | exact EvU.plain rfl | exact EvU.cond rfl | exact EvU.left rfl | exact EvU.left2 rfl | exact EvU.left3 rfl) (by intro hc; first | omega | (simp at hc; omega))
          | exact q_shrN (by first | exact EvU.plain rfl | exact EvU.cond rfl | exact EvU.left rfl | exact EvU.left2 rfl | exact EvU.left3 rfl) (by first | exact EvU.plain rfl | exact EvU.cond rfl | exact EvU.left rfl | exact EvU.left2 rfl | exact EvU.left3 rfl) (by infer_instance) (by infer_instance) (by intro hc; first | (simp [IntKind.bits]; done) | (simp only [IntKind.bits]; omega))
          | exact q_shr (by first | exact EvU.plain rfl | exact EvU.cond rfl | exact EvU.left rfl | exact EvU.left2 rfl | exact EvU.left3 rfl) (by first | exact EvU.plain rfl | exact EvU.cond rfl | exact EvU.left rfl | exact EvU.left2 rfl | exact EvU.left3 rfl) (by intro hc; first | omega | (simp at hc; omega))
          | exact q_shl (by first | exact EvU.plain rfl | exact EvU.cond rfl | exact EvU.left rfl | exact EvU.left2 rfl | exact EvU.left3 rfl) (by first | exact EvU.plain rfl | exact EvU.cond rfl | exact EvU.left rfl | exact EvU.left2 rfl | exact EvU.left3 rfl) (by intro hc; first | omega | (simp at hc; omega))
          | exact q_band (by first | exact EvU.plain rfl | exact EvU.cond rfl | exact EvU.left rfl | exact EvU.left2 rfl | exact EvU.left3 rfl) (by first | exact EvU.plain rfl | exact EvU.cond rfl | exact EvU.left rfl | exact EvU.left2 rfl | exact EvU.left3 rfl)
          | exact q_bor (by first | exact EvU.plain rfl | exact EvU.cond rfl | exact EvU.left rfl | exact EvU.left2 rfl | exact EvU.left3 rfl) (by first | exact EvU.plain rfl | exact EvU.cond rfl | exact EvU.left rfl | exact EvU.left2 rfl | exact EvU.left3 rfl))
      | (apply QVg.pick; first
          | exact q_or (by first | exact EvU.plain rfl | exact EvU.cond rfl | exact EvU.left rfl | exact EvU.left2 rfl | exact EvU.left3 rfl) rfl
          | exact q_and (by first | exact EvU.plain rfl | exact EvU.cond rfl | exact EvU.left rfl | exact EvU.left2 rfl | exact EvU.left3 rfl) rfl
          | exact q_or2 (by first | exact EvU.plain rfl | exact EvU.cond rfl | exact EvU.left rfl | exact EvU.left2 rfl | exact EvU.left3 rfl) rfl
          | exact q_and2 (by first | exact EvU.plain rfl | exact EvU.cond rfl | exact EvU.left rfl | exact EvU.left2 rfl | exact EvU.left3 rfl) rfl
          | exact q_pick (by first | exact EvU.plain rfl | exact EvU.cond rfl | exact EvU.left rfl | exact EvU.left2 rfl | exact EvU.left3 rfl) (by first | exact EvU.plain rfl | exact EvU.cond rfl | exact EvU.left rfl | exact EvU.left2 rfl | exact EvU.left3 rfl) (by first | exact EvU.plain rfl | exact EvU.cond rfl | exact EvU.left rfl | exact EvU.left2 rfl | exact EvU.left3 rfl))
      | exact q_index' (by first | exact EvU.plain rfl | exact EvU.cond rfl | exact EvU.left rfl | exact EvU.left2 rfl | exact EvU.left3 rfl) (by first | exact EvU.plain rfl | exact EvU.cond rfl | exact EvU.left rfl | exact EvU.left2 rfl | exact EvU.left3 rfl) (by infer_instance) (by infer_instance) (by intro hc; first | omega | (simp at hc; omega))
      | (apply QVg.builtin; first
          | exact q_len (by first | exact EvU.plain rfl | exact EvU.cond rfl | exact EvU.left rfl | exact EvU.left2 rfl | exact EvU.left3 rfl)
          | exact q_lenS (by first | exact EvU.plain rfl | exact EvU.cond rfl | exact EvU.left rfl | exact EvU.left2 rfl | exact EvU.left3 rfl)
          | exact q_max2 (by first | exact EvU.plain rfl | exact EvU.cond rfl | exact EvU.left rfl | exact EvU.left2 rfl | exact EvU.left3 rfl) (by first | exact EvU.plain rfl | exact EvU.cond rfl | exact EvU.left rfl | exact EvU.left2 rfl | exact EvU.left3 rfl)
          | exact q_min2 (by first | exact EvU.plain rfl | exact EvU.cond rfl | exact EvU.left rfl | exact EvU.left2 rfl | exact EvU.left3 rfl) (by first | exact EvU.plain rfl | exact EvU.cond rfl | exact EvU.left rfl | exact EvU.left2 rfl | exact EvU.left3 rfl)
          | exact q_max4 (by first | exact EvU.plain rfl | exact EvU.cond rfl | exact EvU.left rfl | exact EvU.left2 rfl | exact EvU.left3 rfl) (by first | exact EvU.plain rfl | exact EvU.cond rfl | exact EvU.left rfl | exact EvU.left2 rfl | exact EvU.left3 rfl) (by first | exact EvU.plain rfl | exact EvU.cond rfl | exact EvU.left rfl | exact EvU.left2 rfl | exact EvU.left3 rfl) (by first | exact EvU.plain rfl | exact EvU.cond rfl | exact EvU.left rfl | exact EvU.left2 rfl | exact EvU.left3 rfl))
      | exact q_not (by first | exact EvU.plain rfl | exact EvU.cond rfl | exact EvU.left rfl | exact EvU.left2 rfl | exact EvU.left3 rfl)
      | exact q_extract (by first | exact EvU.plain rfl | exact EvU.cond rfl | exact EvU.left rfl | exact EvU.left2 rfl | exact EvU.left3 rfl) (by repeat (first | exact Nth.zero | apply Nth.succ))
      | exact q_nilCheck (by first | exact EvU.plain rfl | exact EvU.cond rfl | exact EvU.left rfl | exact EvU.left2 rfl | exact EvU.left3 rfl)
      | exact q_build (by repeat (first | exact Evp.nil | apply Evp.cons (by first | exact EvU.cond rfl | exact EvU.left rfl | exact EvU.left2 rfl | exact EvU.left3 rfl | exact EvU.plain rfl))) (by repeat (first | exact Fill.nil | apply Fill.one rfl rfl (by repeat (first | exact SetAt.zero | apply SetAt.succ)) | apply Fill.agg rfl rfl rfl (by repeat (first | exact SetsAt.nil | apply SetsAt.cons (by repeat (first | exact SetAt.zero | apply SetAt.succ))))))
      | exact q_makeFunc (by repeat (first | exact Evs.nil | apply Evs.cons (by first | exact EvU.cond rfl | exact EvU.left rfl | exact EvU.left2 rfl | exact EvU.left3 rfl | exact EvU.plain rfl))) (by repeat (first | exact Evs.nil | apply Evs.cons (by first | exact EvU.cond rfl | exact EvU.left rfl | exact EvU.left2 rfl | exact EvU.left3 rfl | exact EvU.plain rfl)))
      | exact q_indexS (by first | exact EvU.plain rfl | exact EvU.cond rfl | exact EvU.left rfl | exact EvU.left2 rfl | exact EvU.left3 rfl) (by first | exact EvU.plain rfl | exact EvU.cond rfl | exact EvU.left rfl | exact EvU.left2 rfl | exact EvU.left3 rfl) (by infer_instance) (by intro hc; first | omega | (simp at hc; omega))
      | (apply QVg.convert; first
          | exact q_convBS (by first | exact EvU.plain rfl | exact EvU.cond rfl | exact EvU.left rfl | exact EvU.left2 rfl | exact EvU.left3 rfl) (by infer_instance)
          | exact q_convN (by first | exact EvU.plain rfl | exact EvU.cond rfl | exact EvU.left rfl | exact EvU.left2 rfl | exact EvU.left3 rfl) (by intro hc; first | exact wrap_i64 (by omega) (by omega) | exact wrap_u64 (by omega) (by omega) | exact wrap_u8 (by omega) (by omega) | exact wrap_u32 (by omega) (by omega) | exact wrap_u16 (by omega) (by omega))
          | exact q_conv (by first | exact EvU.plain rfl | exact EvU.cond rfl | exact EvU.left rfl | exact EvU.left2 rfl | exact EvU.left3 rfl)
          | exact q_convS (by first | exact EvU.plain rfl | exact EvU.cond rfl | exact EvU.left rfl | exact EvU.left2 rfl | exact EvU.left3 rfl))
      | exact q_sliceL (by first | exact EvU.plain rfl | exact EvU.cond rfl | exact EvU.left rfl | exact EvU.left2 rfl | exact EvU.left3 rfl) (by first | exact EvU.plain rfl | exact EvU.cond rfl | exact EvU.left rfl | exact EvU.left2 rfl | exact EvU.left3 rfl) (by infer_instance) (by intro hc; first | omega | (simp at hc; omega))
      | exact q_sliceH (by first | exact EvU.plain rfl | exact EvU.cond rfl | exact EvU.left rfl | exact EvU.left2 rfl | exact EvU.left3 rfl) (by first | exact EvU.plain rfl | exact EvU.cond rfl | exact EvU.left rfl | exact EvU.left2 rfl | exact EvU.left3 rfl) (by infer_instance) (by intro hc; first | omega | (simp at hc; omega))
      | exact q_sliceHM (by first | exact EvU.plain rfl | exact EvU.cond rfl | exact EvU.left rfl | exact EvU.left2 rfl | exact EvU.left3 rfl) (by first | exact EvU.plain rfl | exact EvU.cond rfl | exact EvU.left rfl | exact EvU.left2 rfl | exact EvU.left3 rfl) (by first | exact EvU.plain rfl | exact EvU.cond rfl | exact EvU.left rfl | exact EvU.left2 rfl | exact EvU.left3 rfl) (by infer_instance) (by infer_instance) (by intro hc; first | omega | (simp at hc; omega))) : J P N w0 ops Q (.op f o l) s mo kk m :=
  J.q ho hd (by rw [hwt]; exact Wt.none) hq K
/-- An operation that reads and is guarded. -/
theorem J.bg (K : J P N w0 ops Q l ((d, bif c then v else undef) :: s) mo kk m) (ho : o.dst = some d := by rfl) (hd : Nat.blt d N = true := by rfl)
    (hwt : Wt N ops s o.guard c := by first | exact Wt.yes rfl rfl | exact Wt.no rfl rfl | exact Wt.yes2 rfl rfl | exact Wt.no2 rfl rfl)
    (hq : QV P N w0 c s mo (f.sel kk m) o v := by
      first
      | exact q_move (by first | exact EvU.cond rfl | exact EvU.left rfl | exact EvU.left2 rfl | exact EvU.left3 rfl | exact EvU.plain rfl)
      | exact q_assign (by first | exact EvU.cond rfl | exact EvU.left rfl | exact EvU.left2 rfl | exact EvU.left3 rfl | exact EvU.plain rfl)
      | (apply QVg.load; first
          | exact q_loadS (by first | exact EvU.plain rfl | exact EvU.cond rfl | exact EvU.left rfl | exact EvU.left2 rfl | exact EvU.left3 rfl) (by infer_instance) (by rfl) (by intro hc; first | omega | (simp at hc; omega)) (by repeat (first | exact Nth.zero | apply Nth.succ))
          | exact q_loadS0 (by first | exact EvU.plain rfl | exact EvU.cond rfl | exact EvU.left rfl | exact EvU.left2 rfl | exact EvU.left3 rfl) (by infer_instance) (by rfl) (by intro hc; first | omega | (simp at hc; omega)) (by repeat (first | exact Nth.zero | apply Nth.succ))
          | exact q_loadSN (by first | exact EvU.plain rfl | exact EvU.cond rfl | exact EvU.left rfl | exact EvU.left2 rfl | exact EvU.left3 rfl) (by infer_instance) (by rfl) (by intro hc; first | omega | (simp at hc; omega)) (by rfl)
          | exact q_loadSS (by first | exact EvU.plain rfl | exact EvU.cond rfl | exact EvU.left rfl | exact EvU.left2 rfl | exact EvU.left3 rfl) (by infer_instance) (by rfl) (by intro hc; first | omega | (simp at hc; omega)) (by repeat (first | exact Cut.nil | apply Cut.take | apply Cut.drop))
          | exact q_load (by first | exact EvU.plain rfl | exact EvU.cond rfl | exact EvU.left rfl | exact EvU.left2 rfl | exact EvU.left3 rfl) (by repeat (first | exact mem0 | apply mem1)) (by repeat (first | exact Nth.zero | apply Nth.succ))
          | exact q_loadR (by first | exact EvU.plain rfl | exact EvU.cond rfl | exact EvU.left rfl | exact EvU.left2 rfl | exact EvU.left3 rfl) (by infer_instance) (by intro hc; first | omega | (simp at hc; omega)) (by repeat (first | exact Nth.zero | apply Nth.succ)) (by first | exact not0 | assumption | (simp; omega))
          | exact q_loadR0 (by first | exact EvU.plain rfl | exact EvU.cond rfl | exact EvU.left rfl | exact EvU.left2 rfl | exact EvU.left3 rfl) (by infer_instance) (by intro hc; first | omega | (simp at hc; omega)) (by repeat (first | exact Nth.zero | apply Nth.succ)) (by first | exact not0 | assumption | (simp; omega))
          | exact q_loadRN (by first | exact EvU.plain rfl | exact EvU.cond rfl | exact EvU.left rfl | exact EvU.left2 rfl | exact EvU.left3 rfl) (by infer_instance) (by intro hc; first | omega | (simp at hc; omega)) (by first | exact not0 | assumption | (simp; omega))
          | exact q_loadRS (by first | exact EvU.plain rfl | exact EvU.cond rfl | exact EvU.left rfl | exact EvU.left2 rfl | exact EvU.left3 rfl) (by infer_instance) (by intro hc; first | omega | (simp at hc; omega)) (by repeat (first | exact Cut.nil | apply Cut.take | apply Cut.drop)) (by first | exact not0 | assumption | (simp; omega))
          | exact q_loadN (by first | exact EvU.plain rfl | exact EvU.cond rfl | exact EvU.left rfl | exact EvU.left2 rfl | exact EvU.left3 rfl) (by repeat (first | exact mem0 | apply mem1)) (by repeat (first | exact Cut.nil | apply Cut.take | apply Cut.drop)))
      | exact q_field (by first | exact EvU.plain rfl | exact EvU.cond rfl | exact EvU.left rfl | exact EvU.left2 rfl | exact EvU.left3 rfl) (by first | exact Nat.zero_add _ | exact Nat.add_zero _ | (simp only [Nat.reduceAdd]; rfl) | rfl)
      | exact q_fieldA (by first | exact EvU.plain rfl | exact EvU.cond rfl | exact EvU.left rfl | exact EvU.left2 rfl | exact EvU.left3 rfl)
      | (apply QVg.bin; first
          | (apply QVg.lss; first
              | exact q_lss (by first | exact EvU.plain rfl | exact EvU.cond rfl | exact EvU.left rfl | exact EvU.left2 rfl | exact EvU.left3 rfl) (by first | exact EvU.plain rfl | exact EvU.cond rfl | exact EvU.left rfl | exact EvU.left2 rfl | exact EvU.left3 rfl)
              | exact q_lssS (by first | exact EvU.plain rfl | exact EvU.cond rfl | exact EvU.left rfl | exact EvU.left2 rfl | exact EvU.left3 rfl) (by first | exact EvU.plain rfl | exact EvU.cond rfl | exact EvU.left rfl | exact EvU.left2 rfl | exact EvU.left3 rfl))
          | (apply QVg.leq; first
              | exact q_leq (by first | exact EvU.plain rfl | exact EvU.cond rfl | exact EvU.left rfl | exact EvU.left2 rfl | exact EvU.left3 rfl) (by first | exact EvU.plain rfl | exact EvU.cond rfl | exact EvU.left rfl | exact EvU.left2 rfl | exact EvU.left3 rfl)
              | exact q_leqS (by first | exact EvU.plain rfl | exact EvU.cond rfl | exact EvU.left rfl | exact EvU.left2 rfl | exact EvU.left3 rfl) (by first | exact EvU.plain rfl | exact EvU.cond rfl | exact EvU.left rfl | exact EvU.left2 rfl | exact EvU.left3 rfl))
          | (apply QVg.gtr; first
              | exact q_gtr (by first | exact EvU.plain rfl | exact EvU.cond rfl | exact EvU.left rfl | exact EvU.left2 rfl | exact EvU.left3 rfl) (by first | exact EvU.plain rfl | exact EvU.cond rfl | exact EvU.left rfl | exact EvU.left2 rfl | exact EvU.left3 rfl)
              | exact q_gtrS (by first | exact EvU.plain rfl | exact EvU.cond rfl | exact EvU.left rfl | exact EvU.left2 rfl | exact EvU.left3 rfl) (by first | exact EvU.plain rfl | exact EvU.cond rfl | exact EvU.left rfl | exact EvU.left2 rfl | exact EvU.left3 rfl))
          | (apply QVg.geq; first
              | exact q_geq (by first | exact EvU.plain rfl | exact EvU.cond rfl | exact EvU.left rfl | exact EvU.left2 rfl | exact EvU.left3 rfl) (by first | exact EvU.plain rfl | exact EvU.cond rfl | exact EvU.left rfl | exact EvU.left2 rfl | exact EvU.left3 rfl)
              | exact q_geqS (by first | exact EvU.plain rfl | exact EvU.cond rfl | exact EvU.left rfl | exact EvU.left2 rfl | exact EvU.left3 rfl) (by first | exact EvU.plain rfl | exact EvU.cond rfl | exact EvU.left rfl | exact EvU.left2 rfl | exact EvU.left3 rfl))
          | (apply QVg.eql; first
              | exact q_eqNil (by first | exact EvU.plain rfl | exact EvU.cond rfl | exact EvU.left rfl | exact EvU.left2 rfl | exact EvU.left3 rfl)
              | exact q_eql (by first | exact EvU.plain rfl | exact EvU.cond rfl | exact EvU.left rfl | exact EvU.left2 rfl | exact EvU.left3 rfl) (by first | exact EvU.plain rfl | exact EvU.cond rfl | exact EvU.left rfl | exact EvU.left2 rfl | exact EvU.left3 rfl)
              | exact q_eqlB (by first | exact EvU.plain rfl | exact EvU.cond rfl | exact EvU.left rfl | exact EvU.left2 rfl | exact EvU.left3 rfl) (by first | exact EvU.plain rfl | exact EvU.cond rfl | exact EvU.left rfl | exact EvU.left2 rfl | exact EvU.left3 rfl)
              | exact q_eqlS (by first | exact EvU.plain rfl | exact EvU.cond rfl | exact EvU.left rfl | exact EvU.left2 rfl | exact EvU.left3 rfl) (by first | exact EvU.plain rfl | exact EvU.cond rfl | exact EvU.left rfl | exact EvU.left2 rfl | exact EvU.left3 rfl)
              | exact q_eqlX (by first | exact EvU.plain rfl | exact EvU.cond rfl | exact EvU.left rfl | exact EvU.left2 rfl | exact EvU.left3 rfl) (by first | exact EvU.plain rfl | exact EvU.cond rfl | exact EvU.left rfl | exact EvU.left2 rfl | exact EvU.left3 rfl) (by repeat (first | exact FEq.nil | apply FEq.int (by infer_instance) (by infer_instance) rfl (by repeat (first | exact Nth.zero | apply Nth.succ)) (by repeat (first | exact Nth.zero | apply Nth.succ)) | apply FEq.bool (by infer_instance) (by infer_instance) rfl (by repeat (first | exact Nth.zero | apply Nth.succ)) (by repeat (first | exact Nth.zero | apply Nth.succ)) | apply FEq.str (by infer_instance) (by infer_instance) rfl (by repeat (first | exact Nth.zero | apply Nth.succ)) (by repeat (first | exact Nth.zero | apply Nth.succ)))))
          | (apply QVg.neq; first
              | exact q_neq (by first | exact EvU.plain rfl | exact EvU.cond rfl | exact EvU.left rfl | exact EvU.left2 rfl | exact EvU.left3 rfl) (by first | exact EvU.plain rfl | exact EvU.cond rfl | exact EvU.left rfl | exact EvU.left2 rfl | exact EvU.left3 rfl)
              | exact q_neqB (by first | exact EvU.plain rfl | exact EvU.cond rfl | exact EvU.left rfl | exact EvU.left2 rfl | exact EvU.left3 rfl) (by first | exact EvU.plain rfl | exact EvU.cond rfl | exact EvU.left rfl | exact EvU.left2 rfl | exact EvU.left3 rfl)
              | exact q_neqS (by first | exact EvU.plain rfl | exact EvU.cond rfl | exact EvU.left rfl | exact EvU.left2 rfl | exact EvU.left3 rfl) (by first | exact EvU.plain rfl | exact EvU.cond rfl | exact EvU.left rfl | exact EvU.left2 rfl | exact EvU.left3 rfl)
              | exact q_neqX (by first | exact EvU.plain rfl | exact EvU.cond rfl | exact EvU.left rfl | exact EvU.left2 rfl | exact EvU.left3 rfl) (by first | exact EvU.plain rfl | exact EvU.cond rfl | exact EvU.left rfl | exact EvU.left2 rfl | exact EvU.left3 rfl) (by repeat (first | exact FEq.nil | apply FEq.int (by infer_instance) (by infer_instance) rfl (by repeat (first | exact Nth.zero | apply Nth.succ)) (by repeat (first | exact Nth.zero | apply Nth.succ)) | apply FEq.bool (by infer_instance) (by infer_instance) rfl (by repeat (first | exact Nth.zero | apply Nth.succ)) (by repeat (first | exact Nth.zero | apply Nth.succ)) | apply FEq.str (by infer_instance) (by infer_instance) rfl (by repeat (first | exact Nth.zero | apply Nth.succ)) (by repeat (first | exact Nth.zero | apply Nth.succ)))))
          | (apply QVg.add; first
              | exact q_addN (by first | exact EvU.plain rfl | exact EvU.cond rfl | exact EvU.left rfl | exact EvU.left2 rfl | exact EvU.left3 rfl) (by first | exact EvU.plain rfl | exact EvU.cond rfl | exact EvU.left rfl | exact EvU.left2 rfl | exact EvU.left3 rfl) (by intro hc; first | exact wrap_i64 (by omega) (by omega) | exact wrap_u64 (by omega) (by omega) | exact wrap_u8 (by omega) (by omega) | exact wrap_u32 (by omega) (by omega))
              | exact q_add (by first | exact EvU.plain rfl | exact EvU.cond rfl | exact EvU.left rfl | exact EvU.left2 rfl | exact EvU.left3 rfl) (by first | exact EvU.plain rfl | exact EvU.cond rfl | exact EvU.left rfl | exact EvU.left2 rfl | exact EvU.left3 rfl))
          | (apply QVg.sub; first
              | exact q_subN (by first | exact EvU.plain rfl | exact EvU.cond rfl | exact EvU.left rfl | exact EvU.left2 rfl | exact EvU.left3 rfl) (by first | exact EvU.plain rfl | exact EvU.cond rfl | exact EvU.left rfl | exact EvU.left2 rfl | exact EvU.left3 rfl) (by intro hc; first | exact wrap_i64 (by omega) (by omega) | exact wrap_u64 (by omega) (by omega) | exact wrap_u8 (by omega) (by omega) | exact wrap_u32 (by omega) (by omega))
              | exact q_sub (by first | exact EvU.plain rfl | exact EvU.cond rfl | exact EvU.left rfl | exact EvU.left2 rfl | exact EvU.left3 rfl) (by first | exact EvU.plain rfl | exact EvU.cond rfl | exact EvU.left rfl | exact EvU.left2 rfl | exact EvU.left3 rfl))
          | (apply QVg.mul; first
              | exact q_mulN (by first | exact EvU.plain rfl | exact EvU.cond rfl | exact EvU.left rfl | exact EvU.left2 rfl | exact EvU.left3 rfl) (by first | exact EvU.plain rfl | exact EvU.cond rfl | exact EvU.left rfl | exact EvU.left2 rfl | exact EvU.left3 rfl) (by intro hc; first | exact wrap_i64 (by omega) (by omega) | exact wrap_u64 (by omega) (by omega) | exact wrap_u8 (by omega) (by omega) | exact wrap_u32 (by omega) (by omega) | exact wrap_u16 (by omega) (by omega))
              | exact q_mul (by first | exact EvU.plain rfl | exact EvU.cond rfl | exact EvU.left rfl | exact EvU.left2 rfl | exact EvU.left3 rfl) (by first | exact EvU.plain rfl | exact EvU.cond rfl | exact EvU.left rfl | exact EvU.left2 rfl | exact EvU.left3 rfl))
          | exact q_quo (by first | exact EvU.plain rfl | exact EvU.cond rfl | exact EvU.left rfl | exact EvU.left2 rfl | exact EvU.left3 rfl) (by first | exact EvU.plain rfl | exact EvU.cond rfl | exact EvU.left rfl | exact EvU.left2 rfl | exact EvU.left3 rfl) (by intro hc; first | omega | (simp at hc; omega))
          | exact q_rem (by first | exact EvU.plain rfl | exact EvU.cond rfl | exact EvU.left rfl | exact EvU.left2 rfl | exact EvU.left3 rfl) (by first | exact EvU.plain rfl | exact EvU.cond rfl | exact EvU.left rfl | exact EvU.left2 rfl | exact EvU.left3 rfl) (by intro hc; first | omega | (simp at hc; omega))
          | exact q_shrN (by first | exact EvU.plain rfl | exact EvU.cond rfl | exact EvU.left rfl | exact EvU.left2 rfl | exact EvU.left3 rfl) (by first | exact EvU.plain rfl | exact EvU.cond rfl | exact EvU.left rfl | exact EvU.left2 rfl | exact EvU.left3 rfl) (by infer_instance) (by infer_instance) (by intro hc; first | (simp [IntKind.bits]; done) | (simp only [IntKind.bits]; omega))
          | exact q_shr (by first | exact EvU.plain rfl | exact EvU.cond rfl | exact EvU.left rfl | exact EvU.left2 rfl | exact EvU.left3 rfl) (by first | exact EvU.plain rfl | exact EvU.cond rfl | exact EvU.left rfl | exact EvU.left2 rfl | exact EvU.left3 rfl) (by intro hc; first | omega | (simp at hc; omega))
          | exact q_shl (by first | exact EvU.plain rfl | exact EvU.cond rfl | exact EvU.left rfl | exact EvU.left2 rfl | exact EvU.left3 rfl) (by first | exact EvU.plain rfl | exact EvU.cond rfl | exact EvU.left rfl | exact EvU.left2 rfl | exact EvU.left3 rfl) (by intro hc; first | omega | (simp at hc; omega))
          | exact q_band (by first | exact EvU.plain rfl | exact EvU.cond rfl | exact EvU.left rfl | exact EvU.left2 rfl | exact EvU.left3 rfl) (by first | exact EvU.plain rfl | exact EvU.cond rfl | exact EvU.left rfl | exact EvU.left2 rfl | exact EvU.left3 rfl)
          | exact q_bor (by first | exact EvU.plain rfl | exact EvU.cond rfl | exact EvU.left rfl | exact EvU.left2 rfl | exact EvU.left3 rfl) (by first | exact EvU.plain rfl | exact EvU.cond rfl | exact EvU.left rfl | exact EvU.left2 rfl | exact EvU.left3 rfl))
      | (apply QVg.pick; first
          | exact q_or (by first | exact EvU.plain rfl | exact EvU.cond rfl | exact EvU.left rfl | exact EvU.left2 rfl | exact EvU.left3 rfl) rfl
          | exact q_and (by first | exact EvU.plain rfl | exact EvU.cond rfl | exact EvU.left rfl | exact EvU.left2 rfl | exact EvU.left3 rfl) rfl
          | exact q_or2 (by first | exact EvU.plain rfl | exact EvU.cond rfl | exact EvU.left rfl | exact EvU.left2 rfl | exact EvU.left3 rfl) rfl
          | exact q_and2 (by first | exact EvU.plain rfl | exact EvU.cond rfl | exact EvU.left rfl | exact EvU.left2 rfl | exact EvU.left3 rfl) rfl
          | exact q_pick (by first | exact EvU.plain rfl | exact EvU.cond rfl | exact EvU.left rfl | exact EvU.left2 rfl | exact EvU.left3 rfl) (by first | exact EvU.plain rfl | exact EvU.cond rfl | exact EvU.left rfl | exact EvU.left2 rfl | exact EvU.left3 rfl) (by first | exact EvU.plain rfl | exact EvU.cond rfl | exact EvU.left rfl | exact EvU.left2 rfl | exact EvU.left3 rfl))
      | exact q_index' (by first | exact EvU.plain rfl | exact EvU.cond rfl | exact EvU.left rfl | exact EvU.left2 rfl | exact EvU.left3 rfl) (by first | exact EvU.plain rfl | exact EvU.cond rfl | exact EvU.left rfl | exact EvU.left2 rfl | exact EvU.left3 rfl) (by infer_instance) (by infer_instance) (by intro hc; first | omega | (simp at hc; omega))
      | (apply QVg.builtin; first
          | exact q_len (by first | exact EvU.plain rfl | exact EvU.cond rfl | exact EvU.left rfl | exact EvU.left2 rfl | exact EvU.left3 rfl)
          | exact q_lenS (by first | exact EvU.plain rfl | exact EvU.cond rfl | exact EvU.left rfl | exact EvU.left2 rfl | exact EvU.left3 rfl)
          | exact q_max2 (by first | exact EvU.plain rfl | exact EvU.cond rfl | exact EvU.left rfl | exact EvU.left2 rfl | exact EvU.left3 rfl) (by first | exact EvU.plain rfl | exact EvU.cond rfl | exact EvU.left rfl | exact EvU.left2 rfl | exact EvU.left3 rfl)
          | exact q_min2 (by first | exact EvU.plain rfl | exact EvU.cond rfl | exact EvU.left rfl | exact EvU.left2 rfl | exact EvU.left3 rfl) (by first | exact EvU.plain rfl | exact EvU.cond rfl | exact EvU.left rfl | exact EvU.left2 rfl | exact EvU.left3 rfl)
          | exact q_max4 (by first | exact EvU.plain rfl | exact EvU.cond rfl | exact EvU.left rfl | exact EvU.left2 rfl | exact EvU.left3 rfl) (by first | exact EvU.plain rfl | exact EvU.cond rfl | exact EvU.left rfl | exact EvU.left2 rfl | exact EvU.left3 rfl) (by first | exact EvU.plain rfl | exact EvU.cond rfl | exact EvU.left rfl | exact EvU.left2 rfl | exact EvU.left3 rfl) (by first | exact EvU.plain rfl | exact EvU.cond rfl | exact EvU.left rfl | exact EvU.left2 rfl | exact EvU.left3 rfl))
      | exact q_not (by first | exact EvU.plain rfl | exact EvU.cond rfl | exact EvU.left rfl | exact EvU.left2 rfl | exact EvU.left3 rfl)
      | exact q_extract (by first | exact EvU.plain rfl | exact EvU.cond rfl | exact EvU.left rfl | exact EvU.left2 rfl | exact EvU.left3 rfl) (by repeat (first | exact Nth.zero | apply Nth.succ))
      | exact q_nilCheck (by first | exact EvU.plain rfl | exact EvU.cond rfl | exact EvU.left rfl | exact EvU.left2 rfl | exact EvU.left3 rfl)
      | exact q_build (by repeat (first | exact Evp.nil | apply Evp.cons (by first | exact EvU.cond rfl | exact EvU.left rfl | exact EvU.left2 rfl | exact EvU.left3 rfl | exact EvU.plain rfl))) (by repeat (first | exact Fill.nil | apply Fill.one rfl rfl (by repeat (first | exact SetAt.zero | apply SetAt.succ)) | apply Fill.agg rfl rfl rfl (by repeat (first | exact SetsAt.nil | apply SetsAt.cons (by repeat (first | exact SetAt.zero | apply SetAt.succ))))))
      | exact q_makeFunc (by repeat (first | exact Evs.nil | apply Evs.cons (by first | exact EvU.cond rfl | exact EvU.left rfl | exact EvU.left2 rfl | exact EvU.left3 rfl | exact EvU.plain rfl))) (by repeat (first | exact Evs.nil | apply Evs.cons (by first | exact EvU.cond rfl | exact EvU.left rfl | exact EvU.left2 rfl | exact EvU.left3 rfl | exact EvU.plain rfl)))
      | exact q_indexS (by first | exact EvU.plain rfl | exact EvU.cond rfl | exact EvU.left rfl | exact EvU.left2 rfl | exact EvU.left3 rfl) (by first | exact EvU.plain rfl | exact EvU.cond rfl | exact EvU.left rfl | exact EvU.left2 rfl | exact EvU.left3 rfl) (by infer_instance) (by intro hc; first | omega | (simp at hc; omega))
      | (apply QVg.convert; first
          | exact q_convBS (by first | exact EvU.plain rfl | exact EvU.cond rfl | exact EvU.left rfl | exact EvU.left2 rfl | exact EvU.left3 rfl) (by infer_instance)
          | exact q_convN (by first | exact EvU.plain rfl | exact EvU.cond rfl | exact EvU.left rfl | exact EvU.left2 rfl | exact EvU.left3 rfl) (by intro hc; first | exact wrap_i64 (by omega) (by omega) | exact wrap_u64 (by omega) (by omega) | exact wrap_u8 (by omega) (by omega) | exact wrap_u32 (by omega) (by omega) | exact wrap_u16 (by omega) (by omega))
          | exact q_conv (by first | exact EvU.plain rfl | exact EvU.cond rfl | exact EvU.left rfl | exact EvU.left2 rfl | exact EvU.left3 rfl)
          | exact q_convS (by first | exact EvU.plain rfl | exact EvU.cond rfl | exact EvU.left rfl | exact EvU.left2 rfl | exact EvU.left3 rfl))
      | exact q_sliceL (by first | exact EvU.plain rfl | exact EvU.cond rfl | exact EvU.left rfl | exact EvU.left2 rfl | exact EvU.left3 rfl) (by first | exact EvU.plain rfl | exact EvU.cond rfl | exact EvU.left rfl | exact EvU.left2 rfl | exact EvU.left3 rfl) (by infer_instance) (by intro hc; first | omega | (simp at hc; omega))
      | exact q_sliceH (by first | exact EvU.plain rfl | exact EvU.cond rfl | exact EvU.left rfl | exact EvU.left2 rfl | exact EvU.left3 rfl) (by first | exact EvU.plain rfl | exact EvU.cond rfl | exact EvU.left rfl | exact EvU.left2 rfl | exact EvU.left3 rfl) (by infer_instance) (by intro hc; first | omega | (simp at hc; omega))
      | exact q_sliceHM (by first | exact EvU.plain rfl | exact EvU.cond rfl | exact EvU.left rfl | exact EvU.left2 rfl | exact EvU.left3 rfl) (by first | exact EvU.plain rfl | exact EvU.cond rfl | exact EvU.left rfl | exact EvU.left2 rfl | exact EvU.left3 rfl) (by first | exact EvU.plain rfl | exact EvU.cond rfl | exact EvU.left rfl | exact EvU.left2 rfl | exact EvU.left3 rfl) (by infer_instance) (by infer_instance) (by intro hc; first | omega | (simp at hc; omega))) : J P N w0 ops Q (.op f o l) s mo kk m :=
  J.qg ho hd hwt hq K
theorem q_callc {F : FuncId} [hF : FnC P F] {args : List Operand} {at_ : Array TypeId} {first cap vs full : List Value} {d : Option Tmp} (hx : EvU N c s x (.func (.func F) first.toArray cap.toArray)) (ha : Evs N c s args vs) (hfull : first ++ vs ++ cap = full)
    (hcall : c = true → ∀ w, Mem w0 mo m w → Calls P F full.toArray w (fun e w' => e = .returned v ∧ Below w.heap.size w w')) : QV P N w0 c s mo m ⟨d, .call ⟨.value x, args.toArray, at_⟩, ty, ps, af, g⟩ v := by
  cases c with
  | false => unfold QV; intro hc; cases hc
  | true => exact q_call hx ha hfull (hcall rfl)
/-- A guarded call, its guard being told. -/
theorem J.callgc {F : FuncId} [hF : FnC P F] {args : List Operand} {at_ : Array TypeId} {first cap vs full : List Value} (hcall : c = true → ∀ w, Mem w0 mo (f.sel kk m) w → Calls P F full.toArray w (fun e w' => e = .returned v ∧ Below w.heap.size w w'))
    (K : J P N w0 ops Q l ((d, bif c then v else undef) :: s) mo kk m) (hd : Nat.blt d N = true := by rfl) (hwt : Wt N ops s g c := by first | exact Wt.yes rfl rfl | exact Wt.no rfl rfl | exact Wt.yes2 rfl rfl | exact Wt.no2 rfl rfl)
    (hx : EvU N c s x (.func (.func F) first.toArray cap.toArray) := by first | exact EvU.plain rfl | exact EvU.cond rfl | exact EvU.left rfl | exact EvU.left2 rfl | exact EvU.left3 rfl) (ha : Evs N c s args vs := by repeat (first | exact Evs.nil | apply Evs.cons (by first | exact EvU.cond rfl | exact EvU.left rfl | exact EvU.left2 rfl | exact EvU.left3 rfl | exact EvU.plain rfl))) (hfull : first ++ vs ++ cap = full := by rfl) :
    J P N w0 ops Q (.op f ⟨some d, .call ⟨.value x, args.toArray, at_⟩, ty, ps, af, g⟩ l) s mo kk m :=
  J.qg rfl hd hwt (q_callc hx ha hfull hcall) K
theorem G.condTh {Q : Exit → Act → World → Prop} {z : Operand} {b : Bool} {cx cy : Code} (h : G P N w0 Q cx s mo m) (hz : ev s z = some (.bool b) := by rfl) (hb : b = true := by first | assumption | exact decide_eq_true (by omega)) : G P N w0 Q (.cond z cx cy) s mo m := G.cond hz (fun _ => h) (fun h2 => by rw [hb] at h2; cases h2)
theorem G.condFh {Q : Exit → Act → World → Prop} {z : Operand} {b : Bool} {cx cy : Code} (h : G P N w0 Q cy s mo m) (hz : ev s z = some (.bool b) := by rfl) (hb : b = false := by first | assumption | exact decide_eq_false (by omega)) : G P N w0 Q (.cond z cx cy) s mo m := G.cond hz (fun h2 => by rw [hb] at h2; cases h2) (fun _ => h)
variable [GoT α]
/-- append(S, T..) -/
theorem J.apX {S T : Sl α} {e bytes : Nat} {F : Sl α → List Res} {zc : List Value} [hl : TyAp P t e (GoT.sz α) bytes zc]
    (K : ∀ S' : Sl α, S'.l = S.l ++ T.l → (S'.A = none ↔ S.A = none ∧ T.l = []) → J P N w0 ops Q l ((d, S'.v) :: s) mo kk (F S'))
    (hd : Nat.blt d N = true := by rfl) (hx : EvU N true s x S.v := by exact EvU.plain rfl) (hy : EvU N true s y T.v := by exact EvU.plain rfl) (hT : Kn w0 mo m T := by infer_instance)
    (hroom : (S.l.length + T.l.length) * bytes ≤ 140737488355328 ∧ S.l.length + T.l.length ≤ maxLen := by first | assumption | (simp only [maxLen]; omega) | (simp [maxLen, *]; omega))
    (hm : ∀ S', Upd (Res.own e S) (Res.own e S') m (F S') := by intro S'; repeat (first | exact Upd.here | apply Upd.there)) (hk : ∀ S', kk.Sublist (F S') := by intro S'; repeat (first | exact List.Sublist.refl _ | exact List.nil_sublist _ | apply List.Sublist.cons_cons | apply List.Sublist.cons)) :
    J P N w0 ops Q (.op .a ⟨some d, .call ⟨.builtin .append, #[x, y], #[t, t]⟩, ty, ps, af, none⟩ l) s mo kk m :=
  J.appendX (hl := hl) hd Wt.none hx hy hT hroom hm hk K
/-- append(S, q): q in a literal. -/
theorem J.ap1 {S : Sl α} {G e e2 bytes : Nat} (q : α) {cs : List Value} {F : Sl α → List Res} {zc : List Value} [hl : TyAp P t e (GoT.sz α) bytes zc]
    (K : ∀ S' : Sl α, S'.l = S.l ++ [q] → (S'.A = none ↔ S.A = none ∧ [q] = []) → J P N w0 ops Q l ((d, S'.v) :: s) mo kk (F S'))
    (hd : Nat.blt d N = true := by rfl) (hx : EvU N true s x S.v := by exact EvU.plain rfl) (hy : EvU N true s y (.slice (some ⟨G, 0, none⟩) 1 1) := by exact EvU.plain rfl)
    (hlit : .blk G (.cells cs.toArray e2 (0, 0)) ∈ m := by repeat (first | exact mem0 | apply mem1)) (hq : cs = GoT.enc q := by first | rfl | assumption | (simp; done))
    (hroom : (S.l.length + 1) * bytes ≤ 140737488355328 ∧ S.l.length + 1 ≤ maxLen := by first | assumption | (simp only [maxLen]; omega) | (simp [maxLen, *]; omega))
    (hm : ∀ S', Upd (Res.own e S) (Res.own e S') m (F S') := by intro S'; repeat (first | exact Upd.here | apply Upd.there)) (hk : ∀ S', kk.Sublist (F S') := by intro S'; repeat (first | exact List.Sublist.refl _ | exact List.nil_sublist _ | apply List.Sublist.cons_cons | apply List.Sublist.cons)) :
    J P N w0 ops Q (.op .a ⟨some d, .call ⟨.builtin .append, #[x, y], #[t, t]⟩, ty, ps, af, none⟩ l) s mo kk m :=
  J.append1 (hl := hl) hd Wt.none hx hy hlit hq hroom hm hk K
/-- append(S, text..) -/
theorem J.apS {S : Sl UInt8} {p : ByteArray} {e : Nat} {F : Sl UInt8 → List Res} {t2 : TypeId} {zc : List Value} [hl : TyAp P t e 1 1 zc] [hv : TyV P e (.int .u8 0)] [hu : TyU P t2 .string]
    (K : ∀ S' : Sl UInt8, S'.l = S.l ++ p.data.toList → (S'.A = none ↔ S.A = none ∧ p.data.toList = []) → J P N w0 ops Q l ((d, S'.v) :: s) mo kk (F S'))
    (hd : Nat.blt d N = true := by rfl) (hx : EvU N true s x S.v := by exact EvU.plain rfl) (hy : EvU N true s y (.string p) := by exact EvU.plain rfl)
    (hroom : S.l.length + p.size ≤ 140737488355328 := by first | assumption | omega | (simp [*]; omega))
    (hm : ∀ S', Upd (Res.own e S) (Res.own e S') m (F S') := by intro S'; repeat (first | exact Upd.here | apply Upd.there)) (hk : ∀ S', kk.Sublist (F S') := by intro S'; repeat (first | exact List.Sublist.refl _ | exact List.nil_sublist _ | apply List.Sublist.cons_cons | apply List.Sublist.cons)) :
    J P N w0 ops Q (.op .a ⟨some d, .call ⟨.builtin .append, #[x, y], #[t, t2]⟩, ty, ps, af, none⟩ l) s mo kk m :=
  J.appendS (hl := hl) (hv := hv) (hu := hu) hd Wt.none hx hy hroom hm hk K
/-- A literal, as data. -/
theorem J.lO {n bytes e : Nat} {zc zl cs : List Value} {r : List (Nat × Operand)} {vs : List (Nat × Value)} [hl : TyAp P t e (GoT.sz α) bytes zc] (ls : List α)
    (K : ∀ S : Sl α, S.l = ls → S.A ≠ none → J P N w0 ops Q l ((d, S.v) :: s) mo (f.grow [Res.own e S] kk) (Res.own e S :: m))
    (hf : f ≠ .q := by exact nofun) (hd : Nat.blt d N = true := by rfl) (hx : Evp N true s r vs := by repeat (first | exact Evp.nil | apply Evp.cons (by first | exact EvU.cond rfl | exact EvU.left rfl | exact EvU.left2 rfl | exact EvU.left3 rfl | exact EvU.plain rfl))) (hr : Reps zc n zl := by exact Reps.rep _ _) (hfill : Fill (fun i => some (i * GoT.sz α, GoT.sz α)) zl vs cs := by repeat (first | exact Fill.nil | apply Fill.one rfl rfl (by repeat (first | exact SetAt.zero | apply SetAt.succ)) | apply Fill.agg rfl rfl rfl (by repeat (first | exact SetsAt.nil | apply SetsAt.cons (by repeat (first | exact SetAt.zero | apply SetAt.succ)))))) (hsz : Nat.ble (n * GoT.sz α) (2 ^ 24) = true := by rfl)
    (hc : cs = ls.flatMap GoT.enc := by first | rfl | (simp [byteOf_enc]; done)) (hn : n = ls.length := by rfl) : J P N w0 ops Q (.op f ⟨some d, .buildSlice t n r.toArray, ty, ps, af, none⟩ l) s mo kk m :=
  J.litO (hl := hl) ls hf hd Wt.none hx hr hfill hsz hc hn K
/-- make([]T, n) -/
theorem J.mkN {e bytes : Nat} {n : Nat} {zc : List Value} {ka kb : IntKind} {a' : Int} [hl : TyAp P t e (GoT.sz α) bytes zc]
    (K : ∀ S : Sl α, S.l = List.replicate n default → S.A ≠ none → J P N w0 ops Q l ((d, S.v) :: s) mo (f.grow [Res.own e S] kk) (Res.own e S :: m))
    (hz : zc = GoT.enc (default : α) := by rfl) (hf : f ≠ .q := by exact nofun) (hd : Nat.blt d N = true := by rfl) (hx : EvU N true s x (.int ka a') := by exact EvU.plain rfl) (hy : EvU N true s y (.int kb a') := by exact EvU.plain rfl) (hi : NatI a' n := by infer_instance)
    (hn : n * GoT.sz α ≤ 16777216 ∧ bytes * n ≤ 281474976710656 ∧ n ≤ maxLen := by first | assumption | decide | (simp only [maxLen, GoT.sz]; omega) | (simp [maxLen, GoT.sz]; omega)) : J P N w0 ops Q (.op f ⟨some d, .makeSlice t x y, ty, ps, af, none⟩ l) s mo kk m :=
  J.makeN (hl := hl) hz hf hd Wt.none (by rw [← hi.eq]; exact hx) (by rw [← hi.eq]; exact hy) hn K
/-- S[j] = q -/
theorem J.stO {S : Sl α} {e j sz : Nat} (q : α) {F : Sl α → List Res} [hs : TyS P t 1 false]
    (K : ∀ S' : Sl α, S'.v = S.v → S'.l = S.l.set j q → S'.B = S.B → S'.A = S.A → J P N w0 ops Q l s mo kk (F S'))
    (hsz : sz = GoT.sz α := by rfl) (h1 : GoT.sz α = 1 := by rfl) (hx : EvU N true s x (.pointer (some (S.B.add (j * sz)))) := by exact EvU.plain rfl) (hy : EvU N true s y v := by exact EvU.plain rfl) (hv : GoT.enc q = [v] := by first | rfl | assumption | exact byteOf_enc _) (hj : j < S.l.length := by first | assumption | omega | (simp [*]; omega))
    (hm : ∀ S', Upd (Res.own e S) (Res.own e S') m (F S') := by intro S'; repeat (first | exact Upd.here | apply Upd.there)) (hk : ∀ S', kk.Sublist (F S') := by intro S'; repeat (first | exact List.Sublist.refl _ | exact List.nil_sublist _ | apply List.Sublist.cons_cons | apply List.Sublist.cons)) :
    J P N w0 ops Q (.op .a ⟨none, .store t x y, ty, ps, af, none⟩ l) s mo kk m :=
  J.stoOwn (hs := hs) hsz h1 Wt.none hx hy hv hj hm hk K
omit [GoT α] in
/-- A call that turns m1 into m1'. -/
theorem J.cW {ι : Type} {F : FuncId} [hF : FnC P F] {args : List Operand} {first cap vs full : List Value} {r : ι → Value} {m1 m2 : List Res} {m1' m' : ι → List Res}
    (hcall : ∀ w, Mem w0 mo m w → Mem w (blocksOf m1) m1 w → Calls P F full.toArray w (fun e w' => ∃ i, e = .returned (r i) ∧ Mem w (blocksOf m1) (m1' i) w'))
    (K : ∀ i, J P N w0 ops Q l ((d, r i) :: s) mo kk (m' i))
    (ht : TakeC m1 m m2 := by infer_instance) (hd : Nat.blt d N = true := by rfl) (hx : EvU N true s x (.func (.func F) first.toArray cap.toArray) := by exact EvU.plain rfl) (ha : Evs N true s args vs := by repeat (first | exact Evs.nil | apply Evs.cons (by first | exact EvU.cond rfl | exact EvU.left rfl | exact EvU.left2 rfl | exact EvU.left3 rfl | exact EvU.plain rfl))) (hfull : first ++ vs ++ cap = full := by rfl) (happ : ∀ i, App (m1' i) m2 (m' i) := by intro i; repeat (first | exact App.nil | apply App.cons)) (hk : ∀ i, kk.Sublist (m' i) := by intro i; repeat (first | exact List.Sublist.refl _ | exact List.nil_sublist _ | apply List.Sublist.cons_cons | apply List.Sublist.cons)) :
    J P N w0 ops Q (.op .a ⟨some d, .call ⟨.value x, args.toArray, at_⟩, ty, ps, af, none⟩ l) s mo kk m :=
  J.callW hcall (fun i => by rw [(happ i).eq]; exact K i) ht.take hd Wt.none hx ha hfull (fun i => by rw [(happ i).eq]; exact hk i)
/-- A call that hands back new data. -/
theorem J.cH {β : Type} [Dp β] {F : FuncId} [hF : FnC P F] {args : List Operand} {first cap vs full : List Value} {r : β → Value} {p : β → Prop}
    (hcall : ∀ w, Mem w0 mo m w → Gives P F full w p r) (K : ∀ x bs, p x → J P N w0 ops Q l ((d, r x) :: s) mo (f.grow [.held bs (Dp.deep x)] kk) (.held bs (Dp.deep x) :: m))
    (hf : f ≠ .q := by exact nofun) (hd : Nat.blt d N = true := by rfl) (hx : EvU N true s x (.func (.func F) first.toArray cap.toArray) := by exact EvU.plain rfl) (ha : Evs N true s args vs := by repeat (first | exact Evs.nil | apply Evs.cons (by first | exact EvU.cond rfl | exact EvU.left rfl | exact EvU.left2 rfl | exact EvU.left3 rfl | exact EvU.plain rfl))) (hfull : first ++ vs ++ cap = full := by rfl) :
    J P N w0 ops Q (.op f ⟨some d, .call ⟨.value x, args.toArray, at_⟩, ty, ps, af, none⟩ l) s mo kk m :=
  J.callNew (ι := { q : β × List Nat // p q.1 }) (r := fun q => r q.1.1) (n := fun q => [.held q.1.2 (Dp.deep q.1.1)]) hf hd Wt.none hx ha hfull (fun w hw => (hcall w hw).mono fun e w' ⟨x, bs, h1, h2, h3⟩ => ⟨⟨(x, bs), h1⟩, h2, h3⟩) (fun q _ => K q.1.1 q.1.2 q.2)
omit [GoT α] in
theorem Wt.yesT {j t : Nat} {b : Bool} (hj : (ops[j]?).bind (·.dst) = some t) (h : look s t = some (.bool b)) (hb : b = true) : Wt N ops s (some (j, true)) true := by subst hb; exact Wt.yes hj h
omit [GoT α] in
theorem Wt.noT {j t : Nat} {b : Bool} (hj : (ops[j]?).bind (·.dst) = some t) (h : look s t = some (.bool b)) (hb : b = false) : Wt N ops s (some (j, false)) true := by subst hb; exact Wt.no hj h
omit [GoT α] in
/-- A call whose answer is one of many; memory is as it was, but for new blocks. -/
theorem J.cE {ι : Type} {F : FuncId} [hF : FnC P F] {args : List Operand} {first cap vs full : List Value} {r : ι → Value} {p : ι → Prop}
    (hcall : ∀ w, Mem w0 mo m w → Calls P F full.toArray w (fun e w' => ∃ i, p i ∧ e = .returned (r i) ∧ Below w.heap.size w w')) (K : ∀ i, p i → J P N w0 ops Q l ((d, r i) :: s) mo kk m)
    (hd : Nat.blt d N = true := by rfl) (hwt : Wt N ops s g true := by first | exact Wt.none | exact Wt.yesT rfl rfl (by first | rfl | assumption | simp [*]) | exact Wt.noT rfl rfl (by first | rfl | assumption | simp [*])) (hx : EvU N true s x (.func (.func F) first.toArray cap.toArray) := by exact EvU.plain rfl) (ha : Evs N true s args vs := by repeat (first | exact Evs.nil | apply Evs.cons (by first | exact EvU.cond rfl | exact EvU.left rfl | exact EvU.left2 rfl | exact EvU.left3 rfl | exact EvU.plain rfl))) (hfull : first ++ vs ++ cap = full := by rfl) :
    J P N w0 ops Q (.op .a ⟨some d, .call ⟨.value x, args.toArray, at_⟩, ty, ps, af, g⟩ l) s mo kk m :=
  J.callNew (ι := { i : ι // p i }) (r := fun i => r i.1) (n := fun _ => []) nofun hd hwt hx ha hfull (fun w hw => (hcall w hw).mono fun e w' ⟨i, h0, h1, h2⟩ => ⟨⟨i, h0⟩, h1, (Mem.start w).below h2⟩) (fun i _ => K i.1 i.2)
end
end Go.Proofs.Ytdhhjhkonmacdaa
