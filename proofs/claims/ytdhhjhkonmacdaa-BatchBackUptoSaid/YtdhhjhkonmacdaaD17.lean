/- batch: lives. -/
import Derived.Test.YtdhhjhkonmacdaaE3
namespace Go.Proofs.Ytdhhjhkonmacdaa
open Go.RowKit
set_option linter.unusedSimpArgs false
set_option maxHeartbeats 4000000
set_option linter.unusedVariables false
attribute [local irreducible] QV EvU Wt J G Fin
section
variable {P : Program} {N : Nat} {w0 : World} {ops : Array Oper} {Q : Act → World → Prop} {l : Pl Oper} {s : Slots} {mo : List Nat} {m m2 : List Res} {d : Nat} {ty t : TypeId} {ps : String} {af : Array Edge} {g : Option (Nat × Bool)} {α β : Type} [GoT α]
theorem J.lF [Flat α] {n bytes e : Nat} {zc zl cs : List Value} {r : List (Nat × Operand)} {vs : List (Nat × Value)} [hl : TyAp P t e (GoT.sz α) bytes zc] (ls : List α)
    (K : ∀ (S : Sl α) bs, S.l = ls → J P N w0 ops Q l ((d, S.v) :: s) mo [] (.held bs (Dp.deep S) :: m)) (hwt : Wt N ops s g true := by first | exact Wt.none | exact Wt.yes rfl rfl)
    (hd : Nat.blt d N = true := by rfl) (hx : Evp N true s r vs := by repeat (first | exact Evp.nil | apply Evp.cons (by first | exact EvU.plain rfl | exact EvU.cond rfl))) (hr : Reps zc n zl := by exact Reps.rep _ _) (hfill : Fill (fun i => some (i * GoT.sz α, GoT.sz α)) zl vs cs := by repeat (first | exact Fill.nil | apply Fill.one rfl rfl (by repeat (first | exact SetAt.zero | apply SetAt.succ)) | apply Fill.agg rfl rfl rfl (by repeat (first | exact SetsAt.nil | apply SetsAt.cons (by repeat (first | exact SetAt.zero | apply SetAt.succ)))))) (hsz : Nat.ble (n * GoT.sz α) (2 ^ 24) = true := by rfl)
    (hc : cs = ls.flatMap GoT.enc := by rfl) (hn : n = ls.length := by rfl) : J P N w0 ops Q (.op .a ⟨some d, .buildSlice t n r.toArray, ty, ps, af, g⟩ l) s mo [] m :=
  J.litO (hl := hl) ls nofun hd hwt hx hr hfill hsz hc hn (fun S hS _ => J.weak (m' := .held S.v.ownBlock.toList (Dp.deep S) :: m) (fun w hw => hw.freeze) (fun _ => List.nil_sublist _) (K S _ hS))
theorem J.lN [Dp β] {n bytes e : Nat} {zc zl cs : List Value} {r : List (Nat × Operand)} {vs : List (Nat × Value)} [hl : TyAp P t e (GoT.sz α) bytes zc] (ls : List α) (y : β) {bs0 : List Nat}
    (K : ∀ (S : Sl α) bs, S.l = ls → J P N w0 ops Q l ((d, S.v) :: s) mo [] (.held bs (Dp.deep S) :: m2)) (hy : ∀ w, Dp.deep y w → Dp.deep ls w) [ht : TakeC [.held bs0 (Dp.deep y)] m m2] (hwt : Wt N ops s g true := by first | exact Wt.none | exact Wt.yes rfl rfl)
    (hd : Nat.blt d N = true := by rfl) (hx : Evp N true s r vs := by repeat (first | exact Evp.nil | apply Evp.cons (by first | exact EvU.plain rfl | exact EvU.cond rfl))) (hr : Reps zc n zl := by exact Reps.rep _ _) (hfill : Fill (fun i => some (i * GoT.sz α, GoT.sz α)) zl vs cs := by repeat (first | exact Fill.nil | apply Fill.one rfl rfl (by repeat (first | exact SetAt.zero | apply SetAt.succ)) | apply Fill.agg rfl rfl rfl (by repeat (first | exact SetsAt.nil | apply SetsAt.cons (by repeat (first | exact SetAt.zero | apply SetAt.succ)))))) (hsz : Nat.ble (n * GoT.sz α) (2 ^ 24) = true := by rfl)
    (hc : cs = ls.flatMap GoT.enc := by rfl) (hn : n = ls.length := by rfl) : J P N w0 ops Q (.op .a ⟨some d, .buildSlice t n r.toArray, ty, ps, af, g⟩ l) s mo [] m :=
  J.litO (hl := hl) ls nofun hd hwt hx hr hfill hsz hc hn (fun S hS _ => J.weak (m' := .held (S.v.ownBlock.toList ++ bs0) (Dp.deep S) :: m2) (fun w hw => by
    have h1 : Mem w0 mo (.held bs0 (Dp.deep y) :: Res.own e S :: m2) w := hw.front _
    have h2 := Mem.heldTo (y := S.l) h1 (fun w h => by rw [hS]; exact hy w h)
    exact (h2.front (Res.own e S)).freezeN) (fun _ => List.nil_sublist _) (K S _ hS))
theorem J.lZ {n bytes e : Nat} {zc zl cs : List Value} {r : List (Nat × Operand)} {vs : List (Nat × Value)} [hl : TyAp P t e (GoT.sz α) bytes zc] (ls : List α)
    (K : ∀ (S : Sl α) bs, S.l = ls → J P N w0 ops Q l ((d, S.v) :: s) mo [] (.held bs (Dp.deep S) :: m)) (hy : ∀ w, Dp.deep ls w) (hwt : Wt N ops s g true := by first | exact Wt.none | exact Wt.yes rfl rfl)
    (hd : Nat.blt d N = true := by rfl) (hx : Evp N true s r vs := by repeat (first | exact Evp.nil | apply Evp.cons (by first | exact EvU.plain rfl | exact EvU.cond rfl))) (hr : Reps zc n zl := by exact Reps.rep _ _) (hfill : Fill (fun i => some (i * GoT.sz α, GoT.sz α)) zl vs cs := by repeat (first | exact Fill.nil | apply Fill.one rfl rfl (by repeat (first | exact SetAt.zero | apply SetAt.succ)) | apply Fill.agg rfl rfl rfl (by repeat (first | exact SetsAt.nil | apply SetsAt.cons (by repeat (first | exact SetAt.zero | apply SetAt.succ)))))) (hsz : Nat.ble (n * GoT.sz α) (2 ^ 24) = true := by rfl)
    (hc : cs = ls.flatMap GoT.enc := by rfl) (hn : n = ls.length := by rfl) : J P N w0 ops Q (.op .a ⟨some d, .buildSlice t n r.toArray, ty, ps, af, g⟩ l) s mo [] m :=
  J.litO (hl := hl) ls nofun hd hwt hx hr hfill hsz hc hn (fun S hS _ => J.weak (m' := .held (S.v.ownBlock.toList ++ []) (Dp.deep S) :: m) (fun w hw => by
    have h1 := hw.add0 (Φ := Dp.deep S.l) (fun w => by rw [hS]; exact hy w)
    exact (h1.front (Res.own e S)).freezeN) (fun _ => List.nil_sublist _) (K S _ hS))
end
theorem dp1 {k : ByteArray} {g : Bool} {S : Sl UInt8} (w : World) (h : Dp.deep S w) : Dp.deep [(⟨k, S, g⟩ : Chg)] w := by
  intro x hx; simp at hx; subst hx; exact h
theorem dp2 {k : ByteArray} {S : Sl UInt8} (w : World) (h : Dp.deep S w) : Dp.deep [(⟨k, S⟩ : RowD)] w := by
  intro x hx; simp at hx; subst hx; exact h
theorem dp3 {k k2 : ByteArray} {g g2 : Bool} {S : Sl UInt8} (w : World) (h : Dp.deep S w) : Dp.deep [(⟨k, Sl.none, g⟩ : Chg), (⟨k2, S, g2⟩ : Chg)] w := by
  intro x hx; simp at hx; rcases hx with rfl | rfl
  · exact Sl.none_deep w
  · exact h
def bytes12 : List UInt8 := [1, 0, 0, 0, 1, 97, 0, 1, 0, 0, 0, 7]
theorem put1 {L : Sl Chg} {S : Sl UInt8} (hL : L.l = [⟨kA, S, false⟩]) (hS : S.l = [7]) (w : World) (h : Dp.deep L w) : Gives Try.prog 6 [L.v] w (fun x : Sl UInt8 => x.l = bytes12) (fun x => .tuple #[x.v, .int .i64 0]) :=
  (put_c L w h (by simp [hL])).mono fun e w' ⟨x, bs, hp, he, hm⟩ => by
    have hpc : L.l.map pc = [(kA, [7], false)] := by simp [hL, pc, hS]
    rw [mayC_pc, hpc, lv1, if_pos rfl, lv2] at hp
    exact ⟨x.1, bs, hp.2, by rw [he]; simp only [hp.1], hm.heldTo fun w h => h.1⟩
theorem put2 {L : Sl Chg} (hL : L.l = [⟨kB, Sl.none, false⟩, ⟨kA, Sl.none, false⟩]) (w : World) (h : Dp.deep L w) : Gives Try.prog 6 [L.v] w (fun x : Sl UInt8 => True) (fun x => .tuple #[x.v, .int .i64 2]) :=
  (put_c L w h (by simp [hL])).mono fun e w' ⟨x, bs, hp, he, hm⟩ => by
    have hpc : L.l.map pc = [(kB, [], false), (kA, [], false)] := by simp [hL, pc]
    rw [mayC_pc, hpc, lv3, if_neg (by simp)] at hp
    exact ⟨x.1, bs, trivial, by rw [he]; simp only [hp.1], hm.heldTo fun w h => h.1⟩
theorem get1 {B : Sl UInt8} (hB : B.l = bytes12) (w : World) (h : Dp.deep B w) : Gives Try.prog 8 [B.v] w (fun x : Sl Chg => x.l.map pc = [(kA, [7], false)]) (fun x => .tuple #[x.v, .int .i64 0]) :=
  (get_gives B w h (by simp [hB, bytes12])).mono fun e w' ⟨x, bs, hp, he, hm⟩ => by
    have hg : getB B = (0, [(kA, [7], false)]) := by
      rw [getB_L, hB]
      have := get_put lv1 (by simp)
      rwa [lv2] at this
    rw [hg] at hp
    exact ⟨x.1, bs, hp.2, by rw [he]; simp only [hp.1], hm.heldTo fun w h => h.1⟩
theorem app1 {R : Sl RowD} {L : Sl Chg} {S S' : Sl UInt8} (hR : R.l = [⟨kA, S⟩]) (hS : S.l = [7]) (hL : L.l = [⟨kA, Sl.none, true⟩, ⟨kB, S', false⟩]) (hS' : S'.l = [8]) (w : World) (h : Dp.deep R w) (h2 : Dp.deep L w) : Gives Try.prog 13 [R.v, L.v] w (fun x : Sl RowD => x.l.map pr = [(kB, [8])]) (fun x => .tuple #[x.v, .int .i64 0]) :=
  (apply_gives R L w h h2 (by simp [hR, hS]) (by simp [hL, hS']) (by simp [hR]) (by simp [hL]) (by simp [hR, hL])).mono fun e w' ⟨x, bs, hp, he, hm⟩ => by
    have hpc : L.l.map pc = [(kA, [], true), (kB, [8], false)] := by simp [hL, pc, hS']
    have ha : applyS R.l L.l = ([(kB, [8])], 0) := by
      have h1 : mayR R.l = true := by simpa [mayR, risesL, hR, hS] using lv5
      have h2 : mayC L.l = true := by rw [mayC_pc, hpc, lv4]
      unfold applyS
      rw [h1, h2, hR, hL]
      simp [mergeC, cmpAA, outC, hS']
    rw [ha] at hp he
    exact ⟨x, bs, hp, he, hm⟩
theorem sameT {a b : Sl UInt8} (h : a.l = b.l) (w : World) (ha : Dp.deep a w) (hb : Dp.deep b w) : Calls Try.prog 11 [a.v, b.v].toArray w fun e w' => e = .returned (.bool true) ∧ Below w.heap.size w w' := by
  have := same_calls a b w ha hb
  rwa [h, beq_self_eq_true] at this
theorem changesT {a b : Sl Chg} (h : a.l.map pc = b.l.map pc) (w : World) (ha : Dp.deep a w) (hb : Dp.deep b w) (hl : a.l.length ≤ 140737488355328) : Calls Try.prog 9 [a.v, b.v].toArray w fun e w' => e = .returned (.bool true) ∧ Below w.heap.size w w' := by
  have := changes_calls a b w ha hb hl
  rwa [allB_refl sameC1 pc sameC1_pc _ _ h] at this
theorem rowsT {a b : Sl RowD} (h : a.l.map pr = b.l.map pr) (w : World) (ha : Dp.deep a w) (hb : Dp.deep b w) (hl : a.l.length ≤ 140737488355328) : Calls Try.prog 19 [a.v, b.v].toArray w fun e w' => e = .returned (.bool true) ∧ Below w.heap.size w w' := by
  have := rows_calls a b w ha hb hl
  rwa [allB_refl sameR1 pr sameR1_pr _ _ h] at this
theorem len_map {α β : Type} {f : α → β} {l : List α} {m : List β} (h : l.map f = m) : l.length = m.length := by rw [← h]; simp
theorem lives_calls (w : World) : Calls Try.prog 10 ([] : List Value).toArray w fun e w' => e = .returned (.bool true) ∧ Below w.heap.size w w' := by
  refine enter Try.func10 rfl Try.ntmps10 ?_
  repeat' (first
      | refine J.lF (α := UInt8) [7] (fun S7 c7 h7 => ?_)
      | refine J.lF (α := UInt8) [8] (fun S8 c8 h8 => ?_)
      | refine J.lF (α := UInt8) bytes12 (fun S12 c12 h12 => ?_)
      | (refine J.lN (α := Chg) [⟨kA, S7, false⟩] S7 (bs0 := c7) (fun L cL hL => ?_) dp1; have hLp : L.l.map pc = [(kA, [7], false)] := by rw [hL]; simp [pc, h7])
      | refine J.lZ (α := Chg) [⟨kB, Sl.none, false⟩, ⟨kA, Sl.none, false⟩] (fun L2 cL2 hL2 => ?_) (fun w => dp3 w (Sl.none_deep w))
      | refine J.lN (α := RowD) [⟨kA, S7⟩] S7 (bs0 := c7) (fun R cR hR => ?_) dp2
      | refine J.lN (α := RowD) [⟨kB, S8⟩] S8 (bs0 := c8) (fun R2 cR2 hR2 => ?_) dp2
      | refine J.lN (α := Chg) [⟨kA, Sl.none, true⟩, ⟨kB, S8, false⟩] S8 (bs0 := c8) (fun L3 cL3 hL3 => ?_) dp3
      | refine J.bu ?_
      | refine J.bg ?_
      | refine J.boxA nofun rfl .none (.plain rfl) (fun _ _ => ?_)
      | refine J.box1 nofun rfl .none (.plain rfl) rfl (fun _ _ => ?_)
      | refine J.alloc nofun rfl .none (fun _ _ => ?_)
      | refine J.sto ?_
      | refine J.stoN ?_
      | refine J.lit (fun _ _ => ?_)
      | refine J.alt nofun ?_ ?_
      | exact J.stop
      | refine J.cH (fun w' hw => put1 hL h7 w' (Kn.get hw)) (fun B cB hB => ?_)
      | refine J.cH (fun w' hw => get1 hB w' (Kn.get hw)) (fun C cC hC => ?_)
      | refine J.cH (fun w' hw => put2 hL2 w' (Kn.get hw)) (fun B2 cB2 _ => ?_)
      | refine J.cH (fun w' hw => app1 hR h7 hL3 h8 w' (Kn.get hw) (Kn.get hw)) (fun T cT hT => ?_)
      | refine J.callgc (fun _ w' hw => sameT (a := B) (b := S12) (by rw [hB, h12]) w' (Kn.get hw) (Kn.get hw)) ?_
      | refine J.callgc (fun _ w' hw => changesT (a := C) (b := L) (by rw [hC, hLp]) w' (Kn.get hw) (Kn.get hw) (by rw [len_map hC]; simp)) ?_
      | refine J.callgc (fun _ w' hw => rowsT (a := T) (b := R2) (by rw [hT, hR2]; simp [pr, h8]) w' (Kn.get hw) (Kn.get hw) (by rw [len_map hT]; simp)) ?_
      | refine J.fin ?_
      | refine G.seq ?_
      | refine G.region ?_
      | refine G.draw (by kernel_rfl) (by kernel_rfl) ?_
      | refine Fin.go ?_
      | refine G.condT ?_
      | refine G.condF ?_
      | (refine G.cond rfl (fun h => ?_) (fun h => ?_) <;> (have hp := h; try simp only [decide_eq_true_eq, decide_eq_false_iff_not, Bool.and_eq_true, Bool.or_eq_true, Bool.and_eq_false_iff, Bool.or_eq_false_iff, Bool.not_eq_true', Bool.not_eq_false'] at hp))
      | refine G.ret ?_
      | refine G.skip ?_
      | refine G.exit ?_
      | refine G.block ?_
      | refine Fin.resS Try.results10 ?_
      | refine Fin.resT Try.results10 ?_)
  exact fun w' hw => ⟨by simp, hw.out⟩
end Go.Proofs.Ytdhhjhkonmacdaa
