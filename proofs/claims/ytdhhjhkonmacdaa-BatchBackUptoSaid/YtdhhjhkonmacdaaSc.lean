/- Generic: slices of the call's own as data: append, make, store; bytes and texts; calls that turn what is handed to them. -/
import Derived.Test.YtdhhjhkonmacdaaSh
import Derived.Lib.AppendStr
namespace Go.Proofs.Ytdhhjhkonmacdaa
open Go.RowKit
open Go.Lib
set_option linter.unusedVariables false
set_option linter.unusedSimpArgs false
/-- A slice of the call's own. -/
abbrev Res.own {α : Type} [GoT α] (e : TypeId) (s : Sl α) : Res := .row s.v e (GoT.sz α) s.l.length (s.l.flatMap GoT.enc)
section
variable {α : Type} [GoT α]
theorem len_flat (l : List α) : (l.flatMap GoT.enc).length = l.length * GoT.sz α := by
  induction l with
  | nil => simp
  | cons a r ih => rw [List.flatMap_cons, List.length_append, ih, GoT.len, List.length_cons, Nat.succ_mul]; omega
theorem one_flat (l : List α) : ∀ u ∈ l.flatMap (GoT.enc (α := α)), u.oneCell' = true := by
  intro u hu
  obtain ⟨x, _, hx⟩ := List.mem_flatMap.1 hu
  exact GoT.one x u hx
/-- What an owned row tells, as data. -/
theorem ownsRow_sl {w : World} {e : TypeId} {n : Nat} {v : Value} {l : List α} (h : w.ownsRow 0 e (GoT.sz α) v n (l.flatMap GoT.enc)) : ∃ s : Sl α, s.v = v ∧ s.l = l ∧ n = l.length ∧ s.Row w ∧ (∀ b, v.ownBlock = some b ↔ ∃ B, s.A = some B ∧ b = B.block) ∧ (l ≠ [] → v.ownBlock = some s.B.block) ∧ (s.A = none → v = .slice none 0 0) := by
  obtain ⟨h1, h2⟩ := h
  have hn : n = l.length := by
    rw [len_flat] at h1
    exact (Nat.eq_of_mul_eq_mul_right GoT.pos h1).symm
  subst hn
  rcases h2 with ⟨rfl, h0⟩ | ⟨g, cap, cur, rfl, hb, hg, hcap, _, hcur, hrest⟩
  · have : l = [] := List.eq_nil_of_length_eq_zero h0
    subst this
    exact ⟨Sl.none, rfl, rfl, rfl, ⟨fun j x h => by simp at h⟩, by intro b; simp [Value.ownBlock, Sl.none], by simp, fun _ => rfl⟩
  · refine ⟨⟨some ⟨g, 0, none⟩, ⟨g, 0, none⟩, l, cap, fun _ => rfl, hcap, nofun⟩, rfl, rfl, rfl, ⟨fun j x hj => ⟨GoT.len x, fun o v hv => ?_⟩⟩, by intro b; simp [Value.ownBlock, eq_comm], fun _ => rfl, nofun⟩
    have := flatMap_get l (fun x _ => GoT.len x) j x hj o v hv
    rw [← hrest] at this
    show w.cell? ((⟨g, 0, none⟩ : Addr).add (j * GoT.sz α + o)) = some v
    rw [add_off, cell_blk hg, Nat.zero_add]
    have hlt := (List.getElem?_eq_some_iff.1 this).1
    rw [List.getElem?_take_of_lt (by rw [List.length_take] at hlt; omega)] at this
    simpa using this
theorem own_row {w : World} {e : TypeId} {s : Sl α} (h : (Res.own e s).sat w) : s.Row w := by
  obtain ⟨s', h1, h2, _, h3, _, _⟩ := ownsRow_sl h
  unfold Sl.v at h1
  injection h1 with a1 a2 a3
  refine ⟨fun j x hj => ⟨GoT.len x, fun o v hv => ?_⟩⟩
  have hne : 0 < s.l.length := by have := (List.getElem?_eq_some_iff.1 hj).1; omega
  have hB : s'.B = s.B := by
    have e1 := s.base hne
    have e2 := s'.base (by rw [h2]; exact hne)
    rw [a1, e1] at e2
    exact (Option.some.inj e2).symm
  have := (h3.row j x (by rw [h2]; exact hj)).2 o v hv
  rwa [hB] at this
/-- What lies in an own slice. -/
class OwnM (m : List Res) (s : Sl α) : Prop where
  mem : ∃ e, Res.own e s ∈ m
instance ownM_here {s : Sl α} {e : TypeId} {m : List Res} : OwnM (.row s.v e (GoT.sz α) s.l.length (s.l.flatMap GoT.enc) :: m) s := ⟨⟨e, by simp⟩⟩
instance (priority := low) ownM_there {s : Sl α} {r : Res} {m : List Res} [h : OwnM m s] : OwnM (r :: m) s := ⟨by obtain ⟨e, h⟩ := h.mem; exact ⟨e, by simp [h]⟩⟩
/-- Nothing lies behind its data. -/
class Flat (α : Type) [GoT α] : Prop where
  deep : ∀ (x : α) (w : World), Dp.deep x w
instance : Flat UInt8 := ⟨fun _ _ => trivial⟩
instance : Flat Int := ⟨fun _ _ => trivial⟩
instance : Flat ByteArray := ⟨fun _ _ => trivial⟩
instance (priority := low) kn_own {w0 : World} {mo : List Nat} {m : List Res} [Flat α] {s : Sl α} [h : OwnM m s] : Kn w0 mo m s := ⟨fun w hw => by
  obtain ⟨e, h⟩ := h.mem
  exact ⟨own_row (hw.sat _ h), fun x _ => Flat.deep x w⟩⟩
theorem kn_flat {w0 : World} {mo : List Nat} {m : List Res} [Flat α] (x : α) : Kn w0 mo m x := ⟨fun w _ => Flat.deep x w⟩
end
section
variable {P : Program} {N : Nat} {w0 : World} {ops : Array Oper} {Q : Act → World → Prop} {l : Pl Oper} {s : Slots} {mo : List Nat} {kk m m1 m2 m' : List Res} {f : Fl} {v u : Value} {c : Bool} {d : Nat} {x y z : Operand} {ty t : TypeId} {ps : String} {af : Array Edge} {g : Option (Nat × Bool)} {k : IntKind} {a b : Int} {at_ : Array TypeId} {α : Type} [GoT α]
/-- An own slice that grows by news: whatever 'append' does so. -/
theorem J.grown {o : Oper} {S : Sl α} {e : TypeId} {news : List α} {F : Sl α → List Res} (ho : o.dst = some d) (hd : Nat.blt d N = true) (hwt : Wt N ops s o.guard true)
    (he : ∀ A, Holds N s A → ∀ w, Mem w0 mo m w → w.ownsRow 0 e (GoT.sz α) S.v S.l.length (S.l.flatMap GoT.enc) → ∃ v' w', (execOp A.eval o).run P w = .ok (.value v') w' ∧ w'.ownsRow 0 e (GoT.sz α) v' (S.l.length + news.length) (S.l.flatMap GoT.enc ++ news.flatMap GoT.enc) ∧ w.grownBy w' S.v.ownBlock ∧
      (v' = .slice none 0 0 ↔ S.v = .slice none 0 0 ∧ news.length = 0) ∧ (∀ b, v'.ownBlock = some b → S.v.ownBlock = some b ∨ w.heap.size ≤ b))
    (hm : ∀ S', Upd (Res.own e S) (Res.own e S') m (F S')) (hk : ∀ S', kk.Sublist (F S'))
    (K : ∀ S' : Sl α, S'.l = S.l ++ news → (S'.A = none ↔ S.A = none ∧ news = []) → J P N w0 ops Q l ((d, S'.v) :: s) mo kk (F S')) : J P N w0 ops Q (.op .a o l) s mo kk m :=
  J.act (ι := { S' : Sl α // S'.l = S.l ++ news ∧ (S'.A = none ↔ S.A = none ∧ news = []) }) (v := fun S' => S'.1.v) (m' := fun S' => F S'.1) (kk' := fun _ => kk) nofun (fun S' _ => ⟨List.Sublist.refl _, hk S'.1⟩) ho hd hwt (fun A hA w hw => by
    obtain ⟨m1, m2, hm1, hm2⟩ := (hm Sl.none).split
    have hown : w.ownsRow 0 e (GoT.sz α) S.v S.l.length (S.l.flatMap GoT.enc) := hw.sat (Res.own e S) (by rw [hm1]; simp)
    obtain ⟨v', w', r1, r2, r3, r4, r5⟩ := he A hA w hw hown
    rw [← List.flatMap_append] at r2
    obtain ⟨S', e1, e2, e3, e4, e5, e6, e7⟩ := ownsRow_sl r2
    have hnil : S'.A = none ↔ S.A = none ∧ news = [] := by
      constructor
      · intro h
        obtain ⟨h1, h2⟩ := r4.1 (e7 h)
        unfold Sl.v at h1
        injection h1 with h1
        exact ⟨h1, List.eq_nil_of_length_eq_zero h2⟩
      · rintro ⟨h1, h2⟩
        have := r4.2 ⟨Sl.nil_v h1, by rw [h2]; rfl⟩
        rw [← e1] at this
        unfold Sl.v at this
        injection this
    refine eff_of_run (v := v') (w' := w') r1 ⟨⟨S', e2, hnil⟩, e1.symm, ?_⟩
    obtain ⟨k1, k2, hk1, hk2⟩ := (hm S').split
    show Mem w0 mo (F S') w'
    rw [hk2]
    rw [hk1] at hw
    refine hw.turn (fun b hb hat => r3.block b hb fun e => hat e.symm) (show w'.ownsRow 0 e (GoT.sz α) S'.v S'.l.length (S'.l.flatMap GoT.enc) by rw [e1, e2, ← e3]; exact r2) (fun b hb => ?_) r3.os r3.tape r3.output r3.size
    have hb' : v'.ownBlock = some b := by rw [← e1]; exact hb
    exact r5 b hb') (fun S' => K S'.1 S'.2.1 S'.2.2)
/-- append(S, news..): news lie in memory, somewhere. -/
theorem J.appendN {S : Sl α} {A : Option Addr} {B : Addr} {mm cp e bytes : Nat} {news : List α} {F : Sl α → List Res} {zc : List Value} [hl : TyAp P t e (GoT.sz α) bytes zc] (hd : Nat.blt d N = true) (hwt : Wt N ops s g true) (hx : EvU N true s x S.v) (hy : EvU N true s y (.slice A mm cp)) (hmm : mm = news.length) (hA : 0 < mm → A = some B) (hcp : A = none → cp = 0)
    (hnews : ∀ w, Mem w0 mo m w → ∀ j u, (news.flatMap GoT.enc)[j]? = some u → w.cell? (B.add j) = some u) (hroom : (S.l.length + mm) * bytes ≤ 140737488355328 ∧ S.l.length + mm ≤ maxLen)
    (hm : ∀ S', Upd (Res.own e S) (Res.own e S') m (F S')) (hk : ∀ S', kk.Sublist (F S'))
    (K : ∀ S' : Sl α, S'.l = S.l ++ news → (S'.A = none ↔ S.A = none ∧ news = []) → J P N w0 ops Q l ((d, S'.v) :: s) mo kk (F S')) :
    J P N w0 ops Q (.op .a ⟨some d, .call ⟨.builtin .append, #[x, y], #[t, t]⟩, ty, ps, af, g⟩ l) s mo kk m :=
  J.grown (news := news) rfl hd hwt (fun A' hA' w hw hown => by
    obtain ⟨i, z, a1, a2, a3, a4, a5, a6, a7, a8⟩ := hl.ap
    subst hmm
    cases hc : A with
    | none =>
      have hn : news = [] := by
        cases news with
        | nil => rfl
        | cons a r => have := hA (by simp); rw [hc] at this; cases this
      subst hn
      obtain rfl := hcp hc
      refine ⟨S.v, w, ?_, by simpa using hown, ?_, by simp, fun b hb => .inl hb⟩
      · have hr := run_append_owned_none (P := P) (w := w) 0 t ty e i (GoT.sz α) a1 a2 S.v S.l.length (S.l.flatMap GoT.enc) hown
        simp only [execOp, resolve]
        simp [invoke, builtin, hx rfl A' hA', hy rfl A' hA', hc, hr]
      · exact ⟨rfl, rfl, rfl, Nat.le_refl _, fun _ _ _ => rfl⟩
    | some q =>
      subst hc
      have hq : ∀ j u, (news.flatMap GoT.enc)[j]? = some u → w.cell? (q.add j) = some u := fun j u hj => by
        have h0 : 0 < news.length := by
          cases news with
          | nil => simp at hj
          | cons a r => simp
        have := hA h0
        cases this
        exact hnews w hw j u hj
      obtain ⟨v', w', r1, r2, r3, r4, r5⟩ := run_append_own_at w 0 t ty e i z (GoT.sz α) bytes a1 a2 a3 a4 a5 (by rw [a6]; simpa using a7) a8 S.v S.l.length (S.l.flatMap GoT.enc) hown q news.length cp (news.flatMap GoT.enc) (len_flat news) hq (one_flat news) hroom.2 hroom.1 (Nat.zero_le _)
      refine ⟨v', w', ?_, r2, r3, r4, fun b hb => ?_⟩
      · simp only [execOp, resolve]
        simp [invoke, builtin, hx rfl A' hA', hy rfl A' hA', r1]
      · rcases r5 with r5 | r5
        · exact .inl (by rw [← r5]; exact hb)
        · rw [r5] at hb; cases hb; exact .inr (Nat.le_refl _)) hm hk K
theorem flat_at {S : Sl α} {w : World} (h : S.Row w) : ∀ j u, (S.l.flatMap GoT.enc)[j]? = some u → w.cell? (S.B.add j) = some u := by
  intro j u hj
  have hp := GoT.pos (α := α)
  have hlt := (List.getElem?_eq_some_iff.1 hj).1
  rw [len_flat] at hlt
  have hq : j / GoT.sz α < S.l.length := (Nat.div_lt_iff_lt_mul hp).2 hlt
  have hd : j = j / GoT.sz α * GoT.sz α + j % GoT.sz α := by rw [Nat.mul_comm]; exact (Nat.div_add_mod j _).symm
  have hr : j % GoT.sz α < GoT.sz α := Nat.mod_lt _ hp
  have hx := List.getElem?_eq_getElem hq
  have h3 := flatMap_get S.l (fun x _ => GoT.len (α := α) x) (j / GoT.sz α) _ hx (j % GoT.sz α) _ (List.getElem?_eq_getElem (by rw [GoT.len]; exact hr))
  rw [← hd, hj] at h3
  have h4 := (h.row (j / GoT.sz α) _ hx).2 (j % GoT.sz α) u (by rw [List.getElem?_eq_getElem (by rw [GoT.len]; exact hr)]; exact h3.symm)
  rwa [← hd] at h4
/-- append(S, T..) -/
theorem J.appendX {S T : Sl α} {e bytes : Nat} {F : Sl α → List Res} {zc : List Value} [hl : TyAp P t e (GoT.sz α) bytes zc] (hd : Nat.blt d N = true) (hwt : Wt N ops s g true) (hx : EvU N true s x S.v) (hy : EvU N true s y T.v)
    (hT : Kn w0 mo m T) (hroom : (S.l.length + T.l.length) * bytes ≤ 140737488355328 ∧ S.l.length + T.l.length ≤ maxLen)
    (hm : ∀ S', Upd (Res.own e S) (Res.own e S') m (F S')) (hk : ∀ S', kk.Sublist (F S'))
    (K : ∀ S' : Sl α, S'.l = S.l ++ T.l → (S'.A = none ↔ S.A = none ∧ T.l = []) → J P N w0 ops Q l ((d, S'.v) :: s) mo kk (F S')) :
    J P N w0 ops Q (.op .a ⟨some d, .call ⟨.builtin .append, #[x, y], #[t, t]⟩, ty, ps, af, g⟩ l) s mo kk m :=
  J.appendN (hl := hl) (news := T.l) (B := T.B) hd hwt hx hy rfl T.base T.nil (fun w hw => flat_at (hT.h w hw).1) hroom hm hk K
/-- append(S, x): x lies in a literal's block. -/
theorem J.append1 {S : Sl α} {G e e2 bytes : Nat} {q : α} {cs : List Value} {F : Sl α → List Res} {zc : List Value} [hl : TyAp P t e (GoT.sz α) bytes zc] (hd : Nat.blt d N = true) (hwt : Wt N ops s g true) (hx : EvU N true s x S.v) (hy : EvU N true s y (.slice (some ⟨G, 0, none⟩) 1 1))
    (hlit : .blk G (.cells cs.toArray e2 (0, 0)) ∈ m) (hq : cs = GoT.enc q) (hroom : (S.l.length + 1) * bytes ≤ 140737488355328 ∧ S.l.length + 1 ≤ maxLen)
    (hm : ∀ S', Upd (Res.own e S) (Res.own e S') m (F S')) (hk : ∀ S', kk.Sublist (F S'))
    (K : ∀ S' : Sl α, S'.l = S.l ++ [q] → (S'.A = none ↔ S.A = none ∧ [q] = []) → J P N w0 ops Q l ((d, S'.v) :: s) mo kk (F S')) :
    J P N w0 ops Q (.op .a ⟨some d, .call ⟨.builtin .append, #[x, y], #[t, t]⟩, ty, ps, af, g⟩ l) s mo kk m :=
  J.appendN (hl := hl) (news := [q]) (B := ⟨G, 0, none⟩) hd hwt hx hy rfl (fun _ => rfl) nofun (fun w hw j u hj => by
    have h2 := hw.sat _ hlit
    rw [add_off, cell_blk h2]
    simp at hj
    subst hq
    simpa using hj) hroom hm hk K
theorem strCells_flat (p : ByteArray) : strCells p = (p.data.toList).flatMap (GoT.enc (α := UInt8)) := by
  unfold strCells
  show List.map (fun b => Value.int .u8 b.toNat) p.data.toList = p.data.toList.flatMap (fun b => [Value.int .u8 (b.toNat : Int)])
  induction p.data.toList with
  | nil => rfl
  | cons a r ih => rw [List.map_cons, List.flatMap_cons, ih]; rfl
theorem append_string_at {w : World} {e : Nat} {i : TypeInfo} {t2 : TypeId} {v : Value} {n : Nat} {xs : List Value} (ht : P.underlying t = some (.slice e)) (hu : P.underlying t2 = some .string) (hi : P.info? e = some i) (hz : i.zero = some (.int .u8 0)) (hs : i.size = 1) (hb : i.bytes = 1)
    (hown : w.ownsRow 0 e 1 v n xs) (p : ByteArray) (h63 : n + p.size ≤ maxLen) (hbytes : n + p.size ≤ 140737488355328) :
    ∃ v' w', (Builtin.append_ #[t, t2] ty #[v, .string p]).run P w = .ok v' w' ∧ w'.ownsRow 0 e 1 v' (n + p.size) (xs ++ strCells p) ∧ w.grownBy w' v.ownBlock ∧ (v' = .slice none 0 0 ↔ v = .slice none 0 0 ∧ p.size = 0) ∧ (∀ b, v'.ownBlock = some b → v.ownBlock = some b ∨ w.heap.size ≤ b) := by
  obtain ⟨hl, h2⟩ := hown
  rcases h2 with ⟨rfl, rfl⟩ | ⟨g, cap, cur, rfl, hb0, hg, hnc, hcm, hcs, htake⟩
  · have hx : xs = [] := List.eq_nil_of_length_eq_zero (by simpa using hl)
    subst hx
    obtain ⟨v', w', r1, r2, r3, r4⟩ := run_append_own_string (P := P) (w := w) w.heap.size t t2 ty e i ht hu hi hz hs hb (.slice none 0 0) 0 [] (World.ownsRow_nil w _ e 1) p h63 hbytes (Nat.le_refl _)
    refine ⟨v', w', r1, ⟨r2.1, ?_⟩, r3, r4, fun b hb => .inr ?_⟩
    · rcases r2.2 with h | ⟨g, cap, cur, a1, a2, a3⟩
      · exact .inl h
      · exact .inr ⟨g, cap, cur, a1, Nat.zero_le _, a3⟩
    · rcases r2.2 with ⟨h, _⟩ | ⟨g, cap, cur, a1, a2, a3⟩
      · rw [h] at hb; cases hb
      · rw [a1] at hb; cases hb; exact a2
  · have hown : w.ownsRow 0 e 1 (.slice (some ⟨g, 0, none⟩) n cap) n xs := ⟨hl, .inr ⟨g, cap, cur, rfl, hb0, hg, hnc, hcm, hcs, htake⟩⟩
    obtain ⟨v', w', r1, r2, r3, r4⟩ := run_append_own_string (P := P) (w := w) 0 t t2 ty e i ht hu hi hz hs hb _ n xs hown p h63 hbytes (Nat.zero_le _)
    refine ⟨v', w', r1, r2, r3, r4, fun b hb' => ?_⟩
    by_cases hroom : n + p.size ≤ cap
    · have hr := run_append_room_string (P := P) (w := w) t t2 ty e i ht hu hi hs g n cap cur hg p hroom (by rw [show cur.size = cap by simpa using hcs]; omega)
      rw [r1] at hr
      cases hr
      exact .inl hb'
    · have holds : ∀ j u, xs[j]? = some u → w.cell? ((⟨g, 0, none⟩ : Addr).add j) = some u := hown.cells (g := g) rfl
      have hr := run_append_grow_string (P := P) (w := w) t t2 ty e i (.int .u8 0) ht hu hi hz ⟨g, 0, none⟩ n cap xs (by rw [hs]; simpa using hl) holds p (by omega) (by simp only [maxLen] at h63; omega) (by rw [hb]; exact growslice_fits (by omega) (by omega))
      rw [r1] at hr
      cases hr
      cases hb'
      exact .inr (Nat.le_refl _)
/-- append(S, text..) -/
theorem J.appendS {S : Sl UInt8} {p : ByteArray} {e : Nat} {F : Sl UInt8 → List Res} {t2 : TypeId} {zc : List Value} [hl : TyAp P t e 1 1 zc] [hv : TyV P e (.int .u8 0)] [hu : TyU P t2 .string] (hd : Nat.blt d N = true) (hwt : Wt N ops s g true) (hx : EvU N true s x S.v) (hy : EvU N true s y (.string p))
    (hroom : S.l.length + p.size ≤ 140737488355328)
    (hm : ∀ S', Upd (Res.own e S) (Res.own e S') m (F S')) (hk : ∀ S', kk.Sublist (F S'))
    (K : ∀ S' : Sl UInt8, S'.l = S.l ++ p.data.toList → (S'.A = none ↔ S.A = none ∧ p.data.toList = []) → J P N w0 ops Q l ((d, S'.v) :: s) mo kk (F S')) :
    J P N w0 ops Q (.op .a ⟨some d, .call ⟨.builtin .append, #[x, y], #[t, t2]⟩, ty, ps, af, g⟩ l) s mo kk m :=
  J.grown (news := p.data.toList) rfl hd hwt (fun A' hA' w hw hown => by
    obtain ⟨i, z, a1, a2, a3, a4, a5, a6, a7, a8⟩ := hl.ap
    have hz : i.zero = some (.int .u8 0) := by
      have h1 := hv.zero w
      simp [zeroValue, typeInfo, a2, a3] at h1
      rw [a3, h1]
    have hsz : p.data.toList.length = p.size := by simp
    obtain ⟨v', w', r1, r2, r3, r4, r5⟩ := append_string_at (P := P) (w := w) (t := t) (ty := ty) (t2 := t2) a1 hu.und a2 hz a4 a5 hown p (by simp only [maxLen]; omega) hroom
    refine ⟨v', w', ?_, ?_, r3, ?_, r5⟩
    · simp only [execOp, resolve]
      simp [invoke, builtin, hx rfl A' hA', hy rfl A' hA', r1]
    · rw [hsz, ← strCells_flat]; exact r2
    · rw [hsz]; exact r4) hm hk K
/-- A literal, as data. -/
theorem J.litO {n bytes e : Nat} {zc zl cs : List Value} {r : List (Nat × Operand)} {vs : List (Nat × Value)} [hl : TyAp P t e (GoT.sz α) bytes zc] (ls : List α) (hf : f ≠ .q) (hd : Nat.blt d N = true) (hwt : Wt N ops s g true) (hx : Evp N true s r vs) (hr : Reps zc n zl) (hfill : Fill (fun i => some (i * GoT.sz α, GoT.sz α)) zl vs cs) (hsz : Nat.ble (n * GoT.sz α) (2 ^ 24) = true)
    (hc : cs = ls.flatMap GoT.enc) (hn : n = ls.length)
    (K : ∀ S : Sl α, S.l = ls → S.A ≠ none → J P N w0 ops Q l ((d, S.v) :: s) mo (f.grow [Res.own e S] kk) (Res.own e S :: m)) : J P N w0 ops Q (.op f ⟨some d, .buildSlice t n r.toArray, ty, ps, af, g⟩ l) s mo kk m :=
  J.grow (ι := { S : Sl α // S.l = ls ∧ S.A ≠ none }) (v := fun S => S.1.v) (n := fun S => [Res.own e S.1]) hf rfl hd hwt (fun A hA w hw => by
    have hlen : n ≤ maxLen := by
      have h1 := Nat.le_of_ble_eq_true hsz
      have h2 : n ≤ n * GoT.sz α := Nat.le_mul_of_pos_right n GoT.pos
      simp only [maxLen]; omega
    refine eff_of_run (run_lit hx hr hfill hsz hA w) ⟨⟨⟨some ⟨w.heap.size, 0, none⟩, ⟨w.heap.size, 0, none⟩, ls, n, fun _ => rfl, by omega, nofun⟩, rfl, nofun⟩, by simp [Sl.v, hn], ?_⟩
    refine hw.more ((Below.refl _ w).alloc (Nat.le_refl _) _) ?_ (fun b hb => ?_)
    · refine ⟨len_flat ls, .inr ⟨w.heap.size, n, cs.toArray, rfl, Nat.zero_le _, show (w.heap.push _)[w.heap.size]? = _ by simp, Nat.le_of_eq hn.symm, hlen, ?_, ?_⟩⟩
      · rw [hc]; simp only [List.size_toArray]; rw [len_flat, hn]
      · rw [hc]; exact List.take_of_length_le (by rw [len_flat]; exact Nat.le_refl _)
    · have : Value.ownBlock (Sl.v _) = some b := hb
      simp [Sl.v, Value.ownBlock] at this
      omega) (fun S => K S.1 S.2.1 S.2.2)
/-- make([]T, n) -/
theorem J.makeN {e bytes n : Nat} {zc : List Value} {ka kb : IntKind} [hl : TyAp P t e (GoT.sz α) bytes zc] (hz : zc = GoT.enc (default : α)) (hf : f ≠ .q) (hd : Nat.blt d N = true) (hwt : Wt N ops s g true) (hx : EvU N true s x (.int ka (n : Int))) (hy : EvU N true s y (.int kb (n : Int))) (hn : n * GoT.sz α ≤ 16777216 ∧ bytes * n ≤ 281474976710656 ∧ n ≤ maxLen)
    (K : ∀ S : Sl α, S.l = List.replicate n default → S.A ≠ none → J P N w0 ops Q l ((d, S.v) :: s) mo (f.grow [Res.own e S] kk) (Res.own e S :: m)) : J P N w0 ops Q (.op f ⟨some d, .makeSlice t x y, ty, ps, af, g⟩ l) s mo kk m :=
  J.grow (ι := { S : Sl α // S.l = List.replicate n default ∧ S.A ≠ none }) (v := fun S => S.1.v) (n := fun S => [Res.own e S.1]) hf rfl hd hwt (fun A hA w hw => by
    obtain ⟨i, z, a1, a2, a3, a4, a5, a6, a7, a8⟩ := hl.ap
    obtain ⟨w', r1, r2, r3⟩ := run_makeSlice_full (P := P) (w := w) w.heap.size t e i z (GoT.sz α) a1 a2 a3 a4 ka kb n hn.1 (by rw [a5]; exact hn.2.1) hn.2.2 (Nat.le_refl _)
    have hcells : (madeCells z.cells (n * GoT.sz α)).toList = (List.replicate n (default : α)).flatMap GoT.enc := by
      rw [a6, hz]
      have := range_zeros (GoT.enc (default : α)) n (by rw [GoT.len]; exact GoT.pos)
      rw [GoT.len] at this
      unfold madeCells
      simp only [List.size_toArray, GoT.len]
      rw [this]
      clear this
      induction n with
      | zero => rfl
      | succ n ih => rw [List.replicate_succ, List.replicate_succ, List.flatten_cons, List.flatMap_cons]; congr 1; simp [List.flatMap_def]
    rw [hcells] at r2
    have r2' : w'.ownsRow 0 e (GoT.sz α) (.slice (some ⟨w.heap.size, 0, none⟩) n n) n ((List.replicate n (default : α)).flatMap GoT.enc) := ⟨r2.1, by
      rcases r2.2 with h | ⟨g, cap, cur, b1, b2, b3⟩
      · exact .inl h
      · exact .inr ⟨g, cap, cur, b1, Nat.zero_le _, b3⟩⟩
    refine eff_of_run (v := .slice (some ⟨w.heap.size, 0, none⟩) n n) (w' := w') (by simp only [execOp, hx rfl A hA, hy rfl A hA]; simp [r1]) ⟨⟨⟨some ⟨w.heap.size, 0, none⟩, ⟨w.heap.size, 0, none⟩, List.replicate n default, n, fun _ => rfl, by simp, nofun⟩, rfl, nofun⟩, by simp [Sl.v], ?_⟩
    refine hw.more ((Below.refl _ w).grown r3 (Nat.le_refl _) (fun j hj => by cases hj)) ?_ (fun b hb => ?_)
    · show w'.ownsRow 0 e (GoT.sz α) _ _ _
      simpa [Sl.v] using r2'
    · have : Value.ownBlock (Sl.v _) = some b := hb
      simp [Sl.v, Value.ownBlock] at this
      omega) (fun S => K S.1 S.2.1 S.2.2)
/-- S[j] = x, S being flat. -/
theorem J.stoOwn {S : Sl α} {e j sz : Nat} {q : α} {F : Sl α → List Res} {hs : TyS P t 1 false} (hsz : sz = GoT.sz α) (h1 : GoT.sz α = 1) (hwt : Wt N ops s g true) (hx : EvU N true s x (.pointer (some (S.B.add (j * sz))))) (hy : EvU N true s y v) (hv : GoT.enc q = [v]) (hj : j < S.l.length)
    (hm : ∀ S', Upd (Res.own e S) (Res.own e S') m (F S')) (hk : ∀ S', kk.Sublist (F S'))
    (K : ∀ S' : Sl α, S'.v = S.v → S'.l = S.l.set j q → S'.B = S.B → S'.A = S.A → J P N w0 ops Q l s mo kk (F S')) : J P N w0 ops Q (.op .a ⟨none, .store t x y, ty, ps, af, g⟩ l) s mo kk m :=
  J.act0 (ι := { S' : Sl α // S'.v = S.v ∧ S'.l = S.l.set j q ∧ S'.B = S.B ∧ S'.A = S.A }) (m' := fun S' => F S'.1) nofun (fun S' _ => hk S'.1) rfl hwt (fun A hA w hw => by
    let S' : Sl α := ⟨S.A, S.B, S.l.set j q, S.cp, fun h => S.base (by simpa using h), by simpa using S.le, S.nil⟩
    have hSv : S'.v = S.v := by simp [S', Sl.v]
    obtain ⟨k1, k2, hk1, hk2⟩ := (hm S').split
    have hown : w.ownsRow 0 e (GoT.sz α) S.v S.l.length (S.l.flatMap GoT.enc) := hw.sat (Res.own e S) (by rw [hk1]; simp)
    have hown' := hown
    rw [h1] at hown'
    rcases hown'.2 with ⟨hnil, h0⟩ | ⟨g, cap, cur, hvv, _, hg, hcap, _, hcur, hrest⟩
    · omega
    · have hA2 : S.A = some ⟨g, 0, none⟩ := by unfold Sl.v at hvv; injection hvv
      have hB : S.B = ⟨g, 0, none⟩ := by have := S.base (by omega); rw [hA2] at this; exact (Option.some.inj this).symm
      have hcp : S.cp = cap := by unfold Sl.v at hvv; injection hvv
      have hvc : v.oneCell' = true := GoT.one q v (by rw [hv]; simp)
      have hvcs : v.cells = #[v] := by cases v <;> simp [Value.oneCell'] at hvc <;> rfl
      have hlt : j < cur.size := by omega
      have hcl : w.cell? ⟨g, j, none⟩ = some cur[j] := by rw [cell_blk hg]; simp [hlt]
      have hfz : w.frozen? ⟨g, j, none⟩ = false := by simp [World.frozen?, hg]
      have hst := World.ownsRow.stored (w := w) (base := 0) (e := e) (size := 1) (g := g) (n := S.l.length) (cap := cap) (xs := S.l.flatMap GoT.enc) (by rw [hvv] at hown'; exact hown') j v
      have hset : (S.l.flatMap GoT.enc).set j v = (S.l.set j q).flatMap GoT.enc := by
        clear hst hrest hown hown' hm hk hk1 hk2 K hw
        have key : ∀ (l : List α) (j : Nat), (l.flatMap GoT.enc).set j v = (l.set j q).flatMap GoT.enc := by
          intro l
          induction l with
          | nil => intro j; rfl
          | cons a r ih =>
            intro j
            have ha : ∃ u, GoT.enc a = [u] := by
              have := GoT.len a
              rw [h1] at this
              match hq : GoT.enc a, this with
              | [u], _ => exact ⟨u, rfl⟩
            obtain ⟨u, hu⟩ := ha
            cases j with
            | zero => simp [hu, hv]
            | succ j => simp [hu, ih j]
        exact key S.l j
      refine eff_of_skip (w' := w.setCell ⟨g, j, none⟩ v) ?_ ⟨⟨S', hSv, rfl, rfl, rfl⟩, ?_⟩
      · have hev : A.eval x = .pointer (some ⟨g, j, none⟩) := by
          have := hx rfl A hA
          rw [hsz, h1, Nat.mul_one, hB, add_off] at this
          simpa using this
        simp only [execOp, hev, hy rfl A hA]
        simp [Instr.storeAt, Instr.sureAddr, storeVar, hvcs, hs.size, storeCells, add_zero, run_store P w _ v .plain hvc, hcl, hfz]
      · show Mem w0 mo (F S') _
        rw [hk2]
        rw [hk1] at hw
        refine hw.turn (fun b _ hn => Below.heap_setCell w _ v b (fun e => hn (by show S.v.ownBlock = some b; rw [hvv, e]; rfl))) ?_ (fun b hb => .inl (by have : S'.v.ownBlock = some b := hb; rw [hSv] at this; exact this)) rfl rfl rfl (by simp [World.setCell])
        show World.ownsRow _ 0 e (GoT.sz α) S'.v S'.l.length (S'.l.flatMap GoT.enc)
        rw [hSv, h1, hvv]
        have : S'.l.flatMap GoT.enc = (S.l.flatMap GoT.enc).set j v := hset.symm
        rw [this, show S'.l.length = S.l.length by simp [S']]
        exact hst.1) (fun S' => K S'.1 S'.2.1 S'.2.2.1 S'.2.2.2.1 S'.2.2.2.2)
/-- A call that turns m1 (out of m) into m1'. -/
theorem J.callW {ι : Type} {F : FuncId} [hF : FnC P F] {args : List Operand} {first cap vs full : List Value} {r : ι → Value} {m1' : ι → List Res}
    (hcall : ∀ w, Mem w0 mo m w → Mem w (blocksOf m1) m1 w → Calls P F full.toArray w (fun e w' => ∃ i, e = .returned (r i) ∧ Mem w (blocksOf m1) (m1' i) w'))
    (K : ∀ i, J P N w0 ops Q l ((d, r i) :: s) mo kk (m1' i ++ m2))
    (ht : Take m1 m m2) (hd : Nat.blt d N = true) (hwt : Wt N ops s g true) (hx : EvU N true s x (.func (.func F) first.toArray cap.toArray)) (ha : Evs N true s args vs) (hfull : first ++ vs ++ cap = full) (hk : ∀ i, kk.Sublist (m1' i ++ m2)) :
    J P N w0 ops Q (.op .a ⟨some d, .call ⟨.value x, args.toArray, at_⟩, ty, ps, af, g⟩ l) s mo kk m :=
  J.callA (r := r) (m' := fun i => m1' i ++ m2) hd hwt hx ha hfull (fun w hw => by
    have hp := hw.perm ht.perm
    exact (hcall w hw (hp.forget (List.sublist_append_left _ _)).rebase).mono fun e w' ⟨i, h1, h3⟩ => ⟨i, h1, hp.back h3⟩) hk K
theorem bytes_cells {S : Sl UInt8} {w : World} (h : S.Row w) : ∀ j v, (S.l.map fun b => Value.int .u8 (b.toNat : Int))[j]? = some v → w.cell? (S.B.add j) = some v := by
  intro j v hj
  rw [List.getElem?_map] at hj
  cases hx : S.l[j]? with
  | none => rw [hx] at hj; cases hj
  | some b =>
    rw [hx] at hj
    cases hj
    have := (h.row j b hx).2 0 _ rfl
    simpa [GoT.sz] using this
end
/-- The text of bytes. -/
def textOf (l : List UInt8) : ByteArray := ⟨l.toArray⟩
theorem fold_push (l : List UInt8) : ∀ r : ByteArray, ((l.map fun b => (b.toNat : Int)).foldl (fun r n => r.push (UInt8.ofNat n.toNat)) r) = ⟨r.data ++ l.toArray⟩ := by
  induction l with
  | nil => intro r; simp
  | cons a l ih =>
    intro r
    rw [List.map_cons, List.foldl_cons, ih]
    simp [ByteArray.push]
section
variable {P : Program} {N : Nat} {w0 : World} {s : Slots} {mo : List Nat} {m : List Res} {c : Bool} {d : Option Tmp} {x : Operand} {ty : TypeId} {ps : String} {af : Array Edge} {g : Option (Nat × Bool)}
theorem q_convBS {S : Sl UInt8} {src dst e : TypeId} [h1 : TyU P src (.slice e)] [h2 : TyU P dst .string] [h3 : TyU P e (.int .u8)] (hx : EvU N c s x S.v) (hk : Kn w0 mo m S) : QV P N w0 c s mo m ⟨d, .convert src dst x, ty, ps, af, g⟩ (.string (textOf S.l)) := fun hc A hA w hw => quiet_of_run (by
  have hrow := (hk.h w hw).1
  have key : (Conv.bytesToString S.v).run P w = .ok (.string (textOf S.l)) w := by
    cases hA' : S.A with
    | none => rw [Sl.nil_v hA', Sl.nil_l hA']; simp [Conv.bytesToString, textOf]; rfl
    | some q =>
      have hcells : (loadCells q S.l.length).run P w = .ok ((S.l.map fun b => (b.toNat : Int)).map (Value.int .u8)).toArray w := by
        cases hl : S.l with
        | nil => exact run_loadCells_list w q [] (by simp)
        | cons b r =>
          have hb := S.base (by rw [hl]; simp)
          rw [hA'] at hb
          cases hb
          have := run_loadCells_list (P := P) w S.B (S.l.map fun b => Value.int .u8 (b.toNat : Int)) (bytes_cells hrow)
          rw [List.length_map] at this
          rw [← hl, List.map_map]
          exact this
      unfold Sl.v
      rw [hA', run_bytesToString w q _ _ _ hcells, fold_push]
      simp [textOf, ByteArray.empty, ByteArray.emptyWithCapacity]
      rfl
  have hcv := run_convert_bytes_string (P := P) w src dst e S.A S.l.length S.cp h1.und h3.und h2.und
  simp only [execOp, hx hc A hA]
  have h4 : (convert src dst S.v).run P w = .ok (.string (textOf S.l)) w := hcv.trans key
  simp [h4])
end
end Go.Proofs.Ytdhhjhkonmacdaa
