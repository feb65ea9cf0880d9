/- Generic: rows that are made, written and grown. -/
import Derived.Test.YtdhhjhkonmacdaaSq
namespace Go.Proofs.Ytdhhjhkonmacdaa
open Go.RowKit
set_option linter.unusedVariables false
set_option linter.unusedSimpArgs false

/-- What append and make ask of a slice's type. -/
class TyAp (P : Program) (t : TypeId) (e : outParam TypeId) (sz bytes : outParam Nat) (zc : outParam (List Value)) : Prop where
  ap : ∃ (i : TypeInfo) (z : Value), P.underlying t = some (.slice e) ∧ P.info? e = some i ∧ i.zero = some z ∧ i.size = sz ∧ i.bytes = bytes ∧ z.cells = zc.toArray ∧ zc.length = sz ∧ 0 < sz
/-- So many times the same cells. -/
inductive Reps (zc : List Value) : Nat → List Value → Prop
  | nil : Reps zc 0 []
  | succ {n : Nat} {r r' : List Value} : Reps zc n r → zc ++ r = r' → Reps zc (n + 1) r'
theorem Reps.eq {zc r : List Value} {n : Nat} (h : Reps zc n r) : r = (List.replicate n zc).flatten := by
  induction h with
  | nil => rfl
  | succ h e ih => subst ih; rw [← e]; rfl
theorem Reps.rep (zc : List Value) : ∀ n : Nat, Reps zc n (List.replicate n zc).flatten
  | 0 => .nil
  | n + 1 => .succ (Reps.rep zc n) (by rw [List.replicate_succ, List.flatten_cons])
theorem len_reps (zc : List Value) (n : Nat) : ((List.replicate n zc).flatten).length = n * zc.length := by
  induction n with
  | zero => simp
  | succ n ih => rw [List.replicate_succ, List.flatten_cons, List.length_append, ih, Nat.succ_mul]; omega
theorem range_zeros (zc : List Value) (n : Nat) (hz : 0 < zc.length) : ((Array.range (n * zc.length)).map fun i => zc.toArray[i % zc.length]!).toList = (List.replicate n zc).flatten := by
  apply List.ext_getElem?
  intro i
  have hl := len_reps zc n
  by_cases hi : i < n * zc.length
  · have h1 : ((Array.range (n * zc.length)).map fun i => zc.toArray[i % zc.length]!).toList[i]? = some zc.toArray[i % zc.length]! := by simp [hi]
    rw [h1]
    have hm : i % zc.length < zc.length := Nat.mod_lt _ hz
    have h2 : ∀ (n i : Nat), i < n * zc.length → (List.replicate n zc).flatten[i]? = zc[i % zc.length]? := by
      intro n
      induction n with
      | zero => intro i h; simp at h
      | succ n ih =>
        intro i h
        rw [List.replicate_succ, List.flatten_cons]
        by_cases hlt : i < zc.length
        · rw [List.getElem?_append_left hlt, Nat.mod_eq_of_lt hlt]
        · have hge : zc.length ≤ i := by omega
          rw [List.getElem?_append_right hge, ih (i - zc.length) (by rw [Nat.succ_mul] at h; omega), Nat.mod_eq_sub_mod hge]
    rw [h2 n i hi]
    simp [hm]
  · rw [List.getElem?_eq_none (by simpa using hi), List.getElem?_eq_none (by rw [hl]; omega)]
section
variable {P : Program} {N : Nat} {w0 : World} {ops : Array Oper} {Q : Act → World → Prop} {l : Pl Oper} {s : Slots} {mo : List Nat} {kk m m' : List Res} {f : Fl} {v u : Value} {c : Bool} {d : Nat} {x y z : Operand} {ty t : TypeId} {ps : String} {af : Array Edge} {g : Option (Nat × Bool)} {k : IntKind} {a b : Int}
theorem SetsAt.get {vs l l' : List Value} {n : Nat} (h : SetsAt vs l n l') : ∀ i, l'[i]? = if n ≤ i ∧ i < n + vs.length then vs[i - n]? else l[i]? := by
  induction h with
  | nil => intro i; rw [if_neg (by simp)]
  | cons h1 h2 ih =>
    rename_i v vs l l1 l2 n
    intro i
    have e1 : l1 = l.set n v := by
      have := h1.eq
      simp at this
      exact this.symm
    have hlt := h1.len.1
    rw [ih i, e1, List.getElem?_set]
    simp only [List.length_cons]
    by_cases h : n = i
    · subst h
      rw [if_neg (by omega), if_pos rfl, if_pos hlt, if_pos (by omega)]
      simp
    · by_cases h2 : n + 1 ≤ i ∧ i < n + 1 + vs.length
      · rw [if_pos h2, if_pos (by omega), show i - n = (i - (n + 1)) + 1 by omega]
        simp
      · rw [if_neg h2, if_neg h, if_neg (by omega)]
theorem SetsAt.eqL {vs l l' : List Value} {n : Nat} (h : SetsAt vs l n l') (hb : n + vs.length ≤ l.length) : l' = l.take n ++ vs ++ l.drop (n + vs.length) := by
  apply List.ext_getElem?
  intro i
  rw [h.get i, List.append_assoc]
  by_cases h1 : i < n
  · rw [if_neg (by omega), List.getElem?_append_left (by simp; omega), List.getElem?_take, if_pos h1]
  · rw [List.getElem?_append_right (by simp; omega)]
    have hl : (l.take n).length = n := by simp; omega
    rw [hl]
    by_cases h2 : i < n + vs.length
    · rw [if_pos (by omega), List.getElem?_append_left (by omega)]
    · rw [if_neg (by omega), List.getElem?_append_right (by omega), List.getElem?_drop]
      congr 1; omega
theorem J.storeN {G o n : Nat} {cs cs' vs : List Value} {e : TypeId} {hs : TyS P t n true} (hwt : Wt N ops s g true) (hx : EvU N true s x (pt G o)) (hy : EvU N true s y (.agg vs.toArray)) (hn : Nat.beq vs.length n = true) (hv : vs.all (·.oneCell') = true) (hc : SetsAt vs cs o cs') (hb : Nat.ble (o + n) cs.length = true)
    (hm : Upd (.blk G (.cells cs.toArray e (0, 0))) (.blk G (.cells cs'.toArray e (0, 0))) m m') (hk : kk.Sublist m') (K : J P N w0 ops Q l s mo kk m') : J P N w0 ops Q (.op .a ⟨none, .store t x y, ty, ps, af, g⟩ l) s mo kk m :=
  J.act0 (ι := Unit) (m' := fun _ => m') nofun (fun _ _ => hk) rfl hwt (fun A hA w hw => by
    obtain ⟨m1, m2, rfl, rfl⟩ := hm.split
    have hn' : vs.length = n := Nat.eq_of_beq_eq_true hn
    have hb' : o + n ≤ cs.length := Nat.le_of_ble_eq_true hb
    have hbk : w.heap[G]? = some (.cells cs.toArray e (0, 0)) := hw.sat (.blk G (.cells cs.toArray e (0, 0))) (by simp)
    have hrun := run_storeCells_at (P := P) G o e vs 0 cs.toArray w hbk (by simp; omega) (fun v h => (List.all_eq_true.1 hv) v h)
    have hcs : (cs.toArray.toList.take (o + 0) ++ vs ++ cs.toArray.toList.drop (o + 0 + vs.length)) = cs' := by
      rw [hc.eqL (by omega)]; simp
    rw [hcs] at hrun
    refine eff_of_skip (w' := w.setRow G cs'.toArray) ?_ ⟨(), ?_⟩
    · simp only [execOp, hx rfl A hA, hy rfl A hA]
      simp [Instr.storeAt, Instr.sureAddr, storeVar, Value.cells, hs.size, hn', hrun]
    · exact hw.turn (fun b _ hb => setRow_other w G b _ (fun e => hb e.symm)) (setRow_heap w G _ _ e (0, 0) hbk) (fun b hb => .inl hb) rfl rfl rfl (by simp [World.setRow])) (fun _ => K)
/-- A literal of a slice: a new block. -/
theorem run_lit {n sz bytes e : Nat} {zc zl cs : List Value} {r : List (Nat × Operand)} {vs : List (Nat × Value)} {d : Option Tmp} [hl : TyAp P t e sz bytes zc] (hx : Evp N true s r vs) (hr : Reps zc n zl) (hfill : Fill (fun i => some (i * sz, sz)) zl vs cs) (hsz : Nat.ble (n * sz) (2 ^ 24) = true) {A : Act} (hA : Holds N s A) (w : World) :
    (execOp A.eval ⟨d, .buildSlice t n r.toArray, ty, ps, af, g⟩).run P w = .ok (.value (.slice (some ⟨w.heap.size, 0, none⟩) n n)) (w.alloc (.cells cs.toArray e (0, 0))) := by
  obtain ⟨i, z, h1, h2, h3, h4, h5, h6, h7, h8⟩ := hl.ap
  have hparts : (r.toArray.map fun p => (p.1, A.eval p.2)) = vs.toArray := by rw [← hx.eq rfl hA]; simp
  have hb : ¬ 2 ^ 24 < n * sz := by have := Nat.le_of_ble_eq_true hsz; omega
  have hsize : ∀ w, (sizeOf e).run P w = .ok sz w := fun w => by simp [sizeOf, typeInfo, h2, h4]
  have hzero : ∀ w, (zeroValue e).run P w = .ok z w := fun w => by simp [zeroValue, typeInfo, h2, h3]
  simp only [execOp]
  rw [show (r.toArray.map fun (x : Nat × Operand) => match x with | (i, x) => (i, A.eval x)) = vs.toArray from hparts]
  have hcells : n * sz ≠ 0 → ((Array.range (n * sz)).map fun i => zc.toArray[i % sz]!) = zl.toArray := fun h => by
    have := range_zeros zc n (by omega)
    rw [h7] at this
    rw [hr.eq, ← this]
  by_cases h : n * sz = 0
  · have hzl : zl = [] := by
      rw [hr.eq]
      apply List.eq_nil_of_length_eq_zero
      rw [len_reps, h7, h]
    subst hzl
    have he := hfill.eq
    have hr0 : ∀ f : Nat → Value, Array.map f (Array.range (n * sz)) = [].toArray := fun f => by rw [h]; simp
    simp only [Instr.buildSlice, Sem.run_bind, run_underlying h1, Result.andThen_ok, hsize, if_neg hb, if_pos h, Sem.run_pure, hr0, he]
    simp [newRow]
  · have he := hfill.eq
    simp only [Instr.buildSlice, Sem.run_bind, run_underlying h1, Result.andThen_ok, hsize, if_neg hb, if_neg h, hzero, Sem.run_pure, h6, List.size_toArray, h7, hcells h, he]
    simp [newRow]
theorem J.buildSlice {n sz bytes e : Nat} {zc zl cs : List Value} {r : List (Nat × Operand)} {vs : List (Nat × Value)} [hl : TyAp P t e sz bytes zc] (hf : f ≠ .q) (hd : Nat.blt d N = true) (hwt : Wt N ops s g true) (hx : Evp N true s r vs) (hr : Reps zc n zl) (hfill : Fill (fun i => some (i * sz, sz)) zl vs cs) (hsz : Nat.ble (n * sz) (2 ^ 24) = true)
    (K : ∀ G, w0.heap.size ≤ G → J P N w0 ops Q l ((d, .slice (some ⟨G, 0, none⟩) n n) :: s) mo (f.grow [.blk G (.cells cs.toArray e (0, 0))] kk) (.blk G (.cells cs.toArray e (0, 0)) :: m)) : J P N w0 ops Q (.op f ⟨some d, .buildSlice t n r.toArray, ty, ps, af, g⟩ l) s mo kk m :=
  J.new (F := fun G => .slice (some ⟨G, 0, none⟩) n n) hf rfl hd hwt (fun A hA w => run_lit hx hr hfill hsz hA w) K
/-- append of elements that lie in memory, to a row of the call's own. -/
theorem J.appendG {rv : Value} {A : Addr} {n mm cp e sz bytes : Nat} {xs news zc : List Value} {F : Value → List Res} [hl : TyAp P t e sz bytes zc] (hd : Nat.blt d N = true) (hwt : Wt N ops s g true) (hx : EvU N true s x rv) (hy : EvU N true s y (.slice (some A) mm cp))
    (hnews : ∀ w, Mem w0 mo m w → ∀ j u, news[j]? = some u → w.cell? (A.add j) = some u) (h1 : ∀ u ∈ news, u.oneCell' = true) (hlen : news.length = mm * sz) (hroom : (n + mm) * bytes ≤ 140737488355328 ∧ n + mm ≤ maxLen)
    (hm : ∀ v', Upd (.row rv e sz n xs) (.row v' e sz (n + mm) (xs ++ news)) m (F v')) (hk : ∀ v', kk.Sublist (F v'))
    (K : ∀ v', (v' = .slice none 0 0 ↔ rv = .slice none 0 0 ∧ mm = 0) → J P N w0 ops Q l ((d, v') :: s) mo kk (F v')) :
    J P N w0 ops Q (.op .a ⟨some d, .call ⟨.builtin .append, #[x, y], #[t, t]⟩, ty, ps, af, g⟩ l) s mo kk m :=
  J.act (ι := { v' : Value // v' = .slice none 0 0 ↔ rv = .slice none 0 0 ∧ mm = 0 }) (v := fun v' => v'.1) (m' := fun v' => F v'.1) (kk' := fun _ => kk) nofun (fun v' _ => ⟨List.Sublist.refl _, hk v'.1⟩) rfl hd hwt (fun B hB w hw => by
    obtain ⟨i, z, a1, a2, a3, a4, a5, a6, a7, a8⟩ := hl.ap
    obtain ⟨m1, m2, hm1, hm2⟩ := (hm (.slice none 0 0)).split
    have hown : w.ownsRow 0 e sz rv n xs := hw.sat (.row rv e sz n xs) (by rw [hm1]; simp)
    obtain ⟨v', w', r1, r2, r3, r4, r5⟩ := run_append_own_at w 0 t ty e i z sz bytes a1 a2 a3 a4 a5 (by rw [a6]; simpa using a7) a8 rv n xs hown A mm cp news hlen (hnews w hw) h1 hroom.2 hroom.1 (Nat.zero_le _)
    refine eff_of_run (v := v') (w' := w') ?_ ⟨⟨v', r4⟩, rfl, ?_⟩
    · simp only [execOp, resolve]
      simp [invoke, builtin, hx rfl B hB, hy rfl B hB, r1]
    · obtain ⟨k1, k2, hk1, hk2⟩ := (hm v').split
      show Mem w0 mo (F v') w'
      rw [hk2]
      rw [hk1] at hw
      refine hw.turn (fun b hb hat => r3.block b hb fun e => hat e.symm) r2 (fun b hb => ?_) r3.os r3.tape r3.output r3.size
      have hb' : v'.ownBlock = some b := hb
      rcases r5 with r5 | r5
      · exact .inl (by show rv.ownBlock = some b; rw [← r5]; exact hb')
      · rw [r5] at hb'; cases hb'; exact .inr (Nat.le_refl _)) (fun v' => K v'.1 v'.2)
/-- append of a literal's elements. -/
theorem J.append {rv : Value} {G n mm cp e sz bytes e2 : Nat} {xs news zc : List Value} {F : Value → List Res} [hl : TyAp P t e sz bytes zc] (hd : Nat.blt d N = true) (hwt : Wt N ops s g true) (hx : EvU N true s x rv) (hy : EvU N true s y (.slice (some ⟨G, 0, none⟩) mm cp))
    (hlit : .blk G (.cells news.toArray e2 (0, 0)) ∈ m) (h1 : news.all (·.oneCell') = true) (hlen : Nat.beq news.length (mm * sz) = true) (hroom : (n + mm) * bytes ≤ 140737488355328 ∧ n + mm ≤ maxLen)
    (hm : ∀ v', Upd (.row rv e sz n xs) (.row v' e sz (n + mm) (xs ++ news)) m (F v')) (hk : ∀ v', kk.Sublist (F v'))
    (K : ∀ v', (v' = .slice none 0 0 ↔ rv = .slice none 0 0 ∧ mm = 0) → J P N w0 ops Q l ((d, v') :: s) mo kk (F v')) :
    J P N w0 ops Q (.op .a ⟨some d, .call ⟨.builtin .append, #[x, y], #[t, t]⟩, ty, ps, af, g⟩ l) s mo kk m :=
  J.appendG (hl := hl) hd hwt hx hy (fun w hw j u hj => by
    have h2 := hw.sat _ hlit
    rw [add_off, cell_blk h2]; simpa using hj) (fun u hu => (List.all_eq_true.1 h1) u hu) (Nat.eq_of_beq_eq_true hlen) hroom hm hk K
/-- A nil slice is a row of the call's own, too. -/
theorem Mem.nilRow {w : World} (h : Mem w0 mo m w) (e : TypeId) (sz : Nat) : Mem w0 mo (.row (.slice none 0 0) e sz 0 [] :: m) w :=
  h.more (Below.refl _ _) (World.ownsRow_nil w 0 e sz) (fun b hb => by cases hb)
end
end Go.Proofs.Ytdhhjhkonmacdaa
