/- Generic: operations that make or write memory, calls, a function's entering and its end. -/
import Derived.Test.YtdhhjhkonmacdaaSo
namespace Go.Proofs.Ytdhhjhkonmacdaa
open Go.RowKit
set_option linter.unusedVariables false
set_option linter.unusedSimpArgs false

class TyC (P : Program) (t : TypeId) (cs : outParam (List Value)) : Prop where
  zero : ∃ z, (∀ w, (zeroValue t).run P w = .ok z w) ∧ z.cells = cs.toArray
/-- A struct's places: offset and size of each field; the zero cells. -/
class TyB (P : Program) (t : TypeId) (zc : outParam (List Value)) (pl : outParam (List (Nat × Nat))) : Prop where
  build : ∀ (parts : List (Nat × Value)) (cs : Array Value) (w : World), Instr.fill (fun i => pl[i]?) zc.toArray parts = some cs → (Instr.build t parts.toArray).run P w = .ok (.agg cs) w
inductive SetAt (v : Value) : List Value → Nat → List Value → Prop
  | zero {a : Value} {l : List Value} : SetAt v (a :: l) 0 (v :: l)
  | succ {a : Value} {l l' : List Value} {n : Nat} : SetAt v l n l' → SetAt v (a :: l) (n + 1) (a :: l')
theorem SetAt.eq {v : Value} {l l' : List Value} {n : Nat} (h : SetAt v l n l') : l.toArray.setIfInBounds n v = l'.toArray := by
  have : l.set n v = l' := by
    induction h with
    | zero => rfl
    | succ h ih => simp [ih]
  simp [← this]
theorem SetAt.len {v : Value} {l l' : List Value} {n : Nat} (h : SetAt v l n l') : n < l.length ∧ l'.length = l.length := by
  induction h with
  | zero => simp
  | succ h ih => simp [ih]
/-- Several cells from a place on. -/
inductive SetsAt : List Value → List Value → Nat → List Value → Prop
  | nil {l : List Value} {n : Nat} : SetsAt [] l n l
  | cons {v : Value} {vs l l1 l2 : List Value} {n : Nat} : SetAt v l n l1 → SetsAt vs l1 (n + 1) l2 → SetsAt (v :: vs) l n l2
theorem SetsAt.len {vs l l' : List Value} {n : Nat} (h : SetsAt vs l n l') : l'.length = l.length ∧ (vs ≠ [] → n + vs.length ≤ l.length) := by
  induction h with
  | nil => simp
  | cons h1 h2 ih =>
    rename_i v vs l l1 l2 n
    refine ⟨ih.1.trans h1.len.2, fun _ => ?_⟩
    have := h1.len
    cases vs with
    | nil => simp; omega
    | cons a r => have := ih.2 (by simp); simp at this ⊢; omega
theorem SetsAt.eq {vs l l' : List Value} {n : Nat} (h : SetsAt vs l n l') : ∀ k, (vs.zipIdx k).foldl (fun (cs : Array Value) (p : Value × Nat) => cs.setIfInBounds (n - k + p.2) p.1) l.toArray = l'.toArray ∨ n < k := by
  intro k
  rcases Nat.lt_or_ge n k with h' | h'
  · exact .inr h'
  · refine .inl ?_
    induction h generalizing k with
    | nil => rfl
    | cons h1 h2 ih =>
      rename_i v vs l l1 l2 n
      simp only [List.zipIdx_cons, List.foldl_cons]
      rw [show n - k + k = n by omega, h1.eq]
      have := ih (k + 1) (by omega)
      rw [← this]
      congr 1
      funext cs p
      rw [show n + 1 - (k + 1) = n - k by omega]
inductive Fill (pl : Nat → Option (Nat × Nat)) : List Value → List (Nat × Value) → List Value → Prop
  | nil {l : List Value} : Fill pl l [] l
  | one {l l1 l2 : List Value} {i o : Nat} {v : Value} {r : List (Nat × Value)} : pl i = some (o, 1) → v.cells = #[v] → SetAt v l o l1 → Fill pl l1 r l2 → Fill pl l ((i, v) :: r) l2
  | agg {l l1 l2 : List Value} {i o n : Nat} {vs : List Value} {r : List (Nat × Value)} : pl i = some (o, n) → vs.length = n → Nat.ble (o + n) l.length = true → SetsAt vs l o l1 → Fill pl l1 r l2 → Fill pl l ((i, .agg vs.toArray) :: r) l2
theorem Fill.eq {pl : Nat → Option (Nat × Nat)} {l l' : List Value} {ps : List (Nat × Value)} (h : Fill pl l ps l') : Instr.fill pl l.toArray ps = some l'.toArray := by
  induction h with
  | nil => rfl
  | one h1 h2 h3 h4 ih =>
    have := h3.len
    simp only [Instr.fill, h1, h2]
    rw [if_neg (by simp; omega)]
    simp only [Array.zipIdx, List.zipIdx, List.foldl]
    rw [← ih, ← h3.eq]
    simp
  | agg h1 h2 hb h3 h4 ih =>
    rename_i l l1 l2 i o n vs r
    have hb' : o + n ≤ l.length := Nat.le_of_ble_eq_true hb
    have e := (h3.eq 0).resolve_right (by omega)
    simp only [Instr.fill, h1]
    rw [if_neg (by simp [Value.cells]; omega)]
    have e2 : Array.foldl (fun (cs : Array Value) (p : Value × Nat) => cs.setIfInBounds (o + p.2) p.1) l.toArray vs.toArray.zipIdx = l1.toArray := by
      rw [← Array.foldl_toList]; simpa using e
    have e3 : Array.foldl (fun (cs : Array Value) (x : Value × Nat) => match x with | (c, j) => cs.setIfInBounds (o + j) c) l.toArray vs.toArray.zipIdx = l1.toArray := e2
    refine Eq.trans ?_ ih
    rw [← e3]
    rfl
theorem TyB.mk' {P : Program} {t : TypeId} {fs : Array Field} {z : Value} {zc : List Value} {pl : List (Nat × Nat)} (hu : P.underlying t = some (.struct fs)) (hz : ∀ w, (zeroValue t).run P w = .ok z w) (hc : z.cells = zc.toArray)
    (hp : ∀ w, (fs.mapM (m := Sem) fun f => do pure (f.offset, ← sizeOf f.type)).run P w = .ok pl.toArray w) : TyB P t zc pl := ⟨fun parts cs w h => by
  simp only [Instr.build, Sem.run_bind, hz, Result.andThen_ok, run_underlying hu, hp, hc, List.getElem?_toArray, h, Sem.run_pure]⟩

theorem fill_mono {pl pl' : Nat → Option (Nat × Nat)} (h : ∀ i x, pl i = some x → pl' i = some x) : ∀ (ps : List (Nat × Value)) (cs r : Array Value), Instr.fill pl cs ps = some r → Instr.fill pl' cs ps = some r
  | [], cs, r, hf => hf
  | (i, v) :: ps, cs, r, hf => by
    simp only [Instr.fill] at hf ⊢
    cases hp : pl i with
    | none => rw [hp] at hf; cases hf
    | some x =>
      rw [hp] at hf
      rw [h i x hp]
      obtain ⟨o, n⟩ := x
      simp only at hf ⊢
      split at hf
      · cases hf
      · rename_i hc
        rw [if_neg hc]
        exact fill_mono h ps _ r hf
theorem TyB.mkA {P : Program} {t e : TypeId} {n sz : Nat} {z : Value} {zc : List Value} {pl : List (Nat × Nat)} (hu : P.underlying t = some (.array n e)) (hz : ∀ w, (zeroValue t).run P w = .ok z w) (hc : z.cells = zc.toArray) (hs : ∀ w, (sizeOf e).run P w = .ok sz w) (hp : pl = (List.range n).map fun i => (i * sz, sz)) : TyB P t zc pl := ⟨fun parts cs w h => by
  have h2 : Instr.fill (fun i => some (i * sz, sz)) zc.toArray parts = some cs := fill_mono (fun i x hx => by
    subst hp
    rw [List.getElem?_map] at hx
    cases hr : (List.range n)[i]? with
    | none => rw [hr] at hx; cases hx
    | some k =>
      rw [hr] at hx
      obtain ⟨hlt, hk⟩ := List.getElem?_eq_some_iff.1 hr
      simp at hk
      subst hk
      exact hx) parts _ cs h
  simp only [Instr.build, Sem.run_bind, hz, Result.andThen_ok, run_underlying hu, hs, hc, List.getElem?_toArray, h2, Sem.run_pure]⟩

/-! ### making -/
section
variable {P : Program} {N : Nat} {w0 : World} {ops : Array Oper} {Q : Act → World → Prop} {l : Pl Oper} {s : Slots} {mo : List Nat} {kk m m' : List Res} {f : Fl} {v u : Value} {c : Bool} {d : Nat} {x y z : Operand} {ty t : TypeId} {ps : String} {af : Array Edge} {g : Option (Nat × Bool)} {k : IntKind} {a b : Int}
theorem eff_of_run {o : Oper} {A : Act} {w w' : World} {R : Value → World → Prop} (h : (execOp A.eval o).run P w = .ok (.value v) w') (hR : R v w') : effAt P o A w R := by
  unfold effAt; rw [h]; exact hR
theorem eff_of_skip {o : Oper} {A : Act} {w w' : World} {R : Value → World → Prop} (h : (execOp A.eval o).run P w = .ok .skip w') (hR : R undef w') : effAt P o A w R := by
  unfold effAt; rw [h]; exact hR
abbrev pt (G o : Nat) : Value := .pointer (some ⟨G, o, none⟩)
theorem J.new {o : Oper} {F : Nat → Value} {ob : Obj} (hf : f ≠ .q) (ho : o.dst = some d) (hd : Nat.blt d N = true) (hwt : Wt N ops s o.guard true)
    (he : ∀ A, Holds N s A → ∀ w, (execOp A.eval o).run P w = .ok (.value (F w.heap.size)) (w.alloc ob))
    (K : ∀ G, w0.heap.size ≤ G → J P N w0 ops Q l ((d, F G) :: s) mo (f.grow [.blk G ob] kk) (.blk G ob :: m)) : J P N w0 ops Q (.op f o l) s mo kk m :=
  J.grow (ι := { G : Nat // w0.heap.size ≤ G }) (v := fun G => F G.1) (n := fun G => [.blk G.1 ob]) hf ho hd hwt
    (fun A hA w hw => eff_of_run (he A hA w) ⟨⟨w.heap.size, hw.size⟩, rfl, hw.alloc ob⟩) (fun G => K G.1 G.2)
theorem J.box {cs : List Value} (hf : f ≠ .q) (hd : Nat.blt d N = true) (hwt : Wt N ops s g true) (hx : EvU N true s x v) (hv : v.cells = cs.toArray) (K : ∀ G, w0.heap.size ≤ G → J P N w0 ops Q l ((d, pt G 0) :: s) mo (f.grow [.blk G (.cells cs.toArray t (0, 0))] kk) (.blk G (.cells cs.toArray t (0, 0)) :: m)) :
    J P N w0 ops Q (.op f ⟨some d, .box t x, ty, ps, af, g⟩ l) s mo kk m :=
  J.new (F := fun G => pt G 0) hf rfl hd hwt (fun A hA w => by
    simp only [execOp, hx rfl A hA]; simp [Instr.box, newVar, newRow, hv]) K
theorem J.boxA {cs : List Value} (hf : f ≠ .q) (hd : Nat.blt d N = true) (hwt : Wt N ops s g true) (hx : EvU N true s x (.agg cs.toArray)) (K : ∀ G, w0.heap.size ≤ G → J P N w0 ops Q l ((d, pt G 0) :: s) mo (f.grow [.blk G (.cells cs.toArray t (0, 0))] kk) (.blk G (.cells cs.toArray t (0, 0)) :: m)) :
    J P N w0 ops Q (.op f ⟨some d, .box t x, ty, ps, af, g⟩ l) s mo kk m := J.box hf hd hwt hx rfl K
theorem J.box1 (hf : f ≠ .q) (hd : Nat.blt d N = true) (hwt : Wt N ops s g true) (hx : EvU N true s x v) (hv : v.cells = #[v]) (K : ∀ G, w0.heap.size ≤ G → J P N w0 ops Q l ((d, pt G 0) :: s) mo (f.grow [.blk G (.cells [v].toArray t (0, 0))] kk) (.blk G (.cells [v].toArray t (0, 0)) :: m)) :
    J P N w0 ops Q (.op f ⟨some d, .box t x, ty, ps, af, g⟩ l) s mo kk m := J.box (cs := [v]) hf hd hwt hx hv K
theorem J.alloc {cs : List Value} [hz : TyC P t cs] (hf : f ≠ .q) (hd : Nat.blt d N = true) (hwt : Wt N ops s g true) (K : ∀ G, w0.heap.size ≤ G → J P N w0 ops Q l ((d, pt G 0) :: s) mo (f.grow [.blk G (.cells cs.toArray t (0, 0))] kk) (.blk G (.cells cs.toArray t (0, 0)) :: m)) :
    J P N w0 ops Q (.op f ⟨some d, .alloc t, ty, ps, af, g⟩ l) s mo kk m := by
  obtain ⟨z, h1, h2⟩ := hz.zero
  exact J.new (F := fun G => pt G 0) hf rfl hd hwt (fun A hA w => by
    simp only [execOp]; simp [Instr.alloc, newVar, newRow, h1, h2]) K
inductive Evs (N : Nat) (c : Bool) (s : Slots) : List Operand → List Value → Prop
  | nil : Evs N c s [] []
  | cons {x : Operand} {v : Value} {r : List Operand} {vs : List Value} : EvU N c s x v → Evs N c s r vs → Evs N c s (x :: r) (v :: vs)
theorem Evs.eq {r : List Operand} {vs : List Value} (h : Evs N c s r vs) (hc : c = true) {A : Act} (hA : Holds N s A) : r.map A.eval = vs := by
  induction h with
  | nil => rfl
  | cons h1 h2 ih => simp [h1 hc A hA, ih]
inductive Evp (N : Nat) (c : Bool) (s : Slots) : List (Nat × Operand) → List (Nat × Value) → Prop
  | nil : Evp N c s [] []
  | cons {i : Nat} {x : Operand} {v : Value} {r : List (Nat × Operand)} {vs : List (Nat × Value)} : EvU N c s x v → Evp N c s r vs → Evp N c s ((i, x) :: r) ((i, v) :: vs)
theorem Evp.eq {r : List (Nat × Operand)} {vs : List (Nat × Value)} (h : Evp N c s r vs) (hc : c = true) {A : Act} (hA : Holds N s A) : r.map (fun p => (p.1, A.eval p.2)) = vs := by
  induction h with
  | nil => rfl
  | cons h1 h2 ih => simp [h1 hc A hA, ih]
theorem q_build {zc cs : List Value} {pl : List (Nat × Nat)} {r : List (Nat × Operand)} {vs : List (Nat × Value)} {d : Option Tmp} [hb : TyB P t zc pl] (hx : Evp N c s r vs) (hf : Fill (fun i => pl[i]?) zc vs cs) : QV P N w0 c s mo m ⟨d, .build t r.toArray, ty, ps, af, g⟩ (.agg cs.toArray) := fun hc A hA w hw => quiet_of_run (by
  have h1 : (r.toArray.map fun p => (p.1, A.eval p.2)) = vs.toArray := by rw [← hx.eq hc hA]; simp
  simp only [execOp]
  rw [show (r.toArray.map fun (x : Nat × Operand) => match x with | (i, x) => (i, A.eval x)) = vs.toArray from h1]
  simp [hb.build vs cs.toArray w hf.eq])
theorem q_makeFunc {fn : Fn} {first captured : List Operand} {vs us : List Value} {d : Option Tmp} (hx : Evs N c s first vs) (hy : Evs N c s captured us) : QV P N w0 c s mo m ⟨d, .makeFunc fn first.toArray captured.toArray, ty, ps, af, g⟩ (.func fn vs.toArray us.toArray) := fun hc A hA w hw => quiet_of_run (by
  simp only [execOp, Instr.makeFunc]; simp [hx.eq hc hA, hy.eq hc hA])
inductive Upd (r r' : Res) : List Res → List Res → Prop
  | here {m : List Res} : Upd r r' (r :: m) (r' :: m)
  | there {x : Res} {m m' : List Res} : Upd r r' m m' → Upd r r' (x :: m) (x :: m')
theorem Upd.split {r r' : Res} (h : Upd r r' m m') : ∃ m1 m2, m = m1 ++ r :: m2 ∧ m' = m1 ++ r' :: m2 := by
  induction h with
  | here => exact ⟨[], _, rfl, rfl⟩
  | there h ih => obtain ⟨m1, m2, rfl, rfl⟩ := ih; exact ⟨_ :: m1, m2, rfl, rfl⟩
theorem J.store {G o : Nat} {cs cs' : List Value} {e : TypeId} {hs : TyS P t 1 false} (hwt : Wt N ops s g true) (hx : EvU N true s x (pt G o)) (hy : EvU N true s y v) (hv : v.oneCell' = true) (hc : SetAt v cs o cs')
    (hm : Upd (.blk G (.cells cs.toArray e (0, 0))) (.blk G (.cells cs'.toArray e (0, 0))) m m') (hk : kk.Sublist m') (K : J P N w0 ops Q l s mo kk m') : J P N w0 ops Q (.op .a ⟨none, .store t x y, ty, ps, af, g⟩ l) s mo kk m :=
  J.act0 (ι := Unit) (m' := fun _ => m') nofun (fun _ _ => hk) rfl hwt (fun A hA w hw => by
    obtain ⟨m1, m2, rfl, rfl⟩ := hm.split
    have hb : w.heap[G]? = some (.cells cs.toArray e (0, 0)) := hw.sat (.blk G (.cells cs.toArray e (0, 0))) (by simp)
    have hlt := hc.len.1
    have hcl : w.cell? ⟨G, o, none⟩ = some (cs[o]'hlt) := by rw [cell_blk hb]; simp [hlt]
    have hfz : w.frozen? ⟨G, o, none⟩ = false := by simp [World.frozen?, hb]
    have h2 := hw.store o v
    rw [hc.eq] at h2
    refine eff_of_skip ?_ ⟨(), h2⟩
    simp only [execOp, hx rfl A hA, hy rfl A hA]
    have hvc : v.cells = #[v] := by cases v <;> simp [Value.oneCell'] at hv <;> rfl
    simp [Instr.storeAt, Instr.sureAddr, storeVar, hvc, hs.size, storeCells, add_zero, run_store P w _ v .plain hv, hcl, hfz]) (fun _ => K)
end

/-! ### calls -/
section
variable {P : Program} {N : Nat} {w0 : World} {ops : Array Oper} {Q : Act → World → Prop} {l : Pl Oper} {s : Slots} {mo : List Nat} {kk m m' : List Res} {f : Fl} {v u : Value} {c : Bool} {d : Nat} {x y z : Operand} {ty t : TypeId} {ps : String} {af : Array Edge} {g : Option (Nat × Bool)} {k : IntKind} {a b : Int}
theorem run_callv {F : FuncId} [hF : FnC P F] {args : List Operand} {at_ : Array TypeId} {first cap vs : List Value} {A : Act} {w : World} {d : Option Tmp} (hx : A.eval x = .func (.func F) first.toArray cap.toArray) (ha : args.map A.eval = vs) :
    (execOp A.eval ⟨d, .call ⟨.value x, args.toArray, at_⟩, ty, ps, af, g⟩).run P w = .ok (.enter F (first ++ vs ++ cap).toArray) w := by
  simp only [execOp, resolve, hx, Deferred.ofValue]
  simp [ha, invoke, hF.call]
theorem q_call {F : FuncId} [hF : FnC P F] {args : List Operand} {at_ : Array TypeId} {first cap vs full : List Value} {d : Option Tmp} (hx : EvU N c s x (.func (.func F) first.toArray cap.toArray)) (ha : Evs N c s args vs) (hfull : first ++ vs ++ cap = full)
    (hcall : ∀ w, Mem w0 mo m w → Calls P F full.toArray w (fun e w' => e = .returned v ∧ Below w.heap.size w w')) : QV P N w0 c s mo m ⟨d, .call ⟨.value x, args.toArray, at_⟩, ty, ps, af, g⟩ v := fun hc A hA w hw => by
  unfold Oper.quietAt
  rw [run_callv (hx hc A hA) (ha.eq hc hA), hfull]
  exact ⟨rfl, (hcall w hw).mono fun e w' ⟨h1, h2⟩ => ⟨h1, h2⟩⟩
/-- A call whose answer is told by x; what it adds or turns in memory. -/
theorem J.callA {ι : Type} {F : FuncId} [hF : FnC P F] {args : List Operand} {at_ : Array TypeId} {first cap vs full : List Value} {r : ι → Value} {m' : ι → List Res} (hd : Nat.blt d N = true) (hwt : Wt N ops s g true) (hx : EvU N true s x (.func (.func F) first.toArray cap.toArray)) (ha : Evs N true s args vs) (hfull : first ++ vs ++ cap = full)
    (hcall : ∀ w, Mem w0 mo m w → Calls P F full.toArray w (fun e w' => ∃ i, e = .returned (r i) ∧ Mem w0 mo (m' i) w')) (hk : ∀ i, kk.Sublist (m' i)) (K : ∀ i, J P N w0 ops Q l ((d, r i) :: s) mo kk (m' i)) :
    J P N w0 ops Q (.op .a ⟨some d, .call ⟨.value x, args.toArray, at_⟩, ty, ps, af, g⟩ l) s mo kk m :=
  J.act (kk' := fun _ => kk) nofun (fun i _ => ⟨List.Sublist.refl _, hk i⟩) rfl hd hwt (fun A hA w hw => by
    unfold effAt
    rw [run_callv (hx rfl A hA) (ha.eq rfl hA), hfull]
    exact (hcall w hw).mono fun e w' ⟨i, h1, h2⟩ => ⟨r i, h1, i, rfl, h2⟩) K

/-! ### a function's beginning and end -/
def slotsFrom : Nat → List Value → Slots
  | _, [] => []
  | i, v :: r => (i, v) :: slotsFrom (i + 1) r
theorem look_from : ∀ (vs : List Value) (i j : Nat) (v : Value), look (slotsFrom i vs) j = some v → i ≤ j ∧ vs[j - i]? = some v
  | [], i, j, v, h => by simp [slotsFrom, look] at h
  | u :: r, i, j, v, h => by
    rw [slotsFrom, look_cons] at h
    by_cases e : i = j
    · subst e; simp at h; subst h; simp
    · rw [if_neg e] at h
      obtain ⟨h1, h2⟩ := look_from r (i + 1) j v h
      refine ⟨by omega, ?_⟩
      rw [show j - i = (j - (i + 1)) + 1 by omega]
      simpa using h2
inductive SlotsF : Nat → List Value → Slots → Prop
  | nil {i : Nat} : SlotsF i [] []
  | cons {i j : Nat} {v : Value} {r : List Value} {s : Slots} : i + 1 = j → SlotsF j r s → SlotsF i (v :: r) ((i, v) :: s)
theorem SlotsF.eq {i : Nat} {vs : List Value} {s : Slots} (h : SlotsF i vs s) : slotsFrom i vs = s := by
  induction h with
  | nil => rfl
  | cons hj h ih => subst hj; simp [slotsFrom, ih]
theorem enterM {F : FuncId} {fn : Func} {cd : Code} {args : List Value} {R : Ending → World → Prop} {s : Slots} (hf : P.funcs[F]? = some fn) (hb : fn.body = some cd) (hn : fn.ntmps = N) (hl : Nat.ble args.length N = true) (hs : SlotsF 0 args s) (hm : Mem w0 mo m w0)
    (h : G P N w0 (bodyPost P fn R) cd s mo m) : Calls P F args.toArray w0 R := by
  refine calls_of_wp hf hb ?_
  have hl' : args.length ≤ N := Nat.le_of_ble_eq_true hl
  refine h _ _ ⟨rfl, by simp [hn]; omega, fun i v hi => ?_⟩ hm
  rw [← hs.eq] at hi
  obtain ⟨_, h2⟩ := look_from args 0 i v hi
  have hlt := (List.getElem?_eq_some_iff.1 h2).1
  have h3 : args[i] = v := by simpa using (List.getElem?_eq_some_iff.1 h2).2
  simp at hlt
  simp [Array.getD_eq_getD_getElem?, Array.getElem?_append, hlt, h3]
theorem enter {F : FuncId} {fn : Func} {cd : Code} {args : List Value} {R : Ending → World → Prop} {s : Slots} (hf : P.funcs[F]? = some fn) (hb : fn.body = some cd) (hn : fn.ntmps = N)
    (h : G P N w0 (bodyPost P fn R) cd s [] []) (hl : Nat.ble args.length N = true := by rfl) (hs : SlotsF 0 args s := by repeat (first | exact SlotsF.nil | apply SlotsF.cons rfl)) : Calls P F args.toArray w0 R := enterM hf hb hn hl hs (Mem.start w0) h
theorem Mem.track (w : World) (G : Nat) (o : Obj) (h : w.heap[G]? = some o) : Mem w [G] [.blk G o] w :=
  ⟨rfl, rfl, rfl, Nat.le_refl _, fun _ _ _ => rfl, fun r hr => by simp at hr; subst hr; exact h, fun r hr b hb => by simp at hr; subst hr; cases hb; simp, by simp⟩
theorem Fin.ret0 {fn : Func} {R : Ending → World → Prop} (hr : fn.results = #[]) (h : ∀ w, Mem w0 mo m w → R (.returned (.tuple #[])) w) : Fin N w0 (bodyPost P fn R) .ret s mo m := fun a w ha hw =>
  ⟨ha.defers, _, results_none hr _ _ _, h w hw⟩
theorem Fin.end0 {fn : Func} {R : Ending → World → Prop} (hr : fn.results = #[]) (h : ∀ w, Mem w0 mo m w → R (.returned (.tuple #[])) w) : Fin N w0 (bodyPost P fn R) .normal s mo m := fun a w ha hw =>
  ⟨ha.defers, _, results_none hr _ _ _, h w hw⟩
theorem Fin.ret1 {fn : Func} {R : Ending → World → Prop} {t : Tmp} (hr : fn.results = #[.tmp t]) (hv : look s t = some v) (h : ∀ w, Mem w0 mo m w → R (.returned v) w) : Fin N w0 (bodyPost P fn R) .ret s mo m := fun a w ha hw =>
  ⟨ha.defers, _, results_tmp hr _ _ _, by rw [ha.slot _ _ hv]; exact h w hw⟩
theorem Fin.ret2 {fn : Func} {R : Ending → World → Prop} {t1 t2 : Tmp} {v1 v2 : Value} (hr : fn.results = #[.tmp t1, .tmp t2]) (hv1 : look s t1 = some v1) (hv2 : look s t2 = some v2) (h : ∀ w, Mem w0 mo m w → R (.returned (.tuple #[v1, v2])) w) : Fin N w0 (bodyPost P fn R) .ret s mo m := fun a w ha hw =>
  ⟨ha.defers, _, results_tmp2 hr _ _ _, by rw [ha.slot _ _ hv1, ha.slot _ _ hv2]; exact h w hw⟩
theorem Fin.ret3 {fn : Func} {R : Ending → World → Prop} {t1 t2 t3 : Tmp} {v1 v2 v3 : Value} (hr : fn.results = #[.tmp t1, .tmp t2, .tmp t3]) (hv1 : look s t1 = some v1) (hv2 : look s t2 = some v2) (hv3 : look s t3 = some v3) (h : ∀ w, Mem w0 mo m w → R (.returned (.tuple #[v1, v2, v3])) w) : Fin N w0 (bodyPost P fn R) .ret s mo m := fun a w ha hw =>
  ⟨ha.defers, .tuple #[v1, v2, v3], by simp only [results, hr]; simp [← ha.slot _ _ hv1, ← ha.slot _ _ hv2, ← ha.slot _ _ hv3], h w hw⟩
end

end Go.Proofs.Ytdhhjhkonmacdaa
