/- Generic: more operations: conversions, bits, max and min, comparing structs, maps; results that lie in memory. -/
import Derived.Test.YtdhhjhkonmacdaaSr
import Derived.Laws.StructEq
import Derived.ChangeKeysEq
import Derived.MapKept
namespace Go.Proofs.Ytdhhjhkonmacdaa
open Go.RowKit
set_option linter.unusedVariables false
set_option linter.unusedSimpArgs false

/-- A struct's fields, and that it may be compared. -/
class TyQ (P : Program) (t : TypeId) (fs : outParam (List Field)) : Prop where
  und : P.underlying t = some (.struct fs.toArray)
  held : P.stoodInHeld t = false
  guard : P.eqGuardType P.depth t = false
/-- Two structs, field by field: are they the same? -/
inductive FEq (P : Program) (xs ys : List Value) : List Field → Bool → Prop
  | nil : FEq P xs ys [] true
  | int {f : Field} {fs : List Field} {k k' : IntKind} {a b : Int} {n : Nat} {r : Bool} : TyU P f.type (.int k') → TyS P f.type n false → (f.name == "_") = false → Nth (.int k a) xs f.offset → Nth (.int k b) ys f.offset → FEq P xs ys fs r → FEq P xs ys (f :: fs) (decide (a = b) && r)
  | bool {f : Field} {fs : List Field} {a b : Bool} {n : Nat} {r : Bool} : TyU P f.type .bool → TyS P f.type n false → (f.name == "_") = false → Nth (.bool a) xs f.offset → Nth (.bool b) ys f.offset → FEq P xs ys fs r → FEq P xs ys (f :: fs) ((a == b) && r)
  | str {f : Field} {fs : List Field} {a b : ByteArray} {n : Nat} {r : Bool} : TyU P f.type .string → TyS P f.type n false → (f.name == "_") = false → Nth (.string a) xs f.offset → Nth (.string b) ys f.offset → FEq P xs ys fs r → FEq P xs ys (f :: fs) ((a.toList == b.toList) && r)
theorem run_part1 {P : Program} {w : World} {t : TypeId} {n o : Nat} {xs : List Value} {v : Value} (hs : TyS P t n false) (h : xs[o]? = some v) : (part t xs.toArray o).run P w = .ok v w := by
  simp [part, hs.agg, h]
theorem FEq.run {P : Program} {xs ys : List Value} {fs : List Field} {r : Bool} (h : FEq P xs ys fs r) (d : Nat) (w : World) : (Op.eqFields (d + 1) xs.toArray ys.toArray fs).run P w = .ok r w := by
  induction h with
  | nil => simp [Op.eqFields]
  | int hu hs hn h1 h2 h3 ih =>
    have hn' := by simpa using hn
    rename_i a b n r
    have hd : (a == b) = decide (a = b) := by rfl
    by_cases hab : a = b <;> simp [Op.eqFields, hn', run_part1 hs h1.get, run_part1 hs h2.get, run_equalIn_int w d _ _ _ _ _ hu.und, hab, ih]
  | bool hu hs hn h1 h2 h3 ih =>
    have hn' := by simpa using hn
    rename_i a b n r
    cases hab : a == b <;> simp [Op.eqFields, hn', run_part1 hs h1.get, run_part1 hs h2.get, run_equalIn_bool' w d _ _ _ hu.und, hab, ih]
  | str hu hs hn h1 h2 h3 ih =>
    have hn' := by simpa using hn
    rename_i a b n r
    cases hab : a.toList == b.toList <;> simp [Op.eqFields, hn', run_part1 hs h1.get, run_part1 hs h2.get, run_equalIn_string w d _ _ _ hu.und, hab, ih]
theorem run_eqStruct {P : Program} {t : TypeId} {fs : List Field} {xs ys : List Value} {r : Bool} [hq : TyQ P t fs] (h : FEq P xs ys fs r) (w : World) : (Op.equalIn 10000 t (.agg xs.toArray) (.agg ys.toArray)).run P w = .ok r w := by
  have hf : P.fieldsOf t = fs.toArray := by simp [Program.fieldsOf, hq.und]
  rw [run_equalIn_struct w 9999 t _ _ (by rw [hf]; exact hq.und) hq.held, hf]
  exact h.run 9998 w

/-- Keys of a map's type. -/
class MapK (P : Program) (kt : TypeId) (K : outParam (Value → Prop)) : Prop where
  check : ∀ em k w, K k → (Instr.checkKey em 10000 kt k).run P w = .ok () w
  find : ∀ k (l : List MapEntry) w, K k → (∀ e ∈ l, K e.key) → ∃ r, (Instr.findKey kt k l).run P w = .ok r w ∧ ((r = none ∧ ∀ e ∈ l, e.key ≠ k) ∨ ∃ i e, r = some (i, e.val) ∧ l[i]? = some e ∧ e.key = k)
theorem MapK.simple {P : Program} {kt : TypeId} {d : TypeDesc} (hd : P.underlying kt = some d) : MapK P kt (MapKept.IsKey d) := ⟨fun em k w hk => MapKept.run_checkKey hd hk em 9999, fun k l w hk hl => by
  rcases MapKept.findNow_spec hk l 0 hl with ⟨h1, h2⟩ | ⟨j, e, h1, h2, h3⟩
  · exact ⟨none, MapKept.run_findKey hd h1, .inl ⟨rfl, h2⟩⟩
  · exact ⟨some (j, e.val), by simpa using MapKept.run_findKey (P := P) (w := w) hd h1, .inr ⟨j, e, rfl, h2, h3⟩⟩⟩
theorem findAsking_spec {P : Program} {kt : TypeId} {K : Value → Prop} (heq : ∀ x y w, K x → K y → ∃ r, (Op.equal kt x y).run P w = .ok r w ∧ (r = true ↔ x = y)) {k : Value} (hk : K k) (w : World) : ∀ (l : List MapEntry) (i : Nat), (∀ e ∈ l, K e.key) →
    ∃ r, (Instr.findAsking kt k l i).run P w = .ok r w ∧ ((r = none ∧ ∀ e ∈ l, e.key ≠ k) ∨ ∃ j e, r = some (i + j, e.val) ∧ l[j]? = some e ∧ e.key = k)
  | [], i, _ => ⟨none, by simp [Instr.findAsking], .inl ⟨rfl, by simp⟩⟩
  | e :: es, i, hl => by
    obtain ⟨b, hb, hiff⟩ := heq k e.key w hk (hl e (.head _))
    cases b with
    | true => exact ⟨some (i, e.val), by simp [Instr.findAsking, hb], .inr ⟨0, e, rfl, rfl, (hiff.1 rfl).symm⟩⟩
    | false =>
      have hne : e.key ≠ k := fun q => by have := hiff.2 q.symm; cases this
      obtain ⟨r, h1, h2⟩ := findAsking_spec heq hk w es (i + 1) (fun x hx => hl x (.tail _ hx))
      refine ⟨r, by simp [Instr.findAsking, hb, h1], ?_⟩
      rcases h2 with ⟨h2, h3⟩ | ⟨j, e', h2, h3, h4⟩
      · exact .inl ⟨h2, fun x hx => by
          cases hx with
          | head => exact hne
          | tail _ hx => exact h3 x hx⟩
      · exact .inr ⟨j + 1, e', by rw [h2]; congr 2; omega, by simpa using h3, h4⟩
def IsPair (k : IntKind) (v : Value) : Prop := ∃ a b, v = .agg [.int k a, .int k b].toArray
theorem MapK.pair {P : Program} {kt e : TypeId} {k : IntKind} {i : TypeInfo} (hu : P.underlying kt = some (.array 2 e)) (he : P.underlying e = some (.int k)) (hs : TyS P e 1 false) (hi : P.info? e = some i) : MapK P kt (IsPair k) := by
  have hc : P.cellsOf e = 1 := by
    have h1 := hs.size default
    rw [run_sizeOf default hi] at h1
    simpa using h1
  have heq : ∀ x y w, IsPair k x → IsPair k y → ∃ r, (Op.equal kt x y).run P w = .ok r w ∧ (r = true ↔ x = y) := by
    rintro x y w ⟨a, b, rfl⟩ ⟨c, d, rfl⟩
    refine ⟨decide (a = c) && decide (b = d), ?_, ?_⟩
    · show (Op.equalIn (9999 + 1) _ _ _).run P w = _
      rw [run_equalIn_array w 9999 _ _ hu hi]
      have p1 := run_part1 (P := P) (w := w) (o := 0) (xs := [.int k a, .int k b]) (v := .int k a) hs (by simp)
      have p2 := run_part1 (P := P) (w := w) (o := 1) (xs := [.int k a, .int k b]) (v := .int k b) hs (by simp)
      have p3 := run_part1 (P := P) (w := w) (o := 0) (xs := [.int k c, .int k d]) (v := .int k c) hs (by simp)
      have p4 := run_part1 (P := P) (w := w) (o := 1) (xs := [.int k c, .int k d]) (v := .int k d) hs (by simp)
      have e1 : ∀ a b, (Op.equalIn 9999 e (.int k a) (.int k b)).run P w = .ok (a == b) w := fun a b => run_equalIn_int w 9998 _ _ _ _ _ he
      have hl : List.range 2 = [0, 1] := rfl
      rw [hl, hc]
      simp only [Op.eqItems, Sem.run_bind, hc, Nat.zero_mul, Nat.one_mul, p1, p2, p3, p4, Result.andThen_ok, e1]
      by_cases h1 : a = c
      · subst h1
        by_cases h2 : b = d
        · subst h2; simp [p2, e1]
        · simp [p2, p4, e1, h2]
      · simp [h1]
    · simp
  refine ⟨?_, ?_⟩
  · rintro em _ w ⟨a, b, rfl⟩
    have p1 := run_part1 (P := P) (w := w) (o := 0) (xs := [.int k a, .int k b]) (v := .int k a) hs (by simp)
    have p2 := run_part1 (P := P) (w := w) (o := 1) (xs := [.int k a, .int k b]) (v := .int k b) hs (by simp)
    have c1 : ∀ z, (Instr.checkKey em 9999 e (.int k z)).run P w = .ok () w := fun z => by
      show (Instr.checkKey em (9998 + 1) _ _).run P w = _
      unfold Instr.checkKey
      simp only [Sem.run_bind, run_underlying he, Result.andThen_ok]
      rfl
    show (Instr.checkKey em (9999 + 1) _ _).run P w = _
    unfold Instr.checkKey
    simp only [Sem.run_bind, run_underlying hu, Result.andThen_ok]
    simp [Std.Legacy.Range.forIn_eq_forIn_range', Std.Legacy.Range.size, List.range', hs.size, p1, p2, c1]
  · rintro x l w hx hl
    unfold Instr.findKey
    simp only [Sem.run_bind, run_underlying hu, Result.andThen_ok]
    cases l with
    | nil => exact ⟨none, by simp [Instr.findNow], .inl ⟨rfl, by simp⟩⟩
    | cons e' es =>
      have h0 : Instr.findNow (.array 2 e) x (e' :: es) 0 = none := by
        obtain ⟨a, b, rfl⟩ := hx
        rfl
      rw [h0]
      obtain ⟨r, h1, h2⟩ := findAsking_spec (P := P) heq hx w (e' :: es) 0 hl
      refine ⟨r, h1, ?_⟩
      rcases h2 with h2 | ⟨j, e'', h2, h3⟩
      · exact .inl h2
      · exact .inr ⟨j, e'', by simpa using h2, h3⟩
/-- What is at a key among a map's entries. -/
def Found (l : List (Value × Value)) (k : Value) (r : Option Value) : Prop := ∀ v, (k, v) ∈ l ↔ r = some v
section
variable {P : Program} {N : Nat} {w0 : World} {ops : Array Oper} {Q : Act → World → Prop} {l : Pl Oper} {s : Slots} {mo : List Nat} {kk m m' : List Res} {f : Fl} {v u : Value} {c : Bool} {d : Option Tmp} {x y z : Operand} {ty t : TypeId} {ps : String} {af : Array Edge} {g : Option (Nat × Bool)} {k : IntKind} {a b : Int} {at_ : Array TypeId}
theorem q_conv {src dst : TypeId} {ds : TypeDesc} {k2 : IntKind} [h1 : TyU P src ds] [h2 : TyU P dst (.int k)] (hx : EvU N c s x (.int k2 a)) : QV P N w0 c s mo m ⟨d, .convert src dst x, ty, ps, af, g⟩ (.int k (k.wrap a)) := fun hc A hA w hw => quiet_of_run (by
  simp only [execOp, hx hc A hA]
  simp [convert, run_underlying h1.und, run_underlying h2.und, Conv.intToInt])
theorem q_convN {src dst : TypeId} {ds : TypeDesc} {k2 : IntKind} [h1 : TyU P src ds] [h2 : TyU P dst (.int k)] (hx : EvU N c s x (.int k2 a)) (h : c = true → k.wrap a = a) : QV P N w0 c s mo m ⟨d, .convert src dst x, ty, ps, af, g⟩ (.int k a) := fun hc A hA w hw => by
  have := q_conv (P := P) (w0 := w0) (mo := mo) (m := m) (d := d) (ty := ty) (ps := ps) (af := af) (g := g) (src := src) (dst := dst) (ds := ds) hx hc A hA w hw
  rwa [h hc] at this
theorem q_convS {src dst : TypeId} {ds : TypeDesc} {p : ByteArray} [h1 : TyU P src ds] [h2 : TyU P dst .string] (hx : EvU N c s x (.string p)) : QV P N w0 c s mo m ⟨d, .convert src dst x, ty, ps, af, g⟩ (.string p) := fun hc A hA w hw => quiet_of_run (by
  simp only [execOp, hx hc A hA]
  simp [convert, run_underlying h1.und, run_underlying h2.und])
/-- The bits of both. -/
def band (k : IntKind) (a b : Int) : Int := k.wrap ((BitVec.ofInt k.bits a &&& BitVec.ofInt k.bits b).toNat : Int)
def bor (k : IntKind) (a b : Int) : Int := k.wrap ((BitVec.ofInt k.bits a ||| BitVec.ofInt k.bits b).toNat : Int)
theorem q_band {ty2 : TypeId} (hx : EvU N c s x (.int k a)) (hy : EvU N c s y (.int k b)) : QV P N w0 c s mo m ⟨d, .binOp .and t x y ty2, ty, ps, af, g⟩ (.int k (band k a b)) := fun hc A hA w hw => quiet_of_run (by
  simp only [execOp, hx hc A hA, hy hc A hA]; simp [eqGuard, binOp, Op.intBits, band])
theorem q_bor {ty2 : TypeId} (hx : EvU N c s x (.int k a)) (hy : EvU N c s y (.int k b)) : QV P N w0 c s mo m ⟨d, .binOp .or t x y ty2, ty, ps, af, g⟩ (.int k (bor k a b)) := fun hc A hA w hw => quiet_of_run (by
  simp only [execOp, hx hc A hA, hy hc A hA]; simp [eqGuard, binOp, Op.intBits, bor])
def imax (a b : Int) : Int := if b > a then b else a
def imin (a b : Int) : Int := if b < a then b else a
theorem q_max2 (hx : EvU N c s x (.int k a)) (hy : EvU N c s y (.int k b)) : QV P N w0 c s mo m ⟨d, .call ⟨.builtin .max, #[x, y], at_⟩, ty, ps, af, g⟩ (.int k (imax a b)) := fun hc A hA w hw => quiet_of_run (by
  simp only [execOp, resolve]
  simp [invoke, builtin, Builtin.max_, Builtin.max2, hx hc A hA, hy hc A hA, imax])
theorem q_min2 (hx : EvU N c s x (.int k a)) (hy : EvU N c s y (.int k b)) : QV P N w0 c s mo m ⟨d, .call ⟨.builtin .min, #[x, y], at_⟩, ty, ps, af, g⟩ (.int k (imin a b)) := fun hc A hA w hw => quiet_of_run (by
  simp only [execOp, resolve]
  simp [invoke, builtin, Builtin.min_, Builtin.min2, hx hc A hA, hy hc A hA, imin])
theorem q_max4 {x1 x2 x3 x4 : Operand} {a1 a2 a3 a4 : Int} (h1 : EvU N c s x1 (.int k a1)) (h2 : EvU N c s x2 (.int k a2)) (h3 : EvU N c s x3 (.int k a3)) (h4 : EvU N c s x4 (.int k a4)) : QV P N w0 c s mo m ⟨d, .call ⟨.builtin .max, #[x1, x2, x3, x4], at_⟩, ty, ps, af, g⟩ (.int k (imax (imax (imax a1 a2) a3) a4)) := fun hc A hA w hw => quiet_of_run (by
  simp only [execOp, resolve]
  simp [invoke, builtin, Builtin.max_, Builtin.max2, h1 hc A hA, h2 hc A hA, h3 hc A hA, h4 hc A hA, imax])
theorem q_eqlX {ty2 : TypeId} {fs : List Field} {xs ys : List Value} {r : Bool} [hq : TyQ P t fs] (hx : EvU N c s x (.agg xs.toArray)) (hy : EvU N c s y (.agg ys.toArray)) (hr : FEq P xs ys fs r) : QV P N w0 c s mo m ⟨d, .binOp .eql t x y ty2, ty, ps, af, g⟩ (.bool r) := fun hc A hA w hw => quiet_of_run (by
  simp only [execOp, hx hc A hA, hy hc A hA]
  simp [run_eqGuard_agg _ _ _ _ _ _ _ hq.guard, run_eql_struct, run_eqStruct hr])
theorem q_neqX {ty2 : TypeId} {fs : List Field} {xs ys : List Value} {r : Bool} [hq : TyQ P t fs] (hx : EvU N c s x (.agg xs.toArray)) (hy : EvU N c s y (.agg ys.toArray)) (hr : FEq P xs ys fs r) : QV P N w0 c s mo m ⟨d, .binOp .neq t x y ty2, ty, ps, af, g⟩ (.bool (!r)) := fun hc A hA w hw => quiet_of_run (by
  simp only [execOp, hx hc A hA, hy hc A hA]
  simp [run_eqGuard_agg _ _ _ _ _ _ _ hq.guard, run_neq_struct, run_eqStruct hr])
/-! maps -/
theorem Found.of {α β : Type} {l : List (α × β)} {ek : α → Value} {eb : β → Value} (hinj : ∀ a b, ek a = ek b → a = b) [DecidableEq α] (hnd : (l.map (·.1)).Nodup) (k : α) : Found (l.map fun p => (ek p.1, eb p.2)) (ek k) (((l.find? fun p => decide (p.1 = k)).map (·.2)).map eb) := fun v => by
  induction l with
  | nil => simp
  | cons p r ih =>
    rw [List.map_cons, List.nodup_cons] at hnd
    by_cases h : p.1 = k
    · have : ∀ q ∈ r, q.1 ≠ k := fun q hq e => hnd.1 (by rw [h, ← e]; exact List.mem_map_of_mem (f := (·.1)) hq)
      simp only [List.map_cons, List.mem_cons, Prod.mk.injEq, List.find?_cons, h, decide_true]
      constructor
      · rintro (⟨_, rfl⟩ | hm)
        · rfl
        · obtain ⟨q, hq, he⟩ := List.mem_map.1 hm
          exact absurd (hinj _ _ (congrArg Prod.fst he)) (this q hq)
      · intro he; simp at he; exact .inl ⟨trivial, he.symm⟩
    · have hne : ek k ≠ ek p.1 := fun e => h (hinj _ _ e.symm)
      simp only [List.map_cons, List.mem_cons, Prod.mk.injEq, List.find?_cons, h, decide_false, hne, false_and, false_or]
      exact ih hnd.2
theorem q_lookup {G : Nat} {es : List (Value × Value)} {kt et : TypeId} {K : Value → Prop} {z : Value} {r : Option Value} [hu : TyU P t (.map kt et)] [hk : MapK P kt K] (hz : ∀ w, (zeroValue et).run P w = .ok z w) (hx : EvU N c s x (.map (some G))) (hy : EvU N c s y v) (hm : Res.mp G es ∈ m) (hK : ∀ p ∈ es, K p.1) (hv : K v) (hf : Found es v r) :
    QV P N w0 c s mo m ⟨d, .lookup t x y true, ty, ps, af, g⟩ (.tuple #[r.getD z, .bool r.isSome]) := fun hc A hA w hw => quiet_of_run (by
  obtain ⟨ms, clock, h1, h2⟩ := hw.sat _ hm
  have hKe : ∀ e ∈ ms.toList, K e.key := fun e he => hK (e.key, e.val) (h2.mem_iff.1 (List.mem_map_of_mem (f := fun e : MapEntry => (e.key, e.val)) he))
  obtain ⟨o, h3, h4⟩ := hk.find v ms.toList w hv hKe
  simp only [execOp, hx hc A hA, hy hc A hA]
  rcases h4 with ⟨rfl, h4⟩ | ⟨i, e, rfl, h5, h6⟩
  · have hr : r = none := by
      cases r with
      | none => rfl
      | some u =>
        have h7 := (hf u).2 rfl
        obtain ⟨e, he, heq⟩ := List.mem_map.1 (h2.mem_iff.2 h7)
        exact absurd (congrArg Prod.fst heq) (h4 e he)
    simp [Instr.lookup, run_underlying hu.und, MapKept.run_getObj_map h1, hk.check _ v w hv, h3, hz, hr]
  · have hr : r = some e.val := by
      refine (hf e.val).1 ?_
      have := h2.mem_iff.1 (List.mem_map_of_mem (f := fun e : MapEntry => (e.key, e.val)) (List.mem_of_getElem? h5))
      rwa [h6] at this
    simp [Instr.lookup, run_underlying hu.und, MapKept.run_getObj_map h1, hk.check _ v w hv, h3, hr])
theorem q_lookupS {G : Nat} {es : List (Value × Value)} {kt et : TypeId} {K : Value → Prop} {zc : List Value} [hu : TyU P t (.map kt et)] [hk : MapK P kt K] [hz : TyC P et zc] (hx : EvU N c s x (.map (some G))) (hy : EvU N c s y v) (hm : Res.mp G es ∈ m) (hf : Found es v (some u)) (hK : ∀ p ∈ es, K p.1) (hv : K v) :
    QV P N w0 c s mo m ⟨d, .lookup t x y true, ty, ps, af, g⟩ (.tuple #[u, .bool true]) := by
  obtain ⟨z, h1, h2⟩ := hz.zero
  exact q_lookup h1 hx hy hm hK hv hf
/-- The zero value itself. -/
class TyV (P : Program) (t : TypeId) (z : outParam Value) : Prop where
  zero : ∀ w, (zeroValue t).run P w = .ok z w
theorem q_lookupN {G : Nat} {es : List (Value × Value)} {kt et : TypeId} {K : Value → Prop} {z : Value} [hu : TyU P t (.map kt et)] [hk : MapK P kt K] [hz : TyV P et z] (hx : EvU N c s x (.map (some G))) (hy : EvU N c s y v) (hm : Res.mp G es ∈ m) (hf : Found es v none) (hK : ∀ p ∈ es, K p.1) (hv : K v) :
    QV P N w0 c s mo m ⟨d, .lookup t x y true, ty, ps, af, g⟩ (.tuple #[z, .bool false]) := q_lookup hz.zero hx hy hm hK hv hf
end
section
variable {P : Program} {N : Nat} {w0 : World} {ops : Array Oper} {Q : Act → World → Prop} {l : Pl Oper} {s : Slots} {mo : List Nat} {kk m m' : List Res} {f : Fl} {v u : Value} {c : Bool} {d : Nat} {x y z : Operand} {ty t : TypeId} {ps : String} {af : Array Edge} {g : Option (Nat × Bool)} {k : IntKind} {a b : Int} {at_ : Array TypeId}
theorem J.makeMap (hd : Nat.blt d N = true) (hwt : Wt N ops s g true) (K : ∀ G, w0.heap.size ≤ G → J P N w0 ops Q l ((d, .map (some G)) :: s) mo kk (.mp G [] :: m)) : J P N w0 ops Q (.op .a ⟨some d, .makeMap t none, ty, ps, af, g⟩ l) s mo kk m :=
  J.act (ι := { G : Nat // w0.heap.size ≤ G }) (v := fun G => .map (some G.1)) (m' := fun G => .mp G.1 [] :: m) (kk' := fun _ => kk) nofun (fun G h => ⟨List.Sublist.refl _, h.trans (List.sublist_cons_self _ _)⟩) rfl hd hwt (fun A hA w hw => by
    refine eff_of_run (v := .map (some w.heap.size)) (w' := w.alloc (.map #[] 0)) ?_ ⟨⟨w.heap.size, hw.size⟩, rfl, ?_⟩
    · simp only [execOp]; simp [Instr.makeMap]
    · exact hw.more ((Below.refl _ _).alloc (Nat.le_refl _) _) ⟨#[], 0, show (w.heap.push _)[w.heap.size]? = _ by simp, by simp⟩ (fun b hb => by cases hb; exact Nat.le_refl _)) (fun G => K G.1 G.2)
/-- A new key. -/
theorem eff_insert {G : Nat} {es : List (Value × Value)} {kt et : TypeId} {K : Value → Prop} {m1 m2 : List Res} {ko vo : Operand} {d : Option Tmp} [hu : TyU P t (.map kt et)] [hk : MapK P kt K] {A : Act} {w : World} (hx : A.eval x = .map (some G)) (hy : A.eval ko = u) (hz : A.eval vo = v) (hw : Mem w0 mo (m1 ++ .mp G es :: m2) w) (hK : ∀ p ∈ es, K p.1) (hu' : K u) (hnew : ∀ p ∈ es, p.1 ≠ u) :
    effAt P ⟨d, .insert t x ko vo, ty, ps, af, g⟩ A w (fun _ w' => Mem w0 mo (m1 ++ .mp G ((u, v) :: es) :: m2) w') := by
  obtain ⟨ms, clock, h1, h2⟩ := hw.sat (.mp G es) (by simp)
  have hin : ∀ e ∈ ms.toList, (e.key, e.val) ∈ es := fun e he => h2.mem_iff.1 (List.mem_map_of_mem (f := fun e : MapEntry => (e.key, e.val)) he)
  obtain ⟨o, h3, h4⟩ := hk.find u ms.toList w hu' (fun e he => hK _ (hin e he))
  have ho : o = none := by
    rcases h4 with ⟨rfl, _⟩ | ⟨i, e, rfl, h5, h6⟩
    · rfl
    · exact absurd h6 (hnew _ (hin e (List.mem_of_getElem? h5)))
  subst ho
  have hs := MapKept.run_setObj_map (P := P) (.map (ms.push { key := u, val := v, born := clock }) (clock + 1)) h1
  obtain ⟨g1, g2⟩ := MapKept.heap_set (o' := .map (ms.push { key := u, val := v, born := clock }) (clock + 1)) h1
  refine eff_of_skip (w' := { w with heap := w.heap.setIfInBounds G (.map (ms.push { key := u, val := v, born := clock }) (clock + 1)) }) ?_ ?_
  · simp only [execOp, hx, hy, hz]
    simp [Instr.mapUpdate, run_underlying hu.und, MapKept.run_getObj_map h1, hk.check _ u w hu', h3, hs]
  · refine hw.turn (fun b hb hn => g2 b (fun e => hn e.symm)) ⟨_, _, g1, ?_⟩ (fun b hb => .inl hb) rfl rfl rfl (by simp)
    simp only [Array.toList_push, List.map_append, List.map_cons, List.map_nil]
    exact (List.perm_append_singleton _ _).trans (List.Perm.cons _ h2)
theorem J.insert {G : Nat} {es : List (Value × Value)} {kt et : TypeId} {K : Value → Prop} {m1 m2 : List Res} {ko vo : Operand} [hu : TyU P t (.map kt et)] [hk : MapK P kt K] (hwt : Wt N ops s g true) (hx : EvU N true s x (.map (some G))) (hy : EvU N true s ko u) (hz : EvU N true s vo v) (hm : Upd (.mp G es) (.mp G ((u, v) :: es)) m m') (hK : ∀ p ∈ es, K p.1) (hu' : K u) (hnew : ∀ p ∈ es, p.1 ≠ u) (hkk : kk.Sublist m')
    (Kn : J P N w0 ops Q l s mo kk m') : J P N w0 ops Q (.op .a ⟨none, .insert t x ko vo, ty, ps, af, g⟩ l) s mo kk m :=
  J.act0 (ι := Unit) (m' := fun _ => m') nofun (fun _ _ => hkk) rfl hwt (fun A hA w hw => by
    obtain ⟨k1, k2, rfl, rfl⟩ := hm.split
    exact (eff_insert (hx rfl A hA) (hy rfl A hA) (hz rfl A hA) hw hK hu' hnew).mono fun _ w' h => ⟨(), h⟩) (fun _ => Kn)
/-! some new keys, in whatever order -/
def entryOf (s : Slots) (o : Oper) : Value × Value := match o.op with
  | .insert _ _ k x => ((ev s k).getD undef, (ev s x).getD undef)
  | _ => (undef, undef)
inductive Ins (s : Slots) (t : TypeId) (x : Operand) : List Oper → List (Value × Value) → Prop
  | nil : Ins s t x [] []
  | cons {ko vo : Operand} {u v : Value} {ty : TypeId} {ps : String} {af : Array Edge} {os : List Oper} {es : List (Value × Value)} : ev s ko = some u → ev s vo = some v → Ins s t x os es → Ins s t x (⟨none, .insert t x ko vo, ty, ps, af, none⟩ :: os) ((u, v) :: es)
theorem Ins.map {s : Slots} {t : TypeId} {x : Operand} {os : List Oper} {es : List (Value × Value)} (h : Ins s t x os es) : os.map (entryOf s) = es := by
  induction h with
  | nil => rfl
  | cons h1 h2 _ ih => simp [entryOf, h1, h2, ih]
theorem Ins.is {s : Slots} {t : TypeId} {x : Operand} {os : List Oper} {es : List (Value × Value)} (h : Ins s t x os es) : ∀ o ∈ os, ∃ ko vo u v ty ps af, o = ⟨none, .insert t x ko vo, ty, ps, af, none⟩ ∧ ev s ko = some u ∧ ev s vo = some v := by
  induction h with
  | nil => simp
  | cons h1 h2 _ ih =>
    intro o ho
    rcases List.mem_cons.1 ho with rfl | ho
    · exact ⟨_, _, _, _, _, _, _, rfl, h1, h2⟩
    · exact ih o ho
theorem J.inserts {G : Nat} {os : List Oper} {es : List (Value × Value)} {kt et : TypeId} {K : Value → Prop} [hu : TyU P t (.map kt et)] [hk : MapK P kt K] (hins : Ins s t x os es) (hx : EvU N true s x (.map (some G))) (hK : ∀ p ∈ es, K p.1) (hnd : (es.map (·.1)).Nodup) (hkk : kk.Sublist m)
    (Kn : J P N w0 ops Q l s mo kk (.mp G es :: m)) : J P N w0 ops Q (.many os l) s mo kk (.mp G [] :: m) := by
  have hmap := hins.map
  refine J.many (fun done => .mp G (done.map (entryOf s)) :: m) rfl (fun o ho => ?_) (fun done _ => hkk.trans (List.sublist_cons_self _ _)) (fun o done rest hp A hA w hw => ?_) (fun done hp w hw => ?_) (fun _ => hkk.trans (List.sublist_cons_self _ _)) Kn
  · obtain ⟨ko, vo, u, v, ty, ps, af, rfl, h1, h2⟩ := hins.is o ho
    exact ⟨rfl, Wt.none⟩
  · have hin : ∀ q ∈ o :: done, q ∈ os := fun q hq => hp.mem_iff.1 (List.mem_append_left _ hq)
    have hKd : ∀ q ∈ o :: done, K (entryOf s q).1 := fun q hq => hK _ (by rw [← hmap]; exact List.mem_map_of_mem (hin q hq))
    have hnd2 : ((o :: done).map (fun q => (entryOf s q).1)).Nodup := by
      have h3 : ((o :: done ++ rest).map (fun q => (entryOf s q).1)).Nodup := by
        rw [(hp.map _).nodup_iff]
        have : os.map (fun q => (entryOf s q).1) = es.map (·.1) := by rw [← hmap]; simp [Function.comp_def]
        rw [this]; exact hnd
      rw [List.map_append] at h3
      exact (List.nodup_append.1 h3).1
    obtain ⟨ko, vo, u, v, ty, ps, af, rfl, h1, h2⟩ := hins.is o (hin o (by simp))
    have he : entryOf s (⟨none, .insert t x ko vo, ty, ps, af, none⟩ : Oper) = (u, v) := by simp [entryOf, h1, h2]
    have := eff_insert (P := P) (t := t) (x := x) (ko := ko) (vo := vo) (d := none) (ty := ty) (ps := ps) (af := af) (g := none) (u := u) (v := v) (G := G) (es := done.map (entryOf s)) (m1 := []) (m2 := m) (kt := kt) (et := et) (K := K) (hx rfl A hA) (hA.ev h1) (hA.ev h2) hw (fun p hp => by
      obtain ⟨q, hq, rfl⟩ := List.mem_map.1 hp
      exact hKd q (List.mem_cons_of_mem _ hq)) (by have := hKd _ (List.mem_cons_self); rwa [he] at this) (fun p hp e => by
      obtain ⟨q, hq, rfl⟩ := List.mem_map.1 hp
      rw [List.map_cons, List.nodup_cons, he] at hnd2
      exact hnd2.1 (by rw [← e]; exact List.mem_map_of_mem (f := fun q => (entryOf s q).1) hq))
    simpa [he] using this
  · have hperm : (done.map (entryOf s)).Perm es := by rw [← hmap]; exact hp.map _
    refine ⟨hw.os, hw.tape, hw.output, hw.size, hw.old, fun r hr => ?_, fun r hr b hb => ?_, ?_⟩
    · rcases List.mem_cons.1 hr with rfl | hr
      · obtain ⟨ms, c, h1, h2⟩ := hw.sat _ (List.mem_cons_self)
        exact ⟨ms, c, h1, h2.trans hperm⟩
      · exact hw.sat r (List.mem_cons_of_mem _ hr)
    · rcases List.mem_cons.1 hr with rfl | hr
      · exact hw.new _ (List.mem_cons_self) b hb
      · exact hw.new r (List.mem_cons_of_mem _ hr) b hb
    · have := hw.apart
      rw [List.pairwise_cons] at this ⊢
      exact ⟨fun r hr b hb => this.1 r hr b hb, this.2⟩
/-- A call that hands back something new. -/
theorem J.callNew {ι : Type} {F : FuncId} [hF : FnC P F] {args : List Operand} {first cap vs full : List Value} {r : ι → Value} {n : ι → List Res} (hf : f ≠ .q) (hd : Nat.blt d N = true) (hwt : Wt N ops s g true) (hx : EvU N true s x (.func (.func F) first.toArray cap.toArray)) (ha : Evs N true s args vs) (hfull : first ++ vs ++ cap = full)
    (hcall : ∀ w, Mem w0 mo m w → Calls P F full.toArray w (fun e w' => ∃ i, e = .returned (r i) ∧ Mem w [] (n i) w')) (K : ∀ i, (∀ q ∈ n i, ∀ b, q.at b → w0.heap.size ≤ b) → J P N w0 ops Q l ((d, r i) :: s) mo (f.grow (n i) kk) (n i ++ m)) :
    J P N w0 ops Q (.op f ⟨some d, .call ⟨.value x, args.toArray, at_⟩, ty, ps, af, g⟩ l) s mo kk m :=
  J.grow (ι := { i : ι // ∀ q ∈ n i, ∀ b, q.at b → w0.heap.size ≤ b }) (v := fun i => r i.1) (n := fun i => n i.1) hf rfl hd hwt (fun A hA w hw => by
    unfold effAt
    rw [run_callv (hx rfl A hA) (ha.eq rfl hA), hfull]
    refine (hcall w hw).mono fun e w' ⟨i, h1, h2⟩ => ⟨r i, h1, ⟨i, fun q hq b hb => ?_⟩, rfl, ?_⟩
    · rcases h2.new q hq b hb with h | h
      · exact Nat.le_trans hw.size h
      · cases h
    · have hb := hw.below h2.out
      refine ⟨hb.os, hb.tape, hb.output, hb.size, hb.old, fun q hq => ?_, fun q hq b hqb => ?_, ?_⟩
      · rcases List.mem_append.1 hq with hq | hq
        · exact h2.sat q hq
        · exact hb.sat q hq
      · rcases List.mem_append.1 hq with hq | hq
        · rcases h2.new q hq b hqb with h | h
          · exact .inl (Nat.le_trans hw.size h)
          · cases h
        · exact hb.new q hq b hqb
      · refine List.pairwise_append.2 ⟨h2.apart, hb.apart, fun q hq q' hq' b h3 h4 => ?_⟩
        rcases h2.new q hq b h3 with h | h
        · exact absurd (Nat.lt_of_lt_of_le (Res.lt (hw.sat q' hq') h4) h) (Nat.lt_irrefl _)
        · cases h) (fun i => K i.1 i.2)
end
/-! results, in slots or in memory -/
section
variable {P : Program} {N : Nat} {w0 : World} {s : Slots} {mo : List Nat} {m : List Res}
inductive RVals (P : Program) (s : Slots) (m : List Res) : List ResultVar → List Value → Prop
  | nil : RVals P s m [] []
  | tmp {t : Tmp} {v : Value} {rs : List ResultVar} {vs : List Value} : look s t = some v → RVals P s m rs vs → RVals P s m (.tmp t :: rs) (v :: vs)
  | cell {a G o : Nat} {t : TypeId} {v : Value} {cs : List Value} {e : TypeId} {fr : Nat × Nat} {rs : List ResultVar} {vs : List Value} : TyS P t 1 false → look s a = some (pt G o) → Res.blk G (.cells cs.toArray e fr) ∈ m → Nth v cs o → RVals P s m rs vs → RVals P s m (.cell a t :: rs) (v :: vs)
  | cells {a G o n : Nat} {t : TypeId} {us cs : List Value} {e : TypeId} {fr : Nat × Nat} {rs : List ResultVar} {vs : List Value} : TyS P t n true → look s a = some (pt G o) → Res.blk G (.cells cs.toArray e fr) ∈ m → Cut cs o n us → RVals P s m rs vs → RVals P s m (.cell a t :: rs) (.agg us.toArray :: vs)
theorem RVals.run {rs : List ResultVar} {vs : List Value} (h : RVals P s m rs vs) {A : Act} {w : World} (hA : Holds N s A) (hw : Mem w0 mo m w) (f : ResultVar → Sem Value) (hf : ∀ u, f (.tmp u) = pure (A.tmps.getD u undef)) (hc : ∀ a t, f (.cell a t) = (do loadVar t (← asAddr (A.tmps.getD a undef)))) :
    (rs.mapM f).run P w = .ok vs w := by
  induction h with
  | nil => simp
  | tmp h1 _ ih => rw [List.mapM_cons, hf, hA.slot _ _ h1]; simp [ih]
  | cell hs h1 h2 h3 _ ih =>
    rename_i a G o t v cs e fr rs vs hrest
    have h4 : w.cell? ⟨G, o, none⟩ = some v := (cell_blk (hw.sat _ h2)).trans (by simpa using h3.get)
    rw [List.mapM_cons, hc, hA.slot _ _ h1]; simp [asAddr, run_loadVar1 h4, ih]
  | cells hs h1 h2 h3 _ ih =>
    rename_i a G o n t us cs e fr rs vs hrest
    have h4 : ∀ j v, us[j]? = some v → w.cell? ((⟨G, o, none⟩ : Addr).add j) = some v := fun j v hj => by
      rw [add_off, cell_blk (hw.sat _ h2)]
      rw [← h3.eq.1, List.getElem?_take] at hj
      split at hj
      · simpa using hj
      · simp at hj
    rw [List.mapM_cons, hc, hA.slot _ _ h1]; simp [asAddr, run_loadVarN h3.eq.2 h4, ih]
theorem results_run {fn : Func} {rs : List ResultVar} {vs : List Value} (hr : fn.results = rs.toArray) (hv : RVals P s m rs vs) {A : Act} {w : World} (hA : Holds N s A) (hw : Mem w0 mo m w) :
    (results fn A.tmps).run P w = .ok (match vs with | [v] => v | vs => .tuple vs.toArray) w := by
  unfold results
  rw [hr, List.mapM_toArray]
  simp only [Sem.run_bind, Sem.run_map]
  rw [hv.run hA hw]
  · rcases vs with _ | ⟨v, _ | ⟨u, vs⟩⟩ <;> simp
  · intro u; rfl
  · intro a t; rfl
theorem Fin.retS {fn : Func} {R : Ending → World → Prop} {r : ResultVar} {v : Value} (hr : fn.results = #[r]) (hv : RVals P s m [r] [v]) (h : ∀ w, Mem w0 mo m w → R (.returned v) w) : Fin N w0 (bodyPost P fn R) .ret s mo m := fun a w ha hw =>
  ⟨ha.defers, _, results_run (rs := [r]) hr hv ha hw, h w hw⟩
theorem Fin.retT {fn : Func} {R : Ending → World → Prop} {rs : List ResultVar} {v1 v2 : Value} {vs : List Value} (hr : fn.results = rs.toArray) (hv : RVals P s m rs (v1 :: v2 :: vs)) (h : ∀ w, Mem w0 mo m w → R (.returned (.tuple (v1 :: v2 :: vs).toArray)) w) : Fin N w0 (bodyPost P fn R) .ret s mo m := fun a w ha hw =>
  ⟨ha.defers, _, results_run hr hv ha hw, h w hw⟩
end
end Go.Proofs.Ytdhhjhkonmacdaa
