/- Generic: from a contract 'true, and below nothing has turned' to a law's row; what arguments are read as. -/
import Derived.Test.YtdhhjhkonmacdaaSa
import Derived.WalkKit
import Derived.ProofKit
import Derived.OpenShut
import Derived.JoinedCond
import Derived.WideKeyArgs
import Derived.Deep.Slices
namespace Go.Proofs.Ytdhhjhkonmacdaa
open Go.ChangeShapes Go.WideShapes Go.ChangeAt Go.RowKit
set_option linter.unusedVariables false
set_option linter.unusedSimpArgs false
section
variable {H : Type} {enc : TypeId × Value → H} {P : Program}
theorem trodAll_below (hl : laidOutB P = true) {W W' : World} (hb : Below W.heap.size W W') {sp' : Nat → Bool} : ∀ {ts : List TypeId} {vs : List Value} {ds : List (DataW H)} {ps : List MemPlace}, (∀ t ∈ ts, P.readableRec t = true ∧ t < P.types.size) →
    DataW.TrodAll enc P W 0 (fun _ => true) true ts vs ds ps → (∀ p ∈ ps, p.block < W.heap.size) → (∀ p ∈ ps, sp' p.block = true) → DataW.TrodAll enc P W' 0 sp' true ts vs ds ps
  | [], vs, ds, ps, _, h, _, _ => by
    obtain ⟨rfl, rfl, rfl⟩ := trodAll_nil h
    exact trodAll_mk0
  | t :: ts, vs, ds, ps, ht, h, hlt, hs => by
    obtain ⟨v, vs1, d, ds1, a, b, rfl, rfl, rfl, h1, h2⟩ := trodAll_cons h
    have k1 := ht t (by simp)
    exact ⟨a, b, WideElems.Trod_stays hl k1.1 k1.2 h1 (fun p hp => hb.same (hlt p (by simp [hp]))) (fun p hp => hs p (by simp [hp])), trodAll_below hl hb (fun t h => ht t (by simp [h])) h2 (fun p hp => hlt p (by simp [hp])) (fun p hp => hs p (by simp [hp])), rfl⟩
/-- A law's row behind the call: true; the arguments read as they did. -/
theorem law_post {f : Func} {s : ChangeSpec} {apart fresh handsOn again : Bool} {W W' : World} {args : Array Value} {ds gs : List (DataW H)} {before : List MemPlace} {bt : TypeId} (hl : laidOutB P = true) (hr : ∀ t ∈ f.params.toList, P.readableRec t = true ∧ t < P.types.size)
    (hv : s.vars = []) (hres : f.resultTypes = #[bt]) (hbt : P.underlying bt = some .bool) (hf : (s.fn H (ds ++ gs)).results = [.lit (.bool true)] ∧ (s.fn H (ds ++ gs)).args = ds ∧ (s.fn H (ds ++ gs)).vars = [])
    (hW : DataW.Whole enc P f.params.toList s.vars apart W args.toList ds gs before) (hb : Below W.heap.size W W') : s.post enc P f apart fresh handsOn again W args (.bool true) W' := by
  have hlt : ∀ p ∈ before, p.block < W.heap.size := fun p hp => hW.lt p hp
  have hW2 := hW
  obtain ⟨p, q, hA, hV, hpq, hfz, hnd⟩ := hW
  rw [hv] at hV
  obtain ⟨hgs, hq⟩ := trodVars_none hV
  subst hgs; subst hq; subst hpq
  simp only [List.append_nil] at hlt hfz hnd
  have hA' : ∀ sp : Nat → Bool, (∀ x ∈ p, sp x.block = true) → DataW.TrodAll enc P W' 0 sp true f.params.toList args.toList ds p := fun sp hsp => trodAll_below hl hb hr hA hlt hsp
  have hold : ∀ x ∈ p, (fun b => decide (b < W.heap.size)) x.block = true := fun x hx => by simpa using hlt x hx
  have hR : ∀ (b : Nat) (sp : Nat → Bool) (hd : Bool), DataW.TrodAll enc P W' b sp hd f.resultTypes.toList ((Value.bool true).resultList f.resultTypes.size) [.lit (.bool true)] [] := fun b sp hd => by
    rw [hres]
    exact trodAll_cons_mk (shut_bool hbt _) trodAll_mk0
  have hV0 : ∀ sp : Nat → Bool, DataW.TrodVars (H := H) enc P W' sp s.vars [] [] := fun sp => by rw [hv]; rfl
  refine ⟨ds, [], p ++ [], [], p, [], hW2, ?_, ?_, ?_, ?_, fun _ => ⟨?_, [.lit (.bool true)] ++ ds, [], ([] ++ p) ++ [], ⟨[] ++ p, [], trodAll_append (hA' _ (fun _ _ => rfl)) (hR _ _ _), hV0 _, rfl, ?_, ?_⟩, ?_⟩⟩
  · rw [hf.1]; exact hR _ _ _
  · rw [hf.2.1]; exact hA' _ hold
  · rw [hf.2.2]; exact hV0 _
  · exact hb.frame _
  · exact ok_one (by rw [hres]) rfl (okWide_bool_mk hbt _)
  · intro b off hp
    have hp' : MemPlace.cell b off ∈ p := by simpa using hp
    rw [hb.frozen (hlt _ hp')]
    exact hfz b off hp'
  · intro ha
    simpa using hnd ha
  · intro x hx _
    simpa using hx
theorem law_calls {F : FuncId} {f : Func} {s : ChangeSpec} {apart fresh handsOn again : Bool} {W : World} {args : Array Value} {ds gs : List (DataW H)} {before : List MemPlace} {bt : TypeId} (hl : laidOutB P = true) (hr : ∀ t ∈ f.params.toList, P.readableRec t = true ∧ t < P.types.size)
    (hv : s.vars = []) (hres : f.resultTypes = #[bt]) (hbt : P.underlying bt = some .bool) (hf : (s.fn H (ds ++ gs)).results = [.lit (.bool true)] ∧ (s.fn H (ds ++ gs)).args = ds ∧ (s.fn H (ds ++ gs)).vars = [])
    (hW : DataW.Whole enc P f.params.toList s.vars apart W args.toList ds gs before) (h : Calls P F args W fun e w' => e = .returned (.bool true) ∧ Below W.heap.size W w') :
    Calls P F args W fun e W' => ∃ v, e = .returned v ∧ s.post enc P f apart fresh handsOn again W args v W' :=
  h.mono fun e W' ⟨he, hb⟩ => ⟨_, he, law_post hl hr hv hres hbt hf hW hb⟩

/-! what an argument is read as -/
/-- Whatever cells of type t are read, they are those of some a, of which ok holds. -/
def Opens (P : Program) (W : World) (t : TypeId) {α : Type} (cells : α → List Value) (ok : α → Prop) : Prop :=
  ∀ (H : Type) (enc : TypeId × Value → H) (fuel : Nat) (cs : List Value) (x : DataW H × List MemPlace), DataW.trod enc P W 0 (fun _ => true) true fuel t cs = some x → ∃ a, cs = cells a ∧ ok a
theorem Opens.val {W : World} {t : TypeId} {α : Type} {cells : α → List Value} {ok : α → Prop} (ho : Opens P W t cells ok) {v : Value} {d : DataW H} {ps : List MemPlace} (h : DataW.Trod enc P W 0 (fun _ => true) true t v d ps) : ∃ a, v.cells.toList = cells a ∧ ok a := by
  obtain ⟨n, hn⟩ := h
  exact ho H enc n _ _ hn
theorem opens_int {W : World} {t : TypeId} {k : IntKind} (ht : P.underlying t = some (.int k)) : Opens P W t (fun a : Int => [.int k a]) (fun a => k.min ≤ a ∧ a ≤ k.max) := by
  intro H enc fuel cs x h
  cases fuel with
  | zero => cases h
  | succ n =>
    unfold DataW.trod at h
    rw [ht] at h
    split at h <;> first | (rename_i h1; cases h1; done) | skip
    all_goals first
      | (simp at h; rename_i k1 k2 m h1; cases h1; exact ⟨m, by rw [h.1.1], by simpa [Lit.wf] using h.1.2⟩)
      | (simp at h; done)
theorem opens_bool {W : World} {t : TypeId} (ht : P.underlying t = some .bool) : Opens P W t (fun a : Bool => [.bool a]) (fun _ => True) := by
  intro H enc fuel cs x h
  cases fuel with
  | zero => cases h
  | succ n =>
    unfold DataW.trod at h
    rw [ht] at h
    split at h <;> first | (rename_i h1; cases h1; done) | skip
    all_goals first
      | exact ⟨_, rfl, trivial⟩
      | (simp at h)
theorem opens_string {W : World} {t : TypeId} (ht : P.underlying t = some .string) : Opens P W t (fun a : ByteArray => [.string a]) (fun a => a.size ≤ maxLen) := by
  intro H enc fuel cs x h
  cases fuel with
  | zero => cases h
  | succ n =>
    unfold DataW.trod at h
    rw [ht] at h
    split at h <;> first | (rename_i h1; cases h1; done) | skip
    all_goals first
      | (simp at h; exact ⟨_, rfl, h.1⟩)
      | (simp at h; done)
/-- A struct is read field by field. -/
theorem trod_fields {W : World} {t : TypeId} {fs : Array Field} {fuel : Nat} {cs : List Value} {x : DataW H × List MemPlace} (ht : P.underlying t = some (.struct fs)) (h : DataW.trod enc P W 0 (fun _ => true) true fuel t cs = some x) :
    cs.length = P.cellsOf t ∧ ∃ n, ∀ (i : Nat) (f : Field), fs[i]? = some f → ∃ y, DataW.trod enc P W 0 (fun _ => true) true n f.type ((cs.drop f.offset).take (P.cellsOf f.type)) = some y := by
  obtain ⟨xs, n, _, _, hl, hlen, hf⟩ := DataW.trod_struct ht h
  refine ⟨hl, n, fun i f hi => ?_⟩
  have hlt : i < xs.length := by rw [hlen]; exact (Array.getElem?_eq_some_iff.1 hi).1
  exact ⟨xs[i], by rw [hf i f hi]; simp [hlt]⟩
theorem val_agg {W : World} {r : Reach} {b0 : Nat} {t : TypeId} {fs : Array Field} {v : Value} (ht : P.underlying t = some (.struct fs)) (hval : Value.okWide P W r b0 t v) : ∃ cs, v = .agg cs := by
  unfold Value.okWide at hval
  rw [ht] at hval
  exact ⟨hval.choose, hval.choose_spec.1⟩
theorem val_slice {W : World} {r : Reach} {b0 : Nat} {t e : TypeId} {v : Value} (ht : P.underlying t = some (.slice e)) (hval : Value.okWide P W r b0 t v) : ∃ a n c, v = .slice a n c := by
  unfold Value.okWide at hval
  rw [ht] at hval
  unfold Cell.okWide at hval
  rw [ht] at hval
  cases v <;> simp [Cell.ok, ht] at hval
  exact ⟨_, _, _, rfl⟩
theorem Opens.agg {W : World} {r : Reach} {b0 : Nat} {t : TypeId} {fs : Array Field} {α : Type} {cells : α → List Value} {ok : α → Prop} (ht : P.underlying t = some (.struct fs)) (ho : Opens P W t cells ok) {v : Value} {d : DataW H} {ps : List MemPlace} (hval : Value.okWide P W r b0 t v) (h : DataW.Trod enc P W 0 (fun _ => true) true t v d ps) :
    ∃ a, v = .agg (cells a).toArray ∧ ok a := by
  obtain ⟨cs, rfl⟩ := val_agg ht hval
  obtain ⟨a, h1, h2⟩ := ho.val h
  refine ⟨a, ?_, h2⟩
  rw [← h1]
  rfl
/-- A slice: its elements, in memory. -/
theorem Opens.slice {W : World} {r : Reach} {b0 : Nat} {t e : TypeId} {α : Type} [Inhabited α] {cells : α → List Value} {ok : α → Prop} {sz : Nat} (ht : P.underlying t = some (.slice e)) (ho : Opens P W e cells ok) (hc : P.cellsOf e = sz) {v : Value} {d : DataW H} {ps : List MemPlace} (hval : Value.okWide P W r b0 t v)
    (h : DataW.Trod enc P W 0 (fun _ => true) true t v d ps) : ∃ (A : Option Addr) (B : Addr) (l : List α) (cp : Nat), v = .slice A l.length cp ∧ Based A l.length B ∧ RowI W B sz l cells default ∧ (∀ a ∈ l, ok a) ∧ l.length ≤ maxLen ∧ l.length ≤ cp ∧ (A = none → l = [] ∧ cp = 0) := by
  obtain ⟨a, n, c, rfl⟩ := val_slice ht hval
  obtain ⟨fuel, hf⟩ := h
  rcases Deep.open_slice ht hf with ⟨h1, _⟩ | ⟨ad, len, cap, m, k, D, Pl, h1, hb, hl, hm, hmm, _, hx⟩
  · have h2 : Value.slice a n c = .slice none 0 0 := by simpa [Value.cells] using h1
    cases h2
    exact ⟨none, default, [], 0, rfl, ⟨fun h => absurd h (by simp)⟩, ⟨fun j x h => by simp at h⟩, by simp, by simp, by simp, by simp⟩
  · have h2 : Value.slice a n c = .slice (some ad) len cap := by simpa [Value.cells] using h1
    cases h2
    simp only [if_true] at hmm
    have key : ∀ i, i < n → ∃ x, (cells x).length = sz ∧ (∀ o v, (cells x)[o]? = some v → W.cell? (ad.add (i * sz + o)) = some v) ∧ ok x := by
      intro i hi
      obtain ⟨cs', h3, h4⟩ := hx i (by omega)
      obtain ⟨_, h5, h6⟩ := World.cells?_some h3
      obtain ⟨x, rfl, hok⟩ := ho _ _ _ _ _ h4
      rw [hc] at h5 h6
      refine ⟨x, h5, fun o v hv => ?_, hok⟩
      have ho : o < sz := by rw [← h5]; exact (List.getElem?_eq_some_iff.1 hv).1
      have := h6 o ho
      rw [add_add] at this
      rw [this, hv]
    have : ∃ f : Nat → α, ∀ i, i < n → (cells (f i)).length = sz ∧ (∀ o v, (cells (f i))[o]? = some v → W.cell? (ad.add (i * sz + o)) = some v) ∧ ok (f i) := by
      refine ⟨fun i => if h : i < n then (key i h).choose else default, fun i hi => ?_⟩
      simp only [hi, dif_pos]
      exact (key i hi).choose_spec
    obtain ⟨f, hf⟩ := this
    refine ⟨some ad, ad, (List.range n).map f, c, by simp, ⟨fun _ => rfl⟩, ⟨fun j x h => ?_⟩, ?_, by simp; omega, by simp; omega, by simp⟩
    · rw [List.getElem?_map] at h
      cases hr : (List.range n)[j]? with
      | none => rw [hr] at h; cases h
      | some k' =>
        rw [hr] at h
        obtain ⟨hlt, hk⟩ := List.getElem?_eq_some_iff.1 hr
        simp at hlt hk
        subst hk
        cases h
        exact ⟨(hf j hlt).1, (hf j hlt).2.1⟩
    · intro x hx
      obtain ⟨i, hi, rfl⟩ := List.mem_map.1 hx
      exact (hf i (by simpa using hi)).2.2
end
end Go.Proofs.Ytdhhjhkonmacdaa
