/- BatchBack: the row. -/
import Derived.Test.YtdhhjhkonmacdaaD18
import Derived.Test.YtdhhjhkonmacdaaRw
import Derived.Test.YtdhhjhkonmacdaaRows
namespace Go.Proofs.Ytdhhjhkonmacdaa
open Go.ChangeShapes Go.WideShapes Go.ChangeAt Go.RowKit
set_option linter.unusedSimpArgs false
set_option maxHeartbeats 4000000
set_option linter.unusedVariables false
def OpensD (P : Program) (W : World) (t : TypeId) (α : Type) [GoT α] : Prop :=
  ∀ (H : Type) (enc : TypeId × Value → H) (fuel : Nat) (cs : List Value) (x : DataW H × List MemPlace), DataW.trod enc P W 0 (fun _ => true) true fuel t cs = some x → ∃ a : α, cs = GoT.enc a ∧ Dp.deep a W
def blen {H : Type} : DataW H → Nat
  | .slice el _ => el.length
  | _ => 0
theorem opens_sl {P : Program} {W : World} {t e : TypeId} {α : Type} [GoT α] (ht : P.underlying t = some (.slice e)) (ho : OpensD P W e α) (hc : P.cellsOf e = GoT.sz α) {H : Type} {enc : TypeId × Value → H} {fuel : Nat} {cs : List Value} {x : DataW H × List MemPlace}
    (h : DataW.trod enc P W 0 (fun _ => true) true fuel t cs = some x) : ∃ s : Sl α, cs = [s.v] ∧ Dp.deep s W ∧ s.l.length = blen x.1 := by
  rcases Deep.open_slice ht h with ⟨rfl, rfl⟩ | ⟨ad, len, cap, m, k, D, Pl, rfl, hb, hl, hm, hmm, rfl, hx⟩
  · exact ⟨Sl.none, rfl, Sl.none_deep W, rfl⟩
  · simp only [if_true] at hmm
    have key : ∀ i, i < len → ∃ x : α, (∀ o v, (GoT.enc x)[o]? = some v → W.cell? (ad.add (i * GoT.sz α + o)) = some v) ∧ Dp.deep x W := by
      intro i hi
      obtain ⟨cs', h3, h4⟩ := hx i (by omega)
      obtain ⟨_, h5, h6⟩ := World.cells?_some h3
      obtain ⟨x, rfl, hok⟩ := ho _ _ _ _ _ h4
      rw [hc] at h5 h6
      refine ⟨x, fun o v hv => ?_, hok⟩
      have ho : o < GoT.sz α := by rw [← h5]; exact (List.getElem?_eq_some_iff.1 hv).1
      have := h6 o ho
      rw [add_add] at this
      rw [this, hv]
    have : ∃ f : Nat → α, ∀ i, i < len → (∀ o v, (GoT.enc (f i))[o]? = some v → W.cell? (ad.add (i * GoT.sz α + o)) = some v) ∧ Dp.deep (f i) W := by
      refine ⟨fun i => if h : i < len then (key i h).choose else default, fun i hi => ?_⟩
      simp only [hi, dif_pos]
      exact (key i hi).choose_spec
    obtain ⟨f, hf⟩ := this
    have hll : ((List.range len).map f).length = len := by simp
    refine ⟨⟨some ad, ad, (List.range len).map f, cap, fun _ => rfl, by rw [hll]; exact hl, fun h => by cases h⟩, ?_, ⟨⟨fun j x h => ?_⟩, ?_⟩, by simp [blen]⟩
    · unfold Sl.v; simp only [hll]
    · rw [List.getElem?_map] at h
      cases hr : (List.range len)[j]? with
      | none => rw [hr] at h; cases h
      | some k' =>
        rw [hr] at h
        obtain ⟨hlt, hk⟩ := List.getElem?_eq_some_iff.1 hr
        simp at hlt hk
        subst hk
        cases h
        exact ⟨GoT.len _, (hf j hlt).1⟩
    · intro x hx
      obtain ⟨i, hi, rfl⟩ := List.mem_map.1 hx
      exact (hf i (by simpa using hi)).2
theorem opensD_u8 {P : Program} {W : World} {t : TypeId} (ht : P.underlying t = some (.int .u8)) : OpensD P W t UInt8 := fun H enc fuel cs x h => by
  obtain ⟨a, h1, h2⟩ := opens_int ht H enc fuel cs x h
  have h3 : 0 ≤ a ∧ a ≤ 255 := h2
  exact ⟨byteOf a, by rw [byteOf_enc' h3.1 h3.2]; exact h1, trivial⟩
theorem opensD_Chg (W : World) : OpensD Try.prog W 45 Chg := by
  intro H enc fuel cs x h
  obtain ⟨hlen, n, hf⟩ := trod_fields Try.underlying45 h
  have hc : Try.prog.cellsOf 45 = 3 := by kernel_rfl
  rw [hc] at hlen
  match cs, hlen with
  | [c0, c1, c2], _ =>
    have k9 : Try.prog.cellsOf 9 = 1 := by kernel_rfl
    have k23 : Try.prog.cellsOf 23 = 1 := by kernel_rfl
    have k4 : Try.prog.cellsOf 4 = 1 := by kernel_rfl
    obtain ⟨y0, g0⟩ := hf 0 _ rfl
    have h0 : DataW.trod enc Try.prog W 0 (fun _ => true) true n 9 (([c0, c1, c2].drop 0).take (Try.prog.cellsOf 9)) = some y0 := g0
    rw [k9] at h0
    obtain ⟨a0, e0', r0⟩ := opens_string Try.underlying9 _ _ _ _ _ h0
    have e0'' : c0 = .string a0 := by simpa using e0'
    obtain ⟨y1, g1⟩ := hf 1 _ rfl
    have h1 : DataW.trod enc Try.prog W 0 (fun _ => true) true n 23 (([c0, c1, c2].drop 1).take (Try.prog.cellsOf 23)) = some y1 := g1
    rw [k23] at h1
    obtain ⟨a1, e1, r1, _⟩ := opens_sl (α := UInt8) Try.underlying23 (opensD_u8 Try.underlying5) (by kernel_rfl) h1
    have e1' : c1 = a1.v := by simpa using e1
    obtain ⟨y2, g2⟩ := hf 2 _ rfl
    have h2 : DataW.trod enc Try.prog W 0 (fun _ => true) true n 4 (([c0, c1, c2].drop 2).take (Try.prog.cellsOf 4)) = some y2 := g2
    rw [k4] at h2
    obtain ⟨a2, e2, r2⟩ := opens_bool Try.underlying4 _ _ _ _ _ h2
    have e2' : c2 = .bool a2 := by simpa using e2
    exact ⟨⟨a0, a1, a2⟩, by rw [e0'', e1', e2']; rfl, r1⟩
theorem opens_arg {P : Program} {W : World} {r : Reach} {b0 : Nat} {t e : TypeId} {α : Type} [GoT α] (ht : P.underlying t = some (.slice e)) (ho : OpensD P W e α) (hc : P.cellsOf e = GoT.sz α) {H : Type} {enc : TypeId × Value → H} {v : Value} {d : DataW H} {ps : List MemPlace} (hval : Value.okWide P W r b0 t v)
    (h : DataW.Trod enc P W 0 (fun _ => true) true t v d ps) : ∃ s : Sl α, v = s.v ∧ Dp.deep s W ∧ s.l.length = blen d := by
  obtain ⟨a, n, c, rfl⟩ := val_slice ht hval
  obtain ⟨fuel, hf⟩ := h
  obtain ⟨s, h1, h2, h3⟩ := opens_sl ht ho hc hf
  exact ⟨s, by simpa [Value.cells] using h1, h2, h3⟩
theorem bulk_all {H : Type} : ∀ l : List (DataW H), (∀ d ∈ l, 1 ≤ Rows.uptoBulk d) → l.length ≤ Rows.uptoBulkAll l
  | [], _ => by simp [Rows.uptoBulkAll]
  | d :: r, h => by
    have := bulk_all r (fun x hx => h x (by simp [hx]))
    have := h d (by simp)
    simp only [Rows.uptoBulkAll, List.length_cons]; omega
theorem bulk_pos {H : Type} (d : DataW H) : 1 ≤ Rows.uptoBulk d := by
  cases d with
  | lit l => cases l <;> simp [Rows.uptoBulk]
  | _ => simp [Rows.uptoBulk]
theorem blen_le {H : Type} (d : DataW H) : blen d ≤ Rows.uptoBulk d := by
  cases d with
  | slice el sp =>
    have := bulk_all el (fun d _ => bulk_pos d)
    simp only [blen, Rows.uptoBulk]; omega
  | _ => simp [blen]
theorem own : ownKnob Try.prog.godebug = none := by kernel_rfl
theorem laidOut : laidOutB Try.prog = true := by kernel_rfl
theorem back_contract (H : Type) (enc : TypeId × Value → H) (W : World) (base : Nat) (args : Array Value) (ds gs : List (DataW H)) (before : List MemPlace)
    (hval : ∀ (j : Nat) t v, Try.f3.params[j]? = some t → args[j]? = some v → Value.okWide Try.prog W .any base t v)
    (hW : DataW.Whole enc Try.prog Try.f3.params.toList Rows.batchBackSpec.vars false W args.toList ds gs before) (hk : Rows.uptoSmall H (ds ++ gs) = true) :
    Calls Try.prog 3 args W fun e W' => ∃ v, e = .returned v ∧ Rows.batchBackSpec.post enc Try.prog Try.f3 false true false false W args v W' := by
  have hW' := hW
  obtain ⟨p, q, hA0, hV, rfl, hfz, hnd⟩ := hW
  have hA : DataW.TrodAll enc Try.prog W 0 (fun _ => true) true Try.f3.params.toList args.toList ds p := hA0
  rw [Try.params3] at hA hval
  obtain ⟨v0, vs0, d0, ds0, p0, q0, hargs, rfl, rfl, h0, r0⟩ := trodAll_cons hA
  obtain ⟨v1, vs1, d1, ds1, p1, q1, rfl, rfl, rfl, h1, r1⟩ := trodAll_cons r0
  obtain ⟨rfl, rfl, rfl⟩ := trodAll_nil r1
  obtain rfl : args = #[v0, v1] := by cases args; simp_all
  obtain ⟨rfl, rfl⟩ := trodVars_none hV
  obtain ⟨l, rfl, hl, nl⟩ := opens_arg (α := Chg) Try.underlying22 (opensD_Chg W) (by kernel_rfl) (hval 0 22 v0 rfl rfl) h0
  obtain ⟨b, rfl, hb, nb⟩ := opens_arg (α := UInt8) Try.underlying23 (opensD_u8 Try.underlying5) (by kernel_rfl) (hval 1 23 v1 rfl rfl) h1
  have hk' : Rows.uptoBulk d0 + (Rows.uptoBulk d1 + 0) ≤ 1048576 := by
    have := of_decide_eq_true hk
    simpa [Rows.uptoBulkAll] using this
  have := blen_le d0
  have := blen_le d1
  exact law_calls laidOut (by rw [Try.params3]; intro t ht; simp at ht; rcases ht with rfl | rfl <;> exact ⟨by kernel_rfl, of_decide_eq_true (by kernel_rfl)⟩) rfl rfl Try.underlying4 ⟨rfl, rfl, rfl⟩ hW'
    (back_calls l b W hl hb (by omega) (by omega))
set_option maxRecDepth 100000 in
theorem back_lifted (os : Os) (started : os.Started) (H : Type) (enc : TypeId × Value → H) (F : Stop.Interp) :
    ReturnsInHanded {} Try.checked os 3 .any ((Rows.OpenSpec.upto Rows.batchBackSpec).pre6 enc Try.prog Try.f3 Rows.batchBackUptoRow.domain false) (((Rows.OpenSpec.upto Rows.batchBackSpec).at F).post enc Try.prog Try.f3 false true false false) := by
  refine returnsInHanded_of_cond (C := Try.checked) (s := Rows.OpenSpec.upto Rows.batchBackSpec) (k := Rows.uptoSmall) rfl own started (by kernel_rfl) Try.func3
    (OpenSpec.witness (enc := enc) (C := Try.checked) (s := Rows.OpenSpec.upto Rows.batchBackSpec) (k := Rows.uptoSmall) rfl false ⟨#[], #[.slice none 0 0, .slice none 0 0], []⟩ 8 (by kernel_rfl) (by kernel_rfl) (by kernel_rfl)
      (x := ([.nil, .nil], [], [])) (by kernel_rfl) rfl (by kernel_rfl)) ?_
  intro W base args ds gs before hval hW _ hk _
  exact back_contract H enc W base args ds gs before hval hW hk
theorem backProved : Rows.BatchBackUptoSaid :=
  OpenClaim.holds_of_cond 3 Try.f3 rfl rfl rfl rfl rfl rfl rfl ⟨rfl, rfl, rfl, rfl, rfl⟩ rfl rfl rfl rfl rfl (by kernel_rfl) Try.func3 (by kernel_rfl)
    (of_decide_eq_true (by kernel_rfl)) (by unfold Func.isWrapper; first | (rw [if_pos (by decide +kernel)]; kernel_rfl) | (rw [if_neg (by decide +kernel)]; exact ⟨rfl, rfl⟩))
    (fun os started H enc _ F => back_lifted os started H enc F)
end Go.Proofs.Ytdhhjhkonmacdaa
