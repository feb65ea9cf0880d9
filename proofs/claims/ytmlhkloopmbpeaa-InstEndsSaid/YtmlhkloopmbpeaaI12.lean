/- InstEnds: whatever the input, it returns true and the input reads as it did. -/
import Derived.Test.YtmlhkloopmbpeaaI11
import Derived.Test.YtmlhkloopmbpeaaRw
import Derived.Test.YtmlhkloopmbpeaaRows
namespace Go.Proofs.Ytmlhkloopmbpeaa
open Go.ChangeShapes Go.WideShapes Go.ChangeAt Go.RowKit
set_option linter.unusedSimpArgs false
set_option maxHeartbeats 4000000
set_option linter.unusedVariables false
def Inst.ok (i : Inst) : Prop := (IntKind.u64.min ≤ i.id ∧ i.id ≤ IntKind.u64.max) ∧ (IntKind.u64.min ≤ i.token ∧ i.token ≤ IntKind.u64.max) ∧ (IntKind.i64.min ≤ i.pool ∧ i.pool ≤ IntKind.i64.max) ∧ (IntKind.i64.min ≤ i.weight ∧ i.weight ≤ IntKind.i64.max) ∧ True ∧ (IntKind.u8.min ≤ i.state ∧ i.state ≤ IntKind.u8.max) ∧ (IntKind.u64.min ≤ i.due ∧ i.due ≤ IntKind.u64.max) ∧ True ∧ (IntKind.u64.min ≤ i.kill ∧ i.kill ≤ IntKind.u64.max) ∧ True ∧ True ∧ (IntKind.u32.min ≤ i.version ∧ i.version ≤ IntKind.u32.max)
theorem opens_Inst (W : World) : Opens Try.prog W 25 Inst.cells Inst.ok := by
  intro H enc fuel cs x h
  obtain ⟨hlen, n, hf⟩ := trod_fields Try.underlying25 h
  have hc : Try.prog.cellsOf 25 = 12 := by kernel_rfl
  rw [hc] at hlen
  match cs, hlen with
  | [c0, c1, c2, c3, c4, c5, c6, c7, c8, c9, c10, c11], _ =>
    have k2 : Try.prog.cellsOf 2 = 1 := by kernel_rfl
    have k3 : Try.prog.cellsOf 3 = 1 := by kernel_rfl
    have k4 : Try.prog.cellsOf 4 = 1 := by kernel_rfl
    have k5 : Try.prog.cellsOf 5 = 1 := by kernel_rfl
    have k22 : Try.prog.cellsOf 22 = 1 := by kernel_rfl
    have k23 : Try.prog.cellsOf 23 = 1 := by kernel_rfl
    obtain ⟨y0, g0⟩ := hf 0 _ rfl
    have h0 : DataW.trod enc Try.prog W 0 (fun _ => true) true n 22 (([c0, c1, c2, c3, c4, c5, c6, c7, c8, c9, c10, c11].drop 0).take (Try.prog.cellsOf 22)) = some y0 := g0
    rw [k22] at h0
    obtain ⟨a0, e0, r0⟩ := opens_int (k := .u64) Try.underlying22 _ _ _ _ _ h0
    have e0' : c0 = .int .u64 a0 := by simpa using e0
    obtain ⟨y1, g1⟩ := hf 1 _ rfl
    have h1 : DataW.trod enc Try.prog W 0 (fun _ => true) true n 22 (([c0, c1, c2, c3, c4, c5, c6, c7, c8, c9, c10, c11].drop 1).take (Try.prog.cellsOf 22)) = some y1 := g1
    rw [k22] at h1
    obtain ⟨a1, e1, r1⟩ := opens_int (k := .u64) Try.underlying22 _ _ _ _ _ h1
    have e1' : c1 = .int .u64 a1 := by simpa using e1
    obtain ⟨y2, g2⟩ := hf 2 _ rfl
    have h2 : DataW.trod enc Try.prog W 0 (fun _ => true) true n 3 (([c0, c1, c2, c3, c4, c5, c6, c7, c8, c9, c10, c11].drop 2).take (Try.prog.cellsOf 3)) = some y2 := g2
    rw [k3] at h2
    obtain ⟨a2, e2, r2⟩ := opens_int (k := .i64) Try.underlying3 _ _ _ _ _ h2
    have e2' : c2 = .int .i64 a2 := by simpa using e2
    obtain ⟨y3, g3⟩ := hf 3 _ rfl
    have h3 : DataW.trod enc Try.prog W 0 (fun _ => true) true n 2 (([c0, c1, c2, c3, c4, c5, c6, c7, c8, c9, c10, c11].drop 3).take (Try.prog.cellsOf 2)) = some y3 := g3
    rw [k2] at h3
    obtain ⟨a3, e3, r3⟩ := opens_int (k := .i64) Try.underlying2 _ _ _ _ _ h3
    have e3' : c3 = .int .i64 a3 := by simpa using e3
    obtain ⟨y4, g4⟩ := hf 4 _ rfl
    have h4 : DataW.trod enc Try.prog W 0 (fun _ => true) true n 4 (([c0, c1, c2, c3, c4, c5, c6, c7, c8, c9, c10, c11].drop 4).take (Try.prog.cellsOf 4)) = some y4 := g4
    rw [k4] at h4
    obtain ⟨a4, e4, r4⟩ := opens_bool Try.underlying4 _ _ _ _ _ h4
    have e4' : c4 = .bool a4 := by simpa using e4
    obtain ⟨y5, g5⟩ := hf 5 _ rfl
    have h5 : DataW.trod enc Try.prog W 0 (fun _ => true) true n 5 (([c0, c1, c2, c3, c4, c5, c6, c7, c8, c9, c10, c11].drop 5).take (Try.prog.cellsOf 5)) = some y5 := g5
    rw [k5] at h5
    obtain ⟨a5, e5, r5⟩ := opens_int (k := .u8) Try.underlying5 _ _ _ _ _ h5
    have e5' : c5 = .int .u8 a5 := by simpa using e5
    obtain ⟨y6, g6⟩ := hf 6 _ rfl
    have h6 : DataW.trod enc Try.prog W 0 (fun _ => true) true n 22 (([c0, c1, c2, c3, c4, c5, c6, c7, c8, c9, c10, c11].drop 6).take (Try.prog.cellsOf 22)) = some y6 := g6
    rw [k22] at h6
    obtain ⟨a6, e6, r6⟩ := opens_int (k := .u64) Try.underlying22 _ _ _ _ _ h6
    have e6' : c6 = .int .u64 a6 := by simpa using e6
    obtain ⟨y7, g7⟩ := hf 7 _ rfl
    have h7 : DataW.trod enc Try.prog W 0 (fun _ => true) true n 4 (([c0, c1, c2, c3, c4, c5, c6, c7, c8, c9, c10, c11].drop 7).take (Try.prog.cellsOf 4)) = some y7 := g7
    rw [k4] at h7
    obtain ⟨a7, e7, r7⟩ := opens_bool Try.underlying4 _ _ _ _ _ h7
    have e7' : c7 = .bool a7 := by simpa using e7
    obtain ⟨y8, g8⟩ := hf 8 _ rfl
    have h8 : DataW.trod enc Try.prog W 0 (fun _ => true) true n 22 (([c0, c1, c2, c3, c4, c5, c6, c7, c8, c9, c10, c11].drop 8).take (Try.prog.cellsOf 22)) = some y8 := g8
    rw [k22] at h8
    obtain ⟨a8, e8, r8⟩ := opens_int (k := .u64) Try.underlying22 _ _ _ _ _ h8
    have e8' : c8 = .int .u64 a8 := by simpa using e8
    obtain ⟨y9, g9⟩ := hf 9 _ rfl
    have h9 : DataW.trod enc Try.prog W 0 (fun _ => true) true n 4 (([c0, c1, c2, c3, c4, c5, c6, c7, c8, c9, c10, c11].drop 9).take (Try.prog.cellsOf 4)) = some y9 := g9
    rw [k4] at h9
    obtain ⟨a9, e9, r9⟩ := opens_bool Try.underlying4 _ _ _ _ _ h9
    have e9' : c9 = .bool a9 := by simpa using e9
    obtain ⟨y10, g10⟩ := hf 10 _ rfl
    have h10 : DataW.trod enc Try.prog W 0 (fun _ => true) true n 4 (([c0, c1, c2, c3, c4, c5, c6, c7, c8, c9, c10, c11].drop 10).take (Try.prog.cellsOf 4)) = some y10 := g10
    rw [k4] at h10
    obtain ⟨a10, e10, r10⟩ := opens_bool Try.underlying4 _ _ _ _ _ h10
    have e10' : c10 = .bool a10 := by simpa using e10
    obtain ⟨y11, g11⟩ := hf 11 _ rfl
    have h11 : DataW.trod enc Try.prog W 0 (fun _ => true) true n 23 (([c0, c1, c2, c3, c4, c5, c6, c7, c8, c9, c10, c11].drop 11).take (Try.prog.cellsOf 23)) = some y11 := g11
    rw [k23] at h11
    obtain ⟨a11, e11, r11⟩ := opens_int (k := .u32) Try.underlying23 _ _ _ _ _ h11
    have e11' : c11 = .int .u32 a11 := by simpa using e11
    exact ⟨⟨a0, a1, a2, a3, a4, a5, a6, a7, a8, a9, a10, a11⟩, by simp only [e0', e1', e2', e3', e4', e5', e6', e7', e8', e9', e10', e11', Inst.cells], by simp only [Inst.ok]; exact ⟨r0, r1, r2, r3, r4, r5, r6, r7, r8, r9, r10, r11⟩⟩

theorem own : ownKnob Try.prog.godebug = none := by kernel_rfl
theorem laidOut : laidOutB Try.prog = true := by kernel_rfl
theorem ends_contract (H : Type) (enc : TypeId × Value → H) (W : World) (base : Nat) (args : Array Value) (ds gs : List (DataW H)) (before : List MemPlace)
    (hval : ∀ (j : Nat) t v, Try.f3.params[j]? = some t → args[j]? = some v → Value.okWide Try.prog W .any base t v)
    (hW : DataW.Whole enc Try.prog Try.f3.params.toList Rows.instEndsSpec.vars false W args.toList ds gs before) :
    Calls Try.prog 3 args W fun e W' => ∃ v, e = .returned v ∧ Rows.instEndsSpec.post enc Try.prog Try.f3 false true false false W args v W' := by
  have hW' := hW
  obtain ⟨p, q, hA0, hV, rfl, hfz, hnd⟩ := hW
  have hA : DataW.TrodAll enc Try.prog W 0 (fun _ => true) true Try.f3.params.toList args.toList ds p := hA0
  rw [Try.params3] at hA hval
  obtain ⟨v0, vs0, d0, ds0, p0, q0, hargs, rfl, rfl, h0, r0⟩ := trodAll_cons hA
  obtain ⟨v1, vs1, d1, ds1, p1, q1, rfl, rfl, rfl, h1, r1⟩ := trodAll_cons r0
  obtain ⟨v2, vs2, d2, ds2, p2, q2, rfl, rfl, rfl, h2, r2⟩ := trodAll_cons r1
  obtain ⟨v3, vs3, d3, ds3, p3, q3, rfl, rfl, rfl, h3, r3⟩ := trodAll_cons r2
  obtain ⟨v4, vs4, d4, ds4, p4, q4, rfl, rfl, rfl, h4, r4⟩ := trodAll_cons r3
  obtain ⟨rfl, rfl, rfl⟩ := trodAll_nil r4
  obtain rfl : args = #[v0, v1, v2, v3, v4] := by cases args; simp_all
  obtain ⟨rfl, rfl⟩ := trodVars_none hV
  obtain ⟨i, rfl, _⟩ := (opens_Inst W).agg Try.underlying25 (hval 0 25 v0 rfl rfl) h0
  obtain ⟨n1, rfl, rfl, rfl, w1⟩ := open_int Try.underlying22 (hval 1 22 v1 rfl rfl) h1
  obtain ⟨n2, rfl, rfl, rfl, w2⟩ := open_int Try.underlying5 (hval 2 5 v2 rfl rfl) h2
  obtain ⟨n3, rfl, rfl, rfl, w3⟩ := open_int Try.underlying5 (hval 3 5 v3 rfl rfl) h3
  obtain ⟨n4, rfl, rfl, rfl, w4⟩ := open_int Try.underlying22 (hval 4 22 v4 rfl rfl) h4
  have b1 : 0 ≤ n1 := by have : IntKind.u64.min ≤ n1 ∧ n1 ≤ IntKind.u64.max := by simpa [Lit.wf] using w1
                         simpa [IntKind.min, IntKind.signed] using this.1
  have b2 : 0 ≤ n2 := by have : IntKind.u8.min ≤ n2 ∧ n2 ≤ IntKind.u8.max := by simpa [Lit.wf] using w2
                         simpa [IntKind.min, IntKind.signed] using this.1
  have b3 : 0 ≤ n3 := by have : IntKind.u8.min ≤ n3 ∧ n3 ≤ IntKind.u8.max := by simpa [Lit.wf] using w3
                         simpa [IntKind.min, IntKind.signed] using this.1
  exact law_calls laidOut (by rw [Try.params3]; intro t ht; simp at ht; rcases ht with rfl | rfl | rfl | rfl <;> exact ⟨by kernel_rfl, of_decide_eq_true (by kernel_rfl)⟩) rfl rfl Try.underlying4 ⟨rfl, rfl, rfl⟩ hW'
    (ends_calls i n1 n2 n3 n4 W b1 ⟨Int.tmod_nonneg 60 b2, Int.tmod_lt_of_pos n2 (by decide)⟩ ⟨Int.tmod_nonneg 60 b3, Int.tmod_lt_of_pos n3 (by decide)⟩)
set_option maxRecDepth 100000 in
theorem ends_lifted (os : Os) (started : os.Started) (H : Type) (enc : TypeId × Value → H) :
    ReturnsInHanded {} Try.checked os 3 .any (Rows.instEndsSpec.pre6 enc Try.prog Try.f3 Rows.instEndsRow.domain false) (Rows.instEndsSpec.post enc Try.prog Try.f3 false true false false) := by
  refine returnsInHanded_of_change (C := Try.checked) own started (by kernel_rfl) Try.func3
    (ChangeSpec.witness6 (enc := enc) (C := Try.checked) false ⟨#[], #[.agg (Inst.cells default).toArray, .int .u64 0, .int .u8 0, .int .u8 0, .int .u64 0], []⟩ 8 (by kernel_rfl) (by kernel_rfl) (by kernel_rfl) (by kernel_rfl)) ?_
  intro W base args ds gs before hval hW _ _
  exact ends_contract H enc W base args ds gs before hval hW
theorem endsProved : Rows.InstEndsSaid :=
  OpenClaim.holds_of_wide 3 Try.f3 rfl rfl rfl rfl rfl rfl rfl ⟨rfl, rfl, rfl, rfl, rfl⟩ rfl rfl rfl rfl rfl (by kernel_rfl) Try.func3 (by kernel_rfl)
    (of_decide_eq_true (by kernel_rfl)) (by unfold Func.isWrapper; first | (rw [if_pos (by decide +kernel)]; kernel_rfl) | (rw [if_neg (by decide +kernel)]; exact ⟨rfl, rfl⟩))
    (fun os started H enc _ => ends_lifted os started H enc)
end Go.Proofs.Ytmlhkloopmbpeaa
