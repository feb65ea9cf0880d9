/- batch: the same rows, changes; the reader. -/
import Derived.Test.YtdhhjhkonmacdaaD6
namespace Go.Proofs.Ytdhhjhkonmacdaa
open Go.RowKit
set_option linter.unusedSimpArgs false
set_option maxHeartbeats 4000000
set_option linter.unusedVariables false
attribute [local irreducible] QV EvU Wt J G Fin
def sameB (a b : List UInt8) : Bool := (textOf a).toList == (textOf b).toList
def sameC1 (x y : Chg) : Bool := !(!(x.key.toList == y.key.toList) || !(x.gone == y.gone) || !sameB x.val.l y.val.l)
def sameR1 (x y : RowD) : Bool := !(!(x.key.toList == y.key.toList) || !sameB x.val.l y.val.l)
def allB {α : Type} (f : α → α → Bool) : List α → List α → Bool
  | [], [] => true
  | x :: r, y :: q => f x y && allB f r q
  | _, _ => false
theorem allB_len {α : Type} (f : α → α → Bool) : ∀ (a b : List α), a.length ≠ b.length → allB f a b = false
  | [], [], h => absurd rfl h
  | [], y :: q, _ => rfl
  | x :: r, [], _ => rfl
  | x :: r, y :: q, h => by simp [allB, allB_len f r q (by simpa using h)]
theorem changes_calls (a b : Sl Chg) (w : World) (ha : Dp.deep a w) (hb : Dp.deep b w) (hl : a.l.length ≤ 140737488355328) : Calls Try.prog 9 [a.v, b.v].toArray w fun e w' => e = .returned (.bool (allB sameC1 a.l b.l)) ∧ Below w.heap.size w w' := by
  haveI := Old.of ha
  haveI := Old.of hb
  refine enter Try.func9 rfl Try.ntmps9 ?_
  repeat' (first
      | refine J.bu ?_
      | refine J.bg ?_
      | refine J.boxA nofun rfl .none (.plain rfl) (fun _ _ => ?_)
      | refine J.box1 nofun rfl .none (.plain rfl) rfl (fun _ _ => ?_)
      | refine J.alloc nofun rfl .none (fun _ _ => ?_)
      | refine J.sto ?_
      | refine J.stoN ?_
      | refine J.lit (fun _ _ => ?_)
      | refine J.alt nofun ?_ ?_
      | exact J.stop
      | refine J.fin ?_
      | refine G.seq ?_
      | refine G.region ?_
      | refine G.draw (by kernel_rfl) (by kernel_rfl) ?_
      | refine Fin.go ?_
      | refine G.condT ?_
      | refine G.condF ?_
      | (refine G.cond rfl (fun h => ?_) (fun h => ?_) <;> (have hp := h; try simp only [decide_eq_true_eq, decide_eq_false_iff_not, Bool.and_eq_true, Bool.or_eq_true, Bool.and_eq_false_iff, Bool.or_eq_false_iff, Bool.not_eq_true', Bool.not_eq_false'] at hp))
      | refine G.ret ?_
      | refine G.skip ?_
      | refine G.exit ?_
      | refine G.block ?_
      | refine Fin.resS Try.results9 ?_
      | refine Fin.resT Try.results9 ?_)
  · exact fun w' hw => ⟨by rw [allB_len]; omega, hw.out⟩
  · refine G.loopA (0 : Nat) (fun i => [(5, .int .i64 (i : Nat)), (1, b.v), (0, a.v)]) (fun _ => []) (fun i => i ≤ a.l.length ∧ allB sameC1 a.l b.l = allB sameC1 (a.l.drop i) (b.l.drop i)) (fun i => a.l.length - i) ⟨by omega, by simp⟩ ?_
    rintro i ⟨hi, hgo⟩
    have hlen : a.l.length = b.l.length := by omega
    repeat' (first
        | refine J.bu ?_
        | refine J.bg ?_
        | refine J.boxA nofun rfl .none (.plain rfl) (fun _ _ => ?_)
        | refine J.box1 nofun rfl .none (.plain rfl) rfl (fun _ _ => ?_)
        | refine J.alloc nofun rfl .none (fun _ _ => ?_)
        | refine J.sto ?_
        | refine J.stoN ?_
        | refine J.lit (fun _ _ => ?_)
        | refine J.alt nofun ?_ ?_
        | exact J.stop
        | refine J.callgc (fun _ w' hw => same_calls (el a.l default i).val (el b.l default i).val w' (Kn.get hw) (Kn.get hw)) ?_
        | refine J.fin ?_
        | refine G.seq ?_
        | refine G.region ?_
        | refine G.draw (by kernel_rfl) (by kernel_rfl) ?_
        | refine Fin.go ?_
        | refine G.condT ?_
        | refine G.condF ?_
        | (refine G.cond rfl (fun h => ?_) (fun h => ?_) <;> (have hp := h; try simp only [decide_eq_true_eq, decide_eq_false_iff_not, Bool.and_eq_true, Bool.or_eq_true, Bool.and_eq_false_iff, Bool.or_eq_false_iff, Bool.not_eq_true', Bool.not_eq_false'] at hp))
        | refine G.ret ?_
        | refine G.skip ?_
        | refine G.exit ?_
        | refine G.block ?_
        | refine Fin.resS Try.results9 ?_
        | refine Fin.resT Try.results9 ?_)
    · refine fun w' hw => ⟨?_, hw.out⟩
      rw [hgo, el_drop a.l default i (by omega), el_drop b.l default i (by omega)]
      have : sameC1 (el a.l default i) (el b.l default i) = false := by unfold sameC1 sameB; rw [h]; rfl
      simp [allB, this]
    · refine Fin.again (i + 1) ⟨by omega, ?_⟩ (by omega)
      rw [hgo, el_drop a.l default i (by omega), el_drop b.l default i (by omega)]
      have : sameC1 (el a.l default i) (el b.l default i) = true := by unfold sameC1 sameB; rw [h]; rfl
      simp [allB, this]
    · refine fun w' hw => ⟨?_, hw.out⟩
      rw [hgo, show i = a.l.length by omega, List.drop_length, hlen, List.drop_length]
      rfl
theorem rows_calls (a b : Sl RowD) (w : World) (ha : Dp.deep a w) (hb : Dp.deep b w) (hl : a.l.length ≤ 140737488355328) : Calls Try.prog 19 [a.v, b.v].toArray w fun e w' => e = .returned (.bool (allB sameR1 a.l b.l)) ∧ Below w.heap.size w w' := by
  haveI := Old.of ha
  haveI := Old.of hb
  refine enter Try.func19 rfl Try.ntmps19 ?_
  repeat' (first
      | refine J.bu ?_
      | refine J.bg ?_
      | refine J.boxA nofun rfl .none (.plain rfl) (fun _ _ => ?_)
      | refine J.box1 nofun rfl .none (.plain rfl) rfl (fun _ _ => ?_)
      | refine J.alloc nofun rfl .none (fun _ _ => ?_)
      | refine J.sto ?_
      | refine J.stoN ?_
      | refine J.lit (fun _ _ => ?_)
      | refine J.alt nofun ?_ ?_
      | exact J.stop
      | refine J.fin ?_
      | refine G.seq ?_
      | refine G.region ?_
      | refine G.draw (by kernel_rfl) (by kernel_rfl) ?_
      | refine Fin.go ?_
      | refine G.condT ?_
      | refine G.condF ?_
      | (refine G.cond rfl (fun h => ?_) (fun h => ?_) <;> (have hp := h; try simp only [decide_eq_true_eq, decide_eq_false_iff_not, Bool.and_eq_true, Bool.or_eq_true, Bool.and_eq_false_iff, Bool.or_eq_false_iff, Bool.not_eq_true', Bool.not_eq_false'] at hp))
      | refine G.ret ?_
      | refine G.skip ?_
      | refine G.exit ?_
      | refine G.block ?_
      | refine Fin.resS Try.results19 ?_
      | refine Fin.resT Try.results19 ?_)
  · exact fun w' hw => ⟨by rw [allB_len]; omega, hw.out⟩
  · refine G.loopA (0 : Nat) (fun i => [(5, .int .i64 (i : Nat)), (1, b.v), (0, a.v)]) (fun _ => []) (fun i => i ≤ a.l.length ∧ allB sameR1 a.l b.l = allB sameR1 (a.l.drop i) (b.l.drop i)) (fun i => a.l.length - i) ⟨by omega, by simp⟩ ?_
    rintro i ⟨hi, hgo⟩
    have hlen : a.l.length = b.l.length := by omega
    repeat' (first
        | refine J.bu ?_
        | refine J.bg ?_
        | refine J.boxA nofun rfl .none (.plain rfl) (fun _ _ => ?_)
        | refine J.box1 nofun rfl .none (.plain rfl) rfl (fun _ _ => ?_)
        | refine J.alloc nofun rfl .none (fun _ _ => ?_)
        | refine J.sto ?_
        | refine J.stoN ?_
        | refine J.lit (fun _ _ => ?_)
        | refine J.alt nofun ?_ ?_
        | exact J.stop
        | refine J.callgc (fun _ w' hw => same_calls (el a.l default i).val (el b.l default i).val w' (Kn.get hw) (Kn.get hw)) ?_
        | refine J.fin ?_
        | refine G.seq ?_
        | refine G.region ?_
        | refine G.draw (by kernel_rfl) (by kernel_rfl) ?_
        | refine Fin.go ?_
        | refine G.condT ?_
        | refine G.condF ?_
        | (refine G.cond rfl (fun h => ?_) (fun h => ?_) <;> (have hp := h; try simp only [decide_eq_true_eq, decide_eq_false_iff_not, Bool.and_eq_true, Bool.or_eq_true, Bool.and_eq_false_iff, Bool.or_eq_false_iff, Bool.not_eq_true', Bool.not_eq_false'] at hp))
        | refine G.ret ?_
        | refine G.skip ?_
        | refine G.exit ?_
        | refine G.block ?_
        | refine Fin.resS Try.results19 ?_
        | refine Fin.resT Try.results19 ?_)
    · refine fun w' hw => ⟨?_, hw.out⟩
      rw [hgo, el_drop a.l default i (by omega), el_drop b.l default i (by omega)]
      have : sameR1 (el a.l default i) (el b.l default i) = false := by unfold sameR1 sameB; rw [h]; rfl
      simp [allB, this]
    · refine Fin.again (i + 1) ⟨by omega, ?_⟩ (by omega)
      rw [hgo, el_drop a.l default i (by omega), el_drop b.l default i (by omega)]
      have : sameR1 (el a.l default i) (el b.l default i) = true := by unfold sameR1 sameB; rw [h]; rfl
      simp [allB, this]
    · refine fun w' hw => ⟨?_, hw.out⟩
      rw [hgo, show i = a.l.length by omega, List.drop_length, hlen, List.drop_length]
      rfl
/-! the reader -/
/-- r lies within s. -/
structure Part (r s : Sl UInt8) : Prop where
  deep : ∀ w, Dp.deep s w → Dp.deep r w
  foot : ∀ b, Dp.foot r b → Dp.foot s b
theorem Part.refl (s : Sl UInt8) : Part s s := ⟨fun _ h => h, fun _ h => h⟩
theorem Part.trans {a b c : Sl UInt8} (h : Part a b) (h' : Part b c) : Part a c := ⟨fun w hw => h.deep w (h'.deep w hw), fun b hb => h'.foot b (h.foot b hb)⟩
theorem Part.none (s : Sl UInt8) : Part Sl.none s := ⟨fun w _ => Sl.none_deep w, fun b hb => by
  rcases hb with ⟨h, _⟩ | ⟨x, hx, _⟩
  · exact absurd rfl h
  · cases hx⟩
theorem Part.drop (s : Sl UInt8) (i : Nat) : Part (s.drop i 1) s := ⟨fun w h => Sl.drop_deep h i, fun b hb => by
  rcases hb with ⟨h, e⟩ | ⟨x, hx, hf⟩
  · refine .inl ⟨fun h0 => h (by simp [Sl.drop, h0]), ?_⟩
    rw [e]; exact add_block _ _
  · exact hf.elim⟩
theorem Part.head (s : Sl UInt8) (i : Nat) : Part (s.head i) s := ⟨fun w h => Sl.head_deep h i, fun b hb => by
  rcases hb with ⟨h, e⟩ | ⟨x, hx, hf⟩
  · exact .inl ⟨fun h0 => h (by simp [Sl.head, h0]), e⟩
  · exact hf.elim⟩
theorem Part.old {r s : Sl UInt8} {w : World} {mo : List Nat} (h : Part r s) (ho : Old w mo s) : Old w mo r := ⟨h.deep w ho.at0, fun b hb hf => ho.out b hb (h.foot b hf)⟩
abbrev rd (g : Nat) (s : Sl UInt8) : Res := .blk g (.cells [s.v].toArray 53 (0, 0))
def takeS (s : Sl UInt8) (n : Nat) : Sl UInt8 × Int × Sl UInt8 := if s.l.length < n then (Sl.none, 4, s) else (s.head n, 0, s.drop n 1)
theorem take_calls (s : Sl UInt8) (g n : Nat) (w : World) (h0 : Mem w [g] [rd g s] w) (hs : Old w [g] s) : Calls Try.prog 49 [pt g 0, .int .i64 (n : Int)].toArray w fun e w' => e = .returned (.tuple #[(takeS s n).1.v, .int .i64 (takeS s n).2.1]) ∧ Mem w [g] [rd g (takeS s n).2.2] w' := by
  refine enterM Try.func49 rfl Try.ntmps49 rfl (by repeat (first | exact SlotsF.nil | apply SlotsF.cons rfl)) h0 ?_
  repeat' (first
      | refine J.bu ?_
      | refine J.bg ?_
      | refine J.boxA nofun rfl .none (.plain rfl) (fun _ _ => ?_)
      | refine J.box1 nofun rfl .none (.plain rfl) rfl (fun _ _ => ?_)
      | refine J.alloc nofun rfl .none (fun _ _ => ?_)
      | refine J.sto ?_
      | refine J.stoN ?_
      | refine J.lit (fun _ _ => ?_)
      | refine J.alt nofun ?_ ?_
      | exact J.stop
      | refine J.fin ?_
      | refine G.seq ?_
      | refine G.region ?_
      | refine G.draw (by kernel_rfl) (by kernel_rfl) ?_
      | refine Fin.go ?_
      | refine G.condT ?_
      | refine G.condF ?_
      | (refine G.cond rfl (fun h => ?_) (fun h => ?_) <;> (have hp := h; try simp only [decide_eq_true_eq, decide_eq_false_iff_not, Bool.and_eq_true, Bool.or_eq_true, Bool.and_eq_false_iff, Bool.or_eq_false_iff, Bool.not_eq_true', Bool.not_eq_false'] at hp))
      | refine G.ret ?_
      | refine G.skip ?_
      | refine G.exit ?_
      | refine G.block ?_
      | refine Fin.resS Try.results49 ?_
      | refine Fin.resT Try.results49 ?_)
  · refine fun w' hw => ⟨?_, ?_⟩
    · simp [takeS, show s.l.length < n by omega]
    · simpa [takeS, show s.l.length < n by omega] using hw
  · refine fun w' hw => ⟨?_, ?_⟩
    · simp [takeS, show ¬ s.l.length < n by omega]
    · simpa [takeS, show ¬ s.l.length < n by omega] using hw
end Go.Proofs.Ytdhhjhkonmacdaa
