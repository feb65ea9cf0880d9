/- batch: the reader's numbers and changes. -/
import Derived.Test.YtdhhjhkonmacdaaD8
namespace Go.Proofs.Ytdhhjhkonmacdaa
open Go.RowKit
set_option linter.unusedSimpArgs false
set_option maxHeartbeats 4000000
set_option linter.unusedVariables false
attribute [local irreducible] QV EvU Wt J G Fin
theorem numS_part (s : Sl UInt8) (k : Nat) : Part (numS s k).2.2 s ∧ (numS s k).2.2.l.length ≤ s.l.length := by
  unfold numS
  split
  · exact ⟨Part.refl s, Nat.le_refl _⟩
  · exact ⟨Part.drop s k, by simp [Sl.drop]⟩
theorem takeS_part (s : Sl UInt8) (k : Nat) : Part (takeS s k).2.2 s ∧ (takeS s k).2.2.l.length ≤ s.l.length ∧ Part (takeS s k).1 s ∧ (takeS s k).1.l.length ≤ s.l.length := by
  unfold takeS
  split
  · exact ⟨Part.refl s, Nat.le_refl _, Part.none s, by simp⟩
  · exact ⟨Part.drop s k, by simp [Sl.drop], Part.head s k, by simp [Sl.head]; omega⟩
/-- What a change off the bytes comes to: the error, the key, the value, whether it is gone, what is left. -/
def chS (s : Sl UInt8) : Int × ByteArray × List UInt8 × Bool × Sl UInt8 :=
  let q1 := numS s 1
  if ¬ q1.2.1 = 0 then (q1.2.1, e0, [], false, q1.2.2)
  else
    let q2 := takeS q1.2.2 q1.1
    if ¬ q2.2.1 = 0 then (q2.2.1, e0, [], false, q2.2.2)
    else
      let q3 := numS q2.2.2 1
      if ¬ q3.2.1 = 0 then (q3.2.1, textOf q2.1.l, [], false, q3.2.2)
      else if 1 < q3.1 then (5, textOf q2.1.l, [], false, q3.2.2)
      else if q3.1 = 1 then (0, textOf q2.1.l, [], true, q3.2.2)
      else
        let q4 := numS q3.2.2 4
        if ¬ q4.2.1 = 0 then (q4.2.1, textOf q2.1.l, [], false, q4.2.2)
        else if 524288 < q4.1 then (3, textOf q2.1.l, [], false, q4.2.2)
        else
          let q5 := takeS q4.2.2 q4.1
          (q5.2.1, textOf q2.1.l, q5.1.l, false, q5.2.2)
structure ChR where
  x : Chg
  bs : List Nat
def ChOk (s : Sl UInt8) (x : Chg) : Prop := x.key = (chS s).2.1 ∧ x.val.l = (chS s).2.2.1 ∧ x.gone = (chS s).2.2.2.1
theorem numC {s : Sl UInt8} {k n : Nat} {e : Int} {r : Sl UInt8} (hq : numS s k = (n, e, r)) {g : Nat} (hk : k = 1 ∨ k = 4) {w : World} (h0 : Mem w [g] [rd g s] w) (hs : Old w [g] s) (hl : s.l.length ≤ 140737488355328) : Calls Try.prog 27 [pt g 0, .int .i64 (k : Int)].toArray w fun en w' => ∃ _ : Unit, en = .returned (.tuple #[.int .i64 (n : Int), .int .i64 e]) ∧ Mem w [g] [rd g r] w' := by
  have := number_calls s g k hk w h0 hs hl
  rw [hq] at this
  exact this.mono fun e w' h => ⟨(), h⟩
theorem takeC {s : Sl UInt8} {n : Nat} {e : Int} {r v : Sl UInt8} (hq : takeS s n = (v, e, r)) {g : Nat} {w : World} (h0 : Mem w [g] [rd g s] w) (hs : Old w [g] s) : Calls Try.prog 49 [pt g 0, .int .i64 (n : Int)].toArray w fun en w' => ∃ _ : Unit, en = .returned (.tuple #[v.v, .int .i64 e]) ∧ Mem w [g] [rd g r] w' := by
  have := take_calls s g n w h0 hs
  rw [hq] at this
  exact this.mono fun e w' h => ⟨(), h⟩
theorem Old.in {w0 w : World} {mo : List Nat} {m : List Res} {s : Sl UInt8} (h : Old w0 mo s) (hw : Mem w0 mo m w) : Old w mo s := ⟨h.later hw, h.out⟩
theorem Sl.one {α : Type} (s : Sl α) : s.v.oneCell' = true := by unfold Sl.v; rfl
theorem ch_end {s r : Sl UInt8} {er : Int} {key : ByteArray} {gone : Bool} {g G : Nat} {w w' : World} {ob : Obj} (hch : chS s = (er, key, [], gone, r)) (hw : Mem w [g] [rd g r, .blk G ob] w') :
    ∃ i : ChR, ChOk s i.x ∧ Ending.returned (.tuple #[.agg #[.string key, .slice none 0 0, .bool gone], .int .i64 er]) = .returned (.tuple #[.agg i.x.cells.toArray, .int .i64 (chS s).1]) ∧ Mem w [g] [.held i.bs (Dp.deep i.x), rd g (chS s).2.2.2.2] w' := by
  unfold ChOk
  rw [hch]
  refine ⟨⟨⟨key, Sl.none, gone⟩, []⟩, ⟨rfl, rfl, rfl⟩, by simp [Chg.cells], ?_⟩
  exact (hw.forget (m' := [rd g r]) (by repeat (first | exact List.Sublist.refl _ | exact List.nil_sublist _ | apply List.Sublist.cons_cons | apply List.Sublist.cons))).add0 (fun w => Sl.none_deep w)
theorem change_calls (s : Sl UInt8) (g : Nat) (w : World) (h0 : Mem w [g] [rd g s] w) (hs : Old w [g] s) (hl : s.l.length ≤ 140737488355328) : Calls Try.prog 28 [pt g 0].toArray w fun e w' => ∃ i : ChR, ChOk s i.x ∧ e = .returned (.tuple #[.agg i.x.cells.toArray, .int .i64 (chS s).1]) ∧ Mem w [g] [.held i.bs (Dp.deep i.x), rd g (chS s).2.2.2.2] w' := by
  obtain ⟨n1, e1, s1, hN1⟩ : ∃ n e r, numS s 1 = (n, e, r) := ⟨_, _, _, rfl⟩
  obtain ⟨v2, e2, s2, hN2⟩ : ∃ n e r, takeS s1 n1 = (n, e, r) := ⟨_, _, _, rfl⟩
  obtain ⟨n3, e3, s3, hN3⟩ : ∃ n e r, numS s2 1 = (n, e, r) := ⟨_, _, _, rfl⟩
  obtain ⟨n4, e4, s4, hN4⟩ : ∃ n e r, numS s3 4 = (n, e, r) := ⟨_, _, _, rfl⟩
  obtain ⟨v5, e5, s5, hN5⟩ : ∃ n e r, takeS s4 n4 = (n, e, r) := ⟨_, _, _, rfl⟩
  have p1 := numS_part s 1; rw [hN1] at p1
  have p2 := takeS_part s1 n1; rw [hN2] at p2
  have p3 := numS_part s2 1; rw [hN3] at p3
  have p4 := numS_part s3 4; rw [hN4] at p4
  have p5 := takeS_part s4 n4; rw [hN5] at p5
  haveI := hs
  haveI o1 := p1.1.old hs
  haveI o2 := p2.1.old o1
  haveI o3 := p3.1.old o2
  haveI o4 := p4.1.old o3
  haveI o5 := p5.1.old o4
  haveI ov2 := p2.2.2.1.old o1
  haveI ov5 := p5.2.2.1.old o4
  simp only at p1 p2 p3 p4 p5
  refine enterM Try.func28 rfl Try.ntmps28 rfl (by repeat (first | exact SlotsF.nil | apply SlotsF.cons rfl)) h0 ?_
  repeat' (first
      | refine J.bu ?_
      | refine J.bg ?_
      | refine J.boxA nofun rfl .none (.plain rfl) (fun _ _ => ?_)
      | refine J.box1 nofun rfl .none (.plain rfl) rfl (fun _ _ => ?_)
      | refine J.alloc nofun rfl .none (fun _ _ => ?_)
      | refine J.sto ?_
      | refine J.stoN ?_
      | refine J.lit (fun _ _ => ?_)
      | refine J.alt nofun ?_ ?_
      | exact J.stop
      | refine J.cW (m1 := [rd g s]) (m1' := fun _ => [rd g s1]) (fun w' hw hm => numC hN1 (.inl rfl) hm (hs.in hw) hl) (fun _ => ?_)
      | refine J.cW (m1 := [rd g s1]) (m1' := fun _ => [rd g s2]) (fun w' hw hm => takeC hN2 hm (o1.in hw)) (fun _ => ?_)
      | refine J.cW (m1 := [rd g s2]) (m1' := fun _ => [rd g s3]) (fun w' hw hm => numC hN3 (.inl rfl) hm (o2.in hw) (by omega)) (fun _ => ?_)
      | refine J.cW (m1 := [rd g s3]) (m1' := fun _ => [rd g s4]) (fun w' hw hm => numC hN4 (.inr rfl) hm (o3.in hw) (by omega)) (fun _ => ?_)
      | refine J.cW (m1 := [rd g s4]) (m1' := fun _ => [rd g s5]) (fun w' hw hm => takeC hN5 hm (o4.in hw)) (fun _ => ?_)
      | refine J.cH (fun w' hw => clone_gives v5 w' (ov5.later hw) (by omega)) (fun x bs hx => ?_)
      | refine J.fin ?_
      | refine G.seq ?_
      | refine G.region ?_
      | refine G.draw (by kernel_rfl) (by kernel_rfl) ?_
      | refine Fin.go ?_
      | refine G.condT ?_
      | refine G.condF ?_
      | (refine G.cond rfl (fun h => ?_) (fun h => ?_) <;> (have hp := h; try simp only [decide_eq_true_eq, decide_eq_false_iff_not, Bool.and_eq_true, Bool.or_eq_true, Bool.and_eq_false_iff, Bool.or_eq_false_iff, Bool.not_eq_true', Bool.not_eq_false'] at hp))
      | refine G.ret ?_
      | refine G.skip ?_
      | refine G.exit ?_
      | refine G.block ?_
      | refine Fin.resS Try.results28 ?_
      | refine Fin.resT Try.results28 ?_)
  · exact fun w' hw => ch_end (by first | (simp_all [chS, e0]; done) | (simp_all [chS, e0]; (try intros); (repeat' split) <;> first | rfl | (exfalso; omega) | simp_all)) hw
  · exact fun w' hw => ch_end (by first | (simp_all [chS, e0]; done) | (simp_all [chS, e0]; (try intros); (repeat' split) <;> first | rfl | (exfalso; omega) | simp_all)) hw
  · exact fun w' hw => ch_end (by first | (simp_all [chS, e0]; done) | (simp_all [chS, e0]; (try intros); (repeat' split) <;> first | rfl | (exfalso; omega) | simp_all)) hw
  · exact fun w' hw => ch_end (by first | (simp_all [chS, e0]; done) | (simp_all [chS, e0]; (try intros); (repeat' split) <;> first | rfl | (exfalso; omega) | simp_all)) hw
  · exact fun w' hw => ch_end (by first | (simp_all [chS, e0]; done) | (simp_all [chS, e0]; (try intros); (repeat' split) <;> first | rfl | (exfalso; omega) | simp_all)) hw
  · exact fun w' hw => ch_end (by first | (simp_all [chS, e0]; done) | (simp_all [chS, e0]; (try intros); (repeat' split) <;> first | rfl | (exfalso; omega) | simp_all)) hw
  · exact fun w' hw => ch_end (by first | (simp_all [chS, e0]; done) | (simp_all [chS, e0]; (try intros); (repeat' split) <;> first | rfl | (exfalso; omega) | simp_all)) hw
  · refine fun w' hw => ?_
    have hch : chS s = (e5, textOf v2.l, v5.l, false, s5) := by first | (simp_all [chS, e0]; done) | (simp_all [chS, e0]; (try intros); (repeat' split) <;> first | rfl | (exfalso; omega) | simp_all)
    unfold ChOk
    rw [hch]
    exact ⟨⟨⟨textOf v2.l, x, false⟩, bs⟩, ⟨rfl, hx, rfl⟩, rfl, hw.forget (by repeat (first | exact List.Sublist.refl _ | exact List.nil_sublist _ | apply List.Sublist.cons_cons | apply List.Sublist.cons))⟩
end Go.Proofs.Ytdhhjhkonmacdaa
