/- batch: the law BatchBack. -/
import Derived.Test.YtdhhjhkonmacdaaD17
namespace Go.Proofs.Ytdhhjhkonmacdaa
open Go.RowKit
set_option linter.unusedSimpArgs false
set_option maxHeartbeats 4000000
set_option linter.unusedVariables false
attribute [local irreducible] QV EvU Wt J G Fin
theorem putN {L : Sl Chg} (w : World) (h : Dp.deep L w) (hl : L.l.length ≤ 1048576) (hm : mayC L.l = false) : Gives Try.prog 6 [L.v] w (fun x : Sl UInt8 => True) (fun x => .tuple #[x.v, .int .i64 2]) :=
  (put_c L w h hl).mono fun e w' ⟨x, bs, hp, he, hw⟩ => by
    rw [hm, if_neg (by simp)] at hp
    exact ⟨x.1, bs, trivial, by rw [he]; simp only [hp.1], hw.heldTo fun w h => h.1⟩
theorem putY {L : Sl Chg} (w : World) (h : Dp.deep L w) (hl : L.l.length ≤ 1048576) (hm : mayC L.l = true) : Gives Try.prog 6 [L.v] w (fun x : Sl UInt8 => x.l = putB (L.l.map pc)) (fun x => .tuple #[x.v, .int .i64 0]) :=
  (put_c L w h hl).mono fun e w' ⟨x, bs, hp, he, hw⟩ => by
    rw [hm, if_pos rfl] at hp
    exact ⟨x.1, bs, hp.2, by rw [he]; simp only [hp.1], hw.heldTo fun w h => h.1⟩
theorem getY {b : Sl UInt8} {l : List PC} (w : World) (h : Dp.deep b w) (hl : b.l.length ≤ 140737488355328) (hg : getB b = (0, l)) : Gives Try.prog 8 [b.v] w (fun x : Sl Chg => x.l.map pc = l) (fun x => .tuple #[x.v, .int .i64 0]) :=
  (get_gives b w h hl).mono fun e w' ⟨x, bs, hp, he, hm⟩ => by
    rw [hg] at hp
    exact ⟨x.1, bs, hp.2, by rw [he]; simp only [hp.1], hm.heldTo fun w h => h.1⟩
theorem getE {b : Sl UInt8} {e : Int} (w : World) (h : Dp.deep b w) (hl : b.l.length ≤ 140737488355328) (hg : (getB b).1 = e) (he : ¬ e = 0) : Gives Try.prog 8 [b.v] w (fun x : Sl Chg => x.l = []) (fun x => .tuple #[x.v, .int .i64 e]) :=
  (get_gives b w h hl).mono fun en w' ⟨x, bs, hp, he2, hm⟩ => by
    have h2 : (getB b).2 = [] := by
      rw [getB_L] at hg ⊢
      exact getB_nil (by rw [hg]; exact he)
    rw [h2] at hp
    exact ⟨x.1, bs, by simpa using hp.2, by rw [he2]; simp only [hp.1, hg], hm.heldTo fun w h => h.1⟩
theorem mayT {L : Sl Chg} {v : Bool} (w : World) (h : Dp.deep L w) (hl : L.l.length ≤ 140737488355328) (hm : mayC L.l = v) : Calls Try.prog 7 [L.v].toArray w fun e w' => e = .returned (.bool v) ∧ Below w.heap.size w w' := hm ▸ mayc_calls L w h hl
theorem back_calls (l : Sl Chg) (b : Sl UInt8) (w : World) (hl : Dp.deep l w) (hb : Dp.deep b w) (hll : l.l.length ≤ 1048576) (hbl : b.l.length ≤ 1048576) : Calls Try.prog 3 [l.v, b.v].toArray w fun e w' => e = .returned (.bool true) ∧ Below w.heap.size w w' := by
  haveI := Old.of hl
  haveI := Old.of hb
  have hputl : mayC l.l = true → (putB (l.l.map pc)).length ≤ 140737488355328 := fun hm => by
    have := encs_len (l.l.map pc) (fun x hx => (mayP_mem (by rw [← mayC_pc]; exact hm) hx).1)
    rw [List.length_map] at this
    unfold putB
    rw [List.length_append, le_len]; omega
  obtain ⟨er, hger⟩ : ∃ e, (getB b).1 = e := ⟨_, rfl⟩
  have hback := @put_get b.l
  rw [← getB_L] at hback
  have hfst : er = 0 → getB b = (0, (getB b).2) := fun h => by rw [← h, ← hger]
  by_cases hm : mayC l.l = true
  · have hgp : ∀ X : Sl UInt8, X.l = putB (l.l.map pc) → getB X = (0, l.l.map pc) := fun X hX => by
      rw [getB_L, hX]
      exact get_put (by rw [← mayC_pc]; exact hm) (by rw [List.length_map]; omega)
    by_cases he : er = 0
    · subst he
      obtain ⟨p1, p2, p3⟩ := hback hger
      refine enter Try.func3 rfl Try.ntmps3 ?_
      repeat' (first
          | refine J.bu ?_
          | refine J.bg ?_
          | refine J.boxA nofun rfl .none (.plain rfl) (fun _ _ => ?_)
          | refine J.box1 nofun rfl .none (.plain rfl) rfl (fun _ _ => ?_)
          | refine J.alloc nofun rfl .none (fun _ _ => ?_)
          | refine J.sto ?_
          | refine J.stoN ?_
          | refine J.lit (fun _ _ => ?_)
          | refine J.alt nofun ?_ ?_
          | exact J.stop
          | refine G.condTh ?_
          | refine G.condFh ?_
          | refine J.cH (fun w' hw => getY (b := b) w' (Kn.get hw) (by omega) (hfst rfl)) (fun M cM hM => ?_)
          | refine J.cH (fun w' hw => putY (L := l) w' (Kn.get hw) (by omega) hm) (fun X cX hX => ?_)
          | refine J.call (F := 7) (v := .bool true) (fun w' hw => mayT (L := l) w' (Kn.get hw) (by omega) hm) ?_
          | refine J.cH (fun w' hw => getY (b := X) w' (Kn.get hw) (by rw [hX]; exact hputl hm) (hgp X hX)) (fun Y cY hY => ?_)
          | refine J.callgc (fun _ w' hw => changesT (a := Y) (b := l) hY w' (Kn.get hw) (Kn.get hw) (by rw [len_map hY]; simp; omega)) ?_
          | refine J.cH (fun w' hw => putY (L := M) w' (Kn.get hw) (by rw [len_map hM]; omega) (by rw [mayC_pc, hM]; exact p2)) (fun Z cZ hZ => ?_)
          | refine J.callgc (fun _ w' hw => sameT (a := Z) (b := b) (by rw [hZ, hM]; exact p1) w' (Kn.get hw) (Kn.get hw)) ?_
          | refine J.callgc (F := 7) (v := .bool true) (fun _ w' hw => mayT (L := M) w' (Kn.get hw) (by rw [len_map hM]; omega) (by rw [mayC_pc, hM]; exact p2)) ?_
          | refine J.callgc (fun _ w' hw => lives_calls w') ?_
          | refine J.fin ?_
          | refine G.seq ?_
          | refine G.region ?_
          | refine G.draw (by kernel_rfl) (by kernel_rfl) ?_
          | refine Fin.go ?_
          | refine G.condT ?_
          | refine G.condF ?_
          | (refine G.cond rfl (fun h => ?_) (fun h => ?_) <;> (have hp := h; try simp only [decide_eq_true_eq, decide_eq_false_iff_not, Bool.and_eq_true, Bool.or_eq_true, Bool.and_eq_false_iff, Bool.or_eq_false_iff, Bool.not_eq_true', Bool.not_eq_false'] at hp))
          | refine G.ret ?_
          | refine G.skip ?_
          | refine G.exit ?_
          | refine G.block ?_
          | refine Fin.resS Try.results3 ?_
          | refine Fin.resT Try.results3 ?_)
      all_goals first | contradiction | exact fun w' hw => ⟨by simp, hw.out⟩
    · refine enter Try.func3 rfl Try.ntmps3 ?_
      repeat' (first
          | refine J.bu ?_
          | refine J.bg ?_
          | refine J.boxA nofun rfl .none (.plain rfl) (fun _ _ => ?_)
          | refine J.box1 nofun rfl .none (.plain rfl) rfl (fun _ _ => ?_)
          | refine J.alloc nofun rfl .none (fun _ _ => ?_)
          | refine J.sto ?_
          | refine J.stoN ?_
          | refine J.lit (fun _ _ => ?_)
          | refine J.alt nofun ?_ ?_
          | exact J.stop
          | refine G.condTh ?_
          | refine G.condFh ?_
          | refine J.cH (fun w' hw => getE (b := b) w' (Kn.get hw) (by omega) hger he) (fun M cM hM => ?_)
          | refine J.cH (fun w' hw => putY (L := l) w' (Kn.get hw) (by omega) hm) (fun X cX hX => ?_)
          | refine J.call (F := 7) (v := .bool true) (fun w' hw => mayT (L := l) w' (Kn.get hw) (by omega) hm) ?_
          | refine J.cH (fun w' hw => getY (b := X) w' (Kn.get hw) (by rw [hX]; exact hputl hm) (hgp X hX)) (fun Y cY hY => ?_)
          | refine J.callgc (fun _ w' hw => changesT (a := Y) (b := l) hY w' (Kn.get hw) (Kn.get hw) (by rw [len_map hY]; simp; omega)) ?_
          | refine J.callgc (fun _ w' hw => lives_calls w') ?_
          | refine J.fin ?_
          | refine G.seq ?_
          | refine G.region ?_
          | refine G.draw (by kernel_rfl) (by kernel_rfl) ?_
          | refine Fin.go ?_
          | refine G.condT ?_
          | refine G.condF ?_
          | (refine G.cond rfl (fun h => ?_) (fun h => ?_) <;> (have hp := h; try simp only [decide_eq_true_eq, decide_eq_false_iff_not, Bool.and_eq_true, Bool.or_eq_true, Bool.and_eq_false_iff, Bool.or_eq_false_iff, Bool.not_eq_true', Bool.not_eq_false'] at hp))
          | refine G.ret ?_
          | refine G.skip ?_
          | refine G.exit ?_
          | refine G.block ?_
          | refine Fin.resS Try.results3 ?_
          | refine Fin.resT Try.results3 ?_)
      all_goals first | contradiction | (exfalso; exact he (by assumption)) | exact fun w' hw => ⟨by simp [hM], hw.out⟩
  · have hm' : mayC l.l = false := by simpa using hm
    by_cases he : er = 0
    · subst he
      obtain ⟨p1, p2, p3⟩ := hback hger
      refine enter Try.func3 rfl Try.ntmps3 ?_
      repeat' (first
          | refine J.bu ?_
          | refine J.bg ?_
          | refine J.boxA nofun rfl .none (.plain rfl) (fun _ _ => ?_)
          | refine J.box1 nofun rfl .none (.plain rfl) rfl (fun _ _ => ?_)
          | refine J.alloc nofun rfl .none (fun _ _ => ?_)
          | refine J.sto ?_
          | refine J.stoN ?_
          | refine J.lit (fun _ _ => ?_)
          | refine J.alt nofun ?_ ?_
          | exact J.stop
          | refine G.condTh ?_
          | refine G.condFh ?_
          | refine J.cH (fun w' hw => putN (L := l) w' (Kn.get hw) (by omega) hm') (fun X cX hX => ?_)
          | refine J.call (F := 7) (v := .bool false) (fun w' hw => mayT (L := l) w' (Kn.get hw) (by omega) hm') ?_
          | refine J.cH (fun w' hw => getY (b := b) w' (Kn.get hw) (by omega) (hfst rfl)) (fun M cM hM => ?_)
          | refine J.cH (fun w' hw => putY (L := M) w' (Kn.get hw) (by rw [len_map hM]; omega) (by rw [mayC_pc, hM]; exact p2)) (fun Z cZ hZ => ?_)
          | refine J.callgc (fun _ w' hw => sameT (a := Z) (b := b) (by rw [hZ, hM]; exact p1) w' (Kn.get hw) (Kn.get hw)) ?_
          | refine J.callgc (F := 7) (v := .bool true) (fun _ w' hw => mayT (L := M) w' (Kn.get hw) (by rw [len_map hM]; omega) (by rw [mayC_pc, hM]; exact p2)) ?_
          | refine J.callgc (fun _ w' hw => lives_calls w') ?_
          | refine J.fin ?_
          | refine G.seq ?_
          | refine G.region ?_
          | refine G.draw (by kernel_rfl) (by kernel_rfl) ?_
          | refine Fin.go ?_
          | refine G.condT ?_
          | refine G.condF ?_
          | (refine G.cond rfl (fun h => ?_) (fun h => ?_) <;> (have hp := h; try simp only [decide_eq_true_eq, decide_eq_false_iff_not, Bool.and_eq_true, Bool.or_eq_true, Bool.and_eq_false_iff, Bool.or_eq_false_iff, Bool.not_eq_true', Bool.not_eq_false'] at hp))
          | refine G.ret ?_
          | refine G.skip ?_
          | refine G.exit ?_
          | refine G.block ?_
          | refine Fin.resS Try.results3 ?_
          | refine Fin.resT Try.results3 ?_)
      all_goals first | contradiction | exact fun w' hw => ⟨by simp, hw.out⟩
    · refine enter Try.func3 rfl Try.ntmps3 ?_
      repeat' (first
          | refine J.bu ?_
          | refine J.bg ?_
          | refine J.boxA nofun rfl .none (.plain rfl) (fun _ _ => ?_)
          | refine J.box1 nofun rfl .none (.plain rfl) rfl (fun _ _ => ?_)
          | refine J.alloc nofun rfl .none (fun _ _ => ?_)
          | refine J.sto ?_
          | refine J.stoN ?_
          | refine J.lit (fun _ _ => ?_)
          | refine J.alt nofun ?_ ?_
          | exact J.stop
          | refine G.condTh ?_
          | refine G.condFh ?_
          | refine J.cH (fun w' hw => putN (L := l) w' (Kn.get hw) (by omega) hm') (fun X cX hX => ?_)
          | refine J.call (F := 7) (v := .bool false) (fun w' hw => mayT (L := l) w' (Kn.get hw) (by omega) hm') ?_
          | refine J.cH (fun w' hw => getE (b := b) w' (Kn.get hw) (by omega) hger he) (fun M cM hM => ?_)
          | refine J.callgc (fun _ w' hw => lives_calls w') ?_
          | refine J.fin ?_
          | refine G.seq ?_
          | refine G.region ?_
          | refine G.draw (by kernel_rfl) (by kernel_rfl) ?_
          | refine Fin.go ?_
          | refine G.condT ?_
          | refine G.condF ?_
          | (refine G.cond rfl (fun h => ?_) (fun h => ?_) <;> (have hp := h; try simp only [decide_eq_true_eq, decide_eq_false_iff_not, Bool.and_eq_true, Bool.or_eq_true, Bool.and_eq_false_iff, Bool.or_eq_false_iff, Bool.not_eq_true', Bool.not_eq_false'] at hp))
          | refine G.ret ?_
          | refine G.skip ?_
          | refine G.exit ?_
          | refine G.block ?_
          | refine Fin.resS Try.results3 ?_
          | refine Fin.resT Try.results3 ?_)
      all_goals first | contradiction | (exfalso; exact he (by assumption)) | exact fun w' hw => ⟨by simp [hM], hw.out⟩
end Go.Proofs.Ytdhhjhkonmacdaa
