/- batch: Get. -/
import Derived.Test.YtdhhjhkonmacdaaD10
namespace Go.Proofs.Ytdhhjhkonmacdaa
open Go.RowKit
set_option linter.unusedSimpArgs false
set_option maxHeartbeats 4000000
set_option linter.unusedVariables false
attribute [local irreducible] QV EvU Wt J G Fin
theorem Mem.front {w0 w : World} {mo : List Nat} {m m2 : List Res} (r : Res) [h : TakeC [r] m m2] (hw : Mem w0 mo m w) : Mem w0 mo (r :: m2) w := hw.perm h.take.perm
instance (priority := low) kn_ownN {α : Type} [GoT α] {w0 : World} {mo : List Nat} {m : List Res} {s : Sl α} [h : OwnM m s] [h2 : InM m s.l] : Kn w0 mo m s := ⟨fun w hw => by
  obtain ⟨e, h⟩ := h.mem
  obtain ⟨bs, h2⟩ := h2.mem
  exact ⟨own_row (hw.sat _ h), (hw.sat _ h2).1⟩⟩
instance natMax2 (n : Nat) : NatI (imax ((n : Int) - 2) 0) (n - 2) := ⟨by unfold imax; split <;> omega⟩
abbrev PC := ByteArray × List UInt8 × Bool
def pc (x : Chg) : PC := (x.key, x.val.l, x.gone)
def mayP (l : List PC) : Bool := !l.any (fun x => x.2.2 && decide (0 < x.2.1.length)) && rises true e0 (l.map fun x => (x.1, x.2.1.length))
theorem mayC_pc (l : List Chg) : mayC l = mayP (l.map pc) := by
  unfold mayC mayP risesL
  rw [List.any_map, List.map_map]
  rfl
def getN : Nat → Sl UInt8 → List PC → Int × List PC × Sl UInt8
  | 0, s, acc => (0, acc, s)
  | n + 1, s, acc =>
    if ¬ (chS s).1 = 0 then ((chS s).1, [], s)
    else if mayP ((acc ++ [((chS s).2.1, (chS s).2.2.1, (chS s).2.2.2.1)]).drop ((acc ++ [((chS s).2.1, (chS s).2.2.1, (chS s).2.2.2.1)]).length - 2)) = false then (5, [], s)
    else getN n (chS s).2.2.2.2 (acc ++ [((chS s).2.1, (chS s).2.2.1, (chS s).2.2.2.1)])
def getB (b : Sl UInt8) : Int × List PC :=
  if ¬ (numS b 4).2.1 = 0 then ((numS b 4).2.1, [])
  else if ¬ (getN (numS b 4).1 (numS b 4).2.2 []).1 = 0 then ((getN (numS b 4).1 (numS b 4).2.2 []).1, [])
  else if 0 < (getN (numS b 4).1 (numS b 4).2.2 []).2.2.l.length then (5, [])
  else (0, (getN (numS b 4).1 (numS b 4).2.2 []).2.1)
theorem chS_part (s : Sl UInt8) : Part (chS s).2.2.2.2 s ∧ (chS s).2.2.2.2.l.length ≤ s.l.length := by
  obtain ⟨n1, e1, s1, hN1⟩ : ∃ n e r, numS s 1 = (n, e, r) := ⟨_, _, _, rfl⟩
  obtain ⟨v2, e2, s2, hN2⟩ : ∃ n e r, takeS s1 n1 = (n, e, r) := ⟨_, _, _, rfl⟩
  obtain ⟨n3, e3, s3, hN3⟩ : ∃ n e r, numS s2 1 = (n, e, r) := ⟨_, _, _, rfl⟩
  obtain ⟨n4, e4, s4, hN4⟩ : ∃ n e r, numS s3 4 = (n, e, r) := ⟨_, _, _, rfl⟩
  obtain ⟨v5, e5, s5, hN5⟩ : ∃ n e r, takeS s4 n4 = (n, e, r) := ⟨_, _, _, rfl⟩
  have p1 := numS_part s 1; rw [hN1] at p1
  have p2 := takeS_part s1 n1; rw [hN2] at p2
  have p3 := numS_part s2 1; rw [hN3] at p3
  have p4 := numS_part s3 4; rw [hN4] at p4
  have p5 := takeS_part s4 n4; rw [hN5] at p5
  simp only at p1 p2 p3 p4 p5
  have r2 : Part s2 s ∧ s2.l.length ≤ s.l.length := ⟨p2.1.trans p1.1, by omega⟩
  have r3 : Part s3 s ∧ s3.l.length ≤ s.l.length := ⟨p3.1.trans r2.1, by omega⟩
  have r4 : Part s4 s ∧ s4.l.length ≤ s.l.length := ⟨p4.1.trans r3.1, by omega⟩
  have r5 : Part s5 s ∧ s5.l.length ≤ s.l.length := ⟨p5.1.trans r4.1, by omega⟩
  simp only [chS, hN1, hN2, hN3, hN4, hN5]
  (repeat' split) <;> first | exact p1 | exact r2 | exact r3 | exact r4 | exact r5
theorem deep_snoc {α : Type} [GoT α] {l l' : List α} {x : α} {w : World} (h : l' = l ++ [x]) (h1 : Dp.deep l w) (h2 : Dp.deep x w) : Dp.deep l' w := by
  subst h
  intro y hy
  rcases List.mem_append.1 hy with hy | hy
  · exact h1 y hy
  · simp at hy; subst hy; exact h2
theorem getB_of {b s0 : Sl UInt8} {n0 : Nat} {q : Int × List PC × Sl UInt8} (hN0 : numS b 4 = (n0, 0, s0)) (hq : getN n0 s0 [] = q) : getB b = if ¬ q.1 = 0 then (q.1, []) else if 0 < q.2.2.l.length then (5, []) else (0, q.2.1) := by simp [getB, hN0, hq]
theorem chC {s : Sl UInt8} {g : Nat} {w : World} (h0 : Mem w [g] [rd g s] w) (hs : Old w [g] s) (hl : s.l.length ≤ 140737488355328) : Calls Try.prog 28 [pt g 0].toArray w fun e w' => ∃ i : { i : ChR // ChOk s i.x }, e = .returned (.tuple #[.agg i.1.x.cells.toArray, .int .i64 (chS s).1]) ∧ Mem w [g] [.held i.1.bs (Dp.deep i.1.x), rd g (chS s).2.2.2.2] w' :=
  (change_calls s g w h0 hs hl).mono fun e w' ⟨i, h1, h2, h3⟩ => ⟨⟨i, h1⟩, h2, h3⟩
theorem get_gives (b : Sl UInt8) (w : World) (hb : Dp.deep b w) (hl : b.l.length ≤ 140737488355328) : Gives Try.prog 8 [b.v] w (fun x : Sl Chg × Int => x.2 = (getB b).1 ∧ x.1.l.map pc = (getB b).2) (fun x => .tuple #[x.1.v, .int .i64 x.2]) := by
  obtain ⟨n0, er0, s0, hN0⟩ : ∃ n e r, numS b 4 = (n, e, r) := ⟨_, _, _, rfl⟩
  have hn0 : n0 < 4294967296 := by
    have h1 : n0 = (numS b 4).1 := by rw [hN0]
    rw [h1]; unfold numS
    split
    · simp
    · have := unle_lt (b.l.take 4)
      rw [List.length_take, Nat.min_eq_left (by omega)] at this
      simpa using this
  have p0 := numS_part b 4; rw [hN0] at p0
  simp only at p0
  haveI := Old.of hb
  haveI o0 := p0.1.old this
  refine enter Try.func8 rfl Try.ntmps8 ?_
  repeat' (first
      | refine J.bu ?_
      | refine J.bg ?_
      | refine J.boxA nofun rfl .none (.plain rfl) (fun _ _ => ?_)
      | refine J.box1 nofun rfl .none (.plain rfl) rfl (fun _ _ => ?_)
      | refine J.alloc nofun rfl .none (fun _ _ => ?_)
      | refine J.sto ?_
      | refine J.stoN ?_
      | refine J.lit (fun _ _ => ?_)
      | refine J.alt nofun ?_ ?_
      | exact J.stop
      | refine J.cW (m1 := [rd _ b]) (m1' := fun _ => [rd _ s0]) (fun w' hw hm => numC hN0 (.inr rfl) hm (Old.of1 (this.later hw) (fresh_not hw mem0 hb)) hl) (fun _ => ?_)
      | refine J.fin ?_
      | refine G.seq ?_
      | refine G.region ?_
      | refine G.draw (by kernel_rfl) (by kernel_rfl) ?_
      | refine Fin.go ?_
      | refine G.condT ?_
      | refine G.condF ?_
      | (refine G.cond rfl (fun h => ?_) (fun h => ?_) <;> (have hp := h; try simp only [decide_eq_true_eq, decide_eq_false_iff_not, Bool.and_eq_true, Bool.or_eq_true, Bool.and_eq_false_iff, Bool.or_eq_false_iff, Bool.not_eq_true', Bool.not_eq_false'] at hp))
      | refine G.ret ?_
      | refine G.skip ?_
      | refine G.exit ?_
      | refine G.block ?_
      | refine Fin.resS Try.results8 ?_
      | refine Fin.resT Try.results8 ?_)
  · refine fun w' hw => ⟨(Sl.none, er0), [], ⟨by simp [getB, hN0, hp], by simp [getB, hN0, hp]⟩, rfl, ?_⟩
    exact (hw.forget (m' := []) (List.nil_sublist _)).add0 (fun w => ⟨Sl.none_deep w, trivial⟩)
  · rename_i g hg u
    have h00 : er0 = 0 := by simpa using hp
    subst h00
    refine G.loop4 (0 : Nat) (Sl.none : Sl Chg) ([] : List Nat) s0 (fun i S bs s => [(22, .int .i64 (i : Nat)), (21, .int .i64 (n0 : Nat)), (7, S.v), (4, pt g 0)]) (fun i S bs s => [rd g s, Res.own 45 S, .held bs (Dp.deep S.l)])
      (fun i S bs s => i ≤ n0 ∧ S.l.length = i ∧ Part s b ∧ s.l.length ≤ b.l.length ∧ getN n0 s0 [] = getN (n0 - i) s (S.l.map pc)) (fun i _ _ _ => n0 - i) ⟨by omega, rfl, p0.1, p0.2, by simp⟩ ?_ (hm := fun w' hw => ?_)
    · rintro i S bs s ⟨hi, hSl, hP, hsl, hgo⟩
      repeat' (first
          | refine J.bu ?_
          | refine J.bg ?_
          | refine J.boxA nofun rfl .none (.plain rfl) (fun _ _ => ?_)
          | refine J.box1 nofun rfl .none (.plain rfl) rfl (fun _ _ => ?_)
          | refine J.alloc nofun rfl .none (fun _ _ => ?_)
          | refine J.sto ?_
          | refine J.stoN ?_
          | refine J.lit (fun _ _ => ?_)
          | refine J.alt nofun ?_ ?_
          | exact J.stop
          | refine J.cW (ι := { i : ChR // ChOk s i.x }) (m1 := [rd g s]) (m1' := fun c => [.held c.1.bs (Dp.deep c.1.x), rd g (chS s).2.2.2.2]) (fun w' hw hm => chC hm (Old.of1 ((hP.old (Old.of hb)).later hw) (fun hf => fresh_not hw mem0 hb (hP.foot _ hf))) (by omega)) (fun c => ?_)
          | (refine J.ap1 (S := S) c.1.x (fun S' hS' hn' => ?_); have hl' : S'.l.length = i + 1 := by simp [hS', hSl])
          | (refine J.call (F := 7) (v := .bool (mayC (S'.drop (S'.l.length - 2) 3).l)) (fun w' hw => ?_) ?_; focus exact mayc_calls (S'.drop (S'.l.length - 2) 3) w' (Sl.drop_deep (α := Chg) ⟨own_row (e := 45) (hw.sat (Res.own 45 S') (by repeat (first | exact mem0 | apply mem1))), deep_snoc hS' (hw.sat (.held bs (Dp.deep S.l)) (by repeat (first | exact mem0 | apply mem1))).1 (hw.sat (.held c.1.bs (Dp.deep c.1.x)) (by repeat (first | exact mem0 | apply mem1))).1⟩ _) (by simp [Sl.drop, hS', hSl]; omega))
          | refine J.fin ?_
          | refine G.seq ?_
          | refine G.region ?_
          | refine G.draw (by kernel_rfl) (by kernel_rfl) ?_
          | refine Fin.go ?_
          | refine G.condT ?_
          | refine G.condF ?_
          | (refine G.cond rfl (fun h => ?_) (fun h => ?_) <;> (have hp := h; try simp only [decide_eq_true_eq, decide_eq_false_iff_not, Bool.and_eq_true, Bool.or_eq_true, Bool.and_eq_false_iff, Bool.or_eq_false_iff, Bool.not_eq_true', Bool.not_eq_false'] at hp))
          | refine G.ret ?_
          | refine G.skip ?_
          | refine G.exit ?_
          | refine G.block ?_
          | refine Fin.resS Try.results8 ?_
          | refine Fin.resT Try.results8 ?_)
      · refine fun w' hw => ⟨(Sl.none, (chS s).1), [], ?_, rfl, ?_⟩
        · have he : ¬ (chS s).1 = 0 := by simpa using hp
          have hgn : getN n0 s0 [] = ((chS s).1, [], s) := by
            rw [hgo, show n0 - i = (n0 - i - 1) + 1 by omega]
            simp only [getN]
            rw [if_pos he]
          rw [getB_of hN0 hgn]
          simp [he]
        · exact (hw.forget (m' := []) (List.nil_sublist _)).add0 (fun w => ⟨Sl.none_deep w, trivial⟩)
      · have he : (chS s).1 = 0 := by assumption
        have hpc : pc c.1.x = ((chS s).2.1, (chS s).2.2.1, (chS s).2.2.2.1) := by obtain ⟨h1, h2, h3⟩ := c.2; simp [pc, h1, h2, h3]
        have hm : mayC (S'.drop (S'.l.length - 2) 3).l = mayP ((S.l.map pc ++ [((chS s).2.1, (chS s).2.2.1, (chS s).2.2.2.1)]).drop ((S.l.map pc ++ [((chS s).2.1, (chS s).2.2.1, (chS s).2.2.2.1)]).length - 2)) := by
          rw [mayC_pc, ← hpc]
          show mayP ((S'.l.drop _).map pc) = _
          rw [hS']; simp
        refine fun w' hw => ⟨(Sl.none, 5), [], ?_, rfl, ?_⟩
        · have hgn : getN n0 s0 [] = (5, [], s) := by
            rw [hgo, show n0 - i = (n0 - i - 1) + 1 by omega]
            simp only [getN]
            rw [if_neg (by simp [he]), if_pos (by rw [← hm]; simpa using h)]
          rw [getB_of hN0 hgn]
          simp
        · exact (hw.forget (m' := []) (List.nil_sublist _)).add0 (fun w => ⟨Sl.none_deep w, trivial⟩)
      · have he : (chS s).1 = 0 := by assumption
        have hpc : pc c.1.x = ((chS s).2.1, (chS s).2.2.1, (chS s).2.2.2.1) := by obtain ⟨h1, h2, h3⟩ := c.2; simp [pc, h1, h2, h3]
        have hm : mayC (S'.drop (S'.l.length - 2) 3).l = mayP ((S.l.map pc ++ [((chS s).2.1, (chS s).2.2.1, (chS s).2.2.2.1)]).drop ((S.l.map pc ++ [((chS s).2.1, (chS s).2.2.1, (chS s).2.2.2.1)]).length - 2)) := by
          rw [mayC_pc, ← hpc]
          show mayP ((S'.l.drop _).map pc) = _
          rw [hS']; simp
        refine Fin.again4 (i + 1) S' (c.1.bs ++ bs) (chS s).2.2.2.2 ⟨by omega, by simp [hS', hSl], (chS_part s).1.trans hP, by have := (chS_part s).2; omega, ?_⟩ (by omega) (hm := fun w' hw => ?_)
        · rw [hgo, show n0 - i = (n0 - (i + 1)) + 1 by omega]
          simp only [getN]
          rw [if_neg (by simp [he]), if_neg (by rw [← hm]; simpa using h)]
          rw [hS', List.map_append, List.map_cons, hpc]; rfl
        · have h1 := (hw.front (.held bs (Dp.deep S.l))).front (.held c.1.bs (Dp.deep c.1.x))
          have h2 := Mem.heldJoin (z := S'.l) h1 (fun w a b => deep_snoc hS' b a)
          have h3 := (h2.front (Res.own 45 S')).front (rd g (chS s).2.2.2.2)
          exact h3.forget (by repeat (first | exact List.Sublist.refl _ | exact List.nil_sublist _ | apply List.Sublist.cons_cons | apply List.Sublist.cons))
      · have hgn : getN n0 s0 [] = (0, S.l.map pc, s) := by rw [hgo, show n0 - i = 0 by omega]; rfl
        refine fun w' hw => ⟨(Sl.none, 5), [], ?_, rfl, ?_⟩
        · rw [getB_of hN0 hgn]
          have : 0 < s.l.length := by omega
          simp [this]
        · exact (hw.forget (m' := []) (List.nil_sublist _)).add0 (fun w => ⟨Sl.none_deep w, trivial⟩)
      · have hgn : getN n0 s0 [] = (0, S.l.map pc, s) := by rw [hgo, show n0 - i = 0 by omega]; rfl
        refine fun w' hw => ⟨(S, 0), _, ?_, rfl, (((hw.front (.held bs (Dp.deep S.l))).front (Res.own 45 S)).freezeN.forget (m' := [_]) (by repeat (first | exact List.Sublist.refl _ | exact List.nil_sublist _ | apply List.Sublist.cons_cons | apply List.Sublist.cons))).heldTo (fun w h => ⟨h, trivial⟩)⟩
        rw [getB_of hN0 hgn]
        have : ¬ 0 < s.l.length := by omega
        simp [this]
    · have h1 := (hw.own0 (α := Chg) 45).add0 (Φ := Dp.deep ([] : List Chg)) (fun w x hx => by cases hx)
      exact (h1.front (Res.own 45 (Sl.none : Sl Chg))).front (rd g s0)
end Go.Proofs.Ytdhhjhkonmacdaa
