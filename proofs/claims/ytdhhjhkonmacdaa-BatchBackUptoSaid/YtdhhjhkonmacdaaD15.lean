/- batch: both, as Apply calls it. -/
import Derived.Test.YtdhhjhkonmacdaaD14
namespace Go.Proofs.Ytdhhjhkonmacdaa
open Go.RowKit
set_option linter.unusedSimpArgs false
set_option maxHeartbeats 4000000
set_option linter.unusedVariables false
attribute [local irreducible] QV EvU Wt J G Fin
def outC (y : Chg) : List (ByteArray × List UInt8) := if y.gone then [] else [(y.key, y.val.l)]
/-- A table behind changes. -/
def mergeC : List RowD → List Chg → List (ByteArray × List UInt8)
  | [], [] => []
  | x :: r, [] => pr x :: mergeC r []
  | [], y :: q => outC y ++ mergeC [] q
  | x :: r, y :: q => if cmpB x.key y.key < 0 then pr x :: mergeC r (y :: q) else if 0 < cmpB x.key y.key then outC y ++ mergeC (x :: r) q else outC y ++ mergeC r q
termination_by a b => a.length + b.length
theorem Owm.sub {m m1 m2 : List Res} {w0 w : World} (h : Mem w0 (blocksOf m1) m w) (e : blocksOf m1 = blocksOf m2) : Mem w0 (blocksOf m2) m w := e ▸ h
structure St (w0 : World) (mo : List Nat) (a : Sl RowD) (b : Sl Chg) (O0 O : Sl RowD) (S : List RowD) (T : List Chg) : Prop where
  oa : Old w0 mo a
  ob : Old w0 mo b
  va : ∀ x ∈ a.l, x.val.l.length ≤ 140737488355328
  vb : ∀ x ∈ b.l, x.val.l.length ≤ 140737488355328
  len : O.l.length + a.l.length + b.l.length ≤ 1099511627776
  go : O.l.map pr ++ mergeC a.l b.l = O0.l.map pr ++ mergeC S T
theorem el0 {α : Type} {l : List α} {d : α} (h : 0 < l.length) : l = el l d 0 :: l.drop 1 := by have := el_drop l d 0 h; simpa using this
section
variable {w0 : World} {mo : List Nat} {a : Sl RowD} {b : Sl Chg} {O0 O : Sl RowD} {S : List RowD} {T : List Chg}
theorem St.left (h : St w0 mo a b O0 O S T) (ha : 0 < a.l.length) (hc : 0 < b.l.length → cmpB (el a.l default 0).key (el b.l default 0).key < 0) (q : { q : Sl RowD × List Nat // q.1.l.map pr = O.l.map pr ++ [pr (el a.l default 0)] }) : St w0 mo (a.drop 1 2) b O0 q.1.1 S T := by
  have hq := q.2
  have hn : q.1.1.l.length = O.l.length + 1 := by have := congrArg List.length hq; simpa using this
  refine ⟨h.oa.drop 1, h.ob, fun x hx => h.va x (List.mem_of_mem_drop hx), h.vb, by have := h.len; simp [Sl.drop]; omega, ?_⟩
  rw [← h.go, hq, List.append_assoc]
  congr 1
  show [pr (el a.l default 0)] ++ mergeC (a.l.drop 1) b.l = mergeC a.l b.l
  conv => rhs; rw [el0 (d := default) ha]
  by_cases hb : 0 < b.l.length
  · conv => rhs; rw [el0 (d := default) hb]
    rw [mergeC, if_pos (hc hb), ← el0 hb]
    rfl
  · have : b.l = [] := List.eq_nil_of_length_eq_zero (by omega)
    rw [this, mergeC]; rfl
theorem St.right (h : St w0 mo a b O0 O S T) (hb : 0 < b.l.length) (hc : 0 < a.l.length → 0 < cmpB (el a.l default 0).key (el b.l default 0).key) (q : { q : Sl RowD × List Nat // q.1.l.map pr = O.l.map pr ++ if (el b.l default 0).gone then [] else [((el b.l default 0).key, (el b.l default 0).val.l)] }) : St w0 mo a (b.drop 1 3) O0 q.1.1 S T := by
  have hq := q.2
  have hn : q.1.1.l.length ≤ O.l.length + 1 := by have := congrArg List.length hq; simp only [List.length_map, List.length_append] at this; split at this <;> simp_all
  refine ⟨h.oa, h.ob.drop 1, h.va, fun x hx => h.vb x (List.mem_of_mem_drop hx), by have := h.len; simp [Sl.drop]; omega, ?_⟩
  rw [← h.go, hq, List.append_assoc]
  congr 1
  show outC (el b.l default 0) ++ mergeC a.l (b.l.drop 1) = mergeC a.l b.l
  conv => rhs; rw [el0 (d := default) hb]
  by_cases ha : 0 < a.l.length
  · conv => rhs; rw [el0 (d := default) ha]
    have := hc ha
    rw [mergeC, if_neg (by omega), if_pos this, ← el0 ha]
  · have : a.l = [] := List.eq_nil_of_length_eq_zero (by omega)
    rw [this, mergeC]
theorem St.same (h : St w0 mo a b O0 O S T) (ha : 0 < a.l.length) (hb : 0 < b.l.length) (h1 : ¬ cmpB (el a.l default 0).key (el b.l default 0).key < 0) (h2 : ¬ 0 < cmpB (el a.l default 0).key (el b.l default 0).key) (q : { q : Sl RowD × List Nat // q.1.l.map pr = O.l.map pr ++ if (el b.l default 0).gone then [] else [((el b.l default 0).key, (el b.l default 0).val.l)] }) : St w0 mo (a.drop 1 2) (b.drop 1 3) O0 q.1.1 S T := by
  have hq := q.2
  have hn : q.1.1.l.length ≤ O.l.length + 1 := by have := congrArg List.length hq; simp only [List.length_map, List.length_append] at this; split at this <;> simp_all
  refine ⟨h.oa.drop 1, h.ob.drop 1, fun x hx => h.va x (List.mem_of_mem_drop hx), fun x hx => h.vb x (List.mem_of_mem_drop hx), by have := h.len; simp [Sl.drop]; omega, ?_⟩
  rw [← h.go, hq, List.append_assoc]
  congr 1
  show outC (el b.l default 0) ++ mergeC (a.l.drop 1) (b.l.drop 1) = mergeC a.l b.l
  conv => rhs; rw [el0 (d := default) hb, el0 (d := default) ha]
  rw [mergeC, if_neg h1, if_neg h2]
end
theorem both_calls (S : Sl RowD) (T : Sl Chg) (g : Nat) (O0 : Sl RowD) (bs0 : List Nat) (w : World) (h0 : Mem w (blocksOf (MA g O0 bs0)) (MA g O0 bs0) w) (hS : Old w (blocksOf (MA g O0 bs0)) S) (hT : Old w (blocksOf (MA g O0 bs0)) T)
    (va : ∀ x ∈ S.l, x.val.l.length ≤ 140737488355328) (vb : ∀ x ∈ T.l, x.val.l.length ≤ 140737488355328) (hlen : O0.l.length + S.l.length + T.l.length ≤ 1099511627776) :
    Calls Try.prog 29 [S.v, T.v, .func (.func 30) #[] #[], .func (.func 31) #[] #[], .func (.func 32) #[] #[pt g 0]].toArray w fun e w' => ∃ q : { q : Sl RowD × List Nat // q.1.l.map pr = O0.l.map pr ++ mergeC S.l T.l }, e = .returned (.tuple #[]) ∧ Mem w (blocksOf (MA g O0 bs0)) (MA g q.1.1 q.1.2) w' := by
  refine enterM Try.func29 rfl Try.ntmps29 rfl (by repeat (first | exact SlotsF.nil | apply SlotsF.cons rfl)) h0 ?_
  repeat' (first
      | refine J.bu ?_
      | refine J.bg ?_
      | refine J.boxA nofun rfl .none (.plain rfl) (fun _ _ => ?_)
      | refine J.box1 nofun rfl .none (.plain rfl) rfl (fun _ _ => ?_)
      | refine J.alloc nofun rfl .none (fun _ _ => ?_)
      | refine J.sto ?_
      | refine J.stoN ?_
      | refine J.lit (fun _ _ => ?_)
      | refine J.alt nofun ?_ ?_
      | exact J.stop
      | refine J.fin ?_
      | refine G.seq ?_
      | refine G.region ?_
      | refine G.draw (by kernel_rfl) (by kernel_rfl) ?_
      | refine Fin.go ?_
      | refine G.condT ?_
      | refine G.condF ?_
      | (refine G.cond rfl (fun h => ?_) (fun h => ?_) <;> (have hp := h; try simp only [decide_eq_true_eq, decide_eq_false_iff_not, Bool.and_eq_true, Bool.or_eq_true, Bool.and_eq_false_iff, Bool.or_eq_false_iff, Bool.not_eq_true', Bool.not_eq_false'] at hp))
      | refine G.ret ?_
      | refine G.skip ?_
      | refine G.exit ?_
      | refine G.block ?_
      | refine Fin.resS Try.results29 ?_
      | refine Fin.resT Try.results29 ?_)
  refine G.loop4 S T O0 bs0 (fun a b _ _ => [(4, .func (.func 32) #[] #[pt g 0]), (3, .func (.func 31) #[] #[]), (2, .func (.func 30) #[] #[]), (1, b.v), (0, a.v)]) (fun _ _ O bs => MA g O bs) (fun a b O _ => St w (blocksOf (MA g O0 bs0)) a b O0 O S.l T.l) (fun a b _ _ => a.l.length + b.l.length) ⟨hS, hT, va, vb, hlen, rfl⟩ ?_
  rintro a b O bs hst
  have hlen := hst.len
  haveI oa := hst.oa
  haveI ob := hst.ob
  repeat' (first
      | refine J.bu ?_
      | refine J.bg ?_
      | refine J.boxA nofun rfl .none (.plain rfl) (fun _ _ => ?_)
      | refine J.box1 nofun rfl .none (.plain rfl) rfl (fun _ _ => ?_)
      | refine J.alloc nofun rfl .none (fun _ _ => ?_)
      | refine J.sto ?_
      | refine J.stoN ?_
      | refine J.lit (fun _ _ => ?_)
      | refine J.alt nofun ?_ ?_
      | exact J.stop
      | refine G.draws (id := 4) (.op .q 0 (.op .q 1 (.op .q 2 (.op .q 3 (.op .q 4 (.op .a 5 .nil)))))) [] (by kernel_rfl) (by kernel_rfl) (by repeat (first | exact PlIs.nil | exact PlIs.stop | apply PlIs.op rfl | apply PlIs.alt rfl)) (by repeat (first | exact List.Sublist.refl _ | exact List.nil_sublist _ | apply List.Sublist.cons_cons | apply List.Sublist.cons)) ?_
      | refine G.condTh ?_
      | refine G.condFh ?_
      | (refine J.call (F := 51) (v := .int .i64 (cmpI b.l.length a.l.length)) (fun w' hw => cmpI_calls b.l.length a.l.length w') ?_; have hcI := cmpI_or b.l.length a.l.length)
      | refine J.call (F := 44) (v := .int .i64 (cmpB (el a.l default 0).key (el b.l default 0).key)) (fun w' hw => cmpS_calls _ _ w') ?_
      | refine J.call (F := 30) (v := .string (el a.l default 0).key) (fun w' hw => ofRow_calls _ w') ?_
      | refine J.call (F := 31) (v := .string (el b.l default 0).key) (fun w' hw => ofChg_calls _ w') ?_
      | refine J.cW (m1 := MA g O bs) (m1' := fun q : { q : Sl RowD × List Nat // q.1.l.map pr = O.l.map pr ++ [pr (el a.l default 0)] } => MA g q.1.1 q.1.2) (fun w' hw hm => tell_row a 0 g O bs w' hm (oa.now hw) (by omega) (by omega) (hst.va _ (el_mem (by omega)))) (fun q => ?_)
      | refine J.cW (m1 := MA g O bs) (m1' := fun q : { q : Sl RowD × List Nat // q.1.l.map pr = O.l.map pr ++ if (el b.l default 0).gone then [] else [((el b.l default 0).key, (el b.l default 0).val.l)] } => MA g q.1.1 q.1.2) (fun w' hw hm => tell_chg _ b 0 g O bs w' hm (ob.now hw) (by omega) (by omega) (hst.vb _ (el_mem (by omega)))) (fun q => ?_)
      | refine Fin.toE Try.results29 ?_
      | refine J.fin ?_
      | refine G.seq ?_
      | refine G.region ?_
      | refine G.draw (by kernel_rfl) (by kernel_rfl) ?_
      | refine Fin.go ?_
      | refine G.condT ?_
      | refine G.condF ?_
      | (refine G.cond rfl (fun h => ?_) (fun h => ?_) <;> (have hp := h; try simp only [decide_eq_true_eq, decide_eq_false_iff_not, Bool.and_eq_true, Bool.or_eq_true, Bool.and_eq_false_iff, Bool.or_eq_false_iff, Bool.not_eq_true', Bool.not_eq_false'] at hp))
      | refine G.ret ?_
      | refine G.skip ?_
      | refine G.exit ?_
      | refine G.block ?_)
  all_goals first
    | (refine Fin.strip (by (repeat apply Strip.blkNormal); exact Strip.done) (Fin.again4 (a.drop 1 2) b q.1.1 q.1.2 (hst.left (by omega) (by intro _; omega) q) (by simp [Sl.drop]; omega)))
    | (refine Fin.strip (by (repeat apply Strip.blkNormal); exact Strip.done) (Fin.again4 a (b.drop 1 3) q.1.1 q.1.2 (hst.right (by omega) (by intro _; omega) q) (by simp [Sl.drop]; omega)))
    | (refine Fin.strip (by (repeat apply Strip.blkNormal); exact Strip.done) (Fin.again4 (a.drop 1 2) (b.drop 1 3) q.1.1 q.1.2 (hst.same (by omega) (by omega) (by omega) (by omega) q) (by simp [Sl.drop]; omega)))
    | exact fun w' hw => ⟨⟨(O, bs), by
        have hgo := hst.go
        rw [List.eq_nil_of_length_eq_zero (l := a.l) (by omega), List.eq_nil_of_length_eq_zero (l := b.l) (by omega)] at hgo
        simpa [mergeC] using hgo⟩, rfl, hw⟩
   
end Go.Proofs.Ytdhhjhkonmacdaa
