/- batch: may rows, may changes. -/
import Derived.Test.YtdhhjhkonmacdaaD3
namespace Go.Proofs.Ytdhhjhkonmacdaa
open Go.RowKit
set_option linter.unusedSimpArgs false
set_option maxHeartbeats 4000000
set_option linter.unusedVariables false
attribute [local irreducible] QV EvU Wt J G Fin
theorem Mem.same1 {w w' : World} {g : Nat} {o : Obj} {m : List Res} (h : Mem w [g] (.blk g o :: m) w') (hg : w.heap[g]? = some o) : Below w.heap.size w w' :=
  ⟨h.os, h.tape, h.output, h.size, fun b hb => by
    by_cases e : b = g
    · subst e; exact (h.sat (.blk b o) (by simp)).trans hg.symm
    · exact h.old b hb (by simpa using e)⟩
theorem Old.of1 {w : World} {g : Nat} {α : Type} [Dp α] {x : α} (h : Dp.deep x w) (hn : ¬ Dp.foot x g) : Old w [g] x := ⟨h, by intro b hb; simp at hb; subst hb; exact hn⟩
theorem and_right {a b : Bool} (h : (a && b) = true) : b = true := by cases a <;> simp_all
def e0 : ByteArray := ⟨#[]⟩
def kvOk (first : Bool) (prev k : ByteArray) (n : Nat) : Bool := !(k.toList == e0.toList || decide (16 < (k.size : Int)) || (!first && !Op.bytesLess prev.toList k.toList) || decide (524288 < (n : Int)))
def rises : Bool → ByteArray → List (ByteArray × Nat) → Bool
  | _, _, [] => true
  | f, p, (k, n) :: r => kvOk f p k n && rises false k r
def risesL {α : Type} (key : α → ByteArray) (val : α → Sl UInt8) (f : Bool) (p : ByteArray) (l : List α) : Bool := rises f p (l.map fun x => (key x, (val x).l.length))
theorem row_key (s : Sl RowD) (g i : Nat) (w : World) (hg : w.heap[g]? = some (.cells [s.v].toArray 34 (0, 0))) (hs : Dp.deep s w) (hn : ¬ Dp.foot s g) (hi : i < s.l.length) :
    Calls Try.prog 45 [.int .i64 (i : Int), pt g 0].toArray w fun e w' => e = .returned (.string (el s.l default i).key) ∧ Below w.heap.size w w' := by
  haveI := Old.of1 hs hn
  refine enterM Try.func45 rfl Try.ntmps45 rfl (by repeat (first | exact SlotsF.nil | apply SlotsF.cons rfl)) (Mem.track w g _ hg) ?_
  repeat' (first
      | refine J.bu ?_
      | refine J.bg ?_
      | refine J.boxA nofun rfl .none (.plain rfl) (fun _ _ => ?_)
      | refine J.box1 nofun rfl .none (.plain rfl) rfl (fun _ _ => ?_)
      | refine J.alloc nofun rfl .none (fun _ _ => ?_)
      | refine J.sto ?_
      | refine J.stoN ?_
      | refine J.lit (fun _ _ => ?_)
      | refine J.alt nofun ?_ ?_
      | exact J.stop
      | refine J.fin ?_
      | refine G.seq ?_
      | refine G.region ?_
      | refine G.draw (by kernel_rfl) (by kernel_rfl) ?_
      | refine Fin.go ?_
      | refine G.condT ?_
      | refine G.condF ?_
      | (refine G.cond rfl (fun h => ?_) (fun h => ?_) <;> (have hp := h; try simp only [decide_eq_true_eq, decide_eq_false_iff_not, Bool.and_eq_true, Bool.or_eq_true, Bool.and_eq_false_iff, Bool.or_eq_false_iff, Bool.not_eq_true', Bool.not_eq_false'] at hp))
      | refine G.ret ?_
      | refine G.skip ?_
      | refine G.exit ?_
      | refine G.block ?_
      | refine Fin.resS Try.results45 ?_
      | refine Fin.resT Try.results45 ?_)
  exact fun w' hw => ⟨rfl, hw.same1 hg⟩
theorem row_val (s : Sl RowD) (g i : Nat) (w : World) (hg : w.heap[g]? = some (.cells [s.v].toArray 34 (0, 0))) (hs : Dp.deep s w) (hn : ¬ Dp.foot s g) (hi : i < s.l.length) :
    Calls Try.prog 46 [.int .i64 (i : Int), pt g 0].toArray w fun e w' => e = .returned (el s.l default i).val.v ∧ Below w.heap.size w w' := by
  haveI := Old.of1 hs hn
  refine enterM Try.func46 rfl Try.ntmps46 rfl (by repeat (first | exact SlotsF.nil | apply SlotsF.cons rfl)) (Mem.track w g _ hg) ?_
  repeat' (first
      | refine J.bu ?_
      | refine J.bg ?_
      | refine J.boxA nofun rfl .none (.plain rfl) (fun _ _ => ?_)
      | refine J.box1 nofun rfl .none (.plain rfl) rfl (fun _ _ => ?_)
      | refine J.alloc nofun rfl .none (fun _ _ => ?_)
      | refine J.sto ?_
      | refine J.stoN ?_
      | refine J.lit (fun _ _ => ?_)
      | refine J.alt nofun ?_ ?_
      | exact J.stop
      | refine J.fin ?_
      | refine G.seq ?_
      | refine G.region ?_
      | refine G.draw (by kernel_rfl) (by kernel_rfl) ?_
      | refine Fin.go ?_
      | refine G.condT ?_
      | refine G.condF ?_
      | (refine G.cond rfl (fun h => ?_) (fun h => ?_) <;> (have hp := h; try simp only [decide_eq_true_eq, decide_eq_false_iff_not, Bool.and_eq_true, Bool.or_eq_true, Bool.and_eq_false_iff, Bool.or_eq_false_iff, Bool.not_eq_true', Bool.not_eq_false'] at hp))
      | refine G.ret ?_
      | refine G.skip ?_
      | refine G.exit ?_
      | refine G.block ?_
      | refine Fin.resS Try.results46 ?_
      | refine Fin.resT Try.results46 ?_)
  exact fun w' hw => ⟨rfl, hw.same1 hg⟩
theorem chg_key (s : Sl Chg) (g i : Nat) (w : World) (hg : w.heap[g]? = some (.cells [s.v].toArray 22 (0, 0))) (hs : Dp.deep s w) (hn : ¬ Dp.foot s g) (hi : i < s.l.length) :
    Calls Try.prog 25 [.int .i64 (i : Int), pt g 0].toArray w fun e w' => e = .returned (.string (el s.l default i).key) ∧ Below w.heap.size w w' := by
  haveI := Old.of1 hs hn
  refine enterM Try.func25 rfl Try.ntmps25 rfl (by repeat (first | exact SlotsF.nil | apply SlotsF.cons rfl)) (Mem.track w g _ hg) ?_
  repeat' (first
      | refine J.bu ?_
      | refine J.bg ?_
      | refine J.boxA nofun rfl .none (.plain rfl) (fun _ _ => ?_)
      | refine J.box1 nofun rfl .none (.plain rfl) rfl (fun _ _ => ?_)
      | refine J.alloc nofun rfl .none (fun _ _ => ?_)
      | refine J.sto ?_
      | refine J.stoN ?_
      | refine J.lit (fun _ _ => ?_)
      | refine J.alt nofun ?_ ?_
      | exact J.stop
      | refine J.fin ?_
      | refine G.seq ?_
      | refine G.region ?_
      | refine G.draw (by kernel_rfl) (by kernel_rfl) ?_
      | refine Fin.go ?_
      | refine G.condT ?_
      | refine G.condF ?_
      | (refine G.cond rfl (fun h => ?_) (fun h => ?_) <;> (have hp := h; try simp only [decide_eq_true_eq, decide_eq_false_iff_not, Bool.and_eq_true, Bool.or_eq_true, Bool.and_eq_false_iff, Bool.or_eq_false_iff, Bool.not_eq_true', Bool.not_eq_false'] at hp))
      | refine G.ret ?_
      | refine G.skip ?_
      | refine G.exit ?_
      | refine G.block ?_
      | refine Fin.resS Try.results25 ?_
      | refine Fin.resT Try.results25 ?_)
  exact fun w' hw => ⟨rfl, hw.same1 hg⟩
theorem chg_val (s : Sl Chg) (g i : Nat) (w : World) (hg : w.heap[g]? = some (.cells [s.v].toArray 22 (0, 0))) (hs : Dp.deep s w) (hn : ¬ Dp.foot s g) (hi : i < s.l.length) :
    Calls Try.prog 26 [.int .i64 (i : Int), pt g 0].toArray w fun e w' => e = .returned (el s.l default i).val.v ∧ Below w.heap.size w w' := by
  haveI := Old.of1 hs hn
  refine enterM Try.func26 rfl Try.ntmps26 rfl (by repeat (first | exact SlotsF.nil | apply SlotsF.cons rfl)) (Mem.track w g _ hg) ?_
  repeat' (first
      | refine J.bu ?_
      | refine J.bg ?_
      | refine J.boxA nofun rfl .none (.plain rfl) (fun _ _ => ?_)
      | refine J.box1 nofun rfl .none (.plain rfl) rfl (fun _ _ => ?_)
      | refine J.alloc nofun rfl .none (fun _ _ => ?_)
      | refine J.sto ?_
      | refine J.stoN ?_
      | refine J.lit (fun _ _ => ?_)
      | refine J.alt nofun ?_ ?_
      | exact J.stop
      | refine J.fin ?_
      | refine G.seq ?_
      | refine G.region ?_
      | refine G.draw (by kernel_rfl) (by kernel_rfl) ?_
      | refine Fin.go ?_
      | refine G.condT ?_
      | refine G.condF ?_
      | (refine G.cond rfl (fun h => ?_) (fun h => ?_) <;> (have hp := h; try simp only [decide_eq_true_eq, decide_eq_false_iff_not, Bool.and_eq_true, Bool.or_eq_true, Bool.and_eq_false_iff, Bool.or_eq_false_iff, Bool.not_eq_true', Bool.not_eq_false'] at hp))
      | refine G.ret ?_
      | refine G.skip ?_
      | refine G.exit ?_
      | refine G.block ?_
      | refine Fin.resS Try.results26 ?_
      | refine Fin.resT Try.results26 ?_)
  exact fun w' hw => ⟨rfl, hw.same1 hg⟩
theorem rising_calls {α : Type} [Inhabited α] (L : List α) (key : α → ByteArray) (val : α → Sl UInt8) (Fk Fv g : Nat) [FnC Try.prog Fk] [FnC Try.prog Fv] (w : World) (hlen : L.length ≤ 140737488355328)
    (hk : ∀ w', Below w.heap.size w w' → ∀ i : Nat, i < L.length → Calls Try.prog Fk [.int .i64 (i : Int), pt g 0].toArray w' fun e w'' => e = .returned (.string (key (el L default i))) ∧ Below w'.heap.size w' w'')
    (hv : ∀ w', Below w.heap.size w w' → ∀ i : Nat, i < L.length → Calls Try.prog Fv [.int .i64 (i : Int), pt g 0].toArray w' fun e w'' => e = .returned (val (el L default i)).v ∧ Below w'.heap.size w' w'') :
    Calls Try.prog 24 [.int .i64 (L.length : Int), .func (.func Fk) #[] #[pt g 0], .func (.func Fv) #[] #[pt g 0]].toArray w fun e w' => e = .returned (.bool (risesL key val true e0 L)) ∧ Below w.heap.size w w' := by
  refine enter Try.func24 rfl Try.ntmps24 ?_
  repeat' (first
      | refine J.bu ?_
      | refine J.bg ?_
      | refine J.boxA nofun rfl .none (.plain rfl) (fun _ _ => ?_)
      | refine J.box1 nofun rfl .none (.plain rfl) rfl (fun _ _ => ?_)
      | refine J.alloc nofun rfl .none (fun _ _ => ?_)
      | refine J.sto ?_
      | refine J.stoN ?_
      | refine J.lit (fun _ _ => ?_)
      | refine J.alt nofun ?_ ?_
      | exact J.stop
      | refine J.fin ?_
      | refine G.seq ?_
      | refine G.region ?_
      | refine G.draw (by kernel_rfl) (by kernel_rfl) ?_
      | refine Fin.go ?_
      | refine G.condT ?_
      | refine G.condF ?_
      | (refine G.cond rfl (fun h => ?_) (fun h => ?_) <;> (have hp := h; try simp only [decide_eq_true_eq, decide_eq_false_iff_not, Bool.and_eq_true, Bool.or_eq_true, Bool.and_eq_false_iff, Bool.or_eq_false_iff, Bool.not_eq_true', Bool.not_eq_false'] at hp))
      | refine G.ret ?_
      | refine G.skip ?_
      | refine G.exit ?_
      | refine G.block ?_
      | refine Fin.resS Try.results24 ?_
      | refine Fin.resT Try.results24 ?_)
  refine G.loopA (0 : Nat) (fun i => [(10, .int .i64 (i : Nat)), (9, .int .i64 (L.length : Int)), (2, .func (.func Fv) #[] #[pt g 0]), (1, .func (.func Fk) #[] #[pt g 0])]) (fun _ => []) (fun i => i ≤ L.length ∧ risesL key val true e0 L = risesL key val (decide (i = 0)) (if i = 0 then e0 else key (el L default (i - 1))) (L.drop i)) (fun i => L.length - i) ⟨by omega, by simp⟩ ?_
  rintro i ⟨hi, hgo⟩
  have hprev : ∀ w', Below w.heap.size w w' → 0 < i → i < L.length → Calls Try.prog Fk [.int .i64 ((i : Int) - 1), pt g 0].toArray w' fun e w'' => e = .returned (.string (key (el L default (i - 1)))) ∧ Below w'.heap.size w' w'' := fun w' hb h0 h1 => by
    have := hk w' hb (i - 1) (by omega)
    rwa [show (((i - 1 : Nat) : Int)) = (i : Int) - 1 by omega] at this
  repeat' (first
      | refine J.bu ?_
      | refine J.bg ?_
      | refine J.boxA nofun rfl .none (.plain rfl) (fun _ _ => ?_)
      | refine J.box1 nofun rfl .none (.plain rfl) rfl (fun _ _ => ?_)
      | refine J.alloc nofun rfl .none (fun _ _ => ?_)
      | refine J.sto ?_
      | refine J.stoN ?_
      | refine J.lit (fun _ _ => ?_)
      | refine J.alt nofun ?_ ?_
      | exact J.stop
      | refine J.call (fun w' hw => hk w' hw.out i (by omega)) ?_
      | (refine J.callgc (F := Fk) (v := .string (key (el L default (i - 1)))) ?_ ?_; focus (intro hc w' hw; exact hprev w' hw.out (by have := and_right hc; simpa using this) (by omega)))
      | refine J.callgc (fun _ w' hw => hv w' hw.out i (by omega)) ?_
      | refine J.fin ?_
      | refine G.seq ?_
      | refine G.region ?_
      | refine G.draw (by kernel_rfl) (by kernel_rfl) ?_
      | refine Fin.go ?_
      | refine G.condT ?_
      | refine G.condF ?_
      | (refine G.cond rfl (fun h => ?_) (fun h => ?_) <;> (have hp := h; try simp only [decide_eq_true_eq, decide_eq_false_iff_not, Bool.and_eq_true, Bool.or_eq_true, Bool.and_eq_false_iff, Bool.or_eq_false_iff, Bool.not_eq_true', Bool.not_eq_false'] at hp))
      | refine G.ret ?_
      | refine G.skip ?_
      | refine G.exit ?_
      | refine G.block ?_
      | refine Fin.resS Try.results24 ?_
      | refine Fin.resT Try.results24 ?_)
  · refine fun w' hw => ⟨?_, hw.out⟩
    rw [hgo, el_drop L default i (by omega)]
    have hkey : kvOk (decide (i = 0)) (if i = 0 then e0 else key (el L default (i - 1))) (key (el L default i)) (val (el L default i)).l.length = !((key (el L default i)).toList == (ByteArray.mk #[]).toList || decide (16 < ((key (el L default i)).size : Int)) || (decide (0 < (i : Int)) && !Op.bytesLess (key (el L default (i - 1))).toList (key (el L default i)).toList) || decide (524288 < (((val (el L default i)).l.length : Nat) : Int))) := by
      by_cases hi0 : i = 0
      · subst hi0; simp [kvOk, e0]
      · simp [kvOk, e0, hi0, show 0 < i by omega]
    have hb : kvOk (decide (i = 0)) (if i = 0 then e0 else key (el L default (i - 1))) (key (el L default i)) (val (el L default i)).l.length = false := by rw [hkey, h]; rfl
    simp [risesL, rises, hb]
  · refine Fin.again (i + 1) ⟨by omega, ?_⟩ (by omega)
    have hkey : kvOk (decide (i = 0)) (if i = 0 then e0 else key (el L default (i - 1))) (key (el L default i)) (val (el L default i)).l.length = !((key (el L default i)).toList == (ByteArray.mk #[]).toList || decide (16 < ((key (el L default i)).size : Int)) || (decide (0 < (i : Int)) && !Op.bytesLess (key (el L default (i - 1))).toList (key (el L default i)).toList) || decide (524288 < (((val (el L default i)).l.length : Nat) : Int))) := by
      by_cases hi0 : i = 0
      · subst hi0; simp [kvOk, e0]
      · simp [kvOk, e0, hi0, show 0 < i by omega]
    have hb : kvOk (decide (i = 0)) (if i = 0 then e0 else key (el L default (i - 1))) (key (el L default i)) (val (el L default i)).l.length = true := by rw [hkey, h]; rfl
    rw [hgo, el_drop L default i (by omega)]
    simp [risesL, rises, hb]
  · refine fun w' hw => ⟨?_, hw.out⟩
    rw [hgo, show i = L.length by omega]
    simp [risesL, rises]
theorem Old.at_ {w w' : World} {α : Type} [Dp α] {x : α} (h : Dp.deep x w) (hb : Below w.heap.size w w') : Dp.deep x w' := Dp.stay x w w' h fun b hf => hb.block b (Dp.lt x w b h hf)
theorem fresh_not {w0 w : World} {m : List Res} {g : Nat} {o : Obj} {α : Type} [Dp α] {x : α} (hw : Mem w0 [] m w) (hm : Res.blk g o ∈ m) (h : Dp.deep x w0) : ¬ Dp.foot x g := fun hf => by
  have h1 := Dp.lt x w0 g h hf
  rcases hw.new _ hm g rfl with h2 | h2
  · omega
  · simp at h2
theorem blk_at {w0 w w' : World} {m : List Res} {g : Nat} {o : Obj} (hw : Mem w0 [] m w) (hm : Res.blk g o ∈ m) (hb : Below w.heap.size w w') : w'.heap[g]? = some o := by
  have h1 : w.heap[g]? = some o := hw.sat _ hm
  exact (hb.block g (Array.getElem?_eq_some_iff.1 h1).1).trans h1
/-- May: are rows a table? -/
def mayR (l : List RowD) : Bool := risesL RowD.key RowD.val true e0 l
theorem may_calls (s : Sl RowD) (w : World) (hs : Dp.deep s w) (hl : s.l.length ≤ 140737488355328) : Calls Try.prog 20 [s.v].toArray w fun e w' => e = .returned (.bool (mayR s.l)) ∧ Below w.heap.size w w' := by
  refine enter Try.func20 rfl Try.ntmps20 ?_
  repeat' (first
      | refine J.bu ?_
      | refine J.bg ?_
      | refine J.boxA nofun rfl .none (.plain rfl) (fun _ _ => ?_)
      | refine J.box1 nofun rfl .none (.plain rfl) rfl (fun _ _ => ?_)
      | refine J.alloc nofun rfl .none (fun _ _ => ?_)
      | refine J.sto ?_
      | refine J.stoN ?_
      | refine J.lit (fun _ _ => ?_)
      | refine J.alt nofun ?_ ?_
      | exact J.stop
      | (refine J.call (F := 24) (v := .bool (mayR s.l)) (fun w' hw => ?_) ?_; focus exact rising_calls s.l RowD.key RowD.val 45 46 _ w' hl (fun w'' hb i hi => row_key s _ i w'' (blk_at hw mem0 hb) (Old.at_ ((Old.of hs).later hw) hb) (fresh_not hw mem0 hs) hi) (fun w'' hb i hi => row_val s _ i w'' (blk_at hw mem0 hb) (Old.at_ ((Old.of hs).later hw) hb) (fresh_not hw mem0 hs) hi))
      | refine J.fin ?_
      | refine G.seq ?_
      | refine G.region ?_
      | refine G.draw (by kernel_rfl) (by kernel_rfl) ?_
      | refine Fin.go ?_
      | refine G.condT ?_
      | refine G.condF ?_
      | (refine G.cond rfl (fun h => ?_) (fun h => ?_) <;> (have hp := h; try simp only [decide_eq_true_eq, decide_eq_false_iff_not, Bool.and_eq_true, Bool.or_eq_true, Bool.and_eq_false_iff, Bool.or_eq_false_iff, Bool.not_eq_true', Bool.not_eq_false'] at hp))
      | refine G.ret ?_
      | refine G.skip ?_
      | refine G.exit ?_
      | refine G.block ?_
      | refine Fin.resS Try.results20 ?_
      | refine Fin.resT Try.results20 ?_)
  exact fun w' hw => ⟨rfl, hw.out⟩
end Go.Proofs.Ytdhhjhkonmacdaa
