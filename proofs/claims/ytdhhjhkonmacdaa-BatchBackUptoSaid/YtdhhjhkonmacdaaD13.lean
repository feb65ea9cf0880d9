/- batch: Apply's closure. -/
import Derived.Test.YtdhhjhkonmacdaaD12
import Derived.Laws.Pointers
namespace Go.Proofs.Ytdhhjhkonmacdaa
open Go.RowKit
set_option linter.unusedSimpArgs false
set_option maxHeartbeats 4000000
set_option linter.unusedVariables false
attribute [local irreducible] QV EvU Wt J G Fin
theorem q_eqPtr {P : Program} {N : Nat} {w0 : World} {s : Slots} {mo : List Nat} {m : List Res} {c : Bool} {d : Option Tmp} {x : Operand} {ty t ty2 e : TypeId} {ps : String} {af : Array Edge} {g : Option (Nat × Bool)} {p : Option Addr} [hu : TyU P t (.pointer e)] (hx : EvU N c s x (.pointer p)) :
    QV P N w0 c s mo m ⟨d, .binOp .eql t x (.const (.pointer none)) ty2, ty, ps, af, g⟩ (.bool p.isNone) := by
  unfold QV EvU at *
  exact fun hc A hA w hw => quiet_of_run (by
    have hp : P.underlying t = some (.pointer (P.pointee t)) := by rw [hu.und]; simp [Program.pointee, hu.und]
    simp only [execOp, hx hc A hA]
    simp [eqGuard, Act.eval, run_eql_pointer_nil w t p hp])
theorem J.ptr {P : Program} {N : Nat} {w0 : World} {ops : Array Oper} {Q : Act → World → Prop} {l : Pl Oper} {s : Slots} {mo : List Nat} {kk m : List Res} {f : Fl} {d : Nat} {x : Operand} {ty t ty2 e : TypeId} {ps : String} {af : Array Edge} {p : Option Addr} [hu : TyU P t (.pointer e)]
    (K : J P N w0 ops Q l ((d, .bool p.isNone) :: s) mo kk m) (hx : EvU N true s x (.pointer p) := by exact EvU.plain rfl) (hd : Nat.blt d N = true := by rfl) : J P N w0 ops Q (.op f ⟨some d, .binOp .eql t x (.const (.pointer none)) ty2, ty, ps, af, none⟩ l) s mo kk m := J.q rfl hd Wt.none (q_eqPtr hx) K
theorem Fin.toE {P : Program} {N : Nat} {w0 : World} {s : Slots} {mo : List Nat} {m : List Res} {Q : Exit → Act → World → Prop} {e : Exit} {fn : Func} {R : Ending → World → Prop} (hr : fn.results = #[]) (h : ∀ w, Mem w0 mo m w → R (.returned (.tuple #[])) w)
    (hs : Strip Q e (bodyPost P fn R) .normal := by (repeat (first | exact Strip.done | apply Strip.blkNormal | apply Strip.blkExit | apply Strip.thenExit | apply Strip.blkOther rfl)); done) : Fin N w0 Q e s mo m := Fin.strip hs (Fin.end0 hr h)
theorem Fin.toR {P : Program} {N : Nat} {w0 : World} {s : Slots} {mo : List Nat} {m : List Res} {Q : Exit → Act → World → Prop} {fn : Func} {R : Ending → World → Prop} (hr : fn.results = #[]) (h : ∀ w, Mem w0 mo m w → R (.returned (.tuple #[])) w)
    (hs : Strip Q .ret (bodyPost P fn R) .ret := by (repeat (first | exact Strip.done | apply Strip.blkRet | apply Strip.thenRet)); done) : Fin N w0 Q .ret s mo m := Fin.strip hs (Fin.ret0 hr h)
theorem old_sub {w0 w : World} {m m1 : List Res} {α : Type} [Dp α] {x : α} (h : Dp.deep x w0) (hw : Mem w0 [] m w) (hsub : ∀ b ∈ blocksOf m1, b ∈ blocksOf m) : Old w (blocksOf m1) x := ⟨(Old.of h).later hw, fun b hb hf => by
  have h1 := Dp.lt x w0 b h hf
  rcases hw.newB b (hsub b hb) with h2 | h2
  · omega
  · simp at h2⟩
def pr (x : RowD) : ByteArray × List UInt8 := (x.key, x.val.l)
abbrev MA (g : Nat) (O : Sl RowD) (bs : List Nat) : List Res := [.blk g (.cells [O.v].toArray 34 (0, 0)), Res.own 59 O, .held bs (Dp.deep O.l)]
theorem tell_row (S : Sl RowD) (j g : Nat) (O : Sl RowD) (bs : List Nat) (w : World) (h0 : Mem w (blocksOf (MA g O bs)) (MA g O bs) w) (hS : Old w (blocksOf (MA g O bs)) S) (hj : j < S.l.length) (hO : O.l.length ≤ 1099511627776) (hv : (el S.l default j).val.l.length ≤ 140737488355328) :
    Calls Try.prog 32 [.pointer (some (S.B.add (j * 2))), .pointer none, pt g 0].toArray w fun e w' => ∃ q : { q : Sl RowD × List Nat // q.1.l.map pr = O.l.map pr ++ [pr (el S.l default j)] }, e = .returned (.tuple #[]) ∧ Mem w (blocksOf (MA g O bs)) (MA g q.1.1 q.1.2) w' := by
  haveI := hS
  refine enterM Try.func32 rfl Try.ntmps32 rfl (by repeat (first | exact SlotsF.nil | apply SlotsF.cons rfl)) h0 ?_
  repeat' (first
      | refine J.ptr ?_
      | refine J.bu ?_
      | refine J.bg ?_
      | refine J.boxA nofun rfl .none (.plain rfl) (fun _ _ => ?_)
      | refine J.box1 nofun rfl .none (.plain rfl) rfl (fun _ _ => ?_)
      | refine J.alloc nofun rfl .none (fun _ _ => ?_)
      | refine J.sto ?_
      | refine J.stoN ?_
      | refine J.lit (fun _ _ => ?_)
      | refine J.alt nofun ?_ ?_
      | exact J.stop
      | refine G.condTh ?_
      | refine G.condFh ?_
      | refine G.draws (id := 1) (.op .q 1 (.op .q 2 (.op .q 3 (.op .q 4 (.op .q 5 (.op .q 6 (.op .q 7 (.op .q 8 (.alt .a 0 (.op .h 9 (.op .q 10 (.op .h 11 (.op .a 12 (.op .a 13 .nil))))) (.alt .h 9 (.op .q 10 (.alt .a 0 (.op .h 11 (.op .a 12 (.op .a 13 .nil))) (.alt .h 11 (.op .a 0 (.op .a 12 (.op .a 13 .nil))) .stop))) .stop)))))))))) [] (by kernel_rfl) (by kernel_rfl) (by repeat (first | exact PlIs.nil | exact PlIs.stop | apply PlIs.op rfl | apply PlIs.alt rfl)) (by repeat (first | exact List.Sublist.refl _ | exact List.nil_sublist _ | apply List.Sublist.cons_cons | apply List.Sublist.cons)) ?_
      | refine J.cH (fun w' hw => clone_gives (el S.l default j).val w' (Kn.get hw) hv) (fun c cbs hc => ?_)
      | (refine J.ap1 (S := O) ⟨(el S.l default j).key, c⟩ (fun O2 hO2 hn2 => ?_))
      | refine Fin.toE Try.results32 ?_
      | refine J.fin ?_
      | refine G.seq ?_
      | refine G.region ?_
      | refine G.draw (by kernel_rfl) (by kernel_rfl) ?_
      | refine Fin.go ?_
      | refine G.condT ?_
      | refine G.condF ?_
      | (refine G.cond rfl (fun h => ?_) (fun h => ?_) <;> (have hp := h; try simp only [decide_eq_true_eq, decide_eq_false_iff_not, Bool.and_eq_true, Bool.or_eq_true, Bool.and_eq_false_iff, Bool.or_eq_false_iff, Bool.not_eq_true', Bool.not_eq_false'] at hp))
      | refine G.ret ?_
      | refine G.skip ?_
      | refine G.exit ?_
      | refine G.block ?_)
  all_goals
    refine fun w' hw => ⟨⟨(O2, cbs ++ bs), by simp [hO2, pr, hc]⟩, rfl, ?_⟩
    have h1 := (hw.front (.held bs (Dp.deep O.l))).front (.held cbs (Dp.deep c))
    have h2 := Mem.heldJoin (z := O2.l) h1 (fun w a b => deep_snoc hO2 b a)
    have h3 := (h2.front (Res.own 59 O2)).front (.blk g (.cells [O2.v].toArray 34 (0, 0)))
    exact h3.forget (by repeat (first | exact List.Sublist.refl _ | exact List.nil_sublist _ | apply List.Sublist.cons_cons | apply List.Sublist.cons))
theorem tell_chg (p : Option Addr) (S : Sl Chg) (j g : Nat) (O : Sl RowD) (bs : List Nat) (w : World) (h0 : Mem w (blocksOf (MA g O bs)) (MA g O bs) w) (hS : Old w (blocksOf (MA g O bs)) S) (hj : j < S.l.length) (hO : O.l.length ≤ 1099511627776) (hv : (el S.l default j).val.l.length ≤ 140737488355328) :
    Calls Try.prog 32 [.pointer p, .pointer (some (S.B.add (j * 3))), pt g 0].toArray w fun e w' => ∃ q : { q : Sl RowD × List Nat // q.1.l.map pr = O.l.map pr ++ if (el S.l default j).gone then [] else [((el S.l default j).key, (el S.l default j).val.l)] }, e = .returned (.tuple #[]) ∧ Mem w (blocksOf (MA g O bs)) (MA g q.1.1 q.1.2) w' := by
  haveI := hS
  refine enterM Try.func32 rfl Try.ntmps32 rfl (by repeat (first | exact SlotsF.nil | apply SlotsF.cons rfl)) h0 ?_
  repeat' (first
      | refine J.ptr ?_
      | refine J.bu ?_
      | refine J.bg ?_
      | refine J.boxA nofun rfl .none (.plain rfl) (fun _ _ => ?_)
      | refine J.box1 nofun rfl .none (.plain rfl) rfl (fun _ _ => ?_)
      | refine J.alloc nofun rfl .none (fun _ _ => ?_)
      | refine J.sto ?_
      | refine J.stoN ?_
      | refine J.lit (fun _ _ => ?_)
      | refine J.alt nofun ?_ ?_
      | exact J.stop
      | refine G.condTh ?_
      | refine G.condFh ?_
      | refine G.draws (id := 3) (.op .q 1 (.op .q 2 (.op .q 3 (.op .q 4 (.op .q 5 (.op .q 6 (.op .q 7 (.op .q 8 (.alt .a 0 (.op .h 9 (.op .q 10 (.op .h 11 (.op .a 12 (.op .a 13 .nil))))) (.alt .h 9 (.op .q 10 (.alt .a 0 (.op .h 11 (.op .a 12 (.op .a 13 .nil))) (.alt .h 11 (.op .a 0 (.op .a 12 (.op .a 13 .nil))) .stop))) .stop)))))))))) [] (by kernel_rfl) (by kernel_rfl) (by repeat (first | exact PlIs.nil | exact PlIs.stop | apply PlIs.op rfl | apply PlIs.alt rfl)) (by repeat (first | exact List.Sublist.refl _ | exact List.nil_sublist _ | apply List.Sublist.cons_cons | apply List.Sublist.cons)) ?_
      | refine J.cH (fun w' hw => clone_gives (el S.l default j).val w' (Kn.get hw) hv) (fun c cbs hc => ?_)
      | (refine J.ap1 (S := O) ⟨(el S.l default j).key, c⟩ (fun O2 hO2 hn2 => ?_))
      | refine Fin.toE Try.results32 ?_
      | refine J.fin ?_
      | refine G.seq ?_
      | refine G.region ?_
      | refine G.draw (by kernel_rfl) (by kernel_rfl) ?_
      | refine Fin.go ?_
      | refine G.condT ?_
      | refine G.condF ?_
      | (refine G.cond rfl (fun h => ?_) (fun h => ?_) <;> (have hp := h; try simp only [decide_eq_true_eq, decide_eq_false_iff_not, Bool.and_eq_true, Bool.or_eq_true, Bool.and_eq_false_iff, Bool.or_eq_false_iff, Bool.not_eq_true', Bool.not_eq_false'] at hp))
      | refine G.ret ?_
      | refine G.skip ?_
      | refine G.exit ?_
      | refine G.block ?_)
  all_goals first
    | (refine fun w' hw => ⟨⟨(O2, cbs ++ bs), by have hg : (el S.l default j).gone = false := by simp_all
                                                 simp [hO2, pr, hc, hg]⟩, rfl, ?_⟩
       have h1 := (hw.front (.held bs (Dp.deep O.l))).front (.held cbs (Dp.deep c))
       have h2 := Mem.heldJoin (z := O2.l) h1 (fun w a b => deep_snoc hO2 b a)
       have h3 := (h2.front (Res.own 59 O2)).front (.blk g (.cells [O2.v].toArray 34 (0, 0)))
       exact h3.forget (by repeat (first | exact List.Sublist.refl _ | exact List.nil_sublist _ | apply List.Sublist.cons_cons | apply List.Sublist.cons)))
    | exact fun w' hw => ⟨⟨(O, bs), by have hg : (el S.l default j).gone = true := by simp_all
                                       simp [hg]⟩, rfl, hw⟩
   
end Go.Proofs.Ytdhhjhkonmacdaa
