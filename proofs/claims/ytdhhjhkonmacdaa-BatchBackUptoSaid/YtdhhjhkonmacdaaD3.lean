/- num.Put, num.Get, count, Clone. -/
import Derived.Test.YtdhhjhkonmacdaaD2
namespace Go.Proofs.Ytdhhjhkonmacdaa
open Go.RowKit
set_option linter.unusedSimpArgs false
set_option maxHeartbeats 4000000
set_option linter.unusedVariables false
attribute [local irreducible] QV EvU Wt J G Fin
/-- The bytes of a number. -/
def le (n k : Nat) : List UInt8 := (List.range k).map fun j => byteOf ((n / 2 ^ (8 * j) : Nat) : Int)
def leAt (n k i : Nat) : List UInt8 := le n i ++ List.replicate (k - i) 0
theorem le_len (n k : Nat) : (le n k).length = k := by simp [le]
theorem leAt_set (n k i : Nat) (h : i < k) : (leAt n k i).set i (byteOf ((n / 2 ^ (8 * i) : Nat) : Int)) = leAt n k (i + 1) := by
  unfold leAt
  have hk : k - i = (k - (i + 1)) + 1 := by omega
  rw [hk, List.replicate_succ, List.set_append_right _ _ (by rw [le_len]; omega), le_len, Nat.sub_self, List.set_cons_zero]
  have : le n (i + 1) = le n i ++ [byteOf ((n / 2 ^ (8 * i) : Nat) : Int)] := by simp [le, List.range_succ]
  rw [this, List.append_assoc]
  rfl
theorem leAt_len (n k i : Nat) (h : i ≤ k) : (leAt n k i).length = k := by simp [leAt, le_len]; omega
theorem leAt_end (n k : Nat) : leAt n k k = le n k := by simp [leAt]
theorem fits_true (k : Int) (hf : (decide ((k : Int) = 1) || decide ((k : Int) = 2) || decide ((k : Int) = 4) || decide ((k : Int) = 8)) = true) (w : World) : Calls Try.prog 54 [.int .i64 k].toArray w fun e w' => e = .returned (.bool true) ∧ Below w.heap.size w w' := by
  have := fits_calls k w
  rwa [hf] at this
/-- A call that hands back a slice of its own, to be written on. -/
def Owns (P : Program) (F : FuncId) (args : List Value) (w : World) (e : TypeId) {α β : Type} [GoT α] (p : Sl α → β → Prop) (r : Sl α → β → Value) : Prop :=
  Calls P F args.toArray w fun en w' => ∃ S b, p S b ∧ en = .returned (r S b) ∧ Mem w [] [Res.own e S] w'
theorem J.cO {P : Program} {N : Nat} {w0 : World} {ops : Array Oper} {Q : Act → World → Prop} {l : Pl Oper} {s : Slots} {mo : List Nat} {kk m : List Res} {f : Fl} {d : Nat} {x : Operand} {ty : TypeId} {ps : String} {af : Array Edge} {at_ : Array TypeId} {α β : Type} [GoT α] {e : TypeId} {F : FuncId} [hF : FnC P F] {args : List Operand} {first cap vs full : List Value} {r : Sl α → β → Value} {p : Sl α → β → Prop}
    (hcall : ∀ w, Mem w0 mo m w → Owns P F full w e p r) (K : ∀ S b, p S b → J P N w0 ops Q l ((d, r S b) :: s) mo (f.grow [Res.own e S] kk) (Res.own e S :: m))
    (hf : f ≠ .q := by exact nofun) (hd : Nat.blt d N = true := by rfl) (hx : EvU N true s x (.func (.func F) first.toArray cap.toArray) := by exact EvU.plain rfl) (ha : Evs N true s args vs := by repeat (first | exact Evs.nil | apply Evs.cons (by first | exact EvU.plain rfl | exact EvU.cond rfl))) (hfull : first ++ vs ++ cap = full := by rfl) :
    J P N w0 ops Q (.op f ⟨some d, .call ⟨.value x, args.toArray, at_⟩, ty, ps, af, none⟩ l) s mo kk m :=
  J.callNew (ι := { q : Sl α × β // p q.1 q.2 }) (r := fun q => r q.1.1 q.1.2) (n := fun q => [Res.own e q.1.1]) hf hd Wt.none hx ha hfull (fun w hw => (hcall w hw).mono fun en w' ⟨S, b, h1, h2, h3⟩ => ⟨⟨(S, b), h1⟩, h2, h3⟩) (fun q _ => K q.1.1 q.1.2 q.2)
theorem put_gives (n k : Nat) (hk : k = 1 ∨ k = 2 ∨ k = 4 ∨ k = 8) (hn : n < 18446744073709551616) (w : World) : Owns Try.prog 47 [.int .u64 (n : Int), .int .i64 (k : Int)] w 5 (fun (x : Sl UInt8) (er : Int) => (n < 2 ^ (8 * k) → x.l = le n k ∧ er = 0) ∧ (¬ n < 2 ^ (8 * k) → x = Sl.none ∧ er = 2)) (fun x er => .tuple #[x.v, .int .i64 er]) := by
  have hf : (decide ((k : Int) = 1) || decide ((k : Int) = 2) || decide ((k : Int) = 4) || decide ((k : Int) = 8)) = true := by
    rcases hk with rfl | rfl | rfl | rfl <;> rfl
  refine enter Try.func47 rfl Try.ntmps47 ?_
  have hp2 : LenOk n 0 → True := fun _ => trivial
  repeat' (first
      | refine J.bu ?_
      | refine J.bg ?_
      | refine J.boxA nofun rfl .none (.plain rfl) (fun _ _ => ?_)
      | refine J.box1 nofun rfl .none (.plain rfl) rfl (fun _ _ => ?_)
      | refine J.alloc nofun rfl .none (fun _ _ => ?_)
      | refine J.sto ?_
      | refine J.stoN ?_
      | refine J.lit (fun _ _ => ?_)
      | refine J.alt nofun ?_ ?_
      | exact J.stop
      | refine G.condTh ?_
      | refine G.condFh ?_
      | refine J.call (fun w _ => fits_true k hf w) ?_
      | refine J.cE (fun w _ => len_calls n hn w) (fun r hr => ?_)
      | refine J.mkN (α := UInt8) (n := k) (fun S hS hA => ?_)
      | refine J.fin ?_
      | refine G.seq ?_
      | refine G.region ?_
      | refine G.draw (by kernel_rfl) (by kernel_rfl) ?_
      | refine Fin.go ?_
      | refine G.condT ?_
      | refine G.condF ?_
      | (refine G.cond rfl (fun h => ?_) (fun h => ?_) <;> (have hp := h; try simp only [decide_eq_true_eq, decide_eq_false_iff_not, Bool.and_eq_true, Bool.or_eq_true, Bool.and_eq_false_iff, Bool.or_eq_false_iff, Bool.not_eq_true', Bool.not_eq_false'] at hp))
      | refine G.ret ?_
      | refine G.skip ?_
      | refine G.exit ?_
      | refine G.block ?_
      | refine Fin.resS Try.results47 ?_
      | refine Fin.resT Try.results47 ?_)
  · refine fun w' hw => ⟨Sl.none, 2, ⟨fun h1 => ?_, fun _ => ⟨rfl, rfl⟩⟩, rfl, hw.own0 5⟩
    exfalso
    have hp' : 8 * (k : Int) < r := by simpa using hp
    unfold LenOk at hr
    rcases hk with rfl | rfl | rfl | rfl <;> simp at h1 <;> omega
  · have hlt : n < 2 ^ (8 * k) := by
      have hp' : ¬ 8 * (k : Int) < r := by simpa using hp
      unfold LenOk at hr
      rcases hk with rfl | rfl | rfl | rfl <;> simp <;> omega
    have hSl : S.l.length = k := by simp [hS]
    refine G.loop2 0 S (fun (i : Nat) (S' : Sl UInt8) => [(22, .int .i64 (i : Nat)), (21, .int .i64 (k : Nat)), (6, S'.v), (0, .int .u64 (n : Nat))]) (fun i S' => [Res.own 5 S']) (fun i S' => i ≤ k ∧ S'.l = leAt n k i) (fun i _ => k - i) ⟨by omega, by rw [hS]; simp [leAt, le]; exact .inr rfl⟩ ?_
    rintro i S' ⟨hi, hl⟩
    have hl' : S'.l.length = k := by rw [hl]; exact leAt_len n k i hi
    repeat' (first
        | refine J.bu ?_
        | refine J.bg ?_
        | refine J.boxA nofun rfl .none (.plain rfl) (fun _ _ => ?_)
        | refine J.box1 nofun rfl .none (.plain rfl) rfl (fun _ _ => ?_)
        | refine J.alloc nofun rfl .none (fun _ _ => ?_)
        | refine J.sto ?_
        | refine J.stoN ?_
        | refine J.lit (fun _ _ => ?_)
        | refine J.alt nofun ?_ ?_
        | exact J.stop
        | refine J.stO (S := S') (byteOf ((n / 2 ^ (8 * i) : Nat) : Int)) (fun S'' hv hl2 hB hA2 => ?_)
        | refine J.fin ?_
        | refine G.seq ?_
        | refine G.region ?_
        | refine G.draw (by kernel_rfl) (by kernel_rfl) ?_
        | refine Fin.go ?_
        | refine G.condT ?_
        | refine G.condF ?_
        | (refine G.cond rfl (fun h => ?_) (fun h => ?_) <;> (have hp := h; try simp only [decide_eq_true_eq, decide_eq_false_iff_not, Bool.and_eq_true, Bool.or_eq_true, Bool.and_eq_false_iff, Bool.or_eq_false_iff, Bool.not_eq_true', Bool.not_eq_false'] at hp))
        | refine G.ret ?_
        | refine G.skip ?_
        | refine G.exit ?_
        | refine G.block ?_
        | refine Fin.resS Try.results47 ?_
        | refine Fin.resT Try.results47 ?_)
    · refine Fin.again2 (i + 1) S'' ⟨by omega, by rw [hl2, hl]; exact leAt_set n k i (by omega)⟩ (by omega)
    · refine fun w' hw => ⟨S', 0, ⟨fun _ => ⟨?_, rfl⟩, fun h => absurd hlt h⟩, rfl, hw⟩
      rw [hl, show i = k by omega]; exact leAt_end n k
/-- count(n) -/
theorem count_gives (n : Nat) (hn : n < 4294967296) (w : World) : Owns Try.prog 21 [.int .i64 (n : Int)] w 5 (fun (x : Sl UInt8) (_ : Unit) => x.l = le n 4) (fun x _ => x.v) := by
  refine enter Try.func21 rfl Try.ntmps21 ?_
  repeat' (first
      | refine J.bu ?_
      | refine J.bg ?_
      | refine J.boxA nofun rfl .none (.plain rfl) (fun _ _ => ?_)
      | refine J.box1 nofun rfl .none (.plain rfl) rfl (fun _ _ => ?_)
      | refine J.alloc nofun rfl .none (fun _ _ => ?_)
      | refine J.sto ?_
      | refine J.stoN ?_
      | refine J.lit (fun _ _ => ?_)
      | refine J.alt nofun ?_ ?_
      | exact J.stop
      | refine J.cO (fun w _ => put_gives n 4 (by omega) (by omega) w) (fun x er hx => ?_)
      | refine J.fin ?_
      | refine G.seq ?_
      | refine G.region ?_
      | refine G.draw (by kernel_rfl) (by kernel_rfl) ?_
      | refine Fin.go ?_
      | refine G.condT ?_
      | refine G.condF ?_
      | (refine G.cond rfl (fun h => ?_) (fun h => ?_) <;> (have hp := h; try simp only [decide_eq_true_eq, decide_eq_false_iff_not, Bool.and_eq_true, Bool.or_eq_true, Bool.and_eq_false_iff, Bool.or_eq_false_iff, Bool.not_eq_true', Bool.not_eq_false'] at hp))
      | refine G.ret ?_
      | refine G.skip ?_
      | refine G.exit ?_
      | refine G.block ?_
      | refine Fin.resS Try.results21 ?_
      | refine Fin.resT Try.results21 ?_)
  exact fun w' hw => ⟨x, (), (hx.1 (by omega)).1, rfl, hw⟩
/-- bytes.Clone -/
theorem clone_gives (a : Sl UInt8) (w : World) (ha : Dp.deep a w) (hl : a.l.length ≤ 140737488355328) : Gives Try.prog 33 [a.v] w (fun x : Sl UInt8 => x.l = a.l) (fun x => x.v) := by
  haveI := Old.of ha
  refine enter Try.func33 rfl Try.ntmps33 ?_
  repeat' (first
      | refine J.lO (α := UInt8) [] (fun S hS hA => ?_)
      | refine J.bu ?_
      | refine J.bg ?_
      | refine J.boxA nofun rfl .none (.plain rfl) (fun _ _ => ?_)
      | refine J.box1 nofun rfl .none (.plain rfl) rfl (fun _ _ => ?_)
      | refine J.alloc nofun rfl .none (fun _ _ => ?_)
      | refine J.sto ?_
      | refine J.stoN ?_
      | refine J.lit (fun _ _ => ?_)
      | refine J.alt nofun ?_ ?_
      | exact J.stop
      | refine J.apX (S := S) (T := a) (fun S' hS' hn => ?_)
      | refine J.fin ?_
      | refine G.seq ?_
      | refine G.region ?_
      | refine G.draw (by kernel_rfl) (by kernel_rfl) ?_
      | refine Fin.go ?_
      | refine G.condT ?_
      | refine G.condF ?_
      | (refine G.cond rfl (fun h => ?_) (fun h => ?_) <;> (have hp := h; try simp only [decide_eq_true_eq, decide_eq_false_iff_not, Bool.and_eq_true, Bool.or_eq_true, Bool.and_eq_false_iff, Bool.or_eq_false_iff, Bool.not_eq_true', Bool.not_eq_false'] at hp))
      | refine G.ret ?_
      | refine G.skip ?_
      | refine G.exit ?_
      | refine G.block ?_
      | refine Fin.resS Try.results33 ?_
      | refine Fin.resT Try.results33 ?_)
  · exact fun w' hw => ⟨Sl.none, [], by rw [Sl.nil_l (by simpa using hp)]; rfl, rfl, hw.none⟩
  · exact fun w' hw => ⟨S', _, by show S'.l = a.l; rw [hS', hS]; rfl, rfl, hw.freeze⟩
end Go.Proofs.Ytdhhjhkonmacdaa
