/- batch: Put. -/
import Derived.Test.YtdhhjhkonmacdaaD11
namespace Go.Proofs.Ytdhhjhkonmacdaa
open Go.RowKit
set_option linter.unusedSimpArgs false
set_option maxHeartbeats 4000000
set_option linter.unusedVariables false
attribute [local irreducible] QV EvU Wt J G Fin
def enc1 (x : PC) : List UInt8 := byteOf (x.1.size : Int) :: (x.1.data.toList ++ if x.2.2 then [1] else 0 :: (le x.2.1.length 4 ++ x.2.1))
def putB (l : List PC) : List UInt8 := le l.length 4 ++ l.flatMap enc1
theorem rises_mem : ∀ (l : List (ByteArray × Nat)) (f : Bool) (p : ByteArray), rises f p l = true → ∀ x ∈ l, x.1.size ≤ 16 ∧ x.2 ≤ 524288
  | [], _, _, _, x, hx => by cases hx
  | (k, n) :: r, f, p, h, x, hx => by
    simp only [rises, Bool.and_eq_true] at h
    rcases List.mem_cons.1 hx with rfl | hx
    · have := h.1
      simp only [kvOk, Bool.not_eq_true', Bool.or_eq_false_iff, decide_eq_false_iff_not] at this
      refine ⟨?_, ?_⟩
      · have h2 := this.1.1.2; show k.size ≤ 16; omega
      · have h2 := this.2; show n ≤ 524288; omega
    · exact rises_mem r false k h.2 x hx
theorem mayC_mem {l : List Chg} (h : mayC l = true) {x : Chg} (hx : x ∈ l) : x.key.size ≤ 16 ∧ x.val.l.length ≤ 524288 := by
  unfold mayC risesL at h
  simp only [Bool.and_eq_true] at h
  exact rises_mem _ _ _ h.2 (x.key, x.val.l.length) (List.mem_map_of_mem (f := fun x : Chg => (x.key, x.val.l.length)) hx)
theorem enc1_len {x : PC} (h : x.1.size ≤ 16 ∧ x.2.1.length ≤ 524288) : (enc1 x).length ≤ 524310 := by
  unfold enc1
  have h1 : x.1.data.toList.length = x.1.size := by simp
  split <;> simp [le_len] <;> omega
theorem encs_len : ∀ l : List PC, (∀ x ∈ l, x.1.size ≤ 16 ∧ x.2.1.length ≤ 524288) → (l.flatMap enc1).length ≤ l.length * 524310
  | [], _ => by simp
  | x :: r, h => by
    have h1 := enc1_len (h x (by simp))
    have h2 := encs_len r (fun y hy => h y (by simp [hy]))
    rw [List.flatMap_cons, List.length_append, List.length_cons, Nat.succ_mul]
    omega
theorem take_pc {l : List Chg} {i : Nat} (h : i < l.length) : (l.map pc).take (i + 1) = (l.map pc).take i ++ [pc (el l default i)] := by
  rw [← List.map_take, el_take l default i h, List.map_append, List.map_take]; rfl
theorem put_c (s : Sl Chg) (w : World) (hs : Dp.deep s w) (hl : s.l.length ≤ 1048576) : Gives Try.prog 6 [s.v] w (fun x : Sl UInt8 × Int => if mayC s.l = true then x.2 = 0 ∧ x.1.l = putB (s.l.map pc) else x.2 = 2 ∧ x.1 = Sl.none) (fun x => .tuple #[x.1.v, .int .i64 x.2]) := by
  haveI := Old.of hs
  refine enter Try.func6 rfl Try.ntmps6 ?_
  repeat' (first
      | refine J.bu ?_
      | refine J.bg ?_
      | refine J.boxA nofun rfl .none (.plain rfl) (fun _ _ => ?_)
      | refine J.box1 nofun rfl .none (.plain rfl) rfl (fun _ _ => ?_)
      | refine J.alloc nofun rfl .none (fun _ _ => ?_)
      | refine J.sto ?_
      | refine J.stoN ?_
      | refine J.lit (fun _ _ => ?_)
      | refine J.alt nofun ?_ ?_
      | exact J.stop
      | refine J.call (fun w' hw => mayc_calls s w' (Kn.get hw) (by omega)) ?_
      | refine J.cO (fun w' _ => count_gives s.l.length (by omega) w') (fun b _ hb => ?_)
      | refine J.fin ?_
      | refine G.seq ?_
      | refine G.region ?_
      | refine G.draw (by kernel_rfl) (by kernel_rfl) ?_
      | refine Fin.go ?_
      | refine G.condT ?_
      | refine G.condF ?_
      | (refine G.cond rfl (fun h => ?_) (fun h => ?_) <;> (have hp := h; try simp only [decide_eq_true_eq, decide_eq_false_iff_not, Bool.and_eq_true, Bool.or_eq_true, Bool.and_eq_false_iff, Bool.or_eq_false_iff, Bool.not_eq_true', Bool.not_eq_false'] at hp))
      | refine G.ret ?_
      | refine G.skip ?_
      | refine G.exit ?_
      | refine G.block ?_
      | refine Fin.resS Try.results6 ?_
      | refine Fin.resT Try.results6 ?_)
  · refine fun w' hw => ⟨(Sl.none, 2), [], by simp [show mayC s.l = false by simpa using hp], rfl, (hw.forget (m' := []) (List.nil_sublist _)).add0 (fun w => ⟨Sl.none_deep w, trivial⟩)⟩
  · have hmay : mayC s.l = true := by simpa using hp
    have hbound : ∀ i, i ≤ s.l.length → (((s.l.map pc).take i).flatMap enc1).length ≤ i * 524310 := fun i hi => by
      have := encs_len ((s.l.map pc).take i) (fun x hx => by
        obtain ⟨y, hy, rfl⟩ := List.mem_map.1 (List.mem_of_mem_take hx)
        exact mayC_mem hmay hy)
      rwa [List.length_take, List.length_map, Nat.min_eq_left hi] at this
    refine G.loop2 (0 : Nat) b (fun i B => [(15, .int .i64 (i : Nat)), (14, .int .i64 (s.l.length : Int)), (13, s.v), (4, B.v), (0, s.v)]) (fun i B => [Res.own 5 B]) (fun i B => i ≤ s.l.length ∧ B.l = le s.l.length 4 ++ ((s.l.map pc).take i).flatMap enc1) (fun i _ => s.l.length - i) ⟨by omega, by simpa using hb⟩ ?_
    rintro i B ⟨hi, hB⟩
    have hBl : B.l.length ≤ 4 + i * 524310 := by
      rw [hB, List.length_append, le_len]; have := hbound i hi; omega
    by_cases hlt : i < s.l.length
    · have hmem := mayC_mem hmay (el_mem (d := default) hlt)
      have hk1 : (el s.l default i).key.data.toList.length = (el s.l default i).key.size := by simp
      repeat' (first
          | refine J.bu ?_
          | refine J.bg ?_
          | refine J.boxA nofun rfl .none (.plain rfl) (fun _ _ => ?_)
          | refine J.box1 nofun rfl .none (.plain rfl) rfl (fun _ _ => ?_)
          | refine J.alloc nofun rfl .none (fun _ _ => ?_)
          | refine J.sto ?_
          | refine J.stoN ?_
          | refine J.lit (fun _ _ => ?_)
          | refine J.alt nofun ?_ ?_
          | exact J.stop
          | refine G.condTh ?_
          | refine G.condFh ?_
          | refine G.draws (id := 7) (.op .q 0 (.op .q 1 (.op .q 2 (.op .q 3 (.op .q 4 (.op .q 7 (.op .q 8 (.op .h 5 (.op .a 6 (.op .a 9 (.op .q 10 .nil))))))))))) [Res.blk _ (.cells _ 45 _)] (by kernel_rfl) (by kernel_rfl) (by repeat (first | exact PlIs.nil | exact PlIs.stop | apply PlIs.op rfl | apply PlIs.alt rfl)) (by repeat (first | exact List.Sublist.refl _ | exact List.nil_sublist _ | apply List.Sublist.cons_cons | apply List.Sublist.cons)) ?_
          | refine G.draws (id := 10) (.op .q 0 (.op .q 3 (.op .q 4 (.op .q 5 (.op .h 1 (.op .a 2 (.op .h 6 (.op .a 7 (.op .q 8 .nil))))))))) [Res.blk _ (.cells _ 45 _)] (by kernel_rfl) (by kernel_rfl) (by repeat (first | exact PlIs.nil | exact PlIs.stop | apply PlIs.op rfl | apply PlIs.alt rfl)) (by repeat (first | exact List.Sublist.refl _ | exact List.nil_sublist _ | apply List.Sublist.cons_cons | apply List.Sublist.cons)) ?_
          | refine J.cO (fun w' _ => count_gives (el s.l default i).val.l.length (by omega) w') (fun c _ hc => ?_)
          | (refine J.ap1 (S := B) (byteOf ((el s.l default i).key.size : Int)) (fun B1 hB1 hn1 => ?_) (hq := (byteOf_enc' (by omega) (by omega)).symm); have hl1 : B1.l.length = B.l.length + 1 := by simp [hB1])
          | (refine J.apS (S := B1) (p := (el s.l default i).key) (fun B2 hB2 hn2 => ?_); have hl2 : B2.l.length = B1.l.length + (el s.l default i).key.size := by rw [hB2, List.length_append, hk1])
          | (refine J.ap1 (S := B2) (1 : UInt8) (fun B3 hB3 hn3 => ?_) (hq := by rfl))
          | (refine J.ap1 (S := B2) (0 : UInt8) (fun B3 hB3 hn3 => ?_) (hq := by rfl); have hl3 : B3.l.length = B2.l.length + 1 := by simp [hB3])
          | (refine J.apX (S := B3) (T := c) (fun B4 hB4 hn4 => ?_) (hroom := by rw [hc, le_len]; simp only [maxLen]; omega); have hl4 : B4.l.length = B3.l.length + 4 := by simp [hB4, hc, le_len])
          | (refine J.apX (S := B4) (T := (el s.l default i).val) (fun B5 hB5 hn5 => ?_))
          | refine J.fin ?_
          | refine G.seq ?_
          | refine G.region ?_
          | refine G.draw (by kernel_rfl) (by kernel_rfl) ?_
          | refine Fin.go ?_
          | refine G.condT ?_
          | refine G.condF ?_
          | (refine G.cond rfl (fun h => ?_) (fun h => ?_) <;> (have hp := h; try simp only [decide_eq_true_eq, decide_eq_false_iff_not, Bool.and_eq_true, Bool.or_eq_true, Bool.and_eq_false_iff, Bool.or_eq_false_iff, Bool.not_eq_true', Bool.not_eq_false'] at hp))
          | refine G.ret ?_
          | refine G.skip ?_
          | refine G.exit ?_
          | refine G.block ?_
          | refine Fin.resS Try.results6 ?_
          | refine Fin.resT Try.results6 ?_)
      · have hg : (el s.l default i).gone = true := by assumption
        refine Fin.again2 (i + 1) B3 ⟨by omega, ?_⟩ (by omega)
        rw [take_pc hlt, List.flatMap_append, hB3, hB2, hB1, hB]
        simp [enc1, pc, hg]
      · have hg : (el s.l default i).gone = false := by assumption
        refine Fin.again2 (i + 1) B5 ⟨by omega, ?_⟩ (by omega)
        rw [take_pc hlt, List.flatMap_append, hB5, hB4, hB3, hB2, hB1, hB, hc]
        simp [enc1, pc, hg]
    · have hil : i = s.l.length := by omega
      repeat' (first
          | refine J.bu ?_
          | refine J.bg ?_
          | refine J.boxA nofun rfl .none (.plain rfl) (fun _ _ => ?_)
          | refine J.box1 nofun rfl .none (.plain rfl) rfl (fun _ _ => ?_)
          | refine J.alloc nofun rfl .none (fun _ _ => ?_)
          | refine J.sto ?_
          | refine J.stoN ?_
          | refine J.lit (fun _ _ => ?_)
          | refine J.alt nofun ?_ ?_
          | exact J.stop
          | refine G.condTh ?_
          | refine G.condFh ?_
          | refine J.fin ?_
          | refine G.seq ?_
          | refine G.region ?_
          | refine G.draw (by kernel_rfl) (by kernel_rfl) ?_
          | refine Fin.go ?_
          | refine G.condT ?_
          | refine G.condF ?_
          | (refine G.cond rfl (fun h => ?_) (fun h => ?_) <;> (have hp := h; try simp only [decide_eq_true_eq, decide_eq_false_iff_not, Bool.and_eq_true, Bool.or_eq_true, Bool.and_eq_false_iff, Bool.or_eq_false_iff, Bool.not_eq_true', Bool.not_eq_false'] at hp))
          | refine G.ret ?_
          | refine G.skip ?_
          | refine G.exit ?_
          | refine G.block ?_
          | refine Fin.resS Try.results6 ?_
          | refine Fin.resT Try.results6 ?_)
      refine fun w' hw => ⟨(B, 0), _, ?_, rfl, hw.freeze.heldTo (fun w h => ⟨h, trivial⟩)⟩
      have hlen : (s.l.map pc).length = s.l.length := by simp
      simp only [hmay, if_true, true_and]
      rw [hB, putB, hil, hlen, ← hlen, List.take_length]
end Go.Proofs.Ytdhhjhkonmacdaa
