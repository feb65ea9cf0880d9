import Derived.Test.YtmlhkloopmbpeaaI1
namespace Go.Proofs.Ytmlhkloopmbpeaa
open Go.RowKit
set_option linter.unusedSimpArgs false
set_option maxHeartbeats 4000000
set_option linter.unusedVariables false
attribute [local irreducible] QV EvU Wt J G Fin
def key (p : Int × Int) : Value := .agg [.int .u8 p.1, .int .u8 p.2].toArray
def rowV (r : Row) : Value := .agg r.cells.toArray
def rowsV (c : Cfg) : List (Value × Value) := (rowsL c).map fun p => (key p.1, rowV p.2)
theorem rows_calls (c : Cfg) (w : World) : Calls Try.prog 14 [.agg c.cells.toArray].toArray w fun e w' => ∃ G, e = .returned (.map (some G)) ∧ Mem w [] [.mp G (rowsV c)] w' := by
  refine enter Try.func14 rfl Try.ntmps14 ?_
  repeat' (first
      | refine J.au ?_
      | refine J.ag ?_
      | refine J.boxA nofun rfl .none (.plain rfl) (fun _ _ => ?_)
      | refine J.box1 nofun rfl .none (.plain rfl) rfl (fun _ _ => ?_)
      | refine J.alloc nofun rfl .none (fun _ _ => ?_)
      | refine J.sto ?_
      | refine J.stoN ?_
      | refine J.lit (fun _ _ => ?_)
      | refine J.alt nofun ?_ ?_
      | exact J.stop
      | refine G.drawsD (id := 1) (.op .q 0 (.op .q 1 (.op .q 2 (.op .q 3 (.op .q 4 (.op .q 5 (.alt .a 6 (.op .a 7 (.op .a 8 (.op .a 9 .nil))) (.alt .a 7 (.op .a 6 (.op .a 8 (.op .a 9 .nil))) .stop)))))))) [3, 4] (by kernel_rfl) (by kernel_rfl) ?_
      | refine G.drawsD (id := 3) (.op .q 1 (.op .q 2 (.op .q 3 (.op .q 5 (.op .q 6 (.op .q 7 (.op .q 9 (.op .q 10 (.op .q 11 (.op .q 12 (.op .q 14 (.op .q 15 (.op .q 17 (.op .q 18 (.op .q 20 (.op .q 21 (.op .q 23 (.op .q 24 (.op .q 26 (.op .q 27 (.op .q 29 (.op .q 30 (.op .q 32 (.op .q 33 (.op .q 35 (.op .q 36 (.op .q 38 (.op .q 39 (.op .q 41 (.op .q 42 (.op .q 43 (.op .q 44 (.op .q 46 (.op .q 47 (.op .q 48 (.op .a 0 (.many [4, 8, 13, 16, 19, 22, 25, 28, 31, 34, 37, 40, 45, 49] (.op .q 50 (.op .q 51 .nil))))))))))))))))))))))))))))))))))))))) [] (by kernel_rfl) (by kernel_rfl) ?_
      | refine J.call (fun w hw => up_calls c w) ?_
      | refine J.call (fun w hw => left_calls c w) ?_
      | refine J.call (fun w hw => end_calls w) ?_
      | refine J.makeMap rfl Wt.none (fun gg hgg => ?_)
      | refine J.inserts (K := IsPair .u8) (es := rowsV c) (by repeat (first | exact Ins.nil | apply Ins.cons rfl rfl)) (EvU.plain rfl) (by intro p hp; obtain ⟨q, hq, rfl⟩ := List.mem_map.1 hp; exact ⟨_, _, rfl⟩) (by simp [rowsV, rowsL, key]) (by repeat (first | exact List.Sublist.refl _ | exact List.nil_sublist _ | apply List.Sublist.cons_cons | apply List.Sublist.cons)) ?_
      | refine J.fin ?_
      | refine G.seq ?_
      | refine G.region ?_
      | refine G.draw (by kernel_rfl) (by kernel_rfl) ?_
      | refine Fin.go ?_
      | refine G.condT ?_
      | refine G.condF ?_
      | (refine G.cond rfl (fun h => ?_) (fun h => ?_) <;> (have hp := h; try simp only [decide_eq_true_eq, decide_eq_false_iff_not, Bool.and_eq_true, Bool.or_eq_true, Bool.and_eq_false_iff, Bool.or_eq_false_iff, Bool.not_eq_true', Bool.not_eq_false'] at hp))
      | refine G.ret ?_
      | refine G.skip ?_
      | refine G.exit ?_
      | refine G.block ?_
      | refine Fin.resS Try.results14 ?_
      | refine Fin.resT Try.results14 ?_)
  all_goals exact fun w' hw => ⟨_, rfl, hw.forget (by repeat (first | exact List.Sublist.refl _ | exact List.nil_sublist _ | apply List.Sublist.cons_cons | apply List.Sublist.cons))⟩
def rowAt (c : Cfg) (st what : Int) : Option Row := ((rowsL c).find? fun p => decide (p.1 = (st, what))).map (·.2)
theorem rows_found (c : Cfg) (st what : Int) : Found (rowsV c) (key (st, what)) ((rowAt c st what).map rowV) :=
  Found.of (ek := key) (eb := rowV) (fun a b h => by
    obtain ⟨a1, a2⟩ := a; obtain ⟨b1, b2⟩ := b
    simp [key] at h; simp [h]) (by simp [rowsL]) (st, what)
theorem keys_ok (c : Cfg) : ∀ p ∈ rowsV c, IsPair .u8 p.1 := by
  intro p hp; obtain ⟨q, hq, rfl⟩ := List.mem_map.1 hp; exact ⟨_, _, rfl⟩
end Go.Proofs.Ytmlhkloopmbpeaa
