import Derived.Test.YtmlhkloopmbpeaaI6
namespace Go.Proofs.Ytmlhkloopmbpeaa
open Go.RowKit
set_option linter.unusedSimpArgs false
set_option maxHeartbeats 4000000
set_option linter.unusedVariables false
/-- The instance at the head of round t. -/
def instAt (i : Inst) (now dr ho t : Int) : Inst :=
  if t ≤ dr then { i with state := 4, due := now + dr, noticed := true, kill := now + 120 }
  else if t ≤ dr + ho then { i with state := 5, due := now + dr + ho, noticed := true, kill := now + 120 }
  else { i with state := 6, due := 0, noticed := true, kill := now + 120 }
def cfgE (dr ho : Int) : Cfg := ⟨dr, 0, ho, 5⟩
theorem spansE {dr ho : Int} (h1 : 0 ≤ dr ∧ dr < 60) (h2 : 0 ≤ ho ∧ ho < 60) : spansOk (cfgE dr ho) = true := by
  simp only [spansOk, cfgE, decide_eq_true_eq]
  have e : ∀ a b c : Int, a ≤ c → b ≤ c → imax a b ≤ c := fun a b c h1 h2 => by unfold imax; split <;> omega
  exact decide_eq_true (e _ 5 65536 (e _ dr 65536 (e 0 ho 65536 (by omega) (by omega)) (by omega)) (by omega))
/-- Do, where it is let in. -/
theorem doF_go {i : Inst} {what now at_ : Int} {c : Cfg} (hm : mayI i = true) (hw : 1 ≤ what ∧ what ≤ 11) (hn : now ≤ 1099511627776) (ha : at_ ≤ 1099511627776) (hs : spansOk c = true) :
    doF i what now at_ c = if (!staysF i what now && !(findF i what c).2) = true then (i, 0, 12)
      else
        if staysF i what now = true then ((if what = 2 then { i with noticed := true, kill := at_ } else if what = 3 then { i with risk := true } else i), 0, 0)
        else ({ (if what = 2 then { i with noticed := true, kill := at_ } else if what = 3 then { i with risk := true } else i) with state := (findF i what c).1.state, due := if (findF i what c).1.timed = true then IntKind.u64.wrap (now + (findF i what c).1.due) else 0 }, (findF i what c).1.ask, 0) := by
  unfold doF
  rw [if_neg (by simp [hm, hs]; omega)]
theorem may_at {i : Inst} {now dr ho t : Int} (hm : mayI i = true) (h1 : 0 ≤ dr ∧ dr < 60) (h2 : 0 ≤ ho ∧ ho < 60) (hn : 0 ≤ now ∧ now ≤ 1099511626776) : mayI (instAt i now dr ho t) = true := by
  simp only [mayI, Bool.and_eq_true, Bool.or_eq_true, decide_eq_true_eq, Bool.not_eq_true', Bool.or_eq_false_iff, decide_eq_false_iff_not] at hm ⊢
  unfold instAt
  split
  · exact ⟨⟨⟨hm.1.1.1, hm.1.1.2⟩, by simp⟩, ⟨by simp; omega, by simp; omega⟩, by simp⟩
  · split
    · exact ⟨⟨⟨hm.1.1.1, hm.1.1.2⟩, by simp⟩, ⟨by simp; omega, by simp; omega⟩, by simp⟩
    · exact ⟨⟨⟨hm.1.1.1, hm.1.1.2⟩, by simp⟩, ⟨by simp, by simp; omega⟩, by simp⟩
theorem notice {i : Inst} {now dr ho : Int} (hm : mayI i = true) (hs : i.state = 3) (h1 : 0 ≤ dr ∧ dr < 60) (h2 : 0 ≤ ho ∧ ho < 60) (hn : 0 ≤ now ∧ now ≤ 1099511626776) :
    doF i 2 now (now + 120) (cfgE dr ho) = (instAt i now dr ho 0, 0, 0) := by
  have hsp := spansE h1 h2
  have hw : IntKind.u64.wrap (now + dr) = now + dr := wrap_u64 (by omega) (by omega)
  have hf : findF i 2 (cfgE dr ho) = (⟨4, dr, true, 0⟩, true) := by
    simp [findF, rowAt, rowsL, hs, cfgE]
  rw [doF_go hm (by omega) (by omega) (by omega) hsp]
  simp [hf, staysF, hs, hw, instAt, h1.1]
theorem beat {i : Inst} {now dr ho t : Int} (hm : mayI i = true) (h1 : 0 ≤ dr ∧ dr < 60) (h2 : 0 ≤ ho ∧ ho < 60) (hn : 0 ≤ now ∧ now ≤ 1099511626776) (ht : 0 ≤ t ∧ t ≤ dr + ho) :
    (doF (instAt i now dr ho t) 4 (now + t) 0 (cfgE dr ho)).1 = instAt i now dr ho t := by
  have hsp := spansE h1 h2
  have hma := may_at (t := t) hm h1 h2 hn
  rw [doF_go hma (by omega) (by omega) (by omega) hsp]
  by_cases c1 : t ≤ dr
  · have hst : (instAt i now dr ho t).state = 4 := by simp [instAt, c1]
    have hf : (findF (instAt i now dr ho t) 4 (cfgE dr ho)).2 = false := by
      simp [findF, rowAt, rowsL, hst, cfgE]
    simp [hf, staysF, hst]
  · have hst : (instAt i now dr ho t).state = 5 ∧ (instAt i now dr ho t).noticed = true := by simp [instAt, c1, ht.2]
    simp [staysF, hst.1, hst.2]
theorem tick {i : Inst} {now dr ho t : Int} (hm : mayI i = true) (h1 : 0 ≤ dr ∧ dr < 60) (h2 : 0 ≤ ho ∧ ho < 60) (hn : 0 ≤ now ∧ now ≤ 1099511626776) (ht : 0 ≤ t ∧ t ≤ dr + ho) :
    doF (instAt i now dr ho t) 8 (now + t) 0 (cfgE dr ho) = (instAt i now dr ho (t + 1), if t = dr + ho then 2 else 0, 0) := by
  have hsp := spansE h1 h2
  have hma := may_at (t := t) hm h1 h2 hn
  rw [doF_go hma (by omega) (by omega) (by omega) hsp]
  by_cases c1 : t < dr
  · have hst : (instAt i now dr ho t) = { i with state := 4, due := now + dr, noticed := true, kill := now + 120 } := by simp [instAt]; omega
    have hst' : (instAt i now dr ho (t + 1)) = { i with state := 4, due := now + dr, noticed := true, kill := now + 120 } := by simp [instAt]; omega
    rw [hst]
    have hne : ¬ t = dr + ho := by omega
    have hlt : now + t < now + dr := by omega
    simp [staysF, hst', hne, hlt]
  · by_cases c2 : t = dr
    · subst c2
      have hst : (instAt i now t ho t) = { i with state := 4, due := now + t, noticed := true, kill := now + 120 } := by simp [instAt]
      rw [hst]
      by_cases c3 : 0 < ho
      · have hf : findF { i with state := 4, due := now + t, noticed := true, kill := now + 120 } 8 (cfgE t ho) = (⟨5, ho, true, 0⟩, true) := by
          simp [findF, rowAt, rowsL, cfgE, leftR, c3]
        have hw : IntKind.u64.wrap (now + t + ho) = now + t + ho := wrap_u64 (by omega) (by omega)
        have hne : ¬ t = t + ho := by omega
        have e1 : ¬ t + 1 ≤ t := by omega
        have e2 : t + 1 ≤ t + ho := by omega
        have e3 : ¬ ho = 0 := by omega
        simp [hf, staysF, hw, hne, instAt, e1, e2, e3]
      · have h0 : ho = 0 := by omega
        subst h0
        have hf : findF { i with state := 4, due := now + t, noticed := true, kill := now + 120 } 8 (cfgE t 0) = (endR, true) := by
          simp [findF, rowAt, rowsL, cfgE, leftR]
        have e1 : ¬ t + 1 ≤ t := by omega
        simp [hf, staysF, instAt, e1, endR]
    · have c4 : ¬ t ≤ dr := by omega
      have hst : (instAt i now dr ho t) = { i with state := 5, due := now + dr + ho, noticed := true, kill := now + 120 } := by simp [instAt, c4, ht.2]
      rw [hst]
      by_cases c5 : t = dr + ho
      · have hf : findF { i with state := 5, due := now + dr + ho, noticed := true, kill := now + 120 } 8 (cfgE dr ho) = (endR, true) := by
          simp [findF, rowAt, rowsL, cfgE, idle]
        have e1 : ¬ t + 1 ≤ dr := by omega
        have e2 : ¬ t + 1 ≤ dr + ho := by omega
        have e3 : ¬ now + t < now + dr + ho := by omega
        have e4 : ¬ now + dr + ho > now + t := by omega
        simp only [hf, staysF, instAt, e1, e2, e3, endR]
        simp [c5]
        try omega
      · have e1 : ¬ t + 1 ≤ dr := by omega
        have e2 : t + 1 ≤ dr + ho := by omega
        have e3 : now + t < now + dr + ho := by omega
        simp [staysF, instAt, e1, e2, e3, c5]
end Go.Proofs.Ytmlhkloopmbpeaa
