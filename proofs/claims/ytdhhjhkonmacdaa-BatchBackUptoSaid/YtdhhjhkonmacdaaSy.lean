/- Generic: the judgements of the walk (code, regions, single operations) and their rules. -/
import Derived.Test.YtdhhjhkonmacdaaSx
namespace Go.Proofs.Ytdhhjhkonmacdaa
open Go.RowKit
set_option linter.unusedVariables false
set_option linter.unusedSimpArgs false

/-! ### regions -/
/-- q: it only reads, and reads the same whenever it comes up in its region · a: any, when nothing else may come up · h: the same, and what it makes is not turned before the region's end. -/
inductive Fl | q | a | h
/-- The order that a region is walked in: one operation behind the other; 'alt o r m': what comes up next is o, and r behind it, or it is one of m. -/
inductive Pl (α : Type)
  | nil
  | stop
  | op (f : Fl) (o : α) (r : Pl α)
  | alt (f : Fl) (o : α) (r m : Pl α)
  | many (l : List α) (r : Pl α)
@[reducible] def Fl.sel : Fl → List Res → List Res → List Res
  | .q, k, _ => k
  | .a, _, m => m
  | .h, _, m => m
@[reducible] def Fl.grow : Fl → List Res → List Res → List Res
  | .h, n, k => n ++ k
  | _, _, k => k
def effUpon (P : Program) (R : Value → World → Prop) : Result Next → Prop
  | .ok (.value u) w' => R u w'
  | .ok .skip w' => R undef w'
  | .ok (.enter f args) w' => Calls P f args w' (fun e w'' => ∃ u, e = .returned u ∧ R u w'')
  | _ => False
def effAt (P : Program) (o : Oper) (a : Act) (w : World) (R : Value → World → Prop) : Prop := effUpon P R ((execOp a.eval o).run P w)
def Closed (D : World → Prop) : Prop := ∀ w w', D w → Below w.heap.size w w' → D w'
/-- One operation, from every world of D. -/
def stepT (P : Program) (ops : Array Oper) (C : World → Prop) (o : Oper) (K : (World → Prop) → Act → (World → Prop) → Prop) (a : Act) (D : World → Prop) : Prop :=
  if Region.wanted o (yielded ops a.tmps) then
    ∃ (ι : Type) (v : ι → Value) (D' C' : ι → World → Prop), (∀ x w, D' x w → C' x w) ∧ (∀ x w, C' x w → C w) ∧ (∀ x, Closed (D' x)) ∧ (∀ w, D w → effAt P o a w (fun u w' => ∃ x, u = v x ∧ D' x w')) ∧ ∀ x, K (C' x) (a.put o.dst (v x)) (D' x)
  else K C (a.put o.dst undef) D
/-- Some operations that write no slot, in whatever order. I: what holds behind those that are done. -/
def Many (P : Program) (ops : Array Oper) (C : World → Prop) (l : List Oper) (a : Act) (D : World → Prop) (K : (World → Prop) → Prop) : Prop :=
  ∃ (I : List Oper → World → Prop) (E : World → Prop), (∀ w, D w → I [] w) ∧ (∀ o ∈ l, o.dst = none ∧ Region.wanted o (yielded ops a.tmps) = true) ∧ (∀ done w, I done w → C w) ∧ (∀ done, Closed (I done)) ∧
    (∀ o done rest, (o :: done ++ rest).Perm l → ∀ w, I done w → effAt P o a w (fun _ w' => I (o :: done) w')) ∧ (∀ done, done.Perm l → ∀ w, I done w → E w) ∧ (∀ w, E w → C w) ∧ Closed E ∧ K E
def Run (P : Program) (ops : Array Oper) (Q : Act → World → Prop) : Pl Oper → (World → Prop) → Act → (World → Prop) → Prop
  | .nil, _, a, D => ∀ w, D w → Q a w
  | .stop, _, _, _ => True
  | .op .q o r, C, a, D =>
    if Region.wanted o (yielded ops a.tmps) then ∃ v, (∀ w, C w → o.quietAt P a (Below w.heap.size w) w v) ∧ Run P ops Q r C (a.put o.dst v) D
    else Run P ops Q r C (a.put o.dst undef) D
  | .op .a o r, C, a, D => stepT P ops C o (fun C a D => Run P ops Q r C a D) a D
  | .op .h o r, C, a, D => stepT P ops C o (fun C a D => Run P ops Q r C a D) a D
  | .alt _ o r m, C, a, D => stepT P ops C o (fun C a D => Run P ops Q r C a D) a D ∧ Run P ops Q m C a D
  | .many l r, C, a, D => Many P ops C l a D (Run P ops Q r C a)
section
variable {P : Program} {ops : Array Oper} {Q : Act → World → Prop} {C : World → Prop}
theorem effAt_of_quiet {o : Oper} {a : Act} {w : World} {v : Value} (h : o.quietAt P a (Below w.heap.size w) w v) : effAt P o a w (fun u w' => u = v ∧ Below w.heap.size w w') := by
  unfold Oper.quietAt at h
  unfold effAt
  generalize (execOp a.eval o).run P w = r at *
  cases r with
  | ok n w' =>
    cases n <;> simp only [Oper.quietUpon] at h <;> simp only [effUpon]
    case value u => obtain ⟨rfl, rfl⟩ := h; exact ⟨rfl, Below.refl _ _⟩
    case skip => obtain ⟨rfl, rfl⟩ := h; exact ⟨rfl, Below.refl _ _⟩
    case enter f args => obtain ⟨rfl, h⟩ := h; exact h.mono fun e w'' ⟨he, hc⟩ => ⟨v, he, rfl, hc⟩
  | halt x w' => simp only [Oper.quietUpon] at h
theorem effAt.mono {o : Oper} {a : Act} {w : World} {R R' : Value → World → Prop} (h : effAt P o a w R) (hR : ∀ u w', R u w' → R' u w') : effAt P o a w R' := by
  unfold effAt at *
  generalize (execOp a.eval o).run P w = r at *
  cases r with
  | ok n w' =>
    cases n <;> simp only [effUpon] at h ⊢
    case value u => exact hR _ _ h
    case skip => exact hR _ _ h
    case enter f args => exact h.mono fun e w'' ⟨u, he, hr⟩ => ⟨u, he, hR _ _ hr⟩
  | halt x w' => simp only [effUpon] at h
theorem wp_of_eff {o : Oper} {a : Act} {w : World} {R : Value → World → Prop} {K : Act → World → Prop} {Q' : Exit → Act → World → Prop} (h : effAt P o a w R) (hK : ∀ u w', R u w' → K (a.put o.dst u) w') : o.wp P a w K Q' := by
  unfold effAt at h
  unfold Oper.wp
  generalize (execOp a.eval o).run P w = r at *
  cases r with
  | ok n w' =>
    cases n <;> simp only [effUpon] at h <;> simp only [Oper.upon]
    case value u => exact hK _ _ h
    case skip => exact hK _ _ h
    case enter f args => exact h.mono fun e w'' ⟨u, he, hr⟩ => by subst he; exact hK _ _ hr
  | halt x w' => simp only [effUpon] at h
theorem stepT.wp {o : Oper} {K : (World → Prop) → Act → (World → Prop) → Prop} {a : Act} {D : World → Prop} (h : stepT P ops C o K a D) {K' : Act → World → Prop} {Q' : Exit → Act → World → Prop} {w : World} (hw : D w) (hK : ∀ C a D w, K C a D → D w → K' a w) :
    if Region.wanted o (yielded ops a.tmps) then o.wp P a w K' Q' ∨ (o.asks P a w ∧ LetsOut Q') else K' (a.put o.dst undef) w := by
  unfold stepT at h
  by_cases hwt : Region.wanted o (yielded ops a.tmps) = true
  · rw [if_pos hwt] at h ⊢
    obtain ⟨ι, v, D', C', _, _, _, h1, h2⟩ := h
    exact .inl (wp_of_eff (h1 w hw) fun u w' ⟨x, hu, hc⟩ => by subst hu; exact hK _ _ _ _ (h2 x) hc)
  · rw [if_neg hwt] at h ⊢
    exact hK _ _ _ _ h hw
theorem stepT.mono {o : Oper} {K K' : (World → Prop) → Act → (World → Prop) → Prop} {a : Act} {D : World → Prop} (h : stepT P ops C o K a D) (hK : ∀ C a D, K C a D → K' C a D) : stepT P ops C o K' a D := by
  unfold stepT at *
  split
  · rename_i hw; rw [if_pos hw] at h; obtain ⟨ι, v, D', C', h0, h1, h2, h3, h4⟩ := h; exact ⟨ι, v, D', C', h0, h1, h2, h3, fun x => hK _ _ _ (h4 x)⟩
  · rename_i hw; rw [if_neg hw] at h; exact hK _ _ _ h
def lexPl : List Oper → Pl Oper
  | [] => .nil
  | o :: l => .op .a o (lexPl l)
def quietPl : List Oper → Pl Oper
  | [] => .nil
  | o :: l => .op .q o (quietPl l)
theorem Run.lex {Q' : Exit → Act → World → Prop} (hQ : ∀ a w, Q a w → Q' .normal a w) : ∀ (l : List Oper) (C : World → Prop) (a : Act) (D : World → Prop) (w : World), Run P ops Q (lexPl l) C a D → D w → wpList P ops Q' l a w
  | [], _, a, D, w, h, hw => hQ a w (h w hw)
  | o :: r, C, a, D, w, h, hw => by
    simp only [lexPl, Run] at h
    simp only [wpList]
    exact h.wp hw fun C a D w hk hd => Run.lex hQ r C a D w hk hd
theorem Run.quiet (hC : Closed C) : ∀ (l : List Oper) (a : Act), Run P ops Q (quietPl l) C a C → wpQuiet P ops C (fun a' => ∀ w', C w' → Q a' w') l a
  | [], a, h => h
  | o :: r, a, h => by
    simp only [quietPl, Run] at h
    simp only [wpQuiet]
    by_cases hwt : Region.wanted o (yielded ops a.tmps) = true
    · rw [if_pos hwt] at h ⊢
      obtain ⟨v, h1, h2⟩ := h
      refine ⟨v, fun w hw => ?_, Run.quiet hC r _ h2⟩
      have h3 := h1 w hw
      unfold Oper.quietAt at *
      generalize (execOp a.eval o).run P w = x at *
      cases x with
      | ok n w' =>
        cases n <;> simp only [Oper.quietUpon] at h3 ⊢
        case value u => exact h3
        case skip => exact h3
        case enter f args => exact ⟨h3.1, h3.2.mono fun e w'' ⟨he, hb⟩ => ⟨he, hC w w'' hw hb⟩⟩
      | halt x w' => exact h3
    · rw [if_neg hwt] at h ⊢
      exact Run.quiet hC r _ h
end

/-! ### regions that draw their order and do something -/
section
variable {P : Program} {ops : Array Oper} {md : Region.Mode} {Q : Act → World → Prop} {C : World → Prop}
/-- Whatever order is picked from here on, from every world of D; all worlds on the way are of C. -/
def wpT (P : Program) (md : Region.Mode) (ops : Array Oper) (Q : Act → World → Prop) : Nat → Array Bool → (World → Prop) → Act → (World → Prop) → Prop
  | 0, listed, _, a, D => Region.ready md ops listed = [] ∧ ∀ w, D w → Q a w
  | fuel + 1, listed, C, a, D => (Region.ready md ops listed = [] → ∀ w, D w → Q a w) ∧
    ∀ i ∈ Region.ready md ops listed, ∃ o, ops[i]? = some o ∧ stepT P ops C o (fun C a D => wpT P md ops Q fuel (listed.setIfInBounds i true) C a D) a D
theorem stepT.wide {o : Oper} {C C' : World → Prop} {K K' : (World → Prop) → Act → (World → Prop) → Prop} {a : Act} {D : World → Prop} (hC : ∀ w, C' w → C w) (hK : ∀ a, K C' a D → K' C a D) (hK2 : ∀ C a D, K C a D → K' C a D) (h : stepT P ops C' o K a D) : stepT P ops C o K' a D := by
  unfold stepT at *
  split
  · rename_i hw; rw [if_pos hw] at h; obtain ⟨ι, v, D', C2, h0, h1, h2, h3, h4⟩ := h; exact ⟨ι, v, D', C2, h0, fun x w hx => hC w (h1 x w hx), h2, h3, fun x => hK2 _ _ _ (h4 x)⟩
  · rename_i hw; rw [if_neg hw] at h; exact hK _ h
theorem wpT.wide {C C' : World → Prop} (hC : ∀ w, C' w → C w) : ∀ (fuel : Nat) (listed : Array Bool) (a : Act) (D : World → Prop), wpT P md ops Q fuel listed C' a D → wpT P md ops Q fuel listed C a D
  | 0, _, _, _, h => h
  | fuel + 1, _, _, _, h => ⟨h.1, fun i hi => by
      obtain ⟨o, ho, hs⟩ := h.2 i hi
      exact ⟨o, ho, hs.wide hC (fun a h => wpT.wide hC fuel _ a _ h) (fun _ _ _ h => h)⟩⟩
theorem wpT.any {Q' : Exit → Act → World → Prop} (hQ : ∀ a w, Q a w → Q' .normal a w) : ∀ (fuel : Nat) (listed : Array Bool) (C : World → Prop) (a : Act) (D : World → Prop) (w : World), D w → wpT P md ops Q fuel listed C a D → wpAny P md ops Q' fuel listed a w
  | 0, _, _, _, _, w, hw, h => ⟨h.1, hQ _ _ (h.2 w hw)⟩
  | fuel + 1, listed, C, a, D, w, hw, h => ⟨fun h0 => hQ _ _ (h.1 h0 w hw), fun i hi => by
      obtain ⟨o, ho, hs⟩ := h.2 i hi
      unfold wpOp
      simp only [ho]
      exact hs.wp hw fun C' a' D' w' hk hd => wpT.any hQ fuel _ C' a' D' w' hd hk⟩
theorem stepT.less {o : Oper} {K : (World → Prop) → Act → (World → Prop) → Prop} {a : Act} {D D' : World → Prop} (hK : ∀ a, K C a D' → K C a D) (hD : ∀ w, D w → D' w) (h : stepT P ops C o K a D') : stepT P ops C o K a D := by
  unfold stepT at *
  split
  · rename_i hw; rw [if_pos hw] at h; obtain ⟨ι, v, D2, C2, h0, h1, h2, h3, h4⟩ := h; exact ⟨ι, v, D2, C2, h0, h1, h2, fun w hw => h3 w (hD w hw), h4⟩
  · rename_i hw; rw [if_neg hw] at h; exact hK _ h
theorem wpT.less : ∀ (fuel : Nat) (listed : Array Bool) (a : Act) (D D' : World → Prop), (∀ w, D w → D' w) → wpT P md ops Q fuel listed C a D' → wpT P md ops Q fuel listed C a D
  | 0, _, _, _, _, hD, h => ⟨h.1, fun w hw => h.2 w (hD w hw)⟩
  | fuel + 1, _, _, D, D', hD, h => ⟨fun h0 w hw => h.1 h0 w (hD w hw), fun i hi => by
      obtain ⟨o, ho, hs⟩ := h.2 i hi
      exact ⟨o, ho, hs.less (fun a h => wpT.less fuel _ a D D' hD h) hD⟩⟩
/-- What comes up in state a, IN EVERY WORLD OF C, as v. -/
def YT (P : Program) (ops : Array Oper) (C : World → Prop) (o : Oper) (v : Value) (a : Act) : Prop :=
  (Region.wanted o (yielded ops a.tmps) = true ∧ ∀ w, C w → o.quietAt P a (Below w.heap.size w) w v) ∨ (Region.wanted o (yielded ops a.tmps) = false ∧ v = undef)
theorem YT.of_same {o : Oper} {v : Value} {a a' : Act} (hy : YT P ops C o v a) (he : execOp a'.eval o = execOp a.eval o)
    (hw : Region.wanted o (yielded ops a'.tmps) = Region.wanted o (yielded ops a.tmps)) : YT P ops C o v a' := by
  unfold YT Oper.quietAt at *
  rw [he, hw]
  exact hy
theorem YT.wide {C C' : World → Prop} {o : Oper} {v : Value} {a : Act} (hy : YT P ops C o v a) (hC : ∀ w, C' w → C w) : YT P ops C' o v a := by
  rcases hy with ⟨h1, h2⟩ | h
  · exact .inl ⟨h1, fun w hw => h2 w (hC w hw)⟩
  · exact .inr h
theorem YT.step {o : Oper} {v : Value} {a : Act} {D : World → Prop} (hy : YT P ops C o v a) (hDC : ∀ w, D w → C w) (hD : Closed D) {K : (World → Prop) → Act → (World → Prop) → Prop} (h : K C (a.put o.dst v) D) : stepT P ops C o K a D := by
  unfold stepT
  rcases hy with ⟨hw, hv⟩ | ⟨hw, rfl⟩
  · rw [if_pos hw]
    exact ⟨Unit, fun _ => v, fun _ => D, fun _ => C, fun _ => hDC, fun _ _ h => h, fun _ => hD, fun w hw => (effAt_of_quiet (hv w (hDC w hw))).mono fun u w' ⟨hu, hb⟩ => ⟨(), hu, hD w w' hw hb⟩, fun _ => h⟩
  · rw [if_neg (by simp [hw])]; exact h
theorem stepT.put {oi oj : Oper} {v : Value} (hap : oi.apart ops oj = true) (hsi : ∀ cs b, oi.op ≠ .select cs b) (hsj : ∀ cs b, oj.op ≠ .select cs b) {K : (World → Prop) → Act → (World → Prop) → Prop} {a : Act} {D : World → Prop}
    (hDC : ∀ w, D w → C w) (hD : Closed D) (hy : YT P ops C oi v a) (h : stepT P ops C oj K (a.put oi.dst v) D) :
    stepT P ops C oj (fun C' a' D' => (∀ w, D' w → C' w) ∧ Closed D' ∧ YT P ops C' oi v a' ∧ K C' (a'.put oi.dst v) D') a D := by
  obtain ⟨h1, h2, h3⟩ := Oper.apart_spec hap
  have keep : ∀ (a : Act), YT P ops C oi v a → ∀ u, YT P ops C oi v (a.put oj.dst u) := fun a hy u =>
    hy.of_same (execOp_put oi hsi a oj.dst u h3) (wanted_put oi a oj.dst u h3)
  unfold stepT at *
  rw [wanted_put oj a oi.dst v h1] at h
  split
  · rename_i hw
    rw [if_pos hw] at h
    obtain ⟨ι, u, D', C', k0, k1, k2, k3, k4⟩ := h
    refine ⟨ι, u, D', C', k0, k1, k2, fun w hd => ?_, fun x => ⟨k0 x, k2 x, (keep a hy _).wide (k1 x), by rw [← Act.put_comm a v (u x) h2]; exact k4 x⟩⟩
    have := k3 w hd
    unfold effAt at *
    rwa [execOp_put oj hsj a oi.dst v h1] at this
  · rename_i hw
    rw [if_neg hw] at h
    exact ⟨hDC, hD, keep a hy _, by rw [← Act.put_comm a v undef h2]; exact h⟩
/-- What may come up now, and reads the same whenever it comes up, may be taken first. -/
theorem wpT_first {i : Nat} {oi : Oper} {v : Value} (hi : ops[i]? = some oi) (hsel : ∀ (j : Nat) (o : Oper) cs b, ops[j]? = some o → o.op ≠ .select cs b) :
    ∀ (fuel : Nat) (listed : Array Bool) (C : World → Prop) (a : Act) (D : World → Prop), (∀ w, D w → C w) → Closed D →
      (∀ (j : Nat) (oj : Oper), ops[j]? = some oj → j ≠ i → listed.getD j true = false → (∀ e ∈ oj.after, Region.binds md e = true → e.on ≠ i) → oi.apart ops oj = true) →
      i ∈ Region.ready md ops listed → YT P ops C oi v a →
      wpT P md ops Q fuel (listed.setIfInBounds i true) C (a.put oi.dst v) D → wpT P md ops Q (fuel + 1) listed C a D := by
  intro fuel
  induction fuel with
  | zero =>
    intro listed C a D hDC hD _ hr hy H
    refine ⟨fun h => (by rw [h] at hr; cases hr), fun j hj => ?_⟩
    by_cases hji : j = i
    · subst hji; exact ⟨oi, hi, hy.step hDC hD H⟩
    · have := ready_mono hj hji
      rw [H.1] at this
      cases this
  | succ fuel ih =>
    intro listed C a D hDC hD hfree hr hy H
    refine ⟨fun h => (by rw [h] at hr; cases hr), fun j hj => ?_⟩
    by_cases hji : j = i
    · subst hji; exact ⟨oi, hi, hy.step hDC hD H⟩
    · obtain ⟨oj', hoj', h1⟩ := H.2 j (ready_mono hj hji)
      obtain ⟨hjun, oj, hoj, hall⟩ := mem_ready.1 hj
      have hoo : oj' = oj := Option.some.inj (hoj'.symm.trans hoj)
      rw [hoo] at h1
      have hnot : ∀ e ∈ oj.after, Region.binds md e = true → e.on ≠ i := fun e he hb heq => by
        have h1 := hall e he hb
        have h0 := (mem_ready.1 hr).1
        rw [heq] at h1
        rcases Nat.lt_or_ge i listed.size with h' | h'
        · simp [h'] at h0 h1; rw [h0] at h1; cases h1
        · simp [Array.getElem?_eq_none h'] at h1
      have h2 := stepT.put (hfree j oj hoj hji hjun hnot) (fun cs b => hsel i oi cs b hi) (fun cs b => hsel j oj cs b hoj) hDC hD hy h1
      have hfree' : ∀ k ok, ops[k]? = some ok → k ≠ i → (listed.setIfInBounds j true).getD k true = false →
          (∀ e ∈ ok.after, Region.binds md e = true → e.on ≠ i) → oi.apart ops ok = true := fun k ok hk hki hun hno => by
        refine hfree k ok hk hki ?_ hno
        by_cases hjk : j = k
        · subst hjk; exact hjun
        · rw [getD_set_ne true hjk] at hun; exact hun
      refine ⟨oj, hoj, h2.mono fun C' a' D' h3 => ih (listed.setIfInBounds j true) C' a' D' h3.1 h3.2.1 hfree' (ready_mono hr (Ne.symm hji)) h3.2.2.1 ?_⟩
      rw [Array.setIfInBounds_comm _ _ hji]
      exact h3.2.2.2
def Pl.isAlt : Pl Nat → Bool
  | .stop => true
  | .alt _ _ _ _ => true
  | _ => false
theorem Pl.isAlt_spec {m : Pl Nat} (h : m.isAlt = true) : m = .stop ∨ ∃ f i r m', m = .alt f i r m' := by
  cases m with
  | nil => cases h
  | stop => exact .inl rfl
  | op f i r => cases h
  | alt f i r m => exact .inr ⟨f, i, r, m, rfl⟩
  | many l r => cases h
/-- Is the plan one that serves every order? -/
def chk (md : Region.Mode) (ops : Array Oper) : Pl Nat → Array Bool → List Nat → Bool
  | .nil, listed, _ => (Region.ready md ops listed).isEmpty
  | .stop, listed, left => left.isEmpty && !(Region.ready md ops listed).isEmpty
  | .op .q i r, listed, _ => (Region.ready md ops listed).contains i && Region.free md ops listed i && chk md ops r (listed.setIfInBounds i true) (Region.ready md ops (listed.setIfInBounds i true))
  | .op _ i r, listed, _ => (Region.ready md ops listed == [i]) && chk md ops r (listed.setIfInBounds i true) (Region.ready md ops (listed.setIfInBounds i true))
  | .many l r, listed, left => (Region.ready md ops listed == l) && ((List.range ops.size).all fun j => listed.getD j true || l.contains j || match ops[j]? with
      | some oj => l.all fun i => oj.after.any fun e => Region.binds md e && e.on == i
      | none => true) && chk md ops r (l.foldl (fun b i => b.setIfInBounds i true) listed) (Region.ready md ops (l.foldl (fun b i => b.setIfInBounds i true) listed))
  | .alt _ i r m, listed, left => left.contains i && m.isAlt && chk md ops r (listed.setIfInBounds i true) (Region.ready md ops (listed.setIfInBounds i true)) && chk md ops m listed (left.filter (fun j => j != i))
def Pl.depth : Pl Nat → Nat
  | .nil => 0
  | .stop => 0
  | .op _ _ r => r.depth + 1
  | .alt _ _ r m => max (r.depth + 1) m.depth
  | .many l r => r.depth + l.length
inductive GetAll (l : List Oper) : List Nat → List Oper → Prop
  | nil : GetAll l [] []
  | cons {i : Nat} {o : Oper} {is : List Nat} {os : List Oper} : l[i]? = some o → GetAll l is os → GetAll l (i :: is) (o :: os)
theorem GetAll.eq {l : List Oper} {is : List Nat} {os : List Oper} (h : GetAll l is os) : os.map some = is.map (fun i => l[i]?) := by
  induction h with
  | nil => rfl
  | cons h1 _ ih => simp [h1, ih]
inductive PlIs (l : List Oper) : Pl Nat → Pl Oper → Prop
  | nil : PlIs l .nil .nil
  | stop : PlIs l .stop .stop
  | op {f : Fl} {i : Nat} {o : Oper} {r : Pl Nat} {r' : Pl Oper} : l[i]? = some o → PlIs l r r' → PlIs l (.op f i r) (.op f o r')
  | many {is : List Nat} {os : List Oper} {r : Pl Nat} {r' : Pl Oper} : GetAll l is os → PlIs l r r' → PlIs l (.many is r) (.many os r')
  | alt {f : Fl} {i : Nat} {o : Oper} {r m : Pl Nat} {r' m' : Pl Oper} : l[i]? = some o → PlIs l r r' → PlIs l m m' → PlIs l (.alt f i r m) (.alt f o r' m')
def Marked (l0 : Array Bool) (S : List Nat) (l : Array Bool) : Prop := ∀ j : Nat, l[j]? = if j ∈ S then (l0[j]?).map (fun _ => true) else l0[j]?
theorem Marked.set {l0 l : Array Bool} {S : List Nat} (h : Marked l0 S l) (i : Nat) : Marked l0 (i :: S) (l.setIfInBounds i true) := fun j => by
  by_cases hji : j = i
  · subst hji
    rw [if_pos (by simp), Array.getElem?_setIfInBounds_self]
    have hsz : l.size = l0.size := by
      rcases Nat.lt_trichotomy l.size l0.size with hlt | heq | hgt
      · have h1 := h l.size; rw [Array.getElem?_eq_none (Nat.le_refl _)] at h1
        rw [Array.getElem?_eq_getElem hlt] at h1; split at h1 <;> simp at h1
      · exact heq
      · have h1 := h l0.size; rw [Array.getElem?_eq_getElem hgt, Array.getElem?_eq_none (Nat.le_refl _)] at h1; split at h1 <;> simp at h1
    by_cases hj : j < l.size
    · simp [hj, Array.getElem?_eq_getElem (show j < l0.size by omega)]
    · simp [hj, Array.getElem?_eq_none (show l0.size ≤ j by omega)]
  · rw [Array.getElem?_setIfInBounds_ne (Ne.symm hji), h j]
    simp [hji]
theorem Marked.start (l0 : Array Bool) : Marked l0 [] l0 := fun j => by simp
theorem Marked.fold {l0 : Array Bool} : ∀ (is : List Nat) (l : Array Bool) (S : List Nat), Marked l0 S l → Marked l0 (is.reverse ++ S) (is.foldl (fun b i => b.setIfInBounds i true) l)
  | [], l, S, h => by simpa using h
  | i :: is, l, S, h => by
    have := Marked.fold is _ _ (h.set i)
    simpa using this
theorem Marked.eq {l0 l l' : Array Bool} {S S' : List Nat} (h : Marked l0 S l) (h' : Marked l0 S' l') (hS : ∀ j, j ∈ S ↔ j ∈ S') : l = l' := by
  apply Array.ext_getElem?
  intro j
  rw [h j, h' j]
  simp [hS j]
theorem Marked.false {l0 l : Array Bool} {S : List Nat} (h : Marked l0 S l) {j : Nat} (hj : l.getD j true = false) : j ∉ S ∧ l0.getD j true = false := by
  have h1 := h j
  simp only [Array.getD_eq_getD_getElem?] at hj ⊢
  rw [h1] at hj
  by_cases hm : j ∈ S
  · rw [if_pos hm] at hj; cases h2 : l0[j]? <;> simp [h2] at hj
  · rw [if_neg hm] at hj; exact ⟨hm, hj⟩
theorem Marked.none {l0 l : Array Bool} {S : List Nat} (h : Marked l0 S l) {j : Nat} (hj : j ∉ S) (d : Bool) : l.getD j d = l0.getD j d := by
  simp only [Array.getD_eq_getD_getElem?]
  rw [h j, if_neg hj]
theorem wpT_many {is : List Nat} {l0 : Array Bool} (hr : Region.ready md ops l0 = is)
    (hb : ∀ (j : Nat) (oj : Oper), ops[j]? = some oj → l0.getD j true = false → j ∉ is → ∀ i ∈ is, ∃ e ∈ oj.after, Region.binds md e = true ∧ e.on = i)
    {L : List (Nat × Oper)} (hL : L.map (·.1) = is) (hLo : ∀ p ∈ L, ops[p.1]? = some p.2) {a : Act} {I : List Oper → World → Prop} {E : World → Prop}
    (h1 : ∀ p ∈ L, p.2.dst = none ∧ Region.wanted p.2 (yielded ops a.tmps) = true) (h2 : ∀ done w, I done w → C w) (h3 : ∀ done, Closed (I done))
    (h4 : ∀ o done rest, (o :: done ++ rest).Perm (L.map (·.2)) → ∀ w, I done w → effAt P o a w (fun _ w' => I (o :: done) w')) (h5 : ∀ done, done.Perm (L.map (·.2)) → ∀ w, I done w → E w) {fuel : Nat}
    (hE : wpT P md ops Q fuel (is.foldl (fun b i => b.setIfInBounds i true) l0) C a E) :
    ∀ (n : Nat) (rem done : List (Nat × Oper)) (l : Array Bool), rem.length = n → (done ++ rem).Perm L → Marked l0 (done.map (·.1)) l → wpT P md ops Q (fuel + n) l C a (I (done.map (·.2))) := by
  have hnd : is.Nodup := by
    rw [← hr]; unfold Region.ready; exact List.nodup_range.filter _
  intro n
  induction n with
  | zero =>
    intro rem done l hn hp hm
    have hrem : rem = [] := List.eq_nil_of_length_eq_zero hn
    subst hrem
    rw [List.append_nil] at hp
    have hl : l = is.foldl (fun b i => b.setIfInBounds i true) l0 := by
      refine hm.eq (Marked.fold is l0 [] (Marked.start l0)) fun j => ?_
      have := (hp.map (·.1)).mem_iff (a := j)
      rw [hL] at this
      simpa using this
    rw [hl]
    exact wpT.less _ _ _ _ _ (h5 _ (hp.map _)) hE
  | succ n ih =>
    intro rem done l hn hp hm
    have hin : ∀ p, p ∈ rem → p.1 ∈ is ∧ p.1 ∉ done.map (·.1) := by
      intro p hpr
      have hpL : p ∈ L := hp.mem_iff.1 (List.mem_append_right _ hpr)
      refine ⟨by rw [← hL]; exact List.mem_map_of_mem hpL, fun hd => ?_⟩
      have hnd' : ((done ++ rem).map (·.1)).Nodup := by
        rw [(hp.map (·.1)).nodup_iff, hL]; exact hnd
      rw [List.map_append, List.nodup_append] at hnd'
      exact hnd'.2.2 _ hd _ (List.mem_map_of_mem hpr) rfl
    have hstill : ∀ p, p ∈ rem → p.1 ∈ Region.ready md ops l := by
      intro p hpr
      obtain ⟨q1, q2⟩ := hin p hpr
      rw [← hr] at q1
      obtain ⟨k1, o, k2, k3⟩ := mem_ready.1 q1
      refine mem_ready.2 ⟨by rw [hm.none q2]; exact k1, o, k2, fun e he hbd => ?_⟩
      have := k3 e he hbd
      by_cases hs : e.on ∈ done.map (·.1)
      · have h6 := hm e.on
        rw [if_pos hs] at h6
        simp only [Array.getD_eq_getD_getElem?] at this ⊢
        rw [h6]
        cases h7 : l0[e.on]? with
        | none => simp [h7] at this
        | some b => simp
      · rw [hm.none hs]; exact this
    have hcons : ∃ p r, rem = p :: r := by
      cases rem with
      | nil => simp at hn
      | cons p r => exact ⟨p, r, rfl⟩
    obtain ⟨p0, r0, hp0⟩ := hcons
    refine ⟨fun h => ?_, fun j hj => ?_⟩
    · have := hstill p0 (by rw [hp0]; simp)
      rw [h] at this; cases this
    · obtain ⟨q1, oj, q2, q3⟩ := mem_ready.1 hj
      obtain ⟨q4, q5⟩ := hm.false q1
      have hjis : j ∈ is := by
        refine Classical.byContradiction fun hno => ?_
        obtain ⟨i1, i2⟩ := hin p0 (by rw [hp0]; simp)
        obtain ⟨e, e1, e2, e3⟩ := hb j oj q2 q5 hno p0.1 i1
        have e4 := q3 e e1 e2
        rw [e3, hm.none i2] at e4
        rw [← hr] at i1
        have e5 := (mem_ready.1 i1).1
        simp only [Array.getD_eq_getD_getElem?] at e4 e5
        cases h7 : l0[p0.1]? with
        | none => simp [h7] at e4
        | some b => rw [h7] at e4 e5; simp at e4 e5; rw [e4] at e5; cases e5
      rw [← hL] at hjis
      obtain ⟨p, hpL, hpj⟩ := List.mem_map.1 hjis
      have hpr : p ∈ rem := by
        rcases List.mem_append.1 (hp.mem_iff.2 hpL) with h | h
        · exact absurd (List.mem_map_of_mem (f := (·.1)) h) (by rw [hpj]; exact q4)
        · exact h
      obtain ⟨r1, r2, hrr⟩ := List.append_of_mem hpr
      subst hrr
      have hpo : ops[j]? = some p.2 := by rw [← hpj]; exact hLo p hpL
      refine ⟨p.2, hpo, ?_⟩
      obtain ⟨w1, w2⟩ := h1 p hpL
      unfold stepT
      rw [if_pos w2]
      have hperm : ((p :: done) ++ (r1 ++ r2)).Perm L := by
        refine List.Perm.trans ?_ hp
        rw [List.cons_append, ← List.append_assoc]
        refine (List.perm_middle (a := p) (l₁ := done ++ r1) (l₂ := r2)).symm.trans ?_
        rw [List.append_assoc]
      refine ⟨Value, fun u => u, fun _ => I ((p :: done).map (·.2)), fun _ => C, fun _ => h2 _, fun _ _ h => h, fun _ => h3 _, fun w hw => ?_, fun u => ?_⟩
      · have := h4 p.2 (done.map (·.2)) ((r1 ++ r2).map (·.2)) (by simpa using hperm.map (·.2)) w hw
        exact this.mono fun u w' h => ⟨u, rfl, h⟩
      · rw [w1]
        have hidx : p.1 :: done.map (·.1) = (p :: done).map (·.1) := rfl
        have := ih (r1 ++ r2) (p :: done) (l.setIfInBounds j true) (by simp at hn ⊢; omega) hperm (by rw [← hidx, hpj]; exact hm.set j)
        exact this
theorem stepT.to {o : Oper} {K K' : (World → Prop) → Act → (World → Prop) → Prop} {a : Act} {D : World → Prop} (hDC : ∀ w, D w → C w) (hD : Closed D) (hK : ∀ C a D, (∀ w, D w → C w) → Closed D → K C a D → K' C a D) (h : stepT P ops C o K a D) : stepT P ops C o K' a D := by
  unfold stepT at *
  split
  · rename_i hw; rw [if_pos hw] at h; obtain ⟨ι, v, D', C', h0, h1, h2, h3, h4⟩ := h; exact ⟨ι, v, D', C', h0, h1, h2, h3, fun x => hK _ _ _ (h0 x) (h2 x) (h4 x)⟩
  · rename_i hw; rw [if_neg hw] at h; exact hK _ _ _ hDC hD h
theorem Run.toT (hs : Region.noSelect ops = true) {l : List Oper} (hl : ops = l.toArray) : ∀ {pl : Pl Nat} {pl' : Pl Oper}, PlIs l pl pl' →
    (∀ (listed : Array Bool) (fuel : Nat) (C : World → Prop) (a : Act) (D : World → Prop), (∀ w, D w → C w) → Closed D → pl.depth ≤ fuel → chk md ops pl listed (Region.ready md ops listed) = true → Run P ops Q pl' C a D → wpT P md ops Q fuel listed C a D) ∧
    (∀ (listed : Array Bool) (left : List Nat) (fuel : Nat) (C : World → Prop) (a : Act) (D : World → Prop), (∀ w, D w → C w) → Closed D → (pl = .stop ∨ ∃ f i r m, pl = .alt f i r m) → pl.depth ≤ fuel + 1 → chk md ops pl listed left = true → Run P ops Q pl' C a D →
      ∀ i ∈ left, ∃ o, ops[i]? = some o ∧ stepT P ops C o (fun C a D => wpT P md ops Q fuel (listed.setIfInBounds i true) C a D) a D) := by
  intro pl pl' hp
  subst hl
  induction hp with
  | nil =>
    refine ⟨fun listed fuel C a D hDC hD hf hc hr => ?_, fun listed left fuel C a D hDC hD hp => by rcases hp with hp | ⟨f, i, r, m, hp⟩ <;> cases hp⟩
    have h0 : Region.ready md l.toArray listed = [] := by simpa [chk] using hc
    cases fuel with
    | zero => exact ⟨h0, hr⟩
    | succ fuel => exact ⟨fun _ => hr, by rw [h0]; simp⟩
  | stop =>
    refine ⟨fun listed fuel C a D hDC hD hf hc hr => ?_, fun listed left fuel C a D hDC hD hp hd hc hr i hi => ?_⟩
    · simp [chk] at hc
    · simp only [chk, Bool.and_eq_true] at hc
      have h0 : left = [] := by simpa using hc.1
      subst h0; cases hi
  | op ho hp ih =>
    rename_i f i o r r'
    refine ⟨fun listed fuel C a D hDC hD hf hc hr => ?_, fun listed left fuel C a D hDC hD hp => by rcases hp with hp | ⟨f, i, r, m, hp⟩ <;> cases hp⟩
    simp only [Pl.depth] at hf
    obtain ⟨fuel, rfl⟩ : ∃ n, fuel = n + 1 := ⟨fuel - 1, by omega⟩
    have hoi : l.toArray[i]? = some o := by simpa using ho
    cases f with
    | q =>
      simp only [chk, Bool.and_eq_true] at hc
      obtain ⟨⟨hc1, hc2⟩, hc3⟩ := hc
      simp only [Run] at hr
      by_cases hwt : Region.wanted o (yielded l.toArray a.tmps) = true
      · rw [if_pos hwt] at hr
        obtain ⟨v, h1, h2⟩ := hr
        exact wpT_first hoi (Region.noSelect_spec hs) fuel listed C a D hDC hD (Region.free_spec hoi hc2) (by simpa using hc1) (.inl ⟨hwt, h1⟩) (ih.1 _ fuel _ _ D hDC hD (by omega) hc3 h2)
      · rw [if_neg hwt] at hr
        exact wpT_first hoi (Region.noSelect_spec hs) fuel listed C a D hDC hD (Region.free_spec hoi hc2) (by simpa using hc1) (.inr ⟨by simpa using hwt, rfl⟩) (ih.1 _ fuel _ _ D hDC hD (by omega) hc3 hr)
    | a =>
      simp only [chk, Bool.and_eq_true, beq_iff_eq] at hc
      obtain ⟨hc1, hc3⟩ := hc
      refine ⟨fun h => (by rw [hc1] at h; cases h), fun j hj => ?_⟩
      rw [hc1] at hj
      simp only [List.mem_singleton] at hj
      subst hj
      exact ⟨o, hoi, stepT.to hDC hD (fun C a D h1 h2 h3 => ih.1 _ fuel C a D h1 h2 (by omega) hc3 h3) hr⟩
    | h =>
      simp only [chk, Bool.and_eq_true, beq_iff_eq] at hc
      obtain ⟨hc1, hc3⟩ := hc
      refine ⟨fun h => (by rw [hc1] at h; cases h), fun j hj => ?_⟩
      rw [hc1] at hj
      simp only [List.mem_singleton] at hj
      subst hj
      exact ⟨o, hoi, stepT.to hDC hD (fun C a D h1 h2 h3 => ih.1 _ fuel C a D h1 h2 (by omega) hc3 h3) hr⟩
  | many hall hp ih =>
    rename_i is os r r'
    have hos := hall.eq
    refine ⟨fun listed fuel C a D hDC hD hf hc hr => ?_, fun listed left fuel C a D hDC hD hp => by rcases hp with hp | ⟨f, i, r, m, hp⟩ <;> cases hp⟩
    simp only [Pl.depth] at hf
    simp only [chk, Bool.and_eq_true, beq_iff_eq] at hc
    obtain ⟨⟨hc1, hc2⟩, hc3⟩ := hc
    simp only [Run, Many] at hr
    obtain ⟨I, E, k0, k1, k2, k3, k4, k5, k6, k7, k8⟩ := hr
    obtain ⟨fuel, rfl⟩ : ∃ n, fuel = n + is.length := ⟨fuel - is.length, by omega⟩
    have hlen : os.length = is.length := by have := congrArg List.length hos; simpa using this
    have hz1 : (is.zip os).map (·.1) = is := List.map_fst_zip (by omega)
    have hz2 : (is.zip os).map (·.2) = os := List.map_snd_zip (by omega)
    have hzo : ∀ p ∈ is.zip os, l.toArray[p.1]? = some p.2 := by
      intro p hp
      obtain ⟨k, hk⟩ := List.getElem?_of_mem hp
      rw [List.getElem?_zip_eq_some] at hk
      have h1 := congrArg (fun l => l[k]?) hos
      simp only [List.getElem?_map, hk.1, hk.2, Option.map_some, Option.some.injEq] at h1
      simpa using h1.symm
    have key := wpT_many (P := P) (Q := Q) (C := C) (ops := l.toArray) hc1 (fun j oj hj hlj hji i hi => ?_) hz1 hzo (a := a) (I := I) (E := E) (fun p hp => k1 p.2 (List.of_mem_zip hp).2) k2 k3 (by rw [hz2]; exact k4) (by rw [hz2]; exact k5) (fuel := fuel)
      ?_ is.length (is.zip os) [] listed (by simp; omega) (List.Perm.refl _) (Marked.start listed)
    · exact wpT.less _ _ _ _ _ k0 key
    · simp only [List.all_eq_true, List.mem_range] at hc2
      have h1 := hc2 j (Array.getElem?_eq_some_iff.1 hj).1
      simp only [hj, hlj, Bool.false_or, Bool.or_eq_true, List.contains_iff_mem, hji, false_or, List.all_eq_true] at h1
      have h2 := h1 i hi
      obtain ⟨e, he, hb⟩ := Array.any_eq_true'.1 h2
      simp only [Bool.and_eq_true, beq_iff_eq] at hb
      exact ⟨e, he, hb.1, hb.2⟩
    · exact ih.1 _ fuel _ _ E k6 k7 (by omega) hc3 k8
  | alt ho hp1 hp2 ih1 ih2 =>
    rename_i f i o r m r' m'
    have hoi : l.toArray[i]? = some o := by simpa using ho
    have key : ∀ (listed : Array Bool) (left : List Nat) (fuel : Nat) (C : World → Prop) (a : Act) (D : World → Prop), (∀ w, D w → C w) → Closed D → (Pl.alt f i r m).depth ≤ fuel + 1 → chk md l.toArray (Pl.alt f i r m) listed left = true → Run P l.toArray Q (Pl.alt f o r' m') C a D →
        ∀ i ∈ left, ∃ o, l.toArray[i]? = some o ∧ stepT P l.toArray C o (fun C a D => wpT P md l.toArray Q fuel (listed.setIfInBounds i true) C a D) a D := by
      intro listed left fuel C a D hDC hD hd hc hr j hj
      simp only [Pl.depth] at hd
      simp only [chk, Bool.and_eq_true] at hc
      obtain ⟨⟨⟨hc1, hcm⟩, hc2⟩, hc3⟩ := hc
      simp only [Run] at hr
      by_cases hji : j = i
      · subst hji
        exact ⟨o, hoi, stepT.to hDC hD (fun C a D h1 h2 h3 => ih1.1 _ fuel C a D h1 h2 (by omega) hc2 h3) hr.1⟩
      · have hm : j ∈ left.filter (fun j => j != i) := by simp [hj, hji]
        exact ih2.2 listed _ fuel C a D hDC hD (Pl.isAlt_spec hcm) (by omega) hc3 hr.2 j hm
    refine ⟨fun listed fuel C a D hDC hD hf hc hr => ?_, fun listed left fuel C a D hDC hD _ => key listed left fuel C a D hDC hD⟩
    have hf' := hf
    simp only [Pl.depth] at hf'
    obtain ⟨fuel, rfl⟩ : ∃ n, fuel = n + 1 := ⟨fuel - 1, by omega⟩
    refine ⟨fun h => ?_, key listed _ fuel C a D hDC hD hf hc hr⟩
    simp only [chk, Bool.and_eq_true] at hc
    rw [h] at hc
    simp at hc
end

/-! ### the judgements -/
section
variable (P : Program) (N : Nat) (w0 : World)
/-- The rest of a region; kk: what holds all the while. -/
def J (ops : Array Oper) (Q : Act → World → Prop) (l : Pl Oper) (s : Slots) (mo : List Nat) (kk m : List Res) : Prop := kk.Sublist m → ∀ a, Holds N s a → Run P ops Q l (Mem w0 mo kk) a (Mem w0 mo m)
/-- Code. -/
def G (Q : Exit → Act → World → Prop) (c : Code) (s : Slots) (mo : List Nat) (m : List Res) : Prop := ∀ a w, Holds N s a → Mem w0 mo m w → c.wp P Q a w
/-- An end. -/
def Fin (Q : Exit → Act → World → Prop) (e : Exit) (s : Slots) (mo : List Nat) (m : List Res) : Prop := ∀ a w, Holds N s a → Mem w0 mo m w → Q e a w
/-- An operation that only reads yields v (where c holds). -/
def QV (c : Bool) (s : Slots) (mo : List Nat) (m : List Res) (o : Oper) (v : Value) : Prop := c = true → ∀ a, Holds N s a → ∀ w, Mem w0 mo m w → o.quietAt P a (Below w.heap.size w) w v
/-- An operand, where c holds. -/
def EvU (c : Bool) (s : Slots) (x : Operand) (v : Value) : Prop := c = true → ∀ a, Holds N s a → a.eval x = v
/-- Is the operation wanted? just where c holds. -/
def Wt (ops : Array Oper) (s : Slots) (g : Option (Nat × Bool)) (c : Bool) : Prop := ∀ a, Holds N s a → ∀ o : Oper, o.guard = g → Region.wanted o (yielded ops a.tmps) = c
end
section
variable {P : Program} {N : Nat} {w0 : World} {ops : Array Oper} {Q : Act → World → Prop} {l : Pl Oper} {s : Slots} {mo : List Nat} {kk m : List Res} {o : Oper} {f : Fl} {v : Value} {c : Bool} {d : Nat} {x : Operand}
theorem EvU.plain (h : ev s x = some v) : EvU N c s x v := fun _ a ha => ha.ev h
theorem EvU.cond {u : Value} (h : ev s x = some (bif c then v else u)) : EvU N c s x v := fun hc a ha => by rw [ha.ev h, hc]; rfl
theorem EvU.left {u : Value} {c2 : Bool} (h : ev s x = some (bif c then v else u)) : EvU N (c && c2) s x v := fun hc a ha => by
  have : c = true := by revert hc; cases c <;> simp
  rw [ha.ev h, this]; rfl
theorem EvU.left2 {u : Value} {c2 c3 : Bool} (h : ev s x = some (bif c then v else u)) : EvU N (c && c2 && c3) s x v := fun hc a ha => by
  have : c = true := by revert hc; cases c <;> simp
  rw [ha.ev h, this]; rfl
theorem EvU.left3 {u : Value} {c2 c3 c4 : Bool} (h : ev s x = some (bif c then v else u)) : EvU N (c && c2 && c3 && c4) s x v := fun hc a ha => by
  have : c = true := by revert hc; cases c <;> simp
  rw [ha.ev h, this]; rfl
theorem Wt.none : Wt N ops s none true := fun a _ o ho => by simp [Region.wanted, ho]
def isB (want : Bool) : Value → Bool
  | .bool b => b == want
  | _ => false
theorem wanted_at {a : Act} {j t : Nat} {want : Bool} {o : Oper} (ho : o.guard = some (j, want)) (hj : (ops[j]?).bind (·.dst) = some t) {b : Value} (hb : a.tmps.getD t undef = b) :
    Region.wanted o (yielded ops a.tmps) = isB want b := by
  simp only [Region.wanted, ho, yielded]
  cases hop : ops[j]? with
  | none => simp [hop] at hj
  | some oj =>
    simp only [hop, Option.bind_some] at hj
    simp only [Option.bind_some, hj]
    have e : a.tmps[t]?.getD undef = b := by rw [← hb]; simp
    cases ht : a.tmps[t]? with
    | none =>
      rw [ht] at e
      subst e
      rfl
    | some u =>
      rw [ht] at e
      simp at e; subst e
      cases u <;> simp [isB] <;> rfl
theorem Wt.yes {j t : Nat} {b : Bool} (hj : (ops[j]?).bind (·.dst) = some t) (h : look s t = some (.bool b)) : Wt N ops s (some (j, true)) b := fun a ha o ho => by
  rw [wanted_at ho hj (ha.slot t _ h)]; simp [isB]
theorem Wt.no {j t : Nat} {b : Bool} (hj : (ops[j]?).bind (·.dst) = some t) (h : look s t = some (.bool b)) : Wt N ops s (some (j, false)) (!b) := fun a ha o ho => by
  rw [wanted_at ho hj (ha.slot t _ h)]; simp [isB]
theorem Wt.yes2 {j t : Nat} {b c : Bool} (hj : (ops[j]?).bind (·.dst) = some t) (h : look s t = some (bif c then .bool b else undef)) : Wt N ops s (some (j, true)) (c && b) := fun a ha o ho => by
  rw [wanted_at ho hj (ha.slot t _ h)]; cases c <;> simp [isB, undef]
theorem Wt.no2 {j t : Nat} {b c : Bool} (hj : (ops[j]?).bind (·.dst) = some t) (h : look s t = some (bif c then .bool b else undef)) : Wt N ops s (some (j, false)) (c && !b) := fun a ha o ho => by
  rw [wanted_at ho hj (ha.slot t _ h)]; cases c <;> simp [isB, undef]
/-- A reading operation that is carried out. -/
theorem Mem.closed : Closed (Mem w0 mo m) := fun _ _ h hb => h.below hb
theorem Mem.class (h : kk.Sublist m) : ∀ w, Mem w0 mo m w → Mem w0 mo kk w := fun _ hw => hw.forget h
theorem J.q (ho : o.dst = some d) (hd : Nat.blt d N = true) (hwt : Wt N ops s o.guard true) (hq : QV P N w0 true s mo (f.sel kk m) o v) (k : J P N w0 ops Q l ((d, v) :: s) mo kk m) : J P N w0 ops Q (.op f o l) s mo kk m := by
  intro hkm a ha
  have h2 := k hkm _ (ha.put hd v)
  cases f with
  | q =>
    simp only [Run, hwt a ha o rfl, if_true]
    exact ⟨v, fun w hw => hq rfl a ha w hw, by rw [ho]; exact h2⟩
  | _ =>
    simp only [Run, stepT, hwt a ha o rfl, if_true]
    exact ⟨Unit, fun _ => v, fun _ => Mem w0 mo m, fun _ => Mem w0 mo kk, fun _ => Mem.class hkm, fun _ _ h => h, fun _ => Mem.closed, fun w hw => (effAt_of_quiet (hq rfl a ha w hw)).mono fun u w' ⟨hu, hb⟩ => ⟨(), hu, hw.below hb⟩, fun _ => by rw [ho]; exact h2⟩
theorem J.pass (ho : o.dst = some d) (hd : Nat.blt d N = true) (hwt : Wt N ops s o.guard false) (k : J P N w0 ops Q l ((d, undef) :: s) mo kk m) : J P N w0 ops Q (.op f o l) s mo kk m := by
  intro hkm a ha
  have h2 := k hkm _ (ha.put hd undef)
  cases f with
  | q => simp only [Run, hwt a ha o rfl, Bool.false_eq_true, if_false]; rw [ho]; exact h2
  | _ => simp only [Run, stepT, hwt a ha o rfl, Bool.false_eq_true, if_false]; rw [ho]; exact h2
/-- A reading operation under a guard. -/
theorem J.qg (ho : o.dst = some d) (hd : Nat.blt d N = true) (hwt : Wt N ops s o.guard c) (hq : QV P N w0 c s mo (f.sel kk m) o v) (k : J P N w0 ops Q l ((d, bif c then v else undef) :: s) mo kk m) : J P N w0 ops Q (.op f o l) s mo kk m := by
  cases c with
  | true => exact J.q ho hd hwt hq k
  | false => exact J.pass ho hd hwt k
/-- An operation that is passed over. -/
theorem J.skip (ho : o.dst = some d) (hd : Nat.blt d N = true) (hwt : Wt N ops s o.guard false) (k : J P N w0 ops Q l ((d, undef) :: s) mo kk m) : J P N w0 ops Q (.op f o l) s mo kk m := J.pass ho hd hwt k
theorem J.skip0 (ho : o.dst = none) (hwt : Wt N ops s o.guard false) (k : J P N w0 ops Q l s mo kk m) : J P N w0 ops Q (.op f o l) s mo kk m := by
  intro hkm a ha
  have h2 := k hkm a ha
  cases f with
  | q => simp only [Run, hwt a ha o rfl, Bool.false_eq_true, if_false]; rw [ho]; exact h2
  | _ => simp only [Run, stepT, hwt a ha o rfl, Bool.false_eq_true, if_false]; rw [ho]; exact h2
/-- The guard is split: carried out, or passed over. -/
theorem J.split (hwt : Wt N ops s o.guard c) (h1 : c = true → Wt N ops s o.guard true → J P N w0 ops Q (.op f o l) s mo kk m) (h2 : c = false → Wt N ops s o.guard false → J P N w0 ops Q (.op f o l) s mo kk m) : J P N w0 ops Q (.op f o l) s mo kk m := by
  cases c with
  | true => exact h1 rfl hwt
  | false => exact h2 rfl hwt
theorem J.nil (h : ∀ a w, Holds N s a → Mem w0 mo m w → Q a w) : J P N w0 ops Q .nil s mo kk m := fun _ a ha w hw => h a w ha hw
theorem J.stop : J P N w0 ops Q .stop s mo kk m := fun _ a ha => trivial
/-- Any of these may come up next. -/
theorem J.alt {l2 : Pl Oper} (hf : f ≠ .q) (h1 : J P N w0 ops Q (.op f o l) s mo kk m) (h2 : J P N w0 ops Q l2 s mo kk m) : J P N w0 ops Q (.alt f o l l2) s mo kk m := fun hkm a ha => by
  cases f with
  | q => exact absurd rfl hf
  | _ => exact ⟨h1 hkm a ha, h2 hkm a ha⟩
/-- Some operations that write no slot, in whatever order. -/
theorem J.many {os : List Oper} (M : List Oper → List Res) {m' : List Res} (h0 : M [] = m) (hw : ∀ o ∈ os, o.dst = none ∧ Wt N ops s o.guard true) (hk : ∀ done, kk.Sublist m → kk.Sublist (M done))
    (he : ∀ o done rest, (o :: done ++ rest).Perm os → ∀ a, Holds N s a → ∀ w, Mem w0 mo (M done) w → effAt P o a w (fun _ w' => Mem w0 mo (M (o :: done)) w')) (hE : ∀ done, done.Perm os → ∀ w, Mem w0 mo (M done) w → Mem w0 mo m' w) (hk' : kk.Sublist m → kk.Sublist m')
    (k : J P N w0 ops Q l s mo kk m') : J P N w0 ops Q (.many os l) s mo kk m := by
  intro hkm a ha
  simp only [Run, Many]
  exact ⟨fun done => Mem w0 mo (M done), Mem w0 mo m', fun w hw => (show Mem w0 mo (M []) w by rw [h0]; exact hw), fun o ho => ⟨(hw o ho).1, (hw o ho).2 a ha o rfl⟩, fun done => Mem.class (hk done hkm), fun _ => Mem.closed, fun o done rest hp w hw => he o done rest hp a ha w hw, hE, Mem.class (hk' hkm), Mem.closed, k (hk' hkm) a ha⟩
/-- Any operation. -/
theorem J.act {ι : Type} {v : ι → Value} {m' kk' : ι → List Res} (hf : f ≠ .q) (hk : ∀ x, kk.Sublist m → kk.Sublist (kk' x) ∧ (kk' x).Sublist (m' x)) (ho : o.dst = some d) (hd : Nat.blt d N = true) (hwt : Wt N ops s o.guard true)
    (he : ∀ a, Holds N s a → ∀ w, Mem w0 mo m w → effAt P o a w (fun u w' => ∃ x, u = v x ∧ Mem w0 mo (m' x) w'))
    (k : ∀ x, J P N w0 ops Q l ((d, v x) :: s) mo (kk' x) (m' x)) : J P N w0 ops Q (.op f o l) s mo kk m := by
  intro hkm a ha
  cases f with
  | q => exact absurd rfl hf
  | _ =>
    simp only [Run, stepT, hwt a ha o rfl, if_true]
    exact ⟨ι, v, fun x => Mem w0 mo (m' x), fun x => Mem w0 mo (kk' x), fun x => Mem.class (hk x hkm).2, fun x => Mem.class (hk x hkm).1, fun _ => Mem.closed, fun w hw => he a ha w hw, fun x => by rw [ho]; exact k x (hk x hkm).2 _ (ha.put hd _)⟩
theorem J.act0 {ι : Type} {m' : ι → List Res} (hf : f ≠ .q) (hk : ∀ x, kk.Sublist m → kk.Sublist (m' x)) (ho : o.dst = none) (hwt : Wt N ops s o.guard true)
    (he : ∀ a, Holds N s a → ∀ w, Mem w0 mo m w → effAt P o a w (fun _ w' => ∃ x, Mem w0 mo (m' x) w'))
    (k : ∀ x, J P N w0 ops Q l s mo kk (m' x)) : J P N w0 ops Q (.op f o l) s mo kk m := by
  intro hkm a ha
  cases f with
  | q => exact absurd rfl hf
  | _ =>
    simp only [Run, stepT, hwt a ha o rfl, if_true]
    refine ⟨Value × ι, fun x => x.1, fun x => Mem w0 mo (m' x.2), fun _ => Mem w0 mo kk, fun x => Mem.class (hk x.2 hkm), fun _ _ h => h, fun _ => Mem.closed, fun w hw => ?_, fun x => by rw [ho]; exact k x.2 (hk x.2 hkm) _ ha⟩
    exact (he a ha w hw).mono fun u w' ⟨x, hx⟩ => ⟨(u, x), rfl, hx⟩
theorem Fl.grow_sub (f : Fl) {n kk m : List Res} (h : kk.Sublist m) : kk.Sublist (f.grow n kk) ∧ (f.grow n kk).Sublist (n ++ m) := by
  cases f with
  | h => exact ⟨List.sublist_append_right _ _, (List.Sublist.refl n).append h⟩
  | _ => exact ⟨List.Sublist.refl _, h.trans (List.sublist_append_right _ _)⟩
/-- An operation that adds to what is known. -/
theorem J.grow {ι : Type} {v : ι → Value} {n : ι → List Res} (hf : f ≠ .q) (ho : o.dst = some d) (hd : Nat.blt d N = true) (hwt : Wt N ops s o.guard true)
    (he : ∀ a, Holds N s a → ∀ w, Mem w0 mo m w → effAt P o a w (fun u w' => ∃ x, u = v x ∧ Mem w0 mo (n x ++ m) w'))
    (k : ∀ x, J P N w0 ops Q l ((d, v x) :: s) mo (f.grow (n x) kk) (n x ++ m)) : J P N w0 ops Q (.op f o l) s mo kk m :=
  J.act hf (fun x h => f.grow_sub h) ho hd hwt he k
end

/-! ### code -/
section
variable {P : Program} {N : Nat} {w0 : World} {Q : Exit → Act → World → Prop} {s s' : Slots} {mo : List Nat} {m m' : List Res} {x y c : Code}
theorem G.seq (h : G P N w0 (Exit.then (y.wp P Q) Q) x s mo m) : G P N w0 Q (.seq x y) s mo m := fun a w ha hw => wp_seq (h a w ha hw)
theorem G.skip (h : Fin N w0 Q .normal s mo m) : G P N w0 Q .skip s mo m := fun a w ha hw => wp_skip (h a w ha hw)
theorem G.ret (h : Fin N w0 Q .ret s mo m) : G P N w0 Q .ret s mo m := fun a w ha hw => wp_ret (h a w ha hw)
theorem G.exit {id : Nat} (h : Fin N w0 Q (.exit id) s mo m) : G P N w0 Q (.exit id) s mo m := fun a w ha hw => wp_exit (h a w ha hw)
theorem G.block {id : Nat} (h : G P N w0 (Exit.inBlock id Q) c s mo m) : G P N w0 Q (.block id c) s mo m := fun a w ha hw => wp_block (h a w ha hw)
theorem G.cond {z : Operand} {b : Bool} (hz : ev s z = some (.bool b)) (h1 : b = true → G P N w0 Q x s mo m) (h2 : b = false → G P N w0 Q y s mo m) : G P N w0 Q (.cond z x y) s mo m :=
  fun a w ha hw => wp_cond_split (ha.ev hz) (fun h => h1 h a w ha hw) (fun h => h2 h a w ha hw)
theorem G.region {id : Nat} {l : List Oper} (h : J P N w0 l.toArray (fun a w => Q .normal a w) (lexPl l) s mo [] m) : G P N w0 Q (.region id l.toArray false) s mo m := fun a w ha hw => by
  refine wp_region_lit ?_
  exact Run.lex (Q' := Q) (fun _ _ h => h) _ _ a _ w (h (List.nil_sublist _) a ha) hw
/-- A region that draws its order and only reads. -/
theorem G.draw {id : Nat} {l : List Oper} (hm : P.follows .mixedOrders = true) (hB : Region.lexB .any l.toArray = true) (h : J P N w0 l.toArray (fun a w => Q .normal a w) (quietPl l) s mo m m) : G P N w0 Q (.region id l.toArray true) s mo m := fun a w ha hw => by
  have hw' : Mem w0 mo m { w with drawn := w.drawn + 1 } := hw.below ((Below.refl _ w).drew)
  exact wp_region_quiet (C := Mem w0 mo m) hm hB hw' (by simpa using Run.quiet Mem.closed l a (h (List.Sublist.refl _) a ha))
def drawB (l : List Oper) (pl : Pl Nat) : Bool := Region.noSelect l.toArray && Nat.ble pl.depth l.length && chk .any l.toArray pl (Array.replicate l.toArray.size false) (Region.ready .any l.toArray (Array.replicate l.toArray.size false))
/-- A region that draws its order and does something: by a plan. kk: what it doesn't turn. -/
theorem G.draws {id : Nat} {l : List Oper} (pl : Pl Nat) {pl' : Pl Oper} (kk : List Res) (hm : P.follows .mixedOrders = true) (hB : drawB l pl = true) (hpl : PlIs l pl pl') (hk : kk.Sublist m) (h : J P N w0 l.toArray (fun a w => Q .normal a w) pl' s mo kk m) : G P N w0 Q (.region id l.toArray true) s mo m := fun a w ha hw => by
  have hw' : Mem w0 mo m { w with drawn := w.drawn + 1 } := hw.below ((Below.refl _ w).drew)
  simp only [drawB, Bool.and_eq_true] at hB
  refine wp_region_any hm (wpT.any (Q := fun a w => Q .normal a w) (fun _ _ h => h) _ _ (Mem w0 mo kk) a (Mem w0 mo m) _ hw' ?_)
  exact (Run.toT hB.1.1 rfl hpl).1 _ _ _ a _ (Mem.class hk) Mem.closed (by simpa using Nat.le_of_ble_eq_true hB.1.2) hB.2 (h hk a ha)
/-- What is known may be told anew. -/
theorem G.weak (hs : ∀ a, Holds N s a → Holds N s' a) (hm : ∀ w, Mem w0 mo m w → Mem w0 mo m' w) (h : G P N w0 Q c s' mo m') : G P N w0 Q c s mo m := fun a w ha hw => h a w (hs a ha) (hm w hw)
theorem Fin.then (h : G P N w0 Q y s mo m) : Fin N w0 (Exit.then (y.wp P Q) Q) .normal s mo m := h
theorem Fin.then_ret {K : Act → World → Prop} (h : Fin N w0 Q .ret s mo m) : Fin N w0 (Exit.then K Q) .ret s mo m := h
theorem Fin.then_exit {K : Act → World → Prop} {id : Nat} (h : Fin N w0 Q (.exit id) s mo m) : Fin N w0 (Exit.then K Q) (.exit id) s mo m := h
theorem Fin.block {id : Nat} (h : Fin N w0 Q .normal s mo m) : Fin N w0 (Exit.inBlock id Q) .normal s mo m := h
theorem Fin.block_ret {id : Nat} (h : Fin N w0 Q .ret s mo m) : Fin N w0 (Exit.inBlock id Q) .ret s mo m := h
theorem Fin.block_exit {id : Nat} (h : Fin N w0 Q .normal s mo m) : Fin N w0 (Exit.inBlock id Q) (.exit id) s mo m := fun a w ha hw => by
  simp only [Exit.inBlock, if_true]; exact h a w ha hw
theorem Fin.block_other {id id' : Nat} (hne : Nat.beq id' id = false) (h : Fin N w0 Q (.exit id') s mo m) : Fin N w0 (Exit.inBlock id Q) (.exit id') s mo m := fun a w ha hw => by
  have : id' ≠ id := fun e => by subst e; simp at hne
  simp only [Exit.inBlock, if_neg this]; exact h a w ha hw
theorem J.fin {ops : Array Oper} {kk : List Res} (h : Fin N w0 Q .normal s mo m) : J P N w0 ops (fun a w => Q .normal a w) .nil s mo kk m := J.nil h
/-- A loop: what holds at its head (i: what is told of the round), and what sinks. -/
theorem G.loop {ι : Type} (i0 : ι) (S : ι → Slots) (M : ι → List Res) (pre : ι → Prop) (μ : ι → Nat) (h0 : pre i0) (hs : ∀ a, Holds N s a → Holds N (S i0) a) (hm : ∀ w, Mem w0 mo m w → Mem w0 mo (M i0) w)
    (round : ∀ i, pre i → G P N w0 (Exit.then (fun a w => ∃ j, pre j ∧ μ j < μ i ∧ Holds N (S j) a ∧ Mem w0 mo (M j) w) Q) c (S i) mo (M i)) : G P N w0 Q (.loop c) s mo m := fun a w ha hw => by
  intro b k cs
  have key : ∀ n i, μ i = n → pre i → ∀ a w, Holds N (S i) a → Mem w0 mo (M i) w → ∃ e a' w', Q e a' w' ∧ Arrives P (lone (b.at a (.code c :: .inLoop c :: k)) cs w) b k cs e a' w' := by
    intro n
    induction n using Nat.strongRecOn with
    | _ n ih =>
      intro i hi hp a w ha hw
      obtain ⟨e, a', w', hq, harr⟩ := round i hp a w ha hw b (.inLoop c :: k) cs
      cases e with
      | normal =>
        obtain ⟨j, hpj, hlt, hsj, hmj⟩ := hq
        obtain ⟨e, a2, w2, hq2, harr2⟩ := ih (μ j) (by omega) j rfl hpj a' w' hsj hmj
        exact ⟨e, a2, w2, hq2, .of_steps (Steps.trans harr (.one step_inLoop)) harr2⟩
      | exit id => exact ⟨_, a', w', hq, .pass (x := .inLoop c) rfl (fun _ _ => .inl (by simp)) harr⟩
      | goto l => exact ⟨_, a', w', hq, .pass (x := .inLoop c) rfl (fun _ _ => .inl (by simp)) harr⟩
      | ret => exact ⟨_, a', w', hq, .pass (x := .inLoop c) rfl (fun _ _ => .inl (by simp)) harr⟩
      | panic ch => exact ⟨_, a', w', hq, .pass (x := .inLoop c) rfl (fun _ _ => .inl (by simp)) harr⟩
      | outgrown => exact ⟨_, a', w', hq, .pass (x := .inLoop c) rfl (fun _ _ => .inl (by simp)) harr⟩
  obtain ⟨e, a', w', hq, harr⟩ := key _ i0 rfl h0 a w (hs a ha) (hm w hw)
  exact ⟨e, a', w', hq, .of_steps (.one step_loop) harr⟩
theorem Fin.round {ι : Type} {S : ι → Slots} {M : ι → List Res} {pre : ι → Prop} {μ : ι → Nat} {i : ι} (j : ι) (hp : pre j) (hlt : μ j < μ i) (hs : ∀ a, Holds N s a → Holds N (S j) a) (hm : ∀ w, Mem w0 mo m w → Mem w0 mo (M j) w) :
    Fin N w0 (Exit.then (fun a w => ∃ j, pre j ∧ μ j < μ i ∧ Holds N (S j) a ∧ Mem w0 mo (M j) w) Q) .normal s mo m := fun a w ha hw => ⟨j, hp, hlt, hs a ha, hm w hw⟩
/-- The slots that are told are among those that are known. -/
theorem Holds.keep {a : Act} (h : Holds N s a) : ∀ {t : Slots}, (∀ p ∈ t, look s p.1 = some p.2) → Holds N t a := by
  intro t ht
  refine h.sub ?_
  induction t with
  | nil => intro i v hi; simp [look] at hi
  | cons p r ih =>
    obtain ⟨j, u⟩ := p
    intro i v hi
    rw [look_cons] at hi
    by_cases e : j = i
    · subst e; simp at hi; subst hi; exact ht (j, u) (by simp)
    · rw [if_neg e] at hi; exact ih (fun p hp => ht p (by simp [hp])) i v hi
theorem keep_nil : ∀ p ∈ ([] : Slots), look s p.1 = some p.2 := by simp
theorem keep_cons {i : Nat} {v : Value} {t : Slots} (h : look s i = some v) (ht : ∀ p ∈ t, look s p.1 = some p.2) : ∀ p ∈ (i, v) :: t, look s p.1 = some p.2 := by
  intro p hp
  rcases List.mem_cons.1 hp with rfl | hp
  · exact h
  · exact ht p hp
end
end Go.Proofs.Ytdhhjhkonmacdaa
