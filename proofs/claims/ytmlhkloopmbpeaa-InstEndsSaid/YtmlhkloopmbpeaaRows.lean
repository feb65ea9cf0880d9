/-
  No cell of these rows narrows 'for every input' (looked for: loops, veiled, ifaces, maps, wideKeys, modest, calm, conditions, laid).
  DERIVED. THE GIVEN ROWS OF THIS SEAT. 2 by the template 'for every input the law returns true; each argument reads behind the call as it read before'; 0 by the template 'total and deterministic' (their statements: YtmlhkloopmbpeaaTotals.lean).
  GIVEN WITH THE SEED: the statements are not yours to turn. If you find one false, say at which input.
  Laid BY PROGRAM, IN A SANDBOX (cutbox-rows.mjs): the forced cells as the released guide's own fill.sh prints them over the translation e4193af282391e0c… (all of the seat's roots in one cut). By AI agents, Wed Nov 11 2026. No macro, syntax, notation, axiom, sorry.
-/
import Derived.Test.YtmlhkloopmbpeaaChecked
import GoSem.Claim
import GoSem.ClaimJoined
import GoSem.ClaimMapViews
import Derived.JoinedTies
import Derived.KernelRfl
namespace Go.Proofs.Ytmlhkloopmbpeaa
/- THE CELL 'sum', in the pinned program and in every row, IS THE sha256 OF THE DUMP (.gsa) THAT YtmlhkloopmbpeaaProg.lean LOADS. Nothing in Lean hashes anything: it is a label: what it is worth is what the hold of that sum in a sandbox is worth. -/
noncomputable def Try.pinned : Pinned := { name := "ytmlhkloopmbpeaa", sum := "e4193af282391e0c1e7ec5f6fe46ce3ff9fb56933c6296afe50c24b9dd721582", checked := Try.checked }
namespace Rows
def none {H : Type} : Left H := { results := [], args := [] }

/-- 'cohortlaw16.InstEnds': WHATEVER THE INPUT: true; the input reads as it did. -/
def instEndsSpec : ChangeSpec := { name := "instEnds", fn := fun _ => fun
  | [d1, d2, d3, d4, d5] => { results := [.lit (.bool true)], args := [d1, d2, d3, d4, d5] }
  | _ => none }
def instEndsRow : OpenClaim := { program := "ytmlhkloopmbpeaa", sum := "e4193af282391e0c1e7ec5f6fe46ce3ff9fb56933c6296afe50c24b9dd721582", func := "cohort/cohortlaw16.InstEnds", spec := "instEnds", plainKeys := false, apart := false }
def InstEndsSaid : Prop := instEndsRow.holds Try.pinned (OpenSpec.ofChange instEndsSpec)

/-- ITS FALSE NEIGHBOUR: 'it returns false'. Refute it at one input. -/
def instEndsWrong : ChangeSpec := { name := "instEnds", fn := fun _ => fun
  | [d1, d2, d3, d4, d5] => { results := [.lit (.bool false)], args := [d1, d2, d3, d4, d5] }
  | _ => none }
def InstEndsWrongFalsely : Prop := instEndsRow.holds Try.pinned (OpenSpec.ofChange instEndsWrong)

/-- 'cohortlaw16.InstGoes': WHATEVER THE INPUT: true; the input reads as it did. -/
def instGoesSpec : ChangeSpec := { name := "instGoes", fn := fun _ => fun
  | [d1, d2, d3, d4, d5] => { results := [.lit (.bool true)], args := [d1, d2, d3, d4, d5] }
  | _ => none }
def instGoesRow : OpenClaim := { program := "ytmlhkloopmbpeaa", sum := "e4193af282391e0c1e7ec5f6fe46ce3ff9fb56933c6296afe50c24b9dd721582", func := "cohort/cohortlaw16.InstGoes", spec := "instGoes", plainKeys := false, apart := false }
def InstGoesSaid : Prop := instGoesRow.holds Try.pinned (OpenSpec.ofChange instGoesSpec)

/-- ITS FALSE NEIGHBOUR: 'it returns false'. Refute it at one input. -/
def instGoesWrong : ChangeSpec := { name := "instGoes", fn := fun _ => fun
  | [d1, d2, d3, d4, d5] => { results := [.lit (.bool false)], args := [d1, d2, d3, d4, d5] }
  | _ => none }
def InstGoesWrongFalsely : Prop := instGoesRow.holds Try.pinned (OpenSpec.ofChange instGoesWrong)

/- THE SECOND FORM. 'bulk': how many values and letters a reading holds, each counted each time it is reached (what is shared counts as often as it is met; a slice's spare places count too). A statement '..UptoSaid' is the law's where the arguments, and the package variables that the reading takes, are together of bulk at most 1048576: NARROWER than '..Said'. Prove '..Said' where nothing that the law and all that it calls make is longer than what came in: it says more and counts as full. Else prove '..UptoSaid'. A law counts once. -/
mutual
def uptoBulk {H : Type} : DataW H → Nat
  | .lit (.string bytes) => bytes.length + 1
  | .lit _ => 1
  | .nil => 1
  | .ptr d => uptoBulk d + 1
  | .slice elems spare => uptoBulkAll elems + uptoBulkAll spare + 1
  | .agg parts => uptoBulkAll parts + 1
  | .iface _ d => uptoBulk d + 1
  | .map entries => uptoBulkEntries entries + 1
  | .held _ => 1
def uptoBulkAll {H : Type} : List (DataW H) → Nat
  | [] => 0
  | d :: r => uptoBulk d + uptoBulkAll r
def uptoBulkEntries {H : Type} : List (Lit × DataW H) → Nat
  | [] => 0
  | x :: r => uptoBulkEntry x + uptoBulkEntries r
def uptoBulkEntry {H : Type} : Lit × DataW H → Nat
  | (.string bytes, d) => bytes.length + uptoBulk d + 1
  | (_, d) => uptoBulk d + 1
 end
def uptoSmall : (H : Type) → List (DataW H) → Bool := fun _ ds => decide (uptoBulkAll ds ≤ 1048576)
def OpenSpec.upto (s : _root_.Go.ChangeSpec) : _root_.Go.OpenSpec := { _root_.Go.OpenSpec.ofChange s with cond := some uptoSmall }

/-- 'cohortlaw16.InstEnds', WHERE WHAT IT READS IS OF BULK AT MOST 1048576: true; the input reads as it did. -/
def instEndsUptoRow : OpenClaim := { program := "ytmlhkloopmbpeaa", sum := "e4193af282391e0c1e7ec5f6fe46ce3ff9fb56933c6296afe50c24b9dd721582", func := "cohort/cohortlaw16.InstEnds", spec := "instEnds", plainKeys := false, apart := false, narrowed := true }
def InstEndsUptoSaid : Prop := instEndsUptoRow.holds Try.pinned (OpenSpec.upto instEndsSpec)

/-- 'cohortlaw16.InstGoes', WHERE WHAT IT READS IS OF BULK AT MOST 1048576: true; the input reads as it did. -/
def instGoesUptoRow : OpenClaim := { program := "ytmlhkloopmbpeaa", sum := "e4193af282391e0c1e7ec5f6fe46ce3ff9fb56933c6296afe50c24b9dd721582", func := "cohort/cohortlaw16.InstGoes", spec := "instGoes", plainKeys := false, apart := false, narrowed := true }
def InstGoesUptoSaid : Prop := instGoesUptoRow.holds Try.pinned (OpenSpec.upto instGoesSpec)

end Rows
end Go.Proofs.Ytmlhkloopmbpeaa
