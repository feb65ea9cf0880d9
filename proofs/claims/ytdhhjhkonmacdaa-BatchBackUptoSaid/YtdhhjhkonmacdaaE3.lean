/- batch: what lives finds. -/
import Derived.Test.YtdhhjhkonmacdaaD16
import Derived.Test.YtdhhjhkonmacdaaE2
namespace Go.Proofs.Ytdhhjhkonmacdaa
open Go.RowKit
set_option linter.unusedSimpArgs false
set_option maxHeartbeats 4000000
set_option linter.unusedVariables false
def kA : ByteArray := ⟨#[97]⟩
def kB : ByteArray := ⟨#[98]⟩
theorem lv1 : mayP [(kA, [7], false)] = true := by
  simp [mayP, rises, kvOk, e0, kA, ByteArray.toList, ByteArray.toList.loop, ByteArray.size, Op.bytesLess]
theorem lv2 : putB [(kA, [7], false)] = [1, 0, 0, 0, 1, 97, 0, 1, 0, 0, 0, 7] := by decide
theorem lv3 : mayP [(kB, [], false), (kA, [], false)] = false := by
  simp [mayP, rises, kvOk, e0, kA, kB, ByteArray.toList, ByteArray.toList.loop, ByteArray.size, Op.bytesLess, show (ByteArray.mk #[97]).get! 0 = 97 by decide, show (ByteArray.mk #[98]).get! 0 = 98 by decide]
theorem ga : (ByteArray.mk #[97]).get! 0 = 97 := by decide
theorem gb : (ByteArray.mk #[98]).get! 0 = 98 := by decide
theorem lv4 : mayP [(kA, [], true), (kB, [8], false)] = true := by
  simp [mayP, rises, kvOk, e0, kA, kB, ByteArray.toList, ByteArray.toList.loop, ByteArray.size, Op.bytesLess, ga, gb]
theorem lv5 : rises true e0 [(kA, 1)] = true := by
  simp [mayP, rises, kvOk, e0, kA, kB, ByteArray.toList, ByteArray.toList.loop, ByteArray.size, Op.bytesLess]
theorem allB_refl {α β : Type} (f : α → α → Bool) (p : α → β) (hf : ∀ x y, p x = p y → f x y = true) : ∀ l m : List α, l.map p = m.map p → allB f l m = true
  | [], [], _ => rfl
  | [], _ :: _, h => by simp at h
  | _ :: _, [], h => by simp at h
  | x :: l, y :: m, h => by
    simp only [List.map_cons, List.cons.injEq] at h
    simp [allB, hf x y h.1, allB_refl f p hf l m h.2]
theorem sameC1_pc (x y : Chg) (h : pc x = pc y) : sameC1 x y = true := by
  simp only [pc, Prod.mk.injEq] at h
  simp [sameC1, sameB, h.1, h.2.1, h.2.2]
theorem sameR1_pr (x y : RowD) (h : pr x = pr y) : sameR1 x y = true := by
  simp only [pr, Prod.mk.injEq] at h
  simp [sameR1, sameB, h.1, h.2]
theorem cmpAA : cmpB kA kA = 0 := by simp [cmpB, kA, ByteArray.toList, ByteArray.toList.loop, ByteArray.size, Op.bytesLess]
end Go.Proofs.Ytdhhjhkonmacdaa
