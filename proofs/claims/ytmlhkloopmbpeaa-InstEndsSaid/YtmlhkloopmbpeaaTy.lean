/- Facts on this program's types and functions, as instances; written by program (wip/bin/tygen.py). -/
import Derived.Test.YtmlhkloopmbpeaaSn
import Derived.Test.YtmlhkloopmbpeaaProg
namespace Go.Proofs.Ytmlhkloopmbpeaa
set_option linter.unusedVariables false

instance : TyS Try.prog 0 1 false := ⟨Try.sizeOf0, Try.isAgg0⟩
instance : TyU Try.prog 0 (Go.TypeDesc.tuple #[]) := ⟨Try.underlying0⟩
instance : TyV Try.prog 0 (Go.Value.tuple [].toArray) := ⟨Try.zeroValue0⟩
instance : TyC Try.prog 0 [Go.Value.tuple #[]] := ⟨_, Try.zeroValue0, rfl⟩
instance : TyS Try.prog 1 1 false := ⟨Try.sizeOf1, Try.isAgg1⟩
instance : TyU Try.prog 1 (Go.TypeDesc.func #[] #[] false) := ⟨Try.underlying1⟩
instance : TyV Try.prog 1 Go.Value.nilFunc := ⟨Try.zeroValue1⟩
instance : TyC Try.prog 1 [Go.Value.nilFunc] := ⟨_, Try.zeroValue1, rfl⟩
instance : TyS Try.prog 2 1 false := ⟨Try.sizeOf2, Try.isAgg2⟩
instance : TyU Try.prog 2 (Go.TypeDesc.int Go.IntKind.i64) := ⟨Try.underlying2⟩
instance : TyV Try.prog 2 (Go.Value.int Go.IntKind.i64 0) := ⟨Try.zeroValue2⟩
instance : TyC Try.prog 2 [Go.Value.int Go.IntKind.i64 0] := ⟨_, Try.zeroValue2, rfl⟩
instance : TyS Try.prog 3 1 false := ⟨Try.sizeOf3, Try.isAgg3⟩
instance : TyU Try.prog 3 (Go.TypeDesc.int Go.IntKind.i64) := ⟨Try.underlying3⟩
instance : TyV Try.prog 3 (Go.Value.int Go.IntKind.i64 0) := ⟨Try.zeroValue3⟩
instance : TyC Try.prog 3 [Go.Value.int Go.IntKind.i64 0] := ⟨_, Try.zeroValue3, rfl⟩
instance : TyS Try.prog 4 1 false := ⟨Try.sizeOf4, Try.isAgg4⟩
instance : TyU Try.prog 4 (Go.TypeDesc.bool) := ⟨Try.underlying4⟩
instance : TyV Try.prog 4 (Go.Value.bool false) := ⟨Try.zeroValue4⟩
instance : TyC Try.prog 4 [Go.Value.bool false] := ⟨_, Try.zeroValue4, rfl⟩
instance : TyS Try.prog 5 1 false := ⟨Try.sizeOf5, Try.isAgg5⟩
instance : TyU Try.prog 5 (Go.TypeDesc.int Go.IntKind.u8) := ⟨Try.underlying5⟩
instance : TyV Try.prog 5 (Go.Value.int Go.IntKind.u8 0) := ⟨Try.zeroValue5⟩
instance : TyC Try.prog 5 [Go.Value.int Go.IntKind.u8 0] := ⟨_, Try.zeroValue5, rfl⟩
instance : TyS Try.prog 6 1 false := ⟨Try.sizeOf6, Try.isAgg6⟩
instance : TyU Try.prog 6 (Go.TypeDesc.int Go.IntKind.u8) := ⟨Try.underlying6⟩
instance : TyV Try.prog 6 (Go.Value.int Go.IntKind.u8 0) := ⟨Try.zeroValue6⟩
instance : TyC Try.prog 6 [Go.Value.int Go.IntKind.u8 0] := ⟨_, Try.zeroValue6, rfl⟩
instance : TyS Try.prog 7 4 true := ⟨Try.sizeOf7, Try.isAgg7⟩
instance : TyV Try.prog 7 (Go.Value.agg [Go.Value.int Go.IntKind.i64 0, Go.Value.int Go.IntKind.i64 0, Go.Value.bool false, Go.Value.int Go.IntKind.u8 0].toArray) := ⟨Try.zeroValue7⟩
instance : TyC Try.prog 7 [Go.Value.int Go.IntKind.i64 0, Go.Value.int Go.IntKind.i64 0, Go.Value.bool false, Go.Value.int Go.IntKind.u8 0] := ⟨_, Try.zeroValue7, rfl⟩
instance : TyF Try.prog 7 0 0 := TyF.mk' Try.underlying7 rfl Try.sizeOf2 rfl
instance : TyF Try.prog 7 1 1 := TyF.mk' Try.underlying7 rfl Try.sizeOf3 rfl
instance : TyF Try.prog 7 2 2 := TyF.mk' Try.underlying7 rfl Try.sizeOf4 rfl
instance : TyF Try.prog 7 3 3 := TyF.mk' Try.underlying7 rfl Try.sizeOf6 rfl
instance : TyB Try.prog 7 [Go.Value.int Go.IntKind.i64 0, Go.Value.int Go.IntKind.i64 0, Go.Value.bool false, Go.Value.int Go.IntKind.u8 0] [(0, 1), (1, 1), (2, 1), (3, 1)] := TyB.mk' Try.underlying7 Try.zeroValue7 rfl (by simp [Try.sizeOf2, Try.sizeOf3, Try.sizeOf4, Try.sizeOf6])
instance : TyS Try.prog 8 4 true := ⟨Try.sizeOf8, Try.isAgg8⟩
instance : TyV Try.prog 8 (Go.Value.agg [Go.Value.int Go.IntKind.i64 0, Go.Value.int Go.IntKind.i64 0, Go.Value.bool false, Go.Value.int Go.IntKind.u8 0].toArray) := ⟨Try.zeroValue8⟩
instance : TyC Try.prog 8 [Go.Value.int Go.IntKind.i64 0, Go.Value.int Go.IntKind.i64 0, Go.Value.bool false, Go.Value.int Go.IntKind.u8 0] := ⟨_, Try.zeroValue8, rfl⟩
instance : TyF Try.prog 8 0 0 := TyF.mk' Try.underlying8 rfl Try.sizeOf2 rfl
instance : TyF Try.prog 8 1 1 := TyF.mk' Try.underlying8 rfl Try.sizeOf3 rfl
instance : TyF Try.prog 8 2 2 := TyF.mk' Try.underlying8 rfl Try.sizeOf4 rfl
instance : TyF Try.prog 8 3 3 := TyF.mk' Try.underlying8 rfl Try.sizeOf6 rfl
instance : TyB Try.prog 8 [Go.Value.int Go.IntKind.i64 0, Go.Value.int Go.IntKind.i64 0, Go.Value.bool false, Go.Value.int Go.IntKind.u8 0] [(0, 1), (1, 1), (2, 1), (3, 1)] := TyB.mk' Try.underlying8 Try.zeroValue8 rfl (by simp [Try.sizeOf2, Try.sizeOf3, Try.sizeOf4, Try.sizeOf6])
instance : TyS Try.prog 9 1 false := ⟨Try.sizeOf9, Try.isAgg9⟩
instance : TyU Try.prog 9 (Go.TypeDesc.string) := ⟨Try.underlying9⟩
instance : TyV Try.prog 9 (Go.Value.string { data := [].toArray }) := ⟨Try.zeroValue9⟩
instance : TyC Try.prog 9 [Go.Value.string { data := #[] }] := ⟨_, Try.zeroValue9, rfl⟩
instance : TyS Try.prog 10 1 false := ⟨Try.sizeOf10, Try.isAgg10⟩
instance : TyU Try.prog 10 (Go.TypeDesc.string) := ⟨Try.underlying10⟩
instance : TyV Try.prog 10 (Go.Value.string { data := [].toArray }) := ⟨Try.zeroValue10⟩
instance : TyC Try.prog 10 [Go.Value.string { data := #[] }] := ⟨_, Try.zeroValue10, rfl⟩
instance : TyS Try.prog 11 1 false := ⟨Try.sizeOf11, Try.isAgg11⟩
instance : TyU Try.prog 11 (Go.TypeDesc.string) := ⟨Try.underlying11⟩
instance : TyV Try.prog 11 (Go.Value.string { data := [].toArray }) := ⟨Try.zeroValue11⟩
instance : TyC Try.prog 11 [Go.Value.string { data := #[] }] := ⟨_, Try.zeroValue11, rfl⟩
instance : TyS Try.prog 12 1 false := ⟨Try.sizeOf12, Try.isAgg12⟩
instance : TyU Try.prog 12 (Go.TypeDesc.int Go.IntKind.u64) := ⟨Try.underlying12⟩
instance : TyV Try.prog 12 (Go.Value.int Go.IntKind.u64 0) := ⟨Try.zeroValue12⟩
instance : TyC Try.prog 12 [Go.Value.int Go.IntKind.u64 0] := ⟨_, Try.zeroValue12, rfl⟩
instance : TyS Try.prog 13 2 true := ⟨Try.sizeOf13, Try.isAgg13⟩
instance : TyV Try.prog 13 (Go.Value.agg [Go.Value.string { data := #[] }, Go.Value.int Go.IntKind.u64 0].toArray) := ⟨Try.zeroValue13⟩
instance : TyC Try.prog 13 [Go.Value.string { data := #[] }, Go.Value.int Go.IntKind.u64 0] := ⟨_, Try.zeroValue13, rfl⟩
instance : TyF Try.prog 13 0 0 := TyF.mk' Try.underlying13 rfl Try.sizeOf9 rfl
instance : TyF Try.prog 13 1 1 := TyF.mk' Try.underlying13 rfl Try.sizeOf12 rfl
instance : TyB Try.prog 13 [Go.Value.string { data := #[] }, Go.Value.int Go.IntKind.u64 0] [(0, 1), (1, 1)] := TyB.mk' Try.underlying13 Try.zeroValue13 rfl (by simp [Try.sizeOf12, Try.sizeOf9])
instance : TyS Try.prog 14 2 true := ⟨Try.sizeOf14, Try.isAgg14⟩
instance : TyV Try.prog 14 (Go.Value.agg [Go.Value.string { data := #[] }, Go.Value.int Go.IntKind.u64 0].toArray) := ⟨Try.zeroValue14⟩
instance : TyC Try.prog 14 [Go.Value.string { data := #[] }, Go.Value.int Go.IntKind.u64 0] := ⟨_, Try.zeroValue14, rfl⟩
instance : TyF Try.prog 14 0 0 := TyF.mk' Try.underlying14 rfl Try.sizeOf9 rfl
instance : TyF Try.prog 14 1 1 := TyF.mk' Try.underlying14 rfl Try.sizeOf12 rfl
instance : TyB Try.prog 14 [Go.Value.string { data := #[] }, Go.Value.int Go.IntKind.u64 0] [(0, 1), (1, 1)] := TyB.mk' Try.underlying14 Try.zeroValue14 rfl (by simp [Try.sizeOf12, Try.sizeOf9])
instance : TyS Try.prog 15 1 false := ⟨Try.sizeOf15, Try.isAgg15⟩
instance : TyU Try.prog 15 (Go.TypeDesc.pointer 56) := ⟨Try.underlying15⟩
instance : TyV Try.prog 15 (Go.Value.pointer none) := ⟨Try.zeroValue15⟩
instance : TyC Try.prog 15 [Go.Value.pointer none] := ⟨_, Try.zeroValue15, rfl⟩
instance : TyS Try.prog 16 1 false := ⟨Try.sizeOf16, Try.isAgg16⟩
instance : TyU Try.prog 16 (Go.TypeDesc.pointer 59) := ⟨Try.underlying16⟩
instance : TyV Try.prog 16 (Go.Value.pointer none) := ⟨Try.zeroValue16⟩
instance : TyC Try.prog 16 [Go.Value.pointer none] := ⟨_, Try.zeroValue16, rfl⟩
instance : TyS Try.prog 17 1 false := ⟨Try.sizeOf17, Try.isAgg17⟩
instance : TyU Try.prog 17 (Go.TypeDesc.pointer 68) := ⟨Try.underlying17⟩
instance : TyV Try.prog 17 (Go.Value.pointer none) := ⟨Try.zeroValue17⟩
instance : TyC Try.prog 17 [Go.Value.pointer none] := ⟨_, Try.zeroValue17, rfl⟩
instance : TyS Try.prog 18 1 true := ⟨Try.sizeOf18, Try.isAgg18⟩
instance : TyV Try.prog 18 (Go.Value.agg [Go.Value.pointer none].toArray) := ⟨Try.zeroValue18⟩
instance : TyC Try.prog 18 [Go.Value.pointer none] := ⟨_, Try.zeroValue18, rfl⟩
instance : TyF Try.prog 18 0 0 := TyF.mk' Try.underlying18 rfl Try.sizeOf17 rfl
instance : TyB Try.prog 18 [Go.Value.pointer none] [(0, 1)] := TyB.mk' Try.underlying18 Try.zeroValue18 rfl (by simp [Try.sizeOf17])
instance : TyS Try.prog 19 1 true := ⟨Try.sizeOf19, Try.isAgg19⟩
instance : TyV Try.prog 19 (Go.Value.agg [Go.Value.pointer none].toArray) := ⟨Try.zeroValue19⟩
instance : TyC Try.prog 19 [Go.Value.pointer none] := ⟨_, Try.zeroValue19, rfl⟩
instance : TyF Try.prog 19 0 0 := TyF.mk' Try.underlying19 rfl Try.sizeOf17 rfl
instance : TyB Try.prog 19 [Go.Value.pointer none] [(0, 1)] := TyB.mk' Try.underlying19 Try.zeroValue19 rfl (by simp [Try.sizeOf17])
instance : TyS Try.prog 20 1 false := ⟨Try.sizeOf20, Try.isAgg20⟩
instance : TyU Try.prog 20 (Go.TypeDesc.interface #[]) := ⟨Try.underlying20⟩
instance : TyV Try.prog 20 Go.Value.nilIface := ⟨Try.zeroValue20⟩
instance : TyC Try.prog 20 [Go.Value.nilIface] := ⟨_, Try.zeroValue20, rfl⟩
instance : TyS Try.prog 21 1 false := ⟨Try.sizeOf21, Try.isAgg21⟩
instance : TyU Try.prog 21 (Go.TypeDesc.int Go.IntKind.i32) := ⟨Try.underlying21⟩
instance : TyV Try.prog 21 (Go.Value.int Go.IntKind.i32 0) := ⟨Try.zeroValue21⟩
instance : TyC Try.prog 21 [Go.Value.int Go.IntKind.i32 0] := ⟨_, Try.zeroValue21, rfl⟩
instance : TyS Try.prog 22 1 false := ⟨Try.sizeOf22, Try.isAgg22⟩
instance : TyU Try.prog 22 (Go.TypeDesc.int Go.IntKind.u64) := ⟨Try.underlying22⟩
instance : TyV Try.prog 22 (Go.Value.int Go.IntKind.u64 0) := ⟨Try.zeroValue22⟩
instance : TyC Try.prog 22 [Go.Value.int Go.IntKind.u64 0] := ⟨_, Try.zeroValue22, rfl⟩
instance : TyS Try.prog 23 1 false := ⟨Try.sizeOf23, Try.isAgg23⟩
instance : TyU Try.prog 23 (Go.TypeDesc.int Go.IntKind.u32) := ⟨Try.underlying23⟩
instance : TyV Try.prog 23 (Go.Value.int Go.IntKind.u32 0) := ⟨Try.zeroValue23⟩
instance : TyC Try.prog 23 [Go.Value.int Go.IntKind.u32 0] := ⟨_, Try.zeroValue23, rfl⟩
instance : TyS Try.prog 24 12 true := ⟨Try.sizeOf24, Try.isAgg24⟩
instance : TyV Try.prog 24 (Go.Value.agg [Go.Value.int Go.IntKind.u64 0, Go.Value.int Go.IntKind.u64 0, Go.Value.int Go.IntKind.i64 0, Go.Value.int Go.IntKind.i64 0, Go.Value.bool false, Go.Value.int Go.IntKind.u8 0, Go.Value.int Go.IntKind.u64 0, Go.Value.bool false, Go.Value.int Go.IntKind.u64 0, Go.Value.bool false, Go.Value.bool false, Go.Value.int Go.IntKind.u32 0].toArray) := ⟨Try.zeroValue24⟩
instance : TyC Try.prog 24 [Go.Value.int Go.IntKind.u64 0, Go.Value.int Go.IntKind.u64 0, Go.Value.int Go.IntKind.i64 0, Go.Value.int Go.IntKind.i64 0, Go.Value.bool false, Go.Value.int Go.IntKind.u8 0, Go.Value.int Go.IntKind.u64 0, Go.Value.bool false, Go.Value.int Go.IntKind.u64 0, Go.Value.bool false, Go.Value.bool false, Go.Value.int Go.IntKind.u32 0] := ⟨_, Try.zeroValue24, rfl⟩
instance : TyF Try.prog 24 0 0 := TyF.mk' Try.underlying24 rfl Try.sizeOf22 rfl
instance : TyF Try.prog 24 1 1 := TyF.mk' Try.underlying24 rfl Try.sizeOf22 rfl
instance : TyF Try.prog 24 2 2 := TyF.mk' Try.underlying24 rfl Try.sizeOf3 rfl
instance : TyF Try.prog 24 3 3 := TyF.mk' Try.underlying24 rfl Try.sizeOf2 rfl
instance : TyF Try.prog 24 4 4 := TyF.mk' Try.underlying24 rfl Try.sizeOf4 rfl
instance : TyF Try.prog 24 5 5 := TyF.mk' Try.underlying24 rfl Try.sizeOf5 rfl
instance : TyF Try.prog 24 6 6 := TyF.mk' Try.underlying24 rfl Try.sizeOf22 rfl
instance : TyF Try.prog 24 7 7 := TyF.mk' Try.underlying24 rfl Try.sizeOf4 rfl
instance : TyF Try.prog 24 8 8 := TyF.mk' Try.underlying24 rfl Try.sizeOf22 rfl
instance : TyF Try.prog 24 9 9 := TyF.mk' Try.underlying24 rfl Try.sizeOf4 rfl
instance : TyF Try.prog 24 10 10 := TyF.mk' Try.underlying24 rfl Try.sizeOf4 rfl
instance : TyF Try.prog 24 11 11 := TyF.mk' Try.underlying24 rfl Try.sizeOf23 rfl
instance : TyB Try.prog 24 [Go.Value.int Go.IntKind.u64 0, Go.Value.int Go.IntKind.u64 0, Go.Value.int Go.IntKind.i64 0, Go.Value.int Go.IntKind.i64 0, Go.Value.bool false, Go.Value.int Go.IntKind.u8 0, Go.Value.int Go.IntKind.u64 0, Go.Value.bool false, Go.Value.int Go.IntKind.u64 0, Go.Value.bool false, Go.Value.bool false, Go.Value.int Go.IntKind.u32 0] [(0, 1), (1, 1), (2, 1), (3, 1), (4, 1), (5, 1), (6, 1), (7, 1), (8, 1), (9, 1), (10, 1), (11, 1)] := TyB.mk' Try.underlying24 Try.zeroValue24 rfl (by simp [Try.sizeOf2, Try.sizeOf22, Try.sizeOf23, Try.sizeOf3, Try.sizeOf4, Try.sizeOf5])
instance : TyS Try.prog 25 12 true := ⟨Try.sizeOf25, Try.isAgg25⟩
instance : TyV Try.prog 25 (Go.Value.agg [Go.Value.int Go.IntKind.u64 0, Go.Value.int Go.IntKind.u64 0, Go.Value.int Go.IntKind.i64 0, Go.Value.int Go.IntKind.i64 0, Go.Value.bool false, Go.Value.int Go.IntKind.u8 0, Go.Value.int Go.IntKind.u64 0, Go.Value.bool false, Go.Value.int Go.IntKind.u64 0, Go.Value.bool false, Go.Value.bool false, Go.Value.int Go.IntKind.u32 0].toArray) := ⟨Try.zeroValue25⟩
instance : TyC Try.prog 25 [Go.Value.int Go.IntKind.u64 0, Go.Value.int Go.IntKind.u64 0, Go.Value.int Go.IntKind.i64 0, Go.Value.int Go.IntKind.i64 0, Go.Value.bool false, Go.Value.int Go.IntKind.u8 0, Go.Value.int Go.IntKind.u64 0, Go.Value.bool false, Go.Value.int Go.IntKind.u64 0, Go.Value.bool false, Go.Value.bool false, Go.Value.int Go.IntKind.u32 0] := ⟨_, Try.zeroValue25, rfl⟩
instance : TyF Try.prog 25 0 0 := TyF.mk' Try.underlying25 rfl Try.sizeOf22 rfl
instance : TyF Try.prog 25 1 1 := TyF.mk' Try.underlying25 rfl Try.sizeOf22 rfl
instance : TyF Try.prog 25 2 2 := TyF.mk' Try.underlying25 rfl Try.sizeOf3 rfl
instance : TyF Try.prog 25 3 3 := TyF.mk' Try.underlying25 rfl Try.sizeOf2 rfl
instance : TyF Try.prog 25 4 4 := TyF.mk' Try.underlying25 rfl Try.sizeOf4 rfl
instance : TyF Try.prog 25 5 5 := TyF.mk' Try.underlying25 rfl Try.sizeOf5 rfl
instance : TyF Try.prog 25 6 6 := TyF.mk' Try.underlying25 rfl Try.sizeOf22 rfl
instance : TyF Try.prog 25 7 7 := TyF.mk' Try.underlying25 rfl Try.sizeOf4 rfl
instance : TyF Try.prog 25 8 8 := TyF.mk' Try.underlying25 rfl Try.sizeOf22 rfl
instance : TyF Try.prog 25 9 9 := TyF.mk' Try.underlying25 rfl Try.sizeOf4 rfl
instance : TyF Try.prog 25 10 10 := TyF.mk' Try.underlying25 rfl Try.sizeOf4 rfl
instance : TyF Try.prog 25 11 11 := TyF.mk' Try.underlying25 rfl Try.sizeOf23 rfl
instance : TyB Try.prog 25 [Go.Value.int Go.IntKind.u64 0, Go.Value.int Go.IntKind.u64 0, Go.Value.int Go.IntKind.i64 0, Go.Value.int Go.IntKind.i64 0, Go.Value.bool false, Go.Value.int Go.IntKind.u8 0, Go.Value.int Go.IntKind.u64 0, Go.Value.bool false, Go.Value.int Go.IntKind.u64 0, Go.Value.bool false, Go.Value.bool false, Go.Value.int Go.IntKind.u32 0] [(0, 1), (1, 1), (2, 1), (3, 1), (4, 1), (5, 1), (6, 1), (7, 1), (8, 1), (9, 1), (10, 1), (11, 1)] := TyB.mk' Try.underlying25 Try.zeroValue25 rfl (by simp [Try.sizeOf2, Try.sizeOf22, Try.sizeOf23, Try.sizeOf3, Try.sizeOf4, Try.sizeOf5])
instance : TyS Try.prog 26 1 false := ⟨Try.sizeOf26, Try.isAgg26⟩
instance : TyU Try.prog 26 (Go.TypeDesc.func #[25] #[4] false) := ⟨Try.underlying26⟩
instance : TyV Try.prog 26 Go.Value.nilFunc := ⟨Try.zeroValue26⟩
instance : TyC Try.prog 26 [Go.Value.nilFunc] := ⟨_, Try.zeroValue26, rfl⟩
instance : TyS Try.prog 27 1 false := ⟨Try.sizeOf27, Try.isAgg27⟩
instance : TyU Try.prog 27 (Go.TypeDesc.func #[] #[4] false) := ⟨Try.underlying27⟩
instance : TyV Try.prog 27 Go.Value.nilFunc := ⟨Try.zeroValue27⟩
instance : TyC Try.prog 27 [Go.Value.nilFunc] := ⟨_, Try.zeroValue27, rfl⟩
instance : TyS Try.prog 28 1 false := ⟨Try.sizeOf28, Try.isAgg28⟩
instance : TyU Try.prog 28 (Go.TypeDesc.slice 70) := ⟨Try.underlying28⟩
instance : TyV Try.prog 28 (Go.Value.slice none 0 0) := ⟨Try.zeroValue28⟩
instance : TyC Try.prog 28 [Go.Value.slice none 0 0] := ⟨_, Try.zeroValue28, rfl⟩
instance : TyAp Try.prog 28 70 4 40 [Go.Value.string { data := #[] }, Go.Value.bool false, Go.Value.int Go.IntKind.i64 0, Go.Value.int Go.IntKind.i64 0] := ⟨Try.t70, _, Try.underlying28, Try.type70, rfl, rfl, rfl, rfl, rfl, by decide⟩
instance : TyS Try.prog 29 1 false := ⟨Try.sizeOf29, Try.isAgg29⟩
instance : TyU Try.prog 29 (Go.TypeDesc.slice 72) := ⟨Try.underlying29⟩
instance : TyV Try.prog 29 (Go.Value.slice none 0 0) := ⟨Try.zeroValue29⟩
instance : TyC Try.prog 29 [Go.Value.slice none 0 0] := ⟨_, Try.zeroValue29, rfl⟩
instance : TyAp Try.prog 29 72 2 16 [Go.Value.int Go.IntKind.i64 0, Go.Value.int Go.IntKind.i64 0] := ⟨Try.t72, _, Try.underlying29, Try.type72, rfl, rfl, rfl, rfl, rfl, by decide⟩
instance : TyS Try.prog 30 1 false := ⟨Try.sizeOf30, Try.isAgg30⟩
instance : TyU Try.prog 30 (Go.TypeDesc.slice 74) := ⟨Try.underlying30⟩
instance : TyV Try.prog 30 (Go.Value.slice none 0 0) := ⟨Try.zeroValue30⟩
instance : TyC Try.prog 30 [Go.Value.slice none 0 0] := ⟨_, Try.zeroValue30, rfl⟩
instance : TyAp Try.prog 30 74 3 24 [Go.Value.int Go.IntKind.u64 0, Go.Value.int Go.IntKind.u64 0, Go.Value.int Go.IntKind.i64 0] := ⟨Try.t74, _, Try.underlying30, Try.type74, rfl, rfl, rfl, rfl, rfl, by decide⟩
instance : TyS Try.prog 31 20 true := ⟨Try.sizeOf31, Try.isAgg31⟩
instance : TyV Try.prog 31 (Go.Value.agg [Go.Value.slice none 0 0, Go.Value.int Go.IntKind.u8 0, Go.Value.int Go.IntKind.i64 0, Go.Value.bool false, Go.Value.int Go.IntKind.i64 0, Go.Value.int Go.IntKind.i64 0, Go.Value.int Go.IntKind.i64 0, Go.Value.int Go.IntKind.i64 0, Go.Value.int Go.IntKind.i64 0, Go.Value.int Go.IntKind.i64 0, Go.Value.int Go.IntKind.u64 0, Go.Value.int Go.IntKind.u64 0, Go.Value.int Go.IntKind.u64 0, Go.Value.int Go.IntKind.u64 0, Go.Value.int Go.IntKind.u64 0, Go.Value.int Go.IntKind.u64 0, Go.Value.bool false, Go.Value.int Go.IntKind.i64 0, Go.Value.slice none 0 0, Go.Value.slice none 0 0].toArray) := ⟨Try.zeroValue31⟩
instance : TyC Try.prog 31 [Go.Value.slice none 0 0, Go.Value.int Go.IntKind.u8 0, Go.Value.int Go.IntKind.i64 0, Go.Value.bool false, Go.Value.int Go.IntKind.i64 0, Go.Value.int Go.IntKind.i64 0, Go.Value.int Go.IntKind.i64 0, Go.Value.int Go.IntKind.i64 0, Go.Value.int Go.IntKind.i64 0, Go.Value.int Go.IntKind.i64 0, Go.Value.int Go.IntKind.u64 0, Go.Value.int Go.IntKind.u64 0, Go.Value.int Go.IntKind.u64 0, Go.Value.int Go.IntKind.u64 0, Go.Value.int Go.IntKind.u64 0, Go.Value.int Go.IntKind.u64 0, Go.Value.bool false, Go.Value.int Go.IntKind.i64 0, Go.Value.slice none 0 0, Go.Value.slice none 0 0] := ⟨_, Try.zeroValue31, rfl⟩
instance : TyF Try.prog 31 0 0 := TyF.mk' Try.underlying31 rfl Try.sizeOf28 rfl
instance : TyF Try.prog 31 1 1 := TyF.mk' Try.underlying31 rfl Try.sizeOf5 rfl
instance : TyF Try.prog 31 2 2 := TyF.mk' Try.underlying31 rfl Try.sizeOf2 rfl
instance : TyF Try.prog 31 3 3 := TyF.mk' Try.underlying31 rfl Try.sizeOf4 rfl
instance : TyF Try.prog 31 4 4 := TyF.mk' Try.underlying31 rfl Try.sizeOf2 rfl
instance : TyF Try.prog 31 5 5 := TyF.mk' Try.underlying31 rfl Try.sizeOf2 rfl
instance : TyF Try.prog 31 6 6 := TyF.mk' Try.underlying31 rfl Try.sizeOf2 rfl
instance : TyF Try.prog 31 7 7 := TyF.mk' Try.underlying31 rfl Try.sizeOf2 rfl
instance : TyF Try.prog 31 8 8 := TyF.mk' Try.underlying31 rfl Try.sizeOf2 rfl
instance : TyF Try.prog 31 9 9 := TyF.mk' Try.underlying31 rfl Try.sizeOf2 rfl
instance : TyF Try.prog 31 10 10 := TyF.mk' Try.underlying31 rfl Try.sizeOf22 rfl
instance : TyF Try.prog 31 11 11 := TyF.mk' Try.underlying31 rfl Try.sizeOf22 rfl
instance : TyF Try.prog 31 12 12 := TyF.mk' Try.underlying31 rfl Try.sizeOf22 rfl
instance : TyF Try.prog 31 13 13 := TyF.mk' Try.underlying31 rfl Try.sizeOf22 rfl
instance : TyF Try.prog 31 14 14 := TyF.mk' Try.underlying31 rfl Try.sizeOf22 rfl
instance : TyF Try.prog 31 15 15 := TyF.mk' Try.underlying31 rfl Try.sizeOf22 rfl
instance : TyF Try.prog 31 16 16 := TyF.mk' Try.underlying31 rfl Try.sizeOf4 rfl
instance : TyF Try.prog 31 17 17 := TyF.mk' Try.underlying31 rfl Try.sizeOf2 rfl
instance : TyF Try.prog 31 18 18 := TyF.mk' Try.underlying31 rfl Try.sizeOf29 rfl
instance : TyF Try.prog 31 19 19 := TyF.mk' Try.underlying31 rfl Try.sizeOf30 rfl
instance : TyB Try.prog 31 [Go.Value.slice none 0 0, Go.Value.int Go.IntKind.u8 0, Go.Value.int Go.IntKind.i64 0, Go.Value.bool false, Go.Value.int Go.IntKind.i64 0, Go.Value.int Go.IntKind.i64 0, Go.Value.int Go.IntKind.i64 0, Go.Value.int Go.IntKind.i64 0, Go.Value.int Go.IntKind.i64 0, Go.Value.int Go.IntKind.i64 0, Go.Value.int Go.IntKind.u64 0, Go.Value.int Go.IntKind.u64 0, Go.Value.int Go.IntKind.u64 0, Go.Value.int Go.IntKind.u64 0, Go.Value.int Go.IntKind.u64 0, Go.Value.int Go.IntKind.u64 0, Go.Value.bool false, Go.Value.int Go.IntKind.i64 0, Go.Value.slice none 0 0, Go.Value.slice none 0 0] [(0, 1), (1, 1), (2, 1), (3, 1), (4, 1), (5, 1), (6, 1), (7, 1), (8, 1), (9, 1), (10, 1), (11, 1), (12, 1), (13, 1), (14, 1), (15, 1), (16, 1), (17, 1), (18, 1), (19, 1)] := TyB.mk' Try.underlying31 Try.zeroValue31 rfl (by simp [Try.sizeOf2, Try.sizeOf22, Try.sizeOf28, Try.sizeOf29, Try.sizeOf30, Try.sizeOf4, Try.sizeOf5])
instance : TyS Try.prog 32 20 true := ⟨Try.sizeOf32, Try.isAgg32⟩
instance : TyV Try.prog 32 (Go.Value.agg [Go.Value.slice none 0 0, Go.Value.int Go.IntKind.u8 0, Go.Value.int Go.IntKind.i64 0, Go.Value.bool false, Go.Value.int Go.IntKind.i64 0, Go.Value.int Go.IntKind.i64 0, Go.Value.int Go.IntKind.i64 0, Go.Value.int Go.IntKind.i64 0, Go.Value.int Go.IntKind.i64 0, Go.Value.int Go.IntKind.i64 0, Go.Value.int Go.IntKind.u64 0, Go.Value.int Go.IntKind.u64 0, Go.Value.int Go.IntKind.u64 0, Go.Value.int Go.IntKind.u64 0, Go.Value.int Go.IntKind.u64 0, Go.Value.int Go.IntKind.u64 0, Go.Value.bool false, Go.Value.int Go.IntKind.i64 0, Go.Value.slice none 0 0, Go.Value.slice none 0 0].toArray) := ⟨Try.zeroValue32⟩
instance : TyC Try.prog 32 [Go.Value.slice none 0 0, Go.Value.int Go.IntKind.u8 0, Go.Value.int Go.IntKind.i64 0, Go.Value.bool false, Go.Value.int Go.IntKind.i64 0, Go.Value.int Go.IntKind.i64 0, Go.Value.int Go.IntKind.i64 0, Go.Value.int Go.IntKind.i64 0, Go.Value.int Go.IntKind.i64 0, Go.Value.int Go.IntKind.i64 0, Go.Value.int Go.IntKind.u64 0, Go.Value.int Go.IntKind.u64 0, Go.Value.int Go.IntKind.u64 0, Go.Value.int Go.IntKind.u64 0, Go.Value.int Go.IntKind.u64 0, Go.Value.int Go.IntKind.u64 0, Go.Value.bool false, Go.Value.int Go.IntKind.i64 0, Go.Value.slice none 0 0, Go.Value.slice none 0 0] := ⟨_, Try.zeroValue32, rfl⟩
instance : TyF Try.prog 32 0 0 := TyF.mk' Try.underlying32 rfl Try.sizeOf28 rfl
instance : TyF Try.prog 32 1 1 := TyF.mk' Try.underlying32 rfl Try.sizeOf5 rfl
instance : TyF Try.prog 32 2 2 := TyF.mk' Try.underlying32 rfl Try.sizeOf2 rfl
instance : TyF Try.prog 32 3 3 := TyF.mk' Try.underlying32 rfl Try.sizeOf4 rfl
instance : TyF Try.prog 32 4 4 := TyF.mk' Try.underlying32 rfl Try.sizeOf2 rfl
instance : TyF Try.prog 32 5 5 := TyF.mk' Try.underlying32 rfl Try.sizeOf2 rfl
instance : TyF Try.prog 32 6 6 := TyF.mk' Try.underlying32 rfl Try.sizeOf2 rfl
instance : TyF Try.prog 32 7 7 := TyF.mk' Try.underlying32 rfl Try.sizeOf2 rfl
instance : TyF Try.prog 32 8 8 := TyF.mk' Try.underlying32 rfl Try.sizeOf2 rfl
instance : TyF Try.prog 32 9 9 := TyF.mk' Try.underlying32 rfl Try.sizeOf2 rfl
instance : TyF Try.prog 32 10 10 := TyF.mk' Try.underlying32 rfl Try.sizeOf22 rfl
instance : TyF Try.prog 32 11 11 := TyF.mk' Try.underlying32 rfl Try.sizeOf22 rfl
instance : TyF Try.prog 32 12 12 := TyF.mk' Try.underlying32 rfl Try.sizeOf22 rfl
instance : TyF Try.prog 32 13 13 := TyF.mk' Try.underlying32 rfl Try.sizeOf22 rfl
instance : TyF Try.prog 32 14 14 := TyF.mk' Try.underlying32 rfl Try.sizeOf22 rfl
instance : TyF Try.prog 32 15 15 := TyF.mk' Try.underlying32 rfl Try.sizeOf22 rfl
instance : TyF Try.prog 32 16 16 := TyF.mk' Try.underlying32 rfl Try.sizeOf4 rfl
instance : TyF Try.prog 32 17 17 := TyF.mk' Try.underlying32 rfl Try.sizeOf2 rfl
instance : TyF Try.prog 32 18 18 := TyF.mk' Try.underlying32 rfl Try.sizeOf29 rfl
instance : TyF Try.prog 32 19 19 := TyF.mk' Try.underlying32 rfl Try.sizeOf30 rfl
instance : TyB Try.prog 32 [Go.Value.slice none 0 0, Go.Value.int Go.IntKind.u8 0, Go.Value.int Go.IntKind.i64 0, Go.Value.bool false, Go.Value.int Go.IntKind.i64 0, Go.Value.int Go.IntKind.i64 0, Go.Value.int Go.IntKind.i64 0, Go.Value.int Go.IntKind.i64 0, Go.Value.int Go.IntKind.i64 0, Go.Value.int Go.IntKind.i64 0, Go.Value.int Go.IntKind.u64 0, Go.Value.int Go.IntKind.u64 0, Go.Value.int Go.IntKind.u64 0, Go.Value.int Go.IntKind.u64 0, Go.Value.int Go.IntKind.u64 0, Go.Value.int Go.IntKind.u64 0, Go.Value.bool false, Go.Value.int Go.IntKind.i64 0, Go.Value.slice none 0 0, Go.Value.slice none 0 0] [(0, 1), (1, 1), (2, 1), (3, 1), (4, 1), (5, 1), (6, 1), (7, 1), (8, 1), (9, 1), (10, 1), (11, 1), (12, 1), (13, 1), (14, 1), (15, 1), (16, 1), (17, 1), (18, 1), (19, 1)] := TyB.mk' Try.underlying32 Try.zeroValue32 rfl (by simp [Try.sizeOf2, Try.sizeOf22, Try.sizeOf28, Try.sizeOf29, Try.sizeOf30, Try.sizeOf4, Try.sizeOf5])
instance : TyS Try.prog 33 1 false := ⟨Try.sizeOf33, Try.isAgg33⟩
instance : TyU Try.prog 33 (Go.TypeDesc.int Go.IntKind.i64) := ⟨Try.underlying33⟩
instance : TyV Try.prog 33 (Go.Value.int Go.IntKind.i64 0) := ⟨Try.zeroValue33⟩
instance : TyC Try.prog 33 [Go.Value.int Go.IntKind.i64 0] := ⟨_, Try.zeroValue33, rfl⟩
instance : TyS Try.prog 34 1 false := ⟨Try.sizeOf34, Try.isAgg34⟩
instance : TyU Try.prog 34 (Go.TypeDesc.tuple #[25, 5, 33]) := ⟨Try.underlying34⟩
instance : TyV Try.prog 34 (Go.Value.tuple [Go.Value.agg #[Go.Value.int Go.IntKind.u64 0, Go.Value.int Go.IntKind.u64 0, Go.Value.int Go.IntKind.i64 0, Go.Value.int Go.IntKind.i64 0, Go.Value.bool false, Go.Value.int Go.IntKind.u8 0, Go.Value.int Go.IntKind.u64 0, Go.Value.bool false, Go.Value.int Go.IntKind.u64 0, Go.Value.bool false, Go.Value.bool false, Go.Value.int Go.IntKind.u32 0], Go.Value.int Go.IntKind.u8 0, Go.Value.int Go.IntKind.i64 0].toArray) := ⟨Try.zeroValue34⟩
instance : TyC Try.prog 34 [Go.Value.tuple #[Go.Value.agg #[Go.Value.int Go.IntKind.u64 0, Go.Value.int Go.IntKind.u64 0, Go.Value.int Go.IntKind.i64 0, Go.Value.int Go.IntKind.i64 0, Go.Value.bool false, Go.Value.int Go.IntKind.u8 0, Go.Value.int Go.IntKind.u64 0, Go.Value.bool false, Go.Value.int Go.IntKind.u64 0, Go.Value.bool false, Go.Value.bool false, Go.Value.int Go.IntKind.u32 0], Go.Value.int Go.IntKind.u8 0, Go.Value.int Go.IntKind.i64 0]] := ⟨_, Try.zeroValue34, rfl⟩
instance : TyS Try.prog 35 1 false := ⟨Try.sizeOf35, Try.isAgg35⟩
instance : TyU Try.prog 35 (Go.TypeDesc.func #[25, 5, 22, 22, 32] #[25, 5, 33] false) := ⟨Try.underlying35⟩
instance : TyV Try.prog 35 Go.Value.nilFunc := ⟨Try.zeroValue35⟩
instance : TyC Try.prog 35 [Go.Value.nilFunc] := ⟨_, Try.zeroValue35, rfl⟩
instance : TyS Try.prog 36 1 false := ⟨Try.sizeOf36, Try.isAgg36⟩
instance : TyU Try.prog 36 (Go.TypeDesc.func #[25, 22, 5, 5, 22] #[4] false) := ⟨Try.underlying36⟩
instance : TyV Try.prog 36 Go.Value.nilFunc := ⟨Try.zeroValue36⟩
instance : TyC Try.prog 36 [Go.Value.nilFunc] := ⟨_, Try.zeroValue36, rfl⟩
instance : TyS Try.prog 37 1 false := ⟨Try.sizeOf37, Try.isAgg37⟩
instance : TyU Try.prog 37 (Go.TypeDesc.slice 40) := ⟨Try.underlying37⟩
instance : TyV Try.prog 37 (Go.Value.slice none 0 0) := ⟨Try.zeroValue37⟩
instance : TyC Try.prog 37 [Go.Value.slice none 0 0] := ⟨_, Try.zeroValue37, rfl⟩
instance : TyAp Try.prog 37 40 3 16 [Go.Value.int Go.IntKind.u8 0, Go.Value.int Go.IntKind.u8 0, Go.Value.int Go.IntKind.u64 0] := ⟨Try.t40, _, Try.underlying37, Try.type40, rfl, rfl, rfl, rfl, rfl, by decide⟩
instance : TyS Try.prog 38 1 false := ⟨Try.sizeOf38, Try.isAgg38⟩
instance : TyU Try.prog 38 (Go.TypeDesc.int Go.IntKind.u16) := ⟨Try.underlying38⟩
instance : TyV Try.prog 38 (Go.Value.int Go.IntKind.u16 0) := ⟨Try.zeroValue38⟩
instance : TyC Try.prog 38 [Go.Value.int Go.IntKind.u16 0] := ⟨_, Try.zeroValue38, rfl⟩
instance : TyS Try.prog 39 3 true := ⟨Try.sizeOf39, Try.isAgg39⟩
instance : TyV Try.prog 39 (Go.Value.agg [Go.Value.int Go.IntKind.u8 0, Go.Value.int Go.IntKind.u8 0, Go.Value.int Go.IntKind.u64 0].toArray) := ⟨Try.zeroValue39⟩
instance : TyC Try.prog 39 [Go.Value.int Go.IntKind.u8 0, Go.Value.int Go.IntKind.u8 0, Go.Value.int Go.IntKind.u64 0] := ⟨_, Try.zeroValue39, rfl⟩
instance : TyF Try.prog 39 0 0 := TyF.mk' Try.underlying39 rfl Try.sizeOf5 rfl
instance : TyF Try.prog 39 1 1 := TyF.mk' Try.underlying39 rfl Try.sizeOf5 rfl
instance : TyF Try.prog 39 2 2 := TyF.mk' Try.underlying39 rfl Try.sizeOf22 rfl
instance : TyB Try.prog 39 [Go.Value.int Go.IntKind.u8 0, Go.Value.int Go.IntKind.u8 0, Go.Value.int Go.IntKind.u64 0] [(0, 1), (1, 1), (2, 1)] := TyB.mk' Try.underlying39 Try.zeroValue39 rfl (by simp [Try.sizeOf22, Try.sizeOf5])
instance : TyS Try.prog 40 3 true := ⟨Try.sizeOf40, Try.isAgg40⟩
instance : TyV Try.prog 40 (Go.Value.agg [Go.Value.int Go.IntKind.u8 0, Go.Value.int Go.IntKind.u8 0, Go.Value.int Go.IntKind.u64 0].toArray) := ⟨Try.zeroValue40⟩
instance : TyC Try.prog 40 [Go.Value.int Go.IntKind.u8 0, Go.Value.int Go.IntKind.u8 0, Go.Value.int Go.IntKind.u64 0] := ⟨_, Try.zeroValue40, rfl⟩
instance : TyF Try.prog 40 0 0 := TyF.mk' Try.underlying40 rfl Try.sizeOf5 rfl
instance : TyF Try.prog 40 1 1 := TyF.mk' Try.underlying40 rfl Try.sizeOf5 rfl
instance : TyF Try.prog 40 2 2 := TyF.mk' Try.underlying40 rfl Try.sizeOf22 rfl
instance : TyB Try.prog 40 [Go.Value.int Go.IntKind.u8 0, Go.Value.int Go.IntKind.u8 0, Go.Value.int Go.IntKind.u64 0] [(0, 1), (1, 1), (2, 1)] := TyB.mk' Try.underlying40 Try.zeroValue40 rfl (by simp [Try.sizeOf22, Try.sizeOf5])
instance : TyS Try.prog 41 1 false := ⟨Try.sizeOf41, Try.isAgg41⟩
instance : TyU Try.prog 41 (Go.TypeDesc.func #[25, 37, 38, 38, 38] #[4] false) := ⟨Try.underlying41⟩
instance : TyV Try.prog 41 Go.Value.nilFunc := ⟨Try.zeroValue41⟩
instance : TyC Try.prog 41 [Go.Value.nilFunc] := ⟨_, Try.zeroValue41, rfl⟩
instance : TyS Try.prog 42 1 false := ⟨Try.sizeOf42, Try.isAgg42⟩
instance : TyU Try.prog 42 (Go.TypeDesc.func #[] #[32] false) := ⟨Try.underlying42⟩
instance : TyV Try.prog 42 Go.Value.nilFunc := ⟨Try.zeroValue42⟩
instance : TyC Try.prog 42 [Go.Value.nilFunc] := ⟨_, Try.zeroValue42, rfl⟩
instance : TyS Try.prog 43 1 false := ⟨Try.sizeOf43, Try.isAgg43⟩
instance : TyU Try.prog 43 (Go.TypeDesc.func #[32] #[4] false) := ⟨Try.underlying43⟩
instance : TyV Try.prog 43 Go.Value.nilFunc := ⟨Try.zeroValue43⟩
instance : TyC Try.prog 43 [Go.Value.nilFunc] := ⟨_, Try.zeroValue43, rfl⟩
instance : TyS Try.prog 44 1 false := ⟨Try.sizeOf44, Try.isAgg44⟩
instance : TyU Try.prog 44 (Go.TypeDesc.func #[25, 5, 22] #[4] false) := ⟨Try.underlying44⟩
instance : TyV Try.prog 44 Go.Value.nilFunc := ⟨Try.zeroValue44⟩
instance : TyC Try.prog 44 [Go.Value.nilFunc] := ⟨_, Try.zeroValue44, rfl⟩
instance : TyS Try.prog 45 4 true := ⟨Try.sizeOf45, Try.isAgg45⟩
instance : TyV Try.prog 45 (Go.Value.agg [Go.Value.int Go.IntKind.u8 0, Go.Value.int Go.IntKind.u64 0, Go.Value.bool false, Go.Value.int Go.IntKind.u8 0].toArray) := ⟨Try.zeroValue45⟩
instance : TyC Try.prog 45 [Go.Value.int Go.IntKind.u8 0, Go.Value.int Go.IntKind.u64 0, Go.Value.bool false, Go.Value.int Go.IntKind.u8 0] := ⟨_, Try.zeroValue45, rfl⟩
instance : TyF Try.prog 45 0 0 := TyF.mk' Try.underlying45 rfl Try.sizeOf5 rfl
instance : TyF Try.prog 45 1 1 := TyF.mk' Try.underlying45 rfl Try.sizeOf22 rfl
instance : TyF Try.prog 45 2 2 := TyF.mk' Try.underlying45 rfl Try.sizeOf4 rfl
instance : TyF Try.prog 45 3 3 := TyF.mk' Try.underlying45 rfl Try.sizeOf5 rfl
instance : TyB Try.prog 45 [Go.Value.int Go.IntKind.u8 0, Go.Value.int Go.IntKind.u64 0, Go.Value.bool false, Go.Value.int Go.IntKind.u8 0] [(0, 1), (1, 1), (2, 1), (3, 1)] := TyB.mk' Try.underlying45 Try.zeroValue45 rfl (by simp [Try.sizeOf22, Try.sizeOf4, Try.sizeOf5])
instance : TyS Try.prog 46 4 true := ⟨Try.sizeOf46, Try.isAgg46⟩
instance : TyV Try.prog 46 (Go.Value.agg [Go.Value.int Go.IntKind.u8 0, Go.Value.int Go.IntKind.u64 0, Go.Value.bool false, Go.Value.int Go.IntKind.u8 0].toArray) := ⟨Try.zeroValue46⟩
instance : TyC Try.prog 46 [Go.Value.int Go.IntKind.u8 0, Go.Value.int Go.IntKind.u64 0, Go.Value.bool false, Go.Value.int Go.IntKind.u8 0] := ⟨_, Try.zeroValue46, rfl⟩
instance : TyF Try.prog 46 0 0 := TyF.mk' Try.underlying46 rfl Try.sizeOf5 rfl
instance : TyF Try.prog 46 1 1 := TyF.mk' Try.underlying46 rfl Try.sizeOf22 rfl
instance : TyF Try.prog 46 2 2 := TyF.mk' Try.underlying46 rfl Try.sizeOf4 rfl
instance : TyF Try.prog 46 3 3 := TyF.mk' Try.underlying46 rfl Try.sizeOf5 rfl
instance : TyB Try.prog 46 [Go.Value.int Go.IntKind.u8 0, Go.Value.int Go.IntKind.u64 0, Go.Value.bool false, Go.Value.int Go.IntKind.u8 0] [(0, 1), (1, 1), (2, 1), (3, 1)] := TyB.mk' Try.underlying46 Try.zeroValue46 rfl (by simp [Try.sizeOf22, Try.sizeOf4, Try.sizeOf5])
instance : TyS Try.prog 47 1 false := ⟨Try.sizeOf47, Try.isAgg47⟩
instance : TyU Try.prog 47 (Go.TypeDesc.tuple #[46, 4]) := ⟨Try.underlying47⟩
instance : TyV Try.prog 47 (Go.Value.tuple [Go.Value.agg #[Go.Value.int Go.IntKind.u8 0, Go.Value.int Go.IntKind.u64 0, Go.Value.bool false, Go.Value.int Go.IntKind.u8 0], Go.Value.bool false].toArray) := ⟨Try.zeroValue47⟩
instance : TyC Try.prog 47 [Go.Value.tuple #[Go.Value.agg #[Go.Value.int Go.IntKind.u8 0, Go.Value.int Go.IntKind.u64 0, Go.Value.bool false, Go.Value.int Go.IntKind.u8 0], Go.Value.bool false]] := ⟨_, Try.zeroValue47, rfl⟩
instance : TyS Try.prog 48 1 false := ⟨Try.sizeOf48, Try.isAgg48⟩
instance : TyU Try.prog 48 (Go.TypeDesc.func #[25, 5, 32] #[46, 4] false) := ⟨Try.underlying48⟩
instance : TyV Try.prog 48 Go.Value.nilFunc := ⟨Try.zeroValue48⟩
instance : TyC Try.prog 48 [Go.Value.nilFunc] := ⟨_, Try.zeroValue48, rfl⟩
instance : TyS Try.prog 49 1 false := ⟨Try.sizeOf49, Try.isAgg49⟩
instance : TyU Try.prog 49 (Go.TypeDesc.map 51 46) := ⟨Try.underlying49⟩
instance : TyV Try.prog 49 (Go.Value.map none) := ⟨Try.zeroValue49⟩
instance : TyC Try.prog 49 [Go.Value.map none] := ⟨_, Try.zeroValue49, rfl⟩
instance : TyS Try.prog 50 1 false := ⟨Try.sizeOf50, Try.isAgg50⟩
instance : TyU Try.prog 50 (Go.TypeDesc.func #[32] #[49] false) := ⟨Try.underlying50⟩
instance : TyV Try.prog 50 Go.Value.nilFunc := ⟨Try.zeroValue50⟩
instance : TyC Try.prog 50 [Go.Value.nilFunc] := ⟨_, Try.zeroValue50, rfl⟩
instance : TyS Try.prog 51 2 true := ⟨Try.sizeOf51, Try.isAgg51⟩
instance : TyU Try.prog 51 (Go.TypeDesc.array 2 5) := ⟨Try.underlying51⟩
instance : TyV Try.prog 51 (Go.Value.agg [Go.Value.int Go.IntKind.u8 0, Go.Value.int Go.IntKind.u8 0].toArray) := ⟨Try.zeroValue51⟩
instance : TyC Try.prog 51 [Go.Value.int Go.IntKind.u8 0, Go.Value.int Go.IntKind.u8 0] := ⟨_, Try.zeroValue51, rfl⟩
instance : TyB Try.prog 51 [Go.Value.int Go.IntKind.u8 0, Go.Value.int Go.IntKind.u8 0] [(0, 1), (1, 1)] := TyB.mkA Try.underlying51 Try.zeroValue51 rfl Try.sizeOf5 rfl
instance : TyS Try.prog 52 1 false := ⟨Try.sizeOf52, Try.isAgg52⟩
instance : TyU Try.prog 52 (Go.TypeDesc.func #[] #[46] false) := ⟨Try.underlying52⟩
instance : TyV Try.prog 52 Go.Value.nilFunc := ⟨Try.zeroValue52⟩
instance : TyC Try.prog 52 [Go.Value.nilFunc] := ⟨_, Try.zeroValue52, rfl⟩
instance : TyS Try.prog 53 1 false := ⟨Try.sizeOf53, Try.isAgg53⟩
instance : TyU Try.prog 53 (Go.TypeDesc.func #[32] #[46] false) := ⟨Try.underlying53⟩
instance : TyV Try.prog 53 Go.Value.nilFunc := ⟨Try.zeroValue53⟩
instance : TyC Try.prog 53 [Go.Value.nilFunc] := ⟨_, Try.zeroValue53, rfl⟩
instance : TyS Try.prog 54 1 false := ⟨Try.sizeOf54, Try.isAgg54⟩
instance : TyU Try.prog 54 (Go.TypeDesc.func #[] #[9] false) := ⟨Try.underlying54⟩
instance : TyV Try.prog 54 Go.Value.nilFunc := ⟨Try.zeroValue54⟩
instance : TyC Try.prog 54 [Go.Value.nilFunc] := ⟨_, Try.zeroValue54, rfl⟩
instance : TyS Try.prog 55 4 true := ⟨Try.sizeOf55, Try.isAgg55⟩
instance : TyV Try.prog 55 (Go.Value.agg [Go.Value.pointer none, Go.Value.pointer none, Go.Value.pointer none, Go.Value.string { data := #[] }].toArray) := ⟨Try.zeroValue55⟩
instance : TyC Try.prog 55 [Go.Value.pointer none, Go.Value.pointer none, Go.Value.pointer none, Go.Value.string { data := #[] }] := ⟨_, Try.zeroValue55, rfl⟩
instance : TyF Try.prog 55 0 0 := TyF.mk' Try.underlying55 rfl Try.sizeOf17 rfl
instance : TyF Try.prog 55 1 1 := TyF.mk' Try.underlying55 rfl Try.sizeOf17 rfl
instance : TyF Try.prog 55 2 2 := TyF.mk' Try.underlying55 rfl Try.sizeOf17 rfl
instance : TyF Try.prog 55 3 3 := TyF.mk' Try.underlying55 rfl Try.sizeOf9 rfl
instance : TyB Try.prog 55 [Go.Value.pointer none, Go.Value.pointer none, Go.Value.pointer none, Go.Value.string { data := #[] }] [(0, 1), (1, 1), (2, 1), (3, 1)] := TyB.mk' Try.underlying55 Try.zeroValue55 rfl (by simp [Try.sizeOf17, Try.sizeOf9])
instance : TyS Try.prog 56 4 true := ⟨Try.sizeOf56, Try.isAgg56⟩
instance : TyV Try.prog 56 (Go.Value.agg [Go.Value.pointer none, Go.Value.pointer none, Go.Value.pointer none, Go.Value.string { data := #[] }].toArray) := ⟨Try.zeroValue56⟩
instance : TyC Try.prog 56 [Go.Value.pointer none, Go.Value.pointer none, Go.Value.pointer none, Go.Value.string { data := #[] }] := ⟨_, Try.zeroValue56, rfl⟩
instance : TyF Try.prog 56 0 0 := TyF.mk' Try.underlying56 rfl Try.sizeOf17 rfl
instance : TyF Try.prog 56 1 1 := TyF.mk' Try.underlying56 rfl Try.sizeOf17 rfl
instance : TyF Try.prog 56 2 2 := TyF.mk' Try.underlying56 rfl Try.sizeOf17 rfl
instance : TyF Try.prog 56 3 3 := TyF.mk' Try.underlying56 rfl Try.sizeOf9 rfl
instance : TyB Try.prog 56 [Go.Value.pointer none, Go.Value.pointer none, Go.Value.pointer none, Go.Value.string { data := #[] }] [(0, 1), (1, 1), (2, 1), (3, 1)] := TyB.mk' Try.underlying56 Try.zeroValue56 rfl (by simp [Try.sizeOf17, Try.sizeOf9])
instance : TyS Try.prog 57 0 true := ⟨Try.sizeOf57, Try.isAgg57⟩
instance : TyU Try.prog 57 (Go.TypeDesc.array 0 16) := ⟨Try.underlying57⟩
instance : TyV Try.prog 57 (Go.Value.agg [].toArray) := ⟨Try.zeroValue57⟩
instance : TyC Try.prog 57 [] := ⟨_, Try.zeroValue57, rfl⟩
instance : TyB Try.prog 57 [] [] := TyB.mkA Try.underlying57 Try.zeroValue57 rfl Try.sizeOf16 rfl
instance : TyS Try.prog 58 0 true := ⟨Try.sizeOf58, Try.isAgg58⟩
instance : TyV Try.prog 58 (Go.Value.agg [].toArray) := ⟨Try.zeroValue58⟩
instance : TyC Try.prog 58 [] := ⟨_, Try.zeroValue58, rfl⟩
instance : TyB Try.prog 58 [] [(0, 0)] := TyB.mk' Try.underlying58 Try.zeroValue58 rfl (by simp [Try.sizeOf57])
instance : TyS Try.prog 59 0 true := ⟨Try.sizeOf59, Try.isAgg59⟩
instance : TyV Try.prog 59 (Go.Value.agg [].toArray) := ⟨Try.zeroValue59⟩
instance : TyC Try.prog 59 [] := ⟨_, Try.zeroValue59, rfl⟩
instance : TyB Try.prog 59 [] [(0, 0)] := TyB.mk' Try.underlying59 Try.zeroValue59 rfl (by simp [Try.sizeOf57])
instance : TyS Try.prog 60 1 false := ⟨Try.sizeOf60, Try.isAgg60⟩
instance : TyU Try.prog 60 (Go.TypeDesc.func #[] #[3] false) := ⟨Try.underlying60⟩
instance : TyV Try.prog 60 Go.Value.nilFunc := ⟨Try.zeroValue60⟩
instance : TyC Try.prog 60 [Go.Value.nilFunc] := ⟨_, Try.zeroValue60, rfl⟩
instance : TyS Try.prog 61 1 false := ⟨Try.sizeOf61, Try.isAgg61⟩
instance : TyU Try.prog 61 (Go.TypeDesc.int Go.IntKind.u8) := ⟨Try.underlying61⟩
instance : TyV Try.prog 61 (Go.Value.int Go.IntKind.u8 0) := ⟨Try.zeroValue61⟩
instance : TyC Try.prog 61 [Go.Value.int Go.IntKind.u8 0] := ⟨_, Try.zeroValue61, rfl⟩
instance : TyS Try.prog 62 1 false := ⟨Try.sizeOf62, Try.isAgg62⟩
instance : TyU Try.prog 62 (Go.TypeDesc.int Go.IntKind.u8) := ⟨Try.underlying62⟩
instance : TyV Try.prog 62 (Go.Value.int Go.IntKind.u8 0) := ⟨Try.zeroValue62⟩
instance : TyC Try.prog 62 [Go.Value.int Go.IntKind.u8 0] := ⟨_, Try.zeroValue62, rfl⟩
instance : TyS Try.prog 63 1 false := ⟨Try.sizeOf63, Try.isAgg63⟩
instance : TyU Try.prog 63 (Go.TypeDesc.func #[75, 75] #[4] false) := ⟨Try.underlying63⟩
instance : TyV Try.prog 63 Go.Value.nilFunc := ⟨Try.zeroValue63⟩
instance : TyC Try.prog 63 [Go.Value.nilFunc] := ⟨_, Try.zeroValue63, rfl⟩
instance : TyS Try.prog 64 1 false := ⟨Try.sizeOf64, Try.isAgg64⟩
instance : TyU Try.prog 64 (Go.TypeDesc.pointer 5) := ⟨Try.underlying64⟩
instance : TyV Try.prog 64 (Go.Value.pointer none) := ⟨Try.zeroValue64⟩
instance : TyC Try.prog 64 [Go.Value.pointer none] := ⟨_, Try.zeroValue64, rfl⟩
instance : TyS Try.prog 65 1 false := ⟨Try.sizeOf65, Try.isAgg65⟩
instance : TyU Try.prog 65 (Go.TypeDesc.int Go.IntKind.i32) := ⟨Try.underlying65⟩
instance : TyV Try.prog 65 (Go.Value.int Go.IntKind.i32 0) := ⟨Try.zeroValue65⟩
instance : TyC Try.prog 65 [Go.Value.int Go.IntKind.i32 0] := ⟨_, Try.zeroValue65, rfl⟩
instance : TyS Try.prog 66 1 false := ⟨Try.sizeOf66, Try.isAgg66⟩
instance : TyU Try.prog 66 (Go.TypeDesc.int Go.IntKind.i32) := ⟨Try.underlying66⟩
instance : TyV Try.prog 66 (Go.Value.int Go.IntKind.i32 0) := ⟨Try.zeroValue66⟩
instance : TyC Try.prog 66 [Go.Value.int Go.IntKind.i32 0] := ⟨_, Try.zeroValue66, rfl⟩
instance : TyS Try.prog 67 11 true := ⟨Try.sizeOf67, Try.isAgg67⟩
instance : TyV Try.prog 67 (Go.Value.agg [Go.Value.int Go.IntKind.u64 0, Go.Value.int Go.IntKind.u64 0, Go.Value.int Go.IntKind.u32 0, Go.Value.int Go.IntKind.u8 0, Go.Value.int Go.IntKind.u8 0, Go.Value.int Go.IntKind.u8 0, Go.Value.int Go.IntKind.u8 0, Go.Value.nilFunc, Go.Value.pointer none, Go.Value.int Go.IntKind.i32 0, Go.Value.int Go.IntKind.i32 0].toArray) := ⟨Try.zeroValue67⟩
instance : TyC Try.prog 67 [Go.Value.int Go.IntKind.u64 0, Go.Value.int Go.IntKind.u64 0, Go.Value.int Go.IntKind.u32 0, Go.Value.int Go.IntKind.u8 0, Go.Value.int Go.IntKind.u8 0, Go.Value.int Go.IntKind.u8 0, Go.Value.int Go.IntKind.u8 0, Go.Value.nilFunc, Go.Value.pointer none, Go.Value.int Go.IntKind.i32 0, Go.Value.int Go.IntKind.i32 0] := ⟨_, Try.zeroValue67, rfl⟩
instance : TyF Try.prog 67 0 0 := TyF.mk' Try.underlying67 rfl Try.sizeOf12 rfl
instance : TyF Try.prog 67 1 1 := TyF.mk' Try.underlying67 rfl Try.sizeOf12 rfl
instance : TyF Try.prog 67 2 2 := TyF.mk' Try.underlying67 rfl Try.sizeOf23 rfl
instance : TyF Try.prog 67 3 3 := TyF.mk' Try.underlying67 rfl Try.sizeOf61 rfl
instance : TyF Try.prog 67 4 4 := TyF.mk' Try.underlying67 rfl Try.sizeOf5 rfl
instance : TyF Try.prog 67 5 5 := TyF.mk' Try.underlying67 rfl Try.sizeOf5 rfl
instance : TyF Try.prog 67 6 6 := TyF.mk' Try.underlying67 rfl Try.sizeOf62 rfl
instance : TyF Try.prog 67 7 7 := TyF.mk' Try.underlying67 rfl Try.sizeOf63 rfl
instance : TyF Try.prog 67 8 8 := TyF.mk' Try.underlying67 rfl Try.sizeOf64 rfl
instance : TyF Try.prog 67 9 9 := TyF.mk' Try.underlying67 rfl Try.sizeOf65 rfl
instance : TyF Try.prog 67 10 10 := TyF.mk' Try.underlying67 rfl Try.sizeOf66 rfl
instance : TyB Try.prog 67 [Go.Value.int Go.IntKind.u64 0, Go.Value.int Go.IntKind.u64 0, Go.Value.int Go.IntKind.u32 0, Go.Value.int Go.IntKind.u8 0, Go.Value.int Go.IntKind.u8 0, Go.Value.int Go.IntKind.u8 0, Go.Value.int Go.IntKind.u8 0, Go.Value.nilFunc, Go.Value.pointer none, Go.Value.int Go.IntKind.i32 0, Go.Value.int Go.IntKind.i32 0] [(0, 1), (1, 1), (2, 1), (3, 1), (4, 1), (5, 1), (6, 1), (7, 1), (8, 1), (9, 1), (10, 1)] := TyB.mk' Try.underlying67 Try.zeroValue67 rfl (by simp [Try.sizeOf12, Try.sizeOf23, Try.sizeOf5, Try.sizeOf61, Try.sizeOf62, Try.sizeOf63, Try.sizeOf64, Try.sizeOf65, Try.sizeOf66])
instance : TyS Try.prog 68 11 true := ⟨Try.sizeOf68, Try.isAgg68⟩
instance : TyV Try.prog 68 (Go.Value.agg [Go.Value.int Go.IntKind.u64 0, Go.Value.int Go.IntKind.u64 0, Go.Value.int Go.IntKind.u32 0, Go.Value.int Go.IntKind.u8 0, Go.Value.int Go.IntKind.u8 0, Go.Value.int Go.IntKind.u8 0, Go.Value.int Go.IntKind.u8 0, Go.Value.nilFunc, Go.Value.pointer none, Go.Value.int Go.IntKind.i32 0, Go.Value.int Go.IntKind.i32 0].toArray) := ⟨Try.zeroValue68⟩
instance : TyC Try.prog 68 [Go.Value.int Go.IntKind.u64 0, Go.Value.int Go.IntKind.u64 0, Go.Value.int Go.IntKind.u32 0, Go.Value.int Go.IntKind.u8 0, Go.Value.int Go.IntKind.u8 0, Go.Value.int Go.IntKind.u8 0, Go.Value.int Go.IntKind.u8 0, Go.Value.nilFunc, Go.Value.pointer none, Go.Value.int Go.IntKind.i32 0, Go.Value.int Go.IntKind.i32 0] := ⟨_, Try.zeroValue68, rfl⟩
instance : TyF Try.prog 68 0 0 := TyF.mk' Try.underlying68 rfl Try.sizeOf12 rfl
instance : TyF Try.prog 68 1 1 := TyF.mk' Try.underlying68 rfl Try.sizeOf12 rfl
instance : TyF Try.prog 68 2 2 := TyF.mk' Try.underlying68 rfl Try.sizeOf23 rfl
instance : TyF Try.prog 68 3 3 := TyF.mk' Try.underlying68 rfl Try.sizeOf61 rfl
instance : TyF Try.prog 68 4 4 := TyF.mk' Try.underlying68 rfl Try.sizeOf5 rfl
instance : TyF Try.prog 68 5 5 := TyF.mk' Try.underlying68 rfl Try.sizeOf5 rfl
instance : TyF Try.prog 68 6 6 := TyF.mk' Try.underlying68 rfl Try.sizeOf62 rfl
instance : TyF Try.prog 68 7 7 := TyF.mk' Try.underlying68 rfl Try.sizeOf63 rfl
instance : TyF Try.prog 68 8 8 := TyF.mk' Try.underlying68 rfl Try.sizeOf64 rfl
instance : TyF Try.prog 68 9 9 := TyF.mk' Try.underlying68 rfl Try.sizeOf65 rfl
instance : TyF Try.prog 68 10 10 := TyF.mk' Try.underlying68 rfl Try.sizeOf66 rfl
instance : TyB Try.prog 68 [Go.Value.int Go.IntKind.u64 0, Go.Value.int Go.IntKind.u64 0, Go.Value.int Go.IntKind.u32 0, Go.Value.int Go.IntKind.u8 0, Go.Value.int Go.IntKind.u8 0, Go.Value.int Go.IntKind.u8 0, Go.Value.int Go.IntKind.u8 0, Go.Value.nilFunc, Go.Value.pointer none, Go.Value.int Go.IntKind.i32 0, Go.Value.int Go.IntKind.i32 0] [(0, 1), (1, 1), (2, 1), (3, 1), (4, 1), (5, 1), (6, 1), (7, 1), (8, 1), (9, 1), (10, 1)] := TyB.mk' Try.underlying68 Try.zeroValue68 rfl (by simp [Try.sizeOf12, Try.sizeOf23, Try.sizeOf5, Try.sizeOf61, Try.sizeOf62, Try.sizeOf63, Try.sizeOf64, Try.sizeOf65, Try.sizeOf66])
instance : TyS Try.prog 69 4 true := ⟨Try.sizeOf69, Try.isAgg69⟩
instance : TyV Try.prog 69 (Go.Value.agg [Go.Value.string { data := #[] }, Go.Value.bool false, Go.Value.int Go.IntKind.i64 0, Go.Value.int Go.IntKind.i64 0].toArray) := ⟨Try.zeroValue69⟩
instance : TyC Try.prog 69 [Go.Value.string { data := #[] }, Go.Value.bool false, Go.Value.int Go.IntKind.i64 0, Go.Value.int Go.IntKind.i64 0] := ⟨_, Try.zeroValue69, rfl⟩
instance : TyF Try.prog 69 0 0 := TyF.mk' Try.underlying69 rfl Try.sizeOf9 rfl
instance : TyF Try.prog 69 1 1 := TyF.mk' Try.underlying69 rfl Try.sizeOf4 rfl
instance : TyF Try.prog 69 2 2 := TyF.mk' Try.underlying69 rfl Try.sizeOf2 rfl
instance : TyF Try.prog 69 3 3 := TyF.mk' Try.underlying69 rfl Try.sizeOf2 rfl
instance : TyB Try.prog 69 [Go.Value.string { data := #[] }, Go.Value.bool false, Go.Value.int Go.IntKind.i64 0, Go.Value.int Go.IntKind.i64 0] [(0, 1), (1, 1), (2, 1), (3, 1)] := TyB.mk' Try.underlying69 Try.zeroValue69 rfl (by simp [Try.sizeOf2, Try.sizeOf4, Try.sizeOf9])
instance : TyS Try.prog 70 4 true := ⟨Try.sizeOf70, Try.isAgg70⟩
instance : TyV Try.prog 70 (Go.Value.agg [Go.Value.string { data := #[] }, Go.Value.bool false, Go.Value.int Go.IntKind.i64 0, Go.Value.int Go.IntKind.i64 0].toArray) := ⟨Try.zeroValue70⟩
instance : TyC Try.prog 70 [Go.Value.string { data := #[] }, Go.Value.bool false, Go.Value.int Go.IntKind.i64 0, Go.Value.int Go.IntKind.i64 0] := ⟨_, Try.zeroValue70, rfl⟩
instance : TyF Try.prog 70 0 0 := TyF.mk' Try.underlying70 rfl Try.sizeOf9 rfl
instance : TyF Try.prog 70 1 1 := TyF.mk' Try.underlying70 rfl Try.sizeOf4 rfl
instance : TyF Try.prog 70 2 2 := TyF.mk' Try.underlying70 rfl Try.sizeOf2 rfl
instance : TyF Try.prog 70 3 3 := TyF.mk' Try.underlying70 rfl Try.sizeOf2 rfl
instance : TyB Try.prog 70 [Go.Value.string { data := #[] }, Go.Value.bool false, Go.Value.int Go.IntKind.i64 0, Go.Value.int Go.IntKind.i64 0] [(0, 1), (1, 1), (2, 1), (3, 1)] := TyB.mk' Try.underlying70 Try.zeroValue70 rfl (by simp [Try.sizeOf2, Try.sizeOf4, Try.sizeOf9])
instance : TyS Try.prog 71 2 true := ⟨Try.sizeOf71, Try.isAgg71⟩
instance : TyV Try.prog 71 (Go.Value.agg [Go.Value.int Go.IntKind.i64 0, Go.Value.int Go.IntKind.i64 0].toArray) := ⟨Try.zeroValue71⟩
instance : TyC Try.prog 71 [Go.Value.int Go.IntKind.i64 0, Go.Value.int Go.IntKind.i64 0] := ⟨_, Try.zeroValue71, rfl⟩
instance : TyF Try.prog 71 0 0 := TyF.mk' Try.underlying71 rfl Try.sizeOf2 rfl
instance : TyF Try.prog 71 1 1 := TyF.mk' Try.underlying71 rfl Try.sizeOf2 rfl
instance : TyB Try.prog 71 [Go.Value.int Go.IntKind.i64 0, Go.Value.int Go.IntKind.i64 0] [(0, 1), (1, 1)] := TyB.mk' Try.underlying71 Try.zeroValue71 rfl (by simp [Try.sizeOf2])
instance : TyS Try.prog 72 2 true := ⟨Try.sizeOf72, Try.isAgg72⟩
instance : TyV Try.prog 72 (Go.Value.agg [Go.Value.int Go.IntKind.i64 0, Go.Value.int Go.IntKind.i64 0].toArray) := ⟨Try.zeroValue72⟩
instance : TyC Try.prog 72 [Go.Value.int Go.IntKind.i64 0, Go.Value.int Go.IntKind.i64 0] := ⟨_, Try.zeroValue72, rfl⟩
instance : TyF Try.prog 72 0 0 := TyF.mk' Try.underlying72 rfl Try.sizeOf2 rfl
instance : TyF Try.prog 72 1 1 := TyF.mk' Try.underlying72 rfl Try.sizeOf2 rfl
instance : TyB Try.prog 72 [Go.Value.int Go.IntKind.i64 0, Go.Value.int Go.IntKind.i64 0] [(0, 1), (1, 1)] := TyB.mk' Try.underlying72 Try.zeroValue72 rfl (by simp [Try.sizeOf2])
instance : TyS Try.prog 73 3 true := ⟨Try.sizeOf73, Try.isAgg73⟩
instance : TyV Try.prog 73 (Go.Value.agg [Go.Value.int Go.IntKind.u64 0, Go.Value.int Go.IntKind.u64 0, Go.Value.int Go.IntKind.i64 0].toArray) := ⟨Try.zeroValue73⟩
instance : TyC Try.prog 73 [Go.Value.int Go.IntKind.u64 0, Go.Value.int Go.IntKind.u64 0, Go.Value.int Go.IntKind.i64 0] := ⟨_, Try.zeroValue73, rfl⟩
instance : TyF Try.prog 73 0 0 := TyF.mk' Try.underlying73 rfl Try.sizeOf22 rfl
instance : TyF Try.prog 73 1 1 := TyF.mk' Try.underlying73 rfl Try.sizeOf22 rfl
instance : TyF Try.prog 73 2 2 := TyF.mk' Try.underlying73 rfl Try.sizeOf2 rfl
instance : TyB Try.prog 73 [Go.Value.int Go.IntKind.u64 0, Go.Value.int Go.IntKind.u64 0, Go.Value.int Go.IntKind.i64 0] [(0, 1), (1, 1), (2, 1)] := TyB.mk' Try.underlying73 Try.zeroValue73 rfl (by simp [Try.sizeOf2, Try.sizeOf22])
instance : TyS Try.prog 74 3 true := ⟨Try.sizeOf74, Try.isAgg74⟩
instance : TyV Try.prog 74 (Go.Value.agg [Go.Value.int Go.IntKind.u64 0, Go.Value.int Go.IntKind.u64 0, Go.Value.int Go.IntKind.i64 0].toArray) := ⟨Try.zeroValue74⟩
instance : TyC Try.prog 74 [Go.Value.int Go.IntKind.u64 0, Go.Value.int Go.IntKind.u64 0, Go.Value.int Go.IntKind.i64 0] := ⟨_, Try.zeroValue74, rfl⟩
instance : TyF Try.prog 74 0 0 := TyF.mk' Try.underlying74 rfl Try.sizeOf22 rfl
instance : TyF Try.prog 74 1 1 := TyF.mk' Try.underlying74 rfl Try.sizeOf22 rfl
instance : TyF Try.prog 74 2 2 := TyF.mk' Try.underlying74 rfl Try.sizeOf2 rfl
instance : TyB Try.prog 74 [Go.Value.int Go.IntKind.u64 0, Go.Value.int Go.IntKind.u64 0, Go.Value.int Go.IntKind.i64 0] [(0, 1), (1, 1), (2, 1)] := TyB.mk' Try.underlying74 Try.zeroValue74 rfl (by simp [Try.sizeOf2, Try.sizeOf22])
instance : TyS Try.prog 75 1 false := ⟨Try.sizeOf75, Try.isAgg75⟩
instance : TyU Try.prog 75 (Go.TypeDesc.unsafePointer) := ⟨Try.underlying75⟩
instance : TyV Try.prog 75 (Go.Value.pointer none) := ⟨Try.zeroValue75⟩
instance : TyC Try.prog 75 [Go.Value.pointer none] := ⟨_, Try.zeroValue75, rfl⟩
instance : TyQ Try.prog 7 [{ name := "x", type := 2, offset := 0, embedded := false, tag := "", pkgPath := "runtime", byteOffset := 0 }, { name := "y", type := 3, offset := 1, embedded := false, tag := "", pkgPath := "runtime", byteOffset := 8 }, { name := "signed", type := 4, offset := 2, embedded := false, tag := "", pkgPath := "runtime", byteOffset := 16 }, { name := "code", type := 6, offset := 3, embedded := false, tag := "", pkgPath := "runtime", byteOffset := 17 }] := ⟨Try.underlying7, Try.stoodInHeld7, Try.eqGuardType7⟩
instance : TyQ Try.prog 8 [{ name := "x", type := 2, offset := 0, embedded := false, tag := "", pkgPath := "runtime", byteOffset := 0 }, { name := "y", type := 3, offset := 1, embedded := false, tag := "", pkgPath := "runtime", byteOffset := 8 }, { name := "signed", type := 4, offset := 2, embedded := false, tag := "", pkgPath := "runtime", byteOffset := 16 }, { name := "code", type := 6, offset := 3, embedded := false, tag := "", pkgPath := "runtime", byteOffset := 17 }] := ⟨Try.underlying8, Try.stoodInHeld8, Try.eqGuardType8⟩
instance : TyQ Try.prog 24 [{ name := "Id", type := 22, offset := 0, embedded := false, tag := "", pkgPath := "", byteOffset := 0 }, { name := "Token", type := 22, offset := 1, embedded := false, tag := "", pkgPath := "", byteOffset := 8 }, { name := "Pool", type := 3, offset := 2, embedded := false, tag := "", pkgPath := "", byteOffset := 16 }, { name := "Weight", type := 2, offset := 3, embedded := false, tag := "", pkgPath := "", byteOffset := 24 }, { name := "Spot", type := 4, offset := 4, embedded := false, tag := "", pkgPath := "", byteOffset := 32 }, { name := "State", type := 5, offset := 5, embedded := false, tag := "", pkgPath := "", byteOffset := 33 }, { name := "Due", type := 22, offset := 6, embedded := false, tag := "", pkgPath := "", byteOffset := 40 }, { name := "Noticed", type := 4, offset := 7, embedded := false, tag := "", pkgPath := "", byteOffset := 48 }, { name := "Kill", type := 22, offset := 8, embedded := false, tag := "", pkgPath := "", byteOffset := 56 }, { name := "Risk", type := 4, offset := 9, embedded := false, tag := "", pkgPath := "", byteOffset := 64 }, { name := "Held", type := 4, offset := 10, embedded := false, tag := "", pkgPath := "", byteOffset := 65 }, { name := "Version", type := 23, offset := 11, embedded := false, tag := "", pkgPath := "", byteOffset := 68 }] := ⟨Try.underlying24, Try.stoodInHeld24, Try.eqGuardType24⟩
instance : TyQ Try.prog 25 [{ name := "Id", type := 22, offset := 0, embedded := false, tag := "", pkgPath := "", byteOffset := 0 }, { name := "Token", type := 22, offset := 1, embedded := false, tag := "", pkgPath := "", byteOffset := 8 }, { name := "Pool", type := 3, offset := 2, embedded := false, tag := "", pkgPath := "", byteOffset := 16 }, { name := "Weight", type := 2, offset := 3, embedded := false, tag := "", pkgPath := "", byteOffset := 24 }, { name := "Spot", type := 4, offset := 4, embedded := false, tag := "", pkgPath := "", byteOffset := 32 }, { name := "State", type := 5, offset := 5, embedded := false, tag := "", pkgPath := "", byteOffset := 33 }, { name := "Due", type := 22, offset := 6, embedded := false, tag := "", pkgPath := "", byteOffset := 40 }, { name := "Noticed", type := 4, offset := 7, embedded := false, tag := "", pkgPath := "", byteOffset := 48 }, { name := "Kill", type := 22, offset := 8, embedded := false, tag := "", pkgPath := "", byteOffset := 56 }, { name := "Risk", type := 4, offset := 9, embedded := false, tag := "", pkgPath := "", byteOffset := 64 }, { name := "Held", type := 4, offset := 10, embedded := false, tag := "", pkgPath := "", byteOffset := 65 }, { name := "Version", type := 23, offset := 11, embedded := false, tag := "", pkgPath := "", byteOffset := 68 }] := ⟨Try.underlying25, Try.stoodInHeld25, Try.eqGuardType25⟩
instance : TyQ Try.prog 31 [{ name := "Pools", type := 28, offset := 0, embedded := false, tag := "", pkgPath := "", byteOffset := 0 }, { name := "Strategy", type := 5, offset := 1, embedded := false, tag := "", pkgPath := "", byteOffset := 24 }, { name := "Spread", type := 2, offset := 2, embedded := false, tag := "", pkgPath := "", byteOffset := 32 }, { name := "Fallback", type := 4, offset := 3, embedded := false, tag := "", pkgPath := "", byteOffset := 40 }, { name := "Min", type := 2, offset := 4, embedded := false, tag := "", pkgPath := "", byteOffset := 48 }, { name := "Max", type := 2, offset := 5, embedded := false, tag := "", pkgPath := "", byteOffset := 56 }, { name := "Base", type := 2, offset := 6, embedded := false, tag := "", pkgPath := "", byteOffset := 64 }, { name := "Percent", type := 2, offset := 7, embedded := false, tag := "", pkgPath := "", byteOffset := 72 }, { name := "Surge", type := 2, offset := 8, embedded := false, tag := "", pkgPath := "", byteOffset := 80 }, { name := "Warm", type := 2, offset := 9, embedded := false, tag := "", pkgPath := "", byteOffset := 88 }, { name := "Drain", type := 22, offset := 10, embedded := false, tag := "", pkgPath := "", byteOffset := 96 }, { name := "HookIn", type := 22, offset := 11, embedded := false, tag := "", pkgPath := "", byteOffset := 104 }, { name := "HookOut", type := 22, offset := 12, embedded := false, tag := "", pkgPath := "", byteOffset := 112 }, { name := "Black", type := 22, offset := 13, embedded := false, tag := "", pkgPath := "", byteOffset := 120 }, { name := "Deadline", type := 22, offset := 14, embedded := false, tag := "", pkgPath := "", byteOffset := 128 }, { name := "Cool", type := 22, offset := 15, embedded := false, tag := "", pkgPath := "", byteOffset := 136 }, { name := "Replace", type := 4, offset := 16, embedded := false, tag := "", pkgPath := "", byteOffset := 144 }, { name := "Target", type := 2, offset := 17, embedded := false, tag := "", pkgPath := "", byteOffset := 152 }, { name := "Bands", type := 29, offset := 18, embedded := false, tag := "", pkgPath := "", byteOffset := 160 }, { name := "Plans", type := 30, offset := 19, embedded := false, tag := "", pkgPath := "", byteOffset := 184 }] := ⟨Try.underlying31, Try.stoodInHeld31, Try.eqGuardType31⟩
instance : TyQ Try.prog 32 [{ name := "Pools", type := 28, offset := 0, embedded := false, tag := "", pkgPath := "", byteOffset := 0 }, { name := "Strategy", type := 5, offset := 1, embedded := false, tag := "", pkgPath := "", byteOffset := 24 }, { name := "Spread", type := 2, offset := 2, embedded := false, tag := "", pkgPath := "", byteOffset := 32 }, { name := "Fallback", type := 4, offset := 3, embedded := false, tag := "", pkgPath := "", byteOffset := 40 }, { name := "Min", type := 2, offset := 4, embedded := false, tag := "", pkgPath := "", byteOffset := 48 }, { name := "Max", type := 2, offset := 5, embedded := false, tag := "", pkgPath := "", byteOffset := 56 }, { name := "Base", type := 2, offset := 6, embedded := false, tag := "", pkgPath := "", byteOffset := 64 }, { name := "Percent", type := 2, offset := 7, embedded := false, tag := "", pkgPath := "", byteOffset := 72 }, { name := "Surge", type := 2, offset := 8, embedded := false, tag := "", pkgPath := "", byteOffset := 80 }, { name := "Warm", type := 2, offset := 9, embedded := false, tag := "", pkgPath := "", byteOffset := 88 }, { name := "Drain", type := 22, offset := 10, embedded := false, tag := "", pkgPath := "", byteOffset := 96 }, { name := "HookIn", type := 22, offset := 11, embedded := false, tag := "", pkgPath := "", byteOffset := 104 }, { name := "HookOut", type := 22, offset := 12, embedded := false, tag := "", pkgPath := "", byteOffset := 112 }, { name := "Black", type := 22, offset := 13, embedded := false, tag := "", pkgPath := "", byteOffset := 120 }, { name := "Deadline", type := 22, offset := 14, embedded := false, tag := "", pkgPath := "", byteOffset := 128 }, { name := "Cool", type := 22, offset := 15, embedded := false, tag := "", pkgPath := "", byteOffset := 136 }, { name := "Replace", type := 4, offset := 16, embedded := false, tag := "", pkgPath := "", byteOffset := 144 }, { name := "Target", type := 2, offset := 17, embedded := false, tag := "", pkgPath := "", byteOffset := 152 }, { name := "Bands", type := 29, offset := 18, embedded := false, tag := "", pkgPath := "", byteOffset := 160 }, { name := "Plans", type := 30, offset := 19, embedded := false, tag := "", pkgPath := "", byteOffset := 184 }] := ⟨Try.underlying32, Try.stoodInHeld32, Try.eqGuardType32⟩
instance : TyQ Try.prog 39 [{ name := "What", type := 5, offset := 0, embedded := false, tag := "", pkgPath := "", byteOffset := 0 }, { name := "Wait", type := 5, offset := 1, embedded := false, tag := "", pkgPath := "", byteOffset := 1 }, { name := "At", type := 22, offset := 2, embedded := false, tag := "", pkgPath := "", byteOffset := 8 }] := ⟨Try.underlying39, Try.stoodInHeld39, Try.eqGuardType39⟩
instance : TyQ Try.prog 40 [{ name := "What", type := 5, offset := 0, embedded := false, tag := "", pkgPath := "", byteOffset := 0 }, { name := "Wait", type := 5, offset := 1, embedded := false, tag := "", pkgPath := "", byteOffset := 1 }, { name := "At", type := 22, offset := 2, embedded := false, tag := "", pkgPath := "", byteOffset := 8 }] := ⟨Try.underlying40, Try.stoodInHeld40, Try.eqGuardType40⟩
instance : TyQ Try.prog 45 [{ name := "state", type := 5, offset := 0, embedded := false, tag := "", pkgPath := "cohort/inst", byteOffset := 0 }, { name := "due", type := 22, offset := 1, embedded := false, tag := "", pkgPath := "cohort/inst", byteOffset := 8 }, { name := "timed", type := 4, offset := 2, embedded := false, tag := "", pkgPath := "cohort/inst", byteOffset := 16 }, { name := "ask", type := 5, offset := 3, embedded := false, tag := "", pkgPath := "cohort/inst", byteOffset := 17 }] := ⟨Try.underlying45, Try.stoodInHeld45, Try.eqGuardType45⟩
instance : TyQ Try.prog 46 [{ name := "state", type := 5, offset := 0, embedded := false, tag := "", pkgPath := "cohort/inst", byteOffset := 0 }, { name := "due", type := 22, offset := 1, embedded := false, tag := "", pkgPath := "cohort/inst", byteOffset := 8 }, { name := "timed", type := 4, offset := 2, embedded := false, tag := "", pkgPath := "cohort/inst", byteOffset := 16 }, { name := "ask", type := 5, offset := 3, embedded := false, tag := "", pkgPath := "cohort/inst", byteOffset := 17 }] := ⟨Try.underlying46, Try.stoodInHeld46, Try.eqGuardType46⟩
instance : TyQ Try.prog 69 [{ name := "Name", type := 9, offset := 0, embedded := false, tag := "", pkgPath := "", byteOffset := 0 }, { name := "Spot", type := 4, offset := 1, embedded := false, tag := "", pkgPath := "", byteOffset := 16 }, { name := "Weight", type := 2, offset := 2, embedded := false, tag := "", pkgPath := "", byteOffset := 24 }, { name := "Priority", type := 2, offset := 3, embedded := false, tag := "", pkgPath := "", byteOffset := 32 }] := ⟨Try.underlying69, Try.stoodInHeld69, Try.eqGuardType69⟩
instance : TyQ Try.prog 70 [{ name := "Name", type := 9, offset := 0, embedded := false, tag := "", pkgPath := "", byteOffset := 0 }, { name := "Spot", type := 4, offset := 1, embedded := false, tag := "", pkgPath := "", byteOffset := 16 }, { name := "Weight", type := 2, offset := 2, embedded := false, tag := "", pkgPath := "", byteOffset := 24 }, { name := "Priority", type := 2, offset := 3, embedded := false, tag := "", pkgPath := "", byteOffset := 32 }] := ⟨Try.underlying70, Try.stoodInHeld70, Try.eqGuardType70⟩
instance : TyQ Try.prog 71 [{ name := "From", type := 2, offset := 0, embedded := false, tag := "", pkgPath := "", byteOffset := 0 }, { name := "Add", type := 2, offset := 1, embedded := false, tag := "", pkgPath := "", byteOffset := 8 }] := ⟨Try.underlying71, Try.stoodInHeld71, Try.eqGuardType71⟩
instance : TyQ Try.prog 72 [{ name := "From", type := 2, offset := 0, embedded := false, tag := "", pkgPath := "", byteOffset := 0 }, { name := "Add", type := 2, offset := 1, embedded := false, tag := "", pkgPath := "", byteOffset := 8 }] := ⟨Try.underlying72, Try.stoodInHeld72, Try.eqGuardType72⟩
instance : TyQ Try.prog 73 [{ name := "At", type := 22, offset := 0, embedded := false, tag := "", pkgPath := "", byteOffset := 0 }, { name := "Each", type := 22, offset := 1, embedded := false, tag := "", pkgPath := "", byteOffset := 8 }, { name := "Desired", type := 2, offset := 2, embedded := false, tag := "", pkgPath := "", byteOffset := 16 }] := ⟨Try.underlying73, Try.stoodInHeld73, Try.eqGuardType73⟩
instance : TyQ Try.prog 74 [{ name := "At", type := 22, offset := 0, embedded := false, tag := "", pkgPath := "", byteOffset := 0 }, { name := "Each", type := 22, offset := 1, embedded := false, tag := "", pkgPath := "", byteOffset := 8 }, { name := "Desired", type := 2, offset := 2, embedded := false, tag := "", pkgPath := "", byteOffset := 16 }] := ⟨Try.underlying74, Try.stoodInHeld74, Try.eqGuardType74⟩
instance : MapK Try.prog 51 (IsPair .u8) := MapK.pair (i := Try.t5) Try.underlying51 Try.underlying5 ⟨Try.sizeOf5, Try.isAgg5⟩ (by exact Try.type5)
instance : FnC Try.prog 2 := ⟨Try.call2⟩
instance : FnC Try.prog 3 := ⟨Try.call3⟩
instance : FnC Try.prog 4 := ⟨Try.call4⟩
instance : FnC Try.prog 5 := ⟨Try.call5⟩
instance : FnC Try.prog 6 := ⟨Try.call6⟩
instance : FnC Try.prog 7 := ⟨Try.call7⟩
instance : FnC Try.prog 8 := ⟨Try.call8⟩
instance : FnC Try.prog 9 := ⟨Try.call9⟩
instance : FnC Try.prog 10 := ⟨Try.call10⟩
instance : FnC Try.prog 11 := ⟨Try.call11⟩
instance : FnC Try.prog 12 := ⟨Try.call12⟩
instance : FnC Try.prog 13 := ⟨Try.call13⟩
instance : FnC Try.prog 14 := ⟨Try.call14⟩
instance : FnC Try.prog 15 := ⟨Try.call15⟩
instance : FnC Try.prog 16 := ⟨Try.call16⟩
instance : FnC Try.prog 17 := ⟨Try.call17⟩
end Go.Proofs.Ytmlhkloopmbpeaa
