/- The table of this program's types, held against the program. Conditions: none. -/
import Derived.Test.YtebfpijbnklaiaaAbU
import Derived.Test.YtebfpijbnklaiaaProg
namespace Go.Ab
open Go.Proofs

def rows : List Row := [
  ⟨1, .cell, .leaf, .lit .nilFunc, 8, 1⟩,
  ⟨2, .int .i64, .leaf, .lit (.int .i64 0), 8, 1⟩,
  ⟨3, .int .i64, .leaf, .lit (.int .i64 0), 8, 1⟩,
  ⟨4, .bool, .leaf, .lit (.bool false), 1, 1⟩,
  ⟨5, .int .u8, .leaf, .lit (.int .u8 0), 1, 1⟩,
  ⟨9, .str, .leaf, .lit (.string ⟨#[]⟩), 16, 1⟩,
  ⟨12, .int .u64, .leaf, .lit (.int .u64 0), 8, 1⟩,
  ⟨21, .int .i32, .leaf, .lit (.int .i32 0), 4, 1⟩,
  ⟨22, .slice 33, .leaf, .lst 33 [] .full, 24, 1⟩,
  ⟨23, .arr 13 3, (.arr 13 .leaf), (.agg ((zeros 13).map fun n => .lit (.int .i64 n))), 104, 2⟩,
  ⟨24, .arr 13 3, (.arr 13 .leaf), (.agg ((zeros 13).map fun n => .lit (.int .i64 n))), 104, 2⟩,
  ⟨25, .cell, .leaf, .lit .nilFunc, 8, 1⟩,
  ⟨26, .cell, .leaf, .lit .nilFunc, 8, 1⟩,
  ⟨27, .cell, .leaf, .lit .nilFunc, 8, 1⟩,
  ⟨28, .cell, .leaf, .lit .nilFunc, 8, 1⟩,
  ⟨29, .struct [3, 3], (.pair .leaf (.pair .leaf .unit)), (.agg [.lit (.int .i64 0), .lit (.int .i64 0)]), 16, 2⟩,
  ⟨30, .struct [3, 3], (.pair .leaf (.pair .leaf .unit)), (.agg [.lit (.int .i64 0), .lit (.int .i64 0)]), 16, 2⟩,
  ⟨31, .slice 71, .leaf, .lst 71 [] .full, 24, 1⟩,
  ⟨32, .struct [30, 24, 3, 31], (.pair (.pair .leaf (.pair .leaf .unit)) (.pair (.arr 13 .leaf) (.pair .leaf (.pair .leaf .unit)))), (.agg [(.agg [.lit (.int .i64 0), .lit (.int .i64 0)]), (.agg ((zeros 13).map fun n => .lit (.int .i64 n))), .lit (.int .i64 0), .lst 71 [] .full]), 152, 3⟩,
  ⟨33, .struct [30, 24, 3, 31], (.pair (.pair .leaf (.pair .leaf .unit)) (.pair (.arr 13 .leaf) (.pair .leaf (.pair .leaf .unit)))), (.agg [(.agg [.lit (.int .i64 0), .lit (.int .i64 0)]), (.agg ((zeros 13).map fun n => .lit (.int .i64 n))), .lit (.int .i64 0), .lst 71 [] .full]), 152, 3⟩,
  ⟨34, .cell, .leaf, .lit .nilFunc, 8, 1⟩,
  ⟨35, .cell, .leaf, .lit .nilFunc, 8, 1⟩,
  ⟨36, .slice 24, .leaf, .lst 24 [] .full, 24, 1⟩,
  ⟨38, .cell, .leaf, .lit .nilFunc, 8, 1⟩,
  ⟨39, .cell, .leaf, .lit .nilFunc, 8, 1⟩,
  ⟨40, .cell, .leaf, .lit .nilFunc, 8, 1⟩,
  ⟨41, .cell, .leaf, .lit .nilFunc, 8, 1⟩,
  ⟨42, .cell, .leaf, .lit .nilFunc, 8, 1⟩,
  ⟨43, .cell, .leaf, .lit .nilFunc, 8, 1⟩,
  ⟨45, .cell, .leaf, .lit .nilFunc, 8, 1⟩,
  ⟨46, .cell, .leaf, .lit .nilFunc, 8, 1⟩,
  ⟨47, .cell, .leaf, .lit .nilFunc, 8, 1⟩,
  ⟨48, .cell, .leaf, .lit .nilFunc, 8, 1⟩,
  ⟨49, .cell, .leaf, .lit .nilFunc, 8, 1⟩,
  ⟨50, .cell, .leaf, .lit .nilFunc, 8, 1⟩,
  ⟨51, .cell, .leaf, .lit .nilFunc, 8, 1⟩,
  ⟨52, .cell, .leaf, .lit .nilFunc, 8, 1⟩,
  ⟨53, .slice 30, .leaf, .lst 30 [] .full, 24, 1⟩,
  ⟨54, .cell, .leaf, .lit .nilFunc, 8, 1⟩,
  ⟨55, .int .i64, .leaf, .lit (.int .i64 0), 8, 1⟩,
  ⟨57, .cell, .leaf, .lit .nilFunc, 8, 1⟩,
  ⟨58, .arr 13 24, (.arr 13 (.arr 13 .leaf)), (.agg ((zerosT 13 13).map fun v => .agg (v.map fun n => .lit (.int .i64 n)))), 1352, 3⟩,
  ⟨59, .slice 3, .leaf, .lst 3 [] .full, 24, 1⟩,
  ⟨60, .cell, .leaf, .lit .nilFunc, 8, 1⟩,
  ⟨61, .cell, .leaf, .lit .nilFunc, 8, 1⟩,
  ⟨63, .cell, .leaf, .lit .nilFunc, 8, 1⟩,
  ⟨64, .cell, .leaf, .lit .nilFunc, 8, 1⟩,
  ⟨65, .cell, .leaf, .lit .nilFunc, 8, 1⟩,
  ⟨66, .cell, .leaf, .lit .nilFunc, 8, 1⟩,
  ⟨67, .cell, .leaf, .lit .nilFunc, 8, 1⟩,
  ⟨68, .struct [30, 3], (.pair (.pair .leaf (.pair .leaf .unit)) (.pair .leaf .unit)), (.agg [(.agg [.lit (.int .i64 0), .lit (.int .i64 0)]), .lit (.int .i64 0)]), 24, 3⟩,
  ⟨69, .struct [30, 3], (.pair (.pair .leaf (.pair .leaf .unit)) (.pair .leaf .unit)), (.agg [(.agg [.lit (.int .i64 0), .lit (.int .i64 0)]), .lit (.int .i64 0)]), 24, 3⟩,
  ⟨70, .struct [3, 9, 9, 3, 3, 3, 9, 69], (.pair .leaf (.pair .leaf (.pair .leaf (.pair .leaf (.pair .leaf (.pair .leaf (.pair .leaf (.pair (.pair (.pair .leaf (.pair .leaf .unit)) (.pair .leaf .unit)) .unit)))))))), (.agg [.lit (.int .i64 0), .lit (.string ⟨#[]⟩), .lit (.string ⟨#[]⟩), .lit (.int .i64 0), .lit (.int .i64 0), .lit (.int .i64 0), .lit (.string ⟨#[]⟩), (.agg [(.agg [.lit (.int .i64 0), .lit (.int .i64 0)]), .lit (.int .i64 0)])]), 104, 4⟩,
  ⟨71, .struct [3, 9, 9, 3, 3, 3, 9, 69], (.pair .leaf (.pair .leaf (.pair .leaf (.pair .leaf (.pair .leaf (.pair .leaf (.pair .leaf (.pair (.pair (.pair .leaf (.pair .leaf .unit)) (.pair .leaf .unit)) .unit)))))))), (.agg [.lit (.int .i64 0), .lit (.string ⟨#[]⟩), .lit (.string ⟨#[]⟩), .lit (.int .i64 0), .lit (.int .i64 0), .lit (.int .i64 0), .lit (.string ⟨#[]⟩), (.agg [(.agg [.lit (.int .i64 0), .lit (.int .i64 0)]), .lit (.int .i64 0)])]), 104, 4⟩,
  ⟨72, .cell, .leaf, .lit .nilFunc, 8, 1⟩,
  ⟨73, .cell, .leaf, .lit .nilFunc, 8, 1⟩,
  ⟨74, .cell, .leaf, .lit .nilFunc, 8, 1⟩,
  ⟨75, .cell, .leaf, .lit .nilFunc, 8, 1⟩,
  ⟨76, .cell, .leaf, .lit .nilFunc, 8, 1⟩,
  ⟨77, .cell, .leaf, .lit .nilFunc, 8, 1⟩,
  ⟨78, .cell, .leaf, .lit .nilFunc, 8, 1⟩,
  ⟨79, .cell, .leaf, .lit .nilFunc, 8, 1⟩,
  ⟨80, .cell, .leaf, .lit .nilFunc, 8, 1⟩,
  ⟨81, .cell, .leaf, .lit .nilFunc, 8, 1⟩,
  ⟨82, .cell, .leaf, .lit .nilFunc, 8, 1⟩,
  ⟨83, .cell, .leaf, .lit .nilFunc, 8, 1⟩,
  ⟨85, .cell, .leaf, .lit .nilFunc, 8, 1⟩,
  ⟨86, .cell, .leaf, .lit .nilFunc, 8, 1⟩,
  ⟨87, .cell, .leaf, .lit .nilFunc, 8, 1⟩,
  ⟨88, .cell, .leaf, .lit .nilFunc, 8, 1⟩,
  ⟨89, .cell, .leaf, .lit .nilFunc, 8, 1⟩,
  ⟨90, .cell, .leaf, .lit .nilFunc, 8, 1⟩,
  ⟨91, .cell, .leaf, .lit .nilFunc, 8, 1⟩,
  ⟨97, .cell, .leaf, .lit .nilFunc, 8, 1⟩,
  ⟨98, .int .u32, .leaf, .lit (.int .u32 0), 4, 1⟩,
  ⟨101, .cell, .leaf, .lit .nilFunc, 8, 1⟩,
  ⟨102, .cell, .leaf, .lit (.pointer none), 8, 1⟩]

def CT : Tab := Tab.of rows

theorem hT : TabOk Try.prog CT := tabOk_rows rows (by kernel_rfl)

theorem ty1 : CT.ty 1 = .cell := Eq.trans (by kernel_rfl) rfl
theorem sh1 : CT.sh 1 = .leaf := Eq.trans (by kernel_rfl) rfl
theorem zero1 : CT.zero 1 = .lit .nilFunc := Eq.trans (by kernel_rfl) rfl
theorem bytes1 : CT.bytes 1 = 8 := Eq.trans (by kernel_rfl) rfl
theorem ty2 : CT.ty 2 = .int .i64 := Eq.trans (by kernel_rfl) rfl
theorem sh2 : CT.sh 2 = .leaf := Eq.trans (by kernel_rfl) rfl
theorem zero2 : CT.zero 2 = .lit (.int .i64 0) := Eq.trans (by kernel_rfl) rfl
theorem bytes2 : CT.bytes 2 = 8 := Eq.trans (by kernel_rfl) rfl
theorem ty3 : CT.ty 3 = .int .i64 := Eq.trans (by kernel_rfl) rfl
theorem sh3 : CT.sh 3 = .leaf := Eq.trans (by kernel_rfl) rfl
theorem zero3 : CT.zero 3 = .lit (.int .i64 0) := Eq.trans (by kernel_rfl) rfl
theorem bytes3 : CT.bytes 3 = 8 := Eq.trans (by kernel_rfl) rfl
theorem ty4 : CT.ty 4 = .bool := Eq.trans (by kernel_rfl) rfl
theorem sh4 : CT.sh 4 = .leaf := Eq.trans (by kernel_rfl) rfl
theorem zero4 : CT.zero 4 = .lit (.bool false) := Eq.trans (by kernel_rfl) rfl
theorem bytes4 : CT.bytes 4 = 1 := Eq.trans (by kernel_rfl) rfl
theorem ty5 : CT.ty 5 = .int .u8 := Eq.trans (by kernel_rfl) rfl
theorem sh5 : CT.sh 5 = .leaf := Eq.trans (by kernel_rfl) rfl
theorem zero5 : CT.zero 5 = .lit (.int .u8 0) := Eq.trans (by kernel_rfl) rfl
theorem bytes5 : CT.bytes 5 = 1 := Eq.trans (by kernel_rfl) rfl
theorem ty9 : CT.ty 9 = .str := Eq.trans (by kernel_rfl) rfl
theorem sh9 : CT.sh 9 = .leaf := Eq.trans (by kernel_rfl) rfl
theorem zero9 : CT.zero 9 = .lit (.string ⟨#[]⟩) := Eq.trans (by kernel_rfl) rfl
theorem bytes9 : CT.bytes 9 = 16 := Eq.trans (by kernel_rfl) rfl
theorem ty12 : CT.ty 12 = .int .u64 := Eq.trans (by kernel_rfl) rfl
theorem sh12 : CT.sh 12 = .leaf := Eq.trans (by kernel_rfl) rfl
theorem zero12 : CT.zero 12 = .lit (.int .u64 0) := Eq.trans (by kernel_rfl) rfl
theorem bytes12 : CT.bytes 12 = 8 := Eq.trans (by kernel_rfl) rfl
theorem ty21 : CT.ty 21 = .int .i32 := Eq.trans (by kernel_rfl) rfl
theorem sh21 : CT.sh 21 = .leaf := Eq.trans (by kernel_rfl) rfl
theorem zero21 : CT.zero 21 = .lit (.int .i32 0) := Eq.trans (by kernel_rfl) rfl
theorem bytes21 : CT.bytes 21 = 4 := Eq.trans (by kernel_rfl) rfl
theorem ty22 : CT.ty 22 = .slice 33 := Eq.trans (by kernel_rfl) rfl
theorem sh22 : CT.sh 22 = .leaf := Eq.trans (by kernel_rfl) rfl
theorem zero22 : CT.zero 22 = .lst 33 [] .full := Eq.trans (by kernel_rfl) rfl
theorem bytes22 : CT.bytes 22 = 24 := Eq.trans (by kernel_rfl) rfl
theorem ty23 : CT.ty 23 = .arr 13 3 := Eq.trans (by kernel_rfl) rfl
theorem sh23 : CT.sh 23 = (.arr 13 .leaf) := Eq.trans (by kernel_rfl) rfl
theorem zero23 : CT.zero 23 = (.agg ((zeros 13).map fun n => .lit (.int .i64 n))) := Eq.trans (by kernel_rfl) rfl
theorem bytes23 : CT.bytes 23 = 104 := Eq.trans (by kernel_rfl) rfl
theorem ty24 : CT.ty 24 = .arr 13 3 := Eq.trans (by kernel_rfl) rfl
theorem sh24 : CT.sh 24 = (.arr 13 .leaf) := Eq.trans (by kernel_rfl) rfl
theorem zero24 : CT.zero 24 = (.agg ((zeros 13).map fun n => .lit (.int .i64 n))) := Eq.trans (by kernel_rfl) rfl
theorem bytes24 : CT.bytes 24 = 104 := Eq.trans (by kernel_rfl) rfl
theorem ty25 : CT.ty 25 = .cell := Eq.trans (by kernel_rfl) rfl
theorem sh25 : CT.sh 25 = .leaf := Eq.trans (by kernel_rfl) rfl
theorem zero25 : CT.zero 25 = .lit .nilFunc := Eq.trans (by kernel_rfl) rfl
theorem bytes25 : CT.bytes 25 = 8 := Eq.trans (by kernel_rfl) rfl
theorem ty26 : CT.ty 26 = .cell := Eq.trans (by kernel_rfl) rfl
theorem sh26 : CT.sh 26 = .leaf := Eq.trans (by kernel_rfl) rfl
theorem zero26 : CT.zero 26 = .lit .nilFunc := Eq.trans (by kernel_rfl) rfl
theorem bytes26 : CT.bytes 26 = 8 := Eq.trans (by kernel_rfl) rfl
theorem ty27 : CT.ty 27 = .cell := Eq.trans (by kernel_rfl) rfl
theorem sh27 : CT.sh 27 = .leaf := Eq.trans (by kernel_rfl) rfl
theorem zero27 : CT.zero 27 = .lit .nilFunc := Eq.trans (by kernel_rfl) rfl
theorem bytes27 : CT.bytes 27 = 8 := Eq.trans (by kernel_rfl) rfl
theorem ty28 : CT.ty 28 = .cell := Eq.trans (by kernel_rfl) rfl
theorem sh28 : CT.sh 28 = .leaf := Eq.trans (by kernel_rfl) rfl
theorem zero28 : CT.zero 28 = .lit .nilFunc := Eq.trans (by kernel_rfl) rfl
theorem bytes28 : CT.bytes 28 = 8 := Eq.trans (by kernel_rfl) rfl
theorem ty29 : CT.ty 29 = .struct [3, 3] := Eq.trans (by kernel_rfl) rfl
theorem sh29 : CT.sh 29 = (.pair .leaf (.pair .leaf .unit)) := Eq.trans (by kernel_rfl) rfl
theorem zero29 : CT.zero 29 = (.agg [.lit (.int .i64 0), .lit (.int .i64 0)]) := Eq.trans (by kernel_rfl) rfl
theorem bytes29 : CT.bytes 29 = 16 := Eq.trans (by kernel_rfl) rfl
theorem ty30 : CT.ty 30 = .struct [3, 3] := Eq.trans (by kernel_rfl) rfl
theorem sh30 : CT.sh 30 = (.pair .leaf (.pair .leaf .unit)) := Eq.trans (by kernel_rfl) rfl
theorem zero30 : CT.zero 30 = (.agg [.lit (.int .i64 0), .lit (.int .i64 0)]) := Eq.trans (by kernel_rfl) rfl
theorem bytes30 : CT.bytes 30 = 16 := Eq.trans (by kernel_rfl) rfl
theorem ty31 : CT.ty 31 = .slice 71 := Eq.trans (by kernel_rfl) rfl
theorem sh31 : CT.sh 31 = .leaf := Eq.trans (by kernel_rfl) rfl
theorem zero31 : CT.zero 31 = .lst 71 [] .full := Eq.trans (by kernel_rfl) rfl
theorem bytes31 : CT.bytes 31 = 24 := Eq.trans (by kernel_rfl) rfl
theorem ty32 : CT.ty 32 = .struct [30, 24, 3, 31] := Eq.trans (by kernel_rfl) rfl
theorem sh32 : CT.sh 32 = (.pair (.pair .leaf (.pair .leaf .unit)) (.pair (.arr 13 .leaf) (.pair .leaf (.pair .leaf .unit)))) := Eq.trans (by kernel_rfl) rfl
theorem zero32 : CT.zero 32 = (.agg [(.agg [.lit (.int .i64 0), .lit (.int .i64 0)]), (.agg ((zeros 13).map fun n => .lit (.int .i64 n))), .lit (.int .i64 0), .lst 71 [] .full]) := Eq.trans (by kernel_rfl) rfl
theorem bytes32 : CT.bytes 32 = 152 := Eq.trans (by kernel_rfl) rfl
theorem ty33 : CT.ty 33 = .struct [30, 24, 3, 31] := Eq.trans (by kernel_rfl) rfl
theorem sh33 : CT.sh 33 = (.pair (.pair .leaf (.pair .leaf .unit)) (.pair (.arr 13 .leaf) (.pair .leaf (.pair .leaf .unit)))) := Eq.trans (by kernel_rfl) rfl
theorem zero33 : CT.zero 33 = (.agg [(.agg [.lit (.int .i64 0), .lit (.int .i64 0)]), (.agg ((zeros 13).map fun n => .lit (.int .i64 n))), .lit (.int .i64 0), .lst 71 [] .full]) := Eq.trans (by kernel_rfl) rfl
theorem bytes33 : CT.bytes 33 = 152 := Eq.trans (by kernel_rfl) rfl
theorem ty34 : CT.ty 34 = .cell := Eq.trans (by kernel_rfl) rfl
theorem sh34 : CT.sh 34 = .leaf := Eq.trans (by kernel_rfl) rfl
theorem zero34 : CT.zero 34 = .lit .nilFunc := Eq.trans (by kernel_rfl) rfl
theorem bytes34 : CT.bytes 34 = 8 := Eq.trans (by kernel_rfl) rfl
theorem ty35 : CT.ty 35 = .cell := Eq.trans (by kernel_rfl) rfl
theorem sh35 : CT.sh 35 = .leaf := Eq.trans (by kernel_rfl) rfl
theorem zero35 : CT.zero 35 = .lit .nilFunc := Eq.trans (by kernel_rfl) rfl
theorem bytes35 : CT.bytes 35 = 8 := Eq.trans (by kernel_rfl) rfl
theorem ty36 : CT.ty 36 = .slice 24 := Eq.trans (by kernel_rfl) rfl
theorem sh36 : CT.sh 36 = .leaf := Eq.trans (by kernel_rfl) rfl
theorem zero36 : CT.zero 36 = .lst 24 [] .full := Eq.trans (by kernel_rfl) rfl
theorem bytes36 : CT.bytes 36 = 24 := Eq.trans (by kernel_rfl) rfl
theorem ty38 : CT.ty 38 = .cell := Eq.trans (by kernel_rfl) rfl
theorem sh38 : CT.sh 38 = .leaf := Eq.trans (by kernel_rfl) rfl
theorem zero38 : CT.zero 38 = .lit .nilFunc := Eq.trans (by kernel_rfl) rfl
theorem bytes38 : CT.bytes 38 = 8 := Eq.trans (by kernel_rfl) rfl
theorem ty39 : CT.ty 39 = .cell := Eq.trans (by kernel_rfl) rfl
theorem sh39 : CT.sh 39 = .leaf := Eq.trans (by kernel_rfl) rfl
theorem zero39 : CT.zero 39 = .lit .nilFunc := Eq.trans (by kernel_rfl) rfl
theorem bytes39 : CT.bytes 39 = 8 := Eq.trans (by kernel_rfl) rfl
theorem ty40 : CT.ty 40 = .cell := Eq.trans (by kernel_rfl) rfl
theorem sh40 : CT.sh 40 = .leaf := Eq.trans (by kernel_rfl) rfl
theorem zero40 : CT.zero 40 = .lit .nilFunc := Eq.trans (by kernel_rfl) rfl
theorem bytes40 : CT.bytes 40 = 8 := Eq.trans (by kernel_rfl) rfl
theorem ty41 : CT.ty 41 = .cell := Eq.trans (by kernel_rfl) rfl
theorem sh41 : CT.sh 41 = .leaf := Eq.trans (by kernel_rfl) rfl
theorem zero41 : CT.zero 41 = .lit .nilFunc := Eq.trans (by kernel_rfl) rfl
theorem bytes41 : CT.bytes 41 = 8 := Eq.trans (by kernel_rfl) rfl
theorem ty42 : CT.ty 42 = .cell := Eq.trans (by kernel_rfl) rfl
theorem sh42 : CT.sh 42 = .leaf := Eq.trans (by kernel_rfl) rfl
theorem zero42 : CT.zero 42 = .lit .nilFunc := Eq.trans (by kernel_rfl) rfl
theorem bytes42 : CT.bytes 42 = 8 := Eq.trans (by kernel_rfl) rfl
theorem ty43 : CT.ty 43 = .cell := Eq.trans (by kernel_rfl) rfl
theorem sh43 : CT.sh 43 = .leaf := Eq.trans (by kernel_rfl) rfl
theorem zero43 : CT.zero 43 = .lit .nilFunc := Eq.trans (by kernel_rfl) rfl
theorem bytes43 : CT.bytes 43 = 8 := Eq.trans (by kernel_rfl) rfl
theorem ty45 : CT.ty 45 = .cell := Eq.trans (by kernel_rfl) rfl
theorem sh45 : CT.sh 45 = .leaf := Eq.trans (by kernel_rfl) rfl
theorem zero45 : CT.zero 45 = .lit .nilFunc := Eq.trans (by kernel_rfl) rfl
theorem bytes45 : CT.bytes 45 = 8 := Eq.trans (by kernel_rfl) rfl
theorem ty46 : CT.ty 46 = .cell := Eq.trans (by kernel_rfl) rfl
theorem sh46 : CT.sh 46 = .leaf := Eq.trans (by kernel_rfl) rfl
theorem zero46 : CT.zero 46 = .lit .nilFunc := Eq.trans (by kernel_rfl) rfl
theorem bytes46 : CT.bytes 46 = 8 := Eq.trans (by kernel_rfl) rfl
theorem ty47 : CT.ty 47 = .cell := Eq.trans (by kernel_rfl) rfl
theorem sh47 : CT.sh 47 = .leaf := Eq.trans (by kernel_rfl) rfl
theorem zero47 : CT.zero 47 = .lit .nilFunc := Eq.trans (by kernel_rfl) rfl
theorem bytes47 : CT.bytes 47 = 8 := Eq.trans (by kernel_rfl) rfl
theorem ty48 : CT.ty 48 = .cell := Eq.trans (by kernel_rfl) rfl
theorem sh48 : CT.sh 48 = .leaf := Eq.trans (by kernel_rfl) rfl
theorem zero48 : CT.zero 48 = .lit .nilFunc := Eq.trans (by kernel_rfl) rfl
theorem bytes48 : CT.bytes 48 = 8 := Eq.trans (by kernel_rfl) rfl
theorem ty49 : CT.ty 49 = .cell := Eq.trans (by kernel_rfl) rfl
theorem sh49 : CT.sh 49 = .leaf := Eq.trans (by kernel_rfl) rfl
theorem zero49 : CT.zero 49 = .lit .nilFunc := Eq.trans (by kernel_rfl) rfl
theorem bytes49 : CT.bytes 49 = 8 := Eq.trans (by kernel_rfl) rfl
theorem ty50 : CT.ty 50 = .cell := Eq.trans (by kernel_rfl) rfl
theorem sh50 : CT.sh 50 = .leaf := Eq.trans (by kernel_rfl) rfl
theorem zero50 : CT.zero 50 = .lit .nilFunc := Eq.trans (by kernel_rfl) rfl
theorem bytes50 : CT.bytes 50 = 8 := Eq.trans (by kernel_rfl) rfl
theorem ty51 : CT.ty 51 = .cell := Eq.trans (by kernel_rfl) rfl
theorem sh51 : CT.sh 51 = .leaf := Eq.trans (by kernel_rfl) rfl
theorem zero51 : CT.zero 51 = .lit .nilFunc := Eq.trans (by kernel_rfl) rfl
theorem bytes51 : CT.bytes 51 = 8 := Eq.trans (by kernel_rfl) rfl
theorem ty52 : CT.ty 52 = .cell := Eq.trans (by kernel_rfl) rfl
theorem sh52 : CT.sh 52 = .leaf := Eq.trans (by kernel_rfl) rfl
theorem zero52 : CT.zero 52 = .lit .nilFunc := Eq.trans (by kernel_rfl) rfl
theorem bytes52 : CT.bytes 52 = 8 := Eq.trans (by kernel_rfl) rfl
theorem ty53 : CT.ty 53 = .slice 30 := Eq.trans (by kernel_rfl) rfl
theorem sh53 : CT.sh 53 = .leaf := Eq.trans (by kernel_rfl) rfl
theorem zero53 : CT.zero 53 = .lst 30 [] .full := Eq.trans (by kernel_rfl) rfl
theorem bytes53 : CT.bytes 53 = 24 := Eq.trans (by kernel_rfl) rfl
theorem ty54 : CT.ty 54 = .cell := Eq.trans (by kernel_rfl) rfl
theorem sh54 : CT.sh 54 = .leaf := Eq.trans (by kernel_rfl) rfl
theorem zero54 : CT.zero 54 = .lit .nilFunc := Eq.trans (by kernel_rfl) rfl
theorem bytes54 : CT.bytes 54 = 8 := Eq.trans (by kernel_rfl) rfl
theorem ty55 : CT.ty 55 = .int .i64 := Eq.trans (by kernel_rfl) rfl
theorem sh55 : CT.sh 55 = .leaf := Eq.trans (by kernel_rfl) rfl
theorem zero55 : CT.zero 55 = .lit (.int .i64 0) := Eq.trans (by kernel_rfl) rfl
theorem bytes55 : CT.bytes 55 = 8 := Eq.trans (by kernel_rfl) rfl
theorem ty57 : CT.ty 57 = .cell := Eq.trans (by kernel_rfl) rfl
theorem sh57 : CT.sh 57 = .leaf := Eq.trans (by kernel_rfl) rfl
theorem zero57 : CT.zero 57 = .lit .nilFunc := Eq.trans (by kernel_rfl) rfl
theorem bytes57 : CT.bytes 57 = 8 := Eq.trans (by kernel_rfl) rfl
theorem ty58 : CT.ty 58 = .arr 13 24 := Eq.trans (by kernel_rfl) rfl
theorem sh58 : CT.sh 58 = (.arr 13 (.arr 13 .leaf)) := Eq.trans (by kernel_rfl) rfl
theorem zero58 : CT.zero 58 = (.agg ((zerosT 13 13).map fun v => .agg (v.map fun n => .lit (.int .i64 n)))) := Eq.trans (by kernel_rfl) rfl
theorem bytes58 : CT.bytes 58 = 1352 := Eq.trans (by kernel_rfl) rfl
theorem ty59 : CT.ty 59 = .slice 3 := Eq.trans (by kernel_rfl) rfl
theorem sh59 : CT.sh 59 = .leaf := Eq.trans (by kernel_rfl) rfl
theorem zero59 : CT.zero 59 = .lst 3 [] .full := Eq.trans (by kernel_rfl) rfl
theorem bytes59 : CT.bytes 59 = 24 := Eq.trans (by kernel_rfl) rfl
theorem ty60 : CT.ty 60 = .cell := Eq.trans (by kernel_rfl) rfl
theorem sh60 : CT.sh 60 = .leaf := Eq.trans (by kernel_rfl) rfl
theorem zero60 : CT.zero 60 = .lit .nilFunc := Eq.trans (by kernel_rfl) rfl
theorem bytes60 : CT.bytes 60 = 8 := Eq.trans (by kernel_rfl) rfl
theorem ty61 : CT.ty 61 = .cell := Eq.trans (by kernel_rfl) rfl
theorem sh61 : CT.sh 61 = .leaf := Eq.trans (by kernel_rfl) rfl
theorem zero61 : CT.zero 61 = .lit .nilFunc := Eq.trans (by kernel_rfl) rfl
theorem bytes61 : CT.bytes 61 = 8 := Eq.trans (by kernel_rfl) rfl
theorem ty63 : CT.ty 63 = .cell := Eq.trans (by kernel_rfl) rfl
theorem sh63 : CT.sh 63 = .leaf := Eq.trans (by kernel_rfl) rfl
theorem zero63 : CT.zero 63 = .lit .nilFunc := Eq.trans (by kernel_rfl) rfl
theorem bytes63 : CT.bytes 63 = 8 := Eq.trans (by kernel_rfl) rfl
theorem ty64 : CT.ty 64 = .cell := Eq.trans (by kernel_rfl) rfl
theorem sh64 : CT.sh 64 = .leaf := Eq.trans (by kernel_rfl) rfl
theorem zero64 : CT.zero 64 = .lit .nilFunc := Eq.trans (by kernel_rfl) rfl
theorem bytes64 : CT.bytes 64 = 8 := Eq.trans (by kernel_rfl) rfl
theorem ty65 : CT.ty 65 = .cell := Eq.trans (by kernel_rfl) rfl
theorem sh65 : CT.sh 65 = .leaf := Eq.trans (by kernel_rfl) rfl
theorem zero65 : CT.zero 65 = .lit .nilFunc := Eq.trans (by kernel_rfl) rfl
theorem bytes65 : CT.bytes 65 = 8 := Eq.trans (by kernel_rfl) rfl
theorem ty66 : CT.ty 66 = .cell := Eq.trans (by kernel_rfl) rfl
theorem sh66 : CT.sh 66 = .leaf := Eq.trans (by kernel_rfl) rfl
theorem zero66 : CT.zero 66 = .lit .nilFunc := Eq.trans (by kernel_rfl) rfl
theorem bytes66 : CT.bytes 66 = 8 := Eq.trans (by kernel_rfl) rfl
theorem ty67 : CT.ty 67 = .cell := Eq.trans (by kernel_rfl) rfl
theorem sh67 : CT.sh 67 = .leaf := Eq.trans (by kernel_rfl) rfl
theorem zero67 : CT.zero 67 = .lit .nilFunc := Eq.trans (by kernel_rfl) rfl
theorem bytes67 : CT.bytes 67 = 8 := Eq.trans (by kernel_rfl) rfl
theorem ty68 : CT.ty 68 = .struct [30, 3] := Eq.trans (by kernel_rfl) rfl
theorem sh68 : CT.sh 68 = (.pair (.pair .leaf (.pair .leaf .unit)) (.pair .leaf .unit)) := Eq.trans (by kernel_rfl) rfl
theorem zero68 : CT.zero 68 = (.agg [(.agg [.lit (.int .i64 0), .lit (.int .i64 0)]), .lit (.int .i64 0)]) := Eq.trans (by kernel_rfl) rfl
theorem bytes68 : CT.bytes 68 = 24 := Eq.trans (by kernel_rfl) rfl
theorem ty69 : CT.ty 69 = .struct [30, 3] := Eq.trans (by kernel_rfl) rfl
theorem sh69 : CT.sh 69 = (.pair (.pair .leaf (.pair .leaf .unit)) (.pair .leaf .unit)) := Eq.trans (by kernel_rfl) rfl
theorem zero69 : CT.zero 69 = (.agg [(.agg [.lit (.int .i64 0), .lit (.int .i64 0)]), .lit (.int .i64 0)]) := Eq.trans (by kernel_rfl) rfl
theorem bytes69 : CT.bytes 69 = 24 := Eq.trans (by kernel_rfl) rfl
theorem ty70 : CT.ty 70 = .struct [3, 9, 9, 3, 3, 3, 9, 69] := Eq.trans (by kernel_rfl) rfl
theorem sh70 : CT.sh 70 = (.pair .leaf (.pair .leaf (.pair .leaf (.pair .leaf (.pair .leaf (.pair .leaf (.pair .leaf (.pair (.pair (.pair .leaf (.pair .leaf .unit)) (.pair .leaf .unit)) .unit)))))))) := Eq.trans (by kernel_rfl) rfl
theorem zero70 : CT.zero 70 = (.agg [.lit (.int .i64 0), .lit (.string ⟨#[]⟩), .lit (.string ⟨#[]⟩), .lit (.int .i64 0), .lit (.int .i64 0), .lit (.int .i64 0), .lit (.string ⟨#[]⟩), (.agg [(.agg [.lit (.int .i64 0), .lit (.int .i64 0)]), .lit (.int .i64 0)])]) := Eq.trans (by kernel_rfl) rfl
theorem bytes70 : CT.bytes 70 = 104 := Eq.trans (by kernel_rfl) rfl
theorem ty71 : CT.ty 71 = .struct [3, 9, 9, 3, 3, 3, 9, 69] := Eq.trans (by kernel_rfl) rfl
theorem sh71 : CT.sh 71 = (.pair .leaf (.pair .leaf (.pair .leaf (.pair .leaf (.pair .leaf (.pair .leaf (.pair .leaf (.pair (.pair (.pair .leaf (.pair .leaf .unit)) (.pair .leaf .unit)) .unit)))))))) := Eq.trans (by kernel_rfl) rfl
theorem zero71 : CT.zero 71 = (.agg [.lit (.int .i64 0), .lit (.string ⟨#[]⟩), .lit (.string ⟨#[]⟩), .lit (.int .i64 0), .lit (.int .i64 0), .lit (.int .i64 0), .lit (.string ⟨#[]⟩), (.agg [(.agg [.lit (.int .i64 0), .lit (.int .i64 0)]), .lit (.int .i64 0)])]) := Eq.trans (by kernel_rfl) rfl
theorem bytes71 : CT.bytes 71 = 104 := Eq.trans (by kernel_rfl) rfl
theorem ty72 : CT.ty 72 = .cell := Eq.trans (by kernel_rfl) rfl
theorem sh72 : CT.sh 72 = .leaf := Eq.trans (by kernel_rfl) rfl
theorem zero72 : CT.zero 72 = .lit .nilFunc := Eq.trans (by kernel_rfl) rfl
theorem bytes72 : CT.bytes 72 = 8 := Eq.trans (by kernel_rfl) rfl
theorem ty73 : CT.ty 73 = .cell := Eq.trans (by kernel_rfl) rfl
theorem sh73 : CT.sh 73 = .leaf := Eq.trans (by kernel_rfl) rfl
theorem zero73 : CT.zero 73 = .lit .nilFunc := Eq.trans (by kernel_rfl) rfl
theorem bytes73 : CT.bytes 73 = 8 := Eq.trans (by kernel_rfl) rfl
theorem ty74 : CT.ty 74 = .cell := Eq.trans (by kernel_rfl) rfl
theorem sh74 : CT.sh 74 = .leaf := Eq.trans (by kernel_rfl) rfl
theorem zero74 : CT.zero 74 = .lit .nilFunc := Eq.trans (by kernel_rfl) rfl
theorem bytes74 : CT.bytes 74 = 8 := Eq.trans (by kernel_rfl) rfl
theorem ty75 : CT.ty 75 = .cell := Eq.trans (by kernel_rfl) rfl
theorem sh75 : CT.sh 75 = .leaf := Eq.trans (by kernel_rfl) rfl
theorem zero75 : CT.zero 75 = .lit .nilFunc := Eq.trans (by kernel_rfl) rfl
theorem bytes75 : CT.bytes 75 = 8 := Eq.trans (by kernel_rfl) rfl
theorem ty76 : CT.ty 76 = .cell := Eq.trans (by kernel_rfl) rfl
theorem sh76 : CT.sh 76 = .leaf := Eq.trans (by kernel_rfl) rfl
theorem zero76 : CT.zero 76 = .lit .nilFunc := Eq.trans (by kernel_rfl) rfl
theorem bytes76 : CT.bytes 76 = 8 := Eq.trans (by kernel_rfl) rfl
theorem ty77 : CT.ty 77 = .cell := Eq.trans (by kernel_rfl) rfl
theorem sh77 : CT.sh 77 = .leaf := Eq.trans (by kernel_rfl) rfl
theorem zero77 : CT.zero 77 = .lit .nilFunc := Eq.trans (by kernel_rfl) rfl
theorem bytes77 : CT.bytes 77 = 8 := Eq.trans (by kernel_rfl) rfl
theorem ty78 : CT.ty 78 = .cell := Eq.trans (by kernel_rfl) rfl
theorem sh78 : CT.sh 78 = .leaf := Eq.trans (by kernel_rfl) rfl
theorem zero78 : CT.zero 78 = .lit .nilFunc := Eq.trans (by kernel_rfl) rfl
theorem bytes78 : CT.bytes 78 = 8 := Eq.trans (by kernel_rfl) rfl
theorem ty79 : CT.ty 79 = .cell := Eq.trans (by kernel_rfl) rfl
theorem sh79 : CT.sh 79 = .leaf := Eq.trans (by kernel_rfl) rfl
theorem zero79 : CT.zero 79 = .lit .nilFunc := Eq.trans (by kernel_rfl) rfl
theorem bytes79 : CT.bytes 79 = 8 := Eq.trans (by kernel_rfl) rfl
theorem ty80 : CT.ty 80 = .cell := Eq.trans (by kernel_rfl) rfl
theorem sh80 : CT.sh 80 = .leaf := Eq.trans (by kernel_rfl) rfl
theorem zero80 : CT.zero 80 = .lit .nilFunc := Eq.trans (by kernel_rfl) rfl
theorem bytes80 : CT.bytes 80 = 8 := Eq.trans (by kernel_rfl) rfl
theorem ty81 : CT.ty 81 = .cell := Eq.trans (by kernel_rfl) rfl
theorem sh81 : CT.sh 81 = .leaf := Eq.trans (by kernel_rfl) rfl
theorem zero81 : CT.zero 81 = .lit .nilFunc := Eq.trans (by kernel_rfl) rfl
theorem bytes81 : CT.bytes 81 = 8 := Eq.trans (by kernel_rfl) rfl
theorem ty82 : CT.ty 82 = .cell := Eq.trans (by kernel_rfl) rfl
theorem sh82 : CT.sh 82 = .leaf := Eq.trans (by kernel_rfl) rfl
theorem zero82 : CT.zero 82 = .lit .nilFunc := Eq.trans (by kernel_rfl) rfl
theorem bytes82 : CT.bytes 82 = 8 := Eq.trans (by kernel_rfl) rfl
theorem ty83 : CT.ty 83 = .cell := Eq.trans (by kernel_rfl) rfl
theorem sh83 : CT.sh 83 = .leaf := Eq.trans (by kernel_rfl) rfl
theorem zero83 : CT.zero 83 = .lit .nilFunc := Eq.trans (by kernel_rfl) rfl
theorem bytes83 : CT.bytes 83 = 8 := Eq.trans (by kernel_rfl) rfl
theorem ty85 : CT.ty 85 = .cell := Eq.trans (by kernel_rfl) rfl
theorem sh85 : CT.sh 85 = .leaf := Eq.trans (by kernel_rfl) rfl
theorem zero85 : CT.zero 85 = .lit .nilFunc := Eq.trans (by kernel_rfl) rfl
theorem bytes85 : CT.bytes 85 = 8 := Eq.trans (by kernel_rfl) rfl
theorem ty86 : CT.ty 86 = .cell := Eq.trans (by kernel_rfl) rfl
theorem sh86 : CT.sh 86 = .leaf := Eq.trans (by kernel_rfl) rfl
theorem zero86 : CT.zero 86 = .lit .nilFunc := Eq.trans (by kernel_rfl) rfl
theorem bytes86 : CT.bytes 86 = 8 := Eq.trans (by kernel_rfl) rfl
theorem ty87 : CT.ty 87 = .cell := Eq.trans (by kernel_rfl) rfl
theorem sh87 : CT.sh 87 = .leaf := Eq.trans (by kernel_rfl) rfl
theorem zero87 : CT.zero 87 = .lit .nilFunc := Eq.trans (by kernel_rfl) rfl
theorem bytes87 : CT.bytes 87 = 8 := Eq.trans (by kernel_rfl) rfl
theorem ty88 : CT.ty 88 = .cell := Eq.trans (by kernel_rfl) rfl
theorem sh88 : CT.sh 88 = .leaf := Eq.trans (by kernel_rfl) rfl
theorem zero88 : CT.zero 88 = .lit .nilFunc := Eq.trans (by kernel_rfl) rfl
theorem bytes88 : CT.bytes 88 = 8 := Eq.trans (by kernel_rfl) rfl
theorem ty89 : CT.ty 89 = .cell := Eq.trans (by kernel_rfl) rfl
theorem sh89 : CT.sh 89 = .leaf := Eq.trans (by kernel_rfl) rfl
theorem zero89 : CT.zero 89 = .lit .nilFunc := Eq.trans (by kernel_rfl) rfl
theorem bytes89 : CT.bytes 89 = 8 := Eq.trans (by kernel_rfl) rfl
theorem ty90 : CT.ty 90 = .cell := Eq.trans (by kernel_rfl) rfl
theorem sh90 : CT.sh 90 = .leaf := Eq.trans (by kernel_rfl) rfl
theorem zero90 : CT.zero 90 = .lit .nilFunc := Eq.trans (by kernel_rfl) rfl
theorem bytes90 : CT.bytes 90 = 8 := Eq.trans (by kernel_rfl) rfl
theorem ty91 : CT.ty 91 = .cell := Eq.trans (by kernel_rfl) rfl
theorem sh91 : CT.sh 91 = .leaf := Eq.trans (by kernel_rfl) rfl
theorem zero91 : CT.zero 91 = .lit .nilFunc := Eq.trans (by kernel_rfl) rfl
theorem bytes91 : CT.bytes 91 = 8 := Eq.trans (by kernel_rfl) rfl
theorem ty97 : CT.ty 97 = .cell := Eq.trans (by kernel_rfl) rfl
theorem sh97 : CT.sh 97 = .leaf := Eq.trans (by kernel_rfl) rfl
theorem zero97 : CT.zero 97 = .lit .nilFunc := Eq.trans (by kernel_rfl) rfl
theorem bytes97 : CT.bytes 97 = 8 := Eq.trans (by kernel_rfl) rfl
theorem ty98 : CT.ty 98 = .int .u32 := Eq.trans (by kernel_rfl) rfl
theorem sh98 : CT.sh 98 = .leaf := Eq.trans (by kernel_rfl) rfl
theorem zero98 : CT.zero 98 = .lit (.int .u32 0) := Eq.trans (by kernel_rfl) rfl
theorem bytes98 : CT.bytes 98 = 4 := Eq.trans (by kernel_rfl) rfl
theorem ty101 : CT.ty 101 = .cell := Eq.trans (by kernel_rfl) rfl
theorem sh101 : CT.sh 101 = .leaf := Eq.trans (by kernel_rfl) rfl
theorem zero101 : CT.zero 101 = .lit .nilFunc := Eq.trans (by kernel_rfl) rfl
theorem bytes101 : CT.bytes 101 = 8 := Eq.trans (by kernel_rfl) rfl
theorem ty102 : CT.ty 102 = .cell := Eq.trans (by kernel_rfl) rfl
theorem sh102 : CT.sh 102 = .leaf := Eq.trans (by kernel_rfl) rfl
theorem zero102 : CT.zero 102 = .lit (.pointer none) := Eq.trans (by kernel_rfl) rfl
theorem bytes102 : CT.bytes 102 = 8 := Eq.trans (by kernel_rfl) rfl

attribute [go_sem] ty1 sh1 zero1 bytes1
  ty2 sh2 zero2 bytes2
  ty3 sh3 zero3 bytes3
  ty4 sh4 zero4 bytes4
  ty5 sh5 zero5 bytes5
  ty9 sh9 zero9 bytes9
  ty12 sh12 zero12 bytes12
  ty21 sh21 zero21 bytes21
  ty22 sh22 zero22 bytes22
  ty23 sh23 zero23 bytes23
  ty24 sh24 zero24 bytes24
  ty25 sh25 zero25 bytes25
  ty26 sh26 zero26 bytes26
  ty27 sh27 zero27 bytes27
  ty28 sh28 zero28 bytes28
  ty29 sh29 zero29 bytes29
  ty30 sh30 zero30 bytes30
  ty31 sh31 zero31 bytes31
  ty32 sh32 zero32 bytes32
  ty33 sh33 zero33 bytes33
  ty34 sh34 zero34 bytes34
  ty35 sh35 zero35 bytes35
  ty36 sh36 zero36 bytes36
  ty38 sh38 zero38 bytes38
  ty39 sh39 zero39 bytes39
  ty40 sh40 zero40 bytes40
  ty41 sh41 zero41 bytes41
  ty42 sh42 zero42 bytes42
  ty43 sh43 zero43 bytes43
  ty45 sh45 zero45 bytes45
  ty46 sh46 zero46 bytes46
  ty47 sh47 zero47 bytes47
  ty48 sh48 zero48 bytes48
  ty49 sh49 zero49 bytes49
  ty50 sh50 zero50 bytes50
  ty51 sh51 zero51 bytes51
  ty52 sh52 zero52 bytes52
  ty53 sh53 zero53 bytes53
  ty54 sh54 zero54 bytes54
  ty55 sh55 zero55 bytes55
  ty57 sh57 zero57 bytes57
  ty58 sh58 zero58 bytes58
  ty59 sh59 zero59 bytes59
  ty60 sh60 zero60 bytes60
  ty61 sh61 zero61 bytes61
  ty63 sh63 zero63 bytes63
  ty64 sh64 zero64 bytes64
  ty65 sh65 zero65 bytes65
  ty66 sh66 zero66 bytes66
  ty67 sh67 zero67 bytes67
  ty68 sh68 zero68 bytes68
  ty69 sh69 zero69 bytes69
  ty70 sh70 zero70 bytes70
  ty71 sh71 zero71 bytes71
  ty72 sh72 zero72 bytes72
  ty73 sh73 zero73 bytes73
  ty74 sh74 zero74 bytes74
  ty75 sh75 zero75 bytes75
  ty76 sh76 zero76 bytes76
  ty77 sh77 zero77 bytes77
  ty78 sh78 zero78 bytes78
  ty79 sh79 zero79 bytes79
  ty80 sh80 zero80 bytes80
  ty81 sh81 zero81 bytes81
  ty82 sh82 zero82 bytes82
  ty83 sh83 zero83 bytes83
  ty85 sh85 zero85 bytes85
  ty86 sh86 zero86 bytes86
  ty87 sh87 zero87 bytes87
  ty88 sh88 zero88 bytes88
  ty89 sh89 zero89 bytes89
  ty90 sh90 zero90 bytes90
  ty91 sh91 zero91 bytes91
  ty97 sh97 zero97 bytes97
  ty98 sh98 zero98 bytes98
  ty101 sh101 zero101 bytes101
  ty102 sh102 zero102 bytes102

end Go.Ab
