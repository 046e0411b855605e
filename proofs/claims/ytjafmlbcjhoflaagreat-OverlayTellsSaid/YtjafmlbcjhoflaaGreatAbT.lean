/- The table of this program's types, held against the program. Conditions: none. -/
import Derived.Test.YtjafmlbcjhoflaaGreatAbU
import Derived.Test.YtjafmlbcjhoflaaGreatProg
namespace Go.Ab
open Go.Proofs

def rows : List Row := [
  ⟨1, .cell, .leaf, .lit .nilFunc, 8, 1⟩,
  ⟨2, .int .i64, .leaf, .lit (.int .i64 0), 8, 1⟩,
  ⟨3, .int .i64, .leaf, .lit (.int .i64 0), 8, 1⟩,
  ⟨4, .bool, .leaf, .lit (.bool false), 1, 1⟩,
  ⟨5, .int .u8, .leaf, .lit (.int .u8 0), 1, 1⟩,
  ⟨9, .str, .leaf, .lit (.string ⟨#[]⟩), 16, 1⟩,
  ⟨12, .int .u64, .leaf, .lit (.int .u64 0), 8, 1⟩,
  ⟨21, .int .i32, .leaf, .lit (.int .i32 0), 4, 1⟩,
  ⟨22, .slice 3, .leaf, .lst 3 [] .full, 24, 1⟩,
  ⟨23, .struct [3, 22, 22], (.pair .leaf (.pair .leaf (.pair .leaf .unit))), (.agg [.lit (.int .i64 0), .lst 3 [] .full, .lst 3 [] .full]), 56, 2⟩,
  ⟨24, .struct [3, 22, 22], (.pair .leaf (.pair .leaf (.pair .leaf .unit))), (.agg [.lit (.int .i64 0), .lst 3 [] .full, .lst 3 [] .full]), 56, 2⟩,
  ⟨25, .cell, .leaf, .lit .nilFunc, 8, 1⟩,
  ⟨26, .cell, .leaf, .lit .nilFunc, 8, 1⟩,
  ⟨27, .slice 45, .leaf, .lst 45 [] .full, 24, 1⟩,
  ⟨29, .cell, .leaf, .lit .nilFunc, 8, 1⟩,
  ⟨30, .cell, .leaf, .lit .nilFunc, 8, 1⟩,
  ⟨31, .struct [3, 3], (.pair .leaf (.pair .leaf .unit)), (.agg [.lit (.int .i64 0), .lit (.int .i64 0)]), 16, 2⟩,
  ⟨32, .struct [3, 3], (.pair .leaf (.pair .leaf .unit)), (.agg [.lit (.int .i64 0), .lit (.int .i64 0)]), 16, 2⟩,
  ⟨33, .arr 13 3, (.arr 13 .leaf), (.agg ((zeros 13).map fun n => .lit (.int .i64 n))), 104, 2⟩,
  ⟨34, .arr 13 3, (.arr 13 .leaf), (.agg ((zeros 13).map fun n => .lit (.int .i64 n))), 104, 2⟩,
  ⟨35, .slice 89, .leaf, .lst 89 [] .full, 24, 1⟩,
  ⟨36, .struct [32, 34, 3, 35], (.pair (.pair .leaf (.pair .leaf .unit)) (.pair (.arr 13 .leaf) (.pair .leaf (.pair .leaf .unit)))), (.agg [(.agg [.lit (.int .i64 0), .lit (.int .i64 0)]), (.agg ((zeros 13).map fun n => .lit (.int .i64 n))), .lit (.int .i64 0), .lst 89 [] .full]), 152, 3⟩,
  ⟨37, .struct [32, 34, 3, 35], (.pair (.pair .leaf (.pair .leaf .unit)) (.pair (.arr 13 .leaf) (.pair .leaf (.pair .leaf .unit)))), (.agg [(.agg [.lit (.int .i64 0), .lit (.int .i64 0)]), (.agg ((zeros 13).map fun n => .lit (.int .i64 n))), .lit (.int .i64 0), .lst 89 [] .full]), 152, 3⟩,
  ⟨38, .slice 5, .leaf, .lst 5 [] .full, 24, 1⟩,
  ⟨39, .slice 41, .leaf, .lst 41 [] .full, 24, 1⟩,
  ⟨40, .struct [3, 39], (.pair .leaf (.pair .leaf .unit)), (.agg [.lit (.int .i64 0), .lst 41 [] .full]), 32, 2⟩,
  ⟨41, .struct [3, 39], (.pair .leaf (.pair .leaf .unit)), (.agg [.lit (.int .i64 0), .lst 41 [] .full]), 32, 2⟩,
  ⟨42, .struct [41, 41], (.pair (.pair .leaf (.pair .leaf .unit)) (.pair (.pair .leaf (.pair .leaf .unit)) .unit)), (.agg [(.agg [.lit (.int .i64 0), .lst 41 [] .full]), (.agg [.lit (.int .i64 0), .lst 41 [] .full])]), 64, 3⟩,
  ⟨43, .struct [41, 41], (.pair (.pair .leaf (.pair .leaf .unit)) (.pair (.pair .leaf (.pair .leaf .unit)) .unit)), (.agg [(.agg [.lit (.int .i64 0), .lst 41 [] .full]), (.agg [.lit (.int .i64 0), .lst 41 [] .full])]), 64, 3⟩,
  ⟨44, .struct [3, 3, 3, 37, 34, 34, 4, 3, 3, 3, 38, 43, 22], (.pair .leaf (.pair .leaf (.pair .leaf (.pair (.pair (.pair .leaf (.pair .leaf .unit)) (.pair (.arr 13 .leaf) (.pair .leaf (.pair .leaf .unit)))) (.pair (.arr 13 .leaf) (.pair (.arr 13 .leaf) (.pair .leaf (.pair .leaf (.pair .leaf (.pair .leaf (.pair .leaf (.pair (.pair (.pair .leaf (.pair .leaf .unit)) (.pair (.pair .leaf (.pair .leaf .unit)) .unit)) (.pair .leaf .unit))))))))))))), (.agg [.lit (.int .i64 0), .lit (.int .i64 0), .lit (.int .i64 0), (.agg [(.agg [.lit (.int .i64 0), .lit (.int .i64 0)]), (.agg ((zeros 13).map fun n => .lit (.int .i64 n))), .lit (.int .i64 0), .lst 89 [] .full]), (.agg ((zeros 13).map fun n => .lit (.int .i64 n))), (.agg ((zeros 13).map fun n => .lit (.int .i64 n))), .lit (.bool false), .lit (.int .i64 0), .lit (.int .i64 0), .lit (.int .i64 0), .lst 5 [] .full, (.agg [(.agg [.lit (.int .i64 0), .lst 41 [] .full]), (.agg [.lit (.int .i64 0), .lst 41 [] .full])]), .lst 3 [] .full]), 528, 4⟩,
  ⟨45, .struct [3, 3, 3, 37, 34, 34, 4, 3, 3, 3, 38, 43, 22], (.pair .leaf (.pair .leaf (.pair .leaf (.pair (.pair (.pair .leaf (.pair .leaf .unit)) (.pair (.arr 13 .leaf) (.pair .leaf (.pair .leaf .unit)))) (.pair (.arr 13 .leaf) (.pair (.arr 13 .leaf) (.pair .leaf (.pair .leaf (.pair .leaf (.pair .leaf (.pair .leaf (.pair (.pair (.pair .leaf (.pair .leaf .unit)) (.pair (.pair .leaf (.pair .leaf .unit)) .unit)) (.pair .leaf .unit))))))))))))), (.agg [.lit (.int .i64 0), .lit (.int .i64 0), .lit (.int .i64 0), (.agg [(.agg [.lit (.int .i64 0), .lit (.int .i64 0)]), (.agg ((zeros 13).map fun n => .lit (.int .i64 n))), .lit (.int .i64 0), .lst 89 [] .full]), (.agg ((zeros 13).map fun n => .lit (.int .i64 n))), (.agg ((zeros 13).map fun n => .lit (.int .i64 n))), .lit (.bool false), .lit (.int .i64 0), .lit (.int .i64 0), .lit (.int .i64 0), .lst 5 [] .full, (.agg [(.agg [.lit (.int .i64 0), .lst 41 [] .full]), (.agg [.lit (.int .i64 0), .lst 41 [] .full])]), .lst 3 [] .full]), 528, 4⟩,
  ⟨46, .cell, .leaf, .lit .nilFunc, 8, 1⟩,
  ⟨47, .cell, .leaf, .lit .nilFunc, 8, 1⟩,
  ⟨48, .cell, .leaf, .lit .nilFunc, 8, 1⟩,
  ⟨49, .cell, .leaf, .lit .nilFunc, 8, 1⟩,
  ⟨50, .cell, .leaf, .lit .nilFunc, 8, 1⟩,
  ⟨51, .cell, .leaf, .lit .nilFunc, 8, 1⟩,
  ⟨52, .cell, .leaf, .lit .nilFunc, 8, 1⟩,
  ⟨53, .cell, .leaf, .lit .nilFunc, 8, 1⟩,
  ⟨54, .slice 24, .leaf, .lst 24 [] .full, 24, 1⟩,
  ⟨55, .cell, .leaf, .lit .nilFunc, 8, 1⟩,
  ⟨56, .cell, .leaf, .lit .nilFunc, 8, 1⟩,
  ⟨57, .cell, .leaf, .lit .nilFunc, 8, 1⟩,
  ⟨59, .cell, .leaf, .lit .nilFunc, 8, 1⟩,
  ⟨60, .cell, .leaf, .lit .nilFunc, 8, 1⟩,
  ⟨61, .cell, .leaf, .lit .nilFunc, 8, 1⟩,
  ⟨62, .cell, .leaf, .lit (.pointer none), 8, 1⟩,
  ⟨63, .struct [24, 3, 27], (.pair (.pair .leaf (.pair .leaf (.pair .leaf .unit))) (.pair .leaf (.pair .leaf .unit))), (.agg [(.agg [.lit (.int .i64 0), .lst 3 [] .full, .lst 3 [] .full]), .lit (.int .i64 0), .lst 45 [] .full]), 88, 3⟩,
  ⟨64, .struct [24, 3, 27], (.pair (.pair .leaf (.pair .leaf (.pair .leaf .unit))) (.pair .leaf (.pair .leaf .unit))), (.agg [(.agg [.lit (.int .i64 0), .lst 3 [] .full, .lst 3 [] .full]), .lit (.int .i64 0), .lst 45 [] .full]), 88, 3⟩,
  ⟨65, .cell, .leaf, .lit .nilFunc, 8, 1⟩,
  ⟨66, .cell, .leaf, .lit .nilFunc, 8, 1⟩,
  ⟨67, .cell, .leaf, .lit .nilFunc, 8, 1⟩,
  ⟨68, .cell, .leaf, .lit .nilFunc, 8, 1⟩,
  ⟨70, .map 3 68, .leaf, .lit (.map none), 8, 1⟩,
  ⟨71, .cell, .leaf, .lit .nilFunc, 8, 1⟩,
  ⟨72, .cell, .leaf, .lit .nilFunc, 8, 1⟩,
  ⟨73, .cell, .leaf, .lit .nilFunc, 8, 1⟩,
  ⟨74, .cell, .leaf, .lit .nilFunc, 8, 1⟩,
  ⟨75, .cell, .leaf, .lit .nilFunc, 8, 1⟩,
  ⟨76, .cell, .leaf, .lit .nilFunc, 8, 1⟩,
  ⟨77, .cell, .leaf, .lit .nilFunc, 8, 1⟩,
  ⟨78, .cell, .leaf, .lit .nilFunc, 8, 1⟩,
  ⟨79, .cell, .leaf, .lit .nilFunc, 8, 1⟩,
  ⟨80, .cell, .leaf, .lit .nilFunc, 8, 1⟩,
  ⟨81, .cell, .leaf, .lit .nilFunc, 8, 1⟩,
  ⟨83, .cell, .leaf, .lit .nilFunc, 8, 1⟩,
  ⟨85, .cell, .leaf, .lit .nilFunc, 8, 1⟩,
  ⟨86, .struct [32, 3], (.pair (.pair .leaf (.pair .leaf .unit)) (.pair .leaf .unit)), (.agg [(.agg [.lit (.int .i64 0), .lit (.int .i64 0)]), .lit (.int .i64 0)]), 24, 3⟩,
  ⟨87, .struct [32, 3], (.pair (.pair .leaf (.pair .leaf .unit)) (.pair .leaf .unit)), (.agg [(.agg [.lit (.int .i64 0), .lit (.int .i64 0)]), .lit (.int .i64 0)]), 24, 3⟩,
  ⟨88, .struct [3, 9, 9, 3, 3, 3, 9, 87], (.pair .leaf (.pair .leaf (.pair .leaf (.pair .leaf (.pair .leaf (.pair .leaf (.pair .leaf (.pair (.pair (.pair .leaf (.pair .leaf .unit)) (.pair .leaf .unit)) .unit)))))))), (.agg [.lit (.int .i64 0), .lit (.string ⟨#[]⟩), .lit (.string ⟨#[]⟩), .lit (.int .i64 0), .lit (.int .i64 0), .lit (.int .i64 0), .lit (.string ⟨#[]⟩), (.agg [(.agg [.lit (.int .i64 0), .lit (.int .i64 0)]), .lit (.int .i64 0)])]), 104, 4⟩,
  ⟨89, .struct [3, 9, 9, 3, 3, 3, 9, 87], (.pair .leaf (.pair .leaf (.pair .leaf (.pair .leaf (.pair .leaf (.pair .leaf (.pair .leaf (.pair (.pair (.pair .leaf (.pair .leaf .unit)) (.pair .leaf .unit)) .unit)))))))), (.agg [.lit (.int .i64 0), .lit (.string ⟨#[]⟩), .lit (.string ⟨#[]⟩), .lit (.int .i64 0), .lit (.int .i64 0), .lit (.int .i64 0), .lit (.string ⟨#[]⟩), (.agg [(.agg [.lit (.int .i64 0), .lit (.int .i64 0)]), .lit (.int .i64 0)])]), 104, 4⟩,
  ⟨90, .cell, .leaf, .lit .nilFunc, 8, 1⟩,
  ⟨91, .cell, .leaf, .lit .nilFunc, 8, 1⟩,
  ⟨92, .cell, .leaf, .lit .nilFunc, 8, 1⟩,
  ⟨93, .cell, .leaf, .lit .nilFunc, 8, 1⟩,
  ⟨94, .cell, .leaf, .lit .nilFunc, 8, 1⟩,
  ⟨95, .cell, .leaf, .lit .nilFunc, 8, 1⟩,
  ⟨96, .cell, .leaf, .lit .nilFunc, 8, 1⟩,
  ⟨97, .cell, .leaf, .lit .nilFunc, 8, 1⟩,
  ⟨98, .cell, .leaf, .lit .nilFunc, 8, 1⟩,
  ⟨99, .cell, .leaf, .lit .nilFunc, 8, 1⟩,
  ⟨100, .cell, .leaf, .lit .nilFunc, 8, 1⟩,
  ⟨101, .cell, .leaf, .lit .nilFunc, 8, 1⟩,
  ⟨102, .cell, .leaf, .lit .nilFunc, 8, 1⟩,
  ⟨103, .cell, .leaf, .lit .nilFunc, 8, 1⟩,
  ⟨104, .cell, .leaf, .lit .nilFunc, 8, 1⟩,
  ⟨105, .cell, .leaf, .lit .nilFunc, 8, 1⟩,
  ⟨106, .slice 22, .leaf, .lst 22 [] .full, 24, 1⟩,
  ⟨107, .cell, .leaf, .lit .nilFunc, 8, 1⟩,
  ⟨108, .cell, .leaf, .lit .nilFunc, 8, 1⟩,
  ⟨109, .int .u64, .leaf, .lit (.int .u64 0), 8, 1⟩,
  ⟨111, .cell, .leaf, .lit .nilFunc, 8, 1⟩,
  ⟨112, .cell, .leaf, .lit .nilFunc, 8, 1⟩,
  ⟨113, .cell, .leaf, .lit .nilFunc, 8, 1⟩,
  ⟨114, .cell, .leaf, .lit .nilFunc, 8, 1⟩,
  ⟨115, .cell, .leaf, .lit .nilFunc, 8, 1⟩,
  ⟨116, .cell, .leaf, .lit .nilFunc, 8, 1⟩,
  ⟨117, .int .i64, .leaf, .lit (.int .i64 0), 8, 1⟩,
  ⟨119, .cell, .leaf, .lit .nilFunc, 8, 1⟩,
  ⟨120, .cell, .leaf, .lit .nilFunc, 8, 1⟩,
  ⟨121, .cell, .leaf, .lit .nilFunc, 8, 1⟩,
  ⟨122, .cell, .leaf, .lit .nilFunc, 8, 1⟩,
  ⟨123, .cell, .leaf, .lit .nilFunc, 8, 1⟩,
  ⟨124, .cell, .leaf, .lit .nilFunc, 8, 1⟩,
  ⟨125, .int .u32, .leaf, .lit (.int .u32 0), 4, 1⟩,
  ⟨126, .cell, .leaf, .lit .nilFunc, 8, 1⟩,
  ⟨127, .int .u64, .leaf, .lit (.int .u64 0), 8, 1⟩,
  ⟨128, .cell, .leaf, .lit .nilFunc, 8, 1⟩,
  ⟨129, .cell, .leaf, .lit .nilFunc, 8, 1⟩,
  ⟨130, .cell, .leaf, .lit .nilFunc, 8, 1⟩,
  ⟨131, .cell, .leaf, .lit .nilFunc, 8, 1⟩,
  ⟨132, .int .u64, .leaf, .lit (.int .u64 0), 8, 1⟩,
  ⟨133, .cell, .leaf, .lit .nilFunc, 8, 1⟩,
  ⟨134, .cell, .leaf, .lit .nilFunc, 8, 1⟩,
  ⟨135, .cell, .leaf, .lit .nilFunc, 8, 1⟩,
  ⟨136, .cell, .leaf, .lit (.pointer none), 8, 1⟩,
  ⟨137, .cell, .leaf, .lit .nilFunc, 8, 1⟩,
  ⟨138, .cell, .leaf, .lit .nilFunc, 8, 1⟩,
  ⟨139, .cell, .leaf, .lit .nilFunc, 8, 1⟩,
  ⟨140, .cell, .leaf, .lit .nilFunc, 8, 1⟩,
  ⟨141, .cell, .leaf, .lit .nilFunc, 8, 1⟩,
  ⟨142, .cell, .leaf, .lit .nilFunc, 8, 1⟩,
  ⟨144, .struct [89, 3], (.pair (.pair .leaf (.pair .leaf (.pair .leaf (.pair .leaf (.pair .leaf (.pair .leaf (.pair .leaf (.pair (.pair (.pair .leaf (.pair .leaf .unit)) (.pair .leaf .unit)) .unit)))))))) (.pair .leaf .unit)), (.agg [(.agg [.lit (.int .i64 0), .lit (.string ⟨#[]⟩), .lit (.string ⟨#[]⟩), .lit (.int .i64 0), .lit (.int .i64 0), .lit (.int .i64 0), .lit (.string ⟨#[]⟩), (.agg [(.agg [.lit (.int .i64 0), .lit (.int .i64 0)]), .lit (.int .i64 0)])]), .lit (.int .i64 0)]), 112, 5⟩,
  ⟨145, .struct [89, 3], (.pair (.pair .leaf (.pair .leaf (.pair .leaf (.pair .leaf (.pair .leaf (.pair .leaf (.pair .leaf (.pair (.pair (.pair .leaf (.pair .leaf .unit)) (.pair .leaf .unit)) .unit)))))))) (.pair .leaf .unit)), (.agg [(.agg [.lit (.int .i64 0), .lit (.string ⟨#[]⟩), .lit (.string ⟨#[]⟩), .lit (.int .i64 0), .lit (.int .i64 0), .lit (.int .i64 0), .lit (.string ⟨#[]⟩), (.agg [(.agg [.lit (.int .i64 0), .lit (.int .i64 0)]), .lit (.int .i64 0)])]), .lit (.int .i64 0)]), 112, 5⟩,
  ⟨146, .cell, .leaf, .lit .nilFunc, 8, 1⟩,
  ⟨147, .cell, .leaf, .lit .nilFunc, 8, 1⟩,
  ⟨148, .cell, .leaf, .lit .nilFunc, 8, 1⟩,
  ⟨149, .cell, .leaf, .lit (.pointer none), 8, 1⟩,
  ⟨150, .cell, .leaf, .lit .nilFunc, 8, 1⟩,
  ⟨151, .cell, .leaf, .lit .nilFunc, 8, 1⟩,
  ⟨152, .cell, .leaf, .lit .nilFunc, 8, 1⟩,
  ⟨153, .cell, .leaf, .lit .nilFunc, 8, 1⟩,
  ⟨154, .cell, .leaf, .lit .nilFunc, 8, 1⟩,
  ⟨156, .cell, .leaf, .lit .nilFunc, 8, 1⟩,
  ⟨157, .cell, .leaf, .lit .nilFunc, 8, 1⟩,
  ⟨158, .cell, .leaf, .lit .nilFunc, 8, 1⟩,
  ⟨159, .cell, .leaf, .lit .nilFunc, 8, 1⟩,
  ⟨160, .cell, .leaf, .lit .nilFunc, 8, 1⟩,
  ⟨168, .cell, .leaf, .lit .nilFunc, 8, 1⟩,
  ⟨169, .cell, .leaf, .lit (.pointer none), 8, 1⟩]

def CT : Tab := Tab.of rows

theorem hT : TabOk Tryz.prog CT := tabOk_rows rows (by kernel_rfl)

theorem ty1 : CT.ty 1 = .cell := Eq.trans (by kernel_rfl) rfl
theorem sh1 : CT.sh 1 = .leaf := Eq.trans (by kernel_rfl) rfl
theorem zero1 : CT.zero 1 = .lit .nilFunc := Eq.trans (by kernel_rfl) rfl
theorem bytes1 : CT.bytes 1 = 8 := Eq.trans (by kernel_rfl) rfl
theorem ty2 : CT.ty 2 = .int .i64 := Eq.trans (by kernel_rfl) rfl
theorem sh2 : CT.sh 2 = .leaf := Eq.trans (by kernel_rfl) rfl
theorem zero2 : CT.zero 2 = .lit (.int .i64 0) := Eq.trans (by kernel_rfl) rfl
theorem bytes2 : CT.bytes 2 = 8 := Eq.trans (by kernel_rfl) rfl
theorem ty3 : CT.ty 3 = .int .i64 := Eq.trans (by kernel_rfl) rfl
theorem sh3 : CT.sh 3 = .leaf := Eq.trans (by kernel_rfl) rfl
theorem zero3 : CT.zero 3 = .lit (.int .i64 0) := Eq.trans (by kernel_rfl) rfl
theorem bytes3 : CT.bytes 3 = 8 := Eq.trans (by kernel_rfl) rfl
theorem ty4 : CT.ty 4 = .bool := Eq.trans (by kernel_rfl) rfl
theorem sh4 : CT.sh 4 = .leaf := Eq.trans (by kernel_rfl) rfl
theorem zero4 : CT.zero 4 = .lit (.bool false) := Eq.trans (by kernel_rfl) rfl
theorem bytes4 : CT.bytes 4 = 1 := Eq.trans (by kernel_rfl) rfl
theorem ty5 : CT.ty 5 = .int .u8 := Eq.trans (by kernel_rfl) rfl
theorem sh5 : CT.sh 5 = .leaf := Eq.trans (by kernel_rfl) rfl
theorem zero5 : CT.zero 5 = .lit (.int .u8 0) := Eq.trans (by kernel_rfl) rfl
theorem bytes5 : CT.bytes 5 = 1 := Eq.trans (by kernel_rfl) rfl
theorem ty9 : CT.ty 9 = .str := Eq.trans (by kernel_rfl) rfl
theorem sh9 : CT.sh 9 = .leaf := Eq.trans (by kernel_rfl) rfl
theorem zero9 : CT.zero 9 = .lit (.string ⟨#[]⟩) := Eq.trans (by kernel_rfl) rfl
theorem bytes9 : CT.bytes 9 = 16 := Eq.trans (by kernel_rfl) rfl
theorem ty12 : CT.ty 12 = .int .u64 := Eq.trans (by kernel_rfl) rfl
theorem sh12 : CT.sh 12 = .leaf := Eq.trans (by kernel_rfl) rfl
theorem zero12 : CT.zero 12 = .lit (.int .u64 0) := Eq.trans (by kernel_rfl) rfl
theorem bytes12 : CT.bytes 12 = 8 := Eq.trans (by kernel_rfl) rfl
theorem ty21 : CT.ty 21 = .int .i32 := Eq.trans (by kernel_rfl) rfl
theorem sh21 : CT.sh 21 = .leaf := Eq.trans (by kernel_rfl) rfl
theorem zero21 : CT.zero 21 = .lit (.int .i32 0) := Eq.trans (by kernel_rfl) rfl
theorem bytes21 : CT.bytes 21 = 4 := Eq.trans (by kernel_rfl) rfl
theorem ty22 : CT.ty 22 = .slice 3 := Eq.trans (by kernel_rfl) rfl
theorem sh22 : CT.sh 22 = .leaf := Eq.trans (by kernel_rfl) rfl
theorem zero22 : CT.zero 22 = .lst 3 [] .full := Eq.trans (by kernel_rfl) rfl
theorem bytes22 : CT.bytes 22 = 24 := Eq.trans (by kernel_rfl) rfl
theorem ty23 : CT.ty 23 = .struct [3, 22, 22] := Eq.trans (by kernel_rfl) rfl
theorem sh23 : CT.sh 23 = (.pair .leaf (.pair .leaf (.pair .leaf .unit))) := Eq.trans (by kernel_rfl) rfl
theorem zero23 : CT.zero 23 = (.agg [.lit (.int .i64 0), .lst 3 [] .full, .lst 3 [] .full]) := Eq.trans (by kernel_rfl) rfl
theorem bytes23 : CT.bytes 23 = 56 := Eq.trans (by kernel_rfl) rfl
theorem ty24 : CT.ty 24 = .struct [3, 22, 22] := Eq.trans (by kernel_rfl) rfl
theorem sh24 : CT.sh 24 = (.pair .leaf (.pair .leaf (.pair .leaf .unit))) := Eq.trans (by kernel_rfl) rfl
theorem zero24 : CT.zero 24 = (.agg [.lit (.int .i64 0), .lst 3 [] .full, .lst 3 [] .full]) := Eq.trans (by kernel_rfl) rfl
theorem bytes24 : CT.bytes 24 = 56 := Eq.trans (by kernel_rfl) rfl
theorem ty25 : CT.ty 25 = .cell := Eq.trans (by kernel_rfl) rfl
theorem sh25 : CT.sh 25 = .leaf := Eq.trans (by kernel_rfl) rfl
theorem zero25 : CT.zero 25 = .lit .nilFunc := Eq.trans (by kernel_rfl) rfl
theorem bytes25 : CT.bytes 25 = 8 := Eq.trans (by kernel_rfl) rfl
theorem ty26 : CT.ty 26 = .cell := Eq.trans (by kernel_rfl) rfl
theorem sh26 : CT.sh 26 = .leaf := Eq.trans (by kernel_rfl) rfl
theorem zero26 : CT.zero 26 = .lit .nilFunc := Eq.trans (by kernel_rfl) rfl
theorem bytes26 : CT.bytes 26 = 8 := Eq.trans (by kernel_rfl) rfl
theorem ty27 : CT.ty 27 = .slice 45 := Eq.trans (by kernel_rfl) rfl
theorem sh27 : CT.sh 27 = .leaf := Eq.trans (by kernel_rfl) rfl
theorem zero27 : CT.zero 27 = .lst 45 [] .full := Eq.trans (by kernel_rfl) rfl
theorem bytes27 : CT.bytes 27 = 24 := Eq.trans (by kernel_rfl) rfl
theorem ty29 : CT.ty 29 = .cell := Eq.trans (by kernel_rfl) rfl
theorem sh29 : CT.sh 29 = .leaf := Eq.trans (by kernel_rfl) rfl
theorem zero29 : CT.zero 29 = .lit .nilFunc := Eq.trans (by kernel_rfl) rfl
theorem bytes29 : CT.bytes 29 = 8 := Eq.trans (by kernel_rfl) rfl
theorem ty30 : CT.ty 30 = .cell := Eq.trans (by kernel_rfl) rfl
theorem sh30 : CT.sh 30 = .leaf := Eq.trans (by kernel_rfl) rfl
theorem zero30 : CT.zero 30 = .lit .nilFunc := Eq.trans (by kernel_rfl) rfl
theorem bytes30 : CT.bytes 30 = 8 := Eq.trans (by kernel_rfl) rfl
theorem ty31 : CT.ty 31 = .struct [3, 3] := Eq.trans (by kernel_rfl) rfl
theorem sh31 : CT.sh 31 = (.pair .leaf (.pair .leaf .unit)) := Eq.trans (by kernel_rfl) rfl
theorem zero31 : CT.zero 31 = (.agg [.lit (.int .i64 0), .lit (.int .i64 0)]) := Eq.trans (by kernel_rfl) rfl
theorem bytes31 : CT.bytes 31 = 16 := Eq.trans (by kernel_rfl) rfl
theorem ty32 : CT.ty 32 = .struct [3, 3] := Eq.trans (by kernel_rfl) rfl
theorem sh32 : CT.sh 32 = (.pair .leaf (.pair .leaf .unit)) := Eq.trans (by kernel_rfl) rfl
theorem zero32 : CT.zero 32 = (.agg [.lit (.int .i64 0), .lit (.int .i64 0)]) := Eq.trans (by kernel_rfl) rfl
theorem bytes32 : CT.bytes 32 = 16 := Eq.trans (by kernel_rfl) rfl
theorem ty33 : CT.ty 33 = .arr 13 3 := Eq.trans (by kernel_rfl) rfl
theorem sh33 : CT.sh 33 = (.arr 13 .leaf) := Eq.trans (by kernel_rfl) rfl
theorem zero33 : CT.zero 33 = (.agg ((zeros 13).map fun n => .lit (.int .i64 n))) := Eq.trans (by kernel_rfl) rfl
theorem bytes33 : CT.bytes 33 = 104 := Eq.trans (by kernel_rfl) rfl
theorem ty34 : CT.ty 34 = .arr 13 3 := Eq.trans (by kernel_rfl) rfl
theorem sh34 : CT.sh 34 = (.arr 13 .leaf) := Eq.trans (by kernel_rfl) rfl
theorem zero34 : CT.zero 34 = (.agg ((zeros 13).map fun n => .lit (.int .i64 n))) := Eq.trans (by kernel_rfl) rfl
theorem bytes34 : CT.bytes 34 = 104 := Eq.trans (by kernel_rfl) rfl
theorem ty35 : CT.ty 35 = .slice 89 := Eq.trans (by kernel_rfl) rfl
theorem sh35 : CT.sh 35 = .leaf := Eq.trans (by kernel_rfl) rfl
theorem zero35 : CT.zero 35 = .lst 89 [] .full := Eq.trans (by kernel_rfl) rfl
theorem bytes35 : CT.bytes 35 = 24 := Eq.trans (by kernel_rfl) rfl
theorem ty36 : CT.ty 36 = .struct [32, 34, 3, 35] := Eq.trans (by kernel_rfl) rfl
theorem sh36 : CT.sh 36 = (.pair (.pair .leaf (.pair .leaf .unit)) (.pair (.arr 13 .leaf) (.pair .leaf (.pair .leaf .unit)))) := Eq.trans (by kernel_rfl) rfl
theorem zero36 : CT.zero 36 = (.agg [(.agg [.lit (.int .i64 0), .lit (.int .i64 0)]), (.agg ((zeros 13).map fun n => .lit (.int .i64 n))), .lit (.int .i64 0), .lst 89 [] .full]) := Eq.trans (by kernel_rfl) rfl
theorem bytes36 : CT.bytes 36 = 152 := Eq.trans (by kernel_rfl) rfl
theorem ty37 : CT.ty 37 = .struct [32, 34, 3, 35] := Eq.trans (by kernel_rfl) rfl
theorem sh37 : CT.sh 37 = (.pair (.pair .leaf (.pair .leaf .unit)) (.pair (.arr 13 .leaf) (.pair .leaf (.pair .leaf .unit)))) := Eq.trans (by kernel_rfl) rfl
theorem zero37 : CT.zero 37 = (.agg [(.agg [.lit (.int .i64 0), .lit (.int .i64 0)]), (.agg ((zeros 13).map fun n => .lit (.int .i64 n))), .lit (.int .i64 0), .lst 89 [] .full]) := Eq.trans (by kernel_rfl) rfl
theorem bytes37 : CT.bytes 37 = 152 := Eq.trans (by kernel_rfl) rfl
theorem ty38 : CT.ty 38 = .slice 5 := Eq.trans (by kernel_rfl) rfl
theorem sh38 : CT.sh 38 = .leaf := Eq.trans (by kernel_rfl) rfl
theorem zero38 : CT.zero 38 = .lst 5 [] .full := Eq.trans (by kernel_rfl) rfl
theorem bytes38 : CT.bytes 38 = 24 := Eq.trans (by kernel_rfl) rfl
theorem ty39 : CT.ty 39 = .slice 41 := Eq.trans (by kernel_rfl) rfl
theorem sh39 : CT.sh 39 = .leaf := Eq.trans (by kernel_rfl) rfl
theorem zero39 : CT.zero 39 = .lst 41 [] .full := Eq.trans (by kernel_rfl) rfl
theorem bytes39 : CT.bytes 39 = 24 := Eq.trans (by kernel_rfl) rfl
theorem ty40 : CT.ty 40 = .struct [3, 39] := Eq.trans (by kernel_rfl) rfl
theorem sh40 : CT.sh 40 = (.pair .leaf (.pair .leaf .unit)) := Eq.trans (by kernel_rfl) rfl
theorem zero40 : CT.zero 40 = (.agg [.lit (.int .i64 0), .lst 41 [] .full]) := Eq.trans (by kernel_rfl) rfl
theorem bytes40 : CT.bytes 40 = 32 := Eq.trans (by kernel_rfl) rfl
theorem ty41 : CT.ty 41 = .struct [3, 39] := Eq.trans (by kernel_rfl) rfl
theorem sh41 : CT.sh 41 = (.pair .leaf (.pair .leaf .unit)) := Eq.trans (by kernel_rfl) rfl
theorem zero41 : CT.zero 41 = (.agg [.lit (.int .i64 0), .lst 41 [] .full]) := Eq.trans (by kernel_rfl) rfl
theorem bytes41 : CT.bytes 41 = 32 := Eq.trans (by kernel_rfl) rfl
theorem ty42 : CT.ty 42 = .struct [41, 41] := Eq.trans (by kernel_rfl) rfl
theorem sh42 : CT.sh 42 = (.pair (.pair .leaf (.pair .leaf .unit)) (.pair (.pair .leaf (.pair .leaf .unit)) .unit)) := Eq.trans (by kernel_rfl) rfl
theorem zero42 : CT.zero 42 = (.agg [(.agg [.lit (.int .i64 0), .lst 41 [] .full]), (.agg [.lit (.int .i64 0), .lst 41 [] .full])]) := Eq.trans (by kernel_rfl) rfl
theorem bytes42 : CT.bytes 42 = 64 := Eq.trans (by kernel_rfl) rfl
theorem ty43 : CT.ty 43 = .struct [41, 41] := Eq.trans (by kernel_rfl) rfl
theorem sh43 : CT.sh 43 = (.pair (.pair .leaf (.pair .leaf .unit)) (.pair (.pair .leaf (.pair .leaf .unit)) .unit)) := Eq.trans (by kernel_rfl) rfl
theorem zero43 : CT.zero 43 = (.agg [(.agg [.lit (.int .i64 0), .lst 41 [] .full]), (.agg [.lit (.int .i64 0), .lst 41 [] .full])]) := Eq.trans (by kernel_rfl) rfl
theorem bytes43 : CT.bytes 43 = 64 := Eq.trans (by kernel_rfl) rfl
theorem ty44 : CT.ty 44 = .struct [3, 3, 3, 37, 34, 34, 4, 3, 3, 3, 38, 43, 22] := Eq.trans (by kernel_rfl) rfl
theorem sh44 : CT.sh 44 = (.pair .leaf (.pair .leaf (.pair .leaf (.pair (.pair (.pair .leaf (.pair .leaf .unit)) (.pair (.arr 13 .leaf) (.pair .leaf (.pair .leaf .unit)))) (.pair (.arr 13 .leaf) (.pair (.arr 13 .leaf) (.pair .leaf (.pair .leaf (.pair .leaf (.pair .leaf (.pair .leaf (.pair (.pair (.pair .leaf (.pair .leaf .unit)) (.pair (.pair .leaf (.pair .leaf .unit)) .unit)) (.pair .leaf .unit))))))))))))) := Eq.trans (by kernel_rfl) rfl
theorem zero44 : CT.zero 44 = (.agg [.lit (.int .i64 0), .lit (.int .i64 0), .lit (.int .i64 0), (.agg [(.agg [.lit (.int .i64 0), .lit (.int .i64 0)]), (.agg ((zeros 13).map fun n => .lit (.int .i64 n))), .lit (.int .i64 0), .lst 89 [] .full]), (.agg ((zeros 13).map fun n => .lit (.int .i64 n))), (.agg ((zeros 13).map fun n => .lit (.int .i64 n))), .lit (.bool false), .lit (.int .i64 0), .lit (.int .i64 0), .lit (.int .i64 0), .lst 5 [] .full, (.agg [(.agg [.lit (.int .i64 0), .lst 41 [] .full]), (.agg [.lit (.int .i64 0), .lst 41 [] .full])]), .lst 3 [] .full]) := Eq.trans (by kernel_rfl) rfl
theorem bytes44 : CT.bytes 44 = 528 := Eq.trans (by kernel_rfl) rfl
theorem ty45 : CT.ty 45 = .struct [3, 3, 3, 37, 34, 34, 4, 3, 3, 3, 38, 43, 22] := Eq.trans (by kernel_rfl) rfl
theorem sh45 : CT.sh 45 = (.pair .leaf (.pair .leaf (.pair .leaf (.pair (.pair (.pair .leaf (.pair .leaf .unit)) (.pair (.arr 13 .leaf) (.pair .leaf (.pair .leaf .unit)))) (.pair (.arr 13 .leaf) (.pair (.arr 13 .leaf) (.pair .leaf (.pair .leaf (.pair .leaf (.pair .leaf (.pair .leaf (.pair (.pair (.pair .leaf (.pair .leaf .unit)) (.pair (.pair .leaf (.pair .leaf .unit)) .unit)) (.pair .leaf .unit))))))))))))) := Eq.trans (by kernel_rfl) rfl
theorem zero45 : CT.zero 45 = (.agg [.lit (.int .i64 0), .lit (.int .i64 0), .lit (.int .i64 0), (.agg [(.agg [.lit (.int .i64 0), .lit (.int .i64 0)]), (.agg ((zeros 13).map fun n => .lit (.int .i64 n))), .lit (.int .i64 0), .lst 89 [] .full]), (.agg ((zeros 13).map fun n => .lit (.int .i64 n))), (.agg ((zeros 13).map fun n => .lit (.int .i64 n))), .lit (.bool false), .lit (.int .i64 0), .lit (.int .i64 0), .lit (.int .i64 0), .lst 5 [] .full, (.agg [(.agg [.lit (.int .i64 0), .lst 41 [] .full]), (.agg [.lit (.int .i64 0), .lst 41 [] .full])]), .lst 3 [] .full]) := Eq.trans (by kernel_rfl) rfl
theorem bytes45 : CT.bytes 45 = 528 := Eq.trans (by kernel_rfl) rfl
theorem ty46 : CT.ty 46 = .cell := Eq.trans (by kernel_rfl) rfl
theorem sh46 : CT.sh 46 = .leaf := Eq.trans (by kernel_rfl) rfl
theorem zero46 : CT.zero 46 = .lit .nilFunc := Eq.trans (by kernel_rfl) rfl
theorem bytes46 : CT.bytes 46 = 8 := Eq.trans (by kernel_rfl) rfl
theorem ty47 : CT.ty 47 = .cell := Eq.trans (by kernel_rfl) rfl
theorem sh47 : CT.sh 47 = .leaf := Eq.trans (by kernel_rfl) rfl
theorem zero47 : CT.zero 47 = .lit .nilFunc := Eq.trans (by kernel_rfl) rfl
theorem bytes47 : CT.bytes 47 = 8 := Eq.trans (by kernel_rfl) rfl
theorem ty48 : CT.ty 48 = .cell := Eq.trans (by kernel_rfl) rfl
theorem sh48 : CT.sh 48 = .leaf := Eq.trans (by kernel_rfl) rfl
theorem zero48 : CT.zero 48 = .lit .nilFunc := Eq.trans (by kernel_rfl) rfl
theorem bytes48 : CT.bytes 48 = 8 := Eq.trans (by kernel_rfl) rfl
theorem ty49 : CT.ty 49 = .cell := Eq.trans (by kernel_rfl) rfl
theorem sh49 : CT.sh 49 = .leaf := Eq.trans (by kernel_rfl) rfl
theorem zero49 : CT.zero 49 = .lit .nilFunc := Eq.trans (by kernel_rfl) rfl
theorem bytes49 : CT.bytes 49 = 8 := Eq.trans (by kernel_rfl) rfl
theorem ty50 : CT.ty 50 = .cell := Eq.trans (by kernel_rfl) rfl
theorem sh50 : CT.sh 50 = .leaf := Eq.trans (by kernel_rfl) rfl
theorem zero50 : CT.zero 50 = .lit .nilFunc := Eq.trans (by kernel_rfl) rfl
theorem bytes50 : CT.bytes 50 = 8 := Eq.trans (by kernel_rfl) rfl
theorem ty51 : CT.ty 51 = .cell := Eq.trans (by kernel_rfl) rfl
theorem sh51 : CT.sh 51 = .leaf := Eq.trans (by kernel_rfl) rfl
theorem zero51 : CT.zero 51 = .lit .nilFunc := Eq.trans (by kernel_rfl) rfl
theorem bytes51 : CT.bytes 51 = 8 := Eq.trans (by kernel_rfl) rfl
theorem ty52 : CT.ty 52 = .cell := Eq.trans (by kernel_rfl) rfl
theorem sh52 : CT.sh 52 = .leaf := Eq.trans (by kernel_rfl) rfl
theorem zero52 : CT.zero 52 = .lit .nilFunc := Eq.trans (by kernel_rfl) rfl
theorem bytes52 : CT.bytes 52 = 8 := Eq.trans (by kernel_rfl) rfl
theorem ty53 : CT.ty 53 = .cell := Eq.trans (by kernel_rfl) rfl
theorem sh53 : CT.sh 53 = .leaf := Eq.trans (by kernel_rfl) rfl
theorem zero53 : CT.zero 53 = .lit .nilFunc := Eq.trans (by kernel_rfl) rfl
theorem bytes53 : CT.bytes 53 = 8 := Eq.trans (by kernel_rfl) rfl
theorem ty54 : CT.ty 54 = .slice 24 := Eq.trans (by kernel_rfl) rfl
theorem sh54 : CT.sh 54 = .leaf := Eq.trans (by kernel_rfl) rfl
theorem zero54 : CT.zero 54 = .lst 24 [] .full := Eq.trans (by kernel_rfl) rfl
theorem bytes54 : CT.bytes 54 = 24 := Eq.trans (by kernel_rfl) rfl
theorem ty55 : CT.ty 55 = .cell := Eq.trans (by kernel_rfl) rfl
theorem sh55 : CT.sh 55 = .leaf := Eq.trans (by kernel_rfl) rfl
theorem zero55 : CT.zero 55 = .lit .nilFunc := Eq.trans (by kernel_rfl) rfl
theorem bytes55 : CT.bytes 55 = 8 := Eq.trans (by kernel_rfl) rfl
theorem ty56 : CT.ty 56 = .cell := Eq.trans (by kernel_rfl) rfl
theorem sh56 : CT.sh 56 = .leaf := Eq.trans (by kernel_rfl) rfl
theorem zero56 : CT.zero 56 = .lit .nilFunc := Eq.trans (by kernel_rfl) rfl
theorem bytes56 : CT.bytes 56 = 8 := Eq.trans (by kernel_rfl) rfl
theorem ty57 : CT.ty 57 = .cell := Eq.trans (by kernel_rfl) rfl
theorem sh57 : CT.sh 57 = .leaf := Eq.trans (by kernel_rfl) rfl
theorem zero57 : CT.zero 57 = .lit .nilFunc := Eq.trans (by kernel_rfl) rfl
theorem bytes57 : CT.bytes 57 = 8 := Eq.trans (by kernel_rfl) rfl
theorem ty59 : CT.ty 59 = .cell := Eq.trans (by kernel_rfl) rfl
theorem sh59 : CT.sh 59 = .leaf := Eq.trans (by kernel_rfl) rfl
theorem zero59 : CT.zero 59 = .lit .nilFunc := Eq.trans (by kernel_rfl) rfl
theorem bytes59 : CT.bytes 59 = 8 := Eq.trans (by kernel_rfl) rfl
theorem ty60 : CT.ty 60 = .cell := Eq.trans (by kernel_rfl) rfl
theorem sh60 : CT.sh 60 = .leaf := Eq.trans (by kernel_rfl) rfl
theorem zero60 : CT.zero 60 = .lit .nilFunc := Eq.trans (by kernel_rfl) rfl
theorem bytes60 : CT.bytes 60 = 8 := Eq.trans (by kernel_rfl) rfl
theorem ty61 : CT.ty 61 = .cell := Eq.trans (by kernel_rfl) rfl
theorem sh61 : CT.sh 61 = .leaf := Eq.trans (by kernel_rfl) rfl
theorem zero61 : CT.zero 61 = .lit .nilFunc := Eq.trans (by kernel_rfl) rfl
theorem bytes61 : CT.bytes 61 = 8 := Eq.trans (by kernel_rfl) rfl
theorem ty62 : CT.ty 62 = .cell := Eq.trans (by kernel_rfl) rfl
theorem sh62 : CT.sh 62 = .leaf := Eq.trans (by kernel_rfl) rfl
theorem zero62 : CT.zero 62 = .lit (.pointer none) := Eq.trans (by kernel_rfl) rfl
theorem bytes62 : CT.bytes 62 = 8 := Eq.trans (by kernel_rfl) rfl
theorem ty63 : CT.ty 63 = .struct [24, 3, 27] := Eq.trans (by kernel_rfl) rfl
theorem sh63 : CT.sh 63 = (.pair (.pair .leaf (.pair .leaf (.pair .leaf .unit))) (.pair .leaf (.pair .leaf .unit))) := Eq.trans (by kernel_rfl) rfl
theorem zero63 : CT.zero 63 = (.agg [(.agg [.lit (.int .i64 0), .lst 3 [] .full, .lst 3 [] .full]), .lit (.int .i64 0), .lst 45 [] .full]) := Eq.trans (by kernel_rfl) rfl
theorem bytes63 : CT.bytes 63 = 88 := Eq.trans (by kernel_rfl) rfl
theorem ty64 : CT.ty 64 = .struct [24, 3, 27] := Eq.trans (by kernel_rfl) rfl
theorem sh64 : CT.sh 64 = (.pair (.pair .leaf (.pair .leaf (.pair .leaf .unit))) (.pair .leaf (.pair .leaf .unit))) := Eq.trans (by kernel_rfl) rfl
theorem zero64 : CT.zero 64 = (.agg [(.agg [.lit (.int .i64 0), .lst 3 [] .full, .lst 3 [] .full]), .lit (.int .i64 0), .lst 45 [] .full]) := Eq.trans (by kernel_rfl) rfl
theorem bytes64 : CT.bytes 64 = 88 := Eq.trans (by kernel_rfl) rfl
theorem ty65 : CT.ty 65 = .cell := Eq.trans (by kernel_rfl) rfl
theorem sh65 : CT.sh 65 = .leaf := Eq.trans (by kernel_rfl) rfl
theorem zero65 : CT.zero 65 = .lit .nilFunc := Eq.trans (by kernel_rfl) rfl
theorem bytes65 : CT.bytes 65 = 8 := Eq.trans (by kernel_rfl) rfl
theorem ty66 : CT.ty 66 = .cell := Eq.trans (by kernel_rfl) rfl
theorem sh66 : CT.sh 66 = .leaf := Eq.trans (by kernel_rfl) rfl
theorem zero66 : CT.zero 66 = .lit .nilFunc := Eq.trans (by kernel_rfl) rfl
theorem bytes66 : CT.bytes 66 = 8 := Eq.trans (by kernel_rfl) rfl
theorem ty67 : CT.ty 67 = .cell := Eq.trans (by kernel_rfl) rfl
theorem sh67 : CT.sh 67 = .leaf := Eq.trans (by kernel_rfl) rfl
theorem zero67 : CT.zero 67 = .lit .nilFunc := Eq.trans (by kernel_rfl) rfl
theorem bytes67 : CT.bytes 67 = 8 := Eq.trans (by kernel_rfl) rfl
theorem ty68 : CT.ty 68 = .cell := Eq.trans (by kernel_rfl) rfl
theorem sh68 : CT.sh 68 = .leaf := Eq.trans (by kernel_rfl) rfl
theorem zero68 : CT.zero 68 = .lit .nilFunc := Eq.trans (by kernel_rfl) rfl
theorem bytes68 : CT.bytes 68 = 8 := Eq.trans (by kernel_rfl) rfl
theorem ty70 : CT.ty 70 = .map 3 68 := Eq.trans (by kernel_rfl) rfl
theorem sh70 : CT.sh 70 = .leaf := Eq.trans (by kernel_rfl) rfl
theorem zero70 : CT.zero 70 = .lit (.map none) := Eq.trans (by kernel_rfl) rfl
theorem bytes70 : CT.bytes 70 = 8 := Eq.trans (by kernel_rfl) rfl
theorem ty71 : CT.ty 71 = .cell := Eq.trans (by kernel_rfl) rfl
theorem sh71 : CT.sh 71 = .leaf := Eq.trans (by kernel_rfl) rfl
theorem zero71 : CT.zero 71 = .lit .nilFunc := Eq.trans (by kernel_rfl) rfl
theorem bytes71 : CT.bytes 71 = 8 := Eq.trans (by kernel_rfl) rfl
theorem ty72 : CT.ty 72 = .cell := Eq.trans (by kernel_rfl) rfl
theorem sh72 : CT.sh 72 = .leaf := Eq.trans (by kernel_rfl) rfl
theorem zero72 : CT.zero 72 = .lit .nilFunc := Eq.trans (by kernel_rfl) rfl
theorem bytes72 : CT.bytes 72 = 8 := Eq.trans (by kernel_rfl) rfl
theorem ty73 : CT.ty 73 = .cell := Eq.trans (by kernel_rfl) rfl
theorem sh73 : CT.sh 73 = .leaf := Eq.trans (by kernel_rfl) rfl
theorem zero73 : CT.zero 73 = .lit .nilFunc := Eq.trans (by kernel_rfl) rfl
theorem bytes73 : CT.bytes 73 = 8 := Eq.trans (by kernel_rfl) rfl
theorem ty74 : CT.ty 74 = .cell := Eq.trans (by kernel_rfl) rfl
theorem sh74 : CT.sh 74 = .leaf := Eq.trans (by kernel_rfl) rfl
theorem zero74 : CT.zero 74 = .lit .nilFunc := Eq.trans (by kernel_rfl) rfl
theorem bytes74 : CT.bytes 74 = 8 := Eq.trans (by kernel_rfl) rfl
theorem ty75 : CT.ty 75 = .cell := Eq.trans (by kernel_rfl) rfl
theorem sh75 : CT.sh 75 = .leaf := Eq.trans (by kernel_rfl) rfl
theorem zero75 : CT.zero 75 = .lit .nilFunc := Eq.trans (by kernel_rfl) rfl
theorem bytes75 : CT.bytes 75 = 8 := Eq.trans (by kernel_rfl) rfl
theorem ty76 : CT.ty 76 = .cell := Eq.trans (by kernel_rfl) rfl
theorem sh76 : CT.sh 76 = .leaf := Eq.trans (by kernel_rfl) rfl
theorem zero76 : CT.zero 76 = .lit .nilFunc := Eq.trans (by kernel_rfl) rfl
theorem bytes76 : CT.bytes 76 = 8 := Eq.trans (by kernel_rfl) rfl
theorem ty77 : CT.ty 77 = .cell := Eq.trans (by kernel_rfl) rfl
theorem sh77 : CT.sh 77 = .leaf := Eq.trans (by kernel_rfl) rfl
theorem zero77 : CT.zero 77 = .lit .nilFunc := Eq.trans (by kernel_rfl) rfl
theorem bytes77 : CT.bytes 77 = 8 := Eq.trans (by kernel_rfl) rfl
theorem ty78 : CT.ty 78 = .cell := Eq.trans (by kernel_rfl) rfl
theorem sh78 : CT.sh 78 = .leaf := Eq.trans (by kernel_rfl) rfl
theorem zero78 : CT.zero 78 = .lit .nilFunc := Eq.trans (by kernel_rfl) rfl
theorem bytes78 : CT.bytes 78 = 8 := Eq.trans (by kernel_rfl) rfl
theorem ty79 : CT.ty 79 = .cell := Eq.trans (by kernel_rfl) rfl
theorem sh79 : CT.sh 79 = .leaf := Eq.trans (by kernel_rfl) rfl
theorem zero79 : CT.zero 79 = .lit .nilFunc := Eq.trans (by kernel_rfl) rfl
theorem bytes79 : CT.bytes 79 = 8 := Eq.trans (by kernel_rfl) rfl
theorem ty80 : CT.ty 80 = .cell := Eq.trans (by kernel_rfl) rfl
theorem sh80 : CT.sh 80 = .leaf := Eq.trans (by kernel_rfl) rfl
theorem zero80 : CT.zero 80 = .lit .nilFunc := Eq.trans (by kernel_rfl) rfl
theorem bytes80 : CT.bytes 80 = 8 := Eq.trans (by kernel_rfl) rfl
theorem ty81 : CT.ty 81 = .cell := Eq.trans (by kernel_rfl) rfl
theorem sh81 : CT.sh 81 = .leaf := Eq.trans (by kernel_rfl) rfl
theorem zero81 : CT.zero 81 = .lit .nilFunc := Eq.trans (by kernel_rfl) rfl
theorem bytes81 : CT.bytes 81 = 8 := Eq.trans (by kernel_rfl) rfl
theorem ty83 : CT.ty 83 = .cell := Eq.trans (by kernel_rfl) rfl
theorem sh83 : CT.sh 83 = .leaf := Eq.trans (by kernel_rfl) rfl
theorem zero83 : CT.zero 83 = .lit .nilFunc := Eq.trans (by kernel_rfl) rfl
theorem bytes83 : CT.bytes 83 = 8 := Eq.trans (by kernel_rfl) rfl
theorem ty85 : CT.ty 85 = .cell := Eq.trans (by kernel_rfl) rfl
theorem sh85 : CT.sh 85 = .leaf := Eq.trans (by kernel_rfl) rfl
theorem zero85 : CT.zero 85 = .lit .nilFunc := Eq.trans (by kernel_rfl) rfl
theorem bytes85 : CT.bytes 85 = 8 := Eq.trans (by kernel_rfl) rfl
theorem ty86 : CT.ty 86 = .struct [32, 3] := Eq.trans (by kernel_rfl) rfl
theorem sh86 : CT.sh 86 = (.pair (.pair .leaf (.pair .leaf .unit)) (.pair .leaf .unit)) := Eq.trans (by kernel_rfl) rfl
theorem zero86 : CT.zero 86 = (.agg [(.agg [.lit (.int .i64 0), .lit (.int .i64 0)]), .lit (.int .i64 0)]) := Eq.trans (by kernel_rfl) rfl
theorem bytes86 : CT.bytes 86 = 24 := Eq.trans (by kernel_rfl) rfl
theorem ty87 : CT.ty 87 = .struct [32, 3] := Eq.trans (by kernel_rfl) rfl
theorem sh87 : CT.sh 87 = (.pair (.pair .leaf (.pair .leaf .unit)) (.pair .leaf .unit)) := Eq.trans (by kernel_rfl) rfl
theorem zero87 : CT.zero 87 = (.agg [(.agg [.lit (.int .i64 0), .lit (.int .i64 0)]), .lit (.int .i64 0)]) := Eq.trans (by kernel_rfl) rfl
theorem bytes87 : CT.bytes 87 = 24 := Eq.trans (by kernel_rfl) rfl
theorem ty88 : CT.ty 88 = .struct [3, 9, 9, 3, 3, 3, 9, 87] := Eq.trans (by kernel_rfl) rfl
theorem sh88 : CT.sh 88 = (.pair .leaf (.pair .leaf (.pair .leaf (.pair .leaf (.pair .leaf (.pair .leaf (.pair .leaf (.pair (.pair (.pair .leaf (.pair .leaf .unit)) (.pair .leaf .unit)) .unit)))))))) := Eq.trans (by kernel_rfl) rfl
theorem zero88 : CT.zero 88 = (.agg [.lit (.int .i64 0), .lit (.string ⟨#[]⟩), .lit (.string ⟨#[]⟩), .lit (.int .i64 0), .lit (.int .i64 0), .lit (.int .i64 0), .lit (.string ⟨#[]⟩), (.agg [(.agg [.lit (.int .i64 0), .lit (.int .i64 0)]), .lit (.int .i64 0)])]) := Eq.trans (by kernel_rfl) rfl
theorem bytes88 : CT.bytes 88 = 104 := Eq.trans (by kernel_rfl) rfl
theorem ty89 : CT.ty 89 = .struct [3, 9, 9, 3, 3, 3, 9, 87] := Eq.trans (by kernel_rfl) rfl
theorem sh89 : CT.sh 89 = (.pair .leaf (.pair .leaf (.pair .leaf (.pair .leaf (.pair .leaf (.pair .leaf (.pair .leaf (.pair (.pair (.pair .leaf (.pair .leaf .unit)) (.pair .leaf .unit)) .unit)))))))) := Eq.trans (by kernel_rfl) rfl
theorem zero89 : CT.zero 89 = (.agg [.lit (.int .i64 0), .lit (.string ⟨#[]⟩), .lit (.string ⟨#[]⟩), .lit (.int .i64 0), .lit (.int .i64 0), .lit (.int .i64 0), .lit (.string ⟨#[]⟩), (.agg [(.agg [.lit (.int .i64 0), .lit (.int .i64 0)]), .lit (.int .i64 0)])]) := Eq.trans (by kernel_rfl) rfl
theorem bytes89 : CT.bytes 89 = 104 := Eq.trans (by kernel_rfl) rfl
theorem ty90 : CT.ty 90 = .cell := Eq.trans (by kernel_rfl) rfl
theorem sh90 : CT.sh 90 = .leaf := Eq.trans (by kernel_rfl) rfl
theorem zero90 : CT.zero 90 = .lit .nilFunc := Eq.trans (by kernel_rfl) rfl
theorem bytes90 : CT.bytes 90 = 8 := Eq.trans (by kernel_rfl) rfl
theorem ty91 : CT.ty 91 = .cell := Eq.trans (by kernel_rfl) rfl
theorem sh91 : CT.sh 91 = .leaf := Eq.trans (by kernel_rfl) rfl
theorem zero91 : CT.zero 91 = .lit .nilFunc := Eq.trans (by kernel_rfl) rfl
theorem bytes91 : CT.bytes 91 = 8 := Eq.trans (by kernel_rfl) rfl
theorem ty92 : CT.ty 92 = .cell := Eq.trans (by kernel_rfl) rfl
theorem sh92 : CT.sh 92 = .leaf := Eq.trans (by kernel_rfl) rfl
theorem zero92 : CT.zero 92 = .lit .nilFunc := Eq.trans (by kernel_rfl) rfl
theorem bytes92 : CT.bytes 92 = 8 := Eq.trans (by kernel_rfl) rfl
theorem ty93 : CT.ty 93 = .cell := Eq.trans (by kernel_rfl) rfl
theorem sh93 : CT.sh 93 = .leaf := Eq.trans (by kernel_rfl) rfl
theorem zero93 : CT.zero 93 = .lit .nilFunc := Eq.trans (by kernel_rfl) rfl
theorem bytes93 : CT.bytes 93 = 8 := Eq.trans (by kernel_rfl) rfl
theorem ty94 : CT.ty 94 = .cell := Eq.trans (by kernel_rfl) rfl
theorem sh94 : CT.sh 94 = .leaf := Eq.trans (by kernel_rfl) rfl
theorem zero94 : CT.zero 94 = .lit .nilFunc := Eq.trans (by kernel_rfl) rfl
theorem bytes94 : CT.bytes 94 = 8 := Eq.trans (by kernel_rfl) rfl
theorem ty95 : CT.ty 95 = .cell := Eq.trans (by kernel_rfl) rfl
theorem sh95 : CT.sh 95 = .leaf := Eq.trans (by kernel_rfl) rfl
theorem zero95 : CT.zero 95 = .lit .nilFunc := Eq.trans (by kernel_rfl) rfl
theorem bytes95 : CT.bytes 95 = 8 := Eq.trans (by kernel_rfl) rfl
theorem ty96 : CT.ty 96 = .cell := Eq.trans (by kernel_rfl) rfl
theorem sh96 : CT.sh 96 = .leaf := Eq.trans (by kernel_rfl) rfl
theorem zero96 : CT.zero 96 = .lit .nilFunc := Eq.trans (by kernel_rfl) rfl
theorem bytes96 : CT.bytes 96 = 8 := Eq.trans (by kernel_rfl) rfl
theorem ty97 : CT.ty 97 = .cell := Eq.trans (by kernel_rfl) rfl
theorem sh97 : CT.sh 97 = .leaf := Eq.trans (by kernel_rfl) rfl
theorem zero97 : CT.zero 97 = .lit .nilFunc := Eq.trans (by kernel_rfl) rfl
theorem bytes97 : CT.bytes 97 = 8 := Eq.trans (by kernel_rfl) rfl
theorem ty98 : CT.ty 98 = .cell := Eq.trans (by kernel_rfl) rfl
theorem sh98 : CT.sh 98 = .leaf := Eq.trans (by kernel_rfl) rfl
theorem zero98 : CT.zero 98 = .lit .nilFunc := Eq.trans (by kernel_rfl) rfl
theorem bytes98 : CT.bytes 98 = 8 := Eq.trans (by kernel_rfl) rfl
theorem ty99 : CT.ty 99 = .cell := Eq.trans (by kernel_rfl) rfl
theorem sh99 : CT.sh 99 = .leaf := Eq.trans (by kernel_rfl) rfl
theorem zero99 : CT.zero 99 = .lit .nilFunc := Eq.trans (by kernel_rfl) rfl
theorem bytes99 : CT.bytes 99 = 8 := Eq.trans (by kernel_rfl) rfl
theorem ty100 : CT.ty 100 = .cell := Eq.trans (by kernel_rfl) rfl
theorem sh100 : CT.sh 100 = .leaf := Eq.trans (by kernel_rfl) rfl
theorem zero100 : CT.zero 100 = .lit .nilFunc := Eq.trans (by kernel_rfl) rfl
theorem bytes100 : CT.bytes 100 = 8 := Eq.trans (by kernel_rfl) rfl
theorem ty101 : CT.ty 101 = .cell := Eq.trans (by kernel_rfl) rfl
theorem sh101 : CT.sh 101 = .leaf := Eq.trans (by kernel_rfl) rfl
theorem zero101 : CT.zero 101 = .lit .nilFunc := Eq.trans (by kernel_rfl) rfl
theorem bytes101 : CT.bytes 101 = 8 := Eq.trans (by kernel_rfl) rfl
theorem ty102 : CT.ty 102 = .cell := Eq.trans (by kernel_rfl) rfl
theorem sh102 : CT.sh 102 = .leaf := Eq.trans (by kernel_rfl) rfl
theorem zero102 : CT.zero 102 = .lit .nilFunc := Eq.trans (by kernel_rfl) rfl
theorem bytes102 : CT.bytes 102 = 8 := Eq.trans (by kernel_rfl) rfl
theorem ty103 : CT.ty 103 = .cell := Eq.trans (by kernel_rfl) rfl
theorem sh103 : CT.sh 103 = .leaf := Eq.trans (by kernel_rfl) rfl
theorem zero103 : CT.zero 103 = .lit .nilFunc := Eq.trans (by kernel_rfl) rfl
theorem bytes103 : CT.bytes 103 = 8 := Eq.trans (by kernel_rfl) rfl
theorem ty104 : CT.ty 104 = .cell := Eq.trans (by kernel_rfl) rfl
theorem sh104 : CT.sh 104 = .leaf := Eq.trans (by kernel_rfl) rfl
theorem zero104 : CT.zero 104 = .lit .nilFunc := Eq.trans (by kernel_rfl) rfl
theorem bytes104 : CT.bytes 104 = 8 := Eq.trans (by kernel_rfl) rfl
theorem ty105 : CT.ty 105 = .cell := Eq.trans (by kernel_rfl) rfl
theorem sh105 : CT.sh 105 = .leaf := Eq.trans (by kernel_rfl) rfl
theorem zero105 : CT.zero 105 = .lit .nilFunc := Eq.trans (by kernel_rfl) rfl
theorem bytes105 : CT.bytes 105 = 8 := Eq.trans (by kernel_rfl) rfl
theorem ty106 : CT.ty 106 = .slice 22 := Eq.trans (by kernel_rfl) rfl
theorem sh106 : CT.sh 106 = .leaf := Eq.trans (by kernel_rfl) rfl
theorem zero106 : CT.zero 106 = .lst 22 [] .full := Eq.trans (by kernel_rfl) rfl
theorem bytes106 : CT.bytes 106 = 24 := Eq.trans (by kernel_rfl) rfl
theorem ty107 : CT.ty 107 = .cell := Eq.trans (by kernel_rfl) rfl
theorem sh107 : CT.sh 107 = .leaf := Eq.trans (by kernel_rfl) rfl
theorem zero107 : CT.zero 107 = .lit .nilFunc := Eq.trans (by kernel_rfl) rfl
theorem bytes107 : CT.bytes 107 = 8 := Eq.trans (by kernel_rfl) rfl
theorem ty108 : CT.ty 108 = .cell := Eq.trans (by kernel_rfl) rfl
theorem sh108 : CT.sh 108 = .leaf := Eq.trans (by kernel_rfl) rfl
theorem zero108 : CT.zero 108 = .lit .nilFunc := Eq.trans (by kernel_rfl) rfl
theorem bytes108 : CT.bytes 108 = 8 := Eq.trans (by kernel_rfl) rfl
theorem ty109 : CT.ty 109 = .int .u64 := Eq.trans (by kernel_rfl) rfl
theorem sh109 : CT.sh 109 = .leaf := Eq.trans (by kernel_rfl) rfl
theorem zero109 : CT.zero 109 = .lit (.int .u64 0) := Eq.trans (by kernel_rfl) rfl
theorem bytes109 : CT.bytes 109 = 8 := Eq.trans (by kernel_rfl) rfl
theorem ty111 : CT.ty 111 = .cell := Eq.trans (by kernel_rfl) rfl
theorem sh111 : CT.sh 111 = .leaf := Eq.trans (by kernel_rfl) rfl
theorem zero111 : CT.zero 111 = .lit .nilFunc := Eq.trans (by kernel_rfl) rfl
theorem bytes111 : CT.bytes 111 = 8 := Eq.trans (by kernel_rfl) rfl
theorem ty112 : CT.ty 112 = .cell := Eq.trans (by kernel_rfl) rfl
theorem sh112 : CT.sh 112 = .leaf := Eq.trans (by kernel_rfl) rfl
theorem zero112 : CT.zero 112 = .lit .nilFunc := Eq.trans (by kernel_rfl) rfl
theorem bytes112 : CT.bytes 112 = 8 := Eq.trans (by kernel_rfl) rfl
theorem ty113 : CT.ty 113 = .cell := Eq.trans (by kernel_rfl) rfl
theorem sh113 : CT.sh 113 = .leaf := Eq.trans (by kernel_rfl) rfl
theorem zero113 : CT.zero 113 = .lit .nilFunc := Eq.trans (by kernel_rfl) rfl
theorem bytes113 : CT.bytes 113 = 8 := Eq.trans (by kernel_rfl) rfl
theorem ty114 : CT.ty 114 = .cell := Eq.trans (by kernel_rfl) rfl
theorem sh114 : CT.sh 114 = .leaf := Eq.trans (by kernel_rfl) rfl
theorem zero114 : CT.zero 114 = .lit .nilFunc := Eq.trans (by kernel_rfl) rfl
theorem bytes114 : CT.bytes 114 = 8 := Eq.trans (by kernel_rfl) rfl
theorem ty115 : CT.ty 115 = .cell := Eq.trans (by kernel_rfl) rfl
theorem sh115 : CT.sh 115 = .leaf := Eq.trans (by kernel_rfl) rfl
theorem zero115 : CT.zero 115 = .lit .nilFunc := Eq.trans (by kernel_rfl) rfl
theorem bytes115 : CT.bytes 115 = 8 := Eq.trans (by kernel_rfl) rfl
theorem ty116 : CT.ty 116 = .cell := Eq.trans (by kernel_rfl) rfl
theorem sh116 : CT.sh 116 = .leaf := Eq.trans (by kernel_rfl) rfl
theorem zero116 : CT.zero 116 = .lit .nilFunc := Eq.trans (by kernel_rfl) rfl
theorem bytes116 : CT.bytes 116 = 8 := Eq.trans (by kernel_rfl) rfl
theorem ty117 : CT.ty 117 = .int .i64 := Eq.trans (by kernel_rfl) rfl
theorem sh117 : CT.sh 117 = .leaf := Eq.trans (by kernel_rfl) rfl
theorem zero117 : CT.zero 117 = .lit (.int .i64 0) := Eq.trans (by kernel_rfl) rfl
theorem bytes117 : CT.bytes 117 = 8 := Eq.trans (by kernel_rfl) rfl
theorem ty119 : CT.ty 119 = .cell := Eq.trans (by kernel_rfl) rfl
theorem sh119 : CT.sh 119 = .leaf := Eq.trans (by kernel_rfl) rfl
theorem zero119 : CT.zero 119 = .lit .nilFunc := Eq.trans (by kernel_rfl) rfl
theorem bytes119 : CT.bytes 119 = 8 := Eq.trans (by kernel_rfl) rfl
theorem ty120 : CT.ty 120 = .cell := Eq.trans (by kernel_rfl) rfl
theorem sh120 : CT.sh 120 = .leaf := Eq.trans (by kernel_rfl) rfl
theorem zero120 : CT.zero 120 = .lit .nilFunc := Eq.trans (by kernel_rfl) rfl
theorem bytes120 : CT.bytes 120 = 8 := Eq.trans (by kernel_rfl) rfl
theorem ty121 : CT.ty 121 = .cell := Eq.trans (by kernel_rfl) rfl
theorem sh121 : CT.sh 121 = .leaf := Eq.trans (by kernel_rfl) rfl
theorem zero121 : CT.zero 121 = .lit .nilFunc := Eq.trans (by kernel_rfl) rfl
theorem bytes121 : CT.bytes 121 = 8 := Eq.trans (by kernel_rfl) rfl
theorem ty122 : CT.ty 122 = .cell := Eq.trans (by kernel_rfl) rfl
theorem sh122 : CT.sh 122 = .leaf := Eq.trans (by kernel_rfl) rfl
theorem zero122 : CT.zero 122 = .lit .nilFunc := Eq.trans (by kernel_rfl) rfl
theorem bytes122 : CT.bytes 122 = 8 := Eq.trans (by kernel_rfl) rfl
theorem ty123 : CT.ty 123 = .cell := Eq.trans (by kernel_rfl) rfl
theorem sh123 : CT.sh 123 = .leaf := Eq.trans (by kernel_rfl) rfl
theorem zero123 : CT.zero 123 = .lit .nilFunc := Eq.trans (by kernel_rfl) rfl
theorem bytes123 : CT.bytes 123 = 8 := Eq.trans (by kernel_rfl) rfl
theorem ty124 : CT.ty 124 = .cell := Eq.trans (by kernel_rfl) rfl
theorem sh124 : CT.sh 124 = .leaf := Eq.trans (by kernel_rfl) rfl
theorem zero124 : CT.zero 124 = .lit .nilFunc := Eq.trans (by kernel_rfl) rfl
theorem bytes124 : CT.bytes 124 = 8 := Eq.trans (by kernel_rfl) rfl
theorem ty125 : CT.ty 125 = .int .u32 := Eq.trans (by kernel_rfl) rfl
theorem sh125 : CT.sh 125 = .leaf := Eq.trans (by kernel_rfl) rfl
theorem zero125 : CT.zero 125 = .lit (.int .u32 0) := Eq.trans (by kernel_rfl) rfl
theorem bytes125 : CT.bytes 125 = 4 := Eq.trans (by kernel_rfl) rfl
theorem ty126 : CT.ty 126 = .cell := Eq.trans (by kernel_rfl) rfl
theorem sh126 : CT.sh 126 = .leaf := Eq.trans (by kernel_rfl) rfl
theorem zero126 : CT.zero 126 = .lit .nilFunc := Eq.trans (by kernel_rfl) rfl
theorem bytes126 : CT.bytes 126 = 8 := Eq.trans (by kernel_rfl) rfl
theorem ty127 : CT.ty 127 = .int .u64 := Eq.trans (by kernel_rfl) rfl
theorem sh127 : CT.sh 127 = .leaf := Eq.trans (by kernel_rfl) rfl
theorem zero127 : CT.zero 127 = .lit (.int .u64 0) := Eq.trans (by kernel_rfl) rfl
theorem bytes127 : CT.bytes 127 = 8 := Eq.trans (by kernel_rfl) rfl
theorem ty128 : CT.ty 128 = .cell := Eq.trans (by kernel_rfl) rfl
theorem sh128 : CT.sh 128 = .leaf := Eq.trans (by kernel_rfl) rfl
theorem zero128 : CT.zero 128 = .lit .nilFunc := Eq.trans (by kernel_rfl) rfl
theorem bytes128 : CT.bytes 128 = 8 := Eq.trans (by kernel_rfl) rfl
theorem ty129 : CT.ty 129 = .cell := Eq.trans (by kernel_rfl) rfl
theorem sh129 : CT.sh 129 = .leaf := Eq.trans (by kernel_rfl) rfl
theorem zero129 : CT.zero 129 = .lit .nilFunc := Eq.trans (by kernel_rfl) rfl
theorem bytes129 : CT.bytes 129 = 8 := Eq.trans (by kernel_rfl) rfl
theorem ty130 : CT.ty 130 = .cell := Eq.trans (by kernel_rfl) rfl
theorem sh130 : CT.sh 130 = .leaf := Eq.trans (by kernel_rfl) rfl
theorem zero130 : CT.zero 130 = .lit .nilFunc := Eq.trans (by kernel_rfl) rfl
theorem bytes130 : CT.bytes 130 = 8 := Eq.trans (by kernel_rfl) rfl
theorem ty131 : CT.ty 131 = .cell := Eq.trans (by kernel_rfl) rfl
theorem sh131 : CT.sh 131 = .leaf := Eq.trans (by kernel_rfl) rfl
theorem zero131 : CT.zero 131 = .lit .nilFunc := Eq.trans (by kernel_rfl) rfl
theorem bytes131 : CT.bytes 131 = 8 := Eq.trans (by kernel_rfl) rfl
theorem ty132 : CT.ty 132 = .int .u64 := Eq.trans (by kernel_rfl) rfl
theorem sh132 : CT.sh 132 = .leaf := Eq.trans (by kernel_rfl) rfl
theorem zero132 : CT.zero 132 = .lit (.int .u64 0) := Eq.trans (by kernel_rfl) rfl
theorem bytes132 : CT.bytes 132 = 8 := Eq.trans (by kernel_rfl) rfl
theorem ty133 : CT.ty 133 = .cell := Eq.trans (by kernel_rfl) rfl
theorem sh133 : CT.sh 133 = .leaf := Eq.trans (by kernel_rfl) rfl
theorem zero133 : CT.zero 133 = .lit .nilFunc := Eq.trans (by kernel_rfl) rfl
theorem bytes133 : CT.bytes 133 = 8 := Eq.trans (by kernel_rfl) rfl
theorem ty134 : CT.ty 134 = .cell := Eq.trans (by kernel_rfl) rfl
theorem sh134 : CT.sh 134 = .leaf := Eq.trans (by kernel_rfl) rfl
theorem zero134 : CT.zero 134 = .lit .nilFunc := Eq.trans (by kernel_rfl) rfl
theorem bytes134 : CT.bytes 134 = 8 := Eq.trans (by kernel_rfl) rfl
theorem ty135 : CT.ty 135 = .cell := Eq.trans (by kernel_rfl) rfl
theorem sh135 : CT.sh 135 = .leaf := Eq.trans (by kernel_rfl) rfl
theorem zero135 : CT.zero 135 = .lit .nilFunc := Eq.trans (by kernel_rfl) rfl
theorem bytes135 : CT.bytes 135 = 8 := Eq.trans (by kernel_rfl) rfl
theorem ty136 : CT.ty 136 = .cell := Eq.trans (by kernel_rfl) rfl
theorem sh136 : CT.sh 136 = .leaf := Eq.trans (by kernel_rfl) rfl
theorem zero136 : CT.zero 136 = .lit (.pointer none) := Eq.trans (by kernel_rfl) rfl
theorem bytes136 : CT.bytes 136 = 8 := Eq.trans (by kernel_rfl) rfl
theorem ty137 : CT.ty 137 = .cell := Eq.trans (by kernel_rfl) rfl
theorem sh137 : CT.sh 137 = .leaf := Eq.trans (by kernel_rfl) rfl
theorem zero137 : CT.zero 137 = .lit .nilFunc := Eq.trans (by kernel_rfl) rfl
theorem bytes137 : CT.bytes 137 = 8 := Eq.trans (by kernel_rfl) rfl
theorem ty138 : CT.ty 138 = .cell := Eq.trans (by kernel_rfl) rfl
theorem sh138 : CT.sh 138 = .leaf := Eq.trans (by kernel_rfl) rfl
theorem zero138 : CT.zero 138 = .lit .nilFunc := Eq.trans (by kernel_rfl) rfl
theorem bytes138 : CT.bytes 138 = 8 := Eq.trans (by kernel_rfl) rfl
theorem ty139 : CT.ty 139 = .cell := Eq.trans (by kernel_rfl) rfl
theorem sh139 : CT.sh 139 = .leaf := Eq.trans (by kernel_rfl) rfl
theorem zero139 : CT.zero 139 = .lit .nilFunc := Eq.trans (by kernel_rfl) rfl
theorem bytes139 : CT.bytes 139 = 8 := Eq.trans (by kernel_rfl) rfl
theorem ty140 : CT.ty 140 = .cell := Eq.trans (by kernel_rfl) rfl
theorem sh140 : CT.sh 140 = .leaf := Eq.trans (by kernel_rfl) rfl
theorem zero140 : CT.zero 140 = .lit .nilFunc := Eq.trans (by kernel_rfl) rfl
theorem bytes140 : CT.bytes 140 = 8 := Eq.trans (by kernel_rfl) rfl
theorem ty141 : CT.ty 141 = .cell := Eq.trans (by kernel_rfl) rfl
theorem sh141 : CT.sh 141 = .leaf := Eq.trans (by kernel_rfl) rfl
theorem zero141 : CT.zero 141 = .lit .nilFunc := Eq.trans (by kernel_rfl) rfl
theorem bytes141 : CT.bytes 141 = 8 := Eq.trans (by kernel_rfl) rfl
theorem ty142 : CT.ty 142 = .cell := Eq.trans (by kernel_rfl) rfl
theorem sh142 : CT.sh 142 = .leaf := Eq.trans (by kernel_rfl) rfl
theorem zero142 : CT.zero 142 = .lit .nilFunc := Eq.trans (by kernel_rfl) rfl
theorem bytes142 : CT.bytes 142 = 8 := Eq.trans (by kernel_rfl) rfl
theorem ty144 : CT.ty 144 = .struct [89, 3] := Eq.trans (by kernel_rfl) rfl
theorem sh144 : CT.sh 144 = (.pair (.pair .leaf (.pair .leaf (.pair .leaf (.pair .leaf (.pair .leaf (.pair .leaf (.pair .leaf (.pair (.pair (.pair .leaf (.pair .leaf .unit)) (.pair .leaf .unit)) .unit)))))))) (.pair .leaf .unit)) := Eq.trans (by kernel_rfl) rfl
theorem zero144 : CT.zero 144 = (.agg [(.agg [.lit (.int .i64 0), .lit (.string ⟨#[]⟩), .lit (.string ⟨#[]⟩), .lit (.int .i64 0), .lit (.int .i64 0), .lit (.int .i64 0), .lit (.string ⟨#[]⟩), (.agg [(.agg [.lit (.int .i64 0), .lit (.int .i64 0)]), .lit (.int .i64 0)])]), .lit (.int .i64 0)]) := Eq.trans (by kernel_rfl) rfl
theorem bytes144 : CT.bytes 144 = 112 := Eq.trans (by kernel_rfl) rfl
theorem ty145 : CT.ty 145 = .struct [89, 3] := Eq.trans (by kernel_rfl) rfl
theorem sh145 : CT.sh 145 = (.pair (.pair .leaf (.pair .leaf (.pair .leaf (.pair .leaf (.pair .leaf (.pair .leaf (.pair .leaf (.pair (.pair (.pair .leaf (.pair .leaf .unit)) (.pair .leaf .unit)) .unit)))))))) (.pair .leaf .unit)) := Eq.trans (by kernel_rfl) rfl
theorem zero145 : CT.zero 145 = (.agg [(.agg [.lit (.int .i64 0), .lit (.string ⟨#[]⟩), .lit (.string ⟨#[]⟩), .lit (.int .i64 0), .lit (.int .i64 0), .lit (.int .i64 0), .lit (.string ⟨#[]⟩), (.agg [(.agg [.lit (.int .i64 0), .lit (.int .i64 0)]), .lit (.int .i64 0)])]), .lit (.int .i64 0)]) := Eq.trans (by kernel_rfl) rfl
theorem bytes145 : CT.bytes 145 = 112 := Eq.trans (by kernel_rfl) rfl
theorem ty146 : CT.ty 146 = .cell := Eq.trans (by kernel_rfl) rfl
theorem sh146 : CT.sh 146 = .leaf := Eq.trans (by kernel_rfl) rfl
theorem zero146 : CT.zero 146 = .lit .nilFunc := Eq.trans (by kernel_rfl) rfl
theorem bytes146 : CT.bytes 146 = 8 := Eq.trans (by kernel_rfl) rfl
theorem ty147 : CT.ty 147 = .cell := Eq.trans (by kernel_rfl) rfl
theorem sh147 : CT.sh 147 = .leaf := Eq.trans (by kernel_rfl) rfl
theorem zero147 : CT.zero 147 = .lit .nilFunc := Eq.trans (by kernel_rfl) rfl
theorem bytes147 : CT.bytes 147 = 8 := Eq.trans (by kernel_rfl) rfl
theorem ty148 : CT.ty 148 = .cell := Eq.trans (by kernel_rfl) rfl
theorem sh148 : CT.sh 148 = .leaf := Eq.trans (by kernel_rfl) rfl
theorem zero148 : CT.zero 148 = .lit .nilFunc := Eq.trans (by kernel_rfl) rfl
theorem bytes148 : CT.bytes 148 = 8 := Eq.trans (by kernel_rfl) rfl
theorem ty149 : CT.ty 149 = .cell := Eq.trans (by kernel_rfl) rfl
theorem sh149 : CT.sh 149 = .leaf := Eq.trans (by kernel_rfl) rfl
theorem zero149 : CT.zero 149 = .lit (.pointer none) := Eq.trans (by kernel_rfl) rfl
theorem bytes149 : CT.bytes 149 = 8 := Eq.trans (by kernel_rfl) rfl
theorem ty150 : CT.ty 150 = .cell := Eq.trans (by kernel_rfl) rfl
theorem sh150 : CT.sh 150 = .leaf := Eq.trans (by kernel_rfl) rfl
theorem zero150 : CT.zero 150 = .lit .nilFunc := Eq.trans (by kernel_rfl) rfl
theorem bytes150 : CT.bytes 150 = 8 := Eq.trans (by kernel_rfl) rfl
theorem ty151 : CT.ty 151 = .cell := Eq.trans (by kernel_rfl) rfl
theorem sh151 : CT.sh 151 = .leaf := Eq.trans (by kernel_rfl) rfl
theorem zero151 : CT.zero 151 = .lit .nilFunc := Eq.trans (by kernel_rfl) rfl
theorem bytes151 : CT.bytes 151 = 8 := Eq.trans (by kernel_rfl) rfl
theorem ty152 : CT.ty 152 = .cell := Eq.trans (by kernel_rfl) rfl
theorem sh152 : CT.sh 152 = .leaf := Eq.trans (by kernel_rfl) rfl
theorem zero152 : CT.zero 152 = .lit .nilFunc := Eq.trans (by kernel_rfl) rfl
theorem bytes152 : CT.bytes 152 = 8 := Eq.trans (by kernel_rfl) rfl
theorem ty153 : CT.ty 153 = .cell := Eq.trans (by kernel_rfl) rfl
theorem sh153 : CT.sh 153 = .leaf := Eq.trans (by kernel_rfl) rfl
theorem zero153 : CT.zero 153 = .lit .nilFunc := Eq.trans (by kernel_rfl) rfl
theorem bytes153 : CT.bytes 153 = 8 := Eq.trans (by kernel_rfl) rfl
theorem ty154 : CT.ty 154 = .cell := Eq.trans (by kernel_rfl) rfl
theorem sh154 : CT.sh 154 = .leaf := Eq.trans (by kernel_rfl) rfl
theorem zero154 : CT.zero 154 = .lit .nilFunc := Eq.trans (by kernel_rfl) rfl
theorem bytes154 : CT.bytes 154 = 8 := Eq.trans (by kernel_rfl) rfl
theorem ty156 : CT.ty 156 = .cell := Eq.trans (by kernel_rfl) rfl
theorem sh156 : CT.sh 156 = .leaf := Eq.trans (by kernel_rfl) rfl
theorem zero156 : CT.zero 156 = .lit .nilFunc := Eq.trans (by kernel_rfl) rfl
theorem bytes156 : CT.bytes 156 = 8 := Eq.trans (by kernel_rfl) rfl
theorem ty157 : CT.ty 157 = .cell := Eq.trans (by kernel_rfl) rfl
theorem sh157 : CT.sh 157 = .leaf := Eq.trans (by kernel_rfl) rfl
theorem zero157 : CT.zero 157 = .lit .nilFunc := Eq.trans (by kernel_rfl) rfl
theorem bytes157 : CT.bytes 157 = 8 := Eq.trans (by kernel_rfl) rfl
theorem ty158 : CT.ty 158 = .cell := Eq.trans (by kernel_rfl) rfl
theorem sh158 : CT.sh 158 = .leaf := Eq.trans (by kernel_rfl) rfl
theorem zero158 : CT.zero 158 = .lit .nilFunc := Eq.trans (by kernel_rfl) rfl
theorem bytes158 : CT.bytes 158 = 8 := Eq.trans (by kernel_rfl) rfl
theorem ty159 : CT.ty 159 = .cell := Eq.trans (by kernel_rfl) rfl
theorem sh159 : CT.sh 159 = .leaf := Eq.trans (by kernel_rfl) rfl
theorem zero159 : CT.zero 159 = .lit .nilFunc := Eq.trans (by kernel_rfl) rfl
theorem bytes159 : CT.bytes 159 = 8 := Eq.trans (by kernel_rfl) rfl
theorem ty160 : CT.ty 160 = .cell := Eq.trans (by kernel_rfl) rfl
theorem sh160 : CT.sh 160 = .leaf := Eq.trans (by kernel_rfl) rfl
theorem zero160 : CT.zero 160 = .lit .nilFunc := Eq.trans (by kernel_rfl) rfl
theorem bytes160 : CT.bytes 160 = 8 := Eq.trans (by kernel_rfl) rfl
theorem ty168 : CT.ty 168 = .cell := Eq.trans (by kernel_rfl) rfl
theorem sh168 : CT.sh 168 = .leaf := Eq.trans (by kernel_rfl) rfl
theorem zero168 : CT.zero 168 = .lit .nilFunc := Eq.trans (by kernel_rfl) rfl
theorem bytes168 : CT.bytes 168 = 8 := Eq.trans (by kernel_rfl) rfl
theorem ty169 : CT.ty 169 = .cell := Eq.trans (by kernel_rfl) rfl
theorem sh169 : CT.sh 169 = .leaf := Eq.trans (by kernel_rfl) rfl
theorem zero169 : CT.zero 169 = .lit (.pointer none) := Eq.trans (by kernel_rfl) rfl
theorem bytes169 : CT.bytes 169 = 8 := Eq.trans (by kernel_rfl) rfl

attribute [go_sem] ty1 sh1 zero1 bytes1
  ty2 sh2 zero2 bytes2
  ty3 sh3 zero3 bytes3
  ty4 sh4 zero4 bytes4
  ty5 sh5 zero5 bytes5
  ty9 sh9 zero9 bytes9
  ty12 sh12 zero12 bytes12
  ty21 sh21 zero21 bytes21
  ty22 sh22 zero22 bytes22
  ty23 sh23 zero23 bytes23
  ty24 sh24 zero24 bytes24
  ty25 sh25 zero25 bytes25
  ty26 sh26 zero26 bytes26
  ty27 sh27 zero27 bytes27
  ty29 sh29 zero29 bytes29
  ty30 sh30 zero30 bytes30
  ty31 sh31 zero31 bytes31
  ty32 sh32 zero32 bytes32
  ty33 sh33 zero33 bytes33
  ty34 sh34 zero34 bytes34
  ty35 sh35 zero35 bytes35
  ty36 sh36 zero36 bytes36
  ty37 sh37 zero37 bytes37
  ty38 sh38 zero38 bytes38
  ty39 sh39 zero39 bytes39
  ty40 sh40 zero40 bytes40
  ty41 sh41 zero41 bytes41
  ty42 sh42 zero42 bytes42
  ty43 sh43 zero43 bytes43
  ty44 sh44 zero44 bytes44
  ty45 sh45 zero45 bytes45
  ty46 sh46 zero46 bytes46
  ty47 sh47 zero47 bytes47
  ty48 sh48 zero48 bytes48
  ty49 sh49 zero49 bytes49
  ty50 sh50 zero50 bytes50
  ty51 sh51 zero51 bytes51
  ty52 sh52 zero52 bytes52
  ty53 sh53 zero53 bytes53
  ty54 sh54 zero54 bytes54
  ty55 sh55 zero55 bytes55
  ty56 sh56 zero56 bytes56
  ty57 sh57 zero57 bytes57
  ty59 sh59 zero59 bytes59
  ty60 sh60 zero60 bytes60
  ty61 sh61 zero61 bytes61
  ty62 sh62 zero62 bytes62
  ty63 sh63 zero63 bytes63
  ty64 sh64 zero64 bytes64
  ty65 sh65 zero65 bytes65
  ty66 sh66 zero66 bytes66
  ty67 sh67 zero67 bytes67
  ty68 sh68 zero68 bytes68
  ty70 sh70 zero70 bytes70
  ty71 sh71 zero71 bytes71
  ty72 sh72 zero72 bytes72
  ty73 sh73 zero73 bytes73
  ty74 sh74 zero74 bytes74
  ty75 sh75 zero75 bytes75
  ty76 sh76 zero76 bytes76
  ty77 sh77 zero77 bytes77
  ty78 sh78 zero78 bytes78
  ty79 sh79 zero79 bytes79
  ty80 sh80 zero80 bytes80
  ty81 sh81 zero81 bytes81
  ty83 sh83 zero83 bytes83
  ty85 sh85 zero85 bytes85
  ty86 sh86 zero86 bytes86
  ty87 sh87 zero87 bytes87
  ty88 sh88 zero88 bytes88
  ty89 sh89 zero89 bytes89
  ty90 sh90 zero90 bytes90
  ty91 sh91 zero91 bytes91
  ty92 sh92 zero92 bytes92
  ty93 sh93 zero93 bytes93
  ty94 sh94 zero94 bytes94
  ty95 sh95 zero95 bytes95
  ty96 sh96 zero96 bytes96
  ty97 sh97 zero97 bytes97
  ty98 sh98 zero98 bytes98
  ty99 sh99 zero99 bytes99
  ty100 sh100 zero100 bytes100
  ty101 sh101 zero101 bytes101
  ty102 sh102 zero102 bytes102
  ty103 sh103 zero103 bytes103
  ty104 sh104 zero104 bytes104
  ty105 sh105 zero105 bytes105
  ty106 sh106 zero106 bytes106
  ty107 sh107 zero107 bytes107
  ty108 sh108 zero108 bytes108
  ty109 sh109 zero109 bytes109
  ty111 sh111 zero111 bytes111
  ty112 sh112 zero112 bytes112
  ty113 sh113 zero113 bytes113
  ty114 sh114 zero114 bytes114
  ty115 sh115 zero115 bytes115
  ty116 sh116 zero116 bytes116
  ty117 sh117 zero117 bytes117
  ty119 sh119 zero119 bytes119
  ty120 sh120 zero120 bytes120
  ty121 sh121 zero121 bytes121
  ty122 sh122 zero122 bytes122
  ty123 sh123 zero123 bytes123
  ty124 sh124 zero124 bytes124
  ty125 sh125 zero125 bytes125
  ty126 sh126 zero126 bytes126
  ty127 sh127 zero127 bytes127
  ty128 sh128 zero128 bytes128
  ty129 sh129 zero129 bytes129
  ty130 sh130 zero130 bytes130
  ty131 sh131 zero131 bytes131
  ty132 sh132 zero132 bytes132
  ty133 sh133 zero133 bytes133
  ty134 sh134 zero134 bytes134
  ty135 sh135 zero135 bytes135
  ty136 sh136 zero136 bytes136
  ty137 sh137 zero137 bytes137
  ty138 sh138 zero138 bytes138
  ty139 sh139 zero139 bytes139
  ty140 sh140 zero140 bytes140
  ty141 sh141 zero141 bytes141
  ty142 sh142 zero142 bytes142
  ty144 sh144 zero144 bytes144
  ty145 sh145 zero145 bytes145
  ty146 sh146 zero146 bytes146
  ty147 sh147 zero147 bytes147
  ty148 sh148 zero148 bytes148
  ty149 sh149 zero149 bytes149
  ty150 sh150 zero150 bytes150
  ty151 sh151 zero151 bytes151
  ty152 sh152 zero152 bytes152
  ty153 sh153 zero153 bytes153
  ty154 sh154 zero154 bytes154
  ty156 sh156 zero156 bytes156
  ty157 sh157 zero157 bytes157
  ty158 sh158 zero158 bytes158
  ty159 sh159 zero159 bytes159
  ty160 sh160 zero160 bytes160
  ty168 sh168 zero168 bytes168
  ty169 sh169 zero169 bytes169

end Go.Ab
