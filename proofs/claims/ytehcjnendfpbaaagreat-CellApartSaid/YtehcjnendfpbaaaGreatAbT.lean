/- The table of this program's types, held against the program. Conditions: none. -/
import Derived.Test.YtehcjnendfpbaaaGreatAbU
import Derived.Test.YtehcjnendfpbaaaGreatProg
namespace Go.Ab
open Go.Proofs

def rows : List Row := [
  ⟨1, .cell, .leaf, .lit .nilFunc, 8, 1⟩,
  ⟨2, .int .i64, .leaf, .lit (.int .i64 0), 8, 1⟩,
  ⟨3, .int .i64, .leaf, .lit (.int .i64 0), 8, 1⟩,
  ⟨4, .bool, .leaf, .lit (.bool false), 1, 1⟩,
  ⟨5, .int .u8, .leaf, .lit (.int .u8 0), 1, 1⟩,
  ⟨9, .str, .leaf, .lit (.string ⟨#[]⟩), 16, 1⟩,
  ⟨12, .int .u64, .leaf, .lit (.int .u64 0), 8, 1⟩,
  ⟨21, .int .i32, .leaf, .lit (.int .i32 0), 4, 1⟩,
  ⟨22, .slice 72, .leaf, .lst 72 [] .full, 24, 1⟩,
  ⟨23, .slice 64, .leaf, .lst 64 [] .full, 24, 1⟩,
  ⟨24, .slice 67, .leaf, .lst 67 [] .full, 24, 1⟩,
  ⟨25, .slice 69, .leaf, .lst 69 [] .full, 24, 1⟩,
  ⟨26, .struct [3, 3, 22, 23, 24, 25], (.pair .leaf (.pair .leaf (.pair .leaf (.pair .leaf (.pair .leaf (.pair .leaf .unit)))))), (.agg [.lit (.int .i64 0), .lit (.int .i64 0), .lst 72 [] .full, .lst 64 [] .full, .lst 67 [] .full, .lst 69 [] .full]), 112, 2⟩,
  ⟨27, .struct [3, 3, 22, 23, 24, 25], (.pair .leaf (.pair .leaf (.pair .leaf (.pair .leaf (.pair .leaf (.pair .leaf .unit)))))), (.agg [.lit (.int .i64 0), .lit (.int .i64 0), .lst 72 [] .full, .lst 64 [] .full, .lst 67 [] .full, .lst 69 [] .full]), 112, 2⟩,
  ⟨28, .struct [3, 3], (.pair .leaf (.pair .leaf .unit)), (.agg [.lit (.int .i64 0), .lit (.int .i64 0)]), 16, 2⟩,
  ⟨29, .struct [3, 3], (.pair .leaf (.pair .leaf .unit)), (.agg [.lit (.int .i64 0), .lit (.int .i64 0)]), 16, 2⟩,
  ⟨30, .arr 13 3, (.arr 13 .leaf), (.agg ((zeros 13).map fun n => .lit (.int .i64 n))), 104, 2⟩,
  ⟨31, .arr 13 3, (.arr 13 .leaf), (.agg ((zeros 13).map fun n => .lit (.int .i64 n))), 104, 2⟩,
  ⟨32, .slice 38, .leaf, .lst 38 [] .full, 24, 1⟩,
  ⟨33, .struct [29, 31, 3, 32], (.pair (.pair .leaf (.pair .leaf .unit)) (.pair (.arr 13 .leaf) (.pair .leaf (.pair .leaf .unit)))), (.agg [(.agg [.lit (.int .i64 0), .lit (.int .i64 0)]), (.agg ((zeros 13).map fun n => .lit (.int .i64 n))), .lit (.int .i64 0), .lst 38 [] .full]), 152, 3⟩,
  ⟨34, .struct [29, 31, 3, 32], (.pair (.pair .leaf (.pair .leaf .unit)) (.pair (.arr 13 .leaf) (.pair .leaf (.pair .leaf .unit)))), (.agg [(.agg [.lit (.int .i64 0), .lit (.int .i64 0)]), (.agg ((zeros 13).map fun n => .lit (.int .i64 n))), .lit (.int .i64 0), .lst 38 [] .full]), 152, 3⟩,
  ⟨35, .struct [29, 3], (.pair (.pair .leaf (.pair .leaf .unit)) (.pair .leaf .unit)), (.agg [(.agg [.lit (.int .i64 0), .lit (.int .i64 0)]), .lit (.int .i64 0)]), 24, 3⟩,
  ⟨36, .struct [29, 3], (.pair (.pair .leaf (.pair .leaf .unit)) (.pair .leaf .unit)), (.agg [(.agg [.lit (.int .i64 0), .lit (.int .i64 0)]), .lit (.int .i64 0)]), 24, 3⟩,
  ⟨37, .struct [3, 9, 9, 3, 3, 3, 9, 36], (.pair .leaf (.pair .leaf (.pair .leaf (.pair .leaf (.pair .leaf (.pair .leaf (.pair .leaf (.pair (.pair (.pair .leaf (.pair .leaf .unit)) (.pair .leaf .unit)) .unit)))))))), (.agg [.lit (.int .i64 0), .lit (.string ⟨#[]⟩), .lit (.string ⟨#[]⟩), .lit (.int .i64 0), .lit (.int .i64 0), .lit (.int .i64 0), .lit (.string ⟨#[]⟩), (.agg [(.agg [.lit (.int .i64 0), .lit (.int .i64 0)]), .lit (.int .i64 0)])]), 104, 4⟩,
  ⟨38, .struct [3, 9, 9, 3, 3, 3, 9, 36], (.pair .leaf (.pair .leaf (.pair .leaf (.pair .leaf (.pair .leaf (.pair .leaf (.pair .leaf (.pair (.pair (.pair .leaf (.pair .leaf .unit)) (.pair .leaf .unit)) .unit)))))))), (.agg [.lit (.int .i64 0), .lit (.string ⟨#[]⟩), .lit (.string ⟨#[]⟩), .lit (.int .i64 0), .lit (.int .i64 0), .lit (.int .i64 0), .lit (.string ⟨#[]⟩), (.agg [(.agg [.lit (.int .i64 0), .lit (.int .i64 0)]), .lit (.int .i64 0)])]), 104, 4⟩,
  ⟨39, .cell, .leaf, .lit .nilFunc, 8, 1⟩,
  ⟨40, .cell, .leaf, .lit .nilFunc, 8, 1⟩,
  ⟨41, .cell, .leaf, .lit .nilFunc, 8, 1⟩,
  ⟨42, .cell, .leaf, .lit .nilFunc, 8, 1⟩,
  ⟨43, .cell, .leaf, .lit .nilFunc, 8, 1⟩,
  ⟨44, .cell, .leaf, .lit .nilFunc, 8, 1⟩,
  ⟨45, .cell, .leaf, .lit .nilFunc, 8, 1⟩,
  ⟨46, .cell, .leaf, .lit .nilFunc, 8, 1⟩,
  ⟨47, .cell, .leaf, .lit .nilFunc, 8, 1⟩,
  ⟨48, .int .i64, .leaf, .lit (.int .i64 0), 8, 1⟩,
  ⟨50, .cell, .leaf, .lit .nilFunc, 8, 1⟩,
  ⟨51, .cell, .leaf, .lit .nilFunc, 8, 1⟩,
  ⟨52, .slice 9, .leaf, .lst 9 [] .full, 24, 1⟩,
  ⟨53, .slice 83, .leaf, .lst 83 [] .full, 24, 1⟩,
  ⟨54, .struct [3, 3, 52, 53], (.pair .leaf (.pair .leaf (.pair .leaf (.pair .leaf .unit)))), (.agg [.lit (.int .i64 0), .lit (.int .i64 0), .lst 9 [] .full, .lst 83 [] .full]), 64, 2⟩,
  ⟨55, .struct [3, 3, 52, 53], (.pair .leaf (.pair .leaf (.pair .leaf (.pair .leaf .unit)))), (.agg [.lit (.int .i64 0), .lit (.int .i64 0), .lst 9 [] .full, .lst 83 [] .full]), 64, 2⟩,
  ⟨56, .cell, .leaf, .lit .nilFunc, 8, 1⟩,
  ⟨57, .cell, .leaf, .lit .nilFunc, 8, 1⟩,
  ⟨59, .cell, .leaf, .lit .nilFunc, 8, 1⟩,
  ⟨60, .cell, .leaf, .lit .nilFunc, 8, 1⟩,
  ⟨61, .cell, .leaf, .lit .nilFunc, 8, 1⟩,
  ⟨62, .cell, .leaf, .lit .nilFunc, 8, 1⟩,
  ⟨63, .struct [36, 3, 9], (.pair (.pair (.pair .leaf (.pair .leaf .unit)) (.pair .leaf .unit)) (.pair .leaf (.pair .leaf .unit))), (.agg [(.agg [(.agg [.lit (.int .i64 0), .lit (.int .i64 0)]), .lit (.int .i64 0)]), .lit (.int .i64 0), .lit (.string ⟨#[]⟩)]), 48, 4⟩,
  ⟨64, .struct [36, 3, 9], (.pair (.pair (.pair .leaf (.pair .leaf .unit)) (.pair .leaf .unit)) (.pair .leaf (.pair .leaf .unit))), (.agg [(.agg [(.agg [.lit (.int .i64 0), .lit (.int .i64 0)]), .lit (.int .i64 0)]), .lit (.int .i64 0), .lit (.string ⟨#[]⟩)]), 48, 4⟩,
  ⟨65, .slice 36, .leaf, .lst 36 [] .full, 24, 1⟩,
  ⟨66, .struct [9, 4, 65], (.pair .leaf (.pair .leaf (.pair .leaf .unit))), (.agg [.lit (.string ⟨#[]⟩), .lit (.bool false), .lst 36 [] .full]), 48, 2⟩,
  ⟨67, .struct [9, 4, 65], (.pair .leaf (.pair .leaf (.pair .leaf .unit))), (.agg [.lit (.string ⟨#[]⟩), .lit (.bool false), .lst 36 [] .full]), 48, 2⟩,
  ⟨68, .struct [36, 3, 36, 9, 65], (.pair (.pair (.pair .leaf (.pair .leaf .unit)) (.pair .leaf .unit)) (.pair .leaf (.pair (.pair (.pair .leaf (.pair .leaf .unit)) (.pair .leaf .unit)) (.pair .leaf (.pair .leaf .unit))))), (.agg [(.agg [(.agg [.lit (.int .i64 0), .lit (.int .i64 0)]), .lit (.int .i64 0)]), .lit (.int .i64 0), (.agg [(.agg [.lit (.int .i64 0), .lit (.int .i64 0)]), .lit (.int .i64 0)]), .lit (.string ⟨#[]⟩), .lst 36 [] .full]), 96, 4⟩,
  ⟨69, .struct [36, 3, 36, 9, 65], (.pair (.pair (.pair .leaf (.pair .leaf .unit)) (.pair .leaf .unit)) (.pair .leaf (.pair (.pair (.pair .leaf (.pair .leaf .unit)) (.pair .leaf .unit)) (.pair .leaf (.pair .leaf .unit))))), (.agg [(.agg [(.agg [.lit (.int .i64 0), .lit (.int .i64 0)]), .lit (.int .i64 0)]), .lit (.int .i64 0), (.agg [(.agg [.lit (.int .i64 0), .lit (.int .i64 0)]), .lit (.int .i64 0)]), .lit (.string ⟨#[]⟩), .lst 36 [] .full]), 96, 4⟩,
  ⟨70, .cell, .leaf, .lit .nilFunc, 8, 1⟩,
  ⟨71, .struct [36, 3], (.pair (.pair (.pair .leaf (.pair .leaf .unit)) (.pair .leaf .unit)) (.pair .leaf .unit)), (.agg [(.agg [(.agg [.lit (.int .i64 0), .lit (.int .i64 0)]), .lit (.int .i64 0)]), .lit (.int .i64 0)]), 32, 4⟩,
  ⟨72, .struct [36, 3], (.pair (.pair (.pair .leaf (.pair .leaf .unit)) (.pair .leaf .unit)) (.pair .leaf .unit)), (.agg [(.agg [(.agg [.lit (.int .i64 0), .lit (.int .i64 0)]), .lit (.int .i64 0)]), .lit (.int .i64 0)]), 32, 4⟩,
  ⟨73, .cell, .leaf, .lit .nilFunc, 8, 1⟩,
  ⟨74, .cell, .leaf, .lit .nilFunc, 8, 1⟩,
  ⟨77, .cell, .leaf, .lit .nilFunc, 8, 1⟩,
  ⟨78, .cell, .leaf, .lit .nilFunc, 8, 1⟩,
  ⟨79, .struct [27], (.pair (.pair .leaf (.pair .leaf (.pair .leaf (.pair .leaf (.pair .leaf (.pair .leaf .unit)))))) .unit), (.agg [(.agg [.lit (.int .i64 0), .lit (.int .i64 0), .lst 72 [] .full, .lst 64 [] .full, .lst 67 [] .full, .lst 69 [] .full])]), 112, 3⟩,
  ⟨80, .struct [27], (.pair (.pair .leaf (.pair .leaf (.pair .leaf (.pair .leaf (.pair .leaf (.pair .leaf .unit)))))) .unit), (.agg [(.agg [.lit (.int .i64 0), .lit (.int .i64 0), .lst 72 [] .full, .lst 64 [] .full, .lst 67 [] .full, .lst 69 [] .full])]), 112, 3⟩,
  ⟨81, .cell, .leaf, .lit .nilFunc, 8, 1⟩,
  ⟨82, .struct [9, 55], (.pair .leaf (.pair (.pair .leaf (.pair .leaf (.pair .leaf (.pair .leaf .unit)))) .unit)), (.agg [.lit (.string ⟨#[]⟩), (.agg [.lit (.int .i64 0), .lit (.int .i64 0), .lst 9 [] .full, .lst 83 [] .full])]), 80, 3⟩,
  ⟨83, .struct [9, 55], (.pair .leaf (.pair (.pair .leaf (.pair .leaf (.pair .leaf (.pair .leaf .unit)))) .unit)), (.agg [.lit (.string ⟨#[]⟩), (.agg [.lit (.int .i64 0), .lit (.int .i64 0), .lst 9 [] .full, .lst 83 [] .full])]), 80, 3⟩,
  ⟨84, .cell, .leaf, .lit .nilFunc, 8, 1⟩,
  ⟨85, .cell, .leaf, .lit .nilFunc, 8, 1⟩,
  ⟨86, .cell, .leaf, .lit .nilFunc, 8, 1⟩,
  ⟨87, .cell, .leaf, .lit .nilFunc, 8, 1⟩,
  ⟨88, .cell, .leaf, .lit .nilFunc, 8, 1⟩,
  ⟨89, .cell, .leaf, .lit .nilFunc, 8, 1⟩,
  ⟨90, .cell, .leaf, .lit .nilFunc, 8, 1⟩,
  ⟨91, .cell, .leaf, .lit .nilFunc, 8, 1⟩,
  ⟨92, .cell, .leaf, .lit .nilFunc, 8, 1⟩,
  ⟨93, .cell, .leaf, .lit .nilFunc, 8, 1⟩,
  ⟨94, .cell, .leaf, .lit .nilFunc, 8, 1⟩,
  ⟨95, .struct [27], (.pair (.pair .leaf (.pair .leaf (.pair .leaf (.pair .leaf (.pair .leaf (.pair .leaf .unit)))))) .unit), (.agg [(.agg [.lit (.int .i64 0), .lit (.int .i64 0), .lst 72 [] .full, .lst 64 [] .full, .lst 67 [] .full, .lst 69 [] .full])]), 112, 3⟩,
  ⟨96, .struct [27], (.pair (.pair .leaf (.pair .leaf (.pair .leaf (.pair .leaf (.pair .leaf (.pair .leaf .unit)))))) .unit), (.agg [(.agg [.lit (.int .i64 0), .lit (.int .i64 0), .lst 72 [] .full, .lst 64 [] .full, .lst 67 [] .full, .lst 69 [] .full])]), 112, 3⟩,
  ⟨97, .struct [27], (.pair (.pair .leaf (.pair .leaf (.pair .leaf (.pair .leaf (.pair .leaf (.pair .leaf .unit)))))) .unit), (.agg [(.agg [.lit (.int .i64 0), .lit (.int .i64 0), .lst 72 [] .full, .lst 64 [] .full, .lst 67 [] .full, .lst 69 [] .full])]), 112, 3⟩,
  ⟨98, .struct [27], (.pair (.pair .leaf (.pair .leaf (.pair .leaf (.pair .leaf (.pair .leaf (.pair .leaf .unit)))))) .unit), (.agg [(.agg [.lit (.int .i64 0), .lit (.int .i64 0), .lst 72 [] .full, .lst 64 [] .full, .lst 67 [] .full, .lst 69 [] .full])]), 112, 3⟩,
  ⟨99, .cell, .leaf, .lit .nilFunc, 8, 1⟩,
  ⟨100, .cell, .leaf, .lit .nilFunc, 8, 1⟩,
  ⟨101, .cell, .leaf, .lit .nilFunc, 8, 1⟩,
  ⟨102, .cell, .leaf, .lit .nilFunc, 8, 1⟩,
  ⟨103, .cell, .leaf, .lit .nilFunc, 8, 1⟩,
  ⟨105, .cell, .leaf, .lit .nilFunc, 8, 1⟩,
  ⟨106, .cell, .leaf, .lit .nilFunc, 8, 1⟩,
  ⟨107, .slice 3, .leaf, .lst 3 [] .full, 24, 1⟩,
  ⟨108, .cell, .leaf, .lit .nilFunc, 8, 1⟩,
  ⟨109, .cell, .leaf, .lit .nilFunc, 8, 1⟩,
  ⟨110, .cell, .leaf, .lit .nilFunc, 8, 1⟩,
  ⟨111, .cell, .leaf, .lit .nilFunc, 8, 1⟩,
  ⟨112, .cell, .leaf, .lit .nilFunc, 8, 1⟩,
  ⟨118, .cell, .leaf, .lit .nilFunc, 8, 1⟩,
  ⟨119, .int .u32, .leaf, .lit (.int .u32 0), 4, 1⟩,
  ⟨122, .cell, .leaf, .lit .nilFunc, 8, 1⟩,
  ⟨123, .cell, .leaf, .lit (.pointer none), 8, 1⟩,
  ⟨128, .cell, .leaf, .lit .nilFunc, 8, 1⟩,
  ⟨129, .cell, .leaf, .lit .nilFunc, 8, 1⟩,
  ⟨130, .cell, .leaf, .lit .nilFunc, 8, 1⟩,
  ⟨131, .cell, .leaf, .lit .nilFunc, 8, 1⟩,
  ⟨132, .cell, .leaf, .lit .nilFunc, 8, 1⟩,
  ⟨134, .cell, .leaf, .lit .nilFunc, 8, 1⟩,
  ⟨135, .cell, .leaf, .lit .nilFunc, 8, 1⟩,
  ⟨136, .cell, .leaf, .lit .nilFunc, 8, 1⟩,
  ⟨137, .cell, .leaf, .lit .nilFunc, 8, 1⟩,
  ⟨138, .cell, .leaf, .lit .nilFunc, 8, 1⟩,
  ⟨139, .cell, .leaf, .lit .nilFunc, 8, 1⟩,
  ⟨140, .cell, .leaf, .lit .nilFunc, 8, 1⟩,
  ⟨141, .cell, .leaf, .lit .nilFunc, 8, 1⟩,
  ⟨142, .cell, .leaf, .lit .nilFunc, 8, 1⟩,
  ⟨143, .cell, .leaf, .lit .nilFunc, 8, 1⟩,
  ⟨144, .cell, .leaf, .lit .nilFunc, 8, 1⟩,
  ⟨145, .cell, .leaf, .lit .nilFunc, 8, 1⟩,
  ⟨146, .cell, .leaf, .lit .nilFunc, 8, 1⟩,
  ⟨147, .cell, .leaf, .lit .nilFunc, 8, 1⟩,
  ⟨148, .cell, .leaf, .lit .nilFunc, 8, 1⟩,
  ⟨149, .cell, .leaf, .lit .nilFunc, 8, 1⟩,
  ⟨150, .cell, .leaf, .lit .nilFunc, 8, 1⟩,
  ⟨151, .cell, .leaf, .lit .nilFunc, 8, 1⟩,
  ⟨152, .cell, .leaf, .lit .nilFunc, 8, 1⟩,
  ⟨153, .map 9 4, .leaf, .lit (.map none), 8, 1⟩,
  ⟨154, .cell, .leaf, .lit .nilFunc, 8, 1⟩,
  ⟨155, .cell, .leaf, .lit .nilFunc, 8, 1⟩,
  ⟨156, .cell, .leaf, .lit .nilFunc, 8, 1⟩,
  ⟨157, .int .u64, .leaf, .lit (.int .u64 0), 8, 1⟩,
  ⟨158, .cell, .leaf, .lit .nilFunc, 8, 1⟩,
  ⟨159, .cell, .leaf, .lit .nilFunc, 8, 1⟩,
  ⟨160, .int .i64, .leaf, .lit (.int .i64 0), 8, 1⟩,
  ⟨162, .cell, .leaf, .lit .nilFunc, 8, 1⟩,
  ⟨163, .cell, .leaf, .lit .nilFunc, 8, 1⟩,
  ⟨164, .cell, .leaf, .lit .nilFunc, 8, 1⟩,
  ⟨165, .cell, .leaf, .lit .nilFunc, 8, 1⟩,
  ⟨167, .cell, .leaf, .lit .nilFunc, 8, 1⟩,
  ⟨168, .cell, .leaf, .lit .nilFunc, 8, 1⟩,
  ⟨169, .cell, .leaf, .lit .nilFunc, 8, 1⟩,
  ⟨170, .int .u64, .leaf, .lit (.int .u64 0), 8, 1⟩,
  ⟨171, .int .u64, .leaf, .lit (.int .u64 0), 8, 1⟩,
  ⟨172, .cell, .leaf, .lit .nilFunc, 8, 1⟩,
  ⟨173, .cell, .leaf, .lit .nilFunc, 8, 1⟩,
  ⟨174, .cell, .leaf, .lit .nilFunc, 8, 1⟩,
  ⟨175, .cell, .leaf, .lit (.pointer none), 8, 1⟩,
  ⟨176, .cell, .leaf, .lit .nilFunc, 8, 1⟩,
  ⟨177, .cell, .leaf, .lit .nilFunc, 8, 1⟩,
  ⟨178, .cell, .leaf, .lit (.pointer none), 8, 1⟩,
  ⟨180, .cell, .leaf, .lit .nilFunc, 8, 1⟩,
  ⟨181, .cell, .leaf, .lit .nilFunc, 8, 1⟩,
  ⟨182, .map 9 67, .leaf, .lit (.map none), 8, 1⟩,
  ⟨183, .cell, .leaf, .lit .nilFunc, 8, 1⟩,
  ⟨184, .cell, .leaf, .lit .nilFunc, 8, 1⟩,
  ⟨185, .cell, .leaf, .lit .nilFunc, 8, 1⟩,
  ⟨186, .cell, .leaf, .lit .nilFunc, 8, 1⟩,
  ⟨187, .cell, .leaf, .lit .nilFunc, 8, 1⟩,
  ⟨189, .cell, .leaf, .lit .nilFunc, 8, 1⟩,
  ⟨190, .cell, .leaf, .lit .nilFunc, 8, 1⟩,
  ⟨191, .cell, .leaf, .lit .nilFunc, 8, 1⟩,
  ⟨192, .cell, .leaf, .lit .nilFunc, 8, 1⟩,
  ⟨193, .cell, .leaf, .lit .nilFunc, 8, 1⟩,
  ⟨194, .cell, .leaf, .lit .nilFunc, 8, 1⟩,
  ⟨195, .cell, .leaf, .lit .nilFunc, 8, 1⟩,
  ⟨196, .cell, .leaf, .lit .nilFunc, 8, 1⟩,
  ⟨197, .cell, .leaf, .lit .nilFunc, 8, 1⟩,
  ⟨198, .cell, .leaf, .lit .nilFunc, 8, 1⟩,
  ⟨199, .map 36 4, .leaf, .lit (.map none), 8, 1⟩,
  ⟨200, .cell, .leaf, .lit .nilFunc, 8, 1⟩,
  ⟨201, .cell, .leaf, .lit .nilFunc, 8, 1⟩,
  ⟨202, .cell, .leaf, .lit .nilFunc, 8, 1⟩,
  ⟨203, .cell, .leaf, .lit .nilFunc, 8, 1⟩,
  ⟨204, .cell, .leaf, .lit (.pointer none), 8, 1⟩,
  ⟨205, .cell, .leaf, .lit .nilFunc, 8, 1⟩,
  ⟨206, .cell, .leaf, .lit .nilFunc, 8, 1⟩,
  ⟨207, .cell, .leaf, .lit .nilFunc, 8, 1⟩,
  ⟨208, .map 36 25, .leaf, .lit (.map none), 8, 1⟩,
  ⟨209, .cell, .leaf, .lit .nilFunc, 8, 1⟩,
  ⟨210, .cell, .leaf, .lit .nilFunc, 8, 1⟩,
  ⟨211, .cell, .leaf, .lit .nilFunc, 8, 1⟩,
  ⟨212, .cell, .leaf, .lit .nilFunc, 8, 1⟩,
  ⟨213, .cell, .leaf, .lit .nilFunc, 8, 1⟩,
  ⟨214, .cell, .leaf, .lit .nilFunc, 8, 1⟩,
  ⟨215, .cell, .leaf, .lit .nilFunc, 8, 1⟩,
  ⟨216, .cell, .leaf, .lit .nilFunc, 8, 1⟩,
  ⟨217, .cell, .leaf, .lit .nilFunc, 8, 1⟩,
  ⟨218, .cell, .leaf, .lit .nilFunc, 8, 1⟩,
  ⟨219, .cell, .leaf, .lit .nilFunc, 8, 1⟩,
  ⟨220, .cell, .leaf, .lit .nilFunc, 8, 1⟩,
  ⟨221, .cell, .leaf, .lit .nilFunc, 8, 1⟩]

def CT : Tab := Tab.of rows

theorem hT : TabOk Tryz.prog CT := tabOk_rows rows (by kernel_rfl)

theorem ty1 : CT.ty 1 = .cell := Eq.trans (by kernel_rfl) rfl
theorem sh1 : CT.sh 1 = .leaf := Eq.trans (by kernel_rfl) rfl
theorem zero1 : CT.zero 1 = .lit .nilFunc := Eq.trans (by kernel_rfl) rfl
theorem bytes1 : CT.bytes 1 = 8 := Eq.trans (by kernel_rfl) rfl
theorem ty2 : CT.ty 2 = .int .i64 := Eq.trans (by kernel_rfl) rfl
theorem sh2 : CT.sh 2 = .leaf := Eq.trans (by kernel_rfl) rfl
theorem zero2 : CT.zero 2 = .lit (.int .i64 0) := Eq.trans (by kernel_rfl) rfl
theorem bytes2 : CT.bytes 2 = 8 := Eq.trans (by kernel_rfl) rfl
theorem ty3 : CT.ty 3 = .int .i64 := Eq.trans (by kernel_rfl) rfl
theorem sh3 : CT.sh 3 = .leaf := Eq.trans (by kernel_rfl) rfl
theorem zero3 : CT.zero 3 = .lit (.int .i64 0) := Eq.trans (by kernel_rfl) rfl
theorem bytes3 : CT.bytes 3 = 8 := Eq.trans (by kernel_rfl) rfl
theorem ty4 : CT.ty 4 = .bool := Eq.trans (by kernel_rfl) rfl
theorem sh4 : CT.sh 4 = .leaf := Eq.trans (by kernel_rfl) rfl
theorem zero4 : CT.zero 4 = .lit (.bool false) := Eq.trans (by kernel_rfl) rfl
theorem bytes4 : CT.bytes 4 = 1 := Eq.trans (by kernel_rfl) rfl
theorem ty5 : CT.ty 5 = .int .u8 := Eq.trans (by kernel_rfl) rfl
theorem sh5 : CT.sh 5 = .leaf := Eq.trans (by kernel_rfl) rfl
theorem zero5 : CT.zero 5 = .lit (.int .u8 0) := Eq.trans (by kernel_rfl) rfl
theorem bytes5 : CT.bytes 5 = 1 := Eq.trans (by kernel_rfl) rfl
theorem ty9 : CT.ty 9 = .str := Eq.trans (by kernel_rfl) rfl
theorem sh9 : CT.sh 9 = .leaf := Eq.trans (by kernel_rfl) rfl
theorem zero9 : CT.zero 9 = .lit (.string ⟨#[]⟩) := Eq.trans (by kernel_rfl) rfl
theorem bytes9 : CT.bytes 9 = 16 := Eq.trans (by kernel_rfl) rfl
theorem ty12 : CT.ty 12 = .int .u64 := Eq.trans (by kernel_rfl) rfl
theorem sh12 : CT.sh 12 = .leaf := Eq.trans (by kernel_rfl) rfl
theorem zero12 : CT.zero 12 = .lit (.int .u64 0) := Eq.trans (by kernel_rfl) rfl
theorem bytes12 : CT.bytes 12 = 8 := Eq.trans (by kernel_rfl) rfl
theorem ty21 : CT.ty 21 = .int .i32 := Eq.trans (by kernel_rfl) rfl
theorem sh21 : CT.sh 21 = .leaf := Eq.trans (by kernel_rfl) rfl
theorem zero21 : CT.zero 21 = .lit (.int .i32 0) := Eq.trans (by kernel_rfl) rfl
theorem bytes21 : CT.bytes 21 = 4 := Eq.trans (by kernel_rfl) rfl
theorem ty22 : CT.ty 22 = .slice 72 := Eq.trans (by kernel_rfl) rfl
theorem sh22 : CT.sh 22 = .leaf := Eq.trans (by kernel_rfl) rfl
theorem zero22 : CT.zero 22 = .lst 72 [] .full := Eq.trans (by kernel_rfl) rfl
theorem bytes22 : CT.bytes 22 = 24 := Eq.trans (by kernel_rfl) rfl
theorem ty23 : CT.ty 23 = .slice 64 := Eq.trans (by kernel_rfl) rfl
theorem sh23 : CT.sh 23 = .leaf := Eq.trans (by kernel_rfl) rfl
theorem zero23 : CT.zero 23 = .lst 64 [] .full := Eq.trans (by kernel_rfl) rfl
theorem bytes23 : CT.bytes 23 = 24 := Eq.trans (by kernel_rfl) rfl
theorem ty24 : CT.ty 24 = .slice 67 := Eq.trans (by kernel_rfl) rfl
theorem sh24 : CT.sh 24 = .leaf := Eq.trans (by kernel_rfl) rfl
theorem zero24 : CT.zero 24 = .lst 67 [] .full := Eq.trans (by kernel_rfl) rfl
theorem bytes24 : CT.bytes 24 = 24 := Eq.trans (by kernel_rfl) rfl
theorem ty25 : CT.ty 25 = .slice 69 := Eq.trans (by kernel_rfl) rfl
theorem sh25 : CT.sh 25 = .leaf := Eq.trans (by kernel_rfl) rfl
theorem zero25 : CT.zero 25 = .lst 69 [] .full := Eq.trans (by kernel_rfl) rfl
theorem bytes25 : CT.bytes 25 = 24 := Eq.trans (by kernel_rfl) rfl
theorem ty26 : CT.ty 26 = .struct [3, 3, 22, 23, 24, 25] := Eq.trans (by kernel_rfl) rfl
theorem sh26 : CT.sh 26 = (.pair .leaf (.pair .leaf (.pair .leaf (.pair .leaf (.pair .leaf (.pair .leaf .unit)))))) := Eq.trans (by kernel_rfl) rfl
theorem zero26 : CT.zero 26 = (.agg [.lit (.int .i64 0), .lit (.int .i64 0), .lst 72 [] .full, .lst 64 [] .full, .lst 67 [] .full, .lst 69 [] .full]) := Eq.trans (by kernel_rfl) rfl
theorem bytes26 : CT.bytes 26 = 112 := Eq.trans (by kernel_rfl) rfl
theorem ty27 : CT.ty 27 = .struct [3, 3, 22, 23, 24, 25] := Eq.trans (by kernel_rfl) rfl
theorem sh27 : CT.sh 27 = (.pair .leaf (.pair .leaf (.pair .leaf (.pair .leaf (.pair .leaf (.pair .leaf .unit)))))) := Eq.trans (by kernel_rfl) rfl
theorem zero27 : CT.zero 27 = (.agg [.lit (.int .i64 0), .lit (.int .i64 0), .lst 72 [] .full, .lst 64 [] .full, .lst 67 [] .full, .lst 69 [] .full]) := Eq.trans (by kernel_rfl) rfl
theorem bytes27 : CT.bytes 27 = 112 := Eq.trans (by kernel_rfl) rfl
theorem ty28 : CT.ty 28 = .struct [3, 3] := Eq.trans (by kernel_rfl) rfl
theorem sh28 : CT.sh 28 = (.pair .leaf (.pair .leaf .unit)) := Eq.trans (by kernel_rfl) rfl
theorem zero28 : CT.zero 28 = (.agg [.lit (.int .i64 0), .lit (.int .i64 0)]) := Eq.trans (by kernel_rfl) rfl
theorem bytes28 : CT.bytes 28 = 16 := Eq.trans (by kernel_rfl) rfl
theorem ty29 : CT.ty 29 = .struct [3, 3] := Eq.trans (by kernel_rfl) rfl
theorem sh29 : CT.sh 29 = (.pair .leaf (.pair .leaf .unit)) := Eq.trans (by kernel_rfl) rfl
theorem zero29 : CT.zero 29 = (.agg [.lit (.int .i64 0), .lit (.int .i64 0)]) := Eq.trans (by kernel_rfl) rfl
theorem bytes29 : CT.bytes 29 = 16 := Eq.trans (by kernel_rfl) rfl
theorem ty30 : CT.ty 30 = .arr 13 3 := Eq.trans (by kernel_rfl) rfl
theorem sh30 : CT.sh 30 = (.arr 13 .leaf) := Eq.trans (by kernel_rfl) rfl
theorem zero30 : CT.zero 30 = (.agg ((zeros 13).map fun n => .lit (.int .i64 n))) := Eq.trans (by kernel_rfl) rfl
theorem bytes30 : CT.bytes 30 = 104 := Eq.trans (by kernel_rfl) rfl
theorem ty31 : CT.ty 31 = .arr 13 3 := Eq.trans (by kernel_rfl) rfl
theorem sh31 : CT.sh 31 = (.arr 13 .leaf) := Eq.trans (by kernel_rfl) rfl
theorem zero31 : CT.zero 31 = (.agg ((zeros 13).map fun n => .lit (.int .i64 n))) := Eq.trans (by kernel_rfl) rfl
theorem bytes31 : CT.bytes 31 = 104 := Eq.trans (by kernel_rfl) rfl
theorem ty32 : CT.ty 32 = .slice 38 := Eq.trans (by kernel_rfl) rfl
theorem sh32 : CT.sh 32 = .leaf := Eq.trans (by kernel_rfl) rfl
theorem zero32 : CT.zero 32 = .lst 38 [] .full := Eq.trans (by kernel_rfl) rfl
theorem bytes32 : CT.bytes 32 = 24 := Eq.trans (by kernel_rfl) rfl
theorem ty33 : CT.ty 33 = .struct [29, 31, 3, 32] := Eq.trans (by kernel_rfl) rfl
theorem sh33 : CT.sh 33 = (.pair (.pair .leaf (.pair .leaf .unit)) (.pair (.arr 13 .leaf) (.pair .leaf (.pair .leaf .unit)))) := Eq.trans (by kernel_rfl) rfl
theorem zero33 : CT.zero 33 = (.agg [(.agg [.lit (.int .i64 0), .lit (.int .i64 0)]), (.agg ((zeros 13).map fun n => .lit (.int .i64 n))), .lit (.int .i64 0), .lst 38 [] .full]) := Eq.trans (by kernel_rfl) rfl
theorem bytes33 : CT.bytes 33 = 152 := Eq.trans (by kernel_rfl) rfl
theorem ty34 : CT.ty 34 = .struct [29, 31, 3, 32] := Eq.trans (by kernel_rfl) rfl
theorem sh34 : CT.sh 34 = (.pair (.pair .leaf (.pair .leaf .unit)) (.pair (.arr 13 .leaf) (.pair .leaf (.pair .leaf .unit)))) := Eq.trans (by kernel_rfl) rfl
theorem zero34 : CT.zero 34 = (.agg [(.agg [.lit (.int .i64 0), .lit (.int .i64 0)]), (.agg ((zeros 13).map fun n => .lit (.int .i64 n))), .lit (.int .i64 0), .lst 38 [] .full]) := Eq.trans (by kernel_rfl) rfl
theorem bytes34 : CT.bytes 34 = 152 := Eq.trans (by kernel_rfl) rfl
theorem ty35 : CT.ty 35 = .struct [29, 3] := Eq.trans (by kernel_rfl) rfl
theorem sh35 : CT.sh 35 = (.pair (.pair .leaf (.pair .leaf .unit)) (.pair .leaf .unit)) := Eq.trans (by kernel_rfl) rfl
theorem zero35 : CT.zero 35 = (.agg [(.agg [.lit (.int .i64 0), .lit (.int .i64 0)]), .lit (.int .i64 0)]) := Eq.trans (by kernel_rfl) rfl
theorem bytes35 : CT.bytes 35 = 24 := Eq.trans (by kernel_rfl) rfl
theorem ty36 : CT.ty 36 = .struct [29, 3] := Eq.trans (by kernel_rfl) rfl
theorem sh36 : CT.sh 36 = (.pair (.pair .leaf (.pair .leaf .unit)) (.pair .leaf .unit)) := Eq.trans (by kernel_rfl) rfl
theorem zero36 : CT.zero 36 = (.agg [(.agg [.lit (.int .i64 0), .lit (.int .i64 0)]), .lit (.int .i64 0)]) := Eq.trans (by kernel_rfl) rfl
theorem bytes36 : CT.bytes 36 = 24 := Eq.trans (by kernel_rfl) rfl
theorem ty37 : CT.ty 37 = .struct [3, 9, 9, 3, 3, 3, 9, 36] := Eq.trans (by kernel_rfl) rfl
theorem sh37 : CT.sh 37 = (.pair .leaf (.pair .leaf (.pair .leaf (.pair .leaf (.pair .leaf (.pair .leaf (.pair .leaf (.pair (.pair (.pair .leaf (.pair .leaf .unit)) (.pair .leaf .unit)) .unit)))))))) := Eq.trans (by kernel_rfl) rfl
theorem zero37 : CT.zero 37 = (.agg [.lit (.int .i64 0), .lit (.string ⟨#[]⟩), .lit (.string ⟨#[]⟩), .lit (.int .i64 0), .lit (.int .i64 0), .lit (.int .i64 0), .lit (.string ⟨#[]⟩), (.agg [(.agg [.lit (.int .i64 0), .lit (.int .i64 0)]), .lit (.int .i64 0)])]) := Eq.trans (by kernel_rfl) rfl
theorem bytes37 : CT.bytes 37 = 104 := Eq.trans (by kernel_rfl) rfl
theorem ty38 : CT.ty 38 = .struct [3, 9, 9, 3, 3, 3, 9, 36] := Eq.trans (by kernel_rfl) rfl
theorem sh38 : CT.sh 38 = (.pair .leaf (.pair .leaf (.pair .leaf (.pair .leaf (.pair .leaf (.pair .leaf (.pair .leaf (.pair (.pair (.pair .leaf (.pair .leaf .unit)) (.pair .leaf .unit)) .unit)))))))) := Eq.trans (by kernel_rfl) rfl
theorem zero38 : CT.zero 38 = (.agg [.lit (.int .i64 0), .lit (.string ⟨#[]⟩), .lit (.string ⟨#[]⟩), .lit (.int .i64 0), .lit (.int .i64 0), .lit (.int .i64 0), .lit (.string ⟨#[]⟩), (.agg [(.agg [.lit (.int .i64 0), .lit (.int .i64 0)]), .lit (.int .i64 0)])]) := Eq.trans (by kernel_rfl) rfl
theorem bytes38 : CT.bytes 38 = 104 := Eq.trans (by kernel_rfl) rfl
theorem ty39 : CT.ty 39 = .cell := Eq.trans (by kernel_rfl) rfl
theorem sh39 : CT.sh 39 = .leaf := Eq.trans (by kernel_rfl) rfl
theorem zero39 : CT.zero 39 = .lit .nilFunc := Eq.trans (by kernel_rfl) rfl
theorem bytes39 : CT.bytes 39 = 8 := Eq.trans (by kernel_rfl) rfl
theorem ty40 : CT.ty 40 = .cell := Eq.trans (by kernel_rfl) rfl
theorem sh40 : CT.sh 40 = .leaf := Eq.trans (by kernel_rfl) rfl
theorem zero40 : CT.zero 40 = .lit .nilFunc := Eq.trans (by kernel_rfl) rfl
theorem bytes40 : CT.bytes 40 = 8 := Eq.trans (by kernel_rfl) rfl
theorem ty41 : CT.ty 41 = .cell := Eq.trans (by kernel_rfl) rfl
theorem sh41 : CT.sh 41 = .leaf := Eq.trans (by kernel_rfl) rfl
theorem zero41 : CT.zero 41 = .lit .nilFunc := Eq.trans (by kernel_rfl) rfl
theorem bytes41 : CT.bytes 41 = 8 := Eq.trans (by kernel_rfl) rfl
theorem ty42 : CT.ty 42 = .cell := Eq.trans (by kernel_rfl) rfl
theorem sh42 : CT.sh 42 = .leaf := Eq.trans (by kernel_rfl) rfl
theorem zero42 : CT.zero 42 = .lit .nilFunc := Eq.trans (by kernel_rfl) rfl
theorem bytes42 : CT.bytes 42 = 8 := Eq.trans (by kernel_rfl) rfl
theorem ty43 : CT.ty 43 = .cell := Eq.trans (by kernel_rfl) rfl
theorem sh43 : CT.sh 43 = .leaf := Eq.trans (by kernel_rfl) rfl
theorem zero43 : CT.zero 43 = .lit .nilFunc := Eq.trans (by kernel_rfl) rfl
theorem bytes43 : CT.bytes 43 = 8 := Eq.trans (by kernel_rfl) rfl
theorem ty44 : CT.ty 44 = .cell := Eq.trans (by kernel_rfl) rfl
theorem sh44 : CT.sh 44 = .leaf := Eq.trans (by kernel_rfl) rfl
theorem zero44 : CT.zero 44 = .lit .nilFunc := Eq.trans (by kernel_rfl) rfl
theorem bytes44 : CT.bytes 44 = 8 := Eq.trans (by kernel_rfl) rfl
theorem ty45 : CT.ty 45 = .cell := Eq.trans (by kernel_rfl) rfl
theorem sh45 : CT.sh 45 = .leaf := Eq.trans (by kernel_rfl) rfl
theorem zero45 : CT.zero 45 = .lit .nilFunc := Eq.trans (by kernel_rfl) rfl
theorem bytes45 : CT.bytes 45 = 8 := Eq.trans (by kernel_rfl) rfl
theorem ty46 : CT.ty 46 = .cell := Eq.trans (by kernel_rfl) rfl
theorem sh46 : CT.sh 46 = .leaf := Eq.trans (by kernel_rfl) rfl
theorem zero46 : CT.zero 46 = .lit .nilFunc := Eq.trans (by kernel_rfl) rfl
theorem bytes46 : CT.bytes 46 = 8 := Eq.trans (by kernel_rfl) rfl
theorem ty47 : CT.ty 47 = .cell := Eq.trans (by kernel_rfl) rfl
theorem sh47 : CT.sh 47 = .leaf := Eq.trans (by kernel_rfl) rfl
theorem zero47 : CT.zero 47 = .lit .nilFunc := Eq.trans (by kernel_rfl) rfl
theorem bytes47 : CT.bytes 47 = 8 := Eq.trans (by kernel_rfl) rfl
theorem ty48 : CT.ty 48 = .int .i64 := Eq.trans (by kernel_rfl) rfl
theorem sh48 : CT.sh 48 = .leaf := Eq.trans (by kernel_rfl) rfl
theorem zero48 : CT.zero 48 = .lit (.int .i64 0) := Eq.trans (by kernel_rfl) rfl
theorem bytes48 : CT.bytes 48 = 8 := Eq.trans (by kernel_rfl) rfl
theorem ty50 : CT.ty 50 = .cell := Eq.trans (by kernel_rfl) rfl
theorem sh50 : CT.sh 50 = .leaf := Eq.trans (by kernel_rfl) rfl
theorem zero50 : CT.zero 50 = .lit .nilFunc := Eq.trans (by kernel_rfl) rfl
theorem bytes50 : CT.bytes 50 = 8 := Eq.trans (by kernel_rfl) rfl
theorem ty51 : CT.ty 51 = .cell := Eq.trans (by kernel_rfl) rfl
theorem sh51 : CT.sh 51 = .leaf := Eq.trans (by kernel_rfl) rfl
theorem zero51 : CT.zero 51 = .lit .nilFunc := Eq.trans (by kernel_rfl) rfl
theorem bytes51 : CT.bytes 51 = 8 := Eq.trans (by kernel_rfl) rfl
theorem ty52 : CT.ty 52 = .slice 9 := Eq.trans (by kernel_rfl) rfl
theorem sh52 : CT.sh 52 = .leaf := Eq.trans (by kernel_rfl) rfl
theorem zero52 : CT.zero 52 = .lst 9 [] .full := Eq.trans (by kernel_rfl) rfl
theorem bytes52 : CT.bytes 52 = 24 := Eq.trans (by kernel_rfl) rfl
theorem ty53 : CT.ty 53 = .slice 83 := Eq.trans (by kernel_rfl) rfl
theorem sh53 : CT.sh 53 = .leaf := Eq.trans (by kernel_rfl) rfl
theorem zero53 : CT.zero 53 = .lst 83 [] .full := Eq.trans (by kernel_rfl) rfl
theorem bytes53 : CT.bytes 53 = 24 := Eq.trans (by kernel_rfl) rfl
theorem ty54 : CT.ty 54 = .struct [3, 3, 52, 53] := Eq.trans (by kernel_rfl) rfl
theorem sh54 : CT.sh 54 = (.pair .leaf (.pair .leaf (.pair .leaf (.pair .leaf .unit)))) := Eq.trans (by kernel_rfl) rfl
theorem zero54 : CT.zero 54 = (.agg [.lit (.int .i64 0), .lit (.int .i64 0), .lst 9 [] .full, .lst 83 [] .full]) := Eq.trans (by kernel_rfl) rfl
theorem bytes54 : CT.bytes 54 = 64 := Eq.trans (by kernel_rfl) rfl
theorem ty55 : CT.ty 55 = .struct [3, 3, 52, 53] := Eq.trans (by kernel_rfl) rfl
theorem sh55 : CT.sh 55 = (.pair .leaf (.pair .leaf (.pair .leaf (.pair .leaf .unit)))) := Eq.trans (by kernel_rfl) rfl
theorem zero55 : CT.zero 55 = (.agg [.lit (.int .i64 0), .lit (.int .i64 0), .lst 9 [] .full, .lst 83 [] .full]) := Eq.trans (by kernel_rfl) rfl
theorem bytes55 : CT.bytes 55 = 64 := Eq.trans (by kernel_rfl) rfl
theorem ty56 : CT.ty 56 = .cell := Eq.trans (by kernel_rfl) rfl
theorem sh56 : CT.sh 56 = .leaf := Eq.trans (by kernel_rfl) rfl
theorem zero56 : CT.zero 56 = .lit .nilFunc := Eq.trans (by kernel_rfl) rfl
theorem bytes56 : CT.bytes 56 = 8 := Eq.trans (by kernel_rfl) rfl
theorem ty57 : CT.ty 57 = .cell := Eq.trans (by kernel_rfl) rfl
theorem sh57 : CT.sh 57 = .leaf := Eq.trans (by kernel_rfl) rfl
theorem zero57 : CT.zero 57 = .lit .nilFunc := Eq.trans (by kernel_rfl) rfl
theorem bytes57 : CT.bytes 57 = 8 := Eq.trans (by kernel_rfl) rfl
theorem ty59 : CT.ty 59 = .cell := Eq.trans (by kernel_rfl) rfl
theorem sh59 : CT.sh 59 = .leaf := Eq.trans (by kernel_rfl) rfl
theorem zero59 : CT.zero 59 = .lit .nilFunc := Eq.trans (by kernel_rfl) rfl
theorem bytes59 : CT.bytes 59 = 8 := Eq.trans (by kernel_rfl) rfl
theorem ty60 : CT.ty 60 = .cell := Eq.trans (by kernel_rfl) rfl
theorem sh60 : CT.sh 60 = .leaf := Eq.trans (by kernel_rfl) rfl
theorem zero60 : CT.zero 60 = .lit .nilFunc := Eq.trans (by kernel_rfl) rfl
theorem bytes60 : CT.bytes 60 = 8 := Eq.trans (by kernel_rfl) rfl
theorem ty61 : CT.ty 61 = .cell := Eq.trans (by kernel_rfl) rfl
theorem sh61 : CT.sh 61 = .leaf := Eq.trans (by kernel_rfl) rfl
theorem zero61 : CT.zero 61 = .lit .nilFunc := Eq.trans (by kernel_rfl) rfl
theorem bytes61 : CT.bytes 61 = 8 := Eq.trans (by kernel_rfl) rfl
theorem ty62 : CT.ty 62 = .cell := Eq.trans (by kernel_rfl) rfl
theorem sh62 : CT.sh 62 = .leaf := Eq.trans (by kernel_rfl) rfl
theorem zero62 : CT.zero 62 = .lit .nilFunc := Eq.trans (by kernel_rfl) rfl
theorem bytes62 : CT.bytes 62 = 8 := Eq.trans (by kernel_rfl) rfl
theorem ty63 : CT.ty 63 = .struct [36, 3, 9] := Eq.trans (by kernel_rfl) rfl
theorem sh63 : CT.sh 63 = (.pair (.pair (.pair .leaf (.pair .leaf .unit)) (.pair .leaf .unit)) (.pair .leaf (.pair .leaf .unit))) := Eq.trans (by kernel_rfl) rfl
theorem zero63 : CT.zero 63 = (.agg [(.agg [(.agg [.lit (.int .i64 0), .lit (.int .i64 0)]), .lit (.int .i64 0)]), .lit (.int .i64 0), .lit (.string ⟨#[]⟩)]) := Eq.trans (by kernel_rfl) rfl
theorem bytes63 : CT.bytes 63 = 48 := Eq.trans (by kernel_rfl) rfl
theorem ty64 : CT.ty 64 = .struct [36, 3, 9] := Eq.trans (by kernel_rfl) rfl
theorem sh64 : CT.sh 64 = (.pair (.pair (.pair .leaf (.pair .leaf .unit)) (.pair .leaf .unit)) (.pair .leaf (.pair .leaf .unit))) := Eq.trans (by kernel_rfl) rfl
theorem zero64 : CT.zero 64 = (.agg [(.agg [(.agg [.lit (.int .i64 0), .lit (.int .i64 0)]), .lit (.int .i64 0)]), .lit (.int .i64 0), .lit (.string ⟨#[]⟩)]) := Eq.trans (by kernel_rfl) rfl
theorem bytes64 : CT.bytes 64 = 48 := Eq.trans (by kernel_rfl) rfl
theorem ty65 : CT.ty 65 = .slice 36 := Eq.trans (by kernel_rfl) rfl
theorem sh65 : CT.sh 65 = .leaf := Eq.trans (by kernel_rfl) rfl
theorem zero65 : CT.zero 65 = .lst 36 [] .full := Eq.trans (by kernel_rfl) rfl
theorem bytes65 : CT.bytes 65 = 24 := Eq.trans (by kernel_rfl) rfl
theorem ty66 : CT.ty 66 = .struct [9, 4, 65] := Eq.trans (by kernel_rfl) rfl
theorem sh66 : CT.sh 66 = (.pair .leaf (.pair .leaf (.pair .leaf .unit))) := Eq.trans (by kernel_rfl) rfl
theorem zero66 : CT.zero 66 = (.agg [.lit (.string ⟨#[]⟩), .lit (.bool false), .lst 36 [] .full]) := Eq.trans (by kernel_rfl) rfl
theorem bytes66 : CT.bytes 66 = 48 := Eq.trans (by kernel_rfl) rfl
theorem ty67 : CT.ty 67 = .struct [9, 4, 65] := Eq.trans (by kernel_rfl) rfl
theorem sh67 : CT.sh 67 = (.pair .leaf (.pair .leaf (.pair .leaf .unit))) := Eq.trans (by kernel_rfl) rfl
theorem zero67 : CT.zero 67 = (.agg [.lit (.string ⟨#[]⟩), .lit (.bool false), .lst 36 [] .full]) := Eq.trans (by kernel_rfl) rfl
theorem bytes67 : CT.bytes 67 = 48 := Eq.trans (by kernel_rfl) rfl
theorem ty68 : CT.ty 68 = .struct [36, 3, 36, 9, 65] := Eq.trans (by kernel_rfl) rfl
theorem sh68 : CT.sh 68 = (.pair (.pair (.pair .leaf (.pair .leaf .unit)) (.pair .leaf .unit)) (.pair .leaf (.pair (.pair (.pair .leaf (.pair .leaf .unit)) (.pair .leaf .unit)) (.pair .leaf (.pair .leaf .unit))))) := Eq.trans (by kernel_rfl) rfl
theorem zero68 : CT.zero 68 = (.agg [(.agg [(.agg [.lit (.int .i64 0), .lit (.int .i64 0)]), .lit (.int .i64 0)]), .lit (.int .i64 0), (.agg [(.agg [.lit (.int .i64 0), .lit (.int .i64 0)]), .lit (.int .i64 0)]), .lit (.string ⟨#[]⟩), .lst 36 [] .full]) := Eq.trans (by kernel_rfl) rfl
theorem bytes68 : CT.bytes 68 = 96 := Eq.trans (by kernel_rfl) rfl
theorem ty69 : CT.ty 69 = .struct [36, 3, 36, 9, 65] := Eq.trans (by kernel_rfl) rfl
theorem sh69 : CT.sh 69 = (.pair (.pair (.pair .leaf (.pair .leaf .unit)) (.pair .leaf .unit)) (.pair .leaf (.pair (.pair (.pair .leaf (.pair .leaf .unit)) (.pair .leaf .unit)) (.pair .leaf (.pair .leaf .unit))))) := Eq.trans (by kernel_rfl) rfl
theorem zero69 : CT.zero 69 = (.agg [(.agg [(.agg [.lit (.int .i64 0), .lit (.int .i64 0)]), .lit (.int .i64 0)]), .lit (.int .i64 0), (.agg [(.agg [.lit (.int .i64 0), .lit (.int .i64 0)]), .lit (.int .i64 0)]), .lit (.string ⟨#[]⟩), .lst 36 [] .full]) := Eq.trans (by kernel_rfl) rfl
theorem bytes69 : CT.bytes 69 = 96 := Eq.trans (by kernel_rfl) rfl
theorem ty70 : CT.ty 70 = .cell := Eq.trans (by kernel_rfl) rfl
theorem sh70 : CT.sh 70 = .leaf := Eq.trans (by kernel_rfl) rfl
theorem zero70 : CT.zero 70 = .lit .nilFunc := Eq.trans (by kernel_rfl) rfl
theorem bytes70 : CT.bytes 70 = 8 := Eq.trans (by kernel_rfl) rfl
theorem ty71 : CT.ty 71 = .struct [36, 3] := Eq.trans (by kernel_rfl) rfl
theorem sh71 : CT.sh 71 = (.pair (.pair (.pair .leaf (.pair .leaf .unit)) (.pair .leaf .unit)) (.pair .leaf .unit)) := Eq.trans (by kernel_rfl) rfl
theorem zero71 : CT.zero 71 = (.agg [(.agg [(.agg [.lit (.int .i64 0), .lit (.int .i64 0)]), .lit (.int .i64 0)]), .lit (.int .i64 0)]) := Eq.trans (by kernel_rfl) rfl
theorem bytes71 : CT.bytes 71 = 32 := Eq.trans (by kernel_rfl) rfl
theorem ty72 : CT.ty 72 = .struct [36, 3] := Eq.trans (by kernel_rfl) rfl
theorem sh72 : CT.sh 72 = (.pair (.pair (.pair .leaf (.pair .leaf .unit)) (.pair .leaf .unit)) (.pair .leaf .unit)) := Eq.trans (by kernel_rfl) rfl
theorem zero72 : CT.zero 72 = (.agg [(.agg [(.agg [.lit (.int .i64 0), .lit (.int .i64 0)]), .lit (.int .i64 0)]), .lit (.int .i64 0)]) := Eq.trans (by kernel_rfl) rfl
theorem bytes72 : CT.bytes 72 = 32 := Eq.trans (by kernel_rfl) rfl
theorem ty73 : CT.ty 73 = .cell := Eq.trans (by kernel_rfl) rfl
theorem sh73 : CT.sh 73 = .leaf := Eq.trans (by kernel_rfl) rfl
theorem zero73 : CT.zero 73 = .lit .nilFunc := Eq.trans (by kernel_rfl) rfl
theorem bytes73 : CT.bytes 73 = 8 := Eq.trans (by kernel_rfl) rfl
theorem ty74 : CT.ty 74 = .cell := Eq.trans (by kernel_rfl) rfl
theorem sh74 : CT.sh 74 = .leaf := Eq.trans (by kernel_rfl) rfl
theorem zero74 : CT.zero 74 = .lit .nilFunc := Eq.trans (by kernel_rfl) rfl
theorem bytes74 : CT.bytes 74 = 8 := Eq.trans (by kernel_rfl) rfl
theorem ty77 : CT.ty 77 = .cell := Eq.trans (by kernel_rfl) rfl
theorem sh77 : CT.sh 77 = .leaf := Eq.trans (by kernel_rfl) rfl
theorem zero77 : CT.zero 77 = .lit .nilFunc := Eq.trans (by kernel_rfl) rfl
theorem bytes77 : CT.bytes 77 = 8 := Eq.trans (by kernel_rfl) rfl
theorem ty78 : CT.ty 78 = .cell := Eq.trans (by kernel_rfl) rfl
theorem sh78 : CT.sh 78 = .leaf := Eq.trans (by kernel_rfl) rfl
theorem zero78 : CT.zero 78 = .lit .nilFunc := Eq.trans (by kernel_rfl) rfl
theorem bytes78 : CT.bytes 78 = 8 := Eq.trans (by kernel_rfl) rfl
theorem ty79 : CT.ty 79 = .struct [27] := Eq.trans (by kernel_rfl) rfl
theorem sh79 : CT.sh 79 = (.pair (.pair .leaf (.pair .leaf (.pair .leaf (.pair .leaf (.pair .leaf (.pair .leaf .unit)))))) .unit) := Eq.trans (by kernel_rfl) rfl
theorem zero79 : CT.zero 79 = (.agg [(.agg [.lit (.int .i64 0), .lit (.int .i64 0), .lst 72 [] .full, .lst 64 [] .full, .lst 67 [] .full, .lst 69 [] .full])]) := Eq.trans (by kernel_rfl) rfl
theorem bytes79 : CT.bytes 79 = 112 := Eq.trans (by kernel_rfl) rfl
theorem ty80 : CT.ty 80 = .struct [27] := Eq.trans (by kernel_rfl) rfl
theorem sh80 : CT.sh 80 = (.pair (.pair .leaf (.pair .leaf (.pair .leaf (.pair .leaf (.pair .leaf (.pair .leaf .unit)))))) .unit) := Eq.trans (by kernel_rfl) rfl
theorem zero80 : CT.zero 80 = (.agg [(.agg [.lit (.int .i64 0), .lit (.int .i64 0), .lst 72 [] .full, .lst 64 [] .full, .lst 67 [] .full, .lst 69 [] .full])]) := Eq.trans (by kernel_rfl) rfl
theorem bytes80 : CT.bytes 80 = 112 := Eq.trans (by kernel_rfl) rfl
theorem ty81 : CT.ty 81 = .cell := Eq.trans (by kernel_rfl) rfl
theorem sh81 : CT.sh 81 = .leaf := Eq.trans (by kernel_rfl) rfl
theorem zero81 : CT.zero 81 = .lit .nilFunc := Eq.trans (by kernel_rfl) rfl
theorem bytes81 : CT.bytes 81 = 8 := Eq.trans (by kernel_rfl) rfl
theorem ty82 : CT.ty 82 = .struct [9, 55] := Eq.trans (by kernel_rfl) rfl
theorem sh82 : CT.sh 82 = (.pair .leaf (.pair (.pair .leaf (.pair .leaf (.pair .leaf (.pair .leaf .unit)))) .unit)) := Eq.trans (by kernel_rfl) rfl
theorem zero82 : CT.zero 82 = (.agg [.lit (.string ⟨#[]⟩), (.agg [.lit (.int .i64 0), .lit (.int .i64 0), .lst 9 [] .full, .lst 83 [] .full])]) := Eq.trans (by kernel_rfl) rfl
theorem bytes82 : CT.bytes 82 = 80 := Eq.trans (by kernel_rfl) rfl
theorem ty83 : CT.ty 83 = .struct [9, 55] := Eq.trans (by kernel_rfl) rfl
theorem sh83 : CT.sh 83 = (.pair .leaf (.pair (.pair .leaf (.pair .leaf (.pair .leaf (.pair .leaf .unit)))) .unit)) := Eq.trans (by kernel_rfl) rfl
theorem zero83 : CT.zero 83 = (.agg [.lit (.string ⟨#[]⟩), (.agg [.lit (.int .i64 0), .lit (.int .i64 0), .lst 9 [] .full, .lst 83 [] .full])]) := Eq.trans (by kernel_rfl) rfl
theorem bytes83 : CT.bytes 83 = 80 := Eq.trans (by kernel_rfl) rfl
theorem ty84 : CT.ty 84 = .cell := Eq.trans (by kernel_rfl) rfl
theorem sh84 : CT.sh 84 = .leaf := Eq.trans (by kernel_rfl) rfl
theorem zero84 : CT.zero 84 = .lit .nilFunc := Eq.trans (by kernel_rfl) rfl
theorem bytes84 : CT.bytes 84 = 8 := Eq.trans (by kernel_rfl) rfl
theorem ty85 : CT.ty 85 = .cell := Eq.trans (by kernel_rfl) rfl
theorem sh85 : CT.sh 85 = .leaf := Eq.trans (by kernel_rfl) rfl
theorem zero85 : CT.zero 85 = .lit .nilFunc := Eq.trans (by kernel_rfl) rfl
theorem bytes85 : CT.bytes 85 = 8 := Eq.trans (by kernel_rfl) rfl
theorem ty86 : CT.ty 86 = .cell := Eq.trans (by kernel_rfl) rfl
theorem sh86 : CT.sh 86 = .leaf := Eq.trans (by kernel_rfl) rfl
theorem zero86 : CT.zero 86 = .lit .nilFunc := Eq.trans (by kernel_rfl) rfl
theorem bytes86 : CT.bytes 86 = 8 := Eq.trans (by kernel_rfl) rfl
theorem ty87 : CT.ty 87 = .cell := Eq.trans (by kernel_rfl) rfl
theorem sh87 : CT.sh 87 = .leaf := Eq.trans (by kernel_rfl) rfl
theorem zero87 : CT.zero 87 = .lit .nilFunc := Eq.trans (by kernel_rfl) rfl
theorem bytes87 : CT.bytes 87 = 8 := Eq.trans (by kernel_rfl) rfl
theorem ty88 : CT.ty 88 = .cell := Eq.trans (by kernel_rfl) rfl
theorem sh88 : CT.sh 88 = .leaf := Eq.trans (by kernel_rfl) rfl
theorem zero88 : CT.zero 88 = .lit .nilFunc := Eq.trans (by kernel_rfl) rfl
theorem bytes88 : CT.bytes 88 = 8 := Eq.trans (by kernel_rfl) rfl
theorem ty89 : CT.ty 89 = .cell := Eq.trans (by kernel_rfl) rfl
theorem sh89 : CT.sh 89 = .leaf := Eq.trans (by kernel_rfl) rfl
theorem zero89 : CT.zero 89 = .lit .nilFunc := Eq.trans (by kernel_rfl) rfl
theorem bytes89 : CT.bytes 89 = 8 := Eq.trans (by kernel_rfl) rfl
theorem ty90 : CT.ty 90 = .cell := Eq.trans (by kernel_rfl) rfl
theorem sh90 : CT.sh 90 = .leaf := Eq.trans (by kernel_rfl) rfl
theorem zero90 : CT.zero 90 = .lit .nilFunc := Eq.trans (by kernel_rfl) rfl
theorem bytes90 : CT.bytes 90 = 8 := Eq.trans (by kernel_rfl) rfl
theorem ty91 : CT.ty 91 = .cell := Eq.trans (by kernel_rfl) rfl
theorem sh91 : CT.sh 91 = .leaf := Eq.trans (by kernel_rfl) rfl
theorem zero91 : CT.zero 91 = .lit .nilFunc := Eq.trans (by kernel_rfl) rfl
theorem bytes91 : CT.bytes 91 = 8 := Eq.trans (by kernel_rfl) rfl
theorem ty92 : CT.ty 92 = .cell := Eq.trans (by kernel_rfl) rfl
theorem sh92 : CT.sh 92 = .leaf := Eq.trans (by kernel_rfl) rfl
theorem zero92 : CT.zero 92 = .lit .nilFunc := Eq.trans (by kernel_rfl) rfl
theorem bytes92 : CT.bytes 92 = 8 := Eq.trans (by kernel_rfl) rfl
theorem ty93 : CT.ty 93 = .cell := Eq.trans (by kernel_rfl) rfl
theorem sh93 : CT.sh 93 = .leaf := Eq.trans (by kernel_rfl) rfl
theorem zero93 : CT.zero 93 = .lit .nilFunc := Eq.trans (by kernel_rfl) rfl
theorem bytes93 : CT.bytes 93 = 8 := Eq.trans (by kernel_rfl) rfl
theorem ty94 : CT.ty 94 = .cell := Eq.trans (by kernel_rfl) rfl
theorem sh94 : CT.sh 94 = .leaf := Eq.trans (by kernel_rfl) rfl
theorem zero94 : CT.zero 94 = .lit .nilFunc := Eq.trans (by kernel_rfl) rfl
theorem bytes94 : CT.bytes 94 = 8 := Eq.trans (by kernel_rfl) rfl
theorem ty95 : CT.ty 95 = .struct [27] := Eq.trans (by kernel_rfl) rfl
theorem sh95 : CT.sh 95 = (.pair (.pair .leaf (.pair .leaf (.pair .leaf (.pair .leaf (.pair .leaf (.pair .leaf .unit)))))) .unit) := Eq.trans (by kernel_rfl) rfl
theorem zero95 : CT.zero 95 = (.agg [(.agg [.lit (.int .i64 0), .lit (.int .i64 0), .lst 72 [] .full, .lst 64 [] .full, .lst 67 [] .full, .lst 69 [] .full])]) := Eq.trans (by kernel_rfl) rfl
theorem bytes95 : CT.bytes 95 = 112 := Eq.trans (by kernel_rfl) rfl
theorem ty96 : CT.ty 96 = .struct [27] := Eq.trans (by kernel_rfl) rfl
theorem sh96 : CT.sh 96 = (.pair (.pair .leaf (.pair .leaf (.pair .leaf (.pair .leaf (.pair .leaf (.pair .leaf .unit)))))) .unit) := Eq.trans (by kernel_rfl) rfl
theorem zero96 : CT.zero 96 = (.agg [(.agg [.lit (.int .i64 0), .lit (.int .i64 0), .lst 72 [] .full, .lst 64 [] .full, .lst 67 [] .full, .lst 69 [] .full])]) := Eq.trans (by kernel_rfl) rfl
theorem bytes96 : CT.bytes 96 = 112 := Eq.trans (by kernel_rfl) rfl
theorem ty97 : CT.ty 97 = .struct [27] := Eq.trans (by kernel_rfl) rfl
theorem sh97 : CT.sh 97 = (.pair (.pair .leaf (.pair .leaf (.pair .leaf (.pair .leaf (.pair .leaf (.pair .leaf .unit)))))) .unit) := Eq.trans (by kernel_rfl) rfl
theorem zero97 : CT.zero 97 = (.agg [(.agg [.lit (.int .i64 0), .lit (.int .i64 0), .lst 72 [] .full, .lst 64 [] .full, .lst 67 [] .full, .lst 69 [] .full])]) := Eq.trans (by kernel_rfl) rfl
theorem bytes97 : CT.bytes 97 = 112 := Eq.trans (by kernel_rfl) rfl
theorem ty98 : CT.ty 98 = .struct [27] := Eq.trans (by kernel_rfl) rfl
theorem sh98 : CT.sh 98 = (.pair (.pair .leaf (.pair .leaf (.pair .leaf (.pair .leaf (.pair .leaf (.pair .leaf .unit)))))) .unit) := Eq.trans (by kernel_rfl) rfl
theorem zero98 : CT.zero 98 = (.agg [(.agg [.lit (.int .i64 0), .lit (.int .i64 0), .lst 72 [] .full, .lst 64 [] .full, .lst 67 [] .full, .lst 69 [] .full])]) := Eq.trans (by kernel_rfl) rfl
theorem bytes98 : CT.bytes 98 = 112 := Eq.trans (by kernel_rfl) rfl
theorem ty99 : CT.ty 99 = .cell := Eq.trans (by kernel_rfl) rfl
theorem sh99 : CT.sh 99 = .leaf := Eq.trans (by kernel_rfl) rfl
theorem zero99 : CT.zero 99 = .lit .nilFunc := Eq.trans (by kernel_rfl) rfl
theorem bytes99 : CT.bytes 99 = 8 := Eq.trans (by kernel_rfl) rfl
theorem ty100 : CT.ty 100 = .cell := Eq.trans (by kernel_rfl) rfl
theorem sh100 : CT.sh 100 = .leaf := Eq.trans (by kernel_rfl) rfl
theorem zero100 : CT.zero 100 = .lit .nilFunc := Eq.trans (by kernel_rfl) rfl
theorem bytes100 : CT.bytes 100 = 8 := Eq.trans (by kernel_rfl) rfl
theorem ty101 : CT.ty 101 = .cell := Eq.trans (by kernel_rfl) rfl
theorem sh101 : CT.sh 101 = .leaf := Eq.trans (by kernel_rfl) rfl
theorem zero101 : CT.zero 101 = .lit .nilFunc := Eq.trans (by kernel_rfl) rfl
theorem bytes101 : CT.bytes 101 = 8 := Eq.trans (by kernel_rfl) rfl
theorem ty102 : CT.ty 102 = .cell := Eq.trans (by kernel_rfl) rfl
theorem sh102 : CT.sh 102 = .leaf := Eq.trans (by kernel_rfl) rfl
theorem zero102 : CT.zero 102 = .lit .nilFunc := Eq.trans (by kernel_rfl) rfl
theorem bytes102 : CT.bytes 102 = 8 := Eq.trans (by kernel_rfl) rfl
theorem ty103 : CT.ty 103 = .cell := Eq.trans (by kernel_rfl) rfl
theorem sh103 : CT.sh 103 = .leaf := Eq.trans (by kernel_rfl) rfl
theorem zero103 : CT.zero 103 = .lit .nilFunc := Eq.trans (by kernel_rfl) rfl
theorem bytes103 : CT.bytes 103 = 8 := Eq.trans (by kernel_rfl) rfl
theorem ty105 : CT.ty 105 = .cell := Eq.trans (by kernel_rfl) rfl
theorem sh105 : CT.sh 105 = .leaf := Eq.trans (by kernel_rfl) rfl
theorem zero105 : CT.zero 105 = .lit .nilFunc := Eq.trans (by kernel_rfl) rfl
theorem bytes105 : CT.bytes 105 = 8 := Eq.trans (by kernel_rfl) rfl
theorem ty106 : CT.ty 106 = .cell := Eq.trans (by kernel_rfl) rfl
theorem sh106 : CT.sh 106 = .leaf := Eq.trans (by kernel_rfl) rfl
theorem zero106 : CT.zero 106 = .lit .nilFunc := Eq.trans (by kernel_rfl) rfl
theorem bytes106 : CT.bytes 106 = 8 := Eq.trans (by kernel_rfl) rfl
theorem ty107 : CT.ty 107 = .slice 3 := Eq.trans (by kernel_rfl) rfl
theorem sh107 : CT.sh 107 = .leaf := Eq.trans (by kernel_rfl) rfl
theorem zero107 : CT.zero 107 = .lst 3 [] .full := Eq.trans (by kernel_rfl) rfl
theorem bytes107 : CT.bytes 107 = 24 := Eq.trans (by kernel_rfl) rfl
theorem ty108 : CT.ty 108 = .cell := Eq.trans (by kernel_rfl) rfl
theorem sh108 : CT.sh 108 = .leaf := Eq.trans (by kernel_rfl) rfl
theorem zero108 : CT.zero 108 = .lit .nilFunc := Eq.trans (by kernel_rfl) rfl
theorem bytes108 : CT.bytes 108 = 8 := Eq.trans (by kernel_rfl) rfl
theorem ty109 : CT.ty 109 = .cell := Eq.trans (by kernel_rfl) rfl
theorem sh109 : CT.sh 109 = .leaf := Eq.trans (by kernel_rfl) rfl
theorem zero109 : CT.zero 109 = .lit .nilFunc := Eq.trans (by kernel_rfl) rfl
theorem bytes109 : CT.bytes 109 = 8 := Eq.trans (by kernel_rfl) rfl
theorem ty110 : CT.ty 110 = .cell := Eq.trans (by kernel_rfl) rfl
theorem sh110 : CT.sh 110 = .leaf := Eq.trans (by kernel_rfl) rfl
theorem zero110 : CT.zero 110 = .lit .nilFunc := Eq.trans (by kernel_rfl) rfl
theorem bytes110 : CT.bytes 110 = 8 := Eq.trans (by kernel_rfl) rfl
theorem ty111 : CT.ty 111 = .cell := Eq.trans (by kernel_rfl) rfl
theorem sh111 : CT.sh 111 = .leaf := Eq.trans (by kernel_rfl) rfl
theorem zero111 : CT.zero 111 = .lit .nilFunc := Eq.trans (by kernel_rfl) rfl
theorem bytes111 : CT.bytes 111 = 8 := Eq.trans (by kernel_rfl) rfl
theorem ty112 : CT.ty 112 = .cell := Eq.trans (by kernel_rfl) rfl
theorem sh112 : CT.sh 112 = .leaf := Eq.trans (by kernel_rfl) rfl
theorem zero112 : CT.zero 112 = .lit .nilFunc := Eq.trans (by kernel_rfl) rfl
theorem bytes112 : CT.bytes 112 = 8 := Eq.trans (by kernel_rfl) rfl
theorem ty118 : CT.ty 118 = .cell := Eq.trans (by kernel_rfl) rfl
theorem sh118 : CT.sh 118 = .leaf := Eq.trans (by kernel_rfl) rfl
theorem zero118 : CT.zero 118 = .lit .nilFunc := Eq.trans (by kernel_rfl) rfl
theorem bytes118 : CT.bytes 118 = 8 := Eq.trans (by kernel_rfl) rfl
theorem ty119 : CT.ty 119 = .int .u32 := Eq.trans (by kernel_rfl) rfl
theorem sh119 : CT.sh 119 = .leaf := Eq.trans (by kernel_rfl) rfl
theorem zero119 : CT.zero 119 = .lit (.int .u32 0) := Eq.trans (by kernel_rfl) rfl
theorem bytes119 : CT.bytes 119 = 4 := Eq.trans (by kernel_rfl) rfl
theorem ty122 : CT.ty 122 = .cell := Eq.trans (by kernel_rfl) rfl
theorem sh122 : CT.sh 122 = .leaf := Eq.trans (by kernel_rfl) rfl
theorem zero122 : CT.zero 122 = .lit .nilFunc := Eq.trans (by kernel_rfl) rfl
theorem bytes122 : CT.bytes 122 = 8 := Eq.trans (by kernel_rfl) rfl
theorem ty123 : CT.ty 123 = .cell := Eq.trans (by kernel_rfl) rfl
theorem sh123 : CT.sh 123 = .leaf := Eq.trans (by kernel_rfl) rfl
theorem zero123 : CT.zero 123 = .lit (.pointer none) := Eq.trans (by kernel_rfl) rfl
theorem bytes123 : CT.bytes 123 = 8 := Eq.trans (by kernel_rfl) rfl
theorem ty128 : CT.ty 128 = .cell := Eq.trans (by kernel_rfl) rfl
theorem sh128 : CT.sh 128 = .leaf := Eq.trans (by kernel_rfl) rfl
theorem zero128 : CT.zero 128 = .lit .nilFunc := Eq.trans (by kernel_rfl) rfl
theorem bytes128 : CT.bytes 128 = 8 := Eq.trans (by kernel_rfl) rfl
theorem ty129 : CT.ty 129 = .cell := Eq.trans (by kernel_rfl) rfl
theorem sh129 : CT.sh 129 = .leaf := Eq.trans (by kernel_rfl) rfl
theorem zero129 : CT.zero 129 = .lit .nilFunc := Eq.trans (by kernel_rfl) rfl
theorem bytes129 : CT.bytes 129 = 8 := Eq.trans (by kernel_rfl) rfl
theorem ty130 : CT.ty 130 = .cell := Eq.trans (by kernel_rfl) rfl
theorem sh130 : CT.sh 130 = .leaf := Eq.trans (by kernel_rfl) rfl
theorem zero130 : CT.zero 130 = .lit .nilFunc := Eq.trans (by kernel_rfl) rfl
theorem bytes130 : CT.bytes 130 = 8 := Eq.trans (by kernel_rfl) rfl
theorem ty131 : CT.ty 131 = .cell := Eq.trans (by kernel_rfl) rfl
theorem sh131 : CT.sh 131 = .leaf := Eq.trans (by kernel_rfl) rfl
theorem zero131 : CT.zero 131 = .lit .nilFunc := Eq.trans (by kernel_rfl) rfl
theorem bytes131 : CT.bytes 131 = 8 := Eq.trans (by kernel_rfl) rfl
theorem ty132 : CT.ty 132 = .cell := Eq.trans (by kernel_rfl) rfl
theorem sh132 : CT.sh 132 = .leaf := Eq.trans (by kernel_rfl) rfl
theorem zero132 : CT.zero 132 = .lit .nilFunc := Eq.trans (by kernel_rfl) rfl
theorem bytes132 : CT.bytes 132 = 8 := Eq.trans (by kernel_rfl) rfl
theorem ty134 : CT.ty 134 = .cell := Eq.trans (by kernel_rfl) rfl
theorem sh134 : CT.sh 134 = .leaf := Eq.trans (by kernel_rfl) rfl
theorem zero134 : CT.zero 134 = .lit .nilFunc := Eq.trans (by kernel_rfl) rfl
theorem bytes134 : CT.bytes 134 = 8 := Eq.trans (by kernel_rfl) rfl
theorem ty135 : CT.ty 135 = .cell := Eq.trans (by kernel_rfl) rfl
theorem sh135 : CT.sh 135 = .leaf := Eq.trans (by kernel_rfl) rfl
theorem zero135 : CT.zero 135 = .lit .nilFunc := Eq.trans (by kernel_rfl) rfl
theorem bytes135 : CT.bytes 135 = 8 := Eq.trans (by kernel_rfl) rfl
theorem ty136 : CT.ty 136 = .cell := Eq.trans (by kernel_rfl) rfl
theorem sh136 : CT.sh 136 = .leaf := Eq.trans (by kernel_rfl) rfl
theorem zero136 : CT.zero 136 = .lit .nilFunc := Eq.trans (by kernel_rfl) rfl
theorem bytes136 : CT.bytes 136 = 8 := Eq.trans (by kernel_rfl) rfl
theorem ty137 : CT.ty 137 = .cell := Eq.trans (by kernel_rfl) rfl
theorem sh137 : CT.sh 137 = .leaf := Eq.trans (by kernel_rfl) rfl
theorem zero137 : CT.zero 137 = .lit .nilFunc := Eq.trans (by kernel_rfl) rfl
theorem bytes137 : CT.bytes 137 = 8 := Eq.trans (by kernel_rfl) rfl
theorem ty138 : CT.ty 138 = .cell := Eq.trans (by kernel_rfl) rfl
theorem sh138 : CT.sh 138 = .leaf := Eq.trans (by kernel_rfl) rfl
theorem zero138 : CT.zero 138 = .lit .nilFunc := Eq.trans (by kernel_rfl) rfl
theorem bytes138 : CT.bytes 138 = 8 := Eq.trans (by kernel_rfl) rfl
theorem ty139 : CT.ty 139 = .cell := Eq.trans (by kernel_rfl) rfl
theorem sh139 : CT.sh 139 = .leaf := Eq.trans (by kernel_rfl) rfl
theorem zero139 : CT.zero 139 = .lit .nilFunc := Eq.trans (by kernel_rfl) rfl
theorem bytes139 : CT.bytes 139 = 8 := Eq.trans (by kernel_rfl) rfl
theorem ty140 : CT.ty 140 = .cell := Eq.trans (by kernel_rfl) rfl
theorem sh140 : CT.sh 140 = .leaf := Eq.trans (by kernel_rfl) rfl
theorem zero140 : CT.zero 140 = .lit .nilFunc := Eq.trans (by kernel_rfl) rfl
theorem bytes140 : CT.bytes 140 = 8 := Eq.trans (by kernel_rfl) rfl
theorem ty141 : CT.ty 141 = .cell := Eq.trans (by kernel_rfl) rfl
theorem sh141 : CT.sh 141 = .leaf := Eq.trans (by kernel_rfl) rfl
theorem zero141 : CT.zero 141 = .lit .nilFunc := Eq.trans (by kernel_rfl) rfl
theorem bytes141 : CT.bytes 141 = 8 := Eq.trans (by kernel_rfl) rfl
theorem ty142 : CT.ty 142 = .cell := Eq.trans (by kernel_rfl) rfl
theorem sh142 : CT.sh 142 = .leaf := Eq.trans (by kernel_rfl) rfl
theorem zero142 : CT.zero 142 = .lit .nilFunc := Eq.trans (by kernel_rfl) rfl
theorem bytes142 : CT.bytes 142 = 8 := Eq.trans (by kernel_rfl) rfl
theorem ty143 : CT.ty 143 = .cell := Eq.trans (by kernel_rfl) rfl
theorem sh143 : CT.sh 143 = .leaf := Eq.trans (by kernel_rfl) rfl
theorem zero143 : CT.zero 143 = .lit .nilFunc := Eq.trans (by kernel_rfl) rfl
theorem bytes143 : CT.bytes 143 = 8 := Eq.trans (by kernel_rfl) rfl
theorem ty144 : CT.ty 144 = .cell := Eq.trans (by kernel_rfl) rfl
theorem sh144 : CT.sh 144 = .leaf := Eq.trans (by kernel_rfl) rfl
theorem zero144 : CT.zero 144 = .lit .nilFunc := Eq.trans (by kernel_rfl) rfl
theorem bytes144 : CT.bytes 144 = 8 := Eq.trans (by kernel_rfl) rfl
theorem ty145 : CT.ty 145 = .cell := Eq.trans (by kernel_rfl) rfl
theorem sh145 : CT.sh 145 = .leaf := Eq.trans (by kernel_rfl) rfl
theorem zero145 : CT.zero 145 = .lit .nilFunc := Eq.trans (by kernel_rfl) rfl
theorem bytes145 : CT.bytes 145 = 8 := Eq.trans (by kernel_rfl) rfl
theorem ty146 : CT.ty 146 = .cell := Eq.trans (by kernel_rfl) rfl
theorem sh146 : CT.sh 146 = .leaf := Eq.trans (by kernel_rfl) rfl
theorem zero146 : CT.zero 146 = .lit .nilFunc := Eq.trans (by kernel_rfl) rfl
theorem bytes146 : CT.bytes 146 = 8 := Eq.trans (by kernel_rfl) rfl
theorem ty147 : CT.ty 147 = .cell := Eq.trans (by kernel_rfl) rfl
theorem sh147 : CT.sh 147 = .leaf := Eq.trans (by kernel_rfl) rfl
theorem zero147 : CT.zero 147 = .lit .nilFunc := Eq.trans (by kernel_rfl) rfl
theorem bytes147 : CT.bytes 147 = 8 := Eq.trans (by kernel_rfl) rfl
theorem ty148 : CT.ty 148 = .cell := Eq.trans (by kernel_rfl) rfl
theorem sh148 : CT.sh 148 = .leaf := Eq.trans (by kernel_rfl) rfl
theorem zero148 : CT.zero 148 = .lit .nilFunc := Eq.trans (by kernel_rfl) rfl
theorem bytes148 : CT.bytes 148 = 8 := Eq.trans (by kernel_rfl) rfl
theorem ty149 : CT.ty 149 = .cell := Eq.trans (by kernel_rfl) rfl
theorem sh149 : CT.sh 149 = .leaf := Eq.trans (by kernel_rfl) rfl
theorem zero149 : CT.zero 149 = .lit .nilFunc := Eq.trans (by kernel_rfl) rfl
theorem bytes149 : CT.bytes 149 = 8 := Eq.trans (by kernel_rfl) rfl
theorem ty150 : CT.ty 150 = .cell := Eq.trans (by kernel_rfl) rfl
theorem sh150 : CT.sh 150 = .leaf := Eq.trans (by kernel_rfl) rfl
theorem zero150 : CT.zero 150 = .lit .nilFunc := Eq.trans (by kernel_rfl) rfl
theorem bytes150 : CT.bytes 150 = 8 := Eq.trans (by kernel_rfl) rfl
theorem ty151 : CT.ty 151 = .cell := Eq.trans (by kernel_rfl) rfl
theorem sh151 : CT.sh 151 = .leaf := Eq.trans (by kernel_rfl) rfl
theorem zero151 : CT.zero 151 = .lit .nilFunc := Eq.trans (by kernel_rfl) rfl
theorem bytes151 : CT.bytes 151 = 8 := Eq.trans (by kernel_rfl) rfl
theorem ty152 : CT.ty 152 = .cell := Eq.trans (by kernel_rfl) rfl
theorem sh152 : CT.sh 152 = .leaf := Eq.trans (by kernel_rfl) rfl
theorem zero152 : CT.zero 152 = .lit .nilFunc := Eq.trans (by kernel_rfl) rfl
theorem bytes152 : CT.bytes 152 = 8 := Eq.trans (by kernel_rfl) rfl
theorem ty153 : CT.ty 153 = .map 9 4 := Eq.trans (by kernel_rfl) rfl
theorem sh153 : CT.sh 153 = .leaf := Eq.trans (by kernel_rfl) rfl
theorem zero153 : CT.zero 153 = .lit (.map none) := Eq.trans (by kernel_rfl) rfl
theorem bytes153 : CT.bytes 153 = 8 := Eq.trans (by kernel_rfl) rfl
theorem ty154 : CT.ty 154 = .cell := Eq.trans (by kernel_rfl) rfl
theorem sh154 : CT.sh 154 = .leaf := Eq.trans (by kernel_rfl) rfl
theorem zero154 : CT.zero 154 = .lit .nilFunc := Eq.trans (by kernel_rfl) rfl
theorem bytes154 : CT.bytes 154 = 8 := Eq.trans (by kernel_rfl) rfl
theorem ty155 : CT.ty 155 = .cell := Eq.trans (by kernel_rfl) rfl
theorem sh155 : CT.sh 155 = .leaf := Eq.trans (by kernel_rfl) rfl
theorem zero155 : CT.zero 155 = .lit .nilFunc := Eq.trans (by kernel_rfl) rfl
theorem bytes155 : CT.bytes 155 = 8 := Eq.trans (by kernel_rfl) rfl
theorem ty156 : CT.ty 156 = .cell := Eq.trans (by kernel_rfl) rfl
theorem sh156 : CT.sh 156 = .leaf := Eq.trans (by kernel_rfl) rfl
theorem zero156 : CT.zero 156 = .lit .nilFunc := Eq.trans (by kernel_rfl) rfl
theorem bytes156 : CT.bytes 156 = 8 := Eq.trans (by kernel_rfl) rfl
theorem ty157 : CT.ty 157 = .int .u64 := Eq.trans (by kernel_rfl) rfl
theorem sh157 : CT.sh 157 = .leaf := Eq.trans (by kernel_rfl) rfl
theorem zero157 : CT.zero 157 = .lit (.int .u64 0) := Eq.trans (by kernel_rfl) rfl
theorem bytes157 : CT.bytes 157 = 8 := Eq.trans (by kernel_rfl) rfl
theorem ty158 : CT.ty 158 = .cell := Eq.trans (by kernel_rfl) rfl
theorem sh158 : CT.sh 158 = .leaf := Eq.trans (by kernel_rfl) rfl
theorem zero158 : CT.zero 158 = .lit .nilFunc := Eq.trans (by kernel_rfl) rfl
theorem bytes158 : CT.bytes 158 = 8 := Eq.trans (by kernel_rfl) rfl
theorem ty159 : CT.ty 159 = .cell := Eq.trans (by kernel_rfl) rfl
theorem sh159 : CT.sh 159 = .leaf := Eq.trans (by kernel_rfl) rfl
theorem zero159 : CT.zero 159 = .lit .nilFunc := Eq.trans (by kernel_rfl) rfl
theorem bytes159 : CT.bytes 159 = 8 := Eq.trans (by kernel_rfl) rfl
theorem ty160 : CT.ty 160 = .int .i64 := Eq.trans (by kernel_rfl) rfl
theorem sh160 : CT.sh 160 = .leaf := Eq.trans (by kernel_rfl) rfl
theorem zero160 : CT.zero 160 = .lit (.int .i64 0) := Eq.trans (by kernel_rfl) rfl
theorem bytes160 : CT.bytes 160 = 8 := Eq.trans (by kernel_rfl) rfl
theorem ty162 : CT.ty 162 = .cell := Eq.trans (by kernel_rfl) rfl
theorem sh162 : CT.sh 162 = .leaf := Eq.trans (by kernel_rfl) rfl
theorem zero162 : CT.zero 162 = .lit .nilFunc := Eq.trans (by kernel_rfl) rfl
theorem bytes162 : CT.bytes 162 = 8 := Eq.trans (by kernel_rfl) rfl
theorem ty163 : CT.ty 163 = .cell := Eq.trans (by kernel_rfl) rfl
theorem sh163 : CT.sh 163 = .leaf := Eq.trans (by kernel_rfl) rfl
theorem zero163 : CT.zero 163 = .lit .nilFunc := Eq.trans (by kernel_rfl) rfl
theorem bytes163 : CT.bytes 163 = 8 := Eq.trans (by kernel_rfl) rfl
theorem ty164 : CT.ty 164 = .cell := Eq.trans (by kernel_rfl) rfl
theorem sh164 : CT.sh 164 = .leaf := Eq.trans (by kernel_rfl) rfl
theorem zero164 : CT.zero 164 = .lit .nilFunc := Eq.trans (by kernel_rfl) rfl
theorem bytes164 : CT.bytes 164 = 8 := Eq.trans (by kernel_rfl) rfl
theorem ty165 : CT.ty 165 = .cell := Eq.trans (by kernel_rfl) rfl
theorem sh165 : CT.sh 165 = .leaf := Eq.trans (by kernel_rfl) rfl
theorem zero165 : CT.zero 165 = .lit .nilFunc := Eq.trans (by kernel_rfl) rfl
theorem bytes165 : CT.bytes 165 = 8 := Eq.trans (by kernel_rfl) rfl
theorem ty167 : CT.ty 167 = .cell := Eq.trans (by kernel_rfl) rfl
theorem sh167 : CT.sh 167 = .leaf := Eq.trans (by kernel_rfl) rfl
theorem zero167 : CT.zero 167 = .lit .nilFunc := Eq.trans (by kernel_rfl) rfl
theorem bytes167 : CT.bytes 167 = 8 := Eq.trans (by kernel_rfl) rfl
theorem ty168 : CT.ty 168 = .cell := Eq.trans (by kernel_rfl) rfl
theorem sh168 : CT.sh 168 = .leaf := Eq.trans (by kernel_rfl) rfl
theorem zero168 : CT.zero 168 = .lit .nilFunc := Eq.trans (by kernel_rfl) rfl
theorem bytes168 : CT.bytes 168 = 8 := Eq.trans (by kernel_rfl) rfl
theorem ty169 : CT.ty 169 = .cell := Eq.trans (by kernel_rfl) rfl
theorem sh169 : CT.sh 169 = .leaf := Eq.trans (by kernel_rfl) rfl
theorem zero169 : CT.zero 169 = .lit .nilFunc := Eq.trans (by kernel_rfl) rfl
theorem bytes169 : CT.bytes 169 = 8 := Eq.trans (by kernel_rfl) rfl
theorem ty170 : CT.ty 170 = .int .u64 := Eq.trans (by kernel_rfl) rfl
theorem sh170 : CT.sh 170 = .leaf := Eq.trans (by kernel_rfl) rfl
theorem zero170 : CT.zero 170 = .lit (.int .u64 0) := Eq.trans (by kernel_rfl) rfl
theorem bytes170 : CT.bytes 170 = 8 := Eq.trans (by kernel_rfl) rfl
theorem ty171 : CT.ty 171 = .int .u64 := Eq.trans (by kernel_rfl) rfl
theorem sh171 : CT.sh 171 = .leaf := Eq.trans (by kernel_rfl) rfl
theorem zero171 : CT.zero 171 = .lit (.int .u64 0) := Eq.trans (by kernel_rfl) rfl
theorem bytes171 : CT.bytes 171 = 8 := Eq.trans (by kernel_rfl) rfl
theorem ty172 : CT.ty 172 = .cell := Eq.trans (by kernel_rfl) rfl
theorem sh172 : CT.sh 172 = .leaf := Eq.trans (by kernel_rfl) rfl
theorem zero172 : CT.zero 172 = .lit .nilFunc := Eq.trans (by kernel_rfl) rfl
theorem bytes172 : CT.bytes 172 = 8 := Eq.trans (by kernel_rfl) rfl
theorem ty173 : CT.ty 173 = .cell := Eq.trans (by kernel_rfl) rfl
theorem sh173 : CT.sh 173 = .leaf := Eq.trans (by kernel_rfl) rfl
theorem zero173 : CT.zero 173 = .lit .nilFunc := Eq.trans (by kernel_rfl) rfl
theorem bytes173 : CT.bytes 173 = 8 := Eq.trans (by kernel_rfl) rfl
theorem ty174 : CT.ty 174 = .cell := Eq.trans (by kernel_rfl) rfl
theorem sh174 : CT.sh 174 = .leaf := Eq.trans (by kernel_rfl) rfl
theorem zero174 : CT.zero 174 = .lit .nilFunc := Eq.trans (by kernel_rfl) rfl
theorem bytes174 : CT.bytes 174 = 8 := Eq.trans (by kernel_rfl) rfl
theorem ty175 : CT.ty 175 = .cell := Eq.trans (by kernel_rfl) rfl
theorem sh175 : CT.sh 175 = .leaf := Eq.trans (by kernel_rfl) rfl
theorem zero175 : CT.zero 175 = .lit (.pointer none) := Eq.trans (by kernel_rfl) rfl
theorem bytes175 : CT.bytes 175 = 8 := Eq.trans (by kernel_rfl) rfl
theorem ty176 : CT.ty 176 = .cell := Eq.trans (by kernel_rfl) rfl
theorem sh176 : CT.sh 176 = .leaf := Eq.trans (by kernel_rfl) rfl
theorem zero176 : CT.zero 176 = .lit .nilFunc := Eq.trans (by kernel_rfl) rfl
theorem bytes176 : CT.bytes 176 = 8 := Eq.trans (by kernel_rfl) rfl
theorem ty177 : CT.ty 177 = .cell := Eq.trans (by kernel_rfl) rfl
theorem sh177 : CT.sh 177 = .leaf := Eq.trans (by kernel_rfl) rfl
theorem zero177 : CT.zero 177 = .lit .nilFunc := Eq.trans (by kernel_rfl) rfl
theorem bytes177 : CT.bytes 177 = 8 := Eq.trans (by kernel_rfl) rfl
theorem ty178 : CT.ty 178 = .cell := Eq.trans (by kernel_rfl) rfl
theorem sh178 : CT.sh 178 = .leaf := Eq.trans (by kernel_rfl) rfl
theorem zero178 : CT.zero 178 = .lit (.pointer none) := Eq.trans (by kernel_rfl) rfl
theorem bytes178 : CT.bytes 178 = 8 := Eq.trans (by kernel_rfl) rfl
theorem ty180 : CT.ty 180 = .cell := Eq.trans (by kernel_rfl) rfl
theorem sh180 : CT.sh 180 = .leaf := Eq.trans (by kernel_rfl) rfl
theorem zero180 : CT.zero 180 = .lit .nilFunc := Eq.trans (by kernel_rfl) rfl
theorem bytes180 : CT.bytes 180 = 8 := Eq.trans (by kernel_rfl) rfl
theorem ty181 : CT.ty 181 = .cell := Eq.trans (by kernel_rfl) rfl
theorem sh181 : CT.sh 181 = .leaf := Eq.trans (by kernel_rfl) rfl
theorem zero181 : CT.zero 181 = .lit .nilFunc := Eq.trans (by kernel_rfl) rfl
theorem bytes181 : CT.bytes 181 = 8 := Eq.trans (by kernel_rfl) rfl
theorem ty182 : CT.ty 182 = .map 9 67 := Eq.trans (by kernel_rfl) rfl
theorem sh182 : CT.sh 182 = .leaf := Eq.trans (by kernel_rfl) rfl
theorem zero182 : CT.zero 182 = .lit (.map none) := Eq.trans (by kernel_rfl) rfl
theorem bytes182 : CT.bytes 182 = 8 := Eq.trans (by kernel_rfl) rfl
theorem ty183 : CT.ty 183 = .cell := Eq.trans (by kernel_rfl) rfl
theorem sh183 : CT.sh 183 = .leaf := Eq.trans (by kernel_rfl) rfl
theorem zero183 : CT.zero 183 = .lit .nilFunc := Eq.trans (by kernel_rfl) rfl
theorem bytes183 : CT.bytes 183 = 8 := Eq.trans (by kernel_rfl) rfl
theorem ty184 : CT.ty 184 = .cell := Eq.trans (by kernel_rfl) rfl
theorem sh184 : CT.sh 184 = .leaf := Eq.trans (by kernel_rfl) rfl
theorem zero184 : CT.zero 184 = .lit .nilFunc := Eq.trans (by kernel_rfl) rfl
theorem bytes184 : CT.bytes 184 = 8 := Eq.trans (by kernel_rfl) rfl
theorem ty185 : CT.ty 185 = .cell := Eq.trans (by kernel_rfl) rfl
theorem sh185 : CT.sh 185 = .leaf := Eq.trans (by kernel_rfl) rfl
theorem zero185 : CT.zero 185 = .lit .nilFunc := Eq.trans (by kernel_rfl) rfl
theorem bytes185 : CT.bytes 185 = 8 := Eq.trans (by kernel_rfl) rfl
theorem ty186 : CT.ty 186 = .cell := Eq.trans (by kernel_rfl) rfl
theorem sh186 : CT.sh 186 = .leaf := Eq.trans (by kernel_rfl) rfl
theorem zero186 : CT.zero 186 = .lit .nilFunc := Eq.trans (by kernel_rfl) rfl
theorem bytes186 : CT.bytes 186 = 8 := Eq.trans (by kernel_rfl) rfl
theorem ty187 : CT.ty 187 = .cell := Eq.trans (by kernel_rfl) rfl
theorem sh187 : CT.sh 187 = .leaf := Eq.trans (by kernel_rfl) rfl
theorem zero187 : CT.zero 187 = .lit .nilFunc := Eq.trans (by kernel_rfl) rfl
theorem bytes187 : CT.bytes 187 = 8 := Eq.trans (by kernel_rfl) rfl
theorem ty189 : CT.ty 189 = .cell := Eq.trans (by kernel_rfl) rfl
theorem sh189 : CT.sh 189 = .leaf := Eq.trans (by kernel_rfl) rfl
theorem zero189 : CT.zero 189 = .lit .nilFunc := Eq.trans (by kernel_rfl) rfl
theorem bytes189 : CT.bytes 189 = 8 := Eq.trans (by kernel_rfl) rfl
theorem ty190 : CT.ty 190 = .cell := Eq.trans (by kernel_rfl) rfl
theorem sh190 : CT.sh 190 = .leaf := Eq.trans (by kernel_rfl) rfl
theorem zero190 : CT.zero 190 = .lit .nilFunc := Eq.trans (by kernel_rfl) rfl
theorem bytes190 : CT.bytes 190 = 8 := Eq.trans (by kernel_rfl) rfl
theorem ty191 : CT.ty 191 = .cell := Eq.trans (by kernel_rfl) rfl
theorem sh191 : CT.sh 191 = .leaf := Eq.trans (by kernel_rfl) rfl
theorem zero191 : CT.zero 191 = .lit .nilFunc := Eq.trans (by kernel_rfl) rfl
theorem bytes191 : CT.bytes 191 = 8 := Eq.trans (by kernel_rfl) rfl
theorem ty192 : CT.ty 192 = .cell := Eq.trans (by kernel_rfl) rfl
theorem sh192 : CT.sh 192 = .leaf := Eq.trans (by kernel_rfl) rfl
theorem zero192 : CT.zero 192 = .lit .nilFunc := Eq.trans (by kernel_rfl) rfl
theorem bytes192 : CT.bytes 192 = 8 := Eq.trans (by kernel_rfl) rfl
theorem ty193 : CT.ty 193 = .cell := Eq.trans (by kernel_rfl) rfl
theorem sh193 : CT.sh 193 = .leaf := Eq.trans (by kernel_rfl) rfl
theorem zero193 : CT.zero 193 = .lit .nilFunc := Eq.trans (by kernel_rfl) rfl
theorem bytes193 : CT.bytes 193 = 8 := Eq.trans (by kernel_rfl) rfl
theorem ty194 : CT.ty 194 = .cell := Eq.trans (by kernel_rfl) rfl
theorem sh194 : CT.sh 194 = .leaf := Eq.trans (by kernel_rfl) rfl
theorem zero194 : CT.zero 194 = .lit .nilFunc := Eq.trans (by kernel_rfl) rfl
theorem bytes194 : CT.bytes 194 = 8 := Eq.trans (by kernel_rfl) rfl
theorem ty195 : CT.ty 195 = .cell := Eq.trans (by kernel_rfl) rfl
theorem sh195 : CT.sh 195 = .leaf := Eq.trans (by kernel_rfl) rfl
theorem zero195 : CT.zero 195 = .lit .nilFunc := Eq.trans (by kernel_rfl) rfl
theorem bytes195 : CT.bytes 195 = 8 := Eq.trans (by kernel_rfl) rfl
theorem ty196 : CT.ty 196 = .cell := Eq.trans (by kernel_rfl) rfl
theorem sh196 : CT.sh 196 = .leaf := Eq.trans (by kernel_rfl) rfl
theorem zero196 : CT.zero 196 = .lit .nilFunc := Eq.trans (by kernel_rfl) rfl
theorem bytes196 : CT.bytes 196 = 8 := Eq.trans (by kernel_rfl) rfl
theorem ty197 : CT.ty 197 = .cell := Eq.trans (by kernel_rfl) rfl
theorem sh197 : CT.sh 197 = .leaf := Eq.trans (by kernel_rfl) rfl
theorem zero197 : CT.zero 197 = .lit .nilFunc := Eq.trans (by kernel_rfl) rfl
theorem bytes197 : CT.bytes 197 = 8 := Eq.trans (by kernel_rfl) rfl
theorem ty198 : CT.ty 198 = .cell := Eq.trans (by kernel_rfl) rfl
theorem sh198 : CT.sh 198 = .leaf := Eq.trans (by kernel_rfl) rfl
theorem zero198 : CT.zero 198 = .lit .nilFunc := Eq.trans (by kernel_rfl) rfl
theorem bytes198 : CT.bytes 198 = 8 := Eq.trans (by kernel_rfl) rfl
theorem ty199 : CT.ty 199 = .map 36 4 := Eq.trans (by kernel_rfl) rfl
theorem sh199 : CT.sh 199 = .leaf := Eq.trans (by kernel_rfl) rfl
theorem zero199 : CT.zero 199 = .lit (.map none) := Eq.trans (by kernel_rfl) rfl
theorem bytes199 : CT.bytes 199 = 8 := Eq.trans (by kernel_rfl) rfl
theorem ty200 : CT.ty 200 = .cell := Eq.trans (by kernel_rfl) rfl
theorem sh200 : CT.sh 200 = .leaf := Eq.trans (by kernel_rfl) rfl
theorem zero200 : CT.zero 200 = .lit .nilFunc := Eq.trans (by kernel_rfl) rfl
theorem bytes200 : CT.bytes 200 = 8 := Eq.trans (by kernel_rfl) rfl
theorem ty201 : CT.ty 201 = .cell := Eq.trans (by kernel_rfl) rfl
theorem sh201 : CT.sh 201 = .leaf := Eq.trans (by kernel_rfl) rfl
theorem zero201 : CT.zero 201 = .lit .nilFunc := Eq.trans (by kernel_rfl) rfl
theorem bytes201 : CT.bytes 201 = 8 := Eq.trans (by kernel_rfl) rfl
theorem ty202 : CT.ty 202 = .cell := Eq.trans (by kernel_rfl) rfl
theorem sh202 : CT.sh 202 = .leaf := Eq.trans (by kernel_rfl) rfl
theorem zero202 : CT.zero 202 = .lit .nilFunc := Eq.trans (by kernel_rfl) rfl
theorem bytes202 : CT.bytes 202 = 8 := Eq.trans (by kernel_rfl) rfl
theorem ty203 : CT.ty 203 = .cell := Eq.trans (by kernel_rfl) rfl
theorem sh203 : CT.sh 203 = .leaf := Eq.trans (by kernel_rfl) rfl
theorem zero203 : CT.zero 203 = .lit .nilFunc := Eq.trans (by kernel_rfl) rfl
theorem bytes203 : CT.bytes 203 = 8 := Eq.trans (by kernel_rfl) rfl
theorem ty204 : CT.ty 204 = .cell := Eq.trans (by kernel_rfl) rfl
theorem sh204 : CT.sh 204 = .leaf := Eq.trans (by kernel_rfl) rfl
theorem zero204 : CT.zero 204 = .lit (.pointer none) := Eq.trans (by kernel_rfl) rfl
theorem bytes204 : CT.bytes 204 = 8 := Eq.trans (by kernel_rfl) rfl
theorem ty205 : CT.ty 205 = .cell := Eq.trans (by kernel_rfl) rfl
theorem sh205 : CT.sh 205 = .leaf := Eq.trans (by kernel_rfl) rfl
theorem zero205 : CT.zero 205 = .lit .nilFunc := Eq.trans (by kernel_rfl) rfl
theorem bytes205 : CT.bytes 205 = 8 := Eq.trans (by kernel_rfl) rfl
theorem ty206 : CT.ty 206 = .cell := Eq.trans (by kernel_rfl) rfl
theorem sh206 : CT.sh 206 = .leaf := Eq.trans (by kernel_rfl) rfl
theorem zero206 : CT.zero 206 = .lit .nilFunc := Eq.trans (by kernel_rfl) rfl
theorem bytes206 : CT.bytes 206 = 8 := Eq.trans (by kernel_rfl) rfl
theorem ty207 : CT.ty 207 = .cell := Eq.trans (by kernel_rfl) rfl
theorem sh207 : CT.sh 207 = .leaf := Eq.trans (by kernel_rfl) rfl
theorem zero207 : CT.zero 207 = .lit .nilFunc := Eq.trans (by kernel_rfl) rfl
theorem bytes207 : CT.bytes 207 = 8 := Eq.trans (by kernel_rfl) rfl
theorem ty208 : CT.ty 208 = .map 36 25 := Eq.trans (by kernel_rfl) rfl
theorem sh208 : CT.sh 208 = .leaf := Eq.trans (by kernel_rfl) rfl
theorem zero208 : CT.zero 208 = .lit (.map none) := Eq.trans (by kernel_rfl) rfl
theorem bytes208 : CT.bytes 208 = 8 := Eq.trans (by kernel_rfl) rfl
theorem ty209 : CT.ty 209 = .cell := Eq.trans (by kernel_rfl) rfl
theorem sh209 : CT.sh 209 = .leaf := Eq.trans (by kernel_rfl) rfl
theorem zero209 : CT.zero 209 = .lit .nilFunc := Eq.trans (by kernel_rfl) rfl
theorem bytes209 : CT.bytes 209 = 8 := Eq.trans (by kernel_rfl) rfl
theorem ty210 : CT.ty 210 = .cell := Eq.trans (by kernel_rfl) rfl
theorem sh210 : CT.sh 210 = .leaf := Eq.trans (by kernel_rfl) rfl
theorem zero210 : CT.zero 210 = .lit .nilFunc := Eq.trans (by kernel_rfl) rfl
theorem bytes210 : CT.bytes 210 = 8 := Eq.trans (by kernel_rfl) rfl
theorem ty211 : CT.ty 211 = .cell := Eq.trans (by kernel_rfl) rfl
theorem sh211 : CT.sh 211 = .leaf := Eq.trans (by kernel_rfl) rfl
theorem zero211 : CT.zero 211 = .lit .nilFunc := Eq.trans (by kernel_rfl) rfl
theorem bytes211 : CT.bytes 211 = 8 := Eq.trans (by kernel_rfl) rfl
theorem ty212 : CT.ty 212 = .cell := Eq.trans (by kernel_rfl) rfl
theorem sh212 : CT.sh 212 = .leaf := Eq.trans (by kernel_rfl) rfl
theorem zero212 : CT.zero 212 = .lit .nilFunc := Eq.trans (by kernel_rfl) rfl
theorem bytes212 : CT.bytes 212 = 8 := Eq.trans (by kernel_rfl) rfl
theorem ty213 : CT.ty 213 = .cell := Eq.trans (by kernel_rfl) rfl
theorem sh213 : CT.sh 213 = .leaf := Eq.trans (by kernel_rfl) rfl
theorem zero213 : CT.zero 213 = .lit .nilFunc := Eq.trans (by kernel_rfl) rfl
theorem bytes213 : CT.bytes 213 = 8 := Eq.trans (by kernel_rfl) rfl
theorem ty214 : CT.ty 214 = .cell := Eq.trans (by kernel_rfl) rfl
theorem sh214 : CT.sh 214 = .leaf := Eq.trans (by kernel_rfl) rfl
theorem zero214 : CT.zero 214 = .lit .nilFunc := Eq.trans (by kernel_rfl) rfl
theorem bytes214 : CT.bytes 214 = 8 := Eq.trans (by kernel_rfl) rfl
theorem ty215 : CT.ty 215 = .cell := Eq.trans (by kernel_rfl) rfl
theorem sh215 : CT.sh 215 = .leaf := Eq.trans (by kernel_rfl) rfl
theorem zero215 : CT.zero 215 = .lit .nilFunc := Eq.trans (by kernel_rfl) rfl
theorem bytes215 : CT.bytes 215 = 8 := Eq.trans (by kernel_rfl) rfl
theorem ty216 : CT.ty 216 = .cell := Eq.trans (by kernel_rfl) rfl
theorem sh216 : CT.sh 216 = .leaf := Eq.trans (by kernel_rfl) rfl
theorem zero216 : CT.zero 216 = .lit .nilFunc := Eq.trans (by kernel_rfl) rfl
theorem bytes216 : CT.bytes 216 = 8 := Eq.trans (by kernel_rfl) rfl
theorem ty217 : CT.ty 217 = .cell := Eq.trans (by kernel_rfl) rfl
theorem sh217 : CT.sh 217 = .leaf := Eq.trans (by kernel_rfl) rfl
theorem zero217 : CT.zero 217 = .lit .nilFunc := Eq.trans (by kernel_rfl) rfl
theorem bytes217 : CT.bytes 217 = 8 := Eq.trans (by kernel_rfl) rfl
theorem ty218 : CT.ty 218 = .cell := Eq.trans (by kernel_rfl) rfl
theorem sh218 : CT.sh 218 = .leaf := Eq.trans (by kernel_rfl) rfl
theorem zero218 : CT.zero 218 = .lit .nilFunc := Eq.trans (by kernel_rfl) rfl
theorem bytes218 : CT.bytes 218 = 8 := Eq.trans (by kernel_rfl) rfl
theorem ty219 : CT.ty 219 = .cell := Eq.trans (by kernel_rfl) rfl
theorem sh219 : CT.sh 219 = .leaf := Eq.trans (by kernel_rfl) rfl
theorem zero219 : CT.zero 219 = .lit .nilFunc := Eq.trans (by kernel_rfl) rfl
theorem bytes219 : CT.bytes 219 = 8 := Eq.trans (by kernel_rfl) rfl
theorem ty220 : CT.ty 220 = .cell := Eq.trans (by kernel_rfl) rfl
theorem sh220 : CT.sh 220 = .leaf := Eq.trans (by kernel_rfl) rfl
theorem zero220 : CT.zero 220 = .lit .nilFunc := Eq.trans (by kernel_rfl) rfl
theorem bytes220 : CT.bytes 220 = 8 := Eq.trans (by kernel_rfl) rfl
theorem ty221 : CT.ty 221 = .cell := Eq.trans (by kernel_rfl) rfl
theorem sh221 : CT.sh 221 = .leaf := Eq.trans (by kernel_rfl) rfl
theorem zero221 : CT.zero 221 = .lit .nilFunc := Eq.trans (by kernel_rfl) rfl
theorem bytes221 : CT.bytes 221 = 8 := Eq.trans (by kernel_rfl) rfl

attribute [go_sem] ty1 sh1 zero1 bytes1
  ty2 sh2 zero2 bytes2
  ty3 sh3 zero3 bytes3
  ty4 sh4 zero4 bytes4
  ty5 sh5 zero5 bytes5
  ty9 sh9 zero9 bytes9
  ty12 sh12 zero12 bytes12
  ty21 sh21 zero21 bytes21
  ty22 sh22 zero22 bytes22
  ty23 sh23 zero23 bytes23
  ty24 sh24 zero24 bytes24
  ty25 sh25 zero25 bytes25
  ty26 sh26 zero26 bytes26
  ty27 sh27 zero27 bytes27
  ty28 sh28 zero28 bytes28
  ty29 sh29 zero29 bytes29
  ty30 sh30 zero30 bytes30
  ty31 sh31 zero31 bytes31
  ty32 sh32 zero32 bytes32
  ty33 sh33 zero33 bytes33
  ty34 sh34 zero34 bytes34
  ty35 sh35 zero35 bytes35
  ty36 sh36 zero36 bytes36
  ty37 sh37 zero37 bytes37
  ty38 sh38 zero38 bytes38
  ty39 sh39 zero39 bytes39
  ty40 sh40 zero40 bytes40
  ty41 sh41 zero41 bytes41
  ty42 sh42 zero42 bytes42
  ty43 sh43 zero43 bytes43
  ty44 sh44 zero44 bytes44
  ty45 sh45 zero45 bytes45
  ty46 sh46 zero46 bytes46
  ty47 sh47 zero47 bytes47
  ty48 sh48 zero48 bytes48
  ty50 sh50 zero50 bytes50
  ty51 sh51 zero51 bytes51
  ty52 sh52 zero52 bytes52
  ty53 sh53 zero53 bytes53
  ty54 sh54 zero54 bytes54
  ty55 sh55 zero55 bytes55
  ty56 sh56 zero56 bytes56
  ty57 sh57 zero57 bytes57
  ty59 sh59 zero59 bytes59
  ty60 sh60 zero60 bytes60
  ty61 sh61 zero61 bytes61
  ty62 sh62 zero62 bytes62
  ty63 sh63 zero63 bytes63
  ty64 sh64 zero64 bytes64
  ty65 sh65 zero65 bytes65
  ty66 sh66 zero66 bytes66
  ty67 sh67 zero67 bytes67
  ty68 sh68 zero68 bytes68
  ty69 sh69 zero69 bytes69
  ty70 sh70 zero70 bytes70
  ty71 sh71 zero71 bytes71
  ty72 sh72 zero72 bytes72
  ty73 sh73 zero73 bytes73
  ty74 sh74 zero74 bytes74
  ty77 sh77 zero77 bytes77
  ty78 sh78 zero78 bytes78
  ty79 sh79 zero79 bytes79
  ty80 sh80 zero80 bytes80
  ty81 sh81 zero81 bytes81
  ty82 sh82 zero82 bytes82
  ty83 sh83 zero83 bytes83
  ty84 sh84 zero84 bytes84
  ty85 sh85 zero85 bytes85
  ty86 sh86 zero86 bytes86
  ty87 sh87 zero87 bytes87
  ty88 sh88 zero88 bytes88
  ty89 sh89 zero89 bytes89
  ty90 sh90 zero90 bytes90
  ty91 sh91 zero91 bytes91
  ty92 sh92 zero92 bytes92
  ty93 sh93 zero93 bytes93
  ty94 sh94 zero94 bytes94
  ty95 sh95 zero95 bytes95
  ty96 sh96 zero96 bytes96
  ty97 sh97 zero97 bytes97
  ty98 sh98 zero98 bytes98
  ty99 sh99 zero99 bytes99
  ty100 sh100 zero100 bytes100
  ty101 sh101 zero101 bytes101
  ty102 sh102 zero102 bytes102
  ty103 sh103 zero103 bytes103
  ty105 sh105 zero105 bytes105
  ty106 sh106 zero106 bytes106
  ty107 sh107 zero107 bytes107
  ty108 sh108 zero108 bytes108
  ty109 sh109 zero109 bytes109
  ty110 sh110 zero110 bytes110
  ty111 sh111 zero111 bytes111
  ty112 sh112 zero112 bytes112
  ty118 sh118 zero118 bytes118
  ty119 sh119 zero119 bytes119
  ty122 sh122 zero122 bytes122
  ty123 sh123 zero123 bytes123
  ty128 sh128 zero128 bytes128
  ty129 sh129 zero129 bytes129
  ty130 sh130 zero130 bytes130
  ty131 sh131 zero131 bytes131
  ty132 sh132 zero132 bytes132
  ty134 sh134 zero134 bytes134
  ty135 sh135 zero135 bytes135
  ty136 sh136 zero136 bytes136
  ty137 sh137 zero137 bytes137
  ty138 sh138 zero138 bytes138
  ty139 sh139 zero139 bytes139
  ty140 sh140 zero140 bytes140
  ty141 sh141 zero141 bytes141
  ty142 sh142 zero142 bytes142
  ty143 sh143 zero143 bytes143
  ty144 sh144 zero144 bytes144
  ty145 sh145 zero145 bytes145
  ty146 sh146 zero146 bytes146
  ty147 sh147 zero147 bytes147
  ty148 sh148 zero148 bytes148
  ty149 sh149 zero149 bytes149
  ty150 sh150 zero150 bytes150
  ty151 sh151 zero151 bytes151
  ty152 sh152 zero152 bytes152
  ty153 sh153 zero153 bytes153
  ty154 sh154 zero154 bytes154
  ty155 sh155 zero155 bytes155
  ty156 sh156 zero156 bytes156
  ty157 sh157 zero157 bytes157
  ty158 sh158 zero158 bytes158
  ty159 sh159 zero159 bytes159
  ty160 sh160 zero160 bytes160
  ty162 sh162 zero162 bytes162
  ty163 sh163 zero163 bytes163
  ty164 sh164 zero164 bytes164
  ty165 sh165 zero165 bytes165
  ty167 sh167 zero167 bytes167
  ty168 sh168 zero168 bytes168
  ty169 sh169 zero169 bytes169
  ty170 sh170 zero170 bytes170
  ty171 sh171 zero171 bytes171
  ty172 sh172 zero172 bytes172
  ty173 sh173 zero173 bytes173
  ty174 sh174 zero174 bytes174
  ty175 sh175 zero175 bytes175
  ty176 sh176 zero176 bytes176
  ty177 sh177 zero177 bytes177
  ty178 sh178 zero178 bytes178
  ty180 sh180 zero180 bytes180
  ty181 sh181 zero181 bytes181
  ty182 sh182 zero182 bytes182
  ty183 sh183 zero183 bytes183
  ty184 sh184 zero184 bytes184
  ty185 sh185 zero185 bytes185
  ty186 sh186 zero186 bytes186
  ty187 sh187 zero187 bytes187
  ty189 sh189 zero189 bytes189
  ty190 sh190 zero190 bytes190
  ty191 sh191 zero191 bytes191
  ty192 sh192 zero192 bytes192
  ty193 sh193 zero193 bytes193
  ty194 sh194 zero194 bytes194
  ty195 sh195 zero195 bytes195
  ty196 sh196 zero196 bytes196
  ty197 sh197 zero197 bytes197
  ty198 sh198 zero198 bytes198
  ty199 sh199 zero199 bytes199
  ty200 sh200 zero200 bytes200
  ty201 sh201 zero201 bytes201
  ty202 sh202 zero202 bytes202
  ty203 sh203 zero203 bytes203
  ty204 sh204 zero204 bytes204
  ty205 sh205 zero205 bytes205
  ty206 sh206 zero206 bytes206
  ty207 sh207 zero207 bytes207
  ty208 sh208 zero208 bytes208
  ty209 sh209 zero209 bytes209
  ty210 sh210 zero210 bytes210
  ty211 sh211 zero211 bytes211
  ty212 sh212 zero212 bytes212
  ty213 sh213 zero213 bytes213
  ty214 sh214 zero214 bytes214
  ty215 sh215 zero215 bytes215
  ty216 sh216 zero216 bytes216
  ty217 sh217 zero217 bytes217
  ty218 sh218 zero218 bytes218
  ty219 sh219 zero219 bytes219
  ty220 sh220 zero220 bytes220
  ty221 sh221 zero221 bytes221

end Go.Ab
