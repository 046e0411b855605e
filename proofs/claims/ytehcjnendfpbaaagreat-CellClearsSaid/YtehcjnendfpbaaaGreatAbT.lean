/- The table of this program's types, held against the program. Conditions: none. -/
import Derived.Test.YtehcjnendfpbaaaGreatAbU
import Derived.Test.YtehcjnendfpbaaaGreatProg
namespace Go.Ab
open Go.Proofs

def rows : List Row := [
  ⟨1, .cell, .leaf, .lit .nilFunc, 8, 1⟩,
  ⟨2, .int .i64, .leaf, .lit (.int .i64 0), 8, 1⟩,
  ⟨3, .int .i64, .leaf, .lit (.int .i64 0), 8, 1⟩,
  ⟨4, .bool, .leaf, .lit (.bool false), 1, 1⟩,
  ⟨5, .int .u8, .leaf, .lit (.int .u8 0), 1, 1⟩,
  ⟨9, .str, .leaf, .lit (.string ⟨#[]⟩), 16, 1⟩,
  ⟨12, .int .u64, .leaf, .lit (.int .u64 0), 8, 1⟩,
  ⟨21, .int .i32, .leaf, .lit (.int .i32 0), 4, 1⟩,
  ⟨22, .slice 72, .leaf, .lst 72 [] .full, 24, 1⟩,
  ⟨23, .slice 64, .leaf, .lst 64 [] .full, 24, 1⟩,
  ⟨24, .slice 67, .leaf, .lst 67 [] .full, 24, 1⟩,
  ⟨25, .slice 69, .leaf, .lst 69 [] .full, 24, 1⟩,
  ⟨26, .struct [3, 3, 22, 23, 24, 25], (.pair .leaf (.pair .leaf (.pair .leaf (.pair .leaf (.pair .leaf (.pair .leaf .unit)))))), (.agg [.lit (.int .i64 0), .lit (.int .i64 0), .lst 72 [] .full, .lst 64 [] .full, .lst 67 [] .full, .lst 69 [] .full]), 112, 2⟩,
  ⟨27, .struct [3, 3, 22, 23, 24, 25], (.pair .leaf (.pair .leaf (.pair .leaf (.pair .leaf (.pair .leaf (.pair .leaf .unit)))))), (.agg [.lit (.int .i64 0), .lit (.int .i64 0), .lst 72 [] .full, .lst 64 [] .full, .lst 67 [] .full, .lst 69 [] .full]), 112, 2⟩,
  ⟨28, .struct [3, 3], (.pair .leaf (.pair .leaf .unit)), (.agg [.lit (.int .i64 0), .lit (.int .i64 0)]), 16, 2⟩,
  ⟨29, .struct [3, 3], (.pair .leaf (.pair .leaf .unit)), (.agg [.lit (.int .i64 0), .lit (.int .i64 0)]), 16, 2⟩,
  ⟨30, .arr 13 3, (.arr 13 .leaf), (.agg ((zeros 13).map fun n => .lit (.int .i64 n))), 104, 2⟩,
  ⟨31, .arr 13 3, (.arr 13 .leaf), (.agg ((zeros 13).map fun n => .lit (.int .i64 n))), 104, 2⟩,
  ⟨32, .slice 38, .leaf, .lst 38 [] .full, 24, 1⟩,
  ⟨33, .struct [29, 31, 3, 32], (.pair (.pair .leaf (.pair .leaf .unit)) (.pair (.arr 13 .leaf) (.pair .leaf (.pair .leaf .unit)))), (.agg [(.agg [.lit (.int .i64 0), .lit (.int .i64 0)]), (.agg ((zeros 13).map fun n => .lit (.int .i64 n))), .lit (.int .i64 0), .lst 38 [] .full]), 152, 3⟩,
  ⟨34, .struct [29, 31, 3, 32], (.pair (.pair .leaf (.pair .leaf .unit)) (.pair (.arr 13 .leaf) (.pair .leaf (.pair .leaf .unit)))), (.agg [(.agg [.lit (.int .i64 0), .lit (.int .i64 0)]), (.agg ((zeros 13).map fun n => .lit (.int .i64 n))), .lit (.int .i64 0), .lst 38 [] .full]), 152, 3⟩,
  ⟨35, .struct [29, 3], (.pair (.pair .leaf (.pair .leaf .unit)) (.pair .leaf .unit)), (.agg [(.agg [.lit (.int .i64 0), .lit (.int .i64 0)]), .lit (.int .i64 0)]), 24, 3⟩,
  ⟨36, .struct [29, 3], (.pair (.pair .leaf (.pair .leaf .unit)) (.pair .leaf .unit)), (.agg [(.agg [.lit (.int .i64 0), .lit (.int .i64 0)]), .lit (.int .i64 0)]), 24, 3⟩,
  ⟨37, .struct [3, 9, 9, 3, 3, 3, 9, 36], (.pair .leaf (.pair .leaf (.pair .leaf (.pair .leaf (.pair .leaf (.pair .leaf (.pair .leaf (.pair (.pair (.pair .leaf (.pair .leaf .unit)) (.pair .leaf .unit)) .unit)))))))), (.agg [.lit (.int .i64 0), .lit (.string ⟨#[]⟩), .lit (.string ⟨#[]⟩), .lit (.int .i64 0), .lit (.int .i64 0), .lit (.int .i64 0), .lit (.string ⟨#[]⟩), (.agg [(.agg [.lit (.int .i64 0), .lit (.int .i64 0)]), .lit (.int .i64 0)])]), 104, 4⟩,
  ⟨38, .struct [3, 9, 9, 3, 3, 3, 9, 36], (.pair .leaf (.pair .leaf (.pair .leaf (.pair .leaf (.pair .leaf (.pair .leaf (.pair .leaf (.pair (.pair (.pair .leaf (.pair .leaf .unit)) (.pair .leaf .unit)) .unit)))))))), (.agg [.lit (.int .i64 0), .lit (.string ⟨#[]⟩), .lit (.string ⟨#[]⟩), .lit (.int .i64 0), .lit (.int .i64 0), .lit (.int .i64 0), .lit (.string ⟨#[]⟩), (.agg [(.agg [.lit (.int .i64 0), .lit (.int .i64 0)]), .lit (.int .i64 0)])]), 104, 4⟩,
  ⟨39, .cell, .leaf, .lit .nilFunc, 8, 1⟩,
  ⟨40, .cell, .leaf, .lit .nilFunc, 8, 1⟩,
  ⟨41, .cell, .leaf, .lit .nilFunc, 8, 1⟩,
  ⟨42, .cell, .leaf, .lit .nilFunc, 8, 1⟩,
  ⟨43, .cell, .leaf, .lit .nilFunc, 8, 1⟩,
  ⟨44, .cell, .leaf, .lit .nilFunc, 8, 1⟩,
  ⟨45, .cell, .leaf, .lit .nilFunc, 8, 1⟩,
  ⟨46, .cell, .leaf, .lit .nilFunc, 8, 1⟩,
  ⟨47, .cell, .leaf, .lit .nilFunc, 8, 1⟩,
  ⟨48, .int .i64, .leaf, .lit (.int .i64 0), 8, 1⟩,
  ⟨50, .cell, .leaf, .lit .nilFunc, 8, 1⟩,
  ⟨51, .cell, .leaf, .lit .nilFunc, 8, 1⟩,
  ⟨52, .slice 9, .leaf, .lst 9 [] .full, 24, 1⟩,
  ⟨53, .slice 83, .leaf, .lst 83 [] .full, 24, 1⟩,
  ⟨54, .struct [3, 3, 52, 53], (.pair .leaf (.pair .leaf (.pair .leaf (.pair .leaf .unit)))), (.agg [.lit (.int .i64 0), .lit (.int .i64 0), .lst 9 [] .full, .lst 83 [] .full]), 64, 2⟩,
  ⟨55, .struct [3, 3, 52, 53], (.pair .leaf (.pair .leaf (.pair .leaf (.pair .leaf .unit)))), (.agg [.lit (.int .i64 0), .lit (.int .i64 0), .lst 9 [] .full, .lst 83 [] .full]), 64, 2⟩,
  ⟨56, .cell, .leaf, .lit .nilFunc, 8, 1⟩,
  ⟨57, .cell, .leaf, .lit .nilFunc, 8, 1⟩,
  ⟨59, .cell, .leaf, .lit .nilFunc, 8, 1⟩,
  ⟨60, .cell, .leaf, .lit .nilFunc, 8, 1⟩,
  ⟨61, .cell, .leaf, .lit .nilFunc, 8, 1⟩,
  ⟨62, .cell, .leaf, .lit .nilFunc, 8, 1⟩,
  ⟨63, .struct [36, 3, 9], (.pair (.pair (.pair .leaf (.pair .leaf .unit)) (.pair .leaf .unit)) (.pair .leaf (.pair .leaf .unit))), (.agg [(.agg [(.agg [.lit (.int .i64 0), .lit (.int .i64 0)]), .lit (.int .i64 0)]), .lit (.int .i64 0), .lit (.string ⟨#[]⟩)]), 48, 4⟩,
  ⟨64, .struct [36, 3, 9], (.pair (.pair (.pair .leaf (.pair .leaf .unit)) (.pair .leaf .unit)) (.pair .leaf (.pair .leaf .unit))), (.agg [(.agg [(.agg [.lit (.int .i64 0), .lit (.int .i64 0)]), .lit (.int .i64 0)]), .lit (.int .i64 0), .lit (.string ⟨#[]⟩)]), 48, 4⟩,
  ⟨65, .slice 36, .leaf, .lst 36 [] .full, 24, 1⟩,
  ⟨66, .struct [9, 4, 65], (.pair .leaf (.pair .leaf (.pair .leaf .unit))), (.agg [.lit (.string ⟨#[]⟩), .lit (.bool false), .lst 36 [] .full]), 48, 2⟩,
  ⟨67, .struct [9, 4, 65], (.pair .leaf (.pair .leaf (.pair .leaf .unit))), (.agg [.lit (.string ⟨#[]⟩), .lit (.bool false), .lst 36 [] .full]), 48, 2⟩,
  ⟨68, .struct [36, 3, 36, 9, 65], (.pair (.pair (.pair .leaf (.pair .leaf .unit)) (.pair .leaf .unit)) (.pair .leaf (.pair (.pair (.pair .leaf (.pair .leaf .unit)) (.pair .leaf .unit)) (.pair .leaf (.pair .leaf .unit))))), (.agg [(.agg [(.agg [.lit (.int .i64 0), .lit (.int .i64 0)]), .lit (.int .i64 0)]), .lit (.int .i64 0), (.agg [(.agg [.lit (.int .i64 0), .lit (.int .i64 0)]), .lit (.int .i64 0)]), .lit (.string ⟨#[]⟩), .lst 36 [] .full]), 96, 4⟩,
  ⟨69, .struct [36, 3, 36, 9, 65], (.pair (.pair (.pair .leaf (.pair .leaf .unit)) (.pair .leaf .unit)) (.pair .leaf (.pair (.pair (.pair .leaf (.pair .leaf .unit)) (.pair .leaf .unit)) (.pair .leaf (.pair .leaf .unit))))), (.agg [(.agg [(.agg [.lit (.int .i64 0), .lit (.int .i64 0)]), .lit (.int .i64 0)]), .lit (.int .i64 0), (.agg [(.agg [.lit (.int .i64 0), .lit (.int .i64 0)]), .lit (.int .i64 0)]), .lit (.string ⟨#[]⟩), .lst 36 [] .full]), 96, 4⟩,
  ⟨70, .cell, .leaf, .lit .nilFunc, 8, 1⟩,
  ⟨71, .struct [36, 3], (.pair (.pair (.pair .leaf (.pair .leaf .unit)) (.pair .leaf .unit)) (.pair .leaf .unit)), (.agg [(.agg [(.agg [.lit (.int .i64 0), .lit (.int .i64 0)]), .lit (.int .i64 0)]), .lit (.int .i64 0)]), 32, 4⟩,
  ⟨72, .struct [36, 3], (.pair (.pair (.pair .leaf (.pair .leaf .unit)) (.pair .leaf .unit)) (.pair .leaf .unit)), (.agg [(.agg [(.agg [.lit (.int .i64 0), .lit (.int .i64 0)]), .lit (.int .i64 0)]), .lit (.int .i64 0)]), 32, 4⟩,
  ⟨73, .cell, .leaf, .lit .nilFunc, 8, 1⟩,
  ⟨74, .cell, .leaf, .lit .nilFunc, 8, 1⟩,
  ⟨77, .cell, .leaf, .lit .nilFunc, 8, 1⟩,
  ⟨78, .cell, .leaf, .lit .nilFunc, 8, 1⟩,
  ⟨79, .struct [27], (.pair (.pair .leaf (.pair .leaf (.pair .leaf (.pair .leaf (.pair .leaf (.pair .leaf .unit)))))) .unit), (.agg [(.agg [.lit (.int .i64 0), .lit (.int .i64 0), .lst 72 [] .full, .lst 64 [] .full, .lst 67 [] .full, .lst 69 [] .full])]), 112, 3⟩,
  ⟨80, .struct [27], (.pair (.pair .leaf (.pair .leaf (.pair .leaf (.pair .leaf (.pair .leaf (.pair .leaf .unit)))))) .unit), (.agg [(.agg [.lit (.int .i64 0), .lit (.int .i64 0), .lst 72 [] .full, .lst 64 [] .full, .lst 67 [] .full, .lst 69 [] .full])]), 112, 3⟩,
  ⟨81, .cell, .leaf, .lit .nilFunc, 8, 1⟩,
  ⟨82, .struct [9, 55], (.pair .leaf (.pair (.pair .leaf (.pair .leaf (.pair .leaf (.pair .leaf .unit)))) .unit)), (.agg [.lit (.string ⟨#[]⟩), (.agg [.lit (.int .i64 0), .lit (.int .i64 0), .lst 9 [] .full, .lst 83 [] .full])]), 80, 3⟩,
  ⟨83, .struct [9, 55], (.pair .leaf (.pair (.pair .leaf (.pair .leaf (.pair .leaf (.pair .leaf .unit)))) .unit)), (.agg [.lit (.string ⟨#[]⟩), (.agg [.lit (.int .i64 0), .lit (.int .i64 0), .lst 9 [] .full, .lst 83 [] .full])]), 80, 3⟩,
  ⟨84, .cell, .leaf, .lit .nilFunc, 8, 1⟩,
  ⟨85, .cell, .leaf, .lit .nilFunc, 8, 1⟩,
  ⟨86, .cell, .leaf, .lit .nilFunc, 8, 1⟩,
  ⟨87, .cell, .leaf, .lit .nilFunc, 8, 1⟩,
  ⟨88, .cell, .leaf, .lit .nilFunc, 8, 1⟩,
  ⟨89, .cell, .leaf, .lit .nilFunc, 8, 1⟩,
  ⟨90, .cell, .leaf, .lit .nilFunc, 8, 1⟩,
  ⟨91, .cell, .leaf, .lit .nilFunc, 8, 1⟩,
  ⟨92, .cell, .leaf, .lit .nilFunc, 8, 1⟩,
  ⟨93, .cell, .leaf, .lit .nilFunc, 8, 1⟩,
  ⟨94, .cell, .leaf, .lit .nilFunc, 8, 1⟩,
  ⟨95, .struct [27], (.pair (.pair .leaf (.pair .leaf (.pair .leaf (.pair .leaf (.pair .leaf (.pair .leaf .unit)))))) .unit), (.agg [(.agg [.lit (.int .i64 0), .lit (.int .i64 0), .lst 72 [] .full, .lst 64 [] .full, .lst 67 [] .full, .lst 69 [] .full])]), 112, 3⟩,
  ⟨96, .struct [27], (.pair (.pair .leaf (.pair .leaf (.pair .leaf (.pair .leaf (.pair .leaf (.pair .leaf .unit)))))) .unit), (.agg [(.agg [.lit (.int .i64 0), .lit (.int .i64 0), .lst 72 [] .full, .lst 64 [] .full, .lst 67 [] .full, .lst 69 [] .full])]), 112, 3⟩,
  ⟨97, .struct [27], (.pair (.pair .leaf (.pair .leaf (.pair .leaf (.pair .leaf (.pair .leaf (.pair .leaf .unit)))))) .unit), (.agg [(.agg [.lit (.int .i64 0), .lit (.int .i64 0), .lst 72 [] .full, .lst 64 [] .full, .lst 67 [] .full, .lst 69 [] .full])]), 112, 3⟩,
  ⟨98, .struct [27], (.pair (.pair .leaf (.pair .leaf (.pair .leaf (.pair .leaf (.pair .leaf (.pair .leaf .unit)))))) .unit), (.agg [(.agg [.lit (.int .i64 0), .lit (.int .i64 0), .lst 72 [] .full, .lst 64 [] .full, .lst 67 [] .full, .lst 69 [] .full])]), 112, 3⟩,
  ⟨99, .cell, .leaf, .lit .nilFunc, 8, 1⟩,
  ⟨100, .cell, .leaf, .lit .nilFunc, 8, 1⟩,
  ⟨101, .cell, .leaf, .lit .nilFunc, 8, 1⟩,
  ⟨102, .cell, .leaf, .lit .nilFunc, 8, 1⟩,
  ⟨103, .cell, .leaf, .lit .nilFunc, 8, 1⟩,
  ⟨105, .cell, .leaf, .lit .nilFunc, 8, 1⟩,
  ⟨106, .cell, .leaf, .lit .nilFunc, 8, 1⟩,
  ⟨107, .slice 3, .leaf, .lst 3 [] .full, 24, 1⟩,
  ⟨108, .cell, .leaf, .lit .nilFunc, 8, 1⟩,
  ⟨109, .cell, .leaf, .lit .nilFunc, 8, 1⟩,
  ⟨110, .cell, .leaf, .lit .nilFunc, 8, 1⟩,
  ⟨111, .cell, .leaf, .lit .nilFunc, 8, 1⟩,
  ⟨112, .cell, .leaf, .lit .nilFunc, 8, 1⟩,
  ⟨118, .cell, .leaf, .lit .nilFunc, 8, 1⟩,
  ⟨119, .int .u32, .leaf, .lit (.int .u32 0), 4, 1⟩,
  ⟨122, .cell, .leaf, .lit .nilFunc, 8, 1⟩,
  ⟨123, .cell, .leaf, .lit (.pointer none), 8, 1⟩,
  ⟨128, .cell, .leaf, .lit .nilFunc, 8, 1⟩,
  ⟨129, .cell, .leaf, .lit .nilFunc, 8, 1⟩,
  ⟨130, .cell, .leaf, .lit .nilFunc, 8, 1⟩,
  ⟨131, .cell, .leaf, .lit .nilFunc, 8, 1⟩,
  ⟨132, .cell, .leaf, .lit .nilFunc, 8, 1⟩,
  ⟨134, .cell, .leaf, .lit .nilFunc, 8, 1⟩,
  ⟨135, .cell, .leaf, .lit .nilFunc, 8, 1⟩,
  ⟨136, .cell, .leaf, .lit .nilFunc, 8, 1⟩,
  ⟨137, .cell, .leaf, .lit .nilFunc, 8, 1⟩,
  ⟨138, .cell, .leaf, .lit .nilFunc, 8, 1⟩,
  ⟨139, .cell, .leaf, .lit .nilFunc, 8, 1⟩,
  ⟨140, .cell, .leaf, .lit .nilFunc, 8, 1⟩,
  ⟨141, .cell, .leaf, .lit .nilFunc, 8, 1⟩,
  ⟨142, .cell, .leaf, .lit .nilFunc, 8, 1⟩,
  ⟨143, .cell, .leaf, .lit .nilFunc, 8, 1⟩,
  ⟨144, .cell, .leaf, .lit .nilFunc, 8, 1⟩,
  ⟨145, .cell, .leaf, .lit .nilFunc, 8, 1⟩,
  ⟨146, .cell, .leaf, .lit .nilFunc, 8, 1⟩,
  ⟨147, .cell, .leaf, .lit .nilFunc, 8, 1⟩,
  ⟨148, .cell, .leaf, .lit .nilFunc, 8, 1⟩,
  ⟨149, .cell, .leaf, .lit .nilFunc, 8, 1⟩,
  ⟨150, .cell, .leaf, .lit .nilFunc, 8, 1⟩,
  ⟨151, .cell, .leaf, .lit .nilFunc, 8, 1⟩,
  ⟨152, .cell, .leaf, .lit .nilFunc, 8, 1⟩,
  ⟨153, .map 9 4, .leaf, .lit (.map none), 8, 1⟩,
  ⟨154, .cell, .leaf, .lit .nilFunc, 8, 1⟩,
  ⟨155, .cell, .leaf, .lit .nilFunc, 8, 1⟩,
  ⟨156, .cell, .leaf, .lit .nilFunc, 8, 1⟩,
  ⟨157, .int .u64, .leaf, .lit (.int .u64 0), 8, 1⟩,
  ⟨158, .cell, .leaf, .lit .nilFunc, 8, 1⟩,
  ⟨159, .cell, .leaf, .lit .nilFunc, 8, 1⟩,
  ⟨160, .int .i64, .leaf, .lit (.int .i64 0), 8, 1⟩,
  ⟨162, .cell, .leaf, .lit .nilFunc, 8, 1⟩,
  ⟨163, .cell, .leaf, .lit .nilFunc, 8, 1⟩,
  ⟨164, .cell, .leaf, .lit .nilFunc, 8, 1⟩,
  ⟨165, .cell, .leaf, .lit .nilFunc, 8, 1⟩,
  ⟨167, .cell, .leaf, .lit .nilFunc, 8, 1⟩,
  ⟨168, .cell, .leaf, .lit .nilFunc, 8, 1⟩,
  ⟨169, .cell, .leaf, .lit .nilFunc, 8, 1⟩,
  ⟨170, .int .u64, .leaf, .lit (.int .u64 0), 8, 1⟩,
  ⟨171, .int .u64, .leaf, .lit (.int .u64 0), 8, 1⟩,
  ⟨172, .cell, .leaf, .lit .nilFunc, 8, 1⟩,
  ⟨173, .cell, .leaf, .lit .nilFunc, 8, 1⟩,
  ⟨174, .cell, .leaf, .lit .nilFunc, 8, 1⟩,
  ⟨175, .cell, .leaf, .lit (.pointer none), 8, 1⟩,
  ⟨176, .cell, .leaf, .lit .nilFunc, 8, 1⟩,
  ⟨177, .cell, .leaf, .lit .nilFunc, 8, 1⟩,
  ⟨178, .cell, .leaf, .lit (.pointer none), 8, 1⟩,
  ⟨180, .cell, .leaf, .lit .nilFunc, 8, 1⟩,
  ⟨181, .cell, .leaf, .lit .nilFunc, 8, 1⟩,
  ⟨182, .map 9 67, .leaf, .lit (.map none), 8, 1⟩,
  ⟨183, .cell, .leaf, .lit .nilFunc, 8, 1⟩,
  ⟨184, .cell, .leaf, .lit .nilFunc, 8, 1⟩,
  ⟨185, .cell, .leaf, .lit .nilFunc, 8, 1⟩,
  ⟨186, .cell, .leaf, .lit .nilFunc, 8, 1⟩,
  ⟨187, .cell, .leaf, .lit .nilFunc, 8, 1⟩,
  ⟨189, .cell, .leaf, .lit .nilFunc, 8, 1⟩,
  ⟨190, .cell, .leaf, .lit .nilFunc, 8, 1⟩,
  ⟨191, .cell, .leaf, .lit .nilFunc, 8, 1⟩,
  ⟨192, .cell, .leaf, .lit .nilFunc, 8, 1⟩,
  ⟨193, .cell, .leaf, .lit .nilFunc, 8, 1⟩,
  ⟨194, .cell, .leaf, .lit .nilFunc, 8, 1⟩,
  ⟨195, .cell, .leaf, .lit .nilFunc, 8, 1⟩,
  ⟨196, .cell, .leaf, .lit .nilFunc, 8, 1⟩,
  ⟨197, .cell, .leaf, .lit .nilFunc, 8, 1⟩,
  ⟨198, .cell, .leaf, .lit .nilFunc, 8, 1⟩,
  ⟨199, .map 36 4, .leaf, .lit (.map none), 8, 1⟩,
  ⟨200, .cell, .leaf, .lit .nilFunc, 8, 1⟩,
  ⟨201, .cell, .leaf, .lit .nilFunc, 8, 1⟩,
  ⟨202, .cell, .leaf, .lit .nilFunc, 8, 1⟩,
  ⟨203, .cell, .leaf, .lit .nilFunc, 8, 1⟩,
  ⟨204, .cell, .leaf, .lit (.pointer none), 8, 1⟩,
  ⟨205, .cell, .leaf, .lit .nilFunc, 8, 1⟩,
  ⟨206, .cell, .leaf, .lit .nilFunc, 8, 1⟩,
  ⟨207, .cell, .leaf, .lit .nilFunc, 8, 1⟩,
  ⟨208, .map 36 25, .leaf, .lit (.map none), 8, 1⟩,
  ⟨209, .cell, .leaf, .lit .nilFunc, 8, 1⟩,
  ⟨210, .cell, .leaf, .lit .nilFunc, 8, 1⟩,
  ⟨211, .cell, .leaf, .lit .nilFunc, 8, 1⟩,
  ⟨212, .cell, .leaf, .lit .nilFunc, 8, 1⟩,
  ⟨213, .cell, .leaf, .lit .nilFunc, 8, 1⟩,
  ⟨214, .cell, .leaf, .lit .nilFunc, 8, 1⟩,
  ⟨215, .cell, .leaf, .lit .nilFunc, 8, 1⟩,
  ⟨216, .cell, .leaf, .lit .nilFunc, 8, 1⟩,
  ⟨217, .cell, .leaf, .lit .nilFunc, 8, 1⟩,
  ⟨218, .cell, .leaf, .lit .nilFunc, 8, 1⟩,
  ⟨219, .cell, .leaf, .lit .nilFunc, 8, 1⟩,
  ⟨220, .cell, .leaf, .lit .nilFunc, 8, 1⟩,
  ⟨221, .cell, .leaf, .lit .nilFunc, 8, 1⟩]

def CT : Tab := Tab.of rows

theorem hT : TabOk Tryz.prog CT := tabOk_rows rows (by kernel_rfl)

theorem ty3 : CT.ty 3 = .int .i64 := Eq.trans (by kernel_rfl) rfl
theorem sh3 : CT.sh 3 = .leaf := Eq.trans (by kernel_rfl) rfl
theorem zero3 : CT.zero 3 = .lit (.int .i64 0) := Eq.trans (by kernel_rfl) rfl
theorem ty4 : CT.ty 4 = .bool := Eq.trans (by kernel_rfl) rfl
theorem sh4 : CT.sh 4 = .leaf := Eq.trans (by kernel_rfl) rfl
theorem ty9 : CT.ty 9 = .str := Eq.trans (by kernel_rfl) rfl
theorem sh9 : CT.sh 9 = .leaf := Eq.trans (by kernel_rfl) rfl
theorem zero9 : CT.zero 9 = .lit (.string ⟨#[]⟩) := Eq.trans (by kernel_rfl) rfl
theorem bytes9 : CT.bytes 9 = 16 := Eq.trans (by kernel_rfl) rfl
theorem ty22 : CT.ty 22 = .slice 72 := Eq.trans (by kernel_rfl) rfl
theorem sh22 : CT.sh 22 = .leaf := Eq.trans (by kernel_rfl) rfl
theorem ty23 : CT.ty 23 = .slice 64 := Eq.trans (by kernel_rfl) rfl
theorem sh23 : CT.sh 23 = .leaf := Eq.trans (by kernel_rfl) rfl
theorem ty24 : CT.ty 24 = .slice 67 := Eq.trans (by kernel_rfl) rfl
theorem sh24 : CT.sh 24 = .leaf := Eq.trans (by kernel_rfl) rfl
theorem ty25 : CT.ty 25 = .slice 69 := Eq.trans (by kernel_rfl) rfl
theorem sh25 : CT.sh 25 = .leaf := Eq.trans (by kernel_rfl) rfl
theorem zero25 : CT.zero 25 = .lst 69 [] .full := Eq.trans (by kernel_rfl) rfl
theorem ty27 : CT.ty 27 = .struct [3, 3, 22, 23, 24, 25] := Eq.trans (by kernel_rfl) rfl
theorem sh27 : CT.sh 27 = (.pair .leaf (.pair .leaf (.pair .leaf (.pair .leaf (.pair .leaf (.pair .leaf .unit)))))) := Eq.trans (by kernel_rfl) rfl
theorem zero27 : CT.zero 27 = (.agg [.lit (.int .i64 0), .lit (.int .i64 0), .lst 72 [] .full, .lst 64 [] .full, .lst 67 [] .full, .lst 69 [] .full]) := Eq.trans (by kernel_rfl) rfl
theorem ty29 : CT.ty 29 = .struct [3, 3] := Eq.trans (by kernel_rfl) rfl
theorem sh29 : CT.sh 29 = (.pair .leaf (.pair .leaf .unit)) := Eq.trans (by kernel_rfl) rfl
theorem zero29 : CT.zero 29 = (.agg [.lit (.int .i64 0), .lit (.int .i64 0)]) := Eq.trans (by kernel_rfl) rfl
theorem ty31 : CT.ty 31 = .arr 13 3 := Eq.trans (by kernel_rfl) rfl
theorem sh31 : CT.sh 31 = (.arr 13 .leaf) := Eq.trans (by kernel_rfl) rfl
theorem ty32 : CT.ty 32 = .slice 38 := Eq.trans (by kernel_rfl) rfl
theorem sh32 : CT.sh 32 = .leaf := Eq.trans (by kernel_rfl) rfl
theorem ty34 : CT.ty 34 = .struct [29, 31, 3, 32] := Eq.trans (by kernel_rfl) rfl
theorem sh34 : CT.sh 34 = (.pair (.pair .leaf (.pair .leaf .unit)) (.pair (.arr 13 .leaf) (.pair .leaf (.pair .leaf .unit)))) := Eq.trans (by kernel_rfl) rfl
theorem zero34 : CT.zero 34 = (.agg [(.agg [.lit (.int .i64 0), .lit (.int .i64 0)]), (.agg ((zeros 13).map fun n => .lit (.int .i64 n))), .lit (.int .i64 0), .lst 38 [] .full]) := Eq.trans (by kernel_rfl) rfl
theorem ty36 : CT.ty 36 = .struct [29, 3] := Eq.trans (by kernel_rfl) rfl
theorem sh36 : CT.sh 36 = (.pair (.pair .leaf (.pair .leaf .unit)) (.pair .leaf .unit)) := Eq.trans (by kernel_rfl) rfl
theorem zero36 : CT.zero 36 = (.agg [(.agg [.lit (.int .i64 0), .lit (.int .i64 0)]), .lit (.int .i64 0)]) := Eq.trans (by kernel_rfl) rfl
theorem ty38 : CT.ty 38 = .struct [3, 9, 9, 3, 3, 3, 9, 36] := Eq.trans (by kernel_rfl) rfl
theorem sh38 : CT.sh 38 = (.pair .leaf (.pair .leaf (.pair .leaf (.pair .leaf (.pair .leaf (.pair .leaf (.pair .leaf (.pair (.pair (.pair .leaf (.pair .leaf .unit)) (.pair .leaf .unit)) .unit)))))))) := Eq.trans (by kernel_rfl) rfl
theorem zero38 : CT.zero 38 = (.agg [.lit (.int .i64 0), .lit (.string ⟨#[]⟩), .lit (.string ⟨#[]⟩), .lit (.int .i64 0), .lit (.int .i64 0), .lit (.int .i64 0), .lit (.string ⟨#[]⟩), (.agg [(.agg [.lit (.int .i64 0), .lit (.int .i64 0)]), .lit (.int .i64 0)])]) := Eq.trans (by kernel_rfl) rfl
theorem ty52 : CT.ty 52 = .slice 9 := Eq.trans (by kernel_rfl) rfl
theorem sh52 : CT.sh 52 = .leaf := Eq.trans (by kernel_rfl) rfl
theorem ty53 : CT.ty 53 = .slice 83 := Eq.trans (by kernel_rfl) rfl
theorem sh53 : CT.sh 53 = .leaf := Eq.trans (by kernel_rfl) rfl
theorem ty55 : CT.ty 55 = .struct [3, 3, 52, 53] := Eq.trans (by kernel_rfl) rfl
theorem sh55 : CT.sh 55 = (.pair .leaf (.pair .leaf (.pair .leaf (.pair .leaf .unit)))) := Eq.trans (by kernel_rfl) rfl
theorem zero55 : CT.zero 55 = (.agg [.lit (.int .i64 0), .lit (.int .i64 0), .lst 9 [] .full, .lst 83 [] .full]) := Eq.trans (by kernel_rfl) rfl
theorem ty64 : CT.ty 64 = .struct [36, 3, 9] := Eq.trans (by kernel_rfl) rfl
theorem sh64 : CT.sh 64 = (.pair (.pair (.pair .leaf (.pair .leaf .unit)) (.pair .leaf .unit)) (.pair .leaf (.pair .leaf .unit))) := Eq.trans (by kernel_rfl) rfl
theorem zero64 : CT.zero 64 = (.agg [(.agg [(.agg [.lit (.int .i64 0), .lit (.int .i64 0)]), .lit (.int .i64 0)]), .lit (.int .i64 0), .lit (.string ⟨#[]⟩)]) := Eq.trans (by kernel_rfl) rfl
theorem ty65 : CT.ty 65 = .slice 36 := Eq.trans (by kernel_rfl) rfl
theorem sh65 : CT.sh 65 = .leaf := Eq.trans (by kernel_rfl) rfl
theorem ty67 : CT.ty 67 = .struct [9, 4, 65] := Eq.trans (by kernel_rfl) rfl
theorem sh67 : CT.sh 67 = (.pair .leaf (.pair .leaf (.pair .leaf .unit))) := Eq.trans (by kernel_rfl) rfl
theorem zero67 : CT.zero 67 = (.agg [.lit (.string ⟨#[]⟩), .lit (.bool false), .lst 36 [] .full]) := Eq.trans (by kernel_rfl) rfl
theorem bytes67 : CT.bytes 67 = 48 := Eq.trans (by kernel_rfl) rfl
theorem ty69 : CT.ty 69 = .struct [36, 3, 36, 9, 65] := Eq.trans (by kernel_rfl) rfl
theorem sh69 : CT.sh 69 = (.pair (.pair (.pair .leaf (.pair .leaf .unit)) (.pair .leaf .unit)) (.pair .leaf (.pair (.pair (.pair .leaf (.pair .leaf .unit)) (.pair .leaf .unit)) (.pair .leaf (.pair .leaf .unit))))) := Eq.trans (by kernel_rfl) rfl
theorem zero69 : CT.zero 69 = (.agg [(.agg [(.agg [.lit (.int .i64 0), .lit (.int .i64 0)]), .lit (.int .i64 0)]), .lit (.int .i64 0), (.agg [(.agg [.lit (.int .i64 0), .lit (.int .i64 0)]), .lit (.int .i64 0)]), .lit (.string ⟨#[]⟩), .lst 36 [] .full]) := Eq.trans (by kernel_rfl) rfl
theorem bytes69 : CT.bytes 69 = 96 := Eq.trans (by kernel_rfl) rfl
theorem ty72 : CT.ty 72 = .struct [36, 3] := Eq.trans (by kernel_rfl) rfl
theorem sh72 : CT.sh 72 = (.pair (.pair (.pair .leaf (.pair .leaf .unit)) (.pair .leaf .unit)) (.pair .leaf .unit)) := Eq.trans (by kernel_rfl) rfl
theorem zero72 : CT.zero 72 = (.agg [(.agg [(.agg [.lit (.int .i64 0), .lit (.int .i64 0)]), .lit (.int .i64 0)]), .lit (.int .i64 0)]) := Eq.trans (by kernel_rfl) rfl
theorem bytes72 : CT.bytes 72 = 32 := Eq.trans (by kernel_rfl) rfl
theorem ty80 : CT.ty 80 = .struct [27] := Eq.trans (by kernel_rfl) rfl
theorem sh80 : CT.sh 80 = (.pair (.pair .leaf (.pair .leaf (.pair .leaf (.pair .leaf (.pair .leaf (.pair .leaf .unit)))))) .unit) := Eq.trans (by kernel_rfl) rfl
theorem zero80 : CT.zero 80 = (.agg [(.agg [.lit (.int .i64 0), .lit (.int .i64 0), .lst 72 [] .full, .lst 64 [] .full, .lst 67 [] .full, .lst 69 [] .full])]) := Eq.trans (by kernel_rfl) rfl
theorem ty95 : CT.ty 95 = .struct [27] := Eq.trans (by kernel_rfl) rfl
theorem sh95 : CT.sh 95 = (.pair (.pair .leaf (.pair .leaf (.pair .leaf (.pair .leaf (.pair .leaf (.pair .leaf .unit)))))) .unit) := Eq.trans (by kernel_rfl) rfl
theorem zero95 : CT.zero 95 = (.agg [(.agg [.lit (.int .i64 0), .lit (.int .i64 0), .lst 72 [] .full, .lst 64 [] .full, .lst 67 [] .full, .lst 69 [] .full])]) := Eq.trans (by kernel_rfl) rfl
theorem ty96 : CT.ty 96 = .struct [27] := Eq.trans (by kernel_rfl) rfl
theorem sh96 : CT.sh 96 = (.pair (.pair .leaf (.pair .leaf (.pair .leaf (.pair .leaf (.pair .leaf (.pair .leaf .unit)))))) .unit) := Eq.trans (by kernel_rfl) rfl
theorem zero96 : CT.zero 96 = (.agg [(.agg [.lit (.int .i64 0), .lit (.int .i64 0), .lst 72 [] .full, .lst 64 [] .full, .lst 67 [] .full, .lst 69 [] .full])]) := Eq.trans (by kernel_rfl) rfl
theorem ty97 : CT.ty 97 = .struct [27] := Eq.trans (by kernel_rfl) rfl
theorem sh97 : CT.sh 97 = (.pair (.pair .leaf (.pair .leaf (.pair .leaf (.pair .leaf (.pair .leaf (.pair .leaf .unit)))))) .unit) := Eq.trans (by kernel_rfl) rfl
theorem zero97 : CT.zero 97 = (.agg [(.agg [.lit (.int .i64 0), .lit (.int .i64 0), .lst 72 [] .full, .lst 64 [] .full, .lst 67 [] .full, .lst 69 [] .full])]) := Eq.trans (by kernel_rfl) rfl
theorem ty98 : CT.ty 98 = .struct [27] := Eq.trans (by kernel_rfl) rfl
theorem sh98 : CT.sh 98 = (.pair (.pair .leaf (.pair .leaf (.pair .leaf (.pair .leaf (.pair .leaf (.pair .leaf .unit)))))) .unit) := Eq.trans (by kernel_rfl) rfl
theorem zero98 : CT.zero 98 = (.agg [(.agg [.lit (.int .i64 0), .lit (.int .i64 0), .lst 72 [] .full, .lst 64 [] .full, .lst 67 [] .full, .lst 69 [] .full])]) := Eq.trans (by kernel_rfl) rfl
theorem ty107 : CT.ty 107 = .slice 3 := Eq.trans (by kernel_rfl) rfl
theorem ty208 : CT.ty 208 = .map 36 25 := Eq.trans (by kernel_rfl) rfl
theorem sh208 : CT.sh 208 = .leaf := Eq.trans (by kernel_rfl) rfl
theorem zero208 : CT.zero 208 = .lit (.map none) := Eq.trans (by kernel_rfl) rfl
theorem ty209 : CT.ty 209 = .cell := Eq.trans (by kernel_rfl) rfl
theorem sh209 : CT.sh 209 = .leaf := Eq.trans (by kernel_rfl) rfl
theorem zero209 : CT.zero 209 = .lit .nilFunc := Eq.trans (by kernel_rfl) rfl

attribute [go_sem] ty3 sh3 zero3 ty4 sh4 ty9 sh9 zero9 bytes9 ty22 sh22 ty23 sh23 ty24 sh24 ty25 sh25 zero25 ty27 sh27 zero27 ty29 sh29 zero29 ty31 sh31 ty32 sh32 ty34 sh34 zero34 ty36 sh36 zero36 ty38 sh38 zero38 ty52 sh52 ty53 sh53 ty55 sh55 zero55 ty64 sh64 zero64 ty65 sh65 ty67 sh67 zero67 bytes67 ty69 sh69 zero69 bytes69 ty72 sh72 zero72 bytes72 ty80 sh80 zero80 ty95 sh95 zero95 ty96 sh96 zero96 ty97 sh97 zero97 ty98 sh98 zero98 ty107 ty208 sh208 zero208 ty209 sh209 zero209

end Go.Ab
