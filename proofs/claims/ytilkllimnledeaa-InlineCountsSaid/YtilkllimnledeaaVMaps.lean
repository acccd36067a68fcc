/- A step of a proof that a law of this program holds: what its functions compute, over a ghost heap. -/
import Derived.Test.YtilkllimnledeaaPre
import Derived.Test.YtilkllimnledeaaLibD
import Derived.KernelRfl
set_option linter.all false
namespace Go.Proofs.Ytilkllimnledeaa
open Go Go.Proofs.Ytilkllimnledeaa.GH

abbrev mapT_map_mean_part_int : TypeId := 128
abbrev mapT_map_mean_part_int.k : TypeId := 134
theorem mapT_map_mean_part_int.key (x0 x1 x2 : Int) : keyOf PP mapT_map_mean_part_int.k (.agg #[.int .i64 x0, .int .i64 x1, .int .i64 x2]) = keyI [x0, x1, x2] := by kernel_rfl
theorem mapT_map_mean_part_int.ty : MapTy PP mapT_map_mean_part_int mapT_map_mean_part_int.k (.int .i64 0) := .mk' (el := 3) (by kernel_rfl) (by kernel_rfl) (keyed_wide (by kernel_rfl) (by kernel_rfl) (by kernel_rfl))
abbrev mapT_map_mean_part_bool : TypeId := 129
abbrev mapT_map_mean_part_bool.k : TypeId := 134
theorem mapT_map_mean_part_bool.key (x0 x1 x2 : Int) : keyOf PP mapT_map_mean_part_bool.k (.agg #[.int .i64 x0, .int .i64 x1, .int .i64 x2]) = keyI [x0, x1, x2] := by kernel_rfl
theorem mapT_map_mean_part_bool.ty : MapTy PP mapT_map_mean_part_bool mapT_map_mean_part_bool.k (.bool false) := .mk' (el := 4) (by kernel_rfl) (by kernel_rfl) (keyed_wide (by kernel_rfl) (by kernel_rfl) (by kernel_rfl))
abbrev mapT_map_2_int_Lint : TypeId := 158
abbrev mapT_map_2_int_Lint.k : TypeId := 161
theorem mapT_map_2_int_Lint.key (x0 x1 : Int) : keyOf PP mapT_map_2_int_Lint.k (.agg #[.int .i64 x0, .int .i64 x1]) = keyI [x0, x1] := by kernel_rfl
theorem mapT_map_2_int_Lint.ty : MapTy PP mapT_map_2_int_Lint mapT_map_2_int_Lint.k (.slice none 0 0) := .mk' (el := 38) (by kernel_rfl) (by kernel_rfl) (keyed_wide (by kernel_rfl) (by kernel_rfl) (by kernel_rfl))

end Go.Proofs.Ytilkllimnledeaa
