/- A step of a proof that a law of this program holds: what its functions compute, over a ghost heap. -/
import Derived.Test.YtpgpognmdejdaaaDoorPre
import Derived.Test.YtpgpognmdejdaaaDoorLibD
import Derived.KernelRfl
set_option linter.all false
namespace Go.Proofs.YtpgpognmdejdaaaDoor
open Go Go.Proofs.YtpgpognmdejdaaaDoor.GH

abbrev mapT_map_string_int : TypeId := 127
abbrev mapT_map_string_int.k : TypeId := 9
theorem mapT_map_string_int.str : PP.underlying mapT_map_string_int.k = some .string := by kernel_rfl
theorem mapT_map_string_int.ty : MapTy PP mapT_map_string_int mapT_map_string_int.k (.int .i64 0) := .mk' (el := 3) (by kernel_rfl) (by kernel_rfl) (Maps.string_keyed (by kernel_rfl))
abbrev mapT_map_int_Lnormal_place : TypeId := 253
abbrev mapT_map_int_Lnormal_place.k : TypeId := 3
theorem mapT_map_int_Lnormal_place.ty : MapTy PP mapT_map_int_Lnormal_place mapT_map_int_Lnormal_place.k (.slice none 0 0) := .mk' (el := 206) (by kernel_rfl) (by kernel_rfl) (Maps.int_keyed (q := .i64) (by kernel_rfl))
abbrev mapT_map_int_Lapi_Tree : TypeId := 280
abbrev mapT_map_int_Lapi_Tree.k : TypeId := 3
theorem mapT_map_int_Lapi_Tree.ty : MapTy PP mapT_map_int_Lapi_Tree mapT_map_int_Lapi_Tree.k (.slice none 0 0) := .mk' (el := 79) (by kernel_rfl) (by kernel_rfl) (Maps.int_keyed (q := .i64) (by kernel_rfl))

end Go.Proofs.YtpgpognmdejdaaaDoor
