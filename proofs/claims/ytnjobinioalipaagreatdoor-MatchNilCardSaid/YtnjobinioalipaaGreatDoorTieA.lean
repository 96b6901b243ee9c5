/- The program's tie, by parts (the given Tie text takes more memory than a Lean process may): the words and the kinds. -/
import Derived.Test.YtnjobinioalipaaGreatDoorRows
import Derived.LaidByTextLater
import Derived.SevenTiedAt
namespace Go.Proofs.YtnjobinioalipaaGreatDoor
open Go
def laidL : List (String × DataW Unit) := [("strconv.ErrSyntax", Rows.laid_strconv_ErrSyntax), ("strconv.ErrRange", Rows.laid_strconv_ErrRange), ("internal/strconv.uint64pow10", Rows.laid_internal_strconv_uint64pow10), ("math/bits.deBruijn32tab", Rows.laid_math_bits_deBruijn32tab), ("math/bits.deBruijn64tab", Rows.laid_math_bits_deBruijn64tab), ("strings.asciiSpace", Rows.laid_strings_asciiSpace), ("unicode.White_Space", Rows.laid_unicode_White_Space)]
def kindsL : List LaidKind := [.sentinel, .sentinel, .data, .data, .data, .data, .listed]
theorem t_hw : Tryz.prog.worded (varsWordLater true) = true := by kernel_rfl
theorem t_hw' : Tryz.prog.worded (varsWordLater !true) = false := by kernel_rfl
theorem t_hroot : Tryz.prog.worded rootWordLater = true := by kernel_rfl
theorem t_hg : (Tryz.prog.funcNamed "gosem.cut.vars").isSome = true := by kernel_rfl
theorem t_hk : laidL.map (fun x => Tryz.prog.kindOfLater x.1) = kindsL.map some := by kernel_rfl
end Go.Proofs.YtnjobinioalipaaGreatDoor
