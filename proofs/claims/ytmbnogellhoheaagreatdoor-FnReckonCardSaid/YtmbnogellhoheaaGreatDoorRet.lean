/- The listed variables hold what the program's text lays in them: the tie of the row, part by part. -/
import Derived.Test.YtmbnogellhoheaaGreatDoorRows
import Derived.LaidByTextLater
import Derived.LaidOnce
import Derived.SevenTiedAt
namespace Go.Proofs.YtmbnogellhoheaaGreatDoor.EvTie
open Go
def laid8 : List (String × DataW Unit) := [("unicode/utf8.acceptRanges", Rows.laid_unicode_utf8_acceptRanges), ("strconv.ErrSyntax", Rows.laid_strconv_ErrSyntax), ("strconv.ErrRange", Rows.laid_strconv_ErrRange), ("internal/strconv.uint64pow10", Rows.laid_internal_strconv_uint64pow10), ("math/bits.deBruijn32tab", Rows.laid_math_bits_deBruijn32tab), ("math/bits.deBruijn64tab", Rows.laid_math_bits_deBruijn64tab), ("strings.asciiSpace", Rows.laid_strings_asciiSpace), ("unicode.White_Space", Rows.laid_unicode_White_Space)]
theorem pinFirst : Tryz.pinned.checked.prog.pinnedFits "unicode/utf8.first" = true := by kernel_rfl
theorem noOwn : Tryz.pinned.checked.prog.headLifts.contains "ownunsafe" = false := by kernel_rfl
theorem fits : Tryz.pinned.checked.prog.listedFits [("unicode/utf8.first", Rows.laid_unicode_utf8_first), ("unicode/utf8.acceptRanges", Rows.laid_unicode_utf8_acceptRanges), ("strconv.ErrSyntax", Rows.laid_strconv_ErrSyntax), ("strconv.ErrRange", Rows.laid_strconv_ErrRange), ("internal/strconv.uint64pow10", Rows.laid_internal_strconv_uint64pow10), ("math/bits.deBruijn32tab", Rows.laid_math_bits_deBruijn32tab), ("math/bits.deBruijn64tab", Rows.laid_math_bits_deBruijn64tab), ("strings.asciiSpace", Rows.laid_strings_asciiSpace), ("unicode.White_Space", Rows.laid_unicode_White_Space)] = true := by
  unfold Program.listedFits
  rw [noOwn]
  kernel_rfl
theorem k1 : Tryz.prog.worded (varsWordLater true) = true := by kernel_rfl
theorem k2 : Tryz.prog.worded (varsWordLater !true) = false := by kernel_rfl
theorem k3 : Tryz.prog.worded rootWordLater = true := by kernel_rfl
theorem k4 : laid8.map (fun x => Tryz.prog.kindOfLater x.1) = [LaidKind.data, .sentinel, .sentinel, .data, .data, .data, .data, .listed].map some := by kernel_rfl
theorem k5 : (Tryz.prog.funcNamed "gosem.cut.vars").isSome = true := by kernel_rfl
theorem k6 : varsNamedLaterB Tryz.prog (varsId Tryz.prog) laid8 = true := by kernel_rfl
theorem k7 (os : Os) (tape : Tape) : doorLeaves Tryz.prog 400 8 1000 laid8 os tape = some (laid8.filter fun x => x.2.handleName?.isNone, (funcsListed laid8).map (·.2.funcsOut)) := by kernel_rfl
theorem tied8 : Tryz.prog.laidByTextLater laid8 [.data, .sentinel, .sentinel, .data, .data, .data, .data, .listed] true :=
  Program.laidByTextLater_by_one 400 8 1000 k1 k2 k3 k4 k5 k6 k7
theorem fnReckon_tied : Rows.fnReckonRow.laidByTextAt .later Tryz.pinned [.pinned, .data, .sentinel, .sentinel, .data, .data, .data, .data, .listed] true :=
  OpenClaim.laidByTextAt_pinned rfl rfl tied8 rfl rfl rfl rfl (fun y hy e => by
    simp only [Rows.fnReckonRow, List.zip_cons_cons, List.zip_nil_right, List.mem_cons, List.mem_nil_iff, or_false] at hy
    rcases hy with rfl | rfl | rfl | rfl | rfl | rfl | rfl | rfl | rfl
    · exact ⟨pinFirst, by kernel_rfl⟩
    all_goals cases e) fits
end Go.Proofs.YtmbnogellhoheaaGreatDoor.EvTie
