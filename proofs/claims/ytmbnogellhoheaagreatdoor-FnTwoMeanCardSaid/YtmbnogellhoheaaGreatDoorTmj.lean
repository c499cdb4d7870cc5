/- FnTwoMean: the closed facts of its row, joined. -/
import Derived.Test.YtmbnogellhoheaaGreatDoorTmj0
import Derived.Test.YtmbnogellhoheaaGreatDoorTmj1
import Derived.Test.YtmbnogellhoheaaGreatDoorTmj2
import Derived.Test.YtmbnogellhoheaaGreatDoorTmj3
namespace Go.Proofs.YtmbnogellhoheaaGreatDoor
open Go
theorem fnTwoMean_named : Tryz.prog.funcNamed "loop.example/stowage/laws.FnTwoMean" = some 6 := by kernel_rfl
set_option maxRecDepth 100000 in
theorem fnTwoMean_facts : joinedFacts Tryz.checked.prog 6 Tryz.f6 (OpenSpec.ofChange Rows.fnTwoMeanSpec).bare Rows.fnTwoMeanRow = true := by
  unfold joinedFacts
  simp only [Bool.and_eq_true]
  exact ⟨⟨⟨⟨⟨⟨⟨⟨⟨⟨⟨⟨⟨⟨⟨⟨⟨⟨⟨⟨⟨⟨⟨⟨⟨⟨⟨⟨⟨⟨⟨jf0, jf1⟩, jf2⟩, jf3⟩, jf4⟩, jf5⟩, jf6⟩, jf7⟩, jf8⟩, jf9⟩, jf10⟩, jf11⟩, jf12⟩, jf13⟩, jf14⟩, jf15⟩, jf16⟩, jf17⟩, jf18⟩, jf19⟩, jf20⟩, jf21⟩, jf22⟩, jf23⟩, jf24⟩, jf25⟩, jf26⟩, jf27⟩, jf28⟩, jf29⟩, jf30⟩, jf31⟩
theorem fnTwoMean_inst : Tryz.f6.isInstance Tryz.checked.prog Rows.fnTwoMeanRow.origin Rows.fnTwoMeanRow.targs := of_decide_eq_true (by kernel_rfl)
theorem fnTwoMean_wrap : Tryz.f6.isWrapper Tryz.checked.prog Rows.fnTwoMeanRow.wrapper Rows.fnTwoMeanRow.mainSum := by
  unfold Func.isWrapper
  first | (rw [if_pos (by decide +kernel)]; kernel_rfl) | (rw [if_neg (by decide +kernel)]; exact ⟨rfl, rfl⟩)
end Go.Proofs.YtmbnogellhoheaaGreatDoor
