/- FnLoop: the closed facts of its row, joined. -/
import Derived.Test.YtmbnogellhoheaaGreatDoorLj0
import Derived.Test.YtmbnogellhoheaaGreatDoorLj1
import Derived.Test.YtmbnogellhoheaaGreatDoorLj2
import Derived.Test.YtmbnogellhoheaaGreatDoorLj3
namespace Go.Proofs.YtmbnogellhoheaaGreatDoor
open Go
theorem fnLoop_named : Tryz.prog.funcNamed "loop.example/stowage/laws.FnLoop" = some 4 := by kernel_rfl
set_option maxRecDepth 100000 in
theorem fnLoop_facts : joinedFacts Tryz.checked.prog 4 Tryz.f4 (OpenSpec.ofChange Rows.fnLoopSpec).bare Rows.fnLoopRow = true := by
  unfold joinedFacts
  simp only [Bool.and_eq_true]
  exact ⟨⟨⟨⟨⟨⟨⟨⟨⟨⟨⟨⟨⟨⟨⟨⟨⟨⟨⟨⟨⟨⟨⟨⟨⟨⟨⟨⟨⟨⟨⟨jf0, jf1⟩, jf2⟩, jf3⟩, jf4⟩, jf5⟩, jf6⟩, jf7⟩, jf8⟩, jf9⟩, jf10⟩, jf11⟩, jf12⟩, jf13⟩, jf14⟩, jf15⟩, jf16⟩, jf17⟩, jf18⟩, jf19⟩, jf20⟩, jf21⟩, jf22⟩, jf23⟩, jf24⟩, jf25⟩, jf26⟩, jf27⟩, jf28⟩, jf29⟩, jf30⟩, jf31⟩
theorem fnLoop_inst : Tryz.f4.isInstance Tryz.checked.prog Rows.fnLoopRow.origin Rows.fnLoopRow.targs := of_decide_eq_true (by kernel_rfl)
theorem fnLoop_wrap : Tryz.f4.isWrapper Tryz.checked.prog Rows.fnLoopRow.wrapper Rows.fnLoopRow.mainSum := by
  unfold Func.isWrapper
  first | (rw [if_pos (by decide +kernel)]; kernel_rfl) | (rw [if_neg (by decide +kernel)]; exact ⟨rfl, rfl⟩)
end Go.Proofs.YtmbnogellhoheaaGreatDoor
