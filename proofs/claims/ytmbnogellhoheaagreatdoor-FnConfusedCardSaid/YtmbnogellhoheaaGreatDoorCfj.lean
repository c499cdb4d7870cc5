/- FnConfused: the closed facts of its row, joined. -/
import Derived.Test.YtmbnogellhoheaaGreatDoorCfj0
import Derived.Test.YtmbnogellhoheaaGreatDoorCfj1
import Derived.Test.YtmbnogellhoheaaGreatDoorCfj2
import Derived.Test.YtmbnogellhoheaaGreatDoorCfj3
namespace Go.Proofs.YtmbnogellhoheaaGreatDoor
open Go
theorem fnConfused_named : Tryz.prog.funcNamed "loop.example/stowage/laws.FnConfused" = some 5 := by kernel_rfl
set_option maxRecDepth 100000 in
theorem fnConfused_facts : joinedFacts Tryz.checked.prog 5 Tryz.f5 (OpenSpec.ofChange Rows.fnConfusedSpec).bare Rows.fnConfusedRow = true := by
  unfold joinedFacts
  simp only [Bool.and_eq_true]
  exact ⟨⟨⟨⟨⟨⟨⟨⟨⟨⟨⟨⟨⟨⟨⟨⟨⟨⟨⟨⟨⟨⟨⟨⟨⟨⟨⟨⟨⟨⟨⟨jf0, jf1⟩, jf2⟩, jf3⟩, jf4⟩, jf5⟩, jf6⟩, jf7⟩, jf8⟩, jf9⟩, jf10⟩, jf11⟩, jf12⟩, jf13⟩, jf14⟩, jf15⟩, jf16⟩, jf17⟩, jf18⟩, jf19⟩, jf20⟩, jf21⟩, jf22⟩, jf23⟩, jf24⟩, jf25⟩, jf26⟩, jf27⟩, jf28⟩, jf29⟩, jf30⟩, jf31⟩
theorem fnConfused_inst : Tryz.f5.isInstance Tryz.checked.prog Rows.fnConfusedRow.origin Rows.fnConfusedRow.targs := of_decide_eq_true (by kernel_rfl)
theorem fnConfused_wrap : Tryz.f5.isWrapper Tryz.checked.prog Rows.fnConfusedRow.wrapper Rows.fnConfusedRow.mainSum := by
  unfold Func.isWrapper
  first | (rw [if_pos (by decide +kernel)]; kernel_rfl) | (rw [if_neg (by decide +kernel)]; exact ⟨rfl, rfl⟩)
end Go.Proofs.YtmbnogellhoheaaGreatDoor
