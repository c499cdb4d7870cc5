/- FnCatch: the closed facts of its row, joined. -/
import Derived.Test.YtmbnogellhoheaaGreatDoorCtj0
import Derived.Test.YtmbnogellhoheaaGreatDoorCtj1
import Derived.Test.YtmbnogellhoheaaGreatDoorCtj2
import Derived.Test.YtmbnogellhoheaaGreatDoorCtj3
namespace Go.Proofs.YtmbnogellhoheaaGreatDoor
open Go
theorem fnCatch_named : Tryz.prog.funcNamed "loop.example/stowage/laws.FnCatch" = some 8 := by kernel_rfl
set_option maxRecDepth 100000 in
theorem fnCatch_facts : joinedFacts Tryz.checked.prog 8 Tryz.f8 (OpenSpec.ofChange Rows.fnCatchSpec).bare Rows.fnCatchRow = true := by
  unfold joinedFacts
  simp only [Bool.and_eq_true]
  exact ⟨⟨⟨⟨⟨⟨⟨⟨⟨⟨⟨⟨⟨⟨⟨⟨⟨⟨⟨⟨⟨⟨⟨⟨⟨⟨⟨⟨⟨⟨⟨jf0, jf1⟩, jf2⟩, jf3⟩, jf4⟩, jf5⟩, jf6⟩, jf7⟩, jf8⟩, jf9⟩, jf10⟩, jf11⟩, jf12⟩, jf13⟩, jf14⟩, jf15⟩, jf16⟩, jf17⟩, jf18⟩, jf19⟩, jf20⟩, jf21⟩, jf22⟩, jf23⟩, jf24⟩, jf25⟩, jf26⟩, jf27⟩, jf28⟩, jf29⟩, jf30⟩, jf31⟩
theorem fnCatch_inst : Tryz.f8.isInstance Tryz.checked.prog Rows.fnCatchRow.origin Rows.fnCatchRow.targs := of_decide_eq_true (by kernel_rfl)
theorem fnCatch_wrap : Tryz.f8.isWrapper Tryz.checked.prog Rows.fnCatchRow.wrapper Rows.fnCatchRow.mainSum := by
  unfold Func.isWrapper
  first | (rw [if_pos (by decide +kernel)]; kernel_rfl) | (rw [if_neg (by decide +kernel)]; exact ⟨rfl, rfl⟩)
end Go.Proofs.YtmbnogellhoheaaGreatDoor
