/- FnFaceOf: the closed facts of its row, joined. -/
import Derived.Test.YtmbnogellhoheaaGreatDoorFaj0
import Derived.Test.YtmbnogellhoheaaGreatDoorFaj1
import Derived.Test.YtmbnogellhoheaaGreatDoorFaj2
import Derived.Test.YtmbnogellhoheaaGreatDoorFaj3
namespace Go.Proofs.YtmbnogellhoheaaGreatDoor
open Go
theorem fnFaceOf_named : Tryz.prog.funcNamed "loop.example/stowage/laws.FnFaceOf" = some 9 := by kernel_rfl
set_option maxRecDepth 100000 in
theorem fnFaceOf_facts : joinedFacts Tryz.checked.prog 9 Tryz.f9 (OpenSpec.ofChange Rows.fnFaceOfSpec).bare Rows.fnFaceOfRow = true := by
  unfold joinedFacts
  simp only [Bool.and_eq_true]
  exact ⟨⟨⟨⟨⟨⟨⟨⟨⟨⟨⟨⟨⟨⟨⟨⟨⟨⟨⟨⟨⟨⟨⟨⟨⟨⟨⟨⟨⟨⟨⟨jf0, jf1⟩, jf2⟩, jf3⟩, jf4⟩, jf5⟩, jf6⟩, jf7⟩, jf8⟩, jf9⟩, jf10⟩, jf11⟩, jf12⟩, jf13⟩, jf14⟩, jf15⟩, jf16⟩, jf17⟩, jf18⟩, jf19⟩, jf20⟩, jf21⟩, jf22⟩, jf23⟩, jf24⟩, jf25⟩, jf26⟩, jf27⟩, jf28⟩, jf29⟩, jf30⟩, jf31⟩
theorem fnFaceOf_inst : Tryz.f9.isInstance Tryz.checked.prog Rows.fnFaceOfRow.origin Rows.fnFaceOfRow.targs := of_decide_eq_true (by kernel_rfl)
theorem fnFaceOf_wrap : Tryz.f9.isWrapper Tryz.checked.prog Rows.fnFaceOfRow.wrapper Rows.fnFaceOfRow.mainSum := by
  unfold Func.isWrapper
  first | (rw [if_pos (by decide +kernel)]; kernel_rfl) | (rw [if_neg (by decide +kernel)]; exact ⟨rfl, rfl⟩)
end Go.Proofs.YtmbnogellhoheaaGreatDoor
