/- FnPrivate: the closed facts of its row, joined. -/
import Derived.Test.YtmbnogellhoheaaGreatDoorPrj0
import Derived.Test.YtmbnogellhoheaaGreatDoorPrj1
import Derived.Test.YtmbnogellhoheaaGreatDoorPrj2
import Derived.Test.YtmbnogellhoheaaGreatDoorPrj3
namespace Go.Proofs.YtmbnogellhoheaaGreatDoor
open Go
theorem fnPrivate_named : Tryz.prog.funcNamed "loop.example/stowage/laws.FnPrivate" = some 13 := by kernel_rfl
set_option maxRecDepth 100000 in
theorem fnPrivate_facts : joinedFacts Tryz.checked.prog 13 Tryz.f13 (OpenSpec.ofChange Rows.fnPrivateSpec).bare Rows.fnPrivateRow = true := by
  unfold joinedFacts
  simp only [Bool.and_eq_true]
  exact ⟨⟨⟨⟨⟨⟨⟨⟨⟨⟨⟨⟨⟨⟨⟨⟨⟨⟨⟨⟨⟨⟨⟨⟨⟨⟨⟨⟨⟨⟨⟨jf0, jf1⟩, jf2⟩, jf3⟩, jf4⟩, jf5⟩, jf6⟩, jf7⟩, jf8⟩, jf9⟩, jf10⟩, jf11⟩, jf12⟩, jf13⟩, jf14⟩, jf15⟩, jf16⟩, jf17⟩, jf18⟩, jf19⟩, jf20⟩, jf21⟩, jf22⟩, jf23⟩, jf24⟩, jf25⟩, jf26⟩, jf27⟩, jf28⟩, jf29⟩, jf30⟩, jf31⟩
theorem fnPrivate_inst : Tryz.f13.isInstance Tryz.checked.prog Rows.fnPrivateRow.origin Rows.fnPrivateRow.targs := of_decide_eq_true (by kernel_rfl)
theorem fnPrivate_wrap : Tryz.f13.isWrapper Tryz.checked.prog Rows.fnPrivateRow.wrapper Rows.fnPrivateRow.mainSum := by
  unfold Func.isWrapper
  first | (rw [if_pos (by decide +kernel)]; kernel_rfl) | (rw [if_neg (by decide +kernel)]; exact ⟨rfl, rfl⟩)
end Go.Proofs.YtmbnogellhoheaaGreatDoor
