/- FnFaults: the closed facts of its row, joined. -/
import Derived.Test.YtmbnogellhoheaaGreatDoorAj0
import Derived.Test.YtmbnogellhoheaaGreatDoorAj1
import Derived.Test.YtmbnogellhoheaaGreatDoorAj2
import Derived.Test.YtmbnogellhoheaaGreatDoorAj3
namespace Go.Proofs.YtmbnogellhoheaaGreatDoor
open Go
theorem fnFaults_named : Tryz.prog.funcNamed "loop.example/stowage/laws.FnFaults" = some 3 := by kernel_rfl
set_option maxRecDepth 100000 in
theorem fnFaults_facts : joinedFacts Tryz.checked.prog 3 Tryz.f3 (OpenSpec.ofChange Rows.fnFaultsSpec).bare Rows.fnFaultsRow = true := by
  unfold joinedFacts
  simp only [Bool.and_eq_true]
  exact ⟨⟨⟨⟨⟨⟨⟨⟨⟨⟨⟨⟨⟨⟨⟨⟨⟨⟨⟨⟨⟨⟨⟨⟨⟨⟨⟨⟨⟨⟨⟨jf0, jf1⟩, jf2⟩, jf3⟩, jf4⟩, jf5⟩, jf6⟩, jf7⟩, jf8⟩, jf9⟩, jf10⟩, jf11⟩, jf12⟩, jf13⟩, jf14⟩, jf15⟩, jf16⟩, jf17⟩, jf18⟩, jf19⟩, jf20⟩, jf21⟩, jf22⟩, jf23⟩, jf24⟩, jf25⟩, jf26⟩, jf27⟩, jf28⟩, jf29⟩, jf30⟩, jf31⟩
theorem fnFaults_inst : Tryz.f3.isInstance Tryz.checked.prog Rows.fnFaultsRow.origin Rows.fnFaultsRow.targs := of_decide_eq_true (by kernel_rfl)
theorem fnFaults_wrap : Tryz.f3.isWrapper Tryz.checked.prog Rows.fnFaultsRow.wrapper Rows.fnFaultsRow.mainSum := by
  unfold Func.isWrapper
  first | (rw [if_pos (by decide +kernel)]; kernel_rfl) | (rw [if_neg (by decide +kernel)]; exact ⟨rfl, rfl⟩)
end Go.Proofs.YtmbnogellhoheaaGreatDoor
