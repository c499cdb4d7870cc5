/- FnLoop answers true at every slice of bytes, and every argument reads as before: the card, with the listed variables tied to the program's text. It asks only that those variables hold what that text lays in them. -/
import Derived.Test.YtmbnogellhoheaaGreatDoorLz
import Derived.Test.YtmbnogellhoheaaGreatDoorLw
import Derived.Test.YtmbnogellhoheaaGreatDoorLt
import Derived.Test.YtmbnogellhoheaaGreatDoorLj
import Derived.Test.YtmbnogellhoheaaGreatDoorLk
import Derived.Test.YtmbnogellhoheaaGreatDoorCards
namespace Go.Proofs.YtmbnogellhoheaaGreatDoor
open Go.ChangeShapes Go.WideShapes Go.ChangeAt Go.RowKit
set_option maxRecDepth 100000 in
theorem fnLoop_lifted (os : Os) (started : os.Started) (H : Type) (enc : TypeId × Value → H) (F : Stop.Interp) :
    ReturnsInHanded {} Tryz.checked os 4 .any ((OpenSpec.ofChange Rows.fnLoopSpec).preRow enc Tryz.prog Tryz.f4 Rows.fnLoopRow.domain false Rows.fnLoopRow.laid) (((OpenSpec.ofChange Rows.fnLoopSpec).at F).post enc Tryz.prog Tryz.f4 false true false false) := by
  refine returnsInHanded_of_row (C := Tryz.checked) (s := OpenSpec.ofChange Rows.fnLoopSpec) Wit.own started Wit.noInit Tryz.func4 (Wit.witness os enc) ?_
  intro W base args ds gs before hval hW _ _ _ hL hS _
  exact Run.contract H enc W base args ds gs before hval hW hL hS
theorem fnLoop_said : Rows.FnLoopSaid :=
  OpenClaim.holds_of_cond 4 Tryz.f4 rfl rfl rfl rfl rfl rfl rfl ⟨rfl, rfl, rfl, rfl, rfl⟩ rfl rfl rfl rfl rfl fnLoop_named Tryz.func4 fnLoop_facts fnLoop_inst fnLoop_wrap
    (fun os started H enc _ F => by rw [OpenClaim.pre_eq_preRow]; exact fnLoop_lifted os started H enc F)
theorem fnLoop_plain (f : FuncId) (fn : Func) (hf : Tryz.pinned.checked.prog.funcNamed "loop.example/stowage/laws.FnLoop" = some f) (hfn : Tryz.pinned.checked.prog.funcs[f]? = some fn) :
    true = Tryz.pinned.checked.prog.looks [] ∧ ∀ (j : Nat) t, fn.params[j]? = some t → Tryz.pinned.checked.prog.wantsStandIn t = false := by
  obtain rfl : f = 4 := Option.some.inj (fnLoop_named.symm.trans hf) |>.symm
  obtain rfl : fn = Tryz.f4 := (Option.some.inj (Tryz.func4.symm.trans hfn)).symm
  refine ⟨noLooks, fun j t ht => ?_⟩
  rw [Run.params3] at ht
  obtain rfl : t = 22 := by simpa using Array.mem_of_getElem? ht
  exact noStand
theorem fnLoop_card : Rows.FnLoopCardSaid :=
  Claim7.holds_tied_plain_at .later [] _ _ _ _ fnLoop_said (fun _ h => by cases h) fnLoop_wf (fun _ h => by cases h) EvTie.fnLoop_tied rfl ⟨rfl, rfl⟩ fnLoop_main rfl fnLoop_plain fnLoop_goes
end Go.Proofs.YtmbnogellhoheaaGreatDoor
