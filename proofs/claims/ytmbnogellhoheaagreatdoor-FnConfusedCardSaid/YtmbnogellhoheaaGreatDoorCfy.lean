/- FnConfused answers true at every slice of bytes, and every argument reads as before: the card, with the listed variables tied to the program's text. It asks only that those variables hold what that text lays in them. -/
import Derived.Test.YtmbnogellhoheaaGreatDoorCfz
import Derived.Test.YtmbnogellhoheaaGreatDoorCfw
import Derived.Test.YtmbnogellhoheaaGreatDoorCft
import Derived.Test.YtmbnogellhoheaaGreatDoorCfj
import Derived.Test.YtmbnogellhoheaaGreatDoorCfk
import Derived.Test.YtmbnogellhoheaaGreatDoorCards
namespace Go.Proofs.YtmbnogellhoheaaGreatDoor
open Go.ChangeShapes Go.WideShapes Go.ChangeAt Go.RowKit
set_option maxRecDepth 100000 in
theorem fnConfused_lifted (os : Os) (started : os.Started) (H : Type) (enc : TypeId × Value → H) (F : Stop.Interp) :
    ReturnsInHanded {} Tryz.checked os 5 .any ((OpenSpec.ofChange Rows.fnConfusedSpec).preRow enc Tryz.prog Tryz.f5 Rows.fnConfusedRow.domain false Rows.fnConfusedRow.laid) (((OpenSpec.ofChange Rows.fnConfusedSpec).at F).post enc Tryz.prog Tryz.f5 false true false false) := by
  refine returnsInHanded_of_row (C := Tryz.checked) (s := OpenSpec.ofChange Rows.fnConfusedSpec) Wit.own started Wit.noInit Tryz.func5 (Wit.witness os enc) ?_
  intro W base args ds gs before hval hW _ _ _ hL hS _
  exact Run.contract H enc W base args ds gs before hval hW hL hS
theorem fnConfused_said : Rows.FnConfusedSaid :=
  OpenClaim.holds_of_cond 5 Tryz.f5 rfl rfl rfl rfl rfl rfl rfl ⟨rfl, rfl, rfl, rfl, rfl⟩ rfl rfl rfl rfl rfl fnConfused_named Tryz.func5 fnConfused_facts fnConfused_inst fnConfused_wrap
    (fun os started H enc _ F => by rw [OpenClaim.pre_eq_preRow]; exact fnConfused_lifted os started H enc F)
theorem fnConfused_plain (f : FuncId) (fn : Func) (hf : Tryz.pinned.checked.prog.funcNamed "loop.example/stowage/laws.FnConfused" = some f) (hfn : Tryz.pinned.checked.prog.funcs[f]? = some fn) :
    true = Tryz.pinned.checked.prog.looks [] ∧ ∀ (j : Nat) t, fn.params[j]? = some t → Tryz.pinned.checked.prog.wantsStandIn t = false := by
  obtain rfl : f = 5 := Option.some.inj (fnConfused_named.symm.trans hf) |>.symm
  obtain rfl : fn = Tryz.f5 := (Option.some.inj (Tryz.func5.symm.trans hfn)).symm
  refine ⟨noLooks, fun j t ht => ?_⟩
  rw [Run.params3] at ht
  obtain rfl : t = 22 := by simpa using Array.mem_of_getElem? ht
  exact noStand
theorem fnConfused_card : Rows.FnConfusedCardSaid :=
  Claim7.holds_tied_plain_at .later [] _ _ _ _ fnConfused_said (fun _ h => by cases h) fnConfused_wf (fun _ h => by cases h) EvTie.fnConfused_tied rfl ⟨rfl, rfl⟩ fnConfused_main rfl fnConfused_plain fnConfused_goes
end Go.Proofs.YtmbnogellhoheaaGreatDoor
