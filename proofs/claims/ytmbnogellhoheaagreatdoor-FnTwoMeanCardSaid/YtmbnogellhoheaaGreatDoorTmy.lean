/- FnTwoMean answers true at every slice of bytes, and every argument reads as before: the card, with the listed variables tied to the program's text. It asks only that those variables hold what that text lays in them. -/
import Derived.Test.YtmbnogellhoheaaGreatDoorTmz
import Derived.Test.YtmbnogellhoheaaGreatDoorTmw
import Derived.Test.YtmbnogellhoheaaGreatDoorTmt
import Derived.Test.YtmbnogellhoheaaGreatDoorTmj
import Derived.Test.YtmbnogellhoheaaGreatDoorTmk
import Derived.Test.YtmbnogellhoheaaGreatDoorCards
namespace Go.Proofs.YtmbnogellhoheaaGreatDoor
open Go.ChangeShapes Go.WideShapes Go.ChangeAt Go.RowKit
set_option maxRecDepth 100000 in
theorem fnTwoMean_lifted (os : Os) (started : os.Started) (H : Type) (enc : TypeId × Value → H) (F : Stop.Interp) :
    ReturnsInHanded {} Tryz.checked os 6 .any ((OpenSpec.ofChange Rows.fnTwoMeanSpec).preRow enc Tryz.prog Tryz.f6 Rows.fnTwoMeanRow.domain false Rows.fnTwoMeanRow.laid) (((OpenSpec.ofChange Rows.fnTwoMeanSpec).at F).post enc Tryz.prog Tryz.f6 false true false false) := by
  refine returnsInHanded_of_row (C := Tryz.checked) (s := OpenSpec.ofChange Rows.fnTwoMeanSpec) Wit.own started Wit.noInit Tryz.func6 (Wit.witness os enc) ?_
  intro W base args ds gs before hval hW _ _ _ hL hS _
  exact Run.contract H enc W base args ds gs before hval hW hL hS
theorem fnTwoMean_said : Rows.FnTwoMeanSaid :=
  OpenClaim.holds_of_cond 6 Tryz.f6 rfl rfl rfl rfl rfl rfl rfl ⟨rfl, rfl, rfl, rfl, rfl⟩ rfl rfl rfl rfl rfl fnTwoMean_named Tryz.func6 fnTwoMean_facts fnTwoMean_inst fnTwoMean_wrap
    (fun os started H enc _ F => by rw [OpenClaim.pre_eq_preRow]; exact fnTwoMean_lifted os started H enc F)
theorem fnTwoMean_plain (f : FuncId) (fn : Func) (hf : Tryz.pinned.checked.prog.funcNamed "loop.example/stowage/laws.FnTwoMean" = some f) (hfn : Tryz.pinned.checked.prog.funcs[f]? = some fn) :
    true = Tryz.pinned.checked.prog.looks [] ∧ ∀ (j : Nat) t, fn.params[j]? = some t → Tryz.pinned.checked.prog.wantsStandIn t = false := by
  obtain rfl : f = 6 := Option.some.inj (fnTwoMean_named.symm.trans hf) |>.symm
  obtain rfl : fn = Tryz.f6 := (Option.some.inj (Tryz.func6.symm.trans hfn)).symm
  refine ⟨noLooks, fun j t ht => ?_⟩
  rw [Run.params3] at ht
  obtain rfl : t = 22 := by simpa using Array.mem_of_getElem? ht
  exact noStand
theorem fnTwoMean_card : Rows.FnTwoMeanCardSaid :=
  Claim7.holds_tied_plain_at .later [] _ _ _ _ fnTwoMean_said (fun _ h => by cases h) fnTwoMean_wf (fun _ h => by cases h) EvTie.fnTwoMean_tied rfl ⟨rfl, rfl⟩ fnTwoMean_main rfl fnTwoMean_plain fnTwoMean_goes
end Go.Proofs.YtmbnogellhoheaaGreatDoor
