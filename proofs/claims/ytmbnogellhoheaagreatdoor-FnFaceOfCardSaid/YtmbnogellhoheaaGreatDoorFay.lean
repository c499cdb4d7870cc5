/- FnFaceOf answers true at every slice of bytes, and every argument reads as before: the card, with the listed variables tied to the program's text. It asks only that those variables hold what that text lays in them. -/
import Derived.Test.YtmbnogellhoheaaGreatDoorFaz
import Derived.Test.YtmbnogellhoheaaGreatDoorFaw
import Derived.Test.YtmbnogellhoheaaGreatDoorFat
import Derived.Test.YtmbnogellhoheaaGreatDoorFaj
import Derived.Test.YtmbnogellhoheaaGreatDoorFak
import Derived.Test.YtmbnogellhoheaaGreatDoorCards
namespace Go.Proofs.YtmbnogellhoheaaGreatDoor
open Go.ChangeShapes Go.WideShapes Go.ChangeAt Go.RowKit
set_option maxRecDepth 100000 in
theorem fnFaceOf_lifted (os : Os) (started : os.Started) (H : Type) (enc : TypeId × Value → H) (F : Stop.Interp) :
    ReturnsInHanded {} Tryz.checked os 9 .any ((OpenSpec.ofChange Rows.fnFaceOfSpec).preRow enc Tryz.prog Tryz.f9 Rows.fnFaceOfRow.domain false Rows.fnFaceOfRow.laid) (((OpenSpec.ofChange Rows.fnFaceOfSpec).at F).post enc Tryz.prog Tryz.f9 false true false false) := by
  refine returnsInHanded_of_row (C := Tryz.checked) (s := OpenSpec.ofChange Rows.fnFaceOfSpec) Wit.own started Wit.noInit Tryz.func9 (Wit.witness os enc) ?_
  intro W base args ds gs before hval hW _ _ _ hL hS _
  exact Run.contract H enc W base args ds gs before hval hW hL hS
theorem fnFaceOf_said : Rows.FnFaceOfSaid :=
  OpenClaim.holds_of_cond 9 Tryz.f9 rfl rfl rfl rfl rfl rfl rfl ⟨rfl, rfl, rfl, rfl, rfl⟩ rfl rfl rfl rfl rfl fnFaceOf_named Tryz.func9 fnFaceOf_facts fnFaceOf_inst fnFaceOf_wrap
    (fun os started H enc _ F => by rw [OpenClaim.pre_eq_preRow]; exact fnFaceOf_lifted os started H enc F)
theorem fnFaceOf_plain (f : FuncId) (fn : Func) (hf : Tryz.pinned.checked.prog.funcNamed "loop.example/stowage/laws.FnFaceOf" = some f) (hfn : Tryz.pinned.checked.prog.funcs[f]? = some fn) :
    true = Tryz.pinned.checked.prog.looks [] ∧ ∀ (j : Nat) t, fn.params[j]? = some t → Tryz.pinned.checked.prog.wantsStandIn t = false := by
  obtain rfl : f = 9 := Option.some.inj (fnFaceOf_named.symm.trans hf) |>.symm
  obtain rfl : fn = Tryz.f9 := (Option.some.inj (Tryz.func9.symm.trans hfn)).symm
  refine ⟨noLooks, fun j t ht => ?_⟩
  rw [Run.params3] at ht
  obtain rfl : t = 22 := by simpa using Array.mem_of_getElem? ht
  exact noStand
theorem fnFaceOf_card : Rows.FnFaceOfCardSaid :=
  Claim7.holds_tied_plain_at .later [] _ _ _ _ fnFaceOf_said (fun _ h => by cases h) fnFaceOf_wf (fun _ h => by cases h) EvTie.fnFaceOf_tied rfl ⟨rfl, rfl⟩ fnFaceOf_main rfl fnFaceOf_plain fnFaceOf_goes
end Go.Proofs.YtmbnogellhoheaaGreatDoor
