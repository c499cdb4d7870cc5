/- FnTwoMean: the closed facts of its card. -/
import Derived.Test.YtmbnogellhoheaaGreatDoorCards
import Derived.WalkKit
import Derived.SevenTiedAt
namespace Go.Proofs.YtmbnogellhoheaaGreatDoor
open Go
theorem noLooks : true = Tryz.pinned.checked.prog.looks [] := by kernel_rfl
theorem noStand : Tryz.prog.wantsStandIn 22 = false := by kernel_rfl
theorem fnTwoMean_wf : Rows.fnTwoMeanRow.wfByText (OpenSpec.ofChange Rows.fnTwoMeanSpec) = true := by kernel_rfl
theorem fnTwoMean_main : Tryz.pinned.checked.prog.mainIs = some (true, "bd0c5f30bceaac8992a5f74fc60c6595ae700b6c3c7306371b236ef2e58985c4".toList) := by kernel_rfl
theorem goes_no {P : Program} (h : P.funcs.toList.any Func.goes = false) (f : FuncId) : P.goes f = false := by
  have h1 : ∀ g : Nat, (P.funcs[g]?).any Func.goes = false := fun g => by
    cases hg : (P.funcs[g]? : Option Func) with
    | none => rfl
    | some fn =>
      have hm : fn ∈ P.funcs.toList := Array.mem_toList_iff.2 (Array.mem_of_getElem? (i := g) hg)
      have := List.any_eq_false.1 h fn hm
      simpa using this
  have h2 : ((P.closure f).any fun g => (P.funcs[g]?).any Func.goes) = false := List.any_eq_false.2 fun g _ => by rw [h1]; simp
  have h3 : P.funcs.any Func.goes = false := by rw [← Array.any_toList]; exact h
  unfold Program.goes
  rw [h2, h3]
  simp
theorem goesBy_no {P : Program} {c : OpenClaim} (hs : c.start = .entering) (h : P.funcs.toList.any Func.goes = false) : false = c.goesBy P := by
  unfold OpenClaim.goesBy Program.goesAt Program.goesFrom
  rw [hs]
  cases P.funcNamed c.func with
  | none => rfl
  | some f =>
    show false = (P.goes f || false)
    rw [goes_no h]
    rfl
theorem noGoes : Tryz.pinned.checked.prog.funcs.toList.any Func.goes = false := by kernel_rfl
theorem fnTwoMean_goes : false = Rows.fnTwoMeanRow.goesBy Tryz.pinned.checked.prog := goesBy_no rfl noGoes
end Go.Proofs.YtmbnogellhoheaaGreatDoor
