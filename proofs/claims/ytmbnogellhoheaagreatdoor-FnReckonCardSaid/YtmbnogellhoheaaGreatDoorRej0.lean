/- FnReckon: closed facts of its row, part 1. -/
import Derived.Test.YtmbnogellhoheaaGreatDoorRows
import Derived.WalkKit
import Derived.ProofKit
import Derived.Deep.DeepHandedRow
import Derived.JoinedCond
import Derived.Test.YtmbnogellhoheaaGreatDoorCards
import Derived.SevenTiedAt
namespace Go.Proofs.YtmbnogellhoheaaGreatDoor
open Go
theorem jf0 : (Rows.fnReckonRow.wf (OpenSpec.ofChange (OpenSpec.ofChange Rows.fnReckonSpec).bare)) = true := by kernel_rfl
theorem jf1 : (laidOutB Tryz.checked.prog) = true := by kernel_rfl
theorem jf2 : (mapsRowed Tryz.checked.prog) = true := by kernel_rfl
theorem jf3 : (Tryz.f14.params.all (Tryz.checked.prog.readableRec ·)) = true := by kernel_rfl
theorem jf4 : (namedTie Tryz.checked.prog Rows.fnReckonRow.named (OpenSpec.ofChange Rows.fnReckonSpec).bare.vars) = true := by kernel_rfl
theorem jf5 : (Rows.fnReckonRow.stops == []) = true := by kernel_rfl
theorem jf6 : (Tryz.checked.prog.stops == []) = true := by kernel_rfl
theorem jf7 : (Rows.fnReckonRow.knobs == []) = true := by kernel_rfl
theorem jf8 : (Tryz.checked.prog.stopKnobs == []) = true := by kernel_rfl
theorem jf9 : (Rows.fnReckonRow.inPlace == Tryz.checked.prog.inPlace 14) = true := by kernel_rfl
end Go.Proofs.YtmbnogellhoheaaGreatDoor

/- FnReckon: closed facts of its row, part 14. -/
namespace Go.Proofs.YtmbnogellhoheaaGreatDoor
open Go
theorem jf13 : (Rows.fnReckonRow.maps == (Tryz.f14.params.toList ++ (OpenSpec.ofChange Rows.fnReckonSpec).bare.plain.varTypes Tryz.checked.prog).any (Tryz.checked.prog.mapsRec ·)) = true := by kernel_rfl
theorem jf14 : (Rows.fnReckonRow.ifaces == (Tryz.f14.params.toList ++ (OpenSpec.ofChange Rows.fnReckonSpec).bare.plain.varTypes Tryz.checked.prog).any (Tryz.checked.prog.ifacesRec ·)) = true := by kernel_rfl
theorem jf15 : (Rows.fnReckonRow.mapsOut == Tryz.checked.prog.mapsAmong Tryz.f14.resultTypes.toList) = true := by kernel_rfl
theorem jf16 : (Rows.fnReckonRow.loops == (Tryz.f14.params.toList ++ (OpenSpec.ofChange Rows.fnReckonSpec).bare.plain.varTypes Tryz.checked.prog).any (Tryz.checked.prog.loopsFrom ·)) = true := by kernel_rfl
theorem jf17 : (Rows.fnReckonRow.wideKeys == (Tryz.f14.params.toList ++ (OpenSpec.ofChange Rows.fnReckonSpec).bare.plain.varTypes Tryz.checked.prog ++ Tryz.f14.resultTypes.toList).any (Tryz.checked.prog.wideKeysFrom ·)) = true := by kernel_rfl
theorem jf18 : ((OpenSpec.ofChange Rows.fnReckonSpec).bare.vars.all (Tryz.checked.prog.varReadable ·)) = true := by kernel_rfl
theorem jf19 : (Tryz.f14.resultTypes.all (fun t => Tryz.checked.prog.readableRec t && decide (t < Tryz.checked.prog.types.size))) = true := by kernel_rfl
end Go.Proofs.YtmbnogellhoheaaGreatDoor

/- FnReckon: the closed facts of its card. -/
namespace Go.Proofs.YtmbnogellhoheaaGreatDoor
open Go
theorem noLooks : true = Tryz.pinned.checked.prog.looks [] := by kernel_rfl
theorem noStand : Tryz.prog.wantsStandIn 22 = false := by kernel_rfl
theorem fnReckon_wf : Rows.fnReckonRow.wfByText (OpenSpec.ofChange Rows.fnReckonSpec) = true := by kernel_rfl
theorem fnReckon_main : Tryz.pinned.checked.prog.mainIs = some (true, "bd0c5f30bceaac8992a5f74fc60c6595ae700b6c3c7306371b236ef2e58985c4".toList) := by kernel_rfl
theorem goes_no {P : Program} (h : P.funcs.toList.any Func.goes = false) (f : FuncId) : P.goes f = false := by
  have h1 : ∀ g : Nat, (P.funcs[g]?).any Func.goes = false := fun g => by
    cases hg : (P.funcs[g]? : Option Func) with
    | none => rfl
    | some fn =>
      have hm : fn ∈ P.funcs.toList := Array.mem_toList_iff.2 (Array.mem_of_getElem? (i := g) hg)
      have := List.any_eq_false.1 h fn hm
      simpa using this
  have h2 : ((P.closure f).any fun g => (P.funcs[g]?).any Func.goes) = false := List.any_eq_false.2 fun g _ => by rw [h1]; simp
  have h3 : P.funcs.any Func.goes = false := by rw [← Array.any_toList]; exact h
  unfold Program.goes
  rw [h2, h3]
  simp
theorem goesBy_no {P : Program} {c : OpenClaim} (hs : c.start = .entering) (h : P.funcs.toList.any Func.goes = false) : false = c.goesBy P := by
  unfold OpenClaim.goesBy Program.goesAt Program.goesFrom
  rw [hs]
  cases P.funcNamed c.func with
  | none => rfl
  | some f =>
    show false = (P.goes f || false)
    rw [goes_no h]
    rfl
theorem noGoes : Tryz.pinned.checked.prog.funcs.toList.any Func.goes = false := by kernel_rfl
theorem fnReckon_goes : false = Rows.fnReckonRow.goesBy Tryz.pinned.checked.prog := goesBy_no rfl noGoes
end Go.Proofs.YtmbnogellhoheaaGreatDoor
