/- FnReckon: a world that fits. -/
import Derived.Test.YtmbnogellhoheaaGreatDoorRows
import Derived.WalkKit
import Derived.ProofKit
import Derived.Lay
import Derived.Deep.DeepHandedRow
import Derived.Deep.DeepWitnessRowRef
import Derived.MakeChecks
namespace Go.Proofs.YtmbnogellhoheaaGreatDoor.Wit
open Go Go.ChangeShapes Go.WideShapes Go.ChangeAt Go.RowKit
theorem own : ownKnob Tryz.prog.godebug = none := by kernel_rfl
theorem noInit : Tryz.prog.inits.idxOf? 14 = none := by kernel_rfl
noncomputable def w0 (os : Os) : World := World.laidAll Tryz.prog os Rows.fnReckonRow.laid
theorem shaped (os : Os) : ((w0 os).forCall (fun _ _ => 0) ⟨#[], #[.slice none 0 0], []⟩).Shaped Tryz.prog := World.shaped_of_ZipB (by kernel_rfl) (by kernel_rfl)
theorem refs (os : Os) : ((w0 os).forCall (fun _ _ => 0) ⟨#[], #[.slice none 0 0], []⟩).variablesRefB Tryz.prog = true := by kernel_rfl
theorem rest (os : Os) : ((((w0 os).forCall (fun _ _ => 0) ⟨#[], #[.slice none 0 0], []⟩).heap.toList.drop Tryz.prog.globals.size).take ((begin Tryz.prog (fun _ _ => 0) default).world.heap.size - Tryz.prog.globals.size) =
      (begin Tryz.prog (fun _ _ => 0) default).world.heap.toList.drop Tryz.prog.globals.size) := by kernel_rfl
theorem okIn (os : Os) : Input.okWideB Tryz.prog ((w0 os).forCall (fun _ _ => 0) ⟨#[], #[.slice none 0 0], []⟩) 14 ⟨#[], #[.slice none 0 0], []⟩ = true := by kernel_rfl
theorem plainLaid : (Rows.fnReckonRow.laid.all fun x => x.2.handleName?.isNone) = true := by kernel_rfl
theorem fitsL (os : Os) : (World.holding Tryz.prog os ⟨#[], #[], []⟩).layFits Tryz.prog Rows.fnReckonRow.laid [] = true := by kernel_rfl
theorem faces (os : Os) : (World.holding Tryz.prog os ⟨#[], #[], []⟩).layIfaces Tryz.prog Rows.fnReckonRow.laid (World.laidAll Tryz.prog os Rows.fnReckonRow.laid) = true := by kernel_rfl
theorem laidMet0 (os : Os) : laidMetH Tryz.prog Rows.fnReckonRow.laid ((w0 os).forCall (fun _ _ => 0) ⟨#[], #[.slice none 0 0], []⟩).memory := by
  rw [MakeChecks.laidMetH_plain _ _ _ plainLaid]
  exact laidMet_laidAll _ (fitsL os) (faces os)
theorem reads (os : Os) {H : Type} (enc : TypeId × Value → H) : DataW.whole enc Tryz.prog ((w0 os).forCall (fun _ _ => 0) ⟨#[], #[.slice none 0 0], []⟩).memory Tryz.f14.params.toList Rows.fnReckonSpec.vars false #[Value.slice none 0 0].toList 8 = some ([.nil], [], []) := by kernel_rfl
theorem sized (os : Os) {H : Type} (enc : TypeId × Value → H) : (OpenSpec.ofChange Rows.fnReckonSpec).bare.sizedB enc Tryz.prog Tryz.f14 false ((w0 os).forCall (fun _ _ => 0) ⟨#[], #[.slice none 0 0], []⟩).memory #[.slice none 0 0] 8 = true := by kernel_rfl
theorem row (os : Os) {H : Type} (enc : TypeId × Value → H) : (OpenSpec.ofChange Rows.fnReckonSpec).preRow enc Tryz.prog Tryz.f14 Rows.fnReckonRow.domain false Rows.fnReckonRow.laid ((w0 os).forCall (fun _ _ => 0) ⟨#[], #[.slice none 0 0], []⟩).memory #[.slice none 0 0] :=
  OpenSpec.preRow_of_cond 8 (reads os enc) (by kernel_rfl) (fun k hk => by cases hk) (sized os enc) (laidMet0 os)
theorem witness (os : Os) {H : Type} (enc : TypeId × Value → H) :
    ∃ (w : World) (tape : Tape) (i : Input), w.os = os ∧ (w.forCall tape i).Shaped Tryz.prog ∧ i.vars = [] ∧ Input.okWide Tryz.prog (w.forCall tape i) .any w.heap.size 14 i ∧
      (OpenSpec.ofChange Rows.fnReckonSpec).preRow enc Tryz.prog Tryz.f14 Rows.fnReckonRow.domain false Rows.fnReckonRow.laid (w.forCall tape i).memory i.args ∧ ({} : Assume).holds Tryz.prog (lone (Frame.enter Tryz.prog 14 i.args .normal) [] (w.forCall tape i)) :=
  witness_row_atRef (enc := enc) (C := Tryz.checked) false (w0 os) #[.slice none 0 0] (World.laidAll_os _ _ _) (refs os) (rest os) (okIn os) (row os enc)
end Go.Proofs.YtmbnogellhoheaaGreatDoor.Wit
