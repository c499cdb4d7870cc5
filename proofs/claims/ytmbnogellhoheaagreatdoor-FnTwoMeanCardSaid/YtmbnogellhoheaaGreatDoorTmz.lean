/- FnTwoMean: its contract, for every argument and every world that holds the tables. -/
import Derived.Test.YtmbnogellhoheaaGreatDoorVTmc
import Derived.Test.YtmbnogellhoheaaGreatDoorVTm0p
import Derived.Test.YtmbnogellhoheaaGreatDoorVTm0m
import Derived.Test.YtmbnogellhoheaaGreatDoorEvYa
import Derived.Test.YtmbnogellhoheaaGreatDoorRows
import Derived.KernelRfl
namespace Go.Proofs.YtmbnogellhoheaaGreatDoor.Run
open Go Go.Proofs.YtmbnogellhoheaaGreatDoor.Ev Go.Proofs.YtmbnogellhoheaaGreatDoor
theorem runs : Runs 6 false 1 where
  big := fun k val fx => by kernel_rfl
  pos := fun v k hv h1 h5 => match v, hv with
    | 0, _ => fun ht hN hok => case0p ht k h1 h5 hN hok
    | v + 1, h => absurd h (by omega)
  neg := fun v k hv h1 h5 => match v, hv with
    | 0, _ => fun ht hN hok => case0m ht k h1 h5 hN hok
    | v + 1, h => absurd h (by omega)
  zero := fun h => nomatch h
theorem asc_at : Rows.fnTwoMeanRow.laid[7]? = some ("strings.asciiSpace", Lib.tabData .u8 (asc.map fun (z : Nat) => (z : Int))) := by kernel_rfl
theorem pow_at : Rows.fnTwoMeanRow.laid[4]? = some ("internal/strconv.uint64pow10", Lib.tabData .u64 Lib.pow10Tab) := by kernel_rfl
theorem plainLaid : (Rows.fnTwoMeanRow.laid.all fun x => x.2.handleName?.isNone) = true := by kernel_rfl
theorem gAsc : Tryz.prog.globalNamed "strings.asciiSpace" = some 3 := by kernel_rfl
theorem gType : (Tryz.prog.globals[3]?).map (·.type) = some 357 := by kernel_rfl
theorem undT : Tryz.prog.underlying 357 = some (.array 256 5) := by kernel_rfl
theorem und4 : Tryz.prog.underlying 4 = some .bool := by kernel_rfl
theorem cel5 : Tryz.prog.cellsOf 5 = 1 := by kernel_rfl
theorem celT : Tryz.prog.cellsOf 357 = 256 := by kernel_rfl
theorem gInit : (((begin Tryz.prog (fun _ _ => 0) default).world.heap[3]?).bind Obj.row?).map (·.2) = some 357 := by kernel_rfl
theorem gLt : 3 < Tryz.prog.globals.size := of_decide_eq_true (by kernel_rfl)
theorem table {W : World} (h : laidMetH Tryz.prog Rows.fnTwoMeanRow.laid W) (hS : W.ShapedOpen Tryz.prog) : ∃ C, W.heap[3]? = some (.cells C 357) ∧ C.toList = asc.map fun (z : Nat) => Value.int .u8 z := by
  obtain ⟨C, h1, h2⟩ := table_of plainLaid (List.mem_of_getElem? asc_at) gAsc gType undT und5 cel5 celT h gInit gLt hS
  exact ⟨C, h1, by rw [h2, List.map_map]; rfl⟩
theorem gPow : Tryz.prog.globalNamed "internal/strconv.uint64pow10" = some 7 := by kernel_rfl
theorem gTypeP : (Tryz.prog.globals[7]?).map (·.type) = some 478 := by kernel_rfl
theorem undP : Tryz.prog.underlying 478 = some (.array 20 350) := by kernel_rfl
theorem undE : Tryz.prog.underlying 350 = some (.int .u64) := by kernel_rfl
theorem celE : Tryz.prog.cellsOf 350 = 1 := by kernel_rfl
theorem celP : Tryz.prog.cellsOf 478 = 20 := by kernel_rfl
theorem gInitP : (((begin Tryz.prog (fun _ _ => 0) default).world.heap[7]?).bind Obj.row?).map (·.2) = some 478 := by kernel_rfl
theorem gLtP : 7 < Tryz.prog.globals.size := of_decide_eq_true (by kernel_rfl)
theorem tableP {W : World} (h : laidMetH Tryz.prog Rows.fnTwoMeanRow.laid W) (hS : W.ShapedOpen Tryz.prog) : ∃ C, W.heap[7]? = some (.cells C 478) ∧ C.toList = Lib.pow10Tab.map fun (z : Int) => Value.int .u64 z :=
  table_of plainLaid (List.mem_of_getElem? pow_at) gPow gTypeP undP undE celE celP h gInitP gLtP hS
theorem params3 : Tryz.f6.params = #[22] := by kernel_rfl
theorem results3 : Tryz.f6.resultTypes = #[4] := by kernel_rfl
theorem spec_at {H : Type} (d : DataW H) : Rows.fnTwoMeanSpec.fn H [d] = { results := [.lit (.bool true)], args := [d] } := rfl
theorem spec_vars : Rows.fnTwoMeanSpec.vars = [] := rfl
set_option maxRecDepth 100000 in
theorem contract (H : Type) (enc : TypeId × Value → H) (W : World) (base : Nat) (args : Array Value) (ds gs : List (DataW H)) (before : List MemPlace)
    (hval : ∀ (j : Nat) t v, Tryz.f6.params[j]? = some t → args[j]? = some v → Value.okWide Tryz.prog W .any base t v)
    (hW : DataW.Whole enc Tryz.prog Tryz.f6.params.toList Rows.fnTwoMeanSpec.vars false W args.toList ds gs before) (hL : laidMetH Tryz.prog Rows.fnTwoMeanRow.laid W) (hS : W.ShapedOpen Tryz.prog) :
    Calls Tryz.prog 6 args W fun e W' => ∃ v, e = .returned v ∧ Rows.fnTwoMeanSpec.post enc Tryz.prog Tryz.f6 false true false false W args v W' := by
  obtain ⟨C, hC, hz⟩ := table hL hS
  obtain ⟨C7, hP, hPz⟩ := tableP hL hS
  exact law_contractC params3 und22 und5 cel5 results3 und4 spec_vars spec_at hval hW fun a len cap b hlen hb hc => run_law (by decide) (by decide) runs hC hz hP hPz a len cap b hlen hb hc

end Go.Proofs.YtmbnogellhoheaaGreatDoor.Run
