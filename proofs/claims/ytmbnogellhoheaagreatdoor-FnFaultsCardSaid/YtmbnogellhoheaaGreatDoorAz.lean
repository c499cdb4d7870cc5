/- FnFaults: its contract, for every argument and every world that holds the table. -/
import Derived.Test.YtmbnogellhoheaaGreatDoorVa0
import Derived.Test.YtmbnogellhoheaaGreatDoorVa1
import Derived.Test.YtmbnogellhoheaaGreatDoorVa2
import Derived.Test.YtmbnogellhoheaaGreatDoorVa3
import Derived.Test.YtmbnogellhoheaaGreatDoorVa4
import Derived.Test.YtmbnogellhoheaaGreatDoorVa5
import Derived.Test.YtmbnogellhoheaaGreatDoorVa6
import Derived.Test.YtmbnogellhoheaaGreatDoorVa7
import Derived.KernelRfl
namespace Go.Proofs.YtmbnogellhoheaaGreatDoor.Run
open Go Go.Proofs.YtmbnogellhoheaaGreatDoor.Ev Go.Proofs.YtmbnogellhoheaaGreatDoor
theorem evG (k : Nat) (val : Pos → Option Nat) (fx : Pos → Option Fx) : chkP (FF natO val fx (binM 8 true k) no1 (pos 3) [.a 1 (pb 1)] (pos 64) .e) (.b true) = true := by kernel_rfl
theorem asc_at : Rows.fnFaultsRow.laid[7]? = some ("strings.asciiSpace", Lib.tabData .u8 (asc.map fun (z : Nat) => (z : Int))) := by kernel_rfl
theorem plainLaid : (Rows.fnFaultsRow.laid.all fun x => x.2.handleName?.isNone) = true := by kernel_rfl
theorem gAsc : Tryz.prog.globalNamed "strings.asciiSpace" = some 3 := by kernel_rfl
theorem gType : (Tryz.prog.globals[3]?).map (·.type) = some 357 := by kernel_rfl
theorem undT : Tryz.prog.underlying 357 = some (.array 256 5) := by kernel_rfl
theorem und5 : Tryz.prog.underlying 5 = some (.int .u8) := by kernel_rfl
theorem und22 : Tryz.prog.underlying 22 = some (.slice 5) := by kernel_rfl
theorem und4 : Tryz.prog.underlying 4 = some .bool := by kernel_rfl
theorem cel5 : Tryz.prog.cellsOf 5 = 1 := by kernel_rfl
theorem celT : Tryz.prog.cellsOf 357 = 256 := by kernel_rfl
theorem gInit : (((begin Tryz.prog (fun _ _ => 0) default).world.heap[3]?).bind Obj.row?).map (·.2) = some 357 := by kernel_rfl
theorem gLt : 3 < Tryz.prog.globals.size := of_decide_eq_true (by kernel_rfl)
theorem table {W : World} (h : laidMetH Tryz.prog Rows.fnFaultsRow.laid W) (hS : W.ShapedOpen Tryz.prog) : ∃ C, W.heap[3]? = some (.cells C 357) ∧ C.toList = asc.map fun (z : Nat) => Value.int .u8 z := by
  obtain ⟨C, h1, h2⟩ := table_of plainLaid (List.mem_of_getElem? asc_at) gAsc gType undT und5 cel5 celT h gInit gLt hS
  exact ⟨C, h1, by rw [h2, List.map_map]; rfl⟩
theorem params3 : Tryz.f3.params = #[22] := by kernel_rfl
theorem results3 : Tryz.f3.resultTypes = #[4] := by kernel_rfl
theorem spec_at {H : Type} (d : DataW H) : Rows.fnFaultsSpec.fn H [d] = { results := [.lit (.bool true)], args := [d] } := rfl
theorem spec_vars : Rows.fnFaultsSpec.vars = [] := rfl
theorem valS_at {len : Nat} : ∀ id : Pos, id.val = 1 → valS len id = some len := fun _ h => if_pos h
theorem okM {len d : Nat} (hlen : len ≤ 9223372036854775807) (hd0 : d ≠ 0) (hd1 : d ≤ 1048576) {fx : Pos → Option Fx} {g : Bool} {k : Nat} (hg : g = decide (1048576 < len)) (hk : k = len % d) : (GG (valS len) fx (binM d g k) no1).tab.OK :=
  ⟨fun _ hr _ _ _ _ h P t ox oy w _ _ hx hx' => binM_snd valS_at hlen hd0 hd1 hg hk hr h P t ox oy w hx hx', no1_cvt⟩
theorem natO_snd {val : Pos → Option Nat} {fx : Pos → Option Fx} (ht : Tab fx) {b : BinOp → V → V → Option V} {c : IntKind → V → Option V} : AllS Tryz.prog (GG val fx b c) natO := .cons (memoR_snd (.cons (op_ok ht) .nil)) .nil
theorem runs {val : Pos → Option Nat} {fx : Pos → Option Fx} (ht : Tab fx) : ∀ k, k < 8 → (GG val fx (binM 8 false k) no1).tab.OK → PureOk Tryz.prog (GG val fx (binM 8 false k) no1) 3 [.a 1 (pb 1)] (.b true)
  | 0, _, hok => pure_ok hok (natO_snd ht) rfl rfl (evA0 val fx)
  | 1, _, hok => pure_ok hok (natO_snd ht) rfl rfl (evA1 val fx)
  | 2, _, hok => pure_ok hok (natO_snd ht) rfl rfl (evA2 val fx)
  | 3, _, hok => pure_ok hok (natO_snd ht) rfl rfl (evA3 val fx)
  | 4, _, hok => pure_ok hok (natO_snd ht) rfl rfl (evA4 val fx)
  | 5, _, hok => pure_ok hok (natO_snd ht) rfl rfl (evA5 val fx)
  | 6, _, hok => pure_ok hok (natO_snd ht) rfl rfl (evA6 val fx)
  | 7, _, hok => pure_ok hok (natO_snd ht) rfl rfl (evA7 val fx)
  | k + 8, h, _ => absurd h (by omega)
set_option maxRecDepth 100000 in
theorem contract (H : Type) (enc : TypeId × Value → H) (W : World) (base : Nat) (args : Array Value) (ds gs : List (DataW H)) (before : List MemPlace)
    (hval : ∀ (j : Nat) t v, Tryz.f3.params[j]? = some t → args[j]? = some v → Value.okWide Tryz.prog W .any base t v)
    (hW : DataW.Whole enc Tryz.prog Tryz.f3.params.toList Rows.fnFaultsSpec.vars false W args.toList ds gs before) (hL : laidMetH Tryz.prog Rows.fnFaultsRow.laid W) (hS : W.ShapedOpen Tryz.prog) :
    Calls Tryz.prog 3 args W fun e W' => ∃ v, e = .returned v ∧ Rows.fnFaultsSpec.post enc Tryz.prog Tryz.f3 false true false false W args v W' := by
  obtain ⟨C, hC, hz⟩ := table hL hS
  have run : ∀ a len cap, len ≤ 9223372036854775807 → Calls Tryz.prog 3 #[.slice a len cap] W fun e w' => e = .returned (.bool true) ∧ Kept W w' := by
    intro a len cap hlen
    by_cases hg : 1048576 < len
    · have hok := okM (d := 8) hlen (by decide) (by decide) (fx := fxS (.cells C 357)) (decide_eq_true hg).symm rfl
      exact run_S hC hlen hok (pure_ok hok (natO_snd (tabS hz)) rfl rfl (evG (len % 8) _ _)) a cap
    · have hok := okM (d := 8) hlen (by decide) (by decide) (fx := fxS (.cells C 357)) (decide_eq_false hg).symm rfl
      exact run_S hC hlen hok (runs (tabS hz) (len % 8) (Nat.mod_lt _ (by decide)) hok) a cap
  exact law_contract params3 und22 und5 cel5 results3 und4 spec_vars spec_at hval hW run
end Go.Proofs.YtmbnogellhoheaaGreatDoor.Run
