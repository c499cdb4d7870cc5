/- FnLoop: its contract, for every argument and every world that holds the table. -/
import Derived.Test.YtmbnogellhoheaaGreatDoorVl1
import Derived.Test.YtmbnogellhoheaaGreatDoorVl2
import Derived.Test.YtmbnogellhoheaaGreatDoorVl3
import Derived.Test.YtmbnogellhoheaaGreatDoorVl4
import Derived.Test.YtmbnogellhoheaaGreatDoorVl5
import Derived.Test.YtmbnogellhoheaaGreatDoorVl6
import Derived.Test.YtmbnogellhoheaaGreatDoorVl7
import Derived.Test.YtmbnogellhoheaaGreatDoorVl8
import Derived.Test.YtmbnogellhoheaaGreatDoorVl9
import Derived.Test.YtmbnogellhoheaaGreatDoorVl10
import Derived.Test.YtmbnogellhoheaaGreatDoorVl11
import Derived.Test.YtmbnogellhoheaaGreatDoorVl12
import Derived.KernelRfl
namespace Go.Proofs.YtmbnogellhoheaaGreatDoor.Run
open Go Go.Proofs.YtmbnogellhoheaaGreatDoor.Ev Go.Proofs.YtmbnogellhoheaaGreatDoor
theorem evG (k : Nat) (val : Pos → Option Nat) (fx : Pos → Option Fx) : chkP (FF natO val fx (binM 12 true k) no1 (pos 4) [.a 1 (pb 1)] (pos 64) .e) (.b true) = true := by kernel_rfl
theorem asc_at : Rows.fnLoopRow.laid[7]? = some ("strings.asciiSpace", Lib.tabData .u8 (asc.map fun (z : Nat) => (z : Int))) := by kernel_rfl
theorem plainLaid : (Rows.fnLoopRow.laid.all fun x => x.2.handleName?.isNone) = true := by kernel_rfl
theorem gAsc : Tryz.prog.globalNamed "strings.asciiSpace" = some 3 := by kernel_rfl
theorem gType : (Tryz.prog.globals[3]?).map (·.type) = some 357 := by kernel_rfl
theorem undT : Tryz.prog.underlying 357 = some (.array 256 5) := by kernel_rfl
theorem und4 : Tryz.prog.underlying 4 = some .bool := by kernel_rfl
theorem cel5 : Tryz.prog.cellsOf 5 = 1 := by kernel_rfl
theorem celT : Tryz.prog.cellsOf 357 = 256 := by kernel_rfl
theorem gInit : (((begin Tryz.prog (fun _ _ => 0) default).world.heap[3]?).bind Obj.row?).map (·.2) = some 357 := by kernel_rfl
theorem gLt : 3 < Tryz.prog.globals.size := of_decide_eq_true (by kernel_rfl)
theorem table {W : World} (h : laidMetH Tryz.prog Rows.fnLoopRow.laid W) (hS : W.ShapedOpen Tryz.prog) : ∃ C, W.heap[3]? = some (.cells C 357) ∧ C.toList = asc.map fun (z : Nat) => Value.int .u8 z := by
  obtain ⟨C, h1, h2⟩ := table_of plainLaid (List.mem_of_getElem? asc_at) gAsc gType undT und5 cel5 celT h gInit gLt hS
  exact ⟨C, h1, by rw [h2, List.map_map]; rfl⟩
theorem params3 : Tryz.f4.params = #[22] := by kernel_rfl
theorem results3 : Tryz.f4.resultTypes = #[4] := by kernel_rfl
theorem spec_at {H : Type} (d : DataW H) : Rows.fnLoopSpec.fn H [d] = { results := [.lit (.bool true)], args := [d] } := rfl
theorem spec_vars : Rows.fnLoopSpec.vars = [] := rfl
theorem valS_at {len : Nat} : ∀ id : Pos, id.val = 1 → valS len id = some len := fun _ h => if_pos h
theorem okM {len d : Nat} (hlen : len ≤ 9223372036854775807) (hd0 : d ≠ 0) (hd1 : d ≤ 1048576) {fx : Pos → Option Fx} {g : Bool} {k : Nat} (hg : g = decide (1048576 < len)) (hk : k = len % d) : (GG (valS len) fx (binM d g k) no1).tab.OK :=
  ⟨fun _ hr _ _ _ _ h P t ox oy w _ _ hx hx' => binM_snd valS_at hlen hd0 hd1 hg hk hr h P t ox oy w hx hx', no1_cvt⟩
theorem loops {val : Pos → Option Nat} {fx : Pos → Option Fx} (ht : Tab fx) : ∀ k, k < 12 → (GG val fx (binL false k) no1).tab.OK → PureOk Tryz.prog (GG val fx (binL false k) no1) 4 [.a 1 (pb 1)] (.b true)
  | 0, _, hok => loop1 ht hok
  | 1, _, hok => loop2 ht hok
  | 2, _, hok => loop3 ht hok
  | 3, _, hok => loop4 ht hok
  | 4, _, hok => loop5 ht hok
  | 5, _, hok => loop6 ht hok
  | 6, _, hok => loop7 ht hok
  | 7, _, hok => loop8 ht hok
  | 8, _, hok => loop9 ht hok
  | 9, _, hok => loop10 ht hok
  | 10, _, hok => loop11 ht hok
  | 11, _, hok => loop12 ht hok
  | k + 12, h, _ => absurd h (by omega)
theorem natO_snd {val : Pos → Option Nat} {fx : Pos → Option Fx} (ht : Tab fx) {b : BinOp → V → V → Option V} {c : IntKind → V → Option V} : AllS Tryz.prog (GG val fx b c) natO := .cons (memoR_snd (.cons (op_ok ht) .nil)) .nil
set_option maxRecDepth 100000 in
theorem contract (H : Type) (enc : TypeId × Value → H) (W : World) (base : Nat) (args : Array Value) (ds gs : List (DataW H)) (before : List MemPlace)
    (hval : ∀ (j : Nat) t v, Tryz.f4.params[j]? = some t → args[j]? = some v → Value.okWide Tryz.prog W .any base t v)
    (hW : DataW.Whole enc Tryz.prog Tryz.f4.params.toList Rows.fnLoopSpec.vars false W args.toList ds gs before) (hL : laidMetH Tryz.prog Rows.fnLoopRow.laid W) (hS : W.ShapedOpen Tryz.prog) :
    Calls Tryz.prog 4 args W fun e W' => ∃ v, e = .returned v ∧ Rows.fnLoopSpec.post enc Tryz.prog Tryz.f4 false true false false W args v W' := by
  obtain ⟨C, hC, hz⟩ := table hL hS
  have run : ∀ a len cap, len ≤ 9223372036854775807 → Calls Tryz.prog 4 #[.slice a len cap] W fun e w' => e = .returned (.bool true) ∧ Kept W w' := by
    intro a len cap hlen
    by_cases hg : 1048576 < len
    · have hok := okM (d := 12) hlen (by decide) (by decide) (fx := fxS (.cells C 357)) (decide_eq_true hg).symm rfl
      exact run_S hC hlen hok (pure_ok hok (natO_snd (tabS hz)) rfl rfl (evG (len % 12) _ _)) a cap
    · have hok := okM (d := 12) hlen (by decide) (by decide) (fx := fxS (.cells C 357)) (decide_eq_false hg).symm rfl
      exact run_S hC hlen hok (loops (tabS hz) (len % 12) (Nat.mod_lt _ (by decide)) hok) a cap
  exact law_contract params3 und22 und5 cel5 results3 und4 spec_vars spec_at hval hW run
end Go.Proofs.YtmbnogellhoheaaGreatDoor.Run
