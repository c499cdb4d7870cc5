/- FnFaults: its contract, for every argument and every world that holds the table. -/
import Derived.Test.YtnhgchnhfdimiaaGreatDoorVg
import Derived.Test.YtnhgchnhfdimiaaGreatDoorV0
import Derived.Test.YtnhgchnhfdimiaaGreatDoorV1
import Derived.Test.YtnhgchnhfdimiaaGreatDoorV2
import Derived.Test.YtnhgchnhfdimiaaGreatDoorV3
import Derived.Test.YtnhgchnhfdimiaaGreatDoorV4
import Derived.Test.YtnhgchnhfdimiaaGreatDoorV5
import Derived.Test.YtnhgchnhfdimiaaGreatDoorV6
import Derived.Test.YtnhgchnhfdimiaaGreatDoorV7
import Derived.KernelRfl
namespace Go.Proofs.YtnhgchnhfdimiaaGreatDoor.Run
open Go Go.Proofs.YtnhgchnhfdimiaaGreatDoor.Ev
theorem evs : ∀ k, k < 8 → evF false k = true
  | 0, _ => ev0
  | 1, _ => ev1
  | 2, _ => ev2
  | 3, _ => ev3
  | 4, _ => ev4
  | 5, _ => ev5
  | 6, _ => ev6
  | 7, _ => ev7
  | k + 8, h => absurd h (by omega)
theorem isP1_spec {id : Pos} (h : isP1 id = true) : id = .o .h := by
  cases id with
  | h => cases h
  | i p => cases h
  | o p => cases p with
    | h => rfl
    | o _ => cases h
    | i _ => cases h
theorem gtr_eq (a b : Int) (t : TypeId) : binOp .gtr t (.int .i64 a) (.int .i64 b) = pure (.bool (decide (a > b))) := rfl
theorem rem_eq (a b : Int) (t : TypeId) (h : b ≠ 0) : binOp .rem t (.int .i64 a) (.int .i64 b) = pure (.int .i64 (a.tmod b)) := by
  show Op.intDiv .rem .i64 a b = _
  unfold Op.intDiv
  rw [if_neg h]
theorem len_wrap {n : Nat} (h : n ≤ 9223372036854775807) : IntKind.i64.wrap (n : Int) = n := by rw [wrap_n n (by omega), if_pos (by omega)]
theorem gtr_ok {len c : Nat} {id : Pos} {g : Bool} {r : V} (hlen : len ≤ 9223372036854775807) (hg : g = decide (1048576 < len)) (h : cond (Nat.beq c 1048576) (cond (isP1 id) (some (V.b g)) none) none = some r) :
    id = .o .h ∧ ∃ y, (∀ t, binOp .gtr t (.int .i64 (IntKind.i64.wrap len)) (.int .i64 (IntKind.i64.wrap c)) = pure y) ∧ ∀ ρ, VR ρ r y := by
  obtain ⟨h1, h2⟩ := cond_some h
  obtain ⟨h3, h4⟩ := cond_some h2
  injection h4 with h4; subst h4
  have hc := Nat.eq_of_beq_eq_true h1
  subst hc
  refine ⟨isP1_spec h3, .bool g, fun t => ?_, fun ρ => rfl⟩
  have e : decide ((len : Int) > ((1048576 : Nat) : Int)) = decide (1048576 < len) := decide_eq_decide.2 (by omega)
  rw [gtr_eq, len_wrap hlen, len_wrap (by omega), hg, e]
theorem tblF_ok {len : Nat} (hlen : len ≤ 9223372036854775807) : ∀ op id c r, tblF (decide (1048576 < len)) (len % 8) op id c = some r →
    id = .o .h ∧ ∃ y, (∀ t, binOp op t (.int .i64 (IntKind.i64.wrap len)) (.int .i64 (IntKind.i64.wrap c)) = pure y) ∧ ∀ ρ, VR ρ r y := by
  intro op id c r h
  cases op with
  | gtr => exact gtr_ok hlen rfl h
  | rem =>
    obtain ⟨h1, h2⟩ := cond_some (c := Nat.beq c 8) (x := cond (isP1 id) (some (V.n (len % 8))) none) h
    obtain ⟨h3, h4⟩ := cond_some h2
    injection h4 with h4; subst h4
    have hc := Nat.eq_of_beq_eq_true h1
    subst hc
    refine ⟨isP1_spec h3, .int .i64 ((len % 8 : Nat) : Int), fun t => ?_, fun ρ => ?_⟩
    · rw [len_wrap hlen, len_wrap (by omega), rem_eq _ _ _ (by omega)]
      rfl
    · unfold VR
      exact ⟨rfl, by omega, (len_wrap (by omega)).symm⟩
  | _ => cases h
theorem tblG_ok {len : Nat} (hlen : len ≤ 9223372036854775807) (hg : 1048576 < len) : ∀ op id c r, tblG op id c = some r →
    id = .o .h ∧ ∃ y, (∀ t, binOp op t (.int .i64 (IntKind.i64.wrap len)) (.int .i64 (IntKind.i64.wrap c)) = pure y) ∧ ∀ ρ, VR ρ r y := by
  intro op id c r h
  cases op with
  | gtr => exact gtr_ok hlen (decide_eq_true hg).symm h
  | _ => cases h
theorem glF_ok : ∀ g' p, glF g' = some p → g' = 3 ∧ p = .h := by
  intro g' p h
  unfold glF at h
  cases hb : Nat.beq g' 3 with
  | true => rw [hb] at h; injection h with h; exact ⟨Nat.eq_of_beq_eq_true hb, h.symm⟩
  | false => rw [hb] at h; cases h

theorem asc_at : Rows.fnFaultsRow.laid[7]? = some ("strings.asciiSpace", Lib.tabData .u8 (asc.map fun (z : Nat) => (z : Int))) := by kernel_rfl
theorem plainLaid : (Rows.fnFaultsRow.laid.all fun x => x.2.handleName?.isNone) = true := by kernel_rfl
theorem gAsc : Tryz.prog.globalNamed "strings.asciiSpace" = some 3 := by kernel_rfl
theorem gType : (Tryz.prog.globals[3]?).map (·.type) = some 356 := by kernel_rfl
theorem und356 : Tryz.prog.underlying 356 = some (.array 256 5) := by kernel_rfl
theorem und5 : Tryz.prog.underlying 5 = some (.int .u8) := by kernel_rfl
theorem und22 : Tryz.prog.underlying 22 = some (.slice 5) := by kernel_rfl
theorem und4 : Tryz.prog.underlying 4 = some .bool := by kernel_rfl
theorem cel5 : Tryz.prog.cellsOf 5 = 1 := by kernel_rfl
theorem cel356 : Tryz.prog.cellsOf 356 = 256 := by kernel_rfl
theorem gInit : (((begin Tryz.prog (fun _ _ => 0) default).world.heap[3]?).bind Obj.row?).map (·.2) = some 356 := by kernel_rfl
theorem gLt : 3 < Tryz.prog.globals.size := of_decide_eq_true (by kernel_rfl)
theorem asc256 : ∀ z ∈ asc, z < 256 := fun z hz => of_decide_eq_true (List.all_eq_true.1 (show (asc.all fun z => decide (z < 256)) = true by kernel_rfl) z hz)
theorem ascLen : asc.length ≤ 1099511627775 := of_decide_eq_true (by kernel_rfl)
theorem table {W : World} (h : laidMetH Tryz.prog Rows.fnFaultsRow.laid W) (hS : W.ShapedOpen Tryz.prog) : ∃ C, W.heap[3]? = some (.cells C 356) ∧ C.toList = asc.map fun (z : Nat) => Value.int .u8 z := by
  obtain ⟨C, h1, h2⟩ := table_of plainLaid (List.mem_of_getElem? asc_at) gAsc gType und356 und5 cel5 cel356 h gInit gLt hS
  exact ⟨C, h1, by rw [h2, List.map_map]; rfl⟩
theorem params3 : Tryz.f3.params = #[22] := by kernel_rfl
theorem results3 : Tryz.f3.resultTypes = #[4] := by kernel_rfl
theorem spec_at {H : Type} (d : DataW H) : Rows.fnFaultsSpec.fn H [d] = { results := [.lit (.bool true)], args := [d] } := rfl
theorem spec_vars : Rows.fnFaultsSpec.vars = [] := rfl
set_option maxRecDepth 100000 in
theorem contract (H : Type) (enc : TypeId × Value → H) (W : World) (base : Nat) (args : Array Value) (ds gs : List (DataW H)) (before : List MemPlace)
    (hval : ∀ (j : Nat) t v, Tryz.f3.params[j]? = some t → args[j]? = some v → Value.okWide Tryz.prog W .any base t v)
    (hW : DataW.Whole enc Tryz.prog Tryz.f3.params.toList Rows.fnFaultsSpec.vars false W args.toList ds gs before) (hL : laidMetH Tryz.prog Rows.fnFaultsRow.laid W) (hS : W.ShapedOpen Tryz.prog) :
    Calls Tryz.prog 3 args W fun e W' => ∃ v, e = .returned v ∧ Rows.fnFaultsSpec.post enc Tryz.prog Tryz.f3 false true false false W args v W' := by
  obtain ⟨C, hC, hz⟩ := table hL hS
  have run : ∀ a len cap, len ≤ 9223372036854775807 → Calls Tryz.prog 3 #[.slice a len cap] W fun e w' => e = .returned (.bool true) ∧ Kept W w' := by
    intro a len cap hlen
    by_cases hg : 1048576 < len
    · exact run_law mixed XT_ok fil_ok.get hC hz asc256 ascLen a len cap hlen glF_ok (tblG_ok hlen hg) (by rw [← YF_eq]; exact evg)
    · refine run_law mixed XT_ok fil_ok.get hC hz asc256 ascLen a len cap hlen glF_ok (tblF_ok hlen) ?_ (fuel := 60)
      rw [← YF_eq, decide_eq_false hg]
      exact evs (len % 8) (Nat.mod_lt _ (by decide))
  exact law_contract params3 und22 und5 cel5 results3 und4 spec_vars spec_at hval hW run
end Go.Proofs.YtnhgchnhfdimiaaGreatDoor.Run
