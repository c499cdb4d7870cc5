/- FnReckon: its contract, for every argument and every world that holds the tables. -/
import Derived.Test.YtmbnogellhoheaaGreatDoorVRec
import Derived.Test.YtmbnogellhoheaaGreatDoorVRef000
import Derived.Test.YtmbnogellhoheaaGreatDoorVRef001
import Derived.Test.YtmbnogellhoheaaGreatDoorVRef002
import Derived.Test.YtmbnogellhoheaaGreatDoorVRef010
import Derived.Test.YtmbnogellhoheaaGreatDoorVRef011
import Derived.Test.YtmbnogellhoheaaGreatDoorVRef012
import Derived.Test.YtmbnogellhoheaaGreatDoorVRef100
import Derived.Test.YtmbnogellhoheaaGreatDoorVRef101
import Derived.Test.YtmbnogellhoheaaGreatDoorVRef102
import Derived.Test.YtmbnogellhoheaaGreatDoorVRef110
import Derived.Test.YtmbnogellhoheaaGreatDoorVRef111
import Derived.Test.YtmbnogellhoheaaGreatDoorVRef112
import Derived.Test.YtmbnogellhoheaaGreatDoorVRef0z
import Derived.Test.YtmbnogellhoheaaGreatDoorVRef1z
import Derived.Test.YtmbnogellhoheaaGreatDoorVRer000
import Derived.Test.YtmbnogellhoheaaGreatDoorVRer001
import Derived.Test.YtmbnogellhoheaaGreatDoorVRer010
import Derived.Test.YtmbnogellhoheaaGreatDoorVRer011
import Derived.Test.YtmbnogellhoheaaGreatDoorVRer100
import Derived.Test.YtmbnogellhoheaaGreatDoorVRer101
import Derived.Test.YtmbnogellhoheaaGreatDoorVRer110
import Derived.Test.YtmbnogellhoheaaGreatDoorVRer111
import Derived.Test.YtmbnogellhoheaaGreatDoorVRer0z0
import Derived.Test.YtmbnogellhoheaaGreatDoorVRer1z0
import Derived.Test.YtmbnogellhoheaaGreatDoorEvYa
import Derived.Test.YtmbnogellhoheaaGreatDoorRows
import Derived.KernelRfl
namespace Go.Proofs.YtmbnogellhoheaaGreatDoor.Run.Two
open Go Go.Proofs.YtmbnogellhoheaaGreatDoor.Ev Go.Proofs.YtmbnogellhoheaaGreatDoor Go.Proofs.YtmbnogellhoheaaGreatDoor.Run
theorem okF00 {val : Pos → Option Nat} {fx : Pos → Option Fx} (h0 : (GG val fx (binE false false) cvtE).tab.OK) : ∀ ka kb, 1 ≤ ka → ka ≤ 5 → 1 ≤ kb → kb ≤ 5 → (∀ {b c}, AllS Tryz.prog (GG val fx b c) (numN (wS false 0 ka) (wS false 20 kb))) → ∀ {b c}, PureOk Tryz.prog (GG val fx b c) 16 (aN (wS false 0 ka) (wS false 20 kb)) vN_ := by
  intro ka kb h1 h2 h3 h4 hN b c
  match ka, kb, h1, h2, h3, h4, @hN with
  | 1, 1, _, _, _, _, hN => exact okF00x11 hN h0
  | 1, 2, _, _, _, _, hN => exact okF00x12 hN h0
  | 1, 3, _, _, _, _, hN => exact okF00x13 hN h0
  | 1, 4, _, _, _, _, hN => exact okF00x14 hN h0
  | 1, 5, _, _, _, _, hN => exact okF00x15 hN h0
  | 2, 1, _, _, _, _, hN => exact okF00x21 hN h0
  | 2, 2, _, _, _, _, hN => exact okF00x22 hN h0
  | 2, 3, _, _, _, _, hN => exact okF00x23 hN h0
  | 2, 4, _, _, _, _, hN => exact okF00x24 hN h0
  | 2, 5, _, _, _, _, hN => exact okF00x25 hN h0
  | 3, 1, _, _, _, _, hN => exact okF00x31 hN h0
  | 3, 2, _, _, _, _, hN => exact okF00x32 hN h0
  | 3, 3, _, _, _, _, hN => exact okF00x33 hN h0
  | 3, 4, _, _, _, _, hN => exact okF00x34 hN h0
  | 3, 5, _, _, _, _, hN => exact okF00x35 hN h0
  | 4, 1, _, _, _, _, hN => exact okF00x41 hN h0
  | 4, 2, _, _, _, _, hN => exact okF00x42 hN h0
  | 4, 3, _, _, _, _, hN => exact okF00x43 hN h0
  | 4, 4, _, _, _, _, hN => exact okF00x44 hN h0
  | 4, 5, _, _, _, _, hN => exact okF00x45 hN h0
  | 5, 1, _, _, _, _, hN => exact okF00x51 hN h0
  | 5, 2, _, _, _, _, hN => exact okF00x52 hN h0
  | 5, 3, _, _, _, _, hN => exact okF00x53 hN h0
  | 5, 4, _, _, _, _, hN => exact okF00x54 hN h0
  | 5, 5, _, _, _, _, hN => exact okF00x55 hN h0
  | 0, _, h1, _, _, _, _ => exact absurd h1 (by decide)
  | k + 6, _, _, h2, _, _, _ => exact absurd h2 (by omega)
  | _ + 1, 0, _, _, h3, _, _ => exact absurd h3 (by decide)
  | _ + 1, k + 6, _, _, _, h4, _ => exact absurd h4 (by omega)
theorem okF01 {val : Pos → Option Nat} {fx : Pos → Option Fx} (h0 : (GG val fx (binE false true) cvtE).tab.OK) : ∀ ka kb, 1 ≤ ka → ka ≤ 5 → 1 ≤ kb → kb ≤ 5 → (∀ {b c}, AllS Tryz.prog (GG val fx b c) (numN (wS false 0 ka) (wS true 20 kb))) → ∀ {b c}, PureOk Tryz.prog (GG val fx b c) 16 (aN (wS false 0 ka) (wS true 20 kb)) vN_ := by
  intro ka kb h1 h2 h3 h4 hN b c
  match ka, kb, h1, h2, h3, h4, @hN with
  | 1, 1, _, _, _, _, hN => exact okF01x11 hN h0
  | 1, 2, _, _, _, _, hN => exact okF01x12 hN h0
  | 1, 3, _, _, _, _, hN => exact okF01x13 hN h0
  | 1, 4, _, _, _, _, hN => exact okF01x14 hN h0
  | 1, 5, _, _, _, _, hN => exact okF01x15 hN h0
  | 2, 1, _, _, _, _, hN => exact okF01x21 hN h0
  | 2, 2, _, _, _, _, hN => exact okF01x22 hN h0
  | 2, 3, _, _, _, _, hN => exact okF01x23 hN h0
  | 2, 4, _, _, _, _, hN => exact okF01x24 hN h0
  | 2, 5, _, _, _, _, hN => exact okF01x25 hN h0
  | 3, 1, _, _, _, _, hN => exact okF01x31 hN h0
  | 3, 2, _, _, _, _, hN => exact okF01x32 hN h0
  | 3, 3, _, _, _, _, hN => exact okF01x33 hN h0
  | 3, 4, _, _, _, _, hN => exact okF01x34 hN h0
  | 3, 5, _, _, _, _, hN => exact okF01x35 hN h0
  | 4, 1, _, _, _, _, hN => exact okF01x41 hN h0
  | 4, 2, _, _, _, _, hN => exact okF01x42 hN h0
  | 4, 3, _, _, _, _, hN => exact okF01x43 hN h0
  | 4, 4, _, _, _, _, hN => exact okF01x44 hN h0
  | 4, 5, _, _, _, _, hN => exact okF01x45 hN h0
  | 5, 1, _, _, _, _, hN => exact okF01x51 hN h0
  | 5, 2, _, _, _, _, hN => exact okF01x52 hN h0
  | 5, 3, _, _, _, _, hN => exact okF01x53 hN h0
  | 5, 4, _, _, _, _, hN => exact okF01x54 hN h0
  | 5, 5, _, _, _, _, hN => exact okF01x55 hN h0
  | 0, _, h1, _, _, _, _ => exact absurd h1 (by decide)
  | k + 6, _, _, h2, _, _, _ => exact absurd h2 (by omega)
  | _ + 1, 0, _, _, h3, _, _ => exact absurd h3 (by decide)
  | _ + 1, k + 6, _, _, _, h4, _ => exact absurd h4 (by omega)
theorem okF10 {val : Pos → Option Nat} {fx : Pos → Option Fx} (h0 : (GG val fx (binE true false) cvtE).tab.OK) : ∀ ka kb, 1 ≤ ka → ka ≤ 5 → 1 ≤ kb → kb ≤ 5 → (∀ {b c}, AllS Tryz.prog (GG val fx b c) (numN (wS true 0 ka) (wS false 20 kb))) → ∀ {b c}, PureOk Tryz.prog (GG val fx b c) 16 (aN (wS true 0 ka) (wS false 20 kb)) vN_ := by
  intro ka kb h1 h2 h3 h4 hN b c
  match ka, kb, h1, h2, h3, h4, @hN with
  | 1, 1, _, _, _, _, hN => exact okF10x11 hN h0
  | 1, 2, _, _, _, _, hN => exact okF10x12 hN h0
  | 1, 3, _, _, _, _, hN => exact okF10x13 hN h0
  | 1, 4, _, _, _, _, hN => exact okF10x14 hN h0
  | 1, 5, _, _, _, _, hN => exact okF10x15 hN h0
  | 2, 1, _, _, _, _, hN => exact okF10x21 hN h0
  | 2, 2, _, _, _, _, hN => exact okF10x22 hN h0
  | 2, 3, _, _, _, _, hN => exact okF10x23 hN h0
  | 2, 4, _, _, _, _, hN => exact okF10x24 hN h0
  | 2, 5, _, _, _, _, hN => exact okF10x25 hN h0
  | 3, 1, _, _, _, _, hN => exact okF10x31 hN h0
  | 3, 2, _, _, _, _, hN => exact okF10x32 hN h0
  | 3, 3, _, _, _, _, hN => exact okF10x33 hN h0
  | 3, 4, _, _, _, _, hN => exact okF10x34 hN h0
  | 3, 5, _, _, _, _, hN => exact okF10x35 hN h0
  | 4, 1, _, _, _, _, hN => exact okF10x41 hN h0
  | 4, 2, _, _, _, _, hN => exact okF10x42 hN h0
  | 4, 3, _, _, _, _, hN => exact okF10x43 hN h0
  | 4, 4, _, _, _, _, hN => exact okF10x44 hN h0
  | 4, 5, _, _, _, _, hN => exact okF10x45 hN h0
  | 5, 1, _, _, _, _, hN => exact okF10x51 hN h0
  | 5, 2, _, _, _, _, hN => exact okF10x52 hN h0
  | 5, 3, _, _, _, _, hN => exact okF10x53 hN h0
  | 5, 4, _, _, _, _, hN => exact okF10x54 hN h0
  | 5, 5, _, _, _, _, hN => exact okF10x55 hN h0
  | 0, _, h1, _, _, _, _ => exact absurd h1 (by decide)
  | k + 6, _, _, h2, _, _, _ => exact absurd h2 (by omega)
  | _ + 1, 0, _, _, h3, _, _ => exact absurd h3 (by decide)
  | _ + 1, k + 6, _, _, _, h4, _ => exact absurd h4 (by omega)
theorem okF11 {val : Pos → Option Nat} {fx : Pos → Option Fx} (h0 : (GG val fx (binE true true) cvtE).tab.OK) : ∀ ka kb, 1 ≤ ka → ka ≤ 5 → 1 ≤ kb → kb ≤ 5 → (∀ {b c}, AllS Tryz.prog (GG val fx b c) (numN (wS true 0 ka) (wS true 20 kb))) → ∀ {b c}, PureOk Tryz.prog (GG val fx b c) 16 (aN (wS true 0 ka) (wS true 20 kb)) vN_ := by
  intro ka kb h1 h2 h3 h4 hN b c
  match ka, kb, h1, h2, h3, h4, @hN with
  | 1, 1, _, _, _, _, hN => exact okF11x11 hN h0
  | 1, 2, _, _, _, _, hN => exact okF11x12 hN h0
  | 1, 3, _, _, _, _, hN => exact okF11x13 hN h0
  | 1, 4, _, _, _, _, hN => exact okF11x14 hN h0
  | 1, 5, _, _, _, _, hN => exact okF11x15 hN h0
  | 2, 1, _, _, _, _, hN => exact okF11x21 hN h0
  | 2, 2, _, _, _, _, hN => exact okF11x22 hN h0
  | 2, 3, _, _, _, _, hN => exact okF11x23 hN h0
  | 2, 4, _, _, _, _, hN => exact okF11x24 hN h0
  | 2, 5, _, _, _, _, hN => exact okF11x25 hN h0
  | 3, 1, _, _, _, _, hN => exact okF11x31 hN h0
  | 3, 2, _, _, _, _, hN => exact okF11x32 hN h0
  | 3, 3, _, _, _, _, hN => exact okF11x33 hN h0
  | 3, 4, _, _, _, _, hN => exact okF11x34 hN h0
  | 3, 5, _, _, _, _, hN => exact okF11x35 hN h0
  | 4, 1, _, _, _, _, hN => exact okF11x41 hN h0
  | 4, 2, _, _, _, _, hN => exact okF11x42 hN h0
  | 4, 3, _, _, _, _, hN => exact okF11x43 hN h0
  | 4, 4, _, _, _, _, hN => exact okF11x44 hN h0
  | 4, 5, _, _, _, _, hN => exact okF11x45 hN h0
  | 5, 1, _, _, _, _, hN => exact okF11x51 hN h0
  | 5, 2, _, _, _, _, hN => exact okF11x52 hN h0
  | 5, 3, _, _, _, _, hN => exact okF11x53 hN h0
  | 5, 4, _, _, _, _, hN => exact okF11x54 hN h0
  | 5, 5, _, _, _, _, hN => exact okF11x55 hN h0
  | 0, _, h1, _, _, _, _ => exact absurd h1 (by decide)
  | k + 6, _, _, h2, _, _, _ => exact absurd h2 (by omega)
  | _ + 1, 0, _, _, h3, _, _ => exact absurd h3 (by decide)
  | _ + 1, k + 6, _, _, _, h4, _ => exact absurd h4 (by omega)
theorem okF0z {val : Pos → Option Nat} {fx : Pos → Option Fx} (h0 : (GG val fx (binE false false) cvtE).tab.OK) : ∀ ka, 1 ≤ ka → ka ≤ 5 → (∀ {b c}, AllS Tryz.prog (GG val fx b c) (numZ (wS false 0 ka))) → ∀ {b c}, PureOk Tryz.prog (GG val fx b c) 16 (aZ (wS false 0 ka)) vZ_ := by
  intro ka h1 h2 hN b c
  match ka, h1, h2, @hN with
  | 1, _, _, hN => exact okF0zx1 hN h0
  | 2, _, _, hN => exact okF0zx2 hN h0
  | 3, _, _, hN => exact okF0zx3 hN h0
  | 4, _, _, hN => exact okF0zx4 hN h0
  | 5, _, _, hN => exact okF0zx5 hN h0
  | 0, h1, _, _ => exact absurd h1 (by decide)
  | k + 6, _, h2, _ => exact absurd h2 (by omega)
theorem okF1z {val : Pos → Option Nat} {fx : Pos → Option Fx} (h0 : (GG val fx (binE true false) cvtE).tab.OK) : ∀ ka, 1 ≤ ka → ka ≤ 5 → (∀ {b c}, AllS Tryz.prog (GG val fx b c) (numZ (wS true 0 ka))) → ∀ {b c}, PureOk Tryz.prog (GG val fx b c) 16 (aZ (wS true 0 ka)) vZ_ := by
  intro ka h1 h2 hN b c
  match ka, h1, h2, @hN with
  | 1, _, _, hN => exact okF1zx1 hN h0
  | 2, _, _, hN => exact okF1zx2 hN h0
  | 3, _, _, hN => exact okF1zx3 hN h0
  | 4, _, _, hN => exact okF1zx4 hN h0
  | 5, _, _, hN => exact okF1zx5 hN h0
  | 0, h1, _, _ => exact absurd h1 (by decide)
  | k + 6, _, h2, _ => exact absurd h2 (by omega)
theorem evBig (val : Pos → Option Nat) (fx : Pos → Option Fx) : chkP (FF natO val fx (binM 1 true 0) no1 (pos 14) [.a 1 (pb 1)] (pos 64) .e) (.b true) = true := by kernel_rfl
theorem all {W : World} {b : Nat → Nat} {a : Option Addr} {len cap : Nat} {za zb : Int} {oT oP oC : Obj} {bl : Nat} {na : Bool} {ua : Nat} {la : List UInt8} {nb : Bool} {ub : Nat} {lb : List UInt8} (h : Case len za zb W b a oT oP oC bl) (hl : len ≤ 1048576) (ha : Sgn na za ua la) (hb : Sgn nb zb ub lb) : Calls Tryz.prog 14 #[.slice a len cap] W fun e w' => e = .returned (.bool true) ∧ Kept W w' := by
  obtain ⟨-, -, -, a5, -, a1⟩ := ha.facts
  obtain ⟨-, -, -, b5, -, b1⟩ := hb.facts
  by_cases hz : zb = 0
  · have hn : nb = false := by rw [hb.neg_iff]; exact decide_eq_false (by omega)
    subst hn
    obtain ⟨hB, hC⟩ := recZ_ok (len := len) (y := zb) (ub := ub) (lb := lb) ha
    refine run_zero h hl ha hb hz hB hC fun {val fx} ht hN h0 hok => ?_
    match na, @hN, h0, hok with
    | false, hN, h0, hok => exact case0z0 ht _ a1 a5 hN (okF0z h0 _ a1 a5 hN) hok
    | true, hN, h0, hok => exact case1z0 ht _ a1 a5 hN (okF1z h0 _ a1 a5 hN) hok
  · generalize hg : pbig za zb = big
    refine run_case h hl ha hb (recB_ok ha hb hz hg.symm) (recC_ok ha hb hg.symm) fun {val fx} ht hN h0 hok => ?_
    match na, nb, big, @hN, h0, hok with
    | false, false, false, hN, h0, hok => exact case000 ht _ _ a1 a5 b1 b5 hN (okF00 h0 _ _ a1 a5 b1 b5 hN) hok
    | false, false, true, hN, h0, hok => exact case001 ht _ _ a1 a5 b1 b5 hN (okF00 h0 _ _ a1 a5 b1 b5 hN) hok
    | false, true, false, hN, h0, hok => exact case010 ht _ _ a1 a5 b1 b5 hN (okF01 h0 _ _ a1 a5 b1 b5 hN) hok
    | false, true, true, hN, h0, hok => exact case011 ht _ _ a1 a5 b1 b5 hN (okF01 h0 _ _ a1 a5 b1 b5 hN) hok
    | true, false, false, hN, h0, hok => exact case100 ht _ _ a1 a5 b1 b5 hN (okF10 h0 _ _ a1 a5 b1 b5 hN) hok
    | true, false, true, hN, h0, hok => exact case101 ht _ _ a1 a5 b1 b5 hN (okF10 h0 _ _ a1 a5 b1 b5 hN) hok
    | true, true, false, hN, h0, hok => exact case110 ht _ _ a1 a5 b1 b5 hN (okF11 h0 _ _ a1 a5 b1 b5 hN) hok
    | true, true, true, hN, h0, hok => exact case111 ht _ _ a1 a5 b1 b5 hN (okF11 h0 _ _ a1 a5 b1 b5 hN) hok
end Go.Proofs.YtmbnogellhoheaaGreatDoor.Run.Two
namespace Go.Proofs.YtmbnogellhoheaaGreatDoor.Run
open Go Go.Proofs.YtmbnogellhoheaaGreatDoor.Ev Go.Proofs.YtmbnogellhoheaaGreatDoor Go.Proofs.YtmbnogellhoheaaGreatDoor.Run.Two
theorem asc_at : Rows.fnReckonRow.laid[7]? = some ("strings.asciiSpace", Lib.tabData .u8 (asc.map fun (z : Nat) => (z : Int))) := by kernel_rfl
theorem pow_at : Rows.fnReckonRow.laid[4]? = some ("internal/strconv.uint64pow10", Lib.tabData .u64 Lib.pow10Tab) := by kernel_rfl
theorem plainLaid : (Rows.fnReckonRow.laid.all fun x => x.2.handleName?.isNone) = true := by kernel_rfl
theorem gAsc : Tryz.prog.globalNamed "strings.asciiSpace" = some 3 := by kernel_rfl
theorem gType : (Tryz.prog.globals[3]?).map (·.type) = some 357 := by kernel_rfl
theorem undT : Tryz.prog.underlying 357 = some (.array 256 5) := by kernel_rfl
theorem und4 : Tryz.prog.underlying 4 = some .bool := by kernel_rfl
theorem cel5 : Tryz.prog.cellsOf 5 = 1 := by kernel_rfl
theorem celT : Tryz.prog.cellsOf 357 = 256 := by kernel_rfl
theorem gInit : (((begin Tryz.prog (fun _ _ => 0) default).world.heap[3]?).bind Obj.row?).map (·.2) = some 357 := by kernel_rfl
theorem gLt : 3 < Tryz.prog.globals.size := of_decide_eq_true (by kernel_rfl)
theorem table {W : World} (h : laidMetH Tryz.prog Rows.fnReckonRow.laid W) (hS : W.ShapedOpen Tryz.prog) : ∃ C, W.heap[3]? = some (.cells C 357) ∧ C.toList = asc.map fun (z : Nat) => Value.int .u8 z := by
  obtain ⟨C, h1, h2⟩ := table_of plainLaid (List.mem_of_getElem? asc_at) gAsc gType undT und5 cel5 celT h gInit gLt hS
  exact ⟨C, h1, by rw [h2, List.map_map]; rfl⟩
theorem gPow : Tryz.prog.globalNamed "internal/strconv.uint64pow10" = some 7 := by kernel_rfl
theorem gTypeP : (Tryz.prog.globals[7]?).map (·.type) = some 478 := by kernel_rfl
theorem undP : Tryz.prog.underlying 478 = some (.array 20 350) := by kernel_rfl
theorem undE : Tryz.prog.underlying 350 = some (.int .u64) := by kernel_rfl
theorem celE : Tryz.prog.cellsOf 350 = 1 := by kernel_rfl
theorem celP : Tryz.prog.cellsOf 478 = 20 := by kernel_rfl
theorem gInitP : (((begin Tryz.prog (fun _ _ => 0) default).world.heap[7]?).bind Obj.row?).map (·.2) = some 478 := by kernel_rfl
theorem gLtP : 7 < Tryz.prog.globals.size := of_decide_eq_true (by kernel_rfl)
theorem tableP {W : World} (h : laidMetH Tryz.prog Rows.fnReckonRow.laid W) (hS : W.ShapedOpen Tryz.prog) : ∃ C, W.heap[7]? = some (.cells C 478) ∧ C.toList = Lib.pow10Tab.map fun (z : Int) => Value.int .u64 z :=
  table_of plainLaid (List.mem_of_getElem? pow_at) gPow gTypeP undP undE celE celP h gInitP gLtP hS
theorem params3 : Tryz.f14.params = #[22] := by kernel_rfl
theorem results3 : Tryz.f14.resultTypes = #[4] := by kernel_rfl
theorem spec_at {H : Type} (d : DataW H) : Rows.fnReckonSpec.fn H [d] = { results := [.lit (.bool true)], args := [d] } := rfl
theorem spec_vars : Rows.fnReckonSpec.vars = [] := rfl
set_option maxRecDepth 100000 in
theorem contract (H : Type) (enc : TypeId × Value → H) (W : World) (base : Nat) (args : Array Value) (ds gs : List (DataW H)) (before : List MemPlace)
    (hval : ∀ (j : Nat) t v, Tryz.f14.params[j]? = some t → args[j]? = some v → Value.okWide Tryz.prog W .any base t v)
    (hW : DataW.Whole enc Tryz.prog Tryz.f14.params.toList Rows.fnReckonSpec.vars false W args.toList ds gs before) (hL : laidMetH Tryz.prog Rows.fnReckonRow.laid W) (hS : W.ShapedOpen Tryz.prog) :
    Calls Tryz.prog 14 args W fun e W' => ∃ v, e = .returned v ∧ Rows.fnReckonSpec.post enc Tryz.prog Tryz.f14 false true false false W args v W' := by
  obtain ⟨C, hC, hz⟩ := table hL hS
  obtain ⟨C7, hP, hPz⟩ := tableP hL hS
  exact law_contractC params3 und22 und5 cel5 results3 und4 spec_vars spec_at hval hW fun a len cap b hlen hb hc => run_law2 hC hz hP hPz a len cap b hlen hb hc evBig fun h hl ha hb => all h hl ha hb

end Go.Proofs.YtmbnogellhoheaaGreatDoor.Run
