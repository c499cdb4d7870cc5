/- From a run of the evaluator's to a call that leaves everything as it was: a law over a slice of unknown length. -/
import Derived.Test.YtnhgchnhfdimiaaGreatDoorEvXr
import Derived.Lib.LaidTab
import Derived.MakeChecks
import Derived.ChangeSame
import Derived.RowKit
import Derived.OpenShut
namespace Go.Proofs.YtnhgchnhfdimiaaGreatDoor.Ev
open Go

theorem laidVars_at {P : Program} {W : World} : ∀ {l : List (String × DataW Unit)} {ps : List MemPlace}, DataW.LaidVars P W l ps → ∀ x ∈ l,
    ∃ g t cs fuel p, P.globalNamed x.1 = some g ∧ (P.globals[g]?).map (·.type) = some t ∧ W.var? P x.1 = some cs ∧ DataW.trod (fun _ => ()) P W 0 (fun _ => true) false fuel t cs.toList = some (x.2, p)
  | [], _, _, x, hx => by cases hx
  | (n, d) :: r, ps, h, x, hx => by
    obtain ⟨g, t, cs, fuel, p, q, h1, h2, h3, h4, h5, -⟩ := h
    cases hx with
    | head => exact ⟨g, t, cs, fuel, p, h1, h2, h3, h4⟩
    | tail _ hx => exact laidVars_at h5 x hx
/-- What a listed table's block holds. -/
theorem table_of {P : Program} {W : World} {laid : List (String × DataW Unit)} {name : String} {k : IntKind} {zs : List Int} {g n : Nat} {t e E : TypeId} (hp : (laid.all fun x => x.2.handleName?.isNone) = true) (hm : (name, Lib.tabData k zs) ∈ laid)
    (hg : P.globalNamed name = some g) (hty : (P.globals[g]?).map (·.type) = some t) (ht : P.underlying t = some (.array n e)) (he : P.underlying e = some (.int k)) (hce : P.cellsOf e = 1) (hct : P.cellsOf t = n)
    (h : laidMetH P laid W) (hi : (((begin P (fun _ _ => 0) default).world.heap[g]?).bind Obj.row?).map (·.2) = some E) (hgs : g < P.globals.size) (hS : W.ShapedOpen P) :
    ∃ C, W.heap[g]? = some (.cells C E) ∧ C.toList = zs.map fun z => Value.int k z := by
  rw [MakeChecks.laidMetH_plain _ _ _ hp] at h
  obtain ⟨ps, hv, -⟩ := h
  obtain ⟨g', t', cs, fuel, p, h1, h2, h3, h4⟩ := laidVars_at hv _ hm
  obtain rfl := Option.some.inj (hg.symm.trans h1)
  obtain rfl := Option.some.inj (hty.symm.trans h2)
  obtain ⟨⟨zero, E'⟩, hz, rfl⟩ := Option.map_eq_some_iff.1 hi
  obtain ⟨C, hC, -⟩ := hS.1 g zero E' hgs hz
  refine ⟨C, hC, ?_⟩
  unfold World.var? at h3
  rw [hg, Option.bind_some, hC] at h3
  injection h3 with h3
  subst h3
  exact Lib.cells_of_tab ht he hce hct h4

/-- Names placed at the beginning: the table; the slice's length. -/
def rho0 (g len es sz : Nat) : Rho := fun id => match id with
  | .h => some ⟨g, 0, sz, es⟩
  | .o .h => some ⟨g, 0, len, 0⟩
  | _ => none
noncomputable def tb0 (E : TypeId) (zs : List Nat) : TB := TB.set .h (.mk (E * 65536) zs.length (into (zs.map V.y) .e 1)) .e
/-- The run answers true, and leaves the table as it was. -/
noncomputable def tru (zs : List Nat) (r : RC) : Bool :=
  RC.rec (motive := fun _ => Bool) false (fun v _ bs => Option.rec (motive := fun _ => Bool) false (fun _ => true) (asB v none fun b => cond b (bk bs .h fun _ sz cs => cond (Nat.ble zs.length sz) (cond (veq (.g (cs.take zs.length 1)) (.g (zs.map V.y))) (some ()) none) none) none)) r
theorem asB_some' {α : Type} {v : V} {k : Bool → Option α} {r : α} (h : asB v none k = some r) : ∃ b, v = .b b ∧ k b = some r := asB_some h
theorem tru_spec {zs : List Nat} {r : RC} (h : tru zs r = true) : ∃ nx bs es sz cs, r = .mk (.b true) nx bs ∧ Live bs .h es sz cs ∧ zs.length ≤ sz ∧ cs.take zs.length 1 = zs.map V.y := by
  cases r with
  | fail => cases h
  | mk v nx bs =>
    have h : Option.rec (motive := fun _ => Bool) false (fun _ => true) (asB v none fun b => cond b (bk bs .h fun _ sz cs => cond (Nat.ble zs.length sz) (cond (veq (.g (cs.take zs.length 1)) (.g (zs.map V.y))) (some ()) none) none) none) = true := h
    cases hb : (asB v none fun b => cond b (bk bs .h fun _ sz cs => cond (Nat.ble zs.length sz) (cond (veq (.g (cs.take zs.length 1)) (.g (zs.map V.y))) (some ()) none) none) none) with
    | none => rw [hb] at h; cases h
    | some u =>
      obtain ⟨b, rfl, h1⟩ := asB_some' hb
      obtain ⟨rfl, h2⟩ := cond_some h1
      obtain ⟨es, sz, cs, hl, h3⟩ := bk_some h2
      obtain ⟨g1, h4⟩ := cond_some h3
      obtain ⟨g2, -⟩ := cond_some h4
      have := veq_eq g2
      injection this with this
      exact ⟨nx, bs, es, sz, cs, rfl, hl, Nat.le_of_ble_eq_true g1, this⟩

theorem hr0 {g len E : Nat} {zs : List Nat} {W : World} {C : Array Value} (hC : W.heap[g]? = some (.cells C E)) (hz : C.toList = zs.map fun (z : Nat) => Value.int .u8 z) (h256 : ∀ z ∈ zs, z < 256) (hb : zs.length ≤ 1099511627775) : HR (rho0 g len (E * 65536) zs.length) (pos 2) (tb0 E zs) W := by
  have hlt : g < W.heap.size := by
    rcases Nat.lt_or_ge g W.heap.size with hh | hh
    · exact hh
    · rw [Array.getElem?_eq_none hh] at hC; cases hC
  have hsz : C.size = zs.length := by
    have := congrArg List.length hz
    simpa using this
  have hlive : ∀ id es sz cs, Live (tb0 E zs) id es sz cs → id = .h ∧ es = E * 65536 ∧ sz = zs.length ∧ cs = into (zs.map V.y) .e 1 := fun id es sz cs hl => by
    rcases live_set hl with ⟨h1, h2, h3, h4⟩ | ⟨-, hl⟩
    · exact ⟨h1, h2, h3, h4⟩
    · unfold Live at hl; rw [TB.get_e] at hl; cases hl
  refine ⟨fun id es sz cs hl => ?_, fun id id' es sz cs es' sz' cs' q q' hl hl' _ _ _ => ?_, fun id hid => ?_, fun id q hq => ?_⟩
  · obtain ⟨rfl, rfl, rfl, rfl⟩ := hlive _ _ _ _ hl
    refine ⟨_, rfl, ⟨rfl, fun _ => rfl⟩, C, (0, 0), ?_, hsz, fun k hk => ?_, fun k _ _ => by simp⟩
    · rw [Nat.mul_div_cancel _ (by decide)]; exact hC
    · have hk' : k < zs.length := hk
      refine ⟨.int .u8 (zs[k]), ?_, ?_⟩
      · have : C.toList[k]? = some (Value.int .u8 (zs[k])) := by rw [hz, List.getElem?_map, List.getElem?_eq_getElem hk']; rfl
        simpa using this
      · rw [into_at' (zs.map V.y) k (.y zs[k]) (by rw [List.getElem?_map, List.getElem?_eq_getElem hk']; rfl) (by simpa using hb)]
        unfold VR
        exact ⟨rfl, h256 _ (List.getElem_mem hk'), rfl⟩
  · rw [(hlive _ _ _ _ hl).1, (hlive _ _ _ _ hl').1]
  · rw [pos_val] at hid
    have hne : id ≠ .h := fun e => by subst e; simp [Pos.val] at hid
    have hne1 : id ≠ .o .h := fun e => by subst e; simp [Pos.val] at hid
    refine ⟨?_, ?_⟩
    · unfold rho0
      split
      · exact absurd rfl hne
      · exact absurd rfl hne1
      · rfl
    · unfold tb0
      rw [TB.get_set_ne _ (Ne.symm hne), TB.get_e]
  · unfold rho0 at hq
    split at hq
    · injection hq with hq; subst hq; exact hlt
    · injection hq with hq; subst hq; exact hlt
    · cases hq
/-- Blocks that were there are as they were. -/
def Kept (W W' : World) : Prop := Evn W W' ∧ ∀ i, i < W.heap.size → W'.heap[i]? = W.heap[i]?
theorem Kept.but {W W' : World} (h : Kept W W') (may : MemPlace → Prop) : W.keptBut W' may := by
  refine ⟨h.1.1, h.1.2, fun i hi => ?_⟩
  rw [h.2 i hi]
  cases hh : W.heap[i]? with
  | none => rfl
  | some o => cases o <;> first | exact ⟨rfl, rfl, rfl, fun _ _ => rfl⟩ | exact .inr ⟨rfl, rfl⟩ | rfl
theorem Kept.frozen {W W' : World} (h : Kept W W') (b off : Nat) (hb : b < W.heap.size) : W'.frozen? ⟨b, off, none⟩ = W.frozen? ⟨b, off, none⟩ := by
  unfold World.frozen?
  show (match W'.heap[b]? with | some (.cells _ _ (lo, hi)) => _ | _ => _) = _
  rw [h.2 b hb]
  rfl
theorem Kept.cell {W W' : World} (h : Kept W W') (b off : Nat) {v : Value} (hc : W.cell? ⟨b, off, none⟩ = some v) : W'.cell? ⟨b, off, none⟩ = some v := by
  have hb : b < W.heap.size := by
    rcases Nat.lt_or_ge b W.heap.size with hh | hh
    · exact hh
    · unfold World.cell? at hc
      rw [show W.heap[(⟨b, off, none⟩ : Addr).block]? = none from Array.getElem?_eq_none hh] at hc
      simp at hc
  unfold World.cell? at hc ⊢
  show _ = some v
  rw [show W'.heap[(⟨b, off, none⟩ : Addr).block]? = W.heap[(⟨b, off, none⟩ : Addr).block]? from h.2 b hb]
  exact hc

theorem run_law {P : Program} (hmix : P.follows .mixedOrders = true) {XT : Nat → Option XK} (hX : ∀ f k, XT f = some k → XOk P f k) {l : List FI} (hl : ∀ x ∈ l, P.funcs[x.f]? = some x.fn ∧ (x.fn.name == "runtime.NumGoroutine") = false) {gl : Nat → Option Pos} {tab : BinOp → Pos → Nat → Option V} {f fuel : Nat}
    {g E : Nat} {zs : List Nat} {W : World} {C : Array Value} (hC : W.heap[g]? = some (.cells C E)) (hz : C.toList = zs.map fun (z : Nat) => Value.int .u8 z) (h256 : ∀ z ∈ zs, z < 256) (hb : zs.length ≤ 1099511627775)
    (a : Option Addr) (len cap : Nat) (hlen : len ≤ 9223372036854775807) (hgl : ∀ g' p, gl g' = some p → g' = g ∧ p = .h)
    (htab : ∀ op id c r, tab op id c = some r → id = .o .h ∧ ∃ y, (∀ t, binOp op t (.int .i64 (IntKind.i64.wrap len)) (.int .i64 (IntKind.i64.wrap c)) = pure y) ∧ ∀ ρ, VR ρ r y)
    (ev : tru zs (callN (tabOf (tiOf P) XT gl tab l) fuel (pos f) [.a 1 (.o .h)] (pos 2) (tb0 E zs)) = true) :
    Calls P f #[.slice a len cap] W fun e w' => e = .returned (.bool true) ∧ Kept W w' := by
  obtain ⟨nx, bs, es, sz, cs, hk, hl1, hsz, htk⟩ := tru_spec ev
  have hh := hr0 (len := len) hC hz h256 hb
  have hg : GR ⟨fun _ => false, gl, false, tab⟩ (rho0 g len (E * 65536) zs.length) := by
    refine ⟨fun g' p e => ?_, fun op id c r e => ?_⟩
    · obtain ⟨rfl, rfl⟩ := hgl g' p e
      exact ⟨_, rfl, rfl, rfl⟩
    · obtain ⟨rfl, y, h1, h2⟩ := htab op id c r e
      exact ⟨_, y, rfl, h1, h2 _⟩
  have hv : VRs (rho0 g len (E * 65536) zs.length) [.a 1 (.o .h)] (#[Value.slice a len cap] : Array Value).toList := by
    show VRs _ [.a 1 (.o .h)] [Value.slice a len cap]
    simp only [VRs, VR, and_true]
    exact ⟨_, rfl, rfl, hlen⟩
  obtain ⟨-, hcall⟩ := callN_snd hmix hX hl (G := ⟨fun _ => false, gl, false, tab⟩) fuel _ f _ _ _ _ _ _ _ W hg hv hh hk
  refine hcall.mono fun e w' ⟨y, ρ', he, hy, hh', hx⟩ => ?_
  have hy : y = .bool true := by
    cases y <;> simp only [VR] at hy
    subst hy; rfl
  subst hy
  refine ⟨he, hx.env, fun i hi => ?_⟩
  by_cases hi3 : i = g
  · subst hi3
    obtain ⟨q, hq, hqs, C', fz, hC', hsz', hcells, -⟩ := hh'.live _ _ _ _ hl1
    have hq0 := hx.le .h _ rfl
    rw [hq] at hq0; injection hq0 with hq0; subst hq0
    have hown : Own ρ' bs i := ⟨.h, es, sz, cs, _, hl1, hq, rfl⟩
    have hfz := hx.frz i hi hown
    rw [fzAt_cells hC, fzAt_cells hC'] at hfz
    injection hfz with hfz; subst hfz
    have hE : E * 65536 / 65536 = E := Nat.mul_div_cancel _ (by decide)
    have hC2 : w'.heap[i]? = some (.cells C' (E * 65536 / 65536) (0, 0)) := hC'
    rw [hE] at hC2
    rw [hC2, hC]
    have hCC : C' = C := by
      apply Array.ext'
      rw [hz]
      apply List.ext_getElem?
      intro k
      by_cases hkl : k < zs.length
      · obtain ⟨x, hx1, hx2⟩ := hcells k (by omega)
        have ht := TV.take_get cs zs.length 1 k hkl
        rw [htk, List.getElem?_map, List.getElem?_eq_getElem hkl] at ht
        injection ht with ht
        rw [show 1 + k = k + 1 by omega] at ht
        rw [← ht] at hx2
        have hx3 : x = .int .u8 zs[k] := by
          cases x <;> simp only [VR] at hx2
          obtain ⟨rfl, -, rfl⟩ := hx2; rfl
        subst hx3
        rw [List.getElem?_map, List.getElem?_eq_getElem hkl]
        have hx1 : C'[0 + k]? = some (Value.int .u8 zs[k]) := hx1
        rw [Nat.zero_add] at hx1
        simpa using hx1
      · have hs : C'.size = zs.length := hsz'
        rw [List.getElem?_eq_none (by simp; omega), List.getElem?_eq_none (by simp; omega)]
    rw [hCC]
  · refine hx.keep i hi fun ⟨id, es', sz', cs', q, h1, h2, h3⟩ => hi3 ?_
    rcases live_set h1 with ⟨rfl, -, -, -⟩ | ⟨-, h1⟩
    · injection h2 with h2; subst h2; exact h3.symm
    · unfold Live at h1; rw [TB.get_e] at h1; cases h1

end Go.Proofs.YtnhgchnhfdimiaaGreatDoor.Ev

/- A law over one slice of bytes: it answers true, and all reads as before. -/
namespace Go.Proofs.YtnhgchnhfdimiaaGreatDoor.Ev
open Go Go.ChangeShapes Go.WideShapes Go.ChangeAt Go.RowKit

theorem post_kept {H : Type} {enc : TypeId × Value → H} {P : Program} {f : Func} {s : ChangeSpec} {apart fresh handsOn again : Bool} {W W' : World} {args : Array Value} {v : Value} {ds gs : List (DataW H)} {before pa pv : List MemPlace}
    (hW : DataW.Whole enc P f.params.toList s.vars apart W args.toList ds gs before)
    (hres : ∀ (b : Nat) (sp : Nat → Bool) (hd : Bool), DataW.TrodAll enc P W' b sp hd f.resultTypes.toList (v.resultList f.resultTypes.size) (s.fn H (ds ++ gs)).results [])
    (hargs : ∀ sp : Nat → Bool, (∀ p ∈ before, sp p.block = true) → DataW.TrodAll enc P W' 0 sp true f.params.toList args.toList (s.fn H (ds ++ gs)).args pa)
    (hvars : ∀ sp : Nat → Bool, (∀ p ∈ before, sp p.block = true) → DataW.TrodVars enc P W' sp s.vars (s.fn H (ds ++ gs)).vars pv)
    (hps : before = pa ++ pv) (hk : Kept W W')
    (hok : ∀ (j : Nat) (t : TypeId) (r : Value), f.resultTypes[j]? = some t → (v.resultList f.resultTypes.size)[j]? = some r → Value.okWide P W' .any 0 t r) :
    s.post enc P f apart fresh handsOn again W args v W' := by
  have hlt := hW.lt
  have hold : ∀ p ∈ before, (fun b => decide (b < W.heap.size)) p.block = true := fun p hp => by simpa using hlt p hp
  refine ⟨ds, gs, before, [], pa, pv, hW, hres _ _ _, hargs _ hold, hvars _ hold, hk.but _ , fun _ => ?_⟩
  obtain ⟨_, _, _, _, _, hz, hn⟩ := hW
  refine ⟨hok, _, _, [] ++ pa ++ pv, ⟨[] ++ pa, pv, trodAll_append (hargs _ fun _ _ => rfl) (hres _ _ _), hvars _ fun _ _ => rfl, rfl, fun b off hp => ?_, fun ha => ?_⟩, fun p hp _ => ?_⟩
  · have hp : MemPlace.cell b off ∈ before := by rw [hps]; simpa using hp
    have hb : b < W.heap.size := hlt _ hp
    rw [hk.frozen b off hb]
    exact hz b off hp
  · have := hn ha
    rw [hps] at this
    simpa using this
  · rw [hps]; simpa using hp

theorem law_contract {P : Program} {f : FuncId} {fn : Func} {s : ChangeSpec} {apart fresh handsOn again : Bool} {H : Type} {enc : TypeId × Value → H} {W : World} {base : Nat} {args : Array Value} {ds gs : List (DataW H)} {before : List MemPlace} {t e tr : TypeId}
    (hpar : fn.params = #[t]) (ht : P.underlying t = some (.slice e)) (he : P.underlying e = some (.int .u8)) (hce : P.cellsOf e = 1) (hres : fn.resultTypes = #[tr]) (htr : P.underlying tr = some .bool) (hvars : s.vars = [])
    (hfn : ∀ d : DataW H, s.fn H [d] = { results := [.lit (.bool true)], args := [d] })
    (hval : ∀ (j : Nat) t v, fn.params[j]? = some t → args[j]? = some v → Value.okWide P W .any base t v)
    (hW : DataW.Whole enc P fn.params.toList s.vars apart W args.toList ds gs before)
    (run : ∀ a len cap, len ≤ 9223372036854775807 → Calls P f #[.slice a len cap] W fun e w' => e = .returned (.bool true) ∧ Kept W w') :
    Calls P f args W fun e W' => ∃ v, e = .returned v ∧ s.post enc P fn apart fresh handsOn again W args v W' := by
  have hW' := hW
  obtain ⟨p, q, hA0, hV, rfl, hfz, hnd⟩ := hW
  have hA : DataW.TrodAll enc P W 0 (fun _ => true) true fn.params.toList args.toList ds p := hA0
  rw [hpar] at hA hval
  rw [hvars] at hV
  obtain ⟨v0, vs0, d0, ds0, p0, q0, hargs, rfl, rfl, h0, r0⟩ := trodAll_cons hA
  obtain ⟨rfl, rfl, rfl⟩ := trodAll_nil r0
  obtain rfl : args = #[v0] := by cases args; simp_all
  obtain ⟨rfl, rfl⟩ := trodVars_none hV
  obtain ⟨a0, len, cap, rfl⟩ := okWide_slice ht (hval 0 t v0 rfl rfl)
  obtain ⟨fuel, hf⟩ := h0
  clear hA0
  simp only [List.append_nil] at hW'
  have hlt := hW'.lt
  have key : len ≤ 9223372036854775807 ∧ ∀ W', Kept W W' → ∀ sp : Nat → Bool, (∀ x ∈ p0, sp x.block = true) → DataW.Trod enc P W' 0 sp true t (.slice a0 len cap) d0 p0 := by
    rcases open_ints ht he hce hf with ⟨hcs, hx⟩ | ⟨a, len', cap', zs, hcs, _, hl, hm, hz, hx, hcell, hwz⟩
    · simp [Value.cells] at hcs
      obtain ⟨rfl, rfl, rfl⟩ := hcs
      simp only [Prod.mk.injEq] at hx
      obtain ⟨rfl, rfl⟩ := hx
      exact ⟨Nat.zero_le _, fun W' _ sp _ => shut_slice_nil ht⟩
    · simp [Value.cells] at hcs
      obtain ⟨rfl, rfl, rfl⟩ := hcs
      simp only [Prod.mk.injEq] at hx
      obtain ⟨rfl, rfl⟩ := hx
      simp only [if_true] at hz
      have hm' : cap ≤ 9223372036854775807 := hm
      refine ⟨by omega, fun W' hk sp hsp => ⟨2, ?_⟩⟩
      by_cases h0 : zs.length = 0
      · have hzs : zs = [] := List.eq_nil_of_length_eq_zero h0
        subst hzs
        have hc0 : cap = 0 := hz.symm
        have hl0 : len = 0 := by omega
        subst hc0; subst hl0
        exact shut_ints (zs := []) 0 ht he hce (Nat.zero_le _) hl hm (by simp) (fun i hi => absurd hi (Nat.not_lt_zero _)) (fun n hn => by cases hn)
      · have hb : a.block < W.heap.size := hlt (.cell a.block a.off) (by
          unfold MemPlace.row
          rw [List.mem_map]
          exact ⟨0, List.mem_range.2 (by omega), by simp⟩)
        have hspa : sp a.block = true := hsp (.cell a.block a.off) (by
          unfold MemPlace.row
          rw [List.mem_map]
          exact ⟨0, List.mem_range.2 (by omega), by simp⟩)
        refine shut_ints 0 ht he hce (Nat.zero_le _) hl hm (by rw [hspa]; exact hz) (fun i hi => ?_) hwz
        have hc := hcell i hi
        have hbb : (a.add i).block = a.block := block_add a i
        unfold World.cell? at hc ⊢
        rw [hbb] at hc ⊢
        rw [hk.2 _ hb]
        exact hc
  refine (run a0 len cap key.1).mono fun e W' ⟨he', hk⟩ => ?_
  subst he'
  refine ⟨_, rfl, post_kept (pa := p0 ++ []) (pv := []) hW' (fun b sp hd => ?_) (fun sp hsp => ?_) (fun _ _ => ?_) (by simp) hk (ok_one hres rfl (okWide_bool_mk htr _))⟩
  · rw [List.append_nil, hfn, hres]
    exact trodAll_cons_mk (shut_bool htr _) trodAll_mk0
  · rw [List.append_nil, hfn, hpar]
    exact trodAll_cons_mk (key.2 W' hk sp fun x hx => hsp x (by simpa using hx)) trodAll_mk0
  · rw [List.append_nil, hfn, hvars]
    rfl

end Go.Proofs.YtnhgchnhfdimiaaGreatDoor.Ev
