/- Code, functions and the table of functions compiled. -/
import Derived.Test.YtmbnogellhoheaaGreatDoorEvXn
namespace Go.Proofs.YtmbnogellhoheaaGreatDoor.Ev
open Go
variable {ρ : Rho}

noncomputable def creg (Y : TI) (XT : Nat → Option XK) (G : Ctx) (N : Nat) (ops : Array Oper) (draw : Bool) : Option (Env × Nat × SB) := match draw with
  | true => dreg Y XT G N ops.toList
  | false => sreg Y XT G N ops ops.toList [] 0
theorem creg_snd {P : Program} (hmix : P.follows .mixedOrders = true) {XT : Nat → Option XK} (hX : ∀ f k, XT f = some k → XOk P f k) {G : Ctx} {N : Nat} {ops : Array Oper} {draw : Bool} {E : Env} {n : Nat} {k : SB} (h : creg (tiOf P) XT G N ops draw = some (E, n, k)) (id : Nat) : RegS P G N (.region id ops draw) E n k := by
  cases draw with
  | true => exact dreg_reg hmix hX h id
  | false =>
    intro F hF ρ T a nx nx' bs bs' w L' hs hk Q hq
    refine wp_region ?_
    have := sreg_snd hX hF ops.toList [] 0 0 E n k rfl h ρ [] L' T a nx nx' bs bs' w hs hk Q hq
    rw [List.range_eq_range']
    simpa using this

/-- Rounds that a loop is let run. -/
def lpF : Nat := 1000000
noncomputable def failC : CB := .mk fun _ _ _ _ => .fail
theorem failC_snd {P : Program} {G : Ctx} {N : Nat} {c : Code} : CCS P G N c failC := by
  intro F hF ρ T T' a nx nx' bs bs' w e hs hk Q hq; cases hk
noncomputable def cFin (G : Ctx) (r : Option (Env × Nat × SB)) : CB := match r with
  | some (E, n, k) => finC (wlist G n E) k
  | none => failC
noncomputable def cTst (G : Ctx) (r : Option (Env × Nat × SB)) (o : Operand) (x y : CB) : CB := match r with
  | some (E, n, k) => match opX G E n o with
    | some f => tstC (wlist G n E) k f x y
    | none => failC
  | none => failC
noncomputable def cCnd (f : Option X) (x y : CB) : CB := match f with
  | some f => cndC f x y
  | none => failC
noncomputable def comp (Y : TI) (XT : Nat → Option XK) (G : Ctx) (N : Nat) : Code → CB
  | .skip => skipC
  | .label _ => skipC
  | .exit id => exitC id
  | .ret => retC
  | .block id b => blkC id (comp Y XT G N b)
  | .loop b => lpC lpF (comp Y XT G N b)
  | .region _ ops draw => cFin G (creg Y XT G N ops draw)
  | .cond o x y => cCnd (opX G [] 0 o) (comp Y XT G N x) (comp Y XT G N y)
  | .seq (.region _ ops draw) (.seq (.cond o x y) z) => seqC (cTst G (creg Y XT G N ops draw) o (comp Y XT G N x) (comp Y XT G N y)) (comp Y XT G N z)
  | .seq (.region _ ops draw) (.cond o x y) => cTst G (creg Y XT G N ops draw) o (comp Y XT G N x) (comp Y XT G N y)
  | .seq x y => seqC (comp Y XT G N x) (comp Y XT G N y)
  | _ => failC
theorem comp_snd {P : Program} (hmix : P.follows .mixedOrders = true) {XT : Nat → Option XK} (hX : ∀ f k, XT f = some k → XOk P f k) {G : Ctx} {N : Nat} (c : Code) : CCS P G N c (comp (tiOf P) XT G N c) := by
  fun_induction comp (tiOf P) XT G N c with
  | case1 => exact skipC_snd fun Q a w => wp_skip
  | case2 => exact skipC_snd fun Q a w => wp_label
  | case3 => exact exitC_snd _
  | case4 => exact retC_snd
  | case5 id b ih => exact blkC_snd id ih
  | case6 b ih => exact lpC_snd lpF ih
  | case7 id ops draw =>
    unfold cFin
    split
    · rename_i E n k hr; exact finC_snd (creg_snd hmix hX hr id)
    · exact failC_snd
  | case8 o x y ihx ihy =>
    unfold cCnd
    split
    · rename_i f hf; exact cndC_snd hf ihx ihy
    · exact failC_snd
  | case9 id ops draw o x y z ihx ihy ihz =>
    unfold cTst
    split
    · rename_i E n k hr
      split
      · rename_i f hf; exact tstS_snd (creg_snd hmix hX hr id) hf ihx ihy ihz
      · intro F hF ρ T T' a nx nx' bs bs' w e hs hk Q hq; cases hk
    · intro F hF ρ T T' a nx nx' bs bs' w e hs hk Q hq; cases hk
  | case10 id ops draw o x y ihx ihy =>
    unfold cTst
    split
    · rename_i E n k hr
      split
      · rename_i f hf; exact tstC_snd (creg_snd hmix hX hr id) hf ihx ihy
      · exact failC_snd
    · exact failC_snd
  | case11 x y h1 h2 ihx ihy => exact seqC_snd ihx ihy
  | case12 => exact failC_snd

/-! ### functions -/
abbrev FN := CallF → List V → Pos → TB → RC
noncomputable def argT (as : List V) : TS := List.rec (motive := fun _ => Pos → TS → TS) (fun _ T => T) (fun v _ ih p T => ih p.inc (T.set p v)) as .h .e
noncomputable def argU (as : List V) (p : Pos) (T : TS) : TS := List.rec (motive := fun _ => Pos → TS → TS) (fun _ T => T) (fun v _ ih p T => ih p.inc (T.set p v)) as p T
theorem argU_get : ∀ (as : List V) (k t : Nat) (T : TS), (argU as (pos k) T).get (pos t) = if k ≤ t ∧ t < k + as.length then (as[t - k]?).getD .u else T.get (pos t)
  | [], k, t, T => by
    rw [if_neg (by simp only [List.length_nil]; omega)]; rfl
  | v :: as, k, t, T => by
    show (argU as (pos k).inc (T.set (pos k) v)).get (pos t) = _
    rw [← pos_succ, argU_get as (k + 1) t]
    by_cases h : k + 1 ≤ t ∧ t < k + 1 + as.length
    · rw [if_pos h, if_pos (by rw [List.length_cons]; omega)]
      have e : t - k = (t - (k + 1)) + 1 := by omega
      rw [e, List.getElem?_cons_succ]
    · rw [if_neg h]
      by_cases e : t = k
      · subst e
        rw [TS.get_set_same, if_pos (by rw [List.length_cons]; omega)]
        simp
      · rw [TS.get_set_ne _ (fun h => e (pos_inj h).symm), if_neg (by rw [List.length_cons]; omega)]
theorem argT_get (as : List V) (t : Nat) : (argT as).get (pos t) = (as[t]?).getD .u := by
  have h := argU_get as 0 t .e
  have e : argT as = argU as (pos 0) .e := rfl
  rw [e, h]
  by_cases hl : t < as.length
  · rw [if_pos (by omega)]; rfl
  · rw [if_neg (by omega), TS.get_e, List.getElem?_eq_none (by omega)]; rfl
noncomputable def res1 (Y : TI) (G : Ctx) : ResultVar → Option (TS → TB → Option V)
  | .tmp t => if G.kept t = true then some fun T _ => some (T.get (pos t)) else none
  | .cell a t => if G.kept a = true then (if scal Y t = true then some fun T bs => ldS bs (T.get (pos a)) else if aggr Y t = true then (match Y.inf t with
    | some i => some fun T bs => ldG i.size bs (T.get (pos a))
    | none => none) else none) else none
noncomputable def resN (Y : TI) (G : Ctx) : List ResultVar → Option (List (TS → TB → Option V))
  | [] => some []
  | r :: rs => match res1 Y G r, resN Y G rs with
    | some f, some fs => some (f :: fs)
    | _, _ => none
noncomputable def evR (fs : List (TS → TB → Option V)) (T : TS) (bs : TB) : Option (List V) := List.rec (motive := fun _ => Option (List V)) (some []) (fun f _ ih => Option.casesOn (f T bs) none fun v => Option.casesOn ih none fun vs => some (v :: vs)) fs
noncomputable def packV (vs : List V) : V := List.casesOn vs (.t []) fun v r => List.casesOn r v fun _ _ => .t vs
noncomputable def outC (fs : List (TS → TB → Option V)) (T : TS) (nx : Pos) (bs : TB) : RC := Option.casesOn (evR fs T bs) .fail fun vs => .mk (packV vs) nx bs
noncomputable def fnC (cc : CB) (fs : List (TS → TB → Option V)) (N : Nat) : FN := fun F as nx bs => Bool.rec .fail (RR.rec (motive := fun _ => RC) .fail (fun e T nx bs => EX.rec (motive := fun _ => RC) (outC fs T nx bs) (fun _ => .fail) (outC fs T nx bs) e) (cc.run F (argT as) nx bs)) (Nat.ble (lenV as) N)
noncomputable def compFn (Y : TI) (XT : Nat → Option XK) (G : Ctx) (fn : Func) : Option FN := match fn.body with
  | some c => match resN Y G fn.results.toList with
    | some fs => some (fnC (comp Y XT G fn.ntmps c) fs fn.ntmps)
    | none => none
  | none => none

theorem loadVar_ld {P : Program} {t : TypeId} {w : World} {v r : V} {x : Value} (hv : VR ρ v x) (hf : ∃ i o, v = .p i o) (h : ∃ y, (Instr.loadAt t x).run P w = .ok y w ∧ VR ρ r y) : ∃ y, (do loadVar t (← asAddr x) : Sem Value).run P w = .ok y w ∧ VR ρ r y := by
  obtain ⟨i, o, rfl⟩ := hf
  obtain ⟨q, hq, rfl⟩ := hv.p
  exact h
def rv1 (tmps : Array Value) : ResultVar → Sem Value
  | .tmp t => pure (tmps.getD t undef)
  | .cell c t => do loadVar t (← asAddr (tmps.getD c undef))
theorem results_eq (fn : Func) (tmps : Array Value) : results fn tmps = (do let vs ← fn.results.mapM (rv1 tmps); pure (if h : vs.size = 1 then vs[0] else .tuple vs)) := rfl
theorem res1_snd {P : Program} {G : Ctx} {N : Nat} {T : TS} {nx : Pos} {bs : TB} {a : Act} {w : World} (hs : St G ρ N T nx bs a w) {rv : ResultVar} {f : TS → TB → Option V} (h : res1 (tiOf P) G rv = some f) {v : V} (hf : f T bs = some v) :
    ∃ y, (rv1 a.tmps rv).run P w = .ok y w ∧ VR ρ v y := by
  cases rv with
  | tmp t =>
    simp only [res1] at h
    split at h
    case isFalse => cases h
    rename_i hk
    injection h with h; subst h
    injection hf with hf; subst hf
    exact ⟨_, rfl, hs.er.slot t rfl hk⟩
  | cell c t =>
    simp only [res1] at h
    split at h
    case isFalse => cases h
    rename_i hk
    have hv := hs.er.slot c rfl hk
    split at h
    · rename_i hsc
      injection h with h; subst h
      obtain ⟨i, o, e, -⟩ := asP_some hf
      exact loadVar_ld hv ⟨i, o, e⟩ (snd_ldS P hsc hs.hr hv hf)
    · split at h
      case isFalse => cases h
      rename_i hag
      split at h
      case h_2 => cases h
      rename_i i hi
      injection h with h; subst h
      obtain ⟨i', o, e, -⟩ := asP_some hf
      exact loadVar_ld hv ⟨i', o, e⟩ (snd_ldG P hag hi hs.hr hv hf)
theorem resN_snd {P : Program} {G : Ctx} {N : Nat} {T : TS} {nx : Pos} {bs : TB} {a : Act} {w : World} (hs : St G ρ N T nx bs a w) : ∀ {rs : List ResultVar} {fs : List (TS → TB → Option V)} {vs : List V}, resN (tiOf P) G rs = some fs → evR fs T bs = some vs →
    ∃ ys, (rs.mapM (rv1 a.tmps)).run P w = .ok ys w ∧ VRs ρ vs ys
  | [], fs, vs, h, he => by
    injection h with h; subst h
    injection he with he; subst he
    exact ⟨[], by simp, by simp [VRs]⟩
  | r :: rs, fs, vs, h, he => by
    unfold resN at h
    split at h
    case h_2 => cases h
    rename_i f fs' h1 h2
    injection h with h; subst h
    have he : (Option.casesOn (motive := fun _ => Option (List V)) (f T bs) none fun v => Option.casesOn (motive := fun _ => Option (List V)) (evR fs' T bs) none fun vs => some (v :: vs)) = some vs := he
    cases hf : f T bs with
    | none => rw [hf] at he; cases he
    | some v =>
      rw [hf] at he
      cases hr : evR fs' T bs with
      | none => simp only [hr] at he; cases he
      | some vs' =>
        simp only [hr] at he
        injection he with he; subst he
        obtain ⟨y, k1, k2⟩ := res1_snd hs h1 hf
        obtain ⟨ys, k3, k4⟩ := resN_snd hs h2 hr
        refine ⟨y :: ys, ?_, by simp only [VRs]; exact ⟨k2, k4⟩⟩
        rw [List.mapM_cons, Sem.run_bind, k1, Result.andThen_ok, Sem.run_bind, k3, Result.andThen_ok]
        rfl
theorem results_snd {P : Program} {G : Ctx} {N : Nat} {T : TS} {nx : Pos} {bs : TB} {a : Act} {w : World} (hs : St G ρ N T nx bs a w) {fn : Func} {fs : List (TS → TB → Option V)} {vs : List V} (h : resN (tiOf P) G fn.results.toList = some fs) (he : evR fs T bs = some vs) :
    ∃ y, (results fn a.tmps).run P w = .ok y w ∧ VR ρ (packV vs) y := by
  obtain ⟨ys, k1, k2⟩ := resN_snd hs h he
  refine ⟨if h : ys.toArray.size = 1 then ys.toArray[0] else .tuple ys.toArray, ?_, ?_⟩
  · rw [results_eq, Array.mapM_eq_mapM_toList, Sem.run_bind]
    have e : (List.toArray <$> fn.results.toList.mapM (rv1 a.tmps)).run P w = .ok ys.toArray w := by
      rw [map_eq_pure_bind, Sem.run_bind, k1, Result.andThen_ok]; rfl
    rw [e, Result.andThen_ok]
    rfl
  · cases vs with
    | nil => cases ys with
      | nil => show VR ρ (.t []) (.tuple #[]); unfold VR; simp [VRs]
      | cons _ _ => simp [VRs] at k2
    | cons v r => cases ys with
      | nil => simp [VRs] at k2
      | cons y ys =>
        simp only [VRs] at k2
        cases r with
        | nil => cases ys with
          | nil => exact k2.1
          | cons _ _ => simp [VRs] at k2
        | cons v2 r => cases ys with
          | nil => simp [VRs] at k2
          | cons y2 ys =>
            show VR ρ (.t (v :: v2 :: r)) (if h : (y :: y2 :: ys).toArray.size = 1 then _ else .tuple (y :: y2 :: ys).toArray)
            rw [dif_neg (by simp)]
            exact VR_t (by simp only [VRs]; exact k2)

def FnS (P : Program) (G : Ctx) (f : FuncId) (g : FN) : Prop :=
  ∀ F, CallSnd P G F → ∀ (ρ : Rho) (as : List V) (xs : Array Value) (nx nx' : Pos) (bs bs' : TB) (v : V) (w : World), GR G ρ → VRs ρ as xs.toList → HR ρ nx bs w → g F as nx bs = .mk v nx' bs' →
    (callFunc f xs).run P w = .ok (.enter f xs) w ∧ Calls P f xs w fun e w' => ∃ y ρ', e = .returned y ∧ VR ρ' v y ∧ HR ρ' nx' bs' w' ∧ Ext ρ nx bs w ρ' nx' bs' w'
theorem compFn_snd {P : Program} (hmix : P.follows .mixedOrders = true) {XT : Nat → Option XK} (hX : ∀ f k, XT f = some k → XOk P f k) {G : Ctx} {f : FuncId} {fn : Func} (hf : P.funcs[f]? = some fn) (hnm : (fn.name == "runtime.NumGoroutine") = false) {g : FN} (h : compFn (tiOf P) XT G fn = some g) : FnS P G f g := by
  unfold compFn at h
  split at h
  case h_2 => cases h
  rename_i c hb
  split at h
  case h_2 => cases h
  rename_i fs hr
  injection h with h; subst h
  have hcs := comp_snd hmix hX (G := G) (N := fn.ntmps) c
  generalize comp (tiOf P) XT G fn.ntmps c = cc at hcs
  intro F hF ρ as xs nx nx' bs bs' v w hg hv hh hk
  refine ⟨?_, calls_of_wp hf hb ?_⟩
  · have h1 : fn.name ≠ "runtime.NumGoroutine" := by simpa using hnm
    simp [callFunc, hf, h1, hb]
  · have hk : Bool.rec (motive := fun _ => RC) .fail (RR.rec (motive := fun _ => RC) .fail (fun e T nx bs => EX.rec (motive := fun _ => RC) (outC fs T nx bs) (fun _ => .fail) (outC fs T nx bs) e) (cc.run F (argT as) nx bs)) (Nat.ble (lenV as) fn.ntmps) = .mk v nx' bs' := hk
    cases hle : Nat.ble (lenV as) fn.ntmps with
    | false => rw [hle] at hk; cases hk
    | true =>
      rw [hle] at hk
      have hk : RR.rec (motive := fun _ => RC) .fail (fun e T nx bs => EX.rec (motive := fun _ => RC) (outC fs T nx bs) (fun _ => .fail) (outC fs T nx bs) e) (cc.run F (argT as) nx bs) = .mk v nx' bs' := hk
      have hle := Nat.le_of_ble_eq_true hle
      rw [lenV_eq] at hle
      have hlen : as.length = xs.size := by simpa using hv.length
      have hs : St G ρ fn.ntmps (argT as) nx bs { tmps := xs ++ Array.replicate (fn.ntmps - xs.size) undef, defers := [] } w := by
        refine ⟨rfl, ⟨fun t d e => by simp [Env.look] at e, fun t _ _ => ?_, hg⟩, hh, by simp; omega, rfl⟩
        rw [argT_get]
        by_cases ht : t < as.length
        · rw [List.getElem?_eq_getElem ht]
          obtain ⟨x, hx, hxv⟩ := hv.get t as[t] (List.getElem?_eq_getElem ht)
          have e : (xs ++ Array.replicate (fn.ntmps - xs.size) undef).getD t undef = x := by
            rw [Array.getD_eq_getD_getElem?, Array.getElem?_append_left (by omega)]
            have : xs[t]? = some x := by simpa using hx
            rw [this]; rfl
          show VR ρ as[t] ((xs ++ Array.replicate (fn.ntmps - xs.size) undef).getD t undef)
          rw [e]; exact hxv
        · rw [List.getElem?_eq_none (by omega)]
          exact VR_u ρ _
      cases hcc : cc.run F (argT as) nx bs with
      | fail => rw [hcc] at hk; cases hk
      | go e T1 nx1 bs1 =>
        rw [hcc] at hk
        refine hcs F hF ρ (argT as) T1 _ nx nx1 bs bs1 w e hs hcc _ fun ρ1 a1 w1 q1 q2 => ?_
        have fin : outC fs T1 nx1 bs1 = .mk v nx' bs' → a1.defers = [] ∧ ∃ y, (results fn a1.tmps).run P w1 = .ok y w1 ∧ ∃ z ρ', Ending.returned y = .returned z ∧ VR ρ' v z ∧ HR ρ' nx' bs' w1 ∧ Ext ρ nx bs w ρ' nx' bs' w1 := fun ho => by
          unfold outC at ho
          cases hev : evR fs T1 bs1 with
          | none => rw [hev] at ho; cases ho
          | some vs =>
            rw [hev] at ho
            injection ho with e1 e2 e3
            subst e1; subst e2; subst e3
            obtain ⟨y, h1, h2⟩ := results_snd q1 hr hev
            exact ⟨q1.defers, y, h1, y, ρ1, rfl, h2, q1.hr, q2⟩
        cases e with
        | n => exact fin hk
        | x id => cases hk
        | r => exact fin hk

/-! ### the table -/
inductive TF where
  | e
  | n (v : Option FN) (t0 t1 t2 t3 t4 t5 t6 t7 : TF)

noncomputable def TF.get (t : TF) (p : Pos) : Option FN :=
  Pos.rec (motive := fun _ => TF → Option FN) (fun t => TF.casesOn t none (fun v _ _ _ _ _ _ _ _ => v))
    (fun _ ih t => TF.casesOn t none (fun _ t0 _ _ _ _ _ _ _ => ih t0))
    (fun _ ih t => TF.casesOn t none (fun _ _ t1 _ _ _ _ _ _ => ih t1))
    (fun _ ih t => TF.casesOn t none (fun _ _ _ t2 _ _ _ _ _ => ih t2))
    (fun _ ih t => TF.casesOn t none (fun _ _ _ _ t3 _ _ _ _ => ih t3))
    (fun _ ih t => TF.casesOn t none (fun _ _ _ _ _ t4 _ _ _ => ih t4))
    (fun _ ih t => TF.casesOn t none (fun _ _ _ _ _ _ t5 _ _ => ih t5))
    (fun _ ih t => TF.casesOn t none (fun _ _ _ _ _ _ _ t6 _ => ih t6))
    (fun _ ih t => TF.casesOn t none (fun _ _ _ _ _ _ _ _ t7 => ih t7)) p t
noncomputable def TF.set (p : Pos) (v : Option FN) (t : TF) : TF :=
  Pos.rec (motive := fun _ => TF → TF) (fun t => TF.casesOn t (.n v .e .e .e .e .e .e .e .e) (fun _ t0 t1 t2 t3 t4 t5 t6 t7 => .n v t0 t1 t2 t3 t4 t5 t6 t7))
    (fun _ ih t => TF.casesOn t (.n none (ih .e) .e .e .e .e .e .e .e) (fun x t0 t1 t2 t3 t4 t5 t6 t7 => .n x (ih t0) t1 t2 t3 t4 t5 t6 t7))
    (fun _ ih t => TF.casesOn t (.n none .e (ih .e) .e .e .e .e .e .e) (fun x t0 t1 t2 t3 t4 t5 t6 t7 => .n x t0 (ih t1) t2 t3 t4 t5 t6 t7))
    (fun _ ih t => TF.casesOn t (.n none .e .e (ih .e) .e .e .e .e .e) (fun x t0 t1 t2 t3 t4 t5 t6 t7 => .n x t0 t1 (ih t2) t3 t4 t5 t6 t7))
    (fun _ ih t => TF.casesOn t (.n none .e .e .e (ih .e) .e .e .e .e) (fun x t0 t1 t2 t3 t4 t5 t6 t7 => .n x t0 t1 t2 (ih t3) t4 t5 t6 t7))
    (fun _ ih t => TF.casesOn t (.n none .e .e .e .e (ih .e) .e .e .e) (fun x t0 t1 t2 t3 t4 t5 t6 t7 => .n x t0 t1 t2 t3 (ih t4) t5 t6 t7))
    (fun _ ih t => TF.casesOn t (.n none .e .e .e .e .e (ih .e) .e .e) (fun x t0 t1 t2 t3 t4 t5 t6 t7 => .n x t0 t1 t2 t3 t4 (ih t5) t6 t7))
    (fun _ ih t => TF.casesOn t (.n none .e .e .e .e .e .e (ih .e) .e) (fun x t0 t1 t2 t3 t4 t5 t6 t7 => .n x t0 t1 t2 t3 t4 t5 (ih t6) t7))
    (fun _ ih t => TF.casesOn t (.n none .e .e .e .e .e .e .e (ih .e)) (fun x t0 t1 t2 t3 t4 t5 t6 t7 => .n x t0 t1 t2 t3 t4 t5 t6 (ih t7))) p t
theorem TF.get_e (p : Pos) : TF.e.get p = none := by cases p <;> rfl
theorem TF.get_set_same (p : Pos) (v : Option FN) : ∀ t : TF, (t.set p v).get p = v := by
  induction p with
  | h => intro t; cases t <;> rfl
  | c0 p ih => intro t; cases t <;> exact ih _
  | c1 p ih => intro t; cases t <;> exact ih _
  | c2 p ih => intro t; cases t <;> exact ih _
  | c3 p ih => intro t; cases t <;> exact ih _
  | c4 p ih => intro t; cases t <;> exact ih _
  | c5 p ih => intro t; cases t <;> exact ih _
  | c6 p ih => intro t; cases t <;> exact ih _
  | c7 p ih => intro t; cases t <;> exact ih _
theorem TF.get_set_ne {p q : Pos} (v : Option FN) (hpq : p ≠ q) : ∀ t : TF, (t.set p v).get q = t.get q := by
  induction p generalizing q with
  | h => intro t; cases q with
    | h => exact absurd rfl hpq
    | c0 q => cases t with | e => exact TF.get_e q | n => rfl
    | c1 q => cases t with | e => exact TF.get_e q | n => rfl
    | c2 q => cases t with | e => exact TF.get_e q | n => rfl
    | c3 q => cases t with | e => exact TF.get_e q | n => rfl
    | c4 q => cases t with | e => exact TF.get_e q | n => rfl
    | c5 q => cases t with | e => exact TF.get_e q | n => rfl
    | c6 q => cases t with | e => exact TF.get_e q | n => rfl
    | c7 q => cases t with | e => exact TF.get_e q | n => rfl
  | c0 p ih => intro t; cases q with
    | h => cases t <;> rfl
    | c0 q => cases t with
      | e => exact (ih (fun h => hpq (by rw [h])) .e).trans (TF.get_e q)
      | n x t0 t1 t2 t3 t4 t5 t6 t7 => exact ih (fun h => hpq (by rw [h])) t0
    | c1 q => cases t with | e => exact TF.get_e q | n => rfl
    | c2 q => cases t with | e => exact TF.get_e q | n => rfl
    | c3 q => cases t with | e => exact TF.get_e q | n => rfl
    | c4 q => cases t with | e => exact TF.get_e q | n => rfl
    | c5 q => cases t with | e => exact TF.get_e q | n => rfl
    | c6 q => cases t with | e => exact TF.get_e q | n => rfl
    | c7 q => cases t with | e => exact TF.get_e q | n => rfl
  | c1 p ih => intro t; cases q with
    | h => cases t <;> rfl
    | c0 q => cases t with | e => exact TF.get_e q | n => rfl
    | c1 q => cases t with
      | e => exact (ih (fun h => hpq (by rw [h])) .e).trans (TF.get_e q)
      | n x t0 t1 t2 t3 t4 t5 t6 t7 => exact ih (fun h => hpq (by rw [h])) t1
    | c2 q => cases t with | e => exact TF.get_e q | n => rfl
    | c3 q => cases t with | e => exact TF.get_e q | n => rfl
    | c4 q => cases t with | e => exact TF.get_e q | n => rfl
    | c5 q => cases t with | e => exact TF.get_e q | n => rfl
    | c6 q => cases t with | e => exact TF.get_e q | n => rfl
    | c7 q => cases t with | e => exact TF.get_e q | n => rfl
  | c2 p ih => intro t; cases q with
    | h => cases t <;> rfl
    | c0 q => cases t with | e => exact TF.get_e q | n => rfl
    | c1 q => cases t with | e => exact TF.get_e q | n => rfl
    | c2 q => cases t with
      | e => exact (ih (fun h => hpq (by rw [h])) .e).trans (TF.get_e q)
      | n x t0 t1 t2 t3 t4 t5 t6 t7 => exact ih (fun h => hpq (by rw [h])) t2
    | c3 q => cases t with | e => exact TF.get_e q | n => rfl
    | c4 q => cases t with | e => exact TF.get_e q | n => rfl
    | c5 q => cases t with | e => exact TF.get_e q | n => rfl
    | c6 q => cases t with | e => exact TF.get_e q | n => rfl
    | c7 q => cases t with | e => exact TF.get_e q | n => rfl
  | c3 p ih => intro t; cases q with
    | h => cases t <;> rfl
    | c0 q => cases t with | e => exact TF.get_e q | n => rfl
    | c1 q => cases t with | e => exact TF.get_e q | n => rfl
    | c2 q => cases t with | e => exact TF.get_e q | n => rfl
    | c3 q => cases t with
      | e => exact (ih (fun h => hpq (by rw [h])) .e).trans (TF.get_e q)
      | n x t0 t1 t2 t3 t4 t5 t6 t7 => exact ih (fun h => hpq (by rw [h])) t3
    | c4 q => cases t with | e => exact TF.get_e q | n => rfl
    | c5 q => cases t with | e => exact TF.get_e q | n => rfl
    | c6 q => cases t with | e => exact TF.get_e q | n => rfl
    | c7 q => cases t with | e => exact TF.get_e q | n => rfl
  | c4 p ih => intro t; cases q with
    | h => cases t <;> rfl
    | c0 q => cases t with | e => exact TF.get_e q | n => rfl
    | c1 q => cases t with | e => exact TF.get_e q | n => rfl
    | c2 q => cases t with | e => exact TF.get_e q | n => rfl
    | c3 q => cases t with | e => exact TF.get_e q | n => rfl
    | c4 q => cases t with
      | e => exact (ih (fun h => hpq (by rw [h])) .e).trans (TF.get_e q)
      | n x t0 t1 t2 t3 t4 t5 t6 t7 => exact ih (fun h => hpq (by rw [h])) t4
    | c5 q => cases t with | e => exact TF.get_e q | n => rfl
    | c6 q => cases t with | e => exact TF.get_e q | n => rfl
    | c7 q => cases t with | e => exact TF.get_e q | n => rfl
  | c5 p ih => intro t; cases q with
    | h => cases t <;> rfl
    | c0 q => cases t with | e => exact TF.get_e q | n => rfl
    | c1 q => cases t with | e => exact TF.get_e q | n => rfl
    | c2 q => cases t with | e => exact TF.get_e q | n => rfl
    | c3 q => cases t with | e => exact TF.get_e q | n => rfl
    | c4 q => cases t with | e => exact TF.get_e q | n => rfl
    | c5 q => cases t with
      | e => exact (ih (fun h => hpq (by rw [h])) .e).trans (TF.get_e q)
      | n x t0 t1 t2 t3 t4 t5 t6 t7 => exact ih (fun h => hpq (by rw [h])) t5
    | c6 q => cases t with | e => exact TF.get_e q | n => rfl
    | c7 q => cases t with | e => exact TF.get_e q | n => rfl
  | c6 p ih => intro t; cases q with
    | h => cases t <;> rfl
    | c0 q => cases t with | e => exact TF.get_e q | n => rfl
    | c1 q => cases t with | e => exact TF.get_e q | n => rfl
    | c2 q => cases t with | e => exact TF.get_e q | n => rfl
    | c3 q => cases t with | e => exact TF.get_e q | n => rfl
    | c4 q => cases t with | e => exact TF.get_e q | n => rfl
    | c5 q => cases t with | e => exact TF.get_e q | n => rfl
    | c6 q => cases t with
      | e => exact (ih (fun h => hpq (by rw [h])) .e).trans (TF.get_e q)
      | n x t0 t1 t2 t3 t4 t5 t6 t7 => exact ih (fun h => hpq (by rw [h])) t6
    | c7 q => cases t with | e => exact TF.get_e q | n => rfl
  | c7 p ih => intro t; cases q with
    | h => cases t <;> rfl
    | c0 q => cases t with | e => exact TF.get_e q | n => rfl
    | c1 q => cases t with | e => exact TF.get_e q | n => rfl
    | c2 q => cases t with | e => exact TF.get_e q | n => rfl
    | c3 q => cases t with | e => exact TF.get_e q | n => rfl
    | c4 q => cases t with | e => exact TF.get_e q | n => rfl
    | c5 q => cases t with | e => exact TF.get_e q | n => rfl
    | c6 q => cases t with | e => exact TF.get_e q | n => rfl
    | c7 q => cases t with
      | e => exact (ih (fun h => hpq (by rw [h])) .e).trans (TF.get_e q)
      | n x t0 t1 t2 t3 t4 t5 t6 t7 => exact ih (fun h => hpq (by rw [h])) t7
/-- A function's number, its text, its kept slots (as bits). -/
structure FI where
  f : Nat
  fn : Func
  k : Nat
  a : Bool
def keptB (k : Nat) (t : Nat) : Bool := Nat.beq (Nat.land (Nat.shiftRight k t) 1) 1
noncomputable def tabOf (Y : TI) (XT : Nat → Option XK) (gl : Nat → Option Pos) (tb : ATab) : List FI → TF
  | [] => .e
  | x :: l => (tabOf Y XT gl tb l).set (pos x.f) (compFn Y XT ⟨keptB x.k, gl, x.a, tb⟩ x.fn)
theorem tabOf_get {P : Program} {XT : Nat → Option XK} {gl : Nat → Option Pos} {tb : ATab} {p : Pos} {g : FN} : ∀ {l : List FI}, (tabOf (tiOf P) XT gl tb l).get p = some g → ∃ x ∈ l, p = pos x.f ∧ compFn (tiOf P) XT ⟨keptB x.k, gl, x.a, tb⟩ x.fn = some g
  | [], h => by rw [show tabOf (tiOf P) XT gl tb [] = .e from rfl, TF.get_e] at h; cases h
  | x :: l, h => by
    have e : tabOf (tiOf P) XT gl tb (x :: l) = (tabOf (tiOf P) XT gl tb l).set (pos x.f) (compFn (tiOf P) XT ⟨keptB x.k, gl, x.a, tb⟩ x.fn) := rfl
    rw [e] at h
    by_cases hp : pos x.f = p
    · subst hp
      rw [TF.get_set_same] at h
      exact ⟨x, List.mem_cons_self, rfl, h⟩
    · rw [TF.get_set_ne _ hp] at h
      obtain ⟨y, h1, h2⟩ := tabOf_get h
      exact ⟨y, List.mem_cons_of_mem _ h1, h2⟩
noncomputable def callN (t : TF) (fuel : Nat) : CallF := Nat.rec (motive := fun _ => CallF) (fun _ _ _ _ => .fail) (fun _ ih p as nx bs => Option.casesOn (t.get p) .fail fun g => g ih as nx bs) fuel
theorem callT_snd {P : Program} {G : Ctx} {t : TF} (h : ∀ f g, t.get (pos f) = some g → FnS P G f g) : ∀ fuel, CallSnd P G (callN t fuel)
  | 0 => by intro ρ f as xs nx nx' bs bs' v w _ _ _ hk; cases hk
  | m + 1 => by
    have ih := callT_snd h m
    intro ρ f as xs nx nx' bs bs' v w hg hv hh hk
    have hk : (Option.casesOn (motive := fun _ => RC) (t.get (pos f)) .fail fun g => g (callN t m) as nx bs) = .mk v nx' bs' := hk
    cases ht : t.get (pos f) with
    | none => rw [ht] at hk; cases hk
    | some g =>
      rw [ht] at hk
      exact h f g ht _ ih ρ as xs nx nx' bs bs' v w hg hv hh hk
theorem tabOf_snd {P : Program} (hmix : P.follows .mixedOrders = true) {XT : Nat → Option XK} (hX : ∀ f k, XT f = some k → XOk P f k) {G : Ctx} {l : List FI} (hl : ∀ x ∈ l, P.funcs[x.f]? = some x.fn ∧ (x.fn.name == "runtime.NumGoroutine") = false) (f : FuncId) (g : FN)
    (ht : (tabOf (tiOf P) XT G.glob G.tab l).get (pos f) = some g) : FnS P G f g := by
  obtain ⟨x, hx, hp, hc⟩ := tabOf_get ht
  have := pos_inj hp
  subst this
  intro F hF ρ as xs nx nx' bs bs' v w hg hv hh hk
  exact compFn_snd hmix hX (hl x hx).1 (hl x hx).2 hc _ (hF.cast rfl rfl) ρ as xs nx nx' bs bs' v w (hg.cast rfl rfl) hv hh hk
theorem callN_snd {P : Program} (hmix : P.follows .mixedOrders = true) {XT : Nat → Option XK} (hX : ∀ f k, XT f = some k → XOk P f k) {G : Ctx} {l : List FI} (hl : ∀ x ∈ l, P.funcs[x.f]? = some x.fn ∧ (x.fn.name == "runtime.NumGoroutine") = false) : ∀ fuel, CallSnd P G (callN (tabOf (tiOf P) XT G.glob G.tab l) fuel) :=
  callT_snd (tabOf_snd hmix hX hl)

/-! ### functions of one's own in the place of compiled ones -/
/-- The first, and where it has no answer the second. -/
noncomputable def orF (s g : FN) : FN := fun F as nx bs => RC.rec (motive := fun _ => RC) (g F as nx bs) (fun v nx bs => .mk v nx bs) (s F as nx bs)
theorem orF_snd {P : Program} {G : Ctx} {f : FuncId} {s g : FN} (hs : FnS P G f s) (hg : FnS P G f g) : FnS P G f (orF s g) := by
  intro F hF ρ as xs nx nx' bs bs' v w h1 h2 h3 hk
  have hk : RC.rec (motive := fun _ => RC) (g F as nx bs) (fun v nx bs => .mk v nx bs) (s F as nx bs) = .mk v nx' bs' := hk
  cases e : s F as nx bs with
  | fail => rw [e] at hk; exact hg F hF ρ as xs nx nx' bs bs' v w h1 h2 h3 hk
  | mk v0 nx0 bs0 =>
    rw [e] at hk
    injection hk with e1 e2 e3
    subst e1; subst e2; subst e3
    exact hs F hF ρ as xs nx _ bs _ _ w h1 h2 h3 e
noncomputable def orT (s : FN) (g : Option FN) : FN := match g with
  | some g => orF s g
  | none => s
noncomputable def tabW (ns : List (Nat × FN)) (t : TF) : TF := match ns with
  | [] => t
  | x :: ns => (tabW ns t).set (pos x.1) (some (orT x.2 ((tabW ns t).get (pos x.1))))
inductive AllS (P : Program) (G : Ctx) : List (Nat × FN) → Prop
  | nil : AllS P G []
  | cons {f : Nat} {s : FN} {l : List (Nat × FN)} (h : FnS P G f s) (r : AllS P G l) : AllS P G ((f, s) :: l)
theorem tabW_snd {P : Program} {G : Ctx} {t : TF} (ht : ∀ f g, t.get (pos f) = some g → FnS P G f g) : ∀ {ns : List (Nat × FN)}, AllS P G ns → ∀ f g, (tabW ns t).get (pos f) = some g → FnS P G f g
  | [], _, f, g, h => ht f g h
  | x :: ns, hs, f, g, h => by
    obtain ⟨f0, s0⟩ := x
    cases hs with
    | cons h0 r =>
      have ih := tabW_snd ht r
      have e : tabW ((f0, s0) :: ns) t = (tabW ns t).set (pos f0) (some (orT s0 ((tabW ns t).get (pos f0)))) := rfl
      rw [e] at h
      by_cases hp : pos f0 = pos f
      · have := pos_inj hp
        subst this
        rw [TF.get_set_same] at h
        injection h with h; subst h
        unfold orT
        split
        · rename_i g' hg'
          exact orF_snd h0 (ih _ _ hg')
        · exact h0
      · rw [TF.get_set_ne _ hp] at h
        exact ih f g h

end Go.Proofs.YtmbnogellhoheaaGreatDoor.Ev

/- Facts on types, looked up fast. -/
namespace Go.Proofs.YtmbnogellhoheaaGreatDoor.Ev
open Go

inductive TT where
  | e
  | n (l : TT) (v : Option TypeInfo) (r : TT)
noncomputable def TT.get (t : TT) : Nat → Option TypeInfo :=
  TT.rec (motive := fun _ => Nat → Option TypeInfo) (fun _ => none)
    (fun _ v _ gl gr m => Bool.rec (Bool.rec (gr (Nat.div m 2)) (gl (Nat.div m 2)) (Nat.beq (Nat.mod m 2) 0)) v (Nat.beq m 1)) t
noncomputable def TT.put (v : TypeInfo) (fuel : Nat) : TT → Nat → TT :=
  Nat.rec (motive := fun _ => TT → Nat → TT) (fun t _ => t)
    (fun _ ih t m => TT.casesOn t
      (Bool.rec (Bool.rec (.n .e none (ih .e (Nat.div m 2))) (.n (ih .e (Nat.div m 2)) none .e) (Nat.beq (Nat.mod m 2) 0)) (.n .e (some v) .e) (Nat.beq m 1))
      (fun l x r => Bool.rec (Bool.rec (.n l x (ih r (Nat.div m 2))) (.n (ih l (Nat.div m 2)) x r) (Nat.beq (Nat.mod m 2) 0)) (.n l (some v) r) (Nat.beq m 1))) fuel
theorem TT.get_n (l r : TT) (x : Option TypeInfo) (m : Nat) : (TT.n l x r).get m = if m = 1 then x else if m % 2 = 0 then l.get (m / 2) else r.get (m / 2) := by
  change Bool.rec (motive := fun _ => Option TypeInfo) (Bool.rec (motive := fun _ => Option TypeInfo) (r.get (Nat.div m 2)) (l.get (Nat.div m 2)) (Nat.beq (Nat.mod m 2) 0)) x (Nat.beq m 1) = _
  by_cases h1 : m = 1
  · subst h1; rfl
  · rw [if_neg h1, beq_no h1]
    by_cases h2 : m % 2 = 0
    · rw [if_pos h2, show Nat.beq (Nat.mod m 2) 0 = true from beq_yes h2]; rfl
    · rw [if_neg h2, show Nat.beq (Nat.mod m 2) 0 = false from beq_no h2]; rfl
def TT.parts : TT → TT × Option TypeInfo × TT
  | .e => (.e, none, .e)
  | .n l x r => (l, x, r)
theorem TT.put_s (v : TypeInfo) (f m : Nat) (t : TT) : TT.put v (f + 1) t m = if m = 1 then .n t.parts.1 (some v) t.parts.2.2 else if m % 2 = 0 then .n (TT.put v f t.parts.1 (m / 2)) t.parts.2.1 t.parts.2.2 else .n t.parts.1 t.parts.2.1 (TT.put v f t.parts.2.2 (m / 2)) := by
  cases t with
  | e =>
    change Bool.rec (motive := fun _ => TT) (Bool.rec (motive := fun _ => TT) (TT.n .e none (TT.put v f .e (Nat.div m 2))) (TT.n (TT.put v f .e (Nat.div m 2)) none .e) (Nat.beq (Nat.mod m 2) 0)) (.n .e (some v) .e) (Nat.beq m 1) = _
    by_cases h1 : m = 1
    · subst h1; rfl
    · rw [if_neg h1, beq_no h1]
      by_cases h2 : m % 2 = 0
      · rw [if_pos h2, show Nat.beq (Nat.mod m 2) 0 = true from beq_yes h2]; rfl
      · rw [if_neg h2, show Nat.beq (Nat.mod m 2) 0 = false from beq_no h2]; rfl
  | n l x r =>
    change Bool.rec (motive := fun _ => TT) (Bool.rec (motive := fun _ => TT) (TT.n l x (TT.put v f r (Nat.div m 2))) (TT.n (TT.put v f l (Nat.div m 2)) x r) (Nat.beq (Nat.mod m 2) 0)) (.n l (some v) r) (Nat.beq m 1) = _
    by_cases h1 : m = 1
    · subst h1; rfl
    · rw [if_neg h1, beq_no h1]
      by_cases h2 : m % 2 = 0
      · rw [if_pos h2, show Nat.beq (Nat.mod m 2) 0 = true from beq_yes h2]; rfl
      · rw [if_neg h2, show Nat.beq (Nat.mod m 2) 0 = false from beq_no h2]; rfl
theorem TT.get_parts (t : TT) (m : Nat) : t.get m = if m = 1 then t.parts.2.1 else if m % 2 = 0 then t.parts.1.get (m / 2) else t.parts.2.2.get (m / 2) := by
  cases t with
  | e =>
    have e0 : ∀ k, TT.e.get k = none := fun _ => rfl
    simp only [TT.parts, e0, ite_self]
  | n l x r => exact TT.get_n l r x m
theorem TT.get_put (v x : TypeInfo) : ∀ (f m m' : Nat) (t : TT), (TT.put v f t m).get m' = some x → (m = m' ∧ x = v) ∨ t.get m' = some x
  | 0, _, _, _, h => .inr h
  | f + 1, m, m', t, h => by
    rw [TT.put_s] at h
    rw [TT.get_parts t m']
    by_cases h1 : m = 1
    · rw [if_pos h1, TT.get_n] at h
      by_cases h2 : m' = 1
      · rw [if_pos h2] at h; injection h with h; exact .inl ⟨by omega, h.symm⟩
      · rw [if_neg h2] at h ⊢; exact .inr h
    · rw [if_neg h1] at h
      by_cases h2 : m % 2 = 0
      · rw [if_pos h2, TT.get_n] at h
        by_cases h3 : m' = 1
        · rw [if_pos h3] at h ⊢; exact .inr h
        · rw [if_neg h3] at h ⊢
          by_cases h4 : m' % 2 = 0
          · rw [if_pos h4] at h ⊢
            rcases TT.get_put v x f _ _ _ h with ⟨e1, e2⟩ | h
            · exact .inl ⟨by omega, e2⟩
            · exact .inr h
          · rw [if_neg h4] at h ⊢; exact .inr h
      · rw [if_neg h2, TT.get_n] at h
        by_cases h3 : m' = 1
        · rw [if_pos h3] at h ⊢; exact .inr h
        · rw [if_neg h3] at h ⊢
          by_cases h4 : m' % 2 = 0
          · rw [if_pos h4] at h ⊢; exact .inr h
          · rw [if_neg h4] at h ⊢
            rcases TT.get_put v x f _ _ _ h with ⟨e1, e2⟩ | h
            · exact .inl ⟨by omega, e2⟩
            · exact .inr h
noncomputable def ttOf : List (Nat × TypeInfo) → TT
  | [] => .e
  | x :: l => TT.put x.2 16 (ttOf l) (x.1 + 1)
theorem ttOf_get {t : Nat} {i : TypeInfo} : ∀ {l : List (Nat × TypeInfo)}, (ttOf l).get (t + 1) = some i → (t, i) ∈ l
  | [], h => by cases h
  | x :: l, h => by
    rcases TT.get_put _ _ _ _ _ _ h with ⟨e1, e2⟩ | h
    · have : x = (t, i) := by
        obtain ⟨a, b⟩ := x
        simp only at e1 e2
        rw [e2, show a = t by omega]
      rw [this]; exact List.mem_cons_self
    · exact List.mem_cons_of_mem _ (ttOf_get h)
/-- Numbers of types that a list has. -/
def numIn (l : List Nat) (t : Nat) : Bool := l.any (Nat.beq t)
noncomputable def fastInf (P : Program) (tr : TT) (t : TypeId) : Option TypeInfo := match tr.get (t + 1) with
  | some i => some i
  | none => P.info? t
noncomputable def fastTI (P : Program) (tr : TT) (sq : List Nat) : TI where
  und t := match ((fastInf P tr t).map (·.desc) : Option TypeDesc) with
    | some (.named _ u) => (fastInf P tr u).map (·.desc)
    | d => d
  inf := fastInf P tr
  sih t := bif numIn sq t then false else P.stoodInHeld t
  egt t := bif numIn sq t then false else P.eqGuardType P.depth t
  cof t := ((fastInf P tr t).map (·.size)).getD 0
theorem fastInf_eq {P : Program} {l : List (Nat × TypeInfo)} (h : ∀ x ∈ l, P.info? x.1 = some x.2) : fastInf P (ttOf l) = P.info? := by
  funext t
  unfold fastInf
  split
  · rename_i i hi
    exact (h _ (ttOf_get hi)).symm
  · rfl
theorem fastTI_eq {P : Program} {l : List (Nat × TypeInfo)} {sq : List Nat} (h : ∀ x ∈ l, P.info? x.1 = some x.2) (hs : ∀ t ∈ sq, P.stoodInHeld t = false ∧ P.eqGuardType P.depth t = false) : fastTI P (ttOf l) sq = tiOf P := by
  have hi := fastInf_eq h
  have hsq : ∀ t, numIn sq t = true → P.stoodInHeld t = false ∧ P.eqGuardType P.depth t = false := fun t ht => by
    unfold numIn at ht
    obtain ⟨u, h1, h2⟩ := List.any_eq_true.1 ht
    rw [Nat.eq_of_beq_eq_true h2]; exact hs u h1
  unfold fastTI tiOf
  rw [hi]
  congr 1
  · funext t
    unfold Program.underlying
    cases hp : P.info? t with
    | none => rfl
    | some i =>
      obtain ⟨desc, _⟩ := i
      cases desc <;> rfl
  · funext t
    cases hn : numIn sq t with
    | true => rw [(hsq t hn).1]; rfl
    | false => rfl
  · funext t
    cases hn : numIn sq t with
    | true => rw [(hsq t hn).2]; rfl
    | false => rfl
/-- A list's facts, one by one. -/
inductive AllI (P : Program) : List (Nat × TypeInfo) → Prop
  | nil : AllI P []
  | cons {t : Nat} {i : TypeInfo} {l : List (Nat × TypeInfo)} (h : P.types[t]? = some i) (r : AllI P l) : AllI P ((t, i) :: l)
theorem AllI.info {P : Program} {l : List (Nat × TypeInfo)} (h : AllI P l) : ∀ x ∈ l, P.info? x.1 = some x.2 := by
  induction h with
  | nil => intro x hx; cases hx
  | cons h r ih =>
    rename_i t i l
    intro x hx
    cases hx with
    | tail _ hx => exact ih x hx
    | head =>
      have hlt : t < P.types.size := by
        rcases Nat.lt_or_ge t P.types.size with hh | hh
        · exact hh
        · rw [Array.getElem?_eq_none hh] at h; cases h
      show P.toTables.info? t = some i
      unfold Tables.info?
      rw [if_pos hlt]; exact h
theorem AllI.app {P : Program} {l m : List (Nat × TypeInfo)} (h : AllI P l) (h' : AllI P m) : AllI P (l ++ m) := by
  induction h with
  | nil => exact h'
  | cons h r ih => exact .cons h ih
inductive AllF (P : Program) : List FI → Prop
  | nil : AllF P []
  | cons {x : FI} {l : List FI} (h : P.funcs[x.f]? = some x.fn) (hn : (x.fn.name == "runtime.NumGoroutine") = false) (r : AllF P l) : AllF P (x :: l)
theorem AllF.get {P : Program} {l : List FI} (h : AllF P l) : ∀ x ∈ l, P.funcs[x.f]? = some x.fn ∧ (x.fn.name == "runtime.NumGoroutine") = false := by
  induction h with
  | nil => intro x hx; cases hx
  | cons h hn r ih =>
    intro x hx
    cases hx with
    | tail _ hx => exact ih x hx
    | head => exact ⟨h, hn⟩
theorem AllF.app {P : Program} {l m : List FI} (h : AllF P l) (h' : AllF P m) : AllF P (l ++ m) := by
  induction h with
  | nil => exact h'
  | cons h hn r ih => exact .cons h hn ih

end Go.Proofs.YtmbnogellhoheaaGreatDoor.Ev
