/- Code, functions and the table of functions compiled. -/
import Derived.Test.YtnhgchnhfdimiaaGreatDoorEvXp
namespace Go.Proofs.YtnhgchnhfdimiaaGreatDoor.Ev
open Go
variable {ρ : Rho}

noncomputable def creg (Y : TI) (XT : Nat → Option XK) (G : Ctx) (N : Nat) (ops : Array Oper) (draw : Bool) : Option (Env × Nat × SB) := match draw with
  | true => dreg Y XT G N ops.toList
  | false => sreg Y XT G N ops ops.toList [] 0
theorem creg_snd {P : Program} (hmix : P.follows .mixedOrders = true) {XT : Nat → Option XK} (hX : ∀ f k, XT f = some k → XOk P f k) {G : Ctx} {N : Nat} {ops : Array Oper} {draw : Bool} {E : Env} {n : Nat} {k : SB} (h : creg (tiOf P) XT G N ops draw = some (E, n, k)) (id : Nat) : RegS P G N (.region id ops draw) E n k := by
  cases draw with
  | true => exact dreg_reg hmix hX h id
  | false =>
    intro F hF ρ T a nx nx' bs bs' w L' hs hk Q hq
    refine wp_region ?_
    have := sreg_snd hX hF ops.toList [] 0 0 E n k rfl h ρ [] L' T a nx nx' bs bs' w hs hk Q hq
    rw [List.range_eq_range']
    simpa using this

/-- Rounds that a loop is let run. -/
def lpF : Nat := 1000000
noncomputable def failC : CB := .mk fun _ _ _ _ => .fail
theorem failC_snd {P : Program} {G : Ctx} {N : Nat} {c : Code} : CCS P G N c failC := by
  intro F hF ρ T T' a nx nx' bs bs' w e hs hk Q hq; cases hk
noncomputable def cFin (G : Ctx) (r : Option (Env × Nat × SB)) : CB := match r with
  | some (E, n, k) => finC (wlist G n E) k
  | none => failC
noncomputable def cTst (G : Ctx) (r : Option (Env × Nat × SB)) (o : Operand) (x y : CB) : CB := match r with
  | some (E, n, k) => match opX G E n o with
    | some f => tstC (wlist G n E) k f x y
    | none => failC
  | none => failC
noncomputable def cCnd (f : Option X) (x y : CB) : CB := match f with
  | some f => cndC f x y
  | none => failC
noncomputable def comp (Y : TI) (XT : Nat → Option XK) (G : Ctx) (N : Nat) : Code → CB
  | .skip => skipC
  | .label _ => skipC
  | .exit id => exitC id
  | .ret => retC
  | .block id b => blkC id (comp Y XT G N b)
  | .loop b => lpC lpF (comp Y XT G N b)
  | .region _ ops draw => cFin G (creg Y XT G N ops draw)
  | .cond o x y => cCnd (opX G [] 0 o) (comp Y XT G N x) (comp Y XT G N y)
  | .seq (.region _ ops draw) (.seq (.cond o x y) z) => seqC (cTst G (creg Y XT G N ops draw) o (comp Y XT G N x) (comp Y XT G N y)) (comp Y XT G N z)
  | .seq (.region _ ops draw) (.cond o x y) => cTst G (creg Y XT G N ops draw) o (comp Y XT G N x) (comp Y XT G N y)
  | .seq x y => seqC (comp Y XT G N x) (comp Y XT G N y)
  | _ => failC
theorem comp_snd {P : Program} (hmix : P.follows .mixedOrders = true) {XT : Nat → Option XK} (hX : ∀ f k, XT f = some k → XOk P f k) {G : Ctx} {N : Nat} (c : Code) : CCS P G N c (comp (tiOf P) XT G N c) := by
  fun_induction comp (tiOf P) XT G N c with
  | case1 => exact skipC_snd fun Q a w => wp_skip
  | case2 => exact skipC_snd fun Q a w => wp_label
  | case3 => exact exitC_snd _
  | case4 => exact retC_snd
  | case5 id b ih => exact blkC_snd id ih
  | case6 b ih => exact lpC_snd lpF ih
  | case7 id ops draw =>
    unfold cFin
    split
    · rename_i E n k hr; exact finC_snd (creg_snd hmix hX hr id)
    · exact failC_snd
  | case8 o x y ihx ihy =>
    unfold cCnd
    split
    · rename_i f hf; exact cndC_snd hf ihx ihy
    · exact failC_snd
  | case9 id ops draw o x y z ihx ihy ihz =>
    unfold cTst
    split
    · rename_i E n k hr
      split
      · rename_i f hf; exact tstS_snd (creg_snd hmix hX hr id) hf ihx ihy ihz
      · intro F hF ρ T T' a nx nx' bs bs' w e hs hk Q hq; cases hk
    · intro F hF ρ T T' a nx nx' bs bs' w e hs hk Q hq; cases hk
  | case10 id ops draw o x y ihx ihy =>
    unfold cTst
    split
    · rename_i E n k hr
      split
      · rename_i f hf; exact tstC_snd (creg_snd hmix hX hr id) hf ihx ihy
      · exact failC_snd
    · exact failC_snd
  | case11 x y h1 h2 ihx ihy => exact seqC_snd ihx ihy
  | case12 => exact failC_snd

/-! ### functions -/
abbrev FN := CallF → List V → Pos → TB → RC
noncomputable def argT (as : List V) : TV := List.rec (motive := fun _ => Pos → TV → TV) (fun _ T => T) (fun v _ ih p T => ih p.inc (T.set p v)) as .h .e
noncomputable def argU (as : List V) (p : Pos) (T : TV) : TV := List.rec (motive := fun _ => Pos → TV → TV) (fun _ T => T) (fun v _ ih p T => ih p.inc (T.set p v)) as p T
theorem argU_get : ∀ (as : List V) (k t : Nat) (T : TV), (argU as (pos k) T).get (pos t) = if k ≤ t ∧ t < k + as.length then (as[t - k]?).getD .u else T.get (pos t)
  | [], k, t, T => by
    rw [if_neg (by simp only [List.length_nil]; omega)]; rfl
  | v :: as, k, t, T => by
    show (argU as (pos k).inc (T.set (pos k) v)).get (pos t) = _
    rw [← pos_succ, argU_get as (k + 1) t]
    by_cases h : k + 1 ≤ t ∧ t < k + 1 + as.length
    · rw [if_pos h, if_pos (by rw [List.length_cons]; omega)]
      have e : t - k = (t - (k + 1)) + 1 := by omega
      rw [e, List.getElem?_cons_succ]
    · rw [if_neg h]
      by_cases e : t = k
      · subst e
        rw [TV.get_set_same, if_pos (by rw [List.length_cons]; omega)]
        simp
      · rw [TV.get_set_ne _ (fun h => e (pos_inj h).symm), if_neg (by rw [List.length_cons]; omega)]
theorem argT_get (as : List V) (t : Nat) : (argT as).get (pos t) = (as[t]?).getD .u := by
  have h := argU_get as 0 t .e
  have e : argT as = argU as (pos 0) .e := rfl
  rw [e, h]
  by_cases hl : t < as.length
  · rw [if_pos (by omega)]; rfl
  · rw [if_neg (by omega), TV.get_e, List.getElem?_eq_none (by omega)]; rfl
noncomputable def res1 (Y : TI) (G : Ctx) : ResultVar → Option (TV → TB → Option V)
  | .tmp t => if G.kept t = true then some fun T _ => some (T.get (pos t)) else none
  | .cell a t => if G.kept a = true then (if scal Y t = true then some fun T bs => ldS bs (T.get (pos a)) else if aggr Y t = true then (match Y.inf t with
    | some i => some fun T bs => ldG i.size bs (T.get (pos a))
    | none => none) else none) else none
noncomputable def resN (Y : TI) (G : Ctx) : List ResultVar → Option (List (TV → TB → Option V))
  | [] => some []
  | r :: rs => match res1 Y G r, resN Y G rs with
    | some f, some fs => some (f :: fs)
    | _, _ => none
noncomputable def evR (fs : List (TV → TB → Option V)) (T : TV) (bs : TB) : Option (List V) := List.rec (motive := fun _ => Option (List V)) (some []) (fun f _ ih => Option.casesOn (f T bs) none fun v => Option.casesOn ih none fun vs => some (v :: vs)) fs
noncomputable def packV (vs : List V) : V := List.casesOn vs (.t []) fun v r => List.casesOn r v fun _ _ => .t vs
noncomputable def outC (fs : List (TV → TB → Option V)) (T : TV) (nx : Pos) (bs : TB) : RC := Option.casesOn (evR fs T bs) .fail fun vs => .mk (packV vs) nx bs
noncomputable def fnC (cc : CB) (fs : List (TV → TB → Option V)) (N : Nat) : FN := fun F as nx bs => Bool.rec .fail (RR.rec (motive := fun _ => RC) .fail (fun e T nx bs => EX.rec (motive := fun _ => RC) (outC fs T nx bs) (fun _ => .fail) (outC fs T nx bs) e) (cc.run F (argT as) nx bs)) (Nat.ble (lenV as) N)
noncomputable def compFn (Y : TI) (XT : Nat → Option XK) (G : Ctx) (fn : Func) : Option FN := match fn.body with
  | some c => match resN Y G fn.results.toList with
    | some fs => some (fnC (comp Y XT G fn.ntmps c) fs fn.ntmps)
    | none => none
  | none => none

theorem loadVar_ld {P : Program} {t : TypeId} {w : World} {v r : V} {x : Value} (hv : VR ρ v x) (hf : ∃ i o, v = .p i o) (h : ∃ y, (Instr.loadAt t x).run P w = .ok y w ∧ VR ρ r y) : ∃ y, (do loadVar t (← asAddr x) : Sem Value).run P w = .ok y w ∧ VR ρ r y := by
  obtain ⟨i, o, rfl⟩ := hf
  obtain ⟨q, hq, rfl⟩ := hv.p
  exact h
def rv1 (tmps : Array Value) : ResultVar → Sem Value
  | .tmp t => pure (tmps.getD t undef)
  | .cell c t => do loadVar t (← asAddr (tmps.getD c undef))
theorem results_eq (fn : Func) (tmps : Array Value) : results fn tmps = (do let vs ← fn.results.mapM (rv1 tmps); pure (if h : vs.size = 1 then vs[0] else .tuple vs)) := rfl
theorem res1_snd {P : Program} {G : Ctx} {N : Nat} {T : TV} {nx : Pos} {bs : TB} {a : Act} {w : World} (hs : St G ρ N T nx bs a w) {rv : ResultVar} {f : TV → TB → Option V} (h : res1 (tiOf P) G rv = some f) {v : V} (hf : f T bs = some v) :
    ∃ y, (rv1 a.tmps rv).run P w = .ok y w ∧ VR ρ v y := by
  cases rv with
  | tmp t =>
    simp only [res1] at h
    split at h
    case isFalse => cases h
    rename_i hk
    injection h with h; subst h
    injection hf with hf; subst hf
    exact ⟨_, rfl, hs.er.slot t rfl hk⟩
  | cell c t =>
    simp only [res1] at h
    split at h
    case isFalse => cases h
    rename_i hk
    have hv := hs.er.slot c rfl hk
    split at h
    · rename_i hsc
      injection h with h; subst h
      obtain ⟨i, o, e, -⟩ := asP_some hf
      exact loadVar_ld hv ⟨i, o, e⟩ (snd_ldS P hsc hs.hr hv hf)
    · split at h
      case isFalse => cases h
      rename_i hag
      split at h
      case h_2 => cases h
      rename_i i hi
      injection h with h; subst h
      obtain ⟨i', o, e, -⟩ := asP_some hf
      exact loadVar_ld hv ⟨i', o, e⟩ (snd_ldG P hag hi hs.hr hv hf)
theorem resN_snd {P : Program} {G : Ctx} {N : Nat} {T : TV} {nx : Pos} {bs : TB} {a : Act} {w : World} (hs : St G ρ N T nx bs a w) : ∀ {rs : List ResultVar} {fs : List (TV → TB → Option V)} {vs : List V}, resN (tiOf P) G rs = some fs → evR fs T bs = some vs →
    ∃ ys, (rs.mapM (rv1 a.tmps)).run P w = .ok ys w ∧ VRs ρ vs ys
  | [], fs, vs, h, he => by
    injection h with h; subst h
    injection he with he; subst he
    exact ⟨[], by simp, by simp [VRs]⟩
  | r :: rs, fs, vs, h, he => by
    unfold resN at h
    split at h
    case h_2 => cases h
    rename_i f fs' h1 h2
    injection h with h; subst h
    have he : (Option.casesOn (motive := fun _ => Option (List V)) (f T bs) none fun v => Option.casesOn (motive := fun _ => Option (List V)) (evR fs' T bs) none fun vs => some (v :: vs)) = some vs := he
    cases hf : f T bs with
    | none => rw [hf] at he; cases he
    | some v =>
      rw [hf] at he
      cases hr : evR fs' T bs with
      | none => simp only [hr] at he; cases he
      | some vs' =>
        simp only [hr] at he
        injection he with he; subst he
        obtain ⟨y, k1, k2⟩ := res1_snd hs h1 hf
        obtain ⟨ys, k3, k4⟩ := resN_snd hs h2 hr
        refine ⟨y :: ys, ?_, by simp only [VRs]; exact ⟨k2, k4⟩⟩
        rw [List.mapM_cons, Sem.run_bind, k1, Result.andThen_ok, Sem.run_bind, k3, Result.andThen_ok]
        rfl
theorem results_snd {P : Program} {G : Ctx} {N : Nat} {T : TV} {nx : Pos} {bs : TB} {a : Act} {w : World} (hs : St G ρ N T nx bs a w) {fn : Func} {fs : List (TV → TB → Option V)} {vs : List V} (h : resN (tiOf P) G fn.results.toList = some fs) (he : evR fs T bs = some vs) :
    ∃ y, (results fn a.tmps).run P w = .ok y w ∧ VR ρ (packV vs) y := by
  obtain ⟨ys, k1, k2⟩ := resN_snd hs h he
  refine ⟨if h : ys.toArray.size = 1 then ys.toArray[0] else .tuple ys.toArray, ?_, ?_⟩
  · rw [results_eq, Array.mapM_eq_mapM_toList, Sem.run_bind]
    have e : (List.toArray <$> fn.results.toList.mapM (rv1 a.tmps)).run P w = .ok ys.toArray w := by
      rw [map_eq_pure_bind, Sem.run_bind, k1, Result.andThen_ok]; rfl
    rw [e, Result.andThen_ok]
    rfl
  · cases vs with
    | nil => cases ys with
      | nil => show VR ρ (.t []) (.tuple #[]); unfold VR; simp [VRs]
      | cons _ _ => simp [VRs] at k2
    | cons v r => cases ys with
      | nil => simp [VRs] at k2
      | cons y ys =>
        simp only [VRs] at k2
        cases r with
        | nil => cases ys with
          | nil => exact k2.1
          | cons _ _ => simp [VRs] at k2
        | cons v2 r => cases ys with
          | nil => simp [VRs] at k2
          | cons y2 ys =>
            show VR ρ (.t (v :: v2 :: r)) (if h : (y :: y2 :: ys).toArray.size = 1 then _ else .tuple (y :: y2 :: ys).toArray)
            rw [dif_neg (by simp)]
            exact VR_t (by simp only [VRs]; exact k2)

def FnS (P : Program) (G : Ctx) (f : FuncId) (g : FN) : Prop :=
  ∀ F, CallSnd P G F → ∀ (ρ : Rho) (as : List V) (xs : Array Value) (nx nx' : Pos) (bs bs' : TB) (v : V) (w : World), GR G ρ → VRs ρ as xs.toList → HR ρ nx bs w → g F as nx bs = .mk v nx' bs' →
    (callFunc f xs).run P w = .ok (.enter f xs) w ∧ Calls P f xs w fun e w' => ∃ y ρ', e = .returned y ∧ VR ρ' v y ∧ HR ρ' nx' bs' w' ∧ Ext ρ nx bs w ρ' nx' bs' w'
theorem compFn_snd {P : Program} (hmix : P.follows .mixedOrders = true) {XT : Nat → Option XK} (hX : ∀ f k, XT f = some k → XOk P f k) {G : Ctx} {f : FuncId} {fn : Func} (hf : P.funcs[f]? = some fn) (hnm : (fn.name == "runtime.NumGoroutine") = false) {g : FN} (h : compFn (tiOf P) XT G fn = some g) : FnS P G f g := by
  unfold compFn at h
  split at h
  case h_2 => cases h
  rename_i c hb
  split at h
  case h_2 => cases h
  rename_i fs hr
  injection h with h; subst h
  have hcs := comp_snd hmix hX (G := G) (N := fn.ntmps) c
  generalize comp (tiOf P) XT G fn.ntmps c = cc at hcs
  intro F hF ρ as xs nx nx' bs bs' v w hg hv hh hk
  refine ⟨?_, calls_of_wp hf hb ?_⟩
  · have h1 : fn.name ≠ "runtime.NumGoroutine" := by simpa using hnm
    simp [callFunc, hf, h1, hb]
  · have hk : Bool.rec (motive := fun _ => RC) .fail (RR.rec (motive := fun _ => RC) .fail (fun e T nx bs => EX.rec (motive := fun _ => RC) (outC fs T nx bs) (fun _ => .fail) (outC fs T nx bs) e) (cc.run F (argT as) nx bs)) (Nat.ble (lenV as) fn.ntmps) = .mk v nx' bs' := hk
    cases hle : Nat.ble (lenV as) fn.ntmps with
    | false => rw [hle] at hk; cases hk
    | true =>
      rw [hle] at hk
      have hk : RR.rec (motive := fun _ => RC) .fail (fun e T nx bs => EX.rec (motive := fun _ => RC) (outC fs T nx bs) (fun _ => .fail) (outC fs T nx bs) e) (cc.run F (argT as) nx bs) = .mk v nx' bs' := hk
      have hle := Nat.le_of_ble_eq_true hle
      rw [lenV_eq] at hle
      have hlen : as.length = xs.size := by simpa using hv.length
      have hs : St G ρ fn.ntmps (argT as) nx bs { tmps := xs ++ Array.replicate (fn.ntmps - xs.size) undef, defers := [] } w := by
        refine ⟨rfl, ⟨fun t d e => by simp [Env.look] at e, fun t _ _ => ?_, hg⟩, hh, by simp; omega, rfl⟩
        rw [argT_get]
        by_cases ht : t < as.length
        · rw [List.getElem?_eq_getElem ht]
          obtain ⟨x, hx, hxv⟩ := hv.get t as[t] (List.getElem?_eq_getElem ht)
          have e : (xs ++ Array.replicate (fn.ntmps - xs.size) undef).getD t undef = x := by
            rw [Array.getD_eq_getD_getElem?, Array.getElem?_append_left (by omega)]
            have : xs[t]? = some x := by simpa using hx
            rw [this]; rfl
          show VR ρ as[t] ((xs ++ Array.replicate (fn.ntmps - xs.size) undef).getD t undef)
          rw [e]; exact hxv
        · rw [List.getElem?_eq_none (by omega)]
          exact VR_u ρ _
      cases hcc : cc.run F (argT as) nx bs with
      | fail => rw [hcc] at hk; cases hk
      | go e T1 nx1 bs1 =>
        rw [hcc] at hk
        refine hcs F hF ρ (argT as) T1 _ nx nx1 bs bs1 w e hs hcc _ fun ρ1 a1 w1 q1 q2 => ?_
        have fin : outC fs T1 nx1 bs1 = .mk v nx' bs' → a1.defers = [] ∧ ∃ y, (results fn a1.tmps).run P w1 = .ok y w1 ∧ ∃ z ρ', Ending.returned y = .returned z ∧ VR ρ' v z ∧ HR ρ' nx' bs' w1 ∧ Ext ρ nx bs w ρ' nx' bs' w1 := fun ho => by
          unfold outC at ho
          cases hev : evR fs T1 bs1 with
          | none => rw [hev] at ho; cases ho
          | some vs =>
            rw [hev] at ho
            injection ho with e1 e2 e3
            subst e1; subst e2; subst e3
            obtain ⟨y, h1, h2⟩ := results_snd q1 hr hev
            exact ⟨q1.defers, y, h1, y, ρ1, rfl, h2, q1.hr, q2⟩
        cases e with
        | n => exact fin hk
        | x id => cases hk
        | r => exact fin hk

/-! ### the table -/
inductive TF where
  | e
  | n (l : TF) (v : Option FN) (r : TF)
noncomputable def TF.get (t : TF) (p : Pos) : Option FN :=
  Pos.rec (motive := fun _ => TF → Option FN) (fun t => TF.casesOn t none (fun _ v _ => v)) (fun _ ih t => TF.casesOn t none (fun l _ _ => ih l)) (fun _ ih t => TF.casesOn t none (fun _ _ r => ih r)) p t
noncomputable def TF.set (p : Pos) (v : Option FN) (t : TF) : TF :=
  Pos.rec (motive := fun _ => TF → TF) (fun t => TF.casesOn t (.n .e v .e) (fun l _ r => .n l v r))
    (fun _ ih t => TF.casesOn t (.n (ih .e) none .e) (fun l x r => .n (ih l) x r))
    (fun _ ih t => TF.casesOn t (.n .e none (ih .e)) (fun l x r => .n l x (ih r))) p t
theorem TF.get_e (p : Pos) : TF.e.get p = none := by cases p <;> rfl
theorem TF.get_set_same (p : Pos) (v : Option FN) : ∀ t : TF, (t.set p v).get p = v := by
  induction p with
  | h => intro t; cases t <;> rfl
  | o p ih => intro t; cases t <;> exact ih _
  | i p ih => intro t; cases t <;> exact ih _
theorem TF.get_set_ne {p q : Pos} (v : Option FN) (hpq : p ≠ q) : ∀ t : TF, (t.set p v).get q = t.get q := by
  induction p generalizing q with
  | h => intro t; cases q with
    | h => exact absurd rfl hpq
    | o q => cases t with | e => exact TF.get_e q | n l x r => rfl
    | i q => cases t with | e => exact TF.get_e q | n l x r => rfl
  | o p ih => intro t; cases q with
    | h => cases t <;> rfl
    | o q => cases t with
      | e => exact (ih (fun h => hpq (by rw [h])) .e).trans (TF.get_e q)
      | n l x r => exact ih (fun h => hpq (by rw [h])) l
    | i q => cases t with | e => exact TF.get_e q | n l x r => rfl
  | i p ih => intro t; cases q with
    | h => cases t <;> rfl
    | i q => cases t with
      | e => exact (ih (fun h => hpq (by rw [h])) .e).trans (TF.get_e q)
      | n l x r => exact ih (fun h => hpq (by rw [h])) r
    | o q => cases t with | e => exact TF.get_e q | n l x r => rfl
/-- A function's number, its text, its kept slots (as bits). -/
structure FI where
  f : Nat
  fn : Func
  k : Nat
  a : Bool
def keptB (k : Nat) (t : Nat) : Bool := Nat.beq (Nat.land (Nat.shiftRight k t) 1) 1
noncomputable def tabOf (Y : TI) (XT : Nat → Option XK) (gl : Nat → Option Pos) (tb : BinOp → Pos → Nat → Option V) : List FI → TF
  | [] => .e
  | x :: l => (tabOf Y XT gl tb l).set (pos x.f) (compFn Y XT ⟨keptB x.k, gl, x.a, tb⟩ x.fn)
theorem tabOf_get {P : Program} {XT : Nat → Option XK} {gl : Nat → Option Pos} {tb : BinOp → Pos → Nat → Option V} {p : Pos} {g : FN} : ∀ {l : List FI}, (tabOf (tiOf P) XT gl tb l).get p = some g → ∃ x ∈ l, p = pos x.f ∧ compFn (tiOf P) XT ⟨keptB x.k, gl, x.a, tb⟩ x.fn = some g
  | [], h => by rw [show tabOf (tiOf P) XT gl tb [] = .e from rfl, TF.get_e] at h; cases h
  | x :: l, h => by
    have e : tabOf (tiOf P) XT gl tb (x :: l) = (tabOf (tiOf P) XT gl tb l).set (pos x.f) (compFn (tiOf P) XT ⟨keptB x.k, gl, x.a, tb⟩ x.fn) := rfl
    rw [e] at h
    by_cases hp : pos x.f = p
    · subst hp
      rw [TF.get_set_same] at h
      exact ⟨x, List.mem_cons_self, rfl, h⟩
    · rw [TF.get_set_ne _ hp] at h
      obtain ⟨y, h1, h2⟩ := tabOf_get h
      exact ⟨y, List.mem_cons_of_mem _ h1, h2⟩
noncomputable def callN (t : TF) (fuel : Nat) : CallF := Nat.rec (motive := fun _ => CallF) (fun _ _ _ _ => .fail) (fun _ ih p as nx bs => Option.casesOn (t.get p) .fail fun g => g ih as nx bs) fuel
theorem callN_snd {P : Program} (hmix : P.follows .mixedOrders = true) {XT : Nat → Option XK} (hX : ∀ f k, XT f = some k → XOk P f k) {G : Ctx} {l : List FI} (hl : ∀ x ∈ l, P.funcs[x.f]? = some x.fn ∧ (x.fn.name == "runtime.NumGoroutine") = false) : ∀ fuel, CallSnd P G (callN (tabOf (tiOf P) XT G.glob G.tab l) fuel)
  | 0 => by intro ρ f as xs nx nx' bs bs' v w _ _ _ hk; cases hk
  | m + 1 => by
    have ih := callN_snd hmix hX hl (G := G) m
    intro ρ f as xs nx nx' bs bs' v w hg hv hh hk
    have hk : (Option.casesOn (motive := fun _ => RC) ((tabOf (tiOf P) XT G.glob G.tab l).get (pos f)) .fail fun g => g (callN (tabOf (tiOf P) XT G.glob G.tab l) m) as nx bs) = .mk v nx' bs' := hk
    cases ht : (tabOf (tiOf P) XT G.glob G.tab l).get (pos f) with
    | none => rw [ht] at hk; cases hk
    | some g =>
      rw [ht] at hk
      have hk2 : g (callN (tabOf (tiOf P) XT G.glob G.tab l) m) as nx bs = .mk v nx' bs' := hk
      obtain ⟨x, hx, hp, hc⟩ := tabOf_get ht
      have := pos_inj hp
      subst this
      exact compFn_snd hmix hX (hl x hx).1 (hl x hx).2 hc _ (ih.cast rfl rfl) ρ as xs nx nx' bs bs' v w (hg.cast rfl rfl) hv hh hk2

end Go.Proofs.YtnhgchnhfdimiaaGreatDoor.Ev
