/- Regions in the order of the text. -/
import Derived.Test.YtmbnogellhoheaaGreatDoorEvXh
import Derived.LoopN
namespace Go.Proofs.YtmbnogellhoheaaGreatDoor.Ev
open Go
variable {ρ : Rho}

/-- What a region leaves: its values (the last first), the next name, the blocks. -/
inductive RE where
  | fail
  | mk (L : List V) (nx : Pos) (bs : TB)
abbrev SK := CallF → List V → TS → Pos → TB → RE
/-- A compiled run in a box: the kernel opens it once. -/
inductive SB where
  | mk (k : SK)
noncomputable def SB.run (b : SB) : SK := SB.rec (motive := fun _ => SK) (fun k => k) b
noncomputable def newB (m : NV) (nx : Pos) (bs : TB) : TB := bs.set nx (.mk m.es m.cs.length (into m.cs .e 1))
/-- An operation, and what comes behind it. -/
noncomputable def stepC (c : OC) (k : SB) : SB :=
  match c with
  | .pu f => .mk fun F L T nx bs => Option.rec (motive := fun _ => RE) .fail (fun v => k.run F (v :: L) T nx bs) (f L T)
  | .ld f => .mk fun F L T nx bs => Option.rec (motive := fun _ => RE) .fail (fun v => k.run F (v :: L) T nx bs) (f L T bs)
  | .al f => .mk fun F L T nx bs => Option.rec (motive := fun _ => RE) .fail (fun m => k.run F (m.val nx :: L) T nx.inc (newB m nx bs)) (f L T)
  | .ef f => .mk fun F L T nx bs => RC.rec (motive := fun _ => RE) .fail (fun v nx bs => k.run F (v :: L) T nx bs) (f F L T nx bs)
noncomputable def same (a b : Bool) : Bool := Bool.rec (not b) b a
theorem same_eq (a b : Bool) : same a b = (a == b) := by cases a <;> cases b <;> rfl
/-- Whether a guard's value wants what it should: what was left out itself wants nothing. -/
noncomputable def gwant (v : V) (w : Bool) : Option Bool :=
  V.casesOn (motive_1 := fun _ => Option Bool) v none (fun _ => none) (fun _ => none) (fun _ _ => none) (fun b => some (same b w)) (fun _ _ => none) none (fun _ _ => none) none (fun _ _ _ _ => none) none (fun _ _ => none) (fun _ => none) (fun _ => some false) none (fun _ _ => none) (fun _ => none)
theorem gwant_some {v : V} {w c : Bool} (h : gwant v w = some c) : (∃ b, v = .b b ∧ c = (b == w)) ∨ ∃ cs, v = .t cs ∧ c = false := by
  cases v <;> first
    | (have h : some _ = some c := h; injection h with h; first | exact .inl ⟨_, rfl, by rw [← h, same_eq]⟩ | exact .inr ⟨_, rfl, h.symm⟩)
    | (have h : (none : Option Bool) = some c := h; cases h)
theorem VR_skip (ρ : Rho) : VR ρ (.t []) undef := by
  show VR ρ (.t []) (.tuple #[]); unfold VR; simp [VRs]
/-- An operation that is looked at where a test said what it wants. -/
noncomputable def stepG (g : X) (want : Bool) (c : SB) (k : SB) : SB := .mk fun F L T nx bs =>
  Option.rec (motive := fun _ => RE) .fail (fun b => Bool.rec (k.run F (.t [] :: L) T nx bs) (c.run F L T nx bs) b) (gwant (g L T) want)

/-- An operation's guard, as the value that it looks at. -/
noncomputable def guardX (_G : Ctx) (E : Env) (n : Nat) (all : Array Oper) (o : Oper) : Option (Option (X × Bool)) :=
  match o.guard with
  | none => some none
  | some (j, want) => match (all[j]?).bind (·.dst) with
    | some t => match E.lookF t with
      | some d => some (some (d.x n, want))
      | none => none
    | none => none
noncomputable def stepO (g : Option (X × Bool)) (c : OC) (k : SB) : SB := match g with
  | none => stepC c k
  | some (g, want) => stepG g want (stepC c k) k
def isMove : Op → Option Operand
  | .move x => some x
  | .assign x => some x
  | _ => none
def putE (dst : Option Tmp) (n : Nat) (E : Env) : Env := match dst with
  | some t => (t, .l n) :: E
  | none => E
def okDst (N : Nat) (dst : Option Tmp) : Bool := match dst with
  | some t => Nat.ble (t + 1) N
  | none => true
/-- What a region begins with may be known already: E says it of n values. -/
noncomputable def sreg (Y : TI) (XT : Nat → Option XK) (G : Ctx) (N : Nat) (all : Array Oper) : List Oper → Env → Nat → Option (Env × Nat × SB)
  | [], E, n => some (E, n, .mk fun _ L _ nx bs => .mk L nx bs)
  | o :: os, E, n =>
    if okDst N o.dst = true then
      match guardX G E n all o with
      | none => none
      | some g =>
        match (match g, isMove o.op, o.dst with | none, some x, some t => (cxD G E x).map fun d => (t, d) | _, _, _ => none) with
        | some p => sreg Y XT G N all os (p :: E) n
        | none => match sreg Y XT G N all os (putE o.dst n E) (n + 1) with
          | some (E', n', k) => some (E', n', stepO g (cop Y XT G E n o.op) k)
          | none => none
    else none

/-- The state of an act at a place of a region. -/
structure AR2 (G : Ctx) (ρ : Rho) (E : Env) (n N : Nat) (L : List V) (T : TS) (nx : Pos) (bs : TB) (a : Act) (w : World) : Prop where
  len : L.length = n
  er : ER G ρ E L T a
  hr : HR ρ nx bs w
  size : a.tmps.size = N
  defers : a.defers = []
theorem put_size (a : Act) (dst : Option Tmp) (v : Value) : (a.put dst v).tmps.size = a.tmps.size := by
  cases dst <;> simp [Act.put]
theorem put_defers (a : Act) (dst : Option Tmp) (v : Value) : (a.put dst v).defers = a.defers := by
  cases dst <;> rfl
theorem AR2.push {G : Ctx} {E : Env} {n N : Nat} {L : List V} {T : TS} {nx nx' : Pos} {bs bs' : TB} {a : Act} {w w' : World} (h : AR2 G ρ E n N L T nx bs a w) {ρ' : Rho} (hle : ρ.le ρ') {v : V} {y : Value} (hv : VR ρ' v y) (hh : HR ρ' nx' bs' w') {dst : Option Tmp} (hd : okDst N dst = true) :
    AR2 G ρ' (putE dst n E) (n + 1) N (v :: L) T nx' bs' (a.put dst y) w' := by
  have he := h.er.mono hle
  refine ⟨by rw [List.length_cons, h.len], ?_, hh, by rw [put_size, h.size], by rw [put_defers, h.defers]⟩
  cases dst with
  | none => exact he.skip v
  | some t =>
    have ht : t < a.tmps.size := by rw [h.size]; exact Nat.le_of_ble_eq_true hd
    have := he.push hv ht
    rw [h.len] at this
    exact this
/-- An operation that is compiled, with what comes behind. -/
theorem stepC_snd {P : Program} {G : Ctx} {E : Env} {n N : Nat} {o : Oper} {c : OC} (hc : OCS P G E n o c) (hd : okDst N o.dst = true) {k : SB} {F : CallF} (hF : CallSnd P G F) {ρ : Rho} {L L' : List V} {T : TS} {a : Act} {nx nx' : Pos} {bs bs' : TB} {w : World}
    (hs : AR2 G ρ E n N L T nx bs a w) (hk : (stepC c k).run F L T nx bs = .mk L' nx' bs') {next : Act → World → Prop} {Q : Exit → Act → World → Prop}
    (hnext : ∀ ρ1 v nx1 bs1 a1 w1, AR2 G ρ1 (putE o.dst n E) (n + 1) N (v :: L) T nx1 bs1 a1 w1 → Ext ρ nx bs w ρ1 nx1 bs1 w1 → k.run F (v :: L) T nx1 bs1 = .mk L' nx' bs' → next a1 w1) : o.wp P a w next Q := by
  cases c with
  | pu f =>
    have hk : (Option.rec (motive := fun _ => RE) .fail (fun v => k.run F (v :: L) T nx bs) (f L T)) = .mk L' nx' bs' := hk
    cases hf : f L T with
    | none => rw [hf] at hk; cases hk
    | some v =>
      rw [hf] at hk
      obtain ⟨y, h1, h2⟩ := hc ρ L T a v w hs.len hs.er hf
      exact h1.wp (hnext ρ v nx bs _ w (hs.push (Rho.le_refl ρ) h2 hs.hr hd) (Ext.refl ..) hk)
  | ld f =>
    have hk : (Option.rec (motive := fun _ => RE) .fail (fun v => k.run F (v :: L) T nx bs) (f L T bs)) = .mk L' nx' bs' := hk
    cases hf : f L T bs with
    | none => rw [hf] at hk; cases hk
    | some v =>
      rw [hf] at hk
      obtain ⟨y, h1, h2⟩ := hc ρ L T a nx bs v w hs.len hs.er hs.hr hf
      exact h1.wp (hnext ρ v nx bs _ w (hs.push (Rho.le_refl ρ) h2 hs.hr hd) (Ext.refl ..) hk)
  | al f =>
    have hk : (Option.rec (motive := fun _ => RE) .fail (fun m => k.run F (m.val nx :: L) T nx.inc (newB m nx bs)) (f L T)) = .mk L' nx' bs' := hk
    cases hf : f L T with
    | none => rw [hf] at hk; cases hk
    | some m =>
      rw [hf] at hk
      obtain ⟨res, h1, h2⟩ := hc ρ L T a m w hs.len hs.er hf
      obtain ⟨y, w', ρ', e, h3, h4, h5⟩ := h1.next hs.hr
      exact (h2 y w' e).wp (hnext ρ' _ nx.inc _ _ w' (hs.push h5.le h3 h4 hd) h5 hk)
  | ef f =>
    have hk : (RC.rec (motive := fun _ => RE) .fail (fun v nx bs => k.run F (v :: L) T nx bs) (f F L T nx bs)) = .mk L' nx' bs' := hk
    cases hf : f F L T nx bs with
    | fail => rw [hf] at hk; cases hk
    | mk v nx1 bs1 =>
      rw [hf] at hk
      exact hc F hF ρ L T a nx nx1 bs bs1 v w hs.len hs.er hs.hr hf next Q fun ρ' y w' h1 h2 h3 => hnext ρ' v nx1 bs1 _ w' (hs.push h3.le h1 h2 hd) h3 hk

theorem wanted_none {o : Oper} (h : o.guard = none) (y : Nat → Option Bool) : Region.wanted o y = true := by
  unfold Region.wanted; rw [h]
/-- What a guard says, at a value of the evaluator's. -/
theorem wanted_of {all : Array Oper} {o : Oper} {j : Nat} {want c : Bool} {t : Tmp} (hg : o.guard = some (j, want)) (ht : (all[j]?).bind (·.dst) = some t) {a : Act} {v : V} (hv : VR ρ v (a.tmps.getD t undef)) (hw : gwant v want = some c) : Region.wanted o (yielded all a.tmps) = c := by
  unfold Region.wanted yielded
  rw [hg]
  simp only [ht, Option.bind_some]
  rcases gwant_some hw with ⟨b, rfl, rfl⟩ | ⟨cs, rfl, rfl⟩
  case inr =>
    obtain ⟨xs, hx, -⟩ := hv.t
    rcases Nat.lt_or_ge t a.tmps.size with h | h
    · have e : a.tmps.getD t undef = a.tmps[t] := by simp [h]
      rw [e] at hx
      rw [Array.getElem?_eq_getElem h, hx]
      rfl
    · rw [Array.getElem?_eq_none h]; rfl
  have hb := hv.b
  have h1 : a.tmps[t]? = some (.bool b) := by
    rcases Nat.lt_or_ge t a.tmps.size with h | h
    · have e : a.tmps.getD t undef = a.tmps[t] := by simp [h]
      rw [e] at hb
      rw [Array.getElem?_eq_getElem h, hb]
    · have e : a.tmps.getD t undef = undef := by simp [h]
      rw [e] at hb
      cases hb
  rw [h1]
  cases b <;> cases want <;> rfl
theorem putE_none (n : Nat) (E : Env) : putE none n E = E := rfl

theorem sreg_snd {P : Program} {XT : Nat → Option XK} (hX : ∀ f k, XT f = some k → XOk P f k) {G : Ctx} {N : Nat} {all : Array Oper} {F : CallF} (hF : CallSnd P G F) : ∀ (os : List Oper) (E : Env) (n i : Nat) (E' : Env) (n' : Nat) (k : SB), all.toList.drop i = os → sreg (tiOf P) XT G N all os E n = some (E', n', k) →
    ∀ (ρ : Rho) (L L' : List V) (T : TS) (a : Act) (nx nx' : Pos) (bs bs' : TB) (w : World), AR2 G ρ E n N L T nx bs a w → k.run F L T nx bs = .mk L' nx' bs' →
    ∀ Q : Exit → Act → World → Prop, (∀ ρ' a' w', AR2 G ρ' E' n' N L' T nx' bs' a' w' → Ext ρ nx bs w ρ' nx' bs' w' → Q .normal a' w') → wpOps P all Q (List.range' i os.length) a w
  | [], E, n, i, E', n', k, hi, h, ρ, L, L', T, a, nx, nx', bs, bs', w, hs, hk, Q, hq => by
    simp only [sreg] at h
    injection h with h; injection h with e1 h; injection h with e2 e3
    subst e1; subst e2; subst e3
    injection hk with e1 e2 e3
    subst e1; subst e2; subst e3
    exact hq ρ a w hs (Ext.refl ..)
  | o :: os, E, n, i, E', n', k, hi, h, ρ, L, L', T, a, nx, nx', bs, bs', w, hs, hk, Q, hq => by
    have hoi : all[i]? = some o := by
      have : (all.toList.drop i)[0]? = some o := by rw [hi]; rfl
      rw [List.getElem?_drop] at this
      simpa using this
    have hi' : all.toList.drop (i + 1) = os := by
      have : (all.toList.drop i).drop 1 = os := by rw [hi]; rfl
      rwa [List.drop_drop] at this
    rw [List.length_cons, List.range'_succ, wpOps_cons]
    unfold wpOp
    simp only [hoi]
    unfold sreg at h
    split at h
    case isFalse => cases h
    rename_i hd
    split at h
    · cases h
    rename_i g hg
    split at h
    · rename_i p hp
      split at hp
      case h_2 => cases hp
      rename_i x t hmv hdst
      obtain ⟨d, hxd, rfl⟩ := Option.map_eq_some_iff.1 hp
      have hgn : o.guard = none := by
        unfold guardX at hg
        split at hg
        · assumption
        · split at hg
          · split at hg <;> cases hg
          · cases hg
      rw [if_pos (wanted_none hgn _)]
      refine .inl ?_
      have hlen := hs.len
      subst hlen
      obtain ⟨hok, hv⟩ := cxD_snd hs.er hxd
      have hex : execOp a.eval o = pure (Next.value (a.eval x)) := by
        unfold execOp
        cases ho : o.op <;> rw [ho] at hmv <;> simp only [isMove] at hmv <;> first | (injection hmv with hmv; subst hmv; rfl) | cases hmv
      have hth : Thru P o a w (a.eval x) w := .inl (by rw [hex]; rfl)
      refine hth.wp ?_
      rw [hdst]
      have htN : t < a.tmps.size := by rw [hs.size]; rw [hdst] at hd; exact Nat.le_of_ble_eq_true hd
      exact sreg_snd hX hF os _ _ (i + 1) E' n' k hi' h ρ L L' T _ nx nx' bs bs' w ⟨rfl, hs.er.alias hok hv htN, hs.hr, by rw [put_size, hs.size], by rw [put_defers, hs.defers]⟩ hk Q hq
    · split at h
      case h_2 => cases h
      rename_i E1 n1 k1 hr
      injection h with h; injection h with e1 h; injection h with e2 e3
      subst e1; subst e2; subst e3
      have hoc := cop_snd (P := P) (G := G) (E := E) (n := n) (o := o) hX
      generalize cop (tiOf P) XT G E n o.op = c at *
      have go : ∀ (hk : (stepC c k1).run F L T nx bs = .mk L' nx' bs'), o.wp P a w (wpOps P all Q (List.range' (i + 1) os.length)) Q := fun hk =>
        stepC_snd hoc hd hF hs hk fun ρ1 v nx1 bs1 a1 w1 h1 h2 h3 => sreg_snd hX hF os _ _ (i + 1) _ _ k1 hi' hr ρ1 _ L' T a1 nx1 nx' bs1 bs' w1 h1 h3 Q fun ρ' a' w' q1 q2 => hq ρ' a' w' q1 (h2.trans q2)
      unfold guardX at hg
      split at hg
      · rename_i hgn
        injection hg with hg; subst hg
        rw [if_pos (wanted_none hgn _)]
        exact .inl (go hk)
      · rename_i j want hgs
        split at hg
        case h_2 => cases hg
        rename_i t ht
        split at hg
        case h_2 => cases hg
        rename_i d hl
        injection hg with hg; subst hg
        have hk : (Option.rec (motive := fun _ => RE) .fail (fun b => Bool.rec (k1.run F (.t [] :: L) T nx bs) ((stepC c k1).run F L T nx bs) b) (gwant (d.x n L T) want)) = .mk L' nx' bs' := hk
        have hlen := hs.len
        subst hlen
        rw [Env.lookF_eq] at hl
        obtain ⟨hok, hv⟩ := hs.er.env t d hl
        cases hw : gwant (d.x L.length L T) want with
        | none => rw [hw] at hk; cases hk
        | some b =>
          rw [hw] at hk
          rw [wanted_of hgs ht hv hw]
          cases b with
          | true =>
            rw [if_pos rfl]
            exact .inl (go hk)
          | false =>
            have hk : k1.run F (.t [] :: L) T nx bs = .mk L' nx' bs' := hk
            rw [if_neg (by simp)]
            exact sreg_snd hX hF os _ _ (i + 1) _ _ k1 hi' hr ρ _ L' T _ nx nx' bs bs' w (hs.push (Rho.le_refl ρ) (v := .t []) (VR_skip ρ) hs.hr hd) hk Q hq

end Go.Proofs.YtmbnogellhoheaaGreatDoor.Ev

/- Code compiled. -/
namespace Go.Proofs.YtmbnogellhoheaaGreatDoor.Ev
open Go
variable {ρ : Rho}

/-- How code is left. -/
inductive EX where
  | n
  | x (id : Nat)
  | r
def EX.exit : EX → Exit
  | .n => .normal
  | .x id => .exit id
  | .r => .ret
inductive RR where
  | fail
  | go (e : EX) (T : TS) (nx : Pos) (bs : TB)
abbrev CC := CallF → TS → Pos → TB → RR
inductive CB where
  | mk (k : CC)
noncomputable def CB.run (b : CB) : CC := CB.rec (motive := fun _ => CC) (fun k => k) b

/-! ### slots written at a region's end -/
noncomputable def wlist (G : Ctx) (n : Nat) : Env → List (Pos × X)
  | [] => []
  | (t, d) :: E => if G.kept t = true then (pos t, d.x n) :: wlist G n E else wlist G n E
noncomputable def writes (ws : List (Pos × X)) (L : List V) (T : TS) : TS := List.rec (motive := fun _ => TS) T (fun p _ ih => TS.set p.1 (p.2 L T) ih) ws
theorem writes_get (G : Ctx) (L : List V) (T : TS) {t : Nat} (hk : G.kept t = true) : ∀ E : Env, (writes (wlist G L.length E) L T).get (pos t) = match E.look t with
    | some d => d.x L.length L T
    | none => T.get (pos t)
  | [] => rfl
  | (u, d) :: E => by
    have ih := writes_get G L T hk E
    unfold wlist
    by_cases hu : G.kept u = true
    · rw [if_pos hu]
      show (TS.set (pos u) (d.x L.length L T) (writes (wlist G L.length E) L T)).get (pos t) = _
      by_cases e : u = t
      · subst e
        rw [TS.get_set_same]
        simp [Env.look]
      · rw [TS.get_set_ne _ (fun h => e (pos_inj h)), ih]
        simp [Env.look, e]
    · rw [if_neg hu, ih]
      have e : u ≠ t := fun h => hu (h ▸ hk)
      simp [Env.look, e]
/-- The state of an act between regions. -/
abbrev St (G : Ctx) (ρ : Rho) (N : Nat) (T : TS) (nx : Pos) (bs : TB) (a : Act) (w : World) : Prop := AR2 G ρ [] 0 N [] T nx bs a w
theorem AR2.shut {G : Ctx} {E : Env} {n N : Nat} {L : List V} {T : TS} {nx : Pos} {bs : TB} {a : Act} {w : World} (h : AR2 G ρ E n N L T nx bs a w) : St G ρ N (writes (wlist G n E) L T) nx bs a w := by
  refine ⟨rfl, ⟨fun t d e => by simp [Env.look] at e, fun t _ hk => ?_, h.er.glob⟩, h.hr, h.size, h.defers⟩
  have hl := h.len
  subst hl
  rw [writes_get G L T hk E]
  cases hl : E.look t with
  | none => exact h.er.slot t hl hk
  | some d => exact (h.er.env t d hl).2

/-! ### what compiled regions and compiled code say -/
def RegS (P : Program) (G : Ctx) (N : Nat) (c : Code) (E : Env) (n : Nat) (k : SB) : Prop :=
  ∀ F, CallSnd P G F → ∀ (ρ : Rho) (T : TS) (a : Act) (nx nx' : Pos) (bs bs' : TB) (w : World) (L' : List V), St G ρ N T nx bs a w → k.run F [] T nx bs = .mk L' nx' bs' →
    ∀ Q : Exit → Act → World → Prop, (∀ ρ' a' w', AR2 G ρ' E n N L' T nx' bs' a' w' → Ext ρ nx bs w ρ' nx' bs' w' → Q .normal a' w') → c.wp P Q a w
def CCS (P : Program) (G : Ctx) (N : Nat) (c : Code) (cc : CB) : Prop :=
  ∀ F, CallSnd P G F → ∀ (ρ : Rho) (T T' : TS) (a : Act) (nx nx' : Pos) (bs bs' : TB) (w : World) (e : EX), St G ρ N T nx bs a w → cc.run F T nx bs = .go e T' nx' bs' →
    ∀ Q : Exit → Act → World → Prop, (∀ ρ' a' w', St G ρ' N T' nx' bs' a' w' → Ext ρ nx bs w ρ' nx' bs' w' → Q e.exit a' w') → c.wp P Q a w

noncomputable def skipC : CB := .mk fun _ T nx bs => .go .n T nx bs
noncomputable def exitC (id : Nat) : CB := .mk fun _ T nx bs => .go (.x id) T nx bs
noncomputable def retC : CB := .mk fun _ T nx bs => .go .r T nx bs
noncomputable def finK (ws : List (Pos × X)) (T : TS) (r : RE) : RR := RE.rec (motive := fun _ => RR) .fail (fun L nx bs => .go .n (writes ws L T) nx bs) r
noncomputable def finC (ws : List (Pos × X)) (k : SB) : CB := .mk fun F T nx bs => finK ws T (k.run F [] T nx bs)
noncomputable def tstK (ws : List (Pos × X)) (x : X) (c d : CB) (F : CallF) (T : TS) (r : RE) : RR := RE.rec (motive := fun _ => RR) .fail (fun L nx bs =>
  asB (x L T) .fail fun b => Bool.rec (d.run F (writes ws L T) nx bs) (c.run F (writes ws L T) nx bs) b) r
noncomputable def tstC (ws : List (Pos × X)) (k : SB) (x : X) (c d : CB) : CB := .mk fun F T nx bs => tstK ws x c d F T (k.run F [] T nx bs)
noncomputable def cndC (x : X) (c d : CB) : CB := .mk fun F T nx bs => asB (x [] T) .fail fun b => Bool.rec (d.run F T nx bs) (c.run F T nx bs) b
noncomputable def seqK (d : CB) (F : CallF) (r : RR) : RR := RR.rec (motive := fun _ => RR) .fail (fun e T nx bs => EX.rec (motive := fun _ => RR) (d.run F T nx bs) (fun id => .go (.x id) T nx bs) (.go .r T nx bs) e) r
noncomputable def seqC (c d : CB) : CB := .mk fun F T nx bs => seqK d F (c.run F T nx bs)
noncomputable def blkK (id : Nat) (r : RR) : RR := RR.rec (motive := fun _ => RR) .fail (fun e T nx bs => EX.rec (motive := fun _ => RR) (.go .n T nx bs) (fun j => Bool.rec (.go (.x j) T nx bs) (.go .n T nx bs) (Nat.beq j id)) (.go .r T nx bs) e) r
noncomputable def blkC (id : Nat) (c : CB) : CB := .mk fun F T nx bs => blkK id (c.run F T nx bs)
noncomputable def lpK (ih : TS → Pos → TB → RR) (r : RR) : RR := RR.rec (motive := fun _ => RR) .fail (fun e T nx bs => EX.rec (motive := fun _ => RR) (ih T nx bs) (fun id => .go (.x id) T nx bs) (.go .r T nx bs) e) r
noncomputable def lpR (c : CB) (F : CallF) (fuel : Nat) : TS → Pos → TB → RR := Nat.rec (motive := fun _ => TS → Pos → TB → RR) (fun _ _ _ => .fail) (fun _ ih T nx bs => lpK ih (c.run F T nx bs)) fuel
noncomputable def lpC (fuel : Nat) (c : CB) : CB := .mk fun F => lpR c F fuel

section
variable {P : Program} {G : Ctx} {N : Nat}
theorem skipC_snd {c : Code} (h : ∀ (Q : Exit → Act → World → Prop) a w, Q .normal a w → c.wp P Q a w) : CCS P G N c skipC := by
  intro F hF ρ T T' a nx nx' bs bs' w e hs hk Q hq
  injection hk with e1 e2 e3 e4; subst e1; subst e2; subst e3; subst e4
  exact h Q a w (hq ρ a w hs (Ext.refl ..))
theorem exitC_snd (id : Nat) : CCS P G N (.exit id) (exitC id) := by
  intro F hF ρ T T' a nx nx' bs bs' w e hs hk Q hq
  injection hk with e1 e2 e3 e4; subst e1; subst e2; subst e3; subst e4
  exact wp_exit (hq ρ a w hs (Ext.refl ..))
theorem retC_snd : CCS P G N .ret retC := by
  intro F hF ρ T T' a nx nx' bs bs' w e hs hk Q hq
  injection hk with e1 e2 e3 e4; subst e1; subst e2; subst e3; subst e4
  exact wp_ret (hq ρ a w hs (Ext.refl ..))
theorem finC_snd {c : Code} {E : Env} {n : Nat} {k : SB} (hr : RegS P G N c E n k) : CCS P G N c (finC (wlist G n E) k) := by
  intro F hF ρ T T' a nx nx' bs bs' w e hs hk Q hq
  have hk : finK (wlist G n E) T (k.run F [] T nx bs) = .go e T' nx' bs' := hk
  cases hkr : k.run F [] T nx bs with
  | fail => rw [hkr] at hk; cases hk
  | mk L nx1 bs1 =>
    rw [hkr] at hk
    injection hk with e1 e2 e3 e4; subst e1; subst e2; subst e3; subst e4
    exact hr F hF ρ T a nx _ bs _ w L hs hkr Q fun ρ' a' w' h1 h2 => hq ρ' a' w' h1.shut h2
theorem asB_go {v : V} {k : Bool → RR} {e : EX} {T : TS} {nx : Pos} {bs : TB} (h : asB v .fail k = .go e T nx bs) : ∃ b, v = .b b ∧ k b = .go e T nx bs := by
  cases v <;> first | exact ⟨_, rfl, h⟩ | (have h : RR.fail = .go e T nx bs := h; cases h)
theorem tst_wp {c x y : Code} {E : Env} {n : Nat} {k : SB} {o : Operand} {f : X} {cx cy : CB} (hr : RegS P G N c E n k) (hf : opX G E n o = some f) (hx : CCS P G N x cx) (hy : CCS P G N y cy) {F : CallF} (hF : CallSnd P G F) {T T' : TS} {a : Act} {nx nx' : Pos} {bs bs' : TB} {w : World} {e : EX}
    (hs : St G ρ N T nx bs a w) (hk : (tstC (wlist G n E) k f cx cy).run F T nx bs = .go e T' nx' bs') {Q Q' : Exit → Act → World → Prop} (hq : ∀ ρ' a' w', St G ρ' N T' nx' bs' a' w' → Ext ρ nx bs w ρ' nx' bs' w' → Q e.exit a' w') : c.wp P (Exit.then ((Code.cond o x y).wp P Q) Q') a w := by
  have hk : tstK (wlist G n E) f cx cy F T (k.run F [] T nx bs) = .go e T' nx' bs' := hk
  cases hkr : k.run F [] T nx bs with
  | fail => rw [hkr] at hk; cases hk
  | mk L nx1 bs1 =>
    rw [hkr] at hk
    obtain ⟨b, hb, hk⟩ := asB_go hk
    refine hr F hF ρ T a nx _ bs _ w L hs hkr _ fun ρ' a' w' h1 h2 => ?_
    have hv := opX_snd h1.len h1.er hf
    rw [hb] at hv
    have hv := hv.b
    refine wp_cond hv ?_
    cases b with
    | true => exact hx F hF ρ' _ T' a' nx1 nx' bs1 bs' w' e h1.shut hk Q fun ρ2 a2 w2 q1 q2 => hq ρ2 a2 w2 q1 (h2.trans q2)
    | false => exact hy F hF ρ' _ T' a' nx1 nx' bs1 bs' w' e h1.shut hk Q fun ρ2 a2 w2 q1 q2 => hq ρ2 a2 w2 q1 (h2.trans q2)
theorem tstC_snd {c x y : Code} {E : Env} {n : Nat} {k : SB} {o : Operand} {f : X} {cx cy : CB} (hr : RegS P G N c E n k) (hf : opX G E n o = some f) (hx : CCS P G N x cx) (hy : CCS P G N y cy) : CCS P G N (.seq c (.cond o x y)) (tstC (wlist G n E) k f cx cy) := by
  intro F hF ρ T T' a nx nx' bs bs' w e hs hk Q hq
  exact wp_seq (tst_wp hr hf hx hy hF hs hk hq)
theorem tstS_snd {c x y z : Code} {E : Env} {n : Nat} {k : SB} {o : Operand} {f : X} {cx cy cz : CB} (hr : RegS P G N c E n k) (hf : opX G E n o = some f) (hx : CCS P G N x cx) (hy : CCS P G N y cy) (hz : CCS P G N z cz) :
    CCS P G N (.seq c (.seq (.cond o x y) z)) (seqC (tstC (wlist G n E) k f cx cy) cz) := by
  intro F hF ρ T T' a nx nx' bs bs' w e hs hk Q hq
  have hk : seqK cz F ((tstC (wlist G n E) k f cx cy).run F T nx bs) = .go e T' nx' bs' := hk
  cases hkr : (tstC (wlist G n E) k f cx cy).run F T nx bs with
  | fail => rw [hkr] at hk; cases hk
  | go e1 T1 nx1 bs1 =>
    rw [hkr] at hk
    refine wp_seq (wp_mono (tst_wp hr hf hx hy hF hs hkr (Q := Exit.then (z.wp P Q) Q) (Q' := Q) fun ρ1 a1 w1 h1 h2 => ?_) fun e a w h => ?_)
    · cases e1 with
      | n => exact hz F hF ρ1 T1 T' a1 nx1 nx' bs1 bs' w1 e h1 hk Q fun ρ2 a2 w2 q1 q2 => hq ρ2 a2 w2 q1 (h2.trans q2)
      | x id =>
        injection hk with e1 e2 e3 e4; subst e1; subst e2; subst e3; subst e4
        exact hq ρ1 a1 w1 h1 h2
      | r =>
        injection hk with e1 e2 e3 e4; subst e1; subst e2; subst e3; subst e4
        exact hq ρ1 a1 w1 h1 h2
    · cases e with
      | normal => exact wp_seq h
      | _ => exact h
theorem cndC_snd {x y : Code} {o : Operand} {f : X} {cx cy : CB} (hf : opX G [] 0 o = some f) (hx : CCS P G N x cx) (hy : CCS P G N y cy) : CCS P G N (.cond o x y) (cndC f cx cy) := by
  intro F hF ρ T T' a nx nx' bs bs' w e hs hk Q hq
  obtain ⟨b, hb, hk⟩ := asB_go hk
  have hv := opX_snd hs.len hs.er hf
  rw [hb] at hv
  have hv := hv.b
  refine wp_cond hv ?_
  cases b with
  | true => exact hx F hF ρ _ T' a nx nx' bs bs' w e hs hk Q hq
  | false => exact hy F hF ρ _ T' a nx nx' bs bs' w e hs hk Q hq
theorem seqC_snd {x y : Code} {cx cy : CB} (hx : CCS P G N x cx) (hy : CCS P G N y cy) : CCS P G N (.seq x y) (seqC cx cy) := by
  intro F hF ρ T T' a nx nx' bs bs' w e hs hk Q hq
  have hk : seqK cy F (cx.run F T nx bs) = .go e T' nx' bs' := hk
  cases hkr : cx.run F T nx bs with
  | fail => rw [hkr] at hk; cases hk
  | go e1 T1 nx1 bs1 =>
    rw [hkr] at hk
    refine wp_seq (hx F hF ρ T T1 a nx nx1 bs bs1 w e1 hs hkr _ fun ρ1 a1 w1 h1 h2 => ?_)
    cases e1 with
    | n => exact hy F hF ρ1 T1 T' a1 nx1 nx' bs1 bs' w1 e h1 hk Q fun ρ2 a2 w2 q1 q2 => hq ρ2 a2 w2 q1 (h2.trans q2)
    | x id =>
      injection hk with e1 e2 e3 e4; subst e1; subst e2; subst e3; subst e4
      exact hq ρ1 a1 w1 h1 h2
    | r =>
      injection hk with e1 e2 e3 e4; subst e1; subst e2; subst e3; subst e4
      exact hq ρ1 a1 w1 h1 h2
theorem blkC_snd {x : Code} {cx : CB} (id : Nat) (hx : CCS P G N x cx) : CCS P G N (.block id x) (blkC id cx) := by
  intro F hF ρ T T' a nx nx' bs bs' w e hs hk Q hq
  have hk : blkK id (cx.run F T nx bs) = .go e T' nx' bs' := hk
  cases hkr : cx.run F T nx bs with
  | fail => rw [hkr] at hk; cases hk
  | go e1 T1 nx1 bs1 =>
    rw [hkr] at hk
    refine wp_block (hx F hF ρ T T1 a nx nx1 bs bs1 w e1 hs hkr _ fun ρ1 a1 w1 h1 h2 => ?_)
    cases e1 with
    | n =>
      injection hk with e1 e2 e3 e4; subst e1; subst e2; subst e3; subst e4
      exact hq ρ1 a1 w1 h1 h2
    | x j =>
      have hk : Bool.rec (motive := fun _ => RR) (.go (.x j) T1 nx1 bs1) (.go .n T1 nx1 bs1) (Nat.beq j id) = RR.go e T' nx' bs' := hk
      show if j = id then Q .normal a1 w1 else Q (.exit j) a1 w1
      by_cases hj : j = id
      · rw [if_pos hj]
        rw [beq_yes hj] at hk
        injection hk with e1 e2 e3 e4; subst e1; subst e2; subst e3; subst e4
        exact hq ρ1 a1 w1 h1 h2
      · rw [if_neg hj]
        rw [beq_no hj] at hk
        injection hk with e1 e2 e3 e4; subst e1; subst e2; subst e3; subst e4
        exact hq ρ1 a1 w1 h1 h2
    | r =>
      injection hk with e1 e2 e3 e4; subst e1; subst e2; subst e3; subst e4
      exact hq ρ1 a1 w1 h1 h2
theorem lpC_snd {x : Code} {cx : CB} (fuel : Nat) (hx : CCS P G N x cx) : CCS P G N (.loop x) (lpC fuel cx) := by
  intro F hF ρ T T' a nx nx' bs bs' w e hs hk Q hq
  refine wp_loop_rounds fuel ?_
  induction fuel generalizing ρ T a nx bs w with
  | zero => cases hk
  | succ m ih =>
    rw [rounds_succ]
    have hk : lpK (lpR cx F m) (cx.run F T nx bs) = RR.go e T' nx' bs' := hk
    cases hkr : cx.run F T nx bs with
    | fail => rw [hkr] at hk; cases hk
    | go e1 T1 nx1 bs1 =>
      rw [hkr] at hk
      refine hx F hF ρ T T1 a nx nx1 bs bs1 w e1 hs hkr _ fun ρ1 a1 w1 h1 h2 => ?_
      cases e1 with
      | n => exact ih ρ1 T1 a1 nx1 bs1 w1 h1 hk fun ρ2 a2 w2 q1 q2 => hq ρ2 a2 w2 q1 (h2.trans q2)
      | x id =>
        injection hk with e1 e2 e3 e4; subst e1; subst e2; subst e3; subst e4
        exact hq ρ1 a1 w1 h1 h2
      | r =>
        injection hk with e1 e2 e3 e4; subst e1; subst e2; subst e3; subst e4
        exact hq ρ1 a1 w1 h1 h2
end

end Go.Proofs.YtmbnogellhoheaaGreatDoor.Ev
