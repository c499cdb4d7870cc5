/- Regions in the order of the text. -/
import Derived.Test.YtmbnogellhoheaaGreatDoorEvXg
import Derived.LoopN
namespace Go.Proofs.YtmbnogellhoheaaGreatDoor.Ev
open Go
variable {ρ : Rho}

/-- What a region leaves: its values (the last first), the next name, the blocks. -/
inductive RE where
  | fail
  | mk (L : List V) (nx : Pos) (bs : TB)
abbrev SK := CallF → List V → TS → Pos → TB → RE
/-- A compiled run in a box: the kernel opens it once. -/
inductive SB where
  | mk (k : SK)
noncomputable def SB.run (b : SB) : SK := SB.rec (motive := fun _ => SK) (fun k => k) b
noncomputable def newB (m : NV) (nx : Pos) (bs : TB) : TB := bs.set nx (.mk m.es m.cs.length (into m.cs .e 1))
/-- An operation, and what comes behind it. -/
noncomputable def stepC (c : OC) (k : SB) : SB :=
  match c with
  | .pu f => .mk fun F L T nx bs => Option.rec (motive := fun _ => RE) .fail (fun v => k.run F (v :: L) T nx bs) (f L T)
  | .ld f => .mk fun F L T nx bs => Option.rec (motive := fun _ => RE) .fail (fun v => k.run F (v :: L) T nx bs) (f L T bs)
  | .al f => .mk fun F L T nx bs => Option.rec (motive := fun _ => RE) .fail (fun m => k.run F (m.val nx :: L) T nx.inc (newB m nx bs)) (f L T)
  | .ef f => .mk fun F L T nx bs => RC.rec (motive := fun _ => RE) .fail (fun v nx bs => k.run F (v :: L) T nx bs) (f F L T nx bs)
noncomputable def same (a b : Bool) : Bool := Bool.rec (not b) b a
theorem same_eq (a b : Bool) : same a b = (a == b) := by cases a <;> cases b <;> rfl
/-- Whether a guard's value wants what it should: what was left out itself wants nothing. -/
noncomputable def gwant (v : V) (w : Bool) : Option Bool :=
  V.casesOn (motive_1 := fun _ => Option Bool) v none (fun _ => none) (fun _ => none) (fun _ _ => none) (fun b => some (same b w)) (fun _ _ => none) none (fun _ _ => none) none (fun _ _ _ _ => none) none (fun _ _ => none) (fun _ => none) (fun _ => some false) none (fun _ _ => none) (fun _ => none)
theorem gwant_some {v : V} {w c : Bool} (h : gwant v w = some c) : (∃ b, v = .b b ∧ c = (b == w)) ∨ ∃ cs, v = .t cs ∧ c = false := by
  cases v <;> first
    | (have h : some _ = some c := h; injection h with h; first | exact .inl ⟨_, rfl, by rw [← h, same_eq]⟩ | exact .inr ⟨_, rfl, h.symm⟩)
    | (have h : (none : Option Bool) = some c := h; cases h)
theorem VR_skip (ρ : Rho) : VR ρ (.t []) undef := by
  show VR ρ (.t []) (.tuple #[]); unfold VR; simp [VRs]
/-- An operation that is looked at where a test said what it wants. -/
noncomputable def stepG (g : X) (want : Bool) (c : SB) (k : SB) : SB := .mk fun F L T nx bs =>
  Option.rec (motive := fun _ => RE) .fail (fun b => Bool.rec (k.run F (.t [] :: L) T nx bs) (c.run F L T nx bs) b) (gwant (g L T) want)

/-- An operation's guard, as the value that it looks at. -/
noncomputable def guardX (_G : Ctx) (E : Env) (n : Nat) (all : Array Oper) (o : Oper) : Option (Option (X × Bool)) :=
  match o.guard with
  | none => some none
  | some (j, want) => match (all[j]?).bind (·.dst) with
    | some t => match E.lookF t with
      | some d => some (some (d.x n, want))
      | none => none
    | none => none
noncomputable def stepO (g : Option (X × Bool)) (c : OC) (k : SB) : SB := match g with
  | none => stepC c k
  | some (g, want) => stepG g want (stepC c k) k
def isMove : Op → Option Operand
  | .move x => some x
  | .assign x => some x
  | _ => none
def putE (dst : Option Tmp) (n : Nat) (E : Env) : Env := match dst with
  | some t => (t, .l n) :: E
  | none => E
def okDst (N : Nat) (dst : Option Tmp) : Bool := match dst with
  | some t => Nat.ble (t + 1) N
  | none => true
/-- What a region begins with may be known already: E says it of n values. -/
noncomputable def sreg (Y : TI) (XT : Nat → Option XK) (G : Ctx) (N : Nat) (all : Array Oper) : List Oper → Env → Nat → Option (Env × Nat × SB)
  | [], E, n => some (E, n, .mk fun _ L _ nx bs => .mk L nx bs)
  | o :: os, E, n =>
    if okDst N o.dst = true then
      match guardX G E n all o with
      | none => none
      | some g =>
        match (match g, isMove o.op, o.dst with | none, some x, some t => (cxD G E x).map fun d => (t, d) | _, _, _ => none) with
        | some p => sreg Y XT G N all os (p :: E) n
        | none => match sreg Y XT G N all os (putE o.dst n E) (n + 1) with
          | some (E', n', k) => some (E', n', stepO g (cop Y XT G E n o.op) k)
          | none => none
    else none

/-- The state of an act at a place of a region. -/
structure AR2 (G : Ctx) (ρ : Rho) (E : Env) (n N : Nat) (L : List V) (T : TS) (nx : Pos) (bs : TB) (a : Act) (w : World) : Prop where
  len : L.length = n
  er : ER G ρ E L T a
  hr : HR ρ nx bs w
  size : a.tmps.size = N
  defers : a.defers = []
theorem put_size (a : Act) (dst : Option Tmp) (v : Value) : (a.put dst v).tmps.size = a.tmps.size := by
  cases dst <;> simp [Act.put]
theorem put_defers (a : Act) (dst : Option Tmp) (v : Value) : (a.put dst v).defers = a.defers := by
  cases dst <;> rfl
theorem AR2.push {G : Ctx} {E : Env} {n N : Nat} {L : List V} {T : TS} {nx nx' : Pos} {bs bs' : TB} {a : Act} {w w' : World} (h : AR2 G ρ E n N L T nx bs a w) {ρ' : Rho} (hle : ρ.le ρ') {v : V} {y : Value} (hv : VR ρ' v y) (hh : HR ρ' nx' bs' w') {dst : Option Tmp} (hd : okDst N dst = true) :
    AR2 G ρ' (putE dst n E) (n + 1) N (v :: L) T nx' bs' (a.put dst y) w' := by
  have he := h.er.mono hle
  refine ⟨by rw [List.length_cons, h.len], ?_, hh, by rw [put_size, h.size], by rw [put_defers, h.defers]⟩
  cases dst with
  | none => exact he.skip v
  | some t =>
    have ht : t < a.tmps.size := by rw [h.size]; exact Nat.le_of_ble_eq_true hd
    have := he.push hv ht
    rw [h.len] at this
    exact this
/-- An operation that is compiled, with what comes behind. -/
theorem stepC_snd {P : Program} {G : Ctx} {E : Env} {n N : Nat} {o : Oper} {c : OC} (hc : OCS P G E n o c) (hd : okDst N o.dst = true) {k : SB} {F : CallF} (hF : CallSnd P G F) {ρ : Rho} {L L' : List V} {T : TS} {a : Act} {nx nx' : Pos} {bs bs' : TB} {w : World}
    (hs : AR2 G ρ E n N L T nx bs a w) (hk : (stepC c k).run F L T nx bs = .mk L' nx' bs') {next : Act → World → Prop} {Q : Exit → Act → World → Prop}
    (hnext : ∀ ρ1 v nx1 bs1 a1 w1, AR2 G ρ1 (putE o.dst n E) (n + 1) N (v :: L) T nx1 bs1 a1 w1 → Ext ρ nx bs w ρ1 nx1 bs1 w1 → k.run F (v :: L) T nx1 bs1 = .mk L' nx' bs' → next a1 w1) : o.wp P a w next Q := by
  cases c with
  | pu f =>
    have hk : (Option.rec (motive := fun _ => RE) .fail (fun v => k.run F (v :: L) T nx bs) (f L T)) = .mk L' nx' bs' := hk
    cases hf : f L T with
    | none => rw [hf] at hk; cases hk
    | some v =>
      rw [hf] at hk
      obtain ⟨y, h1, h2⟩ := hc ρ L T a v w hs.len hs.er hf
      exact h1.wp (hnext ρ v nx bs _ w (hs.push (Rho.le_refl ρ) h2 hs.hr hd) (Ext.refl ..) hk)
  | ld f =>
    have hk : (Option.rec (motive := fun _ => RE) .fail (fun v => k.run F (v :: L) T nx bs) (f L T bs)) = .mk L' nx' bs' := hk
    cases hf : f L T bs with
    | none => rw [hf] at hk; cases hk
    | some v =>
      rw [hf] at hk
      obtain ⟨y, h1, h2⟩ := hc ρ L T a nx bs v w hs.len hs.er hs.hr hf
      exact h1.wp (hnext ρ v nx bs _ w (hs.push (Rho.le_refl ρ) h2 hs.hr hd) (Ext.refl ..) hk)
  | al f =>
    have hk : (Option.rec (motive := fun _ => RE) .fail (fun m => k.run F (m.val nx :: L) T nx.inc (newB m nx bs)) (f L T)) = .mk L' nx' bs' := hk
    cases hf : f L T with
    | none => rw [hf] at hk; cases hk
    | some m =>
      rw [hf] at hk
      obtain ⟨res, h1, h2⟩ := hc ρ L T a m w hs.len hs.er hf
      obtain ⟨y, w', ρ', e, h3, h4, h5⟩ := h1.next hs.hr
      exact (h2 y w' e).wp (hnext ρ' _ nx.inc _ _ w' (hs.push h5.le h3 h4 hd) h5 hk)
  | ef f =>
    have hk : (RC.rec (motive := fun _ => RE) .fail (fun v nx bs => k.run F (v :: L) T nx bs) (f F L T nx bs)) = .mk L' nx' bs' := hk
    cases hf : f F L T nx bs with
    | fail => rw [hf] at hk; cases hk
    | mk v nx1 bs1 =>
      rw [hf] at hk
      exact hc F hF ρ L T a nx nx1 bs bs1 v w hs.len hs.er hs.hr hf next Q fun ρ' y w' h1 h2 h3 => hnext ρ' v nx1 bs1 _ w' (hs.push h3.le h1 h2 hd) h3 hk

theorem wanted_none {o : Oper} (h : o.guard = none) (y : Nat → Option Bool) : Region.wanted o y = true := by
  unfold Region.wanted; rw [h]
/-- What a guard says, at a value of the evaluator's. -/
theorem wanted_of {all : Array Oper} {o : Oper} {j : Nat} {want c : Bool} {t : Tmp} (hg : o.guard = some (j, want)) (ht : (all[j]?).bind (·.dst) = some t) {a : Act} {v : V} (hv : VR ρ v (a.tmps.getD t undef)) (hw : gwant v want = some c) : Region.wanted o (yielded all a.tmps) = c := by
  unfold Region.wanted yielded
  rw [hg]
  simp only [ht, Option.bind_some]
  rcases gwant_some hw with ⟨b, rfl, rfl⟩ | ⟨cs, rfl, rfl⟩
  case inr =>
    obtain ⟨xs, hx, -⟩ := hv.t
    rcases Nat.lt_or_ge t a.tmps.size with h | h
    · have e : a.tmps.getD t undef = a.tmps[t] := by simp [h]
      rw [e] at hx
      rw [Array.getElem?_eq_getElem h, hx]
      rfl
    · rw [Array.getElem?_eq_none h]; rfl
  have hb := hv.b
  have h1 : a.tmps[t]? = some (.bool b) := by
    rcases Nat.lt_or_ge t a.tmps.size with h | h
    · have e : a.tmps.getD t undef = a.tmps[t] := by simp [h]
      rw [e] at hb
      rw [Array.getElem?_eq_getElem h, hb]
    · have e : a.tmps.getD t undef = undef := by simp [h]
      rw [e] at hb
      cases hb
  rw [h1]
  cases b <;> cases want <;> rfl
theorem putE_none (n : Nat) (E : Env) : putE none n E = E := rfl

theorem sreg_snd {P : Program} {XT : Nat → Option XK} (hX : ∀ f k, XT f = some k → XOk P f k) {G : Ctx} {N : Nat} {all : Array Oper} {F : CallF} (hF : CallSnd P G F) : ∀ (os : List Oper) (E : Env) (n i : Nat) (E' : Env) (n' : Nat) (k : SB), all.toList.drop i = os → sreg (tiOf P) XT G N all os E n = some (E', n', k) →
    ∀ (ρ : Rho) (L L' : List V) (T : TS) (a : Act) (nx nx' : Pos) (bs bs' : TB) (w : World), AR2 G ρ E n N L T nx bs a w → k.run F L T nx bs = .mk L' nx' bs' →
    ∀ Q : Exit → Act → World → Prop, (∀ ρ' a' w', AR2 G ρ' E' n' N L' T nx' bs' a' w' → Ext ρ nx bs w ρ' nx' bs' w' → Q .normal a' w') → wpOps P all Q (List.range' i os.length) a w
  | [], E, n, i, E', n', k, hi, h, ρ, L, L', T, a, nx, nx', bs, bs', w, hs, hk, Q, hq => by
    simp only [sreg] at h
    injection h with h; injection h with e1 h; injection h with e2 e3
    subst e1; subst e2; subst e3
    injection hk with e1 e2 e3
    subst e1; subst e2; subst e3
    exact hq ρ a w hs (Ext.refl ..)
  | o :: os, E, n, i, E', n', k, hi, h, ρ, L, L', T, a, nx, nx', bs, bs', w, hs, hk, Q, hq => by
    have hoi : all[i]? = some o := by
      have : (all.toList.drop i)[0]? = some o := by rw [hi]; rfl
      rw [List.getElem?_drop] at this
      simpa using this
    have hi' : all.toList.drop (i + 1) = os := by
      have : (all.toList.drop i).drop 1 = os := by rw [hi]; rfl
      rwa [List.drop_drop] at this
    rw [List.length_cons, List.range'_succ, wpOps_cons]
    unfold wpOp
    simp only [hoi]
    unfold sreg at h
    split at h
    case isFalse => cases h
    rename_i hd
    split at h
    · cases h
    rename_i g hg
    split at h
    · rename_i p hp
      split at hp
      case h_2 => cases hp
      rename_i x t hmv hdst
      obtain ⟨d, hxd, rfl⟩ := Option.map_eq_some_iff.1 hp
      have hgn : o.guard = none := by
        unfold guardX at hg
        split at hg
        · assumption
        · split at hg
          · split at hg <;> cases hg
          · cases hg
      rw [if_pos (wanted_none hgn _)]
      refine .inl ?_
      have hlen := hs.len
      subst hlen
      obtain ⟨hok, hv⟩ := cxD_snd hs.er hxd
      have hex : execOp a.eval o = pure (Next.value (a.eval x)) := by
        unfold execOp
        cases ho : o.op <;> rw [ho] at hmv <;> simp only [isMove] at hmv <;> first | (injection hmv with hmv; subst hmv; rfl) | cases hmv
      have hth : Thru P o a w (a.eval x) w := .inl (by rw [hex]; rfl)
      refine hth.wp ?_
      rw [hdst]
      have htN : t < a.tmps.size := by rw [hs.size]; rw [hdst] at hd; exact Nat.le_of_ble_eq_true hd
      exact sreg_snd hX hF os _ _ (i + 1) E' n' k hi' h ρ L L' T _ nx nx' bs bs' w ⟨rfl, hs.er.alias hok hv htN, hs.hr, by rw [put_size, hs.size], by rw [put_defers, hs.defers]⟩ hk Q hq
    · split at h
      case h_2 => cases h
      rename_i E1 n1 k1 hr
      injection h with h; injection h with e1 h; injection h with e2 e3
      subst e1; subst e2; subst e3
      have hoc := cop_snd (P := P) (G := G) (E := E) (n := n) (o := o) hX
      generalize cop (tiOf P) XT G E n o.op = c at *
      have go : ∀ (hk : (stepC c k1).run F L T nx bs = .mk L' nx' bs'), o.wp P a w (wpOps P all Q (List.range' (i + 1) os.length)) Q := fun hk =>
        stepC_snd hoc hd hF hs hk fun ρ1 v nx1 bs1 a1 w1 h1 h2 h3 => sreg_snd hX hF os _ _ (i + 1) _ _ k1 hi' hr ρ1 _ L' T a1 nx1 nx' bs1 bs' w1 h1 h3 Q fun ρ' a' w' q1 q2 => hq ρ' a' w' q1 (h2.trans q2)
      unfold guardX at hg
      split at hg
      · rename_i hgn
        injection hg with hg; subst hg
        rw [if_pos (wanted_none hgn _)]
        exact .inl (go hk)
      · rename_i j want hgs
        split at hg
        case h_2 => cases hg
        rename_i t ht
        split at hg
        case h_2 => cases hg
        rename_i d hl
        injection hg with hg; subst hg
        have hk : (Option.rec (motive := fun _ => RE) .fail (fun b => Bool.rec (k1.run F (.t [] :: L) T nx bs) ((stepC c k1).run F L T nx bs) b) (gwant (d.x n L T) want)) = .mk L' nx' bs' := hk
        have hlen := hs.len
        subst hlen
        rw [Env.lookF_eq] at hl
        obtain ⟨hok, hv⟩ := hs.er.env t d hl
        cases hw : gwant (d.x L.length L T) want with
        | none => rw [hw] at hk; cases hk
        | some b =>
          rw [hw] at hk
          rw [wanted_of hgs ht hv hw]
          cases b with
          | true =>
            rw [if_pos rfl]
            exact .inl (go hk)
          | false =>
            have hk : k1.run F (.t [] :: L) T nx bs = .mk L' nx' bs' := hk
            rw [if_neg (by simp)]
            exact sreg_snd hX hF os _ _ (i + 1) _ _ k1 hi' hr ρ _ L' T _ nx nx' bs bs' w (hs.push (Rho.le_refl ρ) (v := .t []) (VR_skip ρ) hs.hr hd) hk Q hq

end Go.Proofs.YtmbnogellhoheaaGreatDoor.Ev

/- Code compiled. -/
namespace Go.Proofs.YtmbnogellhoheaaGreatDoor.Ev
open Go
variable {ρ : Rho}

/-- How code is left. -/
inductive EX where
  | n
  | x (id : Nat)
  | r
def EX.exit : EX → Exit
  | .n => .normal
  | .x id => .exit id
  | .r => .ret
inductive RR where
  | fail
  | go (e : EX) (T : TS) (nx : Pos) (bs : TB)
abbrev CC := CallF → TS → Pos → TB → RR
inductive CB where
  | mk (k : CC)
noncomputable def CB.run (b : CB) : CC := CB.rec (motive := fun _ => CC) (fun k => k) b

/-! ### slots written at a region's end -/
noncomputable def wlist (G : Ctx) (n : Nat) : Env → List (Pos × X)
  | [] => []
  | (t, d) :: E => if G.kept t = true then (pos t, d.x n) :: wlist G n E else wlist G n E
noncomputable def writes (ws : List (Pos × X)) (L : List V) (T : TS) : TS := List.rec (motive := fun _ => TS) T (fun p _ ih => TS.set p.1 (p.2 L T) ih) ws
theorem writes_get (G : Ctx) (L : List V) (T : TS) {t : Nat} (hk : G.kept t = true) : ∀ E : Env, (writes (wlist G L.length E) L T).get (pos t) = match E.look t with
    | some d => d.x L.length L T
    | none => T.get (pos t)
  | [] => rfl
  | (u, d) :: E => by
    have ih := writes_get G L T hk E
    unfold wlist
    by_cases hu : G.kept u = true
    · rw [if_pos hu]
      show (TS.set (pos u) (d.x L.length L T) (writes (wlist G L.length E) L T)).get (pos t) = _
      by_cases e : u = t
      · subst e
        rw [TS.get_set_same]
        simp [Env.look]
      · rw [TS.get_set_ne _ (fun h => e (pos_inj h)), ih]
        simp [Env.look, e]
    · rw [if_neg hu, ih]
      have e : u ≠ t := fun h => hu (h ▸ hk)
      simp [Env.look, e]
/-- The state of an act between regions. -/
abbrev St (G : Ctx) (ρ : Rho) (N : Nat) (T : TS) (nx : Pos) (bs : TB) (a : Act) (w : World) : Prop := AR2 G ρ [] 0 N [] T nx bs a w
theorem AR2.shut {G : Ctx} {E : Env} {n N : Nat} {L : List V} {T : TS} {nx : Pos} {bs : TB} {a : Act} {w : World} (h : AR2 G ρ E n N L T nx bs a w) : St G ρ N (writes (wlist G n E) L T) nx bs a w := by
  refine ⟨rfl, ⟨fun t d e => by simp [Env.look] at e, fun t _ hk => ?_, h.er.glob⟩, h.hr, h.size, h.defers⟩
  have hl := h.len
  subst hl
  rw [writes_get G L T hk E]
  cases hl : E.look t with
  | none => exact h.er.slot t hl hk
  | some d => exact (h.er.env t d hl).2

/-! ### what compiled regions and compiled code say -/
def RegS (P : Program) (G : Ctx) (N : Nat) (c : Code) (E : Env) (n : Nat) (k : SB) : Prop :=
  ∀ F, CallSnd P G F → ∀ (ρ : Rho) (T : TS) (a : Act) (nx nx' : Pos) (bs bs' : TB) (w : World) (L' : List V), St G ρ N T nx bs a w → k.run F [] T nx bs = .mk L' nx' bs' →
    ∀ Q : Exit → Act → World → Prop, (∀ ρ' a' w', AR2 G ρ' E n N L' T nx' bs' a' w' → Ext ρ nx bs w ρ' nx' bs' w' → Q .normal a' w') → c.wp P Q a w
def CCS (P : Program) (G : Ctx) (N : Nat) (c : Code) (cc : CB) : Prop :=
  ∀ F, CallSnd P G F → ∀ (ρ : Rho) (T T' : TS) (a : Act) (nx nx' : Pos) (bs bs' : TB) (w : World) (e : EX), St G ρ N T nx bs a w → cc.run F T nx bs = .go e T' nx' bs' →
    ∀ Q : Exit → Act → World → Prop, (∀ ρ' a' w', St G ρ' N T' nx' bs' a' w' → Ext ρ nx bs w ρ' nx' bs' w' → Q e.exit a' w') → c.wp P Q a w

noncomputable def skipC : CB := .mk fun _ T nx bs => .go .n T nx bs
noncomputable def exitC (id : Nat) : CB := .mk fun _ T nx bs => .go (.x id) T nx bs
noncomputable def retC : CB := .mk fun _ T nx bs => .go .r T nx bs
noncomputable def finK (ws : List (Pos × X)) (T : TS) (r : RE) : RR := RE.rec (motive := fun _ => RR) .fail (fun L nx bs => .go .n (writes ws L T) nx bs) r
noncomputable def finC (ws : List (Pos × X)) (k : SB) : CB := .mk fun F T nx bs => finK ws T (k.run F [] T nx bs)
noncomputable def tstK (ws : List (Pos × X)) (x : X) (c d : CB) (F : CallF) (T : TS) (r : RE) : RR := RE.rec (motive := fun _ => RR) .fail (fun L nx bs =>
  asB (x L T) .fail fun b => Bool.rec (d.run F (writes ws L T) nx bs) (c.run F (writes ws L T) nx bs) b) r
noncomputable def tstC (ws : List (Pos × X)) (k : SB) (x : X) (c d : CB) : CB := .mk fun F T nx bs => tstK ws x c d F T (k.run F [] T nx bs)
noncomputable def cndC (x : X) (c d : CB) : CB := .mk fun F T nx bs => asB (x [] T) .fail fun b => Bool.rec (d.run F T nx bs) (c.run F T nx bs) b
noncomputable def seqK (d : CB) (F : CallF) (r : RR) : RR := RR.rec (motive := fun _ => RR) .fail (fun e T nx bs => EX.rec (motive := fun _ => RR) (d.run F T nx bs) (fun id => .go (.x id) T nx bs) (.go .r T nx bs) e) r
noncomputable def seqC (c d : CB) : CB := .mk fun F T nx bs => seqK d F (c.run F T nx bs)
noncomputable def blkK (id : Nat) (r : RR) : RR := RR.rec (motive := fun _ => RR) .fail (fun e T nx bs => EX.rec (motive := fun _ => RR) (.go .n T nx bs) (fun j => Bool.rec (.go (.x j) T nx bs) (.go .n T nx bs) (Nat.beq j id)) (.go .r T nx bs) e) r
noncomputable def blkC (id : Nat) (c : CB) : CB := .mk fun F T nx bs => blkK id (c.run F T nx bs)
noncomputable def lpK (ih : TS → Pos → TB → RR) (r : RR) : RR := RR.rec (motive := fun _ => RR) .fail (fun e T nx bs => EX.rec (motive := fun _ => RR) (ih T nx bs) (fun id => .go (.x id) T nx bs) (.go .r T nx bs) e) r
noncomputable def lpR (c : CB) (F : CallF) (fuel : Nat) : TS → Pos → TB → RR := Nat.rec (motive := fun _ => TS → Pos → TB → RR) (fun _ _ _ => .fail) (fun _ ih T nx bs => lpK ih (c.run F T nx bs)) fuel
noncomputable def lpC (fuel : Nat) (c : CB) : CB := .mk fun F => lpR c F fuel

section
variable {P : Program} {G : Ctx} {N : Nat}
theorem skipC_snd {c : Code} (h : ∀ (Q : Exit → Act → World → Prop) a w, Q .normal a w → c.wp P Q a w) : CCS P G N c skipC := by
  intro F hF ρ T T' a nx nx' bs bs' w e hs hk Q hq
  injection hk with e1 e2 e3 e4; subst e1; subst e2; subst e3; subst e4
  exact h Q a w (hq ρ a w hs (Ext.refl ..))
theorem exitC_snd (id : Nat) : CCS P G N (.exit id) (exitC id) := by
  intro F hF ρ T T' a nx nx' bs bs' w e hs hk Q hq
  injection hk with e1 e2 e3 e4; subst e1; subst e2; subst e3; subst e4
  exact wp_exit (hq ρ a w hs (Ext.refl ..))
theorem retC_snd : CCS P G N .ret retC := by
  intro F hF ρ T T' a nx nx' bs bs' w e hs hk Q hq
  injection hk with e1 e2 e3 e4; subst e1; subst e2; subst e3; subst e4
  exact wp_ret (hq ρ a w hs (Ext.refl ..))
theorem finC_snd {c : Code} {E : Env} {n : Nat} {k : SB} (hr : RegS P G N c E n k) : CCS P G N c (finC (wlist G n E) k) := by
  intro F hF ρ T T' a nx nx' bs bs' w e hs hk Q hq
  have hk : finK (wlist G n E) T (k.run F [] T nx bs) = .go e T' nx' bs' := hk
  cases hkr : k.run F [] T nx bs with
  | fail => rw [hkr] at hk; cases hk
  | mk L nx1 bs1 =>
    rw [hkr] at hk
    injection hk with e1 e2 e3 e4; subst e1; subst e2; subst e3; subst e4
    exact hr F hF ρ T a nx _ bs _ w L hs hkr Q fun ρ' a' w' h1 h2 => hq ρ' a' w' h1.shut h2
theorem asB_go {v : V} {k : Bool → RR} {e : EX} {T : TS} {nx : Pos} {bs : TB} (h : asB v .fail k = .go e T nx bs) : ∃ b, v = .b b ∧ k b = .go e T nx bs := by
  cases v <;> first | exact ⟨_, rfl, h⟩ | (have h : RR.fail = .go e T nx bs := h; cases h)
theorem tst_wp {c x y : Code} {E : Env} {n : Nat} {k : SB} {o : Operand} {f : X} {cx cy : CB} (hr : RegS P G N c E n k) (hf : opX G E n o = some f) (hx : CCS P G N x cx) (hy : CCS P G N y cy) {F : CallF} (hF : CallSnd P G F) {T T' : TS} {a : Act} {nx nx' : Pos} {bs bs' : TB} {w : World} {e : EX}
    (hs : St G ρ N T nx bs a w) (hk : (tstC (wlist G n E) k f cx cy).run F T nx bs = .go e T' nx' bs') {Q Q' : Exit → Act → World → Prop} (hq : ∀ ρ' a' w', St G ρ' N T' nx' bs' a' w' → Ext ρ nx bs w ρ' nx' bs' w' → Q e.exit a' w') : c.wp P (Exit.then ((Code.cond o x y).wp P Q) Q') a w := by
  have hk : tstK (wlist G n E) f cx cy F T (k.run F [] T nx bs) = .go e T' nx' bs' := hk
  cases hkr : k.run F [] T nx bs with
  | fail => rw [hkr] at hk; cases hk
  | mk L nx1 bs1 =>
    rw [hkr] at hk
    obtain ⟨b, hb, hk⟩ := asB_go hk
    refine hr F hF ρ T a nx _ bs _ w L hs hkr _ fun ρ' a' w' h1 h2 => ?_
    have hv := opX_snd h1.len h1.er hf
    rw [hb] at hv
    have hv := hv.b
    refine wp_cond hv ?_
    cases b with
    | true => exact hx F hF ρ' _ T' a' nx1 nx' bs1 bs' w' e h1.shut hk Q fun ρ2 a2 w2 q1 q2 => hq ρ2 a2 w2 q1 (h2.trans q2)
    | false => exact hy F hF ρ' _ T' a' nx1 nx' bs1 bs' w' e h1.shut hk Q fun ρ2 a2 w2 q1 q2 => hq ρ2 a2 w2 q1 (h2.trans q2)
theorem tstC_snd {c x y : Code} {E : Env} {n : Nat} {k : SB} {o : Operand} {f : X} {cx cy : CB} (hr : RegS P G N c E n k) (hf : opX G E n o = some f) (hx : CCS P G N x cx) (hy : CCS P G N y cy) : CCS P G N (.seq c (.cond o x y)) (tstC (wlist G n E) k f cx cy) := by
  intro F hF ρ T T' a nx nx' bs bs' w e hs hk Q hq
  exact wp_seq (tst_wp hr hf hx hy hF hs hk hq)
theorem tstS_snd {c x y z : Code} {E : Env} {n : Nat} {k : SB} {o : Operand} {f : X} {cx cy cz : CB} (hr : RegS P G N c E n k) (hf : opX G E n o = some f) (hx : CCS P G N x cx) (hy : CCS P G N y cy) (hz : CCS P G N z cz) :
    CCS P G N (.seq c (.seq (.cond o x y) z)) (seqC (tstC (wlist G n E) k f cx cy) cz) := by
  intro F hF ρ T T' a nx nx' bs bs' w e hs hk Q hq
  have hk : seqK cz F ((tstC (wlist G n E) k f cx cy).run F T nx bs) = .go e T' nx' bs' := hk
  cases hkr : (tstC (wlist G n E) k f cx cy).run F T nx bs with
  | fail => rw [hkr] at hk; cases hk
  | go e1 T1 nx1 bs1 =>
    rw [hkr] at hk
    refine wp_seq (wp_mono (tst_wp hr hf hx hy hF hs hkr (Q := Exit.then (z.wp P Q) Q) (Q' := Q) fun ρ1 a1 w1 h1 h2 => ?_) fun e a w h => ?_)
    · cases e1 with
      | n => exact hz F hF ρ1 T1 T' a1 nx1 nx' bs1 bs' w1 e h1 hk Q fun ρ2 a2 w2 q1 q2 => hq ρ2 a2 w2 q1 (h2.trans q2)
      | x id =>
        injection hk with e1 e2 e3 e4; subst e1; subst e2; subst e3; subst e4
        exact hq ρ1 a1 w1 h1 h2
      | r =>
        injection hk with e1 e2 e3 e4; subst e1; subst e2; subst e3; subst e4
        exact hq ρ1 a1 w1 h1 h2
    · cases e with
      | normal => exact wp_seq h
      | _ => exact h
theorem cndC_snd {x y : Code} {o : Operand} {f : X} {cx cy : CB} (hf : opX G [] 0 o = some f) (hx : CCS P G N x cx) (hy : CCS P G N y cy) : CCS P G N (.cond o x y) (cndC f cx cy) := by
  intro F hF ρ T T' a nx nx' bs bs' w e hs hk Q hq
  obtain ⟨b, hb, hk⟩ := asB_go hk
  have hv := opX_snd hs.len hs.er hf
  rw [hb] at hv
  have hv := hv.b
  refine wp_cond hv ?_
  cases b with
  | true => exact hx F hF ρ _ T' a nx nx' bs bs' w e hs hk Q hq
  | false => exact hy F hF ρ _ T' a nx nx' bs bs' w e hs hk Q hq
theorem seqC_snd {x y : Code} {cx cy : CB} (hx : CCS P G N x cx) (hy : CCS P G N y cy) : CCS P G N (.seq x y) (seqC cx cy) := by
  intro F hF ρ T T' a nx nx' bs bs' w e hs hk Q hq
  have hk : seqK cy F (cx.run F T nx bs) = .go e T' nx' bs' := hk
  cases hkr : cx.run F T nx bs with
  | fail => rw [hkr] at hk; cases hk
  | go e1 T1 nx1 bs1 =>
    rw [hkr] at hk
    refine wp_seq (hx F hF ρ T T1 a nx nx1 bs bs1 w e1 hs hkr _ fun ρ1 a1 w1 h1 h2 => ?_)
    cases e1 with
    | n => exact hy F hF ρ1 T1 T' a1 nx1 nx' bs1 bs' w1 e h1 hk Q fun ρ2 a2 w2 q1 q2 => hq ρ2 a2 w2 q1 (h2.trans q2)
    | x id =>
      injection hk with e1 e2 e3 e4; subst e1; subst e2; subst e3; subst e4
      exact hq ρ1 a1 w1 h1 h2
    | r =>
      injection hk with e1 e2 e3 e4; subst e1; subst e2; subst e3; subst e4
      exact hq ρ1 a1 w1 h1 h2
theorem blkC_snd {x : Code} {cx : CB} (id : Nat) (hx : CCS P G N x cx) : CCS P G N (.block id x) (blkC id cx) := by
  intro F hF ρ T T' a nx nx' bs bs' w e hs hk Q hq
  have hk : blkK id (cx.run F T nx bs) = .go e T' nx' bs' := hk
  cases hkr : cx.run F T nx bs with
  | fail => rw [hkr] at hk; cases hk
  | go e1 T1 nx1 bs1 =>
    rw [hkr] at hk
    refine wp_block (hx F hF ρ T T1 a nx nx1 bs bs1 w e1 hs hkr _ fun ρ1 a1 w1 h1 h2 => ?_)
    cases e1 with
    | n =>
      injection hk with e1 e2 e3 e4; subst e1; subst e2; subst e3; subst e4
      exact hq ρ1 a1 w1 h1 h2
    | x j =>
      have hk : Bool.rec (motive := fun _ => RR) (.go (.x j) T1 nx1 bs1) (.go .n T1 nx1 bs1) (Nat.beq j id) = RR.go e T' nx' bs' := hk
      show if j = id then Q .normal a1 w1 else Q (.exit j) a1 w1
      by_cases hj : j = id
      · rw [if_pos hj]
        rw [beq_yes hj] at hk
        injection hk with e1 e2 e3 e4; subst e1; subst e2; subst e3; subst e4
        exact hq ρ1 a1 w1 h1 h2
      · rw [if_neg hj]
        rw [beq_no hj] at hk
        injection hk with e1 e2 e3 e4; subst e1; subst e2; subst e3; subst e4
        exact hq ρ1 a1 w1 h1 h2
    | r =>
      injection hk with e1 e2 e3 e4; subst e1; subst e2; subst e3; subst e4
      exact hq ρ1 a1 w1 h1 h2
theorem lpC_snd {x : Code} {cx : CB} (fuel : Nat) (hx : CCS P G N x cx) : CCS P G N (.loop x) (lpC fuel cx) := by
  intro F hF ρ T T' a nx nx' bs bs' w e hs hk Q hq
  refine wp_loop_rounds fuel ?_
  induction fuel generalizing ρ T a nx bs w with
  | zero => cases hk
  | succ m ih =>
    rw [rounds_succ]
    have hk : lpK (lpR cx F m) (cx.run F T nx bs) = RR.go e T' nx' bs' := hk
    cases hkr : cx.run F T nx bs with
    | fail => rw [hkr] at hk; cases hk
    | go e1 T1 nx1 bs1 =>
      rw [hkr] at hk
      refine hx F hF ρ T T1 a nx nx1 bs bs1 w e1 hs hkr _ fun ρ1 a1 w1 h1 h2 => ?_
      cases e1 with
      | n => exact ih ρ1 T1 a1 nx1 bs1 w1 h1 hk fun ρ2 a2 w2 q1 q2 => hq ρ2 a2 w2 q1 (h2.trans q2)
      | x id =>
        injection hk with e1 e2 e3 e4; subst e1; subst e2; subst e3; subst e4
        exact hq ρ1 a1 w1 h1 h2
      | r =>
        injection hk with e1 e2 e3 e4; subst e1; subst e2; subst e3; subst e4
        exact hq ρ1 a1 w1 h1 h2
end

end Go.Proofs.YtmbnogellhoheaaGreatDoor.Ev

/- Regions in whatever order: what holds of every set of operations that are through holds at the end. -/
namespace Go.Proofs.YtmbnogellhoheaaGreatDoor.Ev
open Go
variable {ρ : Rho}

abbrev Done := Nat → Bool
def Done.put (S : Done) (i : Nat) : Done := fun j => if j = i then true else S j
def doneOf (listed : Array Bool) : Done := fun i => listed.getD i false
theorem doneOf_set {listed : Array Bool} {i : Nat} (h : i < listed.size) : doneOf (listed.setIfInBounds i true) = (doneOf listed).put i := by
  funext j
  unfold doneOf Done.put
  by_cases e : j = i
  · subst e; rw [if_pos rfl]; simp [h]
  · rw [if_neg e]; simp [Array.getElem?_setIfInBounds_ne (Ne.symm e)]
theorem mem_ready {ops : Array Oper} {listed : Array Bool} {i : Nat} (h : i ∈ Region.ready .any ops listed) : i < ops.size ∧ listed.getD i true = false ∧ ∃ o, ops[i]? = some o ∧ ∀ e ∈ o.after, Region.binds .any e = true → doneOf listed e.on = true := by
  unfold Region.ready at h
  rw [List.mem_filter, List.mem_range] at h
  obtain ⟨h1, h2⟩ := h
  rw [Bool.and_eq_true] at h2
  obtain ⟨h2, h3⟩ := h2
  refine ⟨h1, by simpa using h2, ops[i], by simp [h1], ?_⟩
  rw [Array.getElem?_eq_getElem h1] at h3
  simp only [Option.map_some, Option.getD_some, Array.all_eq_true_iff_forall_mem] at h3
  intro e he hb
  have := h3 e he
  rw [hb] at this
  simpa [doneOf] using this
theorem ready_of {ops : Array Oper} {listed : Array Bool} {i : Nat} {o : Oper} (h1 : ops[i]? = some o) (h2 : listed.getD i true = false) (h3 : ∀ e ∈ o.after, Region.binds .any e = true → doneOf listed e.on = true) : i ∈ Region.ready .any ops listed := by
  have hi : i < ops.size := by
    rcases Nat.lt_or_ge i ops.size with h | h
    · exact h
    · rw [Array.getElem?_eq_none h] at h1; cases h1
  unfold Region.ready
  rw [List.mem_filter, List.mem_range]
  refine ⟨hi, ?_⟩
  rw [Bool.and_eq_true]
  refine ⟨by simpa using h2, ?_⟩
  rw [h1]
  simp only [Option.map_some, Option.getD_some, Array.all_eq_true_iff_forall_mem]
  intro e he
  cases hb : Region.binds .any e with
  | false => rfl
  | true => have := h3 e he hb; simpa [doneOf] using this
/-- How many are left. -/
def left (n : Nat) (listed : Array Bool) : Nat := ((List.range n).filter fun i => !listed.getD i true).length
theorem left_set {n i : Nat} {listed : Array Bool} (hi : i < n) (hs : listed.size = n) (h : listed.getD i true = false) : left n (listed.setIfInBounds i true) < left n listed := by
  unfold left
  have key : ∀ l : List Nat, ((l.filter fun j => !(listed.setIfInBounds i true).getD j true).length ≤ (l.filter fun j => !listed.getD j true).length) ∧ (i ∈ l → (l.filter fun j => !(listed.setIfInBounds i true).getD j true).length < (l.filter fun j => !listed.getD j true).length) := by
    intro l
    induction l with
    | nil => simp
    | cons x l ih =>
      obtain ⟨ih1, ih2⟩ := ih
      by_cases e : x = i
      · subst e
        have e1 : (listed.setIfInBounds x true).getD x true = true := by simp [hs, hi]
        rw [List.filter_cons_of_neg (by simp [e1]), List.filter_cons_of_pos (by simp [h]), List.length_cons]
        exact ⟨by omega, fun _ => by omega⟩
      · have e1 : (listed.setIfInBounds i true).getD x true = listed.getD x true := by simp [Array.getElem?_setIfInBounds_ne (Ne.symm e)]
        cases hx : listed.getD x true with
        | true =>
          rw [List.filter_cons_of_neg (by rw [e1, hx]; simp), List.filter_cons_of_neg (by rw [hx]; simp)]
          exact ⟨ih1, fun hm => ih2 (by cases hm with | head => exact absurd rfl e | tail _ h => exact h)⟩
        | false =>
          rw [List.filter_cons_of_pos (by rw [e1, hx]; simp), List.filter_cons_of_pos (by rw [hx]; simp), List.length_cons, List.length_cons]
          exact ⟨by omega, fun hm => by have := ih2 (by cases hm with | head => exact absurd rfl e | tail _ h => exact h); omega⟩
  exact (key _).2 (List.mem_range.2 hi)

theorem wpAny_of {P : Program} {ops : Array Oper} {Q : Exit → Act → World → Prop} (Inv : Done → Act → World → Prop)
    (hedge : ∀ i o, ops[i]? = some o → ∀ e ∈ o.after, Region.binds .any e = true → e.on < i)
    (hstep : ∀ (S : Done) (i : Nat) (o : Oper) (a : Act) (w : World) (K : Act → World → Prop), Inv S a w → ops[i]? = some o → S i = false → (∀ e ∈ o.after, Region.binds .any e = true → S e.on = true) → (∀ a' w', Inv (S.put i) a' w' → K a' w') → wpOp P ops Q i K a w)
    (hfin : ∀ (S : Done) (a : Act) (w : World), (∀ i, i < ops.size → S i = true) → Inv S a w → Q .normal a w) :
    ∀ (fuel : Nat) (listed : Array Bool) (a : Act) (w : World), listed.size = ops.size → left ops.size listed ≤ fuel → Inv (doneOf listed) a w → wpAny P .any ops Q fuel listed a w := by
  have none : ∀ (listed : Array Bool), listed.size = ops.size → Region.ready .any ops listed = [] → ∀ i, i < ops.size → doneOf listed i = true := by
    intro listed hs hr i
    induction i using Nat.strongRecOn with
    | _ i ih =>
      intro hi
      cases hd : doneOf listed i with
      | true => rfl
      | false =>
        have hl : listed.getD i true = false := by
          unfold doneOf at hd
          have hi' : i < listed.size := by omega
          simpa [hi'] using hd
        have := ready_of (ops := ops) (listed := listed) (i := i) (o := ops[i]) (by simp [hi]) hl fun e he hb => by
          have hlt := hedge i ops[i] (by simp [hi]) e he hb
          exact ih e.on hlt (by omega)
        rw [hr] at this
        cases this
  intro fuel
  induction fuel with
  | zero =>
    intro listed a w hs hl hI
    have hr : Region.ready .any ops listed = [] := by
      cases hr : Region.ready .any ops listed with
      | nil => rfl
      | cons i l =>
        have hm : i ∈ Region.ready .any ops listed := by rw [hr]; exact List.mem_cons_self
        obtain ⟨h1, h2, -⟩ := mem_ready hm
        have := left_set h1 hs h2
        omega
    exact ⟨hr, hfin _ a w (none listed hs hr) hI⟩
  | succ fuel ih =>
    intro listed a w hs hl hI
    refine ⟨fun hr => hfin _ a w (none listed hs hr) hI, fun i hm => ?_⟩
    obtain ⟨h1, h2, o, h3, h4⟩ := mem_ready hm
    have hlt := left_set h1 hs h2
    have hS : doneOf listed i = false := by
      unfold doneOf
      have hi' : i < listed.size := by omega
      simpa [hi'] using h2
    refine hstep (doneOf listed) i o a w _ hI h3 hS h4 fun a' w' hI' => ih _ a' w' (by simpa using hs) (by omega) ?_
    rw [doneOf_set (by omega)]
    exact hI'
/-- A region that draws its order. -/
theorem wp_drawn {P : Program} {ops : Array Oper} {Q : Exit → Act → World → Prop} {id : Nat} {a : Act} {w : World} (hm : P.follows .mixedOrders = true) (Inv : Done → Act → World → Prop)
    (hedge : ∀ i o, ops[i]? = some o → ∀ e ∈ o.after, Region.binds .any e = true → e.on < i)
    (hstep : ∀ (S : Done) (i : Nat) (o : Oper) (a : Act) (w : World) (K : Act → World → Prop), Inv S a w → ops[i]? = some o → S i = false → (∀ e ∈ o.after, Region.binds .any e = true → S e.on = true) → (∀ a' w', Inv (S.put i) a' w' → K a' w') → wpOp P ops Q i K a w)
    (hfin : ∀ (S : Done) (a : Act) (w : World), (∀ i, i < ops.size → S i = true) → Inv S a w → Q .normal a w)
    (h0 : Inv (fun _ => false) a { w with drawn := w.drawn + 1 }) : (Code.region id ops true).wp P Q a w := by
  refine wp_region_any hm (wpAny_of Inv hedge hstep hfin ops.size _ a _ (by simp) ?_ ?_)
  · unfold left
    have := List.length_filter_le (fun i => !(Array.replicate ops.size false).getD i true) (List.range ops.size)
    rw [List.length_range] at this
    exact this
  · have e : doneOf (Array.replicate ops.size false) = fun _ => false := by
      funext i
      unfold doneOf
      by_cases h : i < ops.size
      · simp [h]
      · simp [h]
    rw [e]; exact h0

end Go.Proofs.YtmbnogellhoheaaGreatDoor.Ev

/- Drawn regions: items, their run in the order of the text, and what that run says of each. -/
namespace Go.Proofs.YtmbnogellhoheaaGreatDoor.Ev
open Go
variable {ρ : Rho}

/-- Equal values, of the flat kinds. -/
noncomputable def posEq (p q : Pos) : Bool := Nat.beq p.val q.val
noncomputable def veq0 (x y : V) : Bool :=
  V.casesOn (motive_1 := fun _ => Bool) x (isU y) (fun a => asN y false fun b => Nat.beq a b) (fun a => asY y false fun b => Nat.beq a b) (fun _ _ => false) (fun a => asB y false fun b => same a b) (fun l a => asS y false fun k b => cond (Nat.beq l k) (Nat.beq a b) false)
    (asPs y false true fun _ _ => false) (fun p a => asP y false fun q b => cond (posEq p q) (Nat.beq a b) false) (asL y false true fun _ _ _ _ => false) (fun p a b c => asL y false false fun q d e f => cond (posEq p q) (cond (Nat.beq a d) (cond (Nat.beq b e) (Nat.beq c f) false) false) false)
    (asF y false true fun _ _ => false) (fun _ _ => false) (fun _ => false) (fun _ => false) (asI y false true) (fun k i => asA y false fun k' j => cond (Nat.beq k k') (posEq i j) false) (fun _ => false)
theorem cond_true' {c x : Bool} (h : cond c x false = true) : c = true ∧ x = true := by cases c <;> simp_all
theorem posEq_eq {p q : Pos} (h : posEq p q = true) : p = q := Pos.val_inj _ _ (Nat.eq_of_beq_eq_true h)
theorem same_true {a b : Bool} (h : same a b = true) : a = b := by rw [same_eq] at h; simpa using h
theorem isU_true {y : V} (h : isU y = true) : y = .u := by
  cases y <;> first | rfl | (have h : false = true := h; cases h)
theorem veq0_eq {x y : V} (h : veq0 x y = true) : x = y := by
  by_cases hx : x = .u
  · subst hx; exact (isU_true h).symm
  revert hx; intro hx
  cases x <;> cases y <;> first
    | rfl
    | (have h : Nat.beq _ _ = true := h; rw [Nat.eq_of_beq_eq_true h])
    | (have h : same _ _ = true := h; rw [same_true h])
    | (have h : cond (Nat.beq _ _) (Nat.beq _ _) false = true := h
       obtain ⟨h1, h2⟩ := cond_true' h
       rw [Nat.eq_of_beq_eq_true h1, Nat.eq_of_beq_eq_true h2])
    | (have h : cond (posEq _ _) (Nat.beq _ _) false = true := h
       obtain ⟨h1, h2⟩ := cond_true' h
       rw [posEq_eq h1, Nat.eq_of_beq_eq_true h2])
    | (have h : cond (posEq _ _) (cond (Nat.beq _ _) (cond (Nat.beq _ _) (Nat.beq _ _) false) false) false = true := h
       obtain ⟨h1, h2⟩ := cond_true' h
       obtain ⟨h2, h3⟩ := cond_true' h2
       obtain ⟨h3, h4⟩ := cond_true' h3
       rw [posEq_eq h1, Nat.eq_of_beq_eq_true h2, Nat.eq_of_beq_eq_true h3, Nat.eq_of_beq_eq_true h4])
    | (have h : cond (Nat.beq _ _) (posEq _ _) false = true := h
       obtain ⟨h1, h2⟩ := cond_true' h
       rw [Nat.eq_of_beq_eq_true h1, posEq_eq h2])
    | (have h : false = true := h; cases h)

noncomputable def veqs0 (cs ds : List V) : Bool := List.rec (motive := fun _ => List V → Bool) (fun ds => List.casesOn ds true fun _ _ => false) (fun c _ ih ds => List.casesOn ds false fun d ds => cond (veq0 c d) (ih ds) false) cs ds
theorem veqs0_eq : ∀ {cs ds : List V}, veqs0 cs ds = true → cs = ds
  | [], [], _ => rfl
  | [], _ :: _, h => by cases h
  | _ :: _, [], h => by cases h
  | c :: cs, d :: ds, h => by
    obtain ⟨h1, h2⟩ := cond_true' (c := veq0 c d) (x := veqs0 cs ds) h
    rw [veq0_eq h1, veqs0_eq h2]
noncomputable def veq1 (x y : V) : Bool :=
  V.casesOn (motive_1 := fun _ => Bool) x (isU y) (fun _ => veq0 x y) (fun _ => veq0 x y) (fun _ _ => veq0 x y) (fun _ => veq0 x y) (fun _ _ => veq0 x y) (veq0 x y) (fun _ _ => veq0 x y) (veq0 x y) (fun _ _ _ _ => veq0 x y) (veq0 x y) (fun _ _ => veq0 x y) (fun _ => false) (fun _ => false) (veq0 x y) (fun _ _ => veq0 x y) (fun cs => asW y false fun ds => veqs0 cs ds)
theorem veq1_eq {x y : V} (h : veq1 x y = true) : x = y := by
  cases x with
  | u => exact (isU_true h).symm
  | w cs => cases y <;> first | (have h : veqs0 cs _ = true := h; rw [veqs0_eq h]) | (have h : false = true := h; cases h)
  | g cs => (have h : false = true := h; cases h)
  | t cs => (have h : false = true := h; cases h)
  | _ => exact veq0_eq h
noncomputable def veqs (cs ds : List V) : Bool := List.rec (motive := fun _ => List V → Bool) (fun ds => List.casesOn ds true fun _ _ => false) (fun c _ ih ds => List.casesOn ds false fun d ds => cond (veq1 c d) (ih ds) false) cs ds
theorem veqs_eq : ∀ {cs ds : List V}, veqs cs ds = true → cs = ds
  | [], [], _ => rfl
  | [], _ :: _, h => by cases h
  | _ :: _, [], h => by cases h
  | c :: cs, d :: ds, h => by
    obtain ⟨h1, h2⟩ := cond_true' (c := veq1 c d) (x := veqs cs ds) h
    rw [veq1_eq h1, veqs_eq h2]
noncomputable def veq (x y : V) : Bool :=
  V.casesOn (motive_1 := fun _ => Bool) x (isU y) (fun _ => veq1 x y) (fun _ => veq1 x y) (fun _ _ => veq1 x y) (fun _ => veq1 x y) (fun _ _ => veq1 x y) (veq1 x y) (fun _ _ => veq1 x y) (veq1 x y) (fun _ _ _ _ => veq1 x y) (veq1 x y) (fun _ _ => veq1 x y) (fun cs => asG y false fun ds => veqs cs ds) (fun cs => asT y false fun ds => veqs cs ds) (veq1 x y) (fun _ _ => veq1 x y) (fun _ => veq1 x y)
theorem veq_eq {x y : V} (h : veq x y = true) : x = y := by
  cases x with
  | u => exact (isU_true h).symm
  | g cs => cases y <;> first | (have h : veqs cs _ = true := h; rw [veqs_eq h]) | (have h : false = true := h; cases h)
  | t cs => cases y <;> first | (have h : veqs cs _ = true := h; rw [veqs_eq h]) | (have h : false = true := h; cases h)
  | _ => exact veq1_eq h

noncomputable def incs (j : Nat) (z : Pos) : Pos := Nat.rec (motive := fun _ => Pos) z (fun _ p => p.inc) j
theorem incs_val (z : Pos) : ∀ j, (incs j z).val = z.val + j
  | 0 => rfl
  | j + 1 => by show (incs j z).inc.val = _; rw [Pos.inc_val, incs_val z j]; rfl

inductive KC where
  | al
  | pu (f : List V → TS → Option V)
  | ld (f : List V → TS → TB → Option V) (k0 : Nat) (ks : List Nat)
  | rs (f : List V → TS → Option NV) (j : Nat)
  | ef (f : CallF → List V → TS → Pos → TB → RC) (q : Nat) (A : List Nat)
/-- An operation of a drawn region: its place; those ahead of it (as bits); what it writes; how many values are there; where its own value lies; its guard; its kind; the slots that it reads. -/
structure It where
  i : Nat
  anc : Nat
  o : Oper
  n : Nat
  d : D
  g : Option (D × Bool)
  c : KC
  E : Env
  sl : List Tmp
abbrev DK := CallF → TS → Pos → List V → Pos → TB → List (Pos × TB) → List (Option NV) → RE
noncomputable def mget (Ms : List (Option NV)) (j : Nat) : Option NV := Option.casesOn (Ms[j]?) none fun m => m
/-- New blocks become live: those of the numbers A. -/
noncomputable def abs1 (z : Pos) (Ms : List (Option NV)) (j : Nat) (ih : TB) : TB := Option.casesOn (motive := fun _ => TB) (mget Ms j) ih fun m => newB m (incs j z) ih
noncomputable def absorb (A : List Nat) (z : Pos) (Ms : List (Option NV)) (bs : TB) : TB := List.rec (motive := fun _ => TB) bs (fun j _ ih => abs1 z Ms j ih) A
inductive DB where
  | mk (k : DK)
noncomputable def DB.run (b : DB) : DK := DB.rec (motive := fun _ => DK) (fun k => k) b
noncomputable def actI (c : KC) (k : DB) : DB := match c with
  | .al => k
  | .pu f => .mk fun F T z L nx bs Hs Ms => Option.rec (motive := fun _ => RE) .fail (fun v => k.run F T z (v :: L) nx bs Hs Ms) (f L T)
  | .ld f _ _ => .mk fun F T z L nx bs Hs Ms => Option.rec (motive := fun _ => RE) .fail (fun v => k.run F T z (v :: L) nx bs Hs Ms) (f L T bs)
  | .rs f j => .mk fun F T z L nx bs Hs Ms => Option.rec (motive := fun _ => RE) .fail (fun m => k.run F T z (m.val (incs j z) :: L) nx bs Hs (Ms ++ [some m])) (f L T)
  | .ef f _ A => .mk fun F T z L nx bs Hs Ms => RC.rec (motive := fun _ => RE) .fail (fun v nx bs => k.run F T z (v :: L) nx bs (Hs ++ [(nx, bs)]) Ms) (f F L T nx (absorb A z Ms bs))
noncomputable def skipI (c : KC) (k : DB) : DB := match c with
  | .al => .mk fun _ _ _ _ _ _ _ _ => .fail
  | .rs _ _ => .mk fun F T z L nx bs Hs Ms => k.run F T z (.t [] :: L) nx bs Hs (Ms ++ [none])
  | .ef _ _ A => .mk fun F T z L nx bs Hs Ms => k.run F T z (.t [] :: L) nx (absorb A z Ms bs) (Hs ++ [(nx, absorb A z Ms bs)]) Ms
  | _ => .mk fun F T z L nx bs Hs Ms => k.run F T z (.t [] :: L) nx bs Hs Ms
noncomputable def runG (x : X) (w : Bool) (a s : DB) : DB := .mk fun F T z L nx bs Hs Ms => Option.rec (motive := fun _ => RE) .fail (fun b => Bool.rec (s.run F T z L nx bs Hs Ms) (a.run F T z L nx bs Hs Ms) b) (gwant (x L T) w)
noncomputable def runI (it : It) (k : DB) : DB := match it.g with
  | none => actI it.c k
  | some (d, w) => runG (d.x it.n) w (actI it.c k) (skipI it.c k)
noncomputable def runIs (its : List It) (fin : DB) : DB := match its with
  | [] => fin
  | it :: its => runI it (runIs its fin)

/-! ### what a run says -/
structure Fin where
  L : List V
  H : List (Pos × TB)
  M : List (Option NV)
noncomputable def It.val (it : It) (Z : Fin) (T : TS) : V := it.d.x Z.L.length Z.L T
def It.Li (it : It) (Z : Fin) : List V := Z.L.drop (Z.L.length - it.n)
def It.Act (it : It) (F : CallF) (T : TS) (z : Pos) (Z : Fin) : Prop := match it.c with
  | .al => True
  | .pu f => f (it.Li Z) T = some (it.val Z T)
  | .ld f k0 _ => ∃ h, Z.H[k0]? = some h ∧ f (it.Li Z) T h.2 = some (it.val Z T)
  | .rs f j => ∃ m, f (it.Li Z) T = some m ∧ Z.M[j]? = some (some m) ∧ it.val Z T = m.val (incs j z)
  | .ef f q A => ∃ h h', Z.H[q - 1]? = some h ∧ Z.H[q]? = some h' ∧ f F (it.Li Z) T h.1 (absorb A z Z.M h.2) = .mk (it.val Z T) h'.1 h'.2
def It.Skp (it : It) (T : TS) (z : Pos) (Z : Fin) : Prop := match it.c with
  | .al => False
  | .rs _ j => it.val Z T = .t [] ∧ Z.M[j]? = some none
  | .ef _ q A => it.val Z T = .t [] ∧ ∃ h, Z.H[q - 1]? = some h ∧ Z.H[q]? = some (h.1, absorb A z Z.M h.2)
  | _ => it.val Z T = .t []
def It.Fact (it : It) (F : CallF) (T : TS) (z : Pos) (Z : Fin) : Prop := match it.g with
  | none => it.Act F T z Z
  | some (d, w) => ∃ b, gwant (d.x Z.L.length Z.L T) w = some b ∧ (b = true → it.Act F T z Z) ∧ (b = false → it.Skp T z Z)

/-- The numbers of an item fit: n values, q effects, r new blocks so far. -/
def It.num (it : It) (n q r : Nat) : Bool := Nat.beq it.n n && (match it.g with | none => true | some (d, _) => d.ok n) && (match it.c with
  | .al => it.d.ok n && (match it.g with | none => true | _ => false)
  | .pu _ => (match it.d with | .l m => Nat.beq m n | _ => false)
  | .ld _ k0 _ => (match it.d with | .l m => Nat.beq m n | _ => false) && Nat.beq k0 q
  | .rs _ j => (match it.d with | .l m => Nat.beq m n | _ => false) && Nat.beq j r
  | .ef _ q' A => (match it.d with | .l m => Nat.beq m n | _ => false) && Nat.beq q' (q + 1) && A.all fun j => Nat.ble (j + 1) r)
def KC.dn : KC → Nat
  | .al => 0
  | _ => 1
def KC.dq : KC → Nat
  | .ef _ _ _ => 1
  | _ => 0
def KC.dr : KC → Nat
  | .rs _ _ => 1
  | _ => 0
def nums : List It → Nat → Nat → Nat → Option (Nat × Nat × Nat)
  | [], n, q, r => some (n, q, r)
  | it :: its, n, q, r => if it.num n q r = true then nums its (n + it.c.dn) (q + it.c.dq) (r + it.c.dr) else none

theorem D.x_suffix {d : D} {L L' : List V} {T : TS} (h : L <:+ L') (hd : d.ok L.length = true) : d.x L'.length L' T = d.x L.length L T := by
  obtain ⟨t, rfl⟩ := h
  induction t with
  | nil => rfl
  | cons v t ih =>
    rw [List.cons_append, List.length_cons, D.x_push v, ih]
    cases d with
    | l m => simp [D.ok] at hd ⊢; omega
    | s t => rfl
    | c v => rfl
theorem drop_suffix {L L' : List V} (h : L <:+ L') : L'.drop (L'.length - L.length) = L := by
  obtain ⟨t, rfl⟩ := h
  have : (t ++ L).length - L.length = t.length := by rw [List.length_append]; omega
  rw [this, List.drop_left]
theorem top_val {L L' : List V} {T : TS} {v : V} (h : v :: L <:+ L') : (D.l L.length).x L'.length L' T = v := by
  rw [D.x_suffix h (by simp [D.ok])]
  show nth ((v :: L).length - 1 - L.length) (v :: L) = v
  have e : (v :: L).length - 1 - L.length = 0 := by simp
  rw [e]; rfl
theorem mget_prefix {Ms Ms' : List (Option NV)} {j : Nat} (h : Ms <+: Ms') (hj : j < Ms.length) : Ms'[j]? = Ms[j]? := by
  obtain ⟨t, rfl⟩ := h
  exact List.getElem?_append_left hj
theorem absorb_prefix {Ms Ms' : List (Option NV)} (z : Pos) (bs : TB) (h : Ms <+: Ms') : ∀ {A : List Nat}, (∀ j ∈ A, j < Ms.length) → absorb A z Ms' bs = absorb A z Ms bs
  | [], _ => rfl
  | j :: A, hA => by
    show abs1 z Ms' j (absorb A z Ms' bs) = abs1 z Ms j (absorb A z Ms bs)
    rw [absorb_prefix z bs h fun k hk => hA k (List.mem_cons_of_mem _ hk)]
    have e : mget Ms' j = mget Ms j := by unfold mget; rw [mget_prefix h (hA j List.mem_cons_self)]
    unfold abs1
    rw [e]

theorem isL_spec {d : D} {n : Nat} (h : (match d with | .l m => Nat.beq m n | _ => false) = true) : d = .l n := by
  cases d with
  | l m => rw [Nat.eq_of_beq_eq_true h]
  | _ => cases h
theorem asB_mk {v : V} {k : Bool → RE} {L : List V} {nx : Pos} {bs : TB} (h : asB v .fail k = .mk L nx bs) : ∃ b, v = .b b ∧ k b = .mk L nx bs := by
  cases v <;> first | exact ⟨_, rfl, h⟩ | (have h : RE.fail = .mk L nx bs := h; cases h)

theorem runIs_fact (fin : DB) (F : CallF) (T : TS) (z : Pos) : ∀ (its : List It) (n q r n' q' r' : Nat), nums its n q r = some (n', q', r') → ∀ (L : List V) (nx : Pos) (bs : TB) (Hs : List (Pos × TB)) (Ms : List (Option NV)) (L' : List V) (nx' : Pos) (bs' : TB),
    L.length = n → Hs.length = q + 1 → Hs[q]? = some (nx, bs) → Ms.length = r → (runIs its fin).run F T z L nx bs Hs Ms = .mk L' nx' bs' →
    ∃ Z : Fin, L <:+ Z.L ∧ Hs <+: Z.H ∧ Ms <+: Z.M ∧ (∀ it ∈ its, it.Fact F T z Z) ∧ Z.L.length = n' ∧ Z.H.length = q' + 1 ∧ Z.M.length = r' ∧ ∃ h, Z.H[q']? = some h ∧ fin.run F T z Z.L h.1 h.2 Z.H Z.M = .mk L' nx' bs'
  | [], n, q, r, n', q', r', hn, L, nx, bs, Hs, Ms, L', nx', bs', h1, h2, h3, h4, hk => by
    injection hn with hn; injection hn with e1 hn; injection hn with e2 e3
    subst e1; subst e2; subst e3
    exact ⟨⟨L, Hs, Ms⟩, List.suffix_refl _, List.prefix_refl _, List.prefix_refl _, fun it h => absurd h (by simp), h1, h2, h4, (nx, bs), h3, hk⟩
  | it :: its, n, q, r, n', q', r', hn, L, nx, bs, Hs, Ms, L', nx', bs', h1, h2, h3, h4, hk => by
    unfold nums at hn
    split at hn
    case isFalse => cases hn
    rename_i hnum
    unfold It.num at hnum
    rw [Bool.and_eq_true, Bool.and_eq_true] at hnum
    obtain ⟨⟨hn1, hg⟩, hc⟩ := hnum
    have hn1 := Nat.eq_of_beq_eq_true hn1
    have hLi : ∀ Z : Fin, L <:+ Z.L → it.Li Z = L := fun Z hs => by
      unfold It.Li
      rw [hn1, ← h1]
      exact drop_suffix hs
    have hval : ∀ (Z : Fin) (v : V), it.d = .l n → v :: L <:+ Z.L → it.val Z T = v := fun Z v hd hs => by
      unfold It.val
      rw [hd, ← h1]
      exact top_val hs
    -- the operation itself
    have act : (actI it.c (runIs its fin)).run F T z L nx bs Hs Ms = .mk L' nx' bs' → ∃ Z : Fin, L <:+ Z.L ∧ Hs <+: Z.H ∧ Ms <+: Z.M ∧ it.Act F T z Z ∧ (∀ it ∈ its, it.Fact F T z Z) ∧ Z.L.length = n' ∧ Z.H.length = q' + 1 ∧ Z.M.length = r' ∧ ∃ h, Z.H[q']? = some h ∧ fin.run F T z Z.L h.1 h.2 Z.H Z.M = .mk L' nx' bs' := by
      intro hk
      unfold It.Act
      cases hcc : it.c with
      | al =>
        rw [hcc] at hk hn
        obtain ⟨Z, k1, k2, k3, k4, k5⟩ := runIs_fact fin F T z its _ _ _ _ _ _ hn L nx bs Hs Ms L' nx' bs' h1 h2 h3 h4 hk
        exact ⟨Z, k1, k2, k3, trivial, k4, k5⟩
      | pu f =>
        rw [hcc] at hk hn hc
        have hk : Option.rec (motive := fun _ => RE) .fail (fun v => (runIs its fin).run F T z (v :: L) nx bs Hs Ms) (f L T) = .mk L' nx' bs' := hk
        cases hf : f L T with
        | none => rw [hf] at hk; cases hk
        | some v =>
          rw [hf] at hk
          obtain ⟨Z, k1, k2, k3, k4, k5⟩ := runIs_fact fin F T z its _ _ _ _ _ _ hn (v :: L) nx bs Hs Ms L' nx' bs' (by simp [h1, KC.dn]) h2 h3 h4 hk
          have hs : L <:+ Z.L := (List.suffix_cons v L).trans k1
          exact ⟨Z, hs, k2, k3, by simp only; rw [hLi Z hs, hval Z v (isL_spec hc) k1, hf], k4, k5⟩
      | ld f k0 ks =>
        rw [hcc] at hk hn hc
        rw [Bool.and_eq_true] at hc
        obtain ⟨hc, hk0⟩ := hc
        have hk0 := Nat.eq_of_beq_eq_true hk0
        have hk : Option.rec (motive := fun _ => RE) .fail (fun v => (runIs its fin).run F T z (v :: L) nx bs Hs Ms) (f L T bs) = .mk L' nx' bs' := hk
        cases hf : f L T bs with
        | none => rw [hf] at hk; cases hk
        | some v =>
          rw [hf] at hk
          obtain ⟨Z, k1, k2, k3, k4, k5⟩ := runIs_fact fin F T z its _ _ _ _ _ _ hn (v :: L) nx bs Hs Ms L' nx' bs' (by simp [h1, KC.dn]) h2 h3 h4 hk
          have hs : L <:+ Z.L := (List.suffix_cons v L).trans k1
          refine ⟨Z, hs, k2, k3, ⟨(nx, bs), ?_, by rw [hLi Z hs, hval Z v (isL_spec hc) k1, hf]⟩, k4, k5⟩
          rw [hk0]
          obtain ⟨t, ht⟩ := k2
          rw [← ht, List.getElem?_append_left (by omega), h3]
      | rs f j =>
        rw [hcc] at hk hn hc
        rw [Bool.and_eq_true] at hc
        obtain ⟨hc, hj⟩ := hc
        have hj := Nat.eq_of_beq_eq_true hj
        have hk : Option.rec (motive := fun _ => RE) .fail (fun m => (runIs its fin).run F T z (m.val (incs j z) :: L) nx bs Hs (Ms ++ [some m])) (f L T) = .mk L' nx' bs' := hk
        cases hf : f L T with
        | none => rw [hf] at hk; cases hk
        | some m =>
          rw [hf] at hk
          obtain ⟨Z, k1, k2, k3, k4, k5⟩ := runIs_fact fin F T z its _ _ _ _ _ _ hn (m.val (incs j z) :: L) nx bs Hs (Ms ++ [some m]) L' nx' bs' (by simp [h1, KC.dn]) h2 h3 (by simp [h4, KC.dr]) hk
          have hs : L <:+ Z.L := (List.suffix_cons _ L).trans k1
          refine ⟨Z, hs, k2, (List.prefix_append Ms [some m]).trans k3, ⟨m, by rw [hLi Z hs, hf], ?_, hval Z _ (isL_spec hc) k1⟩, k4, k5⟩
          rw [mget_prefix k3 (by simp; omega), hj, ← h4]
          simp
      | ef f q1 A =>
        rw [hcc] at hk hn hc
        rw [Bool.and_eq_true, Bool.and_eq_true] at hc
        obtain ⟨⟨hc, hq1⟩, hA⟩ := hc
        have hq1 := Nat.eq_of_beq_eq_true hq1
        have hA : ∀ j ∈ A, j < Ms.length := fun j hj => by
          have := Nat.le_of_ble_eq_true (List.all_eq_true.1 hA j hj)
          omega
        have hk : RC.rec (motive := fun _ => RE) .fail (fun v nx bs => (runIs its fin).run F T z (v :: L) nx bs (Hs ++ [(nx, bs)]) Ms) (f F L T nx (absorb A z Ms bs)) = .mk L' nx' bs' := hk
        cases hf : f F L T nx (absorb A z Ms bs) with
        | fail => rw [hf] at hk; cases hk
        | mk v nx1 bs1 =>
          rw [hf] at hk
          obtain ⟨Z, k1, k2, k3, k4, k5⟩ := runIs_fact fin F T z its _ _ _ _ _ _ hn (v :: L) nx1 bs1 (Hs ++ [(nx1, bs1)]) Ms L' nx' bs' (by simp [h1, KC.dn]) (by simp [h2, KC.dq]) (by simp [KC.dq, ← h2]) h4 hk
          have hs : L <:+ Z.L := (List.suffix_cons v L).trans k1
          have hp : Hs <+: Z.H := (List.prefix_append Hs [(nx1, bs1)]).trans k2
          refine ⟨Z, hs, hp, k3, ⟨(nx, bs), (nx1, bs1), ?_, ?_, ?_⟩, k4, k5⟩
          · obtain ⟨t, ht⟩ := hp
            rw [← ht, hq1, List.getElem?_append_left (by omega)]
            exact h3
          · obtain ⟨t, ht⟩ := k2
            rw [← ht, hq1, List.getElem?_append_left (by simp; omega), ← h2]
            simp
          · rw [hLi Z hs, hval Z v (isL_spec hc) k1, absorb_prefix z bs k3 hA, hf]
    have skp : (skipI it.c (runIs its fin)).run F T z L nx bs Hs Ms = .mk L' nx' bs' → ∃ Z : Fin, L <:+ Z.L ∧ Hs <+: Z.H ∧ Ms <+: Z.M ∧ it.Skp T z Z ∧ (∀ it ∈ its, it.Fact F T z Z) ∧ Z.L.length = n' ∧ Z.H.length = q' + 1 ∧ Z.M.length = r' ∧ ∃ h, Z.H[q']? = some h ∧ fin.run F T z Z.L h.1 h.2 Z.H Z.M = .mk L' nx' bs' := by
      intro hk
      unfold It.Skp
      cases hcc : it.c with
      | al => rw [hcc] at hk; cases hk
      | pu f =>
        rw [hcc] at hk hn hc
        obtain ⟨Z, k1, k2, k3, k4, k5⟩ := runIs_fact fin F T z its _ _ _ _ _ _ hn (.t [] :: L) nx bs Hs Ms L' nx' bs' (by simp [h1, KC.dn]) h2 h3 h4 hk
        exact ⟨Z, (List.suffix_cons _ L).trans k1, k2, k3, hval Z _ (isL_spec hc) k1, k4, k5⟩
      | ld f k0 ks =>
        rw [hcc] at hk hn hc
        rw [Bool.and_eq_true] at hc
        obtain ⟨Z, k1, k2, k3, k4, k5⟩ := runIs_fact fin F T z its _ _ _ _ _ _ hn (.t [] :: L) nx bs Hs Ms L' nx' bs' (by simp [h1, KC.dn]) h2 h3 h4 hk
        exact ⟨Z, (List.suffix_cons _ L).trans k1, k2, k3, hval Z _ (isL_spec hc.1) k1, k4, k5⟩
      | rs f j =>
        rw [hcc] at hk hn hc
        rw [Bool.and_eq_true] at hc
        obtain ⟨hc, hj⟩ := hc
        have hj := Nat.eq_of_beq_eq_true hj
        obtain ⟨Z, k1, k2, k3, k4, k5⟩ := runIs_fact fin F T z its _ _ _ _ _ _ hn (.t [] :: L) nx bs Hs (Ms ++ [none]) L' nx' bs' (by simp [h1, KC.dn]) h2 h3 (by simp [h4, KC.dr]) hk
        refine ⟨Z, (List.suffix_cons _ L).trans k1, k2, (List.prefix_append Ms [none]).trans k3, ⟨hval Z _ (isL_spec hc) k1, ?_⟩, k4, k5⟩
        rw [mget_prefix k3 (by simp; omega), hj, ← h4]
        simp
      | ef f q1 A =>
        rw [hcc] at hk hn hc
        rw [Bool.and_eq_true, Bool.and_eq_true] at hc
        obtain ⟨⟨hc, hq1⟩, hA⟩ := hc
        have hq1 := Nat.eq_of_beq_eq_true hq1
        have hA : ∀ j ∈ A, j < Ms.length := fun j hj => by
          have := Nat.le_of_ble_eq_true (List.all_eq_true.1 hA j hj)
          omega
        obtain ⟨Z, k1, k2, k3, k4, k5⟩ := runIs_fact fin F T z its _ _ _ _ _ _ hn (.t [] :: L) nx (absorb A z Ms bs) (Hs ++ [(nx, absorb A z Ms bs)]) Ms L' nx' bs' (by simp [h1, KC.dn]) (by simp [h2, KC.dq]) (by simp [KC.dq, ← h2]) h4 hk
        have hp : Hs <+: Z.H := (List.prefix_append Hs [(nx, absorb A z Ms bs)]).trans k2
        refine ⟨Z, (List.suffix_cons _ L).trans k1, hp, k3, ⟨hval Z _ (isL_spec hc) k1, (nx, bs), ?_, ?_⟩, k4, k5⟩
        · obtain ⟨t, ht⟩ := hp
          rw [← ht, hq1, List.getElem?_append_left (by omega)]
          exact h3
        · obtain ⟨t, ht⟩ := k2
          rw [← ht, hq1, List.getElem?_append_left (by simp; omega), ← h2, absorb_prefix z bs k3 hA]
          simp
    have hk : (runI it (runIs its fin)).run F T z L nx bs Hs Ms = .mk L' nx' bs' := hk
    unfold runI at hk
    cases hgg : it.g with
    | none =>
      rw [hgg] at hk
      obtain ⟨Z, k1, k2, k3, k4, k5, k6⟩ := act hk
      refine ⟨Z, k1, k2, k3, fun it' hm => ?_, k6⟩
      cases hm with
      | head => unfold It.Fact; rw [hgg]; exact k4
      | tail _ hm => exact k5 it' hm
    | some gw =>
      obtain ⟨d, w⟩ := gw
      rw [hgg] at hk hg
      have hk : Option.rec (motive := fun _ => RE) .fail (fun b => Bool.rec ((skipI it.c (runIs its fin)).run F T z L nx bs Hs Ms) ((actI it.c (runIs its fin)).run F T z L nx bs Hs Ms) b) (gwant (d.x it.n L T) w) = .mk L' nx' bs' := hk
      cases hw : gwant (d.x it.n L T) w with
      | none => rw [hw] at hk; cases hk
      | some b =>
        rw [hw] at hk
        cases b with
        | true =>
          obtain ⟨Z, k1, k2, k3, k4, k5, k6⟩ := act hk
          refine ⟨Z, k1, k2, k3, fun it' hm => ?_, k6⟩
          cases hm with
          | head =>
            unfold It.Fact; rw [hgg]
            exact ⟨true, by rw [D.x_suffix k1 (by rw [h1]; exact hg), h1, ← hn1]; exact hw, fun _ => k4, fun h => by cases h⟩
          | tail _ hm => exact k5 it' hm
        | false =>
          obtain ⟨Z, k1, k2, k3, k4, k5, k6⟩ := skp hk
          refine ⟨Z, k1, k2, k3, fun it' hm => ?_, k6⟩
          cases hm with
          | head =>
            unfold It.Fact; rw [hgg]
            exact ⟨false, by rw [D.x_suffix k1 (by rw [h1]; exact hg), h1, ← hn1]; exact hw, (fun h => by cases h), fun _ => k4⟩
          | tail _ hm => exact k5 it' hm

end Go.Proofs.YtmbnogellhoheaaGreatDoor.Ev

/- Drawn regions: the heap's side: new blocks under reserved names. -/
namespace Go.Proofs.YtmbnogellhoheaaGreatDoor.Ev
open Go
variable {ρ : Rho}

theorem upd_le' {p : Pos} (h : ρ p = none) (x : Pl) : ρ.le (upd ρ p x) := fun id y e => by
  by_cases hi : id = p
  · subst hi; rw [h] at e; cases e
  · rw [upd_ne ρ x hi]; exact e
theorem HR0.not_live {nx : Pos} {bs : TB} {w : World} (h : HR0 ρ nx bs w) {p : Pos} (hp : ρ p = none) {es sz : Nat} {cs : TV} : ¬ Live bs p es sz cs := fun hl => by
  obtain ⟨q, hq, -⟩ := h.live _ _ _ _ hl
  rw [hp] at hq; cases hq
/-- A new block under a reserved name, not live yet. -/
theorem HR0.place {nx : Pos} {bs : TB} {w w' : World} (h : HR0 ρ nx bs w) {p : Pos} (hp : ρ p = none) (hpn : p.val < nx.val) {C : Array Value} {E : TypeId} {fz : Nat × Nat} (hw : w'.heap = w.heap.push (.cells C E fz)) (es : Nat) :
    HR0 (upd ρ p ⟨w.heap.size, 0, C.size, es, none, none⟩) nx bs w' := by
  have hold : ∀ b, b < w.heap.size → w'.heap[b]? = w.heap[b]? := fun b hb => by rw [hw, Array.getElem?_push, if_neg (by omega)]
  have hlive : ∀ id es sz cs, Live bs id es sz cs → id ≠ p := fun id es sz cs hl e => h.not_live hp (e ▸ hl)
  refine ⟨fun id es' sz cs hl => ?_, fun id id' es sz cs es' sz' cs' q q' hl hl' hq hq' he => ?_, fun id hid => ?_, fun id q hq => ?_⟩
  · obtain ⟨q, h1, h2, h3⟩ := h.live id es' sz cs hl
    exact ⟨q, by rw [upd_ne ρ _ (hlive _ _ _ _ hl)]; exact h1, h2, h3.mono (upd_le' hp _) (hold _ (h.inside id q h1))⟩
  · rw [upd_ne ρ _ (hlive _ _ _ _ hl)] at hq
    rw [upd_ne ρ _ (hlive _ _ _ _ hl')] at hq'
    exact h.apart id id' es sz cs es' sz' cs' q q' hl hl' hq hq' he
  · obtain ⟨h1, h2⟩ := h.fresh id hid
    exact ⟨by rw [upd_ne ρ _ (fun e => by subst e; omega)]; exact h1, h2⟩
  · have hs : w'.heap.size = w.heap.size + 1 := by rw [hw]; simp
    by_cases hi : id = p
    · subst hi; rw [upd_same] at hq; injection hq with hq; subst hq; simp only; omega
    · rw [upd_ne ρ _ hi] at hq; have := h.inside id q hq; omega
theorem Own.place {nx : Pos} {bs : TB} {w : World} (h : HR0 ρ nx bs w) {p : Pos} (hp : ρ p = none) {x : Pl} {b : Nat} (ho : Own (upd ρ p x) bs b) : Own ρ bs b := by
  obtain ⟨id, es, sz, cs, q, hl, hq, hr⟩ := ho
  have : id ≠ p := fun e => h.not_live hp (e ▸ hl)
  rw [upd_ne ρ _ this] at hq
  exact ⟨id, es, sz, cs, q, hl, hq, hr⟩
theorem HR.place {nx : Pos} {bs : TB} {w w' : World} (h : HR ρ nx bs w) {p : Pos} (hp : ρ p = none) (hpn : p.val < nx.val) {C : Array Value} {E : TypeId} {fz : Nat × Nat} (hw : w'.heap = w.heap.push (.cells C E fz)) (es : Nat) :
    HR (upd ρ p ⟨w.heap.size, 0, C.size, es, none, none⟩) nx bs w' := by
  refine ⟨h.toHR0.place hp hpn hw es, h.base, fun id q o h1 h2 h3 => ?_⟩
  by_cases hi : id = p
  · subst hi; rw [upd_same] at h2; injection h2 with h2; subst h2; cases h3
  · rw [upd_ne ρ _ hi] at h2
    have hq := h.inside id q h2
    obtain ⟨k1, k2⟩ := h.fix id q o h1 h2 h3
    exact ⟨by rw [hw, Array.getElem?_push, if_neg (by omega)]; exact k1, fun ho => k2 (Own.place h.toHR0 hp ho)⟩
theorem Ext.place {ρ0 : Rho} {nx0 nx : Pos} {bs0 bs : TB} {w0 w w' : World} (h : Ext ρ0 nx0 bs0 w0 ρ nx bs w) (hh : HR0 ρ nx bs w) {p : Pos} (hp : ρ p = none) (hp0 : nx0.val ≤ p.val) {C : Array Value} {E : TypeId} {fz : Nat × Nat} (hw : w'.heap = w.heap.push (.cells C E fz)) (x : Pl) (hev : Evn w w') :
    Ext ρ0 nx0 bs0 w0 (upd ρ p x) nx bs w' := by
  have hold : ∀ b, b < w.heap.size → w'.heap[b]? = w.heap[b]? := fun b hb => by rw [hw, Array.getElem?_push, if_neg (by omega)]
  refine ⟨Rho.le_trans h.le (upd_le' hp x), ?_, fun b hb ho => ?_, fun b hb ho => h.own b hb (Own.place hh hp ho), h.nle, fun id hid hn => ?_, h.env.trans hev, fun b hb ho => (fzAt_of (hold b (Nat.lt_of_lt_of_le hb h.size))).trans (h.frz b hb (Own.place hh hp ho))⟩
  · have := h.size; rw [hw]; simp; omega
  · rw [hold b (Nat.lt_of_lt_of_le hb h.size)]; exact h.keep b hb ho
  · rw [upd_ne ρ _ (fun e => by subst e; omega)]; exact h.old id hid hn

/-- A block that is there under a name, and that nothing live owns. -/
structure Pend (b0 : Nat) (ρ : Rho) (bs : TB) (w : World) (p : Pos) (m : NV) : Prop where
  ex : ∃ C fz r, ρ p = some ⟨r, 0, C.size, m.es, none, none⟩ ∧ w.heap[r]? = some (.cells C (m.es / 65536) fz) ∧ b0 ≤ r ∧ ¬ Own ρ bs r ∧ m.cs.length ≤ 1099511627775 ∧ (∀ (k : Nat) (c : V), m.cs[k]? = some c → ∃ x, C[k]? = some x ∧ VR ρ c x) ∧ ∀ k, k < C.size → ¬ (fz.1 ≤ k ∧ k < fz.2)
  nf : ∀ id q o q', id.val < 64 → ρ id = some q → q.ob = some o → ρ p = some q' → q.r ≠ q'.r
theorem NSnd.pend {nx : Pos} {bs : TB} {w : World} {m : NV} {res : Result Value} (h : NSnd ρ w m res) (hh : HR ρ nx bs w) {p : Pos} (hp : ρ p = none) (hpn : p.val < nx.val) {b0 : Nat} (hb : b0 ≤ w.heap.size) :
    ∃ y w' x C E fz, res = .ok y w' ∧ w'.heap = w.heap.push (.cells C E fz) ∧ Evn w w' ∧ x.r = w.heap.size ∧ x.ob = none ∧ VR (upd ρ p x) (m.val p) y ∧ HR (upd ρ p x) nx bs w' ∧ Pend b0 (upd ρ p x) bs w' p m := by
  obtain ⟨y, w', C, fz, h1, hev, h2, h3, h4, h5, h6⟩ := h
  refine ⟨y, w', ⟨w.heap.size, 0, C.size, m.es, none, none⟩, C, _, fz, h1, h2, hev, rfl, rfl, h6 _ _ (upd_same ..), hh.place hp hpn h2 m.es, ⟨⟨C, fz, w.heap.size, upd_same .., ?_, hb, fun ho => ?_, h3, fun k c hk => ?_, h5⟩, fun id q o q' e1 e2 e3 e4 => ?_⟩⟩
  · rw [h2, Array.getElem?_push, if_pos rfl]
  · obtain ⟨id, es, sz, cs, q, hl, hq, hr⟩ := Own.place hh.toHR0 hp ho
    have := hh.inside id q hq
    omega
  · obtain ⟨x, hx, hv⟩ := h4 k c hk
    exact ⟨x, hx, VR.mono (upd_le' hp _) _ _ hv⟩
  · rw [upd_same] at e4; injection e4 with e4; subst e4
    by_cases hi : id = p
    · subst hi; rw [upd_same] at e2; injection e2 with e2; subst e2; cases e3
    · rw [upd_ne ρ _ hi] at e2
      have := hh.inside id q e2
      show q.r ≠ w.heap.size
      omega
/-- It becomes live. -/
theorem HR0.absorb {nx : Pos} {bs : TB} {w : World} (h : HR0 ρ nx bs w) {p : Pos} {m : NV} {b0 : Nat} (hP : Pend b0 ρ bs w p m) (hpn : p.val < nx.val) : HR0 ρ nx (newB m p bs) w := by
  obtain ⟨⟨C, fz, r, h1, h2, h3, h4, h5, h6, h7⟩, -⟩ := hP
  unfold newB
  have hown : ∀ id es sz cs q, Live bs id es sz cs → ρ id = some q → q.r ≠ r := fun id es sz cs q hl hq e => h4 ⟨id, es, sz, cs, q, hl, hq, e⟩
  refine ⟨fun id es sz cs hl => ?_, fun id id' es sz cs es' sz' cs' q q' hl hl' hq hq' he => ?_, fun id hid => ?_, h.inside⟩
  · rcases live_set hl with ⟨rfl, rfl, rfl, rfl⟩ | ⟨hne, hl⟩
    · refine ⟨_, h1, ⟨rfl, fun _ => rfl⟩, C, fz, h2, rfl, fun k hk => ?_, fun k _ hk => h7 k hk⟩
      obtain ⟨x, hx, hv⟩ := h6 k m.cs[k] (List.getElem?_eq_getElem hk)
      exact ⟨x, by rw [Nat.zero_add]; exact hx, by rw [into_at' m.cs k m.cs[k] (List.getElem?_eq_getElem hk) h5]; exact hv⟩
    · exact h.live id es sz cs hl
  · rcases live_set hl with ⟨e1, -, -, -⟩ | ⟨hne, hl2⟩
    · rcases live_set hl' with ⟨e2, -, -, -⟩ | ⟨hne', hl2'⟩
      · rw [e1, e2]
      · rw [e1, h1] at hq; injection hq with hq; subst hq
        exact absurd he.symm (hown _ _ _ _ _ hl2' hq')
    · rcases live_set hl' with ⟨e2, -, -, -⟩ | ⟨hne', hl2'⟩
      · rw [e2, h1] at hq'; injection hq' with hq'; subst hq'
        exact absurd he (hown _ _ _ _ _ hl2 hq)
      · exact h.apart id id' es sz cs es' sz' cs' q q' hl2 hl2' hq hq' he
  · obtain ⟨e1, e2⟩ := h.fresh id hid
    exact ⟨e1, by rw [TB.get_set_ne _ (fun e => by subst e; omega)]; exact e2⟩
theorem own_absorb {bs : TB} {w : World} {p : Pos} {m : NV} {b0 b : Nat} (hP : Pend b0 ρ bs w p m) (ho : Own ρ (newB m p bs) b) : Own ρ bs b ∨ ∃ q, ρ p = some q ∧ q.r = b := by
  obtain ⟨id, es, sz, cs, q, hl, hq, hr⟩ := ho
  rcases live_set hl with ⟨rfl, -, -, -⟩ | ⟨hne, hl⟩
  · exact .inr ⟨q, hq, hr⟩
  · exact .inl ⟨id, es, sz, cs, q, hl, hq, hr⟩
theorem HR.absorb {nx : Pos} {bs : TB} {w : World} (h : HR ρ nx bs w) {p : Pos} {m : NV} {b0 : Nat} (hP : Pend b0 ρ bs w p m) (hpn : p.val < nx.val) : HR ρ nx (newB m p bs) w := by
  refine ⟨h.toHR0.absorb hP hpn, h.base, fun id q o h1 h2 h3 => ⟨(h.fix id q o h1 h2 h3).1, fun ho => ?_⟩⟩
  rcases own_absorb hP ho with ho | ⟨q', hq', hr⟩
  · exact (h.fix id q o h1 h2 h3).2 ho
  · exact hP.nf id q o q' h1 h2 h3 hq' hr.symm
theorem Pend.at {bs : TB} {w : World} {p : Pos} {m : NV} {b0 : Nat} (hP : Pend b0 ρ bs w p m) {q : Pl} (hq : ρ p = some q) : b0 ≤ q.r ∧ q.r < w.heap.size := by
  obtain ⟨⟨C, fz, r, h1, h2, h3, -⟩, -⟩ := hP
  rw [h1] at hq; injection hq with hq; subst hq
  refine ⟨h3, ?_⟩
  rcases Nat.lt_or_ge r w.heap.size with h | h
  · exact h
  · rw [Array.getElem?_eq_none h] at h2; cases h2
theorem Ext.absorb {ρ0 : Rho} {nx0 nx : Pos} {bs0 bs : TB} {w0 w : World} (h : Ext ρ0 nx0 bs0 w0 ρ nx bs w) {p : Pos} {m : NV} (hP : Pend w0.heap.size ρ bs w p m) : Ext ρ0 nx0 bs0 w0 ρ nx (newB m p bs) w := by
  refine ⟨h.le, h.size, h.keep, fun b hb ho => ?_, h.nle, h.old, h.env, fun b hb ho => ?_⟩
  · rcases own_absorb hP ho with ho | ⟨q, hq, hr⟩
    · exact h.own b hb ho
    · have := (hP.at hq).1; omega
  · rcases own_absorb hP ho with ho | ⟨q, hq, hr⟩
    · exact h.frz b hb ho
    · have := (hP.at hq).1; omega
/-- Another one stays as it was. -/
theorem Pend.absorb {bs : TB} {w : World} {p p' : Pos} {m m' : NV} {b0 : Nat} (hP : Pend b0 ρ bs w p m) (hP' : Pend b0 ρ bs w p' m') (hne : ∀ q q', ρ p = some q → ρ p' = some q' → q.r ≠ q'.r) : Pend b0 ρ (newB m p bs) w p' m' := by
  obtain ⟨⟨C, fz, r, h1, h2, h3, h4, h5, h6, h7⟩, hnf⟩ := hP'
  refine ⟨⟨C, fz, r, h1, h2, h3, fun ho => ?_, h5, h6, h7⟩, hnf⟩
  rcases own_absorb hP ho with ho | ⟨q, hq, hr⟩
  · exact h4 ho
  · exact hne q _ hq h1 hr
/-- And over what an effect does. -/
theorem Pend.later {ρ' : Rho} {nx nx' : Pos} {bs bs' : TB} {w w' : World} {p : Pos} {m : NV} {b0 : Nat} (hP : Pend b0 ρ bs w p m) (hn : 64 ≤ nx.val) (he : Ext ρ nx bs w ρ' nx' bs' w') : Pend b0 ρ' bs' w' p m := by
  obtain ⟨⟨C, fz, r, h1, h2, h3, h4, h5, h6, h7⟩, hnf⟩ := hP
  have hr : r < w.heap.size := by
    rcases Nat.lt_or_ge r w.heap.size with h | h
    · exact h
    · rw [Array.getElem?_eq_none h] at h2; cases h2
  refine ⟨⟨C, fz, r, he.le _ _ h1, by rw [he.keep r hr h4]; exact h2, h3, fun ho => h4 (he.own r hr ho), h5, fun k c hk => ?_, h7⟩, fun id q o q' e1 e2 e3 e4 => ?_⟩
  · obtain ⟨x, hx, hv⟩ := h6 k c hk
    exact ⟨x, hx, VR.mono he.le _ _ hv⟩
  · rw [he.le _ _ h1] at e4; injection e4 with e4; subst e4
    cases e : ρ id with
    | none => rw [he.old id (by omega) e] at e2; cases e2
    | some q2 =>
      have e5 := he.le id q2 e
      rw [e2] at e5; injection e5 with e5; subst e5
      exact hnf id q o _ e1 e e3 h1
/-- And when another block is placed. -/
theorem Pend.place {nx : Pos} {bs : TB} {w w' : World} (h : HR0 ρ nx bs w) {p p' : Pos} {m' : NV} {b0 : Nat} (hP' : Pend b0 ρ bs w p' m') (hp : ρ p = none) {C : Array Value} {E : TypeId} {fz : Nat × Nat} (hw : w'.heap = w.heap.push (.cells C E fz)) (x : Pl) (hxo : x.ob = none) : Pend b0 (upd ρ p x) bs w' p' m' := by
  obtain ⟨⟨C', fz', r, h1, h2, h3, h4, h5, h6, h7⟩, hnf⟩ := hP'
  have hr : r < w.heap.size := by
    rcases Nat.lt_or_ge r w.heap.size with h | h
    · exact h
    · rw [Array.getElem?_eq_none h] at h2; cases h2
  refine ⟨⟨C', fz', r, upd_le' hp x _ _ h1, by rw [hw, Array.getElem?_push, if_neg (by omega)]; exact h2, h3, fun ho => h4 (Own.place h hp ho), h5, fun k c hk => ?_, h7⟩, fun id q o q' e1 e2 e3 e4 => ?_⟩
  · obtain ⟨y, hy, hv⟩ := h6 k c hk
    exact ⟨y, hy, VR.mono (upd_le' hp x) _ _ hv⟩
  · rw [upd_le' hp x _ _ h1] at e4; injection e4 with e4; subst e4
    by_cases hi : id = p
    · subst hi; rw [upd_same] at e2; injection e2 with e2; subst e2; rw [hxo] at e3; cases e3
    · rw [upd_ne ρ _ hi] at e2
      exact hnf id q o _ e1 e2 e3 h1

/-- Many become live, one behind the other (the last of the list first). -/
theorem absorb_all {ρ0 : Rho} {nx0 nx : Pos} {bs0 : TB} {w0 w : World} {z : Pos} {M : List (Option NV)} {R : Nat} (hinj : ∀ j j' q q', j < R → j' < R → ρ (incs j z) = some q → ρ (incs j' z) = some q' → q.r = q'.r → j = j') (hlt : ∀ j, j < R → (incs j z).val < nx.val) :
    ∀ (A : List Nat) (bs : TB), A.Nodup → (∀ j ∈ A, j < R) → HR ρ nx bs w → Ext ρ0 nx0 bs0 w0 ρ nx bs w → (∀ j ∈ A, ∀ m, M[j]? = some (some m) → Pend w0.heap.size ρ bs w (incs j z) m) →
    HR ρ nx (absorb A z M bs) w ∧ Ext ρ0 nx0 bs0 w0 ρ nx (absorb A z M bs) w ∧ ∀ j' m', j' < R → j' ∉ A → Pend w0.heap.size ρ bs w (incs j' z) m' → Pend w0.heap.size ρ (absorb A z M bs) w (incs j' z) m'
  | [], bs, _, _, hh, he, _ => ⟨hh, he, fun _ _ _ _ h => h⟩
  | j :: A, bs, hnd, hA, hh, he, hP => by
    rw [List.nodup_cons] at hnd
    obtain ⟨k1, k2, k3⟩ := absorb_all hinj hlt A bs hnd.2 (fun j hj => hA j (List.mem_cons_of_mem _ hj)) hh he fun j hj => hP j (List.mem_cons_of_mem _ hj)
    have hjR := hA j List.mem_cons_self
    show HR ρ nx (abs1 z M j (absorb A z M bs)) w ∧ Ext ρ0 nx0 bs0 w0 ρ nx (abs1 z M j (absorb A z M bs)) w ∧ _
    cases hm : mget M j with
    | none =>
      have e : abs1 z M j (absorb A z M bs) = absorb A z M bs := by unfold abs1; rw [hm]
      have e2 : absorb (j :: A) z M bs = absorb A z M bs := e
      rw [e, e2]
      exact ⟨k1, k2, fun j' m' hR hj' hp' => k3 j' m' hR (fun h => hj' (List.mem_cons_of_mem _ h)) hp'⟩
    | some m =>
      have e : abs1 z M j (absorb A z M bs) = newB m (incs j z) (absorb A z M bs) := by unfold abs1; rw [hm]
      have e2 : absorb (j :: A) z M bs = newB m (incs j z) (absorb A z M bs) := e
      have hM : M[j]? = some (some m) := by
        unfold mget at hm
        cases hj : M[j]? with
        | none => rw [hj] at hm; cases hm
        | some o => rw [hj] at hm; simp only at hm; rw [hm]
      have hp := k3 j m hjR hnd.1 (hP j List.mem_cons_self m hM)
      rw [e, e2]
      refine ⟨k1.absorb hp (hlt j hjR), k2.absorb hp, fun j' m' hR hj' hp' => ?_⟩
      refine hp.absorb (k3 j' m' hR (fun h => hj' (List.mem_cons_of_mem _ h)) hp') fun q q' hq hq' hr => ?_
      exact hj' (by rw [hinj j j' q q' hjR hR hq hq' hr]; exact List.mem_cons_self)

end Go.Proofs.YtmbnogellhoheaaGreatDoor.Ev
