/- Code compiled. -/
import Derived.Test.YtnhgchnhfdimiaaGreatDoorEvXi
import Derived.LoopN
namespace Go.Proofs.YtnhgchnhfdimiaaGreatDoor.Ev
open Go
variable {ρ : Rho}

/-- How code is left. -/
inductive EX where
  | n
  | x (id : Nat)
  | r
def EX.exit : EX → Exit
  | .n => .normal
  | .x id => .exit id
  | .r => .ret
inductive RR where
  | fail
  | go (e : EX) (T : TV) (nx : Pos) (bs : TB)
abbrev CC := CallF → TV → Pos → TB → RR
inductive CB where
  | mk (k : CC)
noncomputable def CB.run (b : CB) : CC := CB.rec (motive := fun _ => CC) (fun k => k) b

/-! ### slots written at a region's end -/
noncomputable def wlist (G : Ctx) (n : Nat) : Env → List (Pos × X)
  | [] => []
  | (t, d) :: E => if G.kept t = true then (pos t, d.x n) :: wlist G n E else wlist G n E
noncomputable def writes (ws : List (Pos × X)) (L : List V) (T : TV) : TV := List.rec (motive := fun _ => TV) T (fun p _ ih => TV.set p.1 (p.2 L T) ih) ws
theorem writes_get (G : Ctx) (L : List V) (T : TV) {t : Nat} (hk : G.kept t = true) : ∀ E : Env, (writes (wlist G L.length E) L T).get (pos t) = match E.look t with
    | some d => d.x L.length L T
    | none => T.get (pos t)
  | [] => rfl
  | (u, d) :: E => by
    have ih := writes_get G L T hk E
    unfold wlist
    by_cases hu : G.kept u = true
    · rw [if_pos hu]
      show (TV.set (pos u) (d.x L.length L T) (writes (wlist G L.length E) L T)).get (pos t) = _
      by_cases e : u = t
      · subst e
        rw [TV.get_set_same]
        simp [Env.look]
      · rw [TV.get_set_ne _ (fun h => e (pos_inj h)), ih]
        simp [Env.look, e]
    · rw [if_neg hu, ih]
      have e : u ≠ t := fun h => hu (h ▸ hk)
      simp [Env.look, e]
/-- The state of an act between regions. -/
abbrev St (G : Ctx) (ρ : Rho) (N : Nat) (T : TV) (nx : Pos) (bs : TB) (a : Act) (w : World) : Prop := AR2 G ρ [] 0 N [] T nx bs a w
theorem AR2.shut {G : Ctx} {E : Env} {n N : Nat} {L : List V} {T : TV} {nx : Pos} {bs : TB} {a : Act} {w : World} (h : AR2 G ρ E n N L T nx bs a w) : St G ρ N (writes (wlist G n E) L T) nx bs a w := by
  refine ⟨rfl, ⟨fun t d e => by simp [Env.look] at e, fun t _ hk => ?_, h.er.glob⟩, h.hr, h.size, h.defers⟩
  have hl := h.len
  subst hl
  rw [writes_get G L T hk E]
  cases hl : E.look t with
  | none => exact h.er.slot t hl hk
  | some d => exact (h.er.env t d hl).2

/-! ### what compiled regions and compiled code say -/
def RegS (P : Program) (G : Ctx) (N : Nat) (c : Code) (E : Env) (n : Nat) (k : SB) : Prop :=
  ∀ F, CallSnd P G F → ∀ (ρ : Rho) (T : TV) (a : Act) (nx nx' : Pos) (bs bs' : TB) (w : World) (L' : List V), St G ρ N T nx bs a w → k.run F [] T nx bs = .mk L' nx' bs' →
    ∀ Q : Exit → Act → World → Prop, (∀ ρ' a' w', AR2 G ρ' E n N L' T nx' bs' a' w' → Ext ρ nx bs w ρ' nx' bs' w' → Q .normal a' w') → c.wp P Q a w
def CCS (P : Program) (G : Ctx) (N : Nat) (c : Code) (cc : CB) : Prop :=
  ∀ F, CallSnd P G F → ∀ (ρ : Rho) (T T' : TV) (a : Act) (nx nx' : Pos) (bs bs' : TB) (w : World) (e : EX), St G ρ N T nx bs a w → cc.run F T nx bs = .go e T' nx' bs' →
    ∀ Q : Exit → Act → World → Prop, (∀ ρ' a' w', St G ρ' N T' nx' bs' a' w' → Ext ρ nx bs w ρ' nx' bs' w' → Q e.exit a' w') → c.wp P Q a w

noncomputable def skipC : CB := .mk fun _ T nx bs => .go .n T nx bs
noncomputable def exitC (id : Nat) : CB := .mk fun _ T nx bs => .go (.x id) T nx bs
noncomputable def retC : CB := .mk fun _ T nx bs => .go .r T nx bs
noncomputable def finK (ws : List (Pos × X)) (T : TV) (r : RE) : RR := RE.rec (motive := fun _ => RR) .fail (fun L nx bs => .go .n (writes ws L T) nx bs) r
noncomputable def finC (ws : List (Pos × X)) (k : SB) : CB := .mk fun F T nx bs => finK ws T (k.run F [] T nx bs)
noncomputable def tstK (ws : List (Pos × X)) (x : X) (c d : CB) (F : CallF) (T : TV) (r : RE) : RR := RE.rec (motive := fun _ => RR) .fail (fun L nx bs =>
  asB (x L T) .fail fun b => Bool.rec (d.run F (writes ws L T) nx bs) (c.run F (writes ws L T) nx bs) b) r
noncomputable def tstC (ws : List (Pos × X)) (k : SB) (x : X) (c d : CB) : CB := .mk fun F T nx bs => tstK ws x c d F T (k.run F [] T nx bs)
noncomputable def cndC (x : X) (c d : CB) : CB := .mk fun F T nx bs => asB (x [] T) .fail fun b => Bool.rec (d.run F T nx bs) (c.run F T nx bs) b
noncomputable def seqK (d : CB) (F : CallF) (r : RR) : RR := RR.rec (motive := fun _ => RR) .fail (fun e T nx bs => EX.rec (motive := fun _ => RR) (d.run F T nx bs) (fun id => .go (.x id) T nx bs) (.go .r T nx bs) e) r
noncomputable def seqC (c d : CB) : CB := .mk fun F T nx bs => seqK d F (c.run F T nx bs)
noncomputable def blkK (id : Nat) (r : RR) : RR := RR.rec (motive := fun _ => RR) .fail (fun e T nx bs => EX.rec (motive := fun _ => RR) (.go .n T nx bs) (fun j => Bool.rec (.go (.x j) T nx bs) (.go .n T nx bs) (Nat.beq j id)) (.go .r T nx bs) e) r
noncomputable def blkC (id : Nat) (c : CB) : CB := .mk fun F T nx bs => blkK id (c.run F T nx bs)
noncomputable def lpK (ih : TV → Pos → TB → RR) (r : RR) : RR := RR.rec (motive := fun _ => RR) .fail (fun e T nx bs => EX.rec (motive := fun _ => RR) (ih T nx bs) (fun id => .go (.x id) T nx bs) (.go .r T nx bs) e) r
noncomputable def lpR (c : CB) (F : CallF) (fuel : Nat) : TV → Pos → TB → RR := Nat.rec (motive := fun _ => TV → Pos → TB → RR) (fun _ _ _ => .fail) (fun _ ih T nx bs => lpK ih (c.run F T nx bs)) fuel
noncomputable def lpC (fuel : Nat) (c : CB) : CB := .mk fun F => lpR c F fuel

section
variable {P : Program} {G : Ctx} {N : Nat}
theorem skipC_snd {c : Code} (h : ∀ (Q : Exit → Act → World → Prop) a w, Q .normal a w → c.wp P Q a w) : CCS P G N c skipC := by
  intro F hF ρ T T' a nx nx' bs bs' w e hs hk Q hq
  injection hk with e1 e2 e3 e4; subst e1; subst e2; subst e3; subst e4
  exact h Q a w (hq ρ a w hs (Ext.refl ..))
theorem exitC_snd (id : Nat) : CCS P G N (.exit id) (exitC id) := by
  intro F hF ρ T T' a nx nx' bs bs' w e hs hk Q hq
  injection hk with e1 e2 e3 e4; subst e1; subst e2; subst e3; subst e4
  exact wp_exit (hq ρ a w hs (Ext.refl ..))
theorem retC_snd : CCS P G N .ret retC := by
  intro F hF ρ T T' a nx nx' bs bs' w e hs hk Q hq
  injection hk with e1 e2 e3 e4; subst e1; subst e2; subst e3; subst e4
  exact wp_ret (hq ρ a w hs (Ext.refl ..))
theorem finC_snd {c : Code} {E : Env} {n : Nat} {k : SB} (hr : RegS P G N c E n k) : CCS P G N c (finC (wlist G n E) k) := by
  intro F hF ρ T T' a nx nx' bs bs' w e hs hk Q hq
  have hk : finK (wlist G n E) T (k.run F [] T nx bs) = .go e T' nx' bs' := hk
  cases hkr : k.run F [] T nx bs with
  | fail => rw [hkr] at hk; cases hk
  | mk L nx1 bs1 =>
    rw [hkr] at hk
    injection hk with e1 e2 e3 e4; subst e1; subst e2; subst e3; subst e4
    exact hr F hF ρ T a nx _ bs _ w L hs hkr Q fun ρ' a' w' h1 h2 => hq ρ' a' w' h1.shut h2
theorem asB_go {v : V} {k : Bool → RR} {e : EX} {T : TV} {nx : Pos} {bs : TB} (h : asB v .fail k = .go e T nx bs) : ∃ b, v = .b b ∧ k b = .go e T nx bs := by
  cases v <;> first | exact ⟨_, rfl, h⟩ | (have h : RR.fail = .go e T nx bs := h; cases h)
theorem tst_wp {c x y : Code} {E : Env} {n : Nat} {k : SB} {o : Operand} {f : X} {cx cy : CB} (hr : RegS P G N c E n k) (hf : opX G E n o = some f) (hx : CCS P G N x cx) (hy : CCS P G N y cy) {F : CallF} (hF : CallSnd P G F) {T T' : TV} {a : Act} {nx nx' : Pos} {bs bs' : TB} {w : World} {e : EX}
    (hs : St G ρ N T nx bs a w) (hk : (tstC (wlist G n E) k f cx cy).run F T nx bs = .go e T' nx' bs') {Q Q' : Exit → Act → World → Prop} (hq : ∀ ρ' a' w', St G ρ' N T' nx' bs' a' w' → Ext ρ nx bs w ρ' nx' bs' w' → Q e.exit a' w') : c.wp P (Exit.then ((Code.cond o x y).wp P Q) Q') a w := by
  have hk : tstK (wlist G n E) f cx cy F T (k.run F [] T nx bs) = .go e T' nx' bs' := hk
  cases hkr : k.run F [] T nx bs with
  | fail => rw [hkr] at hk; cases hk
  | mk L nx1 bs1 =>
    rw [hkr] at hk
    obtain ⟨b, hb, hk⟩ := asB_go hk
    refine hr F hF ρ T a nx _ bs _ w L hs hkr _ fun ρ' a' w' h1 h2 => ?_
    have hv := opX_snd h1.len h1.er hf
    rw [hb] at hv
    have hv := hv.b
    refine wp_cond hv ?_
    cases b with
    | true => exact hx F hF ρ' _ T' a' nx1 nx' bs1 bs' w' e h1.shut hk Q fun ρ2 a2 w2 q1 q2 => hq ρ2 a2 w2 q1 (h2.trans q2)
    | false => exact hy F hF ρ' _ T' a' nx1 nx' bs1 bs' w' e h1.shut hk Q fun ρ2 a2 w2 q1 q2 => hq ρ2 a2 w2 q1 (h2.trans q2)
theorem tstC_snd {c x y : Code} {E : Env} {n : Nat} {k : SB} {o : Operand} {f : X} {cx cy : CB} (hr : RegS P G N c E n k) (hf : opX G E n o = some f) (hx : CCS P G N x cx) (hy : CCS P G N y cy) : CCS P G N (.seq c (.cond o x y)) (tstC (wlist G n E) k f cx cy) := by
  intro F hF ρ T T' a nx nx' bs bs' w e hs hk Q hq
  exact wp_seq (tst_wp hr hf hx hy hF hs hk hq)
theorem tstS_snd {c x y z : Code} {E : Env} {n : Nat} {k : SB} {o : Operand} {f : X} {cx cy cz : CB} (hr : RegS P G N c E n k) (hf : opX G E n o = some f) (hx : CCS P G N x cx) (hy : CCS P G N y cy) (hz : CCS P G N z cz) :
    CCS P G N (.seq c (.seq (.cond o x y) z)) (seqC (tstC (wlist G n E) k f cx cy) cz) := by
  intro F hF ρ T T' a nx nx' bs bs' w e hs hk Q hq
  have hk : seqK cz F ((tstC (wlist G n E) k f cx cy).run F T nx bs) = .go e T' nx' bs' := hk
  cases hkr : (tstC (wlist G n E) k f cx cy).run F T nx bs with
  | fail => rw [hkr] at hk; cases hk
  | go e1 T1 nx1 bs1 =>
    rw [hkr] at hk
    refine wp_seq (wp_mono (tst_wp hr hf hx hy hF hs hkr (Q := Exit.then (z.wp P Q) Q) (Q' := Q) fun ρ1 a1 w1 h1 h2 => ?_) fun e a w h => ?_)
    · cases e1 with
      | n => exact hz F hF ρ1 T1 T' a1 nx1 nx' bs1 bs' w1 e h1 hk Q fun ρ2 a2 w2 q1 q2 => hq ρ2 a2 w2 q1 (h2.trans q2)
      | x id =>
        injection hk with e1 e2 e3 e4; subst e1; subst e2; subst e3; subst e4
        exact hq ρ1 a1 w1 h1 h2
      | r =>
        injection hk with e1 e2 e3 e4; subst e1; subst e2; subst e3; subst e4
        exact hq ρ1 a1 w1 h1 h2
    · cases e with
      | normal => exact wp_seq h
      | _ => exact h
theorem cndC_snd {x y : Code} {o : Operand} {f : X} {cx cy : CB} (hf : opX G [] 0 o = some f) (hx : CCS P G N x cx) (hy : CCS P G N y cy) : CCS P G N (.cond o x y) (cndC f cx cy) := by
  intro F hF ρ T T' a nx nx' bs bs' w e hs hk Q hq
  obtain ⟨b, hb, hk⟩ := asB_go hk
  have hv := opX_snd hs.len hs.er hf
  rw [hb] at hv
  have hv := hv.b
  refine wp_cond hv ?_
  cases b with
  | true => exact hx F hF ρ _ T' a nx nx' bs bs' w e hs hk Q hq
  | false => exact hy F hF ρ _ T' a nx nx' bs bs' w e hs hk Q hq
theorem seqC_snd {x y : Code} {cx cy : CB} (hx : CCS P G N x cx) (hy : CCS P G N y cy) : CCS P G N (.seq x y) (seqC cx cy) := by
  intro F hF ρ T T' a nx nx' bs bs' w e hs hk Q hq
  have hk : seqK cy F (cx.run F T nx bs) = .go e T' nx' bs' := hk
  cases hkr : cx.run F T nx bs with
  | fail => rw [hkr] at hk; cases hk
  | go e1 T1 nx1 bs1 =>
    rw [hkr] at hk
    refine wp_seq (hx F hF ρ T T1 a nx nx1 bs bs1 w e1 hs hkr _ fun ρ1 a1 w1 h1 h2 => ?_)
    cases e1 with
    | n => exact hy F hF ρ1 T1 T' a1 nx1 nx' bs1 bs' w1 e h1 hk Q fun ρ2 a2 w2 q1 q2 => hq ρ2 a2 w2 q1 (h2.trans q2)
    | x id =>
      injection hk with e1 e2 e3 e4; subst e1; subst e2; subst e3; subst e4
      exact hq ρ1 a1 w1 h1 h2
    | r =>
      injection hk with e1 e2 e3 e4; subst e1; subst e2; subst e3; subst e4
      exact hq ρ1 a1 w1 h1 h2
theorem blkC_snd {x : Code} {cx : CB} (id : Nat) (hx : CCS P G N x cx) : CCS P G N (.block id x) (blkC id cx) := by
  intro F hF ρ T T' a nx nx' bs bs' w e hs hk Q hq
  have hk : blkK id (cx.run F T nx bs) = .go e T' nx' bs' := hk
  cases hkr : cx.run F T nx bs with
  | fail => rw [hkr] at hk; cases hk
  | go e1 T1 nx1 bs1 =>
    rw [hkr] at hk
    refine wp_block (hx F hF ρ T T1 a nx nx1 bs bs1 w e1 hs hkr _ fun ρ1 a1 w1 h1 h2 => ?_)
    cases e1 with
    | n =>
      injection hk with e1 e2 e3 e4; subst e1; subst e2; subst e3; subst e4
      exact hq ρ1 a1 w1 h1 h2
    | x j =>
      have hk : Bool.rec (motive := fun _ => RR) (.go (.x j) T1 nx1 bs1) (.go .n T1 nx1 bs1) (Nat.beq j id) = RR.go e T' nx' bs' := hk
      show if j = id then Q .normal a1 w1 else Q (.exit j) a1 w1
      by_cases hj : j = id
      · rw [if_pos hj]
        rw [beq_yes hj] at hk
        injection hk with e1 e2 e3 e4; subst e1; subst e2; subst e3; subst e4
        exact hq ρ1 a1 w1 h1 h2
      · rw [if_neg hj]
        rw [beq_no hj] at hk
        injection hk with e1 e2 e3 e4; subst e1; subst e2; subst e3; subst e4
        exact hq ρ1 a1 w1 h1 h2
    | r =>
      injection hk with e1 e2 e3 e4; subst e1; subst e2; subst e3; subst e4
      exact hq ρ1 a1 w1 h1 h2
theorem lpC_snd {x : Code} {cx : CB} (fuel : Nat) (hx : CCS P G N x cx) : CCS P G N (.loop x) (lpC fuel cx) := by
  intro F hF ρ T T' a nx nx' bs bs' w e hs hk Q hq
  refine wp_loop_rounds fuel ?_
  induction fuel generalizing ρ T a nx bs w with
  | zero => cases hk
  | succ m ih =>
    rw [rounds_succ]
    have hk : lpK (lpR cx F m) (cx.run F T nx bs) = RR.go e T' nx' bs' := hk
    cases hkr : cx.run F T nx bs with
    | fail => rw [hkr] at hk; cases hk
    | go e1 T1 nx1 bs1 =>
      rw [hkr] at hk
      refine hx F hF ρ T T1 a nx nx1 bs bs1 w e1 hs hkr _ fun ρ1 a1 w1 h1 h2 => ?_
      cases e1 with
      | n => exact ih ρ1 T1 a1 nx1 bs1 w1 h1 hk fun ρ2 a2 w2 q1 q2 => hq ρ2 a2 w2 q1 (h2.trans q2)
      | x id =>
        injection hk with e1 e2 e3 e4; subst e1; subst e2; subst e3; subst e4
        exact hq ρ1 a1 w1 h1 h2
      | r =>
        injection hk with e1 e2 e3 e4; subst e1; subst e2; subst e3; subst e4
        exact hq ρ1 a1 w1 h1 h2
end

end Go.Proofs.YtnhgchnhfdimiaaGreatDoor.Ev
