/- Drawn regions: the run in the order of the text serves every order. -/
import Derived.Test.YtnhgchnhfdimiaaGreatDoorEvXn
namespace Go.Proofs.YtnhgchnhfdimiaaGreatDoor.Ev
open Go
variable {ρ : Rho}

/-! ### loads looked at again, behind each effect that they aren't ordered with -/
noncomputable def chkK (f : List V → TV → TB → Option V) (v : V) (Li : List V) (T : TV) (Hs : List (Pos × TB)) (ks : List Nat) : Bool :=
  List.rec (motive := fun _ => Bool) true (fun k _ ih => cond (Option.casesOn (motive := fun _ => Bool) (Hs[k]?) false fun h => Option.casesOn (motive := fun _ => Bool) (f Li T h.2) false fun m => veq m v) ih false) ks
noncomputable def chkI (N : Nat) (it : It) (L : List V) (T : TV) (Hs : List (Pos × TB)) : Bool := match it.c with
  | .ld f _ ks => match it.g with
    | none => chkK f (it.d.x N L T) (dropL (N - it.n) L) T Hs ks
    | some (d, w) => Option.casesOn (motive := fun _ => Bool) (gwant (d.x N L T) w) false fun b => cond b (chkK f (it.d.x N L T) (dropL (N - it.n) L) T Hs ks) true
  | _ => true
noncomputable def chks (N : Nat) (L : List V) (T : TV) (Hs : List (Pos × TB)) (cl : List It) : Bool := List.rec (motive := fun _ => Bool) true (fun it _ ih => cond (chkI N it L T Hs) ih false) cl
theorem chkK_spec {f : List V → TV → TB → Option V} {v : V} {Li : List V} {T : TV} {Hs : List (Pos × TB)} : ∀ {ks : List Nat}, chkK f v Li T Hs ks = true → ∀ k ∈ ks, ∃ h, Hs[k]? = some h ∧ f Li T h.2 = some v
  | [], _, k, hk => by cases hk
  | k0 :: ks, h, k, hk => by
    obtain ⟨h1, h2⟩ := cond_true' (c := Option.casesOn (motive := fun _ => Bool) (Hs[k0]?) false fun h => Option.casesOn (motive := fun _ => Bool) (f Li T h.2) false fun m => veq m v) (x := chkK f v Li T Hs ks) h
    cases hk with
    | tail _ hk => exact chkK_spec h2 k hk
    | head =>
      cases hh : Hs[k0]? with
      | none => rw [hh] at h1; cases h1
      | some hv =>
        rw [hh] at h1
        refine ⟨hv, rfl, ?_⟩
        cases hf : f Li T hv.2 with
        | none => simp only [hf] at h1; cases h1
        | some m =>
          simp only [hf] at h1
          rw [veq_eq h1]
theorem chks_spec {N : Nat} {L : List V} {T : TV} {Hs : List (Pos × TB)} : ∀ {cl : List It}, chks N L T Hs cl = true → ∀ it ∈ cl, chkI N it L T Hs = true
  | [], _, it, hk => by cases hk
  | i0 :: cl, h, it, hk => by
    obtain ⟨h1, h2⟩ := cond_true' (c := chkI N i0 L T Hs) (x := chks N L T Hs cl) h
    cases hk with
    | head => exact h1
    | tail _ hk => exact chks_spec h2 it hk
theorem chkI_spec {it : It} {T : TV} {Z : Fin} (h : chkI Z.L.length it Z.L T Z.H = true) (hon : it.On T Z) {f : List V → TV → TB → Option V} {k0 : Nat} {ks : List Nat} (hc : it.c = .ld f k0 ks) : ∀ k ∈ ks, ∃ h, Z.H[k]? = some h ∧ f (it.Li Z) T h.2 = some (it.val Z T) := by
  unfold chkI at h
  rw [hc] at h
  simp only at h
  unfold It.On at hon
  have key : chkK f (it.d.x Z.L.length Z.L T) (dropL (Z.L.length - it.n) Z.L) T Z.H ks = true → ∀ k ∈ ks, ∃ h, Z.H[k]? = some h ∧ f (it.Li Z) T h.2 = some (it.val Z T) := fun h => by
    have := chkK_spec h
    rw [dropL_eq] at this
    exact this
  cases hg : it.g with
  | none => rw [hg] at h; exact key h
  | some gw =>
    obtain ⟨d, w⟩ := gw
    rw [hg] at h hon
    simp only at h hon
    rw [hon] at h
    exact key h

noncomputable def finD (N : Nat) (cl : List It) (Ae : List Nat) : DB := .mk fun _ T z L nx bs Hs Ms => cond (chks N L T Hs cl) (.mk L nx (absorb Ae z Ms bs)) .fail
noncomputable def dregK (its : List It) (N : Nat) (cl : List It) (Ae : List Nat) (Rn : Nat) : SB := .mk fun F _ T nx bs => (runIs its (finD N cl Ae)).run F T nx [] (incs Rn nx) bs [(incs Rn nx, bs)] []
theorem nums_le : ∀ (its : List It) (n q r n' q' r' : Nat), nums its n q r = some (n', q', r') → n ≤ n' ∧ ∀ it ∈ its, it.n ≤ n'
  | [], n, q, r, n', q', r', h => by injection h with h; injection h with e1 h; subst e1; exact ⟨Nat.le_refl _, fun it h => absurd h (by simp)⟩
  | it :: its, n, q, r, n', q', r', h => by
    unfold nums at h
    split at h
    case isFalse => cases h
    rename_i hnum
    obtain ⟨h1, h2⟩ := nums_le its _ _ _ _ _ _ h
    unfold It.num at hnum
    rw [Bool.and_eq_true, Bool.and_eq_true] at hnum
    have hn := Nat.eq_of_beq_eq_true hnum.1.1
    refine ⟨by omega, fun it' hm => ?_⟩
    cases hm with
    | head => omega
    | tail _ hm => exact h2 it' hm

section
variable {P : Program} {G : Ctx} {N : Nat} {ops : Array Oper} {its : List It} {Qn Rn : Nat} {Ae : List Nat} {T : TV} {z : Pos} {Z : Fin} {ρ0 : Rho} {bs0 : TB} {w0 : World} {F : CallF}
def DInv (G : Ctx) (N : Nat) (its : List It) (T : TV) (z : Pos) (Z : Fin) (Rn : Nat) (ρ0 : Rho) (bs0 : TB) (w0 : World) (S : Done) (a : Act) (w : World) : Prop := ∃ ρ k, TM G N its T Z S ρ a ∧ HPI its z Z Rn ρ0 bs0 w0 S ρ k w
theorem VR_u (ρ : Rho) (y : Value) : VR ρ .u y := by simp [VR]
theorem dstep (ds : DS P G N ops its Qn Rn Ae) (hF : CallSnd P G F) (hfact : ∀ it ∈ its, it.Fact F T z Z) (hn : ∀ it ∈ its, it.n ≤ Z.L.length) (hH : Z.H.length = Qn + 1)
    (hchk : ∀ it ∈ its, it.On T Z → ∀ f k0 ks, it.c = .ld f k0 ks → ∀ k ∈ ks, ∃ h, Z.H[k]? = some h ∧ f (it.Li Z) T h.2 = some (it.val Z T)) {Q : Exit → Act → World → Prop}
    {S : Done} {i : Nat} {o : Oper} {a : Act} {w : World} {K : Act → World → Prop} (hI : DInv G N its T z Z Rn ρ0 bs0 w0 S a w) (ho : ops[i]? = some o) (hS : S i = false) (hed : ∀ e ∈ o.after, Region.binds .any e = true → S e.on = true)
    (hK : ∀ a' w', DInv G N its T z Z Rn ρ0 bs0 w0 (S.put i) a' w' → K a' w') : wpOp P ops Q i K a w := by
  obtain ⟨ρ, k, tm, hp⟩ := hI
  obtain ⟨it, hit, rfl, rfl⟩ := ds.find ho
  have hanc : ∀ j, it.anc.testBit j = true → S j = true := fun j hj => by
    obtain ⟨e, he, hb, h⟩ := ds.anc it hit j hj
    have hs := hed e he hb
    rcases h with rfl | ⟨it', hm, e1, hj'⟩
    · exact hs
    · rw [← e1] at hs; exact tm.closed it' hm hs j hj'
  obtain ⟨her, hlen⟩ := tm.er ds hit hS hanc (hn it hit)
  have hsuf : it.Li Z <:+ Z.L := List.drop_suffix _ _
  have hok := ds.ok it hit
  have hgt : ∀ d w, it.g = some (d, w) → ∀ b, gwant (d.x Z.L.length Z.L T) w = some b → Region.wanted it.o (yielded ops a.tmps) = b := fun d w hg b hb => by
    obtain ⟨j, t, it', h1, h2, h3, h4, h5, h6⟩ := ds.gd it hit d w hg
    have hv := tm.tm it' h3 (hanc _ h5) t h4
    unfold It.val at hv
    rw [h6] at hv
    exact wanted_of h1 h2 hv hb
  have skip : it.Skp T z Z → K (a.put it.o.dst undef) w := fun hs => by
    unfold It.Skp at hs
    unfold It.OK at hok
    cases hc : it.c with
    | al => rw [hc] at hs; exact hs.elim
    | pu f =>
      rw [hc] at hs
      exact hK _ _ ⟨ρ, k, tm.put ds hit hanc (Rho.le_refl ρ) (by rw [hs]; exact VR_skip ρ), hp.same ds hit (by rw [hc]; intros; simp) (by rw [hc]; intro f j h; cases h)⟩
    | ld f k0 ks =>
      rw [hc] at hs
      exact hK _ _ ⟨ρ, k, tm.put ds hit hanc (Rho.le_refl ρ) (by rw [hs]; exact VR_skip ρ), hp.same ds hit (by rw [hc]; intros; simp) (by rw [hc]; intro f j h; cases h)⟩
    | rs f j =>
      rw [hc] at hs
      obtain ⟨h1, h2⟩ := hs
      exact hK _ _ ⟨ρ, k, tm.put ds hit hanc (Rho.le_refl ρ) (by rw [h1]; exact VR_skip ρ), hp.same ds hit (by rw [hc]; intros; simp) (by rw [hc]; intro f j' h; injection h with _ e; rw [← e]; exact h2)⟩
    | ef f q A =>
      rw [hc] at hs
      obtain ⟨h1, h, h2, h3⟩ := hs
      have hq := hp.next ds hit hS hanc hc
      subst hq
      obtain ⟨-, -, g1, -, g2⟩ := ds.ef2 it hit f _ A hc
      have hA : ∀ j ∈ A, j < Rn ∧ (∀ it' ∈ its, ∀ f' q' A', it'.c = .ef f' q' A' → q' ≤ k → j ∉ A') ∧ ∃ it' ∈ its, ∃ f', it'.c = .rs f' j ∧ S it'.i = true := fun j hj => by
        obtain ⟨-, g3, it', hm, f', hc', hb⟩ := g2 j hj
        refine ⟨g3, fun it2 hm2 f2 q2 A2 hc2 hq2 => (ds.ef1 it hit it2 hm2 f _ A f2 q2 A2 hc hc2).2.2 (fun e => ?_) j hj, it', hm, f', hc', hanc _ hb⟩
        have := ds.same hit hm2 e; subst this
        rw [hc] at hc2; injection hc2 with _ e2; omega
      have h2 : Z.H[k]? = some h := h2
      obtain ⟨t1, t2, t3⟩ := hp.take ds h2 g1 hA
      exact hK _ _ ⟨ρ, k + 1, tm.put ds hit hanc (Rho.le_refl ρ) (by rw [h1]; exact VR_skip ρ), hp.eff ds hit hc h2 h3 t2 t3 t1 (Ext.refl ..)⟩
  have main : it.On T Z → it.Act F T z Z → it.o.wp P a w K Q := fun hon hact => by
    unfold It.Act at hact
    unfold It.OK at hok
    cases hc : it.c with
    | al =>
      rw [hc] at hok
      obtain ⟨-, x, hmv, hxd⟩ := hok
      have hex : execOp a.eval it.o = pure (Next.value (a.eval x)) := by
        unfold execOp
        cases ho : it.o.op <;> rw [ho] at hmv <;> simp only [isMove] at hmv <;> first | (injection hmv with hmv; subst hmv; rfl) | cases hmv
      have hth : Thru P it.o a w (a.eval x) w := .inl (by rw [hex]; rfl)
      obtain ⟨hdok, hv⟩ := cxD_snd her hxd
      refine hth.wp (hK _ _ ⟨ρ, k, tm.put ds hit hanc (Rho.le_refl ρ) ?_, hp.same ds hit (by rw [hc]; intros; simp) (by rw [hc]; intro f j h; cases h)⟩)
      unfold It.val
      rw [D.x_suffix hsuf hdok]; exact hv
    | pu f =>
      rw [hc] at hok hact
      obtain ⟨y, h1, h2⟩ := hok ρ (it.Li Z) T a _ w hlen her hact
      exact h1.wp (hK _ _ ⟨ρ, k, tm.put ds hit hanc (Rho.le_refl ρ) h2, hp.same ds hit (by rw [hc]; intros; simp) (by rw [hc]; intro f j h; cases h)⟩)
    | ld f k0 ks =>
      rw [hc] at hok hact
      obtain ⟨h, k1, k2, k3, k4, k5⟩ := hp.hk
      have hkq : k ≤ Qn := by
        rcases Nat.lt_or_ge k Z.H.length with hh | hh
        · omega
        · rw [List.getElem?_eq_none hh] at k1; cases k1
      have hval : f (it.Li Z) T h.2 = some (it.val Z T) := by
        rcases ds.ld it hit f k0 ks hc k hkq (fun it' hm f' q' A' hc' hb => (hp.efs it' hm f' q' A' hc').1 (hanc _ hb)) (fun it' hm f' q' A' hc' hb => by
          rcases Nat.lt_or_ge k q' with hl | hl
          · exact hl
          · have := tm.closed it' hm ((hp.efs it' hm f' q' A' hc').2 hl) _ hb
            rw [hS] at this; cases this) with e | hks
        · subst e
          obtain ⟨h', e1, e2⟩ := hact
          rw [k1] at e1; injection e1 with e1; subst e1; exact e2
        · obtain ⟨h', e1, e2⟩ := hchk it hit hon f k0 ks hc k hks
          rw [k1] at e1; injection e1 with e1; subst e1; exact e2
      obtain ⟨y, h1, h2⟩ := hok ρ (it.Li Z) T a h.1 h.2 _ w hlen her k2 hval
      exact h1.wp (hK _ _ ⟨ρ, k, tm.put ds hit hanc (Rho.le_refl ρ) h2, hp.same ds hit (by rw [hc]; intros; simp) (by rw [hc]; intro f j h; cases h)⟩)
    | rs f j =>
      rw [hc] at hok hact
      obtain ⟨m, h1, h2, h3⟩ := hact
      obtain ⟨res, g1, g2⟩ := hok ρ (it.Li Z) T a m w hlen her h1
      obtain ⟨y, w', ρ', e1, e2, e3, e4⟩ := hp.new ds hit hS hc h2 g1
      exact (g2 y w' e1).wp (hK _ _ ⟨ρ', k, tm.put ds hit hanc e2 (by rw [h3]; exact e3), e4⟩)
    | ef f q A =>
      rw [hc] at hok hact
      obtain ⟨h, h', h2, h3, h4⟩ := hact
      have hq := hp.next ds hit hS hanc hc
      subst hq
      obtain ⟨-, -, g1, -, g2⟩ := ds.ef2 it hit f _ A hc
      have hA : ∀ j ∈ A, j < Rn ∧ (∀ it' ∈ its, ∀ f' q' A', it'.c = .ef f' q' A' → q' ≤ k → j ∉ A') ∧ ∃ it' ∈ its, ∃ f', it'.c = .rs f' j ∧ S it'.i = true := fun j hj => by
        obtain ⟨-, g3, it', hm, f', hc', hb⟩ := g2 j hj
        refine ⟨g3, fun it2 hm2 f2 q2 A2 hc2 hq2 => (ds.ef1 it hit it2 hm2 f _ A f2 q2 A2 hc hc2).2.2 (fun e => ?_) j hj, it', hm, f', hc', hanc _ hb⟩
        have := ds.same hit hm2 e; subst this
        rw [hc] at hc2; injection hc2 with _ e2; omega
      have h2 : Z.H[k]? = some h := h2
      obtain ⟨t1, t2, t3⟩ := hp.take ds h2 g1 hA
      have hF' : CallSnd P (it.G G) F := hF.cast rfl rfl
      exact hok F hF' ρ (it.Li Z) T a h.1 h'.1 _ h'.2 _ w hlen her t1 h4 K Q fun ρ' y w' e1 e2 e3 => hK _ _ ⟨ρ', k + 1, tm.put ds hit hanc e3.le e1, hp.eff ds hit hc h2 h3 t2 t3 e2 e3⟩
  have hf := hfact it hit
  unfold wpOp
  simp only [ho]
  unfold It.Fact at hf
  cases hg : it.g with
  | none =>
    rw [hg] at hf
    rw [if_pos (wanted_none (ds.gn it hit hg) _)]
    exact .inl (main (by unfold It.On; rw [hg]; trivial) hf)
  | some gw =>
    obtain ⟨d, wn⟩ := gw
    rw [hg] at hf
    obtain ⟨b, hb, h1, h2⟩ := hf
    rw [hgt d wn hg b hb]
    cases b with
    | true =>
      rw [if_pos rfl]
      exact .inl (main (by unfold It.On; rw [hg]; exact hb) (h1 rfl))
    | false =>
      rw [if_neg (by simp)]
      exact skip (h2 rfl)

/-- What the temporaries are behind it. -/
def envOf : List It → Env
  | [] => []
  | it :: its => match it.o.dst with
    | some t => (t, it.d) :: envOf its
    | none => envOf its
theorem envOf_some {t : Tmp} {d : D} : ∀ {its : List It}, (envOf its).look t = some d → ∃ it ∈ its, it.o.dst = some t ∧ it.d = d
  | [], h => by cases h
  | it :: its, h => by
    unfold envOf at h
    cases hd : it.o.dst with
    | none => rw [hd] at h; obtain ⟨it', h1, h2⟩ := envOf_some h; exact ⟨it', List.mem_cons_of_mem _ h1, h2⟩
    | some u =>
      rw [hd] at h
      simp only [Env.look] at h
      split at h
      · rename_i e
        injection h with h
        exact ⟨it, List.mem_cons_self, by rw [hd, e], h⟩
      · obtain ⟨it', h1, h2⟩ := envOf_some h; exact ⟨it', List.mem_cons_of_mem _ h1, h2⟩
theorem envOf_none {t : Tmp} : ∀ {its : List It}, (envOf its).look t = none → ∀ it ∈ its, it.o.dst ≠ some t
  | [], _, it, h => by cases h
  | it0 :: its, h, it, hm => by
    unfold envOf at h
    cases hd : it0.o.dst with
    | none =>
      rw [hd] at h
      cases hm with
      | head => rw [hd]; simp
      | tail _ hm => exact envOf_none h it hm
    | some u =>
      rw [hd] at h
      simp only [Env.look] at h
      split at h
      · cases h
      · rename_i e
        cases hm with
        | head => rw [hd]; intro h'; injection h' with h'; exact e h'
        | tail _ hm => exact envOf_none h it hm

theorem dreg_snd (hmix : P.follows .mixedOrders = true) (ds : DS P G N ops its Qn Rn Ae) {n : Nat} (hnum : nums its 0 0 0 = some (n, Qn, Rn)) (hN : ∀ it ∈ its, it.d.ok n = true) {cl : List It} (hcl : ∀ it ∈ its, ∀ f k0 ks, it.c = .ld f k0 ks → ks ≠ [] → it ∈ cl) (id : Nat) :
    RegS P G N (.region id ops true) (envOf its) n (dregK its n cl Ae Rn) := by
  intro F hF ρ T a nx nx' bs bs' w L' hs hk Q hq
  have hk : (runIs its (finD n cl Ae)).run F T nx [] (incs Rn nx) bs [(incs Rn nx, bs)] [] = .mk L' nx' bs' := hk
  obtain ⟨Z, -, z2, -, hfact, zL, zH, zM, h, hh, hfin⟩ := runIs_fact (finD n cl Ae) F T nx its 0 0 0 n Qn Rn hnum [] (incs Rn nx) bs [(incs Rn nx, bs)] [] L' nx' bs' rfl rfl rfl rfl hk
  have hfin : cond (chks n Z.L T Z.H cl) (.mk Z.L h.1 (absorb Ae nx Z.M h.2)) .fail = RE.mk L' nx' bs' := hfin
  cases hck : chks n Z.L T Z.H cl with
  | false => rw [hck] at hfin; cases hfin
  | true =>
    rw [hck, cond_true] at hfin
    injection hfin with e1 e2 e3
    subst e1; subst e2; subst e3
    have hchk : ∀ it ∈ its, it.On T Z → ∀ f k0 ks, it.c = .ld f k0 ks → ∀ k ∈ ks, ∃ h, Z.H[k]? = some h ∧ f (it.Li Z) T h.2 = some (it.val Z T) := fun it hit hon f k0 ks hc k hkm => by
      have hm := hcl it hit f k0 ks hc (fun e => by subst e; cases hkm)
      have := chks_spec hck it hm
      rw [← zL] at this
      exact chkI_spec this hon hc k hkm
    have hH0 : Z.H[0]? = some (incs Rn nx, bs) := by
      obtain ⟨t, ht⟩ := z2
      rw [← ht]; rfl
    have hfresh : ∀ id : Pos, (incs Rn nx).val ≤ id.val → nx.val ≤ id.val := fun id hid => by rw [incs_val] at hid; omega
    refine wp_drawn hmix (DInv G N its T nx Z Rn ρ bs w) (fun i o ho e he hb => ?_) (fun S i o a w K hI ho hS hed hK => dstep ds hF hfact (fun it hit => by rw [zL]; exact (nums_le its 0 0 0 n Qn Rn hnum).2 it hit) zH hchk hI ho hS hed hK) (fun S a' w' hall hI => ?_) ?_
    · obtain ⟨it, hit, rfl, rfl⟩ := ds.find ho
      exact ds.edge it hit e he hb
    · obtain ⟨ρ', k, tm, hp⟩ := hI
      have hSall : ∀ it ∈ its, S it.i = true := fun it hit => by
        obtain ⟨m, hm⟩ := List.getElem?_of_mem hit
        have hlt : m < its.length := by
          rcases Nat.lt_or_ge m its.length with h | h
          · exact h
          · rw [List.getElem?_eq_none h] at hm; cases hm
        rw [(ds.idx m it hm).1]
        exact hall m (by rw [← ds.len]; exact hlt)
      have hkQ : k = Qn := by
        obtain ⟨h', k1, -⟩ := hp.hk
        have h1 : k < Z.H.length := by
          rcases Nat.lt_or_ge k Z.H.length with hh | hh
          · exact hh
          · rw [List.getElem?_eq_none hh] at k1; cases k1
        by_cases hq0 : Qn = 0
        · omega
        · obtain ⟨it, hit, f, A, hc⟩ := ds.ef3 hq0
          have := (hp.efs it hit f Qn A hc).1 (hSall it hit)
          omega
      subst hkQ
      obtain ⟨t1, t2, -⟩ := hp.take ds hh ds.ae.1 fun j hj => by
        obtain ⟨h1, it', hm, f', hc'⟩ := ds.ae.2 j hj
        exact ⟨h1, fun it2 hm2 f2 q2 A2 hc2 _ hj2 => ((ds.ef2 it2 hm2 f2 q2 A2 hc2).2.2.2.2 j hj2).1 hj, it', hm, f', hc', hSall it' hm⟩
      refine hq ρ' a' w' ⟨zL, ⟨fun t d hl => ?_, fun t hl hkp => ?_, tm.gr⟩, t1, tm.size, tm.defers⟩ t2
      · obtain ⟨it, hit, hd, rfl⟩ := envOf_some hl
        exact ⟨by rw [zL]; exact hN it hit, tm.tm it hit (hSall it hit) t hd⟩
      · exact tm.sl t hkp fun it hit hd => absurd hd (envOf_none hl it hit)
    · refine ⟨ρ, 0, ⟨fun it _ h => (by cases h), fun it _ h => (by cases h), fun t hkp _ => hs.er.slot t rfl hkp, hs.er.glob, hs.size, hs.defers⟩, ⟨fun it hit f q A hc => ⟨fun h => (by cases h), fun h => ?_⟩, ⟨_, hH0, ?_, ?_, by rw [incs_val]; exact Nat.le_refl _, fun it _ f j _ h => (by cases h)⟩, fun it hit f j hc _ => ?_, fun j j' q q' hj _ hq1 => ?_⟩⟩
      · have := (ds.ef2 it hit f q A hc).1; omega
      · have h0 : HR ρ (incs Rn nx) bs w := ⟨hs.hr.live, hs.hr.apart, fun id hid => hs.hr.fresh id (hfresh id hid), hs.hr.inside⟩
        exact h0.congr rfl
      · exact ⟨Rho.le_refl ρ, Nat.le_refl _, fun _ _ _ => rfl, fun _ _ h => h, by show nx.val ≤ (incs Rn nx).val; rw [incs_val]; omega, fun _ _ h => h, Evn.refl w, fun _ _ _ => rfl⟩
      · exact (hs.hr.fresh _ (by rw [incs_val]; omega)).1
      · rw [(hs.hr.fresh (incs j nx) (by rw [incs_val]; omega)).1] at hq1; cases hq1
end

end Go.Proofs.YtnhgchnhfdimiaaGreatDoor.Ev
