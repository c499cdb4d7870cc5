/- Compiled: stores, appends, copies, texts of rows. -/
import Derived.Test.YtmbnogellhoheaaGreatDoorEvXc
namespace Go.Proofs.YtmbnogellhoheaaGreatDoor.Ev
open Go

theorem exec_builtin2 (a : Act) (b : Builtin) (x y : Operand) (t t2 : TypeId) (dst : Option Tmp) (ty : TypeId) (ps : String) (af : Array Edge) (gd : Option (Nat × Bool)) :
    ∃ consts, execOp a.eval ⟨dst, .call { callee := .builtin b, args := #[x, y], argTypes := #[t, t2] }, ty, ps, af, gd⟩ = builtin b #[t, t2] ty consts #[a.eval x, a.eval y] :=
  ⟨#[x, y].map fun | .const _ => true | _ => false, by
    have e : (#[x, y].map a.eval) = #[a.eval x, a.eval y] := by simp
    rw [← e]; rfl⟩
/-- What a builtin of two operands leaves: its value, the next name, the blocks. -/
noncomputable def efB (Y : TI) (b : Builtin) (t t2 : TypeId) : Option (V → V → Pos → TB → Option AR) :=
  match b with
  | .append => match Y.und t with
    | some (.slice e) => match Y.inf e with
      | some i => match i.zero with
        | some z => if z.cells.size = i.size ∧ i.size ≠ 0 ∧ i.bytes ≤ 65536 ∧ i.size < 65536 then (match Y.und t2 with
          | some (.slice _) => some fun v v' nx bs => appL (e * 65536 + i.size) i.size nx bs v v'
          | some .string => if i.size = 1 then some fun v v' nx bs => orO (appY (e * 65536 + 1) nx bs v v') (appW (e * 65536 + 1) nx bs v v') else none
          | _ => none) else none
        | none => none
      | none => none
    | _ => none
  | .copy => match Y.und t with
    | some (.slice e) => match Y.inf e with
      | some i => if i.size ≠ 0 then some fun v v' nx bs => Option.casesOn (cpyL i.size bs v v') none fun r => some (.mk r.1 nx r.2) else none
      | none => none
    | _ => none
  | .unsafeString => match Y.und t with
    | some (.pointer e) => if Y.cof e = 1 then some fun v v' nx bs => Option.casesOn (orO (ustr (e * 65536 + 1) bs v v') (ustrW (e * 65536 + 1) bs v v')) none fun r => some (.mk r.1 nx r.2) else none
    | _ => none
  | _ => none
noncomputable def efG (Y : TI) (o : Op) : Option (Operand × Operand × (V → V → Pos → TB → Option AR)) :=
  match o with
  | .store t x y => match Y.inf t with
    | some i => if i.size ≠ 0 then some (x, y, fun v v' nx bs => Option.casesOn (stC i.size bs v v') none fun bs' => some (.mk (.t []) nx bs')) else none
    | none => none
  | .call c => match c.callee, c.args.toList, c.argTypes.toList with
    | .builtin b, [x, y], [t, t2] => (efB Y b t t2).map fun g => (x, y, g)
    | _, _, _ => none
  | _ => none
theorem efG_snd (P : Program) {o : Oper} {x y : Operand} {g : V → V → Pos → TB → Option AR} (h : efG (tiOf P) o.op = some (x, y, g)) (ρ : Rho) (a : Act) {nx nx' : Pos} {bs bs' : TB} {w : World} (hh : HR ρ nx bs w) {v v' r : V} (hv : VR ρ v (a.eval x)) (hv' : VR ρ v' (a.eval y))
    (hf : g v v' nx bs = some (.mk r nx' bs')) : ∃ z w' ρ', Thru P o a w z w' ∧ VR ρ' r z ∧ HR ρ' nx' bs' w' ∧ Ext ρ nx bs w ρ' nx' bs' w' := by
  have val : ∀ {s : Sem Value}, execOp a.eval o = (do pure (Next.value (← s))) → (∃ z w' ρ', s.run P w = .ok z w' ∧ VR ρ' r z ∧ HR ρ' nx' bs' w' ∧ Ext ρ nx bs w ρ' nx' bs' w') →
      ∃ z w' ρ', Thru P o a w z w' ∧ VR ρ' r z ∧ HR ρ' nx' bs' w' ∧ Ext ρ nx bs w ρ' nx' bs' w' := by
    rintro s he ⟨z, w', ρ', h1, h2⟩
    exact ⟨z, w', ρ', .inl (by rw [he]; exact run_value h1), h2⟩
  obtain ⟨dst, op, ty, ps, after, guard⟩ := o
  cases op with
  | store t x' y' =>
    simp only [efG] at h
    split at h
    · rename_i i hi
      split at h
      · rename_i h0
        injection h with h; injection h with e1 h; injection h with e2 e3; subst e1; subst e2; subst e3
        cases hs : stC i.size bs v v' with
        | none => simp only [hs] at hf; cases hf
        | some b2 =>
          simp only [hs] at hf
          injection hf with hf; injection hf with e1 e2 e3; subst e1; subst e2; subst e3
          obtain ⟨w', k1, k2, k3⟩ := snd_stC P hi h0 hh hv hv' hs
          exact ⟨undef, w', ρ, .inr ⟨run_skip k1, rfl⟩, by show VR ρ (.t []) (.tuple #[]); unfold VR; simp [VRs], k2, k3⟩
      · cases h
    · cases h
  | call c =>
    simp only [efG] at h
    obtain ⟨callee, args, argTypes⟩ := c
    simp only at h
    split at h
    case h_2 => cases h
    rename_i b x' y' t t2 h1 h2
    obtain ⟨g', hb, hg⟩ := Option.map_eq_some_iff.1 h
    injection hg with e1 hg; injection hg with e2 e3; subst e1; subst e2; subst e3
    have ea : args = #[x', y'] := Array.ext' (by simpa using h1)
    have et : argTypes = #[t, t2] := Array.ext' (by simpa using h2)
    subst ea; subst et
    obtain ⟨consts, hex⟩ := exec_builtin2 a b x' y' t t2 dst ty ps after guard
    clear h
    have h := hb
    clear hb
    unfold efB at h
    split at h
    · split at h
      · rename_i e ht
        split at h
        · rename_i i hi
          split at h
          · rename_i z hz
            split at h
            · rename_i hc
              have ok : AppOk P t e i z := ⟨ht, hi, hz, hc.1, hc.2.1, hc.2.2.1, hc.2.2.2⟩
              split at h
              · rename_i e2 ht2
                injection h with h; subst h
                exact val (s := Builtin.append_ #[t, t2] ty #[a.eval x', a.eval y']) (by rw [hex]; rfl) (snd_appL P ok ht2 hh hv hv' hf)
              · rename_i ht2
                split at h
                · rename_i h1
                  injection h with h; subst h
                  exact val (s := Builtin.append_ #[t, t2] ty #[a.eval x', a.eval y']) (by rw [hex]; rfl) ((orO_some hf).elim (fun hf => snd_appY P ok h1 ht2 hh hv hv' hf) fun hf => snd_appW P ok h1 ht2 hh hv hv' hf)
                · cases h
              · cases h
            · cases h
          · cases h
        · cases h
      · cases h
    · split at h
      · rename_i e ht
        split at h
        · rename_i i hi
          split at h
          · rename_i h0
            injection h with h; subst h
            cases hs : cpyL i.size bs v v' with
            | none => simp only [hs] at hf; cases hf
            | some r2 =>
              obtain ⟨rv, b2⟩ := r2
              simp only [hs] at hf
              injection hf with hf; injection hf with e1 e2 e3; subst e1; subst e2; subst e3
              obtain ⟨z, w', k1, k2, k3, k4⟩ := snd_cpyL P (t2 := t2) (ty := ty) ht hi h0 hh hv hv' hs
              exact val (s := Builtin.copy_ #[t, t2] ty #[a.eval x', a.eval y']) (by rw [hex]; rfl) ⟨z, w', ρ, k1, k2, k3, k4⟩
          · cases h
        · cases h
      · cases h
    · split at h
      · rename_i e ht
        split at h
        · rename_i hc
          injection h with h; subst h
          cases hs : orO (ustr (e * 65536 + 1) bs v v') (ustrW (e * 65536 + 1) bs v v') with
          | none => simp only [hs] at hf; cases hf
          | some r2 =>
            obtain ⟨rv, b2⟩ := r2
            simp only [hs] at hf
            injection hf with hf; injection hf with e1 e2 e3; subst e1; subst e2; subst e3
            obtain ⟨z, w', k1, k2, k3, k4⟩ := (orO_some hs).elim (fun hs => snd_ustr P t t2 ty ht hc hh hv hv' hs) fun hs => snd_ustrW P t t2 ty ht hc hh hv hv' hs
            exact val (s := Builtin.unsafeString_ #[t, t2] ty #[a.eval x', a.eval y']) (by rw [hex]; rfl) ⟨z, w', ρ, k1, k2, k3, k4⟩
        · cases h
      · cases h
    · cases h
  | _ => simp [efG] at h

end Go.Proofs.YtmbnogellhoheaaGreatDoor.Ev

/- Compiled: cuts of texts and slices. -/
namespace Go.Proofs.YtmbnogellhoheaaGreatDoor.Ev
open Go

/-- Cuts of texts: the bounds given. -/
inductive CS where
  | both (lo hi : Operand) (g : V → V → V → Option V)
  | one (b : Operand) (g : V → V → Option V)
noncomputable def csG (Y : TI) (o : Op) : Option (Operand × CS) :=
  match o with
  | .slice t x lo hi mx => match Y.und t with
    | some .string => match lo, hi, mx with
      | some l, some h, none => some (x, .both l h slS)
      | some l, none, none => some (x, .one l slS1)
      | none, some h, none => some (x, .one h slS2)
      | _, _, _ => none
    | _ => none
  | _ => none
def CSS (ρ : Rho) (a : Act) (v r : V) : CS → Prop
  | .both lo hi g => ∃ m m', VR ρ m (a.eval lo) ∧ VR ρ m' (a.eval hi) ∧ g v m m' = some r
  | .one b g => ∃ m, VR ρ m (a.eval b) ∧ g v m = some r
theorem csG_snd (P : Program) {o : Oper} {x : Operand} {k : CS} (h : csG (tiOf P) o.op = some (x, k)) (ρ : Rho) (a : Act) (w : World) {v r : V} (hv : VR ρ v (a.eval x)) (hk : CSS ρ a v r k) : ∃ y, (execOp a.eval o).run P w = .ok (.value y) w ∧ VR ρ r y := by
  obtain ⟨dst, op, ty, ps, after, guard⟩ := o
  cases op with
  | slice t x' lo hi mx =>
    simp only [csG] at h
    split at h
    · rename_i ht
      split at h
      · injection h with h; injection h with e1 e2; subst e1; subst e2
        obtain ⟨c1, c2, h1, h2, h3⟩ := hk
        obtain ⟨y, k1, k2⟩ := snd_slS P ht ρ _ _ _ _ _ _ r w hv h1 h2 h3
        exact ⟨y, run_value k1, k2⟩
      · injection h with h; injection h with e1 e2; subst e1; subst e2
        obtain ⟨c1, h1, h3⟩ := hk
        obtain ⟨y, k1, k2⟩ := snd_slS1 P ht ρ _ _ _ _ r w hv h1 h3
        exact ⟨y, run_value k1, k2⟩
      · injection h with h; injection h with e1 e2; subst e1; subst e2
        obtain ⟨c1, h1, h3⟩ := hk
        obtain ⟨y, k1, k2⟩ := snd_slS2 P ht ρ _ _ _ _ r w hv h1 h3
        exact ⟨y, run_value k1, k2⟩
      · cases h
    · cases h
  | _ => simp [csG] at h

end Go.Proofs.YtmbnogellhoheaaGreatDoor.Ev
