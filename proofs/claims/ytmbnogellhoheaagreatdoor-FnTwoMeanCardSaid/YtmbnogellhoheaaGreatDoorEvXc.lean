/- Compiled: reads of memory. -/
import Derived.Test.YtmbnogellhoheaaGreatDoorEvXa
namespace Go.Proofs.YtmbnogellhoheaaGreatDoor.Ev
open Go

noncomputable def rdG (Y : TI) (o : Op) : Option (Operand × (TB → V → Option V)) :=
  match o with
  | .load t x => if scal Y t = true then some (x, ldS) else if aggr Y t = true then (match Y.inf t with
    | some i => some (x, ldG i.size)
    | none => none) else none
  | .convert src dst x => match Y.und src, Y.und dst with
    | some (.slice e), some .string => match Y.und e with
      | some (.int .u8) => some (x, fun bs v => orO (cvLS bs v) (cvLSW bs v))
      | _ => none
    | some (.pointer t), some .unsafePointer => match Y.inf t with
      | some j => if j.size ≠ 0 then some (x, toU) else none
      | none => none
    | some .unsafePointer, some (.pointer u) => match Y.inf u with
      | some _ => if Y.cof u ≠ 0 then some (x, fromU u (Y.cof u)) else none
      | none => none
    | _, _ => none
  | _ => none
theorem rdG_snd (P : Program) {o : Oper} {x : Operand} {g : TB → V → Option V} (h : rdG (tiOf P) o.op = some (x, g)) (ρ : Rho) (a : Act) {nx : Pos} {bs : TB} {w : World} (hh : HR ρ nx bs w) {v r : V} (hv : VR ρ v (a.eval x)) (hf : g bs v = some r) :
    ∃ y, (execOp a.eval o).run P w = .ok (.value y) w ∧ VR ρ r y := by
  have one : ∀ {c : Value → Sem Value}, execOp a.eval o = (do pure (Next.value (← c (a.eval x)))) → (∃ y, (c (a.eval x)).run P w = .ok y w ∧ VR ρ r y) → ∃ y, (execOp a.eval o).run P w = .ok (.value y) w ∧ VR ρ r y := by
    rintro c he ⟨z, h1, h2⟩
    exact ⟨z, by rw [he]; exact run_value h1, h2⟩
  obtain ⟨dst, op, ty, ps, after, guard⟩ := o
  cases op with
  | load t y =>
    simp only [rdG] at h
    split at h
    · rename_i hs
      injection h with h; injection h with e1 e2; subst e1; subst e2
      exact one (c := Instr.loadAt t) rfl (snd_ldS P hs hh hv hf)
    · split at h
      · rename_i hs
        split at h
        · rename_i i hi
          injection h with h; injection h with e1 e2; subst e1; subst e2
          exact one (c := Instr.loadAt t) rfl (snd_ldG P hs hi hh hv hf)
        · cases h
      · cases h
  | convert src dst y =>
    simp only [rdG] at h
    split at h
    · rename_i e h1 h2
      split at h
      · rename_i he
        injection h with h; injection h with e1 e2; subst e1; subst e2
        exact one (c := convert src dst) rfl ((orO_some hf).elim (fun hf => snd_cvLS P h1 he h2 hh hv hf) fun hf => snd_cvLSW P h1 he h2 hh hv hf)
      · cases h
    · rename_i t h1 h2
      split at h
      · rename_i j hj
        split at h
        · rename_i h0
          injection h with h; injection h with e1 e2; subst e1; subst e2
          exact one (c := convert src dst) rfl (snd_toU P h1 h2 hj h0 hh hv hf)
        · cases h
      · cases h
    · rename_i u h1 h2
      split at h
      · rename_i j hj
        split at h
        · rename_i h0
          injection h with h; injection h with e1 e2; subst e1; subst e2
          exact one (c := convert src dst) rfl (snd_fromU P h1 h2 hj rfl h0 hh hv hf)
        · cases h
      · cases h
    · cases h
  | _ => simp [rdG] at h

end Go.Proofs.YtmbnogellhoheaaGreatDoor.Ev

/- Compiled: new blocks. -/
namespace Go.Proofs.YtmbnogellhoheaaGreatDoor.Ev
open Go

inductive NW where
  | c (n : NV)
  | one (x : Operand) (g : V → Option NV)
  | two (x y : Operand) (g : V → V → Option NV)
noncomputable def nwG (Y : TI) (o : Op) : Option NW :=
  match o with
  | .alloc t => match zplan Y t with
    | some cs => if cs.length ≤ 65536 then some (.c (.p (t * 65536) cs)) else none
    | none => none
  | .box t x => some (.one x (boxV (t * 65536)))
  | .makeSlice t x y => (mplan Y t).map fun p => .two x y (mslV p.1 p.2)
  | .convert src dst x => match Y.und src, Y.und dst with
    | some .string, some (.slice e) => match Y.und e with
      | some (.int .u8) => some (.one x fun v => orO (cvSL (e * 65536 + 1) v) (cvSLW (e * 65536 + 1) v))
      | _ => none
    | _, _ => none
  | _ => none
/-- What such an operation makes, of its operands' values. -/
def NWS (ρ : Rho) (a : Act) (m : NV) : NW → Prop
  | .c n => m = n
  | .one x g => ∃ v, VR ρ v (a.eval x) ∧ g v = some m
  | .two x y g => ∃ v v', VR ρ v (a.eval x) ∧ VR ρ v' (a.eval y) ∧ g v v' = some m
theorem nwG_snd (P : Program) {o : Oper} {k : NW} (h : nwG (tiOf P) o.op = some k) (ρ : Rho) (a : Act) (w : World) {m : NV} (hm : NWS ρ a m k) :
    ∃ res : Result Value, NSnd ρ w m res ∧ ∀ y w', res = .ok y w' → (execOp a.eval o).run P w = .ok (.value y) w' := by
  have one : ∀ {s : Sem Value}, execOp a.eval o = (do pure (Next.value (← s))) → NSnd ρ w m (s.run P w) → ∃ res : Result Value, NSnd ρ w m res ∧ ∀ y w', res = .ok y w' → (execOp a.eval o).run P w = .ok (.value y) w' := by
    intro s he hs
    exact ⟨_, hs, fun y w' e => by rw [he]; exact run_value e⟩
  obtain ⟨dst, op, ty, ps, after, guard⟩ := o
  cases op with
  | alloc t =>
    simp only [nwG] at h
    split at h
    · rename_i cs hz
      split at h
      · rename_i hb
        injection h with h; subst h
        have hm : m = .p (t * 65536) cs := hm
        subst hm
        exact one (s := Instr.alloc t true (.tuple #[])) rfl (snd_alloc P hz (by omega) w)
      · cases h
    · cases h
  | box t x =>
    simp only [nwG] at h
    injection h with h; subst h
    obtain ⟨v, hv, hg⟩ := hm
    exact one (s := Instr.box t (a.eval x)) rfl (snd_boxV P t w hv hg)
  | makeSlice t x y =>
    simp only [nwG] at h
    obtain ⟨⟨es, zs⟩, h1, h2⟩ := Option.map_eq_some_iff.1 h
    subst h2
    obtain ⟨v, v', hv, hv', hg⟩ := hm
    exact one (s := Instr.makeSlice t (a.eval x) (a.eval y)) rfl (snd_mslV P h1 w hv hv' hg)
  | convert src dst x =>
    simp only [nwG] at h
    split at h
    · rename_i e h1 h2
      split at h
      · rename_i he
        injection h with h; subst h
        obtain ⟨v, hv, hg⟩ := hm
        exact one (s := convert src dst (a.eval x)) rfl ((orO_some hg).elim (fun hg => snd_cvSL P h1 h2 he w hv hg) fun hg => snd_cvSLW P h1 h2 he w hv hg)
      · cases h
    · cases h
  | _ => simp [nwG] at h

end Go.Proofs.YtmbnogellhoheaaGreatDoor.Ev
