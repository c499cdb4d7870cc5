/- Compiled: pure operations. -/
import Derived.Test.YtmbnogellhoheaaGreatDoorEvT
namespace Go.Proofs.YtmbnogellhoheaaGreatDoor.Ev
open Go

noncomputable def cvNU (x : V) : Option V := asN x none fun a => some (.k .u64 a)
theorem snd_cvNU (P : Program) {src dst : TypeId} {ds : TypeDesc} (hs : P.underlying src = some ds) (hd : P.underlying dst = some (.int .u64)) : Snd1 P cvNU (convert src dst) := by
  intro ρ v x r w hv hf
  obtain ⟨a, ea, h1⟩ := asN_some hf
  subst ea
  obtain ⟨ha, rfl⟩ := hv.n
  injection h1 with h1; subst h1
  refine ⟨_, run_convert_int P w hs hd, ?_⟩
  have hm : a < 2 ^ IntKind.u64.bits := ha
  unfold VR
  refine ⟨rfl, hm, ?_⟩
  rw [IntKind.wrap_u64, IntKind.wrap_u64, wrap_n a ha]; split <;> omega
noncomputable def nilC (v : V) : Option V := asP v none fun i o => some (.p i o)
/-- One operand. -/
noncomputable def unG (Y : TI) (o : Op) : Option (Operand × (V → Option V)) :=
  match o with
  | .nilCheck x => some (x, nilC)
  | .unOp op _ x => match op with
    | .not => some (x, notB)
    | .neg => some (x, negN)
    | _ => none
  | .convert src dst x => match Y.und src, Y.und dst with
    | some (.int .u8), some (.int .i64) => some (x, cvYN)
    | some (.int .i64), some (.int .u8) => some (x, cvNY)
    | some (.int .i64), some (.int .i32) => some (x, cvNI)
    | some (.int .i64), some (.int .u64) => some (x, cvNU)
    | some (.int .i32), some (.int .i64) => some (x, cvIN)
    | some .string, some .string => some (x, cvSS)
    | _, _ => none
  | .extract x k => some (x, extT k)
  | .field t x k => match Y.und t with
    | some (.struct fs) => match fs[k]? with
      | some f => if scal Y f.type = true then some (x, fldS f.offset) else if aggr Y f.type = true then (match Y.inf f.type with
        | some i => some (x, fldG f.offset i.size)
        | none => none) else none
      | none => none
    | _ => none
  | .fieldAddr t x k => match Y.und t with
    | some (.struct fs) => match fs[k]? with
      | some f => match Y.inf f.type with
        | some i => if i.size ≠ 0 then some (x, faddP f.offset) else none
        | none => none
      | none => none
    | _ => none
  | _ => none
theorem unG_snd (P : Program) {o : Oper} {x : Operand} {g : V → Option V} (h : unG (tiOf P) o.op = some (x, g)) (ρ : Rho) (a : Act) (w : World) {v r : V} (hv : VR ρ v (a.eval x)) (hf : g v = some r) : ∃ y, (execOp a.eval o).run P w = .ok (.value y) w ∧ VR ρ r y := by
  have one : ∀ {c : Value → Sem Value} {g : V → Option V}, execOp a.eval o = (do pure (Next.value (← c (a.eval x)))) → Snd1 P g c → g v = some r → ∃ y, (execOp a.eval o).run P w = .ok (.value y) w ∧ VR ρ r y := by
    intro c g he hs hf
    obtain ⟨z, h1, h2⟩ := hs ρ _ _ r w hv hf
    exact ⟨z, by rw [he]; exact run_value h1, h2⟩
  obtain ⟨dst, op, ty, ps, after, guard⟩ := o
  cases op with
  | nilCheck y =>
    simp only [unG] at h
    injection h with h; injection h with h1 h2; subst h1; subst h2
    obtain ⟨i, o', ev, h3⟩ := asP_some hf
    subst ev
    injection h3 with h3; subst h3
    obtain ⟨q, hq, he⟩ := hv.p
    refine ⟨_, ?_, hv⟩
    rw [he]
    unfold execOp
    simp only [he]
    rfl
  | unOp op t y =>
    simp only [unG] at h
    split at h
    · injection h with h; injection h with h1 h2; subst h1; subst h2
      exact one rfl (snd_notB P) hf
    · injection h with h; injection h with h1 h2; subst h1; subst h2
      exact one rfl (snd_negN P) hf
    · cases h
  | convert src dst y =>
    simp only [unG] at h
    split at h
    · rename_i h1 h2
      injection h with h; injection h with e1 e2; subst e1; subst e2
      exact one rfl (snd_cvYN P h1 h2) hf
    · rename_i h1 h2
      injection h with h; injection h with e1 e2; subst e1; subst e2
      exact one rfl (snd_cvNY P h1 h2) hf
    · rename_i h1 h2
      injection h with h; injection h with e1 e2; subst e1; subst e2
      exact one rfl (snd_cvNI P h1 h2) hf
    · rename_i h1 h2
      injection h with h; injection h with e1 e2; subst e1; subst e2
      exact one rfl (snd_cvNU P h1 h2) hf
    · rename_i h1 h2
      injection h with h; injection h with e1 e2; subst e1; subst e2
      exact one rfl (snd_cvIN P h1 h2) hf
    · rename_i h1 h2
      injection h with h; injection h with e1 e2; subst e1; subst e2
      exact one rfl (snd_cvSS P h1 h2) hf
    · cases h
  | extract y k =>
    simp only [unG] at h
    injection h with h; injection h with e1 e2; subst e1; subst e2
    exact one rfl (snd_extT P k) hf
  | field t y k =>
    simp only [unG] at h
    split at h
    · rename_i fs ht
      split at h
      · rename_i f hk
        split at h
        · rename_i hs
          injection h with h; injection h with e1 e2; subst e1; subst e2
          exact one rfl (snd_fldS P ht hk hs) hf
        · split at h
          · rename_i hs
            split at h
            · rename_i i hi
              injection h with h; injection h with e1 e2; subst e1; subst e2
              exact one rfl (snd_fldG P ht hk hs hi) hf
            · cases h
          · cases h
      · cases h
    · cases h
  | fieldAddr t y k =>
    simp only [unG] at h
    split at h
    · rename_i fs ht
      split at h
      · rename_i f hk
        split at h
        · rename_i i hi
          split at h
          · rename_i hs
            injection h with h; injection h with e1 e2; subst e1; subst e2
            exact one rfl (snd_faddP P ht hk hi hs) hf
          · cases h
        · cases h
      · cases h
    · cases h
  | _ => simp [unG] at h

end Go.Proofs.YtmbnogellhoheaaGreatDoor.Ev

/- Compiled: pure operations of two operands, picks, builtins of one operand. -/
namespace Go.Proofs.YtmbnogellhoheaaGreatDoor.Ev
open Go

noncomputable def twG (Y : TI) (o : Op) : Option (Operand × Operand × (V → V → Option V)) :=
  match o with
  | .binOp op t x y ty => (binG Y op t ty x y).map fun g => (x, y, g)
  | .indexAddr t x y => match Y.und t with
    | some (.slice e) => (Y.inf e).map fun i => (x, y, iaddL i.size)
    | _ => none
  | .index t x y => match Y.und t with
    | some .string => some (x, y, idxS)
    | _ => none
  | _ => none
theorem twG_snd (P : Program) {o : Oper} {x y : Operand} {g : V → V → Option V} (h : twG (tiOf P) o.op = some (x, y, g)) (ρ : Rho) (a : Act) (w : World) {v v' r : V} (hv : VR ρ v (a.eval x)) (hv' : VR ρ v' (a.eval y)) (hf : g v v' = some r) :
    ∃ z, (execOp a.eval o).run P w = .ok (.value z) w ∧ VR ρ r z := by
  have two : ∀ {c : Value → Value → Sem Value} {g : V → V → Option V}, execOp a.eval o = (do pure (Next.value (← c (a.eval x) (a.eval y)))) → Snd2 P g c → g v v' = some r → ∃ z, (execOp a.eval o).run P w = .ok (.value z) w ∧ VR ρ r z := by
    intro c g he hs hf
    obtain ⟨z, h1, h2⟩ := hs ρ _ _ _ _ r w hv hv' hf
    exact ⟨z, by rw [he]; exact run_value h1, h2⟩
  obtain ⟨dst, op, ty, ps, after, guard⟩ := o
  cases op with
  | binOp op t x' y' ty' =>
    simp only [twG] at h
    obtain ⟨g', h1, h2⟩ := Option.map_eq_some_iff.1 h
    injection h2 with e1 h2; injection h2 with e2 e3; subst e1; subst e2; subst e3
    exact two (c := cbin op t x' y') rfl (binG_snd P h1) hf
  | indexAddr t x' y' =>
    simp only [twG] at h
    split at h
    · rename_i e ht
      obtain ⟨i, h1, h2⟩ := Option.map_eq_some_iff.1 h
      injection h2 with e1 h2; injection h2 with e2 e3; subst e1; subst e2; subst e3
      exact two (c := Instr.indexAt t) rfl (snd_iaddL P ht h1) hf
    · cases h
  | index t x' y' =>
    simp only [twG] at h
    split at h
    · rename_i ht
      injection h with h; injection h with e1 h2; injection h2 with e2 e3; subst e1; subst e2; subst e3
      exact two (c := Instr.index t) rfl (snd_idxS P ht) hf
    · cases h
  | _ => simp [twG] at h

theorem snd_capL (P : Program) {t ty e : TypeId} (ht : P.underlying t = some (.slice e)) : Snd1 P capL (fun x => Builtin.cap_ #[t] ty #[x]) := by
  intro ρ v x r w hv hf
  rcases asL_some hf with ⟨ev, h1⟩ | ⟨i, o, l, c, ev, h1⟩
  · subst ev
    have := hv.l0; subst this
    injection h1 with h1; subst h1
    refine ⟨.int .i64 0, ?_, VR_n_of (by omega) (by rw [wrap_n 0 (by omega), if_pos (by omega)]; rfl)⟩
    show (Builtin.cap_ #[t] ty #[.slice none 0 0]).run P w = _
    unfold Builtin.cap_
    simp [run_underlying P w ht, goInt]
  · subst ev
    obtain ⟨q, z, cap, hq, rfl, hlc, hcap, -⟩ := hv.l
    cases hc0 : Nat.beq c 0 with
    | true => rw [hc0] at h1; cases h1
    | false =>
      rw [hc0, cond_false] at h1
      have hc0 : c ≠ 0 := fun h => by rw [beq_yes h] at hc0; simp at hc0
      obtain ⟨g, h2⟩ := cond_some h1
      have g : c ≤ 1099511627776 := Nat.le_of_ble_eq_true g
      injection h2 with h2; subst h2
      have hcc := hcap hc0
      have ep : Nat.pred c = cap := by show c - 1 = cap; omega
      rw [ep]
      refine ⟨.int .i64 cap, ?_, VR_n_of (by omega) (by rw [wrap_n cap (by omega), if_pos (by omega)])⟩
      show (Builtin.cap_ #[t] ty #[.slice (some ⟨q.r, z, none⟩) l cap]).run P w = _
      unfold Builtin.cap_
      simp [run_underlying P w ht, goInt]
theorem exec_builtin1 (a : Act) (b : Builtin) (x : Operand) (t : TypeId) (dst : Option Tmp) (ty : TypeId) (ps : String) (af : Array Edge) (gd : Option (Nat × Bool)) : ∃ consts, execOp a.eval ⟨dst, .call { callee := .builtin b, args := #[x], argTypes := #[t] }, ty, ps, af, gd⟩ = builtin b #[t] ty consts #[a.eval x] :=
  ⟨#[x].map fun | .const _ => true | _ => false, by
    have e : (#[x].map a.eval) = #[a.eval x] := by simp
    rw [← e]; rfl⟩
/-- Builtins of one operand. -/
noncomputable def blG (Y : TI) (b : Builtin) (t : TypeId) : Option (V → Option V) :=
  match b with
  | .len => match Y.und t with
    | some .string => some lenS
    | some (.slice _) => some lenL
    | _ => none
  | .cap => match Y.und t with
    | some (.slice _) => some capL
    | _ => none
  | .unsafeSliceData => some sdtL
  | _ => none
theorem blG_snd (P : Program) {o : Oper} {b : Builtin} {t : TypeId} {x : Operand} {g : V → Option V} (ho : o.op = .call { callee := .builtin b, args := #[x], argTypes := #[t] }) (h : blG (tiOf P) b t = some g) (ρ : Rho) (a : Act) (w : World) {v r : V} (hv : VR ρ v (a.eval x))
    (hf : g v = some r) : ∃ z, (execOp a.eval o).run P w = .ok (.value z) w ∧ VR ρ r z := by
  have one : ∀ {c : Value → Sem Value} {g : V → Option V}, execOp a.eval o = (do pure (Next.value (← c (a.eval x)))) → Snd1 P g c → g v = some r → ∃ y, (execOp a.eval o).run P w = .ok (.value y) w ∧ VR ρ r y := by
    intro c g he hs hf
    obtain ⟨z, h1, h2⟩ := hs ρ _ _ r w hv hf
    exact ⟨z, by rw [he]; exact run_value h1, h2⟩
  obtain ⟨dst, op, ty, ps, after, guard⟩ := o
  simp only at ho
  subst ho
  obtain ⟨consts, hex⟩ := exec_builtin1 a b x t dst ty ps after guard
  cases b <;> simp only [blG] at h <;> try cases h
  case cap =>
    split at h
    · rename_i ht
      injection h with h; subst h
      exact one (c := fun x => Builtin.cap_ #[t] ty #[x]) (by rw [hex]; rfl) (snd_capL P ht) hf
    · cases h
  case len =>
    split at h
    · rename_i ht
      injection h with h; subst h
      exact one (c := fun x => Builtin.len_ #[t] ty #[x]) (by rw [hex]; rfl) (snd_lenS P ht) hf
    · rename_i ht
      injection h with h; subst h
      exact one (c := fun x => Builtin.len_ #[t] ty #[x]) (by rw [hex]; rfl) (snd_lenL P ht) hf
    · cases h
  case unsafeSliceData =>
    exact one (c := fun x => Builtin.unsafeSliceData_ #[t] ty #[x]) (by rw [hex]; rfl) (snd_sdtL P #[t] ty) hf

/-- A pick. -/
theorem pick_snd (P : Program) {o : Oper} {c x y : Operand} (ho : o.op = .pick c x y) (ρ : Rho) (a : Act) (w : World) {v0 v v' r : V} (hu : VR ρ v0 (a.eval c)) (hv : VR ρ v (a.eval x)) (hv' : VR ρ v' (a.eval y)) (hf : pickB v0 v v' = some r) :
    ∃ z, (execOp a.eval o).run P w = .ok (.value z) w ∧ VR ρ r z := by
  obtain ⟨dst, op, ty, ps, after, guard⟩ := o
  simp only at ho
  subst ho
  exact snd_pickB P v0 v v' _ _ _ r w hu hv hv' hf

end Go.Proofs.YtmbnogellhoheaaGreatDoor.Ev
