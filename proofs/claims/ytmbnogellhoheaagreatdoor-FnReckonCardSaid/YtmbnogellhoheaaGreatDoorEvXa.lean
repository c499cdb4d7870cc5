/- Compiled: pure operations. -/
import Derived.Test.YtmbnogellhoheaaGreatDoorEvM
namespace Go.Proofs.YtmbnogellhoheaaGreatDoor.Ev
open Go

noncomputable def cvNU (x : V) : Option V := asN x none fun a => some (.k .u64 a)
theorem snd_cvNU (P : Program) {src dst : TypeId} {ds : TypeDesc} (hs : P.underlying src = some ds) (hd : P.underlying dst = some (.int .u64)) : Snd1 P cvNU (convert src dst) := by
  intro ρ v x r w hv hf
  obtain ⟨a, ea, h1⟩ := asN_some hf
  subst ea
  obtain ⟨ha, rfl⟩ := hv.n
  injection h1 with h1; subst h1
  refine ⟨_, run_convert_int P w hs hd, ?_⟩
  have hm : a < 2 ^ IntKind.u64.bits := ha
  unfold VR
  refine ⟨rfl, hm, ?_⟩
  rw [IntKind.wrap_u64, IntKind.wrap_u64, wrap_n a ha]; split <;> omega
noncomputable def nilC (v : V) : Option V := asP v none fun i o => some (.p i o)
/-- One operand. -/
noncomputable def unG (Y : TI) (o : Op) : Option (Operand × (V → Option V)) :=
  match o with
  | .nilCheck x => some (x, nilC)
  | .unOp op _ x => match op with
    | .not => some (x, notB)
    | .neg => some (x, negN)
    | _ => none
  | .convert src dst x => match Y.und src, Y.und dst with
    | some (.int .u8), some (.int .i64) => some (x, cvYN)
    | some (.int .i64), some (.int .u8) => some (x, cvNY)
    | some (.int .i64), some (.int .i32) => some (x, cvNI)
    | some (.int .i64), some (.int .u64) => some (x, cvNU)
    | some (.int .i32), some (.int .i64) => some (x, cvIN)
    | some .string, some .string => some (x, cvSS)
    | _, _ => none
  | .extract x k => some (x, extT k)
  | .field t x k => match Y.und t with
    | some (.struct fs) => match fs[k]? with
      | some f => if scal Y f.type = true then some (x, fldS f.offset) else if aggr Y f.type = true then (match Y.inf f.type with
        | some i => some (x, fldG f.offset i.size)
        | none => none) else none
      | none => none
    | _ => none
  | .fieldAddr t x k => match Y.und t with
    | some (.struct fs) => match fs[k]? with
      | some f => match Y.inf f.type with
        | some i => if i.size ≠ 0 then some (x, faddP f.offset) else none
        | none => none
      | none => none
    | _ => none
  | _ => none
theorem unG_snd (P : Program) {o : Oper} {x : Operand} {g : V → Option V} (h : unG (tiOf P) o.op = some (x, g)) (ρ : Rho) (a : Act) (w : World) {v r : V} (hv : VR ρ v (a.eval x)) (hf : g v = some r) : ∃ y, (execOp a.eval o).run P w = .ok (.value y) w ∧ VR ρ r y := by
  have one : ∀ {c : Value → Sem Value} {g : V → Option V}, execOp a.eval o = (do pure (Next.value (← c (a.eval x)))) → Snd1 P g c → g v = some r → ∃ y, (execOp a.eval o).run P w = .ok (.value y) w ∧ VR ρ r y := by
    intro c g he hs hf
    obtain ⟨z, h1, h2⟩ := hs ρ _ _ r w hv hf
    exact ⟨z, by rw [he]; exact run_value h1, h2⟩
  obtain ⟨dst, op, ty, ps, after, guard⟩ := o
  cases op with
  | nilCheck y =>
    simp only [unG] at h
    injection h with h; injection h with h1 h2; subst h1; subst h2
    obtain ⟨i, o', ev, h3⟩ := asP_some hf
    subst ev
    injection h3 with h3; subst h3
    obtain ⟨q, hq, he⟩ := hv.p
    refine ⟨_, ?_, hv⟩
    rw [he]
    unfold execOp
    simp only [he]
    rfl
  | unOp op t y =>
    simp only [unG] at h
    split at h
    · injection h with h; injection h with h1 h2; subst h1; subst h2
      exact one rfl (snd_notB P) hf
    · injection h with h; injection h with h1 h2; subst h1; subst h2
      exact one rfl (snd_negN P) hf
    · cases h
  | convert src dst y =>
    simp only [unG] at h
    split at h
    · rename_i h1 h2
      injection h with h; injection h with e1 e2; subst e1; subst e2
      exact one rfl (snd_cvYN P h1 h2) hf
    · rename_i h1 h2
      injection h with h; injection h with e1 e2; subst e1; subst e2
      exact one rfl (snd_cvNY P h1 h2) hf
    · rename_i h1 h2
      injection h with h; injection h with e1 e2; subst e1; subst e2
      exact one rfl (snd_cvNI P h1 h2) hf
    · rename_i h1 h2
      injection h with h; injection h with e1 e2; subst e1; subst e2
      exact one rfl (snd_cvNU P h1 h2) hf
    · rename_i h1 h2
      injection h with h; injection h with e1 e2; subst e1; subst e2
      exact one rfl (snd_cvIN P h1 h2) hf
    · rename_i h1 h2
      injection h with h; injection h with e1 e2; subst e1; subst e2
      exact one rfl (snd_cvSS P h1 h2) hf
    · cases h
  | extract y k =>
    simp only [unG] at h
    injection h with h; injection h with e1 e2; subst e1; subst e2
    exact one rfl (snd_extT P k) hf
  | field t y k =>
    simp only [unG] at h
    split at h
    · rename_i fs ht
      split at h
      · rename_i f hk
        split at h
        · rename_i hs
          injection h with h; injection h with e1 e2; subst e1; subst e2
          exact one rfl (snd_fldS P ht hk hs) hf
        · split at h
          · rename_i hs
            split at h
            · rename_i i hi
              injection h with h; injection h with e1 e2; subst e1; subst e2
              exact one rfl (snd_fldG P ht hk hs hi) hf
            · cases h
          · cases h
      · cases h
    · cases h
  | fieldAddr t y k =>
    simp only [unG] at h
    split at h
    · rename_i fs ht
      split at h
      · rename_i f hk
        split at h
        · rename_i i hi
          split at h
          · rename_i hs
            injection h with h; injection h with e1 e2; subst e1; subst e2
            exact one rfl (snd_faddP P ht hk hi hs) hf
          · cases h
        · cases h
      · cases h
    · cases h
  | _ => simp [unG] at h

end Go.Proofs.YtmbnogellhoheaaGreatDoor.Ev

/- Compiled: pure operations of two operands, picks, builtins of one operand. -/
namespace Go.Proofs.YtmbnogellhoheaaGreatDoor.Ev
open Go

noncomputable def twG (Y : TI) (o : Op) : Option (Operand × Operand × (V → V → Option V)) :=
  match o with
  | .binOp op t x y ty => (binG Y op t ty x y).map fun g => (x, y, g)
  | .indexAddr t x y => match Y.und t with
    | some (.slice e) => (Y.inf e).map fun i => (x, y, iaddL i.size)
    | _ => none
  | .index t x y => match Y.und t with
    | some .string => some (x, y, idxS)
    | _ => none
  | _ => none
theorem twG_snd (P : Program) {o : Oper} {x y : Operand} {g : V → V → Option V} (h : twG (tiOf P) o.op = some (x, y, g)) (ρ : Rho) (a : Act) (w : World) {v v' r : V} (hv : VR ρ v (a.eval x)) (hv' : VR ρ v' (a.eval y)) (hf : g v v' = some r) :
    ∃ z, (execOp a.eval o).run P w = .ok (.value z) w ∧ VR ρ r z := by
  have two : ∀ {c : Value → Value → Sem Value} {g : V → V → Option V}, execOp a.eval o = (do pure (Next.value (← c (a.eval x) (a.eval y)))) → Snd2 P g c → g v v' = some r → ∃ z, (execOp a.eval o).run P w = .ok (.value z) w ∧ VR ρ r z := by
    intro c g he hs hf
    obtain ⟨z, h1, h2⟩ := hs ρ _ _ _ _ r w hv hv' hf
    exact ⟨z, by rw [he]; exact run_value h1, h2⟩
  obtain ⟨dst, op, ty, ps, after, guard⟩ := o
  cases op with
  | binOp op t x' y' ty' =>
    simp only [twG] at h
    obtain ⟨g', h1, h2⟩ := Option.map_eq_some_iff.1 h
    injection h2 with e1 h2; injection h2 with e2 e3; subst e1; subst e2; subst e3
    exact two (c := cbin op t x' y') rfl (binG_snd P h1) hf
  | indexAddr t x' y' =>
    simp only [twG] at h
    split at h
    · rename_i e ht
      obtain ⟨i, h1, h2⟩ := Option.map_eq_some_iff.1 h
      injection h2 with e1 h2; injection h2 with e2 e3; subst e1; subst e2; subst e3
      exact two (c := Instr.indexAt t) rfl (snd_iaddL P ht h1) hf
    · cases h
  | index t x' y' =>
    simp only [twG] at h
    split at h
    · rename_i ht
      injection h with h; injection h with e1 h2; injection h2 with e2 e3; subst e1; subst e2; subst e3
      exact two (c := Instr.index t) rfl (snd_idxS P ht) hf
    · cases h
  | _ => simp [twG] at h

theorem snd_capL (P : Program) {t ty e : TypeId} (ht : P.underlying t = some (.slice e)) : Snd1 P capL (fun x => Builtin.cap_ #[t] ty #[x]) := by
  intro ρ v x r w hv hf
  rcases asL_some hf with ⟨ev, h1⟩ | ⟨i, o, l, c, ev, h1⟩
  · subst ev
    have := hv.l0; subst this
    injection h1 with h1; subst h1
    refine ⟨.int .i64 0, ?_, VR_n_of (by omega) (by rw [wrap_n 0 (by omega), if_pos (by omega)]; rfl)⟩
    show (Builtin.cap_ #[t] ty #[.slice none 0 0]).run P w = _
    unfold Builtin.cap_
    simp [run_underlying P w ht, goInt]
  · subst ev
    obtain ⟨q, z, cap, hq, rfl, hlc, hcap, -⟩ := hv.l
    cases hc0 : Nat.beq c 0 with
    | true => rw [hc0] at h1; cases h1
    | false =>
      rw [hc0, cond_false] at h1
      have hc0 : c ≠ 0 := fun h => by rw [beq_yes h] at hc0; simp at hc0
      obtain ⟨g, h2⟩ := cond_some h1
      have g : c ≤ 1099511627776 := Nat.le_of_ble_eq_true g
      injection h2 with h2; subst h2
      have hcc := hcap hc0
      have ep : Nat.pred c = cap := by show c - 1 = cap; omega
      rw [ep]
      refine ⟨.int .i64 cap, ?_, VR_n_of (by omega) (by rw [wrap_n cap (by omega), if_pos (by omega)])⟩
      show (Builtin.cap_ #[t] ty #[.slice (some ⟨q.r, z, none⟩) l cap]).run P w = _
      unfold Builtin.cap_
      simp [run_underlying P w ht, goInt]
theorem exec_builtin1 (a : Act) (b : Builtin) (x : Operand) (t : TypeId) (dst : Option Tmp) (ty : TypeId) (ps : String) (af : Array Edge) (gd : Option (Nat × Bool)) : ∃ consts, execOp a.eval ⟨dst, .call { callee := .builtin b, args := #[x], argTypes := #[t] }, ty, ps, af, gd⟩ = builtin b #[t] ty consts #[a.eval x] :=
  ⟨#[x].map fun | .const _ => true | _ => false, by
    have e : (#[x].map a.eval) = #[a.eval x] := by simp
    rw [← e]; rfl⟩
/-- Builtins of one operand. -/
noncomputable def blG (Y : TI) (b : Builtin) (t : TypeId) : Option (V → Option V) :=
  match b with
  | .len => match Y.und t with
    | some .string => some lenS
    | some (.slice _) => some lenL
    | _ => none
  | .cap => match Y.und t with
    | some (.slice _) => some capL
    | _ => none
  | .unsafeSliceData => some sdtL
  | _ => none
theorem blG_snd (P : Program) {o : Oper} {b : Builtin} {t : TypeId} {x : Operand} {g : V → Option V} (ho : o.op = .call { callee := .builtin b, args := #[x], argTypes := #[t] }) (h : blG (tiOf P) b t = some g) (ρ : Rho) (a : Act) (w : World) {v r : V} (hv : VR ρ v (a.eval x))
    (hf : g v = some r) : ∃ z, (execOp a.eval o).run P w = .ok (.value z) w ∧ VR ρ r z := by
  have one : ∀ {c : Value → Sem Value} {g : V → Option V}, execOp a.eval o = (do pure (Next.value (← c (a.eval x)))) → Snd1 P g c → g v = some r → ∃ y, (execOp a.eval o).run P w = .ok (.value y) w ∧ VR ρ r y := by
    intro c g he hs hf
    obtain ⟨z, h1, h2⟩ := hs ρ _ _ r w hv hf
    exact ⟨z, by rw [he]; exact run_value h1, h2⟩
  obtain ⟨dst, op, ty, ps, after, guard⟩ := o
  simp only at ho
  subst ho
  obtain ⟨consts, hex⟩ := exec_builtin1 a b x t dst ty ps after guard
  cases b <;> simp only [blG] at h <;> try cases h
  case cap =>
    split at h
    · rename_i ht
      injection h with h; subst h
      exact one (c := fun x => Builtin.cap_ #[t] ty #[x]) (by rw [hex]; rfl) (snd_capL P ht) hf
    · cases h
  case len =>
    split at h
    · rename_i ht
      injection h with h; subst h
      exact one (c := fun x => Builtin.len_ #[t] ty #[x]) (by rw [hex]; rfl) (snd_lenS P ht) hf
    · rename_i ht
      injection h with h; subst h
      exact one (c := fun x => Builtin.len_ #[t] ty #[x]) (by rw [hex]; rfl) (snd_lenL P ht) hf
    · cases h
  case unsafeSliceData =>
    exact one (c := fun x => Builtin.unsafeSliceData_ #[t] ty #[x]) (by rw [hex]; rfl) (snd_sdtL P #[t] ty) hf

/-- A pick. -/
theorem pick_snd (P : Program) {o : Oper} {c x y : Operand} (ho : o.op = .pick c x y) (ρ : Rho) (a : Act) (w : World) {v0 v v' r : V} (hu : VR ρ v0 (a.eval c)) (hv : VR ρ v (a.eval x)) (hv' : VR ρ v' (a.eval y)) (hf : pickB v0 v v' = some r) :
    ∃ z, (execOp a.eval o).run P w = .ok (.value z) w ∧ VR ρ r z := by
  obtain ⟨dst, op, ty, ps, after, guard⟩ := o
  simp only at ho
  subst ho
  exact snd_pickB P v0 v v' _ _ _ r w hu hv hv' hf

end Go.Proofs.YtmbnogellhoheaaGreatDoor.Ev

/- Compiled: reads of memory. -/
namespace Go.Proofs.YtmbnogellhoheaaGreatDoor.Ev
open Go

noncomputable def rdG (Y : TI) (o : Op) : Option (Operand × (TB → V → Option V)) :=
  match o with
  | .load t x => if scal Y t = true then some (x, ldS) else if aggr Y t = true then (match Y.inf t with
    | some i => some (x, ldG i.size)
    | none => none) else none
  | .convert src dst x => match Y.und src, Y.und dst with
    | some (.slice e), some .string => match Y.und e with
      | some (.int .u8) => some (x, fun bs v => orO (cvLS bs v) (cvLSW bs v))
      | _ => none
    | some (.pointer t), some .unsafePointer => match Y.inf t with
      | some j => if j.size ≠ 0 then some (x, toU) else none
      | none => none
    | some .unsafePointer, some (.pointer u) => match Y.inf u with
      | some _ => if Y.cof u ≠ 0 then some (x, fromU u (Y.cof u)) else none
      | none => none
    | _, _ => none
  | _ => none
theorem rdG_snd (P : Program) {o : Oper} {x : Operand} {g : TB → V → Option V} (h : rdG (tiOf P) o.op = some (x, g)) (ρ : Rho) (a : Act) {nx : Pos} {bs : TB} {w : World} (hh : HR ρ nx bs w) {v r : V} (hv : VR ρ v (a.eval x)) (hf : g bs v = some r) :
    ∃ y, (execOp a.eval o).run P w = .ok (.value y) w ∧ VR ρ r y := by
  have one : ∀ {c : Value → Sem Value}, execOp a.eval o = (do pure (Next.value (← c (a.eval x)))) → (∃ y, (c (a.eval x)).run P w = .ok y w ∧ VR ρ r y) → ∃ y, (execOp a.eval o).run P w = .ok (.value y) w ∧ VR ρ r y := by
    rintro c he ⟨z, h1, h2⟩
    exact ⟨z, by rw [he]; exact run_value h1, h2⟩
  obtain ⟨dst, op, ty, ps, after, guard⟩ := o
  cases op with
  | load t y =>
    simp only [rdG] at h
    split at h
    · rename_i hs
      injection h with h; injection h with e1 e2; subst e1; subst e2
      exact one (c := Instr.loadAt t) rfl (snd_ldS P hs hh hv hf)
    · split at h
      · rename_i hs
        split at h
        · rename_i i hi
          injection h with h; injection h with e1 e2; subst e1; subst e2
          exact one (c := Instr.loadAt t) rfl (snd_ldG P hs hi hh hv hf)
        · cases h
      · cases h
  | convert src dst y =>
    simp only [rdG] at h
    split at h
    · rename_i e h1 h2
      split at h
      · rename_i he
        injection h with h; injection h with e1 e2; subst e1; subst e2
        exact one (c := convert src dst) rfl ((orO_some hf).elim (fun hf => snd_cvLS P h1 he h2 hh hv hf) fun hf => snd_cvLSW P h1 he h2 hh hv hf)
      · cases h
    · rename_i t h1 h2
      split at h
      · rename_i j hj
        split at h
        · rename_i h0
          injection h with h; injection h with e1 e2; subst e1; subst e2
          exact one (c := convert src dst) rfl (snd_toU P h1 h2 hj h0 hh hv hf)
        · cases h
      · cases h
    · rename_i u h1 h2
      split at h
      · rename_i j hj
        split at h
        · rename_i h0
          injection h with h; injection h with e1 e2; subst e1; subst e2
          exact one (c := convert src dst) rfl (snd_fromU P h1 h2 hj rfl h0 hh hv hf)
        · cases h
      · cases h
    · cases h
  | _ => simp [rdG] at h

end Go.Proofs.YtmbnogellhoheaaGreatDoor.Ev

/- Compiled: new blocks. -/
namespace Go.Proofs.YtmbnogellhoheaaGreatDoor.Ev
open Go

inductive NW where
  | c (n : NV)
  | one (x : Operand) (g : V → Option NV)
  | two (x y : Operand) (g : V → V → Option NV)
noncomputable def nwG (Y : TI) (o : Op) : Option NW :=
  match o with
  | .alloc t => match zplan Y t with
    | some cs => if cs.length ≤ 65536 then some (.c (.p (t * 65536) cs)) else none
    | none => none
  | .box t x => some (.one x (boxV (t * 65536)))
  | .makeSlice t x y => (mplan Y t).map fun p => .two x y (mslV p.1 p.2)
  | .convert src dst x => match Y.und src, Y.und dst with
    | some .string, some (.slice e) => match Y.und e with
      | some (.int .u8) => some (.one x fun v => orO (cvSL (e * 65536 + 1) v) (cvSLW (e * 65536 + 1) v))
      | _ => none
    | _, _ => none
  | _ => none
/-- What such an operation makes, of its operands' values. -/
def NWS (ρ : Rho) (a : Act) (m : NV) : NW → Prop
  | .c n => m = n
  | .one x g => ∃ v, VR ρ v (a.eval x) ∧ g v = some m
  | .two x y g => ∃ v v', VR ρ v (a.eval x) ∧ VR ρ v' (a.eval y) ∧ g v v' = some m
theorem nwG_snd (P : Program) {o : Oper} {k : NW} (h : nwG (tiOf P) o.op = some k) (ρ : Rho) (a : Act) (w : World) {m : NV} (hm : NWS ρ a m k) :
    ∃ res : Result Value, NSnd ρ w m res ∧ ∀ y w', res = .ok y w' → (execOp a.eval o).run P w = .ok (.value y) w' := by
  have one : ∀ {s : Sem Value}, execOp a.eval o = (do pure (Next.value (← s))) → NSnd ρ w m (s.run P w) → ∃ res : Result Value, NSnd ρ w m res ∧ ∀ y w', res = .ok y w' → (execOp a.eval o).run P w = .ok (.value y) w' := by
    intro s he hs
    exact ⟨_, hs, fun y w' e => by rw [he]; exact run_value e⟩
  obtain ⟨dst, op, ty, ps, after, guard⟩ := o
  cases op with
  | alloc t =>
    simp only [nwG] at h
    split at h
    · rename_i cs hz
      split at h
      · rename_i hb
        injection h with h; subst h
        have hm : m = .p (t * 65536) cs := hm
        subst hm
        exact one (s := Instr.alloc t true (.tuple #[])) rfl (snd_alloc P hz (by omega) w)
      · cases h
    · cases h
  | box t x =>
    simp only [nwG] at h
    injection h with h; subst h
    obtain ⟨v, hv, hg⟩ := hm
    exact one (s := Instr.box t (a.eval x)) rfl (snd_boxV P t w hv hg)
  | makeSlice t x y =>
    simp only [nwG] at h
    obtain ⟨⟨es, zs⟩, h1, h2⟩ := Option.map_eq_some_iff.1 h
    subst h2
    obtain ⟨v, v', hv, hv', hg⟩ := hm
    exact one (s := Instr.makeSlice t (a.eval x) (a.eval y)) rfl (snd_mslV P h1 w hv hv' hg)
  | convert src dst x =>
    simp only [nwG] at h
    split at h
    · rename_i e h1 h2
      split at h
      · rename_i he
        injection h with h; subst h
        obtain ⟨v, hv, hg⟩ := hm
        exact one (s := convert src dst (a.eval x)) rfl ((orO_some hg).elim (fun hg => snd_cvSL P h1 h2 he w hv hg) fun hg => snd_cvSLW P h1 h2 he w hv hg)
      · cases h
    · cases h
  | _ => simp [nwG] at h

end Go.Proofs.YtmbnogellhoheaaGreatDoor.Ev

/- Compiled: stores, appends, copies, texts of rows. -/
namespace Go.Proofs.YtmbnogellhoheaaGreatDoor.Ev
open Go

theorem exec_builtin2 (a : Act) (b : Builtin) (x y : Operand) (t t2 : TypeId) (dst : Option Tmp) (ty : TypeId) (ps : String) (af : Array Edge) (gd : Option (Nat × Bool)) :
    ∃ consts, execOp a.eval ⟨dst, .call { callee := .builtin b, args := #[x, y], argTypes := #[t, t2] }, ty, ps, af, gd⟩ = builtin b #[t, t2] ty consts #[a.eval x, a.eval y] :=
  ⟨#[x, y].map fun | .const _ => true | _ => false, by
    have e : (#[x, y].map a.eval) = #[a.eval x, a.eval y] := by simp
    rw [← e]; rfl⟩
/-- What a builtin of two operands leaves: its value, the next name, the blocks. -/
noncomputable def efB (Y : TI) (b : Builtin) (t t2 : TypeId) : Option (V → V → Pos → TB → Option AR) :=
  match b with
  | .append => match Y.und t with
    | some (.slice e) => match Y.inf e with
      | some i => match i.zero with
        | some z => if z.cells.size = i.size ∧ i.size ≠ 0 ∧ i.bytes ≤ 65536 ∧ i.size < 65536 then (match Y.und t2 with
          | some (.slice _) => some fun v v' nx bs => appL (e * 65536 + i.size) i.size nx bs v v'
          | some .string => if i.size = 1 then some fun v v' nx bs => orO (appY (e * 65536 + 1) nx bs v v') (appW (e * 65536 + 1) nx bs v v') else none
          | _ => none) else none
        | none => none
      | none => none
    | _ => none
  | .copy => match Y.und t with
    | some (.slice e) => match Y.inf e with
      | some i => if i.size ≠ 0 then some fun v v' nx bs => Option.casesOn (cpyL i.size bs v v') none fun r => some (.mk r.1 nx r.2) else none
      | none => none
    | _ => none
  | .unsafeString => match Y.und t with
    | some (.pointer e) => if Y.cof e = 1 then some fun v v' nx bs => Option.casesOn (orO (ustr (e * 65536 + 1) bs v v') (ustrW (e * 65536 + 1) bs v v')) none fun r => some (.mk r.1 nx r.2) else none
    | _ => none
  | _ => none
noncomputable def efG (Y : TI) (o : Op) : Option (Operand × Operand × (V → V → Pos → TB → Option AR)) :=
  match o with
  | .store t x y => match Y.inf t with
    | some i => if i.size ≠ 0 then some (x, y, fun v v' nx bs => Option.casesOn (stC i.size bs v v') none fun bs' => some (.mk (.t []) nx bs')) else none
    | none => none
  | .call c => match c.callee, c.args.toList, c.argTypes.toList with
    | .builtin b, [x, y], [t, t2] => (efB Y b t t2).map fun g => (x, y, g)
    | _, _, _ => none
  | _ => none
theorem efG_snd (P : Program) {o : Oper} {x y : Operand} {g : V → V → Pos → TB → Option AR} (h : efG (tiOf P) o.op = some (x, y, g)) (ρ : Rho) (a : Act) {nx nx' : Pos} {bs bs' : TB} {w : World} (hh : HR ρ nx bs w) {v v' r : V} (hv : VR ρ v (a.eval x)) (hv' : VR ρ v' (a.eval y))
    (hf : g v v' nx bs = some (.mk r nx' bs')) : ∃ z w' ρ', Thru P o a w z w' ∧ VR ρ' r z ∧ HR ρ' nx' bs' w' ∧ Ext ρ nx bs w ρ' nx' bs' w' := by
  have val : ∀ {s : Sem Value}, execOp a.eval o = (do pure (Next.value (← s))) → (∃ z w' ρ', s.run P w = .ok z w' ∧ VR ρ' r z ∧ HR ρ' nx' bs' w' ∧ Ext ρ nx bs w ρ' nx' bs' w') →
      ∃ z w' ρ', Thru P o a w z w' ∧ VR ρ' r z ∧ HR ρ' nx' bs' w' ∧ Ext ρ nx bs w ρ' nx' bs' w' := by
    rintro s he ⟨z, w', ρ', h1, h2⟩
    exact ⟨z, w', ρ', .inl (by rw [he]; exact run_value h1), h2⟩
  obtain ⟨dst, op, ty, ps, after, guard⟩ := o
  cases op with
  | store t x' y' =>
    simp only [efG] at h
    split at h
    · rename_i i hi
      split at h
      · rename_i h0
        injection h with h; injection h with e1 h; injection h with e2 e3; subst e1; subst e2; subst e3
        cases hs : stC i.size bs v v' with
        | none => simp only [hs] at hf; cases hf
        | some b2 =>
          simp only [hs] at hf
          injection hf with hf; injection hf with e1 e2 e3; subst e1; subst e2; subst e3
          obtain ⟨w', k1, k2, k3⟩ := snd_stC P hi h0 hh hv hv' hs
          exact ⟨undef, w', ρ, .inr ⟨run_skip k1, rfl⟩, by show VR ρ (.t []) (.tuple #[]); unfold VR; simp [VRs], k2, k3⟩
      · cases h
    · cases h
  | call c =>
    simp only [efG] at h
    obtain ⟨callee, args, argTypes⟩ := c
    simp only at h
    split at h
    case h_2 => cases h
    rename_i b x' y' t t2 h1 h2
    obtain ⟨g', hb, hg⟩ := Option.map_eq_some_iff.1 h
    injection hg with e1 hg; injection hg with e2 e3; subst e1; subst e2; subst e3
    have ea : args = #[x', y'] := Array.ext' (by simpa using h1)
    have et : argTypes = #[t, t2] := Array.ext' (by simpa using h2)
    subst ea; subst et
    obtain ⟨consts, hex⟩ := exec_builtin2 a b x' y' t t2 dst ty ps after guard
    clear h
    have h := hb
    clear hb
    unfold efB at h
    split at h
    · split at h
      · rename_i e ht
        split at h
        · rename_i i hi
          split at h
          · rename_i z hz
            split at h
            · rename_i hc
              have ok : AppOk P t e i z := ⟨ht, hi, hz, hc.1, hc.2.1, hc.2.2.1, hc.2.2.2⟩
              split at h
              · rename_i e2 ht2
                injection h with h; subst h
                exact val (s := Builtin.append_ #[t, t2] ty #[a.eval x', a.eval y']) (by rw [hex]; rfl) (snd_appL P ok ht2 hh hv hv' hf)
              · rename_i ht2
                split at h
                · rename_i h1
                  injection h with h; subst h
                  exact val (s := Builtin.append_ #[t, t2] ty #[a.eval x', a.eval y']) (by rw [hex]; rfl) ((orO_some hf).elim (fun hf => snd_appY P ok h1 ht2 hh hv hv' hf) fun hf => snd_appW P ok h1 ht2 hh hv hv' hf)
                · cases h
              · cases h
            · cases h
          · cases h
        · cases h
      · cases h
    · split at h
      · rename_i e ht
        split at h
        · rename_i i hi
          split at h
          · rename_i h0
            injection h with h; subst h
            cases hs : cpyL i.size bs v v' with
            | none => simp only [hs] at hf; cases hf
            | some r2 =>
              obtain ⟨rv, b2⟩ := r2
              simp only [hs] at hf
              injection hf with hf; injection hf with e1 e2 e3; subst e1; subst e2; subst e3
              obtain ⟨z, w', k1, k2, k3, k4⟩ := snd_cpyL P (t2 := t2) (ty := ty) ht hi h0 hh hv hv' hs
              exact val (s := Builtin.copy_ #[t, t2] ty #[a.eval x', a.eval y']) (by rw [hex]; rfl) ⟨z, w', ρ, k1, k2, k3, k4⟩
          · cases h
        · cases h
      · cases h
    · split at h
      · rename_i e ht
        split at h
        · rename_i hc
          injection h with h; subst h
          cases hs : orO (ustr (e * 65536 + 1) bs v v') (ustrW (e * 65536 + 1) bs v v') with
          | none => simp only [hs] at hf; cases hf
          | some r2 =>
            obtain ⟨rv, b2⟩ := r2
            simp only [hs] at hf
            injection hf with hf; injection hf with e1 e2 e3; subst e1; subst e2; subst e3
            obtain ⟨z, w', k1, k2, k3, k4⟩ := (orO_some hs).elim (fun hs => snd_ustr P t t2 ty ht hc hh hv hv' hs) fun hs => snd_ustrW P t t2 ty ht hc hh hv hv' hs
            exact val (s := Builtin.unsafeString_ #[t, t2] ty #[a.eval x', a.eval y']) (by rw [hex]; rfl) ⟨z, w', ρ, k1, k2, k3, k4⟩
        · cases h
      · cases h
    · cases h
  | _ => simp [efG] at h

end Go.Proofs.YtmbnogellhoheaaGreatDoor.Ev

/- Compiled: cuts of texts and slices. -/
namespace Go.Proofs.YtmbnogellhoheaaGreatDoor.Ev
open Go

/-- Cuts of texts: the bounds given. -/
inductive CS where
  | both (lo hi : Operand) (g : V → V → V → Option V)
  | one (b : Operand) (g : V → V → Option V)
noncomputable def csG (Y : TI) (o : Op) : Option (Operand × CS) :=
  match o with
  | .slice t x lo hi mx => match Y.und t with
    | some .string => match lo, hi, mx with
      | some l, some h, none => some (x, .both l h slS)
      | some l, none, none => some (x, .one l slS1)
      | none, some h, none => some (x, .one h slS2)
      | _, _, _ => none
    | _ => none
  | _ => none
def CSS (ρ : Rho) (a : Act) (v r : V) : CS → Prop
  | .both lo hi g => ∃ m m', VR ρ m (a.eval lo) ∧ VR ρ m' (a.eval hi) ∧ g v m m' = some r
  | .one b g => ∃ m, VR ρ m (a.eval b) ∧ g v m = some r
theorem csG_snd (P : Program) {o : Oper} {x : Operand} {k : CS} (h : csG (tiOf P) o.op = some (x, k)) (ρ : Rho) (a : Act) (w : World) {v r : V} (hv : VR ρ v (a.eval x)) (hk : CSS ρ a v r k) : ∃ y, (execOp a.eval o).run P w = .ok (.value y) w ∧ VR ρ r y := by
  obtain ⟨dst, op, ty, ps, after, guard⟩ := o
  cases op with
  | slice t x' lo hi mx =>
    simp only [csG] at h
    split at h
    · rename_i ht
      split at h
      · injection h with h; injection h with e1 e2; subst e1; subst e2
        obtain ⟨c1, c2, h1, h2, h3⟩ := hk
        obtain ⟨y, k1, k2⟩ := snd_slS P ht ρ _ _ _ _ _ _ r w hv h1 h2 h3
        exact ⟨y, run_value k1, k2⟩
      · injection h with h; injection h with e1 e2; subst e1; subst e2
        obtain ⟨c1, h1, h3⟩ := hk
        obtain ⟨y, k1, k2⟩ := snd_slS1 P ht ρ _ _ _ _ r w hv h1 h3
        exact ⟨y, run_value k1, k2⟩
      · injection h with h; injection h with e1 e2; subst e1; subst e2
        obtain ⟨c1, h1, h3⟩ := hk
        obtain ⟨y, k1, k2⟩ := snd_slS2 P ht ρ _ _ _ _ r w hv h1 h3
        exact ⟨y, run_value k1, k2⟩
      · cases h
    · cases h
  | _ => simp [csG] at h

end Go.Proofs.YtmbnogellhoheaaGreatDoor.Ev
