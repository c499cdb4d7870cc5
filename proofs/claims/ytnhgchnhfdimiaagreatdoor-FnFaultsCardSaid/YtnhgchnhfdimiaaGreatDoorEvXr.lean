/- Facts on types, looked up fast. -/
import Derived.Test.YtnhgchnhfdimiaaGreatDoorEvXq
namespace Go.Proofs.YtnhgchnhfdimiaaGreatDoor.Ev
open Go

inductive TT where
  | e
  | n (l : TT) (v : Option TypeInfo) (r : TT)
noncomputable def TT.get (t : TT) : Nat → Option TypeInfo :=
  TT.rec (motive := fun _ => Nat → Option TypeInfo) (fun _ => none)
    (fun _ v _ gl gr m => Bool.rec (Bool.rec (gr (Nat.div m 2)) (gl (Nat.div m 2)) (Nat.beq (Nat.mod m 2) 0)) v (Nat.beq m 1)) t
noncomputable def TT.put (v : TypeInfo) (fuel : Nat) : TT → Nat → TT :=
  Nat.rec (motive := fun _ => TT → Nat → TT) (fun t _ => t)
    (fun _ ih t m => TT.casesOn t
      (Bool.rec (Bool.rec (.n .e none (ih .e (Nat.div m 2))) (.n (ih .e (Nat.div m 2)) none .e) (Nat.beq (Nat.mod m 2) 0)) (.n .e (some v) .e) (Nat.beq m 1))
      (fun l x r => Bool.rec (Bool.rec (.n l x (ih r (Nat.div m 2))) (.n (ih l (Nat.div m 2)) x r) (Nat.beq (Nat.mod m 2) 0)) (.n l (some v) r) (Nat.beq m 1))) fuel
theorem TT.get_n (l r : TT) (x : Option TypeInfo) (m : Nat) : (TT.n l x r).get m = if m = 1 then x else if m % 2 = 0 then l.get (m / 2) else r.get (m / 2) := by
  change Bool.rec (motive := fun _ => Option TypeInfo) (Bool.rec (motive := fun _ => Option TypeInfo) (r.get (Nat.div m 2)) (l.get (Nat.div m 2)) (Nat.beq (Nat.mod m 2) 0)) x (Nat.beq m 1) = _
  by_cases h1 : m = 1
  · subst h1; rfl
  · rw [if_neg h1, beq_no h1]
    by_cases h2 : m % 2 = 0
    · rw [if_pos h2, show Nat.beq (Nat.mod m 2) 0 = true from beq_yes h2]; rfl
    · rw [if_neg h2, show Nat.beq (Nat.mod m 2) 0 = false from beq_no h2]; rfl
def TT.parts : TT → TT × Option TypeInfo × TT
  | .e => (.e, none, .e)
  | .n l x r => (l, x, r)
theorem TT.put_s (v : TypeInfo) (f m : Nat) (t : TT) : TT.put v (f + 1) t m = if m = 1 then .n t.parts.1 (some v) t.parts.2.2 else if m % 2 = 0 then .n (TT.put v f t.parts.1 (m / 2)) t.parts.2.1 t.parts.2.2 else .n t.parts.1 t.parts.2.1 (TT.put v f t.parts.2.2 (m / 2)) := by
  cases t with
  | e =>
    change Bool.rec (motive := fun _ => TT) (Bool.rec (motive := fun _ => TT) (TT.n .e none (TT.put v f .e (Nat.div m 2))) (TT.n (TT.put v f .e (Nat.div m 2)) none .e) (Nat.beq (Nat.mod m 2) 0)) (.n .e (some v) .e) (Nat.beq m 1) = _
    by_cases h1 : m = 1
    · subst h1; rfl
    · rw [if_neg h1, beq_no h1]
      by_cases h2 : m % 2 = 0
      · rw [if_pos h2, show Nat.beq (Nat.mod m 2) 0 = true from beq_yes h2]; rfl
      · rw [if_neg h2, show Nat.beq (Nat.mod m 2) 0 = false from beq_no h2]; rfl
  | n l x r =>
    change Bool.rec (motive := fun _ => TT) (Bool.rec (motive := fun _ => TT) (TT.n l x (TT.put v f r (Nat.div m 2))) (TT.n (TT.put v f l (Nat.div m 2)) x r) (Nat.beq (Nat.mod m 2) 0)) (.n l (some v) r) (Nat.beq m 1) = _
    by_cases h1 : m = 1
    · subst h1; rfl
    · rw [if_neg h1, beq_no h1]
      by_cases h2 : m % 2 = 0
      · rw [if_pos h2, show Nat.beq (Nat.mod m 2) 0 = true from beq_yes h2]; rfl
      · rw [if_neg h2, show Nat.beq (Nat.mod m 2) 0 = false from beq_no h2]; rfl
theorem TT.get_parts (t : TT) (m : Nat) : t.get m = if m = 1 then t.parts.2.1 else if m % 2 = 0 then t.parts.1.get (m / 2) else t.parts.2.2.get (m / 2) := by
  cases t with
  | e =>
    have e0 : ∀ k, TT.e.get k = none := fun _ => rfl
    simp only [TT.parts, e0, ite_self]
  | n l x r => exact TT.get_n l r x m
theorem TT.get_put (v x : TypeInfo) : ∀ (f m m' : Nat) (t : TT), (TT.put v f t m).get m' = some x → (m = m' ∧ x = v) ∨ t.get m' = some x
  | 0, _, _, _, h => .inr h
  | f + 1, m, m', t, h => by
    rw [TT.put_s] at h
    rw [TT.get_parts t m']
    by_cases h1 : m = 1
    · rw [if_pos h1, TT.get_n] at h
      by_cases h2 : m' = 1
      · rw [if_pos h2] at h; injection h with h; exact .inl ⟨by omega, h.symm⟩
      · rw [if_neg h2] at h ⊢; exact .inr h
    · rw [if_neg h1] at h
      by_cases h2 : m % 2 = 0
      · rw [if_pos h2, TT.get_n] at h
        by_cases h3 : m' = 1
        · rw [if_pos h3] at h ⊢; exact .inr h
        · rw [if_neg h3] at h ⊢
          by_cases h4 : m' % 2 = 0
          · rw [if_pos h4] at h ⊢
            rcases TT.get_put v x f _ _ _ h with ⟨e1, e2⟩ | h
            · exact .inl ⟨by omega, e2⟩
            · exact .inr h
          · rw [if_neg h4] at h ⊢; exact .inr h
      · rw [if_neg h2, TT.get_n] at h
        by_cases h3 : m' = 1
        · rw [if_pos h3] at h ⊢; exact .inr h
        · rw [if_neg h3] at h ⊢
          by_cases h4 : m' % 2 = 0
          · rw [if_pos h4] at h ⊢; exact .inr h
          · rw [if_neg h4] at h ⊢
            rcases TT.get_put v x f _ _ _ h with ⟨e1, e2⟩ | h
            · exact .inl ⟨by omega, e2⟩
            · exact .inr h
noncomputable def ttOf : List (Nat × TypeInfo) → TT
  | [] => .e
  | x :: l => TT.put x.2 16 (ttOf l) (x.1 + 1)
theorem ttOf_get {t : Nat} {i : TypeInfo} : ∀ {l : List (Nat × TypeInfo)}, (ttOf l).get (t + 1) = some i → (t, i) ∈ l
  | [], h => by cases h
  | x :: l, h => by
    rcases TT.get_put _ _ _ _ _ _ h with ⟨e1, e2⟩ | h
    · have : x = (t, i) := by
        obtain ⟨a, b⟩ := x
        simp only at e1 e2
        rw [e2, show a = t by omega]
      rw [this]; exact List.mem_cons_self
    · exact List.mem_cons_of_mem _ (ttOf_get h)
/-- Numbers of types that a list has. -/
def numIn (l : List Nat) (t : Nat) : Bool := l.any (Nat.beq t)
noncomputable def fastInf (P : Program) (tr : TT) (t : TypeId) : Option TypeInfo := match tr.get (t + 1) with
  | some i => some i
  | none => P.info? t
noncomputable def fastTI (P : Program) (tr : TT) (sq : List Nat) : TI where
  und t := match ((fastInf P tr t).map (·.desc) : Option TypeDesc) with
    | some (.named _ u) => (fastInf P tr u).map (·.desc)
    | d => d
  inf := fastInf P tr
  sih t := bif numIn sq t then false else P.stoodInHeld t
  egt t := bif numIn sq t then false else P.eqGuardType P.depth t
  cof t := ((fastInf P tr t).map (·.size)).getD 0
theorem fastInf_eq {P : Program} {l : List (Nat × TypeInfo)} (h : ∀ x ∈ l, P.info? x.1 = some x.2) : fastInf P (ttOf l) = P.info? := by
  funext t
  unfold fastInf
  split
  · rename_i i hi
    exact (h _ (ttOf_get hi)).symm
  · rfl
theorem fastTI_eq {P : Program} {l : List (Nat × TypeInfo)} {sq : List Nat} (h : ∀ x ∈ l, P.info? x.1 = some x.2) (hs : ∀ t ∈ sq, P.stoodInHeld t = false ∧ P.eqGuardType P.depth t = false) : fastTI P (ttOf l) sq = tiOf P := by
  have hi := fastInf_eq h
  have hsq : ∀ t, numIn sq t = true → P.stoodInHeld t = false ∧ P.eqGuardType P.depth t = false := fun t ht => by
    unfold numIn at ht
    obtain ⟨u, h1, h2⟩ := List.any_eq_true.1 ht
    rw [Nat.eq_of_beq_eq_true h2]; exact hs u h1
  unfold fastTI tiOf
  rw [hi]
  congr 1
  · funext t
    unfold Program.underlying
    cases hp : P.info? t with
    | none => rfl
    | some i =>
      obtain ⟨desc, _⟩ := i
      cases desc <;> rfl
  · funext t
    cases hn : numIn sq t with
    | true => rw [(hsq t hn).1]; rfl
    | false => rfl
  · funext t
    cases hn : numIn sq t with
    | true => rw [(hsq t hn).2]; rfl
    | false => rfl
/-- A list's facts, one by one. -/
inductive AllI (P : Program) : List (Nat × TypeInfo) → Prop
  | nil : AllI P []
  | cons {t : Nat} {i : TypeInfo} {l : List (Nat × TypeInfo)} (h : P.types[t]? = some i) (r : AllI P l) : AllI P ((t, i) :: l)
theorem AllI.info {P : Program} {l : List (Nat × TypeInfo)} (h : AllI P l) : ∀ x ∈ l, P.info? x.1 = some x.2 := by
  induction h with
  | nil => intro x hx; cases hx
  | cons h r ih =>
    rename_i t i l
    intro x hx
    cases hx with
    | tail _ hx => exact ih x hx
    | head =>
      have hlt : t < P.types.size := by
        rcases Nat.lt_or_ge t P.types.size with hh | hh
        · exact hh
        · rw [Array.getElem?_eq_none hh] at h; cases h
      show P.toTables.info? t = some i
      unfold Tables.info?
      rw [if_pos hlt]; exact h
theorem AllI.app {P : Program} {l m : List (Nat × TypeInfo)} (h : AllI P l) (h' : AllI P m) : AllI P (l ++ m) := by
  induction h with
  | nil => exact h'
  | cons h r ih => exact .cons h ih
inductive AllF (P : Program) : List FI → Prop
  | nil : AllF P []
  | cons {x : FI} {l : List FI} (h : P.funcs[x.f]? = some x.fn) (hn : (x.fn.name == "runtime.NumGoroutine") = false) (r : AllF P l) : AllF P (x :: l)
theorem AllF.get {P : Program} {l : List FI} (h : AllF P l) : ∀ x ∈ l, P.funcs[x.f]? = some x.fn ∧ (x.fn.name == "runtime.NumGoroutine") = false := by
  induction h with
  | nil => intro x hx; cases hx
  | cons h hn r ih =>
    intro x hx
    cases hx with
    | tail _ hx => exact ih x hx
    | head => exact ⟨h, hn⟩
theorem AllF.app {P : Program} {l m : List FI} (h : AllF P l) (h' : AllF P m) : AllF P (l ++ m) := by
  induction h with
  | nil => exact h'
  | cons h hn r ih => exact .cons h hn ih

end Go.Proofs.YtnhgchnhfdimiaaGreatDoor.Ev
