/- Data of the evaluator: names, values, tries, heaps, with the laws of looking up and putting. -/
import Derived.Calls
import Derived.Laws.Sem
namespace Go.Proofs.YtnhgchnhfdimiaaGreatDoor.Ev
open Go

/-- Names: of slots, of blocks, of functions. -/
inductive Pos where
  | h
  | o (p : Pos)
  | i (p : Pos)

def Pos.val : Pos → Nat
  | .h => 0
  | .o p => 2 * p.val + 1
  | .i p => 2 * p.val + 2

theorem Pos.val_inj : ∀ (p q : Pos), p.val = q.val → p = q
  | .h, .h, _ => rfl
  | .h, .o _, e => by simp [Pos.val] at e
  | .h, .i _, e => by simp [Pos.val] at e
  | .o _, .h, e => by simp [Pos.val] at e
  | .i _, .h, e => by simp [Pos.val] at e
  | .o p, .o q, e => by simp only [Pos.val] at e; rw [Pos.val_inj p q (by omega)]
  | .i p, .i q, e => by simp only [Pos.val] at e; rw [Pos.val_inj p q (by omega)]
  | .o p, .i q, e => by simp only [Pos.val] at e; omega
  | .i p, .o q, e => by simp only [Pos.val] at e; omega

noncomputable def Pos.inc (p : Pos) : Pos := Pos.rec (.o .h) (fun p _ => .i p) (fun _ ih => .o ih) p
theorem Pos.inc_h : Pos.h.inc = .o .h := rfl
theorem Pos.inc_o (p : Pos) : (Pos.o p).inc = .i p := rfl
theorem Pos.inc_i (p : Pos) : (Pos.i p).inc = .o p.inc := rfl
theorem Pos.inc_val : ∀ p : Pos, p.inc.val = p.val + 1
  | .h => rfl
  | .o p => by rw [Pos.inc_o]; simp [Pos.val]
  | .i p => by rw [Pos.inc_i]; simp only [Pos.val, Pos.inc_val p]; omega

/-- The name of a number. -/
noncomputable def pos (n : Nat) : Pos := Nat.rec (motive := fun _ => Pos) .h (fun _ p => p.inc) n
theorem pos_zero : pos 0 = .h := rfl
theorem pos_succ (n : Nat) : pos (n + 1) = (pos n).inc := rfl
theorem pos_val (n : Nat) : (pos n).val = n := by
  induction n with
  | zero => rfl
  | succ n ih => rw [pos_succ, Pos.inc_val, ih]
theorem pos_inj {m n : Nat} (h : pos m = pos n) : m = n := by rw [← pos_val m, ← pos_val n, h]

/-- Values: numbers as their bits, strings as a length and a number (the first byte the lowest). -/
inductive V where
  | u
  | n (m : Nat)
  | y (m : Nat)
  | k (k : IntKind) (m : Nat)
  | b (b : Bool)
  | s (len num : Nat)
  | p0
  | p (id : Pos) (off : Nat)
  | l0
  | l (id : Pos) (off len cap : Nat)
  | f0
  | f (fid : Pos) (cs : List V)
  | g (cs : List V)
  | t (cs : List V)
  | i0
  | a (k : Nat) (id : Pos)
  deriving Inhabited

inductive TV where
  | e
  | n (l : TV) (v : V) (r : TV)

inductive Bk where
  | none
  | mk (es sz : Nat) (cs : TV)

inductive TB where
  | e
  | n (l : TB) (v : Bk) (r : TB)

inductive Hp where
  | mk (nx : Pos) (bs : TB)

noncomputable def TV.get (t : TV) (p : Pos) : V :=
  Pos.rec (motive := fun _ => TV → V) (fun t => TV.casesOn t V.u (fun _ v _ => v)) (fun _ ih t => TV.casesOn t V.u (fun l _ _ => ih l))
    (fun _ ih t => TV.casesOn t V.u (fun _ _ r => ih r)) p t
noncomputable def TV.set (p : Pos) (v : V) (t : TV) : TV :=
  Pos.rec (motive := fun _ => TV → TV) (fun t => TV.casesOn t (.n .e v .e) (fun l _ r => .n l v r))
    (fun _ ih t => TV.casesOn t (.n (ih .e) .u .e) (fun l x r => .n (ih l) x r))
    (fun _ ih t => TV.casesOn t (.n .e .u (ih .e)) (fun l x r => .n l x (ih r))) p t
noncomputable def TB.get (t : TB) (p : Pos) : Bk :=
  Pos.rec (motive := fun _ => TB → Bk) (fun t => TB.casesOn t .none (fun _ v _ => v)) (fun _ ih t => TB.casesOn t .none (fun l _ _ => ih l))
    (fun _ ih t => TB.casesOn t .none (fun _ _ r => ih r)) p t
noncomputable def TB.set (p : Pos) (v : Bk) (t : TB) : TB :=
  Pos.rec (motive := fun _ => TB → TB) (fun t => TB.casesOn t (.n .e v .e) (fun l _ r => .n l v r))
    (fun _ ih t => TB.casesOn t (.n (ih .e) .none .e) (fun l x r => .n (ih l) x r))
    (fun _ ih t => TB.casesOn t (.n .e .none (ih .e)) (fun l x r => .n l x (ih r))) p t

theorem TV.get_e (p : Pos) : TV.e.get p = .u := by cases p <;> rfl
theorem TV.get_set_same (p : Pos) (v : V) : ∀ t : TV, (t.set p v).get p = v := by
  induction p with
  | h => intro t; cases t <;> rfl
  | o p ih => intro t; cases t <;> exact ih _
  | i p ih => intro t; cases t <;> exact ih _
theorem TV.get_set_ne {p q : Pos} (v : V) (hpq : p ≠ q) : ∀ t : TV, (t.set p v).get q = t.get q := by
  induction p generalizing q with
  | h => intro t; cases q with
    | h => exact absurd rfl hpq
    | o q => cases t with | e => exact TV.get_e q | n l x r => rfl
    | i q => cases t with | e => exact TV.get_e q | n l x r => rfl
  | o p ih => intro t; cases q with
    | h => cases t <;> rfl
    | o q => cases t with
      | e => exact (ih (fun h => hpq (by rw [h])) .e).trans (TV.get_e q)
      | n l x r => exact ih (fun h => hpq (by rw [h])) l
    | i q => cases t with | e => exact TV.get_e q | n l x r => rfl
  | i p ih => intro t; cases q with
    | h => cases t <;> rfl
    | i q => cases t with
      | e => exact (ih (fun h => hpq (by rw [h])) .e).trans (TV.get_e q)
      | n l x r => exact ih (fun h => hpq (by rw [h])) r
    | o q => cases t with | e => exact TV.get_e q | n l x r => rfl

theorem TB.get_e (p : Pos) : TB.e.get p = .none := by cases p <;> rfl
theorem TB.get_set_same (p : Pos) (v : Bk) : ∀ t : TB, (t.set p v).get p = v := by
  induction p with
  | h => intro t; cases t <;> rfl
  | o p ih => intro t; cases t <;> exact ih _
  | i p ih => intro t; cases t <;> exact ih _
theorem TB.get_set_ne {p q : Pos} (v : Bk) (hpq : p ≠ q) : ∀ t : TB, (t.set p v).get q = t.get q := by
  induction p generalizing q with
  | h => intro t; cases q with
    | h => exact absurd rfl hpq
    | o q => cases t with | e => exact TB.get_e q | n l x r => rfl
    | i q => cases t with | e => exact TB.get_e q | n l x r => rfl
  | o p ih => intro t; cases q with
    | h => cases t <;> rfl
    | o q => cases t with
      | e => exact (ih (fun h => hpq (by rw [h])) .e).trans (TB.get_e q)
      | n l x r => exact ih (fun h => hpq (by rw [h])) l
    | i q => cases t with | e => exact TB.get_e q | n l x r => rfl
  | i p ih => intro t; cases q with
    | h => cases t <;> rfl
    | i q => cases t with
      | e => exact (ih (fun h => hpq (by rw [h])) .e).trans (TB.get_e q)
      | n l x r => exact ih (fun h => hpq (by rw [h])) r
    | o q => cases t with | e => exact TB.get_e q | n l x r => rfl

/-- Cells by numbers: place k under the number k + 1. -/
noncomputable def TV.at (t : TV) : Nat → V :=
  TV.rec (motive := fun _ => Nat → V) (fun _ => .u)
    (fun _ v _ gl gr m => Bool.rec (Bool.rec (gr (Nat.div m 2)) (gl (Nat.div m 2)) (Nat.beq (Nat.mod m 2) 0)) v (Nat.beq m 1)) t
noncomputable def TV.put (v : V) (fuel : Nat) : TV → Nat → TV :=
  Nat.rec (motive := fun _ => TV → Nat → TV) (fun t _ => t)
    (fun _ ih t m => TV.casesOn t
      (Bool.rec (Bool.rec (.n .e .u (ih .e (Nat.div m 2))) (.n (ih .e (Nat.div m 2)) .u .e) (Nat.beq (Nat.mod m 2) 0)) (.n .e v .e) (Nat.beq m 1))
      (fun l x r => Bool.rec (Bool.rec (.n l x (ih r (Nat.div m 2))) (.n (ih l (Nat.div m 2)) x r) (Nat.beq (Nat.mod m 2) 0)) (.n l v r) (Nat.beq m 1))) fuel

theorem beq_no {a b : Nat} (h : a ≠ b) : Nat.beq a b = false := by
  cases e : Nat.beq a b with
  | false => rfl
  | true => exact absurd (Nat.eq_of_beq_eq_true e) h
theorem beq_yes {a b : Nat} (h : a = b) : Nat.beq a b = true := by subst h; exact Nat.beq_refl a

theorem TV.at_e (m : Nat) : TV.e.at m = .u := rfl
theorem TV.at_n (l r : TV) (x : V) (m : Nat) : (TV.n l x r).at m = if m = 1 then x else if m % 2 = 0 then l.at (m / 2) else r.at (m / 2) := by
  change Bool.rec (motive := fun _ => V) (Bool.rec (motive := fun _ => V) (r.at (Nat.div m 2)) (l.at (Nat.div m 2)) (Nat.beq (Nat.mod m 2) 0)) x (Nat.beq m 1) = _
  by_cases h1 : m = 1
  · subst h1; rfl
  · rw [if_neg h1]
    have e1 : Nat.beq m 1 = false := beq_no h1
    rw [e1]
    by_cases h2 : m % 2 = 0
    · rw [if_pos h2]
      have e2 : Nat.beq (Nat.mod m 2) 0 = true := beq_yes h2
      rw [e2]; rfl
    · rw [if_neg h2]
      have e2 : Nat.beq (Nat.mod m 2) 0 = false := beq_no h2
      rw [e2]; rfl
theorem TV.put_e (v : V) (f m : Nat) : TV.put v (f + 1) .e m = if m = 1 then .n .e v .e else if m % 2 = 0 then .n (TV.put v f .e (m / 2)) .u .e else .n .e .u (TV.put v f .e (m / 2)) := by
  change Bool.rec (motive := fun _ => TV) (Bool.rec (motive := fun _ => TV) (TV.n .e .u (TV.put v f .e (Nat.div m 2))) (TV.n (TV.put v f .e (Nat.div m 2)) .u .e) (Nat.beq (Nat.mod m 2) 0)) (TV.n .e v .e) (Nat.beq m 1) = _
  by_cases h1 : m = 1
  · subst h1; rfl
  · rw [if_neg h1]
    have e1 : Nat.beq m 1 = false := beq_no h1
    rw [e1]
    by_cases h2 : m % 2 = 0
    · rw [if_pos h2]
      have e2 : Nat.beq (Nat.mod m 2) 0 = true := beq_yes h2
      rw [e2]; rfl
    · rw [if_neg h2]
      have e2 : Nat.beq (Nat.mod m 2) 0 = false := beq_no h2
      rw [e2]; rfl
theorem TV.put_n (v : V) (f m : Nat) (l r : TV) (x : V) :
    TV.put v (f + 1) (.n l x r) m = if m = 1 then .n l v r else if m % 2 = 0 then .n (TV.put v f l (m / 2)) x r else .n l x (TV.put v f r (m / 2)) := by
  change Bool.rec (motive := fun _ => TV) (Bool.rec (motive := fun _ => TV) (TV.n l x (TV.put v f r (Nat.div m 2))) (TV.n (TV.put v f l (Nat.div m 2)) x r) (Nat.beq (Nat.mod m 2) 0)) (TV.n l v r) (Nat.beq m 1) = _
  by_cases h1 : m = 1
  · subst h1; rfl
  · rw [if_neg h1]
    have e1 : Nat.beq m 1 = false := beq_no h1
    rw [e1]
    by_cases h2 : m % 2 = 0
    · rw [if_pos h2]
      have e2 : Nat.beq (Nat.mod m 2) 0 = true := beq_yes h2
      rw [e2]; rfl
    · rw [if_neg h2]
      have e2 : Nat.beq (Nat.mod m 2) 0 = false := beq_no h2
      rw [e2]; rfl

theorem TV.at_put_same (v : V) : ∀ (f m : Nat) (t : TV), 1 ≤ m → m < 2 ^ f → (TV.put v f t m).at m = v := by
  intro f
  induction f with
  | zero => intro m t h1 h2; simp at h2; omega
  | succ f ih =>
    intro m t h1 h2
    have hd : m / 2 < 2 ^ f := by rw [Nat.pow_succ] at h2; omega
    by_cases e1 : m = 1
    · subst e1; cases t with
      | e => rw [TV.put_e]; simp [TV.at_n]
      | n l x r => rw [TV.put_n]; simp [TV.at_n]
    · by_cases e2 : m % 2 = 0
      · cases t with
        | e => rw [TV.put_e, if_neg e1, if_pos e2, TV.at_n, if_neg e1, if_pos e2]; exact ih _ _ (by omega) hd
        | n l x r => rw [TV.put_n, if_neg e1, if_pos e2, TV.at_n, if_neg e1, if_pos e2]; exact ih _ _ (by omega) hd
      · cases t with
        | e => rw [TV.put_e, if_neg e1, if_neg e2, TV.at_n, if_neg e1, if_neg e2]; exact ih _ _ (by omega) hd
        | n l x r => rw [TV.put_n, if_neg e1, if_neg e2, TV.at_n, if_neg e1, if_neg e2]; exact ih _ _ (by omega) hd
theorem TV.at_put_ne (v : V) : ∀ (f m m' : Nat) (t : TV), 1 ≤ m → 1 ≤ m' → m ≠ m' → (TV.put v f t m).at m' = t.at m' := by
  intro f
  induction f with
  | zero => intro m m' t _ _ _; rfl
  | succ f ih =>
    intro m m' t h1 h1' hne
    by_cases e1 : m = 1
    · have e1' : m' ≠ 1 := fun h => hne (by omega)
      subst e1
      cases t with
      | e => rw [TV.put_e, if_pos rfl, TV.at_n, if_neg e1']; simp only [TV.at_e, ite_self]
      | n l x r => rw [TV.put_n, if_pos rfl, TV.at_n, TV.at_n, if_neg e1', if_neg e1']
    · by_cases e2 : m % 2 = 0
      · cases t with
        | e =>
          rw [TV.put_e, if_neg e1, if_pos e2, TV.at_n]
          split
          · rfl
          · split
            · rw [ih _ _ _ (by omega) (by omega) (by omega)]; rfl
            · rfl
        | n l x r =>
          rw [TV.put_n, if_neg e1, if_pos e2, TV.at_n, TV.at_n]
          split
          · rfl
          · split
            · exact ih _ _ _ (by omega) (by omega) (by omega)
            · rfl
      · cases t with
        | e =>
          rw [TV.put_e, if_neg e1, if_neg e2, TV.at_n]
          split
          · rfl
          · split
            · rfl
            · rw [ih _ _ _ (by omega) (by omega) (by omega)]; rfl
        | n l x r =>
          rw [TV.put_n, if_neg e1, if_neg e2, TV.at_n, TV.at_n]
          split
          · rfl
          · split
            · rfl
            · exact ih _ _ _ (by omega) (by omega) (by omega)

/-- n cells from number m on. -/
noncomputable def TV.take (t : TV) (n : Nat) : Nat → List V := Nat.rec (motive := fun _ => Nat → List V) (fun _ => .nil) (fun _ ih m => .cons (t.at m) (ih (Nat.succ m))) n
theorem TV.take_zero (t : TV) (m : Nat) : t.take 0 m = [] := rfl
theorem TV.take_succ (t : TV) (n m : Nat) : t.take (n + 1) m = t.at m :: t.take n (m + 1) := rfl
theorem TV.take_length (t : TV) : ∀ j m : Nat, (t.take j m).length = j
  | 0, _ => rfl
  | j + 1, m => by rw [TV.take_succ, List.length_cons, TV.take_length t j]
theorem TV.take_get (t : TV) : ∀ j m k : Nat, k < j → (t.take j m)[k]? = some (t.at (m + k))
  | 0, _, _, h => by omega
  | j + 1, m, 0, _ => rfl
  | j + 1, m, k + 1, h => by rw [TV.take_succ, List.getElem?_cons_succ, TV.take_get t j (m + 1) k (by omega)]; congr 2; omega

/-- A list of cells put from number m on. -/
noncomputable def into (cs : List V) : TV → Nat → TV :=
  List.rec (motive := fun _ => TV → Nat → TV) (fun t _ => t) (fun h _ ih t m => ih (TV.put h 40 t m) (Nat.succ m)) cs
theorem into_nil (t : TV) (m : Nat) : into [] t m = t := rfl
theorem into_cons (c : V) (cs : List V) (t : TV) (m : Nat) : into (c :: cs) t m = into cs (TV.put c 40 t m) (m + 1) := rfl
theorem into_ne : ∀ (cs : List V) (t : TV) (m k : Nat), 1 ≤ m → 1 ≤ k → (k < m ∨ m + cs.length ≤ k) → (into cs t m).at k = t.at k
  | [], _, _, _, _, _, _ => rfl
  | c :: cs, t, m, k, hm, hk, h => by
    rw [into_cons, into_ne cs _ (m + 1) k (by omega) hk (by simp only [List.length_cons] at h; omega), TV.at_put_ne _ _ _ _ _ hm hk (by simp only [List.length_cons] at h; omega)]
theorem into_at : ∀ (cs : List V) (t : TV) (m k : Nat), 1 ≤ m → k < cs.length → m + cs.length ≤ 2 ^ 40 → cs[k]? = some ((into cs t m).at (m + k))
  | [], _, _, _, _, h, _ => by simp at h
  | c :: cs, t, m, 0, hm, _, hb => by
    rw [into_cons, List.getElem?_cons_zero]; show some c = some ((into cs (TV.put c 40 t m) (m + 1)).at m); rw [into_ne cs (TV.put c 40 t m) (m + 1) m (by omega) hm (by omega), TV.at_put_same _ _ _ _ hm (by simp only [List.length_cons] at hb; omega)]
  | c :: cs, t, m, k + 1, hm, h, hb => by
    rw [into_cons, List.getElem?_cons_succ, into_at cs _ (m + 1) k (by omega) (by simpa using h) (by simp only [List.length_cons] at hb; omega)]
    congr 2; omega

/-- The k-th of what a region has made, the last first. -/
noncomputable def nth (k : Nat) (L : List V) : V :=
  Nat.rec (motive := fun _ => List V → V) (fun L => List.casesOn L .u (fun h _ => h)) (fun _ ih L => List.casesOn L .u (fun _ t => ih t)) k L
theorem nth_eq : ∀ (k : Nat) (L : List V), nth k L = L[k]?.getD .u
  | 0, [] => rfl
  | 0, _ :: _ => rfl
  | _ + 1, [] => rfl
  | k + 1, _ :: L => nth_eq k L

end Go.Proofs.YtnhgchnhfdimiaaGreatDoor.Ev
