/- Operations on texts, bytes, bools; conversions; division. -/
import Derived.Test.YtnhgchnhfdimiaaGreatDoorEvC
import Derived.Lib.Strings
import Derived.Lib.SmallJoins
namespace Go.Proofs.YtnhgchnhfdimiaaGreatDoor.Ev
open Go

/-! ### Texts as numbers -/
theorem enc_lt : ∀ l : List UInt8, enc l < 256 ^ l.length
  | [] => by simp [enc]
  | b :: r => by
    have := enc_lt r
    have hb : b.toNat < 256 := b.toNat_lt
    simp only [enc, List.length_cons, Nat.pow_succ]; omega
theorem enc_append : ∀ a b : List UInt8, enc (a ++ b) = enc a + 256 ^ a.length * enc b
  | [], b => by simp [enc]
  | x :: a, b => by
    simp only [enc, List.cons_append, enc_append a b, List.length_cons, Nat.pow_succ]
    rw [Nat.mul_add, ← Nat.mul_assoc, Nat.mul_comm 256 (256 ^ a.length)]; omega
theorem enc_drop : ∀ (l : List UInt8) (k : Nat), enc (l.drop k) = enc l / 256 ^ k
  | l, 0 => by simp
  | [], k + 1 => by simp [enc]
  | b :: r, k + 1 => by
    rw [List.drop_succ_cons, enc_drop r k, Nat.pow_succ, Nat.mul_comm (256 ^ k) 256, ← Nat.div_div_eq_div_mul]
    have hb : b.toNat < 256 := b.toNat_lt
    simp only [enc]
    congr 1; omega
theorem enc_take : ∀ (l : List UInt8) (k : Nat), enc (l.take k) = enc l % 256 ^ k
  | l, 0 => by simp [enc, Nat.mod_one]
  | [], k + 1 => by simp [enc]
  | b :: r, k + 1 => by
    rw [List.take_succ_cons]
    simp only [enc]
    rw [enc_take r k, Nat.pow_succ, Nat.mul_comm (256 ^ k) 256]
    have hb : b.toNat < 256 := b.toNat_lt
    have h := Nat.div_add_mod (b.toNat + 256 * enc r) 256
    have e1 : (b.toNat + 256 * enc r) / 256 = enc r := by omega
    have e2 : (b.toNat + 256 * enc r) % 256 = b.toNat := by omega
    rw [Nat.mod_mul, e1, e2]
theorem enc_get (l : List UInt8) (k : Nat) (h : k < l.length) : ∃ b, l[k]? = some b ∧ enc l / 256 ^ k % 256 = b.toNat := by
  refine ⟨l[k], List.getElem?_eq_getElem h, ?_⟩
  rw [← enc_drop, List.drop_eq_getElem_cons h]
  have hb : l[k].toNat < 256 := l[k].toNat_lt
  simp only [enc]; omega
theorem enc_inj : ∀ {a b : List UInt8}, a.length = b.length → enc a = enc b → a = b
  | [], [], _, _ => rfl
  | [], _ :: _, h, _ => by simp at h
  | _ :: _, [], h, _ => by simp at h
  | x :: a, y :: b, h, e => by
    have hx : x.toNat < 256 := x.toNat_lt
    have hy : y.toNat < 256 := y.toNat_lt
    simp only [enc] at e
    have e1 : x.toNat = y.toNat := by omega
    have e2 : enc a = enc b := by omega
    rw [enc_inj (by simpa using h) e2, UInt8.toNat_inj.1 e1]

theorem VR_s {ρ : Rho} {l m : Nat} {s : ByteArray} (h1 : s.data.toList.length = l) (h2 : enc s.data.toList = m) : VR ρ (.s l m) (.string s) := by simp [VR, h1, h2]
theorem VR_y {ρ : Rho} {m : Nat} (h : m < 256) : VR ρ (.y m) (.int .u8 (m : Int)) := by unfold VR; exact ⟨rfl, h, rfl⟩

noncomputable def catS (x y : V) : Option V := asS x none fun l m => asS y none fun l' m' =>
  cond (Nat.ble (Nat.add l l') 1099511627776) (some (.s (Nat.add l l') (Nat.add m (Nat.mul (Nat.pow 256 l) m')))) none
theorem cond_some {α : Type} {c : Bool} {x : Option α} {r : α} (h : cond c x none = some r) : c = true ∧ x = some r := by
  cases c <;> simp at h ⊢; exact h
theorem data_len (s : ByteArray) : s.data.toList.length = s.size := Array.length_toList
theorem snd_catS (P : Program) (t : TypeId) (ox oy : Operand) : Snd2 P catS (cbin .add t ox oy) := by
  intro ρ v v' x x' r w hv hv' hf
  obtain ⟨l, m, e1, h1⟩ := asS_some hf
  obtain ⟨l', m', e2, h2⟩ := asS_some h1
  subst e1; subst e2
  obtain ⟨s, rfl, hl, hm⟩ := hv.s
  obtain ⟨s', rfl, hl', hm'⟩ := hv'.s
  obtain ⟨hc, h3⟩ := cond_some h2
  have hc := Nat.le_of_ble_eq_true hc
  have hc : l + l' ≤ 1099511627776 := hc
  injection h3 with h3; subst h3
  refine ⟨.string (s ++ s'), ?_, VR_s ?_ ?_⟩
  · unfold cbin
    rw [Sem.run_bind, eqGuard_string, Result.andThen_ok]
    have hn : ¬ (((s.size + s'.size : Nat) : Int) > IntKind.i64.max) := by
      rw [data_len] at hl hl'
      have : IntKind.i64.max = 9223372036854775807 := rfl
      rw [this]; omega
    show (Op.stringOp .add s s').run P w = _
    unfold Op.stringOp
    simp only [hn, if_false]
    rfl
  · rw [Joins.data_append, List.length_append, hl, hl']; rfl
  · rw [Joins.data_append, enc_append, hl, hm, hm']; rfl

noncomputable def eqlS (x y : V) : Option V := asS x none fun l m => asS y none fun l' m' => some (.b (and (Nat.beq l l') (Nat.beq m m')))
noncomputable def neqS (x y : V) : Option V := asS x none fun l m => asS y none fun l' m' => some (.b (not (and (Nat.beq l l') (Nat.beq m m'))))
theorem list_eq_dec (a b : List UInt8) : (a == b) = and (Nat.beq a.length b.length) (Nat.beq (enc a) (enc b)) := by
  by_cases h : a = b
  · subst h; simp [Nat.beq_refl]
  · have e : (a == b) = false := by simpa using h
    rw [e]
    by_cases h1 : a.length = b.length
    · have h2 : enc a ≠ enc b := fun h2 => h (enc_inj h1 h2)
      rw [beq_no h2]; simp
    · rw [beq_no h1]; simp
theorem snd_eqlS (P : Program) (t : TypeId) (ox oy : Operand) : Snd2 P eqlS (cbin .eql t ox oy) := by
  intro ρ v v' x x' r w hv hv' hf
  obtain ⟨l, m, e1, h1⟩ := asS_some hf
  obtain ⟨l', m', e2, h2⟩ := asS_some h1
  subst e1; subst e2
  obtain ⟨s, rfl, hl, hm⟩ := hv.s
  obtain ⟨s', rfl, hl', hm'⟩ := hv'.s
  injection h2 with h3; subst h3
  refine ⟨.bool (s.toList == s'.toList), ?_, VR_b ?_⟩
  · unfold cbin; rw [Sem.run_bind, eqGuard_string, Result.andThen_ok]; rfl
  · rw [ByteArray.toList_eq, ByteArray.toList_eq, list_eq_dec, hl, hl', hm, hm']
theorem snd_neqS (P : Program) (t : TypeId) (ox oy : Operand) : Snd2 P neqS (cbin .neq t ox oy) := by
  intro ρ v v' x x' r w hv hv' hf
  obtain ⟨l, m, e1, h1⟩ := asS_some hf
  obtain ⟨l', m', e2, h2⟩ := asS_some h1
  subst e1; subst e2
  obtain ⟨s, rfl, hl, hm⟩ := hv.s
  obtain ⟨s', rfl, hl', hm'⟩ := hv'.s
  injection h2 with h3; subst h3
  refine ⟨.bool (!(s.toList == s'.toList)), ?_, VR_b ?_⟩
  · unfold cbin; rw [Sem.run_bind, eqGuard_string, Result.andThen_ok]; rfl
  · rw [ByteArray.toList_eq, ByteArray.toList_eq, list_eq_dec, hl, hl', hm, hm']

/-- The order of texts, byte by byte. -/
noncomputable def lessB (l : Nat) : Nat → Nat → Nat → Bool :=
  Nat.rec (motive := fun _ => Nat → Nat → Nat → Bool) (fun l' _ _ => not (Nat.beq l' 0))
    (fun _ ih l' m m' => cond (Nat.beq l' 0) false (cond (Nat.ble (Nat.succ (Nat.mod m 256)) (Nat.mod m' 256)) true
      (cond (Nat.beq (Nat.mod m 256) (Nat.mod m' 256)) (ih (Nat.pred l') (Nat.div m 256) (Nat.div m' 256)) false))) l
theorem lessB_eq : ∀ a b : List UInt8, Op.bytesLess a b = lessB a.length b.length (enc a) (enc b)
  | [], [] => rfl
  | [], _ :: _ => rfl
  | _ :: _, [] => rfl
  | x :: a, y :: b => by
    have hx : x.toNat < 256 := x.toNat_lt
    have hy : y.toNat < 256 := y.toNat_lt
    have e1 : Nat.mod (enc (x :: a)) 256 = x.toNat := by show (x.toNat + 256 * enc a) % 256 = _; omega
    have e2 : Nat.mod (enc (y :: b)) 256 = y.toNat := by show (y.toNat + 256 * enc b) % 256 = _; omega
    have e3 : Nat.div (enc (x :: a)) 256 = enc a := by show (x.toNat + 256 * enc a) / 256 = _; omega
    have e4 : Nat.div (enc (y :: b)) 256 = enc b := by show (y.toNat + 256 * enc b) / 256 = _; omega
    show (decide (x < y) || (x == y && Op.bytesLess a b)) = cond (Nat.beq (b.length + 1) 0) false (cond (Nat.ble (Nat.succ (Nat.mod (enc (x :: a)) 256)) (Nat.mod (enc (y :: b)) 256)) true
      (cond (Nat.beq (Nat.mod (enc (x :: a)) 256) (Nat.mod (enc (y :: b)) 256)) (lessB a.length b.length (Nat.div (enc (x :: a)) 256) (Nat.div (enc (y :: b)) 256)) false))
    rw [e1, e2, e3, e4, lessB_eq a b, ble_eq]
    have h0 : Nat.beq (b.length + 1) 0 = false := beq_no (by omega)
    rw [h0]
    have hlt : (x < y) = (x.toNat < y.toNat) := propext UInt8.lt_iff_toNat_lt
    by_cases h1 : x.toNat < y.toNat
    · have : decide (x < y) = true := by rw [decide_eq_true_eq, hlt]; exact h1
      rw [this, decide_eq_true (by omega)]; rfl
    · have : decide (x < y) = false := by rw [decide_eq_false_iff_not, hlt]; exact h1
      rw [this, decide_eq_false (by omega)]
      by_cases h2 : x.toNat = y.toNat
      · have h3 : x = y := UInt8.toNat_inj.1 h2
        subst h3; rw [beq_yes rfl]; simp
      · have h3 : (x == y) = false := by rw [beq_eq_false_iff_ne]; exact fun h => h2 (by rw [h])
        rw [h3, beq_no h2]; rfl
noncomputable def lssS (x y : V) : Option V := asS x none fun l m => asS y none fun l' m' => some (.b (lessB l l' m m'))
noncomputable def leqS (x y : V) : Option V := asS x none fun l m => asS y none fun l' m' => some (.b (or (lessB l l' m m') (and (Nat.beq l l') (Nat.beq m m'))))
noncomputable def geqS (x y : V) : Option V := asS x none fun l m => asS y none fun l' m' => some (.b (not (lessB l l' m m')))
noncomputable def gtrS (x y : V) : Option V := asS x none fun l m => asS y none fun l' m' => some (.b (not (or (lessB l l' m m') (and (Nat.beq l l') (Nat.beq m m')))))
theorem str_two {P : Program} {f : Nat → Nat → Nat → Nat → Bool} {op : BinOp} {t : TypeId} {ox oy : Operand} {g : ByteArray → ByteArray → Bool}
    (hop : ∀ a b, binOp op t (.string a) (.string b) = pure (.bool (g a b)))
    (h : ∀ a b, f a.data.toList.length b.data.toList.length (enc a.data.toList) (enc b.data.toList) = g a b) :
    Snd2 P (fun x y => asS x none fun l m => asS y none fun l' m' => some (.b (f l l' m m'))) (cbin op t ox oy) := by
  intro ρ v v' x x' r w hv hv' hf
  obtain ⟨l, m, e1, h1⟩ := asS_some hf
  obtain ⟨l', m', e2, h2⟩ := asS_some h1
  subst e1; subst e2
  obtain ⟨s, rfl, hl, hm⟩ := hv.s
  obtain ⟨s', rfl, hl', hm'⟩ := hv'.s
  have hr : V.b (f l l' m m') = r := Option.some.inj h2
  subst hr
  refine ⟨.bool (g s s'), ?_, VR_b (by rw [← hl, ← hl', ← hm, ← hm']; exact h s s')⟩
  unfold cbin; rw [Sem.run_bind, eqGuard_string, Result.andThen_ok, hop]; rfl
theorem snd_lssS (P : Program) (t : TypeId) (ox oy : Operand) : Snd2 P lssS (cbin .lss t ox oy) :=
  str_two (f := lessB) (g := fun a b => Op.bytesLess a.toList b.toList) (fun a b => by simp [binOp, Op.stringOp]) fun a b => by rw [ByteArray.toList_eq, ByteArray.toList_eq, lessB_eq]
theorem snd_leqS (P : Program) (t : TypeId) (ox oy : Operand) : Snd2 P leqS (cbin .leq t ox oy) :=
  str_two (f := fun l l' m m' => or (lessB l l' m m') (and (Nat.beq l l') (Nat.beq m m'))) (g := fun a b => Op.bytesLess a.toList b.toList || a.toList == b.toList) (fun a b => by simp [binOp, Op.stringOp])
    fun a b => by rw [ByteArray.toList_eq, ByteArray.toList_eq, lessB_eq, list_eq_dec]
theorem snd_geqS (P : Program) (t : TypeId) (ox oy : Operand) : Snd2 P geqS (cbin .geq t ox oy) :=
  str_two (f := fun l l' m m' => not (lessB l l' m m')) (g := fun a b => !Op.bytesLess a.toList b.toList) (fun a b => by simp [binOp, Op.stringOp])
    fun a b => by rw [ByteArray.toList_eq, ByteArray.toList_eq, lessB_eq]
theorem snd_gtrS (P : Program) (t : TypeId) (ox oy : Operand) : Snd2 P gtrS (cbin .gtr t ox oy) :=
  str_two (f := fun l l' m m' => not (or (lessB l l' m m') (and (Nat.beq l l') (Nat.beq m m')))) (g := fun a b => !(Op.bytesLess a.toList b.toList || a.toList == b.toList)) (fun a b => by simp [binOp, Op.stringOp])
    fun a b => by rw [ByteArray.toList_eq, ByteArray.toList_eq, lessB_eq, list_eq_dec]

end Go.Proofs.YtnhgchnhfdimiaaGreatDoor.Ev
