/- Numbers that are not known: what operations on them give, told entry by entry. -/
import Derived.Test.YtmbnogellhoheaaGreatDoorFq
import Derived.Test.YtmbnogellhoheaaGreatDoorFx
import Derived.WalkKit
import Derived.Test.YtmbnogellhoheaaGreatDoorFs
import Derived.Lib.Atoi
import Derived.Lib.ItoaNum
namespace Go.Proofs.YtmbnogellhoheaaGreatDoor.Run
open Go Go.Proofs.YtmbnogellhoheaaGreatDoor.Ev
/-- A value of the evaluator stands for a number of a kind. -/
def IV (val : Pos → Option Nat) (v : V) (k : IntKind) (z : Int) : Prop := (∀ ρ, ValR val ρ → ∀ x, VR ρ v x → x = .int k z) ∧ ∀ ρ, ValR val ρ → VR ρ v (.int k z)
variable {val : Pos → Option Nat}
theorem IV.n {m : Nat} (h : m < 18446744073709551616) : IV val (.n m) .i64 (IntKind.i64.wrap m) := by
  refine ⟨fun ρ _ x hx => ?_, fun ρ _ => VR_n h⟩
  obtain ⟨-, rfl⟩ := hx.n
  rfl
theorem IV.y {m : Nat} (h : m < 256) : IV val (.y m) .u8 m := by
  refine ⟨fun ρ _ x hx => ?_, fun ρ _ => ?_⟩
  · cases x <;> simp_all [VR]
  · simp [VR, h]
theorem IV.k {k : IntKind} {m : Nat} (h : m < 2 ^ k.bits) : IV val (.k k m) k (k.wrap m) := by
  refine ⟨fun ρ _ x hx => ?_, fun ρ _ => ?_⟩
  · cases x <;> simp_all [VR]
  · simp [VR, h]
theorem IV.a0 {id : Pos} {m : Nat} (hv : val id = some m) (h : m < 18446744073709551616) : IV val (.a 0 id) .i64 (IntKind.i64.wrap m) := by
  refine ⟨fun ρ hr x hx => (atom0 hr hv hx).2, fun ρ hr => ?_⟩
  obtain ⟨q, h1, h2⟩ := hr id m hv
  unfold VR
  exact ⟨q, h1, rfl, by rw [h2]; exact h, by rw [h2]⟩
theorem IV.a2 {id : Pos} {m : Nat} (hv : val id = some m) (h : m < 256) : IV val (.a 2 id) .u8 m := by
  refine ⟨fun ρ hr x hx => ?_, fun ρ hr => ?_⟩
  · obtain ⟨q, h1, h2⟩ := hr id m hv
    obtain ⟨q', h3, h4⟩ := hx.a
    rw [h1] at h3; injection h3 with h3; subst h3
    unfold AtR at h4
    split at h4
    · rename_i he; cases he
    · rename_i he; cases he
    · obtain ⟨rfl, -, rfl⟩ := h4
      rw [h2]
    · rename_i he; omega
    · exact h4.elim
  · obtain ⟨q, h1, h2⟩ := hr id m hv
    unfold VR
    exact ⟨q, h1, rfl, by rw [h2]; exact h, by rw [h2]⟩
theorem IV.cast {v : V} {k : IntKind} {z z' : Int} (h : IV val v k z) (e : z = z') : IV val v k z' := e ▸ h
/-- What an operation gives. -/
def BR (val : Pos → Option Nat) (op : BinOp) (x y r : V) : Prop := ∀ ρ, ValR val ρ → ∀ (P : Program) (t : TypeId) (ox oy : Operand) (w : World) (a b : Value), VR ρ x a → VR ρ y b → ∃ c, (cbin op t ox oy a b).run P w = .ok c w ∧ VR ρ r c
def CR (val : Pos → Option Nat) (k : IntKind) (x r : V) : Prop := ∀ ρ, ValR val ρ → ∀ a, VR ρ x a → ∃ j z, a = .int j z ∧ VR ρ r (.int k (k.wrap z))
theorem cbiN {P : Program} {op : BinOp} {t : TypeId} {ox oy : Operand} {k k' : IntKind} {a b : Int} {v : Value} {w : World} (h : binOp op t (.int k a) (.int k' b) = pure v) : (cbin op t ox oy (.int k a) (.int k' b)).run P w = .ok v w := by
  unfold cbin; rw [Sem.run_bind, eqGuard_int, Result.andThen_ok, h]; rfl
theorem BR.mk {op : BinOp} {x y r : V} {k k' : IntKind} {a b : Int} {c : Value} (hx : IV val x k a) (hy : IV val y k' b) (hr : ∀ ρ, ValR val ρ → VR ρ r c) (h : ∀ t, binOp op t (.int k a) (.int k' b) = pure c) : BR val op x y r := by
  intro ρ hρ P t ox oy w a' b' ha hb
  rw [hx.1 ρ hρ _ ha, hy.1 ρ hρ _ hb]
  exact ⟨c, cbiN (h t), hr ρ hρ⟩
theorem bin_add (k : IntKind) (a b : Int) (t : TypeId) : binOp .add t (.int k a) (.int k b) = pure (.int k (k.wrap (a + b))) := by cases k <;> rfl
theorem bin_sub (k : IntKind) (a b : Int) (t : TypeId) : binOp .sub t (.int k a) (.int k b) = pure (.int k (k.wrap (a - b))) := by cases k <;> rfl
theorem bin_mul (k : IntKind) (a b : Int) (t : TypeId) : binOp .mul t (.int k a) (.int k b) = pure (.int k (k.wrap (a * b))) := by cases k <;> rfl
theorem bin_rem (k : IntKind) (a b : Int) (t : TypeId) (h : b ≠ 0) : binOp .rem t (.int k a) (.int k b) = pure (.int k (a.tmod b)) := by
  have : binOp .rem t (.int k a) (.int k b) = Op.intDiv .rem k a b := by cases k <;> rfl
  rw [this]; unfold Op.intDiv; rw [if_neg h]
theorem bin_quo (k : IntKind) (a b : Int) (t : TypeId) (h : b ≠ 0) : binOp .quo t (.int k a) (.int k b) = pure (.int k (k.wrap (a.tdiv b))) := by
  have : binOp .quo t (.int k a) (.int k b) = Op.intDiv .quo k a b := by cases k <;> rfl
  rw [this]; unfold Op.intDiv; rw [if_neg h]
theorem bin_shr (k k' : IntKind) (a : Int) (m : Nat) (t : TypeId) (h : m ≤ k.bits) : binOp .shr t (.int k a) (.int k' (m : Int)) = pure (.int k (a.fdiv (2 ^ m))) := by
  show Op.shift .shr k a k' (m : Int) = _
  unfold Op.shift
  rw [if_neg (by omega), Int.toNat_natCast, Nat.min_eq_left h]
theorem bin_cmp (k : IntKind) (a b : Int) (t : TypeId) :
    binOp .eql t (.int k a) (.int k b) = pure (.bool (a == b)) ∧ binOp .neq t (.int k a) (.int k b) = pure (.bool (a != b)) ∧ binOp .lss t (.int k a) (.int k b) = pure (.bool (a < b)) ∧
    binOp .leq t (.int k a) (.int k b) = pure (.bool (a ≤ b)) ∧ binOp .gtr t (.int k a) (.int k b) = pure (.bool (a > b)) ∧ binOp .geq t (.int k a) (.int k b) = pure (.bool (a ≥ b)) := by cases k <;> exact ⟨rfl, rfl, rfl, rfl, rfl, rfl⟩
section ops
variable {x y r : V} {k : IntKind} {a b c : Int}
theorem BR.add (hx : IV val x k a) (hy : IV val y k b) (hr : IV val r k c) (h : c = k.wrap (a + b)) : BR val .add x y r := BR.mk hx hy hr.2 fun t => by rw [bin_add, h]
theorem BR.sub (hx : IV val x k a) (hy : IV val y k b) (hr : IV val r k c) (h : c = k.wrap (a - b)) : BR val .sub x y r := BR.mk hx hy hr.2 fun t => by rw [bin_sub, h]
theorem BR.mul (hx : IV val x k a) (hy : IV val y k b) (hr : IV val r k c) (h : c = k.wrap (a * b)) : BR val .mul x y r := BR.mk hx hy hr.2 fun t => by rw [bin_mul, h]
theorem BR.rem (hx : IV val x k a) (hy : IV val y k b) (hr : IV val r k c) (h0 : b ≠ 0) (h : c = a.tmod b) : BR val .rem x y r := BR.mk hx hy hr.2 fun t => by rw [bin_rem _ _ _ _ h0, h]
theorem BR.quo (hx : IV val x k a) (hy : IV val y k b) (hr : IV val r k c) (h0 : b ≠ 0) (h : c = k.wrap (a.tdiv b)) : BR val .quo x y r := BR.mk hx hy hr.2 fun t => by rw [bin_quo _ _ _ _ h0, h]
theorem BR.shr {k' : IntKind} {m : Nat} (hx : IV val x k a) (hy : IV val y k' (m : Int)) (hr : IV val r k c) (hm : m ≤ k.bits) (h : c = a.fdiv (2 ^ m)) : BR val .shr x y r := BR.mk hx hy hr.2 fun t => by rw [bin_shr _ _ _ _ _ hm, h]
theorem BR.cmp {op : BinOp} {d : Bool} (hx : IV val x k a) (hy : IV val y k b) (h : (match op with | .eql => a == b | .neq => a != b | .lss => decide (a < b) | .leq => decide (a ≤ b) | .gtr => decide (a > b) | .geq => decide (a ≥ b) | _ => !d) = d) : BR val op x y (.b d) := by
  have hb : ∀ ρ, ValR val ρ → VR ρ (.b d) (.bool d) := fun ρ _ => VR_b rfl
  obtain ⟨h1, h2, h3, h4, h5, h6⟩ := bin_cmp k a b 0
  cases op with
  | eql => exact BR.mk hx hy hb fun t => by rw [(bin_cmp k a b t).1]; exact congrArg (fun z => pure (Value.bool z)) h
  | neq => exact BR.mk hx hy hb fun t => by rw [(bin_cmp k a b t).2.1]; exact congrArg (fun z => pure (Value.bool z)) h
  | lss => exact BR.mk hx hy hb fun t => by rw [(bin_cmp k a b t).2.2.1]; exact congrArg (fun z => pure (Value.bool z)) h
  | leq => exact BR.mk hx hy hb fun t => by rw [(bin_cmp k a b t).2.2.2.1]; exact congrArg (fun z => pure (Value.bool z)) h
  | gtr => exact BR.mk hx hy hb fun t => by rw [(bin_cmp k a b t).2.2.2.2.1]; exact congrArg (fun z => pure (Value.bool z)) h
  | geq => exact BR.mk hx hy hb fun t => by rw [(bin_cmp k a b t).2.2.2.2.2]; exact congrArg (fun z => pure (Value.bool z)) h
  | _ => cases d <;> cases h
theorem CR.mk {j : IntKind} (hx : IV val x j a) (hr : IV val r k c) (h : c = k.wrap a) : CR val k x r := by
  intro ρ hρ a' ha
  rw [hx.1 ρ hρ _ ha]
  exact ⟨j, a, rfl, by rw [← h]; exact hr.2 ρ hρ⟩
end ops
/-! ### entries -/
structure BE where
  op : Nat
  x : V
  y : V
  r : V
structure CE where
  k : Nat
  x : V
  r : V
noncomputable def opN : BinOp → Nat := fun op => BinOp.casesOn (motive := fun _ => Nat) op 0 1 2 3 4 5 6 7 8 9 10 11 12 13 14 15 16
theorem kdNo_inj {o p : IntKind} (h : kdNo o = kdNo p) : o = p := by cases o <;> cases p <;> first | rfl | cases h
/-- Equal values: numbers of other kinds too. -/
noncomputable def veqK (x y : V) : Bool := cond (veq x y) true (asK x false fun k m => asK y false fun k' m' => cond (Nat.beq (kdNo k) (kdNo k')) (Nat.beq m m') false)
theorem asK_true {v : V} {k : IntKind → Nat → Bool} (h : asK v false k = true) : ∃ j m, v = .k j m ∧ k j m = true := by
  cases v <;> first | exact ⟨_, _, rfl, h⟩ | (have h : false = true := h; cases h)
theorem veqK_eq {x y : V} (h : veqK x y = true) : x = y := by
  unfold veqK at h
  cases e : veq x y with
  | true => exact veq_eq e
  | false =>
    rw [e, cond_false] at h
    obtain ⟨k, m, rfl, h⟩ := asK_true h
    have h : asK y false (fun k' m' => cond (Nat.beq (kdNo k) (kdNo k')) (Nat.beq m m') false) = true := h
    obtain ⟨k', m', rfl, h⟩ := asK_true (v := y) h
    obtain ⟨h1, h2⟩ := cond_true' h
    rw [kdNo_inj (Nat.eq_of_beq_eq_true h1), Nat.eq_of_beq_eq_true h2]
noncomputable def BE.hit (e : BE) (n : Nat) (x y : V) : Bool := cond (Nat.beq e.op n) (cond (veqK e.x x) (veqK e.y y) false) false
noncomputable def lookB (l : List BE) (n : Nat) (x y : V) : Option V := List.rec (motive := fun _ => Option V) none (fun e _ ih => cond (e.hit n x y) (some e.r) ih) l
noncomputable def CE.hit (e : CE) (n : Nat) (x : V) : Bool := cond (Nat.beq e.k n) (veq e.x x) false
noncomputable def lookC (l : List CE) (n : Nat) (x : V) : Option V := List.rec (motive := fun _ => Option V) none (fun e _ ih => cond (e.hit n x) (some e.r) ih) l
inductive AllBE (val : Pos → Option Nat) : List BE → Prop
  | nil : AllBE val []
  | cons {op : BinOp} {n : Nat} {x y r : V} {l : List BE} (hn : opN op = n) (h : BR val op x y r) (hl : AllBE val l) : AllBE val (⟨n, x, y, r⟩ :: l)
inductive AllCE (val : Pos → Option Nat) : List CE → Prop
  | nil : AllCE val []
  | cons {k : IntKind} {n : Nat} {x r : V} {l : List CE} (hn : kdNo k = n) (h : CR val k x r) (hl : AllCE val l) : AllCE val (⟨n, x, r⟩ :: l)
theorem opN_inj {o p : BinOp} (h : opN o = opN p) : o = p := by cases o <;> cases p <;> first | rfl | cases h
theorem lookB_snd {l : List BE} (hl : AllBE val l) {op : BinOp} {x y r : V} (h : lookB l (opN op) x y = some r) : BR val op x y r := by
  induction hl with
  | nil => cases h
  | @cons o n a b c l hn hb _ ih =>
    have h : cond (BE.hit ⟨n, a, b, c⟩ (opN op) x y) (some c) (lookB l (opN op) x y) = some r := h
    cases hh : BE.hit ⟨n, a, b, c⟩ (opN op) x y with
    | false => rw [hh] at h; exact ih h
    | true =>
      rw [hh] at h
      injection h with h; subst h
      obtain ⟨h1, h2⟩ := cond_true' (c := Nat.beq n (opN op)) (x := cond (veqK a x) (veqK b y) false) hh
      obtain ⟨h2, h3⟩ := cond_true' h2
      have h1 := Nat.eq_of_beq_eq_true h1
      have := veqK_eq h2
      subst this
      have := veqK_eq h3
      subst this
      have : o = op := opN_inj (hn.trans h1)
      subst this
      exact hb
theorem lookC_snd {l : List CE} (hl : AllCE val l) {k : IntKind} {x r : V} (h : lookC l (kdNo k) x = some r) : CR val k x r := by
  induction hl with
  | nil => cases h
  | @cons o n a c l hn hb _ ih =>
    have h : cond (CE.hit ⟨n, a, c⟩ (kdNo k) x) (some c) (lookC l (kdNo k) x) = some r := h
    cases hh : CE.hit ⟨n, a, c⟩ (kdNo k) x with
    | false => rw [hh] at h; exact ih h
    | true =>
      rw [hh] at h
      injection h with h; subst h
      obtain ⟨h1, h2⟩ := cond_true' (c := Nat.beq n (kdNo k)) (x := veq a x) hh
      have h1 := Nat.eq_of_beq_eq_true h1
      have := veq_eq h2
      subst this
      have : o = k := kdNo_inj (hn.trans h1)
      subst this
      exact hb
/-! ### digits' bytes: names from `lo` on, below `hi` -/
noncomputable def isD (lo hi : Nat) (v : V) : Bool := asA v false fun k id => cond (Nat.beq k 2) (cond (Nat.ble lo id.val) (Nat.blt id.val hi) false) false
noncomputable def noDig (v : V) : Bool := asY v false fun c => cond (Nat.blt c 48) true (cond (Nat.blt 57 c) (Nat.blt c 256) false)
/-- Operations on digits' bytes: none is a byte that is no digit. -/
noncomputable def binD (lo hi : Nat) (l : List BE) : BinOp → V → V → Option V := fun op x y =>
  cond (Nat.beq (opN op) 11) (cond (isD lo hi x) (cond (noDig y) (some (.b false)) (lookB l (opN op) x y)) (cond (isD lo hi y) (cond (noDig x) (some (.b false)) (lookB l (opN op) x y)) (lookB l (opN op) x y))) (lookB l (opN op) x y)
noncomputable def cvtD (l : List CE) : IntKind → V → Option V := fun k x => lookC l (kdNo k) x
theorem isD_spec {lo hi : Nat} {v : V} (h : isD lo hi v = true) : ∃ id, v = .a 2 id ∧ lo ≤ id.val ∧ id.val < hi := by
  obtain ⟨k, id, rfl, h1⟩ := asA_true h
  obtain ⟨h1, h2⟩ := cond_true' h1
  obtain ⟨h2, h3⟩ := cond_true' h2
  have h1 := Nat.eq_of_beq_eq_true h1
  subst h1
  exact ⟨id, rfl, Nat.le_of_ble_eq_true h2, by simpa [Nat.blt_eq] using h3⟩
theorem noDig_spec {v : V} (h : noDig v = true) : ∃ c, v = .y c ∧ c < 256 ∧ (c < 48 ∨ 57 < c) := by
  unfold noDig at h
  cases v with
  | y c =>
    have h : cond (Nat.blt c 48) true (cond (Nat.blt 57 c) (Nat.blt c 256) false) = true := h
    refine ⟨c, rfl, ?_⟩
    cases h1 : Nat.blt c 48 with
    | true => rw [Nat.blt_eq] at h1; omega
    | false =>
      rw [h1] at h
      obtain ⟨h2, h3⟩ := cond_true' (c := Nat.blt 57 c) (x := Nat.blt c 256) h
      rw [Nat.blt_eq] at h2 h3
      omega
  | _ => cases h
theorem binD_snd {lo hi : Nat} {l : List BE} (hd : ∀ id : Pos, lo ≤ id.val → id.val < hi → ∃ m, val id = some m ∧ 48 ≤ m ∧ m ≤ 57) (hl : AllBE val l) {op : BinOp} {x y r : V} (h : binD lo hi l op x y = some r) : BR val op x y r := by
  unfold binD at h
  cases h0 : Nat.beq (opN op) 11 with
  | false => rw [h0] at h; exact lookB_snd hl h
  | true =>
    rw [h0, cond_true] at h
    have hop : op = .eql := opN_inj (Nat.eq_of_beq_eq_true h0)
    have key : ∀ {a b : V}, isD lo hi a = true → noDig b = true → ∃ m c, IV val a .u8 (m : Nat) ∧ IV val b .u8 (c : Nat) ∧ m ≠ c := by
      intro a b ha hb
      obtain ⟨id, rfl, h1, h2⟩ := isD_spec ha
      obtain ⟨c, rfl, h3, h4⟩ := noDig_spec hb
      obtain ⟨m, h5, h6, h7⟩ := hd id h1 h2
      exact ⟨m, c, IV.a2 h5 (by omega), IV.y h3, by omega⟩
    cases h1 : isD lo hi x with
    | true =>
      rw [h1, cond_true] at h
      cases h2 : noDig y with
      | true =>
        rw [h2, cond_true] at h
        injection h with h; subst h
        obtain ⟨m, c, k1, k2, k3⟩ := key h1 h2
        subst hop
        exact BR.cmp k1 k2 (by show ((m : Int) == (c : Int)) = false; rw [beq_eq_false_iff_ne]; omega)
      | false => rw [h2] at h; exact lookB_snd hl h
    | false =>
      rw [h1, cond_false] at h
      cases h2 : isD lo hi y with
      | true =>
        rw [h2, cond_true] at h
        cases h3 : noDig x with
        | true =>
          rw [h3, cond_true] at h
          injection h with h; subst h
          obtain ⟨m, c, k1, k2, k3⟩ := key h2 h3
          subst hop
          exact BR.cmp k2 k1 (by show ((c : Int) == (m : Int)) = false; rw [beq_eq_false_iff_ne]; omega)
        | false => rw [h3] at h; exact lookB_snd hl h
      | false => rw [h2] at h; exact lookB_snd hl h
theorem tabD_ok {lo hi : Nat} {l : List BE} {cs : List CE} {fx : Pos → Option Fx} (hd : ∀ id : Pos, lo ≤ id.val → id.val < hi → ∃ m, val id = some m ∧ 48 ≤ m ∧ m ≤ 57) (hl : AllBE val l) (hc : AllCE val cs) : (GG val fx (binD lo hi l) (cvtD cs)).tab.OK :=
  ⟨fun ρ hr _ _ _ _ h P t ox oy w x x' hx hx' => binD_snd hd hl h ρ hr P t ox oy w x x' hx hx', fun ρ hr _ _ _ h x hx => lookC_snd hc h ρ hr x hx⟩
end Go.Proofs.YtmbnogellhoheaaGreatDoor.Run

/- One number of 16 bits: the names of it and of its parts, and what the operations on them give, for a positive and for a negative one. -/
namespace Go.Proofs.YtmbnogellhoheaaGreatDoor.Run
open Go Go.Proofs.YtmbnogellhoheaaGreatDoor.Ev
noncomputable abbrev vN : V := .a 0 (pb 3)
noncomputable abbrev vU : V := .a 0 (pb 4)
noncomputable abbrev vHI : V := .a 2 (pb 5)
noncomputable abbrev vLO : V := .a 2 (pb 6)
noncomputable abbrev vHIi : V := .a 0 (pb 7)
noncomputable abbrev vLOi : V := .a 0 (pb 8)
noncomputable abbrev vHM : V := .a 0 (pb 9)
noncomputable abbrev vSH : V := .a 0 (pb 10)
/-- A number's names: the number z, its 16 bits u. -/
structure NumV (val : Pos → Option Nat) (z : Int) (u : Nat) : Prop where
  fn : val (pb 3) = some (z % 18446744073709551616).toNat
  fu : val (pb 4) = some u
  hi : val (pb 5) = some (u / 256)
  lo : val (pb 6) = some (u % 256)
  hii : val (pb 7) = some (u / 256)
  loi : val (pb 8) = some (u % 256)
  hm : val (pb 9) = some (u / 256 * 256)
  sh : val (pb 10) = some ((z / 256) % 18446744073709551616).toNat
variable {val : Pos → Option Nat} {z : Int} {u : Nat}
theorem wrap_toNat {z : Int} (h0 : -9223372036854775808 ≤ z) (h1 : z < 9223372036854775808) : IntKind.i64.wrap ((z % 18446744073709551616).toNat : Nat) = z := by
  rw [IntKind.wrap_i64]; omega
theorem wrap_nat' {m : Nat} (h : m < 9223372036854775808) : IntKind.i64.wrap (m : Int) = m := by rw [IntKind.wrap_i64]; omega
theorem toNat_lt (z : Int) : (z % 18446744073709551616).toNat < 18446744073709551616 := by omega
section iv
variable (h : NumV val z u) (hz : -32768 ≤ z ∧ z < 32768) (hu : u < 65536)
include h
include hz in
theorem iN : IV val vN .i64 z := (IV.a0 h.fn (toNat_lt z)).cast (wrap_toNat (by omega) (by omega))
include hz in
theorem iSH : IV val vSH .i64 (z / 256) := (IV.a0 h.sh (toNat_lt _)).cast (wrap_toNat (by omega) (by omega))
include hu in
theorem iU : IV val vU .i64 u := (IV.a0 h.fu (by omega)).cast (wrap_nat' (by omega))
include hu in
theorem iHI : IV val vHI .u8 ((u / 256 : Nat) : Int) := IV.a2 h.hi (by omega)
theorem iLO : IV val vLO .u8 ((u % 256 : Nat) : Int) := IV.a2 h.lo (by omega)
include hu in
theorem iHIi : IV val vHIi .i64 ((u / 256 : Nat) : Int) := (IV.a0 h.hii (by omega)).cast (wrap_nat' (by omega))
theorem iLOi : IV val vLOi .i64 ((u % 256 : Nat) : Int) := (IV.a0 h.loi (by omega)).cast (wrap_nat' (by omega))
include hu in
theorem iHM : IV val vHM .i64 ((u / 256 * 256 : Nat) : Int) := (IV.a0 h.hm (by omega)).cast (wrap_nat' (by omega))
end iv
theorem cN (m : Nat) (h : m < 9223372036854775808) : IV val (.n m) .i64 m := (IV.n (by omega)).cast (wrap_nat' h)
theorem cM : IV val (.n 18446744071562067968) .i64 (-2147483648) := (IV.n (by omega)).cast (by rw [IntKind.wrap_i64]; omega)
theorem c8 : IV val (.k .u64 8) .u64 (8 : Nat) := (IV.k (by decide)).cast (by decide)
noncomputable def posB : List BE := [⟨0, vHM, vLOi, vN⟩, ⟨0, .n 0, vHIi, vHIi⟩, ⟨16, vN, .n 0, .b true⟩, ⟨16, vN, .n 32768, .b false⟩, ⟨15, vN, .n 2147483647, .b false⟩, ⟨15, vN, .n 32767, .b false⟩,
  ⟨13, vN, .n 18446744071562067968, .b false⟩, ⟨2, vHIi, .n 256, vHM⟩, ⟨2, .n 256, vHIi, vHM⟩, ⟨12, vN, vN, .b false⟩, ⟨11, vN, vN, .b true⟩, ⟨4, vN, .n 4294967296, vN⟩, ⟨9, vN, .k .u64 8, vSH⟩]
noncomputable def negB : List BE := [⟨0, vHM, vLOi, vU⟩, ⟨0, .n 0, vHIi, vHIi⟩, ⟨16, vN, .n 0, .b false⟩, ⟨16, vU, .n 32768, .b true⟩, ⟨15, vN, .n 2147483647, .b false⟩, ⟨15, vU, .n 32767, .b true⟩, ⟨1, vU, .n 65536, vN⟩,
  ⟨13, vN, .n 18446744071562067968, .b false⟩, ⟨2, vHIi, .n 256, vHM⟩, ⟨2, .n 256, vHIi, vHM⟩, ⟨12, vN, vN, .b false⟩, ⟨11, vN, vN, .b true⟩, ⟨4, vN, .n 4294967296, vN⟩, ⟨9, vN, .k .u64 8, vSH⟩]
noncomputable def numC : List CE := [⟨3, vHI, vHIi⟩, ⟨3, vLO, vLOi⟩, ⟨4, vSH, vHI⟩, ⟨4, vN, vLO⟩]
theorem fdiv256 (z : Int) : z.fdiv (2 ^ 8) = z / 256 := by rw [Int.fdiv_eq_ediv_of_nonneg z (by decide)]; rfl
theorem i64_id {z : Int} (h0 : -9223372036854775808 ≤ z) (h1 : z < 9223372036854775808) : IntKind.i64.wrap z = z := by rw [IntKind.wrap_i64]; omega
theorem tmod_big (h : -32768 ≤ z ∧ z < 32768) : z.tmod 4294967296 = z := by
  rcases Int.lt_or_le z 0 with h0 | h0
  · obtain ⟨m, hm⟩ : ∃ m : Nat, z = -(m : Int) := ⟨(-z).toNat, by omega⟩
    subst hm
    rw [Int.neg_tmod, Int.tmod_eq_emod_of_nonneg (by omega)]
    omega
  · rw [Int.tmod_eq_emod_of_nonneg h0]; omega
theorem numC_ok (h : NumV val z u) (hz : -32768 ≤ z ∧ z < 32768) (hu : u < 65536) (hzu : z = u ∨ z = u - 65536) : AllCE val numC :=
  .cons (k := .i64) rfl (CR.mk (iHI h hu) (iHIi h hu) (i64_id (by omega) (by omega)).symm) (.cons (k := .i64) rfl (CR.mk (iLO h) (iLOi h) (i64_id (by omega) (by omega)).symm)
    (.cons (k := .u8) rfl (CR.mk (iSH h hz) (iHI h hu) (by rw [IntKind.wrap_u8]; omega)) (.cons (k := .u8) rfl (CR.mk (iN h hz) (iLO h) (by rw [IntKind.wrap_u8]; omega)) .nil)))
theorem posB_ok (h : NumV val z u) (hz : 0 ≤ z ∧ z < 32768) (hzu : z = u) : AllBE val posB := by
  have hz' : -32768 ≤ z ∧ z < 32768 := by omega
  have hu : u < 65536 := by omega
  have hN := iN h hz'
  exact .cons (op := .add) rfl (BR.add (iHM h hu) (iLOi h) hN (by rw [i64_id (by omega) (by omega)]; omega))
    (.cons (op := .add) rfl (BR.add (cN 0 (by decide)) (iHIi h hu) (iHIi h hu) (by rw [i64_id (by omega) (by omega)]; omega))
    (.cons (op := .geq) rfl (BR.cmp hN (cN 0 (by decide)) (decide_eq_true (by omega)))
    (.cons (op := .geq) rfl (BR.cmp hN (cN 32768 (by decide)) (decide_eq_false (by omega)))
    (.cons (op := .gtr) rfl (BR.cmp hN (cN 2147483647 (by decide)) (decide_eq_false (by omega)))
    (.cons (op := .gtr) rfl (BR.cmp hN (cN 32767 (by decide)) (decide_eq_false (by omega)))
    (.cons (op := .lss) rfl (BR.cmp hN cM (decide_eq_false (by omega)))
    (.cons (op := .mul) rfl (BR.mul (iHIi h hu) (cN 256 (by decide)) (iHM h hu) (by rw [i64_id (by omega) (by omega)]; omega))
    (.cons (op := .mul) rfl (BR.mul (cN 256 (by decide)) (iHIi h hu) (iHM h hu) (by rw [i64_id (by omega) (by omega)]; omega))
    (.cons (op := .neq) rfl (BR.cmp hN hN (by simp))
    (.cons (op := .eql) rfl (BR.cmp hN hN (by simp))
    (.cons (op := .rem) rfl (BR.rem hN (cN 4294967296 (by decide)) hN (by omega) (tmod_big hz').symm)
    (.cons (op := .shr) rfl (BR.shr hN c8 (iSH h hz') (by decide) (fdiv256 z).symm) .nil))))))))))))
theorem negB_ok (h : NumV val z u) (hz : -32768 ≤ z ∧ z < 0) (hzu : z = (u : Int) - 65536) : AllBE val negB := by
  have hz' : -32768 ≤ z ∧ z < 32768 := by omega
  have hu : u < 65536 := by omega
  have hN := iN h hz'
  have hU := iU h hu
  exact .cons (op := .add) rfl (BR.add (iHM h hu) (iLOi h) hU (by rw [i64_id (by omega) (by omega)]; omega))
    (.cons (op := .add) rfl (BR.add (cN 0 (by decide)) (iHIi h hu) (iHIi h hu) (by rw [i64_id (by omega) (by omega)]; omega))
    (.cons (op := .geq) rfl (BR.cmp hN (cN 0 (by decide)) (decide_eq_false (by omega)))
    (.cons (op := .geq) rfl (BR.cmp hU (cN 32768 (by decide)) (decide_eq_true (by omega)))
    (.cons (op := .gtr) rfl (BR.cmp hN (cN 2147483647 (by decide)) (decide_eq_false (by omega)))
    (.cons (op := .gtr) rfl (BR.cmp hU (cN 32767 (by decide)) (decide_eq_true (by omega)))
    (.cons (op := .sub) rfl (BR.sub hU (cN 65536 (by decide)) hN (by rw [i64_id (by omega) (by omega)]; omega))
    (.cons (op := .lss) rfl (BR.cmp hN cM (decide_eq_false (by omega)))
    (.cons (op := .mul) rfl (BR.mul (iHIi h hu) (cN 256 (by decide)) (iHM h hu) (by rw [i64_id (by omega) (by omega)]; omega))
    (.cons (op := .mul) rfl (BR.mul (cN 256 (by decide)) (iHIi h hu) (iHM h hu) (by rw [i64_id (by omega) (by omega)]; omega))
    (.cons (op := .neq) rfl (BR.cmp hN hN (by simp))
    (.cons (op := .eql) rfl (BR.cmp hN hN (by simp))
    (.cons (op := .rem) rfl (BR.rem hN (cN 4294967296 (by decide)) hN (by omega) (tmod_big hz').symm)
    (.cons (op := .shr) rfl (BR.shr hN c8 (iSH h hz') (by decide) (fdiv256 z).symm) .nil)))))))))))))
end Go.Proofs.YtmbnogellhoheaaGreatDoor.Run

/- A number of 16 bits, of two bytes of a slice: what it is. -/
namespace Go.Proofs.YtmbnogellhoheaaGreatDoor.Run
open Go Go.Proofs.YtmbnogellhoheaaGreatDoor.Ev Go.Proofs.YtmbnogellhoheaaGreatDoor
def byteAt (b : Nat → Nat) (len i : Nat) : Nat := if i < len then b i else 0
def acc (b : Nat → Nat) (len at_ : Nat) : Nat → Nat
  | 0 => 0
  | k + 1 => acc b len at_ k * 256 + byteAt b len (at_ + k)
theorem byteAt_lt {b : Nat → Nat} (hb : ∀ i, b i < 256) (len i : Nat) : byteAt b len i < 256 := by unfold byteAt; split; exact hb i; omega
theorem acc_lt {b : Nat → Nat} (hb : ∀ i, b i < 256) (len at_ : Nat) : ∀ k, acc b len at_ k < 256 ^ k
  | 0 => Nat.lt_succ_self 0
  | k + 1 => by
    have h1 := acc_lt hb len at_ k
    have h2 := byteAt_lt hb len (at_ + k)
    show acc b len at_ k * 256 + byteAt b len (at_ + k) < 256 ^ k * 256
    omega
set_option maxRecDepth 100000 in
set_option maxHeartbeats 1000000 in
theorem swShort_ok (b : Nat → Nat) (hb : ∀ i, b i < 256) (at_ : Nat) (hat : at_ ≤ 2) (a : Option Addr) (len cap : Nat) (hlen : len ≤ 9223372036854775807) (w : World) (hc : ∀ i, i < len → ∃ ad, a = some ad ∧ w.cell? (ad.add i) = some (.int .u8 (b i : Nat))) :
    Calls Tryz.prog 21 #[.slice a len cap, .int .i64 (at_ : Int)] w fun e w' => e = .returned (.int .i64 ((acc b len at_ 2 : Nat) - 32768 : Int)) ∧ w' = w := by
  have h2 := acc_lt hb len at_ 2
  go_enter Tryz.func21, Tryz.ntmps21
  go_wp2
  go_loopw [5, 6] (fun n i wr => ∃ k, k ≤ 2 ∧ i = .int .i64 ((at_ + k : Nat) : Int) ∧ n = .int .i64 (acc b len at_ k : Nat) ∧ wr = w) (fun _ i _ => match i with | .int _ z => at_ + 2 - z.toNat | _ => 0)
  case atStart => exact ⟨0, by omega, rfl, rfl, rfl⟩
  case round =>
    obtain ⟨k, hk, rfl, rfl, rfl⟩ := hrel
    have h3 := acc_lt hb len at_ k
    have h4 := byteAt_lt hb len (at_ + k)
    have h5 : 256 ^ k ≤ 256 ^ 2 := Nat.pow_le_pow_right (by decide) hk
    by_cases hk2 : k = 2
    · subst hk2
      go_wp2
      go_ret
      exact ⟨rfl, rfl⟩
    · by_cases hl : at_ + k < len
      · obtain ⟨ad, rfl, hcell⟩ := hc (at_ + k) hl
        have hbk := hb (at_ + k)
        go_wp2
        go_roundw
        case rel =>
          refine ⟨k + 1, by omega, congrArg (Value.int .i64) (by omega), congrArg (Value.int .i64) ?_, trivial⟩
          have e : byteAt b len (at_ + k) = b (at_ + k) := if_pos hl
          show _ = ((acc b len at_ k * 256 + byteAt b len (at_ + k) : Nat) : Int)
          rw [e]; omega
        case measure =>
          show at_ + 2 - ((at_ : Int) + (k : Int) + 1).toNat < at_ + 2 - (((at_ + k : Nat) : Int)).toNat
          omega
      · go_wp2
        go_roundw
        case rel =>
          refine ⟨k + 1, by omega, congrArg (Value.int .i64) (by omega), congrArg (Value.int .i64) ?_, trivial⟩
          have e : byteAt b len (at_ + k) = 0 := if_neg hl
          show _ = ((acc b len at_ k * 256 + byteAt b len (at_ + k) : Nat) : Int)
          rw [e]; omega
        case measure =>
          show at_ + 2 - ((at_ : Int) + (k : Int) + 1).toNat < at_ + 2 - (((at_ + k : Nat) : Int)).toNat
          omega
end Go.Proofs.YtmbnogellhoheaaGreatDoor.Run

/- Decimal digits: of a number its text, of the text the number. -/
namespace Go.Proofs.YtmbnogellhoheaaGreatDoor.Run
open Go Go.Proofs.YtmbnogellhoheaaGreatDoor.Ev
theorem dig_dec : ∀ (f n : Nat), n < 10 ^ (f + 1) → dig (f + 1) n = Lib.decDigits n
  | 0, n, h => by
    have h : n < 10 := by simpa using h
    rw [dig_one h, Lib.decDigits_one h]
  | f + 1, n, h => by
    by_cases h10 : n < 10
    · rw [dig_one h10, Lib.decDigits_one h10]
    · have hn : n / 10 < 10 ^ (f + 1) := by
        rw [Nat.div_lt_iff_lt_mul (by decide)]
        rw [Nat.pow_succ] at h
        exact h
      rw [dig_more h10, dig_dec f _ hn, Lib.decDigits.eq_1 n, dif_neg h10]
theorem toUInt8_nat {m : Nat} (h : m < 256) : (m.toUInt8).toNat = m := by simp [Nat.toUInt8]; omega
theorem dig_byte : ∀ (f n : Nat), ∀ b ∈ dig f n, 48 ≤ b.toNat ∧ b.toNat ≤ 57
  | 0, n, b, hb => by cases hb
  | f + 1, n, b, hb => by
    by_cases h10 : n < 10
    · rw [dig_one h10] at hb
      simp only [List.mem_singleton] at hb
      subst hb
      rw [toUInt8_nat (by omega)]; omega
    · rw [dig_more h10] at hb
      rcases List.mem_append.1 hb with hb | hb
      · exact dig_byte f _ b hb
      · simp only [List.mem_singleton] at hb
        subst hb
        rw [toUInt8_nat (by omega)]; omega
theorem decFrom_append : ∀ (l : List UInt8) (a n : Nat) (b : UInt8) (d : Nat), Lib.decFrom a l = some n → Lib.digitVal b = some d → Lib.decFrom a (l ++ [b]) = some (n * 10 + d)
  | [], a, n, b, d, h, hd => by
    have h : some a = some n := h
    injection h with h; subst h
    simp [Lib.decFrom, hd]
  | c :: l, a, n, b, d, h, hd => by
    simp only [List.cons_append, Lib.decFrom] at h ⊢
    cases hc : Lib.digitVal c with
    | none => rw [hc] at h; cases h
    | some e => rw [hc] at h; exact decFrom_append l _ n b d h hd
theorem digitVal_of {m : Nat} (h : m < 10) : Lib.digitVal (48 + m).toUInt8 = some m := by
  unfold Lib.digitVal
  rw [toUInt8_nat (by omega), if_pos (by omega)]
  congr 1; omega
theorem decFrom_dig : ∀ (f n : Nat), n < 10 ^ (f + 1) → Lib.decFrom 0 (dig (f + 1) n) = some n
  | 0, n, h => by
    have h : n < 10 := by simpa using h
    rw [dig_one h]
    unfold Lib.decFrom
    rw [digitVal_of h]
    simp [Lib.decFrom]
  | f + 1, n, h => by
    by_cases h10 : n < 10
    · rw [dig_one h10]
      unfold Lib.decFrom
      rw [digitVal_of h10]
      simp [Lib.decFrom]
    · have hn : n / 10 < 10 ^ (f + 1) := by
        rw [Nat.div_lt_iff_lt_mul (by decide)]
        rw [Nat.pow_succ] at h
        exact h
      rw [dig_more h10, decFrom_append _ _ _ _ _ (decFrom_dig f _ hn) (digitVal_of (Nat.mod_lt _ (by decide)))]
      congr 1; omega
theorem dig_ne (f n : Nat) : dig (f + 1) n ≠ [] := by
  by_cases h10 : n < 10
  · rw [dig_one h10]; simp
  · rw [dig_more h10]; simp
theorem decNat_dig {f n : Nat} (h : n < 10 ^ (f + 1)) : Lib.decNat (dig (f + 1) n) = some n := by
  unfold Lib.decNat
  rw [if_neg (by simpa using dig_ne f n)]
  exact decFrom_dig f n h
theorem atoi_pos {f n : Nat} (h : n < 10 ^ (f + 1)) : Lib.atoi (dig (f + 1) n) = some (n : Int) := by
  cases hd : dig (f + 1) n with
  | nil => exact absurd hd (dig_ne f n)
  | cons b r =>
    have hb := dig_byte (f + 1) n b (by rw [hd]; exact List.mem_cons_self ..)
    have h1 : (b == 45) = false := beq_eq_false_iff_ne.2 fun e => by subst e; exact absurd hb.1 (by decide)
    have h2 : (b == 43) = false := beq_eq_false_iff_ne.2 fun e => by subst e; exact absurd hb.1 (by decide)
    show (if b == 45 then _ else if b == 43 then _ else (Lib.decNat (b :: r)).map fun (m : Nat) => (m : Int)) = _
    rw [h1, h2, ← hd, decNat_dig h]
    rfl
theorem atoi_neg {f n : Nat} (h : n < 10 ^ (f + 1)) : Lib.atoi (45 :: dig (f + 1) n) = some (-(n : Int)) := by
  have e : Lib.atoi (45 :: dig (f + 1) n) = (Lib.decNat (dig (f + 1) n)).map fun (m : Nat) => -(m : Int) := rfl
  rw [e, decNat_dig h]
  rfl
theorem itoa_pos {f n : Nat} (h : n < 10 ^ (f + 1)) : Lib.itoa (n : Int) = dig (f + 1) n := by
  unfold Lib.itoa
  rw [if_neg (by omega), dig_dec f n h]
  rfl
theorem itoa_neg {f n : Nat} (h : n < 10 ^ (f + 1)) (h0 : 1 ≤ n) : Lib.itoa (-(n : Int)) = 45 :: dig (f + 1) n := by
  unfold Lib.itoa
  rw [if_pos (by omega), dig_dec f n h]
  congr 2
  omega
end Go.Proofs.YtmbnogellhoheaaGreatDoor.Run

/- A law over one slice of bytes that draws a number of 16 bits: the names of its run. -/
namespace Go.Proofs.YtmbnogellhoheaaGreatDoor.Run
open Go Go.Proofs.YtmbnogellhoheaaGreatDoor.Ev Go.Proofs.YtmbnogellhoheaaGreatDoor
/-- The numbers: 1 the slice's length; 3 to 10 the number and its parts; from 11 on its digits' bytes. -/
def valQ (len : Nat) (z : Int) (u : Nat) (l : List UInt8) : Pos → Option Nat := fun id =>
  if id.val = 1 then some len else if id.val = 3 then some (z % 18446744073709551616).toNat else if id.val = 4 then some u else if id.val = 5 then some (u / 256) else if id.val = 6 then some (u % 256) else
  if id.val = 7 then some (u / 256) else if id.val = 8 then some (u % 256) else if id.val = 9 then some (u / 256 * 256) else if id.val = 10 then some ((z / 256) % 18446744073709551616).toNat else
  if 11 ≤ id.val ∧ id.val < 16 then some (l.getD (id.val - 11) 48).toNat else none
/-- The things: 0 and 2 tables; 1 the slice; 16 its block. -/
def fxQ (oT oP : Obj) (x : Value) (bl : Nat) (oC : Obj) : Pos → Option Fx := fun id =>
  if id.val = 0 then some (.ob 3 oT) else if id.val = 1 then some (.v x) else if id.val = 2 then some (.ob 7 oP) else if id.val = 16 then some (.ob bl oC) else none
def rhoOf (val : Pos → Option Nat) (fx : Pos → Option Fx) : Rho := fun id =>
  if id.val < 17 then some ⟨match fx id with | some (.ob r _) => r | _ => 3, 0, match val id with | some m => m | none => 256, 357 * 65536, match fx id with | some (.ob _ o) => some o | _ => none, match fx id with | some (.v x) => some x | _ => none⟩ else none
theorem rhoOf_at {val : Pos → Option Nat} {fx : Pos → Option Fx} {id : Pos} (h : id.val < 17) : rhoOf val fx id = some ⟨match fx id with | some (.ob r _) => r | _ => 3, 0, match val id with | some m => m | none => 256, 357 * 65536, match fx id with | some (.ob _ o) => some o | _ => none, match fx id with | some (.v x) => some x | _ => none⟩ := if_pos h
theorem gr_of {val : Pos → Option Nat} {fx : Pos → Option Fx} {bin : BinOp → V → V → Option V} {cvt : IntKind → V → Option V} {oT : Obj} (hT : fx .h = some (.ob 3 oT)) (hval : ∀ id m, val id = some m → id.val < 17) (hfx : ∀ id y, fx id = some y → id.val < 17)
    (hok : (GG val fx bin cvt).tab.OK) : GR (GG val fx bin cvt) (rhoOf val fx) := by
  refine ⟨fun g p e => ?_, fun id m e => ?_, fun id r o e => ?_, fun id y e => ?_, hok⟩
  · obtain ⟨rfl, rfl⟩ := glF_ok g p e
    exact ⟨by decide, _, rhoOf_at (by decide), by rw [hT], rfl⟩
  · have e : val id = some m := e
    have h := hval id m e
    exact ⟨by omega, _, rhoOf_at h, by rw [e]⟩
  · have e : fx id = some (.ob r o) := e
    have h := hfx id _ e
    exact ⟨by omega, _, rhoOf_at h, by rw [e], rfl, by rw [e]⟩
  · have e : fx id = some (.v y) := e
    have h := hfx id _ e
    exact ⟨by omega, _, rhoOf_at h, by rw [e]⟩
theorem valQ_lt {len : Nat} {z : Int} {u : Nat} {l : List UInt8} : ∀ id m, valQ len z u l id = some m → id.val < 17 := by
  intro id m h
  unfold valQ at h
  split at h
  · omega
  all_goals (first | omega | skip)
  repeat (first | (split at h <;> first | omega | skip))
  all_goals (first | omega | cases h)
theorem fxQ_lt {oT oP oC : Obj} {x : Value} {bl : Nat} : ∀ id y, fxQ oT oP x bl oC id = some y → id.val < 17 := by
  intro id y h
  unfold fxQ at h
  repeat (first | (split at h <;> first | omega | skip))
  all_goals (first | omega | cases h)
theorem fxQ_ob {W : World} {oT oP oC : Obj} {x : Value} {bl : Nat} (hT : W.heap[3]? = some oT) (hP : W.heap[7]? = some oP) (hC : W.heap[bl]? = some oC) : ∀ id r o, fxQ oT oP x bl oC id = some (.ob r o) → W.heap[r]? = some o := by
  intro id r o h
  unfold fxQ at h
  split at h
  · injection h with h; injection h with h1 h2; subst h1; subst h2; exact hT
  · split at h
    · injection h with h; cases h
    · split at h
      · injection h with h; injection h with h1 h2; subst h1; subst h2; exact hP
      · split at h
        · injection h with h; injection h with h1 h2; subst h1; subst h2; exact hC
        · cases h
theorem numV_Q (len : Nat) (z : Int) (u : Nat) (l : List UInt8) : NumV (valQ len z u l) z u := ⟨rfl, rfl, rfl, rfl, rfl, rfl, rfl, rfl⟩
theorem getD_lt {l : List UInt8} {i : Nat} (h : i < l.length) : l.getD i 48 = l[i] := by simp [List.getD, h]
theorem getD_ge {l : List UInt8} {i : Nat} (h : l.length ≤ i) : l.getD i 48 = 48 := by simp [List.getD, List.getElem?_eq_none h]
theorem digQ {len : Nat} {z : Int} {u : Nat} {l : List UInt8} (hl : ∀ b ∈ l, 48 ≤ b.toNat ∧ b.toNat ≤ 57) : ∀ id : Pos, 11 ≤ id.val → id.val < 16 → ∃ m, valQ len z u l id = some m ∧ 48 ≤ m ∧ m ≤ 57 := by
  intro id h1 h2
  refine ⟨(l.getD (id.val - 11) 48).toNat, ?_, ?_⟩
  · unfold valQ
    rw [if_neg (by omega), if_neg (by omega), if_neg (by omega), if_neg (by omega), if_neg (by omega), if_neg (by omega), if_neg (by omega), if_neg (by omega), if_neg (by omega), if_pos ⟨h1, h2⟩]
  · by_cases h : id.val - 11 < l.length
    · have : l.getD (id.val - 11) 48 ∈ l := by rw [getD_lt h]; exact List.getElem_mem h
      exact hl _ this
    · rw [getD_ge (by omega)]
      decide
/-- The run. -/
theorem run_Q {len : Nat} {z : Int} {u : Nat} {l : List UInt8} {bin : BinOp → V → V → Option V} {cvt : IntKind → V → Option V} {f : FuncId} {W : World} {oT oP oC : Obj} {bl : Nat} {a : Option Addr} {cap : Nat} (hT : W.heap[3]? = some oT) (hP : W.heap[7]? = some oP) (hC : W.heap[bl]? = some oC)
    (hlen : len ≤ 9223372036854775807) (hok : (GG (valQ len z u l) (fxQ oT oP (.slice a len cap) bl oC) bin cvt).tab.OK) (h : PureOk Tryz.prog (GG (valQ len z u l) (fxQ oT oP (.slice a len cap) bl oC) bin cvt) f [.a 1 (pb 1)] (.b true)) :
    Calls Tryz.prog f #[.slice a len cap] W fun e w' => e = .returned (.bool true) ∧ Kept W w' := by
  have h3 : 3 < W.heap.size := (Array.getElem?_eq_some_iff.1 hT).1
  have hob := fxQ_ob (x := .slice a len cap) hT hP hC
  refine run_true h (ρ := rhoOf (valQ len z u l) (fxQ oT oP (.slice a len cap) bl oC)) (gr_of (oT := oT) rfl valQ_lt fxQ_lt hok) ?_ (hr_start (fun id q e => ?_) fun id q o e he => ?_)
  · have hv : VR (rhoOf (valQ len z u l) (fxQ oT oP (.slice a len cap) bl oC)) (.a 1 (pb 1)) (.slice a len cap) :=
      ⟨_, rhoOf_at (id := pb 1) (by decide +kernel), rfl, hlen, fun y hy => by
        have hy : some (Value.slice a len cap) = some y := hy
        injection hy with hy; exact hy.symm⟩
    exact ⟨hv, trivial⟩
  · unfold rhoOf at e
    by_cases h0 : id.val < 17
    · rw [if_pos h0] at e; injection e with e; subst e
      refine ⟨by omega, ?_⟩
      show (match fxQ oT oP (.slice a len cap) bl oC id with | some (.ob r _) => r | _ => 3) < W.heap.size
      split
      · rename_i r o hh; exact (Array.getElem?_eq_some_iff.1 (hob _ _ _ hh)).1
      · exact h3
    · rw [if_neg h0] at e; cases e
  · unfold rhoOf at e
    by_cases h0 : id.val < 17
    · rw [if_pos h0] at e; injection e with e; subst e
      have he : (match fxQ oT oP (.slice a len cap) bl oC id with | some (.ob _ o) => some o | _ => none) = some o := he
      show W.heap[(match fxQ oT oP (.slice a len cap) bl oC id with | some (.ob r _) => r | _ => 3)]? = some o
      split at he
      · rename_i r o' hh
        injection he with he; subst he
        first | exact hob _ _ _ hh | (rw [hh]; exact hob _ _ _ hh)
      · cases he
    · rw [if_neg h0] at e; cases e
end Go.Proofs.YtmbnogellhoheaaGreatDoor.Run

/- A number's functions, taken as known: the number of two bytes, its text, and the number of a text. -/
namespace Go.Proofs.YtmbnogellhoheaaGreatDoor.Run
open Go Go.Proofs.YtmbnogellhoheaaGreatDoor.Ev Go.Proofs.YtmbnogellhoheaaGreatDoor Go.ChangeShapes Go.WideShapes Go.ChangeAt Go.RowKit
theorem two_args {P : Value → Value → Prop} {ρ : Rho} {v v' : V} {xs : Array Value} (hv : VRs ρ [v, v'] xs.toList) (h : ∀ x y, VR ρ v x → VR ρ v' y → P x y) : ∃ x y, xs = #[x, y] ∧ P x y := by
  match hx : xs.toList, hv with
  | [x, y], hv =>
    refine ⟨x, y, Array.ext' hx, h x y hv.1 hv.2.1⟩
  | [], hv => simp [VRs] at hv
  | [_], hv => simp [VRs] at hv
  | _ :: _ :: _ :: _, hv => simp [VRs] at hv
theorem one_arg {ρ : Rho} {v : V} {xs : Array Value} (hv : VRs ρ [v] xs.toList) : ∃ x, xs = #[x] ∧ VR ρ v x := by
  match hx : xs.toList, hv with
  | [x], hv => exact ⟨x, Array.ext' hx, hv.1⟩
  | [], hv => simp [VRs] at hv
  | _ :: _ :: _, hv => simp [VRs] at hv
theorem enters21 (args : Array Value) (w : World) : (callFunc 21 args).run Tryz.prog w = .ok (.enter 21 args) w := by
  have h1 : Tryz.f21.name ≠ "runtime.NumGoroutine" := by simpa using nm21
  obtain ⟨c, hc⟩ : ∃ c, Tryz.f21.body = some c := Option.isSome_iff_exists.1 (by kernel_rfl)
  simp [callFunc, Tryz.func21, h1, hc]
theorem cell_same {W w : World} {p : Addr} (h : w.heap[p.block]? = W.heap[p.block]?) : w.cell? p = W.cell? p := by unfold World.cell?; rw [h]
section
variable {len : Nat} {z : Int} {u : Nat} {l : List UInt8} {oT oP oC : Obj} {bl : Nat} {a : Option Addr} {cap : Nat} {bin : BinOp → V → V → Option V} {cvt : IntKind → V → Option V}
theorem short_ok {W : World} {b : Nat → Nat} (hb : ∀ i, b i < 256) (hlen : len ≤ 9223372036854775807) (hC : W.heap[bl]? = some oC) (hc : ∀ i, i < len → ∃ ad, a = some ad ∧ ad.block = bl ∧ W.cell? (ad.add i) = some (.int .u8 ((b i : Nat) : Int)))
    (hz : z = (acc b len 0 2 : Nat) - 32768) : PureOk Tryz.prog (GG (valQ len z u l) (fxQ oT oP (.slice a len cap) bl oC) bin cvt) 21 [.a 1 (pb 1), .n 0] vN := by
  intro ρ xs nx bs w hg hv hh
  obtain ⟨x, y, rfl, h1, h2⟩ := two_args (P := fun x y => VR ρ (.a 1 (pb 1)) x ∧ VR ρ (.n 0) y) hv fun x y h h' => ⟨h, h'⟩
  obtain ⟨-, q, hq, hqv⟩ := hg.fxv (pb 1) (.slice a len cap) rfl
  obtain ⟨q', hq', hat⟩ := h1.a
  rw [hq] at hq'; injection hq' with hq'; subst hq'
  have hx : x = .slice a len cap := by
    unfold AtR at hat
    split at hat
    · rename_i he; cases he
    · exact (hat.2.2 _ hqv).symm
    · rename_i he; cases he
    · rename_i he; omega
    · exact hat.elim
  subst hx
  obtain ⟨-, rfl⟩ := h2.n
  obtain ⟨hlo, q2, hq2, hr, -, hob⟩ := hg.fxo (pb 16) bl oC rfl
  have hw : w.heap[bl]? = some oC := by
    have := (hh.fix (pb 16) q2 oC hlo hq2 hob).1
    rwa [hr] at this
  obtain ⟨-, q3, hq3, hn3⟩ := hg.val (pb 3) _ (numV_Q len z u l).fn
  have hN : VR ρ vN (.int .i64 z) := (iN (numV_Q len z u l) (by
    have := acc_lt hb len 0 2
    omega)).2 ρ hg.valR
  refine ⟨enters21 _ w, (swShort_ok b hb 0 (by omega) a len cap hlen w fun i hi => ?_).mono ?_⟩
  · obtain ⟨ad, h3, h4, h5⟩ := hc i hi
    exact ⟨ad, h3, by rw [cell_same (W := W)]; exact h5; rw [block_add, h4, hw, hC]⟩
  · rintro e w' ⟨rfl, rfl⟩
    exact ⟨_, rfl, by rw [← hz]; exact hN, Kept.refl _⟩
end
/-! ### the digits' bytes -/
noncomputable def dgs (k : Nat) : List V := [V.a 2 (pb 11), V.a 2 (pb 12), V.a 2 (pb 13), V.a 2 (pb 14), V.a 2 (pb 15)].take k
theorem dgs_at {k i : Nat} {c : V} (h : (dgs k)[i]? = some c) : i < k ∧ i < 5 ∧ c = .a 2 (pb (11 + i)) := by
  unfold dgs at h
  rw [List.getElem?_take] at h
  split at h
  · rename_i hk
    match i, h with
    | 0, h => injection h with h; exact ⟨hk, by omega, h.symm⟩
    | 1, h => injection h with h; exact ⟨hk, by omega, h.symm⟩
    | 2, h => injection h with h; exact ⟨hk, by omega, h.symm⟩
    | 3, h => injection h with h; exact ⟨hk, by omega, h.symm⟩
    | 4, h => injection h with h; exact ⟨hk, by omega, h.symm⟩
    | i + 5, h => simp at h
  · cases h
theorem dgs_len {k : Nat} (h : k ≤ 5) : (dgs k).length = k := by unfold dgs; rw [List.length_take]; simp only [List.length_cons, List.length_nil]; omega
theorem pb_val : ∀ i, i < 5 → (pb (11 + i)).val = 11 + i
  | 0, _ => by decide +kernel
  | 1, _ => by decide +kernel
  | 2, _ => by decide +kernel
  | 3, _ => by decide +kernel
  | 4, _ => by decide +kernel
  | i + 5, h => absurd h (by omega)
section
variable {len : Nat} {z : Int} {u : Nat} {l : List UInt8}
theorem valQ_dig {i : Nat} (h : i < 5) : valQ len z u l (pb (11 + i)) = some (l.getD i 48).toNat := by
  have hv := pb_val i h
  unfold valQ
  rw [if_neg (by omega), if_neg (by omega), if_neg (by omega), if_neg (by omega), if_neg (by omega), if_neg (by omega), if_neg (by omega), if_neg (by omega), if_neg (by omega), if_pos (by omega), hv, Nat.add_sub_cancel_left]
theorem dg_iv {i : Nat} (h : i < 5) (hl : i < l.length) : IV (valQ len z u l) (.a 2 (pb (11 + i))) .u8 ((l[i].toNat : Nat) : Int) := by
  have := valQ_dig (len := len) (z := z) (u := u) (l := l) h
  rw [getD_lt hl] at this
  exact IV.a2 this l[i].toNat_lt
theorem dgs_vr {ρ : Rho} (hr : ValR (valQ len z u l) ρ) (h : l.length ≤ 5) : VRs ρ (dgs l.length) (l.map byteVal) := by
  refine VRs.mk (by rw [dgs_len h, List.length_map]) fun i c x hc hx => ?_
  obtain ⟨h1, h2, rfl⟩ := dgs_at hc
  rw [List.getElem?_map, List.getElem?_eq_getElem h1] at hx
  injection hx with hx; subst hx
  exact (dg_iv h2 h1).2 ρ hr
theorem dgs_inv {ρ : Rho} (hr : ValR (valQ len z u l) ρ) (h : l.length ≤ 5) {bs : List UInt8} (hv : VRs ρ (dgs l.length) (bs.map byteVal)) : bs = l := by
  have hlen : bs.length = l.length := by have := hv.length; rw [dgs_len h, List.length_map] at this; exact this.symm
  refine List.ext_getElem hlen fun i h1 h2 => ?_
  have hc : (dgs l.length)[i]? = some (.a 2 (pb (11 + i))) := by
    have hi : i < (dgs l.length).length := by rw [dgs_len h]; exact h2
    obtain ⟨_, _, e⟩ := dgs_at (List.getElem?_eq_getElem hi)
    rw [List.getElem?_eq_getElem hi, e]
  obtain ⟨x, hx, hvx⟩ := hv.get i _ hc
  rw [List.getElem?_map, List.getElem?_eq_getElem h1] at hx
  injection hx with hx; subst hx
  have := (dg_iv (len := len) (z := z) (u := u) (by omega) h2).1 ρ hr _ hvx
  have : Value.int .u8 ((bs[i].toNat : Nat) : Int) = .int .u8 ((l[i].toNat : Nat) : Int) := this
  injection this with _ this
  exact UInt8.toNat.inj (by omega)
theorem str_w {ρ : Rho} {cs : List V} {bs : List UInt8} (h : VRs ρ cs (bs.map byteVal)) : VR ρ (.w cs) (.string ⟨bs.toArray⟩) := by
  unfold VR
  simpa using h
theorem w_str {ρ : Rho} {cs : List V} {x : Value} (h : VR ρ (.w cs) x) : ∃ s : ByteArray, x = .string s ∧ VRs ρ cs (s.data.toList.map byteVal) := by
  cases x with
  | string s => exact ⟨s, rfl, by unfold VR at h; exact h⟩
  | _ => simp [VR] at h
variable {fx : Pos → Option Fx} {bin : BinOp → V → V → Option V} {cvt : IntKind → V → Option V}
theorem vr_minus {ρ : Rho} : VR ρ (.y 45) (byteVal 45) := by unfold VR byteVal; exact ⟨rfl, by decide, rfl⟩
theorem dig5_len {n : Nat} (hl : l = dig 5 n) : l.length ≤ 5 := by rw [hl]; exact dig_len 5 n
theorem num_pos {n : Nat} (hn : n < 32768) (hz : z = n) (hl : l = dig 5 n) : PureOk Tryz.prog (GG (valQ len z u l) fx bin cvt) 19 [vN] (.w (dgs l.length)) := by
  intro ρ xs nx bs w hg hv _
  obtain ⟨x, rfl, hx⟩ := one_arg hv
  have hx := (iN (numV_Q len z u l) (by omega)).1 ρ hg.valR x hx
  rw [hx, hz]
  refine ⟨enters19 _ w, (swNum_ok 4 n w (by omega) (by omega)).mono ?_⟩
  rintro e w' ⟨rfl, hk⟩
  refine ⟨_, rfl, str_w ?_, hk⟩
  rw [← hl]
  exact dgs_vr hg.valR (dig5_len hl)
theorem num_neg {n : Nat} (h0 : 1 ≤ n) (hn : n ≤ 32768) (hz : z = -(n : Int)) (hl : l = dig 5 n) : PureOk Tryz.prog (GG (valQ len z u l) fx bin cvt) 19 [vN] (.w (.y 45 :: dgs l.length)) := by
  intro ρ xs nx bs w hg hv _
  obtain ⟨x, rfl, hx⟩ := one_arg hv
  have hx := (iN (numV_Q len z u l) (by omega)).1 ρ hg.valR x hx
  rw [hx, hz]
  refine ⟨enters19 _ w, (swNum_neg 4 n w (by omega) (by omega) h0).mono ?_⟩
  rintro e w' ⟨rfl, hk⟩
  refine ⟨_, rfl, str_w ?_, hk⟩
  rw [← hl]
  exact ⟨vr_minus, dgs_vr hg.valR (dig5_len hl)⟩
end
end Go.Proofs.YtmbnogellhoheaaGreatDoor.Run
