/- Bytes, bools, division, bits, conversions, lengths, places. -/
import Derived.Test.YtnhgchnhfdimiaaGreatDoorEvD
namespace Go.Proofs.YtnhgchnhfdimiaaGreatDoor.Ev
open Go

/-! ### bytes -/
noncomputable def eqlY (x y : V) : Option V := asY x none fun a => asY y none fun b => some (.b (Nat.beq a b))
noncomputable def neqY (x y : V) : Option V := asY x none fun a => asY y none fun b => some (.b (not (Nat.beq a b)))
noncomputable def lssY (x y : V) : Option V := asY x none fun a => asY y none fun b => some (.b (Nat.ble (Nat.succ a) b))
noncomputable def leqY (x y : V) : Option V := asY x none fun a => asY y none fun b => some (.b (Nat.ble a b))
noncomputable def gtrY (x y : V) : Option V := asY x none fun a => asY y none fun b => some (.b (Nat.ble (Nat.succ b) a))
noncomputable def geqY (x y : V) : Option V := asY x none fun a => asY y none fun b => some (.b (Nat.ble b a))
noncomputable def addY (x y : V) : Option V := asY x none fun a => asY y none fun b => some (.y (Nat.mod (Nat.add a b) 256))
noncomputable def subY (x y : V) : Option V := asY x none fun a => asY y none fun b => some (.y (Nat.mod (Nat.sub (Nat.add a 256) b) 256))
theorem byte_two {P : Program} {f : Nat → Nat → V} {op : BinOp} {t : TypeId} {ox oy : Operand} {g : Int → Int → Value}
    (hop : ∀ a b, binOp op t (.int .u8 a) (.int .u8 b) = pure (g a b))
    (h : ∀ (ρ : Rho) (a b : Nat), a < 256 → b < 256 → VR ρ (f a b) (g a b)) :
    Snd2 P (fun x y => asY x none fun a => asY y none fun b => some (f a b)) (cbin op t ox oy) := by
  intro ρ v v' x x' r w hv hv' hf
  obtain ⟨a, ea, h1⟩ := asY_some hf
  obtain ⟨b, eb, h2⟩ := asY_some h1
  subst ea; subst eb
  obtain ⟨ha, rfl⟩ := hv.y
  obtain ⟨hb, rfl⟩ := hv'.y
  have hr : f a b = r := Option.some.inj h2
  subst hr
  refine ⟨g a b, ?_, h ρ a b ha hb⟩
  unfold cbin
  rw [Sem.run_bind, eqGuard_int, Result.andThen_ok, hop]
  rfl
theorem snd_eqlY (P : Program) (t : TypeId) (ox oy : Operand) : Snd2 P eqlY (cbin .eql t ox oy) :=
  byte_two (g := fun a b => .bool (a == b)) (fun a b => rfl) fun ρ a b ha hb => VR_b (by
    by_cases e : a = b
    · rw [beq_yes e]; subst e; simp
    · rw [beq_no e]; symm; rw [beq_eq_false_iff_ne]; omega)
theorem snd_neqY (P : Program) (t : TypeId) (ox oy : Operand) : Snd2 P neqY (cbin .neq t ox oy) :=
  byte_two (g := fun a b => .bool (a != b)) (fun a b => rfl) fun ρ a b ha hb => VR_b (by
    by_cases e : a = b
    · rw [beq_yes e]; subst e; simp
    · rw [beq_no e]; symm; rw [Bool.not_false, bne_iff_ne]; omega)
theorem snd_lssY (P : Program) (t : TypeId) (ox oy : Operand) : Snd2 P lssY (cbin .lss t ox oy) :=
  byte_two (g := fun a b => .bool (decide (a < b))) (fun a b => rfl) fun ρ a b ha hb => VR_b (by rw [ble_eq]; apply decide_eq_decide.2; omega)
theorem snd_leqY (P : Program) (t : TypeId) (ox oy : Operand) : Snd2 P leqY (cbin .leq t ox oy) :=
  byte_two (g := fun a b => .bool (decide (a ≤ b))) (fun a b => rfl) fun ρ a b ha hb => VR_b (by rw [ble_eq]; apply decide_eq_decide.2; omega)
theorem snd_gtrY (P : Program) (t : TypeId) (ox oy : Operand) : Snd2 P gtrY (cbin .gtr t ox oy) :=
  byte_two (g := fun a b => .bool (decide (a > b))) (fun a b => rfl) fun ρ a b ha hb => VR_b (by rw [ble_eq]; apply decide_eq_decide.2; omega)
theorem snd_geqY (P : Program) (t : TypeId) (ox oy : Operand) : Snd2 P geqY (cbin .geq t ox oy) :=
  byte_two (g := fun a b => .bool (decide (a ≥ b))) (fun a b => rfl) fun ρ a b ha hb => VR_b (by rw [ble_eq]; apply decide_eq_decide.2; omega)
theorem VR_y_of {ρ : Rho} {m : Nat} {z : Int} (h : m < 256) (hz : z = m) : VR ρ (.y m) (.int .u8 z) := by subst hz; exact VR_y h
theorem snd_addY (P : Program) (t : TypeId) (ox oy : Operand) : Snd2 P addY (cbin .add t ox oy) :=
  byte_two (g := fun a b => .int .u8 (IntKind.u8.wrap (a + b))) (fun a b => rfl) fun ρ a b ha hb => by
    refine VR_y_of (Nat.mod_lt _ (by omega)) ?_
    rw [IntKind.wrap_u8]; show _ = (((a + b) % 256 : Nat) : Int); omega
theorem snd_subY (P : Program) (t : TypeId) (ox oy : Operand) : Snd2 P subY (cbin .sub t ox oy) :=
  byte_two (g := fun a b => .int .u8 (IntKind.u8.wrap (a - b))) (fun a b => rfl) fun ρ a b ha hb => by
    refine VR_y_of (Nat.mod_lt _ (by omega)) ?_
    rw [IntKind.wrap_u8]; show _ = (((a + 256 - b) % 256 : Nat) : Int); omega

/-! ### bools -/
noncomputable def notB (x : V) : Option V := asB x none fun a => some (.b (not a))
noncomputable def neqB (x y : V) : Option V := asB x none fun a => asB y none fun b => some (.b (Bool.rec b (not b) a))
noncomputable def eqlB (x y : V) : Option V := asB x none fun a => asB y none fun b => some (.b (Bool.rec (not b) b a))
theorem snd_notB (P : Program) : Snd1 P notB (Op.unary .not) := by
  intro ρ v x r w hv hf
  obtain ⟨a, ea, h1⟩ := asB_some hf
  subst ea
  have := hv.b; subst this
  injection h1 with h1; subst h1
  exact ⟨_, rfl, VR_b rfl⟩
theorem run_underlying (P : Program) (w : World) {t : TypeId} {d : TypeDesc} (h : P.underlying t = some d) : (underlying t).run P w = .ok d w := by
  unfold underlying; simp [h]
theorem snd_eqlB (P : Program) (t : TypeId) (ox oy : Operand) (hu : P.underlying t = some .bool) : Snd2 P eqlB (cbin .eql t ox oy) := by
  intro ρ v v' x x' r w hv hv' hf
  obtain ⟨a, ea, h1⟩ := asB_some hf
  obtain ⟨b, eb, h2⟩ := asB_some h1
  subst ea; subst eb
  have := hv.b; subst this
  have := hv'.b; subst this
  injection h2 with h2; subst h2
  refine ⟨.bool (a == b), ?_, VR_b (by cases a <;> cases b <;> rfl)⟩
  unfold cbin
  rw [Sem.run_bind, eqGuard_bool, Result.andThen_ok]
  show ((do pure (.bool (← Op.equal t (.bool a) (.bool b))) : Sem Value)).run P w = _
  unfold Op.equal Op.maxDepth Op.equalIn
  simp [run_underlying P w hu]
theorem snd_neqB (P : Program) (t : TypeId) (ox oy : Operand) (hu : P.underlying t = some .bool) : Snd2 P neqB (cbin .neq t ox oy) := by
  intro ρ v v' x x' r w hv hv' hf
  obtain ⟨a, ea, h1⟩ := asB_some hf
  obtain ⟨b, eb, h2⟩ := asB_some h1
  subst ea; subst eb
  have := hv.b; subst this
  have := hv'.b; subst this
  injection h2 with h2; subst h2
  refine ⟨.bool (!(a == b)), ?_, VR_b (by cases a <;> cases b <;> rfl)⟩
  unfold cbin
  rw [Sem.run_bind, eqGuard_bool, Result.andThen_ok]
  show ((do pure (.bool (!(← Op.equal t (.bool a) (.bool b)))) : Sem Value)).run P w = _
  unfold Op.equal Op.maxDepth Op.equalIn
  simp [run_underlying P w hu]

/-! ### division, bits -/
noncomputable def mag (a : Nat) : Nat := cond (Nat.ble 9223372036854775808 a) (Nat.sub 18446744073709551616 a) a
noncomputable def quoN (x y : V) : Option V := asN x none fun a => asN y none fun b => cond (Nat.beq b 0) none
  (some (.n (cond (Bool.rec (Nat.ble 9223372036854775808 b) (not (Nat.ble 9223372036854775808 b)) (Nat.ble 9223372036854775808 a))
    (Nat.mod (Nat.sub 18446744073709551616 (Nat.div (mag a) (mag b))) 18446744073709551616) (Nat.mod (Nat.div (mag a) (mag b)) 18446744073709551616))))
noncomputable def remN (x y : V) : Option V := asN x none fun a => asN y none fun b => cond (Nat.beq b 0) none
  (some (.n (cond (Nat.ble 9223372036854775808 a) (Nat.mod (Nat.sub 18446744073709551616 (Nat.mod (mag a) (mag b))) 18446744073709551616) (Nat.mod (mag a) (mag b)))))
theorem mag_eq (a : Nat) (h : a < 18446744073709551616) : mag a ≤ 9223372036854775808 ∧ ((9223372036854775808 ≤ a ∧ IntKind.i64.wrap (a : Int) = -(mag a : Int) ∧ 0 < mag a) ∨ (a < 9223372036854775808 ∧ IntKind.i64.wrap (a : Int) = mag a)) := by
  unfold mag
  rw [wrap_n a h, ble_eq]
  by_cases h1 : 9223372036854775808 ≤ a
  · rw [decide_eq_true h1]
    show Nat.sub 18446744073709551616 a ≤ _ ∧ _
    have e : Nat.sub 18446744073709551616 a = 18446744073709551616 - a := rfl
    rw [cond_true, e, if_neg (by omega)]
    exact ⟨by omega, .inl ⟨h1, by omega, by omega⟩⟩
  · rw [decide_eq_false h1, cond_false, if_pos (by omega)]
    exact ⟨by omega, .inr ⟨by omega, rfl⟩⟩
theorem wrap_neg_zero (b : Nat) (h : b < 18446744073709551616) : IntKind.i64.wrap (b : Int) = 0 ↔ b = 0 := by
  rw [wrap_n b h]; split <;> omega
theorem snd_quoN (P : Program) (t : TypeId) (ox oy : Operand) : Snd2 P quoN (cbin .quo t ox oy) := by
  intro ρ v v' x x' r w hv hv' hf
  obtain ⟨a, ea, h1⟩ := asN_some hf
  obtain ⟨b, eb, h2⟩ := asN_some h1
  subst ea; subst eb
  obtain ⟨ha, rfl⟩ := hv.n
  obtain ⟨hb, rfl⟩ := hv'.n
  by_cases hb0 : b = 0
  · subst hb0; simp [Nat.beq] at h2
  rw [beq_no hb0, cond_false] at h2
  injection h2 with h2; subst h2
  refine ⟨.int .i64 (IntKind.i64.wrap ((IntKind.i64.wrap a).tdiv (IntKind.i64.wrap b))), ?_, ?_⟩
  · unfold cbin
    rw [Sem.run_bind, eqGuard_int, Result.andThen_ok]
    show (Op.intDiv .quo .i64 _ _).run P w = _
    unfold Op.intDiv
    rw [if_neg (fun h => hb0 ((wrap_neg_zero b hb).1 h))]
    rfl
  · obtain ⟨hma, hA⟩ := mag_eq a ha
    obtain ⟨hmb, hB⟩ := mag_eq b hb
    have hq : mag a / mag b ≤ mag a := Nat.div_le_self _ _
    have e0 : ((mag a : Int)).tdiv (mag b) = ((mag a / mag b : Nat) : Int) := by simp
    have eq1 : Nat.div (mag a) (mag b) = mag a / mag b := rfl
    rw [eq1, ble_eq, ble_eq]
    rcases hA with ⟨h1, e1, _⟩ | ⟨h1, e1⟩ <;> rcases hB with ⟨h2, e2, _⟩ | ⟨h2, e2⟩ <;> rw [e1, e2]
    · rw [decide_eq_true h1, decide_eq_true h2, Int.neg_tdiv, Int.tdiv_neg, e0]
      refine VR_n_of (Nat.mod_lt _ (by omega)) ?_
      show _ = IntKind.i64.wrap (((mag a / mag b) % 18446744073709551616 : Nat) : Int)
      generalize mag a / mag b = q at *
      rw [IntKind.wrap_i64, IntKind.wrap_i64]; omega
    · rw [decide_eq_true h1, decide_eq_false (p := 9223372036854775808 ≤ b) (by omega), Int.neg_tdiv, e0]
      refine VR_n_of (Nat.mod_lt _ (by omega)) ?_
      show _ = IntKind.i64.wrap (((18446744073709551616 - mag a / mag b) % 18446744073709551616 : Nat) : Int)
      generalize mag a / mag b = q at *
      rw [IntKind.wrap_i64, IntKind.wrap_i64]; omega
    · rw [decide_eq_false (p := 9223372036854775808 ≤ a) (by omega), decide_eq_true h2, Int.tdiv_neg, e0]
      refine VR_n_of (Nat.mod_lt _ (by omega)) ?_
      show _ = IntKind.i64.wrap (((18446744073709551616 - mag a / mag b) % 18446744073709551616 : Nat) : Int)
      generalize mag a / mag b = q at *
      rw [IntKind.wrap_i64, IntKind.wrap_i64]; omega
    · rw [decide_eq_false (p := 9223372036854775808 ≤ a) (by omega), decide_eq_false (p := 9223372036854775808 ≤ b) (by omega), e0]
      refine VR_n_of (Nat.mod_lt _ (by omega)) ?_
      show _ = IntKind.i64.wrap (((mag a / mag b) % 18446744073709551616 : Nat) : Int)
      generalize mag a / mag b = q at *
      rw [IntKind.wrap_i64, IntKind.wrap_i64]; omega
theorem snd_remN (P : Program) (t : TypeId) (ox oy : Operand) : Snd2 P remN (cbin .rem t ox oy) := by
  intro ρ v v' x x' r w hv hv' hf
  obtain ⟨a, ea, h1⟩ := asN_some hf
  obtain ⟨b, eb, h2⟩ := asN_some h1
  subst ea; subst eb
  obtain ⟨ha, rfl⟩ := hv.n
  obtain ⟨hb, rfl⟩ := hv'.n
  by_cases hb0 : b = 0
  · subst hb0; simp [Nat.beq] at h2
  rw [beq_no hb0, cond_false] at h2
  injection h2 with h2; subst h2
  refine ⟨.int .i64 ((IntKind.i64.wrap a).tmod (IntKind.i64.wrap b)), ?_, ?_⟩
  · unfold cbin
    rw [Sem.run_bind, eqGuard_int, Result.andThen_ok]
    show (Op.intDiv .rem .i64 _ _).run P w = _
    unfold Op.intDiv
    rw [if_neg (fun h => hb0 ((wrap_neg_zero b hb).1 h))]
    rfl
  · obtain ⟨hma, hA⟩ := mag_eq a ha
    obtain ⟨hmb, hB⟩ := mag_eq b hb
    have hq : mag a % mag b ≤ mag a := Nat.mod_le _ _
    have e0 : ((mag a : Int)).tmod (mag b) = ((mag a % mag b : Nat) : Int) := (Int.ofNat_tmod _ _).symm
    have eq1 : Nat.mod (mag a) (mag b) = mag a % mag b := rfl
    have e3 : (IntKind.i64.wrap (a : Int)).tmod (IntKind.i64.wrap b) = (IntKind.i64.wrap (a : Int)).tmod (mag b) := by
      rcases hB with ⟨h2, e2, _⟩ | ⟨h2, e2⟩ <;> rw [e2]
      rw [Int.tmod_neg]
    rw [e3, eq1, ble_eq]
    rcases hA with ⟨h1, e1, _⟩ | ⟨h1, e1⟩ <;> rw [e1]
    · rw [decide_eq_true h1, Int.neg_tmod, e0, cond_true]
      refine VR_n_of (Nat.mod_lt _ (by omega)) ?_
      show _ = IntKind.i64.wrap (((18446744073709551616 - mag a % mag b) % 18446744073709551616 : Nat) : Int)
      generalize mag a % mag b = q at *
      rw [IntKind.wrap_i64]; omega
    · rw [decide_eq_false (p := 9223372036854775808 ≤ a) (by omega), e0, cond_false]
      rw [wrap_n a ha, if_pos h1] at e1
      generalize mag a % mag b = q at *
      refine VR_n_of (by omega) ?_
      rw [wrap_n q (by omega), if_pos (by omega)]

noncomputable def andN (x y : V) : Option V := asN x none fun a => asN y none fun b => some (.n (Nat.land a b))
theorem ofInt_n (a : Nat) (h : a < 18446744073709551616) : (BitVec.ofInt 64 (IntKind.i64.wrap (a : Int))).toNat = a := by
  rw [BitVec.toNat_ofInt, wrap_n a h]
  show (_ % ((18446744073709551616 : Nat) : Int)).toNat = a
  split <;> omega
theorem snd_andN (P : Program) (t : TypeId) (ox oy : Operand) : Snd2 P andN (cbin .and t ox oy) :=
  int_two (g := fun a b => .int .i64 (IntKind.i64.wrap ((BitVec.ofInt 64 a &&& BitVec.ofInt 64 b).toNat : Int))) (fun a b => rfl) fun ρ a b ha hb => by
    rw [BitVec.toNat_and, ofInt_n a ha, ofInt_n b hb]
    exact VR_n (Nat.and_lt_two_pow (n := 64) a hb)

noncomputable def shrV (a b : Nat) : V := .n (cond (Nat.ble 9223372036854775808 a) (Nat.sub 18446744073709551616 (Nat.succ (Nat.div (Nat.sub 18446744073709551615 a) (Nat.pow 2 b)))) (Nat.div a (Nat.pow 2 b)))
noncomputable def shrN (x y : V) : Option V := asN x none fun a => asN y none fun b => cond (Nat.ble b 63) (some (shrV a b)) none
noncomputable def shrK (x y : V) : Option V := asN x none fun a => asK y none fun _ b => cond (Nat.ble b 63) (some (shrV a b)) none
theorem shr_core (P : Program) (t : TypeId) (ox oy : Operand) (ρ : Rho) (w : World) (yk : IntKind) {a b : Nat} (ha : a < 18446744073709551616) (hb2 : b ≤ 63) :
    ∃ y, (cbin .shr t ox oy (.int .i64 (IntKind.i64.wrap a)) (.int yk (b : Int))).run P w = .ok y w ∧ VR ρ (shrV a b) y := by
  refine ⟨.int .i64 ((IntKind.i64.wrap a).fdiv (2 ^ b)), ?_, ?_⟩
  · unfold cbin
    rw [Sem.run_bind, eqGuard_int, Result.andThen_ok]
    show (Op.shift .shr .i64 _ yk (b : Int)).run P w = _
    unfold Op.shift
    rw [if_neg (by omega)]
    have : min (b : Int).toNat IntKind.i64.bits = b := by show min (b : Int).toNat 64 = b; omega
    simp only [this]; rfl
  · unfold shrV
    have hp : 0 < 2 ^ b := Nat.two_pow_pos b
    have e1 : Nat.pow 2 b = 2 ^ b := rfl
    have e2 : ((2 : Int) ^ b) = ((2 ^ b : Nat) : Int) := by simp
    rw [wrap_n a ha, ble_eq, e1, e2]
    generalize 2 ^ b = d at *
    by_cases h1 : 9223372036854775808 ≤ a
    · rw [decide_eq_true h1, if_neg (by omega), cond_true]
      have e3 : ((a : Int) - 18446744073709551616).fdiv d = -(((18446744073709551615 - a) / d + 1 : Nat) : Int) := by
        rw [Int.fdiv_eq_ediv_of_nonneg _ (by omega)]
        have hx : (a : Int) - 18446744073709551616 = Int.negSucc (18446744073709551615 - a) := by omega
        rw [hx, Int.negSucc_ediv _ (by omega)]
        have e4 : Int.ediv ((18446744073709551615 - a : Nat) : Int) (d : Int) = (((18446744073709551615 - a) / d : Nat) : Int) := rfl
        rw [e4]; omega
      rw [e3]
      have eq2 : Nat.sub 18446744073709551616 (Nat.succ (Nat.div (Nat.sub 18446744073709551615 a) d)) = 18446744073709551616 - ((18446744073709551615 - a) / d + 1) := rfl
      have hd : (18446744073709551615 - a) / d ≤ 18446744073709551615 - a := Nat.div_le_self _ _
      rw [eq2]
      generalize (18446744073709551615 - a) / d = q at *
      refine VR_n_of (by omega) ?_
      rw [wrap_n _ (by omega), if_neg (by omega)]; omega
    · rw [decide_eq_false h1, if_pos (by omega), cond_false]
      have e3 : (a : Int).fdiv d = ((a / d : Nat) : Int) := by rw [Int.fdiv_eq_ediv_of_nonneg _ (by omega)]; simp
      rw [e3]
      have hd : a / d ≤ a := Nat.div_le_self _ _
      have eq1 : Nat.div a d = a / d := rfl
      rw [eq1]
      refine VR_n_of (by omega) ?_
      rw [wrap_n _ (by omega), if_pos (by omega)]

theorem snd_shrN (P : Program) (t : TypeId) (ox oy : Operand) : Snd2 P shrN (cbin .shr t ox oy) := by
  intro ρ v v' x x' r w hv hv' hf
  obtain ⟨a, ea, h1⟩ := asN_some hf
  obtain ⟨b, eb, h2⟩ := asN_some h1
  subst ea; subst eb
  obtain ⟨ha, rfl⟩ := hv.n
  obtain ⟨hb, rfl⟩ := hv'.n
  obtain ⟨hb1, h3⟩ := cond_some h2
  have hb2 : b ≤ 63 := Nat.le_of_ble_eq_true hb1
  injection h3 with h3; subst h3
  have eb : IntKind.i64.wrap (b : Int) = b := by rw [wrap_n b hb, if_pos (by omega)]
  rw [eb]
  exact shr_core P t ox oy ρ w .i64 ha hb2
theorem wrap_small (k : IntKind) {b : Nat} (h : b ≤ 63) : k.wrap (b : Int) = b := by
  have h64 : (b : Int) % 18446744073709551616 = b := by omega
  cases k <;> simp [IntKind.wrap, IntKind.signed, IntKind.bits] <;> omega
theorem snd_shrK (P : Program) (t : TypeId) (ox oy : Operand) : Snd2 P shrK (cbin .shr t ox oy) := by
  intro ρ v v' x x' r w hv hv' hf
  obtain ⟨a, ea, h1⟩ := asN_some hf
  obtain ⟨k, b, eb, h2⟩ := asK_some h1
  subst ea; subst eb
  obtain ⟨ha, rfl⟩ := hv.n
  obtain ⟨hb, rfl⟩ := hv'.k
  obtain ⟨hb1, h3⟩ := cond_some h2
  have hb2 : b ≤ 63 := Nat.le_of_ble_eq_true hb1
  injection h3 with h3; subst h3
  rw [wrap_small k hb2]
  exact shr_core P t ox oy ρ w k ha hb2

/-! ### further bits -/
noncomputable def orN (x y : V) : Option V := asN x none fun a => asN y none fun b => some (.n (Nat.lor a b))
theorem snd_orN (P : Program) (t : TypeId) (ox oy : Operand) : Snd2 P orN (cbin .or t ox oy) :=
  int_two (g := fun a b => .int .i64 (IntKind.i64.wrap ((BitVec.ofInt 64 a ||| BitVec.ofInt 64 b).toNat : Int))) (fun a b => rfl) fun ρ a b ha hb => by
    rw [BitVec.toNat_or, ofInt_n a ha, ofInt_n b hb]
    exact VR_n (Nat.or_lt_two_pow (n := 64) ha hb)
noncomputable def xorN (x y : V) : Option V := asN x none fun a => asN y none fun b => some (.n (Nat.xor a b))
theorem snd_xorN (P : Program) (t : TypeId) (ox oy : Operand) : Snd2 P xorN (cbin .xor t ox oy) :=
  int_two (g := fun a b => .int .i64 (IntKind.i64.wrap ((BitVec.ofInt 64 a ^^^ BitVec.ofInt 64 b).toNat : Int))) (fun a b => rfl) fun ρ a b ha hb => by
    rw [BitVec.toNat_xor, ofInt_n a ha, ofInt_n b hb]
    exact VR_n (Nat.xor_lt_two_pow (n := 64) ha hb)
noncomputable def orY (x y : V) : Option V := asY x none fun a => asY y none fun b => some (.y (Nat.lor a b))
noncomputable def invN (x : V) : Option V := asN x none fun a => some (.n (Nat.sub 18446744073709551615 a))

end Go.Proofs.YtnhgchnhfdimiaaGreatDoor.Ev
