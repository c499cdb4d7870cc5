/- Bytes, bools, division, bits, conversions, lengths, places. -/
import Derived.Test.YtmbnogellhoheaaGreatDoorEvA
import Derived.Laws.StructEq
namespace Go.Proofs.YtmbnogellhoheaaGreatDoor.Ev
open Go

/-! ### bytes -/
noncomputable def eqlY (x y : V) : Option V := asY x none fun a => asY y none fun b => some (.b (Nat.beq a b))
noncomputable def neqY (x y : V) : Option V := asY x none fun a => asY y none fun b => some (.b (not (Nat.beq a b)))
noncomputable def lssY (x y : V) : Option V := asY x none fun a => asY y none fun b => some (.b (Nat.ble (Nat.succ a) b))
noncomputable def leqY (x y : V) : Option V := asY x none fun a => asY y none fun b => some (.b (Nat.ble a b))
noncomputable def gtrY (x y : V) : Option V := asY x none fun a => asY y none fun b => some (.b (Nat.ble (Nat.succ b) a))
noncomputable def geqY (x y : V) : Option V := asY x none fun a => asY y none fun b => some (.b (Nat.ble b a))
noncomputable def addY (x y : V) : Option V := asY x none fun a => asY y none fun b => some (.y (Nat.mod (Nat.add a b) 256))
noncomputable def subY (x y : V) : Option V := asY x none fun a => asY y none fun b => some (.y (Nat.mod (Nat.sub (Nat.add a 256) b) 256))
theorem byte_two {P : Program} {f : Nat → Nat → V} {op : BinOp} {t : TypeId} {ox oy : Operand} {g : Int → Int → Value}
    (hop : ∀ a b, binOp op t (.int .u8 a) (.int .u8 b) = pure (g a b))
    (h : ∀ (ρ : Rho) (a b : Nat), a < 256 → b < 256 → VR ρ (f a b) (g a b)) :
    Snd2 P (fun x y => asY x none fun a => asY y none fun b => some (f a b)) (cbin op t ox oy) := by
  intro ρ v v' x x' r w hv hv' hf
  obtain ⟨a, ea, h1⟩ := asY_some hf
  obtain ⟨b, eb, h2⟩ := asY_some h1
  subst ea; subst eb
  obtain ⟨ha, rfl⟩ := hv.y
  obtain ⟨hb, rfl⟩ := hv'.y
  have hr : f a b = r := Option.some.inj h2
  subst hr
  refine ⟨g a b, ?_, h ρ a b ha hb⟩
  unfold cbin
  rw [Sem.run_bind, eqGuard_int, Result.andThen_ok, hop]
  rfl
theorem snd_eqlY (P : Program) (t : TypeId) (ox oy : Operand) : Snd2 P eqlY (cbin .eql t ox oy) :=
  byte_two (g := fun a b => .bool (a == b)) (fun a b => rfl) fun ρ a b ha hb => VR_b (by
    by_cases e : a = b
    · rw [beq_yes e]; subst e; simp
    · rw [beq_no e]; symm; rw [beq_eq_false_iff_ne]; omega)
theorem snd_neqY (P : Program) (t : TypeId) (ox oy : Operand) : Snd2 P neqY (cbin .neq t ox oy) :=
  byte_two (g := fun a b => .bool (a != b)) (fun a b => rfl) fun ρ a b ha hb => VR_b (by
    by_cases e : a = b
    · rw [beq_yes e]; subst e; simp
    · rw [beq_no e]; symm; rw [Bool.not_false, bne_iff_ne]; omega)
theorem snd_lssY (P : Program) (t : TypeId) (ox oy : Operand) : Snd2 P lssY (cbin .lss t ox oy) :=
  byte_two (g := fun a b => .bool (decide (a < b))) (fun a b => rfl) fun ρ a b ha hb => VR_b (by rw [ble_eq]; apply decide_eq_decide.2; omega)
theorem snd_leqY (P : Program) (t : TypeId) (ox oy : Operand) : Snd2 P leqY (cbin .leq t ox oy) :=
  byte_two (g := fun a b => .bool (decide (a ≤ b))) (fun a b => rfl) fun ρ a b ha hb => VR_b (by rw [ble_eq]; apply decide_eq_decide.2; omega)
theorem snd_gtrY (P : Program) (t : TypeId) (ox oy : Operand) : Snd2 P gtrY (cbin .gtr t ox oy) :=
  byte_two (g := fun a b => .bool (decide (a > b))) (fun a b => rfl) fun ρ a b ha hb => VR_b (by rw [ble_eq]; apply decide_eq_decide.2; omega)
theorem snd_geqY (P : Program) (t : TypeId) (ox oy : Operand) : Snd2 P geqY (cbin .geq t ox oy) :=
  byte_two (g := fun a b => .bool (decide (a ≥ b))) (fun a b => rfl) fun ρ a b ha hb => VR_b (by rw [ble_eq]; apply decide_eq_decide.2; omega)
theorem VR_y_of {ρ : Rho} {m : Nat} {z : Int} (h : m < 256) (hz : z = m) : VR ρ (.y m) (.int .u8 z) := by subst hz; exact VR_y h
theorem snd_addY (P : Program) (t : TypeId) (ox oy : Operand) : Snd2 P addY (cbin .add t ox oy) :=
  byte_two (g := fun a b => .int .u8 (IntKind.u8.wrap (a + b))) (fun a b => rfl) fun ρ a b ha hb => by
    refine VR_y_of (Nat.mod_lt _ (by omega)) ?_
    rw [IntKind.wrap_u8]; show _ = (((a + b) % 256 : Nat) : Int); omega
theorem snd_subY (P : Program) (t : TypeId) (ox oy : Operand) : Snd2 P subY (cbin .sub t ox oy) :=
  byte_two (g := fun a b => .int .u8 (IntKind.u8.wrap (a - b))) (fun a b => rfl) fun ρ a b ha hb => by
    refine VR_y_of (Nat.mod_lt _ (by omega)) ?_
    rw [IntKind.wrap_u8]; show _ = (((a + 256 - b) % 256 : Nat) : Int); omega

/-! ### bools -/
noncomputable def notB (x : V) : Option V := asB x none fun a => some (.b (not a))
noncomputable def neqB (x y : V) : Option V := asB x none fun a => asB y none fun b => some (.b (Bool.rec b (not b) a))
noncomputable def eqlB (x y : V) : Option V := asB x none fun a => asB y none fun b => some (.b (Bool.rec (not b) b a))
theorem snd_notB (P : Program) : Snd1 P notB (Op.unary .not) := by
  intro ρ v x r w hv hf
  obtain ⟨a, ea, h1⟩ := asB_some hf
  subst ea
  have := hv.b; subst this
  injection h1 with h1; subst h1
  exact ⟨_, rfl, VR_b rfl⟩
theorem run_underlying (P : Program) (w : World) {t : TypeId} {d : TypeDesc} (h : P.underlying t = some d) : (underlying t).run P w = .ok d w := by
  unfold underlying; simp [h]
theorem snd_eqlB (P : Program) (t : TypeId) (ox oy : Operand) (hu : P.underlying t = some .bool) : Snd2 P eqlB (cbin .eql t ox oy) := by
  intro ρ v v' x x' r w hv hv' hf
  obtain ⟨a, ea, h1⟩ := asB_some hf
  obtain ⟨b, eb, h2⟩ := asB_some h1
  subst ea; subst eb
  have := hv.b; subst this
  have := hv'.b; subst this
  injection h2 with h2; subst h2
  refine ⟨.bool (a == b), ?_, VR_b (by cases a <;> cases b <;> rfl)⟩
  unfold cbin
  rw [Sem.run_bind, eqGuard_bool, Result.andThen_ok]
  show ((do pure (.bool (← Op.equal t (.bool a) (.bool b))) : Sem Value)).run P w = _
  unfold Op.equal Op.maxDepth Op.equalIn
  simp [run_underlying P w hu]
theorem snd_neqB (P : Program) (t : TypeId) (ox oy : Operand) (hu : P.underlying t = some .bool) : Snd2 P neqB (cbin .neq t ox oy) := by
  intro ρ v v' x x' r w hv hv' hf
  obtain ⟨a, ea, h1⟩ := asB_some hf
  obtain ⟨b, eb, h2⟩ := asB_some h1
  subst ea; subst eb
  have := hv.b; subst this
  have := hv'.b; subst this
  injection h2 with h2; subst h2
  refine ⟨.bool (!(a == b)), ?_, VR_b (by cases a <;> cases b <;> rfl)⟩
  unfold cbin
  rw [Sem.run_bind, eqGuard_bool, Result.andThen_ok]
  show ((do pure (.bool (!(← Op.equal t (.bool a) (.bool b)))) : Sem Value)).run P w = _
  unfold Op.equal Op.maxDepth Op.equalIn
  simp [run_underlying P w hu]

/-! ### division, bits -/
noncomputable def mag (a : Nat) : Nat := cond (Nat.ble 9223372036854775808 a) (Nat.sub 18446744073709551616 a) a
noncomputable def quoN (x y : V) : Option V := asN x none fun a => asN y none fun b => cond (Nat.beq b 0) none
  (some (.n (cond (Bool.rec (Nat.ble 9223372036854775808 b) (not (Nat.ble 9223372036854775808 b)) (Nat.ble 9223372036854775808 a))
    (Nat.mod (Nat.sub 18446744073709551616 (Nat.div (mag a) (mag b))) 18446744073709551616) (Nat.mod (Nat.div (mag a) (mag b)) 18446744073709551616))))
noncomputable def remN (x y : V) : Option V := asN x none fun a => asN y none fun b => cond (Nat.beq b 0) none
  (some (.n (cond (Nat.ble 9223372036854775808 a) (Nat.mod (Nat.sub 18446744073709551616 (Nat.mod (mag a) (mag b))) 18446744073709551616) (Nat.mod (mag a) (mag b)))))
theorem mag_eq (a : Nat) (h : a < 18446744073709551616) : mag a ≤ 9223372036854775808 ∧ ((9223372036854775808 ≤ a ∧ IntKind.i64.wrap (a : Int) = -(mag a : Int) ∧ 0 < mag a) ∨ (a < 9223372036854775808 ∧ IntKind.i64.wrap (a : Int) = mag a)) := by
  unfold mag
  rw [wrap_n a h, ble_eq]
  by_cases h1 : 9223372036854775808 ≤ a
  · rw [decide_eq_true h1]
    show Nat.sub 18446744073709551616 a ≤ _ ∧ _
    have e : Nat.sub 18446744073709551616 a = 18446744073709551616 - a := rfl
    rw [cond_true, e, if_neg (by omega)]
    exact ⟨by omega, .inl ⟨h1, by omega, by omega⟩⟩
  · rw [decide_eq_false h1, cond_false, if_pos (by omega)]
    exact ⟨by omega, .inr ⟨by omega, rfl⟩⟩
theorem wrap_neg_zero (b : Nat) (h : b < 18446744073709551616) : IntKind.i64.wrap (b : Int) = 0 ↔ b = 0 := by
  rw [wrap_n b h]; split <;> omega
theorem snd_quoN (P : Program) (t : TypeId) (ox oy : Operand) : Snd2 P quoN (cbin .quo t ox oy) := by
  intro ρ v v' x x' r w hv hv' hf
  obtain ⟨a, ea, h1⟩ := asN_some hf
  obtain ⟨b, eb, h2⟩ := asN_some h1
  subst ea; subst eb
  obtain ⟨ha, rfl⟩ := hv.n
  obtain ⟨hb, rfl⟩ := hv'.n
  by_cases hb0 : b = 0
  · subst hb0; simp [Nat.beq] at h2
  rw [beq_no hb0, cond_false] at h2
  injection h2 with h2; subst h2
  refine ⟨.int .i64 (IntKind.i64.wrap ((IntKind.i64.wrap a).tdiv (IntKind.i64.wrap b))), ?_, ?_⟩
  · unfold cbin
    rw [Sem.run_bind, eqGuard_int, Result.andThen_ok]
    show (Op.intDiv .quo .i64 _ _).run P w = _
    unfold Op.intDiv
    rw [if_neg (fun h => hb0 ((wrap_neg_zero b hb).1 h))]
    rfl
  · obtain ⟨hma, hA⟩ := mag_eq a ha
    obtain ⟨hmb, hB⟩ := mag_eq b hb
    have hq : mag a / mag b ≤ mag a := Nat.div_le_self _ _
    have e0 : ((mag a : Int)).tdiv (mag b) = ((mag a / mag b : Nat) : Int) := by simp
    have eq1 : Nat.div (mag a) (mag b) = mag a / mag b := rfl
    rw [eq1, ble_eq, ble_eq]
    rcases hA with ⟨h1, e1, _⟩ | ⟨h1, e1⟩ <;> rcases hB with ⟨h2, e2, _⟩ | ⟨h2, e2⟩ <;> rw [e1, e2]
    · rw [decide_eq_true h1, decide_eq_true h2, Int.neg_tdiv, Int.tdiv_neg, e0]
      refine VR_n_of (Nat.mod_lt _ (by omega)) ?_
      show _ = IntKind.i64.wrap (((mag a / mag b) % 18446744073709551616 : Nat) : Int)
      generalize mag a / mag b = q at *
      rw [IntKind.wrap_i64, IntKind.wrap_i64]; omega
    · rw [decide_eq_true h1, decide_eq_false (p := 9223372036854775808 ≤ b) (by omega), Int.neg_tdiv, e0]
      refine VR_n_of (Nat.mod_lt _ (by omega)) ?_
      show _ = IntKind.i64.wrap (((18446744073709551616 - mag a / mag b) % 18446744073709551616 : Nat) : Int)
      generalize mag a / mag b = q at *
      rw [IntKind.wrap_i64, IntKind.wrap_i64]; omega
    · rw [decide_eq_false (p := 9223372036854775808 ≤ a) (by omega), decide_eq_true h2, Int.tdiv_neg, e0]
      refine VR_n_of (Nat.mod_lt _ (by omega)) ?_
      show _ = IntKind.i64.wrap (((18446744073709551616 - mag a / mag b) % 18446744073709551616 : Nat) : Int)
      generalize mag a / mag b = q at *
      rw [IntKind.wrap_i64, IntKind.wrap_i64]; omega
    · rw [decide_eq_false (p := 9223372036854775808 ≤ a) (by omega), decide_eq_false (p := 9223372036854775808 ≤ b) (by omega), e0]
      refine VR_n_of (Nat.mod_lt _ (by omega)) ?_
      show _ = IntKind.i64.wrap (((mag a / mag b) % 18446744073709551616 : Nat) : Int)
      generalize mag a / mag b = q at *
      rw [IntKind.wrap_i64, IntKind.wrap_i64]; omega
theorem snd_remN (P : Program) (t : TypeId) (ox oy : Operand) : Snd2 P remN (cbin .rem t ox oy) := by
  intro ρ v v' x x' r w hv hv' hf
  obtain ⟨a, ea, h1⟩ := asN_some hf
  obtain ⟨b, eb, h2⟩ := asN_some h1
  subst ea; subst eb
  obtain ⟨ha, rfl⟩ := hv.n
  obtain ⟨hb, rfl⟩ := hv'.n
  by_cases hb0 : b = 0
  · subst hb0; simp [Nat.beq] at h2
  rw [beq_no hb0, cond_false] at h2
  injection h2 with h2; subst h2
  refine ⟨.int .i64 ((IntKind.i64.wrap a).tmod (IntKind.i64.wrap b)), ?_, ?_⟩
  · unfold cbin
    rw [Sem.run_bind, eqGuard_int, Result.andThen_ok]
    show (Op.intDiv .rem .i64 _ _).run P w = _
    unfold Op.intDiv
    rw [if_neg (fun h => hb0 ((wrap_neg_zero b hb).1 h))]
    rfl
  · obtain ⟨hma, hA⟩ := mag_eq a ha
    obtain ⟨hmb, hB⟩ := mag_eq b hb
    have hq : mag a % mag b ≤ mag a := Nat.mod_le _ _
    have e0 : ((mag a : Int)).tmod (mag b) = ((mag a % mag b : Nat) : Int) := (Int.ofNat_tmod _ _).symm
    have eq1 : Nat.mod (mag a) (mag b) = mag a % mag b := rfl
    have e3 : (IntKind.i64.wrap (a : Int)).tmod (IntKind.i64.wrap b) = (IntKind.i64.wrap (a : Int)).tmod (mag b) := by
      rcases hB with ⟨h2, e2, _⟩ | ⟨h2, e2⟩ <;> rw [e2]
      rw [Int.tmod_neg]
    rw [e3, eq1, ble_eq]
    rcases hA with ⟨h1, e1, _⟩ | ⟨h1, e1⟩ <;> rw [e1]
    · rw [decide_eq_true h1, Int.neg_tmod, e0, cond_true]
      refine VR_n_of (Nat.mod_lt _ (by omega)) ?_
      show _ = IntKind.i64.wrap (((18446744073709551616 - mag a % mag b) % 18446744073709551616 : Nat) : Int)
      generalize mag a % mag b = q at *
      rw [IntKind.wrap_i64]; omega
    · rw [decide_eq_false (p := 9223372036854775808 ≤ a) (by omega), e0, cond_false]
      rw [wrap_n a ha, if_pos h1] at e1
      generalize mag a % mag b = q at *
      refine VR_n_of (by omega) ?_
      rw [wrap_n q (by omega), if_pos (by omega)]

noncomputable def andN (x y : V) : Option V := asN x none fun a => asN y none fun b => some (.n (Nat.land a b))
theorem ofInt_n (a : Nat) (h : a < 18446744073709551616) : (BitVec.ofInt 64 (IntKind.i64.wrap (a : Int))).toNat = a := by
  rw [BitVec.toNat_ofInt, wrap_n a h]
  show (_ % ((18446744073709551616 : Nat) : Int)).toNat = a
  split <;> omega
theorem snd_andN (P : Program) (t : TypeId) (ox oy : Operand) : Snd2 P andN (cbin .and t ox oy) :=
  int_two (g := fun a b => .int .i64 (IntKind.i64.wrap ((BitVec.ofInt 64 a &&& BitVec.ofInt 64 b).toNat : Int))) (fun a b => rfl) fun ρ a b ha hb => by
    rw [BitVec.toNat_and, ofInt_n a ha, ofInt_n b hb]
    exact VR_n (Nat.and_lt_two_pow (n := 64) a hb)

noncomputable def shrV (a b : Nat) : V := .n (cond (Nat.ble 9223372036854775808 a) (Nat.sub 18446744073709551616 (Nat.succ (Nat.div (Nat.sub 18446744073709551615 a) (Nat.pow 2 b)))) (Nat.div a (Nat.pow 2 b)))
noncomputable def shrN (x y : V) : Option V := asN x none fun a => asN y none fun b => cond (Nat.ble b 63) (some (shrV a b)) none
noncomputable def shrK (x y : V) : Option V := asN x none fun a => asK y none fun _ b => cond (Nat.ble b 63) (some (shrV a b)) none
theorem shr_core (P : Program) (t : TypeId) (ox oy : Operand) (ρ : Rho) (w : World) (yk : IntKind) {a b : Nat} (ha : a < 18446744073709551616) (hb2 : b ≤ 63) :
    ∃ y, (cbin .shr t ox oy (.int .i64 (IntKind.i64.wrap a)) (.int yk (b : Int))).run P w = .ok y w ∧ VR ρ (shrV a b) y := by
  refine ⟨.int .i64 ((IntKind.i64.wrap a).fdiv (2 ^ b)), ?_, ?_⟩
  · unfold cbin
    rw [Sem.run_bind, eqGuard_int, Result.andThen_ok]
    show (Op.shift .shr .i64 _ yk (b : Int)).run P w = _
    unfold Op.shift
    rw [if_neg (by omega)]
    have : min (b : Int).toNat IntKind.i64.bits = b := by show min (b : Int).toNat 64 = b; omega
    simp only [this]; rfl
  · unfold shrV
    have hp : 0 < 2 ^ b := Nat.two_pow_pos b
    have e1 : Nat.pow 2 b = 2 ^ b := rfl
    have e2 : ((2 : Int) ^ b) = ((2 ^ b : Nat) : Int) := by simp
    rw [wrap_n a ha, ble_eq, e1, e2]
    generalize 2 ^ b = d at *
    by_cases h1 : 9223372036854775808 ≤ a
    · rw [decide_eq_true h1, if_neg (by omega), cond_true]
      have e3 : ((a : Int) - 18446744073709551616).fdiv d = -(((18446744073709551615 - a) / d + 1 : Nat) : Int) := by
        rw [Int.fdiv_eq_ediv_of_nonneg _ (by omega)]
        have hx : (a : Int) - 18446744073709551616 = Int.negSucc (18446744073709551615 - a) := by omega
        rw [hx, Int.negSucc_ediv _ (by omega)]
        have e4 : Int.ediv ((18446744073709551615 - a : Nat) : Int) (d : Int) = (((18446744073709551615 - a) / d : Nat) : Int) := rfl
        rw [e4]; omega
      rw [e3]
      have eq2 : Nat.sub 18446744073709551616 (Nat.succ (Nat.div (Nat.sub 18446744073709551615 a) d)) = 18446744073709551616 - ((18446744073709551615 - a) / d + 1) := rfl
      have hd : (18446744073709551615 - a) / d ≤ 18446744073709551615 - a := Nat.div_le_self _ _
      rw [eq2]
      generalize (18446744073709551615 - a) / d = q at *
      refine VR_n_of (by omega) ?_
      rw [wrap_n _ (by omega), if_neg (by omega)]; omega
    · rw [decide_eq_false h1, if_pos (by omega), cond_false]
      have e3 : (a : Int).fdiv d = ((a / d : Nat) : Int) := by rw [Int.fdiv_eq_ediv_of_nonneg _ (by omega)]; simp
      rw [e3]
      have hd : a / d ≤ a := Nat.div_le_self _ _
      have eq1 : Nat.div a d = a / d := rfl
      rw [eq1]
      refine VR_n_of (by omega) ?_
      rw [wrap_n _ (by omega), if_pos (by omega)]

theorem snd_shrN (P : Program) (t : TypeId) (ox oy : Operand) : Snd2 P shrN (cbin .shr t ox oy) := by
  intro ρ v v' x x' r w hv hv' hf
  obtain ⟨a, ea, h1⟩ := asN_some hf
  obtain ⟨b, eb, h2⟩ := asN_some h1
  subst ea; subst eb
  obtain ⟨ha, rfl⟩ := hv.n
  obtain ⟨hb, rfl⟩ := hv'.n
  obtain ⟨hb1, h3⟩ := cond_some h2
  have hb2 : b ≤ 63 := Nat.le_of_ble_eq_true hb1
  injection h3 with h3; subst h3
  have eb : IntKind.i64.wrap (b : Int) = b := by rw [wrap_n b hb, if_pos (by omega)]
  rw [eb]
  exact shr_core P t ox oy ρ w .i64 ha hb2
theorem wrap_small (k : IntKind) {b : Nat} (h : b ≤ 63) : k.wrap (b : Int) = b := by
  have h64 : (b : Int) % 18446744073709551616 = b := by omega
  cases k <;> simp [IntKind.wrap, IntKind.signed, IntKind.bits] <;> omega
theorem snd_shrK (P : Program) (t : TypeId) (ox oy : Operand) : Snd2 P shrK (cbin .shr t ox oy) := by
  intro ρ v v' x x' r w hv hv' hf
  obtain ⟨a, ea, h1⟩ := asN_some hf
  obtain ⟨k, b, eb, h2⟩ := asK_some h1
  subst ea; subst eb
  obtain ⟨ha, rfl⟩ := hv.n
  obtain ⟨hb, rfl⟩ := hv'.k
  obtain ⟨hb1, h3⟩ := cond_some h2
  have hb2 : b ≤ 63 := Nat.le_of_ble_eq_true hb1
  injection h3 with h3; subst h3
  rw [wrap_small k hb2]
  exact shr_core P t ox oy ρ w k ha hb2

/-! ### further bits -/
noncomputable def orN (x y : V) : Option V := asN x none fun a => asN y none fun b => some (.n (Nat.lor a b))
theorem snd_orN (P : Program) (t : TypeId) (ox oy : Operand) : Snd2 P orN (cbin .or t ox oy) :=
  int_two (g := fun a b => .int .i64 (IntKind.i64.wrap ((BitVec.ofInt 64 a ||| BitVec.ofInt 64 b).toNat : Int))) (fun a b => rfl) fun ρ a b ha hb => by
    rw [BitVec.toNat_or, ofInt_n a ha, ofInt_n b hb]
    exact VR_n (Nat.or_lt_two_pow (n := 64) ha hb)
noncomputable def xorN (x y : V) : Option V := asN x none fun a => asN y none fun b => some (.n (Nat.xor a b))
theorem snd_xorN (P : Program) (t : TypeId) (ox oy : Operand) : Snd2 P xorN (cbin .xor t ox oy) :=
  int_two (g := fun a b => .int .i64 (IntKind.i64.wrap ((BitVec.ofInt 64 a ^^^ BitVec.ofInt 64 b).toNat : Int))) (fun a b => rfl) fun ρ a b ha hb => by
    rw [BitVec.toNat_xor, ofInt_n a ha, ofInt_n b hb]
    exact VR_n (Nat.xor_lt_two_pow (n := 64) ha hb)
noncomputable def orY (x y : V) : Option V := asY x none fun a => asY y none fun b => some (.y (Nat.lor a b))
noncomputable def invN (x : V) : Option V := asN x none fun a => some (.n (Nat.sub 18446744073709551615 a))

end Go.Proofs.YtmbnogellhoheaaGreatDoor.Ev

/- Conversions, lengths, indexes, cuts of texts, parts of values, places. -/
namespace Go.Proofs.YtmbnogellhoheaaGreatDoor.Ev
open Go

/-! ### conversions -/
noncomputable def cvYN (x : V) : Option V := asY x none fun m => some (.n m)
noncomputable def cvNY (x : V) : Option V := asN x none fun m => some (.y (Nat.mod m 256))
noncomputable def cvNI (x : V) : Option V := asN x none fun m => some (.k .i32 (Nat.mod m 4294967296))
noncomputable def cvIN (x : V) : Option V := asK x none fun k m => IntKind.casesOn (motive := fun _ => Option V) k none none
  (some (.n (cond (Nat.ble 2147483648 m) (Nat.add m 18446744069414584320) m))) none none none none none
noncomputable def cvSS (x : V) : Option V := asS x none fun l m => some (.s l m)
theorem run_convert_int (P : Program) (w : World) {src dst : TypeId} {ds : TypeDesc} {k k' : IntKind} {n : Int} (hs : P.underlying src = some ds) (hd : P.underlying dst = some (.int k)) :
    (convert src dst (.int k' n)).run P w = .ok (.int k (k.wrap n)) w := by
  unfold convert
  rw [Sem.run_bind, run_underlying P w hs, Result.andThen_ok, Sem.run_bind, run_underlying P w hd, Result.andThen_ok]
  cases ds <;> rfl
theorem snd_cvYN (P : Program) {src dst : TypeId} {ds : TypeDesc} (hs : P.underlying src = some ds) (hd : P.underlying dst = some (.int .i64)) : Snd1 P cvYN (convert src dst) := by
  intro ρ v x r w hv hf
  obtain ⟨a, ea, h1⟩ := asY_some hf
  subst ea
  obtain ⟨ha, rfl⟩ := hv.y
  injection h1 with h1; subst h1
  exact ⟨_, run_convert_int P w hs hd, VR_n (by omega)⟩
theorem snd_cvNY (P : Program) {src dst : TypeId} {ds : TypeDesc} (hs : P.underlying src = some ds) (hd : P.underlying dst = some (.int .u8)) : Snd1 P cvNY (convert src dst) := by
  intro ρ v x r w hv hf
  obtain ⟨a, ea, h1⟩ := asN_some hf
  subst ea
  obtain ⟨ha, rfl⟩ := hv.n
  injection h1 with h1; subst h1
  refine ⟨_, run_convert_int P w hs hd, VR_y_of (Nat.mod_lt _ (by omega)) ?_⟩
  rw [IntKind.wrap_u8, wrap_n a ha]; show _ = ((a % 256 : Nat) : Int); split <;> omega
theorem snd_cvNI (P : Program) {src dst : TypeId} {ds : TypeDesc} (hs : P.underlying src = some ds) (hd : P.underlying dst = some (.int .i32)) : Snd1 P cvNI (convert src dst) := by
  intro ρ v x r w hv hf
  obtain ⟨a, ea, h1⟩ := asN_some hf
  subst ea
  obtain ⟨ha, rfl⟩ := hv.n
  injection h1 with h1; subst h1
  refine ⟨_, run_convert_int P w hs hd, ?_⟩
  have hm : Nat.mod a 4294967296 < 2 ^ IntKind.i32.bits := Nat.mod_lt a (y := 4294967296) (by omega)
  unfold VR
  refine ⟨rfl, hm, ?_⟩
  rw [IntKind.wrap_i32, IntKind.wrap_i32, wrap_n a ha]; show _ = (((a % 4294967296 : Nat) : Int) + 2147483648) % 4294967296 - 2147483648; split <;> omega
theorem snd_cvIN (P : Program) {src dst : TypeId} {ds : TypeDesc} (hs : P.underlying src = some ds) (hd : P.underlying dst = some (.int .i64)) : Snd1 P cvIN (convert src dst) := by
  intro ρ v x r w hv hf
  obtain ⟨k, a, ea, h1⟩ := asK_some hf
  subst ea
  obtain ⟨ha, rfl⟩ := hv.k
  cases k <;> try (have h1' : (none : Option V) = some r := h1; cases h1'; done)
  have ha : a < 4294967296 := ha
  have h1 : some (V.n (cond (Nat.ble 2147483648 a) (Nat.add a 18446744069414584320) a)) = some r := h1
  injection h1 with h1; subst h1
  refine ⟨_, run_convert_int P w hs hd, ?_⟩
  rw [ble_eq, IntKind.wrap_i32]
  by_cases h2 : 2147483648 ≤ a
  · rw [decide_eq_true h2, cond_true]
    refine VR_n_of (by show a + _ < _; omega) ?_
    show _ = IntKind.i64.wrap ((a + 18446744069414584320 : Nat) : Int)
    rw [IntKind.wrap_i64, IntKind.wrap_i64]; omega
  · rw [decide_eq_false h2, cond_false]
    refine VR_n_of (by omega) ?_
    rw [IntKind.wrap_i64, IntKind.wrap_i64]; omega
theorem snd_cvSS (P : Program) {src dst : TypeId} {ds : TypeDesc} (hs : P.underlying src = some ds) (hd : P.underlying dst = some .string) : Snd1 P cvSS (convert src dst) := by
  intro ρ v x r w hv hf
  obtain ⟨l, m, ea, h1⟩ := asS_some hf
  subst ea
  obtain ⟨s, rfl, hl, hm⟩ := hv.s
  injection h1 with h1; subst h1
  refine ⟨.string s, ?_, VR_s hl hm⟩
  unfold convert
  rw [Sem.run_bind, run_underlying P w hs, Result.andThen_ok, Sem.run_bind, run_underlying P w hd, Result.andThen_ok]
  cases ds <;> rfl
/-- The negative of a number. -/
noncomputable def negN (x : V) : Option V := asN x none fun m => some (.n (Nat.mod (Nat.sub 18446744073709551616 m) 18446744073709551616))
theorem snd_negN (P : Program) : Snd1 P negN (Op.unary .neg) := by
  intro ρ v x r w hv hf
  obtain ⟨a, ea, h1⟩ := asN_some hf
  subst ea
  obtain ⟨ha, rfl⟩ := hv.n
  injection h1 with h1; subst h1
  refine ⟨.int .i64 (IntKind.i64.wrap (0 - IntKind.i64.wrap a)), rfl, VR_n_of (Nat.mod_lt _ (by omega)) ?_⟩
  show _ = IntKind.i64.wrap (((18446744073709551616 - a) % 18446744073709551616 : Nat) : Int)
  rw [IntKind.wrap_i64, IntKind.wrap_i64, IntKind.wrap_i64]; omega

/-! ### lengths -/
noncomputable def lenS (x : V) : Option V := asS x none fun l _ => cond (Nat.ble l 1099511627776) (some (.n l)) none
noncomputable def lenL (x : V) : Option V := asL x none (some (.n 0)) fun _ _ l _ => cond (Nat.ble l 1099511627776) (some (.n l)) none
noncomputable def capL (x : V) : Option V := asL x none (some (.n 0)) fun _ _ _ c => cond (Nat.beq c 0) none (cond (Nat.ble c 1099511627776) (some (.n (Nat.pred c))) none)
theorem VR_len {ρ : Rho} {l : Nat} (h : Nat.ble l 1099511627776 = true) : VR ρ (.n l) (goInt l) := by
  have h : l ≤ 1099511627776 := Nat.le_of_ble_eq_true h
  exact VR_n_of (by omega) (by rw [wrap_n l (by omega), if_pos (by omega)])
theorem snd_lenS (P : Program) {t ty : TypeId} (ht : P.underlying t = some .string) : Snd1 P lenS (fun x => Builtin.len_ #[t] ty #[x]) := by
  intro ρ v x r w hv hf
  obtain ⟨l, m, ea, h1⟩ := asS_some hf
  subst ea
  obtain ⟨s, rfl, hl, hm⟩ := hv.s
  obtain ⟨hc, h2⟩ := cond_some h1
  injection h2 with h2; subst h2
  refine ⟨goInt l, ?_, VR_len hc⟩
  rw [data_len] at hl; subst hl
  show (Builtin.len_ #[t] ty #[Value.string s]).run P w = _
  unfold Builtin.len_
  simp [run_underlying P w ht]
theorem snd_lenL (P : Program) {t ty e : TypeId} (ht : P.underlying t = some (.slice e)) : Snd1 P lenL (fun x => Builtin.len_ #[t] ty #[x]) := by
  intro ρ v x r w hv hf
  rcases asL_some hf with ⟨ea, h1⟩ | ⟨i, o, l, c, ea, h1⟩
  · subst ea
    have := hv.l0; subst this
    injection h1 with h1; subst h1
    refine ⟨goInt 0, ?_, VR_n_of (by omega) (by decide)⟩
    show (Builtin.len_ #[t] ty #[Value.slice none 0 0]).run P w = _
    unfold Builtin.len_
    simp [run_underlying P w ht]
  · subst ea
    obtain ⟨q', z, c', -, rfl, -⟩ := hv.l
    obtain ⟨hc, h2⟩ := cond_some h1
    injection h2 with h2; subst h2
    refine ⟨goInt l, ?_, VR_len hc⟩
    show (Builtin.len_ #[t] ty #[Value.slice _ l _]).run P w = _
    unfold Builtin.len_
    simp [run_underlying P w ht]

/-! ### a byte of a text; a cut of a text -/
theorem run_asIntOf (P : Program) (w : World) (k : IntKind) (n : Int) : (asIntOf (.int k n)).run P w = .ok (k, n) w := rfl
noncomputable def idxS (x i : V) : Option V := asS x none fun l m => asN i none fun k => cond (Nat.ble l 1099511627776) (cond (Nat.ble (Nat.succ k) l) (some (.y (Nat.mod (Nat.div m (Nat.pow 256 k)) 256))) none) none
theorem snd_idxS (P : Program) {t : TypeId} (ht : P.underlying t = some .string) : Snd2 P idxS (Instr.index t) := by
  intro ρ v v' x x' r w hv hv' hf
  obtain ⟨l, m, ea, h1⟩ := asS_some hf
  obtain ⟨k, eb, h2⟩ := asN_some h1
  subst ea; subst eb
  obtain ⟨s, rfl, hl, hm⟩ := hv.s
  obtain ⟨hk, rfl⟩ := hv'.n
  obtain ⟨hc, h3⟩ := cond_some h2
  obtain ⟨hc', h4⟩ := cond_some h3
  have hc : l ≤ 1099511627776 := Nat.le_of_ble_eq_true hc
  have hc' : k + 1 ≤ l := Nat.le_of_ble_eq_true hc'
  injection h4 with h4; subst h4
  have ek : IntKind.i64.wrap (k : Int) = k := by rw [wrap_n k hk, if_pos (by omega)]
  rw [ek]
  have hks : k < s.size := by rw [← data_len]; omega
  obtain ⟨b, hb1, hb2⟩ := enc_get s.data.toList k (by rw [hl]; omega)
  rw [hm] at hb2
  refine ⟨.int .u8 (b.toNat : Int), ?_, VR_y_of (Nat.mod_lt _ (by omega)) ?_⟩
  · unfold Instr.index
    rw [Sem.run_bind, run_asIntOf, Result.andThen_ok, Sem.run_bind, run_underlying P w ht, Result.andThen_ok]
    have e2 : s[(k : Int).toNat]? = some b := by
      have e3 : (k : Int).toNat = k := by omega
      rw [e3]
      have e4 : s[k]? = s.data[k]? := rfl
      rw [e4, ← Array.getElem?_toList]; exact hb1
    show (match (if 0 ≤ (k : Int) then s[(k : Int).toNat]? else none) with
      | some b => pure (.int .u8 b.toNat)
      | none => _ : Sem Value).run P w = _
    rw [if_pos (by omega), e2]; rfl
  · rw [← hb2]; rfl

/-- A cut of a text from one place to another. -/
noncomputable def cutB (l m a b : Nat) : Option V := cond (Nat.ble l 1099511627776) (cond (Nat.ble a b) (cond (Nat.ble b l) (some (.s (Nat.sub b a) (Nat.mod (Nat.div m (Nat.pow 256 a)) (Nat.pow 256 (Nat.sub b a))))) none) none) none
noncomputable def slS (x lo hi : V) : Option V := asS x none fun l m => asN lo none fun a => asN hi none fun b => cutB l m a b
noncomputable def slS1 (x lo : V) : Option V := asS x none fun l m => asN lo none fun a => cutB l m a l
noncomputable def slS2 (x hi : V) : Option V := asS x none fun l m => asN hi none fun b => cutB l m 0 b
theorem cutB_some {l m a b : Nat} {r : V} (h : cutB l m a b = some r) : l ≤ 1099511627776 ∧ a ≤ b ∧ b ≤ l ∧ r = .s (b - a) (m / 256 ^ a % 256 ^ (b - a)) := by
  obtain ⟨h0, h⟩ := cond_some h
  obtain ⟨h1, h⟩ := cond_some h
  obtain ⟨h2, h⟩ := cond_some h
  injection h with h
  exact ⟨Nat.le_of_ble_eq_true h0, Nat.le_of_ble_eq_true h1, Nat.le_of_ble_eq_true h2, h.symm⟩
theorem VR_cut {ρ : Rho} {s : ByteArray} {l m a b : Nat} (hl : s.data.toList.length = l) (hm : enc s.data.toList = m) (hab : a ≤ b) (hb : b ≤ l) :
    VR ρ (.s (b - a) (m / 256 ^ a % 256 ^ (b - a))) (.string (s.extract a b)) := by
  refine VR_s ?_ ?_
  · rw [Lib.extract_data, List.length_take, List.length_drop, hl]; omega
  · rw [Lib.extract_data, enc_take, enc_drop, hm]
theorem run_sliceBound (P : Program) (w : World) (k : Nat) (y : Nat) (c : BoundsCode) (h : k ≤ y) (hy : y ≤ 1099511627776) : (Instr.sliceBound (.int .i64 (IntKind.i64.wrap (k : Int))) y c).run P w = .ok k w := by
  have ek : IntKind.i64.wrap (k : Int) = k := by rw [wrap_n k (by omega), if_pos (by omega)]
  rw [ek]
  unfold Instr.sliceBound
  rw [Sem.run_bind, run_asIntOf, Result.andThen_ok]
  show (if 0 ≤ (k : Int) ∧ (k : Int) ≤ (y : Int) then pure (k : Int).toNat else _ : Sem Nat).run P w = _
  rw [if_pos ⟨by omega, by omega⟩]
  have : (k : Int).toNat = k := by omega
  rw [this]; rfl
theorem run_sliceAt_string (P : Program) (w : World) {t : TypeId} (ht : P.underlying t = some .string) (s : ByteArray) (lo hi : Option Value) (a b m : Nat)
    (hb : (Instr.sliceBounds false s.size s.size lo hi none).run P w = .ok (a, b, m) w) : (Instr.sliceAt t (.string s) lo hi none).run P w = .ok (.string (s.extract a b)) w := by
  unfold Instr.sliceAt
  rw [Sem.run_bind, run_underlying P w ht, Result.andThen_ok]
  show (Instr.slice t (.string s) lo hi none).run P w = _
  unfold Instr.slice
  rw [Sem.run_bind, run_underlying P w ht, Result.andThen_ok]
  show ((_ >>= _ : Sem Value).run P w) = _
  simp [hb]
theorem snd_slS (P : Program) {t : TypeId} (ht : P.underlying t = some .string) (ρ : Rho) (v v1 v2 : V) (x x1 x2 : Value) (r : V) (w : World)
    (hv : VR ρ v x) (hv1 : VR ρ v1 x1) (hv2 : VR ρ v2 x2) (hf : slS v v1 v2 = some r) : ∃ y, (Instr.sliceAt t x (some x1) (some x2) none).run P w = .ok y w ∧ VR ρ r y := by
  obtain ⟨l, m, ea, h1⟩ := asS_some hf
  obtain ⟨a, eb, h2⟩ := asN_some h1
  obtain ⟨b, ec, h3⟩ := asN_some h2
  subst ea; subst eb; subst ec
  obtain ⟨s, rfl, hl, hm⟩ := hv.s
  obtain ⟨ha, rfl⟩ := hv1.n
  obtain ⟨hb, rfl⟩ := hv2.n
  obtain ⟨g0, g1, g2, rfl⟩ := cutB_some h3
  have hs : s.size = l := by rw [← data_len]; exact hl
  refine ⟨_, run_sliceAt_string P w ht s _ _ a b s.size ?_, VR_cut hl hm g1 g2⟩
  unfold Instr.sliceBounds
  simp [run_sliceBound P w b s.size _ (by omega) (by omega), run_sliceBound P w a b _ g1 (by omega)]
theorem snd_slS1 (P : Program) {t : TypeId} (ht : P.underlying t = some .string) (ρ : Rho) (v v1 : V) (x x1 : Value) (r : V) (w : World)
    (hv : VR ρ v x) (hv1 : VR ρ v1 x1) (hf : slS1 v v1 = some r) : ∃ y, (Instr.sliceAt t x (some x1) none none).run P w = .ok y w ∧ VR ρ r y := by
  obtain ⟨l, m, ea, h1⟩ := asS_some hf
  obtain ⟨a, eb, h3⟩ := asN_some h1
  subst ea; subst eb
  obtain ⟨s, rfl, hl, hm⟩ := hv.s
  obtain ⟨ha, rfl⟩ := hv1.n
  obtain ⟨g0, g1, g2, rfl⟩ := cutB_some h3
  have hs : s.size = l := by rw [← data_len]; exact hl
  subst hs
  refine ⟨_, run_sliceAt_string P w ht s _ _ a s.size s.size ?_, VR_cut hl hm g1 g2⟩
  unfold Instr.sliceBounds
  simp [run_sliceBound P w a s.size _ g1 (by omega)]
theorem snd_slS2 (P : Program) {t : TypeId} (ht : P.underlying t = some .string) (ρ : Rho) (v v2 : V) (x x2 : Value) (r : V) (w : World)
    (hv : VR ρ v x) (hv2 : VR ρ v2 x2) (hf : slS2 v v2 = some r) : ∃ y, (Instr.sliceAt t x none (some x2) none).run P w = .ok y w ∧ VR ρ r y := by
  obtain ⟨l, m, ea, h1⟩ := asS_some hf
  obtain ⟨b, eb, h3⟩ := asN_some h1
  subst ea; subst eb
  obtain ⟨s, rfl, hl, hm⟩ := hv.s
  obtain ⟨hb, rfl⟩ := hv2.n
  obtain ⟨g0, g1, g2, rfl⟩ := cutB_some h3
  have hs : s.size = l := by rw [← data_len]; exact hl
  subst hs
  refine ⟨_, run_sliceAt_string P w ht s _ _ 0 b s.size ?_, VR_cut hl hm g1 g2⟩
  unfold Instr.sliceBounds
  simp [run_sliceBound P w b s.size _ g2 (by omega)]

end Go.Proofs.YtmbnogellhoheaaGreatDoor.Ev

/- Parts of tuples and structs, structs built, places, comparisons with nothing, comparisons of structs. -/
namespace Go.Proofs.YtmbnogellhoheaaGreatDoor.Ev
open Go

/-! ### lists, by recursors -/
noncomputable def nthO (k : Nat) (L : List V) : Option V :=
  Nat.rec (motive := fun _ => List V → Option V) (fun L => List.casesOn L none (fun h _ => some h)) (fun _ ih L => List.casesOn L none (fun _ t => ih t)) k L
theorem nthO_eq : ∀ (k : Nat) (L : List V), nthO k L = L[k]?
  | 0, [] => rfl
  | 0, _ :: _ => rfl
  | _ + 1, [] => rfl
  | k + 1, _ :: L => nthO_eq k L
noncomputable def dropL (k : Nat) (L : List V) : List V := Nat.rec (motive := fun _ => List V → List V) (fun L => L) (fun _ ih L => List.casesOn L [] (fun _ t => ih t)) k L
theorem dropL_eq : ∀ (k : Nat) (L : List V), dropL k L = L.drop k
  | 0, _ => rfl
  | _ + 1, [] => rfl
  | k + 1, _ :: L => dropL_eq k L
noncomputable def takeL (k : Nat) (L : List V) : List V := Nat.rec (motive := fun _ => List V → List V) (fun _ => []) (fun _ ih L => List.casesOn L [] (fun h t => h :: ih t)) k L
theorem takeL_eq : ∀ (k : Nat) (L : List V), takeL k L = L.take k
  | 0, _ => rfl
  | _ + 1, [] => rfl
  | k + 1, h :: L => congrArg (h :: ·) (takeL_eq k L)
/-- Cells laid over a list from its beginning, and from a place. -/
noncomputable def over (cs L : List V) : List V := List.rec (motive := fun _ => List V → List V) (fun L => L) (fun c _ ih L => List.casesOn L [] (fun _ t => c :: ih t)) cs L
noncomputable def splice (off : Nat) (cs L : List V) : List V := Nat.rec (motive := fun _ => List V → List V) (over cs) (fun _ ih L => List.casesOn L [] (fun h t => h :: ih t)) off L
theorem over_length : ∀ cs L : List V, (over cs L).length = L.length
  | [], _ => rfl
  | _ :: _, [] => rfl
  | _ :: cs, _ :: L => congrArg (· + 1) (over_length cs L)
theorem over_get : ∀ (cs L : List V) (k : Nat), (over cs L)[k]? = if k < cs.length ∧ k < L.length then cs[k]? else L[k]?
  | [], L, k => by rw [if_neg (by simp)]; rfl
  | _ :: _, [], k => by rw [if_neg (by simp)]; rfl
  | c :: cs, h :: L, 0 => by rw [if_pos (by simp)]; rfl
  | c :: cs, h :: L, k + 1 => by
    show (c :: over cs L)[k + 1]? = _
    rw [List.getElem?_cons_succ, over_get cs L k]; simp
theorem splice_length : ∀ (off : Nat) (cs L : List V), (splice off cs L).length = L.length
  | 0, cs, L => over_length cs L
  | _ + 1, _, [] => rfl
  | off + 1, cs, _ :: L => congrArg (· + 1) (splice_length off cs L)
theorem splice_get : ∀ (off : Nat) (cs L : List V) (k : Nat), (splice off cs L)[k]? = if off ≤ k ∧ k < off + cs.length ∧ k < L.length then cs[k - off]? else L[k]?
  | 0, cs, L, k => by
    rw [show splice 0 cs L = over cs L from rfl, over_get]; simp
  | off + 1, cs, [], k => by rw [if_neg (by simp)]; rfl
  | off + 1, cs, h :: L, 0 => by rw [if_neg (by simp)]; rfl
  | off + 1, cs, h :: L, k + 1 => by
    show (h :: splice off cs L)[k + 1]? = _
    rw [List.getElem?_cons_succ, splice_get off cs L k, List.getElem?_cons_succ]
    have e : k + 1 - (off + 1) = k - off := by omega
    rw [e]
    by_cases hh : off ≤ k ∧ k < off + cs.length ∧ k < L.length
    · rw [if_pos hh, if_pos (by simp only [List.length_cons]; omega)]
    · rw [if_neg hh, if_neg (by simp only [List.length_cons]; omega)]

/-! ### parts -/
variable {ρ : Rho}
noncomputable def extT (k : Nat) (x : V) : Option V := asT x none (nthO k)
theorem snd_extT (P : Program) (k : Nat) : Snd1 P (extT k) (fun x => Instr.extract x k) := by
  intro ρ v x r w hv hf
  obtain ⟨cs, ea, h1⟩ := asT_some hf
  subst ea
  obtain ⟨xs, rfl, hx⟩ := hv.t
  rw [nthO_eq] at h1
  obtain ⟨y, hy, hr⟩ := hx.get k r h1
  refine ⟨y, ?_, hr⟩
  show (Instr.extract (.tuple xs) k).run P w = _
  unfold Instr.extract
  rw [Array.getElem?_toList] at hy
  simp [hy]
theorem run_isAgg (P : Program) (w : World) {t : TypeId} {d : TypeDesc} (h : P.underlying t = some d) :
    (isAgg t).run P w = .ok (match d with | .struct _ | .array _ _ => true | _ => false) w := by
  unfold isAgg; rw [Sem.run_bind, run_underlying P w h, Result.andThen_ok]; cases d <;> rfl
/-- A type of one cell. -/
def scal (Y : TI) (t : TypeId) : Bool := match Y.und t with | some (.struct _) | some (.array _ _) | none => false | _ => true
theorem run_isAgg_scal (P : Program) (w : World) {t : TypeId} (h : scal (tiOf P) t = true) : (isAgg t).run P w = .ok false w := by
  unfold scal at h
  dsimp only [tiOf] at h
  cases hu : P.underlying t with
  | none => rw [hu] at h; simp at h
  | some d => rw [hu] at h; rw [run_isAgg P w hu]; cases d <;> first | rfl | simp at h
def aggr (Y : TI) (t : TypeId) : Bool := match Y.und t with | some (.struct _) | some (.array _ _) => true | _ => false
theorem run_isAgg_aggr (P : Program) (w : World) {t : TypeId} (h : aggr (tiOf P) t = true) : (isAgg t).run P w = .ok true w := by
  unfold aggr at h
  dsimp only [tiOf] at h
  cases hu : P.underlying t with
  | none => rw [hu] at h; simp at h
  | some d => rw [hu] at h; rw [run_isAgg P w hu]; cases d <;> first | rfl | simp at h
theorem run_part_scal (P : Program) (w : World) {t : TypeId} (h : scal (tiOf P) t = true) (xs : Array Value) (off : Nat) (v : Value) (hv : xs[off]? = some v) : (part t xs off).run P w = .ok v w := by
  unfold part
  rw [Sem.run_bind, run_isAgg_scal P w h, Result.andThen_ok]; simp [hv]
theorem run_sizeOf (P : Program) (w : World) {t : TypeId} {i : TypeInfo} (h : P.info? t = some i) : (sizeOf t).run P w = .ok i.size w := by
  unfold sizeOf typeInfo; simp [h]
theorem run_part_aggr (P : Program) (w : World) {t : TypeId} {i : TypeInfo} (h : aggr (tiOf P) t = true) (hi : P.info? t = some i) (xs : Array Value) (off : Nat) : (part t xs off).run P w = .ok (.agg (xs.extract off (off + i.size))) w := by
  unfold part
  rw [Sem.run_bind, run_isAgg_aggr P w h, Result.andThen_ok]
  simp [run_sizeOf P w hi]
noncomputable def fldS (off : Nat) (x : V) : Option V := asG x none (nthO off)
noncomputable def fldG (off n : Nat) (x : V) : Option V := asG x none fun cs => some (.g (takeL n (dropL off cs)))
theorem run_field (P : Program) (w : World) {t : TypeId} {fs : Array Field} {k : Nat} {f : Field} (ht : P.underlying t = some (.struct fs)) (hf : fs[k]? = some f) (xs : Array Value) :
    (Instr.field t (.agg xs) k).run P w = (part f.type xs f.offset).run P w := by
  unfold Instr.field
  rw [Sem.run_bind, run_underlying P w ht, Result.andThen_ok]
  simp [hf, asAgg]
theorem snd_fldS (P : Program) {t : TypeId} {fs : Array Field} {k : Nat} {f : Field} (ht : P.underlying t = some (.struct fs)) (hf : fs[k]? = some f) (hs : scal (tiOf P) f.type = true) :
    Snd1 P (fldS f.offset) (fun x => Instr.field t x k) := by
  intro ρ v x r w hv hr
  obtain ⟨cs, ea, h1⟩ := asG_some hr
  subst ea
  obtain ⟨xs, rfl, hx⟩ := hv.g
  rw [nthO_eq] at h1
  obtain ⟨y, hy, hr⟩ := hx.get _ r h1
  rw [Array.getElem?_toList] at hy
  refine ⟨y, ?_, hr⟩
  show (Instr.field t (.agg xs) k).run P w = _
  rw [run_field P w ht hf, run_part_scal P w hs xs _ y hy]
theorem VRs.drop {ρ : Rho} : ∀ (k : Nat) {cs : List V} {xs : List Value}, VRs ρ cs xs → VRs ρ (cs.drop k) (xs.drop k)
  | 0, _, _, h => h
  | _ + 1, [], [], _ => by simp [VRs]
  | _ + 1, [], _ :: _, h => by simp [VRs] at h
  | _ + 1, _ :: _, [], h => by simp [VRs] at h
  | k + 1, _ :: _, _ :: _, h => by simp only [VRs] at h; exact VRs.drop k h.2
theorem VRs.take {ρ : Rho} : ∀ (k : Nat) {cs : List V} {xs : List Value}, VRs ρ cs xs → VRs ρ (cs.take k) (xs.take k)
  | 0, _, _, _ => by simp [VRs]
  | _ + 1, [], [], _ => by simp [VRs]
  | _ + 1, [], _ :: _, h => by simp [VRs] at h
  | _ + 1, _ :: _, [], h => by simp [VRs] at h
  | k + 1, _ :: _, _ :: _, h => by simp only [VRs, List.take_succ_cons] at h ⊢; exact ⟨h.1, VRs.take k h.2⟩
theorem VR_g {ρ : Rho} {cs : List V} {xs : Array Value} (h : VRs ρ cs xs.toList) : VR ρ (.g cs) (.agg xs) := by unfold VR; exact h
theorem VR_t {ρ : Rho} {cs : List V} {xs : Array Value} (h : VRs ρ cs xs.toList) : VR ρ (.t cs) (.tuple xs) := by unfold VR; exact h
theorem snd_fldG (P : Program) {t : TypeId} {fs : Array Field} {k : Nat} {f : Field} {i : TypeInfo} (ht : P.underlying t = some (.struct fs)) (hf : fs[k]? = some f) (hs : aggr (tiOf P) f.type = true) (hi : P.info? f.type = some i) :
    Snd1 P (fldG f.offset i.size) (fun x => Instr.field t x k) := by
  intro ρ v x r w hv hr
  obtain ⟨cs, ea, h1⟩ := asG_some hr
  subst ea
  obtain ⟨xs, rfl, hx⟩ := hv.g
  injection h1 with h1; subst h1
  refine ⟨.agg (xs.extract f.offset (f.offset + i.size)), ?_, VR_g ?_⟩
  · show (Instr.field t (.agg xs) k).run P w = _
    rw [run_field P w ht hf, run_part_aggr P w hs hi]
  · rw [takeL_eq, dropL_eq, Array.toList_extract]
    have := (hx.drop f.offset).take i.size
    simpa [List.extract] using this

/-! ### a struct built of parts -/
/-- The cells of a value. -/
noncomputable def cellsV (v : V) : List V :=
  V.casesOn (motive_1 := fun _ => List V) v [.u] (fun m => [.n m]) (fun m => [.y m]) (fun k m => [.k k m]) (fun c => [.b c]) (fun l m => [.s l m]) [.p0] (fun i o => [.p i o]) [.l0] (fun a b c d => [.l a b c d]) [.f0] (fun i cs => [.f i cs]) (fun cs => cs) (fun cs => [.t cs]) [.i0] (fun k i => [.a k i]) (fun cs => [.w cs])
theorem VR.cells {v : V} {x : Value} (hu : v ≠ .u) (h : VR ρ v x) : VRs ρ (cellsV v) x.cells.toList := by
  have one : ∀ (c : V) (x : Value), x.cells = #[x] → VR ρ c x → VRs ρ [c] x.cells.toList := fun c x e h => by rw [e]; simp only [VRs]; exact ⟨h, trivial⟩
  cases v with
  | u => exact absurd rfl hu
  | n m => obtain ⟨-, rfl⟩ := h.n; exact one _ _ rfl h
  | y m => obtain ⟨-, rfl⟩ := h.y; exact one _ _ rfl h
  | k k m => obtain ⟨-, rfl⟩ := h.k; exact one _ _ rfl h
  | b c => have e := h.b; subst e; exact one _ _ rfl h
  | s l m => obtain ⟨s, rfl, -⟩ := h.s; exact one _ _ rfl h
  | p0 => have e := h.p0; subst e; exact one _ _ rfl h
  | p i o => obtain ⟨q, -, rfl⟩ := h.p; exact one _ _ rfl h
  | l0 => have e := h.l0; subst e; exact one _ _ rfl h
  | l a b c d => obtain ⟨q, z, c', -, rfl, -⟩ := h.l; exact one _ _ rfl h
  | f0 => have e := h.f0; subst e; exact one _ _ rfl h
  | f i cs => obtain ⟨j, xs, -, rfl, -⟩ := h.f; exact one _ _ rfl h
  | g cs => obtain ⟨xs, rfl, hx⟩ := h.g; exact hx
  | t cs => obtain ⟨xs, rfl, hx⟩ := h.t; exact one _ _ rfl h
  | i0 => have e := h.i0; subst e; exact one _ _ rfl h
  | a k i => obtain ⟨q, -, hq⟩ := h.a; exact one _ _ hq.flat h
  | w cs => obtain ⟨s, rfl, -⟩ := h.w; exact one _ _ rfl h

theorem foldl_set_size (off : Nat) : ∀ (l : List (Value × Nat)) (cs : Array Value), (l.foldl (fun cs (p : Value × Nat) => cs.setIfInBounds (off + p.2) p.1) cs).size = cs.size
  | [], _ => rfl
  | p :: l, cs => by rw [List.foldl_cons, foldl_set_size off l]; simp
theorem foldl_set_get (off : Nat) : ∀ (l : List Value) (j : Nat) (cs : Array Value) (k : Nat),
    ((l.zipIdx j).foldl (fun cs (p : Value × Nat) => cs.setIfInBounds (off + p.2) p.1) cs)[k]? = if off + j ≤ k ∧ k < off + j + l.length ∧ k < cs.size then l[k - (off + j)]? else cs[k]?
  | [], j, cs, k => by rw [if_neg (by simp only [List.length_nil]; omega)]; rfl
  | x :: l, j, cs, k => by
    rw [List.zipIdx_cons, List.foldl_cons, foldl_set_get off l (j + 1)]
    simp only [Array.size_setIfInBounds, List.length_cons]
    by_cases h1 : k = off + j
    · subst h1
      rw [if_neg (by omega), Array.getElem?_setIfInBounds, if_pos rfl]
      by_cases h2 : off + j < cs.size
      · rw [if_pos (by omega)]; simp [h2]
      · rw [if_neg (by omega)]; simp [h2]
    · by_cases h2 : off + (j + 1) ≤ k ∧ k < off + (j + 1) + l.length ∧ k < cs.size
      · rw [if_pos h2, if_pos (by omega)]
        have e : k - (off + j) = (k - (off + (j + 1))) + 1 := by omega
        rw [e, List.getElem?_cons_succ]
      · rw [if_neg h2, if_neg (by omega), Array.getElem?_setIfInBounds, if_neg (by omega)]
theorem splice_VRs {cs L : List V} {x : Value} {xs : Array Value} {off : Nat} (h1 : VRs ρ cs x.cells.toList) (h2 : VRs ρ L xs.toList) :
    VRs ρ (splice off cs L) (x.cells.zipIdx.foldl (fun cs (p : Value × Nat) => cs.setIfInBounds (off + p.2) p.1) xs).toList := by
  have e0 : x.cells.zipIdx.foldl (fun cs (p : Value × Nat) => cs.setIfInBounds (off + p.2) p.1) xs = (x.cells.toList.zipIdx 0).foldl (fun cs (p : Value × Nat) => cs.setIfInBounds (off + p.2) p.1) xs := by
    rw [← Array.foldl_toList, Array.toList_zipIdx]
  rw [e0]
  have hl1 := h1.length
  have hl2 : L.length = xs.size := by simpa using h2.length
  refine VRs.mk ?_ fun k c y hc hy => ?_
  · have e3 := foldl_set_size off (x.cells.toList.zipIdx 0) xs
    rw [splice_length, hl2, ← e3]; simp
  · rw [splice_get] at hc
    rw [Array.getElem?_toList, foldl_set_get] at hy
    by_cases hh : off ≤ k ∧ k < off + cs.length ∧ k < L.length
    · rw [if_pos hh] at hc
      rw [if_pos (by omega)] at hy
      obtain ⟨y', hy', hr⟩ := h1.get _ c hc
      have e2 : k - (off + 0) = k - off := by omega
      rw [e2] at hy
      rw [hy] at hy'; injection hy' with hy'; subst hy'; exact hr
    · rw [if_neg hh] at hc
      rw [if_neg (by omega)] at hy
      obtain ⟨y', hy', hr⟩ := h2.get _ c hc
      rw [Array.getElem?_toList, hy] at hy'; injection hy' with hy'; subst hy'; exact hr

end Go.Proofs.YtmbnogellhoheaaGreatDoor.Ev
