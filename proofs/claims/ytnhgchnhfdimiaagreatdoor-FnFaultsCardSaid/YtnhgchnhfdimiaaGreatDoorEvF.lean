/- Conversions, lengths, indexes, cuts of texts, parts of values, places. -/
import Derived.Test.YtnhgchnhfdimiaaGreatDoorEvE
namespace Go.Proofs.YtnhgchnhfdimiaaGreatDoor.Ev
open Go

/-! ### conversions -/
noncomputable def cvYN (x : V) : Option V := asY x none fun m => some (.n m)
noncomputable def cvNY (x : V) : Option V := asN x none fun m => some (.y (Nat.mod m 256))
noncomputable def cvNI (x : V) : Option V := asN x none fun m => some (.k .i32 (Nat.mod m 4294967296))
noncomputable def cvIN (x : V) : Option V := asK x none fun k m => IntKind.casesOn (motive := fun _ => Option V) k none none
  (some (.n (cond (Nat.ble 2147483648 m) (Nat.add m 18446744069414584320) m))) none none none none none
noncomputable def cvSS (x : V) : Option V := asS x none fun l m => some (.s l m)
theorem run_convert_int (P : Program) (w : World) {src dst : TypeId} {ds : TypeDesc} {k k' : IntKind} {n : Int} (hs : P.underlying src = some ds) (hd : P.underlying dst = some (.int k)) :
    (convert src dst (.int k' n)).run P w = .ok (.int k (k.wrap n)) w := by
  unfold convert
  rw [Sem.run_bind, run_underlying P w hs, Result.andThen_ok, Sem.run_bind, run_underlying P w hd, Result.andThen_ok]
  cases ds <;> rfl
theorem snd_cvYN (P : Program) {src dst : TypeId} {ds : TypeDesc} (hs : P.underlying src = some ds) (hd : P.underlying dst = some (.int .i64)) : Snd1 P cvYN (convert src dst) := by
  intro ρ v x r w hv hf
  obtain ⟨a, ea, h1⟩ := asY_some hf
  subst ea
  obtain ⟨ha, rfl⟩ := hv.y
  injection h1 with h1; subst h1
  exact ⟨_, run_convert_int P w hs hd, VR_n (by omega)⟩
theorem snd_cvNY (P : Program) {src dst : TypeId} {ds : TypeDesc} (hs : P.underlying src = some ds) (hd : P.underlying dst = some (.int .u8)) : Snd1 P cvNY (convert src dst) := by
  intro ρ v x r w hv hf
  obtain ⟨a, ea, h1⟩ := asN_some hf
  subst ea
  obtain ⟨ha, rfl⟩ := hv.n
  injection h1 with h1; subst h1
  refine ⟨_, run_convert_int P w hs hd, VR_y_of (Nat.mod_lt _ (by omega)) ?_⟩
  rw [IntKind.wrap_u8, wrap_n a ha]; show _ = ((a % 256 : Nat) : Int); split <;> omega
theorem snd_cvNI (P : Program) {src dst : TypeId} {ds : TypeDesc} (hs : P.underlying src = some ds) (hd : P.underlying dst = some (.int .i32)) : Snd1 P cvNI (convert src dst) := by
  intro ρ v x r w hv hf
  obtain ⟨a, ea, h1⟩ := asN_some hf
  subst ea
  obtain ⟨ha, rfl⟩ := hv.n
  injection h1 with h1; subst h1
  refine ⟨_, run_convert_int P w hs hd, ?_⟩
  have hm : Nat.mod a 4294967296 < 2 ^ IntKind.i32.bits := Nat.mod_lt a (y := 4294967296) (by omega)
  unfold VR
  refine ⟨rfl, hm, ?_⟩
  rw [IntKind.wrap_i32, IntKind.wrap_i32, wrap_n a ha]; show _ = (((a % 4294967296 : Nat) : Int) + 2147483648) % 4294967296 - 2147483648; split <;> omega
theorem snd_cvIN (P : Program) {src dst : TypeId} {ds : TypeDesc} (hs : P.underlying src = some ds) (hd : P.underlying dst = some (.int .i64)) : Snd1 P cvIN (convert src dst) := by
  intro ρ v x r w hv hf
  obtain ⟨k, a, ea, h1⟩ := asK_some hf
  subst ea
  obtain ⟨ha, rfl⟩ := hv.k
  cases k <;> try (have h1' : (none : Option V) = some r := h1; cases h1'; done)
  have ha : a < 4294967296 := ha
  have h1 : some (V.n (cond (Nat.ble 2147483648 a) (Nat.add a 18446744069414584320) a)) = some r := h1
  injection h1 with h1; subst h1
  refine ⟨_, run_convert_int P w hs hd, ?_⟩
  rw [ble_eq, IntKind.wrap_i32]
  by_cases h2 : 2147483648 ≤ a
  · rw [decide_eq_true h2, cond_true]
    refine VR_n_of (by show a + _ < _; omega) ?_
    show _ = IntKind.i64.wrap ((a + 18446744069414584320 : Nat) : Int)
    rw [IntKind.wrap_i64, IntKind.wrap_i64]; omega
  · rw [decide_eq_false h2, cond_false]
    refine VR_n_of (by omega) ?_
    rw [IntKind.wrap_i64, IntKind.wrap_i64]; omega
theorem snd_cvSS (P : Program) {src dst : TypeId} {ds : TypeDesc} (hs : P.underlying src = some ds) (hd : P.underlying dst = some .string) : Snd1 P cvSS (convert src dst) := by
  intro ρ v x r w hv hf
  obtain ⟨l, m, ea, h1⟩ := asS_some hf
  subst ea
  obtain ⟨s, rfl, hl, hm⟩ := hv.s
  injection h1 with h1; subst h1
  refine ⟨.string s, ?_, VR_s hl hm⟩
  unfold convert
  rw [Sem.run_bind, run_underlying P w hs, Result.andThen_ok, Sem.run_bind, run_underlying P w hd, Result.andThen_ok]
  cases ds <;> rfl
/-- The negative of a number. -/
noncomputable def negN (x : V) : Option V := asN x none fun m => some (.n (Nat.mod (Nat.sub 18446744073709551616 m) 18446744073709551616))
theorem snd_negN (P : Program) : Snd1 P negN (Op.unary .neg) := by
  intro ρ v x r w hv hf
  obtain ⟨a, ea, h1⟩ := asN_some hf
  subst ea
  obtain ⟨ha, rfl⟩ := hv.n
  injection h1 with h1; subst h1
  refine ⟨.int .i64 (IntKind.i64.wrap (0 - IntKind.i64.wrap a)), rfl, VR_n_of (Nat.mod_lt _ (by omega)) ?_⟩
  show _ = IntKind.i64.wrap (((18446744073709551616 - a) % 18446744073709551616 : Nat) : Int)
  rw [IntKind.wrap_i64, IntKind.wrap_i64, IntKind.wrap_i64]; omega

/-! ### lengths -/
noncomputable def lenS (x : V) : Option V := asS x none fun l _ => cond (Nat.ble l 1099511627776) (some (.n l)) none
noncomputable def lenL (x : V) : Option V := asL x none (some (.n 0)) fun _ _ l _ => cond (Nat.ble l 1099511627776) (some (.n l)) none
noncomputable def capL (x : V) : Option V := asL x none (some (.n 0)) fun _ _ _ c => cond (Nat.beq c 0) none (cond (Nat.ble c 1099511627776) (some (.n (Nat.pred c))) none)
theorem VR_len {ρ : Rho} {l : Nat} (h : Nat.ble l 1099511627776 = true) : VR ρ (.n l) (goInt l) := by
  have h : l ≤ 1099511627776 := Nat.le_of_ble_eq_true h
  exact VR_n_of (by omega) (by rw [wrap_n l (by omega), if_pos (by omega)])
theorem snd_lenS (P : Program) {t ty : TypeId} (ht : P.underlying t = some .string) : Snd1 P lenS (fun x => Builtin.len_ #[t] ty #[x]) := by
  intro ρ v x r w hv hf
  obtain ⟨l, m, ea, h1⟩ := asS_some hf
  subst ea
  obtain ⟨s, rfl, hl, hm⟩ := hv.s
  obtain ⟨hc, h2⟩ := cond_some h1
  injection h2 with h2; subst h2
  refine ⟨goInt l, ?_, VR_len hc⟩
  rw [data_len] at hl; subst hl
  show (Builtin.len_ #[t] ty #[Value.string s]).run P w = _
  unfold Builtin.len_
  simp [run_underlying P w ht]
theorem snd_lenL (P : Program) {t ty e : TypeId} (ht : P.underlying t = some (.slice e)) : Snd1 P lenL (fun x => Builtin.len_ #[t] ty #[x]) := by
  intro ρ v x r w hv hf
  rcases asL_some hf with ⟨ea, h1⟩ | ⟨i, o, l, c, ea, h1⟩
  · subst ea
    have := hv.l0; subst this
    injection h1 with h1; subst h1
    refine ⟨goInt 0, ?_, VR_n_of (by omega) (by decide)⟩
    show (Builtin.len_ #[t] ty #[Value.slice none 0 0]).run P w = _
    unfold Builtin.len_
    simp [run_underlying P w ht]
  · subst ea
    obtain ⟨q', z, c', -, rfl, -⟩ := hv.l
    obtain ⟨hc, h2⟩ := cond_some h1
    injection h2 with h2; subst h2
    refine ⟨goInt l, ?_, VR_len hc⟩
    show (Builtin.len_ #[t] ty #[Value.slice _ l _]).run P w = _
    unfold Builtin.len_
    simp [run_underlying P w ht]

/-! ### a byte of a text; a cut of a text -/
theorem run_asIntOf (P : Program) (w : World) (k : IntKind) (n : Int) : (asIntOf (.int k n)).run P w = .ok (k, n) w := rfl
noncomputable def idxS (x i : V) : Option V := asS x none fun l m => asN i none fun k => cond (Nat.ble l 1099511627776) (cond (Nat.ble (Nat.succ k) l) (some (.y (Nat.mod (Nat.div m (Nat.pow 256 k)) 256))) none) none
theorem snd_idxS (P : Program) {t : TypeId} (ht : P.underlying t = some .string) : Snd2 P idxS (Instr.index t) := by
  intro ρ v v' x x' r w hv hv' hf
  obtain ⟨l, m, ea, h1⟩ := asS_some hf
  obtain ⟨k, eb, h2⟩ := asN_some h1
  subst ea; subst eb
  obtain ⟨s, rfl, hl, hm⟩ := hv.s
  obtain ⟨hk, rfl⟩ := hv'.n
  obtain ⟨hc, h3⟩ := cond_some h2
  obtain ⟨hc', h4⟩ := cond_some h3
  have hc : l ≤ 1099511627776 := Nat.le_of_ble_eq_true hc
  have hc' : k + 1 ≤ l := Nat.le_of_ble_eq_true hc'
  injection h4 with h4; subst h4
  have ek : IntKind.i64.wrap (k : Int) = k := by rw [wrap_n k hk, if_pos (by omega)]
  rw [ek]
  have hks : k < s.size := by rw [← data_len]; omega
  obtain ⟨b, hb1, hb2⟩ := enc_get s.data.toList k (by rw [hl]; omega)
  rw [hm] at hb2
  refine ⟨.int .u8 (b.toNat : Int), ?_, VR_y_of (Nat.mod_lt _ (by omega)) ?_⟩
  · unfold Instr.index
    rw [Sem.run_bind, run_asIntOf, Result.andThen_ok, Sem.run_bind, run_underlying P w ht, Result.andThen_ok]
    have e2 : s[(k : Int).toNat]? = some b := by
      have e3 : (k : Int).toNat = k := by omega
      rw [e3]
      have e4 : s[k]? = s.data[k]? := rfl
      rw [e4, ← Array.getElem?_toList]; exact hb1
    show (match (if 0 ≤ (k : Int) then s[(k : Int).toNat]? else none) with
      | some b => pure (.int .u8 b.toNat)
      | none => _ : Sem Value).run P w = _
    rw [if_pos (by omega), e2]; rfl
  · rw [← hb2]; rfl

/-- A cut of a text from one place to another. -/
noncomputable def cutB (l m a b : Nat) : Option V := cond (Nat.ble l 1099511627776) (cond (Nat.ble a b) (cond (Nat.ble b l) (some (.s (Nat.sub b a) (Nat.mod (Nat.div m (Nat.pow 256 a)) (Nat.pow 256 (Nat.sub b a))))) none) none) none
noncomputable def slS (x lo hi : V) : Option V := asS x none fun l m => asN lo none fun a => asN hi none fun b => cutB l m a b
noncomputable def slS1 (x lo : V) : Option V := asS x none fun l m => asN lo none fun a => cutB l m a l
noncomputable def slS2 (x hi : V) : Option V := asS x none fun l m => asN hi none fun b => cutB l m 0 b
theorem cutB_some {l m a b : Nat} {r : V} (h : cutB l m a b = some r) : l ≤ 1099511627776 ∧ a ≤ b ∧ b ≤ l ∧ r = .s (b - a) (m / 256 ^ a % 256 ^ (b - a)) := by
  obtain ⟨h0, h⟩ := cond_some h
  obtain ⟨h1, h⟩ := cond_some h
  obtain ⟨h2, h⟩ := cond_some h
  injection h with h
  exact ⟨Nat.le_of_ble_eq_true h0, Nat.le_of_ble_eq_true h1, Nat.le_of_ble_eq_true h2, h.symm⟩
theorem VR_cut {ρ : Rho} {s : ByteArray} {l m a b : Nat} (hl : s.data.toList.length = l) (hm : enc s.data.toList = m) (hab : a ≤ b) (hb : b ≤ l) :
    VR ρ (.s (b - a) (m / 256 ^ a % 256 ^ (b - a))) (.string (s.extract a b)) := by
  refine VR_s ?_ ?_
  · rw [Lib.extract_data, List.length_take, List.length_drop, hl]; omega
  · rw [Lib.extract_data, enc_take, enc_drop, hm]
theorem run_sliceBound (P : Program) (w : World) (k : Nat) (y : Nat) (c : BoundsCode) (h : k ≤ y) (hy : y ≤ 1099511627776) : (Instr.sliceBound (.int .i64 (IntKind.i64.wrap (k : Int))) y c).run P w = .ok k w := by
  have ek : IntKind.i64.wrap (k : Int) = k := by rw [wrap_n k (by omega), if_pos (by omega)]
  rw [ek]
  unfold Instr.sliceBound
  rw [Sem.run_bind, run_asIntOf, Result.andThen_ok]
  show (if 0 ≤ (k : Int) ∧ (k : Int) ≤ (y : Int) then pure (k : Int).toNat else _ : Sem Nat).run P w = _
  rw [if_pos ⟨by omega, by omega⟩]
  have : (k : Int).toNat = k := by omega
  rw [this]; rfl
theorem run_sliceAt_string (P : Program) (w : World) {t : TypeId} (ht : P.underlying t = some .string) (s : ByteArray) (lo hi : Option Value) (a b m : Nat)
    (hb : (Instr.sliceBounds false s.size s.size lo hi none).run P w = .ok (a, b, m) w) : (Instr.sliceAt t (.string s) lo hi none).run P w = .ok (.string (s.extract a b)) w := by
  unfold Instr.sliceAt
  rw [Sem.run_bind, run_underlying P w ht, Result.andThen_ok]
  show (Instr.slice t (.string s) lo hi none).run P w = _
  unfold Instr.slice
  rw [Sem.run_bind, run_underlying P w ht, Result.andThen_ok]
  show ((do
    if (none : Option Value).isSome then stuck "Slice: full slice of a string"
    let (l, h, _) ← Instr.sliceBounds false s.size s.size lo hi none
    pure (.string (s.extract l h))) : Sem Value).run P w = _
  simp [hb]
theorem snd_slS (P : Program) {t : TypeId} (ht : P.underlying t = some .string) (ρ : Rho) (v v1 v2 : V) (x x1 x2 : Value) (r : V) (w : World)
    (hv : VR ρ v x) (hv1 : VR ρ v1 x1) (hv2 : VR ρ v2 x2) (hf : slS v v1 v2 = some r) : ∃ y, (Instr.sliceAt t x (some x1) (some x2) none).run P w = .ok y w ∧ VR ρ r y := by
  obtain ⟨l, m, ea, h1⟩ := asS_some hf
  obtain ⟨a, eb, h2⟩ := asN_some h1
  obtain ⟨b, ec, h3⟩ := asN_some h2
  subst ea; subst eb; subst ec
  obtain ⟨s, rfl, hl, hm⟩ := hv.s
  obtain ⟨ha, rfl⟩ := hv1.n
  obtain ⟨hb, rfl⟩ := hv2.n
  obtain ⟨g0, g1, g2, rfl⟩ := cutB_some h3
  have hs : s.size = l := by rw [← data_len]; exact hl
  refine ⟨_, run_sliceAt_string P w ht s _ _ a b s.size ?_, VR_cut hl hm g1 g2⟩
  unfold Instr.sliceBounds
  simp [run_sliceBound P w b s.size _ (by omega) (by omega), run_sliceBound P w a b _ g1 (by omega)]
theorem snd_slS1 (P : Program) {t : TypeId} (ht : P.underlying t = some .string) (ρ : Rho) (v v1 : V) (x x1 : Value) (r : V) (w : World)
    (hv : VR ρ v x) (hv1 : VR ρ v1 x1) (hf : slS1 v v1 = some r) : ∃ y, (Instr.sliceAt t x (some x1) none none).run P w = .ok y w ∧ VR ρ r y := by
  obtain ⟨l, m, ea, h1⟩ := asS_some hf
  obtain ⟨a, eb, h3⟩ := asN_some h1
  subst ea; subst eb
  obtain ⟨s, rfl, hl, hm⟩ := hv.s
  obtain ⟨ha, rfl⟩ := hv1.n
  obtain ⟨g0, g1, g2, rfl⟩ := cutB_some h3
  have hs : s.size = l := by rw [← data_len]; exact hl
  subst hs
  refine ⟨_, run_sliceAt_string P w ht s _ _ a s.size s.size ?_, VR_cut hl hm g1 g2⟩
  unfold Instr.sliceBounds
  simp [run_sliceBound P w a s.size _ g1 (by omega)]
theorem snd_slS2 (P : Program) {t : TypeId} (ht : P.underlying t = some .string) (ρ : Rho) (v v2 : V) (x x2 : Value) (r : V) (w : World)
    (hv : VR ρ v x) (hv2 : VR ρ v2 x2) (hf : slS2 v v2 = some r) : ∃ y, (Instr.sliceAt t x none (some x2) none).run P w = .ok y w ∧ VR ρ r y := by
  obtain ⟨l, m, ea, h1⟩ := asS_some hf
  obtain ⟨b, eb, h3⟩ := asN_some h1
  subst ea; subst eb
  obtain ⟨s, rfl, hl, hm⟩ := hv.s
  obtain ⟨hb, rfl⟩ := hv2.n
  obtain ⟨g0, g1, g2, rfl⟩ := cutB_some h3
  have hs : s.size = l := by rw [← data_len]; exact hl
  subst hs
  refine ⟨_, run_sliceAt_string P w ht s _ _ 0 b s.size ?_, VR_cut hl hm g1 g2⟩
  unfold Instr.sliceBounds
  simp [run_sliceBound P w b s.size _ g2 (by omega)]

end Go.Proofs.YtnhgchnhfdimiaaGreatDoor.Ev
