/- Cuts of slices; append. -/
import Derived.Test.YtnhgchnhfdimiaaGreatDoorEvJ
import Derived.Laws.Append
namespace Go.Proofs.YtnhgchnhfdimiaaGreatDoor.Ev
open Go
variable {ρ : Rho}

/-! ### cuts of slices -/
noncomputable def optN (o : Option V) (d : Nat) (k : Nat → Option V) : Option V := Option.casesOn o (k d) fun v => asN v none k
/-- A number of a place, given or not, as the model has it. -/
def optR (ρ : Rho) : Option V → Option Value → Prop
  | none, none => True
  | some v, some x => VR ρ v x
  | _, _ => False
/-- s[lo:hi:mx]: of a slice whose capacity isn't known nothing behind its length, and its elements' size is looked up. -/
noncomputable def slL (ec sz : Nat) (bs : TB) (x : V) (lo hi mx : Option V) : Option V :=
  asL x none
    (optN lo 0 fun a => optN hi 0 fun b => optN mx 0 fun m => cond (and (Nat.beq a 0) (and (Nat.beq b 0) (Nat.beq m 0))) (some .l0) none)
    fun id off len cap => cond (Nat.ble len 1099511627776) (cond (Nat.ble cap 1099511627776)
      (cond (Nat.beq cap 0)
        (bk bs id fun es _ _ => cond (Nat.beq es ec) (optN lo 0 fun a => optN hi len fun b => cond (Nat.ble a b) (cond (Nat.ble b len)
          (Option.casesOn mx (some (.l id (Nat.add off (Nat.mul a sz)) (Nat.sub b a) 0)) fun mv => asN mv none fun m => cond (Nat.ble b m) (cond (Nat.ble m len) (some (.l id (Nat.add off (Nat.mul a sz)) (Nat.sub b a) (Nat.succ (Nat.sub m a)))) none) none) none) none) none)
        (optN lo 0 fun a => optN hi len fun b => optN mx (Nat.pred cap) fun m => cond (Nat.ble a b) (cond (Nat.ble b m) (cond (Nat.ble m (Nat.pred cap)) (some (.l id (Nat.add off (Nat.mul a sz)) (Nat.sub b a) (Nat.succ (Nat.sub m a)))) none) none) none)) none) none
theorem optN_spec {o : Option V} {x : Option Value} {d : Nat} {k : Nat → Option V} {r : V} (ho : optR ρ o x) (h : optN o d k = some r) :
    ∃ m, k m = some r ∧ ((x = none ∧ m = d) ∨ (m < 18446744073709551616 ∧ x = some (.int .i64 (IntKind.i64.wrap m)))) := by
  cases o with
  | none => cases x with
    | none => exact ⟨d, h, .inl ⟨rfl, rfl⟩⟩
    | some _ => exact ho.elim
  | some v => cases x with
    | none => exact ho.elim
    | some x =>
      obtain ⟨m, rfl, h2⟩ := asN_some h
      obtain ⟨hm, rfl⟩ := VR.n ho
      exact ⟨m, h2, .inr ⟨hm, rfl⟩⟩
/-- The bounds as the model finds them. -/
theorem run_bounds (P : Program) (w : World) (len cap a b m : Nat) (lo hi mx : Option Value) (hl : (lo = none ∧ a = 0) ∨ lo = some (.int .i64 (IntKind.i64.wrap (a : Int)))) (hh : (hi = none ∧ b = len) ∨ hi = some (.int .i64 (IntKind.i64.wrap (b : Int))))
    (hm : (mx = none ∧ m = cap) ∨ mx = some (.int .i64 (IntKind.i64.wrap (m : Int)))) (hmh : mx ≠ none → hi ≠ none) (h1 : a ≤ b) (h2 : b ≤ m) (h3 : m ≤ cap) (hc : m ≤ 1099511627776) (hc2 : mx ≠ none → cap ≤ 1099511627776) (hc3 : mx = none → hi ≠ none → cap ≤ 1099511627776) :
    (Instr.sliceBounds true len cap lo hi mx).run P w = .ok (a, b, m) w := by
  have sb : ∀ (k y : Nat) (c : BoundsCode), k ≤ y → k ≤ 1099511627776 → (Instr.sliceBound (.int .i64 (IntKind.i64.wrap (k : Int))) y c).run P w = .ok k w := fun k y c hk hk2 => by
    have ek : IntKind.i64.wrap (k : Int) = k := by rw [wrap_n k (by omega), if_pos (by omega)]
    rw [ek]
    unfold Instr.sliceBound
    rw [Sem.run_bind, run_asIntOf, Result.andThen_ok]
    show (if 0 ≤ (k : Int) ∧ (k : Int) ≤ (y : Int) then pure (k : Int).toNat else _ : Sem Nat).run P w = _
    rw [if_pos ⟨by omega, by omega⟩]
    have : (k : Int).toNat = k := by omega
    rw [this]; rfl
  unfold Instr.sliceBounds
  rcases hm with ⟨rfl, rfl⟩ | rfl <;> rcases hh with ⟨rfl, rfl⟩ | rfl <;> rcases hl with ⟨rfl, rfl⟩ | rfl
  · simp
  · simp [sb a b _ h1 (by omega)]
  · simp [sb b m _ h2 (by omega)]
  · simp [sb b m _ h2 (by omega), sb a b _ h1 (by omega)]
  · exact absurd rfl (hmh (by simp))
  · exact absurd rfl (hmh (by simp))
  · simp [sb m cap _ h3 hc, sb b m _ h2 (by omega)]
  · simp [sb m cap _ h3 hc, sb b m _ h2 (by omega), sb a b _ h1 (by omega)]
theorem run_sliceAt (P : Program) (w : World) {t e : TypeId} {i : TypeInfo} (ht : P.underlying t = some (.slice e)) (hi : P.info? e = some i) (x : Option Addr) (len cap : Nat) (lo hx mx : Option Value) (a b m : Nat)
    (hb : (Instr.sliceBounds true len cap lo hx mx).run P w = .ok (a, b, m) w) : (Instr.sliceAt t (.slice x len cap) lo hx mx).run P w = .ok (.slice (if m = a then x else x.map (·.add (a * i.size))) (b - a) (m - a)) w := by
  unfold Instr.sliceAt
  rw [Sem.run_bind, run_underlying P w ht, Result.andThen_ok]
  show (Instr.slice t (.slice x len cap) lo hx mx).run P w = _
  unfold Instr.slice
  rw [Sem.run_bind, run_underlying P w ht, Result.andThen_ok]
  simp [hb, run_sizeOf P w hi]
theorem beq3 {a b m : Nat} (h : and (Nat.beq a 0) (and (Nat.beq b 0) (Nat.beq m 0)) = true) : a = 0 ∧ b = 0 ∧ m = 0 := by
  simp only [Bool.and_eq_true] at h
  exact ⟨Nat.eq_of_beq_eq_true h.1, Nat.eq_of_beq_eq_true h.2.1, Nat.eq_of_beq_eq_true h.2.2⟩
theorem snd_slL (P : Program) {t e : TypeId} {i : TypeInfo} (ht : P.underlying t = some (.slice e)) (hi : P.info? e = some i) {nx : Pos} {bs : TB} {w : World} (hh : HR ρ nx bs w) {v r : V} {x : Value} {lo hiv mx : Option V} {xl xh xm : Option Value}
    (hv : VR ρ v x) (hl : optR ρ lo xl) (hhi : optR ρ hiv xh) (hm : optR ρ mx xm) (hmh : xm ≠ none → xh ≠ none) {ec : Nat} (hec : ec % 65536 = i.size) (hf : slL ec i.size bs v lo hiv mx = some r) : ∃ y, (Instr.sliceAt t x xl xh xm).run P w = .ok y w ∧ VR ρ r y := by
  have drp : ∀ {k d : Nat} {z : Option Value}, (z = none ∧ k = d) ∨ (k < 18446744073709551616 ∧ z = some (.int .i64 (IntKind.i64.wrap (k : Int)))) → (z = none ∧ k = d) ∨ z = some (.int .i64 (IntKind.i64.wrap (k : Int))) := fun h => h.imp id And.right
  rcases asL_some hf with ⟨ea, h1⟩ | ⟨id, off, len, cap, ea, h1⟩
  · subst ea
    have := hv.l0; subst this
    obtain ⟨a, h2, ha⟩ := optN_spec hl h1
    obtain ⟨b, h3, hb⟩ := optN_spec hhi h2
    obtain ⟨m, h4, hm'⟩ := optN_spec hm h3
    obtain ⟨h5, h6⟩ := cond_some h4
    obtain ⟨rfl, rfl, rfl⟩ := beq3 h5
    injection h6 with h6; subst h6
    refine ⟨.slice none 0 0, ?_, by unfold VR; exact ⟨rfl, rfl, rfl⟩⟩
    rw [run_sliceAt P w ht hi none 0 0 xl xh xm 0 0 0 (run_bounds P w 0 0 0 0 0 xl xh xm (drp ha) (drp hb) (drp hm') hmh (by omega) (by omega) (by omega) (by omega) (fun _ => by omega) (fun _ _ => by omega))]
    rfl
  · subst ea
    obtain ⟨g1, h1⟩ := cond_some h1
    obtain ⟨g2, h1⟩ := cond_some h1
    have g1 : len ≤ 1099511627776 := Nat.le_of_ble_eq_true g1
    have g2 : cap ≤ 1099511627776 := Nat.le_of_ble_eq_true g2
    obtain ⟨q, z, c, hq, rfl, hlc, hcap, hz, hun⟩ := hv.l
    -- the result, once the bounds are known
    have fin : ∀ (a b m capn : Nat), a ≤ b → b ≤ m → m ≤ c → (capn ≠ 0 → (m - a) + 1 = capn) → (capn = 0 → (m - a = 0 ∨ z + a * i.size + (m - a) * (q.s % 65536) ≤ q.n)) →
        (Instr.sliceBounds true len c xl xh xm).run P w = .ok (a, b, m) w →
        ∃ y, (Instr.sliceAt t (.slice (some ⟨q.r, z, none⟩) len c) xl xh xm).run P w = .ok y w ∧ VR ρ (.l id (off + a * i.size) (b - a) capn) y := by
      intro a b m capn h1 h2 h3 h4 h5 hb
      refine ⟨_, run_sliceAt P w ht hi _ len c xl xh xm a b m hb, ?_⟩
      by_cases hma : m = a
      · rw [if_pos hma]
        unfold VR
        exact ⟨rfl, by omega, h4, q, z, hq, rfl, .inl (by omega), fun _ => .inl (by omega)⟩
      · rw [if_neg hma]
        have e1 : (some (⟨q.r, z, none⟩ : Addr)).map (·.add (a * i.size)) = some ⟨q.r, z + a * i.size, none⟩ := by simp [add_mk]
        rw [e1]
        unfold VR
        refine ⟨rfl, by omega, h4, q, z + a * i.size, hq, rfl, .inr ?_, h5⟩
        rcases hz with hz | hz
        · omega
        · rw [hz]; omega
    cases hc0 : Nat.beq cap 0 with
    | true =>
      rw [hc0, cond_true] at h1
      have hc0 := Nat.eq_of_beq_eq_true hc0
      obtain ⟨es, sz, cs, hlive, h2⟩ := bk_some h1
      obtain ⟨g3, h2⟩ := cond_some h2
      have g3 := Nat.eq_of_beq_eq_true g3
      obtain ⟨q', hq', hes, -⟩ := hh.live _ _ _ _ hlive
      rw [hq] at hq'; injection hq' with hq'; subst hq'
      obtain ⟨a, h3, ha⟩ := optN_spec hl h2
      obtain ⟨b, h4, hb⟩ := optN_spec hhi h3
      obtain ⟨g4, h4⟩ := cond_some h4
      obtain ⟨g5, h4⟩ := cond_some h4
      have g4 : a ≤ b := Nat.le_of_ble_eq_true g4
      have g5 : b ≤ len := Nat.le_of_ble_eq_true g5
      have sb : ∀ (k y : Nat) (cc : BoundsCode), k ≤ y → k ≤ 1099511627776 → (Instr.sliceBound (.int .i64 (IntKind.i64.wrap (k : Int))) y cc).run P w = .ok k w := fun k y cc hk hk2 => by
        have ek : IntKind.i64.wrap (k : Int) = k := by rw [wrap_n k (by omega), if_pos (by omega)]
        rw [ek]
        unfold Instr.sliceBound
        rw [Sem.run_bind, run_asIntOf, Result.andThen_ok]
        show (if 0 ≤ (k : Int) ∧ (k : Int) ≤ (y : Int) then pure (k : Int).toNat else _ : Sem Nat).run P w = _
        rw [if_pos ⟨by omega, by omega⟩]
        have : (k : Int).toNat = k := by omega
        rw [this]; rfl
      cases mx with
      | none =>
        cases xm with
        | some _ => exact hm.elim
        | none =>
          have h4 : some (V.l id (Nat.add off (Nat.mul a i.size)) (Nat.sub b a) 0) = some r := h4
          injection h4 with h4; subst h4
          refine fin a b c 0 g4 (by omega) (Nat.le_refl _) (fun h => absurd rfl h) (fun _ => ?_) ?_
          · rcases hun hc0 with h | h
            · left; omega
            · by_cases hx : c - a = 0
              · exact .inl hx
              · right
                have e2 : a * i.size + (c - a) * (q.s % 65536) = c * (q.s % 65536) := by
                  rw [hes.1, g3, hec, ← Nat.add_mul]; congr 1; omega
                omega
          · unfold Instr.sliceBounds
            rcases hb with ⟨rfl, rfl⟩ | ⟨_, rfl⟩ <;> rcases ha with ⟨rfl, rfl⟩ | ⟨_, rfl⟩
            · simp
            · simp [sb a b _ g4 (by omega)]
            · simp [sb b c _ (by omega) (by omega)]
            · simp [sb b c _ (by omega) (by omega), sb a b _ g4 (by omega)]
      | some mv =>
        cases xm with
        | none => exact hm.elim
        | some xm =>
          obtain ⟨m, em, h5⟩ := asN_some h4
          subst em
          obtain ⟨hm1, rfl⟩ := VR.n hm
          obtain ⟨g6, h5⟩ := cond_some h5
          obtain ⟨g7, h5⟩ := cond_some h5
          have g6 : b ≤ m := Nat.le_of_ble_eq_true g6
          have g7 : m ≤ len := Nat.le_of_ble_eq_true g7
          injection h5 with h5; subst h5
          refine fin a b m (m - a + 1) g4 g6 (by omega) (fun _ => rfl) (fun h => by omega) ?_
          unfold Instr.sliceBounds
          rcases hb with ⟨rfl, rfl⟩ | ⟨_, rfl⟩
          · exact absurd rfl (hmh (by simp))
          · rcases ha with ⟨rfl, rfl⟩ | ⟨_, rfl⟩
            · simp [sb m c _ (by omega) (by omega), sb b m _ g6 (by omega)]
            · simp [sb m c _ (by omega) (by omega), sb b m _ g6 (by omega), sb a b _ g4 (by omega)]
    | false =>
      rw [hc0, cond_false] at h1
      have hc0 : cap ≠ 0 := fun h => by rw [beq_yes h] at hc0; simp at hc0
      have hc1 := hcap hc0
      obtain ⟨a, h3, ha⟩ := optN_spec hl h1
      obtain ⟨b, h4, hb⟩ := optN_spec hhi h3
      obtain ⟨m, h5, hm'⟩ := optN_spec hm h4
      obtain ⟨g4, h5⟩ := cond_some h5
      obtain ⟨g5, h5⟩ := cond_some h5
      obtain ⟨g6, h5⟩ := cond_some h5
      have g4 : a ≤ b := Nat.le_of_ble_eq_true g4
      have g5 : b ≤ m := Nat.le_of_ble_eq_true g5
      have g6 : m ≤ cap - 1 := Nat.le_of_ble_eq_true g6
      injection h5 with h5; subst h5
      have e3 : Nat.pred cap = c := by show cap - 1 = c; omega
      rw [e3] at hm'
      exact fin a b m (m - a + 1) g4 g5 (by omega) (fun _ => rfl) (fun h => by omega)
        (run_bounds P w len c a b m xl xh xm (drp ha) (drp hb) (drp hm') hmh g4 g5 (by omega) (by omega) (fun _ => by omega) (fun _ _ => by omega))

/-- s[:hi]: nothing of memory is looked at. -/
noncomputable def slH (x hi : V) : Option V :=
  asL x none (asN hi none fun b => cond (Nat.beq b 0) (some .l0) none) fun id off len cap => asN hi none fun b => cond (Nat.ble len 1099511627776) (cond (Nat.ble cap 1099511627776)
    (cond (Nat.beq cap 0) (cond (Nat.ble b len) (some (.l id off b 0)) none) (cond (Nat.ble b (Nat.pred cap)) (some (.l id off b cap)) none)) none) none
theorem snd_slH (P : Program) {t e : TypeId} {i : TypeInfo} (ht : P.underlying t = some (.slice e)) (hi : P.info? e = some i) : Snd2 P slH (fun x h => Instr.sliceAt t x none (some h) none) := by
  intro ρ v v' x x' r w hv hv' hf
  have sb : ∀ (k y : Nat) (cc : BoundsCode), k ≤ y → k ≤ 1099511627776 → (Instr.sliceBound (.int .i64 (IntKind.i64.wrap (k : Int))) y cc).run P w = .ok k w := fun k y cc hk hk2 => by
    have ek : IntKind.i64.wrap (k : Int) = k := by rw [wrap_n k (by omega), if_pos (by omega)]
    rw [ek]
    unfold Instr.sliceBound
    rw [Sem.run_bind, run_asIntOf, Result.andThen_ok]
    show (if 0 ≤ (k : Int) ∧ (k : Int) ≤ (y : Int) then pure (k : Int).toNat else _ : Sem Nat).run P w = _
    rw [if_pos ⟨by omega, by omega⟩]
    have : (k : Int).toNat = k := by omega
    rw [this]; rfl
  rcases asL_some hf with ⟨ea, h1⟩ | ⟨id, off, len, cap, ea, h1⟩
  · obtain ⟨b, eb, h2⟩ := asN_some h1
    obtain ⟨g, h2⟩ := cond_some h2
    have g := Nat.eq_of_beq_eq_true g
    injection h2 with h2; subst h2
    subst ea; subst eb; subst g
    have := hv.l0; subst this
    obtain ⟨-, rfl⟩ := hv'.n
    refine ⟨.slice none 0 0, ?_, by unfold VR; exact ⟨rfl, rfl, rfl⟩⟩
    have sb0 : ∀ cc : BoundsCode, (Instr.sliceBound (.int .i64 (IntKind.i64.wrap 0)) 0 cc).run P w = .ok 0 w := fun cc => sb 0 0 cc (Nat.le_refl _) (by omega)
    rw [run_sliceAt P w ht hi none 0 0 none _ none 0 0 0 (by unfold Instr.sliceBounds; simp [sb0])]
    rfl
  · obtain ⟨b, eb, h2⟩ := asN_some h1
    obtain ⟨g1, h2⟩ := cond_some h2
    obtain ⟨g2, h2⟩ := cond_some h2
    have g1 : len ≤ 1099511627776 := Nat.le_of_ble_eq_true g1
    have g2 : cap ≤ 1099511627776 := Nat.le_of_ble_eq_true g2
    subst ea; subst eb
    obtain ⟨q, z, c, hq, rfl, hlc, hcap, hz, hun⟩ := hv.l
    obtain ⟨-, rfl⟩ := hv'.n
    have fin : b ≤ c → b ≤ 1099511627776 → ∃ y, (Instr.sliceAt t (.slice (some ⟨q.r, z, none⟩) len c) none (some (.int .i64 (IntKind.i64.wrap (b : Int)))) none).run P w = .ok y w ∧ VR ρ (.l id off b cap) y := fun hb hb2 => by
      refine ⟨_, run_sliceAt P w ht hi _ len c none _ none 0 b c (by unfold Instr.sliceBounds; simp [sb b c _ hb hb2]), ?_⟩
      have e1 : (if c = 0 then (some (⟨q.r, z, none⟩ : Addr)) else (some (⟨q.r, z, none⟩ : Addr)).map (·.add (0 * i.size))) = some ⟨q.r, z, none⟩ := by
        split <;> simp [add_mk]
      rw [e1]
      unfold VR
      exact ⟨rfl, hb, hcap, q, z, hq, rfl, hz, hun⟩
    cases hc0 : Nat.beq cap 0 with
    | true =>
      rw [hc0, cond_true] at h2
      obtain ⟨g3, h2⟩ := cond_some h2
      have g3 : b ≤ len := Nat.le_of_ble_eq_true g3
      have hc0 := Nat.eq_of_beq_eq_true hc0
      injection h2 with h2; subst h2
      subst hc0
      exact fin (by omega) (by omega)
    | false =>
      rw [hc0, cond_false] at h2
      have hc0 : cap ≠ 0 := fun h => by rw [beq_yes h] at hc0; simp at hc0
      obtain ⟨g3, h2⟩ := cond_some h2
      have g3 : b ≤ cap - 1 := Nat.le_of_ble_eq_true g3
      have := hcap hc0
      injection h2 with h2; subst h2
      exact fin (by omega) (by omega)

end Go.Proofs.YtnhgchnhfdimiaaGreatDoor.Ev
