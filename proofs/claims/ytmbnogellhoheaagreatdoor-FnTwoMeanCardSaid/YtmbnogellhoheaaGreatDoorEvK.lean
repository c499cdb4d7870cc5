/- Cuts of slices; append. -/
import Derived.Test.YtmbnogellhoheaaGreatDoorEvH
import Derived.Laws.Append
import Derived.Laws.AppendOwn
namespace Go.Proofs.YtmbnogellhoheaaGreatDoor.Ev
open Go
variable {ρ : Rho}

/-! ### cuts of slices -/
noncomputable def optN (o : Option V) (d : Nat) (k : Nat → Option V) : Option V := Option.casesOn o (k d) fun v => asN v none k
/-- A number of a place, given or not, as the model has it. -/
def optR (ρ : Rho) : Option V → Option Value → Prop
  | none, none => True
  | some v, some x => VR ρ v x
  | _, _ => False
/-- s[lo:hi:mx]: of a slice whose capacity isn't known nothing behind its length, and its elements' size is looked up. -/
noncomputable def slL (ec sz : Nat) (bs : TB) (x : V) (lo hi mx : Option V) : Option V :=
  asL x none
    (optN lo 0 fun a => optN hi 0 fun b => optN mx 0 fun m => cond (and (Nat.beq a 0) (and (Nat.beq b 0) (Nat.beq m 0))) (some .l0) none)
    fun id off len cap => cond (Nat.ble len 1099511627776) (cond (Nat.ble cap 1099511627776)
      (cond (Nat.beq cap 0)
        (bk bs id fun es _ _ => cond (Nat.beq es ec) (optN lo 0 fun a => optN hi len fun b => cond (Nat.ble a b) (cond (Nat.ble b len)
          (Option.casesOn mx (some (.l id (Nat.add off (Nat.mul a sz)) (Nat.sub b a) 0)) fun mv => asN mv none fun m => cond (Nat.ble b m) (cond (Nat.ble m len) (some (.l id (Nat.add off (Nat.mul a sz)) (Nat.sub b a) (Nat.succ (Nat.sub m a)))) none) none) none) none) none)
        (optN lo 0 fun a => optN hi len fun b => optN mx (Nat.pred cap) fun m => cond (Nat.ble a b) (cond (Nat.ble b m) (cond (Nat.ble m (Nat.pred cap)) (some (.l id (Nat.add off (Nat.mul a sz)) (Nat.sub b a) (Nat.succ (Nat.sub m a)))) none) none) none)) none) none
theorem optN_spec {o : Option V} {x : Option Value} {d : Nat} {k : Nat → Option V} {r : V} (ho : optR ρ o x) (h : optN o d k = some r) :
    ∃ m, k m = some r ∧ ((x = none ∧ m = d) ∨ (m < 18446744073709551616 ∧ x = some (.int .i64 (IntKind.i64.wrap m)))) := by
  cases o with
  | none => cases x with
    | none => exact ⟨d, h, .inl ⟨rfl, rfl⟩⟩
    | some _ => exact ho.elim
  | some v => cases x with
    | none => exact ho.elim
    | some x =>
      obtain ⟨m, rfl, h2⟩ := asN_some h
      obtain ⟨hm, rfl⟩ := VR.n ho
      exact ⟨m, h2, .inr ⟨hm, rfl⟩⟩
/-- The bounds as the model finds them. -/
theorem run_bounds (P : Program) (w : World) (len cap a b m : Nat) (lo hi mx : Option Value) (hl : (lo = none ∧ a = 0) ∨ lo = some (.int .i64 (IntKind.i64.wrap (a : Int)))) (hh : (hi = none ∧ b = len) ∨ hi = some (.int .i64 (IntKind.i64.wrap (b : Int))))
    (hm : (mx = none ∧ m = cap) ∨ mx = some (.int .i64 (IntKind.i64.wrap (m : Int)))) (hmh : mx ≠ none → hi ≠ none) (h1 : a ≤ b) (h2 : b ≤ m) (h3 : m ≤ cap) (hc : m ≤ 1099511627776) (hc2 : mx ≠ none → cap ≤ 1099511627776) (hc3 : mx = none → hi ≠ none → cap ≤ 1099511627776) :
    (Instr.sliceBounds true len cap lo hi mx).run P w = .ok (a, b, m) w := by
  have sb : ∀ (k y : Nat) (c : BoundsCode), k ≤ y → k ≤ 1099511627776 → (Instr.sliceBound (.int .i64 (IntKind.i64.wrap (k : Int))) y c).run P w = .ok k w := fun k y c hk hk2 => by
    have ek : IntKind.i64.wrap (k : Int) = k := by rw [wrap_n k (by omega), if_pos (by omega)]
    rw [ek]
    unfold Instr.sliceBound
    rw [Sem.run_bind, run_asIntOf, Result.andThen_ok]
    show (if 0 ≤ (k : Int) ∧ (k : Int) ≤ (y : Int) then pure (k : Int).toNat else _ : Sem Nat).run P w = _
    rw [if_pos ⟨by omega, by omega⟩]
    have : (k : Int).toNat = k := by omega
    rw [this]; rfl
  unfold Instr.sliceBounds
  rcases hm with ⟨rfl, rfl⟩ | rfl <;> rcases hh with ⟨rfl, rfl⟩ | rfl <;> rcases hl with ⟨rfl, rfl⟩ | rfl
  · simp
  · simp [sb a b _ h1 (by omega)]
  · simp [sb b m _ h2 (by omega)]
  · simp [sb b m _ h2 (by omega), sb a b _ h1 (by omega)]
  · exact absurd rfl (hmh (by simp))
  · exact absurd rfl (hmh (by simp))
  · simp [sb m cap _ h3 hc, sb b m _ h2 (by omega)]
  · simp [sb m cap _ h3 hc, sb b m _ h2 (by omega), sb a b _ h1 (by omega)]
theorem run_sliceAt (P : Program) (w : World) {t e : TypeId} {i : TypeInfo} (ht : P.underlying t = some (.slice e)) (hi : P.info? e = some i) (x : Option Addr) (len cap : Nat) (lo hx mx : Option Value) (a b m : Nat)
    (hb : (Instr.sliceBounds true len cap lo hx mx).run P w = .ok (a, b, m) w) : (Instr.sliceAt t (.slice x len cap) lo hx mx).run P w = .ok (.slice (if m = a then x else x.map (·.add (a * i.size))) (b - a) (m - a)) w := by
  unfold Instr.sliceAt
  rw [Sem.run_bind, run_underlying P w ht, Result.andThen_ok]
  show (Instr.slice t (.slice x len cap) lo hx mx).run P w = _
  unfold Instr.slice
  rw [Sem.run_bind, run_underlying P w ht, Result.andThen_ok]
  simp [hb, run_sizeOf P w hi]
theorem beq3 {a b m : Nat} (h : and (Nat.beq a 0) (and (Nat.beq b 0) (Nat.beq m 0)) = true) : a = 0 ∧ b = 0 ∧ m = 0 := by
  simp only [Bool.and_eq_true] at h
  exact ⟨Nat.eq_of_beq_eq_true h.1, Nat.eq_of_beq_eq_true h.2.1, Nat.eq_of_beq_eq_true h.2.2⟩
theorem snd_slL (P : Program) {t e : TypeId} {i : TypeInfo} (ht : P.underlying t = some (.slice e)) (hi : P.info? e = some i) {nx : Pos} {bs : TB} {w : World} (hh : HR ρ nx bs w) {v r : V} {x : Value} {lo hiv mx : Option V} {xl xh xm : Option Value}
    (hv : VR ρ v x) (hl : optR ρ lo xl) (hhi : optR ρ hiv xh) (hm : optR ρ mx xm) (hmh : xm ≠ none → xh ≠ none) {ec : Nat} (hec : ec % 65536 = i.size) (hf : slL ec i.size bs v lo hiv mx = some r) : ∃ y, (Instr.sliceAt t x xl xh xm).run P w = .ok y w ∧ VR ρ r y := by
  have drp : ∀ {k d : Nat} {z : Option Value}, (z = none ∧ k = d) ∨ (k < 18446744073709551616 ∧ z = some (.int .i64 (IntKind.i64.wrap (k : Int)))) → (z = none ∧ k = d) ∨ z = some (.int .i64 (IntKind.i64.wrap (k : Int))) := fun h => h.imp id And.right
  rcases asL_some hf with ⟨ea, h1⟩ | ⟨id, off, len, cap, ea, h1⟩
  · subst ea
    have := hv.l0; subst this
    obtain ⟨a, h2, ha⟩ := optN_spec hl h1
    obtain ⟨b, h3, hb⟩ := optN_spec hhi h2
    obtain ⟨m, h4, hm'⟩ := optN_spec hm h3
    obtain ⟨h5, h6⟩ := cond_some h4
    obtain ⟨rfl, rfl, rfl⟩ := beq3 h5
    injection h6 with h6; subst h6
    refine ⟨.slice none 0 0, ?_, by unfold VR; exact ⟨rfl, rfl, rfl⟩⟩
    rw [run_sliceAt P w ht hi none 0 0 xl xh xm 0 0 0 (run_bounds P w 0 0 0 0 0 xl xh xm (drp ha) (drp hb) (drp hm') hmh (by omega) (by omega) (by omega) (by omega) (fun _ => by omega) (fun _ _ => by omega))]
    rfl
  · subst ea
    obtain ⟨g1, h1⟩ := cond_some h1
    obtain ⟨g2, h1⟩ := cond_some h1
    have g1 : len ≤ 1099511627776 := Nat.le_of_ble_eq_true g1
    have g2 : cap ≤ 1099511627776 := Nat.le_of_ble_eq_true g2
    obtain ⟨q, z, c, hq, rfl, hlc, hcap, hz, hun⟩ := hv.l
    -- the result, once the bounds are known
    have fin : ∀ (a b m capn : Nat), a ≤ b → b ≤ m → m ≤ c → (capn ≠ 0 → (m - a) + 1 = capn) → (capn = 0 → (m - a = 0 ∨ z + a * i.size + (m - a) * (q.s % 65536) ≤ q.n)) →
        (Instr.sliceBounds true len c xl xh xm).run P w = .ok (a, b, m) w →
        ∃ y, (Instr.sliceAt t (.slice (some ⟨q.r, z, none⟩) len c) xl xh xm).run P w = .ok y w ∧ VR ρ (.l id (off + a * i.size) (b - a) capn) y := by
      intro a b m capn h1 h2 h3 h4 h5 hb
      refine ⟨_, run_sliceAt P w ht hi _ len c xl xh xm a b m hb, ?_⟩
      by_cases hma : m = a
      · rw [if_pos hma]
        unfold VR
        exact ⟨rfl, by omega, h4, q, z, hq, rfl, .inl (by omega), fun _ => .inl (by omega)⟩
      · rw [if_neg hma]
        have e1 : (some (⟨q.r, z, none⟩ : Addr)).map (·.add (a * i.size)) = some ⟨q.r, z + a * i.size, none⟩ := by simp [add_mk]
        rw [e1]
        unfold VR
        refine ⟨rfl, by omega, h4, q, z + a * i.size, hq, rfl, .inr ?_, h5⟩
        rcases hz with hz | hz
        · omega
        · rw [hz]; omega
    cases hc0 : Nat.beq cap 0 with
    | true =>
      rw [hc0, cond_true] at h1
      have hc0 := Nat.eq_of_beq_eq_true hc0
      obtain ⟨es, sz, cs, hlive, h2⟩ := bk_some h1
      obtain ⟨g3, h2⟩ := cond_some h2
      have g3 := Nat.eq_of_beq_eq_true g3
      obtain ⟨q', hq', hes, -⟩ := hh.live _ _ _ _ hlive
      rw [hq] at hq'; injection hq' with hq'; subst hq'
      obtain ⟨a, h3, ha⟩ := optN_spec hl h2
      obtain ⟨b, h4, hb⟩ := optN_spec hhi h3
      obtain ⟨g4, h4⟩ := cond_some h4
      obtain ⟨g5, h4⟩ := cond_some h4
      have g4 : a ≤ b := Nat.le_of_ble_eq_true g4
      have g5 : b ≤ len := Nat.le_of_ble_eq_true g5
      have sb : ∀ (k y : Nat) (cc : BoundsCode), k ≤ y → k ≤ 1099511627776 → (Instr.sliceBound (.int .i64 (IntKind.i64.wrap (k : Int))) y cc).run P w = .ok k w := fun k y cc hk hk2 => by
        have ek : IntKind.i64.wrap (k : Int) = k := by rw [wrap_n k (by omega), if_pos (by omega)]
        rw [ek]
        unfold Instr.sliceBound
        rw [Sem.run_bind, run_asIntOf, Result.andThen_ok]
        show (if 0 ≤ (k : Int) ∧ (k : Int) ≤ (y : Int) then pure (k : Int).toNat else _ : Sem Nat).run P w = _
        rw [if_pos ⟨by omega, by omega⟩]
        have : (k : Int).toNat = k := by omega
        rw [this]; rfl
      cases mx with
      | none =>
        cases xm with
        | some _ => exact hm.elim
        | none =>
          have h4 : some (V.l id (Nat.add off (Nat.mul a i.size)) (Nat.sub b a) 0) = some r := h4
          injection h4 with h4; subst h4
          refine fin a b c 0 g4 (by omega) (Nat.le_refl _) (fun h => absurd rfl h) (fun _ => ?_) ?_
          · rcases hun hc0 with h | h
            · left; omega
            · by_cases hx : c - a = 0
              · exact .inl hx
              · right
                have e2 : a * i.size + (c - a) * (q.s % 65536) = c * (q.s % 65536) := by
                  rw [hes.1, g3, hec, ← Nat.add_mul]; congr 1; omega
                omega
          · unfold Instr.sliceBounds
            rcases hb with ⟨rfl, rfl⟩ | ⟨_, rfl⟩ <;> rcases ha with ⟨rfl, rfl⟩ | ⟨_, rfl⟩
            · simp
            · simp [sb a b _ g4 (by omega)]
            · simp [sb b c _ (by omega) (by omega)]
            · simp [sb b c _ (by omega) (by omega), sb a b _ g4 (by omega)]
      | some mv =>
        cases xm with
        | none => exact hm.elim
        | some xm =>
          obtain ⟨m, em, h5⟩ := asN_some h4
          subst em
          obtain ⟨hm1, rfl⟩ := VR.n hm
          obtain ⟨g6, h5⟩ := cond_some h5
          obtain ⟨g7, h5⟩ := cond_some h5
          have g6 : b ≤ m := Nat.le_of_ble_eq_true g6
          have g7 : m ≤ len := Nat.le_of_ble_eq_true g7
          injection h5 with h5; subst h5
          refine fin a b m (m - a + 1) g4 g6 (by omega) (fun _ => rfl) (fun h => by omega) ?_
          unfold Instr.sliceBounds
          rcases hb with ⟨rfl, rfl⟩ | ⟨_, rfl⟩
          · exact absurd rfl (hmh (by simp))
          · rcases ha with ⟨rfl, rfl⟩ | ⟨_, rfl⟩
            · simp [sb m c _ (by omega) (by omega), sb b m _ g6 (by omega)]
            · simp [sb m c _ (by omega) (by omega), sb b m _ g6 (by omega), sb a b _ g4 (by omega)]
    | false =>
      rw [hc0, cond_false] at h1
      have hc0 : cap ≠ 0 := fun h => by rw [beq_yes h] at hc0; simp at hc0
      have hc1 := hcap hc0
      obtain ⟨a, h3, ha⟩ := optN_spec hl h1
      obtain ⟨b, h4, hb⟩ := optN_spec hhi h3
      obtain ⟨m, h5, hm'⟩ := optN_spec hm h4
      obtain ⟨g4, h5⟩ := cond_some h5
      obtain ⟨g5, h5⟩ := cond_some h5
      obtain ⟨g6, h5⟩ := cond_some h5
      have g4 : a ≤ b := Nat.le_of_ble_eq_true g4
      have g5 : b ≤ m := Nat.le_of_ble_eq_true g5
      have g6 : m ≤ cap - 1 := Nat.le_of_ble_eq_true g6
      injection h5 with h5; subst h5
      have e3 : Nat.pred cap = c := by show cap - 1 = c; omega
      rw [e3] at hm'
      exact fin a b m (m - a + 1) g4 g5 (by omega) (fun _ => rfl) (fun h => by omega)
        (run_bounds P w len c a b m xl xh xm (drp ha) (drp hb) (drp hm') hmh g4 g5 (by omega) (by omega) (fun _ => by omega) (fun _ _ => by omega))

/-- s[:hi]: nothing of memory is looked at. -/
noncomputable def slH (x hi : V) : Option V :=
  asL x none (asN hi none fun b => cond (Nat.beq b 0) (some .l0) none) fun id off len cap => asN hi none fun b => cond (Nat.ble len 1099511627776) (cond (Nat.ble cap 1099511627776)
    (cond (Nat.beq cap 0) (cond (Nat.ble b len) (some (.l id off b 0)) none) (cond (Nat.ble b (Nat.pred cap)) (some (.l id off b cap)) none)) none) none
theorem snd_slH (P : Program) {t e : TypeId} {i : TypeInfo} (ht : P.underlying t = some (.slice e)) (hi : P.info? e = some i) : Snd2 P slH (fun x h => Instr.sliceAt t x none (some h) none) := by
  intro ρ v v' x x' r w hv hv' hf
  have sb : ∀ (k y : Nat) (cc : BoundsCode), k ≤ y → k ≤ 1099511627776 → (Instr.sliceBound (.int .i64 (IntKind.i64.wrap (k : Int))) y cc).run P w = .ok k w := fun k y cc hk hk2 => by
    have ek : IntKind.i64.wrap (k : Int) = k := by rw [wrap_n k (by omega), if_pos (by omega)]
    rw [ek]
    unfold Instr.sliceBound
    rw [Sem.run_bind, run_asIntOf, Result.andThen_ok]
    show (if 0 ≤ (k : Int) ∧ (k : Int) ≤ (y : Int) then pure (k : Int).toNat else _ : Sem Nat).run P w = _
    rw [if_pos ⟨by omega, by omega⟩]
    have : (k : Int).toNat = k := by omega
    rw [this]; rfl
  rcases asL_some hf with ⟨ea, h1⟩ | ⟨id, off, len, cap, ea, h1⟩
  · obtain ⟨b, eb, h2⟩ := asN_some h1
    obtain ⟨g, h2⟩ := cond_some h2
    have g := Nat.eq_of_beq_eq_true g
    injection h2 with h2; subst h2
    subst ea; subst eb; subst g
    have := hv.l0; subst this
    obtain ⟨-, rfl⟩ := hv'.n
    refine ⟨.slice none 0 0, ?_, by unfold VR; exact ⟨rfl, rfl, rfl⟩⟩
    have sb0 : ∀ cc : BoundsCode, (Instr.sliceBound (.int .i64 (IntKind.i64.wrap 0)) 0 cc).run P w = .ok 0 w := fun cc => sb 0 0 cc (Nat.le_refl _) (by omega)
    rw [run_sliceAt P w ht hi none 0 0 none _ none 0 0 0 (by unfold Instr.sliceBounds; simp [sb0])]
    rfl
  · obtain ⟨b, eb, h2⟩ := asN_some h1
    obtain ⟨g1, h2⟩ := cond_some h2
    obtain ⟨g2, h2⟩ := cond_some h2
    have g1 : len ≤ 1099511627776 := Nat.le_of_ble_eq_true g1
    have g2 : cap ≤ 1099511627776 := Nat.le_of_ble_eq_true g2
    subst ea; subst eb
    obtain ⟨q, z, c, hq, rfl, hlc, hcap, hz, hun⟩ := hv.l
    obtain ⟨-, rfl⟩ := hv'.n
    have fin : b ≤ c → b ≤ 1099511627776 → ∃ y, (Instr.sliceAt t (.slice (some ⟨q.r, z, none⟩) len c) none (some (.int .i64 (IntKind.i64.wrap (b : Int)))) none).run P w = .ok y w ∧ VR ρ (.l id off b cap) y := fun hb hb2 => by
      refine ⟨_, run_sliceAt P w ht hi _ len c none _ none 0 b c (by unfold Instr.sliceBounds; simp [sb b c _ hb hb2]), ?_⟩
      have e1 : (if c = 0 then (some (⟨q.r, z, none⟩ : Addr)) else (some (⟨q.r, z, none⟩ : Addr)).map (·.add (0 * i.size))) = some ⟨q.r, z, none⟩ := by
        split <;> simp [add_mk]
      rw [e1]
      unfold VR
      exact ⟨rfl, hb, hcap, q, z, hq, rfl, hz, hun⟩
    cases hc0 : Nat.beq cap 0 with
    | true =>
      rw [hc0, cond_true] at h2
      obtain ⟨g3, h2⟩ := cond_some h2
      have g3 : b ≤ len := Nat.le_of_ble_eq_true g3
      have hc0 := Nat.eq_of_beq_eq_true hc0
      injection h2 with h2; subst h2
      subst hc0
      exact fin (by omega) (by omega)
    | false =>
      rw [hc0, cond_false] at h2
      have hc0 : cap ≠ 0 := fun h => by rw [beq_yes h] at hc0; simp at hc0
      obtain ⟨g3, h2⟩ := cond_some h2
      have g3 : b ≤ cap - 1 := Nat.le_of_ble_eq_true g3
      have := hcap hc0
      injection h2 with h2; subst h2
      exact fin (by omega) (by omega)

end Go.Proofs.YtmbnogellhoheaaGreatDoor.Ev

/- append. -/
namespace Go.Proofs.YtmbnogellhoheaaGreatDoor.Ev
open Go
variable {ρ : Rho}

/-- Cells of a live name, as the model's values. -/
theorem row_of {w : World} {sz : Nat} {cs : TV} {q : Pl} (h : BR ρ w sz cs q) {off n : Nat} (hb : off + n ≤ sz) :
    ∃ vs : List Value, vs.length = n ∧ (∀ j v, vs[j]? = some v → w.cell? ((⟨q.r, q.o + off, none⟩ : Addr).add j) = some v) ∧ ∀ j, j < n → ∃ v, vs[j]? = some v ∧ VR ρ (cs.at (off + j + 1)) v := by
  obtain ⟨C, fz, g1, g0, g2, g3⟩ := h
  have hg : ∀ j, j < n → ∃ x, C[q.o + off + j]? = some x ∧ VR ρ (cs.at (off + j + 1)) x := fun j hj => by
    obtain ⟨x, hx, hv⟩ := g2 (off + j) (by omega)
    rw [show q.o + off + j = q.o + (off + j) by omega]
    exact ⟨x, hx, hv⟩
  refine ⟨(List.range n).map fun j => C.getD (q.o + off + j) undef, by simp, fun j v hv => ?_, fun j hj => ?_⟩
  · have hj : j < n := by
      rcases Nat.lt_or_ge j n with hh | hh
      · exact hh
      · rw [List.getElem?_eq_none (by simpa using hh)] at hv; simp at hv
    obtain ⟨x, hx, -⟩ := hg j hj
    rw [add_mk, cell_of g1, hx]
    simp [hj, Array.getD_eq_getD_getElem?, hx] at hv
    rw [hv]
  · obtain ⟨x, hx, hv⟩ := hg j hj
    exact ⟨x, by simp [hj, Array.getD_eq_getD_getElem?, hx], hv⟩

/-- Old cells from number a + 1 on, so many; behind them new ones, from number b + 1 on of another trie. -/
noncomputable def join (n a : Nat) (cs : TV) (m b : Nat) (ds : TV) : TV :=
  cond (Nat.beq n 0) (cond (Nat.beq b 0) ds (into (ds.take m (Nat.succ b)) .e 1))
    (into (ds.take m (Nat.succ b)) (cond (Nat.beq a 0) cs (into (cs.take n (Nat.succ a)) .e 1)) (Nat.succ n))
theorem into_take {ds : TV} {m b : Nat} {t : TV} {s k : Nat} (hs : 1 ≤ s) (hk : k < m) (hb : s + m ≤ 2 ^ 40) : (into (ds.take m (b + 1)) t s).at (s + k) = ds.at (b + k + 1) := by
  have hl : (ds.take m (b + 1)).length = m := TV.take_length ..
  have := into_at (ds.take m (b + 1)) t s k hs (by rw [hl]; exact hk) (by rw [hl]; exact hb)
  rw [TV.take_get ds m (b + 1) k hk] at this
  injection this with this
  rw [← this]; congr 1; omega
theorem join_at {n a m b : Nat} {cs ds : TV} {k : Nat} (hk : k < n + m) (hbig : n + m + 1 ≤ 2 ^ 40) : (join n a cs m b ds).at (k + 1) = if k < n then cs.at (a + k + 1) else ds.at (b + (k - n) + 1) := by
  unfold join
  by_cases h0 : n = 0
  · subst h0
    rw [beq_yes rfl, cond_true, if_neg (by omega)]
    by_cases hb0 : b = 0
    · subst hb0; rw [beq_yes rfl, cond_true]; congr 1; omega
    · rw [beq_no hb0, cond_false]
      have := into_take (ds := ds) (m := m) (b := b) (t := .e) (s := 1) (k := k) (by omega) (by omega) (by omega)
      rw [show 1 + k = k + 1 by omega] at this
      rw [show b + (k - 0) + 1 = b + k + 1 by omega]
      exact this
  · rw [beq_no h0, cond_false]
    by_cases hkn : k < n
    · rw [if_pos hkn, into_ne _ _ _ _ (by omega) (by omega) (.inl (by show k + 1 < n + 1; omega))]
      by_cases ha0 : a = 0
      · subst ha0; rw [beq_yes rfl, cond_true]; congr 1; omega
      · rw [beq_no ha0, cond_false]
        have := into_take (ds := cs) (m := n) (b := a) (t := .e) (s := 1) (k := k) (by omega) hkn (by omega)
        rw [show 1 + k = k + 1 by omega] at this
        exact this
    · rw [if_neg hkn]
      have := into_take (ds := ds) (m := m) (b := b) (t := cond (Nat.beq a 0) cs (into (cs.take n (Nat.succ a)) .e 1)) (s := n + 1) (k := k - n) (by omega) (by omega) (by omega)
      rw [show n + 1 + (k - n) = k + 1 by omega] at this
      exact this

/-- What becomes of an append: the slice, the next name, the blocks. -/
inductive AR where
  | mk (v : V) (nx : Pos) (bs : TB)
/-- The new elements: none, or so many cells of a live name from a place on. -/
noncomputable def srcL {α : Type} (sz : Nat) (bs : TB) (x : V) (zero : Option α) (k : Nat → Nat → TV → Option α) : Option α :=
  asL x none zero fun i o l _ => cond (Nat.beq l 0) zero (bk bs i fun _ szi cs => cond (Nat.ble (Nat.add o (Nat.mul l sz)) szi) (k l o cs) none)
/-- Behind s so many cells of a trie from number b + 1 on: m elements, not none. -/
noncomputable def appC (ec sz : Nat) (nx : Pos) (bs : TB) (s : V) (m b : Nat) (ds : TV) : Option AR :=
    asL s none
      (cond (Nat.ble m 1048576) (some (.mk (.l nx 0 m 0) nx.inc (bs.set nx (.mk ec (Nat.mul m sz) (join 0 0 .e (Nat.mul m sz) b ds))))) none)
      fun i o l c => cond (Nat.ble (Nat.add l m) 1048576)
        (cond (Nat.beq c 0)
          (bk bs i fun es szi cs => cond (Nat.beq es ec) (cond (Nat.ble (Nat.add o (Nat.mul l sz)) szi) (cond (flatL (ds.take (Nat.mul m sz) (Nat.succ b)))
            (some (.mk (.l nx 0 (Nat.add l m) 0) nx.inc ((bs.set i .none).set nx (.mk ec (Nat.mul (Nat.add l m) sz) (join (Nat.mul l sz) o cs (Nat.mul m sz) b ds))))) none) none) none)
          (cond (Nat.ble (Nat.add l m) (Nat.pred c))
            (bk bs i fun es szi cs => cond (Nat.ble (Nat.add o (Nat.mul (Nat.add l m) sz)) szi) (cond (Nat.ble szi 1099511627775)
              (cond (flatL (ds.take (Nat.mul m sz) (Nat.succ b))) (some (.mk (.l i o (Nat.add l m) c) nx (bs.set i (.mk es szi (into (ds.take (Nat.mul m sz) (Nat.succ b)) cs (Nat.succ (Nat.add o (Nat.mul l sz)))))))) none) none) none)
            (cond (Nat.beq l 0)
              (some (.mk (.l nx 0 m 0) nx.inc (bs.set nx (.mk ec (Nat.mul m sz) (join 0 0 .e (Nat.mul m sz) b ds)))))
              (bk bs i fun _ szi cs => cond (Nat.ble (Nat.add o (Nat.mul l sz)) szi)
                (some (.mk (.l nx 0 (Nat.add l m) 0) nx.inc (bs.set nx (.mk ec (Nat.mul (Nat.add l m) sz) (join (Nat.mul l sz) o cs (Nat.mul m sz) b ds))))) none))))
        none
noncomputable def appL (ec sz : Nat) (nx : Pos) (bs : TB) (s x : V) : Option AR :=
  srcL sz bs x (asL s none (some (.mk s nx bs)) fun _ _ _ _ => some (.mk s nx bs)) (appC ec sz nx bs s)
/-- The bytes of a text. -/
noncomputable def strV (l : Nat) : Nat → List V := Nat.rec (motive := fun _ => Nat → List V) (fun _ => []) (fun _ ih m => .y (Nat.mod m 256) :: ih (Nat.div m 256)) l
noncomputable def appY (ec : Nat) (nx : Pos) (bs : TB) (s x : V) : Option AR :=
  asS x none fun l m => cond (Nat.beq l 0) (asL s none (some (.mk s nx bs)) fun _ _ _ _ => some (.mk s nx bs)) (cond (Nat.ble l 1048576) (appC ec 1 nx bs s l 0 (into (strV l m) .e 1)) none)

/-- A name taken over by the next one, over the same real block (the old one is not live any more). -/
theorem HR0.take {nx : Pos} {bs : TB} {w w' : World} (h : HR0 ρ nx bs w) {i : Pos} {es sz : Nat} {cs : TV} (hl : Live bs i es sz cs) (he0 : es % 65536 ≠ 0) {q : Pl} (hr : ρ i = some q) {off n : Nat} {J : TV} {C' : Array Value} {fz : Nat × Nat}
    (hw : w'.heap[q.r]? = some (.cells C' (q.s / 65536) fz)) (hn : C'.size = q.n) (hother : ∀ b, b ≠ q.r → w'.heap[b]? = w.heap[b]?) (hsz : w'.heap.size = w.heap.size) (hfz : ∀ k, q.o ≤ k → k < q.n → ¬ (fz.1 ≤ k ∧ k < fz.2))
    (hc : ∀ k, k < n → ∃ x, C'[q.o + off + k]? = some x ∧ VR ρ (J.at (k + 1)) x) (hev : Evn w w') (hfr : fzAt w q.r = some fz) :
    HR0 (upd ρ nx ⟨q.r, q.o + off, q.n, q.s, none, none⟩) nx.inc ((bs.set i .none).set nx (.mk es n J)) w' ∧ Ext ρ nx bs w (upd ρ nx ⟨q.r, q.o + off, q.n, q.s, none, none⟩) nx.inc ((bs.set i .none).set nx (.mk es n J)) w' := by
  have hle := upd_le h ⟨q.r, q.o + off, q.n, q.s, none, none⟩
  have hni : i ≠ nx := by
    rintro rfl
    have := (h.fresh i (Nat.le_refl _)).1
    rw [hr] at this; simp at this
  obtain ⟨q', hr', hes, -⟩ := h.live i es sz cs hl
  rw [hr] at hr'; injection hr' with hr'; subst hr'
  refine ⟨⟨?_, ?_, ?_, ?_⟩, ⟨hle, by rw [hsz]; exact Nat.le_refl _, ?_, ?_, by rw [Pos.inc_val]; omega, fun id hid hn => by rw [upd_ne ρ _ (Pos.ne_of_val (by omega))]; exact hn, hev, fun b _ _ => by
    by_cases e : b = q.r
    · subst e; rw [fzAt_cells hw, hfr]
    · exact fzAt_of (hother b e)⟩⟩
  · intro id es' sz' cs' hl'
    rcases live_set hl' with ⟨rfl, rfl, rfl, rfl⟩ | ⟨hne, hl'⟩
    · refine ⟨_, upd_same .., ⟨hes.1, fun h => absurd h he0⟩, C', fz, hw, hn, fun k hk => ?_, fun k h1 h2 => hfz k (by simp at h1; omega) h2⟩
      obtain ⟨x, hx, hv⟩ := hc k hk
      exact ⟨x, hx, VR.mono hle _ _ hv⟩
    · obtain ⟨hne2, hl'⟩ := live_none hl'
      obtain ⟨q', h1, h2, h3⟩ := h.live _ _ _ _ hl'
      refine ⟨q', hle _ _ h1, h2, h3.mono hle (hother _ fun e => hne2 (h.apart _ _ _ _ _ _ _ _ _ _ hl' hl h1 hr e))⟩
  · intro id id' es1 sz1 cs1 es2 sz2 cs2 q1 q2 hl1 hl2 h1 h2 hqq
    rcases live_set hl1 with ⟨e1, -, -⟩ | ⟨hne, hm⟩ <;> rcases live_set hl2 with ⟨e2, -, -⟩ | ⟨hne', hm'⟩
    · rw [e1, e2]
    · obtain ⟨hne2, hm'⟩ := live_none hm'
      subst e1
      rw [upd_same] at h1; rw [upd_ne ρ _ hne'] at h2
      injection h1 with h1; subst h1
      exact absurd (h.apart _ _ _ _ _ _ _ _ _ _ hl hm' hr h2 hqq).symm hne2
    · obtain ⟨hne2, hm⟩ := live_none hm
      subst e2
      rw [upd_same] at h2; rw [upd_ne ρ _ hne] at h1
      injection h2 with h2; subst h2
      exact absurd (h.apart _ _ _ _ _ _ _ _ _ _ hm hl h1 hr hqq) hne2
    · obtain ⟨-, hm⟩ := live_none hm
      obtain ⟨-, hm'⟩ := live_none hm'
      rw [upd_ne ρ _ hne] at h1; rw [upd_ne ρ _ hne'] at h2
      exact h.apart _ _ _ _ _ _ _ _ _ _ hm hm' h1 h2 hqq
  · intro id hid
    rw [Pos.inc_val] at hid
    have hne : id ≠ nx := Pos.ne_of_val (by omega)
    have hne2 : i ≠ id := by
      rintro rfl
      have := (h.fresh i (by omega)).1
      rw [hr] at this; simp at this
    rw [upd_ne ρ _ hne, TB.get_set_ne _ (Ne.symm hne), TB.get_set_ne _ hne2]
    exact h.fresh id (by omega)
  · intro id q1 h1
    rw [hsz]
    by_cases hi : id = nx
    · subst hi; rw [upd_same] at h1; injection h1 with h1; subst h1; show q.r < _; exact h.inside _ _ hr
    · rw [upd_ne ρ _ hi] at h1; exact h.inside _ _ h1
  · intro b hb ho
    exact hother b fun e => ho ⟨i, es, sz, cs, q, hl, hr, e.symm⟩
  · rintro b hb ⟨id, es', sz', cs', q1, hl', h1, hq⟩
    rcases live_set hl' with ⟨rfl, -, -⟩ | ⟨hne, hl'⟩
    · rw [upd_same] at h1; injection h1 with h1; subst h1
      exact ⟨i, es, sz, cs, q, hl, hr, hq⟩
    · obtain ⟨-, hl'⟩ := live_none hl'
      rw [upd_ne ρ _ hne] at h1
      exact ⟨id, es', sz', cs', q1, hl', h1, hq⟩
theorem HR.take {nx : Pos} {bs : TB} {w w' : World} (h : HR ρ nx bs w) {i : Pos} {es sz : Nat} {cs : TV} (hl : Live bs i es sz cs) (he0 : es % 65536 ≠ 0) {q : Pl} (hr : ρ i = some q) {off n : Nat} {J : TV} {C' : Array Value} {fz : Nat × Nat}
    (hw : w'.heap[q.r]? = some (.cells C' (q.s / 65536) fz)) (hn : C'.size = q.n) (hother : ∀ b, b ≠ q.r → w'.heap[b]? = w.heap[b]?) (hsz : w'.heap.size = w.heap.size) (hfz : ∀ k, q.o ≤ k → k < q.n → ¬ (fz.1 ≤ k ∧ k < fz.2))
    (hc : ∀ k, k < n → ∃ x, C'[q.o + off + k]? = some x ∧ VR ρ (J.at (k + 1)) x) (hev : Evn w w') (hfr : fzAt w q.r = some fz) :
    HR (upd ρ nx ⟨q.r, q.o + off, q.n, q.s, none, none⟩) nx.inc ((bs.set i .none).set nx (.mk es n J)) w' ∧ Ext ρ nx bs w (upd ρ nx ⟨q.r, q.o + off, q.n, q.s, none, none⟩) nx.inc ((bs.set i .none).set nx (.mk es n J)) w' := by
  obtain ⟨k1, k2⟩ := h.toHR0.take hl he0 hr hw hn hother hsz hfz hc hev hfr
  exact ⟨h.step k1 k2, k2⟩
/-- What is appended: so many elements, these cells. -/
structure Src (P : Program) (w : World) (t2 : TypeId) (x : Value) (size n : Nat) (news : List Value) : Prop where
  ty : ∃ d2, P.underlying t2 = some d2 ∧ ((∃ e2, d2 = .slice e2) ∨ d2 = .string)
  len : Builtin.lenOf x = pure n
  num : news.length = n * size
  load : (Builtin.firstCells size n x).run P w = .ok news.toArray w
  load' : (Builtin.firstCells size n x).run P w.drew = .ok news.toArray w.drew
/-- An append that fits the capacity: the new cells are stored behind the old ones. -/
theorem run_append_fit (P : Program) (w : World) {t t2 ty e : TypeId} {i : TypeInfo} (ht : P.underlying t = some (.slice e)) (hi : P.info? e = some i)
    {r z sLen sCap : Nat} {x : Value} {n : Nat} {news : List Value} (hx : Src P w t2 x i.size n news) (hfit : sLen + n ≤ sCap)
    {C : Array Value} {E : TypeId} {fz : Nat × Nat} (h1 : w.heap[r]? = some (.cells C E fz)) (h2 : z + (sLen + n) * i.size ≤ C.size) (hf : ∀ k, z ≤ k → k < C.size → ¬ (fz.1 ≤ k ∧ k < fz.2)) (ho : ∀ y ∈ news, y.oneCell' = true) :
    (Builtin.append_ #[t, t2] ty #[.slice (some ⟨r, z, none⟩) sLen sCap, x]).run P w = .ok (.slice (some ⟨r, z, none⟩) (sLen + n) sCap) (w.setCells r (z + sLen * i.size) news) := by
  obtain ⟨⟨d2, ht2, hd2⟩, hlen, hl, hld, -⟩ := hx
  have hm : (sLen + n) * i.size = sLen * i.size + n * i.size := Nat.add_mul ..
  have hs := run_storeCells_cells (P := P) r (z + sLen * i.size) news 0 w (fun j hj => by rw [Nat.add_zero, cell_of h1]; simp; omega)
    (fun j hj => by rw [Nat.add_zero]; exact frozen_of h1 _ (hf _ (by omega) (by omega))) ho
  unfold Builtin.append_
  rcases hd2 with ⟨e2, rfl⟩ | rfl
  · simp [run_underlying P w ht, run_underlying P w ht2, run_sizeOf P w hi, hlen, hfit, hld, add_mk, hs]
  · simp [run_underlying P w ht, run_underlying P w ht2, run_sizeOf P w hi, hlen, hfit, hld, add_mk, hs]
/-- An append of nothing. -/
theorem run_append_none (P : Program) (w : World) {t t2 ty e : TypeId} {i : TypeInfo} (ht : P.underlying t = some (.slice e)) (hi : P.info? e = some i)
    {x : Value} (hx : Src P w t2 x i.size 0 []) (b : Option Addr) (sLen sCap : Nat) (h : sLen ≤ sCap) :
    (Builtin.append_ #[t, t2] ty #[.slice b sLen sCap, x]).run P w = .ok (.slice b sLen sCap) w := by
  obtain ⟨⟨d2, ht2, hd2⟩, hlen, hl, hld, -⟩ := hx
  unfold Builtin.append_
  rcases hd2 with ⟨e2, rfl⟩ | rfl <;> cases b <;> simp [run_underlying P w ht, run_underlying P w ht2, run_sizeOf P w hi, hlen, h, hld, storeCells]
/-- An append that does not fit: a new row. -/
theorem run_append_new (P : Program) (w : World) {t t2 ty e : TypeId} {i : TypeInfo} {z : Value} (ht : P.underlying t = some (.slice e)) (hi : P.info? e = some i) (hz : i.zero = some z)
    (b : Option Addr) (sLen sCap : Nat) (olds : List Value) (hlo : olds.length = sLen * i.size) (holds : ∀ x, b = some x → ∀ j v, olds[j]? = some v → w.cell? (x.add j) = some v) (hb0 : b = none → olds = [])
    {x : Value} {n : Nat} {news : List Value} (hx : Src P w t2 x i.size n news)
    (hg : sCap < sLen + n) (hbig : sLen + n ≤ 1048576) (hbytes : i.bytes ≤ 65536) :
    (Builtin.append_ #[t, t2] ty #[.slice b sLen sCap, x]).run P w =
      .ok (.slice (some ⟨w.heap.size, 0, none⟩) (sLen + n) (grownCap w (sLen + n) sCap e))
        (w.drew.alloc (.cells (olds.toArray ++ news.toArray ++ Builtin.zeroCells z.cells (grownCap w (sLen + n) sCap e - (sLen + n))) e)) := by
  obtain ⟨⟨d2, ht2, hd2⟩, hlen, hl, -, hf⟩ := hx
  have hn : ¬ (sLen + n ≤ sCap) := by omega
  have h63' : ¬ (9223372036854775807 < ((sLen : Int) + (n : Int))) := by omega
  have hfit := growslice_fits (bytes := i.bytes) hg (Nat.le_trans (Nat.mul_le_mul hbig hbytes) (by decide))
  have h48' : ¬ (281474976710656 < Builtin.nextslicecap (sLen + n) sCap * i.bytes) := by omega
  cases b with
  | none =>
    have e0 := hb0 rfl
    subst e0
    have hf0 : (Builtin.firstCells i.size sLen (.slice none sLen sCap)).run P w.drew = .ok #[] w.drew := rfl
    rcases hd2 with ⟨e2, rfl⟩ | rfl
    · simp [Builtin.append_, run_underlying P w ht, run_underlying P w ht2, sizeOf, typeInfo, zeroValue, hi, hz, hlen, hn, h63', h48', Question.forced, hf0, hf, newRow, grownCap]
    · simp [Builtin.append_, run_underlying P w ht, run_underlying P w ht2, sizeOf, typeInfo, zeroValue, hi, hz, hlen, hn, h63', h48', Question.forced, hf0, hf, newRow, grownCap]
  | some x' =>
    have hfo : (Builtin.firstCells i.size sLen (.slice (some x') sLen sCap)).run P w.drew = .ok olds.toArray w.drew := by
      show (loadCells x' (sLen * i.size)).run P w.drew = _
      rw [← hlo]; exact run_loadCells_list (P := P) w.drew x' olds (by simpa using holds x' rfl)
    rcases hd2 with ⟨e2, rfl⟩ | rfl
    · simp [Builtin.append_, run_underlying P w ht, run_underlying P w ht2, sizeOf, typeInfo, zeroValue, hi, hz, hlen, hn, h63', h48', Question.forced, hf, hfo, newRow, grownCap]
      congr 2
      apply Array.ext'
      simp [List.append_assoc]
    · simp [Builtin.append_, run_underlying P w ht, run_underlying P w ht2, sizeOf, typeInfo, zeroValue, hi, hz, hlen, hn, h63', h48', Question.forced, hf, hfo, newRow, grownCap]
      congr 2
      apply Array.ext'
      simp [List.append_assoc]

/-- What an append's types are to be. -/
structure AppOk (P : Program) (t e : TypeId) (i : TypeInfo) (z : Value) : Prop where
  ht : P.underlying t = some (.slice e)
  hi : P.info? e = some i
  hz : i.zero = some z
  hs : z.cells.size = i.size
  h0 : i.size ≠ 0
  hb : i.bytes ≤ 65536
  h1 : i.size < 65536
/-- A name let go. -/
theorem HR0.drop {nx : Pos} {bs : TB} {w : World} (h : HR0 ρ nx bs w) (i : Pos) : HR0 ρ nx (bs.set i .none) w := by
  refine ⟨fun id es sz cs hl => h.live id es sz cs (live_none hl).2, fun id id' _ _ _ _ _ _ _ _ h1 h2 => h.apart _ _ _ _ _ _ _ _ _ _ (live_none h1).2 (live_none h2).2, fun id hid => ⟨(h.fresh id hid).1, ?_⟩, h.inside⟩
  by_cases e : i = id
  · subst e; rw [TB.get_set_same]
  · rw [TB.get_set_ne _ e]; exact (h.fresh id hid).2
theorem HR.drop {nx : Pos} {bs : TB} {w : World} (h : HR ρ nx bs w) (i : Pos) : HR ρ nx (bs.set i .none) w :=
  ⟨h.toHR0.drop i, h.base, fun id q o h1 h2 h3 => ⟨(h.fix id q o h1 h2 h3).1, fun ⟨id', es, sz, cs, q', k1, k2⟩ => (h.fix id q o h1 h2 h3).2 ⟨id', es, sz, cs, q', (live_none k1).2, k2⟩⟩⟩
theorem Ext.drop {ρ' : Rho} {nx nx' : Pos} {bs bs' : TB} {w w' : World} {i : Pos} (h : Ext ρ nx (bs.set i .none) w ρ' nx' bs' w') : Ext ρ nx bs w ρ' nx' bs' w' := by
  have ho : ∀ b, Own ρ (bs.set i .none) b → Own ρ bs b := fun b ⟨id, es, sz, cs, q, h1, h2⟩ => ⟨id, es, sz, cs, q, (live_none h1).2, h2⟩
  exact ⟨h.le, h.size, fun b hb hn => h.keep b hb fun hh => hn (ho b hh), fun b hb hh => ho b (h.own b hb hh), h.nle, h.old, h.env, h.frz⟩
/-- A new row of the old cells and the new ones. -/
theorem app_new (P : Program) {t t2 ty e : TypeId} {i : TypeInfo} {z : Value} (ok : AppOk P t e i z) {nx : Pos} {bs : TB} {w : World} (hh : HR ρ nx bs w)
    {b : Option Addr} {l sCap m : Nat} {x' : Value} {olds news : List Value} {J : TV} (hlo : olds.length = l * i.size) (holds : ∀ x, b = some x → ∀ j v, olds[j]? = some v → w.cell? (x.add j) = some v) (hb0 : b = none → olds = [])
    (hx : Src P w t2 x' i.size m news) (hg : sCap < l + m) (hbig : l + m ≤ 1048576)
    (hc : ∀ k, k < (l + m) * i.size → ∃ x, (olds ++ news)[k]? = some x ∧ VR ρ (J.at (k + 1)) x) :
    ∃ y w' ρ', (Builtin.append_ #[t, t2] ty #[.slice b l sCap, x']).run P w = .ok y w' ∧ VR ρ' (.l nx 0 (l + m) 0) y ∧
      HR ρ' nx.inc (bs.set nx (.mk (e * 65536 + i.size) ((l + m) * i.size) J)) w' ∧ Ext ρ nx bs w ρ' nx.inc (bs.set nx (.mk (e * 65536 + i.size) ((l + m) * i.size) J)) w' := by
  have hl := hx.num
  have hm : (l + m) * i.size = l * i.size + m * i.size := Nat.add_mul ..
  have hge := grownCap_ge w (l + m) sCap e
  have hsize : (olds.toArray ++ news.toArray ++ Builtin.zeroCells z.cells (grownCap w (l + m) sCap e - (l + m))).size = grownCap w (l + m) sCap e * i.size := by
    simp only [Array.size_append, List.size_toArray, size_zeroCells, hlo, hl, ok.hs]
    rw [← Nat.add_mul, ← Nat.add_mul]; congr 1; omega
  obtain ⟨k1, k2⟩ := hh.new (C := olds.toArray ++ news.toArray ++ Builtin.zeroCells z.cells (grownCap w (l + m) sCap e - (l + m))) (E := e) (fz := (0, 0)) (es := e * 65536 + i.size) (sz := (l + m) * i.size) (tv := J) (ty_div ok.h1)
    (fun k hk => by
      obtain ⟨x, hx, hv⟩ := hc k hk
      refine ⟨x, ?_, hv⟩
      rw [Array.getElem?_append_left (by simp [hlo, hl]; omega)]
      simpa using hx) (fun k _ => by simp)
  refine ⟨_, _, _, run_append_new P w ok.ht ok.hi ok.hz b l sCap olds hlo holds hb0 hx hg hbig ok.hb, ?_, k1.congr rfl, k2.congr rfl⟩
  unfold VR
  exact ⟨rfl, hge, fun h => absurd rfl h, _, 0, upd_same .., rfl, .inr rfl, fun _ => .inr (by rw [hsize]; show 0 + _ * ((e * 65536 + i.size) % 65536) ≤ _; rw [ty_mod ok.h1, Nat.zero_add]; exact Nat.le_refl _)⟩
/-- What is appended is said by a trie's cells from number b + 1 on. -/
theorem snd_appC (P : Program) {t t2 ty e : TypeId} {i : TypeInfo} {z : Value} (ok : AppOk P t e i z) {nx nx' : Pos} {bs bs' : TB} {w : World} (hh : HR ρ nx bs w) {v r : V} {x x' : Value} (hv : VR ρ v x)
    {m b : Nat} {ds : TV} {news : List Value} (hx : Src P w t2 x' i.size m news) (hm0 : m ≠ 0) (hnv : ∀ j, j < m * i.size → ∃ v, news[j]? = some v ∧ VR ρ (ds.at (b + j + 1)) v)
    (hf : appC (e * 65536 + i.size) i.size nx bs v m b ds = some (.mk r nx' bs')) :
    ∃ y w' ρ', (Builtin.append_ #[t, t2] ty #[x, x']).run P w = .ok y w' ∧ VR ρ' r y ∧ HR ρ' nx' bs' w' ∧ Ext ρ nx bs w ρ' nx' bs' w' := by
  have hln := hx.num
  unfold appC at hf
  have bnd : ∀ l, l + m ≤ 1048576 → l * i.size + m * i.size + 1 ≤ 2 ^ 40 := fun l h => by
    have := Nat.mul_le_mul h (Nat.le_of_lt ok.h1)
    rw [Nat.add_mul] at this; omega
  -- cells of a new row
  have hcells : ∀ (l a : Nat) (cs : TV) (olds : List Value), olds.length = l * i.size → l + m ≤ 1048576 → (∀ j, j < l * i.size → ∃ v, olds[j]? = some v ∧ VR ρ (cs.at (a + j + 1)) v) →
      ∀ k, k < (l + m) * i.size → ∃ x, (olds ++ news)[k]? = some x ∧ VR ρ ((join (l * i.size) a cs (m * i.size) b ds).at (k + 1)) x := by
    intro l a cs olds h1 h2 h3 k hk
    rw [Nat.add_mul] at hk
    rw [join_at hk (bnd l h2)]
    by_cases hkl : k < l * i.size
    · obtain ⟨v, hv, hvv⟩ := h3 k hkl
      rw [if_pos hkl, List.getElem?_append_left (by omega)]
      exact ⟨v, hv, hvv⟩
    · obtain ⟨v, hv, hvv⟩ := hnv (k - l * i.size) (by omega)
      rw [if_neg hkl, List.getElem?_append_right (by omega), h1]
      exact ⟨v, hv, hvv⟩
  rcases asL_some hf with ⟨ev, h1⟩ | ⟨id, o, l, c, ev, h5⟩
  · obtain ⟨g1, h1⟩ := cond_some h1
    have g1 : m ≤ 1048576 := Nat.le_of_ble_eq_true g1
    injection h1 with h1; injection h1 with e1 e2 e3; subst e1; subst e2; subst e3
    subst ev
    have := hv.l0; subst this
    have := app_new P ok (ty := ty) hh (b := none) (l := 0) (sCap := 0) (olds := []) (J := join 0 0 .e (m * i.size) b ds) (by simp) (by simp) (by simp) hx (by omega) (by omega)
      (by have := hcells 0 0 .e [] (by simp) (by omega) (by simp); simpa using this)
    simpa using this
  subst ev
  clear hf
  obtain ⟨g1, h1⟩ := cond_some h5
  clear h5
  have g1 : l + m ≤ 1048576 := Nat.le_of_ble_eq_true g1
  obtain ⟨q, z', cap, hq, rfl, hlc, hcap, hz', hun⟩ := hv.l
  have hmul : (l + m) * i.size = l * i.size + m * i.size := Nat.add_mul ..
  have hpos : m * i.size ≠ 0 := Nat.mul_ne_zero hm0 ok.h0
  have hnewsV : ∀ j v, news[j]? = some v → VR ρ (ds.at (b + j + 1)) v := fun j v hj => by
    have hjl : j < m * i.size := by
      rcases Nat.lt_or_ge j (m * i.size) with hh | hh
      · exact hh
      · rw [List.getElem?_eq_none (by omega)] at hj; simp at hj
    obtain ⟨y, hy, hyv⟩ := hnv j hjl
    rw [hj] at hy; injection hy with hy; subst hy; exact hyv
  have hns : VRs ρ (ds.take (m * i.size) (b + 1)) news := VRs.mk (by rw [TV.take_length, hln]) fun k cv y hc hy => by
    have hk : k < m * i.size := by
      rcases Nat.lt_or_ge k (m * i.size) with hh | hh
      · exact hh
      · rw [List.getElem?_eq_none (by rw [TV.take_length]; exact hh)] at hc; simp at hc
    rw [TV.take_get ds _ _ k hk] at hc
    injection hc with hc; subst hc
    have := hnewsV k y hy
    rw [show b + 1 + k = b + k + 1 by omega]; exact this
  cases hc0 : Nat.beq c 0 with
  | true =>
    rw [hc0, cond_true] at h1
    have hc0 := Nat.eq_of_beq_eq_true hc0
    obtain ⟨es, sz, cs, hl, h1⟩ := bk_some h1
    obtain ⟨g2, h1⟩ := cond_some h1
    obtain ⟨g3, h1⟩ := cond_some h1
    obtain ⟨g4, h1⟩ := cond_some h1
    have g2 := Nat.eq_of_beq_eq_true g2
    have g3 : o + l * i.size ≤ sz := Nat.le_of_ble_eq_true g3
    injection h1 with h1; injection h1 with e1 e2 e3; subst e1; subst e2; subst e3
    obtain ⟨q', hq', hes, hbr⟩ := hh.live _ _ _ _ hl
    rw [hq] at hq'; injection hq' with hq'; subst hq'
    obtain ⟨olds, hlo, holds, hov⟩ := row_of hbr g3
    by_cases hfit : l + m ≤ cap
    · have hz' : z' = q.o + o := hz'.resolve_left (by omega)
      have em : (e * 65536 + i.size) % 65536 = i.size := ty_mod ok.h1
      have hun : z' + cap * (q.s % 65536) ≤ q.n := (hun hc0).resolve_left (by omega)
      obtain ⟨C, fz, f1, f0, f2, f3⟩ := hbr
      have hcap2 : (l + m) * i.size ≤ cap * (q.s % 65536) := by rw [hes.1, g2, em]; exact Nat.mul_le_mul_right _ hfit
      have hrun := run_append_fit P w (ty := ty) ok.ht ok.hi hx hfit f1 (z := z') (by omega) (fun k h1 h2 => f3 k (by omega) (by omega)) (flatL_one g4 hns)
      obtain ⟨C', k1, k2, k3⟩ := setCells_same q.r news (z' + l * i.size) w C _ fz f1
      obtain ⟨p1, p2⟩ := hh.take hl (by rw [g2, em]; exact ok.h0) hq (off := o) (n := (l + m) * i.size) (J := join (l * i.size) o cs (m * i.size) b ds) k1 (by omega) (fun b hb => setCells_other q.r news _ w b hb) (setCells_size ..) (fun k h1 h2 => f3 k h1 h2)
        (fun k hk => by
          obtain ⟨x, hx, hxv⟩ := hcells l o cs olds hlo g1 hov k hk
          refine ⟨x, ?_, hxv⟩
          rw [k3]
          by_cases hkl : k < l * i.size
          · rw [if_neg (by omega)]
            rw [List.getElem?_append_left (by omega)] at hx
            have := holds k x hx
            rw [add_mk, cell_of f1] at this
            exact this
          · rw [if_pos (by omega)]
            rw [List.getElem?_append_right (by omega), hlo] at hx
            rw [show q.o + o + k - (z' + l * i.size) = k - l * i.size by omega]
            exact hx) (setCells_env ..) (fzAt_cells f1)
      rw [g2] at p1 p2
      refine ⟨_, _, _, hrun, ?_, p1, p2⟩
      unfold VR
      exact ⟨rfl, hfit, fun h => absurd rfl h, _, z', upd_same .., rfl, .inr (by simp [hz']), fun _ => .inr hun⟩
    · have hh' := hh.drop id
      obtain ⟨y, w', ρ', r1, r2, r3, r4⟩ := app_new P ok (ty := ty) hh' (b := some ⟨q.r, z', none⟩) (l := l) (sCap := cap) (olds := olds) (J := join (l * i.size) o cs (m * i.size) b ds) hlo
        (fun x hx j v hj => by
          injection hx with hx; subst hx
          rcases hz' with h | h
          · have : l = 0 := by omega
            subst this
            simp at hlo; subst hlo; simp at hj
          · rw [h]; exact holds j v hj) (by simp) hx (by omega) g1 (hcells l o cs olds hlo g1 hov)
      exact ⟨y, w', ρ', r1, r2, r3, r4.drop⟩
  | false =>
    rw [hc0, cond_false] at h1
    have hc0 : c ≠ 0 := fun h => by rw [beq_yes h] at hc0; simp at hc0
    have hcc := hcap hc0
    cases hfb : Nat.ble (Nat.add l m) (Nat.pred c) with
    | true =>
      rw [hfb, cond_true] at h1
      have hfit : l + m ≤ cap := by
        have : l + m ≤ c - 1 := Nat.le_of_ble_eq_true hfb
        omega
      obtain ⟨es, sz, cs, hl, h1⟩ := bk_some h1
      obtain ⟨g2, h1⟩ := cond_some h1
      obtain ⟨g3, h1⟩ := cond_some h1
      obtain ⟨g4, h1⟩ := cond_some h1
      have g2 : o + (l + m) * i.size ≤ sz := Nat.le_of_ble_eq_true g2
      have g3 : sz ≤ 1099511627775 := Nat.le_of_ble_eq_true g3
      injection h1 with h1; injection h1 with e1 e2 e3; subst e1; subst e2; subst e3
      obtain ⟨q', hq', hes, hbr⟩ := hh.live _ _ _ _ hl
      rw [hq] at hq'; injection hq' with hq'; subst hq'
      have hz' : z' = q.o + o := hz'.resolve_left (by omega)
      have hsz := hbr.size_le (by omega)
      obtain ⟨C, fz, f1, f0, f2, f3⟩ := hbr
      have hrun := run_append_fit P w (ty := ty) ok.ht ok.hi hx hfit f1 (z := z') (by omega) (fun k h1 h2 => f3 k (by omega) (by omega)) (flatL_one g4 hns)
      obtain ⟨p1, p2⟩ := hh.put hl hq (off := o + l * i.size) hns (by rw [TV.take_length]; omega) g3
      rw [show q.o + (o + l * i.size) = z' + l * i.size by omega] at p1 p2
      refine ⟨_, _, ρ, hrun, ?_, p1, p2⟩
      unfold VR
      exact ⟨rfl, hfit, hcap, q, z', hq, rfl, .inr hz', fun h => absurd h hc0⟩
    | false =>
      rw [hfb, cond_false] at h1
      have hnf : cap < l + m := by
        rw [ble_eq] at hfb
        have : ¬ (l + m ≤ c - 1) := of_decide_eq_false hfb
        omega
      cases hl0 : Nat.beq l 0 with
      | true =>
        rw [hl0, cond_true] at h1
        injection h1 with h1; injection h1 with e1 e2 e3; subst e1; subst e2; subst e3
        have := Nat.eq_of_beq_eq_true hl0; subst this
        have := app_new P ok (ty := ty) hh (b := some ⟨q.r, z', none⟩) (l := 0) (sCap := cap) (olds := []) (J := join 0 0 .e (m * i.size) b ds) (by simp) (by simp) (by simp) hx (by omega) (by omega)
          (by have := hcells 0 0 .e [] (by simp) (by omega) (by simp); simpa using this)
        simpa using this
      | false =>
        rw [hl0, cond_false] at h1
        have hl0 : l ≠ 0 := fun h => by rw [beq_yes h] at hl0; simp at hl0
        obtain ⟨es, sz, cs, hl, h1⟩ := bk_some h1
        obtain ⟨g2, h1⟩ := cond_some h1
        have g2 : o + l * i.size ≤ sz := Nat.le_of_ble_eq_true g2
        injection h1 with h1; injection h1 with e1 e2 e3; subst e1; subst e2; subst e3
        obtain ⟨q', hq', hes, hbr⟩ := hh.live _ _ _ _ hl
        rw [hq] at hq'; injection hq' with hq'; subst hq'
        obtain ⟨olds, hlo, holds, hov⟩ := row_of hbr g2
        have hz' : z' = q.o + o := hz'.resolve_left (by omega)
        exact app_new P ok (ty := ty) hh (b := some ⟨q.r, z', none⟩) (l := l) (sCap := cap) (olds := olds) (J := join (l * i.size) o cs (m * i.size) b ds) hlo
          (fun x hx j v hj => by
            injection hx with hx; subst hx
            rw [hz']; exact holds j v hj) (by simp) hx hnf g1 (hcells l o cs olds hlo g1 hov)
theorem snd_app0 (P : Program) {t t2 ty e : TypeId} {i : TypeInfo} {z : Value} (ok : AppOk P t e i z) {nx nx' : Pos} {bs bs' : TB} {w : World} (hh : HR ρ nx bs w) {v r : V} {x x' : Value} (hv : VR ρ v x) (hx : Src P w t2 x' i.size 0 [])
    (h : asL v none (some (AR.mk v nx bs)) (fun _ _ _ _ => some (AR.mk v nx bs)) = some (AR.mk r nx' bs')) :
    ∃ y w' ρ', (Builtin.append_ #[t, t2] ty #[x, x']).run P w = .ok y w' ∧ VR ρ' r y ∧ HR ρ' nx' bs' w' ∧ Ext ρ nx bs w ρ' nx' bs' w' := by
  rcases asL_some h with ⟨ev, h1⟩ | ⟨_, _, _, _, ev, h1⟩
  · injection h1 with h1; injection h1 with e1 e2 e3; subst e1; subst e2; subst e3
    subst ev
    have := hv.l0; subst this
    exact ⟨_, w, ρ, run_append_none P w ok.ht ok.hi hx none 0 0 (Nat.le_refl _), hv, hh, Ext.refl ..⟩
  · injection h1 with h1; injection h1 with e1 e2 e3; subst e1; subst e2; subst e3
    subst ev
    obtain ⟨q, z', c', hq, rfl, hlc, -⟩ := hv.l
    exact ⟨_, w, ρ, run_append_none P w ok.ht ok.hi hx _ _ _ hlc, hv, hh, Ext.refl ..⟩
theorem snd_appL (P : Program) {t t2 ty e e2 : TypeId} {i : TypeInfo} {z : Value} (ok : AppOk P t e i z) (ht2 : P.underlying t2 = some (.slice e2)) {nx nx' : Pos} {bs bs' : TB} {w : World} (hh : HR ρ nx bs w) {v v' r : V} {x x' : Value} (hv : VR ρ v x) (hv' : VR ρ v' x')
    (hf : appL (e * 65536 + i.size) i.size nx bs v v' = some (.mk r nx' bs')) :
    ∃ y w' ρ', (Builtin.append_ #[t, t2] ty #[x, x']).run P w = .ok y w' ∧ VR ρ' r y ∧ HR ρ' nx' bs' w' ∧ Ext ρ nx bs w ρ' nx' bs' w' := by
  have src0 : ∀ (a : Option Addr) (c : Nat), Src P w t2 (.slice a 0 c) i.size 0 [] := fun a c => by
    have hld : ∀ (u : World) (x : Addr), (loadCells x (0 * i.size)).run P u = .ok #[] u := fun u x => by simpa using run_loadCells_list (P := P) u x [] (by simp)
    refine ⟨⟨_, ht2, .inl ⟨_, rfl⟩⟩, rfl, by simp, ?_, ?_⟩ <;> cases a <;> first | rfl | exact hld _ _
  unfold appL srcL at hf
  rcases asL_some hf with ⟨ev', h1⟩ | ⟨id2, b, m, cc2, ev', h1⟩
  · subst ev'
    have := hv'.l0; subst this
    exact snd_app0 P ok hh hv (src0 _ _) h1
  subst ev'
  obtain ⟨q2, z2, c2, hq2, ex', hmc2, -, hz2, -⟩ := hv'.l
  cases hm0 : Nat.beq m 0 with
  | true =>
    rw [hm0, cond_true] at h1
    have := Nat.eq_of_beq_eq_true hm0; subst this
    subst ex'
    exact snd_app0 P ok hh hv (src0 _ _) h1
  | false =>
  rw [hm0, cond_false] at h1
  have hm0 : m ≠ 0 := fun h => by rw [beq_yes h] at hm0; simp at hm0
  have hz2 : z2 = q2.o + b := hz2.resolve_left (by omega)
  obtain ⟨es2, sz2, ds, hl2, h1⟩ := bk_some h1
  obtain ⟨hb2, h1⟩ := cond_some h1
  have hb2 : b + m * i.size ≤ sz2 := Nat.le_of_ble_eq_true hb2
  obtain ⟨q2', hq2', -, hbr2⟩ := hh.live _ _ _ _ hl2
  rw [hq2] at hq2'; injection hq2' with hq2'; subst hq2'
  obtain ⟨news, hln, hnews, hnv⟩ := row_of hbr2 hb2
  rw [← hz2] at hnews
  subst ex'
  have hsrc : Src P w t2 (.slice (some ⟨q2.r, z2, none⟩) m c2) i.size m news := by
    refine ⟨⟨_, ht2, .inl ⟨_, rfl⟩⟩, rfl, hln, ?_, ?_⟩
    · show (loadCells _ (m * i.size)).run P w = _
      rw [← hln]; exact run_loadCells_list (P := P) w _ news hnews
    · show (loadCells _ (m * i.size)).run P w.drew = _
      rw [← hln]; exact run_loadCells_list (P := P) w.drew _ news (by simpa using hnews)
  exact snd_appC P ok hh hv hsrc hm0 hnv h1

end Go.Proofs.YtmbnogellhoheaaGreatDoor.Ev
