/- Counting and finding bytes; copies. -/
import Derived.Test.YtnhgchnhfdimiaaGreatDoorEvO
import Derived.Lib.Bytealg
namespace Go.Proofs.YtnhgchnhfdimiaaGreatDoor.Ev
open Go
variable {ρ : Rho}

/-! ### counting and finding a byte -/
noncomputable def cntB (c l : Nat) : Nat → Nat := Nat.rec (motive := fun _ => Nat → Nat) (fun _ => 0) (fun _ ih m => cond (Nat.beq (Nat.mod m 256) c) (Nat.succ (ih (Nat.div m 256))) (ih (Nat.div m 256))) l
noncomputable def idxB (c l : Nat) : Nat → Nat → V := Nat.rec (motive := fun _ => Nat → Nat → V) (fun _ _ => .n 18446744073709551615) (fun _ ih m k => cond (Nat.beq (Nat.mod m 256) c) (.n k) (ih (Nat.div m 256) (Nat.succ k))) l
noncomputable def cntS (x y : V) : Option V := asS x none fun l m => asY y none fun c => cond (Nat.ble l 1099511627776) (some (.n (cntB c l m))) none
noncomputable def ixbS (x y : V) : Option V := asS x none fun l m => asY y none fun c => cond (Nat.ble l 1099511627776) (some (idxB c l m 0)) none
theorem enc_mod (b : UInt8) (r : List UInt8) : Nat.mod (enc (b :: r)) 256 = b.toNat := by
  have hb : b.toNat < 256 := b.toNat_lt
  show (b.toNat + 256 * enc r) % 256 = b.toNat; omega
theorem enc_div (b : UInt8) (r : List UInt8) : Nat.div (enc (b :: r)) 256 = enc r := by
  have hb : b.toNat < 256 := b.toNat_lt
  show (b.toNat + 256 * enc r) / 256 = enc r; omega
theorem beq_byte (b : UInt8) (c : Nat) (hc : c < 256) : Nat.beq b.toNat c = (b == c.toUInt8) := by
  by_cases h : b.toNat = c
  · rw [beq_yes h]
    have : b = c.toUInt8 := by apply UInt8.toNat_inj.1; rw [h]; simp; omega
    rw [this]; simp
  · rw [beq_no h]
    symm
    rw [beq_eq_false_iff_ne]
    intro e
    apply h
    rw [e]; simp; omega
theorem cntB_spec (c : Nat) (hc : c < 256) : ∀ bs : List UInt8, cntB c bs.length (enc bs) = Lib.countByte bs c.toUInt8
  | [] => rfl
  | b :: r => by
    have ih := cntB_spec c hc r
    rw [List.length_cons]
    show cond (Nat.beq (Nat.mod (enc (b :: r)) 256) c) (Nat.succ (cntB c r.length (Nat.div (enc (b :: r)) 256))) (cntB c r.length (Nat.div (enc (b :: r)) 256)) = _
    rw [enc_mod, enc_div, ih, beq_byte b c hc]
    unfold Lib.countByte
    rw [List.count_cons]
    cases b == c.toUInt8 <;> simp
theorem idxB_spec (c : Nat) (hc : c < 256) (ρ : Rho) : ∀ (bs : List UInt8) (k : Nat), k + bs.length ≤ 1099511627776 → VR ρ (idxB c bs.length (enc bs) k) (.int .i64 (if Lib.indexByte bs c.toUInt8 = -1 then -1 else Lib.indexByte bs c.toUInt8 + k))
  | [], k, _ => by
    show VR ρ (.n 18446744073709551615) _
    have : Lib.indexByte [] c.toUInt8 = -1 := rfl
    rw [this, if_pos rfl]
    exact VR_n_of (by omega) (by rw [wrap_n _ (by omega), if_neg (by omega)]; rfl)
  | b :: r, k, hk => by
    rw [List.length_cons] at hk ⊢
    show VR ρ (cond (Nat.beq (Nat.mod (enc (b :: r)) 256) c) (.n k) (idxB c r.length (Nat.div (enc (b :: r)) 256) (Nat.succ k))) _
    rw [enc_mod, enc_div, beq_byte b c hc]
    have hge := Lib.indexByte_ge r c.toUInt8
    cases hb : b == c.toUInt8 with
    | true =>
      rw [cond_true]
      have : Lib.indexByte (b :: r) c.toUInt8 = 0 := by unfold Lib.indexByte; rw [hb]; rfl
      rw [this, if_neg (by decide)]
      exact VR_n_of (by omega) (by rw [wrap_n k (by omega), if_pos (by omega)]; omega)
    | false =>
      rw [cond_false]
      have ih := idxB_spec c hc ρ r (k + 1) (by omega)
      have e : Lib.indexByte (b :: r) c.toUInt8 = if Lib.indexByte r c.toUInt8 = -1 then -1 else Lib.indexByte r c.toUInt8 + 1 := by
        have e0 : Lib.indexByte (b :: r) c.toUInt8 = if b == c.toUInt8 then 0 else if Lib.indexByte r c.toUInt8 == -1 then -1 else Lib.indexByte r c.toUInt8 + 1 := rfl
        rw [e0, hb]; simp
      rw [e]
      by_cases h1 : Lib.indexByte r c.toUInt8 = -1
      · rw [if_pos h1] at ih ⊢
        rw [if_pos rfl]; exact ih
      · rw [if_neg h1] at ih ⊢
        rw [if_neg (by omega)]
        have e2 : Lib.indexByte r c.toUInt8 + 1 + (k : Int) = Lib.indexByte r c.toUInt8 + ((k + 1 : Nat) : Int) := by omega
        rw [e2]; exact ih
theorem snd_cntS (P : Program) : Snd2 P cntS (fun x y => Extern.BytealgCount.count #[x, y]) := by
  intro ρ v v' x x' r w hv hv' hf
  obtain ⟨l, m, ev, h1⟩ := asS_some hf
  obtain ⟨c, ev', h2⟩ := asY_some h1
  clear h1 hf
  subst ev; subst ev'
  obtain ⟨s, rfl, hl, hm⟩ := hv.s
  obtain ⟨hc, rfl⟩ := hv'.y
  obtain ⟨g, h3⟩ := cond_some h2
  have g : l ≤ 1099511627776 := Nat.le_of_ble_eq_true g
  injection h3 with h3; subst h3
  refine ⟨_, Lib.run_countString s c w, ?_⟩
  have hs := cntB_spec c hc s.data.toList
  rw [hl, hm] at hs
  rw [hs]
  have hle : Lib.countByte s.data.toList c.toUInt8 ≤ s.data.toList.length := List.count_le_length
  rw [Int.toNat_natCast]
  exact VR_n_of (by omega) (by rw [wrap_n _ (by omega), if_pos (by omega)])
theorem snd_ixbS (P : Program) : Snd2 P ixbS (fun x y => Extern.BytealgIndexByte.indexByte #[x, y]) := by
  intro ρ v v' x x' r w hv hv' hf
  obtain ⟨l, m, ev, h1⟩ := asS_some hf
  obtain ⟨c, ev', h2⟩ := asY_some h1
  clear h1 hf
  subst ev; subst ev'
  obtain ⟨s, rfl, hl, hm⟩ := hv.s
  obtain ⟨hc, rfl⟩ := hv'.y
  obtain ⟨g, h3⟩ := cond_some h2
  have g : l ≤ 1099511627776 := Nat.le_of_ble_eq_true g
  injection h3 with h3; subst h3
  refine ⟨_, Lib.run_indexByteString s c w, ?_⟩
  have hs := idxB_spec c hc ρ s.data.toList 0 (by omega)
  rw [hl, hm] at hs
  rw [Int.toNat_natCast]
  have e : (if Lib.indexByte s.data.toList c.toUInt8 = -1 then -1 else Lib.indexByte s.data.toList c.toUInt8 + ((0 : Nat) : Int)) = Lib.indexByte s.data.toList c.toUInt8 := by
    split <;> omega
  rw [e] at hs
  exact hs

end Go.Proofs.YtnhgchnhfdimiaaGreatDoor.Ev

/- Copies. -/
namespace Go.Proofs.YtnhgchnhfdimiaaGreatDoor.Ev
open Go
variable {ρ : Rho}

noncomputable def cpyK (sz : Nat) (bs : TB) (i : Pos) (o : Nat) (i2 : Pos) (o2 k : Nat) : Option (V × TB) := cond (Nat.beq k 0) (some (.n 0, bs)) (cond (Nat.ble k 1048576) (bk bs i2 fun _ sz2 ds => cond (Nat.ble (Nat.add o2 (Nat.mul k sz)) sz2)
  (bk bs i fun es szi cs => cond (Nat.ble (Nat.add o (Nat.mul k sz)) szi) (cond (Nat.ble szi 1099511627775) (cond (flatL (ds.take (Nat.mul k sz) (Nat.succ o2)))
    (some (.n k, bs.set i (.mk es szi (into (ds.take (Nat.mul k sz) (Nat.succ o2)) cs (Nat.succ o))))) none) none) none) none) none)
noncomputable def cpyL (sz : Nat) (bs : TB) (d s : V) : Option (V × TB) := asL d none (asL s none (some (.n 0, bs)) fun _ _ _ _ => some (.n 0, bs)) fun i o l _ => asL s none (some (.n 0, bs)) fun i2 o2 m _ => cpyK sz bs i o i2 o2 (cond (Nat.ble l m) l m)
theorem run_copy (P : Program) (w : World) {t t2 ty e : TypeId} {i : TypeInfo} (ht : P.underlying t = some (.slice e)) (hi : P.info? e = some i) (b : Option Addr) (dl dc : Nat) (a : Option Addr) (sl sc : Nat) {news : List Value} (w' : World)
    (hload : (Builtin.firstCells i.size (Nat.min sl dl) (.slice a sl sc)).run P w = .ok news.toArray w) (hst : ∀ x, b = some x → (storeCells x news).run P w = .ok () w') (hn : b = none → w' = w) :
    (Builtin.copy_ #[t, t2] ty #[.slice b dl dc, .slice a sl sc]).run P w = .ok (goInt (Nat.min sl dl : Nat)) w' := by
  have hlen : Builtin.lenOf (.slice a sl sc) = pure sl := rfl
  unfold Builtin.copy_
  cases b with
  | none => rw [hn rfl]; simp [run_underlying P w ht, run_sizeOf P w hi, hlen, hload]
  | some x => simp [run_underlying P w ht, run_sizeOf P w hi, hlen, hload, hst x rfl]
theorem snd_cpyL (P : Program) {t t2 ty e : TypeId} {i : TypeInfo} (ht : P.underlying t = some (.slice e)) (hi : P.info? e = some i) (hi0 : i.size ≠ 0) {nx : Pos} {bs bs' : TB} {w : World} (hh : HR ρ nx bs w) {v v' r : V} {x x' : Value} (hv : VR ρ v x) (hv' : VR ρ v' x')
    (hf : cpyL i.size bs v v' = some (r, bs')) : ∃ y w', (Builtin.copy_ #[t, t2] ty #[x, x']).run P w = .ok y w' ∧ VR ρ r y ∧ HR ρ nx bs' w' ∧ Ext ρ nx bs w ρ nx bs' w' := by
  have ld0 : ∀ (a : Option Addr) (sl sc : Nat), (Builtin.firstCells i.size 0 (.slice a sl sc)).run P w = .ok ([] : List Value).toArray w := fun a sl sc => by
    cases a with
    | none => rfl
    | some a => show (loadCells a (0 * i.size)).run P w = _; rw [Nat.zero_mul]; exact run_loadCells_list (P := P) w a [] (by simp)
  have zero : ∀ (b : Option Addr) (dl dc : Nat) (a : Option Addr) (sl sc : Nat), Nat.min sl dl = 0 → ∃ y w', (Builtin.copy_ #[t, t2] ty #[.slice b dl dc, .slice a sl sc]).run P w = .ok y w' ∧ VR ρ (.n 0) y ∧ HR ρ nx bs w' ∧ Ext ρ nx bs w ρ nx bs w' := by
    intro b dl dc a sl sc h0
    refine ⟨_, w, run_copy P w ht hi b dl dc a sl sc (news := []) w (by rw [h0]; exact ld0 a sl sc) (fun x _ => rfl) (fun _ => rfl), ?_, hh, Ext.refl ..⟩
    rw [h0]; exact VR_n_of (by omega) (by rw [wrap_n 0 (by omega), if_pos (by omega)])
  rcases asL_some hf with ⟨ev, h1⟩ | ⟨id, o, l, c, ev, h1⟩
  · rcases asL_some h1 with ⟨ev', h2⟩ | ⟨id2, o2, m, c2, ev', h2⟩
    · clear h1 hf; subst ev; subst ev'
      have := hv.l0; subst this
      have := hv'.l0; subst this
      injection h2 with h2; injection h2 with e1 e2; subst e1; subst e2
      exact zero none 0 0 none 0 0 rfl
    · clear h1 hf; subst ev; subst ev'
      have := hv.l0; subst this
      obtain ⟨q, z, cap, hq, rfl, -⟩ := hv'.l
      injection h2 with h2; injection h2 with e1 e2; subst e1; subst e2
      exact zero none 0 0 _ _ _ (Nat.min_zero _)
  · rcases asL_some h1 with ⟨ev', h2⟩ | ⟨id2, o2, m, c2, ev', h2⟩
    · clear h1 hf; subst ev; subst ev'
      have := hv'.l0; subst this
      obtain ⟨q, z, cap, hq, rfl, -⟩ := hv.l
      injection h2 with h2; injection h2 with e1 e2; subst e1; subst e2
      exact zero _ _ _ none 0 0 (Nat.zero_min _)
    · clear h1 hf; subst ev; subst ev'
      obtain ⟨q, z, cap, hq, rfl, hlc, -, hz, -⟩ := hv.l
      obtain ⟨q2, z2, cap2, hq2, rfl, hlc2, -, hz2, -⟩ := hv'.l
      have ek : (cond (Nat.ble l m) l m : Nat) = Nat.min m l := by
        rw [ble_eq]
        by_cases h : l ≤ m
        · rw [decide_eq_true h, cond_true]; exact (Nat.min_eq_right h).symm
        · rw [decide_eq_false h, cond_false]; exact (Nat.min_eq_left (by omega)).symm
      rw [ek] at h2
      have hkm : Nat.min m l ≤ m := Nat.min_le_left _ _
      have hkl : Nat.min m l ≤ l := Nat.min_le_right _ _
      generalize hk : Nat.min m l = k at h2 hkm hkl
      unfold cpyK at h2
      cases hk0 : Nat.beq k 0 with
      | true =>
        rw [hk0, cond_true] at h2
        have := Nat.eq_of_beq_eq_true hk0; subst this
        injection h2 with h2; injection h2 with e1 e2; subst e1; subst e2
        exact zero _ _ _ _ _ _ hk
      | false =>
        rw [hk0, cond_false] at h2
        have hk0 : k ≠ 0 := fun h => by rw [beq_yes h] at hk0; simp at hk0
        obtain ⟨g0, h2⟩ := cond_some h2
        have g0 : k ≤ 1048576 := Nat.le_of_ble_eq_true g0
        obtain ⟨es2, sz2, ds, hl2, h2⟩ := bk_some h2
        obtain ⟨g1, h2⟩ := cond_some h2
        obtain ⟨es, sz, cs, hl, h2⟩ := bk_some h2
        obtain ⟨g2, h2⟩ := cond_some h2
        obtain ⟨g3, h2⟩ := cond_some h2
        obtain ⟨g4, h2⟩ := cond_some h2
        have g1 : o2 + k * i.size ≤ sz2 := Nat.le_of_ble_eq_true g1
        have g2 : o + k * i.size ≤ sz := Nat.le_of_ble_eq_true g2
        have g3 : sz ≤ 1099511627775 := Nat.le_of_ble_eq_true g3
        injection h2 with h2; injection h2 with e1 e2; subst e1; subst e2
        have hz : z = q.o + o := hz.resolve_left (by omega)
        have hz2 : z2 = q2.o + o2 := hz2.resolve_left (by omega)
        have hpos : k * i.size ≠ 0 := Nat.mul_ne_zero hk0 hi0
        obtain ⟨q', hq', -, hbr⟩ := hh.live _ _ _ _ hl
        rw [hq] at hq'; injection hq' with hq'; subst hq'
        obtain ⟨q2', hq2', -, hbr2⟩ := hh.live _ _ _ _ hl2
        rw [hq2] at hq2'; injection hq2' with hq2'; subst hq2'
        obtain ⟨news, hln, hnews, hnv⟩ := row_of hbr2 g1
        rw [← hz2] at hnews
        have hns : VRs ρ (ds.take (k * i.size) (o2 + 1)) news := VRs.mk (by rw [TV.take_length, hln]) fun j cv y hc hy => by
          have hj : j < k * i.size := by
            rcases Nat.lt_or_ge j (k * i.size) with hh | hh
            · exact hh
            · rw [List.getElem?_eq_none (by rw [TV.take_length]; exact hh)] at hc; simp at hc
          rw [TV.take_get ds _ _ j hj] at hc
          injection hc with hc; subst hc
          obtain ⟨y', hy', hyv⟩ := hnv j hj
          rw [hy] at hy'; injection hy' with hy'; subst hy'
          rw [show o2 + 1 + j = o2 + j + 1 by omega]; exact hyv
        have hsz := hbr.size_le (by omega)
        obtain ⟨C, fz, f1, f0, f2, f3⟩ := hbr
        have hst := run_storeCells_cells (P := P) q.r (q.o + o) news 0 w (fun j hj => by rw [Nat.add_zero, cell_of f1]; simp; omega)
          (fun j hj => by rw [Nat.add_zero]; exact frozen_of f1 _ (f3 _ (by omega) (by omega))) (flatL_one g4 hns)
        obtain ⟨p1, p2⟩ := hh.put hl hq (off := o) hns (by rw [TV.take_length]; omega) g3
        refine ⟨_, _, run_copy P w ht hi (some ⟨q.r, z, none⟩) l cap (some ⟨q2.r, z2, none⟩) m cap2 (news := news) (w.setCells q.r (q.o + o) news) ?_ (fun x hx => ?_) (by simp), ?_, p1, p2⟩
        · rw [hk]
          show (loadCells _ (k * i.size)).run P w = _
          rw [← hln]; exact run_loadCells_list (P := P) w _ news hnews
        · injection hx with hx; subst hx; rw [hz]; simpa using hst
        · rw [hk]; exact VR_n_of (by omega) (by rw [wrap_n k (by omega), if_pos (by omega)])

end Go.Proofs.YtnhgchnhfdimiaaGreatDoor.Ev
