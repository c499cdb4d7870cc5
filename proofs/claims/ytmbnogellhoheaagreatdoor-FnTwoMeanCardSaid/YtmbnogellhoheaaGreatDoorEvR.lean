/- Counting and finding bytes; copies. -/
import Derived.Test.YtmbnogellhoheaaGreatDoorEvO
import Derived.Lib.Bytealg
namespace Go.Proofs.YtmbnogellhoheaaGreatDoor.Ev
open Go
variable {ρ : Rho}

/-! ### counting and finding a byte -/
noncomputable def cntB (c l : Nat) : Nat → Nat := Nat.rec (motive := fun _ => Nat → Nat) (fun _ => 0) (fun _ ih m => cond (Nat.beq (Nat.mod m 256) c) (Nat.succ (ih (Nat.div m 256))) (ih (Nat.div m 256))) l
noncomputable def idxB (c l : Nat) : Nat → Nat → V := Nat.rec (motive := fun _ => Nat → Nat → V) (fun _ _ => .n 18446744073709551615) (fun _ ih m k => cond (Nat.beq (Nat.mod m 256) c) (.n k) (ih (Nat.div m 256) (Nat.succ k))) l
noncomputable def cntS (x y : V) : Option V := asS x none fun l m => asY y none fun c => cond (Nat.ble l 1099511627776) (some (.n (cntB c l m))) none
noncomputable def ixbS (x y : V) : Option V := asS x none fun l m => asY y none fun c => cond (Nat.ble l 1099511627776) (some (idxB c l m 0)) none
theorem enc_mod (b : UInt8) (r : List UInt8) : Nat.mod (enc (b :: r)) 256 = b.toNat := by
  have hb : b.toNat < 256 := b.toNat_lt
  show (b.toNat + 256 * enc r) % 256 = b.toNat; omega
theorem enc_div (b : UInt8) (r : List UInt8) : Nat.div (enc (b :: r)) 256 = enc r := by
  have hb : b.toNat < 256 := b.toNat_lt
  show (b.toNat + 256 * enc r) / 256 = enc r; omega
theorem beq_byte (b : UInt8) (c : Nat) (hc : c < 256) : Nat.beq b.toNat c = (b == c.toUInt8) := by
  by_cases h : b.toNat = c
  · rw [beq_yes h]
    have : b = c.toUInt8 := by apply UInt8.toNat_inj.1; rw [h]; simp; omega
    rw [this]; simp
  · rw [beq_no h]
    symm
    rw [beq_eq_false_iff_ne]
    intro e
    apply h
    rw [e]; simp; omega
theorem cntB_spec (c : Nat) (hc : c < 256) : ∀ bs : List UInt8, cntB c bs.length (enc bs) = Lib.countByte bs c.toUInt8
  | [] => rfl
  | b :: r => by
    have ih := cntB_spec c hc r
    rw [List.length_cons]
    show cond (Nat.beq (Nat.mod (enc (b :: r)) 256) c) (Nat.succ (cntB c r.length (Nat.div (enc (b :: r)) 256))) (cntB c r.length (Nat.div (enc (b :: r)) 256)) = _
    rw [enc_mod, enc_div, ih, beq_byte b c hc]
    unfold Lib.countByte
    rw [List.count_cons]
    cases b == c.toUInt8 <;> simp
theorem idxB_spec (c : Nat) (hc : c < 256) (ρ : Rho) : ∀ (bs : List UInt8) (k : Nat), k + bs.length ≤ 1099511627776 → VR ρ (idxB c bs.length (enc bs) k) (.int .i64 (if Lib.indexByte bs c.toUInt8 = -1 then -1 else Lib.indexByte bs c.toUInt8 + k))
  | [], k, _ => by
    show VR ρ (.n 18446744073709551615) _
    have : Lib.indexByte [] c.toUInt8 = -1 := rfl
    rw [this, if_pos rfl]
    exact VR_n_of (by omega) (by rw [wrap_n _ (by omega), if_neg (by omega)]; rfl)
  | b :: r, k, hk => by
    rw [List.length_cons] at hk ⊢
    show VR ρ (cond (Nat.beq (Nat.mod (enc (b :: r)) 256) c) (.n k) (idxB c r.length (Nat.div (enc (b :: r)) 256) (Nat.succ k))) _
    rw [enc_mod, enc_div, beq_byte b c hc]
    have hge := Lib.indexByte_ge r c.toUInt8
    cases hb : b == c.toUInt8 with
    | true =>
      rw [cond_true]
      have : Lib.indexByte (b :: r) c.toUInt8 = 0 := by unfold Lib.indexByte; rw [hb]; rfl
      rw [this, if_neg (by decide)]
      exact VR_n_of (by omega) (by rw [wrap_n k (by omega), if_pos (by omega)]; omega)
    | false =>
      rw [cond_false]
      have ih := idxB_spec c hc ρ r (k + 1) (by omega)
      have e : Lib.indexByte (b :: r) c.toUInt8 = if Lib.indexByte r c.toUInt8 = -1 then -1 else Lib.indexByte r c.toUInt8 + 1 := by
        have e0 : Lib.indexByte (b :: r) c.toUInt8 = if b == c.toUInt8 then 0 else if Lib.indexByte r c.toUInt8 == -1 then -1 else Lib.indexByte r c.toUInt8 + 1 := rfl
        rw [e0, hb]; simp
      rw [e]
      by_cases h1 : Lib.indexByte r c.toUInt8 = -1
      · rw [if_pos h1] at ih ⊢
        rw [if_pos rfl]; exact ih
      · rw [if_neg h1] at ih ⊢
        rw [if_neg (by omega)]
        have e2 : Lib.indexByte r c.toUInt8 + 1 + (k : Int) = Lib.indexByte r c.toUInt8 + ((k + 1 : Nat) : Int) := by omega
        rw [e2]; exact ih
theorem snd_cntS (P : Program) : Snd2 P cntS (fun x y => Extern.BytealgCount.count #[x, y]) := by
  intro ρ v v' x x' r w hv hv' hf
  obtain ⟨l, m, ev, h1⟩ := asS_some hf
  obtain ⟨c, ev', h2⟩ := asY_some h1
  clear h1 hf
  subst ev; subst ev'
  obtain ⟨s, rfl, hl, hm⟩ := hv.s
  obtain ⟨hc, rfl⟩ := hv'.y
  obtain ⟨g, h3⟩ := cond_some h2
  have g : l ≤ 1099511627776 := Nat.le_of_ble_eq_true g
  injection h3 with h3; subst h3
  refine ⟨_, Lib.run_countString s c w, ?_⟩
  have hs := cntB_spec c hc s.data.toList
  rw [hl, hm] at hs
  rw [hs]
  have hle : Lib.countByte s.data.toList c.toUInt8 ≤ s.data.toList.length := List.count_le_length
  rw [Int.toNat_natCast]
  exact VR_n_of (by omega) (by rw [wrap_n _ (by omega), if_pos (by omega)])
theorem snd_ixbS (P : Program) : Snd2 P ixbS (fun x y => Extern.BytealgIndexByte.indexByte #[x, y]) := by
  intro ρ v v' x x' r w hv hv' hf
  obtain ⟨l, m, ev, h1⟩ := asS_some hf
  obtain ⟨c, ev', h2⟩ := asY_some h1
  clear h1 hf
  subst ev; subst ev'
  obtain ⟨s, rfl, hl, hm⟩ := hv.s
  obtain ⟨hc, rfl⟩ := hv'.y
  obtain ⟨g, h3⟩ := cond_some h2
  have g : l ≤ 1099511627776 := Nat.le_of_ble_eq_true g
  injection h3 with h3; subst h3
  refine ⟨_, Lib.run_indexByteString s c w, ?_⟩
  have hs := idxB_spec c hc ρ s.data.toList 0 (by omega)
  rw [hl, hm] at hs
  rw [Int.toNat_natCast]
  have e : (if Lib.indexByte s.data.toList c.toUInt8 = -1 then -1 else Lib.indexByte s.data.toList c.toUInt8 + ((0 : Nat) : Int)) = Lib.indexByte s.data.toList c.toUInt8 := by
    split <;> omega
  rw [e] at hs
  exact hs

end Go.Proofs.YtmbnogellhoheaaGreatDoor.Ev

/- Copies. -/
namespace Go.Proofs.YtmbnogellhoheaaGreatDoor.Ev
open Go
variable {ρ : Rho}

noncomputable def cpyK (sz : Nat) (bs : TB) (i : Pos) (o : Nat) (i2 : Pos) (o2 k : Nat) : Option (V × TB) := cond (Nat.beq k 0) (some (.n 0, bs)) (cond (Nat.ble k 1048576) (bk bs i2 fun _ sz2 ds => cond (Nat.ble (Nat.add o2 (Nat.mul k sz)) sz2)
  (bk bs i fun es szi cs => cond (Nat.ble (Nat.add o (Nat.mul k sz)) szi) (cond (Nat.ble szi 1099511627775) (cond (flatL (ds.take (Nat.mul k sz) (Nat.succ o2)))
    (some (.n k, bs.set i (.mk es szi (into (ds.take (Nat.mul k sz) (Nat.succ o2)) cs (Nat.succ o))))) none) none) none) none) none)
noncomputable def cpyL (sz : Nat) (bs : TB) (d s : V) : Option (V × TB) := asL d none (asL s none (some (.n 0, bs)) fun _ _ _ _ => some (.n 0, bs)) fun i o l _ => asL s none (some (.n 0, bs)) fun i2 o2 m _ => cpyK sz bs i o i2 o2 (cond (Nat.ble l m) l m)
theorem run_copy (P : Program) (w : World) {t t2 ty e : TypeId} {i : TypeInfo} (ht : P.underlying t = some (.slice e)) (hi : P.info? e = some i) (b : Option Addr) (dl dc : Nat) (a : Option Addr) (sl sc : Nat) {news : List Value} (w' : World)
    (hload : (Builtin.firstCells i.size (Nat.min sl dl) (.slice a sl sc)).run P w = .ok news.toArray w) (hst : ∀ x, b = some x → (storeCells x news).run P w = .ok () w') (hn : b = none → w' = w) :
    (Builtin.copy_ #[t, t2] ty #[.slice b dl dc, .slice a sl sc]).run P w = .ok (goInt (Nat.min sl dl : Nat)) w' := by
  have hlen : Builtin.lenOf (.slice a sl sc) = pure sl := rfl
  unfold Builtin.copy_
  cases b with
  | none => rw [hn rfl]; simp [run_underlying P w ht, run_sizeOf P w hi, hlen, hload]
  | some x => simp [run_underlying P w ht, run_sizeOf P w hi, hlen, hload, hst x rfl]
theorem snd_cpyL (P : Program) {t t2 ty e : TypeId} {i : TypeInfo} (ht : P.underlying t = some (.slice e)) (hi : P.info? e = some i) (hi0 : i.size ≠ 0) {nx : Pos} {bs bs' : TB} {w : World} (hh : HR ρ nx bs w) {v v' r : V} {x x' : Value} (hv : VR ρ v x) (hv' : VR ρ v' x')
    (hf : cpyL i.size bs v v' = some (r, bs')) : ∃ y w', (Builtin.copy_ #[t, t2] ty #[x, x']).run P w = .ok y w' ∧ VR ρ r y ∧ HR ρ nx bs' w' ∧ Ext ρ nx bs w ρ nx bs' w' := by
  have ld0 : ∀ (a : Option Addr) (sl sc : Nat), (Builtin.firstCells i.size 0 (.slice a sl sc)).run P w = .ok ([] : List Value).toArray w := fun a sl sc => by
    cases a with
    | none => rfl
    | some a => show (loadCells a (0 * i.size)).run P w = _; rw [Nat.zero_mul]; exact run_loadCells_list (P := P) w a [] (by simp)
  have zero : ∀ (b : Option Addr) (dl dc : Nat) (a : Option Addr) (sl sc : Nat), Nat.min sl dl = 0 → ∃ y w', (Builtin.copy_ #[t, t2] ty #[.slice b dl dc, .slice a sl sc]).run P w = .ok y w' ∧ VR ρ (.n 0) y ∧ HR ρ nx bs w' ∧ Ext ρ nx bs w ρ nx bs w' := by
    intro b dl dc a sl sc h0
    refine ⟨_, w, run_copy P w ht hi b dl dc a sl sc (news := []) w (by rw [h0]; exact ld0 a sl sc) (fun x _ => rfl) (fun _ => rfl), ?_, hh, Ext.refl ..⟩
    rw [h0]; exact VR_n_of (by omega) (by rw [wrap_n 0 (by omega), if_pos (by omega)])
  rcases asL_some hf with ⟨ev, h1⟩ | ⟨id, o, l, c, ev, h1⟩
  · rcases asL_some h1 with ⟨ev', h2⟩ | ⟨id2, o2, m, c2, ev', h2⟩
    · clear h1 hf; subst ev; subst ev'
      have := hv.l0; subst this
      have := hv'.l0; subst this
      injection h2 with h2; injection h2 with e1 e2; subst e1; subst e2
      exact zero none 0 0 none 0 0 rfl
    · clear h1 hf; subst ev; subst ev'
      have := hv.l0; subst this
      obtain ⟨q, z, cap, hq, rfl, -⟩ := hv'.l
      injection h2 with h2; injection h2 with e1 e2; subst e1; subst e2
      exact zero none 0 0 _ _ _ (Nat.min_zero _)
  · rcases asL_some h1 with ⟨ev', h2⟩ | ⟨id2, o2, m, c2, ev', h2⟩
    · clear h1 hf; subst ev; subst ev'
      have := hv'.l0; subst this
      obtain ⟨q, z, cap, hq, rfl, -⟩ := hv.l
      injection h2 with h2; injection h2 with e1 e2; subst e1; subst e2
      exact zero _ _ _ none 0 0 (Nat.zero_min _)
    · clear h1 hf; subst ev; subst ev'
      obtain ⟨q, z, cap, hq, rfl, hlc, -, hz, -⟩ := hv.l
      obtain ⟨q2, z2, cap2, hq2, rfl, hlc2, -, hz2, -⟩ := hv'.l
      have ek : (cond (Nat.ble l m) l m : Nat) = Nat.min m l := by
        rw [ble_eq]
        by_cases h : l ≤ m
        · rw [decide_eq_true h, cond_true]; exact (Nat.min_eq_right h).symm
        · rw [decide_eq_false h, cond_false]; exact (Nat.min_eq_left (by omega)).symm
      rw [ek] at h2
      have hkm : Nat.min m l ≤ m := Nat.min_le_left _ _
      have hkl : Nat.min m l ≤ l := Nat.min_le_right _ _
      generalize hk : Nat.min m l = k at h2 hkm hkl
      unfold cpyK at h2
      cases hk0 : Nat.beq k 0 with
      | true =>
        rw [hk0, cond_true] at h2
        have := Nat.eq_of_beq_eq_true hk0; subst this
        injection h2 with h2; injection h2 with e1 e2; subst e1; subst e2
        exact zero _ _ _ _ _ _ hk
      | false =>
        rw [hk0, cond_false] at h2
        have hk0 : k ≠ 0 := fun h => by rw [beq_yes h] at hk0; simp at hk0
        obtain ⟨g0, h2⟩ := cond_some h2
        have g0 : k ≤ 1048576 := Nat.le_of_ble_eq_true g0
        obtain ⟨es2, sz2, ds, hl2, h2⟩ := bk_some h2
        obtain ⟨g1, h2⟩ := cond_some h2
        obtain ⟨es, sz, cs, hl, h2⟩ := bk_some h2
        obtain ⟨g2, h2⟩ := cond_some h2
        obtain ⟨g3, h2⟩ := cond_some h2
        obtain ⟨g4, h2⟩ := cond_some h2
        have g1 : o2 + k * i.size ≤ sz2 := Nat.le_of_ble_eq_true g1
        have g2 : o + k * i.size ≤ sz := Nat.le_of_ble_eq_true g2
        have g3 : sz ≤ 1099511627775 := Nat.le_of_ble_eq_true g3
        injection h2 with h2; injection h2 with e1 e2; subst e1; subst e2
        have hz : z = q.o + o := hz.resolve_left (by omega)
        have hz2 : z2 = q2.o + o2 := hz2.resolve_left (by omega)
        have hpos : k * i.size ≠ 0 := Nat.mul_ne_zero hk0 hi0
        obtain ⟨q', hq', -, hbr⟩ := hh.live _ _ _ _ hl
        rw [hq] at hq'; injection hq' with hq'; subst hq'
        obtain ⟨q2', hq2', -, hbr2⟩ := hh.live _ _ _ _ hl2
        rw [hq2] at hq2'; injection hq2' with hq2'; subst hq2'
        obtain ⟨news, hln, hnews, hnv⟩ := row_of hbr2 g1
        rw [← hz2] at hnews
        have hns : VRs ρ (ds.take (k * i.size) (o2 + 1)) news := VRs.mk (by rw [TV.take_length, hln]) fun j cv y hc hy => by
          have hj : j < k * i.size := by
            rcases Nat.lt_or_ge j (k * i.size) with hh | hh
            · exact hh
            · rw [List.getElem?_eq_none (by rw [TV.take_length]; exact hh)] at hc; simp at hc
          rw [TV.take_get ds _ _ j hj] at hc
          injection hc with hc; subst hc
          obtain ⟨y', hy', hyv⟩ := hnv j hj
          rw [hy] at hy'; injection hy' with hy'; subst hy'
          rw [show o2 + 1 + j = o2 + j + 1 by omega]; exact hyv
        have hsz := hbr.size_le (by omega)
        obtain ⟨C, fz, f1, f0, f2, f3⟩ := hbr
        have hst := run_storeCells_cells (P := P) q.r (q.o + o) news 0 w (fun j hj => by rw [Nat.add_zero, cell_of f1]; simp; omega)
          (fun j hj => by rw [Nat.add_zero]; exact frozen_of f1 _ (f3 _ (by omega) (by omega))) (flatL_one g4 hns)
        obtain ⟨p1, p2⟩ := hh.put hl hq (off := o) hns (by rw [TV.take_length]; omega) g3
        refine ⟨_, _, run_copy P w ht hi (some ⟨q.r, z, none⟩) l cap (some ⟨q2.r, z2, none⟩) m cap2 (news := news) (w.setCells q.r (q.o + o) news) ?_ (fun x hx => ?_) (by simp), ?_, p1, p2⟩
        · rw [hk]
          show (loadCells _ (k * i.size)).run P w = _
          rw [← hln]; exact run_loadCells_list (P := P) w _ news hnews
        · injection hx with hx; subst hx; rw [hz]; simpa using hst
        · rw [hk]; exact VR_n_of (by omega) (by rw [wrap_n k (by omega), if_pos (by omega)])

end Go.Proofs.YtmbnogellhoheaaGreatDoor.Ev

/- Texts some of whose bytes are atoms: what they say; rows of such bytes. -/
namespace Go.Proofs.YtmbnogellhoheaaGreatDoor.Ev
open Go
variable {ρ : Rho}

/-! ### what such a text says -/
theorem byteVal_inj {a b : UInt8} (h : byteVal a = byteVal b) : a = b := by
  unfold byteVal at h
  injection h with _ h
  exact UInt8.toNat_inj.1 (by omega)
theorem map_byteVal_inj : ∀ {a b : List UInt8}, a.map byteVal = b.map byteVal → a = b
  | [], [], _ => rfl
  | [], _ :: _, h => by simp at h
  | _ :: _, [], h => by simp at h
  | x :: a, y :: b, h => by
    simp only [List.map_cons, List.cons.injEq] at h
    rw [byteVal_inj h.1, map_byteVal_inj h.2]
theorem VR.str {l : List UInt8} {x : Value} (h : VR ρ (.s l.length (enc l)) x) : x = .string ⟨l.toArray⟩ := by
  obtain ⟨s, rfl, h1, h2⟩ := h.s
  have : s.data.toList = l := enc_inj h1 h2
  subst this
  rfl
theorem VR_str (l : List UInt8) : VR ρ (.s l.length (enc l)) (.string ⟨l.toArray⟩) := VR_s (by simp) (by simp)
/-- The bytes of a text. -/
noncomputable def wOf (v : V) : Option (List V) := WS.rec (motive := fun _ => Option (List V)) (asW v none fun cs => some cs) (fun l m => cond (Nat.ble l 1048576) (some (strV l m)) none) (vS v)
theorem wOf_snd {v : V} {cs : List V} {x : Value} (h : wOf v = some cs) (hv : VR ρ v x) : ∃ l : List UInt8, x = .string ⟨l.toArray⟩ ∧ VRs ρ cs (l.map byteVal) := by
  cases v with
  | s l m =>
    obtain ⟨-, h1⟩ := cond_some (show cond (Nat.ble l 1048576) (some (strV l m)) none = some cs from h)
    injection h1 with h1; subst h1
    obtain ⟨s, rfl, h2, h3⟩ := hv.s
    refine ⟨s.data.toList, rfl, ?_⟩
    rw [← h2, ← h3]
    exact strV_VRs _
  | w ds =>
    have h : some ds = some cs := h
    injection h with h; subst h
    obtain ⟨s, rfl, h1⟩ := hv.w
    exact ⟨s.data.toList, rfl, h1⟩
  | _ => cases h
/-- A text of bytes: a plain one, if all are known. -/
noncomputable def mkW (cs : List V) : V := Option.rec (motive := fun _ => V) (.w cs) (fun m => .s (llen cs) m) (bytesV cs)
theorem VR_w {cs : List V} {l : List UInt8} (h : VRs ρ cs (l.map byteVal)) : VR ρ (.w cs) (.string ⟨l.toArray⟩) := by
  unfold VR; simpa using h
theorem mkW_snd {cs : List V} {l : List UInt8} (h : VRs ρ cs (l.map byteVal)) : VR ρ (mkW cs) (.string ⟨l.toArray⟩) := by
  unfold mkW
  cases e : bytesV cs with
  | none => exact VR_w h
  | some t =>
    obtain ⟨bs, h1, h2⟩ := bytesV_spec _ _ _ h e
    have := map_byteVal_inj h1
    subst this
    have hl : cs.length = l.length := by simpa using h.length
    show VR ρ (.s (llen cs) t) _
    rw [llen_eq, hl, ← h2]
    exact VR_str l
theorem VRs.take' {cs : List V} {xs : List Value} (h : VRs ρ cs xs) (k : Nat) : VRs ρ (takeL k cs) (xs.take k) := by rw [takeL_eq]; exact h.take k
theorem VRs.drop' {cs : List V} {xs : List Value} (h : VRs ρ cs xs) (k : Nat) : VRs ρ (dropL k cs) (xs.drop k) := by rw [dropL_eq]; exact h.drop k
theorem VRs.llen {cs : List V} {l : List UInt8} (h : VRs ρ cs (l.map byteVal)) : llen cs = l.length := by rw [llen_eq, h.length]; simp

/-- The first, or else the second. -/
noncomputable def orO {α : Type} (a b : Option α) : Option α := Option.rec (motive := fun _ => Option α) b (fun x => some x) a
theorem orO_some {α : Type} {a b : Option α} {r : α} (h : orO a b = some r) : a = some r ∨ b = some r := by
  cases a with
  | none => exact .inr h
  | some x => exact .inl h
/-! ### rows of such bytes -/
noncomputable def byteW (v : V) : Bool := W1.rec (motive := fun _ => Bool) (asA v false fun k _ => Nat.beq k 2) (fun _ => true) (vY v)
noncomputable def bytesW (cs : List V) : Bool := List.rec (motive := fun _ => Bool) true (fun c _ ih => cond (byteW c) ih false) cs
theorem asA_true {v : V} {k : Nat → Pos → Bool} (h : asA v false k = true) : ∃ i p, v = .a i p ∧ k i p = true := by
  cases v <;> first | exact ⟨_, _, rfl, h⟩ | (have h : false = true := h; cases h)
theorem byteW_spec {v : V} {x : Value} (hv : VR ρ v x) (h : byteW v = true) : ∃ b : UInt8, x = byteVal b := by
  have of : ∀ m : Nat, m < 256 → ∃ b : UInt8, Value.int .u8 (m : Int) = byteVal b := fun m hm => ⟨UInt8.ofNat m, by unfold byteVal; simp; omega⟩
  cases v with
  | y m => obtain ⟨hm, rfl⟩ := hv.y; exact of m hm
  | a k i =>
    have h : Nat.beq k 2 = true := h
    have := Nat.eq_of_beq_eq_true h
    subst this
    obtain ⟨q, -, hq⟩ := hv.a
    unfold AtR at hq
    split at hq
    · rename_i he; cases he
    · rename_i he; cases he
    · obtain ⟨rfl, h1, rfl⟩ := hq; exact of _ h1
    · rename_i he; omega
    · exact hq.elim
  | _ => cases h
theorem bytesW_spec : ∀ {cs : List V} {xs : List Value}, VRs ρ cs xs → bytesW cs = true → ∃ bs : List UInt8, xs = bs.map byteVal
  | [], [], _, _ => ⟨[], rfl⟩
  | [], _ :: _, h, _ => by simp [VRs] at h
  | _ :: _, [], h, _ => by simp [VRs] at h
  | c :: cs, x :: xs, h, hb => by
    simp only [VRs] at h
    have hb : cond (byteW c) (bytesW cs) false = true := hb
    cases e : byteW c with
    | false => rw [e] at hb; cases hb
    | true =>
      rw [e, cond_true] at hb
      obtain ⟨b, rfl⟩ := byteW_spec h.1 e
      obtain ⟨bs, rfl⟩ := bytesW_spec h.2 hb
      exact ⟨b :: bs, rfl⟩
noncomputable def cvLSW (bs : TB) (x : V) : Option V := asL x none none fun i o l _ => cond (Nat.beq l 0) none
  (bk bs i fun _ sz cs => cond (Nat.ble (Nat.add o l) sz) (cond (bytesW (cs.take l (Nat.succ o))) (some (.w (cs.take l (Nat.succ o)))) none) none)
theorem snd_cvLSW (P : Program) {src dst e : TypeId} (hs : P.underlying src = some (.slice e)) (he : P.underlying e = some (.int .u8)) (hd : P.underlying dst = some .string) {nx : Pos} {bs : TB} {w : World} (hh : HR ρ nx bs w) {v r : V} {x : Value} (hv : VR ρ v x)
    (hf : cvLSW bs v = some r) : ∃ y, (convert src dst x).run P w = .ok y w ∧ VR ρ r y := by
  rcases asL_some hf with ⟨ev, h1⟩ | ⟨id, o, l, c, ev, h1⟩
  · subst ev
    cases h1
  · subst ev
    obtain ⟨q, z, cap, hq, rfl, hlc, -, hz, -⟩ := hv.l
    cases hl0 : Nat.beq l 0 with
    | true => rw [hl0] at h1; cases h1
    | false =>
      rw [hl0, cond_false] at h1
      have hl0 : l ≠ 0 := fun h => by rw [beq_yes h] at hl0; simp at hl0
      have hz : z = q.o + o := hz.resolve_left (by omega)
      obtain ⟨es, sz, cs, hl, h1⟩ := bk_some h1
      obtain ⟨g, h1⟩ := cond_some h1
      have g : o + l ≤ sz := Nat.le_of_ble_eq_true g
      obtain ⟨q', hq', -, hbr⟩ := hh.live _ _ _ _ hl
      rw [hq] at hq'; injection hq' with hq'; subst hq'
      obtain ⟨vs, hvl, hvc, hvv⟩ := row_of hbr g
      have hvs : VRs ρ (cs.take l (o + 1)) vs := VRs.mk (by rw [TV.take_length, hvl]) fun k cv y hc hy => by
        have hk : k < l := by
          rcases Nat.lt_or_ge k l with hh | hh
          · exact hh
          · rw [List.getElem?_eq_none (by rw [TV.take_length]; exact hh)] at hc; simp at hc
        rw [TV.take_get cs _ _ k hk] at hc
        injection hc with hc; subst hc
        obtain ⟨y', hy', hyv⟩ := hvv k hk
        rw [hy] at hy'; injection hy' with hy'; subst hy'
        rw [show o + 1 + k = o + k + 1 by omega]; exact hyv
      obtain ⟨g4, h1⟩ := cond_some h1
      injection h1 with h1; subst h1
      obtain ⟨by', e1⟩ := bytesW_spec hvs g4
      have hbl : by'.length = l := by rw [← hvl, e1]; simp
      refine ⟨.string ⟨by'.toArray⟩, ?_, VR_w (by rw [← e1]; exact hvs)⟩
      have := run_convert_bytes_back (P := P) w src dst e ⟨q.r, z, none⟩ cap by' hs he hd (fun j hj => by
        rw [hz]
        refine hvc j _ ?_
        rw [e1, List.getElem?_map, List.getElem?_eq_getElem hj]; rfl)
      rw [hbl] at this
      exact this

noncomputable def ustrW (ec : Nat) (bs : TB) (x y : V) : Option (V × TB) := asP x none fun i o => asN y none fun n => cond (Nat.beq n 0) none (bk bs i fun es sz cs => cond (Nat.beq es ec) (cond (Nat.ble (Nat.add o n) sz) (cond (Nat.ble n 1048576)
  (cond (bytesW (cs.take n (Nat.succ o))) (some (.w (cs.take n (Nat.succ o)), bs.set i .none)) none) none) none) none)
theorem snd_ustrW (P : Program) (pt it ty : TypeId) {e : TypeId} (hp : P.underlying pt = some (.pointer e)) (hc : P.cellsOf e = 1) {nx : Pos} {bs bs' : TB} {w : World} (hh : HR ρ nx bs w) {v v' r : V} {x x' : Value} (hv : VR ρ v x) (hv' : VR ρ v' x')
    (hf : ustrW (e * 65536 + 1) bs v v' = some (r, bs')) : ∃ y w', (Builtin.unsafeString_ #[pt, it] ty #[x, x']).run P w = .ok y w' ∧ VR ρ r y ∧ HR ρ nx bs' w' ∧ Ext ρ nx bs w ρ nx bs' w' := by
  obtain ⟨i, o, ev, h1⟩ := asP_some hf
  obtain ⟨n, ev', h2⟩ := asN_some h1
  clear h1 hf
  subst ev; subst ev'
  cases hn0 : Nat.beq n 0 with
  | true => rw [hn0] at h2; cases h2
  | false =>
    rw [hn0, cond_false] at h2
    have hn0 : n ≠ 0 := fun h => by rw [beq_yes h] at hn0; simp at hn0
    obtain ⟨es, sz, cs, hl, h3⟩ := bk_some h2
    obtain ⟨g1, h4⟩ := cond_some h3
    obtain ⟨g2, h5⟩ := cond_some h4
    obtain ⟨g3, h6⟩ := cond_some h5
    clear h5 h4 h3 h2
    have g1 : es = e * 65536 + 1 := Nat.eq_of_beq_eq_true g1
    have g2 : o + n ≤ sz := Nat.le_of_ble_eq_true g2
    have g3 : n ≤ 1048576 := Nat.le_of_ble_eq_true g3
    obtain ⟨q, hq, rfl⟩ := hv.p
    obtain ⟨hn, rfl⟩ := hv'.n
    obtain ⟨q', hq', hes, hbr⟩ := hh.live _ _ _ _ hl
    rw [hq] at hq'; injection hq' with hq'; subst hq'
    have hsz := hbr.size_le (by omega)
    obtain ⟨vs, hvl, hvc, hvv⟩ := row_of hbr g2
    obtain ⟨C, fz, f1, f0, -⟩ := hbr
    have hE : q.s / 65536 = e := by rw [hes.1, g1]; exact (ty_div (by decide)).symm
    rw [hE] at f1
    have hvs : VRs ρ (cs.take n (o + 1)) vs := VRs.mk (by rw [TV.take_length, hvl]) fun k cv y hc hy => by
      have hk : k < n := by
        rcases Nat.lt_or_ge k n with hh | hh
        · exact hh
        · rw [List.getElem?_eq_none (by rw [TV.take_length]; exact hh)] at hc; simp at hc
      rw [TV.take_get cs _ _ k hk] at hc
      injection hc with hc; subst hc
      obtain ⟨y', hy', hyv⟩ := hvv k hk
      rw [hy] at hy'; injection hy' with hy'; subst hy'
      rw [show o + 1 + k = o + k + 1 by omega]; exact hyv
    obtain ⟨g4, h6⟩ := cond_some h6
    injection h6 with h6; injection h6 with e1 e2; subst e1; subst e2
    obtain ⟨by', e1⟩ := bytesW_spec hvs g4
    have hbl : by'.length = n := by rw [← hvl, e1]; simp
    have hr := run_ustr P w pt it ty hp hc (shape_of f1) by' (fun h => by rw [h] at hbl; simp at hbl; omega) (z := q.o + o) (by omega) (by omega) (fun j x hj => hvc j _ (by rw [e1, List.getElem?_map, hj]; rfl))
    rw [hbl] at hr
    have en : IntKind.i64.wrap (n : Int) = n := by rw [wrap_n n hn, if_pos (by omega)]
    rw [en]
    obtain ⟨p1, p2⟩ := hh.lose hl hq (w' := w.freeze ⟨q.r, q.o + o, none⟩ n) (fun b hb => freeze_other w _ _ _ b hb) (freeze_size ..) (freeze_env ..)
    exact ⟨_, _, hr, VR_w (by rw [← e1]; exact hvs), p1, p2⟩

/-- Such a text's bytes as a new slice; appended. -/
theorem strV_y : ∀ (l m : Nat) (v : V), (∀ k, v ≠ .y k) → v ∉ strV l m
  | 0, _, _, _, h => by cases h
  | l + 1, m, v, hv, h => by
    rw [strV_succ] at h
    cases h with
    | head => exact hv _ rfl
    | tail _ h => exact strV_y l _ v hv h
noncomputable def cvSLW (ec : Nat) (x : V) : Option NV := asW x none fun cs => cond (Nat.ble (llen cs) 1048576) (some (.l ec (llen cs) 0 cs)) none
theorem snd_cvSLW (P : Program) {src dst e : TypeId} (hs : P.underlying src = some .string) (hd : P.underlying dst = some (.slice e)) (he : P.underlying e = some (.int .u8)) (w : World) {v : V} {x : Value} (hv : VR ρ v x) {n : NV}
    (hf : cvSLW (e * 65536 + 1) v = some n) : NSnd ρ w n ((convert src dst x).run P w) := by
  obtain ⟨cs, rfl, h1⟩ := asW_some hf
  obtain ⟨g, h2⟩ := cond_some h1
  have g : llen cs ≤ 1048576 := Nat.le_of_ble_eq_true g
  injection h2 with h2; subst h2
  obtain ⟨l, rfl, h3⟩ := wOf_snd (v := .w cs) (cs := cs) rfl hv
  rw [h3.llen] at g ⊢
  obtain ⟨y, w', C, fz, k1, k2, k3, k4, k5, k6, k7⟩ := snd_cvSL P hs hd he w (VR_str (ρ := ρ) l) (n := .l (e * 65536 + 1) l.length 0 (strV l.length (enc l))) (by
    show cond (Nat.ble l.length 1048576) _ none = _
    rw [show Nat.ble l.length 1048576 = true from Nat.ble_eq_true_of_le g]; rfl)
  have hlen : cs.length = l.length := by rw [h3.length]; simp
  refine ⟨y, w', C, fz, k1, k2, k3, by show cs.length ≤ _; omega, fun k c hk => ?_, k6, k7⟩
  have hk : cs[k]? = some c := hk
  have hkl : k < l.length := by rw [← hlen]; exact (List.getElem?_eq_some_iff.1 hk).1
  obtain ⟨z, hz1, hz2⟩ := h3.get k c hk
  have hst : k < (strV l.length (enc l)).length := by rw [strV_len]; exact hkl
  obtain ⟨z2, hz3, hz4⟩ := k5 k ((strV l.length (enc l))[k]'hst) (List.getElem?_eq_getElem hst)
  have hs5 := strV_VRs (ρ := ρ) l
  obtain ⟨z3, hz5, hz6⟩ := hs5.get k ((strV l.length (enc l))[k]'hst) (List.getElem?_eq_getElem hst)
  rw [hz1] at hz5
  injection hz5 with hz5
  subst hz5
  refine ⟨z2, hz3, ?_⟩
  have e1 : z2 = z := by
    cases hc : (strV l.length (enc l))[k]'hst with
    | y m => rw [hc] at hz4 hz6; rw [hz4.y.2, hz6.y.2]
    | _ =>
      have hm : (strV l.length (enc l))[k]'hst ∈ strV l.length (enc l) := List.getElem_mem _
      rw [hc] at hm
      exact absurd hm (strV_y _ _ _ (by intro m; intro hh; cases hh))
  rw [e1]; exact hz2
noncomputable def appW (ec : Nat) (nx : Pos) (bs : TB) (s x : V) : Option AR :=
  asW x none fun cs => cond (Nat.beq (llen cs) 0) none (cond (Nat.ble (llen cs) 1048576) (appC ec 1 nx bs s (llen cs) 0 (into cs .e 1)) none)
theorem snd_appW (P : Program) {t t2 ty e : TypeId} {i : TypeInfo} {z : Value} (ok : AppOk P t e i z) (h1 : i.size = 1) (ht2 : P.underlying t2 = some .string) {nx nx' : Pos} {bs bs' : TB} {w : World} (hh : HR ρ nx bs w) {v v' r : V} {x x' : Value} (hv : VR ρ v x) (hv' : VR ρ v' x')
    (hf : appW (e * 65536 + 1) nx bs v v' = some (.mk r nx' bs')) :
    ∃ y w' ρ', (Builtin.append_ #[t, t2] ty #[x, x']).run P w = .ok y w' ∧ VR ρ' r y ∧ HR ρ' nx' bs' w' ∧ Ext ρ nx bs w ρ' nx' bs' w' := by
  obtain ⟨cs, rfl, h2⟩ := asW_some hf
  obtain ⟨l, rfl, h3⟩ := wOf_snd (v := .w cs) (cs := cs) rfl hv'
  cases hl0 : Nat.beq (llen cs) 0 with
  | true => rw [hl0] at h2; cases h2
  | false =>
    rw [hl0, cond_false] at h2
    have hl0 : llen cs ≠ 0 := fun h => by rw [beq_yes h] at hl0; cases hl0
    obtain ⟨g, h2⟩ := cond_some h2
    have g : llen cs ≤ 1048576 := Nat.le_of_ble_eq_true g
    have hsrc := src_string P w ht2 (⟨l.toArray⟩ : ByteArray)
    have e1 : (⟨l.toArray⟩ : ByteArray).data.toList = l := by simp
    rw [e1, ← h3.llen, ← h1] at hsrc
    refine snd_appC P ok hh hv (b := 0) (ds := into cs .e 1) hsrc hl0 (fun j hj => ?_) (by rw [h1]; exact h2)
    rw [h1, Nat.mul_one, llen_eq] at hj
    obtain ⟨y, hy, hyv⟩ := h3.get j _ (List.getElem?_eq_getElem hj)
    refine ⟨y, hy, ?_⟩
    rw [Nat.zero_add, into_at' cs j _ (List.getElem?_eq_getElem hj) (by rw [llen_eq] at g; omega)]
    exact hyv

end Go.Proofs.YtmbnogellhoheaaGreatDoor.Ev
