/- What strings.Builder asks of package unsafe; the library's entries that the model has. -/
import Derived.Test.YtmbnogellhoheaaGreatDoorEvM
import Derived.Lib.UnsafeStr
import Derived.Lib.Builder
import Derived.Lib.MakeNoZero
namespace Go.Proofs.YtmbnogellhoheaaGreatDoor.Ev
open Go
variable {ρ : Rho}

theorem shape_of {w : World} {r : Nat} {C : Array Value} {E : TypeId} {fz : Nat × Nat} (h : w.heap[r]? = some (.cells C E fz)) : w.shape? r = some (E, C.size) := by
  unfold World.shape?; rw [h]

/-! ### pointers seen as unsafe.Pointer, and back -/
noncomputable def toU (bs : TB) (x : V) : Option V := asP x none fun i o => bk bs i fun _ sz _ => cond (Nat.ble (Nat.succ o) sz) (some (.p i o)) none
noncomputable def fromU (u s : Nat) (bs : TB) (x : V) : Option V := asP x none fun i o => bk bs i fun es sz _ => cond (Nat.beq o 0) (cond (Nat.beq es (Nat.mul u 65536)) (cond (Nat.ble s sz) (some (.p i 0)) none) none) none
theorem snd_toU (P : Program) {src dst t : TypeId} {j : TypeInfo} (hs : P.underlying src = some (.pointer t)) (hd : P.underlying dst = some .unsafePointer) (ht : P.info? t = some j) (hj : j.size ≠ 0) {nx : Pos} {bs : TB} {w : World} (hh : HR ρ nx bs w)
    {v r : V} {x : Value} (hv : VR ρ v x) (hf : toU bs v = some r) : ∃ y, (convert src dst x).run P w = .ok y w ∧ VR ρ r y := by
  obtain ⟨i, o, ev, h1⟩ := asP_some hf
  subst ev
  obtain ⟨es, sz, cs, hl, h2⟩ := bk_some h1
  obtain ⟨g, h3⟩ := cond_some h2
  have g : o + 1 ≤ sz := Nat.le_of_ble_eq_true g
  injection h3 with h3; subst h3
  obtain ⟨q, hq, rfl⟩ := hv.p
  obtain ⟨q', hq', -, hbr⟩ := hh.live _ _ _ _ hl
  rw [hq] at hq'; injection hq' with hq'; subst hq'
  have hsz := hbr.size_le (by omega)
  obtain ⟨C, fz, g1, g0, -⟩ := hbr
  exact ⟨_, Lib.run_to_unsafe w ⟨q.r, q.o + o, none⟩ hs hd ht hj (shape_of g1) (by show q.o + o < C.size; omega), hv⟩
theorem liesAt_own {P : Program} {e : TypeId} (hc : P.cellsOf e ≠ 0) {count : Nat} (hn : 1 ≤ count) : liesAt P P.depth e count 0 e 1 = true := by
  have hd : P.depth = (2 * (P.types.size + Made.depth) + 1) + 1 := rfl
  rw [hd]
  simp only [liesAt, Bool.or_eq_true]
  left
  rw [hd]
  simp [rowAt, hc, hn, sameLayout]
theorem snd_fromU (P : Program) {src dst u : TypeId} {j : TypeInfo} {s : Nat} (hs : P.underlying src = some .unsafePointer) (hd : P.underlying dst = some (.pointer u)) (hu : P.info? u = some j) (hc : P.cellsOf u = s) (h0 : s ≠ 0) {nx : Pos} {bs : TB} {w : World}
    (hh : HR ρ nx bs w) {v r : V} {x : Value} (hv : VR ρ v x) (hf : fromU u s bs v = some r) : ∃ y, (convert src dst x).run P w = .ok y w ∧ VR ρ r y := by
  obtain ⟨i, o, ev, h1⟩ := asP_some hf
  subst ev
  obtain ⟨es, sz, cs, hl, h2⟩ := bk_some h1
  obtain ⟨g, h3⟩ := cond_some h2
  obtain ⟨g2, h4⟩ := cond_some h3
  obtain ⟨g3, h5⟩ := cond_some h4
  have g := Nat.eq_of_beq_eq_true g
  have g2 : es = u * 65536 := Nat.eq_of_beq_eq_true g2
  have g3 : s ≤ sz := Nat.le_of_ble_eq_true g3
  injection h5 with h5
  clear h4 h3 h2 h1 hf
  subst g; subst h5
  obtain ⟨q, hq, rfl⟩ := hv.p
  obtain ⟨q', hq', hes, hbr⟩ := hh.live _ _ _ _ hl
  rw [hq] at hq'; injection hq' with hq'; subst hq'
  have hsz := hbr.size_le (by omega)
  obtain ⟨C, fz, g1, g0, -⟩ := hbr
  have hqo : q.o = 0 := hes.2 (by rw [g2]; exact Nat.mul_mod_left u 65536)
  have hE : q.s / 65536 = u := by rw [hes.1, g2]; exact ty_div0.symm
  rw [hE] at g1
  refine ⟨_, Lib.run_from_unsafe w ⟨q.r, q.o + 0, none⟩ hs hd hu (shape_of g1) ?_, hv⟩
  show liesAt P P.depth u (C.size / P.cellsOf u) (q.o + 0) u 1 = true
  rw [hqo, hc]
  exact liesAt_own (by rw [hc]; exact h0) (by rw [g0]; exact (Nat.le_div_iff_mul_le (by omega)).2 (by omega))

/-! ### the row of a slice; the text of a row -/
noncomputable def sdtL (x : V) : Option V := asL x none (some .p0) fun i o l _ => cond (Nat.beq l 0) none (some (.p i o))
theorem snd_sdtL (P : Program) (ts : Array TypeId) (ty : TypeId) : Snd1 P sdtL (fun x => Builtin.unsafeSliceData_ ts ty #[x]) := by
  intro ρ v x r w hv hf
  rcases asL_some hf with ⟨ev, h1⟩ | ⟨i, o, l, c, ev, h1⟩
  · subst ev
    have := hv.l0; subst this
    injection h1 with h1; subst h1
    exact ⟨.pointer none, Lib.run_unsafeSliceData_nil w ts ty 0 0, by unfold VR; rfl⟩
  · subst ev
    obtain ⟨q, z, cap, hq, rfl, hlc, -, hz, -⟩ := hv.l
    cases hl0 : Nat.beq l 0 with
    | true => rw [hl0] at h1; cases h1
    | false =>
      rw [hl0, cond_false] at h1
      injection h1 with h1; subst h1
      have hl0 : l ≠ 0 := fun h => by rw [beq_yes h] at hl0; simp at hl0
      have hz : z = q.o + o := hz.resolve_left (by omega)
      subst hz
      exact ⟨_, Lib.run_unsafeSliceData_row w ts ty _ l cap (by omega), VR_p hq rfl⟩

/-! ### rooms of whatever bytes -/
noncomputable def mnzV (ec : Nat) (x : V) : Option NV := asN x none fun n => cond (Nat.ble n 1048576) (some (.l ec n 0 (rep [.u] n))) none
theorem snd_mnzV (P : Program) (ps : Array TypeId) {t e : TypeId} (ht : P.underlying t = some (.slice e)) (w : World) {v : V} {x : Value} (hv : VR ρ v x) {n : NV} (hf : mnzV (e * 65536 + 1) v = some n) :
    NSnd ρ w n ((Extern.BytealgMakeNoZero.makeNoZero ps #[t] #[x]).run P w) := by
  obtain ⟨m, ev, h1⟩ := asN_some hf
  subst ev
  obtain ⟨hm, rfl⟩ := hv.n
  obtain ⟨g, h2⟩ := cond_some h1
  have g : m ≤ 1048576 := Nat.le_of_ble_eq_true g
  injection h2 with h2; subst h2
  have em : IntKind.i64.wrap (m : Int) = m := by rw [wrap_n m hm, if_pos (by omega)]
  rw [em]
  obtain ⟨cs, hr, hge, -⟩ := Lib.run_makeNoZero (P := P) w ps t e ht m (by omega)
  refine nsnd_l hr rfl (ty_div (by decide)) (by rw [rep_length]; simp; omega) (fun k v hk => ?_) hge (fun h => absurd rfl h) (fun _ => by rw [ty_mod (by decide : 1 < 65536), Nat.mul_one]; exact Nat.le_refl _)
  have hkl : k < m * ([V.u] : List V).length := by
    rcases Nat.lt_or_ge k (m * ([V.u] : List V).length) with hh | hh
    · exact hh
    · rw [List.getElem?_eq_none (by rw [rep_length]; exact hh)] at hk; simp at hk
  rw [rep_get _ m k hkl] at hk
  simp only [List.length_singleton, Nat.mod_one, Nat.mul_one] at hk hkl
  have : v = .u := by simpa using hk.symm
  subst this
  exact ⟨cs[k]'(by omega), Array.getElem?_eq_getElem (by omega), by simp [VR]⟩

end Go.Proofs.YtmbnogellhoheaaGreatDoor.Ev

/- unsafe.String: the row is frozen, so its name is let go. Counting and finding bytes. -/
namespace Go.Proofs.YtmbnogellhoheaaGreatDoor.Ev
open Go
variable {ρ : Rho}

/-- A name let go, whose block may have changed. -/
theorem HR0.lose {nx : Pos} {bs : TB} {w w' : World} (h : HR0 ρ nx bs w) {i : Pos} {es sz : Nat} {cs : TV} (hl : Live bs i es sz cs) {q : Pl} (hq : ρ i = some q) (hother : ∀ b, b ≠ q.r → w'.heap[b]? = w.heap[b]?) (hsz : w'.heap.size = w.heap.size) (hev : Evn w w') :
    HR0 ρ nx (bs.set i .none) w' ∧ Ext ρ nx bs w ρ nx (bs.set i .none) w' := by
  have hd := h.drop i
  refine ⟨⟨fun id es' sz' cs' hl' => ?_, hd.apart, hd.fresh, fun id q1 h1 => by rw [hsz]; exact h.inside _ _ h1⟩, ⟨Rho.le_refl ρ, by rw [hsz]; exact Nat.le_refl _, fun b hb ho => ?_, ?_, Nat.le_refl _, fun _ _ h => h, hev, ?_⟩⟩
  · obtain ⟨hne, hl''⟩ := live_none hl'
    obtain ⟨q', h1, h2, h3⟩ := h.live _ _ _ _ hl''
    exact ⟨q', h1, h2, h3.mono (Rho.le_refl ρ) (hother _ fun e => hne (h.apart _ _ _ _ _ _ _ _ _ _ hl'' hl h1 hq e))⟩
  · exact hother b fun e => ho ⟨i, es, sz, cs, q, hl, hq, e.symm⟩
  · rintro b - ⟨id, es', sz', cs', q', h1, h2⟩
    exact ⟨id, es', sz', cs', q', (live_none h1).2, h2⟩
  · rintro b - ⟨id, es', sz', cs', q', h1, h2, h3⟩
    obtain ⟨hne, hl''⟩ := live_none h1
    subst h3
    exact fzAt_of (hother _ fun e => hne (h.apart _ _ _ _ _ _ _ _ _ _ hl'' hl h2 hq e))
theorem HR.lose {nx : Pos} {bs : TB} {w w' : World} (h : HR ρ nx bs w) {i : Pos} {es sz : Nat} {cs : TV} (hl : Live bs i es sz cs) {q : Pl} (hq : ρ i = some q) (hother : ∀ b, b ≠ q.r → w'.heap[b]? = w.heap[b]?) (hsz : w'.heap.size = w.heap.size) (hev : Evn w w') :
    HR ρ nx (bs.set i .none) w' ∧ Ext ρ nx bs w ρ nx (bs.set i .none) w' := by
  obtain ⟨k1, k2⟩ := h.toHR0.lose hl hq hother hsz hev
  exact ⟨h.step k1 k2, k2⟩
theorem liesAt_row {P : Program} {e : TypeId} (hc : P.cellsOf e = 1) {count off n : Nat} (hn : off + n ≤ count) : liesAt P P.depth e count off e n = true := by
  have hd : P.depth = (2 * (P.types.size + Made.depth) + 1) + 1 := rfl
  rw [hd]
  simp only [liesAt, Bool.or_eq_true]
  left
  rw [hd]
  simp [rowAt, hc, hn, sameLayout, Nat.mod_one]
theorem run_ustr (P : Program) (w : World) (pt it ty : TypeId) {e : TypeId} (hp : P.underlying pt = some (.pointer e)) (hc : P.cellsOf e = 1) {r z cells : Nat} (hsh : w.shape? r = some (e, cells)) (l : List UInt8) (h0 : l ≠ []) (hn : z + l.length ≤ cells) (h63 : l.length ≤ 1099511627776)
    (hcell : ∀ j x, l[j]? = some x → w.cell? ((⟨r, z, none⟩ : Addr).add j) = some (.int .u8 x.toNat)) :
    (Builtin.unsafeString_ #[pt, it] ty #[.pointer (some ⟨r, z, none⟩), .int .i64 l.length]).run P w = .ok (.string ⟨l.toArray⟩) (w.freeze ⟨r, z, none⟩ l.length) := by
  have hl : l.length ≠ 0 := by simpa using h0
  have hlb := Lib.run_loadBytes (P := P) w l ⟨r, z, none⟩ .empty hcell
  have hlies := liesAt_row (P := P) hc (count := cells / P.cellsOf e) (off := z) (n := l.length) (by rw [hc, Nat.div_one]; exact hn)
  have h63' : ¬ (9223372036854775807 : Int) < (l.length : Int) := by omega
  have hmax : IntKind.i64.max = 9223372036854775807 := rfl
  show ((asInt (.int .i64 l.length) >>= _ : Sem Value).run P w) = _
  have hneg : ¬ (l.length : Int) < 0 := by omega
  have he : (ByteArray.empty.data ++ l.toArray) = l.toArray := by have : ByteArray.empty.data = #[] := rfl; rw [this]; simp
  rw [he] at hlb
  simp [asInt, asIntOf, hmax, h63', hneg, hl, variablesAt, hsh, elemOf, run_underlying P w hp, hlies, hlb]
noncomputable def ustr (ec : Nat) (bs : TB) (x y : V) : Option (V × TB) := asP x none fun i o => asN y none fun n => cond (Nat.beq n 0) none (bk bs i fun es sz cs => cond (Nat.beq es ec) (cond (Nat.ble (Nat.add o n) sz) (cond (Nat.ble n 1048576)
  (Option.casesOn (bytesV (cs.take n (Nat.succ o))) none fun m => some (.s n m, bs.set i .none)) none) none) none)
theorem freeze_other (w : World) (r z n b : Nat) (h : b ≠ r) : (w.freeze ⟨r, z, none⟩ n).heap[b]? = w.heap[b]? := by
  unfold World.freeze
  split
  · rfl
  · show (w.heap.modify r _)[b]? = _
    rw [Array.getElem?_modify, if_neg (Ne.symm h)]
theorem freeze_env (w : World) (a : Addr) (n : Nat) : Evn w (w.freeze a n) := by
  unfold World.freeze
  split <;> exact ⟨rfl, rfl⟩
theorem freeze_size (w : World) (a : Addr) (n : Nat) : (w.freeze a n).heap.size = w.heap.size := by
  unfold World.freeze
  split
  · rfl
  · simp
theorem snd_ustr (P : Program) (pt it ty : TypeId) {e : TypeId} (hp : P.underlying pt = some (.pointer e)) (hc : P.cellsOf e = 1) {nx : Pos} {bs bs' : TB} {w : World} (hh : HR ρ nx bs w) {v v' r : V} {x x' : Value} (hv : VR ρ v x) (hv' : VR ρ v' x')
    (hf : ustr (e * 65536 + 1) bs v v' = some (r, bs')) : ∃ y w', (Builtin.unsafeString_ #[pt, it] ty #[x, x']).run P w = .ok y w' ∧ VR ρ r y ∧ HR ρ nx bs' w' ∧ Ext ρ nx bs w ρ nx bs' w' := by
  obtain ⟨i, o, ev, h1⟩ := asP_some hf
  obtain ⟨n, ev', h2⟩ := asN_some h1
  clear h1 hf
  subst ev; subst ev'
  cases hn0 : Nat.beq n 0 with
  | true => rw [hn0] at h2; cases h2
  | false =>
    rw [hn0, cond_false] at h2
    have hn0 : n ≠ 0 := fun h => by rw [beq_yes h] at hn0; simp at hn0
    obtain ⟨es, sz, cs, hl, h3⟩ := bk_some h2
    obtain ⟨g1, h4⟩ := cond_some h3
    obtain ⟨g2, h5⟩ := cond_some h4
    obtain ⟨g3, h6⟩ := cond_some h5
    clear h5 h4 h3 h2
    have g1 : es = e * 65536 + 1 := Nat.eq_of_beq_eq_true g1
    have g2 : o + n ≤ sz := Nat.le_of_ble_eq_true g2
    have g3 : n ≤ 1048576 := Nat.le_of_ble_eq_true g3
    obtain ⟨q, hq, rfl⟩ := hv.p
    obtain ⟨hn, rfl⟩ := hv'.n
    obtain ⟨q', hq', hes, hbr⟩ := hh.live _ _ _ _ hl
    rw [hq] at hq'; injection hq' with hq'; subst hq'
    have hsz := hbr.size_le (by omega)
    obtain ⟨vs, hvl, hvc, hvv⟩ := row_of hbr g2
    obtain ⟨C, fz, f1, f0, -⟩ := hbr
    have hE : q.s / 65536 = e := by rw [hes.1, g1]; exact (ty_div (by decide)).symm
    rw [hE] at f1
    have hvs : VRs ρ (cs.take n (o + 1)) vs := VRs.mk (by rw [TV.take_length, hvl]) fun k cv y hc hy => by
      have hk : k < n := by
        rcases Nat.lt_or_ge k n with hh | hh
        · exact hh
        · rw [List.getElem?_eq_none (by rw [TV.take_length]; exact hh)] at hc; simp at hc
      rw [TV.take_get cs _ _ k hk] at hc
      injection hc with hc; subst hc
      obtain ⟨y', hy', hyv⟩ := hvv k hk
      rw [hy] at hy'; injection hy' with hy'; subst hy'
      rw [show o + 1 + k = o + k + 1 by omega]; exact hyv
    cases hb : bytesV (cs.take n (o + 1)) with
    | none =>
      have h6 : (Option.casesOn (bytesV (cs.take n (o + 1))) none fun m => some (V.s n m, bs.set i .none) : Option (V × TB)) = some (r, bs') := h6
      rw [hb] at h6; cases h6
    | some t =>
      have h6 : (Option.casesOn (bytesV (cs.take n (o + 1))) none fun m => some (V.s n m, bs.set i .none) : Option (V × TB)) = some (r, bs') := h6
      rw [hb] at h6
      have h6 : some (V.s n t, bs.set i .none) = some (r, bs') := h6
      injection h6 with h6; injection h6 with e1 e2; subst e1; subst e2
      obtain ⟨by', e1, e2⟩ := bytesV_spec _ _ _ hvs hb
      have hbl : by'.length = n := by rw [← hvl, e1]; simp
      have hr := run_ustr P w pt it ty hp hc (shape_of f1) by' (fun h => by rw [h] at hbl; simp at hbl; omega) (z := q.o + o) (by omega) (by omega) (fun j x hj => hvc j _ (by rw [e1, List.getElem?_map, hj]; rfl))
      rw [hbl] at hr
      have en : IntKind.i64.wrap (n : Int) = n := by rw [wrap_n n hn, if_pos (by omega)]
      rw [en]
      obtain ⟨p1, p2⟩ := hh.lose hl hq (w' := w.freeze ⟨q.r, q.o + o, none⟩ n) (fun b hb => freeze_other w _ _ _ b hb) (freeze_size ..) (freeze_env ..)
      exact ⟨_, _, hr, VR_s (by simpa using hbl) (by simpa using e2), p1, p2⟩

end Go.Proofs.YtmbnogellhoheaaGreatDoor.Ev
