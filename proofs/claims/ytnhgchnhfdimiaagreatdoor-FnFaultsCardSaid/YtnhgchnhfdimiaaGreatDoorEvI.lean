/- Heaps: a new block, a stored row; loads, stores, new variables. -/
import Derived.Test.YtnhgchnhfdimiaaGreatDoorEvH
import Derived.Laws.IdiomCopy
namespace Go.Proofs.YtnhgchnhfdimiaaGreatDoor.Ev
open Go
variable {ρ : Rho}

/-! ### a new block -/
/-- The world with one block more. -/
def wpush (w : World) (o : Obj) : World := { w with heap := w.heap.push o }
theorem wpush_size (w : World) (o : Obj) : (wpush w o).heap.size = w.heap.size + 1 := by simp [wpush]
theorem wpush_old (w : World) (o : Obj) (b : Nat) (h : b < w.heap.size) : (wpush w o).heap[b]? = w.heap[b]? := by
  simp only [wpush]; rw [Array.getElem?_push, if_neg (by omega)]
theorem wpush_new (w : World) (o : Obj) : (wpush w o).heap[w.heap.size]? = some o := by simp only [wpush]; rw [Array.getElem?_push, if_pos rfl]
/-- One name more. -/
noncomputable def upd (ρ : Rho) (id : Pos) (x : Pl) : Rho := fun q => if q.val = id.val then some x else ρ q
theorem upd_same (ρ : Rho) (id : Pos) (x : Pl) : upd ρ id x id = some x := by simp [upd]
theorem upd_ne (ρ : Rho) {id q : Pos} (x : Pl) (h : q ≠ id) : upd ρ id x q = ρ q := by
  unfold upd; rw [if_neg (fun e => h (Pos.val_inj _ _ e))]
theorem upd_le {nx : Pos} {bs : TB} {w : World} (h : HR ρ nx bs w) (x : Pl) : ρ.le (upd ρ nx x) := fun id y e => by
  by_cases hi : id = nx
  · subst hi; rw [(h.fresh id (Nat.le_refl _)).1] at e; simp at e
  · rw [upd_ne ρ x hi]; exact e
theorem BR.mono {ρ ρ' : Rho} {w w' : World} {sz : Nat} {cs : TV} {q : Pl} (hρ : ρ.le ρ') (hw : w'.heap[q.r]? = w.heap[q.r]?) (h : BR ρ w sz cs q) : BR ρ' w' sz cs q := by
  obtain ⟨C, fz, h1, h0, h2, h3⟩ := h
  exact ⟨C, fz, by rw [hw]; exact h1, h0, fun k hk => by obtain ⟨x, hx, hv⟩ := h2 k hk; exact ⟨x, hx, VR.mono hρ _ _ hv⟩, h3⟩
theorem Pos.ne_of_val {p q : Pos} (h : p.val ≠ q.val) : p ≠ q := fun e => h (by rw [e])
theorem live_set {bs : TB} {id id' : Pos} {es sz es' sz' : Nat} {cs cs' : TV} (h : Live (bs.set id (.mk es sz cs)) id' es' sz' cs') : (id' = id ∧ es' = es ∧ sz' = sz ∧ cs' = cs) ∨ (id' ≠ id ∧ Live bs id' es' sz' cs') := by
  by_cases hi : id = id'
  · subst hi; unfold Live at h; rw [TB.get_set_same] at h; injection h with e1 e2 e3; exact .inl ⟨rfl, e1.symm, e2.symm, e3.symm⟩
  · unfold Live at h; rw [TB.get_set_ne _ hi] at h; exact .inr ⟨fun e => hi e.symm, h⟩
theorem live_none {bs : TB} {id id' : Pos} {es' sz' : Nat} {cs' : TV} (h : Live (bs.set id .none) id' es' sz' cs') : id' ≠ id ∧ Live bs id' es' sz' cs' := by
  by_cases hi : id = id'
  · subst hi; unfold Live at h; rw [TB.get_set_same] at h; cases h
  · unfold Live at h; rw [TB.get_set_ne _ hi] at h; exact ⟨fun e => hi e.symm, h⟩
/-- A heap says nothing but of the world's blocks. -/
theorem HR.congr {nx : Pos} {bs : TB} {w w' : World} (h : HR ρ nx bs w) (e : w'.heap = w.heap) : HR ρ nx bs w' := by
  refine ⟨fun id es sz cs hl => ?_, h.apart, h.fresh, fun id q hq => by rw [e]; exact h.inside id q hq⟩
  obtain ⟨q, h1, h2, h3⟩ := h.live id es sz cs hl
  exact ⟨q, h1, h2, h3.mono (Rho.le_refl ρ) (by rw [e])⟩
theorem Ext.congr {ρ' : Rho} {nx nx' : Pos} {bs bs' : TB} {w w' w'' : World} (h : Ext ρ nx bs w ρ' nx' bs' w') (e : w''.heap = w'.heap) (eo : Evn w' w'' := by exact ⟨rfl, rfl⟩) : Ext ρ nx bs w ρ' nx' bs' w'' :=
  ⟨h.le, by rw [e]; exact h.size, fun b hb ho => by rw [e]; exact h.keep b hb ho, h.own, h.nle, h.old, h.env.trans eo, fun b hb ho => (fzAt_of (by rw [e])).trans (h.frz b hb ho)⟩
/-- A new block, under the next name. -/
theorem HR.new {nx : Pos} {bs : TB} {w : World} (h : HR ρ nx bs w) {C : Array Value} {E : TypeId} {fz : Nat × Nat} {es sz : Nat} {tv : TV}
    (hE : E = es / 65536) (hc : ∀ k, k < sz → ∃ x, C[k]? = some x ∧ VR ρ (tv.at (k + 1)) x) (hf : ∀ k, k < C.size → ¬ (fz.1 ≤ k ∧ k < fz.2)) :
    HR (upd ρ nx ⟨w.heap.size, 0, C.size, es⟩) nx.inc (bs.set nx (.mk es sz tv)) (wpush w (.cells C E fz)) ∧
    Ext ρ nx bs w (upd ρ nx ⟨w.heap.size, 0, C.size, es⟩) nx.inc (bs.set nx (.mk es sz tv)) (wpush w (.cells C E fz)) := by
  have hle := upd_le h ⟨w.heap.size, 0, C.size, es⟩
  refine ⟨⟨?_, ?_, ?_, ?_⟩, ⟨hle, by rw [wpush_size]; omega, fun b hb _ => wpush_old w _ b hb, ?_, by rw [Pos.inc_val]; omega, fun id hid hn => by rw [upd_ne ρ _ (Pos.ne_of_val (by omega))]; exact hn, ⟨rfl, rfl⟩, fun b hb _ => fzAt_of (wpush_old w _ b hb)⟩⟩
  · intro id es' sz' cs' hl
    rcases live_set hl with ⟨rfl, rfl, rfl, rfl⟩ | ⟨hne, hl⟩
    · refine ⟨_, upd_same .., ⟨rfl, fun _ => rfl⟩, C, fz, by rw [hE]; exact wpush_new w _, rfl, fun k hk => ?_, fun k _ hk => hf k hk⟩
      obtain ⟨x, hx, hv⟩ := hc k hk
      exact ⟨x, by simpa using hx, VR.mono hle _ _ hv⟩
    · obtain ⟨q, h1, h2, h3⟩ := h.live id es' sz' cs' hl
      exact ⟨q, hle _ _ h1, h2, h3.mono hle (wpush_old w _ q.r (h.inside _ _ h1))⟩
  · intro id id' es1 sz1 cs1 es2 sz2 cs2 q q' hl hl' h1 h2 hqq
    rcases live_set hl with ⟨rfl, -, -⟩ | ⟨hne, hm⟩ <;> rcases live_set hl' with ⟨e2, -, -⟩ | ⟨hne', hm'⟩
    · exact e2.symm
    · rw [upd_same] at h1; rw [upd_ne ρ _ hne'] at h2
      injection h1 with h1; subst h1
      have := h.inside _ _ h2; simp at hqq; omega
    · subst e2
      rw [upd_same] at h2; rw [upd_ne ρ _ hne] at h1
      injection h2 with h2; subst h2
      have := h.inside _ _ h1; simp at hqq; omega
    · rw [upd_ne ρ _ hne] at h1; rw [upd_ne ρ _ hne'] at h2
      exact h.apart _ _ _ _ _ _ _ _ _ _ hm hm' h1 h2 hqq
  · intro id hid
    rw [Pos.inc_val] at hid
    have hne : id ≠ nx := Pos.ne_of_val (by omega)
    rw [upd_ne ρ _ hne, TB.get_set_ne _ (Ne.symm hne)]
    exact h.fresh id (by omega)
  · intro id q h1
    rw [wpush_size]
    by_cases hi : id = nx
    · subst hi; rw [upd_same] at h1; injection h1 with h1; subst h1; simp
    · rw [upd_ne ρ _ hi] at h1; have := h.inside _ _ h1; omega
  · rintro b hb ⟨id, es', sz', cs', q, hl, h1, hq⟩
    rcases live_set hl with ⟨rfl, -, -⟩ | ⟨hne, hl⟩
    · rw [upd_same] at h1; injection h1 with h1; subst h1; simp at hq; omega
    · rw [upd_ne ρ _ hne] at h1; exact ⟨id, es', sz', cs', q, hl, h1, hq⟩

/-! ### a row stored -/
theorem setCells_size (b : Nat) : ∀ (vs : List Value) (o : Nat) (w : World), (w.setCells b o vs).heap.size = w.heap.size
  | [], _, _ => rfl
  | v :: vs, o, w => by rw [World.setCells, setCells_size b vs]; simp [World.setCell]
theorem setCells_env (b : Nat) : ∀ (vs : List Value) (o : Nat) (w : World), Evn w (w.setCells b o vs)
  | [], _, w => Evn.refl w
  | v :: vs, o, w => by rw [World.setCells]; exact Evn.trans (w' := w.setCell ⟨b, o, none⟩ v) ⟨rfl, rfl⟩ (setCells_env b vs (o + 1) _)
theorem setCells_other (b : Nat) : ∀ (vs : List Value) (o : Nat) (w : World) (x : Nat), x ≠ b → (w.setCells b o vs).heap[x]? = w.heap[x]?
  | [], _, _, _, _ => rfl
  | v :: vs, o, w, x, h => by rw [World.setCells, setCells_other b vs (o + 1) _ x h]; simp only [World.setCell]; rw [Array.getElem?_modify, if_neg (Ne.symm h)]
theorem setCells_same (b : Nat) : ∀ (vs : List Value) (o : Nat) (w : World) (C : Array Value) (E : TypeId) (fz : Nat × Nat), w.heap[b]? = some (.cells C E fz) →
    ∃ C', (w.setCells b o vs).heap[b]? = some (.cells C' E fz) ∧ C'.size = C.size ∧ ∀ k, C'[k]? = if o ≤ k ∧ k < o + vs.length ∧ k < C.size then vs[k - o]? else C[k]?
  | [], o, w, C, E, fz, h => ⟨C, h, rfl, fun k => by rw [if_neg (by simp only [List.length_nil]; omega)]⟩
  | v :: vs, o, w, C, E, fz, h => by
    have h1 : (w.setCell ⟨b, o, none⟩ v).heap[b]? = some (.cells (C.setIfInBounds o v) E fz) := by
      simp only [World.setCell]; rw [Array.getElem?_modify, if_pos rfl, h]; rfl
    obtain ⟨C', h2, h3, h4⟩ := setCells_same b vs (o + 1) _ _ E fz h1
    refine ⟨C', h2, by rw [h3]; simp, fun k => ?_⟩
    rw [h4 k, Array.size_setIfInBounds]
    simp only [List.length_cons]
    by_cases e1 : k = o
    · subst e1
      rw [if_neg (by omega), Array.getElem?_setIfInBounds, if_pos rfl]
      by_cases e2 : k < C.size
      · rw [if_pos (by omega)]; simp [e2]
      · rw [if_neg (by omega)]; simp [e2]
    · by_cases e2 : o + 1 ≤ k ∧ k < o + 1 + vs.length ∧ k < C.size
      · rw [if_pos e2, if_pos (by omega)]
        have e : k - o = (k - (o + 1)) + 1 := by omega
        rw [e, List.getElem?_cons_succ]
      · rw [if_neg e2, if_neg (by omega), Array.getElem?_setIfInBounds, if_neg (Ne.symm e1)]
/-- Cells of a live name written, the name staying. -/
theorem HR.put {nx : Pos} {bs : TB} {w : World} (h : HR ρ nx bs w) {id : Pos} {es sz : Nat} {cs : TV} (hl : Live bs id es sz cs) {q : Pl} (hr : ρ id = some q) {off : Nat} {ns : List V} {vs : List Value}
    (hv : VRs ρ ns vs) (hb : off + ns.length ≤ sz) (hbig : sz ≤ 1099511627775) :
    HR ρ nx (bs.set id (.mk es sz (into ns cs (off + 1)))) (w.setCells q.r (q.o + off) vs) ∧ Ext ρ nx bs w ρ nx (bs.set id (.mk es sz (into ns cs (off + 1)))) (w.setCells q.r (q.o + off) vs) := by
  have hlen := hv.length
  have hown : ∀ b, Own ρ (bs.set id (.mk es sz (into ns cs (off + 1)))) b → Own ρ bs b := by
    rintro b ⟨id', es', sz', cs', q', hl', h1, hq⟩
    rcases live_set hl' with ⟨rfl, -, -⟩ | ⟨-, hl'⟩
    · exact ⟨_, es, sz, cs, q', hl, h1, hq⟩
    · exact ⟨_, _, _, _, q', hl', h1, hq⟩
  obtain ⟨q', hr', hes, C, fz, g1, g0, g2, g3⟩ := h.live id es sz cs hl
  rw [hr] at hr'; injection hr' with hr'; subst hr'
  obtain ⟨C', c1, c2, c3⟩ := setCells_same q.r vs (q.o + off) w C _ fz g1
  refine ⟨⟨?_, ?_, ?_, ?_⟩, ⟨Rho.le_refl ρ, Nat.le_of_eq (setCells_size ..).symm, ?_, fun b _ => hown b, Nat.le_refl _, fun _ _ h => h, setCells_env .., fun b _ _ => by
    by_cases e : b = q.r
    · subst e; rw [fzAt_cells c1, fzAt_cells g1]
    · exact fzAt_of (setCells_other q.r vs _ w b e)⟩⟩
  · intro id' es' sz' cs' hl'
    rcases live_set hl' with ⟨rfl, rfl, rfl, rfl⟩ | ⟨hne, hl'⟩
    · refine ⟨q, hr, hes, C', fz, c1, c2.trans g0, fun k hk => ?_, g3⟩
      obtain ⟨x, hx, hxv⟩ := g2 k hk
      have hks : q.o + k < C.size := by
        rcases Nat.lt_or_ge (q.o + k) C.size with hh | hh
        · exact hh
        · rw [Array.getElem?_eq_none hh] at hx; simp at hx
      rw [c3]
      by_cases e : off ≤ k ∧ k < off + ns.length
      · have hin := into_at ns cs (off + 1) (k - off) (by omega) (by omega) (by omega)
        have ek : off + 1 + (k - off) = k + 1 := by omega
        rw [ek] at hin
        obtain ⟨y, hy, hyv⟩ := hv.get _ _ hin
        refine ⟨y, ?_, hyv⟩
        rw [if_pos (by omega)]
        have ek2 : q.o + k - (q.o + off) = k - off := by omega
        rw [ek2]; exact hy
      · refine ⟨x, ?_, ?_⟩
        · rw [if_neg (by omega)]; exact hx
        · rw [into_ne ns cs (off + 1) (k + 1) (by omega) (by omega) (by omega)]; exact hxv
    · obtain ⟨q', h1, h2, h3⟩ := h.live id' es' sz' cs' hl'
      refine ⟨q', h1, h2, h3.mono (Rho.le_refl ρ) (setCells_other q.r vs _ w q'.r fun e => ?_)⟩
      exact hne (h.apart _ _ _ _ _ _ _ _ _ _ hl' hl h1 hr e)
  · intro id1 id2 es1 sz1 cs1 es2 sz2 cs2 q1 q2 hl1 hl2 h1 h2 hqq
    rcases live_set hl1 with ⟨e1, -, -⟩ | ⟨hne, hm1⟩ <;> rcases live_set hl2 with ⟨e2, -, -⟩ | ⟨hne', hm2⟩
    · rw [e1, e2]
    · subst e1; exact h.apart _ _ _ _ _ _ _ _ _ _ hl hm2 h1 h2 hqq
    · subst e2; exact h.apart _ _ _ _ _ _ _ _ _ _ hm1 hl h1 h2 hqq
    · exact h.apart _ _ _ _ _ _ _ _ _ _ hm1 hm2 h1 h2 hqq
  · intro id' hid
    have hne : id ≠ id' := by
      rintro rfl
      have := (h.fresh id hid).1
      rw [hr] at this; simp at this
    rw [TB.get_set_ne _ hne]; exact h.fresh id' hid
  · intro id' q' h1; rw [setCells_size]; exact h.inside _ _ h1
  · intro b hb ho
    exact setCells_other q.r vs _ w b fun e => ho ⟨id, es, sz, cs, q, hl, hr, e.symm⟩

/-! ### loads -/
noncomputable def bk {α : Type} (bs : TB) (id : Pos) (k : Nat → Nat → TV → Option α) : Option α := Bk.casesOn (bs.get id) none k
theorem bk_some {α : Type} {bs : TB} {id : Pos} {k : Nat → Nat → TV → Option α} {r : α} (h : bk bs id k = some r) : ∃ es sz cs, Live bs id es sz cs ∧ k es sz cs = some r := by
  unfold bk at h
  cases e : bs.get id with
  | none => rw [e] at h; cases h
  | mk es sz cs => rw [e] at h; exact ⟨es, sz, cs, e, h⟩
noncomputable def ldS (bs : TB) (x : V) : Option V := asP x none fun id off => bk bs id fun _ sz cs => cond (Nat.ble (Nat.succ off) sz) (some (cs.at (Nat.succ off))) none
noncomputable def ldG (n : Nat) (bs : TB) (x : V) : Option V := asP x none fun id off => bk bs id fun _ sz cs => cond (Nat.ble (Nat.add off n) sz) (some (.g (cs.take n (Nat.succ off)))) none
theorem cell_of {w : World} {r : Nat} {C : Array Value} {E : TypeId} {fz : Nat × Nat} (h : w.heap[r]? = some (.cells C E fz)) (k : Nat) : w.cell? ⟨r, k, none⟩ = C[k]? := by
  unfold World.cell?; rw [h]; simp
theorem frozen_of {w : World} {r : Nat} {C : Array Value} {E : TypeId} {fz : Nat × Nat} (h : w.heap[r]? = some (.cells C E fz)) (k : Nat) (hf : ¬ (fz.1 ≤ k ∧ k < fz.2)) : w.frozen? ⟨r, k, none⟩ = false := by
  unfold World.frozen?; rw [h]; obtain ⟨lo, hi⟩ := fz; simp at hf ⊢; exact hf
theorem run_loadAt_scal (P : Program) (w : World) {t : TypeId} (hs : scal (tiOf P) t = true) (a : Addr) (x : Value) (h : w.cell? a = some x) : (Instr.loadAt t (.pointer (some a))).run P w = .ok x w := by
  unfold Instr.loadAt
  show ((do loadVar t (← (pure a : Sem Addr))) : Sem Value).run P w = _
  rw [Sem.run_bind, Sem.run_pure, Result.andThen_ok]
  unfold loadVar
  rw [Sem.run_bind, run_isAgg_scal P w hs, Result.andThen_ok]
  simp [h]
theorem snd_ldS (P : Program) {t : TypeId} (hs : scal (tiOf P) t = true) {nx : Pos} {bs : TB} {w : World} (hh : HR ρ nx bs w) {v r : V} {x : Value} (hv : VR ρ v x) (hf : ldS bs v = some r) : ∃ y, (Instr.loadAt t x).run P w = .ok y w ∧ VR ρ r y := by
  obtain ⟨id, off, ea, h1⟩ := asP_some hf
  subst ea
  obtain ⟨es, sz, cs, hl, h2⟩ := bk_some h1
  obtain ⟨h3, h4⟩ := cond_some h2
  have h3 : off + 1 ≤ sz := Nat.le_of_ble_eq_true h3
  injection h4 with h4; subst h4
  obtain ⟨q, e, rfl⟩ := hv.p
  obtain ⟨q', e', -, C, fz, g1, g0, g2, g3⟩ := hh.live _ _ _ _ hl
  rw [e] at e'; injection e' with e'; subst e'
  obtain ⟨y, hy, hyv⟩ := g2 off (by omega)
  exact ⟨y, run_loadAt_scal P w hs _ y (by rw [cell_of g1]; exact hy), hyv⟩
theorem snd_ldG (P : Program) {t : TypeId} {i : TypeInfo} (hs : aggr (tiOf P) t = true) (hi : P.info? t = some i) {nx : Pos} {bs : TB} {w : World} (hh : HR ρ nx bs w) {v r : V} {x : Value} (hv : VR ρ v x) (hf : ldG i.size bs v = some r) :
    ∃ y, (Instr.loadAt t x).run P w = .ok y w ∧ VR ρ r y := by
  obtain ⟨id, off, ea, h1⟩ := asP_some hf
  subst ea
  obtain ⟨es, sz, cs, hl, h2⟩ := bk_some h1
  obtain ⟨h3, h4⟩ := cond_some h2
  have h3 : off + i.size ≤ sz := Nat.le_of_ble_eq_true h3
  injection h4 with h4; subst h4
  obtain ⟨q, e, rfl⟩ := hv.p
  obtain ⟨q', e', -, C, fz, g1, g0, g2, g3⟩ := hh.live _ _ _ _ hl
  rw [e] at e'; injection e' with e'; subst e'
  have hcells : ∀ j, j < i.size → w.cell? ((⟨q.r, q.o + off, none⟩ : Addr).add j) = some (C.getD (q.o + off + j) undef) := fun j hj => by
    obtain ⟨y, hy, hyv⟩ := g2 (off + j) (by omega)
    rw [add_mk, cell_of g1]
    have : q.o + off + j = q.o + (off + j) := by omega
    rw [this, hy]; simp [Array.getD_eq_getD_getElem?, hy]
  refine ⟨.agg ((List.range i.size).map fun j => C.getD (q.o + off + j) undef).toArray, ?_, VR_g ?_⟩
  · unfold Instr.loadAt
    show ((do loadVar t (← (pure ⟨q.r, q.o + off, none⟩ : Sem Addr))) : Sem Value).run P w = _
    rw [Sem.run_bind, Sem.run_pure, Result.andThen_ok]
    unfold loadVar
    rw [Sem.run_bind, run_isAgg_aggr P w hs, Result.andThen_ok]
    simp [run_sizeOf P w hi, run_loadCells w _ i.size _ hcells]
  · refine VRs.mk (by rw [TV.take_length]; simp) fun k c y hc hy => ?_
    have hk : k < i.size := by
      rcases Nat.lt_or_ge k i.size with hh | hh
      · exact hh
      · rw [List.getElem?_eq_none (by rw [TV.take_length]; exact hh)] at hc; simp at hc
    rw [TV.take_get cs i.size (off + 1) k hk] at hc
    injection hc with hc; subst hc
    obtain ⟨z, hz, hzv⟩ := g2 (off + k) (by omega)
    have e5 : q.o + (off + k) = q.o + off + k := by omega
    rw [e5] at hz
    simp [hk, Array.getD_eq_getD_getElem?, hz] at hy
    subst hy
    have e6 : off + 1 + k = off + k + 1 := by omega
    rw [e6]; exact hzv

end Go.Proofs.YtnhgchnhfdimiaaGreatDoor.Ev
