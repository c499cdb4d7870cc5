/- Drawn regions: the heap's side: new blocks under reserved names. -/
import Derived.Test.YtnhgchnhfdimiaaGreatDoorEvXl
namespace Go.Proofs.YtnhgchnhfdimiaaGreatDoor.Ev
open Go
variable {ρ : Rho}

theorem upd_le' {p : Pos} (h : ρ p = none) (x : Pl) : ρ.le (upd ρ p x) := fun id y e => by
  by_cases hi : id = p
  · subst hi; rw [h] at e; cases e
  · rw [upd_ne ρ x hi]; exact e
theorem HR.not_live {nx : Pos} {bs : TB} {w : World} (h : HR ρ nx bs w) {p : Pos} (hp : ρ p = none) {es sz : Nat} {cs : TV} : ¬ Live bs p es sz cs := fun hl => by
  obtain ⟨q, hq, -⟩ := h.live _ _ _ _ hl
  rw [hp] at hq; cases hq
/-- A new block under a reserved name, not live yet. -/
theorem HR.place {nx : Pos} {bs : TB} {w w' : World} (h : HR ρ nx bs w) {p : Pos} (hp : ρ p = none) (hpn : p.val < nx.val) {C : Array Value} {E : TypeId} {fz : Nat × Nat} (hw : w'.heap = w.heap.push (.cells C E fz)) (es : Nat) :
    HR (upd ρ p ⟨w.heap.size, 0, C.size, es⟩) nx bs w' := by
  have hold : ∀ b, b < w.heap.size → w'.heap[b]? = w.heap[b]? := fun b hb => by rw [hw, Array.getElem?_push, if_neg (by omega)]
  have hlive : ∀ id es sz cs, Live bs id es sz cs → id ≠ p := fun id es sz cs hl e => h.not_live hp (e ▸ hl)
  refine ⟨fun id es' sz cs hl => ?_, fun id id' es sz cs es' sz' cs' q q' hl hl' hq hq' he => ?_, fun id hid => ?_, fun id q hq => ?_⟩
  · obtain ⟨q, h1, h2, h3⟩ := h.live id es' sz cs hl
    exact ⟨q, by rw [upd_ne ρ _ (hlive _ _ _ _ hl)]; exact h1, h2, h3.mono (upd_le' hp _) (hold _ (h.inside id q h1))⟩
  · rw [upd_ne ρ _ (hlive _ _ _ _ hl)] at hq
    rw [upd_ne ρ _ (hlive _ _ _ _ hl')] at hq'
    exact h.apart id id' es sz cs es' sz' cs' q q' hl hl' hq hq' he
  · obtain ⟨h1, h2⟩ := h.fresh id hid
    exact ⟨by rw [upd_ne ρ _ (fun e => by subst e; omega)]; exact h1, h2⟩
  · have hs : w'.heap.size = w.heap.size + 1 := by rw [hw]; simp
    by_cases hi : id = p
    · subst hi; rw [upd_same] at hq; injection hq with hq; subst hq; simp only; omega
    · rw [upd_ne ρ _ hi] at hq; have := h.inside id q hq; omega
theorem Own.place {nx : Pos} {bs : TB} {w : World} (h : HR ρ nx bs w) {p : Pos} (hp : ρ p = none) {x : Pl} {b : Nat} (ho : Own (upd ρ p x) bs b) : Own ρ bs b := by
  obtain ⟨id, es, sz, cs, q, hl, hq, hr⟩ := ho
  have : id ≠ p := fun e => h.not_live hp (e ▸ hl)
  rw [upd_ne ρ _ this] at hq
  exact ⟨id, es, sz, cs, q, hl, hq, hr⟩
theorem Ext.place {ρ0 : Rho} {nx0 nx : Pos} {bs0 bs : TB} {w0 w w' : World} (h : Ext ρ0 nx0 bs0 w0 ρ nx bs w) (hh : HR ρ nx bs w) {p : Pos} (hp : ρ p = none) (hp0 : nx0.val ≤ p.val) {C : Array Value} {E : TypeId} {fz : Nat × Nat} (hw : w'.heap = w.heap.push (.cells C E fz)) (x : Pl) (hev : Evn w w') :
    Ext ρ0 nx0 bs0 w0 (upd ρ p x) nx bs w' := by
  have hold : ∀ b, b < w.heap.size → w'.heap[b]? = w.heap[b]? := fun b hb => by rw [hw, Array.getElem?_push, if_neg (by omega)]
  refine ⟨Rho.le_trans h.le (upd_le' hp x), ?_, fun b hb ho => ?_, fun b hb ho => h.own b hb (Own.place hh hp ho), h.nle, fun id hid hn => ?_, h.env.trans hev, fun b hb ho => (fzAt_of (hold b (Nat.lt_of_lt_of_le hb h.size))).trans (h.frz b hb (Own.place hh hp ho))⟩
  · have := h.size; rw [hw]; simp; omega
  · rw [hold b (Nat.lt_of_lt_of_le hb h.size)]; exact h.keep b hb ho
  · rw [upd_ne ρ _ (fun e => by subst e; omega)]; exact h.old id hid hn

/-- A block that is there under a name, and that nothing live owns. -/
structure Pend (b0 : Nat) (ρ : Rho) (bs : TB) (w : World) (p : Pos) (m : NV) : Prop where
  ex : ∃ C fz r, ρ p = some ⟨r, 0, C.size, m.es⟩ ∧ w.heap[r]? = some (.cells C (m.es / 65536) fz) ∧ b0 ≤ r ∧ ¬ Own ρ bs r ∧ m.cs.length ≤ 1099511627775 ∧ (∀ (k : Nat) (c : V), m.cs[k]? = some c → ∃ x, C[k]? = some x ∧ VR ρ c x) ∧ ∀ k, k < C.size → ¬ (fz.1 ≤ k ∧ k < fz.2)
theorem NSnd.pend {nx : Pos} {bs : TB} {w : World} {m : NV} {res : Result Value} (h : NSnd ρ w m res) (hh : HR ρ nx bs w) {p : Pos} (hp : ρ p = none) (hpn : p.val < nx.val) {b0 : Nat} (hb : b0 ≤ w.heap.size) :
    ∃ y w' x C E fz, res = .ok y w' ∧ w'.heap = w.heap.push (.cells C E fz) ∧ Evn w w' ∧ x.r = w.heap.size ∧ VR (upd ρ p x) (m.val p) y ∧ HR (upd ρ p x) nx bs w' ∧ Pend b0 (upd ρ p x) bs w' p m := by
  obtain ⟨y, w', C, fz, h1, hev, h2, h3, h4, h5, h6⟩ := h
  refine ⟨y, w', ⟨w.heap.size, 0, C.size, m.es⟩, C, _, fz, h1, h2, hev, rfl, h6 _ _ (upd_same ..), hh.place hp hpn h2 m.es, ⟨C, fz, w.heap.size, upd_same .., ?_, hb, fun ho => ?_, h3, fun k c hk => ?_, h5⟩⟩
  · rw [h2, Array.getElem?_push, if_pos rfl]
  · obtain ⟨id, es, sz, cs, q, hl, hq, hr⟩ := Own.place hh hp ho
    have := hh.inside id q hq
    omega
  · obtain ⟨x, hx, hv⟩ := h4 k c hk
    exact ⟨x, hx, VR.mono (upd_le' hp _) _ _ hv⟩
/-- It becomes live. -/
theorem HR.absorb {nx : Pos} {bs : TB} {w : World} (h : HR ρ nx bs w) {p : Pos} {m : NV} {b0 : Nat} (hP : Pend b0 ρ bs w p m) (hpn : p.val < nx.val) : HR ρ nx (newB m p bs) w := by
  obtain ⟨C, fz, r, h1, h2, h3, h4, h5, h6, h7⟩ := hP
  unfold newB
  have hown : ∀ id es sz cs q, Live bs id es sz cs → ρ id = some q → q.r ≠ r := fun id es sz cs q hl hq e => h4 ⟨id, es, sz, cs, q, hl, hq, e⟩
  refine ⟨fun id es sz cs hl => ?_, fun id id' es sz cs es' sz' cs' q q' hl hl' hq hq' he => ?_, fun id hid => ?_, h.inside⟩
  · rcases live_set hl with ⟨rfl, rfl, rfl, rfl⟩ | ⟨hne, hl⟩
    · refine ⟨_, h1, ⟨rfl, fun _ => rfl⟩, C, fz, h2, rfl, fun k hk => ?_, fun k _ hk => h7 k hk⟩
      obtain ⟨x, hx, hv⟩ := h6 k m.cs[k] (List.getElem?_eq_getElem hk)
      exact ⟨x, by rw [Nat.zero_add]; exact hx, by rw [into_at' m.cs k m.cs[k] (List.getElem?_eq_getElem hk) h5]; exact hv⟩
    · exact h.live id es sz cs hl
  · rcases live_set hl with ⟨e1, -, -, -⟩ | ⟨hne, hl2⟩
    · rcases live_set hl' with ⟨e2, -, -, -⟩ | ⟨hne', hl2'⟩
      · rw [e1, e2]
      · rw [e1, h1] at hq; injection hq with hq; subst hq
        exact absurd he.symm (hown _ _ _ _ _ hl2' hq')
    · rcases live_set hl' with ⟨e2, -, -, -⟩ | ⟨hne', hl2'⟩
      · rw [e2, h1] at hq'; injection hq' with hq'; subst hq'
        exact absurd he (hown _ _ _ _ _ hl2 hq)
      · exact h.apart id id' es sz cs es' sz' cs' q q' hl2 hl2' hq hq' he
  · obtain ⟨e1, e2⟩ := h.fresh id hid
    exact ⟨e1, by rw [TB.get_set_ne _ (fun e => by subst e; omega)]; exact e2⟩
theorem own_absorb {bs : TB} {w : World} {p : Pos} {m : NV} {b0 b : Nat} (hP : Pend b0 ρ bs w p m) (ho : Own ρ (newB m p bs) b) : Own ρ bs b ∨ ∃ q, ρ p = some q ∧ q.r = b := by
  obtain ⟨id, es, sz, cs, q, hl, hq, hr⟩ := ho
  rcases live_set hl with ⟨rfl, -, -, -⟩ | ⟨hne, hl⟩
  · exact .inr ⟨q, hq, hr⟩
  · exact .inl ⟨id, es, sz, cs, q, hl, hq, hr⟩
theorem Pend.at {bs : TB} {w : World} {p : Pos} {m : NV} {b0 : Nat} (hP : Pend b0 ρ bs w p m) {q : Pl} (hq : ρ p = some q) : b0 ≤ q.r ∧ q.r < w.heap.size := by
  obtain ⟨C, fz, r, h1, h2, h3, -⟩ := hP
  rw [h1] at hq; injection hq with hq; subst hq
  refine ⟨h3, ?_⟩
  rcases Nat.lt_or_ge r w.heap.size with h | h
  · exact h
  · rw [Array.getElem?_eq_none h] at h2; cases h2
theorem Ext.absorb {ρ0 : Rho} {nx0 nx : Pos} {bs0 bs : TB} {w0 w : World} (h : Ext ρ0 nx0 bs0 w0 ρ nx bs w) {p : Pos} {m : NV} (hP : Pend w0.heap.size ρ bs w p m) : Ext ρ0 nx0 bs0 w0 ρ nx (newB m p bs) w := by
  refine ⟨h.le, h.size, h.keep, fun b hb ho => ?_, h.nle, h.old, h.env, fun b hb ho => ?_⟩
  · rcases own_absorb hP ho with ho | ⟨q, hq, hr⟩
    · exact h.own b hb ho
    · have := (hP.at hq).1; omega
  · rcases own_absorb hP ho with ho | ⟨q, hq, hr⟩
    · exact h.frz b hb ho
    · have := (hP.at hq).1; omega
/-- Another one stays as it was. -/
theorem Pend.absorb {bs : TB} {w : World} {p p' : Pos} {m m' : NV} {b0 : Nat} (hP : Pend b0 ρ bs w p m) (hP' : Pend b0 ρ bs w p' m') (hne : ∀ q q', ρ p = some q → ρ p' = some q' → q.r ≠ q'.r) : Pend b0 ρ (newB m p bs) w p' m' := by
  obtain ⟨C, fz, r, h1, h2, h3, h4, h5, h6, h7⟩ := hP'
  refine ⟨C, fz, r, h1, h2, h3, fun ho => ?_, h5, h6, h7⟩
  rcases own_absorb hP ho with ho | ⟨q, hq, hr⟩
  · exact h4 ho
  · exact hne q _ hq h1 hr
/-- And over what an effect does. -/
theorem Pend.later {ρ' : Rho} {nx nx' : Pos} {bs bs' : TB} {w w' : World} {p : Pos} {m : NV} {b0 : Nat} (hP : Pend b0 ρ bs w p m) (he : Ext ρ nx bs w ρ' nx' bs' w') : Pend b0 ρ' bs' w' p m := by
  obtain ⟨C, fz, r, h1, h2, h3, h4, h5, h6, h7⟩ := hP
  have hr : r < w.heap.size := by
    rcases Nat.lt_or_ge r w.heap.size with h | h
    · exact h
    · rw [Array.getElem?_eq_none h] at h2; cases h2
  refine ⟨C, fz, r, he.le _ _ h1, by rw [he.keep r hr h4]; exact h2, h3, fun ho => h4 (he.own r hr ho), h5, fun k c hk => ?_, h7⟩
  obtain ⟨x, hx, hv⟩ := h6 k c hk
  exact ⟨x, hx, VR.mono he.le _ _ hv⟩
/-- And when another block is placed. -/
theorem Pend.place {nx : Pos} {bs : TB} {w w' : World} (h : HR ρ nx bs w) {p p' : Pos} {m' : NV} {b0 : Nat} (hP' : Pend b0 ρ bs w p' m') (hp : ρ p = none) {C : Array Value} {E : TypeId} {fz : Nat × Nat} (hw : w'.heap = w.heap.push (.cells C E fz)) (x : Pl) : Pend b0 (upd ρ p x) bs w' p' m' := by
  obtain ⟨C', fz', r, h1, h2, h3, h4, h5, h6, h7⟩ := hP'
  have hr : r < w.heap.size := by
    rcases Nat.lt_or_ge r w.heap.size with h | h
    · exact h
    · rw [Array.getElem?_eq_none h] at h2; cases h2
  refine ⟨C', fz', r, upd_le' hp x _ _ h1, by rw [hw, Array.getElem?_push, if_neg (by omega)]; exact h2, h3, fun ho => h4 (Own.place h hp ho), h5, fun k c hk => ?_, h7⟩
  obtain ⟨y, hy, hv⟩ := h6 k c hk
  exact ⟨y, hy, VR.mono (upd_le' hp x) _ _ hv⟩

/-- Many become live, one behind the other (the last of the list first). -/
theorem absorb_all {ρ0 : Rho} {nx0 nx : Pos} {bs0 : TB} {w0 w : World} {z : Pos} {M : List (Option NV)} {R : Nat} (hinj : ∀ j j' q q', j < R → j' < R → ρ (incs j z) = some q → ρ (incs j' z) = some q' → q.r = q'.r → j = j') (hlt : ∀ j, j < R → (incs j z).val < nx.val) :
    ∀ (A : List Nat) (bs : TB), A.Nodup → (∀ j ∈ A, j < R) → HR ρ nx bs w → Ext ρ0 nx0 bs0 w0 ρ nx bs w → (∀ j ∈ A, ∀ m, M[j]? = some (some m) → Pend w0.heap.size ρ bs w (incs j z) m) →
    HR ρ nx (absorb A z M bs) w ∧ Ext ρ0 nx0 bs0 w0 ρ nx (absorb A z M bs) w ∧ ∀ j' m', j' < R → j' ∉ A → Pend w0.heap.size ρ bs w (incs j' z) m' → Pend w0.heap.size ρ (absorb A z M bs) w (incs j' z) m'
  | [], bs, _, _, hh, he, _ => ⟨hh, he, fun _ _ _ _ h => h⟩
  | j :: A, bs, hnd, hA, hh, he, hP => by
    rw [List.nodup_cons] at hnd
    obtain ⟨k1, k2, k3⟩ := absorb_all hinj hlt A bs hnd.2 (fun j hj => hA j (List.mem_cons_of_mem _ hj)) hh he fun j hj => hP j (List.mem_cons_of_mem _ hj)
    have hjR := hA j List.mem_cons_self
    show HR ρ nx (abs1 z M j (absorb A z M bs)) w ∧ Ext ρ0 nx0 bs0 w0 ρ nx (abs1 z M j (absorb A z M bs)) w ∧ _
    cases hm : mget M j with
    | none =>
      have e : abs1 z M j (absorb A z M bs) = absorb A z M bs := by unfold abs1; rw [hm]
      have e2 : absorb (j :: A) z M bs = absorb A z M bs := e
      rw [e, e2]
      exact ⟨k1, k2, fun j' m' hR hj' hp' => k3 j' m' hR (fun h => hj' (List.mem_cons_of_mem _ h)) hp'⟩
    | some m =>
      have e : abs1 z M j (absorb A z M bs) = newB m (incs j z) (absorb A z M bs) := by unfold abs1; rw [hm]
      have e2 : absorb (j :: A) z M bs = newB m (incs j z) (absorb A z M bs) := e
      have hM : M[j]? = some (some m) := by
        unfold mget at hm
        cases hj : M[j]? with
        | none => rw [hj] at hm; cases hm
        | some o => rw [hj] at hm; simp only at hm; rw [hm]
      have hp := k3 j m hjR hnd.1 (hP j List.mem_cons_self m hM)
      rw [e, e2]
      refine ⟨k1.absorb hp (hlt j hjR), k2.absorb hp, fun j' m' hR hj' hp' => ?_⟩
      refine hp.absorb (k3 j' m' hR (fun h => hj' (List.mem_cons_of_mem _ h)) hp') fun q q' hq hq' hr => ?_
      exact hj' (by rw [hinj j j' q q' hjR hR hq hq' hr]; exact List.mem_cons_self)

end Go.Proofs.YtnhgchnhfdimiaaGreatDoor.Ev
