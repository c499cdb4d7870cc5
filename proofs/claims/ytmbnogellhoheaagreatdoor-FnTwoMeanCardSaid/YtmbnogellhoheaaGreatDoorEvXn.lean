/- Drawn regions: what holds whatever has been done, step by step. -/
import Derived.Test.YtmbnogellhoheaaGreatDoorEvXl
namespace Go.Proofs.YtmbnogellhoheaaGreatDoor.Ev
open Go
variable {ρ : Rho}

/-- The context of an item: only the slots that it reads. -/
def It.G (it : It) (G : Ctx) : Ctx := ⟨fun t => it.sl.contains t && G.kept t, G.glob, G.at_, G.tab⟩
/-- The compiled operation of an item fits the model's. -/
def It.OK (P : Program) (G : Ctx) (it : It) : Prop := match it.c with
  | .al => it.g = none ∧ ∃ x, isMove it.o.op = some x ∧ cxD (it.G G) it.E x = some it.d
  | .pu f => OCS P (it.G G) it.E it.n it.o (.pu f)
  | .ld f _ _ => OCS P (it.G G) it.E it.n it.o (.ld f)
  | .rs f _ => OCS P (it.G G) it.E it.n it.o (.al f)
  | .ef f _ _ => OCS P (it.G G) it.E it.n it.o (.ef f)
structure DS (P : Program) (G : Ctx) (N : Nat) (ops : Array Oper) (its : List It) (Qn Rn : Nat) (Ae : List Nat) : Prop where
  len : its.length = ops.size
  idx : ∀ (i : Nat) (it : It), its[i]? = some it → it.i = i ∧ ops[i]? = some it.o
  anc : ∀ it ∈ its, ∀ j, it.anc.testBit j = true → ∃ e ∈ it.o.after, Region.binds .any e = true ∧ (e.on = j ∨ ∃ it' ∈ its, it'.i = e.on ∧ it'.anc.testBit j = true)
  edge : ∀ it ∈ its, ∀ e ∈ it.o.after, Region.binds .any e = true → e.on < it.i
  dst : ∀ it ∈ its, okDst N it.o.dst = true
  uniq : ∀ it ∈ its, ∀ it' ∈ its, ∀ t, it.o.dst = some t → it'.o.dst = some t → it.i = it'.i
  env : ∀ it ∈ its, ∀ t d, it.E.look t = some d → d.ok it.n = true ∧ ∃ it' ∈ its, it'.o.dst = some t ∧ it.anc.testBit it'.i = true ∧ it'.d = d
  sl : ∀ it ∈ its, ∀ t, it.sl.contains t = true → ∀ it' ∈ its, it'.o.dst = some t → it'.anc.testBit it.i = true
  gd : ∀ it ∈ its, ∀ d w, it.g = some (d, w) → ∃ j t it', it.o.guard = some (j, w) ∧ (ops[j]?).bind (·.dst) = some t ∧ it' ∈ its ∧ it'.o.dst = some t ∧ it.anc.testBit it'.i = true ∧ it'.d = d
  gn : ∀ it ∈ its, it.g = none → it.o.guard = none
  ok : ∀ it ∈ its, it.OK P G
  ef1 : ∀ it ∈ its, ∀ it' ∈ its, ∀ f q A f' q' A', it.c = .ef f q A → it'.c = .ef f' q' A' → (q' < q → it.anc.testBit it'.i = true) ∧ (q' = q → it'.i = it.i) ∧ (it.i ≠ it'.i → ∀ j ∈ A, j ∉ A')
  ef2 : ∀ it ∈ its, ∀ f q A, it.c = .ef f q A → 1 ≤ q ∧ q ≤ Qn ∧ A.Nodup ∧ (q ≠ 1 → ∃ it' ∈ its, ∃ f' A', it'.c = .ef f' (q - 1) A') ∧ ∀ j ∈ A, j ∉ Ae ∧ j < Rn ∧ ∃ it' ∈ its, ∃ f', it'.c = .rs f' j ∧ it.anc.testBit it'.i = true
  ef3 : Qn ≠ 0 → ∃ it ∈ its, ∃ f A, it.c = .ef f Qn A
  rs1 : ∀ it ∈ its, ∀ f j, it.c = .rs f j → j < Rn ∧ ∀ it' ∈ its, ∀ f', it'.c = .rs f' j → it'.i = it.i
  ld : ∀ it ∈ its, ∀ f k0 ks, it.c = .ld f k0 ks → ∀ k, k ≤ Qn → (∀ it' ∈ its, ∀ f' q' A', it'.c = .ef f' q' A' → it.anc.testBit it'.i = true → q' ≤ k) → (∀ it' ∈ its, ∀ f' q' A', it'.c = .ef f' q' A' → it'.anc.testBit it.i = true → k < q') → k = k0 ∨ k ∈ ks
  ae : Ae.Nodup ∧ ∀ j ∈ Ae, j < Rn ∧ ∃ it' ∈ its, ∃ f', it'.c = .rs f' j

/-- An item's operation is wanted. -/
def It.On (it : It) (T : TS) (Z : Fin) : Prop := match it.g with
  | none => True
  | some (d, w) => gwant (d.x Z.L.length Z.L T) w = some true
/-- The temporaries. -/
structure TM (G : Ctx) (N : Nat) (its : List It) (T : TS) (Z : Fin) (S : Done) (ρ : Rho) (a : Act) : Prop where
  closed : ∀ it ∈ its, S it.i = true → ∀ j, it.anc.testBit j = true → S j = true
  tm : ∀ it ∈ its, S it.i = true → ∀ t, it.o.dst = some t → VR ρ (it.val Z T) (a.tmps.getD t undef)
  sl : ∀ t, G.kept t = true → (∀ it ∈ its, it.o.dst = some t → S it.i = false) → VR ρ (T.get (pos t)) (a.tmps.getD t undef)
  gr : GR G ρ
  size : a.tmps.size = N
  defers : a.defers = []
/-- The heap, k effects done. -/
structure HPI (its : List It) (z : Pos) (Z : Fin) (Rn : Nat) (ρ0 : Rho) (bs0 : TB) (w0 : World) (S : Done) (ρ : Rho) (k : Nat) (w : World) : Prop where
  efs : ∀ it ∈ its, ∀ f q A, it.c = .ef f q A → (S it.i = true ↔ q ≤ k)
  hk : ∃ h, Z.H[k]? = some h ∧ HR ρ h.1 h.2 w ∧ Ext ρ0 z bs0 w0 ρ h.1 h.2 w ∧ z.val + Rn ≤ h.1.val ∧
    ∀ it ∈ its, ∀ f j, it.c = .rs f j → S it.i = true → ∀ m, Z.M[j]? = some (some m) → (∀ it' ∈ its, ∀ f' q' A', it'.c = .ef f' q' A' → q' ≤ k → j ∉ A') → Pend w0.heap.size ρ h.2 w (incs j z) m
  res : ∀ it ∈ its, ∀ f j, it.c = .rs f j → S it.i = false → ρ (incs j z) = none
  inj : ∀ j j' q q', j < Rn → j' < Rn → ρ (incs j z) = some q → ρ (incs j' z) = some q' → q.r = q'.r → j = j'

section
variable {P : Program} {G : Ctx} {N : Nat} {ops : Array Oper} {its : List It} {Qn Rn : Nat} {Ae : List Nat} {T : TS} {z : Pos} {Z : Fin} {ρ0 : Rho} {bs0 : TB} {w0 : World}

theorem DS.same (ds : DS P G N ops its Qn Rn Ae) {it it' : It} (h : it ∈ its) (h' : it' ∈ its) (e : it.i = it'.i) : it = it' := by
  obtain ⟨n, hn⟩ := List.getElem?_of_mem h
  obtain ⟨n', hn'⟩ := List.getElem?_of_mem h'
  have e1 := (ds.idx n it hn).1
  have e2 := (ds.idx n' it' hn').1
  have : n = n' := by omega
  subst this
  rw [hn] at hn'; injection hn'
theorem DS.find (ds : DS P G N ops its Qn Rn Ae) {i : Nat} {o : Oper} (h : ops[i]? = some o) : ∃ it ∈ its, it.i = i ∧ it.o = o := by
  have hi : i < ops.size := by
    rcases Nat.lt_or_ge i ops.size with hh | hh
    · exact hh
    · rw [Array.getElem?_eq_none hh] at h; cases h
  have hi' : i < its.length := by rw [ds.len]; exact hi
  obtain ⟨h1, h2⟩ := ds.idx i its[i] (List.getElem?_eq_getElem hi')
  rw [h] at h2; injection h2 with h2
  exact ⟨its[i], List.getElem_mem hi', h1, h2.symm⟩
theorem getD_put (a : Act) {t : Tmp} (ht : t < a.tmps.size) (y : Value) (u : Tmp) : (a.put (some t) y).tmps.getD u undef = if u = t then y else a.tmps.getD u undef := by
  show (a.tmps.setIfInBounds t y).getD u undef = _
  by_cases h : u = t
  · subst h; simp [ht]
  · rw [if_neg h]; simp [Array.getElem?_setIfInBounds_ne (Ne.symm h)]
theorem Done.put_self (S : Done) (i : Nat) : (S.put i) i = true := by simp [Done.put]
theorem Done.put_ne (S : Done) {i j : Nat} (h : j ≠ i) : (S.put i) j = S j := by simp [Done.put, h]
theorem Done.put_of (S : Done) {i j : Nat} (h : S j = true) : (S.put i) j = true := by
  unfold Done.put; split
  · rfl
  · exact h
/-- One more is done. -/
theorem TM.put (ds : DS P G N ops its Qn Rn Ae) {S : Done} {a : Act} (h : TM G N its T Z S ρ a) {it : It} (hit : it ∈ its) (hanc : ∀ j, it.anc.testBit j = true → S j = true) {ρ' : Rho} (hle : ρ.le ρ') {y : Value} (hv : VR ρ' (it.val Z T) y) :
    TM G N its T Z (S.put it.i) ρ' (a.put it.o.dst y) := by
  refine ⟨fun it' hm hs j hj => ?_, fun it' hm hs t ht => ?_, fun t hk hn => ?_, h.gr.mono hle, by rw [put_size, h.size], by rw [put_defers, h.defers]⟩
  · by_cases e : it'.i = it.i
    · have := ds.same hm hit e; subst this; exact S.put_of (hanc j hj)
    · rw [S.put_ne e] at hs; exact S.put_of (h.closed it' hm hs j hj)
  · by_cases e : it'.i = it.i
    · have := ds.same hm hit e; subst this
      rw [ht]
      have htN := ds.dst it' hm
      rw [ht] at htN
      rw [getD_put a (by rw [h.size]; exact Nat.le_of_ble_eq_true htN), if_pos rfl]; exact hv
    · rw [S.put_ne e] at hs
      have hold := VR.mono hle _ _ (h.tm it' hm hs t ht)
      cases hd : it.o.dst with
      | none => exact hold
      | some u =>
        have hne : t ≠ u := fun e' => e (by subst e'; exact ds.uniq it' hm it hit t ht hd)
        have htN := ds.dst it hit
        rw [hd] at htN
        rw [getD_put a (by rw [h.size]; exact Nat.le_of_ble_eq_true htN), if_neg hne]; exact hold
  · have hold := VR.mono hle _ _ (h.sl t hk fun it' hm ht => by
      have := hn it' hm ht
      by_cases e : it'.i = it.i
      · rw [e, S.put_self] at this; cases this
      · rwa [S.put_ne e] at this)
    cases hd : it.o.dst with
    | none => exact hold
    | some u =>
      have hne : t ≠ u := fun e' => by
        subst e'
        have := hn it hit hd
        rw [S.put_self] at this; cases this
      have htN := ds.dst it hit
      rw [hd] at htN
      rw [getD_put a (by rw [h.size]; exact Nat.le_of_ble_eq_true htN), if_neg hne]; exact hold
/-- What an item finds. -/
theorem TM.er (ds : DS P G N ops its Qn Rn Ae) {S : Done} {a : Act} (h : TM G N its T Z S ρ a) {it : It} (hit : it ∈ its) (hS : S it.i = false) (hanc : ∀ j, it.anc.testBit j = true → S j = true) (hn : it.n ≤ Z.L.length) : ER (it.G G) ρ it.E (it.Li Z) T a ∧ (it.Li Z).length = it.n := by
  have hlen : (it.Li Z).length = it.n := by unfold It.Li; rw [List.length_drop]; omega
  have hsuf : it.Li Z <:+ Z.L := List.drop_suffix _ _
  refine ⟨⟨fun t d hl => ?_, fun t _ hk => ?_, h.gr.cast rfl rfl⟩, hlen⟩
  · obtain ⟨hok, it', hm, hd, hb, rfl⟩ := ds.env it hit t d hl
    refine ⟨by rw [hlen]; exact hok, ?_⟩
    have := h.tm it' hm (hanc _ hb) t hd
    unfold It.val at this
    rwa [D.x_suffix hsuf (by rw [hlen]; exact hok)] at this
  · have hk : (it.sl.contains t && G.kept t) = true := hk
    rw [Bool.and_eq_true] at hk
    refine h.sl t hk.2 fun it' hm hd => ?_
    cases hs : S it'.i with
    | false => rfl
    | true =>
      have := h.closed it' hm hs _ (ds.sl it hit t hk.1 it' hm hd)
      rw [hS] at this; cases this

theorem HPI.same (ds : DS P G N ops its Qn Rn Ae) {S : Done} {k : Nat} {w : World} (h : HPI its z Z Rn ρ0 bs0 w0 S ρ k w) {it : It} (hit : it ∈ its) (h1 : ∀ f q A, it.c ≠ .ef f q A) (h2 : ∀ f j, it.c = .rs f j → Z.M[j]? = some none) : HPI its z Z Rn ρ0 bs0 w0 (S.put it.i) ρ k w := by
  have hne : ∀ it' ∈ its, ∀ f q A, it'.c = .ef f q A → it'.i ≠ it.i := fun it' hm f q A hc e => by
    have := ds.same hm hit e; subst this; exact h1 f q A hc
  obtain ⟨hh, k1, k2, k3, k4, k5⟩ := h.hk
  refine ⟨fun it' hm f q A hc => by rw [S.put_ne (hne it' hm f q A hc)]; exact h.efs it' hm f q A hc, ⟨hh, k1, k2, k3, k4, fun it' hm f j hc hs m hM hA => ?_⟩, fun it' hm f j hc hs => ?_, h.inj⟩
  · by_cases e : it'.i = it.i
    · have := ds.same hm hit e; subst this
      rw [h2 f j hc] at hM; injection hM with hM; cases hM
    · rw [S.put_ne e] at hs
      exact k5 it' hm f j hc hs m hM hA
  · by_cases e : it'.i = it.i
    · rw [e, S.put_self] at hs; cases hs
    · rw [S.put_ne e] at hs; exact h.res it' hm f j hc hs

theorem incs_inj {z : Pos} {j j' : Nat} (h : incs j z = incs j' z) : j = j' := by
  have := congrArg Pos.val h
  rw [incs_val, incs_val] at this
  omega
theorem HPI.new (ds : DS P G N ops its Qn Rn Ae) {S : Done} {k : Nat} {w : World} (h : HPI its z Z Rn ρ0 bs0 w0 S ρ k w) {it : It} (hit : it ∈ its) (hS : S it.i = false) {f : List V → TS → Option NV} {j : Nat} (hc : it.c = .rs f j) {m : NV} (hM : Z.M[j]? = some (some m)) {res : Result Value} (hN : NSnd ρ w m res) :
    ∃ y w' ρ', res = .ok y w' ∧ ρ.le ρ' ∧ VR ρ' (m.val (incs j z)) y ∧ HPI its z Z Rn ρ0 bs0 w0 (S.put it.i) ρ' k w' := by
  obtain ⟨hh, k1, k2, k3, k4, k5⟩ := h.hk
  obtain ⟨hjR, huq⟩ := ds.rs1 it hit f j hc
  have hp := h.res it hit f j hc hS
  have hpn : (incs j z).val < hh.1.val := by rw [incs_val]; omega
  obtain ⟨y, w', x, C, E, fz, e1, e2, hev, e3, hxo, e4, e5, e6⟩ := hN.pend k2 hp hpn (b0 := w0.heap.size) k3.size
  have hother : ∀ j', j' ≠ j → upd ρ (incs j z) x (incs j' z) = ρ (incs j' z) := fun j' hne => upd_ne ρ x fun e => hne (incs_inj e)
  refine ⟨y, w', _, e1, upd_le' hp x, e4, ⟨fun it' hm f' q A hc' => ?_, ⟨hh, k1, e5, k3.place k2.toHR0 hp (by rw [incs_val]; omega) e2 x hev, k4, fun it' hm f' j' hc' hs m' hM' hA => ?_⟩, fun it' hm f' j' hc' hs => ?_, fun j1 j2 q1 q2 h1 h2 hq1 hq2 hr => ?_⟩⟩
  · rw [S.put_ne (fun e => by have := ds.same hm hit e; subst this; rw [hc] at hc'; cases hc')]
    exact h.efs it' hm f' q A hc'
  · by_cases e : it'.i = it.i
    · have := ds.same hm hit e; subst this
      rw [hc] at hc'; injection hc' with _ e'; subst e'
      rw [hM] at hM'; injection hM' with hM'; injection hM' with hM'; subst hM'
      exact e6
    · rw [S.put_ne e] at hs
      exact (k5 it' hm f' j' hc' hs m' hM' hA).place k2.toHR0 hp e2 x hxo
  · by_cases e : it'.i = it.i
    · rw [e, S.put_self] at hs; cases hs
    · rw [S.put_ne e] at hs
      rw [hother j' (fun e' => by subst e'; exact e (huq it' hm f' hc'))]
      exact h.res it' hm f' j' hc' hs
  · by_cases a1 : j1 = j
    · by_cases a2 : j2 = j
      · rw [a1, a2]
      · subst a1
        rw [upd_same] at hq1; injection hq1 with hq1; subst hq1
        rw [hother j2 a2] at hq2
        have := k2.inside _ _ hq2
        omega
    · by_cases a2 : j2 = j
      · subst a2
        rw [upd_same] at hq2; injection hq2 with hq2; subst hq2
        rw [hother j1 a1] at hq1
        have := k2.inside _ _ hq1
        omega
      · rw [hother j1 a1] at hq1
        rw [hother j2 a2] at hq2
        exact h.inj j1 j2 q1 q2 h1 h2 hq1 hq2 hr
/-- The next effect: its number. -/
theorem HPI.next (ds : DS P G N ops its Qn Rn Ae) {S : Done} {k : Nat} {w : World} (h : HPI its z Z Rn ρ0 bs0 w0 S ρ k w) {it : It} (hit : it ∈ its) (hS : S it.i = false) (hanc : ∀ j, it.anc.testBit j = true → S j = true) {f : CallF → List V → TS → Pos → TB → RC} {q : Nat} {A : List Nat} (hc : it.c = .ef f q A) : q = k + 1 := by
  have h1 : ¬ q ≤ k := fun hh => by rw [(h.efs it hit f q A hc).2 hh] at hS; cases hS
  obtain ⟨g1, g2, -, g3, -⟩ := ds.ef2 it hit f q A hc
  by_cases hq : q = 1
  · omega
  · obtain ⟨it', hm, f', A', hc'⟩ := g3 hq
    have hb := (ds.ef1 it hit it' hm f q A f' (q - 1) A' hc hc').1 (by omega)
    have := (h.efs it' hm f' (q - 1) A' hc').1 (hanc _ hb)
    omega
/-- New blocks become live ahead of an effect. -/
theorem HPI.take (_ds : DS P G N ops its Qn Rn Ae) {S : Done} {k : Nat} {w : World} (h : HPI its z Z Rn ρ0 bs0 w0 S ρ k w) {h0 : Pos × TB} (hk0 : Z.H[k]? = some h0) {A : List Nat} (hnd : A.Nodup) (hA : ∀ j ∈ A, j < Rn ∧ (∀ it' ∈ its, ∀ f' q' A', it'.c = .ef f' q' A' → q' ≤ k → j ∉ A') ∧ ∃ it' ∈ its, ∃ f', it'.c = .rs f' j ∧ S it'.i = true) :
    HR ρ h0.1 (absorb A z Z.M h0.2) w ∧ Ext ρ0 z bs0 w0 ρ h0.1 (absorb A z Z.M h0.2) w ∧ ∀ j' m', j' < Rn → j' ∉ A → Pend w0.heap.size ρ h0.2 w (incs j' z) m' → Pend w0.heap.size ρ (absorb A z Z.M h0.2) w (incs j' z) m' := by
  obtain ⟨hh, k1, k2, k3, k4, k5⟩ := h.hk
  rw [hk0] at k1; injection k1 with k1; subst k1
  refine absorb_all h.inj (fun j hj => by rw [incs_val]; omega) A h0.2 hnd (fun j hj => (hA j hj).1) k2 k3 fun j hj m hM => ?_
  obtain ⟨-, h1, it', hm, f', hc', hs⟩ := hA j hj
  exact k5 it' hm f' j hc' hs m hM h1
/-- An effect is done. -/
theorem HPI.eff (ds : DS P G N ops its Qn Rn Ae) {S : Done} {k : Nat} {w : World} (h : HPI its z Z Rn ρ0 bs0 w0 S ρ k w) {it : It} (hit : it ∈ its) {f : CallF → List V → TS → Pos → TB → RC} {A : List Nat} (hc : it.c = .ef f (k + 1) A) {h0 h1 : Pos × TB} (hk0 : Z.H[k]? = some h0) (hk1 : Z.H[k + 1]? = some h1)
    {bsA : TB} (hX : Ext ρ0 z bs0 w0 ρ h0.1 bsA w) (hP : ∀ j' m', j' < Rn → j' ∉ A → Pend w0.heap.size ρ h0.2 w (incs j' z) m' → Pend w0.heap.size ρ bsA w (incs j' z) m') {ρ' : Rho} {w' : World} (hh' : HR ρ' h1.1 h1.2 w') (he : Ext ρ h0.1 bsA w ρ' h1.1 h1.2 w') : HPI its z Z Rn ρ0 bs0 w0 (S.put it.i) ρ' (k + 1) w' := by
  obtain ⟨hh, k1, k2, k3, k4, k5⟩ := h.hk
  rw [hk0] at k1; injection k1 with k1; subst k1
  have hnone : ∀ j, j < Rn → ρ (incs j z) = none → ρ' (incs j z) = none := fun j hj hn => he.old _ (by rw [incs_val]; omega) hn
  have hback : ∀ j q, j < Rn → ρ' (incs j z) = some q → ρ (incs j z) = some q := fun j q hj hq => by
    cases hr : ρ (incs j z) with
    | none => rw [hnone j hj hr] at hq; cases hq
    | some q' => rw [he.le _ _ hr] at hq; exact hq
  refine ⟨fun it' hm f' q' A' hc' => ?_, ⟨h1, hk1, hh', hX.trans he, Nat.le_trans k4 he.nle, fun it' hm f' j' hc' hs m' hM' hA => ?_⟩, fun it' hm f' j' hc' hs => ?_, fun j1 j2 q1 q2 a1 a2 hq1 hq2 hr => h.inj j1 j2 q1 q2 a1 a2 (hback _ _ a1 hq1) (hback _ _ a2 hq2) hr⟩
  · by_cases e : it'.i = it.i
    · have := ds.same hm hit e; subst this
      rw [hc] at hc'; injection hc' with _ e'
      rw [S.put_self]
      exact ⟨fun _ => by omega, fun _ => rfl⟩
    · rw [S.put_ne e, h.efs it' hm f' q' A' hc']
      have := (ds.ef1 it hit it' hm f (k + 1) A f' q' A' hc hc').2.1
      exact ⟨fun _ => by omega, fun hle => by
        rcases Nat.lt_or_ge q' (k + 1) with hl | hl
        · omega
        · exact absurd (this (by omega)) e⟩
  · have hne : it'.i ≠ it.i := fun e => by have := ds.same hm hit e; subst this; rw [hc] at hc'; cases hc'
    rw [S.put_ne hne] at hs
    have hjA : j' ∉ A := hA it hit f (k + 1) A hc (Nat.le_refl _)
    have hp := k5 it' hm f' j' hc' hs m' hM' fun it2 hm2 f2 q2 A2 hc2 hq2 => hA it2 hm2 f2 q2 A2 hc2 (by omega)
    exact (hP j' m' (ds.rs1 it' hm f' j' hc').1 hjA hp).later k2.base he
  · have hne : it'.i ≠ it.i := fun e => by have := ds.same hm hit e; subst this; rw [hc] at hc'; cases hc'
    rw [S.put_ne hne] at hs
    exact hnone _ (ds.rs1 it' hm f' j' hc').1 (h.res it' hm f' j' hc' hs)

end

end Go.Proofs.YtmbnogellhoheaaGreatDoor.Ev

/- Drawn regions: the run in the order of the text serves every order. -/
namespace Go.Proofs.YtmbnogellhoheaaGreatDoor.Ev
open Go
variable {ρ : Rho}

/-! ### loads looked at again, behind each effect that they aren't ordered with -/
noncomputable def chkK (f : List V → TS → TB → Option V) (v : V) (Li : List V) (T : TS) (Hs : List (Pos × TB)) (ks : List Nat) : Bool :=
  List.rec (motive := fun _ => Bool) true (fun k _ ih => cond (Option.casesOn (motive := fun _ => Bool) (Hs[k]?) false fun h => Option.casesOn (motive := fun _ => Bool) (f Li T h.2) false fun m => veq m v) ih false) ks
noncomputable def chkI (N : Nat) (it : It) (L : List V) (T : TS) (Hs : List (Pos × TB)) : Bool := match it.c with
  | .ld f _ ks => match it.g with
    | none => chkK f (it.d.x N L T) (dropL (N - it.n) L) T Hs ks
    | some (d, w) => Option.casesOn (motive := fun _ => Bool) (gwant (d.x N L T) w) false fun b => cond b (chkK f (it.d.x N L T) (dropL (N - it.n) L) T Hs ks) true
  | _ => true
noncomputable def chks (N : Nat) (L : List V) (T : TS) (Hs : List (Pos × TB)) (cl : List It) : Bool := List.rec (motive := fun _ => Bool) true (fun it _ ih => cond (chkI N it L T Hs) ih false) cl
theorem chkK_spec {f : List V → TS → TB → Option V} {v : V} {Li : List V} {T : TS} {Hs : List (Pos × TB)} : ∀ {ks : List Nat}, chkK f v Li T Hs ks = true → ∀ k ∈ ks, ∃ h, Hs[k]? = some h ∧ f Li T h.2 = some v
  | [], _, k, hk => by cases hk
  | k0 :: ks, h, k, hk => by
    obtain ⟨h1, h2⟩ := cond_true' (c := Option.casesOn (motive := fun _ => Bool) (Hs[k0]?) false fun h => Option.casesOn (motive := fun _ => Bool) (f Li T h.2) false fun m => veq m v) (x := chkK f v Li T Hs ks) h
    cases hk with
    | tail _ hk => exact chkK_spec h2 k hk
    | head =>
      cases hh : Hs[k0]? with
      | none => rw [hh] at h1; cases h1
      | some hv =>
        rw [hh] at h1
        refine ⟨hv, rfl, ?_⟩
        cases hf : f Li T hv.2 with
        | none => simp only [hf] at h1; cases h1
        | some m =>
          simp only [hf] at h1
          rw [veq_eq h1]
theorem chks_spec {N : Nat} {L : List V} {T : TS} {Hs : List (Pos × TB)} : ∀ {cl : List It}, chks N L T Hs cl = true → ∀ it ∈ cl, chkI N it L T Hs = true
  | [], _, it, hk => by cases hk
  | i0 :: cl, h, it, hk => by
    obtain ⟨h1, h2⟩ := cond_true' (c := chkI N i0 L T Hs) (x := chks N L T Hs cl) h
    cases hk with
    | head => exact h1
    | tail _ hk => exact chks_spec h2 it hk
theorem chkI_spec {it : It} {T : TS} {Z : Fin} (h : chkI Z.L.length it Z.L T Z.H = true) (hon : it.On T Z) {f : List V → TS → TB → Option V} {k0 : Nat} {ks : List Nat} (hc : it.c = .ld f k0 ks) : ∀ k ∈ ks, ∃ h, Z.H[k]? = some h ∧ f (it.Li Z) T h.2 = some (it.val Z T) := by
  unfold chkI at h
  rw [hc] at h
  simp only at h
  unfold It.On at hon
  have key : chkK f (it.d.x Z.L.length Z.L T) (dropL (Z.L.length - it.n) Z.L) T Z.H ks = true → ∀ k ∈ ks, ∃ h, Z.H[k]? = some h ∧ f (it.Li Z) T h.2 = some (it.val Z T) := fun h => by
    have := chkK_spec h
    rw [dropL_eq] at this
    exact this
  cases hg : it.g with
  | none => rw [hg] at h; exact key h
  | some gw =>
    obtain ⟨d, w⟩ := gw
    rw [hg] at h hon
    simp only at h hon
    rw [hon] at h
    exact key h

noncomputable def finD (N : Nat) (cl : List It) (Ae : List Nat) : DB := .mk fun _ T z L nx bs Hs Ms => cond (chks N L T Hs cl) (.mk L nx (absorb Ae z Ms bs)) .fail
noncomputable def dregK (its : List It) (N : Nat) (cl : List It) (Ae : List Nat) (Rn : Nat) : SB := .mk fun F _ T nx bs => (runIs its (finD N cl Ae)).run F T nx [] (incs Rn nx) bs [(incs Rn nx, bs)] []
theorem nums_le : ∀ (its : List It) (n q r n' q' r' : Nat), nums its n q r = some (n', q', r') → n ≤ n' ∧ ∀ it ∈ its, it.n ≤ n'
  | [], n, q, r, n', q', r', h => by injection h with h; injection h with e1 h; subst e1; exact ⟨Nat.le_refl _, fun it h => absurd h (by simp)⟩
  | it :: its, n, q, r, n', q', r', h => by
    unfold nums at h
    split at h
    case isFalse => cases h
    rename_i hnum
    obtain ⟨h1, h2⟩ := nums_le its _ _ _ _ _ _ h
    unfold It.num at hnum
    rw [Bool.and_eq_true, Bool.and_eq_true] at hnum
    have hn := Nat.eq_of_beq_eq_true hnum.1.1
    refine ⟨by omega, fun it' hm => ?_⟩
    cases hm with
    | head => omega
    | tail _ hm => exact h2 it' hm

section
variable {P : Program} {G : Ctx} {N : Nat} {ops : Array Oper} {its : List It} {Qn Rn : Nat} {Ae : List Nat} {T : TS} {z : Pos} {Z : Fin} {ρ0 : Rho} {bs0 : TB} {w0 : World} {F : CallF}
def DInv (G : Ctx) (N : Nat) (its : List It) (T : TS) (z : Pos) (Z : Fin) (Rn : Nat) (ρ0 : Rho) (bs0 : TB) (w0 : World) (S : Done) (a : Act) (w : World) : Prop := ∃ ρ k, TM G N its T Z S ρ a ∧ HPI its z Z Rn ρ0 bs0 w0 S ρ k w
theorem VR_u (ρ : Rho) (y : Value) : VR ρ .u y := by simp [VR]
theorem dstep (ds : DS P G N ops its Qn Rn Ae) (hF : CallSnd P G F) (hfact : ∀ it ∈ its, it.Fact F T z Z) (hn : ∀ it ∈ its, it.n ≤ Z.L.length) (hH : Z.H.length = Qn + 1)
    (hchk : ∀ it ∈ its, it.On T Z → ∀ f k0 ks, it.c = .ld f k0 ks → ∀ k ∈ ks, ∃ h, Z.H[k]? = some h ∧ f (it.Li Z) T h.2 = some (it.val Z T)) {Q : Exit → Act → World → Prop}
    {S : Done} {i : Nat} {o : Oper} {a : Act} {w : World} {K : Act → World → Prop} (hI : DInv G N its T z Z Rn ρ0 bs0 w0 S a w) (ho : ops[i]? = some o) (hS : S i = false) (hed : ∀ e ∈ o.after, Region.binds .any e = true → S e.on = true)
    (hK : ∀ a' w', DInv G N its T z Z Rn ρ0 bs0 w0 (S.put i) a' w' → K a' w') : wpOp P ops Q i K a w := by
  obtain ⟨ρ, k, tm, hp⟩ := hI
  obtain ⟨it, hit, rfl, rfl⟩ := ds.find ho
  have hanc : ∀ j, it.anc.testBit j = true → S j = true := fun j hj => by
    obtain ⟨e, he, hb, h⟩ := ds.anc it hit j hj
    have hs := hed e he hb
    rcases h with rfl | ⟨it', hm, e1, hj'⟩
    · exact hs
    · rw [← e1] at hs; exact tm.closed it' hm hs j hj'
  obtain ⟨her, hlen⟩ := tm.er ds hit hS hanc (hn it hit)
  have hsuf : it.Li Z <:+ Z.L := List.drop_suffix _ _
  have hok := ds.ok it hit
  have hgt : ∀ d w, it.g = some (d, w) → ∀ b, gwant (d.x Z.L.length Z.L T) w = some b → Region.wanted it.o (yielded ops a.tmps) = b := fun d w hg b hb => by
    obtain ⟨j, t, it', h1, h2, h3, h4, h5, h6⟩ := ds.gd it hit d w hg
    have hv := tm.tm it' h3 (hanc _ h5) t h4
    unfold It.val at hv
    rw [h6] at hv
    exact wanted_of h1 h2 hv hb
  have skip : it.Skp T z Z → K (a.put it.o.dst undef) w := fun hs => by
    unfold It.Skp at hs
    unfold It.OK at hok
    cases hc : it.c with
    | al => rw [hc] at hs; exact hs.elim
    | pu f =>
      rw [hc] at hs
      exact hK _ _ ⟨ρ, k, tm.put ds hit hanc (Rho.le_refl ρ) (by rw [hs]; exact VR_skip ρ), hp.same ds hit (by rw [hc]; intros; simp) (by rw [hc]; intro f j h; cases h)⟩
    | ld f k0 ks =>
      rw [hc] at hs
      exact hK _ _ ⟨ρ, k, tm.put ds hit hanc (Rho.le_refl ρ) (by rw [hs]; exact VR_skip ρ), hp.same ds hit (by rw [hc]; intros; simp) (by rw [hc]; intro f j h; cases h)⟩
    | rs f j =>
      rw [hc] at hs
      obtain ⟨h1, h2⟩ := hs
      exact hK _ _ ⟨ρ, k, tm.put ds hit hanc (Rho.le_refl ρ) (by rw [h1]; exact VR_skip ρ), hp.same ds hit (by rw [hc]; intros; simp) (by rw [hc]; intro f j' h; injection h with _ e; rw [← e]; exact h2)⟩
    | ef f q A =>
      rw [hc] at hs
      obtain ⟨h1, h, h2, h3⟩ := hs
      have hq := hp.next ds hit hS hanc hc
      subst hq
      obtain ⟨-, -, g1, -, g2⟩ := ds.ef2 it hit f _ A hc
      have hA : ∀ j ∈ A, j < Rn ∧ (∀ it' ∈ its, ∀ f' q' A', it'.c = .ef f' q' A' → q' ≤ k → j ∉ A') ∧ ∃ it' ∈ its, ∃ f', it'.c = .rs f' j ∧ S it'.i = true := fun j hj => by
        obtain ⟨-, g3, it', hm, f', hc', hb⟩ := g2 j hj
        refine ⟨g3, fun it2 hm2 f2 q2 A2 hc2 hq2 => (ds.ef1 it hit it2 hm2 f _ A f2 q2 A2 hc hc2).2.2 (fun e => ?_) j hj, it', hm, f', hc', hanc _ hb⟩
        have := ds.same hit hm2 e; subst this
        rw [hc] at hc2; injection hc2 with _ e2; omega
      have h2 : Z.H[k]? = some h := h2
      obtain ⟨t1, t2, t3⟩ := hp.take ds h2 g1 hA
      exact hK _ _ ⟨ρ, k + 1, tm.put ds hit hanc (Rho.le_refl ρ) (by rw [h1]; exact VR_skip ρ), hp.eff ds hit hc h2 h3 t2 t3 t1 (Ext.refl ..)⟩
  have main : it.On T Z → it.Act F T z Z → it.o.wp P a w K Q := fun hon hact => by
    unfold It.Act at hact
    unfold It.OK at hok
    cases hc : it.c with
    | al =>
      rw [hc] at hok
      obtain ⟨-, x, hmv, hxd⟩ := hok
      have hex : execOp a.eval it.o = pure (Next.value (a.eval x)) := by
        unfold execOp
        cases ho : it.o.op <;> rw [ho] at hmv <;> simp only [isMove] at hmv <;> first | (injection hmv with hmv; subst hmv; rfl) | cases hmv
      have hth : Thru P it.o a w (a.eval x) w := .inl (by rw [hex]; rfl)
      obtain ⟨hdok, hv⟩ := cxD_snd her hxd
      refine hth.wp (hK _ _ ⟨ρ, k, tm.put ds hit hanc (Rho.le_refl ρ) ?_, hp.same ds hit (by rw [hc]; intros; simp) (by rw [hc]; intro f j h; cases h)⟩)
      unfold It.val
      rw [D.x_suffix hsuf hdok]; exact hv
    | pu f =>
      rw [hc] at hok hact
      obtain ⟨y, h1, h2⟩ := hok ρ (it.Li Z) T a _ w hlen her hact
      exact h1.wp (hK _ _ ⟨ρ, k, tm.put ds hit hanc (Rho.le_refl ρ) h2, hp.same ds hit (by rw [hc]; intros; simp) (by rw [hc]; intro f j h; cases h)⟩)
    | ld f k0 ks =>
      rw [hc] at hok hact
      obtain ⟨h, k1, k2, k3, k4, k5⟩ := hp.hk
      have hkq : k ≤ Qn := by
        rcases Nat.lt_or_ge k Z.H.length with hh | hh
        · omega
        · rw [List.getElem?_eq_none hh] at k1; cases k1
      have hval : f (it.Li Z) T h.2 = some (it.val Z T) := by
        rcases ds.ld it hit f k0 ks hc k hkq (fun it' hm f' q' A' hc' hb => (hp.efs it' hm f' q' A' hc').1 (hanc _ hb)) (fun it' hm f' q' A' hc' hb => by
          rcases Nat.lt_or_ge k q' with hl | hl
          · exact hl
          · have := tm.closed it' hm ((hp.efs it' hm f' q' A' hc').2 hl) _ hb
            rw [hS] at this; cases this) with e | hks
        · subst e
          obtain ⟨h', e1, e2⟩ := hact
          rw [k1] at e1; injection e1 with e1; subst e1; exact e2
        · obtain ⟨h', e1, e2⟩ := hchk it hit hon f k0 ks hc k hks
          rw [k1] at e1; injection e1 with e1; subst e1; exact e2
      obtain ⟨y, h1, h2⟩ := hok ρ (it.Li Z) T a h.1 h.2 _ w hlen her k2 hval
      exact h1.wp (hK _ _ ⟨ρ, k, tm.put ds hit hanc (Rho.le_refl ρ) h2, hp.same ds hit (by rw [hc]; intros; simp) (by rw [hc]; intro f j h; cases h)⟩)
    | rs f j =>
      rw [hc] at hok hact
      obtain ⟨m, h1, h2, h3⟩ := hact
      obtain ⟨res, g1, g2⟩ := hok ρ (it.Li Z) T a m w hlen her h1
      obtain ⟨y, w', ρ', e1, e2, e3, e4⟩ := hp.new ds hit hS hc h2 g1
      exact (g2 y w' e1).wp (hK _ _ ⟨ρ', k, tm.put ds hit hanc e2 (by rw [h3]; exact e3), e4⟩)
    | ef f q A =>
      rw [hc] at hok hact
      obtain ⟨h, h', h2, h3, h4⟩ := hact
      have hq := hp.next ds hit hS hanc hc
      subst hq
      obtain ⟨-, -, g1, -, g2⟩ := ds.ef2 it hit f _ A hc
      have hA : ∀ j ∈ A, j < Rn ∧ (∀ it' ∈ its, ∀ f' q' A', it'.c = .ef f' q' A' → q' ≤ k → j ∉ A') ∧ ∃ it' ∈ its, ∃ f', it'.c = .rs f' j ∧ S it'.i = true := fun j hj => by
        obtain ⟨-, g3, it', hm, f', hc', hb⟩ := g2 j hj
        refine ⟨g3, fun it2 hm2 f2 q2 A2 hc2 hq2 => (ds.ef1 it hit it2 hm2 f _ A f2 q2 A2 hc hc2).2.2 (fun e => ?_) j hj, it', hm, f', hc', hanc _ hb⟩
        have := ds.same hit hm2 e; subst this
        rw [hc] at hc2; injection hc2 with _ e2; omega
      have h2 : Z.H[k]? = some h := h2
      obtain ⟨t1, t2, t3⟩ := hp.take ds h2 g1 hA
      have hF' : CallSnd P (it.G G) F := hF.cast rfl rfl
      exact hok F hF' ρ (it.Li Z) T a h.1 h'.1 _ h'.2 _ w hlen her t1 h4 K Q fun ρ' y w' e1 e2 e3 => hK _ _ ⟨ρ', k + 1, tm.put ds hit hanc e3.le e1, hp.eff ds hit hc h2 h3 t2 t3 e2 e3⟩
  have hf := hfact it hit
  unfold wpOp
  simp only [ho]
  unfold It.Fact at hf
  cases hg : it.g with
  | none =>
    rw [hg] at hf
    rw [if_pos (wanted_none (ds.gn it hit hg) _)]
    exact .inl (main (by unfold It.On; rw [hg]; trivial) hf)
  | some gw =>
    obtain ⟨d, wn⟩ := gw
    rw [hg] at hf
    obtain ⟨b, hb, h1, h2⟩ := hf
    rw [hgt d wn hg b hb]
    cases b with
    | true =>
      rw [if_pos rfl]
      exact .inl (main (by unfold It.On; rw [hg]; exact hb) (h1 rfl))
    | false =>
      rw [if_neg (by simp)]
      exact skip (h2 rfl)

/-- What the temporaries are behind it. -/
def envOf : List It → Env
  | [] => []
  | it :: its => match it.o.dst with
    | some t => (t, it.d) :: envOf its
    | none => envOf its
theorem envOf_some {t : Tmp} {d : D} : ∀ {its : List It}, (envOf its).look t = some d → ∃ it ∈ its, it.o.dst = some t ∧ it.d = d
  | [], h => by cases h
  | it :: its, h => by
    unfold envOf at h
    cases hd : it.o.dst with
    | none => rw [hd] at h; obtain ⟨it', h1, h2⟩ := envOf_some h; exact ⟨it', List.mem_cons_of_mem _ h1, h2⟩
    | some u =>
      rw [hd] at h
      simp only [Env.look] at h
      split at h
      · rename_i e
        injection h with h
        exact ⟨it, List.mem_cons_self, by rw [hd, e], h⟩
      · obtain ⟨it', h1, h2⟩ := envOf_some h; exact ⟨it', List.mem_cons_of_mem _ h1, h2⟩
theorem envOf_none {t : Tmp} : ∀ {its : List It}, (envOf its).look t = none → ∀ it ∈ its, it.o.dst ≠ some t
  | [], _, it, h => by cases h
  | it0 :: its, h, it, hm => by
    unfold envOf at h
    cases hd : it0.o.dst with
    | none =>
      rw [hd] at h
      cases hm with
      | head => rw [hd]; simp
      | tail _ hm => exact envOf_none h it hm
    | some u =>
      rw [hd] at h
      simp only [Env.look] at h
      split at h
      · cases h
      · rename_i e
        cases hm with
        | head => rw [hd]; intro h'; injection h' with h'; exact e h'
        | tail _ hm => exact envOf_none h it hm

theorem dreg_snd (hmix : P.follows .mixedOrders = true) (ds : DS P G N ops its Qn Rn Ae) {n : Nat} (hnum : nums its 0 0 0 = some (n, Qn, Rn)) (hN : ∀ it ∈ its, it.d.ok n = true) {cl : List It} (hcl : ∀ it ∈ its, ∀ f k0 ks, it.c = .ld f k0 ks → ks ≠ [] → it ∈ cl) (id : Nat) :
    RegS P G N (.region id ops true) (envOf its) n (dregK its n cl Ae Rn) := by
  intro F hF ρ T a nx nx' bs bs' w L' hs hk Q hq
  have hk : (runIs its (finD n cl Ae)).run F T nx [] (incs Rn nx) bs [(incs Rn nx, bs)] [] = .mk L' nx' bs' := hk
  obtain ⟨Z, -, z2, -, hfact, zL, zH, zM, h, hh, hfin⟩ := runIs_fact (finD n cl Ae) F T nx its 0 0 0 n Qn Rn hnum [] (incs Rn nx) bs [(incs Rn nx, bs)] [] L' nx' bs' rfl rfl rfl rfl hk
  have hfin : cond (chks n Z.L T Z.H cl) (.mk Z.L h.1 (absorb Ae nx Z.M h.2)) .fail = RE.mk L' nx' bs' := hfin
  cases hck : chks n Z.L T Z.H cl with
  | false => rw [hck] at hfin; cases hfin
  | true =>
    rw [hck, cond_true] at hfin
    injection hfin with e1 e2 e3
    subst e1; subst e2; subst e3
    have hchk : ∀ it ∈ its, it.On T Z → ∀ f k0 ks, it.c = .ld f k0 ks → ∀ k ∈ ks, ∃ h, Z.H[k]? = some h ∧ f (it.Li Z) T h.2 = some (it.val Z T) := fun it hit hon f k0 ks hc k hkm => by
      have hm := hcl it hit f k0 ks hc (fun e => by subst e; cases hkm)
      have := chks_spec hck it hm
      rw [← zL] at this
      exact chkI_spec this hon hc k hkm
    have hH0 : Z.H[0]? = some (incs Rn nx, bs) := by
      obtain ⟨t, ht⟩ := z2
      rw [← ht]; rfl
    have hfresh : ∀ id : Pos, (incs Rn nx).val ≤ id.val → nx.val ≤ id.val := fun id hid => by rw [incs_val] at hid; omega
    refine wp_drawn hmix (DInv G N its T nx Z Rn ρ bs w) (fun i o ho e he hb => ?_) (fun S i o a w K hI ho hS hed hK => dstep ds hF hfact (fun it hit => by rw [zL]; exact (nums_le its 0 0 0 n Qn Rn hnum).2 it hit) zH hchk hI ho hS hed hK) (fun S a' w' hall hI => ?_) ?_
    · obtain ⟨it, hit, rfl, rfl⟩ := ds.find ho
      exact ds.edge it hit e he hb
    · obtain ⟨ρ', k, tm, hp⟩ := hI
      have hSall : ∀ it ∈ its, S it.i = true := fun it hit => by
        obtain ⟨m, hm⟩ := List.getElem?_of_mem hit
        have hlt : m < its.length := by
          rcases Nat.lt_or_ge m its.length with h | h
          · exact h
          · rw [List.getElem?_eq_none h] at hm; cases hm
        rw [(ds.idx m it hm).1]
        exact hall m (by rw [← ds.len]; exact hlt)
      have hkQ : k = Qn := by
        obtain ⟨h', k1, -⟩ := hp.hk
        have h1 : k < Z.H.length := by
          rcases Nat.lt_or_ge k Z.H.length with hh | hh
          · exact hh
          · rw [List.getElem?_eq_none hh] at k1; cases k1
        by_cases hq0 : Qn = 0
        · omega
        · obtain ⟨it, hit, f, A, hc⟩ := ds.ef3 hq0
          have := (hp.efs it hit f Qn A hc).1 (hSall it hit)
          omega
      subst hkQ
      obtain ⟨t1, t2, -⟩ := hp.take ds hh ds.ae.1 fun j hj => by
        obtain ⟨h1, it', hm, f', hc'⟩ := ds.ae.2 j hj
        exact ⟨h1, fun it2 hm2 f2 q2 A2 hc2 _ hj2 => ((ds.ef2 it2 hm2 f2 q2 A2 hc2).2.2.2.2 j hj2).1 hj, it', hm, f', hc', hSall it' hm⟩
      refine hq ρ' a' w' ⟨zL, ⟨fun t d hl => ?_, fun t hl hkp => ?_, tm.gr⟩, t1, tm.size, tm.defers⟩ t2
      · obtain ⟨it, hit, hd, rfl⟩ := envOf_some hl
        exact ⟨by rw [zL]; exact hN it hit, tm.tm it hit (hSall it hit) t hd⟩
      · exact tm.sl t hkp fun it hit hd => absurd hd (envOf_none hl it hit)
    · refine ⟨ρ, 0, ⟨fun it _ h => (by cases h), fun it _ h => (by cases h), fun t hkp _ => hs.er.slot t rfl hkp, hs.er.glob, hs.size, hs.defers⟩, ⟨fun it hit f q A hc => ⟨fun h => (by cases h), fun h => ?_⟩, ⟨_, hH0, ?_, ?_, by rw [incs_val]; exact Nat.le_refl _, fun it _ f j _ h => (by cases h)⟩, fun it hit f j hc _ => ?_, fun j j' q q' hj _ hq1 => ?_⟩⟩
      · have := (ds.ef2 it hit f q A hc).1; omega
      · have h0 : HR ρ (incs Rn nx) bs w := ⟨⟨hs.hr.live, hs.hr.apart, fun id hid => hs.hr.fresh id (hfresh id hid), hs.hr.inside⟩, by have := hs.hr.base; rw [incs_val]; omega, hs.hr.fix⟩
        exact h0.congr rfl
      · exact ⟨Rho.le_refl ρ, Nat.le_refl _, fun _ _ _ => rfl, fun _ _ h => h, by show nx.val ≤ (incs Rn nx).val; rw [incs_val]; omega, fun _ _ h => h, Evn.refl w, fun _ _ _ => rfl⟩
      · exact (hs.hr.fresh _ (by rw [incs_val]; omega)).1
      · rw [(hs.hr.fresh (incs j nx) (by rw [incs_val]; omega)).1] at hq1; cases hq1
end

end Go.Proofs.YtmbnogellhoheaaGreatDoor.Ev
