/- Drawn regions: what holds whatever has been done, step by step. -/
import Derived.Test.YtmbnogellhoheaaGreatDoorEvXi
namespace Go.Proofs.YtmbnogellhoheaaGreatDoor.Ev
open Go
variable {ρ : Rho}

/-- The context of an item: only the slots that it reads. -/
def It.G (it : It) (G : Ctx) : Ctx := ⟨fun t => it.sl.contains t && G.kept t, G.glob, G.at_, G.tab⟩
/-- The compiled operation of an item fits the model's. -/
def It.OK (P : Program) (G : Ctx) (it : It) : Prop := match it.c with
  | .al => it.g = none ∧ ∃ x, isMove it.o.op = some x ∧ cxD (it.G G) it.E x = some it.d
  | .pu f => OCS P (it.G G) it.E it.n it.o (.pu f)
  | .ld f _ _ => OCS P (it.G G) it.E it.n it.o (.ld f)
  | .rs f _ => OCS P (it.G G) it.E it.n it.o (.al f)
  | .ef f _ _ => OCS P (it.G G) it.E it.n it.o (.ef f)
structure DS (P : Program) (G : Ctx) (N : Nat) (ops : Array Oper) (its : List It) (Qn Rn : Nat) (Ae : List Nat) : Prop where
  len : its.length = ops.size
  idx : ∀ (i : Nat) (it : It), its[i]? = some it → it.i = i ∧ ops[i]? = some it.o
  anc : ∀ it ∈ its, ∀ j, it.anc.testBit j = true → ∃ e ∈ it.o.after, Region.binds .any e = true ∧ (e.on = j ∨ ∃ it' ∈ its, it'.i = e.on ∧ it'.anc.testBit j = true)
  edge : ∀ it ∈ its, ∀ e ∈ it.o.after, Region.binds .any e = true → e.on < it.i
  dst : ∀ it ∈ its, okDst N it.o.dst = true
  uniq : ∀ it ∈ its, ∀ it' ∈ its, ∀ t, it.o.dst = some t → it'.o.dst = some t → it.i = it'.i
  env : ∀ it ∈ its, ∀ t d, it.E.look t = some d → d.ok it.n = true ∧ ∃ it' ∈ its, it'.o.dst = some t ∧ it.anc.testBit it'.i = true ∧ it'.d = d
  sl : ∀ it ∈ its, ∀ t, it.sl.contains t = true → ∀ it' ∈ its, it'.o.dst = some t → it'.anc.testBit it.i = true
  gd : ∀ it ∈ its, ∀ d w, it.g = some (d, w) → ∃ j t it', it.o.guard = some (j, w) ∧ (ops[j]?).bind (·.dst) = some t ∧ it' ∈ its ∧ it'.o.dst = some t ∧ it.anc.testBit it'.i = true ∧ it'.d = d
  gn : ∀ it ∈ its, it.g = none → it.o.guard = none
  ok : ∀ it ∈ its, it.OK P G
  ef1 : ∀ it ∈ its, ∀ it' ∈ its, ∀ f q A f' q' A', it.c = .ef f q A → it'.c = .ef f' q' A' → (q' < q → it.anc.testBit it'.i = true) ∧ (q' = q → it'.i = it.i) ∧ (it.i ≠ it'.i → ∀ j ∈ A, j ∉ A')
  ef2 : ∀ it ∈ its, ∀ f q A, it.c = .ef f q A → 1 ≤ q ∧ q ≤ Qn ∧ A.Nodup ∧ (q ≠ 1 → ∃ it' ∈ its, ∃ f' A', it'.c = .ef f' (q - 1) A') ∧ ∀ j ∈ A, j ∉ Ae ∧ j < Rn ∧ ∃ it' ∈ its, ∃ f', it'.c = .rs f' j ∧ it.anc.testBit it'.i = true
  ef3 : Qn ≠ 0 → ∃ it ∈ its, ∃ f A, it.c = .ef f Qn A
  rs1 : ∀ it ∈ its, ∀ f j, it.c = .rs f j → j < Rn ∧ ∀ it' ∈ its, ∀ f', it'.c = .rs f' j → it'.i = it.i
  ld : ∀ it ∈ its, ∀ f k0 ks, it.c = .ld f k0 ks → ∀ k, k ≤ Qn → (∀ it' ∈ its, ∀ f' q' A', it'.c = .ef f' q' A' → it.anc.testBit it'.i = true → q' ≤ k) → (∀ it' ∈ its, ∀ f' q' A', it'.c = .ef f' q' A' → it'.anc.testBit it.i = true → k < q') → k = k0 ∨ k ∈ ks
  ae : Ae.Nodup ∧ ∀ j ∈ Ae, j < Rn ∧ ∃ it' ∈ its, ∃ f', it'.c = .rs f' j

/-- An item's operation is wanted. -/
def It.On (it : It) (T : TS) (Z : Fin) : Prop := match it.g with
  | none => True
  | some (d, w) => gwant (d.x Z.L.length Z.L T) w = some true
/-- The temporaries. -/
structure TM (G : Ctx) (N : Nat) (its : List It) (T : TS) (Z : Fin) (S : Done) (ρ : Rho) (a : Act) : Prop where
  closed : ∀ it ∈ its, S it.i = true → ∀ j, it.anc.testBit j = true → S j = true
  tm : ∀ it ∈ its, S it.i = true → ∀ t, it.o.dst = some t → VR ρ (it.val Z T) (a.tmps.getD t undef)
  sl : ∀ t, G.kept t = true → (∀ it ∈ its, it.o.dst = some t → S it.i = false) → VR ρ (T.get (pos t)) (a.tmps.getD t undef)
  gr : GR G ρ
  size : a.tmps.size = N
  defers : a.defers = []
/-- The heap, k effects done. -/
structure HPI (its : List It) (z : Pos) (Z : Fin) (Rn : Nat) (ρ0 : Rho) (bs0 : TB) (w0 : World) (S : Done) (ρ : Rho) (k : Nat) (w : World) : Prop where
  efs : ∀ it ∈ its, ∀ f q A, it.c = .ef f q A → (S it.i = true ↔ q ≤ k)
  hk : ∃ h, Z.H[k]? = some h ∧ HR ρ h.1 h.2 w ∧ Ext ρ0 z bs0 w0 ρ h.1 h.2 w ∧ z.val + Rn ≤ h.1.val ∧
    ∀ it ∈ its, ∀ f j, it.c = .rs f j → S it.i = true → ∀ m, Z.M[j]? = some (some m) → (∀ it' ∈ its, ∀ f' q' A', it'.c = .ef f' q' A' → q' ≤ k → j ∉ A') → Pend w0.heap.size ρ h.2 w (incs j z) m
  res : ∀ it ∈ its, ∀ f j, it.c = .rs f j → S it.i = false → ρ (incs j z) = none
  inj : ∀ j j' q q', j < Rn → j' < Rn → ρ (incs j z) = some q → ρ (incs j' z) = some q' → q.r = q'.r → j = j'

section
variable {P : Program} {G : Ctx} {N : Nat} {ops : Array Oper} {its : List It} {Qn Rn : Nat} {Ae : List Nat} {T : TS} {z : Pos} {Z : Fin} {ρ0 : Rho} {bs0 : TB} {w0 : World}

theorem DS.same (ds : DS P G N ops its Qn Rn Ae) {it it' : It} (h : it ∈ its) (h' : it' ∈ its) (e : it.i = it'.i) : it = it' := by
  obtain ⟨n, hn⟩ := List.getElem?_of_mem h
  obtain ⟨n', hn'⟩ := List.getElem?_of_mem h'
  have e1 := (ds.idx n it hn).1
  have e2 := (ds.idx n' it' hn').1
  have : n = n' := by omega
  subst this
  rw [hn] at hn'; injection hn'
theorem DS.find (ds : DS P G N ops its Qn Rn Ae) {i : Nat} {o : Oper} (h : ops[i]? = some o) : ∃ it ∈ its, it.i = i ∧ it.o = o := by
  have hi : i < ops.size := by
    rcases Nat.lt_or_ge i ops.size with hh | hh
    · exact hh
    · rw [Array.getElem?_eq_none hh] at h; cases h
  have hi' : i < its.length := by rw [ds.len]; exact hi
  obtain ⟨h1, h2⟩ := ds.idx i its[i] (List.getElem?_eq_getElem hi')
  rw [h] at h2; injection h2 with h2
  exact ⟨its[i], List.getElem_mem hi', h1, h2.symm⟩
theorem getD_put (a : Act) {t : Tmp} (ht : t < a.tmps.size) (y : Value) (u : Tmp) : (a.put (some t) y).tmps.getD u undef = if u = t then y else a.tmps.getD u undef := by
  show (a.tmps.setIfInBounds t y).getD u undef = _
  by_cases h : u = t
  · subst h; simp [ht]
  · rw [if_neg h]; simp [Array.getElem?_setIfInBounds_ne (Ne.symm h)]
theorem Done.put_self (S : Done) (i : Nat) : (S.put i) i = true := by simp [Done.put]
theorem Done.put_ne (S : Done) {i j : Nat} (h : j ≠ i) : (S.put i) j = S j := by simp [Done.put, h]
theorem Done.put_of (S : Done) {i j : Nat} (h : S j = true) : (S.put i) j = true := by
  unfold Done.put; split
  · rfl
  · exact h
/-- One more is done. -/
theorem TM.put (ds : DS P G N ops its Qn Rn Ae) {S : Done} {a : Act} (h : TM G N its T Z S ρ a) {it : It} (hit : it ∈ its) (hanc : ∀ j, it.anc.testBit j = true → S j = true) {ρ' : Rho} (hle : ρ.le ρ') {y : Value} (hv : VR ρ' (it.val Z T) y) :
    TM G N its T Z (S.put it.i) ρ' (a.put it.o.dst y) := by
  refine ⟨fun it' hm hs j hj => ?_, fun it' hm hs t ht => ?_, fun t hk hn => ?_, h.gr.mono hle, by rw [put_size, h.size], by rw [put_defers, h.defers]⟩
  · by_cases e : it'.i = it.i
    · have := ds.same hm hit e; subst this; exact S.put_of (hanc j hj)
    · rw [S.put_ne e] at hs; exact S.put_of (h.closed it' hm hs j hj)
  · by_cases e : it'.i = it.i
    · have := ds.same hm hit e; subst this
      rw [ht]
      have htN := ds.dst it' hm
      rw [ht] at htN
      rw [getD_put a (by rw [h.size]; exact Nat.le_of_ble_eq_true htN), if_pos rfl]; exact hv
    · rw [S.put_ne e] at hs
      have hold := VR.mono hle _ _ (h.tm it' hm hs t ht)
      cases hd : it.o.dst with
      | none => exact hold
      | some u =>
        have hne : t ≠ u := fun e' => e (by subst e'; exact ds.uniq it' hm it hit t ht hd)
        have htN := ds.dst it hit
        rw [hd] at htN
        rw [getD_put a (by rw [h.size]; exact Nat.le_of_ble_eq_true htN), if_neg hne]; exact hold
  · have hold := VR.mono hle _ _ (h.sl t hk fun it' hm ht => by
      have := hn it' hm ht
      by_cases e : it'.i = it.i
      · rw [e, S.put_self] at this; cases this
      · rwa [S.put_ne e] at this)
    cases hd : it.o.dst with
    | none => exact hold
    | some u =>
      have hne : t ≠ u := fun e' => by
        subst e'
        have := hn it hit hd
        rw [S.put_self] at this; cases this
      have htN := ds.dst it hit
      rw [hd] at htN
      rw [getD_put a (by rw [h.size]; exact Nat.le_of_ble_eq_true htN), if_neg hne]; exact hold
/-- What an item finds. -/
theorem TM.er (ds : DS P G N ops its Qn Rn Ae) {S : Done} {a : Act} (h : TM G N its T Z S ρ a) {it : It} (hit : it ∈ its) (hS : S it.i = false) (hanc : ∀ j, it.anc.testBit j = true → S j = true) (hn : it.n ≤ Z.L.length) : ER (it.G G) ρ it.E (it.Li Z) T a ∧ (it.Li Z).length = it.n := by
  have hlen : (it.Li Z).length = it.n := by unfold It.Li; rw [List.length_drop]; omega
  have hsuf : it.Li Z <:+ Z.L := List.drop_suffix _ _
  refine ⟨⟨fun t d hl => ?_, fun t _ hk => ?_, h.gr.cast rfl rfl⟩, hlen⟩
  · obtain ⟨hok, it', hm, hd, hb, rfl⟩ := ds.env it hit t d hl
    refine ⟨by rw [hlen]; exact hok, ?_⟩
    have := h.tm it' hm (hanc _ hb) t hd
    unfold It.val at this
    rwa [D.x_suffix hsuf (by rw [hlen]; exact hok)] at this
  · have hk : (it.sl.contains t && G.kept t) = true := hk
    rw [Bool.and_eq_true] at hk
    refine h.sl t hk.2 fun it' hm hd => ?_
    cases hs : S it'.i with
    | false => rfl
    | true =>
      have := h.closed it' hm hs _ (ds.sl it hit t hk.1 it' hm hd)
      rw [hS] at this; cases this

theorem HPI.same (ds : DS P G N ops its Qn Rn Ae) {S : Done} {k : Nat} {w : World} (h : HPI its z Z Rn ρ0 bs0 w0 S ρ k w) {it : It} (hit : it ∈ its) (h1 : ∀ f q A, it.c ≠ .ef f q A) (h2 : ∀ f j, it.c = .rs f j → Z.M[j]? = some none) : HPI its z Z Rn ρ0 bs0 w0 (S.put it.i) ρ k w := by
  have hne : ∀ it' ∈ its, ∀ f q A, it'.c = .ef f q A → it'.i ≠ it.i := fun it' hm f q A hc e => by
    have := ds.same hm hit e; subst this; exact h1 f q A hc
  obtain ⟨hh, k1, k2, k3, k4, k5⟩ := h.hk
  refine ⟨fun it' hm f q A hc => by rw [S.put_ne (hne it' hm f q A hc)]; exact h.efs it' hm f q A hc, ⟨hh, k1, k2, k3, k4, fun it' hm f j hc hs m hM hA => ?_⟩, fun it' hm f j hc hs => ?_, h.inj⟩
  · by_cases e : it'.i = it.i
    · have := ds.same hm hit e; subst this
      rw [h2 f j hc] at hM; injection hM with hM; cases hM
    · rw [S.put_ne e] at hs
      exact k5 it' hm f j hc hs m hM hA
  · by_cases e : it'.i = it.i
    · rw [e, S.put_self] at hs; cases hs
    · rw [S.put_ne e] at hs; exact h.res it' hm f j hc hs

theorem incs_inj {z : Pos} {j j' : Nat} (h : incs j z = incs j' z) : j = j' := by
  have := congrArg Pos.val h
  rw [incs_val, incs_val] at this
  omega
theorem HPI.new (ds : DS P G N ops its Qn Rn Ae) {S : Done} {k : Nat} {w : World} (h : HPI its z Z Rn ρ0 bs0 w0 S ρ k w) {it : It} (hit : it ∈ its) (hS : S it.i = false) {f : List V → TS → Option NV} {j : Nat} (hc : it.c = .rs f j) {m : NV} (hM : Z.M[j]? = some (some m)) {res : Result Value} (hN : NSnd ρ w m res) :
    ∃ y w' ρ', res = .ok y w' ∧ ρ.le ρ' ∧ VR ρ' (m.val (incs j z)) y ∧ HPI its z Z Rn ρ0 bs0 w0 (S.put it.i) ρ' k w' := by
  obtain ⟨hh, k1, k2, k3, k4, k5⟩ := h.hk
  obtain ⟨hjR, huq⟩ := ds.rs1 it hit f j hc
  have hp := h.res it hit f j hc hS
  have hpn : (incs j z).val < hh.1.val := by rw [incs_val]; omega
  obtain ⟨y, w', x, C, E, fz, e1, e2, hev, e3, hxo, e4, e5, e6⟩ := hN.pend k2 hp hpn (b0 := w0.heap.size) k3.size
  have hother : ∀ j', j' ≠ j → upd ρ (incs j z) x (incs j' z) = ρ (incs j' z) := fun j' hne => upd_ne ρ x fun e => hne (incs_inj e)
  refine ⟨y, w', _, e1, upd_le' hp x, e4, ⟨fun it' hm f' q A hc' => ?_, ⟨hh, k1, e5, k3.place k2.toHR0 hp (by rw [incs_val]; omega) e2 x hev, k4, fun it' hm f' j' hc' hs m' hM' hA => ?_⟩, fun it' hm f' j' hc' hs => ?_, fun j1 j2 q1 q2 h1 h2 hq1 hq2 hr => ?_⟩⟩
  · rw [S.put_ne (fun e => by have := ds.same hm hit e; subst this; rw [hc] at hc'; cases hc')]
    exact h.efs it' hm f' q A hc'
  · by_cases e : it'.i = it.i
    · have := ds.same hm hit e; subst this
      rw [hc] at hc'; injection hc' with _ e'; subst e'
      rw [hM] at hM'; injection hM' with hM'; injection hM' with hM'; subst hM'
      exact e6
    · rw [S.put_ne e] at hs
      exact (k5 it' hm f' j' hc' hs m' hM' hA).place k2.toHR0 hp e2 x hxo
  · by_cases e : it'.i = it.i
    · rw [e, S.put_self] at hs; cases hs
    · rw [S.put_ne e] at hs
      rw [hother j' (fun e' => by subst e'; exact e (huq it' hm f' hc'))]
      exact h.res it' hm f' j' hc' hs
  · by_cases a1 : j1 = j
    · by_cases a2 : j2 = j
      · rw [a1, a2]
      · subst a1
        rw [upd_same] at hq1; injection hq1 with hq1; subst hq1
        rw [hother j2 a2] at hq2
        have := k2.inside _ _ hq2
        omega
    · by_cases a2 : j2 = j
      · subst a2
        rw [upd_same] at hq2; injection hq2 with hq2; subst hq2
        rw [hother j1 a1] at hq1
        have := k2.inside _ _ hq1
        omega
      · rw [hother j1 a1] at hq1
        rw [hother j2 a2] at hq2
        exact h.inj j1 j2 q1 q2 h1 h2 hq1 hq2 hr
/-- The next effect: its number. -/
theorem HPI.next (ds : DS P G N ops its Qn Rn Ae) {S : Done} {k : Nat} {w : World} (h : HPI its z Z Rn ρ0 bs0 w0 S ρ k w) {it : It} (hit : it ∈ its) (hS : S it.i = false) (hanc : ∀ j, it.anc.testBit j = true → S j = true) {f : CallF → List V → TS → Pos → TB → RC} {q : Nat} {A : List Nat} (hc : it.c = .ef f q A) : q = k + 1 := by
  have h1 : ¬ q ≤ k := fun hh => by rw [(h.efs it hit f q A hc).2 hh] at hS; cases hS
  obtain ⟨g1, g2, -, g3, -⟩ := ds.ef2 it hit f q A hc
  by_cases hq : q = 1
  · omega
  · obtain ⟨it', hm, f', A', hc'⟩ := g3 hq
    have hb := (ds.ef1 it hit it' hm f q A f' (q - 1) A' hc hc').1 (by omega)
    have := (h.efs it' hm f' (q - 1) A' hc').1 (hanc _ hb)
    omega
/-- New blocks become live ahead of an effect. -/
theorem HPI.take (_ds : DS P G N ops its Qn Rn Ae) {S : Done} {k : Nat} {w : World} (h : HPI its z Z Rn ρ0 bs0 w0 S ρ k w) {h0 : Pos × TB} (hk0 : Z.H[k]? = some h0) {A : List Nat} (hnd : A.Nodup) (hA : ∀ j ∈ A, j < Rn ∧ (∀ it' ∈ its, ∀ f' q' A', it'.c = .ef f' q' A' → q' ≤ k → j ∉ A') ∧ ∃ it' ∈ its, ∃ f', it'.c = .rs f' j ∧ S it'.i = true) :
    HR ρ h0.1 (absorb A z Z.M h0.2) w ∧ Ext ρ0 z bs0 w0 ρ h0.1 (absorb A z Z.M h0.2) w ∧ ∀ j' m', j' < Rn → j' ∉ A → Pend w0.heap.size ρ h0.2 w (incs j' z) m' → Pend w0.heap.size ρ (absorb A z Z.M h0.2) w (incs j' z) m' := by
  obtain ⟨hh, k1, k2, k3, k4, k5⟩ := h.hk
  rw [hk0] at k1; injection k1 with k1; subst k1
  refine absorb_all h.inj (fun j hj => by rw [incs_val]; omega) A h0.2 hnd (fun j hj => (hA j hj).1) k2 k3 fun j hj m hM => ?_
  obtain ⟨-, h1, it', hm, f', hc', hs⟩ := hA j hj
  exact k5 it' hm f' j hc' hs m hM h1
/-- An effect is done. -/
theorem HPI.eff (ds : DS P G N ops its Qn Rn Ae) {S : Done} {k : Nat} {w : World} (h : HPI its z Z Rn ρ0 bs0 w0 S ρ k w) {it : It} (hit : it ∈ its) {f : CallF → List V → TS → Pos → TB → RC} {A : List Nat} (hc : it.c = .ef f (k + 1) A) {h0 h1 : Pos × TB} (hk0 : Z.H[k]? = some h0) (hk1 : Z.H[k + 1]? = some h1)
    {bsA : TB} (hX : Ext ρ0 z bs0 w0 ρ h0.1 bsA w) (hP : ∀ j' m', j' < Rn → j' ∉ A → Pend w0.heap.size ρ h0.2 w (incs j' z) m' → Pend w0.heap.size ρ bsA w (incs j' z) m') {ρ' : Rho} {w' : World} (hh' : HR ρ' h1.1 h1.2 w') (he : Ext ρ h0.1 bsA w ρ' h1.1 h1.2 w') : HPI its z Z Rn ρ0 bs0 w0 (S.put it.i) ρ' (k + 1) w' := by
  obtain ⟨hh, k1, k2, k3, k4, k5⟩ := h.hk
  rw [hk0] at k1; injection k1 with k1; subst k1
  have hnone : ∀ j, j < Rn → ρ (incs j z) = none → ρ' (incs j z) = none := fun j hj hn => he.old _ (by rw [incs_val]; omega) hn
  have hback : ∀ j q, j < Rn → ρ' (incs j z) = some q → ρ (incs j z) = some q := fun j q hj hq => by
    cases hr : ρ (incs j z) with
    | none => rw [hnone j hj hr] at hq; cases hq
    | some q' => rw [he.le _ _ hr] at hq; exact hq
  refine ⟨fun it' hm f' q' A' hc' => ?_, ⟨h1, hk1, hh', hX.trans he, Nat.le_trans k4 he.nle, fun it' hm f' j' hc' hs m' hM' hA => ?_⟩, fun it' hm f' j' hc' hs => ?_, fun j1 j2 q1 q2 a1 a2 hq1 hq2 hr => h.inj j1 j2 q1 q2 a1 a2 (hback _ _ a1 hq1) (hback _ _ a2 hq2) hr⟩
  · by_cases e : it'.i = it.i
    · have := ds.same hm hit e; subst this
      rw [hc] at hc'; injection hc' with _ e'
      rw [S.put_self]
      exact ⟨fun _ => by omega, fun _ => rfl⟩
    · rw [S.put_ne e, h.efs it' hm f' q' A' hc']
      have := (ds.ef1 it hit it' hm f (k + 1) A f' q' A' hc hc').2.1
      exact ⟨fun _ => by omega, fun hle => by
        rcases Nat.lt_or_ge q' (k + 1) with hl | hl
        · omega
        · exact absurd (this (by omega)) e⟩
  · have hne : it'.i ≠ it.i := fun e => by have := ds.same hm hit e; subst this; rw [hc] at hc'; cases hc'
    rw [S.put_ne hne] at hs
    have hjA : j' ∉ A := hA it hit f (k + 1) A hc (Nat.le_refl _)
    have hp := k5 it' hm f' j' hc' hs m' hM' fun it2 hm2 f2 q2 A2 hc2 hq2 => hA it2 hm2 f2 q2 A2 hc2 (by omega)
    exact (hP j' m' (ds.rs1 it' hm f' j' hc').1 hjA hp).later k2.base he
  · have hne : it'.i ≠ it.i := fun e => by have := ds.same hm hit e; subst this; rw [hc] at hc'; cases hc'
    rw [S.put_ne hne] at hs
    exact hnone _ (ds.rs1 it' hm f' j' hc').1 (h.res it' hm f' j' hc' hs)

end

end Go.Proofs.YtmbnogellhoheaaGreatDoor.Ev

/- Drawn regions: the run in the order of the text serves every order. -/
namespace Go.Proofs.YtmbnogellhoheaaGreatDoor.Ev
open Go
variable {ρ : Rho}

/-! ### loads looked at again, behind each effect that they aren't ordered with -/
noncomputable def chkK (f : List V → TS → TB → Option V) (v : V) (Li : List V) (T : TS) (Hs : List (Pos × TB)) (ks : List Nat) : Bool :=
  List.rec (motive := fun _ => Bool) true (fun k _ ih => cond (Option.casesOn (motive := fun _ => Bool) (Hs[k]?) false fun h => Option.casesOn (motive := fun _ => Bool) (f Li T h.2) false fun m => veq m v) ih false) ks
noncomputable def chkI (N : Nat) (it : It) (L : List V) (T : TS) (Hs : List (Pos × TB)) : Bool := match it.c with
  | .ld f _ ks => match it.g with
    | none => chkK f (it.d.x N L T) (dropL (N - it.n) L) T Hs ks
    | some (d, w) => Option.casesOn (motive := fun _ => Bool) (gwant (d.x N L T) w) false fun b => cond b (chkK f (it.d.x N L T) (dropL (N - it.n) L) T Hs ks) true
  | _ => true
noncomputable def chks (N : Nat) (L : List V) (T : TS) (Hs : List (Pos × TB)) (cl : List It) : Bool := List.rec (motive := fun _ => Bool) true (fun it _ ih => cond (chkI N it L T Hs) ih false) cl
theorem chkK_spec {f : List V → TS → TB → Option V} {v : V} {Li : List V} {T : TS} {Hs : List (Pos × TB)} : ∀ {ks : List Nat}, chkK f v Li T Hs ks = true → ∀ k ∈ ks, ∃ h, Hs[k]? = some h ∧ f Li T h.2 = some v
  | [], _, k, hk => by cases hk
  | k0 :: ks, h, k, hk => by
    obtain ⟨h1, h2⟩ := cond_true' (c := Option.casesOn (motive := fun _ => Bool) (Hs[k0]?) false fun h => Option.casesOn (motive := fun _ => Bool) (f Li T h.2) false fun m => veq m v) (x := chkK f v Li T Hs ks) h
    cases hk with
    | tail _ hk => exact chkK_spec h2 k hk
    | head =>
      cases hh : Hs[k0]? with
      | none => rw [hh] at h1; cases h1
      | some hv =>
        rw [hh] at h1
        refine ⟨hv, rfl, ?_⟩
        cases hf : f Li T hv.2 with
        | none => simp only [hf] at h1; cases h1
        | some m =>
          simp only [hf] at h1
          rw [veq_eq h1]
theorem chks_spec {N : Nat} {L : List V} {T : TS} {Hs : List (Pos × TB)} : ∀ {cl : List It}, chks N L T Hs cl = true → ∀ it ∈ cl, chkI N it L T Hs = true
  | [], _, it, hk => by cases hk
  | i0 :: cl, h, it, hk => by
    obtain ⟨h1, h2⟩ := cond_true' (c := chkI N i0 L T Hs) (x := chks N L T Hs cl) h
    cases hk with
    | head => exact h1
    | tail _ hk => exact chks_spec h2 it hk
theorem chkI_spec {it : It} {T : TS} {Z : Fin} (h : chkI Z.L.length it Z.L T Z.H = true) (hon : it.On T Z) {f : List V → TS → TB → Option V} {k0 : Nat} {ks : List Nat} (hc : it.c = .ld f k0 ks) : ∀ k ∈ ks, ∃ h, Z.H[k]? = some h ∧ f (it.Li Z) T h.2 = some (it.val Z T) := by
  unfold chkI at h
  rw [hc] at h
  simp only at h
  unfold It.On at hon
  have key : chkK f (it.d.x Z.L.length Z.L T) (dropL (Z.L.length - it.n) Z.L) T Z.H ks = true → ∀ k ∈ ks, ∃ h, Z.H[k]? = some h ∧ f (it.Li Z) T h.2 = some (it.val Z T) := fun h => by
    have := chkK_spec h
    rw [dropL_eq] at this
    exact this
  cases hg : it.g with
  | none => rw [hg] at h; exact key h
  | some gw =>
    obtain ⟨d, w⟩ := gw
    rw [hg] at h hon
    simp only at h hon
    rw [hon] at h
    exact key h

noncomputable def finD (N : Nat) (cl : List It) (Ae : List Nat) : DB := .mk fun _ T z L nx bs Hs Ms => cond (chks N L T Hs cl) (.mk L nx (absorb Ae z Ms bs)) .fail
noncomputable def dregK (its : List It) (N : Nat) (cl : List It) (Ae : List Nat) (Rn : Nat) : SB := .mk fun F _ T nx bs => (runIs its (finD N cl Ae)).run F T nx [] (incs Rn nx) bs [(incs Rn nx, bs)] []
theorem nums_le : ∀ (its : List It) (n q r n' q' r' : Nat), nums its n q r = some (n', q', r') → n ≤ n' ∧ ∀ it ∈ its, it.n ≤ n'
  | [], n, q, r, n', q', r', h => by injection h with h; injection h with e1 h; subst e1; exact ⟨Nat.le_refl _, fun it h => absurd h (by simp)⟩
  | it :: its, n, q, r, n', q', r', h => by
    unfold nums at h
    split at h
    case isFalse => cases h
    rename_i hnum
    obtain ⟨h1, h2⟩ := nums_le its _ _ _ _ _ _ h
    unfold It.num at hnum
    rw [Bool.and_eq_true, Bool.and_eq_true] at hnum
    have hn := Nat.eq_of_beq_eq_true hnum.1.1
    refine ⟨by omega, fun it' hm => ?_⟩
    cases hm with
    | head => omega
    | tail _ hm => exact h2 it' hm

section
variable {P : Program} {G : Ctx} {N : Nat} {ops : Array Oper} {its : List It} {Qn Rn : Nat} {Ae : List Nat} {T : TS} {z : Pos} {Z : Fin} {ρ0 : Rho} {bs0 : TB} {w0 : World} {F : CallF}
def DInv (G : Ctx) (N : Nat) (its : List It) (T : TS) (z : Pos) (Z : Fin) (Rn : Nat) (ρ0 : Rho) (bs0 : TB) (w0 : World) (S : Done) (a : Act) (w : World) : Prop := ∃ ρ k, TM G N its T Z S ρ a ∧ HPI its z Z Rn ρ0 bs0 w0 S ρ k w
theorem VR_u (ρ : Rho) (y : Value) : VR ρ .u y := by simp [VR]
theorem dstep (ds : DS P G N ops its Qn Rn Ae) (hF : CallSnd P G F) (hfact : ∀ it ∈ its, it.Fact F T z Z) (hn : ∀ it ∈ its, it.n ≤ Z.L.length) (hH : Z.H.length = Qn + 1)
    (hchk : ∀ it ∈ its, it.On T Z → ∀ f k0 ks, it.c = .ld f k0 ks → ∀ k ∈ ks, ∃ h, Z.H[k]? = some h ∧ f (it.Li Z) T h.2 = some (it.val Z T)) {Q : Exit → Act → World → Prop}
    {S : Done} {i : Nat} {o : Oper} {a : Act} {w : World} {K : Act → World → Prop} (hI : DInv G N its T z Z Rn ρ0 bs0 w0 S a w) (ho : ops[i]? = some o) (hS : S i = false) (hed : ∀ e ∈ o.after, Region.binds .any e = true → S e.on = true)
    (hK : ∀ a' w', DInv G N its T z Z Rn ρ0 bs0 w0 (S.put i) a' w' → K a' w') : wpOp P ops Q i K a w := by
  obtain ⟨ρ, k, tm, hp⟩ := hI
  obtain ⟨it, hit, rfl, rfl⟩ := ds.find ho
  have hanc : ∀ j, it.anc.testBit j = true → S j = true := fun j hj => by
    obtain ⟨e, he, hb, h⟩ := ds.anc it hit j hj
    have hs := hed e he hb
    rcases h with rfl | ⟨it', hm, e1, hj'⟩
    · exact hs
    · rw [← e1] at hs; exact tm.closed it' hm hs j hj'
  obtain ⟨her, hlen⟩ := tm.er ds hit hS hanc (hn it hit)
  have hsuf : it.Li Z <:+ Z.L := List.drop_suffix _ _
  have hok := ds.ok it hit
  have hgt : ∀ d w, it.g = some (d, w) → ∀ b, gwant (d.x Z.L.length Z.L T) w = some b → Region.wanted it.o (yielded ops a.tmps) = b := fun d w hg b hb => by
    obtain ⟨j, t, it', h1, h2, h3, h4, h5, h6⟩ := ds.gd it hit d w hg
    have hv := tm.tm it' h3 (hanc _ h5) t h4
    unfold It.val at hv
    rw [h6] at hv
    exact wanted_of h1 h2 hv hb
  have skip : it.Skp T z Z → K (a.put it.o.dst undef) w := fun hs => by
    unfold It.Skp at hs
    unfold It.OK at hok
    cases hc : it.c with
    | al => rw [hc] at hs; exact hs.elim
    | pu f =>
      rw [hc] at hs
      exact hK _ _ ⟨ρ, k, tm.put ds hit hanc (Rho.le_refl ρ) (by rw [hs]; exact VR_skip ρ), hp.same ds hit (by rw [hc]; intros; simp) (by rw [hc]; intro f j h; cases h)⟩
    | ld f k0 ks =>
      rw [hc] at hs
      exact hK _ _ ⟨ρ, k, tm.put ds hit hanc (Rho.le_refl ρ) (by rw [hs]; exact VR_skip ρ), hp.same ds hit (by rw [hc]; intros; simp) (by rw [hc]; intro f j h; cases h)⟩
    | rs f j =>
      rw [hc] at hs
      obtain ⟨h1, h2⟩ := hs
      exact hK _ _ ⟨ρ, k, tm.put ds hit hanc (Rho.le_refl ρ) (by rw [h1]; exact VR_skip ρ), hp.same ds hit (by rw [hc]; intros; simp) (by rw [hc]; intro f j' h; injection h with _ e; rw [← e]; exact h2)⟩
    | ef f q A =>
      rw [hc] at hs
      obtain ⟨h1, h, h2, h3⟩ := hs
      have hq := hp.next ds hit hS hanc hc
      subst hq
      obtain ⟨-, -, g1, -, g2⟩ := ds.ef2 it hit f _ A hc
      have hA : ∀ j ∈ A, j < Rn ∧ (∀ it' ∈ its, ∀ f' q' A', it'.c = .ef f' q' A' → q' ≤ k → j ∉ A') ∧ ∃ it' ∈ its, ∃ f', it'.c = .rs f' j ∧ S it'.i = true := fun j hj => by
        obtain ⟨-, g3, it', hm, f', hc', hb⟩ := g2 j hj
        refine ⟨g3, fun it2 hm2 f2 q2 A2 hc2 hq2 => (ds.ef1 it hit it2 hm2 f _ A f2 q2 A2 hc hc2).2.2 (fun e => ?_) j hj, it', hm, f', hc', hanc _ hb⟩
        have := ds.same hit hm2 e; subst this
        rw [hc] at hc2; injection hc2 with _ e2; omega
      have h2 : Z.H[k]? = some h := h2
      obtain ⟨t1, t2, t3⟩ := hp.take ds h2 g1 hA
      exact hK _ _ ⟨ρ, k + 1, tm.put ds hit hanc (Rho.le_refl ρ) (by rw [h1]; exact VR_skip ρ), hp.eff ds hit hc h2 h3 t2 t3 t1 (Ext.refl ..)⟩
  have main : it.On T Z → it.Act F T z Z → it.o.wp P a w K Q := fun hon hact => by
    unfold It.Act at hact
    unfold It.OK at hok
    cases hc : it.c with
    | al =>
      rw [hc] at hok
      obtain ⟨-, x, hmv, hxd⟩ := hok
      have hex : execOp a.eval it.o = pure (Next.value (a.eval x)) := by
        unfold execOp
        cases ho : it.o.op <;> rw [ho] at hmv <;> simp only [isMove] at hmv <;> first | (injection hmv with hmv; subst hmv; rfl) | cases hmv
      have hth : Thru P it.o a w (a.eval x) w := .inl (by rw [hex]; rfl)
      obtain ⟨hdok, hv⟩ := cxD_snd her hxd
      refine hth.wp (hK _ _ ⟨ρ, k, tm.put ds hit hanc (Rho.le_refl ρ) ?_, hp.same ds hit (by rw [hc]; intros; simp) (by rw [hc]; intro f j h; cases h)⟩)
      unfold It.val
      rw [D.x_suffix hsuf hdok]; exact hv
    | pu f =>
      rw [hc] at hok hact
      obtain ⟨y, h1, h2⟩ := hok ρ (it.Li Z) T a _ w hlen her hact
      exact h1.wp (hK _ _ ⟨ρ, k, tm.put ds hit hanc (Rho.le_refl ρ) h2, hp.same ds hit (by rw [hc]; intros; simp) (by rw [hc]; intro f j h; cases h)⟩)
    | ld f k0 ks =>
      rw [hc] at hok hact
      obtain ⟨h, k1, k2, k3, k4, k5⟩ := hp.hk
      have hkq : k ≤ Qn := by
        rcases Nat.lt_or_ge k Z.H.length with hh | hh
        · omega
        · rw [List.getElem?_eq_none hh] at k1; cases k1
      have hval : f (it.Li Z) T h.2 = some (it.val Z T) := by
        rcases ds.ld it hit f k0 ks hc k hkq (fun it' hm f' q' A' hc' hb => (hp.efs it' hm f' q' A' hc').1 (hanc _ hb)) (fun it' hm f' q' A' hc' hb => by
          rcases Nat.lt_or_ge k q' with hl | hl
          · exact hl
          · have := tm.closed it' hm ((hp.efs it' hm f' q' A' hc').2 hl) _ hb
            rw [hS] at this; cases this) with e | hks
        · subst e
          obtain ⟨h', e1, e2⟩ := hact
          rw [k1] at e1; injection e1 with e1; subst e1; exact e2
        · obtain ⟨h', e1, e2⟩ := hchk it hit hon f k0 ks hc k hks
          rw [k1] at e1; injection e1 with e1; subst e1; exact e2
      obtain ⟨y, h1, h2⟩ := hok ρ (it.Li Z) T a h.1 h.2 _ w hlen her k2 hval
      exact h1.wp (hK _ _ ⟨ρ, k, tm.put ds hit hanc (Rho.le_refl ρ) h2, hp.same ds hit (by rw [hc]; intros; simp) (by rw [hc]; intro f j h; cases h)⟩)
    | rs f j =>
      rw [hc] at hok hact
      obtain ⟨m, h1, h2, h3⟩ := hact
      obtain ⟨res, g1, g2⟩ := hok ρ (it.Li Z) T a m w hlen her h1
      obtain ⟨y, w', ρ', e1, e2, e3, e4⟩ := hp.new ds hit hS hc h2 g1
      exact (g2 y w' e1).wp (hK _ _ ⟨ρ', k, tm.put ds hit hanc e2 (by rw [h3]; exact e3), e4⟩)
    | ef f q A =>
      rw [hc] at hok hact
      obtain ⟨h, h', h2, h3, h4⟩ := hact
      have hq := hp.next ds hit hS hanc hc
      subst hq
      obtain ⟨-, -, g1, -, g2⟩ := ds.ef2 it hit f _ A hc
      have hA : ∀ j ∈ A, j < Rn ∧ (∀ it' ∈ its, ∀ f' q' A', it'.c = .ef f' q' A' → q' ≤ k → j ∉ A') ∧ ∃ it' ∈ its, ∃ f', it'.c = .rs f' j ∧ S it'.i = true := fun j hj => by
        obtain ⟨-, g3, it', hm, f', hc', hb⟩ := g2 j hj
        refine ⟨g3, fun it2 hm2 f2 q2 A2 hc2 hq2 => (ds.ef1 it hit it2 hm2 f _ A f2 q2 A2 hc hc2).2.2 (fun e => ?_) j hj, it', hm, f', hc', hanc _ hb⟩
        have := ds.same hit hm2 e; subst this
        rw [hc] at hc2; injection hc2 with _ e2; omega
      have h2 : Z.H[k]? = some h := h2
      obtain ⟨t1, t2, t3⟩ := hp.take ds h2 g1 hA
      have hF' : CallSnd P (it.G G) F := hF.cast rfl rfl
      exact hok F hF' ρ (it.Li Z) T a h.1 h'.1 _ h'.2 _ w hlen her t1 h4 K Q fun ρ' y w' e1 e2 e3 => hK _ _ ⟨ρ', k + 1, tm.put ds hit hanc e3.le e1, hp.eff ds hit hc h2 h3 t2 t3 e2 e3⟩
  have hf := hfact it hit
  unfold wpOp
  simp only [ho]
  unfold It.Fact at hf
  cases hg : it.g with
  | none =>
    rw [hg] at hf
    rw [if_pos (wanted_none (ds.gn it hit hg) _)]
    exact .inl (main (by unfold It.On; rw [hg]; trivial) hf)
  | some gw =>
    obtain ⟨d, wn⟩ := gw
    rw [hg] at hf
    obtain ⟨b, hb, h1, h2⟩ := hf
    rw [hgt d wn hg b hb]
    cases b with
    | true =>
      rw [if_pos rfl]
      exact .inl (main (by unfold It.On; rw [hg]; exact hb) (h1 rfl))
    | false =>
      rw [if_neg (by simp)]
      exact skip (h2 rfl)

/-- What the temporaries are behind it. -/
def envOf : List It → Env
  | [] => []
  | it :: its => match it.o.dst with
    | some t => (t, it.d) :: envOf its
    | none => envOf its
theorem envOf_some {t : Tmp} {d : D} : ∀ {its : List It}, (envOf its).look t = some d → ∃ it ∈ its, it.o.dst = some t ∧ it.d = d
  | [], h => by cases h
  | it :: its, h => by
    unfold envOf at h
    cases hd : it.o.dst with
    | none => rw [hd] at h; obtain ⟨it', h1, h2⟩ := envOf_some h; exact ⟨it', List.mem_cons_of_mem _ h1, h2⟩
    | some u =>
      rw [hd] at h
      simp only [Env.look] at h
      split at h
      · rename_i e
        injection h with h
        exact ⟨it, List.mem_cons_self, by rw [hd, e], h⟩
      · obtain ⟨it', h1, h2⟩ := envOf_some h; exact ⟨it', List.mem_cons_of_mem _ h1, h2⟩
theorem envOf_none {t : Tmp} : ∀ {its : List It}, (envOf its).look t = none → ∀ it ∈ its, it.o.dst ≠ some t
  | [], _, it, h => by cases h
  | it0 :: its, h, it, hm => by
    unfold envOf at h
    cases hd : it0.o.dst with
    | none =>
      rw [hd] at h
      cases hm with
      | head => rw [hd]; simp
      | tail _ hm => exact envOf_none h it hm
    | some u =>
      rw [hd] at h
      simp only [Env.look] at h
      split at h
      · cases h
      · rename_i e
        cases hm with
        | head => rw [hd]; intro h'; injection h' with h'; exact e h'
        | tail _ hm => exact envOf_none h it hm

theorem dreg_snd (hmix : P.follows .mixedOrders = true) (ds : DS P G N ops its Qn Rn Ae) {n : Nat} (hnum : nums its 0 0 0 = some (n, Qn, Rn)) (hN : ∀ it ∈ its, it.d.ok n = true) {cl : List It} (hcl : ∀ it ∈ its, ∀ f k0 ks, it.c = .ld f k0 ks → ks ≠ [] → it ∈ cl) (id : Nat) :
    RegS P G N (.region id ops true) (envOf its) n (dregK its n cl Ae Rn) := by
  intro F hF ρ T a nx nx' bs bs' w L' hs hk Q hq
  have hk : (runIs its (finD n cl Ae)).run F T nx [] (incs Rn nx) bs [(incs Rn nx, bs)] [] = .mk L' nx' bs' := hk
  obtain ⟨Z, -, z2, -, hfact, zL, zH, zM, h, hh, hfin⟩ := runIs_fact (finD n cl Ae) F T nx its 0 0 0 n Qn Rn hnum [] (incs Rn nx) bs [(incs Rn nx, bs)] [] L' nx' bs' rfl rfl rfl rfl hk
  have hfin : cond (chks n Z.L T Z.H cl) (.mk Z.L h.1 (absorb Ae nx Z.M h.2)) .fail = RE.mk L' nx' bs' := hfin
  cases hck : chks n Z.L T Z.H cl with
  | false => rw [hck] at hfin; cases hfin
  | true =>
    rw [hck, cond_true] at hfin
    injection hfin with e1 e2 e3
    subst e1; subst e2; subst e3
    have hchk : ∀ it ∈ its, it.On T Z → ∀ f k0 ks, it.c = .ld f k0 ks → ∀ k ∈ ks, ∃ h, Z.H[k]? = some h ∧ f (it.Li Z) T h.2 = some (it.val Z T) := fun it hit hon f k0 ks hc k hkm => by
      have hm := hcl it hit f k0 ks hc (fun e => by subst e; cases hkm)
      have := chks_spec hck it hm
      rw [← zL] at this
      exact chkI_spec this hon hc k hkm
    have hH0 : Z.H[0]? = some (incs Rn nx, bs) := by
      obtain ⟨t, ht⟩ := z2
      rw [← ht]; rfl
    have hfresh : ∀ id : Pos, (incs Rn nx).val ≤ id.val → nx.val ≤ id.val := fun id hid => by rw [incs_val] at hid; omega
    refine wp_drawn hmix (DInv G N its T nx Z Rn ρ bs w) (fun i o ho e he hb => ?_) (fun S i o a w K hI ho hS hed hK => dstep ds hF hfact (fun it hit => by rw [zL]; exact (nums_le its 0 0 0 n Qn Rn hnum).2 it hit) zH hchk hI ho hS hed hK) (fun S a' w' hall hI => ?_) ?_
    · obtain ⟨it, hit, rfl, rfl⟩ := ds.find ho
      exact ds.edge it hit e he hb
    · obtain ⟨ρ', k, tm, hp⟩ := hI
      have hSall : ∀ it ∈ its, S it.i = true := fun it hit => by
        obtain ⟨m, hm⟩ := List.getElem?_of_mem hit
        have hlt : m < its.length := by
          rcases Nat.lt_or_ge m its.length with h | h
          · exact h
          · rw [List.getElem?_eq_none h] at hm; cases hm
        rw [(ds.idx m it hm).1]
        exact hall m (by rw [← ds.len]; exact hlt)
      have hkQ : k = Qn := by
        obtain ⟨h', k1, -⟩ := hp.hk
        have h1 : k < Z.H.length := by
          rcases Nat.lt_or_ge k Z.H.length with hh | hh
          · exact hh
          · rw [List.getElem?_eq_none hh] at k1; cases k1
        by_cases hq0 : Qn = 0
        · omega
        · obtain ⟨it, hit, f, A, hc⟩ := ds.ef3 hq0
          have := (hp.efs it hit f Qn A hc).1 (hSall it hit)
          omega
      subst hkQ
      obtain ⟨t1, t2, -⟩ := hp.take ds hh ds.ae.1 fun j hj => by
        obtain ⟨h1, it', hm, f', hc'⟩ := ds.ae.2 j hj
        exact ⟨h1, fun it2 hm2 f2 q2 A2 hc2 _ hj2 => ((ds.ef2 it2 hm2 f2 q2 A2 hc2).2.2.2.2 j hj2).1 hj, it', hm, f', hc', hSall it' hm⟩
      refine hq ρ' a' w' ⟨zL, ⟨fun t d hl => ?_, fun t hl hkp => ?_, tm.gr⟩, t1, tm.size, tm.defers⟩ t2
      · obtain ⟨it, hit, hd, rfl⟩ := envOf_some hl
        exact ⟨by rw [zL]; exact hN it hit, tm.tm it hit (hSall it hit) t hd⟩
      · exact tm.sl t hkp fun it hit hd => absurd hd (envOf_none hl it hit)
    · refine ⟨ρ, 0, ⟨fun it _ h => (by cases h), fun it _ h => (by cases h), fun t hkp _ => hs.er.slot t rfl hkp, hs.er.glob, hs.size, hs.defers⟩, ⟨fun it hit f q A hc => ⟨fun h => (by cases h), fun h => ?_⟩, ⟨_, hH0, ?_, ?_, by rw [incs_val]; exact Nat.le_refl _, fun it _ f j _ h => (by cases h)⟩, fun it hit f j hc _ => ?_, fun j j' q q' hj _ hq1 => ?_⟩⟩
      · have := (ds.ef2 it hit f q A hc).1; omega
      · have h0 : HR ρ (incs Rn nx) bs w := ⟨⟨hs.hr.live, hs.hr.apart, fun id hid => hs.hr.fresh id (hfresh id hid), hs.hr.inside⟩, by have := hs.hr.base; rw [incs_val]; omega, hs.hr.fix⟩
        exact h0.congr rfl
      · exact ⟨Rho.le_refl ρ, Nat.le_refl _, fun _ _ _ => rfl, fun _ _ h => h, by show nx.val ≤ (incs Rn nx).val; rw [incs_val]; omega, fun _ _ h => h, Evn.refl w, fun _ _ _ => rfl⟩
      · exact (hs.hr.fresh _ (by rw [incs_val]; omega)).1
      · rw [(hs.hr.fresh (incs j nx) (by rw [incs_val]; omega)).1] at hq1; cases hq1
end

end Go.Proofs.YtmbnogellhoheaaGreatDoor.Ev

/- Drawn regions compiled. -/
namespace Go.Proofs.YtmbnogellhoheaaGreatDoor.Ev
open Go
variable {ρ : Rho}

def tbit (m i : Nat) : Bool := Nat.beq (Nat.land (Nat.shiftRight m i) 1) 1
theorem tbit_eq (m i : Nat) : tbit m i = m.testBit i := by
  unfold tbit Nat.testBit
  have e : Nat.land (Nat.shiftRight m i) 1 = 1 &&& (m >>> i) := Nat.and_comm _ _
  rw [e]
  have h : 1 &&& (m >>> i) = 0 ∨ 1 &&& (m >>> i) = 1 := by
    rw [Nat.one_and_eq_mod_two]; omega
  rcases h with h | h <;> rw [h] <;> rfl
/-! ### lists walked by their recursor -/
noncomputable def an (a b : Bool) : Bool := Bool.rec (motive := fun _ => Bool) false b a
noncomputable def eor (a b : Bool) : Bool := Bool.rec (motive := fun _ => Bool) b true a
noncomputable def no (a : Bool) : Bool := Bool.rec (motive := fun _ => Bool) true false a
theorem an_eq (a b : Bool) : an a b = (a && b) := by cases a <;> rfl
theorem eor_eq (a b : Bool) : eor a b = (a || b) := by cases a <;> rfl
theorem no_eq (a : Bool) : no a = !a := by cases a <;> rfl
variable {α β : Type}
noncomputable def allR (p : α → Bool) (l : List α) : Bool := List.rec (motive := fun _ => Bool) true (fun a _ ih => Bool.rec (motive := fun _ => Bool) false ih (p a)) l
noncomputable def anyR (p : α → Bool) (l : List α) : Bool := List.rec (motive := fun _ => Bool) false (fun a _ ih => Bool.rec (motive := fun _ => Bool) ih true (p a)) l
noncomputable def findR (p : α → Bool) (l : List α) : Option α := List.rec (motive := fun _ => Option α) none (fun a _ ih => Bool.rec (motive := fun _ => Option α) ih (some a) (p a)) l
noncomputable def filR (p : α → Bool) (l : List α) : List α := List.rec (motive := fun _ => List α) [] (fun a _ ih => Bool.rec (motive := fun _ => List α) ih (a :: ih) (p a)) l
noncomputable def mapR (f : α → β) (l : List α) : List β := List.rec (motive := fun _ => List β) [] (fun a _ ih => f a :: ih) l
noncomputable def snocR (l : List α) (x : α) : List α := List.rec (motive := fun _ => List α) [x] (fun a _ ih => a :: ih) l
noncomputable def nthR (l : List α) (i : Nat) : Option α := List.rec (motive := fun _ => Nat → Option α) (fun _ => none) (fun a _ ih i => Bool.rec (motive := fun _ => Option α) (ih (Nat.sub i 1)) (some a) (Nat.beq i 0)) l i
theorem allR_eq (p : α → Bool) : ∀ l, allR p l = l.all p
  | [] => rfl
  | a :: l => by
    show Bool.rec (motive := fun _ => Bool) false (allR p l) (p a) = _
    rw [allR_eq p l, List.all_cons]; cases p a <;> rfl
theorem anyR_eq (p : α → Bool) : ∀ l, anyR p l = l.any p
  | [] => rfl
  | a :: l => by
    show Bool.rec (motive := fun _ => Bool) (anyR p l) true (p a) = _
    rw [anyR_eq p l, List.any_cons]; cases p a <;> rfl
theorem findR_eq (p : α → Bool) : ∀ l, findR p l = l.find? p
  | [] => rfl
  | a :: l => by
    show Bool.rec (motive := fun _ => Option α) (findR p l) (some a) (p a) = _
    rw [findR_eq p l, List.find?_cons]; cases p a <;> rfl
theorem filR_eq (p : α → Bool) : ∀ l, filR p l = l.filter p
  | [] => rfl
  | a :: l => by
    show Bool.rec (motive := fun _ => List α) (filR p l) (a :: filR p l) (p a) = _
    rw [filR_eq p l, List.filter_cons]; cases p a <;> rfl
theorem mapR_eq (f : α → β) : ∀ l, mapR f l = l.map f
  | [] => rfl
  | a :: l => by
    show f a :: mapR f l = _
    rw [mapR_eq f l]; rfl
theorem snocR_eq (x : α) : ∀ l : List α, snocR l x = l ++ [x]
  | [] => rfl
  | a :: l => by
    show a :: snocR l x = _
    rw [snocR_eq x l]; rfl
theorem nthR_eq : ∀ (l : List α) (i : Nat), nthR l i = l[i]?
  | [], i => rfl
  | a :: l, 0 => rfl
  | a :: l, i + 1 => by
    show nthR l (i + 1 - 1) = _
    rw [nthR_eq l]; rfl

/-! ### what is ahead of an operation; which effects it isn't ordered with -/
noncomputable def ancE (as : List Nat) (e : Edge) : Nat := Bool.rec (motive := fun _ => Nat) 0 (Nat.lor (Nat.pow 2 e.on) (Option.rec (motive := fun _ => Nat) 0 (fun a => a) (nthR as e.on))) (Region.binds .any e)
noncomputable def ancP (as : List Nat) (e : Edge) (s : Nat) : Nat := Bool.rec (motive := fun _ => Nat) (Nat.lor (ancE as e) s) s (tbit s e.on)
noncomputable def ancO (as : List Nat) (es : List Edge) : Nat := List.rec (motive := fun _ => Nat) 0 (fun e _ ih => ancP as e ih) es
noncomputable def ancs (os : List Oper) (as : List Nat) : List Nat := List.rec (motive := fun _ => List Nat → List Nat) (fun as => as) (fun o _ ih as => ih (snocR as (ancO as o.after.toList))) os as
theorem ancO_spec {as : List Nat} {j : Nat} : ∀ {es : List Edge}, (ancO as es).testBit j = true → ∃ e ∈ es, Region.binds .any e = true ∧ (e.on = j ∨ ∃ a, as[e.on]? = some a ∧ a.testBit j = true)
  | [], h => by
    have h : (0 : Nat).testBit j = true := h
    simp at h
  | e :: es, h => by
    have h : (ancE as e).testBit j = true ∨ (ancO as es).testBit j = true := by
      have h : (ancP as e (ancO as es)).testBit j = true := h
      unfold ancP at h
      cases hb : tbit (ancO as es) e.on with
      | true => rw [hb] at h; exact .inr h
      | false =>
        rw [hb] at h
        have h : (ancE as e ||| ancO as es).testBit j = true := h
        rwa [Nat.testBit_or, Bool.or_eq_true] at h
    rcases h with h | h
    · unfold ancE at h
      cases hb : Region.binds .any e with
      | false =>
        rw [hb] at h
        have h : (0 : Nat).testBit j = true := h
        simp at h
      | true =>
        rw [hb, nthR_eq] at h
        have h : (2 ^ e.on ||| (Option.rec (motive := fun _ => Nat) 0 (fun a => a) as[e.on]?)).testBit j = true := h
        rw [Nat.testBit_or, Bool.or_eq_true, Nat.testBit_two_pow] at h
        refine ⟨e, List.mem_cons_self, hb, ?_⟩
        rcases h with h | h
        · exact .inl (of_decide_eq_true h)
        · cases ha : as[e.on]? with
          | none =>
            rw [ha] at h
            have h : (0 : Nat).testBit j = true := h
            simp at h
          | some a => rw [ha] at h; exact .inr ⟨a, rfl, h⟩
    · obtain ⟨e', h1, h2⟩ := ancO_spec h
      exact ⟨e', List.mem_cons_of_mem _ h1, h2⟩
def isEff (XT : Nat → Option XK) : Op → Bool
  | .store _ _ _ => true
  | .call c => match c.callee with
    | .builtin .append | .builtin .copy | .builtin .unsafeString => true
    | .value (.func f) => match XT f with | some _ => false | none => true
    | .value _ => true
    | _ => false
  | _ => false
/-- Effects: the place, what is ahead, the number. -/
noncomputable def effs (XT : Nat → Option XK) (os : List Oper) (as : List Nat) : List (Nat × Nat × Nat) :=
  List.rec (motive := fun _ => List Nat → Nat → Nat → List (Nat × Nat × Nat)) (fun _ _ _ => []) (fun o _ ih as i q => Bool.rec (motive := fun _ => List (Nat × Nat × Nat)) (ih as.tail (Nat.add i 1) q) ((i, as.headD 0, Nat.add q 1) :: ih as.tail (Nat.add i 1) (Nat.add q 1)) (isEff XT o.op)) os as 0 0
noncomputable def maxB (a b : Nat) : Nat := Bool.rec (motive := fun _ => Nat) a b (Nat.ble a b)
noncomputable def minB (a b : Nat) : Nat := Bool.rec (motive := fun _ => Nat) b a (Nat.ble a b)
noncomputable def upR (lo n k0 : Nat) : List Nat := Nat.rec (motive := fun _ => List Nat) [] (fun j ih => Bool.rec (motive := fun _ => List Nat) (Nat.add lo j :: ih) ih (Nat.beq (Nat.add lo j) k0)) n
/-- Further versions at which a load is looked at. -/
noncomputable def ksOf (a : Nat) (es : List (Nat × Nat × Nat)) (i k0 : Nat) : List Nat :=
  let lo := List.rec (motive := fun _ => Nat) 0 (fun p _ ih => Bool.rec (motive := fun _ => Nat) ih (maxB p.2.2 ih) (tbit a p.1)) es
  let hi := List.rec (motive := fun _ => Nat) (Nat.add es.length 1) (fun p _ ih => Bool.rec (motive := fun _ => Nat) ih (minB p.2.2 ih) (tbit p.2.1 i)) es
  upR lo (Nat.sub hi lo) k0
def efOf (it : It) : Option (Nat × List Nat) := match it.c with | .ef _ q A => some (q, A) | _ => none
def rsOf (it : It) : Option Nat := match it.c with | .rs _ j => some j | _ => none
def ldOf (it : It) : Option (Nat × List Nat) := match it.c with | .ld _ k0 ks => some (k0, ks) | _ => none
noncomputable def memB (j : Nat) (A : List Nat) : Bool := anyR (Nat.beq j) A
noncomputable def taken (prev : List It) (j : Nat) : Bool := anyR (fun it => match efOf it with | some (_, A) => memB j A | none => false) prev
/-- The new blocks that an effect finds live: those ahead of it that nobody took. -/
noncomputable def takes (prev : List It) (anc : Nat) : List Nat := List.rec (motive := fun _ => List Nat) [] (fun it _ ih => match rsOf it with | some j => Bool.rec (motive := fun _ => List Nat) ih (j :: ih) (an (tbit anc it.i) (no (taken prev j))) | none => ih) prev
noncomputable def lasts (its : List It) : List Nat := List.rec (motive := fun _ => List Nat) [] (fun it _ ih => match rsOf it with | some j => Bool.rec (motive := fun _ => List Nat) (j :: ih) ih (taken its j) | none => ih) its

def tmpsOf : List Operand → List Tmp
  | [] => []
  | .tmp t :: xs => t :: tmpsOf xs
  | _ :: xs => tmpsOf xs
def dstB (t : Tmp) (it : It) : Bool := match it.o.dst with | some u => Nat.beq u t | none => false
noncomputable def writer (prev : List It) (anc : Nat) (t : Tmp) : Option It := findR (fun it => an (dstB t it) (tbit anc it.i)) prev
noncomputable def envI (prev : List It) (anc : Nat) : List Tmp → Env
  | [] => []
  | t :: ts => match writer prev anc t with
    | some it => (t, it.d) :: envI prev anc ts
    | none => envI prev anc ts
noncomputable def slI (prev : List It) (anc : Nat) (ts : List Tmp) : List Tmp := filR (fun t => match writer prev anc t with | some _ => false | none => true) ts
noncomputable def guardI (prev : List It) (anc : Nat) (o : Oper) : Option (Option (D × Bool)) := match o.guard with
  | none => some none
  | some (j, w) => match findR (fun it => an (Nat.beq it.i j) (tbit anc it.i)) prev with
    | some it => match it.o.dst with
      | some _ => some (some (it.d, w))
      | none => none
    | none => none
noncomputable def edgeB (i : Nat) (es : List Edge) : Bool := allR (fun e => eor (no (Region.binds .any e)) (Nat.ble (Nat.add e.on 1) i)) es
noncomputable def kindI (Y : TI) (XT : Nat → Option XK) (G : Ctx) (E : Env) (n q r : Nat) (o : Op) (ks : List Nat) (A : List Nat) (al : Option D) : Option (D × KC) := match al with
  | some d => some (d, .al)
  | none => match cop Y XT G E n o with
    | .pu f => some (.l n, .pu f)
    | .ld f => some (.l n, .ld f q ks)
    | .al f => some (.l n, .rs f r)
    | .ef f => some (.l n, .ef f (q + 1) A)
noncomputable def mkIt (Y : TI) (XT : Nat → Option XK) (G : Ctx) (es : List (Nat × Nat × Nat)) (prev : List It) (i n q r : Nat) (o : Oper) : Option It :=
  let anc := ancO (mapR (fun it => it.anc) prev) o.after.toList
  let ts := tmpsOf o.op.operands.toList
  let E := envI prev anc ts
  let sl := slI prev anc ts
  let G' : Ctx := ⟨fun t => an (memB t sl) (G.kept t), G.glob, G.at_, G.tab⟩
  match edgeB i o.after.toList with
  | true => match guardI prev anc o with
    | none => none
    | some g => match kindI Y XT G' E n q r o.op (ksOf anc es i q) (takes prev anc) (match g, isMove o.op with | none, some x => cxD G' E x | _, _ => none) with
      | some (d, c) => some ⟨i, anc, o, n, d, g, c, E, sl⟩
      | none => none
  | false => none
noncomputable def dits (Y : TI) (XT : Nat → Option XK) (G : Ctx) (es : List (Nat × Nat × Nat)) : List Oper → List It → Nat → Nat → Nat → Nat → Option (List It)
  | [], prev, _, _, _, _ => some prev
  | o :: os, prev, i, n, q, r => match mkIt Y XT G es prev i n q r o with
    | some it => dits Y XT G es os (snocR prev it) (i + 1) (n + it.c.dn) (q + it.c.dq) (r + it.c.dr)
    | none => none

/-! ### what they say of themselves -/
theorem envI_spec {prev : List It} {anc : Nat} {t : Tmp} {d : D} : ∀ {ts : List Tmp}, (envI prev anc ts).look t = some d → ∃ it ∈ prev, it.o.dst = some t ∧ anc.testBit it.i = true ∧ it.d = d
  | [], h => by cases h
  | u :: ts, h => by
    unfold envI at h
    cases hw : writer prev anc u with
    | none => rw [hw] at h; exact envI_spec h
    | some it =>
      rw [hw] at h
      simp only [Env.look] at h
      split at h
      · rename_i e
        subst e
        injection h with h
        unfold writer at hw
        rw [findR_eq] at hw
        have h1 := List.find?_some hw
        rw [an_eq, Bool.and_eq_true, tbit_eq] at h1
        refine ⟨it, List.mem_of_find?_eq_some hw, ?_, h1.2, h⟩
        have h2 := h1.1
        unfold dstB at h2
        cases hd : it.o.dst with
        | none => rw [hd] at h2; cases h2
        | some v => rw [hd] at h2; rw [Nat.eq_of_beq_eq_true h2]
      · exact envI_spec h
theorem edgeB_spec {i : Nat} {es : List Edge} (h : edgeB i es = true) : ∀ e ∈ es, Region.binds .any e = true → e.on < i := fun e he hb => by
  unfold edgeB at h
  rw [allR_eq] at h
  have := List.all_eq_true.1 h e he
  rw [eor_eq, no_eq, hb] at this
  exact Nat.le_of_ble_eq_true (by simpa using this)
def KCS (P : Program) (G : Ctx) (E : Env) (n : Nat) (o : Oper) : KC → Prop
  | .al => False
  | .pu f => OCS P G E n o (.pu f)
  | .ld f _ _ => OCS P G E n o (.ld f)
  | .rs f _ => OCS P G E n o (.al f)
  | .ef f _ _ => OCS P G E n o (.ef f)
theorem kindI_none {P : Program} {XT : Nat → Option XK} (hX : ∀ f k, XT f = some k → XOk P f k) {G : Ctx} {E : Env} {n q r : Nat} {o : Oper} {ks A : List Nat} {d : D} {c : KC} (h : (match cop (tiOf P) XT G E n o.op with
    | .pu f => some (.l n, .pu f)
    | .ld f => some (.l n, .ld f q ks)
    | .al f => some (.l n, .rs f r)
    | .ef f => some (.l n, .ef f (q + 1) A)) = some (d, c)) : KCS P G E n o c := by
  have hcs := cop_snd (P := P) (G := G) (E := E) (n := n) (o := o) hX
  generalize cop (tiOf P) XT G E n o.op = cc at h hcs
  cases cc <;> (injection h with h; injection h with e1 e2; subst e2; exact hcs)
structure MkS (P : Program) (G : Ctx) (prev : List It) (i : Nat) (o : Oper) (it : It) : Prop where
  ei : it.i = i
  eo : it.o = o
  anc : ∀ j, it.anc.testBit j = true → ∃ e ∈ o.after, Region.binds .any e = true ∧ (e.on = j ∨ ∃ it', prev[e.on]? = some it' ∧ it'.anc.testBit j = true)
  edge : ∀ e ∈ o.after, Region.binds .any e = true → e.on < i
  env : ∀ t d, it.E.look t = some d → ∃ it' ∈ prev, it'.o.dst = some t ∧ it.anc.testBit it'.i = true ∧ it'.d = d
  gd : ∀ d w, it.g = some (d, w) → ∃ t it', o.guard = some (it'.i, w) ∧ it' ∈ prev ∧ it'.o.dst = some t ∧ it.anc.testBit it'.i = true ∧ it'.d = d
  gn : it.g = none → o.guard = none
  ok : it.OK P G
theorem memB_contains (t : Nat) (sl : List Nat) : memB t sl = sl.contains t := by
  unfold memB
  rw [anyR_eq, List.contains_eq_any_beq]
  congr 1
  funext x
  rw [Bool.eq_iff_iff, beq_iff_eq]
  exact ⟨fun h => Nat.eq_of_beq_eq_true h, fun h => h ▸ Nat.beq_refl t⟩
theorem keptI (G : Ctx) (sl : List Tmp) (t : Tmp) : an (memB t sl) (G.kept t) = (sl.contains t && G.kept t) := by rw [an_eq, memB_contains]
theorem mkIt_spec {P : Program} {XT : Nat → Option XK} (hX : ∀ f k, XT f = some k → XOk P f k) {G : Ctx} {es : List (Nat × Nat × Nat)} {prev : List It} {i n q r : Nat} {o : Oper} {it : It} (h : mkIt (tiOf P) XT G es prev i n q r o = some it) : MkS P G prev i o it := by
  unfold mkIt at h
  simp only [keptI] at h
  split at h
  case h_2 => cases h
  rename_i hed
  split at h
  · cases h
  rename_i g hg
  split at h
  case h_2 => cases h
  rename_i d c hk
  injection h with h
  subst h
  refine ⟨rfl, rfl, fun j hj => ?_, fun e he hb => edgeB_spec hed e (Array.mem_toList_iff.2 he) hb, fun t d hl => envI_spec hl, fun d' w hgw => ?_, fun hgn => ?_, ?_⟩
  · obtain ⟨e, h1, h2, h3⟩ := ancO_spec hj
    refine ⟨e, Array.mem_toList_iff.1 h1, h2, h3.imp id ?_⟩
    rintro ⟨a, ha, hb⟩
    rw [mapR_eq, List.getElem?_map] at ha
    obtain ⟨it', h4, h5⟩ := Option.map_eq_some_iff.1 ha
    exact ⟨it', h4, by rw [h5]; exact hb⟩
  · simp only at hgw
    subst hgw
    unfold guardI at hg
    split at hg
    · cases hg
    · rename_i j w' hog
      split at hg
      case h_2 => cases hg
      rename_i it' hf
      rw [findR_eq] at hf
      split at hg
      case h_2 => cases hg
      rename_i t hd
      injection hg with hg; injection hg with hg; injection hg with e1 e2
      subst e1; subst e2
      have h1 := List.find?_some hf
      rw [an_eq, Bool.and_eq_true, tbit_eq] at h1
      refine ⟨t, it', ?_, List.mem_of_find?_eq_some hf, hd, h1.2, rfl⟩
      rw [Nat.eq_of_beq_eq_true h1.1]; exact hog
  · simp only at hgn
    subst hgn
    unfold guardI at hg
    split at hg
    · assumption
    · split at hg
      · split at hg <;> cases hg
      · cases hg
  · unfold kindI at hk
    split at hk
    · rename_i d' hal
      injection hk with hk; injection hk with e1 e2; subst e1; subst e2
      split at hal
      case h_2 => cases hal
      rename_i x hmv
      exact ⟨rfl, x, hmv, hal⟩
    · have hk := kindI_none hX hk
      unfold It.OK
      cases c <;> first | exact hk | exact hk.elim
theorem dits_spec {P : Program} {XT : Nat → Option XK} {G : Ctx} {es : List (Nat × Nat × Nat)} : ∀ {os : List Oper} {prev : List It} {i n q r : Nat} {its : List It}, dits (tiOf P) XT G es os prev i n q r = some its → i = prev.length →
    prev <+: its ∧ its.length = prev.length + os.length ∧ ∀ (k : Nat) (o : Oper), os[k]? = some o → ∃ it n q r, its[prev.length + k]? = some it ∧ mkIt (tiOf P) XT G es (its.take (prev.length + k)) (prev.length + k) n q r o = some it
  | [], prev, i, n, q, r, its, h, hi => by
    injection h with h; subst h
    exact ⟨List.prefix_refl _, rfl, fun k o ho => by simp at ho⟩
  | o :: os, prev, i, n, q, r, its, h, hi => by
    unfold dits at h
    split at h
    case h_2 => cases h
    rename_i it hit
    rw [snocR_eq] at h
    obtain ⟨h1, h2, h3⟩ := dits_spec h (by simp [hi])
    have hp : prev <+: its := (List.prefix_append prev [it]).trans h1
    have htake : its.take prev.length = prev := by
      obtain ⟨t, rfl⟩ := hp
      exact List.take_left
    refine ⟨hp, by rw [h2]; simp; omega, fun k o' ho => ?_⟩
    cases k with
    | zero =>
      simp at ho; subst ho
      refine ⟨it, n, q, r, ?_, ?_⟩
      · obtain ⟨t, rfl⟩ := h1
        simp
      · rw [Nat.add_zero, htake, ← hi]; exact hit
    | succ k =>
      simp at ho
      obtain ⟨it', n', q', r', e1, e2⟩ := h3 k o' ho
      have e : (prev ++ [it]).length + k = prev.length + (k + 1) := by simp; omega
      rw [e] at e1 e2
      exact ⟨it', n', q', r', e1, e2⟩

/-! ### what is checked -/
noncomputable def nodupB : List Nat → Bool
  | [] => true
  | j :: A => an (no (memB j A)) (nodupB A)
noncomputable def chk1 (N n : Nat) (it : It) : Bool := an (okDst N it.o.dst) (an (it.d.ok n) (allR (fun p => p.2.ok it.n) it.E))
/-- The slots written, each by one operation. -/
noncomputable def uqM (its : List It) : Option Nat := List.rec (motive := fun _ => Option Nat) (some 0) (fun it _ ih => Option.rec (motive := fun _ => Option Nat) none (fun m => Option.rec (motive := fun _ => Option Nat) (some m) (fun t => Bool.rec (motive := fun _ => Option Nat) (some (Nat.lor m (Nat.pow 2 t))) none (tbit m t)) it.o.dst) ih) its
noncomputable def chkT (it it' : It) (t : Tmp) : Bool := match it'.o.dst with | some u => eor (no (Nat.beq u t)) (tbit it'.anc it.i) | none => true
noncomputable def chkS (m : Nat) (its : List It) (it : It) : Bool := allR (fun t => Bool.rec (motive := fun _ => Bool) true (allR (fun it' => chkT it it' t) its) (tbit m t)) it.sl
noncomputable def chkE (it it' : It) : Bool := match efOf it, efOf it' with
  | some (q, A), some (q', A') => an (eor (no (Nat.ble (Nat.add q' 1) q)) (tbit it.anc it'.i)) (an (eor (no (Nat.beq q' q)) (Nat.beq it'.i it.i)) (eor (Nat.beq it.i it'.i) (allR (fun j => no (memB j A')) A)))
  | _, _ => true
noncomputable def chkR (it it' : It) : Bool := match rsOf it, rsOf it' with
  | some j, some j' => eor (no (Nat.beq j j')) (Nat.beq it'.i it.i)
  | _, _ => true
def hasEf (it : It) : Bool := match efOf it with | some _ => true | none => false
def hasRs (it : It) : Bool := match rsOf it with | some _ => true | none => false
def isEfq (q : Nat) (it : It) : Bool := match efOf it with | some (q', _) => Nat.beq q' q | none => false
noncomputable def chk2 (ef rs : List It) (Qn Rn : Nat) (Ae : List Nat) (it : It) : Bool := match efOf it with
  | some (q, A) => an (Nat.ble 1 q) (an (Nat.ble q Qn) (an (nodupB A) (an (eor (Nat.beq q 1) (anyR (isEfq (Nat.sub q 1)) ef))
    (allR (fun j => an (no (memB j Ae)) (an (Nat.ble (Nat.add j 1) Rn) (anyR (fun it' => match rsOf it' with | some j' => an (Nat.beq j' j) (tbit it.anc it'.i) | none => false) rs))) A))))
  | none => true
def chk3 (Rn : Nat) (it : It) : Bool := match rsOf it with | some j => Nat.ble (Nat.add j 1) Rn | none => true
noncomputable def loB (a : Nat) (ef : List It) : Nat := List.rec (motive := fun _ => Nat) 0 (fun it _ ih => Option.rec (motive := fun _ => Nat) ih (fun p => Bool.rec (motive := fun _ => Nat) ih (maxB p.1 ih) (tbit a it.i)) (efOf it)) ef
noncomputable def hiB (i d : Nat) (ef : List It) : Nat := List.rec (motive := fun _ => Nat) d (fun it _ ih => Option.rec (motive := fun _ => Nat) ih (fun p => Bool.rec (motive := fun _ => Nat) ih (minB p.1 ih) (tbit it.anc i)) (efOf it)) ef
noncomputable def rngB (lo n k0 : Nat) (ks : List Nat) : Bool := Nat.rec (motive := fun _ => Bool) true (fun j ih => Bool.rec (motive := fun _ => Bool) false ih (eor (Nat.beq (Nat.add lo j) k0) (memB (Nat.add lo j) ks))) n
noncomputable def chk4 (ef : List It) (Qn : Nat) (it : It) : Bool := match ldOf it with
  | some (k0, ks) => rngB (loB it.anc ef) (Nat.sub (hiB it.i (Nat.add Qn 1) ef) (loB it.anc ef)) k0 ks
  | none => true
noncomputable def chk5 (rs : List It) (Rn : Nat) (Ae : List Nat) : Bool := an (nodupB Ae) (allR (fun j => an (Nat.ble (Nat.add j 1) Rn) (anyR (fun it' => match rsOf it' with | some j' => Nat.beq j' j | none => false) rs)) Ae)
noncomputable def dchkM (N n Qn Rn : Nat) (its ef rs : List It) (Ae : List Nat) (m : Nat) : Bool :=
  an (allR (fun it => an (chk1 N n it) (an (chk2 ef rs Qn Rn Ae it) (an (chk3 Rn it) (an (chk4 ef Qn it) (chkS m its it))))) its)
    (an (allR (fun it => allR (chkE it) ef) ef) (an (allR (fun it => allR (chkR it) rs) rs)
    (an (eor (Nat.beq Qn 0) (anyR (isEfq Qn) ef)) (chk5 rs Rn Ae))))
noncomputable def dchk (N n Qn Rn : Nat) (its : List It) (Ae : List Nat) : Bool := Option.rec (motive := fun _ => Bool) false (fun m => dchkM N n Qn Rn its (filR hasEf its) (filR hasRs its) Ae m) (uqM its)

theorem uqM_spec : ∀ {its : List It} {m : Nat}, uqM its = some m → (∀ it ∈ its, ∀ t, it.o.dst = some t → m.testBit t = true) ∧ ∀ it ∈ its, ∀ it' ∈ its, ∀ t, it.o.dst = some t → it'.o.dst = some t → it = it'
  | [], m, _ => ⟨fun it hm => by simp at hm, fun it hm => by simp at hm⟩
  | x :: its, m, h => by
    have h : Option.rec (motive := fun _ => Option Nat) none (fun m => Option.rec (motive := fun _ => Option Nat) (some m) (fun t => Bool.rec (motive := fun _ => Option Nat) (some (Nat.lor m (Nat.pow 2 t))) none (tbit m t)) x.o.dst) (uqM its) = some m := h
    cases hu : uqM its with
    | none => rw [hu] at h; cases h
    | some m0 =>
      rw [hu] at h
      obtain ⟨i1, i2⟩ := uqM_spec hu
      cases hd : x.o.dst with
      | none =>
        rw [hd] at h
        injection h with h; subst h
        refine ⟨fun it hm t ht => ?_, fun it hm it' hm' t h1 h2 => ?_⟩
        · cases hm with
          | head => rw [hd] at ht; cases ht
          | tail _ hm => exact i1 it hm t ht
        · cases hm with
          | head => rw [hd] at h1; cases h1
          | tail _ hm => cases hm' with
            | head => rw [hd] at h2; cases h2
            | tail _ hm' => exact i2 it hm it' hm' t h1 h2
      | some u =>
        rw [hd] at h
        cases hb : tbit m0 u with
        | true => simp only [hb] at h; cases h
        | false =>
          simp only [hb] at h
          injection h with h
          have h : m0 ||| 2 ^ u = m := h
          subst h
          have hno : ∀ it ∈ its, it.o.dst ≠ some u := fun it hm e => by
            have := i1 it hm u e
            rw [← tbit_eq, hb] at this; cases this
          refine ⟨fun it hm t ht => ?_, fun it hm it' hm' t h1 h2 => ?_⟩
          · rw [Nat.testBit_or, Bool.or_eq_true, Nat.testBit_two_pow]
            cases hm with
            | head => rw [hd] at ht; injection ht with ht; subst ht; exact .inr (by simp)
            | tail _ hm => exact .inl (i1 it hm t ht)
          · cases hm with
            | head =>
              rw [hd] at h1; injection h1 with h1; subst h1
              cases hm' with
              | head => rfl
              | tail _ hm' => exact absurd h2 (hno it' hm')
            | tail _ hm => cases hm' with
              | head => rw [hd] at h2; injection h2 with h2; subst h2; exact absurd h1 (hno it hm)
              | tail _ hm' => exact i2 it hm it' hm' t h1 h2
theorem maxB_le {a b k : Nat} (h1 : a ≤ k) (h2 : b ≤ k) : maxB a b ≤ k := by
  unfold maxB; cases Nat.ble a b <;> assumption
theorem minB_gt {a b k : Nat} (h1 : k < a) (h2 : k < b) : k < minB a b := by
  unfold minB; cases Nat.ble a b <;> assumption
theorem loB_le {a k : Nat} : ∀ {ef : List It}, (∀ it ∈ ef, ∀ p, efOf it = some p → tbit a it.i = true → p.1 ≤ k) → loB a ef ≤ k
  | [], _ => Nat.zero_le _
  | x :: ef, h => by
    have ih := loB_le (ef := ef) fun it hm => h it (List.mem_cons_of_mem _ hm)
    show Option.rec (motive := fun _ => Nat) (loB a ef) (fun p => Bool.rec (motive := fun _ => Nat) (loB a ef) (maxB p.1 (loB a ef)) (tbit a x.i)) (efOf x) ≤ k
    cases he : efOf x with
    | none => exact ih
    | some p =>
      cases hb : tbit a x.i with
      | false => exact ih
      | true => exact maxB_le (h x List.mem_cons_self p he hb) ih
theorem hiB_gt {i d k : Nat} (hd : k < d) : ∀ {ef : List It}, (∀ it ∈ ef, ∀ p, efOf it = some p → tbit it.anc i = true → k < p.1) → k < hiB i d ef
  | [], _ => hd
  | x :: ef, h => by
    have ih := hiB_gt hd (ef := ef) fun it hm => h it (List.mem_cons_of_mem _ hm)
    show k < Option.rec (motive := fun _ => Nat) (hiB i d ef) (fun p => Bool.rec (motive := fun _ => Nat) (hiB i d ef) (minB p.1 (hiB i d ef)) (tbit x.anc i)) (efOf x)
    cases he : efOf x with
    | none => exact ih
    | some p =>
      cases hb : tbit x.anc i with
      | false => exact ih
      | true => exact minB_gt (h x List.mem_cons_self p he hb) ih
theorem rngB_spec {lo k0 : Nat} {ks : List Nat} : ∀ {n : Nat}, rngB lo n k0 ks = true → ∀ j, j < n → lo + j = k0 ∨ anyR (Nat.beq (lo + j)) ks = true
  | 0, _, j, hj => absurd hj (Nat.not_lt_zero _)
  | n + 1, h, j, hj => by
    have h : Bool.rec (motive := fun _ => Bool) false (rngB lo n k0 ks) (eor (Nat.beq (Nat.add lo n) k0) (memB (Nat.add lo n) ks)) = true := h
    cases hb : eor (Nat.beq (Nat.add lo n) k0) (memB (Nat.add lo n) ks) with
    | false => rw [hb] at h; cases h
    | true =>
      rw [hb] at h
      rcases Nat.lt_succ_iff_lt_or_eq.1 hj with hj | rfl
      · exact rngB_spec h j hj
      · rw [eor_eq, Bool.or_eq_true] at hb
        exact hb.imp (fun h => Nat.eq_of_beq_eq_true h) id

theorem memB_iff {j : Nat} {A : List Nat} : memB j A = true ↔ j ∈ A := by
  unfold memB
  rw [anyR_eq, List.any_eq_true]
  exact ⟨fun ⟨x, h1, h2⟩ => by rw [Nat.eq_of_beq_eq_true h2]; exact h1, fun h => ⟨j, h, Nat.beq_refl j⟩⟩
theorem memB_no {j : Nat} {A : List Nat} (h : no (memB j A) = true) : j ∉ A := fun hm => by rw [memB_iff.2 hm] at h; cases h
theorem nodupB_spec : ∀ {A : List Nat}, nodupB A = true → A.Nodup
  | [], _ => List.nodup_nil
  | j :: A, h => by
    unfold nodupB at h
    rw [an_eq, Bool.and_eq_true] at h
    exact List.nodup_cons.2 ⟨memB_no h.1, nodupB_spec h.2⟩
theorem efOf_of {it : It} {f : CallF → List V → TS → Pos → TB → RC} {q : Nat} {A : List Nat} (h : it.c = .ef f q A) : efOf it = some (q, A) := by unfold efOf; rw [h]
theorem of_efOf {it : It} {q : Nat} {A : List Nat} (h : efOf it = some (q, A)) : ∃ f, it.c = .ef f q A := by
  unfold efOf at h
  split at h
  · rename_i f q' A' hc
    injection h with h; injection h with e1 e2; subst e1; subst e2
    exact ⟨f, hc⟩
  · cases h
theorem rsOf_of {it : It} {f : List V → TS → Option NV} {j : Nat} (h : it.c = .rs f j) : rsOf it = some j := by unfold rsOf; rw [h]
theorem of_rsOf {it : It} {j : Nat} (h : rsOf it = some j) : ∃ f, it.c = .rs f j := by
  unfold rsOf at h
  split at h
  · rename_i f j' hc
    injection h with h; subst h
    exact ⟨f, hc⟩
  · cases h
theorem ldOf_of {it : It} {f : List V → TS → TB → Option V} {k0 : Nat} {ks : List Nat} (h : it.c = .ld f k0 ks) : ldOf it = some (k0, ks) := by unfold ldOf; rw [h]
theorem imp_of {a b : Bool} (h : eor (no a) b = true) (ha : a = true) : b = true := by subst ha; exact h

theorem isEfq_spec {q : Nat} {it : It} (hb : isEfq q it = true) : ∃ f A, it.c = .ef f q A := by
  unfold isEfq at hb
  cases he : efOf it with
  | none => rw [he] at hb; cases hb
  | some p =>
    obtain ⟨q', A'⟩ := p
    rw [he] at hb
    obtain ⟨f', hf⟩ := of_efOf he
    rw [Nat.eq_of_beq_eq_true hb] at hf
    exact ⟨f', A', hf⟩
theorem mem_filR {p : It → Bool} {its : List It} {it : It} (h : it ∈ filR p its) : it ∈ its := by rw [filR_eq] at h; exact (List.mem_filter.1 h).1
theorem filR_mem {p : It → Bool} {its : List It} {it : It} (h : it ∈ its) (hp : p it = true) : it ∈ filR p its := by rw [filR_eq]; exact List.mem_filter.2 ⟨h, hp⟩
theorem chk2_spec {its : List It} {Qn Rn : Nat} {Ae : List Nat} {it : It} (h : chk2 (filR hasEf its) (filR hasRs its) Qn Rn Ae it = true) {f : CallF → List V → TS → Pos → TB → RC} {q : Nat} {A : List Nat} (hc : it.c = .ef f q A) :
    1 ≤ q ∧ q ≤ Qn ∧ A.Nodup ∧ (q ≠ 1 → ∃ it' ∈ its, ∃ f' A', it'.c = .ef f' (q - 1) A') ∧ ∀ j ∈ A, j ∉ Ae ∧ j < Rn ∧ ∃ it' ∈ its, ∃ f', it'.c = .rs f' j ∧ it.anc.testBit it'.i = true := by
  unfold chk2 at h
  rw [efOf_of hc] at h
  simp only [an_eq, allR_eq, anyR_eq, Bool.and_eq_true] at h
  obtain ⟨h1, h2, h3, h4, h5⟩ := h
  refine ⟨Nat.le_of_ble_eq_true h1, Nat.le_of_ble_eq_true h2, nodupB_spec h3, fun hq => ?_, fun j hj => ?_⟩
  · rw [eor_eq, Bool.or_eq_true] at h4
    rcases h4 with h4 | h4
    · exact absurd (Nat.eq_of_beq_eq_true h4) hq
    · obtain ⟨it', hm, hb⟩ := List.any_eq_true.1 h4
      obtain ⟨f', A', hf⟩ := isEfq_spec hb
      exact ⟨it', mem_filR hm, f', A', hf⟩
  · have := List.all_eq_true.1 h5 j hj
    rw [Bool.and_eq_true, Bool.and_eq_true] at this
    obtain ⟨k1, k2, k3⟩ := this
    refine ⟨memB_no k1, Nat.le_of_ble_eq_true k2, ?_⟩
    obtain ⟨it', hm, hb⟩ := List.any_eq_true.1 k3
    cases he : rsOf it' with
    | none => rw [he] at hb; cases hb
    | some j' =>
      rw [he] at hb
      have hb : (Nat.beq j' j && tbit it.anc it'.i) = true := hb
      rw [Bool.and_eq_true, tbit_eq] at hb
      obtain ⟨f', hf⟩ := of_rsOf he
      rw [Nat.eq_of_beq_eq_true hb.1] at hf
      exact ⟨it', mem_filR hm, f', hf, hb.2⟩
theorem chk4_spec {its : List It} {Qn : Nat} {it : It} (h : chk4 (filR hasEf its) Qn it = true) {f : List V → TS → TB → Option V} {k0 : Nat} {ks : List Nat} (hc : it.c = .ld f k0 ks) (k : Nat) (hk : k ≤ Qn) (h1 : ∀ it' ∈ its, ∀ f' q' A', it'.c = .ef f' q' A' → it.anc.testBit it'.i = true → q' ≤ k)
    (h2 : ∀ it' ∈ its, ∀ f' q' A', it'.c = .ef f' q' A' → it'.anc.testBit it.i = true → k < q') : k = k0 ∨ k ∈ ks := by
  unfold chk4 at h
  rw [ldOf_of hc] at h
  have hlo : loB it.anc (filR hasEf its) ≤ k := loB_le fun it' hm p hp hb => by
    obtain ⟨q', A'⟩ := p
    obtain ⟨f', hf⟩ := of_efOf hp
    rw [tbit_eq] at hb
    exact h1 it' (mem_filR hm) f' q' A' hf hb
  have hhi : k < hiB it.i (Nat.add Qn 1) (filR hasEf its) := hiB_gt (Nat.lt_succ_of_le hk) fun it' hm p hp hb => by
    obtain ⟨q', A'⟩ := p
    obtain ⟨f', hf⟩ := of_efOf hp
    rw [tbit_eq] at hb
    exact h2 it' (mem_filR hm) f' q' A' hf hb
  have hlt : k - loB it.anc (filR hasEf its) < Nat.sub (hiB it.i (Nat.add Qn 1) (filR hasEf its)) (loB it.anc (filR hasEf its)) := by
    show _ < (hiB it.i (Nat.add Qn 1) (filR hasEf its)) - (loB it.anc (filR hasEf its))
    omega
  have := rngB_spec h _ hlt
  rw [show loB it.anc (filR hasEf its) + (k - loB it.anc (filR hasEf its)) = k by omega] at this
  exact this.imp id memB_iff.1

theorem ds_of {P : Program} {XT : Nat → Option XK} (hX : ∀ f k, XT f = some k → XOk P f k) {G : Ctx} {es : List (Nat × Nat × Nat)} {N n Qn Rn : Nat} {ops : Array Oper} {its : List It} {Ae : List Nat} (h : dits (tiOf P) XT G es ops.toList [] 0 0 0 0 = some its) (hc : dchk N n Qn Rn its Ae = true) : DS P G N ops its Qn Rn Ae ∧ ∀ it ∈ its, it.d.ok n = true := by
  obtain ⟨-, hlen, hmk⟩ := dits_spec h rfl
  have hlen : its.length = ops.size := by rw [hlen]; simp
  have hof : ∀ (i : Nat) (it : It), its[i]? = some it → ∃ o, ops[i]? = some o ∧ MkS P G (its.take i) i o it := fun i it hi => by
    have hlt : i < its.length := by
      rcases Nat.lt_or_ge i its.length with hh | hh
      · exact hh
      · rw [List.getElem?_eq_none hh] at hi; cases hi
    have ho : ops.toList[i]? = some (ops[i]'(by omega)) := by simp
    obtain ⟨it', n', q', r', e1, e2⟩ := hmk i _ ho
    simp only [List.length_nil, Nat.zero_add] at e1 e2
    rw [hi] at e1; injection e1 with e1; subst e1
    exact ⟨_, by simp, mkIt_spec hX e2⟩
  have hmem : ∀ it ∈ its, ∃ i, its[i]? = some it ∧ MkS P G (its.take i) i it.o it ∧ ops[i]? = some it.o := fun it hm => by
    obtain ⟨i, hi⟩ := List.getElem?_of_mem hm
    obtain ⟨o, h1, h2⟩ := hof i it hi
    have := h2.eo; subst this
    exact ⟨i, hi, h2, h1⟩
  have htk : ∀ (i : Nat) (it : It), it ∈ its.take i → it ∈ its := fun i it hm => List.mem_of_mem_take hm
  unfold dchk at hc
  cases hu : uqM its with
  | none => rw [hu] at hc; cases hc
  | some m =>
  rw [hu] at hc
  have hc : dchkM N n Qn Rn its (filR hasEf its) (filR hasRs its) Ae m = true := hc
  obtain ⟨hu1, hu2⟩ := uqM_spec hu
  unfold dchkM at hc
  simp only [an_eq, allR_eq, Bool.and_eq_true] at hc
  obtain ⟨hc1, hc4, hc5, hc6, hc7⟩ := hc
  have hc0' : ∀ it ∈ its, (((chk1 N n it = true ∧ chk2 (filR hasEf its) (filR hasRs its) Qn Rn Ae it = true) ∧ chk3 Rn it = true) ∧ chk4 (filR hasEf its) Qn it = true) ∧ chkS m its it = true := fun it hm => by
    have := List.all_eq_true.1 hc1 it hm
    simp only [Bool.and_eq_true] at this
    exact ⟨⟨⟨⟨this.1, this.2.1⟩, this.2.2.1⟩, this.2.2.2.1⟩, this.2.2.2.2⟩
  have hc1' := fun it hm => (hc0' it hm).1
  have h1' : ∀ it ∈ its, (okDst N it.o.dst = true ∧ it.d.ok n = true) ∧ ∀ p ∈ it.E, p.2.ok it.n = true := fun it hm => by
    have := (hc1' it hm).1.1.1
    unfold chk1 at this
    rw [an_eq, an_eq, allR_eq, Bool.and_eq_true, Bool.and_eq_true, List.all_eq_true] at this
    exact ⟨⟨this.1, this.2.1⟩, this.2.2⟩
  have hlook : ∀ (E : Env) t d, E.look t = some d → (t, d) ∈ E := by
    intro E
    induction E with
    | nil => intro t d h; cases h
    | cons p E ih =>
      intro t d h
      obtain ⟨u, e⟩ := p
      simp only [Env.look] at h
      split at h
      · rename_i e'
        injection h with h; subst h; subst e'
        exact List.mem_cons_self
      · exact List.mem_cons_of_mem _ (ih t d h)
  refine ⟨⟨hlen, fun i it hi => ?_, fun it hm j hj => ?_, fun it hm e he hb => ?_, fun it hm => (h1' it hm).1.1, fun it hm it' hm' t h1 h2 => ?_, fun it hm t d hl => ?_, fun it hm t ht it' hm' hd => ?_, fun it hm d w hg => ?_, fun it hm hg => ?_, fun it hm => ?_, fun it hm it' hm' f q A f' q' A' h1 h2 => ?_,
    fun it hm f q A h1 => chk2_spec (hc1' it hm).1.1.2 h1, fun hq => ?_, fun it hm f j h1 => ?_, fun it hm f k0 ks h1 => chk4_spec (hc1' it hm).2 h1, ?_⟩, fun it hm => (h1' it hm).1.2⟩
  · obtain ⟨o, h1, h2⟩ := hof i it hi
    have := h2.eo; subst this
    exact ⟨h2.ei, h1⟩
  · obtain ⟨i, hi, hs, ho⟩ := hmem it hm
    obtain ⟨e, he, hb, h3⟩ := hs.anc j hj
    refine ⟨e, he, hb, h3.imp id ?_⟩
    rintro ⟨it', h4, h5⟩
    have hm' := htk i it' (List.mem_of_getElem? h4)
    have h6 : its[e.on]? = some it' := by
      rw [List.getElem?_take] at h4
      split at h4
      · exact h4
      · cases h4
    obtain ⟨o', -, h8⟩ := hof e.on it' h6
    exact ⟨it', hm', h8.ei, h5⟩
  · obtain ⟨i, hi, hs, ho⟩ := hmem it hm
    rw [hs.ei]; exact hs.edge e he hb
  · rw [hu2 it hm it' hm' t h1 h2]
  · obtain ⟨i, hi, hs, ho⟩ := hmem it hm
    refine ⟨(h1' it hm).2 _ (hlook _ _ _ hl), ?_⟩
    obtain ⟨it', h3, h4⟩ := hs.env t d hl
    exact ⟨it', htk i it' h3, h4⟩
  · have := (hc0' it hm).2
    unfold chkS at this
    rw [allR_eq] at this
    have := List.all_eq_true.1 this t ?_
    · rw [tbit_eq, hu1 it' hm' t hd, allR_eq] at this
      have := List.all_eq_true.1 this it' hm'
      unfold chkT at this
      rw [hd, tbit_eq] at this
      exact imp_of this (Nat.beq_refl t)
    · simpa using ht
  · obtain ⟨i, hi, hs, ho⟩ := hmem it hm
    obtain ⟨t, it', h3, h4, h5, h6⟩ := hs.gd d w hg
    have hm' := htk i it' h4
    obtain ⟨i', hi', hs', ho'⟩ := hmem it' hm'
    refine ⟨it'.i, t, it', h3, ?_, hm', h5, h6⟩
    rw [hs'.ei, ho']
    exact h5
  · obtain ⟨i, hi, hs, ho⟩ := hmem it hm
    exact hs.gn hg
  · obtain ⟨i, hi, hs, ho⟩ := hmem it hm
    exact hs.ok
  · have m1 : it ∈ filR hasEf its := filR_mem hm (by unfold hasEf; rw [efOf_of h1])
    have m2 : it' ∈ filR hasEf its := filR_mem hm' (by unfold hasEf; rw [efOf_of h2])
    have := List.all_eq_true.1 (List.all_eq_true.1 hc4 it m1) it' m2
    unfold chkE at this
    rw [efOf_of h1, efOf_of h2] at this
    simp only [an_eq, Bool.and_eq_true, tbit_eq] at this
    obtain ⟨k1, k2, k3⟩ := this
    refine ⟨fun hlt => imp_of k1 (Nat.ble_eq_true_of_le hlt), fun he => Nat.eq_of_beq_eq_true (imp_of k2 (by rw [he]; exact Nat.beq_refl q)), fun hne j hj => ?_⟩
    rw [eor_eq, allR_eq, Bool.or_eq_true] at k3
    rcases k3 with k3 | k3
    · exact absurd (Nat.eq_of_beq_eq_true k3) hne
    · exact memB_no (List.all_eq_true.1 k3 j hj)
  · rw [eor_eq, anyR_eq, Bool.or_eq_true] at hc6
    rcases hc6 with h6 | h6
    · exact absurd (Nat.eq_of_beq_eq_true h6) hq
    · obtain ⟨it, hm, hb⟩ := List.any_eq_true.1 h6
      obtain ⟨f', A', hf⟩ := isEfq_spec hb
      exact ⟨it, mem_filR hm, f', A', hf⟩
  · have h3 := (hc1' it hm).1.2
    unfold chk3 at h3
    rw [rsOf_of h1] at h3
    refine ⟨Nat.le_of_ble_eq_true h3, fun it' hm' f' h2 => ?_⟩
    have m1 : it ∈ filR hasRs its := filR_mem hm (by unfold hasRs; rw [rsOf_of h1])
    have m2 : it' ∈ filR hasRs its := filR_mem hm' (by unfold hasRs; rw [rsOf_of h2])
    have := List.all_eq_true.1 (List.all_eq_true.1 hc5 it m1) it' m2
    unfold chkR at this
    rw [rsOf_of h1, rsOf_of h2] at this
    exact Nat.eq_of_beq_eq_true (imp_of this (Nat.beq_refl j))
  · unfold chk5 at hc7
    rw [an_eq, allR_eq, Bool.and_eq_true] at hc7
    refine ⟨nodupB_spec hc7.1, fun j hj => ?_⟩
    have := List.all_eq_true.1 hc7.2 j hj
    rw [an_eq, anyR_eq, Bool.and_eq_true] at this
    refine ⟨Nat.le_of_ble_eq_true this.1, ?_⟩
    obtain ⟨it', hm, hb⟩ := List.any_eq_true.1 this.2
    cases he : rsOf it' with
    | none => rw [he] at hb; cases hb
    | some j' =>
      rw [he] at hb
      obtain ⟨f', hf⟩ := of_rsOf he
      rw [Nat.eq_of_beq_eq_true hb] at hf
      exact ⟨it', mem_filR hm, f', hf⟩

def hasKs (it : It) : Bool := match ldOf it with | some (_, _ :: _) => true | _ => false
noncomputable def dreg (Y : TI) (XT : Nat → Option XK) (G : Ctx) (N : Nat) (ops : List Oper) : Option (Env × Nat × SB) :=
  match dits Y XT G (effs XT ops (ancs ops [])) ops [] 0 0 0 0 with
  | none => none
  | some its => match nums its 0 0 0 with
    | none => none
    | some (n, Qn, Rn) => match dchk N n Qn Rn its (lasts its) with | true => some (envOf its, n, dregK its n (filR hasKs its) (lasts its) Rn) | false => none
theorem dreg_reg {P : Program} (hmix : P.follows .mixedOrders = true) {XT : Nat → Option XK} (hX : ∀ f k, XT f = some k → XOk P f k) {G : Ctx} {N : Nat} {ops : Array Oper} {E : Env} {n : Nat} {k : SB} (h : dreg (tiOf P) XT G N ops.toList = some (E, n, k)) (id : Nat) : RegS P G N (.region id ops true) E n k := by
  unfold dreg at h
  split at h
  · cases h
  rename_i its hits
  split at h
  · cases h
  rename_i n' Qn Rn hnum
  split at h
  case h_2 => cases h
  rename_i hck
  injection h with h; injection h with e1 h; injection h with e2 e3
  subst e1; subst e2; subst e3
  obtain ⟨ds, hN⟩ := ds_of hX hits hck
  refine dreg_snd hmix ds hnum hN (fun it hm f k0 ks hc hne => filR_mem hm ?_) id
  unfold hasKs
  rw [ldOf_of hc]
  cases ks with
  | nil => exact absurd rfl hne
  | cons _ _ => rfl

end Go.Proofs.YtmbnogellhoheaaGreatDoor.Ev
