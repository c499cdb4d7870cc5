/- Drawn regions: what holds whatever has been done, step by step. -/
import Derived.Test.YtnhgchnhfdimiaaGreatDoorEvXm
namespace Go.Proofs.YtnhgchnhfdimiaaGreatDoor.Ev
open Go
variable {ρ : Rho}

/-- The context of an item: only the slots that it reads. -/
def It.G (it : It) (G : Ctx) : Ctx := ⟨fun t => it.sl.contains t && G.kept t, G.glob, G.at_, G.tab⟩
/-- The compiled operation of an item fits the model's. -/
def It.OK (P : Program) (G : Ctx) (it : It) : Prop := match it.c with
  | .al => it.g = none ∧ ∃ x, isMove it.o.op = some x ∧ cxD (it.G G) it.E x = some it.d
  | .pu f => OCS P (it.G G) it.E it.n it.o (.pu f)
  | .ld f _ _ => OCS P (it.G G) it.E it.n it.o (.ld f)
  | .rs f _ => OCS P (it.G G) it.E it.n it.o (.al f)
  | .ef f _ _ => OCS P (it.G G) it.E it.n it.o (.ef f)
structure DS (P : Program) (G : Ctx) (N : Nat) (ops : Array Oper) (its : List It) (Qn Rn : Nat) (Ae : List Nat) : Prop where
  len : its.length = ops.size
  idx : ∀ (i : Nat) (it : It), its[i]? = some it → it.i = i ∧ ops[i]? = some it.o
  anc : ∀ it ∈ its, ∀ j, it.anc.testBit j = true → ∃ e ∈ it.o.after, Region.binds .any e = true ∧ (e.on = j ∨ ∃ it' ∈ its, it'.i = e.on ∧ it'.anc.testBit j = true)
  edge : ∀ it ∈ its, ∀ e ∈ it.o.after, Region.binds .any e = true → e.on < it.i
  dst : ∀ it ∈ its, okDst N it.o.dst = true
  uniq : ∀ it ∈ its, ∀ it' ∈ its, ∀ t, it.o.dst = some t → it'.o.dst = some t → it.i = it'.i
  env : ∀ it ∈ its, ∀ t d, it.E.look t = some d → d.ok it.n = true ∧ ∃ it' ∈ its, it'.o.dst = some t ∧ it.anc.testBit it'.i = true ∧ it'.d = d
  sl : ∀ it ∈ its, ∀ t, it.sl.contains t = true → ∀ it' ∈ its, it'.o.dst = some t → it'.anc.testBit it.i = true
  gd : ∀ it ∈ its, ∀ d w, it.g = some (d, w) → ∃ j t it', it.o.guard = some (j, w) ∧ (ops[j]?).bind (·.dst) = some t ∧ it' ∈ its ∧ it'.o.dst = some t ∧ it.anc.testBit it'.i = true ∧ it'.d = d
  gn : ∀ it ∈ its, it.g = none → it.o.guard = none
  ok : ∀ it ∈ its, it.OK P G
  ef1 : ∀ it ∈ its, ∀ it' ∈ its, ∀ f q A f' q' A', it.c = .ef f q A → it'.c = .ef f' q' A' → (q' < q → it.anc.testBit it'.i = true) ∧ (q' = q → it'.i = it.i) ∧ (it.i ≠ it'.i → ∀ j ∈ A, j ∉ A')
  ef2 : ∀ it ∈ its, ∀ f q A, it.c = .ef f q A → 1 ≤ q ∧ q ≤ Qn ∧ A.Nodup ∧ (q ≠ 1 → ∃ it' ∈ its, ∃ f' A', it'.c = .ef f' (q - 1) A') ∧ ∀ j ∈ A, j ∉ Ae ∧ j < Rn ∧ ∃ it' ∈ its, ∃ f', it'.c = .rs f' j ∧ it.anc.testBit it'.i = true
  ef3 : Qn ≠ 0 → ∃ it ∈ its, ∃ f A, it.c = .ef f Qn A
  rs1 : ∀ it ∈ its, ∀ f j, it.c = .rs f j → j < Rn ∧ ∀ it' ∈ its, ∀ f', it'.c = .rs f' j → it'.i = it.i
  ld : ∀ it ∈ its, ∀ f k0 ks, it.c = .ld f k0 ks → ∀ k, k ≤ Qn → (∀ it' ∈ its, ∀ f' q' A', it'.c = .ef f' q' A' → it.anc.testBit it'.i = true → q' ≤ k) → (∀ it' ∈ its, ∀ f' q' A', it'.c = .ef f' q' A' → it'.anc.testBit it.i = true → k < q') → k = k0 ∨ k ∈ ks
  ae : Ae.Nodup ∧ ∀ j ∈ Ae, j < Rn ∧ ∃ it' ∈ its, ∃ f', it'.c = .rs f' j

/-- An item's operation is wanted. -/
def It.On (it : It) (T : TV) (Z : Fin) : Prop := match it.g with
  | none => True
  | some (d, w) => gwant (d.x Z.L.length Z.L T) w = some true
/-- The temporaries. -/
structure TM (G : Ctx) (N : Nat) (its : List It) (T : TV) (Z : Fin) (S : Done) (ρ : Rho) (a : Act) : Prop where
  closed : ∀ it ∈ its, S it.i = true → ∀ j, it.anc.testBit j = true → S j = true
  tm : ∀ it ∈ its, S it.i = true → ∀ t, it.o.dst = some t → VR ρ (it.val Z T) (a.tmps.getD t undef)
  sl : ∀ t, G.kept t = true → (∀ it ∈ its, it.o.dst = some t → S it.i = false) → VR ρ (T.get (pos t)) (a.tmps.getD t undef)
  gr : GR G ρ
  size : a.tmps.size = N
  defers : a.defers = []
/-- The heap, k effects done. -/
structure HPI (its : List It) (z : Pos) (Z : Fin) (Rn : Nat) (ρ0 : Rho) (bs0 : TB) (w0 : World) (S : Done) (ρ : Rho) (k : Nat) (w : World) : Prop where
  efs : ∀ it ∈ its, ∀ f q A, it.c = .ef f q A → (S it.i = true ↔ q ≤ k)
  hk : ∃ h, Z.H[k]? = some h ∧ HR ρ h.1 h.2 w ∧ Ext ρ0 z bs0 w0 ρ h.1 h.2 w ∧ z.val + Rn ≤ h.1.val ∧
    ∀ it ∈ its, ∀ f j, it.c = .rs f j → S it.i = true → ∀ m, Z.M[j]? = some (some m) → (∀ it' ∈ its, ∀ f' q' A', it'.c = .ef f' q' A' → q' ≤ k → j ∉ A') → Pend w0.heap.size ρ h.2 w (incs j z) m
  res : ∀ it ∈ its, ∀ f j, it.c = .rs f j → S it.i = false → ρ (incs j z) = none
  inj : ∀ j j' q q', j < Rn → j' < Rn → ρ (incs j z) = some q → ρ (incs j' z) = some q' → q.r = q'.r → j = j'

section
variable {P : Program} {G : Ctx} {N : Nat} {ops : Array Oper} {its : List It} {Qn Rn : Nat} {Ae : List Nat} {T : TV} {z : Pos} {Z : Fin} {ρ0 : Rho} {bs0 : TB} {w0 : World}

theorem DS.same (ds : DS P G N ops its Qn Rn Ae) {it it' : It} (h : it ∈ its) (h' : it' ∈ its) (e : it.i = it'.i) : it = it' := by
  obtain ⟨n, hn⟩ := List.getElem?_of_mem h
  obtain ⟨n', hn'⟩ := List.getElem?_of_mem h'
  have e1 := (ds.idx n it hn).1
  have e2 := (ds.idx n' it' hn').1
  have : n = n' := by omega
  subst this
  rw [hn] at hn'; injection hn'
theorem DS.find (ds : DS P G N ops its Qn Rn Ae) {i : Nat} {o : Oper} (h : ops[i]? = some o) : ∃ it ∈ its, it.i = i ∧ it.o = o := by
  have hi : i < ops.size := by
    rcases Nat.lt_or_ge i ops.size with hh | hh
    · exact hh
    · rw [Array.getElem?_eq_none hh] at h; cases h
  have hi' : i < its.length := by rw [ds.len]; exact hi
  obtain ⟨h1, h2⟩ := ds.idx i its[i] (List.getElem?_eq_getElem hi')
  rw [h] at h2; injection h2 with h2
  exact ⟨its[i], List.getElem_mem hi', h1, h2.symm⟩
theorem getD_put (a : Act) {t : Tmp} (ht : t < a.tmps.size) (y : Value) (u : Tmp) : (a.put (some t) y).tmps.getD u undef = if u = t then y else a.tmps.getD u undef := by
  show (a.tmps.setIfInBounds t y).getD u undef = _
  by_cases h : u = t
  · subst h; simp [ht]
  · rw [if_neg h]; simp [Array.getElem?_setIfInBounds_ne (Ne.symm h)]
theorem Done.put_self (S : Done) (i : Nat) : (S.put i) i = true := by simp [Done.put]
theorem Done.put_ne (S : Done) {i j : Nat} (h : j ≠ i) : (S.put i) j = S j := by simp [Done.put, h]
theorem Done.put_of (S : Done) {i j : Nat} (h : S j = true) : (S.put i) j = true := by
  unfold Done.put; split
  · rfl
  · exact h
/-- One more is done. -/
theorem TM.put (ds : DS P G N ops its Qn Rn Ae) {S : Done} {a : Act} (h : TM G N its T Z S ρ a) {it : It} (hit : it ∈ its) (hanc : ∀ j, it.anc.testBit j = true → S j = true) {ρ' : Rho} (hle : ρ.le ρ') {y : Value} (hv : VR ρ' (it.val Z T) y) :
    TM G N its T Z (S.put it.i) ρ' (a.put it.o.dst y) := by
  refine ⟨fun it' hm hs j hj => ?_, fun it' hm hs t ht => ?_, fun t hk hn => ?_, h.gr.mono hle, by rw [put_size, h.size], by rw [put_defers, h.defers]⟩
  · by_cases e : it'.i = it.i
    · have := ds.same hm hit e; subst this; exact S.put_of (hanc j hj)
    · rw [S.put_ne e] at hs; exact S.put_of (h.closed it' hm hs j hj)
  · by_cases e : it'.i = it.i
    · have := ds.same hm hit e; subst this
      rw [ht]
      have htN := ds.dst it' hm
      rw [ht] at htN
      rw [getD_put a (by rw [h.size]; exact Nat.le_of_ble_eq_true htN), if_pos rfl]; exact hv
    · rw [S.put_ne e] at hs
      have hold := VR.mono hle _ _ (h.tm it' hm hs t ht)
      cases hd : it.o.dst with
      | none => exact hold
      | some u =>
        have hne : t ≠ u := fun e' => e (by subst e'; exact ds.uniq it' hm it hit t ht hd)
        have htN := ds.dst it hit
        rw [hd] at htN
        rw [getD_put a (by rw [h.size]; exact Nat.le_of_ble_eq_true htN), if_neg hne]; exact hold
  · have hold := VR.mono hle _ _ (h.sl t hk fun it' hm ht => by
      have := hn it' hm ht
      by_cases e : it'.i = it.i
      · rw [e, S.put_self] at this; cases this
      · rwa [S.put_ne e] at this)
    cases hd : it.o.dst with
    | none => exact hold
    | some u =>
      have hne : t ≠ u := fun e' => by
        subst e'
        have := hn it hit hd
        rw [S.put_self] at this; cases this
      have htN := ds.dst it hit
      rw [hd] at htN
      rw [getD_put a (by rw [h.size]; exact Nat.le_of_ble_eq_true htN), if_neg hne]; exact hold
/-- What an item finds. -/
theorem TM.er (ds : DS P G N ops its Qn Rn Ae) {S : Done} {a : Act} (h : TM G N its T Z S ρ a) {it : It} (hit : it ∈ its) (hS : S it.i = false) (hanc : ∀ j, it.anc.testBit j = true → S j = true) (hn : it.n ≤ Z.L.length) : ER (it.G G) ρ it.E (it.Li Z) T a ∧ (it.Li Z).length = it.n := by
  have hlen : (it.Li Z).length = it.n := by unfold It.Li; rw [List.length_drop]; omega
  have hsuf : it.Li Z <:+ Z.L := List.drop_suffix _ _
  refine ⟨⟨fun t d hl => ?_, fun t _ hk => ?_, h.gr.cast rfl rfl⟩, hlen⟩
  · obtain ⟨hok, it', hm, hd, hb, rfl⟩ := ds.env it hit t d hl
    refine ⟨by rw [hlen]; exact hok, ?_⟩
    have := h.tm it' hm (hanc _ hb) t hd
    unfold It.val at this
    rwa [D.x_suffix hsuf (by rw [hlen]; exact hok)] at this
  · have hk : (it.sl.contains t && G.kept t) = true := hk
    rw [Bool.and_eq_true] at hk
    refine h.sl t hk.2 fun it' hm hd => ?_
    cases hs : S it'.i with
    | false => rfl
    | true =>
      have := h.closed it' hm hs _ (ds.sl it hit t hk.1 it' hm hd)
      rw [hS] at this; cases this

theorem HPI.same (ds : DS P G N ops its Qn Rn Ae) {S : Done} {k : Nat} {w : World} (h : HPI its z Z Rn ρ0 bs0 w0 S ρ k w) {it : It} (hit : it ∈ its) (h1 : ∀ f q A, it.c ≠ .ef f q A) (h2 : ∀ f j, it.c = .rs f j → Z.M[j]? = some none) : HPI its z Z Rn ρ0 bs0 w0 (S.put it.i) ρ k w := by
  have hne : ∀ it' ∈ its, ∀ f q A, it'.c = .ef f q A → it'.i ≠ it.i := fun it' hm f q A hc e => by
    have := ds.same hm hit e; subst this; exact h1 f q A hc
  obtain ⟨hh, k1, k2, k3, k4, k5⟩ := h.hk
  refine ⟨fun it' hm f q A hc => by rw [S.put_ne (hne it' hm f q A hc)]; exact h.efs it' hm f q A hc, ⟨hh, k1, k2, k3, k4, fun it' hm f j hc hs m hM hA => ?_⟩, fun it' hm f j hc hs => ?_, h.inj⟩
  · by_cases e : it'.i = it.i
    · have := ds.same hm hit e; subst this
      rw [h2 f j hc] at hM; injection hM with hM; cases hM
    · rw [S.put_ne e] at hs
      exact k5 it' hm f j hc hs m hM hA
  · by_cases e : it'.i = it.i
    · rw [e, S.put_self] at hs; cases hs
    · rw [S.put_ne e] at hs; exact h.res it' hm f j hc hs

theorem incs_inj {z : Pos} {j j' : Nat} (h : incs j z = incs j' z) : j = j' := by
  have := congrArg Pos.val h
  rw [incs_val, incs_val] at this
  omega
theorem HPI.new (ds : DS P G N ops its Qn Rn Ae) {S : Done} {k : Nat} {w : World} (h : HPI its z Z Rn ρ0 bs0 w0 S ρ k w) {it : It} (hit : it ∈ its) (hS : S it.i = false) {f : List V → TV → Option NV} {j : Nat} (hc : it.c = .rs f j) {m : NV} (hM : Z.M[j]? = some (some m)) {res : Result Value} (hN : NSnd ρ w m res) :
    ∃ y w' ρ', res = .ok y w' ∧ ρ.le ρ' ∧ VR ρ' (m.val (incs j z)) y ∧ HPI its z Z Rn ρ0 bs0 w0 (S.put it.i) ρ' k w' := by
  obtain ⟨hh, k1, k2, k3, k4, k5⟩ := h.hk
  obtain ⟨hjR, huq⟩ := ds.rs1 it hit f j hc
  have hp := h.res it hit f j hc hS
  have hpn : (incs j z).val < hh.1.val := by rw [incs_val]; omega
  obtain ⟨y, w', x, C, E, fz, e1, e2, hev, e3, e4, e5, e6⟩ := hN.pend k2 hp hpn (b0 := w0.heap.size) k3.size
  have hother : ∀ j', j' ≠ j → upd ρ (incs j z) x (incs j' z) = ρ (incs j' z) := fun j' hne => upd_ne ρ x fun e => hne (incs_inj e)
  refine ⟨y, w', _, e1, upd_le' hp x, e4, ⟨fun it' hm f' q A hc' => ?_, ⟨hh, k1, e5, k3.place k2 hp (by rw [incs_val]; omega) e2 x hev, k4, fun it' hm f' j' hc' hs m' hM' hA => ?_⟩, fun it' hm f' j' hc' hs => ?_, fun j1 j2 q1 q2 h1 h2 hq1 hq2 hr => ?_⟩⟩
  · rw [S.put_ne (fun e => by have := ds.same hm hit e; subst this; rw [hc] at hc'; cases hc')]
    exact h.efs it' hm f' q A hc'
  · by_cases e : it'.i = it.i
    · have := ds.same hm hit e; subst this
      rw [hc] at hc'; injection hc' with _ e'; subst e'
      rw [hM] at hM'; injection hM' with hM'; injection hM' with hM'; subst hM'
      exact e6
    · rw [S.put_ne e] at hs
      exact (k5 it' hm f' j' hc' hs m' hM' hA).place k2 hp e2 x
  · by_cases e : it'.i = it.i
    · rw [e, S.put_self] at hs; cases hs
    · rw [S.put_ne e] at hs
      rw [hother j' (fun e' => by subst e'; exact e (huq it' hm f' hc'))]
      exact h.res it' hm f' j' hc' hs
  · by_cases a1 : j1 = j
    · by_cases a2 : j2 = j
      · rw [a1, a2]
      · subst a1
        rw [upd_same] at hq1; injection hq1 with hq1; subst hq1
        rw [hother j2 a2] at hq2
        have := k2.inside _ _ hq2
        omega
    · by_cases a2 : j2 = j
      · subst a2
        rw [upd_same] at hq2; injection hq2 with hq2; subst hq2
        rw [hother j1 a1] at hq1
        have := k2.inside _ _ hq1
        omega
      · rw [hother j1 a1] at hq1
        rw [hother j2 a2] at hq2
        exact h.inj j1 j2 q1 q2 h1 h2 hq1 hq2 hr
/-- The next effect: its number. -/
theorem HPI.next (ds : DS P G N ops its Qn Rn Ae) {S : Done} {k : Nat} {w : World} (h : HPI its z Z Rn ρ0 bs0 w0 S ρ k w) {it : It} (hit : it ∈ its) (hS : S it.i = false) (hanc : ∀ j, it.anc.testBit j = true → S j = true) {f : CallF → List V → TV → Pos → TB → RC} {q : Nat} {A : List Nat} (hc : it.c = .ef f q A) : q = k + 1 := by
  have h1 : ¬ q ≤ k := fun hh => by rw [(h.efs it hit f q A hc).2 hh] at hS; cases hS
  obtain ⟨g1, g2, -, g3, -⟩ := ds.ef2 it hit f q A hc
  by_cases hq : q = 1
  · omega
  · obtain ⟨it', hm, f', A', hc'⟩ := g3 hq
    have hb := (ds.ef1 it hit it' hm f q A f' (q - 1) A' hc hc').1 (by omega)
    have := (h.efs it' hm f' (q - 1) A' hc').1 (hanc _ hb)
    omega
/-- New blocks become live ahead of an effect. -/
theorem HPI.take (_ds : DS P G N ops its Qn Rn Ae) {S : Done} {k : Nat} {w : World} (h : HPI its z Z Rn ρ0 bs0 w0 S ρ k w) {h0 : Pos × TB} (hk0 : Z.H[k]? = some h0) {A : List Nat} (hnd : A.Nodup) (hA : ∀ j ∈ A, j < Rn ∧ (∀ it' ∈ its, ∀ f' q' A', it'.c = .ef f' q' A' → q' ≤ k → j ∉ A') ∧ ∃ it' ∈ its, ∃ f', it'.c = .rs f' j ∧ S it'.i = true) :
    HR ρ h0.1 (absorb A z Z.M h0.2) w ∧ Ext ρ0 z bs0 w0 ρ h0.1 (absorb A z Z.M h0.2) w ∧ ∀ j' m', j' < Rn → j' ∉ A → Pend w0.heap.size ρ h0.2 w (incs j' z) m' → Pend w0.heap.size ρ (absorb A z Z.M h0.2) w (incs j' z) m' := by
  obtain ⟨hh, k1, k2, k3, k4, k5⟩ := h.hk
  rw [hk0] at k1; injection k1 with k1; subst k1
  refine absorb_all h.inj (fun j hj => by rw [incs_val]; omega) A h0.2 hnd (fun j hj => (hA j hj).1) k2 k3 fun j hj m hM => ?_
  obtain ⟨-, h1, it', hm, f', hc', hs⟩ := hA j hj
  exact k5 it' hm f' j hc' hs m hM h1
/-- An effect is done. -/
theorem HPI.eff (ds : DS P G N ops its Qn Rn Ae) {S : Done} {k : Nat} {w : World} (h : HPI its z Z Rn ρ0 bs0 w0 S ρ k w) {it : It} (hit : it ∈ its) {f : CallF → List V → TV → Pos → TB → RC} {A : List Nat} (hc : it.c = .ef f (k + 1) A) {h0 h1 : Pos × TB} (hk0 : Z.H[k]? = some h0) (hk1 : Z.H[k + 1]? = some h1)
    {bsA : TB} (hX : Ext ρ0 z bs0 w0 ρ h0.1 bsA w) (hP : ∀ j' m', j' < Rn → j' ∉ A → Pend w0.heap.size ρ h0.2 w (incs j' z) m' → Pend w0.heap.size ρ bsA w (incs j' z) m') {ρ' : Rho} {w' : World} (hh' : HR ρ' h1.1 h1.2 w') (he : Ext ρ h0.1 bsA w ρ' h1.1 h1.2 w') : HPI its z Z Rn ρ0 bs0 w0 (S.put it.i) ρ' (k + 1) w' := by
  obtain ⟨hh, k1, k2, k3, k4, k5⟩ := h.hk
  rw [hk0] at k1; injection k1 with k1; subst k1
  have hnone : ∀ j, j < Rn → ρ (incs j z) = none → ρ' (incs j z) = none := fun j hj hn => he.old _ (by rw [incs_val]; omega) hn
  have hback : ∀ j q, j < Rn → ρ' (incs j z) = some q → ρ (incs j z) = some q := fun j q hj hq => by
    cases hr : ρ (incs j z) with
    | none => rw [hnone j hj hr] at hq; cases hq
    | some q' => rw [he.le _ _ hr] at hq; exact hq
  refine ⟨fun it' hm f' q' A' hc' => ?_, ⟨h1, hk1, hh', hX.trans he, Nat.le_trans k4 he.nle, fun it' hm f' j' hc' hs m' hM' hA => ?_⟩, fun it' hm f' j' hc' hs => ?_, fun j1 j2 q1 q2 a1 a2 hq1 hq2 hr => h.inj j1 j2 q1 q2 a1 a2 (hback _ _ a1 hq1) (hback _ _ a2 hq2) hr⟩
  · by_cases e : it'.i = it.i
    · have := ds.same hm hit e; subst this
      rw [hc] at hc'; injection hc' with _ e'
      rw [S.put_self]
      exact ⟨fun _ => by omega, fun _ => rfl⟩
    · rw [S.put_ne e, h.efs it' hm f' q' A' hc']
      have := (ds.ef1 it hit it' hm f (k + 1) A f' q' A' hc hc').2.1
      exact ⟨fun _ => by omega, fun hle => by
        rcases Nat.lt_or_ge q' (k + 1) with hl | hl
        · omega
        · exact absurd (this (by omega)) e⟩
  · have hne : it'.i ≠ it.i := fun e => by have := ds.same hm hit e; subst this; rw [hc] at hc'; cases hc'
    rw [S.put_ne hne] at hs
    have hjA : j' ∉ A := hA it hit f (k + 1) A hc (Nat.le_refl _)
    have hp := k5 it' hm f' j' hc' hs m' hM' fun it2 hm2 f2 q2 A2 hc2 hq2 => hA it2 hm2 f2 q2 A2 hc2 (by omega)
    exact (hP j' m' (ds.rs1 it' hm f' j' hc').1 hjA hp).later he
  · have hne : it'.i ≠ it.i := fun e => by have := ds.same hm hit e; subst this; rw [hc] at hc'; cases hc'
    rw [S.put_ne hne] at hs
    exact hnone _ (ds.rs1 it' hm f' j' hc').1 (h.res it' hm f' j' hc' hs)

end

end Go.Proofs.YtnhgchnhfdimiaaGreatDoor.Ev
