/- What a run leaves as it was: worlds kept, names below 64, smaller heaps; answers that are known. -/
import Derived.Test.YtmbnogellhoheaaGreatDoorEvXq
import Derived.Lib.LaidTab
import Derived.MakeChecks
import Derived.ChangeSame
import Derived.RowKit
import Derived.OpenShut
namespace Go.Proofs.YtmbnogellhoheaaGreatDoor.Ev
open Go
variable {ρ : Rho}

theorem laidVars_at {P : Program} {W : World} : ∀ {l : List (String × DataW Unit)} {ps : List MemPlace}, DataW.LaidVars P W l ps → ∀ x ∈ l,
    ∃ g t cs fuel p, P.globalNamed x.1 = some g ∧ (P.globals[g]?).map (·.type) = some t ∧ W.var? P x.1 = some cs ∧ DataW.trod (fun _ => ()) P W 0 (fun _ => true) false fuel t cs.toList = some (x.2, p)
  | [], _, _, x, hx => by cases hx
  | (n, d) :: r, ps, h, x, hx => by
    obtain ⟨g, t, cs, fuel, p, q, h1, h2, h3, h4, h5, -⟩ := h
    cases hx with
    | head => exact ⟨g, t, cs, fuel, p, h1, h2, h3, h4⟩
    | tail _ hx => exact laidVars_at h5 x hx
/-- What a listed table's block holds. -/
theorem table_of {P : Program} {W : World} {laid : List (String × DataW Unit)} {name : String} {k : IntKind} {zs : List Int} {g n : Nat} {t e E : TypeId} (hp : (laid.all fun x => x.2.handleName?.isNone) = true) (hm : (name, Lib.tabData k zs) ∈ laid)
    (hg : P.globalNamed name = some g) (hty : (P.globals[g]?).map (·.type) = some t) (ht : P.underlying t = some (.array n e)) (he : P.underlying e = some (.int k)) (hce : P.cellsOf e = 1) (hct : P.cellsOf t = n)
    (h : laidMetH P laid W) (hi : (((begin P (fun _ _ => 0) default).world.heap[g]?).bind Obj.row?).map (·.2) = some E) (hgs : g < P.globals.size) (hS : W.ShapedOpen P) :
    ∃ C, W.heap[g]? = some (.cells C E) ∧ C.toList = zs.map fun z => Value.int k z := by
  rw [MakeChecks.laidMetH_plain _ _ _ hp] at h
  obtain ⟨ps, hv, -⟩ := h
  obtain ⟨g', t', cs, fuel, p, h1, h2, h3, h4⟩ := laidVars_at hv _ hm
  obtain rfl := Option.some.inj (hg.symm.trans h1)
  obtain rfl := Option.some.inj (hty.symm.trans h2)
  obtain ⟨⟨zero, E'⟩, hz, rfl⟩ := Option.map_eq_some_iff.1 hi
  obtain ⟨C, hC, -⟩ := hS.1 g zero E' hgs hz
  refine ⟨C, hC, ?_⟩
  unfold World.var? at h3
  rw [hg, Option.bind_some, hC] at h3
  injection h3 with h3
  subst h3
  exact Lib.cells_of_tab ht he hce hct h4

/-- Blocks that were there are as they were. -/
def Kept (W W' : World) : Prop := Evn W W' ∧ ∀ i, i < W.heap.size → W'.heap[i]? = W.heap[i]?
theorem Kept.but {W W' : World} (h : Kept W W') (may : MemPlace → Prop) : W.keptBut W' may := by
  refine ⟨h.1.1, h.1.2, fun i hi => ?_⟩
  rw [h.2 i hi]
  cases hh : W.heap[i]? with
  | none => rfl
  | some o => cases o <;> first | exact ⟨rfl, rfl, rfl, fun _ _ => rfl⟩ | exact .inr ⟨rfl, rfl⟩ | rfl
theorem Kept.frozen {W W' : World} (h : Kept W W') (b off : Nat) (hb : b < W.heap.size) : W'.frozen? ⟨b, off, none⟩ = W.frozen? ⟨b, off, none⟩ := by
  unfold World.frozen?
  show (match W'.heap[b]? with | some (.cells _ _ (lo, hi)) => _ | _ => _) = _
  rw [h.2 b hb]
  rfl
theorem Kept.cell {W W' : World} (h : Kept W W') (b off : Nat) {v : Value} (hc : W.cell? ⟨b, off, none⟩ = some v) : W'.cell? ⟨b, off, none⟩ = some v := by
  have hb : b < W.heap.size := by
    rcases Nat.lt_or_ge b W.heap.size with hh | hh
    · exact hh
    · unfold World.cell? at hc
      rw [show W.heap[(⟨b, off, none⟩ : Addr).block]? = none from Array.getElem?_eq_none hh] at hc
      simp at hc
  unfold World.cell? at hc ⊢
  show _ = some v
  rw [show W'.heap[(⟨b, off, none⟩ : Addr).block]? = W.heap[(⟨b, off, none⟩ : Addr).block]? from h.2 b hb]
  exact hc


theorem Kept.size {W W' : World} (h : Kept W W') : W.heap.size ≤ W'.heap.size := by
  rcases Nat.lt_or_ge W'.heap.size W.heap.size with hh | hh
  · have := h.2 _ hh
    rw [Array.getElem?_eq_none (Nat.le_refl _), Array.getElem?_eq_getElem hh] at this
    cases this
  · exact hh
theorem Kept.refl (W : World) : Kept W W := ⟨Evn.refl W, fun _ _ => rfl⟩
theorem Kept.trans {W W' W'' : World} (h : Kept W W') (h' : Kept W' W'') : Kept W W'' :=
  ⟨h.1.trans h'.1, fun i hi => (h'.2 i (Nat.lt_of_lt_of_le hi h.size)).trans (h.2 i hi)⟩
/-- A heap says the same of a world in which all stays. -/
theorem HR.kept {nx : Pos} {bs : TB} {w w' : World} (h : HR ρ nx bs w) (k : Kept w w') : HR ρ nx bs w' ∧ Ext ρ nx bs w ρ nx bs w' := by
  have h0 : HR0 ρ nx bs w' := ⟨fun id es sz cs hl => by
    obtain ⟨q, h1, h2, h3⟩ := h.live id es sz cs hl
    exact ⟨q, h1, h2, h3.mono (Rho.le_refl ρ) (k.2 _ (h.inside id q h1))⟩, h.apart, h.fresh, fun id q hq => Nat.lt_of_lt_of_le (h.inside id q hq) k.size⟩
  have hx : Ext ρ nx bs w ρ nx bs w' := ⟨Rho.le_refl ρ, k.size, fun b hb _ => k.2 b hb, fun _ _ h => h, Nat.le_refl _, fun _ _ h => h, k.1, fun b hb _ => fzAt_of (k.2 b hb)⟩
  exact ⟨h.step h0 hx, hx⟩

/-! ### values of names below 64 -/
mutual
def Low : V → Prop
  | .u => True
  | .n _ => True
  | .y _ => True
  | .k _ _ => True
  | .b _ => True
  | .s _ _ => True
  | .p0 => True
  | .p id _ => id.val < 64
  | .l0 => True
  | .l id _ _ _ => id.val < 64
  | .f0 => True
  | .f _ cs => Lows cs
  | .g cs => Lows cs
  | .t cs => Lows cs
  | .i0 => True
  | .a _ id => id.val < 64
  | .w cs => Lows cs
def Lows : List V → Prop
  | [] => True
  | c :: cs => Low c ∧ Lows cs
end
mutual
def lowB : V → Bool
  | .p id _ => Nat.ble (Nat.succ id.val) 64
  | .l id _ _ _ => Nat.ble (Nat.succ id.val) 64
  | .f _ cs => lowBs cs
  | .g cs => lowBs cs
  | .t cs => lowBs cs
  | .a _ id => Nat.ble (Nat.succ id.val) 64
  | .w cs => lowBs cs
  | _ => true
def lowBs : List V → Bool
  | [] => true
  | c :: cs => cond (lowB c) (lowBs cs) false
end
mutual
theorem lowB_spec : ∀ v : V, lowB v = true → Low v
  | .u, _ => by simp [Low]
  | .n _, _ => by simp [Low]
  | .y _, _ => by simp [Low]
  | .k _ _, _ => by simp [Low]
  | .b _, _ => by simp [Low]
  | .s _ _, _ => by simp [Low]
  | .p0, _ => by simp [Low]
  | .p id _, h => by simp only [lowB] at h; simp only [Low]; exact Nat.le_of_ble_eq_true h
  | .l0, _ => by simp [Low]
  | .l id _ _ _, h => by simp only [lowB] at h; simp only [Low]; exact Nat.le_of_ble_eq_true h
  | .f0, _ => by simp [Low]
  | .f _ cs, h => by simp only [lowB] at h; simp only [Low]; exact lowBs_spec cs h
  | .g cs, h => by simp only [lowB] at h; simp only [Low]; exact lowBs_spec cs h
  | .t cs, h => by simp only [lowB] at h; simp only [Low]; exact lowBs_spec cs h
  | .i0, _ => by simp [Low]
  | .a _ id, h => by simp only [lowB] at h; simp only [Low]; exact Nat.le_of_ble_eq_true h
  | .w cs, h => by simp only [lowB] at h; simp only [Low]; exact lowBs_spec cs h
theorem lowBs_spec : ∀ cs : List V, lowBs cs = true → Lows cs
  | [], _ => by simp [Lows]
  | c :: cs, h => by
    simp only [lowBs] at h
    obtain ⟨h1, h2⟩ := cond_true' h
    simp only [Lows]
    exact ⟨lowB_spec c h1, lowBs_spec cs h2⟩
end
/-- Two that place the names below 64 alike. -/
def Alike (ρ ρ' : Rho) : Prop := ∀ id, id.val < 64 → ρ' id = ρ id
theorem Alike.symm {ρ ρ' : Rho} (h : Alike ρ ρ') : Alike ρ' ρ := fun id hid => (h id hid).symm
mutual
theorem VR.alike {ρ ρ' : Rho} (h : Alike ρ ρ') : ∀ (v : V) (x : Value), Low v → VR ρ v x → VR ρ' v x
  | .u, _, _, _ => by simp [VR]
  | .n _, x, _, e => by cases x <;> simp only [VR] at e ⊢ <;> first | exact e | exact e.elim
  | .y _, x, _, e => by cases x <;> simp only [VR] at e ⊢ <;> first | exact e | exact e.elim
  | .k _ _, x, _, e => by cases x <;> simp only [VR] at e ⊢ <;> first | exact e | exact e.elim
  | .b _, x, _, e => by cases x <;> simp only [VR] at e ⊢ <;> first | exact e | exact e.elim
  | .s _ _, x, _, e => by cases x <;> simp only [VR] at e ⊢ <;> first | exact e | exact e.elim
  | .p0, x, _, e => by cases x <;> simp only [VR] at e ⊢ <;> first | exact e | exact e.elim
  | .l0, x, _, e => by cases x <;> simp only [VR] at e ⊢ <;> first | exact e | exact e.elim
  | .f0, x, _, e => by cases x <;> simp only [VR] at e ⊢
  | .i0, x, _, e => by cases x <;> simp only [VR] at e ⊢
  | .a k id, x, l, e => by
    simp only [Low] at l
    unfold VR at e ⊢
    obtain ⟨q, e1, e2⟩ := e
    exact ⟨q, by rw [h id l]; exact e1, e2⟩
  | .p id _, x, l, e => by
    simp only [Low] at l
    cases x <;> simp only [VR] at e ⊢
    obtain ⟨q, e1, e2⟩ := e; exact ⟨q, by rw [h id l]; exact e1, e2⟩
  | .l id _ _ _, x, l, e => by
    simp only [Low] at l
    cases x <;> simp only [VR] at e ⊢
    obtain ⟨e1, e2, e3, q, x, e4, e5⟩ := e; exact ⟨e1, e2, e3, q, x, by rw [h id l]; exact e4, e5⟩
  | .f _ cs, x, l, e => by
    simp only [Low] at l
    cases x <;> simp only [VR] at e ⊢
    obtain ⟨j, e1, e2, e3, e4⟩ := e; exact ⟨j, e1, e2, e3, VRs.alike h cs _ l e4⟩
  | .g cs, x, l, e => by simp only [Low] at l; cases x <;> simp only [VR] at e ⊢; exact VRs.alike h cs _ l e
  | .t cs, x, l, e => by simp only [Low] at l; cases x <;> simp only [VR] at e ⊢; exact VRs.alike h cs _ l e
  | .w cs, x, l, e => by simp only [Low] at l; cases x <;> simp only [VR] at e ⊢; exact VRs.alike h cs _ l e
theorem VRs.alike {ρ ρ' : Rho} (h : Alike ρ ρ') : ∀ (cs : List V) (xs : List Value), Lows cs → VRs ρ cs xs → VRs ρ' cs xs
  | [], [], _, _ => by simp [VRs]
  | [], _ :: _, _, e => by simp [VRs] at e
  | _ :: _, [], _, e => by simp [VRs] at e
  | c :: cs, x :: xs, l, e => by simp only [Lows] at l; simp only [VRs] at e ⊢; exact ⟨VR.alike h c x l.1 e.1, VRs.alike h cs xs l.2 e.2⟩
end
/-- Only the names below 64. -/
def lowR (ρ : Rho) : Rho := fun id => if id.val < 64 then ρ id else none
theorem lowR_alike (ρ : Rho) : Alike ρ (lowR ρ) := fun id h => by unfold lowR; rw [if_pos h]
theorem GR.alike {G : Ctx} {ρ ρ' : Rho} (h : Alike ρ ρ') (hg : GR G ρ) : GR G ρ' :=
  ⟨fun g p e => by obtain ⟨h0, q, h1, h2⟩ := hg.glob g p e; exact ⟨h0, q, by rw [h _ h0]; exact h1, h2⟩,
   fun id m e => by obtain ⟨h0, q, h1, h2⟩ := hg.val id m e; exact ⟨h0, q, by rw [h _ h0]; exact h1, h2⟩,
   fun id r o e => by obtain ⟨h0, q, h1, h2⟩ := hg.fxo id r o e; exact ⟨h0, q, by rw [h _ h0]; exact h1, h2⟩,
   fun id x e => by obtain ⟨h0, q, h1, h2⟩ := hg.fxv id x e; exact ⟨h0, q, by rw [h _ h0]; exact h1, h2⟩, hg.ok⟩
theorem pos64 : (pos 64).val = 64 := pos_val 64
theorem own_e {ρ : Rho} {b : Nat} : ¬ Own ρ .e b := by
  rintro ⟨id, es, sz, cs, q, hl, -⟩
  unfold Live at hl; rw [TB.get_e] at hl; cases hl
/-- The heap with nothing in it. -/
theorem HR.low {nx : Pos} {bs : TB} {w : World} (h : HR ρ nx bs w) : HR (lowR ρ) (pos 64) .e w := by
  refine ⟨⟨fun id es sz cs hl => ?_, fun id id' es sz cs es' sz' cs' q q' hl => ?_, fun id hid => ?_, fun id q hq => ?_⟩, by rw [pos64]; exact Nat.le_refl _, fun id q o h1 h2 h3 => ⟨?_, own_e⟩⟩
  · unfold Live at hl; rw [TB.get_e] at hl; cases hl
  · unfold Live at hl; rw [TB.get_e] at hl; cases hl
  · rw [pos64] at hid
    exact ⟨by unfold lowR; rw [if_neg (by omega)], TB.get_e id⟩
  · unfold lowR at hq
    split at hq
    · exact h.inside id q hq
    · cases hq
  · rw [lowR_alike ρ id h1] at h2
    exact (h.fix id q o h1 h2 h3).1
/-- Behind a run that began so the names below 64 are placed as before. -/
theorem Ext.alike {ρ' : Rho} {nx nx' : Pos} {bs bs' : TB} {w w' : World} (hb : 64 ≤ nx.val) (h : Ext ρ nx bs w ρ' nx' bs' w') : Alike ρ ρ' := fun id hid => by
  cases e : ρ id with
  | none => exact h.old id (by omega) e
  | some q => exact h.le id q e
theorem Alike.trans {ρ ρ' ρ'' : Rho} (h : Alike ρ ρ') (h' : Alike ρ' ρ'') : Alike ρ ρ'' := fun id hid => (h' id hid).trans (h id hid)

/-! ### smaller heaps -/
def Sub (bs' bs : TB) : Prop := ∀ id es sz cs, Live bs' id es sz cs → ∃ cs0, Live bs id es sz cs0 ∧ ∀ k, k < sz → cs.at (k + 1) = cs0.at (k + 1)
theorem Sub.own {bs' bs : TB} (h : Sub bs' bs) {b : Nat} (ho : Own ρ bs' b) : Own ρ bs b := by
  obtain ⟨id, es, sz, cs, q, hl, h1, h2⟩ := ho
  obtain ⟨cs0, hl0, -⟩ := h id es sz cs hl
  exact ⟨id, es, sz, cs0, q, hl0, h1, h2⟩
theorem HR.weaken {nx nx' : Pos} {bs bs' : TB} {w : World} (h : HR ρ nx bs w) (hs : Sub bs' bs) (hn : nx.val ≤ nx'.val) : HR ρ nx' bs' w := by
  refine ⟨⟨fun id es sz cs hl => ?_, fun id id' es sz cs es' sz' cs' q q' hl hl' h1 h2 h3 => ?_, fun id hid => ?_, h.inside⟩, Nat.le_trans h.base hn, fun id q o h1 h2 h3 => ⟨(h.fix id q o h1 h2 h3).1, fun ho => (h.fix id q o h1 h2 h3).2 (hs.own ho)⟩⟩
  · obtain ⟨cs0, hl0, hc⟩ := hs id es sz cs hl
    obtain ⟨q, h1, h2, C, fz, g1, g2, g3, g4⟩ := h.live id es sz cs0 hl0
    exact ⟨q, h1, h2, C, fz, g1, g2, fun k hk => by rw [hc k hk]; exact g3 k hk, g4⟩
  · obtain ⟨c1, hl1, -⟩ := hs id es sz cs hl
    obtain ⟨c2, hl2, -⟩ := hs id' es' sz' cs' hl'
    exact h.apart id id' es sz c1 es' sz' c2 q q' hl1 hl2 h1 h2 h3
  · have hf := h.fresh id (by omega)
    refine ⟨hf.1, ?_⟩
    cases e : bs'.get id with
    | none => rfl
    | mk es sz cs =>
      obtain ⟨cs0, hl0, -⟩ := hs id es sz cs e
      unfold Live at hl0; rw [hf.2] at hl0; cases hl0
theorem Ext.weaken {ρ' : Rho} {nx nx' nx'' : Pos} {bs bs' bs'' bsS : TB} {w w' : World} (h : Ext ρ nx bsS w ρ' nx' bs' w') (hs : Sub bsS bs) (hs' : Sub bs'' bs') (hn : nx'.val ≤ nx''.val) : Ext ρ nx bs w ρ' nx'' bs'' w' :=
  ⟨h.le, h.size, fun b hb ho => h.keep b hb fun hh => ho (hs.own hh), fun b hb ho => hs.own (h.own b hb (hs'.own ho)), Nat.le_trans h.nle hn, h.old, h.env, fun b hb ho => h.frz b hb (hs'.own ho)⟩
noncomputable def bkSub (b b0 : Bk) : Bool := Bk.casesOn b true fun es sz cs => Bk.casesOn b0 false fun es0 sz0 cs0 => cond (Nat.beq es es0) (cond (Nat.beq sz sz0) (veqs (cs.take sz 1) (cs0.take sz 1)) false) false
noncomputable def tbSub (t : TB) : TB → Bool := TB.rec (motive := fun _ => TB → Bool) (fun _ => true) (fun b _ _ _ _ _ _ _ _ i0 i1 i2 i3 i4 i5 i6 i7 t0 => TB.casesOn t0 (cond (bkSub b .none) (cond (i0 .e) (cond (i1 .e) (cond (i2 .e) (cond (i3 .e) (cond (i4 .e) (cond (i5 .e) (cond (i6 .e) (i7 .e) false) false) false) false) false) false) false) false) fun b0 s0 s1 s2 s3 s4 s5 s6 s7 => (cond (bkSub b b0) (cond (i0 s0) (cond (i1 s1) (cond (i2 s2) (cond (i3 s3) (cond (i4 s4) (cond (i5 s5) (cond (i6 s6) (i7 s7) false) false) false) false) false) false) false) false)) t
theorem bkSub_spec {b b0 : Bk} (h : bkSub b b0 = true) {es sz : Nat} {cs : TV} (hb : b = .mk es sz cs) : ∃ cs0, b0 = .mk es sz cs0 ∧ ∀ k, k < sz → cs.at (k + 1) = cs0.at (k + 1) := by
  subst hb
  cases b0 with
  | none => cases h
  | mk es0 sz0 cs0 =>
    have h : cond (Nat.beq es es0) (cond (Nat.beq sz sz0) (veqs (cs.take sz 1) (cs0.take sz 1)) false) false = true := h
    obtain ⟨h1, h2⟩ := cond_true' h
    obtain ⟨h2, h3⟩ := cond_true' h2
    have h1 := Nat.eq_of_beq_eq_true h1
    have h2 := Nat.eq_of_beq_eq_true h2
    subst h1; subst h2
    refine ⟨cs0, rfl, fun k hk => ?_⟩
    have h4 := TV.take_get cs sz 1 k hk
    rw [veqs_eq h3, TV.take_get cs0 sz 1 k hk] at h4
    injection h4 with h4
    rw [show 1 + k = k + 1 by omega] at h4
    exact h4.symm
theorem tbSub_spec : ∀ (t t0 : TB), tbSub t t0 = true → Sub t t0 := by
  intro t
  induction t with
  | e => intro t0 _ id es sz cs hl; unfold Live at hl; rw [TB.get_e] at hl; cases hl
  | n b t0 t1 t2 t3 t4 t5 t6 t7 ih0 ih1 ih2 ih3 ih4 ih5 ih6 ih7 =>
    intro t0 h id es sz cs hl
    cases t0 with
    | e =>
      have h : (cond (bkSub b .none) (cond (tbSub t0 .e) (cond (tbSub t1 .e) (cond (tbSub t2 .e) (cond (tbSub t3 .e) (cond (tbSub t4 .e) (cond (tbSub t5 .e) (cond (tbSub t6 .e) (tbSub t7 .e) false) false) false) false) false) false) false) false) = true := h
      obtain ⟨h, g0⟩ := cond_true' h
      obtain ⟨k0, g1⟩ := cond_true' g0
      obtain ⟨k1, g2⟩ := cond_true' g1
      obtain ⟨k2, g3⟩ := cond_true' g2
      obtain ⟨k3, g4⟩ := cond_true' g3
      obtain ⟨k4, g5⟩ := cond_true' g4
      obtain ⟨k5, g6⟩ := cond_true' g5
      obtain ⟨k6, g7⟩ := cond_true' g6
      cases id with
      | h => obtain ⟨cs0, e, hk⟩ := bkSub_spec h (hb := hl); cases e
      | c0 p => obtain ⟨cs0, e, hk⟩ := ih0 .e k0 p es sz cs hl; unfold Live at e; rw [TB.get_e] at e; cases e
      | c1 p => obtain ⟨cs0, e, hk⟩ := ih1 .e k1 p es sz cs hl; unfold Live at e; rw [TB.get_e] at e; cases e
      | c2 p => obtain ⟨cs0, e, hk⟩ := ih2 .e k2 p es sz cs hl; unfold Live at e; rw [TB.get_e] at e; cases e
      | c3 p => obtain ⟨cs0, e, hk⟩ := ih3 .e k3 p es sz cs hl; unfold Live at e; rw [TB.get_e] at e; cases e
      | c4 p => obtain ⟨cs0, e, hk⟩ := ih4 .e k4 p es sz cs hl; unfold Live at e; rw [TB.get_e] at e; cases e
      | c5 p => obtain ⟨cs0, e, hk⟩ := ih5 .e k5 p es sz cs hl; unfold Live at e; rw [TB.get_e] at e; cases e
      | c6 p => obtain ⟨cs0, e, hk⟩ := ih6 .e k6 p es sz cs hl; unfold Live at e; rw [TB.get_e] at e; cases e
      | c7 p => obtain ⟨cs0, e, hk⟩ := ih7 .e g7 p es sz cs hl; unfold Live at e; rw [TB.get_e] at e; cases e
    | n b0 s0 s1 s2 s3 s4 s5 s6 s7 =>
      have h : (cond (bkSub b b0) (cond (tbSub t0 s0) (cond (tbSub t1 s1) (cond (tbSub t2 s2) (cond (tbSub t3 s3) (cond (tbSub t4 s4) (cond (tbSub t5 s5) (cond (tbSub t6 s6) (tbSub t7 s7) false) false) false) false) false) false) false) false) = true := h
      obtain ⟨h, g0⟩ := cond_true' h
      obtain ⟨k0, g1⟩ := cond_true' g0
      obtain ⟨k1, g2⟩ := cond_true' g1
      obtain ⟨k2, g3⟩ := cond_true' g2
      obtain ⟨k3, g4⟩ := cond_true' g3
      obtain ⟨k4, g5⟩ := cond_true' g4
      obtain ⟨k5, g6⟩ := cond_true' g5
      obtain ⟨k6, g7⟩ := cond_true' g6
      cases id with
      | h => exact bkSub_spec h (hb := hl)
      | c0 p => exact ih0 s0 k0 p es sz cs hl
      | c1 p => exact ih1 s1 k1 p es sz cs hl
      | c2 p => exact ih2 s2 k2 p es sz cs hl
      | c3 p => exact ih3 s3 k3 p es sz cs hl
      | c4 p => exact ih4 s4 k4 p es sz cs hl
      | c5 p => exact ih5 s5 k5 p es sz cs hl
      | c6 p => exact ih6 s6 k6 p es sz cs hl
      | c7 p => exact ih7 s7 g7 p es sz cs hl
theorem sub_e (bs : TB) : Sub .e bs := fun id es sz cs hl => by unfold Live at hl; rw [TB.get_e] at hl; cases hl
theorem sub_refl (bs : TB) : Sub bs bs := fun _ _ _ cs hl => ⟨cs, hl, fun _ _ => rfl⟩

/-! ### values of two storeys -/
noncomputable def veqG (cs ds : List V) : Bool := List.rec (motive := fun _ => List V → Bool) (fun ds => List.casesOn ds true fun _ _ => false) (fun c _ ih ds => List.casesOn ds false fun d ds => cond (veq c d) (ih ds) false) cs ds
theorem veqG_eq : ∀ {cs ds : List V}, veqG cs ds = true → cs = ds
  | [], [], _ => rfl
  | [], _ :: _, h => by cases h
  | _ :: _, [], h => by cases h
  | c :: cs, d :: ds, h => by
    obtain ⟨h1, h2⟩ := cond_true' (c := veq c d) (x := veqG cs ds) h
    rw [veq_eq h1, veqG_eq h2]
/-- Equal values: tuples of structs too. -/
noncomputable def veqT (x y : V) : Bool := cond (veq x y) true (asT x false fun cs => asT y false fun ds => veqG cs ds)
theorem asT_true {v : V} {k : List V → Bool} (h : asT v false k = true) : ∃ cs, v = .t cs ∧ k cs = true := by
  cases v <;> first | exact ⟨_, rfl, h⟩ | (have h : false = true := h; cases h)
theorem veqT_eq {x y : V} (h : veqT x y = true) : x = y := by
  unfold veqT at h
  cases e : veq x y with
  | true => exact veq_eq e
  | false =>
    rw [e, cond_false] at h
    obtain ⟨cs, rfl, h1⟩ := asT_true h
    obtain ⟨ds, rfl, h2⟩ := asT_true h1
    rw [veqG_eq h2]

/-! ### answers that are known: of whatever heap -/
/-- A run from nothing gives this value. -/
noncomputable def chkP (r : RC) (v : V) : Bool := RC.rec (motive := fun _ => Bool) false (fun v0 _ _ => veqT v v0) r
theorem chkP_spec {r : RC} {v : V} (h : chkP r v = true) : ∃ nx bs, r = .mk v nx bs := by
  cases r with
  | fail => cases h
  | mk v0 nx bs => exact ⟨nx, bs, by rw [veqT_eq (x := v) (y := v0) h]⟩
/-- What a function gives at arguments that are known, whatever the heap. -/
def PureOk (P : Program) (G : Ctx) (f : FuncId) (as : List V) (v : V) : Prop :=
  ∀ (ρ : Rho) (xs : Array Value) (nx : Pos) (bs : TB) (w : World), GR G ρ → VRs ρ as xs.toList → HR ρ nx bs w →
    (callFunc f xs).run P w = .ok (.enter f xs) w ∧ Calls P f xs w fun e w' => ∃ y, e = .returned y ∧ VR ρ v y ∧ Kept w w'
theorem pureOk_of {P : Program} {G G' : Ctx} {F : CallF} (hF : CallSnd P G' F) (e1 : G'.glob = G.glob) (e2 : G'.tab.val = G.tab.val) (e3 : G'.tab.fx = G.tab.fx) (hok : G'.tab.OK) {f : FuncId} {as : List V} {v : V}
    (hl : lowBs as = true) (hv : lowB v = true) (h : chkP (F (pos f) as (pos 64) .e) v = true) : PureOk P G f as v := by
  obtain ⟨nx0, bs0, he⟩ := chkP_spec h
  intro ρ xs nx bs w hg ha hh
  obtain ⟨k1, k2⟩ := hF (lowR ρ) f as xs (pos 64) nx0 .e bs0 v w ((hg.alike (lowR_alike ρ)).other e1 e2 e3 hok) (VRs.alike (lowR_alike ρ) as _ (lowBs_spec as hl) ha) hh.low he
  refine ⟨k1, k2.mono ?_⟩
  rintro e w' ⟨y, ρ', rfl, h1, h2, h3⟩
  have hal : Alike ρ ρ' := (lowR_alike ρ).trans (h3.alike (by rw [pos64]; exact Nat.le_refl _))
  exact ⟨y, rfl, VR.alike hal.symm v y (lowB_spec v hv) h1, h3.env, fun i hi => h3.keep i hi own_e⟩
noncomputable def memoV (l : List (List V × V)) : FN := fun _ as nx bs => List.rec (motive := fun _ => RC) .fail (fun p _ ih => cond (veqG p.1 as) (.mk p.2 nx bs) ih) l
inductive AllP (P : Program) (G : Ctx) (f : FuncId) : List (List V × V) → Prop
  | nil : AllP P G f []
  | cons {as : List V} {v : V} {l : List (List V × V)} (h : PureOk P G f as v) (r : AllP P G f l) : AllP P G f ((as, v) :: l)
theorem memoV_get {P : Program} {G : Ctx} {f : FuncId} {F : CallF} {as : List V} {nx nx' : Pos} {bs bs' : TB} {v : V} : ∀ {l : List (List V × V)}, AllP P G f l → memoV l F as nx bs = .mk v nx' bs' → PureOk P G f as v ∧ nx' = nx ∧ bs' = bs
  | [], _, h => by cases h
  | p :: l, hl, h => by
    obtain ⟨as0, v0⟩ := p
    cases hl with
    | cons h0 r =>
      have h : cond (veqG as0 as) (.mk v0 nx bs) (memoV l F as nx bs) = .mk v nx' bs' := h
      cases e : veqG as0 as with
      | true =>
        rw [e, cond_true] at h
        injection h with e1 e2 e3
        rw [← veqG_eq e, ← e1]
        exact ⟨h0, e2.symm, e3.symm⟩
      | false =>
        rw [e, cond_false] at h
        exact memoV_get r h
theorem memoV_snd {P : Program} {G : Ctx} {f : FuncId} {l : List (List V × V)} (hl : AllP P G f l) : FnS P G f (memoV l) := by
  intro F hF ρ as xs nx nx' bs bs' v w hg hv hh hk
  obtain ⟨h1, rfl, rfl⟩ := memoV_get hl hk
  obtain ⟨k1, k2⟩ := h1 ρ xs nx' bs' w hg hv hh
  refine ⟨k1, k2.mono ?_⟩
  rintro e w' ⟨y, rfl, h2, h3⟩
  obtain ⟨h4, h5⟩ := hh.kept h3
  exact ⟨y, ρ, rfl, h2, h4, h5⟩

/-! ### answers that are known: of a heap that is known -/
structure ME where
  as : List V
  nx : Pos
  bs : TB
  v : V
  nx' : Pos
  bs' : TB
def CallOk (P : Program) (G : Ctx) (f : FuncId) (m : ME) : Prop :=
  ∀ (ρ : Rho) (xs : Array Value) (w : World), GR G ρ → VRs ρ m.as xs.toList → HR ρ m.nx m.bs w →
    (callFunc f xs).run P w = .ok (.enter f xs) w ∧ Calls P f xs w fun e w' => ∃ y ρ', e = .returned y ∧ VR ρ' m.v y ∧ HR ρ' m.nx' m.bs' w' ∧ Ext ρ m.nx m.bs w ρ' m.nx' m.bs' w'
noncomputable def chkX (r : RC) (v : V) (nx : Pos) (bs : TB) : Bool := RC.rec (motive := fun _ => Bool) false (fun v0 nx0 bs0 => cond (veqT v v0) (cond (Nat.ble nx0.val nx.val) (tbSub bs bs0) false) false) r
theorem chkX_spec {r : RC} {v : V} {nx : Pos} {bs : TB} (h : chkX r v nx bs = true) : ∃ nx0 bs0, r = .mk v nx0 bs0 ∧ nx0.val ≤ nx.val ∧ Sub bs bs0 := by
  cases r with
  | fail => cases h
  | mk v0 nx0 bs0 =>
    have h : cond (veqT v v0) (cond (Nat.ble nx0.val nx.val) (tbSub bs bs0) false) false = true := h
    obtain ⟨h1, h2⟩ := cond_true' h
    obtain ⟨h2, h3⟩ := cond_true' h2
    exact ⟨nx0, bs0, by rw [veqT_eq h1], Nat.le_of_ble_eq_true h2, tbSub_spec _ _ h3⟩
theorem callOk_of {P : Program} {G G' : Ctx} {F : CallF} (hF : CallSnd P G' F) (e1 : G'.glob = G.glob) (e2 : G'.tab.val = G.tab.val) (e3 : G'.tab.fx = G.tab.fx) (hok : G'.tab.OK) {f : FuncId} {m : ME}
    (h : chkX (F (pos f) m.as m.nx m.bs) m.v m.nx' m.bs' = true) : CallOk P G f m := by
  obtain ⟨nx0, bs0, he, hn, hs⟩ := chkX_spec h
  intro ρ xs w hg ha hh
  obtain ⟨k1, k2⟩ := hF ρ f m.as xs m.nx nx0 m.bs bs0 m.v w (hg.other e1 e2 e3 hok) ha hh he
  refine ⟨k1, k2.mono ?_⟩
  rintro e w' ⟨y, ρ', rfl, h1, h2, h3⟩
  exact ⟨y, ρ', rfl, h1, h2.weaken hs hn, h3.weaken (sub_refl _) hs hn⟩
noncomputable def memoX (l : List ME) : FN := fun _ as nx bs => List.rec (motive := fun _ => RC) .fail (fun m _ ih => cond (veqG m.as as) (cond (posEq m.nx nx) (cond (tbSub m.bs bs) (.mk m.v m.nx' m.bs') ih) ih) ih) l
inductive AllX (P : Program) (G : Ctx) (f : FuncId) : List ME → Prop
  | nil : AllX P G f []
  | cons {m : ME} {l : List ME} (h : CallOk P G f m) (r : AllX P G f l) : AllX P G f (m :: l)
theorem memoX_get {P : Program} {G : Ctx} {f : FuncId} {F : CallF} {as : List V} {nx nx' : Pos} {bs bs' : TB} {v : V} : ∀ {l : List ME}, AllX P G f l → memoX l F as nx bs = .mk v nx' bs' → ∃ m, CallOk P G f m ∧ m.as = as ∧ m.nx = nx ∧ Sub m.bs bs ∧ m.v = v ∧ m.nx' = nx' ∧ m.bs' = bs'
  | [], _, h => by cases h
  | m :: l, hl, h => by
    cases hl with
    | cons h0 r =>
      have h : cond (veqG m.as as) (cond (posEq m.nx nx) (cond (tbSub m.bs bs) (.mk m.v m.nx' m.bs') (memoX l F as nx bs)) (memoX l F as nx bs)) (memoX l F as nx bs) = .mk v nx' bs' := h
      cases e : veqG m.as as with
      | false => rw [e, cond_false] at h; exact memoX_get r h
      | true =>
        rw [e, cond_true] at h
        cases e2 : posEq m.nx nx with
        | false => rw [e2, cond_false] at h; exact memoX_get r h
        | true =>
          rw [e2, cond_true] at h
          cases e3 : tbSub m.bs bs with
          | false => rw [e3, cond_false] at h; exact memoX_get r h
          | true =>
            rw [e3, cond_true] at h
            injection h with f1 f2 f3
            exact ⟨m, h0, veqG_eq e, posEq_eq e2, tbSub_spec _ _ e3, f1, f2, f3⟩
theorem memoX_snd {P : Program} {G : Ctx} {f : FuncId} {l : List ME} (hl : AllX P G f l) : FnS P G f (memoX l) := by
  intro F hF ρ as xs nx nx' bs bs' v w hg hv hh hk
  obtain ⟨m, h1, rfl, rfl, h2, rfl, rfl, rfl⟩ := memoX_get hl hk
  obtain ⟨k1, k2⟩ := h1 ρ xs w hg hv (hh.weaken h2 (Nat.le_refl _))
  refine ⟨k1, k2.mono ?_⟩
  rintro e w' ⟨y, ρ', rfl, h3, h4, h5⟩
  exact ⟨y, ρ', rfl, h3, h4, h5.weaken h2 (sub_refl _) (Nat.le_refl _)⟩

end Go.Proofs.YtmbnogellhoheaaGreatDoor.Ev

/- A table that a run reads and leaves as it was; blocks that come in under a new name. -/
namespace Go.Proofs.YtmbnogellhoheaaGreatDoor.Ev
open Go
variable {ρ : Rho}

/-- The name of a number, by its figures. -/
noncomputable def pb (n : Nat) : Pos := Nat.rec (motive := fun _ => Nat → Pos) (fun _ => .h) (fun _ ih n => Bool.rec (motive := fun _ => Pos) (Bool.rec (motive := fun _ => Pos) (Bool.rec (motive := fun _ => Pos) (Bool.rec (motive := fun _ => Pos) (Bool.rec (motive := fun _ => Pos) (Bool.rec (motive := fun _ => Pos) (Bool.rec (motive := fun _ => Pos) (Bool.rec (motive := fun _ => Pos) (.c7 (ih (Nat.div (Nat.sub n 1) 8))) (.c6 (ih (Nat.div (Nat.sub n 1) 8))) (Nat.beq (Nat.mod (Nat.sub n 1) 8) 6)) (.c5 (ih (Nat.div (Nat.sub n 1) 8))) (Nat.beq (Nat.mod (Nat.sub n 1) 8) 5)) (.c4 (ih (Nat.div (Nat.sub n 1) 8))) (Nat.beq (Nat.mod (Nat.sub n 1) 8) 4)) (.c3 (ih (Nat.div (Nat.sub n 1) 8))) (Nat.beq (Nat.mod (Nat.sub n 1) 8) 3)) (.c2 (ih (Nat.div (Nat.sub n 1) 8))) (Nat.beq (Nat.mod (Nat.sub n 1) 8) 2)) (.c1 (ih (Nat.div (Nat.sub n 1) 8))) (Nat.beq (Nat.mod (Nat.sub n 1) 8) 1)) (.c0 (ih (Nat.div (Nat.sub n 1) 8))) (Nat.beq (Nat.mod (Nat.sub n 1) 8) 0)) .h (Nat.beq n 0)) 20 n
noncomputable def tab0 : ATab := ⟨fun _ => none, fun _ => none, fun _ _ _ => none, fun _ _ => none⟩
theorem tab0_ok : tab0.OK := ⟨fun _ _ _ _ _ _ h => (nomatch h), fun _ _ _ _ _ h => (nomatch h)⟩
noncomputable def tb1 (E : TypeId) (zs : List Nat) : TB := TB.set .h (.mk (E * 65536) zs.length (into (zs.map V.y) .e 1)) .e
/-- Names placed at the beginning: the table's alone. -/
def rho1 (g es sz : Nat) : Rho := fun id => match id with
  | .h => some ⟨g, 0, sz, es, none, none⟩
  | _ => none
theorem hr1 {g E : Nat} {zs : List Nat} {W : World} {C : Array Value} (hC : W.heap[g]? = some (.cells C E)) (hz : C.toList = zs.map fun (z : Nat) => Value.int .u8 z) (h256 : ∀ z ∈ zs, z < 256) (hb : zs.length ≤ 1099511627775) : HR (rho1 g (E * 65536) zs.length) (pos 64) (tb1 E zs) W := by
  have hlt : g < W.heap.size := by
    rcases Nat.lt_or_ge g W.heap.size with hh | hh
    · exact hh
    · rw [Array.getElem?_eq_none hh] at hC; cases hC
  have hsz : C.size = zs.length := by
    have := congrArg List.length hz
    simpa using this
  have hlive : ∀ id es sz cs, Live (tb1 E zs) id es sz cs → id = .h ∧ es = E * 65536 ∧ sz = zs.length ∧ cs = into (zs.map V.y) .e 1 := fun id es sz cs hl => by
    rcases live_set hl with ⟨h1, h2, h3, h4⟩ | ⟨-, hl⟩
    · exact ⟨h1, h2, h3, h4⟩
    · unfold Live at hl; rw [TB.get_e] at hl; cases hl
  refine ⟨⟨fun id es sz cs hl => ?_, fun id id' es sz cs es' sz' cs' q q' hl hl' _ _ _ => ?_, fun id hid => ?_, fun id q hq => ?_⟩, by rw [pos64]; exact Nat.le_refl _, fun id q o _ hq ho => ?_⟩
  · obtain ⟨rfl, rfl, rfl, rfl⟩ := hlive _ _ _ _ hl
    refine ⟨_, rfl, ⟨rfl, fun _ => rfl⟩, C, (0, 0), ?_, hsz, fun k hk => ?_, fun k _ _ => by simp⟩
    · rw [Nat.mul_div_cancel _ (by decide)]; exact hC
    · have hk' : k < zs.length := hk
      refine ⟨.int .u8 (zs[k]), ?_, ?_⟩
      · have : C.toList[k]? = some (Value.int .u8 (zs[k])) := by rw [hz, List.getElem?_map, List.getElem?_eq_getElem hk']; rfl
        simpa using this
      · rw [into_at' (zs.map V.y) k (.y zs[k]) (by rw [List.getElem?_map, List.getElem?_eq_getElem hk']; rfl) (by simpa using hb)]
        unfold VR
        exact ⟨rfl, h256 _ (List.getElem_mem hk'), rfl⟩
  · rw [(hlive _ _ _ _ hl).1, (hlive _ _ _ _ hl').1]
  · rw [pos64] at hid
    have hne : id ≠ .h := fun e => by subst e; simp [Pos.val] at hid
    refine ⟨?_, ?_⟩
    · unfold rho1
      split
      · exact absurd rfl hne
      · rfl
    · unfold tb1
      rw [TB.get_set_ne _ (Ne.symm hne), TB.get_e]
  · unfold rho1 at hq
    split at hq
    · injection hq with hq; subst hq; exact hlt
    · cases hq
  · unfold rho1 at hq
    split at hq
    · injection hq with hq; subst hq; cases ho
    · cases hq

/-- A block that was not placed comes in under the next name. -/
theorem HR.join {nx : Pos} {bs : TB} {w : World} (h : HR ρ nx bs w) {x : Pl} (hob : x.ob = none) {es sz : Nat} {cs : TV} (hs : x.s = es ∧ (es % 65536 = 0 → x.o = 0)) (hb : BR ρ w sz cs x) (hr : ∀ id q, ρ id = some q → q.r ≠ x.r) (hlt : x.r < w.heap.size) :
    HR (upd ρ nx x) nx.inc (bs.set nx (.mk es sz cs)) w := by
  have hle : ρ.le (upd ρ nx x) := upd_le h.toHR0 x
  have hown : ∀ b, Own (upd ρ nx x) (bs.set nx (.mk es sz cs)) b → b = x.r ∨ Own ρ bs b := by
    rintro b ⟨id, es', sz', cs', q, hl, h1, hq⟩
    rcases live_set hl with ⟨rfl, -, -⟩ | ⟨hne, hl⟩
    · rw [upd_same] at h1; injection h1 with h1; subst h1; exact .inl hq.symm
    · rw [upd_ne ρ _ hne] at h1; exact .inr ⟨id, es', sz', cs', q, hl, h1, hq⟩
  refine ⟨⟨?_, ?_, ?_, ?_⟩, by rw [Pos.inc_val]; have := h.base; omega, fun id q o h1 h2 h3 => ?_⟩
  · intro id es' sz' cs' hl
    rcases live_set hl with ⟨rfl, rfl, rfl, rfl⟩ | ⟨hne, hl⟩
    · exact ⟨x, upd_same .., hs, hb.mono hle rfl⟩
    · obtain ⟨q, h1, h2, h3⟩ := h.live id es' sz' cs' hl
      exact ⟨q, hle _ _ h1, h2, h3.mono hle rfl⟩
  · intro id id' es1 sz1 cs1 es2 sz2 cs2 q q' hl hl' h1 h2 hqq
    rcases live_set hl with ⟨rfl, -, -⟩ | ⟨hne, hm⟩ <;> rcases live_set hl' with ⟨e2, -, -⟩ | ⟨hne', hm'⟩
    · exact e2.symm
    · rw [upd_same] at h1; rw [upd_ne ρ _ hne'] at h2
      injection h1 with h1; subst h1
      exact absurd hqq.symm (hr _ _ h2)
    · subst e2
      rw [upd_same] at h2; rw [upd_ne ρ _ hne] at h1
      injection h2 with h2; subst h2
      exact absurd hqq (hr _ _ h1)
    · rw [upd_ne ρ _ hne] at h1; rw [upd_ne ρ _ hne'] at h2
      exact h.apart _ _ _ _ _ _ _ _ _ _ hm hm' h1 h2 hqq
  · intro id hid
    rw [Pos.inc_val] at hid
    have hne : id ≠ nx := Pos.ne_of_val (by omega)
    rw [upd_ne ρ _ hne, TB.get_set_ne _ (Ne.symm hne)]
    exact h.fresh id (by omega)
  · intro id q h1
    by_cases hi : id = nx
    · subst hi; rw [upd_same] at h1; injection h1 with h1; subst h1; exact hlt
    · rw [upd_ne ρ _ hi] at h1; exact h.inside _ _ h1
  · by_cases hi : id = nx
    · subst hi; rw [upd_same] at h2; injection h2 with h2; subst h2; rw [hob] at h3; cases h3
    · rw [upd_ne ρ _ hi] at h2
      obtain ⟨k1, k2⟩ := h.fix id q o h1 h2 h3
      refine ⟨k1, fun ho => ?_⟩
      rcases hown _ ho with e | ho
      · exact hr _ _ h2 e
      · exact k2 ho

noncomputable def isSome' (o : Option Unit) : Bool := Option.casesOn o false fun _ => true
/-- The table is as it was. -/
noncomputable def tblOk (zs : List Nat) (bs : TB) : Option Unit := bk bs .h fun _ sz cs => cond (Nat.ble zs.length sz) (cond (veqs (cs.take zs.length 1) (zs.map V.y)) (some ()) none) none
theorem isSome'_spec {o : Option Unit} (h : isSome' o = true) : o = some () := by cases o with | none => cases h | some u => rfl
/-- The table's block, behind a run that leaves it as it was. -/
theorem table_kept {g E : Nat} {zs : List Nat} {w w' : World} {C : Array Value} (hC : w.heap[g]? = some (.cells C E)) (hz : C.toList = zs.map fun (z : Nat) => Value.int .u8 z) {ρ' : Rho} {nx : Pos} {bs : TB} (hh : HR ρ' nx bs w') (hx : Ext (rho1 g (E * 65536) zs.length) (pos 64) (tb1 E zs) w ρ' nx bs w')
    {es sz : Nat} {cs : TV} (hl : Live bs .h es sz cs) (hsz : zs.length ≤ sz) (ht : cs.take zs.length 1 = zs.map V.y) : Kept w w' := by
  have hlt : g < w.heap.size := by
    rcases Nat.lt_or_ge g w.heap.size with h | h
    · exact h
    · rw [Array.getElem?_eq_none h] at hC; cases hC
  refine ⟨hx.env, fun i hi => ?_⟩
  by_cases hi3 : i = g
  · subst hi3
    obtain ⟨q, hq, hqs, C', fz, hC', hsz', hcells, -⟩ := hh.live _ _ _ _ hl
    have hq0 := hx.le .h _ rfl
    rw [hq] at hq0; injection hq0 with hq0; subst hq0
    have hown : Own ρ' bs i := ⟨.h, es, sz, cs, _, hl, hq, rfl⟩
    have hfz := hx.frz i hi hown
    rw [fzAt_cells hC, fzAt_cells hC'] at hfz
    injection hfz with hfz; subst hfz
    have hE : E * 65536 / 65536 = E := Nat.mul_div_cancel _ (by decide)
    have hC2 : w'.heap[i]? = some (.cells C' (E * 65536 / 65536) (0, 0)) := hC'
    rw [hE] at hC2
    rw [hC2, hC]
    have hCC : C' = C := by
      apply Array.ext'
      rw [hz]
      apply List.ext_getElem?
      intro k
      by_cases hkl : k < zs.length
      · obtain ⟨x, hx1, hx2⟩ := hcells k (by omega)
        have ht2 := TV.take_get cs zs.length 1 k hkl
        rw [ht, List.getElem?_map, List.getElem?_eq_getElem hkl] at ht2
        injection ht2 with ht2
        rw [show 1 + k = k + 1 by omega] at ht2
        rw [← ht2] at hx2
        have hx3 : x = .int .u8 zs[k] := by
          cases x <;> simp only [VR] at hx2
          obtain ⟨rfl, -, rfl⟩ := hx2; rfl
        subst hx3
        rw [List.getElem?_map, List.getElem?_eq_getElem hkl]
        have hx1 : C'[0 + k]? = some (Value.int .u8 zs[k]) := hx1
        rw [Nat.zero_add] at hx1
        simpa using hx1
      · have hs : C'.size = zs.length := hsz'
        rw [List.getElem?_eq_none (by simp; omega), List.getElem?_eq_none (by simp; omega)]
    rw [hCC]
  · refine hx.keep i hi fun ⟨id, es', sz', cs', q, h1, h2, h3⟩ => hi3 ?_
    rcases live_set h1 with ⟨rfl, -, -, -⟩ | ⟨-, h1⟩
    · injection h2 with h2; subst h2; exact h3.symm
    · unfold Live at h1; rw [TB.get_e] at h1; cases h1
end Go.Proofs.YtmbnogellhoheaaGreatDoor.Ev

/- Functions that make a new row of numbers and texts, of arguments that are known: their runs, once, in the place of all. -/
namespace Go.Proofs.YtmbnogellhoheaaGreatDoor.Ev
open Go
variable {ρ : Rho}

/-- Numbers, bools, texts. -/
def plain : V → Bool
  | .n _ => true
  | .y _ => true
  | .k _ _ => true
  | .b _ => true
  | .s _ _ => true
  | .l0 => true
  | .p0 => true
  | .i0 => true
  | _ => false
noncomputable def plains (cs : List V) : Bool := List.rec (motive := fun _ => Bool) true (fun c _ ih => Bool.rec (motive := fun _ => Bool) false ih (plain c)) cs
theorem plains_get : ∀ {cs : List V}, plains cs = true → ∀ c ∈ cs, plain c = true
  | [], _, c, hc => by cases hc
  | a :: cs, h, c, hc => by
    have h : Bool.rec (motive := fun _ => Bool) false (plains cs) (plain a) = true := h
    cases e : plain a with
    | false => rw [e] at h; cases h
    | true =>
      rw [e] at h
      cases hc with
      | head => exact e
      | tail _ hc => exact plains_get h c hc
theorem VR.plain {ρ ρ' : Rho} {v : V} {x : Value} (hp : plain v = true) (h : VR ρ v x) : VR ρ' v x := by
  cases v <;> first
    | (cases hp; done)
    | (cases x <;> simp only [VR] at h ⊢ <;> first | exact h | exact h.elim)
theorem VRs.plain {ρ ρ' : Rho} : ∀ {cs : List V} {xs : List Value}, plains cs = true → VRs ρ cs xs → VRs ρ' cs xs
  | [], [], _, _ => by simp [VRs]
  | [], _ :: _, _, h => by simp [VRs] at h
  | _ :: _, [], _, h => by simp [VRs] at h
  | c :: cs, x :: xs, hp, h => by
    simp only [VRs] at h ⊢
    have h2 : Bool.rec (motive := fun _ => Bool) false (plains cs) (Ev.plain c) = true := hp
    cases e : Ev.plain c with
    | false => rw [e] at h2; cases h2
    | true => rw [e] at h2; exact ⟨h.1.plain e, h.2.plain h2⟩
/-- A row alone, or with further values behind it. -/
def rowV (o : Option (List V)) (v : V) : V := match o with
  | none => v
  | some r => .t (v :: r)
structure RE1 where
  as : List V
  es : Nat
  len : Nat
  cap : Nat
  cs : List V
  rest : Option (List V)
noncomputable def newB1 (m : RE1) (nx : Pos) (bs : TB) : RC := .mk (rowV m.rest (.l nx 0 m.len m.cap)) nx.inc (bs.set nx (.mk m.es (llen m.cs) (into m.cs .e 1)))
def RowOk (P : Program) (G : Ctx) (f : FuncId) (m : RE1) : Prop :=
  ∀ (ρ : Rho) (xs : Array Value) (nx : Pos) (bs : TB) (w : World), GR G ρ → VRs ρ m.as xs.toList → HR ρ nx bs w →
    (callFunc f xs).run P w = .ok (.enter f xs) w ∧ Calls P f xs w fun e w' => ∃ y, e = .returned y ∧ Kept w w' ∧ ∃ q : Pl, q.ob = none ∧ w.heap.size ≤ q.r ∧ q.r < w'.heap.size ∧ (q.s = m.es ∧ (m.es % 65536 = 0 → q.o = 0)) ∧ (∀ ρ', BR ρ' w' m.cs.length (into m.cs .e 1) q) ∧
      ∀ ρ' id, ρ' id = some q → VR ρ' (rowV m.rest (.l id 0 m.len m.cap)) y
noncomputable def memoR (l : List RE1) : FN := fun _ as nx bs => List.rec (motive := fun _ => RC) .fail (fun m _ ih => cond (veqG m.as as) (newB1 m nx bs) ih) l
inductive AllW (P : Program) (G : Ctx) (f : FuncId) : List RE1 → Prop
  | nil : AllW P G f []
  | cons {m : RE1} {l : List RE1} (h : RowOk P G f m) (r : AllW P G f l) : AllW P G f (m :: l)
theorem memoR_get {P : Program} {G : Ctx} {f : FuncId} {F : CallF} {as : List V} {nx nx' : Pos} {bs bs' : TB} {v : V} : ∀ {l : List RE1}, AllW P G f l → memoR l F as nx bs = .mk v nx' bs' → ∃ m, RowOk P G f m ∧ m.as = as ∧ newB1 m nx bs = .mk v nx' bs'
  | [], _, h => by cases h
  | m :: l, hl, h => by
    cases hl with
    | cons h0 r =>
      have h : cond (veqG m.as as) (newB1 m nx bs) (memoR l F as nx bs) = .mk v nx' bs' := h
      cases e : veqG m.as as with
      | false => rw [e, cond_false] at h; exact memoR_get r h
      | true => rw [e, cond_true] at h; exact ⟨m, h0, veqG_eq e, h⟩
theorem memoR_snd {P : Program} {G : Ctx} {f : FuncId} {l : List RE1} (hl : AllW P G f l) : FnS P G f (memoR l) := by
  intro F hF ρ as xs nx nx' bs bs' v w hg hv hh hk
  obtain ⟨m, h1, rfl, h2⟩ := memoR_get hl hk
  unfold newB1 at h2
  injection h2 with e1 e2 e3
  subst e1; subst e2; subst e3
  rw [llen_eq]
  obtain ⟨k1, k2⟩ := h1 ρ xs nx bs w hg hv hh
  refine ⟨k1, k2.mono ?_⟩
  rintro e w' ⟨y, rfl, hkept, q, hob, hge, hlt, hqs, hbr, hvr⟩
  obtain ⟨g1, g2⟩ := hh.kept hkept
  have hjoin := g1.join (x := q) hob hqs (hbr ρ) (fun id2 q2 e2 => by have := hh.inside _ _ e2; omega) hlt
  refine ⟨y, _, rfl, hvr _ _ (upd_same ..), hjoin, ?_⟩
  refine ⟨upd_le hh.toHR0 _, hkept.size, fun b hb _ => hkept.2 b hb, ?_, by rw [Pos.inc_val]; omega, fun id2 hid2 hn => by rw [upd_ne ρ _ (Pos.ne_of_val (by omega))]; exact hn, hkept.1, fun b hb _ => fzAt_of (hkept.2 b hb)⟩
  rintro b hb ⟨id2, es2, sz2, cs2, q2, hl2, e2, e3⟩
  rcases live_set hl2 with ⟨rfl, -, -⟩ | ⟨hne, hl2⟩
  · rw [upd_same] at e2; injection e2 with e2; subst e2; omega
  · rw [upd_ne ρ _ hne] at e2; exact ⟨id2, es2, sz2, cs2, q2, hl2, e2, e3⟩

/-- A run from nothing gives a row. -/
noncomputable def chkRow (bs : TB) (es len cap : Nat) (cs : List V) (v : V) : Bool := isSome' (asL v none none fun id off l c => cond (Nat.ble 64 id.val) (cond (Nat.beq off 0) (cond (Nat.beq l len) (cond (Nat.beq c cap) (bk bs id fun es' sz cells =>
    cond (Nat.beq es' es) (cond (Nat.beq sz (llen cs)) (cond (veqs (cells.take (llen cs) 1) cs) (some ()) none) none) none) none) none) none) none)
noncomputable def chkW (r : RC) (m : RE1) : Bool :=
  RC.rec (motive := fun _ => Bool) false (fun v _ bs => Option.rec (motive := fun _ => Bool) (chkRow bs m.es m.len m.cap m.cs v) (fun rest => asT v false fun us => List.casesOn us false fun a us => cond (veqs us rest) (chkRow bs m.es m.len m.cap m.cs a) false) m.rest) r
theorem chkRow_spec {bs : TB} {es len cap : Nat} {cs : List V} {v : V} (h : chkRow bs es len cap cs v = true) : ∃ id cells, v = .l id 0 len cap ∧ 64 ≤ id.val ∧ Live bs id es cs.length cells ∧ cells.take cs.length 1 = cs := by
  have h := isSome'_spec h
  rcases asL_some h with ⟨-, h⟩ | ⟨id, off, l, c, rfl, h⟩
  · cases h
  · obtain ⟨a1, h⟩ := cond_some h
    obtain ⟨a2, h⟩ := cond_some h
    obtain ⟨a3, h⟩ := cond_some h
    obtain ⟨a4, h⟩ := cond_some h
    obtain ⟨es', sz, cells, hl, h⟩ := bk_some h
    obtain ⟨a5, h⟩ := cond_some h
    obtain ⟨a6, h⟩ := cond_some h
    obtain ⟨a7, -⟩ := cond_some h
    have a2 := Nat.eq_of_beq_eq_true a2
    have a3 := Nat.eq_of_beq_eq_true a3
    have a4 := Nat.eq_of_beq_eq_true a4
    have a5 := Nat.eq_of_beq_eq_true a5
    have a6 := Nat.eq_of_beq_eq_true a6
    rw [llen_eq] at a6 a7
    subst a2; subst a3; subst a4; subst a5; subst a6
    exact ⟨id, cells, rfl, Nat.le_of_ble_eq_true a1, hl, veqs_eq a7⟩
theorem chkW_spec {r : RC} {m : RE1} (h : chkW r m = true) : ∃ id nx bs cells, r = .mk (rowV m.rest (.l id 0 m.len m.cap)) nx bs ∧ 64 ≤ id.val ∧ Live bs id m.es m.cs.length cells ∧ cells.take m.cs.length 1 = m.cs := by
  obtain ⟨as, es, len, cap, cs, rest⟩ := m
  cases r with
  | fail => cases h
  | mk v nx bs =>
    cases rest with
    | none =>
      obtain ⟨id, cells, e, h1, h2, h3⟩ := chkRow_spec (show chkRow bs es len cap cs v = true from h)
      subst e
      exact ⟨id, nx, bs, cells, rfl, h1, h2, h3⟩
    | some rest =>
      obtain ⟨us, rfl, h⟩ := asT_true (show (asT v false fun us => List.casesOn us false fun a us => cond (veqs us rest) (chkRow bs es len cap cs a) false) = true from h)
      cases us with
      | nil => cases h
      | cons a us =>
        obtain ⟨h1, h2⟩ := cond_true' (c := veqs us rest) (x := chkRow bs es len cap cs a) h
        obtain ⟨id, cells, e, h3, h4, h5⟩ := chkRow_spec h2
        subst e
        have := veqs_eq h1
        subst this
        exact ⟨id, nx, bs, cells, rfl, h3, h4, h5⟩
/-- A row's cells are numbers and texts: what they say hangs on no names. -/
theorem row_of_run {w w' : World} {bs : TB} {nx : Pos} {ρ' : Rho} (hh : HR ρ' nx bs w') {id : Pos} {m : RE1} {cells : TV} (hl : Live bs id m.es m.cs.length cells) (ht : cells.take m.cs.length 1 = m.cs) (hp : plains m.cs = true) (hcb : m.cs.length ≤ 1099511627775)
    (hrest : ∀ r, m.rest = some r → plains r = true) {y : Value} (hv : VR ρ' (rowV m.rest (.l id 0 m.len m.cap)) y) (hge : ∀ q, ρ' id = some q → w.heap.size ≤ q.r) :
    ∃ q : Pl, q.ob = none ∧ w.heap.size ≤ q.r ∧ q.r < w'.heap.size ∧ (q.s = m.es ∧ (m.es % 65536 = 0 → q.o = 0)) ∧ (∀ ρ', BR ρ' w' m.cs.length (into m.cs .e 1) q) ∧
      ∀ ρ' id, ρ' id = some q → VR ρ' (rowV m.rest (.l id 0 m.len m.cap)) y := by
  obtain ⟨q, hq, hqs, C2, fz, f1, f2, f3, f4⟩ := hh.live _ _ _ _ hl
  have hlv : ∀ {z : Value}, VR ρ' (.l id 0 m.len m.cap) z → ∀ ρ2 id2, ρ2 id2 = some (⟨q.r, q.o, q.n, q.s, none, none⟩ : Pl) → VR ρ2 (.l id2 0 m.len m.cap) z := fun h ρ2 id2 h2 => by
    obtain ⟨q2, z, c, hq2, rfl, a1, a2, a3, a4⟩ := h.l
    rw [hq] at hq2; injection hq2 with hq2; subst hq2
    unfold VR
    exact ⟨rfl, a1, a2, _, z, h2, rfl, a3, a4⟩
  refine ⟨⟨q.r, q.o, q.n, q.s, none, none⟩, rfl, hge q hq, (show q.r < w'.heap.size from hh.inside _ _ hq), hqs, fun ρ2 => ⟨C2, fz, f1, f2, fun k hk => ?_, f4⟩, fun ρ2 id2 h2 => ?_⟩
  · obtain ⟨x, hx, hxv⟩ := f3 k hk
    refine ⟨x, hx, ?_⟩
    have ht2 := TV.take_get cells m.cs.length 1 k hk
    rw [ht, show 1 + k = k + 1 by omega] at ht2
    rw [into_at' m.cs k _ ht2 hcb]
    exact hxv.plain (plains_get hp _ (List.mem_of_getElem? ht2))
  · cases hr : m.rest with
    | none => rw [hr] at hv; exact hlv hv ρ2 id2 h2
    | some r =>
      rw [hr] at hv
      have hv : VR ρ' (.t (.l id 0 m.len m.cap :: r)) y := hv
      show VR ρ2 (.t (.l id2 0 m.len m.cap :: r)) y
      obtain ⟨xs, rfl, hx⟩ := hv.t
      cases hxs : xs.toList with
      | nil => rw [hxs] at hx; simp [VRs] at hx
      | cons x xl =>
        rw [hxs] at hx
        simp only [VRs] at hx
        unfold VR
        rw [hxs]
        simp only [VRs]
        exact ⟨hlv hx.1 ρ2 id2 h2, hx.2.plain (hrest r hr)⟩
theorem rowOk_of {P : Program} {G G' : Ctx} {F : CallF} (hF : CallSnd P G' F) (e1 : G'.glob = G.glob) (e2 : G'.tab.val = G.tab.val) (e3 : G'.tab.fx = G.tab.fx) (hok : G'.tab.OK) {f : FuncId} {m : RE1}
    (hl : lowBs m.as = true) (hp : plains m.cs = true) (hcb : m.cs.length ≤ 1099511627775) (hrest : ∀ r, m.rest = some r → plains r = true) (h : chkW (F (pos f) m.as (pos 64) .e) m = true) : RowOk P G f m := by
  obtain ⟨id, nx0, bs0, cells, he, hid, hlv, ht⟩ := chkW_spec h
  intro ρ xs nx bs w hg ha hh
  obtain ⟨k1, k2⟩ := hF (lowR ρ) f m.as xs (pos 64) nx0 .e bs0 _ w ((hg.alike (lowR_alike ρ)).other e1 e2 e3 hok) (VRs.alike (lowR_alike ρ) m.as _ (lowBs_spec m.as hl) ha) hh.low he
  refine ⟨k1, k2.mono ?_⟩
  rintro e w' ⟨y, ρ', rfl, h1, h2, h3⟩
  refine ⟨y, rfl, ⟨h3.env, fun i hi => h3.keep i hi own_e⟩, row_of_run h2 hlv ht hp hcb hrest h1 fun q hq => ?_⟩
  rcases Nat.lt_or_ge q.r w.heap.size with hlt | hge
  · exact absurd (h3.own q.r hlt ⟨id, _, _, _, q, hlv, hq, rfl⟩) own_e
  · exact hge
/-- The same, of a run that reads a table, that is as it was behind it. -/
noncomputable def chkWT (r : RC) (m : RE1) (zs : List Nat) : Bool := cond (chkW r m) (RC.rec (motive := fun _ => Bool) false (fun _ _ bs => isSome' (tblOk zs bs)) r) false
theorem rowOk_table {P : Program} {G : Ctx} {F : CallF} {gl : Nat → Option Pos} (hF : CallSnd P ⟨fun _ => false, gl, false, tab0⟩ F) {g : Nat} (hgl : ∀ g' p, gl g' = some p → g' = g ∧ p = .h) {f : FuncId} {E : Nat} {zs : List Nat} {C : Array Value} {m : RE1}
    (hfx : G.tab.fx .h = some (.ob g (.cells C E))) (hz : C.toList = zs.map fun (z : Nat) => Value.int .u8 z) (h256 : ∀ z ∈ zs, z < 256) (hb : zs.length ≤ 1099511627775) (has : m.as = []) (hp : plains m.cs = true) (hcb : m.cs.length ≤ 1099511627775) (hrest : ∀ r, m.rest = some r → plains r = true)
    (h : chkWT (F (pos f) m.as (pos 64) (tb1 E zs)) m zs = true) : RowOk P G f m := by
  obtain ⟨hw, ht0⟩ := cond_true' h
  obtain ⟨id, nx0, bs0, cells, he, hid, hlv, ht⟩ := chkW_spec hw
  rw [he] at ht0
  obtain ⟨es1, sz1, cs1, hl1, h1'⟩ := bk_some (isSome'_spec (show isSome' (tblOk zs bs0) = true from ht0))
  obtain ⟨a8, h1'⟩ := cond_some h1'
  obtain ⟨a9, -⟩ := cond_some h1'
  intro ρ xs nx bs w hg hv hh
  obtain ⟨-, q0, hq0, hr0, ho0, hob⟩ := hg.fxo .h g _ hfx
  obtain ⟨hC, -⟩ := hh.fix .h q0 _ (by decide) hq0 hob
  rw [hr0] at hC
  have hxs : VRs (rho1 g (E * 65536) zs.length) m.as xs.toList := by
    rw [has] at hv ⊢
    cases hxl : xs.toList with
    | nil => simp [VRs]
    | cons a l => rw [hxl] at hv; simp [VRs] at hv
  have hgr : GR ⟨fun _ => false, gl, false, tab0⟩ (rho1 g (E * 65536) zs.length) :=
    ⟨fun g' p e => by obtain ⟨rfl, rfl⟩ := hgl g' p e; exact ⟨by decide, ⟨_, rfl, rfl, rfl⟩⟩, fun _ _ e => (nomatch e), fun _ _ _ e => (nomatch e), fun _ _ e => (nomatch e), tab0_ok⟩
  obtain ⟨k1, k2⟩ := hF _ f m.as xs (pos 64) nx0 (tb1 E zs) bs0 _ w hgr hxs (hr1 hC hz h256 hb) he
  refine ⟨k1, k2.mono ?_⟩
  rintro e w' ⟨y, ρ', rfl, h1, h2, h3⟩
  have hkept := table_kept hC hz h2 h3 hl1 (Nat.le_of_ble_eq_true a8) (veqs_eq a9)
  refine ⟨y, rfl, hkept, row_of_run h2 hlv ht hp hcb hrest h1 fun q hq => ?_⟩
  rcases Nat.lt_or_ge q.r w.heap.size with hlt | hge
  · obtain ⟨id2, es2, sz2, cs2, q2, k1, k2, k3⟩ := h3.own q.r hlt ⟨id, _, _, _, q, hlv, hq, rfl⟩
    rcases live_set k1 with ⟨rfl, -, -, -⟩ | ⟨-, k1⟩
    · have hq2 := h3.le _ _ k2
      have := h2.apart _ _ _ _ _ _ _ _ _ _ hlv hl1 hq hq2 k3.symm
      subst this
      simp [Pos.val] at hid
    · unfold Live at k1; rw [TB.get_e] at k1; cases k1
  · exact hge

end Go.Proofs.YtmbnogellhoheaaGreatDoor.Ev

/- A law over one slice of bytes: it answers true, and all reads as before. -/
namespace Go.Proofs.YtmbnogellhoheaaGreatDoor.Ev
open Go Go.ChangeShapes Go.WideShapes Go.ChangeAt Go.RowKit

theorem post_kept {H : Type} {enc : TypeId × Value → H} {P : Program} {f : Func} {s : ChangeSpec} {apart fresh handsOn again : Bool} {W W' : World} {args : Array Value} {v : Value} {ds gs : List (DataW H)} {before pa pv : List MemPlace}
    (hW : DataW.Whole enc P f.params.toList s.vars apart W args.toList ds gs before)
    (hres : ∀ (b : Nat) (sp : Nat → Bool) (hd : Bool), DataW.TrodAll enc P W' b sp hd f.resultTypes.toList (v.resultList f.resultTypes.size) (s.fn H (ds ++ gs)).results [])
    (hargs : ∀ sp : Nat → Bool, (∀ p ∈ before, sp p.block = true) → DataW.TrodAll enc P W' 0 sp true f.params.toList args.toList (s.fn H (ds ++ gs)).args pa)
    (hvars : ∀ sp : Nat → Bool, (∀ p ∈ before, sp p.block = true) → DataW.TrodVars enc P W' sp s.vars (s.fn H (ds ++ gs)).vars pv)
    (hps : before = pa ++ pv) (hk : Kept W W')
    (hok : ∀ (j : Nat) (t : TypeId) (r : Value), f.resultTypes[j]? = some t → (v.resultList f.resultTypes.size)[j]? = some r → Value.okWide P W' .any 0 t r) :
    s.post enc P f apart fresh handsOn again W args v W' := by
  have hlt := hW.lt
  have hold : ∀ p ∈ before, (fun b => decide (b < W.heap.size)) p.block = true := fun p hp => by simpa using hlt p hp
  refine ⟨ds, gs, before, [], pa, pv, hW, hres _ _ _, hargs _ hold, hvars _ hold, hk.but _ , fun _ => ?_⟩
  obtain ⟨_, _, _, _, _, hz, hn⟩ := hW
  refine ⟨hok, _, _, [] ++ pa ++ pv, ⟨[] ++ pa, pv, trodAll_append (hargs _ fun _ _ => rfl) (hres _ _ _), hvars _ fun _ _ => rfl, rfl, fun b off hp => ?_, fun ha => ?_⟩, fun p hp _ => ?_⟩
  · have hp : MemPlace.cell b off ∈ before := by rw [hps]; simpa using hp
    have hb : b < W.heap.size := hlt _ hp
    rw [hk.frozen b off hb]
    exact hz b off hp
  · have := hn ha
    rw [hps] at this
    simpa using this
  · rw [hps]; simpa using hp

theorem law_contract {P : Program} {f : FuncId} {fn : Func} {s : ChangeSpec} {apart fresh handsOn again : Bool} {H : Type} {enc : TypeId × Value → H} {W : World} {base : Nat} {args : Array Value} {ds gs : List (DataW H)} {before : List MemPlace} {t e tr : TypeId}
    (hpar : fn.params = #[t]) (ht : P.underlying t = some (.slice e)) (he : P.underlying e = some (.int .u8)) (hce : P.cellsOf e = 1) (hres : fn.resultTypes = #[tr]) (htr : P.underlying tr = some .bool) (hvars : s.vars = [])
    (hfn : ∀ d : DataW H, s.fn H [d] = { results := [.lit (.bool true)], args := [d] })
    (hval : ∀ (j : Nat) t v, fn.params[j]? = some t → args[j]? = some v → Value.okWide P W .any base t v)
    (hW : DataW.Whole enc P fn.params.toList s.vars apart W args.toList ds gs before)
    (run : ∀ a len cap, len ≤ 9223372036854775807 → Calls P f #[.slice a len cap] W fun e w' => e = .returned (.bool true) ∧ Kept W w') :
    Calls P f args W fun e W' => ∃ v, e = .returned v ∧ s.post enc P fn apart fresh handsOn again W args v W' := by
  have hW' := hW
  obtain ⟨p, q, hA0, hV, rfl, hfz, hnd⟩ := hW
  have hA : DataW.TrodAll enc P W 0 (fun _ => true) true fn.params.toList args.toList ds p := hA0
  rw [hpar] at hA hval
  rw [hvars] at hV
  obtain ⟨v0, vs0, d0, ds0, p0, q0, hargs, rfl, rfl, h0, r0⟩ := trodAll_cons hA
  obtain ⟨rfl, rfl, rfl⟩ := trodAll_nil r0
  obtain rfl : args = #[v0] := by cases args; simp_all
  obtain ⟨rfl, rfl⟩ := trodVars_none hV
  obtain ⟨a0, len, cap, rfl⟩ := okWide_slice ht (hval 0 t v0 rfl rfl)
  obtain ⟨fuel, hf⟩ := h0
  clear hA0
  simp only [List.append_nil] at hW'
  have hlt := hW'.lt
  have key : len ≤ 9223372036854775807 ∧ ∀ W', Kept W W' → ∀ sp : Nat → Bool, (∀ x ∈ p0, sp x.block = true) → DataW.Trod enc P W' 0 sp true t (.slice a0 len cap) d0 p0 := by
    rcases open_ints ht he hce hf with ⟨hcs, hx⟩ | ⟨a, len', cap', zs, hcs, _, hl, hm, hz, hx, hcell, hwz⟩
    · simp [Value.cells] at hcs
      obtain ⟨rfl, rfl, rfl⟩ := hcs
      simp only [Prod.mk.injEq] at hx
      obtain ⟨rfl, rfl⟩ := hx
      exact ⟨Nat.zero_le _, fun W' _ sp _ => shut_slice_nil ht⟩
    · simp [Value.cells] at hcs
      obtain ⟨rfl, rfl, rfl⟩ := hcs
      simp only [Prod.mk.injEq] at hx
      obtain ⟨rfl, rfl⟩ := hx
      simp only [if_true] at hz
      have hm' : cap ≤ 9223372036854775807 := hm
      refine ⟨by omega, fun W' hk sp hsp => ⟨2, ?_⟩⟩
      by_cases h0 : zs.length = 0
      · have hzs : zs = [] := List.eq_nil_of_length_eq_zero h0
        subst hzs
        have hc0 : cap = 0 := hz.symm
        have hl0 : len = 0 := by omega
        subst hc0; subst hl0
        exact shut_ints (zs := []) 0 ht he hce (Nat.zero_le _) hl hm (by simp) (fun i hi => absurd hi (Nat.not_lt_zero _)) (fun n hn => by cases hn)
      · have hb : a.block < W.heap.size := hlt (.cell a.block a.off) (by
          unfold MemPlace.row
          rw [List.mem_map]
          exact ⟨0, List.mem_range.2 (by omega), by simp⟩)
        have hspa : sp a.block = true := hsp (.cell a.block a.off) (by
          unfold MemPlace.row
          rw [List.mem_map]
          exact ⟨0, List.mem_range.2 (by omega), by simp⟩)
        refine shut_ints 0 ht he hce (Nat.zero_le _) hl hm (by rw [hspa]; exact hz) (fun i hi => ?_) hwz
        have hc := hcell i hi
        have hbb : (a.add i).block = a.block := block_add a i
        unfold World.cell? at hc ⊢
        rw [hbb] at hc ⊢
        rw [hk.2 _ hb]
        exact hc
  refine (run a0 len cap key.1).mono fun e W' ⟨he', hk⟩ => ?_
  subst he'
  refine ⟨_, rfl, post_kept (pa := p0 ++ []) (pv := []) hW' (fun b sp hd => ?_) (fun sp hsp => ?_) (fun _ _ => ?_) (by simp) hk (ok_one hres rfl (okWide_bool_mk htr _))⟩
  · rw [List.append_nil, hfn, hres]
    exact trodAll_cons_mk (shut_bool htr _) trodAll_mk0
  · rw [List.append_nil, hfn, hpar]
    exact trodAll_cons_mk (key.2 W' hk sp fun x hx => hsp x (by simpa using hx)) trodAll_mk0
  · rw [List.append_nil, hfn, hvars]
    rfl

end Go.Proofs.YtmbnogellhoheaaGreatDoor.Ev

/- The beginning of a run: names below 64 stand for what is there; a law over one slice of bytes whose bytes are known. -/
namespace Go.Proofs.YtmbnogellhoheaaGreatDoor.Ev
open Go

theorem hr_start {ρ : Rho} {W : World} (h1 : ∀ id q, ρ id = some q → id.val < 64 ∧ q.r < W.heap.size) (h2 : ∀ id q o, ρ id = some q → q.ob = some o → W.heap[q.r]? = some o) : HR ρ (pos 64) .e W := by
  refine ⟨⟨fun id es sz cs hl => ?_, fun id id' es sz cs es' sz' cs' q q' hl => ?_, fun id hid => ⟨?_, TB.get_e id⟩, fun id q h => (h1 id q h).2⟩, by rw [pos64]; exact Nat.le_refl _, fun id q o _ hq ho => ⟨h2 id q o hq ho, own_e⟩⟩
  · unfold Live at hl; rw [TB.get_e] at hl; cases hl
  · unfold Live at hl; rw [TB.get_e] at hl; cases hl
  · rw [pos64] at hid
    cases e : ρ id with
    | none => rfl
    | some q => have := (h1 id q e).1; omega
/-- A run that gives true. -/
theorem run_true {P : Program} {G : Ctx} {f : FuncId} {ar : List V} (h : PureOk P G f ar (.b true)) {ρ : Rho} {W : World} {xs : Array Value} (hg : GR G ρ) (hv : VRs ρ ar xs.toList) (hh : HR ρ (pos 64) .e W) : Calls P f xs W fun e w' => e = .returned (.bool true) ∧ Kept W w' := by
  obtain ⟨-, k⟩ := h ρ xs (pos 64) .e W hg hv hh
  refine k.mono ?_
  rintro e w' ⟨y, rfl, h1, h2⟩
  have := h1.b
  subst this
  exact ⟨rfl, h2⟩

end Go.Proofs.YtmbnogellhoheaaGreatDoor.Ev

/- A law over one slice of bytes, with the bytes: it answers true, and all reads as before. -/
namespace Go.Proofs.YtmbnogellhoheaaGreatDoor.Ev
open Go Go.ChangeShapes Go.WideShapes Go.ChangeAt Go.RowKit

theorem law_contractC {P : Program} {f : FuncId} {fn : Func} {s : ChangeSpec} {apart fresh handsOn again : Bool} {H : Type} {enc : TypeId × Value → H} {W : World} {base : Nat} {args : Array Value} {ds gs : List (DataW H)} {before : List MemPlace} {t e tr : TypeId}
    (hpar : fn.params = #[t]) (ht : P.underlying t = some (.slice e)) (he : P.underlying e = some (.int .u8)) (hce : P.cellsOf e = 1) (hres : fn.resultTypes = #[tr]) (htr : P.underlying tr = some .bool) (hvars : s.vars = [])
    (hfn : ∀ d : DataW H, s.fn H [d] = { results := [.lit (.bool true)], args := [d] })
    (hval : ∀ (j : Nat) t v, fn.params[j]? = some t → args[j]? = some v → Value.okWide P W .any base t v)
    (hW : DataW.Whole enc P fn.params.toList s.vars apart W args.toList ds gs before)
    (run : ∀ a len cap (b : Nat → Nat), len ≤ 9223372036854775807 → (∀ i, b i < 256) → (∀ i, i < len → ∃ ad, a = some ad ∧ ad.block < W.heap.size ∧ W.cell? (ad.add i) = some (.int .u8 ((b i : Nat) : Int))) → Calls P f #[.slice a len cap] W fun e w' => e = .returned (.bool true) ∧ Kept W w') :
    Calls P f args W fun e W' => ∃ v, e = .returned v ∧ s.post enc P fn apart fresh handsOn again W args v W' := by
  have hW' := hW
  obtain ⟨p, q, hA0, hV, rfl, hfz, hnd⟩ := hW
  have hA : DataW.TrodAll enc P W 0 (fun _ => true) true fn.params.toList args.toList ds p := hA0
  rw [hpar] at hA hval
  rw [hvars] at hV
  obtain ⟨v0, vs0, d0, ds0, p0, q0, hargs, rfl, rfl, h0, r0⟩ := trodAll_cons hA
  obtain ⟨rfl, rfl, rfl⟩ := trodAll_nil r0
  obtain rfl : args = #[v0] := by cases args; simp_all
  obtain ⟨rfl, rfl⟩ := trodVars_none hV
  obtain ⟨a0, len, cap, rfl⟩ := okWide_slice ht (hval 0 t v0 rfl rfl)
  obtain ⟨fuel, hf⟩ := h0
  clear hA0
  simp only [List.append_nil] at hW'
  have hlt := hW'.lt
  have key : (∃ b : Nat → Nat, (∀ i, b i < 256) ∧ ∀ i, i < len → ∃ ad, a0 = some ad ∧ ad.block < W.heap.size ∧ W.cell? (ad.add i) = some (.int .u8 ((b i : Nat) : Int))) ∧ len ≤ 9223372036854775807 ∧ ∀ W', Kept W W' → ∀ sp : Nat → Bool, (∀ x ∈ p0, sp x.block = true) → DataW.Trod enc P W' 0 sp true t (.slice a0 len cap) d0 p0 := by
    rcases open_ints ht he hce hf with ⟨hcs, hx⟩ | ⟨a, len', cap', zs, hcs, _, hl, hm, hz, hx, hcell, hwz⟩
    · simp [Value.cells] at hcs
      obtain ⟨rfl, rfl, rfl⟩ := hcs
      simp only [Prod.mk.injEq] at hx
      obtain ⟨rfl, rfl⟩ := hx
      exact ⟨⟨fun _ => 0, fun _ => Nat.zero_lt_succ _, fun i hi => absurd hi (Nat.not_lt_zero _)⟩, Nat.zero_le _, fun W' _ sp _ => shut_slice_nil ht⟩
    · simp [Value.cells] at hcs
      obtain ⟨rfl, rfl, rfl⟩ := hcs
      simp only [Prod.mk.injEq] at hx
      obtain ⟨rfl, rfl⟩ := hx
      simp only [if_true] at hz
      have hm' : cap ≤ 9223372036854775807 := hm
      have hby : ∀ i (hi : i < zs.length), 0 ≤ zs[i] ∧ zs[i] < 256 := fun i hi => by
        have h1 := hwz _ (List.getElem_mem hi)
        have h2 : IntKind.u8.min ≤ zs[i] ∧ zs[i] ≤ IntKind.u8.max := by simpa [Lit.wf] using h1
        have h3 : IntKind.u8.min = 0 := rfl
        have h4 : IntKind.u8.max = 255 := rfl
        omega
      refine ⟨⟨fun i => if h : i < zs.length then zs[i].toNat else 0, fun i => ?_, fun i hi => ⟨a, rfl, ?_, ?_⟩⟩, by omega, fun W' hk sp hsp => ⟨2, ?_⟩⟩
      · by_cases h : i < zs.length
        · have := hby i h
          simp only [h, dif_pos]; omega
        · simp only [h, dif_neg, not_false_eq_true]; omega
      · exact hlt (.cell a.block a.off) (by
          unfold MemPlace.row
          rw [List.mem_map]
          exact ⟨0, List.mem_range.2 (by omega), by simp⟩)
      · have h : i < zs.length := by omega
        rw [hcell i h]
        have h5 := hby i h
        have e : zs.getD i 0 = zs[i] := by simp [List.getD, h]
        show some (Value.int .u8 (zs.getD i 0)) = some (Value.int .u8 (((if h : i < zs.length then zs[i].toNat else 0 : Nat)) : Int))
        rw [e, dif_pos h, Int.toNat_of_nonneg h5.1]
      by_cases h0 : zs.length = 0
      · have hzs : zs = [] := List.eq_nil_of_length_eq_zero h0
        subst hzs
        have hc0 : cap = 0 := hz.symm
        have hl0 : len = 0 := by omega
        subst hc0; subst hl0
        exact shut_ints (zs := []) 0 ht he hce (Nat.zero_le _) hl hm (by simp) (fun i hi => absurd hi (Nat.not_lt_zero _)) (fun n hn => by cases hn)
      · have hb : a.block < W.heap.size := hlt (.cell a.block a.off) (by
          unfold MemPlace.row
          rw [List.mem_map]
          exact ⟨0, List.mem_range.2 (by omega), by simp⟩)
        have hspa : sp a.block = true := hsp (.cell a.block a.off) (by
          unfold MemPlace.row
          rw [List.mem_map]
          exact ⟨0, List.mem_range.2 (by omega), by simp⟩)
        refine shut_ints 0 ht he hce (Nat.zero_le _) hl hm (by rw [hspa]; exact hz) (fun i hi => ?_) hwz
        have hc := hcell i hi
        have hbb : (a.add i).block = a.block := block_add a i
        unfold World.cell? at hc ⊢
        rw [hbb] at hc ⊢
        rw [hk.2 _ hb]
        exact hc
  obtain ⟨⟨bb, hb1, hb2⟩, key⟩ := key
  refine (run a0 len cap bb key.1 hb1 hb2).mono fun e W' ⟨he', hk⟩ => ?_
  subst he'
  refine ⟨_, rfl, post_kept (pa := p0 ++ []) (pv := []) hW' (fun b sp hd => ?_) (fun sp hsp => ?_) (fun _ _ => ?_) (by simp) hk (ok_one hres rfl (okWide_bool_mk htr _))⟩
  · rw [List.append_nil, hfn, hres]
    exact trodAll_cons_mk (shut_bool htr _) trodAll_mk0
  · rw [List.append_nil, hfn, hpar]
    exact trodAll_cons_mk (key.2 W' hk sp fun x hx => hsp x (by simpa using hx)) trodAll_mk0
  · rw [List.append_nil, hfn, hvars]
    rfl
end Go.Proofs.YtmbnogellhoheaaGreatDoor.Ev
