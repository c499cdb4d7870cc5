/- Constants; structs built; places of fields and elements; comparisons with nothing; comparisons of structs. -/
import Derived.Test.YtnhgchnhfdimiaaGreatDoorEvG
import Derived.Laws.Tables
namespace Go.Proofs.YtnhgchnhfdimiaaGreatDoor.Ev
open Go
variable {ρ : Rho}

/-! ### constants -/
def cvalS : Value → Option V
  | .int .i64 z => if IntKind.i64.wrap z = z then some (.n (z % 18446744073709551616).toNat) else none
  | .int .u8 z => if 0 ≤ z ∧ z < 256 then some (.y z.toNat) else none
  | .int .i32 z => if IntKind.i32.wrap z = z then some (.k .i32 (z % 4294967296).toNat) else none
  | .int .u64 z => if 0 ≤ z ∧ z < 18446744073709551616 then some (.k .u64 z.toNat) else none
  | .bool b => some (.b b)
  | .string s => some (.s s.data.toList.length (enc s.data.toList))
  | .pointer none => some .p0
  | .slice none 0 0 => some .l0
  | .nilFunc => some .f0
  | .nilIface => some .i0
  | _ => none
def cvalsS : List Value → Option (List V)
  | [] => some []
  | x :: xs => match cvalS x, cvalsS xs with
    | some c, some cs => some (c :: cs)
    | _, _ => none
def cval : Value → Option V
  | .agg xs => (cvalsS xs.toList).map .g
  | .tuple xs => (cvalsS xs.toList).map .t
  | x => cvalS x
theorem cvalS_VR {x : Value} {v : V} (h : cvalS x = some v) : VR ρ v x := by
  unfold cvalS at h
  split at h
  · rename_i z
    split at h
    · rename_i hz
      injection h with h; subst h
      rw [IntKind.wrap_i64] at hz
      refine VR_n_of (by omega) ?_
      rw [IntKind.wrap_i64]; omega
    · simp at h
  · split at h
    · injection h with h; subst h; exact VR_y_of (by omega) (by omega)
    · simp at h
  · rename_i z
    split at h
    · rename_i hz
      injection h with h; subst h
      rw [IntKind.wrap_i32] at hz
      unfold VR
      refine ⟨rfl, ?_, ?_⟩
      · show _ < 4294967296; omega
      · rw [IntKind.wrap_i32]; omega
    · simp at h
  · rename_i z
    split at h
    · rename_i hz
      injection h with h; subst h
      unfold VR
      refine ⟨rfl, ?_, ?_⟩
      · show _ < 18446744073709551616; omega
      · rw [IntKind.wrap_u64]; omega
    · simp at h
  · injection h with h; subst h; exact VR_b rfl
  · injection h with h; subst h; exact VR_s rfl rfl
  · injection h with h; subst h; unfold VR; rfl
  · injection h with h; subst h; unfold VR; exact ⟨rfl, rfl, rfl⟩
  · injection h with h; subst h; unfold VR; trivial
  · injection h with h; subst h; unfold VR; trivial
  · simp at h
theorem cvalsS_VR : ∀ {xs : List Value} {cs : List V}, cvalsS xs = some cs → VRs ρ cs xs
  | [], cs, h => by simp only [cvalsS] at h; injection h with h; subst h; simp [VRs]
  | x :: xs, cs, h => by
    simp only [cvalsS] at h
    split at h
    · rename_i c cs' h1 h2
      injection h with h; subst h
      simp only [VRs]; exact ⟨cvalS_VR h1, cvalsS_VR h2⟩
    · simp at h
theorem cval_VR {x : Value} {v : V} (h : cval x = some v) : VR ρ v x := by
  unfold cval at h
  split at h
  · obtain ⟨cs, h1, rfl⟩ := Option.map_eq_some_iff.1 h; exact VR_g (cvalsS_VR h1)
  · obtain ⟨cs, h1, rfl⟩ := Option.map_eq_some_iff.1 h; exact VR_t (cvalsS_VR h1)
  · exact cvalS_VR h

/-- Two lists, element by element. -/
inductive F2 {α β : Type} (R : α → β → Prop) : List α → List β → Prop
  | nil : F2 R [] []
  | cons {a : α} {b : β} {l : List α} {m : List β} (h : R a b) (t : F2 R l m) : F2 R (a :: l) (b :: m)
theorem F2.imp {α β : Type} {R S : α → β → Prop} (h : ∀ a b, R a b → S a b) : ∀ {l : List α} {m : List β}, F2 R l m → F2 S l m
  | _, _, .nil => .nil
  | _, _, .cons r t => .cons (h _ _ r) (F2.imp h t)

/-! ### structs built -/
noncomputable def isU (v : V) : Bool :=
  V.casesOn (motive_1 := fun _ => Bool) v true (fun _ => false) (fun _ => false) (fun _ _ => false) (fun _ => false) (fun _ _ => false) false (fun _ _ => false) false (fun _ _ _ _ => false) false (fun _ _ => false) (fun _ => false) (fun _ => false) false (fun _ _ => false)
noncomputable def lenV (L : List V) : Nat := List.rec (motive := fun _ => Nat) 0 (fun _ _ ih => Nat.succ ih) L
theorem lenV_eq : ∀ L : List V, lenV L = L.length
  | [] => rfl
  | _ :: L => congrArg Nat.succ (lenV_eq L)
/-- Parts (place, size, value) laid into cells, one behind the other. -/
noncomputable def fillV (ps : List (Nat × Nat × V)) (L : List V) : Option (List V) :=
  List.rec (motive := fun _ => List V → Option (List V)) (fun L => some L)
    (fun p _ ih L => cond (isU p.2.2) none (cond (Nat.beq (lenV (cellsV p.2.2)) p.2.1) (ih (splice p.1 (cellsV p.2.2) L)) none)) ps L
theorem isU_false {v : V} (h : isU v = false) : v ≠ .u := by intro e; subst e; simp [isU] at h
theorem fillV_snd (place : Nat → Option (Nat × Nat)) : ∀ (ps : List (Nat × Nat × V)) (qs : List (Nat × Value)) (L L' : List V) (xs : Array Value),
    F2 (fun p q => place q.1 = some (p.1, p.2.1) ∧ p.1 + p.2.1 ≤ L.length ∧ VR ρ p.2.2 q.2) ps qs → VRs ρ L xs.toList → fillV ps L = some L' →
    ∃ ys, Instr.fill place xs qs = some ys ∧ VRs ρ L' ys.toList
  | [], _, L, L', xs, h, hx, hf => by
    cases h
    injection hf with hf; subst hf
    exact ⟨xs, rfl, hx⟩
  | p :: ps, _, L, L', xs, h, hx, hf => by
    cases h with
    | cons h1 h2 =>
      rename_i q qs
      obtain ⟨hp, hb, hv⟩ := h1
      have hf : cond (isU p.2.2) none (cond (Nat.beq (lenV (cellsV p.2.2)) p.2.1) (fillV ps (splice p.1 (cellsV p.2.2) L)) none) = some L' := hf
      cases hu : isU p.2.2 with
      | true => rw [hu] at hf; simp at hf
      | false =>
        rw [hu, cond_false] at hf
        obtain ⟨hc, hf⟩ := cond_some hf
        have hc := Nat.eq_of_beq_eq_true hc
        rw [lenV_eq] at hc
        have hcs := VR.cells (isU_false hu) hv
        have hl := hcs.length
        have hlx : L.length = xs.size := by simpa using hx.length
        have hsz : q.2.cells.size = p.2.1 := by rw [← hc, hl]; simp
        obtain ⟨ys, hy1, hy2⟩ := fillV_snd place ps qs (splice p.1 (cellsV p.2.2) L) L' _ (h2.imp fun a b hab => by rw [splice_length]; exact hab) (splice_VRs (off := p.1) hcs hx) hf
        refine ⟨ys, ?_, hy2⟩
        obtain ⟨qi, qv⟩ := q
        simp only at hp hsz hy1
        unfold Instr.fill
        simp only [hp, hsz]
        rw [if_neg (by simp; omega)]
        exact hy1

/-- What `build` of a struct needs of the program: the cells it begins with, and of each field its place and size. -/
def bplan (Y : TI) (t : TypeId) : Option (List V × List (Nat × Nat)) :=
  match Y.inf t, Y.und t with
  | some it, some (.struct fields) =>
    match it.zero, fields.toList.mapM (fun f => (Y.inf f.type).map fun i => (f.offset, i.size)) with
    | some z, some places => (cvalsS z.cells.toList).map fun zs => (zs, places)
    | _, _ => none
  | _, _ => none
theorem built_of {P : Program} {t : TypeId} {zs : List V} {places : List (Nat × Nat)} (h : bplan (tiOf P) t = some (zs, places)) {ps : List (Nat × Nat × V)} {qs : List (Nat × Value)} {L' : List V}
    (hp : F2 (fun p q => places[q.1]? = some (p.1, p.2.1) ∧ p.1 + p.2.1 ≤ zs.length ∧ VR ρ p.2.2 q.2) ps qs) (hf : fillV ps zs = some L') :
    ∃ ys, P.built t qs = some ys ∧ VRs ρ L' ys.toList := by
  unfold bplan at h
  dsimp only [tiOf] at h
  split at h
  · rename_i it fields h1 h2
    split at h
    · rename_i z pl h3 h4
      obtain ⟨zs', h5, h6⟩ := Option.map_eq_some_iff.1 h
      injection h6 with h6 h7
      subst h6; subst h7
      obtain ⟨ys, hy1, hy2⟩ := fillV_snd (fun i => pl.toArray[i]?) ps qs zs' L' z.cells (hp.imp fun a b hab => ⟨by simpa using hab.1, hab.2⟩) (cvalsS_VR h5) hf
      refine ⟨ys, ?_, hy2⟩
      unfold Program.built
      rw [h1, h2]; simp only [h3, h4]; exact hy1
    · simp at h
  · simp at h

/-! ### picks, places -/
noncomputable def pickB (c a b : V) : Option V := asB c none fun d => some (Bool.rec b a d)
theorem snd_pickB (P : Program) (c a b : V) (x y z : Value) (r : V) (w : World) (hc : VR ρ c x) (ha : VR ρ a y) (hb : VR ρ b z) (hf : pickB c a b = some r) :
    ∃ u, (do pure (Next.value (if ← asBool x then y else z)) : Sem Next).run P w = .ok (.value u) w ∧ VR ρ r u := by
  obtain ⟨d, ea, h1⟩ := asB_some hf
  subst ea
  have := hc.b; subst this
  injection h1 with h1; subst h1
  cases d
  · exact ⟨z, rfl, hb⟩
  · exact ⟨y, rfl, ha⟩
noncomputable def faddP (k : Nat) (x : V) : Option V := asP x none fun id off => some (.p id (Nat.add off k))
theorem add_mk (r o k : Nat) : Addr.add ⟨r, o, none⟩ k = ⟨r, o + k, none⟩ := by
  unfold Addr.add; split
  · rename_i h; subst h; rfl
  · rfl
theorem VR_p {off : Nat} {q : Pl} {id : Pos} (h : ρ id = some q) {x : Nat} (hx : x = q.o + off) : VR ρ (.p id off) (.pointer (some ⟨q.r, x, none⟩)) := by
  subst hx; unfold VR; exact ⟨q, h, rfl⟩
theorem snd_faddP (P : Program) {t : TypeId} {fs : Array Field} {k : Nat} {f : Field} {i : TypeInfo} (ht : P.underlying t = some (.struct fs)) (hf : fs[k]? = some f) (hi : P.info? f.type = some i) (hs : i.size ≠ 0) :
    Snd1 P (faddP f.offset) (fun x => Instr.fieldAt t x k) := by
  intro ρ v x r w hv hr
  obtain ⟨id, off, ea, h1⟩ := asP_some hr
  subst ea
  obtain ⟨q, h2, rfl⟩ := hv.p
  injection h1 with h1; subst h1
  refine ⟨.pointer (some ⟨q.r, q.o + off + f.offset, none⟩), ?_, VR_p h2 (by show _ = q.o + (off + f.offset); omega)⟩
  show (Instr.fieldAt t _ k).run P w = _
  unfold Instr.fieldAt
  rw [Sem.run_bind, run_underlying P w ht, Result.andThen_ok]
  simp [hf, Instr.sureAddr, fieldPlace, run_sizeOf P w hi, hs, add_mk]
noncomputable def iaddL (sz : Nat) (x i : V) : Option V := asL x none none fun id off l _ => asN i none fun k => cond (Nat.ble l 1099511627776) (cond (Nat.ble (Nat.succ k) l) (some (.p id (Nat.add off (Nat.mul k sz)))) none) none
theorem snd_iaddL (P : Program) {t e : TypeId} {i : TypeInfo} (ht : P.underlying t = some (.slice e)) (hi : P.info? e = some i) : Snd2 P (iaddL i.size) (Instr.indexAt t) := by
  intro ρ v v' x x' r w hv hv' hr
  rcases asL_some hr with ⟨-, h1⟩ | ⟨id, off, l, c, ea, h1⟩
  · simp at h1
  subst ea
  obtain ⟨k, eb, h2⟩ := asN_some h1
  subst eb
  obtain ⟨q, z, c', h3, rfl, h5, -, h7, -⟩ := hv.l
  obtain ⟨hk, rfl⟩ := hv'.n
  obtain ⟨g1, h2⟩ := cond_some h2
  obtain ⟨g2, h2⟩ := cond_some h2
  have g1 : l ≤ 1099511627776 := Nat.le_of_ble_eq_true g1
  have g2 : k + 1 ≤ l := Nat.le_of_ble_eq_true g2
  injection h2 with h2; subst h2
  have ek : IntKind.i64.wrap (k : Int) = k := by rw [wrap_n k hk, if_pos (by omega)]
  rw [ek]
  refine ⟨.pointer (some ⟨q.r, z + k * i.size, none⟩), ?_, VR_p h3 (by show _ = q.o + (off + k * i.size); omega)⟩
  unfold Instr.indexAt
  rw [Sem.run_bind, run_asIntOf, Result.andThen_ok]
  have e1 : (k : Int).toNat = k := by omega
  simp [run_underlying P w ht, run_sizeOf P w hi, add_mk, e1]
  omega

/-! ### comparisons with nothing -/
noncomputable def eqlP (x y : V) : Option V := asPs x none (asPs y none (some (.b true)) fun _ _ => some (.b false)) fun _ _ => asPs y none (some (.b false)) fun _ _ => none
noncomputable def neqP (x y : V) : Option V := asPs x none (asPs y none (some (.b false)) fun _ _ => some (.b true)) fun _ _ => asPs y none (some (.b true)) fun _ _ => none
noncomputable def eqlL (x y : V) : Option V := asL x none (asL y none (some (.b true)) fun _ _ _ _ => some (.b false)) fun _ _ _ _ => asL y none (some (.b false)) fun _ _ _ _ => none
noncomputable def neqL (x y : V) : Option V := asL x none (asL y none (some (.b false)) fun _ _ _ _ => some (.b true)) fun _ _ _ _ => asL y none (some (.b true)) fun _ _ _ _ => none
theorem run_eql_nilP (P : Program) (w : World) {t e : TypeId} (ht : P.underlying t = some (.pointer e)) (a b : Option Addr) (h : a = none ∨ b = none) : (Op.equal t (.pointer a) (.pointer b)).run P w = .ok (a.isNone && b.isNone) w := by
  unfold Op.equal Op.maxDepth Op.equalIn
  rcases h with rfl | rfl
  · simp [run_underlying P w ht]
  · cases a <;> simp [run_underlying P w ht]
theorem run_eql_nilL (P : Program) (w : World) {t e : TypeId} (ht : P.underlying t = some (.slice e)) (a b : Option Addr) (l c l' c' : Nat) (h : a = none ∨ b = none) : (Op.equal t (.slice a l c) (.slice b l' c')).run P w = .ok (a.isNone && b.isNone) w := by
  unfold Op.equal Op.maxDepth Op.equalIn
  rcases h with rfl | rfl
  · simp [run_underlying P w ht]
  · cases a <;> simp [run_underlying P w ht]
theorem run_cbin_eql (P : Program) (w : World) (t : TypeId) (ox oy : Operand) (x y : Value) (c : Bool) (hg : (eqGuard .eql t ox oy x y).run P w = .ok () w) (hb : binOp .eql t x y = (do pure (.bool (← Op.equal t x y))))
    (he : (Op.equal t x y).run P w = .ok c w) : (cbin .eql t ox oy x y).run P w = .ok (.bool c) w := by
  unfold cbin; rw [Sem.run_bind, hg, Result.andThen_ok, hb]; simp [he]
theorem run_cbin_neq (P : Program) (w : World) (t : TypeId) (ox oy : Operand) (x y : Value) (c : Bool) (hg : (eqGuard .neq t ox oy x y).run P w = .ok () w) (hb : binOp .neq t x y = (do pure (.bool (!(← Op.equal t x y)))))
    (he : (Op.equal t x y).run P w = .ok c w) : (cbin .neq t ox oy x y).run P w = .ok (.bool !c) w := by
  unfold cbin; rw [Sem.run_bind, hg, Result.andThen_ok, hb]; simp [he]
theorem nilP_cases {f : Bool → Bool → V} {x y r : V} (h : asPs x none (asPs y none (some (f true true)) fun _ _ => some (f true false)) (fun _ _ => asPs y none (some (f false true)) fun _ _ => none) = some r) {a b : Value} (hx : VR ρ x a) (hy : VR ρ y b) :
    ∃ p q, a = .pointer p ∧ b = .pointer q ∧ (p = none ∨ q = none) ∧ r = f p.isNone q.isNone := by
  rcases asPs_some h with ⟨ea, h1⟩ | ⟨i, m, ea, h1⟩ <;> subst ea <;> rcases asPs_some h1 with ⟨eb, h2⟩ | ⟨i', m', eb, h2⟩ <;> subst eb
  · have := hx.p0; have := hy.p0; subst_vars; injection h2 with h2; exact ⟨none, none, rfl, rfl, .inl rfl, h2.symm⟩
  · have := hx.p0; obtain ⟨_, _, e⟩ := hy.p; subst_vars; injection h2 with h2; exact ⟨none, some _, rfl, rfl, .inl rfl, h2.symm⟩
  · have := hy.p0; obtain ⟨_, _, e⟩ := hx.p; subst_vars; injection h2 with h2; exact ⟨some _, none, rfl, rfl, .inr rfl, h2.symm⟩
  · simp at h2
theorem nilL_cases {f : Bool → Bool → V} {x y r : V} (h : asL x none (asL y none (some (f true true)) fun _ _ _ _ => some (f true false)) (fun _ _ _ _ => asL y none (some (f false true)) fun _ _ _ _ => none) = some r) {a b : Value} (hx : VR ρ x a) (hy : VR ρ y b) :
    ∃ p q l c l' c', a = .slice p l c ∧ b = .slice q l' c' ∧ (p = none ∨ q = none) ∧ r = f p.isNone q.isNone := by
  rcases asL_some h with ⟨ea, h1⟩ | ⟨_, _, _, _, ea, h1⟩ <;> subst ea <;> rcases asL_some h1 with ⟨eb, h2⟩ | ⟨_, _, _, _, eb, h2⟩ <;> subst eb
  · have := hx.l0; have := hy.l0; subst_vars; injection h2 with h2; exact ⟨none, none, _, _, _, _, rfl, rfl, .inl rfl, h2.symm⟩
  · have := hx.l0; obtain ⟨_, _, _, _, e, _⟩ := hy.l; subst_vars; injection h2 with h2; exact ⟨none, some _, _, _, _, _, rfl, rfl, .inl rfl, h2.symm⟩
  · have := hy.l0; obtain ⟨_, _, _, _, e, _⟩ := hx.l; subst_vars; injection h2 with h2; exact ⟨some _, none, _, _, _, _, rfl, rfl, .inr rfl, h2.symm⟩
  · simp at h2
theorem snd_eqlP (P : Program) {t e : TypeId} (ox oy : Operand) (ht : P.underlying t = some (.pointer e)) : Snd2 P eqlP (cbin .eql t ox oy) := by
  intro ρ v v' x x' r w hv hv' hf
  obtain ⟨p, q, rfl, rfl, h, rfl⟩ := nilP_cases (f := fun a b => .b (a && b)) hf hv hv'
  exact ⟨_, run_cbin_eql P w t ox oy _ _ _ (eqGuard_pointer P w ..) rfl (run_eql_nilP P w ht p q h), VR_b rfl⟩
theorem snd_neqP (P : Program) {t e : TypeId} (ox oy : Operand) (ht : P.underlying t = some (.pointer e)) : Snd2 P neqP (cbin .neq t ox oy) := by
  intro ρ v v' x x' r w hv hv' hf
  obtain ⟨p, q, rfl, rfl, h, rfl⟩ := nilP_cases (f := fun a b => .b (!(a && b))) hf hv hv'
  exact ⟨_, run_cbin_neq P w t ox oy _ _ _ (eqGuard_pointer P w ..) rfl (run_eql_nilP P w ht p q h), VR_b rfl⟩
theorem snd_eqlL (P : Program) {t e : TypeId} (ox oy : Operand) (ht : P.underlying t = some (.slice e)) : Snd2 P eqlL (cbin .eql t ox oy) := by
  intro ρ v v' x x' r w hv hv' hf
  obtain ⟨p, q, l, c, l', c', rfl, rfl, h, rfl⟩ := nilL_cases (f := fun a b => .b (a && b)) hf hv hv'
  exact ⟨_, run_cbin_eql P w t ox oy _ _ _ (eqGuard_slice P w ..) rfl (run_eql_nilL P w ht p q l c l' c' h), VR_b rfl⟩
theorem snd_neqL (P : Program) {t e : TypeId} (ox oy : Operand) (ht : P.underlying t = some (.slice e)) : Snd2 P neqL (cbin .neq t ox oy) := by
  intro ρ v v' x x' r w hv hv' hf
  obtain ⟨p, q, l, c, l', c', rfl, rfl, h, rfl⟩ := nilL_cases (f := fun a b => .b (!(a && b))) hf hv hv'
  exact ⟨_, run_cbin_neq P w t ox oy _ _ _ (eqGuard_slice P w ..) rfl (run_eql_nilL P w ht p q l c l' c' h), VR_b rfl⟩

end Go.Proofs.YtnhgchnhfdimiaaGreatDoor.Ev
