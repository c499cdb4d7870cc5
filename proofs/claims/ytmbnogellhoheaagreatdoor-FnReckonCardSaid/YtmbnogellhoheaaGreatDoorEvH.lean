/- Constants; structs built; places of fields and elements; comparisons with nothing; comparisons of structs. -/
import Derived.Test.YtmbnogellhoheaaGreatDoorEvA
import Derived.Laws.Tables
import Derived.Laws.IdiomCopy
import Derived.Laws.MakeOwn
import Derived.Laws.Append
import Derived.Laws.AppendOwn
namespace Go.Proofs.YtmbnogellhoheaaGreatDoor.Ev
open Go
variable {ρ : Rho}

/-! ### constants -/
def cvalS : Value → Option V
  | .int .i64 z => if IntKind.i64.wrap z = z then some (.n (z % 18446744073709551616).toNat) else none
  | .int .u8 z => if 0 ≤ z ∧ z < 256 then some (.y z.toNat) else none
  | .int .i32 z => if IntKind.i32.wrap z = z then some (.k .i32 (z % 4294967296).toNat) else none
  | .int .u64 z => if 0 ≤ z ∧ z < 18446744073709551616 then some (.k .u64 z.toNat) else none
  | .bool b => some (.b b)
  | .string s => some (.s s.data.toList.length (enc s.data.toList))
  | .pointer none => some .p0
  | .slice none 0 0 => some .l0
  | .nilFunc => some .f0
  | .nilIface => some .i0
  | _ => none
def cvalsS : List Value → Option (List V)
  | [] => some []
  | x :: xs => match cvalS x, cvalsS xs with
    | some c, some cs => some (c :: cs)
    | _, _ => none
def cval : Value → Option V
  | .agg xs => (cvalsS xs.toList).map .g
  | .tuple xs => (cvalsS xs.toList).map .t
  | x => cvalS x
theorem cvalS_VR {x : Value} {v : V} (h : cvalS x = some v) : VR ρ v x := by
  unfold cvalS at h
  split at h
  · rename_i z
    split at h
    · rename_i hz
      injection h with h; subst h
      rw [IntKind.wrap_i64] at hz
      refine VR_n_of (by omega) ?_
      rw [IntKind.wrap_i64]; omega
    · simp at h
  · split at h
    · injection h with h; subst h; exact VR_y_of (by omega) (by omega)
    · simp at h
  · rename_i z
    split at h
    · rename_i hz
      injection h with h; subst h
      rw [IntKind.wrap_i32] at hz
      unfold VR
      refine ⟨rfl, ?_, ?_⟩
      · show _ < 4294967296; omega
      · rw [IntKind.wrap_i32]; omega
    · simp at h
  · rename_i z
    split at h
    · rename_i hz
      injection h with h; subst h
      unfold VR
      refine ⟨rfl, ?_, ?_⟩
      · show _ < 18446744073709551616; omega
      · rw [IntKind.wrap_u64]; omega
    · simp at h
  · injection h with h; subst h; exact VR_b rfl
  · injection h with h; subst h; exact VR_s rfl rfl
  · injection h with h; subst h; unfold VR; rfl
  · injection h with h; subst h; unfold VR; exact ⟨rfl, rfl, rfl⟩
  · injection h with h; subst h; unfold VR; trivial
  · injection h with h; subst h; unfold VR; trivial
  · simp at h
theorem cvalsS_VR : ∀ {xs : List Value} {cs : List V}, cvalsS xs = some cs → VRs ρ cs xs
  | [], cs, h => by simp only [cvalsS] at h; injection h with h; subst h; simp [VRs]
  | x :: xs, cs, h => by
    simp only [cvalsS] at h
    split at h
    · rename_i c cs' h1 h2
      injection h with h; subst h
      simp only [VRs]; exact ⟨cvalS_VR h1, cvalsS_VR h2⟩
    · simp at h
theorem cval_VR {x : Value} {v : V} (h : cval x = some v) : VR ρ v x := by
  unfold cval at h
  split at h
  · obtain ⟨cs, h1, rfl⟩ := Option.map_eq_some_iff.1 h; exact VR_g (cvalsS_VR h1)
  · obtain ⟨cs, h1, rfl⟩ := Option.map_eq_some_iff.1 h; exact VR_t (cvalsS_VR h1)
  · exact cvalS_VR h

/-- Two lists, element by element. -/
inductive F2 {α β : Type} (R : α → β → Prop) : List α → List β → Prop
  | nil : F2 R [] []
  | cons {a : α} {b : β} {l : List α} {m : List β} (h : R a b) (t : F2 R l m) : F2 R (a :: l) (b :: m)
theorem F2.imp {α β : Type} {R S : α → β → Prop} (h : ∀ a b, R a b → S a b) : ∀ {l : List α} {m : List β}, F2 R l m → F2 S l m
  | _, _, .nil => .nil
  | _, _, .cons r t => .cons (h _ _ r) (F2.imp h t)

/-! ### structs built -/
noncomputable def isU (v : V) : Bool :=
  V.casesOn (motive_1 := fun _ => Bool) v true (fun _ => false) (fun _ => false) (fun _ _ => false) (fun _ => false) (fun _ _ => false) false (fun _ _ => false) false (fun _ _ _ _ => false) false (fun _ _ => false) (fun _ => false) (fun _ => false) false (fun _ _ => false) (fun _ => false)
noncomputable def lenV (L : List V) : Nat := List.rec (motive := fun _ => Nat) 0 (fun _ _ ih => Nat.succ ih) L
theorem lenV_eq : ∀ L : List V, lenV L = L.length
  | [] => rfl
  | _ :: L => congrArg Nat.succ (lenV_eq L)
/-- Parts (place, size, value) laid into cells, one behind the other. -/
noncomputable def fillV (ps : List (Nat × Nat × V)) (L : List V) : Option (List V) :=
  List.rec (motive := fun _ => List V → Option (List V)) (fun L => some L)
    (fun p _ ih L => cond (isU p.2.2) none (cond (Nat.beq (lenV (cellsV p.2.2)) p.2.1) (ih (splice p.1 (cellsV p.2.2) L)) none)) ps L
theorem isU_false {v : V} (h : isU v = false) : v ≠ .u := by intro e; subst e; simp [isU] at h
theorem fillV_snd (place : Nat → Option (Nat × Nat)) : ∀ (ps : List (Nat × Nat × V)) (qs : List (Nat × Value)) (L L' : List V) (xs : Array Value),
    F2 (fun p q => place q.1 = some (p.1, p.2.1) ∧ p.1 + p.2.1 ≤ L.length ∧ VR ρ p.2.2 q.2) ps qs → VRs ρ L xs.toList → fillV ps L = some L' →
    ∃ ys, Instr.fill place xs qs = some ys ∧ VRs ρ L' ys.toList
  | [], _, L, L', xs, h, hx, hf => by
    cases h
    injection hf with hf; subst hf
    exact ⟨xs, rfl, hx⟩
  | p :: ps, _, L, L', xs, h, hx, hf => by
    cases h with
    | cons h1 h2 =>
      rename_i q qs
      obtain ⟨hp, hb, hv⟩ := h1
      have hf : cond (isU p.2.2) none (cond (Nat.beq (lenV (cellsV p.2.2)) p.2.1) (fillV ps (splice p.1 (cellsV p.2.2) L)) none) = some L' := hf
      cases hu : isU p.2.2 with
      | true => rw [hu] at hf; simp at hf
      | false =>
        rw [hu, cond_false] at hf
        obtain ⟨hc, hf⟩ := cond_some hf
        have hc := Nat.eq_of_beq_eq_true hc
        rw [lenV_eq] at hc
        have hcs := VR.cells (isU_false hu) hv
        have hl := hcs.length
        have hlx : L.length = xs.size := by simpa using hx.length
        have hsz : q.2.cells.size = p.2.1 := by rw [← hc, hl]; simp
        obtain ⟨ys, hy1, hy2⟩ := fillV_snd place ps qs (splice p.1 (cellsV p.2.2) L) L' _ (h2.imp fun a b hab => by rw [splice_length]; exact hab) (splice_VRs (off := p.1) hcs hx) hf
        refine ⟨ys, ?_, hy2⟩
        obtain ⟨qi, qv⟩ := q
        simp only at hp hsz hy1
        unfold Instr.fill
        simp only [hp, hsz]
        rw [if_neg (by simp; omega)]
        exact hy1

/-- What `build` of a struct needs of the program: the cells it begins with, and of each field its place and size. -/
def bplan (Y : TI) (t : TypeId) : Option (List V × List (Nat × Nat)) :=
  match Y.inf t, Y.und t with
  | some it, some (.struct fields) =>
    match it.zero, fields.toList.mapM (fun f => (Y.inf f.type).map fun i => (f.offset, i.size)) with
    | some z, some places => (cvalsS z.cells.toList).map fun zs => (zs, places)
    | _, _ => none
  | _, _ => none
theorem built_of {P : Program} {t : TypeId} {zs : List V} {places : List (Nat × Nat)} (h : bplan (tiOf P) t = some (zs, places)) {ps : List (Nat × Nat × V)} {qs : List (Nat × Value)} {L' : List V}
    (hp : F2 (fun p q => places[q.1]? = some (p.1, p.2.1) ∧ p.1 + p.2.1 ≤ zs.length ∧ VR ρ p.2.2 q.2) ps qs) (hf : fillV ps zs = some L') :
    ∃ ys, P.built t qs = some ys ∧ VRs ρ L' ys.toList := by
  unfold bplan at h
  dsimp only [tiOf] at h
  split at h
  · rename_i it fields h1 h2
    split at h
    · rename_i z pl h3 h4
      obtain ⟨zs', h5, h6⟩ := Option.map_eq_some_iff.1 h
      injection h6 with h6 h7
      subst h6; subst h7
      obtain ⟨ys, hy1, hy2⟩ := fillV_snd (fun i => pl.toArray[i]?) ps qs zs' L' z.cells (hp.imp fun a b hab => ⟨by simpa using hab.1, hab.2⟩) (cvalsS_VR h5) hf
      refine ⟨ys, ?_, hy2⟩
      unfold Program.built
      rw [h1, h2]; simp only [h3, h4]; exact hy1
    · simp at h
  · simp at h

/-! ### picks, places -/
noncomputable def pickB (c a b : V) : Option V := asB c none fun d => some (Bool.rec b a d)
theorem snd_pickB (P : Program) (c a b : V) (x y z : Value) (r : V) (w : World) (hc : VR ρ c x) (ha : VR ρ a y) (hb : VR ρ b z) (hf : pickB c a b = some r) :
    ∃ u, (do pure (Next.value (if ← asBool x then y else z)) : Sem Next).run P w = .ok (.value u) w ∧ VR ρ r u := by
  obtain ⟨d, ea, h1⟩ := asB_some hf
  subst ea
  have := hc.b; subst this
  injection h1 with h1; subst h1
  cases d
  · exact ⟨z, rfl, hb⟩
  · exact ⟨y, rfl, ha⟩
noncomputable def faddP (k : Nat) (x : V) : Option V := asP x none fun id off => some (.p id (Nat.add off k))
theorem add_mk (r o k : Nat) : Addr.add ⟨r, o, none⟩ k = ⟨r, o + k, none⟩ := by
  unfold Addr.add; split
  · rename_i h; subst h; rfl
  · rfl
theorem VR_p {off : Nat} {q : Pl} {id : Pos} (h : ρ id = some q) {x : Nat} (hx : x = q.o + off) : VR ρ (.p id off) (.pointer (some ⟨q.r, x, none⟩)) := by
  subst hx; unfold VR; exact ⟨q, h, rfl⟩
theorem snd_faddP (P : Program) {t : TypeId} {fs : Array Field} {k : Nat} {f : Field} {i : TypeInfo} (ht : P.underlying t = some (.struct fs)) (hf : fs[k]? = some f) (hi : P.info? f.type = some i) (hs : i.size ≠ 0) :
    Snd1 P (faddP f.offset) (fun x => Instr.fieldAt t x k) := by
  intro ρ v x r w hv hr
  obtain ⟨id, off, ea, h1⟩ := asP_some hr
  subst ea
  obtain ⟨q, h2, rfl⟩ := hv.p
  injection h1 with h1; subst h1
  refine ⟨.pointer (some ⟨q.r, q.o + off + f.offset, none⟩), ?_, VR_p h2 (by show _ = q.o + (off + f.offset); omega)⟩
  show (Instr.fieldAt t _ k).run P w = _
  unfold Instr.fieldAt
  rw [Sem.run_bind, run_underlying P w ht, Result.andThen_ok]
  simp [hf, Instr.sureAddr, fieldPlace, run_sizeOf P w hi, hs, add_mk]
noncomputable def iaddL (sz : Nat) (x i : V) : Option V := asL x none none fun id off l _ => asN i none fun k => cond (Nat.ble l 1099511627776) (cond (Nat.ble (Nat.succ k) l) (some (.p id (Nat.add off (Nat.mul k sz)))) none) none
theorem snd_iaddL (P : Program) {t e : TypeId} {i : TypeInfo} (ht : P.underlying t = some (.slice e)) (hi : P.info? e = some i) : Snd2 P (iaddL i.size) (Instr.indexAt t) := by
  intro ρ v v' x x' r w hv hv' hr
  rcases asL_some hr with ⟨-, h1⟩ | ⟨id, off, l, c, ea, h1⟩
  · simp at h1
  subst ea
  obtain ⟨k, eb, h2⟩ := asN_some h1
  subst eb
  obtain ⟨q, z, c', h3, rfl, h5, -, h7, -⟩ := hv.l
  obtain ⟨hk, rfl⟩ := hv'.n
  obtain ⟨g1, h2⟩ := cond_some h2
  obtain ⟨g2, h2⟩ := cond_some h2
  have g1 : l ≤ 1099511627776 := Nat.le_of_ble_eq_true g1
  have g2 : k + 1 ≤ l := Nat.le_of_ble_eq_true g2
  injection h2 with h2; subst h2
  have ek : IntKind.i64.wrap (k : Int) = k := by rw [wrap_n k hk, if_pos (by omega)]
  rw [ek]
  refine ⟨.pointer (some ⟨q.r, z + k * i.size, none⟩), ?_, VR_p h3 (by show _ = q.o + (off + k * i.size); omega)⟩
  unfold Instr.indexAt
  rw [Sem.run_bind, run_asIntOf, Result.andThen_ok]
  have e1 : (k : Int).toNat = k := by omega
  simp [run_underlying P w ht, run_sizeOf P w hi, add_mk, e1]
  omega

/-! ### comparisons with nothing -/
noncomputable def eqlP (x y : V) : Option V := asPs x none (asPs y none (some (.b true)) fun _ _ => some (.b false)) fun _ _ => asPs y none (some (.b false)) fun _ _ => none
noncomputable def neqP (x y : V) : Option V := asPs x none (asPs y none (some (.b false)) fun _ _ => some (.b true)) fun _ _ => asPs y none (some (.b true)) fun _ _ => none
noncomputable def eqlL (x y : V) : Option V := asL x none (asL y none (some (.b true)) fun _ _ _ _ => some (.b false)) fun _ _ _ _ => asL y none (some (.b false)) fun _ _ _ _ => none
noncomputable def neqL (x y : V) : Option V := asL x none (asL y none (some (.b false)) fun _ _ _ _ => some (.b true)) fun _ _ _ _ => asL y none (some (.b true)) fun _ _ _ _ => none
theorem run_eql_nilP (P : Program) (w : World) {t e : TypeId} (ht : P.underlying t = some (.pointer e)) (a b : Option Addr) (h : a = none ∨ b = none) : (Op.equal t (.pointer a) (.pointer b)).run P w = .ok (a.isNone && b.isNone) w := by
  unfold Op.equal Op.maxDepth Op.equalIn
  rcases h with rfl | rfl
  · simp [run_underlying P w ht]
  · cases a <;> simp [run_underlying P w ht]
theorem run_eql_nilL (P : Program) (w : World) {t e : TypeId} (ht : P.underlying t = some (.slice e)) (a b : Option Addr) (l c l' c' : Nat) (h : a = none ∨ b = none) : (Op.equal t (.slice a l c) (.slice b l' c')).run P w = .ok (a.isNone && b.isNone) w := by
  unfold Op.equal Op.maxDepth Op.equalIn
  rcases h with rfl | rfl
  · simp [run_underlying P w ht]
  · cases a <;> simp [run_underlying P w ht]
theorem run_cbin_eql (P : Program) (w : World) (t : TypeId) (ox oy : Operand) (x y : Value) (c : Bool) (hg : (eqGuard .eql t ox oy x y).run P w = .ok () w) (hb : binOp .eql t x y = (do pure (.bool (← Op.equal t x y))))
    (he : (Op.equal t x y).run P w = .ok c w) : (cbin .eql t ox oy x y).run P w = .ok (.bool c) w := by
  unfold cbin; rw [Sem.run_bind, hg, Result.andThen_ok, hb]; simp [he]
theorem run_cbin_neq (P : Program) (w : World) (t : TypeId) (ox oy : Operand) (x y : Value) (c : Bool) (hg : (eqGuard .neq t ox oy x y).run P w = .ok () w) (hb : binOp .neq t x y = (do pure (.bool (!(← Op.equal t x y)))))
    (he : (Op.equal t x y).run P w = .ok c w) : (cbin .neq t ox oy x y).run P w = .ok (.bool !c) w := by
  unfold cbin; rw [Sem.run_bind, hg, Result.andThen_ok, hb]; simp [he]
theorem nilP_cases {f : Bool → Bool → V} {x y r : V} (h : asPs x none (asPs y none (some (f true true)) fun _ _ => some (f true false)) (fun _ _ => asPs y none (some (f false true)) fun _ _ => none) = some r) {a b : Value} (hx : VR ρ x a) (hy : VR ρ y b) :
    ∃ p q, a = .pointer p ∧ b = .pointer q ∧ (p = none ∨ q = none) ∧ r = f p.isNone q.isNone := by
  rcases asPs_some h with ⟨ea, h1⟩ | ⟨i, m, ea, h1⟩ <;> subst ea <;> rcases asPs_some h1 with ⟨eb, h2⟩ | ⟨i', m', eb, h2⟩ <;> subst eb
  · have := hx.p0; have := hy.p0; subst_vars; injection h2 with h2; exact ⟨none, none, rfl, rfl, .inl rfl, h2.symm⟩
  · have := hx.p0; obtain ⟨_, _, e⟩ := hy.p; subst_vars; injection h2 with h2; exact ⟨none, some _, rfl, rfl, .inl rfl, h2.symm⟩
  · have := hy.p0; obtain ⟨_, _, e⟩ := hx.p; subst_vars; injection h2 with h2; exact ⟨some _, none, rfl, rfl, .inr rfl, h2.symm⟩
  · simp at h2
theorem nilL_cases {f : Bool → Bool → V} {x y r : V} (h : asL x none (asL y none (some (f true true)) fun _ _ _ _ => some (f true false)) (fun _ _ _ _ => asL y none (some (f false true)) fun _ _ _ _ => none) = some r) {a b : Value} (hx : VR ρ x a) (hy : VR ρ y b) :
    ∃ p q l c l' c', a = .slice p l c ∧ b = .slice q l' c' ∧ (p = none ∨ q = none) ∧ r = f p.isNone q.isNone := by
  rcases asL_some h with ⟨ea, h1⟩ | ⟨_, _, _, _, ea, h1⟩ <;> subst ea <;> rcases asL_some h1 with ⟨eb, h2⟩ | ⟨_, _, _, _, eb, h2⟩ <;> subst eb
  · have := hx.l0; have := hy.l0; subst_vars; injection h2 with h2; exact ⟨none, none, _, _, _, _, rfl, rfl, .inl rfl, h2.symm⟩
  · have := hx.l0; obtain ⟨_, _, _, _, e, _⟩ := hy.l; subst_vars; injection h2 with h2; exact ⟨none, some _, _, _, _, _, rfl, rfl, .inl rfl, h2.symm⟩
  · have := hy.l0; obtain ⟨_, _, _, _, e, _⟩ := hx.l; subst_vars; injection h2 with h2; exact ⟨some _, none, _, _, _, _, rfl, rfl, .inr rfl, h2.symm⟩
  · simp at h2
theorem snd_eqlP (P : Program) {t e : TypeId} (ox oy : Operand) (ht : P.underlying t = some (.pointer e)) : Snd2 P eqlP (cbin .eql t ox oy) := by
  intro ρ v v' x x' r w hv hv' hf
  obtain ⟨p, q, rfl, rfl, h, rfl⟩ := nilP_cases (f := fun a b => .b (a && b)) hf hv hv'
  exact ⟨_, run_cbin_eql P w t ox oy _ _ _ (eqGuard_pointer P w ..) rfl (run_eql_nilP P w ht p q h), VR_b rfl⟩
theorem snd_neqP (P : Program) {t e : TypeId} (ox oy : Operand) (ht : P.underlying t = some (.pointer e)) : Snd2 P neqP (cbin .neq t ox oy) := by
  intro ρ v v' x x' r w hv hv' hf
  obtain ⟨p, q, rfl, rfl, h, rfl⟩ := nilP_cases (f := fun a b => .b (!(a && b))) hf hv hv'
  exact ⟨_, run_cbin_neq P w t ox oy _ _ _ (eqGuard_pointer P w ..) rfl (run_eql_nilP P w ht p q h), VR_b rfl⟩
theorem snd_eqlL (P : Program) {t e : TypeId} (ox oy : Operand) (ht : P.underlying t = some (.slice e)) : Snd2 P eqlL (cbin .eql t ox oy) := by
  intro ρ v v' x x' r w hv hv' hf
  obtain ⟨p, q, l, c, l', c', rfl, rfl, h, rfl⟩ := nilL_cases (f := fun a b => .b (a && b)) hf hv hv'
  exact ⟨_, run_cbin_eql P w t ox oy _ _ _ (eqGuard_slice P w ..) rfl (run_eql_nilL P w ht p q l c l' c' h), VR_b rfl⟩
theorem snd_neqL (P : Program) {t e : TypeId} (ox oy : Operand) (ht : P.underlying t = some (.slice e)) : Snd2 P neqL (cbin .neq t ox oy) := by
  intro ρ v v' x x' r w hv hv' hf
  obtain ⟨p, q, l, c, l', c', rfl, rfl, h, rfl⟩ := nilL_cases (f := fun a b => .b (!(a && b))) hf hv hv'
  exact ⟨_, run_cbin_neq P w t ox oy _ _ _ (eqGuard_slice P w ..) rfl (run_eql_nilL P w ht p q l c l' c' h), VR_b rfl⟩

end Go.Proofs.YtmbnogellhoheaaGreatDoor.Ev

/- Heaps: a new block, a stored row; loads, stores, new variables. -/
namespace Go.Proofs.YtmbnogellhoheaaGreatDoor.Ev
open Go
variable {ρ : Rho}

/-! ### a new block -/
/-- The world with one block more. -/
def wpush (w : World) (o : Obj) : World := { w with heap := w.heap.push o }
theorem wpush_size (w : World) (o : Obj) : (wpush w o).heap.size = w.heap.size + 1 := by simp [wpush]
theorem wpush_old (w : World) (o : Obj) (b : Nat) (h : b < w.heap.size) : (wpush w o).heap[b]? = w.heap[b]? := by
  simp only [wpush]; rw [Array.getElem?_push, if_neg (by omega)]
theorem wpush_new (w : World) (o : Obj) : (wpush w o).heap[w.heap.size]? = some o := by simp only [wpush]; rw [Array.getElem?_push, if_pos rfl]
/-- One name more. -/
noncomputable def upd (ρ : Rho) (id : Pos) (x : Pl) : Rho := fun q => if q.val = id.val then some x else ρ q
theorem upd_same (ρ : Rho) (id : Pos) (x : Pl) : upd ρ id x id = some x := by simp [upd]
theorem upd_ne (ρ : Rho) {id q : Pos} (x : Pl) (h : q ≠ id) : upd ρ id x q = ρ q := by
  unfold upd; rw [if_neg (fun e => h (Pos.val_inj _ _ e))]
theorem upd_le {nx : Pos} {bs : TB} {w : World} (h : HR0 ρ nx bs w) (x : Pl) : ρ.le (upd ρ nx x) := fun id y e => by
  by_cases hi : id = nx
  · subst hi; rw [(h.fresh id (Nat.le_refl _)).1] at e; simp at e
  · rw [upd_ne ρ x hi]; exact e
theorem BR.mono {ρ ρ' : Rho} {w w' : World} {sz : Nat} {cs : TV} {q : Pl} (hρ : ρ.le ρ') (hw : w'.heap[q.r]? = w.heap[q.r]?) (h : BR ρ w sz cs q) : BR ρ' w' sz cs q := by
  obtain ⟨C, fz, h1, h0, h2, h3⟩ := h
  exact ⟨C, fz, by rw [hw]; exact h1, h0, fun k hk => by obtain ⟨x, hx, hv⟩ := h2 k hk; exact ⟨x, hx, VR.mono hρ _ _ hv⟩, h3⟩
theorem Pos.ne_of_val {p q : Pos} (h : p.val ≠ q.val) : p ≠ q := fun e => h (by rw [e])
theorem live_set {bs : TB} {id id' : Pos} {es sz es' sz' : Nat} {cs cs' : TV} (h : Live (bs.set id (.mk es sz cs)) id' es' sz' cs') : (id' = id ∧ es' = es ∧ sz' = sz ∧ cs' = cs) ∨ (id' ≠ id ∧ Live bs id' es' sz' cs') := by
  by_cases hi : id = id'
  · subst hi; unfold Live at h; rw [TB.get_set_same] at h; injection h with e1 e2 e3; exact .inl ⟨rfl, e1.symm, e2.symm, e3.symm⟩
  · unfold Live at h; rw [TB.get_set_ne _ hi] at h; exact .inr ⟨fun e => hi e.symm, h⟩
theorem live_none {bs : TB} {id id' : Pos} {es' sz' : Nat} {cs' : TV} (h : Live (bs.set id .none) id' es' sz' cs') : id' ≠ id ∧ Live bs id' es' sz' cs' := by
  by_cases hi : id = id'
  · subst hi; unfold Live at h; rw [TB.get_set_same] at h; cases h
  · unfold Live at h; rw [TB.get_set_ne _ hi] at h; exact ⟨fun e => hi e.symm, h⟩
/-- A heap says nothing but of the world's blocks. -/
theorem HR0.congr {nx : Pos} {bs : TB} {w w' : World} (h : HR0 ρ nx bs w) (e : w'.heap = w.heap) : HR0 ρ nx bs w' := by
  refine ⟨fun id es sz cs hl => ?_, h.apart, h.fresh, fun id q hq => by rw [e]; exact h.inside id q hq⟩
  obtain ⟨q, h1, h2, h3⟩ := h.live id es sz cs hl
  exact ⟨q, h1, h2, h3.mono (Rho.le_refl ρ) (by rw [e])⟩
theorem HR.congr {nx : Pos} {bs : TB} {w w' : World} (h : HR ρ nx bs w) (e : w'.heap = w.heap) : HR ρ nx bs w' :=
  ⟨h.toHR0.congr e, h.base, fun id q o h1 h2 h3 => by rw [e]; exact h.fix id q o h1 h2 h3⟩
theorem Ext.congr {ρ' : Rho} {nx nx' : Pos} {bs bs' : TB} {w w' w'' : World} (h : Ext ρ nx bs w ρ' nx' bs' w') (e : w''.heap = w'.heap) (eo : Evn w' w'' := by exact ⟨rfl, rfl⟩) : Ext ρ nx bs w ρ' nx' bs' w'' :=
  ⟨h.le, by rw [e]; exact h.size, fun b hb ho => by rw [e]; exact h.keep b hb ho, h.own, h.nle, h.old, h.env.trans eo, fun b hb ho => (fzAt_of (by rw [e])).trans (h.frz b hb ho)⟩
/-- A new block, under the next name. -/
theorem HR0.new {nx : Pos} {bs : TB} {w : World} (h : HR0 ρ nx bs w) {C : Array Value} {E : TypeId} {fz : Nat × Nat} {es sz : Nat} {tv : TV}
    (hE : E = es / 65536) (hc : ∀ k, k < sz → ∃ x, C[k]? = some x ∧ VR ρ (tv.at (k + 1)) x) (hf : ∀ k, k < C.size → ¬ (fz.1 ≤ k ∧ k < fz.2)) :
    HR0 (upd ρ nx ⟨w.heap.size, 0, C.size, es, none, none⟩) nx.inc (bs.set nx (.mk es sz tv)) (wpush w (.cells C E fz)) ∧
    Ext ρ nx bs w (upd ρ nx ⟨w.heap.size, 0, C.size, es, none, none⟩) nx.inc (bs.set nx (.mk es sz tv)) (wpush w (.cells C E fz)) := by
  have hle := upd_le h ⟨w.heap.size, 0, C.size, es, none, none⟩
  refine ⟨⟨?_, ?_, ?_, ?_⟩, ⟨hle, by rw [wpush_size]; omega, fun b hb _ => wpush_old w _ b hb, ?_, by rw [Pos.inc_val]; omega, fun id hid hn => by rw [upd_ne ρ _ (Pos.ne_of_val (by omega))]; exact hn, ⟨rfl, rfl⟩, fun b hb _ => fzAt_of (wpush_old w _ b hb)⟩⟩
  · intro id es' sz' cs' hl
    rcases live_set hl with ⟨rfl, rfl, rfl, rfl⟩ | ⟨hne, hl⟩
    · refine ⟨_, upd_same .., ⟨rfl, fun _ => rfl⟩, C, fz, by rw [hE]; exact wpush_new w _, rfl, fun k hk => ?_, fun k _ hk => hf k hk⟩
      obtain ⟨x, hx, hv⟩ := hc k hk
      exact ⟨x, by simpa using hx, VR.mono hle _ _ hv⟩
    · obtain ⟨q, h1, h2, h3⟩ := h.live id es' sz' cs' hl
      exact ⟨q, hle _ _ h1, h2, h3.mono hle (wpush_old w _ q.r (h.inside _ _ h1))⟩
  · intro id id' es1 sz1 cs1 es2 sz2 cs2 q q' hl hl' h1 h2 hqq
    rcases live_set hl with ⟨rfl, -, -⟩ | ⟨hne, hm⟩ <;> rcases live_set hl' with ⟨e2, -, -⟩ | ⟨hne', hm'⟩
    · exact e2.symm
    · rw [upd_same] at h1; rw [upd_ne ρ _ hne'] at h2
      injection h1 with h1; subst h1
      have := h.inside _ _ h2; simp at hqq; omega
    · subst e2
      rw [upd_same] at h2; rw [upd_ne ρ _ hne] at h1
      injection h2 with h2; subst h2
      have := h.inside _ _ h1; simp at hqq; omega
    · rw [upd_ne ρ _ hne] at h1; rw [upd_ne ρ _ hne'] at h2
      exact h.apart _ _ _ _ _ _ _ _ _ _ hm hm' h1 h2 hqq
  · intro id hid
    rw [Pos.inc_val] at hid
    have hne : id ≠ nx := Pos.ne_of_val (by omega)
    rw [upd_ne ρ _ hne, TB.get_set_ne _ (Ne.symm hne)]
    exact h.fresh id (by omega)
  · intro id q h1
    rw [wpush_size]
    by_cases hi : id = nx
    · subst hi; rw [upd_same] at h1; injection h1 with h1; subst h1; simp
    · rw [upd_ne ρ _ hi] at h1; have := h.inside _ _ h1; omega
  · rintro b hb ⟨id, es', sz', cs', q, hl, h1, hq⟩
    rcases live_set hl with ⟨rfl, -, -⟩ | ⟨hne, hl⟩
    · rw [upd_same] at h1; injection h1 with h1; subst h1; simp at hq; omega
    · rw [upd_ne ρ _ hne] at h1; exact ⟨id, es', sz', cs', q, hl, h1, hq⟩
theorem HR.new {nx : Pos} {bs : TB} {w : World} (h : HR ρ nx bs w) {C : Array Value} {E : TypeId} {fz : Nat × Nat} {es sz : Nat} {tv : TV}
    (hE : E = es / 65536) (hc : ∀ k, k < sz → ∃ x, C[k]? = some x ∧ VR ρ (tv.at (k + 1)) x) (hf : ∀ k, k < C.size → ¬ (fz.1 ≤ k ∧ k < fz.2)) :
    HR (upd ρ nx ⟨w.heap.size, 0, C.size, es, none, none⟩) nx.inc (bs.set nx (.mk es sz tv)) (wpush w (.cells C E fz)) ∧
    Ext ρ nx bs w (upd ρ nx ⟨w.heap.size, 0, C.size, es, none, none⟩) nx.inc (bs.set nx (.mk es sz tv)) (wpush w (.cells C E fz)) := by
  obtain ⟨k1, k2⟩ := h.toHR0.new hE hc hf
  exact ⟨h.step k1 k2, k2⟩

/-! ### a row stored -/
theorem setCells_size (b : Nat) : ∀ (vs : List Value) (o : Nat) (w : World), (w.setCells b o vs).heap.size = w.heap.size
  | [], _, _ => rfl
  | v :: vs, o, w => by rw [World.setCells, setCells_size b vs]; simp [World.setCell]
theorem setCells_env (b : Nat) : ∀ (vs : List Value) (o : Nat) (w : World), Evn w (w.setCells b o vs)
  | [], _, w => Evn.refl w
  | v :: vs, o, w => by rw [World.setCells]; exact Evn.trans (w' := w.setCell ⟨b, o, none⟩ v) ⟨rfl, rfl⟩ (setCells_env b vs (o + 1) _)
theorem setCells_other (b : Nat) : ∀ (vs : List Value) (o : Nat) (w : World) (x : Nat), x ≠ b → (w.setCells b o vs).heap[x]? = w.heap[x]?
  | [], _, _, _, _ => rfl
  | v :: vs, o, w, x, h => by rw [World.setCells, setCells_other b vs (o + 1) _ x h]; simp only [World.setCell]; rw [Array.getElem?_modify, if_neg (Ne.symm h)]
theorem setCells_same (b : Nat) : ∀ (vs : List Value) (o : Nat) (w : World) (C : Array Value) (E : TypeId) (fz : Nat × Nat), w.heap[b]? = some (.cells C E fz) →
    ∃ C', (w.setCells b o vs).heap[b]? = some (.cells C' E fz) ∧ C'.size = C.size ∧ ∀ k, C'[k]? = if o ≤ k ∧ k < o + vs.length ∧ k < C.size then vs[k - o]? else C[k]?
  | [], o, w, C, E, fz, h => ⟨C, h, rfl, fun k => by rw [if_neg (by simp only [List.length_nil]; omega)]⟩
  | v :: vs, o, w, C, E, fz, h => by
    have h1 : (w.setCell ⟨b, o, none⟩ v).heap[b]? = some (.cells (C.setIfInBounds o v) E fz) := by
      simp only [World.setCell]; rw [Array.getElem?_modify, if_pos rfl, h]; rfl
    obtain ⟨C', h2, h3, h4⟩ := setCells_same b vs (o + 1) _ _ E fz h1
    refine ⟨C', h2, by rw [h3]; simp, fun k => ?_⟩
    rw [h4 k, Array.size_setIfInBounds]
    simp only [List.length_cons]
    by_cases e1 : k = o
    · subst e1
      rw [if_neg (by omega), Array.getElem?_setIfInBounds, if_pos rfl]
      by_cases e2 : k < C.size
      · rw [if_pos (by omega)]; simp [e2]
      · rw [if_neg (by omega)]; simp [e2]
    · by_cases e2 : o + 1 ≤ k ∧ k < o + 1 + vs.length ∧ k < C.size
      · rw [if_pos e2, if_pos (by omega)]
        have e : k - o = (k - (o + 1)) + 1 := by omega
        rw [e, List.getElem?_cons_succ]
      · rw [if_neg e2, if_neg (by omega), Array.getElem?_setIfInBounds, if_neg (Ne.symm e1)]
/-- Cells of a live name written, the name staying. -/
theorem HR0.put {nx : Pos} {bs : TB} {w : World} (h : HR0 ρ nx bs w) {id : Pos} {es sz : Nat} {cs : TV} (hl : Live bs id es sz cs) {q : Pl} (hr : ρ id = some q) {off : Nat} {ns : List V} {vs : List Value}
    (hv : VRs ρ ns vs) (hb : off + ns.length ≤ sz) (hbig : sz ≤ 1099511627775) :
    HR0 ρ nx (bs.set id (.mk es sz (into ns cs (off + 1)))) (w.setCells q.r (q.o + off) vs) ∧ Ext ρ nx bs w ρ nx (bs.set id (.mk es sz (into ns cs (off + 1)))) (w.setCells q.r (q.o + off) vs) := by
  have hlen := hv.length
  have hown : ∀ b, Own ρ (bs.set id (.mk es sz (into ns cs (off + 1)))) b → Own ρ bs b := by
    rintro b ⟨id', es', sz', cs', q', hl', h1, hq⟩
    rcases live_set hl' with ⟨rfl, -, -⟩ | ⟨-, hl'⟩
    · exact ⟨_, es, sz, cs, q', hl, h1, hq⟩
    · exact ⟨_, _, _, _, q', hl', h1, hq⟩
  obtain ⟨q', hr', hes, C, fz, g1, g0, g2, g3⟩ := h.live id es sz cs hl
  rw [hr] at hr'; injection hr' with hr'; subst hr'
  obtain ⟨C', c1, c2, c3⟩ := setCells_same q.r vs (q.o + off) w C _ fz g1
  refine ⟨⟨?_, ?_, ?_, ?_⟩, ⟨Rho.le_refl ρ, Nat.le_of_eq (setCells_size ..).symm, ?_, fun b _ => hown b, Nat.le_refl _, fun _ _ h => h, setCells_env .., fun b _ _ => by
    by_cases e : b = q.r
    · subst e; rw [fzAt_cells c1, fzAt_cells g1]
    · exact fzAt_of (setCells_other q.r vs _ w b e)⟩⟩
  · intro id' es' sz' cs' hl'
    rcases live_set hl' with ⟨rfl, rfl, rfl, rfl⟩ | ⟨hne, hl'⟩
    · refine ⟨q, hr, hes, C', fz, c1, c2.trans g0, fun k hk => ?_, g3⟩
      obtain ⟨x, hx, hxv⟩ := g2 k hk
      have hks : q.o + k < C.size := by
        rcases Nat.lt_or_ge (q.o + k) C.size with hh | hh
        · exact hh
        · rw [Array.getElem?_eq_none hh] at hx; simp at hx
      rw [c3]
      by_cases e : off ≤ k ∧ k < off + ns.length
      · have hin := into_at ns cs (off + 1) (k - off) (by omega) (by omega) (by omega)
        have ek : off + 1 + (k - off) = k + 1 := by omega
        rw [ek] at hin
        obtain ⟨y, hy, hyv⟩ := hv.get _ _ hin
        refine ⟨y, ?_, hyv⟩
        rw [if_pos (by omega)]
        have ek2 : q.o + k - (q.o + off) = k - off := by omega
        rw [ek2]; exact hy
      · refine ⟨x, ?_, ?_⟩
        · rw [if_neg (by omega)]; exact hx
        · rw [into_ne ns cs (off + 1) (k + 1) (by omega) (by omega) (by omega)]; exact hxv
    · obtain ⟨q', h1, h2, h3⟩ := h.live id' es' sz' cs' hl'
      refine ⟨q', h1, h2, h3.mono (Rho.le_refl ρ) (setCells_other q.r vs _ w q'.r fun e => ?_)⟩
      exact hne (h.apart _ _ _ _ _ _ _ _ _ _ hl' hl h1 hr e)
  · intro id1 id2 es1 sz1 cs1 es2 sz2 cs2 q1 q2 hl1 hl2 h1 h2 hqq
    rcases live_set hl1 with ⟨e1, -, -⟩ | ⟨hne, hm1⟩ <;> rcases live_set hl2 with ⟨e2, -, -⟩ | ⟨hne', hm2⟩
    · rw [e1, e2]
    · subst e1; exact h.apart _ _ _ _ _ _ _ _ _ _ hl hm2 h1 h2 hqq
    · subst e2; exact h.apart _ _ _ _ _ _ _ _ _ _ hm1 hl h1 h2 hqq
    · exact h.apart _ _ _ _ _ _ _ _ _ _ hm1 hm2 h1 h2 hqq
  · intro id' hid
    have hne : id ≠ id' := by
      rintro rfl
      have := (h.fresh id hid).1
      rw [hr] at this; simp at this
    rw [TB.get_set_ne _ hne]; exact h.fresh id' hid
  · intro id' q' h1; rw [setCells_size]; exact h.inside _ _ h1
  · intro b hb ho
    exact setCells_other q.r vs _ w b fun e => ho ⟨id, es, sz, cs, q, hl, hr, e.symm⟩
theorem HR.put {nx : Pos} {bs : TB} {w : World} (h : HR ρ nx bs w) {id : Pos} {es sz : Nat} {cs : TV} (hl : Live bs id es sz cs) {q : Pl} (hr : ρ id = some q) {off : Nat} {ns : List V} {vs : List Value}
    (hv : VRs ρ ns vs) (hb : off + ns.length ≤ sz) (hbig : sz ≤ 1099511627775) :
    HR ρ nx (bs.set id (.mk es sz (into ns cs (off + 1)))) (w.setCells q.r (q.o + off) vs) ∧ Ext ρ nx bs w ρ nx (bs.set id (.mk es sz (into ns cs (off + 1)))) (w.setCells q.r (q.o + off) vs) := by
  obtain ⟨k1, k2⟩ := h.toHR0.put hl hr hv hb hbig
  exact ⟨h.step k1 k2, k2⟩

/-! ### loads -/
noncomputable def bk {α : Type} (bs : TB) (id : Pos) (k : Nat → Nat → TV → Option α) : Option α := Bk.casesOn (bs.get id) none k
theorem bk_some {α : Type} {bs : TB} {id : Pos} {k : Nat → Nat → TV → Option α} {r : α} (h : bk bs id k = some r) : ∃ es sz cs, Live bs id es sz cs ∧ k es sz cs = some r := by
  unfold bk at h
  cases e : bs.get id with
  | none => rw [e] at h; cases h
  | mk es sz cs => rw [e] at h; exact ⟨es, sz, cs, e, h⟩
noncomputable def ldS (bs : TB) (x : V) : Option V := asP x none fun id off => bk bs id fun _ sz cs => cond (Nat.ble (Nat.succ off) sz) (some (cs.at (Nat.succ off))) none
noncomputable def ldG (n : Nat) (bs : TB) (x : V) : Option V := asP x none fun id off => bk bs id fun _ sz cs => cond (Nat.ble (Nat.add off n) sz) (some (.g (cs.take n (Nat.succ off)))) none
theorem cell_of {w : World} {r : Nat} {C : Array Value} {E : TypeId} {fz : Nat × Nat} (h : w.heap[r]? = some (.cells C E fz)) (k : Nat) : w.cell? ⟨r, k, none⟩ = C[k]? := by
  unfold World.cell?; rw [h]; simp
theorem frozen_of {w : World} {r : Nat} {C : Array Value} {E : TypeId} {fz : Nat × Nat} (h : w.heap[r]? = some (.cells C E fz)) (k : Nat) (hf : ¬ (fz.1 ≤ k ∧ k < fz.2)) : w.frozen? ⟨r, k, none⟩ = false := by
  unfold World.frozen?; rw [h]; obtain ⟨lo, hi⟩ := fz; simp at hf ⊢; exact hf
theorem run_loadAt_scal (P : Program) (w : World) {t : TypeId} (hs : scal (tiOf P) t = true) (a : Addr) (x : Value) (h : w.cell? a = some x) : (Instr.loadAt t (.pointer (some a))).run P w = .ok x w := by
  unfold Instr.loadAt
  show ((do loadVar t (← (pure a : Sem Addr))) : Sem Value).run P w = _
  rw [Sem.run_bind, Sem.run_pure, Result.andThen_ok]
  unfold loadVar
  rw [Sem.run_bind, run_isAgg_scal P w hs, Result.andThen_ok]
  simp [h]
theorem snd_ldS (P : Program) {t : TypeId} (hs : scal (tiOf P) t = true) {nx : Pos} {bs : TB} {w : World} (hh : HR ρ nx bs w) {v r : V} {x : Value} (hv : VR ρ v x) (hf : ldS bs v = some r) : ∃ y, (Instr.loadAt t x).run P w = .ok y w ∧ VR ρ r y := by
  obtain ⟨id, off, ea, h1⟩ := asP_some hf
  subst ea
  obtain ⟨es, sz, cs, hl, h2⟩ := bk_some h1
  obtain ⟨h3, h4⟩ := cond_some h2
  have h3 : off + 1 ≤ sz := Nat.le_of_ble_eq_true h3
  injection h4 with h4; subst h4
  obtain ⟨q, e, rfl⟩ := hv.p
  obtain ⟨q', e', -, C, fz, g1, g0, g2, g3⟩ := hh.live _ _ _ _ hl
  rw [e] at e'; injection e' with e'; subst e'
  obtain ⟨y, hy, hyv⟩ := g2 off (by omega)
  exact ⟨y, run_loadAt_scal P w hs _ y (by rw [cell_of g1]; exact hy), hyv⟩
theorem snd_ldG (P : Program) {t : TypeId} {i : TypeInfo} (hs : aggr (tiOf P) t = true) (hi : P.info? t = some i) {nx : Pos} {bs : TB} {w : World} (hh : HR ρ nx bs w) {v r : V} {x : Value} (hv : VR ρ v x) (hf : ldG i.size bs v = some r) :
    ∃ y, (Instr.loadAt t x).run P w = .ok y w ∧ VR ρ r y := by
  obtain ⟨id, off, ea, h1⟩ := asP_some hf
  subst ea
  obtain ⟨es, sz, cs, hl, h2⟩ := bk_some h1
  obtain ⟨h3, h4⟩ := cond_some h2
  have h3 : off + i.size ≤ sz := Nat.le_of_ble_eq_true h3
  injection h4 with h4; subst h4
  obtain ⟨q, e, rfl⟩ := hv.p
  obtain ⟨q', e', -, C, fz, g1, g0, g2, g3⟩ := hh.live _ _ _ _ hl
  rw [e] at e'; injection e' with e'; subst e'
  have hcells : ∀ j, j < i.size → w.cell? ((⟨q.r, q.o + off, none⟩ : Addr).add j) = some (C.getD (q.o + off + j) undef) := fun j hj => by
    obtain ⟨y, hy, hyv⟩ := g2 (off + j) (by omega)
    rw [add_mk, cell_of g1]
    have : q.o + off + j = q.o + (off + j) := by omega
    rw [this, hy]; simp [Array.getD_eq_getD_getElem?, hy]
  refine ⟨.agg ((List.range i.size).map fun j => C.getD (q.o + off + j) undef).toArray, ?_, VR_g ?_⟩
  · unfold Instr.loadAt
    show ((do loadVar t (← (pure ⟨q.r, q.o + off, none⟩ : Sem Addr))) : Sem Value).run P w = _
    rw [Sem.run_bind, Sem.run_pure, Result.andThen_ok]
    unfold loadVar
    rw [Sem.run_bind, run_isAgg_aggr P w hs, Result.andThen_ok]
    simp [run_sizeOf P w hi, run_loadCells w _ i.size _ hcells]
  · refine VRs.mk (by rw [TV.take_length]; simp) fun k c y hc hy => ?_
    have hk : k < i.size := by
      rcases Nat.lt_or_ge k i.size with hh | hh
      · exact hh
      · rw [List.getElem?_eq_none (by rw [TV.take_length]; exact hh)] at hc; simp at hc
    rw [TV.take_get cs i.size (off + 1) k hk] at hc
    injection hc with hc; subst hc
    obtain ⟨z, hz, hzv⟩ := g2 (off + k) (by omega)
    have e5 : q.o + (off + k) = q.o + off + k := by omega
    rw [e5] at hz
    simp [hk, Array.getD_eq_getD_getElem?, hz] at hy
    subst hy
    have e6 : off + 1 + k = off + k + 1 := by omega
    rw [e6]; exact hzv

end Go.Proofs.YtmbnogellhoheaaGreatDoor.Ev

/- Stores, new variables, boxes, slices made. -/
namespace Go.Proofs.YtmbnogellhoheaaGreatDoor.Ev
open Go
variable {ρ : Rho}

/-! ### what may lie in a cell -/
noncomputable def flat (v : V) : Bool :=
  V.casesOn (motive_1 := fun _ => Bool) v false (fun _ => true) (fun _ => true) (fun _ _ => true) (fun _ => true) (fun _ _ => true) true (fun _ _ => true) true (fun _ _ _ _ => true) true (fun _ _ => true) (fun _ => false) (fun _ => false) true (fun _ _ => true) (fun _ => true)
noncomputable def flatL (L : List V) : Bool := List.rec (motive := fun _ => Bool) true (fun c _ ih => cond (flat c) ih false) L
theorem flat_one {v : V} {x : Value} (h : flat v = true) (hv : VR ρ v x) : x.oneCell' = true := by
  by_cases ha : ∃ k i, v = .a k i
  · obtain ⟨k, i, rfl⟩ := ha
    obtain ⟨q, -, hq⟩ := hv.a
    unfold AtR at hq
    split at hq <;> first | rfl | exact hq.elim
  · cases v <;> simp [flat] at h <;> try (exact absurd ⟨_, _, rfl⟩ ha)
    all_goals (cases x <;> simp [VR] at hv <;> rfl)
theorem flatL_one : ∀ {cs : List V} {xs : List Value}, flatL cs = true → VRs ρ cs xs → ∀ x ∈ xs, x.oneCell' = true
  | [], [], _, _, x, hx => by simp at hx
  | [], _ :: _, _, h, _, _ => by simp [VRs] at h
  | _ :: _, [], _, h, _, _ => by simp [VRs] at h
  | c :: cs, x :: xs, h, hv, y, hy => by
    have h : cond (flat c) (flatL cs) false = true := h
    simp only [VRs] at hv
    cases hc : flat c with
    | false => rw [hc] at h; simp at h
    | true =>
      rw [hc, cond_true] at h
      rcases List.mem_cons.1 hy with rfl | hy
      · exact flat_one hc hv.1
      · exact flatL_one h hv.2 y hy
theorem flatL_cells_notU {v : V} (h : flatL (cellsV v) = true) : v ≠ .u := by
  rintro rfl; simp [flatL, cellsV, flat] at h

/-! ### stores -/
noncomputable def stC (n : Nat) (bs : TB) (x v : V) : Option TB := asP x none fun id off => bk bs id fun es sz cs =>
  cond (Nat.ble (Nat.add off n) sz) (cond (Nat.ble sz 1099511627775) (cond (flatL (cellsV v)) (cond (Nat.beq (lenV (cellsV v)) n) (some (bs.set id (.mk es sz (into (cellsV v) cs (Nat.succ off))))) none) none) none) none
theorem run_storeAt (P : Program) {w : World} {t : TypeId} {i : TypeInfo} (hi : P.info? t = some i) {C : Array Value} {E : TypeId} {fz : Nat × Nat} {r o : Nat} {x : Value} (h1 : w.heap[r]? = some (.cells C E fz))
    (h2 : o + i.size ≤ C.size) (hf : ∀ k, o ≤ k → k < C.size → ¬ (fz.1 ≤ k ∧ k < fz.2)) (hs : x.cells.size = i.size) (ho : ∀ y ∈ x.cells.toList, y.oneCell' = true) :
    (Instr.storeAt t (.pointer (some ⟨r, o, none⟩)) x).run P w = .ok () (w.setCells r o x.cells.toList) := by
  unfold Instr.storeAt
  show ((do storeVar t (← (pure ⟨r, o, none⟩ : Sem Addr)) x) : Sem Unit).run P w = _
  rw [Sem.run_bind, Sem.run_pure, Result.andThen_ok]
  unfold storeVar
  have hl : x.cells.toList.length = i.size := by rw [← hs]; simp
  have := run_storeCells_cells (P := P) r o x.cells.toList 0 w (fun j hj => by rw [Nat.add_zero, cell_of h1]; simp; omega)
    (fun j hj => by rw [Nat.add_zero]; exact frozen_of h1 _ (hf _ (by omega) (by omega))) ho
  simp [run_sizeOf P w hi, hs, this]
theorem BR.size_le {w : World} {sz : Nat} {cs : TV} {q : Pl} (h : BR ρ w sz cs q) (hs : 0 < sz) : q.o + sz ≤ q.n := by
  obtain ⟨C, fz, g1, g0, g2, g3⟩ := h
  obtain ⟨x, hx, -⟩ := g2 (sz - 1) (by omega)
  rcases Nat.lt_or_ge (q.o + (sz - 1)) C.size with hh | hh
  · omega
  · rw [Array.getElem?_eq_none hh] at hx; simp at hx
theorem snd_stC (P : Program) {t : TypeId} {i : TypeInfo} (hi : P.info? t = some i) (hi0 : i.size ≠ 0) {nx : Pos} {bs bs' : TB} {w : World} (hh : HR ρ nx bs w) {v v' : V} {x x' : Value} (hv : VR ρ v x) (hv' : VR ρ v' x') (hf : stC i.size bs v v' = some bs') :
    ∃ w', (Instr.storeAt t x x').run P w = .ok () w' ∧ HR ρ nx bs' w' ∧ Ext ρ nx bs w ρ nx bs' w' := by
  obtain ⟨id, off, ea, h1⟩ := asP_some hf
  subst ea
  obtain ⟨es, sz, cs, hl, h2⟩ := bk_some h1
  obtain ⟨c1, h2⟩ := cond_some h2
  obtain ⟨c2, h2⟩ := cond_some h2
  obtain ⟨c3, h2⟩ := cond_some h2
  obtain ⟨c4, h2⟩ := cond_some h2
  have c1 : off + i.size ≤ sz := Nat.le_of_ble_eq_true c1
  have c2 : sz ≤ 1099511627775 := Nat.le_of_ble_eq_true c2
  have c4 := Nat.eq_of_beq_eq_true c4
  rw [lenV_eq] at c4
  injection h2 with h2; subst h2
  obtain ⟨q, e, rfl⟩ := hv.p
  have hcells := VR.cells (flatL_cells_notU c3) hv'
  have hlen := hcells.length
  obtain ⟨q', e', -, hbr⟩ := hh.live _ _ _ _ hl
  rw [e] at e'; injection e' with e'; subst e'
  have hsz := hbr.size_le (by omega)
  obtain ⟨C, fz, g1, g0, g2, g3⟩ := hbr
  have hs : x'.cells.size = i.size := by rw [← c4, hlen]; simp
  obtain ⟨k1, k2⟩ := hh.put hl e (off := off) hcells (by omega) c2
  exact ⟨_, run_storeAt P hi g1 (by omega) (fun k hk1 hk2 => g3 k (by omega) (by omega)) hs (flatL_one c3 hcells), k1, k2⟩

/-! ### new variables -/
theorem into_at' (cs : List V) (k : Nat) (c : V) (h : cs[k]? = some c) (hb : cs.length ≤ 1099511627775) : (into cs .e 1).at (k + 1) = c := by
  have hk : k < cs.length := by
    rcases Nat.lt_or_ge k cs.length with hh | hh
    · exact hh
    · rw [List.getElem?_eq_none hh] at h; simp at h
  have := into_at cs .e 1 k (by omega) hk (by omega)
  rw [h] at this; injection this with this
  have e : 1 + k = k + 1 := by omega
  rw [e] at this; exact this.symm
theorem VR_p_new {nx : Pos} {w : World} {n es : Nat} : VR (upd ρ nx ⟨w.heap.size, 0, n, es, none, none⟩) (.p nx 0) (.pointer (some ⟨w.heap.size, 0, none⟩)) := VR_p (upd_same ..) rfl
theorem run_newVar (P : Program) (w : World) (t : TypeId) (v : Value) : (newVar t v).run P w = .ok ⟨w.heap.size, 0, none⟩ (wpush w (.cells v.cells t)) := by
  unfold newVar newRow; simp [wpush]
/-- What `alloc` of a type begins with. -/
def zplan (Y : TI) (t : TypeId) : Option (List V) :=
  match Y.inf t with
  | some i => match i.zero with
    | some z => cvalsS z.cells.toList
    | none => none
  | none => none
theorem run_alloc (P : Program) (w : World) {t : TypeId} {i : TypeInfo} {z : Value} (hi : P.info? t = some i) (hz : i.zero = some z) :
    (Instr.alloc t true (.tuple #[])).run P w = .ok (.pointer (some ⟨w.heap.size, 0, none⟩)) (wpush w (.cells z.cells t)) := by
  unfold Instr.alloc zeroValue typeInfo
  simp [hi, hz, run_newVar]
theorem ty_div {e sz : Nat} (h : sz < 65536) : e = (e * 65536 + sz) / 65536 := by omega
theorem ty_mod {e sz : Nat} (h : sz < 65536) : (e * 65536 + sz) % 65536 = sz := by omega
theorem ty_div0 {e : Nat} : e = e * 65536 / 65536 := by omega
/-- What a new block holds, and what the value that leads to it is: a pointer, or a slice (of elements of a size, a length, a capacity). -/
inductive NV where
  | p (es : Nat) (cs : List V)
  | l (es len cap : Nat) (cs : List V)
noncomputable def NV.es (n : NV) : Nat := NV.casesOn n (fun es _ => es) fun es _ _ _ => es
noncomputable def NV.cs (n : NV) : List V := NV.casesOn n (fun _ cs => cs) fun _ _ _ cs => cs
noncomputable def NV.val (n : NV) (id : Pos) : V := NV.casesOn n (fun _ _ => .p id 0) fun _ len cap _ => .l id 0 len cap
/-- An operation makes such a block. -/
def NSnd (ρ : Rho) (w : World) (n : NV) (res : Result Value) : Prop :=
  ∃ y w' C fz, res = .ok y w' ∧ Evn w w' ∧ w'.heap = w.heap.push (.cells C (n.es / 65536) fz) ∧ n.cs.length ≤ 1099511627775 ∧ (∀ (k : Nat) (c : V), n.cs[k]? = some c → ∃ x, C[k]? = some x ∧ VR ρ c x) ∧ (∀ k, k < C.size → ¬ (fz.1 ≤ k ∧ k < fz.2)) ∧
    ∀ ρ' id, ρ' id = some ⟨w.heap.size, 0, C.size, n.es, none, none⟩ → VR ρ' (n.val id) y
/-- Under the next name. -/
theorem NSnd.next {nx : Pos} {bs : TB} {w : World} {n : NV} {res : Result Value} (h : NSnd ρ w n res) (hh : HR ρ nx bs w) :
    ∃ y w' ρ', res = .ok y w' ∧ VR ρ' (n.val nx) y ∧ HR ρ' nx.inc (bs.set nx (.mk n.es n.cs.length (into n.cs .e 1))) w' ∧ Ext ρ nx bs w ρ' nx.inc (bs.set nx (.mk n.es n.cs.length (into n.cs .e 1))) w' := by
  obtain ⟨y, w', C, fz, h1, he, h2, h3, h4, h5, h6⟩ := h
  obtain ⟨k1, k2⟩ := hh.new (C := C) (E := n.es / 65536) (fz := fz) (es := n.es) (sz := n.cs.length) (tv := into n.cs .e 1) rfl (fun k hk => by
    obtain ⟨x, hx, hv⟩ := h4 k n.cs[k] (List.getElem?_eq_getElem hk)
    exact ⟨x, hx, by rw [into_at' n.cs k n.cs[k] (List.getElem?_eq_getElem hk) h3]; exact hv⟩) h5
  exact ⟨y, w', _, h1, h6 _ _ (upd_same ..), k1.congr h2, k2.congr h2 he⟩
theorem nsnd_p {w w' : World} {es : Nat} {cs : List V} {C : Array Value} {E : TypeId} {res : Result Value} (h1 : res = .ok (.pointer (some ⟨w.heap.size, 0, none⟩)) w') (h2 : w'.heap = w.heap.push (.cells C E)) (hE : E = es / 65536) (hb : cs.length ≤ 1099511627775) (hc : VRs ρ cs C.toList) (he : Evn w w' := by exact ⟨rfl, rfl⟩) :
    NSnd ρ w (.p es cs) res :=
  ⟨_, w', C, (0, 0), h1, he, by rw [h2, hE]; rfl, hb, fun k c hk => by obtain ⟨x, hx, hv⟩ := hc.get k c hk; exact ⟨x, by simpa using hx, hv⟩, fun k _ => by simp, fun ρ' id hid => VR_p hid rfl⟩
theorem nsnd_l {w w' : World} {es len cap c : Nat} {cs : List V} {C : Array Value} {E : TypeId} {res : Result Value} (h1 : res = .ok (.slice (some ⟨w.heap.size, 0, none⟩) len c) w') (h2 : w'.heap = w.heap.push (.cells C E)) (hE : E = es / 65536) (hb : cs.length ≤ 1099511627775)
    (hc : ∀ (k : Nat) (v : V), cs[k]? = some v → ∃ x, C[k]? = some x ∧ VR ρ v x) (hl : len ≤ c) (hcap : cap ≠ 0 → c + 1 = cap) (hun : cap = 0 → c * (es % 65536) ≤ C.size) (he : Evn w w' := by exact ⟨rfl, rfl⟩) : NSnd ρ w (.l es len cap cs) res :=
  ⟨_, w', C, (0, 0), h1, he, by rw [h2, hE]; rfl, hb, hc, fun k _ => by simp, fun ρ' id hid => by
    show VR ρ' (.l id 0 len cap) _
    unfold VR
    exact ⟨rfl, hl, hcap, _, 0, hid, rfl, .inr rfl, fun h => .inr (by show 0 + c * (es % 65536) ≤ C.size; have := hun h; omega)⟩⟩
theorem snd_alloc (P : Program) {t : TypeId} {cs : List V} (hz : zplan (tiOf P) t = some cs) (hb : cs.length ≤ 1099511627775) (w : World) : NSnd ρ w (.p (t * 65536) cs) ((Instr.alloc t true (.tuple #[])).run P w) := by
  unfold zplan at hz
  dsimp only [tiOf] at hz
  split at hz
  · rename_i i hi
    split at hz
    · rename_i z hz'
      exact nsnd_p (run_alloc P w hi hz') rfl ty_div0 hb (cvalsS_VR hz)
    · simp at hz
  · simp at hz
noncomputable def boxV (es : Nat) (v : V) : Option NV := cond (isU v) none (cond (Nat.ble (lenV (cellsV v)) 1099511627775) (some (.p es (cellsV v))) none)
theorem snd_boxV (P : Program) (t : TypeId) (w : World) {v : V} {x : Value} (hv : VR ρ v x) {n : NV} (hf : boxV (t * 65536) v = some n) : NSnd ρ w n ((Instr.box t x).run P w) := by
  unfold boxV at hf
  cases hu : isU v with
  | true => rw [hu] at hf; simp at hf
  | false =>
    rw [hu, cond_false] at hf
    obtain ⟨hb, h2⟩ := cond_some hf
    have hb := Nat.le_of_ble_eq_true hb
    rw [lenV_eq] at hb
    injection h2 with h2; subst h2
    refine nsnd_p (w' := wpush w (.cells x.cells t)) (E := t) ?_ rfl ty_div0 hb (VR.cells (isU_false hu) hv)
    unfold Instr.box; simp [run_newVar, wpush]

/-! ### slices written out -/
/-- The zero cells of so many elements. -/
def splan (Y : TI) (t : TypeId) (len : Nat) : Option (Nat × List V) :=
  match Y.und t with
  | some (.slice e) => match Y.inf e with
    | some i => match i.zero with
      | some z => if i.size = z.cells.size ∧ i.size ≠ 0 ∧ len * i.size ≤ 65536 ∧ i.size < 65536 then (cvalsS ((List.range (len * i.size)).map fun k => z.cells[k % z.cells.size]!)).map fun cs => (e * 65536 + i.size, cs) else none
      | none => none
    | none => none
  | _ => none
noncomputable def bslV (es len : Nat) (zs : List V) (ps : List (Nat × Nat × V)) : Option NV :=
  Option.casesOn (fillV ps zs) none fun cs => some (.l es len (Nat.succ len) cs)
theorem fillV_length : ∀ (ps : List (Nat × Nat × V)) (L L' : List V), fillV ps L = some L' → L'.length = L.length
  | [], L, L', h => by injection h with h; rw [h]
  | p :: ps, L, L', h => by
    have h : cond (isU p.2.2) none (cond (Nat.beq (lenV (cellsV p.2.2)) p.2.1) (fillV ps (splice p.1 (cellsV p.2.2) L)) none) = some L' := h
    cases hu : isU p.2.2 with
    | true => rw [hu] at h; simp at h
    | false =>
      rw [hu, cond_false] at h
      obtain ⟨-, h⟩ := cond_some h
      rw [fillV_length ps _ L' h, splice_length]
theorem cvalsS_length : ∀ {xs : List Value} {cs : List V}, cvalsS xs = some cs → cs.length = xs.length
  | [], cs, h => by simp only [cvalsS] at h; injection h with h; subst h; rfl
  | x :: xs, cs, h => by
    simp only [cvalsS] at h
    split at h
    · rename_i c cs' h1 h2
      injection h with h; subst h
      simp [cvalsS_length h2]
    · simp at h
theorem snd_bslV (P : Program) {t : TypeId} {len es : Nat} {zs : List V} (hp : splan (tiOf P) t len = some (es, zs)) (w : World) {n : NV} {ps : List (Nat × Nat × V)} {qs : Array (Nat × Value)}
    (hps : F2 (fun p q => p.1 = q.1 * (es % 65536) ∧ p.2.1 = es % 65536 ∧ p.1 + p.2.1 ≤ zs.length ∧ VR ρ p.2.2 q.2) ps qs.toList) (hf : bslV es len zs ps = some n) :
    NSnd ρ w n ((Instr.buildSlice t len qs).run P w) := by
  unfold splan at hp
  dsimp only [tiOf] at hp
  split at hp
  case h_2 => simp at hp
  rename_i e he
  split at hp
  case h_2 => simp at hp
  rename_i i hi
  split at hp
  case h_2 => simp at hp
  rename_i z hz
  split at hp
  case isFalse => simp at hp
  rename_i hs
  obtain ⟨hs1, hs2, hs3, hs4⟩ := hs
  obtain ⟨cs, h1, h2⟩ := Option.map_eq_some_iff.1 hp
  injection h2 with e1 e2; subst e1; subst e2
  have em : (e * 65536 + i.size) % 65536 = i.size := ty_mod hs4
  have ed : e = (e * 65536 + i.size) / 65536 := ty_div hs4
  rw [em] at hps
  unfold bslV at hf
  cases hfl : fillV ps cs with
  | none => rw [hfl] at hf; cases hf
  | some L =>
    rw [hfl] at hf
    have hf : some (NV.l (e * 65536 + i.size) len (Nat.succ len) L) = some n := hf
    injection hf with hf; subst hf
    have hcl := cvalsS_length h1
    have hl : L.length = len * i.size := by rw [fillV_length _ _ _ hfl, hcl]; simp
    obtain ⟨ys, hy1, hy2⟩ := fillV_snd (ρ := ρ) (fun k => some (k * i.size, i.size)) ps qs.toList cs L ((List.range (len * i.size)).map fun k => z.cells[k % z.cells.size]!).toArray
      (hps.imp fun a b hab => ⟨by rw [hab.1, hab.2.1], hab.2.2.1, hab.2.2.2⟩) (by simpa using cvalsS_VR (ρ := ρ) h1) hfl
    refine nsnd_l (w' := wpush w (.cells ys e)) (C := ys) (E := e) ?_ rfl ed (by rw [hl]; omega) (fun k v hk => by obtain ⟨x, hx, hv⟩ := hy2.get k v hk; exact ⟨x, by simpa using hx, hv⟩) (Nat.le_refl _) (fun _ => rfl) (fun h => by omega)
    unfold Instr.buildSlice
    have e3 : ((Array.range (len * i.size)).map fun k => z.cells[k % z.cells.size]!) = ((List.range (len * i.size)).map fun k => z.cells[k % z.cells.size]!).toArray := by
      apply Array.ext'; simp
    have e4 : ¬ len * i.size > 2 ^ 24 := by omega
    rw [Sem.run_bind, run_underlying P w he, Result.andThen_ok]
    by_cases h0 : len * i.size = 0
    · have e5 : ((List.range (len * i.size)).map fun k => z.cells[k % z.cells.size]!) = [] := by rw [h0]; rfl
      rw [e5] at hy1
      have e6 : Array.range 0 = #[] := rfl
      simp [run_sizeOf P w hi, h0, hy1, newRow, wpush, e6]
    · simp [run_sizeOf P w hi, h0, e4, zeroValue, typeInfo, hi, hz, e3, hy1, newRow, wpush]

/-! ### slices made -/
noncomputable def catL (zs L : List V) : List V := List.rec (motive := fun _ => List V) L (fun c _ ih => c :: ih) zs
theorem catL_eq (L : List V) : ∀ zs : List V, catL zs L = zs ++ L
  | [] => rfl
  | c :: zs => congrArg (c :: ·) (catL_eq L zs)
/-- A list so many times. -/
noncomputable def rep (zs : List V) (c : Nat) : List V := Nat.rec [] (fun _ ih => catL zs ih) c
theorem rep_length (zs : List V) : ∀ c, (rep zs c).length = c * zs.length
  | 0 => by show ([] : List V).length = _; simp
  | c + 1 => by
    show (catL zs (rep zs c)).length = _
    rw [catL_eq, List.length_append, rep_length zs c, Nat.succ_mul]; omega
theorem rep_get (zs : List V) : ∀ (c k : Nat), k < c * zs.length → (rep zs c)[k]? = zs[k % zs.length]?
  | 0, k, h => by omega
  | c + 1, k, h => by
    show (catL zs (rep zs c))[k]? = _
    rw [catL_eq]
    by_cases hk : k < zs.length
    · rw [List.getElem?_append_left hk, Nat.mod_eq_of_lt hk]
    · rw [List.getElem?_append_right (by omega), rep_get zs c _ (by rw [Nat.succ_mul] at h; omega)]
      congr 1
      rw [Nat.mod_eq_sub_mod (by omega : k ≥ zs.length)]
/-- What a new slice's elements are: their size and their zero cells. -/
def mplan (Y : TI) (t : TypeId) : Option (Nat × List V) :=
  match Y.und t with
  | some (.slice e) => match Y.inf e with
    | some i => match i.zero with
      | some z => if i.size = z.cells.size ∧ i.size < 65536 ∧ i.bytes ≤ 65536 then (cvalsS z.cells.toList).map fun cs => (e * 65536 + i.size, cs) else none
      | none => none
    | none => none
  | _ => none
noncomputable def mslV (es : Nat) (zs : List V) (x y : V) : Option NV := asN x none fun l => asN y none fun c => cond (Nat.ble l c) (cond (Nat.ble c 1048576) (some (.l es l (Nat.succ c) (rep zs c))) none) none
theorem snd_mslV (P : Program) {t : TypeId} {es : Nat} {zs : List V} (hp : mplan (tiOf P) t = some (es, zs)) (w : World) {v v' : V} {x x' : Value} (hv : VR ρ v x) (hv' : VR ρ v' x') {n : NV} (hf : mslV es zs v v' = some n) : NSnd ρ w n ((Instr.makeSlice t x x').run P w) := by
  unfold mplan at hp
  dsimp only [tiOf] at hp
  split at hp
  case h_2 => simp at hp
  rename_i e he
  split at hp
  case h_2 => simp at hp
  rename_i i hi
  split at hp
  case h_2 => simp at hp
  rename_i z hz
  split at hp
  case isFalse => simp at hp
  rename_i hs
  obtain ⟨hs1, hs2, hs3⟩ := hs
  obtain ⟨cs, h1, h2⟩ := Option.map_eq_some_iff.1 hp
  injection h2 with e1 e2; subst e1; subst e2
  obtain ⟨l, ev, h2⟩ := asN_some hf
  obtain ⟨c, ev', h2⟩ := asN_some h2
  obtain ⟨g1, h2⟩ := cond_some h2
  obtain ⟨g2, h2⟩ := cond_some h2
  have g1 : l ≤ c := Nat.le_of_ble_eq_true g1
  have g2 : c ≤ 1048576 := Nat.le_of_ble_eq_true g2
  injection h2 with h2; subst h2
  subst ev; subst ev'
  obtain ⟨hl, rfl⟩ := hv.n
  obtain ⟨hc, rfl⟩ := hv'.n
  have el : IntKind.i64.wrap (l : Int) = l := by rw [wrap_n l hl, if_pos (by omega)]
  have ec : IntKind.i64.wrap (c : Int) = c := by rw [wrap_n c hc, if_pos (by omega)]
  rw [el, ec]
  have hcl := cvalsS_length h1
  have hlen : cs.length = i.size := by rw [hcl, hs1]; simp
  have hm := Nat.mul_le_mul g2 (Nat.le_of_lt hs2)
  have hm2 := Nat.mul_le_mul hs3 g2
  have hr := run_make (P := P) w t e i z he hi hz .i64 .i64 (l : Int) (c : Int) (by omega) (by omega) (by
    have : ((i.bytes * c : Nat) : Int) ≤ 281474976710656 := by omega
    rwa [Int.natCast_mul] at this) (by omega)
  rw [Int.toNat_natCast, Int.toNat_natCast] at hr
  have hzv := cvalsS_VR (ρ := ρ) h1
  refine nsnd_l hr rfl (ty_div hs2) (by rw [rep_length, hlen]; omega) (fun k v hk => ?_) g1 (fun _ => rfl) (fun h => by omega)
  have hkl : k < c * cs.length := by
    rcases Nat.lt_or_ge k (c * cs.length) with hh | hh
    · exact hh
    · rw [List.getElem?_eq_none (by rw [rep_length]; exact hh)] at hk; simp at hk
  rw [rep_get cs c k hkl] at hk
  obtain ⟨x, hx, hxv⟩ := hzv.get _ _ hk
  refine ⟨x, ?_, hxv⟩
  rw [hlen] at hx hkl
  have hx' : z.cells[k % i.size]? = some x := by simpa using hx
  have e9 : z.cells.size = i.size := hs1.symm
  unfold madeCells
  simp [hkl, e9, Array.getElem!_eq_getD, Array.getD_eq_getD_getElem?, hx']

end Go.Proofs.YtmbnogellhoheaaGreatDoor.Ev

/- Cuts of slices; append. -/
namespace Go.Proofs.YtmbnogellhoheaaGreatDoor.Ev
open Go
variable {ρ : Rho}

/-! ### cuts of slices -/
noncomputable def optN (o : Option V) (d : Nat) (k : Nat → Option V) : Option V := Option.casesOn o (k d) fun v => asN v none k
/-- A number of a place, given or not, as the model has it. -/
def optR (ρ : Rho) : Option V → Option Value → Prop
  | none, none => True
  | some v, some x => VR ρ v x
  | _, _ => False
/-- s[lo:hi:mx]: of a slice whose capacity isn't known nothing behind its length, and its elements' size is looked up. -/
noncomputable def slL (ec sz : Nat) (bs : TB) (x : V) (lo hi mx : Option V) : Option V :=
  asL x none
    (optN lo 0 fun a => optN hi 0 fun b => optN mx 0 fun m => cond (and (Nat.beq a 0) (and (Nat.beq b 0) (Nat.beq m 0))) (some .l0) none)
    fun id off len cap => cond (Nat.ble len 1099511627776) (cond (Nat.ble cap 1099511627776)
      (cond (Nat.beq cap 0)
        (bk bs id fun es _ _ => cond (Nat.beq es ec) (optN lo 0 fun a => optN hi len fun b => cond (Nat.ble a b) (cond (Nat.ble b len)
          (Option.casesOn mx (some (.l id (Nat.add off (Nat.mul a sz)) (Nat.sub b a) 0)) fun mv => asN mv none fun m => cond (Nat.ble b m) (cond (Nat.ble m len) (some (.l id (Nat.add off (Nat.mul a sz)) (Nat.sub b a) (Nat.succ (Nat.sub m a)))) none) none) none) none) none)
        (optN lo 0 fun a => optN hi len fun b => optN mx (Nat.pred cap) fun m => cond (Nat.ble a b) (cond (Nat.ble b m) (cond (Nat.ble m (Nat.pred cap)) (some (.l id (Nat.add off (Nat.mul a sz)) (Nat.sub b a) (Nat.succ (Nat.sub m a)))) none) none) none)) none) none
theorem optN_spec {o : Option V} {x : Option Value} {d : Nat} {k : Nat → Option V} {r : V} (ho : optR ρ o x) (h : optN o d k = some r) :
    ∃ m, k m = some r ∧ ((x = none ∧ m = d) ∨ (m < 18446744073709551616 ∧ x = some (.int .i64 (IntKind.i64.wrap m)))) := by
  cases o with
  | none => cases x with
    | none => exact ⟨d, h, .inl ⟨rfl, rfl⟩⟩
    | some _ => exact ho.elim
  | some v => cases x with
    | none => exact ho.elim
    | some x =>
      obtain ⟨m, rfl, h2⟩ := asN_some h
      obtain ⟨hm, rfl⟩ := VR.n ho
      exact ⟨m, h2, .inr ⟨hm, rfl⟩⟩
/-- The bounds as the model finds them. -/
theorem run_bounds (P : Program) (w : World) (len cap a b m : Nat) (lo hi mx : Option Value) (hl : (lo = none ∧ a = 0) ∨ lo = some (.int .i64 (IntKind.i64.wrap (a : Int)))) (hh : (hi = none ∧ b = len) ∨ hi = some (.int .i64 (IntKind.i64.wrap (b : Int))))
    (hm : (mx = none ∧ m = cap) ∨ mx = some (.int .i64 (IntKind.i64.wrap (m : Int)))) (hmh : mx ≠ none → hi ≠ none) (h1 : a ≤ b) (h2 : b ≤ m) (h3 : m ≤ cap) (hc : m ≤ 1099511627776) (hc2 : mx ≠ none → cap ≤ 1099511627776) (hc3 : mx = none → hi ≠ none → cap ≤ 1099511627776) :
    (Instr.sliceBounds true len cap lo hi mx).run P w = .ok (a, b, m) w := by
  have sb : ∀ (k y : Nat) (c : BoundsCode), k ≤ y → k ≤ 1099511627776 → (Instr.sliceBound (.int .i64 (IntKind.i64.wrap (k : Int))) y c).run P w = .ok k w := fun k y c hk hk2 => by
    have ek : IntKind.i64.wrap (k : Int) = k := by rw [wrap_n k (by omega), if_pos (by omega)]
    rw [ek]
    unfold Instr.sliceBound
    rw [Sem.run_bind, run_asIntOf, Result.andThen_ok]
    show (if 0 ≤ (k : Int) ∧ (k : Int) ≤ (y : Int) then pure (k : Int).toNat else _ : Sem Nat).run P w = _
    rw [if_pos ⟨by omega, by omega⟩]
    have : (k : Int).toNat = k := by omega
    rw [this]; rfl
  unfold Instr.sliceBounds
  rcases hm with ⟨rfl, rfl⟩ | rfl <;> rcases hh with ⟨rfl, rfl⟩ | rfl <;> rcases hl with ⟨rfl, rfl⟩ | rfl
  · simp
  · simp [sb a b _ h1 (by omega)]
  · simp [sb b m _ h2 (by omega)]
  · simp [sb b m _ h2 (by omega), sb a b _ h1 (by omega)]
  · exact absurd rfl (hmh (by simp))
  · exact absurd rfl (hmh (by simp))
  · simp [sb m cap _ h3 hc, sb b m _ h2 (by omega)]
  · simp [sb m cap _ h3 hc, sb b m _ h2 (by omega), sb a b _ h1 (by omega)]
theorem run_sliceAt (P : Program) (w : World) {t e : TypeId} {i : TypeInfo} (ht : P.underlying t = some (.slice e)) (hi : P.info? e = some i) (x : Option Addr) (len cap : Nat) (lo hx mx : Option Value) (a b m : Nat)
    (hb : (Instr.sliceBounds true len cap lo hx mx).run P w = .ok (a, b, m) w) : (Instr.sliceAt t (.slice x len cap) lo hx mx).run P w = .ok (.slice (if m = a then x else x.map (·.add (a * i.size))) (b - a) (m - a)) w := by
  unfold Instr.sliceAt
  rw [Sem.run_bind, run_underlying P w ht, Result.andThen_ok]
  show (Instr.slice t (.slice x len cap) lo hx mx).run P w = _
  unfold Instr.slice
  rw [Sem.run_bind, run_underlying P w ht, Result.andThen_ok]
  simp [hb, run_sizeOf P w hi]
theorem beq3 {a b m : Nat} (h : and (Nat.beq a 0) (and (Nat.beq b 0) (Nat.beq m 0)) = true) : a = 0 ∧ b = 0 ∧ m = 0 := by
  simp only [Bool.and_eq_true] at h
  exact ⟨Nat.eq_of_beq_eq_true h.1, Nat.eq_of_beq_eq_true h.2.1, Nat.eq_of_beq_eq_true h.2.2⟩
theorem snd_slL (P : Program) {t e : TypeId} {i : TypeInfo} (ht : P.underlying t = some (.slice e)) (hi : P.info? e = some i) {nx : Pos} {bs : TB} {w : World} (hh : HR ρ nx bs w) {v r : V} {x : Value} {lo hiv mx : Option V} {xl xh xm : Option Value}
    (hv : VR ρ v x) (hl : optR ρ lo xl) (hhi : optR ρ hiv xh) (hm : optR ρ mx xm) (hmh : xm ≠ none → xh ≠ none) {ec : Nat} (hec : ec % 65536 = i.size) (hf : slL ec i.size bs v lo hiv mx = some r) : ∃ y, (Instr.sliceAt t x xl xh xm).run P w = .ok y w ∧ VR ρ r y := by
  have drp : ∀ {k d : Nat} {z : Option Value}, (z = none ∧ k = d) ∨ (k < 18446744073709551616 ∧ z = some (.int .i64 (IntKind.i64.wrap (k : Int)))) → (z = none ∧ k = d) ∨ z = some (.int .i64 (IntKind.i64.wrap (k : Int))) := fun h => h.imp id And.right
  rcases asL_some hf with ⟨ea, h1⟩ | ⟨id, off, len, cap, ea, h1⟩
  · subst ea
    have := hv.l0; subst this
    obtain ⟨a, h2, ha⟩ := optN_spec hl h1
    obtain ⟨b, h3, hb⟩ := optN_spec hhi h2
    obtain ⟨m, h4, hm'⟩ := optN_spec hm h3
    obtain ⟨h5, h6⟩ := cond_some h4
    obtain ⟨rfl, rfl, rfl⟩ := beq3 h5
    injection h6 with h6; subst h6
    refine ⟨.slice none 0 0, ?_, by unfold VR; exact ⟨rfl, rfl, rfl⟩⟩
    rw [run_sliceAt P w ht hi none 0 0 xl xh xm 0 0 0 (run_bounds P w 0 0 0 0 0 xl xh xm (drp ha) (drp hb) (drp hm') hmh (by omega) (by omega) (by omega) (by omega) (fun _ => by omega) (fun _ _ => by omega))]
    rfl
  · subst ea
    obtain ⟨g1, h1⟩ := cond_some h1
    obtain ⟨g2, h1⟩ := cond_some h1
    have g1 : len ≤ 1099511627776 := Nat.le_of_ble_eq_true g1
    have g2 : cap ≤ 1099511627776 := Nat.le_of_ble_eq_true g2
    obtain ⟨q, z, c, hq, rfl, hlc, hcap, hz, hun⟩ := hv.l
    -- the result, once the bounds are known
    have fin : ∀ (a b m capn : Nat), a ≤ b → b ≤ m → m ≤ c → (capn ≠ 0 → (m - a) + 1 = capn) → (capn = 0 → (m - a = 0 ∨ z + a * i.size + (m - a) * (q.s % 65536) ≤ q.n)) →
        (Instr.sliceBounds true len c xl xh xm).run P w = .ok (a, b, m) w →
        ∃ y, (Instr.sliceAt t (.slice (some ⟨q.r, z, none⟩) len c) xl xh xm).run P w = .ok y w ∧ VR ρ (.l id (off + a * i.size) (b - a) capn) y := by
      intro a b m capn h1 h2 h3 h4 h5 hb
      refine ⟨_, run_sliceAt P w ht hi _ len c xl xh xm a b m hb, ?_⟩
      by_cases hma : m = a
      · rw [if_pos hma]
        unfold VR
        exact ⟨rfl, by omega, h4, q, z, hq, rfl, .inl (by omega), fun _ => .inl (by omega)⟩
      · rw [if_neg hma]
        have e1 : (some (⟨q.r, z, none⟩ : Addr)).map (·.add (a * i.size)) = some ⟨q.r, z + a * i.size, none⟩ := by simp [add_mk]
        rw [e1]
        unfold VR
        refine ⟨rfl, by omega, h4, q, z + a * i.size, hq, rfl, .inr ?_, h5⟩
        rcases hz with hz | hz
        · omega
        · rw [hz]; omega
    cases hc0 : Nat.beq cap 0 with
    | true =>
      rw [hc0, cond_true] at h1
      have hc0 := Nat.eq_of_beq_eq_true hc0
      obtain ⟨es, sz, cs, hlive, h2⟩ := bk_some h1
      obtain ⟨g3, h2⟩ := cond_some h2
      have g3 := Nat.eq_of_beq_eq_true g3
      obtain ⟨q', hq', hes, -⟩ := hh.live _ _ _ _ hlive
      rw [hq] at hq'; injection hq' with hq'; subst hq'
      obtain ⟨a, h3, ha⟩ := optN_spec hl h2
      obtain ⟨b, h4, hb⟩ := optN_spec hhi h3
      obtain ⟨g4, h4⟩ := cond_some h4
      obtain ⟨g5, h4⟩ := cond_some h4
      have g4 : a ≤ b := Nat.le_of_ble_eq_true g4
      have g5 : b ≤ len := Nat.le_of_ble_eq_true g5
      have sb : ∀ (k y : Nat) (cc : BoundsCode), k ≤ y → k ≤ 1099511627776 → (Instr.sliceBound (.int .i64 (IntKind.i64.wrap (k : Int))) y cc).run P w = .ok k w := fun k y cc hk hk2 => by
        have ek : IntKind.i64.wrap (k : Int) = k := by rw [wrap_n k (by omega), if_pos (by omega)]
        rw [ek]
        unfold Instr.sliceBound
        rw [Sem.run_bind, run_asIntOf, Result.andThen_ok]
        show (if 0 ≤ (k : Int) ∧ (k : Int) ≤ (y : Int) then pure (k : Int).toNat else _ : Sem Nat).run P w = _
        rw [if_pos ⟨by omega, by omega⟩]
        have : (k : Int).toNat = k := by omega
        rw [this]; rfl
      cases mx with
      | none =>
        cases xm with
        | some _ => exact hm.elim
        | none =>
          have h4 : some (V.l id (Nat.add off (Nat.mul a i.size)) (Nat.sub b a) 0) = some r := h4
          injection h4 with h4; subst h4
          refine fin a b c 0 g4 (by omega) (Nat.le_refl _) (fun h => absurd rfl h) (fun _ => ?_) ?_
          · rcases hun hc0 with h | h
            · left; omega
            · by_cases hx : c - a = 0
              · exact .inl hx
              · right
                have e2 : a * i.size + (c - a) * (q.s % 65536) = c * (q.s % 65536) := by
                  rw [hes.1, g3, hec, ← Nat.add_mul]; congr 1; omega
                omega
          · unfold Instr.sliceBounds
            rcases hb with ⟨rfl, rfl⟩ | ⟨_, rfl⟩ <;> rcases ha with ⟨rfl, rfl⟩ | ⟨_, rfl⟩
            · simp
            · simp [sb a b _ g4 (by omega)]
            · simp [sb b c _ (by omega) (by omega)]
            · simp [sb b c _ (by omega) (by omega), sb a b _ g4 (by omega)]
      | some mv =>
        cases xm with
        | none => exact hm.elim
        | some xm =>
          obtain ⟨m, em, h5⟩ := asN_some h4
          subst em
          obtain ⟨hm1, rfl⟩ := VR.n hm
          obtain ⟨g6, h5⟩ := cond_some h5
          obtain ⟨g7, h5⟩ := cond_some h5
          have g6 : b ≤ m := Nat.le_of_ble_eq_true g6
          have g7 : m ≤ len := Nat.le_of_ble_eq_true g7
          injection h5 with h5; subst h5
          refine fin a b m (m - a + 1) g4 g6 (by omega) (fun _ => rfl) (fun h => by omega) ?_
          unfold Instr.sliceBounds
          rcases hb with ⟨rfl, rfl⟩ | ⟨_, rfl⟩
          · exact absurd rfl (hmh (by simp))
          · rcases ha with ⟨rfl, rfl⟩ | ⟨_, rfl⟩
            · simp [sb m c _ (by omega) (by omega), sb b m _ g6 (by omega)]
            · simp [sb m c _ (by omega) (by omega), sb b m _ g6 (by omega), sb a b _ g4 (by omega)]
    | false =>
      rw [hc0, cond_false] at h1
      have hc0 : cap ≠ 0 := fun h => by rw [beq_yes h] at hc0; simp at hc0
      have hc1 := hcap hc0
      obtain ⟨a, h3, ha⟩ := optN_spec hl h1
      obtain ⟨b, h4, hb⟩ := optN_spec hhi h3
      obtain ⟨m, h5, hm'⟩ := optN_spec hm h4
      obtain ⟨g4, h5⟩ := cond_some h5
      obtain ⟨g5, h5⟩ := cond_some h5
      obtain ⟨g6, h5⟩ := cond_some h5
      have g4 : a ≤ b := Nat.le_of_ble_eq_true g4
      have g5 : b ≤ m := Nat.le_of_ble_eq_true g5
      have g6 : m ≤ cap - 1 := Nat.le_of_ble_eq_true g6
      injection h5 with h5; subst h5
      have e3 : Nat.pred cap = c := by show cap - 1 = c; omega
      rw [e3] at hm'
      exact fin a b m (m - a + 1) g4 g5 (by omega) (fun _ => rfl) (fun h => by omega)
        (run_bounds P w len c a b m xl xh xm (drp ha) (drp hb) (drp hm') hmh g4 g5 (by omega) (by omega) (fun _ => by omega) (fun _ _ => by omega))

/-- s[:hi]: nothing of memory is looked at. -/
noncomputable def slH (x hi : V) : Option V :=
  asL x none (asN hi none fun b => cond (Nat.beq b 0) (some .l0) none) fun id off len cap => asN hi none fun b => cond (Nat.ble len 1099511627776) (cond (Nat.ble cap 1099511627776)
    (cond (Nat.beq cap 0) (cond (Nat.ble b len) (some (.l id off b 0)) none) (cond (Nat.ble b (Nat.pred cap)) (some (.l id off b cap)) none)) none) none
theorem snd_slH (P : Program) {t e : TypeId} {i : TypeInfo} (ht : P.underlying t = some (.slice e)) (hi : P.info? e = some i) : Snd2 P slH (fun x h => Instr.sliceAt t x none (some h) none) := by
  intro ρ v v' x x' r w hv hv' hf
  have sb : ∀ (k y : Nat) (cc : BoundsCode), k ≤ y → k ≤ 1099511627776 → (Instr.sliceBound (.int .i64 (IntKind.i64.wrap (k : Int))) y cc).run P w = .ok k w := fun k y cc hk hk2 => by
    have ek : IntKind.i64.wrap (k : Int) = k := by rw [wrap_n k (by omega), if_pos (by omega)]
    rw [ek]
    unfold Instr.sliceBound
    rw [Sem.run_bind, run_asIntOf, Result.andThen_ok]
    show (if 0 ≤ (k : Int) ∧ (k : Int) ≤ (y : Int) then pure (k : Int).toNat else _ : Sem Nat).run P w = _
    rw [if_pos ⟨by omega, by omega⟩]
    have : (k : Int).toNat = k := by omega
    rw [this]; rfl
  rcases asL_some hf with ⟨ea, h1⟩ | ⟨id, off, len, cap, ea, h1⟩
  · obtain ⟨b, eb, h2⟩ := asN_some h1
    obtain ⟨g, h2⟩ := cond_some h2
    have g := Nat.eq_of_beq_eq_true g
    injection h2 with h2; subst h2
    subst ea; subst eb; subst g
    have := hv.l0; subst this
    obtain ⟨-, rfl⟩ := hv'.n
    refine ⟨.slice none 0 0, ?_, by unfold VR; exact ⟨rfl, rfl, rfl⟩⟩
    have sb0 : ∀ cc : BoundsCode, (Instr.sliceBound (.int .i64 (IntKind.i64.wrap 0)) 0 cc).run P w = .ok 0 w := fun cc => sb 0 0 cc (Nat.le_refl _) (by omega)
    rw [run_sliceAt P w ht hi none 0 0 none _ none 0 0 0 (by unfold Instr.sliceBounds; simp [sb0])]
    rfl
  · obtain ⟨b, eb, h2⟩ := asN_some h1
    obtain ⟨g1, h2⟩ := cond_some h2
    obtain ⟨g2, h2⟩ := cond_some h2
    have g1 : len ≤ 1099511627776 := Nat.le_of_ble_eq_true g1
    have g2 : cap ≤ 1099511627776 := Nat.le_of_ble_eq_true g2
    subst ea; subst eb
    obtain ⟨q, z, c, hq, rfl, hlc, hcap, hz, hun⟩ := hv.l
    obtain ⟨-, rfl⟩ := hv'.n
    have fin : b ≤ c → b ≤ 1099511627776 → ∃ y, (Instr.sliceAt t (.slice (some ⟨q.r, z, none⟩) len c) none (some (.int .i64 (IntKind.i64.wrap (b : Int)))) none).run P w = .ok y w ∧ VR ρ (.l id off b cap) y := fun hb hb2 => by
      refine ⟨_, run_sliceAt P w ht hi _ len c none _ none 0 b c (by unfold Instr.sliceBounds; simp [sb b c _ hb hb2]), ?_⟩
      have e1 : (if c = 0 then (some (⟨q.r, z, none⟩ : Addr)) else (some (⟨q.r, z, none⟩ : Addr)).map (·.add (0 * i.size))) = some ⟨q.r, z, none⟩ := by
        split <;> simp [add_mk]
      rw [e1]
      unfold VR
      exact ⟨rfl, hb, hcap, q, z, hq, rfl, hz, hun⟩
    cases hc0 : Nat.beq cap 0 with
    | true =>
      rw [hc0, cond_true] at h2
      obtain ⟨g3, h2⟩ := cond_some h2
      have g3 : b ≤ len := Nat.le_of_ble_eq_true g3
      have hc0 := Nat.eq_of_beq_eq_true hc0
      injection h2 with h2; subst h2
      subst hc0
      exact fin (by omega) (by omega)
    | false =>
      rw [hc0, cond_false] at h2
      have hc0 : cap ≠ 0 := fun h => by rw [beq_yes h] at hc0; simp at hc0
      obtain ⟨g3, h2⟩ := cond_some h2
      have g3 : b ≤ cap - 1 := Nat.le_of_ble_eq_true g3
      have := hcap hc0
      injection h2 with h2; subst h2
      exact fin (by omega) (by omega)

end Go.Proofs.YtmbnogellhoheaaGreatDoor.Ev

/- append. -/
namespace Go.Proofs.YtmbnogellhoheaaGreatDoor.Ev
open Go
variable {ρ : Rho}

/-- Cells of a live name, as the model's values. -/
theorem row_of {w : World} {sz : Nat} {cs : TV} {q : Pl} (h : BR ρ w sz cs q) {off n : Nat} (hb : off + n ≤ sz) :
    ∃ vs : List Value, vs.length = n ∧ (∀ j v, vs[j]? = some v → w.cell? ((⟨q.r, q.o + off, none⟩ : Addr).add j) = some v) ∧ ∀ j, j < n → ∃ v, vs[j]? = some v ∧ VR ρ (cs.at (off + j + 1)) v := by
  obtain ⟨C, fz, g1, g0, g2, g3⟩ := h
  have hg : ∀ j, j < n → ∃ x, C[q.o + off + j]? = some x ∧ VR ρ (cs.at (off + j + 1)) x := fun j hj => by
    obtain ⟨x, hx, hv⟩ := g2 (off + j) (by omega)
    rw [show q.o + off + j = q.o + (off + j) by omega]
    exact ⟨x, hx, hv⟩
  refine ⟨(List.range n).map fun j => C.getD (q.o + off + j) undef, by simp, fun j v hv => ?_, fun j hj => ?_⟩
  · have hj : j < n := by
      rcases Nat.lt_or_ge j n with hh | hh
      · exact hh
      · rw [List.getElem?_eq_none (by simpa using hh)] at hv; simp at hv
    obtain ⟨x, hx, -⟩ := hg j hj
    rw [add_mk, cell_of g1, hx]
    simp [hj, Array.getD_eq_getD_getElem?, hx] at hv
    rw [hv]
  · obtain ⟨x, hx, hv⟩ := hg j hj
    exact ⟨x, by simp [hj, Array.getD_eq_getD_getElem?, hx], hv⟩

/-- Old cells from number a + 1 on, so many; behind them new ones, from number b + 1 on of another trie. -/
noncomputable def join (n a : Nat) (cs : TV) (m b : Nat) (ds : TV) : TV :=
  cond (Nat.beq n 0) (cond (Nat.beq b 0) ds (into (ds.take m (Nat.succ b)) .e 1))
    (into (ds.take m (Nat.succ b)) (cond (Nat.beq a 0) cs (into (cs.take n (Nat.succ a)) .e 1)) (Nat.succ n))
theorem into_take {ds : TV} {m b : Nat} {t : TV} {s k : Nat} (hs : 1 ≤ s) (hk : k < m) (hb : s + m ≤ 2 ^ 40) : (into (ds.take m (b + 1)) t s).at (s + k) = ds.at (b + k + 1) := by
  have hl : (ds.take m (b + 1)).length = m := TV.take_length ..
  have := into_at (ds.take m (b + 1)) t s k hs (by rw [hl]; exact hk) (by rw [hl]; exact hb)
  rw [TV.take_get ds m (b + 1) k hk] at this
  injection this with this
  rw [← this]; congr 1; omega
theorem join_at {n a m b : Nat} {cs ds : TV} {k : Nat} (hk : k < n + m) (hbig : n + m + 1 ≤ 2 ^ 40) : (join n a cs m b ds).at (k + 1) = if k < n then cs.at (a + k + 1) else ds.at (b + (k - n) + 1) := by
  unfold join
  by_cases h0 : n = 0
  · subst h0
    rw [beq_yes rfl, cond_true, if_neg (by omega)]
    by_cases hb0 : b = 0
    · subst hb0; rw [beq_yes rfl, cond_true]; congr 1; omega
    · rw [beq_no hb0, cond_false]
      have := into_take (ds := ds) (m := m) (b := b) (t := .e) (s := 1) (k := k) (by omega) (by omega) (by omega)
      rw [show 1 + k = k + 1 by omega] at this
      rw [show b + (k - 0) + 1 = b + k + 1 by omega]
      exact this
  · rw [beq_no h0, cond_false]
    by_cases hkn : k < n
    · rw [if_pos hkn, into_ne _ _ _ _ (by omega) (by omega) (.inl (by show k + 1 < n + 1; omega))]
      by_cases ha0 : a = 0
      · subst ha0; rw [beq_yes rfl, cond_true]; congr 1; omega
      · rw [beq_no ha0, cond_false]
        have := into_take (ds := cs) (m := n) (b := a) (t := .e) (s := 1) (k := k) (by omega) hkn (by omega)
        rw [show 1 + k = k + 1 by omega] at this
        exact this
    · rw [if_neg hkn]
      have := into_take (ds := ds) (m := m) (b := b) (t := cond (Nat.beq a 0) cs (into (cs.take n (Nat.succ a)) .e 1)) (s := n + 1) (k := k - n) (by omega) (by omega) (by omega)
      rw [show n + 1 + (k - n) = k + 1 by omega] at this
      exact this

/-- What becomes of an append: the slice, the next name, the blocks. -/
inductive AR where
  | mk (v : V) (nx : Pos) (bs : TB)
/-- The new elements: none, or so many cells of a live name from a place on. -/
noncomputable def srcL {α : Type} (sz : Nat) (bs : TB) (x : V) (zero : Option α) (k : Nat → Nat → TV → Option α) : Option α :=
  asL x none zero fun i o l _ => cond (Nat.beq l 0) zero (bk bs i fun _ szi cs => cond (Nat.ble (Nat.add o (Nat.mul l sz)) szi) (k l o cs) none)
/-- Behind s so many cells of a trie from number b + 1 on: m elements, not none. -/
noncomputable def appC (ec sz : Nat) (nx : Pos) (bs : TB) (s : V) (m b : Nat) (ds : TV) : Option AR :=
    asL s none
      (cond (Nat.ble m 1048576) (some (.mk (.l nx 0 m 0) nx.inc (bs.set nx (.mk ec (Nat.mul m sz) (join 0 0 .e (Nat.mul m sz) b ds))))) none)
      fun i o l c => cond (Nat.ble (Nat.add l m) 1048576)
        (cond (Nat.beq c 0)
          (bk bs i fun es szi cs => cond (Nat.beq es ec) (cond (Nat.ble (Nat.add o (Nat.mul l sz)) szi) (cond (flatL (ds.take (Nat.mul m sz) (Nat.succ b)))
            (some (.mk (.l nx 0 (Nat.add l m) 0) nx.inc ((bs.set i .none).set nx (.mk ec (Nat.mul (Nat.add l m) sz) (join (Nat.mul l sz) o cs (Nat.mul m sz) b ds))))) none) none) none)
          (cond (Nat.ble (Nat.add l m) (Nat.pred c))
            (bk bs i fun es szi cs => cond (Nat.ble (Nat.add o (Nat.mul (Nat.add l m) sz)) szi) (cond (Nat.ble szi 1099511627775)
              (cond (flatL (ds.take (Nat.mul m sz) (Nat.succ b))) (some (.mk (.l i o (Nat.add l m) c) nx (bs.set i (.mk es szi (into (ds.take (Nat.mul m sz) (Nat.succ b)) cs (Nat.succ (Nat.add o (Nat.mul l sz)))))))) none) none) none)
            (cond (Nat.beq l 0)
              (some (.mk (.l nx 0 m 0) nx.inc (bs.set nx (.mk ec (Nat.mul m sz) (join 0 0 .e (Nat.mul m sz) b ds)))))
              (bk bs i fun _ szi cs => cond (Nat.ble (Nat.add o (Nat.mul l sz)) szi)
                (some (.mk (.l nx 0 (Nat.add l m) 0) nx.inc (bs.set nx (.mk ec (Nat.mul (Nat.add l m) sz) (join (Nat.mul l sz) o cs (Nat.mul m sz) b ds))))) none))))
        none
noncomputable def appL (ec sz : Nat) (nx : Pos) (bs : TB) (s x : V) : Option AR :=
  srcL sz bs x (asL s none (some (.mk s nx bs)) fun _ _ _ _ => some (.mk s nx bs)) (appC ec sz nx bs s)
/-- The bytes of a text. -/
noncomputable def strV (l : Nat) : Nat → List V := Nat.rec (motive := fun _ => Nat → List V) (fun _ => []) (fun _ ih m => .y (Nat.mod m 256) :: ih (Nat.div m 256)) l
noncomputable def appY (ec : Nat) (nx : Pos) (bs : TB) (s x : V) : Option AR :=
  asS x none fun l m => cond (Nat.beq l 0) (asL s none (some (.mk s nx bs)) fun _ _ _ _ => some (.mk s nx bs)) (cond (Nat.ble l 1048576) (appC ec 1 nx bs s l 0 (into (strV l m) .e 1)) none)

/-- A name taken over by the next one, over the same real block (the old one is not live any more). -/
theorem HR0.take {nx : Pos} {bs : TB} {w w' : World} (h : HR0 ρ nx bs w) {i : Pos} {es sz : Nat} {cs : TV} (hl : Live bs i es sz cs) (he0 : es % 65536 ≠ 0) {q : Pl} (hr : ρ i = some q) {off n : Nat} {J : TV} {C' : Array Value} {fz : Nat × Nat}
    (hw : w'.heap[q.r]? = some (.cells C' (q.s / 65536) fz)) (hn : C'.size = q.n) (hother : ∀ b, b ≠ q.r → w'.heap[b]? = w.heap[b]?) (hsz : w'.heap.size = w.heap.size) (hfz : ∀ k, q.o ≤ k → k < q.n → ¬ (fz.1 ≤ k ∧ k < fz.2))
    (hc : ∀ k, k < n → ∃ x, C'[q.o + off + k]? = some x ∧ VR ρ (J.at (k + 1)) x) (hev : Evn w w') (hfr : fzAt w q.r = some fz) :
    HR0 (upd ρ nx ⟨q.r, q.o + off, q.n, q.s, none, none⟩) nx.inc ((bs.set i .none).set nx (.mk es n J)) w' ∧ Ext ρ nx bs w (upd ρ nx ⟨q.r, q.o + off, q.n, q.s, none, none⟩) nx.inc ((bs.set i .none).set nx (.mk es n J)) w' := by
  have hle := upd_le h ⟨q.r, q.o + off, q.n, q.s, none, none⟩
  have hni : i ≠ nx := by
    rintro rfl
    have := (h.fresh i (Nat.le_refl _)).1
    rw [hr] at this; simp at this
  obtain ⟨q', hr', hes, -⟩ := h.live i es sz cs hl
  rw [hr] at hr'; injection hr' with hr'; subst hr'
  refine ⟨⟨?_, ?_, ?_, ?_⟩, ⟨hle, by rw [hsz]; exact Nat.le_refl _, ?_, ?_, by rw [Pos.inc_val]; omega, fun id hid hn => by rw [upd_ne ρ _ (Pos.ne_of_val (by omega))]; exact hn, hev, fun b _ _ => by
    by_cases e : b = q.r
    · subst e; rw [fzAt_cells hw, hfr]
    · exact fzAt_of (hother b e)⟩⟩
  · intro id es' sz' cs' hl'
    rcases live_set hl' with ⟨rfl, rfl, rfl, rfl⟩ | ⟨hne, hl'⟩
    · refine ⟨_, upd_same .., ⟨hes.1, fun h => absurd h he0⟩, C', fz, hw, hn, fun k hk => ?_, fun k h1 h2 => hfz k (by simp at h1; omega) h2⟩
      obtain ⟨x, hx, hv⟩ := hc k hk
      exact ⟨x, hx, VR.mono hle _ _ hv⟩
    · obtain ⟨hne2, hl'⟩ := live_none hl'
      obtain ⟨q', h1, h2, h3⟩ := h.live _ _ _ _ hl'
      refine ⟨q', hle _ _ h1, h2, h3.mono hle (hother _ fun e => hne2 (h.apart _ _ _ _ _ _ _ _ _ _ hl' hl h1 hr e))⟩
  · intro id id' es1 sz1 cs1 es2 sz2 cs2 q1 q2 hl1 hl2 h1 h2 hqq
    rcases live_set hl1 with ⟨e1, -, -⟩ | ⟨hne, hm⟩ <;> rcases live_set hl2 with ⟨e2, -, -⟩ | ⟨hne', hm'⟩
    · rw [e1, e2]
    · obtain ⟨hne2, hm'⟩ := live_none hm'
      subst e1
      rw [upd_same] at h1; rw [upd_ne ρ _ hne'] at h2
      injection h1 with h1; subst h1
      exact absurd (h.apart _ _ _ _ _ _ _ _ _ _ hl hm' hr h2 hqq).symm hne2
    · obtain ⟨hne2, hm⟩ := live_none hm
      subst e2
      rw [upd_same] at h2; rw [upd_ne ρ _ hne] at h1
      injection h2 with h2; subst h2
      exact absurd (h.apart _ _ _ _ _ _ _ _ _ _ hm hl h1 hr hqq) hne2
    · obtain ⟨-, hm⟩ := live_none hm
      obtain ⟨-, hm'⟩ := live_none hm'
      rw [upd_ne ρ _ hne] at h1; rw [upd_ne ρ _ hne'] at h2
      exact h.apart _ _ _ _ _ _ _ _ _ _ hm hm' h1 h2 hqq
  · intro id hid
    rw [Pos.inc_val] at hid
    have hne : id ≠ nx := Pos.ne_of_val (by omega)
    have hne2 : i ≠ id := by
      rintro rfl
      have := (h.fresh i (by omega)).1
      rw [hr] at this; simp at this
    rw [upd_ne ρ _ hne, TB.get_set_ne _ (Ne.symm hne), TB.get_set_ne _ hne2]
    exact h.fresh id (by omega)
  · intro id q1 h1
    rw [hsz]
    by_cases hi : id = nx
    · subst hi; rw [upd_same] at h1; injection h1 with h1; subst h1; show q.r < _; exact h.inside _ _ hr
    · rw [upd_ne ρ _ hi] at h1; exact h.inside _ _ h1
  · intro b hb ho
    exact hother b fun e => ho ⟨i, es, sz, cs, q, hl, hr, e.symm⟩
  · rintro b hb ⟨id, es', sz', cs', q1, hl', h1, hq⟩
    rcases live_set hl' with ⟨rfl, -, -⟩ | ⟨hne, hl'⟩
    · rw [upd_same] at h1; injection h1 with h1; subst h1
      exact ⟨i, es, sz, cs, q, hl, hr, hq⟩
    · obtain ⟨-, hl'⟩ := live_none hl'
      rw [upd_ne ρ _ hne] at h1
      exact ⟨id, es', sz', cs', q1, hl', h1, hq⟩
theorem HR.take {nx : Pos} {bs : TB} {w w' : World} (h : HR ρ nx bs w) {i : Pos} {es sz : Nat} {cs : TV} (hl : Live bs i es sz cs) (he0 : es % 65536 ≠ 0) {q : Pl} (hr : ρ i = some q) {off n : Nat} {J : TV} {C' : Array Value} {fz : Nat × Nat}
    (hw : w'.heap[q.r]? = some (.cells C' (q.s / 65536) fz)) (hn : C'.size = q.n) (hother : ∀ b, b ≠ q.r → w'.heap[b]? = w.heap[b]?) (hsz : w'.heap.size = w.heap.size) (hfz : ∀ k, q.o ≤ k → k < q.n → ¬ (fz.1 ≤ k ∧ k < fz.2))
    (hc : ∀ k, k < n → ∃ x, C'[q.o + off + k]? = some x ∧ VR ρ (J.at (k + 1)) x) (hev : Evn w w') (hfr : fzAt w q.r = some fz) :
    HR (upd ρ nx ⟨q.r, q.o + off, q.n, q.s, none, none⟩) nx.inc ((bs.set i .none).set nx (.mk es n J)) w' ∧ Ext ρ nx bs w (upd ρ nx ⟨q.r, q.o + off, q.n, q.s, none, none⟩) nx.inc ((bs.set i .none).set nx (.mk es n J)) w' := by
  obtain ⟨k1, k2⟩ := h.toHR0.take hl he0 hr hw hn hother hsz hfz hc hev hfr
  exact ⟨h.step k1 k2, k2⟩
/-- What is appended: so many elements, these cells. -/
structure Src (P : Program) (w : World) (t2 : TypeId) (x : Value) (size n : Nat) (news : List Value) : Prop where
  ty : ∃ d2, P.underlying t2 = some d2 ∧ ((∃ e2, d2 = .slice e2) ∨ d2 = .string)
  len : Builtin.lenOf x = pure n
  num : news.length = n * size
  load : (Builtin.firstCells size n x).run P w = .ok news.toArray w
  load' : (Builtin.firstCells size n x).run P w.drew = .ok news.toArray w.drew
/-- An append that fits the capacity: the new cells are stored behind the old ones. -/
theorem run_append_fit (P : Program) (w : World) {t t2 ty e : TypeId} {i : TypeInfo} (ht : P.underlying t = some (.slice e)) (hi : P.info? e = some i)
    {r z sLen sCap : Nat} {x : Value} {n : Nat} {news : List Value} (hx : Src P w t2 x i.size n news) (hfit : sLen + n ≤ sCap)
    {C : Array Value} {E : TypeId} {fz : Nat × Nat} (h1 : w.heap[r]? = some (.cells C E fz)) (h2 : z + (sLen + n) * i.size ≤ C.size) (hf : ∀ k, z ≤ k → k < C.size → ¬ (fz.1 ≤ k ∧ k < fz.2)) (ho : ∀ y ∈ news, y.oneCell' = true) :
    (Builtin.append_ #[t, t2] ty #[.slice (some ⟨r, z, none⟩) sLen sCap, x]).run P w = .ok (.slice (some ⟨r, z, none⟩) (sLen + n) sCap) (w.setCells r (z + sLen * i.size) news) := by
  obtain ⟨⟨d2, ht2, hd2⟩, hlen, hl, hld, -⟩ := hx
  have hm : (sLen + n) * i.size = sLen * i.size + n * i.size := Nat.add_mul ..
  have hs := run_storeCells_cells (P := P) r (z + sLen * i.size) news 0 w (fun j hj => by rw [Nat.add_zero, cell_of h1]; simp; omega)
    (fun j hj => by rw [Nat.add_zero]; exact frozen_of h1 _ (hf _ (by omega) (by omega))) ho
  unfold Builtin.append_
  rcases hd2 with ⟨e2, rfl⟩ | rfl
  · simp [run_underlying P w ht, run_underlying P w ht2, run_sizeOf P w hi, hlen, hfit, hld, add_mk, hs]
  · simp [run_underlying P w ht, run_underlying P w ht2, run_sizeOf P w hi, hlen, hfit, hld, add_mk, hs]
/-- An append of nothing. -/
theorem run_append_none (P : Program) (w : World) {t t2 ty e : TypeId} {i : TypeInfo} (ht : P.underlying t = some (.slice e)) (hi : P.info? e = some i)
    {x : Value} (hx : Src P w t2 x i.size 0 []) (b : Option Addr) (sLen sCap : Nat) (h : sLen ≤ sCap) :
    (Builtin.append_ #[t, t2] ty #[.slice b sLen sCap, x]).run P w = .ok (.slice b sLen sCap) w := by
  obtain ⟨⟨d2, ht2, hd2⟩, hlen, hl, hld, -⟩ := hx
  unfold Builtin.append_
  rcases hd2 with ⟨e2, rfl⟩ | rfl <;> cases b <;> simp [run_underlying P w ht, run_underlying P w ht2, run_sizeOf P w hi, hlen, h, hld, storeCells]
/-- An append that does not fit: a new row. -/
theorem run_append_new (P : Program) (w : World) {t t2 ty e : TypeId} {i : TypeInfo} {z : Value} (ht : P.underlying t = some (.slice e)) (hi : P.info? e = some i) (hz : i.zero = some z)
    (b : Option Addr) (sLen sCap : Nat) (olds : List Value) (hlo : olds.length = sLen * i.size) (holds : ∀ x, b = some x → ∀ j v, olds[j]? = some v → w.cell? (x.add j) = some v) (hb0 : b = none → olds = [])
    {x : Value} {n : Nat} {news : List Value} (hx : Src P w t2 x i.size n news)
    (hg : sCap < sLen + n) (hbig : sLen + n ≤ 1048576) (hbytes : i.bytes ≤ 65536) :
    (Builtin.append_ #[t, t2] ty #[.slice b sLen sCap, x]).run P w =
      .ok (.slice (some ⟨w.heap.size, 0, none⟩) (sLen + n) (grownCap w (sLen + n) sCap e))
        (w.drew.alloc (.cells (olds.toArray ++ news.toArray ++ Builtin.zeroCells z.cells (grownCap w (sLen + n) sCap e - (sLen + n))) e)) := by
  obtain ⟨⟨d2, ht2, hd2⟩, hlen, hl, -, hf⟩ := hx
  have hn : ¬ (sLen + n ≤ sCap) := by omega
  have h63' : ¬ (9223372036854775807 < ((sLen : Int) + (n : Int))) := by omega
  have hfit := growslice_fits (bytes := i.bytes) hg (Nat.le_trans (Nat.mul_le_mul hbig hbytes) (by decide))
  have h48' : ¬ (281474976710656 < Builtin.nextslicecap (sLen + n) sCap * i.bytes) := by omega
  cases b with
  | none =>
    have e0 := hb0 rfl
    subst e0
    have hf0 : (Builtin.firstCells i.size sLen (.slice none sLen sCap)).run P w.drew = .ok #[] w.drew := rfl
    rcases hd2 with ⟨e2, rfl⟩ | rfl
    · simp [Builtin.append_, run_underlying P w ht, run_underlying P w ht2, sizeOf, typeInfo, zeroValue, hi, hz, hlen, hn, h63', h48', Question.forced, hf0, hf, newRow, grownCap]
    · simp [Builtin.append_, run_underlying P w ht, run_underlying P w ht2, sizeOf, typeInfo, zeroValue, hi, hz, hlen, hn, h63', h48', Question.forced, hf0, hf, newRow, grownCap]
  | some x' =>
    have hfo : (Builtin.firstCells i.size sLen (.slice (some x') sLen sCap)).run P w.drew = .ok olds.toArray w.drew := by
      show (loadCells x' (sLen * i.size)).run P w.drew = _
      rw [← hlo]; exact run_loadCells_list (P := P) w.drew x' olds (by simpa using holds x' rfl)
    rcases hd2 with ⟨e2, rfl⟩ | rfl
    · simp [Builtin.append_, run_underlying P w ht, run_underlying P w ht2, sizeOf, typeInfo, zeroValue, hi, hz, hlen, hn, h63', h48', Question.forced, hf, hfo, newRow, grownCap]
      congr 2
      apply Array.ext'
      simp [List.append_assoc]
    · simp [Builtin.append_, run_underlying P w ht, run_underlying P w ht2, sizeOf, typeInfo, zeroValue, hi, hz, hlen, hn, h63', h48', Question.forced, hf, hfo, newRow, grownCap]
      congr 2
      apply Array.ext'
      simp [List.append_assoc]

/-- What an append's types are to be. -/
structure AppOk (P : Program) (t e : TypeId) (i : TypeInfo) (z : Value) : Prop where
  ht : P.underlying t = some (.slice e)
  hi : P.info? e = some i
  hz : i.zero = some z
  hs : z.cells.size = i.size
  h0 : i.size ≠ 0
  hb : i.bytes ≤ 65536
  h1 : i.size < 65536
/-- A name let go. -/
theorem HR0.drop {nx : Pos} {bs : TB} {w : World} (h : HR0 ρ nx bs w) (i : Pos) : HR0 ρ nx (bs.set i .none) w := by
  refine ⟨fun id es sz cs hl => h.live id es sz cs (live_none hl).2, fun id id' _ _ _ _ _ _ _ _ h1 h2 => h.apart _ _ _ _ _ _ _ _ _ _ (live_none h1).2 (live_none h2).2, fun id hid => ⟨(h.fresh id hid).1, ?_⟩, h.inside⟩
  by_cases e : i = id
  · subst e; rw [TB.get_set_same]
  · rw [TB.get_set_ne _ e]; exact (h.fresh id hid).2
theorem HR.drop {nx : Pos} {bs : TB} {w : World} (h : HR ρ nx bs w) (i : Pos) : HR ρ nx (bs.set i .none) w :=
  ⟨h.toHR0.drop i, h.base, fun id q o h1 h2 h3 => ⟨(h.fix id q o h1 h2 h3).1, fun ⟨id', es, sz, cs, q', k1, k2⟩ => (h.fix id q o h1 h2 h3).2 ⟨id', es, sz, cs, q', (live_none k1).2, k2⟩⟩⟩
theorem Ext.drop {ρ' : Rho} {nx nx' : Pos} {bs bs' : TB} {w w' : World} {i : Pos} (h : Ext ρ nx (bs.set i .none) w ρ' nx' bs' w') : Ext ρ nx bs w ρ' nx' bs' w' := by
  have ho : ∀ b, Own ρ (bs.set i .none) b → Own ρ bs b := fun b ⟨id, es, sz, cs, q, h1, h2⟩ => ⟨id, es, sz, cs, q, (live_none h1).2, h2⟩
  exact ⟨h.le, h.size, fun b hb hn => h.keep b hb fun hh => hn (ho b hh), fun b hb hh => ho b (h.own b hb hh), h.nle, h.old, h.env, h.frz⟩
/-- A new row of the old cells and the new ones. -/
theorem app_new (P : Program) {t t2 ty e : TypeId} {i : TypeInfo} {z : Value} (ok : AppOk P t e i z) {nx : Pos} {bs : TB} {w : World} (hh : HR ρ nx bs w)
    {b : Option Addr} {l sCap m : Nat} {x' : Value} {olds news : List Value} {J : TV} (hlo : olds.length = l * i.size) (holds : ∀ x, b = some x → ∀ j v, olds[j]? = some v → w.cell? (x.add j) = some v) (hb0 : b = none → olds = [])
    (hx : Src P w t2 x' i.size m news) (hg : sCap < l + m) (hbig : l + m ≤ 1048576)
    (hc : ∀ k, k < (l + m) * i.size → ∃ x, (olds ++ news)[k]? = some x ∧ VR ρ (J.at (k + 1)) x) :
    ∃ y w' ρ', (Builtin.append_ #[t, t2] ty #[.slice b l sCap, x']).run P w = .ok y w' ∧ VR ρ' (.l nx 0 (l + m) 0) y ∧
      HR ρ' nx.inc (bs.set nx (.mk (e * 65536 + i.size) ((l + m) * i.size) J)) w' ∧ Ext ρ nx bs w ρ' nx.inc (bs.set nx (.mk (e * 65536 + i.size) ((l + m) * i.size) J)) w' := by
  have hl := hx.num
  have hm : (l + m) * i.size = l * i.size + m * i.size := Nat.add_mul ..
  have hge := grownCap_ge w (l + m) sCap e
  have hsize : (olds.toArray ++ news.toArray ++ Builtin.zeroCells z.cells (grownCap w (l + m) sCap e - (l + m))).size = grownCap w (l + m) sCap e * i.size := by
    simp only [Array.size_append, List.size_toArray, size_zeroCells, hlo, hl, ok.hs]
    rw [← Nat.add_mul, ← Nat.add_mul]; congr 1; omega
  obtain ⟨k1, k2⟩ := hh.new (C := olds.toArray ++ news.toArray ++ Builtin.zeroCells z.cells (grownCap w (l + m) sCap e - (l + m))) (E := e) (fz := (0, 0)) (es := e * 65536 + i.size) (sz := (l + m) * i.size) (tv := J) (ty_div ok.h1)
    (fun k hk => by
      obtain ⟨x, hx, hv⟩ := hc k hk
      refine ⟨x, ?_, hv⟩
      rw [Array.getElem?_append_left (by simp [hlo, hl]; omega)]
      simpa using hx) (fun k _ => by simp)
  refine ⟨_, _, _, run_append_new P w ok.ht ok.hi ok.hz b l sCap olds hlo holds hb0 hx hg hbig ok.hb, ?_, k1.congr rfl, k2.congr rfl⟩
  unfold VR
  exact ⟨rfl, hge, fun h => absurd rfl h, _, 0, upd_same .., rfl, .inr rfl, fun _ => .inr (by rw [hsize]; show 0 + _ * ((e * 65536 + i.size) % 65536) ≤ _; rw [ty_mod ok.h1, Nat.zero_add]; exact Nat.le_refl _)⟩
/-- What is appended is said by a trie's cells from number b + 1 on. -/
theorem snd_appC (P : Program) {t t2 ty e : TypeId} {i : TypeInfo} {z : Value} (ok : AppOk P t e i z) {nx nx' : Pos} {bs bs' : TB} {w : World} (hh : HR ρ nx bs w) {v r : V} {x x' : Value} (hv : VR ρ v x)
    {m b : Nat} {ds : TV} {news : List Value} (hx : Src P w t2 x' i.size m news) (hm0 : m ≠ 0) (hnv : ∀ j, j < m * i.size → ∃ v, news[j]? = some v ∧ VR ρ (ds.at (b + j + 1)) v)
    (hf : appC (e * 65536 + i.size) i.size nx bs v m b ds = some (.mk r nx' bs')) :
    ∃ y w' ρ', (Builtin.append_ #[t, t2] ty #[x, x']).run P w = .ok y w' ∧ VR ρ' r y ∧ HR ρ' nx' bs' w' ∧ Ext ρ nx bs w ρ' nx' bs' w' := by
  have hln := hx.num
  unfold appC at hf
  have bnd : ∀ l, l + m ≤ 1048576 → l * i.size + m * i.size + 1 ≤ 2 ^ 40 := fun l h => by
    have := Nat.mul_le_mul h (Nat.le_of_lt ok.h1)
    rw [Nat.add_mul] at this; omega
  -- cells of a new row
  have hcells : ∀ (l a : Nat) (cs : TV) (olds : List Value), olds.length = l * i.size → l + m ≤ 1048576 → (∀ j, j < l * i.size → ∃ v, olds[j]? = some v ∧ VR ρ (cs.at (a + j + 1)) v) →
      ∀ k, k < (l + m) * i.size → ∃ x, (olds ++ news)[k]? = some x ∧ VR ρ ((join (l * i.size) a cs (m * i.size) b ds).at (k + 1)) x := by
    intro l a cs olds h1 h2 h3 k hk
    rw [Nat.add_mul] at hk
    rw [join_at hk (bnd l h2)]
    by_cases hkl : k < l * i.size
    · obtain ⟨v, hv, hvv⟩ := h3 k hkl
      rw [if_pos hkl, List.getElem?_append_left (by omega)]
      exact ⟨v, hv, hvv⟩
    · obtain ⟨v, hv, hvv⟩ := hnv (k - l * i.size) (by omega)
      rw [if_neg hkl, List.getElem?_append_right (by omega), h1]
      exact ⟨v, hv, hvv⟩
  rcases asL_some hf with ⟨ev, h1⟩ | ⟨id, o, l, c, ev, h5⟩
  · obtain ⟨g1, h1⟩ := cond_some h1
    have g1 : m ≤ 1048576 := Nat.le_of_ble_eq_true g1
    injection h1 with h1; injection h1 with e1 e2 e3; subst e1; subst e2; subst e3
    subst ev
    have := hv.l0; subst this
    have := app_new P ok (ty := ty) hh (b := none) (l := 0) (sCap := 0) (olds := []) (J := join 0 0 .e (m * i.size) b ds) (by simp) (by simp) (by simp) hx (by omega) (by omega)
      (by have := hcells 0 0 .e [] (by simp) (by omega) (by simp); simpa using this)
    simpa using this
  subst ev
  clear hf
  obtain ⟨g1, h1⟩ := cond_some h5
  clear h5
  have g1 : l + m ≤ 1048576 := Nat.le_of_ble_eq_true g1
  obtain ⟨q, z', cap, hq, rfl, hlc, hcap, hz', hun⟩ := hv.l
  have hmul : (l + m) * i.size = l * i.size + m * i.size := Nat.add_mul ..
  have hpos : m * i.size ≠ 0 := Nat.mul_ne_zero hm0 ok.h0
  have hnewsV : ∀ j v, news[j]? = some v → VR ρ (ds.at (b + j + 1)) v := fun j v hj => by
    have hjl : j < m * i.size := by
      rcases Nat.lt_or_ge j (m * i.size) with hh | hh
      · exact hh
      · rw [List.getElem?_eq_none (by omega)] at hj; simp at hj
    obtain ⟨y, hy, hyv⟩ := hnv j hjl
    rw [hj] at hy; injection hy with hy; subst hy; exact hyv
  have hns : VRs ρ (ds.take (m * i.size) (b + 1)) news := VRs.mk (by rw [TV.take_length, hln]) fun k cv y hc hy => by
    have hk : k < m * i.size := by
      rcases Nat.lt_or_ge k (m * i.size) with hh | hh
      · exact hh
      · rw [List.getElem?_eq_none (by rw [TV.take_length]; exact hh)] at hc; simp at hc
    rw [TV.take_get ds _ _ k hk] at hc
    injection hc with hc; subst hc
    have := hnewsV k y hy
    rw [show b + 1 + k = b + k + 1 by omega]; exact this
  cases hc0 : Nat.beq c 0 with
  | true =>
    rw [hc0, cond_true] at h1
    have hc0 := Nat.eq_of_beq_eq_true hc0
    obtain ⟨es, sz, cs, hl, h1⟩ := bk_some h1
    obtain ⟨g2, h1⟩ := cond_some h1
    obtain ⟨g3, h1⟩ := cond_some h1
    obtain ⟨g4, h1⟩ := cond_some h1
    have g2 := Nat.eq_of_beq_eq_true g2
    have g3 : o + l * i.size ≤ sz := Nat.le_of_ble_eq_true g3
    injection h1 with h1; injection h1 with e1 e2 e3; subst e1; subst e2; subst e3
    obtain ⟨q', hq', hes, hbr⟩ := hh.live _ _ _ _ hl
    rw [hq] at hq'; injection hq' with hq'; subst hq'
    obtain ⟨olds, hlo, holds, hov⟩ := row_of hbr g3
    by_cases hfit : l + m ≤ cap
    · have hz' : z' = q.o + o := hz'.resolve_left (by omega)
      have em : (e * 65536 + i.size) % 65536 = i.size := ty_mod ok.h1
      have hun : z' + cap * (q.s % 65536) ≤ q.n := (hun hc0).resolve_left (by omega)
      obtain ⟨C, fz, f1, f0, f2, f3⟩ := hbr
      have hcap2 : (l + m) * i.size ≤ cap * (q.s % 65536) := by rw [hes.1, g2, em]; exact Nat.mul_le_mul_right _ hfit
      have hrun := run_append_fit P w (ty := ty) ok.ht ok.hi hx hfit f1 (z := z') (by omega) (fun k h1 h2 => f3 k (by omega) (by omega)) (flatL_one g4 hns)
      obtain ⟨C', k1, k2, k3⟩ := setCells_same q.r news (z' + l * i.size) w C _ fz f1
      obtain ⟨p1, p2⟩ := hh.take hl (by rw [g2, em]; exact ok.h0) hq (off := o) (n := (l + m) * i.size) (J := join (l * i.size) o cs (m * i.size) b ds) k1 (by omega) (fun b hb => setCells_other q.r news _ w b hb) (setCells_size ..) (fun k h1 h2 => f3 k h1 h2)
        (fun k hk => by
          obtain ⟨x, hx, hxv⟩ := hcells l o cs olds hlo g1 hov k hk
          refine ⟨x, ?_, hxv⟩
          rw [k3]
          by_cases hkl : k < l * i.size
          · rw [if_neg (by omega)]
            rw [List.getElem?_append_left (by omega)] at hx
            have := holds k x hx
            rw [add_mk, cell_of f1] at this
            exact this
          · rw [if_pos (by omega)]
            rw [List.getElem?_append_right (by omega), hlo] at hx
            rw [show q.o + o + k - (z' + l * i.size) = k - l * i.size by omega]
            exact hx) (setCells_env ..) (fzAt_cells f1)
      rw [g2] at p1 p2
      refine ⟨_, _, _, hrun, ?_, p1, p2⟩
      unfold VR
      exact ⟨rfl, hfit, fun h => absurd rfl h, _, z', upd_same .., rfl, .inr (by simp [hz']), fun _ => .inr hun⟩
    · have hh' := hh.drop id
      obtain ⟨y, w', ρ', r1, r2, r3, r4⟩ := app_new P ok (ty := ty) hh' (b := some ⟨q.r, z', none⟩) (l := l) (sCap := cap) (olds := olds) (J := join (l * i.size) o cs (m * i.size) b ds) hlo
        (fun x hx j v hj => by
          injection hx with hx; subst hx
          rcases hz' with h | h
          · have : l = 0 := by omega
            subst this
            simp at hlo; subst hlo; simp at hj
          · rw [h]; exact holds j v hj) (by simp) hx (by omega) g1 (hcells l o cs olds hlo g1 hov)
      exact ⟨y, w', ρ', r1, r2, r3, r4.drop⟩
  | false =>
    rw [hc0, cond_false] at h1
    have hc0 : c ≠ 0 := fun h => by rw [beq_yes h] at hc0; simp at hc0
    have hcc := hcap hc0
    cases hfb : Nat.ble (Nat.add l m) (Nat.pred c) with
    | true =>
      rw [hfb, cond_true] at h1
      have hfit : l + m ≤ cap := by
        have : l + m ≤ c - 1 := Nat.le_of_ble_eq_true hfb
        omega
      obtain ⟨es, sz, cs, hl, h1⟩ := bk_some h1
      obtain ⟨g2, h1⟩ := cond_some h1
      obtain ⟨g3, h1⟩ := cond_some h1
      obtain ⟨g4, h1⟩ := cond_some h1
      have g2 : o + (l + m) * i.size ≤ sz := Nat.le_of_ble_eq_true g2
      have g3 : sz ≤ 1099511627775 := Nat.le_of_ble_eq_true g3
      injection h1 with h1; injection h1 with e1 e2 e3; subst e1; subst e2; subst e3
      obtain ⟨q', hq', hes, hbr⟩ := hh.live _ _ _ _ hl
      rw [hq] at hq'; injection hq' with hq'; subst hq'
      have hz' : z' = q.o + o := hz'.resolve_left (by omega)
      have hsz := hbr.size_le (by omega)
      obtain ⟨C, fz, f1, f0, f2, f3⟩ := hbr
      have hrun := run_append_fit P w (ty := ty) ok.ht ok.hi hx hfit f1 (z := z') (by omega) (fun k h1 h2 => f3 k (by omega) (by omega)) (flatL_one g4 hns)
      obtain ⟨p1, p2⟩ := hh.put hl hq (off := o + l * i.size) hns (by rw [TV.take_length]; omega) g3
      rw [show q.o + (o + l * i.size) = z' + l * i.size by omega] at p1 p2
      refine ⟨_, _, ρ, hrun, ?_, p1, p2⟩
      unfold VR
      exact ⟨rfl, hfit, hcap, q, z', hq, rfl, .inr hz', fun h => absurd h hc0⟩
    | false =>
      rw [hfb, cond_false] at h1
      have hnf : cap < l + m := by
        rw [ble_eq] at hfb
        have : ¬ (l + m ≤ c - 1) := of_decide_eq_false hfb
        omega
      cases hl0 : Nat.beq l 0 with
      | true =>
        rw [hl0, cond_true] at h1
        injection h1 with h1; injection h1 with e1 e2 e3; subst e1; subst e2; subst e3
        have := Nat.eq_of_beq_eq_true hl0; subst this
        have := app_new P ok (ty := ty) hh (b := some ⟨q.r, z', none⟩) (l := 0) (sCap := cap) (olds := []) (J := join 0 0 .e (m * i.size) b ds) (by simp) (by simp) (by simp) hx (by omega) (by omega)
          (by have := hcells 0 0 .e [] (by simp) (by omega) (by simp); simpa using this)
        simpa using this
      | false =>
        rw [hl0, cond_false] at h1
        have hl0 : l ≠ 0 := fun h => by rw [beq_yes h] at hl0; simp at hl0
        obtain ⟨es, sz, cs, hl, h1⟩ := bk_some h1
        obtain ⟨g2, h1⟩ := cond_some h1
        have g2 : o + l * i.size ≤ sz := Nat.le_of_ble_eq_true g2
        injection h1 with h1; injection h1 with e1 e2 e3; subst e1; subst e2; subst e3
        obtain ⟨q', hq', hes, hbr⟩ := hh.live _ _ _ _ hl
        rw [hq] at hq'; injection hq' with hq'; subst hq'
        obtain ⟨olds, hlo, holds, hov⟩ := row_of hbr g2
        have hz' : z' = q.o + o := hz'.resolve_left (by omega)
        exact app_new P ok (ty := ty) hh (b := some ⟨q.r, z', none⟩) (l := l) (sCap := cap) (olds := olds) (J := join (l * i.size) o cs (m * i.size) b ds) hlo
          (fun x hx j v hj => by
            injection hx with hx; subst hx
            rw [hz']; exact holds j v hj) (by simp) hx hnf g1 (hcells l o cs olds hlo g1 hov)
theorem snd_app0 (P : Program) {t t2 ty e : TypeId} {i : TypeInfo} {z : Value} (ok : AppOk P t e i z) {nx nx' : Pos} {bs bs' : TB} {w : World} (hh : HR ρ nx bs w) {v r : V} {x x' : Value} (hv : VR ρ v x) (hx : Src P w t2 x' i.size 0 [])
    (h : asL v none (some (AR.mk v nx bs)) (fun _ _ _ _ => some (AR.mk v nx bs)) = some (AR.mk r nx' bs')) :
    ∃ y w' ρ', (Builtin.append_ #[t, t2] ty #[x, x']).run P w = .ok y w' ∧ VR ρ' r y ∧ HR ρ' nx' bs' w' ∧ Ext ρ nx bs w ρ' nx' bs' w' := by
  rcases asL_some h with ⟨ev, h1⟩ | ⟨_, _, _, _, ev, h1⟩
  · injection h1 with h1; injection h1 with e1 e2 e3; subst e1; subst e2; subst e3
    subst ev
    have := hv.l0; subst this
    exact ⟨_, w, ρ, run_append_none P w ok.ht ok.hi hx none 0 0 (Nat.le_refl _), hv, hh, Ext.refl ..⟩
  · injection h1 with h1; injection h1 with e1 e2 e3; subst e1; subst e2; subst e3
    subst ev
    obtain ⟨q, z', c', hq, rfl, hlc, -⟩ := hv.l
    exact ⟨_, w, ρ, run_append_none P w ok.ht ok.hi hx _ _ _ hlc, hv, hh, Ext.refl ..⟩
theorem snd_appL (P : Program) {t t2 ty e e2 : TypeId} {i : TypeInfo} {z : Value} (ok : AppOk P t e i z) (ht2 : P.underlying t2 = some (.slice e2)) {nx nx' : Pos} {bs bs' : TB} {w : World} (hh : HR ρ nx bs w) {v v' r : V} {x x' : Value} (hv : VR ρ v x) (hv' : VR ρ v' x')
    (hf : appL (e * 65536 + i.size) i.size nx bs v v' = some (.mk r nx' bs')) :
    ∃ y w' ρ', (Builtin.append_ #[t, t2] ty #[x, x']).run P w = .ok y w' ∧ VR ρ' r y ∧ HR ρ' nx' bs' w' ∧ Ext ρ nx bs w ρ' nx' bs' w' := by
  have src0 : ∀ (a : Option Addr) (c : Nat), Src P w t2 (.slice a 0 c) i.size 0 [] := fun a c => by
    have hld : ∀ (u : World) (x : Addr), (loadCells x (0 * i.size)).run P u = .ok #[] u := fun u x => by simpa using run_loadCells_list (P := P) u x [] (by simp)
    refine ⟨⟨_, ht2, .inl ⟨_, rfl⟩⟩, rfl, by simp, ?_, ?_⟩ <;> cases a <;> first | rfl | exact hld _ _
  unfold appL srcL at hf
  rcases asL_some hf with ⟨ev', h1⟩ | ⟨id2, b, m, cc2, ev', h1⟩
  · subst ev'
    have := hv'.l0; subst this
    exact snd_app0 P ok hh hv (src0 _ _) h1
  subst ev'
  obtain ⟨q2, z2, c2, hq2, ex', hmc2, -, hz2, -⟩ := hv'.l
  cases hm0 : Nat.beq m 0 with
  | true =>
    rw [hm0, cond_true] at h1
    have := Nat.eq_of_beq_eq_true hm0; subst this
    subst ex'
    exact snd_app0 P ok hh hv (src0 _ _) h1
  | false =>
  rw [hm0, cond_false] at h1
  have hm0 : m ≠ 0 := fun h => by rw [beq_yes h] at hm0; simp at hm0
  have hz2 : z2 = q2.o + b := hz2.resolve_left (by omega)
  obtain ⟨es2, sz2, ds, hl2, h1⟩ := bk_some h1
  obtain ⟨hb2, h1⟩ := cond_some h1
  have hb2 : b + m * i.size ≤ sz2 := Nat.le_of_ble_eq_true hb2
  obtain ⟨q2', hq2', -, hbr2⟩ := hh.live _ _ _ _ hl2
  rw [hq2] at hq2'; injection hq2' with hq2'; subst hq2'
  obtain ⟨news, hln, hnews, hnv⟩ := row_of hbr2 hb2
  rw [← hz2] at hnews
  subst ex'
  have hsrc : Src P w t2 (.slice (some ⟨q2.r, z2, none⟩) m c2) i.size m news := by
    refine ⟨⟨_, ht2, .inl ⟨_, rfl⟩⟩, rfl, hln, ?_, ?_⟩
    · show (loadCells _ (m * i.size)).run P w = _
      rw [← hln]; exact run_loadCells_list (P := P) w _ news hnews
    · show (loadCells _ (m * i.size)).run P w.drew = _
      rw [← hln]; exact run_loadCells_list (P := P) w.drew _ news (by simpa using hnews)
  exact snd_appC P ok hh hv hsrc hm0 hnv h1

end Go.Proofs.YtmbnogellhoheaaGreatDoor.Ev
