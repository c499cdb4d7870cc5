/- Stores, new variables, boxes, slices made. -/
import Derived.Test.YtnhgchnhfdimiaaGreatDoorEvI
import Derived.Laws.MakeOwn
namespace Go.Proofs.YtnhgchnhfdimiaaGreatDoor.Ev
open Go
variable {ρ : Rho}

/-! ### what may lie in a cell -/
noncomputable def flat (v : V) : Bool :=
  V.casesOn (motive_1 := fun _ => Bool) v false (fun _ => true) (fun _ => true) (fun _ _ => true) (fun _ => true) (fun _ _ => true) true (fun _ _ => true) true (fun _ _ _ _ => true) true (fun _ _ => true) (fun _ => false) (fun _ => false) true (fun _ _ => true)
noncomputable def flatL (L : List V) : Bool := List.rec (motive := fun _ => Bool) true (fun c _ ih => cond (flat c) ih false) L
theorem flat_one {v : V} {x : Value} (h : flat v = true) (hv : VR ρ v x) : x.oneCell' = true := by
  by_cases ha : ∃ k i, v = .a k i
  · obtain ⟨k, i, rfl⟩ := ha
    obtain ⟨q, -, hq⟩ := hv.a
    unfold AtR at hq
    split at hq <;> first | rfl | exact hq.elim
  · cases v <;> simp [flat] at h <;> try (exact absurd ⟨_, _, rfl⟩ ha)
    all_goals (cases x <;> simp [VR] at hv <;> rfl)
theorem flatL_one : ∀ {cs : List V} {xs : List Value}, flatL cs = true → VRs ρ cs xs → ∀ x ∈ xs, x.oneCell' = true
  | [], [], _, _, x, hx => by simp at hx
  | [], _ :: _, _, h, _, _ => by simp [VRs] at h
  | _ :: _, [], _, h, _, _ => by simp [VRs] at h
  | c :: cs, x :: xs, h, hv, y, hy => by
    have h : cond (flat c) (flatL cs) false = true := h
    simp only [VRs] at hv
    cases hc : flat c with
    | false => rw [hc] at h; simp at h
    | true =>
      rw [hc, cond_true] at h
      rcases List.mem_cons.1 hy with rfl | hy
      · exact flat_one hc hv.1
      · exact flatL_one h hv.2 y hy
theorem flatL_cells_notU {v : V} (h : flatL (cellsV v) = true) : v ≠ .u := by
  rintro rfl; simp [flatL, cellsV, flat] at h

/-! ### stores -/
noncomputable def stC (n : Nat) (bs : TB) (x v : V) : Option TB := asP x none fun id off => bk bs id fun es sz cs =>
  cond (Nat.ble (Nat.add off n) sz) (cond (Nat.ble sz 1099511627775) (cond (flatL (cellsV v)) (cond (Nat.beq (lenV (cellsV v)) n) (some (bs.set id (.mk es sz (into (cellsV v) cs (Nat.succ off))))) none) none) none) none
theorem run_storeAt (P : Program) {w : World} {t : TypeId} {i : TypeInfo} (hi : P.info? t = some i) {C : Array Value} {E : TypeId} {fz : Nat × Nat} {r o : Nat} {x : Value} (h1 : w.heap[r]? = some (.cells C E fz))
    (h2 : o + i.size ≤ C.size) (hf : ∀ k, o ≤ k → k < C.size → ¬ (fz.1 ≤ k ∧ k < fz.2)) (hs : x.cells.size = i.size) (ho : ∀ y ∈ x.cells.toList, y.oneCell' = true) :
    (Instr.storeAt t (.pointer (some ⟨r, o, none⟩)) x).run P w = .ok () (w.setCells r o x.cells.toList) := by
  unfold Instr.storeAt
  show ((do storeVar t (← (pure ⟨r, o, none⟩ : Sem Addr)) x) : Sem Unit).run P w = _
  rw [Sem.run_bind, Sem.run_pure, Result.andThen_ok]
  unfold storeVar
  have hl : x.cells.toList.length = i.size := by rw [← hs]; simp
  have := run_storeCells_cells (P := P) r o x.cells.toList 0 w (fun j hj => by rw [Nat.add_zero, cell_of h1]; simp; omega)
    (fun j hj => by rw [Nat.add_zero]; exact frozen_of h1 _ (hf _ (by omega) (by omega))) ho
  simp [run_sizeOf P w hi, hs, this]
theorem BR.size_le {w : World} {sz : Nat} {cs : TV} {q : Pl} (h : BR ρ w sz cs q) (hs : 0 < sz) : q.o + sz ≤ q.n := by
  obtain ⟨C, fz, g1, g0, g2, g3⟩ := h
  obtain ⟨x, hx, -⟩ := g2 (sz - 1) (by omega)
  rcases Nat.lt_or_ge (q.o + (sz - 1)) C.size with hh | hh
  · omega
  · rw [Array.getElem?_eq_none hh] at hx; simp at hx
theorem snd_stC (P : Program) {t : TypeId} {i : TypeInfo} (hi : P.info? t = some i) (hi0 : i.size ≠ 0) {nx : Pos} {bs bs' : TB} {w : World} (hh : HR ρ nx bs w) {v v' : V} {x x' : Value} (hv : VR ρ v x) (hv' : VR ρ v' x') (hf : stC i.size bs v v' = some bs') :
    ∃ w', (Instr.storeAt t x x').run P w = .ok () w' ∧ HR ρ nx bs' w' ∧ Ext ρ nx bs w ρ nx bs' w' := by
  obtain ⟨id, off, ea, h1⟩ := asP_some hf
  subst ea
  obtain ⟨es, sz, cs, hl, h2⟩ := bk_some h1
  obtain ⟨c1, h2⟩ := cond_some h2
  obtain ⟨c2, h2⟩ := cond_some h2
  obtain ⟨c3, h2⟩ := cond_some h2
  obtain ⟨c4, h2⟩ := cond_some h2
  have c1 : off + i.size ≤ sz := Nat.le_of_ble_eq_true c1
  have c2 : sz ≤ 1099511627775 := Nat.le_of_ble_eq_true c2
  have c4 := Nat.eq_of_beq_eq_true c4
  rw [lenV_eq] at c4
  injection h2 with h2; subst h2
  obtain ⟨q, e, rfl⟩ := hv.p
  have hcells := VR.cells (flatL_cells_notU c3) hv'
  have hlen := hcells.length
  obtain ⟨q', e', -, hbr⟩ := hh.live _ _ _ _ hl
  rw [e] at e'; injection e' with e'; subst e'
  have hsz := hbr.size_le (by omega)
  obtain ⟨C, fz, g1, g0, g2, g3⟩ := hbr
  have hs : x'.cells.size = i.size := by rw [← c4, hlen]; simp
  obtain ⟨k1, k2⟩ := hh.put hl e (off := off) hcells (by omega) c2
  exact ⟨_, run_storeAt P hi g1 (by omega) (fun k hk1 hk2 => g3 k (by omega) (by omega)) hs (flatL_one c3 hcells), k1, k2⟩

/-! ### new variables -/
theorem into_at' (cs : List V) (k : Nat) (c : V) (h : cs[k]? = some c) (hb : cs.length ≤ 1099511627775) : (into cs .e 1).at (k + 1) = c := by
  have hk : k < cs.length := by
    rcases Nat.lt_or_ge k cs.length with hh | hh
    · exact hh
    · rw [List.getElem?_eq_none hh] at h; simp at h
  have := into_at cs .e 1 k (by omega) hk (by omega)
  rw [h] at this; injection this with this
  have e : 1 + k = k + 1 := by omega
  rw [e] at this; exact this.symm
theorem VR_p_new {nx : Pos} {w : World} {n es : Nat} : VR (upd ρ nx ⟨w.heap.size, 0, n, es⟩) (.p nx 0) (.pointer (some ⟨w.heap.size, 0, none⟩)) := VR_p (upd_same ..) rfl
theorem run_newVar (P : Program) (w : World) (t : TypeId) (v : Value) : (newVar t v).run P w = .ok ⟨w.heap.size, 0, none⟩ (wpush w (.cells v.cells t)) := by
  unfold newVar newRow; simp [wpush]
/-- What `alloc` of a type begins with. -/
def zplan (Y : TI) (t : TypeId) : Option (List V) :=
  match Y.inf t with
  | some i => match i.zero with
    | some z => cvalsS z.cells.toList
    | none => none
  | none => none
theorem run_alloc (P : Program) (w : World) {t : TypeId} {i : TypeInfo} {z : Value} (hi : P.info? t = some i) (hz : i.zero = some z) :
    (Instr.alloc t true (.tuple #[])).run P w = .ok (.pointer (some ⟨w.heap.size, 0, none⟩)) (wpush w (.cells z.cells t)) := by
  unfold Instr.alloc zeroValue typeInfo
  simp [hi, hz, run_newVar]
theorem ty_div {e sz : Nat} (h : sz < 65536) : e = (e * 65536 + sz) / 65536 := by omega
theorem ty_mod {e sz : Nat} (h : sz < 65536) : (e * 65536 + sz) % 65536 = sz := by omega
theorem ty_div0 {e : Nat} : e = e * 65536 / 65536 := by omega
/-- What a new block holds, and what the value that leads to it is: a pointer, or a slice (of elements of a size, a length, a capacity). -/
inductive NV where
  | p (es : Nat) (cs : List V)
  | l (es len cap : Nat) (cs : List V)
noncomputable def NV.es (n : NV) : Nat := NV.casesOn n (fun es _ => es) fun es _ _ _ => es
noncomputable def NV.cs (n : NV) : List V := NV.casesOn n (fun _ cs => cs) fun _ _ _ cs => cs
noncomputable def NV.val (n : NV) (id : Pos) : V := NV.casesOn n (fun _ _ => .p id 0) fun _ len cap _ => .l id 0 len cap
/-- An operation makes such a block. -/
def NSnd (ρ : Rho) (w : World) (n : NV) (res : Result Value) : Prop :=
  ∃ y w' C fz, res = .ok y w' ∧ Evn w w' ∧ w'.heap = w.heap.push (.cells C (n.es / 65536) fz) ∧ n.cs.length ≤ 1099511627775 ∧ (∀ (k : Nat) (c : V), n.cs[k]? = some c → ∃ x, C[k]? = some x ∧ VR ρ c x) ∧ (∀ k, k < C.size → ¬ (fz.1 ≤ k ∧ k < fz.2)) ∧
    ∀ ρ' id, ρ' id = some ⟨w.heap.size, 0, C.size, n.es⟩ → VR ρ' (n.val id) y
/-- Under the next name. -/
theorem NSnd.next {nx : Pos} {bs : TB} {w : World} {n : NV} {res : Result Value} (h : NSnd ρ w n res) (hh : HR ρ nx bs w) :
    ∃ y w' ρ', res = .ok y w' ∧ VR ρ' (n.val nx) y ∧ HR ρ' nx.inc (bs.set nx (.mk n.es n.cs.length (into n.cs .e 1))) w' ∧ Ext ρ nx bs w ρ' nx.inc (bs.set nx (.mk n.es n.cs.length (into n.cs .e 1))) w' := by
  obtain ⟨y, w', C, fz, h1, he, h2, h3, h4, h5, h6⟩ := h
  obtain ⟨k1, k2⟩ := hh.new (C := C) (E := n.es / 65536) (fz := fz) (es := n.es) (sz := n.cs.length) (tv := into n.cs .e 1) rfl (fun k hk => by
    obtain ⟨x, hx, hv⟩ := h4 k n.cs[k] (List.getElem?_eq_getElem hk)
    exact ⟨x, hx, by rw [into_at' n.cs k n.cs[k] (List.getElem?_eq_getElem hk) h3]; exact hv⟩) h5
  exact ⟨y, w', _, h1, h6 _ _ (upd_same ..), k1.congr h2, k2.congr h2 he⟩
theorem nsnd_p {w w' : World} {es : Nat} {cs : List V} {C : Array Value} {E : TypeId} {res : Result Value} (h1 : res = .ok (.pointer (some ⟨w.heap.size, 0, none⟩)) w') (h2 : w'.heap = w.heap.push (.cells C E)) (hE : E = es / 65536) (hb : cs.length ≤ 1099511627775) (hc : VRs ρ cs C.toList) (he : Evn w w' := by exact ⟨rfl, rfl⟩) :
    NSnd ρ w (.p es cs) res :=
  ⟨_, w', C, (0, 0), h1, he, by rw [h2, hE]; rfl, hb, fun k c hk => by obtain ⟨x, hx, hv⟩ := hc.get k c hk; exact ⟨x, by simpa using hx, hv⟩, fun k _ => by simp, fun ρ' id hid => VR_p hid rfl⟩
theorem nsnd_l {w w' : World} {es len cap c : Nat} {cs : List V} {C : Array Value} {E : TypeId} {res : Result Value} (h1 : res = .ok (.slice (some ⟨w.heap.size, 0, none⟩) len c) w') (h2 : w'.heap = w.heap.push (.cells C E)) (hE : E = es / 65536) (hb : cs.length ≤ 1099511627775)
    (hc : ∀ (k : Nat) (v : V), cs[k]? = some v → ∃ x, C[k]? = some x ∧ VR ρ v x) (hl : len ≤ c) (hcap : cap ≠ 0 → c + 1 = cap) (hun : cap = 0 → c * (es % 65536) ≤ C.size) (he : Evn w w' := by exact ⟨rfl, rfl⟩) : NSnd ρ w (.l es len cap cs) res :=
  ⟨_, w', C, (0, 0), h1, he, by rw [h2, hE]; rfl, hb, hc, fun k _ => by simp, fun ρ' id hid => by
    show VR ρ' (.l id 0 len cap) _
    unfold VR
    exact ⟨rfl, hl, hcap, _, 0, hid, rfl, .inr rfl, fun h => .inr (by show 0 + c * (es % 65536) ≤ C.size; have := hun h; omega)⟩⟩
theorem snd_alloc (P : Program) {t : TypeId} {cs : List V} (hz : zplan (tiOf P) t = some cs) (hb : cs.length ≤ 1099511627775) (w : World) : NSnd ρ w (.p (t * 65536) cs) ((Instr.alloc t true (.tuple #[])).run P w) := by
  unfold zplan at hz
  dsimp only [tiOf] at hz
  split at hz
  · rename_i i hi
    split at hz
    · rename_i z hz'
      exact nsnd_p (run_alloc P w hi hz') rfl ty_div0 hb (cvalsS_VR hz)
    · simp at hz
  · simp at hz
noncomputable def boxV (es : Nat) (v : V) : Option NV := cond (isU v) none (cond (Nat.ble (lenV (cellsV v)) 1099511627775) (some (.p es (cellsV v))) none)
theorem snd_boxV (P : Program) (t : TypeId) (w : World) {v : V} {x : Value} (hv : VR ρ v x) {n : NV} (hf : boxV (t * 65536) v = some n) : NSnd ρ w n ((Instr.box t x).run P w) := by
  unfold boxV at hf
  cases hu : isU v with
  | true => rw [hu] at hf; simp at hf
  | false =>
    rw [hu, cond_false] at hf
    obtain ⟨hb, h2⟩ := cond_some hf
    have hb := Nat.le_of_ble_eq_true hb
    rw [lenV_eq] at hb
    injection h2 with h2; subst h2
    refine nsnd_p (w' := wpush w (.cells x.cells t)) (E := t) ?_ rfl ty_div0 hb (VR.cells (isU_false hu) hv)
    unfold Instr.box; simp [run_newVar, wpush]

/-! ### slices written out -/
/-- The zero cells of so many elements. -/
def splan (Y : TI) (t : TypeId) (len : Nat) : Option (Nat × List V) :=
  match Y.und t with
  | some (.slice e) => match Y.inf e with
    | some i => match i.zero with
      | some z => if i.size = z.cells.size ∧ i.size ≠ 0 ∧ len * i.size ≤ 65536 ∧ i.size < 65536 then (cvalsS ((List.range (len * i.size)).map fun k => z.cells[k % z.cells.size]!)).map fun cs => (e * 65536 + i.size, cs) else none
      | none => none
    | none => none
  | _ => none
noncomputable def bslV (es len : Nat) (zs : List V) (ps : List (Nat × Nat × V)) : Option NV :=
  Option.casesOn (fillV ps zs) none fun cs => some (.l es len (Nat.succ len) cs)
theorem fillV_length : ∀ (ps : List (Nat × Nat × V)) (L L' : List V), fillV ps L = some L' → L'.length = L.length
  | [], L, L', h => by injection h with h; rw [h]
  | p :: ps, L, L', h => by
    have h : cond (isU p.2.2) none (cond (Nat.beq (lenV (cellsV p.2.2)) p.2.1) (fillV ps (splice p.1 (cellsV p.2.2) L)) none) = some L' := h
    cases hu : isU p.2.2 with
    | true => rw [hu] at h; simp at h
    | false =>
      rw [hu, cond_false] at h
      obtain ⟨-, h⟩ := cond_some h
      rw [fillV_length ps _ L' h, splice_length]
theorem cvalsS_length : ∀ {xs : List Value} {cs : List V}, cvalsS xs = some cs → cs.length = xs.length
  | [], cs, h => by simp only [cvalsS] at h; injection h with h; subst h; rfl
  | x :: xs, cs, h => by
    simp only [cvalsS] at h
    split at h
    · rename_i c cs' h1 h2
      injection h with h; subst h
      simp [cvalsS_length h2]
    · simp at h
theorem snd_bslV (P : Program) {t : TypeId} {len es : Nat} {zs : List V} (hp : splan (tiOf P) t len = some (es, zs)) (w : World) {n : NV} {ps : List (Nat × Nat × V)} {qs : Array (Nat × Value)}
    (hps : F2 (fun p q => p.1 = q.1 * (es % 65536) ∧ p.2.1 = es % 65536 ∧ p.1 + p.2.1 ≤ zs.length ∧ VR ρ p.2.2 q.2) ps qs.toList) (hf : bslV es len zs ps = some n) :
    NSnd ρ w n ((Instr.buildSlice t len qs).run P w) := by
  unfold splan at hp
  dsimp only [tiOf] at hp
  split at hp
  case h_2 => simp at hp
  rename_i e he
  split at hp
  case h_2 => simp at hp
  rename_i i hi
  split at hp
  case h_2 => simp at hp
  rename_i z hz
  split at hp
  case isFalse => simp at hp
  rename_i hs
  obtain ⟨hs1, hs2, hs3, hs4⟩ := hs
  obtain ⟨cs, h1, h2⟩ := Option.map_eq_some_iff.1 hp
  injection h2 with e1 e2; subst e1; subst e2
  have em : (e * 65536 + i.size) % 65536 = i.size := ty_mod hs4
  have ed : e = (e * 65536 + i.size) / 65536 := ty_div hs4
  rw [em] at hps
  unfold bslV at hf
  cases hfl : fillV ps cs with
  | none => rw [hfl] at hf; cases hf
  | some L =>
    rw [hfl] at hf
    have hf : some (NV.l (e * 65536 + i.size) len (Nat.succ len) L) = some n := hf
    injection hf with hf; subst hf
    have hcl := cvalsS_length h1
    have hl : L.length = len * i.size := by rw [fillV_length _ _ _ hfl, hcl]; simp
    obtain ⟨ys, hy1, hy2⟩ := fillV_snd (ρ := ρ) (fun k => some (k * i.size, i.size)) ps qs.toList cs L ((List.range (len * i.size)).map fun k => z.cells[k % z.cells.size]!).toArray
      (hps.imp fun a b hab => ⟨by rw [hab.1, hab.2.1], hab.2.2.1, hab.2.2.2⟩) (by simpa using cvalsS_VR (ρ := ρ) h1) hfl
    refine nsnd_l (w' := wpush w (.cells ys e)) (C := ys) (E := e) ?_ rfl ed (by rw [hl]; omega) (fun k v hk => by obtain ⟨x, hx, hv⟩ := hy2.get k v hk; exact ⟨x, by simpa using hx, hv⟩) (Nat.le_refl _) (fun _ => rfl) (fun h => by omega)
    unfold Instr.buildSlice
    have e3 : ((Array.range (len * i.size)).map fun k => z.cells[k % z.cells.size]!) = ((List.range (len * i.size)).map fun k => z.cells[k % z.cells.size]!).toArray := by
      apply Array.ext'; simp
    have e4 : ¬ len * i.size > 2 ^ 24 := by omega
    rw [Sem.run_bind, run_underlying P w he, Result.andThen_ok]
    by_cases h0 : len * i.size = 0
    · have e5 : ((List.range (len * i.size)).map fun k => z.cells[k % z.cells.size]!) = [] := by rw [h0]; rfl
      rw [e5] at hy1
      have e6 : Array.range 0 = #[] := rfl
      simp [run_sizeOf P w hi, h0, hy1, newRow, wpush, e6]
    · simp [run_sizeOf P w hi, h0, e4, zeroValue, typeInfo, hi, hz, e3, hy1, newRow, wpush]

/-! ### slices made -/
noncomputable def catL (zs L : List V) : List V := List.rec (motive := fun _ => List V) L (fun c _ ih => c :: ih) zs
theorem catL_eq (L : List V) : ∀ zs : List V, catL zs L = zs ++ L
  | [] => rfl
  | c :: zs => congrArg (c :: ·) (catL_eq L zs)
/-- A list so many times. -/
noncomputable def rep (zs : List V) (c : Nat) : List V := Nat.rec [] (fun _ ih => catL zs ih) c
theorem rep_length (zs : List V) : ∀ c, (rep zs c).length = c * zs.length
  | 0 => by show ([] : List V).length = _; simp
  | c + 1 => by
    show (catL zs (rep zs c)).length = _
    rw [catL_eq, List.length_append, rep_length zs c, Nat.succ_mul]; omega
theorem rep_get (zs : List V) : ∀ (c k : Nat), k < c * zs.length → (rep zs c)[k]? = zs[k % zs.length]?
  | 0, k, h => by omega
  | c + 1, k, h => by
    show (catL zs (rep zs c))[k]? = _
    rw [catL_eq]
    by_cases hk : k < zs.length
    · rw [List.getElem?_append_left hk, Nat.mod_eq_of_lt hk]
    · rw [List.getElem?_append_right (by omega), rep_get zs c _ (by rw [Nat.succ_mul] at h; omega)]
      congr 1
      rw [Nat.mod_eq_sub_mod (by omega : k ≥ zs.length)]
/-- What a new slice's elements are: their size and their zero cells. -/
def mplan (Y : TI) (t : TypeId) : Option (Nat × List V) :=
  match Y.und t with
  | some (.slice e) => match Y.inf e with
    | some i => match i.zero with
      | some z => if i.size = z.cells.size ∧ i.size < 65536 ∧ i.bytes ≤ 65536 then (cvalsS z.cells.toList).map fun cs => (e * 65536 + i.size, cs) else none
      | none => none
    | none => none
  | _ => none
noncomputable def mslV (es : Nat) (zs : List V) (x y : V) : Option NV := asN x none fun l => asN y none fun c => cond (Nat.ble l c) (cond (Nat.ble c 1048576) (some (.l es l (Nat.succ c) (rep zs c))) none) none
theorem snd_mslV (P : Program) {t : TypeId} {es : Nat} {zs : List V} (hp : mplan (tiOf P) t = some (es, zs)) (w : World) {v v' : V} {x x' : Value} (hv : VR ρ v x) (hv' : VR ρ v' x') {n : NV} (hf : mslV es zs v v' = some n) : NSnd ρ w n ((Instr.makeSlice t x x').run P w) := by
  unfold mplan at hp
  dsimp only [tiOf] at hp
  split at hp
  case h_2 => simp at hp
  rename_i e he
  split at hp
  case h_2 => simp at hp
  rename_i i hi
  split at hp
  case h_2 => simp at hp
  rename_i z hz
  split at hp
  case isFalse => simp at hp
  rename_i hs
  obtain ⟨hs1, hs2, hs3⟩ := hs
  obtain ⟨cs, h1, h2⟩ := Option.map_eq_some_iff.1 hp
  injection h2 with e1 e2; subst e1; subst e2
  obtain ⟨l, ev, h2⟩ := asN_some hf
  obtain ⟨c, ev', h2⟩ := asN_some h2
  obtain ⟨g1, h2⟩ := cond_some h2
  obtain ⟨g2, h2⟩ := cond_some h2
  have g1 : l ≤ c := Nat.le_of_ble_eq_true g1
  have g2 : c ≤ 1048576 := Nat.le_of_ble_eq_true g2
  injection h2 with h2; subst h2
  subst ev; subst ev'
  obtain ⟨hl, rfl⟩ := hv.n
  obtain ⟨hc, rfl⟩ := hv'.n
  have el : IntKind.i64.wrap (l : Int) = l := by rw [wrap_n l hl, if_pos (by omega)]
  have ec : IntKind.i64.wrap (c : Int) = c := by rw [wrap_n c hc, if_pos (by omega)]
  rw [el, ec]
  have hcl := cvalsS_length h1
  have hlen : cs.length = i.size := by rw [hcl, hs1]; simp
  have hm := Nat.mul_le_mul g2 (Nat.le_of_lt hs2)
  have hm2 := Nat.mul_le_mul hs3 g2
  have hr := run_make (P := P) w t e i z he hi hz .i64 .i64 (l : Int) (c : Int) (by omega) (by omega) (by
    have : ((i.bytes * c : Nat) : Int) ≤ 281474976710656 := by omega
    rwa [Int.natCast_mul] at this) (by omega)
  rw [Int.toNat_natCast, Int.toNat_natCast] at hr
  have hzv := cvalsS_VR (ρ := ρ) h1
  refine nsnd_l hr rfl (ty_div hs2) (by rw [rep_length, hlen]; omega) (fun k v hk => ?_) g1 (fun _ => rfl) (fun h => by omega)
  have hkl : k < c * cs.length := by
    rcases Nat.lt_or_ge k (c * cs.length) with hh | hh
    · exact hh
    · rw [List.getElem?_eq_none (by rw [rep_length]; exact hh)] at hk; simp at hk
  rw [rep_get cs c k hkl] at hk
  obtain ⟨x, hx, hxv⟩ := hzv.get _ _ hk
  refine ⟨x, ?_, hxv⟩
  rw [hlen] at hx hkl
  have hx' : z.cells[k % i.size]? = some x := by simpa using hx
  have e9 : z.cells.size = i.size := hs1.symm
  unfold madeCells
  simp [hkl, e9, Array.getElem!_eq_getD, Array.getD_eq_getD_getElem?, hx']

end Go.Proofs.YtnhgchnhfdimiaaGreatDoor.Ev
