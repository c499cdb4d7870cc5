/- What the evaluator's values and heaps say of the model's. -/
import Derived.Test.YtnhgchnhfdimiaaGreatDoorEvA
import Derived.Laws.BitsLemmas
namespace Go.Proofs.YtnhgchnhfdimiaaGreatDoor.Ev
open Go

/-- What the evaluator asks of a program's types. -/
structure TI where
  und : TypeId → Option TypeDesc
  inf : TypeId → Option TypeInfo
  sih : TypeId → Bool
  egt : TypeId → Bool
  cof : TypeId → Nat
abbrev tiOf (P : Program) : TI := ⟨P.underlying, P.info?, P.stoodInHeld, P.eqGuardType P.depth, P.cellsOf⟩
/-- A list of bytes as a number, the first the lowest. -/
def enc : List UInt8 → Nat
  | [] => 0
  | b :: r => b.toNat + 256 * enc r

/-- Where a block's name lies: a real block, the place of its first cell, how many cells the real block has, and (65536 times its type) and how many an element. -/
structure Pl where
  r : Nat
  o : Nat
  n : Nat
  s : Nat
abbrev Rho := Pos → Option Pl

/-- What an atom says: of a kind, by the number that its name is placed with: 0 an int; 1 a slice of so many elements. -/
def AtR (k : Nat) (q : Pl) (x : Value) : Prop := match k, x with
  | 0, .int kd z => kd = .i64 ∧ q.n < 18446744073709551616 ∧ z = IntKind.i64.wrap q.n
  | 1, .slice _ len _ => len = q.n ∧ q.n ≤ 9223372036854775807
  | _, _ => False
mutual
/-- A value of the evaluator says this of a value of the model's; `u` says nothing. -/
def VR (ρ : Rho) : V → Value → Prop
  | .u, _ => True
  | .n m, .int k z => k = .i64 ∧ m < 18446744073709551616 ∧ z = IntKind.i64.wrap m
  | .y m, .int k z => k = .u8 ∧ m < 256 ∧ z = m
  | .k k m, .int k' z => k' = k ∧ m < 2 ^ k.bits ∧ z = k.wrap m
  | .b c, .bool d => c = d
  | .s len num, .string s => s.data.toList.length = len ∧ enc s.data.toList = num
  | .p0, .pointer a => a = none
  | .p id off, .pointer a => ∃ q, ρ id = some q ∧ a = some ⟨q.r, q.o + off, none⟩
  | .l0, .slice a len cap => a = none ∧ len = 0 ∧ cap = 0
  | .l id off len cap, .slice a len' cap' => len' = len ∧ len ≤ cap' ∧ (cap ≠ 0 → cap' + 1 = cap) ∧
      ∃ q x, ρ id = some q ∧ a = some ⟨q.r, x, none⟩ ∧ (cap' = 0 ∨ x = q.o + off) ∧ (cap = 0 → cap' = 0 ∨ x + cap' * (q.s % 65536) ≤ q.n)
  | .f0, .nilFunc => True
  | .f fid cs, .func fn first captured => ∃ j, fn = .func j ∧ pos j = fid ∧ first = #[] ∧ VRs ρ cs captured.toList
  | .g cs, .agg xs => VRs ρ cs xs.toList
  | .t cs, .tuple xs => VRs ρ cs xs.toList
  | .i0, .nilIface => True
  | .a k id, x => ∃ q, ρ id = some q ∧ AtR k q x
  | _, _ => False
def VRs (ρ : Rho) : List V → List Value → Prop
  | [], [] => True
  | c :: cs, x :: xs => VR ρ c x ∧ VRs ρ cs xs
  | _, _ => False
end

/-- More names are placed. -/
def Rho.le (ρ ρ' : Rho) : Prop := ∀ id x, ρ id = some x → ρ' id = some x
theorem Rho.le_refl (ρ : Rho) : ρ.le ρ := fun _ _ h => h
theorem Rho.le_trans {ρ ρ' ρ'' : Rho} (h : ρ.le ρ') (h' : ρ'.le ρ'') : ρ.le ρ'' := fun id x e => h' id x (h id x e)

mutual
theorem VR.mono {ρ ρ' : Rho} (h : ρ.le ρ') : ∀ (v : V) (x : Value), VR ρ v x → VR ρ' v x
  | .u, _, _ => by simp [VR]
  | .n _, x, e => by cases x <;> simp only [VR] at e ⊢ <;> first | exact e | exact e.elim
  | .y _, x, e => by cases x <;> simp only [VR] at e ⊢ <;> first | exact e | exact e.elim
  | .k _ _, x, e => by cases x <;> simp only [VR] at e ⊢ <;> first | exact e | exact e.elim
  | .b _, x, e => by cases x <;> simp only [VR] at e ⊢ <;> first | exact e | exact e.elim
  | .s _ _, x, e => by cases x <;> simp only [VR] at e ⊢ <;> first | exact e | exact e.elim
  | .p0, x, e => by cases x <;> simp only [VR] at e ⊢ <;> first | exact e | exact e.elim
  | .l0, x, e => by cases x <;> simp only [VR] at e ⊢ <;> first | exact e | exact e.elim
  | .f0, x, e => by cases x <;> simp only [VR] at e ⊢
  | .i0, x, e => by cases x <;> simp only [VR] at e ⊢
  | .a k id, x, e => by
    unfold VR at e ⊢
    obtain ⟨q, e1, e2⟩ := e
    exact ⟨q, h _ _ e1, e2⟩
  | .p _ _, x, e => by
    cases x <;> simp only [VR] at e ⊢
    obtain ⟨q, e1, e2⟩ := e; exact ⟨q, h _ _ e1, e2⟩
  | .l _ _ _ _, x, e => by
    cases x <;> simp only [VR] at e ⊢
    obtain ⟨e1, e2, e3, q, x, e4, e5⟩ := e; exact ⟨e1, e2, e3, q, x, h _ _ e4, e5⟩
  | .f _ cs, x, e => by
    cases x <;> simp only [VR] at e ⊢
    obtain ⟨j, e1, e2, e3, e4⟩ := e; exact ⟨j, e1, e2, e3, VRs.mono h cs _ e4⟩
  | .g cs, x, e => by cases x <;> simp only [VR] at e ⊢; exact VRs.mono h cs _ e
  | .t cs, x, e => by cases x <;> simp only [VR] at e ⊢; exact VRs.mono h cs _ e
theorem VRs.mono {ρ ρ' : Rho} (h : ρ.le ρ') : ∀ (cs : List V) (xs : List Value), VRs ρ cs xs → VRs ρ' cs xs
  | [], [], _ => by simp [VRs]
  | [], _ :: _, e => by simp [VRs] at e
  | _ :: _, [], e => by simp [VRs] at e
  | c :: cs, x :: xs, e => by simp only [VRs] at e ⊢; exact ⟨VR.mono h c x e.1, VRs.mono h cs xs e.2⟩
end

theorem VRs.length {ρ : Rho} : ∀ {cs : List V} {xs : List Value}, VRs ρ cs xs → cs.length = xs.length
  | [], [], _ => rfl
  | [], _ :: _, e => by simp [VRs] at e
  | _ :: _, [], e => by simp [VRs] at e
  | _ :: cs, _ :: xs, e => by simp only [VRs] at e; simp [VRs.length e.2]
theorem VRs.get {ρ : Rho} : ∀ {cs : List V} {xs : List Value}, VRs ρ cs xs → ∀ (k : Nat) (c : V), cs[k]? = some c → ∃ x, xs[k]? = some x ∧ VR ρ c x
  | [], _, _, k, c, h => by simp at h
  | _ :: _, [], e, _, _, _ => by simp [VRs] at e
  | c' :: cs, x :: xs, e, 0, c, h => by simp only [VRs] at e; simp at h; subst h; exact ⟨x, rfl, e.1⟩
  | c' :: cs, x :: xs, e, k + 1, c, h => by simp only [VRs] at e; simp at h ⊢; exact VRs.get e.2 k c h
theorem VRs.append {ρ : Rho} : ∀ {cs ds : List V} {xs ys : List Value}, VRs ρ cs xs → VRs ρ ds ys → VRs ρ (cs ++ ds) (xs ++ ys)
  | [], _, [], _, _, h => h
  | [], _, _ :: _, _, e, _ => by simp [VRs] at e
  | _ :: _, _, [], _, e, _ => by simp [VRs] at e
  | _ :: cs, _, _ :: xs, _, e, h => by simp only [VRs, List.cons_append] at e ⊢; exact ⟨e.1, VRs.append e.2 h⟩
/-- A list is related if it is as long, and cell by cell. -/
theorem VRs.mk {ρ : Rho} : ∀ {cs : List V} {xs : List Value}, cs.length = xs.length → (∀ (k : Nat) (c : V) (x : Value), cs[k]? = some c → xs[k]? = some x → VR ρ c x) → VRs ρ cs xs
  | [], [], _, _ => by simp [VRs]
  | [], _ :: _, h, _ => by simp at h
  | _ :: _, [], h, _ => by simp at h
  | c :: cs, x :: xs, h, hh => by
    simp only [VRs]
    exact ⟨hh 0 c x rfl rfl, VRs.mk (by simpa using h) fun k c' x' e1 e2 => hh (k + 1) c' x' (by simpa using e1) (by simpa using e2)⟩

/-- A name is live in a heap: the size of its elements, its cells. -/
def Live (bs : TB) (id : Pos) (es sz : Nat) (cs : TV) : Prop := bs.get id = .mk es sz cs

/-- A live name's cells are a real block's, from its place on, none of them frozen. -/
def BR (ρ : Rho) (w : World) (sz : Nat) (cs : TV) (q : Pl) : Prop :=
  ∃ C fz, w.heap[q.r]? = some (.cells C (q.s / 65536) fz) ∧ C.size = q.n ∧ (∀ k, k < sz → ∃ x, C[q.o + k]? = some x ∧ VR ρ (cs.at (k + 1)) x) ∧ ∀ k, q.o ≤ k → k < q.n → ¬ (fz.1 ≤ k ∧ k < fz.2)

/-- A heap of the evaluator says this of a world. -/
structure HR (ρ : Rho) (nx : Pos) (bs : TB) (w : World) : Prop where
  live : ∀ id es sz cs, Live bs id es sz cs → ∃ q, ρ id = some q ∧ (q.s = es ∧ (es % 65536 = 0 → q.o = 0)) ∧ BR ρ w sz cs q
  apart : ∀ id id' es sz cs es' sz' cs' q q', Live bs id es sz cs → Live bs id' es' sz' cs' → ρ id = some q → ρ id' = some q' → q.r = q'.r → id = id'
  fresh : ∀ id, nx.val ≤ id.val → ρ id = none ∧ bs.get id = .none
  inside : ∀ id q, ρ id = some q → q.r < w.heap.size

/-- A real block belongs to a live name. -/
def Own (ρ : Rho) (bs : TB) (b : Nat) : Prop := ∃ id es sz cs q, Live bs id es sz cs ∧ ρ id = some q ∧ q.r = b

/-- What a world tells the world outside stays. -/
def Evn (w w' : World) : Prop := w'.os = w.os ∧ w'.output = w.output
theorem Evn.refl (w : World) : Evn w w := ⟨rfl, rfl⟩
theorem Evn.trans {w w' w'' : World} (h : Evn w w') (h' : Evn w' w'') : Evn w w'' := ⟨h'.1.trans h.1, h'.2.trans h.2⟩
/-- The frozen range of a block's cells. -/
def fzAt (w : World) (b : Nat) : Option (Nat × Nat) := match w.heap[b]? with | some (.cells _ _ f) => some f | _ => none
theorem fzAt_of {w w' : World} {b : Nat} (h : w'.heap[b]? = w.heap[b]?) : fzAt w' b = fzAt w b := by unfold fzAt; rw [h]
theorem fzAt_cells {w : World} {b : Nat} {C : Array Value} {E : TypeId} {f : Nat × Nat} (h : w.heap[b]? = some (.cells C E f)) : fzAt w b = some f := by unfold fzAt; rw [h]

/-- From one heap and world to later ones: names stay placed, and older names that weren't placed aren't; blocks that no live name owns stay; what is owned was owned, or is new. -/
structure Ext (ρ : Rho) (nx : Pos) (bs : TB) (w : World) (ρ' : Rho) (nx' : Pos) (bs' : TB) (w' : World) : Prop where
  le : ρ.le ρ'
  size : w.heap.size ≤ w'.heap.size
  keep : ∀ b, b < w.heap.size → ¬ Own ρ bs b → w'.heap[b]? = w.heap[b]?
  own : ∀ b, b < w.heap.size → Own ρ' bs' b → Own ρ bs b
  nle : nx.val ≤ nx'.val
  old : ∀ id, id.val < nx.val → ρ id = none → ρ' id = none
  env : Evn w w'
  frz : ∀ b, b < w.heap.size → Own ρ' bs' b → fzAt w' b = fzAt w b

theorem Ext.refl (ρ : Rho) (nx : Pos) (bs : TB) (w : World) : Ext ρ nx bs w ρ nx bs w := ⟨Rho.le_refl ρ, Nat.le_refl _, fun _ _ _ => rfl, fun _ _ h => h, Nat.le_refl _, fun _ _ h => h, Evn.refl w, fun _ _ _ => rfl⟩
theorem Ext.trans {ρ ρ' ρ'' : Rho} {nx nx' nx'' : Pos} {bs bs' bs'' : TB} {w w' w'' : World} (h : Ext ρ nx bs w ρ' nx' bs' w') (h' : Ext ρ' nx' bs' w' ρ'' nx'' bs'' w'') : Ext ρ nx bs w ρ'' nx'' bs'' w'' where
  le := Rho.le_trans h.le h'.le
  size := Nat.le_trans h.size h'.size
  keep := fun b hb ho => by
    rw [h'.keep b (Nat.lt_of_lt_of_le hb h.size) (fun hh => ho (h.own b hb hh)), h.keep b hb ho]
  own := fun b hb ho => h.own b hb (h'.own b (Nat.lt_of_lt_of_le hb h.size) ho)
  nle := Nat.le_trans h.nle h'.nle
  old := fun id hid hn => h'.old id (Nat.lt_of_lt_of_le hid h.nle) (h.old id hid hn)
  env := h.env.trans h'.env
  frz := fun b hb ho => (h'.frz b (Nat.lt_of_lt_of_le hb h.size) ho).trans (h.frz b hb (h'.own b (Nat.lt_of_lt_of_le hb h.size) ho))

end Go.Proofs.YtnhgchnhfdimiaaGreatDoor.Ev
