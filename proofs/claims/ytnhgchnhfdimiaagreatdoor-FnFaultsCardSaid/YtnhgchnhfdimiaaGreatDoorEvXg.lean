/- Operations that lacked: the lesser of two, bits of bytes, the inverse, an array's place. -/
import Derived.Test.YtnhgchnhfdimiaaGreatDoorEvXe
import Derived.Laws.Externs
namespace Go.Proofs.YtnhgchnhfdimiaaGreatDoor.Ev
open Go
variable {ρ : Rho}

theorem ofInt_y (a : Nat) (h : a < 256) : (BitVec.ofInt 8 (a : Int)).toNat = a := by
  rw [BitVec.toNat_ofInt]
  show (_ % ((256 : Nat) : Int)).toNat = a
  omega
theorem snd_orY (P : Program) (t : TypeId) (ox oy : Operand) : Snd2 P orY (cbin .or t ox oy) :=
  byte_two (g := fun a b => .int .u8 (IntKind.u8.wrap ((BitVec.ofInt 8 a ||| BitVec.ofInt 8 b).toNat : Int))) (fun a b => rfl) fun ρ a b ha hb => by
    rw [BitVec.toNat_or, ofInt_y a ha, ofInt_y b hb]
    have h : a ||| b < 2 ^ 8 := Nat.or_lt_two_pow (n := 8) ha hb
    refine VR_y_of h ?_
    rw [IntKind.wrap_u8]; show _ = ((a ||| b : Nat) : Int); omega
theorem snd_invN (P : Program) : Snd1 P invN (Op.unary .xor) := by
  intro ρ v x r w hv hf
  obtain ⟨a, ea, h1⟩ := asN_some hf
  subst ea
  obtain ⟨ha, rfl⟩ := hv.n
  injection h1 with h1; subst h1
  refine ⟨.int .i64 (IntKind.i64.wrap ((BitVec.ofInt 64 (-1) ^^^ BitVec.ofInt 64 (IntKind.i64.wrap a)).toNat : Int)), rfl, ?_⟩
  have e1 : BitVec.ofInt 64 (-1) = BitVec.allOnes 64 := by decide
  rw [e1, BitVec.allOnes_xor, BitVec.toNat_not, ofInt_n a ha]
  exact VR_n (by show 18446744073709551615 - a < _; omega)

noncomputable def minN (x y : V) : Option V := asN x none fun a => asN y none fun b => some (.n (cond (Nat.ble (Nat.succ (shf b)) (shf a)) b a))
theorem snd_minN (P : Program) (ts : Array TypeId) (ty : TypeId) : Snd2 P minN (fun x y => Builtin.min_ ts ty #[x, y]) := by
  intro ρ v v' x x' r w hv hv' hf
  obtain ⟨a, ea, h1⟩ := asN_some hf
  obtain ⟨b, eb, h2⟩ := asN_some h1
  subst ea; subst eb
  obtain ⟨ha, rfl⟩ := hv.n
  obtain ⟨hb, rfl⟩ := hv'.n
  injection h2 with h2; subst h2
  refine ⟨.int .i64 (if IntKind.i64.wrap (b : Int) < IntKind.i64.wrap (a : Int) then IntKind.i64.wrap (b : Int) else IntKind.i64.wrap (a : Int)), ?_, ?_⟩
  · show (Builtin.min_ ts ty #[_, _]).run P w = _
    unfold Builtin.min_
    simp [Builtin.min2]
  · have e : (Nat.ble (Nat.succ (shf b)) (shf a)) = decide (IntKind.i64.wrap (b : Int) < IntKind.i64.wrap (a : Int)) := by
      rw [ble_eq]; apply decide_eq_decide.2
      rw [wrap_n a ha, wrap_n b hb]
      unfold shf
      show (b + 9223372036854775808) % 18446744073709551616 + 1 ≤ (a + 9223372036854775808) % 18446744073709551616 ↔ _
      split <;> split <;> omega
    rw [e]
    by_cases h : IntKind.i64.wrap (b : Int) < IntKind.i64.wrap (a : Int)
    · rw [decide_eq_true h, cond_true, if_pos h]; exact VR_n hb
    · rw [decide_eq_false h, cond_false, if_neg h]; exact VR_n ha

/-- An element of an array. -/
noncomputable def asIx {α : Type} (v : V) (no : α) (k : Nat → α) : α := W1.rec (motive := fun _ => α) no k (vX v)
theorem asIx_some {α : Type} {v : V} {k : Nat → Option α} {r : α} (h : asIx v none k = some r) : ∃ m, (v = .n m ∨ v = .y m) ∧ k m = some r := by
  cases v <;> first | exact ⟨_, .inl rfl, h⟩ | exact ⟨_, .inr rfl, h⟩ | (have h : (none : Option α) = some r := h; cases h)
noncomputable def iaddA (len sz : Nat) (x i : V) : Option V := asP x none fun id off => asIx i none fun k => cond (Nat.ble (Nat.succ k) len) (some (.p id (Nat.add off (Nat.mul k sz)))) none
theorem snd_iaddA (P : Program) {t e : TypeId} {len : Nat} {i : TypeInfo} (ht : P.underlying t = some (.array len e)) (hl : len ≤ 1099511627776) (hi : P.info? e = some i) : Snd2 P (iaddA len i.size) (Instr.indexAt t) := by
  intro ρ v v' x x' r w hv hv' hr
  obtain ⟨id, off, ea, h1⟩ := asP_some hr
  subst ea
  obtain ⟨k, eb, h2⟩ := asIx_some h1
  obtain ⟨q, h3, rfl⟩ := hv.p
  obtain ⟨g2, h2⟩ := cond_some h2
  have g2 : k + 1 ≤ len := Nat.le_of_ble_eq_true g2
  injection h2 with h2; subst h2
  have hx : ∃ kd, x' = .int kd (k : Int) := by
    rcases eb with eb | eb
    · subst eb
      obtain ⟨hk, rfl⟩ := hv'.n
      exact ⟨.i64, by rw [wrap_n k hk, if_pos (by omega)]⟩
    · subst eb
      obtain ⟨hk, rfl⟩ := hv'.y
      exact ⟨.u8, rfl⟩
  obtain ⟨kd, rfl⟩ := hx
  refine ⟨.pointer (some ⟨q.r, q.o + off + k * i.size, none⟩), ?_, VR_p h3 (by show _ = q.o + (off + k * i.size); omega)⟩
  unfold Instr.indexAt
  rw [Sem.run_bind, run_asIntOf, Result.andThen_ok]
  have e1 : (k : Int).toNat = k := by omega
  have e2 : k < len := by omega
  simp [run_underlying P w ht, run_sizeOf P w hi, Instr.sureAddr, add_mk, e1, e2]

/-! ### operands -/
noncomputable def opX (G : Ctx) (E : Env) (n : Nat) (x : Operand) : Option X := match cxD G E x with
  | some (.l m) => some (xl (n - 1 - m))
  | some (.s t) => some (xs (pos t))
  | some (.c v) => some (xc v)
  | none => none
theorem opX_map (G : Ctx) (E : Env) (n : Nat) (x : Operand) : opX G E n x = (cxD G E x).map (D.x n) := by
  unfold opX
  cases cxD G E x with
  | none => rfl
  | some d => cases d <;> rfl
theorem opX_snd {G : Ctx} {E : Env} {n : Nat} {L : List V} {T : TV} {a : Act} {x : Operand} {f : X} (hn : L.length = n) (he : ER G ρ E L T a) (h : opX G E n x = some f) : VR ρ (f L T) (a.eval x) := by
  rw [opX_map] at h
  obtain ⟨d, hd, rfl⟩ := Option.map_eq_some_iff.1 h
  subst hn
  exact (cxD_snd he hd).2
noncomputable def opXs (G : Ctx) (E : Env) (n : Nat) : List Operand → Option (List X)
  | [] => some []
  | x :: xs => match opX G E n x, opXs G E n xs with
    | some f, some fs => some (f :: fs)
    | _, _ => none
noncomputable def evs (fs : List X) (L : List V) (T : TV) : List V := List.rec (motive := fun _ => List V) [] (fun f _ ih => f L T :: ih) fs
theorem opXs_snd {G : Ctx} {E : Env} {n : Nat} {L : List V} {T : TV} {a : Act} (hn : L.length = n) (he : ER G ρ E L T a) : ∀ {xs : List Operand} {fs : List X}, opXs G E n xs = some fs → VRs ρ (evs fs L T) (xs.map a.eval)
  | [], fs, h => by injection h with h; subst h; show VRs ρ [] []; simp [VRs]
  | x :: xs, fs, h => by
    simp only [opXs] at h
    split at h
    · rename_i f fs' h1 h2
      injection h with h; subst h
      show VRs ρ (f L T :: evs fs' L T) (a.eval x :: xs.map a.eval)
      simp only [VRs]
      exact ⟨opX_snd hn he h1, opXs_snd hn he h2⟩
    · cases h
/-- Parts of what is built: where each goes, and how many cells it has. -/
noncomputable def opPs (place : Nat → Option (Nat × Nat)) (top : Nat) (G : Ctx) (E : Env) (n : Nat) : List (Nat × Operand) → Option (List (Nat × Nat × X))
  | [] => some []
  | (i, x) :: ps => match place i, opX G E n x, opPs place top G E n ps with
    | some (o, s), some f, some fs => if o + s ≤ top then some ((o, s, f) :: fs) else none
    | _, _, _ => none
noncomputable def evp (fs : List (Nat × Nat × X)) (L : List V) (T : TV) : List (Nat × Nat × V) := List.rec (motive := fun _ => List (Nat × Nat × V)) [] (fun p _ ih => (p.1, p.2.1, p.2.2 L T) :: ih) fs
theorem opPs_snd {place : Nat → Option (Nat × Nat)} {top : Nat} {G : Ctx} {E : Env} {n : Nat} {L : List V} {T : TV} {a : Act} (hn : L.length = n) (he : ER G ρ E L T a) : ∀ {ps : List (Nat × Operand)} {fs : List (Nat × Nat × X)}, opPs place top G E n ps = some fs →
    F2 (fun p q => place q.1 = some (p.1, p.2.1) ∧ p.1 + p.2.1 ≤ top ∧ VR ρ p.2.2 q.2) (evp fs L T) (ps.map fun (i, x) => (i, a.eval x))
  | [], fs, h => by injection h with h; subst h; exact .nil
  | (i, x) :: ps, fs, h => by
    simp only [opPs] at h
    split at h
    · rename_i o s f fs' h1 h2 h3
      split at h
      · rename_i hb
        injection h with h; subst h
        exact .cons (a := (o, s, f L T)) ⟨h1, hb, opX_snd hn he h2⟩ (opPs_snd hn he h3)
      · cases h
    · cases h

/-! ### entries that the model gives -/
inductive XK where
  | same
  | cnt
  | ixb
  | mnz (ec : Nat)
def XRun (P : Program) (f : FuncId) (e : Array Value → Sem Value) : Prop :=
  ∃ fn, P.funcs[f]? = some fn ∧ (fn.name == "runtime.NumGoroutine") = false ∧ fn.body.isNone = true ∧ Extern.findNext fn = none ∧ Extern.find fn = some e
def XOk (P : Program) (f : FuncId) : XK → Prop
  | .same => XRun P f Extern.AbiNoEscape.same
  | .cnt => XRun P f Extern.BytealgCount.count
  | .ixb => XRun P f Extern.BytealgIndexByte.indexByte
  | .mnz ec => ∃ ps t e, XRun P f (Extern.BytealgMakeNoZero.makeNoZero ps #[t]) ∧ P.underlying t = some (.slice e) ∧ ec = e * 65536 + 1
theorem XRun.run {P : Program} {f : FuncId} {e : Array Value → Sem Value} (h : XRun P f e) (args : Array Value) (w : World) : (callFunc f args).run P w = ((e args).run P w).andThen fun v w' => .ok (.value v) w' := by
  obtain ⟨fn, h1, h2, h3, h4, h5⟩ := h
  exact run_callFunc_extern h1 h2 h3 h4 h5 args w

/-- A call of a function value: what it comes to. -/
theorem exec_call (a : Act) {o : Oper} {x : Operand} {args : Array Operand} {ts : Array TypeId} (ho : o.op = .call { callee := .value x, args := args, argTypes := ts }) {j : FuncId} {xs : Array Value} (hx : a.eval x = .func (.func j) #[] xs) :
    execOp a.eval o = callFunc j (args.map a.eval ++ xs) := by
  unfold execOp
  rw [ho]
  simp only [resolve, hx, Deferred.ofValue]
  show (invoke (.fn (.func j) xs) (#[] ++ args.map a.eval)) = _
  rw [Array.empty_append]
  rfl

end Go.Proofs.YtnhgchnhfdimiaaGreatDoor.Ev
