/- Operations that lacked: the lesser of two, bits of bytes, the inverse, an array's place. -/
import Derived.Test.YtmbnogellhoheaaGreatDoorEvXa
import Derived.Laws.Externs
namespace Go.Proofs.YtmbnogellhoheaaGreatDoor.Ev
open Go
variable {ρ : Rho}

theorem ofInt_y (a : Nat) (h : a < 256) : (BitVec.ofInt 8 (a : Int)).toNat = a := by
  rw [BitVec.toNat_ofInt]
  show (_ % ((256 : Nat) : Int)).toNat = a
  omega
theorem snd_orY (P : Program) (t : TypeId) (ox oy : Operand) : Snd2 P orY (cbin .or t ox oy) :=
  byte_two (g := fun a b => .int .u8 (IntKind.u8.wrap ((BitVec.ofInt 8 a ||| BitVec.ofInt 8 b).toNat : Int))) (fun a b => rfl) fun ρ a b ha hb => by
    rw [BitVec.toNat_or, ofInt_y a ha, ofInt_y b hb]
    have h : a ||| b < 2 ^ 8 := Nat.or_lt_two_pow (n := 8) ha hb
    refine VR_y_of h ?_
    rw [IntKind.wrap_u8]; show _ = ((a ||| b : Nat) : Int); omega
theorem snd_invN (P : Program) : Snd1 P invN (Op.unary .xor) := by
  intro ρ v x r w hv hf
  obtain ⟨a, ea, h1⟩ := asN_some hf
  subst ea
  obtain ⟨ha, rfl⟩ := hv.n
  injection h1 with h1; subst h1
  refine ⟨.int .i64 (IntKind.i64.wrap ((BitVec.ofInt 64 (-1) ^^^ BitVec.ofInt 64 (IntKind.i64.wrap a)).toNat : Int)), rfl, ?_⟩
  have e1 : BitVec.ofInt 64 (-1) = BitVec.allOnes 64 := by decide
  rw [e1, BitVec.allOnes_xor, BitVec.toNat_not, ofInt_n a ha]
  exact VR_n (by show 18446744073709551615 - a < _; omega)

noncomputable def minN (x y : V) : Option V := asN x none fun a => asN y none fun b => some (.n (cond (Nat.ble (Nat.succ (shf b)) (shf a)) b a))
theorem snd_minN (P : Program) (ts : Array TypeId) (ty : TypeId) : Snd2 P minN (fun x y => Builtin.min_ ts ty #[x, y]) := by
  intro ρ v v' x x' r w hv hv' hf
  obtain ⟨a, ea, h1⟩ := asN_some hf
  obtain ⟨b, eb, h2⟩ := asN_some h1
  subst ea; subst eb
  obtain ⟨ha, rfl⟩ := hv.n
  obtain ⟨hb, rfl⟩ := hv'.n
  injection h2 with h2; subst h2
  refine ⟨.int .i64 (if IntKind.i64.wrap (b : Int) < IntKind.i64.wrap (a : Int) then IntKind.i64.wrap (b : Int) else IntKind.i64.wrap (a : Int)), ?_, ?_⟩
  · show (Builtin.min_ ts ty #[_, _]).run P w = _
    unfold Builtin.min_
    simp [Builtin.min2]
  · have e : (Nat.ble (Nat.succ (shf b)) (shf a)) = decide (IntKind.i64.wrap (b : Int) < IntKind.i64.wrap (a : Int)) := by
      rw [ble_eq]; apply decide_eq_decide.2
      rw [wrap_n a ha, wrap_n b hb]
      unfold shf
      show (b + 9223372036854775808) % 18446744073709551616 + 1 ≤ (a + 9223372036854775808) % 18446744073709551616 ↔ _
      split <;> split <;> omega
    rw [e]
    by_cases h : IntKind.i64.wrap (b : Int) < IntKind.i64.wrap (a : Int)
    · rw [decide_eq_true h, cond_true, if_pos h]; exact VR_n hb
    · rw [decide_eq_false h, cond_false, if_neg h]; exact VR_n ha

noncomputable def maxN (x y : V) : Option V := asN x none fun a => asN y none fun b => some (.n (cond (Nat.ble (Nat.succ (shf a)) (shf b)) b a))
theorem snd_maxN (P : Program) (ts : Array TypeId) (ty : TypeId) : Snd2 P maxN (fun x y => Builtin.max_ ts ty #[x, y]) := by
  intro ρ v v' x x' r w hv hv' hf
  obtain ⟨a, ea, h1⟩ := asN_some hf
  obtain ⟨b, eb, h2⟩ := asN_some h1
  subst ea; subst eb
  obtain ⟨ha, rfl⟩ := hv.n
  obtain ⟨hb, rfl⟩ := hv'.n
  injection h2 with h2; subst h2
  refine ⟨.int .i64 (if IntKind.i64.wrap (b : Int) > IntKind.i64.wrap (a : Int) then IntKind.i64.wrap (b : Int) else IntKind.i64.wrap (a : Int)), ?_, ?_⟩
  · show (Builtin.max_ ts ty #[_, _]).run P w = _
    unfold Builtin.max_
    simp [Builtin.max2]
  · have e : (Nat.ble (Nat.succ (shf a)) (shf b)) = decide (IntKind.i64.wrap (b : Int) > IntKind.i64.wrap (a : Int)) := by
      rw [ble_eq]; apply decide_eq_decide.2
      rw [wrap_n a ha, wrap_n b hb]
      unfold shf
      show (a + 9223372036854775808) % 18446744073709551616 + 1 ≤ (b + 9223372036854775808) % 18446744073709551616 ↔ _
      split <;> split <;> omega
    rw [e]
    by_cases h : IntKind.i64.wrap (b : Int) > IntKind.i64.wrap (a : Int)
    · rw [decide_eq_true h, cond_true, if_pos h]; exact VR_n hb
    · rw [decide_eq_false h, cond_false, if_neg h]; exact VR_n ha

/-- An element of an array. -/
noncomputable def asIx {α : Type} (v : V) (no : α) (k : Nat → α) : α := W1.rec (motive := fun _ => α) no k (vX v)
theorem asIx_some {α : Type} {v : V} {k : Nat → Option α} {r : α} (h : asIx v none k = some r) : ∃ m, (v = .n m ∨ v = .y m) ∧ k m = some r := by
  cases v <;> first | exact ⟨_, .inl rfl, h⟩ | exact ⟨_, .inr rfl, h⟩ | (have h : (none : Option α) = some r := h; cases h)
noncomputable def iaddA (len sz : Nat) (x i : V) : Option V := asP x none fun id off => asIx i none fun k => cond (Nat.ble (Nat.succ k) len) (some (.p id (Nat.add off (Nat.mul k sz)))) none
theorem snd_iaddA (P : Program) {t e : TypeId} {len : Nat} {i : TypeInfo} (ht : P.underlying t = some (.array len e)) (hl : len ≤ 1099511627776) (hi : P.info? e = some i) : Snd2 P (iaddA len i.size) (Instr.indexAt t) := by
  intro ρ v v' x x' r w hv hv' hr
  obtain ⟨id, off, ea, h1⟩ := asP_some hr
  subst ea
  obtain ⟨k, eb, h2⟩ := asIx_some h1
  obtain ⟨q, h3, rfl⟩ := hv.p
  obtain ⟨g2, h2⟩ := cond_some h2
  have g2 : k + 1 ≤ len := Nat.le_of_ble_eq_true g2
  injection h2 with h2; subst h2
  have hx : ∃ kd, x' = .int kd (k : Int) := by
    rcases eb with eb | eb
    · subst eb
      obtain ⟨hk, rfl⟩ := hv'.n
      exact ⟨.i64, by rw [wrap_n k hk, if_pos (by omega)]⟩
    · subst eb
      obtain ⟨hk, rfl⟩ := hv'.y
      exact ⟨.u8, rfl⟩
  obtain ⟨kd, rfl⟩ := hx
  refine ⟨.pointer (some ⟨q.r, q.o + off + k * i.size, none⟩), ?_, VR_p h3 (by show _ = q.o + (off + k * i.size); omega)⟩
  unfold Instr.indexAt
  rw [Sem.run_bind, run_asIntOf, Result.andThen_ok]
  have e1 : (k : Int).toNat = k := by omega
  have e2 : k < len := by omega
  simp [run_underlying P w ht, run_sizeOf P w hi, Instr.sureAddr, add_mk, e1, e2]

/-! ### operands -/
noncomputable def opX (G : Ctx) (E : Env) (n : Nat) (x : Operand) : Option X := match cxD G E x with
  | some (.l m) => some (xl (n - 1 - m))
  | some (.s t) => some (xs (pos t))
  | some (.c v) => some (xc v)
  | none => none
theorem opX_map (G : Ctx) (E : Env) (n : Nat) (x : Operand) : opX G E n x = (cxD G E x).map (D.x n) := by
  unfold opX
  cases cxD G E x with
  | none => rfl
  | some d => cases d <;> rfl
theorem opX_snd {G : Ctx} {E : Env} {n : Nat} {L : List V} {T : TS} {a : Act} {x : Operand} {f : X} (hn : L.length = n) (he : ER G ρ E L T a) (h : opX G E n x = some f) : VR ρ (f L T) (a.eval x) := by
  rw [opX_map] at h
  obtain ⟨d, hd, rfl⟩ := Option.map_eq_some_iff.1 h
  subst hn
  exact (cxD_snd he hd).2
noncomputable def opXs (G : Ctx) (E : Env) (n : Nat) : List Operand → Option (List X)
  | [] => some []
  | x :: xs => match opX G E n x, opXs G E n xs with
    | some f, some fs => some (f :: fs)
    | _, _ => none
noncomputable def evs (fs : List X) (L : List V) (T : TS) : List V := List.rec (motive := fun _ => List V) [] (fun f _ ih => f L T :: ih) fs
theorem opXs_snd {G : Ctx} {E : Env} {n : Nat} {L : List V} {T : TS} {a : Act} (hn : L.length = n) (he : ER G ρ E L T a) : ∀ {xs : List Operand} {fs : List X}, opXs G E n xs = some fs → VRs ρ (evs fs L T) (xs.map a.eval)
  | [], fs, h => by injection h with h; subst h; show VRs ρ [] []; simp [VRs]
  | x :: xs, fs, h => by
    simp only [opXs] at h
    split at h
    · rename_i f fs' h1 h2
      injection h with h; subst h
      show VRs ρ (f L T :: evs fs' L T) (a.eval x :: xs.map a.eval)
      simp only [VRs]
      exact ⟨opX_snd hn he h1, opXs_snd hn he h2⟩
    · cases h
/-- Parts of what is built: where each goes, and how many cells it has. -/
noncomputable def opPs (place : Nat → Option (Nat × Nat)) (top : Nat) (G : Ctx) (E : Env) (n : Nat) : List (Nat × Operand) → Option (List (Nat × Nat × X))
  | [] => some []
  | (i, x) :: ps => match place i, opX G E n x, opPs place top G E n ps with
    | some (o, s), some f, some fs => if o + s ≤ top then some ((o, s, f) :: fs) else none
    | _, _, _ => none
noncomputable def evp (fs : List (Nat × Nat × X)) (L : List V) (T : TS) : List (Nat × Nat × V) := List.rec (motive := fun _ => List (Nat × Nat × V)) [] (fun p _ ih => (p.1, p.2.1, p.2.2 L T) :: ih) fs
theorem opPs_snd {place : Nat → Option (Nat × Nat)} {top : Nat} {G : Ctx} {E : Env} {n : Nat} {L : List V} {T : TS} {a : Act} (hn : L.length = n) (he : ER G ρ E L T a) : ∀ {ps : List (Nat × Operand)} {fs : List (Nat × Nat × X)}, opPs place top G E n ps = some fs →
    F2 (fun p q => place q.1 = some (p.1, p.2.1) ∧ p.1 + p.2.1 ≤ top ∧ VR ρ p.2.2 q.2) (evp fs L T) (ps.map fun (i, x) => (i, a.eval x))
  | [], fs, h => by injection h with h; subst h; exact .nil
  | (i, x) :: ps, fs, h => by
    simp only [opPs] at h
    split at h
    · rename_i o s f fs' h1 h2 h3
      split at h
      · rename_i hb
        injection h with h; subst h
        exact .cons (a := (o, s, f L T)) ⟨h1, hb, opX_snd hn he h2⟩ (opPs_snd hn he h3)
      · cases h
    · cases h

/-! ### entries that the model gives -/
inductive XK where
  | same
  | cnt
  | ixb
  | mnz (ec : Nat)
def XRun (P : Program) (f : FuncId) (e : Array Value → Sem Value) : Prop :=
  ∃ fn, P.funcs[f]? = some fn ∧ (fn.name == "runtime.NumGoroutine") = false ∧ fn.body.isNone = true ∧ Extern.findNext fn = none ∧ Extern.find fn = some e
def XOk (P : Program) (f : FuncId) : XK → Prop
  | .same => XRun P f Extern.AbiNoEscape.same
  | .cnt => XRun P f Extern.BytealgCount.count
  | .ixb => XRun P f Extern.BytealgIndexByte.indexByte
  | .mnz ec => ∃ ps t e, XRun P f (Extern.BytealgMakeNoZero.makeNoZero ps #[t]) ∧ P.underlying t = some (.slice e) ∧ ec = e * 65536 + 1
theorem XRun.run {P : Program} {f : FuncId} {e : Array Value → Sem Value} (h : XRun P f e) (args : Array Value) (w : World) : (callFunc f args).run P w = ((e args).run P w).andThen fun v w' => .ok (.value v) w' := by
  obtain ⟨fn, h1, h2, h3, h4, h5⟩ := h
  exact run_callFunc_extern h1 h2 h3 h4 h5 args w

/-- A call of a function value: what it comes to. -/
theorem exec_call (a : Act) {o : Oper} {x : Operand} {args : Array Operand} {ts : Array TypeId} (ho : o.op = .call { callee := .value x, args := args, argTypes := ts }) {j : FuncId} {xs : Array Value} (hx : a.eval x = .func (.func j) #[] xs) :
    execOp a.eval o = callFunc j (args.map a.eval ++ xs) := by
  unfold execOp
  rw [ho]
  simp only [resolve, hx, Deferred.ofValue]
  show (invoke (.fn (.func j) xs) (#[] ++ args.map a.eval)) = _
  rw [Array.empty_append]
  rfl

end Go.Proofs.YtmbnogellhoheaaGreatDoor.Ev

/- Texts some of whose bytes are atoms. -/
namespace Go.Proofs.YtmbnogellhoheaaGreatDoor.Ev
open Go
variable {ρ : Rho}

/-! ### joined, compared -/
noncomputable def catW (x y : V) : Option V := Option.rec (motive := fun _ => Option V) none (fun a => Option.rec (motive := fun _ => Option V) none (fun b => cond (Nat.ble (Nat.add (llen a) (llen b)) 1048576) (some (mkW (catL a b))) none) (wOf y)) (wOf x)
theorem two_some {α β : Type} {o : Option α} {p : Option β} {k : α → β → Option V} {r : V} (h : Option.rec (motive := fun _ => Option V) none (fun a => Option.rec (motive := fun _ => Option V) none (fun b => k a b) p) o = some r) : ∃ a b, o = some a ∧ p = some b ∧ k a b = some r := by
  cases o with
  | none => cases h
  | some a => cases p with
    | none => cases h
    | some b => exact ⟨a, b, rfl, rfl, h⟩
theorem snd_catW (P : Program) (t : TypeId) (ox oy : Operand) : Snd2 P catW (cbin .add t ox oy) := by
  intro ρ v v' x x' r w hv hv' hf
  obtain ⟨a, b, ha, hb, h⟩ := two_some hf
  obtain ⟨la, rfl, h1⟩ := wOf_snd ha hv
  obtain ⟨lb, rfl, h2⟩ := wOf_snd hb hv'
  obtain ⟨g, h⟩ := cond_some h
  have g : llen a + llen b ≤ 1048576 := Nat.le_of_ble_eq_true g
  rw [h1.llen, h2.llen] at g
  injection h with h; subst h
  obtain ⟨y, k1, k2⟩ := snd_catS P t ox oy ρ _ _ _ _ (.s (la ++ lb).length (enc (la ++ lb))) w (VR_str la) (VR_str lb) (by
    show cond (Nat.ble (Nat.add la.length lb.length) 1099511627776) _ none = _
    rw [show Nat.ble (Nat.add la.length lb.length) 1099511627776 = true from Nat.ble_eq_true_of_le (by show la.length + lb.length ≤ _; omega), cond_true, List.length_append, enc_append]; rfl)
  refine ⟨y, k1, ?_⟩
  rw [k2.str]
  refine mkW_snd ?_
  rw [catL_eq, List.map_append]
  exact h1.append h2
/-- Whether two bytes are the same, if that is known. -/
noncomputable def asBo (v : V) : Option Bool := asB v none fun b => some b
noncomputable def cmpV (A : ATab) (c d : V) : Option Bool := W1.rec (motive := fun _ => Option Bool) (cond (veqA c d) (some true) (Option.rec (motive := fun _ => Option Bool) none asBo (A.bin .eql c d)))
  (fun m => W1.rec (motive := fun _ => Option Bool) (Option.rec (motive := fun _ => Option Bool) none asBo (A.bin .eql c d)) (fun n => some (Nat.beq m n)) (vY d)) (vY c)
where veqA (c d : V) : Bool := asA c false fun k i => asA d false fun j i' => cond (Nat.beq k j) (Nat.beq i.val i'.val) false
theorem veqA_eq {c d : V} (h : cmpV.veqA c d = true) : c = d := by
  obtain ⟨i, p, rfl, h1⟩ := asA_true h
  obtain ⟨j, q, rfl, h2⟩ := asA_true h1
  cases e : Nat.beq i j with
  | false => rw [e] at h2; cases h2
  | true =>
    rw [e, cond_true] at h2
    rw [Nat.eq_of_beq_eq_true e, Pos.val_inj _ _ (Nat.eq_of_beq_eq_true h2)]
theorem asBo_some {v : V} {b : Bool} (h : asBo v = some b) : v = .b b := by
  obtain ⟨c, rfl, h1⟩ := asB_some h
  injection h1 with h1; subst h1; rfl
theorem AtR.byte {k : Nat} {q : Pl} {a b : UInt8} (h : AtR k q (byteVal a)) (h' : AtR k q (byteVal b)) : a = b := by
  apply UInt8.toNat_inj.1
  unfold byteVal AtR at h h'
  split at h
  · rename_i kd z e; injection e with e1 e2; subst e1; exact absurd h.1 (by decide)
  · rename_i e; cases e
  · rename_i kd z e
    injection e with e1 e2
    have h2 := h.2.2
    have h3 : ((b.toNat : Nat) : Int) = q.n := h'.2.2
    omega
  · rename_i j kd z e
    injection e with e1 e2; subst e1
    have h2 : z = IntKind.u8.wrap q.n := h.2.2
    have h3 : ((b.toNat : Nat) : Int) = IntKind.u8.wrap q.n := h'.2.2
    omega
  · exact h.elim
theorem eql_byte (P : Program) (w : World) (a b : UInt8) : (cbin .eql 0 (.const .nilIface) (.const .nilIface) (byteVal a) (byteVal b)).run P w = .ok (.bool (a == b)) w := by
  unfold cbin byteVal
  rw [Sem.run_bind, eqGuard_int, Result.andThen_ok]
  show (pure (Value.bool (((a.toNat : Nat) : Int) == ((b.toNat : Nat) : Int))) : Sem Value).run P w = _
  have e : (((a.toNat : Nat) : Int) == ((b.toNat : Nat) : Int)) = (a == b) := by
    by_cases h : a = b
    · subst h; simp
    · have h1 : a.toNat ≠ b.toNat := fun e => h (UInt8.toNat_inj.1 e)
      rw [beq_eq_false_iff_ne.2 h, beq_eq_false_iff_ne]; omega
  rw [e]; rfl
theorem cmpV_snd {A : ATab} (hA : A.OK) (hr : ValR A.val ρ) {c d : V} {a b : UInt8} {r : Bool} (hc : VR ρ c (byteVal a)) (hd : VR ρ d (byteVal b)) (h : cmpV A c d = some r) : r = (a == b) := by
  have tab : Option.rec (motive := fun _ => Option Bool) none asBo (A.bin .eql c d) = some r → r = (a == b) := fun h => by
    cases e : A.bin .eql c d with
    | none => rw [e] at h; cases h
    | some v =>
      rw [e] at h
      have := asBo_some h
      subst this
      obtain ⟨y, k1, k2⟩ := hA.bin ρ hr .eql c d _ e default 0 (.const .nilIface) (.const .nilIface) default _ _ hc hd
      rw [eql_byte] at k1
      injection k1 with k1
      subst k1
      have := k2.b
      exact (Value.bool.inj this).symm
  unfold cmpV at h
  cases hcv : vY c with
  | no =>
    rw [hcv] at h
    have h : cond (cmpV.veqA c d) (some true) (Option.rec (motive := fun _ => Option Bool) none asBo (A.bin .eql c d)) = some r := h
    cases e : cmpV.veqA c d with
    | false => rw [e, cond_false] at h; exact tab h
    | true =>
      rw [e, cond_true] at h
      injection h with h; subst h
      have hcd := veqA_eq e
      subst hcd
      obtain ⟨k, i, rfl, -⟩ := asA_true e
      obtain ⟨q, h1, h2⟩ := hc.a
      obtain ⟨q', h1', h2'⟩ := hd.a
      rw [h1] at h1'; injection h1' with h1'; subst h1'
      rw [h2.byte h2']; simp
  | mk m =>
    rw [hcv] at h
    cases hdv : vY d with
    | no => rw [hdv] at h; exact tab h
    | mk n =>
      rw [hdv] at h
      have h : some (Nat.beq m n) = some r := h
      injection h with h; subst h
      have hcm : c = .y m := by cases c <;> first | (injection hcv with e; subst e; rfl) | cases hcv
      have hdn : d = .y n := by cases d <;> first | (injection hdv with e; subst e; rfl) | cases hdv
      subst hcm; subst hdn
      obtain ⟨hm, e1⟩ := hc.y
      obtain ⟨hn, e2⟩ := hd.y
      unfold byteVal at e1 e2
      injection e1 with _ e1
      injection e2 with _ e2
      have e1 : a.toNat = m := by omega
      have e2 : b.toNat = n := by omega
      by_cases hmn : m = n
      · rw [beq_yes hmn]
        have : a = b := UInt8.toNat_inj.1 (by omega)
        subst this; simp
      · rw [beq_no hmn]
        symm
        rw [beq_eq_false_iff_ne]
        intro e; subst e; omega
/-- Whether two texts are the same. -/
noncomputable def eqW0 (A : ATab) (cs : List V) : List V → Option Bool :=
  List.rec (motive := fun _ => List V → Option Bool) (fun ds => List.rec (motive := fun _ => Option Bool) (some true) (fun _ _ _ => some false) ds)
    (fun c _ ih ds => List.rec (motive := fun _ => Option Bool) (some false) (fun d ds _ => Option.rec (motive := fun _ => Option Bool) (Option.rec (motive := fun _ => Option Bool) none (fun r => cond r none (some false)) (ih ds)) (fun e => cond e (ih ds) (some false)) (cmpV A c d)) ds) cs
theorem eqW0_len (A : ATab) : ∀ (cs ds : List V), cs.length ≠ ds.length → ∀ r, eqW0 A cs ds = some r → r = false
  | [], [], h, _, _ => absurd rfl h
  | [], _ :: _, _, r, h => by have h : some false = some r := h; injection h with h; exact h.symm
  | _ :: _, [], _, r, h => by have h : some false = some r := h; injection h with h; exact h.symm
  | c :: cs, d :: ds, hl, r, h => by
    have ih := eqW0_len A cs ds (by simpa using hl)
    have h : Option.rec (motive := fun _ => Option Bool) (Option.rec (motive := fun _ => Option Bool) none (fun r => cond r none (some false)) (eqW0 A cs ds)) (fun e => cond e (eqW0 A cs ds) (some false)) (cmpV A c d) = some r := h
    cases e : cmpV A c d with
    | none =>
      rw [e] at h
      cases e2 : eqW0 A cs ds with
      | none => rw [e2] at h; cases h
      | some r2 =>
        rw [e2] at h
        cases r2 with
        | true => cases h
        | false => have h : some false = some r := h; injection h with h; exact h.symm
    | some b =>
      rw [e] at h
      cases b with
      | true => exact ih r h
      | false => have h : some false = some r := h; injection h with h; exact h.symm
theorem eqW0_snd {A : ATab} (hA : A.OK) (hr : ValR A.val ρ) : ∀ {cs ds : List V} {a b : List UInt8} {r : Bool}, VRs ρ cs (a.map byteVal) → VRs ρ ds (b.map byteVal) → eqW0 A cs ds = some r → r = (a == b)
  | [], [], [], [], r, _, _, h => by have h : some true = some r := h; injection h with h; subst h; simp
  | [], [], [], _ :: _, _, _, h, _ => by simp [VRs] at h
  | [], [], _ :: _, _, _, h, _, _ => by simp [VRs] at h
  | [], _ :: _, [], [], _, _, h, _ => by simp [VRs] at h
  | [], _ :: _, [], _ :: _, r, _, _, h => by have h : some false = some r := h; injection h with h; subst h; simp
  | [], _ :: _, _ :: _, _, _, h, _, _ => by simp [VRs] at h
  | _ :: _, _, [], _, _, h, _, _ => by simp [VRs] at h
  | _ :: _, [], _ :: _, [], r, _, _, h => by have h : some false = some r := h; injection h with h; subst h; simp
  | _ :: _, [], _ :: _, _ :: _, _, _, h, _ => by simp [VRs] at h
  | _ :: _, _ :: _, _ :: _, [], _, _, h, _ => by simp [VRs] at h
  | c :: cs, d :: ds, a :: as, b :: bs, r, h1, h2, h => by
    simp only [List.map_cons, VRs] at h1 h2
    have h : Option.rec (motive := fun _ => Option Bool) (Option.rec (motive := fun _ => Option Bool) none (fun r => cond r none (some false)) (eqW0 A cs ds)) (fun e => cond e (eqW0 A cs ds) (some false)) (cmpV A c d) = some r := h
    have ih : ∀ r, eqW0 A cs ds = some r → r = (as == bs) := fun r hh => eqW0_snd hA hr h1.2 h2.2 hh
    have e0 : (a :: as == b :: bs) = ((a == b) && (as == bs)) := rfl
    rw [e0]
    cases e : cmpV A c d with
    | none =>
      rw [e] at h
      cases e2 : eqW0 A cs ds with
      | none => rw [e2] at h; cases h
      | some r2 =>
        rw [e2] at h
        cases r2 with
        | true => cases h
        | false =>
          have h : some false = some r := h
          injection h with h; subst h
          rw [← ih false e2]; simp
    | some x =>
      rw [e] at h
      have hx := cmpV_snd hA hr h1.1 h2.1 e
      cases x with
      | true => rw [← hx, ← ih r h]; simp
      | false =>
        have h : some false = some r := h
        injection h with h; subst h
        rw [← hx]; simp
noncomputable def eqW (A : ATab) (x y : V) : Option Bool := Option.rec (motive := fun _ => Option Bool) none (fun a => Option.rec (motive := fun _ => Option Bool) none (fun b => eqW0 A a b) (wOf y)) (wOf x)
theorem eqW_snd {A : ATab} (hA : A.OK) (hr : ValR A.val ρ) {v v' : V} {x x' : Value} {r : Bool} (hv : VR ρ v x) (hv' : VR ρ v' x') (h : eqW A v v' = some r) : ∃ a b : List UInt8, x = .string ⟨a.toArray⟩ ∧ x' = .string ⟨b.toArray⟩ ∧ r = (a == b) := by
  unfold eqW at h
  cases ha : wOf v with
  | none => rw [ha] at h; cases h
  | some cs =>
    rw [ha] at h
    cases hb : wOf v' with
    | none => rw [hb] at h; cases h
    | some ds =>
      rw [hb] at h
      obtain ⟨a, rfl, h1⟩ := wOf_snd ha hv
      obtain ⟨b, rfl, h2⟩ := wOf_snd hb hv'
      exact ⟨a, b, rfl, rfl, eqW0_snd hA hr h1 h2 h⟩
theorem beq_str (a b : List UInt8) : (and (Nat.beq a.length b.length) (Nat.beq (enc a) (enc b))) = (a == b) := (list_eq_dec a b).symm
/-- A binary operation on texts. -/
noncomputable def binW (A : ATab) (op : BinOp) (x y : V) : Option V := match op with
  | .add => catW x y
  | .eql => Option.rec (motive := fun _ => Option V) none (fun r => some (.b r)) (eqW A x y)
  | .neq => Option.rec (motive := fun _ => Option V) none (fun r => some (.b (not r))) (eqW A x y)
  | _ => none
theorem binW_snd {P : Program} {A : ATab} (hA : A.OK) (hr : ValR A.val ρ) {op : BinOp} {t : TypeId} {ox oy : Operand} {v v' r : V} {x x' : Value} {w : World} (hv : VR ρ v x) (hv' : VR ρ v' x') (h : binW A op v v' = some r) : ∃ y, (cbin op t ox oy x x').run P w = .ok y w ∧ VR ρ r y := by
  unfold binW at h
  split at h
  · exact snd_catW P t ox oy ρ v v' x x' r w hv hv' h
  · cases e : eqW A v v' with
    | none => rw [e] at h; cases h
    | some c =>
      rw [e] at h
      have h : some (V.b c) = some r := h
      injection h with h; subst h
      obtain ⟨a, b, rfl, rfl, rfl⟩ := eqW_snd hA hr hv hv' e
      obtain ⟨y, k1, k2⟩ := snd_eqlS P t ox oy ρ _ _ _ _ _ w (VR_str a) (VR_str b) rfl
      exact ⟨y, k1, by rw [beq_str] at k2; exact k2⟩
  · cases e : eqW A v v' with
    | none => rw [e] at h; cases h
    | some c =>
      rw [e] at h
      have h : some (V.b (not c)) = some r := h
      injection h with h; subst h
      obtain ⟨a, b, rfl, rfl, rfl⟩ := eqW_snd hA hr hv hv' e
      obtain ⟨y, k1, k2⟩ := snd_neqS P t ox oy ρ _ _ _ _ _ w (VR_str a) (VR_str b) rfl
      exact ⟨y, k1, by rw [beq_str] at k2; exact k2⟩
  · cases h

/-! ### structs of numbers and texts, some of them atoms -/
noncomputable def isN0 (v : V) : Bool := W1.rec (motive := fun _ => Bool) (asA v false fun k _ => Nat.beq k 0) (fun _ => true) (vN v)
noncomputable def cmpN0 (A : ATab) (c d : V) : Option Bool := W1.rec (motive := fun _ => Option Bool) (cond (cmpV.veqA c d) (some true) (Option.rec (motive := fun _ => Option Bool) none asBo (A.bin .eql c d)))
  (fun m => W1.rec (motive := fun _ => Option Bool) (Option.rec (motive := fun _ => Option Bool) none asBo (A.bin .eql c d)) (fun n => some (Nat.beq m n)) (vN d)) (vN c)
noncomputable def cmpN (A : ATab) (c d : V) : Option Bool := cond (isN0 c) (cond (isN0 d) (cmpN0 A c d) none) none
theorem isN0_spec {v : V} {x : Value} (hv : VR ρ v x) (h : isN0 v = true) : ∃ m : Nat, m < 18446744073709551616 ∧ x = .int .i64 (IntKind.i64.wrap m) ∧ ((∃ id q, v = .a 0 id ∧ ρ id = some q ∧ q.n = m) ∨ v = .n m) := by
  cases v with
  | n m => obtain ⟨h1, rfl⟩ := hv.n; exact ⟨m, h1, rfl, .inr rfl⟩
  | a k i =>
    have h : Nat.beq k 0 = true := h
    have := Nat.eq_of_beq_eq_true h
    subst this
    obtain ⟨q, hq0, hq⟩ := hv.a
    unfold AtR at hq
    split at hq
    · obtain ⟨rfl, h1, rfl⟩ := hq; exact ⟨q.n, h1, rfl, .inl ⟨i, q, rfl, hq0, rfl⟩⟩
    · rename_i he; cases he
    · rename_i he; cases he
    · rename_i he; omega
    · exact hq.elim
  | _ => cases h
theorem eql_int (P : Program) (w : World) {m n : Nat} (hm : m < 18446744073709551616) (hn : n < 18446744073709551616) : (cbin .eql 0 (.const .nilIface) (.const .nilIface) (.int .i64 (IntKind.i64.wrap m)) (.int .i64 (IntKind.i64.wrap n))).run P w = .ok (.bool (Nat.beq m n)) w := by
  unfold cbin
  rw [Sem.run_bind, eqGuard_int, Result.andThen_ok]
  show (pure (Value.bool (IntKind.i64.wrap (m : Int) == IntKind.i64.wrap (n : Int))) : Sem Value).run P w = _
  have e : (IntKind.i64.wrap (m : Int) == IntKind.i64.wrap (n : Int)) = Nat.beq m n := by
    by_cases h : m = n
    · subst h; rw [beq_yes rfl]; simp
    · rw [beq_no h, beq_eq_false_iff_ne]; exact fun e => h (wrap_inj hm hn e)
  rw [e]; rfl
theorem cmpN_snd {A : ATab} (hA : A.OK) (hr : ValR A.val ρ) {c d : V} {x y : Value} {r : Bool} (hc : VR ρ c x) (hd : VR ρ d y) (h : cmpN A c d = some r) : ∃ m n : Nat, m < 18446744073709551616 ∧ n < 18446744073709551616 ∧ x = .int .i64 (IntKind.i64.wrap m) ∧ y = .int .i64 (IntKind.i64.wrap n) ∧ r = Nat.beq m n := by
  obtain ⟨g1, h⟩ := cond_some h
  obtain ⟨g2, h⟩ := cond_some h
  obtain ⟨m, hm, rfl, hcm⟩ := isN0_spec hc g1
  obtain ⟨n, hn, rfl, hdn⟩ := isN0_spec hd g2
  refine ⟨m, n, hm, hn, rfl, rfl, ?_⟩
  have tab : Option.rec (motive := fun _ => Option Bool) none asBo (A.bin .eql c d) = some r → r = Nat.beq m n := fun h => by
    cases e : A.bin .eql c d with
    | none => rw [e] at h; cases h
    | some v =>
      rw [e] at h
      have := asBo_some h
      subst this
      obtain ⟨y, k1, k2⟩ := hA.bin ρ hr .eql c d _ e default 0 (.const .nilIface) (.const .nilIface) default _ _ hc hd
      rw [eql_int _ _ hm hn] at k1
      injection k1 with k1
      subst k1
      exact (Value.bool.inj k2.b).symm
  rcases hcm with ⟨id, q, rfl, hq, hqm⟩ | rfl
  · have h : cond (cmpV.veqA (.a 0 id) d) (some true) (Option.rec (motive := fun _ => Option Bool) none asBo (A.bin .eql (.a 0 id) d)) = some r := h
    cases e : cmpV.veqA (.a 0 id) d with
    | false => rw [e, cond_false] at h; exact tab h
    | true =>
      rw [e, cond_true] at h
      injection h with h; subst h
      have := veqA_eq e
      subst this
      rcases hdn with ⟨id2, q2, e2, hq2, hqn⟩ | e2
      · injection e2 with _ e2
        subst e2
        rw [hq] at hq2; injection hq2 with hq2; subst hq2
        rw [beq_yes (by omega)]
      · cases e2
  · rcases hdn with ⟨id2, q2, rfl, hq2, hqn⟩ | rfl
    · exact tab h
    · have h : some (Nat.beq m n) = some r := h
      injection h with h; exact h.symm
noncomputable def cmpF (a b : Option Bool) : Option Bool := Option.rec (motive := fun _ => Option Bool) none (fun e => cond e b (some false)) a
theorem cmpF_some {a b : Option Bool} {r : Bool} (h : cmpF a b = some r) : ∃ e, a = some e ∧ cond e b (some false) = some r := by
  cases a with
  | none => cases h
  | some e => exact ⟨e, rfl, h⟩
noncomputable def eqFA (A : ATab) (ps : List (Nat × Bool)) (xs ys : List V) : Option Bool :=
  List.rec (motive := fun _ => Option Bool) (some true) (fun p _ ih => Option.casesOn (nthO p.1 xs) none fun a => Option.casesOn (nthO p.1 ys) none fun b =>
    cmpF (Bool.rec (motive := fun _ => Option Bool) (cmpN A a b) (eqW A a b) p.2) ih) ps
theorem eqFA_cons (A : ATab) (p : Nat × Bool) (ps : List (Nat × Bool)) (xs ys : List V) : eqFA A (p :: ps) xs ys = Option.casesOn (nthO p.1 xs) none fun a => Option.casesOn (nthO p.1 ys) none fun b =>
    cmpF (Bool.rec (motive := fun _ => Option Bool) (cmpN A a b) (eqW A a b) p.2) (eqFA A ps xs ys) := rfl
theorem eqFA_snd {A : ATab} (hA : A.OK) (hr : ValR A.val ρ) (P : Program) (w : World) (d : Nat) : ∀ (fs : List Field) (ps : List (Nat × Bool)) (cs ds : List V) (xs ys : Array Value) (c : Bool), eplan (tiOf P) fs = some ps → VRs ρ cs xs.toList → VRs ρ ds ys.toList → eqFA A ps cs ds = some c →
    (Op.eqFields (d + 1) xs ys fs).run P w = .ok c w
  | [], ps, cs, ds, xs, ys, c, hp, hx, hy, hf => by
    simp only [eplan] at hp; injection hp with hp; subst hp
    have hf : some true = some c := hf
    injection hf with hf; subst hf
    simp [Op.eqFields]
  | f :: fs, ps, cs, ds, xs, ys, c, hp, hx, hy, hf => by
    simp only [eplan] at hp
    split at hp
    · simp at hp
    rename_i hname
    have step : ∀ (b : Bool) (ps' : List (Nat × Bool)), ps = (f.offset, b) :: ps' → ∃ a a' y y', nthO f.offset cs = some a ∧ nthO f.offset ds = some a' ∧ xs[f.offset]? = some y ∧ ys[f.offset]? = some y' ∧ VR ρ a y ∧ VR ρ a' y' ∧
        (cmpF (Bool.rec (motive := fun _ => Option Bool) (cmpN A a a') (eqW A a a') b) (eqFA A ps' cs ds) : Option Bool) = some c := by
      rintro b ps' rfl
      rw [eqFA_cons] at hf
      cases h1 : nthO f.offset cs with
      | none => simp only [h1] at hf; cases hf
      | some a =>
        cases h2 : nthO f.offset ds with
        | none => simp only [h1, h2] at hf; cases hf
        | some a' =>
          simp only [h1, h2] at hf
          rw [nthO_eq] at h1 h2
          obtain ⟨y, hy1, hy2⟩ := hx.get _ _ h1
          obtain ⟨y', hy1', hy2'⟩ := hy.get _ _ h2
          exact ⟨a, a', y, y', rfl, rfl, by simpa using hy1, by simpa using hy1', hy2, hy2', hf⟩
    split at hp
    · rename_i hu
      obtain ⟨ps', hp', e⟩ := Option.map_eq_some_iff.1 hp
      obtain ⟨a, a', y, y', -, -, hy1, hy1', hv, hv', hf0⟩ := step _ _ e.symm
      obtain ⟨e, he, h3⟩ := cmpF_some (show cmpF (cmpN A a a') (eqFA A ps' cs ds) = some c from hf0)
      clear hf0
      obtain ⟨m, n, hm, hn, rfl, rfl, rfl⟩ := cmpN_snd hA hr hv hv' he
      have hs : scal (tiOf P) f.type = true := by unfold scal; dsimp only [tiOf]; rw [hu]
      have hname' : f.name ≠ "_" := hname
      have r3 := run_equalIn_int (P := P) w d f.type .i64 .i64 (IntKind.i64.wrap m) (IntKind.i64.wrap n) hu
      by_cases hmn : m = n
      · rw [beq_yes hmn, cond_true] at h3
        have ih := eqFA_snd hA hr P w d fs ps' cs ds xs ys c hp' hx hy h3
        subst hmn
        simp [Op.eqFields, hname', run_part_scal P w hs xs _ _ hy1, run_part_scal P w hs ys _ _ hy1', r3, ih]
      · rw [beq_no hmn, cond_false] at h3
        injection h3 with h3; subst h3
        have hne : ¬ (IntKind.i64.wrap (m : Int) = IntKind.i64.wrap (n : Int)) := fun h => hmn (wrap_inj hm hn h)
        simp [Op.eqFields, hname', run_part_scal P w hs xs _ _ hy1, run_part_scal P w hs ys _ _ hy1', r3, hne]
    · rename_i hu
      obtain ⟨ps', hp', e⟩ := Option.map_eq_some_iff.1 hp
      obtain ⟨a, a', y, y', -, -, hy1, hy1', hv, hv', hf0⟩ := step _ _ e.symm
      obtain ⟨e, he, h3⟩ := cmpF_some (show cmpF (eqW A a a') (eqFA A ps' cs ds) = some c from hf0)
      clear hf0
      obtain ⟨la, lb, rfl, rfl, hab⟩ := eqW_snd hA hr hv hv' he
      have hs : scal (tiOf P) f.type = true := by unfold scal; dsimp only [tiOf]; rw [hu]
      have hname' : f.name ≠ "_" := hname
      have r3 := run_equalIn_string (P := P) w d f.type ⟨la.toArray⟩ ⟨lb.toArray⟩ hu
      have e2 : (ByteArray.toList ⟨la.toArray⟩ == ByteArray.toList ⟨lb.toArray⟩) = e := by
        rw [ByteArray.toList_eq, ByteArray.toList_eq, hab]
      rw [e2] at r3
      cases hc : e with
      | true =>
        rw [hc, cond_true] at h3
        rw [hc] at r3
        have ih := eqFA_snd hA hr P w d fs ps' cs ds xs ys c hp' hx hy h3
        simp [Op.eqFields, hname', run_part_scal P w hs xs _ _ hy1, run_part_scal P w hs ys _ _ hy1', r3, ih]
      | false =>
        rw [hc, cond_false] at h3
        rw [hc] at r3
        injection h3 with h3; subst h3
        simp [Op.eqFields, hname', run_part_scal P w hs xs _ _ hy1, run_part_scal P w hs ys _ _ hy1', r3]
    · simp at hp

theorem run_structs (P : Program) {t : TypeId} (op : BinOp) (hop : op = .eql ∨ op = .neq) (w : World) (ox oy : Operand) (xs ys : Array Value) {c : Bool} (ht : P.underlying t = some (.struct (P.fieldsOf t))) (hst : P.stoodInHeld t = false) (hg : P.eqGuardType P.depth t = false)
    (h : (Op.eqFields 9999 xs ys (P.fieldsOf t).toList).run P w = .ok c w) : (cbin op t ox oy (.agg xs) (.agg ys)).run P w = .ok (.bool (match op with | .eql => c | _ => !c)) w := by
  unfold cbin
  rcases hop with rfl | rfl
  · rw [Sem.run_bind, run_eqGuard_agg w _ _ _ _ _ _ hg, Result.andThen_ok, run_eql_struct, run_equalIn_struct w 9999 t xs ys ht hst, h]
    rfl
  · rw [Sem.run_bind, run_eqGuard_agg w _ _ _ _ _ _ hg, Result.andThen_ok, run_neq_struct, run_equalIn_struct w 9999 t xs ys ht hst, h]
    rfl
noncomputable def eqGA (A : ATab) (ps : List (Nat × Bool)) (op : BinOp) (x y : V) : Option V := match op with
  | .eql => asG x none fun xs => asG y none fun ys => Option.casesOn (eqFA A ps xs ys) none fun c => some (.b c)
  | .neq => asG x none fun xs => asG y none fun ys => Option.casesOn (eqFA A ps xs ys) none fun c => some (.b (not c))
  | _ => none

theorem eqGA_snd {A : ATab} (hA : A.OK) (hr : ValR A.val ρ) (P : Program) {t : TypeId} {ps : List (Nat × Bool)} {ox oy : Operand} (ht : P.underlying t = some (.struct (P.fieldsOf t))) (hst : P.stoodInHeld t = false) (hg : P.eqGuardType P.depth t = false) (hp : eplan (tiOf P) (P.fieldsOf t).toList = some ps)
    {op : BinOp} {v v' r : V} {x x' : Value} {w : World} (hv : VR ρ v x) (hv' : VR ρ v' x') (h : eqGA A ps op v v' = some r) : ∃ y, (cbin op t ox oy x x').run P w = .ok y w ∧ VR ρ r y := by
  have main : ∀ {k : Bool → V}, (asG v none fun xs => asG v' none fun ys => Option.casesOn (eqFA A ps xs ys) none fun c => some (k c)) = some r → ∃ xs ys c, x = .agg xs ∧ x' = .agg ys ∧ r = k c ∧ (Op.eqFields 9999 xs ys (P.fieldsOf t).toList).run P w = .ok c w := by
    intro k h
    obtain ⟨cs, ea, h1⟩ := asG_some h
    obtain ⟨ds, eb, h2⟩ := asG_some h1
    subst ea; subst eb
    obtain ⟨xs, rfl, hx⟩ := hv.g
    obtain ⟨ys, rfl, hy⟩ := hv'.g
    cases hc : eqFA A ps cs ds with
    | none => simp only [hc] at h2; cases h2
    | some c =>
      simp only [hc] at h2
      injection h2 with h2; subst h2
      exact ⟨xs, ys, c, rfl, rfl, rfl, eqFA_snd hA hr P w 9998 _ _ _ _ _ _ _ hp hx hy hc⟩
  unfold eqGA at h
  split at h
  · obtain ⟨xs, ys, c, rfl, rfl, rfl, h1⟩ := main (k := fun c => .b c) h
    exact ⟨_, run_structs P .eql (.inl rfl) w ox oy xs ys ht hst hg h1, VR_b rfl⟩
  · obtain ⟨xs, ys, c, rfl, rfl, rfl, h1⟩ := main (k := fun c => .b (not c)) h
    exact ⟨_, run_structs P .neq (.inr rfl) w ox oy xs ys ht hst hg h1, VR_b rfl⟩
  · cases h

/-! ### length, a byte, cuts -/
noncomputable def lenW (x : V) : Option V := asW x none fun cs => cond (Nat.ble (llen cs) 1048576) (some (.n (llen cs))) none
theorem snd_lenW (P : Program) {t ty : TypeId} (ht : P.underlying t = some .string) : Snd1 P lenW (fun x => Builtin.len_ #[t] ty #[x]) := by
  intro ρ v x r w hv hf
  obtain ⟨cs, rfl, h1⟩ := asW_some hf
  obtain ⟨g, h2⟩ := cond_some h1
  have g : llen cs ≤ 1048576 := Nat.le_of_ble_eq_true g
  injection h2 with h2; subst h2
  obtain ⟨l, rfl, h3⟩ := wOf_snd (v := .w cs) (cs := cs) rfl hv
  rw [h3.llen] at g ⊢
  exact snd_lenS P ht ρ _ _ _ w (VR_str l) (by
    show cond (Nat.ble l.length 1099511627776) (some (V.n l.length)) none = _
    rw [show Nat.ble l.length 1099511627776 = true from Nat.ble_eq_true_of_le (by omega)]; rfl)
noncomputable def idxW (x i : V) : Option V := asW x none fun cs => asN i none fun k => cond (Nat.ble (llen cs) 1048576) (cond (Nat.ble (Nat.succ k) (llen cs)) (some (nth k cs)) none) none
theorem snd_idxW (P : Program) {t : TypeId} (ht : P.underlying t = some .string) : Snd2 P idxW (Instr.index t) := by
  intro ρ v v' x x' r w hv hv' hf
  obtain ⟨cs, rfl, h1⟩ := asW_some hf
  obtain ⟨k, rfl, h2⟩ := asN_some h1
  obtain ⟨g, h3⟩ := cond_some h2
  obtain ⟨g2, h4⟩ := cond_some h3
  have g : llen cs ≤ 1048576 := Nat.le_of_ble_eq_true g
  have g2 : k + 1 ≤ llen cs := Nat.le_of_ble_eq_true g2
  injection h4 with h4; subst h4
  obtain ⟨l, rfl, h5⟩ := wOf_snd (v := .w cs) (cs := cs) rfl hv
  have hl := h5.llen
  rw [hl] at g g2
  obtain ⟨b, hb1, hb2⟩ := enc_get l k (by omega)
  obtain ⟨y, k1, k2⟩ := snd_idxS P ht ρ (.s l.length (enc l)) (.n k) _ _ (.y b.toNat) w (VR_str l) hv' (by
    show cond (Nat.ble l.length 1099511627776) (cond (Nat.ble (Nat.succ k) l.length) (some (V.y (Nat.mod (Nat.div (enc l) (Nat.pow 256 k)) 256))) none) none = _
    rw [show Nat.ble l.length 1099511627776 = true from Nat.ble_eq_true_of_le (by omega), show Nat.ble (Nat.succ k) l.length = true from Nat.ble_eq_true_of_le g2, ← hb2]; rfl)
  refine ⟨y, k1, ?_⟩
  obtain ⟨-, rfl⟩ := k2.y
  rw [nth_eq]
  have hk : k < cs.length := by rw [← llen_eq, hl]; omega
  obtain ⟨z, hz1, hz2⟩ := h5.get k cs[k] (List.getElem?_eq_getElem hk)
  rw [List.getElem?_map, hb1] at hz1
  injection hz1 with hz1
  subst hz1
  rw [List.getElem?_eq_getElem hk]
  exact hz2
noncomputable def cutW (cs : List V) (a b : Nat) : Option V := cond (Nat.ble (llen cs) 1048576) (cond (Nat.ble a b) (cond (Nat.ble b (llen cs)) (some (mkW (takeL (Nat.sub b a) (dropL a cs)))) none) none) none
theorem cutW_some {cs : List V} {l : List UInt8} {a b : Nat} {r : V} (hv : VRs ρ cs (l.map byteVal)) (h : cutW cs a b = some r) : cutB l.length (enc l) a b = some (.s ((l.drop a).take (b - a)).length (enc ((l.drop a).take (b - a)))) ∧ VR ρ r (.string ⟨((l.drop a).take (b - a)).toArray⟩) := by
  obtain ⟨g1, h⟩ := cond_some h
  obtain ⟨g2, h⟩ := cond_some h
  obtain ⟨g3, h⟩ := cond_some h
  injection h with h; subst h
  have g1 := Nat.le_of_ble_eq_true g1
  have g2 := Nat.le_of_ble_eq_true g2
  have g3 := Nat.le_of_ble_eq_true g3
  rw [hv.llen] at g1 g3
  constructor
  · unfold cutB
    rw [show Nat.ble l.length 1099511627776 = true from Nat.ble_eq_true_of_le (by omega), show Nat.ble a b = true from Nat.ble_eq_true_of_le g2, show Nat.ble b l.length = true from Nat.ble_eq_true_of_le g3, cond_true, cond_true, cond_true, enc_take, enc_drop, List.length_take, List.length_drop]
    rw [show min (b - a) (l.length - a) = b - a by omega]
    rfl
  · refine mkW_snd ?_
    rw [List.map_take, List.map_drop]
    exact (hv.drop' a).take' _
noncomputable def slW (x lo hi : V) : Option V := asW x none fun cs => asN lo none fun a => asN hi none fun b => cutW cs a b
noncomputable def slW1 (x lo : V) : Option V := asW x none fun cs => asN lo none fun a => cutW cs a (llen cs)
noncomputable def slW2 (x hi : V) : Option V := asW x none fun cs => asN hi none fun b => cutW cs 0 b
theorem snd_slW (P : Program) {t : TypeId} (ht : P.underlying t = some .string) {v v1 v2 : V} {x x1 x2 : Value} {r : V} {w : World} (hv : VR ρ v x) (hv1 : VR ρ v1 x1) (hv2 : VR ρ v2 x2) (hf : slW v v1 v2 = some r) : ∃ y, (Instr.sliceAt t x (some x1) (some x2) none).run P w = .ok y w ∧ VR ρ r y := by
  obtain ⟨cs, rfl, h1⟩ := asW_some hf
  obtain ⟨a, rfl, h2⟩ := asN_some h1
  obtain ⟨b, rfl, h3⟩ := asN_some h2
  obtain ⟨l, rfl, h5⟩ := wOf_snd (v := .w cs) (cs := cs) rfl hv
  obtain ⟨k1, k2⟩ := cutW_some h5 h3
  obtain ⟨y, k3, k4⟩ := snd_slS P ht ρ (.s l.length (enc l)) (.n a) (.n b) _ _ _ _ w (VR_str l) hv1 hv2 k1
  rw [k4.str] at k3
  exact ⟨_, k3, k2⟩
theorem snd_slW1 (P : Program) {t : TypeId} (ht : P.underlying t = some .string) {v v1 : V} {x x1 : Value} {r : V} {w : World} (hv : VR ρ v x) (hv1 : VR ρ v1 x1) (hf : slW1 v v1 = some r) : ∃ y, (Instr.sliceAt t x (some x1) none none).run P w = .ok y w ∧ VR ρ r y := by
  obtain ⟨cs, rfl, h1⟩ := asW_some hf
  obtain ⟨a, rfl, h3⟩ := asN_some h1
  obtain ⟨l, rfl, h5⟩ := wOf_snd (v := .w cs) (cs := cs) rfl hv
  rw [h5.llen] at h3
  obtain ⟨k1, k2⟩ := cutW_some h5 h3
  obtain ⟨y, k3, k4⟩ := snd_slS1 P ht ρ (.s l.length (enc l)) (.n a) _ _ _ w (VR_str l) hv1 k1
  rw [k4.str] at k3
  exact ⟨_, k3, k2⟩
theorem snd_slW2 (P : Program) {t : TypeId} (ht : P.underlying t = some .string) {v v2 : V} {x x2 : Value} {r : V} {w : World} (hv : VR ρ v x) (hv2 : VR ρ v2 x2) (hf : slW2 v v2 = some r) : ∃ y, (Instr.sliceAt t x none (some x2) none).run P w = .ok y w ∧ VR ρ r y := by
  obtain ⟨cs, rfl, h1⟩ := asW_some hf
  obtain ⟨b, rfl, h3⟩ := asN_some h1
  obtain ⟨l, rfl, h5⟩ := wOf_snd (v := .w cs) (cs := cs) rfl hv
  obtain ⟨k1, k2⟩ := cutW_some h5 h3
  obtain ⟨y, k3, k4⟩ := snd_slS2 P ht ρ (.s l.length (enc l)) (.n b) _ _ _ w (VR_str l) hv2 k1
  rw [k4.str] at k3
  exact ⟨_, k3, k2⟩

/-! ### bytes counted and found -/
noncomputable def cntW0 (A : ATab) (c : V) (cs : List V) : Option Nat := List.rec (motive := fun _ => Option Nat) (some 0) (fun d _ ih => Option.rec (motive := fun _ => Option Nat) none (fun e => Option.rec (motive := fun _ => Option Nat) none (fun n => some (cond e (Nat.succ n) n)) ih) (cmpV A d c)) cs
theorem cntW0_snd {A : ATab} (hA : A.OK) (hr : ValR A.val ρ) {c : V} {b : UInt8} (hc : VR ρ c (byteVal b)) : ∀ {cs : List V} {l : List UInt8} {n : Nat}, VRs ρ cs (l.map byteVal) → cntW0 A c cs = some n → n = Lib.countByte l b
  | [], [], n, _, h => by have h : some 0 = some n := h; injection h with h; subst h; rfl
  | [], _ :: _, _, h, _ => by simp [VRs] at h
  | _ :: _, [], _, h, _ => by simp [VRs] at h
  | d :: cs, a :: l, n, h1, h => by
    simp only [List.map_cons, VRs] at h1
    have h : Option.rec (motive := fun _ => Option Nat) none (fun e => Option.rec (motive := fun _ => Option Nat) none (fun n => some (cond e (Nat.succ n) n)) (cntW0 A c cs)) (cmpV A d c) = some n := h
    cases e : cmpV A d c with
    | none => rw [e] at h; cases h
    | some x =>
      rw [e] at h
      have hx := cmpV_snd hA hr h1.1 hc e
      cases e2 : cntW0 A c cs with
      | none => rw [e2] at h; cases h
      | some k =>
        rw [e2] at h
        have h : some (cond x (Nat.succ k) k) = some n := h
        injection h with h; subst h
        have ih := cntW0_snd hA hr hc h1.2 e2
        unfold Lib.countByte at ih ⊢
        rw [List.count_cons, ← ih, ← hx]
        cases x <;> simp
noncomputable def cntW (A : ATab) (x y : V) : Option V := asW x none fun cs => asY y none fun c => cond (Nat.ble (llen cs) 1048576) (Option.rec (motive := fun _ => Option V) none (fun n => some (.n n)) (cntW0 A (.y c) cs)) none
theorem snd_cntW {P : Program} {A : ATab} (hA : A.OK) (hr : ValR A.val ρ) {v v' r : V} {x x' : Value} {w : World} (hv : VR ρ v x) (hv' : VR ρ v' x') (h : cntW A v v' = some r) : ∃ y, (Extern.BytealgCount.count #[x, x']).run P w = .ok y w ∧ VR ρ r y := by
  obtain ⟨cs, rfl, h1⟩ := asW_some h
  obtain ⟨c, rfl, h2⟩ := asY_some h1
  obtain ⟨g, h3⟩ := cond_some h2
  have g : llen cs ≤ 1048576 := Nat.le_of_ble_eq_true g
  obtain ⟨l, rfl, h5⟩ := wOf_snd (v := .w cs) (cs := cs) rfl hv
  rw [h5.llen] at g
  obtain ⟨hc, rfl⟩ := hv'.y
  have hb : (c.toUInt8).toNat = c := by simp; omega
  cases e : cntW0 A (.y c) cs with
  | none => rw [e] at h3; cases h3
  | some n =>
    rw [e] at h3
    have h3 : some (V.n n) = some r := h3
    injection h3 with h3; subst h3
    have hn := cntW0_snd hA hr (c := .y c) (b := c.toUInt8) (by unfold byteVal; rw [hb]; exact VR_y hc) h5 e
    obtain ⟨y, k1, k2⟩ := snd_cntS P ρ (.s l.length (enc l)) (.y c) _ _ (.n (cntB c l.length (enc l))) w (VR_str l) (VR_y hc) (by
      show cond (Nat.ble l.length 1099511627776) _ none = _
      rw [show Nat.ble l.length 1099511627776 = true from Nat.ble_eq_true_of_le (by omega)]; rfl)
    refine ⟨y, k1, ?_⟩
    rw [hn, ← cntB_spec c hc]; exact k2
noncomputable def ixbW0 (A : ATab) (c : V) (cs : List V) : Nat → Option V := List.rec (motive := fun _ => Nat → Option V) (fun _ => some (.n 18446744073709551615)) (fun d _ ih k => Option.rec (motive := fun _ => Option V) none (fun e => cond e (some (.n k)) (ih (Nat.succ k))) (cmpV A d c)) cs
theorem ixbW0_snd {A : ATab} (hA : A.OK) (hr : ValR A.val ρ) {c : Nat} (hc : c < 256) : ∀ {cs : List V} {l : List UInt8} {k : Nat} {r : V}, VRs ρ cs (l.map byteVal) → ixbW0 A (.y c) cs k = some r → r = idxB c l.length (enc l) k
  | [], [], k, r, _, h => by have h : some (V.n 18446744073709551615) = some r := h; injection h with h; subst h; rfl
  | [], _ :: _, _, _, h, _ => by simp [VRs] at h
  | _ :: _, [], _, _, h, _ => by simp [VRs] at h
  | d :: cs, a :: l, k, r, h1, h => by
    simp only [List.map_cons, VRs] at h1
    have h : Option.rec (motive := fun _ => Option V) none (fun e => cond e (some (.n k)) (ixbW0 A (.y c) cs (Nat.succ k))) (cmpV A d (.y c)) = some r := h
    have hb : (c.toUInt8).toNat = c := by simp; omega
    rw [List.length_cons]
    show r = cond (Nat.beq (Nat.mod (enc (a :: l)) 256) c) (.n k) (idxB c l.length (Nat.div (enc (a :: l)) 256) (Nat.succ k))
    rw [enc_mod, enc_div, beq_byte a c hc]
    cases e : cmpV A d (.y c) with
    | none => rw [e] at h; cases h
    | some x =>
      rw [e] at h
      have hx := cmpV_snd hA hr h1.1 (b := c.toUInt8) (by unfold byteVal; rw [hb]; exact VR_y hc) e
      rw [← hx]
      cases x with
      | true => have h : some (V.n k) = some r := h; injection h with h; exact h.symm
      | false => exact ixbW0_snd hA hr hc h1.2 h
noncomputable def ixbW (A : ATab) (x y : V) : Option V := asW x none fun cs => asY y none fun c => cond (Nat.ble (llen cs) 1048576) (ixbW0 A (.y c) cs 0) none
theorem snd_ixbW {P : Program} {A : ATab} (hA : A.OK) (hr : ValR A.val ρ) {v v' r : V} {x x' : Value} {w : World} (hv : VR ρ v x) (hv' : VR ρ v' x') (h : ixbW A v v' = some r) : ∃ y, (Extern.BytealgIndexByte.indexByte #[x, x']).run P w = .ok y w ∧ VR ρ r y := by
  obtain ⟨cs, rfl, h1⟩ := asW_some h
  obtain ⟨c, rfl, h2⟩ := asY_some h1
  obtain ⟨g, h3⟩ := cond_some h2
  have g : llen cs ≤ 1048576 := Nat.le_of_ble_eq_true g
  obtain ⟨l, rfl, h5⟩ := wOf_snd (v := .w cs) (cs := cs) rfl hv
  rw [h5.llen] at g
  obtain ⟨hc, rfl⟩ := hv'.y
  have := ixbW0_snd hA hr hc h5 h3
  subst this
  exact snd_ixbS P ρ (.s l.length (enc l)) (.y c) _ _ _ w (VR_str l) (VR_y hc) (by
    show cond (Nat.ble l.length 1099511627776) _ none = _
    rw [show Nat.ble l.length 1099511627776 = true from Nat.ble_eq_true_of_le (by omega)]; rfl)

end Go.Proofs.YtmbnogellhoheaaGreatDoor.Ev

/- One operation compiled. -/
namespace Go.Proofs.YtmbnogellhoheaaGreatDoor.Ev
open Go
variable {ρ : Rho}

noncomputable def x1 (G : Ctx) (E : Env) (n : Nat) (x : Operand) (k : X → OC) : Option OC := (opX G E n x).map k
noncomputable def x2 (G : Ctx) (E : Env) (n : Nat) (x y : Operand) (k : X → X → OC) : Option OC :=
  match opX G E n x with
  | some f => (opX G E n y).map (k f)
  | none => none
noncomputable def x3 (G : Ctx) (E : Env) (n : Nat) (x y z : Operand) (k : X → X → X → OC) : Option OC :=
  match opX G E n x with
  | some f => x2 G E n y z (k f)
  | none => none
theorem x1_some {G : Ctx} {E : Env} {n : Nat} {x : Operand} {k : X → OC} {c : OC} (h : x1 G E n x k = some c) : ∃ f, opX G E n x = some f ∧ c = k f := by
  obtain ⟨f, h1, h2⟩ := Option.map_eq_some_iff.1 h; exact ⟨f, h1, h2.symm⟩
theorem x2_some {G : Ctx} {E : Env} {n : Nat} {x y : Operand} {k : X → X → OC} {c : OC} (h : x2 G E n x y k = some c) : ∃ f g, opX G E n x = some f ∧ opX G E n y = some g ∧ c = k f g := by
  unfold x2 at h
  split at h
  · rename_i f hf
    obtain ⟨g, h1, h2⟩ := Option.map_eq_some_iff.1 h
    exact ⟨f, g, hf, h1, h2.symm⟩
  · cases h
theorem x3_some {G : Ctx} {E : Env} {n : Nat} {x y z : Operand} {k : X → X → X → OC} {c : OC} (h : x3 G E n x y z k = some c) : ∃ f g e, opX G E n x = some f ∧ opX G E n y = some g ∧ opX G E n z = some e ∧ c = k f g e := by
  unfold x3 at h
  split at h
  · rename_i f hf
    obtain ⟨g, e, h1, h2, h3⟩ := x2_some h
    exact ⟨f, g, e, hf, h1, h2, h3⟩
  · cases h
noncomputable def xo (G : Ctx) (E : Env) (n : Nat) : Option Operand → Option (Option X)
  | none => some none
  | some x => (opX G E n x).map some
noncomputable def evo (f : Option X) (L : List V) (T : TS) : Option V := Option.casesOn f none fun f => some (f L T)
theorem xo_snd {G : Ctx} {E : Env} {n : Nat} {L : List V} {T : TS} {a : Act} {x : Option Operand} {f : Option X} (hn : L.length = n) (he : ER G ρ E L T a) (h : xo G E n x = some f) : optR ρ (evo f L T) (x.map a.eval) := by
  cases x with
  | none => injection h with h; subst h; trivial
  | some x =>
    obtain ⟨g, h1, rfl⟩ := Option.map_eq_some_iff.1 h
    exact opX_snd hn he h1

noncomputable def rcA (r : Option AR) : RC := Option.casesOn r .fail fun q => AR.casesOn q fun v nx bs => .mk v nx bs
noncomputable def callV (F : CallF) (f : V) (as : List V) (nx : Pos) (bs : TB) : RC := asF f .fail .fail fun fid cs => F fid (catL as cs) nx bs
theorem callV_some {F : CallF} {f v : V} {as : List V} {nx nx' : Pos} {bs bs' : TB} (h : callV F f as nx bs = .mk v nx' bs') : ∃ fid cs, f = .f fid cs ∧ F fid (as ++ cs) nx bs = .mk v nx' bs' := by
  cases f <;> first | (rename_i fid cs; refine ⟨fid, cs, rfl, ?_⟩; rw [← catL_eq]; exact h) | (have h : RC.fail = .mk v nx' bs' := h; cases h)

theorem rcA_some {r : Option AR} {v : V} {nx : Pos} {bs : TB} (h : rcA r = .mk v nx bs) : r = some (.mk v nx bs) := by
  cases r with
  | none => cases h
  | some q => cases q; injection h with e1 e2 e3; subst e1; subst e2; subst e3; rfl
section
variable {P : Program} {G : Ctx} {E : Env} {n : Nat} {o : Oper} {c : OC}
noncomputable def un1 (Y : TI) (G : Ctx) (E : Env) (n : Nat) (o : Op) : Option OC := match unG Y o with
  | some (x, g) => x1 G E n x fun f => .pu fun L T => g (f L T)
  | none => none
theorem un1_snd (h : un1 (tiOf P) G E n o.op = some c) : OCS P G E n o c := by
  unfold un1 at h
  split at h
  case h_2 => cases h
  rename_i x g hg
  obtain ⟨f, h1, rfl⟩ := x1_some h
  intro ρ L T a v w hn he hf
  obtain ⟨y, k1, k2⟩ := unG_snd P hg ρ a w (opX_snd hn he h1) hf
  exact ⟨y, .inl k1, k2⟩
noncomputable def tw1 (Y : TI) (G : Ctx) (E : Env) (n : Nat) (o : Op) : Option OC := match twG Y o with
  | some (x, y, g) => x2 G E n x y fun f e => .pu fun L T => g (f L T) (e L T)
  | none => none
theorem tw1_snd (h : tw1 (tiOf P) G E n o.op = some c) : OCS P G E n o c := by
  unfold tw1 at h
  split at h
  case h_2 => cases h
  rename_i x y g hg
  obtain ⟨f, e, h1, h2, rfl⟩ := x2_some h
  intro ρ L T a v w hn he hf
  obtain ⟨z, k1, k2⟩ := twG_snd P hg ρ a w (opX_snd hn he h1) (opX_snd hn he h2) hf
  exact ⟨z, .inl k1, k2⟩
noncomputable def rd1 (Y : TI) (G : Ctx) (E : Env) (n : Nat) (o : Op) : Option OC := match rdG Y o with
  | some (x, g) => x1 G E n x fun f => .ld fun L T bs => g bs (f L T)
  | none => none
theorem rd1_snd (h : rd1 (tiOf P) G E n o.op = some c) : OCS P G E n o c := by
  unfold rd1 at h
  split at h
  case h_2 => cases h
  rename_i x g hg
  obtain ⟨f, h1, rfl⟩ := x1_some h
  intro ρ L T a nx bs v w hn he hh hf
  obtain ⟨y, k1, k2⟩ := rdG_snd P hg ρ a hh (opX_snd hn he h1) hf
  exact ⟨y, .inl k1, k2⟩
noncomputable def cs1 (Y : TI) (G : Ctx) (E : Env) (n : Nat) (o : Op) : Option OC := match csG Y o with
  | some (x, .both lo hi g) => x3 G E n x lo hi fun f e d => .pu fun L T => g (f L T) (e L T) (d L T)
  | some (x, .one b g) => x2 G E n x b fun f e => .pu fun L T => g (f L T) (e L T)
  | none => none
theorem cs1_snd (h : cs1 (tiOf P) G E n o.op = some c) : OCS P G E n o c := by
  unfold cs1 at h
  split at h
  · rename_i x lo hi g hg
    obtain ⟨f, e, d, h1, h2, h3, rfl⟩ := x3_some h
    intro ρ L T a v w hn he hf
    obtain ⟨y, k1, k2⟩ := csG_snd P hg ρ a w (opX_snd hn he h1) (r := v) ⟨_, _, opX_snd hn he h2, opX_snd hn he h3, hf⟩
    exact ⟨y, .inl k1, k2⟩
  · rename_i x b g hg
    obtain ⟨f, e, h1, h2, rfl⟩ := x2_some h
    intro ρ L T a v w hn he hf
    obtain ⟨y, k1, k2⟩ := csG_snd P hg ρ a w (opX_snd hn he h1) (r := v) ⟨_, opX_snd hn he h2, hf⟩
    exact ⟨y, .inl k1, k2⟩
  · cases h
noncomputable def nw1 (Y : TI) (G : Ctx) (E : Env) (n : Nat) (o : Op) : Option OC := match nwG Y o with
  | some (.c m) => some (.al fun _ _ => some m)
  | some (.one x g) => x1 G E n x fun f => .al fun L T => g (f L T)
  | some (.two x y g) => x2 G E n x y fun f e => .al fun L T => g (f L T) (e L T)
  | none => none
theorem nw1_snd (h : nw1 (tiOf P) G E n o.op = some c) : OCS P G E n o c := by
  unfold nw1 at h
  split at h
  · rename_i m hg
    injection h with h; subst h
    intro ρ L T a v w hn he hf
    injection hf with hf; subst hf
    obtain ⟨res, k1, k2⟩ := nwG_snd P hg ρ a w (m := m) rfl
    exact ⟨res, k1, fun y w' e => .inl (k2 y w' e)⟩
  · rename_i x g hg
    obtain ⟨f, h1, rfl⟩ := x1_some h
    intro ρ L T a v w hn he hf
    obtain ⟨res, k1, k2⟩ := nwG_snd P hg ρ a w (m := v) ⟨_, opX_snd hn he h1, hf⟩
    exact ⟨res, k1, fun y w' e => .inl (k2 y w' e)⟩
  · rename_i x y g hg
    obtain ⟨f, e, h1, h2, rfl⟩ := x2_some h
    intro ρ L T a v w hn he hf
    obtain ⟨res, k1, k2⟩ := nwG_snd P hg ρ a w (m := v) ⟨_, _, opX_snd hn he h1, opX_snd hn he h2, hf⟩
    exact ⟨res, k1, fun y w' e => .inl (k2 y w' e)⟩
  · cases h
noncomputable def ef1 (Y : TI) (G : Ctx) (E : Env) (n : Nat) (o : Op) : Option OC := match efG Y o with
  | some (x, y, g) => x2 G E n x y fun f e => .ef fun _ L T nx bs => rcA (g (f L T) (e L T) nx bs)
  | none => none
theorem ef1_snd (h : ef1 (tiOf P) G E n o.op = some c) : OCS P G E n o c := by
  unfold ef1 at h
  split at h
  case h_2 => cases h
  rename_i x y g hg
  obtain ⟨f, e, h1, h2, rfl⟩ := x2_some h
  intro F hF ρ L T a nx nx' bs bs' v w hn he hh hf next Q hq
  obtain ⟨z, w', ρ', k1, k2, k3, k4⟩ := efG_snd P hg ρ a hh (opX_snd hn he h1) (opX_snd hn he h2) (rcA_some hf)
  exact k1.wp (hq ρ' z w' k2 k3 k4)
end
noncomputable def orE (c d : Option OC) : Option OC := match c with
  | some c => some c
  | none => d
theorem orE_some {c d : Option OC} {e : OC} (h : orE c d = some e) : c = some e ∨ d = some e := by
  cases c with
  | some c => exact .inl h
  | none => exact .inr h

/-! ### the others: moves, picks, what is built, cuts of slices, functions made, builtins, calls -/
theorem thru_val {P : Program} {o : Oper} {s : Sem Value} {a : Act} {w w' : World} {y : Value} (he : execOp a.eval o = (do pure (Next.value (← s)))) (hr : s.run P w = .ok y w') : Thru P o a w y w' := .inl (by rw [he]; exact run_value hr)
theorem map_eval_toList (a : Act) (xs : Array Operand) {l : List Operand} (h : xs.toList = l) : xs.map a.eval = (l.map a.eval).toArray := by
  apply Array.ext'; simp [h]
noncomputable def copBuild (Y : TI) (G : Ctx) (E : Env) (n : Nat) (t : TypeId) (ps : List (Nat × Operand)) : Option OC :=
  match bplan Y t with
  | some (zs, places) => (opPs (fun i => places[i]?) zs.length G E n ps).map fun fs => .pu fun L T => Option.casesOn (fillV (evp fs L T) zs) none fun cs => some (.g cs)
  | none => none
theorem copBuild_snd {P : Program} {G : Ctx} {E : Env} {n : Nat} {o : Oper} {t : TypeId} {parts : Array (Nat × Operand)} (ho : o.op = .build t parts) {c : OC} (h : copBuild (tiOf P) G E n t parts.toList = some c) : OCS P G E n o c := by
  unfold copBuild at h
  split at h
  case h_2 => cases h
  rename_i zs places hb
  obtain ⟨fs, h1, rfl⟩ := Option.map_eq_some_iff.1 h
  intro ρ L T a v w hn he hf
  have hp := opPs_snd hn he h1
  cases hfl : fillV (evp fs L T) zs with
  | none => simp only [hfl] at hf; cases hf
  | some cs =>
    simp only [hfl] at hf
    injection hf with hf; subst hf
    obtain ⟨ys, k1, k2⟩ := built_of hb hp hfl
    refine ⟨.agg ys, thru_val (s := Instr.build t (parts.map fun (i, x) => (i, a.eval x))) (by unfold execOp; rw [ho]) (run_build w t _ ys ?_), VR_g k2⟩
    rw [Array.toList_map]; exact k1
noncomputable def copBsl (Y : TI) (G : Ctx) (E : Env) (n : Nat) (t : TypeId) (len : Nat) (ps : List (Nat × Operand)) : Option OC :=
  match splan Y t len with
  | some (es, zs) => (opPs (fun i => some (i * (es % 65536), es % 65536)) zs.length G E n ps).map fun fs => .al fun L T => bslV es len zs (evp fs L T)
  | none => none

theorem parts_bsl {es top : Nat} {ps : List (Nat × Nat × V)} {qs : List (Nat × Value)} (hp : F2 (fun p q => some (q.1 * (es % 65536), es % 65536) = some (p.1, p.2.1) ∧ p.1 + p.2.1 ≤ top ∧ VR ρ p.2.2 q.2) ps qs) :
    F2 (fun p q => p.1 = q.1 * (es % 65536) ∧ p.2.1 = es % 65536 ∧ p.1 + p.2.1 ≤ top ∧ VR ρ p.2.2 q.2) ps qs := by
  refine hp.imp fun p q hpq => ?_
  obtain ⟨h1, h2, h3⟩ := hpq
  rw [Option.some.injEq, Prod.mk.injEq] at h1
  exact ⟨h1.1.symm, h1.2.symm, h2, h3⟩
theorem exec_bsl (a : Act) {o : Oper} {t : TypeId} {len : Nat} {parts : Array (Nat × Operand)} (ho : o.op = .buildSlice t len parts) :
    execOp a.eval o = (do pure (Next.value (← Instr.buildSlice t len (parts.map fun (i, x) => (i, a.eval x))))) := by
  obtain ⟨dst, op, ty, ps, after, guard⟩ := o
  simp only at ho
  subst ho
  rfl
theorem copBsl_some {P : Program} {G : Ctx} {E : Env} {n : Nat} {t : TypeId} {len : Nat} {ps : List (Nat × Operand)} {c : OC} (h : copBsl (tiOf P) G E n t len ps = some c) :
    ∃ es zs fs, splan (tiOf P) t len = some (es, zs) ∧ opPs (fun i => some (i * (es % 65536), es % 65536)) zs.length G E n ps = some fs ∧ c = .al fun L T => bslV es len zs (evp fs L T) := by
  unfold copBsl at h
  generalize splan (tiOf P) t len = r at h
  cases r with
  | none => cases h
  | some p =>
    obtain ⟨es, zs⟩ := p
    obtain ⟨fs, h1, h2⟩ := Option.map_eq_some_iff.1 h
    exact ⟨es, zs, fs, rfl, h1, h2.symm⟩
theorem copBsl_snd {P : Program} {G : Ctx} {E : Env} {n : Nat} {o : Oper} {t : TypeId} {len : Nat} {parts : Array (Nat × Operand)} (ho : o.op = .buildSlice t len parts) {c : OC} (h : copBsl (tiOf P) G E n t len parts.toList = some c) : OCS P G E n o c := by
  obtain ⟨es, zs, fs, hb, h1, rfl⟩ := copBsl_some h
  intro ρ L T a v w hn he hf
  have hp2 := parts_bsl (opPs_snd hn he h1)
  have hq : (parts.map fun (i, x) => (i, a.eval x)).toList = parts.toList.map fun (i, x) => (i, a.eval x) := Array.toList_map ..
  rw [← hq] at hp2
  have hs := snd_bslV P hb w hp2 hf
  exact ⟨_, hs, fun y w' e => thru_val (exec_bsl a ho) e⟩
noncomputable def copSliceN (Y : TI) (G : Ctx) (E : Env) (n : Nat) (t : TypeId) (x : Operand) (lo hi mx : Option Operand) : Option OC :=
  match Y.und t with
  | some (.slice e) => match Y.inf e with
    | some i => if i.size < 65536 ∧ (mx.isSome = true → hi.isSome = true) then (match opX G E n x, xo G E n lo, xo G E n hi, xo G E n mx with
      | some f, some l, some h, some m => some (.ld fun L T bs => slL (e * 65536 + i.size) i.size bs (f L T) (evo l L T) (evo h L T) (evo m L T))
      | _, _, _, _ => none) else none
    | none => none
  | _ => none
theorem copSliceN_snd {P : Program} {G : Ctx} {E : Env} {n : Nat} {o : Oper} {t : TypeId} {x : Operand} {lo hi mx : Option Operand} (ho : o.op = .slice t x lo hi mx) {c : OC} (h : copSliceN (tiOf P) G E n t x lo hi mx = some c) : OCS P G E n o c := by
  unfold copSliceN at h
  split at h
  case h_2 => cases h
  rename_i e ht
  split at h
  case h_2 => cases h
  rename_i i hi'
  split at h
  case isFalse => cases h
  rename_i hc
  split at h
  case h_2 => cases h
  rename_i f l hh m h1 h2 h3 h4
  injection h with h; subst h
  intro ρ L T a nx bs v w hn he hH hf
  obtain ⟨y, k1, k2⟩ := snd_slL P ht hi' hH (opX_snd hn he h1) (xo_snd hn he h2) (xo_snd hn he h3) (xo_snd hn he h4) (by
    intro hm hn
    cases mx with
    | none => exact hm rfl
    | some z => cases hi with
      | none => exact absurd (hc.2 rfl) (by simp)
      | some u => cases hn) (ec := e * 65536 + i.size) (ty_mod hc.1) hf
  exact ⟨y, thru_val (s := Instr.sliceAt t (a.eval x) (lo.map a.eval) (hi.map a.eval) (mx.map a.eval)) (by unfold execOp; rw [ho]) k1, k2⟩
noncomputable def copSlice (Y : TI) (G : Ctx) (E : Env) (n : Nat) (t : TypeId) (x : Operand) (lo hi mx : Option Operand) : Option OC :=
  match lo, hi, mx with
  | none, some h, none => match Y.und t with
    | some (.slice e) => match Y.inf e with
      | some _ => x2 G E n x h fun f g => .pu fun L T => slH (f L T) (g L T)
      | none => none
    | _ => none
  | lo, hi, mx => copSliceN Y G E n t x lo hi mx
theorem copSlice_snd {P : Program} {G : Ctx} {E : Env} {n : Nat} {o : Oper} {t : TypeId} {x : Operand} {lo hi mx : Option Operand} (ho : o.op = .slice t x lo hi mx) {c : OC} (h : copSlice (tiOf P) G E n t x lo hi mx = some c) : OCS P G E n o c := by
  unfold copSlice at h
  split at h
  · rename_i h'
    split at h
    case h_2 => cases h
    rename_i e ht
    split at h
    case h_2 => cases h
    rename_i i hi'
    obtain ⟨f, g, h1, h2, rfl⟩ := x2_some h
    intro ρ L T a v w hn he hf
    obtain ⟨y, k1, k2⟩ := snd_slH P ht hi' ρ _ _ _ _ v w (opX_snd hn he h1) (opX_snd hn he h2) hf
    exact ⟨y, thru_val (s := Instr.sliceAt t (a.eval x) none (some (a.eval h')) none) (by unfold execOp; rw [ho]; rfl) k1, k2⟩
  · exact copSliceN_snd ho h
noncomputable def copMf (G : Ctx) (E : Env) (n : Nat) (fn : Fn) (first caps : List Operand) : Option OC :=
  match fn with
  | .func j => match first with
    | [] => (opXs G E n caps).map fun fs => .pu fun L T => some (.f (pos j) (evs fs L T))
    | _ => none
  | _ => none
theorem copMf_snd {P : Program} {G : Ctx} {E : Env} {n : Nat} {o : Oper} {fn : Fn} {first caps : Array Operand} (ho : o.op = .makeFunc fn first caps) {c : OC} (h : copMf G E n fn first.toList caps.toList = some c) : OCS P G E n o c := by
  unfold copMf at h
  split at h
  case h_2 => cases h
  rename_i j
  split at h
  case h_2 => cases h
  rename_i hfst
  obtain ⟨fs, h1, rfl⟩ := Option.map_eq_some_iff.1 h
  intro ρ L T a v w hn he hf
  injection hf with hf; subst hf
  have e0 : first = #[] := Array.ext' (by simpa using hfst)
  subst e0
  refine ⟨.func (.func j) #[] (caps.map a.eval), thru_val (s := Instr.makeFunc (.func j) (#[].map a.eval) (caps.map a.eval)) (by unfold execOp; rw [ho]) (by simp [Instr.makeFunc]), ?_⟩
  unfold VR
  exact ⟨j, rfl, rfl, rfl, by rw [Array.toList_map]; exact opXs_snd hn he h1⟩
noncomputable def copArr (Y : TI) (G : Ctx) (E : Env) (n : Nat) (t : TypeId) (x y : Operand) : Option OC :=
  match Y.und t with
  | some (.array len e) => match Y.inf e with
    | some i => if len ≤ 1099511627776 then x2 G E n x y fun f e => .pu fun L T => iaddA len i.size (f L T) (e L T) else none
    | none => none
  | _ => none
theorem copArr_snd {P : Program} {G : Ctx} {E : Env} {n : Nat} {o : Oper} {t : TypeId} {x y : Operand} (ho : o.op = .indexAddr t x y) {c : OC} (h : copArr (tiOf P) G E n t x y = some c) : OCS P G E n o c := by
  unfold copArr at h
  split at h
  case h_2 => cases h
  rename_i len e ht
  split at h
  case h_2 => cases h
  rename_i i hi'
  split at h
  case isFalse => cases h
  rename_i hc
  obtain ⟨f, g, h1, h2, rfl⟩ := x2_some h
  intro ρ L T a v w hn he hf
  obtain ⟨z, k1, k2⟩ := snd_iaddA P ht hc hi' ρ _ _ _ _ v w (opX_snd hn he h1) (opX_snd hn he h2) hf
  exact ⟨z, thru_val (s := Instr.indexAt t (a.eval x) (a.eval y)) (by unfold execOp; rw [ho]) k1, k2⟩
noncomputable def copBl (Y : TI) (G : Ctx) (E : Env) (n : Nat) (b : Builtin) (args : List Operand) (ts : List TypeId) : Option OC :=
  match args, ts with
  | [x], [t] => match blG Y b t with
    | some g => x1 G E n x fun f => .pu fun L T => g (f L T)
    | none => none
  | [x, y], [_, _] => match b with
    | .min => x2 G E n x y fun f e => .pu fun L T => minN (f L T) (e L T)
    | .max => x2 G E n x y fun f e => .pu fun L T => maxN (f L T) (e L T)
    | _ => none
  | _, _ => none
theorem copBl_snd {P : Program} {G : Ctx} {E : Env} {n : Nat} {o : Oper} {b : Builtin} {args : Array Operand} {ts : Array TypeId} (ho : o.op = .call { callee := .builtin b, args := args, argTypes := ts }) {c : OC} (h : copBl (tiOf P) G E n b args.toList ts.toList = some c) : OCS P G E n o c := by
  unfold copBl at h
  split at h
  · rename_i x t ha hts
    split at h
    case h_2 => cases h
    rename_i g hg
    obtain ⟨f, h1, rfl⟩ := x1_some h
    have ea : args = #[x] := Array.ext' (by simpa using ha)
    have et : ts = #[t] := Array.ext' (by simpa using hts)
    subst ea; subst et
    intro ρ L T a v w hn he hf
    obtain ⟨z, k1, k2⟩ := blG_snd P ho hg ρ a w (opX_snd hn he h1) hf
    exact ⟨z, .inl k1, k2⟩
  · rename_i x y t t2 ha hts
    have ea : args = #[x, y] := Array.ext' (by simpa using ha)
    have et : ts = #[t, t2] := Array.ext' (by simpa using hts)
    subst ea; subst et
    split at h
    · obtain ⟨f, e, h1, h2, rfl⟩ := x2_some h
      intro ρ L T a v w hn he hf
      obtain ⟨dst, op, ty, ps, after, guard⟩ := o
      simp only at ho
      subst ho
      obtain ⟨consts, hex⟩ := exec_builtin2 a .min x y t t2 dst ty ps after guard
      obtain ⟨z, k1, k2⟩ := snd_minN P #[t, t2] ty ρ _ _ _ _ v w (opX_snd hn he h1) (opX_snd hn he h2) hf
      exact ⟨z, thru_val (s := Builtin.min_ #[t, t2] ty #[a.eval x, a.eval y]) (by rw [hex]; rfl) k1, k2⟩
    · obtain ⟨f, e, h1, h2, rfl⟩ := x2_some h
      intro ρ L T a v w hn he hf
      obtain ⟨dst, op, ty, ps, after, guard⟩ := o
      simp only at ho
      subst ho
      obtain ⟨consts, hex⟩ := exec_builtin2 a .max x y t t2 dst ty ps after guard
      obtain ⟨z, k1, k2⟩ := snd_maxN P #[t, t2] ty ρ _ _ _ _ v w (opX_snd hn he h1) (opX_snd hn he h2) hf
      exact ⟨z, thru_val (s := Builtin.max_ #[t, t2] ty #[a.eval x, a.eval y]) (by rw [hex]; rfl) k1, k2⟩
    · cases h
  · cases h
noncomputable def copX (G : Ctx) (E : Env) (n : Nat) (k : XK) (args : List Operand) : Option OC :=
  match k, args with
  | .same, [y] => x1 G E n y fun f => .pu fun L T => some (f L T)
  | .cnt, [y, z] => x2 G E n y z fun f e => .pu fun L T => cntS (f L T) (e L T)
  | .ixb, [y, z] => x2 G E n y z fun f e => .pu fun L T => ixbS (f L T) (e L T)
  | .mnz ec, [y] => x1 G E n y fun f => .al fun L T => mnzV ec (f L T)
  | _, _ => none
theorem copX_snd {P : Program} {G : Ctx} {E : Env} {n : Nat} {o : Oper} {f0 : FuncId} {k : XK} (hok : XOk P f0 k) {args : Array Operand} {ts : Array TypeId} (ho : o.op = .call { callee := .value (.func f0), args := args, argTypes := ts }) {c : OC} (h : copX G E n k args.toList = some c) : OCS P G E n o c := by
  have thru : ∀ {a : Act} {e : Array Value → Sem Value} {w w' : World} {y : Value}, XRun P f0 e → (e (args.map a.eval)).run P w = .ok y w' → Thru P o a w y w' := by
    intro a e w w' y hx hr
    refine .inl ?_
    rw [exec_call a ho (j := f0) (xs := #[]) rfl, hx.run, Array.append_empty, hr]
    rfl
  unfold copX at h
  split at h
  · rename_i y ha
    obtain ⟨f, h1, rfl⟩ := x1_some h
    intro ρ L T a v w hn he hf
    injection hf with hf; subst hf
    refine ⟨a.eval y, thru hok ?_, opX_snd hn he h1⟩
    rw [map_eval_toList a args ha]; rfl
  · rename_i y z ha
    obtain ⟨f, e, h1, h2, rfl⟩ := x2_some h
    intro ρ L T a v w hn he hf
    obtain ⟨u, k1, k2⟩ := snd_cntS P ρ _ _ _ _ v w (opX_snd hn he h1) (opX_snd hn he h2) hf
    refine ⟨u, thru hok ?_, k2⟩
    rw [map_eval_toList a args ha]; exact k1
  · rename_i y z ha
    obtain ⟨f, e, h1, h2, rfl⟩ := x2_some h
    intro ρ L T a v w hn he hf
    obtain ⟨u, k1, k2⟩ := snd_ixbS P ρ _ _ _ _ v w (opX_snd hn he h1) (opX_snd hn he h2) hf
    refine ⟨u, thru hok ?_, k2⟩
    rw [map_eval_toList a args ha]; exact k1
  · rename_i ec y ha
    obtain ⟨f, h1, rfl⟩ := x1_some h
    obtain ⟨ps', t, e, hr, ht, rfl⟩ := hok
    intro ρ L T a v w hn he hf
    have hs := snd_mnzV P ps' ht w (opX_snd hn he h1) hf
    refine ⟨_, hs, fun u w' e => thru hr ?_⟩
    rw [map_eval_toList a args ha]; exact e
  · cases h
noncomputable def copF (G : Ctx) (E : Env) (n : Nat) (x : Operand) (args : List Operand) : Option OC :=
  match opX G E n x, opXs G E n args with
  | some f, some fs => some (.ef fun F L T nx bs => callV F (f L T) (evs fs L T) nx bs)
  | _, _ => none
theorem copF_snd {P : Program} {G : Ctx} {E : Env} {n : Nat} {o : Oper} {x : Operand} {args : Array Operand} {ts : Array TypeId} (ho : o.op = .call { callee := .value x, args := args, argTypes := ts }) {c : OC} (h : copF G E n x args.toList = some c) : OCS P G E n o c := by
  unfold copF at h
  split at h
  case h_2 => cases h
  rename_i f fs h1 h2
  injection h with h; subst h
  intro F hF ρ L T a nx nx' bs bs' v w hn he hH hf next Q hq
  obtain ⟨fid, cs, hfv, hcall⟩ := callV_some hf
  have hv := opX_snd hn he h1
  rw [hfv] at hv
  obtain ⟨j, xs, rfl, hx, hxs⟩ := hv.f
  have hargs := opXs_snd hn he h2
  have hall : VRs ρ (evs fs L T ++ cs) ((args.map a.eval ++ xs).toList) := by
    rw [Array.toList_append, Array.toList_map]
    exact hargs.append hxs
  obtain ⟨k1, k2⟩ := hF ρ j _ _ nx nx' bs bs' v w he.glob hall hH hcall
  unfold Oper.wp
  rw [exec_call a ho hx, k1, Oper.upon_enter]
  refine k2.mono ?_
  rintro e w' ⟨y, ρ', rfl, q1, q2, q3⟩
  exact hq ρ' y w' q1 q2 q3
noncomputable def copCall (Y : TI) (XT : Nat → Option XK) (G : Ctx) (E : Env) (n : Nat) (c : Call) : Option OC :=
  match c.callee with
  | .builtin b => copBl Y G E n b c.args.toList c.argTypes.toList
  | .value x => match x with
    | .func f => match XT f with
      | some k => copX G E n k c.args.toList
      | none => copF G E n (.func f) c.args.toList
    | x => copF G E n x c.args.toList
  | _ => none
theorem copCall_snd {P : Program} {XT : Nat → Option XK} (hX : ∀ f k, XT f = some k → XOk P f k) {G : Ctx} {E : Env} {n : Nat} {o : Oper} {cl : Call} (ho : o.op = .call cl) {c : OC} (h : copCall (tiOf P) XT G E n cl = some c) : OCS P G E n o c := by
  obtain ⟨callee, args, argTypes⟩ := cl
  unfold copCall at h
  simp only at h
  split at h
  · exact copBl_snd ho h
  · split at h
    · split at h
      · rename_i k hk
        exact copX_snd (hX _ _ hk) ho h
      · exact copF_snd ho h
    · exact copF_snd ho h
  · cases h
noncomputable def orB (Y : TI) (G : Ctx) (E : Env) (n : Nat) (op : BinOp) (t : TypeId) (x y : Operand) : Option OC := match op with
  | .or => match Y.und t with
    | some (.int .u8) => x2 G E n x y fun f e => .pu fun L T => orY (f L T) (e L T)
    | _ => none
  | _ => none
theorem orB_snd {P : Program} {G : Ctx} {E : Env} {n : Nat} {o : Oper} {op : BinOp} {t ty : TypeId} {x y : Operand} (ho : o.op = .binOp op t x y ty) {c : OC} (h : orB (tiOf P) G E n op t x y = some c) : OCS P G E n o c := by
  unfold orB at h
  split at h
  case h_2 => cases h
  split at h
  case h_2 => cases h
  obtain ⟨f, e, h1, h2, rfl⟩ := x2_some h
  intro ρ L T a v w hn he hf
  obtain ⟨z, k1, k2⟩ := snd_orY P t x y ρ _ _ _ _ v w (opX_snd hn he h1) (opX_snd hn he h2) hf
  exact ⟨z, thru_val (s := cbin .or t x y (a.eval x) (a.eval y)) (by unfold execOp; rw [ho]; rfl) k1, k2⟩
noncomputable def inB (Y : TI) (G : Ctx) (E : Env) (n : Nat) (op : UnOp) (t : TypeId) (x : Operand) : Option OC := match op with
  | .xor => x1 G E n x fun f => .pu fun L T => invN (f L T)
  | op => un1 Y G E n (.unOp op t x)
noncomputable def copN (Y : TI) (XT : Nat → Option XK) (G : Ctx) (E : Env) (n : Nat) (o : Op) : Option OC :=
  match o with
  | .move x => x1 G E n x fun f => .pu fun L T => some (f L T)
  | .assign x => x1 G E n x fun f => .pu fun L T => some (f L T)
  | .load t x => rd1 Y G E n (.load t x)
  | .store t x y => ef1 Y G E n (.store t x y)
  | .call c => orE (ef1 Y G E n (.call c)) (copCall Y XT G E n c)
  | .binOp op t x y ty => orE (tw1 Y G E n (.binOp op t x y ty)) (orB Y G E n op t x y)
  | .fieldAddr t x k => un1 Y G E n (.fieldAddr t x k)
  | .field t x k => un1 Y G E n (.field t x k)
  | .nilCheck x => un1 Y G E n (.nilCheck x)
  | .extract x k => un1 Y G E n (.extract x k)
  | .unOp op t x => inB Y G E n op t x
  | .indexAddr t x y => orE (tw1 Y G E n (.indexAddr t x y)) (copArr Y G E n t x y)
  | .index t x y => tw1 Y G E n (.index t x y)
  | .pick c x y => x3 G E n c x y fun f e d => .pu fun L T => pickB (f L T) (e L T) (d L T)
  | .alloc t => nw1 Y G E n (.alloc t)
  | .box t x => nw1 Y G E n (.box t x)
  | .makeSlice t x y => nw1 Y G E n (.makeSlice t x y)
  | .convert s d x => orE (un1 Y G E n (.convert s d x)) (orE (rd1 Y G E n (.convert s d x)) (nw1 Y G E n (.convert s d x)))
  | .build t ps => copBuild Y G E n t ps.toList
  | .buildSlice t len ps => copBsl Y G E n t len ps.toList
  | .slice t x lo hi mx => orE (cs1 Y G E n (.slice t x lo hi mx)) (copSlice Y G E n t x lo hi mx)
  | .makeFunc fn first caps => copMf G E n fn first.toList caps.toList
  | _ => none
theorem copN_snd {P : Program} {XT : Nat → Option XK} (hX : ∀ f k, XT f = some k → XOk P f k) {G : Ctx} {E : Env} {n : Nat} {o : Oper} {c : OC} (h : copN (tiOf P) XT G E n o.op = some c) : OCS P G E n o c := by
  unfold copN at h
  split at h
  · rename_i x ho
    obtain ⟨f, h1, rfl⟩ := x1_some h
    intro ρ L T a v w hn he hf
    injection hf with hf; subst hf
    exact ⟨a.eval x, .inl (by unfold execOp; rw [ho]; rfl), opX_snd hn he h1⟩
  · rename_i x ho
    obtain ⟨f, h1, rfl⟩ := x1_some h
    intro ρ L T a v w hn he hf
    injection hf with hf; subst hf
    exact ⟨a.eval x, .inl (by unfold execOp; rw [ho]; rfl), opX_snd hn he h1⟩
  · rename_i ho; rw [← ho] at h; exact rd1_snd h
  · rename_i ho; rw [← ho] at h; exact ef1_snd h
  · rename_i ho
    rcases orE_some h with h | h
    · rw [← ho] at h; exact ef1_snd h
    · exact copCall_snd hX ho h
  · rename_i ho
    rcases orE_some h with h | h
    · rw [← ho] at h; exact tw1_snd h
    · exact orB_snd ho h
  · rename_i ho; rw [← ho] at h; exact un1_snd h
  · rename_i ho; rw [← ho] at h; exact un1_snd h
  · rename_i ho; rw [← ho] at h; exact un1_snd h
  · rename_i ho; rw [← ho] at h; exact un1_snd h
  · rename_i op t x ho
    unfold inB at h
    split at h
    · obtain ⟨f, h1, rfl⟩ := x1_some h
      intro ρ L T a v w hn he hf
      obtain ⟨z, k1, k2⟩ := snd_invN P ρ _ _ v w (opX_snd hn he h1) hf
      exact ⟨z, thru_val (s := Op.unary .xor (a.eval x)) (by unfold execOp; rw [ho]) k1, k2⟩
    · rw [← ho] at h; exact un1_snd h
  · rename_i ho
    rcases orE_some h with h | h
    · rw [← ho] at h; exact tw1_snd h
    · exact copArr_snd ho h
  · rename_i ho; rw [← ho] at h; exact tw1_snd h
  · rename_i c' x y ho
    obtain ⟨f, e, d, h1, h2, h3, rfl⟩ := x3_some h
    intro ρ L T a v w hn he hf
    obtain ⟨z, k1, k2⟩ := pick_snd P ho ρ a w (opX_snd hn he h1) (opX_snd hn he h2) (opX_snd hn he h3) hf
    exact ⟨z, .inl k1, k2⟩
  · rename_i ho; rw [← ho] at h; exact nw1_snd h
  · rename_i ho; rw [← ho] at h; exact nw1_snd h
  · rename_i ho; rw [← ho] at h; exact nw1_snd h
  · rename_i ho
    rw [← ho] at h
    rcases orE_some h with h | h
    · exact un1_snd h
    · rcases orE_some h with h | h
      · exact rd1_snd h
      · exact nw1_snd h
  · rename_i ho; exact copBuild_snd ho h
  · rename_i ho; exact copBsl_snd ho h
  · rename_i ho
    rcases orE_some h with h | h
    · rw [← ho] at h; exact cs1_snd h
    · exact copSlice_snd ho h
  · rename_i ho; exact copMf_snd ho h
  · cases h

/-! ### atoms -/
noncomputable def isA (v : V) : Bool := asA v false fun _ _ => true
noncomputable def atB (tab : ATab) (op : BinOp) (x y : V) : Option V := cond (or (isA x) (isA y)) (tab.bin op x y) none
noncomputable def atC (tab : ATab) (k : IntKind) (x : V) : Option V := cond (isA x) (tab.cvt k x) none
noncomputable def atL (x : V) : Option V := asA x none fun k id => cond (Nat.beq k 1) (some (.a 0 id)) none
theorem atB_snd {P : Program} {G : Ctx} (hg : GR G ρ) {op : BinOp} {t : TypeId} {ox oy : Operand} {v v' r : V} {x x' : Value} {w : World} (hv : VR ρ v x) (hv' : VR ρ v' x') (hf : atB G.tab op v v' = some r) : ∃ y, (cbin op t ox oy x x').run P w = .ok y w ∧ VR ρ r y :=
  hg.ok.bin ρ hg.valR op v v' r (cond_some hf).2 P t ox oy w x x' hv hv'
theorem atL_snd (P : Program) {t ty e : TypeId} (ht : P.underlying t = some (.slice e)) {v r : V} {x : Value} {w : World} (hv : VR ρ v x) (hf : atL v = some r) : ∃ y, (Builtin.len_ #[t] ty #[x]).run P w = .ok y w ∧ VR ρ r y := by
  obtain ⟨k, id, ea, h1⟩ := asA_some hf
  obtain ⟨hk, h2⟩ := cond_some h1
  have hk := Nat.eq_of_beq_eq_true hk
  injection h2 with h2; subst h2
  subst ea; subst hk
  obtain ⟨q, hq, hat⟩ := hv.a
  unfold AtR at hat
  split at hat
  · rename_i he; cases he
  · rename_i a len cap he
    obtain ⟨rfl, hle, -⟩ := hat
    refine ⟨.int .i64 q.n, ?_, ?_⟩
    · unfold Builtin.len_
      simp [run_underlying P w ht, goInt]
    · unfold VR
      refine ⟨q, hq, ?_⟩
      show IntKind.i64 = IntKind.i64 ∧ q.n < 18446744073709551616 ∧ (q.n : Int) = IntKind.i64.wrap q.n
      refine ⟨rfl, by omega, ?_⟩
      rw [wrap_n q.n (by omega), if_pos (by omega)]
  · rename_i he; cases he
  · rename_i he; omega
  · exact hat.elim
theorem atL_some {v r : V} (hf : atL v = some r) : ∃ id, v = .a 1 id := by
  obtain ⟨k, id, ea, h1⟩ := asA_some hf
  obtain ⟨hk, -⟩ := cond_some h1
  have hk := Nat.eq_of_beq_eq_true hk
  subst hk
  exact ⟨id, ea⟩
noncomputable def atBW (A : ATab) (op : BinOp) (x y : V) : Option V := cond (or (isA x) (isA y)) (A.bin op x y) (binW A op x y)
theorem atBW_snd {P : Program} {G : Ctx} (hg : GR G ρ) {op : BinOp} {t : TypeId} {ox oy : Operand} {v v' r : V} {x x' : Value} {w : World} (hv : VR ρ v x) (hv' : VR ρ v' x') (hf : atBW G.tab op v v' = some r) : ∃ y, (cbin op t ox oy x x').run P w = .ok y w ∧ VR ρ r y := by
  unfold atBW at hf
  cases e : or (isA v) (isA v') with
  | true => rw [e, cond_true] at hf; exact hg.ok.bin ρ hg.valR op v v' r hf P t ox oy w x x' hv hv'
  | false => rw [e, cond_false] at hf; exact binW_snd hg.ok hg.valR hv hv' hf
/-- Texts with unknown bytes stay what they are. -/
noncomputable def idW (x : V) : Option V := asW x none fun cs => some (.w cs)
theorem snd_idW (P : Program) {src dst : TypeId} {ds : TypeDesc} (hs : P.underlying src = some ds) (hd : P.underlying dst = some .string) : Snd1 P idW (convert src dst) := by
  intro ρ v x r w hv hf
  obtain ⟨cs, rfl, h1⟩ := asW_some hf
  injection h1 with h1; subst h1
  obtain ⟨l, rfl, h2⟩ := wOf_snd (v := .w cs) (cs := cs) rfl hv
  obtain ⟨y, k1, k2⟩ := snd_cvSS P hs hd ρ _ _ _ w (VR_str (ρ := ρ) l) rfl
  rw [k2.str] at k1
  exact ⟨_, k1, hv⟩
abbrev F3 := List V → TS → Option V
noncomputable def no3 : F3 := fun _ _ => none
noncomputable def u3 (G : Ctx) (E : Env) (n : Nat) (x : Operand) (g : V → Option V) : F3 := match opX G E n x with
  | some f => fun L T => g (f L T)
  | none => no3
noncomputable def b3 (G : Ctx) (E : Env) (n : Nat) (x y : Operand) (g : V → V → Option V) : F3 := match opX G E n x, opX G E n y with
  | some f, some e => fun L T => g (f L T) (e L T)
  | _, _ => no3
noncomputable def t3 (G : Ctx) (E : Env) (n : Nat) (x y z : Operand) (g : V → V → V → Option V) : F3 := match opX G E n x, opX G E n y, opX G E n z with
  | some f, some e, some d => fun L T => g (f L T) (e L T) (d L T)
  | _, _, _ => no3
noncomputable def cop3 (Y : TI) (XT : Nat → Option XK) (G : Ctx) (E : Env) (n : Nat) (o : Op) : F3 :=
  match o with
  | .binOp op t x y _ => match Y.und t with
    | some (.struct fs) => if Y.sih t = false ∧ Y.egt t = false then (match eplan Y fs.toList with
      | some ps => b3 G E n x y (eqGA G.tab ps op)
      | none => no3) else no3
    | _ => b3 G E n x y (atBW G.tab op)
  | .index t x y => match Y.und t with
    | some .string => b3 G E n x y idxW
    | _ => no3
  | .slice t x lo hi mx => match Y.und t with
    | some .string => match lo, hi, mx with
      | some l, some h, none => t3 G E n x l h slW
      | some l, none, none => b3 G E n x l slW1
      | none, some h, none => b3 G E n x h slW2
      | _, _, _ => no3
    | _ => no3
  | .call c => match c.callee with
    | .builtin b => match b, c.args.toList, c.argTypes.toList with
      | .len, [x], [t] => match Y.und t with
        | some (.slice _) => u3 G E n x atL
        | some .string => u3 G E n x lenW
        | _ => no3
      | _, _, _ => no3
    | .value (.func f) => match XT f, c.args.toList with
      | some .cnt, [y, z] => b3 G E n y z (cntW G.tab)
      | some .ixb, [y, z] => b3 G E n y z (ixbW G.tab)
      | _, _ => no3
    | _ => no3
  | .convert src dst x => match Y.und src, Y.und dst with
    | some (.int _), some (.int k) => u3 G E n x (atC G.tab k)
    | some .string, some .string => u3 G E n x idW
    | _, _ => no3
  | _ => no3
theorem no3_snd {P : Program} {G : Ctx} {E : Env} {n : Nat} {o : Oper} : OCS P G E n o (.pu no3) := by
  intro ρ L T a v w hn he hf; cases hf
theorem u3_snd {P : Program} {G : Ctx} {E : Env} {n : Nat} {o : Oper} {x : Operand} {g : V → Option V} (h : ∀ (ρ : Rho) (a : Act) (w : World) (v r : V), GR G ρ → VR ρ v (a.eval x) → g v = some r → ∃ y, Thru P o a w y w ∧ VR ρ r y) : OCS P G E n o (.pu (u3 G E n x g)) := by
  unfold u3
  split
  · rename_i f h1
    intro ρ L T a v w hn he hf
    exact h ρ a w _ v he.glob (opX_snd hn he h1) hf
  · exact no3_snd
theorem b3_snd {P : Program} {G : Ctx} {E : Env} {n : Nat} {o : Oper} {x y : Operand} {g : V → V → Option V} (h : ∀ (ρ : Rho) (a : Act) (w : World) (v v' r : V), GR G ρ → VR ρ v (a.eval x) → VR ρ v' (a.eval y) → g v v' = some r → ∃ z, Thru P o a w z w ∧ VR ρ r z) : OCS P G E n o (.pu (b3 G E n x y g)) := by
  unfold b3
  split
  · rename_i f e h1 h2
    intro ρ L T a v w hn he hf
    exact h ρ a w _ _ v he.glob (opX_snd hn he h1) (opX_snd hn he h2) hf
  · exact no3_snd
theorem t3_snd {P : Program} {G : Ctx} {E : Env} {n : Nat} {o : Oper} {x y z : Operand} {g : V → V → V → Option V} (h : ∀ (ρ : Rho) (a : Act) (w : World) (v v' v2 r : V), GR G ρ → VR ρ v (a.eval x) → VR ρ v' (a.eval y) → VR ρ v2 (a.eval z) → g v v' v2 = some r → ∃ u, Thru P o a w u w ∧ VR ρ r u) : OCS P G E n o (.pu (t3 G E n x y z g)) := by
  unfold t3
  split
  · rename_i f e d h1 h2 h3
    intro ρ L T a v w hn he hf
    exact h ρ a w _ _ _ v he.glob (opX_snd hn he h1) (opX_snd hn he h2) (opX_snd hn he h3) hf
  · exact no3_snd
theorem cop3_snd {P : Program} {XT : Nat → Option XK} (hX : ∀ f k, XT f = some k → XOk P f k) {G : Ctx} {E : Env} {n : Nat} {o : Oper} : OCS P G E n o (.pu (cop3 (tiOf P) XT G E n o.op)) := by
  unfold cop3
  split
  · rename_i op t x y ty ho
    split
    · rename_i fs hu
      have hu : P.underlying t = some (.struct fs) := hu
      have hf : P.fieldsOf t = fs := by unfold Program.fieldsOf; rw [hu]
      have hu' : P.underlying t = some (.struct (P.fieldsOf t)) := by rw [hf]; exact hu
      split
      · rename_i hc
        split
        · rename_i ps hp
          rw [← hf] at hp
          refine b3_snd fun ρ a w v v' r hg hv hv' hr => ?_
          obtain ⟨z, k1, k2⟩ := eqGA_snd hg.ok hg.valR P (ox := x) (oy := y) (w := w) hu' hc.1 hc.2 hp hv hv' hr
          exact ⟨z, thru_val (s := cbin op t x y (a.eval x) (a.eval y)) (by unfold execOp; rw [ho]; rfl) k1, k2⟩
        · exact no3_snd
      · exact no3_snd
    · refine b3_snd fun ρ a w v v' r hg hv hv' hr => ?_
      obtain ⟨z, k1, k2⟩ := atBW_snd (P := P) (t := t) (ox := x) (oy := y) (w := w) hg hv hv' hr
      exact ⟨z, thru_val (s := cbin op t x y (a.eval x) (a.eval y)) (by unfold execOp; rw [ho]; rfl) k1, k2⟩
  · rename_i t x y ho
    split
    · rename_i hu
      refine b3_snd fun ρ a w v v' r hg hv hv' hr => ?_
      obtain ⟨z, k1, k2⟩ := snd_idxW P hu ρ _ _ _ _ r w hv hv' hr
      exact ⟨z, thru_val (s := Instr.index t (a.eval x) (a.eval y)) (by unfold execOp; rw [ho]) k1, k2⟩
    · exact no3_snd
  · rename_i t x lo hi mx ho
    split
    · rename_i hu
      split
      · refine t3_snd fun ρ a w v v' v2 r hg hv hv' hv2 hr => ?_
        obtain ⟨z, k1, k2⟩ := snd_slW P hu (w := w) hv hv' hv2 hr
        exact ⟨z, thru_val (by unfold execOp; rw [ho]; rfl) k1, k2⟩
      · refine b3_snd fun ρ a w v v' r hg hv hv' hr => ?_
        obtain ⟨z, k1, k2⟩ := snd_slW1 P hu (w := w) hv hv' hr
        exact ⟨z, thru_val (by unfold execOp; rw [ho]; rfl) k1, k2⟩
      · refine b3_snd fun ρ a w v v' r hg hv hv' hr => ?_
        obtain ⟨z, k1, k2⟩ := snd_slW2 P hu (w := w) hv hv' hr
        exact ⟨z, thru_val (by unfold execOp; rw [ho]; rfl) k1, k2⟩
      · exact no3_snd
    · exact no3_snd
  · rename_i c ho
    obtain ⟨callee, args, argTypes⟩ := c
    simp only
    split
    · rename_i b
      split
      · rename_i x t ha hts
        have ea : args = #[x] := Array.ext' (by simpa using ha)
        have et : argTypes = #[t] := Array.ext' (by simpa using hts)
        subst ea; subst et
        obtain ⟨dst, op, ty, ps, after, guard⟩ := o
        simp only at ho
        subst ho
        split
        · rename_i e ht
          refine u3_snd fun ρ a w v r hg hv hr => ?_
          obtain ⟨consts, hex⟩ := exec_builtin1 a .len x t dst ty ps after guard
          obtain ⟨z, k1, k2⟩ := atL_snd P (ty := ty) (w := w) ht hv hr
          exact ⟨z, thru_val (s := Builtin.len_ #[t] ty #[a.eval x]) (by rw [hex]; rfl) k1, k2⟩
        · rename_i ht
          refine u3_snd fun ρ a w v r hg hv hr => ?_
          obtain ⟨consts, hex⟩ := exec_builtin1 a .len x t dst ty ps after guard
          obtain ⟨z, k1, k2⟩ := snd_lenW P (ty := ty) ht ρ _ _ r w hv hr
          exact ⟨z, thru_val (s := Builtin.len_ #[t] ty #[a.eval x]) (by rw [hex]; rfl) k1, k2⟩
        · exact no3_snd
      · exact no3_snd
    · rename_i f
      have thru : ∀ {a : Act} {e : Array Value → Sem Value} {w w' : World} {y : Value}, XRun P f e → (e (args.map a.eval)).run P w = .ok y w' → Thru P o a w y w' := by
        intro a e w w' y hx hr
        refine .inl ?_
        rw [exec_call a ho (j := f) (xs := #[]) rfl, hx.run, Array.append_empty, hr]
        rfl
      split
      · rename_i y z hxt ha
        refine b3_snd fun ρ a w v v' r hg hv hv' hr => ?_
        obtain ⟨u, k1, k2⟩ := snd_cntW (P := P) (w := w) hg.ok hg.valR hv hv' hr
        refine ⟨u, thru (hX _ _ hxt) ?_, k2⟩
        rw [map_eval_toList a args ha]; exact k1
      · rename_i y z hxt ha
        refine b3_snd fun ρ a w v v' r hg hv hv' hr => ?_
        obtain ⟨u, k1, k2⟩ := snd_ixbW (P := P) (w := w) hg.ok hg.valR hv hv' hr
        refine ⟨u, thru (hX _ _ hxt) ?_, k2⟩
        rw [map_eval_toList a args ha]; exact k1
      · exact no3_snd
    · exact no3_snd
  · rename_i src dst x ho
    split
    · rename_i ks k hs hd
      refine u3_snd fun ρ a w v r hg hv hr => ?_
      obtain ⟨j, z, hx, hr2⟩ := hg.ok.cvt ρ hg.valR k _ r (cond_some hr).2 _ hv
      refine ⟨_, thru_val (s := convert src dst (a.eval x)) (by unfold execOp; rw [ho]) ?_, hr2⟩
      rw [hx]
      exact run_convert_int P w hs hd
    · rename_i hs hd
      refine u3_snd fun ρ a w v r hg hv hr => ?_
      obtain ⟨z, k1, k2⟩ := snd_idW P hs hd ρ _ _ r w hv hr
      exact ⟨z, thru_val (s := convert src dst (a.eval x)) (by unfold execOp; rw [ho]) k1, k2⟩
    · exact no3_snd
  · exact no3_snd
noncomputable def orP (c : OC) (f : List V → TS → Option V) : OC := match c with
  | .pu g => .pu fun L T => Option.casesOn (g L T) (f L T) some
  | c => c
theorem orP_snd {P : Program} {G : Ctx} {E : Env} {n : Nat} {o : Oper} {c : OC} {f : List V → TS → Option V} (hc : OCS P G E n o c) (hf : OCS P G E n o (.pu f)) : OCS P G E n o (orP c f) := by
  cases c with
  | pu g =>
    intro ρ L T a v w hn he hr
    cases hg : g L T with
    | none => simp only [hg] at hr; exact hf ρ L T a v w hn he hr
    | some v' => simp only [hg] at hr; injection hr with hr; subst hr; exact hc ρ L T a v' w hn he hg
  | _ => exact hc
/-- What nothing is known of ends the run. -/
noncomputable def failO : OC := .pu fun _ _ => none
theorem failO_snd {P : Program} {G : Ctx} {E : Env} {n : Nat} {o : Oper} : OCS P G E n o failO := by
  intro ρ L T a v w hn he hf; cases hf
noncomputable def cop (Y : TI) (XT : Nat → Option XK) (G : Ctx) (E : Env) (n : Nat) (o : Op) : OC :=
  match G.at_, copN Y XT G E n o with
  | false, some c => c
  | false, none => failO
  | true, some c => orP c (cop3 Y XT G E n o)
  | true, none => .pu (cop3 Y XT G E n o)
theorem cop_snd {P : Program} {XT : Nat → Option XK} (hX : ∀ f k, XT f = some k → XOk P f k) {G : Ctx} {E : Env} {n : Nat} {o : Oper} : OCS P G E n o (cop (tiOf P) XT G E n o.op) := by
  unfold cop
  split
  · rename_i c _ hc; exact copN_snd hX hc
  · exact failO_snd
  · rename_i c _ hc; exact orP_snd (copN_snd hX hc) (cop3_snd hX)
  · exact cop3_snd hX

end Go.Proofs.YtmbnogellhoheaaGreatDoor.Ev
