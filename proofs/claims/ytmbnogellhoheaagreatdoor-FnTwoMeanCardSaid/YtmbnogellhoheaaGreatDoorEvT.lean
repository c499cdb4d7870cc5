/- Operands: where an operation finds its values. -/
import Derived.Test.YtmbnogellhoheaaGreatDoorEvR
import Derived.Orders
namespace Go.Proofs.YtmbnogellhoheaaGreatDoor.Ev
open Go
variable {ρ : Rho}

/-- Where a value lies: on the region's list (from its beginning), in a slot, or it is written out. -/
inductive D where
  | l (m : Nat)
  | s (t : Nat)
  | c (v : V)
/-- What the region's text knows of the temporaries: the younger ones first. -/
abbrev Env := List (Nat × D)
def Env.look (E : Env) (t : Nat) : Option D := match E with
  | [] => none
  | (u, d) :: E => if u = t then some d else Env.look E t
/-- The same, for the kernel. -/
def Env.lookF (E : Env) (t : Nat) : Option D := match E with
  | [] => none
  | (u, d) :: E => bif Nat.beq u t then some d else Env.lookF E t
theorem Env.lookF_eq (t : Nat) : ∀ E : Env, E.lookF t = E.look t
  | [] => rfl
  | (u, d) :: E => by
    unfold Env.lookF Env.look
    by_cases h : u = t
    · rw [beq_yes h, if_pos h]; rfl
    · rw [beq_no h, if_neg h]; exact Env.lookF_eq t E
/-- What a name below 64 stands for that nobody writes: a block, or a value. -/
inductive Fx where
  | ob (r : Nat) (o : Obj)
  | v (x : Value)
/-- Atoms: the numbers and the things that they stand for; what operations on them give. -/
structure ATab where
  val : Pos → Option Nat
  fx : Pos → Option Fx
  bin : BinOp → V → V → Option V
  cvt : IntKind → V → Option V
def ValR (val : Pos → Option Nat) (ρ : Rho) : Prop := ∀ id m, val id = some m → ∃ q, ρ id = some q ∧ q.n = m
/-- What is told of operations on atoms is so. -/
structure ATab.OK (A : ATab) : Prop where
  bin : ∀ ρ, ValR A.val ρ → ∀ op v v' r, A.bin op v v' = some r → ∀ (P : Program) (t : TypeId) (ox oy : Operand) (w : World) (x x' : Value), VR ρ v x → VR ρ v' x' → ∃ y, (cbin op t ox oy x x').run P w = .ok y w ∧ VR ρ r y
  cvt : ∀ ρ, ValR A.val ρ → ∀ k v r, A.cvt k v = some r → ∀ x, VR ρ v x → ∃ j z, x = .int j z ∧ VR ρ r (.int k (k.wrap z))
/-- What a compiled function looks up: kept slots, globals' names. -/
structure Ctx where
  kept : Nat → Bool
  glob : Nat → Option Pos
  at_ : Bool
  tab : ATab
abbrev X := List V → TS → V
noncomputable def xl (k : Nat) : X := fun L _ => nth k L
noncomputable def xs (p : Pos) : X := fun _ T => T.get p
noncomputable def xc (v : V) : X := fun _ _ => v
noncomputable def D.x (n : Nat) : D → X
  | .l m => xl (n - 1 - m)
  | .s t => xs (pos t)
  | .c v => xc v
/-- A place is there, when the list has n values. -/
def D.ok (n : Nat) : D → Bool
  | .l m => decide (m < n)
  | _ => true
noncomputable def cxD (G : Ctx) (E : Env) : Operand → Option D
  | .tmp t => match E.lookF t with
    | some d => some d
    | none => bif G.kept t then some (.s t) else none
  | .const v => (cval v).map .c
  | .global g => (G.glob g).map fun p => .c (.p p 0)
  | .func f => some (.c (.f (pos f) []))

/-- Globals lie where the names say; names below 64 stand for what is told. -/
structure GR (G : Ctx) (ρ : Rho) : Prop where
  glob : ∀ g p, G.glob g = some p → p.val < 64 ∧ ∃ q, ρ p = some q ∧ q.r = g ∧ q.o = 0
  val : ∀ id m, G.tab.val id = some m → id.val < 64 ∧ ∃ q, ρ id = some q ∧ q.n = m
  fxo : ∀ id r o, G.tab.fx id = some (.ob r o) → id.val < 64 ∧ ∃ q, ρ id = some q ∧ q.r = r ∧ q.o = 0 ∧ q.ob = some o
  fxv : ∀ id x, G.tab.fx id = some (.v x) → id.val < 64 ∧ ∃ q, ρ id = some q ∧ q.v = some x
  ok : G.tab.OK
theorem GR.mono {G : Ctx} {ρ ρ' : Rho} (h : ρ.le ρ') (hg : GR G ρ) : GR G ρ' :=
  ⟨fun g p e => by obtain ⟨h0, q, h1, h2⟩ := hg.glob g p e; exact ⟨h0, q, h _ _ h1, h2⟩,
   fun id m e => by obtain ⟨h0, q, h1, h2⟩ := hg.val id m e; exact ⟨h0, q, h _ _ h1, h2⟩,
   fun id r o e => by obtain ⟨h0, q, h1, h2⟩ := hg.fxo id r o e; exact ⟨h0, q, h _ _ h1, h2⟩,
   fun id x e => by obtain ⟨h0, q, h1, h2⟩ := hg.fxv id x e; exact ⟨h0, q, h _ _ h1, h2⟩, hg.ok⟩
theorem GR.valR {G : Ctx} {ρ : Rho} (hg : GR G ρ) : ValR G.tab.val ρ := fun id m e => (hg.val id m e).2
theorem GR.cast {G G' : Ctx} {ρ : Rho} (hg : GR G ρ) (e1 : G'.glob = G.glob) (e2 : G'.tab = G.tab) : GR G' ρ :=
  ⟨fun g p e => hg.glob g p (by rw [← e1]; exact e), fun id m e => hg.val id m (by rw [← e2]; exact e), fun id r o e => hg.fxo id r o (by rw [← e2]; exact e), fun id x e => hg.fxv id x (by rw [← e2]; exact e), by rw [e2]; exact hg.ok⟩
/-- Names that stand for the same under another table of operations. -/
theorem GR.other {G G' : Ctx} {ρ : Rho} (hg : GR G ρ) (e1 : G'.glob = G.glob) (e2 : G'.tab.val = G.tab.val) (e3 : G'.tab.fx = G.tab.fx) (hok : G'.tab.OK) : GR G' ρ :=
  ⟨fun g p e => hg.glob g p (by rw [← e1]; exact e), fun id m e => hg.val id m (by rw [← e2]; exact e), fun id r o e => hg.fxo id r o (by rw [← e3]; exact e), fun id x e => hg.fxv id x (by rw [← e3]; exact e), hok⟩
/-- The temporaries of an act, as the evaluator's list and slots say them. -/
structure ER (G : Ctx) (ρ : Rho) (E : Env) (L : List V) (T : TS) (a : Act) : Prop where
  env : ∀ t d, E.look t = some d → d.ok L.length = true ∧ VR ρ (d.x L.length L T) (a.tmps.getD t undef)
  slot : ∀ t, E.look t = none → G.kept t = true → VR ρ (T.get (pos t)) (a.tmps.getD t undef)
  glob : GR G ρ
theorem ER.mono {G : Ctx} {ρ ρ' : Rho} {E : Env} {L : List V} {T : TS} {a : Act} (h : ρ.le ρ') (he : ER G ρ E L T a) : ER G ρ' E L T a :=
  ⟨fun t d e => ⟨(he.env t d e).1, VR.mono h _ _ (he.env t d e).2⟩, fun t e k => VR.mono h _ _ (he.slot t e k), he.glob.mono h⟩
theorem nth_push {L : List V} {m : Nat} (v : V) (h : m < L.length) : nth (L.length + 1 - 1 - m) (v :: L) = nth (L.length - 1 - m) L := by
  rw [nth_eq, nth_eq]
  have e : L.length + 1 - 1 - m = (L.length - 1 - m) + 1 := by omega
  rw [e, List.getElem?_cons_succ]
theorem D.x_push {d : D} {L : List V} {T : TS} (v : V) (h : d.ok L.length = true) : d.x (L.length + 1) (v :: L) T = d.x L.length L T := by
  cases d with
  | l m => exact nth_push v (by simpa [D.ok] using h)
  | s t => rfl
  | c v => rfl
theorem D.ok_push {d : D} {n : Nat} (h : d.ok n = true) : d.ok (n + 1) = true := by
  cases d with
  | l m => simp [D.ok] at h ⊢; omega
  | s t => rfl
  | c v => rfl
theorem cxD_snd {G : Ctx} {E : Env} {L : List V} {T : TS} {a : Act} (he : ER G ρ E L T a) {x : Operand} {d : D} (h : cxD G E x = some d) : d.ok L.length = true ∧ VR ρ (d.x L.length L T) (a.eval x) := by
  cases x with
  | tmp t =>
    simp only [cxD, Env.lookF_eq] at h
    cases hl : E.look t with
    | some d' =>
      rw [hl] at h
      injection h with h; subst h
      exact he.env t d' hl
    | none =>
      rw [hl] at h
      cases hk : G.kept t with
      | true =>
        rw [hk] at h
        have h : some (D.s t) = some d := h
        injection h with h; subst h
        exact ⟨rfl, he.slot t hl hk⟩
      | false => rw [hk] at h; cases h
  | const v =>
    obtain ⟨c, hc, rfl⟩ := Option.map_eq_some_iff.1 h
    exact ⟨rfl, cval_VR hc⟩
  | global g =>
    obtain ⟨p, hp, rfl⟩ := Option.map_eq_some_iff.1 h
    obtain ⟨-, q, hq, h1, h2⟩ := he.glob.glob g p hp
    refine ⟨rfl, ?_⟩
    show VR ρ (.p p 0) (.pointer (some ⟨g, 0, none⟩))
    unfold VR
    exact ⟨q, hq, by rw [h1, h2]⟩
  | func f =>
    simp only [cxD] at h
    injection h with h; subst h
    refine ⟨rfl, ?_⟩
    show VR ρ (.f (pos f) []) (.func (.func f) #[] #[])
    unfold VR
    exact ⟨f, rfl, rfl, rfl, by simp [VRs]⟩

/-- A temporary put: by a value that has just come onto the list. -/
theorem ER.push {G : Ctx} {E : Env} {L : List V} {T : TS} {a : Act} (he : ER G ρ E L T a) {v : V} {y : Value} (hv : VR ρ v y) {t : Nat} (ht : t < a.tmps.size) : ER G ρ ((t, .l L.length) :: E) (v :: L) T (a.put (some t) y) := by
  have hput : ∀ u, (a.put (some t) y).tmps.getD u undef = if u = t then y else a.tmps.getD u undef := fun u => by
    show (a.tmps.setIfInBounds t y).getD u undef = _
    by_cases h : u = t
    · subst h; simp [ht]
    · rw [if_neg h]; simp [Array.getElem?_setIfInBounds_ne (Ne.symm h)]
  refine ⟨fun u d hl => ?_, fun u hl hk => ?_, he.glob⟩
  · rw [hput]
    simp only [Env.look] at hl
    split at hl
    · rename_i e
      injection hl with hl; subst hl
      subst e
      rw [if_pos rfl]
      refine ⟨by simp [D.ok], ?_⟩
      show VR ρ (nth ((v :: L).length - 1 - L.length) (v :: L)) y
      have e0 : (v :: L).length - 1 - L.length = 0 := by simp
      rw [e0]; exact hv
    · rename_i e
      rw [if_neg (fun h => e h.symm)]
      obtain ⟨h1, h2⟩ := he.env u d hl
      exact ⟨D.ok_push h1, by rw [List.length_cons, D.x_push v h1]; exact h2⟩
  · rw [hput]
    simp only [Env.look] at hl
    split at hl
    · simp at hl
    · rename_i e
      rw [if_neg (fun h => e h.symm)]
      exact he.slot u hl hk
/-- A value that no temporary takes. -/
theorem ER.skip {G : Ctx} {E : Env} {L : List V} {T : TS} {a : Act} (he : ER G ρ E L T a) (v : V) : ER G ρ E (v :: L) T a :=
  ⟨fun u d hl => by obtain ⟨h1, h2⟩ := he.env u d hl; exact ⟨D.ok_push h1, by rw [List.length_cons, D.x_push v h1]; exact h2⟩, he.slot, he.glob⟩
/-- A temporary put: by a value that lies somewhere already. -/
theorem ER.alias {G : Ctx} {E : Env} {L : List V} {T : TS} {a : Act} (he : ER G ρ E L T a) {d : D} {y : Value} (hd : d.ok L.length = true) (hv : VR ρ (d.x L.length L T) y) {t : Nat} (ht : t < a.tmps.size) : ER G ρ ((t, d) :: E) L T (a.put (some t) y) := by
  have hput : ∀ u, (a.put (some t) y).tmps.getD u undef = if u = t then y else a.tmps.getD u undef := fun u => by
    show (a.tmps.setIfInBounds t y).getD u undef = _
    by_cases h : u = t
    · subst h; simp [ht]
    · rw [if_neg h]; simp [Array.getElem?_setIfInBounds_ne (Ne.symm h)]
  refine ⟨fun u d' hl => ?_, fun u hl hk => ?_, he.glob⟩
  · rw [hput]
    simp only [Env.look] at hl
    split at hl
    · rename_i e
      injection hl with hl; subst hl
      subst e
      rw [if_pos rfl]; exact ⟨hd, hv⟩
    · rename_i e
      rw [if_neg (fun h => e h.symm)]
      exact he.env u d' hl
  · rw [hput]
    simp only [Env.look] at hl
    split at hl
    · simp at hl
    · rename_i e
      rw [if_neg (fun h => e h.symm)]
      exact he.slot u hl hk

end Go.Proofs.YtmbnogellhoheaaGreatDoor.Ev

/- Operations in their classes: pure ones, reads, new blocks, effects. -/
namespace Go.Proofs.YtmbnogellhoheaaGreatDoor.Ev
open Go
variable {ρ : Rho}

inductive RC where
  | fail
  | mk (v : V) (nx : Pos) (bs : TB)
abbrev CallF := Pos → List V → Pos → TB → RC
/-- A compiled operation. -/
inductive OC where
  | pu (f : List V → TS → Option V)
  | ld (f : List V → TS → TB → Option V)
  | al (f : List V → TS → Option NV)
  | ef (f : CallF → List V → TS → Pos → TB → RC)

/-- What a run leaves behind: the operation is through, its temporary takes y. -/
def Thru (P : Program) (o : Oper) (a : Act) (w : World) (y : Value) (w' : World) : Prop :=
  (execOp a.eval o).run P w = .ok (.value y) w' ∨ ((execOp a.eval o).run P w = .ok .skip w' ∧ y = undef)
theorem Thru.wp {P : Program} {o : Oper} {a : Act} {w w' : World} {y : Value} (h : Thru P o a w y w') {next : Act → World → Prop} {Q : Exit → Act → World → Prop} (hn : next (a.put o.dst y) w') : o.wp P a w next Q := by
  unfold Oper.wp
  rcases h with h | ⟨h, rfl⟩
  · rw [h]; exact hn
  · rw [h]; exact hn
/-- A function of the evaluator's is a call of the model's. -/
def CallSnd (P : Program) (G : Ctx) (F : CallF) : Prop :=
  ∀ (ρ : Rho) (f : FuncId) (as : List V) (xs : Array Value) (nx nx' : Pos) (bs bs' : TB) (v : V) (w : World), GR G ρ → VRs ρ as xs.toList → HR ρ nx bs w → F (pos f) as nx bs = .mk v nx' bs' →
    (callFunc f xs).run P w = .ok (.enter f xs) w ∧ Calls P f xs w fun e w' => ∃ y ρ', e = .returned y ∧ VR ρ' v y ∧ HR ρ' nx' bs' w' ∧ Ext ρ nx bs w ρ' nx' bs' w'
theorem CallSnd.cast {P : Program} {G G' : Ctx} {F : CallF} (h : CallSnd P G F) (e1 : G'.glob = G.glob) (e2 : G'.tab = G.tab) : CallSnd P G' F := by
  intro ρ f as xs nx nx' bs bs' v w hg
  exact h ρ f as xs nx nx' bs bs' v w (hg.cast e1.symm e2.symm)
/-- What a compiled operation says of one of the model's, under an environment and so many values made. -/
def OCS (P : Program) (G : Ctx) (E : Env) (n : Nat) (o : Oper) : OC → Prop
  | .pu f => ∀ (ρ : Rho) (L : List V) (T : TS) (a : Act) (v : V) (w : World), L.length = n → ER G ρ E L T a → f L T = some v → ∃ y, Thru P o a w y w ∧ VR ρ v y
  | .ld f => ∀ (ρ : Rho) (L : List V) (T : TS) (a : Act) (nx : Pos) (bs : TB) (v : V) (w : World), L.length = n → ER G ρ E L T a → HR ρ nx bs w → f L T bs = some v → ∃ y, Thru P o a w y w ∧ VR ρ v y
  | .al f => ∀ (ρ : Rho) (L : List V) (T : TS) (a : Act) (v : NV) (w : World), L.length = n → ER G ρ E L T a → f L T = some v →
      ∃ res : Result Value, NSnd ρ w v res ∧ ∀ y w', res = .ok y w' → Thru P o a w y w'
  | .ef f => ∀ (F : CallF), CallSnd P G F → ∀ (ρ : Rho) (L : List V) (T : TS) (a : Act) (nx nx' : Pos) (bs bs' : TB) (v : V) (w : World), L.length = n → ER G ρ E L T a → HR ρ nx bs w → f F L T nx bs = .mk v nx' bs' →
      ∀ (next : Act → World → Prop) (Q : Exit → Act → World → Prop), (∀ ρ' y w', VR ρ' v y → HR ρ' nx' bs' w' → Ext ρ nx bs w ρ' nx' bs' w' → next (a.put o.dst y) w') → o.wp P a w next Q

theorem run_value {P : Program} {w w' : World} {s : Sem Value} {y : Value} (h : s.run P w = .ok y w') : (do pure (Next.value (← s)) : Sem Next).run P w = .ok (.value y) w' := by
  rw [Sem.run_bind, h]; rfl
theorem run_skip {P : Program} {w w' : World} {s : Sem Unit} (h : s.run P w = .ok () w') : (do s; pure Next.skip : Sem Next).run P w = .ok .skip w' := by
  rw [Sem.run_bind, h]; rfl

/-! ### pure operations of one and two operands -/
section
variable {P : Program} {G : Ctx} {E : Env} {n : Nat} {o : Oper}
theorem ocs_bin {op : BinOp} {t ty : TypeId} {x y : Operand} {dx dy : D} {g : V → V → Option V} (ho : o.op = .binOp op t x y ty) (hx : cxD G E x = some dx) (hy : cxD G E y = some dy) (hg : Snd2 P g (cbin op t x y)) :
    OCS P G E n o (.pu fun L T => g (dx.x n L T) (dy.x n L T)) := by
  intro ρ L T a v w hn he hf
  subst hn
  obtain ⟨z, h1, h2⟩ := hg ρ _ _ _ _ v w (cxD_snd he hx).2 (cxD_snd he hy).2 hf
  refine ⟨z, .inl ?_, h2⟩
  unfold execOp
  rw [ho]
  exact run_value h1
/-- An operation of one operand that is a run of values. -/
theorem ocs_one {c : Value → Sem Value} {x : Operand} {dx : D} {g : V → Option V} (ho : ∀ a : Act, execOp a.eval o = do pure (Next.value (← c (a.eval x)))) (hx : cxD G E x = some dx) (hg : Snd1 P g c) :
    OCS P G E n o (.pu fun L T => g (dx.x n L T)) := by
  intro ρ L T a v w hn he hf
  subst hn
  obtain ⟨z, h1, h2⟩ := hg ρ _ _ v w (cxD_snd he hx).2 hf
  exact ⟨z, .inl (by rw [ho]; exact run_value h1), h2⟩
theorem ocs_two {c : Value → Value → Sem Value} {x y : Operand} {dx dy : D} {g : V → V → Option V} (ho : ∀ a : Act, execOp a.eval o = do pure (Next.value (← c (a.eval x) (a.eval y)))) (hx : cxD G E x = some dx) (hy : cxD G E y = some dy) (hg : Snd2 P g c) :
    OCS P G E n o (.pu fun L T => g (dx.x n L T) (dy.x n L T)) := by
  intro ρ L T a v w hn he hf
  subst hn
  obtain ⟨z, h1, h2⟩ := hg ρ _ _ _ _ v w (cxD_snd he hx).2 (cxD_snd he hy).2 hf
  exact ⟨z, .inl (by rw [ho]; exact run_value h1), h2⟩
end

end Go.Proofs.YtmbnogellhoheaaGreatDoor.Ev

/- Compiled: operations of two operands. -/
namespace Go.Proofs.YtmbnogellhoheaaGreatDoor.Ev
open Go

/-- The evaluator's function for a binary operation. -/
noncomputable def binG (Y : TI) (op : BinOp) (t ty : TypeId) (x y : Operand) : Option (V → V → Option V) :=
  match Y.und t with
  | some (.int .i64) => match op with
    | .add => some addN | .sub => some subN | .mul => some mulN | .quo => some quoN | .rem => some remN
    | .eql => some eqlN | .neq => some neqN | .lss => some lssN | .leq => some leqN | .gtr => some gtrN | .geq => some geqN
    | .and => some andN | .or => some orN | .xor => some xorN
    | .shr => match Y.und ty with
      | some (.int .i64) => some shrN
      | _ => some shrK
    | _ => none
  | some (.int .u8) => match op with
    | .add => some addY | .sub => some subY
    | .eql => some eqlY | .neq => some neqY | .lss => some lssY | .leq => some leqY | .gtr => some gtrY | .geq => some geqY
    | _ => none
  | some .string => match op with
    | .add => some catS | .eql => some eqlS | .neq => some neqS | .lss => some lssS | .leq => some leqS | .gtr => some gtrS | .geq => some geqS
    | _ => none
  | some .bool => match op with
    | .eql => some eqlB | .neq => some neqB
    | _ => none
  | some (.slice _) => match op with
    | .eql => some eqlL | .neq => some neqL
    | _ => none
  | some (.pointer e) => match Y.inf e with
    | some _ => match op with
      | .eql => some (samP fun c => .b c) | .neq => some (samP fun c => .b (not c))
      | _ => none
    | none => none
  | some (.interface _) => if (isCon x || isCon y) = true then (match op with
      | .eql => some eqlI | .neq => some neqI
      | _ => none) else none
  | some (.struct fs) => if Y.sih t = false ∧ Y.egt t = false then (match eplan Y fs.toList with
      | some ps => match op with
        | .eql => some (eqlG ps) | .neq => some (neqG ps)
        | _ => none
      | none => none) else none
  | _ => none
theorem binG_snd (P : Program) {op : BinOp} {t ty : TypeId} {x y : Operand} {g : V → V → Option V} (h : binG (tiOf P) op t ty x y = some g) : Snd2 P g (cbin op t x y) := by
  unfold binG at h
  split at h
  · split at h
    all_goals first
      | (injection h with h; subst h; first | with_reducible exact snd_addN P t x y | with_reducible exact snd_subN P t x y | with_reducible exact snd_mulN P t x y | with_reducible exact snd_quoN P t x y | with_reducible exact snd_remN P t x y | with_reducible exact snd_eqlN P t x y | with_reducible exact snd_neqN P t x y | with_reducible exact snd_lssN P t x y | with_reducible exact snd_leqN P t x y | with_reducible exact snd_gtrN P t x y | with_reducible exact snd_geqN P t x y | with_reducible exact snd_andN P t x y | with_reducible exact snd_orN P t x y | with_reducible exact snd_xorN P t x y)
      | (split at h <;> (injection h with h; subst h; first | with_reducible exact snd_shrN P t x y | with_reducible exact snd_shrK P t x y))
      | cases h
  · split at h
    all_goals first
      | (injection h with h; subst h; first | with_reducible exact snd_addY P t x y | with_reducible exact snd_subY P t x y | with_reducible exact snd_eqlY P t x y | with_reducible exact snd_neqY P t x y | with_reducible exact snd_lssY P t x y | with_reducible exact snd_leqY P t x y | with_reducible exact snd_gtrY P t x y | with_reducible exact snd_geqY P t x y)
      | cases h
  · split at h
    all_goals first
      | (injection h with h; subst h; first | with_reducible exact snd_catS P t x y | with_reducible exact snd_eqlS P t x y | with_reducible exact snd_neqS P t x y | with_reducible exact snd_lssS P t x y | with_reducible exact snd_leqS P t x y | with_reducible exact snd_gtrS P t x y | with_reducible exact snd_geqS P t x y)
      | cases h
  · rename_i hu
    split at h
    all_goals first
      | (injection h with h; subst h; first | with_reducible exact snd_eqlB P t x y hu | with_reducible exact snd_neqB P t x y hu)
      | cases h
  · rename_i hu
    split at h
    all_goals first
      | (injection h with h; subst h; first | with_reducible exact snd_eqlL P x y hu | with_reducible exact snd_neqL P x y hu)
      | cases h
  · rename_i hu
    split at h
    · rename_i hi
      split at h
      all_goals first
        | (injection h with h; subst h; first | with_reducible exact snd_eqlPP P x y hu hi | with_reducible exact snd_neqPP P x y hu hi)
        | cases h
    · cases h
  · rename_i hu
    split at h
    · rename_i hc
      split at h
      all_goals first
        | (injection h with h; subst h; first | with_reducible exact snd_eqlI P hc hu | with_reducible exact snd_neqI P hc hu)
        | cases h
    · cases h
  · rename_i fs hu
    have hu : P.underlying t = some (.struct fs) := hu
    have hf : P.fieldsOf t = fs := by unfold Program.fieldsOf; rw [hu]
    have hu' : P.underlying t = some (.struct (P.fieldsOf t)) := by rw [hf]; exact hu
    split at h
    · rename_i hc
      split at h
      · rename_i ps hp
        rw [← hf] at hp
        split at h
        all_goals first
          | (injection h with h; subst h; first | with_reducible exact snd_eqlG P x y hu' hc.1 hc.2 hp | with_reducible exact snd_neqG P x y hu' hc.1 hc.2 hp)
          | cases h
      · cases h
    · cases h
  · cases h

end Go.Proofs.YtmbnogellhoheaaGreatDoor.Ev
