/- Drawn regions compiled. -/
import Derived.Test.YtmbnogellhoheaaGreatDoorEvXn
namespace Go.Proofs.YtmbnogellhoheaaGreatDoor.Ev
open Go
variable {ρ : Rho}

def tbit (m i : Nat) : Bool := Nat.beq (Nat.land (Nat.shiftRight m i) 1) 1
theorem tbit_eq (m i : Nat) : tbit m i = m.testBit i := by
  unfold tbit Nat.testBit
  have e : Nat.land (Nat.shiftRight m i) 1 = 1 &&& (m >>> i) := Nat.and_comm _ _
  rw [e]
  have h : 1 &&& (m >>> i) = 0 ∨ 1 &&& (m >>> i) = 1 := by
    rw [Nat.one_and_eq_mod_two]; omega
  rcases h with h | h <;> rw [h] <;> rfl
/-! ### lists walked by their recursor -/
noncomputable def an (a b : Bool) : Bool := Bool.rec (motive := fun _ => Bool) false b a
noncomputable def eor (a b : Bool) : Bool := Bool.rec (motive := fun _ => Bool) b true a
noncomputable def no (a : Bool) : Bool := Bool.rec (motive := fun _ => Bool) true false a
theorem an_eq (a b : Bool) : an a b = (a && b) := by cases a <;> rfl
theorem eor_eq (a b : Bool) : eor a b = (a || b) := by cases a <;> rfl
theorem no_eq (a : Bool) : no a = !a := by cases a <;> rfl
variable {α β : Type}
noncomputable def allR (p : α → Bool) (l : List α) : Bool := List.rec (motive := fun _ => Bool) true (fun a _ ih => Bool.rec (motive := fun _ => Bool) false ih (p a)) l
noncomputable def anyR (p : α → Bool) (l : List α) : Bool := List.rec (motive := fun _ => Bool) false (fun a _ ih => Bool.rec (motive := fun _ => Bool) ih true (p a)) l
noncomputable def findR (p : α → Bool) (l : List α) : Option α := List.rec (motive := fun _ => Option α) none (fun a _ ih => Bool.rec (motive := fun _ => Option α) ih (some a) (p a)) l
noncomputable def filR (p : α → Bool) (l : List α) : List α := List.rec (motive := fun _ => List α) [] (fun a _ ih => Bool.rec (motive := fun _ => List α) ih (a :: ih) (p a)) l
noncomputable def mapR (f : α → β) (l : List α) : List β := List.rec (motive := fun _ => List β) [] (fun a _ ih => f a :: ih) l
noncomputable def snocR (l : List α) (x : α) : List α := List.rec (motive := fun _ => List α) [x] (fun a _ ih => a :: ih) l
noncomputable def nthR (l : List α) (i : Nat) : Option α := List.rec (motive := fun _ => Nat → Option α) (fun _ => none) (fun a _ ih i => Bool.rec (motive := fun _ => Option α) (ih (Nat.sub i 1)) (some a) (Nat.beq i 0)) l i
theorem allR_eq (p : α → Bool) : ∀ l, allR p l = l.all p
  | [] => rfl
  | a :: l => by
    show Bool.rec (motive := fun _ => Bool) false (allR p l) (p a) = _
    rw [allR_eq p l, List.all_cons]; cases p a <;> rfl
theorem anyR_eq (p : α → Bool) : ∀ l, anyR p l = l.any p
  | [] => rfl
  | a :: l => by
    show Bool.rec (motive := fun _ => Bool) (anyR p l) true (p a) = _
    rw [anyR_eq p l, List.any_cons]; cases p a <;> rfl
theorem findR_eq (p : α → Bool) : ∀ l, findR p l = l.find? p
  | [] => rfl
  | a :: l => by
    show Bool.rec (motive := fun _ => Option α) (findR p l) (some a) (p a) = _
    rw [findR_eq p l, List.find?_cons]; cases p a <;> rfl
theorem filR_eq (p : α → Bool) : ∀ l, filR p l = l.filter p
  | [] => rfl
  | a :: l => by
    show Bool.rec (motive := fun _ => List α) (filR p l) (a :: filR p l) (p a) = _
    rw [filR_eq p l, List.filter_cons]; cases p a <;> rfl
theorem mapR_eq (f : α → β) : ∀ l, mapR f l = l.map f
  | [] => rfl
  | a :: l => by
    show f a :: mapR f l = _
    rw [mapR_eq f l]; rfl
theorem snocR_eq (x : α) : ∀ l : List α, snocR l x = l ++ [x]
  | [] => rfl
  | a :: l => by
    show a :: snocR l x = _
    rw [snocR_eq x l]; rfl
theorem nthR_eq : ∀ (l : List α) (i : Nat), nthR l i = l[i]?
  | [], i => rfl
  | a :: l, 0 => rfl
  | a :: l, i + 1 => by
    show nthR l (i + 1 - 1) = _
    rw [nthR_eq l]; rfl

/-! ### what is ahead of an operation; which effects it isn't ordered with -/
noncomputable def ancE (as : List Nat) (e : Edge) : Nat := Bool.rec (motive := fun _ => Nat) 0 (Nat.lor (Nat.pow 2 e.on) (Option.rec (motive := fun _ => Nat) 0 (fun a => a) (nthR as e.on))) (Region.binds .any e)
noncomputable def ancP (as : List Nat) (e : Edge) (s : Nat) : Nat := Bool.rec (motive := fun _ => Nat) (Nat.lor (ancE as e) s) s (tbit s e.on)
noncomputable def ancO (as : List Nat) (es : List Edge) : Nat := List.rec (motive := fun _ => Nat) 0 (fun e _ ih => ancP as e ih) es
noncomputable def ancs (os : List Oper) (as : List Nat) : List Nat := List.rec (motive := fun _ => List Nat → List Nat) (fun as => as) (fun o _ ih as => ih (snocR as (ancO as o.after.toList))) os as
theorem ancO_spec {as : List Nat} {j : Nat} : ∀ {es : List Edge}, (ancO as es).testBit j = true → ∃ e ∈ es, Region.binds .any e = true ∧ (e.on = j ∨ ∃ a, as[e.on]? = some a ∧ a.testBit j = true)
  | [], h => by
    have h : (0 : Nat).testBit j = true := h
    simp at h
  | e :: es, h => by
    have h : (ancE as e).testBit j = true ∨ (ancO as es).testBit j = true := by
      have h : (ancP as e (ancO as es)).testBit j = true := h
      unfold ancP at h
      cases hb : tbit (ancO as es) e.on with
      | true => rw [hb] at h; exact .inr h
      | false =>
        rw [hb] at h
        have h : (ancE as e ||| ancO as es).testBit j = true := h
        rwa [Nat.testBit_or, Bool.or_eq_true] at h
    rcases h with h | h
    · unfold ancE at h
      cases hb : Region.binds .any e with
      | false =>
        rw [hb] at h
        have h : (0 : Nat).testBit j = true := h
        simp at h
      | true =>
        rw [hb, nthR_eq] at h
        have h : (2 ^ e.on ||| (Option.rec (motive := fun _ => Nat) 0 (fun a => a) as[e.on]?)).testBit j = true := h
        rw [Nat.testBit_or, Bool.or_eq_true, Nat.testBit_two_pow] at h
        refine ⟨e, List.mem_cons_self, hb, ?_⟩
        rcases h with h | h
        · exact .inl (of_decide_eq_true h)
        · cases ha : as[e.on]? with
          | none =>
            rw [ha] at h
            have h : (0 : Nat).testBit j = true := h
            simp at h
          | some a => rw [ha] at h; exact .inr ⟨a, rfl, h⟩
    · obtain ⟨e', h1, h2⟩ := ancO_spec h
      exact ⟨e', List.mem_cons_of_mem _ h1, h2⟩
def isEff (XT : Nat → Option XK) : Op → Bool
  | .store _ _ _ => true
  | .call c => match c.callee with
    | .builtin .append | .builtin .copy | .builtin .unsafeString => true
    | .value (.func f) => match XT f with | some _ => false | none => true
    | .value _ => true
    | _ => false
  | _ => false
/-- Effects: the place, what is ahead, the number. -/
noncomputable def effs (XT : Nat → Option XK) (os : List Oper) (as : List Nat) : List (Nat × Nat × Nat) :=
  List.rec (motive := fun _ => List Nat → Nat → Nat → List (Nat × Nat × Nat)) (fun _ _ _ => []) (fun o _ ih as i q => Bool.rec (motive := fun _ => List (Nat × Nat × Nat)) (ih as.tail (Nat.add i 1) q) ((i, as.headD 0, Nat.add q 1) :: ih as.tail (Nat.add i 1) (Nat.add q 1)) (isEff XT o.op)) os as 0 0
noncomputable def maxB (a b : Nat) : Nat := Bool.rec (motive := fun _ => Nat) a b (Nat.ble a b)
noncomputable def minB (a b : Nat) : Nat := Bool.rec (motive := fun _ => Nat) b a (Nat.ble a b)
noncomputable def upR (lo n k0 : Nat) : List Nat := Nat.rec (motive := fun _ => List Nat) [] (fun j ih => Bool.rec (motive := fun _ => List Nat) (Nat.add lo j :: ih) ih (Nat.beq (Nat.add lo j) k0)) n
/-- Further versions at which a load is looked at. -/
noncomputable def ksOf (a : Nat) (es : List (Nat × Nat × Nat)) (i k0 : Nat) : List Nat :=
  let lo := List.rec (motive := fun _ => Nat) 0 (fun p _ ih => Bool.rec (motive := fun _ => Nat) ih (maxB p.2.2 ih) (tbit a p.1)) es
  let hi := List.rec (motive := fun _ => Nat) (Nat.add es.length 1) (fun p _ ih => Bool.rec (motive := fun _ => Nat) ih (minB p.2.2 ih) (tbit p.2.1 i)) es
  upR lo (Nat.sub hi lo) k0
def efOf (it : It) : Option (Nat × List Nat) := match it.c with | .ef _ q A => some (q, A) | _ => none
def rsOf (it : It) : Option Nat := match it.c with | .rs _ j => some j | _ => none
def ldOf (it : It) : Option (Nat × List Nat) := match it.c with | .ld _ k0 ks => some (k0, ks) | _ => none
noncomputable def memB (j : Nat) (A : List Nat) : Bool := anyR (Nat.beq j) A
noncomputable def taken (prev : List It) (j : Nat) : Bool := anyR (fun it => match efOf it with | some (_, A) => memB j A | none => false) prev
/-- The new blocks that an effect finds live: those ahead of it that nobody took. -/
noncomputable def takes (prev : List It) (anc : Nat) : List Nat := List.rec (motive := fun _ => List Nat) [] (fun it _ ih => match rsOf it with | some j => Bool.rec (motive := fun _ => List Nat) ih (j :: ih) (an (tbit anc it.i) (no (taken prev j))) | none => ih) prev
noncomputable def lasts (its : List It) : List Nat := List.rec (motive := fun _ => List Nat) [] (fun it _ ih => match rsOf it with | some j => Bool.rec (motive := fun _ => List Nat) (j :: ih) ih (taken its j) | none => ih) its

def tmpsOf : List Operand → List Tmp
  | [] => []
  | .tmp t :: xs => t :: tmpsOf xs
  | _ :: xs => tmpsOf xs
def dstB (t : Tmp) (it : It) : Bool := match it.o.dst with | some u => Nat.beq u t | none => false
noncomputable def writer (prev : List It) (anc : Nat) (t : Tmp) : Option It := findR (fun it => an (dstB t it) (tbit anc it.i)) prev
noncomputable def envI (prev : List It) (anc : Nat) : List Tmp → Env
  | [] => []
  | t :: ts => match writer prev anc t with
    | some it => (t, it.d) :: envI prev anc ts
    | none => envI prev anc ts
noncomputable def slI (prev : List It) (anc : Nat) (ts : List Tmp) : List Tmp := filR (fun t => match writer prev anc t with | some _ => false | none => true) ts
noncomputable def guardI (prev : List It) (anc : Nat) (o : Oper) : Option (Option (D × Bool)) := match o.guard with
  | none => some none
  | some (j, w) => match findR (fun it => an (Nat.beq it.i j) (tbit anc it.i)) prev with
    | some it => match it.o.dst with
      | some _ => some (some (it.d, w))
      | none => none
    | none => none
noncomputable def edgeB (i : Nat) (es : List Edge) : Bool := allR (fun e => eor (no (Region.binds .any e)) (Nat.ble (Nat.add e.on 1) i)) es
noncomputable def kindI (Y : TI) (XT : Nat → Option XK) (G : Ctx) (E : Env) (n q r : Nat) (o : Op) (ks : List Nat) (A : List Nat) (al : Option D) : Option (D × KC) := match al with
  | some d => some (d, .al)
  | none => match cop Y XT G E n o with
    | .pu f => some (.l n, .pu f)
    | .ld f => some (.l n, .ld f q ks)
    | .al f => some (.l n, .rs f r)
    | .ef f => some (.l n, .ef f (q + 1) A)
noncomputable def mkIt (Y : TI) (XT : Nat → Option XK) (G : Ctx) (es : List (Nat × Nat × Nat)) (prev : List It) (i n q r : Nat) (o : Oper) : Option It :=
  let anc := ancO (mapR (fun it => it.anc) prev) o.after.toList
  let ts := tmpsOf o.op.operands.toList
  let E := envI prev anc ts
  let sl := slI prev anc ts
  let G' : Ctx := ⟨fun t => an (memB t sl) (G.kept t), G.glob, G.at_, G.tab⟩
  match edgeB i o.after.toList with
  | true => match guardI prev anc o with
    | none => none
    | some g => match kindI Y XT G' E n q r o.op (ksOf anc es i q) (takes prev anc) (match g, isMove o.op with | none, some x => cxD G' E x | _, _ => none) with
      | some (d, c) => some ⟨i, anc, o, n, d, g, c, E, sl⟩
      | none => none
  | false => none
noncomputable def dits (Y : TI) (XT : Nat → Option XK) (G : Ctx) (es : List (Nat × Nat × Nat)) : List Oper → List It → Nat → Nat → Nat → Nat → Option (List It)
  | [], prev, _, _, _, _ => some prev
  | o :: os, prev, i, n, q, r => match mkIt Y XT G es prev i n q r o with
    | some it => dits Y XT G es os (snocR prev it) (i + 1) (n + it.c.dn) (q + it.c.dq) (r + it.c.dr)
    | none => none

/-! ### what they say of themselves -/
theorem envI_spec {prev : List It} {anc : Nat} {t : Tmp} {d : D} : ∀ {ts : List Tmp}, (envI prev anc ts).look t = some d → ∃ it ∈ prev, it.o.dst = some t ∧ anc.testBit it.i = true ∧ it.d = d
  | [], h => by cases h
  | u :: ts, h => by
    unfold envI at h
    cases hw : writer prev anc u with
    | none => rw [hw] at h; exact envI_spec h
    | some it =>
      rw [hw] at h
      simp only [Env.look] at h
      split at h
      · rename_i e
        subst e
        injection h with h
        unfold writer at hw
        rw [findR_eq] at hw
        have h1 := List.find?_some hw
        rw [an_eq, Bool.and_eq_true, tbit_eq] at h1
        refine ⟨it, List.mem_of_find?_eq_some hw, ?_, h1.2, h⟩
        have h2 := h1.1
        unfold dstB at h2
        cases hd : it.o.dst with
        | none => rw [hd] at h2; cases h2
        | some v => rw [hd] at h2; rw [Nat.eq_of_beq_eq_true h2]
      · exact envI_spec h
theorem edgeB_spec {i : Nat} {es : List Edge} (h : edgeB i es = true) : ∀ e ∈ es, Region.binds .any e = true → e.on < i := fun e he hb => by
  unfold edgeB at h
  rw [allR_eq] at h
  have := List.all_eq_true.1 h e he
  rw [eor_eq, no_eq, hb] at this
  exact Nat.le_of_ble_eq_true (by simpa using this)
def KCS (P : Program) (G : Ctx) (E : Env) (n : Nat) (o : Oper) : KC → Prop
  | .al => False
  | .pu f => OCS P G E n o (.pu f)
  | .ld f _ _ => OCS P G E n o (.ld f)
  | .rs f _ => OCS P G E n o (.al f)
  | .ef f _ _ => OCS P G E n o (.ef f)
theorem kindI_none {P : Program} {XT : Nat → Option XK} (hX : ∀ f k, XT f = some k → XOk P f k) {G : Ctx} {E : Env} {n q r : Nat} {o : Oper} {ks A : List Nat} {d : D} {c : KC} (h : (match cop (tiOf P) XT G E n o.op with
    | .pu f => some (.l n, .pu f)
    | .ld f => some (.l n, .ld f q ks)
    | .al f => some (.l n, .rs f r)
    | .ef f => some (.l n, .ef f (q + 1) A)) = some (d, c)) : KCS P G E n o c := by
  have hcs := cop_snd (P := P) (G := G) (E := E) (n := n) (o := o) hX
  generalize cop (tiOf P) XT G E n o.op = cc at h hcs
  cases cc <;> (injection h with h; injection h with e1 e2; subst e2; exact hcs)
structure MkS (P : Program) (G : Ctx) (prev : List It) (i : Nat) (o : Oper) (it : It) : Prop where
  ei : it.i = i
  eo : it.o = o
  anc : ∀ j, it.anc.testBit j = true → ∃ e ∈ o.after, Region.binds .any e = true ∧ (e.on = j ∨ ∃ it', prev[e.on]? = some it' ∧ it'.anc.testBit j = true)
  edge : ∀ e ∈ o.after, Region.binds .any e = true → e.on < i
  env : ∀ t d, it.E.look t = some d → ∃ it' ∈ prev, it'.o.dst = some t ∧ it.anc.testBit it'.i = true ∧ it'.d = d
  gd : ∀ d w, it.g = some (d, w) → ∃ t it', o.guard = some (it'.i, w) ∧ it' ∈ prev ∧ it'.o.dst = some t ∧ it.anc.testBit it'.i = true ∧ it'.d = d
  gn : it.g = none → o.guard = none
  ok : it.OK P G
theorem memB_contains (t : Nat) (sl : List Nat) : memB t sl = sl.contains t := by
  unfold memB
  rw [anyR_eq, List.contains_eq_any_beq]
  congr 1
  funext x
  rw [Bool.eq_iff_iff, beq_iff_eq]
  exact ⟨fun h => Nat.eq_of_beq_eq_true h, fun h => h ▸ Nat.beq_refl t⟩
theorem keptI (G : Ctx) (sl : List Tmp) (t : Tmp) : an (memB t sl) (G.kept t) = (sl.contains t && G.kept t) := by rw [an_eq, memB_contains]
theorem mkIt_spec {P : Program} {XT : Nat → Option XK} (hX : ∀ f k, XT f = some k → XOk P f k) {G : Ctx} {es : List (Nat × Nat × Nat)} {prev : List It} {i n q r : Nat} {o : Oper} {it : It} (h : mkIt (tiOf P) XT G es prev i n q r o = some it) : MkS P G prev i o it := by
  unfold mkIt at h
  simp only [keptI] at h
  split at h
  case h_2 => cases h
  rename_i hed
  split at h
  · cases h
  rename_i g hg
  split at h
  case h_2 => cases h
  rename_i d c hk
  injection h with h
  subst h
  refine ⟨rfl, rfl, fun j hj => ?_, fun e he hb => edgeB_spec hed e (Array.mem_toList_iff.2 he) hb, fun t d hl => envI_spec hl, fun d' w hgw => ?_, fun hgn => ?_, ?_⟩
  · obtain ⟨e, h1, h2, h3⟩ := ancO_spec hj
    refine ⟨e, Array.mem_toList_iff.1 h1, h2, h3.imp id ?_⟩
    rintro ⟨a, ha, hb⟩
    rw [mapR_eq, List.getElem?_map] at ha
    obtain ⟨it', h4, h5⟩ := Option.map_eq_some_iff.1 ha
    exact ⟨it', h4, by rw [h5]; exact hb⟩
  · simp only at hgw
    subst hgw
    unfold guardI at hg
    split at hg
    · cases hg
    · rename_i j w' hog
      split at hg
      case h_2 => cases hg
      rename_i it' hf
      rw [findR_eq] at hf
      split at hg
      case h_2 => cases hg
      rename_i t hd
      injection hg with hg; injection hg with hg; injection hg with e1 e2
      subst e1; subst e2
      have h1 := List.find?_some hf
      rw [an_eq, Bool.and_eq_true, tbit_eq] at h1
      refine ⟨t, it', ?_, List.mem_of_find?_eq_some hf, hd, h1.2, rfl⟩
      rw [Nat.eq_of_beq_eq_true h1.1]; exact hog
  · simp only at hgn
    subst hgn
    unfold guardI at hg
    split at hg
    · assumption
    · split at hg
      · split at hg <;> cases hg
      · cases hg
  · unfold kindI at hk
    split at hk
    · rename_i d' hal
      injection hk with hk; injection hk with e1 e2; subst e1; subst e2
      split at hal
      case h_2 => cases hal
      rename_i x hmv
      exact ⟨rfl, x, hmv, hal⟩
    · have hk := kindI_none hX hk
      unfold It.OK
      cases c <;> first | exact hk | exact hk.elim
theorem dits_spec {P : Program} {XT : Nat → Option XK} {G : Ctx} {es : List (Nat × Nat × Nat)} : ∀ {os : List Oper} {prev : List It} {i n q r : Nat} {its : List It}, dits (tiOf P) XT G es os prev i n q r = some its → i = prev.length →
    prev <+: its ∧ its.length = prev.length + os.length ∧ ∀ (k : Nat) (o : Oper), os[k]? = some o → ∃ it n q r, its[prev.length + k]? = some it ∧ mkIt (tiOf P) XT G es (its.take (prev.length + k)) (prev.length + k) n q r o = some it
  | [], prev, i, n, q, r, its, h, hi => by
    injection h with h; subst h
    exact ⟨List.prefix_refl _, rfl, fun k o ho => by simp at ho⟩
  | o :: os, prev, i, n, q, r, its, h, hi => by
    unfold dits at h
    split at h
    case h_2 => cases h
    rename_i it hit
    rw [snocR_eq] at h
    obtain ⟨h1, h2, h3⟩ := dits_spec h (by simp [hi])
    have hp : prev <+: its := (List.prefix_append prev [it]).trans h1
    have htake : its.take prev.length = prev := by
      obtain ⟨t, rfl⟩ := hp
      exact List.take_left
    refine ⟨hp, by rw [h2]; simp; omega, fun k o' ho => ?_⟩
    cases k with
    | zero =>
      simp at ho; subst ho
      refine ⟨it, n, q, r, ?_, ?_⟩
      · obtain ⟨t, rfl⟩ := h1
        simp
      · rw [Nat.add_zero, htake, ← hi]; exact hit
    | succ k =>
      simp at ho
      obtain ⟨it', n', q', r', e1, e2⟩ := h3 k o' ho
      have e : (prev ++ [it]).length + k = prev.length + (k + 1) := by simp; omega
      rw [e] at e1 e2
      exact ⟨it', n', q', r', e1, e2⟩

/-! ### what is checked -/
noncomputable def nodupB : List Nat → Bool
  | [] => true
  | j :: A => an (no (memB j A)) (nodupB A)
noncomputable def chk1 (N n : Nat) (it : It) : Bool := an (okDst N it.o.dst) (an (it.d.ok n) (allR (fun p => p.2.ok it.n) it.E))
/-- The slots written, each by one operation. -/
noncomputable def uqM (its : List It) : Option Nat := List.rec (motive := fun _ => Option Nat) (some 0) (fun it _ ih => Option.rec (motive := fun _ => Option Nat) none (fun m => Option.rec (motive := fun _ => Option Nat) (some m) (fun t => Bool.rec (motive := fun _ => Option Nat) (some (Nat.lor m (Nat.pow 2 t))) none (tbit m t)) it.o.dst) ih) its
noncomputable def chkT (it it' : It) (t : Tmp) : Bool := match it'.o.dst with | some u => eor (no (Nat.beq u t)) (tbit it'.anc it.i) | none => true
noncomputable def chkS (m : Nat) (its : List It) (it : It) : Bool := allR (fun t => Bool.rec (motive := fun _ => Bool) true (allR (fun it' => chkT it it' t) its) (tbit m t)) it.sl
noncomputable def chkE (it it' : It) : Bool := match efOf it, efOf it' with
  | some (q, A), some (q', A') => an (eor (no (Nat.ble (Nat.add q' 1) q)) (tbit it.anc it'.i)) (an (eor (no (Nat.beq q' q)) (Nat.beq it'.i it.i)) (eor (Nat.beq it.i it'.i) (allR (fun j => no (memB j A')) A)))
  | _, _ => true
noncomputable def chkR (it it' : It) : Bool := match rsOf it, rsOf it' with
  | some j, some j' => eor (no (Nat.beq j j')) (Nat.beq it'.i it.i)
  | _, _ => true
def hasEf (it : It) : Bool := match efOf it with | some _ => true | none => false
def hasRs (it : It) : Bool := match rsOf it with | some _ => true | none => false
def isEfq (q : Nat) (it : It) : Bool := match efOf it with | some (q', _) => Nat.beq q' q | none => false
noncomputable def chk2 (ef rs : List It) (Qn Rn : Nat) (Ae : List Nat) (it : It) : Bool := match efOf it with
  | some (q, A) => an (Nat.ble 1 q) (an (Nat.ble q Qn) (an (nodupB A) (an (eor (Nat.beq q 1) (anyR (isEfq (Nat.sub q 1)) ef))
    (allR (fun j => an (no (memB j Ae)) (an (Nat.ble (Nat.add j 1) Rn) (anyR (fun it' => match rsOf it' with | some j' => an (Nat.beq j' j) (tbit it.anc it'.i) | none => false) rs))) A))))
  | none => true
def chk3 (Rn : Nat) (it : It) : Bool := match rsOf it with | some j => Nat.ble (Nat.add j 1) Rn | none => true
noncomputable def loB (a : Nat) (ef : List It) : Nat := List.rec (motive := fun _ => Nat) 0 (fun it _ ih => Option.rec (motive := fun _ => Nat) ih (fun p => Bool.rec (motive := fun _ => Nat) ih (maxB p.1 ih) (tbit a it.i)) (efOf it)) ef
noncomputable def hiB (i d : Nat) (ef : List It) : Nat := List.rec (motive := fun _ => Nat) d (fun it _ ih => Option.rec (motive := fun _ => Nat) ih (fun p => Bool.rec (motive := fun _ => Nat) ih (minB p.1 ih) (tbit it.anc i)) (efOf it)) ef
noncomputable def rngB (lo n k0 : Nat) (ks : List Nat) : Bool := Nat.rec (motive := fun _ => Bool) true (fun j ih => Bool.rec (motive := fun _ => Bool) false ih (eor (Nat.beq (Nat.add lo j) k0) (memB (Nat.add lo j) ks))) n
noncomputable def chk4 (ef : List It) (Qn : Nat) (it : It) : Bool := match ldOf it with
  | some (k0, ks) => rngB (loB it.anc ef) (Nat.sub (hiB it.i (Nat.add Qn 1) ef) (loB it.anc ef)) k0 ks
  | none => true
noncomputable def chk5 (rs : List It) (Rn : Nat) (Ae : List Nat) : Bool := an (nodupB Ae) (allR (fun j => an (Nat.ble (Nat.add j 1) Rn) (anyR (fun it' => match rsOf it' with | some j' => Nat.beq j' j | none => false) rs)) Ae)
noncomputable def dchkM (N n Qn Rn : Nat) (its ef rs : List It) (Ae : List Nat) (m : Nat) : Bool :=
  an (allR (fun it => an (chk1 N n it) (an (chk2 ef rs Qn Rn Ae it) (an (chk3 Rn it) (an (chk4 ef Qn it) (chkS m its it))))) its)
    (an (allR (fun it => allR (chkE it) ef) ef) (an (allR (fun it => allR (chkR it) rs) rs)
    (an (eor (Nat.beq Qn 0) (anyR (isEfq Qn) ef)) (chk5 rs Rn Ae))))
noncomputable def dchk (N n Qn Rn : Nat) (its : List It) (Ae : List Nat) : Bool := Option.rec (motive := fun _ => Bool) false (fun m => dchkM N n Qn Rn its (filR hasEf its) (filR hasRs its) Ae m) (uqM its)

theorem uqM_spec : ∀ {its : List It} {m : Nat}, uqM its = some m → (∀ it ∈ its, ∀ t, it.o.dst = some t → m.testBit t = true) ∧ ∀ it ∈ its, ∀ it' ∈ its, ∀ t, it.o.dst = some t → it'.o.dst = some t → it = it'
  | [], m, _ => ⟨fun it hm => by simp at hm, fun it hm => by simp at hm⟩
  | x :: its, m, h => by
    have h : Option.rec (motive := fun _ => Option Nat) none (fun m => Option.rec (motive := fun _ => Option Nat) (some m) (fun t => Bool.rec (motive := fun _ => Option Nat) (some (Nat.lor m (Nat.pow 2 t))) none (tbit m t)) x.o.dst) (uqM its) = some m := h
    cases hu : uqM its with
    | none => rw [hu] at h; cases h
    | some m0 =>
      rw [hu] at h
      obtain ⟨i1, i2⟩ := uqM_spec hu
      cases hd : x.o.dst with
      | none =>
        rw [hd] at h
        injection h with h; subst h
        refine ⟨fun it hm t ht => ?_, fun it hm it' hm' t h1 h2 => ?_⟩
        · cases hm with
          | head => rw [hd] at ht; cases ht
          | tail _ hm => exact i1 it hm t ht
        · cases hm with
          | head => rw [hd] at h1; cases h1
          | tail _ hm => cases hm' with
            | head => rw [hd] at h2; cases h2
            | tail _ hm' => exact i2 it hm it' hm' t h1 h2
      | some u =>
        rw [hd] at h
        cases hb : tbit m0 u with
        | true => simp only [hb] at h; cases h
        | false =>
          simp only [hb] at h
          injection h with h
          have h : m0 ||| 2 ^ u = m := h
          subst h
          have hno : ∀ it ∈ its, it.o.dst ≠ some u := fun it hm e => by
            have := i1 it hm u e
            rw [← tbit_eq, hb] at this; cases this
          refine ⟨fun it hm t ht => ?_, fun it hm it' hm' t h1 h2 => ?_⟩
          · rw [Nat.testBit_or, Bool.or_eq_true, Nat.testBit_two_pow]
            cases hm with
            | head => rw [hd] at ht; injection ht with ht; subst ht; exact .inr (by simp)
            | tail _ hm => exact .inl (i1 it hm t ht)
          · cases hm with
            | head =>
              rw [hd] at h1; injection h1 with h1; subst h1
              cases hm' with
              | head => rfl
              | tail _ hm' => exact absurd h2 (hno it' hm')
            | tail _ hm => cases hm' with
              | head => rw [hd] at h2; injection h2 with h2; subst h2; exact absurd h1 (hno it hm)
              | tail _ hm' => exact i2 it hm it' hm' t h1 h2
theorem maxB_le {a b k : Nat} (h1 : a ≤ k) (h2 : b ≤ k) : maxB a b ≤ k := by
  unfold maxB; cases Nat.ble a b <;> assumption
theorem minB_gt {a b k : Nat} (h1 : k < a) (h2 : k < b) : k < minB a b := by
  unfold minB; cases Nat.ble a b <;> assumption
theorem loB_le {a k : Nat} : ∀ {ef : List It}, (∀ it ∈ ef, ∀ p, efOf it = some p → tbit a it.i = true → p.1 ≤ k) → loB a ef ≤ k
  | [], _ => Nat.zero_le _
  | x :: ef, h => by
    have ih := loB_le (ef := ef) fun it hm => h it (List.mem_cons_of_mem _ hm)
    show Option.rec (motive := fun _ => Nat) (loB a ef) (fun p => Bool.rec (motive := fun _ => Nat) (loB a ef) (maxB p.1 (loB a ef)) (tbit a x.i)) (efOf x) ≤ k
    cases he : efOf x with
    | none => exact ih
    | some p =>
      cases hb : tbit a x.i with
      | false => exact ih
      | true => exact maxB_le (h x List.mem_cons_self p he hb) ih
theorem hiB_gt {i d k : Nat} (hd : k < d) : ∀ {ef : List It}, (∀ it ∈ ef, ∀ p, efOf it = some p → tbit it.anc i = true → k < p.1) → k < hiB i d ef
  | [], _ => hd
  | x :: ef, h => by
    have ih := hiB_gt hd (ef := ef) fun it hm => h it (List.mem_cons_of_mem _ hm)
    show k < Option.rec (motive := fun _ => Nat) (hiB i d ef) (fun p => Bool.rec (motive := fun _ => Nat) (hiB i d ef) (minB p.1 (hiB i d ef)) (tbit x.anc i)) (efOf x)
    cases he : efOf x with
    | none => exact ih
    | some p =>
      cases hb : tbit x.anc i with
      | false => exact ih
      | true => exact minB_gt (h x List.mem_cons_self p he hb) ih
theorem rngB_spec {lo k0 : Nat} {ks : List Nat} : ∀ {n : Nat}, rngB lo n k0 ks = true → ∀ j, j < n → lo + j = k0 ∨ anyR (Nat.beq (lo + j)) ks = true
  | 0, _, j, hj => absurd hj (Nat.not_lt_zero _)
  | n + 1, h, j, hj => by
    have h : Bool.rec (motive := fun _ => Bool) false (rngB lo n k0 ks) (eor (Nat.beq (Nat.add lo n) k0) (memB (Nat.add lo n) ks)) = true := h
    cases hb : eor (Nat.beq (Nat.add lo n) k0) (memB (Nat.add lo n) ks) with
    | false => rw [hb] at h; cases h
    | true =>
      rw [hb] at h
      rcases Nat.lt_succ_iff_lt_or_eq.1 hj with hj | rfl
      · exact rngB_spec h j hj
      · rw [eor_eq, Bool.or_eq_true] at hb
        exact hb.imp (fun h => Nat.eq_of_beq_eq_true h) id

theorem memB_iff {j : Nat} {A : List Nat} : memB j A = true ↔ j ∈ A := by
  unfold memB
  rw [anyR_eq, List.any_eq_true]
  exact ⟨fun ⟨x, h1, h2⟩ => by rw [Nat.eq_of_beq_eq_true h2]; exact h1, fun h => ⟨j, h, Nat.beq_refl j⟩⟩
theorem memB_no {j : Nat} {A : List Nat} (h : no (memB j A) = true) : j ∉ A := fun hm => by rw [memB_iff.2 hm] at h; cases h
theorem nodupB_spec : ∀ {A : List Nat}, nodupB A = true → A.Nodup
  | [], _ => List.nodup_nil
  | j :: A, h => by
    unfold nodupB at h
    rw [an_eq, Bool.and_eq_true] at h
    exact List.nodup_cons.2 ⟨memB_no h.1, nodupB_spec h.2⟩
theorem efOf_of {it : It} {f : CallF → List V → TS → Pos → TB → RC} {q : Nat} {A : List Nat} (h : it.c = .ef f q A) : efOf it = some (q, A) := by unfold efOf; rw [h]
theorem of_efOf {it : It} {q : Nat} {A : List Nat} (h : efOf it = some (q, A)) : ∃ f, it.c = .ef f q A := by
  unfold efOf at h
  split at h
  · rename_i f q' A' hc
    injection h with h; injection h with e1 e2; subst e1; subst e2
    exact ⟨f, hc⟩
  · cases h
theorem rsOf_of {it : It} {f : List V → TS → Option NV} {j : Nat} (h : it.c = .rs f j) : rsOf it = some j := by unfold rsOf; rw [h]
theorem of_rsOf {it : It} {j : Nat} (h : rsOf it = some j) : ∃ f, it.c = .rs f j := by
  unfold rsOf at h
  split at h
  · rename_i f j' hc
    injection h with h; subst h
    exact ⟨f, hc⟩
  · cases h
theorem ldOf_of {it : It} {f : List V → TS → TB → Option V} {k0 : Nat} {ks : List Nat} (h : it.c = .ld f k0 ks) : ldOf it = some (k0, ks) := by unfold ldOf; rw [h]
theorem imp_of {a b : Bool} (h : eor (no a) b = true) (ha : a = true) : b = true := by subst ha; exact h

theorem isEfq_spec {q : Nat} {it : It} (hb : isEfq q it = true) : ∃ f A, it.c = .ef f q A := by
  unfold isEfq at hb
  cases he : efOf it with
  | none => rw [he] at hb; cases hb
  | some p =>
    obtain ⟨q', A'⟩ := p
    rw [he] at hb
    obtain ⟨f', hf⟩ := of_efOf he
    rw [Nat.eq_of_beq_eq_true hb] at hf
    exact ⟨f', A', hf⟩
theorem mem_filR {p : It → Bool} {its : List It} {it : It} (h : it ∈ filR p its) : it ∈ its := by rw [filR_eq] at h; exact (List.mem_filter.1 h).1
theorem filR_mem {p : It → Bool} {its : List It} {it : It} (h : it ∈ its) (hp : p it = true) : it ∈ filR p its := by rw [filR_eq]; exact List.mem_filter.2 ⟨h, hp⟩
theorem chk2_spec {its : List It} {Qn Rn : Nat} {Ae : List Nat} {it : It} (h : chk2 (filR hasEf its) (filR hasRs its) Qn Rn Ae it = true) {f : CallF → List V → TS → Pos → TB → RC} {q : Nat} {A : List Nat} (hc : it.c = .ef f q A) :
    1 ≤ q ∧ q ≤ Qn ∧ A.Nodup ∧ (q ≠ 1 → ∃ it' ∈ its, ∃ f' A', it'.c = .ef f' (q - 1) A') ∧ ∀ j ∈ A, j ∉ Ae ∧ j < Rn ∧ ∃ it' ∈ its, ∃ f', it'.c = .rs f' j ∧ it.anc.testBit it'.i = true := by
  unfold chk2 at h
  rw [efOf_of hc] at h
  simp only [an_eq, allR_eq, anyR_eq, Bool.and_eq_true] at h
  obtain ⟨h1, h2, h3, h4, h5⟩ := h
  refine ⟨Nat.le_of_ble_eq_true h1, Nat.le_of_ble_eq_true h2, nodupB_spec h3, fun hq => ?_, fun j hj => ?_⟩
  · rw [eor_eq, Bool.or_eq_true] at h4
    rcases h4 with h4 | h4
    · exact absurd (Nat.eq_of_beq_eq_true h4) hq
    · obtain ⟨it', hm, hb⟩ := List.any_eq_true.1 h4
      obtain ⟨f', A', hf⟩ := isEfq_spec hb
      exact ⟨it', mem_filR hm, f', A', hf⟩
  · have := List.all_eq_true.1 h5 j hj
    rw [Bool.and_eq_true, Bool.and_eq_true] at this
    obtain ⟨k1, k2, k3⟩ := this
    refine ⟨memB_no k1, Nat.le_of_ble_eq_true k2, ?_⟩
    obtain ⟨it', hm, hb⟩ := List.any_eq_true.1 k3
    cases he : rsOf it' with
    | none => rw [he] at hb; cases hb
    | some j' =>
      rw [he] at hb
      have hb : (Nat.beq j' j && tbit it.anc it'.i) = true := hb
      rw [Bool.and_eq_true, tbit_eq] at hb
      obtain ⟨f', hf⟩ := of_rsOf he
      rw [Nat.eq_of_beq_eq_true hb.1] at hf
      exact ⟨it', mem_filR hm, f', hf, hb.2⟩
theorem chk4_spec {its : List It} {Qn : Nat} {it : It} (h : chk4 (filR hasEf its) Qn it = true) {f : List V → TS → TB → Option V} {k0 : Nat} {ks : List Nat} (hc : it.c = .ld f k0 ks) (k : Nat) (hk : k ≤ Qn) (h1 : ∀ it' ∈ its, ∀ f' q' A', it'.c = .ef f' q' A' → it.anc.testBit it'.i = true → q' ≤ k)
    (h2 : ∀ it' ∈ its, ∀ f' q' A', it'.c = .ef f' q' A' → it'.anc.testBit it.i = true → k < q') : k = k0 ∨ k ∈ ks := by
  unfold chk4 at h
  rw [ldOf_of hc] at h
  have hlo : loB it.anc (filR hasEf its) ≤ k := loB_le fun it' hm p hp hb => by
    obtain ⟨q', A'⟩ := p
    obtain ⟨f', hf⟩ := of_efOf hp
    rw [tbit_eq] at hb
    exact h1 it' (mem_filR hm) f' q' A' hf hb
  have hhi : k < hiB it.i (Nat.add Qn 1) (filR hasEf its) := hiB_gt (Nat.lt_succ_of_le hk) fun it' hm p hp hb => by
    obtain ⟨q', A'⟩ := p
    obtain ⟨f', hf⟩ := of_efOf hp
    rw [tbit_eq] at hb
    exact h2 it' (mem_filR hm) f' q' A' hf hb
  have hlt : k - loB it.anc (filR hasEf its) < Nat.sub (hiB it.i (Nat.add Qn 1) (filR hasEf its)) (loB it.anc (filR hasEf its)) := by
    show _ < (hiB it.i (Nat.add Qn 1) (filR hasEf its)) - (loB it.anc (filR hasEf its))
    omega
  have := rngB_spec h _ hlt
  rw [show loB it.anc (filR hasEf its) + (k - loB it.anc (filR hasEf its)) = k by omega] at this
  exact this.imp id memB_iff.1

theorem ds_of {P : Program} {XT : Nat → Option XK} (hX : ∀ f k, XT f = some k → XOk P f k) {G : Ctx} {es : List (Nat × Nat × Nat)} {N n Qn Rn : Nat} {ops : Array Oper} {its : List It} {Ae : List Nat} (h : dits (tiOf P) XT G es ops.toList [] 0 0 0 0 = some its) (hc : dchk N n Qn Rn its Ae = true) : DS P G N ops its Qn Rn Ae ∧ ∀ it ∈ its, it.d.ok n = true := by
  obtain ⟨-, hlen, hmk⟩ := dits_spec h rfl
  have hlen : its.length = ops.size := by rw [hlen]; simp
  have hof : ∀ (i : Nat) (it : It), its[i]? = some it → ∃ o, ops[i]? = some o ∧ MkS P G (its.take i) i o it := fun i it hi => by
    have hlt : i < its.length := by
      rcases Nat.lt_or_ge i its.length with hh | hh
      · exact hh
      · rw [List.getElem?_eq_none hh] at hi; cases hi
    have ho : ops.toList[i]? = some (ops[i]'(by omega)) := by simp
    obtain ⟨it', n', q', r', e1, e2⟩ := hmk i _ ho
    simp only [List.length_nil, Nat.zero_add] at e1 e2
    rw [hi] at e1; injection e1 with e1; subst e1
    exact ⟨_, by simp, mkIt_spec hX e2⟩
  have hmem : ∀ it ∈ its, ∃ i, its[i]? = some it ∧ MkS P G (its.take i) i it.o it ∧ ops[i]? = some it.o := fun it hm => by
    obtain ⟨i, hi⟩ := List.getElem?_of_mem hm
    obtain ⟨o, h1, h2⟩ := hof i it hi
    have := h2.eo; subst this
    exact ⟨i, hi, h2, h1⟩
  have htk : ∀ (i : Nat) (it : It), it ∈ its.take i → it ∈ its := fun i it hm => List.mem_of_mem_take hm
  unfold dchk at hc
  cases hu : uqM its with
  | none => rw [hu] at hc; cases hc
  | some m =>
  rw [hu] at hc
  have hc : dchkM N n Qn Rn its (filR hasEf its) (filR hasRs its) Ae m = true := hc
  obtain ⟨hu1, hu2⟩ := uqM_spec hu
  unfold dchkM at hc
  simp only [an_eq, allR_eq, Bool.and_eq_true] at hc
  obtain ⟨hc1, hc4, hc5, hc6, hc7⟩ := hc
  have hc0' : ∀ it ∈ its, (((chk1 N n it = true ∧ chk2 (filR hasEf its) (filR hasRs its) Qn Rn Ae it = true) ∧ chk3 Rn it = true) ∧ chk4 (filR hasEf its) Qn it = true) ∧ chkS m its it = true := fun it hm => by
    have := List.all_eq_true.1 hc1 it hm
    simp only [Bool.and_eq_true] at this
    exact ⟨⟨⟨⟨this.1, this.2.1⟩, this.2.2.1⟩, this.2.2.2.1⟩, this.2.2.2.2⟩
  have hc1' := fun it hm => (hc0' it hm).1
  have h1' : ∀ it ∈ its, (okDst N it.o.dst = true ∧ it.d.ok n = true) ∧ ∀ p ∈ it.E, p.2.ok it.n = true := fun it hm => by
    have := (hc1' it hm).1.1.1
    unfold chk1 at this
    rw [an_eq, an_eq, allR_eq, Bool.and_eq_true, Bool.and_eq_true, List.all_eq_true] at this
    exact ⟨⟨this.1, this.2.1⟩, this.2.2⟩
  have hlook : ∀ (E : Env) t d, E.look t = some d → (t, d) ∈ E := by
    intro E
    induction E with
    | nil => intro t d h; cases h
    | cons p E ih =>
      intro t d h
      obtain ⟨u, e⟩ := p
      simp only [Env.look] at h
      split at h
      · rename_i e'
        injection h with h; subst h; subst e'
        exact List.mem_cons_self
      · exact List.mem_cons_of_mem _ (ih t d h)
  refine ⟨⟨hlen, fun i it hi => ?_, fun it hm j hj => ?_, fun it hm e he hb => ?_, fun it hm => (h1' it hm).1.1, fun it hm it' hm' t h1 h2 => ?_, fun it hm t d hl => ?_, fun it hm t ht it' hm' hd => ?_, fun it hm d w hg => ?_, fun it hm hg => ?_, fun it hm => ?_, fun it hm it' hm' f q A f' q' A' h1 h2 => ?_,
    fun it hm f q A h1 => chk2_spec (hc1' it hm).1.1.2 h1, fun hq => ?_, fun it hm f j h1 => ?_, fun it hm f k0 ks h1 => chk4_spec (hc1' it hm).2 h1, ?_⟩, fun it hm => (h1' it hm).1.2⟩
  · obtain ⟨o, h1, h2⟩ := hof i it hi
    have := h2.eo; subst this
    exact ⟨h2.ei, h1⟩
  · obtain ⟨i, hi, hs, ho⟩ := hmem it hm
    obtain ⟨e, he, hb, h3⟩ := hs.anc j hj
    refine ⟨e, he, hb, h3.imp id ?_⟩
    rintro ⟨it', h4, h5⟩
    have hm' := htk i it' (List.mem_of_getElem? h4)
    have h6 : its[e.on]? = some it' := by
      rw [List.getElem?_take] at h4
      split at h4
      · exact h4
      · cases h4
    obtain ⟨o', -, h8⟩ := hof e.on it' h6
    exact ⟨it', hm', h8.ei, h5⟩
  · obtain ⟨i, hi, hs, ho⟩ := hmem it hm
    rw [hs.ei]; exact hs.edge e he hb
  · rw [hu2 it hm it' hm' t h1 h2]
  · obtain ⟨i, hi, hs, ho⟩ := hmem it hm
    refine ⟨(h1' it hm).2 _ (hlook _ _ _ hl), ?_⟩
    obtain ⟨it', h3, h4⟩ := hs.env t d hl
    exact ⟨it', htk i it' h3, h4⟩
  · have := (hc0' it hm).2
    unfold chkS at this
    rw [allR_eq] at this
    have := List.all_eq_true.1 this t ?_
    · rw [tbit_eq, hu1 it' hm' t hd, allR_eq] at this
      have := List.all_eq_true.1 this it' hm'
      unfold chkT at this
      rw [hd, tbit_eq] at this
      exact imp_of this (Nat.beq_refl t)
    · simpa using ht
  · obtain ⟨i, hi, hs, ho⟩ := hmem it hm
    obtain ⟨t, it', h3, h4, h5, h6⟩ := hs.gd d w hg
    have hm' := htk i it' h4
    obtain ⟨i', hi', hs', ho'⟩ := hmem it' hm'
    refine ⟨it'.i, t, it', h3, ?_, hm', h5, h6⟩
    rw [hs'.ei, ho']
    exact h5
  · obtain ⟨i, hi, hs, ho⟩ := hmem it hm
    exact hs.gn hg
  · obtain ⟨i, hi, hs, ho⟩ := hmem it hm
    exact hs.ok
  · have m1 : it ∈ filR hasEf its := filR_mem hm (by unfold hasEf; rw [efOf_of h1])
    have m2 : it' ∈ filR hasEf its := filR_mem hm' (by unfold hasEf; rw [efOf_of h2])
    have := List.all_eq_true.1 (List.all_eq_true.1 hc4 it m1) it' m2
    unfold chkE at this
    rw [efOf_of h1, efOf_of h2] at this
    simp only [an_eq, Bool.and_eq_true, tbit_eq] at this
    obtain ⟨k1, k2, k3⟩ := this
    refine ⟨fun hlt => imp_of k1 (Nat.ble_eq_true_of_le hlt), fun he => Nat.eq_of_beq_eq_true (imp_of k2 (by rw [he]; exact Nat.beq_refl q)), fun hne j hj => ?_⟩
    rw [eor_eq, allR_eq, Bool.or_eq_true] at k3
    rcases k3 with k3 | k3
    · exact absurd (Nat.eq_of_beq_eq_true k3) hne
    · exact memB_no (List.all_eq_true.1 k3 j hj)
  · rw [eor_eq, anyR_eq, Bool.or_eq_true] at hc6
    rcases hc6 with h6 | h6
    · exact absurd (Nat.eq_of_beq_eq_true h6) hq
    · obtain ⟨it, hm, hb⟩ := List.any_eq_true.1 h6
      obtain ⟨f', A', hf⟩ := isEfq_spec hb
      exact ⟨it, mem_filR hm, f', A', hf⟩
  · have h3 := (hc1' it hm).1.2
    unfold chk3 at h3
    rw [rsOf_of h1] at h3
    refine ⟨Nat.le_of_ble_eq_true h3, fun it' hm' f' h2 => ?_⟩
    have m1 : it ∈ filR hasRs its := filR_mem hm (by unfold hasRs; rw [rsOf_of h1])
    have m2 : it' ∈ filR hasRs its := filR_mem hm' (by unfold hasRs; rw [rsOf_of h2])
    have := List.all_eq_true.1 (List.all_eq_true.1 hc5 it m1) it' m2
    unfold chkR at this
    rw [rsOf_of h1, rsOf_of h2] at this
    exact Nat.eq_of_beq_eq_true (imp_of this (Nat.beq_refl j))
  · unfold chk5 at hc7
    rw [an_eq, allR_eq, Bool.and_eq_true] at hc7
    refine ⟨nodupB_spec hc7.1, fun j hj => ?_⟩
    have := List.all_eq_true.1 hc7.2 j hj
    rw [an_eq, anyR_eq, Bool.and_eq_true] at this
    refine ⟨Nat.le_of_ble_eq_true this.1, ?_⟩
    obtain ⟨it', hm, hb⟩ := List.any_eq_true.1 this.2
    cases he : rsOf it' with
    | none => rw [he] at hb; cases hb
    | some j' =>
      rw [he] at hb
      obtain ⟨f', hf⟩ := of_rsOf he
      rw [Nat.eq_of_beq_eq_true hb] at hf
      exact ⟨it', mem_filR hm, f', hf⟩

def hasKs (it : It) : Bool := match ldOf it with | some (_, _ :: _) => true | _ => false
noncomputable def dreg (Y : TI) (XT : Nat → Option XK) (G : Ctx) (N : Nat) (ops : List Oper) : Option (Env × Nat × SB) :=
  match dits Y XT G (effs XT ops (ancs ops [])) ops [] 0 0 0 0 with
  | none => none
  | some its => match nums its 0 0 0 with
    | none => none
    | some (n, Qn, Rn) => match dchk N n Qn Rn its (lasts its) with | true => some (envOf its, n, dregK its n (filR hasKs its) (lasts its) Rn) | false => none
theorem dreg_reg {P : Program} (hmix : P.follows .mixedOrders = true) {XT : Nat → Option XK} (hX : ∀ f k, XT f = some k → XOk P f k) {G : Ctx} {N : Nat} {ops : Array Oper} {E : Env} {n : Nat} {k : SB} (h : dreg (tiOf P) XT G N ops.toList = some (E, n, k)) (id : Nat) : RegS P G N (.region id ops true) E n k := by
  unfold dreg at h
  split at h
  · cases h
  rename_i its hits
  split at h
  · cases h
  rename_i n' Qn Rn hnum
  split at h
  case h_2 => cases h
  rename_i hck
  injection h with h; injection h with e1 h; injection h with e2 e3
  subst e1; subst e2; subst e3
  obtain ⟨ds, hN⟩ := ds_of hX hits hck
  refine dreg_snd hmix ds hnum hN (fun it hm f k0 ks hc hne => filR_mem hm ?_) id
  unfold hasKs
  rw [ldOf_of hc]
  cases ks with
  | nil => exact absurd rfl hne
  | cons _ _ => rfl

end Go.Proofs.YtmbnogellhoheaaGreatDoor.Ev
