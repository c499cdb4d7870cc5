/- What is looked up in the evaluations; functions that are known, in the place of compiled ones. -/
import Derived.Test.YtmbnogellhoheaaGreatDoorFx
import Derived.KernelRfl
import Derived.Test.YtmbnogellhoheaaGreatDoorEvYa
namespace Go.Proofs.YtmbnogellhoheaaGreatDoor.Run
open Go Go.Proofs.YtmbnogellhoheaaGreatDoor.Ev Go.Proofs.YtmbnogellhoheaaGreatDoor
def asc : List Nat := [0, 0, 0, 0, 0, 0, 0, 0, 0, 1, 1, 1, 1, 1, 0, 0, 0, 0, 0, 0, 0, 0, 0, 0, 0, 0, 0, 0, 0, 0, 0, 0, 1, 0, 0, 0, 0, 0, 0, 0, 0, 0, 0, 0, 0, 0, 0, 0, 0, 0, 0, 0, 0, 0, 0, 0, 0, 0, 0, 0, 0, 0, 0, 0, 0, 0, 0, 0, 0, 0, 0, 0, 0, 0, 0, 0, 0, 0, 0, 0, 0, 0, 0, 0, 0, 0, 0, 0, 0, 0, 0, 0, 0, 0, 0, 0, 0, 0, 0, 0, 0, 0, 0, 0, 0, 0, 0, 0, 0, 0, 0, 0, 0, 0, 0, 0, 0, 0, 0, 0, 0, 0, 0, 0, 0, 0, 0, 0, 0, 0, 0, 0, 0, 0, 0, 0, 0, 0, 0, 0, 0, 0, 0, 0, 0, 0, 0, 0, 0, 0, 0, 0, 0, 0, 0, 0, 0, 0, 0, 0, 0, 0, 0, 0, 0, 0, 0, 0, 0, 0, 0, 0, 0, 0, 0, 0, 0, 0, 0, 0, 0, 0, 0, 0, 0, 0, 0, 0, 0, 0, 0, 0, 0, 0, 0, 0, 0, 0, 0, 0, 0, 0, 0, 0, 0, 0, 0, 0, 0, 0, 0, 0, 0, 0, 0, 0, 0, 0, 0, 0, 0, 0, 0, 0, 0, 0, 0, 0, 0, 0, 0, 0, 0, 0, 0, 0, 0, 0, 0, 0, 0, 0, 0, 0, 0, 0, 0, 0, 0, 0, 0, 0, 0, 0, 0, 0]
def glF : Nat → Option Pos := fun g => bif Nat.beq g 3 then some .h else none
theorem glF_ok : ∀ g' p, glF g' = some p → g' = 3 ∧ p = .h := by
  intro g' p h
  unfold glF at h
  cases hb : Nat.beq g' 3 with
  | true => rw [hb] at h; injection h with h; exact ⟨Nat.eq_of_beq_eq_true hb, h.symm⟩
  | false => rw [hb] at h; cases h
theorem asc256 : ∀ z ∈ asc, z < 256 := fun z hz => of_decide_eq_true (List.all_eq_true.1 (show (asc.all fun z => decide (z < 256)) = true by kernel_rfl) z hz)
theorem ascLen : asc.length ≤ 1099511627775 := of_decide_eq_true (by kernel_rfl)
noncomputable def no2 : BinOp → V → V → Option V := fun _ _ _ => none
noncomputable def no1 : IntKind → V → Option V := fun _ _ => none
/-- A context: names that stand for things; what operations on atoms give. -/
noncomputable abbrev GG (val : Pos → Option Nat) (fx : Pos → Option Fx) (bin : BinOp → V → V → Option V) (cvt : IntKind → V → Option V) : Ctx := ⟨fun _ => false, glF, false, ⟨val, fx, bin, cvt⟩⟩
/-- The handler of calls. -/
noncomputable abbrev FF (ns : List (Nat × FN)) (val : Pos → Option Nat) (fx : Pos → Option Fx) (bin : BinOp → V → V → Option V) (cvt : IntKind → V → Option V) : CallF := callN (tabW ns (tabOf YF XT glF ⟨val, fx, bin, cvt⟩ fil)) 60
theorem FF_snd {ns : List (Nat × FN)} {val : Pos → Option Nat} {fx : Pos → Option Fx} {bin : BinOp → V → V → Option V} {cvt : IntKind → V → Option V} (hS : AllS Tryz.prog (GG val fx bin cvt) ns) : CallSnd Tryz.prog (GG val fx bin cvt) (FF ns val fx bin cvt) := by
  unfold FF
  rw [YF_eq]
  exact callT_snd (tabW_snd (tabOf_snd mixed XT_ok fil_ok.get (G := GG val fx bin cvt)) hS) 60
theorem no_ok (val : Pos → Option Nat) (fx : Pos → Option Fx) : (GG val fx no2 no1).tab.OK := ⟨fun _ _ _ _ _ _ h => (nomatch h), fun _ _ _ _ _ h => (nomatch h)⟩
/-- The words of the operations. -/
def words : List V := [.s 3 7368558, .s 4 1752397168, .s 4 1819047278, .s 4 1684107116, .s 5 435711603827, .s 7 28254628858979698, .s 8 7310027691118716274, .s 3 7368560, .s 3 7370084, .s 4 1885435763, .s 3 6579297, .s 3 6452595, .s 3 7107949, .s 3 7760228, .s 6 122537119475305, .s 5 444083365481, .s 6 119213082437225, .s 6 111520460793449, .s 2 28519, .s 3 7824750, .s 3 7628135, .s 3 7632240, .s 6 119212747285863, .s 6 119212747289968, .s 7 30506454577473910, .s 7 30506402751803507, .s 6 109304575259763, .s 4 1701011814, .s 4 1953718627, .s 2 29545, .s 7 32772496251316583, .s 7 28821989627423079, .s 4 1702259047, .s 5 512970877044, .s 5 500068610672]
def opRow : RE1 := ⟨[], 589825, 35, 36, words, none⟩
theorem opw : chkWT (callN (tabOf YF XT glF tab0 fil) 60 (pos 137) [] (pos 64) (tb1 357 asc)) opRow asc = true := by kernel_rfl
/-- What the table's name stands for. -/
structure Tab (fx : Pos → Option Fx) : Prop where
  ex : ∃ C, fx .h = some (.ob 3 (.cells C 357)) ∧ C.toList = asc.map fun (z : Nat) => Value.int .u8 z
theorem op_ok {val : Pos → Option Nat} {fx : Pos → Option Fx} {bin : BinOp → V → V → Option V} {cvt : IntKind → V → Option V} (ht : Tab fx) : RowOk Tryz.prog (GG val fx bin cvt) 137 opRow := by
  obtain ⟨C, h1, h2⟩ := ht.ex
  refine rowOk_table (gl := glF) (F := callN (tabOf YF XT glF tab0 fil) 60) ?_ glF_ok h1 h2 asc256 ascLen rfl (by kernel_rfl) (of_decide_eq_true (by kernel_rfl)) (fun r h => by cases h) opw
  rw [YF_eq]
  exact callN_snd mixed XT_ok fil_ok.get (G := ⟨fun _ => false, glF, false, tab0⟩) 60
theorem row_ok {ns : List (Nat × FN)} {val : Pos → Option Nat} {fx : Pos → Option Fx} (hS : AllS Tryz.prog (GG val fx no2 no1) ns) {bin : BinOp → V → V → Option V} {cvt : IntKind → V → Option V} {f : Nat} {m : RE1} (hl : lowBs m.as = true) (hp : plains m.cs = true) (hcb : decide (m.cs.length ≤ 1099511627775) = true) (hr : (match m.rest with | some r => plains r | none => true) = true)
    (h : chkW (FF ns val fx no2 no1 (pos f) m.as (pos 64) .e) m = true) : RowOk Tryz.prog (GG val fx bin cvt) f m :=
  rowOk_of (G := GG val fx bin cvt) (FF_snd hS) rfl rfl rfl (no_ok val fx) hl hp (of_decide_eq_true hcb) (fun r hr2 => by rw [hr2] at hr; exact hr) h
theorem pure_ok {ns : List (Nat × FN)} {val : Pos → Option Nat} {fx : Pos → Option Fx} {b : BinOp → V → V → Option V} {c : IntKind → V → Option V} (hok : (GG val fx b c).tab.OK) (hS : AllS Tryz.prog (GG val fx b c) ns) {bin : BinOp → V → V → Option V} {cvt : IntKind → V → Option V} {f : Nat} {ar : List V} {v : V} (hl : lowBs ar = true) (hv : lowB v = true)
    (h : chkP (FF ns val fx b c (pos f) ar (pos 64) .e) v = true) : PureOk Tryz.prog (GG val fx bin cvt) f ar v :=
  pureOk_of (G := GG val fx bin cvt) (FF_snd hS) rfl rfl rfl hok hl hv h
theorem call_ok {ns : List (Nat × FN)} {val : Pos → Option Nat} {fx : Pos → Option Fx} {b : BinOp → V → V → Option V} {c : IntKind → V → Option V} (hok : (GG val fx b c).tab.OK) (hS : AllS Tryz.prog (GG val fx b c) ns) {bin : BinOp → V → V → Option V} {cvt : IntKind → V → Option V} {f : Nat} {m : ME}
    (h : chkX (FF ns val fx b c (pos f) m.as m.nx m.bs) m.v m.nx' m.bs' = true) : CallOk Tryz.prog (GG val fx bin cvt) f m :=
  callOk_of (G := GG val fx bin cvt) (FF_snd hS) rfl rfl rfl hok h
end Go.Proofs.YtmbnogellhoheaaGreatDoor.Run

/- A law over one slice of bytes: the names of its run, the operations on the length; the rows of the operations. -/
namespace Go.Proofs.YtmbnogellhoheaaGreatDoor.Run
open Go Go.Proofs.YtmbnogellhoheaaGreatDoor.Ev Go.Proofs.YtmbnogellhoheaaGreatDoor
noncomputable def natO : List (Nat × FN) := [(137, memoR [opRow])]
noncomputable def isN (k : Nat) (v : V) : Bool := asN v false fun m => Nat.beq m k
noncomputable def isL1 (v : V) : Bool := asA v false fun k id => cond (Nat.beq k 0) (Nat.beq id.val 1) false
/-- A slice's length: more than 1048576, and what is left behind division by d. -/
noncomputable def binM (d : Nat) (g : Bool) (r : Nat) : BinOp → V → V → Option V := fun op x y => match op with
  | .gtr => cond (isL1 x) (cond (isN 1048576 y) (some (.b g)) none) none
  | .rem => cond (isL1 x) (cond (isN d y) (some (.n r)) none) none
  | _ => none
noncomputable abbrev binL := binM 12
theorem asN_true {v : V} {k : Nat → Bool} (h : asN v false k = true) : ∃ m, v = .n m ∧ k m = true := by
  cases v <;> first | exact ⟨_, rfl, h⟩ | (have h : false = true := h; cases h)
theorem isN_spec {k : Nat} {v : V} (h : isN k v = true) : v = .n k := by
  obtain ⟨m, rfl, h1⟩ := asN_true h
  rw [Nat.eq_of_beq_eq_true h1]
theorem isL1_spec {v : V} (h : isL1 v = true) : ∃ id, v = .a 0 id ∧ id.val = 1 := by
  obtain ⟨k, id, rfl, h1⟩ := asA_true h
  obtain ⟨h2, h3⟩ := cond_true' h1
  have h2 := Nat.eq_of_beq_eq_true h2
  subst h2
  exact ⟨id, rfl, Nat.eq_of_beq_eq_true h3⟩
theorem len_wrap {n : Nat} (h : n ≤ 9223372036854775807) : IntKind.i64.wrap (n : Int) = n := by rw [wrap_n n (by omega), if_pos (by omega)]
theorem gtr_eq (a b : Int) (t : TypeId) : binOp .gtr t (.int .i64 a) (.int .i64 b) = pure (.bool (decide (a > b))) := rfl
theorem rem_eqL (a b : Int) (t : TypeId) (h : b ≠ 0) : binOp .rem t (.int .i64 a) (.int .i64 b) = pure (.int .i64 (a.tmod b)) := by
  show Op.intDiv .rem .i64 a b = _
  unfold Op.intDiv
  rw [if_neg h]
theorem cbI1 {P : Program} {op : BinOp} {t : TypeId} {ox oy : Operand} {a b : Int} {v : Value} {w : World} (h : binOp op t (.int .i64 a) (.int .i64 b) = pure v) : (cbin op t ox oy (.int .i64 a) (.int .i64 b)).run P w = .ok v w := by
  unfold cbin; rw [Sem.run_bind, eqGuard_int, Result.andThen_ok, h]; rfl
theorem atom0 {ρ : Rho} {val : Pos → Option Nat} (hr : ValR val ρ) {id : Pos} {m : Nat} (hv : val id = some m) {x : Value} (hx : VR ρ (.a 0 id) x) : m < 18446744073709551616 ∧ x = .int .i64 (IntKind.i64.wrap m) := by
  obtain ⟨q, h1, h2⟩ := hr id m hv
  obtain ⟨q', h3, h4⟩ := hx.a
  rw [h1] at h3; injection h3 with h3; subst h3
  unfold AtR at h4
  split at h4
  · obtain ⟨rfl, h5, rfl⟩ := h4
    subst h2
    exact ⟨h5, rfl⟩
  · rename_i he; cases he
  · rename_i he; cases he
  · rename_i he; omega
  · exact h4.elim
theorem binM_snd {val : Pos → Option Nat} {len d : Nat} (hval : ∀ id : Pos, id.val = 1 → val id = some len) (hlen : len ≤ 9223372036854775807) (hd0 : d ≠ 0) (hd1 : d ≤ 1048576) {g : Bool} {k : Nat} (hg : g = decide (1048576 < len)) (hk : k = len % d)
    {ρ : Rho} (hr : ValR val ρ) {op : BinOp} {v v' r : V} (h : binM d g k op v v' = some r) (P : Program) (t : TypeId) (ox oy : Operand) (w : World) {x x' : Value} (hx : VR ρ v x) (hx' : VR ρ v' x') : ∃ y, (cbin op t ox oy x x').run P w = .ok y w ∧ VR ρ r y := by
  cases op with
  | gtr =>
    obtain ⟨h1, h2⟩ := cond_some (c := isL1 v) (x := cond (isN 1048576 v') (some (V.b g)) none) h
    obtain ⟨h3, h4⟩ := cond_some h2
    injection h4 with h4; subst h4
    obtain ⟨id, rfl, hid⟩ := isL1_spec h1
    have := isN_spec h3
    subst this
    obtain ⟨-, rfl⟩ := atom0 hr (hval id hid) hx
    obtain ⟨-, rfl⟩ := hx'.n
    refine ⟨.bool (decide (IntKind.i64.wrap (len : Int) > IntKind.i64.wrap ((1048576 : Nat) : Int))), cbI1 (gtr_eq _ _ t), VR_b ?_⟩
    rw [hg, len_wrap hlen, len_wrap (by omega)]
    exact decide_eq_decide.2 (by omega)
  | rem =>
    obtain ⟨h1, h2⟩ := cond_some (c := isL1 v) (x := cond (isN d v') (some (V.n k)) none) h
    obtain ⟨h3, h4⟩ := cond_some h2
    injection h4 with h4; subst h4
    obtain ⟨id, rfl, hid⟩ := isL1_spec h1
    have := isN_spec h3
    subst this
    obtain ⟨-, rfl⟩ := atom0 hr (hval id hid) hx
    obtain ⟨-, rfl⟩ := hx'.n
    refine ⟨.int .i64 ((IntKind.i64.wrap (len : Int)).tmod (IntKind.i64.wrap (d : Int))), cbI1 (rem_eqL _ _ t ?_), ?_⟩
    · rw [len_wrap (by omega)]; omega
    · rw [len_wrap hlen, len_wrap (by omega), hk]
      have hm : len % d < d := Nat.mod_lt _ (by omega)
      unfold VR
      exact ⟨rfl, by omega, by rw [len_wrap (by omega)]; rfl⟩
  | _ => cases h
theorem no1_cvt {val : Pos → Option Nat} : ∀ ρ, ValR val ρ → ∀ k v r, no1 k v = some r → ∀ x, VR ρ v x → ∃ j z, x = .int j z ∧ VR ρ r (.int k (k.wrap z)) := fun _ _ _ _ _ h => (nomatch h)
/-- Names of a law over one slice of bytes: the table, the slice. -/
def valS (len : Nat) : Pos → Option Nat := fun id => if id.val = 1 then some len else none
def fxS (o : Obj) : Pos → Option Fx := fun id => if id.val = 0 then some (.ob 3 o) else none
def rhoS (len : Nat) (o : Obj) (x : Value) : Rho := fun id => if id.val = 0 then some ⟨3, 0, 256, 357 * 65536, some o, none⟩ else if id.val = 1 then some ⟨3, 0, len, 0, none, some x⟩ else none
theorem rhoS0 {len : Nat} {o : Obj} {x : Value} {id : Pos} (h : id.val = 0) : rhoS len o x id = some ⟨3, 0, 256, 357 * 65536, some o, none⟩ := if_pos h
theorem rhoS1 {len : Nat} {o : Obj} {x : Value} {id : Pos} (h : id.val = 1) : rhoS len o x id = some ⟨3, 0, len, 0, none, some x⟩ := by unfold rhoS; rw [if_neg (by omega), if_pos h]
theorem tabS {C : Array Value} (hz : C.toList = asc.map fun (z : Nat) => Value.int .u8 z) : Tab (fxS (.cells C 357)) := ⟨C, if_pos rfl, hz⟩
theorem gr_S {len : Nat} {o : Obj} {x : Value} {bin : BinOp → V → V → Option V} {cvt : IntKind → V → Option V} (hok : (GG (valS len) (fxS o) bin cvt).tab.OK) : GR (GG (valS len) (fxS o) bin cvt) (rhoS len o x) := by
  refine ⟨fun g p e => ?_, fun id m e => ?_, fun id r o' e => ?_, fun id y e => ?_, hok⟩
  · obtain ⟨rfl, rfl⟩ := glF_ok g p e
    exact ⟨by decide, _, rhoS0 rfl, rfl, rfl⟩
  · have e : (if id.val = 1 then some len else none) = some m := e
    by_cases h : id.val = 1
    · rw [if_pos h] at e; injection e with e; subst e
      exact ⟨by omega, _, rhoS1 h, rfl⟩
    · rw [if_neg h] at e; cases e
  · have e : (if id.val = 0 then some (Fx.ob 3 o) else none) = some (.ob r o') := e
    by_cases h : id.val = 0
    · rw [if_pos h] at e; injection e with e; injection e with e1 e2; subst e1; subst e2
      exact ⟨by omega, _, rhoS0 h, rfl, rfl, rfl⟩
    · rw [if_neg h] at e; cases e
  · have e : (if id.val = 0 then some (Fx.ob 3 o) else none) = some (.v y) := e
    by_cases h : id.val = 0
    · rw [if_pos h] at e; injection e with e; cases e
    · rw [if_neg h] at e; cases e
/-- A law over one slice of bytes, run. -/
theorem run_S {len : Nat} {bin : BinOp → V → V → Option V} {cvt : IntKind → V → Option V} {f : FuncId} {W : World} {C : Array Value} (hC : W.heap[3]? = some (.cells C 357)) (hlen : len ≤ 9223372036854775807) (hok : (GG (valS len) (fxS (.cells C 357)) bin cvt).tab.OK)
    (h : PureOk Tryz.prog (GG (valS len) (fxS (.cells C 357)) bin cvt) f [.a 1 (pb 1)] (.b true)) (a : Option Addr) (cap : Nat) :
    Calls Tryz.prog f #[.slice a len cap] W fun e w' => e = .returned (.bool true) ∧ Kept W w' := by
  have h3 : 3 < W.heap.size := (Array.getElem?_eq_some_iff.1 hC).1
  refine run_true h (ρ := rhoS len (.cells C 357) (.slice a len cap)) (gr_S hok) ?_ (hr_start (fun id q e => ?_) fun id q o e he => ?_)
  · have hv : VR (rhoS len (.cells C 357) (.slice a len cap)) (.a 1 (pb 1)) (.slice a len cap) := ⟨_, rhoS1 (id := pb 1) (by decide +kernel), rfl, hlen, fun y hy => by injection hy with hy; exact hy.symm⟩
    exact ⟨hv, trivial⟩
  · unfold rhoS at e
    by_cases h0 : id.val = 0
    · rw [if_pos h0] at e; injection e with e; subst e; exact ⟨by omega, h3⟩
    · rw [if_neg h0] at e
      by_cases h1 : id.val = 1
      · rw [if_pos h1] at e; injection e with e; subst e; exact ⟨by omega, h3⟩
      · rw [if_neg h1] at e; cases e
  · unfold rhoS at e
    by_cases h0 : id.val = 0
    · rw [if_pos h0] at e; injection e with e; subst e; injection he with he; subst he; exact hC
    · rw [if_neg h0] at e
      by_cases h1 : id.val = 1
      · rw [if_pos h1] at e; injection e with e; subst e; cases he
      · rw [if_neg h1] at e; cases e
end Go.Proofs.YtmbnogellhoheaaGreatDoor.Run
