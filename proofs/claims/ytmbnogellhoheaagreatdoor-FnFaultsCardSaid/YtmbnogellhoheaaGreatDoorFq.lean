/- What is looked up in the evaluations; functions that are known, in the place of compiled ones. -/
import Derived.Test.YtmbnogellhoheaaGreatDoorFx
import Derived.KernelRfl
namespace Go.Proofs.YtmbnogellhoheaaGreatDoor.Run
open Go Go.Proofs.YtmbnogellhoheaaGreatDoor.Ev Go.Proofs.YtmbnogellhoheaaGreatDoor
def asc : List Nat := [0, 0, 0, 0, 0, 0, 0, 0, 0, 1, 1, 1, 1, 1, 0, 0, 0, 0, 0, 0, 0, 0, 0, 0, 0, 0, 0, 0, 0, 0, 0, 0, 1, 0, 0, 0, 0, 0, 0, 0, 0, 0, 0, 0, 0, 0, 0, 0, 0, 0, 0, 0, 0, 0, 0, 0, 0, 0, 0, 0, 0, 0, 0, 0, 0, 0, 0, 0, 0, 0, 0, 0, 0, 0, 0, 0, 0, 0, 0, 0, 0, 0, 0, 0, 0, 0, 0, 0, 0, 0, 0, 0, 0, 0, 0, 0, 0, 0, 0, 0, 0, 0, 0, 0, 0, 0, 0, 0, 0, 0, 0, 0, 0, 0, 0, 0, 0, 0, 0, 0, 0, 0, 0, 0, 0, 0, 0, 0, 0, 0, 0, 0, 0, 0, 0, 0, 0, 0, 0, 0, 0, 0, 0, 0, 0, 0, 0, 0, 0, 0, 0, 0, 0, 0, 0, 0, 0, 0, 0, 0, 0, 0, 0, 0, 0, 0, 0, 0, 0, 0, 0, 0, 0, 0, 0, 0, 0, 0, 0, 0, 0, 0, 0, 0, 0, 0, 0, 0, 0, 0, 0, 0, 0, 0, 0, 0, 0, 0, 0, 0, 0, 0, 0, 0, 0, 0, 0, 0, 0, 0, 0, 0, 0, 0, 0, 0, 0, 0, 0, 0, 0, 0, 0, 0, 0, 0, 0, 0, 0, 0, 0, 0, 0, 0, 0, 0, 0, 0, 0, 0, 0, 0, 0, 0, 0, 0, 0, 0, 0, 0, 0, 0, 0, 0, 0, 0]
def glF : Nat → Option Pos := fun g => bif Nat.beq g 3 then some .h else none
theorem glF_ok : ∀ g' p, glF g' = some p → g' = 3 ∧ p = .h := by
  intro g' p h
  unfold glF at h
  cases hb : Nat.beq g' 3 with
  | true => rw [hb] at h; injection h with h; exact ⟨Nat.eq_of_beq_eq_true hb, h.symm⟩
  | false => rw [hb] at h; cases h
theorem asc256 : ∀ z ∈ asc, z < 256 := fun z hz => of_decide_eq_true (List.all_eq_true.1 (show (asc.all fun z => decide (z < 256)) = true by kernel_rfl) z hz)
theorem ascLen : asc.length ≤ 1099511627775 := of_decide_eq_true (by kernel_rfl)
noncomputable def no2 : BinOp → V → V → Option V := fun _ _ _ => none
noncomputable def no1 : IntKind → V → Option V := fun _ _ => none
/-- A context: names that stand for things; what operations on atoms give. -/
noncomputable abbrev GG (val : Pos → Option Nat) (fx : Pos → Option Fx) (bin : BinOp → V → V → Option V) (cvt : IntKind → V → Option V) : Ctx := ⟨fun _ => false, glF, false, ⟨val, fx, bin, cvt⟩⟩
/-- The handler of calls. -/
noncomputable abbrev FF (ns : List (Nat × FN)) (val : Pos → Option Nat) (fx : Pos → Option Fx) (bin : BinOp → V → V → Option V) (cvt : IntKind → V → Option V) : CallF := callN (tabW ns (tabOf YF XT glF ⟨val, fx, bin, cvt⟩ fil)) 60
theorem FF_snd {ns : List (Nat × FN)} {val : Pos → Option Nat} {fx : Pos → Option Fx} {bin : BinOp → V → V → Option V} {cvt : IntKind → V → Option V} (hS : AllS Tryz.prog (GG val fx bin cvt) ns) : CallSnd Tryz.prog (GG val fx bin cvt) (FF ns val fx bin cvt) := by
  unfold FF
  rw [YF_eq]
  exact callT_snd (tabW_snd (tabOf_snd mixed XT_ok fil_ok.get (G := GG val fx bin cvt)) hS) 60
theorem no_ok (val : Pos → Option Nat) (fx : Pos → Option Fx) : (GG val fx no2 no1).tab.OK := ⟨fun _ _ _ _ _ _ h => (nomatch h), fun _ _ _ _ _ h => (nomatch h)⟩
/-- The words of the operations. -/
def words : List V := [.s 3 7368558, .s 4 1752397168, .s 4 1819047278, .s 4 1684107116, .s 5 435711603827, .s 7 28254628858979698, .s 8 7310027691118716274, .s 3 7368560, .s 3 7370084, .s 4 1885435763, .s 3 6579297, .s 3 6452595, .s 3 7107949, .s 3 7760228, .s 6 122537119475305, .s 5 444083365481, .s 6 119213082437225, .s 6 111520460793449, .s 2 28519, .s 3 7824750, .s 3 7628135, .s 3 7632240, .s 6 119212747285863, .s 6 119212747289968, .s 7 30506454577473910, .s 7 30506402751803507, .s 6 109304575259763, .s 4 1701011814, .s 4 1953718627, .s 2 29545, .s 7 32772496251316583, .s 7 28821989627423079, .s 4 1702259047, .s 5 512970877044, .s 5 500068610672]
def opRow : RE1 := ⟨[], 589825, 35, 36, words, none⟩
theorem opw : chkWT (callN (tabOf YF XT glF tab0 fil) 60 (pos 137) [] (pos 64) (tb1 357 asc)) opRow asc = true := by kernel_rfl
/-- What the table's name stands for. -/
structure Tab (fx : Pos → Option Fx) : Prop where
  ex : ∃ C, fx .h = some (.ob 3 (.cells C 357)) ∧ C.toList = asc.map fun (z : Nat) => Value.int .u8 z
theorem op_ok {val : Pos → Option Nat} {fx : Pos → Option Fx} {bin : BinOp → V → V → Option V} {cvt : IntKind → V → Option V} (ht : Tab fx) : RowOk Tryz.prog (GG val fx bin cvt) 137 opRow := by
  obtain ⟨C, h1, h2⟩ := ht.ex
  refine rowOk_table (gl := glF) (F := callN (tabOf YF XT glF tab0 fil) 60) ?_ glF_ok h1 h2 asc256 ascLen rfl (by kernel_rfl) (of_decide_eq_true (by kernel_rfl)) (fun r h => by cases h) opw
  rw [YF_eq]
  exact callN_snd mixed XT_ok fil_ok.get (G := ⟨fun _ => false, glF, false, tab0⟩) 60
theorem row_ok {ns : List (Nat × FN)} {val : Pos → Option Nat} {fx : Pos → Option Fx} (hS : AllS Tryz.prog (GG val fx no2 no1) ns) {bin : BinOp → V → V → Option V} {cvt : IntKind → V → Option V} {f : Nat} {m : RE1} (hl : lowBs m.as = true) (hp : plains m.cs = true) (hcb : decide (m.cs.length ≤ 1099511627775) = true) (hr : (match m.rest with | some r => plains r | none => true) = true)
    (h : chkW (FF ns val fx no2 no1 (pos f) m.as (pos 64) .e) m = true) : RowOk Tryz.prog (GG val fx bin cvt) f m :=
  rowOk_of (G := GG val fx bin cvt) (FF_snd hS) rfl rfl rfl (no_ok val fx) hl hp (of_decide_eq_true hcb) (fun r hr2 => by rw [hr2] at hr; exact hr) h
theorem pure_ok {ns : List (Nat × FN)} {val : Pos → Option Nat} {fx : Pos → Option Fx} {b : BinOp → V → V → Option V} {c : IntKind → V → Option V} (hok : (GG val fx b c).tab.OK) (hS : AllS Tryz.prog (GG val fx b c) ns) {bin : BinOp → V → V → Option V} {cvt : IntKind → V → Option V} {f : Nat} {ar : List V} {v : V} (hl : lowBs ar = true) (hv : lowB v = true)
    (h : chkP (FF ns val fx b c (pos f) ar (pos 64) .e) v = true) : PureOk Tryz.prog (GG val fx bin cvt) f ar v :=
  pureOk_of (G := GG val fx bin cvt) (FF_snd hS) rfl rfl rfl hok hl hv h
theorem call_ok {ns : List (Nat × FN)} {val : Pos → Option Nat} {fx : Pos → Option Fx} {b : BinOp → V → V → Option V} {c : IntKind → V → Option V} (hok : (GG val fx b c).tab.OK) (hS : AllS Tryz.prog (GG val fx b c) ns) {bin : BinOp → V → V → Option V} {cvt : IntKind → V → Option V} {f : Nat} {m : ME}
    (h : chkX (FF ns val fx b c (pos f) m.as m.nx m.bs) m.v m.nx' m.bs' = true) : CallOk Tryz.prog (GG val fx bin cvt) f m :=
  callOk_of (G := GG val fx bin cvt) (FF_snd hS) rfl rfl rfl hok h
end Go.Proofs.YtmbnogellhoheaaGreatDoor.Run
