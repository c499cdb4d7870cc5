/- FnFaceOf: its files whose texts are known, made by the evaluator. -/
import Derived.Test.YtmbnogellhoheaaGreatDoorNh
namespace Go.Proofs.YtmbnogellhoheaaGreatDoor.Run
open Go Go.Proofs.YtmbnogellhoheaaGreatDoor.Ev Go.Proofs.YtmbnogellhoheaaGreatDoor

def aC0 : List V := [.s 1 70, .s 31 18055838866225658448669819710524798923153486295719787169540521670800927843]
def vC0 : V := .g [.s 1 70, .s 42 3280917806690328528356024952261698991298330562033127463381408717933199781289204370973649727382312019]
def aC1 : List V := [.s 1 65, .s 21 15015368183271349298139304093475215783796936895587]
def vC1 : V := .g [.s 1 65, .s 35 694754329878157962702733483892500105757830717964895777749315409001159691555923]
def aC2 : List V := [.s 1 77, .s 76 43139766679187943418671631453823318862011836864507289171706181927421327875357672170838974693588592413328070274424267049415440433572730411431465541203017522298518251550664367555046499]
def vC2 : V := .g [.s 1 77, .s 89 41265645597738366012887128318275798336313535118966216794306268524132216664800431579833416568359749225929553742171825552442184970966521167663585706503794631633911210018427365096097619995319828854651198064514131]
theorem evC0 (val : Pos → Option Nat) (fx : Pos → Option Fx) : (cond (chkP (FF natO val fx no2 no1 (pos 16) aC0 (pos 64) .e) vC0) (cond (chkP (FF natO val fx no2 no1 (pos 16) aC1 (pos 64) .e) vC1) (chkP (FF natO val fx no2 no1 (pos 16) aC2 (pos 64) .e) vC2) false) false) = true := by kernel_rfl
theorem okC0 {val : Pos → Option Nat} {fx : Pos → Option Fx} (ht : Tab fx) {b : BinOp → V → V → Option V} {c : IntKind → V → Option V} : PureOk Tryz.prog (GG val fx b c) 16 aC0 vC0 := pure_ok (no_ok val fx) (natO_snd ht) (by kernel_rfl) (by kernel_rfl) (cond_true' (evC0 val fx)).1
theorem okC1 {val : Pos → Option Nat} {fx : Pos → Option Fx} (ht : Tab fx) {b : BinOp → V → V → Option V} {c : IntKind → V → Option V} : PureOk Tryz.prog (GG val fx b c) 16 aC1 vC1 := pure_ok (no_ok val fx) (natO_snd ht) (by kernel_rfl) (by kernel_rfl) (cond_true' (cond_true' (evC0 val fx)).2).1
theorem okC2 {val : Pos → Option Nat} {fx : Pos → Option Fx} (ht : Tab fx) {b : BinOp → V → V → Option V} {c : IntKind → V → Option V} : PureOk Tryz.prog (GG val fx b c) 16 aC2 vC2 := pure_ok (no_ok val fx) (natO_snd ht) (by kernel_rfl) (by kernel_rfl) (cond_true' (cond_true' (evC0 val fx)).2).2
end Go.Proofs.YtmbnogellhoheaaGreatDoor.Run
