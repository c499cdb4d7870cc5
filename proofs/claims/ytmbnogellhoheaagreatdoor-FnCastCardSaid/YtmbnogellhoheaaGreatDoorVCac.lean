/- FnCast: its files whose texts are known, made by the evaluator. -/
import Derived.Test.YtmbnogellhoheaaGreatDoorNh
namespace Go.Proofs.YtmbnogellhoheaaGreatDoor.Run
open Go Go.Proofs.YtmbnogellhoheaaGreatDoor.Ev Go.Proofs.YtmbnogellhoheaaGreatDoor

def aC0 : List V := [.s 1 65, .s 14 206637079967904086914465548823651]
def vC0 : V := .g [.s 1 65, .s 27 98080462904322103414797270929247038207447043299647378515]
def aC1 : List V := [.s 1 66, .s 12 3153030854645225545307090019]
def vC1 : V := .g [.s 1 66, .s 25 1496589094609407094723414430543124921397863781454931]
theorem evC0 (val : Pos → Option Nat) (fx : Pos → Option Fx) : (cond (chkP (FF natO val fx no2 no1 (pos 16) aC0 (pos 64) .e) vC0) (chkP (FF natO val fx no2 no1 (pos 16) aC1 (pos 64) .e) vC1) false) = true := by kernel_rfl
theorem okC0 {val : Pos → Option Nat} {fx : Pos → Option Fx} (ht : Tab fx) {b : BinOp → V → V → Option V} {c : IntKind → V → Option V} : PureOk Tryz.prog (GG val fx b c) 16 aC0 vC0 := pure_ok (no_ok val fx) (natO_snd ht) (by kernel_rfl) (by kernel_rfl) (cond_true' (evC0 val fx)).1
theorem okC1 {val : Pos → Option Nat} {fx : Pos → Option Fx} (ht : Tab fx) {b : BinOp → V → V → Option V} {c : IntKind → V → Option V} : PureOk Tryz.prog (GG val fx b c) 16 aC1 vC1 := pure_ok (no_ok val fx) (natO_snd ht) (by kernel_rfl) (by kernel_rfl) (cond_true' (evC0 val fx)).2
end Go.Proofs.YtmbnogellhoheaaGreatDoor.Run
