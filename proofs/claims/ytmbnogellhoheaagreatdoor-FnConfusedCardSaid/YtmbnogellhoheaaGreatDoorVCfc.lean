/- FnConfused: its files whose texts are known, made by the evaluator. -/
import Derived.Test.YtmbnogellhoheaaGreatDoorNh
namespace Go.Proofs.YtmbnogellhoheaaGreatDoor.Run
open Go Go.Proofs.YtmbnogellhoheaaGreatDoor.Ev Go.Proofs.YtmbnogellhoheaaGreatDoor

def aC0 : List V := [.s 1 65, .s 66 35885076750707733529458880887808912777384206519458686777038146043670289793474450564700973075126429238613274010585836164058006592708277369032742661451637943395]
def vC0 : V := .g [.s 1 65, .s 63 93664651028732518238315143954526962534298043794655397560352395518345251701359684313908820901113684423169135453253042213463391670680640636566066259]
theorem evC0 (val : Pos → Option Nat) (fx : Pos → Option Fx) : (chkP (FF natO val fx no2 no1 (pos 16) aC0 (pos 64) .e) vC0) = true := by kernel_rfl
theorem okC0 {val : Pos → Option Nat} {fx : Pos → Option Fx} (ht : Tab fx) {b : BinOp → V → V → Option V} {c : IntKind → V → Option V} : PureOk Tryz.prog (GG val fx b c) 16 aC0 vC0 := pure_ok (no_ok val fx) (natO_snd ht) (by kernel_rfl) (by kernel_rfl) (evC0 val fx)
end Go.Proofs.YtmbnogellhoheaaGreatDoor.Run
