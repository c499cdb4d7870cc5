/- FnOver: its files whose texts are known, made by the evaluator. -/
import Derived.Test.YtmbnogellhoheaaGreatDoorNh
namespace Go.Proofs.YtmbnogellhoheaaGreatDoor.Run
open Go Go.Proofs.YtmbnogellhoheaaGreatDoor.Ev Go.Proofs.YtmbnogellhoheaaGreatDoor

def aC0 : List V := [.s 1 77, .s 115 359945243591399599834488916453649521448989052880657080457854671045755698199259728370996461363120830021311131385666720250968424874400516489060453674064417558358220052634112737588961534209097219712418804145004604291442349663996710405325992054667879369456796353324141149499255907]
def vC0 : V := .g [.s 1 77, .s 96 2973503138130371036131047298968601470264406970665331026331415913493730761473240523217083497505558102725024025474177554018111424112945578403153828267307919475108026823460178079011010701455452243118140831744210596027369295664211]
def aC1 : List V := [.s 1 65, .s 54 452933346071820602600962229925991218401169169183008684354632378362802338180857178886157523322247125288094785186572417568038022243]
def vC1 : V := .g [.s 1 65, .s 52 302883222242305469205166459537720857103980996429474535996972185776460889674185394195999464844948433079221028607962862675]
def aC2 : List V := [.s 1 65, .s 54 452933346071820602600962229925991218401169169183008684354659985348189500436006917909606631424056929723983466732793067664933219427]
def vC2 : V := .g [.s 1 65, .s 52 302883222242305469205166459538230116098064617951041647419074530316723756772601878258658499957287028404161862784508712019]
def aC3 : List V := [.s 1 66, .s 12 3153030854645225545307090019]
def vC3 : V := .g [.s 1 66, .s 25 1496589094609407094723414430543124921397863781454931]
theorem evC0 (val : Pos → Option Nat) (fx : Pos → Option Fx) : (cond (chkP (FF natO val fx no2 no1 (pos 16) aC0 (pos 64) .e) vC0) (cond (chkP (FF natO val fx no2 no1 (pos 16) aC1 (pos 64) .e) vC1) (cond (chkP (FF natO val fx no2 no1 (pos 16) aC2 (pos 64) .e) vC2) (chkP (FF natO val fx no2 no1 (pos 16) aC3 (pos 64) .e) vC3) false) false) false) = true := by kernel_rfl
theorem okC0 {val : Pos → Option Nat} {fx : Pos → Option Fx} (ht : Tab fx) {b : BinOp → V → V → Option V} {c : IntKind → V → Option V} : PureOk Tryz.prog (GG val fx b c) 16 aC0 vC0 := pure_ok (no_ok val fx) (natO_snd ht) (by kernel_rfl) (by kernel_rfl) (cond_true' (evC0 val fx)).1
theorem okC1 {val : Pos → Option Nat} {fx : Pos → Option Fx} (ht : Tab fx) {b : BinOp → V → V → Option V} {c : IntKind → V → Option V} : PureOk Tryz.prog (GG val fx b c) 16 aC1 vC1 := pure_ok (no_ok val fx) (natO_snd ht) (by kernel_rfl) (by kernel_rfl) (cond_true' (cond_true' (evC0 val fx)).2).1
theorem okC2 {val : Pos → Option Nat} {fx : Pos → Option Fx} (ht : Tab fx) {b : BinOp → V → V → Option V} {c : IntKind → V → Option V} : PureOk Tryz.prog (GG val fx b c) 16 aC2 vC2 := pure_ok (no_ok val fx) (natO_snd ht) (by kernel_rfl) (by kernel_rfl) (cond_true' (cond_true' (cond_true' (evC0 val fx)).2).2).1
theorem okC3 {val : Pos → Option Nat} {fx : Pos → Option Fx} (ht : Tab fx) {b : BinOp → V → V → Option V} {c : IntKind → V → Option V} : PureOk Tryz.prog (GG val fx b c) 16 aC3 vC3 := pure_ok (no_ok val fx) (natO_snd ht) (by kernel_rfl) (by kernel_rfl) (cond_true' (cond_true' (cond_true' (evC0 val fx)).2).2).2
end Go.Proofs.YtmbnogellhoheaaGreatDoor.Run
