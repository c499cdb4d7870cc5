/- FnTwoMean: its files whose texts are known, made by the evaluator. -/
import Derived.Test.YtmbnogellhoheaaGreatDoorNl
namespace Go.Proofs.YtmbnogellhoheaaGreatDoor.Run
open Go Go.Proofs.YtmbnogellhoheaaGreatDoor.Ev Go.Proofs.YtmbnogellhoheaaGreatDoor

def aC0 : List V := [.s 1 65, .s 54 452933346071820602600962229646023125628943642863328399283576843597596651026525987023658885701773141390574667013962730909087132771]
def vC0 : V := .g [.s 1 65, .s 52 302804418229912680246741901457520569876370836950933605103636289189652398230642399774776636312438663247939415351982249043]
def aC1 : List V := [.s 1 85, .s 56 29527781881689285733063413368578009117406969644145038023979720540008339838264721460070681470389523478982444156739176211208352808660067]
def vC1 : V := .g [.s 1 85, .s 61 1478145801395325376059156663225036454892469277512193349870101433923147649829242553397568700855610805045153755588446406114114788528336552285267]
def aC2 : List V := [.s 1 77, .s 129 1868942557544177439073894200563208584649743076143549988323978301701392604553304988067778184664499227989340700843063311323339373132736450462958898968109936208929819901024883616379343028602812345204340469362820335222959403526689415493299937932968037779872226485854803715504205756592432034066000395566956853423203]
def vC2 : V := .g [.s 1 77, .s 119 72910015554364057034870363059755841042969717919994709811669117788523855309657840863411835935668215808738856178496394708218582167514457789677017947485279761115800377854743935367176474536619410986324908102278420996056387918118407179969842986246584102267901786154481627367845628171347]
theorem evC0 (val : Pos → Option Nat) (fx : Pos → Option Fx) : (cond (chkP (FF natO val fx no2 no1 (pos 16) aC0 (pos 64) .e) vC0) (cond (chkP (FF natO val fx no2 no1 (pos 16) aC1 (pos 64) .e) vC1) (chkP (FF natO val fx no2 no1 (pos 16) aC2 (pos 64) .e) vC2) false) false) = true := by kernel_rfl
theorem okC0 {val : Pos → Option Nat} {fx : Pos → Option Fx} (ht : Tab fx) {b : BinOp → V → V → Option V} {c : IntKind → V → Option V} : PureOk Tryz.prog (GG val fx b c) 16 aC0 vC0 := pure_ok (no_ok val fx) (natO_snd ht) (by kernel_rfl) (by kernel_rfl) (cond_true' (evC0 val fx)).1
theorem okC1 {val : Pos → Option Nat} {fx : Pos → Option Fx} (ht : Tab fx) {b : BinOp → V → V → Option V} {c : IntKind → V → Option V} : PureOk Tryz.prog (GG val fx b c) 16 aC1 vC1 := pure_ok (no_ok val fx) (natO_snd ht) (by kernel_rfl) (by kernel_rfl) (cond_true' (cond_true' (evC0 val fx)).2).1
theorem okC2 {val : Pos → Option Nat} {fx : Pos → Option Fx} (ht : Tab fx) {b : BinOp → V → V → Option V} {c : IntKind → V → Option V} : PureOk Tryz.prog (GG val fx b c) 16 aC2 vC2 := pure_ok (no_ok val fx) (natO_snd ht) (by kernel_rfl) (by kernel_rfl) (cond_true' (cond_true' (evC0 val fx)).2).2
end Go.Proofs.YtmbnogellhoheaaGreatDoor.Run
