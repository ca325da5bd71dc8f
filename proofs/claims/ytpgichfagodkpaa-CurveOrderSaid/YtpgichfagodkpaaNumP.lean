/- 2^255 - 19 is prime. -/
import Derived.Test.YtpgichfagodkpaaNumA
namespace Go.Proofs.Ytpgichfagodkpaa.Num
set_option linter.unusedVariables false
theorem pr_8574133 : Pr 8574133 := pr_small (by decide +kernel)
theorem pr_127 : Pr 127 := pr_small (by decide +kernel)
theorem pr_1919519569386763 : Pr 1919519569386763 :=
  prime_of (F := 8574133 * 127) (by decide +kernel) (by decide +kernel) fun r hr hd =>
    two_dvd (by decide +kernel) (pock_pm (a := 2) (R := 223873314) pr_8574133 (by decide +kernel) hr hd)
      (pock_pm (a := 2) (R := 15114327318006) pr_127 (by decide +kernel) hr hd)
theorem pr_569003 : Pr 569003 := pr_small (by decide +kernel)
theorem pr_2773320623 : Pr 2773320623 :=
  prime_of (F := 569003) (by decide +kernel) (by decide +kernel) fun r hr hd =>
    pock_pm (a := 2) (R := 4874) pr_569003 (by decide +kernel) hr hd
theorem pr_72106336199 : Pr 72106336199 :=
  prime_of (F := 2773320623) (by decide +kernel) (by decide +kernel) fun r hr hd =>
    pock_pm (a := 2) (R := 26) pr_2773320623 (by decide +kernel) hr hd
theorem pr_75445702479781427272750846543864801 : Pr 75445702479781427272750846543864801 :=
  prime_of (F := 1919519569386763 * 72106336199) (by decide +kernel) (by decide +kernel) fun r hr hd =>
    two_dvd (by decide +kernel) (pock_pm (a := 2) (R := 39304471641247389600) pr_1919519569386763 (by decide +kernel) hr hd)
      (pock_pm (a := 2) (R := 1046311689884858398375200) pr_72106336199 (by decide +kernel) hr hd)
theorem pr_430751 : Pr 430751 := pr_small (by decide +kernel)
theorem pr_4153 : Pr 4153 := pr_small (by decide +kernel)
theorem pr_31757755568855353 : Pr 31757755568855353 :=
  prime_of (F := 430751 * 4153) (by decide +kernel) (by decide +kernel) fun r hr hd =>
    two_dvd (by decide +kernel) (pock_pm (a := 2) (R := 73726481352) pr_430751 (by decide +kernel) hr hd)
      (pock_pm (a := 2) (R := 7646943310584) pr_4153 (by decide +kernel) hr hd)
theorem pr_74058212732561358302231226437062788676166966415465897661863160754340907 : Pr 74058212732561358302231226437062788676166966415465897661863160754340907 :=
  prime_of (F := 75445702479781427272750846543864801 * 31757755568855353) (by decide +kernel) (by decide +kernel) fun r hr hd =>
    two_dvd (by decide +kernel) (pock_pm (a := 2) (R := 981609426360740691344999861639072106) pr_75445702479781427272750846543864801 (by decide +kernel) hr hd)
      (pock_pm (a := 2) (R := 2331972502653487852620185443007392165117953542933313402) pr_31757755568855353 (by decide +kernel) hr hd)
theorem pr_57896044618658097711785492504343953926634992332820282019728792003956564819949 : Pr 57896044618658097711785492504343953926634992332820282019728792003956564819949 :=
  prime_of (F := 74058212732561358302231226437062788676166966415465897661863160754340907) (by decide +kernel) (by decide +kernel) fun r hr hd =>
    pock_pm (a := 2) (R := 781764) pr_74058212732561358302231226437062788676166966415465897661863160754340907 (by decide +kernel) hr hd
end Go.Proofs.Ytpgichfagodkpaa.Num
