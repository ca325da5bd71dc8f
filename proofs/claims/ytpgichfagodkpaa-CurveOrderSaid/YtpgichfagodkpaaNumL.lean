/- The order of the base is prime. -/
import Derived.Test.YtpgichfagodkpaaNumA
namespace Go.Proofs.Ytpgichfagodkpaa.Num
set_option linter.unusedVariables false
theorem pr_1224481 : Pr 1224481 := pr_small (by decide +kernel)
theorem pr_531581 : Pr 531581 := pr_small (by decide +kernel)
theorem pr_1257559732178653 : Pr 1257559732178653 :=
  prime_of (F := 1224481 * 531581) (by decide +kernel) (by decide +kernel) fun r hr hd =>
    two_dvd (by decide +kernel) (pock_pm (a := 2) (R := 1027014492) pr_1224481 (by decide +kernel) hr hd)
      (pock_pm (a := 2) (R := 2365697292) pr_531581 (by decide +kernel) hr hd)
theorem pr_4434155615661930479 : Pr 4434155615661930479 :=
  prime_of (F := 1257559732178653) (by decide +kernel) (by decide +kernel) fun r hr hd =>
    pock_pm (a := 2) (R := 3526) pr_1257559732178653 (by decide +kernel) hr hd
theorem pr_172054593956031949258510691 : Pr 172054593956031949258510691 :=
  prime_of (F := 4434155615661930479) (by decide +kernel) (by decide +kernel) fun r hr hd =>
    pock_pm (a := 2) (R := 38802110) pr_4434155615661930479 (by decide +kernel) hr hd
theorem pr_19757330305831588566944191468367130476339 : Pr 19757330305831588566944191468367130476339 :=
  prime_of (F := 172054593956031949258510691) (by decide +kernel) (by decide +kernel) fun r hr hd =>
    pock_pm (a := 2) (R := 114831751082918) pr_172054593956031949258510691 (by decide +kernel) hr hd
theorem pr_276602624281642239937218680557139826668747 : Pr 276602624281642239937218680557139826668747 :=
  prime_of (F := 19757330305831588566944191468367130476339) (by decide +kernel) (by decide +kernel) fun r hr hd =>
    pock_pm (a := 2) (R := 14) pr_19757330305831588566944191468367130476339 (by decide +kernel) hr hd
theorem pr_7237005577332262213973186563042994240857116359379907606001950938285454250989 : Pr 7237005577332262213973186563042994240857116359379907606001950938285454250989 :=
  prime_of (F := 276602624281642239937218680557139826668747) (by decide +kernel) (by decide +kernel) fun r hr hd =>
    pock_pm (a := 2) (R := 26163907866482859529727157400808004) pr_276602624281642239937218680557139826668747 (by decide +kernel) hr hd
end Go.Proofs.Ytpgichfagodkpaa.Num
