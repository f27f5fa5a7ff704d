-- PRINTED BY print.sh 35421559b90ae4d0a3588c463048766b98c2df88dd9212a6774a882060cdf62d: not written by this session
import Derived.Test.YtgmglpnoppcnkaaPBx0
import Derived.Test.YtgmglpnoppcnkaaPBx1
import Derived.Test.YtgmglpnoppcnkaaPBx2
import Derived.Test.YtgmglpnoppcnkaaPBx3
import Derived.Test.YtgmglpnoppcnkaaPBx4
namespace Go.Proofs.Ytgmglpnoppcnkaa.PB
open Go.RowKit Go.Proofs.YtgmglpnoppcnkaaW.PrintWords Go.Proofs.YtgmglpnoppcnkaaW.PrintLast Go.Proofs.YtgmglpnoppcnkaaW.PrintMore
attribute [local go_sem] max2_int min2_int max_two min_two max_three min_three max_four min_four   -- for this text's walks alone
set_option linter.unusedVariables false
set_option linter.unusedSimpArgs false

end Go.Proofs.Ytgmglpnoppcnkaa.PB
