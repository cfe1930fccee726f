-- PRINTED BY print.sh 35421559b90ae4d0a3588c463048766b98c2df88dd9212a6774a882060cdf62d: not written by this session
import Derived.Test.YtdpkpibcjbllcaaPRefx0
import Derived.Test.YtdpkpibcjbllcaaPRefx1
import Derived.Test.YtdpkpibcjbllcaaPRefx2
import Derived.Test.YtdpkpibcjbllcaaPRefx3
import Derived.Test.YtdpkpibcjbllcaaPRefx4
import Derived.Test.YtdpkpibcjbllcaaPRefx5
import Derived.Test.YtdpkpibcjbllcaaPRefx6
import Derived.Test.YtdpkpibcjbllcaaPRefx7
namespace Go.Proofs.Ytdpkpibcjbllcaa.PRef
open Go.RowKit Go.Proofs.YtdpkpibcjbllcaaW.PrintWords Go.Proofs.YtdpkpibcjbllcaaW.PrintLast Go.Proofs.YtdpkpibcjbllcaaW.PrintMore
attribute [local go_sem] max2_int min2_int max_two min_two max_three min_three max_four min_four   -- for this text's walks alone
set_option linter.unusedVariables false
set_option linter.unusedSimpArgs false

end Go.Proofs.Ytdpkpibcjbllcaa.PRef
