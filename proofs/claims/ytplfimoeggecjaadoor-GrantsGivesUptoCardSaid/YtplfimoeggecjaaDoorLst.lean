/-
  Lists of strings that are looked through, compared, copied: the program's and the reference's helpers.
-/
import Derived.Test.YtplfimoeggecjaaDoorChk8
import Derived.Test.YtplfimoeggecjaaDoorName2
import Derived.Test.YtplfimoeggecjaaDoorSlr
import Derived.Lib.SlicesS
namespace Go.Proofs.YtplfimoeggecjaaDoor.Sx
open Go Go.RowKit

end Go.Proofs.YtplfimoeggecjaaDoor.Sx
