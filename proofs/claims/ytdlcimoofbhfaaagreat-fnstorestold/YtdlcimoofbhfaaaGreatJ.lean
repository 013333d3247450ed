/- FnStoresTold: for every slice of bytes the call of laws.FnStoresTold returns true and leaves its argument as it was. No condition beyond those of the given statement. -/
import Derived.Test.YtdlcimoofbhfaaaGreatLaw
import Derived.Test.YtdlcimoofbhfaaaGreatK
import Derived.Test.YtdlcimoofbhfaaaGreatMB
set_option linter.all false
namespace Go.Proofs.YtdlcimoofbhfaaaGreat
open Go.Ev Go.G Go.M
theorem stores_said : Rows.FnStoresToldSaid := said fn_laws_FnStoresTold fun code _ => stores_all code
end Go.Proofs.YtdlcimoofbhfaaaGreat
