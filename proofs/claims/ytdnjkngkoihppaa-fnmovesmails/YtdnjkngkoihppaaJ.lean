/- FnMovesMails: for every slice of bytes the call of laws.FnMovesMails returns true and leaves its argument as it was. No condition beyond those of the given statement. -/
import Derived.Test.YtdnjkngkoihppaaLaw
import Derived.Test.YtdnjkngkoihppaaK
import Derived.Test.YtdnjkngkoihppaaMB
set_option linter.all false
namespace Go.Proofs.Ytdnjkngkoihppaa
open Go.Ev Go.G Go.M
theorem moves_all (code : List Int) : laws_FnMovesMails code = some true := by
  by_cases h : code.length ≤ 1048576
  · exact movesMails h
  · unfold laws_FnMovesMails laws_big
    simp only [Option.bind_some]
    rw [if_pos (by simp; omega)]
theorem moves_said : Rows.FnMovesMailsSaid := said fn_laws_FnMovesMails fun code _ => moves_all code
end Go.Proofs.Ytdnjkngkoihppaa
