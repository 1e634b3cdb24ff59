/- provostref01.Put: the text of code points, or what is wrong. Conditions: at most 17,000 of them. -/
import Derived.Test.YtllfgkfcbicnlaaDoorRefText
namespace Go.Proofs.YtllfgkfcbicnlaaDoor
open Go.RowKit Go.ChangeShapes Go.WideShapes Go.ChangeAt
def putOf (xs : List Int) : ByteArray × Int :=
  if 16384 < xs.length then (⟨#[]⟩, 4) else if xs.all isPoint then (strOfNums (encZ xs), 0) else (⟨#[]⟩, 10)
end Go.Proofs.YtllfgkfcbicnlaaDoor
