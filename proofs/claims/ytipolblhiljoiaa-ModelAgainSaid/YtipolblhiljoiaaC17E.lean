/- Layer 17: laws and their parameters. -/
import Derived.Test.YtipolblhiljoiaaC17C
import Derived.Test.YtipolblhiljoiaaC17D
namespace Go.Proofs.Ytipolblhiljoiaa.Sy
theorem c17_true : True := trivial
end Go.Proofs.Ytipolblhiljoiaa.Sy
