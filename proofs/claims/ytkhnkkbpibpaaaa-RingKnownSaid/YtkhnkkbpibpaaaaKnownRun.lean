/- RingKnown, where 'works' is known to return true: the interpreter's answer is true. -/
import Derived.Test.YtkhnkkbpibpaaaaAb6
import Derived.Test.YtkhnkkbpibpaaaaProg
import Derived.KernelRfl
namespace Go.Proofs.Ytkhnkkbpibpaaaa
theorem known_run : Ab.isTrue (Ab.callK Try.prog (Ab.knownO 9) 0 100000 7 [] (Ab.AH.none 1)) = true := by kernel_rfl

end Go.Proofs.Ytkhnkkbpibpaaaa
