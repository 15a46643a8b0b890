/- Contracts of the program's functions, proved by the framework (text ShLo), without conditions but those that each theorem states. -/
import Derived.Test.YtbmbklbijnpdfaaFw7
import Derived.Test.YtbmbklbijnpdfaaRows
namespace Go.Proofs.Ytbmbklbijnpdfaa
theorem Try.own : ownKnob Try.prog.godebug = none := by kernel_rfl
theorem Try.laidOut : laidOutB Try.prog = true := by kernel_rfl
end Go.Proofs.Ytbmbklbijnpdfaa
