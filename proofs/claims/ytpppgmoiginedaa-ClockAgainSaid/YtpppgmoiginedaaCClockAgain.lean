/- ClockAgain's contract, as the row wants it. -/
import Derived.Test.YtpppgmoiginedaaKAgain
namespace Go.Proofs.Ytpppgmoiginedaa.M
open Go Go.RowKit
theorem clockAgain_law (w : World) (a : Int) (wa : (Lit.int .u64 a).wf = true) (b : Int) (wb : (Lit.int .u64 b).wf = true) (stop : Bool) :
    Calls Go.Proofs.Try.prog 3 #[.int .u64 a, .int .u64 b, .bool stop] w fun e w' => e = .returned (.bool true) ∧ Below w.heap.size w w' := Go.Proofs.Ytpppgmoiginedaa.Q.clockAgain_law w a wa b wb stop
end Go.Proofs.Ytpppgmoiginedaa.M
