/- For any connection, number and text (cut at 6,000 octets) the event of each of the seven steps has the step's op, and where it may be the step that act.Of makes of it has that event again; the document's example is as it says: the whole law is walked (abutmentlaw44_ActEvents.calls). Conditions: none beyond the row's own. -/
import Derived.Test.YtkepebaapgkhbaaCActEvents2
namespace Go.Proofs.Ytkepebaapgkhbaa.Pure
open Go.RowKit Go.Proofs.Ytkepebaapgkhbaa.X Go.Proofs.YtkepebaapgkhbaaW.PrintWords Go.Proofs.YtkepebaapgkhbaaW.PrintLast Go.Proofs.YtkepebaapgkhbaaW.PrintMore
theorem ActEvents {p q r : Prop} (x : S23) (n : Int) (s : ByteArray) (_h0 : p) (_h1 : q) (_h2 : r) : abutmentlaw44_ActEvents.f x.f0 x.f1 n s = some true := rfl
end Go.Proofs.Ytkepebaapgkhbaa.Pure
