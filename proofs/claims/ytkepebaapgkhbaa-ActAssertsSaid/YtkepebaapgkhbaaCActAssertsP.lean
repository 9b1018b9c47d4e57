/- For any event (its text cut at 6,000 octets) act.Sent, Must and Tried tell of its step whether it is a Send, and act.Conn what it is about; what must be a Send, and is none, panics; the document's example is as it says: the whole law is walked (abutmentlaw44_ActAsserts.calls). Conditions: none beyond the row's own. -/
import Derived.Test.YtkepebaapgkhbaaCActAsserts2
namespace Go.Proofs.Ytkepebaapgkhbaa.Pure
open Go.RowKit Go.Proofs.Ytkepebaapgkhbaa.X Go.Proofs.YtkepebaapgkhbaaW.PrintWords Go.Proofs.YtkepebaapgkhbaaW.PrintLast Go.Proofs.YtkepebaapgkhbaaW.PrintMore
theorem ActAsserts {p : Prop} (x : S25) (_h0 : p) : abutmentlaw44_ActAsserts.f x.f0 x.f1.f0 x.f1.f1 x.f2 x.f3 = some true := rfl
end Go.Proofs.Ytkepebaapgkhbaa.Pure
