/- For any event (its text cut at 6,000 octets) and any op act.Of, Right and Word answer as the reference's do, a step that is has the event that it was made of, and the document's example is as it says: the whole law is walked (abutmentlaw44_ActTells.calls). Conditions: none beyond the row's own. -/
import Derived.Test.YtkepebaapgkhbaaCActTells2
namespace Go.Proofs.Ytkepebaapgkhbaa.Pure
open Go.RowKit Go.Proofs.Ytkepebaapgkhbaa.X Go.Proofs.YtkepebaapgkhbaaW.PrintWords Go.Proofs.YtkepebaapgkhbaaW.PrintLast Go.Proofs.YtkepebaapgkhbaaW.PrintMore
theorem ActTells {p q : Prop} (x : S25) (op : Int) (_h0 : p) (_h1 : q) : abutmentlaw44_ActTells.f x.f0 x.f1.f0 x.f1.f1 x.f2 x.f3 op = some true := rfl
end Go.Proofs.Ytkepebaapgkhbaa.Pure
