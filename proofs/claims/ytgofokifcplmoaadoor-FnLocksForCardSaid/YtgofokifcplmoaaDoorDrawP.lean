/- The draws that are other draws: DrawMeeting, DrawPathTo, DrawPathText. -/
import Derived.Test.YtgofokifcplmoaaDoorDrawN3
namespace Go.Proofs.YtgofokifcplmoaaDoor
open Go.RowKit
set_option maxRecDepth 100000
open Tl (Nd)

end Go.Proofs.YtgofokifcplmoaaDoor
