import Derived.Test.YteiocnaneghggaaQR4
import Derived.Deep.Slices
import Derived.ProofKit
import Derived.OpenShut
import Derived.ChangeOld
namespace Go.Proofs.Yteiocnaneghggaa
open Go Go.RowKit Go.ChangeShapes Go.WideShapes Go.ChangeAt

theorem laidOut : laidOutB Try.prog = true := by kernel_rfl
end Go.Proofs.Yteiocnaneghggaa
