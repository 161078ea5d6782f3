/- What the law of encoded superblocks computes is true. -/
import Derived.Test.YtlokklfkiechdaaFg
set_option linter.unusedVariables false
namespace Go.Proofs.Ytlokklfkiechdaa.Pure
open Go Go.RowKit Go.Proofs.Ytlokklfkiechdaa.PF Go.Proofs.Ytlokklfkiechdaa.Fb Go.Proofs.YtlokklfkiechdaaW.PrintWords Go.Proofs.YtlokklfkiechdaaW.PrintLast

theorem SuperEncodes : cantlelaw05_SuperEncodes.Pure := by
  intro a0 a1 a2 _ _ _
  exact ⟨1000, encodes_f a0 a1 a2⟩

end Go.Proofs.Ytlokklfkiechdaa.Pure
