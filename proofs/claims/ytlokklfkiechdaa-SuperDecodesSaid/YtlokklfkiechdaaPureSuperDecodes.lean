/- What the law of decoded words computes is true. -/
import Derived.Test.YtlokklfkiechdaaFg
set_option linter.unusedVariables false
namespace Go.Proofs.Ytlokklfkiechdaa.Pure
open Go Go.RowKit Go.Proofs.Ytlokklfkiechdaa.PF Go.Proofs.Ytlokklfkiechdaa.Fb Go.Proofs.YtlokklfkiechdaaW.PrintWords Go.Proofs.YtlokklfkiechdaaW.PrintLast

theorem SuperDecodes : cantlelaw05_SuperDecodes.Pure := by
  intro l0 _ _ hw
  exact ⟨1000, decodes_f l0 hw⟩

end Go.Proofs.Ytlokklfkiechdaa.Pure
