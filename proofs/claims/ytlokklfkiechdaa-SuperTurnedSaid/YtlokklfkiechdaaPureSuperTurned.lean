/- What the law of one turned bit computes is true. -/
import Derived.Test.YtlokklfkiechdaaFh
set_option linter.unusedVariables false
namespace Go.Proofs.Ytlokklfkiechdaa.Pure
open Go Go.RowKit Go.Proofs.Ytlokklfkiechdaa.PF Go.Proofs.Ytlokklfkiechdaa.Fb Go.Proofs.YtlokklfkiechdaaW.PrintWords Go.Proofs.YtlokklfkiechdaaW.PrintLast

theorem SuperTurned : cantlelaw05_SuperTurned.Pure := by
  intro a0 a1 a2 a3 h0 h1 h2 h3
  simp [Lit.wf, IntKind.min, IntKind.max, IntKind.bits, IntKind.signed] at h0 h1 h2 h3
  exact ⟨1000, turned_f a0 a1 a2 a3 (by omega) (by omega) (by omega) (by omega)⟩

end Go.Proofs.Ytlokklfkiechdaa.Pure
