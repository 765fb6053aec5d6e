
/- The walk of slices.Delete at a type of elements, in a row of the call's own. -/
import Derived.Test.YtpajedpkdfacoaaSplice
import Derived.WalkLawsBesides
namespace Go.Proofs.Ytpajedpkdfacoaa.DelPtr
set_option linter.unusedSimpArgs false
set_option linter.unusedVariables false
open Go Go.RowKit Go.Proofs.Ytpajedpkdfacoaa
attribute [local irreducible] Calls

theorem el_info : (Try.prog.info? 146).map (fun i => (i.zero, i.size, i.bytes)) = some (some (.pointer none), 1, 8) := by kernel_rfl

end Go.Proofs.Ytpajedpkdfacoaa.DelPtr
