import Derived.Test.YtdcienojgkioiaaNNd
/- The law of NewDesk: a closed term, reckoned. No program in sight. -/
namespace Go.Proofs
open Go Go.Fl Go.RowKit Go.Rg
theorem law_NewDesk : M.laws_FnExactNewDesk = some true := N.le_laws_FnExactNewDesk true (by kernel_rfl)
end Go.Proofs
