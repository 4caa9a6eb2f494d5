/- Vw5: made by vx.py. -/
import Derived.Test.YtmdejhgacknfhaaQVw4
namespace Go.Proofs.Ytmdejhgacknfhaa
open Go.RowKit Go.Bw Go.Vx Go.Bw.Sums Vs
namespace Vw
set_option linter.unusedVariables false
set_option linter.unusedSimpArgs false
theorem known2 : SpecH false Try.prog 21 [u8D 2] [] (iD 0) [] := known 2 (by decide)
theorem known1 : SpecH false Try.prog 21 [u8D 1] [] (iD 0) [] := known 1 (by decide)
end Vw
end Go.Proofs.Ytmdejhgacknfhaa
