/- Plain law: bounds of an answer in all truths; verdicts, looks. -/
import Derived.Test.YtbmohbeocnfefaaP7
namespace Go.Proofs.Ytbmohbeocnfefaa
open Go Go.Eng Go.RowKit

end Go.Proofs.Ytbmohbeocnfefaa
