/- Plain law: bounds of an answer in all truths; verdicts, looks. -/
import Derived.Test.YtdjkokpbeaapoaaGreatP7
namespace Go.Proofs.YtdjkokpbeaapoaaGreat
open Go Go.Eng Go.RowKit

end Go.Proofs.YtdjkokpbeaapoaaGreat
