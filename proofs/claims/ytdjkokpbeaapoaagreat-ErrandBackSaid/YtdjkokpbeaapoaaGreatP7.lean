/- Plain law: what the program answers is what the reference answers. -/
import Derived.Test.YtdjkokpbeaapoaaGreatP1
import Derived.Test.YtdjkokpbeaapoaaGreatT22
namespace Go.Proofs.YtdjkokpbeaapoaaGreat
open Go Go.Eng Go.RowKit

theorem ask_lens {t : Table} {l : List Int} (h : l ∈ ask t) : l.length = t.pieces.length := (areOwners_iff.1 (ask_are h)).1
end Go.Proofs.YtdjkokpbeaapoaaGreat
