/- Chapter 6: wider hours of a touch. -/
import Derived.Test.YtdnbkjgbehakpaaP36
namespace Go.Proofs.Ytdnbkjgbehakpaa
open Go Go.Eng Go.RowKit

/-- A touch of the same things, with a wider range. -/
structure WiderT (t t' : Touch) : Prop where
  a : t.a = t'.a
  b : t.b = t'.b
  lo : t'.lo ≤ t.lo
  hi : t.hi ≤ t'.hi
end Go.Proofs.Ytdnbkjgbehakpaa
