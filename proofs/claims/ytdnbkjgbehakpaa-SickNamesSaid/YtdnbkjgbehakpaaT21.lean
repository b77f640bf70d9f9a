/- The program's functions of a table at work, on: their contracts. -/
import Derived.Test.YtdnbkjgbehakpaaT20
namespace Go.Proofs.Ytdnbkjgbehakpaa
open Go Go.Eng Go.RowKit

theorem Owns.pl {t : Table} {l : List Int} (h : Owns t l) : ((pad l).map vi).toArray.size = 7 := by rw [List.size_toArray, List.length_map]; exact pad_len h.le7
end Go.Proofs.Ytdnbkjgbehakpaa
