/- Opening of a house as an argument, with how long its list of signs can be. -/
import Derived.Test.YtdnbkjgbehakpaaGreatR1H
import Derived.SizedLaws
namespace Go.Proofs.YtdnbkjgbehakpaaGreat
open Go Go.Eng Go.ChangeShapes Go.WideShapes Go.RowKit

set_option maxRecDepth 100000 in
theorem open_house_sized {W : World} {H : Type} {enc : TypeId × Value → H} {r : Reach} {b0 : Nat} {v : Value} {d : DataW H} {ps : List MemPlace} (hval : Value.okWide Tryz.prog W r b0 31 v) (hd : DataW.Trod enc Tryz.prog W 0 (fun _ => true) true 31 v d ps)
    (hz : ∀ n ∈ d.weights Tryz.prog 31, n ≤ reachBytes) : ∃ t, IsHouse (whole W) v t ∧ t.signs.length * 16 + 4096 ≤ 140737488355328 := by
  obtain ⟨t, ht⟩ := open_house hval hd
  refine ⟨t, ht, ?_⟩
  obtain ⟨wv, pv, kv, tv, bv, sv, f, rfl, hA⟩ := ht
  have hS := hA.S
  obtain ⟨a, cap, rfl⟩ := IsArr.form hS
  obtain ⟨fuel, hf⟩ := hd
  obtain ⟨xs, n, _, hx, hl, hlen, hfl⟩ := DataW.trod_struct Tryz.underlying31 hf
  have h1 := hfl 6 _ rfl
  have hc : Tryz.prog.cellsOf 29 = 1 := by kernel_rfl
  have hb : Tryz.prog.bytesOf 88 = 16 := by kernel_rfl
  replace h1 : DataW.trod enc Tryz.prog W 0 (fun _ => true) true n 29 [.slice a t.signs.length cap] = xs[6]? := by
    rw [← h1]
    show _ = DataW.trod enc Tryz.prog W 0 (fun _ => true) true n 29 (List.take (Tryz.prog.cellsOf 29) [.slice a t.signs.length cap])
    rw [hc]; rfl
  have hxl : 6 < xs.length := by rw [hlen]; exact Nat.le_of_ble_eq_true rfl
  rw [List.getElem?_eq_getElem hxl] at h1
  simp only [Prod.mk.injEq] at hx
  obtain ⟨rfl, _⟩ := hx
  rcases DataW.trod_slice Tryz.underlying29 h1 with ⟨h2, _⟩ | ⟨a', len, cap', elems, rest, n', _, h2, h3, _, _, _, h4, _⟩
  · simp only [List.cons.injEq, Value.slice.injEq] at h2
    omega
  · simp only [List.cons.injEq, Value.slice.injEq] at h2
    have h5 := hz ((elems.length + rest.length) * 16) (by
      show _ ∈ DataW.weights Tryz.prog 31 (.agg (xs.map (·.1)))
      simp only [DataW.weights, Tryz.underlying31]
      refine DataW.weights_mem_each (j := 6) (t := 29) (d := xs[6].1) rfl (by rw [List.getElem?_map, List.getElem?_eq_getElem hxl]; rfl) _ ?_
      rw [h3]
      simp only [DataW.weights, Tryz.underlying29, List.length_map, hb]
      exact .head _)
    unfold reachBytes at h5
    omega
end Go.Proofs.YtdnbkjgbehakpaaGreat
