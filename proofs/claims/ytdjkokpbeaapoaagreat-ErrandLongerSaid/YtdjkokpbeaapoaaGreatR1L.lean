/- Opening of an errand as an argument, with how long a list can be. -/
import Derived.Test.YtdjkokpbeaapoaaGreatR1E
import Derived.SizedLaws
namespace Go.Proofs.YtdjkokpbeaapoaaGreat
open Go Go.Eng Go.ChangeShapes Go.WideShapes Go.RowKit

set_option maxRecDepth 100000 in
theorem open_errand_sized {W : World} {H : Type} {enc : TypeId × Value → H} {r : Reach} {b0 : Nat} {v : Value} {d : DataW H} {ps : List MemPlace} (hval : Value.okWide Tryz.prog W r b0 28 v) (hd : DataW.Trod enc Tryz.prog W 0 (fun _ => true) true 28 v d ps)
    (hz : ∀ n ∈ d.weights Tryz.prog 28, n ≤ reachBytes) : ∃ t, IsErrand (whole W) v t ∧ t.home.length * 16 ≤ 140737488355328 := by
  obtain ⟨t, ht⟩ := open_errand hval hd
  refine ⟨t, ht, ?_⟩
  obtain ⟨wv, pv, hv, sv, f, rfl, hW, hP, hM, hH, hS⟩ := ht
  obtain ⟨a, cap, rfl⟩ := IsArr.form hH
  obtain ⟨fuel, hf⟩ := hd
  obtain ⟨xs, n, _, hx, hl, hlen, hfl⟩ := DataW.trod_struct Tryz.underlying28 hf
  have h1 := hfl 1 _ rfl
  have hc : Tryz.prog.cellsOf 26 = 1 := by kernel_rfl
  have hb : Tryz.prog.bytesOf 73 = 16 := by kernel_rfl
  replace h1 : DataW.trod enc Tryz.prog W 0 (fun _ => true) true n 26 [.slice a t.home.length cap] = xs[1]? := by
    rw [← h1]
    show _ = DataW.trod enc Tryz.prog W 0 (fun _ => true) true n 26 (List.take (Tryz.prog.cellsOf 26) [.slice a t.home.length cap, sv, .int .i64 t.start, .int .i64 t.calls])
    rw [hc]; rfl
  have hxl : 1 < xs.length := by rw [hlen]; exact Nat.le_of_ble_eq_true rfl
  rw [List.getElem?_eq_getElem hxl] at h1
  simp only [Prod.mk.injEq] at hx
  obtain ⟨rfl, _⟩ := hx
  rcases DataW.trod_slice Tryz.underlying26 h1 with ⟨h2, _⟩ | ⟨a', len, cap', elems, rest, n', _, h2, h3, _, _, _, h4, _⟩
  · simp only [List.cons.injEq, Value.slice.injEq] at h2
    omega
  · simp only [List.cons.injEq, Value.slice.injEq] at h2
    have h5 := hz ((elems.length + rest.length) * 16) (by
      show _ ∈ DataW.weights Tryz.prog 28 (.agg (xs.map (·.1)))
      simp only [DataW.weights, Tryz.underlying28]
      refine DataW.weights_mem_each (j := 1) (t := 26) (d := xs[1].1) rfl (by rw [List.getElem?_map, List.getElem?_eq_getElem hxl]; rfl) _ ?_
      rw [h3]
      simp only [DataW.weights, Tryz.underlying26, List.length_map, hb]
      exact .head _)
    unfold reachBytes at h5
    omega
end Go.Proofs.YtdjkokpbeaapoaaGreat
