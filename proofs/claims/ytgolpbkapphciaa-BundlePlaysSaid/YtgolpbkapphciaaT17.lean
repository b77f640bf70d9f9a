/- The program's iterator over all owners: its contract, whole. -/
import Derived.Test.YtgolpbkapphciaaT16
namespace Go.Proofs.Ytgolpbkapphciaa
open Go Go.Eng Go.RowKit

def itemV (t : Table) (k : Nat) : Value := ownV ((allOwners t).getD k [])
/-- lists, its inner function -/
theorem lists1_any {t : Table} (hs : Sm t) (h7 : t.pieces.length ≤ 7) {h : Mem} {tv : Value} (hv : IsTable h tv t) {b1 : Nat} (hb1 : IsBox h b1 tv.cells 35) :
    IterM Try.prog 109 #[.pointer (some ⟨b1, 0, none⟩)] [h] (allOwners t).length (itemV t) := by
  unfold IterM
  intro l0 St Sp hStm hSpm hY Ms μ hSt
  refine FnM.of_W (n := 8) Try.func109 rfl rfl (Nat.le_of_ble_eq_true rfl) (hStm _ _ _ hSt) fun c hr hD hF => ?_
  skip
  refine W.seq ?_
  refine W.region ?_
  refine WL.box rfl rfl rfl rfl (fun b2 => ?_)
  refine WL.nil ?_
  refine Kseq.go (W.seq ?_)
  skip
  refine W.region ?_
  refine WL.alloc rfl rfl rfl (fun b3 => ?_)
  refine WL.nil ?_
  refine Kseq.go (W.seq ?_)
  skip
  refine W.region ?_
  refine WL.alloc rfl rfl rfl (fun b4 => ?_)
  refine WL.nil ?_
  refine Kseq.go (W.seq ?_)
  skip
  refine W.region ?_
  refine WL.val (OpVal.opv rfl) rfl rfl rfl ?_
  refine WL.store [_] rfl (.head _) rfl rfl rfl (Nat.le_of_ble_eq_true rfl) (by first | (simp [Value.cells, Value.oneCell']; done) | exact IsArr.ones hW (by omega) | exact IsArr.ones hP (by omega)) rfl ?_
  refine WL.nil ?_
  refine Kseq.go ?_
  have hfe : ∀ b, c.F b → b ∈ feet μ := hF
  refine W.freezeBox (.head _) (fun b hb => ?_) fun m4 h4 => ?_
  · simp only [feet, List.filterMap_cons, Res.foot]; exact .tail _ (.tail _ (hfe b hb))
  refine W.freezeBox (.tail _ (.head _)) (fun b hb => ?_) fun m2 h2 => ?_
  · simp only [feet, List.filterMap_cons, Res.foot]; exact .tail _ (hfe b hb)
  refine W.join fun mj hj => ?_
  have hch := choose_any (b3 := b3) hs h7 (hv.le (hj h (by simp))) (hb1.le (hj h (by simp))) (h2.le (hj m2 (by simp))) (h4.le (hj m4 (by simp))) hStm hSpm hY t.pieces.length [] (List.replicate 7 0) (by simp) (Works.zero h7) 0 (by rw [Nat.zero_add]; exact Nat.le_refl _) (fun j hj => by rw [Nat.zero_add]; rfl) Ms μ hSt
  skip
  refine W.region ?_
  refine WL.val (OpVal.loadP rfl (by assumption) (by repeat (first | exact .head _ | refine .tail _ ?_)) rfl) rfl rfl rfl ?_
  refine WL.callM rfl rfl (M0 := mj :: Ms) ?_ (Split.all _) (by have := hStm _ _ _ hSt; exact this) hch rfl rfl rfl ?_
  · intro m hm
    rcases List.mem_cons.1 hm with rfl | hm
    · exact .head _
    · exact .tail _ (.tail _ (.tail _ (.tail _ hm)))
  rintro v7 M1 a1 ⟨q2, μ2, hq2, rfl, hQ⟩
  refine WL.nil ?_
  skip
  refine ⟨.inr rfl, [], M1, μ2, trivial, ?_, fun m hm => List.mem_append_left _ hm, .cons _ (.refl _), fun s hs => ?_⟩
  · rcases hQ with ⟨_, h⟩ | ⟨_, h⟩
    · exact .inl (by rw [Nat.zero_add] at h; exact h)
    · exact .inr h
  · rcases hQ with ⟨_, h⟩ | ⟨_, h⟩
    · exact none_of_marks (hStm _ _ _ h) s hs
    · exact none_of_marks (hSpm _ _ h) s hs

/-- lists -/
theorem lists_any {t : Table} {h : Mem} {tv : Value} (hv : IsTable h tv t) : FnR Try.prog 97 #[tv] h (fun m r => ∃ b1, r = .func (.func 109) #[] #[.pointer (some ⟨b1, 0, none⟩)] ∧ IsBox m b1 tv.cells 35) := by
  obtain ⟨wv, pv, f, rfl, hW, hP, hM⟩ := hv
  refine FnR.of_W (n := 4) Try.func97 rfl rfl (Nat.le_of_ble_eq_true rfl) fun c hr hD hF => ?_
  refine W.seq ?_
  refine W.region ?_
  refine WL.box rfl rfl rfl rfl (fun b1 => ?_)
  refine WL.val (OpVal.opv rfl) rfl rfl rfl ?_
  refine WL.nil ?_
  refine Kseq.go (W.seq ?_)
  refine W.freezeBox (.head _) (fun b hb => (hF b hb).elim) fun mb hmb => ?_
  skip
  refine W.region ?_
  refine WL.val (OpVal.opv rfl) rfl rfl rfl ?_
  refine WL.val (OpVal.opv rfl) rfl rfl rfl ?_
  refine WL.nil ?_
  refine Kseq.go ?_
  refine W.ret ?_; skip; refine ⟨.inl rfl, [_], mb, ⟨.tmp rfl, trivial⟩, (by repeat (first | exact .head _ | refine .tail _ ?_)), ?_⟩
  exact ⟨_, rfl, hmb⟩
end Go.Proofs.Ytgolpbkapphciaa
