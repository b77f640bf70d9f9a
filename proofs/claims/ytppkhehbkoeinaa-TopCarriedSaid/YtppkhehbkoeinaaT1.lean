/- The reference's functions of chapter 3: their contracts. -/
import Derived.Test.YtppkhehbkoeinaaTypes
import Derived.Test.YtppkhehbkoeinaaP1
namespace Go.Proofs.Ytppkhehbkoeinaa
open Go Go.Eng Go.RowKit

def IsWomen (m : Mem) (v : Value) (ws : List Woman) : Prop := IsArr m 3 v ws.length (fun i j => match j with
  | 0 => .int .i64 (ws.getD i default).mark
  | 1 => .int .i64 (ws.getD i default).lo
  | _ => .int .i64 (ws.getD i default).hi)
/-- The pieces, whose marks are the slices f. -/
def IsPieces (m : Mem) (v : Value) (f : Nat → Value) (ps : List Piece) : Prop := IsArr m 2 v ps.length (fun i j => match j with
  | 0 => f i
  | _ => .int .i64 (ps.getD i default).bundle)
def IsMarks (m : Mem) (f : Nat → Value) (ps : List Piece) : Prop := ∀ i, i < ps.length → IsInts m (f i) (ps.getD i default).marks
def IsTable (m : Mem) (v : Value) (t : Table) : Prop := ∃ wv pv f, v = .agg #[wv, pv, .int .i64 t.wrong] ∧ IsWomen m wv t.women ∧ IsPieces m pv f t.pieces ∧ IsMarks m f t.pieces
theorem IsWomen.le {m m' : Mem} {v : Value} {xs : List Woman} (h : IsWomen m v xs) (hm : MLe m m') : IsWomen m' v xs := IsArr.le h hm
theorem IsPieces.le {m m' : Mem} {v : Value} {f : Nat → Value} {xs : List Piece} (h : IsPieces m v f xs) (hm : MLe m m') : IsPieces m' v f xs := IsArr.le h hm
theorem IsMarks.le {m m' : Mem} {f : Nat → Value} {xs : List Piece} (h : IsMarks m f xs) (hm : MLe m m') : IsMarks m' f xs := fun i hi => (h i hi).le hm
theorem IsTable.le {m m' : Mem} {v : Value} {t : Table} (h : IsTable m v t) (hm : MLe m m') : IsTable m' v t := by
  obtain ⟨wv, pv, f, e, h1, h2, h3⟩ := h
  exact ⟨wv, pv, f, e, h1.le hm, h2.le hm, h3.le hm⟩
theorem IsWomen.bd {m : Mem} {v : Value} {xs : List Woman} (h : IsWomen m v xs) : xs.length ≤ 9223372036854775807 := by have := IsArr.len h; unfold maxLen at this; omega
theorem IsPieces.bd {m : Mem} {v : Value} {f : Nat → Value} {xs : List Piece} (h : IsPieces m v f xs) : xs.length ≤ 9223372036854775807 := by have := IsArr.len h; unfold maxLen at this; omega

theorem sub_yes {T : TypeId} {v : Value} {k : Nat} {q : Nat → Bool} {μ : List Res} (h : q k = true) : List.Sublist (ir T v (sel (k + 1) q) :: μ) (ir T v (sel k q ++ [(k : Int)]) :: μ) := by rw [sel_yes h]; exact .refl _
theorem sub_no {T : TypeId} {v : Value} {k : Nat} {q : Nat → Bool} {μ : List Res} (h : q k = false) : List.Sublist (ir T v (sel (k + 1) q) :: μ) (ir T v (sel k q) :: μ) := by rw [sel_no h]; exact .refl _

/-- ref.Has -/
theorem has_any {h : Mem} {v : Value} {xs : List Int} (x : Int) (hv : IsInts h v xs) : FnV Try.prog 15 #[v, .int .i64 x] h (.bool (decide (x ∈ xs))) := by
  have hlen := hv.bd
  refine FnR.val ?_
  refine FnR.of_W (n := 18) Try.func15 rfl rfl (Nat.le_of_ble_eq_true rfl) fun c hr hD hF => ?_
  refine W.seq ?_; refine W.region ?_; refine .o rfl ?_; refine WL.nil ?_
  refine Kseq.go (W.seq (W.seq ?_))
  refine W.region ?_; refine .o rfl ?_; refine WL.nil ?_
  refine Kseq.go (W.block ?_)
  refine W.loopC (σ := Nat) (fun k => [(0, v), (1, .int .i64 x), (5, .int .i64 (k : Int))]) (fun k => k ≤ xs.length ∧ ∀ j, j < k → xs.getD j 0 ≠ x) (fun k => xs.length - k) 0 ⟨rfl, rfl, rfl, trivial⟩ ⟨Nat.zero_le _, fun j hj => absurd hj (Nat.not_lt_zero _)⟩ ?_
  rintro k ⟨hk, hall⟩
  refine W.seq (W.seq ?_)
  refine W.region ?_
  iterate 2 refine .o rfl ?_
  refine .val (.len rfl (by assumption)) rfl rfl rfl ?_; refine .o rfl ?_; refine WL.nil ?_; refine Kseq.go ?_
  refine W.condD rfl rfl (fun hlt => ?_) (fun hge => ?_)
  · refine W.skip (Kseq.go (W.seq (W.block (W.seq ?_))))
    refine W.region ?_
    iterate 2 refine .o rfl ?_
    refine .val (.indexAddrN rfl rfl (by assumption) (by omega)) rfl rfl rfl ?_; refine .val (.loadE rfl (by assumption) (by repeat constructor) (by omega) (by omega)) rfl rfl rfl ?_
    iterate 2 refine .o rfl ?_
    refine WL.nil ?_; refine Kseq.go ?_
    refine W.condD rfl rfl (fun he => ?_) (fun hne => ?_)
    · refine W.seq ?_
      refine W.region ?_; refine .o rfl ?_; refine WL.nil ?_; refine Kseq.go ?_
      refine W.ret ?_; refine Kblock.ret (Kseq.ret (Kloop.ret (Kblock.ret (Kseq.ret ?_)))); refine ⟨.inl rfl, [_], h, ⟨.tmp rfl, trivial⟩, (by repeat constructor), ?_⟩
      exact congrArg Value.bool (decide_eq_true (he ▸ mem_getD (by omega))).symm
    · refine W.skip (Kblock.normal (Kseq.go ?_))
      refine W.region ?_; refine .o rfl ?_; refine .val (.incr rfl (by omega)) rfl rfl rfl ?_; refine .o rfl ?_; refine WL.nil ?_
      refine Kloop.nextC (k + 1) ⟨by omega, fun j hj => ?_⟩ (by omega) ⟨rfl, rfl, rfl, trivial⟩ (by simp) (.refl _)
      rcases Nat.lt_succ_iff_lt_or_eq.1 hj with h | rfl
      · exact hall j h
      · exact hne
  · refine W.exit (Kseq.exit (Kloop.exit (Kblock.here (Kseq.go (W.seq ?_)))))
    refine W.region ?_; refine .o rfl ?_; refine WL.nil ?_; refine Kseq.go ?_
    refine W.ret ?_; refine ⟨.inl rfl, [_], h, ⟨.tmp rfl, trivial⟩, (by repeat constructor), ?_⟩
    refine congrArg Value.bool (decide_eq_false fun hm => ?_).symm
    obtain ⟨j, hj, he⟩ := getD_of_mem hm
    exact hall j (by omega) he

/-- ref.In -/
theorem in_any {h : Mem} (n low high : Int) : FnV Try.prog 22 #[.int .i64 n, .int .i64 low, .int .i64 high] h (.bool (decide (low ≤ n ∧ n ≤ high))) := by
  refine FnR.val ?_
  refine FnR.of_W (n := 15) Try.func22 rfl rfl (Nat.le_of_ble_eq_true rfl) fun c hr hD hF => ?_
  refine W.seq ?_; refine W.region ?_; refine .o rfl ?_; refine WL.nil ?_
  refine Kseq.go (W.seq ?_)
  refine W.region ?_
  iterate 4 refine .o rfl ?_
  refine WL.split rfl rfl (fun h1 => ?_) (fun h1 => ?_)
  · refine .o rfl ?_
    iterate 4 refine .o rfl ?_
    refine WL.nil ?_; refine Kseq.go ?_
    refine W.ret ?_; refine ⟨.inl rfl, [_], h, ⟨.tmp rfl, trivial⟩, (by repeat constructor), ?_⟩
    exact congrArg Value.bool (by simp [h1])
  · refine WL.pass rfl rfl rfl ?_
    refine WL.pass rfl rfl rfl ?_; refine WL.pass rfl rfl rfl ?_
    iterate 2 refine .o rfl ?_
    refine WL.nil ?_; refine Kseq.go ?_
    refine W.ret ?_; refine ⟨.inl rfl, [_], h, ⟨.tmp rfl, trivial⟩, (by repeat constructor), ?_⟩
    exact congrArg Value.bool (by simp [h1])

/-- ref.Own -/
theorem own_any {h : Mem} {v : Value} {xs : List Int} (x : Int) (hv : IsInts h v xs) : FnV Try.prog 147 #[v, .int .i64 x] h (.int .i64 (own xs x)) := by
  have hlen := hv.bd
  refine FnR.val ?_
  refine FnR.of_W (n := 22) Try.func147 rfl rfl (Nat.le_of_ble_eq_true rfl) fun c hr hD hF => ?_
  refine W.seq ?_; refine W.region ?_; refine .o rfl ?_; refine WL.nil ?_
  refine Kseq.go (W.seq ?_)
  refine W.region ?_; refine .o rfl ?_; refine WL.nil ?_
  refine Kseq.go (W.seq (W.seq ?_))
  refine W.region ?_; refine .o rfl ?_; refine WL.nil ?_
  refine Kseq.go (W.block ?_)
  refine W.loopC (σ := Nat) (fun k => [(0, v), (1, .int .i64 x), (5, .int .i64 (cnt k fun i => decide (xs.getD i 0 = x))), (6, .int .i64 (k : Int))]) (fun k => k ≤ xs.length) (fun k => xs.length - k) 0 ⟨rfl, rfl, rfl, rfl, trivial⟩ (Nat.zero_le _) ?_
  rintro k hk
  have hc := cnt_le k fun i => decide (xs.getD i 0 = x)
  refine W.seq (W.seq ?_)
  refine W.region ?_
  iterate 2 refine .o rfl ?_
  refine .val (.len rfl (by assumption)) rfl rfl rfl ?_; refine .o rfl ?_; refine WL.nil ?_; refine Kseq.go ?_
  refine W.condD rfl rfl (fun hlt => ?_) (fun hge => ?_)
  · refine W.skip (Kseq.go (W.seq (W.block (W.seq ?_))))
    refine W.region ?_
    iterate 2 refine .o rfl ?_
    refine .val (.indexAddrN rfl rfl (by assumption) (by omega)) rfl rfl rfl ?_; refine .val (.loadE rfl (by assumption) (by repeat constructor) (by omega) (by omega)) rfl rfl rfl ?_
    iterate 2 refine .o rfl ?_
    refine WL.nil ?_; refine Kseq.go ?_
    refine W.condD rfl rfl (fun he => ?_) (fun hne => ?_)
    · skip
      refine W.region ?_; refine .o rfl ?_; refine .val (.incr rfl (by omega)) rfl rfl rfl ?_; refine .o rfl ?_; refine WL.nil ?_
      refine Kblock.normal (Kseq.go ?_)
      refine W.region ?_; refine .o rfl ?_; refine .val (.incr rfl (by omega)) rfl rfl rfl ?_; refine .o rfl ?_; refine WL.nil ?_
      refine Kloop.nextC (k + 1) (by omega) (by omega) ⟨rfl, rfl, ?_, rfl, trivial⟩ (by simp) (.refl _)
      rw [cnt_yes (decide_eq_true he)]; rfl
    · refine W.skip (Kblock.normal (Kseq.go ?_))
      refine W.region ?_; refine .o rfl ?_; refine .val (.incr rfl (by omega)) rfl rfl rfl ?_; refine .o rfl ?_; refine WL.nil ?_
      refine Kloop.nextC (k + 1) (by omega) (by omega) ⟨rfl, rfl, ?_, rfl, trivial⟩ (by simp) (.refl _)
      rw [cnt_no (decide_eq_false hne)]; rfl
  · refine W.exit (Kseq.exit (Kloop.exit (Kblock.here (Kseq.go (W.seq ?_)))))
    refine W.region ?_
    iterate 2 refine .o rfl ?_
    refine WL.nil ?_; refine Kseq.go ?_
    refine W.ret ?_; refine ⟨.inl rfl, [_], h, ⟨.tmp rfl, trivial⟩, (by repeat constructor), ?_⟩
    have : k = xs.length := by omega
    subst this; rfl

/-- Tables that are no greater than is ever looked at. -/
def Sm (t : Table) : Prop := t.women.length ≤ 50 ∧ t.pieces.length ≤ 50 ∧ ∀ i, i < t.pieces.length → (t.pieces.getD i default).marks.length ≤ 50

/-- ref.WomenOf -/
theorem womenOf_any {h : Mem} {v : Value} {t : Table} {p : Nat} (hv : IsTable h v t) (hs : Sm t) (hp : p < t.pieces.length) : FnR Try.prog 86 #[v, .int .i64 p] h (fun m r => IsInts m r (womenOf t p)) := by
  obtain ⟨wv, pv, f, rfl, hW, hP, hM⟩ := hv
  obtain ⟨hs1, hs2, hs3⟩ := hs
  refine FnR.of_W (n := 32) Try.func86 rfl rfl (Nat.le_of_ble_eq_true rfl) fun c hr hD hF => ?_
  refine W.seq ?_; refine W.region ?_
  refine WL.box rfl rfl rfl rfl (fun b2 => ?_)
  refine .o rfl ?_; refine WL.nil ?_
  refine Kseq.go (W.seq ?_)
  refine W.region ?_; refine .o rfl ?_; refine WL.nil ?_
  refine Kseq.go (W.seq (W.seq ?_))
  refine W.region ?_; refine .o rfl ?_; refine WL.nil ?_
  refine Kseq.go (W.block ?_)
  refine W.nilRow 3 1 ?_
  let q : Nat → Bool := fun w => decide ((t.women.getD w default).mark ∈ (t.pieces.getD p default).marks)
  refine W.loopA (σ := Nat × Value) (fun s => [(1, .int .i64 p), (2, .pointer (some ⟨b2, 0, none⟩)), (5, s.2), (6, .int .i64 (s.1 : Int))]) (fun s => ir 3 s.2 (sel s.1 q)) (fun s => s.1 ≤ t.women.length) (fun s => t.women.length - s.1) (0, .slice none 0 0) ⟨rfl, rfl, rfl, rfl, trivial⟩ rfl (Nat.zero_le _) ?_
  rintro ⟨k, a⟩ hk
  dsimp only at hk ⊢
  have hlen := sel_len k q
  refine W.seq (W.seq ?_)
  refine W.region ?_; refine .o rfl ?_; refine .val (.fieldAddrB rfl) rfl rfl rfl ?_; refine .val (.loadB rfl (.tail _ (.head _)) rfl) rfl rfl rfl ?_; refine .val (.len rfl (by assumption)) rfl rfl rfl ?_; refine .o rfl ?_; refine WL.nil ?_; refine Kseq.go ?_
  refine W.condD rfl rfl (fun hlt => ?_) (fun hge => ?_)
  · refine W.skip (Kseq.go (W.seq (W.block (W.seq ?_))))
    refine W.draw 12 (by kernel_rfl) (by kernel_rfl) (by kernel_rfl) rfl ?_; refine .val [] (.fieldAddrB rfl) rfl rfl rfl rfl ?_; refine .val [] (.loadB rfl (.tail _ (.head _)) rfl) rfl rfl rfl rfl ?_; refine .val [] (.opv rfl) rfl rfl rfl rfl ?_; refine .val [] (.indexAddrN rfl rfl (by assumption) (by omega)) rfl rfl rfl rfl ?_; refine .val [] (.fieldAddrN rfl (by assumption) (by omega)) rfl rfl rfl rfl ?_; refine .val [] (.loadE rfl (by assumption) (by repeat constructor) (by omega) (by omega)) rfl rfl rfl rfl ?_; refine .val [] (.fieldAddrB rfl) rfl rfl rfl rfl ?_; refine .val [] (.loadB rfl (.tail _ (.head _)) rfl) rfl rfl rfl rfl ?_; refine .val [] (.opv rfl) rfl rfl rfl rfl ?_; refine .val [] (.indexAddrN rfl rfl (by assumption) (by omega)) rfl rfl rfl rfl ?_; refine .val [] (.fieldAddrN rfl (by assumption) (by omega)) rfl rfl rfl rfl ?_; refine .val [] (.loadE rfl (by assumption) (by repeat constructor) (by omega) (by omega)) rfl rfl rfl rfl ?_
    refine DJ.nil ?_; refine .val (.call rfl (fun m hm => has_any _ ((hM p hp).le hm.1))) rfl rfl rfl ?_; refine WL.nil ?_; refine Kseq.go ?_
    refine W.condD rfl rfl (fun he => ?_) (fun hne => ?_)
    · skip
      refine W.region ?_
      iterate 2 refine .o rfl ?_
      refine WL.abs (OpAbs.lit [_] rfl (Nat.le_of_ble_eq_true rfl) rfl rfl (by simp [Value.cells]) (Nat.le_of_ble_eq_true rfl) rfl (by first | (simp [Value.oneCell']; done) | exact List.all_eq_true.1 rfl)) rfl rfl rfl ?_
      rintro m29 _ ⟨hc29, a29, rfl⟩
      refine WL.appInt rfl (fun _ => (.head _)) rfl (by assumption) (by repeat constructor) (by omega) rfl rfl rfl ?_
      intro a30 cp30
      refine .o rfl ?_; refine WL.nil ?_
      refine Kblock.normal (Kseq.go ?_)
      refine W.region ?_; refine .o rfl ?_; refine .val (.incr rfl (by omega)) rfl rfl rfl ?_; refine .o rfl ?_; refine WL.nil ?_
      refine Kloop.next (k + 1, _) (by omega) (by omega) ⟨rfl, rfl, rfl, rfl, trivial⟩ (by simp) (sub_yes (decide_eq_true he))
    · refine W.skip (Kblock.normal (Kseq.go ?_))
      refine W.region ?_; refine .o rfl ?_; refine .val (.incr rfl (by omega)) rfl rfl rfl ?_; refine .o rfl ?_; refine WL.nil ?_
      refine Kloop.next (k + 1, a) (by omega) (by omega) ⟨rfl, rfl, rfl, rfl, trivial⟩ (by simp) (sub_no (decide_eq_false hne))
  · refine W.exit (Kseq.exit (Kloop.exit (Kblock.here (Kseq.go (W.seq ?_)))))
    have : k = t.women.length := by omega
    subst this
    refine W.freezeInts (.head _) (fun b hb => (hF b hb).elim) fun mr hmr => ?_
    refine W.region ?_
    iterate 2 refine .o rfl ?_
    refine WL.nil ?_; refine Kseq.go ?_
    refine W.ret ?_; refine ⟨.inl rfl, [_], mr, ⟨.tmp rfl, trivial⟩, (by repeat constructor), ?_⟩
    exact hmr

end Go.Proofs.Ytppkhehbkoeinaa

/- The reference's functions of chapter 3, on: their contracts. -/
namespace Go.Proofs.Ytppkhehbkoeinaa
open Go Go.Eng Go.RowKit

/-- ref.AreOwners -/
theorem areOwners_any {h : Mem} {v lv : Value} {t : Table} {xs : List Int} (hv : IsTable h v t) (hs : Sm t) (hl : IsInts h lv xs) : FnV Try.prog 38 #[v, lv] h (.bool (areOwners t xs)) := by
  have hv' := hv
  obtain ⟨wv, pv, f, rfl, hW, hP, hM⟩ := hv
  have hs' := hs
  obtain ⟨hs1, hs2, hs3⟩ := hs
  refine FnR.val ?_
  refine FnR.of_W (n := 27) Try.func38 rfl rfl (Nat.le_of_ble_eq_true rfl) fun c hr hD hF => ?_
  refine W.seq ?_; refine W.region ?_
  refine WL.box rfl rfl rfl rfl (fun b2 => ?_)
  refine .o rfl ?_; refine WL.nil ?_
  refine Kseq.go (W.seq (W.seq ?_))
  refine W.region ?_; refine .o rfl ?_; refine .val (.len rfl (by assumption)) rfl rfl rfl ?_; refine .val (.fieldAddrB rfl) rfl rfl rfl ?_; refine .val (.loadB rfl (.head _) rfl) rfl rfl rfl ?_; refine .val (.len rfl (by assumption)) rfl rfl rfl ?_; refine .o rfl ?_; refine WL.nil ?_; refine Kseq.go ?_
  refine W.cond rfl rfl (fun he => ?_) (fun hne => ?_)
  · refine W.seq ?_
    refine W.region ?_; refine .o rfl ?_; refine WL.nil ?_; refine Kseq.go ?_
    refine W.ret ?_; refine Kseq.ret ?_; refine ⟨.inl rfl, [_], h, ⟨.tmp rfl, trivial⟩, (by repeat constructor), ?_⟩
    exact congrArg Value.bool (by simp [areOwners]; intro h; simp at he; omega)
  have hn : xs.length = t.pieces.length := by simp at hne; omega
  refine W.skip (Kseq.go (W.seq (W.seq ?_)))
  refine W.region ?_; refine .o rfl ?_; refine WL.nil ?_
  refine Kseq.go (W.block ?_)
  refine W.loopC (σ := Nat) (fun k => [(1, lv), (2, .pointer (some ⟨b2, 0, none⟩)), (5, .int .i64 (k : Int))]) (fun k => k ≤ xs.length ∧ ∀ i, i < k → xs.getD i 0 ∈ womenOf t i) (fun k => xs.length - k) 0 ⟨rfl, rfl, rfl, trivial⟩ ⟨Nat.zero_le _, fun i hi => absurd hi (Nat.not_lt_zero _)⟩ ?_
  rintro k ⟨hk, hall⟩
  refine W.seq (W.seq ?_)
  refine W.region ?_
  iterate 2 refine .o rfl ?_
  refine .val (.len rfl (by assumption)) rfl rfl rfl ?_; refine .o rfl ?_; refine WL.nil ?_; refine Kseq.go ?_
  refine W.condD rfl rfl (fun hlt => ?_) (fun hge => ?_)
  · refine W.skip (Kseq.go (W.seq (W.block (W.seq ?_))))
    refine W.draw 7 (by kernel_rfl) (by kernel_rfl) (by kernel_rfl) rfl ?_; refine .val [] (.loadBW rfl (.head _) rfl) rfl rfl rfl rfl ?_; refine .val [] (.opv rfl) rfl rfl rfl rfl ?_; refine DJ.abs (A := fun m r => IsInts m r (womenOf t k)) [] (OpAbs.call rfl (fun m hm => womenOf_any (hv'.le hm.1) hs' (by omega))) rfl rfl rfl rfl ?_; refine .val [] (.opv rfl) rfl rfl rfl rfl ?_; refine .val [] (.opv rfl) rfl rfl rfl rfl ?_; refine .val [] (.indexAddrN rfl rfl (by assumption) (by omega)) rfl rfl rfl rfl ?_; refine .val [] (.loadE rfl (by assumption) (by repeat constructor) (by omega) (by omega)) rfl rfl rfl rfl ?_; refine DJ.nil ?_
    rintro m20 v20 h20
    refine .val (.call rfl (fun m hm => has_any _ (h20.le hm.1))) rfl rfl rfl ?_; refine .o rfl ?_; refine WL.nil ?_; refine Kseq.go ?_
    refine W.cond rfl rfl (fun he => ?_) (fun hne => ?_)
    · refine W.seq ?_
      refine W.region ?_; refine .o rfl ?_; refine WL.nil ?_; refine Kseq.go ?_
      refine W.ret ?_; refine Kblock.ret (Kseq.ret (Kloop.ret (Kblock.ret (Kseq.ret ?_)))); refine ⟨.inl rfl, [_], h, ⟨.tmp rfl, trivial⟩, (by repeat constructor), ?_⟩
      refine congrArg Value.bool (decide_eq_false fun hx => ?_).symm
      simp at he
      exact he (hx.2 k (by omega))
    · refine W.skip (Kblock.normal (Kseq.go ?_))
      refine W.region ?_; refine .o rfl ?_; refine .val (.incr rfl (by omega)) rfl rfl rfl ?_; refine .o rfl ?_; refine WL.nil ?_
      refine Kloop.nextC (k + 1) ⟨by omega, fun i hi => ?_⟩ (by omega) ⟨rfl, rfl, rfl, trivial⟩ (by simp) (.refl _)
      rcases Nat.lt_succ_iff_lt_or_eq.1 hi with h1 | rfl
      · exact hall i h1
      · simpa using hne
  · refine W.exit (Kseq.exit (Kloop.exit (Kblock.here (Kseq.go (W.seq ?_)))))
    refine W.region ?_; refine .o rfl ?_; refine WL.nil ?_; refine Kseq.go ?_
    refine W.ret ?_; refine ⟨.inl rfl, [_], h, ⟨.tmp rfl, trivial⟩, (by repeat constructor), ?_⟩
    exact congrArg Value.bool (decide_eq_true ⟨hn, fun i hi => hall i (by omega)⟩).symm

/-- ref.Many -/
theorem many_any {h : Mem} {v : Value} {t : Table} (hv : IsTable h v t) (hs : Sm t) : FnV Try.prog 61 #[v] h (.int .i64 (many t)) := by
  have hv' := hv
  obtain ⟨wv, pv, f, rfl, hW, hP, hM⟩ := hv
  have hs' := hs
  obtain ⟨hs1, hs2, hs3⟩ := hs
  refine FnR.val ?_
  refine FnR.of_W (n := 20) Try.func61 rfl rfl (Nat.le_of_ble_eq_true rfl) fun c hr hD hF => ?_
  refine W.seq ?_; refine W.region ?_
  refine WL.box rfl rfl rfl rfl (fun b1 => ?_)
  refine .o rfl ?_; refine WL.nil ?_
  refine Kseq.go (W.seq ?_)
  refine W.region ?_; refine .o rfl ?_; refine WL.nil ?_
  refine Kseq.go (W.seq (W.seq ?_))
  refine W.region ?_; refine .o rfl ?_; refine WL.nil ?_
  refine Kseq.go (W.block ?_)
  refine W.loopC (σ := Nat) (fun k => [(1, .pointer (some ⟨b1, 0, none⟩)), (3, .int .i64 (manyTo t k)), (4, .int .i64 (k : Int))]) (fun k => k ≤ t.pieces.length) (fun k => t.pieces.length - k) 0 ⟨rfl, rfl, rfl, trivial⟩ (Nat.zero_le _) ?_
  intro k hk
  have hmp := manyTo_pos t k
  have hwl : (womenOf t k).length ≤ t.women.length := sel_len _ _
  refine W.seq (W.seq ?_)
  refine W.region ?_; refine .o rfl ?_; refine .val (.fieldAddrB rfl) rfl rfl rfl ?_; refine .val (.loadB rfl (.head _) rfl) rfl rfl rfl ?_; refine .val (.len rfl (by assumption)) rfl rfl rfl ?_; refine .o rfl ?_; refine WL.nil ?_; refine Kseq.go ?_
  refine W.condD rfl rfl (fun hlt => ?_) (fun hge => ?_)
  · have hmul : manyTo t k * ((womenOf t k).length : Int) ≤ 3000 * 50 := Int.mul_le_mul hmp.2 (by omega) (by omega) (by omega)
    have hmul0 : 0 ≤ manyTo t k * ((womenOf t k).length : Int) := Int.mul_nonneg hmp.1 (by omega)
    refine W.skip (Kseq.go (W.seq (W.block ?_)))
    refine W.region ?_; refine .o rfl ?_; refine .val (.loadBW rfl (.head _) rfl) rfl rfl rfl ?_; refine .o rfl ?_; refine WL.abs (OpAbs.call rfl (fun m hm => womenOf_any (hv'.le hm.1) hs' (by omega))) rfl rfl rfl ?_
    rintro m15 v15 h15
    refine .val (.len rfl (by assumption)) rfl rfl rfl ?_; refine .val (.mul rfl rfl (by omega) (by omega)) rfl rfl rfl ?_; refine .val (.min2 rfl rfl) rfl rfl rfl ?_; refine .o rfl ?_; refine WL.nil ?_
    refine Kblock.normal (Kseq.go ?_)
    refine W.region ?_; refine .o rfl ?_; refine .val (.incr rfl (by omega)) rfl rfl rfl ?_; refine .o rfl ?_; refine WL.nil ?_
    exact Kloop.nextC (k + 1) (by omega) (by omega) ⟨rfl, by rw [manyTo_succ]; rfl, rfl, trivial⟩ (by simp) (.refl _)
  · refine W.exit (Kseq.exit (Kloop.exit (Kblock.here (Kseq.go (W.seq ?_)))))
    have : k = t.pieces.length := by omega
    subst this
    refine W.region ?_
    iterate 2 refine .o rfl ?_
    refine WL.nil ?_; refine Kseq.go ?_
    refine W.ret ?_; refine ⟨.inl rfl, [_], h, ⟨.tmp rfl, trivial⟩, (by repeat constructor), ?_⟩
    rfl
end Go.Proofs.Ytppkhehbkoeinaa

/- The reference's functions of chapter 3, on: their contracts. -/
namespace Go.Proofs.Ytppkhehbkoeinaa
open Go Go.Eng Go.RowKit

theorem full_lt {t : Table} (hs : Sm t) : full t < 2 ^ 50 := by
  have h1 := hs.1
  have := Nat.pow_le_pow_right (n := 2) (by omega) h1
  have := Nat.two_pow_pos t.women.length
  unfold full; omega

/-- ref.Full -/
theorem full_any {h : Mem} {v : Value} {t : Table} (hv : IsTable h v t) (hs : Sm t) : FnV Try.prog 137 #[v] h (.int .i64 (full t)) := by
  obtain ⟨wv, pv, f, rfl, hW, hP, hM⟩ := hv
  obtain ⟨hs1, hs2, hs3⟩ := hs
  refine FnR.val ?_
  refine FnR.of_W (n := 9) Try.func137 rfl rfl (Nat.le_of_ble_eq_true rfl) fun c hr hD hF => ?_
  have hpow := Nat.pow_le_pow_right (n := 2) (by omega) hs1
  have hpos := Nat.two_pow_pos t.women.length
  have e : (1 * 2 ^ t.women.length : Int) = ((2 ^ t.women.length : Nat) : Int) := by simp
  refine W.seq ?_; refine W.region ?_
  refine WL.box rfl rfl rfl rfl (fun b1 => ?_)
  refine .o rfl ?_; refine WL.nil ?_
  refine Kseq.go (W.seq ?_)
  refine W.region ?_; refine .val (.fieldAddrB rfl) rfl rfl rfl ?_; refine .val (.loadB rfl (.head _) rfl) rfl rfl rfl ?_; refine .val (.len rfl (by assumption)) rfl rfl rfl ?_; refine .val (.conv rfl (wrap_u64 (by omega) (by omega))) rfl rfl rfl ?_
  refine .val ((OpVal.shl rfl rfl (by omega) (by rw [e]; omega) (by rw [e]; omega)).cast (congrArg (Value.int .i64) e)) rfl rfl rfl ?_
  refine .val (.sub rfl rfl (by omega) (by omega)) rfl rfl rfl ?_; refine .o rfl ?_; refine WL.nil ?_; refine Kseq.go ?_
  refine W.ret ?_; refine ⟨.inl rfl, [_], h, ⟨.tmp rfl, trivial⟩, (by repeat constructor), ?_⟩
  exact congrArg (Value.int .i64) (by unfold full; omega)

/-- ref.Right -/
theorem right_any {h : Mem} {v lv : Value} {t : Table} {xs : List Int} (hv : IsTable h v t) (hs : Sm t) (hl : IsInts h lv xs) : FnV Try.prog 138 #[v, lv] h (.int .i64 (right t xs)) := by
  obtain ⟨wv, pv, f, rfl, hW, hP, hM⟩ := hv
  obtain ⟨hs1, hs2, hs3⟩ := hs
  refine FnR.val ?_
  refine FnR.of_W (n := 38) Try.func138 rfl rfl (Nat.le_of_ble_eq_true rfl) fun c hr hD hF => ?_
  refine W.seq ?_; refine W.region ?_
  refine WL.box rfl rfl rfl rfl (fun b2 => ?_)
  refine .o rfl ?_; refine WL.nil ?_
  refine Kseq.go (W.seq ?_)
  refine W.region ?_; refine .o rfl ?_; refine WL.nil ?_
  refine Kseq.go (W.seq (W.seq ?_))
  refine W.region ?_; refine .o rfl ?_; refine WL.nil ?_
  refine Kseq.go (W.block ?_)
  refine W.loopC (σ := Nat) (fun k => [(1, lv), (2, .pointer (some ⟨b2, 0, none⟩)), (5, .int .i64 (bset k (rightP t xs))), (6, .int .i64 (k : Int))]) (fun k => k ≤ t.women.length) (fun k => t.women.length - k) 0 ⟨rfl, rfl, rfl, rfl, trivial⟩ (Nat.zero_le _) ?_
  intro k hk
  have hb := bset_lt (rightP t xs) k
  have hpow := Nat.pow_le_pow_right (n := 2) (by omega) (show k ≤ 50 by omega)
  have e : (1 * 2 ^ k : Int) = ((2 ^ k : Nat) : Int) := by simp
  refine W.seq (W.seq ?_)
  refine W.region ?_; refine .o rfl ?_; refine .val (.fieldAddrB rfl) rfl rfl rfl ?_; refine .val (.loadB rfl (.head _) rfl) rfl rfl rfl ?_; refine .val (.len rfl (by assumption)) rfl rfl rfl ?_; refine .o rfl ?_; refine WL.nil ?_; refine Kseq.go ?_
  refine W.condD rfl rfl (fun hlt => ?_) (fun hge => ?_)
  · refine W.skip (Kseq.go (W.seq (W.block (W.seq ?_))))
    refine W.draw 17 (by kernel_rfl) (by kernel_rfl) (by kernel_rfl) rfl ?_; refine .val [] (.opv rfl) rfl rfl rfl rfl ?_; refine .val [] (.opv rfl) rfl rfl rfl rfl ?_; refine .val [] (.call rfl (fun m hm => own_any _ (hl.le hm.1))) rfl rfl rfl rfl ?_; refine .val [] (.fieldAddrB rfl) rfl rfl rfl rfl ?_; refine .val [] (.loadB rfl (.head _) rfl) rfl rfl rfl rfl ?_; refine .val [] (.opv rfl) rfl rfl rfl rfl ?_; refine .val [] (.indexAddrN rfl rfl (by assumption) (by omega)) rfl rfl rfl rfl ?_; refine .val [] (.fieldAddrN rfl (by assumption) (by omega)) rfl rfl rfl rfl ?_; refine .val [] (.fieldAddrN rfl (by assumption) (by omega)) rfl rfl rfl rfl ?_; refine .val [] (.loadE rfl (by assumption) (by repeat constructor) (by omega) (by omega)) rfl rfl rfl rfl ?_; refine .val [] (.fieldAddrB rfl) rfl rfl rfl rfl ?_; refine .val [] (.loadB rfl (.head _) rfl) rfl rfl rfl rfl ?_; refine .val [] (.opv rfl) rfl rfl rfl rfl ?_
    refine .val [] (.indexAddrN rfl rfl (by assumption) (by omega)) rfl rfl rfl rfl ?_; refine .val [] (.fieldAddrN rfl (by assumption) (by omega)) rfl rfl rfl rfl ?_; refine .val [] (.fieldAddrN rfl (by assumption) (by omega)) rfl rfl rfl rfl ?_; refine .val [] (.loadE rfl (by assumption) (by repeat constructor) (by omega) (by omega)) rfl rfl rfl rfl ?_; refine DJ.nil ?_; refine .val (.call rfl (fun m hm => in_any _ _ _)) rfl rfl rfl ?_; refine WL.nil ?_; refine Kseq.go ?_
    refine W.condD rfl rfl (fun he => ?_) (fun hne => ?_)
    · skip
      refine W.region ?_
      iterate 2 refine .o rfl ?_
      refine .val (.conv rfl (wrap_u64 (by omega) (by omega))) rfl rfl rfl ?_
      refine .val ((OpVal.shl rfl rfl (by omega) (by rw [e]; omega) (by rw [e]; omega)).cast (congrArg (Value.int .i64) e)) rfl rfl rfl ?_
      refine .val (.bor rfl rfl (by omega) (by omega)) rfl rfl rfl ?_; refine .o rfl ?_; refine WL.nil ?_
      refine Kblock.normal (Kseq.go ?_)
      refine W.region ?_; refine .o rfl ?_; refine .val (.incr rfl (by omega)) rfl rfl rfl ?_; refine .o rfl ?_; refine WL.nil ?_
      refine Kloop.nextC (k + 1) (by omega) (by omega) ⟨rfl, rfl, ?_, rfl, trivial⟩ (by simp) (.refl _)
      have : rightP t xs k = true := decide_eq_true he
      simp only [bset, this, if_true]; rfl
    · refine W.skip (Kblock.normal (Kseq.go ?_))
      refine W.region ?_; refine .o rfl ?_; refine .val (.incr rfl (by omega)) rfl rfl rfl ?_; refine .o rfl ?_; refine WL.nil ?_
      refine Kloop.nextC (k + 1) (by omega) (by omega) ⟨rfl, rfl, ?_, rfl, trivial⟩ (by simp) (.refl _)
      have : rightP t xs k = false := decide_eq_false hne
      simp only [bset, this]; rfl
  · refine W.exit (Kseq.exit (Kloop.exit (Kblock.here (Kseq.go (W.seq ?_)))))
    have : k = t.women.length := by omega
    subst this
    refine W.region ?_
    iterate 2 refine .o rfl ?_
    refine WL.nil ?_; refine Kseq.go ?_
    refine W.ret ?_; refine ⟨.inl rfl, [_], h, ⟨.tmp rfl, trivial⟩, (by repeat constructor), ?_⟩
    rfl

/-- ref.Bits -/
theorem bits_any {h : Mem} {b : Nat} (hb : b < 2 ^ 60) : FnR Try.prog 136 #[.int .i64 b] h (fun m r => IsInts m r (bits b)) := by
  refine FnR.of_W (n := 23) Try.func136 rfl rfl (Nat.le_of_ble_eq_true rfl) fun c hr hD hF => ?_
  refine W.seq ?_; refine W.region ?_; refine .o rfl ?_; refine WL.nil ?_
  refine Kseq.go (W.seq ?_)
  refine W.region ?_; refine .o rfl ?_; refine WL.nil ?_
  refine Kseq.go (W.seq (W.seq ?_))
  refine W.region ?_; refine .o rfl ?_; refine WL.nil ?_
  refine Kseq.go (W.block ?_)
  refine W.nilRow 3 1 ?_
  let q : Nat → Bool := fun i => b.testBit i
  refine W.loopA (σ := Nat × Value) (fun s => [(0, .int .i64 b), (3, s.2), (4, .int .i64 (s.1 : Int))]) (fun s => ir 3 s.2 (sel s.1 q)) (fun s => s.1 ≤ 60) (fun s => 60 - s.1) (0, .slice none 0 0) ⟨rfl, rfl, rfl, trivial⟩ rfl (Nat.zero_le _) ?_
  rintro ⟨k, a⟩ hk
  dsimp only at hk ⊢
  have hlen := sel_len k q
  refine W.seq (W.seq ?_)
  refine W.region ?_
  iterate 2 refine .o rfl ?_
  refine .val (.conv rfl (wrap_u64 (by omega) (by omega))) rfl rfl rfl ?_; refine .val (.shr rfl rfl (by omega)) rfl rfl rfl ?_; refine .o rfl ?_; refine WL.nil ?_; refine Kseq.go ?_
  refine W.condD rfl rfl (fun hlt => ?_) (fun hge => ?_)
  · have hk60 : k < 60 := by
      rcases Nat.lt_or_ge k 60 with h | h
      · exact h
      · exfalso
        have hk' : k = 60 := by omega
        subst hk'
        rw [Nat.div_eq_of_lt hb] at hlt
        simp at hlt
    have hq : q k = decide (b / 2 ^ k % 2 = 1) := by
      show Nat.testBit b k = _
      rw [Nat.testBit_eq_decide_div_mod_eq]
    refine W.skip (Kseq.go (W.seq (W.block (W.seq ?_))))
    refine W.region ?_
    iterate 2 refine .o rfl ?_
    refine .val (.conv rfl (wrap_u64 (by omega) (by omega))) rfl rfl rfl ?_; refine .val (.shr rfl rfl (by omega)) rfl rfl rfl ?_; refine .val (.rem rfl rfl (by omega) (by omega)) rfl rfl rfl ?_; refine .o rfl ?_; refine WL.nil ?_; refine Kseq.go ?_
    refine W.condD rfl rfl (fun he => ?_) (fun hne => ?_)
    · skip
      refine W.region ?_
      iterate 2 refine .o rfl ?_
      refine WL.abs (OpAbs.lit [_] rfl (Nat.le_of_ble_eq_true rfl) rfl rfl (by simp [Value.cells]) (Nat.le_of_ble_eq_true rfl) rfl (by first | (simp [Value.oneCell']; done) | exact List.all_eq_true.1 rfl)) rfl rfl rfl ?_
      rintro m20 _ ⟨hc20, a20, rfl⟩
      refine WL.appInt rfl (fun _ => (.head _)) rfl (by assumption) (by repeat constructor) (by omega) rfl rfl rfl ?_
      intro a21 cp21
      refine .o rfl ?_; refine WL.nil ?_
      refine Kblock.normal (Kseq.go ?_)
      refine W.region ?_; refine .o rfl ?_; refine .val (.incr rfl (by omega)) rfl rfl rfl ?_; refine .o rfl ?_; refine WL.nil ?_
      exact Kloop.next (k + 1, _) (by omega) (by omega) ⟨rfl, rfl, rfl, trivial⟩ (by simp) (sub_yes (by rw [hq]; exact decide_eq_true (by omega)))
    · refine W.skip (Kblock.normal (Kseq.go ?_))
      refine W.region ?_; refine .o rfl ?_; refine .val (.incr rfl (by omega)) rfl rfl rfl ?_; refine .o rfl ?_; refine WL.nil ?_
      exact Kloop.next (k + 1, a) (by omega) (by omega) ⟨rfl, rfl, rfl, trivial⟩ (by simp) (sub_no (by rw [hq]; exact decide_eq_false (by omega)))
  · refine W.exit (Kseq.exit (Kloop.exit (Kblock.here (Kseq.go (W.seq ?_)))))
    have hsel : sel 64 q = sel k q := sel_stop (by omega) fun i h1 h2 => by
      show Nat.testBit b i = false
      refine Nat.testBit_lt_two_pow ?_
      have h0 : b / 2 ^ k = 0 := Nat.eq_zero_of_not_pos fun h => hge (Int.natCast_pos.2 h)
      have := (Nat.div_eq_zero_iff).1 h0
      have h3 : b < 2 ^ k := by
        rcases this with h | h
        · exact absurd h (Nat.ne_of_gt (Nat.two_pow_pos k))
        · exact h
      exact Nat.lt_of_lt_of_le h3 (Nat.pow_le_pow_right (by omega) h1)
    refine W.freezeInts (.head _) (fun b hb => (hF b hb).elim) fun mr hmr => ?_
    refine W.region ?_
    iterate 2 refine .o rfl ?_
    refine WL.nil ?_; refine Kseq.go ?_
    refine W.ret ?_; refine ⟨.inl rfl, [_], mr, ⟨.tmp rfl, trivial⟩, (by repeat constructor), ?_⟩
    unfold bits
    rw [hsel]
    exact hmr

/-- ref.IsTruth -/
theorem isTruth_any {h : Mem} {v lv : Value} {t : Table} {xs : List Int} (hv : IsTable h v t) (hs : Sm t) (hl : IsInts h lv xs) : FnV Try.prog 111 #[v, lv] h (.bool (isTruth t xs)) := by
  have hv' := hv
  obtain ⟨wv, pv, f, rfl, hW, hP, hM⟩ := hv
  have hf := full_lt hs
  have hr : right t xs < 2 ^ 50 := Nat.lt_of_lt_of_le (bset_lt _ _) (Nat.pow_le_pow_right (by omega) hs.1)
  have hwo : without (full t) (right t xs) < 2 ^ 60 := Nat.lt_of_le_of_lt Nat.and_le_left (by omega)
  refine FnR.val ?_
  refine FnR.of_W (n := 21) Try.func111 rfl rfl (Nat.le_of_ble_eq_true rfl) fun c hr hD hF => ?_
  refine W.seq ?_; refine W.region ?_
  refine WL.box rfl rfl rfl rfl (fun b2 => ?_)
  refine .o rfl ?_; refine WL.nil ?_
  refine Kseq.go (W.seq ?_)
  refine W.draw 14 (by kernel_rfl) (by kernel_rfl) (by kernel_rfl) rfl ?_; refine .val [] (.loadBW rfl (.head _) rfl) rfl rfl rfl rfl ?_; refine .val [] (.opv rfl) rfl rfl rfl rfl ?_; refine .val [] (.call rfl (fun m hm => areOwners_any (hv'.le hm.1) hs (hl.le hm.1))) rfl rfl rfl rfl ?_; refine .val [] (.opv rfl) rfl rfl rfl rfl ?_
  refine DJ.splitB rfl rfl (fun h1 => ?_) (fun h1 => ?_)
  · refine .val [] (.loadBW rfl (.head _) rfl) rfl rfl rfl rfl ?_
    refine .val [] (.call rfl (fun m hm => full_any (hv'.le hm.1) hs)) rfl rfl rfl rfl ?_; refine .val [] (.loadBW rfl (.head _) rfl) rfl rfl rfl rfl ?_; refine .val [] (.opv rfl) rfl rfl rfl rfl ?_; refine .val [] (.call rfl (fun m hm => right_any (hv'.le hm.1) hs (hl.le hm.1))) rfl rfl rfl rfl ?_; refine .val [] (.bandNot rfl rfl (by omega) (by omega)) rfl rfl rfl rfl ?_; refine DJ.abs (A := fun m r => IsInts m r (bits (without (full t) (right t xs)))) [] (OpAbs.call rfl (fun m hm => bits_any hwo)) rfl rfl rfl rfl ?_
    refine DJ.val [(15, fun m r => IsInts m r (bits (without (full t) (right t xs))))] (fun m15 v15 h15 => OpVal.len rfl (by assumption)) rfl rfl rfl rfl ?_ (hG := ⟨(by repeat constructor), rfl, trivial⟩)
    refine .val [] (.fieldAddrB rfl) rfl rfl rfl rfl ?_; refine .val [] (.loadB rfl (.head _) rfl) rfl rfl rfl rfl ?_; refine DJ.nil ?_
    rintro m15 v15 h15
    iterate 3 refine .o rfl ?_
    refine WL.nil ?_; refine Kseq.go ?_
    refine W.ret ?_; refine ⟨.inl rfl, [_], h, ⟨.tmp rfl, trivial⟩, (by repeat constructor), ?_⟩
    exact congrArg Value.bool (by simp [isTruth, h1])
  · refine DJ.pass rfl rfl rfl rfl ?_
    refine DJ.pass rfl rfl rfl rfl ?_; refine DJ.pass rfl rfl rfl rfl ?_; refine DJ.pass rfl rfl rfl rfl ?_; refine DJ.pass rfl rfl rfl rfl ?_; refine DJ.pass rfl rfl rfl rfl ?_; refine DJ.pass rfl rfl rfl rfl ?_; refine DJ.pass rfl rfl rfl rfl ?_; refine DJ.pass rfl rfl rfl rfl ?_; refine DJ.pass rfl rfl rfl rfl ?_; refine DJ.nil ?_; refine WL.pass rfl rfl rfl ?_
    iterate 2 refine .o rfl ?_
    refine WL.nil ?_; refine Kseq.go ?_
    refine W.ret ?_; refine ⟨.inl rfl, [_], h, ⟨.tmp rfl, trivial⟩, (by repeat constructor), ?_⟩
    exact congrArg Value.bool (by simp [isTruth, h1])
end Go.Proofs.Ytppkhehbkoeinaa

/- The reference's functions of chapter 3, on: their contracts. -/
namespace Go.Proofs.Ytppkhehbkoeinaa
open Go Go.Eng Go.RowKit

/-- Each piece has a woman. -/
def Owned (t : Table) : Prop := ∀ i, i < t.pieces.length → 0 < (womenOf t i).length
theorem nthTo_one (t : Table) (k n : Nat) (suf : List Int) : nthTo t (k + 1) n ++ suf = nthTo t k (n / (womenOf t k).length) ++ ((womenOf t k).getD (n % (womenOf t k).length) 0 :: suf) := by simp [nthTo]

theorem nth_store (k : Nat) (u : Int) (suf : List Int) : ((List.replicate (k + 1) 0 ++ suf).map vi).take (k * 1 + 0) ++ ((vi u).cells.toList ++ ((List.replicate (k + 1) 0 ++ suf).map vi).drop (k * 1 + 0 + 1)) = (List.replicate k 0 ++ u :: suf).map vi := by
  have e : List.replicate (k + 1) (0 : Int) ++ suf = List.replicate k 0 ++ 0 :: suf := by rw [List.replicate_succ']; simp
  rw [e, List.map_append, List.map_append, List.map_cons, List.map_cons]
  have h1 : (List.map vi (List.replicate k 0)).length = k := by simp
  rw [Nat.mul_one, Nat.add_zero, List.take_append_of_le_length (by rw [h1]; exact Nat.le_refl _), List.take_of_length_le (by rw [h1]; exact Nat.le_refl _), List.drop_append, h1, List.drop_of_length_le (by rw [h1]; omega), Nat.add_sub_cancel_left]
  simp [Value.cells]

/-- ref.Nth -/
theorem nth_any {h : Mem} {v : Value} {t : Table} {n : Nat} (hv : IsTable h v t) (hs : Sm t) (ho : Owned t) (hn : n < 1000000) : FnR Try.prog 110 #[v, .int .i64 n] h (fun m r => IsInts m r (nth t n)) := by
  have hv' := hv
  obtain ⟨wv, pv, f, rfl, hW, hP, hM⟩ := hv
  have hs' := hs
  obtain ⟨hs1, hs2, hs3⟩ := hs
  refine FnR.of_W (n := 38) Try.func110 rfl rfl (Nat.le_of_ble_eq_true rfl) fun c hr hD hF => ?_
  refine W.seq ?_; refine W.region ?_
  refine WL.box rfl rfl rfl rfl (fun b2 => ?_)
  refine .o rfl ?_; refine WL.nil ?_
  refine Kseq.go (W.seq ?_)
  refine W.region ?_; refine .val (.fieldAddrB rfl) rfl rfl rfl ?_; refine .val (.loadB rfl (.head _) rfl) rfl rfl rfl ?_; refine .val (.len rfl (by assumption)) rfl rfl rfl ?_
  refine WL.make rfl rfl (by omega) (by unfold maxLen; omega) rfl rfl rfl (fun b11 => ?_)
  refine .o rfl ?_; refine WL.nil ?_
  refine Kseq.go (W.seq (W.seq ?_))
  refine W.region ?_; refine .val (.fieldAddrB rfl) rfl rfl rfl ?_; refine .val (.loadB rfl (.tail _ (.head _)) rfl) rfl rfl rfl ?_; refine .val (.len rfl (by assumption)) rfl rfl rfl ?_; refine .val (.sub rfl rfl (by omega) (by omega)) rfl rfl rfl ?_; refine .o rfl ?_; refine WL.nil ?_
  refine Kseq.go (W.block ?_)
  generalize hov : Value.slice (some ⟨b11, 0, none⟩) t.pieces.length t.pieces.length = ov
  refine W.loopA (σ := Int × Nat × List Int) (fun s => [(1, .int .i64 s.2.1), (2, .pointer (some ⟨b2, 0, none⟩)), (5, ov), (6, .int .i64 s.1)]) (fun s => .row 3 1 ov t.pieces.length ((List.replicate (s.1 + 1).toNat 0 ++ s.2.2).map vi))
    (fun s => -1 ≤ s.1 ∧ s.1 + 1 ≤ t.pieces.length ∧ s.2.1 < 1000000 ∧ s.2.2.length + (s.1 + 1).toNat = t.pieces.length ∧ nthTo t (s.1 + 1).toNat s.2.1 ++ s.2.2 = nth t n) (fun s => (s.1 + 1).toNat) ((t.pieces.length : Int) - 1, n, []) ⟨rfl, rfl, rfl, rfl, trivial⟩ ?_ ⟨by dsimp only; omega, by dsimp only; omega, hn, by dsimp only; simp, by dsimp only; simp [nth]⟩ ?_
  · dsimp only
    rw [show ((t.pieces.length : Int) - 1 + 1).toNat = t.pieces.length by omega]
    simp [toList_madeCells_one, Value.cells]
  rintro ⟨z, n', suf⟩ ⟨hz, hz2, hn', hlen, heq⟩
  dsimp only at hz hz2 hn' hlen heq ⊢
  refine W.seq (W.seq ?_)
  refine W.region ?_
  iterate 2 refine .o rfl ?_
  refine WL.nil ?_; refine Kseq.go ?_
  refine W.condD rfl rfl (fun hlt => ?_) (fun hge => ?_)
  · obtain ⟨k, rfl⟩ : ∃ k : Nat, z = k := ⟨z.toNat, by omega⟩
    rw [show ((k : Int) + 1).toNat = k + 1 by omega] at *
    have hk : k < t.pieces.length := by omega
    have hw := ho k hk
    have hwl : (womenOf t k).length ≤ t.women.length := sel_len _ _
    refine W.skip (Kseq.go (W.seq (W.block (W.seq ?_))))
    refine W.region ?_; refine .val (.loadBW rfl (.tail _ (.head _)) rfl) rfl rfl rfl ?_; refine .o rfl ?_; refine WL.abs (OpAbs.call rfl (fun m hm => womenOf_any (hv'.le hm.1) hs' hk)) rfl rfl rfl ?_
    rintro m22 v22 h22
    refine .o rfl ?_; refine WL.nil ?_; refine Kseq.go ?_
    let L := (womenOf t k).length
    have hmod : n' % (womenOf t k).length < (womenOf t k).length := Nat.mod_lt _ hw
    let u := (womenOf t k).getD (n' % (womenOf t k).length) 0
    refine W.draw2s 15 14 [.row 3 1 ov t.pieces.length ((List.replicate k 0 ++ u :: suf).map vi), .blk b2 (Value.agg #[wv, pv, .int .i64 t.wrong]).cells 25] (by kernel_rfl) (by kernel_rfl) (by kernel_rfl) rfl ?_; refine DJ2.val [] (.inr (OpVal.opv rfl)) (.inl rfl) rfl (fun _ => rfl) rfl rfl rfl (fun _ => rfl) rfl ?_; refine DJ2.val [] (.inr (OpVal.opv rfl)) (.inl rfl) rfl (fun _ => rfl) rfl rfl rfl (fun _ => rfl) rfl ?_; refine DJ2.val [] (.inr (OpVal.opv rfl)) (.inl rfl) rfl (fun _ => rfl) rfl rfl rfl (fun _ => rfl) rfl ?_; refine DJ2.val [] (.inr (OpVal.opv rfl)) (.inl rfl) rfl (fun _ => rfl) rfl rfl rfl (fun _ => rfl) rfl ?_; refine DJ2.val [] (.inr (OpVal.opv rfl)) (.inl rfl) rfl (fun _ => rfl) rfl rfl rfl (fun _ => rfl) rfl ?_; refine DJ2.val [] (.inr (OpVal.len rfl (by assumption))) (.inl rfl) rfl (fun _ => rfl) rfl rfl rfl (fun _ => rfl) rfl ?_; refine DJ2.val [] (.inr ((OpVal.rem rfl rfl (by omega) (by omega)))) (.inl rfl) rfl (fun _ => rfl) rfl rfl rfl (fun _ => rfl) rfl ?_
    refine DJ2.val [] (.inr (OpVal.indexAddr rfl rfl (by assumption) (by omega) (by omega))) (.inl rfl) rfl (fun _ => rfl) rfl rfl rfl (fun _ => rfl) rfl ?_; refine DJ2.val [] (.inr (OpVal.loadE rfl (by assumption) (by repeat constructor) (by omega) (by omega))) (.inl rfl) rfl (fun _ => rfl) rfl rfl rfl (fun _ => rfl) rfl ?_; refine DJ2.val [] (.inr (OpVal.opv rfl)) (.inr (fun g => OpVal.opv rfl)) rfl (fun _ => rfl) rfl rfl rfl (fun _ => rfl) rfl ?_; refine DJ2.val [] (.inr (OpVal.opv rfl)) (.inr (fun g => OpVal.opv rfl)) rfl (fun _ => rfl) rfl rfl rfl (fun _ => rfl) rfl ?_; refine DJ2.val [] (.inr (OpVal.len rfl (by assumption))) (.inr (fun g => OpVal.len rfl (by assumption))) rfl (fun _ => rfl) rfl rfl rfl (fun _ => rfl) rfl ?_; refine DJ2.val [] (.inr ((OpVal.quo rfl rfl (by omega) (by omega) (by omega)))) (.inr (fun g => (OpVal.quo rfl rfl (by omega) (by omega) (by omega)))) rfl (fun _ => rfl) rfl rfl rfl (fun _ => rfl) rfl ?_
    refine DJ2.val [] (.inr (OpVal.indexAddrR rfl rfl (by repeat constructor) (by omega))) (.inl rfl) rfl (fun _ => rfl) rfl rfl rfl (fun _ => rfl) rfl ?_; refine DJ2.eff [(36, _), (31, _)] ⟨rfl, rfl, trivial⟩ rfl rfl rfl (fun M2 hM2 => ?_) ?_
    · (refine WL.storeR rfl (.head _) rfl rfl rfl (by omega) (Nat.le_refl _) (by simp [Value.cells, Value.oneCell']) ?_; exact WL.nil ⟨(), Keff.intro (by repeat (first | exact trivial | refine ⟨rfl, ?_⟩)) (fun _ h => h) (sub_eq (congrArg (fun xs => [Res.row 3 1 ov t.pieces.length xs, _]) (nth_store k u suf).symm))⟩)
    refine DJ2.nil (fun g => ?_)
    refine .o rfl ?_; refine WL.nil ?_
    refine Kblock.normal (Kseq.go ?_)
    refine W.region ?_; refine .o rfl ?_; refine .val (.sub rfl rfl (by omega) (by omega)) rfl rfl rfl ?_; refine .o rfl ?_; refine WL.nil ?_
    have hk1 : ((k : Int) - 1 + 1).toNat = k := by omega
    refine Kloop.next ((k : Int) - 1, n' / (womenOf t k).length, u :: suf) ⟨by dsimp only; omega, by dsimp only; omega, Nat.lt_of_le_of_lt (Nat.div_le_self _ _) hn', ?_, ?_⟩ (by dsimp only; omega) ⟨rfl, rfl, rfl, rfl, trivial⟩ (by simp) (by dsimp only; rw [hk1]; exact .refl _)
    · dsimp only
      rw [hk1, List.length_cons]; omega
    · dsimp only
      rw [hk1, ← heq, nthTo_one]
  · refine W.exit (Kseq.exit (Kloop.exit (Kblock.here (Kseq.go (W.seq ?_)))))
    have hz0 : (z + 1).toNat = 0 := by omega
    rw [hz0] at heq hlen ⊢
    have hsuf : suf = nth t n := heq
    subst hsuf
    refine W.freezeInts (xs := nth t n) (by simp only [List.replicate_zero, List.nil_append, ir]; rw [nth_length]; exact .head _) (fun b hb => (hF b hb).elim) fun mr hmr => ?_
    refine W.region ?_
    iterate 2 refine .o rfl ?_
    refine WL.nil ?_; refine Kseq.go ?_
    refine W.ret ?_; refine ⟨.inl rfl, [_], mr, ⟨.tmp rfl, trivial⟩, (by repeat constructor), ?_⟩
    exact hmr
end Go.Proofs.Ytppkhehbkoeinaa

/- The reference's functions of chapter 3, on: their contracts. -/
namespace Go.Proofs.Ytppkhehbkoeinaa
open Go Go.Eng Go.RowKit

theorem many_nat (t : Table) : ∃ k : Nat, many t = k ∧ (many t).toNat = k ∧ k ≤ 3000 := ⟨(many t).toNat, by have := manyTo_pos t t.pieces.length; unfold many; omega, rfl, by have := manyTo_pos t t.pieces.length; unfold many; omega⟩

/-- ref.Truths -/
theorem truths_any {h : Mem} {v : Value} {t : Table} (hv : IsTable h v t) (hs : Sm t) (ho : Owned t) : FnR Try.prog 62 #[v] h (fun m r => IsLists m r (truths t)) := by
  have hv' := hv
  obtain ⟨wv, pv, f, rfl, hW, hP, hM⟩ := hv
  obtain ⟨K, hK, hK', hKle⟩ := many_nat t
  refine FnR.of_W (n := 23) Try.func62 rfl rfl (Nat.le_of_ble_eq_true rfl) fun c hr hD hF => ?_
  refine W.seq ?_; refine W.region ?_
  refine WL.box rfl rfl rfl rfl (fun b1 => ?_)
  refine .o rfl ?_; refine WL.nil ?_
  refine Kseq.go (W.seq ?_)
  refine W.region ?_; refine .o rfl ?_; refine WL.nil ?_
  refine Kseq.go (W.seq (W.seq ?_))
  refine W.region ?_; refine .o rfl ?_; refine WL.nil ?_
  refine Kseq.go (W.block ?_)
  refine W.nilRow 33 1 ?_
  refine W.loop (σ := Nat × Value × Mem × List Value) (fun s => [(1, .pointer (some ⟨b1, 0, none⟩)), (3, s.2.1), (4, .int .i64 (s.1 : Int))]) (fun s => [h, s.2.2.1]) (fun s => [vr 33 s.2.1 s.2.2.2, .blk b1 (Value.agg #[wv, pv, .int .i64 t.wrong]).cells 25])
    (fun s => s.1 ≤ K ∧ AllInts s.2.2.1 s.2.2.2 (truthsTo t s.1)) (fun s => K - s.1) (0, .slice none 0 0, h, []) ⟨rfl, rfl, rfl, trivial⟩ (by simp) (.refl _) ⟨Nat.zero_le _, AllInts.nil h⟩ ?_
  rintro ⟨k, a, m0, vs⟩ ⟨hk, hall⟩
  dsimp only at hk hall ⊢
  have hlen := truthsTo_len t k
  have hvl := hall.1
  refine W.seq (W.seq ?_)
  refine W.region ?_; refine .o rfl ?_; refine .val (.loadBW rfl (.tail _ (.head _)) rfl) rfl rfl rfl ?_; refine .val (.call rfl (fun m hm => hK ▸ many_any (hv'.le (by repeat first | exact hm.1 | replace hm := hm.2)) hs)) rfl rfl rfl ?_; refine .o rfl ?_; refine WL.nil ?_; refine Kseq.go ?_
  refine W.condD rfl rfl (fun hlt => ?_) (fun hge => ?_)
  · refine W.skip (Kseq.go (W.seq (W.block (W.seq ?_))))
    refine W.region ?_; refine .val (.loadBW rfl (.tail _ (.head _)) rfl) rfl rfl rfl ?_; refine .o rfl ?_; refine WL.abs (OpAbs.call rfl (fun m hm => nth_any (hv'.le (by repeat first | exact hm.1 | replace hm := hm.2)) hs ho (by omega))) rfl rfl rfl ?_
    rintro m14 v14 h14
    refine .o rfl ?_; refine WL.nil ?_
    refine Kseq.go (W.seq ?_)
    obtain ⟨a14, c14, rfl⟩ := IsArr.form h14
    refine W.region ?_; refine .val (.loadBW rfl (.tail _ (.head _)) rfl) rfl rfl rfl ?_; refine .o rfl ?_; refine .val (.call rfl (fun m hm => isTruth_any (hv'.le (by repeat first | exact hm.1 | replace hm := hm.2)) hs (h14.le (by repeat first | exact hm.1 | replace hm := hm.2)))) rfl rfl rfl ?_; refine WL.nil ?_; refine Kseq.go ?_
    refine W.cond rfl rfl (fun he => ?_) (fun hne => ?_)
    · skip
      refine W.region ?_
      iterate 2 refine .o rfl ?_
      refine WL.abs (OpAbs.lit [_] rfl (Nat.le_of_ble_eq_true rfl) rfl rfl (by simp [Value.cells]) (Nat.le_of_ble_eq_true rfl) rfl (by first | (simp [Value.oneCell']; done) | exact List.all_eq_true.1 rfl)) rfl rfl rfl ?_
      rintro m20 _ ⟨hc20, a20, rfl⟩
      refine WL.app1 rfl (fun _ => (.head _)) rfl (by assumption) (by repeat constructor) rfl (by omega) (Nat.le_of_ble_eq_true rfl) rfl rfl rfl ?_
      intro a21 cp21
      refine .o rfl ?_; refine WL.nil ?_
      refine Kblock.normal (Kseq.go ?_)
      refine W.join fun mj hj => ?_
      refine W.region ?_; refine .o rfl ?_; refine .val (.incr rfl (by omega)) rfl rfl rfl ?_; refine .o rfl ?_; refine WL.nil ?_
      exact Kloop.next (k + 1, _, mj, vs ++ [_]) ⟨by omega, by dsimp only; rw [truthsTo_yes he]; exact (hall.le (hj _ (by simp))).push (h14.le (hj _ (by simp)))⟩ (by omega) ⟨rfl, rfl, rfl, trivial⟩ (by simp) (.refl _)
    · refine W.skip (Kblock.normal (Kseq.go ?_))
      refine W.region ?_; refine .o rfl ?_; refine .val (.incr rfl (by omega)) rfl rfl rfl ?_; refine .o rfl ?_; refine WL.nil ?_
      exact Kloop.next (k + 1, a, m0, vs) ⟨by omega, by dsimp only; rw [truthsTo_no hne]; exact hall⟩ (by omega) ⟨rfl, rfl, rfl, trivial⟩ (by simp) (.refl _)
  · refine W.exit (Kseq.exit (Kloop.exit (Kblock.here (Kseq.go (W.seq ?_)))))
    have : k = K := by omega
    subst this
    refine W.freezeV (.head _) (fun b hb => (hF b hb).elim) hall.one fun mr hmr => ?_
    refine W.join fun mj hj => ?_
    refine W.region ?_
    iterate 2 refine .o rfl ?_
    refine WL.nil ?_; refine Kseq.go ?_
    refine W.ret ?_; refine ⟨.inl rfl, [_], mj, ⟨.tmp rfl, trivial⟩, (by repeat constructor), ?_⟩
    unfold truths
    rw [hK']
    exact ⟨vs, hall.le (hj _ (by simp)), hvl ▸ hmr.le (hj _ (by simp))⟩

end Go.Proofs.Ytppkhehbkoeinaa

/- The reference's functions of chapter 3, on: their contracts. -/
namespace Go.Proofs.Ytppkhehbkoeinaa
open Go Go.Eng Go.RowKit

end Go.Proofs.Ytppkhehbkoeinaa
