/- The program's functions of a table at work: their contracts. -/
import Derived.Test.YtbmohbeocnfefaaT19
namespace Go.Proofs.Ytbmohbeocnfefaa
open Go Go.Eng Go.RowKit

abbrev IsTruths (m : Mem) (v : Value) (trs : List (List Int)) : Prop := IsArr m 7 v trs.length (fun i j => ((pad (trs.getD i [])).map vi).getD j undef)
section
variable {P : Program} {n : Nat} {c : Cx P n} {l : List (Nat × Value)} {Ms : List Mem} {μ : List Res} {dst : Option Tmp} {x : Operand} {t ty : TypeId} {pos : String} {af : Array Edge} {gd : Option (Nat × Bool)}
theorem own_range {xs : List Int} (h : xs.length ≤ 7) : (List.range 7).map (fun j => ((pad xs).map vi).getD j undef) = (pad xs).map vi := by
  have hp : ((pad xs).map vi).length = 7 := by rw [List.length_map]; exact pad_len h
  rw [← hp]
  exact map_range_getD _ _
theorem OpVal.loadOwn [hu : TL P t true] {bytes : Nat} {z : Value} [hi : TI P t 7 bytes z] {m : Mem} {v : Value} {trs : List (List Int)} {i : Nat} (hx : lk l x = some (EP v 7 i 0)) (h : IsTruths m v trs) (hm : m ∈ Ms) (hlt : i < trs.length) (h7 : (trs.getD i []).length ≤ 7) :
    OpVal c ⟨dst, .load t x, ty, pos, af, gd⟩ l Ms μ (ownV (trs.getD i [])) :=
  (OpVal.loadEA hx h hm hlt).cast (by rw [own_range h7])
end
theorem ask_owns {t : Table} (hp : t.pieces.length ≤ 7) {i : Nat} (h : i < (ask t).length) : Owns t ((ask t).getD i []) :=
  owns_of (ask_are (by rw [List.getD_eq_getElem?_getD, List.getElem?_eq_getElem h]; exact List.getElem_mem h)) hp
theorem Owns.le7 {t : Table} {l : List Int} (h : Owns t l) : l.length ≤ 7 := by have := h.len; have := h.seven; omega

/-- lost -/
theorem lost_any {h : Mem} {b : Nat} {v : Value} {t : Table} {l : List Int} (x : Int) (hw : IsWork h b v t) (hv : IsTable h v t) (hs : Sm t) (ho : Owns t l) : FnV Try.prog 30 #[.pointer (some ⟨b, 0, none⟩), ownV l, .int .i64 x] h (vi ((astray t l).length : Int)) := by
  obtain ⟨wv, pv, trv, mb, rfl, hB, hT, hMp⟩ := hw
  have hpl : (pad l).length = 7 := pad_len ho.le7
  refine FnR.val ?_
  refine FnR.of_W (n := 14) Try.func30 rfl rfl (Nat.le_of_ble_eq_true rfl) fun c hr hD hF => ?_
  refine W.seq ?_
  refine W.region ?_
  refine WL.box rfl rfl rfl rfl (fun b4 => ?_)
  refine WL.val (OpVal.opv rfl) rfl rfl rfl ?_
  refine WL.nil ?_
  refine Kseq.go (W.seq ?_)
  skip
  refine W.draw 5 (by kernel_rfl) (by kernel_rfl) (by kernel_rfl) rfl ?_
  refine DJ.val [] (OpVal.opv rfl) rfl rfl rfl rfl ?_
  refine DJ.val [] (OpVal.opv rfl) rfl rfl rfl rfl ?_
  refine DJ.val [] (OpVal.fieldAddrB rfl) rfl rfl rfl rfl ?_
  refine DJ.val [] (OpVal.loadPA (vs := [wv, pv, vi t.wrong]) rfl hB (by repeat (first | exact .head _ | refine .tail _ ?_)) rfl rfl) rfl rfl rfl rfl ?_
  refine DJ.val [] (OpVal.loadBW rfl (.head _) (by simp [Value.cells, hpl])) rfl rfl rfl rfl ?_
  refine DJ.nil ?_
  refine WL.abs (OpAbs.call rfl (fun m hm => astrayP_any (hv.le (by repeat (first | exact hm.1 | replace hm := hm.2))) hs ho)) rfl rfl rfl ?_
  rintro m12 v12 h12
  refine WL.val (OpVal.len rfl (by assumption)) rfl rfl rfl ?_
  refine WL.val (OpVal.opv rfl) rfl rfl rfl ?_
  refine WL.nil ?_
  refine Kseq.go ?_
  refine W.ret ?_; skip; refine ⟨.inl rfl, [_], h, ⟨.tmp rfl, trivial⟩, (by repeat (first | exact .head _ | refine .tail _ ?_)), ?_⟩
  rfl

/-- How many pieces a woman misses. -/
def missedN (t : Table) (l : List Int) (w : Int) : Nat := cnt (astray t l).length fun j => decide (l.getD ((astray t l).getD j 0).toNat 0 = w)
/-- missed -/
theorem missed_any {h : Mem} {b : Nat} {v : Value} {t : Table} {l : List Int} (x : Int) (hw : IsWork h b v t) (hv : IsTable h v t) (hs : Sm t) (ho : Owns t l) : FnV Try.prog 40 #[.pointer (some ⟨b, 0, none⟩), ownV l, .int .i64 x] h (vi (missedN t l x : Int)) := by
  obtain ⟨wv, pv, trv, mb, rfl, hB, hT, hMp⟩ := hw
  have hpl : (pad l).length = 7 := pad_len ho.le7
  have hal : (astray t l).length ≤ l.length := sel_len _ _
  have h7 := ho.le7
  refine FnR.val ?_
  refine FnR.of_W (n := 29) Try.func40 rfl rfl (Nat.le_of_ble_eq_true rfl) fun c hr hD hF => ?_
  refine W.seq ?_
  refine W.region ?_
  refine WL.box rfl rfl rfl rfl (fun b4 => ?_)
  refine WL.val (OpVal.opv rfl) rfl rfl rfl ?_
  refine WL.nil ?_
  refine Kseq.go (W.seq (W.seq ?_))
  skip
  refine W.draw 8 (by kernel_rfl) (by kernel_rfl) (by kernel_rfl) rfl ?_
  refine DJ.val [] (OpVal.opv rfl) rfl rfl rfl rfl ?_
  refine DJ.val [] (OpVal.opv rfl) rfl rfl rfl rfl ?_
  refine DJ.val [] (OpVal.fieldAddrB rfl) rfl rfl rfl rfl ?_
  refine DJ.val [] (OpVal.loadPA (vs := [wv, pv, vi t.wrong]) rfl hB (by repeat (first | exact .head _ | refine .tail _ ?_)) rfl rfl) rfl rfl rfl rfl ?_
  refine DJ.val [] (OpVal.loadBW rfl (.head _) (by simp [Value.cells, hpl])) rfl rfl rfl rfl ?_
  refine DJ.abs (A := fun m r => IsInts m r (astray t l)) [] (OpAbs.call rfl (fun m hm => astrayP_any (hv.le (by repeat (first | exact hm.1 | replace hm := hm.2))) hs ho)) rfl rfl rfl rfl ?_
  refine DJ.val [(14, fun m r => IsInts m r (astray t l))] (fun m14 v14 h14 => OpVal.len rfl (by assumption)) rfl rfl rfl rfl ?_ (hG := ⟨(by repeat (first | exact .head _ | refine .tail _ ?_)), rfl, trivial⟩)
  refine DJ.val [] (OpVal.opv rfl) rfl rfl rfl rfl ?_
  refine DJ.nil ?_
  rintro m14 v14 h14
  refine WL.nil ?_
  refine Kseq.go (W.block ?_)
  let q : Nat → Bool := fun j => decide (l.getD ((astray t l).getD j 0).toNat 0 = x)
  refine W.loopC (σ := Nat) (fun k => [(2, .int .i64 x), (4, .pointer (some ⟨b4, 0, none⟩)), (6, vi (cnt k q)), (14, v14), (15, .int .i64 ((astray t l).length : Int)), (16, .int .i64 (k : Int))]) (fun k => k ≤ (astray t l).length) (fun k => (astray t l).length - k) 0 ⟨rfl, rfl, rfl, rfl, rfl, rfl, trivial⟩ (Nat.zero_le _) ?_
  intro k hk
  have hcb := cnt_le k q
  refine W.seq ?_
  refine W.region ?_
  refine WL.val (OpVal.opv rfl) rfl rfl rfl ?_
  refine WL.nil ?_
  refine Kseq.go (W.seq ?_)
  refine W.condD rfl rfl (fun hlt => ?_) (fun hge => ?_)
  · obtain ⟨y, hy, _, hye⟩ := mem_sel.1 (mem_getD (xs := astray t l) (i := k) (by omega))
    have hyt : ((astray t l).getD k 0).toNat = y := by rw [hye]; rfl
    refine W.skip (Kseq.go (W.seq (W.block (W.seq ?_))))
    refine W.region ?_
    refine WL.val (OpVal.indexAddrN rfl rfl (by assumption) (by omega)) rfl rfl rfl ?_
    refine WL.val (OpVal.cast (OpVal.loadE rfl h14 (by repeat (first | exact .head _ | refine .tail _ ?_)) (by omega) (by omega)) (congrArg (Value.int .i64) hye)) rfl rfl rfl ?_
    refine WL.val (OpVal.opv rfl) rfl rfl rfl ?_
    refine WL.nil ?_
    refine Kseq.go (W.seq ?_)
    skip
    refine W.region ?_
    refine WL.val (OpVal.opv rfl) rfl rfl rfl ?_
    refine WL.val (OpVal.indexAddrB rfl rfl (by omega)) rfl rfl rfl ?_
    refine WL.val (OpVal.loadB rfl (.head _) (pad_at hy)) rfl rfl rfl ?_
    refine WL.val (OpVal.opv rfl) rfl rfl rfl ?_
    refine WL.val (OpVal.opv rfl) rfl rfl rfl ?_
    refine WL.nil ?_
    refine Kseq.go ?_
    refine W.condD rfl rfl (fun he => ?_) (fun hne => ?_)
    · skip
      refine W.region ?_
      refine WL.val (OpVal.opv rfl) rfl rfl rfl ?_
      refine WL.val (OpVal.incr rfl (by omega)) rfl rfl rfl ?_
      refine WL.val (OpVal.opv rfl) rfl rfl rfl ?_
      refine WL.nil ?_
      refine Kblock.normal (Kseq.go ?_)
      skip
      refine W.region ?_
      refine WL.val (OpVal.incr rfl (by omega)) rfl rfl rfl ?_
      refine WL.val (OpVal.opv rfl) rfl rfl rfl ?_
      refine WL.nil ?_
      skip
      exact Kloop.nextC (k + 1) (by omega) (by omega) ⟨rfl, rfl, by rw [cnt_yes (p := q) (by show decide _ = true; rw [hyt]; exact decide_eq_true he)]; rfl, rfl, rfl, rfl, trivial⟩ (by simp) (.refl _)
    · refine W.skip (Kblock.normal (Kseq.go ?_))
      skip
      refine W.region ?_
      refine WL.val (OpVal.incr rfl (by omega)) rfl rfl rfl ?_
      refine WL.val (OpVal.opv rfl) rfl rfl rfl ?_
      refine WL.nil ?_
      skip
      exact Kloop.nextC (k + 1) (by omega) (by omega) ⟨rfl, rfl, by rw [cnt_no (p := q) (by show decide _ = false; rw [hyt]; exact decide_eq_false hne)]; rfl, rfl, rfl, rfl, trivial⟩ (by simp) (.refl _)
  · have : k = (astray t l).length := by omega
    subst this
    refine W.exit (Kseq.exit (Kloop.exit (Kblock.here (Kseq.go (W.seq ?_)))))
    skip
    refine W.region ?_
    refine WL.val (OpVal.opv rfl) rfl rfl rfl ?_
    refine WL.val (OpVal.opv rfl) rfl rfl rfl ?_
    refine WL.nil ?_
    refine Kseq.go ?_
    refine W.ret ?_; skip; refine ⟨.inl rfl, [_], h, ⟨.tmp rfl, trivial⟩, (by repeat (first | exact .head _ | refine .tail _ ?_)), ?_⟩
    rfl

/-- The bounds of an answer in some truths, the first one and the first k. -/
def loQ (g : List Int → Int) (all : List (List Int)) : Nat → Int
  | 0 => g (all.getD 0 [])
  | k + 1 => min (loQ g all k) (g (all.getD k []))
def hiQ (g : List Int → Int) (all : List (List Int)) : Nat → Int
  | 0 => g (all.getD 0 [])
  | k + 1 => max (hiQ g all k) (g (all.getD k []))
/-- bounds -/
theorem bounds_any {h : Mem} {b : Nat} {v : Value} {t : Table} (x : Int) {fi : FuncId} [TC Try.prog fi] {g : List Int → Int} (hw : IsWork h b v t) (hp : t.pieces.length ≤ 7) (hne : ask t ≠ [])
    (hC : ∀ h', MLe h h' → ∀ l, Owns t l → FnV Try.prog fi #[.pointer (some ⟨b, 0, none⟩), ownV l, .int .i64 x] h' (vi (g l))) :
    FnV Try.prog 31 #[.agg #[.func (.func fi) #[] #[]], .pointer (some ⟨b, 0, none⟩), .int .i64 x] h (.agg #[vi (loQ g (ask t) (ask t).length), vi (hiQ g (ask t) (ask t).length)]) := by
  obtain ⟨wv, pv, trv, mb, rfl, hB, hT, hMp⟩ := hw
  have hpos : 0 < (ask t).length := List.length_pos_iff.2 hne
  have ho0 := ask_owns hp hpos
  have hbd := IsArr.len hT
  have hbd' : (ask t).length ≤ 9223372036854775807 := by unfold maxLen at hbd; omega
  refine FnR.val ?_
  refine FnR.of_W (n := 44) Try.func31 rfl rfl (Nat.le_of_ble_eq_true rfl) fun c hr hD hF => ?_
  refine W.seq ?_
  refine W.region ?_
  refine WL.box rfl rfl rfl rfl (fun b3 => ?_)
  refine WL.alloc rfl rfl rfl (fun b6 => ?_)
  refine WL.nil ?_
  refine Kseq.go (W.seq ?_)
  skip
  refine W.draw 10 (by kernel_rfl) (by kernel_rfl) (by kernel_rfl) rfl ?_
  refine DJ.val [] (OpVal.fieldAddrB rfl) rfl rfl rfl rfl ?_
  refine DJ.val [] (OpVal.loadB rfl (.tail _ (.head _)) rfl) rfl rfl rfl rfl ?_
  refine DJ.val [] (OpVal.opv rfl) rfl rfl rfl rfl ?_
  refine DJ.val [] (OpVal.opv rfl) rfl rfl rfl rfl ?_
  refine DJ.val [] (OpVal.opv rfl) rfl rfl rfl rfl ?_
  refine DJ.val [] (OpVal.fieldAddrB rfl) rfl rfl rfl rfl ?_
  refine DJ.val [] (OpVal.loadP rfl (by assumption) (by repeat (first | exact .head _ | refine .tail _ ?_)) rfl) rfl rfl rfl rfl ?_
  refine DJ.val [] (OpVal.indexAddrN rfl rfl (by assumption) (by omega)) rfl rfl rfl rfl ?_
  refine DJ.val [] (OpVal.loadOwn rfl hT (by repeat (first | exact .head _ | refine .tail _ ?_)) hpos ho0.le7) rfl rfl rfl rfl ?_
  refine DJ.val [] (OpVal.opv rfl) rfl rfl rfl rfl ?_
  refine DJ.nil ?_
  refine WL.val (OpVal.callC rfl rfl (fun m hm => hC m (by repeat (first | exact hm.1 | replace hm := hm.2)) _ ho0)) rfl rfl rfl ?_
  refine WL.val (OpVal.opv rfl) rfl rfl rfl ?_
  refine WL.nil ?_
  refine Kseq.go (W.seq ?_)
  skip
  refine W.region ?_
  refine WL.val (OpVal.opv rfl) rfl rfl rfl ?_
  refine WL.val (OpVal.opv rfl) rfl rfl rfl ?_
  refine WL.val (OpVal.build2 rfl rfl) rfl rfl rfl ?_
  refine WL.alloc rfl rfl rfl (fun b8 => ?_)
  refine WL.store [_, _] rfl (.head _) rfl rfl rfl (Nat.le_of_ble_eq_true rfl) (by first | (simp [Value.cells, Value.oneCell']; done) | exact IsArr.ones hW (by omega) | exact IsArr.ones hP (by omega) | exact IsArr.ones hS (by omega) | exact IsArr.ones hH (by omega) | exact IsArr.ones hL (by omega) | exact IsArr.ones hB (by omega) | exact IsArr.ones hT (by omega) | exact IsArr.ones hm (by omega)) rfl ?_
  refine WL.nil ?_
  refine Kseq.go (W.seq (W.seq ?_))
  skip
  refine W.region ?_
  refine WL.val (OpVal.opv rfl) rfl rfl rfl ?_
  refine WL.val (OpVal.opv rfl) rfl rfl rfl ?_
  refine WL.val (OpVal.fieldAddrB rfl) rfl rfl rfl ?_
  refine WL.val (OpVal.loadP rfl (by assumption) (by repeat (first | exact .head _ | refine .tail _ ?_)) rfl) rfl rfl rfl ?_
  refine WL.val (OpVal.len rfl (by assumption)) rfl rfl rfl ?_
  refine WL.val (OpVal.opv rfl) rfl rfl rfl ?_
  refine WL.nil ?_
  refine Kseq.go (W.block ?_)
  refine W.loop (σ := Nat) (fun k => [(1, .pointer (some ⟨b, 0, none⟩)), (2, vi x), (3, .pointer (some ⟨b3, 0, none⟩)), (6, .pointer (some ⟨b6, 0, none⟩)), (8, .pointer (some ⟨b8, 0, none⟩)), (28, trv), (29, .int .i64 ((ask t).length : Int)), (30, .int .i64 (k : Int))]) (fun _ => [h]) (fun k => [.blk b8 [vi (loQ g (ask t) k), vi (hiQ g (ask t) k)].toArray 45, .blk b6 #[vi 0, vi 0] 45, .blk b3 #[.func (.func fi) #[] #[]] 87])
    (fun k => k ≤ (ask t).length) (fun k => (ask t).length - k) 0 ⟨rfl, rfl, rfl, rfl, rfl, rfl, rfl, rfl, trivial⟩ (by simp) (.refl _) (Nat.zero_le _) ?_
  intro k hk
  refine W.seq ?_
  refine W.region ?_
  refine WL.val (OpVal.opv rfl) rfl rfl rfl ?_
  refine WL.nil ?_
  refine Kseq.go (W.seq ?_)
  refine W.condD rfl rfl (fun hlt => ?_) (fun hge => ?_)
  · have hkl : k < (ask t).length := by omega
    have hok := ask_owns hp hkl
    have hpl : (pad ((ask t).getD k [])).length = 7 := pad_len hok.le7
    refine W.skip (Kseq.go (W.seq (W.block (W.seq ?_))))
    refine W.region ?_
    refine WL.val (OpVal.indexAddrN rfl rfl (by assumption) (by omega)) rfl rfl rfl ?_
    refine WL.val (OpVal.loadOwn rfl hT (by repeat (first | exact .head _ | refine .tail _ ?_)) hkl hok.le7) rfl rfl rfl ?_
    refine WL.alloc rfl rfl rfl (fun b10 => ?_)
    (refine WL.storeAll rfl (.head _) rfl rfl (by rw [List.size_toArray, List.length_map]; exact hpl) (by rfl) (by simp [Value.oneCell']) ?_)
    refine WL.nil ?_
    refine Kseq.go ?_
    skip
    refine W.draw 7 (by kernel_rfl) (by kernel_rfl) (by kernel_rfl) rfl ?_
    refine DJ.val [] (OpVal.loadBW rfl (.tail _ (.head _)) rfl) rfl rfl rfl rfl ?_
    refine DJ.val [] (OpVal.fieldAddrB rfl) rfl rfl rfl rfl ?_
    refine DJ.val [] (OpVal.loadB rfl (.tail _ (.tail _ (.tail _ (.head _)))) rfl) rfl rfl rfl rfl ?_
    refine DJ.val [] (OpVal.opv rfl) rfl rfl rfl rfl ?_
    refine DJ.val [] (OpVal.loadBW rfl (.head _) (by rw [List.size_toArray, List.length_map]; exact hpl)) rfl rfl rfl rfl ?_
    refine DJ.val [] (OpVal.opv rfl) rfl rfl rfl rfl ?_
    refine DJ.val [] (OpVal.callC rfl rfl (fun m hm => hC m (by repeat (first | exact hm.1 | replace hm := hm.2)) _ hok)) rfl rfl rfl rfl ?_
    refine DJ.nil ?_
    refine WL.val (OpVal.call rfl (fun m hm => wider_any _ _ _)) rfl rfl rfl ?_
    refine WL.store [_, _] rfl (.tail _ (.head _)) rfl rfl rfl (Nat.le_of_ble_eq_true rfl) (by first | (simp [Value.cells, Value.oneCell']; done) | exact IsArr.ones hW (by omega) | exact IsArr.ones hP (by omega) | exact IsArr.ones hS (by omega) | exact IsArr.ones hH (by omega) | exact IsArr.ones hL (by omega) | exact IsArr.ones hB (by omega) | exact IsArr.ones hT (by omega) | exact IsArr.ones hm (by omega)) rfl ?_
    refine WL.nil ?_
    refine Kblock.normal (Kseq.go ?_)
    skip
    refine W.region ?_
    refine WL.val (OpVal.incr rfl (by omega)) rfl rfl rfl ?_
    refine WL.val (OpVal.opv rfl) rfl rfl rfl ?_
    refine WL.nil ?_
    skip
    exact Kloop.next (k + 1) (by omega) (by omega) ⟨rfl, rfl, rfl, rfl, rfl, rfl, rfl, rfl, trivial⟩ (by simp) (by repeat (first | exact List.Sublist.refl _ | refine List.Sublist.cons _ ?_ | refine List.Sublist.cons_cons _ ?_))
  · have : k = (ask t).length := by omega
    subst this
    refine W.exit (Kseq.exit (Kloop.exit (Kblock.here (Kseq.go (W.seq ?_)))))
    skip
    refine W.region ?_
    refine WL.val (OpVal.loadBW rfl (.head _) rfl) rfl rfl rfl ?_
    refine WL.store [_, _] rfl (.tail _ (.head _)) rfl rfl rfl (Nat.le_of_ble_eq_true rfl) (by first | (simp [Value.cells, Value.oneCell']; done) | exact IsArr.ones hW (by omega) | exact IsArr.ones hP (by omega) | exact IsArr.ones hS (by omega) | exact IsArr.ones hH (by omega) | exact IsArr.ones hL (by omega) | exact IsArr.ones hB (by omega) | exact IsArr.ones hT (by omega) | exact IsArr.ones hm (by omega)) rfl ?_
    refine WL.nil ?_
    refine Kseq.go ?_
    refine W.ret ?_; skip
    exact ⟨.inl rfl, [_], h, ⟨.agg inferInstance inferInstance rfl (.tail _ (.head _)) rfl, trivial⟩, .head _, rfl⟩
end Go.Proofs.Ytbmohbeocnfefaa
