/- The statement BundleEnds: its contract. -/
import Derived.Test.YtgolpbkapphciaaT38
import Derived.Test.YtgolpbkapphciaaP9
namespace Go.Proofs.Ytgolpbkapphciaa
open Go Go.Eng Go.RowKit

/-- Who owns a piece, by bits. -/
def metTo (T : List (List Int)) (p : Nat) : Nat → Nat
  | 0 => 0
  | k + 1 => metTo T p k ||| 2 ^ ((T.getD k []).getD p 0).toNat
theorem met_bit (T : List (List Int)) (p w : Nat) : ∀ k, (metTo T p k).testBit w = true ↔ ∃ i, i < k ∧ ((T.getD i []).getD p 0).toNat = w
  | 0 => by simp [metTo]
  | k + 1 => by
    simp only [metTo, Nat.testBit_or, Bool.or_eq_true, met_bit T p w k, Nat.testBit_two_pow, decide_eq_true_eq]
    constructor
    · rintro (⟨i, h1, h2⟩ | h)
      · exact ⟨i, by omega, h2⟩
      · exact ⟨k, by omega, h⟩
    · rintro ⟨i, h1, h2⟩
      rcases Nat.lt_succ_iff_lt_or_eq.1 h1 with h | rfl
      · exact .inl ⟨i, h, h2⟩
      · exact .inr h2
theorem met_lt {T : List (List Int)} {p : Nat} (h : ∀ i, i < T.length → ((T.getD i []).getD p 0).toNat < 5) : ∀ k, k ≤ T.length → metTo T p k < 2 ^ 5
  | 0, _ => by simp [metTo]
  | k + 1, hk => Nat.or_lt_two_pow (met_lt h k (by omega)) (Nat.pow_lt_pow_right (by omega) (h k (by omega)))
theorem getD_mem {T : List (List Int)} {i : Nat} (h : i < T.length) : T.getD i [] ∈ T := by
  rw [List.getD_eq_getElem?_getD, List.getElem?_eq_getElem h]; exact List.getElem_mem h
theorem mem_getD_list {T : List (List Int)} {l : List Int} (h : l ∈ T) : ∃ i, i < T.length ∧ T.getD i [] = l := by
  obtain ⟨i, hi, rfl⟩ := List.mem_iff_getElem.1 h
  exact ⟨i, hi, by rw [List.getD_eq_getElem?_getD, List.getElem?_eq_getElem hi]; rfl⟩
theorem owner_nat {t : Table} {l : List Int} (h : l ∈ ask t) {p : Nat} (hp : p < t.pieces.length) : ∃ w : Nat, w < t.women.length ∧ l.getD p 0 = (w : Int) := by
  have hla := areOwners_iff.1 (ask_are h)
  obtain ⟨w, h1, _, e⟩ := mem_sel.1 (hla.2 p (by rw [hla.1]; exact hp))
  exact ⟨w, h1, e⟩
theorem ends_who {t : Table} {p : Nat} (hp : p < t.pieces.length) (hw : t.women.length ≤ 5) : bits (metTo (ask t) p (ask t).length) = whoP t p := by
  rw [whoP_eq hp]
  refine inc_ext (bits_pairwise _) (sel_pairwise _ _) fun x => ?_
  constructor
  · intro h
    obtain ⟨w, h1, h2, rfl⟩ := mem_sel.1 h
    obtain ⟨i, hi, e⟩ := (met_bit _ _ _ _).1 h2
    have hm := getD_mem hi
    obtain ⟨y, hy, e2⟩ := owner_nat hm hp
    rw [e2, Int.toNat_natCast] at e
    subst e
    exact mem_sel.2 ⟨y, hy, whoseIn_iff.2 ⟨_, hm, e2⟩, rfl⟩
  · intro h
    obtain ⟨w, h1, h2, rfl⟩ := mem_sel.1 h
    obtain ⟨l, hl, e⟩ := whoseIn_iff.1 h2
    obtain ⟨i, hi, rfl⟩ := mem_getD_list hl
    refine mem_bits.2 ⟨by omega, (met_bit _ _ _ _).2 ⟨i, hi, ?_⟩⟩
    rw [e, Int.toNat_natCast]
/-- One turn. -/
inductive Ph1 (α : Type)
  | a
  | b (x : α)
def Ph1.num {α : Type} : Ph1 α → Nat
  | .a => 0
  | .b _ => 1
@[reducible] def Ph1.sel {α σ : Type} (u : σ) (v : α → σ) : Ph1 α → σ
  | .a => u
  | .b x => v x
theorem Ph1.all {α : Type} {Q : Ph1 α → Prop} (h1 : Q .a) (h2 : ∀ x, Q (.b x)) : ∀ g, Q g
  | .a => h1
  | .b x => h2 x
theorem Ph1.le {α : Type} : ∀ g : Ph1 α, g.num ≤ 1
  | .a => Nat.le_of_ble_eq_true rfl
  | .b _ => Nat.le_of_ble_eq_true rfl
/-- Is an end of the bounds met? -/
def hitTo (t : Table) (x : Int) (k : Nat) : Bool := ex k fun i => decide (aN t ((ask t).getD i []) = x)
theorem hit_succ (t : Table) (x : Int) (k : Nat) : hitTo t x (k + 1) = (hitTo t x k || decide (aN t ((ask t).getD k []) = x)) := by
  simp [hitTo, ex, List.range_succ, List.any_append]
theorem hit_lo {t : Table} (h0 : ask t ≠ []) : hitTo t (loQ (aN t) (ask t) (ask t).length) (ask t).length = true := by
  obtain ⟨l, hl, e⟩ := loA_mem (g := aN t) h0
  obtain ⟨i, hi, rfl⟩ := mem_getD_list hl
  exact ex_iff.2 ⟨i, hi, decide_eq_true e⟩
theorem hit_hi {t : Table} (h0 : ask t ≠ []) : hitTo t (hiQ (aN t) (ask t) (ask t).length) (ask t).length = true := by
  obtain ⟨l, hl, e⟩ := hiA_mem (g := aN t) h0
  obtain ⟨i, hi, rfl⟩ := mem_getD_list hl
  exact ex_iff.2 ⟨i, hi, decide_eq_true e⟩
/-- BundleEnds -/
theorem bundleEnds_any {h : Mem} {v : Value} {t : Table} {n : Nat} (hv : IsTable h v t) (hn : n < 256) : FnV Try.prog 7 #[v, .int .u8 n] h (.bool true) := by
  have hv' := hv
  obtain ⟨wv, pv, f, rfl, hW, hP, hM⟩ := hv
  refine FnR.val ?_
  refine FnR.of_W (n := 131) Try.func7 rfl rfl (Nat.le_of_ble_eq_true rfl) fun c hr hD hF => ?_
  refine W.seq ?_
  refine W.region ?_
  refine WL.box rfl rfl rfl rfl (fun b2 => ?_)
  refine WL.val (OpVal.opv rfl) rfl rfl rfl ?_
  refine WL.nil ?_
  refine Kseq.go (W.seq (W.seq ?_))
  refine W.freezeBox (.head _) (fun b hb => (hF b hb).elim) fun m1 h1 => ?_
  by_cases hR : readyB t = false
  · skip
    refine W.region ?_
    refine WL.val (OpVal.loadPW rfl (by assumption) (by repeat (first | exact .head _ | refine .tail _ ?_)) (by rfl)) rfl rfl rfl ?_
    refine WL.val (OpVal.cast (OpVal.call rfl (fun m hm => ready_any (hv'.le (by repeat (first | exact hm.1 | replace hm := hm.2))))) (congrArg Value.bool hR)) rfl rfl rfl ?_
    refine WL.val (OpVal.opv rfl) rfl rfl rfl ?_
    refine WL.val (OpVal.opv rfl) rfl rfl rfl ?_
    refine WL.pass rfl rfl rfl ?_
    refine WL.pass rfl rfl rfl ?_
    refine WL.pass rfl rfl rfl ?_
    refine WL.pass rfl rfl rfl ?_
    refine WL.val (OpVal.opv rfl) rfl rfl rfl ?_
    refine WL.nil ?_
    refine Kseq.go ?_
    refine W.condT rfl rfl ?_
    refine W.seq ?_
    refine W.region ?_
    refine WL.val (OpVal.call rfl (fun m hm => awake_any)) rfl rfl rfl ?_
    refine WL.val (OpVal.opv rfl) rfl rfl rfl ?_
    refine WL.nil ?_
    refine Kseq.go ?_
    refine W.ret ?_; refine Kseq.ret ?_; refine ⟨.inl rfl, [_], h, ⟨.tmp rfl, trivial⟩, (by repeat (first | exact .head _ | refine .tail _ ?_)), ?_⟩
    rfl
  have hR : readyB t = true := by simpa using hR
  by_cases hp0 : t.pieces.length = 0
  · skip
    refine W.region ?_
    refine WL.val (OpVal.loadPW rfl (by assumption) (by repeat (first | exact .head _ | refine .tail _ ?_)) (by rfl)) rfl rfl rfl ?_
    refine WL.val (OpVal.cast (OpVal.call rfl (fun m hm => ready_any (hv'.le (by repeat (first | exact hm.1 | replace hm := hm.2))))) (congrArg Value.bool hR)) rfl rfl rfl ?_
    refine WL.val (OpVal.opv rfl) rfl rfl rfl ?_
    refine WL.val (OpVal.opv rfl) rfl rfl rfl ?_
    refine WL.val (OpVal.fieldAddrB rfl) rfl rfl rfl ?_
    refine WL.val (OpVal.loadP rfl (by assumption) (by repeat (first | exact .head _ | refine .tail _ ?_)) rfl) rfl rfl rfl ?_
    refine WL.val (OpVal.len rfl hP) rfl rfl rfl ?_
    refine WL.val (OpVal.cast (OpVal.opv rfl) (congrArg Value.bool (decide_eq_true (by omega)))) rfl rfl rfl ?_
    refine WL.val (OpVal.opv rfl) rfl rfl rfl ?_
    refine WL.nil ?_
    refine Kseq.go ?_
    refine W.condT rfl rfl ?_
    refine W.seq ?_
    refine W.region ?_
    refine WL.val (OpVal.call rfl (fun m hm => awake_any)) rfl rfl rfl ?_
    refine WL.val (OpVal.opv rfl) rfl rfl rfl ?_
    refine WL.nil ?_
    refine Kseq.go ?_
    refine W.ret ?_; refine Kseq.ret ?_; refine ⟨.inl rfl, [_], h, ⟨.tmp rfl, trivial⟩, (by repeat (first | exact .head _ | refine .tail _ ?_)), ?_⟩
    rfl
  skip
  refine W.region ?_
  refine WL.val (OpVal.loadPW rfl (by assumption) (by repeat (first | exact .head _ | refine .tail _ ?_)) (by rfl)) rfl rfl rfl ?_
  refine WL.val (OpVal.cast (OpVal.call rfl (fun m hm => ready_any (hv'.le (by repeat (first | exact hm.1 | replace hm := hm.2))))) (congrArg Value.bool hR)) rfl rfl rfl ?_
  refine WL.val (OpVal.opv rfl) rfl rfl rfl ?_
  refine WL.val (OpVal.opv rfl) rfl rfl rfl ?_
  refine WL.val (OpVal.fieldAddrB rfl) rfl rfl rfl ?_
  refine WL.val (OpVal.loadP rfl (by assumption) (by repeat (first | exact .head _ | refine .tail _ ?_)) rfl) rfl rfl rfl ?_
  refine WL.val (OpVal.len rfl hP) rfl rfl rfl ?_
  refine WL.val (OpVal.cast (OpVal.opv rfl) (congrArg Value.bool (decide_eq_false (by omega)))) rfl rfl rfl ?_
  refine WL.val (OpVal.opv rfl) rfl rfl rfl ?_
  refine WL.nil ?_
  refine Kseq.go ?_
  refine W.condF rfl rfl ?_
  obtain ⟨hTh, hVa⟩ := readyB_iff.1 hR
  have hs : Sm t := ThinB.sm hTh
  have hs1 := hs.1
  have hs2 := hs.2.1
  have hw5 := hVa.women
  have hpl : n % t.pieces.length < t.pieces.length := Nat.mod_lt _ (by omega)
  refine W.skip (Kseq.go (W.seq ?_))
  skip
  refine W.region ?_
  refine WL.val (OpVal.opv rfl) rfl rfl rfl ?_
  refine WL.val (OpVal.conv rfl (i64_in (by omega) (by omega))) rfl rfl rfl ?_
  refine WL.val (OpVal.fieldAddrB rfl) rfl rfl rfl ?_
  refine WL.val (OpVal.loadP rfl (by assumption) (by repeat (first | exact .head _ | refine .tail _ ?_)) rfl) rfl rfl rfl ?_
  refine WL.val (OpVal.len rfl hP) rfl rfl rfl ?_
  refine WL.val (OpVal.cast (OpVal.rem rfl rfl (by omega) (by omega)) (show vi ((n : Int) % (t.pieces.length : Int)) = vi ((n % t.pieces.length : Nat) : Int) from rfl)) rfl rfl rfl ?_
  refine WL.val (OpVal.opv rfl) rfl rfl rfl ?_
  refine WL.nil ?_
  refine Kseq.go (W.seq ?_)
  generalize n % t.pieces.length = p at *
  skip
  refine W.region ?_
  refine WL.val (OpVal.loadPW rfl (by assumption) (by repeat (first | exact .head _ | refine .tail _ ?_)) (by rfl)) rfl rfl rfl ?_
  refine WL.abs (OpAbs.call rfl (fun m hm => table_any (hv'.le (by repeat (first | exact hm.1 | replace hm := hm.2))) hs)) rfl rfl rfl ?_
  rintro m35 v35 h35
  refine WL.abs (OpAbs.call rfl (fun m hm => whoseT_any (h35.le (by repeat (first | exact hm.1 | replace hm := hm.2))) hs)) rfl rfl rfl ?_
  rintro m36 _ ⟨xv, rfl, hxv⟩
  refine WL.val (OpVal.opv rfl) rfl rfl rfl ?_
  refine WL.val (OpVal.opv rfl) rfl rfl rfl ?_
  refine WL.val (OpVal.opv rfl) rfl rfl rfl ?_
  refine WL.val (OpVal.opv rfl) rfl rfl rfl ?_
  refine WL.val (OpVal.opv rfl) rfl rfl rfl ?_
  refine WL.nil ?_
  refine Kseq.go (W.seq ?_)
  by_cases hE : askE t = 0
  · have hE' : sureE t = 0 := by rw [← askE_sure]; exact hE
    obtain ⟨_, hTne, hSL, hask, hf0⟩ := sure_ok hE'
    rw [if_pos hE] at hxv
    obtain ⟨vs, hvs, hX⟩ := hxv
    rw [whoTo_len] at hX
    have hwk : IsInts m36 (vs.getD p undef) (whoP t p) := by
      have := hvs.2 p (by rw [whoTo_len]; omega)
      rwa [whoTo_get hpl] at this
    skip
    refine W.region ?_
    refine WL.val (OpVal.loadPW rfl (by assumption) (by repeat (first | exact .head _ | refine .tail _ ?_)) (by rfl)) rfl rfl rfl ?_
    refine WL.abs (OpAbs.call rfl (fun m hm => table_any (hv'.le (by repeat (first | exact hm.1 | replace hm := hm.2))) hs)) rfl rfl rfl ?_
    rintro m41 v41 h41
    refine WL.val (OpVal.cast (OpVal.call rfl (fun m hm => astrayT_any (h41.le (by repeat (first | exact hm.1 | replace hm := hm.2))) hs)) (if_pos hE)) rfl rfl rfl ?_
    refine WL.val (OpVal.opv rfl) rfl rfl rfl ?_
    refine WL.val (OpVal.opv rfl) rfl rfl rfl ?_
    refine WL.val (OpVal.opv rfl) rfl rfl rfl ?_
    refine WL.alloc rfl rfl rfl (fun b8 => ?_)
    refine WL.store [_, _] rfl (.head _) rfl rfl rfl (Nat.le_of_ble_eq_true rfl) (by first | (simp [Value.cells, Value.oneCell']; done) | exact IsArr.ones hW (by omega) | exact IsArr.ones hP (by omega)) rfl ?_
    refine WL.val (OpVal.opv rfl) rfl rfl rfl ?_
    refine WL.nil ?_
    refine Kseq.go (W.seq ?_)
    skip
    refine W.region ?_
    refine WL.val (OpVal.loadPW rfl (by assumption) (by repeat (first | exact .head _ | refine .tail _ ?_)) (by rfl)) rfl rfl rfl ?_
    refine WL.abs (OpAbs.call rfl (fun m hm => sure_any (hv'.le (by repeat (first | exact hm.1 | replace hm := hm.2))) hs)) rfl rfl rfl ?_
    rintro m47 _ ⟨av, rfl, hav⟩
    refine WL.val (OpVal.opv rfl) rfl rfl rfl ?_
    refine WL.val (OpVal.opv rfl) rfl rfl rfl ?_
    refine WL.val (OpVal.opv rfl) rfl rfl rfl ?_
    refine WL.val (OpVal.opv rfl) rfl rfl rfl ?_
    refine WL.val (OpVal.opv rfl) rfl rfl rfl ?_
    refine WL.nil ?_
    refine Kseq.go (W.seq (W.seq ?_))
    rw [hSL, ← hask] at hav
    rw [hE', hE]
    have hav' := hav
    obtain ⟨ls, hls, hA⟩ := hav'
    skip
    refine W.region ?_
    refine WL.val (OpVal.opv rfl) rfl rfl rfl ?_
    refine WL.val (OpVal.neqF rfl rfl) rfl rfl rfl ?_
    refine WL.nil ?_
    refine Kseq.go ?_
    refine W.condF rfl rfl ?_
    refine W.skip (Kseq.go (W.seq (W.seq ?_)))
    skip
    refine W.region ?_
    refine WL.val (OpVal.opv rfl) rfl rfl rfl ?_
    refine WL.val (OpVal.neqF rfl rfl) rfl rfl rfl ?_
    refine WL.val (OpVal.opv rfl) rfl rfl rfl ?_
    refine WL.val (OpVal.opv rfl) rfl rfl rfl ?_
    refine WL.val (OpVal.neqF rfl rfl) rfl rfl rfl ?_
    refine WL.val (OpVal.opv rfl) rfl rfl rfl ?_
    refine WL.val (OpVal.opv rfl) rfl rfl rfl ?_
    refine WL.val (OpVal.opv rfl) rfl rfl rfl ?_
    refine WL.val (OpVal.len rfl hX) rfl rfl rfl ?_
    refine WL.val (OpVal.fieldAddrB rfl) rfl rfl rfl ?_
    refine WL.val (OpVal.loadP rfl (by assumption) (by repeat (first | exact .head _ | refine .tail _ ?_)) rfl) rfl rfl rfl ?_
    refine WL.val (OpVal.len rfl hP) rfl rfl rfl ?_
    refine WL.val (OpVal.neqF rfl rfl) rfl rfl rfl ?_
    refine WL.val (OpVal.opv rfl) rfl rfl rfl ?_
    refine WL.nil ?_
    refine Kseq.go ?_
    refine W.cond rfl rfl (fun he => absurd he (by simp)) (fun _ => ?_)
    refine W.skip (Kseq.go (W.seq ?_))
    skip
    refine W.region ?_
    refine WL.val (OpVal.opv rfl) rfl rfl rfl ?_
    refine WL.val (OpVal.opv rfl) rfl rfl rfl ?_
    refine WL.val (OpVal.opv rfl) rfl rfl rfl ?_
    refine WL.nil ?_
    refine Kseq.go (W.seq (W.seq ?_))
    skip
    refine W.region ?_
    refine WL.val (OpVal.opv rfl) rfl rfl rfl ?_
    refine WL.nil ?_
    refine Kseq.go (W.block ?_)
    refine W.loopC (σ := Nat) (fun k => [(2, .pointer (some ⟨b2, 0, none⟩)), (5, .int .i64 (p : Int)), (6, xv), (8, .pointer (some ⟨b8, 0, none⟩)), (10, av), (12, vi (metTo (ask t) p k : Nat)), (13, .bool (hitTo t (loQ (aN t) (ask t) (ask t).length) k)), (14, .bool (hitTo t (hiQ (aN t) (ask t) (ask t).length) k)), (15, .int .i64 (k : Int))]) (fun k => k ≤ (ask t).length) (fun k => (ask t).length - k) 0 ⟨rfl, rfl, rfl, rfl, rfl, rfl, rfl, rfl, rfl, trivial⟩ (Nat.zero_le _) ?_
    intro k hk
    have hma := IsArr.len hA
    unfold maxLen at hma
    refine W.seq (W.seq ?_)
    refine W.region ?_
    refine WL.val (OpVal.opv rfl) rfl rfl rfl ?_
    refine WL.val (OpVal.opv rfl) rfl rfl rfl ?_
    refine WL.val (OpVal.len rfl hA) rfl rfl rfl ?_
    refine WL.val (OpVal.opv rfl) rfl rfl rfl ?_
    refine WL.nil ?_
    refine Kseq.go ?_
    refine W.condD rfl rfl (fun hlt => ?_) (fun hge => ?_)
    · have hkl : k < (ask t).length := by omega
      have hlk := hls.2 k hkl
      have hmem := getD_mem hkl
      have hll := ask_lens hmem
      obtain ⟨w, hw, hx⟩ := owner_nat hmem hpl
      have hm5 := met_lt (T := ask t) (p := p) (fun i hi => by obtain ⟨y, hy, e⟩ := owner_nat (getD_mem hi) hpl; rw [e, Int.toNat_natCast]; omega) k hk
      have h2w : 2 ^ w ≤ 2 ^ 5 := Nat.pow_le_pow_right (by omega) (by omega)
      have hpos : 0 < 2 ^ w := Nat.pow_pos (by omega)
      have e1 : (1 : Int) * 2 ^ w = ((2 ^ w : Nat) : Int) := by simp
      refine W.skip (Kseq.go (W.seq (W.block (W.seq ?_))))
      refine W.draw 5 (by kernel_rfl) (by kernel_rfl) (by kernel_rfl) rfl ?_
      refine DJ.val [] (OpVal.loadPW rfl (by assumption) (by repeat (first | exact .head _ | refine .tail _ ?_)) (by rfl)) rfl rfl rfl rfl ?_
      refine DJ.val [] (OpVal.opv rfl) rfl rfl rfl rfl ?_
      refine DJ.val [] (OpVal.opv rfl) rfl rfl rfl rfl ?_
      refine DJ.val [] (OpVal.indexAddrN rfl rfl hA (by omega)) rfl rfl rfl rfl ?_
      refine DJ.val [] (OpVal.loadE rfl hA (by repeat (first | exact .head _ | refine .tail _ ?_)) (by omega) (by omega)) rfl rfl rfl rfl ?_
      refine DJ.nil ?_
      refine WL.abs (OpAbs.call rfl (fun m hm => astray_any (hv'.le (by repeat (first | exact hm.1 | replace hm := hm.2))) hs (hlk.le (by repeat (first | exact hm.1 | replace hm := hm.2))) (by omega))) rfl rfl rfl ?_
      rintro m88 v88 h88
      refine WL.abs (OpAbs.ofVal (A := fun _ r => r = vi (aN t ((ask t).getD k []))) (OpVal.len rfl h88) (.head _) rfl) rfl rfl rfl ?_
      rintro m89 v89 h89
      refine WL.abs (OpAbs.ofVal (A := fun _ r => r = vi (aN t ((ask t).getD k []))) (OpVal.opv rfl) (.head _) h89) rfl rfl rfl ?_
      rintro m16 v16 h16
      refine WL.nil ?_
      refine Kseq.go (W.seq ?_)
      subst h16
      skip
      refine W.toS [(2, .pointer (some ⟨b2, 0, none⟩)), (5, .int .i64 (p : Int)), (6, xv), (8, .pointer (some ⟨b8, 0, none⟩)), (10, av), (12, vi (metTo (ask t) p k : Nat)), (13, .bool (hitTo t (loQ (aN t) (ask t) (ask t).length) (k + 1))), (14, .bool (hitTo t (hiQ (aN t) (ask t) (ask t).length) (k + 1))), (15, .int .i64 (k : Int))] ?_ ?_
      · cases hL : hitTo t (loQ (aN t) (ask t) (ask t).length) k <;> cases hH : hitTo t (hiQ (aN t) (ask t) (ask t).length) k
        · let l0 : List (Nat × Value) := [(2, .pointer (some ⟨b2, 0, none⟩)), (5, .int .i64 (p : Int)), (6, xv), (8, .pointer (some ⟨b8, 0, none⟩)), (10, av), (12, vi (metTo (ask t) p k : Nat)), (13, .bool false), (14, .bool false), (15, .int .i64 (k : Int)), (16, vi (aN t ((ask t).getD k [])))]
          let l1 : List (Nat × Value) := (13, .bool (decide (aN t ((ask t).getD k []) = loQ (aN t) (ask t) (ask t).length))) :: [(2, .pointer (some ⟨b2, 0, none⟩)), (5, .int .i64 (p : Int)), (6, xv), (8, .pointer (some ⟨b8, 0, none⟩)), (10, av), (12, vi (metTo (ask t) p k : Nat)), (14, .bool false), (15, .int .i64 (k : Int)), (16, vi (aN t ((ask t).getD k [])))]
          refine W.weaken l0 _ [.blk b8 [vi (loQ (aN t) (ask t) (ask t).length), vi (hiQ (aN t) (ask t) (ask t).length)].toArray 55] (by repeat (first | exact trivial | refine ⟨rfl, ?_⟩)) (fun _ h => h) (.refl _) ?_
          skip
          refine W.drawN (γ := Ph1 Unit) .a 15 [14] (Ph1.sel l0 (fun _ => l1)) (Ph1.sel [.blk b8 [vi (loQ (aN t) (ask t) (ask t).length), vi (hiQ (aN t) (ask t) (ask t).length)].toArray 55] (fun _ => [.blk b8 [vi (loQ (aN t) (ask t) (ask t).length), vi (hiQ (aN t) (ask t) (ask t).length)].toArray 55])) Ph1.num (by kernel_rfl) (by kernel_rfl) (by kernel_rfl) rfl Ph1.le (Ph1.all rfl (fun _ => rfl)) rfl rfl ?_
          refine DJN.val [] (Ph1.all (fun hg => OpVal.opv rfl) (fun x1 hg => Bool.noConfusion (show false = true from hg))) (Ph1.all (fun hg => rfl) (fun x1 hg => Bool.noConfusion (show false = true from hg))) rfl rfl (Ph1.all rfl (fun _ => rfl)) rfl ?_
          refine DJN.val [] (Ph1.all (fun hg => OpVal.opv rfl) (fun x1 hg => Bool.noConfusion (show false = true from hg))) (Ph1.all (fun hg => rfl) (fun x1 hg => Bool.noConfusion (show false = true from hg))) rfl rfl (Ph1.all rfl (fun _ => rfl)) rfl ?_
          refine DJN.val [] (Ph1.all (fun hg => OpVal.opv rfl) (fun x1 hg => Bool.noConfusion (show false = true from hg))) (Ph1.all (fun hg => rfl) (fun x1 hg => Bool.noConfusion (show false = true from hg))) rfl rfl (Ph1.all rfl (fun _ => rfl)) rfl ?_
          refine DJN.val [] (Ph1.all (fun hg => OpVal.fieldAddrB rfl) (fun x1 hg => Bool.noConfusion (show false = true from hg))) (Ph1.all (fun hg => rfl) (fun x1 hg => Bool.noConfusion (show false = true from hg))) rfl rfl (Ph1.all rfl (fun _ => rfl)) rfl ?_
          refine DJN.val [] (Ph1.all (fun hg => (by first | exact OpVal.loadB rfl (.head _) rfl | exact OpVal.loadB rfl (.tail _ (.head _)) rfl | exact OpVal.loadB rfl (.tail _ (.tail _ (.head _))) rfl | exact OpVal.loadB rfl (.tail _ (.tail _ (.tail _ (.head _)))) rfl | exact OpVal.loadB rfl (.tail _ (.tail _ (.tail _ (.tail _ (.head _))))) rfl | exact OpVal.loadB rfl (.tail _ (.tail _ (.tail _ (.tail _ (.tail _ (.head _)))))) rfl | exact OpVal.loadP rfl (by assumption) (by repeat (first | exact .head _ | refine .tail _ ?_)) rfl)) (fun x1 hg => Bool.noConfusion (show false = true from hg))) (Ph1.all (fun hg => rfl) (fun x1 hg => Bool.noConfusion (show false = true from hg))) rfl rfl (Ph1.all rfl (fun _ => rfl)) rfl ?_
          refine DJN.val [] (Ph1.all (fun hg => OpVal.opv rfl) (fun x1 hg => Bool.noConfusion (show false = true from hg))) (Ph1.all (fun hg => rfl) (fun x1 hg => Bool.noConfusion (show false = true from hg))) rfl rfl (Ph1.all rfl (fun _ => rfl)) rfl ?_
          refine DJN.val [] (Ph1.all (fun hg => OpVal.opv rfl) (fun x1 hg => Bool.noConfusion (show false = true from hg))) (Ph1.all (fun hg => rfl) (fun x1 hg => Bool.noConfusion (show false = true from hg))) rfl rfl (Ph1.all rfl (fun _ => rfl)) rfl ?_
          refine DJN.val [] (Ph1.all (fun hg => OpVal.opv rfl) (fun x1 hg => OpVal.opv rfl)) (Ph1.all (fun hg => rfl) (fun x1 hg => rfl)) rfl rfl (Ph1.all rfl (fun _ => rfl)) rfl ?_
          refine DJN.val [] (Ph1.all (fun hg => OpVal.opv rfl) (fun x1 hg => Bool.noConfusion (show false = true from hg))) (Ph1.all (fun hg => rfl) (fun x1 hg => Bool.noConfusion (show false = true from hg))) rfl rfl (Ph1.all rfl (fun _ => rfl)) rfl ?_
          refine DJN.val [] (Ph1.all (fun hg => OpVal.opv rfl) (fun x1 hg => OpVal.opv rfl)) (Ph1.all (fun hg => rfl) (fun x1 hg => rfl)) rfl rfl (Ph1.all rfl (fun _ => rfl)) rfl ?_
          refine DJN.val [] (Ph1.all (fun hg => OpVal.fieldAddrB rfl) (fun x1 hg => OpVal.fieldAddrB rfl)) (Ph1.all (fun hg => rfl) (fun x1 hg => rfl)) rfl rfl (Ph1.all rfl (fun _ => rfl)) rfl ?_
          refine DJN.val [] (Ph1.all (fun hg => (by first | exact OpVal.loadB rfl (.head _) rfl | exact OpVal.loadB rfl (.tail _ (.head _)) rfl | exact OpVal.loadB rfl (.tail _ (.tail _ (.head _))) rfl | exact OpVal.loadB rfl (.tail _ (.tail _ (.tail _ (.head _)))) rfl | exact OpVal.loadB rfl (.tail _ (.tail _ (.tail _ (.tail _ (.head _))))) rfl | exact OpVal.loadB rfl (.tail _ (.tail _ (.tail _ (.tail _ (.tail _ (.head _)))))) rfl | exact OpVal.loadP rfl (by assumption) (by repeat (first | exact .head _ | refine .tail _ ?_)) rfl)) (fun x1 hg => (by first | exact OpVal.loadB rfl (.head _) rfl | exact OpVal.loadB rfl (.tail _ (.head _)) rfl | exact OpVal.loadB rfl (.tail _ (.tail _ (.head _))) rfl | exact OpVal.loadB rfl (.tail _ (.tail _ (.tail _ (.head _)))) rfl | exact OpVal.loadB rfl (.tail _ (.tail _ (.tail _ (.tail _ (.head _))))) rfl | exact OpVal.loadB rfl (.tail _ (.tail _ (.tail _ (.tail _ (.tail _ (.head _)))))) rfl | exact OpVal.loadP rfl (by assumption) (by repeat (first | exact .head _ | refine .tail _ ?_)) rfl))) (Ph1.all (fun hg => rfl) (fun x1 hg => rfl)) rfl rfl (Ph1.all rfl (fun _ => rfl)) rfl ?_
          refine DJN.val [] (Ph1.all (fun hg => OpVal.opv rfl) (fun x1 hg => OpVal.opv rfl)) (Ph1.all (fun hg => rfl) (fun x1 hg => rfl)) rfl rfl (Ph1.all rfl (fun _ => rfl)) rfl ?_
          refine DJN.val [] (Ph1.all (fun hg => OpVal.opv rfl) (fun x1 hg => OpVal.opv rfl)) (Ph1.all (fun hg => rfl) (fun x1 hg => rfl)) rfl rfl (Ph1.all rfl (fun _ => rfl)) rfl ?_
          refine DJN.eff 0 [(96, _)] ⟨rfl, trivial⟩ rfl rfl [] trivial (Ph1.all (fun hg => ⟨rfl, fun M2 hM2 => ?_⟩) (fun x1 hg => absurd hg (by simp [Ph1.num]))) ?_
          · (refine WL.val (OpVal.opv rfl) rfl rfl rfl ?_; exact WL.nil ⟨.b (), rfl, Keff.intro (by repeat (first | exact trivial | refine ⟨rfl, ?_⟩)) (fun x hx => hx) (.refl _)⟩)
          refine DJN.nil (Ph1.all (fun hg => absurd hg (by simp [Ph1.num])) (fun x1 hg => ?_))
          refine WL.val (OpVal.opv rfl) rfl rfl rfl ?_
          refine WL.nil ?_
          skip
          exact Keff.intro ⟨rfl, rfl, rfl, rfl, rfl, rfl, congrArg (fun b => some (Value.bool b)) (by rw [hit_succ, hL]; simp), congrArg (fun b => some (Value.bool b)) (by rw [hit_succ, hH]; simp), rfl, trivial⟩ (fun _ h => h) (.refl _)
        · let l0 : List (Nat × Value) := [(2, .pointer (some ⟨b2, 0, none⟩)), (5, .int .i64 (p : Int)), (6, xv), (8, .pointer (some ⟨b8, 0, none⟩)), (10, av), (12, vi (metTo (ask t) p k : Nat)), (13, .bool false), (14, .bool true), (15, .int .i64 (k : Int)), (16, vi (aN t ((ask t).getD k [])))]
          let l1 : List (Nat × Value) := (13, .bool (decide (aN t ((ask t).getD k []) = loQ (aN t) (ask t) (ask t).length))) :: [(2, .pointer (some ⟨b2, 0, none⟩)), (5, .int .i64 (p : Int)), (6, xv), (8, .pointer (some ⟨b8, 0, none⟩)), (10, av), (12, vi (metTo (ask t) p k : Nat)), (14, .bool true), (15, .int .i64 (k : Int)), (16, vi (aN t ((ask t).getD k [])))]
          refine W.weaken l0 _ [.blk b8 [vi (loQ (aN t) (ask t) (ask t).length), vi (hiQ (aN t) (ask t) (ask t).length)].toArray 55] (by repeat (first | exact trivial | refine ⟨rfl, ?_⟩)) (fun _ h => h) (.refl _) ?_
          skip
          refine W.drawN (γ := Ph1 Unit) .a 15 [14] (Ph1.sel l0 (fun _ => l1)) (Ph1.sel [.blk b8 [vi (loQ (aN t) (ask t) (ask t).length), vi (hiQ (aN t) (ask t) (ask t).length)].toArray 55] (fun _ => [.blk b8 [vi (loQ (aN t) (ask t) (ask t).length), vi (hiQ (aN t) (ask t) (ask t).length)].toArray 55])) Ph1.num (by kernel_rfl) (by kernel_rfl) (by kernel_rfl) rfl Ph1.le (Ph1.all rfl (fun _ => rfl)) rfl rfl ?_
          refine DJN.val [] (Ph1.all (fun hg => OpVal.opv rfl) (fun x1 hg => Bool.noConfusion (show false = true from hg))) (Ph1.all (fun hg => rfl) (fun x1 hg => Bool.noConfusion (show false = true from hg))) rfl rfl (Ph1.all rfl (fun _ => rfl)) rfl ?_
          refine DJN.val [] (Ph1.all (fun hg => OpVal.opv rfl) (fun x1 hg => Bool.noConfusion (show false = true from hg))) (Ph1.all (fun hg => rfl) (fun x1 hg => Bool.noConfusion (show false = true from hg))) rfl rfl (Ph1.all rfl (fun _ => rfl)) rfl ?_
          refine DJN.val [] (Ph1.all (fun hg => OpVal.opv rfl) (fun x1 hg => Bool.noConfusion (show false = true from hg))) (Ph1.all (fun hg => rfl) (fun x1 hg => Bool.noConfusion (show false = true from hg))) rfl rfl (Ph1.all rfl (fun _ => rfl)) rfl ?_
          refine DJN.val [] (Ph1.all (fun hg => OpVal.fieldAddrB rfl) (fun x1 hg => Bool.noConfusion (show false = true from hg))) (Ph1.all (fun hg => rfl) (fun x1 hg => Bool.noConfusion (show false = true from hg))) rfl rfl (Ph1.all rfl (fun _ => rfl)) rfl ?_
          refine DJN.val [] (Ph1.all (fun hg => (by first | exact OpVal.loadB rfl (.head _) rfl | exact OpVal.loadB rfl (.tail _ (.head _)) rfl | exact OpVal.loadB rfl (.tail _ (.tail _ (.head _))) rfl | exact OpVal.loadB rfl (.tail _ (.tail _ (.tail _ (.head _)))) rfl | exact OpVal.loadB rfl (.tail _ (.tail _ (.tail _ (.tail _ (.head _))))) rfl | exact OpVal.loadB rfl (.tail _ (.tail _ (.tail _ (.tail _ (.tail _ (.head _)))))) rfl | exact OpVal.loadP rfl (by assumption) (by repeat (first | exact .head _ | refine .tail _ ?_)) rfl)) (fun x1 hg => Bool.noConfusion (show false = true from hg))) (Ph1.all (fun hg => rfl) (fun x1 hg => Bool.noConfusion (show false = true from hg))) rfl rfl (Ph1.all rfl (fun _ => rfl)) rfl ?_
          refine DJN.val [] (Ph1.all (fun hg => OpVal.opv rfl) (fun x1 hg => Bool.noConfusion (show false = true from hg))) (Ph1.all (fun hg => rfl) (fun x1 hg => Bool.noConfusion (show false = true from hg))) rfl rfl (Ph1.all rfl (fun _ => rfl)) rfl ?_
          refine DJN.val [] (Ph1.all (fun hg => OpVal.opv rfl) (fun x1 hg => Bool.noConfusion (show false = true from hg))) (Ph1.all (fun hg => rfl) (fun x1 hg => Bool.noConfusion (show false = true from hg))) rfl rfl (Ph1.all rfl (fun _ => rfl)) rfl ?_
          refine DJN.val [] (Ph1.all (fun hg => OpVal.opv rfl) (fun x1 hg => OpVal.opv rfl)) (Ph1.all (fun hg => rfl) (fun x1 hg => rfl)) rfl rfl (Ph1.all rfl (fun _ => rfl)) rfl ?_
          refine DJN.val [] (Ph1.all (fun hg => OpVal.opv rfl) (fun x1 hg => Bool.noConfusion (show false = true from hg))) (Ph1.all (fun hg => rfl) (fun x1 hg => Bool.noConfusion (show false = true from hg))) rfl rfl (Ph1.all rfl (fun _ => rfl)) rfl ?_
          refine DJN.pass (Ph1.all (fun hg => rfl) (fun x1 hg => rfl)) rfl rfl (Ph1.all rfl (fun _ => rfl)) rfl ?_
          refine DJN.pass (Ph1.all (fun hg => rfl) (fun x1 hg => rfl)) rfl rfl (Ph1.all rfl (fun _ => rfl)) rfl ?_
          refine DJN.pass (Ph1.all (fun hg => rfl) (fun x1 hg => rfl)) rfl rfl (Ph1.all rfl (fun _ => rfl)) rfl ?_
          refine DJN.pass (Ph1.all (fun hg => rfl) (fun x1 hg => rfl)) rfl rfl (Ph1.all rfl (fun _ => rfl)) rfl ?_
          refine DJN.val [] (Ph1.all (fun hg => OpVal.opv rfl) (fun x1 hg => OpVal.opv rfl)) (Ph1.all (fun hg => rfl) (fun x1 hg => rfl)) rfl rfl (Ph1.all rfl (fun _ => rfl)) rfl ?_
          refine DJN.eff 0 [(96, _)] ⟨rfl, trivial⟩ rfl rfl [] trivial (Ph1.all (fun hg => ⟨rfl, fun M2 hM2 => ?_⟩) (fun x1 hg => absurd hg (by simp [Ph1.num]))) ?_
          · (refine WL.val (OpVal.opv rfl) rfl rfl rfl ?_; exact WL.nil ⟨.b (), rfl, Keff.intro (by repeat (first | exact trivial | refine ⟨rfl, ?_⟩)) (fun x hx => hx) (.refl _)⟩)
          refine DJN.nil (Ph1.all (fun hg => absurd hg (by simp [Ph1.num])) (fun x1 hg => ?_))
          refine WL.val (OpVal.opv rfl) rfl rfl rfl ?_
          refine WL.nil ?_
          skip
          exact Keff.intro ⟨rfl, rfl, rfl, rfl, rfl, rfl, congrArg (fun b => some (Value.bool b)) (by rw [hit_succ, hL]; simp), congrArg (fun b => some (Value.bool b)) (by rw [hit_succ, hH]; simp), rfl, trivial⟩ (fun _ h => h) (.refl _)
        · let l0 : List (Nat × Value) := [(2, .pointer (some ⟨b2, 0, none⟩)), (5, .int .i64 (p : Int)), (6, xv), (8, .pointer (some ⟨b8, 0, none⟩)), (10, av), (12, vi (metTo (ask t) p k : Nat)), (13, .bool true), (14, .bool false), (15, .int .i64 (k : Int)), (16, vi (aN t ((ask t).getD k [])))]
          let l1 : List (Nat × Value) := (13, .bool (true)) :: [(2, .pointer (some ⟨b2, 0, none⟩)), (5, .int .i64 (p : Int)), (6, xv), (8, .pointer (some ⟨b8, 0, none⟩)), (10, av), (12, vi (metTo (ask t) p k : Nat)), (14, .bool false), (15, .int .i64 (k : Int)), (16, vi (aN t ((ask t).getD k [])))]
          refine W.weaken l0 _ [.blk b8 [vi (loQ (aN t) (ask t) (ask t).length), vi (hiQ (aN t) (ask t) (ask t).length)].toArray 55] (by repeat (first | exact trivial | refine ⟨rfl, ?_⟩)) (fun _ h => h) (.refl _) ?_
          skip
          refine W.drawN (γ := Ph1 Unit) .a 15 [14] (Ph1.sel l0 (fun _ => l1)) (Ph1.sel [.blk b8 [vi (loQ (aN t) (ask t) (ask t).length), vi (hiQ (aN t) (ask t) (ask t).length)].toArray 55] (fun _ => [.blk b8 [vi (loQ (aN t) (ask t) (ask t).length), vi (hiQ (aN t) (ask t) (ask t).length)].toArray 55])) Ph1.num (by kernel_rfl) (by kernel_rfl) (by kernel_rfl) rfl Ph1.le (Ph1.all rfl (fun _ => rfl)) rfl rfl ?_
          refine DJN.val [] (Ph1.all (fun hg => OpVal.opv rfl) (fun x1 hg => Bool.noConfusion (show false = true from hg))) (Ph1.all (fun hg => rfl) (fun x1 hg => Bool.noConfusion (show false = true from hg))) rfl rfl (Ph1.all rfl (fun _ => rfl)) rfl ?_
          refine DJN.val [] (Ph1.all (fun hg => OpVal.opv rfl) (fun x1 hg => Bool.noConfusion (show false = true from hg))) (Ph1.all (fun hg => rfl) (fun x1 hg => Bool.noConfusion (show false = true from hg))) rfl rfl (Ph1.all rfl (fun _ => rfl)) rfl ?_
          refine DJN.pass (Ph1.all (fun hg => rfl) (fun x1 hg => Bool.noConfusion (show false = true from hg))) rfl rfl (Ph1.all rfl (fun _ => rfl)) rfl ?_
          refine DJN.pass (Ph1.all (fun hg => rfl) (fun x1 hg => Bool.noConfusion (show false = true from hg))) rfl rfl (Ph1.all rfl (fun _ => rfl)) rfl ?_
          refine DJN.pass (Ph1.all (fun hg => rfl) (fun x1 hg => Bool.noConfusion (show false = true from hg))) rfl rfl (Ph1.all rfl (fun _ => rfl)) rfl ?_
          refine DJN.pass (Ph1.all (fun hg => rfl) (fun x1 hg => Bool.noConfusion (show false = true from hg))) rfl rfl (Ph1.all rfl (fun _ => rfl)) rfl ?_
          refine DJN.val [] (Ph1.all (fun hg => OpVal.opv rfl) (fun x1 hg => Bool.noConfusion (show false = true from hg))) (Ph1.all (fun hg => rfl) (fun x1 hg => Bool.noConfusion (show false = true from hg))) rfl rfl (Ph1.all rfl (fun _ => rfl)) rfl ?_
          refine DJN.val [] (Ph1.all (fun hg => OpVal.opv rfl) (fun x1 hg => OpVal.opv rfl)) (Ph1.all (fun hg => rfl) (fun x1 hg => rfl)) rfl rfl (Ph1.all rfl (fun _ => rfl)) rfl ?_
          refine DJN.val [] (Ph1.all (fun hg => OpVal.opv rfl) (fun x1 hg => Bool.noConfusion (show false = true from hg))) (Ph1.all (fun hg => rfl) (fun x1 hg => Bool.noConfusion (show false = true from hg))) rfl rfl (Ph1.all rfl (fun _ => rfl)) rfl ?_
          refine DJN.val [] (Ph1.all (fun hg => OpVal.opv rfl) (fun x1 hg => OpVal.opv rfl)) (Ph1.all (fun hg => rfl) (fun x1 hg => rfl)) rfl rfl (Ph1.all rfl (fun _ => rfl)) rfl ?_
          refine DJN.val [] (Ph1.all (fun hg => OpVal.fieldAddrB rfl) (fun x1 hg => OpVal.fieldAddrB rfl)) (Ph1.all (fun hg => rfl) (fun x1 hg => rfl)) rfl rfl (Ph1.all rfl (fun _ => rfl)) rfl ?_
          refine DJN.val [] (Ph1.all (fun hg => (by first | exact OpVal.loadB rfl (.head _) rfl | exact OpVal.loadB rfl (.tail _ (.head _)) rfl | exact OpVal.loadB rfl (.tail _ (.tail _ (.head _))) rfl | exact OpVal.loadB rfl (.tail _ (.tail _ (.tail _ (.head _)))) rfl | exact OpVal.loadB rfl (.tail _ (.tail _ (.tail _ (.tail _ (.head _))))) rfl | exact OpVal.loadB rfl (.tail _ (.tail _ (.tail _ (.tail _ (.tail _ (.head _)))))) rfl | exact OpVal.loadP rfl (by assumption) (by repeat (first | exact .head _ | refine .tail _ ?_)) rfl)) (fun x1 hg => (by first | exact OpVal.loadB rfl (.head _) rfl | exact OpVal.loadB rfl (.tail _ (.head _)) rfl | exact OpVal.loadB rfl (.tail _ (.tail _ (.head _))) rfl | exact OpVal.loadB rfl (.tail _ (.tail _ (.tail _ (.head _)))) rfl | exact OpVal.loadB rfl (.tail _ (.tail _ (.tail _ (.tail _ (.head _))))) rfl | exact OpVal.loadB rfl (.tail _ (.tail _ (.tail _ (.tail _ (.tail _ (.head _)))))) rfl | exact OpVal.loadP rfl (by assumption) (by repeat (first | exact .head _ | refine .tail _ ?_)) rfl))) (Ph1.all (fun hg => rfl) (fun x1 hg => rfl)) rfl rfl (Ph1.all rfl (fun _ => rfl)) rfl ?_
          refine DJN.val [] (Ph1.all (fun hg => OpVal.opv rfl) (fun x1 hg => OpVal.opv rfl)) (Ph1.all (fun hg => rfl) (fun x1 hg => rfl)) rfl rfl (Ph1.all rfl (fun _ => rfl)) rfl ?_
          refine DJN.val [] (Ph1.all (fun hg => OpVal.opv rfl) (fun x1 hg => OpVal.opv rfl)) (Ph1.all (fun hg => rfl) (fun x1 hg => rfl)) rfl rfl (Ph1.all rfl (fun _ => rfl)) rfl ?_
          refine DJN.eff 0 [(96, _)] ⟨rfl, trivial⟩ rfl rfl [] trivial (Ph1.all (fun hg => ⟨rfl, fun M2 hM2 => ?_⟩) (fun x1 hg => absurd hg (by simp [Ph1.num]))) ?_
          · (refine WL.val (OpVal.opv rfl) rfl rfl rfl ?_; exact WL.nil ⟨.b (), rfl, Keff.intro (by repeat (first | exact trivial | refine ⟨rfl, ?_⟩)) (fun x hx => hx) (.refl _)⟩)
          refine DJN.nil (Ph1.all (fun hg => absurd hg (by simp [Ph1.num])) (fun x1 hg => ?_))
          refine WL.val (OpVal.opv rfl) rfl rfl rfl ?_
          refine WL.nil ?_
          skip
          exact Keff.intro ⟨rfl, rfl, rfl, rfl, rfl, rfl, congrArg (fun b => some (Value.bool b)) (by rw [hit_succ, hL]; simp), congrArg (fun b => some (Value.bool b)) (by rw [hit_succ, hH]; simp), rfl, trivial⟩ (fun _ h => h) (.refl _)
        · let l0 : List (Nat × Value) := [(2, .pointer (some ⟨b2, 0, none⟩)), (5, .int .i64 (p : Int)), (6, xv), (8, .pointer (some ⟨b8, 0, none⟩)), (10, av), (12, vi (metTo (ask t) p k : Nat)), (13, .bool true), (14, .bool true), (15, .int .i64 (k : Int)), (16, vi (aN t ((ask t).getD k [])))]
          let l1 : List (Nat × Value) := (13, .bool (true)) :: [(2, .pointer (some ⟨b2, 0, none⟩)), (5, .int .i64 (p : Int)), (6, xv), (8, .pointer (some ⟨b8, 0, none⟩)), (10, av), (12, vi (metTo (ask t) p k : Nat)), (14, .bool true), (15, .int .i64 (k : Int)), (16, vi (aN t ((ask t).getD k [])))]
          refine W.weaken l0 _ [.blk b8 [vi (loQ (aN t) (ask t) (ask t).length), vi (hiQ (aN t) (ask t) (ask t).length)].toArray 55] (by repeat (first | exact trivial | refine ⟨rfl, ?_⟩)) (fun _ h => h) (.refl _) ?_
          skip
          refine W.drawN (γ := Ph1 Unit) .a 15 [14] (Ph1.sel l0 (fun _ => l1)) (Ph1.sel [.blk b8 [vi (loQ (aN t) (ask t) (ask t).length), vi (hiQ (aN t) (ask t) (ask t).length)].toArray 55] (fun _ => [.blk b8 [vi (loQ (aN t) (ask t) (ask t).length), vi (hiQ (aN t) (ask t) (ask t).length)].toArray 55])) Ph1.num (by kernel_rfl) (by kernel_rfl) (by kernel_rfl) rfl Ph1.le (Ph1.all rfl (fun _ => rfl)) rfl rfl ?_
          refine DJN.val [] (Ph1.all (fun hg => OpVal.opv rfl) (fun x1 hg => Bool.noConfusion (show false = true from hg))) (Ph1.all (fun hg => rfl) (fun x1 hg => Bool.noConfusion (show false = true from hg))) rfl rfl (Ph1.all rfl (fun _ => rfl)) rfl ?_
          refine DJN.val [] (Ph1.all (fun hg => OpVal.opv rfl) (fun x1 hg => Bool.noConfusion (show false = true from hg))) (Ph1.all (fun hg => rfl) (fun x1 hg => Bool.noConfusion (show false = true from hg))) rfl rfl (Ph1.all rfl (fun _ => rfl)) rfl ?_
          refine DJN.pass (Ph1.all (fun hg => rfl) (fun x1 hg => Bool.noConfusion (show false = true from hg))) rfl rfl (Ph1.all rfl (fun _ => rfl)) rfl ?_
          refine DJN.pass (Ph1.all (fun hg => rfl) (fun x1 hg => Bool.noConfusion (show false = true from hg))) rfl rfl (Ph1.all rfl (fun _ => rfl)) rfl ?_
          refine DJN.pass (Ph1.all (fun hg => rfl) (fun x1 hg => Bool.noConfusion (show false = true from hg))) rfl rfl (Ph1.all rfl (fun _ => rfl)) rfl ?_
          refine DJN.pass (Ph1.all (fun hg => rfl) (fun x1 hg => Bool.noConfusion (show false = true from hg))) rfl rfl (Ph1.all rfl (fun _ => rfl)) rfl ?_
          refine DJN.val [] (Ph1.all (fun hg => OpVal.opv rfl) (fun x1 hg => Bool.noConfusion (show false = true from hg))) (Ph1.all (fun hg => rfl) (fun x1 hg => Bool.noConfusion (show false = true from hg))) rfl rfl (Ph1.all rfl (fun _ => rfl)) rfl ?_
          refine DJN.val [] (Ph1.all (fun hg => OpVal.opv rfl) (fun x1 hg => OpVal.opv rfl)) (Ph1.all (fun hg => rfl) (fun x1 hg => rfl)) rfl rfl (Ph1.all rfl (fun _ => rfl)) rfl ?_
          refine DJN.val [] (Ph1.all (fun hg => OpVal.opv rfl) (fun x1 hg => Bool.noConfusion (show false = true from hg))) (Ph1.all (fun hg => rfl) (fun x1 hg => Bool.noConfusion (show false = true from hg))) rfl rfl (Ph1.all rfl (fun _ => rfl)) rfl ?_
          refine DJN.pass (Ph1.all (fun hg => rfl) (fun x1 hg => rfl)) rfl rfl (Ph1.all rfl (fun _ => rfl)) rfl ?_
          refine DJN.pass (Ph1.all (fun hg => rfl) (fun x1 hg => rfl)) rfl rfl (Ph1.all rfl (fun _ => rfl)) rfl ?_
          refine DJN.pass (Ph1.all (fun hg => rfl) (fun x1 hg => rfl)) rfl rfl (Ph1.all rfl (fun _ => rfl)) rfl ?_
          refine DJN.pass (Ph1.all (fun hg => rfl) (fun x1 hg => rfl)) rfl rfl (Ph1.all rfl (fun _ => rfl)) rfl ?_
          refine DJN.val [] (Ph1.all (fun hg => OpVal.opv rfl) (fun x1 hg => OpVal.opv rfl)) (Ph1.all (fun hg => rfl) (fun x1 hg => rfl)) rfl rfl (Ph1.all rfl (fun _ => rfl)) rfl ?_
          refine DJN.eff 0 [(96, _)] ⟨rfl, trivial⟩ rfl rfl [] trivial (Ph1.all (fun hg => ⟨rfl, fun M2 hM2 => ?_⟩) (fun x1 hg => absurd hg (by simp [Ph1.num]))) ?_
          · (refine WL.val (OpVal.opv rfl) rfl rfl rfl ?_; exact WL.nil ⟨.b (), rfl, Keff.intro (by repeat (first | exact trivial | refine ⟨rfl, ?_⟩)) (fun x hx => hx) (.refl _)⟩)
          refine DJN.nil (Ph1.all (fun hg => absurd hg (by simp [Ph1.num])) (fun x1 hg => ?_))
          refine WL.val (OpVal.opv rfl) rfl rfl rfl ?_
          refine WL.nil ?_
          skip
          exact Keff.intro ⟨rfl, rfl, rfl, rfl, rfl, rfl, congrArg (fun b => some (Value.bool b)) (by rw [hit_succ, hL]; simp), congrArg (fun b => some (Value.bool b)) (by rw [hit_succ, hH]; simp), rfl, trivial⟩ (fun _ h => h) (.refl _)
      refine Kseq.go ?_
      skip
      refine W.region ?_
      refine WL.val (OpVal.opv rfl) rfl rfl rfl ?_
      refine WL.val (OpVal.opv rfl) rfl rfl rfl ?_
      refine WL.val (OpVal.opv rfl) rfl rfl rfl ?_
      refine WL.val (OpVal.indexAddrN rfl rfl hA (by omega)) rfl rfl rfl ?_
      refine WL.val (OpVal.loadE rfl hA (by repeat (first | exact .head _ | refine .tail _ ?_)) (by omega) (by omega)) rfl rfl rfl ?_
      refine WL.val (OpVal.opv rfl) rfl rfl rfl ?_
      refine WL.val (OpVal.indexAddrN rfl rfl hlk (by omega)) rfl rfl rfl ?_
      refine WL.val (OpVal.cast (OpVal.loadE rfl hlk (by repeat (first | exact .head _ | refine .tail _ ?_)) (by omega) (by omega)) (congrArg (Value.int .i64) hx)) rfl rfl rfl ?_
      refine WL.val (OpVal.conv rfl (wrap_u64 (by omega) (by omega))) rfl rfl rfl ?_
      refine WL.val ((OpVal.shl rfl rfl (by omega) (by rw [e1]; omega) (by rw [e1]; omega)).cast (congrArg (Value.int .i64) e1)) rfl rfl rfl ?_
      refine WL.val (OpVal.bor rfl rfl (by omega) (by omega)) rfl rfl rfl ?_
      refine WL.val (OpVal.opv rfl) rfl rfl rfl ?_
      refine WL.nil ?_
      refine Kblock.normal (Kseq.go ?_)
      skip
      refine W.region ?_
      refine WL.val (OpVal.opv rfl) rfl rfl rfl ?_
      refine WL.val (OpVal.incr rfl (by omega)) rfl rfl rfl ?_
      refine WL.val (OpVal.opv rfl) rfl rfl rfl ?_
      refine WL.nil ?_
      skip
      exact Kloop.nextC (k + 1) (by omega) (by omega) ⟨rfl, rfl, rfl, rfl, rfl, by simp only [metTo]; rw [hx, Int.toNat_natCast]; rfl, rfl, rfl, rfl, trivial⟩ (by simp) (by repeat (first | exact List.Sublist.refl _ | refine List.Sublist.cons _ ?_ | refine List.Sublist.cons_cons _ ?_))
    · refine W.exit (Kseq.exit (Kloop.exit (Kblock.here (Kseq.go (W.seq ?_)))))
      have hkk : k = (ask t).length := by omega
      subst hkk
      have hbits := ends_who (t := t) hpl hw5
      have hm5 := met_lt (T := ask t) (p := p) (fun i hi => by obtain ⟨y, hy, e⟩ := owner_nat (getD_mem hi) hpl; rw [e, Int.toNat_natCast]; omega) _ (Nat.le_refl _)
      rw [hit_lo (askE_ne hE), hit_hi (askE_ne hE)]
      generalize metTo (ask t) p (ask t).length = mt at *
      skip
      refine W.draw 11 (by kernel_rfl) (by kernel_rfl) (by kernel_rfl) rfl ?_
      refine DJ.val [] (OpVal.opv rfl) rfl rfl rfl rfl ?_
      refine DJ.val [] (OpVal.opv rfl) rfl rfl rfl rfl ?_
      refine DJ.val [] (OpVal.opv rfl) rfl rfl rfl rfl ?_
      refine DJ.val [] (OpVal.opv rfl) rfl rfl rfl rfl ?_
      refine DJ.val [] (OpVal.opv rfl) rfl rfl rfl rfl ?_
      refine DJ.val [] (OpVal.opv rfl) rfl rfl rfl rfl ?_
      refine DJ.abs (A := fun m r => IsInts m r (whoP t p)) [] (OpAbs.mono (OpAbs.call rfl (fun m hm => bits_any (by omega))) (fun m r hr => by rwa [hbits] at hr)) rfl rfl rfl rfl ?_
      refine DJ.val [] (OpVal.opv rfl) rfl rfl rfl rfl ?_
      refine DJ.val [] (OpVal.opv rfl) rfl rfl rfl rfl ?_
      refine DJ.val [] (OpVal.indexAddrN rfl rfl hX (by omega)) rfl rfl rfl rfl ?_
      refine DJ.val [] (OpVal.loadE rfl hX (by repeat (first | exact .head _ | refine .tail _ ?_)) (by omega) (by omega)) rfl rfl rfl rfl ?_
      refine DJ.nil ?_
      rintro m121 v121 h121
      refine WL.val (OpVal.call rfl (fun m hm => ints_same (h121.le (by repeat (first | exact hm.1 | replace hm := hm.2))) (hwk.le (by repeat (first | exact hm.1 | replace hm := hm.2))))) rfl rfl rfl ?_
      refine WL.val (OpVal.opv rfl) rfl rfl rfl ?_
      refine WL.val (OpVal.opv rfl) rfl rfl rfl ?_
      refine WL.val (OpVal.call rfl (fun m hm => awake_any)) rfl rfl rfl ?_
      refine WL.val (OpVal.opv rfl) rfl rfl rfl ?_
      refine WL.val (OpVal.opv rfl) rfl rfl rfl ?_
      refine WL.nil ?_
      refine Kseq.go ?_
      refine W.ret ?_; skip; refine ⟨.inl rfl, [_], h, ⟨.tmp rfl, trivial⟩, (by repeat (first | exact .head _ | refine .tail _ ?_)), ?_⟩
      rfl
  · have hE' : ¬ sureE t = 0 := by rw [← askE_sure]; exact hE
    skip
    refine W.region ?_
    refine WL.val (OpVal.loadPW rfl (by assumption) (by repeat (first | exact .head _ | refine .tail _ ?_)) (by rfl)) rfl rfl rfl ?_
    refine WL.abs (OpAbs.call rfl (fun m hm => table_any (hv'.le (by repeat (first | exact hm.1 | replace hm := hm.2))) hs)) rfl rfl rfl ?_
    rintro m41 v41 h41
    refine WL.val (OpVal.cast (OpVal.call rfl (fun m hm => astrayT_any (h41.le (by repeat (first | exact hm.1 | replace hm := hm.2))) hs)) (if_neg hE)) rfl rfl rfl ?_
    refine WL.val (OpVal.opv rfl) rfl rfl rfl ?_
    refine WL.val (OpVal.opv rfl) rfl rfl rfl ?_
    refine WL.val (OpVal.opv rfl) rfl rfl rfl ?_
    refine WL.alloc rfl rfl rfl (fun b8 => ?_)
    refine WL.store [_, _] rfl (.head _) rfl rfl rfl (Nat.le_of_ble_eq_true rfl) (by first | (simp [Value.cells, Value.oneCell']; done) | exact IsArr.ones hW (by omega) | exact IsArr.ones hP (by omega)) rfl ?_
    refine WL.val (OpVal.opv rfl) rfl rfl rfl ?_
    refine WL.nil ?_
    refine Kseq.go (W.seq ?_)
    skip
    refine W.region ?_
    refine WL.val (OpVal.loadPW rfl (by assumption) (by repeat (first | exact .head _ | refine .tail _ ?_)) (by rfl)) rfl rfl rfl ?_
    refine WL.abs (OpAbs.call rfl (fun m hm => sure_any (hv'.le (by repeat (first | exact hm.1 | replace hm := hm.2))) hs)) rfl rfl rfl ?_
    rintro m47 _ ⟨av, rfl, hav⟩
    refine WL.val (OpVal.opv rfl) rfl rfl rfl ?_
    refine WL.val (OpVal.opv rfl) rfl rfl rfl ?_
    refine WL.val (OpVal.opv rfl) rfl rfl rfl ?_
    refine WL.val (OpVal.opv rfl) rfl rfl rfl ?_
    refine WL.val (OpVal.opv rfl) rfl rfl rfl ?_
    refine WL.nil ?_
    refine Kseq.go (W.seq (W.seq ?_))
    rw [askE_sure]
    skip
    refine W.region ?_
    refine WL.val (OpVal.opv rfl) rfl rfl rfl ?_
    refine WL.val (OpVal.cast (OpVal.opv rfl) (congrArg (fun b => Value.bool (!b)) (decide_eq_false hE'))) rfl rfl rfl ?_
    refine WL.nil ?_
    refine Kseq.go ?_
    refine W.condT rfl rfl ?_
    refine W.seq ?_
    refine W.region ?_
    refine WL.val (OpVal.opv rfl) rfl rfl rfl ?_
    refine WL.val (OpVal.opv rfl) rfl rfl rfl ?_
    refine WL.val (OpVal.eqT rfl rfl) rfl rfl rfl ?_
    refine WL.val (OpVal.opv rfl) rfl rfl rfl ?_
    refine WL.val (OpVal.opv rfl) rfl rfl rfl ?_
    refine WL.val (OpVal.opv rfl) rfl rfl rfl ?_
    refine WL.val (OpVal.eqT rfl rfl) rfl rfl rfl ?_
    refine WL.val (OpVal.opv rfl) rfl rfl rfl ?_
    refine WL.val (OpVal.opv rfl) rfl rfl rfl ?_
    refine WL.val (OpVal.call rfl (fun m hm => awake_any)) rfl rfl rfl ?_
    refine WL.val (OpVal.opv rfl) rfl rfl rfl ?_
    refine WL.val (OpVal.opv rfl) rfl rfl rfl ?_
    refine WL.nil ?_
    refine Kseq.go ?_
    refine W.ret ?_; refine Kseq.ret ?_; refine ⟨.inl rfl, [_], h, ⟨.tmp rfl, trivial⟩, (by repeat (first | exact .head _ | refine .tail _ ?_)), ?_⟩
    rfl
end Go.Proofs.Ytgolpbkapphciaa
