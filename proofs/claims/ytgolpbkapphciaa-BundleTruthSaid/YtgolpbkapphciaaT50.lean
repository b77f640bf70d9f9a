/- The statement BundleTruth: its contract. -/
import Derived.Test.YtgolpbkapphciaaT49
import Derived.Test.YtgolpbkapphciaaT44
import Derived.Test.YtgolpbkapphciaaT41
namespace Go.Proofs.Ytgolpbkapphciaa
open Go Go.Eng Go.RowKit

theorem ask_getD {T : List (List Int)} {i : Nat} (h : i < T.length) : T.getD i [] ∈ T := by
  rw [List.getD_eq_getElem?_getD, List.getElem?_eq_getElem h]; exact List.getElem_mem h
theorem cnt_mono {n n' : Nat} {p q : Nat → Bool} (hn : n ≤ n') (h : ∀ i, i < n → p i = true → q i = true) : cnt n p ≤ cnt n' q := by
  unfold cnt
  refine Nat.le_trans (List.countP_mono_left fun i hi hp => h i (List.mem_range.1 hi) hp) (List.Sublist.countP_le (List.range_sublist.2 hn))
theorem left_wrong {t : Table} (hV : Valid t) {s : List Int} (hS : Small t s) : askE t = 0 ↔ (s.length : Int) ≤ t.wrong := by
  have hw := hV.women
  constructor
  · intro hE
    obtain ⟨l', hl'⟩ := List.exists_mem_of_ne_nil _ (askE_ne hE)
    obtain ⟨h1, h2⟩ := List.mem_filter.1 hl'
    have h3 := of_decide_eq_true h2
    have hinc : Inc t.women.length 0 (wrongP t l') := inc_of (sel_pairwise _ _) fun x hx => by
      obtain ⟨i, hi, _, e⟩ := mem_wrongP.1 hx
      omega
    have hb := bits_mask (by omega) hinc
    have hp : possibleB t (bits (maskOf t.women.length (wrongP t l'))) = true := by
      rw [hb]
      exact possible_iff.2 ⟨l', h1, rightBut_iff.2 fun i hi hr => mem_wrongP.2 ⟨i, hi, hr, rfl⟩⟩
    have := hS.least _ (maskOf_le _) hp
    rw [hb, Bool.eq_false_iff] at this
    have h4 : ¬ (wrongP t l').length < s.length := fun hlt => this (shorter_iff.2 (.inl hlt))
    omega
  · intro hle
    obtain ⟨l', h1, h2⟩ := possible_iff.1 hS.can
    obtain ⟨k, hk, e⟩ := hS.set
    have hr := rightBut_iff.1 h2
    have hlen : (wrongP t l').length ≤ s.length := by
      rw [← e]
      unfold wrongP bits
      rw [sel_length, sel_length]
      refine cnt_mono (by omega) fun i hi hp => ?_
      have := hr i hi (by simpa using hp)
      rw [← e] at this
      exact (mem_bits.1 this).2
    have hm : l' ∈ ask t := List.mem_filter.2 ⟨h1, decide_eq_true (by omega)⟩
    rw [askE_nil hV, if_neg (fun h => by rw [h] at hm; cases hm)]
theorem left_none {x : Table} {s : List Int} (hS : Small x s) (hp : possibleB x [] = true) : s = [] := by
  have hb : bits 0 = [] := by
    cases e : bits 0 with
    | nil => rfl
    | cons a r =>
      obtain ⟨i, _, h2, _⟩ := mem_sel.1 (show a ∈ bits 0 by rw [e]; exact .head _)
      simp at h2
  have := hS.least 0 (Nat.zero_le _) (by rw [hb]; exact hp)
  rw [hb, Bool.eq_false_iff] at this
  cases s with
  | nil => rfl
  | cons a r => exact absurd (shorter_iff.2 (.inl (by simp))) this
theorem countT_none {t : Table} (hV : Valid t) {l : List Int} (hl : l ∈ allOwners t) (ws : List Nat) : possibleB (countT t l ws) [] = true := by
  have hS := countT_same t l ws
  have h7 : l.length ≤ 7 := by rw [(areOwners_iff.1 (allOwners_are hl)).1]; exact hV.pieces
  refine possible_iff.2 ⟨l, by rw [hS.all]; exact hl, rightBut_iff.2 fun i hi hr => ?_⟩
  rw [hS.women] at hi
  rw [countT_right h7 hi] at hr; cases hr
theorem who_mem {x : Table} {l : List Int} (hl : l ∈ ask x) {k : Nat} (hk : k < x.pieces.length) : l.getD k 0 ∈ whoP x k := by
  rw [whoP_eq hk]
  have hla := areOwners_iff.1 (ask_are hl)
  obtain ⟨w, hw1, hw2, e1⟩ := mem_sel.1 (hla.2 k (by rw [hla.1]; exact hk))
  exact mem_sel.2 ⟨w, hw1, whoseIn_iff.2 ⟨l, hl, e1⟩, e1⟩
theorem miss_case {x : Table} {l : List Int} (hl : l ∈ ask x) (k : Nat) : missV x k = 1 ∧ doesMiss x l k = true ∨ missV x k = 2 ∧ doesMiss x l k = false ∨ missV x k = 3 := by
  have h0 : ask x ≠ [] := fun e => by rw [e] at hl; cases hl
  rw [missV_eq k h0]
  unfold misses
  split
  · rename_i h; exact .inl ⟨rfl, missing_all.1 h l hl⟩
  · split
    · rename_i h; exact .inr (.inl ⟨rfl, missing_none.1 h l hl⟩)
    · exact .inr (.inr rfl)
/-- BundleTruth -/
theorem bundleTruth_any {h : Mem} {v wsv : Value} {t : Table} {ws : List Nat} {n : Nat} (hv : IsTable h v t) (hn : n < 65536) (hw : IsU16s h wsv ws) : FnV Try.prog 17 #[v, .int .u16 n, wsv] h (.bool true) := by
  have hv' := hv
  obtain ⟨wv, pv, f, rfl, hW, hP, hM⟩ := hv
  refine FnR.val ?_
  refine FnR.of_W (n := 211) Try.func17 rfl rfl (Nat.le_of_ble_eq_true rfl) fun c hr hD hF => ?_
  refine W.seq ?_
  refine W.region ?_
  refine WL.box rfl rfl rfl rfl (fun b3 => ?_)
  refine WL.val (OpVal.opv rfl) rfl rfl rfl ?_
  refine WL.nil ?_
  refine Kseq.go (W.seq (W.seq ?_))
  refine W.freezeBox (.head _) (fun b hb => (hF b hb).elim) fun m1 h1 => ?_
  skip
  refine W.region ?_
  refine WL.val (OpVal.loadPW rfl (by assumption) (by repeat (first | exact .head _ | refine .tail _ ?_)) (by rfl)) rfl rfl rfl ?_
  refine WL.val (OpVal.call rfl (fun m hm => ready_any (hv'.le (by repeat (first | exact hm.1 | replace hm := hm.2))))) rfl rfl rfl ?_
  refine WL.val (OpVal.opv rfl) rfl rfl rfl ?_
  refine WL.nil ?_
  refine Kseq.go ?_
  refine W.cond rfl rfl (fun he => ?_) (fun hne => ?_)
  · refine W.seq ?_
    refine W.region ?_
    refine WL.val (OpVal.call rfl (fun m hm => awake_any)) rfl rfl rfl ?_
    refine WL.val (OpVal.opv rfl) rfl rfl rfl ?_
    refine WL.nil ?_
    refine Kseq.go ?_
    refine W.ret ?_; refine Kseq.ret ?_; refine ⟨.inl rfl, [_], h, ⟨.tmp rfl, trivial⟩, (by repeat (first | exact .head _ | refine .tail _ ?_)), ?_⟩
    rfl
  obtain ⟨hTh, hVa⟩ := readyB_iff.1 (by simpa using hne)
  have hs : Sm t := ThinB.sm hTh
  have hs1 := hs.1
  have hs2 := hs.2.1
  have hw5 := hVa.women
  have hp7 := hVa.pieces
  have hmo := allOwners_many hVa.many
  obtain ⟨o1, ho1⟩ := owners_some hVa
  have hmp : 0 < (allOwners t).length := List.length_pos_of_mem ho1
  have hltn : n % (many t).toNat < (allOwners t).length := by rw [hmo.1]; exact Nat.mod_lt _ (by omega)
  have hlm : nth t (n % (many t).toNat) ∈ allOwners t := by rw [← allOwners_nth hVa.owned hltn]; exact ask_getD hltn
  have hl7 : (nth t (n % (many t).toNat)).length ≤ 7 := by rw [(areOwners_iff.1 (allOwners_are hlm)).1]; exact hp7
  have hVx := countT_valid hVa hl7 ws
  have hSx := countT_same t (nth t (n % (many t).toNat)) ws
  have hlx := countT_ask hVa hlm ws
  have hnx := countT_none hVa hlm ws
  have hpx : (countT t (nth t (n % (many t).toNat)) ws).pieces = t.pieces := rfl
  refine W.skip (Kseq.go (W.seq ?_))
  skip
  refine W.region ?_
  refine WL.val (OpVal.loadPW rfl (by assumption) (by repeat (first | exact .head _ | refine .tail _ ?_)) (by rfl)) rfl rfl rfl ?_
  refine WL.val (OpVal.opv rfl) rfl rfl rfl ?_
  refine WL.val (OpVal.opv rfl) rfl rfl rfl ?_
  refine WL.abs (OpAbs.call rfl (fun m hm => counted_any (hv'.le (by repeat (first | exact hm.1 | replace hm := hm.2))) hs hVa (hw.le (by repeat (first | exact hm.1 | replace hm := hm.2))) hn)) rfl rfl rfl ?_
  rintro m35 _ ⟨xv, lv, rfl, hx, hl⟩
  generalize nth t (n % (many t).toNat) = l at *
  generalize countT t l ws = x at *
  have hx' := hx
  obtain ⟨xw, xp, xf, rfl, hxW, hxP, hxM⟩ := hx
  obtain ⟨xa, xc, rfl⟩ := IsArr.form hxW
  obtain ⟨ya, yc, rfl⟩ := IsArr.form hxP
  refine WL.val (OpVal.opv rfl) rfl rfl rfl ?_
  refine WL.val (OpVal.opv rfl) rfl rfl rfl ?_
  refine WL.val (OpVal.opv rfl) rfl rfl rfl ?_
  refine WL.alloc rfl rfl rfl (fun b7 => ?_)
  refine WL.store [_, _, _] rfl (.head _) rfl rfl rfl (Nat.le_of_ble_eq_true rfl) (by first | (simp [Value.cells, Value.oneCell']; done) | exact IsArr.ones hW (by omega) | exact IsArr.ones hP (by omega)) rfl ?_
  refine WL.val (OpVal.opv rfl) rfl rfl rfl ?_
  refine WL.nil ?_
  refine Kseq.go (W.seq ?_)
  have hsx : Sm x := ⟨by rw [hSx.women]; exact hs1, by rw [hpx]; exact hs2, fun i hi => by rw [hpx] at hi ⊢; exact hs.2.2 i hi⟩
  have h0x : ask x ≠ [] := fun e => by rw [e] at hlx; cases hlx
  have hEx : askE x = 0 := by rw [askE_nil hVx, if_neg h0x]
  have hfx := fault_zero.2 hVx
  have hf0 := fault_zero.2 hVa
  have hax := ask_are hlx
  have htx := (List.mem_filter.1 hlx).2
  have hEp : playE x l = 0 := by unfold playE; rw [if_pos hfx, if_pos hax]
  have hll : l.length = t.pieces.length := by rw [ask_lens hlx, hpx]
  obtain ⟨s, hse, _, hSs⟩ := left_small hVa
  obtain ⟨s', hse', _, hSs'⟩ := left_small hVx
  cases left_none hSs' hnx
  have hiff := left_wrong hVa hSs
  have hlo := (le_loA (g := aN x) (c := loQ (aN x) (ask x) (ask x).length) h0x).1 (Int.le_refl _) l hlx
  have hhi := (hiA_le (g := aN x) (c := hiQ (aN x) (ask x) (ask x).length) h0x).1 (Int.le_refl _) l hlx
  obtain ⟨lo1, hlo1⟩ : ∃ z, loQ (aN x) (ask x) (ask x).length = z := ⟨_, rfl⟩
  obtain ⟨hi1, hhi1⟩ : ∃ z, hiQ (aN x) (ask x) (ask x).length = z := ⟨_, rfl⟩
  rw [hlo1] at hlo
  rw [hhi1] at hhi
  skip
  refine W.region ?_
  refine WL.val (OpVal.loadBW rfl (.head _) rfl) rfl rfl rfl ?_
  refine WL.abs (OpAbs.call rfl (fun m hm => table_any (hx'.le (by repeat (first | exact hm.1 | replace hm := hm.2))) hsx)) rfl rfl rfl ?_
  rintro m40 v40 h40
  refine WL.abs (OpAbs.call rfl (fun m hm => whoseT_any (h40.le (by repeat (first | exact hm.1 | replace hm := hm.2))) hsx)) rfl rfl rfl ?_
  rintro m41 _ ⟨xv, rfl, hxv⟩
  rw [if_pos hEx] at hxv
  obtain ⟨vs, hvs, hX⟩ := hxv
  rw [whoTo_len, hpx] at hX
  refine WL.val (OpVal.opv rfl) rfl rfl rfl ?_
  refine WL.val (OpVal.opv rfl) rfl rfl rfl ?_
  refine WL.val (OpVal.opv rfl) rfl rfl rfl ?_
  refine WL.val (OpVal.opv rfl) rfl rfl rfl ?_
  refine WL.val (OpVal.opv rfl) rfl rfl rfl ?_
  refine WL.nil ?_
  refine Kseq.go (W.seq ?_)
  skip
  refine W.region ?_
  refine WL.val (OpVal.loadBW rfl (.head _) rfl) rfl rfl rfl ?_
  refine WL.abs (OpAbs.call rfl (fun m hm => table_any (hx'.le (by repeat (first | exact hm.1 | replace hm := hm.2))) hsx)) rfl rfl rfl ?_
  rintro m46 v46 h46
  refine WL.val (OpVal.call rfl (fun m hm => astrayT_at (h46.le (by repeat (first | exact hm.1 | replace hm := hm.2))) hsx hEx hlo1 hhi1)) rfl rfl rfl ?_
  refine WL.val (OpVal.opv rfl) rfl rfl rfl ?_
  refine WL.val (OpVal.opv rfl) rfl rfl rfl ?_
  refine WL.val (OpVal.opv rfl) rfl rfl rfl ?_
  refine WL.alloc rfl rfl rfl (fun b11 => ?_)
  refine WL.store [_, _] rfl (.head _) rfl rfl rfl (Nat.le_of_ble_eq_true rfl) (by first | (simp [Value.cells, Value.oneCell']; done) | exact IsArr.ones hW (by omega) | exact IsArr.ones hP (by omega)) rfl ?_
  refine WL.val (OpVal.opv rfl) rfl rfl rfl ?_
  refine WL.nil ?_
  refine Kseq.go (W.seq ?_)
  skip
  refine W.region ?_
  refine WL.val (OpVal.loadBW rfl (.tail _ (.head _)) rfl) rfl rfl rfl ?_
  refine WL.abs (OpAbs.call rfl (fun m hm => table_any (hx'.le (by repeat (first | exact hm.1 | replace hm := hm.2))) hsx)) rfl rfl rfl ?_
  rintro m52 v52 h52
  refine WL.abs (OpAbs.call rfl (fun m hm => missesT_any (h52.le (by repeat (first | exact hm.1 | replace hm := hm.2))) hsx)) rfl rfl rfl ?_
  rintro m53 _ ⟨mv, rfl, hmv⟩
  rw [if_pos hEx] at hmv
  have hML : IsArr m53 1 mv t.women.length (fun i _ => .int .i64 ((missTo x x.women.length).getD i 0)) := by
    have hwl : (missTo x x.women.length).length = t.women.length := by simp [missTo]; exact hSx.women
    unfold IsInts at hmv; rwa [hwl] at hmv
  refine WL.val (OpVal.opv rfl) rfl rfl rfl ?_
  refine WL.val (OpVal.opv rfl) rfl rfl rfl ?_
  refine WL.val (OpVal.opv rfl) rfl rfl rfl ?_
  refine WL.val (OpVal.opv rfl) rfl rfl rfl ?_
  refine WL.val (OpVal.opv rfl) rfl rfl rfl ?_
  refine WL.nil ?_
  refine Kseq.go (W.seq ?_)
  skip
  refine W.region ?_
  refine WL.val (OpVal.loadBW rfl (.tail _ (.head _)) rfl) rfl rfl rfl ?_
  refine WL.abs (OpAbs.call rfl (fun m hm => table_any (hx'.le (by repeat (first | exact hm.1 | replace hm := hm.2))) hsx)) rfl rfl rfl ?_
  rintro m58 v58 h58
  refine WL.abs (OpAbs.call rfl (fun m hm => leaveT_any (h58.le (by repeat (first | exact hm.1 | replace hm := hm.2))) hsx)) rfl rfl rfl ?_
  rintro m59 _ ⟨nv, rfl, _, hnv⟩
  have hnI := hnv hfx [] hse'
  refine WL.val (OpVal.opv rfl) rfl rfl rfl ?_
  refine WL.val (OpVal.opv rfl) rfl rfl rfl ?_
  refine WL.val (OpVal.opv rfl) rfl rfl rfl ?_
  refine WL.val (OpVal.opv rfl) rfl rfl rfl ?_
  refine WL.val (OpVal.opv rfl) rfl rfl rfl ?_
  refine WL.nil ?_
  refine Kseq.go (W.seq ?_)
  skip
  refine W.region ?_
  refine WL.val (OpVal.loadPW rfl (by assumption) (by repeat (first | exact .head _ | refine .tail _ ?_)) (by rfl)) rfl rfl rfl ?_
  refine WL.abs (OpAbs.call rfl (fun m hm => table_any (hv'.le (by repeat (first | exact hm.1 | replace hm := hm.2))) hs)) rfl rfl rfl ?_
  rintro m64 v64 h64
  refine WL.abs (OpAbs.call rfl (fun m hm => leaveT_any (h64.le (by repeat (first | exact hm.1 | replace hm := hm.2))) hs)) rfl rfl rfl ?_
  rintro m65 _ ⟨sv, rfl, _, hsv⟩
  have hsI := hsv hf0 s hse
  refine WL.val (OpVal.opv rfl) rfl rfl rfl ?_
  refine WL.val (OpVal.opv rfl) rfl rfl rfl ?_
  refine WL.val (OpVal.opv rfl) rfl rfl rfl ?_
  refine WL.val (OpVal.opv rfl) rfl rfl rfl ?_
  refine WL.val (OpVal.opv rfl) rfl rfl rfl ?_
  refine WL.nil ?_
  refine Kseq.go (W.seq ?_)
  skip
  refine W.region ?_
  refine WL.val (OpVal.loadPW rfl (by assumption) (by repeat (first | exact .head _ | refine .tail _ ?_)) (by rfl)) rfl rfl rfl ?_
  refine WL.abs (OpAbs.call rfl (fun m hm => table_any (hv'.le (by repeat (first | exact hm.1 | replace hm := hm.2))) hs)) rfl rfl rfl ?_
  rintro m70 v70 h70
  refine WL.abs (OpAbs.call rfl (fun m hm => whoseT_any (h70.le (by repeat (first | exact hm.1 | replace hm := hm.2))) hs)) rfl rfl rfl ?_
  rintro m71 _ ⟨zv, rfl, _⟩
  refine WL.val (OpVal.opv rfl) rfl rfl rfl ?_
  refine WL.val (OpVal.opv rfl) rfl rfl rfl ?_
  refine WL.val (OpVal.opv rfl) rfl rfl rfl ?_
  refine WL.val (OpVal.opv rfl) rfl rfl rfl ?_
  refine WL.val (OpVal.opv rfl) rfl rfl rfl ?_
  refine WL.nil ?_
  refine Kseq.go (W.seq ?_)
  skip
  refine W.region ?_
  refine WL.val (OpVal.loadBW rfl (.tail _ (.head _)) rfl) rfl rfl rfl ?_
  refine WL.abs (OpAbs.call rfl (fun m hm => table_any (hx'.le (by repeat (first | exact hm.1 | replace hm := hm.2))) hsx)) rfl rfl rfl ?_
  rintro m76 v76 h76
  refine WL.val (OpVal.opv rfl) rfl rfl rfl ?_
  refine WL.abs (OpAbs.call rfl (fun m hm => list_any (hl.le (by repeat (first | exact hm.1 | replace hm := hm.2))) (by omega))) rfl rfl rfl ?_
  rintro m78 v78 h78
  refine WL.abs (OpAbs.call rfl (fun m hm => playT_any (h76.le (by repeat (first | exact hm.1 | replace hm := hm.2))) hsx (h78.le (by repeat (first | exact hm.1 | replace hm := hm.2))))) rfl rfl rfl ?_
  rintro m79 _ ⟨pa1, pb1, rfl, _, hpb⟩
  rw [if_pos hEp] at hpb
  refine WL.val (OpVal.opv rfl) rfl rfl rfl ?_
  refine WL.val (OpVal.opv rfl) rfl rfl rfl ?_
  refine WL.val (OpVal.opv rfl) rfl rfl rfl ?_
  refine WL.val (OpVal.opv rfl) rfl rfl rfl ?_
  refine WL.val (OpVal.opv rfl) rfl rfl rfl ?_
  refine WL.val (OpVal.opv rfl) rfl rfl rfl ?_
  refine WL.val (OpVal.opv rfl) rfl rfl rfl ?_
  refine WL.nil ?_
  refine Kseq.go (W.seq (W.seq ?_))
  rw [hEx, hEp, hfx, hf0]
  skip
  refine W.region ?_
  refine WL.val (OpVal.opv rfl) rfl rfl rfl ?_
  refine WL.val (OpVal.neqF rfl rfl) rfl rfl rfl ?_
  refine WL.val (OpVal.opv rfl) rfl rfl rfl ?_
  refine WL.val (OpVal.opv rfl) rfl rfl rfl ?_
  refine WL.val (OpVal.len rfl hX) rfl rfl rfl ?_
  refine WL.val (OpVal.opv rfl) rfl rfl rfl ?_
  refine WL.val (OpVal.cast (OpVal.len rfl hl) (congrArg (fun x : Nat => vi (x : Int)) hll)) rfl rfl rfl ?_
  refine WL.val (OpVal.neqF rfl rfl) rfl rfl rfl ?_
  refine WL.val (OpVal.opv rfl) rfl rfl rfl ?_
  refine WL.val (OpVal.opv rfl) rfl rfl rfl ?_
  refine WL.val (OpVal.opv rfl) rfl rfl rfl ?_
  refine WL.val (OpVal.neqF rfl rfl) rfl rfl rfl ?_
  refine WL.val (OpVal.opv rfl) rfl rfl rfl ?_
  refine WL.val (OpVal.opv rfl) rfl rfl rfl ?_
  refine WL.val (OpVal.opv rfl) rfl rfl rfl ?_
  refine WL.val (OpVal.neqF rfl rfl) rfl rfl rfl ?_
  refine WL.val (OpVal.opv rfl) rfl rfl rfl ?_
  refine WL.val (OpVal.opv rfl) rfl rfl rfl ?_
  refine WL.val (OpVal.opv rfl) rfl rfl rfl ?_
  refine WL.val (OpVal.len rfl hML) rfl rfl rfl ?_
  refine WL.val (OpVal.fieldAddrB rfl) rfl rfl rfl ?_
  refine WL.val (OpVal.loadP rfl (by assumption) (by repeat (first | exact .head _ | refine .tail _ ?_)) rfl) rfl rfl rfl ?_
  refine WL.val (OpVal.len rfl hW) rfl rfl rfl ?_
  refine WL.val (OpVal.neqF rfl rfl) rfl rfl rfl ?_
  refine WL.val (OpVal.opv rfl) rfl rfl rfl ?_
  refine WL.val (OpVal.opv rfl) rfl rfl rfl ?_
  refine WL.val (OpVal.opv rfl) rfl rfl rfl ?_
  refine WL.val (OpVal.neqF rfl rfl) rfl rfl rfl ?_
  refine WL.val (OpVal.opv rfl) rfl rfl rfl ?_
  refine WL.val (OpVal.opv rfl) rfl rfl rfl ?_
  refine WL.val (OpVal.opv rfl) rfl rfl rfl ?_
  refine WL.val (OpVal.cast (OpVal.len rfl hnI) (show vi ((([] : List Int).length : Nat) : Int) = vi 0 from rfl)) rfl rfl rfl ?_
  refine WL.val (OpVal.neqF rfl rfl) rfl rfl rfl ?_
  refine WL.val (OpVal.opv rfl) rfl rfl rfl ?_
  refine WL.val (OpVal.opv rfl) rfl rfl rfl ?_
  refine WL.val (OpVal.opv rfl) rfl rfl rfl ?_
  refine WL.val (OpVal.neqF rfl rfl) rfl rfl rfl ?_
  refine WL.val (OpVal.opv rfl) rfl rfl rfl ?_
  refine WL.val (OpVal.opv rfl) rfl rfl rfl ?_
  refine WL.val (OpVal.opv rfl) rfl rfl rfl ?_
  refine WL.val (OpVal.opv rfl) rfl rfl rfl ?_
  refine WL.val (OpVal.opv rfl) rfl rfl rfl ?_
  refine WL.val (OpVal.len rfl hsI) rfl rfl rfl ?_
  refine WL.val (OpVal.fieldAddrB rfl) rfl rfl rfl ?_
  refine WL.val (OpVal.loadP rfl (by assumption) (by repeat (first | exact .head _ | refine .tail _ ?_)) rfl) rfl rfl rfl ?_
  refine WL.val (OpVal.opv rfl) rfl rfl rfl ?_
  refine WL.val (OpVal.cast (OpVal.neqB (p := decide (askE t = 0)) (q := decide ((s.length : Int) ≤ t.wrong)) rfl rfl) (congrArg (fun b => Value.bool (!b)) (decide_eq_true (decide_eq_decide.2 hiff)))) rfl rfl rfl ?_
  refine WL.val (OpVal.opv rfl) rfl rfl rfl ?_
  refine WL.val (OpVal.opv rfl) rfl rfl rfl ?_
  refine WL.val (OpVal.opv rfl) rfl rfl rfl ?_
  refine WL.val (OpVal.neqF rfl rfl) rfl rfl rfl ?_
  refine WL.val (OpVal.opv rfl) rfl rfl rfl ?_
  refine WL.val (OpVal.opv rfl) rfl rfl rfl ?_
  refine WL.val (OpVal.opv rfl) rfl rfl rfl ?_
  refine WL.val (OpVal.len rfl hpb) rfl rfl rfl ?_
  refine WL.val (OpVal.fieldAddrB rfl) rfl rfl rfl ?_
  refine WL.val (OpVal.loadB rfl (.head _) rfl) rfl rfl rfl ?_
  refine WL.val (OpVal.cast (OpVal.opv rfl) (congrArg Value.bool (decide_eq_false (by simp only [aN] at hlo; omega)))) rfl rfl rfl ?_
  refine WL.val (OpVal.opv rfl) rfl rfl rfl ?_
  refine WL.val (OpVal.opv rfl) rfl rfl rfl ?_
  refine WL.val (OpVal.opv rfl) rfl rfl rfl ?_
  refine WL.val (OpVal.len rfl hpb) rfl rfl rfl ?_
  refine WL.val (OpVal.fieldAddrB rfl) rfl rfl rfl ?_
  refine WL.val (OpVal.loadB rfl (.head _) rfl) rfl rfl rfl ?_
  refine WL.val (OpVal.cast (OpVal.opv rfl) (congrArg Value.bool (decide_eq_false (by simp only [aN] at hhi; omega)))) rfl rfl rfl ?_
  refine WL.val (OpVal.opv rfl) rfl rfl rfl ?_
  refine WL.val (OpVal.opv rfl) rfl rfl rfl ?_
  refine WL.val (OpVal.loadBW rfl (.tail _ (.head _)) rfl) rfl rfl rfl ?_
  refine WL.abs (OpAbs.call rfl (fun m hm => table_any (hx'.le (by repeat (first | exact hm.1 | replace hm := hm.2))) hsx)) rfl rfl rfl ?_
  rintro m151 v151 h151
  refine WL.val (OpVal.opv rfl) rfl rfl rfl ?_
  refine WL.abs (OpAbs.call rfl (fun m hm => list_any (hl.le (by repeat (first | exact hm.1 | replace hm := hm.2))) (by omega))) rfl rfl rfl ?_
  rintro m153 v153 h153
  refine WL.val (OpVal.cast (OpVal.call rfl (fun m hm => proveT_any (h151.le (by repeat (first | exact hm.1 | replace hm := hm.2))) hsx (h153.le (by repeat (first | exact hm.1 | replace hm := hm.2))))) (congrArg Value.bool (show (decide (fault x = 0) && (areOwners x l && isTruthP x l)) = true by rw [hfx, hax, htx]; rfl))) rfl rfl rfl ?_
  refine WL.val (OpVal.opv rfl) rfl rfl rfl ?_
  refine WL.val (OpVal.opv rfl) rfl rfl rfl ?_
  refine WL.nil ?_
  refine Kseq.go ?_
  refine W.cond rfl rfl (fun he => absurd he (by simp)) (fun _ => ?_)
  refine W.skip (Kseq.go (W.seq (W.seq ?_)))
  skip
  refine W.region ?_
  refine WL.val (OpVal.opv rfl) rfl rfl rfl ?_
  refine WL.nil ?_
  refine Kseq.go (W.block ?_)
  refine W.loopC (σ := Nat) (fun k => [(7, .pointer (some ⟨b7, 0, none⟩)), (8, lv), (9, xv), (13, mv), (24, .int .i64 (k : Int))]) (fun k => k ≤ t.pieces.length) (fun k => t.pieces.length - k) 0 ⟨rfl, rfl, rfl, rfl, rfl, trivial⟩ (Nat.zero_le _) ?_
  intro k hk
  refine W.seq (W.seq ?_)
  refine W.region ?_
  refine WL.val (OpVal.opv rfl) rfl rfl rfl ?_
  refine WL.val (OpVal.opv rfl) rfl rfl rfl ?_
  refine WL.val (OpVal.len rfl hX) rfl rfl rfl ?_
  refine WL.val (OpVal.opv rfl) rfl rfl rfl ?_
  refine WL.nil ?_
  refine Kseq.go ?_
  refine W.condD rfl rfl (fun hlt => ?_) (fun hge => ?_)
  · have hkp : k < t.pieces.length := by omega
    have hkx : k < x.pieces.length := by rw [hpx]; exact hkp
    have hwk : IsInts m41 (vs.getD k undef) (whoP x k) := by
      have := hvs.2 k (by rw [whoTo_len]; exact hkx)
      rwa [whoTo_get hkx] at this
    refine W.skip (Kseq.go (W.seq (W.block (W.seq ?_))))
    refine W.draw 8 (by kernel_rfl) (by kernel_rfl) (by kernel_rfl) rfl ?_
    refine DJ.val [] (OpVal.opv rfl) rfl rfl rfl rfl ?_
    refine DJ.val [] (OpVal.opv rfl) rfl rfl rfl rfl ?_
    refine DJ.val [] (OpVal.indexAddrN rfl rfl hX hkp) rfl rfl rfl rfl ?_
    refine DJ.val [] (OpVal.loadE rfl hX (by repeat (first | exact .head _ | refine .tail _ ?_)) hkp (by omega)) rfl rfl rfl rfl ?_
    refine DJ.val [] (OpVal.opv rfl) rfl rfl rfl rfl ?_
    refine DJ.val [] (OpVal.opv rfl) rfl rfl rfl rfl ?_
    refine DJ.val [] (OpVal.indexAddrN rfl rfl hl (by omega)) rfl rfl rfl rfl ?_
    refine DJ.val [] (OpVal.loadE rfl hl (by repeat (first | exact .head _ | refine .tail _ ?_)) (by omega) (by omega)) rfl rfl rfl rfl ?_
    refine DJ.nil ?_
    refine WL.val (OpVal.cast (OpVal.call rfl (fun m hm => has_any _ (hwk.le (by repeat (first | exact hm.1 | replace hm := hm.2))))) (congrArg Value.bool (decide_eq_true (who_mem hlx hkx)))) rfl rfl rfl ?_
    refine WL.val (OpVal.opv rfl) rfl rfl rfl ?_
    refine WL.nil ?_
    refine Kseq.go ?_
    refine W.condF rfl rfl ?_
    refine W.skip (Kblock.normal (Kseq.go ?_))
    refine W.region ?_
    refine WL.val (OpVal.opv rfl) rfl rfl rfl ?_
    refine WL.val (OpVal.incr rfl (by omega)) rfl rfl rfl ?_
    refine WL.val (OpVal.opv rfl) rfl rfl rfl ?_
    refine WL.nil ?_
    skip
    exact Kloop.nextC (k + 1) (by omega) (by omega) ⟨rfl, rfl, rfl, rfl, rfl, trivial⟩ (by simp) (by repeat (first | exact List.Sublist.refl _ | refine List.Sublist.cons _ ?_ | refine List.Sublist.cons_cons _ ?_))
  refine W.exit (Kseq.exit (Kloop.exit (Kblock.here (Kseq.go (W.seq (W.seq ?_))))))
  skip
  refine W.region ?_
  refine WL.val (OpVal.opv rfl) rfl rfl rfl ?_
  refine WL.nil ?_
  refine Kseq.go (W.block ?_)
  refine W.loopC (σ := Nat) (fun k => [(7, .pointer (some ⟨b7, 0, none⟩)), (8, lv), (13, mv), (25, .int .i64 (k : Int))]) (fun k => k ≤ t.women.length) (fun k => t.women.length - k) 0 ⟨rfl, rfl, rfl, rfl, trivial⟩ (Nat.zero_le _) ?_
  intro k hk
  refine W.seq (W.seq ?_)
  refine W.region ?_
  refine WL.val (OpVal.opv rfl) rfl rfl rfl ?_
  refine WL.val (OpVal.opv rfl) rfl rfl rfl ?_
  refine WL.val (OpVal.len rfl hML) rfl rfl rfl ?_
  refine WL.val (OpVal.opv rfl) rfl rfl rfl ?_
  refine WL.nil ?_
  refine Kseq.go ?_
  refine W.condD rfl rfl (fun hlt => ?_) (fun hge => ?_)
  · have hkw : k < t.women.length := by omega
    have hg : (missTo x x.women.length).getD k 0 = missV x k := missTo_get (by rw [hSx.women]; exact hkw)
    refine W.skip (Kseq.go (W.seq (W.block (W.seq ?_))))
    refine W.region ?_
    refine WL.val (OpVal.loadBW rfl (.tail _ (.head _)) rfl) rfl rfl rfl ?_
    refine WL.val (OpVal.opv rfl) rfl rfl rfl ?_
    refine WL.val (OpVal.opv rfl) rfl rfl rfl ?_
    refine WL.val (OpVal.call rfl (fun m hm => doesMiss_any _ (hx'.le (by repeat (first | exact hm.1 | replace hm := hm.2))) (hl.le (by repeat (first | exact hm.1 | replace hm := hm.2))) (by rw [hpx]; omega))) rfl rfl rfl ?_
    refine WL.val (OpVal.opv rfl) rfl rfl rfl ?_
    refine WL.nil ?_
    refine Kseq.go (W.seq ?_)
    rcases miss_case hlx k with ⟨e1, e2⟩ | ⟨e1, e2⟩ | e1
    · rw [e2]
      skip
      refine W.region ?_
      refine WL.val (OpVal.opv rfl) rfl rfl rfl ?_
      refine WL.val (OpVal.opv rfl) rfl rfl rfl ?_
      refine WL.val (OpVal.indexAddrN rfl rfl hML hkw) rfl rfl rfl ?_
      refine WL.val (OpVal.cast (OpVal.loadE rfl hML (by repeat (first | exact .head _ | refine .tail _ ?_)) hkw (by omega)) (congrArg (Value.int .i64) (hg.trans e1))) rfl rfl rfl ?_
      refine WL.val (OpVal.cast (OpVal.call rfl (fun m hm => in_any _ _ _)) (congrArg Value.bool (decide_eq_true (by decide)))) rfl rfl rfl ?_
      refine WL.val (OpVal.opv rfl) rfl rfl rfl ?_
      refine WL.val (OpVal.opv rfl) rfl rfl rfl ?_
      refine WL.val (OpVal.opv rfl) rfl rfl rfl ?_
      refine WL.val (OpVal.opv rfl) rfl rfl rfl ?_
      refine WL.val (OpVal.indexAddrN rfl rfl hML hkw) rfl rfl rfl ?_
      refine WL.val (OpVal.cast (OpVal.loadE rfl hML (by repeat (first | exact .head _ | refine .tail _ ?_)) hkw (by omega)) (congrArg (Value.int .i64) (hg.trans e1))) rfl rfl rfl ?_
      refine WL.val (OpVal.eqT rfl rfl) rfl rfl rfl ?_
      refine WL.val (OpVal.opv rfl) rfl rfl rfl ?_
      refine WL.val (OpVal.opv rfl) rfl rfl rfl ?_
      refine WL.val (OpVal.opv rfl) rfl rfl rfl ?_
      refine WL.val (OpVal.opv rfl) rfl rfl rfl ?_
      refine WL.val (OpVal.opv rfl) rfl rfl rfl ?_
      refine WL.val (OpVal.opv rfl) rfl rfl rfl ?_
      refine WL.val (OpVal.opv rfl) rfl rfl rfl ?_
      refine WL.val (OpVal.opv rfl) rfl rfl rfl ?_
      refine WL.val (OpVal.indexAddrN rfl rfl hML hkw) rfl rfl rfl ?_
      refine WL.val (OpVal.cast (OpVal.loadE rfl hML (by repeat (first | exact .head _ | refine .tail _ ?_)) hkw (by omega)) (congrArg (Value.int .i64) (hg.trans e1))) rfl rfl rfl ?_
      refine WL.val (OpVal.eqF rfl rfl (by decide)) rfl rfl rfl ?_
      refine WL.val (OpVal.opv rfl) rfl rfl rfl ?_
      refine WL.pass rfl rfl rfl ?_
      refine WL.val (OpVal.opv rfl) rfl rfl rfl ?_
      refine WL.val (OpVal.opv rfl) rfl rfl rfl ?_
      refine WL.nil ?_
      refine Kseq.go ?_
      refine W.condF rfl rfl ?_
      refine W.skip (Kblock.normal (Kseq.go ?_))
      refine W.region ?_
      refine WL.val (OpVal.opv rfl) rfl rfl rfl ?_
      refine WL.val (OpVal.incr rfl (by omega)) rfl rfl rfl ?_
      refine WL.val (OpVal.opv rfl) rfl rfl rfl ?_
      refine WL.nil ?_
      skip
      exact Kloop.nextC (k + 1) (by omega) (by omega) ⟨rfl, rfl, rfl, rfl, trivial⟩ (by simp) (by repeat (first | exact List.Sublist.refl _ | refine List.Sublist.cons _ ?_ | refine List.Sublist.cons_cons _ ?_))
    · rw [e2]
      skip
      refine W.region ?_
      refine WL.val (OpVal.opv rfl) rfl rfl rfl ?_
      refine WL.val (OpVal.opv rfl) rfl rfl rfl ?_
      refine WL.val (OpVal.indexAddrN rfl rfl hML hkw) rfl rfl rfl ?_
      refine WL.val (OpVal.cast (OpVal.loadE rfl hML (by repeat (first | exact .head _ | refine .tail _ ?_)) hkw (by omega)) (congrArg (Value.int .i64) (hg.trans e1))) rfl rfl rfl ?_
      refine WL.val (OpVal.cast (OpVal.call rfl (fun m hm => in_any _ _ _)) (congrArg Value.bool (decide_eq_true (by decide)))) rfl rfl rfl ?_
      refine WL.val (OpVal.opv rfl) rfl rfl rfl ?_
      refine WL.val (OpVal.opv rfl) rfl rfl rfl ?_
      refine WL.val (OpVal.opv rfl) rfl rfl rfl ?_
      refine WL.val (OpVal.opv rfl) rfl rfl rfl ?_
      refine WL.val (OpVal.indexAddrN rfl rfl hML hkw) rfl rfl rfl ?_
      refine WL.val (OpVal.cast (OpVal.loadE rfl hML (by repeat (first | exact .head _ | refine .tail _ ?_)) hkw (by omega)) (congrArg (Value.int .i64) (hg.trans e1))) rfl rfl rfl ?_
      refine WL.val (OpVal.eqF rfl rfl (by decide)) rfl rfl rfl ?_
      refine WL.val (OpVal.opv rfl) rfl rfl rfl ?_
      refine WL.pass rfl rfl rfl ?_
      refine WL.pass rfl rfl rfl ?_
      refine WL.val (OpVal.opv rfl) rfl rfl rfl ?_
      refine WL.val (OpVal.opv rfl) rfl rfl rfl ?_
      refine WL.val (OpVal.opv rfl) rfl rfl rfl ?_
      refine WL.val (OpVal.opv rfl) rfl rfl rfl ?_
      refine WL.val (OpVal.opv rfl) rfl rfl rfl ?_
      refine WL.val (OpVal.indexAddrN rfl rfl hML hkw) rfl rfl rfl ?_
      refine WL.val (OpVal.cast (OpVal.loadE rfl hML (by repeat (first | exact .head _ | refine .tail _ ?_)) hkw (by omega)) (congrArg (Value.int .i64) (hg.trans e1))) rfl rfl rfl ?_
      refine WL.val (OpVal.eqT rfl rfl) rfl rfl rfl ?_
      refine WL.val (OpVal.opv rfl) rfl rfl rfl ?_
      refine WL.val (OpVal.opv rfl) rfl rfl rfl ?_
      refine WL.val (OpVal.opv rfl) rfl rfl rfl ?_
      refine WL.val (OpVal.opv rfl) rfl rfl rfl ?_
      refine WL.nil ?_
      refine Kseq.go ?_
      refine W.condF rfl rfl ?_
      refine W.skip (Kblock.normal (Kseq.go ?_))
      refine W.region ?_
      refine WL.val (OpVal.opv rfl) rfl rfl rfl ?_
      refine WL.val (OpVal.incr rfl (by omega)) rfl rfl rfl ?_
      refine WL.val (OpVal.opv rfl) rfl rfl rfl ?_
      refine WL.nil ?_
      skip
      exact Kloop.nextC (k + 1) (by omega) (by omega) ⟨rfl, rfl, rfl, rfl, trivial⟩ (by simp) (by repeat (first | exact List.Sublist.refl _ | refine List.Sublist.cons _ ?_ | refine List.Sublist.cons_cons _ ?_))
    · skip
      refine W.region ?_
      refine WL.val (OpVal.opv rfl) rfl rfl rfl ?_
      refine WL.val (OpVal.opv rfl) rfl rfl rfl ?_
      refine WL.val (OpVal.indexAddrN rfl rfl hML hkw) rfl rfl rfl ?_
      refine WL.val (OpVal.cast (OpVal.loadE rfl hML (by repeat (first | exact .head _ | refine .tail _ ?_)) hkw (by omega)) (congrArg (Value.int .i64) (hg.trans e1))) rfl rfl rfl ?_
      refine WL.val (OpVal.cast (OpVal.call rfl (fun m hm => in_any _ _ _)) (congrArg Value.bool (decide_eq_true (by decide)))) rfl rfl rfl ?_
      refine WL.val (OpVal.opv rfl) rfl rfl rfl ?_
      refine WL.val (OpVal.opv rfl) rfl rfl rfl ?_
      refine WL.val (OpVal.opv rfl) rfl rfl rfl ?_
      refine WL.val (OpVal.opv rfl) rfl rfl rfl ?_
      refine WL.val (OpVal.indexAddrN rfl rfl hML hkw) rfl rfl rfl ?_
      refine WL.val (OpVal.cast (OpVal.loadE rfl hML (by repeat (first | exact .head _ | refine .tail _ ?_)) hkw (by omega)) (congrArg (Value.int .i64) (hg.trans e1))) rfl rfl rfl ?_
      refine WL.val (OpVal.eqF rfl rfl (by decide)) rfl rfl rfl ?_
      refine WL.val (OpVal.opv rfl) rfl rfl rfl ?_
      refine WL.pass rfl rfl rfl ?_
      refine WL.pass rfl rfl rfl ?_
      refine WL.val (OpVal.opv rfl) rfl rfl rfl ?_
      refine WL.val (OpVal.opv rfl) rfl rfl rfl ?_
      refine WL.val (OpVal.opv rfl) rfl rfl rfl ?_
      refine WL.val (OpVal.opv rfl) rfl rfl rfl ?_
      refine WL.val (OpVal.opv rfl) rfl rfl rfl ?_
      refine WL.val (OpVal.indexAddrN rfl rfl hML hkw) rfl rfl rfl ?_
      refine WL.val (OpVal.cast (OpVal.loadE rfl hML (by repeat (first | exact .head _ | refine .tail _ ?_)) hkw (by omega)) (congrArg (Value.int .i64) (hg.trans e1))) rfl rfl rfl ?_
      refine WL.val (OpVal.eqF rfl rfl (by decide)) rfl rfl rfl ?_
      refine WL.val (OpVal.opv rfl) rfl rfl rfl ?_
      refine WL.pass rfl rfl rfl ?_
      refine WL.val (OpVal.opv rfl) rfl rfl rfl ?_
      refine WL.val (OpVal.opv rfl) rfl rfl rfl ?_
      refine WL.nil ?_
      refine Kseq.go ?_
      refine W.condF rfl rfl ?_
      refine W.skip (Kblock.normal (Kseq.go ?_))
      refine W.region ?_
      refine WL.val (OpVal.opv rfl) rfl rfl rfl ?_
      refine WL.val (OpVal.incr rfl (by omega)) rfl rfl rfl ?_
      refine WL.val (OpVal.opv rfl) rfl rfl rfl ?_
      refine WL.nil ?_
      skip
      exact Kloop.nextC (k + 1) (by omega) (by omega) ⟨rfl, rfl, rfl, rfl, trivial⟩ (by simp) (by repeat (first | exact List.Sublist.refl _ | refine List.Sublist.cons _ ?_ | refine List.Sublist.cons_cons _ ?_))
  · refine W.exit (Kseq.exit (Kloop.exit (Kblock.here (Kseq.go (W.seq ?_)))))
    skip
    refine W.region ?_
    refine WL.val (OpVal.call rfl (fun m hm => awake_any)) rfl rfl rfl ?_
    refine WL.val (OpVal.opv rfl) rfl rfl rfl ?_
    refine WL.nil ?_
    refine Kseq.go ?_
    refine W.ret ?_; skip; refine ⟨.inl rfl, [_], h, ⟨.tmp rfl, trivial⟩, (by repeat (first | exact .head _ | refine .tail _ ?_)), ?_⟩
    rfl
end Go.Proofs.Ytgolpbkapphciaa
