/- The program's functions of chapter 6: scene, Play, ProveTruth, First. -/
import Derived.Test.YtdnbkjgbehakpaaT125
import Derived.Test.YtdnbkjgbehakpaaE18
namespace Go.Proofs.Ytdnbkjgbehakpaa
open Go Go.Eng Go.RowKit

section
variable {P : Program} {n : Nat} {c : Cx P n} {K : Post} {l : List (Nat × Value)} {Ms : List Mem} {μ : List Res} {ops : Array Oper} {rest : List Oper} {dst : Option Tmp} {x y : Operand} {t ty : TypeId} {pos : String} {af : Array Edge} {gd : Option (Nat × Bool)}
/-- An element of an array by value. -/
theorem OpVal.indexA {e : TypeId} {L bytes : Nat} {z v : Value} [hu : TU P t (.array L e)] [hl : TL P e false] [hi : TI P e 1 bytes z] {cs : Array Value} {i : Nat} (hx : lk l x = some (.agg cs)) (hy : lk l y = some (vi i)) (hlt : i < L) (hv : cs[i]? = some v) :
    OpVal c ⟨dst, .index t x y, ty, pos, af, gd⟩ l Ms μ v :=
  OpVal.of_runs (by simp) (by simp) fun a w hh => by
    have hp : (part e cs (i * 1)).run P w = .ok v w := part_flat (hl.l w) (by rw [Nat.mul_one]; exact hv)
    have h1 : (0 : Int) ≤ (i : Int) ∧ (i : Int) < (L : Int) := by omega
    simp only [execOp, hh.lk hx, hh.lk hy, Instr.index, asIntOf, Sem.run_bind, Sem.run_pure, Result.andThen_ok, run_underlying hu.u, h1, and_self, if_true, hi.sizeOf, Int.toNat_natCast, hp]
/-- A list of numbers is copied into an array. -/
theorem WL.copyO {e : TypeId} {bytes : Nat} {z : Value} [hu : TU P t (.slice e)] [hi : TI P e 1 bytes z] {d b off L cap : Nat} {T : TypeId} {cs : Array Value} {v2 : Value} {ys : List Int} {m : Mem} {μ' : List Res} (cs' : List Value)
    (hx : lk l x = some (.slice (some ⟨b, off, none⟩) L cap)) (hr : Repl (.blk b cs T) (.blk b cs'.toArray T) μ μ') (hy : lk l y = some v2) (hs : IsInts m v2 ys) (hm : m ∈ Ms) (hle : ys.length ≤ L) (hL : off + L ≤ cs.size)
    (he : cs.toList.take off ++ (ys.map vi ++ cs.toList.drop (off + ys.length)) = cs')
    (hw : want ops l ⟨dst, .call ⟨.builtin .copy, #[x, y], #[t, t]⟩, ty, pos, af, gd⟩ = some true) (hd : dst = some d) (hn : Nat.blt d n = true)
    (h : WL c ops rest K ((d, vi ys.length) :: l) Ms μ') : WL c ops (⟨dst, .call ⟨.builtin .copy, #[x, y], #[t, t]⟩, ty, pos, af, gd⟩ :: rest) K l Ms μ := by
  subst he
  refine WL.step hw fun a w hh => ?_
  obtain ⟨i, hi1, hi2, hi3, hi4⟩ := hi.i
  have hs' := hs
  obtain ⟨a2, cap2, rfl, _, _, _, hcell⟩ := hs
  have hg : w.heap[b]? = some (.cells cs T (0, 0)) := hh.mem.res _ hr.mem
  have hst := run_storeCells_at P b off T (ys.map vi) 0 cs w hg (by simp; omega) (by simp [Value.oneCell'])
  simp only [Nat.add_zero, List.length_map, List.append_assoc] at hst
  have hmin : Nat.min ys.length L = ys.length := Nat.min_eq_left hle
  have hload : 0 < ys.length → ∃ ad, a2 = some ad ∧ (loadCells ad ys.length).run P w = .ok (ys.map vi).toArray w := fun h0 => by
    obtain ⟨b2, off, rfl, hc⟩ := hcell h0
    refine ⟨_, rfl, ?_⟩
    have := run_loadCells_list (P := P) w ⟨b2, off, none⟩ (ys.map vi) (fun j u hju => by
      have hj : j < ys.length := by have := (List.getElem?_eq_some_iff.1 hju).1; simpa using this
      have := hc j 0 hj (by omega)
      dsimp only at this
      rw [addr_add _ rfl]
      have h3 := cellM_sub (hh.mem.sub m hm) this
      rw [List.getElem?_map, List.getElem?_eq_getElem hj] at hju
      rw [List.getD_eq_getElem?_getD, List.getElem?_eq_getElem hj] at h3
      simp only [Nat.mul_one, Nat.add_zero, Option.getD_some] at h3
      simp only [Option.map_some, Option.some.injEq] at hju
      rw [← hju]; exact h3)
    simpa using this
  have hrun : (Builtin.copy_ #[t, t] ty #[.slice (some ⟨b, off, none⟩) L cap, .slice a2 ys.length cap2]).run P w = .ok (vi ys.length) (w.setRow b (cs.toList.take off ++ (ys.map vi ++ cs.toList.drop (off + ys.length))).toArray) := by
    rcases Nat.eq_zero_or_pos ys.length with h0 | h0
    · have hnil : ys = [] := List.length_eq_zero_iff.1 h0
      subst hnil
      have hx := run_copy_none (P := P) w t t ty e (some ⟨b, off, none⟩) a2 L cap 0 cap2 hu.u (by rw [hi1]; simp [hi2]) (by simp)
      have hset : w.setRow b cs.toList.toArray = w := by
        have := run_storeCells_at P b 0 T [] 0 cs w hg (by simp) (by simp)
        simpa [storeCells] using this.symm
      simp only [List.map_nil, List.length_nil, Nat.add_zero, List.nil_append, List.take_append_drop, hset]
      exact hx
    · obtain ⟨ad, rfl, hl⟩ := hload h0
      simp [Builtin.copy_, run_underlying hu.u, Builtin.lenOf, Builtin.firstCells, sizeOf, typeInfo, hi1, hi2, hmin, hl, hst]
      rfl
  refine ⟨fun _ _ => trivial, ?_⟩
  rw [Oper.semAt_eq _ _ _ (by simp)]
  have hr' : (execOp a.eval ⟨dst, .call ⟨.builtin .copy, #[x, y], #[t, t]⟩, ty, pos, af, gd⟩).run P w = .ok (.value (vi ys.length)) (w.setRow b (cs.toList.take off ++ (ys.map vi ++ cs.toList.drop (off + ys.length))).toArray) := by
    simp [execOp, resolve, invoke, builtin, hh.lk hx, hh.lk hy, hrun]
  rw [hr']
  subst hd
  exact h.un _ _ ((Holds.mk hh.size (by rw [hr.marks rfl rfl]; exact hh.defers) hh.slots (hh.mem.turn hr (setRow_heap w b cs _ T _ hg)
    ⟨rfl, rfl, rfl, by simp, fun b' _ hb' => setRow_other w b b' _ (fun e => hb' (by rw [e]; rfl))⟩ (fun b' hb' => .inl hb'))).put (Nat.lt_of_blt hn) _)
end
theorem scn_copy1 {l p : List Int} (h : l.length ≤ 7) : (scnA (List.replicate 7 0) p).toList.take 0 ++ (l.map vi ++ (scnA (List.replicate 7 0) p).toList.drop (0 + l.length)) = (pad l).map vi ++ p.map vi := by
  show ((List.replicate 7 (0 : Int)).map vi ++ p.map vi).take 0 ++ (l.map vi ++ ((List.replicate 7 (0 : Int)).map vi ++ p.map vi).drop (0 + l.length)) = _
  rw [List.take_zero, List.nil_append, Nat.zero_add, List.drop_append_of_le_length (by simp; omega)]
  unfold pad
  rw [List.map_replicate, List.drop_replicate, List.map_append, List.map_replicate, List.append_assoc]
theorem scn_copy2 {q l : List Int} (hq : q.length = 7) (h : l.length ≤ 6) : (scnA q (List.replicate 6 0)).toList.take 7 ++ (l.map vi ++ (scnA q (List.replicate 6 0)).toList.drop (7 + l.length)) = q.map vi ++ (pad6 l).map vi := by
  have hl : (q.map vi).length = 7 := by simpa using hq
  show (q.map vi ++ (List.replicate 6 (0 : Int)).map vi).take 7 ++ (l.map vi ++ (q.map vi ++ (List.replicate 6 (0 : Int)).map vi).drop (7 + l.length)) = _
  rw [List.take_append_of_le_length (by omega), List.take_of_length_le (by omega), List.drop_append, List.drop_of_length_le (by omega), List.nil_append, hl, Nat.add_sub_cancel_left]
  unfold pad6
  rw [List.map_replicate, List.drop_replicate, List.map_append, List.map_replicate]
def hourBad (r : House) (c : Course) (i : Nat) : Bool := !decide ((r.touches.getD i default).lo ≤ c.hours.getD i 0 ∧ c.hours.getD i 0 ≤ (r.touches.getD i default).hi)
/-- Is it a course, as the program looks? -/
def courseB (r : House) (c : Course) : Bool := truB r.table c.owners && (decide (c.hours.length = r.tn) && !ex c.hours.length (hourBad r c))
theorem truB_len {t : Table} {l : List Int} (h : truB t l = true) : l.length = t.pieces.length := ask_lens (mem_ask6'.2 h)
theorem courseB_iff {r : House} {c : Course} : courseB r c = true ↔ CourseT r.table r.touches c := by
  unfold courseB
  simp only [Bool.and_eq_true, decide_eq_true_eq, Bool.not_eq_true']
  rw [ex_no]
  constructor
  · rintro ⟨h1, h2, h3⟩
    exact ⟨mem_ask6'.2 h1, h2, fun i hi => by
      have := h3 i (by rw [h2]; exact hi)
      unfold hourBad at this
      simpa only [Bool.not_eq_false', decide_eq_true_eq] using this⟩
  · rintro ⟨h1, h2, h3⟩
    refine ⟨mem_ask6'.1 h1, h2, fun i hi => ?_⟩
    unfold hourBad
    rw [decide_eq_true (h3 i (by rw [← h2]; exact hi))]; rfl
theorem courseB_fit {r : House} {c : Course} (h : courseB r c = true) : FitC r c := scene_fit (mem_scenes.2 (courseB_iff.1 h))
def noC : Course := ⟨[], []⟩
/-- scene -/
theorem scene6_any {h : Mem} {v cv : Value} {r : House} {q : Course} (hv : IsHouse h v r) (hV : ValidH r) (hs : SmH r) (hq : IsCourseV h cv q) :
    FnV Try.prog 19 #[v, cv] h (.tuple #[sceneV (if courseB r q = true then q else noC), .bool (courseB r q)]) := by
  have hst := hs.table
  have h7 : r.np ≤ 7 := hV.np7
  have h6 : r.tn ≤ 6 := hV.touchN
  have hF0 : fault r.table = 0 := fault_zero.2 hV.table
  have hv' := hv
  obtain ⟨wv, pv, kv, tv, bv, sv, f, rfl, hA⟩ := hv
  obtain ⟨ov, hv2, rfl, hO, hH⟩ := hq
  have hT := hA.T
  have hTab := hA.table
  have hHb := hH.bd
  refine FnR.val ?_
  refine FnR.of_W (n := 62) Try.func19 rfl rfl (Nat.le_of_ble_eq_true rfl) fun c hr hD hF => ?_
  refine W.seq ?_; refine W.region ?_
  refine WL.box rfl rfl rfl rfl (fun b2 => ?_)
  refine WL.box rfl rfl rfl rfl (fun b3 => ?_)
  refine WL.alloc rfl rfl rfl (fun b4 => ?_)
  refine .o rfl ?_; refine WL.nil ?_
  refine Kseq.go (W.seq (W.seq ?_))
  refine W.toS [(2, .pointer (some ⟨b2, 0, none⟩)), (3, .pointer (some ⟨b3, 0, none⟩)), (4, .pointer (some ⟨b4, 0, none⟩)), (22, .bool (!(truB r.table q.owners && decide (q.hours.length = r.tn))))] ?_ ?_
  · skip
    refine W.region ?_; refine .val (.fieldAddrB rfl) rfl rfl rfl ?_; refine .val (.loadBA (vs := [wv, pv, vi r.table.wrong]) rfl (.tail _ (.tail _ (.head _))) rfl rfl) rfl rfl rfl ?_; refine .val (.fieldAddrB rfl) rfl rfl rfl ?_; refine .val (.loadB rfl (.tail _ (.head _)) rfl) rfl rfl rfl ?_
    refine .val (.cast (.call rfl (fun m hm => proveT_any (hTab.le (by repeat first | exact hm.1 | replace hm := hm.2)) hst (hO.le (by repeat first | exact hm.1 | replace hm := hm.2)))) (congrArg Value.bool (show _ = truB r.table q.owners by rw [hF0]; rfl))) rfl rfl rfl ?_
    iterate 2 refine .o rfl ?_
    refine WL.splitB rfl rfl (fun g14 => ?_) (fun g14 => ?_)
    · refine WL.pass rfl rfl rfl ?_
      refine WL.pass rfl rfl rfl ?_; refine WL.pass rfl rfl rfl ?_; refine WL.pass rfl rfl rfl ?_; refine WL.pass rfl rfl rfl ?_; refine WL.pass rfl rfl rfl ?_; refine WL.pass rfl rfl rfl ?_; refine .o rfl ?_; refine WL.nil ?_
      exact Keff.intro ⟨rfl, rfl, rfl, congrArg (fun b => some (Value.bool b)) (by first | exact (by first | (simp [-List.getD_eq_getElem?_getD]; done) | (simp_all [-List.getD_eq_getElem?_getD]; done) | (simp [-List.getD_eq_getElem?_getD]; omega) | (rw [Bool.eq_iff_iff]; simp [-List.getD_eq_getElem?_getD]; omega) | (simp [-List.getD_eq_getElem?_getD] at *; omega)) | simp [*]), trivial⟩ (by simp) (by repeat first | exact .refl _ | refine .cons _ ?_)
    · refine .val (.fieldAddrB rfl) rfl rfl rfl ?_
      refine .val (.loadB rfl (.tail _ (.head _)) rfl) rfl rfl rfl ?_; refine .val (.len rfl hH) rfl rfl rfl ?_; refine .val (.fieldAddrB rfl) rfl rfl rfl ?_; refine .val (.loadB rfl (.tail _ (.tail _ (.head _))) rfl) rfl rfl rfl ?_; refine .val (.len rfl hT) rfl rfl rfl ?_
      refine .val (.cast (.opv rfl) (show _ = Value.bool (!decide (q.hours.length = r.tn)) from congrArg (fun b => Value.bool (!b)) (decide_eq_decide.2 (by unfold House.tn; omega)))) rfl rfl rfl ?_
      refine .o rfl ?_; refine WL.nil ?_
      exact Keff.intro ⟨rfl, rfl, rfl, congrArg (fun b => some (Value.bool b)) (by first | exact (by first | (simp [-List.getD_eq_getElem?_getD]; done) | (simp_all [-List.getD_eq_getElem?_getD]; done) | (simp [-List.getD_eq_getElem?_getD]; omega) | (rw [Bool.eq_iff_iff]; simp [-List.getD_eq_getElem?_getD]; omega) | (simp [-List.getD_eq_getElem?_getD] at *; omega)) | simp [*]), trivial⟩ (by simp) (by repeat first | exact .refl _ | refine .cons _ ?_)
  refine Kseq.go ?_
  refine W.cond rfl rfl (fun hb => ?_) (fun hb => ?_)
  · have hno : courseB r q = false := by
      unfold courseB
      rw [← Bool.and_assoc]
      rw [Bool.not_eq_true'] at hb
      rw [hb]; rfl
    refine W.seq ?_; refine W.region ?_; refine .val (.loadBW rfl (.head _) rfl) rfl rfl rfl ?_
    (refine WL.storeAll rfl (.head _) rfl rfl (by rfl) (by rfl) (List.all_eq_true.1 rfl) ?_)
    refine .o rfl ?_; refine WL.nil ?_; refine Kseq.go ?_
    refine W.ret ?_; refine Kseq.ret ?_
    refine ⟨.inl rfl, [_, _], h, ⟨.agg inferInstance inferInstance rfl (.head _) rfl, .tmp rfl, trivial⟩, (by repeat constructor), ?_⟩
    rw [hno]; rfl
  rw [Bool.not_eq_false', Bool.and_eq_true, decide_eq_true_eq] at hb
  obtain ⟨hb1, hb2⟩ := hb
  have hol : q.owners.length = r.np := truB_len hb1
  have hcr : courseB r q = !ex q.hours.length (hourBad r q) := by unfold courseB; rw [hb1, decide_eq_true hb2]; rfl
  refine W.skip (Kseq.go (W.seq (W.seq ?_)))
  refine W.region ?_; refine .val (.fieldAddrB rfl) rfl rfl rfl ?_; refine .val (.loadB rfl (.tail _ (.head _)) rfl) rfl rfl rfl ?_; refine .val (.len rfl hH) rfl rfl rfl ?_; refine .o rfl ?_; refine WL.nil ?_
  refine Kseq.go (W.block ?_)
  refine W.loop (σ := Nat) (fun k => [(2, .pointer (some ⟨b2, 0, none⟩)), (3, .pointer (some ⟨b3, 0, none⟩)), (4, .pointer (some ⟨b4, 0, none⟩)), (25, hv2), (26, .int .i64 (q.hours.length : Int)), (27, .int .i64 (k : Int))]) (fun _ => [h]) (fun _ => [.blk b4 (scnA (List.replicate 7 0) (List.replicate 6 0)) 63, .blk b3 #[ov, hv2] 37, .blk b2 (hcs wv pv kv tv bv sv r) 34])
    (fun k => k ≤ q.hours.length ∧ ∀ i, i < k → hourBad r q i = false) (fun k => q.hours.length - k) 0 ⟨rfl, rfl, rfl, rfl, rfl, rfl, trivial⟩ (by simp) (.refl _) ⟨Nat.zero_le _, fun i hi => absurd hi (Nat.not_lt_zero _)⟩ ?_
  rintro k ⟨hk, hall⟩
  refine W.seq ?_; refine W.region ?_; refine .o rfl ?_; refine WL.nil ?_
  refine Kseq.go (W.seq ?_)
  refine W.condD rfl rfl (fun hlt => ?_) (fun hge => ?_)
  · have hkl : k < q.hours.length := by omega
    have hkt : k < r.touches.length := by rw [hb2] at hkl; exact hkl
    refine W.skip (Kseq.go (W.seq (W.block (W.seq ?_))))
    refine W.region ?_; refine .o rfl ?_; refine .val (.indexAddrN rfl rfl hH hkl) rfl rfl rfl ?_; refine .val (.loadE rfl hH (by repeat constructor) hkl (by omega)) rfl rfl rfl ?_
    iterate 2 refine .o rfl ?_
    refine WL.nil ?_
    refine Kseq.go (W.seq ?_)
    refine W.draw 15 (by kernel_rfl) (by kernel_rfl) (by kernel_rfl) rfl ?_; refine .val [] (.opv rfl) rfl rfl rfl rfl ?_; refine .val [] (.fieldAddrB rfl) rfl rfl rfl rfl ?_; refine .val [] (.loadB rfl (.tail _ (.tail _ (.head _))) rfl) rfl rfl rfl rfl ?_; refine .val [] (.opv rfl) rfl rfl rfl rfl ?_; refine .val [] (.indexAddrN rfl rfl hT hkt) rfl rfl rfl rfl ?_; refine .val [] (.fieldAddrN rfl hT hkt) rfl rfl rfl rfl ?_; refine .val [] (.fieldAddrN rfl hT hkt) rfl rfl rfl rfl ?_; refine .val [] (.loadE rfl hT (by repeat constructor) hkt (by omega)) rfl rfl rfl rfl ?_; refine .val [] (.fieldAddrB rfl) rfl rfl rfl rfl ?_; refine .val [] (.loadB rfl (.tail _ (.tail _ (.head _))) rfl) rfl rfl rfl rfl ?_; refine .val [] (.opv rfl) rfl rfl rfl rfl ?_; refine .val [] (.indexAddrN rfl rfl hT hkt) rfl rfl rfl rfl ?_; refine .val [] (.fieldAddrN rfl hT hkt) rfl rfl rfl rfl ?_; refine .val [] (.fieldAddrN rfl hT hkt) rfl rfl rfl rfl ?_
    refine .val [] (.loadE rfl hT (by repeat constructor) hkt (by omega)) rfl rfl rfl rfl ?_; refine DJ.nil ?_; refine .val (.call rfl (fun m hm => within6_any _ _ _)) rfl rfl rfl ?_; refine .o rfl ?_; refine WL.nil ?_; refine Kseq.go ?_
    refine W.cond rfl rfl (fun hb => ?_) (fun hb => ?_)
    · have hno : courseB r q = false := by rw [hcr, ex_iff.2 ⟨k, hkl, hb⟩]; rfl
      refine W.seq ?_; refine W.region ?_; refine .val (.loadBW rfl (.head _) (by rfl)) rfl rfl rfl ?_
      (refine WL.storeAll rfl (.head _) rfl rfl (by rfl) (by rfl) (scnA_one _ _) ?_)
      refine .o rfl ?_; refine WL.nil ?_; refine Kseq.go ?_
      refine W.ret ?_; refine Kblock.ret (Kseq.ret (Kloop.ret (Kblock.ret (Kseq.ret ?_))))
      refine ⟨.inl rfl, [_, _], h, ⟨.agg inferInstance inferInstance rfl (.head _) rfl, .tmp rfl, trivial⟩, (by repeat constructor), ?_⟩
      rw [hno]; rfl
    · refine W.skip (Kblock.normal (Kseq.go ?_))
      refine W.region ?_; refine .val (.incr rfl (by omega)) rfl rfl rfl ?_; refine .o rfl ?_; refine WL.nil ?_
      refine Kloop.next (k + 1) ⟨hkl, fun i hi => ?_⟩ (by omega) ⟨rfl, rfl, rfl, rfl, rfl, rfl, trivial⟩ (by simp) (by repeat first | exact .refl _ | refine .cons _ ?_)
      rcases Nat.lt_succ_iff_lt_or_eq.1 hi with h2 | rfl
      · exact hall i h2
      · exact hb
  · have : k = q.hours.length := by omega
    subst this
    have hyes : courseB r q = true := by rw [hcr, ex_no.2 hall]; rfl
    have hpl := pad_len (l := q.owners) (by omega)
    refine W.exit (Kseq.exit (Kloop.exit (Kblock.here (Kseq.go (W.seq ?_)))))
    refine W.draw 4 (by kernel_rfl) (by kernel_rfl) (by kernel_rfl) rfl ?_; refine .val [] (.fieldAddrB rfl) rfl rfl rfl rfl ?_; refine .val [] (.sliceAllArr rfl (by omega)) rfl rfl rfl rfl ?_; refine .val [] (.fieldAddrB rfl) rfl rfl rfl rfl ?_; refine .val [] (.loadB rfl (.tail _ (.head _)) rfl) rfl rfl rfl rfl ?_; refine DJ.nil ?_
    (refine WL.copyO ((pad q.owners).map vi ++ (List.replicate 6 (0 : Int)).map vi) rfl (.head _) rfl hO (by repeat constructor) (by omega) (by rw [scnA_size (by rfl) (by rfl)]; omega) (scn_copy1 (by omega)) rfl rfl rfl ?_)
    refine WL.nil ?_
    refine Kseq.go (W.seq ?_)
    refine W.draw 4 (by kernel_rfl) (by kernel_rfl) (by kernel_rfl) rfl ?_; refine .val [] (.fieldAddrB rfl) rfl rfl rfl rfl ?_; refine .val [] (.sliceAllArr rfl (by omega)) rfl rfl rfl rfl ?_; refine .val [] (.fieldAddrB rfl) rfl rfl rfl rfl ?_; refine .val [] (.loadB rfl (.tail _ (.head _)) rfl) rfl rfl rfl rfl ?_; refine DJ.nil ?_
    (refine WL.copyO (cs := scnA (pad q.owners) (List.replicate 6 0)) ((pad q.owners).map vi ++ (pad6 q.hours).map vi) rfl (.head _) rfl hH (by repeat constructor) (by omega) (by rw [scnA_size hpl (by rfl)]; omega) (scn_copy2 hpl (by omega)) rfl rfl rfl ?_)
    refine WL.nil ?_
    refine Kseq.go (W.seq ?_)
    refine W.region ?_; refine .val (.loadBW (cs := scnA (pad q.owners) (pad6 q.hours)) rfl (.head _) (scnA_size hpl (pad6_len (by omega)))) rfl rfl rfl ?_
    (refine WL.storeAll (cs := scnA (pad q.owners) (pad6 q.hours)) rfl (.head _) rfl rfl (scnA_size hpl (pad6_len (by omega))) (scnA_size hpl (pad6_len (by omega))) (scnA_one _ _) ?_)
    refine .o rfl ?_; refine WL.nil ?_; refine Kseq.go ?_
    refine W.ret ?_; skip
    refine ⟨.inl rfl, [_, _], h, ⟨.agg inferInstance inferInstance rfl (.head _) (scnA_size hpl (pad6_len (by omega))), .tmp rfl, trivial⟩, (by repeat constructor), ?_⟩
    rw [hyes]; rfl
end Go.Proofs.Ytdnbkjgbehakpaa

/- The program's functions of chapter 6: Play, ProveTruth, First. -/
namespace Go.Proofs.Ytdnbkjgbehakpaa
open Go Go.Eng Go.RowKit

theorem noC_size : (sceneC noC).size = 13 := rfl
theorem sel_bits {r : House} (hV : ValidH r) {q : Course} (hq : FitC r q) : sel 10 (fun i => (lastN r q []).testBit i) = bits (lastN r q []) := by
  unfold bits
  symm
  refine sel_stop (by omega) fun i h1 _ => ?_
  have h2 := lastN_lt hV hq.owners []
  exact Nat.testBit_lt_two_pow (Nat.lt_of_lt_of_le h2 (Nat.pow_le_pow_right (by omega) (by have := hV.th.2.2; omega)))
def play6E (r : House) (q : Course) : Int := if fault6 r ≠ 0 then fault6 r else if courseB r q = false then 2 else 0
/-- Play -/
theorem play6_any {h : Mem} {v cv : Value} {r : House} {q : Course} (hv : IsHouse h v r) (hs : SmH r) (hq : IsCourseV h cv q) :
    FnR Try.prog 4 #[v, cv] h (fun m x => ∃ lv, x = .tuple #[lv, vi (play6E r q)] ∧ IsInts m lv (if play6E r q = 0 then bits (lastN r q []) else [])) := by
  have hv' := hv
  have hq' := hq
  obtain ⟨wv, pv, kv, tv, bv, sv, f, rfl, hA⟩ := hv
  obtain ⟨ov, hv2, rfl, hO, hH⟩ := hq
  refine FnR.of_W (n := 41) Try.func4 rfl rfl (Nat.le_of_ble_eq_true rfl) fun c hr hD hF => ?_
  refine W.seq ?_; refine W.region ?_
  refine WL.box rfl rfl rfl rfl (fun b2 => ?_)
  refine WL.box rfl rfl rfl rfl (fun b3 => ?_)
  iterate 2 refine .o rfl ?_
  refine WL.nil ?_
  refine Kseq.go (W.seq (W.seq ?_))
  refine W.region ?_; refine .val (.loadBW rfl (.tail _ (.head _)) rfl) rfl rfl rfl ?_; refine .val (.call rfl (fun m hm => checkHouse_any (hv'.le (by repeat first | exact hm.1 | replace hm := hm.2)) hs)) rfl rfl rfl ?_; refine .o rfl ?_; refine WL.nil ?_
  refine Kseq.go (W.seq ?_)
  refine W.region ?_
  iterate 2 refine .o rfl ?_
  refine WL.nil ?_; refine Kseq.go ?_
  refine W.cond rfl rfl (fun he => ?_) (fun hne => ?_)
  · have he' : fault6 r ≠ 0 := by simpa using he
    have e : play6E r q = fault6 r := by unfold play6E; rw [if_pos he']
    refine W.seq ?_; refine W.region ?_
    iterate 3 refine .o rfl ?_
    refine WL.nil ?_; refine Kseq.go ?_
    refine W.ret ?_; refine Kseq.ret ?_; refine ⟨.inl rfl, [_, _], h, ⟨.tmp rfl, .tmp rfl, trivial⟩, (by repeat constructor), ?_⟩
    exact ⟨_, by rw [e]; rfl, by rw [e, if_neg he']; exact IsArr.nil _ _ _⟩
  have hf0 : fault6 r = 0 := by simpa using hne
  have hV := fault6_zero.1 hf0
  have h7 : r.np ≤ 7 := hV.np7
  have h6 : r.tn ≤ 6 := hV.touchN
  obtain ⟨qq, hqq⟩ : ∃ qq, (if courseB r q = true then q else noC) = qq := ⟨_, rfl⟩
  have hsz : (sceneC qq).size = 13 := by
    rw [← hqq]
    split
    · rename_i hc
      have := courseB_fit hc
      exact sceneC_size (by rw [this.owners]; omega) (by rw [this.hours]; omega)
    · exact noC_size
  refine W.skip (Kseq.go (W.seq ?_))
  refine W.region ?_; refine .val (.loadBW rfl (.tail _ (.head _)) rfl) rfl rfl rfl ?_; refine .val (.loadBW rfl (.head _) rfl) rfl rfl rfl ?_; refine .val (.cast (.call rfl (fun m hm => scene6_any (hv'.le (by repeat first | exact hm.1 | replace hm := hm.2)) hV hs (hq'.le (by repeat first | exact hm.1 | replace hm := hm.2)))) (show _ = Value.tuple #[sceneV qq, .bool (courseB r q)] by rw [← hqq])) rfl rfl rfl ?_
  iterate 3 refine .o rfl ?_
  refine WL.alloc rfl rfl rfl (fun b7 => ?_)
  (refine WL.storeAll rfl (.head _) rfl rfl hsz (by rfl) (sceneC_one _) ?_)
  refine .o rfl ?_; refine WL.nil ?_
  refine Kseq.go (W.seq (W.seq ?_))
  refine W.region ?_
  iterate 2 refine .o rfl ?_
  refine WL.nil ?_; refine Kseq.go ?_
  refine W.cond rfl rfl (fun hb => ?_) (fun hb => ?_)
  · have hno : courseB r q = false := by simpa using hb
    have e : play6E r q = 2 := by unfold play6E; rw [if_neg (by simpa using hf0), if_pos hno]
    refine W.seq ?_; refine W.region ?_
    iterate 2 refine .o rfl ?_
    refine WL.nil ?_; refine Kseq.go ?_
    refine W.ret ?_; refine Kseq.ret ?_; refine ⟨.inl rfl, [_, _], h, ⟨.tmp rfl, .tmp rfl, trivial⟩, (by repeat constructor), ?_⟩
    exact ⟨_, by rw [e]; rfl, by rw [e]; exact IsArr.nil _ _ _⟩
  have hyes : courseB r q = true := by simpa using hb
  have e : play6E r q = 0 := by unfold play6E; rw [if_neg (by simpa using hf0), if_neg (by simp [hyes])]
  rw [if_pos hyes] at hqq
  subst hqq
  have hfit := courseB_fit hyes
  refine W.skip (Kseq.go (W.seq ?_))
  refine W.region ?_; refine .o rfl ?_; refine WL.nil ?_
  refine Kseq.go (W.seq (W.seq ?_))
  refine W.draw 6 (by kernel_rfl) (by kernel_rfl) (by kernel_rfl) rfl ?_; refine .val [] (.loadBW rfl (.tail _ (.tail _ (.head _))) rfl) rfl rfl rfl rfl ?_; refine .val [] (.loadBW rfl (.head _) hsz) rfl rfl rfl rfl ?_; refine .val [] (.loadBW rfl (.tail _ (.tail _ (.head _))) rfl) rfl rfl rfl rfl ?_; refine DJ.abs (A := fun m x => ∃ bm, x = .map (some bm) ∧ IsBm m bm (r.boiled ++ [])) [] (OpAbs.call rfl (fun m hm => boilings_any (hv'.le (by repeat first | exact hm.1 | replace hm := hm.2)) (IsBoils.nil m) hs (by simp))) rfl rfl rfl rfl ?_
  refine DJ.val [(28, fun m x => ∃ bm, x = .map (some bm) ∧ IsBm m bm (r.boiled ++ []))] (fun m28 v28 h28 => (by obtain ⟨bm, rfl, hbm⟩ := h28; exact OpVal.cast (.call rfl (fun m hm => play_any (hv'.le (by repeat first | exact hm.1 | replace hm := hm.2)) hV hfit (hbm.le (by repeat first | exact hm.1 | replace hm := hm.2)))) (show _ = carV (lastN r q []) from rfl))) rfl rfl rfl rfl ?_ (hG := ⟨(by repeat constructor), rfl, trivial⟩)
  refine .val [] (.opv rfl) rfl rfl rfl rfl ?_; refine DJ.nil ?_
  rintro m28 v28 h28
  refine WL.nil ?_
  refine Kseq.go (W.block ?_)
  obtain ⟨s, hsl⟩ : ∃ s, lastN r q [] = s := ⟨_, rfl⟩
  have hsb := sel_bits hV hfit
  rw [hsl] at hsb
  rw [hsl]
  refine W.nilRow 3 1 ?_
  refine W.loop (σ := Nat × Value) (fun x => [(9, x.2), (29, carV s), (30, .int .i64 (x.1 : Int))]) (fun _ => [h]) (fun x => [ir 3 x.2 (sel x.1 fun i => s.testBit i)])
    (fun x => x.1 ≤ 10) (fun x => 10 - x.1) (0, .slice none 0 0) ⟨rfl, rfl, rfl, trivial⟩ (by simp) (.cons_cons _ (List.nil_sublist _)) (Nat.zero_le _) ?_
  rintro ⟨k, a⟩ hk
  dsimp only at hk ⊢
  have hlen := sel_len k fun i => s.testBit i
  refine W.seq ?_; refine W.region ?_; refine .o rfl ?_; refine WL.nil ?_
  refine Kseq.go (W.seq ?_)
  refine W.condD rfl rfl (fun hlt => ?_) (fun hge => ?_)
  · have hkl : k < 10 := by omega
    have hget := carC_get (s := s) hkl
    rw [Nat.zero_add] at hget
    refine W.skip (Kseq.go (W.seq (W.block (W.seq ?_))))
    refine W.region ?_; refine .o rfl ?_; refine .val (OpVal.indexA rfl rfl hkl hget) rfl rfl rfl ?_
    iterate 2 refine .o rfl ?_
    refine WL.nil ?_
    refine Kseq.go (W.seq ?_)
    refine W.region ?_; refine .o rfl ?_; refine WL.nil ?_; refine Kseq.go ?_
    refine W.cond rfl rfl (fun hb => ?_) (fun hb => ?_)
    · skip
      refine W.region ?_
      iterate 2 refine .o rfl ?_
      refine WL.abs (OpAbs.lit [_] rfl (Nat.le_of_ble_eq_true rfl) rfl rfl (by simp [Value.cells]) (Nat.le_of_ble_eq_true rfl) rfl (by first | (simp [Value.oneCell']; done) | exact List.all_eq_true.1 rfl)) rfl rfl rfl ?_
      rintro m37 _ ⟨hc37, a37, rfl⟩
      refine WL.appInt rfl (fun _ => (.head _)) rfl (by assumption) (by repeat constructor) (by omega) rfl rfl rfl ?_
      intro a38 cp38
      refine .o rfl ?_; refine WL.nil ?_
      refine Kblock.normal (Kseq.go ?_)
      refine W.region ?_; refine .val (.incr rfl (by omega)) rfl rfl rfl ?_; refine .o rfl ?_; refine WL.nil ?_
      refine Kloop.next (k + 1, .slice a38 ((sel k fun i => s.testBit i).length + 1) cp38) (by dsimp only; omega) (by dsimp only; omega) ⟨rfl, rfl, rfl, trivial⟩ (by simp) ?_
      dsimp only; rw [sel_yes (n := k) (p := fun i => s.testBit i) hb]; exact (by repeat first | exact .refl _ | refine .cons _ ?_)
    · refine W.skip (Kblock.normal (Kseq.go ?_))
      refine W.region ?_; refine .val (.incr rfl (by omega)) rfl rfl rfl ?_; refine .o rfl ?_; refine WL.nil ?_
      refine Kloop.next (k + 1, a) (by dsimp only; omega) (by dsimp only; omega) ⟨rfl, rfl, rfl, trivial⟩ (by simp) ?_
      dsimp only; rw [sel_no (n := k) (p := fun i => s.testBit i) hb]; exact (by repeat first | exact .refl _ | refine .cons _ ?_)
  · have : k = 10 := by omega
    subst this
    refine W.exit (Kseq.exit (Kloop.exit (Kblock.here (Kseq.go (W.seq ?_)))))
    refine W.freezeInts (.head _) (fun b hb => (hF b hb).elim) fun mr hmr => ?_
    refine W.region ?_
    iterate 3 refine .o rfl ?_
    refine WL.nil ?_; refine Kseq.go ?_
    refine W.ret ?_; refine ⟨.inl rfl, [_, _], mr, ⟨.tmp rfl, .tmp rfl, trivial⟩, (by repeat constructor), ?_⟩
    exact ⟨_, by rw [e]; rfl, by rw [if_pos e, ← hsb]; exact hmr⟩
def truth6B (r : House) (q : Course) : Bool := decide (fault6 r = 0) && (courseB r q && rightC r q)
/-- ProveTruth -/
theorem proveTruth6_any {h : Mem} {v cv : Value} {r : House} {q : Course} (hv : IsHouse h v r) (hs : SmH r) (hq : IsCourseV h cv q) :
    FnV Try.prog 13 #[v, cv] h (.bool (truth6B r q)) := by
  have hv' := hv
  have hq' := hq
  obtain ⟨wv, pv, kv, tv, bv, sv, f, rfl, hA⟩ := hv
  obtain ⟨ov, hv2, rfl, hO, hH⟩ := hq
  refine FnR.val ?_
  refine FnR.of_W (n := 26) Try.func13 rfl rfl (Nat.le_of_ble_eq_true rfl) fun c hr hD hF => ?_
  refine W.seq ?_; refine W.region ?_
  refine WL.box rfl rfl rfl rfl (fun b2 => ?_)
  refine WL.box rfl rfl rfl rfl (fun b3 => ?_)
  refine .o rfl ?_; refine WL.nil ?_
  refine Kseq.go (W.seq (W.seq ?_))
  refine W.region ?_; refine .val (.loadBW rfl (.tail _ (.head _)) rfl) rfl rfl rfl ?_; refine .val (.call rfl (fun m hm => checkHouse_any (hv'.le (by repeat first | exact hm.1 | replace hm := hm.2)) hs)) rfl rfl rfl ?_; refine .o rfl ?_; refine WL.nil ?_; refine Kseq.go ?_
  refine W.cond rfl rfl (fun he => ?_) (fun hne => ?_)
  · have he' : fault6 r ≠ 0 := by simpa using he
    refine W.seq ?_; refine W.region ?_; refine .o rfl ?_; refine WL.nil ?_; refine Kseq.go ?_
    refine W.ret ?_; refine Kseq.ret ?_; refine ⟨.inl rfl, [_], h, ⟨.tmp rfl, trivial⟩, (by repeat constructor), ?_⟩
    exact congrArg Value.bool (by unfold truth6B; rw [decide_eq_false he']; rfl)
  have hf0 : fault6 r = 0 := by simpa using hne
  have hV := fault6_zero.1 hf0
  have h7 : r.np ≤ 7 := hV.np7
  have h6 : r.tn ≤ 6 := hV.touchN
  have ht : truth6B r q = (courseB r q && rightC r q) := by unfold truth6B; rw [decide_eq_true hf0]; rfl
  obtain ⟨qq, hqq⟩ : ∃ qq, (if courseB r q = true then q else noC) = qq := ⟨_, rfl⟩
  have hsz : (sceneC qq).size = 13 := by
    rw [← hqq]
    split
    · rename_i hc
      have := courseB_fit hc
      exact sceneC_size (by rw [this.owners]; omega) (by rw [this.hours]; omega)
    · exact noC_size
  refine W.skip (Kseq.go (W.seq ?_))
  refine W.region ?_; refine .val (.loadBW rfl (.tail _ (.head _)) rfl) rfl rfl rfl ?_; refine .val (.loadBW rfl (.head _) rfl) rfl rfl rfl ?_; refine .val (.cast (.call rfl (fun m hm => scene6_any (hv'.le (by repeat first | exact hm.1 | replace hm := hm.2)) hV hs (hq'.le (by repeat first | exact hm.1 | replace hm := hm.2)))) (show _ = Value.tuple #[sceneV qq, .bool (courseB r q)] by rw [← hqq])) rfl rfl rfl ?_
  iterate 3 refine .o rfl ?_
  refine WL.alloc rfl rfl rfl (fun b5 => ?_)
  (refine WL.storeAll rfl (.head _) rfl rfl hsz (by rfl) (sceneC_one _) ?_)
  refine .o rfl ?_; refine WL.nil ?_
  refine Kseq.go (W.seq ?_)
  cases hcb : courseB r q with
  | false =>
    refine W.draw 8 (by kernel_rfl) (by kernel_rfl) (by kernel_rfl) rfl ?_; refine .val [] (.opv rfl) rfl rfl rfl rfl ?_; refine .val [] (.opv rfl) rfl rfl rfl rfl ?_; refine DJ.pass rfl rfl rfl rfl ?_; refine DJ.pass rfl rfl rfl rfl ?_; refine DJ.pass rfl rfl rfl rfl ?_; refine DJ.pass rfl rfl rfl rfl ?_; refine DJ.pass rfl rfl rfl rfl ?_; refine DJ.pass rfl rfl rfl rfl ?_; refine DJ.nil ?_; refine WL.pass rfl rfl rfl ?_
    iterate 2 refine .o rfl ?_
    refine WL.nil ?_; refine Kseq.go ?_
    refine W.ret ?_; refine ⟨.inl rfl, [_], h, ⟨.tmp rfl, trivial⟩, (by repeat constructor), ?_⟩
    exact congrArg Value.bool (by rw [ht, hcb]; rfl)
  | true =>
    rw [if_pos hcb] at hqq
    subst hqq
    have hfit := courseB_fit hcb
    refine W.draw 8 (by kernel_rfl) (by kernel_rfl) (by kernel_rfl) rfl ?_; refine .val [] (.opv rfl) rfl rfl rfl rfl ?_; refine .val [] (.opv rfl) rfl rfl rfl rfl ?_; refine .val [] (.loadBW rfl (.tail _ (.tail _ (.head _))) rfl) rfl rfl rfl rfl ?_; refine .val [] (.loadBW rfl (.tail _ (.tail _ (.head _))) rfl) rfl rfl rfl rfl ?_; refine .val [] (.loadBW rfl (.head _) hsz) rfl rfl rfl rfl ?_; refine .val [] (.loadBW rfl (.tail _ (.tail _ (.head _))) rfl) rfl rfl rfl rfl ?_; refine DJ.abs (A := fun m x => ∃ bm, x = .map (some bm) ∧ IsBm m bm (r.boiled ++ [])) [] (OpAbs.call rfl (fun m hm => boilings_any (hv'.le (by repeat first | exact hm.1 | replace hm := hm.2)) (IsBoils.nil m) hs (by simp))) rfl rfl rfl rfl ?_
    refine DJ.val [(22, fun m x => ∃ bm, x = .map (some bm) ∧ IsBm m bm (r.boiled ++ []))] (fun m22 v22 h22 => (by obtain ⟨bm, rfl, hbm⟩ := h22; exact OpVal.cast (.call rfl (fun m hm => play_any (hv'.le (by repeat first | exact hm.1 | replace hm := hm.2)) hV hfit (hbm.le (by repeat first | exact hm.1 | replace hm := hm.2)))) (show _ = carV (lastN r q []) from rfl))) rfl rfl rfl rfl ?_ (hG := ⟨(by repeat constructor), rfl, trivial⟩)
    refine DJ.nil ?_
    rintro m22 v22 h22
    refine .val (.cast (.call rfl (fun m hm => right6_any (hv'.le (by repeat first | exact hm.1 | replace hm := hm.2)) hV (show IsInts m (.slice none 0 0) [] from IsArr.nil _ _ _))) (show _ = Value.bool (rightC r q) from rfl)) rfl rfl rfl ?_
    iterate 2 refine .o rfl ?_
    refine WL.nil ?_; refine Kseq.go ?_
    refine W.ret ?_; refine ⟨.inl rfl, [_], h, ⟨.tmp rfl, trivial⟩, (by repeat constructor), ?_⟩
    exact congrArg Value.bool (by rw [ht, hcb]; rfl)
/-- First -/
theorem first6_any {h : Mem} {v : Value} {r : House} (hv : IsHouse h v r) (hs : SmH r) : FnV Try.prog 11 #[v] h (.tuple #[vi (first6V r).1, vi (first6V r).2]) := by
  have hv' := hv
  obtain ⟨wv, pv, kv, tv, bv, sv, f, rfl, hA⟩ := hv
  have hS := hA.S
  obtain ⟨sa, sc, rfl⟩ := IsArr.form hS
  refine FnR.val ?_
  refine FnR.of_W (n := 30) Try.func11 rfl rfl (Nat.le_of_ble_eq_true rfl) fun c hr hD hF => ?_
  refine W.seq ?_; refine W.region ?_
  refine WL.box rfl rfl rfl rfl (fun b1 => ?_)
  iterate 2 refine .o rfl ?_
  refine WL.nil ?_
  refine Kseq.go (W.seq (W.seq ?_))
  refine W.region ?_; refine .val (.loadBW rfl (.head _) rfl) rfl rfl rfl ?_; refine .val (.call rfl (fun m hm => checkHouse_any (hv'.le (by repeat first | exact hm.1 | replace hm := hm.2)) hs)) rfl rfl rfl ?_; refine .o rfl ?_; refine WL.nil ?_
  refine Kseq.go (W.seq ?_)
  refine W.region ?_
  iterate 2 refine .o rfl ?_
  refine WL.nil ?_; refine Kseq.go ?_
  refine W.cond rfl rfl (fun he => ?_) (fun hne => ?_)
  · have he' : fault6 r ≠ 0 := by simpa using he
    refine W.seq ?_; refine W.region ?_
    iterate 3 refine .o rfl ?_
    refine WL.nil ?_; refine Kseq.go ?_
    refine W.ret ?_; refine Kseq.ret ?_; refine ⟨.inl rfl, [_, _], h, ⟨.tmp rfl, .tmp rfl, trivial⟩, (by repeat constructor), ?_⟩
    unfold first6V
    rw [if_pos he']; rfl
  have hf0 : fault6 r = 0 := by simpa using hne
  have hV := fault6_zero.1 hf0
  have h5 := hV.signN
  obtain ⟨M, hM⟩ : ∃ M, first6N r = M := ⟨_, rfl⟩
  have hres : first6V r = if M < r.signs.length then ((M : Int), 0) else (0, 7) := by unfold first6V; rw [if_neg (by simpa using hf0), hM]
  have hMle : M ≤ r.signs.length := by rw [← hM]; exact fstNo_le _ _
  refine W.skip (Kseq.go (W.seq ?_))
  refine W.region ?_; refine .val (.loadBW rfl (.head _) rfl) rfl rfl rfl ?_
  refine WL.alloc rfl rfl rfl (fun b5 => ?_)
  (refine WL.store [wv, pv, vi r.table.wrong, kv, vi r.others, vi r.last, tv, bv, .slice sa r.signs.length sc] rfl (.head _) rfl rfl rfl (Nat.le_of_ble_eq_true rfl) (by simp [Value.cells]; exact ⟨IsArr.one hA.W, IsArr.one hA.P, rfl, IsArr.one hA.K, rfl, rfl, IsArr.one hA.T, IsArr.one hA.B, rfl⟩) rfl ?_)
  refine WL.nil ?_
  refine Kseq.go (W.seq (W.seq ?_))
  refine W.region ?_; refine .val (.fieldAddrB rfl) rfl rfl rfl ?_; refine .val (.loadB rfl (.tail _ (.head _)) rfl) rfl rfl rfl ?_; refine .val (.len rfl hS) rfl rfl rfl ?_; refine .o rfl ?_; refine WL.nil ?_
  refine Kseq.go (W.block ?_)
  refine W.loop (σ := Nat × Value) (fun s => [(1, .pointer (some ⟨b1, 0, none⟩)), (5, .pointer (some ⟨b5, 0, none⟩)), (15, .int .i64 (r.signs.length : Int)), (16, .int .i64 (s.1 : Int))]) (fun _ => [h]) (fun s => [.blk b5 (hcs wv pv kv tv bv s.2 r) 34, .blk b1 (hcs wv pv kv tv bv (.slice sa r.signs.length sc) r) 34])
    (fun s => s.1 ≤ r.signs.length ∧ ∀ j, j < s.1 → firstQ6 r j = true) (fun s => r.signs.length - s.1) (0, .slice sa r.signs.length sc) ⟨rfl, rfl, rfl, rfl, trivial⟩ (by simp) (.refl _) ⟨Nat.zero_le _, fun j hj => absurd hj (Nat.not_lt_zero _)⟩ ?_
  rintro ⟨k, x⟩ ⟨hk, hall⟩
  dsimp only at hk hall ⊢
  refine W.seq ?_; refine W.region ?_; refine .o rfl ?_; refine WL.nil ?_
  refine Kseq.go (W.seq ?_)
  refine W.condD rfl rfl (fun hlt => ?_) (fun hge => ?_)
  · have hkl : k < r.signs.length := by omega
    have hsub := IsArr.sub hS (lo := 0) (hi := k + 1) (Nat.zero_le _) hkl
    have hS' : IsSigns h (subV 2 0 (k + 1) (.slice sa r.signs.length sc)) (r.signs.take (k + 1)) := by
      have e : (r.signs.take (k + 1)).length = k + 1 - 0 := by rw [List.length_take]; omega
      unfold IsSigns
      rw [e]
      refine hsub.congr fun i j hi hj => ?_
      rw [signs_take (show i < k + 1 by omega), Nat.zero_add]
    have hV' : ValidH (withSigns r (r.signs.take (k + 1))) := withSigns_valid hV (by rw [List.length_take]; omega) (fun i hi => by
      rw [List.length_take] at hi
      rw [signs_take (show i < k + 1 by omega)]
      exact hV.sign i (by omega))
    have hs' : SmH (withSigns r (r.signs.take (k + 1))) := ⟨hs.table, hs.sick, hs.touches, hs.boiled, by show (r.signs.take (k + 1)).length ≤ 20; rw [List.length_take]; omega⟩
    have hH' : IsHouse h (.agg (hcs wv pv kv tv bv (subV 2 0 (k + 1) (.slice sa r.signs.length sc)) r)) (withSigns r (r.signs.take (k + 1))) := ⟨wv, pv, kv, tv, bv, _, f, rfl, ⟨hA.W, hA.P, hA.M, hA.K, hA.T, hA.B, hS'⟩⟩
    refine W.skip (Kseq.go (W.seq (W.block (W.seq ?_))))
    refine W.region ?_
    iterate 2 refine .o rfl ?_
    refine WL.nil ?_
    refine Kseq.go (W.seq ?_)
    refine W.region ?_; refine .val (.fieldAddrB rfl) rfl rfl rfl ?_; refine .val (.loadB rfl (.tail _ (.head _)) rfl) rfl rfl rfl ?_; refine .o rfl ?_; refine .val (.cast (.add rfl rfl (by omega) (by omega)) (show _ = vi ((k + 1 : Nat) : Int) from rfl)) rfl rfl rfl ?_; refine .val (.sliceH rfl rfl hS (by omega)) rfl rfl rfl ?_; refine .val (.fieldAddrB rfl) rfl rfl rfl ?_
    (refine WL.store [wv, pv, vi r.table.wrong, kv, vi r.others, vi r.last, tv, bv, subV 2 0 (k + 1) (.slice sa r.signs.length sc)] rfl (.head _) rfl rfl rfl (Nat.le_of_ble_eq_true rfl) (by simp [subV, Value.cells, Value.oneCell']) rfl ?_)
    refine WL.nil ?_
    refine Kseq.go (W.seq ?_)
    refine W.region ?_; refine .val (.loadBW rfl (.head _) rfl) rfl rfl rfl ?_; refine .val (.cast (.call rfl (fun m hm => possible6_any (hH'.le (by repeat first | exact hm.1 | replace hm := hm.2)) hV' hs' (show IsInts m (.slice none 0 0) [] from IsArr.nil _ _ _))) (show _ = Value.bool (firstQ6 r k) from rfl)) rfl rfl rfl ?_; refine .o rfl ?_; refine WL.nil ?_; refine Kseq.go ?_
    refine W.cond rfl rfl (fun hb => ?_) (fun hb => ?_)
    · have hno : firstQ6 r k = false := by simpa using hb
      have hMk : M = k := by rw [← hM]; exact fstNo_at hkl hall hno
      refine W.seq ?_; refine W.region ?_
      iterate 3 refine .o rfl ?_
      refine WL.nil ?_; refine Kseq.go ?_
      refine W.ret ?_; refine Kblock.ret (Kseq.ret (Kloop.ret (Kblock.ret (Kseq.ret ?_)))); refine ⟨.inl rfl, [_, _], h, ⟨.tmp rfl, .tmp rfl, trivial⟩, (by repeat constructor), ?_⟩
      rw [hres, hMk, if_pos hkl]; rfl
    · have hyes : firstQ6 r k = true := by simpa using hb
      refine W.skip (Kblock.normal (Kseq.go ?_))
      refine W.region ?_; refine .val (.incr rfl (by omega)) rfl rfl rfl ?_; refine .o rfl ?_; refine WL.nil ?_
      refine Kloop.next (k + 1, _) ⟨by omega, fun j hj => ?_⟩ (by omega) ⟨rfl, rfl, rfl, rfl, trivial⟩ (by simp) (by repeat first | exact .refl _ | refine .cons _ ?_)
      rcases Nat.lt_succ_iff_lt_or_eq.1 hj with h2 | rfl
      · exact hall j h2
      · exact hyes
  · have hkk : k = r.signs.length := by omega
    subst hkk
    have hMk : M = r.signs.length := by rw [← hM]; exact fstNo_all hall
    refine W.exit (Kseq.exit (Kloop.exit (Kblock.here (Kseq.go (W.seq ?_)))))
    refine W.region ?_
    iterate 2 refine .o rfl ?_
    refine WL.nil ?_; refine Kseq.go ?_
    refine W.ret ?_; refine ⟨.inl rfl, [_, _], h, ⟨.tmp rfl, .tmp rfl, trivial⟩, (by repeat constructor), ?_⟩
    rw [hres, hMk, if_neg (by omega)]; rfl
end Go.Proofs.Ytdnbkjgbehakpaa
