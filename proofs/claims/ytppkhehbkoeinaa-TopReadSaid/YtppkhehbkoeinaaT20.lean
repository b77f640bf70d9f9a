/- The program's functions of a table at work: their contracts. -/
import Derived.Test.YtppkhehbkoeinaaT19
namespace Go.Proofs.Ytppkhehbkoeinaa
open Go Go.Eng Go.RowKit

abbrev IsTruths (m : Mem) (v : Value) (trs : List (List Int)) : Prop := IsArr m 7 v trs.length (fun i j => ((pad (trs.getD i [])).map vi).getD j undef)
section
variable {P : Program} {n : Nat} {c : Cx P n} {l : List (Nat × Value)} {Ms : List Mem} {μ : List Res} {dst : Option Tmp} {x : Operand} {t ty : TypeId} {pos : String} {af : Array Edge} {gd : Option (Nat × Bool)}
theorem own_range {xs : List Int} (h : xs.length ≤ 7) : (List.range 7).map (fun j => ((pad xs).map vi).getD j undef) = (pad xs).map vi := by
  have hp : ((pad xs).map vi).length = 7 := by rw [List.length_map]; exact pad_len h
  rw [← hp]
  exact map_range_getD _ _
theorem OpVal.loadOwn [hu : TL P t true] {bytes : Nat} {z : Value} [hi : TI P t 7 bytes z] {m : Mem} {v : Value} {trs : List (List Int)} {i : Nat} (hx : lk l x = some (EP v 7 i 0)) (h : IsTruths m v trs) (hm : m ∈ Ms) (hlt : i < trs.length) (h7 : (trs.getD i []).length ≤ 7) :
    OpVal c ⟨dst, .load t x, ty, pos, af, gd⟩ l Ms μ (ownV (trs.getD i [])) :=
  (OpVal.loadEA hx h hm hlt).cast (by rw [own_range h7])
end
theorem ask_owns {t : Table} (hp : t.pieces.length ≤ 7) {i : Nat} (h : i < (ask t).length) : Owns t ((ask t).getD i []) :=
  owns_of (ask_are (by rw [List.getD_eq_getElem?_getD, List.getElem?_eq_getElem h]; exact List.getElem_mem h)) hp
theorem Owns.le7 {t : Table} {l : List Int} (h : Owns t l) : l.length ≤ 7 := by have := h.len; have := h.seven; omega

/-- lost -/
theorem lost_any {h : Mem} {b : Nat} {v : Value} {t : Table} {l : List Int} (x : Int) (hw : IsWork h b v t) (hv : IsTable h v t) (hs : Sm t) (ho : Owns t l) : FnV Try.prog 56 #[.pointer (some ⟨b, 0, none⟩), ownV l, .int .i64 x] h (vi ((astray t l).length : Int)) := by
  obtain ⟨wv, pv, trv, mb, rfl, hB, hT, hMp⟩ := hw
  have hpl : (pad l).length = 7 := pad_len ho.le7
  refine FnR.val ?_
  refine FnR.of_W (n := 14) Try.func56 rfl rfl (Nat.le_of_ble_eq_true rfl) fun c hr hD hF => ?_
  refine W.seq ?_; refine W.region ?_
  refine WL.box rfl rfl rfl rfl (fun b4 => ?_)
  refine .o rfl ?_; refine WL.nil ?_
  refine Kseq.go (W.seq ?_)
  refine W.draw 5 (by kernel_rfl) (by kernel_rfl) (by kernel_rfl) rfl ?_; refine .val [] (.opv rfl) rfl rfl rfl rfl ?_; refine .val [] (.opv rfl) rfl rfl rfl rfl ?_; refine .val [] (.fieldAddrB rfl) rfl rfl rfl rfl ?_; refine .val [] (.loadPA (vs := [wv, pv, vi t.wrong]) rfl hB (by repeat constructor) rfl rfl) rfl rfl rfl rfl ?_; refine .val [] (.loadBW rfl (.head _) (by simp [Value.cells, hpl])) rfl rfl rfl rfl ?_; refine DJ.nil ?_; refine WL.abs (OpAbs.call rfl (fun m hm => astrayP_any (hv.le (by repeat first | exact hm.1 | replace hm := hm.2)) hs ho)) rfl rfl rfl ?_
  rintro m12 v12 h12
  refine .val (.len rfl (by assumption)) rfl rfl rfl ?_; refine .o rfl ?_; refine WL.nil ?_; refine Kseq.go ?_
  refine W.ret ?_; refine ⟨.inl rfl, [_], h, ⟨.tmp rfl, trivial⟩, (by repeat constructor), ?_⟩
  rfl

/-- How many pieces a woman misses. -/
def missedN (t : Table) (l : List Int) (w : Int) : Nat := cnt (astray t l).length fun j => decide (l.getD ((astray t l).getD j 0).toNat 0 = w)
/-- The bounds of an answer in some truths, the first one and the first k. -/
def loQ (g : List Int → Int) (all : List (List Int)) : Nat → Int
  | 0 => g (all.getD 0 [])
  | k + 1 => min (loQ g all k) (g (all.getD k []))
def hiQ (g : List Int → Int) (all : List (List Int)) : Nat → Int
  | 0 => g (all.getD 0 [])
  | k + 1 => max (hiQ g all k) (g (all.getD k []))
end Go.Proofs.Ytppkhehbkoeinaa
