/- What the functions of chapter 12 hand back, first part. -/
import Derived.Test.YtcocbifjjafknaaSa
import Derived.Test.YtcocbifjjafknaaAc
import Derived.Attr
import Derived.Laws.BitsLemmas
import Derived.Laws.Bits64
import Derived.WalkKit
import Derived.OwnWalkIn
import Derived.TacticsInMore
import Derived.LoopNIn
import Derived.LoopIn
import Derived.RangeFuncBox

/- The data of the site and the rows of the walk. -/
set_option linter.unusedSimpArgs false
set_option linter.unusedVariables false
namespace Go.Proofs.Ytcocbifjjafknaa.AL
open Go

theorem mapM_one {α β : Type} {f : α → Option β} {a : α} : [a].mapM f = (f a).map fun b => [b] := by
  simp only [List.mapM_cons, List.mapM_nil]
  cases f a <;> rfl

attribute [go_sem ↓] awp_skip awp_reg awp_seq awp_block awp_exit awp_ret awp_cond twoQ_true twoQ_false guardQ_tt guardQ_ff guardQ_tf guardQ_ft seqQ_normal seqQ_exit seqQ_ret blockQ_normal blockQ_ret blockQ_here blockQ_on AW_nil AW_cons opW_none opW_some sW_mv sW_pick sW_box sW_alloc sW_build sW_bslice sW_load sW_store sW_nilc sW_bin sW_binb sW_eqs sW_un sW_conv sW_mkfn sW_mkmap sW_mkslice sW_slice sW_sslice sW_faddr sW_field sW_iaddr sW_iarr sW_index sW_sidx sW_idxb sW_look sW_mupd sW_extract sW_len sW_clear sW_max sW_min sW_append evW_some evWu_some stepW_call stepW_callv roundQ_normal roundQ_exit roundQ_ret retP_normal retP_ret retK_normal retK_ret retQ_normal retQ_ret
attribute [go_sem] opds opd_tmp opd_int opd_bool opd_str opd_slice opd_func opd_map opd_ptr opd_nilf key1 key2 upd_at emp_at updO_some updO_none clrO_some clrO_none clr_at argTm ev Option.bind_some boxRes still stillIf V.cells evFaddr evLoad evStore evBin evUn evEqb evPick evNilc evField evIaddr evIndex evLen evExtract evMaxMin evSidx evIdxb evClear mkV resT oneT fillC splice boundsOf evSlice evMkfn isBoxPtr evConv evLook evMupd
attribute [go_sem] Bool.false_eq_true Nat.add_zero Nat.zero_add true_and and_true List.take List.drop List.getD_cons_zero List.getD_cons_succ List.getD_nil List.length_cons List.length_nil List.getElem?_cons_zero List.getElem?_cons_succ List.headD_cons List.headD_nil List.map_cons List.map_nil mapM_one List.cons_append List.nil_append List.set_cons_zero List.set_cons_succ Option.map_some Option.map_none beq_self_eq_true Bool.not_true Bool.not_false cond_true cond_false false_implies forall_const imp_self implies_true Bool.true_and Bool.and_true Bool.false_and Bool.and_false

/-- Numbers of Go's int. -/
def InI (n : Int) : Prop := -9223372036854775808 ≤ n ∧ n ≤ 9223372036854775807
theorem wrap_in {n : Int} (h : InI n) : IntKind.i64.wrap n = n := by
  obtain ⟨h1, h2⟩ := h
  rw [IntKind.wrap_i64]
  omega
theorem wrap_i {n : Int} (h1 : -9223372036854775808 ≤ n) (h2 : n ≤ 9223372036854775807) : IntKind.i64.wrap n = n := wrap_in ⟨h1, h2⟩

def mxl : Nat := 140737488355328

def ints (l : List Int) : List (List R) := l.map fun n => [.val (.int .i64 n)]
theorem ints_len {l : List Int} : (ints l).length = l.length := by simp [ints]
theorem ints_at {l : List Int} {i : Nat} (h : i < l.length) : (ints l).getD i [] = [R.val (.int .i64 (l.getD i 0))] := by simp [ints, h]

theorem twoQ_at {t : Bool} {A B : Prop} (h1 : t = true → A) (h2 : t = false → B) : twoQ t A B := ⟨h1, h2⟩

structure FloorD where
  w : Int
  h : Int
  d : Int
  kind : List Int
  out : List Int

def encFloor (f : FloorD) : List C := [cV (.int .i64 f.w), cV (.int .i64 f.h), cV (.int .i64 f.d), .r (.rd 1 (ints f.kind)), .r (.rd 1 (ints f.out))]

/-- The number of cells. -/
def FloorD.n (f : FloorD) : Int := f.kind.length

structure FloorOk (f : FloorD) : Prop where
  w1 : 1 ≤ f.w
  w2 : f.w ≤ 4096
  h1 : 1 ≤ f.h
  h2 : f.h ≤ 4096
  d1 : 1 ≤ f.d
  d2 : f.d ≤ 4
  size : f.w * f.h * f.d = f.n
  n2 : f.n ≤ 4096
  out : f.out.length = f.kind.length
  kind : ∀ i, i < f.kind.length → 0 ≤ f.kind.getD i 0 ∧ f.kind.getD i 0 < 7
  outs : ∀ i, i < f.out.length → 0 ≤ f.out.getD i 0 ∧ f.out.getD i 0 ≤ 63

theorem FloorOk.wh {f : FloorD} (h : FloorOk f) : 1 ≤ f.w * f.h ∧ f.w * f.h ≤ f.n := by
  obtain ⟨a1, a2, a3, a4, a5, a6, a7, a8, _⟩ := h
  have h1 : 1 * 1 ≤ f.w * f.h := Int.mul_le_mul a1 a3 (by omega) (by omega)
  refine ⟨by omega, ?_⟩
  have h2 : f.w * f.h * 1 ≤ f.w * f.h * f.d := Int.mul_le_mul_of_nonneg_left a5 (by omega)
  omega

def isF (f : FloorD) (c : Int) : Bool := decide (0 ≤ c) && decide (c < f.n)
def cellF (f : FloorD) (x y z : Int) : Int := if 0 ≤ x ∧ x < f.w ∧ 0 ≤ y ∧ y < f.h ∧ 0 ≤ z ∧ z < f.d then (z * f.h + y) * f.w + x else -1
def xF (f : FloorD) (c : Int) : Int := if isF f c then c.tmod f.w else 0
def yF (f : FloorD) (c : Int) : Int := if isF f c then (c.tdiv f.w).tmod f.h else 0
def zF (f : FloorD) (c : Int) : Int := if isF f c then c.tdiv (f.w * f.h) else 0

theorem cell_bound {f : FloorD} (h : FloorOk f) {x y z : Int} (hx : 0 ≤ x ∧ x < f.w ∧ 0 ≤ y ∧ y < f.h ∧ 0 ≤ z ∧ z < f.d) :
    0 ≤ z * f.h ∧ z * f.h + y < f.h * f.d ∧ 0 ≤ (z * f.h + y) * f.w ∧ (z * f.h + y) * f.w + x < f.n ∧ f.h * f.d ≤ 16384 := by
  obtain ⟨a1, a2, a3, a4, a5, a6, a7, a8, _⟩ := h
  obtain ⟨x1, x2, y1, y2, z1, z2⟩ := hx
  have e1 : 0 ≤ z * f.h := Int.mul_nonneg z1 (by omega)
  have e2 : (z + 1) * f.h ≤ f.d * f.h := Int.mul_le_mul_of_nonneg_right (by omega) (by omega)
  have e3 : (z + 1) * f.h = z * f.h + f.h := by rw [Int.add_mul, Int.one_mul]
  have e4 : f.d * f.h = f.h * f.d := Int.mul_comm _ _
  have e5 : (z * f.h + y + 1) * f.w ≤ f.h * f.d * f.w := Int.mul_le_mul_of_nonneg_right (by omega) (by omega)
  have e6 : (z * f.h + y + 1) * f.w = (z * f.h + y) * f.w + f.w := by rw [Int.add_mul, Int.one_mul]
  have e7 : f.h * f.d * f.w = f.w * f.h * f.d := by rw [Int.mul_comm, Int.mul_assoc]
  have e8 : 0 ≤ (z * f.h + y) * f.w := Int.mul_nonneg (by omega) (by omega)
  have e9 : f.h * f.d ≤ 4096 * 4 := Int.mul_le_mul a4 a6 (by omega) (by omega)
  refine ⟨e1, by omega, e8, by omega, by omega⟩

end Go.Proofs.Ytcocbifjjafknaa.AL

/- Lists of numbers. -/
set_option linter.unusedSimpArgs false
set_option linter.unusedVariables false
namespace Go.Proofs.Ytcocbifjjafknaa.AL
open Go

theorem mem_getD {l : List Int} {x : Int} : x ∈ l ↔ ∃ i, i < l.length ∧ l.getD i 0 = x := by
  rw [List.mem_iff_getElem]
  constructor
  · rintro ⟨i, h, rfl⟩; exact ⟨i, h, by simp [h]⟩
  · rintro ⟨i, h, rfl⟩; exact ⟨i, h, by simp [h]⟩

theorem f23 (l : List Int) (x : Int) (hl : l.length ≤ mxl) : Pure Try.prog 23 [tC (.r (.rd 1 (ints l))), tI x] (· = tB (decide (x ∈ l))) := by
  have hl2 : l.length ≤ 140737488355328 := hl
  refine Pure.of_awp hm Try.func23 s23_ok (by simp [s23]) ?_
  simp only [go_sem, s23, ↓reduceIte, reduceCtorEq, Nat.reduceEqDiff, Nat.reduceAdd, Nat.reduceSub, Nat.reduceMul, Nat.reduceLT, Nat.reduceLeDiff, Int.reduceToNat]
  refine awp_loop (fun i : Nat => ⟨upd (upd (upd emp 0 (tC (.r (.rd 1 (ints l))))) 1 (tI x)) 5 (tI i), emp, 0⟩) (fun i => l.length - i) (fun i => i ≤ l.length ∧ ∀ j, j < i → l.getD j 0 ≠ x) 0 ⟨Nat.zero_le _, fun j hj => by omega⟩ ?_ ?_
  · exact Weak.keep (TmLe.cons rfl rfl (TmLe.cons rfl rfl (TmLe.cons rfl rfl TmLe.nil))) KLe.nil (Nat.le_refl _) (Nat.le_refl _)
  · intro i ⟨hi, hno⟩
    simp only [go_sem, s23_5, ints_len, ↓reduceIte, reduceCtorEq, Nat.reduceEqDiff, Nat.reduceAdd, Nat.reduceSub, Nat.reduceMul, Nat.reduceLT, Nat.reduceLeDiff, Int.reduceToNat]
    refine ⟨fun h => ?_, fun h => ?_⟩
    · have hi' : i < l.length := by simpa using h
      simp only [go_sem, s23_4, ints_len, ints_at hi', Int.toNat_natCast, ↓reduceIte, reduceCtorEq, Nat.reduceEqDiff, Nat.reduceAdd, Nat.reduceSub, Nat.reduceMul, Nat.reduceLT, Nat.reduceLeDiff, Int.reduceToNat]
      refine ⟨⟨by omega, by omega⟩, fun h2 => ?_, fun h2 => ?_⟩
      · simp only [go_sem, s23_3, ↓reduceIte, reduceCtorEq, Nat.reduceEqDiff, Nat.reduceAdd, Nat.reduceSub, Nat.reduceMul, Nat.reduceLT, Nat.reduceLeDiff, Int.reduceToNat]
        refine ⟨rfl, ?_⟩
        have : x ∈ l := mem_getD.2 ⟨i, hi', by simpa using h2⟩
        simp [this]
      · simp only [go_sem, s23_2, ↓reduceIte, reduceCtorEq, Nat.reduceEqDiff, Nat.reduceAdd, Nat.reduceSub, Nat.reduceMul, Nat.reduceLT, Nat.reduceLeDiff, Int.reduceToNat]
        refine ⟨i + 1, ⟨by omega, fun j hj => ?_⟩, by omega, ?_⟩
        · by_cases e : j = i
          · subst e; simpa using h2
          · exact hno j (by omega)
        · rw [wrap_i (by omega) (by omega)]
          exact Weak.keep (TmLe.cons rfl rfl (TmLe.cons rfl rfl (TmLe.cons rfl rfl TmLe.nil))) KLe.nil (Nat.le_refl _) (Nat.le_refl _)
    · have hi' : i = l.length := by have := of_decide_eq_false h; omega
      simp only [go_sem, s23_1, ↓reduceIte, reduceCtorEq, Nat.reduceEqDiff, Nat.reduceAdd, Nat.reduceSub, Nat.reduceMul, Nat.reduceLT, Nat.reduceLeDiff, Int.reduceToNat]
      refine ⟨rfl, ?_⟩
      have : x ∉ l := fun hm => by
        obtain ⟨j, hj, hx⟩ := mem_getD.1 hm
        exact hno j (by omega) hx
      simp [this]
end Go.Proofs.Ytcocbifjjafknaa.AL

/- Floors. -/
set_option linter.unusedSimpArgs false
set_option linter.unusedVariables false
namespace Go.Proofs.Ytcocbifjjafknaa.AL
open Go
variable {f : FloorD}

theorem size_wrap (h : FloorOk f) : IntKind.i64.wrap (IntKind.i64.wrap (f.w * f.h) * f.d) = f.n := by
  obtain ⟨h1, h2⟩ := h.wh
  have := h.n2
  rw [wrap_i (n := f.w * f.h) (by omega) (by omega), h.size]
  exact wrap_i (by omega) (by omega)
theorem f55 (h : FloorOk f) : Pure Try.prog 55 [.v (.agg (encFloor f))] (· = tI f.n) := by
  refine Pure.of_awp hm Try.func55 s55_ok (by simp [s55]) ?_
  simp only [go_sem, s55, encFloor, ↓reduceIte, reduceCtorEq, Nat.reduceEqDiff, Nat.reduceAdd, Nat.reduceSub, Nat.reduceMul, Nat.reduceLT, Nat.reduceLeDiff, Int.reduceToNat]
  exact ⟨rfl, by rw [size_wrap h]⟩
theorem f86 (h : FloorOk f) : Pure Try.prog 86 [.v (.agg (encFloor f))] (· = tI f.n) := by
  refine Pure.of_awp hm Try.func86 s86_ok (by simp [s86]) ?_
  simp only [go_sem, s86, encFloor, ↓reduceIte, reduceCtorEq, Nat.reduceEqDiff, Nat.reduceAdd, Nat.reduceSub, Nat.reduceMul, Nat.reduceLT, Nat.reduceLeDiff, Int.reduceToNat]
  exact ⟨rfl, by rw [size_wrap h]⟩

theorem f22 (h : FloorOk f) (c : Int) : Pure Try.prog 22 [.v (.agg (encFloor f)), tI c] (· = tB (isF f c)) := by
  refine Pure.of_awp hm Try.func22 s22_ok (by simp [s22]) ?_
  simp only [go_sem, s22, encFloor, ↓reduceIte, reduceCtorEq, Nat.reduceEqDiff, Nat.reduceAdd, Nat.reduceSub, Nat.reduceMul, Nat.reduceLT, Nat.reduceLeDiff, Int.reduceToNat]
  refine guardQ_at (fun h1 => ?_) (fun h1 => ?_)
  · simp only [go_sem, s22_2, ↓reduceIte, reduceCtorEq, Nat.reduceEqDiff, Nat.reduceAdd, Nat.reduceSub, Nat.reduceMul, Nat.reduceLT, Nat.reduceLeDiff, Int.reduceToNat]
    refine Pure.callS (f55 h) rfl ?_
    simp only [go_sem, s22_1, ↓reduceIte, reduceCtorEq, Nat.reduceEqDiff, Nat.reduceAdd, Nat.reduceSub, Nat.reduceMul, Nat.reduceLT, Nat.reduceLeDiff, Int.reduceToNat]
    exact ⟨rfl, by simp only [isF, h1, Bool.true_and]⟩
  · simp only [go_sem, s22_2, s22_1, ↓reduceIte, reduceCtorEq, Nat.reduceEqDiff, Nat.reduceAdd, Nat.reduceSub, Nat.reduceMul, Nat.reduceLT, Nat.reduceLeDiff, Int.reduceToNat]
    exact ⟨rfl, by simp only [isF, h1, Bool.not_true, Bool.false_and]⟩
theorem f80 (h : FloorOk f) (c : Int) : Pure Try.prog 80 [.v (.agg (encFloor f)), tI c] (· = tB (isF f c)) := by
  refine Pure.of_awp hm Try.func80 s80_ok (by simp [s80]) ?_
  simp only [go_sem, s80, encFloor, ↓reduceIte, reduceCtorEq, Nat.reduceEqDiff, Nat.reduceAdd, Nat.reduceSub, Nat.reduceMul, Nat.reduceLT, Nat.reduceLeDiff, Int.reduceToNat]
  refine guardQ_at (fun h1 => ?_) (fun h1 => ?_)
  · simp only [go_sem, s80_2, ↓reduceIte, reduceCtorEq, Nat.reduceEqDiff, Nat.reduceAdd, Nat.reduceSub, Nat.reduceMul, Nat.reduceLT, Nat.reduceLeDiff, Int.reduceToNat]
    refine Pure.callS (f86 h) rfl ?_
    simp only [go_sem, s80_1, ↓reduceIte, reduceCtorEq, Nat.reduceEqDiff, Nat.reduceAdd, Nat.reduceSub, Nat.reduceMul, Nat.reduceLT, Nat.reduceLeDiff, Int.reduceToNat]
    exact ⟨rfl, by simp only [isF, h1, Bool.true_and]⟩
  · simp only [go_sem, s80_2, s80_1, ↓reduceIte, reduceCtorEq, Nat.reduceEqDiff, Nat.reduceAdd, Nat.reduceSub, Nat.reduceMul, Nat.reduceLT, Nat.reduceLeDiff, Int.reduceToNat]
    exact ⟨rfl, by simp only [isF, h1, Bool.not_true, Bool.false_and]⟩

theorem cellF_no {x y z : Int} (h : ¬ (0 ≤ x ∧ x < f.w ∧ 0 ≤ y ∧ y < f.h ∧ 0 ≤ z ∧ z < f.d)) : cellF f x y z = -1 := if_neg h
theorem cell_wrap (h : FloorOk f) {x y z : Int} (hx : 0 ≤ x ∧ x < f.w ∧ 0 ≤ y ∧ y < f.h ∧ 0 ≤ z ∧ z < f.d) :
    IntKind.i64.wrap (IntKind.i64.wrap (IntKind.i64.wrap (IntKind.i64.wrap (z * f.h) + y) * f.w) + x) = cellF f x y z := by
  obtain ⟨b1, b2, b3, b4, b5⟩ := cell_bound h hx
  have := h.n2
  have := h.w2
  have := h.h2
  rw [wrap_i (n := z * f.h) (by omega) (by omega), wrap_i (n := z * f.h + y) (by omega) (by omega), wrap_i (n := (z * f.h + y) * f.w) (by omega) (by omega), wrap_i (by omega) (by omega)]
  exact (if_pos hx).symm

theorem f79 (h : FloorOk f) (x y z : Int) : Pure Try.prog 79 [.v (.agg (encFloor f)), tI x, tI y, tI z] (· = tI (cellF f x y z)) := by
  refine Pure.of_awp hm Try.func79 s79_ok (by simp [s79]) ?_
  simp only [go_sem, s79, s79_1, s79_2, s79_3, s79_4, s79_5, s79_6, s79_7, s79_8, encFloor, ↓reduceIte, reduceCtorEq, Nat.reduceEqDiff, Nat.reduceAdd, Nat.reduceSub, Nat.reduceMul, Nat.reduceLT, Nat.reduceLeDiff, Int.reduceToNat]
  repeat' (first | refine guardQ_at (fun _ => ?_) (fun _ => ?_) | refine twoQ_at (fun _ => ?_) (fun _ => ?_) | refine And.intro rfl ?_)
  all_goals simp only [Bool.not_true, Bool.not_false, decide_eq_true_eq, decide_eq_false_iff_not] at *
  all_goals first | rw [cellF_no (by omega)] | rw [cell_wrap h (by omega)]

theorem min3 {x y z : Int} : (if z < (if y < x then y else x) then z else (if y < x then y else x)) < 0 ↔ x < 0 ∨ y < 0 ∨ z < 0 := by
  split <;> split <;> omega

theorem f75 (h : FloorOk f) (x y z : Int) : Pure Try.prog 75 [.v (.agg (encFloor f)), tI x, tI y, tI z] (· = tI (cellF f x y z)) := by
  refine Pure.of_awp hm Try.func75 s75_ok (by simp [s75]) ?_
  simp only [go_sem, s75, s75_1, s75_2, s75_3, s75_4, s75_5, s75_6, encFloor, min3, ↓reduceIte, reduceCtorEq, Nat.reduceEqDiff, Nat.reduceAdd, Nat.reduceSub, Nat.reduceMul, Nat.reduceLT, Nat.reduceLeDiff, Int.reduceToNat]
  repeat' (first | refine guardQ_at (fun _ => ?_) (fun _ => ?_) | refine twoQ_at (fun _ => ?_) (fun _ => ?_) | refine And.intro rfl ?_)
  all_goals simp only [Bool.not_true, Bool.not_false, decide_eq_true_eq, decide_eq_false_iff_not] at *
  all_goals first | rw [cellF_no (by omega)] | rw [cell_wrap h (by omega)]

abbrev tP (x y z : Int) : T := .tup [.x (cV (.int .i64 x)), .x (cV (.int .i64 y)), .x (cV (.int .i64 z))]

theorem tdiv_lt {a b : Int} (h1 : 0 ≤ a) (h2 : 1 ≤ b) : 0 ≤ a.tdiv b ∧ a.tdiv b ≤ a := by
  rw [Int.tdiv_eq_ediv_of_nonneg h1]
  exact ⟨Int.ediv_nonneg h1 (by omega), Int.ediv_le_self _ h1⟩

theorem f74 (h : FloorOk f) (c : Int) : Pure Try.prog 74 [.v (.agg (encFloor f)), tI c] (· = tP (xF f c) (yF f c) (zF f c)) := by
  refine Pure.of_awp hm Try.func74 s74_ok (by simp [s74]) ?_
  simp only [go_sem, s74, encFloor, ↓reduceIte, reduceCtorEq, Nat.reduceEqDiff, Nat.reduceAdd, Nat.reduceSub, Nat.reduceMul, Nat.reduceLT, Nat.reduceLeDiff, Int.reduceToNat]
  refine Pure.callS (f80 h c) rfl ?_
  simp only [go_sem, s74_4, s74_3, s74_2, s74_1, ↓reduceIte, reduceCtorEq, Nat.reduceEqDiff, Nat.reduceAdd, Nat.reduceSub, Nat.reduceMul, Nat.reduceLT, Nat.reduceLeDiff, Int.reduceToNat]
  refine twoQ_at (fun h1 => ?_) (fun h1 => ?_)
  · simp only [Bool.not_eq_true'] at h1
    refine ⟨rfl, ?_⟩
    simp [xF, yF, zF, h1]
  · simp only [Bool.not_eq_false'] at h1
    have h1' := h1
    simp only [isF, Bool.and_eq_true, decide_eq_true_eq] at h1'
    have := h.w1; have := h.h1; have := h.n2; have hw := h.wh
    have e1 := tdiv_lt (a := c) (b := f.w) (by omega) (by omega)
    have e2 := tdiv_lt (a := c) (b := f.w * f.h) (by omega) (by omega)
    have e3 : IntKind.i64.wrap (f.w * f.h) = f.w * f.h := wrap_i (by omega) (by omega)
    rw [e3]
    refine ⟨by omega, by omega, by omega, by omega, rfl, ?_⟩
    rw [wrap_i (by omega) (by omega), wrap_i (by omega) (by omega)]
    simp [xF, yF, zF, h1]

theorem tdiv_tdiv {a b c : Int} (h1 : 0 ≤ a) (h2 : 1 ≤ b) (h3 : 1 ≤ c) : (a.tdiv b).tdiv c = a.tdiv (b * c) := by
  have h4 := tdiv_lt h1 h2
  rw [Int.tdiv_eq_ediv_of_nonneg h4.1, Int.tdiv_eq_ediv_of_nonneg h1, Int.tdiv_eq_ediv_of_nonneg h1, Int.ediv_ediv_of_nonneg (by omega)]

theorem f78 (h : FloorOk f) (c : Int) : Pure Try.prog 78 [.v (.agg (encFloor f)), tI c] (· = tP (xF f c) (yF f c) (zF f c)) := by
  refine Pure.of_awp hm Try.func78 s78_ok (by simp [s78]) ?_
  simp only [go_sem, s78, encFloor, ↓reduceIte, reduceCtorEq, Nat.reduceEqDiff, Nat.reduceAdd, Nat.reduceSub, Nat.reduceMul, Nat.reduceLT, Nat.reduceLeDiff, Int.reduceToNat]
  refine Pure.callS (f22 h c) rfl ?_
  simp only [go_sem, s78_4, s78_3, s78_2, s78_1, ↓reduceIte, reduceCtorEq, Nat.reduceEqDiff, Nat.reduceAdd, Nat.reduceSub, Nat.reduceMul, Nat.reduceLT, Nat.reduceLeDiff, Int.reduceToNat]
  refine twoQ_at (fun h1 => ?_) (fun h1 => ?_)
  · simp only [Bool.not_eq_true'] at h1
    refine ⟨rfl, ?_⟩
    simp [xF, yF, zF, h1]
  · simp only [Bool.not_eq_false'] at h1
    have h1' := h1
    simp only [isF, Bool.and_eq_true, decide_eq_true_eq] at h1'
    have := h.w1; have := h.h1; have := h.n2; have hw := h.wh
    have e1 := tdiv_lt (a := c) (b := f.w) (by omega) (by omega)
    have e2 := tdiv_lt (a := c.tdiv f.w) (b := f.h) (by omega) (by omega)
    have e3 : IntKind.i64.wrap (c.tdiv f.w) = c.tdiv f.w := wrap_i (by omega) (by omega)
    rw [e3]
    refine ⟨by omega, by omega, by omega, by omega, by omega, rfl, ?_⟩
    rw [wrap_i (by omega) (by omega), tdiv_tdiv h1'.1 (by omega) (by omega)]
    simp [xF, yF, zF, h1]

theorem xF_b (h : FloorOk f) (c : Int) : (0 ≤ xF f c ∧ xF f c < f.w) ∧ (0 ≤ yF f c ∧ yF f c < f.h) ∧ 0 ≤ zF f c ∧ zF f c ≤ 4096 := by
  have hw := h.w1; have hh := h.h1; have := h.n2; have hwh := h.wh
  unfold xF yF zF
  split
  · rename_i h1
    simp only [isF, Bool.and_eq_true, decide_eq_true_eq] at h1
    have e1 := tdiv_lt (a := c) (b := f.w) (by omega) (by omega)
    have e2 := tdiv_lt (a := c) (b := f.w * f.h) (by omega) (by omega)
    rw [Int.tmod_eq_emod_of_nonneg h1.1, Int.tmod_eq_emod_of_nonneg e1.1]
    exact ⟨⟨Int.emod_nonneg _ (by omega), Int.emod_lt_of_pos _ (by omega)⟩, ⟨Int.emod_nonneg _ (by omega), Int.emod_lt_of_pos _ (by omega)⟩, by omega, by omega⟩
  · omega

def besideF (f : FloorD) (c d : Int) : Int :=
  if isF f c = false then -1
  else if d = 0 then cellF f (xF f c + 1) (yF f c) (zF f c)
  else if d = 1 then cellF f (xF f c) (yF f c + 1) (zF f c)
  else if d = 2 then cellF f (xF f c - 1) (yF f c) (zF f c)
  else if d = 3 then cellF f (xF f c) (yF f c - 1) (zF f c)
  else if d = 4 then cellF f (xF f c) (yF f c) (zF f c + 1)
  else if d = 5 then cellF f (xF f c) (yF f c) (zF f c - 1)
  else -1

theorem f46 (h : FloorOk f) (c d : Int) : Pure Try.prog 46 [.v (.agg (encFloor f)), tI c, tI d] (· = tI (besideF f c d)) := by
  obtain ⟨b1, b2, b3⟩ := xF_b h c
  have := h.w2; have := h.h2
  refine Pure.of_awp hm Try.func46 s46_ok (by simp [s46]) ?_
  simp only [go_sem, s46, encFloor, ↓reduceIte, reduceCtorEq, Nat.reduceEqDiff, Nat.reduceAdd, Nat.reduceSub, Nat.reduceMul, Nat.reduceLT, Nat.reduceLeDiff, Int.reduceToNat]
  refine Pure.callS (f22 h c) rfl ?_
  simp only [go_sem, s46_24, s46_23, s46_22, ↓reduceIte, reduceCtorEq, Nat.reduceEqDiff, Nat.reduceAdd, Nat.reduceSub, Nat.reduceMul, Nat.reduceLT, Nat.reduceLeDiff, Int.reduceToNat]
  refine twoQ_at (fun h1 => ?_) (fun h1 => ?_)
  · simp only [Bool.not_eq_true'] at h1
    refine ⟨rfl, ?_⟩
    simp [besideF, h1]
  · simp only [Bool.not_eq_false'] at h1
    simp only [go_sem, s46_21, ↓reduceIte, reduceCtorEq, Nat.reduceEqDiff, Nat.reduceAdd, Nat.reduceSub, Nat.reduceMul, Nat.reduceLT, Nat.reduceLeDiff, Int.reduceToNat]
    refine Pure.callS (f78 h c) rfl ?_
    simp only [go_sem, s46_20, s46_19, ↓reduceIte, reduceCtorEq, Nat.reduceEqDiff, Nat.reduceAdd, Nat.reduceSub, Nat.reduceMul, Nat.reduceLT, Nat.reduceLeDiff, Int.reduceToNat]
    refine twoQ_at (fun k0 => ?_) (fun k0 => ?_) <;> simp only [decide_eq_true_eq, decide_eq_false_iff_not] at k0
    · simp only [go_sem, s46_3, ↓reduceIte, reduceCtorEq, Nat.reduceEqDiff, Nat.reduceAdd, Nat.reduceSub, Nat.reduceMul, Nat.reduceLT, Nat.reduceLeDiff, Int.reduceToNat]
      rw [wrap_i (by omega) (by omega)]
      refine Pure.callS (f79 h _ _ _) rfl ?_
      simp only [go_sem, s46_2, ↓reduceIte, reduceCtorEq, Nat.reduceEqDiff, Nat.reduceAdd, Nat.reduceSub, Nat.reduceMul, Nat.reduceLT, Nat.reduceLeDiff, Int.reduceToNat]
      exact ⟨rfl, by simp [besideF, h1, k0]⟩
    simp only [go_sem, s46_18, ↓reduceIte, reduceCtorEq, Nat.reduceEqDiff, Nat.reduceAdd, Nat.reduceSub, Nat.reduceMul, Nat.reduceLT, Nat.reduceLeDiff, Int.reduceToNat]
    refine twoQ_at (fun k1 => ?_) (fun k1 => ?_) <;> simp only [decide_eq_true_eq, decide_eq_false_iff_not] at k1
    · simp only [go_sem, s46_5, ↓reduceIte, reduceCtorEq, Nat.reduceEqDiff, Nat.reduceAdd, Nat.reduceSub, Nat.reduceMul, Nat.reduceLT, Nat.reduceLeDiff, Int.reduceToNat]
      rw [wrap_i (by omega) (by omega)]
      refine Pure.callS (f79 h _ _ _) rfl ?_
      simp only [go_sem, s46_4, ↓reduceIte, reduceCtorEq, Nat.reduceEqDiff, Nat.reduceAdd, Nat.reduceSub, Nat.reduceMul, Nat.reduceLT, Nat.reduceLeDiff, Int.reduceToNat]
      exact ⟨rfl, by simp [besideF, h1, k0, k1]⟩
    simp only [go_sem, s46_17, ↓reduceIte, reduceCtorEq, Nat.reduceEqDiff, Nat.reduceAdd, Nat.reduceSub, Nat.reduceMul, Nat.reduceLT, Nat.reduceLeDiff, Int.reduceToNat]
    refine twoQ_at (fun k2 => ?_) (fun k2 => ?_) <;> simp only [decide_eq_true_eq, decide_eq_false_iff_not] at k2
    · simp only [go_sem, s46_7, ↓reduceIte, reduceCtorEq, Nat.reduceEqDiff, Nat.reduceAdd, Nat.reduceSub, Nat.reduceMul, Nat.reduceLT, Nat.reduceLeDiff, Int.reduceToNat]
      rw [wrap_i (by omega) (by omega)]
      refine Pure.callS (f79 h _ _ _) rfl ?_
      simp only [go_sem, s46_6, ↓reduceIte, reduceCtorEq, Nat.reduceEqDiff, Nat.reduceAdd, Nat.reduceSub, Nat.reduceMul, Nat.reduceLT, Nat.reduceLeDiff, Int.reduceToNat]
      exact ⟨rfl, by simp [besideF, h1, k0, k1, k2]⟩
    simp only [go_sem, s46_16, ↓reduceIte, reduceCtorEq, Nat.reduceEqDiff, Nat.reduceAdd, Nat.reduceSub, Nat.reduceMul, Nat.reduceLT, Nat.reduceLeDiff, Int.reduceToNat]
    refine twoQ_at (fun k3 => ?_) (fun k3 => ?_) <;> simp only [decide_eq_true_eq, decide_eq_false_iff_not] at k3
    · simp only [go_sem, s46_9, ↓reduceIte, reduceCtorEq, Nat.reduceEqDiff, Nat.reduceAdd, Nat.reduceSub, Nat.reduceMul, Nat.reduceLT, Nat.reduceLeDiff, Int.reduceToNat]
      rw [wrap_i (by omega) (by omega)]
      refine Pure.callS (f79 h _ _ _) rfl ?_
      simp only [go_sem, s46_8, ↓reduceIte, reduceCtorEq, Nat.reduceEqDiff, Nat.reduceAdd, Nat.reduceSub, Nat.reduceMul, Nat.reduceLT, Nat.reduceLeDiff, Int.reduceToNat]
      exact ⟨rfl, by simp [besideF, h1, k0, k1, k2, k3]⟩
    simp only [go_sem, s46_15, ↓reduceIte, reduceCtorEq, Nat.reduceEqDiff, Nat.reduceAdd, Nat.reduceSub, Nat.reduceMul, Nat.reduceLT, Nat.reduceLeDiff, Int.reduceToNat]
    refine twoQ_at (fun k4 => ?_) (fun k4 => ?_) <;> simp only [decide_eq_true_eq, decide_eq_false_iff_not] at k4
    · simp only [go_sem, s46_11, ↓reduceIte, reduceCtorEq, Nat.reduceEqDiff, Nat.reduceAdd, Nat.reduceSub, Nat.reduceMul, Nat.reduceLT, Nat.reduceLeDiff, Int.reduceToNat]
      rw [wrap_i (by omega) (by omega)]
      refine Pure.callS (f79 h _ _ _) rfl ?_
      simp only [go_sem, s46_10, ↓reduceIte, reduceCtorEq, Nat.reduceEqDiff, Nat.reduceAdd, Nat.reduceSub, Nat.reduceMul, Nat.reduceLT, Nat.reduceLeDiff, Int.reduceToNat]
      exact ⟨rfl, by simp [besideF, h1, k0, k1, k2, k3, k4]⟩
    simp only [go_sem, s46_14, ↓reduceIte, reduceCtorEq, Nat.reduceEqDiff, Nat.reduceAdd, Nat.reduceSub, Nat.reduceMul, Nat.reduceLT, Nat.reduceLeDiff, Int.reduceToNat]
    refine twoQ_at (fun k5 => ?_) (fun k5 => ?_) <;> simp only [decide_eq_true_eq, decide_eq_false_iff_not] at k5
    · simp only [go_sem, s46_13, ↓reduceIte, reduceCtorEq, Nat.reduceEqDiff, Nat.reduceAdd, Nat.reduceSub, Nat.reduceMul, Nat.reduceLT, Nat.reduceLeDiff, Int.reduceToNat]
      rw [wrap_i (by omega) (by omega)]
      refine Pure.callS (f79 h _ _ _) rfl ?_
      simp only [go_sem, s46_12, ↓reduceIte, reduceCtorEq, Nat.reduceEqDiff, Nat.reduceAdd, Nat.reduceSub, Nat.reduceMul, Nat.reduceLT, Nat.reduceLeDiff, Int.reduceToNat]
      exact ⟨rfl, by simp [besideF, h1, k0, k1, k2, k3, k4, k5]⟩
    simp only [go_sem, s46_1, ↓reduceIte, reduceCtorEq, Nat.reduceEqDiff, Nat.reduceAdd, Nat.reduceSub, Nat.reduceMul, Nat.reduceLT, Nat.reduceLeDiff, Int.reduceToNat]
    exact ⟨rfl, by simp [besideF, h1, k0, k1, k2, k3, k4, k5]⟩

theorem f95 : Pure Try.prog 95 [] (· = .v (.agg (([1, 0, 0, 0, 1, 0, -1, 0, 0, 0, -1, 0, 0, 0, 1, 0, 0, -1] : List Int).map fun n => cV (.int .i64 n)))) := by
  refine Pure.of_awp hm Try.func95 s95_ok (by simp [s95]) ?_
  simp only [go_sem, s95, ↓reduceIte, reduceCtorEq, Nat.reduceEqDiff, Nat.reduceAdd, Nat.reduceSub, Nat.reduceMul, Nat.reduceLT, Nat.reduceLeDiff, Int.reduceToNat]
  rfl

theorem f81 (h : FloorOk f) (c d : Int) : Pure Try.prog 81 [.v (.agg (encFloor f)), tI c, tI d] (· = tI (besideF f c d)) := by
  obtain ⟨b1, b2, b3⟩ := xF_b h c
  have := h.w2; have := h.h2
  refine Pure.of_awp hm Try.func81 s81_ok (by simp [s81]) ?_
  simp only [go_sem, s81, encFloor, ↓reduceIte, reduceCtorEq, Nat.reduceEqDiff, Nat.reduceAdd, Nat.reduceSub, Nat.reduceMul, Nat.reduceLT, Nat.reduceLeDiff, Int.reduceToNat]
  refine Pure.callS (f80 h c) rfl ?_
  simp only [go_sem, s81_11, s81_10, s81_9, s81_8, s81_7, ↓reduceIte, reduceCtorEq, Nat.reduceEqDiff, Nat.reduceAdd, Nat.reduceSub, Nat.reduceMul, Nat.reduceLT, Nat.reduceLeDiff, Int.reduceToNat]
  have no : ¬ (0 ≤ d ∧ d < 6) → besideF f c d = -1 := fun hd => by
    unfold besideF
    rw [if_neg (c := d = 0) (by omega), if_neg (c := d = 1) (by omega), if_neg (c := d = 2) (by omega), if_neg (c := d = 3) (by omega), if_neg (c := d = 4) (by omega), if_neg (c := d = 5) (by omega), ite_self]
  refine guardQ_at (fun h1 => ?_) (fun h1 => ?_)
  · simp only [Bool.not_eq_false'] at h1
    refine guardQ_at (fun h2 => ?_) (fun h2 => ?_)
    · refine twoQ_at (fun h3 => ?_) (fun h3 => ?_)
      · simp only [decide_eq_true_eq] at h3
        exact ⟨rfl, by rw [no (by omega)]⟩
      · simp only [decide_eq_false_iff_not] at h2 h3
        simp only [go_sem, s81_6, ↓reduceIte, reduceCtorEq, Nat.reduceEqDiff, Nat.reduceAdd, Nat.reduceSub, Nat.reduceMul, Nat.reduceLT, Nat.reduceLeDiff, Int.reduceToNat]
        refine Pure.callS (f74 h c) rfl ?_
        simp only [go_sem, s81_5, s81_4, ↓reduceIte, reduceCtorEq, Nat.reduceEqDiff, Nat.reduceAdd, Nat.reduceSub, Nat.reduceMul, Nat.reduceLT, Nat.reduceLeDiff, Int.reduceToNat]
        refine Pure.callS f95 rfl ?_
        have hd : d = 0 ∨ d = 1 ∨ d = 2 ∨ d = 3 ∨ d = 4 ∨ d = 5 := by omega
        rcases hd with rfl | rfl | rfl | rfl | rfl | rfl
        all_goals
          simp only [go_sem, s81_3, s81_2, ↓reduceIte, reduceCtorEq, Nat.reduceEqDiff, Nat.reduceAdd, Nat.reduceSub, Nat.reduceMul, Nat.reduceLT, Nat.reduceLeDiff, Int.reduceToNat]
          refine ⟨⟨by omega, by omega⟩, ?_⟩
          refine Pure.callS (f75 h _ _ _) rfl ?_
          simp only [go_sem, s81_1, ↓reduceIte, reduceCtorEq, Nat.reduceEqDiff, Nat.reduceAdd, Nat.reduceSub, Nat.reduceMul, Nat.reduceLT, Nat.reduceLeDiff, Int.reduceToNat]
          refine ⟨rfl, ?_⟩
          simp (disch := omega) only [wrap_i]
          simp [besideF, h1, ← Int.sub_eq_add_neg]
    · exact ⟨rfl, by rw [no (by simp at h2; omega)]⟩
  · refine ⟨rfl, ?_⟩
    simp at h1
    simp [besideF, h1]
def nearF (f : FloorD) (a b : Int) : Bool := isF f b && (decide (besideF f a 0 = b) || decide (besideF f a 1 = b) || decide (besideF f a 2 = b) || decide (besideF f a 3 = b))

theorem f13 (h : FloorOk f) (a b : Int) : Pure Try.prog 13 [.v (.agg (encFloor f)), tI a, tI b] (· = tB (nearF f a b)) := by
  refine Pure.of_awp hm Try.func13 s13_ok (by simp [s13]) ?_
  simp only [go_sem, s13, encFloor, ↓reduceIte, reduceCtorEq, Nat.reduceEqDiff, Nat.reduceAdd, Nat.reduceSub, Nat.reduceMul, Nat.reduceLT, Nat.reduceLeDiff, Int.reduceToNat]
  refine awp_loop (fun i : Nat => ⟨upd (upd (upd (upd emp 1 (tI a)) 2 (tI b)) 3 (tC (.ptr 0 0 0 0))) 7 (tI i), upd emp 0 (.row 0 5 [encFloor f]), 1⟩) (fun i => 4 - i) (fun i => i ≤ 4 ∧ (isF f b = true → ∀ j : Nat, j < i → besideF f a j ≠ b)) 0 ⟨Nat.zero_le _, fun _ j hj => by omega⟩ ?_ ?_
  · exact Weak.keep (TmLe.cons rfl rfl (TmLe.cons rfl rfl (TmLe.cons rfl rfl (TmLe.cons rfl rfl TmLe.nil)))) (KLe.cons (Nat.zero_lt_one) rfl rfl KLe.nil) (Nat.zero_le _) (Nat.le_refl _)
  · intro i ⟨hi, hno⟩
    simp only [go_sem, s13_9, encFloor, ↓reduceIte, reduceCtorEq, Nat.reduceEqDiff, Nat.reduceAdd, Nat.reduceSub, Nat.reduceMul, Nat.reduceLT, Nat.reduceLeDiff, Int.reduceToNat]
    refine twoQ_at (fun h1 => ?_) (fun h1 => ?_)
    · have hi' : i < 4 := by simp at h1; omega
      simp only [go_sem, s13_8, ↓reduceIte, reduceCtorEq, Nat.reduceEqDiff, Nat.reduceAdd, Nat.reduceSub, Nat.reduceMul, Nat.reduceLT, Nat.reduceLeDiff, Int.reduceToNat]
      refine Pure.callS (f22 h b) rfl ?_
      simp only [go_sem, s13_7, ↓reduceIte, reduceCtorEq, Nat.reduceEqDiff, Nat.reduceAdd, Nat.reduceSub, Nat.reduceMul, Nat.reduceLT, Nat.reduceLeDiff, Int.reduceToNat]
      refine guardQ_at (fun h2 => ?_) (fun h2 => ?_)
      · simp only [go_sem, s13_6, ↓reduceIte, reduceCtorEq, Nat.reduceEqDiff, Nat.reduceAdd, Nat.reduceSub, Nat.reduceMul, Nat.reduceLT, Nat.reduceLeDiff, Int.reduceToNat]
        refine Pure.callS (f46 h _ _) rfl ?_
        simp only [go_sem, s13_5, s13_4, s13_3, ↓reduceIte, reduceCtorEq, Nat.reduceEqDiff, Nat.reduceAdd, Nat.reduceSub, Nat.reduceMul, Nat.reduceLT, Nat.reduceLeDiff, Int.reduceToNat]
        refine twoQ_at (fun h3 => ?_) (fun h3 => ?_)
        · refine ⟨rfl, ?_⟩
          have hn : nearF f a b = true := by
            simp only [nearF, h2, Bool.true_and]
            have : i = 0 ∨ i = 1 ∨ i = 2 ∨ i = 3 := by omega
            rcases this with rfl | rfl | rfl | rfl <;> simp at h3 <;> simp [h3]
          rw [hn]
        · simp only [go_sem, s13_2, ↓reduceIte, reduceCtorEq, Nat.reduceEqDiff, Nat.reduceAdd, Nat.reduceSub, Nat.reduceMul, Nat.reduceLT, Nat.reduceLeDiff, Int.reduceToNat]
          refine ⟨i + 1, ⟨by omega, fun hb j hj => ?_⟩, by omega, ?_⟩
          · by_cases e : j = i
            · subst e; simpa using h3
            · exact hno hb j (by omega)
          · rw [wrap_i (by omega) (by omega)]
            exact Weak.keep (TmLe.cons rfl rfl (TmLe.cons rfl rfl (TmLe.cons rfl rfl (TmLe.cons rfl rfl TmLe.nil)))) (KLe.cons (Nat.zero_lt_one) rfl rfl KLe.nil) (Nat.zero_le _) (Nat.le_refl _)
      · simp only [go_sem, s13_6, s13_5, s13_4, s13_2, ↓reduceIte, reduceCtorEq, Nat.reduceEqDiff, Nat.reduceAdd, Nat.reduceSub, Nat.reduceMul, Nat.reduceLT, Nat.reduceLeDiff, Int.reduceToNat]
        refine ⟨i + 1, ⟨by omega, fun hb j hj => by simp [hb] at h2⟩, by omega, ?_⟩
        rw [wrap_i (by omega) (by omega)]
        exact Weak.keep (TmLe.cons rfl rfl (TmLe.cons rfl rfl (TmLe.cons rfl rfl (TmLe.cons rfl rfl TmLe.nil)))) (KLe.cons (Nat.zero_lt_one) rfl rfl KLe.nil) (Nat.zero_le _) (Nat.le_refl _)
    · have hi' : i = 4 := by simp at h1; omega
      subst hi'
      simp only [go_sem, s13_1, ↓reduceIte, reduceCtorEq, Nat.reduceEqDiff, Nat.reduceAdd, Nat.reduceSub, Nat.reduceMul, Nat.reduceLT, Nat.reduceLeDiff, Int.reduceToNat]
      refine ⟨rfl, ?_⟩
      cases hb : isF f b with
      | false => simp [nearF, hb]
      | true =>
        have k := hno hb
        have k0 := k 0 (by omega); have k1 := k 1 (by omega); have k2 := k 2 (by omega); have k3 := k 3 (by omega)
        simp at k0 k1 k2 k3
        simp [nearF, hb, k0, k1, k2, k3]
end Go.Proofs.Ytcocbifjjafknaa.AL

/- Sites: the small questions. -/
set_option linter.unusedSimpArgs false
set_option linter.unusedVariables false
namespace Go.Proofs.Ytcocbifjjafknaa.AL
open Go

theorem f64 (n a b : Int) : Pure Try.prog 64 [tI n, tI a, tI b] (· = tB (decide (a ≤ n) && decide (n ≤ b))) := by
  refine Pure.of_awp hm Try.func64 s64_ok (by simp [s64]) ?_
  simp only [go_sem, s64, s64_1, ↓reduceIte, reduceCtorEq, Nat.reduceEqDiff, Nat.reduceAdd, Nat.reduceSub, Nat.reduceMul, Nat.reduceLT, Nat.reduceLeDiff, Int.reduceToNat]
  refine guardQ_at (fun h => ?_) (fun h => ?_) <;> exact ⟨rfl, by simp at h; first | (simp [h]; done) | (simp; omega)⟩

def standsK (k : Int) : Bool := decide (k = 1) || decide (k = 2)
def zonedK (k : Int) : Bool := decide (k ≠ 0) && decide (k ≠ 4) && decide (k ≠ 5)

theorem f91 (k : Int) : Pure Try.prog 91 [tI k] (· = tB (standsK k)) := by
  refine Pure.of_awp hm Try.func91 s91_ok (by simp [s91]) ?_
  simp only [go_sem, s91, s91_1, ↓reduceIte, reduceCtorEq, Nat.reduceEqDiff, Nat.reduceAdd, Nat.reduceSub, Nat.reduceMul, Nat.reduceLT, Nat.reduceLeDiff, Int.reduceToNat]
  refine guardQ_at (fun h => ?_) (fun h => ?_) <;> exact ⟨rfl, by simp at h; simp [standsK, h]⟩

theorem f89 (k : Int) : Pure Try.prog 89 [tI k] (· = tB (zonedK k)) := by
  refine Pure.of_awp hm Try.func89 s89_ok (by simp [s89]) ?_
  simp only [go_sem, s89, s89_1, s89_2, ↓reduceIte, reduceCtorEq, Nat.reduceEqDiff, Nat.reduceAdd, Nat.reduceSub, Nat.reduceMul, Nat.reduceLT, Nat.reduceLeDiff, Int.reduceToNat]
  repeat' (first | refine guardQ_at (fun _ => ?_) (fun _ => ?_) | refine twoQ_at (fun _ => ?_) (fun _ => ?_) | refine And.intro rfl ?_)
  all_goals simp_all [zonedK]

theorem f98 (s : ByteArray) (c : Int) : Pure Try.prog 98 [tS s, tV (.int .u8 c)] (· = tI (firstIdx s c.toNat.toUInt8)) := by
  refine Pure.of_awp hm Try.func98 s98_ok (by simp [s98]) ?_
  simp only [go_sem, s98, ↓reduceIte, reduceCtorEq, Nat.reduceEqDiff, Nat.reduceAdd, Nat.reduceSub, Nat.reduceMul, Nat.reduceLT, Nat.reduceLeDiff, Int.reduceToNat]
  rfl

theorem f87 (s : ByteArray) (c : Int) : Pure Try.prog 87 [tS s, tV (.int .u8 c)] (· = tI (firstIdx s c.toNat.toUInt8)) := by
  refine Pure.of_awp hm Try.func87 s87_ok (by simp [s87]) ?_
  simp only [go_sem, s87, ↓reduceIte, reduceCtorEq, Nat.reduceEqDiff, Nat.reduceAdd, Nat.reduceSub, Nat.reduceMul, Nat.reduceLT, Nat.reduceLeDiff, Int.reduceToNat]
  refine Pure.callS (f98 s c) rfl ?_
  simp only [go_sem, s87_1, ↓reduceIte, reduceCtorEq, Nat.reduceEqDiff, Nat.reduceAdd, Nat.reduceSub, Nat.reduceMul, Nat.reduceLT, Nat.reduceLeDiff, Int.reduceToNat]
  rfl

theorem f63 (s : ByteArray) : Pure Try.prog 63 [tS s] (fun d => ∃ b, d = tB b ∧ (b = true → 1 ≤ s.size ∧ s.size ≤ 20)) := by
  refine Pure.of_awp hm Try.func63 s63_ok (by simp [s63]) ?_
  simp only [go_sem, s63, ↓reduceIte, reduceCtorEq, Nat.reduceEqDiff, Nat.reduceAdd, Nat.reduceSub, Nat.reduceMul, Nat.reduceLT, Nat.reduceLeDiff, Int.reduceToNat]
  have tail : ∀ {tm : Nat → Option T} {K : KMap} {N : Nat}, 1 ≤ s.size → s.size ≤ 20 → tm 0 = some (tS s) → awp Try.prog 0 s63_8 ⟨tm, K, N⟩ (retP [SRes.tmp 2] fun d => ∃ b, d = tB b ∧ (b = true → 1 ≤ s.size ∧ s.size ≤ 20)) := by
    intro tm K N hs1 hs2 h0
    simp only [go_sem, s63_8, h0, ↓reduceIte, reduceCtorEq, Nat.reduceEqDiff, Nat.reduceAdd, Nat.reduceSub, Nat.reduceMul, Nat.reduceLT, Nat.reduceLeDiff, Int.reduceToNat]
    refine awp_loop (fun i : Nat => ⟨upd (upd (upd emp 0 (tS s)) 23 (tI s.size)) 24 (tI i), emp, 0⟩) (fun i => s.size - i) (fun i => i ≤ s.size) 0 (Nat.zero_le _) ?_ ?_
    · exact Weak.keep (TmLe.cons rfl rfl (TmLe.cons rfl rfl (TmLe.cons (by simp [upd, h0]) rfl TmLe.nil))) KLe.nil (Nat.le_refl _) (Nat.zero_le _)
    · intro i hi
      simp only [go_sem, s63_7, ↓reduceIte, reduceCtorEq, Nat.reduceEqDiff, Nat.reduceAdd, Nat.reduceSub, Nat.reduceMul, Nat.reduceLT, Nat.reduceLeDiff, Int.reduceToNat]
      refine twoQ_at (fun h => ?_) (fun h => ?_)
      · have hi' : i < s.size := by simpa using h
        simp only [go_sem, s63_6, ↓reduceIte, reduceCtorEq, Nat.reduceEqDiff, Nat.reduceAdd, Nat.reduceSub, Nat.reduceMul, Nat.reduceLT, Nat.reduceLeDiff, Int.reduceToNat]
        refine ⟨⟨by omega, by omega⟩, ?_⟩
        refine Pure.callS (f87 _ _) rfl ?_
        simp only [go_sem, s63_5, s63_4, s63_3, ↓reduceIte, reduceCtorEq, Nat.reduceEqDiff, Nat.reduceAdd, Nat.reduceSub, Nat.reduceMul, Nat.reduceLT, Nat.reduceLeDiff, Int.reduceToNat]
        refine twoQ_at (fun h2 => ?_) (fun h2 => ?_)
        · exact ⟨rfl, false, rfl, fun h => by cases h⟩
        · simp only [go_sem, s63_2, ↓reduceIte, reduceCtorEq, Nat.reduceEqDiff, Nat.reduceAdd, Nat.reduceSub, Nat.reduceMul, Nat.reduceLT, Nat.reduceLeDiff, Int.reduceToNat]
          refine ⟨i + 1, by omega, by omega, ?_⟩
          rw [wrap_i (by omega) (by omega)]
          exact Weak.keep (TmLe.cons rfl rfl (TmLe.cons rfl rfl (TmLe.cons rfl rfl TmLe.nil))) KLe.nil (Nat.le_refl _) (Nat.le_refl _)
      · simp only [go_sem, s63_1, ↓reduceIte, reduceCtorEq, Nat.reduceEqDiff, Nat.reduceAdd, Nat.reduceSub, Nat.reduceMul, Nat.reduceLT, Nat.reduceLeDiff, Int.reduceToNat]
        exact ⟨rfl, true, rfl, fun _ => ⟨hs1, hs2⟩⟩
  refine guardQ_at (fun h1 => ?_) (fun h1 => ?_)
  · simp only [decide_eq_false_iff_not] at h1
    simp only [go_sem, s63_14, ↓reduceIte, reduceCtorEq, Nat.reduceEqDiff, Nat.reduceAdd, Nat.reduceSub, Nat.reduceMul, Nat.reduceLT, Nat.reduceLeDiff, Int.reduceToNat]
    refine guardQ_at (fun h2 => ?_) (fun h2 => ?_)
    · simp only [decide_eq_false_iff_not] at h2
      simp only [go_sem, s63_13, ↓reduceIte, reduceCtorEq, Nat.reduceEqDiff, Nat.reduceAdd, Nat.reduceSub, Nat.reduceMul, Nat.reduceLT, Nat.reduceLeDiff, Int.reduceToNat]
      refine ⟨⟨by omega, by omega⟩, ?_⟩
      refine guardQ_at (fun h3 => ?_) (fun h3 => ?_)
      · simp only [go_sem, s63_12, s63_11, s63_10, s63_9, ↓reduceIte, reduceCtorEq, Nat.reduceEqDiff, Nat.reduceAdd, Nat.reduceSub, Nat.reduceMul, Nat.reduceLT, Nat.reduceLeDiff, Int.reduceToNat]
        refine ⟨⟨by omega, by omega⟩, ?_⟩
        refine twoQ_at (fun h4 => ?_) (fun h4 => ?_)
        · exact ⟨rfl, false, rfl, fun h => by cases h⟩
        · exact tail (by omega) (by omega) rfl
      · simp only [go_sem, s63_12, s63_11, s63_10, s63_9, ↓reduceIte, reduceCtorEq, Nat.reduceEqDiff, Nat.reduceAdd, Nat.reduceSub, Nat.reduceMul, Nat.reduceLT, Nat.reduceLeDiff, Int.reduceToNat]
        exact tail (by omega) (by omega) rfl
    · simp only [go_sem, s63_13, s63_12, s63_11, s63_10, s63_9, ↓reduceIte, reduceCtorEq, Nat.reduceEqDiff, Nat.reduceAdd, Nat.reduceSub, Nat.reduceMul, Nat.reduceLT, Nat.reduceLeDiff, Int.reduceToNat]
      exact ⟨rfl, false, rfl, fun h => by cases h⟩
  · simp only [go_sem, s63_14, s63_13, s63_12, s63_11, s63_10, s63_9, ↓reduceIte, reduceCtorEq, Nat.reduceEqDiff, Nat.reduceAdd, Nat.reduceSub, Nat.reduceMul, Nat.reduceLT, Nat.reduceLeDiff, Int.reduceToNat]
    exact ⟨rfl, false, rfl, fun h => by cases h⟩
def spans (l : List (Int × Int)) : List (List R) := l.map fun x => [.val (.int .i64 x.1), .val (.int .i64 x.2)]
theorem spans_len {l : List (Int × Int)} : (spans l).length = l.length := by simp [spans]
theorem spans_at {l : List (Int × Int)} {i : Nat} (h : i < l.length) : (spans l).getD i [] = [R.val (.int .i64 (l.getD i (0, 0)).1), R.val (.int .i64 (l.getD i (0, 0)).2)] := by simp [spans, h]

/-- Spans as those of a zone have to be. -/
def ShutOk (l : List (Int × Int)) : Prop := ∀ i, i < l.length → (if i = 0 then 0 else (l.getD (i - 1) (0, 0)).2) ≤ (l.getD i (0, 0)).1 ∧ (l.getD i (0, 0)).1 < (l.getD i (0, 0)).2 ∧ (l.getD i (0, 0)).2 ≤ 20000

def lastTo (l : List (Int × Int)) (i : Nat) : Int := if i = 0 then 0 else (l.getD (i - 1) (0, 0)).2

theorem f65 (l : List (Int × Int)) (hl : l.length ≤ 140737488355328) : Pure Try.prog 65 [tC (.r (.rd 2 (spans l)))] (fun d => ∃ b, d = tB b ∧ (b = true → ShutOk l)) := by
  refine Pure.of_awp hm Try.func65 s65_ok (by simp [s65]) ?_
  simp only [go_sem, s65, spans_len, ↓reduceIte, reduceCtorEq, Nat.reduceEqDiff, Nat.reduceAdd, Nat.reduceSub, Nat.reduceMul, Nat.reduceLT, Nat.reduceLeDiff, Int.reduceToNat]
  refine awp_loop (fun i : Nat => ⟨upd (upd (upd (upd emp 6 (tC (.r (.rd 2 (spans l))))) 7 (tI l.length)) 3 (tI (lastTo l i))) 8 (tI i), emp, 0⟩) (fun i => l.length - i) (fun i => i ≤ l.length ∧ ∀ j, j < i → lastTo l j ≤ (l.getD j (0, 0)).1 ∧ (l.getD j (0, 0)).1 < (l.getD j (0, 0)).2 ∧ (l.getD j (0, 0)).2 ≤ 20000) 0 ⟨Nat.zero_le _, fun j hj => by omega⟩ ?_ ?_
  · exact Weak.keep (TmLe.cons rfl rfl (TmLe.cons rfl rfl (TmLe.cons rfl rfl (TmLe.cons rfl rfl TmLe.nil)))) KLe.nil (Nat.le_refl _) (Nat.le_refl _)
  · intro i ⟨hi, hin⟩
    simp only [go_sem, s65_9, ↓reduceIte, reduceCtorEq, Nat.reduceEqDiff, Nat.reduceAdd, Nat.reduceSub, Nat.reduceMul, Nat.reduceLT, Nat.reduceLeDiff, Int.reduceToNat]
    refine twoQ_at (fun h => ?_) (fun h => ?_)
    · have hi' : i < l.length := by simpa using h
      simp only [go_sem, s65_8, spans_len, spans_at hi', Int.toNat_natCast, ↓reduceIte, reduceCtorEq, Nat.reduceEqDiff, Nat.reduceAdd, Nat.reduceSub, Nat.reduceMul, Nat.reduceLT, Nat.reduceLeDiff, Int.reduceToNat]
      refine ⟨⟨by omega, by omega⟩, guardQ_at (fun h1 => ?_) (fun h1 => ?_)⟩
      · simp only [go_sem, s65_7, ↓reduceIte, reduceCtorEq, Nat.reduceEqDiff, Nat.reduceAdd, Nat.reduceSub, Nat.reduceMul, Nat.reduceLT, Nat.reduceLeDiff, Int.reduceToNat]
        refine guardQ_at (fun h2 => ?_) (fun h2 => ?_)
        · simp only [go_sem, s65_6, s65_5, s65_4, ↓reduceIte, reduceCtorEq, Nat.reduceEqDiff, Nat.reduceAdd, Nat.reduceSub, Nat.reduceMul, Nat.reduceLT, Nat.reduceLeDiff, Int.reduceToNat]
          refine twoQ_at (fun h3 => ?_) (fun h3 => ?_)
          · exact ⟨rfl, false, rfl, fun h => by cases h⟩
          · simp only [go_sem, s65_3, s65_2, ↓reduceIte, reduceCtorEq, Nat.reduceEqDiff, Nat.reduceAdd, Nat.reduceSub, Nat.reduceMul, Nat.reduceLT, Nat.reduceLeDiff, Int.reduceToNat]
            simp only [decide_eq_false_iff_not] at h1 h2 h3
            refine ⟨i + 1, ⟨by omega, fun j hj => ?_⟩, by omega, ?_⟩
            · by_cases e : j = i
              · subst e; exact ⟨by omega, by omega, by omega⟩
              · exact hin j (by omega)
            · rw [wrap_i (by omega) (by omega)]
              exact Weak.keep (TmLe.cons rfl rfl (TmLe.cons rfl rfl (TmLe.cons rfl rfl (TmLe.cons rfl rfl TmLe.nil)))) KLe.nil (Nat.le_refl _) (Nat.zero_le _)
        · simp only [go_sem, s65_6, s65_5, s65_4, ↓reduceIte, reduceCtorEq, Nat.reduceEqDiff, Nat.reduceAdd, Nat.reduceSub, Nat.reduceMul, Nat.reduceLT, Nat.reduceLeDiff, Int.reduceToNat]
          exact ⟨rfl, false, rfl, fun h => by cases h⟩
      · simp only [go_sem, s65_7, s65_6, s65_5, s65_4, ↓reduceIte, reduceCtorEq, Nat.reduceEqDiff, Nat.reduceAdd, Nat.reduceSub, Nat.reduceMul, Nat.reduceLT, Nat.reduceLeDiff, Int.reduceToNat]
        exact ⟨rfl, false, rfl, fun h => by cases h⟩
    · simp only [go_sem, s65_1, ↓reduceIte, reduceCtorEq, Nat.reduceEqDiff, Nat.reduceAdd, Nat.reduceSub, Nat.reduceMul, Nat.reduceLT, Nat.reduceLeDiff, Int.reduceToNat]
      have : i = l.length := by simp at h; omega
      subst this
      exact ⟨rfl, true, rfl, fun _ => hin⟩
end Go.Proofs.Ytcocbifjjafknaa.AL

/- IndexFunc over rows, and the functions that use it. -/
set_option linter.unusedSimpArgs false
set_option linter.unusedVariables false
namespace Go.Proofs.Ytcocbifjjafknaa.AL
open Go

theorem f47 {K : KMap} {N g : Nat} {caps : List Nat} (rows : List (List R)) (p : Nat → Bool) (hl : rows.length ≤ 140737488355328) (hcaps : caps.all (· < N) = true) (hK : ∀ i o, K i = some o → i < N ∧ o.below N = true)
    (hrow : ∀ i, i < rows.length → (rows.getD i []).length = 6) (hp : ∀ i, i < rows.length → PureK Try.prog g (.v (.agg ((rows.getD i []).map C.r)) :: caps.map fun id => tC (.ptr id 0 0 0)) K N (· = tB (p i))) :
    PureK Try.prog 47 [tC (.r (.rd 6 rows)), tC (.fn g caps)] K N (· = tI (idxF p rows.length)) := by
  refine PureK.of_awp hm Try.func47 s47_ok (by simp [s47]) ?_
  simp only [go_sem, s47, ↓reduceIte, reduceCtorEq, Nat.reduceEqDiff, Nat.reduceAdd, Nat.reduceSub, Nat.reduceMul, Nat.reduceLT, Nat.reduceLeDiff, Int.reduceToNat]
  refine awp_loop (fun i : Nat => ⟨upd (upd (upd (upd emp 0 (tC (.r (.rd 6 rows)))) 1 (tC (.fn g caps))) 7 (tI rows.length)) 8 (tI i), K, N⟩) (fun i => rows.length - i) (fun i => i ≤ rows.length ∧ ∀ j, j < i → p j = false) 0 ⟨Nat.zero_le _, fun j hj => by omega⟩ ?_ ?_
  · exact Weak.keep (TmLe.cons rfl rfl (TmLe.cons rfl rfl (TmLe.cons rfl hcaps (TmLe.cons rfl rfl TmLe.nil)))) (KLe.self hK) (Nat.le_refl _) (Nat.le_refl _)
  · intro i ⟨hi, hno⟩
    simp only [go_sem, s47_7, ↓reduceIte, reduceCtorEq, Nat.reduceEqDiff, Nat.reduceAdd, Nat.reduceSub, Nat.reduceMul, Nat.reduceLT, Nat.reduceLeDiff, Int.reduceToNat]
    refine twoQ_at (fun h => ?_) (fun h => ?_)
    · have hi' : i < rows.length := by simpa using h
      have hx : (rows.getD i []).take 6 = rows.getD i [] := List.take_of_length_le (by rw [hrow i hi']; exact Nat.le_refl _)
      simp only [go_sem, s47_6, Int.toNat_natCast, hx, hrow i hi', ↓reduceIte, reduceCtorEq, Nat.reduceEqDiff, Nat.reduceAdd, Nat.reduceSub, Nat.reduceMul, Nat.reduceLT, Nat.reduceLeDiff, Int.reduceToNat]
      refine ⟨⟨by omega, by omega⟩, ?_⟩
      refine PureK.callId (hp i hi') hK (fun a ha => ?_) ?_
      · rcases List.mem_cons.1 ha with rfl | ha
        · simp [T.below, V.below, C.below]
        · obtain ⟨id, hid, rfl⟩ := List.mem_map.1 ha
          simp only [List.all_eq_true] at hcaps
          simpa [T.below, V.below, C.below] using hcaps id hid
      · rintro _ rfl _
        simp only [go_sem, s47_5, s47_4, s47_3, ↓reduceIte, reduceCtorEq, Nat.reduceEqDiff, Nat.reduceAdd, Nat.reduceSub, Nat.reduceMul, Nat.reduceLT, Nat.reduceLeDiff, Int.reduceToNat]
        refine twoQ_at (fun h2 => ?_) (fun h2 => ?_)
        · refine ⟨rfl, KLe.self hK, ?_⟩
          rw [idxF_hit hi' h2 hno]
        · simp only [go_sem, s47_2, ↓reduceIte, reduceCtorEq, Nat.reduceEqDiff, Nat.reduceAdd, Nat.reduceSub, Nat.reduceMul, Nat.reduceLT, Nat.reduceLeDiff, Int.reduceToNat]
          refine ⟨i + 1, ⟨by omega, fun j hj => ?_⟩, by omega, ?_⟩
          · by_cases e : j = i
            · subst e; exact h2
            · exact hno j (by omega)
          · rw [wrap_i (by omega) (by omega)]
            exact Weak.keep (TmLe.cons rfl rfl (TmLe.cons rfl rfl (TmLe.cons rfl hcaps (TmLe.cons rfl rfl TmLe.nil)))) (KLe.self hK) (Nat.le_refl _) (Nat.le_refl _)
    · have hi' : i = rows.length := by simp at h; omega
      simp only [go_sem, s47_1, ↓reduceIte, reduceCtorEq, Nat.reduceEqDiff, Nat.reduceAdd, Nat.reduceSub, Nat.reduceMul, Nat.reduceLT, Nat.reduceLeDiff, Int.reduceToNat]
      refine ⟨rfl, KLe.self hK, ?_⟩
      rw [idxF_none (fun j hj => hno j (by omega))]

theorem f52 {K : KMap} {N g : Nat} {caps : List Nat} (rows : List (List R)) (p : Nat → Bool) (hl : rows.length ≤ 140737488355328) (hcaps : caps.all (· < N) = true) (hK : ∀ i o, K i = some o → i < N ∧ o.below N = true)
    (hrow : ∀ i, i < rows.length → (rows.getD i []).length = 5) (hp : ∀ i, i < rows.length → PureK Try.prog g (.v (.agg ((rows.getD i []).map C.r)) :: caps.map fun id => tC (.ptr id 0 0 0)) K N (· = tB (p i))) :
    PureK Try.prog 52 [tC (.r (.rd 5 rows)), tC (.fn g caps)] K N (· = tI (idxF p rows.length)) := by
  refine PureK.of_awp hm Try.func52 s52_ok (by simp [s52]) ?_
  simp only [go_sem, s52, ↓reduceIte, reduceCtorEq, Nat.reduceEqDiff, Nat.reduceAdd, Nat.reduceSub, Nat.reduceMul, Nat.reduceLT, Nat.reduceLeDiff, Int.reduceToNat]
  refine awp_loop (fun i : Nat => ⟨upd (upd (upd (upd emp 0 (tC (.r (.rd 5 rows)))) 1 (tC (.fn g caps))) 7 (tI rows.length)) 8 (tI i), K, N⟩) (fun i => rows.length - i) (fun i => i ≤ rows.length ∧ ∀ j, j < i → p j = false) 0 ⟨Nat.zero_le _, fun j hj => by omega⟩ ?_ ?_
  · exact Weak.keep (TmLe.cons rfl rfl (TmLe.cons rfl rfl (TmLe.cons rfl hcaps (TmLe.cons rfl rfl TmLe.nil)))) (KLe.self hK) (Nat.le_refl _) (Nat.le_refl _)
  · intro i ⟨hi, hno⟩
    simp only [go_sem, s52_7, ↓reduceIte, reduceCtorEq, Nat.reduceEqDiff, Nat.reduceAdd, Nat.reduceSub, Nat.reduceMul, Nat.reduceLT, Nat.reduceLeDiff, Int.reduceToNat]
    refine twoQ_at (fun h => ?_) (fun h => ?_)
    · have hi' : i < rows.length := by simpa using h
      have hx : (rows.getD i []).take 5 = rows.getD i [] := List.take_of_length_le (by rw [hrow i hi']; exact Nat.le_refl _)
      simp only [go_sem, s52_6, Int.toNat_natCast, hx, hrow i hi', ↓reduceIte, reduceCtorEq, Nat.reduceEqDiff, Nat.reduceAdd, Nat.reduceSub, Nat.reduceMul, Nat.reduceLT, Nat.reduceLeDiff, Int.reduceToNat]
      refine ⟨⟨by omega, by omega⟩, ?_⟩
      refine PureK.callId (hp i hi') hK (fun a ha => ?_) ?_
      · rcases List.mem_cons.1 ha with rfl | ha
        · simp [T.below, V.below, C.below]
        · obtain ⟨id, hid, rfl⟩ := List.mem_map.1 ha
          simp only [List.all_eq_true] at hcaps
          simpa [T.below, V.below, C.below] using hcaps id hid
      · rintro _ rfl _
        simp only [go_sem, s52_5, s52_4, s52_3, ↓reduceIte, reduceCtorEq, Nat.reduceEqDiff, Nat.reduceAdd, Nat.reduceSub, Nat.reduceMul, Nat.reduceLT, Nat.reduceLeDiff, Int.reduceToNat]
        refine twoQ_at (fun h2 => ?_) (fun h2 => ?_)
        · refine ⟨rfl, KLe.self hK, ?_⟩
          rw [idxF_hit hi' h2 hno]
        · simp only [go_sem, s52_2, ↓reduceIte, reduceCtorEq, Nat.reduceEqDiff, Nat.reduceAdd, Nat.reduceSub, Nat.reduceMul, Nat.reduceLT, Nat.reduceLeDiff, Int.reduceToNat]
          refine ⟨i + 1, ⟨by omega, fun j hj => ?_⟩, by omega, ?_⟩
          · by_cases e : j = i
            · subst e; exact h2
            · exact hno j (by omega)
          · rw [wrap_i (by omega) (by omega)]
            exact Weak.keep (TmLe.cons rfl rfl (TmLe.cons rfl rfl (TmLe.cons rfl hcaps (TmLe.cons rfl rfl TmLe.nil)))) (KLe.self hK) (Nat.le_refl _) (Nat.le_refl _)
    · have hi' : i = rows.length := by simp at h; omega
      simp only [go_sem, s52_1, ↓reduceIte, reduceCtorEq, Nat.reduceEqDiff, Nat.reduceAdd, Nat.reduceSub, Nat.reduceMul, Nat.reduceLT, Nat.reduceLeDiff, Int.reduceToNat]
      refine ⟨rfl, KLe.self hK, ?_⟩
      rw [idxF_none (fun j hj => hno j (by omega))]

theorem f85 {K : KMap} {N g : Nat} {caps : List Nat} (rows : List (List R)) (p : Nat → Bool) (hl : rows.length ≤ 140737488355328) (hcaps : caps.all (· < N) = true) (hK : ∀ i o, K i = some o → i < N ∧ o.below N = true)
    (hrow : ∀ i, i < rows.length → (rows.getD i []).length = 2) (hp : ∀ i, i < rows.length → PureK Try.prog g (.v (.agg ((rows.getD i []).map C.r)) :: caps.map fun id => tC (.ptr id 0 0 0)) K N (· = tB (p i))) :
    PureK Try.prog 85 [tC (.r (.rd 2 rows)), tC (.fn g caps)] K N (· = tI (idxF p rows.length)) := by
  refine PureK.of_awp hm Try.func85 s85_ok (by simp [s85]) ?_
  simp only [go_sem, s85, ↓reduceIte, reduceCtorEq, Nat.reduceEqDiff, Nat.reduceAdd, Nat.reduceSub, Nat.reduceMul, Nat.reduceLT, Nat.reduceLeDiff, Int.reduceToNat]
  refine awp_loop (fun i : Nat => ⟨upd (upd (upd (upd emp 0 (tC (.r (.rd 2 rows)))) 1 (tC (.fn g caps))) 7 (tI rows.length)) 8 (tI i), K, N⟩) (fun i => rows.length - i) (fun i => i ≤ rows.length ∧ ∀ j, j < i → p j = false) 0 ⟨Nat.zero_le _, fun j hj => by omega⟩ ?_ ?_
  · exact Weak.keep (TmLe.cons rfl rfl (TmLe.cons rfl rfl (TmLe.cons rfl hcaps (TmLe.cons rfl rfl TmLe.nil)))) (KLe.self hK) (Nat.le_refl _) (Nat.le_refl _)
  · intro i ⟨hi, hno⟩
    simp only [go_sem, s85_7, ↓reduceIte, reduceCtorEq, Nat.reduceEqDiff, Nat.reduceAdd, Nat.reduceSub, Nat.reduceMul, Nat.reduceLT, Nat.reduceLeDiff, Int.reduceToNat]
    refine twoQ_at (fun h => ?_) (fun h => ?_)
    · have hi' : i < rows.length := by simpa using h
      have hx : (rows.getD i []).take 2 = rows.getD i [] := List.take_of_length_le (by rw [hrow i hi']; exact Nat.le_refl _)
      simp only [go_sem, s85_6, Int.toNat_natCast, hx, hrow i hi', ↓reduceIte, reduceCtorEq, Nat.reduceEqDiff, Nat.reduceAdd, Nat.reduceSub, Nat.reduceMul, Nat.reduceLT, Nat.reduceLeDiff, Int.reduceToNat]
      refine ⟨⟨by omega, by omega⟩, ?_⟩
      refine PureK.callId (hp i hi') hK (fun a ha => ?_) ?_
      · rcases List.mem_cons.1 ha with rfl | ha
        · simp [T.below, V.below, C.below]
        · obtain ⟨id, hid, rfl⟩ := List.mem_map.1 ha
          simp only [List.all_eq_true] at hcaps
          simpa [T.below, V.below, C.below] using hcaps id hid
      · rintro _ rfl _
        simp only [go_sem, s85_5, s85_4, s85_3, ↓reduceIte, reduceCtorEq, Nat.reduceEqDiff, Nat.reduceAdd, Nat.reduceSub, Nat.reduceMul, Nat.reduceLT, Nat.reduceLeDiff, Int.reduceToNat]
        refine twoQ_at (fun h2 => ?_) (fun h2 => ?_)
        · refine ⟨rfl, KLe.self hK, ?_⟩
          rw [idxF_hit hi' h2 hno]
        · simp only [go_sem, s85_2, ↓reduceIte, reduceCtorEq, Nat.reduceEqDiff, Nat.reduceAdd, Nat.reduceSub, Nat.reduceMul, Nat.reduceLT, Nat.reduceLeDiff, Int.reduceToNat]
          refine ⟨i + 1, ⟨by omega, fun j hj => ?_⟩, by omega, ?_⟩
          · by_cases e : j = i
            · subst e; exact h2
            · exact hno j (by omega)
          · rw [wrap_i (by omega) (by omega)]
            exact Weak.keep (TmLe.cons rfl rfl (TmLe.cons rfl rfl (TmLe.cons rfl hcaps (TmLe.cons rfl rfl TmLe.nil)))) (KLe.self hK) (Nat.le_refl _) (Nat.le_refl _)
    · have hi' : i = rows.length := by simp at h; omega
      simp only [go_sem, s85_1, ↓reduceIte, reduceCtorEq, Nat.reduceEqDiff, Nat.reduceAdd, Nat.reduceSub, Nat.reduceMul, Nat.reduceLT, Nat.reduceLeDiff, Int.reduceToNat]
      refine ⟨rfl, KLe.self hK, ?_⟩
      rw [idxF_none (fun j hj => hno j (by omega))]

structure RobotD where
  cell : Int
  load : Int
  charge : Int
  rest : Int
  mute : Int
  dead : Bool
  deriving Inhabited

def encRobot (r : RobotD) : List R := [.val (.int .i64 r.cell), .val (.int .i64 r.load), .val (.int .i64 r.charge), .val (.int .i64 r.rest), .val (.int .i64 r.mute), .val (.bool r.dead)]

structure StateD where
  tick : Int
  shelves : List Int
  robots : List RobotD
  people : List Int
  dead : List Int
  stuck : List (Int × Int)

def encState (s : StateD) : List C := [cV (.int .i64 s.tick), .r (.rd 1 (ints s.shelves)), .r (.rd 6 (s.robots.map encRobot)), .r (.rd 1 (ints s.people)), .r (.rd 1 (ints s.dead)), .r (.rd 2 (spans s.stuck))]

theorem f48 (r : RobotD) (n : Int) : PureK Try.prog 48 [.v (.agg ((encRobot r).map C.r)), tC (.ptr 0 0 0 0)] (upd emp 0 (.row 0 1 [[cV (.int .i64 n)]])) 1 (· = tB (decide (r.load = n))) := by
  refine PureK.of_awp hm Try.func48 s48_ok (by simp [s48]) ?_
  simp only [go_sem, s48, encRobot, ↓reduceIte, reduceCtorEq, Nat.reduceEqDiff, Nat.reduceAdd, Nat.reduceSub, Nat.reduceMul, Nat.reduceLT, Nat.reduceLeDiff, Int.reduceToNat]
  refine ⟨rfl, ?_⟩
  exact KLe.cons (by omega) rfl rfl KLe.nil

def carriedF (st : StateD) (n : Int) : Int := if n < 0 then -1 else idxF (fun i => decide ((st.robots.getD i default).load = n)) st.robots.length

theorem rows_len {α : Type} {f : α → List R} {l : List α} : (l.map f).length = l.length := by simp
theorem rows_at {α : Type} [Inhabited α] {f : α → List R} {l : List α} {i : Nat} (h : i < l.length) : (l.map f).getD i [] = f (l.getD i default) := by simp [h]

theorem box1 {c : C} (h : c.below 1 = true) : ∀ i o, (upd emp 0 (.row 0 1 [[c]]) : KMap) i = some o → i < 1 ∧ o.below 1 = true := fun i o hk => by
  unfold upd at hk
  split at hk
  · cases hk
    refine ⟨by omega, by simp [AObj.below, h]⟩
  · cases hk

theorem f14 (st : StateD) (n : Int) (hl : st.robots.length ≤ 140737488355328) : Pure Try.prog 14 [.v (.agg (encState st)), tI n] (· = tI (carriedF st n)) := by
  refine Pure.of_awp hm Try.func14 s14_ok (by simp [s14]) ?_
  simp only [go_sem, s14, encState, ↓reduceIte, reduceCtorEq, Nat.reduceEqDiff, Nat.reduceAdd, Nat.reduceSub, Nat.reduceMul, Nat.reduceLT, Nat.reduceLeDiff, Int.reduceToNat]
  refine twoQ_at (fun h => ?_) (fun h => ?_)
  · simp only [go_sem, s14_3, ↓reduceIte, reduceCtorEq, Nat.reduceEqDiff, Nat.reduceAdd, Nat.reduceSub, Nat.reduceMul, Nat.reduceLT, Nat.reduceLeDiff, Int.reduceToNat]
    exact ⟨rfl, by simp at h; simp [carriedF, h]⟩
  · simp only [go_sem, s14_2, ↓reduceIte, reduceCtorEq, Nat.reduceEqDiff, Nat.reduceAdd, Nat.reduceSub, Nat.reduceMul, Nat.reduceLT, Nat.reduceLeDiff, Int.reduceToNat]
    refine PureK.call (f47 (K := upd emp 0 (.row 0 1 [[cV (.int .i64 n)]])) (N := 1) (g := 48) (caps := [0]) (st.robots.map encRobot) (fun i => decide ((st.robots.getD i default).load = n)) (by simpa using hl) rfl (box1 rfl)
      (fun i hi => ?_) (fun i hi => ?_)) (fun _ => 1) (fun i _ => by omega) (fun i j hi hj _ => by omega) (box1 rfl) (fun i hi => ?_) rfl (fun a ha => ?_) ?_
    · rw [rows_at (by simpa using hi)]; rfl
    · rw [rows_at (by simpa using hi)]
      exact f48 _ n
    · obtain rfl : i = 0 := by omega
      rfl
    · simp only [List.mem_cons, List.not_mem_nil, or_false] at ha
      rcases ha with rfl | rfl <;> rfl
    · rintro _ rfl _
      simp only [go_sem, s14_1, ↓reduceIte, reduceCtorEq, Nat.reduceEqDiff, Nat.reduceAdd, Nat.reduceSub, Nat.reduceMul, Nat.reduceLT, Nat.reduceLeDiff, Int.reduceToNat]
      exact ⟨rfl, by simp at h; simp [carriedF, Int.not_lt.2 h]⟩
end Go.Proofs.Ytcocbifjjafknaa.AL

/- Search in a sorted list. -/
set_option linter.unusedSimpArgs false
set_option linter.unusedVariables false
namespace Go.Proofs.Ytcocbifjjafknaa.AL
open Go

theorem f97 (n : Int) : Pure Try.prog 97 [tI n] (· = tB false) := by
  refine Pure.of_awp hm Try.func97 s97_ok (by simp [s97]) ?_
  simp only [go_sem, s97, ↓reduceIte, reduceCtorEq, Nat.reduceEqDiff, Nat.reduceAdd, Nat.reduceSub, Nat.reduceMul, Nat.reduceLT, Nat.reduceLeDiff, Int.reduceToNat]
  exact ⟨rfl, by simp⟩
theorem f84 (n : Int) : Pure Try.prog 84 [tI n] (· = tB false) := by
  refine Pure.of_awp hm Try.func84 s84_ok (by simp [s84]) ?_
  simp only [go_sem, s84, ↓reduceIte, reduceCtorEq, Nat.reduceEqDiff, Nat.reduceAdd, Nat.reduceSub, Nat.reduceMul, Nat.reduceLT, Nat.reduceLeDiff, Int.reduceToNat]
  exact ⟨rfl, by simp⟩
theorem f83 (a b : Int) : Pure Try.prog 83 [tI a, tI b] (· = tB (decide (a < b))) := by
  refine Pure.of_awp hm Try.func83 s83_ok (by simp [s83]) ?_
  simp only [go_sem, s83, ↓reduceIte, reduceCtorEq, Nat.reduceEqDiff, Nat.reduceAdd, Nat.reduceSub, Nat.reduceMul, Nat.reduceLT, Nat.reduceLeDiff, Int.reduceToNat]
  refine Pure.callS (f97 a) rfl ?_
  simp only [go_sem, s83_4, s83_3, s83_2, s83_1, ↓reduceIte, reduceCtorEq, Nat.reduceEqDiff, Nat.reduceAdd, Nat.reduceSub, Nat.reduceMul, Nat.reduceLT, Nat.reduceLeDiff, Int.reduceToNat]
  rfl

def Asc (l : List Int) : Prop := ∀ i j, i < j → j < l.length → l.getD i 0 < l.getD j 0

theorem mid_eq {i j : Nat} (h : i + j ≤ 1000000000000000) : IntKind.i64.wrap ((IntKind.u64.wrap (IntKind.i64.wrap ((i : Int) + j))).fdiv (2 ^ min 1 64)) = (((i + j) / 2 : Nat) : Int) := by
  have e : (2 : Int) ^ min 1 64 = 2 := rfl
  rw [e, wrap_i (n := (i : Int) + j) (by omega) (by omega), IntKind.wrap_u64, Int.fdiv_eq_ediv_of_nonneg _ (by omega), wrap_i (by omega) (by omega)]
  omega

theorem f54 (l : List Int) (x : Int) (hl : l.length ≤ 140737488355328) (ha : Asc l) : Pure Try.prog 54 [tC (.r (.rd 1 (ints l))), tI x] (fun d => ∃ p, d = .tup [.x (cV (.int .i64 p)), .x (cV (.bool (decide (x ∈ l))))]) := by
  refine Pure.of_awp hm Try.func54 s54_ok (by simp [s54]) ?_
  simp only [go_sem, s54, ints_len, ↓reduceIte, reduceCtorEq, Nat.reduceEqDiff, Nat.reduceAdd, Nat.reduceSub, Nat.reduceMul, Nat.reduceLT, Nat.reduceLeDiff, Int.reduceToNat]
  refine awp_loop (fun v : Nat × Nat => ⟨upd (upd (upd (upd (upd emp 0 (tC (.r (.rd 1 (ints l))))) 1 (tI x)) 6 (tI l.length)) 7 (tI v.1)) 8 (tI v.2), emp, 0⟩) (fun v => v.2 - v.1)
    (fun v => v.1 ≤ v.2 ∧ v.2 ≤ l.length ∧ (∀ k, k < v.1 → l.getD k 0 < x) ∧ ∀ k, v.2 ≤ k → k < l.length → x ≤ l.getD k 0) (0, l.length) ⟨Nat.zero_le _, Nat.le_refl _, fun k hk => by omega, fun k h1 h2 => by omega⟩ ?_ ?_
  · exact Weak.keep (TmLe.cons rfl rfl (TmLe.cons rfl rfl (TmLe.cons rfl rfl (TmLe.cons rfl rfl (TmLe.cons rfl rfl TmLe.nil))))) KLe.nil (Nat.le_refl _) (Nat.le_refl _)
  · rintro ⟨i, j⟩ ⟨h1, h2, h3, h4⟩
    simp only at h1 h2 h3 h4
    simp only [go_sem, s54_14, ↓reduceIte, reduceCtorEq, Nat.reduceEqDiff, Nat.reduceAdd, Nat.reduceSub, Nat.reduceMul, Nat.reduceLT, Nat.reduceLeDiff, Int.reduceToNat]
    refine twoQ_at (fun h => ?_) (fun h => ?_)
    · have hij : i < j := by simpa using h
      have hm1 : (i + j) / 2 < l.length := by omega
      have hm2 := mid_eq (i := i) (j := j) (by omega)
      simp only [go_sem, s54_13, hm2, Int.toNat_natCast, ints_len, ints_at hm1, ↓reduceIte, reduceCtorEq, Nat.reduceEqDiff, Nat.reduceAdd, Nat.reduceSub, Nat.reduceMul, Nat.reduceLT, Nat.reduceLeDiff, Int.reduceToNat]
      refine ⟨by omega, ⟨by omega, by omega⟩, ?_⟩
      refine Pure.callS (f83 _ _) rfl ?_
      simp only [go_sem, s54_12, s54_11, ↓reduceIte, reduceCtorEq, Nat.reduceEqDiff, Nat.reduceAdd, Nat.reduceSub, Nat.reduceMul, Nat.reduceLT, Nat.reduceLeDiff, Int.reduceToNat]
      refine twoQ_at (fun k => ?_) (fun k => ?_)
      · simp only [decide_eq_true_eq] at k
        simp only [go_sem, s54_9, ↓reduceIte, reduceCtorEq, Nat.reduceEqDiff, Nat.reduceAdd, Nat.reduceSub, Nat.reduceMul, Nat.reduceLT, Nat.reduceLeDiff, Int.reduceToNat]
        refine ⟨((i + j) / 2 + 1, j), ⟨by simp only; omega, h2, fun q hq => ?_, h4⟩, by simp only; omega, ?_⟩
        · simp only at hq
          by_cases e : q = (i + j) / 2
          · subst e; exact k
          · exact Int.lt_trans (ha q _ (by omega) hm1) k
        · rw [wrap_i (n := (((i + j) / 2 : Nat) : Int) + 1) (by omega) (by omega)]
          exact Weak.keep (TmLe.cons rfl rfl (TmLe.cons rfl rfl (TmLe.cons rfl rfl (TmLe.cons rfl rfl (TmLe.cons rfl rfl TmLe.nil))))) KLe.nil (Nat.le_refl _) (Nat.le_refl _)
      · simp only [decide_eq_false_iff_not] at k
        simp only [go_sem, s54_10, ↓reduceIte, reduceCtorEq, Nat.reduceEqDiff, Nat.reduceAdd, Nat.reduceSub, Nat.reduceMul, Nat.reduceLT, Nat.reduceLeDiff, Int.reduceToNat]
        refine ⟨(i, (i + j) / 2), ⟨by simp only; omega, by simp only; omega, h3, fun q hq hq2 => ?_⟩, by simp only; omega, ?_⟩
        · simp only at hq
          by_cases e : q = (i + j) / 2
          · subst e; omega
          · have := ha ((i + j) / 2) q (by omega) hq2; omega
        · exact Weak.keep (TmLe.cons rfl rfl (TmLe.cons rfl rfl (TmLe.cons rfl rfl (TmLe.cons rfl rfl (TmLe.cons rfl rfl TmLe.nil))))) KLe.nil (Nat.le_refl _) (Nat.le_refl _)
    · have hij : i = j := by simp at h; omega
      subst hij
      simp only [go_sem, s54_8, ↓reduceIte, reduceCtorEq, Nat.reduceEqDiff, Nat.reduceAdd, Nat.reduceSub, Nat.reduceMul, Nat.reduceLT, Nat.reduceLeDiff, Int.reduceToNat]
      refine guardQ_at (fun k => ?_) (fun k => ?_)
      · have hi : i < l.length := by simpa using k
        simp only [go_sem, s54_7, Int.toNat_natCast, ints_len, ints_at hi, ↓reduceIte, reduceCtorEq, Nat.reduceEqDiff, Nat.reduceAdd, Nat.reduceSub, Nat.reduceMul, Nat.reduceLT, Nat.reduceLeDiff, Int.reduceToNat]
        refine ⟨⟨by omega, by omega⟩, ?_⟩
        refine guardQ_at (fun k2 => ?_) (fun k2 => ?_)
        · simp only [decide_eq_false_iff_not] at k2
          simp only [go_sem, s54_6, Int.toNat_natCast, ints_len, ints_at hi, ↓reduceIte, reduceCtorEq, Nat.reduceEqDiff, Nat.reduceAdd, Nat.reduceSub, Nat.reduceMul, Nat.reduceLT, Nat.reduceLeDiff, Int.reduceToNat]
          refine ⟨⟨by omega, by omega⟩, ?_⟩
          refine Pure.callS (f84 _) rfl ?_
          simp only [go_sem, s54_5, s54_4, s54_3, s54_2, s54_1, ↓reduceIte, reduceCtorEq, Nat.reduceEqDiff, Nat.reduceAdd, Nat.reduceSub, Nat.reduceMul, Nat.reduceLT, Nat.reduceLeDiff, Int.reduceToNat]
          refine ⟨rfl, i, ?_⟩
          have : x ∉ l := fun hm => by
            obtain ⟨q, hq, he⟩ := mem_getD.1 hm
            rcases Nat.lt_trichotomy q i with c | c | c
            · have := h3 q c; omega
            · subst c; exact k2 he
            · have := h4 i (Nat.le_refl _) hi; have := ha i q c hq; omega
          simp [this]
        · simp only [Bool.not_false, decide_eq_true_eq] at k2
          simp only [go_sem, s54_6, s54_5, s54_4, s54_3, s54_2, s54_1, ↓reduceIte, reduceCtorEq, Nat.reduceEqDiff, Nat.reduceAdd, Nat.reduceSub, Nat.reduceMul, Nat.reduceLT, Nat.reduceLeDiff, Int.reduceToNat]
          refine ⟨rfl, i, ?_⟩
          have : x ∈ l := mem_getD.2 ⟨i, hi, k2⟩
          simp [this]
      · simp only [go_sem, s54_7, s54_6, s54_5, s54_4, s54_3, s54_2, s54_1, ↓reduceIte, reduceCtorEq, Nat.reduceEqDiff, Nat.reduceAdd, Nat.reduceSub, Nat.reduceMul, Nat.reduceLT, Nat.reduceLeDiff, Int.reduceToNat]
        refine ⟨rfl, i, ?_⟩
        have hi : ¬ i < l.length := by simpa using k
        have : x ∉ l := fun hm => by
          obtain ⟨q, hq, he⟩ := mem_getD.1 hm
          have := h3 q (by omega); omega
        simp [this]
end Go.Proofs.Ytcocbifjjafknaa.AL

/- Sites: cells, kinds, zones. -/
set_option linter.unusedSimpArgs false
set_option linter.unusedVariables false
namespace Go.Proofs.Ytcocbifjjafknaa.AL
open Go

structure ZoneD where
  name : ByteArray
  cells : List Int
  speed : Int
  keep : Int
  shut : List (Int × Int)
  deriving Inhabited
structure ApartD where
  a : ByteArray
  b : ByteArray
  deriving Inhabited
structure ShelfD where
  cell : Int
  cls : ByteArray
  deriving Inhabited
structure StartD where
  cell : Int
  charge : Int
  deriving Inhabited
structure SiteD where
  floor : FloorD
  zones : List ZoneD
  aparts : List ApartD
  shelves : List ShelfD
  robots : List StartD

def encZone (z : ZoneD) : List R := [.val (.string z.name), .rd 1 (ints z.cells), .val (.int .i64 z.speed), .val (.int .i64 z.keep), .rd 2 (spans z.shut)]
def encApart (x : ApartD) : List R := [.val (.string x.a), .val (.string x.b)]
def encShelf (x : ShelfD) : List R := [.val (.int .i64 x.cell), .val (.string x.cls)]
def encStart (x : StartD) : List R := [.val (.int .i64 x.cell), .val (.int .i64 x.charge)]
def encSite (s : SiteD) : List C := [cV (.int .i64 s.floor.w), cV (.int .i64 s.floor.h), cV (.int .i64 s.floor.d), .r (.rd 1 (ints s.floor.kind)), .r (.rd 1 (ints s.floor.out)),
  .r (.rd 5 (s.zones.map encZone)), .r (.rd 2 (s.aparts.map encApart)), .r (.rd 2 (s.shelves.map encShelf)), .r (.rd 2 (s.robots.map encStart))]

variable {s : SiteD}

def isCellF (s : SiteD) (c : Int) : Bool := decide (0 ≤ c) && decide (c < s.floor.n)

theorem f50 (c : Int) : Pure Try.prog 50 [.v (.agg (encSite s)), tI c] (· = tB (isCellF s c)) := by
  refine Pure.of_awp hm Try.func50 s50_ok (by simp [s50]) ?_
  simp only [go_sem, s50, s50_1, encSite, ints_len, ↓reduceIte, reduceCtorEq, Nat.reduceEqDiff, Nat.reduceAdd, Nat.reduceSub, Nat.reduceMul, Nat.reduceLT, Nat.reduceLeDiff, Int.reduceToNat]
  refine guardQ_at (fun h => ?_) (fun h => ?_)
  · exact ⟨rfl, by simp only [isCellF, h, Bool.true_and]; rfl⟩
  · exact ⟨rfl, by simp only [isCellF, h, Bool.not_true, Bool.false_and]⟩

def kindF (s : SiteD) (c : Int) : Int := s.floor.kind.getD c.toNat 0
def standsF (s : SiteD) (c : Int) : Bool := isCellF s c && standsK (kindF s c)

theorem isCell_lt {c : Int} (h : isCellF s c = true) : 0 ≤ c ∧ c < s.floor.kind.length ∧ c.toNat < s.floor.kind.length := by
  simp only [isCellF, Bool.and_eq_true, decide_eq_true_eq] at h
  have e : s.floor.n = (s.floor.kind.length : Int) := rfl
  rw [e] at h
  omega

theorem f16 (c : Int) : Pure Try.prog 16 [.v (.agg (encSite s)), tI c] (· = tB (standsF s c)) := by
  refine Pure.of_awp hm Try.func16 s16_ok (by simp [s16]) ?_
  simp only [go_sem, s16, encSite, ↓reduceIte, reduceCtorEq, Nat.reduceEqDiff, Nat.reduceAdd, Nat.reduceSub, Nat.reduceMul, Nat.reduceLT, Nat.reduceLeDiff, Int.reduceToNat]
  refine Pure.callS (f50 c) rfl ?_
  simp only [go_sem, s16_4, ↓reduceIte, reduceCtorEq, Nat.reduceEqDiff, Nat.reduceAdd, Nat.reduceSub, Nat.reduceMul, Nat.reduceLT, Nat.reduceLeDiff, Int.reduceToNat]
  refine guardQ_at (fun h => ?_) (fun h => ?_)
  · obtain ⟨h1, h2, h3⟩ := isCell_lt h
    simp only [go_sem, s16_3, ints_len, ints_at h3, ↓reduceIte, reduceCtorEq, Nat.reduceEqDiff, Nat.reduceAdd, Nat.reduceSub, Nat.reduceMul, Nat.reduceLT, Nat.reduceLeDiff, Int.reduceToNat]
    refine ⟨⟨h1, h2⟩, guardQ_at (fun k => ?_) (fun k => ?_)⟩
    · simp only [go_sem, s16_2, s16_1, ints_len, ints_at h3, ↓reduceIte, reduceCtorEq, Nat.reduceEqDiff, Nat.reduceAdd, Nat.reduceSub, Nat.reduceMul, Nat.reduceLT, Nat.reduceLeDiff, Int.reduceToNat]
      refine ⟨⟨h1, h2⟩, rfl, ?_⟩
      simp only [decide_eq_false_iff_not] at k
      have k' : kindF s c ≠ 1 := k
      simp [standsF, standsK, h, k']
      rfl
    · simp only [go_sem, s16_2, s16_1, ↓reduceIte, reduceCtorEq, Nat.reduceEqDiff, Nat.reduceAdd, Nat.reduceSub, Nat.reduceMul, Nat.reduceLT, Nat.reduceLeDiff, Int.reduceToNat]
      refine ⟨rfl, ?_⟩
      simp at k
      simp [standsF, standsK, kindF, h, k]
  · simp only [go_sem, s16_3, s16_2, s16_1, ↓reduceIte, reduceCtorEq, Nat.reduceEqDiff, Nat.reduceAdd, Nat.reduceSub, Nat.reduceMul, Nat.reduceLT, Nat.reduceLeDiff, Int.reduceToNat]
    refine ⟨rfl, ?_⟩
    simp at h
    simp [standsF, h]

def classF (s : SiteD) (n : Int) : ByteArray := if 0 ≤ n ∧ n < s.shelves.length then (s.shelves.getD n.toNat default).cls else ⟨#[]⟩

theorem f12 (n : Int) : Pure Try.prog 12 [.v (.agg (encSite s)), tI n] (· = tS (classF s n)) := by
  refine Pure.of_awp hm Try.func12 s12_ok (by simp [s12]) ?_
  simp only [go_sem, s12, encSite, rows_len, ↓reduceIte, reduceCtorEq, Nat.reduceEqDiff, Nat.reduceAdd, Nat.reduceSub, Nat.reduceMul, Nat.reduceLT, Nat.reduceLeDiff, Int.reduceToNat]
  refine guardQ_at (fun h => ?_) (fun h => ?_)
  · simp only [go_sem, s12_4, s12_3, s12_2, rows_len, ↓reduceIte, reduceCtorEq, Nat.reduceEqDiff, Nat.reduceAdd, Nat.reduceSub, Nat.reduceMul, Nat.reduceLT, Nat.reduceLeDiff, Int.reduceToNat]
    refine twoQ_at (fun k => ?_) (fun k => ?_)
    · refine ⟨rfl, ?_⟩
      simp only [decide_eq_true_eq] at k
      rw [classF, if_neg (by omega)]
    · simp only [decide_eq_false_iff_not] at h k
      have h3 : n.toNat < s.shelves.length := by omega
      simp only [go_sem, s12_1, rows_len, rows_at h3, encShelf, ↓reduceIte, reduceCtorEq, Nat.reduceEqDiff, Nat.reduceAdd, Nat.reduceSub, Nat.reduceMul, Nat.reduceLT, Nat.reduceLeDiff, Int.reduceToNat]
      refine ⟨⟨by omega, by omega⟩, rfl, ?_⟩
      rw [classF, if_pos (by omega)]
  · simp only [go_sem, s12_4, s12_3, s12_2, ↓reduceIte, reduceCtorEq, Nat.reduceEqDiff, Nat.reduceAdd, Nat.reduceSub, Nat.reduceMul, Nat.reduceLT, Nat.reduceLeDiff, Int.reduceToNat]
    refine ⟨rfl, ?_⟩
    simp at h
    rw [classF, if_neg (by omega)]

/-- What the zones' lists have to be. -/
structure ZonesOk (s : SiteD) : Prop where
  nz : s.zones.length ≤ 140737488355328
  nc : ∀ i, i < s.zones.length → (s.zones.getD i default).cells.length ≤ 140737488355328
  asc : ∀ i, i < s.zones.length → Asc (s.zones.getD i default).cells
  ns : ∀ i, i < s.zones.length → (s.zones.getD i default).shut.length ≤ 140737488355328

theorem f53 (z : ZoneD) (c : Int) (hl : z.cells.length ≤ 140737488355328) (ha : Asc z.cells) : PureK Try.prog 53 [.v (.agg ((encZone z).map C.r)), tC (.ptr 0 0 0 0)] (upd emp 0 (.row 0 1 [[cV (.int .i64 c)]])) 1 (· = tB (decide (c ∈ z.cells))) := by
  refine PureK.of_awp hm Try.func53 s53_ok (by simp [s53]) ?_
  simp only [go_sem, s53, encZone, ↓reduceIte, reduceCtorEq, Nat.reduceEqDiff, Nat.reduceAdd, Nat.reduceSub, Nat.reduceMul, Nat.reduceLT, Nat.reduceLeDiff, Int.reduceToNat]
  refine Pure.call (f54 z.cells c hl ha) (liftA_refl rfl) ?_
  rintro _ ⟨p, rfl⟩ _
  simp only [go_sem, s53_2, s53_1, ↓reduceIte, reduceCtorEq, Nat.reduceEqDiff, Nat.reduceAdd, Nat.reduceSub, Nat.reduceMul, Nat.reduceLT, Nat.reduceLeDiff, Int.reduceToNat]
  exact ⟨rfl, KLe.cons (by omega) rfl rfl KLe.nil⟩

def zoneOfF (s : SiteD) (c : Int) : Int := idxF (fun i => decide (c ∈ (s.zones.getD i default).cells)) s.zones.length

theorem f20 (h : ZonesOk s) (c : Int) : Pure Try.prog 20 [.v (.agg (encSite s)), tI c] (· = tI (zoneOfF s c)) := by
  refine Pure.of_awp hm Try.func20 s20_ok (by simp [s20]) ?_
  simp only [go_sem, s20, encSite, ↓reduceIte, reduceCtorEq, Nat.reduceEqDiff, Nat.reduceAdd, Nat.reduceSub, Nat.reduceMul, Nat.reduceLT, Nat.reduceLeDiff, Int.reduceToNat]
  refine PureK.call (f52 (K := upd emp 0 (.row 0 1 [[cV (.int .i64 c)]])) (N := 1) (g := 53) (caps := [0]) (s.zones.map encZone) (fun i => decide (c ∈ (s.zones.getD i default).cells)) (by simpa using h.nz) rfl (box1 rfl)
    (fun i hi => ?_) (fun i hi => ?_)) (fun _ => 1) (fun i _ => by omega) (fun i j hi hj _ => by omega) (box1 rfl) (fun i hi => ?_) rfl (fun a ha => ?_) ?_
  · rw [rows_at (by simpa using hi)]; rfl
  · have hi' : i < s.zones.length := by simpa using hi
    rw [rows_at hi']
    exact f53 _ c (h.nc i hi') (h.asc i hi')
  · obtain rfl : i = 0 := by omega
    rfl
  · simp only [List.mem_cons, List.not_mem_nil, or_false] at ha
    rcases ha with rfl | rfl <;> rfl
  · rintro _ rfl _
    simp only [go_sem, s20_1, ↓reduceIte, reduceCtorEq, Nat.reduceEqDiff, Nat.reduceAdd, Nat.reduceSub, Nat.reduceMul, Nat.reduceLT, Nat.reduceLeDiff, Int.reduceToNat]
    exact ⟨rfl, by simp [zoneOfF]⟩
end Go.Proofs.Ytcocbifjjafknaa.AL

/- Zones: speed and spans; Near. -/
set_option linter.unusedSimpArgs false
set_option linter.unusedVariables false
namespace Go.Proofs.Ytcocbifjjafknaa.AL
open Go
variable {s : SiteD}

theorem idxF_b (p : Nat → Bool) (n : Nat) : idxF p n = -1 ∨ ∃ i, i < n ∧ p i = true ∧ idxF p n = i := by
  unfold idxF
  cases h : (List.range n).find? p with
  | none => exact .inl rfl
  | some i =>
    rw [List.find?_range_eq_some] at h
    exact .inr ⟨i, by simpa using h.2.1, h.1, rfl⟩

theorem zoneOf_b (s : SiteD) (c : Int) : zoneOfF s c = -1 ∨ (0 ≤ zoneOfF s c ∧ zoneOfF s c < s.zones.length ∧ (zoneOfF s c).toNat < s.zones.length) := by
  rcases idxF_b (fun i => decide (c ∈ (s.zones.getD i default).cells)) s.zones.length with h | ⟨i, h1, _, h2⟩
  · exact .inl h
  · exact .inr (by unfold zoneOfF; rw [h2]; omega)

def speedF (s : SiteD) (c : Int) : Int := if 0 ≤ zoneOfF s c then (s.zones.getD (zoneOfF s c).toNat default).speed else 1

theorem f24 (h : ZonesOk s) (c : Int) : Pure Try.prog 24 [.v (.agg (encSite s)), tI c] (· = tI (speedF s c)) := by
  refine Pure.of_awp hm Try.func24 s24_ok (by simp [s24]) ?_
  simp only [go_sem, s24, encSite, ↓reduceIte, reduceCtorEq, Nat.reduceEqDiff, Nat.reduceAdd, Nat.reduceSub, Nat.reduceMul, Nat.reduceLT, Nat.reduceLeDiff, Int.reduceToNat]
  refine Pure.callS (f20 h c) rfl ?_
  simp only [go_sem, s24_4, s24_3, ↓reduceIte, reduceCtorEq, Nat.reduceEqDiff, Nat.reduceAdd, Nat.reduceSub, Nat.reduceMul, Nat.reduceLT, Nat.reduceLeDiff, Int.reduceToNat]
  refine twoQ_at (fun k => ?_) (fun k => ?_)
  · simp only [decide_eq_true_eq] at k
    obtain ⟨k1, k2, k3⟩ := (zoneOf_b s c).resolve_left (by omega)
    simp only [go_sem, s24_2, rows_len, rows_at k3, encZone, ↓reduceIte, reduceCtorEq, Nat.reduceEqDiff, Nat.reduceAdd, Nat.reduceSub, Nat.reduceMul, Nat.reduceLT, Nat.reduceLeDiff, Int.reduceToNat]
    refine ⟨⟨k1, k2⟩, rfl, ?_⟩
    rw [speedF, if_pos k]
  · simp only [decide_eq_false_iff_not] at k
    simp only [go_sem, s24_1, ↓reduceIte, reduceCtorEq, Nat.reduceEqDiff, Nat.reduceAdd, Nat.reduceSub, Nat.reduceMul, Nat.reduceLT, Nat.reduceLeDiff, Int.reduceToNat]
    refine ⟨rfl, ?_⟩
    rw [speedF, if_neg k]

def inSpan (x : Int × Int) (t : Int) : Bool := decide (x.1 ≤ t) && decide (t < x.2)

theorem f57 (x : Int × Int) (t : Int) : PureK Try.prog 57 [.v (.agg ([R.val (.int .i64 x.1), .val (.int .i64 x.2)].map C.r)), tC (.ptr 0 0 0 0)] (upd emp 0 (.row 0 1 [[cV (.int .i64 t)]])) 1 (· = tB (inSpan x t)) := by
  refine PureK.of_awp hm Try.func57 s57_ok (by simp [s57]) ?_
  simp only [go_sem, s57, s57_1, ↓reduceIte, reduceCtorEq, Nat.reduceEqDiff, Nat.reduceAdd, Nat.reduceSub, Nat.reduceMul, Nat.reduceLT, Nat.reduceLeDiff, Int.reduceToNat]
  refine guardQ_at (fun h => ?_) (fun h => ?_)
  · exact ⟨rfl, KLe.cons (by omega) rfl rfl KLe.nil, by simp only [inSpan, h, Bool.true_and]⟩
  · exact ⟨rfl, KLe.cons (by omega) rfl rfl KLe.nil, by simp only [inSpan, h, Bool.not_true, Bool.false_and]⟩

/-- A zone's spans hold a tick. -/
def anySpan (l : List (Int × Int)) (t : Int) : Bool := decide (0 ≤ idxF (fun i => inSpan (l.getD i (0, 0)) t) l.length)

theorem f56 (l : List (Int × Int)) (t : Int) (hl : l.length ≤ 140737488355328) : PureK Try.prog 56 [tC (.r (.rd 2 (spans l))), tC (.fn 57 [0])] (upd emp 0 (.row 0 1 [[cV (.int .i64 t)]])) 1 (· = tB (anySpan l t)) := by
  refine PureK.of_awp hm Try.func56 s56_ok (by simp [s56]) ?_
  simp only [go_sem, s56, ↓reduceIte, reduceCtorEq, Nat.reduceEqDiff, Nat.reduceAdd, Nat.reduceSub, Nat.reduceMul, Nat.reduceLT, Nat.reduceLeDiff, Int.reduceToNat]
  refine PureK.callId (f85 (caps := [0]) (spans l) (fun i => inSpan (l.getD i (0, 0)) t) (by rw [spans_len]; exact hl) rfl (box1 rfl) (fun i hi => ?_) (fun i hi => ?_)) (box1 rfl) (fun a ha => ?_) ?_
  · rw [spans_at (by rw [spans_len] at hi; exact hi)]; rfl
  · rw [spans_at (by rw [spans_len] at hi; exact hi)]
    exact f57 _ t
  · simp only [List.mem_cons, List.not_mem_nil, or_false] at ha
    rcases ha with rfl | rfl <;> rfl
  · rintro _ rfl _
    simp only [go_sem, s56_1, ↓reduceIte, reduceCtorEq, Nat.reduceEqDiff, Nat.reduceAdd, Nat.reduceSub, Nat.reduceMul, Nat.reduceLT, Nat.reduceLeDiff, Int.reduceToNat]
    exact ⟨rfl, KLe.cons (by omega) rfl rfl KLe.nil, by rw [spans_len]; rfl⟩

def openF (s : SiteD) (c t : Int) : Bool := if isCellF s c = false ∨ zoneOfF s c < 0 then isCellF s c else !anySpan (s.zones.getD (zoneOfF s c).toNat default).shut t

theorem f25 (h : ZonesOk s) (c t : Int) : Pure Try.prog 25 [.v (.agg (encSite s)), tI c, tI t] (· = tB (openF s c t)) := by
  refine Pure.of_awp hm Try.func25 s25_ok (by simp [s25]) ?_
  simp only [go_sem, s25, encSite, ↓reduceIte, reduceCtorEq, Nat.reduceEqDiff, Nat.reduceAdd, Nat.reduceSub, Nat.reduceMul, Nat.reduceLT, Nat.reduceLeDiff, Int.reduceToNat]
  refine Pure.callS (f20 h c) rfl ?_
  simp only [go_sem, s25_9, s25_8, ↓reduceIte, reduceCtorEq, Nat.reduceEqDiff, Nat.reduceAdd, Nat.reduceSub, Nat.reduceMul, Nat.reduceLT, Nat.reduceLeDiff, Int.reduceToNat]
  refine Pure.callS (f50 c) rfl ?_
  simp only [go_sem, s25_7, ↓reduceIte, reduceCtorEq, Nat.reduceEqDiff, Nat.reduceAdd, Nat.reduceSub, Nat.reduceMul, Nat.reduceLT, Nat.reduceLeDiff, Int.reduceToNat]
  refine guardQ_at (fun k => ?_) (fun k => ?_)
  · simp only [go_sem, s25_6, s25_5, ↓reduceIte, reduceCtorEq, Nat.reduceEqDiff, Nat.reduceAdd, Nat.reduceSub, Nat.reduceMul, Nat.reduceLT, Nat.reduceLeDiff, Int.reduceToNat]
    simp only [Bool.not_eq_false'] at k
    refine twoQ_at (fun k2 => ?_) (fun k2 => ?_)
    · simp only [decide_eq_true_eq] at k2
      simp only [go_sem, s25_4, ↓reduceIte, reduceCtorEq, Nat.reduceEqDiff, Nat.reduceAdd, Nat.reduceSub, Nat.reduceMul, Nat.reduceLT, Nat.reduceLeDiff, Int.reduceToNat]
      refine Pure.callS (f50 c) rfl ?_
      simp only [go_sem, s25_3, ↓reduceIte, reduceCtorEq, Nat.reduceEqDiff, Nat.reduceAdd, Nat.reduceSub, Nat.reduceMul, Nat.reduceLT, Nat.reduceLeDiff, Int.reduceToNat]
      exact ⟨rfl, by rw [openF, if_pos (.inr k2)]⟩
    · simp only [decide_eq_false_iff_not] at k2
      obtain ⟨k3, k4, k5⟩ := (zoneOf_b s c).resolve_left (by omega)
      simp only [go_sem, s25_2, rows_len, rows_at k5, encZone, ↓reduceIte, reduceCtorEq, Nat.reduceEqDiff, Nat.reduceAdd, Nat.reduceSub, Nat.reduceMul, Nat.reduceLT, Nat.reduceLeDiff, Int.reduceToNat]
      refine ⟨⟨k3, k4⟩, ?_⟩
      refine PureK.call (f56 (s.zones.getD (zoneOfF s c).toNat default).shut t (h.ns _ k5)) (fun _ => 1) (fun i _ => by omega) (fun i j hi hj _ => by omega) (box1 rfl) (fun i hi => ?_) rfl (fun a ha => ?_) ?_
      · obtain rfl : i = 0 := by omega
        rfl
      · simp only [List.mem_cons, List.not_mem_nil, or_false] at ha
        rcases ha with rfl | rfl <;> rfl
      · rintro _ rfl _
        simp only [go_sem, s25_1, ↓reduceIte, reduceCtorEq, Nat.reduceEqDiff, Nat.reduceAdd, Nat.reduceSub, Nat.reduceMul, Nat.reduceLT, Nat.reduceLeDiff, Int.reduceToNat]
        exact ⟨rfl, by rw [openF, if_neg (by simp [k, k2])]⟩
  · simp only [go_sem, s25_6, s25_5, s25_4, ↓reduceIte, reduceCtorEq, Nat.reduceEqDiff, Nat.reduceAdd, Nat.reduceSub, Nat.reduceMul, Nat.reduceLT, Nat.reduceLeDiff, Int.reduceToNat]
    refine Pure.callS (f50 c) rfl ?_
    simp only [go_sem, s25_3, ↓reduceIte, reduceCtorEq, Nat.reduceEqDiff, Nat.reduceAdd, Nat.reduceSub, Nat.reduceMul, Nat.reduceLT, Nat.reduceLeDiff, Int.reduceToNat]
    simp at k
    exact ⟨rfl, by rw [openF, if_pos (.inl k)]⟩
end Go.Proofs.Ytcocbifjjafknaa.AL

/- Classes that are apart. -/
set_option linter.unusedSimpArgs false
set_option linter.unusedVariables false
namespace Go.Proofs.Ytcocbifjjafknaa.AL
open Go
variable {s : SiteD}

abbrev pk (a b : ByteArray) : Value := .agg #[.string a, .string b]
abbrev vT : V := .x (cV (.bool true))

/-- One of the first n rules names the pair, in one order or the other. -/
def pairF (s : SiteD) (n : Nat) (a b : ByteArray) : Bool := (List.range n).any fun j => (decide (a = (s.aparts.getD j default).a) && decide (b = (s.aparts.getD j default).b)) || (decide (a = (s.aparts.getD j default).b) && decide (b = (s.aparts.getD j default).a))

def MapOk (s : SiteD) (n : Nat) (es : List (Value × V)) : Prop := es.all (fun e => keyOk (.st [1, 1]) e.1) = true ∧ es.all (fun e => e.2.below 0) = true ∧ ∀ a b, mfind es (pk a b) = if pairF s n a b = true then some vT else none

theorem pk_ok (a b : ByteArray) : keyOk (.st [1, 1]) (pk a b) = true := by simp [keyOk, tagOf]
theorem pk_eq (a b c d : ByteArray) : keyEq (pk a b) (pk c d) = (decide (a = c) && decide (b = d)) := by simp [keyEq, plainEqs, plainEq]

theorem MapOk.nil (s : SiteD) : MapOk s 0 [] := ⟨rfl, rfl, fun a b => by simp [mfind, pairF]⟩

theorem MapOk.step {n : Nat} {es : List (Value × V)} (h : MapOk s n es) : MapOk s (n + 1) (mset (mset es (pk (s.aparts.getD n default).a (s.aparts.getD n default).b) vT) (pk (s.aparts.getD n default).b (s.aparts.getD n default).a) vT) := by
  obtain ⟨h1, h2, h3⟩ := h
  have g1 := all_mset (k := pk (s.aparts.getD n default).a (s.aparts.getD n default).b) (d := vT) (p := fun e => keyOk (.st [1, 1]) e.1) (pk_ok _ _) es h1
  refine ⟨all_mset (pk_ok _ _) _ g1, all_mset rfl _ (all_mset rfl _ h2), fun a b => ?_⟩
  rw [mfind_mset (pk_ok _ _) (pk_ok _ _) _ g1, mfind_mset (pk_ok _ _) (pk_ok _ _) _ h1, h3, pk_eq, pk_eq]
  have e : pairF s (n + 1) a b = (pairF s n a b || ((decide (a = (s.aparts.getD n default).a) && decide (b = (s.aparts.getD n default).b)) || (decide (a = (s.aparts.getD n default).b) && decide (b = (s.aparts.getD n default).a)))) := by
    simp [pairF, List.range_succ]
  rw [e]
  cases (decide (a = (s.aparts.getD n default).b) && decide (b = (s.aparts.getD n default).a)) <;> cases (decide (a = (s.aparts.getD n default).a) && decide (b = (s.aparts.getD n default).b)) <;> cases pairF s n a b <;> simp

theorem below_map {es : List (Value × V)} {N : Nat} (h : es.all (fun e => e.2.below 0) = true) : (AObj.map es).below N = true := by
  simp only [AObj.below, List.all_eq_true] at *
  intro x hx
  exact T.below_le (d := .v x.2) (Nat.zero_le N) (h x hx)

theorem map_ren {es : List (Value × V)} (h : es.all (fun e => e.2.below 0) = true) (ρ : Nat → Nat) : (AObj.map es).ren ρ = .map es := by
  simp only [AObj.ren]
  congr 1
  conv => rhs; rw [← List.map_id es]
  simp only [List.all_eq_true] at h
  refine List.map_congr_left fun x hx => ?_
  rw [V.ren_below (h x hx)]
  rfl

theorem f44 (hl : s.aparts.length ≤ 140737488355328) : Spec Try.prog 44 [.v (.agg (encSite s))] emp 0 fun d K N => ∃ es, d = tC (.map 0) ∧ K = upd emp 0 (.map es) ∧ N = 1 ∧ MapOk s s.aparts.length es := by
  refine Spec.of_awp hm Try.func44 s44_ok (by simp [s44]) ?_
  simp only [go_sem, s44, encSite, rows_len, ↓reduceIte, reduceCtorEq, Nat.reduceEqDiff, Nat.reduceAdd, Nat.reduceSub, Nat.reduceMul, Nat.reduceLT, Nat.reduceLeDiff, Int.reduceToNat]
  refine awp_loop (fun v : Nat × List (Value × V) => ⟨upd (upd (upd (upd emp 3 (tC (.map 1))) 8 (tC (.r (.rd 2 (s.aparts.map encApart))))) 9 (tI s.aparts.length)) 10 (tI v.1), upd emp 1 (.map v.2), 2⟩) (fun v => s.aparts.length - v.1)
    (fun v => v.1 ≤ s.aparts.length ∧ MapOk s v.1 v.2) (0, []) ⟨Nat.zero_le _, MapOk.nil s⟩ ?_ ?_
  · exact Weak.keep (TmLe.cons rfl rfl (TmLe.cons rfl rfl (TmLe.cons rfl rfl (TmLe.cons rfl rfl TmLe.nil)))) (KLe.cons (by omega) rfl rfl KLe.nil) (Nat.zero_le _) (Nat.le_refl _)
  · rintro ⟨i, es⟩ ⟨hi, ho⟩
    simp only at hi ho
    simp only [go_sem, s44_3, ↓reduceIte, reduceCtorEq, Nat.reduceEqDiff, Nat.reduceAdd, Nat.reduceSub, Nat.reduceMul, Nat.reduceLT, Nat.reduceLeDiff, Int.reduceToNat]
    refine twoQ_at (fun h => ?_) (fun h => ?_)
    · have hi' : i < s.aparts.length := by simpa using h
      have hk1 : ∀ a b : ByteArray, keyOk (.st [1, 1]) (.agg #[.string a, .string b]) = true := pk_ok
      simp only [go_sem, s44_2, rows_len, rows_at hi', encApart, Int.toNat_natCast, hk1, ho.1, all_mset (p := fun e => keyOk (.st [1, 1]) e.1) (pk_ok _ _) es ho.1, ↓reduceIte, reduceCtorEq, Nat.reduceEqDiff, Nat.reduceAdd, Nat.reduceSub, Nat.reduceMul, Nat.reduceLT, Nat.reduceLeDiff, Int.reduceToNat]
      refine ⟨⟨by omega, by omega⟩, (i + 1, _), ⟨by simp only; omega, ho.step⟩, by simp only; omega, ?_⟩
      rw [wrap_i (by omega) (by omega)]
      exact Weak.keep (TmLe.cons rfl rfl (TmLe.cons rfl rfl (TmLe.cons rfl rfl (TmLe.cons rfl rfl TmLe.nil)))) (KLe.cons (by omega) rfl (below_map ho.step.2.1) KLe.nil) (Nat.zero_le _) (by omega)
    · have hi' : i = s.aparts.length := by simp at h; omega
      subst hi'
      simp only [go_sem, s44_1, ↓reduceIte, reduceCtorEq, Nat.reduceEqDiff, Nat.reduceAdd, Nat.reduceSub, Nat.reduceMul, Nat.reduceLT, Nat.reduceLeDiff, Int.reduceToNat]
      refine ⟨_, upd emp 0 (.map es), 1, _, Back.list [1] _ (by simp) (fun k o hk => ?_) rfl rfl, es, rfl, rfl, rfl, ho⟩
      unfold upd at hk
      split at hk
      · cases hk
        subst_vars
        exact ⟨by simp, below_map ho.2.1, by rw [map_ren ho.2.1]; rfl⟩
      · cases hk

def neverF (s : SiteD) (a b : ByteArray) : Bool := decide (a ≠ ⟨#[]⟩) && decide (b ≠ ⟨#[]⟩) && pairF s s.aparts.length a b

theorem f11 (hl : s.aparts.length ≤ 140737488355328) (a b : ByteArray) : Pure Try.prog 11 [.v (.agg (encSite s)), tS a, tS b] (· = tB (neverF s a b)) := by
  refine Pure.of_awp hm Try.func11 s11_ok (by simp [s11]) ?_
  simp only [go_sem, s11, encSite, ↓reduceIte, reduceCtorEq, Nat.reduceEqDiff, Nat.reduceAdd, Nat.reduceSub, Nat.reduceMul, Nat.reduceLT, Nat.reduceLeDiff, Int.reduceToNat]
  refine guardQ_at (fun h1 => ?_) (fun h1 => ?_)
  · simp only [go_sem, s11_3, ↓reduceIte, reduceCtorEq, Nat.reduceEqDiff, Nat.reduceAdd, Nat.reduceSub, Nat.reduceMul, Nat.reduceLT, Nat.reduceLeDiff, Int.reduceToNat]
    refine guardQ_at (fun h2 => ?_) (fun h2 => ?_)
    · simp only [go_sem, s11_2, ↓reduceIte, reduceCtorEq, Nat.reduceEqDiff, Nat.reduceAdd, Nat.reduceSub, Nat.reduceMul, Nat.reduceLT, Nat.reduceLeDiff, Int.reduceToNat]
      refine Spec.plain (f44 (s := s) hl) (liftA_refl rfl) ?_
      rintro _ _ _ ⟨es, rfl, rfl, rfl, ho⟩
      have hk1 : ∀ a b : ByteArray, keyOk (.st [1, 1]) (.agg #[.string a, .string b]) = true := pk_ok
      have hf : (mfind es (pk a b)).getD (V.x (C.r (R.val (Value.bool false)))) = V.x (C.r (R.val (Value.bool (pairF s s.aparts.length a b)))) := by
        rw [ho.2.2 a b]
        cases pairF s s.aparts.length a b <;> rfl
      simp only [go_sem, s11_1, T.ren, V.ren, C.ren, joinK, addN, Nat.lt_irrefl, Nat.sub_self, map_ren ho.2.1, hk1, ho.1, hf, ↓reduceIte, reduceCtorEq, Nat.reduceEqDiff, Nat.reduceAdd, Nat.reduceSub, Nat.reduceMul, Nat.reduceLT, Nat.reduceLeDiff, Int.reduceToNat]
      exact ⟨rfl, by simp only [neverF, h1, h2, Bool.true_and]⟩
    · simp only [go_sem, s11_2, s11_1, ↓reduceIte, reduceCtorEq, Nat.reduceEqDiff, Nat.reduceAdd, Nat.reduceSub, Nat.reduceMul, Nat.reduceLT, Nat.reduceLeDiff, Int.reduceToNat]
      exact ⟨rfl, by simp only [neverF, h1, h2, Bool.not_true, Bool.true_and, Bool.false_and]⟩
  · simp only [go_sem, s11_3, s11_2, s11_1, ↓reduceIte, reduceCtorEq, Nat.reduceEqDiff, Nat.reduceAdd, Nat.reduceSub, Nat.reduceMul, Nat.reduceLT, Nat.reduceLeDiff, Int.reduceToNat]
    exact ⟨rfl, by simp only [neverF, h1, Bool.not_true, Bool.false_and]⟩
end Go.Proofs.Ytcocbifjjafknaa.AL

/- Near, Drop. -/
set_option linter.unusedSimpArgs false
set_option linter.unusedVariables false
namespace Go.Proofs.Ytcocbifjjafknaa.AL
open Go
variable {f : FloorD} {s : SiteD}

theorem f49 (h : FloorOk f) (a b : Int) : Pure Try.prog 49 [.v (.agg (encFloor f)), tI a, tI b] (· = tB (nearF f a b)) := by
  refine Pure.of_awp hm Try.func49 s49_ok (by simp [s49]) ?_
  simp only [go_sem, s49, encFloor, ↓reduceIte, reduceCtorEq, Nat.reduceEqDiff, Nat.reduceAdd, Nat.reduceSub, Nat.reduceMul, Nat.reduceLT, Nat.reduceLeDiff, Int.reduceToNat]
  refine Pure.callS (f80 h b) rfl ?_
  simp only [go_sem, s49_11, s49_10, s49_9, ↓reduceIte, reduceCtorEq, Nat.reduceEqDiff, Nat.reduceAdd, Nat.reduceSub, Nat.reduceMul, Nat.reduceLT, Nat.reduceLeDiff, Int.reduceToNat]
  refine twoQ_at (fun hb => ?_) (fun hb => ?_)
  · simp only [Bool.not_eq_true'] at hb
    exact ⟨rfl, by simp [nearF, hb]⟩
  · simp only [Bool.not_eq_false'] at hb
    simp only [go_sem, s49_8, ↓reduceIte, reduceCtorEq, Nat.reduceEqDiff, Nat.reduceAdd, Nat.reduceSub, Nat.reduceMul, Nat.reduceLT, Nat.reduceLeDiff, Int.reduceToNat]
    refine awp_loop (fun i : Nat => ⟨upd (upd (upd (upd (upd emp 1 (tI a)) 2 (tI b)) 3 (tC (.ptr 0 0 0 0))) 13 (.v (.agg [cV (.int .i64 0), cV (.int .i64 1), cV (.int .i64 2), cV (.int .i64 3)]))) 14 (tI i), upd emp 0 (.row 0 5 [encFloor f]), 1⟩) (fun i => 4 - i) (fun i => i ≤ 4 ∧ ∀ j : Nat, j < i → besideF f a j ≠ b) 0 ⟨Nat.zero_le _, fun j hj => by omega⟩ ?_ ?_
    · exact Weak.keep (TmLe.cons rfl rfl (TmLe.cons rfl rfl (TmLe.cons rfl rfl (TmLe.cons rfl rfl (TmLe.cons rfl rfl TmLe.nil))))) (KLe.cons (Nat.zero_lt_one) rfl rfl KLe.nil) (Nat.zero_le _) (Nat.le_refl _)
    · intro i ⟨hi, hno⟩
      simp only [go_sem, s49_7, encFloor, ↓reduceIte, reduceCtorEq, Nat.reduceEqDiff, Nat.reduceAdd, Nat.reduceSub, Nat.reduceMul, Nat.reduceLT, Nat.reduceLeDiff, Int.reduceToNat]
      refine twoQ_at (fun h1 => ?_) (fun h1 => ?_)
      · have hi' : i < 4 := by simp at h1; omega
        have hd : (List.drop ((i : Int).toNat * 1) [cV (Value.int .i64 0), cV (Value.int .i64 1), cV (Value.int .i64 2), cV (Value.int .i64 3)]).take 1 = [cV (.int .i64 (i : Int))] := by
          have : i = 0 ∨ i = 1 ∨ i = 2 ∨ i = 3 := by omega
          rcases this with rfl | rfl | rfl | rfl <;> rfl
        simp only [Int.toNat_natCast] at hd
        simp only [go_sem, s49_6, Int.toNat_natCast, hd, ↓reduceIte, reduceCtorEq, Nat.reduceEqDiff, Nat.reduceAdd, Nat.reduceSub, Nat.reduceMul, Nat.reduceLT, Nat.reduceLeDiff, Int.reduceToNat]
        refine ⟨⟨by omega, by omega⟩, ?_⟩
        refine Pure.callS (f81 h _ _) rfl ?_
        simp only [go_sem, s49_5, s49_4, s49_3, ↓reduceIte, reduceCtorEq, Nat.reduceEqDiff, Nat.reduceAdd, Nat.reduceSub, Nat.reduceMul, Nat.reduceLT, Nat.reduceLeDiff, Int.reduceToNat]
        refine twoQ_at (fun h3 => ?_) (fun h3 => ?_)
        · refine ⟨rfl, ?_⟩
          have hn : nearF f a b = true := by
            simp only [nearF, hb, Bool.true_and]
            have : i = 0 ∨ i = 1 ∨ i = 2 ∨ i = 3 := by omega
            rcases this with rfl | rfl | rfl | rfl <;> simp at h3 <;> simp [h3]
          rw [hn]
        · simp only [go_sem, s49_2, ↓reduceIte, reduceCtorEq, Nat.reduceEqDiff, Nat.reduceAdd, Nat.reduceSub, Nat.reduceMul, Nat.reduceLT, Nat.reduceLeDiff, Int.reduceToNat]
          refine ⟨i + 1, ⟨by omega, fun j hj => ?_⟩, by omega, ?_⟩
          · by_cases e : j = i
            · subst e; simpa using h3
            · exact hno j (by omega)
          · rw [wrap_i (by omega) (by omega)]
            exact Weak.keep (TmLe.cons rfl rfl (TmLe.cons rfl rfl (TmLe.cons rfl rfl (TmLe.cons rfl rfl (TmLe.cons rfl rfl TmLe.nil))))) (KLe.cons (Nat.zero_lt_one) rfl rfl KLe.nil) (Nat.zero_le _) (Nat.le_refl _)
      · have hi' : i = 4 := by simp at h1; omega
        subst hi'
        simp only [go_sem, s49_1, ↓reduceIte, reduceCtorEq, Nat.reduceEqDiff, Nat.reduceAdd, Nat.reduceSub, Nat.reduceMul, Nat.reduceLT, Nat.reduceLeDiff, Int.reduceToNat]
        refine ⟨rfl, ?_⟩
        have k0 := hno 0 (by omega); have k1 := hno 1 (by omega); have k2 := hno 2 (by omega); have k3 := hno 3 (by omega)
        simp at k0 k1 k2 k3
        simp [nearF, hb, k0, k1, k2, k3]
end Go.Proofs.Ytcocbifjjafknaa.AL

/- Sites that are small. -/
set_option linter.unusedSimpArgs false
set_option linter.unusedVariables false
namespace Go.Proofs.Ytcocbifjjafknaa.AL
open Go
variable {f : FloorD} {s : SiteD}

theorem f60 (f : FloorD) (n : Int) : Pure Try.prog 60 [.v (.agg (encFloor f)), tI n] (· = tB (decide ((f.kind.length : Int) ≤ n) && decide ((f.out.length : Int) ≤ n))) := by
  refine Pure.of_awp hm Try.func60 s60_ok (by simp [s60]) ?_
  simp only [go_sem, s60, s60_1, encFloor, ints_len, ↓reduceIte, reduceCtorEq, Nat.reduceEqDiff, Nat.reduceAdd, Nat.reduceSub, Nat.reduceMul, Nat.reduceLT, Nat.reduceLeDiff, Int.reduceToNat]
  refine guardQ_at (fun h => ?_) (fun h => ?_)
  · exact ⟨rfl, by simp only [h, Bool.true_and]⟩
  · exact ⟨rfl, by simp only [h, Bool.not_true, Bool.false_and]⟩

/-- A small site. -/
structure FewOk (s : SiteD) (cells most : Int) : Prop where
  kind : (s.floor.kind.length : Int) ≤ cells
  out : (s.floor.out.length : Int) ≤ cells
  nz : (s.zones.length : Int) ≤ most
  na : (s.aparts.length : Int) ≤ most
  ns : (s.shelves.length : Int) ≤ most
  nr : (s.robots.length : Int) ≤ most
  zc : ∀ i, i < s.zones.length → ((s.zones.getD i default).cells.length : Int) ≤ cells ∧ ((s.zones.getD i default).shut.length : Int) ≤ 20

theorem f42 (s : SiteD) (c m : Int) (hm2 : m ≤ 1000) : Pure Try.prog 42 [.v (.agg (encSite s)), tI c, tI m] (fun d => ∃ b, d = tB b ∧ (b = true → FewOk s c m)) := by
  refine Pure.of_awp hm Try.func42 s42_ok (by simp [s42]) ?_
  have no : (T.below 0 (T.v (V.x (C.r (R.val (Value.bool false))))) = true ∧ ∃ b, T.v (V.x (C.r (R.val (Value.bool false)))) = tB b ∧ (b = true → FewOk s c m)) := ⟨rfl, false, rfl, fun h => by cases h⟩
  have t3 : ∀ {tm : Nat → Option T} {K : KMap} {N : Nat}, tm 1 = some (tI c) → tm 2 = some (tI m) → tm 3 = some (tC (.ptr 0 0 0 0)) → K 0 = some (.row 0 9 [encSite s]) → 
      ((s.zones.length : Int) ≤ m → ∀ i, i < s.zones.length → ((s.zones.getD i default).cells.length : Int) ≤ c ∧ ((s.zones.getD i default).shut.length : Int) ≤ 20) →
      awp Try.prog 0 s42_6 ⟨tm, K, N⟩ (retP [SRes.tmp 6] fun d => ∃ b, d = tB b ∧ (b = true → FewOk s c m)) := by
    intro tm K N h1 h2 h3 hk hz
    simp only [go_sem, s42_6, h1, h2, h3, hk, encSite, ↓reduceIte, reduceCtorEq, Nat.reduceEqDiff, Nat.reduceAdd, Nat.reduceSub, Nat.reduceMul, Nat.reduceLT, Nat.reduceLeDiff, Int.reduceToNat]
    refine Pure.callS (f60 s.floor c) rfl ?_
    simp only [go_sem, s42_5, h1, h2, h3, hk, encSite, ↓reduceIte, reduceCtorEq, Nat.reduceEqDiff, Nat.reduceAdd, Nat.reduceSub, Nat.reduceMul, Nat.reduceLT, Nat.reduceLeDiff, Int.reduceToNat]
    refine guardQ_at (fun g1 => ?_) (fun g1 => ?_)
    · simp only [go_sem, s42_4, h1, h2, h3, hk, encSite, rows_len, ↓reduceIte, reduceCtorEq, Nat.reduceEqDiff, Nat.reduceAdd, Nat.reduceSub, Nat.reduceMul, Nat.reduceLT, Nat.reduceLeDiff, Int.reduceToNat]
      refine guardQ_at (fun g2 => ?_) (fun g2 => ?_)
      · simp only [go_sem, s42_3, h1, h2, h3, hk, encSite, rows_len, ↓reduceIte, reduceCtorEq, Nat.reduceEqDiff, Nat.reduceAdd, Nat.reduceSub, Nat.reduceMul, Nat.reduceLT, Nat.reduceLeDiff, Int.reduceToNat]
        refine guardQ_at (fun g3 => ?_) (fun g3 => ?_)
        · simp only [go_sem, s42_2, h1, h2, h3, hk, encSite, rows_len, ↓reduceIte, reduceCtorEq, Nat.reduceEqDiff, Nat.reduceAdd, Nat.reduceSub, Nat.reduceMul, Nat.reduceLT, Nat.reduceLeDiff, Int.reduceToNat]
          refine guardQ_at (fun g4 => ?_) (fun g4 => ?_)
          · simp only [go_sem, s42_1, h1, h2, h3, hk, encSite, rows_len, ↓reduceIte, reduceCtorEq, Nat.reduceEqDiff, Nat.reduceAdd, Nat.reduceSub, Nat.reduceMul, Nat.reduceLT, Nat.reduceLeDiff, Int.reduceToNat]
            refine ⟨rfl, _, rfl, fun g5 => ?_⟩
            simp only [Bool.and_eq_true, decide_eq_true_eq] at g1 g2 g3 g4 g5
            exact ⟨g1.1, g1.2, g2, g3, g4, g5, hz g2⟩
          · simp only [go_sem, s42_1, h1, h2, h3, hk, encSite, ↓reduceIte, reduceCtorEq, Nat.reduceEqDiff, Nat.reduceAdd, Nat.reduceSub, Nat.reduceMul, Nat.reduceLT, Nat.reduceLeDiff, Int.reduceToNat]
            exact no
        · simp only [go_sem, s42_2, s42_1, h1, h2, h3, hk, encSite, ↓reduceIte, reduceCtorEq, Nat.reduceEqDiff, Nat.reduceAdd, Nat.reduceSub, Nat.reduceMul, Nat.reduceLT, Nat.reduceLeDiff, Int.reduceToNat]
          exact no
      · simp only [go_sem, s42_3, s42_2, s42_1, h1, h2, h3, hk, encSite, ↓reduceIte, reduceCtorEq, Nat.reduceEqDiff, Nat.reduceAdd, Nat.reduceSub, Nat.reduceMul, Nat.reduceLT, Nat.reduceLeDiff, Int.reduceToNat]
        exact no
    · simp only [go_sem, s42_4, s42_3, s42_2, s42_1, h1, h2, h3, hk, encSite, ↓reduceIte, reduceCtorEq, Nat.reduceEqDiff, Nat.reduceAdd, Nat.reduceSub, Nat.reduceMul, Nat.reduceLT, Nat.reduceLeDiff, Int.reduceToNat]
      exact no
  have t2 : ∀ {tm : Nat → Option T} {K : KMap} {N : Nat}, tm 1 = some (tI c) → tm 2 = some (tI m) → tm 3 = some (tC (.ptr 0 0 0 0)) → K 0 = some (.row 0 9 [encSite s]) → 1 ≤ N → ((s.zones.length : Int) ≤ m → ∀ i, i < s.zones.length → ((s.zones.getD i default).cells.length : Int) ≤ c ∧ ((s.zones.getD i default).shut.length : Int) ≤ 20) →
      awp Try.prog 0 s42_13 ⟨tm, K, N⟩ (retP [SRes.tmp 6] fun d => ∃ b, d = tB b ∧ (b = true → FewOk s c m)) := by
    intro tm K N h1 h2 h3 hk hN hz
    simp only [go_sem, s42_13, h1, h2, h3, ↓reduceIte, reduceCtorEq, Nat.reduceEqDiff, Nat.reduceAdd, Nat.reduceSub, Nat.reduceMul, Nat.reduceLT, Nat.reduceLeDiff, Int.reduceToNat]
    refine awp_loop (fun i : Nat => ⟨upd (upd (upd (upd emp 1 (tI c)) 2 (tI m)) 3 (tC (.ptr 0 0 0 0))) 9 (tI i), upd emp 0 (.row 0 9 [encSite s]), 1⟩) (fun i => s.shelves.length - i) (fun i => i ≤ s.shelves.length) 0 (Nat.zero_le _) ?_ ?_
    · exact Weak.keep (TmLe.cons rfl rfl (TmLe.cons (by simp [upd, h3]) rfl (TmLe.cons (by simp [upd, h2]) rfl (TmLe.cons (by simp [upd, h1]) rfl TmLe.nil)))) (KLe.cons (by omega) (by simpa using hk) rfl KLe.nil) (Nat.zero_le _) hN
    · intro i hi
      simp only [go_sem, s42_12, encSite, rows_len, ↓reduceIte, reduceCtorEq, Nat.reduceEqDiff, Nat.reduceAdd, Nat.reduceSub, Nat.reduceMul, Nat.reduceLT, Nat.reduceLeDiff, Int.reduceToNat]
      refine guardQ_at (fun g1 => ?_) (fun g1 => ?_)
      · have hi' : i < s.shelves.length := by simpa using g1
        simp only [go_sem, s42_11, s42_10, ↓reduceIte, reduceCtorEq, Nat.reduceEqDiff, Nat.reduceAdd, Nat.reduceSub, Nat.reduceMul, Nat.reduceLT, Nat.reduceLeDiff, Int.reduceToNat]
        refine twoQ_at (fun g2 => ?_) (fun g2 => ?_)
        · simp only [decide_eq_true_eq] at g2
          simp only [go_sem, s42_9, s42_8, rows_len, rows_at hi', encShelf, Int.toNat_natCast, ↓reduceIte, reduceCtorEq, Nat.reduceEqDiff, Nat.reduceAdd, Nat.reduceSub, Nat.reduceMul, Nat.reduceLT, Nat.reduceLeDiff, Int.reduceToNat]
          refine ⟨⟨by omega, by omega⟩, twoQ_at (fun g3 => no) (fun g3 => ?_)⟩
          simp only [go_sem, s42_7, ↓reduceIte, reduceCtorEq, Nat.reduceEqDiff, Nat.reduceAdd, Nat.reduceSub, Nat.reduceMul, Nat.reduceLT, Nat.reduceLeDiff, Int.reduceToNat]
          refine ⟨i + 1, by omega, by omega, ?_⟩
          rw [wrap_i (by omega) (by omega)]
          exact Weak.keep (TmLe.cons rfl rfl (TmLe.cons rfl rfl (TmLe.cons rfl rfl (TmLe.cons rfl rfl TmLe.nil)))) (KLe.cons (by omega) rfl rfl KLe.nil) (Nat.zero_le _) (Nat.le_refl _)
        · exact t3 rfl rfl rfl rfl hz
      · simp only [go_sem, s42_11, s42_10, ↓reduceIte, reduceCtorEq, Nat.reduceEqDiff, Nat.reduceAdd, Nat.reduceSub, Nat.reduceMul, Nat.reduceLT, Nat.reduceLeDiff, Int.reduceToNat]
        exact t3 rfl rfl rfl rfl hz
  have t1 : ∀ {tm : Nat → Option T} {K : KMap} {N : Nat}, tm 1 = some (tI c) → tm 2 = some (tI m) → tm 3 = some (tC (.ptr 0 0 0 0)) → K 0 = some (.row 0 9 [encSite s]) → 1 ≤ N → ((s.zones.length : Int) ≤ m → ∀ i, i < s.zones.length → ((s.zones.getD i default).cells.length : Int) ≤ c ∧ ((s.zones.getD i default).shut.length : Int) ≤ 20) →
      awp Try.prog 0 s42_22 ⟨tm, K, N⟩ (retP [SRes.tmp 6] fun d => ∃ b, d = tB b ∧ (b = true → FewOk s c m)) := by
    intro tm K N h1 h2 h3 hk hN hz
    simp only [go_sem, s42_22, h1, h2, h3, ↓reduceIte, reduceCtorEq, Nat.reduceEqDiff, Nat.reduceAdd, Nat.reduceSub, Nat.reduceMul, Nat.reduceLT, Nat.reduceLeDiff, Int.reduceToNat]
    refine awp_loop (fun i : Nat => ⟨upd (upd (upd (upd emp 1 (tI c)) 2 (tI m)) 3 (tC (.ptr 0 0 0 0))) 8 (tI i), upd emp 0 (.row 0 9 [encSite s]), 1⟩) (fun i => s.aparts.length - i) (fun i => i ≤ s.aparts.length) 0 (Nat.zero_le _) ?_ ?_
    · exact Weak.keep (TmLe.cons rfl rfl (TmLe.cons (by simp [upd, h3]) rfl (TmLe.cons (by simp [upd, h2]) rfl (TmLe.cons (by simp [upd, h1]) rfl TmLe.nil)))) (KLe.cons (by omega) (by simpa using hk) rfl KLe.nil) (Nat.zero_le _) hN
    · intro i hi
      simp only [go_sem, s42_21, encSite, rows_len, ↓reduceIte, reduceCtorEq, Nat.reduceEqDiff, Nat.reduceAdd, Nat.reduceSub, Nat.reduceMul, Nat.reduceLT, Nat.reduceLeDiff, Int.reduceToNat]
      refine guardQ_at (fun g1 => ?_) (fun g1 => ?_)
      · have hi' : i < s.aparts.length := by simpa using g1
        simp only [go_sem, s42_20, s42_19, ↓reduceIte, reduceCtorEq, Nat.reduceEqDiff, Nat.reduceAdd, Nat.reduceSub, Nat.reduceMul, Nat.reduceLT, Nat.reduceLeDiff, Int.reduceToNat]
        refine twoQ_at (fun g2 => ?_) (fun g2 => ?_)
        · simp only [decide_eq_true_eq] at g2
          simp only [go_sem, s42_18, rows_len, rows_at hi', encApart, Int.toNat_natCast, ↓reduceIte, reduceCtorEq, Nat.reduceEqDiff, Nat.reduceAdd, Nat.reduceSub, Nat.reduceMul, Nat.reduceLT, Nat.reduceLeDiff, Int.reduceToNat]
          refine ⟨⟨by omega, by omega⟩, guardQ_at (fun g3 => ?_) (fun g3 => ?_)⟩
          · simp only [go_sem, s42_17, s42_16, s42_15, rows_len, rows_at hi', encApart, Int.toNat_natCast, ↓reduceIte, reduceCtorEq, Nat.reduceEqDiff, Nat.reduceAdd, Nat.reduceSub, Nat.reduceMul, Nat.reduceLT, Nat.reduceLeDiff, Int.reduceToNat]
            refine ⟨⟨by omega, by omega⟩, twoQ_at (fun g4 => no) (fun g4 => ?_)⟩
            simp only [go_sem, s42_14, ↓reduceIte, reduceCtorEq, Nat.reduceEqDiff, Nat.reduceAdd, Nat.reduceSub, Nat.reduceMul, Nat.reduceLT, Nat.reduceLeDiff, Int.reduceToNat]
            refine ⟨i + 1, by omega, by omega, ?_⟩
            rw [wrap_i (by omega) (by omega)]
            exact Weak.keep (TmLe.cons rfl rfl (TmLe.cons rfl rfl (TmLe.cons rfl rfl (TmLe.cons rfl rfl TmLe.nil)))) (KLe.cons (by omega) rfl rfl KLe.nil) (Nat.zero_le _) (Nat.le_refl _)
          · simp only [go_sem, s42_17, s42_16, s42_15, ↓reduceIte, reduceCtorEq, Nat.reduceEqDiff, Nat.reduceAdd, Nat.reduceSub, Nat.reduceMul, Nat.reduceLT, Nat.reduceLeDiff, Int.reduceToNat]
            exact no
        · exact t2 rfl rfl rfl rfl (by omega) hz
      · simp only [go_sem, s42_20, s42_19, ↓reduceIte, reduceCtorEq, Nat.reduceEqDiff, Nat.reduceAdd, Nat.reduceSub, Nat.reduceMul, Nat.reduceLT, Nat.reduceLeDiff, Int.reduceToNat]
        exact t2 rfl rfl rfl rfl (by omega) hz
  simp only [go_sem, s42, ↓reduceIte, reduceCtorEq, Nat.reduceEqDiff, Nat.reduceAdd, Nat.reduceSub, Nat.reduceMul, Nat.reduceLT, Nat.reduceLeDiff, Int.reduceToNat]
  refine awp_loop (fun i : Nat => ⟨upd (upd (upd (upd emp 1 (tI c)) 2 (tI m)) 3 (tC (.ptr 0 0 0 0))) 7 (tI i), upd emp 0 (.row 0 9 [encSite s]), 1⟩) (fun i => s.zones.length - i) (fun i => i ≤ s.zones.length ∧ ∀ j, j < i → ((s.zones.getD j default).cells.length : Int) ≤ c ∧ ((s.zones.getD j default).shut.length : Int) ≤ 20) 0 ⟨Nat.zero_le _, fun j hj => by omega⟩ ?_ ?_
  · exact Weak.keep (TmLe.cons rfl rfl (TmLe.cons rfl rfl (TmLe.cons rfl rfl (TmLe.cons rfl rfl TmLe.nil)))) (KLe.cons (by omega) rfl rfl KLe.nil) (Nat.zero_le _) (Nat.le_refl _)
  · intro i ⟨hi, hin⟩
    simp only [go_sem, s42_31, encSite, rows_len, ↓reduceIte, reduceCtorEq, Nat.reduceEqDiff, Nat.reduceAdd, Nat.reduceSub, Nat.reduceMul, Nat.reduceLT, Nat.reduceLeDiff, Int.reduceToNat]
    refine guardQ_at (fun g1 => ?_) (fun g1 => ?_)
    · have hi' : i < s.zones.length := by simpa using g1
      simp only [go_sem, s42_30, s42_29, ↓reduceIte, reduceCtorEq, Nat.reduceEqDiff, Nat.reduceAdd, Nat.reduceSub, Nat.reduceMul, Nat.reduceLT, Nat.reduceLeDiff, Int.reduceToNat]
      refine twoQ_at (fun g2 => ?_) (fun g2 => ?_)
      · simp only [decide_eq_true_eq] at g2
        simp only [go_sem, s42_28, rows_len, rows_at hi', encZone, ints_len, spans_len, Int.toNat_natCast, ↓reduceIte, reduceCtorEq, Nat.reduceEqDiff, Nat.reduceAdd, Nat.reduceSub, Nat.reduceMul, Nat.reduceLT, Nat.reduceLeDiff, Int.reduceToNat]
        refine ⟨⟨by omega, by omega⟩, guardQ_at (fun g3 => ?_) (fun g3 => ?_)⟩
        · simp only [go_sem, s42_27, rows_len, rows_at hi', encZone, ints_len, spans_len, Int.toNat_natCast, ↓reduceIte, reduceCtorEq, Nat.reduceEqDiff, Nat.reduceAdd, Nat.reduceSub, Nat.reduceMul, Nat.reduceLT, Nat.reduceLeDiff, Int.reduceToNat]
          refine ⟨⟨by omega, by omega⟩, guardQ_at (fun g4 => ?_) (fun g4 => ?_)⟩
          · simp only [go_sem, s42_26, s42_25, s42_24, rows_len, rows_at hi', encZone, ints_len, spans_len, Int.toNat_natCast, ↓reduceIte, reduceCtorEq, Nat.reduceEqDiff, Nat.reduceAdd, Nat.reduceSub, Nat.reduceMul, Nat.reduceLT, Nat.reduceLeDiff, Int.reduceToNat]
            refine ⟨⟨by omega, by omega⟩, twoQ_at (fun g5 => no) (fun g5 => ?_)⟩
            simp only [decide_eq_false_iff_not] at g3 g4
            simp only [go_sem, s42_23, ↓reduceIte, reduceCtorEq, Nat.reduceEqDiff, Nat.reduceAdd, Nat.reduceSub, Nat.reduceMul, Nat.reduceLT, Nat.reduceLeDiff, Int.reduceToNat]
            refine ⟨i + 1, ⟨by omega, fun j hj => ?_⟩, by omega, ?_⟩
            · by_cases e : j = i
              · subst e; exact ⟨by omega, by omega⟩
              · exact hin j (by omega)
            · rw [wrap_i (by omega) (by omega)]
              exact Weak.keep (TmLe.cons rfl rfl (TmLe.cons rfl rfl (TmLe.cons rfl rfl (TmLe.cons rfl rfl TmLe.nil)))) (KLe.cons (by omega) rfl rfl KLe.nil) (Nat.zero_le _) (Nat.le_refl _)
          · simp only [go_sem, s42_26, s42_25, s42_24, ↓reduceIte, reduceCtorEq, Nat.reduceEqDiff, Nat.reduceAdd, Nat.reduceSub, Nat.reduceMul, Nat.reduceLT, Nat.reduceLeDiff, Int.reduceToNat]
            exact no
        · simp only [go_sem, s42_27, s42_26, s42_25, s42_24, ↓reduceIte, reduceCtorEq, Nat.reduceEqDiff, Nat.reduceAdd, Nat.reduceSub, Nat.reduceMul, Nat.reduceLT, Nat.reduceLeDiff, Int.reduceToNat]
          exact no
      · simp only [decide_eq_false_iff_not] at g2
        exact t1 rfl rfl rfl rfl (by omega) (fun hz j hj => by omega)
    · have hi' : i = s.zones.length := by simp at g1; omega
      simp only [go_sem, s42_30, s42_29, ↓reduceIte, reduceCtorEq, Nat.reduceEqDiff, Nat.reduceAdd, Nat.reduceSub, Nat.reduceMul, Nat.reduceLT, Nat.reduceLeDiff, Int.reduceToNat]
      exact t1 rfl rfl rfl rfl (by omega) (fun hz j hj => hin j (by omega))
end Go.Proofs.Ytcocbifjjafknaa.AL

/- Drop. -/
set_option linter.unusedSimpArgs false
set_option linter.unusedVariables false
namespace Go.Proofs.Ytcocbifjjafknaa.AL
open Go
variable {s : SiteD} {st : StateD}

def shelfAt (st : StateD) (i : Nat) : Int := st.shelves.getD i 0
/-- The shelf i counts for a drop of another one at c. -/
def counts (s : SiteD) (st : StateD) (k c : Int) (i : Nat) : Bool := !(decide ((i : Int) = k)) && (decide (shelfAt st i = c) || nearF s.floor (shelfAt st i) c) && decide (carriedF st i < 0)
def hitF (s : SiteD) (st : StateD) (k c : Int) (i : Nat) : Bool := counts s st k c i && decide (shelfAt st i = c)
def apartF (s : SiteD) (st : StateD) (k c : Int) (i : Nat) : Bool := counts s st k c i && !(decide (shelfAt st i = c)) && neverF s (classF s k) (classF s i)
def dropErr (s : SiteD) (st : StateD) (k c : Int) (n : Nat) : Int := if (List.range n).any (apartF s st k c) then 17 else 0
def dropF (s : SiteD) (st : StateD) (k c : Int) : Int :=
  if k < 0 ∨ (st.shelves.length : Int) ≤ k then 4 else if standsF s c = false then 13 else if (List.range st.shelves.length).any (hitF s st k c) then 13 else dropErr s st k c st.shelves.length

theorem dropErr_step {k c : Int} {n : Nat} : dropErr s st k c (n + 1) = if apartF s st k c n then 17 else dropErr s st k c n := by
  unfold dropErr
  simp only [List.range_succ, List.any_append, List.any_cons, List.any_nil, Bool.or_false]
  cases apartF s st k c n <;> cases (List.range n).any (apartF s st k c) <;> simp

theorem f15 (hf : FloorOk s.floor) (ha : s.aparts.length ≤ 140737488355328) (hr : st.robots.length ≤ 140737488355328) (hl : st.shelves.length ≤ 140737488355328) (k c : Int) :
    Pure Try.prog 15 [.v (.agg (encSite s)), .v (.agg (encState st)), tI k, tI c] (· = tI (dropF s st k c)) := by
  refine Pure.of_awp hm Try.func15 s15_ok (by simp [s15]) ?_
  simp only [go_sem, s15, encSite, encState, ↓reduceIte, reduceCtorEq, Nat.reduceEqDiff, Nat.reduceAdd, Nat.reduceSub, Nat.reduceMul, Nat.reduceLT, Nat.reduceLeDiff, Int.reduceToNat]
  have main : ¬ (k < 0 ∨ (st.shelves.length : Int) ≤ k) → ∀ {tm : Nat → Option T} {K : KMap} {N : Nat}, tm 2 = some (tI k) → tm 3 = some (tI c) → tm 4 = some (tC (.ptr 0 0 0 0)) → tm 5 = some (tC (.ptr 1 0 0 0)) → K 0 = some (.row 0 9 [encSite s]) → K 1 = some (.row 0 6 [encState st]) → 2 ≤ N → standsF s c = true →
      awp Try.prog 0 s15_20 ⟨tm, K, N⟩ (retP [SRes.tmp 8] fun d => d = tI (dropF s st k c)) := by
    intro hk0 tm K N h2 h3 h4 h5 hk hk1 hN hs
    simp only [go_sem, s15_20, h2, h3, h4, h5, hk, hk1, encSite, encState, ints_len, ↓reduceIte, reduceCtorEq, Nat.reduceEqDiff, Nat.reduceAdd, Nat.reduceSub, Nat.reduceMul, Nat.reduceLT, Nat.reduceLeDiff, Int.reduceToNat]
    refine awp_loop (fun i : Nat => ⟨upd (upd (upd (upd (upd (upd (upd (upd emp 2 (tI k)) 3 (tI c)) 4 (tC (.ptr 0 0 0 0))) 5 (tC (.ptr 1 0 0 0))) 9 (tI (dropErr s st k c i))) 28 (tC (.r (.rd 1 (ints st.shelves))))) 29 (tI st.shelves.length)) 30 (tI i), upd (upd emp 0 (.row 0 9 [encSite s])) 1 (.row 0 6 [encState st]), 2⟩)
      (fun i => st.shelves.length - i) (fun i => i ≤ st.shelves.length ∧ ∀ j, j < i → hitF s st k c j = false) 0 ⟨Nat.zero_le _, fun j hj => by omega⟩ ?_ ?_
    · exact Weak.keep (TmLe.cons rfl rfl (TmLe.cons rfl rfl (TmLe.cons rfl rfl (TmLe.cons rfl rfl (TmLe.cons (by simp [upd, h5]) rfl (TmLe.cons (by simp [upd, h4]) rfl (TmLe.cons (by simp [upd, h3]) rfl (TmLe.cons (by simp [upd, h2]) rfl TmLe.nil)))))))) (KLe.cons (by omega) hk1 rfl (KLe.cons (by omega) hk rfl KLe.nil)) (Nat.zero_le _) hN
    · intro i ⟨hi, hno⟩
      simp only [go_sem, s15_19, ↓reduceIte, reduceCtorEq, Nat.reduceEqDiff, Nat.reduceAdd, Nat.reduceSub, Nat.reduceMul, Nat.reduceLT, Nat.reduceLeDiff, Int.reduceToNat]
      refine twoQ_at (fun g => ?_) (fun g => ?_)
      · have hi' : i < st.shelves.length := by simpa using g
        simp only [go_sem, s15_18, ints_len, ints_at hi', Int.toNat_natCast, ↓reduceIte, reduceCtorEq, Nat.reduceEqDiff, Nat.reduceAdd, Nat.reduceSub, Nat.reduceMul, Nat.reduceLT, Nat.reduceLeDiff, Int.reduceToNat]
        have hx : st.shelves.getD i 0 = shelfAt st i := rfl
        refine ⟨⟨by omega, by omega⟩, guardQ_at (fun g1 => ?_) (fun g1 => ?_)⟩
        · simp only [decide_eq_false_iff_not] at g1
          simp only [go_sem, s15_17, ↓reduceIte, reduceCtorEq, Nat.reduceEqDiff, Nat.reduceAdd, Nat.reduceSub, Nat.reduceMul, Nat.reduceLT, Nat.reduceLeDiff, Int.reduceToNat]
          refine guardQ_at (fun g2 => ?_) (fun g2 => ?_)
          · simp only [ne_eq, decide_eq_true_eq] at g2
            simp only [go_sem, s15_16, encSite, ↓reduceIte, reduceCtorEq, Nat.reduceEqDiff, Nat.reduceAdd, Nat.reduceSub, Nat.reduceMul, Nat.reduceLT, Nat.reduceLeDiff, Int.reduceToNat]
            refine Pure.callS (f49 hf _ _) rfl ?_
            simp only [go_sem, s15_15, s15_14, encState, ↓reduceIte, reduceCtorEq, Nat.reduceEqDiff, Nat.reduceAdd, Nat.reduceSub, Nat.reduceMul, Nat.reduceLT, Nat.reduceLeDiff, Int.reduceToNat]
            refine guardQ_at (fun g3 => ?_) (fun g3 => ?_)
            · simp only [Bool.not_eq_false'] at g3
              simp only [go_sem, s15_13, ↓reduceIte, reduceCtorEq, Nat.reduceEqDiff, Nat.reduceAdd, Nat.reduceSub, Nat.reduceMul, Nat.reduceLT, Nat.reduceLeDiff, Int.reduceToNat]
              refine Pure.callS (f14 st _ hr) rfl ?_
              simp only [go_sem, s15_12, s15_11, ↓reduceIte, reduceCtorEq, Nat.reduceEqDiff, Nat.reduceAdd, Nat.reduceSub, Nat.reduceMul, Nat.reduceLT, Nat.reduceLeDiff, Int.reduceToNat]
              refine twoQ_at (fun g4 => ?_) (fun g4 => ?_)
              · simp only [decide_eq_true_eq] at g4
                have hc : counts s st k c i = false := by simp [counts, Int.not_lt.2 g4]
                simp only [go_sem, s15_2, ↓reduceIte, reduceCtorEq, Nat.reduceEqDiff, Nat.reduceAdd, Nat.reduceSub, Nat.reduceMul, Nat.reduceLT, Nat.reduceLeDiff, Int.reduceToNat]
                refine ⟨i + 1, ⟨by omega, fun j hj => ?_⟩, by omega, ?_⟩
                · by_cases e : j = i
                  · subst e; simp [hitF, hc]
                  · exact hno j (by omega)
                · rw [wrap_i (by omega) (by omega)]
                  have he : dropErr s st k c (i + 1) = dropErr s st k c i := by rw [dropErr_step, if_neg (by simp [apartF, hc])]
                  rw [he]
                  exact Weak.keep (TmLe.cons rfl rfl (TmLe.cons rfl rfl (TmLe.cons rfl rfl (TmLe.cons rfl rfl (TmLe.cons rfl rfl (TmLe.cons rfl rfl (TmLe.cons rfl rfl (TmLe.cons rfl rfl TmLe.nil)))))))) (KLe.cons (by omega) rfl rfl (KLe.cons (by omega) rfl rfl KLe.nil)) (Nat.zero_le _) (Nat.le_refl _)
              · simp only [decide_eq_false_iff_not] at g4
                have g2s : ¬ shelfAt st i = c := g2
                have g3s : nearF s.floor (shelfAt st i) c = true := g3
                have hcy : counts s st k c i = true := by
                  have : carriedF st i < 0 := by omega
                  simp [counts, g1, g3s, this]
                simp only [go_sem, s15_10, ↓reduceIte, reduceCtorEq, Nat.reduceEqDiff, Nat.reduceAdd, Nat.reduceSub, Nat.reduceMul, Nat.reduceLT, Nat.reduceLeDiff, Int.reduceToNat]
                refine twoQ_at (fun g5 => absurd (of_decide_eq_true g5) g2) (fun _ => ?_)
                simp only [go_sem, s15_8, encSite, ↓reduceIte, reduceCtorEq, Nat.reduceEqDiff, Nat.reduceAdd, Nat.reduceSub, Nat.reduceMul, Nat.reduceLT, Nat.reduceLeDiff, Int.reduceToNat]
                refine Pure.callS (f12 (s := s) k) rfl ?_
                simp only [go_sem, s15_7, ↓reduceIte, reduceCtorEq, Nat.reduceEqDiff, Nat.reduceAdd, Nat.reduceSub, Nat.reduceMul, Nat.reduceLT, Nat.reduceLeDiff, Int.reduceToNat]
                refine Pure.callS (f12 (s := s) i) rfl ?_
                simp only [go_sem, s15_6, ↓reduceIte, reduceCtorEq, Nat.reduceEqDiff, Nat.reduceAdd, Nat.reduceSub, Nat.reduceMul, Nat.reduceLT, Nat.reduceLeDiff, Int.reduceToNat]
                refine Pure.callS (f11 (s := s) ha _ _) rfl ?_
                simp only [go_sem, s15_5, s15_4, s15_3, ↓reduceIte, reduceCtorEq, Nat.reduceEqDiff, Nat.reduceAdd, Nat.reduceSub, Nat.reduceMul, Nat.reduceLT, Nat.reduceLeDiff, Int.reduceToNat]
                refine twoQ_at (fun g6 => ?_) (fun g6 => ?_)
                · simp only [go_sem, s15_2, ↓reduceIte, reduceCtorEq, Nat.reduceEqDiff, Nat.reduceAdd, Nat.reduceSub, Nat.reduceMul, Nat.reduceLT, Nat.reduceLeDiff, Int.reduceToNat]
                  refine ⟨i + 1, ⟨by omega, fun j hj => ?_⟩, by omega, ?_⟩
                  · by_cases e : j = i
                    · subst e; simp only [hitF, g2s, decide_false, Bool.and_false]
                    · exact hno j (by omega)
                  · rw [wrap_i (by omega) (by omega)]
                    have he : (17 : Int) = dropErr s st k c (i + 1) := by rw [dropErr_step, if_pos (by simp [apartF, hcy, g2s, g6])]
                    rw [he]
                    exact Weak.keep (TmLe.cons rfl rfl (TmLe.cons rfl rfl (TmLe.cons rfl rfl (TmLe.cons rfl rfl (TmLe.cons rfl rfl (TmLe.cons rfl rfl (TmLe.cons rfl rfl (TmLe.cons rfl rfl TmLe.nil)))))))) (KLe.cons (by omega) rfl rfl (KLe.cons (by omega) rfl rfl KLe.nil)) (Nat.zero_le _) (Nat.le_refl _)
                · simp only [go_sem, s15_2, ↓reduceIte, reduceCtorEq, Nat.reduceEqDiff, Nat.reduceAdd, Nat.reduceSub, Nat.reduceMul, Nat.reduceLT, Nat.reduceLeDiff, Int.reduceToNat]
                  refine ⟨i + 1, ⟨by omega, fun j hj => ?_⟩, by omega, ?_⟩
                  · by_cases e : j = i
                    · subst e; simp only [hitF, g2s, decide_false, Bool.and_false]
                    · exact hno j (by omega)
                  · rw [wrap_i (by omega) (by omega)]
                    have he : dropErr s st k c i = dropErr s st k c (i + 1) := by rw [dropErr_step, if_neg (by simp [apartF, hcy, g2s, g6])]
                    rw [he]
                    exact Weak.keep (TmLe.cons rfl rfl (TmLe.cons rfl rfl (TmLe.cons rfl rfl (TmLe.cons rfl rfl (TmLe.cons rfl rfl (TmLe.cons rfl rfl (TmLe.cons rfl rfl (TmLe.cons rfl rfl TmLe.nil)))))))) (KLe.cons (by omega) rfl rfl (KLe.cons (by omega) rfl rfl KLe.nil)) (Nat.zero_le _) (Nat.le_refl _)
            · simp only [Bool.not_false, Bool.not_eq_true'] at g3
              have hc : counts s st k c i = false := by simp only [counts, shelfAt, g2, g3]; simp
              simp only [go_sem, s15_13, s15_12, s15_11, s15_2, ↓reduceIte, reduceCtorEq, Nat.reduceEqDiff, Nat.reduceAdd, Nat.reduceSub, Nat.reduceMul, Nat.reduceLT, Nat.reduceLeDiff, Int.reduceToNat]
              refine ⟨i + 1, ⟨by omega, fun j hj => ?_⟩, by omega, ?_⟩
              · by_cases e : j = i
                · subst e; simp [hitF, hc]
                · exact hno j (by omega)
              · rw [wrap_i (by omega) (by omega)]
                have he : dropErr s st k c (i + 1) = dropErr s st k c i := by rw [dropErr_step, if_neg (by simp [apartF, hc])]
                rw [he]
                exact Weak.keep (TmLe.cons rfl rfl (TmLe.cons rfl rfl (TmLe.cons rfl rfl (TmLe.cons rfl rfl (TmLe.cons rfl rfl (TmLe.cons rfl rfl (TmLe.cons rfl rfl (TmLe.cons rfl rfl TmLe.nil)))))))) (KLe.cons (by omega) rfl rfl (KLe.cons (by omega) rfl rfl KLe.nil)) (Nat.zero_le _) (Nat.le_refl _)
          · simp only [ne_eq, Bool.not_true, decide_eq_false_iff_not, Decidable.not_not] at g2
            have g2s : shelfAt st i = c := g2
            simp only [go_sem, s15_16, s15_15, s15_14, encState, ↓reduceIte, reduceCtorEq, Nat.reduceEqDiff, Nat.reduceAdd, Nat.reduceSub, Nat.reduceMul, Nat.reduceLT, Nat.reduceLeDiff, Int.reduceToNat]
            simp only [go_sem, s15_13, ↓reduceIte, reduceCtorEq, Nat.reduceEqDiff, Nat.reduceAdd, Nat.reduceSub, Nat.reduceMul, Nat.reduceLT, Nat.reduceLeDiff, Int.reduceToNat]
            refine Pure.callS (f14 st _ hr) rfl ?_
            simp only [go_sem, s15_12, s15_11, ↓reduceIte, reduceCtorEq, Nat.reduceEqDiff, Nat.reduceAdd, Nat.reduceSub, Nat.reduceMul, Nat.reduceLT, Nat.reduceLeDiff, Int.reduceToNat]
            refine twoQ_at (fun g4 => ?_) (fun g4 => ?_)
            · simp only [decide_eq_true_eq] at g4
              have hc : counts s st k c i = false := by simp [counts, Int.not_lt.2 g4]
              simp only [go_sem, s15_2, ↓reduceIte, reduceCtorEq, Nat.reduceEqDiff, Nat.reduceAdd, Nat.reduceSub, Nat.reduceMul, Nat.reduceLT, Nat.reduceLeDiff, Int.reduceToNat]
              refine ⟨i + 1, ⟨by omega, fun j hj => ?_⟩, by omega, ?_⟩
              · by_cases e : j = i
                · subst e; simp [hitF, hc]
                · exact hno j (by omega)
              · rw [wrap_i (by omega) (by omega)]
                have he : dropErr s st k c (i + 1) = dropErr s st k c i := by rw [dropErr_step, if_neg (by simp [apartF, hc])]
                rw [he]
                exact Weak.keep (TmLe.cons rfl rfl (TmLe.cons rfl rfl (TmLe.cons rfl rfl (TmLe.cons rfl rfl (TmLe.cons rfl rfl (TmLe.cons rfl rfl (TmLe.cons rfl rfl (TmLe.cons rfl rfl TmLe.nil)))))))) (KLe.cons (by omega) rfl rfl (KLe.cons (by omega) rfl rfl KLe.nil)) (Nat.zero_le _) (Nat.le_refl _)
            · simp only [decide_eq_false_iff_not] at g4
              have hcy : counts s st k c i = true := by
                have : carriedF st i < 0 := by omega
                simp [counts, g1, g2s, this]
              simp only [go_sem, s15_10, ↓reduceIte, reduceCtorEq, Nat.reduceEqDiff, Nat.reduceAdd, Nat.reduceSub, Nat.reduceMul, Nat.reduceLT, Nat.reduceLeDiff, Int.reduceToNat]
              refine twoQ_at (fun _ => ?_) (fun g5 => absurd g2 (of_decide_eq_false g5))
              simp only [go_sem, s15_9, ↓reduceIte, reduceCtorEq, Nat.reduceEqDiff, Nat.reduceAdd, Nat.reduceSub, Nat.reduceMul, Nat.reduceLT, Nat.reduceLeDiff, Int.reduceToNat]
              refine ⟨rfl, ?_⟩
              have : (List.range st.shelves.length).any (hitF s st k c) = true := by
                simp only [List.any_eq_true, List.mem_range]
                exact ⟨i, hi', by simp [hitF, hcy, g2s]⟩
              rw [dropF, if_neg hk0, if_neg (by simp [hs]), if_pos this]
        · simp only [Bool.not_false, decide_eq_true_eq] at g1
          have hc : counts s st k c i = false := by simp [counts, g1]
          simp only [go_sem, s15_17, s15_16, s15_15, s15_14, s15_13, s15_12, s15_11, s15_2, ↓reduceIte, reduceCtorEq, Nat.reduceEqDiff, Nat.reduceAdd, Nat.reduceSub, Nat.reduceMul, Nat.reduceLT, Nat.reduceLeDiff, Int.reduceToNat]
          refine ⟨i + 1, ⟨by omega, fun j hj => ?_⟩, by omega, ?_⟩
          · by_cases e : j = i
            · subst e; simp [hitF, hc]
            · exact hno j (by omega)
          · rw [wrap_i (by omega) (by omega)]
            have he : dropErr s st k c (i + 1) = dropErr s st k c i := by rw [dropErr_step, if_neg (by simp [apartF, hc])]
            rw [he]
            exact Weak.keep (TmLe.cons rfl rfl (TmLe.cons rfl rfl (TmLe.cons rfl rfl (TmLe.cons rfl rfl (TmLe.cons rfl rfl (TmLe.cons rfl rfl (TmLe.cons rfl rfl (TmLe.cons rfl rfl TmLe.nil)))))))) (KLe.cons (by omega) rfl rfl (KLe.cons (by omega) rfl rfl KLe.nil)) (Nat.zero_le _) (Nat.le_refl _)
      · have hi' : i = st.shelves.length := by simp at g; omega
        subst hi'
        simp only [go_sem, s15_1, ↓reduceIte, reduceCtorEq, Nat.reduceEqDiff, Nat.reduceAdd, Nat.reduceSub, Nat.reduceMul, Nat.reduceLT, Nat.reduceLeDiff, Int.reduceToNat]
        refine ⟨rfl, ?_⟩
        have : (List.range st.shelves.length).any (hitF s st k c) = false := by
          simp only [List.any_eq_false, List.mem_range]
          exact fun j hj => by simp [hno j hj]
        rw [dropF, if_neg hk0, if_neg (by simp [hs]), this]
        rfl
  refine guardQ_at (fun h1 => ?_) (fun h1 => ?_)
  · simp only [decide_eq_false_iff_not] at h1
    simp only [go_sem, s15_27, s15_26, s15_21, ints_len, ↓reduceIte, reduceCtorEq, Nat.reduceEqDiff, Nat.reduceAdd, Nat.reduceSub, Nat.reduceMul, Nat.reduceLT, Nat.reduceLeDiff, Int.reduceToNat]
    refine twoQ_at (fun h2 => ?_) (fun h2 => ?_)
    · simp only [decide_eq_true_eq] at h2
      exact ⟨rfl, by rw [dropF, if_pos (.inr h2)]⟩
    · simp only [decide_eq_false_iff_not] at h2
      have hk0 : ¬ (k < 0 ∨ (st.shelves.length : Int) ≤ k) := by omega
      simp only [go_sem, s15_25, encSite, ↓reduceIte, reduceCtorEq, Nat.reduceEqDiff, Nat.reduceAdd, Nat.reduceSub, Nat.reduceMul, Nat.reduceLT, Nat.reduceLeDiff, Int.reduceToNat]
      refine Pure.callS (f16 (s := s) c) rfl ?_
      simp only [go_sem, s15_24, s15_23, s15_22, ↓reduceIte, reduceCtorEq, Nat.reduceEqDiff, Nat.reduceAdd, Nat.reduceSub, Nat.reduceMul, Nat.reduceLT, Nat.reduceLeDiff, Int.reduceToNat]
      refine twoQ_at (fun h3 => ?_) (fun h3 => ?_)
      · simp only [Bool.not_eq_true'] at h3
        exact ⟨rfl, by rw [dropF, if_neg hk0, if_pos h3]⟩
      · simp only [Bool.not_eq_false'] at h3
        exact main hk0 rfl rfl rfl rfl rfl rfl (Nat.le_refl _) h3
  · simp only [Bool.not_false, decide_eq_true_eq] at h1
    simp only [go_sem, s15_27, s15_26, s15_21, ↓reduceIte, reduceCtorEq, Nat.reduceEqDiff, Nat.reduceAdd, Nat.reduceSub, Nat.reduceMul, Nat.reduceLT, Nat.reduceLeDiff, Int.reduceToNat]
    exact ⟨rfl, by rw [dropF, if_pos (.inl h1)]⟩
end Go.Proofs.Ytcocbifjjafknaa.AL

/- Right floors. -/
set_option linter.unusedSimpArgs false
set_option linter.unusedVariables false
namespace Go.Proofs.Ytcocbifjjafknaa.AL
open Go
variable {f : FloorD}

theorem f86w (f : FloorD) : Pure Try.prog 86 [.v (.agg (encFloor f))] (· = tI (IntKind.i64.wrap (IntKind.i64.wrap (f.w * f.h) * f.d))) := by
  refine Pure.of_awp hm Try.func86 s86_ok (by simp [s86]) ?_
  simp only [go_sem, s86, encFloor, ↓reduceIte, reduceCtorEq, Nat.reduceEqDiff, Nat.reduceAdd, Nat.reduceSub, Nat.reduceMul, Nat.reduceLT, Nat.reduceLeDiff, Int.reduceToNat]
  rfl

theorem min3b {x y z : Int} : (if z < (if y < x then y else x) then z else (if y < x then y else x)) < 1 ↔ x < 1 ∨ y < 1 ∨ z < 1 := by
  split <;> split <;> omega
theorem max2 {x y : Int} : 4096 < (if x < y then y else x) ↔ 4096 < x ∨ 4096 < y := by
  split <;> omega

theorem f61 (f : FloorD) : Pure Try.prog 61 [.v (.agg (encFloor f))] (fun d => ∃ b, d = tB b ∧ (b = true → FloorOk f)) := by
  refine Pure.of_awp hm Try.func61 s61_ok (by simp [s61]) ?_
  have no : (T.below 0 (T.v (V.x (C.r (R.val (Value.bool false))))) = true ∧ ∃ b, T.v (V.x (C.r (R.val (Value.bool false)))) = tB b ∧ (b = true → FloorOk f)) := ⟨rfl, false, rfl, fun h => by cases h⟩
  have main : 1 ≤ f.w → f.w ≤ 4096 → 1 ≤ f.h → f.h ≤ 4096 → 1 ≤ f.d → f.d ≤ 4 → ∀ {tm : Nat → Option T} {K : KMap} {N : Nat}, tm 1 = some (tC (.ptr 0 0 0 0)) → K 0 = some (.row 0 5 [encFloor f]) → 1 ≤ N →
      awp Try.prog 0 s61_17 ⟨tm, K, N⟩ (retP [SRes.tmp 2] fun d => ∃ b, d = tB b ∧ (b = true → FloorOk f)) := by
    intro w1 w2 h1 h2 d1 d2 tm K N ht hk hN
    have b1 : f.w * f.h ≤ 4096 * 4096 := Int.mul_le_mul w2 h2 (by omega) (by omega)
    have b0 : 0 ≤ f.w * f.h := Int.mul_nonneg (by omega) (by omega)
    have b2 : f.w * f.h * f.d ≤ 4096 * 4096 * 4 := Int.mul_le_mul b1 d2 (by omega) (by omega)
    have b3 : 0 ≤ f.w * f.h * f.d := Int.mul_nonneg b0 (by omega)
    have hw : IntKind.i64.wrap (IntKind.i64.wrap (f.w * f.h) * f.d) = f.w * f.h * f.d := by rw [wrap_i (n := f.w * f.h) (by omega) (by omega)]; exact wrap_i (by omega) (by omega)
    simp only [go_sem, s61_17, ht, hk, encFloor, ↓reduceIte, reduceCtorEq, Nat.reduceEqDiff, Nat.reduceAdd, Nat.reduceSub, Nat.reduceMul, Nat.reduceLT, Nat.reduceLeDiff, Int.reduceToNat]
    refine Pure.callS (f86w f) rfl ?_
    rw [hw]
    simp only [go_sem, s61_16, s61_15, ht, hk, encFloor, ↓reduceIte, reduceCtorEq, Nat.reduceEqDiff, Nat.reduceAdd, Nat.reduceSub, Nat.reduceMul, Nat.reduceLT, Nat.reduceLeDiff, Int.reduceToNat]
    refine guardQ_at (fun g1 => ?_) (fun g1 => ?_)
    · simp only [go_sem, s61_14, ht, hk, encFloor, ints_len, ↓reduceIte, reduceCtorEq, Nat.reduceEqDiff, Nat.reduceAdd, Nat.reduceSub, Nat.reduceMul, Nat.reduceLT, Nat.reduceLeDiff, Int.reduceToNat]
      refine guardQ_at (fun g2 => ?_) (fun g2 => ?_)
      · simp only [go_sem, s61_13, s61_12, s61_11, ht, hk, encFloor, ints_len, ↓reduceIte, reduceCtorEq, Nat.reduceEqDiff, Nat.reduceAdd, Nat.reduceSub, Nat.reduceMul, Nat.reduceLT, Nat.reduceLeDiff, Int.reduceToNat]
        refine twoQ_at (fun g3 => no) (fun g3 => ?_)
        simp only [ne_eq, decide_eq_false_iff_not, Decidable.not_not] at g1 g2 g3
        have hlen : f.out.length = f.kind.length := by omega
        simp only [go_sem, s61_10, ht, hk, encFloor, ints_len, ↓reduceIte, reduceCtorEq, Nat.reduceEqDiff, Nat.reduceAdd, Nat.reduceSub, Nat.reduceMul, Nat.reduceLT, Nat.reduceLeDiff, Int.reduceToNat]
        refine awp_loop (fun i : Nat => ⟨upd (upd (upd (upd emp 1 (tC (.ptr 0 0 0 0))) 46 (tC (.r (.rd 1 (ints f.kind))))) 47 (tI f.kind.length)) 48 (tI i), upd emp 0 (.row 0 5 [encFloor f]), 1⟩) (fun i => f.kind.length - i)
          (fun i => i ≤ f.kind.length ∧ ∀ j, j < i → (0 ≤ f.kind.getD j 0 ∧ f.kind.getD j 0 < 7) ∧ 0 ≤ f.out.getD j 0 ∧ f.out.getD j 0 ≤ 63) 0 ⟨Nat.zero_le _, fun j hj => by omega⟩ ?_ ?_
        · exact Weak.keep (TmLe.cons rfl rfl (TmLe.cons rfl rfl (TmLe.cons rfl rfl (TmLe.cons (by simp [upd, ht]) rfl TmLe.nil)))) (KLe.cons (by omega) hk rfl KLe.nil) (Nat.zero_le _) hN
        · intro i ⟨hi, hin⟩
          simp only [go_sem, s61_9, ↓reduceIte, reduceCtorEq, Nat.reduceEqDiff, Nat.reduceAdd, Nat.reduceSub, Nat.reduceMul, Nat.reduceLT, Nat.reduceLeDiff, Int.reduceToNat]
          refine twoQ_at (fun k => ?_) (fun k => ?_)
          · have hi' : i < f.kind.length := by simpa using k
            have hi2 : i < f.out.length := by omega
            simp only [go_sem, s61_8, encFloor, ints_len, ints_at hi', ints_at hi2, Int.toNat_natCast, ↓reduceIte, reduceCtorEq, Nat.reduceEqDiff, Nat.reduceAdd, Nat.reduceSub, Nat.reduceMul, Nat.reduceLT, Nat.reduceLeDiff, Int.reduceToNat]
            refine ⟨⟨by omega, by omega⟩, guardQ_at (fun k1 => ?_) (fun k1 => ?_)⟩
            · simp only [go_sem, s61_7, encFloor, ↓reduceIte, reduceCtorEq, Nat.reduceEqDiff, Nat.reduceAdd, Nat.reduceSub, Nat.reduceMul, Nat.reduceLT, Nat.reduceLeDiff, Int.reduceToNat]
              refine guardQ_at (fun k2 => ?_) (fun k2 => ?_)
              · simp only [go_sem, s61_6, encFloor, ints_len, ints_at hi2, Int.toNat_natCast, ↓reduceIte, reduceCtorEq, Nat.reduceEqDiff, Nat.reduceAdd, Nat.reduceSub, Nat.reduceMul, Nat.reduceLT, Nat.reduceLeDiff, Int.reduceToNat]
                refine ⟨⟨by omega, by omega⟩, guardQ_at (fun k3 => ?_) (fun k3 => ?_)⟩
                · simp only [go_sem, s61_5, s61_4, s61_3, encFloor, ints_len, ints_at hi2, Int.toNat_natCast, ↓reduceIte, reduceCtorEq, Nat.reduceEqDiff, Nat.reduceAdd, Nat.reduceSub, Nat.reduceMul, Nat.reduceLT, Nat.reduceLeDiff, Int.reduceToNat]
                  refine ⟨⟨by omega, by omega⟩, twoQ_at (fun k4 => no) (fun k4 => ?_)⟩
                  simp only [go_sem, s61_2, ↓reduceIte, reduceCtorEq, Nat.reduceEqDiff, Nat.reduceAdd, Nat.reduceSub, Nat.reduceMul, Nat.reduceLT, Nat.reduceLeDiff, Int.reduceToNat]
                  simp only [decide_eq_false_iff_not] at k1 k2 k3 k4
                  refine ⟨i + 1, ⟨by omega, fun j hj => ?_⟩, by omega, ?_⟩
                  · by_cases e : j = i
                    · subst e; exact ⟨⟨by omega, by omega⟩, by omega, by omega⟩
                    · exact hin j (by omega)
                  · have := g1
                    rw [wrap_i (by omega) (by omega)]
                    exact Weak.keep (TmLe.cons rfl rfl (TmLe.cons rfl rfl (TmLe.cons rfl rfl (TmLe.cons rfl rfl TmLe.nil)))) (KLe.cons (by omega) rfl rfl KLe.nil) (Nat.zero_le _) (Nat.le_refl _)
                · simp only [go_sem, s61_5, s61_4, s61_3, ↓reduceIte, reduceCtorEq, Nat.reduceEqDiff, Nat.reduceAdd, Nat.reduceSub, Nat.reduceMul, Nat.reduceLT, Nat.reduceLeDiff, Int.reduceToNat]
                  exact no
              · simp only [go_sem, s61_6, s61_5, s61_4, s61_3, ↓reduceIte, reduceCtorEq, Nat.reduceEqDiff, Nat.reduceAdd, Nat.reduceSub, Nat.reduceMul, Nat.reduceLT, Nat.reduceLeDiff, Int.reduceToNat]
                exact no
            · simp only [go_sem, s61_7, s61_6, s61_5, s61_4, s61_3, ↓reduceIte, reduceCtorEq, Nat.reduceEqDiff, Nat.reduceAdd, Nat.reduceSub, Nat.reduceMul, Nat.reduceLT, Nat.reduceLeDiff, Int.reduceToNat]
              exact no
          · have hi' : i = f.kind.length := by simp at k; omega
            subst hi'
            simp only [go_sem, s61_1, ↓reduceIte, reduceCtorEq, Nat.reduceEqDiff, Nat.reduceAdd, Nat.reduceSub, Nat.reduceMul, Nat.reduceLT, Nat.reduceLeDiff, Int.reduceToNat]
            refine ⟨rfl, true, rfl, fun _ => ⟨w1, w2, h1, h2, d1, d2, ?_, ?_, hlen, fun j hj => (hin j hj).1, fun j hj => (hin j (by omega)).2⟩⟩
            · exact g2.symm
            · have e : f.n = (f.kind.length : Int) := rfl
              rw [e]; omega
      · simp only [go_sem, s61_13, s61_12, s61_11, ↓reduceIte, reduceCtorEq, Nat.reduceEqDiff, Nat.reduceAdd, Nat.reduceSub, Nat.reduceMul, Nat.reduceLT, Nat.reduceLeDiff, Int.reduceToNat]
        exact no
    · simp only [go_sem, s61_14, s61_13, s61_12, s61_11, ↓reduceIte, reduceCtorEq, Nat.reduceEqDiff, Nat.reduceAdd, Nat.reduceSub, Nat.reduceMul, Nat.reduceLT, Nat.reduceLeDiff, Int.reduceToNat]
      exact no
  simp only [go_sem, s61, encFloor, min3b, ↓reduceIte, reduceCtorEq, Nat.reduceEqDiff, Nat.reduceAdd, Nat.reduceSub, Nat.reduceMul, Nat.reduceLT, Nat.reduceLeDiff, Int.reduceToNat]
  refine guardQ_at (fun g1 => ?_) (fun g1 => ?_)
  · simp only [go_sem, s61_21, encFloor, ↓reduceIte, reduceCtorEq, Nat.reduceEqDiff, Nat.reduceAdd, Nat.reduceSub, Nat.reduceMul, Nat.reduceLT, Nat.reduceLeDiff, Int.reduceToNat]
    refine guardQ_at (fun g2 => ?_) (fun g2 => ?_)
    · simp only [go_sem, s61_20, s61_19, s61_18, encFloor, max2, ↓reduceIte, reduceCtorEq, Nat.reduceEqDiff, Nat.reduceAdd, Nat.reduceSub, Nat.reduceMul, Nat.reduceLT, Nat.reduceLeDiff, Int.reduceToNat]
      refine twoQ_at (fun g3 => no) (fun g3 => ?_)
      simp only [decide_eq_false_iff_not] at g1 g2 g3
      exact main (by omega) (by omega) (by omega) (by omega) (by omega) (by omega) rfl rfl (Nat.le_refl _)
    · simp only [go_sem, s61_20, s61_19, s61_18, ↓reduceIte, reduceCtorEq, Nat.reduceEqDiff, Nat.reduceAdd, Nat.reduceSub, Nat.reduceMul, Nat.reduceLT, Nat.reduceLeDiff, Int.reduceToNat]
      exact no
  · simp only [go_sem, s61_21, s61_20, s61_19, s61_18, ↓reduceIte, reduceCtorEq, Nat.reduceEqDiff, Nat.reduceAdd, Nat.reduceSub, Nat.reduceMul, Nat.reduceLT, Nat.reduceLeDiff, Int.reduceToNat]
    exact no
end Go.Proofs.Ytcocbifjjafknaa.AL

/- Contains. -/
set_option linter.unusedSimpArgs false
set_option linter.unusedVariables false
namespace Go.Proofs.Ytcocbifjjafknaa.AL
open Go

theorem f100 (l : List Int) (x : Int) (hl : l.length ≤ 140737488355328) : Pure Try.prog 100 [tC (.r (.rd 1 (ints l))), tI x] (· = tI (idxF (fun i => decide (x = l.getD i 0)) l.length)) := by
  refine Pure.of_awp hm Try.func100 s100_ok (by simp [s100]) ?_
  simp only [go_sem, s100, ints_len, ↓reduceIte, reduceCtorEq, Nat.reduceEqDiff, Nat.reduceAdd, Nat.reduceSub, Nat.reduceMul, Nat.reduceLT, Nat.reduceLeDiff, Int.reduceToNat]
  refine awp_loop (fun i : Nat => ⟨upd (upd (upd (upd emp 0 (tC (.r (.rd 1 (ints l))))) 1 (tI x)) 7 (tI l.length)) 8 (tI i), emp, 0⟩) (fun i => l.length - i) (fun i => i ≤ l.length ∧ ∀ j, j < i → decide (x = l.getD j 0) = false) 0 ⟨Nat.zero_le _, fun j hj => by omega⟩ ?_ ?_
  · exact Weak.keep (TmLe.cons rfl rfl (TmLe.cons rfl rfl (TmLe.cons rfl rfl (TmLe.cons rfl rfl TmLe.nil)))) KLe.nil (Nat.le_refl _) (Nat.le_refl _)
  · intro i ⟨hi, hno⟩
    simp only [go_sem, s100_5, ↓reduceIte, reduceCtorEq, Nat.reduceEqDiff, Nat.reduceAdd, Nat.reduceSub, Nat.reduceMul, Nat.reduceLT, Nat.reduceLeDiff, Int.reduceToNat]
    refine twoQ_at (fun h => ?_) (fun h => ?_)
    · have hi' : i < l.length := by simpa using h
      simp only [go_sem, s100_4, ints_len, ints_at hi', Int.toNat_natCast, ↓reduceIte, reduceCtorEq, Nat.reduceEqDiff, Nat.reduceAdd, Nat.reduceSub, Nat.reduceMul, Nat.reduceLT, Nat.reduceLeDiff, Int.reduceToNat]
      refine ⟨⟨by omega, by omega⟩, twoQ_at (fun h2 => ?_) (fun h2 => ?_)⟩
      · simp only [go_sem, s100_3, ↓reduceIte, reduceCtorEq, Nat.reduceEqDiff, Nat.reduceAdd, Nat.reduceSub, Nat.reduceMul, Nat.reduceLT, Nat.reduceLeDiff, Int.reduceToNat]
        exact ⟨rfl, by rw [idxF_hit hi' h2 hno]⟩
      · simp only [go_sem, s100_2, ↓reduceIte, reduceCtorEq, Nat.reduceEqDiff, Nat.reduceAdd, Nat.reduceSub, Nat.reduceMul, Nat.reduceLT, Nat.reduceLeDiff, Int.reduceToNat]
        refine ⟨i + 1, ⟨by omega, fun j hj => ?_⟩, by omega, ?_⟩
        · by_cases e : j = i
          · subst e; exact h2
          · exact hno j (by omega)
        · rw [wrap_i (by omega) (by omega)]
          exact Weak.keep (TmLe.cons rfl rfl (TmLe.cons rfl rfl (TmLe.cons rfl rfl (TmLe.cons rfl rfl TmLe.nil)))) KLe.nil (Nat.le_refl _) (Nat.le_refl _)
    · have hi' : i = l.length := by simp at h; omega
      simp only [go_sem, s100_1, ↓reduceIte, reduceCtorEq, Nat.reduceEqDiff, Nat.reduceAdd, Nat.reduceSub, Nat.reduceMul, Nat.reduceLT, Nat.reduceLeDiff, Int.reduceToNat]
      exact ⟨rfl, by rw [idxF_none (fun j hj => hno j (by omega))]⟩

theorem f93 (l : List Int) (x : Int) (hl : l.length ≤ 140737488355328) : Pure Try.prog 93 [tC (.r (.rd 1 (ints l))), tI x] (· = tB (decide (x ∈ l))) := by
  refine Pure.of_awp hm Try.func93 s93_ok (by simp [s93]) ?_
  simp only [go_sem, s93, ↓reduceIte, reduceCtorEq, Nat.reduceEqDiff, Nat.reduceAdd, Nat.reduceSub, Nat.reduceMul, Nat.reduceLT, Nat.reduceLeDiff, Int.reduceToNat]
  refine Pure.callS (f100 l x hl) rfl ?_
  simp only [go_sem, s93_1, ↓reduceIte, reduceCtorEq, Nat.reduceEqDiff, Nat.reduceAdd, Nat.reduceSub, Nat.reduceMul, Nat.reduceLT, Nat.reduceLeDiff, Int.reduceToNat]
  refine ⟨rfl, ?_⟩
  rcases idxF_b (fun i => decide (x = l.getD i 0)) l.length with h | ⟨i, h1, h2, h3⟩
  · have : x ∉ l := fun hm => by
      obtain ⟨j, hj, he⟩ := mem_getD.1 hm
      have hh : idxF (fun i => decide (x = l.getD i 0)) l.length ≠ -1 := by
        intro hc
        unfold idxF at hc
        cases hf : (List.range l.length).find? (fun i => decide (x = l.getD i 0)) with
        | some k => rw [hf] at hc; simp only at hc; omega
        | none =>
          rw [List.find?_range_eq_none] at hf
          have := hf j hj
          simp [he] at this
          exact this (by simpa using he.symm)
      exact hh h
    rw [h]
    simp [this]
  · have : x ∈ l := mem_getD.2 ⟨i, h1, (of_decide_eq_true h2).symm⟩
    rw [h3]
    simp [this]
end Go.Proofs.Ytcocbifjjafknaa.AL

/- Contains of rules. -/
set_option linter.unusedSimpArgs false
set_option linter.unusedVariables false
namespace Go.Proofs.Ytcocbifjjafknaa.AL
open Go

theorem f102 (l : List ApartD) (x : ApartD) (hl : l.length ≤ 140737488355328) : Pure Try.prog 102 [tC (.r (.rd 2 (l.map encApart))), .v (.agg [cV (.string x.a), cV (.string x.b)])] (· = tI (idxF (fun i => decide (x.a = (l.getD i default).a) && decide (x.b = (l.getD i default).b)) l.length)) := by
  refine Pure.of_awp hm Try.func102 s102_ok (by simp [s102]) ?_
  simp only [go_sem, s102, rows_len, ↓reduceIte, reduceCtorEq, Nat.reduceEqDiff, Nat.reduceAdd, Nat.reduceSub, Nat.reduceMul, Nat.reduceLT, Nat.reduceLeDiff, Int.reduceToNat]
  refine awp_loop (fun i : Nat => ⟨upd (upd (upd (upd emp 0 (tC (.r (.rd 2 (l.map encApart))))) 3 (tC (.ptr 0 0 0 0))) 7 (tI l.length)) 8 (tI i), upd emp 0 (.row 0 2 [[cV (.string x.a), cV (.string x.b)]]), 1⟩) (fun i => l.length - i) (fun i => i ≤ l.length ∧ ∀ j, j < i → (decide (x.a = (l.getD j default).a) && decide (x.b = (l.getD j default).b)) = false) 0 ⟨Nat.zero_le _, fun j hj => by omega⟩ ?_ ?_
  · exact Weak.keep (TmLe.cons rfl rfl (TmLe.cons rfl rfl (TmLe.cons rfl rfl (TmLe.cons rfl rfl TmLe.nil)))) (KLe.cons (by omega) rfl rfl KLe.nil) (Nat.zero_le _) (Nat.le_refl _)
  · intro i ⟨hi, hno⟩
    simp only [go_sem, s102_5, ↓reduceIte, reduceCtorEq, Nat.reduceEqDiff, Nat.reduceAdd, Nat.reduceSub, Nat.reduceMul, Nat.reduceLT, Nat.reduceLeDiff, Int.reduceToNat]
    refine twoQ_at (fun h => ?_) (fun h => ?_)
    · have hi' : i < l.length := by simpa using h
      simp only [go_sem, s102_4, rows_len, rows_at hi', encApart, Int.toNat_natCast, evEqs, eqCells, plainEq, tagOf, ↓reduceIte, reduceCtorEq, Nat.reduceEqDiff, Nat.reduceAdd, Nat.reduceSub, Nat.reduceMul, Nat.reduceLT, Nat.reduceLeDiff, Int.reduceToNat]
      refine ⟨⟨by omega, by omega⟩, ?_⟩
      simp only [ne_eq, Nat.succ_ne_self, not_false_eq_true, and_self, true_and, Nat.one_ne_zero, go_sem, ↓reduceIte, reduceCtorEq, Nat.reduceEqDiff, Nat.reduceAdd, Nat.reduceSub, Nat.reduceMul, Nat.reduceLT, Nat.reduceLeDiff, Int.reduceToNat]
      refine twoQ_at (fun h2 => ?_) (fun h2 => ?_)
      · simp only [go_sem, s102_3, ↓reduceIte, reduceCtorEq, Nat.reduceEqDiff, Nat.reduceAdd, Nat.reduceSub, Nat.reduceMul, Nat.reduceLT, Nat.reduceLeDiff, Int.reduceToNat]
        exact ⟨rfl, by rw [idxF_hit hi' h2 hno]⟩
      · simp only [go_sem, s102_2, ↓reduceIte, reduceCtorEq, Nat.reduceEqDiff, Nat.reduceAdd, Nat.reduceSub, Nat.reduceMul, Nat.reduceLT, Nat.reduceLeDiff, Int.reduceToNat]
        refine ⟨i + 1, ⟨by omega, fun j hj => ?_⟩, by omega, ?_⟩
        · by_cases e : j = i
          · subst e; exact h2
          · exact hno j (by omega)
        · rw [wrap_i (by omega) (by omega)]
          exact Weak.keep (TmLe.cons rfl rfl (TmLe.cons rfl rfl (TmLe.cons rfl rfl (TmLe.cons rfl rfl TmLe.nil)))) (KLe.cons (by omega) rfl rfl KLe.nil) (Nat.zero_le _) (Nat.le_refl _)
    · have hi' : i = l.length := by simp at h; omega
      simp only [go_sem, s102_1, ↓reduceIte, reduceCtorEq, Nat.reduceEqDiff, Nat.reduceAdd, Nat.reduceSub, Nat.reduceMul, Nat.reduceLT, Nat.reduceLeDiff, Int.reduceToNat]
      exact ⟨rfl, by rw [idxF_none (fun j hj => hno j (by omega))]⟩

/-- A rule of these two is in the list, in this order. -/
def hasPair (l : List ApartD) (x : ApartD) : Bool := decide (0 ≤ idxF (fun i => decide (x.a = (l.getD i default).a) && decide (x.b = (l.getD i default).b)) l.length)

theorem f99 (l : List ApartD) (x : ApartD) (hl : l.length ≤ 140737488355328) : Pure Try.prog 99 [tC (.r (.rd 2 (l.map encApart))), .v (.agg [cV (.string x.a), cV (.string x.b)])] (· = tB (hasPair l x)) := by
  refine Pure.of_awp hm Try.func99 s99_ok (by simp [s99]) ?_
  simp only [go_sem, s99, ↓reduceIte, reduceCtorEq, Nat.reduceEqDiff, Nat.reduceAdd, Nat.reduceSub, Nat.reduceMul, Nat.reduceLT, Nat.reduceLeDiff, Int.reduceToNat]
  refine Pure.callS (f102 l x hl) rfl ?_
  simp only [go_sem, s99_1, ↓reduceIte, reduceCtorEq, Nat.reduceEqDiff, Nat.reduceAdd, Nat.reduceSub, Nat.reduceMul, Nat.reduceLT, Nat.reduceLeDiff, Int.reduceToNat]
  exact ⟨rfl, rfl⟩
end Go.Proofs.Ytcocbifjjafknaa.AL

/- Apart. -/
set_option linter.unusedSimpArgs false
set_option linter.unusedVariables false
namespace Go.Proofs.Ytcocbifjjafknaa.AL
open Go

def apartL (l : List ApartD) (a b : ByteArray) : Bool := if a = ⟨#[]⟩ ∨ b = ⟨#[]⟩ then false else hasPair l ⟨a, b⟩ || hasPair l ⟨b, a⟩

theorem f90 (l : List ApartD) (a b : ByteArray) (hl : l.length ≤ 140737488355328) : Pure Try.prog 90 [tC (.r (.rd 2 (l.map encApart))), tS a, tS b] (· = tB (apartL l a b)) := by
  refine Pure.of_awp hm Try.func90 s90_ok (by simp [s90]) ?_
  have main : ¬ (a = ⟨#[]⟩ ∨ b = ⟨#[]⟩) → ∀ {tm : Nat → Option T} {K : KMap} {N : Nat}, tm 0 = some (tC (.r (.rd 2 (l.map encApart)))) → tm 1 = some (tS a) → tm 2 = some (tS b) →
      awp Try.prog 0 s90_4 ⟨tm, K, N⟩ (retP [SRes.tmp 6] fun d => d = tB (apartL l a b)) := by
    intro hne tm K N h0 h1 h2
    simp only [go_sem, s90_4, h0, h1, h2, ↓reduceIte, reduceCtorEq, Nat.reduceEqDiff, Nat.reduceAdd, Nat.reduceSub, Nat.reduceMul, Nat.reduceLT, Nat.reduceLeDiff, Int.reduceToNat]
    refine Pure.callS (f99 l ⟨a, b⟩ hl) rfl ?_
    simp only [go_sem, s90_3, h0, h1, h2, ↓reduceIte, reduceCtorEq, Nat.reduceEqDiff, Nat.reduceAdd, Nat.reduceSub, Nat.reduceMul, Nat.reduceLT, Nat.reduceLeDiff, Int.reduceToNat]
    refine guardQ_at (fun k => ?_) (fun k => ?_)
    · simp only [go_sem, s90_2, h0, h1, h2, ↓reduceIte, reduceCtorEq, Nat.reduceEqDiff, Nat.reduceAdd, Nat.reduceSub, Nat.reduceMul, Nat.reduceLT, Nat.reduceLeDiff, Int.reduceToNat]
      refine Pure.callS (f99 l ⟨b, a⟩ hl) rfl ?_
      simp only [go_sem, s90_1, ↓reduceIte, reduceCtorEq, Nat.reduceEqDiff, Nat.reduceAdd, Nat.reduceSub, Nat.reduceMul, Nat.reduceLT, Nat.reduceLeDiff, Int.reduceToNat]
      exact ⟨rfl, by rw [apartL, if_neg hne, k]; rfl⟩
    · simp only [go_sem, s90_2, s90_1, ↓reduceIte, reduceCtorEq, Nat.reduceEqDiff, Nat.reduceAdd, Nat.reduceSub, Nat.reduceMul, Nat.reduceLT, Nat.reduceLeDiff, Int.reduceToNat]
      simp only [Bool.not_false] at k
      exact ⟨rfl, by rw [apartL, if_neg hne, k]; rfl⟩
  simp only [go_sem, s90, ↓reduceIte, reduceCtorEq, Nat.reduceEqDiff, Nat.reduceAdd, Nat.reduceSub, Nat.reduceMul, Nat.reduceLT, Nat.reduceLeDiff, Int.reduceToNat]
  refine guardQ_at (fun k => ?_) (fun k => ?_)
  · simp only [go_sem, s90_7, s90_6, s90_5, ↓reduceIte, reduceCtorEq, Nat.reduceEqDiff, Nat.reduceAdd, Nat.reduceSub, Nat.reduceMul, Nat.reduceLT, Nat.reduceLeDiff, Int.reduceToNat]
    refine twoQ_at (fun k2 => ?_) (fun k2 => ?_)
    · simp only [decide_eq_true_eq] at k2
      exact ⟨rfl, by rw [apartL, if_pos (.inr k2)]⟩
    · simp only [decide_eq_false_iff_not] at k k2
      exact main (by simp only [not_or]; exact ⟨k, k2⟩) rfl rfl rfl
  · simp only [go_sem, s90_7, s90_6, s90_5, ↓reduceIte, reduceCtorEq, Nat.reduceEqDiff, Nat.reduceAdd, Nat.reduceSub, Nat.reduceMul, Nat.reduceLT, Nat.reduceLeDiff, Int.reduceToNat]
    simp only [Bool.not_false, decide_eq_true_eq] at k
    exact ⟨rfl, by rw [apartL, if_pos (.inl k)]⟩
end Go.Proofs.Ytcocbifjjafknaa.AL

/- IndexFunc over numbers. -/
set_option linter.unusedSimpArgs false
set_option linter.unusedVariables false
namespace Go.Proofs.Ytcocbifjjafknaa.AL
open Go

theorem f94 {K : KMap} {N g : Nat} {caps : List Nat} (rows : List (List R)) (hflat : ∀ i, i < rows.length → ∃ v, rows.getD i [] = [.val v]) (p : Nat → Bool) (hl : rows.length ≤ 140737488355328) (hcaps : caps.all (· < N) = true) (hK : ∀ i o, K i = some o → i < N ∧ o.below N = true)
    (hrow : ∀ i, i < rows.length → (rows.getD i []).length = 1) (hp : ∀ i, i < rows.length → PureK Try.prog g (.v (.x (((rows.getD i []).map C.r).headD .any)) :: caps.map fun id => tC (.ptr id 0 0 0)) K N (· = tB (p i))) :
    PureK Try.prog 94 [tC (.r (.rd 1 rows)), tC (.fn g caps)] K N (· = tI (idxF p rows.length)) := by
  refine PureK.of_awp hm Try.func94 s94_ok (by simp [s94]) ?_
  simp only [go_sem, s94, ↓reduceIte, reduceCtorEq, Nat.reduceEqDiff, Nat.reduceAdd, Nat.reduceSub, Nat.reduceMul, Nat.reduceLT, Nat.reduceLeDiff, Int.reduceToNat]
  refine awp_loop (fun i : Nat => ⟨upd (upd (upd (upd emp 0 (tC (.r (.rd 1 rows)))) 1 (tC (.fn g caps))) 7 (tI rows.length)) 8 (tI i), K, N⟩) (fun i => rows.length - i) (fun i => i ≤ rows.length ∧ ∀ j, j < i → p j = false) 0 ⟨Nat.zero_le _, fun j hj => by omega⟩ ?_ ?_
  · exact Weak.keep (TmLe.cons rfl rfl (TmLe.cons rfl rfl (TmLe.cons rfl hcaps (TmLe.cons rfl rfl TmLe.nil)))) (KLe.self hK) (Nat.le_refl _) (Nat.le_refl _)
  · intro i ⟨hi, hno⟩
    simp only [go_sem, s94_7, ↓reduceIte, reduceCtorEq, Nat.reduceEqDiff, Nat.reduceAdd, Nat.reduceSub, Nat.reduceMul, Nat.reduceLT, Nat.reduceLeDiff, Int.reduceToNat]
    refine twoQ_at (fun h => ?_) (fun h => ?_)
    · have hi' : i < rows.length := by simpa using h
      have hx : (rows.getD i []).take 1 = rows.getD i [] := List.take_of_length_le (by rw [hrow i hi']; exact Nat.le_refl _)
      simp only [go_sem, s94_6, Int.toNat_natCast, hx, hrow i hi', ↓reduceIte, reduceCtorEq, Nat.reduceEqDiff, Nat.reduceAdd, Nat.reduceSub, Nat.reduceMul, Nat.reduceLT, Nat.reduceLeDiff, Int.reduceToNat]
      refine ⟨⟨by omega, by omega⟩, ?_⟩
      refine PureK.callId (hp i hi') hK (fun a ha => ?_) ?_
      · rcases List.mem_cons.1 ha with rfl | ha
        · obtain ⟨v, hv⟩ := hflat i hi'
          rw [hv]; rfl
        · obtain ⟨id, hid, rfl⟩ := List.mem_map.1 ha
          simp only [List.all_eq_true] at hcaps
          simpa [T.below, V.below, C.below] using hcaps id hid
      · rintro _ rfl _
        simp only [go_sem, s94_5, s94_4, s94_3, ↓reduceIte, reduceCtorEq, Nat.reduceEqDiff, Nat.reduceAdd, Nat.reduceSub, Nat.reduceMul, Nat.reduceLT, Nat.reduceLeDiff, Int.reduceToNat]
        refine twoQ_at (fun h2 => ?_) (fun h2 => ?_)
        · refine ⟨rfl, KLe.self hK, ?_⟩
          rw [idxF_hit hi' h2 hno]
        · simp only [go_sem, s94_2, ↓reduceIte, reduceCtorEq, Nat.reduceEqDiff, Nat.reduceAdd, Nat.reduceSub, Nat.reduceMul, Nat.reduceLT, Nat.reduceLeDiff, Int.reduceToNat]
          refine ⟨i + 1, ⟨by omega, fun j hj => ?_⟩, by omega, ?_⟩
          · by_cases e : j = i
            · subst e; exact h2
            · exact hno j (by omega)
          · rw [wrap_i (by omega) (by omega)]
            exact Weak.keep (TmLe.cons rfl rfl (TmLe.cons rfl rfl (TmLe.cons rfl hcaps (TmLe.cons rfl rfl TmLe.nil)))) (KLe.self hK) (Nat.le_refl _) (Nat.le_refl _)
    · have hi' : i = rows.length := by simp at h; omega
      simp only [go_sem, s94_1, ↓reduceIte, reduceCtorEq, Nat.reduceEqDiff, Nat.reduceAdd, Nat.reduceSub, Nat.reduceMul, Nat.reduceLT, Nat.reduceLeDiff, Int.reduceToNat]
      refine ⟨rfl, KLe.self hK, ?_⟩
      rw [idxF_none (fun j hj => hno j (by omega))]

theorem f77 (n : Int) : Pure Try.prog 77 [tI n] (· = tB (decide (n < 0))) := by
  refine Pure.of_awp hm Try.func77 s77_ok (by simp [s77]) ?_
  simp only [go_sem, s77, ↓reduceIte, reduceCtorEq, Nat.reduceEqDiff, Nat.reduceAdd, Nat.reduceSub, Nat.reduceMul, Nat.reduceLT, Nat.reduceLeDiff, Int.reduceToNat]
  rfl
end Go.Proofs.Ytcocbifjjafknaa.AL

/- The iterator of slices.Backward over numbers. -/
set_option linter.unusedSimpArgs false
set_option linter.unusedVariables false
namespace Go.Proofs.Ytcocbifjjafknaa.AL
open Go Go.RowKit

set_option maxRecDepth 100000 in
set_option maxHeartbeats 2000000 in
theorem back_run (lp : Nat) (p a : Addr) (A : Option Addr) (len cap : Nat) (hA : 0 < len → A = some a) (v : Nat → Int) (hlen : len ≤ 140737488355328) (J Jx : Nat → World → Prop) (Kp : World → World → Prop) (hKr : ∀ W, Kp W W) (hKt : ∀ {A B C : World}, Kp A B → Kp B C → Kp A C)
    (hKp : ∀ A B, Kp A B → B.cell? p = A.cell? p ∧ ∀ j, j < len → B.cell? (a.add j) = A.cell? (a.add j))
    (hY : ∀ i W1, J i W1 → i < len → YieldAt (FR none) 0 Try.prog lp #[.int .i64 (len - 1 - i : Int), .int .i64 (v (len - 1 - i))] W1 fun e W' => (e = .returned (.bool true) ∧ J (i + 1) W' ∧ Kp W1 W') ∨ (e = .returned (.bool false) ∧ Jx (i + 1) W'))
    (W : World) (hp : W.cell? p = some (.slice A len cap)) (hc : ∀ j, j < len → W.cell? (a.add j) = some (.int .i64 (v j))) (h0 : J 0 W) :
    CallsIn (FR none) 1 Try.prog 96 #[.func (.yield lp) #[] #[], .pointer (some p)] W fun e W' => (∃ v, e = .returned v) ∧ (J len W' ∨ ∃ i, i < len ∧ Jx (i + 1) W') := by
  refine callsIn_of_wp Try.func96 rfl trivial ?_ rfl
  simp only [Try.ntmps96, List.size_toArray, List.length_cons, List.length_nil, Nat.reduceAdd, Nat.reduceSub, Array.replicate_succ, Array.replicate_zero, List.push_toArray, List.append_toArray, List.nil_append, List.cons_append]
  gi_wp2
  gi_loopw [3] (fun i wr => ∃ k : Nat, k ≤ len ∧ i = .int .i64 ((len : Int) - 1 - k) ∧ J k wr ∧ Kp W wr)
    (fun i _ => (intOf i + 1).toNat)
  case atStart =>
    refine ⟨0, Nat.zero_le _, ?_, h0, hKr W⟩
    simp [IntKind.wrap_i64]
  case round =>
    obtain ⟨k, hk, rfl, hJs, hnx⟩ := hrel
    obtain ⟨hp1, hc1⟩ := hKp _ _ hnx
    by_cases hlt : k < len
    · obtain rfl := hA (by omega)
      obtain ⟨fn, tmps, assign, body, hy, hR⟩ := hY k wr hJs hlt
      have hp2 := hp1.trans hp
      have hc2 := (hc1 (len - 1 - k) (by omega)).trans (hc (len - 1 - k) (by omega))
      gi_wp2
      refine hR.mono ?_
      rintro e W3 (⟨rfl, hJ3, hk3⟩ | ⟨rfl, hJx3⟩)
      · gi_wp2
        go_roundw
        case rel => exact ⟨k + 1, by omega, by simp; omega, hJ3, hKt hnx hk3⟩
        case measure => simp [intOf]; omega
      · gi_wp2
        refine bodyPost_ret (results_none rfl _ _ _) rfl ?_
        exact ⟨⟨_, rfl⟩, .inr ⟨k, hlt, hJx3⟩⟩
    · obtain rfl : k = len := by omega
      gi_wp2
      go_end0
      exact ⟨⟨_, rfl⟩, .inl hJs⟩

/-- What slices.Backward's closure hands over. -/
def backY (l : List Int) : List (List T) := (List.range l.length).map fun (i : Nat) => [tI ((l.length : Int) - 1 - (i : Int)), tI (l.getD (l.length - 1 - i) 0)]

theorem back_iter {K : KMap} {N id : Nat} {l : List Int} (hl : l.length ≤ 140737488355328) (hK : K id = some (.row 0 1 [[.r (.rd 1 (ints l))]])) : Iter Try.prog 96 [id] K N 2 (backY l) [id] := by
  refine ⟨by kernel_rfl, fun S μ w vals hH hrep => ?_⟩
  obtain ⟨h1, h2⟩ := hH.obj id _ hK
  obtain ⟨o1, o2, o3, o4, o5, o6⟩ := h2
  obtain ⟨vals', e1, e2, e3⟩ := hrep
  cases e1
  obtain ⟨_, A', g1, g2⟩ := e3 0 id rfl
  have hvals : vals = #[.pointer A'] := by
    apply Array.ext_getElem?
    intro i
    cases i with
    | zero => rw [g1]; rfl
    | succ i => simp [e2]
  cases hb : (μ id).blk with
  | none =>
    rw [hb] at o6
    simp at o6
    rw [o6] at o3
    simp at o3
  | some b =>
    rw [hb] at o6
    obtain ⟨b', k1, k2⟩ := g2 o1
    rw [hb] at k1
    cases k1
    obtain ⟨cells, ty, c1, c2, c3⟩ := o6
    obtain ⟨u, u1, u2⟩ := c3 0 _ 0 _ rfl rfl
    have hA : A' = some ⟨b, (μ id).org, none⟩ := by rw [k2]; simp [Loc.at]
    subst hA
    subst hvals
    have hp : w.cell? ⟨b, (μ id).org, none⟩ = some u := by
      simp only [World.cell?, c1]
      simpa using u1
    cases u2 with
    | rd g r1 r2 r3 r4 r5 =>
      rename_i A cap
      refine ⟨fun (i : Nat) => #[.int .i64 ((l.length : Int) - 1 - (i : Int)), .int .i64 (l.getD (l.length - 1 - i) 0)], fun _ => rfl, fun i y hy => ?_, ?_⟩
      · simp only [backY, List.getElem?_map, Option.map_eq_some_iff] at hy
        obtain ⟨j, hj, rfl⟩ := hy
        obtain ⟨hj1, hj2⟩ := List.getElem?_eq_some_iff.1 hj
        simp at hj2
        subst hj2
        refine ⟨rfl, fun q d hq => ?_⟩
        match q with
        | 0 => simp at hq; subst hq; exact ⟨_, rfl, RepR.val (v := .int .i64 _) rfl⟩
        | 1 => simp at hq; subst hq; exact ⟨_, rfl, RepR.val (v := .int .i64 _) rfl⟩
        | q + 2 => simp at hq
      · intro lp J Jx W hKp hsz hJ hJx hY h0
        have hlen : (ints l).length = l.length := ints_len
        have keepc : ∀ (a : Addr), KeepB S K μ [id] a.block → ∀ A B : World, (∀ b, KeepB S K μ [id] b → B.heap[b]? = A.heap[b]?) → B.cell? a = A.cell? a := fun a ha A B h => cell?_same (h _ ha)
        have hpk : KeepB S K μ [id] b := .inr ⟨id, by simp, _, hK, hb⟩
        have haK : ∀ a : Addr, A = some a → 0 < l.length → KeepB S K μ [id] a.block := fun a ha hpos => by
          obtain ⟨a', ha', hs, _⟩ := r4 (by intro e; rw [← hlen, e] at hpos; simp at hpos)
          rw [ha] at ha'
          cases ha'
          exact .inl hs
        have hget : ∀ j, j < l.length → (ints l)[j]? = some [R.val (.int .i64 (l.getD j 0))] := fun j hj => by simp [ints, hj]
        have hcell : ∀ a : Addr, A = some a → ∀ j, j < l.length → w.cell? (a.add j) = some (.int .i64 (l.getD j 0)) := fun a ha j hj => by
          obtain ⟨a', ha', hs, hc⟩ := r4 (by intro e; have := congrArg List.length e; rw [hlen] at this; simp at this; rw [this] at hj; simp at hj)
          rw [ha] at ha'
          cases ha'
          have h3 := hc j _ 0 _ (hget j hj) rfl
          have h4 := r5 j _ 0 _ (hget j hj) rfl
          simp only [Nat.mul_one, Nat.add_zero] at h3
          have inv : ∀ {v z : Value}, RepR S w (.val v) z → z = v := fun h => by cases h; rfl
          rw [h3, inv h4]
        have hb2 : (backY l).length = l.length := by simp [backY]
        rw [hb2] at hY ⊢
        have run := back_run lp ⟨b, (μ id).org, none⟩ (A.getD ⟨0, 0, none⟩) A l.length cap (fun hpos => by
            obtain ⟨a', ha', _⟩ := r4 (by intro e; have := congrArg List.length e; rw [hlen] at this; simp at this; rw [this] at hpos; simp at hpos)
            rw [ha']; rfl) (fun j => l.getD j 0) hl J Jx (fun W W' => ∀ b, KeepB S K μ [id] b → W'.heap[b]? = W.heap[b]?) (fun W b _ => rfl) (fun h1 h2 b hb => (h2 b hb).trans (h1 b hb))
          (fun A' B' hAB => ⟨keepc _ hpk _ _ hAB, fun j hj => by
            obtain ⟨a', ha', _⟩ := r4 (by intro e; have := congrArg List.length e; rw [hlen] at this; simp at this; rw [this] at hj; simp at hj)
            refine keepc _ ?_ _ _ hAB
            rw [add_block, ha']
            exact haK a' ha' (by omega)⟩)
          hY W ((keepc _ hpk _ _ hKp).trans (by rw [hlen] at hp; exact hp)) (fun j hj => by
            obtain ⟨a', ha', _⟩ := r4 (by intro e; have := congrArg List.length e; rw [hlen] at this; simp at this; rw [this] at hj; simp at hj)
            have hk : KeepB S K μ [id] ((A.getD ⟨0, 0, none⟩).add j).block := by rw [add_block, ha']; exact haK a' ha' (by omega)
            refine (keepc _ hk _ _ hKp).trans ?_
            rw [ha']
            exact hcell a' ha' j hj) h0
        exact run
end Go.Proofs.Ytcocbifjjafknaa.AL
