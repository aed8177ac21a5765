/- What the functions hand back, first part: floors and sites. -/
import Derived.Test.YticflcpmlbaafaaSa
import Derived.Test.YticflcpmlbaafaaAc
import Derived.Attr
import Derived.Laws.BitsLemmas
import Derived.Laws.Bits64
import Derived.WalkKit
import Derived.OwnWalkIn
import Derived.TacticsInMore
import Derived.LoopNIn
import Derived.LoopIn
import Derived.RangeFuncBox

/- The data of the site and the rows of the walk. -/
set_option linter.unusedSimpArgs false
set_option linter.unusedVariables false
namespace Go.Proofs.Yticflcpmlbaafaa.AL
open Go

theorem mapM_one {α β : Type} {f : α → Option β} {a : α} : [a].mapM f = (f a).map fun b => [b] := by
  simp only [List.mapM_cons, List.mapM_nil]
  cases f a <;> rfl

attribute [go_sem ↓] awp_skip awp_regs AWs_nil AWs_cons stepW_isnil isnilW_nil isnilW_rd isnilW_own awp_reg awp_seq awp_block awp_exit awp_ret awp_cond twoQ_true twoQ_false guardQ_tt guardQ_ff guardQ_tf guardQ_ft seqQ_normal seqQ_exit seqQ_ret blockQ_normal blockQ_ret blockQ_here blockQ_on AW_nil AW_cons opW_none opW_some sW_mv sW_pick sW_box sW_alloc sW_build sW_bslice sW_load sW_store sW_nilc sW_bin sW_binb sW_eqs sW_un sW_conv sW_mkfn sW_mkmap sW_mkslice sW_slice sW_sslice sW_faddr sW_field sW_iaddr sW_iarr sW_index sW_sidx sW_idxb sW_look sW_mupd sW_extract sW_len sW_clear sW_max sW_min sW_append evW_some evWu_some stepW_call stepW_callv thenR_v thenR_tup thenR_ren roundQ_normal roundQ_exit roundQ_ret retP_normal retP_ret retK_normal retK_ret retQ_normal retQ_ret
attribute [go_sem] opds opd_tmp opd_int opd_bool opd_str opd_slice opd_func opd_map opd_ptr opd_nilf key1 key2 upd_at emp_at updO_some updO_none clrO_some clrO_none clr_at argTm ev Option.bind_some boxRes still stillIf V.cells evFaddr evLoad evStore evBin evUn evEqb evPick evNilc evField evIaddr evIndex evLen evExtract evMaxMin evSidx evIdxb evClear mkV resT oneT fillC splice boundsOf evSlice evMkfn isBoxPtr evConv evLook evMupd
attribute [go_sem] Bool.false_eq_true Nat.add_zero Nat.zero_add true_and and_true List.take List.drop List.getD_cons_zero List.getD_cons_succ List.getD_nil List.length_cons List.length_nil List.getElem?_cons_zero List.getElem?_cons_succ List.headD_cons List.headD_nil List.map_cons List.map_nil mapM_one List.cons_append List.nil_append List.set_cons_zero List.set_cons_succ Option.map_some Option.map_none beq_self_eq_true Bool.not_true Bool.not_false cond_true cond_false false_implies forall_const imp_self implies_true Bool.true_and Bool.and_true Bool.false_and Bool.and_false

/-- Numbers of Go's int. -/
def InI (n : Int) : Prop := -9223372036854775808 ≤ n ∧ n ≤ 9223372036854775807
theorem wrap_in {n : Int} (h : InI n) : IntKind.i64.wrap n = n := by
  obtain ⟨h1, h2⟩ := h
  rw [IntKind.wrap_i64]
  omega
theorem wrap_i {n : Int} (h1 : -9223372036854775808 ≤ n) (h2 : n ≤ 9223372036854775807) : IntKind.i64.wrap n = n := wrap_in ⟨h1, h2⟩

def mxl : Nat := 140737488355328

def ints (l : List Int) : List (List R) := l.map fun n => [.val (.int .i64 n)]
theorem ints_len {l : List Int} : (ints l).length = l.length := by simp [ints]
theorem ints_at {l : List Int} {i : Nat} (h : i < l.length) : (ints l).getD i [] = [R.val (.int .i64 (l.getD i 0))] := by simp [ints, h]

theorem twoQ_at {t : Bool} {A B : Prop} (h1 : t = true → A) (h2 : t = false → B) : twoQ t A B := ⟨h1, h2⟩

structure FloorD where
  w : Int
  h : Int
  d : Int
  kind : List Int
  out : List Int

def encFloor (f : FloorD) : List C := [cV (.int .i64 f.w), cV (.int .i64 f.h), cV (.int .i64 f.d), .r (.rd 1 (ints f.kind)), .r (.rd 1 (ints f.out))]

/-- The number of cells. -/
def FloorD.n (f : FloorD) : Int := f.kind.length

structure FloorOk (f : FloorD) : Prop where
  w1 : 1 ≤ f.w
  w2 : f.w ≤ 4096
  h1 : 1 ≤ f.h
  h2 : f.h ≤ 4096
  d1 : 1 ≤ f.d
  d2 : f.d ≤ 4
  size : f.w * f.h * f.d = f.n
  n2 : f.n ≤ 4096
  out : f.out.length = f.kind.length
  kind : ∀ i, i < f.kind.length → 0 ≤ f.kind.getD i 0 ∧ f.kind.getD i 0 < 7
  outs : ∀ i, i < f.out.length → 0 ≤ f.out.getD i 0 ∧ f.out.getD i 0 ≤ 63

theorem FloorOk.wh {f : FloorD} (h : FloorOk f) : 1 ≤ f.w * f.h ∧ f.w * f.h ≤ f.n := by
  obtain ⟨a1, a2, a3, a4, a5, a6, a7, a8, _⟩ := h
  have h1 : 1 * 1 ≤ f.w * f.h := Int.mul_le_mul a1 a3 (by omega) (by omega)
  refine ⟨by omega, ?_⟩
  have h2 : f.w * f.h * 1 ≤ f.w * f.h * f.d := Int.mul_le_mul_of_nonneg_left a5 (by omega)
  omega

def isF (f : FloorD) (c : Int) : Bool := decide (0 ≤ c) && decide (c < f.n)
def cellF (f : FloorD) (x y z : Int) : Int := if 0 ≤ x ∧ x < f.w ∧ 0 ≤ y ∧ y < f.h ∧ 0 ≤ z ∧ z < f.d then (z * f.h + y) * f.w + x else -1
def xF (f : FloorD) (c : Int) : Int := if isF f c then c.tmod f.w else 0
def yF (f : FloorD) (c : Int) : Int := if isF f c then (c.tdiv f.w).tmod f.h else 0
def zF (f : FloorD) (c : Int) : Int := if isF f c then c.tdiv (f.w * f.h) else 0

theorem cell_bound {f : FloorD} (h : FloorOk f) {x y z : Int} (hx : 0 ≤ x ∧ x < f.w ∧ 0 ≤ y ∧ y < f.h ∧ 0 ≤ z ∧ z < f.d) :
    0 ≤ z * f.h ∧ z * f.h + y < f.h * f.d ∧ 0 ≤ (z * f.h + y) * f.w ∧ (z * f.h + y) * f.w + x < f.n ∧ f.h * f.d ≤ 16384 := by
  obtain ⟨a1, a2, a3, a4, a5, a6, a7, a8, _⟩ := h
  obtain ⟨x1, x2, y1, y2, z1, z2⟩ := hx
  have e1 : 0 ≤ z * f.h := Int.mul_nonneg z1 (by omega)
  have e2 : (z + 1) * f.h ≤ f.d * f.h := Int.mul_le_mul_of_nonneg_right (by omega) (by omega)
  have e3 : (z + 1) * f.h = z * f.h + f.h := by rw [Int.add_mul, Int.one_mul]
  have e4 : f.d * f.h = f.h * f.d := Int.mul_comm _ _
  have e5 : (z * f.h + y + 1) * f.w ≤ f.h * f.d * f.w := Int.mul_le_mul_of_nonneg_right (by omega) (by omega)
  have e6 : (z * f.h + y + 1) * f.w = (z * f.h + y) * f.w + f.w := by rw [Int.add_mul, Int.one_mul]
  have e7 : f.h * f.d * f.w = f.w * f.h * f.d := by rw [Int.mul_comm, Int.mul_assoc]
  have e8 : 0 ≤ (z * f.h + y) * f.w := Int.mul_nonneg (by omega) (by omega)
  have e9 : f.h * f.d ≤ 4096 * 4 := Int.mul_le_mul a4 a6 (by omega) (by omega)
  refine ⟨e1, by omega, e8, by omega, by omega⟩

end Go.Proofs.Yticflcpmlbaafaa.AL

/- Lists of numbers. -/
set_option linter.unusedSimpArgs false
set_option linter.unusedVariables false
namespace Go.Proofs.Yticflcpmlbaafaa.AL
open Go

theorem mem_getD {l : List Int} {x : Int} : x ∈ l ↔ ∃ i, i < l.length ∧ l.getD i 0 = x := by
  rw [List.mem_iff_getElem]
  constructor
  · rintro ⟨i, h, rfl⟩; exact ⟨i, h, by simp [h]⟩
  · rintro ⟨i, h, rfl⟩; exact ⟨i, h, by simp [h]⟩

theorem f9 (l : List Int) (x : Int) (hl : l.length ≤ mxl) : Pure Try.prog 9 [tC (.r (.rd 1 (ints l))), tI x] (· = tB (decide (x ∈ l))) := by
  have hl2 : l.length ≤ 140737488355328 := hl
  refine Pure.of_awp hm Try.func9 s9_ok (by simp [s9]) ?_
  simp only [go_sem, s9, ↓reduceIte, reduceCtorEq, Nat.reduceEqDiff, Nat.reduceAdd, Nat.reduceSub, Nat.reduceMul, Nat.reduceLT, Nat.reduceLeDiff, Int.reduceToNat]
  refine awp_loop (fun i : Nat => ⟨upd (upd (upd emp 0 (tC (.r (.rd 1 (ints l))))) 1 (tI x)) 5 (tI i), emp, 0⟩) (fun i => l.length - i) (fun i => i ≤ l.length ∧ ∀ j, j < i → l.getD j 0 ≠ x) 0 ⟨Nat.zero_le _, fun j hj => by omega⟩ ?_ ?_
  · exact Weak.keep (TmLe.cons rfl rfl (TmLe.cons rfl rfl (TmLe.cons rfl rfl TmLe.nil))) KLe.nil (Nat.le_refl _) (Nat.le_refl _)
  · intro i ⟨hi, hno⟩
    simp only [go_sem, s9_5, ints_len, ↓reduceIte, reduceCtorEq, Nat.reduceEqDiff, Nat.reduceAdd, Nat.reduceSub, Nat.reduceMul, Nat.reduceLT, Nat.reduceLeDiff, Int.reduceToNat]
    refine ⟨fun h => ?_, fun h => ?_⟩
    · have hi' : i < l.length := by simpa using h
      simp only [go_sem, s9_4, ints_len, ints_at hi', Int.toNat_natCast, ↓reduceIte, reduceCtorEq, Nat.reduceEqDiff, Nat.reduceAdd, Nat.reduceSub, Nat.reduceMul, Nat.reduceLT, Nat.reduceLeDiff, Int.reduceToNat]
      refine ⟨⟨by omega, by omega⟩, fun h2 => ?_, fun h2 => ?_⟩
      · simp only [go_sem, s9_3, ↓reduceIte, reduceCtorEq, Nat.reduceEqDiff, Nat.reduceAdd, Nat.reduceSub, Nat.reduceMul, Nat.reduceLT, Nat.reduceLeDiff, Int.reduceToNat]
        refine ⟨rfl, ?_⟩
        have : x ∈ l := mem_getD.2 ⟨i, hi', by simpa using h2⟩
        simp [this]
      · simp only [go_sem, s9_2, ↓reduceIte, reduceCtorEq, Nat.reduceEqDiff, Nat.reduceAdd, Nat.reduceSub, Nat.reduceMul, Nat.reduceLT, Nat.reduceLeDiff, Int.reduceToNat]
        refine ⟨i + 1, ⟨by omega, fun j hj => ?_⟩, by omega, ?_⟩
        · by_cases e : j = i
          · subst e; simpa using h2
          · exact hno j (by omega)
        · rw [wrap_i (by omega) (by omega)]
          exact Weak.keep (TmLe.cons rfl rfl (TmLe.cons rfl rfl (TmLe.cons rfl rfl TmLe.nil))) KLe.nil (Nat.le_refl _) (Nat.le_refl _)
    · have hi' : i = l.length := by have := of_decide_eq_false h; omega
      simp only [go_sem, s9_1, ↓reduceIte, reduceCtorEq, Nat.reduceEqDiff, Nat.reduceAdd, Nat.reduceSub, Nat.reduceMul, Nat.reduceLT, Nat.reduceLeDiff, Int.reduceToNat]
      refine ⟨rfl, ?_⟩
      have : x ∉ l := fun hm => by
        obtain ⟨j, hj, hx⟩ := mem_getD.1 hm
        exact hno j (by omega) hx
      simp [this]
end Go.Proofs.Yticflcpmlbaafaa.AL

/- Floors. -/
set_option linter.unusedSimpArgs false
set_option linter.unusedVariables false
namespace Go.Proofs.Yticflcpmlbaafaa.AL
open Go
variable {f : FloorD}

theorem size_wrap (h : FloorOk f) : IntKind.i64.wrap (IntKind.i64.wrap (f.w * f.h) * f.d) = f.n := by
  obtain ⟨h1, h2⟩ := h.wh
  have := h.n2
  rw [wrap_i (n := f.w * f.h) (by omega) (by omega), h.size]
  exact wrap_i (by omega) (by omega)
theorem f52 (h : FloorOk f) : Pure Try.prog 52 [.v (.agg (encFloor f))] (· = tI f.n) := by
  refine Pure.of_awp hm Try.func52 s52_ok (by simp [s52]) ?_
  simp only [go_sem, s52, encFloor, ↓reduceIte, reduceCtorEq, Nat.reduceEqDiff, Nat.reduceAdd, Nat.reduceSub, Nat.reduceMul, Nat.reduceLT, Nat.reduceLeDiff, Int.reduceToNat]
  exact ⟨rfl, by rw [size_wrap h]⟩

theorem f45 (h : FloorOk f) (c : Int) : Pure Try.prog 45 [.v (.agg (encFloor f)), tI c] (· = tB (isF f c)) := by
  refine Pure.of_awp hm Try.func45 s45_ok (by simp [s45]) ?_
  simp only [go_sem, s45, encFloor, ↓reduceIte, reduceCtorEq, Nat.reduceEqDiff, Nat.reduceAdd, Nat.reduceSub, Nat.reduceMul, Nat.reduceLT, Nat.reduceLeDiff, Int.reduceToNat]
  refine guardQ_at (fun h1 => ?_) (fun h1 => ?_)
  · simp only [go_sem, s45_2, ↓reduceIte, reduceCtorEq, Nat.reduceEqDiff, Nat.reduceAdd, Nat.reduceSub, Nat.reduceMul, Nat.reduceLT, Nat.reduceLeDiff, Int.reduceToNat]
    refine Pure.callS (f52 h) rfl ?_
    simp only [go_sem, s45_1, ↓reduceIte, reduceCtorEq, Nat.reduceEqDiff, Nat.reduceAdd, Nat.reduceSub, Nat.reduceMul, Nat.reduceLT, Nat.reduceLeDiff, Int.reduceToNat]
    exact ⟨rfl, by simp only [isF, h1, Bool.true_and]⟩
  · simp only [go_sem, s45_2, s45_1, ↓reduceIte, reduceCtorEq, Nat.reduceEqDiff, Nat.reduceAdd, Nat.reduceSub, Nat.reduceMul, Nat.reduceLT, Nat.reduceLeDiff, Int.reduceToNat]
    exact ⟨rfl, by simp only [isF, h1, Bool.not_true, Bool.false_and]⟩

theorem cellF_no {x y z : Int} (h : ¬ (0 ≤ x ∧ x < f.w ∧ 0 ≤ y ∧ y < f.h ∧ 0 ≤ z ∧ z < f.d)) : cellF f x y z = -1 := if_neg h
theorem cell_wrap (h : FloorOk f) {x y z : Int} (hx : 0 ≤ x ∧ x < f.w ∧ 0 ≤ y ∧ y < f.h ∧ 0 ≤ z ∧ z < f.d) :
    IntKind.i64.wrap (IntKind.i64.wrap (IntKind.i64.wrap (IntKind.i64.wrap (z * f.h) + y) * f.w) + x) = cellF f x y z := by
  obtain ⟨b1, b2, b3, b4, b5⟩ := cell_bound h hx
  have := h.n2
  have := h.w2
  have := h.h2
  rw [wrap_i (n := z * f.h) (by omega) (by omega), wrap_i (n := z * f.h + y) (by omega) (by omega), wrap_i (n := (z * f.h + y) * f.w) (by omega) (by omega), wrap_i (by omega) (by omega)]
  exact (if_pos hx).symm

theorem min3 {x y z : Int} : (if z < (if y < x then y else x) then z else (if y < x then y else x)) < 0 ↔ x < 0 ∨ y < 0 ∨ z < 0 := by
  split <;> split <;> omega

theorem f48 (h : FloorOk f) (x y z : Int) : Pure Try.prog 48 [.v (.agg (encFloor f)), tI x, tI y, tI z] (· = tI (cellF f x y z)) := by
  refine Pure.of_awp hm Try.func48 s48_ok (by simp [s48]) ?_
  simp only [go_sem, s48, s48_1, s48_2, s48_3, s48_4, s48_5, s48_6, encFloor, min3, ↓reduceIte, reduceCtorEq, Nat.reduceEqDiff, Nat.reduceAdd, Nat.reduceSub, Nat.reduceMul, Nat.reduceLT, Nat.reduceLeDiff, Int.reduceToNat]
  repeat' (first | refine guardQ_at (fun _ => ?_) (fun _ => ?_) | refine twoQ_at (fun _ => ?_) (fun _ => ?_) | refine And.intro rfl ?_)
  all_goals simp only [Bool.not_true, Bool.not_false, decide_eq_true_eq, decide_eq_false_iff_not] at *
  all_goals first | rw [cellF_no (by omega)] | rw [cell_wrap h (by omega)]

abbrev tP (x y z : Int) : T := .tup [.x (cV (.int .i64 x)), .x (cV (.int .i64 y)), .x (cV (.int .i64 z))]

theorem tdiv_lt {a b : Int} (h1 : 0 ≤ a) (h2 : 1 ≤ b) : 0 ≤ a.tdiv b ∧ a.tdiv b ≤ a := by
  rw [Int.tdiv_eq_ediv_of_nonneg h1]
  exact ⟨Int.ediv_nonneg h1 (by omega), Int.ediv_le_self _ h1⟩

theorem f46 (h : FloorOk f) (c : Int) : Pure Try.prog 46 [.v (.agg (encFloor f)), tI c] (· = tP (xF f c) (yF f c) (zF f c)) := by
  refine Pure.of_awp hm Try.func46 s46_ok (by simp [s46]) ?_
  simp only [go_sem, s46, encFloor, ↓reduceIte, reduceCtorEq, Nat.reduceEqDiff, Nat.reduceAdd, Nat.reduceSub, Nat.reduceMul, Nat.reduceLT, Nat.reduceLeDiff, Int.reduceToNat]
  refine Pure.callS (f45 h c) rfl ?_
  simp only [go_sem, s46_4, s46_3, s46_2, s46_1, ↓reduceIte, reduceCtorEq, Nat.reduceEqDiff, Nat.reduceAdd, Nat.reduceSub, Nat.reduceMul, Nat.reduceLT, Nat.reduceLeDiff, Int.reduceToNat]
  refine twoQ_at (fun h1 => ?_) (fun h1 => ?_)
  · simp only [Bool.not_eq_true'] at h1
    refine ⟨rfl, ?_⟩
    simp [xF, yF, zF, h1]
  · simp only [Bool.not_eq_false'] at h1
    have h1' := h1
    simp only [isF, Bool.and_eq_true, decide_eq_true_eq] at h1'
    have := h.w1; have := h.h1; have := h.n2; have hw := h.wh
    have e1 := tdiv_lt (a := c) (b := f.w) (by omega) (by omega)
    have e2 := tdiv_lt (a := c) (b := f.w * f.h) (by omega) (by omega)
    have e3 : IntKind.i64.wrap (f.w * f.h) = f.w * f.h := wrap_i (by omega) (by omega)
    rw [e3]
    refine ⟨by omega, by omega, by omega, by omega, rfl, ?_⟩
    rw [wrap_i (by omega) (by omega), wrap_i (by omega) (by omega)]
    simp [xF, yF, zF, h1]

theorem tdiv_tdiv {a b c : Int} (h1 : 0 ≤ a) (h2 : 1 ≤ b) (h3 : 1 ≤ c) : (a.tdiv b).tdiv c = a.tdiv (b * c) := by
  have h4 := tdiv_lt h1 h2
  rw [Int.tdiv_eq_ediv_of_nonneg h4.1, Int.tdiv_eq_ediv_of_nonneg h1, Int.tdiv_eq_ediv_of_nonneg h1, Int.ediv_ediv_of_nonneg (by omega)]

theorem xF_b (h : FloorOk f) (c : Int) : (0 ≤ xF f c ∧ xF f c < f.w) ∧ (0 ≤ yF f c ∧ yF f c < f.h) ∧ 0 ≤ zF f c ∧ zF f c ≤ 4096 := by
  have hw := h.w1; have hh := h.h1; have := h.n2; have hwh := h.wh
  unfold xF yF zF
  split
  · rename_i h1
    simp only [isF, Bool.and_eq_true, decide_eq_true_eq] at h1
    have e1 := tdiv_lt (a := c) (b := f.w) (by omega) (by omega)
    have e2 := tdiv_lt (a := c) (b := f.w * f.h) (by omega) (by omega)
    rw [Int.tmod_eq_emod_of_nonneg h1.1, Int.tmod_eq_emod_of_nonneg e1.1]
    exact ⟨⟨Int.emod_nonneg _ (by omega), Int.emod_lt_of_pos _ (by omega)⟩, ⟨Int.emod_nonneg _ (by omega), Int.emod_lt_of_pos _ (by omega)⟩, by omega, by omega⟩
  · omega

def besideF (f : FloorD) (c d : Int) : Int :=
  if isF f c = false then -1
  else if d = 0 then cellF f (xF f c + 1) (yF f c) (zF f c)
  else if d = 1 then cellF f (xF f c) (yF f c + 1) (zF f c)
  else if d = 2 then cellF f (xF f c - 1) (yF f c) (zF f c)
  else if d = 3 then cellF f (xF f c) (yF f c - 1) (zF f c)
  else if d = 4 then cellF f (xF f c) (yF f c) (zF f c + 1)
  else if d = 5 then cellF f (xF f c) (yF f c) (zF f c - 1)
  else -1

theorem f47 : Pure Try.prog 47 [] (· = .v (.agg (([1, 0, 0, 0, 1, 0, -1, 0, 0, 0, -1, 0, 0, 0, 1, 0, 0, -1] : List Int).map fun n => cV (.int .i64 n)))) := by
  refine Pure.of_awp hm Try.func47 s47_ok (by simp [s47]) ?_
  simp only [go_sem, s47, ↓reduceIte, reduceCtorEq, Nat.reduceEqDiff, Nat.reduceAdd, Nat.reduceSub, Nat.reduceMul, Nat.reduceLT, Nat.reduceLeDiff, Int.reduceToNat]
  rfl

theorem f20 (h : FloorOk f) (c d : Int) : Pure Try.prog 20 [.v (.agg (encFloor f)), tI c, tI d] (· = tI (besideF f c d)) := by
  obtain ⟨b1, b2, b3⟩ := xF_b h c
  have := h.w2; have := h.h2
  refine Pure.of_awp hm Try.func20 s20_ok (by simp [s20]) ?_
  simp only [go_sem, s20, encFloor, ↓reduceIte, reduceCtorEq, Nat.reduceEqDiff, Nat.reduceAdd, Nat.reduceSub, Nat.reduceMul, Nat.reduceLT, Nat.reduceLeDiff, Int.reduceToNat]
  refine Pure.callS (f45 h c) rfl ?_
  simp only [go_sem, s20_11, s20_10, s20_9, s20_8, s20_7, ↓reduceIte, reduceCtorEq, Nat.reduceEqDiff, Nat.reduceAdd, Nat.reduceSub, Nat.reduceMul, Nat.reduceLT, Nat.reduceLeDiff, Int.reduceToNat]
  have no : ¬ (0 ≤ d ∧ d < 6) → besideF f c d = -1 := fun hd => by
    unfold besideF
    rw [if_neg (c := d = 0) (by omega), if_neg (c := d = 1) (by omega), if_neg (c := d = 2) (by omega), if_neg (c := d = 3) (by omega), if_neg (c := d = 4) (by omega), if_neg (c := d = 5) (by omega), ite_self]
  refine guardQ_at (fun h1 => ?_) (fun h1 => ?_)
  · simp only [Bool.not_eq_false'] at h1
    refine guardQ_at (fun h2 => ?_) (fun h2 => ?_)
    · refine twoQ_at (fun h3 => ?_) (fun h3 => ?_)
      · simp only [decide_eq_true_eq] at h3
        exact ⟨rfl, by rw [no (by omega)]⟩
      · simp only [decide_eq_false_iff_not] at h2 h3
        simp only [go_sem, s20_6, ↓reduceIte, reduceCtorEq, Nat.reduceEqDiff, Nat.reduceAdd, Nat.reduceSub, Nat.reduceMul, Nat.reduceLT, Nat.reduceLeDiff, Int.reduceToNat]
        refine Pure.callS (f46 h c) rfl ?_
        simp only [go_sem, s20_5, s20_4, ↓reduceIte, reduceCtorEq, Nat.reduceEqDiff, Nat.reduceAdd, Nat.reduceSub, Nat.reduceMul, Nat.reduceLT, Nat.reduceLeDiff, Int.reduceToNat]
        refine Pure.callS f47 rfl ?_
        have hd : d = 0 ∨ d = 1 ∨ d = 2 ∨ d = 3 ∨ d = 4 ∨ d = 5 := by omega
        rcases hd with rfl | rfl | rfl | rfl | rfl | rfl
        all_goals
          simp only [go_sem, s20_3, s20_2, ↓reduceIte, reduceCtorEq, Nat.reduceEqDiff, Nat.reduceAdd, Nat.reduceSub, Nat.reduceMul, Nat.reduceLT, Nat.reduceLeDiff, Int.reduceToNat]
          refine ⟨⟨by omega, by omega⟩, ?_⟩
          refine Pure.callS (f48 h _ _ _) rfl ?_
          simp only [go_sem, s20_1, ↓reduceIte, reduceCtorEq, Nat.reduceEqDiff, Nat.reduceAdd, Nat.reduceSub, Nat.reduceMul, Nat.reduceLT, Nat.reduceLeDiff, Int.reduceToNat]
          refine ⟨rfl, ?_⟩
          simp (disch := omega) only [wrap_i]
          simp [besideF, h1, ← Int.sub_eq_add_neg]
    · exact ⟨rfl, by rw [no (by simp at h2; omega)]⟩
  · refine ⟨rfl, ?_⟩
    simp at h1
    simp [besideF, h1]
def nearF (f : FloorD) (a b : Int) : Bool := isF f b && (decide (besideF f a 0 = b) || decide (besideF f a 1 = b) || decide (besideF f a 2 = b) || decide (besideF f a 3 = b))

end Go.Proofs.Yticflcpmlbaafaa.AL

/- Sites: the small questions. -/
set_option linter.unusedSimpArgs false
set_option linter.unusedVariables false
namespace Go.Proofs.Yticflcpmlbaafaa.AL
open Go

theorem f32 (n a b : Int) : Pure Try.prog 32 [tI n, tI a, tI b] (· = tB (decide (a ≤ n) && decide (n ≤ b))) := by
  refine Pure.of_awp hm Try.func32 s32_ok (by simp [s32]) ?_
  simp only [go_sem, s32, s32_1, ↓reduceIte, reduceCtorEq, Nat.reduceEqDiff, Nat.reduceAdd, Nat.reduceSub, Nat.reduceMul, Nat.reduceLT, Nat.reduceLeDiff, Int.reduceToNat]
  refine guardQ_at (fun h => ?_) (fun h => ?_) <;> exact ⟨rfl, by simp at h; first | (simp [h]; done) | (simp; omega)⟩

def standsK (k : Int) : Bool := decide (k = 1) || decide (k = 2)
def zonedK (k : Int) : Bool := decide (k ≠ 0) && decide (k ≠ 4) && decide (k ≠ 5)

theorem f57 (k : Int) : Pure Try.prog 57 [tI k] (· = tB (standsK k)) := by
  refine Pure.of_awp hm Try.func57 s57_ok (by simp [s57]) ?_
  simp only [go_sem, s57, s57_1, ↓reduceIte, reduceCtorEq, Nat.reduceEqDiff, Nat.reduceAdd, Nat.reduceSub, Nat.reduceMul, Nat.reduceLT, Nat.reduceLeDiff, Int.reduceToNat]
  refine guardQ_at (fun h => ?_) (fun h => ?_) <;> exact ⟨rfl, by simp at h; simp [standsK, h]⟩

theorem f55 (k : Int) : Pure Try.prog 55 [tI k] (· = tB (zonedK k)) := by
  refine Pure.of_awp hm Try.func55 s55_ok (by simp [s55]) ?_
  simp only [go_sem, s55, s55_1, s55_2, ↓reduceIte, reduceCtorEq, Nat.reduceEqDiff, Nat.reduceAdd, Nat.reduceSub, Nat.reduceMul, Nat.reduceLT, Nat.reduceLeDiff, Int.reduceToNat]
  repeat' (first | refine guardQ_at (fun _ => ?_) (fun _ => ?_) | refine twoQ_at (fun _ => ?_) (fun _ => ?_) | refine And.intro rfl ?_)
  all_goals simp_all [zonedK]

theorem f63 (s : ByteArray) (c : Int) : Pure Try.prog 63 [tS s, tV (.int .u8 c)] (· = tI (firstIdx s c.toNat.toUInt8)) := by
  refine Pure.of_awp hm Try.func63 s63_ok (by simp [s63]) ?_
  simp only [go_sem, s63, ↓reduceIte, reduceCtorEq, Nat.reduceEqDiff, Nat.reduceAdd, Nat.reduceSub, Nat.reduceMul, Nat.reduceLT, Nat.reduceLeDiff, Int.reduceToNat]
  rfl

theorem f53 (s : ByteArray) (c : Int) : Pure Try.prog 53 [tS s, tV (.int .u8 c)] (· = tI (firstIdx s c.toNat.toUInt8)) := by
  refine Pure.of_awp hm Try.func53 s53_ok (by simp [s53]) ?_
  simp only [go_sem, s53, ↓reduceIte, reduceCtorEq, Nat.reduceEqDiff, Nat.reduceAdd, Nat.reduceSub, Nat.reduceMul, Nat.reduceLT, Nat.reduceLeDiff, Int.reduceToNat]
  refine Pure.callS (f63 s c) rfl ?_
  simp only [go_sem, s53_1, ↓reduceIte, reduceCtorEq, Nat.reduceEqDiff, Nat.reduceAdd, Nat.reduceSub, Nat.reduceMul, Nat.reduceLT, Nat.reduceLeDiff, Int.reduceToNat]
  rfl

theorem f31 (s : ByteArray) : Pure Try.prog 31 [tS s] (fun d => ∃ b, d = tB b ∧ (b = true → 1 ≤ s.size ∧ s.size ≤ 20)) := by
  refine Pure.of_awp hm Try.func31 s31_ok (by simp [s31]) ?_
  simp only [go_sem, s31, ↓reduceIte, reduceCtorEq, Nat.reduceEqDiff, Nat.reduceAdd, Nat.reduceSub, Nat.reduceMul, Nat.reduceLT, Nat.reduceLeDiff, Int.reduceToNat]
  have tail : ∀ {tm : Nat → Option T} {K : KMap} {N : Nat}, 1 ≤ s.size → s.size ≤ 20 → tm 0 = some (tS s) → awp Try.prog 0 s31_8 ⟨tm, K, N⟩ (retP [SRes.tmp 2] fun d => ∃ b, d = tB b ∧ (b = true → 1 ≤ s.size ∧ s.size ≤ 20)) := by
    intro tm K N hs1 hs2 h0
    simp only [go_sem, s31_8, h0, ↓reduceIte, reduceCtorEq, Nat.reduceEqDiff, Nat.reduceAdd, Nat.reduceSub, Nat.reduceMul, Nat.reduceLT, Nat.reduceLeDiff, Int.reduceToNat]
    refine awp_loop (fun i : Nat => ⟨upd (upd (upd emp 0 (tS s)) 23 (tI s.size)) 24 (tI i), emp, 0⟩) (fun i => s.size - i) (fun i => i ≤ s.size) 0 (Nat.zero_le _) ?_ ?_
    · exact Weak.keep (TmLe.cons rfl rfl (TmLe.cons rfl rfl (TmLe.cons (by simp [upd, h0]) rfl TmLe.nil))) KLe.nil (Nat.le_refl _) (Nat.zero_le _)
    · intro i hi
      simp only [go_sem, s31_7, ↓reduceIte, reduceCtorEq, Nat.reduceEqDiff, Nat.reduceAdd, Nat.reduceSub, Nat.reduceMul, Nat.reduceLT, Nat.reduceLeDiff, Int.reduceToNat]
      refine twoQ_at (fun h => ?_) (fun h => ?_)
      · have hi' : i < s.size := by simpa using h
        simp only [go_sem, s31_6, ↓reduceIte, reduceCtorEq, Nat.reduceEqDiff, Nat.reduceAdd, Nat.reduceSub, Nat.reduceMul, Nat.reduceLT, Nat.reduceLeDiff, Int.reduceToNat]
        refine ⟨⟨by omega, by omega⟩, ?_⟩
        refine Pure.callS (f53 _ _) rfl ?_
        simp only [go_sem, s31_5, s31_4, s31_3, ↓reduceIte, reduceCtorEq, Nat.reduceEqDiff, Nat.reduceAdd, Nat.reduceSub, Nat.reduceMul, Nat.reduceLT, Nat.reduceLeDiff, Int.reduceToNat]
        refine twoQ_at (fun h2 => ?_) (fun h2 => ?_)
        · exact ⟨rfl, false, rfl, fun h => by cases h⟩
        · simp only [go_sem, s31_2, ↓reduceIte, reduceCtorEq, Nat.reduceEqDiff, Nat.reduceAdd, Nat.reduceSub, Nat.reduceMul, Nat.reduceLT, Nat.reduceLeDiff, Int.reduceToNat]
          refine ⟨i + 1, by omega, by omega, ?_⟩
          rw [wrap_i (by omega) (by omega)]
          exact Weak.keep (TmLe.cons rfl rfl (TmLe.cons rfl rfl (TmLe.cons rfl rfl TmLe.nil))) KLe.nil (Nat.le_refl _) (Nat.le_refl _)
      · simp only [go_sem, s31_1, ↓reduceIte, reduceCtorEq, Nat.reduceEqDiff, Nat.reduceAdd, Nat.reduceSub, Nat.reduceMul, Nat.reduceLT, Nat.reduceLeDiff, Int.reduceToNat]
        exact ⟨rfl, true, rfl, fun _ => ⟨hs1, hs2⟩⟩
  refine guardQ_at (fun h1 => ?_) (fun h1 => ?_)
  · simp only [decide_eq_false_iff_not] at h1
    simp only [go_sem, s31_14, ↓reduceIte, reduceCtorEq, Nat.reduceEqDiff, Nat.reduceAdd, Nat.reduceSub, Nat.reduceMul, Nat.reduceLT, Nat.reduceLeDiff, Int.reduceToNat]
    refine guardQ_at (fun h2 => ?_) (fun h2 => ?_)
    · simp only [decide_eq_false_iff_not] at h2
      simp only [go_sem, s31_13, ↓reduceIte, reduceCtorEq, Nat.reduceEqDiff, Nat.reduceAdd, Nat.reduceSub, Nat.reduceMul, Nat.reduceLT, Nat.reduceLeDiff, Int.reduceToNat]
      refine ⟨⟨by omega, by omega⟩, ?_⟩
      refine guardQ_at (fun h3 => ?_) (fun h3 => ?_)
      · simp only [go_sem, s31_12, s31_11, s31_10, s31_9, ↓reduceIte, reduceCtorEq, Nat.reduceEqDiff, Nat.reduceAdd, Nat.reduceSub, Nat.reduceMul, Nat.reduceLT, Nat.reduceLeDiff, Int.reduceToNat]
        refine ⟨⟨by omega, by omega⟩, ?_⟩
        refine twoQ_at (fun h4 => ?_) (fun h4 => ?_)
        · exact ⟨rfl, false, rfl, fun h => by cases h⟩
        · exact tail (by omega) (by omega) rfl
      · simp only [go_sem, s31_12, s31_11, s31_10, s31_9, ↓reduceIte, reduceCtorEq, Nat.reduceEqDiff, Nat.reduceAdd, Nat.reduceSub, Nat.reduceMul, Nat.reduceLT, Nat.reduceLeDiff, Int.reduceToNat]
        exact tail (by omega) (by omega) rfl
    · simp only [go_sem, s31_13, s31_12, s31_11, s31_10, s31_9, ↓reduceIte, reduceCtorEq, Nat.reduceEqDiff, Nat.reduceAdd, Nat.reduceSub, Nat.reduceMul, Nat.reduceLT, Nat.reduceLeDiff, Int.reduceToNat]
      exact ⟨rfl, false, rfl, fun h => by cases h⟩
  · simp only [go_sem, s31_14, s31_13, s31_12, s31_11, s31_10, s31_9, ↓reduceIte, reduceCtorEq, Nat.reduceEqDiff, Nat.reduceAdd, Nat.reduceSub, Nat.reduceMul, Nat.reduceLT, Nat.reduceLeDiff, Int.reduceToNat]
    exact ⟨rfl, false, rfl, fun h => by cases h⟩
def spans (l : List (Int × Int)) : List (List R) := l.map fun x => [.val (.int .i64 x.1), .val (.int .i64 x.2)]
theorem spans_len {l : List (Int × Int)} : (spans l).length = l.length := by simp [spans]
theorem spans_at {l : List (Int × Int)} {i : Nat} (h : i < l.length) : (spans l).getD i [] = [R.val (.int .i64 (l.getD i (0, 0)).1), R.val (.int .i64 (l.getD i (0, 0)).2)] := by simp [spans, h]

/-- Spans as those of a zone have to be. -/
def ShutOk (l : List (Int × Int)) : Prop := ∀ i, i < l.length → (if i = 0 then 0 else (l.getD (i - 1) (0, 0)).2) ≤ (l.getD i (0, 0)).1 ∧ (l.getD i (0, 0)).1 < (l.getD i (0, 0)).2 ∧ (l.getD i (0, 0)).2 ≤ 20000

def lastTo (l : List (Int × Int)) (i : Nat) : Int := if i = 0 then 0 else (l.getD (i - 1) (0, 0)).2

theorem f33 (l : List (Int × Int)) (hl : l.length ≤ 140737488355328) : Pure Try.prog 33 [tC (.r (.rd 2 (spans l)))] (fun d => ∃ b, d = tB b ∧ (b = true → ShutOk l)) := by
  refine Pure.of_awp hm Try.func33 s33_ok (by simp [s33]) ?_
  simp only [go_sem, s33, spans_len, ↓reduceIte, reduceCtorEq, Nat.reduceEqDiff, Nat.reduceAdd, Nat.reduceSub, Nat.reduceMul, Nat.reduceLT, Nat.reduceLeDiff, Int.reduceToNat]
  refine awp_loop (fun i : Nat => ⟨upd (upd (upd (upd emp 6 (tC (.r (.rd 2 (spans l))))) 7 (tI l.length)) 3 (tI (lastTo l i))) 8 (tI i), emp, 0⟩) (fun i => l.length - i) (fun i => i ≤ l.length ∧ ∀ j, j < i → lastTo l j ≤ (l.getD j (0, 0)).1 ∧ (l.getD j (0, 0)).1 < (l.getD j (0, 0)).2 ∧ (l.getD j (0, 0)).2 ≤ 20000) 0 ⟨Nat.zero_le _, fun j hj => by omega⟩ ?_ ?_
  · exact Weak.keep (TmLe.cons rfl rfl (TmLe.cons rfl rfl (TmLe.cons rfl rfl (TmLe.cons rfl rfl TmLe.nil)))) KLe.nil (Nat.le_refl _) (Nat.le_refl _)
  · intro i ⟨hi, hin⟩
    simp only [go_sem, s33_9, ↓reduceIte, reduceCtorEq, Nat.reduceEqDiff, Nat.reduceAdd, Nat.reduceSub, Nat.reduceMul, Nat.reduceLT, Nat.reduceLeDiff, Int.reduceToNat]
    refine twoQ_at (fun h => ?_) (fun h => ?_)
    · have hi' : i < l.length := by simpa using h
      simp only [go_sem, s33_8, spans_len, spans_at hi', Int.toNat_natCast, ↓reduceIte, reduceCtorEq, Nat.reduceEqDiff, Nat.reduceAdd, Nat.reduceSub, Nat.reduceMul, Nat.reduceLT, Nat.reduceLeDiff, Int.reduceToNat]
      refine ⟨⟨by omega, by omega⟩, guardQ_at (fun h1 => ?_) (fun h1 => ?_)⟩
      · simp only [go_sem, s33_7, ↓reduceIte, reduceCtorEq, Nat.reduceEqDiff, Nat.reduceAdd, Nat.reduceSub, Nat.reduceMul, Nat.reduceLT, Nat.reduceLeDiff, Int.reduceToNat]
        refine guardQ_at (fun h2 => ?_) (fun h2 => ?_)
        · simp only [go_sem, s33_6, s33_5, s33_4, ↓reduceIte, reduceCtorEq, Nat.reduceEqDiff, Nat.reduceAdd, Nat.reduceSub, Nat.reduceMul, Nat.reduceLT, Nat.reduceLeDiff, Int.reduceToNat]
          refine twoQ_at (fun h3 => ?_) (fun h3 => ?_)
          · exact ⟨rfl, false, rfl, fun h => by cases h⟩
          · simp only [go_sem, s33_3, s33_2, ↓reduceIte, reduceCtorEq, Nat.reduceEqDiff, Nat.reduceAdd, Nat.reduceSub, Nat.reduceMul, Nat.reduceLT, Nat.reduceLeDiff, Int.reduceToNat]
            simp only [decide_eq_false_iff_not] at h1 h2 h3
            refine ⟨i + 1, ⟨by omega, fun j hj => ?_⟩, by omega, ?_⟩
            · by_cases e : j = i
              · subst e; exact ⟨by omega, by omega, by omega⟩
              · exact hin j (by omega)
            · rw [wrap_i (by omega) (by omega)]
              exact Weak.keep (TmLe.cons rfl rfl (TmLe.cons rfl rfl (TmLe.cons rfl rfl (TmLe.cons rfl rfl TmLe.nil)))) KLe.nil (Nat.le_refl _) (Nat.zero_le _)
        · simp only [go_sem, s33_6, s33_5, s33_4, ↓reduceIte, reduceCtorEq, Nat.reduceEqDiff, Nat.reduceAdd, Nat.reduceSub, Nat.reduceMul, Nat.reduceLT, Nat.reduceLeDiff, Int.reduceToNat]
          exact ⟨rfl, false, rfl, fun h => by cases h⟩
      · simp only [go_sem, s33_7, s33_6, s33_5, s33_4, ↓reduceIte, reduceCtorEq, Nat.reduceEqDiff, Nat.reduceAdd, Nat.reduceSub, Nat.reduceMul, Nat.reduceLT, Nat.reduceLeDiff, Int.reduceToNat]
        exact ⟨rfl, false, rfl, fun h => by cases h⟩
    · simp only [go_sem, s33_1, ↓reduceIte, reduceCtorEq, Nat.reduceEqDiff, Nat.reduceAdd, Nat.reduceSub, Nat.reduceMul, Nat.reduceLT, Nat.reduceLeDiff, Int.reduceToNat]
      have : i = l.length := by simp at h; omega
      subst this
      exact ⟨rfl, true, rfl, fun _ => hin⟩
end Go.Proofs.Yticflcpmlbaafaa.AL

/- IndexFunc over rows, and the functions that use it. -/
set_option linter.unusedSimpArgs false
set_option linter.unusedVariables false
namespace Go.Proofs.Yticflcpmlbaafaa.AL
open Go

theorem f58 {K : KMap} {N g : Nat} {caps : List Nat} (rows : List (List R)) (p : Nat → Bool) (hl : rows.length ≤ 140737488355328) (hcaps : caps.all (· < N) = true) (hK : ∀ i o, K i = some o → i < N ∧ o.below N = true)
    (hrow : ∀ i, i < rows.length → (rows.getD i []).length = 5) (hp : ∀ i, i < rows.length → PureK Try.prog g (.v (.agg ((rows.getD i []).map C.r)) :: caps.map fun id => tC (.ptr id 0 0 0)) K N (· = tB (p i))) :
    PureK Try.prog 58 [tC (.r (.rd 5 rows)), tC (.fn g caps)] K N (· = tI (idxF p rows.length)) := by
  refine PureK.of_awp hm Try.func58 s58_ok (by simp [s58]) ?_
  simp only [go_sem, s58, ↓reduceIte, reduceCtorEq, Nat.reduceEqDiff, Nat.reduceAdd, Nat.reduceSub, Nat.reduceMul, Nat.reduceLT, Nat.reduceLeDiff, Int.reduceToNat]
  refine awp_loop (fun i : Nat => ⟨upd (upd (upd (upd emp 0 (tC (.r (.rd 5 rows)))) 1 (tC (.fn g caps))) 7 (tI rows.length)) 8 (tI i), K, N⟩) (fun i => rows.length - i) (fun i => i ≤ rows.length ∧ ∀ j, j < i → p j = false) 0 ⟨Nat.zero_le _, fun j hj => by omega⟩ ?_ ?_
  · exact Weak.keep (TmLe.cons rfl rfl (TmLe.cons rfl rfl (TmLe.cons rfl hcaps (TmLe.cons rfl rfl TmLe.nil)))) (KLe.self hK) (Nat.le_refl _) (Nat.le_refl _)
  · intro i ⟨hi, hno⟩
    simp only [go_sem, s58_7, ↓reduceIte, reduceCtorEq, Nat.reduceEqDiff, Nat.reduceAdd, Nat.reduceSub, Nat.reduceMul, Nat.reduceLT, Nat.reduceLeDiff, Int.reduceToNat]
    refine twoQ_at (fun h => ?_) (fun h => ?_)
    · have hi' : i < rows.length := by simpa using h
      have hx : (rows.getD i []).take 5 = rows.getD i [] := List.take_of_length_le (by rw [hrow i hi']; exact Nat.le_refl _)
      simp only [go_sem, s58_6, Int.toNat_natCast, hx, hrow i hi', ↓reduceIte, reduceCtorEq, Nat.reduceEqDiff, Nat.reduceAdd, Nat.reduceSub, Nat.reduceMul, Nat.reduceLT, Nat.reduceLeDiff, Int.reduceToNat]
      refine ⟨⟨by omega, by omega⟩, ?_⟩
      refine PureK.callId (hp i hi') hK (fun a ha => ?_) ?_
      · rcases List.mem_cons.1 ha with rfl | ha
        · simp [T.below, V.below, C.below]
        · obtain ⟨id, hid, rfl⟩ := List.mem_map.1 ha
          simp only [List.all_eq_true] at hcaps
          simpa [T.below, V.below, C.below] using hcaps id hid
      · rintro _ rfl _
        simp only [go_sem, s58_5, s58_4, s58_3, ↓reduceIte, reduceCtorEq, Nat.reduceEqDiff, Nat.reduceAdd, Nat.reduceSub, Nat.reduceMul, Nat.reduceLT, Nat.reduceLeDiff, Int.reduceToNat]
        refine twoQ_at (fun h2 => ?_) (fun h2 => ?_)
        · refine ⟨rfl, KLe.self hK, ?_⟩
          rw [idxF_hit hi' h2 hno]
        · simp only [go_sem, s58_2, ↓reduceIte, reduceCtorEq, Nat.reduceEqDiff, Nat.reduceAdd, Nat.reduceSub, Nat.reduceMul, Nat.reduceLT, Nat.reduceLeDiff, Int.reduceToNat]
          refine ⟨i + 1, ⟨by omega, fun j hj => ?_⟩, by omega, ?_⟩
          · by_cases e : j = i
            · subst e; exact h2
            · exact hno j (by omega)
          · rw [wrap_i (by omega) (by omega)]
            exact Weak.keep (TmLe.cons rfl rfl (TmLe.cons rfl rfl (TmLe.cons rfl hcaps (TmLe.cons rfl rfl TmLe.nil)))) (KLe.self hK) (Nat.le_refl _) (Nat.le_refl _)
    · have hi' : i = rows.length := by simp at h; omega
      simp only [go_sem, s58_1, ↓reduceIte, reduceCtorEq, Nat.reduceEqDiff, Nat.reduceAdd, Nat.reduceSub, Nat.reduceMul, Nat.reduceLT, Nat.reduceLeDiff, Int.reduceToNat]
      refine ⟨rfl, KLe.self hK, ?_⟩
      rw [idxF_none (fun j hj => hno j (by omega))]

structure RobotD where
  cell : Int
  load : Int
  charge : Int
  rest : Int
  mute : Int
  dead : Bool
  deriving Inhabited

def encRobot (r : RobotD) : List R := [.val (.int .i64 r.cell), .val (.int .i64 r.load), .val (.int .i64 r.charge), .val (.int .i64 r.rest), .val (.int .i64 r.mute), .val (.bool r.dead)]

structure StateD where
  tick : Int
  shelves : List Int
  robots : List RobotD
  people : List Int
  dead : List Int
  stuck : List (Int × Int)

def encState (s : StateD) : List C := [cV (.int .i64 s.tick), .r (.rd 1 (ints s.shelves)), .r (.rd 6 (s.robots.map encRobot)), .r (.rd 1 (ints s.people)), .r (.rd 1 (ints s.dead)), .r (.rd 2 (spans s.stuck))]

def carriedF (st : StateD) (n : Int) : Int := if n < 0 then -1 else idxF (fun i => decide ((st.robots.getD i default).load = n)) st.robots.length

theorem rows_len {α : Type} {f : α → List R} {l : List α} : (l.map f).length = l.length := by simp
theorem rows_at {α : Type} [Inhabited α] {f : α → List R} {l : List α} {i : Nat} (h : i < l.length) : (l.map f).getD i [] = f (l.getD i default) := by simp [h]

theorem box1 {c : C} (h : c.below 1 = true) : ∀ i o, (upd emp 0 (.row 0 1 [[c]]) : KMap) i = some o → i < 1 ∧ o.below 1 = true := fun i o hk => by
  unfold upd at hk
  split at hk
  · cases hk
    refine ⟨by omega, by simp [AObj.below, h]⟩
  · cases hk

end Go.Proofs.Yticflcpmlbaafaa.AL

/- Search in a sorted list. -/
set_option linter.unusedSimpArgs false
set_option linter.unusedVariables false
namespace Go.Proofs.Yticflcpmlbaafaa.AL
open Go

theorem f69 (n : Int) : Pure Try.prog 69 [tI n] (· = tB false) := by
  refine Pure.of_awp hm Try.func69 s69_ok (by simp [s69]) ?_
  simp only [go_sem, s69, ↓reduceIte, reduceCtorEq, Nat.reduceEqDiff, Nat.reduceAdd, Nat.reduceSub, Nat.reduceMul, Nat.reduceLT, Nat.reduceLeDiff, Int.reduceToNat]
  exact ⟨rfl, by simp⟩
theorem f66 (n : Int) : Pure Try.prog 66 [tI n] (· = tB false) := by
  refine Pure.of_awp hm Try.func66 s66_ok (by simp [s66]) ?_
  simp only [go_sem, s66, ↓reduceIte, reduceCtorEq, Nat.reduceEqDiff, Nat.reduceAdd, Nat.reduceSub, Nat.reduceMul, Nat.reduceLT, Nat.reduceLeDiff, Int.reduceToNat]
  exact ⟨rfl, by simp⟩
theorem f65 (a b : Int) : Pure Try.prog 65 [tI a, tI b] (· = tB (decide (a < b))) := by
  refine Pure.of_awp hm Try.func65 s65_ok (by simp [s65]) ?_
  simp only [go_sem, s65, ↓reduceIte, reduceCtorEq, Nat.reduceEqDiff, Nat.reduceAdd, Nat.reduceSub, Nat.reduceMul, Nat.reduceLT, Nat.reduceLeDiff, Int.reduceToNat]
  refine Pure.callS (f69 a) rfl ?_
  simp only [go_sem, s65_4, s65_3, s65_2, s65_1, ↓reduceIte, reduceCtorEq, Nat.reduceEqDiff, Nat.reduceAdd, Nat.reduceSub, Nat.reduceMul, Nat.reduceLT, Nat.reduceLeDiff, Int.reduceToNat]
  rfl

def Asc (l : List Int) : Prop := ∀ i j, i < j → j < l.length → l.getD i 0 < l.getD j 0

theorem mid_eq {i j : Nat} (h : i + j ≤ 1000000000000000) : IntKind.i64.wrap ((IntKind.u64.wrap (IntKind.i64.wrap ((i : Int) + j))).fdiv (2 ^ min 1 64)) = (((i + j) / 2 : Nat) : Int) := by
  have e : (2 : Int) ^ min 1 64 = 2 := rfl
  rw [e, wrap_i (n := (i : Int) + j) (by omega) (by omega), IntKind.wrap_u64, Int.fdiv_eq_ediv_of_nonneg _ (by omega), wrap_i (by omega) (by omega)]
  omega

theorem f62 (l : List Int) (x : Int) (hl : l.length ≤ 140737488355328) (ha : Asc l) : Pure Try.prog 62 [tC (.r (.rd 1 (ints l))), tI x] (fun d => ∃ p, d = .tup [.x (cV (.int .i64 p)), .x (cV (.bool (decide (x ∈ l))))]) := by
  refine Pure.of_awp hm Try.func62 s62_ok (by simp [s62]) ?_
  simp only [go_sem, s62, ints_len, ↓reduceIte, reduceCtorEq, Nat.reduceEqDiff, Nat.reduceAdd, Nat.reduceSub, Nat.reduceMul, Nat.reduceLT, Nat.reduceLeDiff, Int.reduceToNat]
  refine awp_loop (fun v : Nat × Nat => ⟨upd (upd (upd (upd (upd emp 0 (tC (.r (.rd 1 (ints l))))) 1 (tI x)) 6 (tI l.length)) 7 (tI v.1)) 8 (tI v.2), emp, 0⟩) (fun v => v.2 - v.1)
    (fun v => v.1 ≤ v.2 ∧ v.2 ≤ l.length ∧ (∀ k, k < v.1 → l.getD k 0 < x) ∧ ∀ k, v.2 ≤ k → k < l.length → x ≤ l.getD k 0) (0, l.length) ⟨Nat.zero_le _, Nat.le_refl _, fun k hk => by omega, fun k h1 h2 => by omega⟩ ?_ ?_
  · exact Weak.keep (TmLe.cons rfl rfl (TmLe.cons rfl rfl (TmLe.cons rfl rfl (TmLe.cons rfl rfl (TmLe.cons rfl rfl TmLe.nil))))) KLe.nil (Nat.le_refl _) (Nat.le_refl _)
  · rintro ⟨i, j⟩ ⟨h1, h2, h3, h4⟩
    simp only at h1 h2 h3 h4
    simp only [go_sem, s62_14, ↓reduceIte, reduceCtorEq, Nat.reduceEqDiff, Nat.reduceAdd, Nat.reduceSub, Nat.reduceMul, Nat.reduceLT, Nat.reduceLeDiff, Int.reduceToNat]
    refine twoQ_at (fun h => ?_) (fun h => ?_)
    · have hij : i < j := by simpa using h
      have hm1 : (i + j) / 2 < l.length := by omega
      have hm2 := mid_eq (i := i) (j := j) (by omega)
      simp only [go_sem, s62_13, hm2, Int.toNat_natCast, ints_len, ints_at hm1, ↓reduceIte, reduceCtorEq, Nat.reduceEqDiff, Nat.reduceAdd, Nat.reduceSub, Nat.reduceMul, Nat.reduceLT, Nat.reduceLeDiff, Int.reduceToNat]
      refine ⟨by omega, ⟨by omega, by omega⟩, ?_⟩
      refine Pure.callS (f65 _ _) rfl ?_
      simp only [go_sem, s62_12, s62_11, ↓reduceIte, reduceCtorEq, Nat.reduceEqDiff, Nat.reduceAdd, Nat.reduceSub, Nat.reduceMul, Nat.reduceLT, Nat.reduceLeDiff, Int.reduceToNat]
      refine twoQ_at (fun k => ?_) (fun k => ?_)
      · simp only [decide_eq_true_eq] at k
        simp only [go_sem, s62_9, ↓reduceIte, reduceCtorEq, Nat.reduceEqDiff, Nat.reduceAdd, Nat.reduceSub, Nat.reduceMul, Nat.reduceLT, Nat.reduceLeDiff, Int.reduceToNat]
        refine ⟨((i + j) / 2 + 1, j), ⟨by simp only; omega, h2, fun q hq => ?_, h4⟩, by simp only; omega, ?_⟩
        · simp only at hq
          by_cases e : q = (i + j) / 2
          · subst e; exact k
          · exact Int.lt_trans (ha q _ (by omega) hm1) k
        · rw [wrap_i (n := (((i + j) / 2 : Nat) : Int) + 1) (by omega) (by omega)]
          exact Weak.keep (TmLe.cons rfl rfl (TmLe.cons rfl rfl (TmLe.cons rfl rfl (TmLe.cons rfl rfl (TmLe.cons rfl rfl TmLe.nil))))) KLe.nil (Nat.le_refl _) (Nat.le_refl _)
      · simp only [decide_eq_false_iff_not] at k
        simp only [go_sem, s62_10, ↓reduceIte, reduceCtorEq, Nat.reduceEqDiff, Nat.reduceAdd, Nat.reduceSub, Nat.reduceMul, Nat.reduceLT, Nat.reduceLeDiff, Int.reduceToNat]
        refine ⟨(i, (i + j) / 2), ⟨by simp only; omega, by simp only; omega, h3, fun q hq hq2 => ?_⟩, by simp only; omega, ?_⟩
        · simp only at hq
          by_cases e : q = (i + j) / 2
          · subst e; omega
          · have := ha ((i + j) / 2) q (by omega) hq2; omega
        · exact Weak.keep (TmLe.cons rfl rfl (TmLe.cons rfl rfl (TmLe.cons rfl rfl (TmLe.cons rfl rfl (TmLe.cons rfl rfl TmLe.nil))))) KLe.nil (Nat.le_refl _) (Nat.le_refl _)
    · have hij : i = j := by simp at h; omega
      subst hij
      simp only [go_sem, s62_8, ↓reduceIte, reduceCtorEq, Nat.reduceEqDiff, Nat.reduceAdd, Nat.reduceSub, Nat.reduceMul, Nat.reduceLT, Nat.reduceLeDiff, Int.reduceToNat]
      refine guardQ_at (fun k => ?_) (fun k => ?_)
      · have hi : i < l.length := by simpa using k
        simp only [go_sem, s62_7, Int.toNat_natCast, ints_len, ints_at hi, ↓reduceIte, reduceCtorEq, Nat.reduceEqDiff, Nat.reduceAdd, Nat.reduceSub, Nat.reduceMul, Nat.reduceLT, Nat.reduceLeDiff, Int.reduceToNat]
        refine ⟨⟨by omega, by omega⟩, ?_⟩
        refine guardQ_at (fun k2 => ?_) (fun k2 => ?_)
        · simp only [decide_eq_false_iff_not] at k2
          simp only [go_sem, s62_6, Int.toNat_natCast, ints_len, ints_at hi, ↓reduceIte, reduceCtorEq, Nat.reduceEqDiff, Nat.reduceAdd, Nat.reduceSub, Nat.reduceMul, Nat.reduceLT, Nat.reduceLeDiff, Int.reduceToNat]
          refine ⟨⟨by omega, by omega⟩, ?_⟩
          refine Pure.callS (f66 _) rfl ?_
          simp only [go_sem, s62_5, s62_4, s62_3, s62_2, s62_1, ↓reduceIte, reduceCtorEq, Nat.reduceEqDiff, Nat.reduceAdd, Nat.reduceSub, Nat.reduceMul, Nat.reduceLT, Nat.reduceLeDiff, Int.reduceToNat]
          refine ⟨rfl, i, ?_⟩
          have : x ∉ l := fun hm => by
            obtain ⟨q, hq, he⟩ := mem_getD.1 hm
            rcases Nat.lt_trichotomy q i with c | c | c
            · have := h3 q c; omega
            · subst c; exact k2 he
            · have := h4 i (Nat.le_refl _) hi; have := ha i q c hq; omega
          simp [this]
        · simp only [Bool.not_false, decide_eq_true_eq] at k2
          simp only [go_sem, s62_6, s62_5, s62_4, s62_3, s62_2, s62_1, ↓reduceIte, reduceCtorEq, Nat.reduceEqDiff, Nat.reduceAdd, Nat.reduceSub, Nat.reduceMul, Nat.reduceLT, Nat.reduceLeDiff, Int.reduceToNat]
          refine ⟨rfl, i, ?_⟩
          have : x ∈ l := mem_getD.2 ⟨i, hi, k2⟩
          simp [this]
      · simp only [go_sem, s62_7, s62_6, s62_5, s62_4, s62_3, s62_2, s62_1, ↓reduceIte, reduceCtorEq, Nat.reduceEqDiff, Nat.reduceAdd, Nat.reduceSub, Nat.reduceMul, Nat.reduceLT, Nat.reduceLeDiff, Int.reduceToNat]
        refine ⟨rfl, i, ?_⟩
        have hi : ¬ i < l.length := by simpa using k
        have : x ∉ l := fun hm => by
          obtain ⟨q, hq, he⟩ := mem_getD.1 hm
          have := h3 q (by omega); omega
        simp [this]
end Go.Proofs.Yticflcpmlbaafaa.AL

/- Sites: cells, kinds, zones. -/
set_option linter.unusedSimpArgs false
set_option linter.unusedVariables false
namespace Go.Proofs.Yticflcpmlbaafaa.AL
open Go

structure ZoneD where
  name : ByteArray
  cells : List Int
  speed : Int
  keep : Int
  shut : List (Int × Int)
  deriving Inhabited
structure ApartD where
  a : ByteArray
  b : ByteArray
  deriving Inhabited
structure ShelfD where
  cell : Int
  cls : ByteArray
  deriving Inhabited
structure StartD where
  cell : Int
  charge : Int
  deriving Inhabited
structure SiteD where
  floor : FloorD
  zones : List ZoneD
  aparts : List ApartD
  shelves : List ShelfD
  robots : List StartD

def encZone (z : ZoneD) : List R := [.val (.string z.name), .rd 1 (ints z.cells), .val (.int .i64 z.speed), .val (.int .i64 z.keep), .rd 2 (spans z.shut)]
def encApart (x : ApartD) : List R := [.val (.string x.a), .val (.string x.b)]
def encShelf (x : ShelfD) : List R := [.val (.int .i64 x.cell), .val (.string x.cls)]
def encStart (x : StartD) : List R := [.val (.int .i64 x.cell), .val (.int .i64 x.charge)]
def encSite (s : SiteD) : List C := [cV (.int .i64 s.floor.w), cV (.int .i64 s.floor.h), cV (.int .i64 s.floor.d), .r (.rd 1 (ints s.floor.kind)), .r (.rd 1 (ints s.floor.out)),
  .r (.rd 5 (s.zones.map encZone)), .r (.rd 2 (s.aparts.map encApart)), .r (.rd 2 (s.shelves.map encShelf)), .r (.rd 2 (s.robots.map encStart))]

variable {s : SiteD}

def isCellF (s : SiteD) (c : Int) : Bool := decide (0 ≤ c) && decide (c < s.floor.n)

def kindF (s : SiteD) (c : Int) : Int := s.floor.kind.getD c.toNat 0
def standsF (s : SiteD) (c : Int) : Bool := isCellF s c && standsK (kindF s c)

theorem isCell_lt {c : Int} (h : isCellF s c = true) : 0 ≤ c ∧ c < s.floor.kind.length ∧ c.toNat < s.floor.kind.length := by
  simp only [isCellF, Bool.and_eq_true, decide_eq_true_eq] at h
  have e : s.floor.n = (s.floor.kind.length : Int) := rfl
  rw [e] at h
  omega

def classF (s : SiteD) (n : Int) : ByteArray := if 0 ≤ n ∧ n < s.shelves.length then (s.shelves.getD n.toNat default).cls else ⟨#[]⟩

/-- What the zones' lists have to be. -/
structure ZonesOk (s : SiteD) : Prop where
  nz : s.zones.length ≤ 140737488355328
  nc : ∀ i, i < s.zones.length → (s.zones.getD i default).cells.length ≤ 140737488355328
  asc : ∀ i, i < s.zones.length → Asc (s.zones.getD i default).cells
  ns : ∀ i, i < s.zones.length → (s.zones.getD i default).shut.length ≤ 140737488355328

theorem f61 (z : ZoneD) (c : Int) (hl : z.cells.length ≤ 140737488355328) (ha : Asc z.cells) : PureK Try.prog 61 [.v (.agg ((encZone z).map C.r)), tC (.ptr 0 0 0 0)] (upd emp 0 (.row 0 1 [[cV (.int .i64 c)]])) 1 (· = tB (decide (c ∈ z.cells))) := by
  refine PureK.of_awp hm Try.func61 s61_ok (by simp [s61]) ?_
  simp only [go_sem, s61, encZone, ↓reduceIte, reduceCtorEq, Nat.reduceEqDiff, Nat.reduceAdd, Nat.reduceSub, Nat.reduceMul, Nat.reduceLT, Nat.reduceLeDiff, Int.reduceToNat]
  refine Pure.call (f62 z.cells c hl ha) (liftA_refl rfl) ?_
  rintro _ ⟨p, rfl⟩ _
  simp only [go_sem, s61_2, s61_1, ↓reduceIte, reduceCtorEq, Nat.reduceEqDiff, Nat.reduceAdd, Nat.reduceSub, Nat.reduceMul, Nat.reduceLT, Nat.reduceLeDiff, Int.reduceToNat]
  exact ⟨rfl, KLe.cons (by omega) rfl rfl KLe.nil⟩

def zoneOfF (s : SiteD) (c : Int) : Int := idxF (fun i => decide (c ∈ (s.zones.getD i default).cells)) s.zones.length

theorem f50 (h : ZonesOk s) (c : Int) : Pure Try.prog 50 [.v (.agg (encSite s)), tI c] (· = tI (zoneOfF s c)) := by
  refine Pure.of_awp hm Try.func50 s50_ok (by simp [s50]) ?_
  simp only [go_sem, s50, encSite, ↓reduceIte, reduceCtorEq, Nat.reduceEqDiff, Nat.reduceAdd, Nat.reduceSub, Nat.reduceMul, Nat.reduceLT, Nat.reduceLeDiff, Int.reduceToNat]
  refine PureK.call (f58 (K := upd emp 0 (.row 0 1 [[cV (.int .i64 c)]])) (N := 1) (g := 61) (caps := [0]) (s.zones.map encZone) (fun i => decide (c ∈ (s.zones.getD i default).cells)) (by simpa using h.nz) rfl (box1 rfl)
    (fun i hi => ?_) (fun i hi => ?_)) (fun _ => 1) (fun i _ => by omega) (fun i j hi hj _ => by omega) (box1 rfl) (fun i hi => ?_) rfl (fun a ha => ?_) ?_
  · rw [rows_at (by simpa using hi)]; rfl
  · have hi' : i < s.zones.length := by simpa using hi
    rw [rows_at hi']
    exact f61 _ c (h.nc i hi') (h.asc i hi')
  · obtain rfl : i = 0 := by omega
    rfl
  · simp only [List.mem_cons, List.not_mem_nil, or_false] at ha
    rcases ha with rfl | rfl <;> rfl
  · rintro _ rfl _
    simp only [go_sem, s50_1, ↓reduceIte, reduceCtorEq, Nat.reduceEqDiff, Nat.reduceAdd, Nat.reduceSub, Nat.reduceMul, Nat.reduceLT, Nat.reduceLeDiff, Int.reduceToNat]
    exact ⟨rfl, by simp [zoneOfF]⟩
end Go.Proofs.Yticflcpmlbaafaa.AL

/- Zones: speed and spans; Near. -/
set_option linter.unusedSimpArgs false
set_option linter.unusedVariables false
namespace Go.Proofs.Yticflcpmlbaafaa.AL
open Go
variable {s : SiteD}

theorem idxF_b (p : Nat → Bool) (n : Nat) : idxF p n = -1 ∨ ∃ i, i < n ∧ p i = true ∧ idxF p n = i := by
  unfold idxF
  cases h : (List.range n).find? p with
  | none => exact .inl rfl
  | some i =>
    rw [List.find?_range_eq_some] at h
    exact .inr ⟨i, by simpa using h.2.1, h.1, rfl⟩

theorem zoneOf_b (s : SiteD) (c : Int) : zoneOfF s c = -1 ∨ (0 ≤ zoneOfF s c ∧ zoneOfF s c < s.zones.length ∧ (zoneOfF s c).toNat < s.zones.length) := by
  rcases idxF_b (fun i => decide (c ∈ (s.zones.getD i default).cells)) s.zones.length with h | ⟨i, h1, _, h2⟩
  · exact .inl h
  · exact .inr (by unfold zoneOfF; rw [h2]; omega)

def speedF (s : SiteD) (c : Int) : Int := if 0 ≤ zoneOfF s c then (s.zones.getD (zoneOfF s c).toNat default).speed else 1

theorem f24 (h : ZonesOk s) (c : Int) : Pure Try.prog 24 [.v (.agg (encSite s)), tI c] (· = tI (speedF s c)) := by
  refine Pure.of_awp hm Try.func24 s24_ok (by simp [s24]) ?_
  simp only [go_sem, s24, encSite, ↓reduceIte, reduceCtorEq, Nat.reduceEqDiff, Nat.reduceAdd, Nat.reduceSub, Nat.reduceMul, Nat.reduceLT, Nat.reduceLeDiff, Int.reduceToNat]
  refine Pure.callS (f50 h c) rfl ?_
  simp only [go_sem, s24_4, s24_3, ↓reduceIte, reduceCtorEq, Nat.reduceEqDiff, Nat.reduceAdd, Nat.reduceSub, Nat.reduceMul, Nat.reduceLT, Nat.reduceLeDiff, Int.reduceToNat]
  refine twoQ_at (fun k => ?_) (fun k => ?_)
  · simp only [decide_eq_true_eq] at k
    obtain ⟨k1, k2, k3⟩ := (zoneOf_b s c).resolve_left (by omega)
    simp only [go_sem, s24_2, rows_len, rows_at k3, encZone, ↓reduceIte, reduceCtorEq, Nat.reduceEqDiff, Nat.reduceAdd, Nat.reduceSub, Nat.reduceMul, Nat.reduceLT, Nat.reduceLeDiff, Int.reduceToNat]
    refine ⟨⟨k1, k2⟩, rfl, ?_⟩
    rw [speedF, if_pos k]
  · simp only [decide_eq_false_iff_not] at k
    simp only [go_sem, s24_1, ↓reduceIte, reduceCtorEq, Nat.reduceEqDiff, Nat.reduceAdd, Nat.reduceSub, Nat.reduceMul, Nat.reduceLT, Nat.reduceLeDiff, Int.reduceToNat]
    refine ⟨rfl, ?_⟩
    rw [speedF, if_neg k]

def inSpan (x : Int × Int) (t : Int) : Bool := decide (x.1 ≤ t) && decide (t < x.2)

/-- A zone's spans hold a tick. -/
def anySpan (l : List (Int × Int)) (t : Int) : Bool := decide (0 ≤ idxF (fun i => inSpan (l.getD i (0, 0)) t) l.length)

def openF (s : SiteD) (c t : Int) : Bool := if isCellF s c = false ∨ zoneOfF s c < 0 then isCellF s c else !anySpan (s.zones.getD (zoneOfF s c).toNat default).shut t

end Go.Proofs.Yticflcpmlbaafaa.AL

/- Classes that are apart. -/
set_option linter.unusedSimpArgs false
set_option linter.unusedVariables false
namespace Go.Proofs.Yticflcpmlbaafaa.AL
open Go
variable {s : SiteD}

abbrev pk (a b : ByteArray) : Value := .agg #[.string a, .string b]
abbrev vT : V := .x (cV (.bool true))

/-- One of the first n rules names the pair, in one order or the other. -/
def pairF (s : SiteD) (n : Nat) (a b : ByteArray) : Bool := (List.range n).any fun j => (decide (a = (s.aparts.getD j default).a) && decide (b = (s.aparts.getD j default).b)) || (decide (a = (s.aparts.getD j default).b) && decide (b = (s.aparts.getD j default).a))

def MapOk (s : SiteD) (n : Nat) (es : List (Value × V)) : Prop := es.all (fun e => keyOk (.st [1, 1]) e.1) = true ∧ es.all (fun e => e.2.below 0) = true ∧ ∀ a b, mfind es (pk a b) = if pairF s n a b = true then some vT else none

theorem pk_ok (a b : ByteArray) : keyOk (.st [1, 1]) (pk a b) = true := by simp [keyOk, tagOf]
theorem pk_eq (a b c d : ByteArray) : keyEq (pk a b) (pk c d) = (decide (a = c) && decide (b = d)) := by simp [keyEq, plainEqs, plainEq]

theorem MapOk.nil (s : SiteD) : MapOk s 0 [] := ⟨rfl, rfl, fun a b => by simp [mfind, pairF]⟩

theorem MapOk.step {n : Nat} {es : List (Value × V)} (h : MapOk s n es) : MapOk s (n + 1) (mset (mset es (pk (s.aparts.getD n default).a (s.aparts.getD n default).b) vT) (pk (s.aparts.getD n default).b (s.aparts.getD n default).a) vT) := by
  obtain ⟨h1, h2, h3⟩ := h
  have g1 := all_mset (k := pk (s.aparts.getD n default).a (s.aparts.getD n default).b) (d := vT) (p := fun e => keyOk (.st [1, 1]) e.1) (pk_ok _ _) es h1
  refine ⟨all_mset (pk_ok _ _) _ g1, all_mset rfl _ (all_mset rfl _ h2), fun a b => ?_⟩
  rw [mfind_mset (pk_ok _ _) (pk_ok _ _) _ g1, mfind_mset (pk_ok _ _) (pk_ok _ _) _ h1, h3, pk_eq, pk_eq]
  have e : pairF s (n + 1) a b = (pairF s n a b || ((decide (a = (s.aparts.getD n default).a) && decide (b = (s.aparts.getD n default).b)) || (decide (a = (s.aparts.getD n default).b) && decide (b = (s.aparts.getD n default).a)))) := by
    simp [pairF, List.range_succ]
  rw [e]
  cases (decide (a = (s.aparts.getD n default).b) && decide (b = (s.aparts.getD n default).a)) <;> cases (decide (a = (s.aparts.getD n default).a) && decide (b = (s.aparts.getD n default).b)) <;> cases pairF s n a b <;> simp

theorem below_map {es : List (Value × V)} {N : Nat} (h : es.all (fun e => e.2.below 0) = true) : (AObj.map es).below N = true := by
  simp only [AObj.below, List.all_eq_true] at *
  intro x hx
  exact T.below_le (d := .v x.2) (Nat.zero_le N) (h x hx)

theorem map_ren {es : List (Value × V)} (h : es.all (fun e => e.2.below 0) = true) (ρ : Nat → Nat) : (AObj.map es).ren ρ = .map es := by
  simp only [AObj.ren]
  congr 1
  conv => rhs; rw [← List.map_id es]
  simp only [List.all_eq_true] at h
  refine List.map_congr_left fun x hx => ?_
  rw [V.ren_below (h x hx)]
  rfl

def neverF (s : SiteD) (a b : ByteArray) : Bool := decide (a ≠ ⟨#[]⟩) && decide (b ≠ ⟨#[]⟩) && pairF s s.aparts.length a b

end Go.Proofs.Yticflcpmlbaafaa.AL

/- Near, Drop. -/
set_option linter.unusedSimpArgs false
set_option linter.unusedVariables false
namespace Go.Proofs.Yticflcpmlbaafaa.AL
open Go
variable {f : FloorD} {s : SiteD}

end Go.Proofs.Yticflcpmlbaafaa.AL

/- Sites that are small. -/
set_option linter.unusedSimpArgs false
set_option linter.unusedVariables false
namespace Go.Proofs.Yticflcpmlbaafaa.AL
open Go
variable {f : FloorD} {s : SiteD}

theorem f28 (f : FloorD) (n : Int) : Pure Try.prog 28 [.v (.agg (encFloor f)), tI n] (· = tB (decide ((f.kind.length : Int) ≤ n) && decide ((f.out.length : Int) ≤ n))) := by
  refine Pure.of_awp hm Try.func28 s28_ok (by simp [s28]) ?_
  simp only [go_sem, s28, s28_1, encFloor, ints_len, ↓reduceIte, reduceCtorEq, Nat.reduceEqDiff, Nat.reduceAdd, Nat.reduceSub, Nat.reduceMul, Nat.reduceLT, Nat.reduceLeDiff, Int.reduceToNat]
  refine guardQ_at (fun h => ?_) (fun h => ?_)
  · exact ⟨rfl, by simp only [h, Bool.true_and]⟩
  · exact ⟨rfl, by simp only [h, Bool.not_true, Bool.false_and]⟩

/-- A small site. -/
structure FewOk (s : SiteD) (cells most : Int) : Prop where
  kind : (s.floor.kind.length : Int) ≤ cells
  out : (s.floor.out.length : Int) ≤ cells
  nz : (s.zones.length : Int) ≤ most
  na : (s.aparts.length : Int) ≤ most
  ns : (s.shelves.length : Int) ≤ most
  nr : (s.robots.length : Int) ≤ most
  zc : ∀ i, i < s.zones.length → ((s.zones.getD i default).cells.length : Int) ≤ cells ∧ ((s.zones.getD i default).shut.length : Int) ≤ 20

theorem f16 (s : SiteD) (c m : Int) (hm2 : m ≤ 1000) : Pure Try.prog 16 [.v (.agg (encSite s)), tI c, tI m] (fun d => ∃ b, d = tB b ∧ (b = true → FewOk s c m)) := by
  refine Pure.of_awp hm Try.func16 s16_ok (by simp [s16]) ?_
  have no : (T.below 0 (T.v (V.x (C.r (R.val (Value.bool false))))) = true ∧ ∃ b, T.v (V.x (C.r (R.val (Value.bool false)))) = tB b ∧ (b = true → FewOk s c m)) := ⟨rfl, false, rfl, fun h => by cases h⟩
  have t3 : ∀ {tm : Nat → Option T} {K : KMap} {N : Nat}, tm 1 = some (tI c) → tm 2 = some (tI m) → tm 3 = some (tC (.ptr 0 0 0 0)) → K 0 = some (.row 0 9 [encSite s]) → 
      ((s.zones.length : Int) ≤ m → ∀ i, i < s.zones.length → ((s.zones.getD i default).cells.length : Int) ≤ c ∧ ((s.zones.getD i default).shut.length : Int) ≤ 20) →
      awp Try.prog 0 s16_6 ⟨tm, K, N⟩ (retP [SRes.tmp 6] fun d => ∃ b, d = tB b ∧ (b = true → FewOk s c m)) := by
    intro tm K N h1 h2 h3 hk hz
    simp only [go_sem, s16_6, h1, h2, h3, hk, encSite, ↓reduceIte, reduceCtorEq, Nat.reduceEqDiff, Nat.reduceAdd, Nat.reduceSub, Nat.reduceMul, Nat.reduceLT, Nat.reduceLeDiff, Int.reduceToNat]
    refine Pure.callS (f28 s.floor c) rfl ?_
    simp only [go_sem, s16_5, h1, h2, h3, hk, encSite, ↓reduceIte, reduceCtorEq, Nat.reduceEqDiff, Nat.reduceAdd, Nat.reduceSub, Nat.reduceMul, Nat.reduceLT, Nat.reduceLeDiff, Int.reduceToNat]
    refine guardQ_at (fun g1 => ?_) (fun g1 => ?_)
    · simp only [go_sem, s16_4, h1, h2, h3, hk, encSite, rows_len, ↓reduceIte, reduceCtorEq, Nat.reduceEqDiff, Nat.reduceAdd, Nat.reduceSub, Nat.reduceMul, Nat.reduceLT, Nat.reduceLeDiff, Int.reduceToNat]
      refine guardQ_at (fun g2 => ?_) (fun g2 => ?_)
      · simp only [go_sem, s16_3, h1, h2, h3, hk, encSite, rows_len, ↓reduceIte, reduceCtorEq, Nat.reduceEqDiff, Nat.reduceAdd, Nat.reduceSub, Nat.reduceMul, Nat.reduceLT, Nat.reduceLeDiff, Int.reduceToNat]
        refine guardQ_at (fun g3 => ?_) (fun g3 => ?_)
        · simp only [go_sem, s16_2, h1, h2, h3, hk, encSite, rows_len, ↓reduceIte, reduceCtorEq, Nat.reduceEqDiff, Nat.reduceAdd, Nat.reduceSub, Nat.reduceMul, Nat.reduceLT, Nat.reduceLeDiff, Int.reduceToNat]
          refine guardQ_at (fun g4 => ?_) (fun g4 => ?_)
          · simp only [go_sem, s16_1, h1, h2, h3, hk, encSite, rows_len, ↓reduceIte, reduceCtorEq, Nat.reduceEqDiff, Nat.reduceAdd, Nat.reduceSub, Nat.reduceMul, Nat.reduceLT, Nat.reduceLeDiff, Int.reduceToNat]
            refine ⟨rfl, _, rfl, fun g5 => ?_⟩
            simp only [Bool.and_eq_true, decide_eq_true_eq] at g1 g2 g3 g4 g5
            exact ⟨g1.1, g1.2, g2, g3, g4, g5, hz g2⟩
          · simp only [go_sem, s16_1, h1, h2, h3, hk, encSite, ↓reduceIte, reduceCtorEq, Nat.reduceEqDiff, Nat.reduceAdd, Nat.reduceSub, Nat.reduceMul, Nat.reduceLT, Nat.reduceLeDiff, Int.reduceToNat]
            exact no
        · simp only [go_sem, s16_2, s16_1, h1, h2, h3, hk, encSite, ↓reduceIte, reduceCtorEq, Nat.reduceEqDiff, Nat.reduceAdd, Nat.reduceSub, Nat.reduceMul, Nat.reduceLT, Nat.reduceLeDiff, Int.reduceToNat]
          exact no
      · simp only [go_sem, s16_3, s16_2, s16_1, h1, h2, h3, hk, encSite, ↓reduceIte, reduceCtorEq, Nat.reduceEqDiff, Nat.reduceAdd, Nat.reduceSub, Nat.reduceMul, Nat.reduceLT, Nat.reduceLeDiff, Int.reduceToNat]
        exact no
    · simp only [go_sem, s16_4, s16_3, s16_2, s16_1, h1, h2, h3, hk, encSite, ↓reduceIte, reduceCtorEq, Nat.reduceEqDiff, Nat.reduceAdd, Nat.reduceSub, Nat.reduceMul, Nat.reduceLT, Nat.reduceLeDiff, Int.reduceToNat]
      exact no
  have t2 : ∀ {tm : Nat → Option T} {K : KMap} {N : Nat}, tm 1 = some (tI c) → tm 2 = some (tI m) → tm 3 = some (tC (.ptr 0 0 0 0)) → K 0 = some (.row 0 9 [encSite s]) → 1 ≤ N → ((s.zones.length : Int) ≤ m → ∀ i, i < s.zones.length → ((s.zones.getD i default).cells.length : Int) ≤ c ∧ ((s.zones.getD i default).shut.length : Int) ≤ 20) →
      awp Try.prog 0 s16_13 ⟨tm, K, N⟩ (retP [SRes.tmp 6] fun d => ∃ b, d = tB b ∧ (b = true → FewOk s c m)) := by
    intro tm K N h1 h2 h3 hk hN hz
    simp only [go_sem, s16_13, h1, h2, h3, ↓reduceIte, reduceCtorEq, Nat.reduceEqDiff, Nat.reduceAdd, Nat.reduceSub, Nat.reduceMul, Nat.reduceLT, Nat.reduceLeDiff, Int.reduceToNat]
    refine awp_loop (fun i : Nat => ⟨upd (upd (upd (upd emp 1 (tI c)) 2 (tI m)) 3 (tC (.ptr 0 0 0 0))) 9 (tI i), upd emp 0 (.row 0 9 [encSite s]), 1⟩) (fun i => s.shelves.length - i) (fun i => i ≤ s.shelves.length) 0 (Nat.zero_le _) ?_ ?_
    · exact Weak.keep (TmLe.cons rfl rfl (TmLe.cons (by simp [upd, h3]) rfl (TmLe.cons (by simp [upd, h2]) rfl (TmLe.cons (by simp [upd, h1]) rfl TmLe.nil)))) (KLe.cons (by omega) (by simpa using hk) rfl KLe.nil) (Nat.zero_le _) hN
    · intro i hi
      simp only [go_sem, s16_12, encSite, rows_len, ↓reduceIte, reduceCtorEq, Nat.reduceEqDiff, Nat.reduceAdd, Nat.reduceSub, Nat.reduceMul, Nat.reduceLT, Nat.reduceLeDiff, Int.reduceToNat]
      refine guardQ_at (fun g1 => ?_) (fun g1 => ?_)
      · have hi' : i < s.shelves.length := by simpa using g1
        simp only [go_sem, s16_11, s16_10, ↓reduceIte, reduceCtorEq, Nat.reduceEqDiff, Nat.reduceAdd, Nat.reduceSub, Nat.reduceMul, Nat.reduceLT, Nat.reduceLeDiff, Int.reduceToNat]
        refine twoQ_at (fun g2 => ?_) (fun g2 => ?_)
        · simp only [decide_eq_true_eq] at g2
          simp only [go_sem, s16_9, s16_8, rows_len, rows_at hi', encShelf, Int.toNat_natCast, ↓reduceIte, reduceCtorEq, Nat.reduceEqDiff, Nat.reduceAdd, Nat.reduceSub, Nat.reduceMul, Nat.reduceLT, Nat.reduceLeDiff, Int.reduceToNat]
          refine ⟨⟨by omega, by omega⟩, twoQ_at (fun g3 => no) (fun g3 => ?_)⟩
          simp only [go_sem, s16_7, ↓reduceIte, reduceCtorEq, Nat.reduceEqDiff, Nat.reduceAdd, Nat.reduceSub, Nat.reduceMul, Nat.reduceLT, Nat.reduceLeDiff, Int.reduceToNat]
          refine ⟨i + 1, by omega, by omega, ?_⟩
          rw [wrap_i (by omega) (by omega)]
          exact Weak.keep (TmLe.cons rfl rfl (TmLe.cons rfl rfl (TmLe.cons rfl rfl (TmLe.cons rfl rfl TmLe.nil)))) (KLe.cons (by omega) rfl rfl KLe.nil) (Nat.zero_le _) (Nat.le_refl _)
        · exact t3 rfl rfl rfl rfl hz
      · simp only [go_sem, s16_11, s16_10, ↓reduceIte, reduceCtorEq, Nat.reduceEqDiff, Nat.reduceAdd, Nat.reduceSub, Nat.reduceMul, Nat.reduceLT, Nat.reduceLeDiff, Int.reduceToNat]
        exact t3 rfl rfl rfl rfl hz
  have t1 : ∀ {tm : Nat → Option T} {K : KMap} {N : Nat}, tm 1 = some (tI c) → tm 2 = some (tI m) → tm 3 = some (tC (.ptr 0 0 0 0)) → K 0 = some (.row 0 9 [encSite s]) → 1 ≤ N → ((s.zones.length : Int) ≤ m → ∀ i, i < s.zones.length → ((s.zones.getD i default).cells.length : Int) ≤ c ∧ ((s.zones.getD i default).shut.length : Int) ≤ 20) →
      awp Try.prog 0 s16_22 ⟨tm, K, N⟩ (retP [SRes.tmp 6] fun d => ∃ b, d = tB b ∧ (b = true → FewOk s c m)) := by
    intro tm K N h1 h2 h3 hk hN hz
    simp only [go_sem, s16_22, h1, h2, h3, ↓reduceIte, reduceCtorEq, Nat.reduceEqDiff, Nat.reduceAdd, Nat.reduceSub, Nat.reduceMul, Nat.reduceLT, Nat.reduceLeDiff, Int.reduceToNat]
    refine awp_loop (fun i : Nat => ⟨upd (upd (upd (upd emp 1 (tI c)) 2 (tI m)) 3 (tC (.ptr 0 0 0 0))) 8 (tI i), upd emp 0 (.row 0 9 [encSite s]), 1⟩) (fun i => s.aparts.length - i) (fun i => i ≤ s.aparts.length) 0 (Nat.zero_le _) ?_ ?_
    · exact Weak.keep (TmLe.cons rfl rfl (TmLe.cons (by simp [upd, h3]) rfl (TmLe.cons (by simp [upd, h2]) rfl (TmLe.cons (by simp [upd, h1]) rfl TmLe.nil)))) (KLe.cons (by omega) (by simpa using hk) rfl KLe.nil) (Nat.zero_le _) hN
    · intro i hi
      simp only [go_sem, s16_21, encSite, rows_len, ↓reduceIte, reduceCtorEq, Nat.reduceEqDiff, Nat.reduceAdd, Nat.reduceSub, Nat.reduceMul, Nat.reduceLT, Nat.reduceLeDiff, Int.reduceToNat]
      refine guardQ_at (fun g1 => ?_) (fun g1 => ?_)
      · have hi' : i < s.aparts.length := by simpa using g1
        simp only [go_sem, s16_20, s16_19, ↓reduceIte, reduceCtorEq, Nat.reduceEqDiff, Nat.reduceAdd, Nat.reduceSub, Nat.reduceMul, Nat.reduceLT, Nat.reduceLeDiff, Int.reduceToNat]
        refine twoQ_at (fun g2 => ?_) (fun g2 => ?_)
        · simp only [decide_eq_true_eq] at g2
          simp only [go_sem, s16_18, rows_len, rows_at hi', encApart, Int.toNat_natCast, ↓reduceIte, reduceCtorEq, Nat.reduceEqDiff, Nat.reduceAdd, Nat.reduceSub, Nat.reduceMul, Nat.reduceLT, Nat.reduceLeDiff, Int.reduceToNat]
          refine ⟨⟨by omega, by omega⟩, guardQ_at (fun g3 => ?_) (fun g3 => ?_)⟩
          · simp only [go_sem, s16_17, s16_16, s16_15, rows_len, rows_at hi', encApart, Int.toNat_natCast, ↓reduceIte, reduceCtorEq, Nat.reduceEqDiff, Nat.reduceAdd, Nat.reduceSub, Nat.reduceMul, Nat.reduceLT, Nat.reduceLeDiff, Int.reduceToNat]
            refine ⟨⟨by omega, by omega⟩, twoQ_at (fun g4 => no) (fun g4 => ?_)⟩
            simp only [go_sem, s16_14, ↓reduceIte, reduceCtorEq, Nat.reduceEqDiff, Nat.reduceAdd, Nat.reduceSub, Nat.reduceMul, Nat.reduceLT, Nat.reduceLeDiff, Int.reduceToNat]
            refine ⟨i + 1, by omega, by omega, ?_⟩
            rw [wrap_i (by omega) (by omega)]
            exact Weak.keep (TmLe.cons rfl rfl (TmLe.cons rfl rfl (TmLe.cons rfl rfl (TmLe.cons rfl rfl TmLe.nil)))) (KLe.cons (by omega) rfl rfl KLe.nil) (Nat.zero_le _) (Nat.le_refl _)
          · simp only [go_sem, s16_17, s16_16, s16_15, ↓reduceIte, reduceCtorEq, Nat.reduceEqDiff, Nat.reduceAdd, Nat.reduceSub, Nat.reduceMul, Nat.reduceLT, Nat.reduceLeDiff, Int.reduceToNat]
            exact no
        · exact t2 rfl rfl rfl rfl (by omega) hz
      · simp only [go_sem, s16_20, s16_19, ↓reduceIte, reduceCtorEq, Nat.reduceEqDiff, Nat.reduceAdd, Nat.reduceSub, Nat.reduceMul, Nat.reduceLT, Nat.reduceLeDiff, Int.reduceToNat]
        exact t2 rfl rfl rfl rfl (by omega) hz
  simp only [go_sem, s16, ↓reduceIte, reduceCtorEq, Nat.reduceEqDiff, Nat.reduceAdd, Nat.reduceSub, Nat.reduceMul, Nat.reduceLT, Nat.reduceLeDiff, Int.reduceToNat]
  refine awp_loop (fun i : Nat => ⟨upd (upd (upd (upd emp 1 (tI c)) 2 (tI m)) 3 (tC (.ptr 0 0 0 0))) 7 (tI i), upd emp 0 (.row 0 9 [encSite s]), 1⟩) (fun i => s.zones.length - i) (fun i => i ≤ s.zones.length ∧ ∀ j, j < i → ((s.zones.getD j default).cells.length : Int) ≤ c ∧ ((s.zones.getD j default).shut.length : Int) ≤ 20) 0 ⟨Nat.zero_le _, fun j hj => by omega⟩ ?_ ?_
  · exact Weak.keep (TmLe.cons rfl rfl (TmLe.cons rfl rfl (TmLe.cons rfl rfl (TmLe.cons rfl rfl TmLe.nil)))) (KLe.cons (by omega) rfl rfl KLe.nil) (Nat.zero_le _) (Nat.le_refl _)
  · intro i ⟨hi, hin⟩
    simp only [go_sem, s16_31, encSite, rows_len, ↓reduceIte, reduceCtorEq, Nat.reduceEqDiff, Nat.reduceAdd, Nat.reduceSub, Nat.reduceMul, Nat.reduceLT, Nat.reduceLeDiff, Int.reduceToNat]
    refine guardQ_at (fun g1 => ?_) (fun g1 => ?_)
    · have hi' : i < s.zones.length := by simpa using g1
      simp only [go_sem, s16_30, s16_29, ↓reduceIte, reduceCtorEq, Nat.reduceEqDiff, Nat.reduceAdd, Nat.reduceSub, Nat.reduceMul, Nat.reduceLT, Nat.reduceLeDiff, Int.reduceToNat]
      refine twoQ_at (fun g2 => ?_) (fun g2 => ?_)
      · simp only [decide_eq_true_eq] at g2
        simp only [go_sem, s16_28, rows_len, rows_at hi', encZone, ints_len, spans_len, Int.toNat_natCast, ↓reduceIte, reduceCtorEq, Nat.reduceEqDiff, Nat.reduceAdd, Nat.reduceSub, Nat.reduceMul, Nat.reduceLT, Nat.reduceLeDiff, Int.reduceToNat]
        refine ⟨⟨by omega, by omega⟩, guardQ_at (fun g3 => ?_) (fun g3 => ?_)⟩
        · simp only [go_sem, s16_27, rows_len, rows_at hi', encZone, ints_len, spans_len, Int.toNat_natCast, ↓reduceIte, reduceCtorEq, Nat.reduceEqDiff, Nat.reduceAdd, Nat.reduceSub, Nat.reduceMul, Nat.reduceLT, Nat.reduceLeDiff, Int.reduceToNat]
          refine ⟨⟨by omega, by omega⟩, guardQ_at (fun g4 => ?_) (fun g4 => ?_)⟩
          · simp only [go_sem, s16_26, s16_25, s16_24, rows_len, rows_at hi', encZone, ints_len, spans_len, Int.toNat_natCast, ↓reduceIte, reduceCtorEq, Nat.reduceEqDiff, Nat.reduceAdd, Nat.reduceSub, Nat.reduceMul, Nat.reduceLT, Nat.reduceLeDiff, Int.reduceToNat]
            refine ⟨⟨by omega, by omega⟩, twoQ_at (fun g5 => no) (fun g5 => ?_)⟩
            simp only [decide_eq_false_iff_not] at g3 g4
            simp only [go_sem, s16_23, ↓reduceIte, reduceCtorEq, Nat.reduceEqDiff, Nat.reduceAdd, Nat.reduceSub, Nat.reduceMul, Nat.reduceLT, Nat.reduceLeDiff, Int.reduceToNat]
            refine ⟨i + 1, ⟨by omega, fun j hj => ?_⟩, by omega, ?_⟩
            · by_cases e : j = i
              · subst e; exact ⟨by omega, by omega⟩
              · exact hin j (by omega)
            · rw [wrap_i (by omega) (by omega)]
              exact Weak.keep (TmLe.cons rfl rfl (TmLe.cons rfl rfl (TmLe.cons rfl rfl (TmLe.cons rfl rfl TmLe.nil)))) (KLe.cons (by omega) rfl rfl KLe.nil) (Nat.zero_le _) (Nat.le_refl _)
          · simp only [go_sem, s16_26, s16_25, s16_24, ↓reduceIte, reduceCtorEq, Nat.reduceEqDiff, Nat.reduceAdd, Nat.reduceSub, Nat.reduceMul, Nat.reduceLT, Nat.reduceLeDiff, Int.reduceToNat]
            exact no
        · simp only [go_sem, s16_27, s16_26, s16_25, s16_24, ↓reduceIte, reduceCtorEq, Nat.reduceEqDiff, Nat.reduceAdd, Nat.reduceSub, Nat.reduceMul, Nat.reduceLT, Nat.reduceLeDiff, Int.reduceToNat]
          exact no
      · simp only [decide_eq_false_iff_not] at g2
        exact t1 rfl rfl rfl rfl (by omega) (fun hz j hj => by omega)
    · have hi' : i = s.zones.length := by simp at g1; omega
      simp only [go_sem, s16_30, s16_29, ↓reduceIte, reduceCtorEq, Nat.reduceEqDiff, Nat.reduceAdd, Nat.reduceSub, Nat.reduceMul, Nat.reduceLT, Nat.reduceLeDiff, Int.reduceToNat]
      exact t1 rfl rfl rfl rfl (by omega) (fun hz j hj => hin j (by omega))
end Go.Proofs.Yticflcpmlbaafaa.AL

/- Drop. -/
set_option linter.unusedSimpArgs false
set_option linter.unusedVariables false
namespace Go.Proofs.Yticflcpmlbaafaa.AL
open Go
variable {s : SiteD} {st : StateD}

def shelfAt (st : StateD) (i : Nat) : Int := st.shelves.getD i 0
/-- The shelf i counts for a drop of another one at c. -/
def counts (s : SiteD) (st : StateD) (k c : Int) (i : Nat) : Bool := !(decide ((i : Int) = k)) && (decide (shelfAt st i = c) || nearF s.floor (shelfAt st i) c) && decide (carriedF st i < 0)
def hitF (s : SiteD) (st : StateD) (k c : Int) (i : Nat) : Bool := counts s st k c i && decide (shelfAt st i = c)
def apartF (s : SiteD) (st : StateD) (k c : Int) (i : Nat) : Bool := counts s st k c i && !(decide (shelfAt st i = c)) && neverF s (classF s k) (classF s i)
def dropErr (s : SiteD) (st : StateD) (k c : Int) (n : Nat) : Int := if (List.range n).any (apartF s st k c) then 17 else 0
def dropF (s : SiteD) (st : StateD) (k c : Int) : Int :=
  if k < 0 ∨ (st.shelves.length : Int) ≤ k then 4 else if standsF s c = false then 13 else if (List.range st.shelves.length).any (hitF s st k c) then 13 else dropErr s st k c st.shelves.length

theorem dropErr_step {k c : Int} {n : Nat} : dropErr s st k c (n + 1) = if apartF s st k c n then 17 else dropErr s st k c n := by
  unfold dropErr
  simp only [List.range_succ, List.any_append, List.any_cons, List.any_nil, Bool.or_false]
  cases apartF s st k c n <;> cases (List.range n).any (apartF s st k c) <;> simp

end Go.Proofs.Yticflcpmlbaafaa.AL

/- Right floors. -/
set_option linter.unusedSimpArgs false
set_option linter.unusedVariables false
namespace Go.Proofs.Yticflcpmlbaafaa.AL
open Go
variable {f : FloorD}

theorem f52w (f : FloorD) : Pure Try.prog 52 [.v (.agg (encFloor f))] (· = tI (IntKind.i64.wrap (IntKind.i64.wrap (f.w * f.h) * f.d))) := by
  refine Pure.of_awp hm Try.func52 s52_ok (by simp [s52]) ?_
  simp only [go_sem, s52, encFloor, ↓reduceIte, reduceCtorEq, Nat.reduceEqDiff, Nat.reduceAdd, Nat.reduceSub, Nat.reduceMul, Nat.reduceLT, Nat.reduceLeDiff, Int.reduceToNat]
  rfl

theorem min3b {x y z : Int} : (if z < (if y < x then y else x) then z else (if y < x then y else x)) < 1 ↔ x < 1 ∨ y < 1 ∨ z < 1 := by
  split <;> split <;> omega
theorem max2 {x y : Int} : 4096 < (if x < y then y else x) ↔ 4096 < x ∨ 4096 < y := by
  split <;> omega

theorem f29 (f : FloorD) : Pure Try.prog 29 [.v (.agg (encFloor f))] (fun d => ∃ b, d = tB b ∧ (b = true → FloorOk f)) := by
  refine Pure.of_awp hm Try.func29 s29_ok (by simp [s29]) ?_
  have no : (T.below 0 (T.v (V.x (C.r (R.val (Value.bool false))))) = true ∧ ∃ b, T.v (V.x (C.r (R.val (Value.bool false)))) = tB b ∧ (b = true → FloorOk f)) := ⟨rfl, false, rfl, fun h => by cases h⟩
  have main : 1 ≤ f.w → f.w ≤ 4096 → 1 ≤ f.h → f.h ≤ 4096 → 1 ≤ f.d → f.d ≤ 4 → ∀ {tm : Nat → Option T} {K : KMap} {N : Nat}, tm 1 = some (tC (.ptr 0 0 0 0)) → K 0 = some (.row 0 5 [encFloor f]) → 1 ≤ N →
      awp Try.prog 0 s29_17 ⟨tm, K, N⟩ (retP [SRes.tmp 2] fun d => ∃ b, d = tB b ∧ (b = true → FloorOk f)) := by
    intro w1 w2 h1 h2 d1 d2 tm K N ht hk hN
    have b1 : f.w * f.h ≤ 4096 * 4096 := Int.mul_le_mul w2 h2 (by omega) (by omega)
    have b0 : 0 ≤ f.w * f.h := Int.mul_nonneg (by omega) (by omega)
    have b2 : f.w * f.h * f.d ≤ 4096 * 4096 * 4 := Int.mul_le_mul b1 d2 (by omega) (by omega)
    have b3 : 0 ≤ f.w * f.h * f.d := Int.mul_nonneg b0 (by omega)
    have hw : IntKind.i64.wrap (IntKind.i64.wrap (f.w * f.h) * f.d) = f.w * f.h * f.d := by rw [wrap_i (n := f.w * f.h) (by omega) (by omega)]; exact wrap_i (by omega) (by omega)
    simp only [go_sem, s29_17, ht, hk, encFloor, ↓reduceIte, reduceCtorEq, Nat.reduceEqDiff, Nat.reduceAdd, Nat.reduceSub, Nat.reduceMul, Nat.reduceLT, Nat.reduceLeDiff, Int.reduceToNat]
    refine Pure.callS (f52w f) rfl ?_
    rw [hw]
    simp only [go_sem, s29_16, s29_15, ht, hk, encFloor, ↓reduceIte, reduceCtorEq, Nat.reduceEqDiff, Nat.reduceAdd, Nat.reduceSub, Nat.reduceMul, Nat.reduceLT, Nat.reduceLeDiff, Int.reduceToNat]
    refine guardQ_at (fun g1 => ?_) (fun g1 => ?_)
    · simp only [go_sem, s29_14, ht, hk, encFloor, ints_len, ↓reduceIte, reduceCtorEq, Nat.reduceEqDiff, Nat.reduceAdd, Nat.reduceSub, Nat.reduceMul, Nat.reduceLT, Nat.reduceLeDiff, Int.reduceToNat]
      refine guardQ_at (fun g2 => ?_) (fun g2 => ?_)
      · simp only [go_sem, s29_13, s29_12, s29_11, ht, hk, encFloor, ints_len, ↓reduceIte, reduceCtorEq, Nat.reduceEqDiff, Nat.reduceAdd, Nat.reduceSub, Nat.reduceMul, Nat.reduceLT, Nat.reduceLeDiff, Int.reduceToNat]
        refine twoQ_at (fun g3 => no) (fun g3 => ?_)
        simp only [ne_eq, decide_eq_false_iff_not, Decidable.not_not] at g1 g2 g3
        have hlen : f.out.length = f.kind.length := by omega
        simp only [go_sem, s29_10, ht, hk, encFloor, ints_len, ↓reduceIte, reduceCtorEq, Nat.reduceEqDiff, Nat.reduceAdd, Nat.reduceSub, Nat.reduceMul, Nat.reduceLT, Nat.reduceLeDiff, Int.reduceToNat]
        refine awp_loop (fun i : Nat => ⟨upd (upd (upd (upd emp 1 (tC (.ptr 0 0 0 0))) 46 (tC (.r (.rd 1 (ints f.kind))))) 47 (tI f.kind.length)) 48 (tI i), upd emp 0 (.row 0 5 [encFloor f]), 1⟩) (fun i => f.kind.length - i)
          (fun i => i ≤ f.kind.length ∧ ∀ j, j < i → (0 ≤ f.kind.getD j 0 ∧ f.kind.getD j 0 < 7) ∧ 0 ≤ f.out.getD j 0 ∧ f.out.getD j 0 ≤ 63) 0 ⟨Nat.zero_le _, fun j hj => by omega⟩ ?_ ?_
        · exact Weak.keep (TmLe.cons rfl rfl (TmLe.cons rfl rfl (TmLe.cons rfl rfl (TmLe.cons (by simp [upd, ht]) rfl TmLe.nil)))) (KLe.cons (by omega) hk rfl KLe.nil) (Nat.zero_le _) hN
        · intro i ⟨hi, hin⟩
          simp only [go_sem, s29_9, ↓reduceIte, reduceCtorEq, Nat.reduceEqDiff, Nat.reduceAdd, Nat.reduceSub, Nat.reduceMul, Nat.reduceLT, Nat.reduceLeDiff, Int.reduceToNat]
          refine twoQ_at (fun k => ?_) (fun k => ?_)
          · have hi' : i < f.kind.length := by simpa using k
            have hi2 : i < f.out.length := by omega
            simp only [go_sem, s29_8, encFloor, ints_len, ints_at hi', ints_at hi2, Int.toNat_natCast, ↓reduceIte, reduceCtorEq, Nat.reduceEqDiff, Nat.reduceAdd, Nat.reduceSub, Nat.reduceMul, Nat.reduceLT, Nat.reduceLeDiff, Int.reduceToNat]
            refine ⟨⟨by omega, by omega⟩, guardQ_at (fun k1 => ?_) (fun k1 => ?_)⟩
            · simp only [go_sem, s29_7, encFloor, ↓reduceIte, reduceCtorEq, Nat.reduceEqDiff, Nat.reduceAdd, Nat.reduceSub, Nat.reduceMul, Nat.reduceLT, Nat.reduceLeDiff, Int.reduceToNat]
              refine guardQ_at (fun k2 => ?_) (fun k2 => ?_)
              · simp only [go_sem, s29_6, encFloor, ints_len, ints_at hi2, Int.toNat_natCast, ↓reduceIte, reduceCtorEq, Nat.reduceEqDiff, Nat.reduceAdd, Nat.reduceSub, Nat.reduceMul, Nat.reduceLT, Nat.reduceLeDiff, Int.reduceToNat]
                refine ⟨⟨by omega, by omega⟩, guardQ_at (fun k3 => ?_) (fun k3 => ?_)⟩
                · simp only [go_sem, s29_5, s29_4, s29_3, encFloor, ints_len, ints_at hi2, Int.toNat_natCast, ↓reduceIte, reduceCtorEq, Nat.reduceEqDiff, Nat.reduceAdd, Nat.reduceSub, Nat.reduceMul, Nat.reduceLT, Nat.reduceLeDiff, Int.reduceToNat]
                  refine ⟨⟨by omega, by omega⟩, twoQ_at (fun k4 => no) (fun k4 => ?_)⟩
                  simp only [go_sem, s29_2, ↓reduceIte, reduceCtorEq, Nat.reduceEqDiff, Nat.reduceAdd, Nat.reduceSub, Nat.reduceMul, Nat.reduceLT, Nat.reduceLeDiff, Int.reduceToNat]
                  simp only [decide_eq_false_iff_not] at k1 k2 k3 k4
                  refine ⟨i + 1, ⟨by omega, fun j hj => ?_⟩, by omega, ?_⟩
                  · by_cases e : j = i
                    · subst e; exact ⟨⟨by omega, by omega⟩, by omega, by omega⟩
                    · exact hin j (by omega)
                  · have := g1
                    rw [wrap_i (by omega) (by omega)]
                    exact Weak.keep (TmLe.cons rfl rfl (TmLe.cons rfl rfl (TmLe.cons rfl rfl (TmLe.cons rfl rfl TmLe.nil)))) (KLe.cons (by omega) rfl rfl KLe.nil) (Nat.zero_le _) (Nat.le_refl _)
                · simp only [go_sem, s29_5, s29_4, s29_3, ↓reduceIte, reduceCtorEq, Nat.reduceEqDiff, Nat.reduceAdd, Nat.reduceSub, Nat.reduceMul, Nat.reduceLT, Nat.reduceLeDiff, Int.reduceToNat]
                  exact no
              · simp only [go_sem, s29_6, s29_5, s29_4, s29_3, ↓reduceIte, reduceCtorEq, Nat.reduceEqDiff, Nat.reduceAdd, Nat.reduceSub, Nat.reduceMul, Nat.reduceLT, Nat.reduceLeDiff, Int.reduceToNat]
                exact no
            · simp only [go_sem, s29_7, s29_6, s29_5, s29_4, s29_3, ↓reduceIte, reduceCtorEq, Nat.reduceEqDiff, Nat.reduceAdd, Nat.reduceSub, Nat.reduceMul, Nat.reduceLT, Nat.reduceLeDiff, Int.reduceToNat]
              exact no
          · have hi' : i = f.kind.length := by simp at k; omega
            subst hi'
            simp only [go_sem, s29_1, ↓reduceIte, reduceCtorEq, Nat.reduceEqDiff, Nat.reduceAdd, Nat.reduceSub, Nat.reduceMul, Nat.reduceLT, Nat.reduceLeDiff, Int.reduceToNat]
            refine ⟨rfl, true, rfl, fun _ => ⟨w1, w2, h1, h2, d1, d2, ?_, ?_, hlen, fun j hj => (hin j hj).1, fun j hj => (hin j (by omega)).2⟩⟩
            · exact g2.symm
            · have e : f.n = (f.kind.length : Int) := rfl
              rw [e]; omega
      · simp only [go_sem, s29_13, s29_12, s29_11, ↓reduceIte, reduceCtorEq, Nat.reduceEqDiff, Nat.reduceAdd, Nat.reduceSub, Nat.reduceMul, Nat.reduceLT, Nat.reduceLeDiff, Int.reduceToNat]
        exact no
    · simp only [go_sem, s29_14, s29_13, s29_12, s29_11, ↓reduceIte, reduceCtorEq, Nat.reduceEqDiff, Nat.reduceAdd, Nat.reduceSub, Nat.reduceMul, Nat.reduceLT, Nat.reduceLeDiff, Int.reduceToNat]
      exact no
  simp only [go_sem, s29, encFloor, min3b, ↓reduceIte, reduceCtorEq, Nat.reduceEqDiff, Nat.reduceAdd, Nat.reduceSub, Nat.reduceMul, Nat.reduceLT, Nat.reduceLeDiff, Int.reduceToNat]
  refine guardQ_at (fun g1 => ?_) (fun g1 => ?_)
  · simp only [go_sem, s29_21, encFloor, ↓reduceIte, reduceCtorEq, Nat.reduceEqDiff, Nat.reduceAdd, Nat.reduceSub, Nat.reduceMul, Nat.reduceLT, Nat.reduceLeDiff, Int.reduceToNat]
    refine guardQ_at (fun g2 => ?_) (fun g2 => ?_)
    · simp only [go_sem, s29_20, s29_19, s29_18, encFloor, max2, ↓reduceIte, reduceCtorEq, Nat.reduceEqDiff, Nat.reduceAdd, Nat.reduceSub, Nat.reduceMul, Nat.reduceLT, Nat.reduceLeDiff, Int.reduceToNat]
      refine twoQ_at (fun g3 => no) (fun g3 => ?_)
      simp only [decide_eq_false_iff_not] at g1 g2 g3
      exact main (by omega) (by omega) (by omega) (by omega) (by omega) (by omega) rfl rfl (Nat.le_refl _)
    · simp only [go_sem, s29_20, s29_19, s29_18, ↓reduceIte, reduceCtorEq, Nat.reduceEqDiff, Nat.reduceAdd, Nat.reduceSub, Nat.reduceMul, Nat.reduceLT, Nat.reduceLeDiff, Int.reduceToNat]
      exact no
  · simp only [go_sem, s29_21, s29_20, s29_19, s29_18, ↓reduceIte, reduceCtorEq, Nat.reduceEqDiff, Nat.reduceAdd, Nat.reduceSub, Nat.reduceMul, Nat.reduceLT, Nat.reduceLeDiff, Int.reduceToNat]
    exact no
end Go.Proofs.Yticflcpmlbaafaa.AL

/- Contains. -/
set_option linter.unusedSimpArgs false
set_option linter.unusedVariables false
namespace Go.Proofs.Yticflcpmlbaafaa.AL
open Go

theorem f60 (l : List Int) (x : Int) (hl : l.length ≤ 140737488355328) : Pure Try.prog 60 [tC (.r (.rd 1 (ints l))), tI x] (· = tI (idxF (fun i => decide (x = l.getD i 0)) l.length)) := by
  refine Pure.of_awp hm Try.func60 s60_ok (by simp [s60]) ?_
  simp only [go_sem, s60, ints_len, ↓reduceIte, reduceCtorEq, Nat.reduceEqDiff, Nat.reduceAdd, Nat.reduceSub, Nat.reduceMul, Nat.reduceLT, Nat.reduceLeDiff, Int.reduceToNat]
  refine awp_loop (fun i : Nat => ⟨upd (upd (upd (upd emp 0 (tC (.r (.rd 1 (ints l))))) 1 (tI x)) 7 (tI l.length)) 8 (tI i), emp, 0⟩) (fun i => l.length - i) (fun i => i ≤ l.length ∧ ∀ j, j < i → decide (x = l.getD j 0) = false) 0 ⟨Nat.zero_le _, fun j hj => by omega⟩ ?_ ?_
  · exact Weak.keep (TmLe.cons rfl rfl (TmLe.cons rfl rfl (TmLe.cons rfl rfl (TmLe.cons rfl rfl TmLe.nil)))) KLe.nil (Nat.le_refl _) (Nat.le_refl _)
  · intro i ⟨hi, hno⟩
    simp only [go_sem, s60_5, ↓reduceIte, reduceCtorEq, Nat.reduceEqDiff, Nat.reduceAdd, Nat.reduceSub, Nat.reduceMul, Nat.reduceLT, Nat.reduceLeDiff, Int.reduceToNat]
    refine twoQ_at (fun h => ?_) (fun h => ?_)
    · have hi' : i < l.length := by simpa using h
      simp only [go_sem, s60_4, ints_len, ints_at hi', Int.toNat_natCast, ↓reduceIte, reduceCtorEq, Nat.reduceEqDiff, Nat.reduceAdd, Nat.reduceSub, Nat.reduceMul, Nat.reduceLT, Nat.reduceLeDiff, Int.reduceToNat]
      refine ⟨⟨by omega, by omega⟩, twoQ_at (fun h2 => ?_) (fun h2 => ?_)⟩
      · simp only [go_sem, s60_3, ↓reduceIte, reduceCtorEq, Nat.reduceEqDiff, Nat.reduceAdd, Nat.reduceSub, Nat.reduceMul, Nat.reduceLT, Nat.reduceLeDiff, Int.reduceToNat]
        exact ⟨rfl, by rw [idxF_hit hi' h2 hno]⟩
      · simp only [go_sem, s60_2, ↓reduceIte, reduceCtorEq, Nat.reduceEqDiff, Nat.reduceAdd, Nat.reduceSub, Nat.reduceMul, Nat.reduceLT, Nat.reduceLeDiff, Int.reduceToNat]
        refine ⟨i + 1, ⟨by omega, fun j hj => ?_⟩, by omega, ?_⟩
        · by_cases e : j = i
          · subst e; exact h2
          · exact hno j (by omega)
        · rw [wrap_i (by omega) (by omega)]
          exact Weak.keep (TmLe.cons rfl rfl (TmLe.cons rfl rfl (TmLe.cons rfl rfl (TmLe.cons rfl rfl TmLe.nil)))) KLe.nil (Nat.le_refl _) (Nat.le_refl _)
    · have hi' : i = l.length := by simp at h; omega
      simp only [go_sem, s60_1, ↓reduceIte, reduceCtorEq, Nat.reduceEqDiff, Nat.reduceAdd, Nat.reduceSub, Nat.reduceMul, Nat.reduceLT, Nat.reduceLeDiff, Int.reduceToNat]
      exact ⟨rfl, by rw [idxF_none (fun j hj => hno j (by omega))]⟩

theorem f42 (l : List Int) (x : Int) (hl : l.length ≤ 140737488355328) : Pure Try.prog 42 [tC (.r (.rd 1 (ints l))), tI x] (· = tB (decide (x ∈ l))) := by
  refine Pure.of_awp hm Try.func42 s42_ok (by simp [s42]) ?_
  simp only [go_sem, s42, ↓reduceIte, reduceCtorEq, Nat.reduceEqDiff, Nat.reduceAdd, Nat.reduceSub, Nat.reduceMul, Nat.reduceLT, Nat.reduceLeDiff, Int.reduceToNat]
  refine Pure.callS (f60 l x hl) rfl ?_
  simp only [go_sem, s42_1, ↓reduceIte, reduceCtorEq, Nat.reduceEqDiff, Nat.reduceAdd, Nat.reduceSub, Nat.reduceMul, Nat.reduceLT, Nat.reduceLeDiff, Int.reduceToNat]
  refine ⟨rfl, ?_⟩
  rcases idxF_b (fun i => decide (x = l.getD i 0)) l.length with h | ⟨i, h1, h2, h3⟩
  · have : x ∉ l := fun hm => by
      obtain ⟨j, hj, he⟩ := mem_getD.1 hm
      have hh : idxF (fun i => decide (x = l.getD i 0)) l.length ≠ -1 := by
        intro hc
        unfold idxF at hc
        cases hf : (List.range l.length).find? (fun i => decide (x = l.getD i 0)) with
        | some k => rw [hf] at hc; simp only at hc; omega
        | none =>
          rw [List.find?_range_eq_none] at hf
          have := hf j hj
          simp [he] at this
          exact this (by simpa using he.symm)
      exact hh h
    rw [h]
    simp [this]
  · have : x ∈ l := mem_getD.2 ⟨i, h1, (of_decide_eq_true h2).symm⟩
    rw [h3]
    simp [this]
end Go.Proofs.Yticflcpmlbaafaa.AL

/- Contains of rules. -/
set_option linter.unusedSimpArgs false
set_option linter.unusedVariables false
namespace Go.Proofs.Yticflcpmlbaafaa.AL
open Go

theorem f68 (l : List ApartD) (x : ApartD) (hl : l.length ≤ 140737488355328) : Pure Try.prog 68 [tC (.r (.rd 2 (l.map encApart))), .v (.agg [cV (.string x.a), cV (.string x.b)])] (· = tI (idxF (fun i => decide (x.a = (l.getD i default).a) && decide (x.b = (l.getD i default).b)) l.length)) := by
  refine Pure.of_awp hm Try.func68 s68_ok (by simp [s68]) ?_
  simp only [go_sem, s68, rows_len, ↓reduceIte, reduceCtorEq, Nat.reduceEqDiff, Nat.reduceAdd, Nat.reduceSub, Nat.reduceMul, Nat.reduceLT, Nat.reduceLeDiff, Int.reduceToNat]
  refine awp_loop (fun i : Nat => ⟨upd (upd (upd (upd emp 0 (tC (.r (.rd 2 (l.map encApart))))) 3 (tC (.ptr 0 0 0 0))) 7 (tI l.length)) 8 (tI i), upd emp 0 (.row 0 2 [[cV (.string x.a), cV (.string x.b)]]), 1⟩) (fun i => l.length - i) (fun i => i ≤ l.length ∧ ∀ j, j < i → (decide (x.a = (l.getD j default).a) && decide (x.b = (l.getD j default).b)) = false) 0 ⟨Nat.zero_le _, fun j hj => by omega⟩ ?_ ?_
  · exact Weak.keep (TmLe.cons rfl rfl (TmLe.cons rfl rfl (TmLe.cons rfl rfl (TmLe.cons rfl rfl TmLe.nil)))) (KLe.cons (by omega) rfl rfl KLe.nil) (Nat.zero_le _) (Nat.le_refl _)
  · intro i ⟨hi, hno⟩
    simp only [go_sem, s68_5, ↓reduceIte, reduceCtorEq, Nat.reduceEqDiff, Nat.reduceAdd, Nat.reduceSub, Nat.reduceMul, Nat.reduceLT, Nat.reduceLeDiff, Int.reduceToNat]
    refine twoQ_at (fun h => ?_) (fun h => ?_)
    · have hi' : i < l.length := by simpa using h
      simp only [go_sem, s68_4, rows_len, rows_at hi', encApart, Int.toNat_natCast, evEqs, eqCells, plainEq, tagOf, ↓reduceIte, reduceCtorEq, Nat.reduceEqDiff, Nat.reduceAdd, Nat.reduceSub, Nat.reduceMul, Nat.reduceLT, Nat.reduceLeDiff, Int.reduceToNat]
      refine ⟨⟨by omega, by omega⟩, ?_⟩
      simp only [ne_eq, Nat.succ_ne_self, not_false_eq_true, and_self, true_and, Nat.one_ne_zero, go_sem, ↓reduceIte, reduceCtorEq, Nat.reduceEqDiff, Nat.reduceAdd, Nat.reduceSub, Nat.reduceMul, Nat.reduceLT, Nat.reduceLeDiff, Int.reduceToNat]
      refine twoQ_at (fun h2 => ?_) (fun h2 => ?_)
      · simp only [go_sem, s68_3, ↓reduceIte, reduceCtorEq, Nat.reduceEqDiff, Nat.reduceAdd, Nat.reduceSub, Nat.reduceMul, Nat.reduceLT, Nat.reduceLeDiff, Int.reduceToNat]
        exact ⟨rfl, by rw [idxF_hit hi' h2 hno]⟩
      · simp only [go_sem, s68_2, ↓reduceIte, reduceCtorEq, Nat.reduceEqDiff, Nat.reduceAdd, Nat.reduceSub, Nat.reduceMul, Nat.reduceLT, Nat.reduceLeDiff, Int.reduceToNat]
        refine ⟨i + 1, ⟨by omega, fun j hj => ?_⟩, by omega, ?_⟩
        · by_cases e : j = i
          · subst e; exact h2
          · exact hno j (by omega)
        · rw [wrap_i (by omega) (by omega)]
          exact Weak.keep (TmLe.cons rfl rfl (TmLe.cons rfl rfl (TmLe.cons rfl rfl (TmLe.cons rfl rfl TmLe.nil)))) (KLe.cons (by omega) rfl rfl KLe.nil) (Nat.zero_le _) (Nat.le_refl _)
    · have hi' : i = l.length := by simp at h; omega
      simp only [go_sem, s68_1, ↓reduceIte, reduceCtorEq, Nat.reduceEqDiff, Nat.reduceAdd, Nat.reduceSub, Nat.reduceMul, Nat.reduceLT, Nat.reduceLeDiff, Int.reduceToNat]
      exact ⟨rfl, by rw [idxF_none (fun j hj => hno j (by omega))]⟩

/-- A rule of these two is in the list, in this order. -/
def hasPair (l : List ApartD) (x : ApartD) : Bool := decide (0 ≤ idxF (fun i => decide (x.a = (l.getD i default).a) && decide (x.b = (l.getD i default).b)) l.length)

theorem f64 (l : List ApartD) (x : ApartD) (hl : l.length ≤ 140737488355328) : Pure Try.prog 64 [tC (.r (.rd 2 (l.map encApart))), .v (.agg [cV (.string x.a), cV (.string x.b)])] (· = tB (hasPair l x)) := by
  refine Pure.of_awp hm Try.func64 s64_ok (by simp [s64]) ?_
  simp only [go_sem, s64, ↓reduceIte, reduceCtorEq, Nat.reduceEqDiff, Nat.reduceAdd, Nat.reduceSub, Nat.reduceMul, Nat.reduceLT, Nat.reduceLeDiff, Int.reduceToNat]
  refine Pure.callS (f68 l x hl) rfl ?_
  simp only [go_sem, s64_1, ↓reduceIte, reduceCtorEq, Nat.reduceEqDiff, Nat.reduceAdd, Nat.reduceSub, Nat.reduceMul, Nat.reduceLT, Nat.reduceLeDiff, Int.reduceToNat]
  exact ⟨rfl, rfl⟩
end Go.Proofs.Yticflcpmlbaafaa.AL

/- Apart. -/
set_option linter.unusedSimpArgs false
set_option linter.unusedVariables false
namespace Go.Proofs.Yticflcpmlbaafaa.AL
open Go

def apartL (l : List ApartD) (a b : ByteArray) : Bool := if a = ⟨#[]⟩ ∨ b = ⟨#[]⟩ then false else hasPair l ⟨a, b⟩ || hasPair l ⟨b, a⟩

theorem f56 (l : List ApartD) (a b : ByteArray) (hl : l.length ≤ 140737488355328) : Pure Try.prog 56 [tC (.r (.rd 2 (l.map encApart))), tS a, tS b] (· = tB (apartL l a b)) := by
  refine Pure.of_awp hm Try.func56 s56_ok (by simp [s56]) ?_
  have main : ¬ (a = ⟨#[]⟩ ∨ b = ⟨#[]⟩) → ∀ {tm : Nat → Option T} {K : KMap} {N : Nat}, tm 0 = some (tC (.r (.rd 2 (l.map encApart)))) → tm 1 = some (tS a) → tm 2 = some (tS b) →
      awp Try.prog 0 s56_4 ⟨tm, K, N⟩ (retP [SRes.tmp 6] fun d => d = tB (apartL l a b)) := by
    intro hne tm K N h0 h1 h2
    simp only [go_sem, s56_4, h0, h1, h2, ↓reduceIte, reduceCtorEq, Nat.reduceEqDiff, Nat.reduceAdd, Nat.reduceSub, Nat.reduceMul, Nat.reduceLT, Nat.reduceLeDiff, Int.reduceToNat]
    refine Pure.callS (f64 l ⟨a, b⟩ hl) rfl ?_
    simp only [go_sem, s56_3, h0, h1, h2, ↓reduceIte, reduceCtorEq, Nat.reduceEqDiff, Nat.reduceAdd, Nat.reduceSub, Nat.reduceMul, Nat.reduceLT, Nat.reduceLeDiff, Int.reduceToNat]
    refine guardQ_at (fun k => ?_) (fun k => ?_)
    · simp only [go_sem, s56_2, h0, h1, h2, ↓reduceIte, reduceCtorEq, Nat.reduceEqDiff, Nat.reduceAdd, Nat.reduceSub, Nat.reduceMul, Nat.reduceLT, Nat.reduceLeDiff, Int.reduceToNat]
      refine Pure.callS (f64 l ⟨b, a⟩ hl) rfl ?_
      simp only [go_sem, s56_1, ↓reduceIte, reduceCtorEq, Nat.reduceEqDiff, Nat.reduceAdd, Nat.reduceSub, Nat.reduceMul, Nat.reduceLT, Nat.reduceLeDiff, Int.reduceToNat]
      exact ⟨rfl, by rw [apartL, if_neg hne, k]; rfl⟩
    · simp only [go_sem, s56_2, s56_1, ↓reduceIte, reduceCtorEq, Nat.reduceEqDiff, Nat.reduceAdd, Nat.reduceSub, Nat.reduceMul, Nat.reduceLT, Nat.reduceLeDiff, Int.reduceToNat]
      simp only [Bool.not_false] at k
      exact ⟨rfl, by rw [apartL, if_neg hne, k]; rfl⟩
  simp only [go_sem, s56, ↓reduceIte, reduceCtorEq, Nat.reduceEqDiff, Nat.reduceAdd, Nat.reduceSub, Nat.reduceMul, Nat.reduceLT, Nat.reduceLeDiff, Int.reduceToNat]
  refine guardQ_at (fun k => ?_) (fun k => ?_)
  · simp only [go_sem, s56_7, s56_6, s56_5, ↓reduceIte, reduceCtorEq, Nat.reduceEqDiff, Nat.reduceAdd, Nat.reduceSub, Nat.reduceMul, Nat.reduceLT, Nat.reduceLeDiff, Int.reduceToNat]
    refine twoQ_at (fun k2 => ?_) (fun k2 => ?_)
    · simp only [decide_eq_true_eq] at k2
      exact ⟨rfl, by rw [apartL, if_pos (.inr k2)]⟩
    · simp only [decide_eq_false_iff_not] at k k2
      exact main (by simp only [not_or]; exact ⟨k, k2⟩) rfl rfl rfl
  · simp only [go_sem, s56_7, s56_6, s56_5, ↓reduceIte, reduceCtorEq, Nat.reduceEqDiff, Nat.reduceAdd, Nat.reduceSub, Nat.reduceMul, Nat.reduceLT, Nat.reduceLeDiff, Int.reduceToNat]
    simp only [Bool.not_false, decide_eq_true_eq] at k
    exact ⟨rfl, by rw [apartL, if_pos (.inl k)]⟩
end Go.Proofs.Yticflcpmlbaafaa.AL

/- IndexFunc over numbers. -/
set_option linter.unusedSimpArgs false
set_option linter.unusedVariables false
namespace Go.Proofs.Yticflcpmlbaafaa.AL
open Go

end Go.Proofs.Yticflcpmlbaafaa.AL

/- The iterator of slices.Backward over numbers. -/
set_option linter.unusedSimpArgs false
set_option linter.unusedVariables false
namespace Go.Proofs.Yticflcpmlbaafaa.AL
open Go Go.RowKit

/-- What slices.Backward's closure hands over. -/
def backY (l : List Int) : List (List T) := (List.range l.length).map fun (i : Nat) => [tI ((l.length : Int) - 1 - (i : Int)), tI (l.getD (l.length - 1 - i) 0)]

end Go.Proofs.Yticflcpmlbaafaa.AL

/- Which shelf stands where. -/
set_option linter.unusedSimpArgs false
set_option linter.unusedVariables false
namespace Go.Proofs.Yticflcpmlbaafaa.AL
open Go

abbrev ki (n : Int) : Value := .int .i64 n
theorem ki_ok (n : Int) : keyOk (.sc 6) (ki n) = true := rfl
theorem ki_eq (n m : Int) : keyEq (ki n) (ki m) = decide (n = m) := rfl

/-- A map from numbers is as a function says. -/
def IMap (es : List (Value × V)) (φ : Int → Option V) : Prop := es.all (fun e => keyOk (.sc 6) e.1) = true ∧ es.all (fun e => e.2.below 0) = true ∧ ∀ n, mfind es (ki n) = φ n

theorem IMap.nil : IMap [] (fun _ => none) := ⟨rfl, rfl, fun n => rfl⟩
theorem IMap.set {es : List (Value × V)} {φ : Int → Option V} (h : IMap es φ) (m : Int) (d : V) (hd : d.below 0 = true) : IMap (mset es (ki m) d) (fun n => if n = m then some d else φ n) := by
  obtain ⟨h1, h2, h3⟩ := h
  refine ⟨all_mset (ki_ok m) _ h1, all_mset hd _ h2, fun n => ?_⟩
  rw [mfind_mset (ki_ok m) (ki_ok n) es h1, h3, ki_eq]
  by_cases e : n = m <;> simp [e]
theorem IMap.congr {es : List (Value × V)} {φ ψ : Int → Option V} (h : IMap es φ) (hp : ∀ n, φ n = ψ n) : IMap es ψ := ⟨h.1, h.2.1, fun n => (h.2.2 n).trans (hp n)⟩

theorem IMap.bel {es : List (Value × V)} {φ : Int → Option V} {N : Nat} (h : IMap es φ) : (AObj.map es).below N = true := below_map h.2.1
theorem IMap.ren {es : List (Value × V)} {φ : Int → Option V} (h : IMap es φ) (ρ : Nat → Nat) : (AObj.map es).ren ρ = .map es := map_ren h.2.1 ρ
theorem ki_ok' (n : Int) : keyOk (.sc 6) (Value.int .i64 n) = true := rfl

theorem awp_rf {P : Program} {N0 : Nat} {tm : Nat → Option T} {K : KMap} {N : Nat} {Q : XE → St → Prop} {g : Operand} {ps : List Nat} {mvs : List (Nat × Nat)} {b : SCode} (gf : FuncId) (caps : List Nat) (ys : List (List T)) (keep : List Nat) (I : Nat → KMap → Nat → Prop) (X : XE → KMap → Nat → Prop) (s2 : St)
    (h1 : opd tm g = some (.v (.x (.fn gf caps)))) (h2 : Iter P gf caps K N ps.length ys keep) (h3 : ∀ i K' N', I i K' N' → MapsOld K N K') (h4 : ∀ e K' N', X e K' N' → MapsOld K N K')
    (h5 : Weak N ⟨tm, dropK keep K, N⟩ s2) (h6 : I 0 s2.K s2.N) (h7 : ∀ i K' N', i < ys.length → N ≤ N' → I i K' N' → awp P N b ⟨mvTm mvs (psTm ps (ys.getD i []) tm), K', N'⟩ (rfQ N I X i))
    (h8 : ∀ K' N', N ≤ N' → I ys.length K' N' → Q .normal ⟨tm, K', N'⟩) (h9 : ∀ e K' N', N ≤ N' → X e K' N' → e ≠ .normal → Q e ⟨tm, K', N'⟩) : awp P N0 (.rf g ps mvs b) ⟨tm, K, N⟩ Q :=
  ⟨gf, caps, ys, keep, I, X, h1, h2, ⟨h3, h4⟩, ⟨s2, h5, h6⟩, h7, h8, h9⟩

theorem MapsOld.nil {K0 : KMap} {N0 : Nat} : MapsOld K0 N0 emp := fun id es h => by cases h
theorem MapsOld.row {K0 K : KMap} {N0 t v z : Nat} {xs : List (List C)} (h : MapsOld K0 N0 K) : MapsOld K0 N0 (upd K t (.row v z xs)) := fun id es hk => by
  unfold upd at hk
  split at hk
  · cases hk
  · exact h id es hk
theorem MapsOld.map {K0 K : KMap} {N0 t : Nat} {es : List (Value × V)} {o : AObj} (h1 : t < N0) (h2 : K0 t = some o) (h : MapsOld K0 N0 K) : MapsOld K0 N0 (upd K t (.map es)) := fun id es hk => by
  unfold upd at hk
  split at hk
  · rename_i e
    subst e
    exact ⟨h1, o, h2⟩
  · exact h id es hk

/-- One of the first n robots has this load. -/
def loadF (st : StateD) (n : Nat) (k : Int) : Bool := (List.range n).any fun j => decide ((st.robots.getD j default).load = k)
theorem loadF_succ {st : StateD} {n : Nat} {k : Int} : loadF st (n + 1) k = (loadF st n k || decide ((st.robots.getD n default).load = k)) := by simp [loadF, List.range_succ]

/-- The shelf i stands at c. -/
def standsAt (st : StateD) (c : Int) (i : Nat) : Bool := decide (st.shelves.getD i 0 = c) && !loadF st st.robots.length i
/-- The first shelf from n on that stands at c. -/
def standFrom (st : StateD) (n : Nat) (c : Int) : Option Nat := (List.range st.shelves.length).find? fun i => decide (n ≤ i) && standsAt st c i
abbrev standF (st : StateD) (c : Int) : Option Nat := standFrom st 0 c
abbrev iV (i : Nat) : V := .x (cV (.int .i64 (i : Int)))

theorem standFrom_all {st : StateD} {c : Int} : standFrom st st.shelves.length c = none := by
  unfold standFrom
  rw [List.find?_range_eq_none]
  intro i hi
  simp; omega
theorem standFrom_step {st : StateD} {n : Nat} {c : Int} (hn : n < st.shelves.length) : standFrom st n c = if standsAt st c n = true then some n else standFrom st (n + 1) c := by
  split
  · rename_i h
    unfold standFrom
    rw [List.find?_range_eq_some]
    refine ⟨by simp [h], by simpa using hn, fun j hj => ?_⟩
    simp; exact .inl hj
  · rename_i h
    unfold standFrom
    congr 1
    funext i
    by_cases e : i = n
    · subst e; simp [h]
    · have : (n ≤ i) = (n + 1 ≤ i) := by simp; omega
      simp [this]

end Go.Proofs.Yticflcpmlbaafaa.AL

/- At, Room, Keeps, OfKind. -/
set_option linter.unusedSimpArgs false
set_option linter.unusedVariables false
namespace Go.Proofs.Yticflcpmlbaafaa.AL
open Go
variable {s : SiteD} {st : StateD}

structure StOk (st : StateD) : Prop where
  nr : st.robots.length ≤ 140737488355328
  nsh : st.shelves.length ≤ 140737488355328

def atF (st : StateD) (c : Int) : Int := match standF st c with | some i => (i : Int) | none => -1

/-- A cell of a zone that has room. -/
def freeF (s : SiteD) (st : StateD) (c : Int) : Bool := (standF st c).isNone && standsF s c
def countF (s : SiteD) (st : StateD) (l : List Int) (n : Nat) : Nat := (List.range n).countP fun i => freeF s st (l.getD i 0)
theorem countF_succ {l : List Int} {n : Nat} : countF s st l (n + 1) = countF s st l n + (if freeF s st (l.getD n 0) then 1 else 0) := by
  unfold countF
  rw [List.range_succ, List.countP_append]
  simp [List.countP_cons]
theorem countF_le {l : List Int} {n : Nat} : countF s st l n ≤ n := by
  have := List.countP_le_length (p := fun i => freeF s st (l.getD i 0)) (l := List.range n)
  simpa [countF] using this

def zoneD (s : SiteD) (z : Int) : ZoneD := s.zones.getD z.toNat default
def roomF (s : SiteD) (st : StateD) (z : Int) : Int := if 0 ≤ z ∧ z < s.zones.length then IntKind.i64.wrap ((countF s st (zoneD s z).cells (zoneD s z).cells.length : Nat) - (zoneD s z).keep) else 0

theorem wrap_wrap_add (a b : Int) : IntKind.i64.wrap (IntKind.i64.wrap a + b) = IntKind.i64.wrap (a + b) := by
  rw [IntKind.wrap_i64, IntKind.wrap_i64, IntKind.wrap_i64]
  omega

def keepsF (s : SiteD) (st : StateD) : Int := idxF (fun z => decide (roomF s st z < 0)) s.zones.length

/-- The first n cells' numbers that are of a kind. -/
def ofKindN (s : SiteD) (k : Int) (n : Nat) : List Int := ((List.range n).filter fun c => decide (s.floor.kind.getD c 0 = k)).map fun c : Nat => (c : Int)
theorem ofKindN_succ {k : Int} {n : Nat} : ofKindN s k (n + 1) = ofKindN s k n ++ (if s.floor.kind.getD n 0 = k then [(n : Int)] else []) := by
  unfold ofKindN
  rw [List.range_succ, List.filter_append, List.map_append]
  congr 1
  by_cases h : s.floor.kind.getD n 0 = k
  · simp only [h, if_true, List.filter_cons, decide_true, List.filter_nil, List.map_cons, List.map_nil]
  · simp only [h, if_false, List.filter_cons, decide_false, List.filter_nil, List.map_nil, Bool.false_eq_true]
theorem ofKindN_len {k : Int} {n : Nat} : (ofKindN s k n).length ≤ n := by
  unfold ofKindN
  rw [List.length_map]
  exact Nat.le_trans (List.length_filter_le _ _) (by simp)

/-- Own rows of numbers. -/
def intC (l : List Int) : List (List C) := l.map fun n => [cV (.int .i64 n)]
theorem intC_len {l : List Int} : (intC l).length = l.length := by simp [intC]

theorem intC_bel {l : List Int} {v n N : Nat} : (AObj.row v n (intC l)).below N = true := by
  simp [AObj.below, intC, C.below]
theorem intC_ren {l : List Int} {v n : Nat} {ρ : Nat → Nat} : (AObj.row v n (intC l)).ren ρ = .row v n (intC l) := by
  simp [AObj.ren, intC, C.ren]
theorem intC_app {l : List Int} {n : Int} : intC l ++ [[C.r (R.val (Value.int .i64 n))]] = intC (l ++ [n]) := by simp [intC]
/-- Handed back: one own row of numbers. -/
theorem Back.intC1 {st : St} {i v n : Nat} {l : List Int} {d : T} {w : Nat} (h : st.K i = some (.row v n (intC l))) (hd : d = tC (.own i v 0 w)) : Back 0 st d (tC (.own 0 v 0 w)) (upd emp 0 (.row v n (intC l))) 1 (fun k => [i].getD k 0) := by
  subst hd
  refine Back.list [i] _ (by simp) (fun k o hk => ?_) rfl rfl
  unfold upd at hk
  split at hk
  · cases hk
    subst_vars
    exact ⟨by simp, intC_bel, by rw [intC_ren]; exact h⟩
  · cases hk

end Go.Proofs.Yticflcpmlbaafaa.AL

/- DeleteFunc, the cells beside a cell. -/
set_option linter.unusedSimpArgs false
set_option linter.unusedVariables false
namespace Go.Proofs.Yticflcpmlbaafaa.AL
open Go
variable {s : SiteD} {st : StateD}

/-- Only the temporaries are cut. -/
theorem Weak.cutTm {N0 N : Nat} {tm tm' : Nat → Option T} {K : KMap} (h1 : ∀ t d, tm' t = some d → tm t = some d) : Weak N0 ⟨tm, K, N⟩ ⟨tm', K, N⟩ := fun dl n w0 F S μ0 μ a w h =>
  ⟨μ, h.defers, h.size, fun t d hd => h.tm t d (h1 t d hd), h.h, h.ent, h.later⟩

theorem intC_at {l : List Int} {i : Nat} (h : i < l.length) : (intC l).getD i [] = [cV (.int .i64 (l.getD i 0))] := by simp [intC, h]
theorem intC_set {l : List Int} {i : Nat} {n : Int} : (intC l).set i [cV (.int .i64 n)] = intC (l.set i n) := by simp [intC, List.map_set]

def posL (l : List Int) : List Int := l.filter fun c => !decide (c < 0)

theorem intC_cast {K : KMap} {id v : Nat} {l : List Int} (hK : K id = some (.row v 1 (intC l))) (hl : l.length ≤ 140737488355328) : CastC K (.own id v 0 l.length) (.r (.rd 1 (ints l))) := by
  refine .inr ⟨_, rfl, .own hK (by rw [intC_len]; omega) ints_len (fun y hy => ?_) (fun i k c r hi hc hr => ?_)⟩
  · simp only [ints, List.mem_map] at hy
    obtain ⟨n, _, rfl⟩ := hy
    rfl
  · rw [Nat.zero_add, intC_at hi] at hc
    rw [ints_at hi] at hr
    cases k with
    | zero => simp at hc hr; subst hc hr; exact .r
    | succ k => simp at hr

theorem joinK_nil {N : Nat} {K : KMap} (h : ∀ i, N ≤ i → K i = none) : joinK N K emp = K := by
  funext i
  unfold joinK
  split
  · rfl
  · rw [h i (by omega)]; rfl
theorem up1_none {o : AObj} : ∀ i, 1 ≤ i → (upd emp 0 o : KMap) i = none := fun i hi => by
  rw [upd_ne _ _ (by omega)]; rfl

theorem posL_succ {l : List Int} {j : Nat} (h : j < l.length) : posL (l.take (j + 1)) = posL (l.take j) ++ (if l.getD j 0 < 0 then [] else [l.getD j 0]) := by
  unfold posL
  rw [List.take_add_one, List.filter_append]
  congr 1
  have : l[j]? = some (l.getD j 0) := by simp [h]
  rw [this]
  by_cases e : l.getD j 0 < 0
  · simp only [e, if_true, Option.toList_some, List.filter_cons, decide_true, Bool.not_true, Bool.false_eq_true, if_false, List.filter_nil]
  · simp only [e, if_false, Option.toList_some, List.filter_cons, decide_false, Bool.not_false, if_true, List.filter_nil]

theorem posL_take {l : List Int} : ∀ {j : Nat}, j ≤ l.length → (∀ k, k < j → ¬ l.getD k 0 < 0) → posL (l.take j) = l.take j
  | 0, _, _ => by simp [posL]
  | j + 1, hj, h => by
    rw [posL_succ (by omega), if_neg (h j (by omega)), posL_take (by omega) (fun k hk => h k (by omega)), List.take_add_one]
    have : l[j]? = some (l.getD j 0) := by simp [show j < l.length by omega]
    rw [this]; rfl

/-- The caller's last object, as a callee gets it. -/
theorem upd_join {N : Nat} {K : KMap} {o : AObj} (o' : AObj) (ho : o'.ren (addN N) = o) (h : ∀ i, N < i → K i = none) : upd K N o = joinK N K (upd emp 0 o') := by
  funext i
  unfold upd joinK
  by_cases e : i = N
  · subst e
    simp [upd, ho]
  · by_cases e2 : i < N
    · simp [e, e2]
    · have e3 : ¬ i - N = 0 := by omega
      simp only [if_neg e, if_neg e2]
      rw [h i (by omega)]
      simp [e3, emp]

/-- The places beside a cell, one after the other. -/
def sideL (f : FloorD) (c : Int) : List Int := [cellF f (xF f c + 1) (yF f c) (zF f c), cellF f (xF f c) (yF f c + 1) (zF f c), cellF f (xF f c - 1) (yF f c) (zF f c), cellF f (xF f c) (yF f c - 1) (zF f c)]

end Go.Proofs.Yticflcpmlbaafaa.AL

/- Which shelves disturb each other: plain. -/
set_option linter.unusedSimpArgs false
set_option linter.unusedVariables false
namespace Go.Proofs.Yticflcpmlbaafaa.AL
open Go
variable {s : SiteD} {st : StateD}

theorem idxF_spec (p : Nat → Bool) (n : Nat) : (idxF p n = -1 ∧ ∀ j, j < n → p j = false) ∨ ∃ i, i < n ∧ p i = true ∧ (∀ j, j < i → p j = false) ∧ idxF p n = i := by
  unfold idxF
  cases h : (List.range n).find? p with
  | none =>
    rw [List.find?_range_eq_none] at h
    exact .inl ⟨rfl, fun j hj => by simpa using h j hj⟩
  | some i =>
    rw [List.find?_range_eq_some] at h
    exact .inr ⟨i, by simpa using h.2.1, h.1, fun j hj => by simpa using h.2.2 j hj, rfl⟩

theorem idxF_congr {p q : Nat → Bool} {n : Nat} (h : ∀ j, j < n → p j = q j) : idxF p n = idxF q n := by
  rcases idxF_spec p n with ⟨h1, h2⟩ | ⟨i, h1, h2, h3, h4⟩
  · rw [h1, idxF_none (fun j hj => by rw [← h j hj]; exact h2 j hj)]
  · rw [h4, idxF_hit h1 (by rw [← h i h1]; exact h2) (fun j hj => by rw [← h j (by omega)]; exact h3 j hj)]

theorem idxF_add {p : Nat → Bool} {n k : Nat} (hk : k < n) (b : Bool) : idxF (fun q => p q || (decide (q = k) && b)) n = if b = true ∧ (idxF p n < 0 ∨ (k : Int) < idxF p n) then (k : Int) else idxF p n := by
  rcases idxF_spec p n with ⟨h1, h2⟩ | ⟨i, h1, h2, h3, h4⟩
  · rw [h1]
    cases b with
    | true =>
      rw [if_pos (by simp)]
      exact idxF_hit hk (by simp) (fun j hj => by simp [h2 j (by omega)]; omega)
    | false =>
      rw [if_neg (by simp)]
      exact idxF_none (fun j hj => by simp [h2 j hj])
  · rw [h4]
    by_cases c : b = true ∧ ((i : Int) < 0 ∨ (k : Int) < i)
    · rw [if_pos c]
      obtain ⟨rfl, c⟩ := c
      exact idxF_hit hk (by simp) (fun j hj => by simp [h3 j (by omega)]; omega)
    · rw [if_neg c]
      refine idxF_hit h1 (by simp [h2]) (fun j hj => ?_)
      rw [h3 j hj]
      cases b with
      | false => simp
      | true =>
        have : ¬ j = k := fun e => c ⟨rfl, .inr (by omega)⟩
        simp [this]

/-- A shelf that has a class and stands. -/
def actF (s : SiteD) (st : StateD) (i : Nat) : Bool := decide (classF s i ≠ ⟨#[]⟩) && decide (carriedF st i < 0)
/-- The classes of two shelves are apart. -/
def clsF (s : SiteD) (i k : Nat) : Bool := pairF s s.aparts.length (classF s i) (classF s k)
def sideOf (s : SiteD) (st : StateD) (i : Nat) : List Int := posL (sideL s.floor (shelfAt st i))
def badF (s : SiteD) (st : StateD) (i k : Nat) : Bool := (actF s st k && decide (shelfAt st k ∈ sideOf s st i)) && (decide (i < k) && clsF s i k)
def bestF (s : SiteD) (st : StateD) (i : Nat) : Int := if actF s st i = true then idxF (badF s st i) st.shelves.length else -1
def hitI (s : SiteD) (st : StateD) : Int := idxF (fun i => decide (0 ≤ bestF s st i)) st.shelves.length
def apA (s : SiteD) (st : StateD) : Int := if 0 ≤ hitI s st then hitI s st else 0
def apB (s : SiteD) (st : StateD) : Int := if 0 ≤ hitI s st then bestF s st (hitI s st).toNat else 0
def apOk (s : SiteD) (st : StateD) : Bool := decide (0 ≤ hitI s st)

/-- The first n shelves that count and stand at c. -/
def grp (s : SiteD) (st : StateD) (n : Nat) (c : Int) : List Int := ((List.range n).filter fun i => actF s st i && decide (shelfAt st i = c)).map fun i : Nat => (i : Int)
theorem grp_succ {n : Nat} {c : Int} : grp s st (n + 1) c = grp s st n c ++ (if actF s st n = true ∧ shelfAt st n = c then [(n : Int)] else []) := by
  unfold grp
  rw [List.range_succ, List.filter_append, List.map_append]
  congr 1
  by_cases h : actF s st n = true ∧ shelfAt st n = c
  · rw [if_pos h]; simp [h.1, h.2]
  · rw [if_neg h]
    have : (actF s st n && decide (shelfAt st n = c)) = false := by
      cases h2 : actF s st n with
      | false => rfl
      | true => simp; exact fun e => h ⟨h2, e⟩
    simp [this]
theorem grp_len {n : Nat} {c : Int} : (grp s st n c).length ≤ n := by
  unfold grp
  rw [List.length_map]
  exact Nat.le_trans (List.length_filter_le _ _) (by simp)
theorem grp_mem {n : Nat} {c : Int} {k : Int} : k ∈ grp s st n c ↔ ∃ i : Nat, i < n ∧ actF s st i = true ∧ shelfAt st i = c ∧ k = i := by
  unfold grp
  simp only [List.mem_map, List.mem_filter, List.mem_range, Bool.and_eq_true, decide_eq_true_eq]
  constructor
  · rintro ⟨i, ⟨h1, h2, h3⟩, rfl⟩; exact ⟨i, h1, h2, h3, rfl⟩
  · rintro ⟨i, h1, h2, h3, rfl⟩; exact ⟨i, ⟨h1, h2, h3⟩, rfl⟩

/-- The map holds each group in an own row. -/
structure Gr (s : SiteD) (st : StateD) (n : Nat) (K : KMap) (N : Nat) (es : List (Value × V)) : Prop where
  keys : es.all (fun e => keyOk (.sc 6) e.1) = true
  no : ∀ c, mfind es (ki c) = none → grp s st n c = []
  yes : ∀ c d, mfind es (ki c) = some d → ∃ id v, d = .x (.own id v 0 (grp s st n c).length) ∧ 4 ≤ id ∧ id < N ∧ K id = some (.row v 1 (intC (grp s st n c)))
  inj : ∀ c c' id v v' l l', mfind es (ki c) = some (.x (.own id v 0 l)) → mfind es (ki c') = some (.x (.own id v' 0 l')) → c = c'

theorem Gr.nil {K : KMap} {N : Nat} : Gr s st 0 K N [] := ⟨rfl, fun c _ => rfl, fun c d h => by simp [mfind] at h, fun c c' id v v' l l' h => by simp [mfind] at h⟩

theorem Gr.skip {n : Nat} {K : KMap} {N : Nat} {es : List (Value × V)} (h : Gr s st n K N es) (ha : ¬ actF s st n = true) : Gr s st (n + 1) K N es := by
  have e : ∀ c, grp s st (n + 1) c = grp s st n c := fun c => by rw [grp_succ, if_neg (fun h => ha h.1)]; simp
  exact ⟨h.keys, fun c hc => by rw [e]; exact h.no c hc, fun c d hd => by rw [e]; exact h.yes c d hd, h.inj⟩

theorem mfind_ki {es : List (Value × V)} (h : es.all (fun e => keyOk (.sc 6) e.1) = true) (m n : Int) (d : V) : mfind (mset es (ki m) d) (ki n) = if n = m then some d else mfind es (ki n) := by
  rw [mfind_mset (ki_ok m) (ki_ok n) es h, ki_eq]
  by_cases e : n = m <;> simp [e]

theorem Gr.step {n : Nat} {K K' : KMap} {N N' : Nat} {es : List (Value × V)} (h : Gr s st n K N es) (ha : actF s st n = true) {id v : Nat} (hid : 4 ≤ id) (hidN : id < N') (hN : N ≤ N')
    (hnew : N ≤ id ∨ ∃ v' l', mfind es (ki (shelfAt st n)) = some (.x (.own id v' 0 l'))) (hK : ∀ j, 4 ≤ j → j < N → j ≠ id → K' j = K j) (hrow : K' id = some (.row v 1 (intC (grp s st n (shelfAt st n) ++ [(n : Int)])))) :
    Gr s st (n + 1) K' N' (mset es (ki (shelfAt st n)) (.x (.own id v 0 ((grp s st n (shelfAt st n)).length + 1)))) := by
  have e1 : grp s st (n + 1) (shelfAt st n) = grp s st n (shelfAt st n) ++ [(n : Int)] := by rw [grp_succ, if_pos ⟨ha, rfl⟩]
  have e2 : ∀ c, c ≠ shelfAt st n → grp s st (n + 1) c = grp s st n c := fun c hc => by rw [grp_succ, if_neg (fun h => hc h.2.symm)]; simp
  have old : ∀ c d, c ≠ shelfAt st n → mfind es (ki c) = some d → ∃ id' v', d = .x (.own id' v' 0 (grp s st n c).length) ∧ 4 ≤ id' ∧ id' < N ∧ id' ≠ id ∧ K id' = some (.row v' 1 (intC (grp s st n c))) := fun c d hc hd => by
    obtain ⟨id', v', rfl, h1, h2, h3⟩ := h.yes c d hd
    refine ⟨id', v', rfl, h1, h2, ?_, h3⟩
    rcases hnew with hnew | ⟨v2, l2, hnew⟩
    · omega
    · intro e
      subst e
      exact hc (h.inj c _ _ _ _ _ _ hd hnew)
  refine ⟨all_mset (ki_ok _) _ h.keys, fun c hc => ?_, fun c d hd => ?_, fun c c' i v1 v2 l1 l2 h1 h2 => ?_⟩
  · rw [mfind_ki h.keys] at hc
    split at hc
    · cases hc
    · rename_i hne; rw [e2 c hne]; exact h.no c hc
  · rw [mfind_ki h.keys] at hd
    split at hd
    · rename_i he
      cases hd
      subst he
      exact ⟨id, v, by rw [e1]; simp, hid, hidN, by rw [e1]; exact hrow⟩
    · rename_i hne
      obtain ⟨id', v', rfl, g1, g2, g3, g4⟩ := old c d hne hd
      exact ⟨id', v', by rw [e2 c hne], g1, by omega, by rw [e2 c hne, hK id' g1 g2 g3]; exact g4⟩
  · rw [mfind_ki h.keys] at h1 h2
    split at h1
    · rename_i he
      cases h1
      split at h2
      · rename_i he'; rw [he, he']
      · rename_i hne
        obtain ⟨id', v', hd, _, _, g3, _⟩ := old c' _ hne h2
        cases hd
        exact absurd rfl g3
    · rename_i hne
      split at h2
      · rename_i he'
        cases h2
        obtain ⟨id', v', hd, _, _, g3, _⟩ := old c _ hne h1
        cases hd
        exact absurd rfl g3
      · exact h.inj c c' i v1 v2 l1 l2 h1 h2

/-- What the search has found when it has seen the cells of S and the first m of a group. -/
def seenF (s : SiteD) (st : StateD) (i : Nat) (L l : List Int) (q : Nat) : Bool := ((actF s st q && decide (shelfAt st q ∈ L)) || decide ((q : Int) ∈ l)) && (decide (i < q) && clsF s i q)

theorem seen_step {i k n : Nat} {L l : List Int} (hk : k < n) : idxF (seenF s st i L (l ++ [(k : Int)])) n =
    if (i < k ∧ clsF s i k = true) ∧ (idxF (seenF s st i L l) n < 0 ∨ (k : Int) < idxF (seenF s st i L l) n) then (k : Int) else idxF (seenF s st i L l) n := by
  have e : ∀ q, q < n → seenF s st i L (l ++ [(k : Int)]) q = (seenF s st i L l q || (decide (q = k) && (decide (i < k) && clsF s i k))) := fun q _ => by
    unfold seenF
    have : decide ((q : Int) ∈ l ++ [(k : Int)]) = (decide ((q : Int) ∈ l) || decide (q = k)) := by
      simp only [List.mem_append, List.mem_singleton, Bool.decide_or, Int.natCast_inj]
    rw [this]
    by_cases e : q = k
    · subst e
      cases (actF s st q && decide (shelfAt st q ∈ L)) <;> cases decide ((q : Int) ∈ l) <;> simp
    · simp [e]
  rw [idxF_congr e, idxF_add hk]
  simp

theorem seen_group {i n : Nat} {L : List Int} {c : Int} : idxF (seenF s st i L (grp s st n c)) n = idxF (seenF s st i (L ++ [c]) []) n := by
  refine idxF_congr fun q hq => ?_
  unfold seenF
  have : decide ((q : Int) ∈ grp s st n c) = (actF s st q && decide (shelfAt st q = c)) := by
    rw [Bool.eq_iff_iff]
    simp only [decide_eq_true_eq, grp_mem, Bool.and_eq_true]
    constructor
    · rintro ⟨j, h1, h2, h3, h4⟩
      have : q = j := by omega
      subst this
      exact ⟨h2, h3⟩
    · rintro ⟨h1, h2⟩; exact ⟨q, hq, h1, h2, rfl⟩
  rw [this]
  cases actF s st q <;> simp

theorem seen_all {i n : Nat} : idxF (seenF s st i (sideOf s st i) []) n = idxF (badF s st i) n := idxF_congr fun q _ => by
  unfold seenF badF
  simp
end Go.Proofs.Yticflcpmlbaafaa.AL

/- Which shelves disturb each other: the walk. -/
set_option linter.unusedSimpArgs false
set_option linter.unusedVariables false
namespace Go.Proofs.Yticflcpmlbaafaa.AL
open Go
variable {s : SiteD} {st : StateD}

abbrev tAp (a b : Int) (ok : Bool) : T := .tup [.x (cV (.int .i64 a)), .x (cV (.int .i64 b)), .x (cV (.bool ok))]

/-- What the search leans on. -/
structure ApK (s : SiteD) (st : StateD) (es0 : List (Value × V)) (K : KMap) : Prop where
  k0 : K 0 = some (.row 0 9 [encSite s])
  k1 : K 1 = some (.row 0 6 [encState st])
  k2 : K 2 = some (.map es0)

structure ApI (s : SiteD) (st : StateD) (es0 : List (Value × V)) (x : Nat × KMap × Nat × List (Value × V)) : Prop where
  le : x.1 ≤ st.shelves.length
  n4 : 4 ≤ x.2.2.1
  base : ApK s st es0 x.2.1
  k3 : x.2.1 3 = some (.map x.2.2.2)
  gr : Gr s st x.1 x.2.1 x.2.2.1 x.2.2.2

def ap1 (st : StateD) (x : Nat × KMap × Nat × List (Value × V)) : St := ⟨upd (upd (upd (upd (upd (upd (upd emp 2 (tC (.ptr 0 0 0 0))) 3 (tC (.ptr 1 0 0 0))) 7 (tC (.map 2))) 8 (tC (.map 3))) 22 (tC (.r (.rd 1 (ints st.shelves))))) 23 (tI st.shelves.length)) 24 (tI x.1), x.2.1, x.2.2.1⟩

theorem cut7 {N0 N : Nat} {tm : Nat → Option T} {K : KMap} {d2 d3 d7 d8 d22 d23 d24 : T} {a b c : Nat} (h2 : tm 2 = some d2) (h3 : tm 3 = some d3) (h7 : tm 7 = some d7) (h8 : tm 8 = some d8) (h22 : tm a = some d22) (h23 : tm b = some d23) (h24 : tm c = some d24) :
    Weak N0 ⟨tm, K, N⟩ ⟨upd (upd (upd (upd (upd (upd (upd emp 2 d2) 3 d3) 7 d7) 8 d8) a d22) b d23) c d24, K, N⟩ := by
  refine Weak.cutTm fun t d ht => ?_
  simp only [upd, emp] at ht
  repeat (split at ht; · rename_i e; subst e; cases ht; assumption)
  cases ht

end Go.Proofs.Yticflcpmlbaafaa.AL

/- Which shelves disturb each other: the second loop. -/
set_option linter.unusedSimpArgs false
set_option linter.unusedVariables false
namespace Go.Proofs.Yticflcpmlbaafaa.AL
open Go
variable {s : SiteD} {st : StateD}

def TmCut (tm' tm : Nat → Option T) : Prop := ∀ t d, tm' t = some d → tm t = some d
theorem TmCut.nil {tm : Nat → Option T} : TmCut emp tm := fun t d h => by cases h
theorem TmCut.cons {tm' tm : Nat → Option T} {t : Nat} {d : T} (h1 : tm t = some d) (h : TmCut tm' tm) : TmCut (upd tm' t d) tm := fun k e hk => by
  unfold upd at hk
  split at hk
  · rename_i e2; subst e2; cases hk; exact h1
  · exact h k e hk

theorem TmCut.skip {tm' tm : Nat → Option T} {t : Nat} {d : T} (h : TmCut tm' tm) (h1 : tm' t = none) : TmCut tm' (upd tm t d) := fun k e hk => by
  unfold upd
  split
  · rename_i e2; subst e2; rw [h1] at hk; cases hk
  · exact h k e hk
theorem TmCut.get {tm' tm : Nat → Option T} {t : Nat} {d : T} (h : TmCut tm' tm) (h1 : tm' t = some d) : tm t = some d := h t d h1

/-- The innermost loop: the shelves of one group. -/
def tm4 (i n w lenL j id v len : Nat) (t49 : T) : Nat → Option T :=
  upd (upd (upd (upd (upd (upd (upd (upd (upd (upd (upd (upd (upd emp 2 (tC (.ptr 0 0 0 0))) 3 (tC (.ptr 1 0 0 0))) 7 (tC (.map 2))) 8 (tC (.map 3))) 11 (tI i)) 49 t49) 50 (tI n)) 51 (tI i)) 68 (tC (.own w 0 0 lenL))) 69 (tI lenL)) 70 (tI j)) 76 (tC (.own id v 0 len))) 77 (tI len)
def ap4 (i n w lenL j id v len : Nat) (t49 : T) (KK : KMap) (NN : Nat) (x : Nat × Int) : St := ⟨upd (upd (tm4 i n w lenL j id v len t49) 13 (tI x.2)) 78 (tI x.1), KK, NN⟩

end Go.Proofs.Yticflcpmlbaafaa.AL

/- Which shelves disturb each other: the cells beside one. -/
set_option linter.unusedSimpArgs false
set_option linter.unusedVariables false
namespace Go.Proofs.Yticflcpmlbaafaa.AL
open Go
variable {s : SiteD} {st : StateD}

def tm3 (i n w lenL : Nat) (t49 : T) : Nat → Option T :=
  upd (upd (upd (upd (upd (upd (upd (upd (upd (upd emp 2 (tC (.ptr 0 0 0 0))) 3 (tC (.ptr 1 0 0 0))) 7 (tC (.map 2))) 8 (tC (.map 3))) 11 (tI i)) 49 t49) 50 (tI n)) 51 (tI i)) 68 (tC (.own w 0 0 lenL))) 69 (tI lenL)
def ap3 (i n w lenL : Nat) (t49 : T) (KK : KMap) (NN : Nat) (x : Nat × Int) : St := ⟨upd (upd (tm3 i n w lenL t49) 13 (tI x.2)) 70 (tI x.1), KK, NN⟩

theorem intC_any_at {l : List Int} {t i : Nat} (h : i < l.length) : (intC l ++ List.replicate t [C.any]).getD i [] = [cV (.int .i64 (l.getD i 0))] := by
  rw [List.getD_eq_getElem?_getD, List.getElem?_append_left (by rw [intC_len]; exact h), ← List.getD_eq_getElem?_getD, intC_at h]

theorem getD_mem {l : List Int} {m : Nat} (h : m < l.length) : l.getD m 0 ∈ l := by
  rw [List.getD_eq_getElem?_getD, List.getElem?_eq_getElem h]; exact List.getElem_mem h

end Go.Proofs.Yticflcpmlbaafaa.AL

/- Which shelves disturb each other. -/
set_option linter.unusedSimpArgs false
set_option linter.unusedVariables false
namespace Go.Proofs.Yticflcpmlbaafaa.AL
open Go
variable {s : SiteD} {st : StateD}

structure ApJ (s : SiteD) (st : StateD) (K0 : KMap) (N0 : Nat) (x : Nat × KMap × Nat) : Prop where
  le : x.1 ≤ st.shelves.length
  n : N0 ≤ x.2.2
  k : ∀ j, j < N0 → x.2.1 j = K0 j
  no : ∀ j, j < x.1 → decide (0 ≤ bestF s st j) = false

def ap2 (st : StateD) (x : Nat × KMap × Nat) : St := ⟨upd (upd (upd (upd (upd (upd (upd emp 2 (tC (.ptr 0 0 0 0))) 3 (tC (.ptr 1 0 0 0))) 7 (tC (.map 2))) 8 (tC (.map 3))) 49 (tC (.r (.rd 1 (ints st.shelves))))) 50 (tI st.shelves.length)) 51 (tI x.1), x.2.1, x.2.2⟩

theorem Gr.grow {n : Nat} {K K' : KMap} {N N' : Nat} {es : List (Value × V)} (h : Gr s st n K N es) (hK : ∀ j, j < N → K' j = K j) (hN : N ≤ N') : Gr s st n K' N' es :=
  ⟨h.keys, h.no, fun c d hd => by obtain ⟨id, v, h1, h2, h3, h4⟩ := h.yes c d hd; exact ⟨id, v, h1, h2, by omega, by rw [hK id h3]; exact h4⟩, h.inj⟩

theorem joinK_old {N j : Nat} {K K1 : KMap} (h : j < N) : joinK N K K1 j = K j := by simp [joinK, h]

theorem sideL_len {f : FloorD} {c : Int} : (posL (sideL f c)).length ≤ 4 := by
  have := List.length_filter_le (fun c => !decide (c < 0)) (sideL f c)
  simpa [posL, sideL] using this

end Go.Proofs.Yticflcpmlbaafaa.AL

/- The maker of sites: its memory; kinds of cells. -/
set_option linter.unusedSimpArgs false
set_option linter.unusedVariables false
namespace Go.Proofs.Yticflcpmlbaafaa.AL
open Go

structure MK where
  f : FloorD
  zs : List ZoneD
  ap : List ApartD
  sh : List ShelfD
  rb : List StartD
  vz : Nat
  va : Nat
  vs : Nat
  vr : Nat
  eS : List (Value × V)
  eR : List (Value × V)
  eZ : List (Value × V)
  eN : List (Value × V)

def rowC {α : Type} (f : α → List R) (l : List α) : List (List C) := l.map fun x => (f x).map C.r
theorem rowC_len {α : Type} {f : α → List R} {l : List α} : (rowC f l).length = l.length := by simp [rowC]
theorem rowC_at {α : Type} [Inhabited α] {f : α → List R} {l : List α} {i : Nat} (h : i < l.length) : (rowC f l).getD i [] = (f (l.getD i default)).map C.r := by simp [rowC, h]
theorem rowC_app {α : Type} {f : α → List R} {l : List α} {x : α} : rowC f l ++ [(f x).map C.r] = rowC f (l ++ [x]) := by simp [rowC]
theorem rowC_bel {α : Type} {f : α → List R} {l : List α} {v n N : Nat} : (AObj.row v n (rowC f l)).below N = true := by
  simp [AObj.below, rowC, C.below]
theorem rowC_ren {α : Type} {f : α → List R} {l : List α} {v n : Nat} {ρ : Nat → Nat} : (AObj.row v n (rowC f l)).ren ρ = .row v n (rowC f l) := by
  simp [AObj.ren, rowC, C.ren]

def mkBox (m : MK) : List C := [cV (.int .i64 m.f.w), cV (.int .i64 m.f.h), cV (.int .i64 m.f.d), .r (.rd 1 (ints m.f.kind)), .r (.rd 1 (ints m.f.out)),
  .own 6 m.vz 0 m.zs.length, .own 7 m.va 0 m.ap.length, .own 8 m.vs 0 m.sh.length, .own 9 m.vr 0 m.rb.length, .map 1, .map 2, .map 3, .map 4, .map 5, cV nilS, cV nilS]

def mkK (m : MK) : KMap := upd (upd (upd (upd (upd (upd (upd (upd (upd (upd emp 0 (.row 0 16 [mkBox m])) 1 (.map m.eS)) 2 (.map m.eR)) 3 (.map m.eZ)) 4 (.map m.eN)) 5 (.map [])) 6 (.row m.vz 5 (rowC encZone m.zs))) 7 (.row m.va 2 (rowC encApart m.ap))) 8 (.row m.vs 2 (rowC encShelf m.sh))) 9 (.row m.vr 2 (rowC encStart m.rb))

/-- What the maps hold is right. -/
structure MI (m : MK) : Prop where
  zm : IMap m.eZ (fun c => if m.zs.any (fun z => decide (c ∈ z.cells)) = true then some vT else none)
  sm : IMap m.eS (fun c => ((List.range m.sh.length).find? fun i => decide ((m.sh.getD i default).cell = c)).map iV)
  rm : IMap m.eR (fun c => if m.rb.any (fun r => decide (r.cell = c)) = true then some vT else none)
  nm : m.eN.all (fun e => keyOk (.sc 1) e.1) = true ∧ m.eN.all (fun e => e.2.below 0) = true

theorem MI.wf {m : MK} (h : MI m) : ∀ i o, mkK m i = some o → i < 10 ∧ o.below 10 = true := by
  intro i o hk
  unfold mkK at hk
  simp only [upd, emp] at hk
  repeat (split at hk; · rename_i e; subst e; cases hk; exact ⟨by omega, by first | rfl | exact rowC_bel | exact below_map h.nm.2 | exact h.zm.bel | exact h.sm.bel | exact h.rm.bel⟩)
  cases hk

/-- A maker's memory stands in the caller's, from o on. -/
def HasM (o : Nat) (K : KMap) (m : MK) : Prop := ∀ i, i < 10 → K (o + i) = (mkK m i).map (AObj.ren (addN o))

theorem HasM.join {o : Nat} {K : KMap} {m : MK} : HasM o (joinK o K (mkK m)) m := fun i _ => joinK_up i
theorem HasM.self {m : MK} : HasM 0 (mkK m) m := fun i _ => by
  have e : addN 0 = fun i => i := by funext i; unfold addN; omega
  have e2 : AObj.ren (addN 0) = id := by rw [e]; exact funext AObj.ren_id
  rw [e2, Option.map_id, Nat.zero_add]; rfl
theorem HasM.mono {o : Nat} {K K' : KMap} {m : MK} (h : HasM o K m) (hk : ∀ j, o ≤ j → j < o + 10 → K' j = K j) : HasM o K' m := fun i hi => by rw [hk _ (by omega) (by omega)]; exact h i hi
theorem HasM.upd {o : Nat} {K : KMap} {m : MK} (h : HasM o K m) {j : Nat} (hj : o + 10 ≤ j) (x : AObj) : HasM o (upd K j x) m := h.mono fun k h1 h2 => upd_ne _ _ (by omega)

section
variable {P : Program} {K : KMap} {N o : Nat}

theorem addN_inj {o i j : Nat} (h : addN o i = addN o j) : i = j := by unfold addN at h; omega

/-- A method that leaves the maker as it is. -/
theorem PureK.callM {f : FuncId} {args args1 : List T} {Φ : T → Prop} {m : MK} (hm : MI m) (hs : PureK P f args1 (mkK m) 10 Φ) (hM : HasM o K m) (hN : o + 10 ≤ N) (ha : args = args1.map (T.ren (addN o))) (hb : ∀ a, a ∈ args1 → a.below 10 = true) {q : Bool} {R : T → KMap → Nat → Prop}
    (hR : ∀ d, Φ d → d.below 0 = true → R d K N) : CallW P q f args K N R :=
  PureK.call hs (addN o) (fun i hi => by unfold addN; omega) (fun i j _ _ h => addN_inj h) hm.wf (fun i hi => hM i hi) ha hb hR

/-- A method that changes the maker. -/
theorem Spec.callM {f : FuncId} {args args1 : List T} {Q : T → MK → Prop} {m : MK} (hm : MI m) (hs : Spec P f args1 (mkK m) 10 fun d K N => ∃ m', (MI m' ∧ Q d m') ∧ d.below 0 = true ∧ K = mkK m' ∧ N = 10) (hM : HasM o K m) (hN : o + 10 ≤ N) (ha : args = args1.map (T.ren (addN o))) (hb : ∀ a, a ∈ args1 → a.below 10 = true)
    {R : T → KMap → Nat → Prop} (hR : ∀ d m' K', MI m' → Q d m' → HasM o K' m' → (∀ j, (j < o ∨ o + 10 ≤ j) → j < N → K' j = K j) → R d K' N) : CallW P false f args K N R := by
  refine Spec.call hs (addN o) (fun i hi => by unfold addN; omega) (fun i j _ _ h => addN_inj h) (fun i ob hk => ⟨(hm.wf i ob hk).1, (hm.wf i ob hk).2, by
    have := hM i (hm.wf i ob hk).1
    rw [hk] at this
    exact this⟩) ha hb ?_
  rintro d K1 N1 ⟨m', ⟨hm', hQ⟩, hd, rfl, rfl⟩ _
  refine ⟨fun h => (by cases h), ?_⟩
  rw [T.ren_below hd, Nat.sub_self, Nat.add_zero]
  have hup : ∀ i, i < 10 → upTo (addN o) 10 N i = addN o i := fun i hi => upTo_lt hi
  refine hR d m' _ hm' hQ (fun i hi => ?_) (fun j hj hjN => ?_)
  · unfold joinS
    cases hd2 : downTo (addN o) 10 N (o + i) with
    | none =>
      obtain ⟨_, k2⟩ := downTo_none hd2
      exact absurd rfl (k2 i hi)
    | some k =>
      have hu := downTo_some hd2
      have hk : k = i := by
        by_cases hlt : k < 10
        · rw [hup k hlt] at hu; unfold addN at hu; omega
        · rw [upTo_ge hlt] at hu; omega
      subst hk
      simp only
      cases hmk : mkK m' k with
      | none => rfl
      | some ob =>
        simp only [Option.map_some]
        congr 1
        exact AObj.ren_congr (fun j hj => hup j hj) (hm'.wf k ob hmk).2
  · unfold joinS
    cases hd2 : downTo (addN o) 10 N j with
    | none => rfl
    | some k =>
      have hu := downTo_some hd2
      by_cases hlt : k < 10
      · rw [hup k hlt] at hu; unfold addN at hu; omega
      · rw [upTo_ge hlt] at hu; omega
end

def m0 (f : FloorD) : MK := ⟨f, [], [], [], [], 0, 0, 0, 0, [], [], [], []⟩
theorem MI.m0 {f : FloorD} : MI (m0 f) := ⟨IMap.nil.congr (by simp [AL.m0]), IMap.nil.congr (by simp [AL.m0]), IMap.nil.congr (by simp [AL.m0]), rfl, rfl⟩

theorem f30 (f : FloorD) : Spec Try.prog 30 [.v (.agg (encFloor f))] emp 0 fun d K N => d = tC (.ptr 0 0 0 0) ∧ K = mkK (m0 f) ∧ N = 10 := by
  refine Spec.of_awpW hm Try.func30 s30_ok (by simp [s30]) ?_
  simp only [go_sem, s30, encFloor, ↓reduceIte, reduceCtorEq, Nat.reduceEqDiff, Nat.reduceAdd, Nat.reduceSub, Nat.reduceMul, Nat.reduceLT, Nat.reduceLeDiff, Int.reduceToNat]
  refine ⟨_, Weak.trans (Weak.nilCell 6 5 16 5 _ rfl rfl) (Weak.trans (Weak.nilCell 6 6 16 2 _ rfl rfl) (Weak.trans (Weak.nilCell 6 7 16 2 _ rfl rfl) (Weak.nilCell 6 8 16 2 _ rfl rfl))), ?_⟩
  simp only [go_sem, ↓reduceIte, reduceCtorEq, Nat.reduceEqDiff, Nat.reduceAdd, Nat.reduceSub, Nat.reduceMul, Nat.reduceLT, Nat.reduceLeDiff, Int.reduceToNat]
  refine ⟨_, mkK (m0 f), 10, _, Back.list [6, 1, 2, 3, 4, 5, 7, 8, 9, 10] _ (by decide) (fun i o hk => ?_) rfl rfl, rfl, rfl, rfl⟩
  unfold mkK at hk
  simp only [upd, emp] at hk
  repeat (split at hk; · rename_i e; subst e; cases hk; exact ⟨by decide, rfl, rfl⟩)
  cases hk

variable {m : MK}

theorem mkK0 : mkK m 0 = some (.row 0 16 [mkBox m]) := rfl
theorem mkK1 : mkK m 1 = some (.map m.eS) := rfl
theorem mkK2 : mkK m 2 = some (.map m.eR) := rfl
theorem mkK3 : mkK m 3 = some (.map m.eZ) := rfl
theorem mkK4 : mkK m 4 = some (.map m.eN) := rfl
theorem mkK6 : mkK m 6 = some (.row m.vz 5 (rowC encZone m.zs)) := rfl
theorem mkK7 : mkK m 7 = some (.row m.va 2 (rowC encApart m.ap)) := rfl
theorem mkK8 : mkK m 8 = some (.row m.vs 2 (rowC encShelf m.sh)) := rfl
theorem mkK9 : mkK m 9 = some (.row m.vr 2 (rowC encStart m.rb)) := rfl

def kindM (f : FloorD) (c : Int) : Int := if 0 ≤ c ∧ c < f.kind.length then f.kind.getD c.toNat 0 else 0
def isM (f : FloorD) (c : Int) : Bool := decide (0 ≤ c) && decide (c < f.kind.length)

theorem f54 (hmi : MI m) (c : Int) : PureK Try.prog 54 [tC (.ptr 0 0 0 0), tI c] (mkK m) 10 (· = .tup [.x (cV (.int .i64 (kindM m.f c))), .x (cV (.bool (isM m.f c)))]) := by
  refine PureK.of_awp hm Try.func54 s54_ok (by simp [s54]) ?_
  simp only [go_sem, s54, ↓reduceIte, reduceCtorEq, Nat.reduceEqDiff, Nat.reduceAdd, Nat.reduceSub, Nat.reduceMul, Nat.reduceLT, Nat.reduceLeDiff, Int.reduceToNat]
  refine guardQ_at (fun h1 => ?_) (fun h1 => ?_)
  · simp only [decide_eq_false_iff_not] at h1
    simp only [go_sem, s54_4, s54_3, mkK0, mkBox, ints_len, ↓reduceIte, reduceCtorEq, Nat.reduceEqDiff, Nat.reduceAdd, Nat.reduceSub, Nat.reduceMul, Nat.reduceLT, Nat.reduceLeDiff, Int.reduceToNat]
    refine twoQ_at (fun h2 => ?_) (fun h2 => ?_)
    · simp only [decide_eq_true_eq] at h2
      simp only [go_sem, s54_2, ↓reduceIte, reduceCtorEq, Nat.reduceEqDiff, Nat.reduceAdd, Nat.reduceSub, Nat.reduceMul, Nat.reduceLT, Nat.reduceLeDiff, Int.reduceToNat]
      exact ⟨rfl, KLe.self hmi.wf, by rw [kindM, isM, if_neg (by omega), decide_eq_false (p := c < _) (by omega), Bool.and_false]⟩
    · simp only [decide_eq_false_iff_not] at h2
      have hc : c.toNat < m.f.kind.length := by omega
      simp only [go_sem, s54_1, mkK0, mkBox, ints_len, ints_at hc, ↓reduceIte, reduceCtorEq, Nat.reduceEqDiff, Nat.reduceAdd, Nat.reduceSub, Nat.reduceMul, Nat.reduceLT, Nat.reduceLeDiff, Int.reduceToNat]
      exact ⟨⟨by omega, by omega⟩, rfl, KLe.self hmi.wf, by rw [kindM, isM, if_pos (by omega), decide_eq_true (p := 0 ≤ c) (by omega), decide_eq_true (p := c < _) (by omega), Bool.and_true]⟩
  · simp only [Bool.not_false, decide_eq_true_eq] at h1
    simp only [go_sem, s54_4, s54_3, s54_2, ↓reduceIte, reduceCtorEq, Nat.reduceEqDiff, Nat.reduceAdd, Nat.reduceSub, Nat.reduceMul, Nat.reduceLT, Nat.reduceLeDiff, Int.reduceToNat]
    exact ⟨rfl, KLe.self hmi.wf, by rw [kindM, isM, if_neg (by omega), decide_eq_false (p := 0 ≤ c) (by omega), Bool.false_and]⟩

theorem asc_next {l : List Int} (h : ∀ j, 0 < j → j < l.length → l.getD (j - 1) 0 < l.getD j 0) : Asc l := by
  intro i j hij
  induction j with
  | zero => omega
  | succ j ih =>
    intro hj
    have h1 := h (j + 1) (by omega) hj
    rw [Nat.add_sub_cancel] at h1
    by_cases e : i = j
    · subst e; exact h1
    · exact Int.lt_trans (ih (by omega) (by omega)) h1

theorem f34 (hmi : MI m) (l : List Int) (hl : l.length ≤ 1000000) : PureK Try.prog 34 [tC (.ptr 0 0 0 0), tC (.r (.rd 1 (ints l)))] (mkK m) 10 (fun d => ∃ b, d = tB b ∧ (b = true → 0 < l.length ∧ Asc l ∧ ∀ i, i < l.length → isM m.f (l.getD i 0) = true)) := by
  refine PureK.of_awp hm Try.func34 s34_ok (by simp [s34]) ?_
  have no : T.below 0 (tB false) = true ∧ KLe 10 (mkK m) (mkK m) ∧ ∃ b, tB false = tB b ∧ (b = true → 0 < l.length ∧ Asc l ∧ ∀ i, i < l.length → isM m.f (l.getD i 0) = true) := ⟨rfl, KLe.self hmi.wf, false, rfl, fun h => by cases h⟩
  simp only [go_sem, s34, ints_len, ↓reduceIte, reduceCtorEq, Nat.reduceEqDiff, Nat.reduceAdd, Nat.reduceSub, Nat.reduceMul, Nat.reduceLT, Nat.reduceLeDiff, Int.reduceToNat]
  refine awp_loop (fun i : Nat => ⟨upd (upd (upd (upd (upd emp 0 (tC (.ptr 0 0 0 0))) 1 (tC (.r (.rd 1 (ints l))))) 9 (tC (.r (.rd 1 (ints l))))) 10 (tI l.length)) 11 (tI i), mkK m, 10⟩) (fun i => l.length - i)
    (fun i => i ≤ l.length ∧ ∀ j, j < i → isM m.f (l.getD j 0) = true ∧ (0 < j → l.getD (j - 1) 0 < l.getD j 0)) 0 ⟨Nat.zero_le _, fun j hj => by omega⟩ ?_ ?_
  · exact Weak.cutTm (by repeat (first | refine TmCut.cons rfl ?_ | refine TmCut.cons (by simp [upd, *]; done) ?_ | exact TmCut.nil))
  · intro i ⟨hi, hin⟩
    simp only [go_sem, s34_11, ↓reduceIte, reduceCtorEq, Nat.reduceEqDiff, Nat.reduceAdd, Nat.reduceSub, Nat.reduceMul, Nat.reduceLT, Nat.reduceLeDiff, Int.reduceToNat]
    refine twoQ_at (fun g => ?_) (fun g => ?_)
    · have hi' : i < l.length := by simpa using g
      simp only [go_sem, s34_10, ints_len, ints_at hi', Int.toNat_natCast, ↓reduceIte, reduceCtorEq, Nat.reduceEqDiff, Nat.reduceAdd, Nat.reduceSub, Nat.reduceMul, Nat.reduceLT, Nat.reduceLeDiff, Int.reduceToNat]
      refine ⟨⟨by omega, by omega⟩, PureK.callId (f54 hmi _) hmi.wf (fun a ha => ?_) ?_⟩
      · simp only [List.mem_cons, List.not_mem_nil, or_false] at ha
        rcases ha with rfl | rfl <;> rfl
      · rintro _ rfl _
        simp only [go_sem, s34_9, s34_8, ↓reduceIte, reduceCtorEq, Nat.reduceEqDiff, Nat.reduceAdd, Nat.reduceSub, Nat.reduceMul, Nat.reduceLT, Nat.reduceLeDiff, Int.reduceToNat]
        refine guardQ_at (fun g1 => ?_) (fun g1 => ?_)
        · simp only [Bool.not_eq_false'] at g1
          simp only [go_sem, s34_7, ↓reduceIte, reduceCtorEq, Nat.reduceEqDiff, Nat.reduceAdd, Nat.reduceSub, Nat.reduceMul, Nat.reduceLT, Nat.reduceLeDiff, Int.reduceToNat]
          refine guardQ_at (fun g2 => ?_) (fun g2 => ?_)
          · simp only [decide_eq_true_eq] at g2
            have hw : IntKind.i64.wrap ((i : Int) - 1) = ((i - 1 : Nat) : Int) := by rw [wrap_i (by omega) (by omega)]; omega
            have hi2 : i - 1 < l.length := by omega
            simp only [go_sem, s34_6, hw, ints_len, ints_at hi2, Int.toNat_natCast, ↓reduceIte, reduceCtorEq, Nat.reduceEqDiff, Nat.reduceAdd, Nat.reduceSub, Nat.reduceMul, Nat.reduceLT, Nat.reduceLeDiff, Int.reduceToNat]
            refine ⟨⟨by omega, by omega⟩, ?_⟩
            simp only [go_sem, s34_5, s34_4, ↓reduceIte, reduceCtorEq, Nat.reduceEqDiff, Nat.reduceAdd, Nat.reduceSub, Nat.reduceMul, Nat.reduceLT, Nat.reduceLeDiff, Int.reduceToNat]
            refine twoQ_at (fun g3 => ?_) (fun g3 => ?_)
            · simp only [go_sem, s34_3, ↓reduceIte, reduceCtorEq, Nat.reduceEqDiff, Nat.reduceAdd, Nat.reduceSub, Nat.reduceMul, Nat.reduceLT, Nat.reduceLeDiff, Int.reduceToNat]
              exact no
            · simp only [decide_eq_false_iff_not] at g3
              simp only [go_sem, s34_2, ↓reduceIte, reduceCtorEq, Nat.reduceEqDiff, Nat.reduceAdd, Nat.reduceSub, Nat.reduceMul, Nat.reduceLT, Nat.reduceLeDiff, Int.reduceToNat]
              refine ⟨i + 1, ⟨by omega, fun j hj => ?_⟩, by omega, ?_⟩
              · by_cases e : j = i
                · subst e; exact ⟨g1, fun _ => by omega⟩
                · exact hin j (by omega)
              · rw [wrap_i (by omega) (by omega)]
                exact Weak.cutTm (by repeat (first | refine TmCut.cons rfl ?_ | refine TmCut.cons (by simp [upd, *]; done) ?_ | exact TmCut.nil))
          · simp only [Bool.not_true, decide_eq_false_iff_not] at g2
            simp only [go_sem, s34_6, s34_5, s34_4, s34_2, ↓reduceIte, reduceCtorEq, Nat.reduceEqDiff, Nat.reduceAdd, Nat.reduceSub, Nat.reduceMul, Nat.reduceLT, Nat.reduceLeDiff, Int.reduceToNat]
            refine ⟨i + 1, ⟨by omega, fun j hj => ?_⟩, by omega, ?_⟩
            · by_cases e : j = i
              · subst e; exact ⟨g1, fun h => by omega⟩
              · exact hin j (by omega)
            · rw [wrap_i (by omega) (by omega)]
              exact Weak.cutTm (by repeat (first | refine TmCut.cons rfl ?_ | refine TmCut.cons (by simp [upd, *]; done) ?_ | exact TmCut.nil))
        · simp only [go_sem, s34_7, s34_6, s34_5, s34_4, s34_3, ↓reduceIte, reduceCtorEq, Nat.reduceEqDiff, Nat.reduceAdd, Nat.reduceSub, Nat.reduceMul, Nat.reduceLT, Nat.reduceLeDiff, Int.reduceToNat]
          exact no
    · have hi' : i = l.length := by simp at g; omega
      subst hi'
      simp only [go_sem, s34_1, ints_len, ↓reduceIte, reduceCtorEq, Nat.reduceEqDiff, Nat.reduceAdd, Nat.reduceSub, Nat.reduceMul, Nat.reduceLT, Nat.reduceLeDiff, Int.reduceToNat]
      refine ⟨rfl, KLe.self hmi.wf, _, rfl, fun h => ⟨by simp at h; omega, asc_next (fun j h1 h2 => (hin j h2).2 h1), fun j hj => (hin j hj).1⟩⟩
end Go.Proofs.Yticflcpmlbaafaa.AL

/- The maker of sites: zones. -/
set_option linter.unusedSimpArgs false
set_option linter.unusedVariables false
namespace Go.Proofs.Yticflcpmlbaafaa.AL
open Go
variable {m : MK}

theorem ks_ok (a : ByteArray) : keyOk (.sc 1) (Value.string a) = true := rfl

theorem mkK_eZ (es : List (Value × V)) : upd (mkK m) 3 (.map es) = mkK { m with eZ := es } := by
  funext i
  by_cases h : i = 3
  · subst h; rfl
  · rw [upd_ne _ _ h]
    simp only [mkK, upd, if_neg h, mkBox]
theorem mkK_box {es : List (Value × V)} {b : AObj} : upd (upd (mkK m) 10 b) 3 (.map es) = upd (mkK { m with eZ := es }) 10 b := by
  rw [upd_comm _ _ _ (by decide), mkK_eZ]

/-- What adding a zone asks for. -/
structure AddZ (m : MK) (z : ZoneD) : Prop where
  kind : ∀ i, i < z.cells.length → zonedK (kindM m.f (z.cells.getD i 0)) = true
  free : ∀ i, i < z.cells.length → m.zs.any (fun x => decide (z.cells.getD i 0 ∈ x.cells)) = false

theorem zm_step {zs : List ZoneD} {l : List Int} {i : Nat} (hi : i < l.length) (n : Int) : (if n = l.getD i 0 then some vT else if (zs.any (fun x => decide (n ∈ x.cells)) || decide (n ∈ l.take i)) = true then some vT else none) = if (zs.any (fun x => decide (n ∈ x.cells)) || decide (n ∈ l.take (i + 1))) = true then some vT else none := by
  have h1 : l[i]? = some (l.getD i 0) := by simp [hi]
  have h2 : (n ∈ l.take (i + 1)) = (n ∈ l.take i ∨ n = l.getD i 0) := by
    rw [List.take_add_one, h1]
    simp
  by_cases e : n = l.getD i 0
  · simp only [e, if_true]
    rw [if_pos]
    simp only [Bool.or_eq_true, decide_eq_true_eq]
    exact .inr (by rw [List.take_add_one, h1]; simp)
  · rw [if_neg e]
    have h3 : decide (n ∈ l.take (i + 1)) = decide (n ∈ l.take i) := by
      rw [decide_eq_decide, h2]
      exact ⟨fun h => h.resolve_right e, .inl⟩
    rw [h3]

/-- What a method that adds something hands back. -/
def MakeQ (A : Int → MK → Prop) : T → KMap → Nat → Prop := fun d K N => ∃ m', (MI m' ∧ ∃ e, d = tI e ∧ A e m') ∧ d.below 0 = true ∧ K = mkK m' ∧ N = 10

theorem make_ret {m' : MK} (hmi : MI m') {A : Int → MK → Prop} {e : Int} (hA : A e m') {tm : Nat → Option T} {K : KMap} {N : Nat} (hN : 10 ≤ N) (hK : ∀ i, i < 10 → K i = mkK m' i) :
    ∃ d' K' N' τ, Back 10 ⟨tm, K, N⟩ (tI e) d' K' N' τ ∧ MakeQ A d' K' N' := by
  refine ⟨_, mkK m', 10, _, Back.keep hN rfl (fun i o hk => ?_), m', ⟨hmi, e, rfl, hA⟩, rfl, rfl, rfl⟩
  obtain ⟨h1, h2⟩ := hmi.wf i o hk
  exact ⟨h1, h2, (hK i h1).trans hk⟩

def ZoneA (m : MK) (z : ZoneD) (e : Int) (m' : MK) : Prop := e = 0 → AddZ m z ∧ ∃ es en, m' = { m with zs := m.zs ++ [z], vz := m.vz + 1, eZ := es, eN := en }

theorem f35 (hmi : MI m) (z : ZoneD) (hl : z.cells.length ≤ 1000000) (hz : m.zs.length ≤ 1000000) :
    Spec Try.prog 35 [tC (.ptr 0 0 0 0), .v (.agg ((encZone z).map C.r))] (mkK m) 10 (MakeQ (ZoneA m z)) := by
  refine Spec.of_awp hm Try.func35 s35_ok (by simp [s35]) ?_
  cases hn : mfind m.eN (.string z.name) with
  | some d0 =>
    simp only [go_sem, s35, s35_17, encZone, mkK0, mkBox, mkK4, hmi.nm.1, ks_ok, hn, Option.isSome_some, ↓reduceIte, reduceCtorEq, Nat.reduceEqDiff, Nat.reduceAdd, Nat.reduceSub, Nat.reduceMul, Nat.reduceLT, Nat.reduceLeDiff, Int.reduceToNat]
    exact make_ret hmi (fun h => by cases h) (by decide) (fun i hi => upd_ne _ _ (by omega))
  | none =>
    simp only [go_sem, s35, s35_16, encZone, mkK0, mkBox, mkK4, hmi.nm.1, ks_ok, hn, Option.isSome_none, ↓reduceIte, reduceCtorEq, Nat.reduceEqDiff, Nat.reduceAdd, Nat.reduceSub, Nat.reduceMul, Nat.reduceLT, Nat.reduceLeDiff, Int.reduceToNat]
    refine twoQ_at (fun g0 => ?_) (fun g0 => ?_)
    · simp only [go_sem, s35_15, ↓reduceIte, reduceCtorEq, Nat.reduceEqDiff, Nat.reduceAdd, Nat.reduceSub, Nat.reduceMul, Nat.reduceLT, Nat.reduceLeDiff, Int.reduceToNat]
      exact make_ret hmi (fun h => by cases h) (by decide) (fun i hi => upd_ne _ _ (by omega))
    · simp only [go_sem, s35_14, ints_len, ↓reduceIte, reduceCtorEq, Nat.reduceEqDiff, Nat.reduceAdd, Nat.reduceSub, Nat.reduceMul, Nat.reduceLT, Nat.reduceLeDiff, Int.reduceToNat]
      refine awp_loop (fun i : Nat => ⟨upd (upd (upd (upd (upd emp 0 (tC (.ptr 0 0 0 0))) 3 (tC (.ptr 10 0 0 0))) 32 (tC (.r (.rd 1 (ints z.cells))))) 33 (tI z.cells.length)) 34 (tI i), upd (mkK m) 10 (.row 0 5 [(encZone z).map C.r]), 11⟩) (fun i => z.cells.length - i)
        (fun i => i ≤ z.cells.length ∧ ∀ j, j < i → zonedK (kindM m.f (z.cells.getD j 0)) = true ∧ m.zs.any (fun x => decide (z.cells.getD j 0 ∈ x.cells)) = false) 0 ⟨Nat.zero_le _, fun j hj => by omega⟩ ?_ ?_
      · exact Weak.cutTm (by repeat (first | refine TmCut.cons rfl ?_ | refine TmCut.cons (by simp [upd, *]; done) ?_ | exact TmCut.nil))
      · intro i ⟨hi, hin⟩
        simp only [go_sem, s35_13, ↓reduceIte, reduceCtorEq, Nat.reduceEqDiff, Nat.reduceAdd, Nat.reduceSub, Nat.reduceMul, Nat.reduceLT, Nat.reduceLeDiff, Int.reduceToNat]
        refine twoQ_at (fun g => ?_) (fun g => ?_)
        · have hi' : i < z.cells.length := by simpa using g
          simp only [go_sem, s35_12, ints_len, ints_at hi', Int.toNat_natCast, ↓reduceIte, reduceCtorEq, Nat.reduceEqDiff, Nat.reduceAdd, Nat.reduceSub, Nat.reduceMul, Nat.reduceLT, Nat.reduceLeDiff, Int.reduceToNat]
          refine ⟨⟨by omega, by omega⟩, PureK.callM hmi (f54 hmi (z.cells.getD i 0)) (HasM.self.upd (by decide) _) (by decide) rfl (fun a ha => ?_) ?_⟩
          · simp only [List.mem_cons, List.not_mem_nil, or_false] at ha
            rcases ha with rfl | rfl <;> rfl
          · rintro _ rfl _
            simp only [go_sem, s35_11, s35_10, ↓reduceIte, reduceCtorEq, Nat.reduceEqDiff, Nat.reduceAdd, Nat.reduceSub, Nat.reduceMul, Nat.reduceLT, Nat.reduceLeDiff, Int.reduceToNat]
            refine Pure.callS (f55 _) rfl ?_
            simp only [go_sem, s35_9, ↓reduceIte, reduceCtorEq, Nat.reduceEqDiff, Nat.reduceAdd, Nat.reduceSub, Nat.reduceMul, Nat.reduceLT, Nat.reduceLeDiff, Int.reduceToNat]
            refine guardQ_at (fun g1 => ?_) (fun g1 => ?_)
            · simp only [Bool.not_eq_false'] at g1
              have hf : (mfind m.eZ (Value.int .i64 (z.cells.getD i 0))).getD (V.x (C.r (R.val (Value.bool false)))) = V.x (C.r (R.val (Value.bool (m.zs.any (fun x => decide (z.cells.getD i 0 ∈ x.cells)))))) := by
                have := hmi.zm.2.2 (z.cells.getD i 0)
                unfold ki at this
                rw [this]
                dsimp only
                cases m.zs.any (fun x => decide (z.cells.getD i 0 ∈ x.cells)) <;> rfl
              simp only [go_sem, s35_8, mkK0, mkBox, mkK3, hmi.zm.1, ki_ok', hf, ↓reduceIte, reduceCtorEq, Nat.reduceEqDiff, Nat.reduceAdd, Nat.reduceSub, Nat.reduceMul, Nat.reduceLT, Nat.reduceLeDiff, Int.reduceToNat]
              simp only [go_sem, s35_7, ↓reduceIte, reduceCtorEq, Nat.reduceEqDiff, Nat.reduceAdd, Nat.reduceSub, Nat.reduceMul, Nat.reduceLT, Nat.reduceLeDiff, Int.reduceToNat]
              refine twoQ_at (fun g2 => ?_) (fun g2 => ?_)
              · simp only [go_sem, s35_6, ↓reduceIte, reduceCtorEq, Nat.reduceEqDiff, Nat.reduceAdd, Nat.reduceSub, Nat.reduceMul, Nat.reduceLT, Nat.reduceLeDiff, Int.reduceToNat]
                exact make_ret hmi (fun h => by cases h) (by decide) (fun i hi => upd_ne _ _ (by omega))
              · simp only [go_sem, s35_5, ↓reduceIte, reduceCtorEq, Nat.reduceEqDiff, Nat.reduceAdd, Nat.reduceSub, Nat.reduceMul, Nat.reduceLT, Nat.reduceLeDiff, Int.reduceToNat]
                refine ⟨i + 1, ⟨by omega, fun j hj => ?_⟩, by omega, ?_⟩
                · by_cases e : j = i
                  · subst e; exact ⟨g1, g2⟩
                  · exact hin j (by omega)
                · rw [wrap_i (by omega) (by omega)]
                  exact Weak.cutTm (by repeat (first | refine TmCut.cons rfl ?_ | refine TmCut.cons (by simp [upd, *]; done) ?_ | exact TmCut.nil))
            · simp only [go_sem, s35_8, s35_7, s35_6, ↓reduceIte, reduceCtorEq, Nat.reduceEqDiff, Nat.reduceAdd, Nat.reduceSub, Nat.reduceMul, Nat.reduceLT, Nat.reduceLeDiff, Int.reduceToNat]
              exact make_ret hmi (fun h => by cases h) (by decide) (fun i hi => upd_ne _ _ (by omega))
        · have hi' : i = z.cells.length := by simp at g; omega
          subst hi'
          have hadd : AddZ m z := ⟨fun j hj => (hin j hj).1, fun j hj => (hin j hj).2⟩
          simp only [go_sem, s35_4, encZone, ints_len, ↓reduceIte, reduceCtorEq, Nat.reduceEqDiff, Nat.reduceAdd, Nat.reduceSub, Nat.reduceMul, Nat.reduceLT, Nat.reduceLeDiff, Int.reduceToNat]
          refine awp_loop (fun x : Nat × List (Value × V) => ⟨upd (upd (upd (upd (upd emp 0 (tC (.ptr 0 0 0 0))) 3 (tC (.ptr 10 0 0 0))) 57 (tC (.r (.rd 1 (ints z.cells))))) 58 (tI z.cells.length)) 59 (tI x.1), upd (mkK { m with eZ := x.2 }) 10 (.row 0 5 [(encZone z).map C.r]), 11⟩) (fun x => z.cells.length - x.1)
            (fun x => x.1 ≤ z.cells.length ∧ IMap x.2 (fun n => if (m.zs.any (fun y => decide (n ∈ y.cells)) || decide (n ∈ z.cells.take x.1)) = true then some vT else none)) (0, m.eZ) ⟨Nat.zero_le _, hmi.zm.congr (fun n => by simp)⟩ ?_ ?_
          · exact Weak.cutTm (by repeat (first | refine TmCut.cons rfl ?_ | refine TmCut.cons (by simp [upd, *]; done) ?_ | exact TmCut.nil))
          · rintro ⟨i, es⟩ ⟨hi2, hes⟩
            simp only at hi2 hes
            simp only [go_sem, s35_3, ↓reduceIte, reduceCtorEq, Nat.reduceEqDiff, Nat.reduceAdd, Nat.reduceSub, Nat.reduceMul, Nat.reduceLT, Nat.reduceLeDiff, Int.reduceToNat]
            refine twoQ_at (fun g2 => ?_) (fun g2 => ?_)
            · have hi' : i < z.cells.length := by simpa using g2
              simp only [go_sem, s35_2, mkK0, mkBox, mkK3, ints_len, ints_at hi', Int.toNat_natCast, ki_ok', hes.1, ↓reduceIte, reduceCtorEq, Nat.reduceEqDiff, Nat.reduceAdd, Nat.reduceSub, Nat.reduceMul, Nat.reduceLT, Nat.reduceLeDiff, Int.reduceToNat]
              rw [mkK_box]
              refine ⟨⟨by omega, by omega⟩, (i + 1, _), ⟨by simp only; omega, (hes.set (z.cells.getD i 0) vT rfl).congr (zm_step hi')⟩, by simp only; omega, ?_⟩
              rw [wrap_i (by omega) (by omega)]
              exact Weak.cutTm (by repeat (first | refine TmCut.cons rfl ?_ | refine TmCut.cons (by simp [upd, *]; done) ?_ | exact TmCut.nil))
            · have hi' : i = z.cells.length := by simp at g2; omega
              subst hi'
              simp only [go_sem, s35_1, mkK0, mkBox, mkK4, mkK6, hmi.nm.1, ks_ok, encZone, evAppend, srcRows, rowsOf, rowC_len, ↓reduceIte, reduceCtorEq, Nat.reduceEqDiff, Nat.reduceAdd, Nat.reduceSub, Nat.reduceMul, Nat.reduceLT, Nat.reduceLeDiff, Int.reduceToNat]
              have e1 : (m.zs ++ [z]).length = m.zs.length + 1 := by simp
              refine ⟨by omega, make_ret (m' := { m with zs := m.zs ++ [z], vz := m.vz + 1, eZ := es, eN := mset m.eN (.string z.name) (.x (cV (.int .i64 m.zs.length))) }) ⟨hes.congr (fun n => ?_), hmi.sm, hmi.rm, all_mset (ks_ok _) _ hmi.nm.1, all_mset rfl _ hmi.nm.2⟩ (fun _ => ⟨hadd, es, _, rfl⟩) (by decide) (fun i hi => ?_)⟩
              · rw [List.take_length]
                simp
              · have hc : i = 0 ∨ i = 1 ∨ i = 2 ∨ i = 3 ∨ i = 4 ∨ i = 5 ∨ i = 6 ∨ i = 7 ∨ i = 8 ∨ i = 9 := by omega
                rcases hc with rfl | rfl | rfl | rfl | rfl | rfl | rfl | rfl | rfl | rfl
                · rw [mkK0]; simp only [mkBox, e1]; rfl
                · rfl
                · rfl
                · rfl
                · rfl
                · rfl
                · rw [mkK6]; simp only [← rowC_app]; rfl
                · rfl
                · rfl
                · rfl
end Go.Proofs.Yticflcpmlbaafaa.AL

/- The maker of sites: rules, shelves, robots. -/
set_option linter.unusedSimpArgs false
set_option linter.unusedVariables false
namespace Go.Proofs.Yticflcpmlbaafaa.AL
open Go
variable {m : MK}

theorem rowC_cast {α : Type} [Inhabited α] {f : α → List R} {n : Nat} {K : KMap} {id v : Nat} {l : List α} (hf : ∀ x, (f x).length = n) (hK : K id = some (.row v n (rowC f l))) : CastC K (.own id v 0 l.length) (.r (.rd n (l.map f))) := by
  refine .inr ⟨_, rfl, .own hK (by rw [rowC_len]; omega) (by simp) (fun y hy => ?_) (fun i k c r hi hc hr => ?_)⟩
  · simp only [List.mem_map] at hy
    obtain ⟨x, _, rfl⟩ := hy
    exact hf x
  · rw [Nat.zero_add, rowC_at hi] at hc
    rw [rows_at hi] at hr
    simp only [List.getElem?_map, Option.map_eq_some_iff] at hc
    obtain ⟨r', h1, rfl⟩ := hc
    rw [hr] at h1
    cases h1
    exact .r

def ApartA (m : MK) (x : ApartD) (e : Int) (m' : MK) : Prop := e = 0 → apartL m.ap x.a x.b = false ∧ m' = { m with ap := m.ap ++ [x], va := m.va + 1 }

theorem f36 (hmi : MI m) (x : ApartD) (hl : m.ap.length ≤ 1000000) : Spec Try.prog 36 [tC (.ptr 0 0 0 0), .v (.agg ((encApart x).map C.r))] (mkK m) 10 (MakeQ (ApartA m x)) := by
  refine Spec.of_awp hm Try.func36 s36_ok (by simp [s36]) ?_
  simp only [go_sem, s36, encApart, ↓reduceIte, reduceCtorEq, Nat.reduceEqDiff, Nat.reduceAdd, Nat.reduceSub, Nat.reduceMul, Nat.reduceLT, Nat.reduceLeDiff, Int.reduceToNat]
  refine Pure.call (f31 x.a) (liftA_refl rfl) ?_
  rintro _ ⟨b, rfl, _⟩ _
  simp only [go_sem, s36_10, ↓reduceIte, reduceCtorEq, Nat.reduceEqDiff, Nat.reduceAdd, Nat.reduceSub, Nat.reduceMul, Nat.reduceLT, Nat.reduceLeDiff, Int.reduceToNat]
  have main : ∀ {tm : Nat → Option T}, tm 0 = some (tC (.ptr 0 0 0 0)) → tm 3 = some (tC (.ptr 10 0 0 0)) → awp Try.prog 10 s36_5 ⟨tm, upd (mkK m) 10 (.row 0 2 [[.r (.val (.string x.a)), .r (.val (.string x.b))]]), 11⟩ (retQ 10 [SRes.tmp 4] (MakeQ (ApartA m x))) := by
    intro tm h0 h3
    simp only [go_sem, s36_5, h0, h3, mkK0, mkBox, ↓reduceIte, reduceCtorEq, Nat.reduceEqDiff, Nat.reduceAdd, Nat.reduceSub, Nat.reduceMul, Nat.reduceLT, Nat.reduceLeDiff, Int.reduceToNat]
    refine Spec.cast (f56 m.ap x.a x.b (by omega)) ?_ ?_ ?_
    · exact ⟨rowC_cast (fun x => rfl) rfl, .inl ⟨rfl, rfl⟩, .inl ⟨rfl, rfl⟩, trivial⟩
    · rintro d K1 N1 ⟨rfl, h2, rfl, rfl⟩
      exact ⟨rfl, fun id o h => by cases h⟩
    · rintro d K1 N1 ⟨rfl, h2, rfl, rfl⟩
      rw [joinK_nil (fun i hi => by rw [upd_ne _ _ (by omega)]; cases h : mkK m i with | none => rfl | some o => exact absurd (hmi.wf i o h).1 (by omega))]
      simp only [go_sem, s36_4, s36_3, T.ren, V.ren, C.ren, ↓reduceIte, reduceCtorEq, Nat.reduceEqDiff, Nat.reduceAdd, Nat.reduceSub, Nat.reduceMul, Nat.reduceLT, Nat.reduceLeDiff, Int.reduceToNat]
      refine twoQ_at (fun g => ?_) (fun g => ?_)
      · simp only [go_sem, s36_2, ↓reduceIte, reduceCtorEq, Nat.reduceEqDiff, Nat.reduceAdd, Nat.reduceSub, Nat.reduceMul, Nat.reduceLT, Nat.reduceLeDiff, Int.reduceToNat]
        exact make_ret hmi (fun h => by cases h) (by decide) (fun i hi => upd_ne _ _ (by omega))
      · simp only [go_sem, s36_1, h0, h3, mkK0, mkBox, mkK7, evAppend, srcRows, rowsOf, rowC_len, ↓reduceIte, reduceCtorEq, Nat.reduceEqDiff, Nat.reduceAdd, Nat.reduceSub, Nat.reduceMul, Nat.reduceLT, Nat.reduceLeDiff, Int.reduceToNat]
        have e1 : (m.ap ++ [x]).length = m.ap.length + 1 := by simp
        refine ⟨by omega, make_ret (m' := { m with ap := m.ap ++ [x], va := m.va + 1 }) ⟨hmi.zm, hmi.sm, hmi.rm, hmi.nm⟩ (fun _ => ⟨g, rfl⟩) (by decide) (fun i hi => ?_)⟩
        have hc : i = 0 ∨ i = 1 ∨ i = 2 ∨ i = 3 ∨ i = 4 ∨ i = 5 ∨ i = 6 ∨ i = 7 ∨ i = 8 ∨ i = 9 := by omega
        rcases hc with rfl | rfl | rfl | rfl | rfl | rfl | rfl | rfl | rfl | rfl
        · rw [mkK0]; simp only [mkBox, e1]; rfl
        · rfl
        · rfl
        · rfl
        · rfl
        · rfl
        · rfl
        · rw [mkK7]; simp only [← rowC_app]; rfl
        · rfl
        · rfl
  have bad : ∀ {tm : Nat → Option T}, tm 14 = some (tB true) → awp Try.prog 10 s36_7 ⟨tm, upd (mkK m) 10 (.row 0 2 [[.r (.val (.string x.a)), .r (.val (.string x.b))]]), 11⟩ (seqQ (fun s => awp Try.prog 10 s36_5 s (retQ 10 [SRes.tmp 4] (MakeQ (ApartA m x)))) (retQ 10 [SRes.tmp 4] (MakeQ (ApartA m x)))) := by
    intro tm h
    simp only [go_sem, s36_7, s36_6, h, ↓reduceIte, reduceCtorEq, Nat.reduceEqDiff, Nat.reduceAdd, Nat.reduceSub, Nat.reduceMul, Nat.reduceLT, Nat.reduceLeDiff, Int.reduceToNat]
    exact make_ret hmi (fun h => by cases h) (by decide) (fun i hi => upd_ne _ _ (by omega))
  refine guardQ_at (fun g1 => ?_) (fun g1 => ?_)
  · simp only [go_sem, s36_9, ↓reduceIte, reduceCtorEq, Nat.reduceEqDiff, Nat.reduceAdd, Nat.reduceSub, Nat.reduceMul, Nat.reduceLT, Nat.reduceLeDiff, Int.reduceToNat]
    refine Pure.call (f31 x.b) (liftA_refl rfl) ?_
    rintro _ ⟨b2, rfl, _⟩ _
    cases b2 with
    | true =>
      simp only [go_sem, s36_8, s36_7, ↓reduceIte, reduceCtorEq, Nat.reduceEqDiff, Nat.reduceAdd, Nat.reduceSub, Nat.reduceMul, Nat.reduceLT, Nat.reduceLeDiff, Int.reduceToNat]
      exact main rfl rfl
    | false =>
      simp only [go_sem, s36_8, ↓reduceIte, reduceCtorEq, Nat.reduceEqDiff, Nat.reduceAdd, Nat.reduceSub, Nat.reduceMul, Nat.reduceLT, Nat.reduceLeDiff, Int.reduceToNat]
      exact bad rfl
  · simp only [go_sem, s36_9, s36_8, ↓reduceIte, reduceCtorEq, Nat.reduceEqDiff, Nat.reduceAdd, Nat.reduceSub, Nat.reduceMul, Nat.reduceLT, Nat.reduceLeDiff, Int.reduceToNat]
    exact bad rfl

def ShelfA (m : MK) (x : ShelfD) (e : Int) (m' : MK) : Prop := e = 0 → isM m.f x.cell = true ∧ standsK (kindM m.f x.cell) = true ∧ (∀ i, i < m.sh.length → (m.sh.getD i default).cell ≠ x.cell) ∧ ∃ es, m' = { m with sh := m.sh ++ [x], vs := m.vs + 1, eS := es }

theorem getD_app_lt {α : Type} [Inhabited α] {l : List α} {x : α} {i : Nat} (h : i < l.length) : (l ++ [x]).getD i default = l.getD i default := by
  simp only [List.getD_eq_getElem?_getD, List.getElem?_append_left h]
theorem getD_app_eq {α : Type} [Inhabited α] {l : List α} {x : α} : (l ++ [x]).getD l.length default = x := by
  simp [List.getD_eq_getElem?_getD]

theorem find_congr {α : Type} {p q : α → Bool} : ∀ {l : List α}, (∀ a, a ∈ l → p a = q a) → l.find? p = l.find? q
  | [], _ => rfl
  | a :: l, h => by
    rw [List.find?_cons, List.find?_cons, h a (by simp), find_congr (l := l) (fun b hb => h b (by simp [hb]))]

theorem find_app {α : Type} [Inhabited α] {l : List α} {x : α} {p : α → Bool} : ((List.range (l ++ [x]).length).find? fun i => p ((l ++ [x]).getD i default)) = ((List.range l.length).find? fun i => p (l.getD i default)).or (if p x then some l.length else none) := by
  rw [List.length_append, List.length_singleton, List.range_succ, List.find?_append]
  have e : (List.range l.length).find? (fun i => p ((l ++ [x]).getD i default)) = (List.range l.length).find? (fun i => p (l.getD i default)) := by
    refine find_congr fun i hi => ?_
    rw [getD_app_lt (by simpa using hi)]
  rw [e]
  congr 1
  simp only [List.find?_cons, getD_app_eq, List.find?_nil]
  cases p x <;> rfl

theorem f37 (hmi : MI m) (x : ShelfD) (hl : m.sh.length ≤ 1000000) : Spec Try.prog 37 [tC (.ptr 0 0 0 0), .v (.agg ((encShelf x).map C.r))] (mkK m) 10 (MakeQ (ShelfA m x)) := by
  refine Spec.of_awp hm Try.func37 s37_ok (by simp [s37]) ?_
  simp only [go_sem, s37, encShelf, ↓reduceIte, reduceCtorEq, Nat.reduceEqDiff, Nat.reduceAdd, Nat.reduceSub, Nat.reduceMul, Nat.reduceLT, Nat.reduceLeDiff, Int.reduceToNat]
  have main : ∀ {tm : Nat → Option T}, tm 0 = some (tC (.ptr 0 0 0 0)) → tm 3 = some (tC (.ptr 10 0 0 0)) → awp Try.prog 10 s37_13 ⟨tm, upd (mkK m) 10 (.row 0 2 [[.r (.val (.int .i64 x.cell)), .r (.val (.string x.cls))]]), 11⟩ (retQ 10 [SRes.tmp 4] (MakeQ (ShelfA m x))) := by
    intro tm h0 h3
    simp only [go_sem, s37_13, h0, h3, ↓reduceIte, reduceCtorEq, Nat.reduceEqDiff, Nat.reduceAdd, Nat.reduceSub, Nat.reduceMul, Nat.reduceLT, Nat.reduceLeDiff, Int.reduceToNat]
    refine PureK.callM hmi (f54 hmi x.cell) (HasM.self.upd (by decide) _) (by decide) rfl (fun a ha => ?_) ?_
    · simp only [List.mem_cons, List.not_mem_nil, or_false] at ha
      rcases ha with rfl | rfl <;> rfl
    rintro _ rfl _
    simp only [go_sem, s37_12, s37_11, ↓reduceIte, reduceCtorEq, Nat.reduceEqDiff, Nat.reduceAdd, Nat.reduceSub, Nat.reduceMul, Nat.reduceLT, Nat.reduceLeDiff, Int.reduceToNat]
    refine twoQ_at (fun g1 => ?_) (fun g1 => ?_)
    · simp only [go_sem, s37_10, ↓reduceIte, reduceCtorEq, Nat.reduceEqDiff, Nat.reduceAdd, Nat.reduceSub, Nat.reduceMul, Nat.reduceLT, Nat.reduceLeDiff, Int.reduceToNat]
      exact make_ret hmi (fun h => by cases h) (by decide) (fun i hi => upd_ne _ _ (by omega))
    simp only [Bool.not_eq_false'] at g1
    simp only [go_sem, s37_9, ↓reduceIte, reduceCtorEq, Nat.reduceEqDiff, Nat.reduceAdd, Nat.reduceSub, Nat.reduceMul, Nat.reduceLT, Nat.reduceLeDiff, Int.reduceToNat]
    refine Pure.callS (f57 _) rfl ?_
    simp only [go_sem, s37_8, s37_7, ↓reduceIte, reduceCtorEq, Nat.reduceEqDiff, Nat.reduceAdd, Nat.reduceSub, Nat.reduceMul, Nat.reduceLT, Nat.reduceLeDiff, Int.reduceToNat]
    refine twoQ_at (fun g2 => ?_) (fun g2 => ?_)
    · simp only [go_sem, s37_6, ↓reduceIte, reduceCtorEq, Nat.reduceEqDiff, Nat.reduceAdd, Nat.reduceSub, Nat.reduceMul, Nat.reduceLT, Nat.reduceLeDiff, Int.reduceToNat]
      exact make_ret hmi (fun h => by cases h) (by decide) (fun i hi => upd_ne _ _ (by omega))
    simp only [Bool.not_eq_false'] at g2
    have hsm := hmi.sm.2.2 x.cell
    unfold ki at hsm
    cases hx : (List.range m.sh.length).find? (fun i => decide ((m.sh.getD i default).cell = x.cell)) with
    | some i0 =>
      simp only [hx, Option.map_some] at hsm
      simp only [go_sem, s37_5, s37_4, h0, h3, mkK0, mkBox, mkK1, hmi.sm.1, ki_ok', hsm, Option.isSome_some, ↓reduceIte, reduceCtorEq, Nat.reduceEqDiff, Nat.reduceAdd, Nat.reduceSub, Nat.reduceMul, Nat.reduceLT, Nat.reduceLeDiff, Int.reduceToNat]
      exact make_ret hmi (fun h => by cases h) (by decide) (fun i hi => upd_ne _ _ (by omega))
    | none =>
      simp only [hx, Option.map_none] at hsm
      simp only [go_sem, s37_5, s37_3, h0, h3, mkK0, mkBox, mkK1, hmi.sm.1, ki_ok', hsm, Option.isSome_none, ↓reduceIte, reduceCtorEq, Nat.reduceEqDiff, Nat.reduceAdd, Nat.reduceSub, Nat.reduceMul, Nat.reduceLT, Nat.reduceLeDiff, Int.reduceToNat]
      refine twoQ_at (fun g3 => ?_) (fun g3 => ?_)
      · simp only [go_sem, s37_2, ↓reduceIte, reduceCtorEq, Nat.reduceEqDiff, Nat.reduceAdd, Nat.reduceSub, Nat.reduceMul, Nat.reduceLT, Nat.reduceLeDiff, Int.reduceToNat]
        exact make_ret hmi (fun h => by cases h) (by decide) (fun i hi => upd_ne _ _ (by omega))
      simp only [go_sem, s37_1, h0, h3, mkK0, mkBox, mkK1, mkK8, hmi.sm.1, ki_ok', evAppend, srcRows, rowsOf, rowC_len, ↓reduceIte, reduceCtorEq, Nat.reduceEqDiff, Nat.reduceAdd, Nat.reduceSub, Nat.reduceMul, Nat.reduceLT, Nat.reduceLeDiff, Int.reduceToNat]
      have e1 : (m.sh ++ [x]).length = m.sh.length + 1 := by simp
      have hno : ∀ i, i < m.sh.length → (m.sh.getD i default).cell ≠ x.cell := fun i hi he => by
        rw [List.find?_range_eq_none] at hx
        have := hx i hi
        simp only [he, decide_true, Bool.not_true, Bool.false_eq_true] at this
      refine ⟨by omega, make_ret (m' := { m with sh := m.sh ++ [x], vs := m.vs + 1, eS := mset m.eS (.int .i64 x.cell) (.x (cV (.int .i64 m.sh.length))) }) ⟨hmi.zm, (hmi.sm.set x.cell (iV m.sh.length) rfl).congr (fun c => ?_), hmi.rm, hmi.nm⟩ (fun _ => ⟨g1, g2, hno, _, rfl⟩) (by decide) (fun i hi => ?_)⟩
      · rw [find_app (p := fun y : ShelfD => decide (y.cell = c))]
        by_cases e : c = x.cell
        · subst e
          rw [if_pos rfl, hx]
          simp
        · rw [if_neg e]
          have : ¬ x.cell = c := fun h => e h.symm
          simp [this]
      have hc : i = 0 ∨ i = 1 ∨ i = 2 ∨ i = 3 ∨ i = 4 ∨ i = 5 ∨ i = 6 ∨ i = 7 ∨ i = 8 ∨ i = 9 := by omega
      rcases hc with rfl | rfl | rfl | rfl | rfl | rfl | rfl | rfl | rfl | rfl
      · rw [mkK0]; simp only [mkBox, e1]; rfl
      · rfl
      · rfl
      · rfl
      · rfl
      · rfl
      · rfl
      · rfl
      · rw [mkK8]; simp only [← rowC_app]; rfl
      · rfl
  refine guardQ_at (fun g1 => ?_) (fun g1 => ?_)
  · simp only [go_sem, s37_17, ↓reduceIte, reduceCtorEq, Nat.reduceEqDiff, Nat.reduceAdd, Nat.reduceSub, Nat.reduceMul, Nat.reduceLT, Nat.reduceLeDiff, Int.reduceToNat]
    refine Pure.call (f31 x.cls) (liftA_refl rfl) ?_
    rintro _ ⟨b2, rfl, _⟩ _
    cases b2 with
    | true =>
      simp only [go_sem, s37_16, s37_15, ↓reduceIte, reduceCtorEq, Nat.reduceEqDiff, Nat.reduceAdd, Nat.reduceSub, Nat.reduceMul, Nat.reduceLT, Nat.reduceLeDiff, Int.reduceToNat]
      exact main rfl rfl
    | false =>
      simp only [go_sem, s37_16, s37_15, s37_14, ↓reduceIte, reduceCtorEq, Nat.reduceEqDiff, Nat.reduceAdd, Nat.reduceSub, Nat.reduceMul, Nat.reduceLT, Nat.reduceLeDiff, Int.reduceToNat]
      exact make_ret hmi (fun h => by cases h) (by decide) (fun i hi => upd_ne _ _ (by omega))
  · simp only [go_sem, s37_17, s37_16, s37_15, ↓reduceIte, reduceCtorEq, Nat.reduceEqDiff, Nat.reduceAdd, Nat.reduceSub, Nat.reduceMul, Nat.reduceLT, Nat.reduceLeDiff, Int.reduceToNat]
    exact main rfl rfl

def RobotA (m : MK) (x : StartD) (e : Int) (m' : MK) : Prop := e = 0 → isM m.f x.cell = true ∧ 0 ≤ x.charge ∧ x.charge ≤ 1000000 ∧ kindM m.f x.cell ≠ 0 ∧ m.rb.any (fun r => decide (r.cell = x.cell)) = false ∧ ∃ es, m' = { m with rb := m.rb ++ [x], vr := m.vr + 1, eR := es }

theorem f38 (hmi : MI m) (x : StartD) (hl : m.rb.length ≤ 1000000) : Spec Try.prog 38 [tC (.ptr 0 0 0 0), .v (.agg ((encStart x).map C.r))] (mkK m) 10 (MakeQ (RobotA m x)) := by
  refine Spec.of_awp hm Try.func38 s38_ok (by simp [s38]) ?_
  simp only [go_sem, s38, encStart, ↓reduceIte, reduceCtorEq, Nat.reduceEqDiff, Nat.reduceAdd, Nat.reduceSub, Nat.reduceMul, Nat.reduceLT, Nat.reduceLeDiff, Int.reduceToNat]
  refine PureK.callM hmi (f54 hmi x.cell) (HasM.self.upd (by decide) _) (by decide) rfl (fun a ha => ?_) ?_
  · simp only [List.mem_cons, List.not_mem_nil, or_false] at ha
    rcases ha with rfl | rfl <;> rfl
  rintro _ rfl _
  simp only [go_sem, s38_13, s38_12, ↓reduceIte, reduceCtorEq, Nat.reduceEqDiff, Nat.reduceAdd, Nat.reduceSub, Nat.reduceMul, Nat.reduceLT, Nat.reduceLeDiff, Int.reduceToNat]
  refine guardQ_at (fun g1 => ?_) (fun g1 => ?_)
  · simp only [Bool.not_eq_false'] at g1
    simp only [go_sem, s38_11, ↓reduceIte, reduceCtorEq, Nat.reduceEqDiff, Nat.reduceAdd, Nat.reduceSub, Nat.reduceMul, Nat.reduceLT, Nat.reduceLeDiff, Int.reduceToNat]
    refine Pure.callS (f32 _ _ _) rfl ?_
    simp only [go_sem, s38_10, s38_9, ↓reduceIte, reduceCtorEq, Nat.reduceEqDiff, Nat.reduceAdd, Nat.reduceSub, Nat.reduceMul, Nat.reduceLT, Nat.reduceLeDiff, Int.reduceToNat]
    refine twoQ_at (fun g2 => ?_) (fun g2 => ?_)
    · simp only [go_sem, s38_8, ↓reduceIte, reduceCtorEq, Nat.reduceEqDiff, Nat.reduceAdd, Nat.reduceSub, Nat.reduceMul, Nat.reduceLT, Nat.reduceLeDiff, Int.reduceToNat]
      exact make_ret hmi (fun h => by cases h) (by decide) (fun i hi => upd_ne _ _ (by omega))
    simp only [Bool.not_eq_false', Bool.and_eq_true, decide_eq_true_eq] at g2
    simp only [go_sem, s38_7, ↓reduceIte, reduceCtorEq, Nat.reduceEqDiff, Nat.reduceAdd, Nat.reduceSub, Nat.reduceMul, Nat.reduceLT, Nat.reduceLeDiff, Int.reduceToNat]
    refine twoQ_at (fun g3 => ?_) (fun g3 => ?_)
    · simp only [go_sem, s38_6, ↓reduceIte, reduceCtorEq, Nat.reduceEqDiff, Nat.reduceAdd, Nat.reduceSub, Nat.reduceMul, Nat.reduceLT, Nat.reduceLeDiff, Int.reduceToNat]
      exact make_ret hmi (fun h => by cases h) (by decide) (fun i hi => upd_ne _ _ (by omega))
    simp only [decide_eq_false_iff_not] at g3
    have hrm : (mfind m.eR (Value.int .i64 x.cell)).getD (V.x (C.r (R.val (Value.bool false)))) = V.x (C.r (R.val (Value.bool (m.rb.any (fun r => decide (r.cell = x.cell)))))) := by
      have := hmi.rm.2.2 x.cell
      unfold ki at this
      rw [this]
      dsimp only
      cases m.rb.any (fun r => decide (r.cell = x.cell)) <;> rfl
    simp only [go_sem, s38_5, mkK0, mkBox, mkK2, hmi.rm.1, ki_ok', hrm, ↓reduceIte, reduceCtorEq, Nat.reduceEqDiff, Nat.reduceAdd, Nat.reduceSub, Nat.reduceMul, Nat.reduceLT, Nat.reduceLeDiff, Int.reduceToNat]
    refine twoQ_at (fun g4 => ?_) (fun g4 => ?_)
    · simp only [go_sem, s38_4, ↓reduceIte, reduceCtorEq, Nat.reduceEqDiff, Nat.reduceAdd, Nat.reduceSub, Nat.reduceMul, Nat.reduceLT, Nat.reduceLeDiff, Int.reduceToNat]
      exact make_ret hmi (fun h => by cases h) (by decide) (fun i hi => upd_ne _ _ (by omega))
    simp only [go_sem, s38_3, mkK0, mkBox, ↓reduceIte, reduceCtorEq, Nat.reduceEqDiff, Nat.reduceAdd, Nat.reduceSub, Nat.reduceMul, Nat.reduceLT, Nat.reduceLeDiff, Int.reduceToNat]
    refine twoQ_at (fun g5 => ?_) (fun g5 => ?_)
    · simp only [go_sem, s38_2, ↓reduceIte, reduceCtorEq, Nat.reduceEqDiff, Nat.reduceAdd, Nat.reduceSub, Nat.reduceMul, Nat.reduceLT, Nat.reduceLeDiff, Int.reduceToNat]
      exact make_ret hmi (fun h => by cases h) (by decide) (fun i hi => upd_ne _ _ (by omega))
    simp only [go_sem, s38_1, mkK0, mkBox, mkK2, mkK9, hmi.rm.1, ki_ok', evAppend, srcRows, rowsOf, rowC_len, ↓reduceIte, reduceCtorEq, Nat.reduceEqDiff, Nat.reduceAdd, Nat.reduceSub, Nat.reduceMul, Nat.reduceLT, Nat.reduceLeDiff, Int.reduceToNat]
    have e1 : (m.rb ++ [x]).length = m.rb.length + 1 := by simp
    refine ⟨by omega, make_ret (m' := { m with rb := m.rb ++ [x], vr := m.vr + 1, eR := mset m.eR (.int .i64 x.cell) vT }) ⟨hmi.zm, hmi.sm, (hmi.rm.set x.cell vT rfl).congr (fun c => ?_), hmi.nm⟩ (fun _ => ⟨g1, g2.1, g2.2, g3, g4, _, rfl⟩) (by decide) (fun i hi => ?_)⟩
    · rw [List.any_append]
      by_cases e : c = x.cell
      · subst e; simp
      · have : ¬ x.cell = c := fun h => e h.symm
        simp [e, this]
    have hc : i = 0 ∨ i = 1 ∨ i = 2 ∨ i = 3 ∨ i = 4 ∨ i = 5 ∨ i = 6 ∨ i = 7 ∨ i = 8 ∨ i = 9 := by omega
    rcases hc with rfl | rfl | rfl | rfl | rfl | rfl | rfl | rfl | rfl | rfl
    · rw [mkK0]; simp only [mkBox, e1]; rfl
    · rfl
    · rfl
    · rfl
    · rfl
    · rfl
    · rfl
    · rfl
    · rfl
    · rw [mkK9]; simp only [← rowC_app]; rfl
  · simp only [go_sem, s38_11, s38_10, s38_9, s38_8, ↓reduceIte, reduceCtorEq, Nat.reduceEqDiff, Nat.reduceAdd, Nat.reduceSub, Nat.reduceMul, Nat.reduceLT, Nat.reduceLeDiff, Int.reduceToNat]
    exact make_ret hmi (fun h => by cases h) (by decide) (fun i hi => upd_ne _ _ (by omega))
end Go.Proofs.Yticflcpmlbaafaa.AL

/- The maker of sites: what is checked at the end. -/
set_option linter.unusedSimpArgs false
set_option linter.unusedVariables false
namespace Go.Proofs.Yticflcpmlbaafaa.AL
open Go
variable {m : MK}

def SameM (K : KMap) (m : MK) : Prop := ∀ i, i < 10 → K i = mkK m i
theorem SameM.kle {K : KMap} (h : SameM K m) (hmi : MI m) : KLe 10 (mkK m) K := fun i o hk => ⟨(hmi.wf i o hk).1, (h i (hmi.wf i o hk).1).trans hk, (hmi.wf i o hk).2⟩

theorem f41 (hmi : MI m) (hl : m.f.kind.length ≤ 1000000) : PureK Try.prog 41 [tC (.ptr 0 0 0 0)] (mkK m) 10 (· = tB (decide ((3 : Int) ∈ m.f.kind))) := by
  refine PureK.of_awp hm Try.func41 s41_ok (by simp [s41]) ?_
  simp only [go_sem, s41, mkK0, mkBox, ↓reduceIte, reduceCtorEq, Nat.reduceEqDiff, Nat.reduceAdd, Nat.reduceSub, Nat.reduceMul, Nat.reduceLT, Nat.reduceLeDiff, Int.reduceToNat]
  refine Pure.callS (f42 m.f.kind 3 (by omega)) rfl ?_
  simp only [go_sem, s41_1, ↓reduceIte, reduceCtorEq, Nat.reduceEqDiff, Nat.reduceAdd, Nat.reduceSub, Nat.reduceMul, Nat.reduceLT, Nat.reduceLeDiff, Int.reduceToNat]
  exact ⟨rfl, KLe.self hmi.wf⟩

/-- IndexFunc over own rows. -/
theorem f58o {K : KMap} {N g id v : Nat} {caps : List Nat} (xs : List (List C)) (p : Nat → Bool) (hl : xs.length ≤ 1000000) (hid : K id = some (.row v 5 xs)) (hcaps : caps.all (· < N) = true) (hK : ∀ i o, K i = some o → i < N ∧ o.below N = true)
    (hrow : ∀ i, i < xs.length → (xs.getD i []).length = 5) (hp : ∀ i, i < xs.length → PureK Try.prog g (.v (.agg (xs.getD i [])) :: caps.map fun id => tC (.ptr id 0 0 0)) K N (· = tB (p i))) :
    PureK Try.prog 58 [tC (.own id v 0 xs.length), tC (.fn g caps)] K N (· = tI (idxF p xs.length)) := by
  refine PureK.of_awp hm Try.func58 s58_ok (by simp [s58]) ?_
  simp only [go_sem, s58, ↓reduceIte, reduceCtorEq, Nat.reduceEqDiff, Nat.reduceAdd, Nat.reduceSub, Nat.reduceMul, Nat.reduceLT, Nat.reduceLeDiff, Int.reduceToNat]
  refine awp_loop (fun i : Nat => ⟨upd (upd (upd (upd emp 0 (tC (.own id v 0 xs.length))) 1 (tC (.fn g caps))) 7 (tI xs.length)) 8 (tI i), K, N⟩) (fun i => xs.length - i) (fun i => i ≤ xs.length ∧ ∀ j, j < i → p j = false) 0 ⟨Nat.zero_le _, fun j hj => by omega⟩ ?_ ?_
  · exact Weak.cutTm (by repeat (first | refine TmCut.cons rfl ?_ | refine TmCut.cons (by simp [upd, *]; done) ?_ | exact TmCut.nil))
  · intro i ⟨hi, hno⟩
    simp only [go_sem, s58_7, ↓reduceIte, reduceCtorEq, Nat.reduceEqDiff, Nat.reduceAdd, Nat.reduceSub, Nat.reduceMul, Nat.reduceLT, Nat.reduceLeDiff, Int.reduceToNat]
    refine twoQ_at (fun h => ?_) (fun h => ?_)
    · have hi' : i < xs.length := by simpa using h
      have hx : (xs.getD i []).take 5 = xs.getD i [] := List.take_of_length_le (by rw [hrow i hi']; exact Nat.le_refl _)
      simp only [go_sem, s58_6, Int.toNat_natCast, evIaddr, evLoad, hid, hx, hrow i hi', ↓reduceIte, reduceCtorEq, Nat.reduceEqDiff, Nat.reduceAdd, Nat.reduceSub, Nat.reduceMul, Nat.reduceLT, Nat.reduceLeDiff, Int.reduceToNat]
      refine ⟨⟨by omega, by omega, Nat.le_refl _⟩, hi', ?_⟩
      refine PureK.callId (hp i hi') hK (fun a ha => ?_) ?_
      · rcases List.mem_cons.1 ha with rfl | ha
        · have hb := (hK id _ hid).2
          simp only [AObj.below, List.all_eq_true] at hb
          have hmem : xs.getD i [] ∈ xs := by
            rw [List.getD_eq_getElem?_getD, List.getElem?_eq_getElem hi']; exact List.getElem_mem hi'
          simp only [T.below, V.below, List.all_eq_true]
          exact hb _ hmem
        · obtain ⟨id', hid', rfl⟩ := List.mem_map.1 ha
          simp only [List.all_eq_true] at hcaps
          simpa [T.below, V.below, C.below] using hcaps id' hid'
      · rintro _ rfl _
        simp only [go_sem, s58_5, s58_4, s58_3, ↓reduceIte, reduceCtorEq, Nat.reduceEqDiff, Nat.reduceAdd, Nat.reduceSub, Nat.reduceMul, Nat.reduceLT, Nat.reduceLeDiff, Int.reduceToNat]
        refine twoQ_at (fun h2 => ?_) (fun h2 => ?_)
        · refine ⟨rfl, KLe.self hK, ?_⟩
          rw [idxF_hit hi' h2 hno]
        · simp only [go_sem, s58_2, ↓reduceIte, reduceCtorEq, Nat.reduceEqDiff, Nat.reduceAdd, Nat.reduceSub, Nat.reduceMul, Nat.reduceLT, Nat.reduceLeDiff, Int.reduceToNat]
          refine ⟨i + 1, ⟨by omega, fun j hj => ?_⟩, by omega, ?_⟩
          · by_cases e : j = i
            · subst e; exact h2
            · exact hno j (by omega)
          · rw [wrap_i (by omega) (by omega)]
            exact Weak.cutTm (by repeat (first | refine TmCut.cons rfl ?_ | refine TmCut.cons (by simp [upd, *]; done) ?_ | exact TmCut.nil))
    · have hi' : i = xs.length := by simp at h; omega
      simp only [go_sem, s58_1, ↓reduceIte, reduceCtorEq, Nat.reduceEqDiff, Nat.reduceAdd, Nat.reduceSub, Nat.reduceMul, Nat.reduceLT, Nat.reduceLeDiff, Int.reduceToNat]
      refine ⟨rfl, KLe.self hK, ?_⟩
      rw [idxF_none (fun j hj => hno j (by omega))]

/-- The first shelf at a cell. -/
def atM (m : MK) (c : Int) : Option Nat := (List.range m.sh.length).find? fun i => decide ((m.sh.getD i default).cell = c)
theorem atM_map (hmi : MI m) (c : Int) : mfind m.eS (Value.int .i64 c) = (atM m c).map iV := hmi.sm.2.2 c

def freeM (m : MK) (c : Int) : Bool := (atM m c).isNone && standsK (kindM m.f c)
def freeN (m : MK) (l : List Int) (n : Nat) : Nat := (List.range n).countP fun i => freeM m (l.getD i 0)
theorem freeN_succ {l : List Int} {n : Nat} : freeN m l (n + 1) = freeN m l n + (if freeM m (l.getD n 0) then 1 else 0) := by
  unfold freeN
  rw [List.range_succ, List.countP_append]
  simp [List.countP_cons]
theorem freeN_le {l : List Int} {n : Nat} : freeN m l n ≤ n := by
  have := List.countP_le_length (p := fun i => freeM m (l.getD i 0)) (l := List.range n)
  simpa [freeN] using this

theorem f59 (hmi : MI m) (z : ZoneD) (hl : z.cells.length ≤ 1000000) (hc : ∀ i, i < z.cells.length → isM m.f (z.cells.getD i 0) = true) :
    PureK Try.prog 59 [.v (.agg ((encZone z).map C.r)), tC (.ptr 10 0 0 0)] (upd (mkK m) 10 (.row 0 1 [[.ptr 0 0 0 0]])) 11 (· = tB (decide ((freeN m z.cells z.cells.length : Int) < z.keep))) := by
  have hK : ∀ i o, (upd (mkK m) 10 (.row 0 1 [[.ptr 0 0 0 0]]) : KMap) i = some o → i < 11 ∧ o.below 11 = true := by
    intro i o hk
    unfold mkK at hk
    simp only [upd, emp] at hk
    repeat (split at hk; · rename_i e; subst e; cases hk; exact ⟨by omega, by first | rfl | exact rowC_bel | exact below_map hmi.nm.2 | exact hmi.zm.bel | exact hmi.sm.bel | exact hmi.rm.bel⟩)
    cases hk
  refine PureK.of_awp hm Try.func59 s59_ok (by simp [s59]) ?_
  simp only [go_sem, s59, encZone, ints_len, ↓reduceIte, reduceCtorEq, Nat.reduceEqDiff, Nat.reduceAdd, Nat.reduceSub, Nat.reduceMul, Nat.reduceLT, Nat.reduceLeDiff, Int.reduceToNat]
  refine awp_loop (fun i : Nat => ⟨upd (upd (upd (upd (upd (upd emp 1 (tC (.ptr 10 0 0 0))) 2 (tC (.ptr 11 0 0 0))) 4 (tI (freeN m z.cells i))) 10 (tC (.r (.rd 1 (ints z.cells))))) 11 (tI z.cells.length)) 12 (tI i), upd (upd (mkK m) 10 (.row 0 1 [[.ptr 0 0 0 0]])) 11 (.row 0 5 [(encZone z).map C.r]), 12⟩) (fun i => z.cells.length - i)
    (fun i => i ≤ z.cells.length) 0 (Nat.zero_le _) ?_ ?_
  · exact Weak.cutTm (by repeat (first | refine TmCut.cons rfl ?_ | refine TmCut.cons (by simp [upd, *]; done) ?_ | exact TmCut.nil))
  · intro i hi
    simp only [go_sem, s59_8, ↓reduceIte, reduceCtorEq, Nat.reduceEqDiff, Nat.reduceAdd, Nat.reduceSub, Nat.reduceMul, Nat.reduceLT, Nat.reduceLeDiff, Int.reduceToNat]
    refine twoQ_at (fun g => ?_) (fun g => ?_)
    · have hi' : i < z.cells.length := by simpa using g
      have hle := freeN_le (m := m) (l := z.cells) (n := i)
      have hm1 := atM_map hmi (z.cells.getD i 0)
      have hci := hc i hi'
      cases hat : atM m (z.cells.getD i 0) with
      | some k =>
        have hfr : freeM m (z.cells.getD i 0) = false := by rw [freeM, hat]; rfl
        rw [hat] at hm1
        simp only [go_sem, s59_7, s59_6, s59_5, s59_4, ints_len, ints_at hi', Int.toNat_natCast, mkK0, mkBox, mkK1, hmi.sm.1, ki_ok', hm1, Option.map_some, Option.isSome_some, Option.getD_some, ↓reduceIte, reduceCtorEq, Nat.reduceEqDiff, Nat.reduceAdd, Nat.reduceSub, Nat.reduceMul, Nat.reduceLT, Nat.reduceLeDiff, Int.reduceToNat]
        simp only [go_sem, s59_2, ↓reduceIte, reduceCtorEq, Nat.reduceEqDiff, Nat.reduceAdd, Nat.reduceSub, Nat.reduceMul, Nat.reduceLT, Nat.reduceLeDiff, Int.reduceToNat]
        refine ⟨⟨by omega, by omega⟩, i + 1, by omega, by omega, ?_⟩
        have e : freeN m z.cells (i + 1) = freeN m z.cells i := by rw [freeN_succ, hfr]; rfl
        rw [wrap_i (by omega) (by omega), e]
        exact Weak.cutTm (by repeat (first | refine TmCut.cons rfl ?_ | refine TmCut.cons (by simp [upd, *]; done) ?_ | exact TmCut.nil))
      | none =>
        rw [hat] at hm1
        have hfr : freeM m (z.cells.getD i 0) = standsK (kindM m.f (z.cells.getD i 0)) := by rw [freeM, hat]; rfl
        simp only [isM, Bool.and_eq_true, decide_eq_true_eq] at hci
        have hkind : m.f.kind.getD (z.cells.getD i 0).toNat 0 = kindM m.f (z.cells.getD i 0) := by rw [kindM, if_pos (by omega)]
        have hlt : (z.cells.getD i 0).toNat < m.f.kind.length := by omega
        simp only [go_sem, s59_7, s59_6, ints_len, ints_at hi', ints_at hlt, Int.toNat_natCast, mkK0, mkBox, mkK1, hmi.sm.1, ki_ok', hm1, Option.map_none, Option.isSome_none, Option.getD_none, hkind, ↓reduceIte, reduceCtorEq, Nat.reduceEqDiff, Nat.reduceAdd, Nat.reduceSub, Nat.reduceMul, Nat.reduceLT, Nat.reduceLeDiff, Int.reduceToNat]
        refine ⟨⟨by omega, by omega⟩, ⟨by omega, by omega⟩, Pure.callS (f57 _) rfl ?_⟩
        simp only [go_sem, s59_5, s59_4, ↓reduceIte, reduceCtorEq, Nat.reduceEqDiff, Nat.reduceAdd, Nat.reduceSub, Nat.reduceMul, Nat.reduceLT, Nat.reduceLeDiff, Int.reduceToNat]
        refine twoQ_at (fun g2 => ?_) (fun g2 => ?_)
        · simp only [go_sem, s59_3, s59_2, ↓reduceIte, reduceCtorEq, Nat.reduceEqDiff, Nat.reduceAdd, Nat.reduceSub, Nat.reduceMul, Nat.reduceLT, Nat.reduceLeDiff, Int.reduceToNat]
          refine ⟨i + 1, by omega, by omega, ?_⟩
          have e : freeN m z.cells (i + 1) = freeN m z.cells i + 1 := by rw [freeN_succ, hfr, g2]; rfl
          rw [wrap_i (n := (i : Int) + 1) (by omega) (by omega), wrap_i (n := (freeN m z.cells i : Int) + 1) (by omega) (by omega), e]
          exact Weak.cutTm (by repeat (first | refine TmCut.cons rfl ?_ | refine TmCut.cons (by simp [upd, *]; done) ?_ | exact TmCut.nil))
        · simp only [go_sem, s59_2, ↓reduceIte, reduceCtorEq, Nat.reduceEqDiff, Nat.reduceAdd, Nat.reduceSub, Nat.reduceMul, Nat.reduceLT, Nat.reduceLeDiff, Int.reduceToNat]
          refine ⟨i + 1, by omega, by omega, ?_⟩
          have e : freeN m z.cells (i + 1) = freeN m z.cells i := by rw [freeN_succ, hfr, g2]; rfl
          rw [wrap_i (n := (i : Int) + 1) (by omega) (by omega), e]
          exact Weak.cutTm (by repeat (first | refine TmCut.cons rfl ?_ | refine TmCut.cons (by simp [upd, *]; done) ?_ | exact TmCut.nil))
    · have hi' : i = z.cells.length := by simp at g; omega
      subst hi'
      simp only [go_sem, s59_1, encZone, ↓reduceIte, reduceCtorEq, Nat.reduceEqDiff, Nat.reduceAdd, Nat.reduceSub, Nat.reduceMul, Nat.reduceLT, Nat.reduceLeDiff, Int.reduceToNat]
      refine ⟨rfl, fun i o hk => ⟨(hK i o hk).1, ?_, (hK i o hk).2⟩⟩
      rw [upd_ne _ _ (by have := (hK i o hk).1; omega)]
      exact hk

theorem f40 (hmi : MI m) (hz : m.zs.length ≤ 1000000) (hl : ∀ i, i < m.zs.length → (m.zs.getD i default).cells.length ≤ 1000000) (hc : ∀ i, i < m.zs.length → ∀ j, j < (m.zs.getD i default).cells.length → isM m.f ((m.zs.getD i default).cells.getD j 0) = true) :
    PureK Try.prog 40 [tC (.ptr 0 0 0 0)] (mkK m) 10 (· = tI (idxF (fun i => decide ((freeN m (m.zs.getD i default).cells (m.zs.getD i default).cells.length : Int) < (m.zs.getD i default).keep)) m.zs.length)) := by
  have hK : ∀ i o, (upd (mkK m) 10 (.row 0 1 [[.ptr 0 0 0 0]]) : KMap) i = some o → i < 11 ∧ o.below 11 = true := by
    intro i o hk
    unfold mkK at hk
    simp only [upd, emp] at hk
    repeat (split at hk; · rename_i e; subst e; cases hk; exact ⟨by omega, by first | rfl | exact rowC_bel | exact below_map hmi.nm.2 | exact hmi.zm.bel | exact hmi.sm.bel | exact hmi.rm.bel⟩)
    cases hk
  refine PureK.of_awp hm Try.func40 s40_ok (by simp [s40]) ?_
  simp only [go_sem, s40, mkK0, mkBox, ↓reduceIte, reduceCtorEq, Nat.reduceEqDiff, Nat.reduceAdd, Nat.reduceSub, Nat.reduceMul, Nat.reduceLT, Nat.reduceLeDiff, Int.reduceToNat]
  have hx := f58o (K := upd (mkK m) 10 (.row 0 1 [[.ptr 0 0 0 0]])) (N := 11) (g := 59) (id := 6) (v := m.vz) (caps := [10]) (rowC encZone m.zs) (fun i => decide ((freeN m (m.zs.getD i default).cells (m.zs.getD i default).cells.length : Int) < (m.zs.getD i default).keep)) (by rw [rowC_len]; exact hz) rfl rfl hK (fun i hi => ?_) (fun i hi => ?_)
  · rw [rowC_len] at hx
    refine PureK.callId hx hK (fun a ha => ?_) ?_
    · simp only [List.mem_cons, List.not_mem_nil, or_false] at ha
      rcases ha with rfl | rfl <;> rfl
    · rintro _ rfl _
      simp only [go_sem, s40_1, ↓reduceIte, reduceCtorEq, Nat.reduceEqDiff, Nat.reduceAdd, Nat.reduceSub, Nat.reduceMul, Nat.reduceLT, Nat.reduceLeDiff, Int.reduceToNat]
      exact ⟨rfl, SameM.kle (fun i hi => upd_ne _ _ (by omega)) hmi⟩
  · rw [rowC_at (by rw [rowC_len] at hi; exact hi)]; rfl
  · rw [rowC_len] at hi
    rw [rowC_at hi]
    exact f59 hmi _ (hl i hi) (hc i hi)
end Go.Proofs.Yticflcpmlbaafaa.AL

/- The maker of sites: shelves beside each other. -/
set_option linter.unusedSimpArgs false
set_option linter.unusedVariables false
namespace Go.Proofs.Yticflcpmlbaafaa.AL
open Go
variable {m : MK}

def cellM (m : MK) (i : Nat) : Int := (m.sh.getD i default).cell
def clsM (m : MK) (i : Nat) : ByteArray := (m.sh.getD i default).cls
/-- No earlier shelf beside this one disturbs it. -/
def NearAt (m : MK) (i : Nat) : Prop := ∀ c, c ∈ sideL m.f (cellM m i) → ∀ k, atM m c = some k → k < i → apartL m.ap (clsM m i) (clsM m k) = false

theorem atM_lt {c : Int} {k : Nat} (h : atM m c = some k) : k < m.sh.length ∧ cellM m k = c := by
  unfold atM at h
  rw [List.find?_range_eq_some] at h
  exact ⟨by simpa using h.2.1, of_decide_eq_true h.1⟩

/-- A call that reads own rows, of a function that hands back data. -/
theorem Pure.castS {P : Program} {f : FuncId} {args args1 : List T} {v : T} (hs : Pure P f args1 (· = v)) {q : Bool} {K : KMap} {N : Nat} {R : T → KMap → Nat → Prop} (ha : liftA (CastC K) args args1) (hv : v.flat = true) (hR : R v K N) : CallW P q f args K N R := by
  refine CallW.wf (fun hw => Spec.cast hs ha ?_ ?_) hs.1
  · rintro d K1 N1 ⟨rfl, h2, rfl, rfl⟩
    exact ⟨hv, fun id o h => by cases h⟩
  · rintro d K1 N1 ⟨rfl, h2, rfl, rfl⟩
    rw [T.ren_below h2, joinK_emp hw]
    exact hR

structure BsI (m : MK) (x : Nat × KMap × Nat) : Prop where
  le : x.1 ≤ m.sh.length
  n : 11 ≤ x.2.2
  same : SameM x.2.1 m
  box : x.2.1 10 = some (.row 0 5 [encFloor m.f])
  no : ∀ j, j < x.1 → NearAt m j

def bs1 (m : MK) (x : Nat × KMap × Nat) : St := ⟨upd (upd (upd (upd (upd emp 0 (tC (.ptr 0 0 0 0))) 3 (tC (.ptr 10 0 0 0))) 22 (tC (.own 8 m.vs 0 m.sh.length))) 23 (tI m.sh.length)) 24 (tI x.1), x.2.1, x.2.2⟩

def tmB (m : MK) (i w : Nat) : Nat → Option T := upd (upd (upd (upd (upd (upd (upd (upd (upd emp 0 (tC (.ptr 0 0 0 0))) 3 (tC (.ptr 10 0 0 0))) 22 (tC (.own 8 m.vs 0 m.sh.length))) 23 (tI m.sh.length)) 24 (tI i)) 4 (tI i)) 5 (tC (.ptr w 0 0 0))) 61 (tC (.own (w + 1) 0 0 4))) 62 (tI 4)
def bs2 (m : MK) (i w : Nat) (K : KMap) (N : Nat) (j : Nat) : St := ⟨upd (tmB m i w) 63 (tI j), K, N⟩

def BsQ (m : MK) (d : T) : Prop := ∃ e, d = tI e ∧ (e < 0 → ∀ i, i < m.sh.length → NearAt m i)

theorem f39b (hf : FloorOk m.f) (hmi : MI m) (hl : m.sh.length ≤ 1000000) (ha : m.ap.length ≤ 1000000) {i w : Nat} {K : KMap} {N : Nat} (hi : i < m.sh.length) (hw11 : 11 ≤ w) (hs : SameM K m) (hb : K w = some (.row 0 2 [[.r (.val (.int .i64 (cellM m i))), .r (.val (.string (clsM m i)))]]))
    (hb2 : K (w + 1) = some (.row 0 1 (intC (sideL m.f (cellM m i))))) {Q : XE → St → Prop}
    (hQ1 : (∀ j, j < 4 → ∀ k, atM m ((sideL m.f (cellM m i)).getD j 0) = some k → k < i → apartL m.ap (clsM m i) (clsM m k) = false) → Q (.exit 2) ⟨upd (bs2 m i w K N 4).tm 64 (tB (decide ((4 : Int) < 4))), K, N⟩)
    (hQ2 : ∀ {tm : Nat → Option T}, tm 2 = some (tI i) → Q .ret ⟨tm, K, N⟩) :
    ∀ j : Nat, (j ≤ 4 ∧ ∀ j2, j2 < j → ∀ k, atM m ((sideL m.f (cellM m i)).getD j2 0) = some k → k < i → apartL m.ap (clsM m i) (clsM m k) = false) →
      awp Try.prog 10 s39_10 (bs2 m i w K N j) (roundQ 10 (bs2 m i w K N) (fun j => 4 - j) (fun j => j ≤ 4 ∧ ∀ j2, j2 < j → ∀ k, atM m ((sideL m.f (cellM m i)).getD j2 0) = some k → k < i → apartL m.ap (clsM m i) (clsM m k) = false) j Q) := by
  rintro j ⟨hj, hin⟩
  have hk0 : K 0 = some (.row 0 16 [mkBox m]) := hs 0 (by decide)
  have hk1 : K 1 = some (.map m.eS) := hs 1 (by decide)
  have hk7 : K 7 = some (.row m.va 2 (rowC encApart m.ap)) := hs 7 (by decide)
  have hk8 : K 8 = some (.row m.vs 2 (rowC encShelf m.sh)) := hs 8 (by decide)
  have hlen : (sideL m.f (cellM m i)).length = 4 := rfl
  simp only [go_sem, s39_10, bs2, tmB, ↓reduceIte, reduceCtorEq, Nat.reduceEqDiff, Nat.reduceAdd, Nat.reduceSub, Nat.reduceMul, Nat.reduceLT, Nat.reduceLeDiff, Int.reduceToNat]
  refine twoQ_at (fun g => ?_) (fun g => ?_)
  · have hj' : j < 4 := by simp at g; omega
    have hjl : j < (sideL m.f (cellM m i)).length := by omega
    have hwr : IntKind.i64.wrap ((j : Int) + 1) = ((j + 1 : Nat) : Int) := wrap_i (by omega) (by omega)
    have next : (∀ k, atM m ((sideL m.f (cellM m i)).getD j 0) = some k → k < i → apartL m.ap (clsM m i) (clsM m k) = false) → ∀ {tm : Nat → Option T}, TmCut (tmB m i w) tm → tm 63 = some (tI j) →
        awp Try.prog 10 s39_3 ⟨tm, K, N⟩ (roundQ 10 (bs2 m i w K N) (fun j => 4 - j) (fun j => j ≤ 4 ∧ ∀ j2, j2 < j → ∀ k, atM m ((sideL m.f (cellM m i)).getD j2 0) = some k → k < i → apartL m.ap (clsM m i) (clsM m k) = false) j Q) := by
      intro hok tm hc h63
      simp only [go_sem, s39_3, h63, ↓reduceIte, reduceCtorEq, Nat.reduceEqDiff, Nat.reduceAdd, Nat.reduceSub, Nat.reduceMul, Nat.reduceLT, Nat.reduceLeDiff, Int.reduceToNat]
      refine ⟨j + 1, ⟨by omega, fun j2 hj2 => ?_⟩, by omega, Weak.cutTm (TmCut.cons (by rw [← hwr]; rfl) (.skip (.skip hc rfl) rfl))⟩
      by_cases e : j2 = j
      · subst e; exact hok
      · exact hin j2 (by omega)
    have base : TmCut (tmB m i w) (upd (tmB m i w) 63 (tI j)) := .skip (fun _ _ h => h) rfl
    have hm1 := atM_map hmi ((sideL m.f (cellM m i)).getD j 0)
    cases hat : atM m ((sideL m.f (cellM m i)).getD j 0) with
    | none =>
      rw [hat] at hm1
      simp only [go_sem, s39_9, s39_8, s39_7, s39_6, s39_5, evIaddr, evLoad, hb2, intC_len, hlen, intC_at hjl, Int.toNat_natCast, hk0, mkBox, hk1, hmi.sm.1, ki_ok', hm1, Option.map_none, Option.isSome_none, Option.getD_none, ↓reduceIte, reduceCtorEq, Nat.reduceEqDiff, Nat.reduceAdd, Nat.reduceSub, Nat.reduceMul, Nat.reduceLT, Nat.reduceLeDiff, Int.reduceToNat]
      refine ⟨⟨by omega, by omega⟩, hj', ?_⟩
      refine next (fun k hk => by cases hat.symm.trans hk) ?_ rfl
      repeat (first | exact base | refine TmCut.skip ?_ rfl)
    | some k =>
      obtain ⟨hk, _⟩ := atM_lt hat
      rw [hat] at hm1
      have hx : (m.sh.getD k default).cls = clsM m k := rfl
      simp only [go_sem, s39_9, evIaddr, evLoad, hb2, intC_len, hlen, intC_at hjl, Int.toNat_natCast, hk0, mkBox, hk1, hmi.sm.1, ki_ok', hm1, Option.map_some, Option.isSome_some, Option.getD_some, ↓reduceIte, reduceCtorEq, Nat.reduceEqDiff, Nat.reduceAdd, Nat.reduceSub, Nat.reduceMul, Nat.reduceLT, Nat.reduceLeDiff, Int.reduceToNat]
      refine ⟨⟨by omega, by omega⟩, hj', ?_⟩
      simp only [go_sem, s39_8, ↓reduceIte, reduceCtorEq, Nat.reduceEqDiff, Nat.reduceAdd, Nat.reduceSub, Nat.reduceMul, Nat.reduceLT, Nat.reduceLeDiff, Int.reduceToNat]
      refine guardQ_at (fun g2 => ?_) (fun g2 => ?_)
      · simp only [decide_eq_true_eq] at g2
        have hne : ¬ w = w + 1 := by omega
        simp only [go_sem, s39_7, hk0, mkBox, hk7, hk8, hb, evIaddr, evLoad, rowC_len, rowC_at hk, encShelf, Int.toNat_natCast, hx, ↓reduceIte, reduceCtorEq, Nat.reduceEqDiff, Nat.reduceAdd, Nat.reduceSub, Nat.reduceMul, Nat.reduceLT, Nat.reduceLeDiff, Int.reduceToNat]
        refine ⟨⟨by omega, by omega, Nat.le_refl _⟩, hk, hk, ?_⟩
        refine Pure.castS (f56 m.ap (clsM m i) (clsM m k) (by omega)) ?_ rfl ?_
        · exact ⟨rowC_cast (fun x => rfl) hk7, .inl ⟨rfl, rfl⟩, .inl ⟨rfl, rfl⟩, trivial⟩
        · simp only [go_sem, s39_6, s39_5, ↓reduceIte, reduceCtorEq, Nat.reduceEqDiff, Nat.reduceAdd, Nat.reduceSub, Nat.reduceMul, Nat.reduceLT, Nat.reduceLeDiff, Int.reduceToNat]
          refine twoQ_at (fun g3 => ?_) (fun g3 => ?_)
          · simp only [go_sem, s39_4, ↓reduceIte, reduceCtorEq, Nat.reduceEqDiff, Nat.reduceAdd, Nat.reduceSub, Nat.reduceMul, Nat.reduceLT, Nat.reduceLeDiff, Int.reduceToNat]
            exact hQ2 rfl
          · refine next (fun k2 hk2 h2 => by cases hat.symm.trans hk2; exact g3) ?_ rfl
            repeat (first | exact base | refine TmCut.skip ?_ rfl)
      · simp only [Bool.not_true, decide_eq_false_iff_not] at g2
        simp only [go_sem, s39_7, s39_6, s39_5, ↓reduceIte, reduceCtorEq, Nat.reduceEqDiff, Nat.reduceAdd, Nat.reduceSub, Nat.reduceMul, Nat.reduceLT, Nat.reduceLeDiff, Int.reduceToNat]
        refine next (fun k2 hk2 h2 => by cases hat.symm.trans hk2; omega) ?_ rfl
        repeat (first | exact base | refine TmCut.skip ?_ rfl)
  · have hj' : j = 4 := by simp at g; omega
    subst hj'
    exact hQ1 hin

theorem upd_upd {α : Type} {f : Nat → Option α} {i : Nat} {a b : α} : upd (upd f i a) i b = upd f i b := by
  funext j; simp only [upd]; split <;> rfl

theorem f39 (hf : FloorOk m.f) (hmi : MI m) (hl : m.sh.length ≤ 1000000) (ha : m.ap.length ≤ 1000000) : PureK Try.prog 39 [tC (.ptr 0 0 0 0)] (mkK m) 10 (BsQ m) := by
  refine PureK.of_awp hm Try.func39 s39_ok (by simp [s39]) ?_
  simp only [go_sem, s39, mkK0, mkBox, ↓reduceIte, reduceCtorEq, Nat.reduceEqDiff, Nat.reduceAdd, Nat.reduceSub, Nat.reduceMul, Nat.reduceLT, Nat.reduceLeDiff, Int.reduceToNat]
  rw [upd_upd]
  refine awp_loop (bs1 m) (fun x => m.sh.length - x.1) (BsI m) (0, upd (mkK m) 10 (.row 0 5 [encFloor m.f]), 11) ⟨Nat.zero_le _, Nat.le_refl _, fun i hi => upd_ne _ _ (by omega), rfl, fun j hj => by simp at hj⟩ ?_ ?_
  · refine Weak.cutTm ?_
    repeat (first | refine TmCut.cons rfl ?_ | exact TmCut.nil)
  · rintro ⟨i, K, N⟩ ⟨hi, hN, hs, hb, hno⟩
    simp only at hi hN hs hb hno
    have hk8 : K 8 = some (.row m.vs 2 (rowC encShelf m.sh)) := hs 8 (by decide)
    have ne : ∀ k, k < 11 → ¬ k = N := fun k hk => by omega
    have n10 := ne 10 (by decide); have n9 := ne 9 (by decide)
    simp only [go_sem, s39_19, bs1, ↓reduceIte, reduceCtorEq, Nat.reduceEqDiff, Nat.reduceAdd, Nat.reduceSub, Nat.reduceMul, Nat.reduceLT, Nat.reduceLeDiff, Int.reduceToNat]
    refine twoQ_at (fun g => ?_) (fun g => ?_)
    · have hi' : i < m.sh.length := by simpa using g
      have hwr : IntKind.i64.wrap ((i : Int) + 1) = ((i + 1 : Nat) : Int) := wrap_i (by omega) (by omega)
      obtain ⟨b1, b2, b3⟩ := xF_b hf (cellM m i)
      have := hf.w2; have := hf.h2
      have hcell : (m.sh.getD i default).cell = cellM m i := rfl
      have hcls : (m.sh.getD i default).cls = clsM m i := rfl
      simp only [go_sem, s39_18, hk8, hb, n10, n9, evIaddr, evLoad, rowC_len, rowC_at hi', encShelf, encFloor, Int.toNat_natCast, hcell, hcls, ↓reduceIte, reduceCtorEq, Nat.reduceEqDiff, Nat.reduceAdd, Nat.reduceSub, Nat.reduceMul, Nat.reduceLT, Nat.reduceLeDiff, Int.reduceToNat]
      refine ⟨⟨by omega, by omega, Nat.le_refl _⟩, hi', Pure.callS (f46 hf _) rfl ?_⟩
      rw [upd_upd]
      simp only [go_sem, s39_17, s39_16, hb, n10, encFloor, ↓reduceIte, reduceCtorEq, Nat.reduceEqDiff, Nat.reduceAdd, Nat.reduceSub, Nat.reduceMul, Nat.reduceLT, Nat.reduceLeDiff, Int.reduceToNat]
      refine Pure.callS (f48 hf _ _ _) rfl ?_
      simp only [go_sem, s39_15, ↓reduceIte, reduceCtorEq, Nat.reduceEqDiff, Nat.reduceAdd, Nat.reduceSub, Nat.reduceMul, Nat.reduceLT, Nat.reduceLeDiff, Int.reduceToNat]
      refine Pure.callS (f48 hf _ _ _) rfl ?_
      simp only [go_sem, s39_14, ↓reduceIte, reduceCtorEq, Nat.reduceEqDiff, Nat.reduceAdd, Nat.reduceSub, Nat.reduceMul, Nat.reduceLT, Nat.reduceLeDiff, Int.reduceToNat]
      refine Pure.callS (f48 hf _ _ _) rfl ?_
      simp only [go_sem, s39_13, ↓reduceIte, reduceCtorEq, Nat.reduceEqDiff, Nat.reduceAdd, Nat.reduceSub, Nat.reduceMul, Nat.reduceLT, Nat.reduceLeDiff, Int.reduceToNat]
      refine Pure.callS (f48 hf _ _ _) rfl ?_
      rw [wrap_i (n := xF m.f (cellM m i) + 1) (by omega) (by omega), wrap_i (n := yF m.f (cellM m i) + 1) (by omega) (by omega), wrap_i (n := xF m.f (cellM m i) - 1) (by omega) (by omega), wrap_i (n := yF m.f (cellM m i) - 1) (by omega) (by omega)]
      simp only [go_sem, s39_12, s39_11, rowsOf, ↓reduceIte, reduceCtorEq, Nat.reduceEqDiff, Nat.reduceAdd, Nat.reduceSub, Nat.reduceMul, Nat.reduceLT, Nat.reduceLeDiff, Int.reduceToNat]
      obtain ⟨K2, hK2⟩ : ∃ K2, K2 = upd (upd K N (.row 0 2 [[.r (.val (.int .i64 (cellM m i))), .r (.val (.string (clsM m i)))]])) (N + 1) (.row 0 1 (intC (sideL m.f (cellM m i)))) := ⟨_, rfl⟩
      have hs2 : SameM K2 m := fun k hk => by rw [hK2, upd_ne _ _ (by omega), upd_ne _ _ (by omega)]; exact hs k hk
      have hw1 : K2 N = some (.row 0 2 [[.r (.val (.int .i64 (cellM m i))), .r (.val (.string (clsM m i)))]]) := by rw [hK2, upd_ne _ _ (by omega), upd_self]
      have hw2 : K2 (N + 1) = some (.row 0 1 (intC (sideL m.f (cellM m i)))) := by rw [hK2, upd_self]
      have hw3 : K2 10 = some (.row 0 5 [encFloor m.f]) := by rw [hK2, upd_ne _ _ (by omega), upd_ne _ _ (by omega)]; exact hb
      refine awp_loop (bs2 m i N K2 (N + 1 + 1)) (fun j => 4 - j) (fun j => j ≤ 4 ∧ ∀ j2, j2 < j → ∀ k, atM m ((sideL m.f (cellM m i)).getD j2 0) = some k → k < i → apartL m.ap (clsM m i) (clsM m k) = false) 0 ⟨Nat.zero_le _, fun j hj => by omega⟩ ?_ (f39b hf hmi hl ha hi' hN hs2 hw1 hw2 ?_ ?_)
      · rw [hK2]
        refine Weak.cutTm ?_
        unfold tmB
        repeat (first | refine TmCut.cons rfl ?_ | exact TmCut.nil)
      · intro hok
        simp only [go_sem, bs2, tmB, s39_2, ↓reduceIte, reduceCtorEq, Nat.reduceEqDiff, Nat.reduceAdd, Nat.reduceSub, Nat.reduceMul, Nat.reduceLT, Nat.reduceLeDiff, Int.reduceToNat]
        refine ⟨(i + 1, K2, N + 1 + 1), ⟨by simp only; omega, by simp only; omega, hs2, hw3, fun j hj => ?_⟩, by simp only; omega, ?_⟩
        · by_cases e : j = i
          · subst e
            intro c hc k hk hki
            obtain ⟨q, hq, rfl⟩ := mem_getD.1 hc
            exact hok q hq k hk hki
          · exact hno j (by simp only at hj; omega)
        · rw [hwr]
          refine Weak.cutTm ?_
          repeat (first | refine TmCut.cons rfl ?_ | exact TmCut.nil)
      · intro tm h2
        simp only [go_sem, h2, ↓reduceIte, reduceCtorEq, Nat.reduceEqDiff, Nat.reduceAdd, Nat.reduceSub, Nat.reduceMul, Nat.reduceLT, Nat.reduceLeDiff, Int.reduceToNat]
        exact ⟨rfl, hs2.kle hmi, i, rfl, fun h => by omega⟩
    · have hi' : i = m.sh.length := by simp at g; omega
      subst hi'
      simp only [go_sem, s39_1, ↓reduceIte, reduceCtorEq, Nat.reduceEqDiff, Nat.reduceAdd, Nat.reduceSub, Nat.reduceMul, Nat.reduceLT, Nat.reduceLeDiff, Int.reduceToNat]
      exact ⟨rfl, hs.kle hmi, -1, rfl, fun _ => hno⟩
end Go.Proofs.Yticflcpmlbaafaa.AL
