/- THE LAW RulesApart HOLDS: whatever site and state it is called with, it returns true, and what was there before the call is as it was. No condition. -/
import Derived.Test.YtcocbifjjafknaaMb
import Derived.Test.YtcocbifjjafknaaRows
import Derived.WalkKit
import Derived.ProofKit
import Derived.OpenShut
import Derived.ChangeOld
import Derived.Below
import Derived.SizedLaws
import Derived.Carry

/- The law RulesApart: the pairs. -/
set_option linter.unusedSimpArgs false
set_option linter.unusedVariables false
namespace Go.Proofs.Ytcocbifjjafknaa.AL
open Go
variable {s : SiteD} {st : StateD}

def lawBad (s : SiteD) (st : StateD) (x y : Nat) : Bool := neverF s (classF s x) (classF s y) && (nearF s.floor (shelfAt st x) (shelfAt st y) && (decide (carriedF st x < 0) && decide (carriedF st y < 0)))

theorem lawBad_eq (h : Fits s st) {x y : Nat} (hx : x < st.shelves.length) (hy : y < st.shelves.length) (hxy : x < y) : lawBad s st x y = (actF s st x && badF s st x y) := by
  unfold lawBad actF badF actF neverF clsF sideOf
  have hn : nearF s.floor (shelfAt st x) (shelfAt st y) = decide (shelfAt st y ∈ posL (sideL s.floor (shelfAt st x))) := near_side h.ok.floor (h.sh x hx) (h.sh y hy)
  have h1 : decide (x < y) = true := by simpa using hxy
  rw [hn, h1]
  generalize decide (classF s x ≠ ⟨#[]⟩) = a
  generalize decide (classF s y ≠ ⟨#[]⟩) = b
  generalize decide (carriedF st x < 0) = c
  generalize decide (carriedF st y < 0) = d
  generalize decide (shelfAt st y ∈ posL (sideL s.floor (shelfAt st x))) = e
  generalize pairF s s.aparts.length (classF s x) (classF s y) = f
  cases a <;> cases b <;> cases c <;> cases d <;> cases e <;> cases f <;> rfl

def fnd (s : SiteD) (st : StateD) (x : Nat) : Bool := (List.range x).any fun i => decide (0 ≤ bestF s st i)
def fnd2 (s : SiteD) (st : StateD) (x y : Nat) : Bool := fnd s st x || (List.range y).any fun j => actF s st x && badF s st x j

theorem fnd2_succ {x y : Nat} : fnd2 s st x (y + 1) = (fnd2 s st x y || (actF s st x && badF s st x y)) := by
  unfold fnd2
  rw [List.range_succ, List.any_append, ← Bool.or_assoc]
  simp

theorem fnd2_start {x : Nat} : fnd2 s st x (x + 1) = fnd s st x := by
  unfold fnd2
  have : ((List.range (x + 1)).any fun j => actF s st x && badF s st x j) = false := by
    rw [List.any_eq_false]
    intro j hj
    have : ¬ x < j := by simp at hj; omega
    simp [badF, this]
  rw [this, Bool.or_false]

theorem best_any {x : Nat} : decide (0 ≤ bestF s st x) = (List.range st.shelves.length).any fun j => actF s st x && badF s st x j := by
  unfold bestF
  cases h : actF s st x with
  | false => simp
  | true =>
    simp only [if_true, Bool.true_and]
    rcases idxF_spec (badF s st x) st.shelves.length with ⟨h1, h2⟩ | ⟨i, h1, h2, h3, h4⟩
    · rw [h1]
      symm
      have : ((List.range st.shelves.length).any fun j => badF s st x j) = false := by
        rw [List.any_eq_false]
        intro j hj
        rw [h2 j (by simpa using hj)]; simp
      rw [this]; rfl
    · rw [h4]
      symm
      have : ((List.range st.shelves.length).any fun j => badF s st x j) = true := by
        rw [List.any_eq_true]
        exact ⟨i, by simpa using h1, h2⟩
      rw [this]
      simp

theorem fnd_succ {x : Nat} : fnd s st (x + 1) = fnd2 s st x st.shelves.length := by
  unfold fnd fnd2 fnd
  rw [List.range_succ, List.any_append]
  simp only [List.any_cons, List.any_nil, Bool.or_false]
  rw [best_any]

theorem fnd_all : fnd s st st.shelves.length = apOk s st := by
  unfold fnd apOk hitI
  rcases idxF_spec (fun i => decide (0 ≤ bestF s st i)) st.shelves.length with ⟨h1, h2⟩ | ⟨i, h1, h2, h3, h4⟩
  · rw [h1]
    have : ((List.range st.shelves.length).any fun i => decide (0 ≤ bestF s st i)) = false := by
      rw [List.any_eq_false]
      intro j hj
      rw [h2 j (by simpa using hj)]; simp
    rw [this]; rfl
  · rw [h4]
    have : ((List.range st.shelves.length).any fun i => decide (0 ≤ bestF s st i)) = true := by
      rw [List.any_eq_true]
      exact ⟨i, by simpa using h1, h2⟩
    rw [this]; simp

theorem first_hit {x y : Nat} (hx : x < st.shelves.length) (hy : y < st.shelves.length) (h0 : fnd2 s st x y = false) (h1 : (actF s st x && badF s st x y) = true) : apOk s st = true ∧ apA s st = x ∧ apB s st = y := by
  unfold fnd2 fnd at h0
  simp only [Bool.or_eq_false_iff, List.any_eq_false, List.mem_range, Bool.not_eq_true] at h0
  obtain ⟨h2, h3⟩ := h0
  simp only [Bool.and_eq_true] at h1
  have hb : bestF s st x = y := by
    rw [bestF, if_pos h1.1]
    exact idxF_hit hy h1.2 (fun j hj => by have := h3 j hj; rw [h1.1, Bool.true_and] at this; exact this)
  have hh : hitI s st = x := idxF_hit hx (by rw [hb]; simp) (fun j hj => h2 j hj)
  have h4 : (0 : Int) ≤ hitI s st := by omega
  simp [apOk, apA, apB, h4, hh, hb]

def lw (s : SiteD) (st : StateD) (x : Nat) : Nat → Option T := upd (upd (upd (upd (upd (upd (upd emp 2 (tC (.ptr 0 0 0 0))) 3 (tC (.ptr 1 0 0 0))) 5 (tB true)) 6 (tI (apA s st))) 7 (tI (apB s st))) 8 (tB (apOk s st))) 10 (tI x)
def lwK (s : SiteD) (st : StateD) : KMap := upd (upd emp 0 (.row 0 9 [encSite s])) 1 (.row 0 6 [encState st])
def lw2 (s : SiteD) (st : StateD) (x y : Nat) : St := ⟨upd (upd (lw s st x) 9 (tB (fnd2 s st x y))) 11 (tI y), lwK s st, 2⟩

theorem f3a (h : Fits s st) {x : Nat} (hx : x < st.shelves.length) {Q : XE → St → Prop} (hQ : Q (.exit 2) ⟨upd (upd (upd (upd (upd (lw2 s st x st.shelves.length).tm 40 (tI st.shelves.length)) 41 (tC (.ptr 1 0 0 1))) 42 (tC (.r (.rd 1 (ints st.shelves))))) 43 (tI st.shelves.length)) 44 (tB (decide ((st.shelves.length : Int) < st.shelves.length))), lwK s st, 2⟩) :
    ∀ y, (x + 1 ≤ y ∧ y ≤ st.shelves.length) → awp Try.prog 0 s3_40 (lw2 s st x y) (roundQ 0 (lw2 s st x) (fun y => st.shelves.length - y) (fun y => x + 1 ≤ y ∧ y ≤ st.shelves.length) y Q) := by
  rintro y ⟨hxy, hy⟩
  have hns : st.shelves.length ≤ 20 := by have := h.few.ns; have := h.nsh; omega
  have hna : s.aparts.length ≤ 140737488355328 := by have := h.few.na; omega
  have hnr : st.robots.length ≤ 140737488355328 := by have := h.nr; omega
  simp only [go_sem, s3_40, lw2, lw, lwK, encState, ints_len, ↓reduceIte, reduceCtorEq, Nat.reduceEqDiff, Nat.reduceAdd, Nat.reduceSub, Nat.reduceMul, Nat.reduceLT, Nat.reduceLeDiff, Int.reduceToNat]
  refine twoQ_at (fun g => ?_) (fun g => ?_)
  · have hy' : y < st.shelves.length := by simpa using g
    have hwr : IntKind.i64.wrap ((y : Int) + 1) = ((y + 1 : Nat) : Int) := wrap_i (by omega) (by omega)
    have hbad := lawBad_eq h hx hy' hxy
    have next : ∀ {tm : Nat → Option T}, TmCut (lw s st x) tm → tm 9 = some (tB (fnd2 s st x (y + 1))) → tm 11 = some (tI y) →
        awp Try.prog 0 s3_12 ⟨tm, lwK s st, 2⟩ (roundQ 0 (lw2 s st x) (fun y => st.shelves.length - y) (fun y => x + 1 ≤ y ∧ y ≤ st.shelves.length) y Q) := by
      intro tm hc h9 h11
      simp only [go_sem, s3_12, h11, ↓reduceIte, reduceCtorEq, Nat.reduceEqDiff, Nat.reduceAdd, Nat.reduceSub, Nat.reduceMul, Nat.reduceLT, Nat.reduceLeDiff, Int.reduceToNat]
      refine ⟨y + 1, by omega, by omega, Weak.cutTm (TmCut.cons (by rw [← hwr]; rfl) (TmCut.cons h9 (.skip (.skip (.skip hc rfl) rfl) rfl)))⟩
    simp only [go_sem, s3_39, encSite, ↓reduceIte, reduceCtorEq, Nat.reduceEqDiff, Nat.reduceAdd, Nat.reduceSub, Nat.reduceMul, Nat.reduceLT, Nat.reduceLeDiff, Int.reduceToNat]
    refine Pure.callS (f12 (s := s) x) rfl ?_
    simp only [go_sem, s3_38, ↓reduceIte, reduceCtorEq, Nat.reduceEqDiff, Nat.reduceAdd, Nat.reduceSub, Nat.reduceMul, Nat.reduceLT, Nat.reduceLeDiff, Int.reduceToNat]
    refine Pure.callS (f12 (s := s) y) rfl ?_
    simp only [go_sem, s3_37, ↓reduceIte, reduceCtorEq, Nat.reduceEqDiff, Nat.reduceAdd, Nat.reduceSub, Nat.reduceMul, Nat.reduceLT, Nat.reduceLeDiff, Int.reduceToNat]
    refine Pure.callS (f11 (s := s) hna _ _) rfl ?_
    simp only [go_sem, s3_36, s3_35, encSite, ↓reduceIte, reduceCtorEq, Nat.reduceEqDiff, Nat.reduceAdd, Nat.reduceSub, Nat.reduceMul, Nat.reduceLT, Nat.reduceLeDiff, Int.reduceToNat]
    refine Pure.callS (f12 (s := s) y) rfl ?_
    simp only [go_sem, s3_34, ↓reduceIte, reduceCtorEq, Nat.reduceEqDiff, Nat.reduceAdd, Nat.reduceSub, Nat.reduceMul, Nat.reduceLT, Nat.reduceLeDiff, Int.reduceToNat]
    refine Pure.callS (f12 (s := s) x) rfl ?_
    simp only [go_sem, s3_33, ↓reduceIte, reduceCtorEq, Nat.reduceEqDiff, Nat.reduceAdd, Nat.reduceSub, Nat.reduceMul, Nat.reduceLT, Nat.reduceLeDiff, Int.reduceToNat]
    refine Pure.callS (f11 (s := s) hna _ _) rfl ?_
    rw [neverF_symm (a := classF s y)]
    have hne : ∀ b : Bool, (b != b) = false := fun b => by cases b <;> rfl
    simp only [go_sem, s3_32, s3_31, hne, ↓reduceIte, reduceCtorEq, Nat.reduceEqDiff, Nat.reduceAdd, Nat.reduceSub, Nat.reduceMul, Nat.reduceLT, Nat.reduceLeDiff, Int.reduceToNat]
    have hlw : ∀ (a b : T), TmCut (lw s st x) (upd (upd (lw s st x) 9 a) 11 b) := fun a b => .skip (.skip (fun _ _ h => h) rfl) rfl
    have skip : lawBad s st x y = false → ∀ {tm : Nat → Option T}, tm 92 = some (tB false) → TmCut (lw s st x) tm → tm 9 = some (tB (fnd2 s st x y)) → tm 11 = some (tI y) →
        awp Try.prog 0 s3_22 ⟨tm, lwK s st, 2⟩ (blockQ 3 (seqQ (fun s_1 => awp Try.prog 0 s3_12 s_1 (roundQ 0 (lw2 s st x) (fun y => st.shelves.length - y) (fun y => x + 1 ≤ y ∧ y ≤ st.shelves.length) y Q)) (roundQ 0 (lw2 s st x) (fun y => st.shelves.length - y) (fun y => x + 1 ≤ y ∧ y ≤ st.shelves.length) y Q))) := by
      intro hb tm h92 hc h9 h11
      simp only [go_sem, s3_22, h92, ↓reduceIte, reduceCtorEq, Nat.reduceEqDiff, Nat.reduceAdd, Nat.reduceSub, Nat.reduceMul, Nat.reduceLT, Nat.reduceLeDiff, Int.reduceToNat]
      refine next hc ?_ h11
      rw [fnd2_succ, ← hbad, hb, Bool.or_false]
      exact h9
    simp only [go_sem, s3_29, ↓reduceIte, reduceCtorEq, Nat.reduceEqDiff, Nat.reduceAdd, Nat.reduceSub, Nat.reduceMul, Nat.reduceLT, Nat.reduceLeDiff, Int.reduceToNat]
    refine guardQ_at (fun g1 => ?_) (fun g1 => ?_)
    · have hs1 : st.shelves.getD x 0 = shelfAt st x := rfl
      have hs2 : st.shelves.getD y 0 = shelfAt st y := rfl
      simp only [go_sem, s3_28, encSite, encState, ints_len, ints_at hx, ints_at hy', Int.toNat_natCast, hs1, hs2, ↓reduceIte, reduceCtorEq, Nat.reduceEqDiff, Nat.reduceAdd, Nat.reduceSub, Nat.reduceMul, Nat.reduceLT, Nat.reduceLeDiff, Int.reduceToNat]
      refine ⟨⟨by omega, by omega⟩, ⟨by omega, by omega⟩, Pure.callS (f13 h.ok.floor _ _) rfl ?_⟩
      simp only [go_sem, s3_27, ↓reduceIte, reduceCtorEq, Nat.reduceEqDiff, Nat.reduceAdd, Nat.reduceSub, Nat.reduceMul, Nat.reduceLT, Nat.reduceLeDiff, Int.reduceToNat]
      refine guardQ_at (fun g2 => ?_) (fun g2 => ?_)
      · simp only [go_sem, s3_26, encState, ↓reduceIte, reduceCtorEq, Nat.reduceEqDiff, Nat.reduceAdd, Nat.reduceSub, Nat.reduceMul, Nat.reduceLT, Nat.reduceLeDiff, Int.reduceToNat]
        refine Pure.callS (f14 st x hnr) rfl ?_
        simp only [go_sem, s3_25, encState, ↓reduceIte, reduceCtorEq, Nat.reduceEqDiff, Nat.reduceAdd, Nat.reduceSub, Nat.reduceMul, Nat.reduceLT, Nat.reduceLeDiff, Int.reduceToNat]
        refine guardQ_at (fun g3 => ?_) (fun g3 => ?_)
        · simp only [go_sem, s3_24, encState, ↓reduceIte, reduceCtorEq, Nat.reduceEqDiff, Nat.reduceAdd, Nat.reduceSub, Nat.reduceMul, Nat.reduceLT, Nat.reduceLeDiff, Int.reduceToNat]
          refine Pure.callS (f14 st y hnr) rfl ?_
          simp only [go_sem, s3_23, ↓reduceIte, reduceCtorEq, Nat.reduceEqDiff, Nat.reduceAdd, Nat.reduceSub, Nat.reduceMul, Nat.reduceLT, Nat.reduceLeDiff, Int.reduceToNat]
          cases g4 : decide (carriedF st y < 0) with
          | false =>
            refine skip (by unfold lawBad; rw [g4]; simp) rfl ?_ rfl rfl
            repeat (first | exact hlw _ _ | refine TmCut.skip ?_ rfl)
          | true =>
            have hb : lawBad s st x y = true := by unfold lawBad; rw [g1, g2, g3, g4]; rfl
            simp only [go_sem, s3_22, s3_21, ↓reduceIte, reduceCtorEq, Nat.reduceEqDiff, Nat.reduceAdd, Nat.reduceSub, Nat.reduceMul, Nat.reduceLT, Nat.reduceLeDiff, Int.reduceToNat]
            cases g5 : fnd2 s st x y with
            | true =>
              simp only [go_sem, s3_20, s3_19, s3_18, s3_17, s3_16, s3_15, s3_13, ↓reduceIte, reduceCtorEq, Nat.reduceEqDiff, Nat.reduceAdd, Nat.reduceSub, Nat.reduceMul, Nat.reduceLT, Nat.reduceLeDiff, Int.reduceToNat]
              refine next ?_ (by rw [fnd2_succ, g5]; rfl) rfl
              unfold lw
              repeat (first | refine TmCut.cons rfl ?_ | exact TmCut.nil)
            | false =>
              obtain ⟨k1, k2, k3⟩ := first_hit hx hy' g5 (by rw [← hbad]; exact hb)
              have kk1 : ¬ ((x : Int) ≠ (x : Int)) := fun h => h rfl
              simp only [go_sem, s3_20, s3_19, s3_18, s3_17, s3_16, s3_15, s3_13, k1, k2, k3, ne_eq, not_true_eq_false, decide_false, ↓reduceIte, reduceCtorEq, Nat.reduceEqDiff, Nat.reduceAdd, Nat.reduceSub, Nat.reduceMul, Nat.reduceLT, Nat.reduceLeDiff, Int.reduceToNat]
              refine next ?_ (by rw [fnd2_succ, ← hbad, hb, Bool.or_true]; rfl) rfl
              unfold lw
              rw [k1, k2, k3]
              repeat (first | refine TmCut.cons rfl ?_ | exact TmCut.nil)
        · simp only [go_sem, s3_24, s3_23, ↓reduceIte, reduceCtorEq, Nat.reduceEqDiff, Nat.reduceAdd, Nat.reduceSub, Nat.reduceMul, Nat.reduceLT, Nat.reduceLeDiff, Int.reduceToNat]
          simp only [Bool.not_true] at g3
          refine skip (by unfold lawBad; rw [g3]; simp) rfl ?_ rfl rfl
          repeat (first | exact hlw _ _ | refine TmCut.skip ?_ rfl)
      · simp only [go_sem, s3_26, s3_25, s3_24, s3_23, ↓reduceIte, reduceCtorEq, Nat.reduceEqDiff, Nat.reduceAdd, Nat.reduceSub, Nat.reduceMul, Nat.reduceLT, Nat.reduceLeDiff, Int.reduceToNat]
        simp only [Bool.not_true] at g2
        refine skip (by unfold lawBad; rw [g2]; simp) rfl ?_ rfl rfl
        repeat (first | exact hlw _ _ | refine TmCut.skip ?_ rfl)
    · simp only [go_sem, s3_28, s3_27, s3_26, s3_25, s3_24, s3_23, ↓reduceIte, reduceCtorEq, Nat.reduceEqDiff, Nat.reduceAdd, Nat.reduceSub, Nat.reduceMul, Nat.reduceLT, Nat.reduceLeDiff, Int.reduceToNat]
      simp only [Bool.not_true] at g1
      refine skip (by unfold lawBad; rw [g1]; simp) rfl ?_ rfl rfl
      repeat (first | exact hlw _ _ | refine TmCut.skip ?_ rfl)
  · have hy' : y = st.shelves.length := by simp at g; omega
    subst hy'
    exact hQ
end Go.Proofs.Ytcocbifjjafknaa.AL

/- The law RulesApart. -/
set_option linter.unusedSimpArgs false
set_option linter.unusedVariables false
namespace Go.Proofs.Ytcocbifjjafknaa.AL
open Go
variable {s : SiteD} {st : StateD}

/-- Robots that carry the first n shelves. -/
def liftR (n : Nat) : List RobotD := (List.range n).map fun k : Nat => ⟨0, (k : Int), 0, 0, 0, false⟩
theorem liftR_succ {n : Nat} : liftR (n + 1) = liftR n ++ [⟨0, (n : Int), 0, 0, 0, false⟩] := by simp [liftR, List.range_succ]
theorem liftR_len {n : Nat} : (liftR n).length = n := by simp [liftR]
def liftS (st : StateD) : StateD := { st with robots := liftR st.shelves.length }

theorem lift_carried {i : Nat} (hi : i < st.shelves.length) : ¬ carriedF (liftS st) i < 0 := by
  unfold carriedF
  rw [if_neg (by omega)]
  rcases idxF_spec (fun j => decide (((liftS st).robots.getD j default).load = (i : Int))) (liftS st).robots.length with ⟨_, h2⟩ | ⟨j, _, _, _, h4⟩
  · have := h2 i (by show i < (liftR st.shelves.length).length; rw [liftR_len]; exact hi)
    simp [liftS, liftR, hi] at this
  · rw [h4]; omega

theorem lift_last : carriedF (liftS st) (st.shelves.length : Nat) = -1 := by
  unfold carriedF
  rw [if_neg (by omega)]
  refine idxF_none fun j hj => ?_
  have hj' : j < st.shelves.length := by
    have : (liftS st).robots.length = st.shelves.length := liftR_len
    omega
  simp [liftS, liftR, hj']
  omega

theorem lift_ok : apOk s (liftS st) = false := by
  have hb : ∀ i, i < (liftS st).shelves.length → decide (0 ≤ bestF s (liftS st) i) = false := fun i hi => by
    have ha : actF s (liftS st) i = false := by
      unfold actF
      have h1 := lift_carried (st := st) (i := i) hi
      rw [decide_eq_false h1, Bool.and_false]
    rw [bestF, ha]
    rfl
  have : hitI s (liftS st) = -1 := idxF_none hb
  simp [apOk, this]

def l1 (s : SiteD) (st : StateD) (x : Nat) : St := ⟨upd (lw s st x) 9 (tB (fnd s st x)), lwK s st, 2⟩

theorem f3b (h : Fits s st) {Q : XE → St → Prop} (hQ : Q (.exit 0) ⟨upd (upd (upd (upd (upd (l1 s st st.shelves.length).tm 31 (tI st.shelves.length)) 32 (tC (.ptr 1 0 0 1))) 33 (tC (.r (.rd 1 (ints st.shelves))))) 34 (tI st.shelves.length)) 35 (tB (decide ((st.shelves.length : Int) < st.shelves.length))), lwK s st, 2⟩) :
    ∀ x, x ≤ st.shelves.length → awp Try.prog 0 s3_42 (l1 s st x) (roundQ 0 (l1 s st) (fun x => st.shelves.length - x) (fun x => x ≤ st.shelves.length) x Q) := by
  intro x hx
  have hns : st.shelves.length ≤ 20 := by have := h.few.ns; have := h.nsh; omega
  simp only [go_sem, s3_42, l1, lw, lwK, encState, ints_len, ↓reduceIte, reduceCtorEq, Nat.reduceEqDiff, Nat.reduceAdd, Nat.reduceSub, Nat.reduceMul, Nat.reduceLT, Nat.reduceLeDiff, Int.reduceToNat]
  refine twoQ_at (fun g => ?_) (fun g => ?_)
  · have hx' : x < st.shelves.length := by simpa using g
    have hwr : IntKind.i64.wrap ((x : Int) + 1) = ((x + 1 : Nat) : Int) := wrap_i (by omega) (by omega)
    simp only [go_sem, s3_41, ↓reduceIte, reduceCtorEq, Nat.reduceEqDiff, Nat.reduceAdd, Nat.reduceSub, Nat.reduceMul, Nat.reduceLT, Nat.reduceLeDiff, Int.reduceToNat]
    refine awp_loop (lw2 s st x) (fun y => st.shelves.length - y) (fun y => x + 1 ≤ y ∧ y ≤ st.shelves.length) (x + 1) ⟨Nat.le_refl _, hx'⟩ ?_ (f3a h hx' ?_)
    · refine Weak.cutTm ?_
      rw [hwr, fnd2_start]
      unfold lw
      repeat (first | refine TmCut.cons rfl ?_ | exact TmCut.nil)
    · simp only [go_sem, lw2, lw, lwK, s3_11, ↓reduceIte, reduceCtorEq, Nat.reduceEqDiff, Nat.reduceAdd, Nat.reduceSub, Nat.reduceMul, Nat.reduceLT, Nat.reduceLeDiff, Int.reduceToNat]
      refine ⟨x + 1, by omega, by omega, ?_⟩
      rw [hwr]
      refine Weak.cutTm ?_
      rw [fnd_succ]
      unfold lw
      repeat (first | refine TmCut.cons rfl ?_ | exact TmCut.nil)
  · have hx' : x = st.shelves.length := by simp at g; omega
    subst hx'
    exact hQ

/-- The state in which every shelf is carried, as it is made. -/
def liftC (st : StateD) (v n : Nat) : List C := [cV (.int .i64 st.tick), .r (.rd 1 (ints st.shelves)), .own 3 v 0 n, .r (.rd 1 (ints st.people)), .r (.rd 1 (ints st.dead)), .r (.rd 2 (spans st.stuck))]

def l2 (s : SiteD) (st : StateD) (x : Nat × Nat) : St :=
  ⟨upd (upd (upd (upd (upd (upd (upd emp 2 (tC (.ptr 0 0 0 0))) 3 (tC (.ptr 1 0 0 0))) 5 (tB true)) 8 (tB (apOk s st))) 9 (tB (apOk s st))) 13 (tC (.ptr 2 0 0 0))) 14 (tI x.1),
    upd (upd (upd (upd emp 0 (.row 0 9 [encSite s])) 1 (.row 0 6 [encState st])) 2 (.row 0 6 [liftC st x.2 x.1])) 3 (.row x.2 6 (rowC encRobot (liftR x.1))), 4⟩

theorem f3c (h : Fits s st) {Q : XE → St → Prop} (hQ : ∀ v, Q (.exit 4) ⟨upd (upd (upd (upd (upd (l2 s st (st.shelves.length, v)).tm 111 (tI st.shelves.length)) 112 (tC (.ptr 1 0 0 1))) 113 (tC (.r (.rd 1 (ints st.shelves))))) 114 (tI st.shelves.length)) 115 (tB (decide ((st.shelves.length : Int) < st.shelves.length))), (l2 s st (st.shelves.length, v)).K, 4⟩) :
    ∀ x : Nat × Nat, x.1 ≤ st.shelves.length → awp Try.prog 0 s3_9 (l2 s st x) (roundQ 0 (l2 s st) (fun x => st.shelves.length - x.1) (fun x => x.1 ≤ st.shelves.length) x Q) := by
  rintro ⟨i, v⟩ hi
  simp only at hi
  have hns : st.shelves.length ≤ 20 := by have := h.few.ns; have := h.nsh; omega
  simp only [go_sem, s3_9, l2, encState, ints_len, ↓reduceIte, reduceCtorEq, Nat.reduceEqDiff, Nat.reduceAdd, Nat.reduceSub, Nat.reduceMul, Nat.reduceLT, Nat.reduceLeDiff, Int.reduceToNat]
  refine twoQ_at (fun g => ?_) (fun g => ?_)
  · have hi' : i < st.shelves.length := by simpa using g
    have hwr : IntKind.i64.wrap ((i : Int) + 1) = ((i + 1 : Nat) : Int) := wrap_i (by omega) (by omega)
    simp only [go_sem, s3_8, liftC, evAppend, srcRows, rowsOf, rowC_len, liftR_len, ↓reduceIte, reduceCtorEq, Nat.reduceEqDiff, Nat.reduceAdd, Nat.reduceSub, Nat.reduceMul, Nat.reduceLT, Nat.reduceLeDiff, Int.reduceToNat]
    refine ⟨by omega, (i + 1, v + 1), by simp only; omega, by simp only; omega, ?_⟩
    rw [hwr]
    have hrow : rowC encRobot (liftR i) ++ [[cV (Value.int .i64 0), C.r (R.val (Value.int .i64 (i : Int))), cV (Value.int .i64 0), cV (Value.int .i64 0), cV (Value.int .i64 0), cV (Value.bool false)]] = rowC encRobot (liftR (i + 1)) := by rw [liftR_succ, ← rowC_app]; rfl
    rw [hrow]
    exact Weak.keep (by repeat (first | refine TmLe.cons rfl rfl ?_ | refine TmLe.cons (by simp [upd, *]) rfl ?_ | exact TmLe.nil)) (by repeat (first | refine KLe.cons (by omega) (by first | rfl | (simp [upd, *]; done) | (simp [joinK, upd, addN, ho.ren]; done)) (by first | rfl | exact IMap.bel (by assumption) | exact intC_bel | exact rowC_bel) ?_ | exact KLe.nil)) (by first | omega | exact Nat.le_refl _ | (dsimp only; omega)) (by first | omega | exact Nat.le_refl _ | (dsimp only; omega))
  · have hi' : i = st.shelves.length := by simp at g; omega
    subst hi'
    exact hQ v

theorem castV_refl {K : KMap} {cs : List C} (h : cs.all (C.below 0) = true) : liftV (CastC K) (.agg cs) (.agg cs) := by
  refine ⟨rfl, fun i c c1 h1 h2 => ?_⟩
  rw [h1] at h2
  cases h2
  rw [List.all_eq_true] at h
  exact .inl ⟨rfl, h c (List.mem_of_getElem? h1)⟩

theorem lift_cast {K : KMap} {v : Nat} (hK : K 3 = some (.row v 6 (rowC encRobot (liftR st.shelves.length)))) : liftV (CastC K) (.agg (liftC st v st.shelves.length)) (.agg (encState (liftS st))) := by
  have c2 : CastC K (.own 3 v 0 (liftR st.shelves.length).length) (.r (.rd 6 ((liftR st.shelves.length).map encRobot))) := rowC_cast (fun x => rfl) hK
  rw [liftR_len] at c2
  refine ⟨rfl, fun i c c' hi hi' => ?_⟩
  match i with
  | 0 => cases hi; cases hi'; exact .inl ⟨rfl, rfl⟩
  | 1 => cases hi; cases hi'; exact .inl ⟨rfl, rfl⟩
  | 2 => cases hi; cases hi'; exact c2
  | 3 => cases hi; cases hi'; exact .inl ⟨rfl, rfl⟩
  | 4 => cases hi; cases hi'; exact .inl ⟨rfl, rfl⟩
  | 5 => cases hi; cases hi'; exact .inl ⟨rfl, rfl⟩
  | i + 6 => simp [liftC] at hi

theorem f3 : Pure Try.prog 3 [.v (.agg (encSite s)), .v (.agg (encState st))] (· = tB true) := by
  refine Pure.of_awp hm Try.func3 s3_ok (by simp [s3]) ?_
  simp only [go_sem, s3, encSite, encState, ↓reduceIte, reduceCtorEq, Nat.reduceEqDiff, Nat.reduceAdd, Nat.reduceSub, Nat.reduceMul, Nat.reduceLT, Nat.reduceLeDiff, Int.reduceToNat]
  refine Pure.callS f8 rfl ?_
  simp only [go_sem, s3_50, s3_49, encSite, encState, ↓reduceIte, reduceCtorEq, Nat.reduceEqDiff, Nat.reduceAdd, Nat.reduceSub, Nat.reduceMul, Nat.reduceLT, Nat.reduceLeDiff, Int.reduceToNat]
  refine Pure.call (f9 (s := s) (st := st)) (liftA_refl rfl) ?_
  rintro _ ⟨b, rfl, hb⟩ _
  simp only [go_sem, s3_48, s3_47, ↓reduceIte, reduceCtorEq, Nat.reduceEqDiff, Nat.reduceAdd, Nat.reduceSub, Nat.reduceMul, Nat.reduceLT, Nat.reduceLeDiff, Int.reduceToNat]
  refine twoQ_at (fun g => ?_) (fun g => ?_)
  · simp only [go_sem, s3_46, ↓reduceIte, reduceCtorEq, Nat.reduceEqDiff, Nat.reduceAdd, Nat.reduceSub, Nat.reduceMul, Nat.reduceLT, Nat.reduceLeDiff, Int.reduceToNat]
    rfl
  simp only [Bool.not_eq_false'] at g
  have h := hb g
  have hns : st.shelves.length ≤ 20 := by have := h.few.ns; have := h.nsh; omega
  have hna := h.few.na
  have hnr := h.nr
  simp only [go_sem, s3_45, encSite, encState, ↓reduceIte, reduceCtorEq, Nat.reduceEqDiff, Nat.reduceAdd, Nat.reduceSub, Nat.reduceMul, Nat.reduceLT, Nat.reduceLeDiff, Int.reduceToNat]
  refine Pure.callS (f10 h.ok.floor (by omega) (by omega) (by omega)) rfl ?_
  simp only [go_sem, s3_44, s3_43, ↓reduceIte, reduceCtorEq, Nat.reduceEqDiff, Nat.reduceAdd, Nat.reduceSub, Nat.reduceMul, Nat.reduceLT, Nat.reduceLeDiff, Int.reduceToNat]
  refine awp_loop (l1 s st) (fun x => st.shelves.length - x) (fun x => x ≤ st.shelves.length) 0 (Nat.zero_le _) ?_ (f3b h ?_)
  · refine Weak.cutTm ?_
    unfold lw
    repeat (first | refine TmCut.cons rfl ?_ | exact TmCut.nil)
  simp only [go_sem, l1, lw, lwK, s3_10, encState, fnd_all, ↓reduceIte, reduceCtorEq, Nat.reduceEqDiff, Nat.reduceAdd, Nat.reduceSub, Nat.reduceMul, Nat.reduceLT, Nat.reduceLeDiff, Int.reduceToNat]
  refine awp_loop (l2 s st) (fun x => st.shelves.length - x.1) (fun x => x.1 ≤ st.shelves.length) (0, 0) (Nat.zero_le _) ?_ (f3c h fun v => ?_)
  · refine Weak.trans (Weak.nilCell 2 2 6 6 _ rfl rfl) ?_
    exact Weak.keep (by repeat (first | refine TmLe.cons rfl rfl ?_ | refine TmLe.cons (by simp [upd, *]) rfl ?_ | exact TmLe.nil)) (by repeat (first | refine KLe.cons (by omega) (by first | rfl | (simp [upd, *]; done) | (simp [joinK, upd, addN, ho.ren]; done)) (by first | rfl | exact IMap.bel (by assumption) | exact intC_bel | exact rowC_bel) ?_ | exact KLe.nil)) (by first | omega | exact Nat.le_refl _ | (dsimp only; omega)) (by first | omega | exact Nat.le_refl _ | (dsimp only; omega))
  have e1 : (liftC st v st.shelves.length).take 6 = liftC st v st.shelves.length := rfl
  have e2 : (encSite s).take 9 = encSite s := rfl
  have e3 : (liftC st v st.shelves.length).length = 6 := rfl
  have e4 : (encSite s).length = 9 := rfl
  have hrob : (liftS st).robots.length = st.shelves.length := liftR_len
  have hsh : (liftS st).shelves = st.shelves := rfl
  simp only [go_sem, l2, s3_7, e1, e2, e3, e4, ↓reduceIte, reduceCtorEq, Nat.reduceEqDiff, Nat.reduceAdd, Nat.reduceSub, Nat.reduceMul, Nat.reduceLT, Nat.reduceLeDiff, Int.reduceToNat]
  refine Pure.castS (f10 (s := s) (st := liftS st) h.ok.floor (by omega) (by rw [hrob]; omega) (by rw [hsh]; omega)) ⟨castV_refl rfl, lift_cast rfl, trivial⟩ rfl ?_
  rw [lift_ok]
  have hbb : ∀ b : Bool, (b == b) = true := fun b => by cases b <;> rfl
  simp only [go_sem, s3_6, s3_5, s3_4, s3_3, hbb, e1, e3, ↓reduceIte, reduceCtorEq, Nat.reduceEqDiff, Nat.reduceAdd, Nat.reduceSub, Nat.reduceMul, Nat.reduceLT, Nat.reduceLeDiff, Int.reduceToNat]
  simp only [go_sem, s3_2, encState, ints_len, ↓reduceIte, reduceCtorEq, Nat.reduceEqDiff, Nat.reduceAdd, Nat.reduceSub, Nat.reduceMul, Nat.reduceLT, Nat.reduceLeDiff, Int.reduceToNat]
  refine Pure.castS (f14 (liftS st) (st.shelves.length : Nat) (by rw [hrob]; omega)) ⟨lift_cast rfl, .inl ⟨rfl, rfl⟩, trivial⟩ rfl ?_
  rw [lift_last]
  simp only [go_sem, s3_1, eq_self, decide_true, ↓reduceIte, reduceCtorEq, Nat.reduceEqDiff, Nat.reduceAdd, Nat.reduceSub, Nat.reduceMul, Nat.reduceLT, Nat.reduceLeDiff, Int.reduceToNat]
  rfl
end Go.Proofs.Ytcocbifjjafknaa.AL

/- THE LAW RulesApart HOLDS: whatever site and state it is called with, it returns true, and what was there before the call is as it was. No condition. -/
namespace Go.Proofs.Ytcocbifjjafknaa.rulesApart
open Go.ChangeShapes Go.WideShapes Go.ChangeAt Go.RowKit Go.Proofs.Ytcocbifjjafknaa.AL
set_option linter.unusedVariables false

theorem own : ownKnob Try.prog.godebug = none := by kernel_rfl
theorem laidOut : laidOutB Try.prog = true := by kernel_rfl

set_option maxRecDepth 100000 in
theorem lifted (os : Os) (started : os.Started) (H : Type) (enc : TypeId × Value → H) :
    ReturnsInHanded {} Try.checked os 3 .any (Rows.rulesApartSpec.pre6 enc Try.prog Try.f3 Rows.rulesApartRow.domain false) (Rows.rulesApartSpec.post enc Try.prog Try.f3 false true false false) := by
  refine returnsInHanded_of_change_sized (C := Try.checked) own started (by kernel_rfl) Try.func3
    (ChangeSpec.witness6 (enc := enc) (C := Try.checked) false ⟨#[], #[.agg #[.int .i64 0, .int .i64 0, .int .i64 0, nilS, nilS, nilS, nilS, nilS, nilS], .agg #[.int .i64 0, nilS, nilS, nilS, nilS, nilS]], []⟩ 8 (by kernel_rfl) (by kernel_rfl) (by kernel_rfl) (by kernel_rfl)) ?_
  intro W base args ds gs before hval0 hW hcnd hsz0 _
  have hval : ∀ (j : Nat) t v, Try.f3.params[j]? = some t → args[j]? = some v → Value.okWide Try.prog W .any base t v := hval0
  have hW' := hW
  obtain ⟨p, q, hA0, hV, rfl, hfz, hnd⟩ := hW
  have hA : DataW.TrodAll enc Try.prog W 0 (fun _ => true) true Try.f3.params.toList args.toList ds p := hA0
  rw [Try.params3] at hA hval
  obtain ⟨v0, vs0, d0, ds0, p0, q0, hargs, rfl, rfl, h0, r0⟩ := trodAll_cons hA
  obtain ⟨v1, vs1, d1, ds1, p1, q1, rfl, rfl, rfl, h1, r1⟩ := trodAll_cons r0
  obtain ⟨rfl, rfl, rfl⟩ := trodAll_nil r1
  obtain rfl : args = #[v0, v1] := by cases args; simp_all
  obtain ⟨rfl, rfl⟩ := trodVars_none hV
  obtain ⟨s, hs⟩ := site_read (hval 0 30 v0 rfl rfl) h0
  obtain ⟨st, hst⟩ := state_read (hval 1 34 v1 rfl rfl) h1
  have lt0 : ∀ x ∈ p0, x.block < W.heap.size := by obtain ⟨m, hm⟩ := h0; exact DataW.trod_lt m _ _ _ hm
  have lt1 : ∀ x ∈ p1, x.block < W.heap.size := by obtain ⟨m, hm⟩ := h1; exact DataW.trod_lt m _ _ _ hm
  clear hA0 hval0 hsz0
  refine (row_of f3 (argsRep_cons hs (argsRep_cons hst argsRep_nil))).mono fun e W' ⟨he, bel⟩ => ?_
  subst he
  exact ⟨_, rfl, _, _, _, [], _, [], hW', trodAll_mk1 (shut_bool Try.underlying4 _),
    trodAll_cons_mk (Below.trod laidOut (by kernel_rfl) (of_decide_eq_true (by kernel_rfl)) h0 bel lt0) (trodAll_cons_mk (Below.trod laidOut (by kernel_rfl) (of_decide_eq_true (by kernel_rfl)) h1 bel lt1) trodAll_mk0),
    rfl, bel.frame _, fun h => by cases h⟩

theorem over : Rows.rulesApartRow.holds Try.pinned (OpenSpec.ofChange Rows.rulesApartSpec) :=
  OpenClaim.holds_of_wide 3 Try.f3 rfl rfl rfl rfl rfl rfl rfl ⟨rfl, rfl, rfl, rfl, rfl⟩ rfl rfl rfl rfl rfl (by kernel_rfl) Try.func3 (by kernel_rfl)
    (of_decide_eq_true (by kernel_rfl)) (by unfold Func.isWrapper; first | (rw [if_pos (by decide +kernel)]; kernel_rfl) | (rw [if_neg (by decide +kernel)]; exact ⟨rfl, rfl⟩))
    (fun os started H enc _ => lifted os started H enc)
end Go.Proofs.Ytcocbifjjafknaa.rulesApart

namespace Go.Proofs.Ytcocbifjjafknaa
theorem rulesApart_holds : Rows.RulesApartSaid := rulesApart.over
end Go.Proofs.Ytcocbifjjafknaa
#print axioms Go.Proofs.Ytcocbifjjafknaa.rulesApart_holds
