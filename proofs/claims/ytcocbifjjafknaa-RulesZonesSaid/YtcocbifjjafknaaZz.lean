/- THE LAW RulesZones HOLDS: whatever site and tick it is called with, it returns true, and what was there before the call is as it was. No condition. -/
import Derived.Test.YtcocbifjjafknaaMb
import Derived.Test.YtcocbifjjafknaaRows
import Derived.WalkKit
import Derived.ProofKit
import Derived.OpenShut
import Derived.ShutString
import Derived.ChangeOld
import Derived.Below
import Derived.SizedLaws
import Derived.Carry

/- What RulesZones asks, in plain terms. -/
set_option linter.unusedSimpArgs false
set_option linter.unusedVariables false
namespace Go.Proofs.Ytcocbifjjafknaa.AL
open Go
variable {s : SiteD} {st : StateD}

/-- A call that hands own rows as data. -/
theorem Pure.castP {P : Program} {f : FuncId} {args args1 : List T} {Φ : T → Prop} (hs : Pure P f args1 Φ) {q : Bool} {K : KMap} {N : Nat} {R : T → KMap → Nat → Prop} (ha : liftA (CastC K) args args1) (hv : ∀ d, Φ d → d.flat = true) (hR : ∀ d, Φ d → R d K N) : CallW P q f args K N R := by
  refine CallW.wf (fun hw => Spec.cast hs ha ?_ ?_) hs.1
  · rintro d K1 N1 ⟨h1, h2, rfl, rfl⟩
    exact ⟨hv d h1, fun id o h => by cases h⟩
  · rintro d K1 N1 ⟨h1, h2, rfl, rfl⟩
    rw [T.ren_below h2, joinK_emp hw]
    exact hR d h1

theorem SiteOk.zok (hf : FewOk s 60 20) (h : SiteOk s) : ZonesOk s :=
  ⟨by have := hf.nz; omega, fun i hi => by have := (hf.zc i hi).1; omega, fun i hi => (h.zones i hi).asc, fun i hi => by have := (hf.zc i hi).2; omega⟩

theorem idxF_step {p : Nat → Bool} {n : Nat} (h : p n = true → ∀ j, j < n → p j = false) : idxF p (n + 1) = if p n = true then (n : Int) else idxF p n := by
  by_cases hp : p n = true
  · rw [if_pos hp, idxF_hit (Nat.lt_succ_self n) hp (h hp)]
  · rw [if_neg hp]
    have hp' : p n = false := by simpa using hp
    rcases idxF_spec p n with ⟨h1, h2⟩ | ⟨i, h1, h2, h3, h4⟩
    · rw [h1]
      refine idxF_none fun j hj => ?_
      by_cases e : j = n
      · subst e; exact hp'
      · exact h2 j (by omega)
    · rw [h4]; exact idxF_hit (by omega) h2 h3

theorem hit_step {p : Nat → Bool} {n : Nat} : decide (0 ≤ idxF p (n + 1)) = (decide (0 ≤ idxF p n) || p n) := by
  rcases idxF_spec p n with ⟨h1, h2⟩ | ⟨i, h1, h2, h3, h4⟩
  · rw [idxF_step (fun _ => h2), h1]
    by_cases hp : p n = true
    · rw [if_pos hp, hp]; simp
    · rw [if_neg hp]
      have hp' : p n = false := by simpa using hp
      rw [hp']; simp
  · rw [h4, idxF_hit (show i < n + 1 by omega) h2 h3]; simp

/-- Zone i has the cell. -/
def zIn (s : SiteD) (c : Int) (i : Nat) : Bool := decide (c ∈ (s.zones.getD i default).cells)

theorem mem_at {l : List Int} {c : Int} (h : c ∈ l) : ∃ q, q < l.length ∧ l.getD q 0 = c := by
  obtain ⟨q, hq, e⟩ := List.mem_iff_getElem.1 h
  exact ⟨q, hq, by simp [hq, e]⟩

theorem zIn_disj (h : SiteOk s) {c : Int} {i : Nat} (hi : i < s.zones.length) (hz : zIn s c i = true) : ∀ j, j < i → zIn s c j = false := by
  intro j hj
  simp only [zIn, decide_eq_true_eq] at hz
  obtain ⟨q, hq, e⟩ := mem_at hz
  have := (h.zones i hi).disj q hq j hj
  rw [e] at this
  simp only [zIn, decide_eq_false_iff_not]
  exact this

theorem of_at {k : Int} {n i : Nat} (h : i < (ofKindN s k n).length) : ∃ c : Nat, c < n ∧ s.floor.kind.getD c 0 = k ∧ (ofKindN s k n).getD i 0 = c := by
  have hm : (ofKindN s k n).getD i 0 ∈ ofKindN s k n := by
    rw [show (ofKindN s k n).getD i 0 = (ofKindN s k n)[i] by simp [h]]
    exact List.getElem_mem h
  unfold ofKindN at hm
  rw [List.mem_map] at hm
  obtain ⟨c, hc, e⟩ := hm
  simp only [List.mem_filter, List.mem_range, decide_eq_true_eq] at hc
  exact ⟨c, hc.1, hc.2, e.symm⟩

theorem of_asc {k : Int} {n i j : Nat} (hij : i < j) (h : j < (ofKindN s k n).length) : (ofKindN s k n).getD i 0 < (ofKindN s k n).getD j 0 := by
  have hp : (ofKindN s k n).Pairwise (· < ·) := by
    unfold ofKindN
    rw [List.pairwise_map]
    exact (List.pairwise_lt_range.filter _).imp fun h => by omega
  have := List.pairwise_iff_getElem.1 hp i j (by omega) h hij
  rw [show (ofKindN s k n).getD i 0 = (ofKindN s k n)[i] by simp [show i < (ofKindN s k n).length by omega], show (ofKindN s k n).getD j 0 = (ofKindN s k n)[j] by simp [h]]
  exact this

/-- How many cells are of a kind below k. -/
def belowK (s : SiteD) (k : Int) (n : Nat) : Nat := (List.range n).countP fun c => decide (s.floor.kind.getD c 0 < k)
theorem belowK_succ {k : Int} {n : Nat} : belowK s (k + 1) n = belowK s k n + (ofKindN s k n).length := by
  induction n with
  | zero => rfl
  | succ n ih =>
    have e : ∀ k, belowK s k (n + 1) = belowK s k n + if s.floor.kind.getD n 0 < k then 1 else 0 := fun k => by
      unfold belowK
      rw [List.range_succ, List.countP_append]
      simp [List.countP_cons]
    rw [e, e, ofKindN_succ, List.length_append, ih]
    by_cases h1 : s.floor.kind.getD n 0 = k
    · rw [if_pos h1, if_pos (by omega), if_neg (by omega)]; simp; omega
    · rw [if_neg h1]
      by_cases h2 : s.floor.kind.getD n 0 < k
      · rw [if_pos h2, if_pos (by omega)]; simp; omega
      · rw [if_neg h2, if_neg (by omega)]; simp
theorem belowK_zero (h : FloorOk s.floor) : belowK s 0 s.floor.kind.length = 0 := by
  unfold belowK
  rw [List.countP_eq_zero]
  intro c hc
  have := (h.kind c (by simpa using hc)).1
  simp only [decide_eq_true_eq]
  omega
theorem belowK_all (h : FloorOk s.floor) : belowK s 7 s.floor.kind.length = s.floor.kind.length := by
  have : (List.range s.floor.kind.length).countP (fun c => decide (s.floor.kind.getD c 0 < 7)) = (List.range s.floor.kind.length).length := by
    rw [List.countP_eq_length]
    intro c hc
    have := (h.kind c (by simpa using hc)).2
    simpa using this
  rw [belowK, this, List.length_range]
theorem belowK_le {k : Int} {n : Nat} : belowK s k n ≤ n := by
  have := List.countP_le_length (p := fun c => decide (s.floor.kind.getD c 0 < k)) (l := List.range n)
  simpa [belowK] using this

/-- After the last span every cell is open. -/
theorem late (h : SiteOk s) {c : Int} (h0 : 0 ≤ c) (h1 : c < s.floor.kind.length) : openF s c 20000 = true := by
  have hc : isCellF s c = true := by
    have e : s.floor.n = (s.floor.kind.length : Int) := rfl
    simp [isCellF, e, h0, h1]
  unfold openF
  rw [hc]
  rcases zoneOf_b s c with hz | ⟨h2, h3, h4⟩
  · rw [hz]; rfl
  · rw [if_neg (by simp; omega)]
    have hs := (h.zones _ h4).shut
    have : anySpan (s.zones.getD (zoneOfF s c).toNat default).shut 20000 = false := by
      unfold anySpan
      rw [idxF_none fun j hj => ?_]
      · rfl
      · have := (hs j hj).2.2
        simp only [inSpan, Bool.and_eq_false_iff, decide_eq_false_iff_not]
        exact .inr (by omega)
    rw [this]; rfl

end Go.Proofs.Ytcocbifjjafknaa.AL

/- The law RulesZones. -/
set_option linter.unusedSimpArgs false
set_option linter.unusedVariables false
namespace Go.Proofs.Ytcocbifjjafknaa.AL
open Go
variable {s : SiteD} {st : StateD}

def nilT (n : Nat) : StateD := ⟨0, List.replicate n 0, [], [], [], []⟩

/-- The site lies in object 0. -/
structure ZK (s : SiteD) (K : KMap) (N : Nat) : Prop where
  site : K 0 = some (.row 0 9 [encSite s])
  n : 1 ≤ N

def zb (t : Int) : Nat → Option T := upd (upd (upd emp 1 (tI t)) 2 (tC (.ptr 0 0 0 0))) 5 (tB true)

/-- Loop over one kind's cells. -/
def z2 (s : SiteD) (t : Int) (k : Nat) (K : KMap) (N O v : Nat) (i : Nat) : St :=
  ⟨upd (upd (upd (upd (zb t) 6 (tI (belowK s ((k : Int) + 1) s.floor.kind.length))) 7 (tI k)) 8 (tC (.own O v 0 (ofKindN s k s.floor.kind.length).length))) 9 (tI i), K, N⟩

theorem f5a (h : Fits s st) {t : Int} {k : Nat} (hk : k < 7) {K : KMap} {N O v : Nat} (hK : ZK s K N) (hO : K O = some (.row v 1 (intC (ofKindN s k s.floor.kind.length)))) {Q : XE → St → Prop}
    (hQ : ∀ tm, TmCut (upd (upd (zb t) 6 (tI (belowK s ((k : Int) + 1) s.floor.kind.length))) 7 (tI k)) tm → Q (.exit 2) ⟨tm, K, N⟩) :
    ∀ i, i ≤ (ofKindN s k s.floor.kind.length).length → awp Try.prog 0 s5_52 (z2 s t k K N O v i) (roundQ 0 (z2 s t k K N O v) (fun i => (ofKindN s k s.floor.kind.length).length - i) (fun i => i ≤ (ofKindN s k s.floor.kind.length).length) i Q) := by
  intro i hi
  have hn := h.few.kind
  have hlen := ofKindN_len (s := s) (k := k) (n := s.floor.kind.length)
  obtain ⟨l, hl⟩ : ∃ l, l = ofKindN s k s.floor.kind.length := ⟨_, rfl⟩
  simp only [go_sem, s5_52, z2, zb, intC_len, ↓reduceIte, reduceCtorEq, Nat.reduceEqDiff, Nat.reduceAdd, Nat.reduceSub, Nat.reduceMul, Nat.reduceLT, Nat.reduceLeDiff, Int.reduceToNat]
  refine twoQ_at (fun g => ?_) (fun g => ?_)
  · have hi' : i < (ofKindN s k s.floor.kind.length).length := by simpa using g
    obtain ⟨c, hc1, hc2, hc3⟩ := of_at hi'
    have hwr : IntKind.i64.wrap ((i : Int) + 1) = ((i + 1 : Nat) : Int) := wrap_i (by omega) (by omega)
    simp only [go_sem, s5_51, hK.site, hO, encSite, intC_len, intC_at hi', Int.toNat_natCast, hc3, ↓reduceIte, reduceCtorEq, Nat.reduceEqDiff, Nat.reduceAdd, Nat.reduceSub, Nat.reduceMul, Nat.reduceLT, Nat.reduceLeDiff, Int.reduceToNat]
    have hF : isF s.floor c = true := by
      have e : s.floor.n = (s.floor.kind.length : Int) := rfl
      simp only [isF, e, Bool.and_eq_true, decide_eq_true_eq]
      omega
    refine ⟨⟨by omega, by omega, by omega⟩, hi', Pure.callS (f22 h.ok.floor _) rfl ?_⟩
    rw [hF]

    have next : ∀ {tm : Nat → Option T}, TmCut (upd (upd (upd (zb t) 6 (tI (belowK s ((k : Int) + 1) s.floor.kind.length))) 7 (tI k)) 8 (tC (.own O v 0 (ofKindN s k s.floor.kind.length).length))) tm → tm 9 = some (tI i) →
        tm 2 = some (tC (.ptr 0 0 0 0)) → tm 7 = some (tI k) → tm 8 = some (tC (.own O v 0 (ofKindN s k s.floor.kind.length).length)) →
        awp Try.prog 0 s5_44 ⟨tm, K, N⟩ (blockQ 3 (seqQ (fun s_3 => awp Try.prog 0 s5_37 s_3 (roundQ 0 (z2 s t k K N O v) (fun i => (ofKindN s k s.floor.kind.length).length - i) (fun i => i ≤ (ofKindN s k s.floor.kind.length).length) i Q))
          (roundQ 0 (z2 s t k K N O v) (fun i => (ofKindN s k s.floor.kind.length).length - i) (fun i => i ≤ (ofKindN s k s.floor.kind.length).length) i Q))) := by
      intro tm hc h9 h2 h7 h8
      have hcl : c < s.floor.kind.length := hc1
      have hS : standsF s c = (decide ((k : Int) = 1) || decide ((k : Int) = 2)) := by
        have hc : isCellF s c = true := by
          have e : s.floor.n = (s.floor.kind.length : Int) := rfl
          simp only [isCellF, e, Bool.and_eq_true, decide_eq_true_eq]
          omega
        rw [standsF, hc, Bool.true_and, kindF, Int.toNat_natCast, hc2]
        rfl
      have hne : ∀ b : Bool, (b != b) = false := fun b => by cases b <;> rfl
      have hw : IntKind.i64.wrap ((i : Int) + 1) = ((i + 1 : Nat) : Int) := hwr
      simp only [go_sem, s5_44, h9, h2, h7, h8, hK.site, hO, encSite, intC_len, intC_at hi', Int.toNat_natCast, hc3, ints_len, ints_at hcl, hc2, ne_eq, not_true, decide_false, ↓reduceIte, reduceCtorEq, Nat.reduceEqDiff, Nat.reduceAdd, Nat.reduceSub, Nat.reduceMul, Nat.reduceLT, Nat.reduceLeDiff, Int.reduceToNat]
      refine ⟨⟨by omega, by omega, by omega⟩, hi', ⟨by omega, by omega⟩, ?_⟩
      simp only [go_sem, s5_43, h9, h2, h7, h8, hK.site, hO, encSite, intC_len, intC_at hi', Int.toNat_natCast, hc3, ↓reduceIte, reduceCtorEq, Nat.reduceEqDiff, Nat.reduceAdd, Nat.reduceSub, Nat.reduceMul, Nat.reduceLT, Nat.reduceLeDiff, Int.reduceToNat]
      refine ⟨⟨by omega, by omega, by omega⟩, hi', Pure.callS (f16 (s := s) c) rfl ?_⟩
      rw [hS]
      simp only [go_sem, s5_42, h7, ↓reduceIte, reduceCtorEq, Nat.reduceEqDiff, Nat.reduceAdd, Nat.reduceSub, Nat.reduceMul, Nat.reduceLT, Nat.reduceLeDiff, Int.reduceToNat]
      refine guardQ_at (fun g2 => ?_) (fun g2 => ?_)
      · have g2 : ¬ (k : Int) = 1 := by simpa using g2
        simp only [go_sem, s5_41, s5_40, s5_39, s5_37, h7, h9, hne, decide_eq_false g2, Bool.false_or, hw, ↓reduceIte, reduceCtorEq, Nat.reduceEqDiff, Nat.reduceAdd, Nat.reduceSub, Nat.reduceMul, Nat.reduceLT, Nat.reduceLeDiff, Int.reduceToNat]
        refine ⟨i + 1, by omega, by omega, Weak.cutTm ?_⟩
        repeat (first | refine TmCut.cons rfl ?_ | refine TmCut.skip ?_ rfl | exact hc)
      · have g2 : (k : Int) = 1 := by simpa using g2
        simp only [go_sem, s5_41, s5_40, s5_39, s5_37, h7, h9, hne, decide_eq_true g2, Bool.true_or, hw, ↓reduceIte, reduceCtorEq, Nat.reduceEqDiff, Nat.reduceAdd, Nat.reduceSub, Nat.reduceMul, Nat.reduceLT, Nat.reduceLeDiff, Int.reduceToNat]
        refine ⟨i + 1, by omega, by omega, Weak.cutTm ?_⟩
        repeat (first | refine TmCut.cons rfl ?_ | refine TmCut.skip ?_ rfl | exact hc)
    simp only [go_sem, s5_50, s5_49, ↓reduceIte, reduceCtorEq, Nat.reduceEqDiff, Nat.reduceAdd, Nat.reduceSub, Nat.reduceMul, Nat.reduceLT, Nat.reduceLeDiff, Int.reduceToNat]
    refine guardQ_at (fun g1 => ?_) (fun g1 => ?_)
    · simp only [decide_eq_true_eq] at g1
      have hw1 : IntKind.i64.wrap ((i : Int) - 1) = ((i - 1 : Nat) : Int) := by
        rw [show (i : Int) - 1 = ((i - 1 : Nat) : Int) by omega]
        exact wrap_i (by omega) (by omega)
      have hi1 : i - 1 < (ofKindN s k s.floor.kind.length).length := by omega
      have hmx : (if (0 : Int) > ((i - 1 : Nat) : Int) then 0 else ((i - 1 : Nat) : Int)) = ((i - 1 : Nat) : Int) := if_neg (by omega)
      obtain ⟨p, hp⟩ : ∃ p, p = (ofKindN s k s.floor.kind.length).getD (i - 1) 0 := ⟨_, rfl⟩
      have hlt : decide ((c : Int) ≤ p) = false := by
        have := of_asc (show i - 1 < i by omega) hi'
        rw [← hp, hc3] at this
        exact decide_eq_false (by omega)
      simp only [go_sem, s5_48, hO, hw1, hmx, intC_len, intC_at hi', intC_at hi1, ← hp, hlt, Int.toNat_natCast, hc3, ↓reduceIte, reduceCtorEq, Nat.reduceEqDiff, Nat.reduceAdd, Nat.reduceSub, Nat.reduceMul, Nat.reduceLT, Nat.reduceLeDiff, Int.reduceToNat]
      refine ⟨⟨by omega, by omega, by omega⟩, hi1, ⟨by omega, by omega, by omega⟩, hi', ?_⟩
      simp only [go_sem, s5_47, s5_46, ↓reduceIte, reduceCtorEq, Nat.reduceEqDiff, Nat.reduceAdd, Nat.reduceSub, Nat.reduceMul, Nat.reduceLT, Nat.reduceLeDiff, Int.reduceToNat]
      exact next (by unfold zb; repeat (first | refine TmCut.cons rfl ?_ | exact TmCut.nil)) rfl rfl rfl rfl
    · simp only [go_sem, s5_48, s5_47, s5_46, ↓reduceIte, reduceCtorEq, Nat.reduceEqDiff, Nat.reduceAdd, Nat.reduceSub, Nat.reduceMul, Nat.reduceLT, Nat.reduceLeDiff, Int.reduceToNat]
      exact next (by unfold zb; repeat (first | refine TmCut.cons rfl ?_ | exact TmCut.nil)) rfl rfl rfl rfl
  · have hi' : i = (ofKindN s k s.floor.kind.length).length := by simp at g; omega
    refine hQ _ ?_
    unfold zb
    repeat (first | refine TmCut.cons rfl ?_ | exact TmCut.nil)
/-- Loop over the zones. -/
def z3 (s : SiteD) (t : Int) (c : Nat) (K : KMap) (N : Nat) (i : Nat) : St :=
  ⟨upd (upd (upd (zb t) 10 (tI c)) 11 (tI (idxF (zIn s c) i))) 12 (tI i), K, N⟩

theorem f5b (h : Fits s st) {t : Int} {c : Nat} {K : KMap} {N : Nat} (hK : ZK s K N) {Q : XE → St → Prop}
    (hQ : ∀ tm, TmCut (upd (upd (zb t) 10 (tI c)) 11 (tI (zoneOfF s c))) tm → Q (.exit 6) ⟨tm, K, N⟩) :
    ∀ i, i ≤ s.zones.length → awp Try.prog 0 s5_30 (z3 s t c K N i) (roundQ 0 (z3 s t c K N) (fun i => s.zones.length - i) (fun i => i ≤ s.zones.length) i Q) := by
  intro i hi
  have hn := h.few.nz
  simp only [go_sem, s5_30, z3, zb, hK.site, encSite, rows_len, ↓reduceIte, reduceCtorEq, Nat.reduceEqDiff, Nat.reduceAdd, Nat.reduceSub, Nat.reduceMul, Nat.reduceLT, Nat.reduceLeDiff, Int.reduceToNat]
  refine twoQ_at (fun g => ?_) (fun g => ?_)
  · have hi' : i < s.zones.length := by simpa using g
    have hwr : IntKind.i64.wrap ((i : Int) + 1) = ((i + 1 : Nat) : Int) := wrap_i (by omega) (by omega)
    have hzc := (h.few.zc i hi').1
    simp only [go_sem, s5_29, hK.site, encSite, rows_len, rows_at hi', encZone, Int.toNat_natCast, ↓reduceIte, reduceCtorEq, Nat.reduceEqDiff, Nat.reduceAdd, Nat.reduceSub, Nat.reduceMul, Nat.reduceLT, Nat.reduceLeDiff, Int.reduceToNat]
    refine ⟨⟨by omega, by omega⟩, Pure.callS (f23 _ _ (by simp only [mxl]; omega)) rfl ?_⟩
    simp only [go_sem, s5_28, s5_27, ↓reduceIte, reduceCtorEq, Nat.reduceEqDiff, Nat.reduceAdd, Nat.reduceSub, Nat.reduceMul, Nat.reduceLT, Nat.reduceLeDiff, Int.reduceToNat]
    have hst := idxF_step (p := zIn s c) (n := i) (zIn_disj h.ok hi')
    refine twoQ_at (fun g1 => ?_) (fun g1 => ?_)
    · have g1' : zIn s c i = true := g1
      rw [if_pos g1'] at hst
      simp only [go_sem, s5_26, s5_25, hwr, ↓reduceIte, reduceCtorEq, Nat.reduceEqDiff, Nat.reduceAdd, Nat.reduceSub, Nat.reduceMul, Nat.reduceLT, Nat.reduceLeDiff, Int.reduceToNat]
      refine ⟨i + 1, by omega, by omega, Weak.cutTm ?_⟩
      rw [hst]
      unfold zb
      repeat (first | refine TmCut.cons rfl ?_ | exact TmCut.nil)
    · have g1' : ¬ zIn s c i = true := by simpa [zIn] using g1
      rw [if_neg g1'] at hst
      simp only [go_sem, s5_25, hwr, ↓reduceIte, reduceCtorEq, Nat.reduceEqDiff, Nat.reduceAdd, Nat.reduceSub, Nat.reduceMul, Nat.reduceLT, Nat.reduceLeDiff, Int.reduceToNat]
      refine ⟨i + 1, by omega, by omega, Weak.cutTm ?_⟩
      rw [hst]
      unfold zb
      repeat (first | refine TmCut.cons rfl ?_ | exact TmCut.nil)
  · have hi' : i = s.zones.length := by simp at g; omega
    subst hi'
    refine hQ _ ?_
    unfold zb
    repeat (first | refine TmCut.cons rfl ?_ | exact TmCut.nil)

/-- Loop over a zone's spans. -/
def openN (s : SiteD) (t : Int) (z : Nat) (i : Nat) : Bool := !decide (0 ≤ idxF (fun j => inSpan ((s.zones.getD z default).shut.getD j (0, 0)) t) i)
theorem openN_succ {t : Int} {z i : Nat} : openN s t z (i + 1) = (openN s t z i && !inSpan ((s.zones.getD z default).shut.getD i (0, 0)) t) := by
  unfold openN
  rw [hit_step, Bool.not_or]

def z4 (s : SiteD) (t : Int) (c z : Nat) (x : Nat × KMap × Nat) : St :=
  ⟨upd (upd (upd (upd (upd (zb t) 10 (tI c)) 11 (tI z)) 13 (tB (openN s t z x.1))) 14 (tI (s.zones.getD z default).speed)) 15 (tI x.1), x.2.1, x.2.2⟩

theorem f5c (h : Fits s st) {t : Int} {c z : Nat} (hz : z < s.zones.length) {Q : XE → St → Prop}
    (hQ : ∀ tm K N, ZK s K N → TmCut (upd (upd (upd (upd (zb t) 10 (tI c)) 11 (tI z)) 13 (tB (openN s t z (s.zones.getD z default).shut.length))) 14 (tI (s.zones.getD z default).speed)) tm → Q (.exit 8) ⟨tm, K, N⟩) :
    ∀ x : Nat × KMap × Nat, x.1 ≤ (s.zones.getD z default).shut.length ∧ ZK s x.2.1 x.2.2 → awp Try.prog 0 s5_22 (z4 s t c z x) (roundQ 0 (z4 s t c z) (fun x => (s.zones.getD z default).shut.length - x.1) (fun x => x.1 ≤ (s.zones.getD z default).shut.length ∧ ZK s x.2.1 x.2.2) x Q) := by
  rintro ⟨i, K, N⟩ ⟨hi, hK⟩
  simp only at hi hK
  have hn := h.few.nz
  have hns := (h.few.zc z hz).2
  simp only [go_sem, s5_22, z4, zb, hK.site, encSite, rows_len, rows_at hz, encZone, spans_len, Int.toNat_natCast, ↓reduceIte, reduceCtorEq, Nat.reduceEqDiff, Nat.reduceAdd, Nat.reduceSub, Nat.reduceMul, Nat.reduceLT, Nat.reduceLeDiff, Int.reduceToNat]
  refine ⟨⟨by omega, by omega⟩, twoQ_at (fun g => ?_) (fun g => ?_)⟩
  · have hi' : i < (s.zones.getD z default).shut.length := by simpa using g
    have hwr : IntKind.i64.wrap ((i : Int) + 1) = ((i + 1 : Nat) : Int) := wrap_i (by omega) (by omega)
    have hN0 : (0 : Nat) ≠ N := by have := hK.n; omega
    have hst := openN_succ (s := s) (t := t) (z := z) (i := i)
    obtain ⟨sp, hsp⟩ : ∃ sp, sp = (s.zones.getD z default).shut.getD i (0, 0) := ⟨_, rfl⟩
    rw [← hsp] at hst
    simp only [go_sem, s5_21, hK.site, encSite, rows_len, rows_at hz, encZone, spans_len, spans_at hi', ← hsp, Int.toNat_natCast, ↓reduceIte, reduceCtorEq, Nat.reduceEqDiff, Nat.reduceAdd, Nat.reduceSub, Nat.reduceMul, Nat.reduceLT, Nat.reduceLeDiff, Int.reduceToNat]
    refine ⟨⟨by omega, by omega⟩, ⟨by omega, by omega⟩, ?_⟩
    have next : ∀ {tm : Nat → Option T} {b : Bool} {K' : KMap}, ZK s K' (N + 1) → b = openN s t z (i + 1) → tm 13 = some (tB b) → tm 15 = some (tI i) → TmCut (upd (upd (zb t) 10 (tI c)) 11 (tI z)) tm → tm 14 = some (tI (s.zones.getD z default).speed) →
        awp Try.prog 0 s5_17 ⟨tm, K', N + 1⟩ (roundQ 0 (z4 s t c z) (fun x => (s.zones.getD z default).shut.length - x.1) (fun x => x.1 ≤ (s.zones.getD z default).shut.length ∧ ZK s x.2.1 x.2.2) (i, K, N) Q) := by
      intro tm b K' hK' hb h13 h15 hc h14
      subst hb
      simp only [go_sem, s5_17, h15, hwr, ↓reduceIte, reduceCtorEq, Nat.reduceEqDiff, Nat.reduceAdd, Nat.reduceSub, Nat.reduceMul, Nat.reduceLT, Nat.reduceLeDiff, Int.reduceToNat]
      refine ⟨(i + 1, K', N + 1), ⟨by simp only; omega, hK'⟩, by simp only; omega, Weak.cutTm ?_⟩
      refine TmCut.cons rfl (TmCut.cons ?_ (TmCut.cons ?_ (TmCut.skip (TmCut.skip (TmCut.skip hc rfl) rfl) rfl)))
      · exact h14
      · exact h13
    refine guardQ_at (fun g1 => ?_) (fun g1 => ?_)
    · rw [g1, Bool.true_and] at hst
      simp only [go_sem, s5_20, ↓reduceIte, reduceCtorEq, Nat.reduceEqDiff, Nat.reduceAdd, Nat.reduceSub, Nat.reduceMul, Nat.reduceLT, Nat.reduceLeDiff, Int.reduceToNat]
      refine guardQ_at (fun g2 => ?_) (fun g2 => ?_)
      · have g2 : ¬ t < sp.1 := by simpa using g2
        simp only [go_sem, s5_19, s5_18, ↓reduceIte, reduceCtorEq, Nat.reduceEqDiff, Nat.reduceAdd, Nat.reduceSub, Nat.reduceMul, Nat.reduceLT, Nat.reduceLeDiff, Int.reduceToNat]
        refine next ⟨(upd_ne _ _ hN0).trans ((upd_ne _ _ hN0).trans hK.site), by omega⟩ ?_ (by rfl) (by rfl) ?_ (by rfl)
        · rw [hst, inSpan, decide_eq_true (show sp.1 ≤ t by omega), Bool.true_and]
          by_cases e : t < sp.2
          · rw [decide_eq_true e, decide_eq_false (by omega)]; rfl
          · rw [decide_eq_false e, decide_eq_true (by omega)]; rfl
        · unfold zb
          repeat (first | refine TmCut.cons rfl ?_ | exact TmCut.nil)
      · have g2 : t < sp.1 := by simpa using g2
        simp only [go_sem, s5_19, s5_18, ↓reduceIte, reduceCtorEq, Nat.reduceEqDiff, Nat.reduceAdd, Nat.reduceSub, Nat.reduceMul, Nat.reduceLT, Nat.reduceLeDiff, Int.reduceToNat]
        refine next ⟨(upd_ne _ _ hN0).trans ((upd_ne _ _ hN0).trans hK.site), by omega⟩ ?_ (by rfl) (by rfl) ?_ (by rfl)
        · rw [hst, inSpan, decide_eq_false (show ¬ sp.1 ≤ t by omega), Bool.false_and]; rfl
        · unfold zb
          repeat (first | refine TmCut.cons rfl ?_ | exact TmCut.nil)
    · have g1 : openN s t z i = false := by simpa using g1
      rw [g1, Bool.false_and] at hst
      simp only [go_sem, s5_20, s5_19, s5_18, ↓reduceIte, reduceCtorEq, Nat.reduceEqDiff, Nat.reduceAdd, Nat.reduceSub, Nat.reduceMul, Nat.reduceLT, Nat.reduceLeDiff, Int.reduceToNat]
      refine next ⟨(upd_ne _ _ hN0).trans ((upd_ne _ _ hN0).trans hK.site), by omega⟩ ?_ (by rfl) (by rfl) ?_ (by rfl)
      · rw [hst]
      · unfold zb
        repeat (first | refine TmCut.cons rfl ?_ | exact TmCut.nil)
  · have hi' : i = (s.zones.getD z default).shut.length := by simp only [decide_eq_false_iff_not] at g; omega
    subst hi'
    refine hQ _ _ _ hK ?_
    unfold zb
    repeat (first | refine TmCut.cons rfl ?_ | exact TmCut.nil)

/-- Loop over the cells. -/
def z5 (t : Int) (x : Nat × KMap × Nat) : St := ⟨upd (zb t) 10 (tI x.1), x.2.1, x.2.2⟩

theorem zone_nat (s : SiteD) (c : Int) (h : 0 ≤ zoneOfF s c) : ∃ z : Nat, z < s.zones.length ∧ zoneOfF s c = z := by
  rcases zoneOf_b s c with h1 | ⟨h1, h2, h3⟩
  · omega
  · exact ⟨(zoneOfF s c).toNat, h3, by omega⟩

theorem f5d (h : Fits s st) {t : Int} {Q : XE → St → Prop}
    (hQ : ∀ tm K N, ZK s K N → TmCut (zb t) tm → Q (.exit 4) ⟨tm, K, N⟩) :
    ∀ x : Nat × KMap × Nat, x.1 ≤ s.floor.kind.length ∧ ZK s x.2.1 x.2.2 → awp Try.prog 0 s5_32 (z5 t x) (roundQ 0 (z5 t) (fun x => s.floor.kind.length - x.1) (fun x => x.1 ≤ s.floor.kind.length ∧ ZK s x.2.1 x.2.2) x Q) := by
  rintro ⟨c, K, N⟩ ⟨hc, hK⟩
  simp only at hc hK
  have hn := h.few.kind
  have hzk := h.ok.zok h.few
  simp only [go_sem, s5_32, z5, zb, hK.site, encSite, ints_len, ↓reduceIte, reduceCtorEq, Nat.reduceEqDiff, Nat.reduceAdd, Nat.reduceSub, Nat.reduceMul, Nat.reduceLT, Nat.reduceLeDiff, Int.reduceToNat]
  refine twoQ_at (fun g => ?_) (fun g => ?_)
  · have hc' : c < s.floor.kind.length := by simpa using g
    have hwr : IntKind.i64.wrap ((c : Int) + 1) = ((c + 1 : Nat) : Int) := wrap_i (by omega) (by omega)
    have hcell : isCellF s c = true := by
      have e : s.floor.n = (s.floor.kind.length : Int) := rfl
      simp only [isCellF, e, Bool.and_eq_true, decide_eq_true_eq]
      omega
    have hlate := late h.ok (c := c) (by omega) (by omega)
    have hne : ∀ b : Bool, (b != b) = false := fun b => by cases b <;> rfl
    -- behind the loops: the four questions
    have last : ∀ {tm : Nat → Option T} {K' : KMap} {N' : Nat}, ZK s K' N' → tm 5 = some (tB true) → tm 2 = some (tC (.ptr 0 0 0 0)) → tm 1 = some (tI t) → tm 10 = some (tI c) → tm 11 = some (tI (zoneOfF s c)) → tm 14 = some (tI (speedF s c)) → tm 13 = some (tB (openF s c t)) →
        awp Try.prog 0 s5_16 ⟨tm, K', N'⟩ (blockQ 5 (seqQ (fun s_1 => awp Try.prog 0 s5_6 s_1 (roundQ 0 (z5 t) (fun x => s.floor.kind.length - x.1) (fun x => x.1 ≤ s.floor.kind.length ∧ ZK s x.2.1 x.2.2) (c, K, N) Q))
          (roundQ 0 (z5 t) (fun x => s.floor.kind.length - x.1) (fun x => x.1 ≤ s.floor.kind.length ∧ ZK s x.2.1 x.2.2) (c, K, N) Q))) := by
      intro tm K' N' hK' h5 h2 h1 h10 h11 h14 h13
      simp only [go_sem, s5_16, h2, h1, h10, h11, h14, h13, hK'.site, encSite, ↓reduceIte, reduceCtorEq, Nat.reduceEqDiff, Nat.reduceAdd, Nat.reduceSub, Nat.reduceMul, Nat.reduceLT, Nat.reduceLeDiff, Int.reduceToNat]
      refine Pure.callS (f20 hzk c) rfl ?_
      simp only [go_sem, s5_15, s5_14, h2, h1, h10, h11, h14, h13, hK'.site, encSite, ne_eq, not_true, decide_false, ↓reduceIte, reduceCtorEq, Nat.reduceEqDiff, Nat.reduceAdd, Nat.reduceSub, Nat.reduceMul, Nat.reduceLT, Nat.reduceLeDiff, Int.reduceToNat]
      refine Pure.callS (f24 hzk c) rfl ?_
      simp only [go_sem, s5_13, s5_12, h2, h1, h10, h11, h14, h13, hK'.site, encSite, ne_eq, not_true, decide_false, ↓reduceIte, reduceCtorEq, Nat.reduceEqDiff, Nat.reduceAdd, Nat.reduceSub, Nat.reduceMul, Nat.reduceLT, Nat.reduceLeDiff, Int.reduceToNat]
      refine Pure.callS (f25 hzk c t) rfl ?_
      simp only [go_sem, s5_11, s5_10, h2, h1, h10, h11, h14, h13, hK'.site, encSite, ne_eq, not_true, decide_false, hne, ↓reduceIte, reduceCtorEq, Nat.reduceEqDiff, Nat.reduceAdd, Nat.reduceSub, Nat.reduceMul, Nat.reduceLT, Nat.reduceLeDiff, Int.reduceToNat]
      refine Pure.callS (f25 hzk c 20000) rfl ?_
      rw [hlate]
      simp only [go_sem, s5_9, s5_8, s5_6, h2, h1, h10, h11, h14, h13, hwr, ↓reduceIte, reduceCtorEq, Nat.reduceEqDiff, Nat.reduceAdd, Nat.reduceSub, Nat.reduceMul, Nat.reduceLT, Nat.reduceLeDiff, Int.reduceToNat]
      refine ⟨(c + 1, K', N'), ⟨by simp only; omega, hK'⟩, by simp only; omega, Weak.cutTm ?_⟩
      unfold zb
      exact TmCut.cons rfl (TmCut.cons h5 (TmCut.cons h2 (TmCut.cons h1 TmCut.nil)))
    simp only [go_sem, s5_31, ↓reduceIte, reduceCtorEq, Nat.reduceEqDiff, Nat.reduceAdd, Nat.reduceSub, Nat.reduceMul, Nat.reduceLT, Nat.reduceLeDiff, Int.reduceToNat]
    refine awp_loop (z3 s t c K N) (fun i => s.zones.length - i) (fun i => i ≤ s.zones.length) 0 (Nat.zero_le _) ?_ (f5b h hK fun tm hcut => ?_)
    · refine Weak.cutTm ?_
      unfold zb
      repeat (first | refine TmCut.cons rfl ?_ | exact TmCut.nil)
    · have h1 : tm 1 = some (tI t) := hcut 1 _ rfl
      have h2 : tm 2 = some (tC (.ptr 0 0 0 0)) := hcut 2 _ rfl
      have h5 : tm 5 = some (tB true) := hcut 5 _ rfl
      have h10 : tm 10 = some (tI c) := hcut 10 _ rfl
      have h11 : tm 11 = some (tI (zoneOfF s c)) := hcut 11 _ rfl
      simp only [go_sem, s5_24, h1, h2, h5, h10, h11, ↓reduceIte, reduceCtorEq, Nat.reduceEqDiff, Nat.reduceAdd, Nat.reduceSub, Nat.reduceMul, Nat.reduceLT, Nat.reduceLeDiff, Int.reduceToNat]
      refine twoQ_at (fun g1 => ?_) (fun g1 => ?_)
      · have g1 : (0 : Int) ≤ zoneOfF s c := by simpa using g1
        obtain ⟨z, hz, ez⟩ := zone_nat s c g1
        rw [ez] at h11
        have hsp : speedF s c = (s.zones.getD z default).speed := by rw [speedF, if_pos g1, ez]; rfl
        have hop : openF s c t = openN s t z (s.zones.getD z default).shut.length := by
          rw [openF, hcell, ez, if_neg (by simp)]; rfl
        simp only [go_sem, s5_23, h1, h2, h5, h10, h11, hK.site, encSite, rows_len, rows_at hz, encZone, Int.toNat_natCast, ↓reduceIte, reduceCtorEq, Nat.reduceEqDiff, Nat.reduceAdd, Nat.reduceSub, Nat.reduceMul, Nat.reduceLT, Nat.reduceLeDiff, Int.reduceToNat]
        refine ⟨⟨by omega, by omega⟩, ?_⟩
        refine awp_loop (z4 s t c z) (fun x => (s.zones.getD z default).shut.length - x.1) (fun x => x.1 ≤ (s.zones.getD z default).shut.length ∧ ZK s x.2.1 x.2.2) (0, K, N) ⟨Nat.zero_le _, hK⟩ ?_ (f5c h hz fun tm' K' N' hK' hcut' => ?_)
        · refine Weak.cutTm ?_
          unfold zb
          exact TmCut.cons rfl (TmCut.cons rfl (TmCut.cons rfl (TmCut.cons h11 (TmCut.cons h10 (TmCut.cons h5 (TmCut.cons h2 (TmCut.cons h1 TmCut.nil)))))))
        · exact last hK' (hcut' 5 _ rfl) (hcut' 2 _ rfl) (hcut' 1 _ rfl) (hcut' 10 _ rfl) (by rw [ez]; exact hcut' 11 _ rfl) (by rw [hsp]; exact hcut' 14 _ rfl) (by rw [hop]; exact hcut' 13 _ rfl)
      · have g1 : zoneOfF s c < 0 := by simpa using g1
        have ez : zoneOfF s c = -1 := (zoneOf_b s c).resolve_right (by omega)
        have hsp : speedF s c = 1 := by rw [speedF, if_neg (by omega)]
        have hop : openF s c t = true := by rw [openF, if_pos (.inr g1), hcell]
        exact last hK h5 h2 h1 h10 h11 (by rw [hsp]; rfl) (by rw [hop]; rfl)
  · have hc' : c = s.floor.kind.length := by simp only [decide_eq_false_iff_not] at g; omega
    subst hc'
    refine hQ _ _ _ hK ?_
    unfold zb
    repeat (first | refine TmCut.cons rfl ?_ | exact TmCut.nil)

/-- Loop over the kinds. -/
def z1 (s : SiteD) (t : Int) (x : Nat × KMap × Nat) : St := ⟨upd (upd (zb t) 6 (tI (belowK s x.1 s.floor.kind.length))) 7 (tI x.1), x.2.1, x.2.2⟩

theorem f5e (h : Fits s st) {t : Int} {Q : XE → St → Prop}
    (hQ : ∀ tm K N, ZK s K N → TmCut (upd (zb t) 6 (tI s.floor.kind.length)) tm → Q (.exit 0) ⟨tm, K, N⟩) :
    ∀ x : Nat × KMap × Nat, x.1 ≤ 7 ∧ ZK s x.2.1 x.2.2 → awp Try.prog 0 s5_56 (z1 s t x) (roundQ 0 (z1 s t) (fun x => 7 - x.1) (fun x => x.1 ≤ 7 ∧ ZK s x.2.1 x.2.2) x Q) := by
  rintro ⟨k, K, N⟩ ⟨hk, hK⟩
  simp only at hk hK
  have hn := h.few.kind
  simp only [go_sem, s5_56, z1, zb, ↓reduceIte, reduceCtorEq, Nat.reduceEqDiff, Nat.reduceAdd, Nat.reduceSub, Nat.reduceMul, Nat.reduceLT, Nat.reduceLeDiff, Int.reduceToNat]
  refine twoQ_at (fun g => ?_) (fun g => ?_)
  · have hk' : k < 7 := by have := of_decide_eq_true g; omega
    have hwr : IntKind.i64.wrap ((k : Int) + 1) = ((k + 1 : Nat) : Int) := wrap_i (by omega) (by omega)
    have hlen := ofKindN_len (s := s) (k := k) (n := s.floor.kind.length)
    have hbl := belowK_le (s := s) (k := k) (n := s.floor.kind.length)
    have hwa : IntKind.i64.wrap (((belowK s k s.floor.kind.length : Nat) : Int) + ((ofKindN s k s.floor.kind.length).length : Nat)) = ((belowK s ((k : Int) + 1) s.floor.kind.length : Nat) : Int) := by
      rw [belowK_succ]
      exact (wrap_i (by omega) (by omega)).trans (by omega)
    simp only [go_sem, s5_55, hK.site, encSite, ↓reduceIte, reduceCtorEq, Nat.reduceEqDiff, Nat.reduceAdd, Nat.reduceSub, Nat.reduceMul, Nat.reduceLT, Nat.reduceLeDiff, Int.reduceToNat]
    refine Spec.plain (f21 (s := s) (by omega) k) (liftA_refl rfl) ?_
    rintro _ _ _ ⟨v, rfl, rfl, rfl⟩
    have hO : joinK N K (upd emp 0 (.row v 1 (intC (ofKindN s k s.floor.kind.length)))) N = some (.row v 1 (intC (ofKindN s k s.floor.kind.length))) := by
      unfold joinK
      rw [if_neg (by omega), Nat.sub_self]
      show ((upd emp 0 (AObj.row v 1 (intC (ofKindN s k s.floor.kind.length))) : KMap) 0).map _ = _
      rw [show ((upd emp 0 (AObj.row v 1 (intC (ofKindN s k s.floor.kind.length))) : KMap) 0) = some (AObj.row v 1 (intC (ofKindN s k s.floor.kind.length))) from rfl, Option.map_some, intC_ren]
    have hK2 : ZK s (joinK N K (upd emp 0 (.row v 1 (intC (ofKindN s k s.floor.kind.length))))) (N + 1) := ⟨(joinK_old hK.n).trans hK.site, by omega⟩
    obtain ⟨K2, e2⟩ : ∃ K2, K2 = joinK N K (upd emp 0 (.row v 1 (intC (ofKindN s k s.floor.kind.length)))) := ⟨_, rfl⟩
    rw [← e2] at hO hK2 ⊢
    simp only [go_sem, s5_54, s5_53, T.ren, V.ren, C.ren, addN, Nat.add_zero, intC_len, hwa, ↓reduceIte, reduceCtorEq, Nat.reduceEqDiff, Nat.reduceAdd, Nat.reduceSub, Nat.reduceMul, Nat.reduceLT, Nat.reduceLeDiff, Int.reduceToNat]
    refine awp_loop (z2 s t k K2 (N + 1) N v) (fun i => (ofKindN s k s.floor.kind.length).length - i) (fun i => i ≤ (ofKindN s k s.floor.kind.length).length) 0 (Nat.zero_le _) ?_ (f5a h hk' hK2 hO fun tm hcut => ?_)
    · refine Weak.cutTm ?_
      unfold zb
      repeat (first | refine TmCut.cons rfl ?_ | exact TmCut.nil)
    · have h1 : tm 1 = some (tI t) := hcut 1 _ rfl
      have h2 : tm 2 = some (tC (.ptr 0 0 0 0)) := hcut 2 _ rfl
      have h5 : tm 5 = some (tB true) := hcut 5 _ rfl
      have h6 : tm 6 = some (tI (belowK s ((k : Int) + 1) s.floor.kind.length)) := hcut 6 _ rfl
      have h7 : tm 7 = some (tI k) := hcut 7 _ rfl
      simp only [go_sem, s5_36, h7, hwr, ↓reduceIte, reduceCtorEq, Nat.reduceEqDiff, Nat.reduceAdd, Nat.reduceSub, Nat.reduceMul, Nat.reduceLT, Nat.reduceLeDiff, Int.reduceToNat]
      refine ⟨(k + 1, K2, N + 1), ⟨by simp only; omega, hK2⟩, by simp only; omega, Weak.cutTm ?_⟩
      unfold zb
      exact TmCut.cons rfl (TmCut.cons (by rw [show (((k + 1 : Nat) : Int)) = (k : Int) + 1 by omega]; exact h6) (TmCut.cons h5 (TmCut.cons h2 (TmCut.cons h1 TmCut.nil))))
  · have hk' : k = 7 := by simp only [decide_eq_false_iff_not] at g; omega
    subst hk'
    refine hQ _ _ _ hK ?_
    have hb := belowK_all (s := s) h.ok.floor
    unfold zb
    refine TmCut.cons ?_ ?_
    · show some (tI ((belowK s ((7 : Nat) : Int) s.floor.kind.length : Nat) : Int)) = _
      rw [show ((7 : Nat) : Int) = 7 from rfl, hb]
    · repeat (first | refine TmCut.cons rfl ?_ | exact TmCut.nil)

theorem encSite_bel {i : Nat} {c : C} (h : (encSite s)[i]? = some c) : c.below 0 = true := by
  have := List.mem_of_getElem? h
  simp only [encSite, List.mem_cons, List.not_mem_nil, or_false] at this
  rcases this with rfl | rfl | rfl | rfl | rfl | rfl | rfl | rfl | rfl <;> rfl

theorem nil_cast {K : KMap} {n : Nat} (hn : n ≤ 140737488355328) (hK : K 1 = some (.row 0 1 (List.replicate n [cV (.int .i64 0)]))) :
    liftA (CastC K) [.v (.agg (encSite s)), .v (.agg [cV (.int .i64 0), .own 1 0 0 n, cV nilS, cV nilS, cV nilS, cV nilS])] [.v (.agg (encSite s)), .v (.agg (encState (nilT n)))] := by
  have nil : ∀ n, CastC K (cV nilS) (.r (.rd n [])) := fun n => .inr ⟨_, rfl, .nil⟩
  have hl : (List.replicate n (0 : Int)).length = n := List.length_replicate
  have hc := intC_cast (K := K) (id := 1) (v := 0) (l := List.replicate n 0) (by rw [hK]; simp [intC]) (by rw [hl]; exact hn)
  rw [hl] at hc
  refine ⟨⟨rfl, fun i c c' hi hi' => ?_⟩, ⟨rfl, fun i c c' hi hi' => ?_⟩, trivial⟩
  · rw [hi] at hi'
    cases hi'
    exact .inl ⟨rfl, encSite_bel hi⟩
  · match i with
    | 0 => cases hi; cases hi'; exact .inl ⟨rfl, rfl⟩
    | 1 => cases hi; cases hi'; exact hc
    | 2 => cases hi; cases hi'; exact nil 6
    | 3 => cases hi; cases hi'; exact nil 1
    | 4 => cases hi; cases hi'; exact nil 1
    | 5 => cases hi; cases hi'; exact nil 2
    | i + 6 => simp at hi

theorem f5 (hsz : s.shelves.length * 8 ≤ 140737488355328) (t : Int) : Pure Try.prog 5 [.v (.agg (encSite s)), tI t] (· = tB true) := by
  refine Pure.of_awp hm Try.func5 s5_ok (by simp [s5]) ?_
  simp only [go_sem, s5, encSite, ↓reduceIte, reduceCtorEq, Nat.reduceEqDiff, Nat.reduceAdd, Nat.reduceSub, Nat.reduceMul, Nat.reduceLT, Nat.reduceLeDiff, Int.reduceToNat]
  refine Pure.callS f8 rfl ?_
  simp only [go_sem, s5_62, s5_61, encSite, evMkslice, rows_len, Int.toNat_natCast, ↓reduceIte, reduceCtorEq, Nat.reduceEqDiff, Nat.reduceAdd, Nat.reduceSub, Nat.reduceMul, Nat.reduceLT, Nat.reduceLeDiff, Int.reduceToNat]
  refine ⟨⟨by omega, by omega, by omega⟩, ?_⟩
  refine Pure.castP (f9 (s := s) (st := nilT s.shelves.length)) (nil_cast (by omega) rfl) (fun d hd => by obtain ⟨b, rfl, _⟩ := hd; rfl) ?_
  rintro _ ⟨b, rfl, hb⟩
  simp only [go_sem, s5_60, s5_59, ↓reduceIte, reduceCtorEq, Nat.reduceEqDiff, Nat.reduceAdd, Nat.reduceSub, Nat.reduceMul, Nat.reduceLT, Nat.reduceLeDiff, Int.reduceToNat]
  refine twoQ_at (fun g => ?_) (fun g => ?_)
  · simp only [go_sem, s5_58, ↓reduceIte, reduceCtorEq, Nat.reduceEqDiff, Nat.reduceAdd, Nat.reduceSub, Nat.reduceMul, Nat.reduceLT, Nat.reduceLeDiff, Int.reduceToNat]
    rfl
  simp only [Bool.not_eq_false'] at g
  have h := hb g
  have hzk := h.ok.zok h.few
  have hn := h.few.kind
  simp only [go_sem, s5_57, ↓reduceIte, reduceCtorEq, Nat.reduceEqDiff, Nat.reduceAdd, Nat.reduceSub, Nat.reduceMul, Nat.reduceLT, Nat.reduceLeDiff, Int.reduceToNat]
  refine awp_loop (z1 s t) (fun x => 7 - x.1) (fun x => x.1 ≤ 7 ∧ ZK s x.2.1 x.2.2) (0, upd (upd emp 0 (.row 0 9 [encSite s])) 1 (.row 0 1 (List.replicate s.shelves.length [cV (.int .i64 0)])), 2) ⟨Nat.zero_le _, rfl, show 1 ≤ 2 by decide⟩ ?_ (f5e h fun tm K N hK hcut => ?_)
  · refine Weak.cutTm ?_
    have hz := belowK_zero (s := s) h.ok.floor
    unfold zb
    refine TmCut.cons rfl (TmCut.cons ?_ (TmCut.cons rfl (TmCut.cons rfl (TmCut.cons rfl TmCut.nil))))
    show _ = some (tI ((belowK s ((0 : Nat) : Int) s.floor.kind.length : Nat) : Int))
    rw [show ((0 : Nat) : Int) = 0 from rfl, hz]
    rfl
  have h1 : tm 1 = some (tI t) := hcut 1 _ rfl
  have h2 : tm 2 = some (tC (.ptr 0 0 0 0)) := hcut 2 _ rfl
  have h5 : tm 5 = some (tB true) := hcut 5 _ rfl
  have h6 : tm 6 = some (tI s.floor.kind.length) := hcut 6 _ rfl
  simp only [go_sem, s5_35, s5_33, h1, h2, h5, h6, hK.site, encSite, ints_len, ne_eq, not_true, decide_false, ↓reduceIte, reduceCtorEq, Nat.reduceEqDiff, Nat.reduceAdd, Nat.reduceSub, Nat.reduceMul, Nat.reduceLT, Nat.reduceLeDiff, Int.reduceToNat]
  refine awp_loop (z5 t) (fun x => s.floor.kind.length - x.1) (fun x => x.1 ≤ s.floor.kind.length ∧ ZK s x.2.1 x.2.2) (0, K, N) ⟨Nat.zero_le _, hK⟩ ?_ (f5d h fun tm' K' N' hK' hcut' => ?_)
  · refine Weak.cutTm ?_
    unfold zb
    exact TmCut.cons rfl (TmCut.cons h5 (TmCut.cons h2 (TmCut.cons h1 TmCut.nil)))
  have h1' : tm' 1 = some (tI t) := hcut' 1 _ rfl
  have h2' : tm' 2 = some (tC (.ptr 0 0 0 0)) := hcut' 2 _ rfl
  have h5' : tm' 5 = some (tB true) := hcut' 5 _ rfl
  have o1 : openF s (-1) t = false := by
    have hc : isCellF s (-1) = false := rfl
    unfold openF
    rw [hc, if_pos (.inl rfl)]
  have o2 : openF s s.floor.kind.length t = false := by
    have hc : isCellF s s.floor.kind.length = false := by
      have e : s.floor.n = (s.floor.kind.length : Int) := rfl
      simp [isCellF, e]
    unfold openF
    rw [hc, if_pos (.inl rfl)]
  simp only [go_sem, s5_5, s5_4, h1', h2', h5', hK'.site, encSite, ↓reduceIte, reduceCtorEq, Nat.reduceEqDiff, Nat.reduceAdd, Nat.reduceSub, Nat.reduceMul, Nat.reduceLT, Nat.reduceLeDiff, Int.reduceToNat]
  refine Pure.callS (f25 hzk (-1) t) rfl ?_
  rw [o1]
  simp only [go_sem, s5_3, s5_2, h1', h2', h5', hK'.site, encSite, ints_len, ↓reduceIte, reduceCtorEq, Nat.reduceEqDiff, Nat.reduceAdd, Nat.reduceSub, Nat.reduceMul, Nat.reduceLT, Nat.reduceLeDiff, Int.reduceToNat]
  refine Pure.callS (f25 hzk s.floor.kind.length t) rfl ?_
  rw [o2]
  simp only [go_sem, s5_1, ↓reduceIte, reduceCtorEq, Nat.reduceEqDiff, Nat.reduceAdd, Nat.reduceSub, Nat.reduceMul, Nat.reduceLT, Nat.reduceLeDiff, Int.reduceToNat]
  rfl

end Go.Proofs.Ytcocbifjjafknaa.AL

/- THE LAW RulesZones HOLDS: whatever site and tick it is called with, it returns true, and what was there before the call is as it was. No condition. -/
namespace Go.Proofs.Ytcocbifjjafknaa.rulesZones
open Go.ChangeShapes Go.WideShapes Go.ChangeAt Go.RowKit Go.Proofs.Ytcocbifjjafknaa.AL
set_option linter.unusedVariables false

theorem own : ownKnob Try.prog.godebug = none := by kernel_rfl
theorem laidOut : laidOutB Try.prog = true := by kernel_rfl

set_option maxRecDepth 100000 in
theorem lifted (os : Os) (started : os.Started) (H : Type) (enc : TypeId × Value → H) :
    ReturnsInHanded {} Try.checked os 5 .any (Rows.rulesZonesSpec.pre6 enc Try.prog Try.f5 Rows.rulesZonesRow.domain false) (Rows.rulesZonesSpec.post enc Try.prog Try.f5 false true false false) := by
  refine returnsInHanded_of_change_sized (C := Try.checked) own started (by kernel_rfl) Try.func5
    (ChangeSpec.witness6 (enc := enc) (C := Try.checked) false ⟨#[], #[.agg #[.int .i64 0, .int .i64 0, .int .i64 0, nilS, nilS, nilS, nilS, nilS, nilS], .int .i64 0], []⟩ 8 (by kernel_rfl) (by kernel_rfl) (by kernel_rfl) (by kernel_rfl)) ?_
  intro W base args ds gs before hval0 hW hcnd hsz0 _
  have hval : ∀ (j : Nat) t v, Try.f5.params[j]? = some t → args[j]? = some v → Value.okWide Try.prog W .any base t v := hval0
  have hsz : (DataW.weightsEach Try.prog (Try.f5.params.toList ++ Rows.rulesZonesSpec.plain.varTypes Try.prog) (ds ++ gs)).all (· ≤ reachBytes) = true := hsz0
  have hW' := hW
  obtain ⟨p, q, hA0, hV, rfl, hfz, hnd⟩ := hW
  have hA : DataW.TrodAll enc Try.prog W 0 (fun _ => true) true Try.f5.params.toList args.toList ds p := hA0
  rw [Try.params5] at hA hval hsz
  obtain ⟨v0, vs0, d0, ds0, p0, q0, hargs, rfl, rfl, h0, r0⟩ := trodAll_cons hA
  obtain ⟨v1, vs1, d1, ds1, p1, q1, rfl, rfl, rfl, h1, r1⟩ := trodAll_cons r0
  obtain ⟨rfl, rfl, rfl⟩ := trodAll_nil r1
  obtain rfl : args = #[v0, v1] := by cases args; simp_all
  obtain ⟨rfl, rfl⟩ := trodVars_none hV
  obtain ⟨x0, e0, w0⟩ := site_read (hval 0 30 v0 rfl rfl) h0 (each_weights hsz (j := 0) rfl rfl)
  have lt0 : ∀ x ∈ p0, x.block < W.heap.size := by obtain ⟨m, hm⟩ := h0; exact DataW.trod_lt m _ _ _ hm
  obtain ⟨x1, rfl, rfl, rfl, w1⟩ := open_int Try.underlying3 (hval 1 3 v1 rfl rfl) h1
  clear hA0 hval0 hsz0
  refine (row_of (f5 (by have := w0.shelves; unfold reachBytes at this; omega) x1) (argsRep_cons e0 (argsRep_cons (repT_num w1) argsRep_nil))).mono fun e W' ⟨he, bel⟩ => ?_
  subst he
  exact ⟨_, rfl, _, _, _, [], _, [], hW', trodAll_mk1 (shut_bool Try.underlying4 _), (trodAll_cons_mk (Below.trod laidOut (by kernel_rfl) (of_decide_eq_true (by kernel_rfl)) h0 bel lt0) (trodAll_cons_mk (shut_int Try.underlying3 w1) trodAll_mk0)), rfl, bel.frame _, fun h => by cases h⟩

theorem over : Rows.rulesZonesRow.holds Try.pinned (OpenSpec.ofChange Rows.rulesZonesSpec) :=
  OpenClaim.holds_of_wide 5 Try.f5 rfl rfl rfl rfl rfl rfl rfl ⟨rfl, rfl, rfl, rfl, rfl⟩ rfl rfl rfl rfl rfl (by kernel_rfl) Try.func5 (by kernel_rfl)
    (of_decide_eq_true (by kernel_rfl)) (by unfold Func.isWrapper; first | (rw [if_pos (by decide +kernel)]; kernel_rfl) | (rw [if_neg (by decide +kernel)]; exact ⟨rfl, rfl⟩))
    (fun os started H enc _ => lifted os started H enc)
end Go.Proofs.Ytcocbifjjafknaa.rulesZones

namespace Go.Proofs.Ytcocbifjjafknaa
theorem rulesZones_holds : Rows.RulesZonesSaid := rulesZones.over
end Go.Proofs.Ytcocbifjjafknaa
#print axioms Go.Proofs.Ytcocbifjjafknaa.rulesZones_holds
