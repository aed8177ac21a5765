/- THE LAW RulesRoom HOLDS: whatever site and state it is called with, it returns true, and what was there before the call is as it was. No condition. -/
import Derived.Test.YtcocbifjjafknaaMb
import Derived.Test.YtcocbifjjafknaaRows
import Derived.WalkKit
import Derived.ProofKit
import Derived.OpenShut
import Derived.ShutString
import Derived.ChangeOld
import Derived.Below
import Derived.SizedLaws
import Derived.Carry

/- What RulesZones asks, in plain terms. -/
set_option linter.unusedSimpArgs false
set_option linter.unusedVariables false
namespace Go.Proofs.Ytcocbifjjafknaa.AL
open Go
variable {s : SiteD} {st : StateD}

/-- A call that hands own rows as data. -/
theorem Pure.castP {P : Program} {f : FuncId} {args args1 : List T} {Φ : T → Prop} (hs : Pure P f args1 Φ) {q : Bool} {K : KMap} {N : Nat} {R : T → KMap → Nat → Prop} (ha : liftA (CastC K) args args1) (hv : ∀ d, Φ d → d.flat = true) (hR : ∀ d, Φ d → R d K N) : CallW P q f args K N R := by
  refine CallW.wf (fun hw => Spec.cast hs ha ?_ ?_) hs.1
  · rintro d K1 N1 ⟨h1, h2, rfl, rfl⟩
    exact ⟨hv d h1, fun id o h => by cases h⟩
  · rintro d K1 N1 ⟨h1, h2, rfl, rfl⟩
    rw [T.ren_below h2, joinK_emp hw]
    exact hR d h1

theorem SiteOk.zok (hf : FewOk s 60 20) (h : SiteOk s) : ZonesOk s :=
  ⟨by have := hf.nz; omega, fun i hi => by have := (hf.zc i hi).1; omega, fun i hi => (h.zones i hi).asc, fun i hi => by have := (hf.zc i hi).2; omega⟩

theorem idxF_step {p : Nat → Bool} {n : Nat} (h : p n = true → ∀ j, j < n → p j = false) : idxF p (n + 1) = if p n = true then (n : Int) else idxF p n := by
  by_cases hp : p n = true
  · rw [if_pos hp, idxF_hit (Nat.lt_succ_self n) hp (h hp)]
  · rw [if_neg hp]
    have hp' : p n = false := by simpa using hp
    rcases idxF_spec p n with ⟨h1, h2⟩ | ⟨i, h1, h2, h3, h4⟩
    · rw [h1]
      refine idxF_none fun j hj => ?_
      by_cases e : j = n
      · subst e; exact hp'
      · exact h2 j (by omega)
    · rw [h4]; exact idxF_hit (by omega) h2 h3

theorem hit_step {p : Nat → Bool} {n : Nat} : decide (0 ≤ idxF p (n + 1)) = (decide (0 ≤ idxF p n) || p n) := by
  rcases idxF_spec p n with ⟨h1, h2⟩ | ⟨i, h1, h2, h3, h4⟩
  · rw [idxF_step (fun _ => h2), h1]
    by_cases hp : p n = true
    · rw [if_pos hp, hp]; simp
    · rw [if_neg hp]
      have hp' : p n = false := by simpa using hp
      rw [hp']; simp
  · rw [h4, idxF_hit (show i < n + 1 by omega) h2 h3]; simp

/-- Zone i has the cell. -/
def zIn (s : SiteD) (c : Int) (i : Nat) : Bool := decide (c ∈ (s.zones.getD i default).cells)

theorem mem_at {l : List Int} {c : Int} (h : c ∈ l) : ∃ q, q < l.length ∧ l.getD q 0 = c := by
  obtain ⟨q, hq, e⟩ := List.mem_iff_getElem.1 h
  exact ⟨q, hq, by simp [hq, e]⟩

theorem zIn_disj (h : SiteOk s) {c : Int} {i : Nat} (hi : i < s.zones.length) (hz : zIn s c i = true) : ∀ j, j < i → zIn s c j = false := by
  intro j hj
  simp only [zIn, decide_eq_true_eq] at hz
  obtain ⟨q, hq, e⟩ := mem_at hz
  have := (h.zones i hi).disj q hq j hj
  rw [e] at this
  simp only [zIn, decide_eq_false_iff_not]
  exact this

theorem of_at {k : Int} {n i : Nat} (h : i < (ofKindN s k n).length) : ∃ c : Nat, c < n ∧ s.floor.kind.getD c 0 = k ∧ (ofKindN s k n).getD i 0 = c := by
  have hm : (ofKindN s k n).getD i 0 ∈ ofKindN s k n := by
    rw [show (ofKindN s k n).getD i 0 = (ofKindN s k n)[i] by simp [h]]
    exact List.getElem_mem h
  unfold ofKindN at hm
  rw [List.mem_map] at hm
  obtain ⟨c, hc, e⟩ := hm
  simp only [List.mem_filter, List.mem_range, decide_eq_true_eq] at hc
  exact ⟨c, hc.1, hc.2, e.symm⟩

theorem of_asc {k : Int} {n i j : Nat} (hij : i < j) (h : j < (ofKindN s k n).length) : (ofKindN s k n).getD i 0 < (ofKindN s k n).getD j 0 := by
  have hp : (ofKindN s k n).Pairwise (· < ·) := by
    unfold ofKindN
    rw [List.pairwise_map]
    exact (List.pairwise_lt_range.filter _).imp fun h => by omega
  have := List.pairwise_iff_getElem.1 hp i j (by omega) h hij
  rw [show (ofKindN s k n).getD i 0 = (ofKindN s k n)[i] by simp [show i < (ofKindN s k n).length by omega], show (ofKindN s k n).getD j 0 = (ofKindN s k n)[j] by simp [h]]
  exact this

/-- How many cells are of a kind below k. -/
def belowK (s : SiteD) (k : Int) (n : Nat) : Nat := (List.range n).countP fun c => decide (s.floor.kind.getD c 0 < k)
theorem belowK_succ {k : Int} {n : Nat} : belowK s (k + 1) n = belowK s k n + (ofKindN s k n).length := by
  induction n with
  | zero => rfl
  | succ n ih =>
    have e : ∀ k, belowK s k (n + 1) = belowK s k n + if s.floor.kind.getD n 0 < k then 1 else 0 := fun k => by
      unfold belowK
      rw [List.range_succ, List.countP_append]
      simp [List.countP_cons]
    rw [e, e, ofKindN_succ, List.length_append, ih]
    by_cases h1 : s.floor.kind.getD n 0 = k
    · rw [if_pos h1, if_pos (by omega), if_neg (by omega)]; simp; omega
    · rw [if_neg h1]
      by_cases h2 : s.floor.kind.getD n 0 < k
      · rw [if_pos h2, if_pos (by omega)]; simp; omega
      · rw [if_neg h2, if_neg (by omega)]; simp
theorem belowK_zero (h : FloorOk s.floor) : belowK s 0 s.floor.kind.length = 0 := by
  unfold belowK
  rw [List.countP_eq_zero]
  intro c hc
  have := (h.kind c (by simpa using hc)).1
  simp only [decide_eq_true_eq]
  omega
theorem belowK_all (h : FloorOk s.floor) : belowK s 7 s.floor.kind.length = s.floor.kind.length := by
  have : (List.range s.floor.kind.length).countP (fun c => decide (s.floor.kind.getD c 0 < 7)) = (List.range s.floor.kind.length).length := by
    rw [List.countP_eq_length]
    intro c hc
    have := (h.kind c (by simpa using hc)).2
    simpa using this
  rw [belowK, this, List.length_range]
theorem belowK_le {k : Int} {n : Nat} : belowK s k n ≤ n := by
  have := List.countP_le_length (p := fun c => decide (s.floor.kind.getD c 0 < k)) (l := List.range n)
  simpa [belowK] using this

/-- After the last span every cell is open. -/
theorem late (h : SiteOk s) {c : Int} (h0 : 0 ≤ c) (h1 : c < s.floor.kind.length) : openF s c 20000 = true := by
  have hc : isCellF s c = true := by
    have e : s.floor.n = (s.floor.kind.length : Int) := rfl
    simp [isCellF, e, h0, h1]
  unfold openF
  rw [hc]
  rcases zoneOf_b s c with hz | ⟨h2, h3, h4⟩
  · rw [hz]; rfl
  · rw [if_neg (by simp; omega)]
    have hs := (h.zones _ h4).shut
    have : anySpan (s.zones.getD (zoneOfF s c).toNat default).shut 20000 = false := by
      unfold anySpan
      rw [idxF_none fun j hj => ?_]
      · rfl
      · have := (hs j hj).2.2
        simp only [inSpan, Bool.and_eq_false_iff, decide_eq_false_iff_not]
        exact .inr (by omega)
    rw [this]; rfl

end Go.Proofs.Ytcocbifjjafknaa.AL

/- What RulesRoom asks, in plain terms. -/
set_option linter.unusedSimpArgs false
set_option linter.unusedVariables false
namespace Go.Proofs.Ytcocbifjjafknaa.AL
open Go
variable {s : SiteD} {st : StateD} {f : FloorD}

/-! Cells and places. -/
theorem place_of (h : FloorOk f) {x y z : Int} (hx : 0 ≤ x ∧ x < f.w ∧ 0 ≤ y ∧ y < f.h ∧ 0 ≤ z ∧ z < f.d) :
    xF f (cellF f x y z) = x ∧ yF f (cellF f x y z) = y ∧ zF f (cellF f x y z) = z := by
  obtain ⟨b1, b2, b3, b4, b5⟩ := cell_bound h hx
  have e : cellF f x y z = x + (z * f.h + y) * f.w := (if_pos hx).trans (Int.add_comm _ _)
  have hc : 0 ≤ cellF f x y z := by rw [e]; omega
  have hf := cellF_isF h hc
  have hw : f.w ≠ 0 := by have := h.w1; omega
  have hh : f.h ≠ 0 := by have := h.h1; omega
  have q1 : cellF f x y z % f.w = x := by
    rw [e, Int.add_mul_emod_self_right]
    exact Int.emod_eq_of_lt hx.1 hx.2.1
  have q2 : cellF f x y z / f.w = y + z * f.h := by
    rw [e, Int.add_mul_ediv_right _ _ hw, Int.ediv_eq_zero_of_lt hx.1 hx.2.1]
    omega
  refine ⟨?_, ?_, ?_⟩
  · rw [xF, if_pos hf, Int.tmod_eq_emod_of_nonneg hc, q1]
  · rw [yF, if_pos hf, Int.tdiv_eq_ediv_of_nonneg hc, q2, Int.tmod_eq_emod_of_nonneg (by omega), Int.add_mul_emod_self_right]
    exact Int.emod_eq_of_lt hx.2.2.1 hx.2.2.2.1
  · rw [zF, if_pos hf, Int.tdiv_eq_ediv_of_nonneg hc, ← Int.ediv_ediv_of_nonneg (by have := h.w1; omega), q2, Int.add_mul_ediv_right _ _ hh, Int.ediv_eq_zero_of_lt hx.2.2.1 hx.2.2.2.1]
    omega

theorem of_place (h : FloorOk f) {c : Int} (hc : isF f c = true) : cellF f (xF f c) (yF f c) (zF f c) = c ∧ zF f c < f.d := by
  obtain ⟨b1, b2, b3⟩ := xF_b h c
  have hc' : 0 ≤ c ∧ c < f.n := by simpa [isF] using hc
  have hw := h.w1
  have hh := h.h1
  have ez : zF f c = c / f.w / f.h := by
    rw [zF, if_pos hc, Int.tdiv_eq_ediv_of_nonneg hc'.1, ← Int.ediv_ediv_of_nonneg (by omega)]
  have ey : yF f c = (c / f.w) % f.h := by
    rw [yF, if_pos hc, Int.tdiv_eq_ediv_of_nonneg hc'.1, Int.tmod_eq_emod_of_nonneg (Int.ediv_nonneg hc'.1 (by omega))]
  have ex : xF f c = c % f.w := by rw [xF, if_pos hc, Int.tmod_eq_emod_of_nonneg hc'.1]
  have hd : zF f c < f.d := by
    rw [zF, if_pos hc, Int.tdiv_eq_ediv_of_nonneg hc'.1]
    refine Int.ediv_lt_of_lt_mul (by have := h.wh; omega) ?_
    rw [Int.mul_comm, h.size]
    exact hc'.2
  refine ⟨?_, hd⟩
  have hv : (zF f c * f.h + yF f c) * f.w + xF f c = c := by
    rw [ez, ey, ex, Int.ediv_mul_add_emod, Int.ediv_mul_add_emod]
  rw [cellF, if_pos ⟨b1.1, b1.2, b2.1, b2.2, b3.1, hd⟩, hv]

theorem side_symm (h : FloorOk f) {a b : Int} (ha : isF f a = true) (hb : b ∈ posL (sideL f a)) : a ∈ posL (sideL f b) := by
  obtain ⟨ea, ed⟩ := of_place h ha
  obtain ⟨b1, b2, b3⟩ := xF_b h a
  have ha0 : 0 ≤ a := by simp only [isF, Bool.and_eq_true, decide_eq_true_eq] at ha; omega
  unfold posL at hb ⊢
  rw [List.mem_filter] at hb ⊢
  obtain ⟨hb, hb0⟩ := hb
  have hb0' : 0 ≤ b := by simpa using hb0
  refine ⟨?_, by simpa using ha0⟩
  have go : ∀ {x y z : Int}, b = cellF f x y z → xF f b = x ∧ yF f b = y ∧ zF f b = z := by
    intro x y z e
    subst e
    by_cases hx : 0 ≤ x ∧ x < f.w ∧ 0 ≤ y ∧ y < f.h ∧ 0 ≤ z ∧ z < f.d
    · exact place_of h hx
    · rw [cellF_no hx] at hb0'; omega
  simp only [sideL, List.mem_cons, List.not_mem_nil, or_false] at hb ⊢
  rcases hb with hb | hb | hb | hb
  · obtain ⟨e1, e2, e3⟩ := go hb
    rw [e1, e2, e3]
    exact .inr (.inr (.inl (by rw [show xF f a + 1 - 1 = xF f a by omega]; exact ea.symm)))
  · obtain ⟨e1, e2, e3⟩ := go hb
    rw [e1, e2, e3]
    exact .inr (.inr (.inr (by rw [show yF f a + 1 - 1 = yF f a by omega]; exact ea.symm)))
  · obtain ⟨e1, e2, e3⟩ := go hb
    rw [e1, e2, e3]
    exact .inl (by rw [show xF f a - 1 + 1 = xF f a by omega]; exact ea.symm)
  · obtain ⟨e1, e2, e3⟩ := go hb
    rw [e1, e2, e3]
    exact .inr (.inl (by rw [show yF f a - 1 + 1 = yF f a by omega]; exact ea.symm))

/-! The state in which all shelves stand where the site says. -/
def fstD (s : SiteD) : StateD := ⟨0, s.shelves.map (·.cell), [], [], [], []⟩
theorem fst_len : (fstD s).shelves.length = s.shelves.length := by simp [fstD]
theorem fst_at {i : Nat} (hi : i < s.shelves.length) : shelfAt (fstD s) i = (s.shelves.getD i default).cell := by
  simp [shelfAt, fstD, hi]

theorem isM_isF {c : Int} : isM f c = isF f c := rfl

theorem apartL_pair {a b : ByteArray} (ha : a ≠ ⟨#[]⟩) (hb : b ≠ ⟨#[]⟩) (h : apartL s.aparts a b = false) : pairF s s.aparts.length a b = false := by
  have hp : ∀ x : ApartD, hasPair s.aparts x = false → ∀ j, j < s.aparts.length → (decide (x.a = (s.aparts.getD j default).a) && decide (x.b = (s.aparts.getD j default).b)) = false := by
    intro x hx j hj
    unfold hasPair at hx
    rcases idxF_spec (fun i => decide (x.a = (s.aparts.getD i default).a) && decide (x.b = (s.aparts.getD i default).b)) s.aparts.length with ⟨_, h2⟩ | ⟨i, _, _, _, h4⟩
    · exact h2 j hj
    · rw [h4] at hx; simp at hx
  unfold apartL at h
  rw [if_neg (by simp [ha, hb])] at h
  simp only [Bool.or_eq_false_iff] at h
  unfold pairF
  rw [List.any_eq_false]
  intro j hj
  have hj' : j < s.aparts.length := by simpa using hj
  have h1 := hp _ h.1 j hj'
  have h2 := hp _ h.2 j hj'
  simp only at h1 h2
  rw [h1, Bool.and_comm (decide (a = _)), h2]
  simp

theorem atS_self (h : SiteOk s) {i : Nat} (hi : i < s.shelves.length) : atS s (s.shelves.getD i default).cell = some i := by
  unfold atS
  rw [List.find?_range_eq_some]
  refine ⟨by simp, by simpa using hi, fun j hj => ?_⟩
  have := (h.shelves i hi).disj j hj
  simp only [Bool.not_eq_true', decide_eq_false_iff_not]
  exact this

theorem first_ok (h : SiteOk s) : apOk s (fstD s) = false := by
  have hb : ∀ i, i < (fstD s).shelves.length → decide (0 ≤ bestF s (fstD s) i) = false := by
    intro i hi
    rw [fst_len] at hi
    unfold bestF
    by_cases ha : actF s (fstD s) i = true
    · rw [if_pos ha, idxF_none fun k hk => ?_]
      · rfl
      · rw [fst_len] at hk
        cases hbad : badF s (fstD s) i k with
        | false => rfl
        | true =>
          exfalso
          simp only [badF, Bool.and_eq_true, sideOf] at hbad
          obtain ⟨⟨hak, hs⟩, hik, hc⟩ := hbad
          have hik := of_decide_eq_true hik
          have hs : shelfAt (fstD s) k ∈ posL (sideL s.floor (shelfAt (fstD s) i)) := of_decide_eq_true hs
          rw [fst_at hi, fst_at hk] at hs
          have hs2 := side_symm h.floor (by rw [← isM_isF]; exact (h.shelves i hi).isC) hs
          have hn := h.near k hk _ (List.mem_filter.1 hs2).1 i (atS_self h hi) hik
          unfold clsF at hc
          have ci : classF s (i : Int) = (s.shelves.getD i default).cls := by
            rw [classF, if_pos (by omega), Int.toNat_natCast]
          have ck : classF s (k : Int) = (s.shelves.getD k default).cls := by
            rw [classF, if_pos (by omega), Int.toNat_natCast]
          simp only [actF, Bool.and_eq_true, decide_eq_true_eq] at ha hak
          rw [ci] at ha hc
          rw [ck] at hak hc
          rw [pairF_symm, apartL_pair hak.1 ha.1 hn] at hc
          cases hc
    · rw [if_neg ha]; rfl
  have : hitI s (fstD s) = -1 := idxF_none hb
  simp [apOk, this]

theorem free_first (c : Int) : freeF s (fstD s) c = freeS s c := by
  have e1 : standF (fstD s) c = atS s c := by
    unfold standF standFrom atS
    rw [fst_len]
    refine find_congr fun i hi' => ?_
    have hi : i < s.shelves.length := by simpa using hi'
    have := fst_at (s := s) hi
    unfold shelfAt at this
    simp only [standsAt, this, Nat.zero_le, decide_true, Bool.true_and]
    simp [fstD, loadF]
  have e2 : standsF s c = standsK (kindM s.floor c) := by
    have e : s.floor.n = (s.floor.kind.length : Int) := rfl
    unfold standsF isCellF kindM kindF
    rw [e]
    by_cases hc : 0 ≤ c ∧ c < s.floor.kind.length
    · rw [if_pos hc, decide_eq_true hc.1, decide_eq_true hc.2]; rfl
    · rw [if_neg hc]
      have : (decide (0 ≤ c) && decide (c < (s.floor.kind.length : Int))) = false := by
        simp only [Bool.and_eq_false_iff, decide_eq_false_iff_not]
        omega
      rw [this]; rfl
  unfold freeF freeS
  rw [e1, e2]

theorem keep_le (hf : FewOk s 60 20) (h : SiteOk s) {z : Nat} (hz : z < s.zones.length) : 0 ≤ (s.zones.getD z default).keep ∧ (s.zones.getD z default).keep ≤ 60 := by
  have h1 := h.keeps z hz
  have h2 : freeC s (s.zones.getD z default).cells ≤ (s.zones.getD z default).cells.length := by
    have := List.countP_le_length (p := fun i => freeS s ((s.zones.getD z default).cells.getD i 0)) (l := List.range (s.zones.getD z default).cells.length)
    simpa [freeC] using this
  have h3 := (hf.zc z hz).1
  exact ⟨(h.zones z hz).keep, by omega⟩

theorem room_eq (hf : FewOk s 60 20) (h : SiteOk s) {z : Nat} (hz : z < s.zones.length) :
    roomF s st z = (countF s st (s.zones.getD z default).cells (s.zones.getD z default).cells.length : Nat) - (s.zones.getD z default).keep := by
  obtain ⟨k1, k2⟩ := keep_le hf h hz
  have hc := countF_le (s := s) (st := st) (l := (s.zones.getD z default).cells) (n := (s.zones.getD z default).cells.length)
  have h3 := (hf.zc z hz).1
  unfold roomF zoneD
  rw [if_pos (by omega), Int.toNat_natCast]
  rw [IntKind.wrap_i64]
  omega

theorem room_first (hf : FewOk s 60 20) (h : SiteOk s) {z : Nat} (hz : z < s.zones.length) : 0 ≤ roomF s (fstD s) z := by
  rw [room_eq hf h hz]
  have h1 := h.keeps z hz
  have : countF s (fstD s) (s.zones.getD z default).cells (s.zones.getD z default).cells.length = freeC s (s.zones.getD z default).cells := by
    unfold countF freeC
    congr 1
    funext i
    exact free_first _
  rw [this]
  omega

theorem keeps_first (hf : FewOk s 60 20) (h : SiteOk s) : keepsF s (fstD s) = -1 :=
  idxF_none fun z hz => decide_eq_false (by have := room_first hf h hz; omega)

/-- The first zone without room, of the first n ones. -/
def badZ (s : SiteD) (st : StateD) (n : Nat) : Int := idxF (fun z => decide (roomF s st z < 0)) n
theorem badZ_succ {n : Nat} : badZ s st (n + 1) = if badZ s st n < 0 ∧ roomF s st n < 0 then (n : Int) else badZ s st n := by
  unfold badZ
  rcases idxF_spec (fun z => decide (roomF s st (z : Nat) < 0)) n with ⟨h1, h2⟩ | ⟨i, h1, h2, h3, h4⟩
  · rw [idxF_step (fun _ => h2), h1]
    by_cases hp : roomF s st n < 0
    · rw [if_pos (by simpa using hp), if_pos ⟨by omega, hp⟩]
    · rw [if_neg (by simpa using hp), if_neg (fun hh => hp hh.2)]
  · rw [idxF_hit (show i < n + 1 by omega) h2 h3, h4, if_neg (by omega)]

theorem at_none {c : Int} : decide (atF st c = -1) = (standF st c).isNone := by
  unfold atF
  cases h : standF st c with
  | none => rfl
  | some i => simp

end Go.Proofs.Ytcocbifjjafknaa.AL

/- The law RulesRoom. -/
set_option linter.unusedSimpArgs false
set_option linter.unusedVariables false
namespace Go.Proofs.Ytcocbifjjafknaa.AL
open Go
variable {s : SiteD} {st : StateD}

theorem castV_refl2 {K : KMap} {cs : List C} (h : cs.all (C.below 0) = true) : liftV (CastC K) (.agg cs) (.agg cs) := by
  refine ⟨rfl, fun i c c1 h1 h2 => ?_⟩
  rw [h1] at h2
  cases h2
  rw [List.all_eq_true] at h
  exact .inl ⟨rfl, h c (List.mem_of_getElem? h1)⟩

def firstL (s : SiteD) (n : Nat) : List Int := (s.shelves.take n).map (·.cell)
theorem firstL_succ {n : Nat} (h : n < s.shelves.length) : firstL s (n + 1) = firstL s n ++ [(s.shelves.getD n default).cell] := by
  unfold firstL
  rw [take_snoc h, List.map_append]
  rfl
theorem firstL_len {n : Nat} (h : n ≤ s.shelves.length) : (firstL s n).length = n := by simp [firstL, h]
theorem firstL_all : firstL s s.shelves.length = (fstD s).shelves := by simp [firstL, fstD]

def fstC (v n : Nat) : List C := [cV (.int .i64 0), .own 3 v 0 n, cV nilS, cV nilS, cV nilS, cV nilS]
def rb : Nat → Option T := upd (upd (upd emp 2 (tC (.ptr 0 0 0 0))) 3 (tC (.ptr 1 0 0 0))) 5 (tB true)
def rK (s : SiteD) (st : StateD) (x : Nat × Nat) : KMap := upd (upd (upd (upd emp 0 (.row 0 9 [encSite s])) 1 (.row 0 6 [encState st])) 2 (.row 0 6 [fstC x.2 x.1])) 3 (.row x.2 1 (intC (firstL s x.1)))
def r1 (s : SiteD) (st : StateD) (x : Nat × Nat) : St := ⟨upd (upd rb 6 (tC (.ptr 2 0 0 0))) 7 (tI x.1), rK s st x, 4⟩

theorem f6a (h : Fits s st) {Q : XE → St → Prop} (hQ : ∀ v tm, TmCut (upd rb 6 (tC (.ptr 2 0 0 0))) tm → Q (.exit 0) ⟨tm, rK s st (s.shelves.length, v), 4⟩) :
    ∀ x : Nat × Nat, x.1 ≤ s.shelves.length → awp Try.prog 0 s6_34 (r1 s st x) (roundQ 0 (r1 s st) (fun x => s.shelves.length - x.1) (fun x => x.1 ≤ s.shelves.length) x Q) := by
  rintro ⟨i, v⟩ hi
  simp only at hi
  have hns := h.few.ns
  simp only [go_sem, s6_34, r1, rb, rK, encSite, rows_len, ↓reduceIte, reduceCtorEq, Nat.reduceEqDiff, Nat.reduceAdd, Nat.reduceSub, Nat.reduceMul, Nat.reduceLT, Nat.reduceLeDiff, Int.reduceToNat]
  refine twoQ_at (fun g => ?_) (fun g => ?_)
  · have hi' : i < s.shelves.length := by have := of_decide_eq_true g; omega
    have hwr : IntKind.i64.wrap ((i : Int) + 1) = ((i + 1 : Nat) : Int) := wrap_i (by omega) (by omega)
    have hl := firstL_len (s := s) (n := i) hi
    simp only [go_sem, s6_33, fstC, encSite, rows_len, rows_at hi', encShelf, Int.toNat_natCast, evAppend, srcRows, rowsOf, intC_len, hl, ↓reduceIte, reduceCtorEq, Nat.reduceEqDiff, Nat.reduceAdd, Nat.reduceSub, Nat.reduceMul, Nat.reduceLT, Nat.reduceLeDiff, Int.reduceToNat]
    refine ⟨⟨by omega, by omega⟩, ⟨by omega, by omega⟩, (i + 1, v + 1), by simp only; omega, by simp only; omega, ?_⟩
    rw [hwr, intC_app, ← firstL_succ hi']
    unfold r1 rK rb fstC
    exact Weak.keep (by repeat (first | refine TmLe.cons rfl rfl ?_ | refine TmLe.cons (by simp [upd, *]) rfl ?_ | exact TmLe.nil)) (by repeat (first | refine KLe.cons (by omega) (by first | rfl | (simp [upd, *]; done) | (simp [joinK, upd, addN, ho.ren]; done)) (by first | rfl | exact IMap.bel (by assumption) | exact intC_bel | exact rowC_bel) ?_ | exact KLe.nil)) (by first | omega | exact Nat.le_refl _ | (dsimp only; omega)) (by first | omega | exact Nat.le_refl _ | (dsimp only; omega))
  · have hi' : i = s.shelves.length := by simp only [decide_eq_false_iff_not] at g; omega
    subst hi'
    refine hQ v _ ?_
    unfold rb
    repeat (first | refine TmCut.cons rfl ?_ | exact TmCut.nil)

/-- Behind the first loop the objects stay. -/
structure RK (s : SiteD) (st : StateD) (K : KMap) (v : Nat) : Prop where
  site : K 0 = some (.row 0 9 [encSite s])
  state : K 1 = some (.row 0 6 [encState st])
  first : K 2 = some (.row 0 6 [fstC v s.shelves.length])
  rows : K 3 = some (.row v 1 (intC (fstD s).shelves))

def r3 (s : SiteD) (st : StateD) (K : KMap) (z i : Nat) : St :=
  ⟨upd (upd (upd (upd (upd rb 6 (tC (.ptr 2 0 0 0))) 8 (tI (badZ s st z))) 9 (tI z)) 10 (tI (countF s st (s.zones.getD z default).cells i))) 11 (tI i), K, 4⟩

theorem f6b (h : Fits s st) {K : KMap} {v : Nat} (hK : RK s st K v) {z : Nat} (hz : z < s.zones.length) {Q : XE → St → Prop}
    (hQ : ∀ tm, TmCut (upd (upd (upd (upd rb 6 (tC (.ptr 2 0 0 0))) 8 (tI (badZ s st z))) 9 (tI z)) 10 (tI (countF s st (s.zones.getD z default).cells (s.zones.getD z default).cells.length))) tm → Q (.exit 4) ⟨tm, K, 4⟩) :
    ∀ i, i ≤ (s.zones.getD z default).cells.length → awp Try.prog 0 s6_29 (r3 s st K z i) (roundQ 0 (r3 s st K z) (fun i => (s.zones.getD z default).cells.length - i) (fun i => i ≤ (s.zones.getD z default).cells.length) i Q) := by
  intro i hi
  have hnz := h.few.nz
  have hzc := (h.few.zc z hz).1
  have hnr := h.nr
  have hns : st.shelves.length ≤ 20 := by have := h.few.ns; have := h.nsh; omega
  have hso : StOk st := ⟨by omega, by omega⟩
  simp only [go_sem, s6_29, r3, rb, hK.site, encSite, rows_len, rows_at hz, encZone, ints_len, Int.toNat_natCast, ↓reduceIte, reduceCtorEq, Nat.reduceEqDiff, Nat.reduceAdd, Nat.reduceSub, Nat.reduceMul, Nat.reduceLT, Nat.reduceLeDiff, Int.reduceToNat]
  refine ⟨⟨by omega, by omega⟩, twoQ_at (fun g => ?_) (fun g => ?_)⟩
  · have hi' : i < (s.zones.getD z default).cells.length := by have := of_decide_eq_true g; omega
    have hwr : IntKind.i64.wrap ((i : Int) + 1) = ((i + 1 : Nat) : Int) := wrap_i (by omega) (by omega)
    have hcl := countF_le (s := s) (st := st) (l := (s.zones.getD z default).cells) (n := i)
    have hwc : IntKind.i64.wrap (((countF s st (s.zones.getD z default).cells i : Nat) : Int) + 1) = ((countF s st (s.zones.getD z default).cells i + 1 : Nat) : Int) := wrap_i (by omega) (by omega)
    obtain ⟨c, hc⟩ : ∃ c, c = (s.zones.getD z default).cells.getD i 0 := ⟨_, rfl⟩
    have hst := countF_succ (s := s) (st := st) (l := (s.zones.getD z default).cells) (n := i)
    rw [← hc] at hst
    simp only [go_sem, s6_28, hK.site, encSite, rows_len, rows_at hz, encZone, ints_len, ints_at hi', ← hc, Int.toNat_natCast, ↓reduceIte, reduceCtorEq, Nat.reduceEqDiff, Nat.reduceAdd, Nat.reduceSub, Nat.reduceMul, Nat.reduceLT, Nat.reduceLeDiff, Int.reduceToNat]
    refine ⟨⟨by omega, by omega⟩, ⟨by omega, by omega⟩, Pure.callS (f16 (s := s) c) rfl ?_⟩
    simp only [go_sem, s6_27, hK.site, encSite, ↓reduceIte, reduceCtorEq, Nat.reduceEqDiff, Nat.reduceAdd, Nat.reduceSub, Nat.reduceMul, Nat.reduceLT, Nat.reduceLeDiff, Int.reduceToNat]
    refine guardQ_at (fun g1 => ?_) (fun g1 => ?_)
    · simp only [go_sem, s6_26, hK.state, encState, ↓reduceIte, reduceCtorEq, Nat.reduceEqDiff, Nat.reduceAdd, Nat.reduceSub, Nat.reduceMul, Nat.reduceLT, Nat.reduceLeDiff, Int.reduceToNat]
      refine Pure.callS (f17 (s := s) hso c) rfl ?_
      simp only [go_sem, s6_25, s6_24, ↓reduceIte, reduceCtorEq, Nat.reduceEqDiff, Nat.reduceAdd, Nat.reduceSub, Nat.reduceMul, Nat.reduceLT, Nat.reduceLeDiff, Int.reduceToNat]
      refine twoQ_at (fun g2 => ?_) (fun g2 => ?_)
      · have hf : freeF s st c = true := by rw [freeF, ← at_none, g2, g1]; rfl
        rw [if_pos hf] at hst
        simp only [go_sem, s6_23, s6_22, hwc, hwr, ↓reduceIte, reduceCtorEq, Nat.reduceEqDiff, Nat.reduceAdd, Nat.reduceSub, Nat.reduceMul, Nat.reduceLT, Nat.reduceLeDiff, Int.reduceToNat]
        refine ⟨i + 1, by omega, by omega, Weak.cutTm ?_⟩
        rw [hst]
        unfold rb
        repeat (first | refine TmCut.cons rfl ?_ | exact TmCut.nil)
      · have hf : ¬ freeF s st c = true := by rw [freeF, ← at_none, g2]; simp
        rw [if_neg hf, Nat.add_zero] at hst
        simp only [go_sem, s6_22, hwr, ↓reduceIte, reduceCtorEq, Nat.reduceEqDiff, Nat.reduceAdd, Nat.reduceSub, Nat.reduceMul, Nat.reduceLT, Nat.reduceLeDiff, Int.reduceToNat]
        refine ⟨i + 1, by omega, by omega, Weak.cutTm ?_⟩
        rw [hst]
        unfold rb
        repeat (first | refine TmCut.cons rfl ?_ | exact TmCut.nil)
    · have g1 : standsF s c = false := by simpa using g1
      have hf : ¬ freeF s st c = true := by rw [freeF, g1]; simp
      rw [if_neg hf, Nat.add_zero] at hst
      simp only [go_sem, s6_26, s6_25, s6_24, s6_22, hwr, ↓reduceIte, reduceCtorEq, Nat.reduceEqDiff, Nat.reduceAdd, Nat.reduceSub, Nat.reduceMul, Nat.reduceLT, Nat.reduceLeDiff, Int.reduceToNat]
      refine ⟨i + 1, by omega, by omega, Weak.cutTm ?_⟩
      rw [hst]
      unfold rb
      repeat (first | refine TmCut.cons rfl ?_ | exact TmCut.nil)
  · have hi' : i = (s.zones.getD z default).cells.length := by simp only [decide_eq_false_iff_not] at g; omega
    subst hi'
    refine hQ _ ?_
    unfold rb
    repeat (first | refine TmCut.cons rfl ?_ | exact TmCut.nil)

def r2 (s : SiteD) (st : StateD) (K : KMap) (z : Nat) : St := ⟨upd (upd (upd rb 6 (tC (.ptr 2 0 0 0))) 8 (tI (badZ s st z))) 9 (tI z), K, 4⟩

theorem f6c (h : Fits s st) {K : KMap} {v : Nat} (hK : RK s st K v) {Q : XE → St → Prop}
    (hQ : ∀ tm, TmCut (upd (upd rb 6 (tC (.ptr 2 0 0 0))) 8 (tI (keepsF s st))) tm → Q (.exit 2) ⟨tm, K, 4⟩) :
    ∀ z, z ≤ s.zones.length → awp Try.prog 0 s6_31 (r2 s st K z) (roundQ 0 (r2 s st K) (fun z => s.zones.length - z) (fun z => z ≤ s.zones.length) z Q) := by
  intro z hz
  have hnz := h.few.nz
  have hnr := h.nr
  have hns : st.shelves.length ≤ 20 := by have := h.few.ns; have := h.nsh; omega
  have hso : StOk st := ⟨by omega, by omega⟩
  have hzk := h.ok.zok h.few
  simp only [go_sem, s6_31, r2, rb, hK.site, encSite, rows_len, ↓reduceIte, reduceCtorEq, Nat.reduceEqDiff, Nat.reduceAdd, Nat.reduceSub, Nat.reduceMul, Nat.reduceLT, Nat.reduceLeDiff, Int.reduceToNat]
  refine twoQ_at (fun g => ?_) (fun g => ?_)
  · have hz' : z < s.zones.length := by have := of_decide_eq_true g; omega
    have hwr : IntKind.i64.wrap ((z : Int) + 1) = ((z + 1 : Nat) : Int) := wrap_i (by omega) (by omega)
    simp only [go_sem, s6_30, ↓reduceIte, reduceCtorEq, Nat.reduceEqDiff, Nat.reduceAdd, Nat.reduceSub, Nat.reduceMul, Nat.reduceLT, Nat.reduceLeDiff, Int.reduceToNat]
    refine awp_loop (r3 s st K z) (fun i => (s.zones.getD z default).cells.length - i) (fun i => i ≤ (s.zones.getD z default).cells.length) 0 (Nat.zero_le _) ?_ (f6b h hK hz' fun tm hcut => ?_)
    · refine Weak.cutTm ?_
      unfold rb
      repeat (first | refine TmCut.cons rfl ?_ | exact TmCut.nil)
    have h2 : tm 2 = some (tC (.ptr 0 0 0 0)) := hcut 2 _ rfl
    have h3 : tm 3 = some (tC (.ptr 1 0 0 0)) := hcut 3 _ rfl
    have h5 : tm 5 = some (tB true) := hcut 5 _ rfl
    have h6 : tm 6 = some (tC (.ptr 2 0 0 0)) := hcut 6 _ rfl
    have h8 : tm 8 = some (tI (badZ s st z)) := hcut 8 _ rfl
    have h9 : tm 9 = some (tI z) := hcut 9 _ rfl
    have h10 : tm 10 = some (tI (countF s st (s.zones.getD z default).cells (s.zones.getD z default).cells.length)) := hcut 10 _ rfl
    have hroom := room_eq (st := st) h.few h.ok hz'
    obtain ⟨k1, k2⟩ := keep_le h.few h.ok hz'
    have hcl := countF_le (s := s) (st := st) (l := (s.zones.getD z default).cells) (n := (s.zones.getD z default).cells.length)
    have hzc := (h.few.zc z hz').1
    have hws : IntKind.i64.wrap (((countF s st (s.zones.getD z default).cells (s.zones.getD z default).cells.length : Nat) : Int) - (s.zones.getD z default).keep) = roomF s st z := by
      rw [hroom, IntKind.wrap_i64]
      omega
    have hst := badZ_succ (s := s) (st := st) (n := z)
    simp only [go_sem, s6_21, h2, h3, h9, h10, hK.site, hK.state, encSite, encState, rows_len, rows_at hz', encZone, Int.toNat_natCast, hws, ↓reduceIte, reduceCtorEq, Nat.reduceEqDiff, Nat.reduceAdd, Nat.reduceSub, Nat.reduceMul, Nat.reduceLT, Nat.reduceLeDiff, Int.reduceToNat]
    refine ⟨⟨by omega, by omega⟩, Pure.callS (f19 hzk hso z) rfl ?_⟩
    simp only [go_sem, s6_20, s6_19, s6_17, h8, h10, ne_eq, not_true, decide_false, ↓reduceIte, reduceCtorEq, Nat.reduceEqDiff, Nat.reduceAdd, Nat.reduceSub, Nat.reduceMul, Nat.reduceLT, Nat.reduceLeDiff, Int.reduceToNat]
    have next : ∀ {tm' : Nat → Option T}, TmCut (upd rb 6 (tC (.ptr 2 0 0 0))) tm' → tm' 8 = some (tI (badZ s st (z + 1))) → tm' 9 = some (tI z) →
        awp Try.prog 0 s6_13 ⟨tm', K, 4⟩ (roundQ 0 (r2 s st K) (fun z => s.zones.length - z) (fun z => z ≤ s.zones.length) z Q) := by
      intro tm' hc h8' h9'
      simp only [go_sem, s6_13, h9', hwr, ↓reduceIte, reduceCtorEq, Nat.reduceEqDiff, Nat.reduceAdd, Nat.reduceSub, Nat.reduceMul, Nat.reduceLT, Nat.reduceLeDiff, Int.reduceToNat]
      refine ⟨z + 1, by omega, by omega, Weak.cutTm ?_⟩
      refine TmCut.cons rfl (TmCut.cons h8' (TmCut.skip (TmCut.skip (TmCut.skip hc rfl) rfl) rfl))
    refine guardQ_at (fun g1 => ?_) (fun g1 => ?_)
    · have g1 : badZ s st z < 0 := by simpa using g1
      simp only [go_sem, s6_16, s6_15, h2, h9, hK.site, encSite, rows_len, rows_at hz', encZone, Int.toNat_natCast, ↓reduceIte, reduceCtorEq, Nat.reduceEqDiff, Nat.reduceAdd, Nat.reduceSub, Nat.reduceMul, Nat.reduceLT, Nat.reduceLeDiff, Int.reduceToNat]
      refine ⟨⟨by omega, by omega⟩, twoQ_at (fun g2 => ?_) (fun g2 => ?_)⟩
      · have g2 : roomF s st z < 0 := by have := of_decide_eq_true g2; omega
        rw [if_pos ⟨g1, g2⟩] at hst
        simp only [go_sem, s6_14, h9, ↓reduceIte, reduceCtorEq, Nat.reduceEqDiff, Nat.reduceAdd, Nat.reduceSub, Nat.reduceMul, Nat.reduceLT, Nat.reduceLeDiff, Int.reduceToNat]
        refine next ?_ (by rw [hst]; rfl) h9
        unfold rb
        exact TmCut.cons h6 (TmCut.cons h5 (TmCut.cons h3 (TmCut.cons h2 TmCut.nil)))
      · have g2 : ¬ roomF s st z < 0 := by simp only [decide_eq_false_iff_not] at g2; omega
        rw [if_neg (fun hh => g2 hh.2)] at hst
        refine next ?_ (by rw [hst]; exact h8) h9
        unfold rb
        exact TmCut.cons h6 (TmCut.cons h5 (TmCut.cons h3 (TmCut.cons h2 TmCut.nil)))
    · have g1 : ¬ badZ s st z < 0 := by simpa using g1
      rw [if_neg (fun hh => g1 hh.1)] at hst
      simp only [go_sem, s6_16, s6_15, ↓reduceIte, reduceCtorEq, Nat.reduceEqDiff, Nat.reduceAdd, Nat.reduceSub, Nat.reduceMul, Nat.reduceLT, Nat.reduceLeDiff, Int.reduceToNat]
      refine next ?_ (by rw [hst]; exact h8) h9
      unfold rb
      exact TmCut.cons h6 (TmCut.cons h5 (TmCut.cons h3 (TmCut.cons h2 TmCut.nil)))
  · have hz' : z = s.zones.length := by simp only [decide_eq_false_iff_not] at g; omega
    subst hz'
    refine hQ _ ?_
    unfold rb
    repeat (first | refine TmCut.cons rfl ?_ | exact TmCut.nil)

theorem first_cast {K : KMap} {v : Nat} (hf : s.shelves.length ≤ 20) (hK : K 3 = some (.row v 1 (intC (fstD s).shelves))) : liftV (CastC K) (.agg (fstC v s.shelves.length)) (.agg (encState (fstD s))) := by
  have nil : ∀ n, CastC K (cV nilS) (.r (.rd n [])) := fun n => .inr ⟨_, rfl, .nil⟩
  have hc := intC_cast hK (by rw [fst_len]; omega)
  rw [fst_len] at hc
  refine ⟨rfl, fun i c c' hi hi' => ?_⟩
  match i with
  | 0 => cases hi; cases hi'; exact .inl ⟨rfl, rfl⟩
  | 1 => cases hi; cases hi'; exact hc
  | 2 => cases hi; cases hi'; exact nil 6
  | 3 => cases hi; cases hi'; exact nil 1
  | 4 => cases hi; cases hi'; exact nil 1
  | 5 => cases hi; cases hi'; exact nil 2
  | i + 6 => simp [fstC] at hi

theorem f6 : Pure Try.prog 6 [.v (.agg (encSite s)), .v (.agg (encState st))] (· = tB true) := by
  refine Pure.of_awp hm Try.func6 s6_ok (by simp [s6]) ?_
  simp only [go_sem, s6, encSite, encState, ↓reduceIte, reduceCtorEq, Nat.reduceEqDiff, Nat.reduceAdd, Nat.reduceSub, Nat.reduceMul, Nat.reduceLT, Nat.reduceLeDiff, Int.reduceToNat]
  refine Pure.callS f8 rfl ?_
  simp only [go_sem, s6_40, s6_39, encSite, encState, ↓reduceIte, reduceCtorEq, Nat.reduceEqDiff, Nat.reduceAdd, Nat.reduceSub, Nat.reduceMul, Nat.reduceLT, Nat.reduceLeDiff, Int.reduceToNat]
  refine Pure.call (f9 (s := s) (st := st)) (liftA_refl rfl) ?_
  rintro _ ⟨b, rfl, hb⟩ _
  simp only [go_sem, s6_38, s6_37, ↓reduceIte, reduceCtorEq, Nat.reduceEqDiff, Nat.reduceAdd, Nat.reduceSub, Nat.reduceMul, Nat.reduceLT, Nat.reduceLeDiff, Int.reduceToNat]
  refine twoQ_at (fun g => ?_) (fun g => ?_)
  · simp only [go_sem, s6_36, ↓reduceIte, reduceCtorEq, Nat.reduceEqDiff, Nat.reduceAdd, Nat.reduceSub, Nat.reduceMul, Nat.reduceLT, Nat.reduceLeDiff, Int.reduceToNat]
    rfl
  simp only [Bool.not_eq_false'] at g
  have h := hb g
  have hns : s.shelves.length ≤ 20 := by have := h.few.ns; omega
  have hns2 : st.shelves.length ≤ 20 := by have := h.nsh; omega
  have hna := h.few.na
  have hnr := h.nr
  have hso : StOk st := ⟨by omega, by omega⟩
  have hsf : StOk (fstD s) := ⟨by simp [fstD], by rw [fst_len]; omega⟩
  have hzk := h.ok.zok h.few
  simp only [go_sem, s6_35, ↓reduceIte, reduceCtorEq, Nat.reduceEqDiff, Nat.reduceAdd, Nat.reduceSub, Nat.reduceMul, Nat.reduceLT, Nat.reduceLeDiff, Int.reduceToNat]
  refine awp_loop (r1 s st) (fun x => s.shelves.length - x.1) (fun x => x.1 ≤ s.shelves.length) (0, 0) (Nat.zero_le _) ?_ (f6a h fun v tm hcut => ?_)
  · refine Weak.trans (Weak.nilCell 2 1 6 1 _ rfl rfl) ?_
    unfold r1 rK rb fstC
    exact Weak.keep (by repeat (first | refine TmLe.cons rfl rfl ?_ | refine TmLe.cons (by simp [upd, *]) rfl ?_ | exact TmLe.nil)) (by repeat (first | refine KLe.cons (by omega) (by first | rfl | (simp [upd, *]; done) | (simp [joinK, upd, addN, ho.ren]; done)) (by first | rfl | exact IMap.bel (by assumption) | exact intC_bel | exact rowC_bel) ?_ | exact KLe.nil)) (by first | omega | exact Nat.le_refl _ | (dsimp only; omega)) (by first | omega | exact Nat.le_refl _ | (dsimp only; omega))
  have h2 : tm 2 = some (tC (.ptr 0 0 0 0)) := hcut 2 _ rfl
  have h3 : tm 3 = some (tC (.ptr 1 0 0 0)) := hcut 3 _ rfl
  have h5 : tm 5 = some (tB true) := hcut 5 _ rfl
  have h6 : tm 6 = some (tC (.ptr 2 0 0 0)) := hcut 6 _ rfl
  have hK : RK s st (rK s st (s.shelves.length, v)) v := ⟨rfl, rfl, rfl, by rw [← firstL_all]; rfl⟩
  obtain ⟨K, eK⟩ : ∃ K, K = rK s st (s.shelves.length, v) := ⟨_, rfl⟩
  rw [← eK] at hK ⊢
  simp only [go_sem, s6_32, ↓reduceIte, reduceCtorEq, Nat.reduceEqDiff, Nat.reduceAdd, Nat.reduceSub, Nat.reduceMul, Nat.reduceLT, Nat.reduceLeDiff, Int.reduceToNat]
  refine awp_loop (r2 s st K) (fun z => s.zones.length - z) (fun z => z ≤ s.zones.length) 0 (Nat.zero_le _) ?_ (f6c h hK fun tm' hcut' => ?_)
  · refine Weak.cutTm ?_
    unfold rb
    exact TmCut.cons rfl (TmCut.cons rfl (TmCut.cons h6 (TmCut.cons h5 (TmCut.cons h3 (TmCut.cons h2 TmCut.nil)))))
  have h2' : tm' 2 = some (tC (.ptr 0 0 0 0)) := hcut' 2 _ rfl
  have h3' : tm' 3 = some (tC (.ptr 1 0 0 0)) := hcut' 3 _ rfl
  have h5' : tm' 5 = some (tB true) := hcut' 5 _ rfl
  have h6' : tm' 6 = some (tC (.ptr 2 0 0 0)) := hcut' 6 _ rfl
  have h8' : tm' 8 = some (tI (keepsF s st)) := hcut' 8 _ rfl
  have e1 : (fstC v s.shelves.length).take 6 = fstC v s.shelves.length := rfl
  have e2 : (encSite s).take 9 = encSite s := rfl
  have e5 : (encState st).take 6 = encState st := rfl
  have e3 : (fstC v s.shelves.length).length = 6 := rfl
  have e4 : (encSite s).length = 9 := rfl
  have e6 : (encState st).length = 6 := rfl
  have hfc := first_cast (s := s) hns hK.rows
  have hsc : liftV (CastC K) (.agg (encSite s)) (.agg (encSite s)) := castV_refl2 rfl
  have hr1 : roomF s st (-1) = 0 := by rw [roomF, if_neg (by omega)]
  have hr2 : roomF s st s.zones.length = 0 := by rw [roomF, if_neg (by omega)]
  simp only [go_sem, s6_12, h2', h6', hK.site, hK.first, e1, e2, e3, e4, ↓reduceIte, reduceCtorEq, Nat.reduceEqDiff, Nat.reduceAdd, Nat.reduceSub, Nat.reduceMul, Nat.reduceLT, Nat.reduceLeDiff, Int.reduceToNat]
  refine Pure.castS (f10 (s := s) (st := fstD s) h.ok.floor (by omega) (by simp [fstD]) (by rw [fst_len]; omega)) ⟨hsc, hfc, trivial⟩ rfl ?_
  rw [first_ok h.ok]
  simp only [go_sem, s6_11, s6_10, s6_9, h2', h3', h5', hK.site, hK.state, e2, e4, e5, e6, ↓reduceIte, reduceCtorEq, Nat.reduceEqDiff, Nat.reduceAdd, Nat.reduceSub, Nat.reduceMul, Nat.reduceLT, Nat.reduceLeDiff, Int.reduceToNat]
  refine Pure.callS (f26 (s := s) (st := st) hzk hso) rfl ?_
  simp only [go_sem, s6_8, s6_7, h2', h6', h8', hK.site, hK.first, e1, e2, e3, e4, eq_self, decide_true, ↓reduceIte, reduceCtorEq, Nat.reduceEqDiff, Nat.reduceAdd, Nat.reduceSub, Nat.reduceMul, Nat.reduceLT, Nat.reduceLeDiff, Int.reduceToNat]
  refine Pure.castS (f26 (s := s) (st := fstD s) hzk hsf) ⟨hsc, hfc, trivial⟩ rfl ?_
  rw [keeps_first h.few h.ok]
  simp only [go_sem, s6_6, s6_5, s6_4, h2', h3', hK.site, hK.state, e2, e4, e5, e6, eq_self, decide_true, ↓reduceIte, reduceCtorEq, Nat.reduceEqDiff, Nat.reduceAdd, Nat.reduceSub, Nat.reduceMul, Nat.reduceLT, Nat.reduceLeDiff, Int.reduceToNat]
  refine Pure.callS (f19 (s := s) (st := st) hzk hso (-1)) rfl ?_
  rw [hr1]
  simp only [go_sem, s6_3, s6_2, h2', h3', hK.site, hK.state, e2, e4, e5, e6, eq_self, decide_true, encSite, rows_len, ↓reduceIte, reduceCtorEq, Nat.reduceEqDiff, Nat.reduceAdd, Nat.reduceSub, Nat.reduceMul, Nat.reduceLT, Nat.reduceLeDiff, Int.reduceToNat]
  refine Pure.callS (f19 (s := s) (st := st) hzk hso s.zones.length) rfl ?_
  rw [hr2]
  simp only [go_sem, s6_1, eq_self, decide_true, ↓reduceIte, reduceCtorEq, Nat.reduceEqDiff, Nat.reduceAdd, Nat.reduceSub, Nat.reduceMul, Nat.reduceLT, Nat.reduceLeDiff, Int.reduceToNat]
  rfl

end Go.Proofs.Ytcocbifjjafknaa.AL

/- THE LAW RulesRoom HOLDS: whatever site and state it is called with, it returns true, and what was there before the call is as it was. No condition. -/
namespace Go.Proofs.Ytcocbifjjafknaa.rulesRoom
open Go.ChangeShapes Go.WideShapes Go.ChangeAt Go.RowKit Go.Proofs.Ytcocbifjjafknaa.AL
set_option linter.unusedVariables false

theorem own : ownKnob Try.prog.godebug = none := by kernel_rfl
theorem laidOut : laidOutB Try.prog = true := by kernel_rfl

set_option maxRecDepth 100000 in
theorem lifted (os : Os) (started : os.Started) (H : Type) (enc : TypeId × Value → H) :
    ReturnsInHanded {} Try.checked os 6 .any (Rows.rulesRoomSpec.pre6 enc Try.prog Try.f6 Rows.rulesRoomRow.domain false) (Rows.rulesRoomSpec.post enc Try.prog Try.f6 false true false false) := by
  refine returnsInHanded_of_change_sized (C := Try.checked) own started (by kernel_rfl) Try.func6
    (ChangeSpec.witness6 (enc := enc) (C := Try.checked) false ⟨#[], #[.agg #[.int .i64 0, .int .i64 0, .int .i64 0, nilS, nilS, nilS, nilS, nilS, nilS], .agg #[.int .i64 0, nilS, nilS, nilS, nilS, nilS]], []⟩ 8 (by kernel_rfl) (by kernel_rfl) (by kernel_rfl) (by kernel_rfl)) ?_
  intro W base args ds gs before hval0 hW hcnd hsz0 _
  have hval : ∀ (j : Nat) t v, Try.f6.params[j]? = some t → args[j]? = some v → Value.okWide Try.prog W .any base t v := hval0
  have hsz : (DataW.weightsEach Try.prog (Try.f6.params.toList ++ Rows.rulesRoomSpec.plain.varTypes Try.prog) (ds ++ gs)).all (· ≤ reachBytes) = true := hsz0
  have hW' := hW
  obtain ⟨p, q, hA0, hV, rfl, hfz, hnd⟩ := hW
  have hA : DataW.TrodAll enc Try.prog W 0 (fun _ => true) true Try.f6.params.toList args.toList ds p := hA0
  rw [Try.params6] at hA hval hsz
  obtain ⟨v0, vs0, d0, ds0, p0, q0, hargs, rfl, rfl, h0, r0⟩ := trodAll_cons hA
  obtain ⟨v1, vs1, d1, ds1, p1, q1, rfl, rfl, rfl, h1, r1⟩ := trodAll_cons r0
  obtain ⟨rfl, rfl, rfl⟩ := trodAll_nil r1
  obtain rfl : args = #[v0, v1] := by cases args; simp_all
  obtain ⟨rfl, rfl⟩ := trodVars_none hV
  obtain ⟨x0, e0, w0⟩ := site_read (hval 0 30 v0 rfl rfl) h0 (each_weights hsz (j := 0) rfl rfl)
  have lt0 : ∀ x ∈ p0, x.block < W.heap.size := by obtain ⟨m, hm⟩ := h0; exact DataW.trod_lt m _ _ _ hm
  obtain ⟨x1, e1, w1⟩ := state_read (hval 1 34 v1 rfl rfl) h1 (each_weights hsz (j := 1) rfl rfl)
  have lt1 : ∀ x ∈ p1, x.block < W.heap.size := by obtain ⟨m, hm⟩ := h1; exact DataW.trod_lt m _ _ _ hm
  clear hA0 hval0 hsz0
  refine (row_of (f6) (argsRep_cons e0 (argsRep_cons e1 argsRep_nil))).mono fun e W' ⟨he, bel⟩ => ?_
  subst he
  exact ⟨_, rfl, _, _, _, [], _, [], hW', trodAll_mk1 (shut_bool Try.underlying4 _), (trodAll_cons_mk (Below.trod laidOut (by kernel_rfl) (of_decide_eq_true (by kernel_rfl)) h0 bel lt0) (trodAll_cons_mk (Below.trod laidOut (by kernel_rfl) (of_decide_eq_true (by kernel_rfl)) h1 bel lt1) trodAll_mk0)), rfl, bel.frame _, fun h => by cases h⟩

theorem over : Rows.rulesRoomRow.holds Try.pinned (OpenSpec.ofChange Rows.rulesRoomSpec) :=
  OpenClaim.holds_of_wide 6 Try.f6 rfl rfl rfl rfl rfl rfl rfl ⟨rfl, rfl, rfl, rfl, rfl⟩ rfl rfl rfl rfl rfl (by kernel_rfl) Try.func6 (by kernel_rfl)
    (of_decide_eq_true (by kernel_rfl)) (by unfold Func.isWrapper; first | (rw [if_pos (by decide +kernel)]; kernel_rfl) | (rw [if_neg (by decide +kernel)]; exact ⟨rfl, rfl⟩))
    (fun os started H enc _ => lifted os started H enc)
end Go.Proofs.Ytcocbifjjafknaa.rulesRoom

namespace Go.Proofs.Ytcocbifjjafknaa
theorem rulesRoom_holds : Rows.RulesRoomSaid := rulesRoom.over
end Go.Proofs.Ytcocbifjjafknaa
#print axioms Go.Proofs.Ytcocbifjjafknaa.rulesRoom_holds
