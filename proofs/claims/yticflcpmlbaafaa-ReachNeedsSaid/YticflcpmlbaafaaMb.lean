/- What the functions hand back, second part: ways and prices. -/
import Derived.Test.YticflcpmlbaafaaMa
import Derived.Test.YticflcpmlbaafaaAc

/- Right sites. -/
set_option linter.unusedSimpArgs false
set_option linter.unusedVariables false
namespace Go.Proofs.Yticflcpmlbaafaa.AL
open Go
variable {s : SiteD}

structure ZP (s : SiteD) (j : Nat) : Prop where
  name1 : 1 ≤ (s.zones.getD j default).name.size
  name2 : (s.zones.getD j default).name.size ≤ 20
  speed1 : 1 ≤ (s.zones.getD j default).speed
  speed2 : (s.zones.getD j default).speed ≤ 100
  keep : 0 ≤ (s.zones.getD j default).keep
  shut : ShutOk (s.zones.getD j default).shut
  pos : 0 < (s.zones.getD j default).cells.length
  asc : Asc (s.zones.getD j default).cells
  isC : ∀ q, q < (s.zones.getD j default).cells.length → isM s.floor ((s.zones.getD j default).cells.getD q 0) = true
  kind : ∀ q, q < (s.zones.getD j default).cells.length → zonedK (kindM s.floor ((s.zones.getD j default).cells.getD q 0)) = true
  disj : ∀ q, q < (s.zones.getD j default).cells.length → ∀ j', j' < j → (s.zones.getD j default).cells.getD q 0 ∉ (s.zones.getD j' default).cells

structure SP (s : SiteD) (j : Nat) : Prop where
  isC : isM s.floor (s.shelves.getD j default).cell = true
  kind : standsK (kindM s.floor (s.shelves.getD j default).cell) = true
  disj : ∀ j', j' < j → (s.shelves.getD j' default).cell ≠ (s.shelves.getD j default).cell

structure RP (s : SiteD) (j : Nat) : Prop where
  isC : isM s.floor (s.robots.getD j default).cell = true
  kind : kindM s.floor (s.robots.getD j default).cell ≠ 0
  c1 : 0 ≤ (s.robots.getD j default).charge
  c2 : (s.robots.getD j default).charge ≤ 1000000
  disj : ∀ j', j' < j → (s.robots.getD j' default).cell ≠ (s.robots.getD j default).cell

def atS (s : SiteD) (c : Int) : Option Nat := (List.range s.shelves.length).find? fun i => decide ((s.shelves.getD i default).cell = c)
def freeS (s : SiteD) (c : Int) : Bool := (atS s c).isNone && standsK (kindM s.floor c)
def freeC (s : SiteD) (l : List Int) : Nat := (List.range l.length).countP fun i => freeS s (l.getD i 0)

structure SiteOk (s : SiteD) : Prop where
  floor : FloorOk s.floor
  zones : ∀ j, j < s.zones.length → ZP s j
  shelves : ∀ j, j < s.shelves.length → SP s j
  robots : ∀ j, j < s.robots.length → RP s j
  near : ∀ i, i < s.shelves.length → ∀ c, c ∈ sideL s.floor (s.shelves.getD i default).cell → ∀ k, atS s c = some k → k < i → apartL s.aparts (s.shelves.getD i default).cls (s.shelves.getD k default).cls = false
  keeps : ∀ j, j < s.zones.length → (s.zones.getD j default).keep ≤ freeC s (s.zones.getD j default).cells
  charger : (3 : Int) ∈ s.floor.kind

structure RI (s : SiteD) (K : KMap) (N : Nat) (m : MK) : Prop where
  hM : HasM 1 K m
  mi : MI m
  k0 : K 0 = some (.row 0 9 [encSite s])
  n : 11 ≤ N
  f : m.f = s.floor

abbrev RX := Nat × KMap × Nat × MK

structure ZI (s : SiteD) (x : RX) : Prop where
  le : x.1 ≤ s.zones.length
  ri : RI s x.2.1 x.2.2.1 x.2.2.2
  zs : x.2.2.2.zs = s.zones.take x.1
  ap : x.2.2.2.ap = []
  sh : x.2.2.2.sh = []
  rb : x.2.2.2.rb = []
  zp : ∀ j, j < x.1 → ZP s j

def rz (s : SiteD) (x : RX) : St := ⟨upd (upd (upd (upd (upd emp 1 (tC (.ptr 0 0 0 0))) 3 (tC (.ptr 1 0 0 0))) 20 (tC (.r (.rd 5 (s.zones.map encZone))))) 21 (tI s.zones.length)) 22 (tI x.1), x.2.1, x.2.2.1⟩

theorem take_snoc {α : Type} [Inhabited α] {l : List α} {i : Nat} (h : i < l.length) : l.take (i + 1) = l.take i ++ [l.getD i default] := by
  rw [List.take_add_one]
  have : l[i]? = some (l.getD i default) := by simp [h]
  rw [this]; rfl

theorem take_mem {α : Type} [Inhabited α] {l : List α} {i j : Nat} (h : j < i) (hi : i ≤ l.length) : l.getD j default ∈ l.take i := by
  rw [List.mem_take_iff_getElem]
  exact ⟨j, by omega, by simp [show j < l.length by omega]⟩

def RQ (s : SiteD) (d : T) : Prop := ∃ b, d = tB b ∧ (b = true → SiteOk s)

theorem f17a (hfew : FewOk s 1000 1000) {Q : XE → St → Prop} (hQ : ∀ x, ZI s x → x.1 = s.zones.length → Q (.exit 0) ⟨upd (rz s x).tm 23 (tB (decide ((s.zones.length : Int) < s.zones.length))), x.2.1, x.2.2.1⟩) (hno : ∀ {tm : Nat → Option T} {K : KMap} {N : Nat}, tm 2 = some (tB false) → Q .ret ⟨tm, K, N⟩) :
    ∀ x, ZI s x → awp Try.prog 0 s17_42 (rz s x) (roundQ 0 (rz s) (fun x => s.zones.length - x.1) (ZI s) x Q) := by
  rintro ⟨i, K, N, m⟩ ⟨hi, ⟨hM, hmi, hk0, hN, hf⟩, hzs, hap, hsh, hrb, hzp⟩
  simp only at hi hM hmi hk0 hN hf hzs hap hsh hrb hzp
  simp only [go_sem, s17_42, rz, ↓reduceIte, reduceCtorEq, Nat.reduceEqDiff, Nat.reduceAdd, Nat.reduceSub, Nat.reduceMul, Nat.reduceLT, Nat.reduceLeDiff, Int.reduceToNat]
  refine twoQ_at (fun g => ?_) (fun g => ?_)
  · have hi' : i < s.zones.length := by simpa using g
    have hwr : IntKind.i64.wrap ((i : Int) + 1) = ((i + 1 : Nat) : Int) := wrap_i (by omega) (by have := hfew.nz; omega)
    obtain ⟨hc1, hc2⟩ := hfew.zc i hi'
    obtain ⟨z, hz⟩ : ∃ z, z = s.zones.getD i default := ⟨_, rfl⟩
    rw [← hz] at hc1 hc2
    simp only [go_sem, s17_41, rows_len, rows_at hi', ← hz, encZone, Int.toNat_natCast, ↓reduceIte, reduceCtorEq, Nat.reduceEqDiff, Nat.reduceAdd, Nat.reduceSub, Nat.reduceMul, Nat.reduceLT, Nat.reduceLeDiff, Int.reduceToNat]
    refine ⟨⟨by omega, by omega⟩, ?_⟩
    rw [upd_upd]
    refine Pure.call (f31 z.name) (liftA_refl rfl) ?_
    rintro _ ⟨bn, rfl, hbn⟩ _
    simp only [go_sem, s17_40, ↓reduceIte, reduceCtorEq, Nat.reduceEqDiff, Nat.reduceAdd, Nat.reduceSub, Nat.reduceMul, Nat.reduceLT, Nat.reduceLeDiff, Int.reduceToNat]
    refine guardQ_at (fun g1 => ?_) (fun g1 => ?_)
    · simp only [Bool.not_eq_false'] at g1
      simp only [go_sem, s17_39, ↓reduceIte, reduceCtorEq, Nat.reduceEqDiff, Nat.reduceAdd, Nat.reduceSub, Nat.reduceMul, Nat.reduceLT, Nat.reduceLeDiff, Int.reduceToNat]
      refine Pure.callS (f32 _ _ _) rfl ?_
      simp only [go_sem, s17_38, ↓reduceIte, reduceCtorEq, Nat.reduceEqDiff, Nat.reduceAdd, Nat.reduceSub, Nat.reduceMul, Nat.reduceLT, Nat.reduceLeDiff, Int.reduceToNat]
      refine guardQ_at (fun g2 => ?_) (fun g2 => ?_)
      · simp only [Bool.not_eq_false', Bool.and_eq_true, decide_eq_true_eq] at g2
        simp only [go_sem, s17_37, ↓reduceIte, reduceCtorEq, Nat.reduceEqDiff, Nat.reduceAdd, Nat.reduceSub, Nat.reduceMul, Nat.reduceLT, Nat.reduceLeDiff, Int.reduceToNat]
        refine guardQ_at (fun g3 => ?_) (fun g3 => ?_)
        · simp only [decide_eq_false_iff_not] at g3
          simp only [go_sem, s17_36, ↓reduceIte, reduceCtorEq, Nat.reduceEqDiff, Nat.reduceAdd, Nat.reduceSub, Nat.reduceMul, Nat.reduceLT, Nat.reduceLeDiff, Int.reduceToNat]
          refine Pure.call (f33 z.shut (by omega)) (liftA_refl rfl) ?_
          rintro _ ⟨bs, rfl, hbs⟩ _
          simp only [go_sem, s17_35, ↓reduceIte, reduceCtorEq, Nat.reduceEqDiff, Nat.reduceAdd, Nat.reduceSub, Nat.reduceMul, Nat.reduceLT, Nat.reduceLeDiff, Int.reduceToNat]
          refine guardQ_at (fun g4 => ?_) (fun g4 => ?_)
          · simp only [Bool.not_eq_false'] at g4
            simp only [go_sem, s17_34, ↓reduceIte, reduceCtorEq, Nat.reduceEqDiff, Nat.reduceAdd, Nat.reduceSub, Nat.reduceMul, Nat.reduceLT, Nat.reduceLeDiff, Int.reduceToNat]
            refine PureK.callM hmi (f34 hmi z.cells (by omega)) (hM.upd (by omega) _) (by omega) rfl (fun a ha => ?_) ?_
            · simp only [List.mem_cons, List.not_mem_nil, or_false] at ha
              rcases ha with rfl | rfl <;> rfl
            rintro _ ⟨bc, rfl, hbc⟩ _
            simp only [go_sem, s17_33, ↓reduceIte, reduceCtorEq, Nat.reduceEqDiff, Nat.reduceAdd, Nat.reduceSub, Nat.reduceMul, Nat.reduceLT, Nat.reduceLeDiff, Int.reduceToNat]
            refine guardQ_at (fun g5 => ?_) (fun g5 => ?_)
            · simp only [Bool.not_eq_false'] at g5
              simp only [go_sem, s17_32, ↓reduceIte, reduceCtorEq, Nat.reduceEqDiff, Nat.reduceAdd, Nat.reduceSub, Nat.reduceMul, Nat.reduceLT, Nat.reduceLeDiff, Int.reduceToNat]
              have hzl : m.zs.length ≤ 1000000 := by rw [hzs, List.length_take]; have := hfew.nz; omega
              refine Spec.callM hmi (f35 hmi z (by omega) hzl) (hM.upd (by omega) _) (by omega) rfl (fun a ha => ?_) ?_
              · simp only [List.mem_cons, List.not_mem_nil, or_false] at ha
                rcases ha with rfl | rfl <;> rfl
              rintro _ m' K' hmi' ⟨e, rfl, hA⟩ hM' hK'
              simp only [go_sem, s17_31, s17_30, ↓reduceIte, reduceCtorEq, Nat.reduceEqDiff, Nat.reduceAdd, Nat.reduceSub, Nat.reduceMul, Nat.reduceLT, Nat.reduceLeDiff, Int.reduceToNat]
              refine twoQ_at (fun g6 => ?_) (fun g6 => ?_)
              · simp only [go_sem, s17_29, ↓reduceIte, reduceCtorEq, Nat.reduceEqDiff, Nat.reduceAdd, Nat.reduceSub, Nat.reduceMul, Nat.reduceLT, Nat.reduceLeDiff, Int.reduceToNat]
                exact hno rfl
              · simp only [ne_eq, decide_eq_false_iff_not, Decidable.not_not] at g6
                obtain ⟨⟨a1, a2⟩, es, en, rfl⟩ := hA g6
                obtain ⟨c1, c2, c3⟩ := hbc g5
                simp only [go_sem, s17_28, ↓reduceIte, reduceCtorEq, Nat.reduceEqDiff, Nat.reduceAdd, Nat.reduceSub, Nat.reduceMul, Nat.reduceLT, Nat.reduceLeDiff, Int.reduceToNat]
                refine ⟨(i + 1, K', N + 1, _), ⟨by simp only; omega, ⟨hM', hmi', ?_, by simp only; omega, hf⟩, ?_, hap, hsh, hrb, fun j hj => ?_⟩, by simp only; omega, ?_⟩
                · simp only
                  rw [hK' 0 (.inl (by omega)) (by omega), upd_ne _ _ (by omega)]
                  exact hk0
                · simp only [hzs, take_snoc hi', ← hz]
                · by_cases ej : j = i
                  · subst ej
                    rw [hf] at a1 c3
                    refine ⟨?_, ?_, ?_, ?_, ?_, ?_, ?_, ?_, ?_, ?_, ?_⟩ <;> rw [← hz]
                    · exact (hbn g1).1
                    · exact (hbn g1).2
                    · exact g2.1
                    · exact g2.2
                    · omega
                    · exact hbs g4
                    · exact c1
                    · exact c2
                    · exact c3
                    · exact a1
                    · intro q hq j' hj' hmem
                      have := a2 q hq
                      rw [List.any_eq_false] at this
                      exact this _ (by rw [hzs]; exact take_mem hj' hi) (by simpa using hmem)
                  · exact hzp j (by simp only at hj; omega)
                · rw [hwr]
                  refine Weak.cutTm ?_
                  repeat (first | refine TmCut.cons rfl ?_ | exact TmCut.nil)
            · simp only [go_sem, s17_32, s17_31, s17_30, s17_29, ↓reduceIte, reduceCtorEq, Nat.reduceEqDiff, Nat.reduceAdd, Nat.reduceSub, Nat.reduceMul, Nat.reduceLT, Nat.reduceLeDiff, Int.reduceToNat]
              exact hno rfl
          · simp only [go_sem, s17_34, s17_33, s17_32, s17_31, s17_30, s17_29, ↓reduceIte, reduceCtorEq, Nat.reduceEqDiff, Nat.reduceAdd, Nat.reduceSub, Nat.reduceMul, Nat.reduceLT, Nat.reduceLeDiff, Int.reduceToNat]
            exact hno rfl
        · simp only [go_sem, s17_36, s17_35, s17_34, s17_33, s17_32, s17_31, s17_30, s17_29, ↓reduceIte, reduceCtorEq, Nat.reduceEqDiff, Nat.reduceAdd, Nat.reduceSub, Nat.reduceMul, Nat.reduceLT, Nat.reduceLeDiff, Int.reduceToNat]
          exact hno rfl
      · simp only [go_sem, s17_37, s17_36, s17_35, s17_34, s17_33, s17_32, s17_31, s17_30, s17_29, ↓reduceIte, reduceCtorEq, Nat.reduceEqDiff, Nat.reduceAdd, Nat.reduceSub, Nat.reduceMul, Nat.reduceLT, Nat.reduceLeDiff, Int.reduceToNat]
        exact hno rfl
    · simp only [go_sem, s17_39, s17_38, s17_37, s17_36, s17_35, s17_34, s17_33, s17_32, s17_31, s17_30, s17_29, ↓reduceIte, reduceCtorEq, Nat.reduceEqDiff, Nat.reduceAdd, Nat.reduceSub, Nat.reduceMul, Nat.reduceLT, Nat.reduceLeDiff, Int.reduceToNat]
      exact hno rfl
  · have hi' : i = s.zones.length := by simp at g; omega
    subst hi'
    exact hQ (s.zones.length, K, N, m) ⟨hi, ⟨hM, hmi, hk0, hN, hf⟩, hzs, hap, hsh, hrb, hzp⟩ rfl
end Go.Proofs.Yticflcpmlbaafaa.AL

/- Right sites: rules, shelves, robots. -/
set_option linter.unusedSimpArgs false
set_option linter.unusedVariables false
namespace Go.Proofs.Yticflcpmlbaafaa.AL
open Go
variable {s : SiteD}

structure AI (s : SiteD) (x : RX) : Prop where
  le : x.1 ≤ s.aparts.length
  ri : RI s x.2.1 x.2.2.1 x.2.2.2
  zs : x.2.2.2.zs = s.zones
  ap : x.2.2.2.ap = s.aparts.take x.1
  sh : x.2.2.2.sh = []
  rb : x.2.2.2.rb = []
def ra (s : SiteD) (x : RX) : St := ⟨upd (upd (upd (upd (upd emp 1 (tC (.ptr 0 0 0 0))) 3 (tC (.ptr 1 0 0 0))) 62 (tC (.r (.rd 2 (s.aparts.map encApart))))) 63 (tI s.aparts.length)) 64 (tI x.1), x.2.1, x.2.2.1⟩

theorem f17b (hfew : FewOk s 1000 1000) {Q : XE → St → Prop} (hQ : ∀ x, AI s x → x.1 = s.aparts.length → Q (.exit 2) ⟨upd (ra s x).tm 65 (tB (decide ((s.aparts.length : Int) < s.aparts.length))), x.2.1, x.2.2.1⟩) (hno : ∀ {tm : Nat → Option T} {K : KMap} {N : Nat}, tm 2 = some (tB false) → Q .ret ⟨tm, K, N⟩) :
    ∀ x, AI s x → awp Try.prog 0 s17_26 (ra s x) (roundQ 0 (ra s) (fun x => s.aparts.length - x.1) (AI s) x Q) := by
  rintro ⟨i, K, N, m⟩ ⟨hi, ⟨hM, hmi, hk0, hN, hf⟩, hzs, hap, hsh, hrb⟩
  simp only at hi hM hmi hk0 hN hf hzs hap hsh hrb
  simp only [go_sem, s17_26, ra, ↓reduceIte, reduceCtorEq, Nat.reduceEqDiff, Nat.reduceAdd, Nat.reduceSub, Nat.reduceMul, Nat.reduceLT, Nat.reduceLeDiff, Int.reduceToNat]
  refine twoQ_at (fun g => ?_) (fun g => ?_)
  · have hi' : i < s.aparts.length := by simpa using g
    have hna := hfew.na
    have hwr : IntKind.i64.wrap ((i : Int) + 1) = ((i + 1 : Nat) : Int) := wrap_i (by omega) (by omega)
    obtain ⟨z, hz⟩ : ∃ z, z = s.aparts.getD i default := ⟨_, rfl⟩
    simp only [go_sem, s17_25, rows_len, rows_at hi', ← hz, encApart, Int.toNat_natCast, ↓reduceIte, reduceCtorEq, Nat.reduceEqDiff, Nat.reduceAdd, Nat.reduceSub, Nat.reduceMul, Nat.reduceLT, Nat.reduceLeDiff, Int.reduceToNat]
    refine ⟨⟨by omega, by omega⟩, ?_⟩
    rw [upd_upd]
    refine Spec.callM hmi (f36 hmi z (by rw [hap, List.length_take]; omega)) (hM.upd (by omega) _) (by omega) rfl (fun a ha => ?_) ?_
    · simp only [List.mem_cons, List.not_mem_nil, or_false] at ha
      rcases ha with rfl | rfl <;> rfl
    rintro _ m' K' hmi' ⟨e, rfl, hA⟩ hM' hK'
    simp only [go_sem, s17_24, s17_23, ↓reduceIte, reduceCtorEq, Nat.reduceEqDiff, Nat.reduceAdd, Nat.reduceSub, Nat.reduceMul, Nat.reduceLT, Nat.reduceLeDiff, Int.reduceToNat]
    refine twoQ_at (fun g6 => ?_) (fun g6 => ?_)
    · simp only [go_sem, s17_22, ↓reduceIte, reduceCtorEq, Nat.reduceEqDiff, Nat.reduceAdd, Nat.reduceSub, Nat.reduceMul, Nat.reduceLT, Nat.reduceLeDiff, Int.reduceToNat]
      exact hno rfl
    · simp only [ne_eq, decide_eq_false_iff_not, Decidable.not_not] at g6
      obtain ⟨a1, rfl⟩ := hA g6
      simp only [go_sem, s17_21, ↓reduceIte, reduceCtorEq, Nat.reduceEqDiff, Nat.reduceAdd, Nat.reduceSub, Nat.reduceMul, Nat.reduceLT, Nat.reduceLeDiff, Int.reduceToNat]
      refine ⟨(i + 1, K', N + 1, _), ⟨by simp only; omega, ⟨hM', hmi', ?_, by simp only; omega, hf⟩, hzs, ?_, hsh, hrb⟩, by simp only; omega, ?_⟩
      · simp only
        rw [hK' 0 (.inl (by omega)) (by omega), upd_ne _ _ (by omega)]
        exact hk0
      · simp only [hap, take_snoc hi', ← hz]
      · rw [hwr]
        refine Weak.cutTm ?_
        repeat (first | refine TmCut.cons rfl ?_ | exact TmCut.nil)
  · have hi' : i = s.aparts.length := by simp at g; omega
    subst hi'
    exact hQ (s.aparts.length, K, N, m) ⟨hi, ⟨hM, hmi, hk0, hN, hf⟩, hzs, hap, hsh, hrb⟩ rfl

structure SI (s : SiteD) (x : RX) : Prop where
  le : x.1 ≤ s.shelves.length
  ri : RI s x.2.1 x.2.2.1 x.2.2.2
  zs : x.2.2.2.zs = s.zones
  ap : x.2.2.2.ap = s.aparts
  sh : x.2.2.2.sh = s.shelves.take x.1
  rb : x.2.2.2.rb = []
  sp : ∀ j, j < x.1 → SP s j
def rs (s : SiteD) (x : RX) : St := ⟨upd (upd (upd (upd (upd emp 1 (tC (.ptr 0 0 0 0))) 3 (tC (.ptr 1 0 0 0))) 74 (tC (.r (.rd 2 (s.shelves.map encShelf))))) 75 (tI s.shelves.length)) 76 (tI x.1), x.2.1, x.2.2.1⟩

theorem take_getD {α : Type} [Inhabited α] {l : List α} {i j : Nat} (h : j < i) : (l.take i).getD j default = l.getD j default := by
  simp only [List.getD_eq_getElem?_getD, List.getElem?_take, if_pos h]

theorem f17c (hfew : FewOk s 1000 1000) {Q : XE → St → Prop} (hQ : ∀ x, SI s x → x.1 = s.shelves.length → Q (.exit 4) ⟨upd (rs s x).tm 77 (tB (decide ((s.shelves.length : Int) < s.shelves.length))), x.2.1, x.2.2.1⟩) (hno : ∀ {tm : Nat → Option T} {K : KMap} {N : Nat}, tm 2 = some (tB false) → Q .ret ⟨tm, K, N⟩) :
    ∀ x, SI s x → awp Try.prog 0 s17_19 (rs s x) (roundQ 0 (rs s) (fun x => s.shelves.length - x.1) (SI s) x Q) := by
  rintro ⟨i, K, N, m⟩ ⟨hi, ⟨hM, hmi, hk0, hN, hf⟩, hzs, hap, hsh, hrb, hsp⟩
  simp only at hi hM hmi hk0 hN hf hzs hap hsh hrb hsp
  simp only [go_sem, s17_19, rs, ↓reduceIte, reduceCtorEq, Nat.reduceEqDiff, Nat.reduceAdd, Nat.reduceSub, Nat.reduceMul, Nat.reduceLT, Nat.reduceLeDiff, Int.reduceToNat]
  refine twoQ_at (fun g => ?_) (fun g => ?_)
  · have hi' : i < s.shelves.length := by simpa using g
    have hna := hfew.ns
    have hwr : IntKind.i64.wrap ((i : Int) + 1) = ((i + 1 : Nat) : Int) := wrap_i (by omega) (by omega)
    obtain ⟨z, hz⟩ : ∃ z, z = s.shelves.getD i default := ⟨_, rfl⟩
    simp only [go_sem, s17_18, rows_len, rows_at hi', ← hz, encShelf, Int.toNat_natCast, ↓reduceIte, reduceCtorEq, Nat.reduceEqDiff, Nat.reduceAdd, Nat.reduceSub, Nat.reduceMul, Nat.reduceLT, Nat.reduceLeDiff, Int.reduceToNat]
    refine ⟨⟨by omega, by omega⟩, ?_⟩
    rw [upd_upd]
    refine Spec.callM hmi (f37 hmi z (by rw [hsh, List.length_take]; omega)) (hM.upd (by omega) _) (by omega) rfl (fun a ha => ?_) ?_
    · simp only [List.mem_cons, List.not_mem_nil, or_false] at ha
      rcases ha with rfl | rfl <;> rfl
    rintro _ m' K' hmi' ⟨e, rfl, hA⟩ hM' hK'
    simp only [go_sem, s17_17, s17_16, ↓reduceIte, reduceCtorEq, Nat.reduceEqDiff, Nat.reduceAdd, Nat.reduceSub, Nat.reduceMul, Nat.reduceLT, Nat.reduceLeDiff, Int.reduceToNat]
    refine twoQ_at (fun g6 => ?_) (fun g6 => ?_)
    · simp only [go_sem, s17_15, ↓reduceIte, reduceCtorEq, Nat.reduceEqDiff, Nat.reduceAdd, Nat.reduceSub, Nat.reduceMul, Nat.reduceLT, Nat.reduceLeDiff, Int.reduceToNat]
      exact hno rfl
    · simp only [ne_eq, decide_eq_false_iff_not, Decidable.not_not] at g6
      obtain ⟨a1, a2, a3, es, rfl⟩ := hA g6
      simp only [go_sem, s17_14, ↓reduceIte, reduceCtorEq, Nat.reduceEqDiff, Nat.reduceAdd, Nat.reduceSub, Nat.reduceMul, Nat.reduceLT, Nat.reduceLeDiff, Int.reduceToNat]
      refine ⟨(i + 1, K', N + 1, _), ⟨by simp only; omega, ⟨hM', hmi', ?_, by simp only; omega, hf⟩, hzs, hap, ?_, hrb, fun j hj => ?_⟩, by simp only; omega, ?_⟩
      · simp only
        rw [hK' 0 (.inl (by omega)) (by omega), upd_ne _ _ (by omega)]
        exact hk0
      · simp only [hsh, take_snoc hi', ← hz]
      · by_cases ej : j = i
        · subst ej
          rw [hf] at a1 a2
          refine ⟨by rw [← hz]; exact a1, by rw [← hz]; exact a2, fun j' hj' => ?_⟩
          have := a3 j' (by rw [hsh, List.length_take]; omega)
          rw [hsh, take_getD hj'] at this
          rw [← hz]
          exact this
        · exact hsp j (by simp only at hj; omega)
      · rw [hwr]
        refine Weak.cutTm ?_
        repeat (first | refine TmCut.cons rfl ?_ | exact TmCut.nil)
  · have hi' : i = s.shelves.length := by simp at g; omega
    subst hi'
    exact hQ (s.shelves.length, K, N, m) ⟨hi, ⟨hM, hmi, hk0, hN, hf⟩, hzs, hap, hsh, hrb, hsp⟩ rfl

structure BI (s : SiteD) (x : RX) : Prop where
  le : x.1 ≤ s.robots.length
  ri : RI s x.2.1 x.2.2.1 x.2.2.2
  zs : x.2.2.2.zs = s.zones
  ap : x.2.2.2.ap = s.aparts
  sh : x.2.2.2.sh = s.shelves
  rb : x.2.2.2.rb = s.robots.take x.1
  rp : ∀ j, j < x.1 → RP s j
def rr (s : SiteD) (x : RX) : St := ⟨upd (upd (upd (upd (upd emp 1 (tC (.ptr 0 0 0 0))) 3 (tC (.ptr 1 0 0 0))) 86 (tC (.r (.rd 2 (s.robots.map encStart))))) 87 (tI s.robots.length)) 88 (tI x.1), x.2.1, x.2.2.1⟩

theorem f17d (hfew : FewOk s 1000 1000) {Q : XE → St → Prop} (hQ : ∀ x, BI s x → x.1 = s.robots.length → Q (.exit 6) ⟨upd (rr s x).tm 89 (tB (decide ((s.robots.length : Int) < s.robots.length))), x.2.1, x.2.2.1⟩) (hno : ∀ {tm : Nat → Option T} {K : KMap} {N : Nat}, tm 2 = some (tB false) → Q .ret ⟨tm, K, N⟩) :
    ∀ x, BI s x → awp Try.prog 0 s17_12 (rr s x) (roundQ 0 (rr s) (fun x => s.robots.length - x.1) (BI s) x Q) := by
  rintro ⟨i, K, N, m⟩ ⟨hi, ⟨hM, hmi, hk0, hN, hf⟩, hzs, hap, hsh, hrb, hrp⟩
  simp only at hi hM hmi hk0 hN hf hzs hap hsh hrb hrp
  simp only [go_sem, s17_12, rr, ↓reduceIte, reduceCtorEq, Nat.reduceEqDiff, Nat.reduceAdd, Nat.reduceSub, Nat.reduceMul, Nat.reduceLT, Nat.reduceLeDiff, Int.reduceToNat]
  refine twoQ_at (fun g => ?_) (fun g => ?_)
  · have hi' : i < s.robots.length := by simpa using g
    have hna := hfew.nr
    have hwr : IntKind.i64.wrap ((i : Int) + 1) = ((i + 1 : Nat) : Int) := wrap_i (by omega) (by omega)
    obtain ⟨z, hz⟩ : ∃ z, z = s.robots.getD i default := ⟨_, rfl⟩
    simp only [go_sem, s17_11, rows_len, rows_at hi', ← hz, encStart, Int.toNat_natCast, ↓reduceIte, reduceCtorEq, Nat.reduceEqDiff, Nat.reduceAdd, Nat.reduceSub, Nat.reduceMul, Nat.reduceLT, Nat.reduceLeDiff, Int.reduceToNat]
    refine ⟨⟨by omega, by omega⟩, ?_⟩
    rw [upd_upd]
    refine Spec.callM hmi (f38 hmi z (by rw [hrb, List.length_take]; omega)) (hM.upd (by omega) _) (by omega) rfl (fun a ha => ?_) ?_
    · simp only [List.mem_cons, List.not_mem_nil, or_false] at ha
      rcases ha with rfl | rfl <;> rfl
    rintro _ m' K' hmi' ⟨e, rfl, hA⟩ hM' hK'
    simp only [go_sem, s17_10, s17_9, ↓reduceIte, reduceCtorEq, Nat.reduceEqDiff, Nat.reduceAdd, Nat.reduceSub, Nat.reduceMul, Nat.reduceLT, Nat.reduceLeDiff, Int.reduceToNat]
    refine twoQ_at (fun g6 => ?_) (fun g6 => ?_)
    · simp only [go_sem, s17_8, ↓reduceIte, reduceCtorEq, Nat.reduceEqDiff, Nat.reduceAdd, Nat.reduceSub, Nat.reduceMul, Nat.reduceLT, Nat.reduceLeDiff, Int.reduceToNat]
      exact hno rfl
    · simp only [ne_eq, decide_eq_false_iff_not, Decidable.not_not] at g6
      obtain ⟨a1, a2, a3, a4, a5, es, rfl⟩ := hA g6
      simp only [go_sem, s17_7, ↓reduceIte, reduceCtorEq, Nat.reduceEqDiff, Nat.reduceAdd, Nat.reduceSub, Nat.reduceMul, Nat.reduceLT, Nat.reduceLeDiff, Int.reduceToNat]
      refine ⟨(i + 1, K', N + 1, _), ⟨by simp only; omega, ⟨hM', hmi', ?_, by simp only; omega, hf⟩, hzs, hap, hsh, ?_, fun j hj => ?_⟩, by simp only; omega, ?_⟩
      · simp only
        rw [hK' 0 (.inl (by omega)) (by omega), upd_ne _ _ (by omega)]
        exact hk0
      · simp only [hrb, take_snoc hi', ← hz]
      · by_cases ej : j = i
        · subst ej
          rw [hf] at a1 a4
          refine ⟨by rw [← hz]; exact a1, by rw [← hz]; exact a4, by rw [← hz]; exact a2, by rw [← hz]; exact a3, fun j' hj' he => ?_⟩
          rw [List.any_eq_false] at a5
          refine a5 _ (by rw [hrb]; exact take_mem hj' hi) ?_
          rw [← hz] at he
          simp only [decide_eq_true_eq]
          exact he
        · exact hrp j (by simp only at hj; omega)
      · rw [hwr]
        refine Weak.cutTm ?_
        repeat (first | refine TmCut.cons rfl ?_ | exact TmCut.nil)
  · have hi' : i = s.robots.length := by simp at g; omega
    subst hi'
    exact hQ (s.robots.length, K, N, m) ⟨hi, ⟨hM, hmi, hk0, hN, hf⟩, hzs, hap, hsh, hrb, hrp⟩ rfl

theorem f17 (hfew : FewOk s 1000 1000) : Pure Try.prog 17 [.v (.agg (encSite s))] (RQ s) := by
  refine Pure.of_awp hm Try.func17 s17_ok (by simp [s17]) ?_
  have no : ∀ {tm : Nat → Option T} {K : KMap} {N : Nat}, tm 2 = some (tB false) → retP [SRes.tmp 2] (RQ s) .ret ⟨tm, K, N⟩ := by
    intro tm K N h
    simp only [go_sem, h, ↓reduceIte, reduceCtorEq, Nat.reduceEqDiff, Nat.reduceAdd, Nat.reduceSub, Nat.reduceMul, Nat.reduceLT, Nat.reduceLeDiff, Int.reduceToNat]
    exact ⟨rfl, false, rfl, fun h => by cases h⟩
  simp only [go_sem, s17, encSite, ↓reduceIte, reduceCtorEq, Nat.reduceEqDiff, Nat.reduceAdd, Nat.reduceSub, Nat.reduceMul, Nat.reduceLT, Nat.reduceLeDiff, Int.reduceToNat]
  refine Pure.call (f29 s.floor) (liftA_refl rfl) ?_
  rintro _ ⟨bf, rfl, hbf⟩ _
  simp only [go_sem, s17_48, s17_47, ↓reduceIte, reduceCtorEq, Nat.reduceEqDiff, Nat.reduceAdd, Nat.reduceSub, Nat.reduceMul, Nat.reduceLT, Nat.reduceLeDiff, Int.reduceToNat]
  refine twoQ_at (fun g0 => ?_) (fun g0 => ?_)
  · simp only [go_sem, s17_46, ↓reduceIte, reduceCtorEq, Nat.reduceEqDiff, Nat.reduceAdd, Nat.reduceSub, Nat.reduceMul, Nat.reduceLT, Nat.reduceLeDiff, Int.reduceToNat]
    exact ⟨rfl, false, rfl, fun h => by cases h⟩
  simp only [Bool.not_eq_false'] at g0
  have hF := hbf g0
  simp only [go_sem, s17_45, ↓reduceIte, reduceCtorEq, Nat.reduceEqDiff, Nat.reduceAdd, Nat.reduceSub, Nat.reduceMul, Nat.reduceLT, Nat.reduceLeDiff, Int.reduceToNat]
  refine Spec.plain (f30 s.floor) (liftA_refl rfl) ?_
  rintro _ _ _ ⟨rfl, rfl, rfl⟩
  have h0 : ∀ (a : AObj), joinK 1 (upd emp 0 a) (mkK (m0 s.floor)) 0 = some a := fun a => rfl
  simp only [go_sem, s17_44, s17_43, T.ren, V.ren, C.ren, addN, h0, rows_len, ↓reduceIte, reduceCtorEq, Nat.reduceEqDiff, Nat.reduceAdd, Nat.reduceSub, Nat.reduceMul, Nat.reduceLT, Nat.reduceLeDiff, Int.reduceToNat]
  refine awp_loop (rz s) (fun x => s.zones.length - x.1) (ZI s) (0, joinK 1 (upd emp 0 (.row 0 9 [encSite s])) (mkK (m0 s.floor)), 11, m0 s.floor) ⟨Nat.zero_le _, ⟨HasM.join, MI.m0, rfl, Nat.le_refl _, rfl⟩, rfl, rfl, rfl, rfl, fun j hj => by simp at hj⟩ ?_ (f17a hfew ?_ (fun h => no h))
  · refine Weak.cutTm ?_
    repeat (first | refine TmCut.cons rfl ?_ | exact TmCut.nil)
  rintro ⟨i, K, N, m⟩ ⟨_, ⟨hM, hmi, hk0, hN, hf⟩, hzs, hap, hsh, hrb, hzp⟩ hie
  simp only at hM hmi hk0 hN hf hzs hap hsh hrb hzp hie
  subst hie
  simp only [go_sem, rz, s17_27, hk0, encSite, rows_len, ↓reduceIte, reduceCtorEq, Nat.reduceEqDiff, Nat.reduceAdd, Nat.reduceSub, Nat.reduceMul, Nat.reduceLT, Nat.reduceLeDiff, Int.reduceToNat]
  rw [List.take_length] at hzs
  refine awp_loop (ra s) (fun x => s.aparts.length - x.1) (AI s) (0, K, N, m) ⟨Nat.zero_le _, ⟨hM, hmi, hk0, hN, hf⟩, hzs, hap, hsh, hrb⟩ ?_ (f17b hfew ?_ (fun h => no h))
  · refine Weak.cutTm ?_
    repeat (first | refine TmCut.cons rfl ?_ | exact TmCut.nil)
  rintro ⟨i, K, N, m⟩ ⟨_, ⟨hM, hmi, hk0, hN, hf⟩, hzs, hap, hsh, hrb⟩ hie
  simp only at hM hmi hk0 hN hf hzs hap hsh hrb hie
  subst hie
  simp only [go_sem, ra, s17_20, hk0, encSite, rows_len, ↓reduceIte, reduceCtorEq, Nat.reduceEqDiff, Nat.reduceAdd, Nat.reduceSub, Nat.reduceMul, Nat.reduceLT, Nat.reduceLeDiff, Int.reduceToNat]
  rw [List.take_length] at hap
  refine awp_loop (rs s) (fun x => s.shelves.length - x.1) (SI s) (0, K, N, m) ⟨Nat.zero_le _, ⟨hM, hmi, hk0, hN, hf⟩, hzs, hap, hsh, hrb, fun j hj => by simp at hj⟩ ?_ (f17c hfew ?_ (fun h => no h))
  · refine Weak.cutTm ?_
    repeat (first | refine TmCut.cons rfl ?_ | exact TmCut.nil)
  rintro ⟨i, K, N, m⟩ ⟨_, ⟨hM, hmi, hk0, hN, hf⟩, hzs, hap, hsh, hrb, hsp⟩ hie
  simp only at hM hmi hk0 hN hf hzs hap hsh hrb hsp hie
  subst hie
  simp only [go_sem, rs, s17_13, hk0, encSite, rows_len, ↓reduceIte, reduceCtorEq, Nat.reduceEqDiff, Nat.reduceAdd, Nat.reduceSub, Nat.reduceMul, Nat.reduceLT, Nat.reduceLeDiff, Int.reduceToNat]
  rw [List.take_length] at hsh
  refine awp_loop (rr s) (fun x => s.robots.length - x.1) (BI s) (0, K, N, m) ⟨Nat.zero_le _, ⟨hM, hmi, hk0, hN, hf⟩, hzs, hap, hsh, hrb, fun j hj => by simp at hj⟩ ?_ (f17d hfew ?_ (fun h => no h))
  · refine Weak.cutTm ?_
    repeat (first | refine TmCut.cons rfl ?_ | exact TmCut.nil)
  rintro ⟨i, K, N, m⟩ ⟨_, ⟨hM, hmi, hk0, hN, hf⟩, hzs, hap, hsh, hrb, hrp⟩ hie
  simp only at hM hmi hk0 hN hf hzs hap hsh hrb hrp hie
  subst hie
  simp only [go_sem, rr, s17_6, ↓reduceIte, reduceCtorEq, Nat.reduceEqDiff, Nat.reduceAdd, Nat.reduceSub, Nat.reduceMul, Nat.reduceLT, Nat.reduceLeDiff, Int.reduceToNat]
  have hns := hfew.ns; have hna := hfew.na; have hnz := hfew.nz
  refine PureK.callM hmi (f39 (by rw [hf]; exact hF) hmi (by rw [hsh]; omega) (by rw [hap]; omega)) hM (by omega) rfl (fun a ha => ?_) ?_
  · simp only [List.mem_cons, List.not_mem_nil, or_false] at ha
    subst ha; rfl
  rintro _ ⟨e1, rfl, he1⟩ _
  simp only [go_sem, s17_5, ↓reduceIte, reduceCtorEq, Nat.reduceEqDiff, Nat.reduceAdd, Nat.reduceSub, Nat.reduceMul, Nat.reduceLT, Nat.reduceLeDiff, Int.reduceToNat]
  refine guardQ_at (fun g1 => ?_) (fun g1 => ?_)
  · simp only [decide_eq_true_eq] at g1
    simp only [go_sem, s17_4, ↓reduceIte, reduceCtorEq, Nat.reduceEqDiff, Nat.reduceAdd, Nat.reduceSub, Nat.reduceMul, Nat.reduceLT, Nat.reduceLeDiff, Int.reduceToNat]
    refine PureK.callM hmi (f40 hmi (by rw [hzs]; omega) (fun j hj => ?_) (fun j hj q hq => ?_)) hM (by omega) rfl (fun a ha => ?_) ?_
    · rw [hzs] at hj ⊢
      have := (hfew.zc j hj).1; omega
    · rw [hzs] at hj hq ⊢
      rw [hf]
      exact (hzp j hj).isC q hq
    · simp only [List.mem_cons, List.not_mem_nil, or_false] at ha
      subst ha; rfl
    rintro _ rfl _
    simp only [go_sem, s17_3, ↓reduceIte, reduceCtorEq, Nat.reduceEqDiff, Nat.reduceAdd, Nat.reduceSub, Nat.reduceMul, Nat.reduceLT, Nat.reduceLeDiff, Int.reduceToNat]
    refine guardQ_at (fun g2 => ?_) (fun g2 => ?_)
    · simp only [decide_eq_true_eq] at g2
      simp only [go_sem, s17_2, ↓reduceIte, reduceCtorEq, Nat.reduceEqDiff, Nat.reduceAdd, Nat.reduceSub, Nat.reduceMul, Nat.reduceLT, Nat.reduceLeDiff, Int.reduceToNat]
      refine PureK.callM hmi (f41 hmi (by rw [hf]; have := hfew.kind; omega)) hM (by omega) rfl (fun a ha => ?_) ?_
      · simp only [List.mem_cons, List.not_mem_nil, or_false] at ha
        subst ha; rfl
      rintro _ rfl _
      simp only [go_sem, s17_1, ↓reduceIte, reduceCtorEq, Nat.reduceEqDiff, Nat.reduceAdd, Nat.reduceSub, Nat.reduceMul, Nat.reduceLT, Nat.reduceLeDiff, Int.reduceToNat]
      refine ⟨rfl, _, rfl, fun hch => ⟨hF, hzp, hsp, hrp, ?_, ?_, ?_⟩⟩
      · intro i hi c hc k hk hki
        have hat : atM m c = some k := by unfold atM; rw [hsh]; exact hk
        have := he1 g1 i (by rw [hsh]; exact hi) c (by rw [cellM, hsh, hf]; exact hc) k hat hki
        rw [hap] at this
        unfold clsM at this
        rw [hsh] at this
        exact this
      · intro j hj
        have hfr : ∀ c, freeM m c = freeS s c := fun c => by unfold freeM freeS atM atS; rw [hsh, hf]
        rcases idxF_spec (fun i => decide ((freeN m (m.zs.getD i default).cells (m.zs.getD i default).cells.length : Int) < (m.zs.getD i default).keep)) m.zs.length with ⟨_, h2⟩ | ⟨q, _, _, _, h3⟩
        · have := h2 j (by rw [hzs]; exact hj)
          rw [hzs] at this
          simp only [decide_eq_false_iff_not] at this
          have e : freeN m (s.zones.getD j default).cells (s.zones.getD j default).cells.length = freeC s (s.zones.getD j default).cells := by
            unfold freeN freeC
            congr 1
            funext q
            exact hfr _
          rw [e] at this
          omega
        · rw [h3] at g2; omega
      · rw [hf] at hch
        exact of_decide_eq_true hch
    · simp only [go_sem, s17_2, s17_1, ↓reduceIte, reduceCtorEq, Nat.reduceEqDiff, Nat.reduceAdd, Nat.reduceSub, Nat.reduceMul, Nat.reduceLT, Nat.reduceLeDiff, Int.reduceToNat]
      exact ⟨rfl, false, rfl, fun h => by cases h⟩
  · simp only [go_sem, s17_4, s17_3, s17_2, s17_1, ↓reduceIte, reduceCtorEq, Nat.reduceEqDiff, Nat.reduceAdd, Nat.reduceSub, Nat.reduceMul, Nat.reduceLT, Nat.reduceLeDiff, Int.reduceToNat]
    exact ⟨rfl, false, rfl, fun h => by cases h⟩
end Go.Proofs.Yticflcpmlbaafaa.AL

/- The site of the examples. -/
set_option linter.unusedSimpArgs false
set_option linter.unusedVariables false
namespace Go.Proofs.Yticflcpmlbaafaa.AL
open Go
variable {s : SiteD} {st : StateD}

def sampZ : ZoneD := ⟨⟨#[122]⟩, [0, 1], 2, 1, [(5, 8)]⟩
def sampS : SiteD := ⟨⟨4, 1, 1, [1, 1, 1, 3], [1, 5, 5, 4]⟩, [sampZ], [⟨⟨#[65]⟩, ⟨#[66]⟩⟩], [⟨0, ⟨#[65]⟩⟩, ⟨2, ⟨#[66]⟩⟩], []⟩
def sampT : StateD := ⟨0, [0, 2], [], [], [], []⟩
def sampSC : List C := [cV (.int .i64 4), cV (.int .i64 1), cV (.int .i64 1), .own 0 0 0 4, .own 1 0 0 4, .own 4 0 0 1, .own 5 0 0 1, .own 6 0 0 2, cV nilS]
def sampTC : List C := [cV (.int .i64 0), .own 7 0 0 2, cV nilS, cV nilS, cV nilS, cV nilS]
def sampK : KMap := upd (upd (upd (upd (upd (upd (upd (upd emp 0 (.row 0 1 (intC [1, 1, 1, 3]))) 1 (.row 0 1 (intC [1, 5, 5, 4]))) 2 (.row 0 1 (intC [0, 1]))) 3 (.row 0 2 [[cV (.int .i64 5), cV (.int .i64 8)]])) 4 (.row 0 5 [[cV (.string ⟨#[122]⟩), .own 2 0 0 2, cV (.int .i64 2), cV (.int .i64 1), .own 3 0 0 1]]))
  5 (.row 0 2 (rowC encApart [⟨⟨#[65]⟩, ⟨#[66]⟩⟩]))) 6 (.row 0 2 (rowC encShelf [⟨0, ⟨#[65]⟩⟩, ⟨2, ⟨#[66]⟩⟩]))) 7 (.row 0 1 (intC [0, 2]))

theorem CastC.r_of {K : KMap} {c : C} {r : R} (h : CastC K c (.r r)) : CastR K c r := by
  rcases h with ⟨rfl, _⟩ | ⟨r', h1, h2⟩
  · exact .r
  · cases h1; exact h2

theorem encZone_len (z : ZoneD) : (encZone z).length = 5 := rfl

theorem samp_cast {K : KMap} (h : ∀ i, i < 8 → K i = sampK i) : liftA (CastC K) [.v (.agg sampSC), .v (.agg sampTC)] [.v (.agg (encSite sampS)), .v (.agg (encState sampT))] := by
  have c0 : CastC K (.own 0 0 0 4) (.r (.rd 1 (ints [1, 1, 1, 3]))) := intC_cast (l := [1, 1, 1, 3]) ((h 0 (by decide)).trans rfl) (by decide)
  have c1 : CastC K (.own 1 0 0 4) (.r (.rd 1 (ints [1, 5, 5, 4]))) := intC_cast (l := [1, 5, 5, 4]) ((h 1 (by decide)).trans rfl) (by decide)
  have c2 : CastC K (.own 2 0 0 2) (.r (.rd 1 (ints [0, 1]))) := intC_cast (l := [0, 1]) ((h 2 (by decide)).trans rfl) (by decide)
  have c7 : CastC K (.own 7 0 0 2) (.r (.rd 1 (ints [0, 2]))) := intC_cast (l := [0, 2]) ((h 7 (by decide)).trans rfl) (by decide)
  have c5 : CastC K (.own 5 0 0 1) (.r (.rd 2 (sampS.aparts.map encApart))) := rowC_cast (l := sampS.aparts) (fun x => rfl) ((h 5 (by decide)).trans rfl)
  have c6 : CastC K (.own 6 0 0 2) (.r (.rd 2 (sampS.shelves.map encShelf))) := rowC_cast (l := sampS.shelves) (fun x => rfl) ((h 6 (by decide)).trans rfl)
  have c3 : CastR K (.own 3 0 0 1) (.rd 2 (spans [(5, 8)])) := by
    refine .own ((h 3 (by decide)).trans rfl) (by decide) rfl (fun y hy => ?_) (fun i k c r hi hc hr => ?_)
    · simp [spans] at hy; subst hy; rfl
    · obtain rfl : i = 0 := by omega
      match k with
      | 0 => simp [spans] at hc hr; subst hc hr; exact .r
      | 1 => simp [spans] at hc hr; subst hc hr; exact .r
      | k + 2 => simp [spans] at hr
  have c4 : CastC K (.own 4 0 0 1) (.r (.rd 5 (sampS.zones.map encZone))) := by
    refine .inr ⟨_, rfl, .own ((h 4 (by decide)).trans rfl) (by decide) rfl (fun y hy => ?_) (fun i k c r hi hc hr => ?_)⟩
    · simp [sampS] at hy; subst hy; rfl
    · obtain rfl : i = 0 := by omega
      match k with
      | 0 => simp [sampS, encZone, sampZ] at hc hr; subst hc hr; exact .r
      | 1 => simp [sampS, encZone, sampZ] at hc hr; subst hc hr; exact c2.r_of
      | 2 => simp [sampS, encZone, sampZ] at hc hr; subst hc hr; exact .r
      | 3 => simp [sampS, encZone, sampZ] at hc hr; subst hc hr; exact .r
      | 4 => simp [sampS, encZone, sampZ] at hc hr; subst hc hr; exact c3
      | k + 5 => simp [sampS, encZone] at hr
  have nil : ∀ sz, CastC K (cV nilS) (.r (.rd sz [])) := fun sz => .inr ⟨_, rfl, .nil⟩
  have val : ∀ v, CastC K (cV v) (cV v) := fun v => .inl ⟨rfl, rfl⟩
  refine ⟨⟨rfl, fun i c c' hi hi' => ?_⟩, ⟨rfl, fun i c c' hi hi' => ?_⟩, trivial⟩
  · match i with
    | 0 => cases hi; cases hi'; exact val _
    | 1 => cases hi; cases hi'; exact val _
    | 2 => cases hi; cases hi'; exact val _
    | 3 => cases hi; cases hi'; exact c0
    | 4 => cases hi; cases hi'; exact c1
    | 5 => cases hi; cases hi'; exact c4
    | 6 => cases hi; cases hi'; exact c5
    | 7 => cases hi; cases hi'; exact c6
    | 8 => cases hi; cases hi'; exact nil 2
    | i + 9 => simp [sampSC] at hi
  · match i with
    | 0 => cases hi; cases hi'; exact val _
    | 1 => cases hi; cases hi'; exact c7
    | 2 => cases hi; cases hi'; exact nil 6
    | 3 => cases hi; cases hi'; exact nil 1
    | 4 => cases hi; cases hi'; exact nil 1
    | 5 => cases hi; cases hi'; exact nil 2
    | i + 6 => simp [sampTC] at hi

theorem sampF : FloorOk sampS.floor where
  w1 := by decide
  w2 := by decide
  h1 := by decide
  h2 := by decide
  d1 := by decide
  d2 := by decide
  size := by decide
  n2 := by decide
  out := rfl
  kind := fun i hi => by
    have hc : i = 0 ∨ i = 1 ∨ i = 2 ∨ i = 3 := by simp [sampS] at hi; omega
    rcases hc with rfl | rfl | rfl | rfl <;> decide
  outs := fun i hi => by
    have hc : i = 0 ∨ i = 1 ∨ i = 2 ∨ i = 3 := by simp [sampS] at hi; omega
    rcases hc with rfl | rfl | rfl | rfl <;> decide

theorem sampZO : ZonesOk sampS where
  nz := by decide
  nc := fun i hi => by
    obtain rfl : i = 0 := by simp [sampS] at hi; omega
    decide
  asc := fun i hi => by
    obtain rfl : i = 0 := by simp [sampS] at hi; omega
    intro a b hab hb
    have : b < 2 := hb
    obtain rfl : a = 0 := by omega
    obtain rfl : b = 1 := by omega
    decide
  ns := fun i hi => by
    obtain rfl : i = 0 := by simp [sampS] at hi; omega
    decide
theorem sampSO : StOk sampT := ⟨by decide, by decide⟩

theorem addN0 : addN 0 = fun i => i := by funext i; unfold addN; omega
theorem joinK0 {K : KMap} : joinK 0 emp K = K := by
  funext i
  unfold joinK
  rw [if_neg (by omega), addN0, show AObj.ren (fun i => i) = id from funext AObj.ren_id, Option.map_id]
  rfl

theorem samp_site {K : KMap} (h : ∀ i, i < 8 → K i = sampK i) : liftA (CastC K) [.v (.agg sampSC)] [.v (.agg (encSite sampS))] := ⟨(samp_cast h).1, trivial⟩

theorem v1 : speedF sampS 1 = 2 := by kernel_rfl
theorem v2 : speedF sampS 2 = 1 := by kernel_rfl
theorem v3 : openF sampS 0 7 = false := by kernel_rfl
theorem v4 : openF sampS 0 8 = true := by kernel_rfl
theorem v5 : roomF sampS sampT 0 = 0 := by kernel_rfl
theorem v6 : dropF sampS sampT 1 1 = 17 := by kernel_rfl
theorem v7 : apOk sampS sampT = false := by kernel_rfl

end Go.Proofs.Yticflcpmlbaafaa.AL

/- What the laws ask of their inputs. -/
set_option linter.unusedSimpArgs false
set_option linter.unusedVariables false
namespace Go.Proofs.Yticflcpmlbaafaa.AL
open Go
variable {s : SiteD} {st : StateD}

structure Fits (s : SiteD) (st : StateD) : Prop where
  few : FewOk s 60 20
  nr : st.robots.length ≤ 20
  nsh : st.shelves.length = s.shelves.length
  ok : SiteOk s
  sh : ∀ i, i < st.shelves.length → isF s.floor (st.shelves.getD i 0) = true

theorem FewOk.big (h : FewOk s 60 20) : FewOk s 1000 1000 :=
  ⟨by have := h.kind; omega, by have := h.out; omega, by have := h.nz; omega, by have := h.na; omega, by have := h.ns; omega, by have := h.nr; omega, fun i hi => by have := h.zc i hi; omega⟩

/-! The cells near a cell, in two ways. -/
theorem cellF_isF {f : FloorD} (h : FloorOk f) {x y z : Int} (hc : 0 ≤ cellF f x y z) : isF f (cellF f x y z) = true := by
  unfold cellF at hc ⊢
  split at hc
  · rename_i hx
    rw [if_pos hx]
    obtain ⟨b1, b2, b3, b4, b5⟩ := cell_bound h hx
    simp only [isF, Bool.and_eq_true, decide_eq_true_eq]
    omega
  · omega

theorem near_side {f : FloorD} (h : FloorOk f) {a b : Int} (ha : isF f a = true) (hb : isF f b = true) : nearF f a b = decide (b ∈ posL (sideL f a)) := by
  have hb0 : ¬ b < 0 := by simp only [isF, Bool.and_eq_true, decide_eq_true_eq] at hb; omega
  have e : b ∈ posL (sideL f a) ↔ (besideF f a 0 = b ∨ besideF f a 1 = b ∨ besideF f a 2 = b ∨ besideF f a 3 = b) := by
    unfold posL
    rw [List.mem_filter]
    simp only [sideL, besideF, ha, List.mem_cons, List.not_mem_nil, or_false, Bool.true_eq_false, if_false, if_true]
    simp only [hb0, decide_false, Bool.not_false, and_true, Bool.not_true]
    constructor
    · rintro (h | h | h | h) <;> simp [h]
    · intro h
      simp at h
      rcases h with h | h | h | h <;> simp [h]
  rw [Bool.eq_iff_iff]
  simp only [nearF, hb, Bool.true_and, Bool.or_eq_true, decide_eq_true_eq, e, or_assoc]

theorem pairF_symm {n : Nat} {a b : ByteArray} : pairF s n a b = pairF s n b a := by
  unfold pairF
  congr 1
  funext j
  rw [Bool.or_comm, Bool.and_comm, Bool.and_comm (decide (a = (s.aparts.getD j default).a))]

theorem neverF_symm {a b : ByteArray} : neverF s a b = neverF s b a := by
  unfold neverF
  rw [pairF_symm, Bool.and_comm (decide (a ≠ _))]
end Go.Proofs.Yticflcpmlbaafaa.AL

/- What RulesZones asks, in plain terms. -/
set_option linter.unusedSimpArgs false
set_option linter.unusedVariables false
namespace Go.Proofs.Yticflcpmlbaafaa.AL
open Go
variable {s : SiteD} {st : StateD}

/-- A call that hands own rows as data. -/
theorem Pure.castP {P : Program} {f : FuncId} {args args1 : List T} {Φ : T → Prop} (hs : Pure P f args1 Φ) {q : Bool} {K : KMap} {N : Nat} {R : T → KMap → Nat → Prop} (ha : liftA (CastC K) args args1) (hv : ∀ d, Φ d → d.flat = true) (hR : ∀ d, Φ d → R d K N) : CallW P q f args K N R := by
  refine CallW.wf (fun hw => Spec.cast hs ha ?_ ?_) hs.1
  · rintro d K1 N1 ⟨h1, h2, rfl, rfl⟩
    exact ⟨hv d h1, fun id o h => by cases h⟩
  · rintro d K1 N1 ⟨h1, h2, rfl, rfl⟩
    rw [T.ren_below h2, joinK_emp hw]
    exact hR d h1

theorem SiteOk.zok (hf : FewOk s 60 20) (h : SiteOk s) : ZonesOk s :=
  ⟨by have := hf.nz; omega, fun i hi => by have := (hf.zc i hi).1; omega, fun i hi => (h.zones i hi).asc, fun i hi => by have := (hf.zc i hi).2; omega⟩

theorem idxF_step {p : Nat → Bool} {n : Nat} (h : p n = true → ∀ j, j < n → p j = false) : idxF p (n + 1) = if p n = true then (n : Int) else idxF p n := by
  by_cases hp : p n = true
  · rw [if_pos hp, idxF_hit (Nat.lt_succ_self n) hp (h hp)]
  · rw [if_neg hp]
    have hp' : p n = false := by simpa using hp
    rcases idxF_spec p n with ⟨h1, h2⟩ | ⟨i, h1, h2, h3, h4⟩
    · rw [h1]
      refine idxF_none fun j hj => ?_
      by_cases e : j = n
      · subst e; exact hp'
      · exact h2 j (by omega)
    · rw [h4]; exact idxF_hit (by omega) h2 h3

theorem hit_step {p : Nat → Bool} {n : Nat} : decide (0 ≤ idxF p (n + 1)) = (decide (0 ≤ idxF p n) || p n) := by
  rcases idxF_spec p n with ⟨h1, h2⟩ | ⟨i, h1, h2, h3, h4⟩
  · rw [idxF_step (fun _ => h2), h1]
    by_cases hp : p n = true
    · rw [if_pos hp, hp]; simp
    · rw [if_neg hp]
      have hp' : p n = false := by simpa using hp
      rw [hp']; simp
  · rw [h4, idxF_hit (show i < n + 1 by omega) h2 h3]; simp

/-- Zone i has the cell. -/
def zIn (s : SiteD) (c : Int) (i : Nat) : Bool := decide (c ∈ (s.zones.getD i default).cells)

theorem mem_at {l : List Int} {c : Int} (h : c ∈ l) : ∃ q, q < l.length ∧ l.getD q 0 = c := by
  obtain ⟨q, hq, e⟩ := List.mem_iff_getElem.1 h
  exact ⟨q, hq, by simp [hq, e]⟩

theorem zIn_disj (h : SiteOk s) {c : Int} {i : Nat} (hi : i < s.zones.length) (hz : zIn s c i = true) : ∀ j, j < i → zIn s c j = false := by
  intro j hj
  simp only [zIn, decide_eq_true_eq] at hz
  obtain ⟨q, hq, e⟩ := mem_at hz
  have := (h.zones i hi).disj q hq j hj
  rw [e] at this
  simp only [zIn, decide_eq_false_iff_not]
  exact this

theorem of_at {k : Int} {n i : Nat} (h : i < (ofKindN s k n).length) : ∃ c : Nat, c < n ∧ s.floor.kind.getD c 0 = k ∧ (ofKindN s k n).getD i 0 = c := by
  have hm : (ofKindN s k n).getD i 0 ∈ ofKindN s k n := by
    rw [show (ofKindN s k n).getD i 0 = (ofKindN s k n)[i] by simp [h]]
    exact List.getElem_mem h
  unfold ofKindN at hm
  rw [List.mem_map] at hm
  obtain ⟨c, hc, e⟩ := hm
  simp only [List.mem_filter, List.mem_range, decide_eq_true_eq] at hc
  exact ⟨c, hc.1, hc.2, e.symm⟩

theorem of_asc {k : Int} {n i j : Nat} (hij : i < j) (h : j < (ofKindN s k n).length) : (ofKindN s k n).getD i 0 < (ofKindN s k n).getD j 0 := by
  have hp : (ofKindN s k n).Pairwise (· < ·) := by
    unfold ofKindN
    rw [List.pairwise_map]
    exact (List.pairwise_lt_range.filter _).imp fun h => by omega
  have := List.pairwise_iff_getElem.1 hp i j (by omega) h hij
  rw [show (ofKindN s k n).getD i 0 = (ofKindN s k n)[i] by simp [show i < (ofKindN s k n).length by omega], show (ofKindN s k n).getD j 0 = (ofKindN s k n)[j] by simp [h]]
  exact this

/-- How many cells are of a kind below k. -/
def belowK (s : SiteD) (k : Int) (n : Nat) : Nat := (List.range n).countP fun c => decide (s.floor.kind.getD c 0 < k)
theorem belowK_succ {k : Int} {n : Nat} : belowK s (k + 1) n = belowK s k n + (ofKindN s k n).length := by
  induction n with
  | zero => rfl
  | succ n ih =>
    have e : ∀ k, belowK s k (n + 1) = belowK s k n + if s.floor.kind.getD n 0 < k then 1 else 0 := fun k => by
      unfold belowK
      rw [List.range_succ, List.countP_append]
      simp [List.countP_cons]
    rw [e, e, ofKindN_succ, List.length_append, ih]
    by_cases h1 : s.floor.kind.getD n 0 = k
    · rw [if_pos h1, if_pos (by omega), if_neg (by omega)]; simp; omega
    · rw [if_neg h1]
      by_cases h2 : s.floor.kind.getD n 0 < k
      · rw [if_pos h2, if_pos (by omega)]; simp; omega
      · rw [if_neg h2, if_neg (by omega)]; simp
theorem belowK_zero (h : FloorOk s.floor) : belowK s 0 s.floor.kind.length = 0 := by
  unfold belowK
  rw [List.countP_eq_zero]
  intro c hc
  have := (h.kind c (by simpa using hc)).1
  simp only [decide_eq_true_eq]
  omega
theorem belowK_all (h : FloorOk s.floor) : belowK s 7 s.floor.kind.length = s.floor.kind.length := by
  have : (List.range s.floor.kind.length).countP (fun c => decide (s.floor.kind.getD c 0 < 7)) = (List.range s.floor.kind.length).length := by
    rw [List.countP_eq_length]
    intro c hc
    have := (h.kind c (by simpa using hc)).2
    simpa using this
  rw [belowK, this, List.length_range]
theorem belowK_le {k : Int} {n : Nat} : belowK s k n ≤ n := by
  have := List.countP_le_length (p := fun c => decide (s.floor.kind.getD c 0 < k)) (l := List.range n)
  simpa [belowK] using this

/-- After the last span every cell is open. -/
theorem late (h : SiteOk s) {c : Int} (h0 : 0 ≤ c) (h1 : c < s.floor.kind.length) : openF s c 20000 = true := by
  have hc : isCellF s c = true := by
    have e : s.floor.n = (s.floor.kind.length : Int) := rfl
    simp [isCellF, e, h0, h1]
  unfold openF
  rw [hc]
  rcases zoneOf_b s c with hz | ⟨h2, h3, h4⟩
  · rw [hz]; rfl
  · rw [if_neg (by simp; omega)]
    have hs := (h.zones _ h4).shut
    have : anySpan (s.zones.getD (zoneOfF s c).toNat default).shut 20000 = false := by
      unfold anySpan
      rw [idxF_none fun j hj => ?_]
      · rfl
      · have := (hs j hj).2.2
        simp only [inSpan, Bool.and_eq_false_iff, decide_eq_false_iff_not]
        exact .inr (by omega)
    rw [this]; rfl

end Go.Proofs.Yticflcpmlbaafaa.AL

/- Energy: the small functions. -/
set_option linter.unusedSimpArgs false
set_option linter.unusedVariables false
namespace Go.Proofs.Yticflcpmlbaafaa.AL
open Go
variable {s : SiteD} {f : FloorD}

def baseA (a : Int) : Int := if a = 0 then 1 else if a = 5 then 7 else if a = 6 then 3 else 4
def costA (a : Int) : Int := if a = 0 then 3 else if a = 5 then 21 else if a = 6 then 9 else 12

theorem twoQ_yes {t : Bool} {A B : Prop} (h : t = true) (a : A) : twoQ t A B := twoQ_at (fun _ => a) (fun g => by rw [h] at g; exact absurd g (by decide))
theorem twoQ_no {t : Bool} {A B : Prop} (h : t = false) (b : B) : twoQ t A B := twoQ_at (fun g => by rw [h] at g; exact absurd g (by decide)) (fun _ => b)
theorem guardQ_yes {t q : Bool} {A B : Prop} (h : t = q) (a : A) : guardQ t q A B := guardQ_at (fun _ => a) (fun g => absurd h (by rw [g]; cases q <;> decide))
theorem guardQ_no {t q : Bool} {A B : Prop} (h : t = !q) (b : B) : guardQ t q A B := guardQ_at (fun g => by rw [h] at g; cases q <;> exact absurd g (by decide)) (fun _ => b)

theorem f49 (a : Int) (ha : 0 ≤ a ∧ a ≤ 6) : Pure Try.prog 49 [tI a, tB true] (· = tI (baseA a)) := by
  refine Pure.of_awp hm Try.func49 s49_ok (by simp [s49]) ?_
  have hd : a = 0 ∨ a = 1 ∨ a = 2 ∨ a = 3 ∨ a = 4 ∨ a = 5 ∨ a = 6 := by omega
  rcases hd with rfl | rfl | rfl | rfl | rfl | rfl | rfl
  all_goals
    simp only [go_sem, s49, s49_1, s49_2, s49_3, s49_4, s49_5, s49_6, s49_7, s49_8, s49_9, s49_10, s49_11, s49_12, s49_13, s49_14, s49_15, s49_16, s49_17, s49_18, s49_19, s49_20, ↓reduceIte, reduceCtorEq, Nat.reduceEqDiff, Nat.reduceAdd, Nat.reduceSub, Nat.reduceMul, Nat.reduceLT, Nat.reduceLeDiff, Int.reduceToNat]
    repeat' (first | refine twoQ_yes rfl ?_ | refine twoQ_no rfl ?_ | refine guardQ_yes rfl ?_ | refine guardQ_no rfl ?_)
    exact ⟨rfl, rfl⟩

theorem f22 (a : Int) (ha : 0 ≤ a ∧ a ≤ 6) : Pure Try.prog 22 [tI 20000, tI a, tB true] (· = tI (costA a)) := by
  refine Pure.of_awp hm Try.func22 s22_ok (by simp [s22]) ?_
  simp only [go_sem, s22, ↓reduceIte, reduceCtorEq, Nat.reduceEqDiff, Nat.reduceAdd, Nat.reduceSub, Nat.reduceMul, Nat.reduceLT, Nat.reduceLeDiff, Int.reduceToNat]
  refine ⟨by decide, Pure.callS (f49 a ha) rfl ?_⟩
  have hd : a = 0 ∨ a = 1 ∨ a = 2 ∨ a = 3 ∨ a = 4 ∨ a = 5 ∨ a = 6 := by omega
  rcases hd with rfl | rfl | rfl | rfl | rfl | rfl | rfl
  all_goals
    simp only [go_sem, s22_1, ↓reduceIte, reduceCtorEq, Nat.reduceEqDiff, Nat.reduceAdd, Nat.reduceSub, Nat.reduceMul, Nat.reduceLT, Nat.reduceLeDiff, Int.reduceToNat]
    exact ⟨by decide, rfl, rfl⟩

theorem f12 : Pure Try.prog 12 [] (· = tI 3) := by
  refine Pure.of_awp hm Try.func12 s12_ok (by simp [s12]) ?_
  simp only [go_sem, s12, ↓reduceIte, reduceCtorEq, Nat.reduceEqDiff, Nat.reduceAdd, Nat.reduceSub, Nat.reduceMul, Nat.reduceLT, Nat.reduceLeDiff, Int.reduceToNat]
  refine Pure.callS (f22 0 (by omega)) rfl ?_
  simp only [go_sem, s12_1, ↓reduceIte, reduceCtorEq, Nat.reduceEqDiff, Nat.reduceAdd, Nat.reduceSub, Nat.reduceMul, Nat.reduceLT, Nat.reduceLeDiff, Int.reduceToNat]
  exact ⟨rfl, rfl⟩

theorem isCell_b {c : Int} (hc : isCellF s c = true) : 0 ≤ c ∧ c < s.floor.kind.length := by
  unfold isCellF at hc
  rw [Bool.and_eq_true] at hc
  exact ⟨of_decide_eq_true hc.1, of_decide_eq_true hc.2⟩

theorem f21 (c : Int) : Pure Try.prog 21 [.v (.agg (encSite s)), tI c] (· = tB (isCellF s c)) := by
  refine Pure.of_awp hm Try.func21 s21_ok (by simp [s21]) ?_
  simp only [go_sem, s21, s21_1, encSite, ints_len, ↓reduceIte, reduceCtorEq, Nat.reduceEqDiff, Nat.reduceAdd, Nat.reduceSub, Nat.reduceMul, Nat.reduceLT, Nat.reduceLeDiff, Int.reduceToNat]
  refine guardQ_at (fun g => ?_) (fun g => ?_)
  · exact ⟨rfl, by simp only [isCellF, FloorD.n, g, Bool.true_and]; rfl⟩
  · exact ⟨rfl, by simp only [isCellF, FloorD.n, g]; rfl⟩

theorem f23 (c : Int) (hc : isCellF s c = true) : Pure Try.prog 23 [.v (.agg (encSite s)), tI c] (· = tB (decide (kindF s c = 3))) := by
  have hc' : 0 ≤ c ∧ c < s.floor.kind.length := isCell_b hc
  have b3 : c.toNat < s.floor.kind.length := by omega
  refine Pure.of_awp hm Try.func23 s23_ok (by simp [s23]) ?_
  simp only [go_sem, s23, encSite, ints_len, ints_at b3, ↓reduceIte, reduceCtorEq, Nat.reduceEqDiff, Nat.reduceAdd, Nat.reduceSub, Nat.reduceMul, Nat.reduceLT, Nat.reduceLeDiff, Int.reduceToNat]
  exact ⟨⟨by omega, by omega⟩, rfl, rfl⟩

theorem f14 (l m : List Int) (hl : l.length ≤ 1000000) : Pure Try.prog 14 [tC (.r (.rd 1 (ints l))), tC (.r (.rd 1 (ints m)))] (· = tB (decide (l = m))) := by
  refine Pure.of_awp hm Try.func14 s14_ok (by simp [s14]) ?_
  simp only [go_sem, s14, ints_len, ↓reduceIte, reduceCtorEq, Nat.reduceEqDiff, Nat.reduceAdd, Nat.reduceSub, Nat.reduceMul, Nat.reduceLT, Nat.reduceLeDiff, Int.reduceToNat]
  refine twoQ_at (fun g => ?_) (fun g => ?_)
  · have g : l.length ≠ m.length := by have := of_decide_eq_true g; omega
    simp only [go_sem, s14_7, ↓reduceIte, reduceCtorEq, Nat.reduceEqDiff, Nat.reduceAdd, Nat.reduceSub, Nat.reduceMul, Nat.reduceLT, Nat.reduceLeDiff, Int.reduceToNat]
    exact ⟨rfl, by rw [decide_eq_false (fun e => g (by rw [e]))]⟩
  · have g : l.length = m.length := by simp only [decide_eq_false_iff_not, ne_eq] at g; omega
    simp only [go_sem, s14_6, ↓reduceIte, reduceCtorEq, Nat.reduceEqDiff, Nat.reduceAdd, Nat.reduceSub, Nat.reduceMul, Nat.reduceLT, Nat.reduceLeDiff, Int.reduceToNat]
    refine awp_loop (fun i : Nat => ⟨upd (upd (upd emp 0 (tC (.r (.rd 1 (ints l))))) 1 (tC (.r (.rd 1 (ints m))))) 5 (tI i), emp, 0⟩) (fun i => l.length - i) (fun i => i ≤ l.length ∧ ∀ j, j < i → l.getD j 0 = m.getD j 0) 0 ⟨Nat.zero_le _, fun j hj => by omega⟩ ?_ ?_
    · exact Weak.cutTm (by repeat (first | refine TmCut.cons rfl ?_ | refine TmCut.cons (by simp [upd, *]; done) ?_ | exact TmCut.nil))
    · rintro i ⟨hi, hj⟩
      simp only [go_sem, s14_5, ints_len, ↓reduceIte, reduceCtorEq, Nat.reduceEqDiff, Nat.reduceAdd, Nat.reduceSub, Nat.reduceMul, Nat.reduceLT, Nat.reduceLeDiff, Int.reduceToNat]
      refine twoQ_at (fun g1 => ?_) (fun g1 => ?_)
      · have hi' : i < l.length := by have := of_decide_eq_true g1; omega
        have him : i < m.length := by omega
        have hwr : IntKind.i64.wrap ((i : Int) + 1) = ((i + 1 : Nat) : Int) := wrap_i (by omega) (by omega)
        simp only [go_sem, s14_4, ints_len, ints_at hi', ints_at him, Int.toNat_natCast, ↓reduceIte, reduceCtorEq, Nat.reduceEqDiff, Nat.reduceAdd, Nat.reduceSub, Nat.reduceMul, Nat.reduceLT, Nat.reduceLeDiff, Int.reduceToNat]
        refine ⟨⟨by omega, by omega⟩, ⟨by omega, by omega⟩, twoQ_at (fun g2 => ?_) (fun g2 => ?_)⟩
        · have g2 : ¬ l.getD i 0 = m.getD i 0 := by simpa using g2
          simp only [go_sem, s14_3, ↓reduceIte, reduceCtorEq, Nat.reduceEqDiff, Nat.reduceAdd, Nat.reduceSub, Nat.reduceMul, Nat.reduceLT, Nat.reduceLeDiff, Int.reduceToNat]
          exact ⟨rfl, by rw [decide_eq_false (fun e => g2 (by rw [e]))]⟩
        · have g2 : l.getD i 0 = m.getD i 0 := by simpa using g2
          simp only [go_sem, s14_2, hwr, ↓reduceIte, reduceCtorEq, Nat.reduceEqDiff, Nat.reduceAdd, Nat.reduceSub, Nat.reduceMul, Nat.reduceLT, Nat.reduceLeDiff, Int.reduceToNat]
          refine ⟨i + 1, ⟨by omega, fun j hj2 => ?_⟩, by omega, ?_⟩
          · by_cases e : j = i
            · rw [e]; exact g2
            · exact hj j (by omega)
          · exact Weak.cutTm (by repeat (first | refine TmCut.cons rfl ?_ | refine TmCut.cons (by simp [upd, *]; done) ?_ | exact TmCut.nil))
      · have hi' : i = l.length := by simp only [decide_eq_false_iff_not] at g1; omega
        simp only [go_sem, s14_1, ↓reduceIte, reduceCtorEq, Nat.reduceEqDiff, Nat.reduceAdd, Nat.reduceSub, Nat.reduceMul, Nat.reduceLT, Nat.reduceLeDiff, Int.reduceToNat]
        refine ⟨rfl, ?_⟩
        rw [decide_eq_true]
        refine List.ext_getElem g fun j h1 h2 => ?_
        have := hj j (by omega)
        simpa [h1, h2] using this

def outB (a d : Int) : Bool := !decide (IntKind.i64.wrap (BitVec.ofInt 64 (a.fdiv (2 ^ (min d.toNat 64))) &&& BitVec.ofInt 64 1).toNat = 0)

/-- A move leads somewhere. -/
def nextB (f : FloorD) (c d : Int) : Bool :=
  !decide (besideF f c d < 0) && !decide (f.kind.getD c.toNat 0 = 0) && !decide (f.kind.getD (besideF f c d).toNat 0 = 0) && outB (f.out.getD c.toNat 0) d
    && !((decide (d = 4) || decide (d = 5)) && (!decide (f.kind.getD c.toNat 0 = 6) || !decide (f.kind.getD (besideF f c d).toNat 0 = 6)))
def nextF (f : FloorD) (c d : Int) : Int := if nextB f c d then besideF f c d else 0

theorem cellF_b (h : FloorOk f) (x y z : Int) : cellF f x y z < f.n := by
  unfold cellF
  split
  · next hx => exact (cell_bound h hx).2.2.2.1
  · have := h.wh; omega

theorem beside_b (h : FloorOk f) {c d : Int} (hb : 0 ≤ besideF f c d) : (0 ≤ c ∧ c < f.n) ∧ (0 ≤ d ∧ d < 6) ∧ besideF f c d < f.n := by
  have hd : 0 ≤ d ∧ d < 6 := by
    apply Classical.byContradiction
    intro hd
    unfold besideF at hb
    rw [if_neg (c := d = 0) (by omega), if_neg (c := d = 1) (by omega), if_neg (c := d = 2) (by omega), if_neg (c := d = 3) (by omega), if_neg (c := d = 4) (by omega), if_neg (c := d = 5) (by omega), ite_self] at hb
    omega
  cases hc : isF f c with
  | false => simp [besideF, hc] at hb
  | true =>
    refine ⟨by simpa [isF] using hc, hd, ?_⟩
    unfold besideF
    have := cellF_b h
    have := h.wh
    repeat' split
    all_goals first | exact cellF_b h _ _ _ | omega

abbrev tIB (n : Int) (b : Bool) : T := .tup [.x (cV (.int .i64 n)), .x (cV (.bool b))]

theorem f8 (h : FloorOk f) (c d : Int) : Pure Try.prog 8 [.v (.agg (encFloor f)), tI c, tI d] (· = tIB (nextF f c d) (nextB f c d)) := by
  refine Pure.of_awp hm Try.func8 s8_ok (by simp [s8]) ?_
  simp only [go_sem, s8, encFloor, ↓reduceIte, reduceCtorEq, Nat.reduceEqDiff, Nat.reduceAdd, Nat.reduceSub, Nat.reduceMul, Nat.reduceLT, Nat.reduceLeDiff, Int.reduceToNat]
  refine Pure.callS (f20 h c d) rfl ?_
  have no : nextB f c d = false → tIB (nextF f c d) (nextB f c d) = tIB 0 false := fun e => by unfold nextF; rw [e]; rfl
  simp only [go_sem, s8_15, s8_14, ↓reduceIte, reduceCtorEq, Nat.reduceEqDiff, Nat.reduceAdd, Nat.reduceSub, Nat.reduceMul, Nat.reduceLT, Nat.reduceLeDiff, Int.reduceToNat]
  refine guardQ_at (fun g => ?_) (fun g => ?_)
  · have hb : 0 ≤ besideF f c d := by have := of_decide_eq_false g; omega
    obtain ⟨⟨c1, c2⟩, ⟨d1, d2⟩, b2⟩ := beside_b h hb
    have ho := h.out
    unfold FloorD.n at c2 b2
    have hc' : c.toNat < f.kind.length := by omega
    have hco : c.toNat < f.out.length := by omega
    have hn' : (besideF f c d).toNat < f.kind.length := by omega
    simp only [go_sem, s8_13, s8_12, s8_11, s8_10, ints_len, ints_at hc', ints_at hco, ints_at hn', ↓reduceIte, reduceCtorEq, Nat.reduceEqDiff, Nat.reduceAdd, Nat.reduceSub, Nat.reduceMul, Nat.reduceLT, Nat.reduceLeDiff, Int.reduceToNat]
    refine ⟨⟨c1, c2⟩, guardQ_at (fun k1 => ?_) (fun k1 => ?_)⟩
    · refine ⟨⟨hb, b2⟩, guardQ_at (fun k2 => ?_) (fun k2 => ?_)⟩
      · refine ⟨⟨c1, by omega⟩, d1, twoQ_at (fun k3 => ?_) (fun k3 => ?_)⟩
        · simp only [go_sem, s8_9, ↓reduceIte, reduceCtorEq, Nat.reduceEqDiff, Nat.reduceAdd, Nat.reduceSub, Nat.reduceMul, Nat.reduceLT, Nat.reduceLeDiff, Int.reduceToNat]
          exact ⟨rfl, (no (by simp only [nextB, show outB (f.out.getD c.toNat 0) d = false from congrArg not k3, Bool.and_false, Bool.false_and])).symm⟩
        · have e : nextB f c d = !((decide (d = 4) || decide (d = 5)) && (!decide (f.kind.getD c.toNat 0 = 6) || !decide (f.kind.getD (besideF f c d).toNat 0 = 6))) := by
            simp only [nextB, show outB (f.out.getD c.toNat 0) d = true from congrArg not k3, g, k1, k2, Bool.not_false, Bool.true_and]
          have yes : nextB f c d = true → tIB (nextF f c d) (nextB f c d) = tIB (besideF f c d) true := fun q => by unfold nextF; rw [q]; rfl
          have bc : (0 ≤ c ∧ c < (f.kind.length : Int)) = True := eq_true ⟨c1, c2⟩
          have bn : (0 ≤ besideF f c d ∧ besideF f c d < (f.kind.length : Int)) = True := eq_true ⟨hb, b2⟩
          simp only [go_sem, s8_8, s8_7, s8_6, s8_5, s8_4, s8_3, s8_2, s8_1, ints_len, ints_at hc', ints_at hn', bc, bn, true_and, ↓reduceIte, reduceCtorEq, Nat.reduceEqDiff, Nat.reduceAdd, Nat.reduceSub, Nat.reduceMul, Nat.reduceLT, Nat.reduceLeDiff, Int.reduceToNat]
          clear k1 k2 k3 g
          repeat' (first | refine guardQ_at (fun _ => ?_) (fun _ => ?_) | refine twoQ_at (fun _ => ?_) (fun _ => ?_))
          all_goals first | refine ⟨rfl, (no ?_).symm⟩ | refine ⟨rfl, (yes ?_).symm⟩
          all_goals
            rw [e]
            simp_all
      · simp only [go_sem, s8_9, ↓reduceIte, reduceCtorEq, Nat.reduceEqDiff, Nat.reduceAdd, Nat.reduceSub, Nat.reduceMul, Nat.reduceLT, Nat.reduceLeDiff, Int.reduceToNat]
        exact ⟨rfl, (no (by simp only [nextB, k2, Bool.not_false, Bool.not_true, Bool.and_false, Bool.false_and])).symm⟩
    · simp only [go_sem, s8_9, ↓reduceIte, reduceCtorEq, Nat.reduceEqDiff, Nat.reduceAdd, Nat.reduceSub, Nat.reduceMul, Nat.reduceLT, Nat.reduceLeDiff, Int.reduceToNat]
      exact ⟨rfl, (no (by simp only [nextB, k1, Bool.not_false, Bool.not_true, Bool.and_false, Bool.false_and])).symm⟩
  · simp only [go_sem, s8_13, s8_12, s8_11, s8_10, s8_9, ↓reduceIte, reduceCtorEq, Nat.reduceEqDiff, Nat.reduceAdd, Nat.reduceSub, Nat.reduceMul, Nat.reduceLT, Nat.reduceLeDiff, Int.reduceToNat]
    exact ⟨rfl, (no (by simp only [nextB, g, Bool.not_false, Bool.not_true, Bool.false_and])).symm⟩
end Go.Proofs.Yticflcpmlbaafaa.AL

/- Energy: the price of a move; Clone. -/
set_option linter.unusedSimpArgs false
set_option linter.unusedVariables false
namespace Go.Proofs.Yticflcpmlbaafaa.AL
open Go
variable {s : SiteD} {f : FloorD}

def SpeedOk (s : SiteD) : Prop := ∀ j, j < s.zones.length → 1 ≤ (s.zones.getD j default).speed ∧ (s.zones.getD j default).speed ≤ 100

theorem speed_b (h : SpeedOk s) (c : Int) : 1 ≤ speedF s c ∧ speedF s c ≤ 100 := by
  unfold speedF
  split
  · next hz =>
    obtain ⟨k1, k2, k3⟩ := (zoneOf_b s c).resolve_left (by omega)
    exact h _ k3
  · omega

theorem enc_len : (encSite s).length = 9 := rfl
theorem enc_take : (encSite s).take 9 = encSite s := rfl

/-- The price of a move. -/
def priceF (s : SiteD) (d x : Int) : Int :=
  if (0 ≤ d ∧ d < 6) ∧ isCellF s x = true then costA (1 + d) + (if kindF s x = 3 then 0 else (speedF s x - 1) * 3) else 0

theorem cost_b (a : Int) : 1 ≤ costA a ∧ costA a ≤ 21 := by
  unfold costA
  repeat' split
  all_goals omega

theorem f10 (hz : ZonesOk s) (hs : SpeedOk s) (d x : Int) : Pure Try.prog 10 [.v (.agg (encSite s)), tI d, tI x] (· = tI (priceF s d x)) := by
  refine Pure.of_awp hm Try.func10 s10_ok (by simp [s10]) ?_
  have hb := speed_b hs x
  have no : ¬ ((0 ≤ d ∧ d < 6) ∧ isCellF s x = true) → priceF s d x = 0 := fun e => if_neg e
  simp only [go_sem, s10, ↓reduceIte, reduceCtorEq, Nat.reduceEqDiff, Nat.reduceAdd, Nat.reduceSub, Nat.reduceMul, Nat.reduceLT, Nat.reduceLeDiff, Int.reduceToNat]
  refine guardQ_at (fun g => ?_) (fun g => ?_)
  · have g : 0 ≤ d := by have := of_decide_eq_false g; omega
    simp only [go_sem, s10_14, ↓reduceIte, reduceCtorEq, Nat.reduceEqDiff, Nat.reduceAdd, Nat.reduceSub, Nat.reduceMul, Nat.reduceLT, Nat.reduceLeDiff, Int.reduceToNat]
    refine guardQ_at (fun g1 => ?_) (fun g1 => ?_)
    · have g1 : d < 6 := by have := of_decide_eq_false g1; omega
      simp only [go_sem, s10_13, enc_len, enc_take, Nat.le_refl, true_and, ↓reduceIte, reduceCtorEq, Nat.reduceEqDiff, Nat.reduceAdd, Nat.reduceSub, Nat.reduceMul, Nat.reduceLT, Nat.reduceLeDiff, Int.reduceToNat]
      refine Pure.callS (f21 x) rfl ?_
      simp only [go_sem, s10_12, s10_11, ↓reduceIte, reduceCtorEq, Nat.reduceEqDiff, Nat.reduceAdd, Nat.reduceSub, Nat.reduceMul, Nat.reduceLT, Nat.reduceLeDiff, Int.reduceToNat]
      refine twoQ_at (fun g2 => ?_) (fun g2 => ?_)
      · have g2 : isCellF s x = false := by simpa using g2
        simp only [go_sem, s10_10, ↓reduceIte, reduceCtorEq, Nat.reduceEqDiff, Nat.reduceAdd, Nat.reduceSub, Nat.reduceMul, Nat.reduceLT, Nat.reduceLeDiff, Int.reduceToNat]
        exact ⟨rfl, by rw [no (by simp [g2])]⟩
      · have g2 : isCellF s x = true := by simpa using g2
        have hwr : IntKind.i64.wrap (1 + d) = 1 + d := wrap_i (by omega) (by omega)
        have hp : priceF s d x = costA (1 + d) + (if kindF s x = 3 then 0 else (speedF s x - 1) * 3) := if_pos ⟨⟨g, g1⟩, g2⟩
        have hcb := cost_b (1 + d)
        simp only [go_sem, s10_9, hwr, ↓reduceIte, reduceCtorEq, Nat.reduceEqDiff, Nat.reduceAdd, Nat.reduceSub, Nat.reduceMul, Nat.reduceLT, Nat.reduceLeDiff, Int.reduceToNat]
        refine Pure.callS (f22 (1 + d) (by omega)) rfl ?_
        simp only [go_sem, s10_8, s10_7, enc_len, enc_take, Nat.le_refl, true_and, ↓reduceIte, reduceCtorEq, Nat.reduceEqDiff, Nat.reduceAdd, Nat.reduceSub, Nat.reduceMul, Nat.reduceLT, Nat.reduceLeDiff, Int.reduceToNat]
        refine Pure.callS (f23 x g2) rfl ?_
        simp only [go_sem, s10_6, s10_5, ↓reduceIte, reduceCtorEq, Nat.reduceEqDiff, Nat.reduceAdd, Nat.reduceSub, Nat.reduceMul, Nat.reduceLT, Nat.reduceLeDiff, Int.reduceToNat]
        refine twoQ_at (fun g3 => ?_) (fun g3 => ?_)
        · have g3 : ¬ kindF s x = 3 := by simpa using g3
          simp only [go_sem, s10_4, enc_len, enc_take, Nat.le_refl, true_and, ↓reduceIte, reduceCtorEq, Nat.reduceEqDiff, Nat.reduceAdd, Nat.reduceSub, Nat.reduceMul, Nat.reduceLT, Nat.reduceLeDiff, Int.reduceToNat]
          refine Pure.callS (f24 hz x) rfl ?_
          simp only [go_sem, s10_3, ↓reduceIte, reduceCtorEq, Nat.reduceEqDiff, Nat.reduceAdd, Nat.reduceSub, Nat.reduceMul, Nat.reduceLT, Nat.reduceLeDiff, Int.reduceToNat]
          refine Pure.callS f12 rfl ?_
          simp only [go_sem, s10_2, s10_1, ↓reduceIte, reduceCtorEq, Nat.reduceEqDiff, Nat.reduceAdd, Nat.reduceSub, Nat.reduceMul, Nat.reduceLT, Nat.reduceLeDiff, Int.reduceToNat]
          refine ⟨rfl, ?_⟩
          rw [hp, if_neg g3]
          simp (disch := omega) only [wrap_i]
        · have g3 : kindF s x = 3 := by simpa using g3
          simp only [go_sem, s10_1, ↓reduceIte, reduceCtorEq, Nat.reduceEqDiff, Nat.reduceAdd, Nat.reduceSub, Nat.reduceMul, Nat.reduceLT, Nat.reduceLeDiff, Int.reduceToNat]
          refine ⟨rfl, ?_⟩
          rw [hp, if_pos g3, Int.add_zero]
    · have g1 : 6 ≤ d := by have := of_decide_eq_true g1; omega
      simp only [go_sem, s10_13, s10_12, s10_11, s10_10, ↓reduceIte, reduceCtorEq, Nat.reduceEqDiff, Nat.reduceAdd, Nat.reduceSub, Nat.reduceMul, Nat.reduceLT, Nat.reduceLeDiff, Int.reduceToNat]
      exact ⟨rfl, by rw [no (by omega)]⟩
  · have g : d < 0 := by have := of_decide_eq_true g; omega
    simp only [go_sem, s10_14, s10_13, s10_12, s10_11, s10_10, ↓reduceIte, reduceCtorEq, Nat.reduceEqDiff, Nat.reduceAdd, Nat.reduceSub, Nat.reduceMul, Nat.reduceLT, Nat.reduceLeDiff, Int.reduceToNat]
    exact ⟨rfl, by rw [no (by omega)]⟩
end Go.Proofs.Yticflcpmlbaafaa.AL

/- Energy: fits, the sample. -/
set_option linter.unusedSimpArgs false
set_option linter.unusedVariables false
namespace Go.Proofs.Yticflcpmlbaafaa.AL
open Go
variable {s : SiteD} {f : FloorD}

theorem FewOk.big2 {n : Int} (h : FewOk s n 20) (hn : n ≤ 1000) : FewOk s 1000 1000 :=
  ⟨by have := h.kind; omega, by have := h.out; omega, by have := h.nz; omega, by have := h.na; omega, by have := h.ns; omega, by have := h.nr; omega, fun i hi => by have := h.zc i hi; omega⟩

theorem f6 (n : Int) (hn : n ≤ 1000) : Pure Try.prog 6 [.v (.agg (encSite s)), tI n] (fun d => ∃ b, d = tB b ∧ (b = true → FewOk s n 20 ∧ SiteOk s)) := by
  refine Pure.of_awp hm Try.func6 s6_ok (by simp [s6]) ?_
  simp only [go_sem, s6, enc_len, enc_take, Nat.le_refl, true_and, ↓reduceIte, reduceCtorEq, Nat.reduceEqDiff, Nat.reduceAdd, Nat.reduceSub, Nat.reduceMul, Nat.reduceLT, Nat.reduceLeDiff, Int.reduceToNat]
  refine Pure.call (f16 s n 20 (by omega)) (liftA_refl rfl) ?_
  rintro _ ⟨b, rfl, hb⟩ _
  simp only [go_sem, s6_3, enc_len, enc_take, Nat.le_refl, true_and, ↓reduceIte, reduceCtorEq, Nat.reduceEqDiff, Nat.reduceAdd, Nat.reduceSub, Nat.reduceMul, Nat.reduceLT, Nat.reduceLeDiff, Int.reduceToNat]
  refine guardQ_at (fun g => ?_) (fun g => ?_)
  · subst g
    simp only [go_sem, s6_2, enc_len, enc_take, Nat.le_refl, true_and, ↓reduceIte, reduceCtorEq, Nat.reduceEqDiff, Nat.reduceAdd, Nat.reduceSub, Nat.reduceMul, Nat.reduceLT, Nat.reduceLeDiff, Int.reduceToNat]
    refine Pure.call (f17 ((hb rfl).big2 hn)) (liftA_refl rfl) ?_
    rintro _ ⟨b2, rfl, hb2⟩ _
    simp only [go_sem, s6_1, ↓reduceIte, reduceCtorEq, Nat.reduceEqDiff, Nat.reduceAdd, Nat.reduceSub, Nat.reduceMul, Nat.reduceLT, Nat.reduceLeDiff, Int.reduceToNat]
    exact ⟨rfl, b2, rfl, fun e => ⟨hb rfl, hb2 e⟩⟩
  · simp only [go_sem, s6_2, s6_1, ↓reduceIte, reduceCtorEq, Nat.reduceEqDiff, Nat.reduceAdd, Nat.reduceSub, Nat.reduceMul, Nat.reduceLT, Nat.reduceLeDiff, Int.reduceToNat]
    exact ⟨rfl, false, rfl, fun e => by cases e⟩

theorem f44 (c : Int) : Pure Try.prog 44 [tI c] (· = tB true) := by
  refine Pure.of_awp hm Try.func44 s44_ok (by simp [s44]) ?_
  simp only [go_sem, s44, ↓reduceIte, reduceCtorEq, Nat.reduceEqDiff, Nat.reduceAdd, Nat.reduceSub, Nat.reduceMul, Nat.reduceLT, Nat.reduceLeDiff, Int.reduceToNat]
  rfl

def smpS : SiteD := ⟨⟨4, 1, 1, [3, 1, 1, 3], [5, 5, 5, 5]⟩, [], [], [], []⟩
def smpC : List C := [cV (.int .i64 4), cV (.int .i64 1), cV (.int .i64 1), .own 0 0 0 4, .own 1 0 0 4, cV nilS, cV nilS, cV nilS, cV nilS]
def smpK : KMap := upd (upd emp 0 (.row 0 1 (intC [3, 1, 1, 3]))) 1 (.row 0 1 (intC [5, 5, 5, 5]))

theorem f13 : Spec Try.prog 13 [] emp 0 fun d K N => d = .v (.agg smpC) ∧ K = smpK ∧ N = 2 := by
  refine Spec.of_awp hm Try.func13 s13_ok (by simp [s13]) ?_
  simp only [go_sem, s13, rowsOf, ↓reduceIte, reduceCtorEq, Nat.reduceEqDiff, Nat.reduceAdd, Nat.reduceSub, Nat.reduceMul, Nat.reduceLT, Nat.reduceLeDiff, Int.reduceToNat]
  refine ⟨_, smpK, 2, _, Back.list [1, 2] _ (by decide) (fun i o hk => ?_) rfl rfl, rfl, rfl, rfl⟩
  unfold smpK at hk
  simp only [upd, emp] at hk
  repeat (split at hk; · rename_i e; subst e; cases hk; exact ⟨by decide, rfl, rfl⟩)
  cases hk

theorem smp_cast {K : KMap} (h : ∀ i, i < 2 → K i = smpK i) : liftA (CastC K) [.v (.agg smpC)] [.v (.agg (encSite smpS))] := by
  have c0 : CastC K (.own 0 0 0 4) (.r (.rd 1 (ints [3, 1, 1, 3]))) := intC_cast (l := [3, 1, 1, 3]) ((h 0 (by decide)).trans rfl) (by decide)
  have c1 : CastC K (.own 1 0 0 4) (.r (.rd 1 (ints [5, 5, 5, 5]))) := intC_cast (l := [5, 5, 5, 5]) ((h 1 (by decide)).trans rfl) (by decide)
  have nil : ∀ sz, CastC K (cV nilS) (.r (.rd sz [])) := fun sz => .inr ⟨_, rfl, .nil⟩
  have val : ∀ v, CastC K (cV v) (cV v) := fun v => .inl ⟨rfl, rfl⟩
  refine ⟨⟨rfl, fun i c c' hi hi' => ?_⟩, trivial⟩
  match i with
  | 0 => cases hi; cases hi'; exact val _
  | 1 => cases hi; cases hi'; exact val _
  | 2 => cases hi; cases hi'; exact val _
  | 3 => cases hi; cases hi'; exact c0
  | 4 => cases hi; cases hi'; exact c1
  | 5 => cases hi; cases hi'; exact nil 5
  | 6 => cases hi; cases hi'; exact nil 2
  | 7 => cases hi; cases hi'; exact nil 2
  | 8 => cases hi; cases hi'; exact nil 2
  | i + 9 => simp [smpC] at hi

theorem smpF : FloorOk smpS.floor where
  w1 := by decide
  w2 := by decide
  h1 := by decide
  h2 := by decide
  d1 := by decide
  d2 := by decide
  size := by decide
  n2 := by decide
  out := rfl
  kind := fun i hi => by
    have hc : i = 0 ∨ i = 1 ∨ i = 2 ∨ i = 3 := by simp [smpS] at hi; omega
    rcases hc with rfl | rfl | rfl | rfl <;> decide
  outs := fun i hi => by
    have hc : i = 0 ∨ i = 1 ∨ i = 2 ∨ i = 3 := by simp [smpS] at hi; omega
    rcases hc with rfl | rfl | rfl | rfl <;> decide

theorem smpZO : ZonesOk smpS where
  nz := by decide
  nc := fun i hi => by simp [smpS] at hi
  asc := fun i hi => by simp [smpS] at hi
  ns := fun i hi => by simp [smpS] at hi

theorem smpSp : SpeedOk smpS := fun i hi => by simp [smpS] at hi
end Go.Proofs.Yticflcpmlbaafaa.AL

/- Energy: the best move of a cell. -/
set_option linter.unusedSimpArgs false
set_option linter.unusedVariables false
namespace Go.Proofs.Yticflcpmlbaafaa.AL
open Go
variable {s : SiteD} {f : FloorD}

structure GrD where
  out : List (List (Int × Int))
  ins : List (List Int)
  home : List Bool

def bools (l : List Bool) : List (List R) := l.map fun b => [R.val (.bool b)]
def encOut (l : List (Int × Int)) : List R := [.rd 2 (spans l)]
def encIn (l : List Int) : List R := [.rd 1 (ints l)]
def encGr (g : GrD) : List R := [.rd 1 (g.out.map encOut), .rd 1 (g.ins.map encIn), .rd 1 (bools g.home)]

/-- One step of the search of the best move. -/
def bestStep (fuel : List Int) (but : Int) (a : Int × Int) (x : Int × Int) : Int × Int :=
  if ¬ x.1 = but ∧ 0 ≤ fuel.getD x.1.toNat 0 ∧ (a.1 < 0 ∨ fuel.getD x.1.toNat 0 + x.2 < a.1) then (fuel.getD x.1.toNat 0 + x.2, x.1) else a
def bestL (fuel : List Int) (but : Int) (l : List (Int × Int)) : Int × Int := l.foldl (bestStep fuel but) (-1, -1)

/-- Moves and fuel within bounds. -/
def StepsOk (n : Nat) (l : List (Int × Int)) : Prop := ∀ i, i < l.length → (0 ≤ (l.getD i (0, 0)).1 ∧ (l.getD i (0, 0)).1 < n) ∧ 1 ≤ (l.getD i (0, 0)).2 ∧ (l.getD i (0, 0)).2 ≤ 1000000
def FuelOk (fuel : List Int) : Prop := ∀ i, i < fuel.length → -1 ≤ fuel.getD i 0 ∧ fuel.getD i 0 ≤ 1000000000000

theorem bestL_succ (fuel : List Int) (but : Int) {l : List (Int × Int)} {i : Nat} (h : i < l.length) : bestL fuel but (l.take (i + 1)) = bestStep fuel but (bestL fuel but (l.take i)) (l.getD i (0, 0)) := by
  unfold bestL
  rw [List.take_succ_eq_append_getElem h, List.foldl_append]
  simp [h]

theorem f26 (g : GrD) (fuel : List Int) (c but : Int) (hc : 0 ≤ c ∧ c < g.out.length) (hl : (g.out.getD c.toNat []).length ≤ 1000000) (ho : StepsOk fuel.length (g.out.getD c.toNat [])) (hf : FuelOk fuel) :
    Pure Try.prog 26 [tC (.rp (encGr g)), tC (.r (.rd 1 (ints fuel))), tI c, tI but] (· = .tup [.x (cV (.int .i64 (bestL fuel but (g.out.getD c.toNat [])).1)), .x (cV (.int .i64 (bestL fuel but (g.out.getD c.toNat [])).2))]) := by
  obtain ⟨l, el⟩ : ∃ l, l = g.out.getD c.toNat [] := ⟨_, rfl⟩
  have hc' : c.toNat < g.out.length := by omega
  have eo : (g.out.map encOut).getD c.toNat [] = [.rd 2 (spans l)] := by rw [rows_at hc', el]; rfl
  rw [← el] at ho hl ⊢
  refine Pure.of_awp hm Try.func26 s26_ok (by simp [s26]) ?_
  simp only [go_sem, s26, encGr, rows_len, eo, spans_len, ↓reduceIte, reduceCtorEq, Nat.reduceEqDiff, Nat.reduceAdd, Nat.reduceSub, Nat.reduceMul, Nat.reduceLT, Nat.reduceLeDiff, Int.reduceToNat]
  refine ⟨⟨hc.1, hc.2⟩, ?_⟩
  refine awp_loop (fun i : Nat => ⟨upd (upd (upd (upd (upd (upd (upd emp 1 (tC (.r (.rd 1 (ints fuel))))) 3 (tI but)) 10 (tI (bestL fuel but (l.take i)).1)) 11 (tI (bestL fuel but (l.take i)).2)) 21 (tC (.r (.rd 2 (spans l))))) 22 (tI l.length)) 23 (tI i), emp, 0⟩) (fun i => l.length - i) (fun i => i ≤ l.length) 0 (Nat.zero_le _) ?_ ?_
  · exact Weak.keep (by repeat (first | refine TmLe.cons rfl rfl ?_ | refine TmLe.cons (by simp [upd, *]) rfl ?_ | exact TmLe.nil)) (by repeat (first | refine KLe.cons (by omega) (by first | rfl | (simp [upd, *]; done) | (simp [joinK, upd, addN, ho.ren]; done)) (by first | rfl | exact IMap.bel (by assumption) | exact (NMap.im (by assumption)).bel | exact intC_bel | exact rowC_bel) ?_ | exact KLe.nil)) (by first | omega | exact Nat.le_refl _ | (dsimp only; omega)) (by first | omega | exact Nat.le_refl _ | (dsimp only; omega))
  · intro i hi
    simp only [go_sem, s26_10, ↓reduceIte, reduceCtorEq, Nat.reduceEqDiff, Nat.reduceAdd, Nat.reduceSub, Nat.reduceMul, Nat.reduceLT, Nat.reduceLeDiff, Int.reduceToNat]
    refine twoQ_at (fun q => ?_) (fun q => ?_)
    · have hi' : i < l.length := by have := of_decide_eq_true q; omega
      have hwr : IntKind.i64.wrap ((i : Int) + 1) = ((i + 1 : Nat) : Int) := wrap_i (by omega) (by omega)
      obtain ⟨⟨x1, x2⟩, p1, p2⟩ := ho i hi'
      have hs := bestL_succ fuel but hi'
      obtain ⟨⟨x, p⟩, ex⟩ : ∃ x, x = l.getD i (0, 0) := ⟨_, rfl⟩
      rw [← ex] at x1 x2 p1 p2 hs
      simp only at x1 x2 p1 p2
      have hx : x.toNat < fuel.length := by omega
      obtain ⟨f1, f2⟩ := hf x.toNat hx
      have hwn : IntKind.i64.wrap (fuel.getD x.toNat 0 + p) = fuel.getD x.toNat 0 + p := wrap_i (by omega) (by omega)
      simp only [go_sem, s26_9, spans_len, spans_at hi', Int.toNat_natCast, ← ex, ints_len, ints_at hx, hwn, ↓reduceIte, reduceCtorEq, Nat.reduceEqDiff, Nat.reduceAdd, Nat.reduceSub, Nat.reduceMul, Nat.reduceLT, Nat.reduceLeDiff, Int.reduceToNat]
      have hyes : (¬ x = but ∧ 0 ≤ fuel.getD x.toNat 0 ∧ ((bestL fuel but (l.take i)).1 < 0 ∨ fuel.getD x.toNat 0 + p < (bestL fuel but (l.take i)).1)) → bestL fuel but (l.take (i + 1)) = (fuel.getD x.toNat 0 + p, x) := fun q => hs.trans (if_pos q)
      have hno : ¬ (¬ x = but ∧ 0 ≤ fuel.getD x.toNat 0 ∧ ((bestL fuel but (l.take i)).1 < 0 ∨ fuel.getD x.toNat 0 + p < (bestL fuel but (l.take i)).1)) → bestL fuel but (l.take (i + 1)) = bestL fuel but (l.take i) := fun q => hs.trans (if_neg q)
      refine ⟨⟨by omega, by omega⟩, ⟨x1, x2⟩, guardQ_at (fun g1 => ?_) (fun g1 => ?_)⟩
      · have g1 : ¬ x = but := by simpa using g1
        simp only [go_sem, s26_8, ints_len, ints_at hx, ↓reduceIte, reduceCtorEq, Nat.reduceEqDiff, Nat.reduceAdd, Nat.reduceSub, Nat.reduceMul, Nat.reduceLT, Nat.reduceLeDiff, Int.reduceToNat]
        refine ⟨⟨x1, x2⟩, guardQ_at (fun g2 => ?_) (fun g2 => ?_)⟩
        · have g2 : 0 ≤ fuel.getD x.toNat 0 := by have := of_decide_eq_true g2; omega
          simp only [go_sem, s26_7, ↓reduceIte, reduceCtorEq, Nat.reduceEqDiff, Nat.reduceAdd, Nat.reduceSub, Nat.reduceMul, Nat.reduceLT, Nat.reduceLeDiff, Int.reduceToNat]
          refine guardQ_at (fun g3 => ?_) (fun g3 => ?_)
          · have g3 : 0 ≤ (bestL fuel but (l.take i)).1 := by have := of_decide_eq_false g3; omega
            simp only [go_sem, s26_6, s26_5, s26_4, ↓reduceIte, reduceCtorEq, Nat.reduceEqDiff, Nat.reduceAdd, Nat.reduceSub, Nat.reduceMul, Nat.reduceLT, Nat.reduceLeDiff, Int.reduceToNat]
            refine twoQ_at (fun g4 => ?_) (fun g4 => ?_)
            · have g4 : fuel.getD x.toNat 0 + p < (bestL fuel but (l.take i)).1 := of_decide_eq_true g4
              simp only [go_sem, s26_3, s26_2, hwr, ↓reduceIte, reduceCtorEq, Nat.reduceEqDiff, Nat.reduceAdd, Nat.reduceSub, Nat.reduceMul, Nat.reduceLT, Nat.reduceLeDiff, Int.reduceToNat]
              refine ⟨i + 1, by omega, by omega, ?_⟩
              rw [hyes ⟨g1, g2, .inr g4⟩]
              exact Weak.keep (by repeat (first | refine TmLe.cons rfl rfl ?_ | refine TmLe.cons (by simp [upd, *]) rfl ?_ | exact TmLe.nil)) (by repeat (first | refine KLe.cons (by omega) (by first | rfl | (simp [upd, *]; done) | (simp [joinK, upd, addN, ho.ren]; done)) (by first | rfl | exact IMap.bel (by assumption) | exact (NMap.im (by assumption)).bel | exact intC_bel | exact rowC_bel) ?_ | exact KLe.nil)) (by first | omega | exact Nat.le_refl _ | (dsimp only; omega)) (by first | omega | exact Nat.le_refl _ | (dsimp only; omega))
            · have g4 : ¬ fuel.getD x.toNat 0 + p < (bestL fuel but (l.take i)).1 := of_decide_eq_false g4
              simp only [go_sem, s26_2, hwr, ↓reduceIte, reduceCtorEq, Nat.reduceEqDiff, Nat.reduceAdd, Nat.reduceSub, Nat.reduceMul, Nat.reduceLT, Nat.reduceLeDiff, Int.reduceToNat]
              refine ⟨i + 1, by omega, by omega, ?_⟩
              rw [hno (by omega)]
              exact Weak.keep (by repeat (first | refine TmLe.cons rfl rfl ?_ | refine TmLe.cons (by simp [upd, *]) rfl ?_ | exact TmLe.nil)) (by repeat (first | refine KLe.cons (by omega) (by first | rfl | (simp [upd, *]; done) | (simp [joinK, upd, addN, ho.ren]; done)) (by first | rfl | exact IMap.bel (by assumption) | exact (NMap.im (by assumption)).bel | exact intC_bel | exact rowC_bel) ?_ | exact KLe.nil)) (by first | omega | exact Nat.le_refl _ | (dsimp only; omega)) (by first | omega | exact Nat.le_refl _ | (dsimp only; omega))
          · have g3 : (bestL fuel but (l.take i)).1 < 0 := by simpa using g3
            simp only [go_sem, s26_6, s26_5, s26_4, s26_3, s26_2, hwr, ↓reduceIte, reduceCtorEq, Nat.reduceEqDiff, Nat.reduceAdd, Nat.reduceSub, Nat.reduceMul, Nat.reduceLT, Nat.reduceLeDiff, Int.reduceToNat]
            refine ⟨i + 1, by omega, by omega, ?_⟩
            rw [hyes ⟨g1, g2, .inl g3⟩]
            exact Weak.keep (by repeat (first | refine TmLe.cons rfl rfl ?_ | refine TmLe.cons (by simp [upd, *]) rfl ?_ | exact TmLe.nil)) (by repeat (first | refine KLe.cons (by omega) (by first | rfl | (simp [upd, *]; done) | (simp [joinK, upd, addN, ho.ren]; done)) (by first | rfl | exact IMap.bel (by assumption) | exact (NMap.im (by assumption)).bel | exact intC_bel | exact rowC_bel) ?_ | exact KLe.nil)) (by first | omega | exact Nat.le_refl _ | (dsimp only; omega)) (by first | omega | exact Nat.le_refl _ | (dsimp only; omega))
        · have g2 : ¬ 0 ≤ fuel.getD x.toNat 0 := by simpa using g2
          simp only [go_sem, s26_7, s26_6, s26_5, s26_4, s26_2, hwr, ↓reduceIte, reduceCtorEq, Nat.reduceEqDiff, Nat.reduceAdd, Nat.reduceSub, Nat.reduceMul, Nat.reduceLT, Nat.reduceLeDiff, Int.reduceToNat]
          refine ⟨i + 1, by omega, by omega, ?_⟩
          rw [hno (by omega)]
          exact Weak.keep (by repeat (first | refine TmLe.cons rfl rfl ?_ | refine TmLe.cons (by simp [upd, *]) rfl ?_ | exact TmLe.nil)) (by repeat (first | refine KLe.cons (by omega) (by first | rfl | (simp [upd, *]; done) | (simp [joinK, upd, addN, ho.ren]; done)) (by first | rfl | exact IMap.bel (by assumption) | exact (NMap.im (by assumption)).bel | exact intC_bel | exact rowC_bel) ?_ | exact KLe.nil)) (by first | omega | exact Nat.le_refl _ | (dsimp only; omega)) (by first | omega | exact Nat.le_refl _ | (dsimp only; omega))
      · have g1 : x = but := by simpa using g1
        simp only [go_sem, s26_8, s26_7, s26_6, s26_5, s26_4, s26_2, hwr, ↓reduceIte, reduceCtorEq, Nat.reduceEqDiff, Nat.reduceAdd, Nat.reduceSub, Nat.reduceMul, Nat.reduceLT, Nat.reduceLeDiff, Int.reduceToNat]
        refine ⟨i + 1, by omega, by omega, ?_⟩
        rw [hno (by omega)]
        exact Weak.keep (by repeat (first | refine TmLe.cons rfl rfl ?_ | refine TmLe.cons (by simp [upd, *]) rfl ?_ | exact TmLe.nil)) (by repeat (first | refine KLe.cons (by omega) (by first | rfl | (simp [upd, *]; done) | (simp [joinK, upd, addN, ho.ren]; done)) (by first | rfl | exact IMap.bel (by assumption) | exact (NMap.im (by assumption)).bel | exact intC_bel | exact rowC_bel) ?_ | exact KLe.nil)) (by first | omega | exact Nat.le_refl _ | (dsimp only; omega)) (by first | omega | exact Nat.le_refl _ | (dsimp only; omega))
    · have hi' : i = l.length := by have := of_decide_eq_false q; omega
      subst hi'
      simp only [go_sem, s26_1, List.take_length, ↓reduceIte, reduceCtorEq, Nat.reduceEqDiff, Nat.reduceAdd, Nat.reduceSub, Nat.reduceMul, Nat.reduceLT, Nat.reduceLeDiff, Int.reduceToNat]
      rfl
end Go.Proofs.Yticflcpmlbaafaa.AL

/- Energy: the graph of moves. -/
set_option linter.unusedSimpArgs false
set_option linter.unusedVariables false
namespace Go.Proofs.Yticflcpmlbaafaa.AL
open Go
variable {s : SiteD} {f : FloorD}

def stepR (x : Int × Int) : List R := [.val (.int .i64 x.1), .val (.int .i64 x.2)]
def boolR (b : Bool) : List R := [.val (.bool b)]

structure GI (s : SiteD) (K : KMap) (N bx ro ri rh bo n : Nat) (O : Nat → List (Int × Int)) (I : Nat → List Int) (H : List Bool) (VO VI : Nat → Nat) : Prop where
  p0 : 0 < bx ∧ 0 < ro ∧ 0 < ri ∧ 0 < rh
  p1 : bx ≠ ro ∧ bx ≠ ri ∧ bx ≠ rh ∧ ro ≠ ri ∧ ro ≠ rh ∧ ri ≠ rh
  p2 : bx < bo ∧ ro < bo ∧ ri < bo ∧ rh < bo
  p3 : bo + n + n ≤ N
  k0 : K 0 = some (.row 0 9 [encSite s])
  kb : K bx = some (.row 0 3 [[.own ro 0 0 n, .own ri 0 0 n, .own rh 0 0 n]])
  ko : K ro = some (.row 0 1 (ownRow bo VO (fun i => (O i).length) n))
  ki : K ri = some (.row 0 1 (ownRow (bo + n) VI (fun i => (I i).length) n))
  kh : K rh = some (.row 0 1 (rowC boolR H))
  lh : H.length = n
  eo : ∀ i, i < n → K (bo + i) = some (.row (VO i) 2 (rowC stepR (O i)))
  ei : ∀ i, i < n → K (bo + n + i) = some (.row (VI i) 1 (intC (I i)))

variable {K : KMap} {N bx ro ri rh bo n : Nat} {O : Nat → List (Int × Int)} {I : Nat → List Int} {H : List Bool} {VO VI : Nat → Nat}

theorem GI.putO (h : GI s K N bx ro ri rh bo n O I H VO VI) {K' : KMap} {N' c : Nat} (hc : c < n) (x : Int × Int) (hN : N ≤ N')
    (h1 : K' ro = some (.row 0 1 ((ownRow bo VO (fun i => (O i).length) n).set c [.own (bo + c) (VO c + 1) 0 ((O c).length + 1)])))
    (h2 : K' (bo + c) = some (.row (VO c + 1) 2 (rowC stepR (O c ++ [x]))))
    (h3 : ∀ i, i < N → i ≠ ro → i ≠ bo + c → K' i = K i) :
    GI s K' N' bx ro ri rh bo n (fun i => if i = c then O c ++ [x] else O i) I H (fun i => if i = c then VO c + 1 else VO i) VI := by
  have ⟨a1, a2, a3, a4⟩ := h.p0
  have ⟨b1, b2, b3, b4, b5, b6⟩ := h.p1
  have ⟨c1, c2, c3, c4⟩ := h.p2
  have hp3 := h.p3
  refine ⟨h.p0, h.p1, h.p2, by omega, ?_, ?_, ?_, ?_, ?_, h.lh, fun i hi => ?_, fun i hi => ?_⟩
  · rw [h3 _ (by omega) (by omega) (by omega)]; exact h.k0
  · rw [h3 _ (by omega) (by omega) (by omega)]; exact h.kb
  · rw [h1, ownRow_set hc]
    congr 2
    unfold ownRow
    refine List.map_congr_left fun i _ => ?_
    by_cases e : i = c
    · subst e; simp
    · simp [e]
  · rw [h3 _ (by omega) (by omega) (by omega)]; exact h.ki
  · rw [h3 _ (by omega) (by omega) (by omega)]; exact h.kh
  · by_cases e : i = c
    · subst e; simp [h2]
    · rw [h3 _ (by omega) (by omega) (by omega)]; simpa [e] using h.eo i hi
  · rw [h3 _ (by omega) (by omega) (by omega)]; exact h.ei i hi

theorem GI.putI (h : GI s K N bx ro ri rh bo n O I H VO VI) {K' : KMap} {N' c : Nat} (hc : c < n) (x : Int) (hN : N ≤ N')
    (h1 : K' ri = some (.row 0 1 ((ownRow (bo + n) VI (fun i => (I i).length) n).set c [.own (bo + n + c) (VI c + 1) 0 ((I c).length + 1)])))
    (h2 : K' (bo + n + c) = some (.row (VI c + 1) 1 (intC (I c ++ [x]))))
    (h3 : ∀ i, i < N → i ≠ ri → i ≠ bo + n + c → K' i = K i) :
    GI s K' N' bx ro ri rh bo n O (fun i => if i = c then I c ++ [x] else I i) H VO (fun i => if i = c then VI c + 1 else VI i) := by
  have ⟨a1, a2, a3, a4⟩ := h.p0
  have ⟨b1, b2, b3, b4, b5, b6⟩ := h.p1
  have ⟨c1, c2, c3, c4⟩ := h.p2
  have hp3 := h.p3
  refine ⟨h.p0, h.p1, h.p2, by omega, ?_, ?_, ?_, ?_, ?_, h.lh, fun i hi => ?_, fun i hi => ?_⟩
  · rw [h3 _ (by omega) (by omega) (by omega)]; exact h.k0
  · rw [h3 _ (by omega) (by omega) (by omega)]; exact h.kb
  · rw [h3 _ (by omega) (by omega) (by omega)]; exact h.ko
  · rw [h1, ownRow_set hc]
    congr 2
    unfold ownRow
    refine List.map_congr_left fun i _ => ?_
    by_cases e : i = c
    · subst e; simp
    · simp [e]
  · rw [h3 _ (by omega) (by omega) (by omega)]; exact h.kh
  · rw [h3 _ (by omega) (by omega) (by omega)]; exact h.eo i hi
  · by_cases e : i = c
    · subst e; simp [h2]
    · rw [h3 _ (by omega) (by omega) (by omega)]; simpa [e] using h.ei i hi

theorem GI.putH (h : GI s K N bx ro ri rh bo n O I H VO VI) {K' : KMap} {N' c : Nat} (hc : c < n) (b : Bool) (hN : N ≤ N')
    (h1 : K' rh = some (.row 0 1 ((rowC boolR H).set c [cV (.bool b)])))
    (h3 : ∀ i, i < N → i ≠ rh → K' i = K i) :
    GI s K' N' bx ro ri rh bo n O I (H.set c b) VO VI := by
  have ⟨a1, a2, a3, a4⟩ := h.p0
  have ⟨b1, b2, b3, b4, b5, b6⟩ := h.p1
  have ⟨c1, c2, c3, c4⟩ := h.p2
  have hp3 := h.p3
  refine ⟨h.p0, h.p1, h.p2, by omega, ?_, ?_, ?_, ?_, ?_, by rw [List.length_set]; exact h.lh, fun i hi => ?_, fun i hi => ?_⟩
  · rw [h3 _ (by omega) (by omega)]; exact h.k0
  · rw [h3 _ (by omega) (by omega)]; exact h.kb
  · rw [h3 _ (by omega) (by omega)]; exact h.ko
  · rw [h3 _ (by omega) (by omega)]; exact h.ki
  · rw [h1]; simp [rowC, List.map_set, boolR]
  · rw [h3 _ (by omega) (by omega)]; exact h.eo i hi
  · rw [h3 _ (by omega) (by omega)]; exact h.ei i hi

theorem f18_out (h : GI s K N bx ro ri rh bo n O I H VO VI) (hz : ZonesOk s) (hs : SpeedOk s) {tm : Nat → Option T} {c : Nat} {d x : Int} {Q : XE → St → Prop} (hc : c < n) (hl : (O c).length ≤ 1000000)
    (t2 : tm 2 = some (tC (.ptr 0 0 0 0))) (t6 : tm 6 = some (tC (.ptr bx 0 0 0))) (t7 : tm 7 = some (tI c)) (t8 : tm 8 = some (tI d)) (t9 : tm 9 = some (tI x))
    (hR : ∀ tm' K' N', (∀ i, i < 54 → tm' i = tm i) → GI s K' N' bx ro ri rh bo n (fun i => if i = c then O c ++ [(x, priceF s d x)] else O i) I H (fun i => if i = c then VO c + 1 else VO i) VI → awp Try.prog 0 s18_4 ⟨tm', K', N'⟩ Q) :
    awp Try.prog 0 s18_9 ⟨tm, K, N⟩ Q := by
  have ⟨a1, a2, a3, a4⟩ := h.p0
  have ⟨b1, b2, b3, b4, b5, b6⟩ := h.p1
  have ⟨c1, c2, c3, c4⟩ := h.p2
  have hp3 := h.p3
  have k0 := h.k0
  have kb := h.kb
  have ko := h.ko
  have eo := h.eo c hc
  simp only [go_sem, s18_9, t2, t6, t7, t8, t9, k0, kb, ko, ownRow_len, ownRow_at hc, Int.toNat_natCast, enc_len, enc_take, Nat.le_refl, true_and, ↓reduceIte, reduceCtorEq, Nat.reduceEqDiff, Nat.reduceAdd, Nat.reduceSub, Nat.reduceMul, Nat.reduceLT, Nat.reduceLeDiff, Int.reduceToNat]
  have e1 : (bo + c = N) = False := eq_false (by omega)
  have e2 : (ro = bo + c) = False := eq_false (by omega)
  have e3 : (ro = N) = False := eq_false (by omega)
  have e4 : (bx = bo + c) = False := eq_false (by omega)
  have e5 : (bx = N) = False := eq_false (by omega)
  refine ⟨?_, ?_, ?_, ?_⟩
  all_goals
    refine ⟨⟨by omega, by omega⟩, hc, Pure.callS (f10 hz hs d x) rfl ?_⟩
    simp only [go_sem, s18_5, s18_6, s18_7, s18_8, t2, t6, t7, t8, t9, k0, kb, ko, eo, ownRow_len, ownRow_at hc, Int.toNat_natCast, evAppend, srcRows, rowsOf, rowC_len, e1, e2, e3, e4, e5, ↓reduceIte, reduceCtorEq, Nat.reduceEqDiff, Nat.reduceAdd, Nat.reduceSub, Nat.reduceMul, Nat.reduceLT, Nat.reduceLeDiff, Int.reduceToNat]
    refine ⟨⟨by omega, by omega⟩, ⟨by omega, by omega, Nat.le_refl _⟩, hc, hR _ _ _ (fun i hi => ?_) (h.putO hc (x, priceF s d x) (by omega) ?_ ?_ (fun i h1 h2 h3 => ?_))⟩
    · repeat rw [upd_ne _ _ (by omega)]
    · rw [upd_self]
    · rw [upd_ne _ _ (by omega), upd_self]
      simp [rowC, stepR]
    · rw [upd_ne _ _ h2, upd_ne _ _ h3, upd_ne _ _ (by omega)]

theorem f18_in (h : GI s K N bx ro ri rh bo n O I H VO VI) {tm : Nat → Option T} {c x : Nat} {Q : XE → St → Prop} (hx : x < n) (hl : (I x).length ≤ 1000000)
    (t6 : tm 6 = some (tC (.ptr bx 0 0 0))) (t7 : tm 7 = some (tI c)) (t9 : tm 9 = some (tI x))
    (hR : ∀ tm' K' N', (∀ i, i < 54 → tm' i = tm i) → GI s K' N' bx ro ri rh bo n O (fun i => if i = x then I x ++ [(c : Int)] else I i) H VO (fun i => if i = x then VI x + 1 else VI i) → Q .normal ⟨tm', K', N'⟩) :
    awp Try.prog 0 s18_4 ⟨tm, K, N⟩ Q := by
  have ⟨a1, a2, a3, a4⟩ := h.p0
  have ⟨b1, b2, b3, b4, b5, b6⟩ := h.p1
  have ⟨c1, c2, c3, c4⟩ := h.p2
  have hp3 := h.p3
  have kb := h.kb
  have ki := h.ki
  have ei := h.ei x hx
  have e1 : (bo + n + x = N) = False := eq_false (by omega)
  have e2 : (ri = bo + n + x) = False := eq_false (by omega)
  have e3 : (ri = N) = False := eq_false (by omega)
  have e4 : (bx = bo + n + x) = False := eq_false (by omega)
  have e5 : (bx = N) = False := eq_false (by omega)
  simp only [go_sem, s18_4, t6, t7, t9, kb, ki, ei, ownRow_len, ownRow_at hx, Int.toNat_natCast, evAppend, srcRows, rowsOf, intC_len, e1, e2, e3, e4, e5, Nat.le_refl, true_and, ↓reduceIte, reduceCtorEq, Nat.reduceEqDiff, Nat.reduceAdd, Nat.reduceSub, Nat.reduceMul, Nat.reduceLT, Nat.reduceLeDiff, Int.reduceToNat]
  refine ⟨?_, ?_, ?_, ?_⟩
  all_goals
    refine ⟨⟨by omega, by omega⟩, hx, ⟨by omega, by omega⟩, ⟨by omega, by omega⟩, hx, hR _ _ _ (fun i hi => ?_) (h.putI hx (c : Int) (by omega) ?_ ?_ (fun i h1 h2 h3 => ?_))⟩
    · repeat rw [upd_ne _ _ (by omega)]
    · rw [upd_self]
    · rw [upd_ne _ _ (by omega), upd_self]
      simp [intC]
    · rw [upd_ne _ _ h2, upd_ne _ _ h3, upd_ne _ _ (by omega)]

/-- A move of a cell in a direction, if it leads to a cell that is not blocked. -/
def edgeB (s : SiteD) (bl : List Int) (c d : Nat) : Bool := nextB s.floor c d && !decide (nextF s.floor c d ∈ bl)
def outF (s : SiteD) (bl : List Int) (c : Nat) : Nat → List (Int × Int)
  | 0 => []
  | d + 1 => outF s bl c d ++ if edgeB s bl c d then [(nextF s.floor c d, priceF s d (nextF s.floor c d))] else []
def insD (s : SiteD) (bl : List Int) (y c : Nat) (acc : List Int) : Nat → List Int
  | 0 => acc
  | d + 1 => insD s bl y c acc d ++ if edgeB s bl c d && decide (nextF s.floor c d = y) then [(c : Int)] else []
def insC (s : SiteD) (bl : List Int) (y : Nat) : Nat → List Int
  | 0 => []
  | c + 1 => insD s bl y c (insC s bl y c) 6

theorem outF_len (s : SiteD) (bl : List Int) (c d : Nat) : (outF s bl c d).length ≤ d := by
  induction d with
  | zero => simp [outF]
  | succ d ih => unfold outF; rw [List.length_append]; split <;> simp <;> omega
theorem insD_len (s : SiteD) (bl : List Int) (y c : Nat) (acc : List Int) (d : Nat) : (insD s bl y c acc d).length ≤ acc.length + d := by
  induction d with
  | zero => simp [insD]
  | succ d ih => unfold insD; rw [List.length_append]; split <;> simp <;> omega
theorem insC_len (s : SiteD) (bl : List Int) (y c : Nat) : (insC s bl y c).length ≤ 6 * c := by
  induction c with
  | zero => simp [insC]
  | succ c ih => have := insD_len s bl y c (insC s bl y c) 6; unfold insC; omega

theorem next_b (h : FloorOk f) {c d : Int} (hb : nextB f c d = true) : (0 ≤ c ∧ c < f.n) ∧ (0 ≤ d ∧ d < 6) ∧ 0 ≤ nextF f c d ∧ nextF f c d < f.n := by
  have e : nextF f c d = besideF f c d := if_pos hb
  have hb2 : 0 ≤ besideF f c d := by
    have h2 := hb
    unfold nextB at h2
    simp only [Bool.and_eq_true] at h2
    have := h2.1.1.1.1
    simp at this
    omega
  have := beside_b h hb2
  rw [e]
  omega

/-- The state within a round of the graph's loops. -/
def OF (s : SiteD) (bl : List Int) (c d : Nat) : Nat → List (Int × Int) := fun i => if i < c then outF s bl i 6 else if i = c then outF s bl c d else []
def IF (s : SiteD) (bl : List Int) (c d : Nat) : Nat → List Int := fun y => insD s bl y c (insC s bl y c) d
def GJ (s : SiteD) (bl : List Int) (bx ro ri rh bo : Nat) (c d : Nat) (H : List Bool) (K : KMap) (N : Nat) : Prop :=
  ∃ VO VI, GI s K N bx ro ri rh bo s.floor.kind.length (OF s bl c d) (IF s bl c d) H VO VI

theorem OF_yes {bl : List Int} {c d : Nat} (e : edgeB s bl c d = true) : (fun i => if i = c then OF s bl c d c ++ [(nextF s.floor c d, priceF s d (nextF s.floor c d))] else OF s bl c d i) = OF s bl c (d + 1) := by
  funext i
  by_cases h : i = c
  · subst h; simp [OF, outF, e]
  · simp [OF, h]
theorem OF_no {bl : List Int} {c d : Nat} (e : edgeB s bl c d = false) : OF s bl c d = OF s bl c (d + 1) := by
  funext i
  simp [OF, outF, e]
theorem IF_yes {bl : List Int} {c d x : Nat} (e : edgeB s bl c d = true) (hx : nextF s.floor c d = x) : (fun i => if i = x then IF s bl c d x ++ [(c : Int)] else IF s bl c d i) = IF s bl c (d + 1) := by
  funext i
  by_cases h : i = x
  · subst h; simp [IF, insD, e, hx]
  · have h2 : ¬ (x : Int) = (i : Int) := by omega
    simp [IF, insD, e, hx, h, h2]
theorem IF_no {bl : List Int} {c d : Nat} (e : edgeB s bl c d = false) : IF s bl c d = IF s bl c (d + 1) := by
  funext i
  simp [IF, insD, e]
theorem OF_next {bl : List Int} {c : Nat} : OF s bl c 6 = OF s bl (c + 1) 0 := by
  funext i
  unfold OF
  by_cases h1 : i < c
  · rw [if_pos h1, if_pos (by omega)]
  · by_cases h2 : i = c
    · subst h2; rw [if_neg h1, if_pos rfl, if_pos (by omega)]
    · rw [if_neg h1, if_neg h2, if_neg (by omega)]; split <;> simp [outF]
theorem IF_next {bl : List Int} {c : Nat} : IF s bl c 6 = IF s bl (c + 1) 0 := by
  funext i
  rfl
end Go.Proofs.Yticflcpmlbaafaa.AL

/- Energy: the graph of moves, its loops. -/
set_option linter.unusedSimpArgs false
set_option linter.unusedVariables false
namespace Go.Proofs.Yticflcpmlbaafaa.AL
open Go
variable {s : SiteD} {f : FloorD}
variable {K : KMap} {N bx ro ri rh bo n : Nat} {O : Nat → List (Int × Int)} {I : Nat → List Int} {H : List Bool} {VO VI : Nat → Nat}

theorem enc_take5 : (encSite s).take 5 = encFloor s.floor := rfl
def g18 (bl : List Int) (bx n c : Nat) : Nat → Option T := upd (upd (upd (upd (upd (upd emp 1 (tC (.r (.rd 1 (ints bl))))) 2 (tC (.ptr 0 0 0 0))) 6 (tC (.ptr bx 0 0 0))) 7 (tI c)) 23 (tI n)) 24 (tI c)

theorem f18_inner (h0 : FloorOk s.floor) (hz : ZonesOk s) (hs : SpeedOk s) {bl : List Int} (hbl : bl.length ≤ 1000000) {c : Nat} {Q : XE → St → Prop} (hc : c < s.floor.kind.length)
    {tm : Nat → Option T} (ht : TmCut (g18 bl bx s.floor.kind.length c) tm) (hg : GJ s bl bx ro ri rh bo c 0 H K N)
    (hR : ∀ K' N', GJ s bl bx ro ri rh bo c 6 H K' N' → Q .normal ⟨upd (upd (g18 bl bx s.floor.kind.length c) 36 (tI (6 : Nat))) 37 (tB false), K', N'⟩) :
    awp Try.prog 0 s18_17 ⟨tm, K, N⟩ Q := by
  have hn2 := h0.n2
  unfold FloorD.n at hn2
  simp only [go_sem, s18_17, ↓reduceIte, reduceCtorEq, Nat.reduceEqDiff, Nat.reduceAdd, Nat.reduceSub, Nat.reduceMul, Nat.reduceLT, Nat.reduceLeDiff, Int.reduceToNat]
  refine awp_loop (fun x : Nat × KMap × Nat => ⟨upd (g18 bl bx s.floor.kind.length c) 36 (tI x.1), x.2.1, x.2.2⟩) (fun x => 6 - x.1) (fun x => x.1 ≤ 6 ∧ GJ s bl bx ro ri rh bo c x.1 H x.2.1 x.2.2) (0, K, N) ⟨Nat.zero_le _, hg⟩ ?_ ?_
  · exact Weak.cutTm (TmCut.cons rfl (.skip ht rfl))
  · rintro ⟨d, K, N⟩ ⟨hd, VO, VI, hg⟩
    simp only at hd hg
    have k0 := hg.k0
    simp only [go_sem, s18_16, g18, ↓reduceIte, reduceCtorEq, Nat.reduceEqDiff, Nat.reduceAdd, Nat.reduceSub, Nat.reduceMul, Nat.reduceLT, Nat.reduceLeDiff, Int.reduceToNat]
    refine twoQ_at (fun q => ?_) (fun q => ?_)
    · have hd' : d < 6 := by have := of_decide_eq_true q; omega
      have hwr : IntKind.i64.wrap ((d : Int) + 1) = ((d + 1 : Nat) : Int) := wrap_i (by omega) (by omega)
      have hi0 := insC_len s bl
      have hi1 := insD_len s bl
      simp only [go_sem, s18_15, k0, enc_len, enc_take5, Nat.reduceLeDiff, true_and, ↓reduceIte, reduceCtorEq, Nat.reduceEqDiff, Nat.reduceAdd, Nat.reduceSub, Nat.reduceMul, Nat.reduceLT, Nat.reduceLeDiff, Int.reduceToNat]
      refine Pure.callS (f8 h0 c d) rfl ?_
      simp only [go_sem, s18_14, s18_13, ↓reduceIte, reduceCtorEq, Nat.reduceEqDiff, Nat.reduceAdd, Nat.reduceSub, Nat.reduceMul, Nat.reduceLT, Nat.reduceLeDiff, Int.reduceToNat]
      have no : edgeB s bl c d = false → GJ s bl bx ro ri rh bo c (d + 1) H K N := fun e => by
        refine ⟨VO, VI, ?_⟩
        rw [← OF_no e, ← IF_no e]
        exact hg
      refine guardQ_at (fun g1 => ?_) (fun g1 => ?_)
      · have g1 : nextB s.floor c d = true := g1
        obtain ⟨_, _, x1, x2⟩ := next_b h0 g1
        obtain ⟨x, ex⟩ : ∃ x : Nat, nextF s.floor c d = x := ⟨(nextF s.floor c d).toNat, by omega⟩
        have hx : x < s.floor.kind.length := by unfold FloorD.n at x2; omega
        simp only [go_sem, s18_12, ↓reduceIte, reduceCtorEq, Nat.reduceEqDiff, Nat.reduceAdd, Nat.reduceSub, Nat.reduceMul, Nat.reduceLT, Nat.reduceLeDiff, Int.reduceToNat]
        refine Pure.callS (f42 bl (nextF s.floor c d) (by omega)) rfl ?_
        simp only [go_sem, s18_11, s18_10, ↓reduceIte, reduceCtorEq, Nat.reduceEqDiff, Nat.reduceAdd, Nat.reduceSub, Nat.reduceMul, Nat.reduceLT, Nat.reduceLeDiff, Int.reduceToNat]
        refine twoQ_at (fun g2 => ?_) (fun g2 => ?_)
        · have e : edgeB s bl c d = true := by unfold edgeB; rw [g1, g2]; rfl
          refine f18_out hg hz hs hc (by have := outF_len s bl c d; simp [OF]; omega) rfl rfl rfl rfl rfl (fun tm1 K1 N1 htm1 hg1 => ?_)
          rw [OF_yes e] at hg1
          refine f18_in hg1 hx (by have := hi1 x c (insC s bl x c) d; have := hi0 x c; simp only [IF]; omega) (htm1 6 (by omega)) (htm1 7 (by omega)) ((htm1 9 (by omega)).trans (by rw [← ex]; rfl)) (fun tm2 K2 N2 htm2 hg2 => ?_)
          rw [IF_yes e ex] at hg2
          have t36 : tm2 36 = some (tI d) := (htm2 36 (by omega)).trans (htm1 36 (by omega))
          have base : TmCut (g18 bl bx s.floor.kind.length c) tm2 := by
            unfold g18
            repeat (first | exact TmCut.nil | refine TmCut.cons (by rw [htm2 _ (by omega), htm1 _ (by omega)]; rfl) ?_)
          simp only [go_sem, s18_3, t36, hwr, ↓reduceIte, reduceCtorEq, Nat.reduceEqDiff, Nat.reduceAdd, Nat.reduceSub, Nat.reduceMul, Nat.reduceLT, Nat.reduceLeDiff, Int.reduceToNat]
          exact ⟨(d + 1, K2, N2), ⟨by simp only; omega, _, _, hg2⟩, by simp only; omega, Weak.cutTm (TmCut.cons rfl (.skip (.skip base rfl) rfl))⟩
        · have e : edgeB s bl c d = false := by unfold edgeB; rw [g1, g2]; rfl
          simp only [go_sem, s18_3, hwr, ↓reduceIte, reduceCtorEq, Nat.reduceEqDiff, Nat.reduceAdd, Nat.reduceSub, Nat.reduceMul, Nat.reduceLT, Nat.reduceLeDiff, Int.reduceToNat]
          refine ⟨(d + 1, K, N), ⟨by simp only; omega, no e⟩, by simp only; omega, ?_⟩
          exact Weak.cutTm (by repeat (first | refine TmCut.cons rfl ?_ | refine TmCut.cons (by simp [upd, *]; done) ?_ | exact TmCut.nil))
      · have e : edgeB s bl c d = false := by unfold edgeB; rw [show nextB s.floor c d = false from g1]; rfl
        simp only [go_sem, s18_12, s18_11, s18_10, s18_3, hwr, ↓reduceIte, reduceCtorEq, Nat.reduceEqDiff, Nat.reduceAdd, Nat.reduceSub, Nat.reduceMul, Nat.reduceLT, Nat.reduceLeDiff, Int.reduceToNat]
        refine ⟨(d + 1, K, N), ⟨by simp only; omega, no e⟩, by simp only; omega, ?_⟩
        exact Weak.cutTm (by repeat (first | refine TmCut.cons rfl ?_ | refine TmCut.cons (by simp [upd, *]; done) ?_ | exact TmCut.nil))
    · have hd' : d = 6 := by have := of_decide_eq_false q; omega
      subst hd'
      exact hR K N ⟨VO, VI, hg⟩

/-- The graph of a site. -/
def homeL (s : SiteD) (c : Nat) : List Bool := (List.range s.floor.kind.length).map fun i => decide (i < c) && decide (s.floor.kind.getD i 0 = 3)

theorem homeL_set {c : Nat} (hc : c < s.floor.kind.length) : (homeL s c).set c (decide (kindF s c = 3)) = homeL s (c + 1) := by
  refine List.ext_getElem (by simp [homeL]) fun j h1 h2 => ?_
  rw [List.getElem_set]
  by_cases e : c = j
  · subst e
    simp [homeL, kindF]
  · have e2 : (j < c + 1) ↔ (j < c) := by omega
    simp [homeL, e, e2]

def e18 (bl : List Int) (bx n : Nat) : Nat → Option T := upd (upd (upd (upd emp 1 (tC (.r (.rd 1 (ints bl))))) 2 (tC (.ptr 0 0 0 0))) 6 (tC (.ptr bx 0 0 0))) 23 (tI n)

theorem f18_outer (h0 : FloorOk s.floor) (hz : ZonesOk s) (hs : SpeedOk s) {bl : List Int} (hbl : bl.length ≤ 1000000) {Q : XE → St → Prop}
    {tm : Nat → Option T} (t1 : tm 1 = some (tC (.r (.rd 1 (ints bl))))) (t2 : tm 2 = some (tC (.ptr 0 0 0 0))) (t6 : tm 6 = some (tC (.ptr bx 0 0 0))) (t5 : tm 5 = some (tI s.floor.kind.length)) {K1 : KMap} {N1 : Nat} (hw : ∀ t, Weak 0 ⟨t, K1, N1⟩ ⟨t, K, N⟩) (hg : GJ s bl bx ro ri rh bo 0 0 (homeL s 0) K N)
    (hR : ∀ tm' K' N', tm' 4 = some (tC (.ptr bx 0 0 0)) → GJ s bl bx ro ri rh bo s.floor.kind.length 0 (homeL s s.floor.kind.length) K' N' → Q .ret ⟨tm', K', N'⟩) :
    awp Try.prog 0 s18_21 ⟨tm, K1, N1⟩ Q := by
  have hn2 := h0.n2
  unfold FloorD.n at hn2
  simp only [go_sem, s18_21, t5, ↓reduceIte, reduceCtorEq, Nat.reduceEqDiff, Nat.reduceAdd, Nat.reduceSub, Nat.reduceMul, Nat.reduceLT, Nat.reduceLeDiff, Int.reduceToNat]
  refine awp_loop (fun x : Nat × KMap × Nat => ⟨upd (e18 bl bx s.floor.kind.length) 24 (tI x.1), x.2.1, x.2.2⟩) (fun x => s.floor.kind.length - x.1) (fun x => x.1 ≤ s.floor.kind.length ∧ GJ s bl bx ro ri rh bo x.1 0 (homeL s x.1) x.2.1 x.2.2) (0, K, N) ⟨Nat.zero_le _, hg⟩ ?_ ?_
  · exact (hw _).trans <| Weak.cutTm (by unfold e18; exact TmCut.cons rfl (TmCut.cons rfl (TmCut.cons t6 (TmCut.cons t2 (TmCut.cons t1 TmCut.nil)))))
  · rintro ⟨c, K, N⟩ ⟨hc, VO, VI, hg⟩
    simp only at hc hg
    have k0 := hg.k0
    have kb := hg.kb
    have kh := hg.kh
    simp only [go_sem, s18_20, e18, ↓reduceIte, reduceCtorEq, Nat.reduceEqDiff, Nat.reduceAdd, Nat.reduceSub, Nat.reduceMul, Nat.reduceLT, Nat.reduceLeDiff, Int.reduceToNat]
    refine twoQ_at (fun q => ?_) (fun q => ?_)
    · have hc' : c < s.floor.kind.length := by have := of_decide_eq_true q; omega
      have hwr : IntKind.i64.wrap ((c : Int) + 1) = ((c + 1 : Nat) : Int) := wrap_i (by omega) (by omega)
      simp only [go_sem, s18_19, k0, kb, kh, enc_len, enc_take, Nat.le_refl, true_and, ↓reduceIte, reduceCtorEq, Nat.reduceEqDiff, Nat.reduceAdd, Nat.reduceSub, Nat.reduceMul, Nat.reduceLT, Nat.reduceLeDiff, Int.reduceToNat]
      refine Pure.callS (f23 (s := s) (c : Int) (by simp [isCellF, FloorD.n]; omega)) rfl ?_
      have hH : (homeL s c).length = s.floor.kind.length := by simp [homeL]
      simp only [go_sem, s18_18, k0, kb, kh, rowC_len, Int.toNat_natCast, hH, Nat.le_refl, and_true, ↓reduceIte, reduceCtorEq, Nat.reduceEqDiff, Nat.reduceAdd, Nat.reduceSub, Nat.reduceMul, Nat.reduceLT, Nat.reduceLeDiff, Int.reduceToNat]
      have hdrop : ((rowC boolR (homeL s c)).getD c []).drop 1 = [] := by
        rw [rowC_at (by omega)]; rfl
      refine ⟨⟨by omega, by omega⟩, hc', ?_⟩
      refine f18_inner h0 hz hs hbl hc' ?_ (bx := bx) (ro := ro) (ri := ri) (rh := rh) (bo := bo) (H := homeL s (c + 1)) ⟨VO, VI, ?_⟩ (fun K' N' hg' => ?_)
      · unfold g18
        repeat (first | exact TmCut.nil | refine TmCut.cons rfl ?_)
      · rw [← homeL_set hc']
        refine hg.putH hc' _ (Nat.le_refl _) ?_ (fun i h1 h2 => upd_ne _ _ h2)
        rw [upd_self, hdrop]
      · simp only [go_sem, s18_2, g18, hwr, ↓reduceIte, reduceCtorEq, Nat.reduceEqDiff, Nat.reduceAdd, Nat.reduceSub, Nat.reduceMul, Nat.reduceLT, Nat.reduceLeDiff, Int.reduceToNat]
        refine ⟨(c + 1, K', N'), ⟨by simp only; omega, ?_⟩, by simp only; omega, ?_⟩
        · obtain ⟨VO', VI', h'⟩ := hg'
          rw [OF_next, IF_next] at h'
          exact ⟨VO', VI', h'⟩
        · exact Weak.cutTm (by repeat (first | refine TmCut.cons rfl ?_ | refine TmCut.cons (by simp [upd, *]; done) ?_ | exact TmCut.nil))
    · have hc' : c = s.floor.kind.length := by have := of_decide_eq_false q; omega
      subst hc'
      simp only [go_sem, s18_1, ↓reduceIte, reduceCtorEq, Nat.reduceEqDiff, Nat.reduceAdd, Nat.reduceSub, Nat.reduceMul, Nat.reduceLT, Nat.reduceLeDiff, Int.reduceToNat]
      exact hR _ K N rfl ⟨VO, VI, hg⟩

/-- A graph as own objects under its own names: the box 0, its rows 1, 2, 3, the lists from 4 on. -/
def KG (n : Nat) (O : Nat → List (Int × Int)) (I : Nat → List Int) (H : List Bool) (VO VI : Nat → Nat) : KMap := fun i =>
  if i = 0 then some (.row 0 3 [[.own 1 0 0 n, .own 2 0 0 n, .own 3 0 0 n]])
  else if i = 1 then some (.row 0 1 (ownRow 4 VO (fun i => (O i).length) n))
  else if i = 2 then some (.row 0 1 (ownRow (4 + n) VI (fun i => (I i).length) n))
  else if i = 3 then some (.row 0 1 (rowC boolR H))
  else if i < 4 + n then some (.row (VO (i - 4)) 2 (rowC stepR (O (i - 4))))
  else if i < 4 + n + n then some (.row (VI (i - 4 - n)) 1 (intC (I (i - 4 - n))))
  else none

def idsG (bx ro ri rh bo n : Nat) : List Nat := bx :: ro :: ri :: rh :: (List.range (n + n)).map fun i => bo + i
theorem idsG_len : (idsG bx ro ri rh bo n).length = 4 + n + n := by simp [idsG]; omega
theorem idsG_at {i : Nat} (h : i < n + n) : (idsG bx ro ri rh bo n).getD (4 + i) 0 = bo + i := by
  unfold idsG
  rw [show 4 + i = i + 4 from Nat.add_comm _ _]
  simp [h]
theorem ownRow_ren {b b' m : Nat} {V L : Nat → Nat} {τ : Nat → Nat} (h : ∀ i, i < m → τ (b + i) = b' + i) : (ownRow b V L m).map (List.map (C.ren τ)) = ownRow b' V L m := by
  unfold ownRow
  rw [List.map_map]
  refine List.map_congr_left fun i hi => ?_
  simp only [List.mem_range] at hi
  simp [C.ren, h i hi]

theorem ownRow_bel {b m N v : Nat} {V L : Nat → Nat} (h : b + m ≤ N) : (AObj.row v 1 (ownRow b V L m)).below N = true := by
  simp [AObj.below, ownRow, C.below]
  intro i hi
  omega

theorem GI.back (h : GI s K N bx ro ri rh bo n O I H VO VI) {st : St} (hst : st.K = K) : Back 0 st (tC (.ptr bx 0 0 0)) (tC (.ptr 0 0 0 0)) (KG n O I H VO VI) (4 + n + n) (fun i => (idsG bx ro ri rh bo n).getD i 0) := by
  have ⟨a1, a2, a3, a4⟩ := h.p0
  have ⟨b1, b2, b3, b4, b5, b6⟩ := h.p1
  have ⟨c1, c2, c3, c4⟩ := h.p2
  have hb := Back.list (st := st) (d := tC (.ptr bx 0 0 0)) (d' := tC (.ptr 0 0 0 0)) (idsG bx ro ri rh bo n) (KG n O I H VO VI) ?_ (fun i o hk => ?_) (by rw [idsG_len]; simp [T.below, V.below, C.below]; omega) rfl
  · rw [idsG_len] at hb
    exact hb
  · unfold idsG
    have hnd : ((List.range (n + n)).map fun i => bo + i).Nodup := List.Pairwise.map _ (fun a b h e => h (by omega)) List.nodup_range
    simp only [List.nodup_cons, List.mem_cons, List.mem_map, List.mem_range, not_or, not_exists, not_and]
    refine ⟨⟨b1, b2, b3, fun x _ => by omega⟩, ⟨b4, b5, fun x _ => by omega⟩, ⟨b6, fun x _ => by omega⟩, fun x _ => by omega, hnd⟩
  · rw [idsG_len, hst]
    unfold KG at hk
    split at hk
    · rename_i e; subst e; cases hk
      exact ⟨by omega, by simp [AObj.below, C.below]; omega, h.kb⟩
    · split at hk
      · rename_i e; subst e; cases hk
        refine ⟨by omega, ownRow_bel (by omega), ?_⟩
        have e := ownRow_ren (b := 4) (b' := bo) (m := n) (V := VO) (L := fun i => (O i).length) (τ := fun i => (idsG bx ro ri rh bo n).getD i 0) (fun i hi => idsG_at (by omega))
        exact h.ko.trans (by simp only [AObj.ren]; rw [← e])
      · split at hk
        · rename_i e; subst e; cases hk
          refine ⟨by omega, ownRow_bel (by omega), ?_⟩
          have e := ownRow_ren (b := 4 + n) (b' := bo + n) (m := n) (V := VI) (L := fun i => (I i).length) (τ := fun i => (idsG bx ro ri rh bo n).getD i 0) (fun i hi => by
            have := idsG_at (bx := bx) (ro := ro) (ri := ri) (rh := rh) (bo := bo) (n := n) (i := n + i) (by omega)
            rw [show 4 + n + i = 4 + (n + i) by omega, this]; omega)
          exact h.ki.trans (by simp only [AObj.ren]; rw [← e])
        · split at hk
          · rename_i e; subst e; cases hk
            exact ⟨by omega, rowC_bel, by rw [rowC_ren]; exact h.kh⟩
          · split at hk
            · cases hk
              have e := idsG_at (bx := bx) (ro := ro) (ri := ri) (rh := rh) (bo := bo) (n := n) (i := i - 4) (by omega)
              rw [show 4 + (i - 4) = i by omega] at e
              exact ⟨by omega, rowC_bel, by rw [rowC_ren, e]; exact h.eo (i - 4) (by omega)⟩
            · split at hk
              · cases hk
                have e := idsG_at (bx := bx) (ro := ro) (ri := ri) (rh := rh) (bo := bo) (n := n) (i := i - 4) (by omega)
                rw [show 4 + (i - 4) = i by omega] at e
                refine ⟨by omega, intC_bel, ?_⟩
                rw [intC_ren, e, show bo + (i - 4) = bo + n + (i - 4 - n) by omega]
                exact h.ei (i - 4 - n) (by omega)
              · cases hk
end Go.Proofs.Yticflcpmlbaafaa.AL

/- Energy: newGraph. -/
set_option linter.unusedSimpArgs false
set_option linter.unusedVariables false
namespace Go.Proofs.Yticflcpmlbaafaa.AL
open Go
variable {s : SiteD} {f : FloorD}
variable {K : KMap} {N bx ro ri rh bo n : Nat}

def KGs (s : SiteD) (bl : List Int) (VO VI : Nat → Nat) : KMap := KG s.floor.kind.length (OF s bl s.floor.kind.length 0) (IF s bl s.floor.kind.length 0) (homeL s s.floor.kind.length) VO VI
def PG (s : SiteD) (bl : List Int) (d : T) (K : KMap) (N : Nat) : Prop := d = tC (.ptr 0 0 0 0) ∧ N = 4 + s.floor.kind.length + s.floor.kind.length ∧ ∃ VO VI, K = KGs s bl VO VI

theorem f18_pre (h0 : FloorOk s.floor) (hz : ZonesOk s) (hs : SpeedOk s) {bl : List Int} (hbl : bl.length ≤ 1000000) {tm : Nat → Option T}
    (p0 : 0 < bx ∧ 0 < ro ∧ 0 < ri ∧ 0 < rh) (p1 : bx ≠ ro ∧ bx ≠ ri ∧ bx ≠ rh ∧ ro ≠ ri ∧ ro ≠ rh ∧ ri ≠ rh) (p2 : bx < N ∧ ro < N ∧ ri < N ∧ rh < N)
    (k0 : K 0 = some (.row 0 9 [encSite s])) (kb : K bx = some (.row 0 3 [[.own ro 0 0 s.floor.kind.length, .own ri 0 0 s.floor.kind.length, .own rh 0 0 s.floor.kind.length]]))
    (ko : K ro = some (.row 0 1 (List.replicate s.floor.kind.length [cV nilS]))) (ki : K ri = some (.row 0 1 (List.replicate s.floor.kind.length [cV nilS]))) (kh : K rh = some (.row 0 1 (List.replicate s.floor.kind.length [cV (.bool false)])))
    (t1 : tm 1 = some (tC (.r (.rd 1 (ints bl))))) (t2 : tm 2 = some (tC (.ptr 0 0 0 0))) (t5 : tm 5 = some (tI s.floor.kind.length)) (t6 : tm 6 = some (tC (.ptr bx 0 0 0))) :
    awp Try.prog 0 s18_21 ⟨tm, K, N⟩ (retQ 0 [.tmp 4] (PG s bl)) := by
  have hO : OF s bl 0 0 = fun _ => [] := by funext i; simp [OF, outF]
  have hI : IF s bl 0 0 = fun _ => [] := by funext i; simp [IF, insD, insC]
  have hH : homeL s 0 = List.replicate s.floor.kind.length false := by
    refine List.ext_getElem (by simp [homeL]) fun j h1 h2 => ?_
    simp [homeL]
  have main : ∃ K2, (∀ t, Weak 0 ⟨t, K, N⟩ ⟨t, K2, N + s.floor.kind.length + s.floor.kind.length⟩) ∧ GJ s bl bx ro ri rh N 0 0 (homeL s 0) K2 (N + s.floor.kind.length + s.floor.kind.length) := by
    obtain ⟨a1, a2, a3, a4⟩ := p0
    obtain ⟨b1, b2, b3, b4, b5, b6⟩ := p1
    obtain ⟨c1, c2, c3, c4⟩ := p2
    obtain ⟨K1, w1, x1, x2, x3⟩ := Weak.nilRow (N0 := 0) (N := N) ro 2 0 s.floor.kind.length ko c2
    obtain ⟨K2, w2, y1, y2, y3⟩ := Weak.nilRow (N0 := 0) (N := N + s.floor.kind.length) ri 1 0 s.floor.kind.length ((x1 ri c3 (by omega)).trans ki) (by omega)
    refine ⟨K2, fun t => (w1 t).trans (w2 t), fun _ => 0, fun _ => 0, ⟨a1, a2, a3, a4⟩, ⟨b1, b2, b3, b4, b5, b6⟩, ⟨c1, c2, c3, c4⟩, Nat.le_refl _, ?_, ?_, ?_, ?_, ?_, by rw [hH]; simp, fun i hi => ?_, fun i hi => ?_⟩
    · rw [y1 0 (by omega) (by omega), x1 0 (by omega) (by omega)]; exact k0
    · rw [y1 bx (by omega) (by omega), x1 bx (by omega) (by omega)]; exact kb
    · rw [y1 ro (by omega) (by omega), x2, hO]; rfl
    · rw [y2, hI]; rfl
    · rw [y1 rh (by omega) (by omega), x1 rh (by omega) (by omega), kh, hH]
      simp [rowC, boolR]
    · rw [y1 _ (by omega) (by omega), x3 i hi, hO]; rfl
    · rw [y3 i hi, hI]; rfl
  obtain ⟨K2, hw, hg⟩ := main
  refine f18_outer h0 hz hs hbl t1 t2 t6 t5 hw hg (fun tm' K' N' h4 ⟨VO, VI, h'⟩ => ?_)
  · simp only [go_sem, h4, ↓reduceIte, reduceCtorEq, Nat.reduceEqDiff, Nat.reduceAdd, Nat.reduceSub, Nat.reduceMul, Nat.reduceLT, Nat.reduceLeDiff, Int.reduceToNat]
    exact ⟨_, _, _, _, h'.back rfl, rfl, rfl, VO, VI, rfl⟩

theorem f18 (h0 : FloorOk s.floor) (hz : ZonesOk s) (hs : SpeedOk s) {bl : List Int} (hbl : bl.length ≤ 1000000) :
    Spec Try.prog 18 [.v (.agg (encSite s)), tC (.r (.rd 1 (ints bl)))] emp 0 (PG s bl) := by
  refine Spec.of_awp hm Try.func18 s18_ok (by simp [s18]) ?_
  have hn2 := h0.n2
  unfold FloorD.n at hn2
  simp only [go_sem, s18, encSite, ints_len, evMkslice, Int.toNat_natCast, List.map_cons, List.map_nil, ↓reduceIte, reduceCtorEq, Nat.reduceEqDiff, Nat.reduceAdd, Nat.reduceSub, Nat.reduceMul, Nat.reduceLT, Nat.reduceLeDiff, Int.reduceToNat]
  have q : ∀ k : Nat, k ≤ 24 → (0 ≤ (s.floor.kind.length : Int) ∧ (s.floor.kind.length : Int) ≤ 9223372036854775807 ∧ (k : Int) * s.floor.kind.length ≤ 140737488355328) := fun k hk => by
    refine ⟨by omega, by omega, ?_⟩
    have := Int.mul_le_mul (show (k : Int) ≤ 24 by omega) hn2 (by omega) (by omega)
    omega
  refine ⟨?_, ?_, ?_, ?_, ?_, ?_⟩
  · refine ⟨q _ (by decide), q _ (by decide), q _ (by decide), f18_pre (bx := 4) (ro := 1) (ri := 2) (rh := 3) h0 hz hs hbl (by decide) (by decide) (by decide) rfl rfl rfl rfl rfl rfl rfl rfl rfl⟩
  · refine ⟨q _ (by decide), q _ (by decide), q _ (by decide), f18_pre (bx := 4) (ro := 1) (ri := 3) (rh := 2) h0 hz hs hbl (by decide) (by decide) (by decide) rfl rfl rfl rfl rfl rfl rfl rfl rfl⟩
  · refine ⟨q _ (by decide), q _ (by decide), q _ (by decide), f18_pre (bx := 4) (ro := 2) (ri := 3) (rh := 1) h0 hz hs hbl (by decide) (by decide) (by decide) rfl rfl rfl rfl rfl rfl rfl rfl rfl⟩
  · refine ⟨q _ (by decide), q _ (by decide), q _ (by decide), f18_pre (bx := 4) (ro := 2) (ri := 1) (rh := 3) h0 hz hs hbl (by decide) (by decide) (by decide) rfl rfl rfl rfl rfl rfl rfl rfl rfl⟩
  · refine ⟨q _ (by decide), q _ (by decide), q _ (by decide), f18_pre (bx := 4) (ro := 3) (ri := 1) (rh := 2) h0 hz hs hbl (by decide) (by decide) (by decide) rfl rfl rfl rfl rfl rfl rfl rfl rfl⟩
  · refine ⟨q _ (by decide), q _ (by decide), q _ (by decide), f18_pre (bx := 4) (ro := 3) (ri := 2) (rh := 1) h0 hz hs hbl (by decide) (by decide) (by decide) rfl rfl rfl rfl rfl rfl rfl rfl rfl⟩
end Go.Proofs.Yticflcpmlbaafaa.AL

/- Energy: the plain law of the search of the best move and of settle. -/
set_option linter.unusedSimpArgs false
set_option linter.unusedVariables false
namespace Go.Proofs.Yticflcpmlbaafaa.AL
open Go

theorem foldl_inv {α β : Type} {P : List α → β → Prop} (f : β → α → β) (a0 : β) (h0 : P [] a0) (hs : ∀ l a x, P l a → P (l ++ [x]) (f a x)) (l : List α) : P l (l.foldl f a0) := by
  have gen : ∀ (l pre : List α) (a : β), P pre a → P (pre ++ l) (l.foldl f a) := by
    intro l
    induction l with
    | nil => intro pre a h; simpa using h
    | cons x l ih =>
      intro pre a h
      have := ih (pre ++ [x]) (f a x) (hs pre a x h)
      simpa using this
  exact gen l [] a0 h0

/-- A move that counts. -/
def Adm (fuel : List Int) (but : Int) (x : Int × Int) : Prop := ¬ x.1 = but ∧ 0 ≤ fuel.getD x.1.toNat 0

structure BestOk (fuel : List Int) (but : Int) (l : List (Int × Int)) (a : Int × Int) : Prop where
  no : a.1 < 0 → a = (-1, -1)
  hit : 0 ≤ a.1 → ∃ x, x ∈ l ∧ Adm fuel but x ∧ a = (fuel.getD x.1.toNat 0 + x.2, x.1)
  le : ∀ x, x ∈ l → Adm fuel but x → 0 ≤ x.2 → 0 ≤ a.1 ∧ a.1 ≤ fuel.getD x.1.toNat 0 + x.2

theorem bestL_ok (fuel : List Int) (but : Int) (l : List (Int × Int)) (hp : ∀ x, x ∈ l → 0 ≤ x.2) : BestOk fuel but l (bestL fuel but l) := by
  have h := foldl_inv (P := fun l a => (∀ x, x ∈ l → 0 ≤ x.2) → BestOk fuel but l a) (bestStep fuel but) (-1, -1) (fun _ => ⟨fun _ => rfl, fun h => by simp at h, fun x hx => by simp at hx⟩) ?_ l
  · exact h hp
  · intro l a x ih hp
    have ih := ih fun y hy => hp y (by simp [hy])
    have hx := hp x (by simp)
    unfold bestStep
    split
    · rename_i hc
      refine ⟨fun h => by simp only at h; omega, fun _ => ⟨x, by simp, ⟨hc.1, hc.2.1⟩, rfl⟩, fun y hy ha h0 => ?_⟩
      simp only [List.mem_append, List.mem_singleton] at hy
      refine ⟨by simp only; omega, ?_⟩
      rcases hy with hy | rfl
      · have := ih.le y hy ha h0
        simp only
        omega
      · exact Int.le_refl _
    · rename_i hc
      refine ⟨ih.no, fun h => ?_, fun y hy ha h0 => ?_⟩
      · obtain ⟨z, z1, z2, z3⟩ := ih.hit h
        exact ⟨z, by simp [z1], z2, z3⟩
      · simp only [List.mem_append, List.mem_singleton] at hy
        rcases hy with hy | rfl
        · exact ih.le y hy ha h0
        · have h1 := ha.1
          have h2 := ha.2
          simp only [not_and, not_or] at hc
          have := hc h1 h2
          omega

/-- The best move depends only on the fuel of the cells to which moves lead. -/
theorem bestL_congr {fuel fuel' : List Int} {but : Int} {l : List (Int × Int)} (h : ∀ x, x ∈ l → fuel.getD x.1.toNat 0 = fuel'.getD x.1.toNat 0) : bestL fuel but l = bestL fuel' but l := by
  unfold bestL
  generalize ((-1, -1) : Int × Int) = a
  induction l generalizing a with
  | nil => rfl
  | cons x l ih =>
    simp only [List.foldl_cons]
    rw [show bestStep fuel but a x = bestStep fuel' but a x by unfold bestStep; rw [h x (by simp)]]
    exact ih (fun y hy => h y (by simp [hy])) _
end Go.Proofs.Yticflcpmlbaafaa.AL

/- Energy: the plain law of settle. -/
set_option linter.unusedSimpArgs false
set_option linter.unusedVariables false
namespace Go.Proofs.Yticflcpmlbaafaa.AL
open Go

structure GrOk (g : GrD) (n : Nat) (P : Int) : Prop where
  lo : g.out.length = n
  li : g.ins.length = n
  lh : g.home.length = n
  p1 : 1 ≤ P
  st : ∀ c, c < n → ∀ x, x ∈ g.out.getD c [] → (0 ≤ x.1 ∧ x.1 < n) ∧ 1 ≤ x.2 ∧ x.2 ≤ P ∧ (c : Int) ∈ g.ins.getD x.1.toNat []
  inr : ∀ y, y < n → ∀ c, c ∈ g.ins.getD y [] → 0 ≤ c ∧ c < n
  ol : ∀ c, c < n → (g.out.getD c []).length ≤ 1000
  il : ∀ y, y < n → (g.ins.getD y []).length ≤ 1000000

def bst (g : GrD) (but : Int) (F : List Int) (c : Nat) : Int := (bestL F but (g.out.getD c [])).1
def negs (F : List Int) : Nat := F.countP fun v => decide (v < 0)

/-- What settle keeps: pend are the cells that may have to be looked at. -/
structure SetI (g : GrD) (n : Nat) (P B : Int) (but : Int) (free : Nat → Prop) (F0 F : List Int) (pend : Nat → Prop) : Prop where
  len : F.length = n
  lo : ∀ c, c < n → -1 ≤ F.getD c 0
  up : ∀ c, c < n → 0 ≤ F.getD c 0 → F.getD c 0 + P * negs F ≤ B
  i1 : ∀ c, c < n → free c → 0 ≤ F.getD c 0 → 0 ≤ bst g but F c ∧ bst g but F c ≤ F.getD c 0
  i2 : ∀ c, c < n → free c → 0 ≤ bst g but F c → (F.getD c 0 < 0 ∨ bst g but F c < F.getD c 0) → pend c
  fr : ∀ c, c < n → ¬ free c → F.getD c 0 = F0.getD c 0

theorem set_at {F : List Int} {c d : Nat} {v : Int} (hc : c < F.length) : (F.set c v).getD d 0 = if d = c then v else F.getD d 0 := by
  by_cases e : d = c
  · subst e; simp [hc]
  · have e' : ¬ c = d := fun h => e h.symm
    simp [List.getD_eq_getElem?_getD, List.getElem?_set, e, e']

theorem negs_set {F : List Int} {c : Nat} {v : Int} (hc : c < F.length) (hv : 0 ≤ v) : negs (F.set c v) + (if F.getD c 0 < 0 then 1 else 0) = negs F := by
  induction F generalizing c with
  | nil => simp at hc
  | cons x l ih =>
    cases c with
    | zero =>
      have : ¬ v < 0 := by omega
      by_cases hx : x < 0 <;> simp [negs, List.countP_cons, this, hx]
    | succ c =>
      have := ih (c := c) (by simpa using hc)
      simp only [negs, List.set_cons_succ, List.countP_cons, List.getD_cons_succ] at this ⊢
      omega

def wt (B : Int) (v : Int) : Nat := if v < 0 then B.toNat + 1 else v.toNat
def pot (B : Int) (F : List Int) : Nat := (F.map (wt B)).sum

theorem pot_set {B : Int} {F : List Int} {c : Nat} {v : Int} (hc : c < F.length) (h : wt B v < wt B (F.getD c 0)) : pot B (F.set c v) < pot B F := by
  induction F generalizing c with
  | nil => simp at hc
  | cons x l ih =>
    cases c with
    | zero => simpa [pot] using h
    | succ c =>
      have := ih (c := c) (by simpa using hc) (by simpa using h)
      simp only [pot, List.set_cons_succ, List.map_cons, List.sum_cons] at this ⊢
      omega

variable {g : GrD} {n : Nat} {P B but : Int} {free : Nat → Prop} {F0 F : List Int} {pend : Nat → Prop}

theorem GrOk.pos (hg : GrOk g n P) {c : Nat} (hc : c < n) : ∀ x, x ∈ g.out.getD c [] → 0 ≤ x.2 := fun x hx => by
  have := (hg.st c hc x hx).2.1
  omega

/-- Less fuel, less best. -/
theorem bst_mono (hg : GrOk g n P) {F F' : List Int} (hm : ∀ x : Nat, x < n → 0 ≤ F.getD x 0 → 0 ≤ F'.getD x 0 ∧ F'.getD x 0 ≤ F.getD x 0) {c : Nat} (hc : c < n) (h : 0 ≤ bst g but F c) : 0 ≤ bst g but F' c ∧ bst g but F' c ≤ bst g but F c := by
  have b1 := bestL_ok F but _ (hg.pos hc)
  have b2 := bestL_ok F' but _ (hg.pos hc)
  obtain ⟨x, x1, x2, x3⟩ := b1.hit h
  obtain ⟨⟨s1, s2⟩, s3, s4, s5⟩ := hg.st c hc x x1
  obtain ⟨m1, m2⟩ := hm x.1.toNat (by omega) x2.2
  have := b2.le x x1 ⟨x2.1, m1⟩ (by omega)
  have e : bst g but F c = F.getD x.1.toNat 0 + x.2 := by unfold bst; rw [x3]
  refine ⟨this.1, ?_⟩
  rw [e]
  exact Int.le_trans this.2 (by omega)

theorem SetI.step (h : SetI g n P B but free F0 F pend) (hg : GrOk g n P) {c : Nat} (hc : c < n) (hf : free c) (hb : 0 ≤ bst g but F c) (hv : F.getD c 0 < 0 ∨ bst g but F c < F.getD c 0) :
    SetI g n P B but free F0 (F.set c (bst g but F c)) (fun d => (pend d ∧ d ≠ c) ∨ (d : Int) ∈ g.ins.getD c []) ∧ pot B (F.set c (bst g but F c)) < pot B F := by
  have hcl : c < F.length := by rw [h.len]; exact hc
  have hat := fun d => set_at (F := F) (d := d) (v := bst g but F c) hcl
  have hneg := negs_set (F := F) (v := bst g but F c) hcl hb
  have hp1 := hg.p1
  have hmono : ∀ x : Nat, x < n → 0 ≤ F.getD x 0 → 0 ≤ (F.set c (bst g but F c)).getD x 0 ∧ (F.set c (bst g but F c)).getD x 0 ≤ F.getD x 0 := by
    intro x hx h0
    rw [hat]
    split
    · rename_i e; subst e; omega
    · omega
  have hbound : bst g but F c + P * negs (F.set c (bst g but F c)) ≤ B := by
    by_cases h0 : F.getD c 0 < 0
    · obtain ⟨x, x1, x2, x3⟩ := (bestL_ok F but _ (hg.pos hc)).hit hb
      obtain ⟨⟨s1, s2⟩, s3, s4, s5⟩ := hg.st c hc x x1
      have hu := h.up x.1.toNat (by omega) x2.2
      have e : bst g but F c = F.getD x.1.toNat 0 + x.2 := by
        have : bst g but F c = (bestL F but (g.out.getD c [])).1 := rfl
        rw [this, x3]
      rw [if_pos h0] at hneg
      have e2 : P * (negs F : Int) = P * negs (F.set c (bst g but F c)) + P := by
        rw [show (negs F : Int) = negs (F.set c (bst g but F c)) + 1 by omega, Int.mul_add, Int.mul_one]
      omega
    · have := h.up c hc (by omega)
      rw [if_neg h0] at hneg
      rw [show (negs (F.set c (bst g but F c)) : Int) = negs F by omega]
      omega
  refine ⟨⟨by rw [List.length_set]; exact h.len, fun d hd => ?_, fun d hd h0 => ?_, fun d hd hfd h0 => ?_, fun d hd hfd h0 h1 => ?_, fun d hd hfd => ?_⟩, pot_set hcl ?_⟩
  · rw [hat]; split
    · omega
    · exact h.lo d hd
  · rw [hat] at h0 ⊢
    split at h0
    · rename_i e
      rw [if_pos e]; exact hbound
    · rename_i e
      rw [if_neg e]
      have := h.up d hd h0
      have hle : P * negs (F.set c (bst g but F c)) ≤ P * negs F := Int.mul_le_mul_of_nonneg_left (by split at hneg <;> omega) (by omega)
      omega
  · rw [hat] at h0 ⊢
    split at h0
    · rename_i e
      subst e
      rw [if_pos rfl]
      exact bst_mono hg hmono hc hb
    · rename_i e
      rw [if_neg e]
      obtain ⟨j1, j2⟩ := h.i1 d hd hfd h0
      have := bst_mono (but := but) hg hmono hd j1
      omega
  · by_cases ht : (d : Int) ∈ g.ins.getD c []
    · exact .inr ht
    · have e : bst g but (F.set c (bst g but F c)) d = bst g but F d := by
        unfold bst
        rw [bestL_congr (fuel := F.set c _) (fuel' := F) fun x hx => ?_]
        obtain ⟨_, _, _, s5⟩ := hg.st d hd x hx
        rw [set_at hcl, if_neg]
        intro e
        rw [e] at s5
        exact ht s5
      rw [e] at h0 h1
      rw [hat] at h1
      by_cases ed : d = c
      · subst ed
        rw [if_pos rfl] at h1
        omega
      · rw [if_neg ed] at h1
        exact .inl ⟨h.i2 d hd hfd h0 h1, ed⟩
  · rw [hat, if_neg (fun e => hfd (by rw [e]; exact hf))]
    exact h.fr d hd hfd
  · have hnn : 0 ≤ P * (negs (F.set c (bst g but F c)) : Int) := Int.mul_nonneg (by omega) (by omega)
    unfold wt
    rw [if_neg (show ¬ bst g but F c < 0 by omega)]
    split <;> omega
end Go.Proofs.Yticflcpmlbaafaa.AL

/- Energy: settle. -/
set_option linter.unusedSimpArgs false
set_option linter.unusedVariables false
namespace Go.Proofs.Yticflcpmlbaafaa.AL
open Go
variable {g : GrD} {n u : Nat} {P B but : Int} {F0 F : List Int}

def KS (u : Nat) (KC : KMap) (F : List Int) (v : Nat) (L : List Int) : KMap := upd (upd KC 0 (.row u 1 (intC F))) 1 (.row v 1 (intC L))
def freeG (g : GrD) (may : Nat → Bool) (c : Nat) : Prop := g.home.getD c false = false ∧ may c = true
def pendQ (g : GrD) (q : List Int) (d : Nat) : Prop := ∃ y, y ∈ q ∧ (d : Int) ∈ g.ins.getD y.toNat []

def tmS (u : Nat) (g : GrD) (but : Int) (m : FuncId) (caps : List Nat) (n v off len : Nat) : Nat → Option T :=
  upd (upd (upd (upd (upd emp 0 (tC (.rp (encGr g)))) 1 (tC (.own 0 u 0 n))) 2 (tC (.own 1 v off len))) 3 (tI but)) 4 (tC (.fn m caps))

abbrev XS := Nat × Nat × List Int × List Int
structure OutI (g : GrD) (n : Nat) (P B but : Int) (may : Nat → Bool) (F0 : List Int) (x : XS) (pd : Nat → Prop) : Prop where
  off : x.2.1 ≤ x.2.2.1.length
  ql : ∀ y, y ∈ x.2.2.1 → 0 ≤ y ∧ y < n
  bd : (x.2.2.1.length - x.2.1) + pot B x.2.2.2 ≤ 1000000000
  si : SetI g n P B but (freeG g may) F0 x.2.2.2 pd
def mS (B : Int) (x : XS) : Nat := 2 * pot B x.2.2.2 + (x.2.2.1.length - x.2.1)
def stS (u : Nat) (g : GrD) (but : Int) (m : FuncId) (caps : List Nat) (n : Nat) (KC : KMap) (N1 : Nat) (x : XS) : St := ⟨tmS u g but m caps n x.1 x.2.1 (x.2.2.1.length - x.2.1), KS u KC x.2.2.2 x.1 x.2.2.1, N1⟩

theorem pot_le {B : Int} {F : List Int} (h : ∀ c, c < F.length → F.getD c 0 ≤ B) : pot B F ≤ F.length * (B.toNat + 1) := by
  induction F with
  | nil => simp [pot]
  | cons x l ih =>
    have := ih fun c hc => by simpa using h (c + 1) (by simpa using hc)
    have hx : x ≤ B := by simpa using h 0 (by simp)
    simp only [pot, List.map_cons, List.sum_cons, List.length_cons, Nat.succ_mul] at this ⊢
    have : wt B x ≤ B.toNat + 1 := by unfold wt; split <;> omega
    omega

theorem getD_memG {α : Type} {l : List α} {j : Nat} {d : α} (h : j < l.length) : l.getD j d ∈ l := by
  rw [List.getD_eq_getElem?_getD, List.getElem?_eq_getElem h]
  exact List.getElem_mem h

theorem KS_ok {KC : KMap} {N1 : Nat} (hN1 : 2 ≤ N1) (hKC : ∀ i o, KC i = some o → 2 ≤ i ∧ i < N1 ∧ o.below N1 = true) {F : List Int} {v : Nat} {L : List Int} {i : Nat} {o : AObj} (h : KS u KC F v L i = some o) : i < N1 ∧ o.below N1 = true := by
  unfold KS upd at h
  split at h
  · cases h; exact ⟨by omega, intC_bel⟩
  · split at h
    · cases h; exact ⟨by omega, intC_bel⟩
    · exact (hKC i o h).2

theorem SetI.mono {g : GrD} {n : Nat} {P B but : Int} {free : Nat → Prop} {F0 F : List Int} {pd pd' : Nat → Prop} (h : SetI g n P B but free F0 F pd) (hp : ∀ d, pd d → pd' d) : SetI g n P B but free F0 F pd' :=
  ⟨h.len, h.lo, h.up, h.i1, fun c a b d e => hp c (h.i2 c a b d e), h.fr⟩

theorem KS_put {KC : KMap} {N1 : Nat} (hN1 : 2 ≤ N1) (hKC : ∀ i o, KC i = some o → 2 ≤ i ∧ i < N1 ∧ o.below N1 = true) {F F' : List Int} {v v' : Nat} {L L' : List Int} {o0 o1 oN : AObj}
    (h0 : o0 = .row u 1 (intC F')) (h1 : o1 = .row v' 1 (intC L')) : KLe N1 (KS u KC F' v' L') (upd (upd (upd (KS u KC F v L) 0 o0) N1 oN) 1 o1) := by
  intro i o h
  have hk := KS_ok hN1 hKC h
  refine ⟨hk.1, ?_, hk.2⟩
  subst h0 h1
  by_cases e1 : i = 1
  · subst e1; rw [upd_self]; exact h
  · rw [upd_ne _ _ e1, upd_ne _ _ (by omega)]
    unfold KS at h ⊢
    rw [upd_ne _ _ e1] at h
    by_cases e0 : i = 0
    · subst e0; rw [upd_self] at h ⊢; exact h
    · rw [upd_ne _ _ e0] at h ⊢
      rw [upd_ne _ _ e1, upd_ne _ _ e0]; exact h

theorem f43_in (hg : GrOk g n P) (hn : n ≤ 4096) (hP : P ≤ 1000000) (hB : 0 ≤ B ∧ B ≤ 100000) {m : FuncId} {caps : List Nat} {may : Nat → Bool} {KC : KMap} {N1 : Nat} (hN1 : 2 ≤ N1)
    (hKC : ∀ i o, KC i = some o → 2 ≤ i ∧ i < N1 ∧ o.below N1 = true) (hcaps : ∀ x, x ∈ caps → x < N1)
    (hmay : ∀ c : Nat, c < n → ∀ F v L, PureK Try.prog m (tI c :: caps.map fun id => tC (.ptr id 0 0 0)) (KS u KC F v L) N1 (· = tB (may c)))
    {x : XS} {q0 : Int} (hq : 0 ≤ q0 ∧ q0 < n) (hx : x.2.1 < x.2.2.1.length) (hx0 : x.2.2.1.getD x.2.1 0 = q0) {Q : XE → St → Prop} {tm : Nat → Option T}
    (hi : OutI g n P B but may F0 x (fun d => pendQ g (x.2.2.1.drop (x.2.1 + 1)) d ∨ (d : Int) ∈ g.ins.getD q0.toNat []))
    (ht : TmCut (upd (upd (upd (tmS u g but m caps n x.1 x.2.1 (x.2.2.1.length - x.2.1)) 27 (tC (.r (.rd 1 (ints (g.ins.getD q0.toNat [])))))) 28 (tI (g.ins.getD q0.toNat []).length)) 29 (tI (0 : Nat))) tm)
    (hR : ∀ (y : XS) tm', TmCut (tmS u g but m caps n y.1 y.2.1 (y.2.2.1.length - y.2.1)) tm' → y.2.1 < y.2.2.1.length → OutI g n P B but may F0 y (fun d => pendQ g (y.2.2.1.drop (y.2.1 + 1)) d) → mS B y ≤ mS B x → Q (.exit 2) ⟨tm', KS u KC y.2.2.2 y.1 y.2.2.1, N1⟩) :
    awp Try.prog N1 (.loop s43_15) ⟨tm, KS u KC x.2.2.2 x.1 x.2.2.1, N1⟩ Q := by
  have hcb : (tC (.fn m caps)).below N1 = true := by simp [T.below, V.below, C.below]; exact hcaps
  obtain ⟨il, eil⟩ : ∃ il, il = g.ins.getD q0.toNat [] := ⟨_, rfl⟩
  have hil : il.length ≤ 1000000 := by rw [eil]; exact hg.il _ (by omega)
  have hir : ∀ c, c ∈ il → 0 ≤ c ∧ c < n := by rw [eil]; exact hg.inr _ (by omega)
  rw [← eil] at ht
  refine awp_loop (fun y : Nat × XS => ⟨upd (upd (upd (tmS u g but m caps n y.2.1 y.2.2.1 (y.2.2.2.1.length - y.2.2.1)) 27 (tC (.r (.rd 1 (ints il))))) 28 (tI il.length)) 29 (tI y.1), KS u KC y.2.2.2.2 y.2.1 y.2.2.2.1, N1⟩) (fun y => il.length - y.1)
    (fun y => y.1 ≤ il.length ∧ y.2.2.1 < y.2.2.2.1.length ∧ OutI g n P B but may F0 y.2 (fun d => pendQ g (y.2.2.2.1.drop (y.2.2.1 + 1)) d ∨ (d : Int) ∈ il.drop y.1) ∧ mS B y.2 ≤ mS B x) (0, x) ⟨Nat.zero_le _, hx, by rw [eil]; exact hi, Nat.le_refl _⟩ ?_ ?_
  · exact Weak.cutTm ht
  · rintro ⟨i, v, off, L, F⟩ ⟨hi, hlt, ⟨ho, hql, hbd, hsi⟩, hms⟩
    simp only at hi hlt ho hql hbd hsi hms
    simp only [go_sem, s43_15, tmS, ↓reduceIte, reduceCtorEq, Nat.reduceEqDiff, Nat.reduceAdd, Nat.reduceSub, Nat.reduceMul, Nat.reduceLT, Nat.reduceLeDiff, Int.reduceToNat]
    refine twoQ_at (fun q => ?_) (fun q => ?_)
    · have hi' : i < il.length := by have := of_decide_eq_true q; omega
      have hwr : IntKind.i64.wrap ((i : Int) + 1) = ((i + 1 : Nat) : Int) := wrap_i (by omega) (by omega)
      have hci : il.getD i 0 ∈ il := by simp [List.getD_eq_getElem?_getD, hi']
      obtain ⟨c1, c2⟩ := hir _ hci
      obtain ⟨c, ec⟩ : ∃ c : Nat, il.getD i 0 = c := ⟨(il.getD i 0).toNat, by omega⟩
      have hc : c < n := by omega
      have eh : (bools g.home).getD c [] = [.val (.bool (g.home.getD c false))] := by
        have := hg.lh
        simp [bools, List.getD_eq_getElem?_getD, show c < g.home.length by omega]
      have elh : (bools g.home).length = n := by simp [bools, hg.lh]
      simp only [go_sem, s43_14, encGr, ints_len, ints_at hi', ec, Int.toNat_natCast, eh, elh, ↓reduceIte, reduceCtorEq, Nat.reduceEqDiff, Nat.reduceAdd, Nat.reduceSub, Nat.reduceMul, Nat.reduceLT, Nat.reduceLeDiff, Int.reduceToNat]
      have ed : il.drop i = (c : Int) :: il.drop (i + 1) := by
        rw [List.drop_eq_getElem_cons hi', ← ec]
        simp [List.getD_eq_getElem?_getD, hi']
      have hsiN : ¬ (freeG g may c ∧ 0 ≤ bst g but F c ∧ (F.getD c 0 < 0 ∨ bst g but F c < F.getD c 0)) → SetI g n P B but (freeG g may) F0 F (fun d => pendQ g (L.drop (off + 1)) d ∨ (d : Int) ∈ il.drop (i + 1)) := fun hno =>
        ⟨hsi.len, hsi.lo, hsi.up, hsi.i1, fun d hd a b e => by
          rcases hsi.i2 d hd a b e with h | h
          · exact .inl h
          · rw [ed] at h
            rcases List.mem_cons.1 h with h | h
            · have : d = c := by omega
              subst this
              exact absurd ⟨a, b, e⟩ hno
            · exact .inr h, hsi.fr⟩
      have kk := fun (i : Nat) (o : AObj) (hk : KS u KC F v L i = some o) => KS_ok hN1 hKC hk
      have k0 : KS u KC F v L 0 = some (.row u 1 (intC F)) := rfl
      have k1 : KS u KC F v L 1 = some (.row v 1 (intC L)) := rfl
      have hFc : c < F.length := by rw [hsi.len]; exact hc
      refine ⟨⟨by omega, by omega⟩, ⟨by omega, by omega⟩, guardQ_at (fun g1 => ?_) (fun g1 => ?_)⟩
      · have g1 : g.home.getD c false = false := g1
        simp only [go_sem, s43_13, ↓reduceIte, reduceCtorEq, Nat.reduceEqDiff, Nat.reduceAdd, Nat.reduceSub, Nat.reduceMul, Nat.reduceLT, Nat.reduceLeDiff, Int.reduceToNat]
        refine PureK.callId (hmay c hc F v L) kk (fun a ha => ?_) (fun d hd _ => ?_)
        · rcases List.mem_cons.1 ha with rfl | ha
          · rfl
          · obtain ⟨id, hid, rfl⟩ := List.mem_map.1 ha
            simp [T.below, V.below, C.below, hcaps id hid]
        · subst hd
          simp only [go_sem, s43_12, s43_11, ↓reduceIte, reduceCtorEq, Nat.reduceEqDiff, Nat.reduceAdd, Nat.reduceSub, Nat.reduceMul, Nat.reduceLT, Nat.reduceLeDiff, Int.reduceToNat]
          refine twoQ_at (fun g2 => ?_) (fun g2 => ?_)
          · have g2 : may c = false := by simpa using g2
            simp only [go_sem, s43_2, hwr, ↓reduceIte, reduceCtorEq, Nat.reduceEqDiff, Nat.reduceAdd, Nat.reduceSub, Nat.reduceMul, Nat.reduceLT, Nat.reduceLeDiff, Int.reduceToNat]
            refine ⟨(i + 1, v, off, L, F), ⟨by simp only; omega, hlt, ⟨ho, hql, hbd, hsiN (fun h => by rw [h.1.2] at g2; cases g2)⟩, hms⟩, by simp only; omega, ?_⟩
            exact Weak.cutTm (by repeat (first | refine TmCut.cons rfl ?_ | refine TmCut.cons (by simp [upd, *]; done) ?_ | exact TmCut.nil))
          · have g2 : may c = true := by simpa using g2
            simp only [go_sem, s43_10, ↓reduceIte, reduceCtorEq, Nat.reduceEqDiff, Nat.reduceAdd, Nat.reduceSub, Nat.reduceMul, Nat.reduceLT, Nat.reduceLeDiff, Int.reduceToNat]
            have hfo : FuelOk F := fun j hj => by
              have hj' : j < n := by rw [← hsi.len]; exact hj
              refine ⟨hsi.lo j hj', ?_⟩
              by_cases h1 : 0 ≤ F.getD j 0
              · have h2 := hsi.up j hj' h1
                have : 0 ≤ P * (negs F : Int) := Int.mul_nonneg (by have := hg.p1; omega) (by omega)
                omega
              · omega
            have hso : StepsOk F.length (g.out.getD (c : Int).toNat []) := fun j hj => by
              rw [Int.toNat_natCast] at hj ⊢
              have := hg.st c hc ((g.out.getD c []).getD j (0, 0)) (getD_memG hj)
              rw [hsi.len]
              exact ⟨this.1, this.2.1, by omega⟩
            have hca : CastC (KS u KC F v L) (.own 0 u 0 n) (.r (.rd 1 (ints F))) := by
              have := intC_cast k0 (by rw [hsi.len]; omega)
              rw [hsi.len] at this
              exact this
            refine Pure.castS (f26 g F c but ⟨by omega, by rw [hg.lo]; omega⟩ (by rw [Int.toNat_natCast]; have := hg.ol c hc; omega) hso hfo) ⟨.inl ⟨rfl, rfl⟩, hca, .inl ⟨rfl, rfl⟩, .inl ⟨rfl, rfl⟩, trivial⟩ rfl ?_
            rw [Int.toNat_natCast]
            simp only [go_sem, s43_9, s43_8, ↓reduceIte, reduceCtorEq, Nat.reduceEqDiff, Nat.reduceAdd, Nat.reduceSub, Nat.reduceMul, Nat.reduceLT, Nat.reduceLeDiff, Int.reduceToNat]
            have stay : ∀ {tm' : Nat → Option T} {Q' : XE → St → Prop}, True := trivial
            refine guardQ_at (fun g3 => ?_) (fun g3 => ?_)
            · have g3 : 0 ≤ bst g but F c := of_decide_eq_true g3
              simp only [go_sem, s43_7, k0, intC_at hFc, intC_len, Int.toNat_natCast, Nat.zero_add, ↓reduceIte, reduceCtorEq, Nat.reduceEqDiff, Nat.reduceAdd, Nat.reduceSub, Nat.reduceMul, Nat.reduceLT, Nat.reduceLeDiff, Int.reduceToNat]
              refine ⟨⟨by omega, by omega, by rw [hsi.len]; exact Nat.le_refl _⟩, hFc, guardQ_at (fun g4 => ?_) (fun g4 => ?_)⟩
              · have g4 : ¬ F.getD c 0 < 0 := of_decide_eq_false g4
                simp only [go_sem, s43_6, k0, intC_at hFc, intC_len, Int.toNat_natCast, Nat.zero_add, ↓reduceIte, reduceCtorEq, Nat.reduceEqDiff, Nat.reduceAdd, Nat.reduceSub, Nat.reduceMul, Nat.reduceLT, Nat.reduceLeDiff, Int.reduceToNat]
                refine ⟨⟨by omega, by omega, by rw [hsi.len]; exact Nat.le_refl _⟩, hFc, ?_⟩
                simp only [go_sem, s43_5, s43_4, ↓reduceIte, reduceCtorEq, Nat.reduceEqDiff, Nat.reduceAdd, Nat.reduceSub, Nat.reduceMul, Nat.reduceLT, Nat.reduceLeDiff, Int.reduceToNat]
                refine twoQ_at (fun g5 => ?_) (fun g5 => ?_)
                · have hv : F.getD c 0 < 0 ∨ bst g but F c < F.getD c 0 := .inr (of_decide_eq_true g5)
                  obtain ⟨hst, hpot⟩ := hsi.step hg hc ⟨g1, g2⟩ g3 hv
                  have e1N : (1 = N1) = False := eq_false (by omega)
                  have e0N : (0 = N1) = False := eq_false (by omega)
                  have eoff : off + (L.length - off) = L.length := by omega
                  have k0' : ∀ o, upd (KS u KC F v L) 0 o 1 = some (.row v 1 (intC L)) := fun o => rfl
                  simp only [go_sem, s43_3, k0, k1, k0', e1N, eoff, e0N, intC_len, intC_at hFc, Int.toNat_natCast, Nat.zero_add, hwr, evAppend, srcRows, rowsOf, ↓reduceIte, reduceCtorEq, Nat.reduceEqDiff, Nat.reduceAdd, Nat.reduceSub, Nat.reduceMul, Nat.reduceLT, Nat.reduceLeDiff, Int.reduceToNat]
                  refine ⟨⟨by omega, by omega, by rw [hsi.len]; exact Nat.le_refl _⟩, hFc, ⟨by omega, by omega⟩, ?_⟩
                  simp only [go_sem, s43_2, hwr, ↓reduceIte, reduceCtorEq, Nat.reduceEqDiff, Nat.reduceAdd, Nat.reduceSub, Nat.reduceMul, Nat.reduceLT, Nat.reduceLeDiff, Int.reduceToNat]
                  refine ⟨(i + 1, v + 1, 0, L.drop off ++ [(c : Int)], F.set c (bst g but F c)), ⟨by simp only; omega, by simp, ⟨Nat.zero_le _, fun y hy => ?_, ?_, ?_⟩, ?_⟩, by simp only; omega, Weak.keep ?_ (KS_put hN1 hKC (congrArg (AObj.row u 1) intC_set) ?_) (Nat.le_refl _) (Nat.le_succ _)⟩
                  · simp only [List.mem_append, List.mem_singleton] at hy
                    rcases hy with hy | rfl
                    · exact hql y (List.mem_of_mem_drop hy)
                    · omega
                  · simp only [List.length_append, List.length_drop, List.length_singleton]
                    omega
                  · refine hst.mono fun d hd => ?_
                    have edr : (L.drop off ++ [(c : Int)]).drop 1 = L.drop (off + 1) ++ [(c : Int)] := by
                      rw [List.drop_eq_getElem_cons hlt]; rfl
                    simp only [Nat.zero_add]
                    rw [edr]
                    rcases hd with ⟨⟨y, y1, y2⟩ | hd, hne⟩ | hd
                    · exact .inl ⟨y, by simp [y1], y2⟩
                    · rw [ed] at hd
                      rcases List.mem_cons.1 hd with h | h
                      · omega
                      · exact .inr h
                    · exact .inl ⟨c, by simp, by rw [Int.toNat_natCast]; exact hd⟩
                  · refine Nat.le_trans ?_ hms
                    unfold mS
                    simp only [List.length_append, List.length_drop, List.length_singleton]
                    omega
                  · refine TmLe.cons rfl rfl (TmLe.cons rfl rfl (TmLe.cons rfl rfl (TmLe.cons rfl hcb (TmLe.cons rfl rfl (TmLe.cons ?_ ?_ (TmLe.cons rfl ?_ (TmLe.cons rfl rfl TmLe.nil)))))))
                    · simp [upd, List.length_append, List.length_drop]
                    · simp [T.below, V.below, C.below]; omega
                    · simp [T.below, V.below, C.below]; omega
                  · simp [intC, List.map_drop]
                · have g5 : ¬ bst g but F c < F.getD c 0 := of_decide_eq_false g5
                  simp only [go_sem, s43_2, hwr, ↓reduceIte, reduceCtorEq, Nat.reduceEqDiff, Nat.reduceAdd, Nat.reduceSub, Nat.reduceMul, Nat.reduceLT, Nat.reduceLeDiff, Int.reduceToNat]
                  refine ⟨(i + 1, v, off, L, F), ⟨by simp only; omega, hlt, ⟨ho, hql, hbd, hsiN (fun h => by omega)⟩, hms⟩, by simp only; omega, ?_⟩
                  exact Weak.cutTm (by repeat (first | refine TmCut.cons rfl ?_ | refine TmCut.cons (by simp [upd, *]; done) ?_ | exact TmCut.nil))
              · have hv : F.getD c 0 < 0 ∨ bst g but F c < F.getD c 0 := .inl (by simpa using g4)
                simp only [go_sem, s43_6, s43_5, s43_4, ↓reduceIte, reduceCtorEq, Nat.reduceEqDiff, Nat.reduceAdd, Nat.reduceSub, Nat.reduceMul, Nat.reduceLT, Nat.reduceLeDiff, Int.reduceToNat]
                obtain ⟨hst, hpot⟩ := hsi.step hg hc ⟨g1, g2⟩ g3 hv
                have e1N : (1 = N1) = False := eq_false (by omega)
                have e0N : (0 = N1) = False := eq_false (by omega)
                have eoff : off + (L.length - off) = L.length := by omega
                have k0' : ∀ o, upd (KS u KC F v L) 0 o 1 = some (.row v 1 (intC L)) := fun o => rfl
                simp only [go_sem, s43_3, k0, k1, k0', e1N, eoff, e0N, intC_len, intC_at hFc, Int.toNat_natCast, Nat.zero_add, hwr, evAppend, srcRows, rowsOf, ↓reduceIte, reduceCtorEq, Nat.reduceEqDiff, Nat.reduceAdd, Nat.reduceSub, Nat.reduceMul, Nat.reduceLT, Nat.reduceLeDiff, Int.reduceToNat]
                refine ⟨⟨by omega, by omega, by rw [hsi.len]; exact Nat.le_refl _⟩, hFc, ⟨by omega, by omega⟩, ?_⟩
                simp only [go_sem, s43_2, hwr, ↓reduceIte, reduceCtorEq, Nat.reduceEqDiff, Nat.reduceAdd, Nat.reduceSub, Nat.reduceMul, Nat.reduceLT, Nat.reduceLeDiff, Int.reduceToNat]
                refine ⟨(i + 1, v + 1, 0, L.drop off ++ [(c : Int)], F.set c (bst g but F c)), ⟨by simp only; omega, by simp, ⟨Nat.zero_le _, fun y hy => ?_, ?_, ?_⟩, ?_⟩, by simp only; omega, Weak.keep ?_ (KS_put hN1 hKC (congrArg (AObj.row u 1) intC_set) ?_) (Nat.le_refl _) (Nat.le_succ _)⟩
                · simp only [List.mem_append, List.mem_singleton] at hy
                  rcases hy with hy | rfl
                  · exact hql y (List.mem_of_mem_drop hy)
                  · omega
                · simp only [List.length_append, List.length_drop, List.length_singleton]
                  omega
                · refine hst.mono fun d hd => ?_
                  have edr : (L.drop off ++ [(c : Int)]).drop 1 = L.drop (off + 1) ++ [(c : Int)] := by
                    rw [List.drop_eq_getElem_cons hlt]; rfl
                  simp only [Nat.zero_add]
                  rw [edr]
                  rcases hd with ⟨⟨y, y1, y2⟩ | hd, hne⟩ | hd
                  · exact .inl ⟨y, by simp [y1], y2⟩
                  · rw [ed] at hd
                    rcases List.mem_cons.1 hd with h | h
                    · omega
                    · exact .inr h
                  · exact .inl ⟨c, by simp, by rw [Int.toNat_natCast]; exact hd⟩
                · refine Nat.le_trans ?_ hms
                  unfold mS
                  simp only [List.length_append, List.length_drop, List.length_singleton]
                  omega
                · refine TmLe.cons rfl rfl (TmLe.cons rfl rfl (TmLe.cons rfl rfl (TmLe.cons rfl hcb (TmLe.cons rfl rfl (TmLe.cons ?_ ?_ (TmLe.cons rfl ?_ (TmLe.cons rfl rfl TmLe.nil)))))))
                  · simp [upd, List.length_append, List.length_drop]
                  · simp [T.below, V.below, C.below]; omega
                  · simp [T.below, V.below, C.below]; omega
                · simp [intC, List.map_drop]
            · have g3 : ¬ 0 ≤ bst g but F c := of_decide_eq_false g3
              simp only [go_sem, s43_7, s43_6, s43_5, s43_4, s43_2, hwr, ↓reduceIte, reduceCtorEq, Nat.reduceEqDiff, Nat.reduceAdd, Nat.reduceSub, Nat.reduceMul, Nat.reduceLT, Nat.reduceLeDiff, Int.reduceToNat]
              refine ⟨(i + 1, v, off, L, F), ⟨by simp only; omega, hlt, ⟨ho, hql, hbd, hsiN (fun h => g3 h.2.1)⟩, hms⟩, by simp only; omega, ?_⟩
              exact Weak.cutTm (by repeat (first | refine TmCut.cons rfl ?_ | refine TmCut.cons (by simp [upd, *]; done) ?_ | exact TmCut.nil))
      · have g1 : g.home.getD c false = true := g1
        simp only [go_sem, s43_13, s43_12, s43_11, s43_2, hwr, ↓reduceIte, reduceCtorEq, Nat.reduceEqDiff, Nat.reduceAdd, Nat.reduceSub, Nat.reduceMul, Nat.reduceLT, Nat.reduceLeDiff, Int.reduceToNat]
        refine ⟨(i + 1, v, off, L, F), ⟨by simp only; omega, hlt, ⟨ho, hql, hbd, hsiN (fun h => by rw [h.1.1] at g1; cases g1)⟩, hms⟩, by simp only; omega, ?_⟩
        exact Weak.cutTm (by repeat (first | refine TmCut.cons rfl ?_ | refine TmCut.cons (by simp [upd, *]; done) ?_ | exact TmCut.nil))
    · have hi' : i = il.length := by have := of_decide_eq_false q; omega
      subst hi'
      refine hR (v, off, L, F) _ ?_ hlt ⟨ho, hql, hbd, hsi.mono fun d hd => ?_⟩ hms
      · unfold tmS
        repeat (first | exact TmCut.nil | refine TmCut.cons rfl ?_)
      · rcases hd with hd | hd
        · exact hd
        · simp at hd

theorem f43 (hg : GrOk g n P) (hn : n ≤ 4096) (hP : P ≤ 1000000) (hB : 0 ≤ B ∧ B ≤ 100000) {m : FuncId} {caps : List Nat} {may : Nat → Bool} {KC : KMap} {N1 : Nat} (hN1 : 2 ≤ N1)
    (hKC : ∀ i o, KC i = some o → 2 ≤ i ∧ i < N1 ∧ o.below N1 = true) (hcaps : ∀ x, x ∈ caps → x < N1)
    (hmay : ∀ c : Nat, c < n → ∀ F v L, PureK Try.prog m (tI c :: caps.map fun id => tC (.ptr id 0 0 0)) (KS u KC F v L) N1 (· = tB (may c)))
    {F v L} (h0 : SetI g n P B but (freeG g may) F F (pendQ g L)) (hL : ∀ y, y ∈ L → 0 ≤ y ∧ y < n) (hL2 : L.length ≤ 10000) :
    Spec Try.prog 43 [tC (.rp (encGr g)), tC (.own 0 u 0 n), tC (.own 1 v 0 L.length), tI but, tC (.fn m caps)] (KS u KC F v L) N1
      fun d K N => d = .tup [] ∧ N = N1 ∧ ∃ F' v' L', K = KS u KC F' v' L' ∧ SetI g n P B but (freeG g may) F F' (fun _ => False) := by
  refine Spec.of_awp hm Try.func43 s43_ok (by simp [s43]) ?_
  simp only [go_sem, s43, ↓reduceIte, reduceCtorEq, Nat.reduceEqDiff, Nat.reduceAdd, Nat.reduceSub, Nat.reduceMul, Nat.reduceLT, Nat.reduceLeDiff, Int.reduceToNat]
  refine awp_loop (stS u g but m caps n KC N1) (mS B) (fun x => OutI g n P B but may F x (pendQ g (x.2.2.1.drop x.2.1))) (v, 0, L, F) ⟨Nat.zero_le _, hL, ?_, by simpa using h0⟩ ?_ ?_
  · simp only [Nat.sub_zero]
    have := pot_le (B := B) (F := F) (fun c hc => by
      have hc' : c < n := by rw [← h0.len]; exact hc
      by_cases h1 : 0 ≤ F.getD c 0
      · have h2 := h0.up c hc' h1
        have : 0 ≤ P * (negs F : Int) := Int.mul_nonneg (by have := hg.p1; omega) (by omega)
        omega
      · omega)
    rw [h0.len] at this
    have h2 : n * (B.toNat + 1) ≤ 4096 * (100000 + 1) := Nat.mul_le_mul hn (by omega)
    omega
  · exact Weak.cutTm (by unfold tmS; exact TmCut.cons rfl (TmCut.cons rfl (TmCut.cons rfl (TmCut.cons rfl (TmCut.cons rfl TmCut.nil)))))
  · rintro ⟨v, off, L, F⟩ ⟨ho, hql, hbd, hsi⟩
    simp only at ho hql hbd hsi
    simp only [go_sem, s43_17, stS, tmS, ↓reduceIte, reduceCtorEq, Nat.reduceEqDiff, Nat.reduceAdd, Nat.reduceSub, Nat.reduceMul, Nat.reduceLT, Nat.reduceLeDiff, Int.reduceToNat]
    refine twoQ_at (fun q => ?_) (fun q => ?_)
    · have hlt : off < L.length := by have := of_decide_eq_true q; omega
      have hL0 : L.getD off 0 ∈ L := by simp [List.getD_eq_getElem?_getD, hlt]
      obtain ⟨q1, q2⟩ := hql _ hL0
      have k1 : KS u KC F v L 1 = some (.row v 1 (intC L)) := rfl
      have e28 : (g.ins.map encIn).getD (L.getD off 0).toNat [] = [.rd 1 (ints (g.ins.getD (L.getD off 0).toNat []))] := by
        rw [rows_at (by rw [hg.li]; omega)]; rfl
      simp only [go_sem, s43_16, encGr, k1, intC_at hlt, Nat.add_zero, e28, rows_len, ints_len, intC_len, ↓reduceIte, reduceCtorEq, Nat.reduceEqDiff, Nat.reduceAdd, Nat.reduceSub, Nat.reduceMul, Nat.reduceLT, Nat.reduceLeDiff, Int.reduceToNat]
      have hsi' := hsi.mono (pd' := fun d => pendQ g (L.drop (off + 1)) d ∨ (d : Int) ∈ g.ins.getD (L.getD off 0).toNat []) (fun d ⟨y, y1, y2⟩ => by
        rw [List.drop_eq_getElem_cons hlt] at y1
        rcases List.mem_cons.1 y1 with rfl | y1
        · right; simpa [List.getD_eq_getElem?_getD, hlt] using y2
        · exact .inl ⟨y, y1, y2⟩)
      refine ⟨⟨by omega, by omega, by omega⟩, hlt, ⟨q1, by rw [hg.li]; exact q2⟩, ?_⟩
      refine f43_in hg hn hP hB hN1 hKC hcaps hmay (x := (v, off, L, F)) ⟨q1, q2⟩ hlt rfl ⟨ho, hql, hbd, hsi'⟩ ?_ (fun y tm' htm hy hoy hmy => ?_)
      · unfold tmS
        repeat (first | exact TmCut.nil | refine TmCut.cons rfl ?_)
      · obtain ⟨v', off', L', F'⟩ := y
        obtain ⟨ho', hql', hbd', hsi''⟩ := hoy
        simp only at hy ho' hql' hbd' hsi'' htm
        have t2 := htm 2 _ rfl
        have k1' : KS u KC F' v' L' 1 = some (.row v' 1 (intC L')) := rfl
        simp only [go_sem, s43_1, t2, k1', ↓reduceIte, reduceCtorEq, Nat.reduceEqDiff, Nat.reduceAdd, Nat.reduceSub, Nat.reduceMul, Nat.reduceLT, Nat.reduceLeDiff, Int.reduceToNat]
        have el : ((L'.length - off' : Nat) : Int).toNat - 1 = L'.length - (off' + 1) := by rw [Int.toNat_natCast]; omega
        refine ⟨⟨by omega, by omega, by omega⟩, (v', off' + 1, L', F'), ⟨by simp only; omega, hql', by simp only; omega, hsi''⟩, ?_, Weak.cutTm ?_⟩
        · unfold mS at hmy ⊢
          simp only at hmy ⊢
          omega
        · unfold tmS
          exact TmCut.cons (htm 4 _ rfl) (TmCut.cons (htm 3 _ rfl) (TmCut.cons (by rw [upd_self, el]) (TmCut.cons (htm 1 _ rfl) (TmCut.cons (htm 0 _ rfl) TmCut.nil))))
    · have hlt : off = L.length := by have := of_decide_eq_false q; omega
      subst hlt
      refine ⟨_, _, _, _, Back.keep (Nat.le_refl _) rfl (fun i o hk => ⟨(KS_ok hN1 hKC hk).1, (KS_ok hN1 hKC hk).2, hk⟩), rfl, rfl, F, v, L, rfl, hsi.mono fun d hd => ?_⟩
      obtain ⟨y, y1, _⟩ := hd
      simp at y1
end Go.Proofs.Yticflcpmlbaafaa.AL
