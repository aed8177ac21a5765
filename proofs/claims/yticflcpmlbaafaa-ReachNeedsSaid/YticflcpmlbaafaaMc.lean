/- What the functions hand back, third part: fuel and needs. -/
import Derived.Test.YticflcpmlbaafaaMb
import Derived.Test.YticflcpmlbaafaaAc

/- Energy: the graph as data. -/
set_option linter.unusedSimpArgs false
set_option linter.unusedVariables false
namespace Go.Proofs.Yticflcpmlbaafaa.AL
open Go
variable {s : SiteD} {K : KMap} {X : Nat → Prop} {n : Nat} {O : Nat → List (Int × Int)} {I : Nat → List Int} {H : List Bool} {VO VI : Nat → Nat}

theorem rowC_castX {α : Type} [Inhabited α] {f : α → List R} {l : List α} {id v sz : Nat} (hf : ∀ x, (f x).length = sz) (hX : X id) (hK : K id = some (.row v sz (rowC f l))) : CastX K X (.own id v 0 l.length) (.rd sz (l.map f)) := by
  refine .own hX hK (by rw [rowC_len]; omega) (by simp) (fun y hy => ?_) (fun i k c r hi hc hr => ?_)
  · obtain ⟨x, _, rfl⟩ := List.mem_map.1 hy
    exact hf x
  · rw [Nat.zero_add, rowC_at hi] at hc
    rw [rows_at hi] at hr
    rw [List.getElem?_map, hr] at hc
    simp at hc
    subst hc
    exact .r

theorem intC_rowC {l : List Int} : intC l = rowC (fun x => [R.val (.int .i64 x)]) l := rfl

theorem KG_at_O {i : Nat} (hi : i < n) : KG n O I H VO VI (4 + i) = some (.row (VO i) 2 (rowC stepR (O i))) := by
  unfold KG
  rw [if_neg (by omega), if_neg (by omega), if_neg (by omega), if_neg (by omega), if_pos (by omega), show 4 + i - 4 = i by omega]
theorem KG_at_I {i : Nat} (hi : i < n) : KG n O I H VO VI (4 + n + i) = some (.row (VI i) 1 (intC (I i))) := by
  unfold KG
  rw [if_neg (by omega), if_neg (by omega), if_neg (by omega), if_neg (by omega), if_neg (by omega), if_pos (by omega), show 4 + n + i - 4 - n = i by omega]

theorem ownRow_castX {b v id : Nat} {V : Nat → Nat} {α : Type} [Inhabited α] {l : Nat → List α} {e : List α → List R} {sz : Nat} {f : α → List R} (hXi : X id) (hK : K id = some (.row v 1 (ownRow b V (fun i => (l i).length) n))) (he : ∀ l, e l = [.rd sz (l.map f)]) (hf : ∀ x, (f x).length = sz)
    (hX : ∀ i, i < n → X (b + i)) (hr : ∀ i, i < n → K (b + i) = some (.row (V i) sz (rowC f (l i)))) : CastX K X (.own id v 0 n) (.rd 1 (((List.range n).map l).map e)) := by
  refine .own hXi hK (by rw [ownRow_len]; omega) (by simp) (fun y hy => ?_) (fun i k c r hi hc hr' => ?_)
  · obtain ⟨x, _, rfl⟩ := List.mem_map.1 hy
    rw [he]; rfl
  · rw [Nat.zero_add, ownRow_at hi] at hc
    have e1 : (((List.range n).map l).map e).getD i [] = e (l i) := by simp [hi]
    rw [e1, he] at hr'
    cases k with
    | succ k => simp at hc
    | zero =>
      simp at hc hr'
      subst hc hr'
      exact rowC_castX hf (hX i hi) (hr i hi)

theorem KG_mix {σ : Nat → Nat} {N1 : Nat} (hK : ∀ i, i < 4 + n + n → K i = KG n O I H VO VI i) (hX : ∀ i, i < 4 + n + n → X i) (hH : H.length = n) :
    MixC K X σ N1 (.ptr 0 0 0 0) (.rp (encGr ⟨(List.range n).map O, (List.range n).map I, H⟩)) := by
  refine .inr (.inr ⟨0, 0, 3, _, 0, _, rfl, rfl, hX 0 (by omega), (hK 0 (by omega)).trans rfl, by simp, by simp [encGr], fun k c r hc hr => ?_⟩)
  match k with
  | 0 =>
    cases hc; cases hr
    exact ownRow_castX (f := stepR) (sz := 2) (hX 1 (by omega)) ((hK 1 (by omega)).trans rfl) (fun l => rfl) (fun x => rfl) (fun i hi => hX _ (by omega)) (fun i hi => (hK _ (by omega)).trans (KG_at_O hi))
  | 1 =>
    cases hc; cases hr
    exact ownRow_castX (f := fun x => [R.val (.int .i64 x)]) (sz := 1) (hX 2 (by omega)) ((hK 2 (by omega)).trans rfl) (fun l => rfl) (fun x => rfl) (fun i hi => hX _ (by omega)) (fun i hi => (hK _ (by omega)).trans (KG_at_I hi))
  | 2 =>
    cases hc; cases hr
    have := rowC_castX (f := boolR) (l := H) (fun x => rfl) (hX 3 (by omega)) ((hK 3 (by omega)).trans rfl)
    rw [hH] at this
    exact this
  | k + 3 => simp [encGr] at hr
end Go.Proofs.Yticflcpmlbaafaa.AL

/- Energy: the graph of a site is one. -/
set_option linter.unusedSimpArgs false
set_option linter.unusedVariables false
namespace Go.Proofs.Yticflcpmlbaafaa.AL
open Go
variable {s : SiteD} {bl : List Int}

def grF (s : SiteD) (bl : List Int) : GrD := ⟨(List.range s.floor.kind.length).map (OF s bl s.floor.kind.length 0), (List.range s.floor.kind.length).map (IF s bl s.floor.kind.length 0), homeL s s.floor.kind.length⟩

theorem grF_out {c : Nat} (hc : c < s.floor.kind.length) : (grF s bl).out.getD c [] = outF s bl c 6 := by
  simp [grF, hc, OF]
theorem grF_ins {c : Nat} (hc : c < s.floor.kind.length) : (grF s bl).ins.getD c [] = insC s bl c s.floor.kind.length := by
  simp [grF, hc, IF, insD]
theorem grF_home {c : Nat} (hc : c < s.floor.kind.length) : (grF s bl).home.getD c false = decide (s.floor.kind.getD c 0 = 3) := by
  simp [grF, homeL, hc]

theorem mem_outF {c m : Nat} {x : Int × Int} : x ∈ outF s bl c m ↔ ∃ d, d < m ∧ edgeB s bl c d = true ∧ x = (nextF s.floor c d, priceF s d (nextF s.floor c d)) := by
  induction m with
  | zero => simp [outF]
  | succ m ih =>
    unfold outF
    rw [List.mem_append, ih]
    constructor
    · rintro (⟨d, h1, h2, h3⟩ | h)
      · exact ⟨d, by omega, h2, h3⟩
      · split at h
        · rename_i e
          exact ⟨m, by omega, e, by simpa using h⟩
        · simp at h
    · rintro ⟨d, h1, h2, h3⟩
      by_cases e : d = m
      · subst e; right; rw [if_pos h2]; simp [h3]
      · exact .inl ⟨d, by omega, h2, h3⟩

theorem mem_insD {y c m : Nat} {acc : List Int} {x : Int} : x ∈ insD s bl y c acc m ↔ x ∈ acc ∨ ∃ d, d < m ∧ edgeB s bl c d = true ∧ nextF s.floor c d = y ∧ x = c := by
  induction m with
  | zero => simp [insD]
  | succ m ih =>
    unfold insD
    rw [List.mem_append, ih]
    constructor
    · rintro ((h | ⟨d, h1, h2, h3⟩) | h)
      · exact .inl h
      · exact .inr ⟨d, by omega, h2, h3⟩
      · split at h
        · rename_i e
          simp only [Bool.and_eq_true, decide_eq_true_eq] at e
          exact .inr ⟨m, by omega, e.1, e.2, by simpa using h⟩
        · simp at h
    · rintro (h | ⟨d, h1, h2, h3, h4⟩)
      · exact .inl (.inl h)
      · by_cases e : d = m
        · subst e; right; rw [if_pos (by simp [h2, h3])]; simp [h4]
        · exact .inl (.inr ⟨d, by omega, h2, h3, h4⟩)

theorem mem_insC {y m : Nat} {x : Int} : x ∈ insC s bl y m ↔ ∃ c : Nat, c < m ∧ x = c ∧ ∃ d, d < 6 ∧ edgeB s bl c d = true ∧ nextF s.floor c d = y := by
  induction m with
  | zero => simp [insC]
  | succ m ih =>
    unfold insC
    rw [mem_insD, ih]
    constructor
    · rintro (⟨c, h1, h2, h3⟩ | ⟨d, h1, h2, h3, h4⟩)
      · exact ⟨c, by omega, h2, h3⟩
      · exact ⟨m, by omega, h4, d, h1, h2, h3⟩
    · rintro ⟨c, h1, h2, d, h3, h4, h5⟩
      by_cases e : c = m
      · subst e; exact .inr ⟨d, h3, h4, h5, h2⟩
      · exact .inl ⟨c, by omega, h2, d, h3, h4, h5⟩

theorem price_b (hs : SpeedOk s) {d x : Int} (hd : 0 ≤ d ∧ d < 6) (hx : isCellF s x = true) : 1 ≤ priceF s d x ∧ priceF s d x ≤ 318 := by
  have h1 := speed_b hs x
  have h2 := cost_b (1 + d)
  unfold priceF
  rw [if_pos ⟨hd, hx⟩]
  split <;> omega

theorem grF_ok (h0 : FloorOk s.floor) (hs : SpeedOk s) : GrOk (grF s bl) s.floor.kind.length 318 := by
  have hn2 := h0.n2
  unfold FloorD.n at hn2
  refine ⟨by simp [grF], by simp [grF], by simp [grF, homeL], by omega, fun c hc x hx => ?_, fun y hy c hc => ?_, fun c hc => ?_, fun y hy => ?_⟩
  · rw [grF_out hc, mem_outF] at hx
    obtain ⟨d, hd, he, rfl⟩ := hx
    have hb : nextB s.floor c d = true := by unfold edgeB at he; rw [Bool.and_eq_true] at he; exact he.1
    obtain ⟨_, hd2, x1, x2⟩ := next_b h0 hb
    have hic : isCellF s (nextF s.floor c d) = true := by unfold isCellF; simp only [Bool.and_eq_true, decide_eq_true_eq]; exact ⟨x1, x2⟩
    have hp := price_b hs hd2 hic
    unfold FloorD.n at x2
    refine ⟨⟨x1, x2⟩, hp.1, hp.2, ?_⟩
    simp only
    rw [grF_ins (by omega), mem_insC]
    exact ⟨c, hc, rfl, d, hd, he, by omega⟩
  · rw [grF_ins hy, mem_insC] at hc
    obtain ⟨c', h1, rfl, _⟩ := hc
    omega
  · rw [grF_out hc]
    have := outF_len s bl c 6
    omega
  · rw [grF_ins hy]
    have := insC_len s bl y s.floor.kind.length
    omega
end Go.Proofs.Yticflcpmlbaafaa.AL

/- Energy: the fuel of a graph. -/
set_option linter.unusedSimpArgs false
set_option linter.unusedVariables false
namespace Go.Proofs.Yticflcpmlbaafaa.AL
open Go
variable {g : GrD} {n : Nat} {P : Int}

def fuelL (g : GrD) (n c : Nat) : List Int := (List.range n).map fun i => if i < c then (if g.home.getD i false = true then 0 else -1) else 0
def homeQ (g : GrD) : Nat → List Int
  | 0 => []
  | c + 1 => homeQ g c ++ if g.home.getD c false = true then [(c : Int)] else []

theorem homeQ_len {c : Nat} : (homeQ g c).length ≤ c := by
  induction c with
  | zero => simp [homeQ]
  | succ c ih => unfold homeQ; rw [List.length_append]; split <;> simp <;> omega
theorem fuelL_len {c : Nat} : (fuelL g n c).length = n := by simp [fuelL]
theorem fuelL_at {c i : Nat} (hi : i < n) : (fuelL g n c).getD i 0 = if i < c then (if g.home.getD i false = true then 0 else -1) else 0 := by simp [fuelL, hi]
theorem fuelL_no {c : Nat} (hc : c < n) (h : ¬ g.home.getD c false = true) : (fuelL g n c).set c (-1) = fuelL g n (c + 1) := by
  refine List.ext_getElem (by simp [fuelL]) fun j h1 h2 => ?_
  rw [List.getElem_set]
  by_cases e : c = j
  · subst e; simp only [fuelL, List.getElem_map, List.getElem_range]; rw [if_pos trivial, if_pos (by omega), if_neg h]
  · have e2 : (j < c + 1) ↔ (j < c) := by omega
    simp [fuelL, e, e2]
theorem fuelL_yes {c : Nat} (hc : c < n) (h : g.home.getD c false = true) : ((fuelL g n c).set c (-1)).set c 0 = fuelL g n (c + 1) := by
  rw [List.set_set]
  refine List.ext_getElem (by simp [fuelL]) fun j h1 h2 => ?_
  rw [List.getElem_set]
  by_cases e : c = j
  · subst e; simp only [fuelL, List.getElem_map, List.getElem_range]; rw [if_pos trivial, if_pos (by omega), if_pos h]
  · have e2 : (j < c + 1) ↔ (j < c) := by omega
    simp [fuelL, e, e2]

theorem KS_upd0 {u : Nat} {KC : KMap} {F F' L : List Int} {v : Nat} : upd (KS u KC F v L) 0 (.row u 1 (intC F')) = KS u KC F' v L := by
  funext i
  unfold KS upd
  by_cases e0 : i = 0
  · subst e0; simp
  · simp [e0]
theorem KS_upd1 {u : Nat} {KC : KMap} {F L L' : List Int} {v v' : Nat} : upd (KS u KC F v L) 1 (.row v' 1 (intC L')) = KS u KC F v' L' := by
  funext i
  unfold KS upd
  by_cases e1 : i = 1
  · subst e1; simp
  · simp [e1]

/-- Fuel as it has to be. -/
structure FuelIs (g : GrD) (n : Nat) (F : List Int) : Prop where
  len : F.length = n
  home : ∀ c, c < n → g.home.getD c false = true → F.getD c 0 = 0
  best : ∀ c, c < n → g.home.getD c false = false → F.getD c 0 = bst g (-1) F c
  lo : ∀ c, c < n → -1 ≤ F.getD c 0 ∧ F.getD c 0 ≤ 24000

theorem mem_homeQ {x : Int} {c : Nat} : x ∈ homeQ g c ↔ ∃ i : Nat, i < c ∧ x = i ∧ g.home.getD i false = true := by
  induction c with
  | zero => simp [homeQ]
  | succ c ih =>
    unfold homeQ
    rw [List.mem_append, ih]
    constructor
    · rintro (⟨i, h1, h2⟩ | h)
      · exact ⟨i, by omega, h2⟩
      · split at h
        · rename_i e; exact ⟨c, by omega, by simpa using h, e⟩
        · simp at h
    · rintro ⟨i, h1, h2, h3⟩
      by_cases e : i = c
      · subst e; right; rw [if_pos h3]; simp [h2]
      · exact .inl ⟨i, by omega, h2, h3⟩

theorem fuel_start (hg : GrOk g n P) (hn : n ≤ 60) (hP : P ≤ 400) : SetI g n P 24000 (-1) (freeG g fun _ => true) (fuelL g n n) (fuelL g n n) (pendQ g (homeQ g n)) := by
  have hat : ∀ c, c < n → (fuelL g n n).getD c 0 = if g.home.getD c false = true then 0 else -1 := fun c hc => by rw [fuelL_at hc, if_pos hc]
  refine ⟨fuelL_len, fun c hc => ?_, fun c hc h0 => ?_, fun c hc hf h0 => ?_, fun c hc hf h0 h1 => ?_, fun c hc hf => rfl⟩
  · rw [hat c hc]; split <;> omega
  · have e : (fuelL g n n).getD c 0 ≤ 0 := by rw [hat c hc]; split <;> omega
    have h2 : negs (fuelL g n n) ≤ n := by have := List.countP_le_length (p := fun v : Int => decide (v < 0)) (l := fuelL g n n); rw [fuelL_len] at this; exact this
    have h3 := Int.mul_le_mul (a := P) (b := (negs (fuelL g n n) : Int)) (c := 400) (d := 60) hP (by omega) (by omega) (by omega)
    omega
  · rw [hat c hc, hf.1] at h0
    simp at h0
  · obtain ⟨x, x1, x2, _⟩ := (bestL_ok (fuelL g n n) (-1) _ (hg.pos hc)).hit h0
    obtain ⟨⟨s1, s2⟩, _, _, s5⟩ := hg.st c hc x x1
    have h3 := x2.2
    rw [hat _ (by omega)] at h3
    refine ⟨x.1, mem_homeQ.2 ⟨x.1.toNat, by omega, by omega, ?_⟩, s5⟩
    apply Classical.byContradiction
    intro hh
    rw [if_neg hh] at h3
    omega

theorem f44K (c : Int) {K : KMap} {N : Nat} (hK : ∀ i o, K i = some o → i < N ∧ o.below N = true) : PureK Try.prog 44 [tI c] K N (· = tB true) := by
  refine PureK.of_awp hm Try.func44 s44_ok (by simp [s44]) ?_
  simp only [go_sem, s44, ↓reduceIte, reduceCtorEq, Nat.reduceEqDiff, Nat.reduceAdd, Nat.reduceSub, Nat.reduceMul, Nat.reduceLT, Nat.reduceLeDiff, Int.reduceToNat]
  exact ⟨rfl, KLe.self hK⟩

theorem f19 (hg : GrOk g n P) (hn : n ≤ 60) (hP : P ≤ 400) :
    Spec Try.prog 19 [tC (.rp (encGr g))] emp 0 fun d K N => N = 1 ∧ d = tC (.own 0 0 0 n) ∧ ∃ F, K = upd emp 0 (.row 0 1 (intC F)) ∧ FuelIs g n F := by
  refine Spec.of_awp hm Try.func19 s19_ok (by simp [s19]) ?_
  have elh : (bools g.home).length = n := by simp [bools, hg.lh]
  simp only [go_sem, s19, encGr, elh, evMkslice, Int.toNat_natCast, List.map_cons, List.map_nil, ↓reduceIte, reduceCtorEq, Nat.reduceEqDiff, Nat.reduceAdd, Nat.reduceSub, Nat.reduceMul, Nat.reduceLT, Nat.reduceLeDiff, Int.reduceToNat]
  refine ⟨⟨by omega, by omega, by omega⟩, ?_⟩
  refine awp_loop (fun x : Nat × Nat => ⟨upd (upd (upd (upd (upd (upd emp 0 (tC (.rp (encGr g)))) 3 (tC (.own 0 0 0 n))) 4 (tC (.own 1 x.2 0 (homeQ g x.1).length))) 16 (tC (.r (.rd 1 (bools g.home))))) 17 (tI n)) 18 (tI x.1), KS 0 emp (fuelL g n x.1) x.2 (homeQ g x.1), 2⟩) (fun x => n - x.1) (fun x => x.1 ≤ n) (0, 0) (Nat.zero_le _) ?_ ?_
  · have e0 : intC (fuelL g n 0) = List.replicate n [cV (.int .i64 0)] := by
      refine List.ext_getElem (by simp [intC, fuelL]) fun j h1 h2 => ?_
      simp [intC, fuelL]
    have e : KS 0 emp (fuelL g n 0) 0 (homeQ g 0) = upd (upd emp 0 (.row 0 1 (List.replicate n [cV (.int .i64 0)]))) 1 (.row 0 1 []) := by unfold KS; rw [e0]; rfl
    dsimp only
    rw [e]
    refine Weak.trans (Weak.nilTm 4 1 rfl) (Weak.cutTm ?_)
    repeat (first | exact TmCut.nil | refine TmCut.cons rfl ?_)
  · rintro ⟨c, v⟩ hc
    simp only at hc
    simp only [go_sem, s19_7, ↓reduceIte, reduceCtorEq, Nat.reduceEqDiff, Nat.reduceAdd, Nat.reduceSub, Nat.reduceMul, Nat.reduceLT, Nat.reduceLeDiff, Int.reduceToNat]
    refine twoQ_at (fun q => ?_) (fun q => ?_)
    · have hc' : c < n := by have := of_decide_eq_true q; omega
      have hwr : IntKind.i64.wrap ((c : Int) + 1) = ((c + 1 : Nat) : Int) := wrap_i (by omega) (by omega)
      have eh : (bools g.home).getD c [] = [.val (.bool (g.home.getD c false))] := by
        have := hg.lh
        simp [bools, List.getD_eq_getElem?_getD, show c < g.home.length by omega]
      have k0 : KS 0 emp (fuelL g n c) v (homeQ g c) 0 = some (.row 0 1 (intC (fuelL g n c))) := rfl
      have k1 : ∀ o, upd (KS 0 emp (fuelL g n c) v (homeQ g c)) 0 o 1 = some (.row v 1 (intC (homeQ g c))) := fun o => rfl
      have hlc := homeQ_len (g := g) (c := c)
      have hfc : c < (fuelL g n c).length := by rw [fuelL_len]; exact hc'
      simp only [go_sem, s19_6, k0, eh, elh, intC_len, fuelL_len, Int.toNat_natCast, Nat.zero_add, intC_at hfc, List.drop_succ_cons, List.drop_zero, ↓reduceIte, reduceCtorEq, Nat.reduceEqDiff, Nat.reduceAdd, Nat.reduceSub, Nat.reduceMul, Nat.reduceLT, Nat.reduceLeDiff, Int.reduceToNat]
      refine ⟨⟨by omega, by omega⟩, ⟨by omega, by omega, Nat.le_refl _⟩, hc', ?_⟩
      rw [show ((intC (fuelL g n c)).set c [C.r (R.val (Value.int IntKind.i64 (-1)))]) = intC ((fuelL g n c).set c (-1)) from intC_set, KS_upd0]
      refine twoQ_at (fun g1 => ?_) (fun g1 => ?_)
      · have k0' : KS 0 emp ((fuelL g n c).set c (-1)) v (homeQ g c) 0 = some (.row 0 1 (intC ((fuelL g n c).set c (-1)))) := rfl
        have k1' : KS 0 emp ((fuelL g n c).set c (-1)) v (homeQ g c) 1 = some (.row v 1 (intC (homeQ g c))) := rfl
        have hfc2 : c < ((fuelL g n c).set c (-1)).length := by rw [List.length_set]; exact hfc
        simp only [go_sem, s19_5, s19_4, k0', k1', intC_at hfc2, List.drop_succ_cons, List.drop_zero, hwr, intC_len, fuelL_len, List.length_set, Int.toNat_natCast, Nat.zero_add, evAppend, srcRows, rowsOf, ↓reduceIte, reduceCtorEq, Nat.reduceEqDiff, Nat.reduceAdd, Nat.reduceSub, Nat.reduceMul, Nat.reduceLT, Nat.reduceLeDiff, Int.reduceToNat]
        have hQ : homeQ g (c + 1) = homeQ g c ++ [(c : Int)] := by
          rw [show homeQ g (c + 1) = homeQ g c ++ (if g.home.getD c false = true then [(c : Int)] else []) from rfl, if_pos g1]
        refine ⟨⟨by omega, by omega, Nat.le_refl _⟩, hc', ⟨by omega, by omega⟩, (c + 1, v + 1), by simp only; omega, by simp only; omega, Weak.keep ?_ (KS_put (N1 := 2) (by omega) (fun i o h => by cases h) ?_ ?_) (Nat.zero_le _) (by omega)⟩
        · refine TmLe.cons rfl rfl (TmLe.cons rfl rfl (TmLe.cons rfl rfl (TmLe.cons ?_ rfl (TmLe.cons rfl rfl (TmLe.cons rfl rfl TmLe.nil)))))
          simp [upd, hQ]
        · rw [← fuelL_yes hc' g1]
          exact congrArg (AObj.row 0 1) intC_set
        · simp only [hQ]
          simp [intC]
      · have hQ : homeQ g (c + 1) = homeQ g c := by unfold homeQ; rw [if_neg (by rw [g1]; decide), List.append_nil]; cases c <;> rfl
        simp only [go_sem, s19_4, hwr, ↓reduceIte, reduceCtorEq, Nat.reduceEqDiff, Nat.reduceAdd, Nat.reduceSub, Nat.reduceMul, Nat.reduceLT, Nat.reduceLeDiff, Int.reduceToNat]
        refine ⟨(c + 1, v), by simp only; omega, by simp only; omega, ?_⟩
        rw [fuelL_no hc' (by rw [g1]; decide), ← hQ]
        exact Weak.cutTm (by repeat (first | refine TmCut.cons rfl ?_ | refine TmCut.cons (by simp [upd, *]; done) ?_ | exact TmCut.nil))
    · have hc' : c = n := by have := of_decide_eq_false q; omega
      subst hc'
      simp only [go_sem, s19_3, ↓reduceIte, reduceCtorEq, Nat.reduceEqDiff, Nat.reduceAdd, Nat.reduceSub, Nat.reduceMul, Nat.reduceLT, Nat.reduceLeDiff, Int.reduceToNat]
      have h43 := f43 (u := 0) (KC := emp) (N1 := 2) (m := 44) (caps := []) (may := fun _ => true) (but := -1) (P := P) (B := 24000) (F := fuelL g c c) (v := v) (L := homeQ g c) hg (by omega) (by omega) ⟨by omega, by omega⟩ (by omega) (fun i o h => by cases h) (fun x h => by cases h)
        (fun d hd F v L => f44K d (fun i o h => KS_ok (by omega) (fun i o h => by cases h) h)) (fuel_start hg hn hP) (fun y hy => by
          obtain ⟨i, h1, h2, _⟩ := mem_homeQ.1 hy
          omega) (by have := homeQ_len (g := g) (c := c); omega)
      have hcall := fun R hR => Spec.callShift (N0 := 0) (K0 := emp) h43 (fun i o h => KS_ok (by omega) (fun i o h => by cases h) h) (args := [tC (.rp (encGr g)), tC (.own 0 0 0 c), tC (.own 1 v 0 (homeQ g c).length), tI (-1), tC (.fn 44 [])]) (by simp only [addN0]; rfl) (fun a ha => by
          simp only [List.mem_cons, List.not_mem_nil, or_false] at ha
          rcases ha with rfl | rfl | rfl | rfl | rfl <;> rfl) (q := false) (R := R) hR
      rw [joinK0] at hcall
      refine hcall _ (fun d K' N' hQ hle => ⟨(fun h => by cases h), ?_⟩)
      obtain ⟨rfl, rfl, F', v', L', rfl, hsi⟩ := hQ
      rw [joinK0]
      simp only [go_sem, s19_2, s19_1, ↓reduceIte, reduceCtorEq, Nat.reduceEqDiff, Nat.reduceAdd, Nat.reduceSub, Nat.reduceMul, Nat.reduceLT, Nat.reduceLeDiff, Int.reduceToNat]
      refine ⟨_, _, 1, _, Back.intC1 rfl rfl, rfl, rfl, F', rfl, hsi.len, fun d hd hh => ?_, fun d hd hh => ?_, fun d hd => ⟨hsi.lo d hd, ?_⟩⟩
      · rw [hsi.fr d hd (fun hf => by rw [hf.1] at hh; cases hh), fuelL_at hd, if_pos hd, if_pos hh]
      · have h1 := hsi.lo d hd
        have h2 := hsi.i1 d hd ⟨hh, rfl⟩
        have h3 := hsi.i2 d hd ⟨hh, rfl⟩
        have h4 : bst g (-1) F' d < 0 → bst g (-1) F' d = -1 := fun h => by
          have := (bestL_ok F' (-1) _ (hg.pos hd)).no h
          unfold bst
          rw [this]
        by_cases hb : 0 ≤ bst g (-1) F' d
        · by_cases h5 : F'.getD d 0 < 0 ∨ bst g (-1) F' d < F'.getD d 0
          · exact (h3 hb h5).elim
          · have := h2 (by omega)
            omega
        · have := h4 (by omega)
          by_cases h5 : 0 ≤ F'.getD d 0
          · have := h2 h5; omega
          · omega
      · by_cases h5 : 0 ≤ F'.getD d 0
        · have := hsi.up d hd h5
          have : 0 ≤ P * (negs F' : Int) := Int.mul_nonneg (by have := hg.p1; omega) (by omega)
          omega
        · omega
end Go.Proofs.Yticflcpmlbaafaa.AL

/- Energy: Fuel. -/
set_option linter.unusedSimpArgs false
set_option linter.unusedVariables false
namespace Go.Proofs.Yticflcpmlbaafaa.AL
open Go
variable {s : SiteD} {bl : List Int}

theorem KG_mixG {K : KMap} {X : Nat → Prop} {n : Nat} {O : Nat → List (Int × Int)} {I : Nat → List Int} {H : List Bool} {VO VI : Nat → Nat} {σ : Nat → Nat} {N1 i0 i1 i2 i3 b1 b2 : Nat}
    (k0 : K i0 = some (.row 0 3 [[.own i1 0 0 n, .own i2 0 0 n, .own i3 0 0 n]])) (k1 : K i1 = some (.row 0 1 (ownRow b1 VO (fun i => (O i).length) n))) (k2 : K i2 = some (.row 0 1 (ownRow b2 VI (fun i => (I i).length) n))) (k3 : K i3 = some (.row 0 1 (rowC boolR H)))
    (ko : ∀ i, i < n → K (b1 + i) = some (.row (VO i) 2 (rowC stepR (O i)))) (ki : ∀ i, i < n → K (b2 + i) = some (.row (VI i) 1 (intC (I i)))) (hX : ∀ i, X i) (hH : H.length = n) :
    MixC K X σ N1 (.ptr i0 0 0 0) (.rp (encGr ⟨(List.range n).map O, (List.range n).map I, H⟩)) := by
  refine .inr (.inr ⟨i0, 0, 3, _, 0, _, rfl, rfl, hX _, k0, by simp, by simp [encGr], fun k c r hc hr => ?_⟩)
  match k with
  | 0 =>
    cases hc; cases hr
    exact ownRow_castX (f := stepR) (sz := 2) (hX _) k1 (fun l => rfl) (fun x => rfl) (fun i hi => hX _) ko
  | 1 =>
    cases hc; cases hr
    exact ownRow_castX (f := fun x => [R.val (.int .i64 x)]) (sz := 1) (hX _) k2 (fun l => rfl) (fun x => rfl) (fun i hi => hX _) ki
  | 2 =>
    cases hc; cases hr
    have := rowC_castX (f := boolR) (l := H) (fun x => rfl) (hX i3) k3
    rw [hH] at this
    exact this
  | k + 3 => simp [encGr] at hr

theorem KGs_mix {K0 : KMap} {b : Nat} {X : Nat → Prop} {σ : Nat → Nat} {N1 : Nat} {VO VI : Nat → Nat} (hX : ∀ i, X i) : MixC (joinK b K0 (KGs s bl VO VI)) X σ N1 (.ptr b 0 0 0) (.rp (encGr (grF s bl))) := by
  have up : ∀ i, joinK b K0 (KGs s bl VO VI) (b + i) = (KGs s bl VO VI i).map (AObj.ren (addN b)) := fun i => by
    unfold joinK
    rw [if_neg (by omega), show b + i - b = i by omega]
  refine KG_mixG (i1 := b + 1) (i2 := b + 2) (i3 := b + 3) (b1 := b + 4) (b2 := b + (4 + s.floor.kind.length)) (VO := VO) (VI := VI) ?_ ?_ ?_ ?_ (fun i hi => ?_) (fun i hi => ?_) hX (by simp [homeL])
  · have := up 0
    rw [Nat.add_zero] at this
    rw [this]; simp [KGs, KG, AObj.ren, C.ren, addN, Nat.add_comm]
  · rw [up 1]
    exact congrArg (fun x => some (AObj.row 0 1 x)) (ownRow_ren (b := 4) (b' := b + 4) (fun i _ => by unfold addN; omega))
  · rw [up 2]
    exact congrArg (fun x => some (AObj.row 0 1 x)) (ownRow_ren (b := 4 + s.floor.kind.length) (b' := b + (4 + s.floor.kind.length)) (fun i _ => by unfold addN; omega))
  · rw [up 3]
    exact congrArg some rowC_ren
  · rw [show b + 4 + i = b + (4 + i) by omega, up, KGs, KG_at_O hi]
    exact congrArg some rowC_ren
  · rw [show b + (4 + s.floor.kind.length) + i = b + (4 + s.floor.kind.length + i) by omega, up, KGs, KG_at_I hi]
    exact congrArg some intC_ren

def PF (g : GrD) (n : Nat) (d : T) (K : KMap) (N : Nat) : Prop := N = 1 ∧ d = tC (.own 0 0 0 n) ∧ ∃ F, K = upd emp 0 (.row 0 1 (intC F)) ∧ FuelIs g n F

theorem f7 (h0 : FloorOk s.floor) (hz : ZonesOk s) (hs : SpeedOk s) (hn : s.floor.kind.length ≤ 60) (hbl : bl.length ≤ 1000000) :
    Spec Try.prog 7 [.v (.agg (encSite s)), tC (.r (.rd 1 (ints bl)))] emp 0 (PF (grF s bl) s.floor.kind.length) := by
  refine Spec.of_awp hm Try.func7 s7_ok (by simp [s7]) ?_
  simp only [go_sem, s7, enc_len, enc_take, Nat.le_refl, true_and, ↓reduceIte, reduceCtorEq, Nat.reduceEqDiff, Nat.reduceAdd, Nat.reduceSub, Nat.reduceMul, Nat.reduceLT, Nat.reduceLeDiff, Int.reduceToNat]
  refine Spec.plain (f18 h0 hz hs hbl) (liftA_refl rfl) (fun d K1 N1 hP => ?_)
  obtain ⟨rfl, rfl, VO, VI, rfl⟩ := hP
  simp only [go_sem, s7_2, ↓reduceIte, reduceCtorEq, Nat.reduceEqDiff, Nat.reduceAdd, Nat.reduceSub, Nat.reduceMul, Nat.reduceLT, Nat.reduceLeDiff, Int.reduceToNat]
  show CallW Try.prog false 19 [tC (.ptr 1 0 0 0)] _ _ _
  refine Spec.callMix (args := [tC (.ptr 1 0 0 0)]) (K1 := emp) (N1 := 0) (f19 (grF_ok (bl := bl) h0 hs) hn (by decide)) (fun i => i) (fun i hi => by omega) (fun i j hi => by omega) (fun i o h => by cases h) ⟨KGs_mix (fun _ i hi => by omega), trivial⟩ (fun d K' N' hQ => ?_) (fun d K' N' hQ hle => ⟨(fun h => by cases h), ?_⟩)
  · obtain ⟨rfl, rfl, F, rfl, hF⟩ := hQ
    refine ⟨rfl, fun i o h => ?_⟩
    unfold upd at h
    split at h
    · cases h; simp [AObj.flat, intC, C.flat]; intro x _; rfl
    · cases h
  · obtain ⟨rfl, rfl, F, rfl, hF⟩ := hQ
    simp only [go_sem, s7_1, ↓reduceIte, reduceCtorEq, Nat.reduceEqDiff, Nat.reduceAdd, Nat.reduceSub, Nat.reduceMul, Nat.reduceLT, Nat.reduceLeDiff, Int.reduceToNat]
    refine ⟨trivial, _, _, 1, _, Back.intC1 (i := upTo (fun i => i) 0 (1 + (4 + s.floor.kind.length + s.floor.kind.length)) 0) (v := 0) (n := 1) (l := F) ?_ rfl, rfl, rfl, F, rfl, hF⟩
    unfold joinS
    dsimp only
    rw [downTo_up (fun i hi => by omega) (fun i j hi => by omega)]
    exact congrArg some intC_ren
end Go.Proofs.Yticflcpmlbaafaa.AL

/- Energy: Clone. -/
set_option linter.unusedSimpArgs false
set_option linter.unusedVariables false
namespace Go.Proofs.Yticflcpmlbaafaa.AL
open Go

theorem f25 (l : List Int) (hl : l.length ≤ 1000000) : Spec Try.prog 25 [tC (.r (.rd 1 (ints l)))] emp 0 fun d K N => (∃ v, d = tC (.own 0 v 0 l.length) ∧ K = upd emp 0 (.row v 1 (intC l)) ∧ N = 1) ∨ (l = [] ∧ d = tC (cV nilS) ∧ K = emp ∧ N = 0) := by
  refine Spec.of_awp hm Try.func25 s25_ok (by simp [s25]) ?_
  simp only [go_sem, s25, ↓reduceIte, reduceCtorEq, Nat.reduceEqDiff, Nat.reduceAdd, Nat.reduceSub, Nat.reduceMul, Nat.reduceLT, Nat.reduceLeDiff, Int.reduceToNat]
  have e1 : (ints l).map (fun x => x.map C.r) = intC l := by
    refine List.ext_getElem (by simp [ints, intC]) fun j h1 h2 => ?_
    simp [ints, intC]
  refine ⟨fun e => ?_, ?_⟩
  · have e2 : l = [] := by cases l with
      | nil => rfl
      | cons x l => simp [ints] at e
    refine twoQ_yes rfl ?_
    simp only [go_sem, s25_2, ↓reduceIte, reduceCtorEq, Nat.reduceEqDiff, Nat.reduceAdd, Nat.reduceSub, Nat.reduceMul, Nat.reduceLT, Nat.reduceLeDiff, Int.reduceToNat]
    exact ⟨_, _, _, _, Back.data rfl, .inr ⟨e2, rfl, rfl, rfl⟩⟩
  · refine twoQ_no rfl ?_
    simp only [go_sem, s25_1, ints_len, evAppend, srcRows, rowsOf, ↓reduceIte, reduceCtorEq, Nat.reduceEqDiff, Nat.reduceAdd, Nat.reduceSub, Nat.reduceMul, Nat.reduceLT, Nat.reduceLeDiff, Int.reduceToNat]
    rw [e1, intC_len]
    exact ⟨⟨by omega, by omega⟩, _, _, 1, _, Back.intC1 rfl rfl, .inl ⟨1, rfl, rfl, rfl⟩⟩
end Go.Proofs.Yticflcpmlbaafaa.AL

/- Energy: the closure of without. -/
set_option linter.unusedSimpArgs false
set_option linter.unusedVariables false
namespace Go.Proofs.Yticflcpmlbaafaa.AL
open Go

theorem f51 (c : Int) {K : KMap} {N p q : Nat} {es : List (Value × V)} (hp : K p = some (.row 0 1 [[.map q]])) (hq : K q = some (.map es)) (hes : es.all (fun e => keyOk (.sc 6) e.1) = true)
    (hK : ∀ i o, K i = some o → i < N ∧ o.below N = true) : PureK Try.prog 51 [tI c, tC (.ptr p 0 0 0)] K N (· = tB (mfind es (.int .i64 c)).isSome) := by
  refine PureK.of_awp hm Try.func51 s51_ok (by simp [s51]) ?_
  simp only [go_sem, s51, hp, hq, hes, ↓reduceIte, reduceCtorEq, Nat.reduceEqDiff, Nat.reduceAdd, Nat.reduceSub, Nat.reduceMul, Nat.reduceLT, Nat.reduceLeDiff, Int.reduceToNat]
  exact ⟨rfl, rfl, KLe.self hK⟩
end Go.Proofs.Yticflcpmlbaafaa.AL

/- Energy: fuel is determined by its law. -/
set_option linter.unusedSimpArgs false
set_option linter.unusedVariables false
namespace Go.Proofs.Yticflcpmlbaafaa.AL
open Go
variable {g : GrD} {n : Nat} {P but : Int} {free : Nat → Prop}

/-- Fuel that is best in all free cells. -/
def Sol (g : GrD) (n : Nat) (but : Int) (free : Nat → Prop) (F : List Int) : Prop := ∀ c, c < n → free c → F.getD c 0 = bst g but F c

theorem sol_half (hg : GrOk g n P) {F F' : List Int} (h : Sol g n but free F) (h' : Sol g n but free F') (heq : ∀ c, c < n → ¬ free c → F.getD c 0 = F'.getD c 0) {k : Nat}
    (ih : ∀ c, c < n → (0 ≤ F.getD c 0 → F.getD c 0 < k → F'.getD c 0 = F.getD c 0) ∧ (0 ≤ F'.getD c 0 → F'.getD c 0 < k → F.getD c 0 = F'.getD c 0)) {c : Nat} (hc : c < n) (h0 : 0 ≤ F.getD c 0) (h1 : F.getD c 0 < (k : Int) + 1) : F'.getD c 0 = F.getD c 0 := by
  by_cases hf : free c
  · have e := h c hc hf
    have e' := h' c hc hf
    obtain ⟨x, x1, x2, x3⟩ := (bestL_ok F but _ (hg.pos hc)).hit (by unfold bst at e; omega)
    obtain ⟨⟨s1, s2⟩, s3, s4, s5⟩ := hg.st c hc x x1
    have eb : bst g but F c = F.getD x.1.toNat 0 + x.2 := by
      have : bst g but F c = (bestL F but (g.out.getD c [])).1 := rfl
      rw [this, x3]
    have h2 := x2.2
    have ex := (ih x.1.toNat (by omega)).1 h2 (by omega)
    have hle := (bestL_ok F' but _ (hg.pos hc)).le x x1 ⟨x2.1, by omega⟩ (by omega)
    have hb : bst g but F' c = (bestL F' but (g.out.getD c [])).1 := rfl
    rw [← hb] at hle
    by_cases h3 : F'.getD c 0 < k
    · exact ((ih c hc).2 (by omega) h3).symm
    · omega
  · exact (heq c hc hf).symm

theorem sol_unique (hg : GrOk g n P) {F F' : List Int} (hl : F.length = n) (hl' : F'.length = n) (h : Sol g n but free F) (h' : Sol g n but free F') (heq : ∀ c, c < n → ¬ free c → F.getD c 0 = F'.getD c 0) : F = F' := by
  have main : ∀ k : Nat, ∀ c, c < n → (0 ≤ F.getD c 0 → F.getD c 0 < k → F'.getD c 0 = F.getD c 0) ∧ (0 ≤ F'.getD c 0 → F'.getD c 0 < k → F.getD c 0 = F'.getD c 0) := by
    intro k
    induction k with
    | zero => exact fun c hc => ⟨fun a b => by omega, fun a b => by omega⟩
    | succ k ih =>
      exact fun c hc => ⟨fun a b => sol_half hg h h' heq ih hc a (by omega), fun a b => sol_half hg h' h (fun d hd hf => (heq d hd hf).symm) (fun d hd => ⟨(ih d hd).2, (ih d hd).1⟩) hc a (by omega)⟩
  refine List.ext_getElem (by rw [hl, hl']) fun c h1 h2 => ?_
  have hc : c < n := by omega
  have e : F.getD c 0 = F'.getD c 0 := by
    by_cases a : 0 ≤ F.getD c 0
    · exact ((main ((F.getD c 0).toNat + 1) c hc).1 a (by omega)).symm
    · by_cases b : 0 ≤ F'.getD c 0
      · exact (main ((F'.getD c 0).toNat + 1) c hc).2 b (by omega)
      · by_cases hf : free c
        · have e1 := h c hc hf
          have e2 := h' c hc hf
          have n1 := (bestL_ok F but _ (hg.pos hc)).no (by unfold bst at e1; omega)
          have n2 := (bestL_ok F' but _ (hg.pos hc)).no (by unfold bst at e2; omega)
          unfold bst at e1 e2
          rw [n1] at e1
          rw [n2] at e2
          omega
        · exact heq c hc hf
  simpa [List.getD_eq_getElem?_getD, h1, h2] using e
end Go.Proofs.Yticflcpmlbaafaa.AL

/- Energy: maps without a key twice; the cells below one in a tree. -/
set_option linter.unusedSimpArgs false
set_option linter.unusedVariables false
namespace Go.Proofs.Yticflcpmlbaafaa.AL
open Go

theorem keyI {v : Value} (h : keyOk (.sc 6) v = true) : ∃ n, v = ki n := by
  cases v with
  | int k n => cases k <;> simp [keyOk, tagOf, kindNo] at h; exact ⟨n, rfl⟩
  | _ => simp [keyOk, tagOf] at h

theorem mset_keys {m : Int} {d : V} : ∀ {es : List (Value × V)}, es.all (fun e => keyOk (.sc 6) e.1) = true → (mset es (ki m) d).map (·.1) = if (mfind es (ki m)).isSome then es.map (·.1) else es.map (·.1) ++ [ki m]
  | [], _ => rfl
  | (k', d') :: es, h => by
    simp only [List.all_cons, Bool.and_eq_true] at h
    simp only [mset, mfind]
    by_cases e : keyEq (ki m) k' = true
    · have := keyEq_eq (ki_ok m) h.1 e
      subst this
      simp [e]
    · simp only [e, Bool.false_eq_true, if_false, List.map_cons, mset_keys h.2]
      split <;> simp

theorem mfind_mem : ∀ {es : List (Value × V)} {k : Value} {d : V}, es.all (fun e => keyOk (.sc 6) e.1) = true → keyOk (.sc 6) k = true → mfind es k = some d → (k, d) ∈ es
  | [], k, d, _, _, h => by cases h
  | (k', d') :: es, k, d, h, hk, hf => by
    simp only [List.all_cons, Bool.and_eq_true] at h
    simp only [mfind] at hf
    by_cases e : keyEq k k' = true
    · rw [if_pos e] at hf
      cases hf
      rw [keyEq_eq hk h.1 e]
      exact List.mem_cons_self
    · rw [if_neg e] at hf
      exact List.mem_cons_of_mem _ (mfind_mem h.2 hk hf)

theorem mfind_not {n : Int} : ∀ {es : List (Value × V)}, es.all (fun e => keyOk (.sc 6) e.1) = true → ki n ∉ es.map (·.1) → mfind es (ki n) = none
  | [], _, _ => rfl
  | (k', d') :: es, h, hn => by
    simp only [List.all_cons, Bool.and_eq_true] at h
    simp only [List.map_cons, List.mem_cons, not_or] at hn
    simp only [mfind]
    rw [if_neg (fun e => hn.1 (keyEq_eq (ki_ok n) h.1 e))]
    exact mfind_not h.2 hn.2

theorem mfind_of_mem {n : Int} {d : V} : ∀ {es : List (Value × V)}, es.all (fun e => keyOk (.sc 6) e.1) = true → (es.map (·.1)).Nodup → (ki n, d) ∈ es → mfind es (ki n) = some d
  | [], _, _, h => by cases h
  | (k', d') :: es, h, hn, hm => by
    simp only [List.all_cons, Bool.and_eq_true] at h
    simp only [List.map_cons, List.nodup_cons] at hn
    simp only [mfind]
    rcases List.mem_cons.1 hm with e | hm
    · cases e
      simp [ki_eq]
    · rw [if_neg (fun e => hn.1 (by rw [← keyEq_eq (ki_ok n) h.1 e]; exact List.mem_map.2 ⟨_, hm, rfl⟩))]
      exact mfind_of_mem h.2 hn.2 hm

theorem mfind_snoc {k k' : Value} {d : V} : ∀ {es : List (Value × V)}, mfind (es ++ [(k, d)]) k' = (mfind es k').or (if keyEq k' k then some d else none)
  | [] => by simp [mfind]
  | (a, b) :: es => by
    simp only [List.cons_append, mfind, mfind_snoc (es := es)]
    split <;> rfl

/-- A map from numbers in which no key stands twice. -/
structure NMap (es : List (Value × V)) (φ : Int → Option V) : Prop where
  im : IMap es φ
  nd : (es.map (·.1)).Nodup

theorem NMap.nil : NMap [] (fun _ => none) := ⟨IMap.nil, List.nodup_nil⟩
theorem NMap.set {es : List (Value × V)} {φ : Int → Option V} (h : NMap es φ) (m : Int) (d : V) (hd : d.below 0 = true) : NMap (mset es (ki m) d) (fun n => if n = m then some d else φ n) := by
  refine ⟨h.im.set m d hd, ?_⟩
  rw [mset_keys h.im.1]
  split
  · exact h.nd
  · rename_i e
    rw [List.nodup_append]
    refine ⟨h.nd, by simp, fun a ha b hb => ?_⟩
    simp only [List.mem_singleton] at hb
    subst hb
    intro e2
    subst e2
    obtain ⟨x, hx, hx2⟩ := List.mem_map.1 ha
    obtain ⟨k, dd⟩ := x
    simp only at hx2
    subst hx2
    rw [mfind_of_mem h.im.1 h.nd hx] at e
    exact e rfl
theorem NMap.congr {es : List (Value × V)} {φ ψ : Int → Option V} (h : NMap es φ) (hp : ∀ n, φ n = ψ n) : NMap es ψ := ⟨h.im.congr hp, h.nd⟩
theorem NMap.mem {es : List (Value × V)} {φ : Int → Option V} (h : NMap es φ) {e : Value × V} (he : e ∈ es) : ∃ n, e.1 = ki n ∧ φ n = some e.2 := by
  obtain ⟨n, hn⟩ := keyI (List.all_eq_true.1 h.im.1 e he)
  refine ⟨n, hn, ?_⟩
  rw [← h.im.2.2]
  refine mfind_of_mem h.im.1 h.nd ?_
  rw [← hn]
  exact he
theorem NMap.perm {es es' : List (Value × V)} {φ : Int → Option V} (h : NMap es φ) (hp : es.Perm es') : NMap es' φ := by
  have h1 : es'.all (fun e => keyOk (.sc 6) e.1) = true := by rw [List.all_eq_true]; exact fun e he => List.all_eq_true.1 h.im.1 e (hp.mem_iff.2 he)
  have h2 : es'.all (fun e => e.2.below 0) = true := by rw [List.all_eq_true]; exact fun e he => List.all_eq_true.1 h.im.2.1 e (hp.mem_iff.2 he)
  have h3 : (es'.map (·.1)).Nodup := (hp.map _).nodup_iff.1 h.nd
  refine ⟨⟨h1, h2, fun n => ?_⟩, h3⟩
  cases hf : φ n with
  | some d => exact mfind_of_mem h1 h3 (hp.mem_iff.1 (mfind_mem h.im.1 (ki_ok n) (by rw [h.im.2.2, hf])))
  | none =>
    refine mfind_not h1 fun hm => ?_
    obtain ⟨x, hx, hx2⟩ := List.mem_map.1 hm
    obtain ⟨m, hm1, hm2⟩ := h.mem (hp.mem_iff.2 hx)
    rw [hx2] at hm1
    cases hm1
    rw [hf] at hm2
    cases hm2
/-- In the rounds of a range over the map: the next key has not come before. -/
theorem NMap.round {es done rest : List (Value × V)} {e : Value × V} {φ : Int → Option V} (h : NMap es φ) (hp : es.Perm (done ++ e :: rest)) : ∃ n, e.1 = ki n ∧ φ n = some e.2 ∧ mfind done (ki n) = none ∧ ∀ m, mfind (done ++ [e]) (ki m) = if m = n then some e.2 else mfind done (ki m) := by
  have h' := h.perm hp
  obtain ⟨n, hn, hf⟩ := h'.mem (e := e) (by simp)
  have hnd := h'.nd
  rw [List.map_append, List.map_cons, List.nodup_append] at hnd
  have hall : done.all (fun e => keyOk (.sc 6) e.1) = true := by have := h'.im.1; rw [List.all_append, Bool.and_eq_true] at this; exact this.1
  have hnone : mfind done (ki n) = none := mfind_not hall fun hm => hnd.2.2 _ hm e.1 (by simp) hn.symm
  refine ⟨n, hn, hf, hnone, fun m => ?_⟩
  obtain ⟨k, d⟩ := e
  simp only at hn
  subst hn
  rw [mfind_snoc, ki_eq]
  by_cases em : m = n
  · subst em; simp [hnone]
  · simp [em]

/-! A tree over the cells. -/
def chI (ch : List (List Int)) (c : Int) : List Int := ch.getD c.toNat []

structure ChOk (ch : List (List Int)) (F : List Int) (n : Nat) : Prop where
  len : ch.length = n
  rng : ∀ y, y < n → ∀ c, c ∈ ch.getD y [] → 0 ≤ c ∧ c < n
  nd : ∀ y, y < n → (ch.getD y []).Nodup
  up : ∀ y, y < n → ∀ c, c ∈ ch.getD y [] → F.getD y 0 < F.getD c.toNat 0
  un : ∀ y z c, y < n → z < n → c ∈ ch.getD y [] → c ∈ ch.getD z [] → y = z

structure BelI (ch : List (List Int)) (F : List Int) (n x : Nat) (L : List Int) (i : Nat) : Prop where
  eq : L = ch.getD x [] ++ (L.take i).flatMap (chI ch)
  nd : L.Nodup
  rng : ∀ c, c ∈ L → 0 ≤ c ∧ c < n
  up : ∀ c, c ∈ L → F.getD x 0 < F.getD c.toNat 0
  il : i ≤ L.length

theorem nodup_len {n : Nat} {L : List Int} (h : L.Nodup) (hr : ∀ c, c ∈ L → 0 ≤ c ∧ c < n) : L.length ≤ n := by
  have h1 : (L.map Int.toNat).Nodup := by
    rw [List.nodup_iff_pairwise_ne, List.pairwise_map]
    rw [List.nodup_iff_pairwise_ne] at h
    refine h.imp_of_mem fun {a b} ha hb hne e => hne ?_
    have := hr a ha
    have := hr b hb
    omega
  have h2 : (L.map Int.toNat).Perm ((List.range n).filter fun i => (L.map Int.toNat).contains i) := by
    refine (List.perm_ext_iff_of_nodup h1 (List.nodup_range.filter _)).2 fun i => ?_
    rw [List.mem_filter, List.contains_iff_mem]
    refine ⟨fun hi => ⟨?_, hi⟩, fun hi => hi.2⟩
    obtain ⟨d, hd, rfl⟩ := List.mem_map.1 hi
    have := hr d hd
    simp; omega
  have h3 := h2.length_eq
  have h4 := List.length_filter_le (fun i => (L.map Int.toNat).contains i) (List.range n)
  simp only [List.length_map, List.length_range] at h3 h4
  omega

theorem BelI.start {ch : List (List Int)} {F : List Int} {n x : Nat} (h : ChOk ch F n) (hx : x < n) : BelI ch F n x (ch.getD x []) 0 :=
  ⟨by simp, h.nd x hx, h.rng x hx, h.up x hx, Nat.zero_le _⟩

theorem BelI.step {ch : List (List Int)} {F : List Int} {n x i : Nat} {L : List Int} (hc : ChOk ch F n) (hx : x < n) (h : BelI ch F n x L i) (hi : i < L.length) : BelI ch F n x (L ++ chI ch (L.getD i 0)) (i + 1) := by
  obtain ⟨y, hy⟩ : ∃ y, y = L.getD i 0 := ⟨_, rfl⟩
  have hyL : y ∈ L := by rw [hy, List.getD_eq_getElem?_getD, List.getElem?_eq_getElem hi]; exact List.getElem_mem hi
  have hyr := h.rng y hyL
  have hyn : y.toNat < n := by omega
  rw [← hy]
  have ht : L.take (i + 1) = L.take i ++ [y] := by rw [List.take_succ_eq_append_getElem hi, hy]; simp [hi]
  refine ⟨?_, ?_, fun c hm => ?_, fun c hm => ?_, by simp; omega⟩
  · rw [List.take_append_of_le_length (by omega), ht, List.flatMap_append, ← List.append_assoc, ← h.eq]
    simp
  · rw [List.nodup_append]
    refine ⟨h.nd, hc.nd _ hyn, fun a ha b hb e => ?_⟩
    subst e
    rw [h.eq] at ha
    rcases List.mem_append.1 ha with ha | ha
    · have := hc.un x y.toNat a hx hyn ha hb
      have := h.up y hyL
      subst_vars
      omega
    · obtain ⟨z, hz1, hz2⟩ := List.mem_flatMap.1 ha
      have hzr := h.rng z (List.mem_of_mem_take hz1)
      have e : z.toNat = y.toNat := hc.un z.toNat y.toNat a (by omega) hyn hz2 hb
      have ezy : z = y := by omega
      subst ezy
      have := h.nd
      rw [← List.take_append_drop i L, List.nodup_append] at this
      refine this.2.2 _ hz1 z ?_ rfl
      have e1 : L.drop i = z :: L.drop (i + 1) := by rw [List.drop_eq_getElem_cons hi, hy]; simp [hi]
      rw [e1]
      exact List.mem_cons_self
  · rcases List.mem_append.1 hm with hm | hm
    · exact h.rng c hm
    · exact hc.rng _ hyn c hm
  · rcases List.mem_append.1 hm with hm | hm
    · exact h.up c hm
    · have := hc.up _ hyn c hm
      have := h.up y hyL
      omega

/-- All that is below: a child, or a child of one below. -/
theorem BelI.mem {ch : List (List Int)} {F : List Int} {n x : Nat} {L : List Int} (h : BelI ch F n x L L.length) (c : Int) : c ∈ L ↔ c ∈ ch.getD x [] ∨ ∃ y, y ∈ L ∧ c ∈ chI ch y := by
  have := h.eq
  rw [List.take_length] at this
  constructor
  · intro hm
    rw [this] at hm
    rcases List.mem_append.1 hm with hm | hm
    · exact .inl hm
    · obtain ⟨y, h1, h2⟩ := List.mem_flatMap.1 hm
      exact .inr ⟨y, h1, h2⟩
  · rintro (hm | ⟨y, h1, h2⟩)
    · rw [this]; exact List.mem_append_left _ hm
    · rw [this]; exact List.mem_append_right _ (List.mem_flatMap.2 ⟨y, h1, h2⟩)

/-! Values put into cells, one behind the other. -/
def setAllL (F : List Int) (L : List Int) (v : Int → Int) : List Int := L.foldl (fun F c => F.set c.toNat (v c)) F
theorem setAllL_len {v : Int → Int} : ∀ {L F : List Int}, (setAllL F L v).length = F.length
  | [], F => rfl
  | c :: L, F => by
    have := setAllL_len (v := v) (L := L) (F := F.set c.toNat (v c))
    simpa [setAllL] using this
theorem setAllL_snoc {F L : List Int} {c : Int} {v : Int → Int} : setAllL F (L ++ [c]) v = (setAllL F L v).set c.toNat (v c) := by simp [setAllL]
theorem setAllL_at {v : Int → Int} {d : Nat} : ∀ {L F : List Int}, (∀ c, c ∈ L → 0 ≤ c ∧ c < F.length) → (setAllL F L v).getD d 0 = if (d : Int) ∈ L then v d else F.getD d 0
  | [], F, _ => by simp [setAllL]
  | c :: L, F, hr => by
    have hcr := hr c (by simp)
    have := setAllL_at (v := v) (d := d) (L := L) (F := F.set c.toNat (v c)) (fun e he => by have := hr e (by simp [he]); simpa using this)
    rw [show setAllL F (c :: L) v = setAllL (F.set c.toNat (v c)) L v from rfl, this, set_at (by omega)]
    by_cases e : (d : Int) ∈ L
    · simp [e]
    · by_cases e2 : d = c.toNat
      · have e3 : (d : Int) = c := by omega
        rw [if_neg e, if_pos e2, if_pos (by rw [e3]; simp), e3]
      · have : (d : Int) ≠ c := by omega
        simp [e, e2, this]
end Go.Proofs.Yticflcpmlbaafaa.AL

/- Functions that hand back a list of their own; calls of them. -/
set_option linter.unusedSimpArgs false
set_option linter.unusedVariables false
namespace Go.Proofs.Yticflcpmlbaafaa.AL
open Go

attribute [go_sem ↓] awp_rmW rmE_normal rmE_exit rmE_ret
attribute [go_sem] tmR tmE keyV

/-- The result is an own list. -/
def RetL {α : Type} (e : α → List R) (sz : Nat) (l : List α) (d : T) (K : KMap) (N : Nat) : Prop := ∃ v, d = tC (.own 0 v 0 l.length) ∧ K = upd emp 0 (.row v sz (rowC e l)) ∧ N = 1
def intR (x : Int) : List R := [R.val (.int .i64 x)]
abbrev RetI (l : List Int) := RetL intR 1 l
theorem intC_src {l m : List Int} : intC l ++ (ints m).map (fun x => x.map C.r) = intC (l ++ m) := by simp [intC, ints]
theorem getD_setI {l : List Int} {i : Nat} {v d : Int} (h : i < l.length) : (l.set i v).getD i d = v := by simp [h]
theorem intC_row {l : List Int} : intC l = rowC intR l := rfl

theorem RetL.call {P : Program} {α : Type} {e : α → List R} {sz : Nat} {l : List α} {f : FuncId} {args args1 : List T} {q : Bool} {K : KMap} {N : Nat} {Rk : T → KMap → Nat → Prop} (hfl : ∀ x, (e x).all R.flat = true) (hs : Spec P f args1 emp 0 (RetL e sz l)) (ha : liftA (CastC K) args args1)
    (hR : ∀ v, Rk (tC (.own N v 0 l.length)) (upd K N (.row v sz (rowC e l))) (N + 1)) : CallW P q f args K N Rk := by
  refine CallW.wf (fun hw => Spec.cast hs ha (fun d K1 N1 hQ => ?_) (fun d K1 N1 hQ => ?_)) hs.1
  · obtain ⟨v, rfl, rfl, rfl⟩ := hQ
    refine ⟨rfl, fun id o h => ?_⟩
    unfold upd at h
    split at h
    · cases h
      simp only [AObj.flat, rowC, List.all_map, List.all_eq_true, Function.comp]
      intro x _
      have := List.all_eq_true.1 (hfl x)
      intro c hc
      exact this c hc
    · cases h
  · obtain ⟨v, rfl, rfl, rfl⟩ := hQ
    have := hR v
    rw [joinK_one hw, rowC_ren]
    exact this
theorem intR_flat (x : Int) : (intR x).all R.flat = true := rfl
theorem RetI.call {P : Program} {l : List Int} {f : FuncId} {args args1 : List T} {q : Bool} {K : KMap} {N : Nat} {Rk : T → KMap → Nat → Prop} (hs : Spec P f args1 emp 0 (RetI l)) (ha : liftA (CastC K) args args1)
    (hR : ∀ v, Rk (tC (.own N v 0 l.length)) (upd K N (.row v 1 (intC l))) (N + 1)) : CallW P q f args K N Rk := RetL.call intR_flat hs ha hR

theorem f25o (l : List Int) (hl : l.length ≤ 1000000) : Spec Try.prog 25 [tC (.r (.rd 1 (ints l)))] emp 0 (RetI l) :=
  Spec.nilOwn 1 (f25 l hl) fun d K' N' h => by
    rcases h with ⟨v, h1, h2, h3⟩ | ⟨rfl, h2, rfl, rfl⟩
    · exact .inl ⟨v, h1, h2, h3⟩
    · exact .inr ⟨h2, 0, rfl, rfl, rfl⟩

theorem castAgg {K : KMap} {cs : List C} (h : cs.all (C.below 0) = true) : liftT (CastC K) (.v (.agg cs)) (.v (.agg cs)) :=
  ⟨rfl, fun i c c1 h1 h2 => by rw [h1] at h2; cases h2; exact .inl ⟨rfl, List.all_eq_true.1 h c (List.mem_of_getElem? h1)⟩⟩
theorem castC_ints {K : KMap} {l : List Int} : CastC K (.r (.rd 1 (ints l))) (.r (.rd 1 (ints l))) := .inl ⟨rfl, rfl⟩
end Go.Proofs.Yticflcpmlbaafaa.AL

/- Energy: without. -/
set_option linter.unusedSimpArgs false
set_option linter.unusedVariables false
namespace Go.Proofs.Yticflcpmlbaafaa.AL
open Go
variable {g : GrD} {n : Nat} {P : Int} {F : List Int} {ch : List (List Int)}

theorem ints_row {ch : List (List Int)} {i : Nat} (h : i < ch.length) : (ch.map encIn).getD i [] = [R.rd 1 (ints (ch.getD i []))] := by
  rw [rows_at h]; rfl

/-- The greatest price. -/
def P27 : Int := 318

/-- Fuel where x is blocked, too: the cells of L anew, the others as they were. -/
structure WOk (g : GrD) (n : Nat) (F : List Int) (x : Nat) (L : List Int) (W : List Int) : Prop where
  len : W.length = n
  best : ∀ c, c < n → (c : Int) ∈ L → W.getD c 0 = bst g x W c
  out : ∀ c, c < n → ¬ (c : Int) ∈ L → W.getD c 0 = F.getD c 0
  lo : ∀ c, c < n → -1 ≤ W.getD c 0 ∧ W.getD c 0 ≤ 60000

def iV2 (m : Int) : V := .x (cV (.int .i64 m))
def mapF (L : List Int) (W : Int → Int) (c : Int) : Option V := if c ∈ L then some (iV2 (W c)) else none

/-- The values that are laid first. -/
def CHf (F L : List Int) : List Int := setAllL F L fun _ => -1
def bestV (g : GrD) (F : List Int) (x : Nat) (L : List Int) (c : Int) : Int := if 0 ≤ bst g x (CHf F L) c.toNat then bst g x (CHf F L) c.toNat else -1
def W0f (g : GrD) (F : List Int) (x : Nat) (L : List Int) : List Int := setAllL (CHf F L) L (bestV g F x L)

structure QOk (g : GrD) (F : List Int) (x : Nat) (L : List Int) (i : Nat) (q : List Int) : Prop where
  rng : ∀ y, y ∈ q → y ∈ L
  all : ∀ c, c ∈ L.take i → 0 ≤ bestV g F x L c → c ∈ q
  len : q.length ≤ i

theorem wo_start (hg : GrOk g n P27) (hn : n ≤ 60) (hF : FuelIs g n F) {x : Nat} {L q : List Int} (hL : ∀ c, c ∈ L → 0 ≤ c ∧ c < n) (hh : ∀ c, c ∈ L → g.home.getD c.toNat false = false) (hq : QOk g F x L L.length q) :
    SetI g n P27 60000 x (freeG g fun c => decide ((c : Int) ∈ L)) (W0f g F x L) (W0f g F x L) (pendQ g q) := by
  have hFl := hF.len
  have hchl : (CHf F L).length = n := by unfold CHf; rw [setAllL_len, hFl]
  have hL' : ∀ c, c ∈ L → 0 ≤ c ∧ c < F.length := by rw [hFl]; exact hL
  have hL2 : ∀ c, c ∈ L → 0 ≤ c ∧ c < (CHf F L).length := by rw [hchl]; exact hL
  have hch : ∀ d : Nat, (CHf F L).getD d 0 = if (d : Int) ∈ L then -1 else F.getD d 0 := fun d => setAllL_at hL'
  have hw0 : ∀ d : Nat, (W0f g F x L).getD d 0 = if (d : Int) ∈ L then bestV g F x L d else F.getD d 0 := fun d => by
    unfold W0f
    rw [setAllL_at hL2, hch]
    split <;> rfl
  have hbv : ∀ d : Nat, bestV g F x L d = if 0 ≤ bst g x (CHf F L) d then bst g x (CHf F L) d else -1 := fun d => by simp [bestV]
  have hmono : ∀ y : Nat, y < n → 0 ≤ (CHf F L).getD y 0 → 0 ≤ (W0f g F x L).getD y 0 ∧ (W0f g F x L).getD y 0 ≤ (CHf F L).getD y 0 := fun y hy h => by
    rw [hch] at h ⊢
    rw [hw0]
    split at h
    · omega
    · rename_i e; rw [if_neg e, if_neg e]; exact ⟨h, Int.le_refl _⟩
  have hCle : ∀ c, c < n → (CHf F L).getD c 0 ≤ 24000 := fun c hc => by
    rw [hch]
    have := (hF.lo c hc).2
    split <;> omega
  have hbb : ∀ c, c < n → bst g x (CHf F L) c ≤ 24318 := fun c hc => by
    by_cases h : 0 ≤ bst g x (CHf F L) c
    · obtain ⟨z, z1, z2, z3⟩ := (bestL_ok (CHf F L) x _ (hg.pos hc)).hit h
      obtain ⟨⟨s1, s2⟩, s3, s4, s5⟩ := hg.st c hc z z1
      have e : bst g x (CHf F L) c = (CHf F L).getD z.1.toNat 0 + z.2 := by
        have : bst g x (CHf F L) c = (bestL (CHf F L) x (g.out.getD c [])).1 := rfl
        rw [this, z3]
      have := hCle z.1.toNat (by omega)
      unfold P27 at s4
      omega
    · omega
  have hlo : ∀ c, c < n → -1 ≤ (W0f g F x L).getD c 0 ∧ (W0f g F x L).getD c 0 ≤ 24318 := fun c hc => by
    rw [hw0, hbv]
    have := hF.lo c hc
    have := hbb c hc
    split
    · split <;> omega
    · omega
  refine ⟨by unfold W0f; rw [setAllL_len, hchl], fun c hc => (hlo c hc).1, fun c hc h0 => ?_, fun c hc hf h0 => ?_, fun c hc hf h0 h1 => ?_, fun c hc hf => rfl⟩
  · have h2 : negs (W0f g F x L) ≤ n := by
      have := List.countP_le_length (p := fun v : Int => decide (v < 0)) (l := W0f g F x L)
      unfold W0f at this ⊢
      rw [setAllL_len, hchl] at this
      exact this
    have h3 := Int.mul_le_mul (a := P27) (b := (negs (W0f g F x L) : Int)) (c := 318) (d := 60) (Int.le_refl _) (by omega) (by omega) (by decide)
    have := (hlo c hc).2
    omega
  · have hcL : (c : Int) ∈ L := of_decide_eq_true hf.2
    rw [hw0, if_pos hcL, hbv] at h0 ⊢
    split at h0
    · rename_i e
      rw [if_pos e]
      exact bst_mono hg hmono hc e
    · omega
  · have hcL : (c : Int) ∈ L := of_decide_eq_true hf.2
    obtain ⟨z, z1, z2, z3⟩ := (bestL_ok (W0f g F x L) x _ (hg.pos hc)).hit h0
    obtain ⟨⟨s1, s2⟩, s3, s4, s5⟩ := hg.st c hc z z1
    have e : bst g x (W0f g F x L) c = (W0f g F x L).getD z.1.toNat 0 + z.2 := by
      have : bst g x (W0f g F x L) c = (bestL (W0f g F x L) x (g.out.getD c [])).1 := rfl
      rw [this, z3]
    have ez : ((z.1.toNat : Nat) : Int) = z.1 := by omega
    by_cases hz : z.1 ∈ L
    · refine ⟨z.1, hq.all z.1 (by rw [List.take_length]; exact hz) ?_, s5⟩
      have := z2.2
      rw [hw0, if_pos (by rw [ez]; exact hz), ez] at this
      exact this
    · have e2 : (W0f g F x L).getD z.1.toNat 0 = (CHf F L).getD z.1.toNat 0 := by rw [hw0, hch, if_neg (by rw [ez]; exact hz), if_neg (by rw [ez]; exact hz)]
      have hle := (bestL_ok (CHf F L) x _ (hg.pos hc)).le z z1 ⟨z2.1, by rw [← e2]; exact z2.2⟩ (by omega)
      have hb : bst g x (CHf F L) c = (bestL (CHf F L) x (g.out.getD c [])).1 := rfl
      rw [← hb, ← e2] at hle
      rw [hw0, if_pos hcL, hbv, if_pos hle.1] at h1
      omega

theorem wo_end (hg : GrOk g n P27) (hF : FuelIs g n F) {x : Nat} {L W : List Int} (hL : ∀ c, c ∈ L → 0 ≤ c ∧ c < n) (hh : ∀ c, c ∈ L → g.home.getD c.toNat false = false)
    (h : SetI g n P27 60000 x (freeG g fun c => decide ((c : Int) ∈ L)) (W0f g F x L) W fun _ => False) : WOk g n F x L W := by
  have hFl := hF.len
  have hchl : (CHf F L).length = n := by unfold CHf; rw [setAllL_len, hFl]
  have hL' : ∀ c, c ∈ L → 0 ≤ c ∧ c < F.length := by rw [hFl]; exact hL
  have hL2 : ∀ c, c ∈ L → 0 ≤ c ∧ c < (CHf F L).length := by rw [hchl]; exact hL
  refine ⟨h.len, fun c hc hcL => ?_, fun c hc hcL => ?_, fun c hc => ⟨h.lo c hc, ?_⟩⟩
  · have hf : freeG g (fun c => decide ((c : Int) ∈ L)) c := ⟨by have := hh c hcL; simpa using this, decide_eq_true hcL⟩
    have h1 := h.lo c hc
    have h2 := h.i1 c hc hf
    have h3 := h.i2 c hc hf
    have h4 : bst g x W c < 0 → bst g x W c = -1 := fun h => by
      have := (bestL_ok W x _ (hg.pos hc)).no h
      unfold bst
      rw [this]
    by_cases hb : 0 ≤ bst g x W c
    · by_cases h5 : W.getD c 0 < 0 ∨ bst g x W c < W.getD c 0
      · exact (h3 hb h5).elim
      · have := h2 (by omega)
        omega
    · have := h4 (by omega)
      by_cases h5 : 0 ≤ W.getD c 0
      · have := h2 h5; omega
      · omega
  · rw [h.fr c hc (fun hf => hcL (of_decide_eq_true hf.2))]
    unfold W0f
    rw [setAllL_at hL2, if_neg hcL]
    unfold CHf
    rw [setAllL_at hL', if_neg hcL]
  · by_cases h5 : 0 ≤ W.getD c 0
    · have := h.up c hc h5
      have : 0 ≤ P27 * (negs W : Int) := Int.mul_nonneg (by decide) (by omega)
      omega
    · omega

def Q27 (g : GrD) (n : Nat) (F : List Int) (ch : List (List Int)) (x : Nat) (d : T) (K : KMap) (N : Nat) : Prop :=
  ∃ L, BelI ch F n x L L.length ∧ ((L = [] ∧ d = tV (.map none) ∧ K = emp ∧ N = 0) ∨
        ∃ es W, d = tC (.map 0) ∧ K = upd emp 0 (.map es) ∧ N = 1 ∧ NMap es (mapF L fun c => W.getD c.toNat 0) ∧ WOk g n F x L W)

/-- The objects of without: below, changed, the map and its box. -/
def KW (v : Nat) (L : List Int) (u : Nat) (F' : List Int) (es : List (Value × V)) : KMap := upd (upd (upd (upd emp 0 (.row v 1 (intC L))) 1 (.row u 1 (intC F'))) 2 (.map es)) 3 (.row 0 1 [[.map 2]])

theorem mapF_snoc {L : List Int} {c : Int} {W : Int → Int} {es : List (Value × V)} (h : NMap es (mapF L W)) : NMap (mset es (ki c) (iV2 (W c))) (mapF (L ++ [c]) W) :=
  (h.set c (iV2 (W c)) rfl).congr fun d => by
    unfold mapF
    by_cases e : d = c
    · subst e; simp
    · simp [e]
theorem mapF_put {L : List Int} {c b : Int} {W W' : Int → Int} {es : List (Value × V)} (h : NMap es (mapF L W)) (hc : c ∈ L) (hb : W' c = b) (hW : ∀ d, d ∈ L → d ≠ c → W' d = W d) : NMap (mset es (ki c) (iV2 b)) (mapF L W') :=
  (h.set c (iV2 b) rfl).congr fun d => by
    unfold mapF
    by_cases e : d = c
    · subst e; simp [hc, hb]
    · by_cases hd : d ∈ L
      · simp [e, hd, hW d hd e]
      · simp [e, hd]

set_option maxHeartbeats 1000000 in
theorem f27 (hg : GrOk g n P27) (hn : n ≤ 60) (hF : FuelIs g n F) (hc : ChOk ch F n) (hh : ∀ y, y < n → ∀ c, c ∈ ch.getD y [] → g.home.getD c.toNat false = false) {x : Nat} (hx : x < n) :
    Spec Try.prog 27 [tC (.rp (encGr g)), tC (.r (.rd 1 (ints F))), tC (.r (.rd 1 (ch.map encIn))), tI x] emp 0 (Q27 g n F ch x) := by
  refine Spec.of_awp hm Try.func27 s27_ok (by simp [s27]) ?_
  have hlc := hc.len
  have hFl := hF.len
  have hx' : x < ch.length := by omega
  have hbs := BelI.start hc hx
  have hb0 := nodup_len hbs.nd hbs.rng
  simp (maxSteps := 2000000) +contextual (disch := (first | omega | (simp only [List.length_set]; omega))) only [go_sem, s27, ↓ s27_w.down, ↓ twoQ_bool, ↓ guardQ_boolt, ↓ guardQ_boolf, decide_eq_true_eq, decide_eq_false_iff_not, Bool.not_eq_true', Bool.not_eq_false', ne_eq, Decidable.not_not, wrap_i, below_r, below_cons, below_nil, below_vx, AL.T.v.injEq, AL.T.tup.injEq, List.cons.injEq, AL.V.x.injEq, AL.C.r.injEq, AL.R.val.injEq, Value.bool.injEq, Value.int.injEq, not_true_eq_false, not_false_eq_true, ints_len, ints_at, intC_len, intC_at, intC_src, intC_app, upd_upd, intC_set, Int.toNat_natCast, List.length_map, evAppend, srcRows, evMkslice, rowsOf, Nat.le_refl, Int.natCast_nonneg, List.drop_one, List.tail_cons, List.length_set, getD_setI, AL.T.ren, AL.V.ren, AL.C.ren, addN, ints_row, ↓reduceIte, reduceCtorEq, Nat.reduceEqDiff, Nat.reduceAdd, Nat.reduceSub, Nat.reduceMul, Nat.reduceLT, Nat.reduceLeDiff, Int.reduceToNat]
  (repeat' (with_reducible first | refine And.intro ?_ ?_ | intro _)) <;> try (first | omega | rfl)
  refine RetI.call (f25o _ (by omega)) ⟨castC_ints, trivial⟩ fun v0 => ?_
  simp (maxSteps := 2000000) +contextual (disch := (first | omega | (simp only [List.length_set]; omega))) only [go_sem, s27, ↓ s27_w.down, ↓ twoQ_bool, ↓ guardQ_boolt, ↓ guardQ_boolf, decide_eq_true_eq, decide_eq_false_iff_not, Bool.not_eq_true', Bool.not_eq_false', ne_eq, Decidable.not_not, wrap_i, below_r, below_cons, below_nil, below_vx, AL.T.v.injEq, AL.T.tup.injEq, List.cons.injEq, AL.V.x.injEq, AL.C.r.injEq, AL.R.val.injEq, Value.bool.injEq, Value.int.injEq, not_true_eq_false, not_false_eq_true, ints_len, ints_at, intC_len, intC_at, intC_src, intC_app, upd_upd, intC_set, Int.toNat_natCast, List.length_map, evAppend, srcRows, evMkslice, rowsOf, Nat.le_refl, Int.natCast_nonneg, List.drop_one, List.tail_cons, List.length_set, getD_setI, AL.T.ren, AL.V.ren, AL.C.ren, addN, ↓reduceIte, reduceCtorEq, Nat.reduceEqDiff, Nat.reduceAdd, Nat.reduceSub, Nat.reduceMul, Nat.reduceLT, Nat.reduceLeDiff, Int.reduceToNat]
  refine awp_loop (fun y : Nat × Nat × List Int => ⟨upd (upd (upd (upd (upd (upd emp 0 (tC (.rp (encGr g)))) 1 (tC (.r (.rd 1 (ints F))))) 2 (tC (.r (.rd 1 (ch.map encIn))))) 3 (tI x)) 9 (tC (.own 0 y.2.1 0 y.2.2.length))) 10 (tI y.1), upd emp 0 (.row y.2.1 1 (intC y.2.2)), 1⟩)
    (fun y => n - y.1) (fun y => BelI ch F n x y.2.2 y.1) (0, v0, ch.getD x []) hbs ?_ ?_
  · exact Weak.cutTm (by repeat (first | refine TmCut.cons rfl ?_ | refine TmCut.cons (by simp [upd, *]; done) ?_ | exact TmCut.nil))
  rintro ⟨i, v, L⟩ hb
  simp only at hb
  have hLn := nodup_len hb.nd hb.rng
  have hil := hb.il
  have hsteps := hb.step hc hx
  have hrg := fun (hi : i < L.length) => hb.rng (L.getD i 0) (getD_memG hi)
  have hcl : i < L.length → L.length + (ch.getD (L.getD i 0).toNat []).length ≤ n := fun hi => by
    have := nodup_len (hsteps hi).nd (hsteps hi).rng
    rw [List.length_append] at this
    exact this
  simp (maxSteps := 2000000) +contextual (disch := (first | omega | (simp only [List.length_set]; omega))) only [go_sem, s27, ↓ s27_w.down, ↓ twoQ_bool, ↓ guardQ_boolt, ↓ guardQ_boolf, decide_eq_true_eq, decide_eq_false_iff_not, Bool.not_eq_true', Bool.not_eq_false', ne_eq, Decidable.not_not, wrap_i, below_r, below_cons, below_nil, below_vx, AL.T.v.injEq, AL.T.tup.injEq, List.cons.injEq, AL.V.x.injEq, AL.C.r.injEq, AL.R.val.injEq, Value.bool.injEq, Value.int.injEq, not_true_eq_false, not_false_eq_true, ints_len, ints_at, intC_len, intC_at, intC_src, intC_app, upd_upd, intC_set, Int.toNat_natCast, List.length_map, evAppend, srcRows, evMkslice, rowsOf, Nat.le_refl, Int.natCast_nonneg, List.drop_one, List.tail_cons, List.length_set, getD_setI, AL.T.ren, AL.V.ren, AL.C.ren, addN, ints_row, ↓reduceIte, reduceCtorEq, Nat.reduceEqDiff, Nat.reduceAdd, Nat.reduceSub, Nat.reduceMul, Nat.reduceLT, Nat.reduceLeDiff, Int.reduceToNat]
  (repeat' (with_reducible first | refine And.intro ?_ ?_ | intro _)) <;> try (first | omega | rfl)
  · rename_i hi
    have hi : i < L.length := by omega
    have hst := hsteps hi
    refine ⟨(i + 1, v + 1, _), hst, by simp only; omega, ?_⟩
    unfold chI
    exact Weak.cutTm (by repeat (first | refine TmCut.cons rfl ?_ | refine TmCut.cons (by simp [upd, *]; done) ?_ | exact TmCut.nil))
  · rename_i hi h0
    exact ⟨_, _, _, _, Back.data rfl, L, by rw [show i = L.length by omega] at hb; exact hb, .inl ⟨by cases L with | nil => rfl | cons a l => simp at h0; omega, rfl, rfl, rfl⟩⟩
  rename_i hi h0
  rw [show i = L.length by omega] at hb
  refine RetI.call (f25o _ (by omega)) ⟨castC_ints, trivial⟩ fun v1 => ?_
  simp (maxSteps := 2000000) +contextual (disch := (first | omega | (simp only [List.length_set]; omega))) only [go_sem, s27, ↓ s27_w.down, ↓ twoQ_bool, ↓ guardQ_boolt, ↓ guardQ_boolf, decide_eq_true_eq, decide_eq_false_iff_not, Bool.not_eq_true', Bool.not_eq_false', ne_eq, Decidable.not_not, wrap_i, below_r, below_cons, below_nil, below_vx, AL.T.v.injEq, AL.T.tup.injEq, List.cons.injEq, AL.V.x.injEq, AL.C.r.injEq, AL.R.val.injEq, Value.bool.injEq, Value.int.injEq, not_true_eq_false, not_false_eq_true, ints_len, ints_at, intC_len, intC_at, intC_src, intC_app, upd_upd, intC_set, Int.toNat_natCast, List.length_map, evAppend, srcRows, evMkslice, rowsOf, Nat.le_refl, Int.natCast_nonneg, List.drop_one, List.tail_cons, List.length_set, getD_setI, AL.T.ren, AL.V.ren, AL.C.ren, addN, ↓reduceIte, reduceCtorEq, Nat.reduceEqDiff, Nat.reduceAdd, Nat.reduceSub, Nat.reduceMul, Nat.reduceLT, Nat.reduceLeDiff, Int.reduceToNat]
  have hL := hb.rng
  have hL' : ∀ c, c ∈ L → 0 ≤ c ∧ c < F.length := by rw [hFl]; exact hL
  have hLg : ∀ {j : Nat}, j < L.length → 0 ≤ L.getD j 0 ∧ L.getD j 0 < n := fun hj => hL _ (getD_memG hj)
  have htk : ∀ {j : Nat}, j < L.length → L.take (j + 1) = L.take j ++ [L.getD j 0] := fun {j} hj => by rw [List.take_succ_eq_append_getElem hj]; simp [hj]
  have hhL : ∀ c, c ∈ L → g.home.getD c.toNat false = false := fun c hcm => by
    rcases (hb.mem c).1 hcm with h | ⟨y, h1, h2⟩
    · exact hh x hx c h
    · exact hh y.toNat (by have := hL y h1; omega) c h2
  clear hsteps hrg hcl hbs hb0 hi hil
  -- the cells below are none of the fuel, and of the map, to begin with
  refine awp_loop (fun y : Nat × List (Value × V) => ⟨upd (upd (upd (upd (upd (upd (upd (upd emp 0 (tC (.rp (encGr g)))) 3 (tI x)) 9 (tC (.own 0 v 0 L.length))) 11 (tC (.own 1 v1 0 F.length))) 12 (tC (.ptr 3 0 0 0))) 50 (tC (.own 0 v 0 L.length))) 51 (tI L.length)) 52 (tI y.1), KW v L v1 (setAllL F (L.take y.1) fun _ => -1) y.2, 4⟩)
    (fun y => L.length - y.1) (fun y => y.1 ≤ L.length ∧ NMap y.2 (mapF (L.take y.1) fun _ => -1)) (0, []) ⟨Nat.zero_le _, NMap.nil.congr fun c => by simp [mapF]⟩ ?_ ?_
  · exact Weak.cutTm (by repeat (first | refine TmCut.cons rfl ?_ | refine TmCut.cons (by simp [upd, *]; done) ?_ | exact TmCut.nil))
  rintro ⟨i, es⟩ ⟨hi, hes⟩
  simp only at hi hes
  have hesk := hes.im.1
  have hbi := fun (hi : i < L.length) => hLg hi
  have hsl : (setAllL F (L.take i) fun _ => -1).length = F.length := setAllL_len
  simp (maxSteps := 2000000) +contextual (disch := (first | omega | (simp only [List.length_set]; omega))) only [go_sem, s27, ↓ s27_w.down, ↓ twoQ_bool, ↓ guardQ_boolt, ↓ guardQ_boolf, decide_eq_true_eq, decide_eq_false_iff_not, Bool.not_eq_true', Bool.not_eq_false', ne_eq, Decidable.not_not, wrap_i, below_r, below_cons, below_nil, below_vx, AL.T.v.injEq, AL.T.tup.injEq, List.cons.injEq, AL.V.x.injEq, AL.C.r.injEq, AL.R.val.injEq, Value.bool.injEq, Value.int.injEq, not_true_eq_false, not_false_eq_true, ints_len, ints_at, intC_len, intC_at, intC_src, intC_app, upd_upd, intC_set, Int.toNat_natCast, List.length_map, evAppend, srcRows, evMkslice, rowsOf, Nat.le_refl, Int.natCast_nonneg, List.drop_one, List.tail_cons, List.length_set, getD_setI, AL.T.ren, AL.V.ren, AL.C.ren, addN, KW, setAllL_len, hesk, key1, ki_ok', ↓reduceIte, reduceCtorEq, Nat.reduceEqDiff, Nat.reduceAdd, Nat.reduceSub, Nat.reduceMul, Nat.reduceLT, Nat.reduceLeDiff, Int.reduceToNat]
  have hs := fun (hi' : i < L.length) => (htk hi' ▸ mapF_snoc (c := L.getD i 0) hes : NMap (mset es (ki (L.getD i 0)) (iV2 (-1))) (mapF (L.take (i + 1)) fun _ => -1))
  (repeat' (with_reducible first | refine And.intro ?_ ?_ | intro _)) <;> try (first | omega | rfl)
  · rename_i hi'
    have hi' : i < L.length := by omega
    have hs := hs hi'
    refine ⟨(i + 1, _), ⟨hi', hs⟩, by simp only; omega, ?_⟩
    simp only [htk hi', setAllL_snoc, KW]
    exact Weak.keep (by repeat (first | refine TmLe.cons rfl rfl ?_ | refine TmLe.cons (by simp [upd, *]) rfl ?_ | exact TmLe.nil)) (by repeat (first | refine KLe.cons (by omega) (by first | rfl | (simp [upd, *]; done) | (simp [joinK, upd, addN, ho.ren]; done)) (by first | rfl | exact IMap.bel (by assumption) | exact (NMap.im (by assumption)).bel | exact intC_bel | exact rowC_bel) ?_ | exact KLe.nil)) (by first | omega | exact Nat.le_refl _ | (dsimp only; omega)) (by first | omega | exact Nat.le_refl _ | (dsimp only; omega))
  · rename_i hi'
    have hi' : i < L.length := by omega
    have hs := hs hi'
    refine ⟨(i + 1, _), ⟨hi', hs⟩, by simp only; omega, ?_⟩
    simp only [htk hi', setAllL_snoc, KW]
    exact Weak.keep (by repeat (first | refine TmLe.cons rfl rfl ?_ | refine TmLe.cons (by simp [upd, *]) rfl ?_ | exact TmLe.nil)) (by repeat (first | refine KLe.cons (by omega) (by first | rfl | (simp [upd, *]; done) | (simp [joinK, upd, addN, ho.ren]; done)) (by first | rfl | exact IMap.bel (by assumption) | exact (NMap.im (by assumption)).bel | exact intC_bel | exact rowC_bel) ?_ | exact KLe.nil)) (by first | omega | exact Nat.le_refl _ | (dsimp only; omega)) (by first | omega | exact Nat.le_refl _ | (dsimp only; omega))
  rename_i hi'
  rw [show i = L.length by omega, List.take_length] at hes ⊢
  clear hesk hbi hsl hs hi hi'
  -- the best of each over the rest
  have hCl : (CHf F L).length = n := by unfold CHf; rw [setAllL_len, hFl]
  rw [show setAllL F L (fun _ => -1) = CHf F L from rfl]
  have hCat : ∀ d : Nat, (CHf F L).getD d 0 = if (d : Int) ∈ L then -1 else F.getD d 0 := fun d => setAllL_at hL'
  have hCok : FuelOk (CHf F L) := fun j hj => by
    rw [hCl] at hj
    rw [hCat]
    have := hF.lo j hj
    split <;> omega
  have hCok' : StepsOk (CHf F L).length = StepsOk n := by rw [hCl]
  refine awp_loop (fun y : Nat × List (Value × V) => ⟨upd (upd (upd (upd (upd (upd (upd (upd (upd emp 0 (tC (.rp (encGr g)))) 3 (tI x)) 9 (tC (.own 0 v 0 L.length))) 11 (tC (.own 1 v1 0 F.length))) 12 (tC (.ptr 3 0 0 0))) 15 (tC (cV nilS))) 62 (tC (.own 0 v 0 L.length))) 63 (tI L.length)) 64 (tI y.1), KW v L v1 (CHf F L) y.2, 4⟩)
    (fun y => L.length - y.1) (fun y => y.1 ≤ L.length ∧ NMap y.2 (mapF L fun c => if c ∈ L.take y.1 then bestV g F x L c else -1)) (0, es) ⟨Nat.zero_le _, hes.congr fun c => by simp [mapF]⟩ ?_ ?_
  · exact Weak.cutTm (by repeat (first | refine TmCut.cons rfl ?_ | refine TmCut.cons (by simp [upd, *]; done) ?_ | exact TmCut.nil))
  clear hes es
  rintro ⟨i, es⟩ ⟨hi, hes⟩
  simp only at hi hes
  have hesk := hes.im.1
  have hbi := fun (hi : i < L.length) => hLg hi
  simp (maxSteps := 2000000) +contextual (disch := (first | omega | (simp only [List.length_set]; omega))) only [go_sem, s27, ↓ s27_w.down, ↓ twoQ_bool, ↓ guardQ_boolt, ↓ guardQ_boolf, decide_eq_true_eq, decide_eq_false_iff_not, Bool.not_eq_true', Bool.not_eq_false', ne_eq, Decidable.not_not, wrap_i, below_r, below_cons, below_nil, below_vx, AL.T.v.injEq, AL.T.tup.injEq, List.cons.injEq, AL.V.x.injEq, AL.C.r.injEq, AL.R.val.injEq, Value.bool.injEq, Value.int.injEq, not_true_eq_false, not_false_eq_true, ints_len, ints_at, intC_len, intC_at, intC_src, intC_app, upd_upd, intC_set, Int.toNat_natCast, List.length_map, evAppend, srcRows, evMkslice, rowsOf, Nat.le_refl, Int.natCast_nonneg, List.drop_one, List.tail_cons, List.length_set, getD_setI, AL.T.ren, AL.V.ren, AL.C.ren, addN, KW, hCl, hesk, key1, ki_ok', ↓reduceIte, reduceCtorEq, Nat.reduceEqDiff, Nat.reduceAdd, Nat.reduceSub, Nat.reduceMul, Nat.reduceLT, Nat.reduceLeDiff, Int.reduceToNat]
  (repeat' (with_reducible first | refine And.intro ?_ ?_ | intro _)) <;> try (first | omega | rfl)
  · rename_i hi'
    have hi' : i < L.length := by omega
    obtain ⟨c1, c2⟩ := hbi hi'
    have hca : CastC (upd (upd (upd (upd emp 0 (.row v 1 (intC L))) 1 (.row v1 1 (intC (CHf F L)))) 2 (.map es)) 3 (.row 0 1 [[.map 2]])) (.own 1 v1 0 F.length) (.r (.rd 1 (ints (CHf F L)))) := by
      have := intC_cast (K := upd (upd (upd (upd emp 0 (.row v 1 (intC L))) 1 (.row v1 1 (intC (CHf F L)))) 2 (.map es)) 3 (.row 0 1 [[.map 2]])) (id := 1) (v := v1) (l := CHf F L) rfl (by omega)
      rw [hCl, ← hFl] at this
      exact this
    refine Pure.castS (f26 g (CHf F L) (L.getD i 0) x ⟨c1, by have := hg.lo; omega⟩ (by have := hg.ol (L.getD i 0).toNat (by omega); omega) (fun j hj => ?_) hCok) ⟨.inl ⟨rfl, rfl⟩, hca, .inl ⟨rfl, rfl⟩, .inl ⟨rfl, rfl⟩, trivial⟩ rfl ?_
    · have := hg.st (L.getD i 0).toNat (by omega) _ (getD_memG (d := (0, 0)) hj)
      rw [hCl]
      unfold P27 at this
      exact ⟨this.1, this.2.1, by omega⟩
    rw [show (bestL (CHf F L) (↑x) (g.out.getD (L.getD i 0).toNat [])).1 = bst g x (CHf F L) (L.getD i 0).toNat from rfl]
    have hcm : L.getD i 0 ∈ L := getD_memG hi'
    have hbv : bestV g F x L (L.getD i 0) = if 0 ≤ bst g x (CHf F L) (L.getD i 0).toNat then bst g x (CHf F L) (L.getD i 0).toNat else -1 := rfl
    have hnt : L.getD i 0 ∉ L.take i := fun hm => by
      have hnd := hb.nd
      rw [← List.take_append_drop i L, List.nodup_append] at hnd
      refine hnd.2.2 _ hm (L.getD i 0) ?_ rfl
      have e1 : L.drop i = L.getD i 0 :: L.drop (i + 1) := by rw [List.drop_eq_getElem_cons hi']; simp [hi']
      rw [e1]
      exact List.mem_cons_self
    have hmem : ∀ d, d ∈ L.take (i + 1) ↔ d ∈ L.take i ∨ d = L.getD i 0 := fun d => by rw [htk hi', List.mem_append, List.mem_singleton]
    simp (maxSteps := 2000000) +contextual (disch := (first | omega | (simp only [List.length_set]; omega))) only [go_sem, s27, ↓ s27_w.down, ↓ twoQ_bool, ↓ guardQ_boolt, ↓ guardQ_boolf, decide_eq_true_eq, decide_eq_false_iff_not, Bool.not_eq_true', Bool.not_eq_false', ne_eq, Decidable.not_not, wrap_i, below_r, below_cons, below_nil, below_vx, AL.T.v.injEq, AL.T.tup.injEq, List.cons.injEq, AL.V.x.injEq, AL.C.r.injEq, AL.R.val.injEq, Value.bool.injEq, Value.int.injEq, not_true_eq_false, not_false_eq_true, ints_len, ints_at, intC_len, intC_at, intC_src, intC_app, upd_upd, intC_set, Int.toNat_natCast, List.length_map, evAppend, srcRows, evMkslice, rowsOf, Nat.le_refl, Int.natCast_nonneg, List.drop_one, List.tail_cons, List.length_set, getD_setI, AL.T.ren, AL.V.ren, AL.C.ren, addN, KW, hCl, hesk, key1, ki_ok', ↓reduceIte, reduceCtorEq, Nat.reduceEqDiff, Nat.reduceAdd, Nat.reduceSub, Nat.reduceMul, Nat.reduceLT, Nat.reduceLeDiff, Int.reduceToNat]
    (repeat' (with_reducible first | refine And.intro ?_ ?_ | intro _)) <;> try (first | omega | rfl)
    · rename_i hp
      have hs := mapF_put (c := L.getD i 0) (b := bst g x (CHf F L) (L.getD i 0).toNat) (W' := fun c => if c ∈ L.take (i + 1) then bestV g F x L c else -1) hes hcm (by simp only [hmem, or_true, if_true]; rw [hbv, if_pos hp]) (fun d hd hne => by simp only [hmem, hne, or_false])
      refine ⟨(i + 1, _), ⟨hi', hs⟩, by simp only; omega, ?_⟩
      exact Weak.keep (by repeat (first | refine TmLe.cons rfl rfl ?_ | refine TmLe.cons (by simp [upd, *]) rfl ?_ | exact TmLe.nil)) (by repeat (first | refine KLe.cons (by omega) (by first | rfl | (simp [upd, *]; done) | (simp [joinK, upd, addN, ho.ren]; done)) (by first | rfl | exact IMap.bel (by assumption) | exact (NMap.im (by assumption)).bel | exact intC_bel | exact rowC_bel) ?_ | exact KLe.nil)) (by first | omega | exact Nat.le_refl _ | (dsimp only; omega)) (by first | omega | exact Nat.le_refl _ | (dsimp only; omega))
    · rename_i hp
      have hs : NMap es (mapF L fun c => if c ∈ L.take (i + 1) then bestV g F x L c else -1) := hes.congr fun d => by
        unfold mapF
        by_cases e : d = L.getD i 0
        · subst e
          simp only [hmem, or_true, if_true, hnt, if_false, hcm]
          rw [hbv, if_neg hp]
        · simp only [hmem, e, or_false]
      refine ⟨(i + 1, _), ⟨hi', hs⟩, by simp only; omega, ?_⟩
      exact Weak.keep (by repeat (first | refine TmLe.cons rfl rfl ?_ | refine TmLe.cons (by simp [upd, *]) rfl ?_ | exact TmLe.nil)) (by repeat (first | refine KLe.cons (by omega) (by first | rfl | (simp [upd, *]; done) | (simp [joinK, upd, addN, ho.ren]; done)) (by first | rfl | exact IMap.bel (by assumption) | exact (NMap.im (by assumption)).bel | exact intC_bel | exact rowC_bel) ?_ | exact KLe.nil)) (by first | omega | exact Nat.le_refl _ | (dsimp only; omega)) (by first | omega | exact Nat.le_refl _ | (dsimp only; omega))
  rename_i hi'
  rw [show i = L.length by omega] at hes ⊢
  have hes : NMap es (mapF L (bestV g F x L)) := hes.congr fun c => by unfold mapF; by_cases h : c ∈ L <;> simp [h]
  clear hesk hbi hi hi'
  -- laid, and those that have some queued
  have hCl2 : ∀ c, c ∈ L → 0 ≤ c ∧ c < (CHf F L).length := by rw [hCl]; exact hL
  refine awp_loop (fun y : Nat × Nat × List Int => ⟨upd (upd (upd (upd (upd (upd (upd (upd (upd emp 0 (tC (.rp (encGr g)))) 3 (tI x)) 9 (tC (.own 0 v 0 L.length))) 11 (tC (.own 1 v1 0 F.length))) 12 (tC (.ptr 3 0 0 0))) 15 (tC (.own 4 y.2.1 0 y.2.2.length))) 82 (tC (.own 0 v 0 L.length))) 83 (tI L.length)) 84 (tI y.1), upd (KW v L v1 (setAllL (CHf F L) (L.take y.1) (bestV g F x L)) es) 4 (.row y.2.1 1 (intC y.2.2)), 5⟩)
    (fun y => L.length - y.1) (fun y => y.1 ≤ L.length ∧ QOk g F x L y.1 y.2.2) (0, 0, []) ⟨Nat.zero_le _, by simp, by simp, by simp⟩ ?_ ?_
  · refine Weak.trans (Weak.nilTm 15 1 rfl) ?_
    exact Weak.cutTm (by repeat (first | refine TmCut.cons rfl ?_ | refine TmCut.cons (by simp [upd, *]; done) ?_ | exact TmCut.nil))
  rintro ⟨i, vq, q⟩ ⟨hi, hq⟩
  simp only at hi hq
  have hesk := hes.im.1
  have hbi := fun (hi : i < L.length) => hLg hi
  have hsl : (setAllL (CHf F L) (L.take i) (bestV g F x L)).length = F.length := by rw [setAllL_len, hCl, hFl]
  have hql := hq.len
  have hfd : ∀ {c : Int}, c ∈ L → mfind es (.int .i64 c) = some (iV2 (bestV g F x L c)) := fun {c} hc => by rw [hes.im.2.2]; unfold mapF; rw [if_pos hc]
  have hfi := fun (hi : (i : Int) < L.length) => hfd (getD_memG (d := 0) (l := L) (j := i) (by omega))
  simp (maxSteps := 2000000) +contextual (disch := (first | omega | (simp only [List.length_set]; omega))) only [go_sem, s27, ↓ s27_w.down, ↓ twoQ_bool, ↓ guardQ_boolt, ↓ guardQ_boolf, decide_eq_true_eq, decide_eq_false_iff_not, Bool.not_eq_true', Bool.not_eq_false', ne_eq, Decidable.not_not, wrap_i, below_r, below_cons, below_nil, below_vx, AL.T.v.injEq, AL.T.tup.injEq, List.cons.injEq, AL.V.x.injEq, AL.C.r.injEq, AL.R.val.injEq, Value.bool.injEq, Value.int.injEq, not_true_eq_false, not_false_eq_true, ints_len, ints_at, intC_len, intC_at, intC_src, intC_app, upd_upd, intC_set, Int.toNat_natCast, List.length_map, evAppend, srcRows, evMkslice, rowsOf, Nat.le_refl, Int.natCast_nonneg, List.drop_one, List.tail_cons, List.length_set, getD_setI, AL.T.ren, AL.V.ren, AL.C.ren, addN, KW, hsl, hesk, key1, ki_ok', hfi, iV2, Option.getD_some, ↓reduceIte, reduceCtorEq, Nat.reduceEqDiff, Nat.reduceAdd, Nat.reduceSub, Nat.reduceMul, Nat.reduceLT, Nat.reduceLeDiff, Int.reduceToNat]
  have hmem := fun (hi' : i < L.length) (d : Int) => (by rw [htk hi', List.mem_append, List.mem_singleton] : d ∈ L.take (i + 1) ↔ d ∈ L.take i ∨ d = L.getD i 0)
  (repeat' (with_reducible first | refine And.intro ?_ ?_ | intro _)) <;> try (first | omega | rfl)
  · rename_i hi' hp
    have hi' : i < L.length := by omega
    refine ⟨(i + 1, vq + 1, q ++ [L.getD i 0]), ⟨hi', fun y hy => ?_, fun c hc h0 => ?_, by simp; omega⟩, by simp only; omega, ?_⟩
    · rcases List.mem_append.1 hy with hy | hy
      · exact hq.rng y hy
      · rw [List.mem_singleton.1 hy]; exact getD_memG hi'
    · rcases (hmem hi' c).1 hc with h | h
      · exact List.mem_append_left _ (hq.all c h h0)
      · exact List.mem_append_right _ (List.mem_singleton.2 h)
    · simp only [htk hi', setAllL_snoc, KW, List.length_append, List.length_singleton]
      exact Weak.keep (by repeat (first | refine TmLe.cons rfl rfl ?_ | refine TmLe.cons (by simp [upd, *]) rfl ?_ | exact TmLe.nil)) (by repeat (first | refine KLe.cons (by omega) (by first | rfl | (simp [upd, *]; done) | (simp [joinK, upd, addN, ho.ren]; done)) (by first | rfl | exact IMap.bel (by assumption) | exact (NMap.im (by assumption)).bel | exact intC_bel | exact rowC_bel) ?_ | exact KLe.nil)) (by first | omega | exact Nat.le_refl _ | (dsimp only; omega)) (by first | omega | exact Nat.le_refl _ | (dsimp only; omega))
  · rename_i hi' hp
    have hi' : i < L.length := by omega
    refine ⟨(i + 1, vq, q), ⟨hi', hq.rng, fun c hc h0 => ?_, Nat.le_succ_of_le hq.len⟩, by simp only; omega, ?_⟩
    · rcases (hmem hi' c).1 hc with h | h
      · exact hq.all c h h0
      · subst h; exact absurd h0 hp
    · simp only [htk hi', setAllL_snoc, KW]
      exact Weak.keep (by repeat (first | refine TmLe.cons rfl rfl ?_ | refine TmLe.cons (by simp [upd, *]) rfl ?_ | exact TmLe.nil)) (by repeat (first | refine KLe.cons (by omega) (by first | rfl | (simp [upd, *]; done) | (simp [joinK, upd, addN, ho.ren]; done)) (by first | rfl | exact IMap.bel (by assumption) | exact (NMap.im (by assumption)).bel | exact intC_bel | exact rowC_bel) ?_ | exact KLe.nil)) (by first | omega | exact Nat.le_refl _ | (dsimp only; omega)) (by first | omega | exact Nat.le_refl _ | (dsimp only; omega))
  rename_i hi'
  rw [show i = L.length by omega, List.take_length] at hsl ⊢
  rw [show i = L.length by omega] at hq
  rw [show setAllL (CHf F L) L (bestV g F x L) = W0f g F x L from rfl] at hsl ⊢
  clear hmem hfi hbi hi hi'
  have hst := wo_start hg hn hF hL hhL hq
  have hKC : ∀ i o, (upd (upd emp 2 (.map es)) 3 (.row 0 1 [[.map 2]]) : KMap) i = some o → 2 ≤ i ∧ i < 4 ∧ o.below 4 = true := fun i o h => by
    simp only [upd] at h
    split at h
    · cases h; exact ⟨by omega, by omega, rfl⟩
    · split at h
      · cases h; exact ⟨by omega, by omega, hes.im.bel⟩
      · cases h
  have h43 := f43 (u := v1) (KC := upd (upd emp 2 (.map es)) 3 (.row 0 1 [[.map 2]])) (N1 := 4) (m := 51) (caps := [3]) (may := fun c => decide ((c : Int) ∈ L)) (P := P27) (B := 60000) (but := x) (F := W0f g F x L) (v := vq) (L := q) hg (by omega) (by decide) (by omega) (by omega) hKC (by simp)
    (fun c hc F v L' => (f51 (c : Int) (p := 3) (q := 2) (es := es) rfl rfl hesk (fun i o h => KS_ok (by omega) hKC h)).mono fun d K' N' hd => ⟨by
      rw [hd.1, hes.im.2.2]
      unfold mapF
      by_cases h : (c : Int) ∈ L <;> simp [h], hd.2⟩) hst (fun y hy => hL y (hq.rng y hy)) (Nat.le_trans hq.len (by omega))
  rw [hFl]
  let σ : Nat → Nat := fun i => if i = 0 then 1 else if i = 1 then 4 else i
  have hσ : ∀ i, i < 4 → σ i < 5 := fun i hi => by simp only [σ]; split <;> (try split) <;> omega
  have hinj : ∀ i j, i < 4 → j < 4 → σ i = σ j → i = j := fun i j hi hj h => by simp only [σ] at h; split at h <;> split at h <;> (try split at h) <;> (try split at h) <;> omega
  refine Spec.call h43 σ hσ hinj (fun i o h => ?_) rfl (fun a ha => ?_) (fun d K1 N1 hQ hle => ⟨(fun h => by cases h), ?_⟩)
  · unfold KS at h
    simp only [upd] at h
    split at h
    · rename_i e; subst e; cases h; exact ⟨by omega, intC_bel, congrArg some intC_ren.symm⟩
    · split at h
      · rename_i e; subst e; cases h; exact ⟨by omega, intC_bel, congrArg some intC_ren.symm⟩
      · split at h
        · rename_i e; subst e; cases h; exact ⟨by omega, rfl, rfl⟩
        · split at h
          · rename_i e; subst e; cases h; exact ⟨by omega, hes.im.bel, congrArg some (hes.im.ren _).symm⟩
          · cases h
  · simp only [List.mem_cons, List.not_mem_nil, or_false] at ha
    rcases ha with rfl | rfl | rfl | rfl | rfl <;> rfl
  obtain ⟨rfl, rfl, W, v', L', rfl, hsi⟩ := hQ
  have hW := wo_end hg hF hL hhL hsi
  have k0 : ∀ K1, joinS σ 4 5 (upd (upd (upd (upd (upd emp 0 (.row v 1 (intC L))) 1 (.row v1 1 (intC (W0f g F x L)))) 2 (.map es)) 3 (.row 0 1 [[.map 2]])) 4 (.row vq 1 (intC q))) K1 0 = some (.row v 1 (intC L)) := fun K1 => joinS_off hσ (by omega) (fun i hi => by simp only [σ]; split <;> (try split) <;> omega)
  have k1 : ∀ K0, joinS σ 4 5 K0 (KS v1 (upd (upd emp 2 (.map es)) 3 (.row 0 1 [[.map 2]])) W v' L') 1 = some (.row v1 1 (intC W)) := fun K0 => (joinS_at (i := 0) hσ hinj (by omega)).trans (congrArg some intC_ren)
  have k2 : ∀ K0, joinS σ 4 5 K0 (KS v1 (upd (upd emp 2 (.map es)) 3 (.row 0 1 [[.map 2]])) W v' L') 2 = some (.map es) := fun K0 => (joinS_at (i := 2) hσ hinj (by omega)).trans (congrArg some (hes.im.ren _))
  have k3 : ∀ K0, joinS σ 4 5 K0 (KS v1 (upd (upd emp 2 (.map es)) 3 (.row 0 1 [[.map 2]])) W v' L') 3 = some (.row 0 1 [[.map 2]]) := fun K0 => (joinS_at (i := 3) hσ hinj (by omega)).trans rfl
  obtain ⟨K', eK⟩ : ∃ K', K' = joinS σ 4 5 (upd (upd (upd (upd (upd emp 0 (.row v 1 (intC L))) 1 (.row v1 1 (intC (W0f g F x L)))) 2 (.map es)) 3 (.row 0 1 [[.map 2]])) 4 (.row vq 1 (intC q))) (KS v1 (upd (upd emp 2 (.map es)) 3 (.row 0 1 [[.map 2]])) W v' L') := ⟨_, rfl⟩
  have k0 : K' 0 = some (.row v 1 (intC L)) := by rw [eK]; exact k0 _
  have k1 : K' 1 = some (.row v1 1 (intC W)) := by rw [eK]; exact k1 _
  have k2 : K' 2 = some (.map es) := by rw [eK]; exact k2 _
  have k3 : K' 3 = some (.row 0 1 [[.map 2]]) := by rw [eK]; exact k3 _
  rw [← eK]
  clear eK h43 hst hsi hKC hσ hinj
  have hWl := hW.len
  simp (maxSteps := 2000000) +contextual (disch := (first | omega | (simp only [List.length_set]; omega))) only [go_sem, s27, ↓ s27_w.down, ↓ twoQ_bool, ↓ guardQ_boolt, ↓ guardQ_boolf, decide_eq_true_eq, decide_eq_false_iff_not, Bool.not_eq_true', Bool.not_eq_false', ne_eq, Decidable.not_not, wrap_i, below_r, below_cons, below_nil, below_vx, AL.T.v.injEq, AL.T.tup.injEq, List.cons.injEq, AL.V.x.injEq, AL.C.r.injEq, AL.R.val.injEq, Value.bool.injEq, Value.int.injEq, not_true_eq_false, not_false_eq_true, ints_len, ints_at, intC_len, intC_at, intC_src, intC_app, upd_upd, intC_set, Int.toNat_natCast, List.length_map, evAppend, srcRows, evMkslice, rowsOf, Nat.le_refl, Int.natCast_nonneg, List.drop_one, List.tail_cons, List.length_set, getD_setI, AL.T.ren, AL.V.ren, AL.C.ren, addN, ↓reduceIte, reduceCtorEq, Nat.reduceEqDiff, Nat.reduceAdd, Nat.reduceSub, Nat.reduceMul, Nat.reduceLT, Nat.reduceLeDiff, Int.reduceToNat]
  -- what has come of it goes into the map
  refine awp_loop (fun y : Nat × List (Value × V) => ⟨upd (upd (upd (upd (upd (upd emp 9 (tC (.own 0 v 0 L.length))) 11 (tC (.own 1 v1 0 n))) 12 (tC (.ptr 3 0 0 0))) 110 (tC (.own 0 v 0 L.length))) 111 (tI L.length)) 112 (tI y.1), upd K' 2 (.map y.2), 5⟩)
    (fun y => L.length - y.1) (fun y => y.1 ≤ L.length ∧ NMap y.2 (mapF L fun c => if c ∈ L.take y.1 then W.getD c.toNat 0 else bestV g F x L c)) (0, es) ⟨Nat.zero_le _, hes.congr fun c => by simp [mapF]⟩ ?_ ?_
  · have e : upd K' 2 (.map es) = K' := by funext k; by_cases h : k = 2 <;> simp [upd, h, k2]
    simp only
    rw [e]
    exact Weak.cutTm (by repeat (first | refine TmCut.cons rfl ?_ | refine TmCut.cons (by simp [upd, *]; done) ?_ | exact TmCut.nil))
  clear hes hesk k2
  rintro ⟨i, es'⟩ ⟨hi, hes⟩
  simp only at hi hes
  have hesk := hes.im.1
  have hbi := fun (hi : i < L.length) => hLg hi
  simp (maxSteps := 2000000) +contextual (disch := (first | omega | (simp only [List.length_set]; omega))) only [go_sem, s27, ↓ s27_w.down, ↓ twoQ_bool, ↓ guardQ_boolt, ↓ guardQ_boolf, decide_eq_true_eq, decide_eq_false_iff_not, Bool.not_eq_true', Bool.not_eq_false', ne_eq, Decidable.not_not, wrap_i, below_r, below_cons, below_nil, below_vx, AL.T.v.injEq, AL.T.tup.injEq, List.cons.injEq, AL.V.x.injEq, AL.C.r.injEq, AL.R.val.injEq, Value.bool.injEq, Value.int.injEq, not_true_eq_false, not_false_eq_true, ints_len, ints_at, intC_len, intC_at, intC_src, intC_app, upd_upd, intC_set, Int.toNat_natCast, List.length_map, evAppend, srcRows, evMkslice, rowsOf, Nat.le_refl, Int.natCast_nonneg, List.drop_one, List.tail_cons, List.length_set, getD_setI, AL.T.ren, AL.V.ren, AL.C.ren, addN, k0, k1, k3, hWl, hesk, key1, ki_ok', ↓reduceIte, reduceCtorEq, Nat.reduceEqDiff, Nat.reduceAdd, Nat.reduceSub, Nat.reduceMul, Nat.reduceLT, Nat.reduceLeDiff, Int.reduceToNat]
  have hmem := fun (hi' : i < L.length) (d : Int) => (by rw [htk hi', List.mem_append, List.mem_singleton] : d ∈ L.take (i + 1) ↔ d ∈ L.take i ∨ d = L.getD i 0)
  (repeat' (with_reducible first | refine And.intro ?_ ?_ | intro _)) <;> try (first | omega | rfl)
  · rename_i hi'
    have hi' : i < L.length := by omega
    have hs := mapF_put (c := L.getD i 0) (b := W.getD (L.getD i 0).toNat 0) (W' := fun c => if c ∈ L.take (i + 1) then W.getD c.toNat 0 else bestV g F x L c) hes (getD_memG hi') (by simp only [hmem hi', or_true, if_true]) (fun d hd hne => by simp only [hmem hi', hne, or_false])
    refine ⟨(i + 1, _), ⟨hi', hs⟩, by simp only; omega, ?_⟩
    exact Weak.cutTm (by repeat (first | refine TmCut.cons rfl ?_ | refine TmCut.cons (by simp [upd, *]; done) ?_ | exact TmCut.nil))
  rename_i hi'
  rw [show i = L.length by omega] at hes
  have hes : NMap es' (mapF L fun c => W.getD c.toNat 0) := hes.congr fun c => by unfold mapF; by_cases h : c ∈ L <;> simp [h]
  refine ⟨_, upd emp 0 (.map es'), 1, _, Back.list [2] _ (by decide) (fun i o hk => ?_) (d' := tC (.map 0)) rfl rfl, L, hb, .inr ⟨es', W, rfl, rfl, rfl, hes, hW⟩⟩
  unfold upd at hk
  split at hk
  · rename_i e; subst e; cases hk; exact ⟨by decide, hes.im.bel, congrArg some (hes.im.ren _).symm⟩
  · cases hk
end Go.Proofs.Yticflcpmlbaafaa.AL

/- Energy: fuel is there, and one; what blocking one more cell makes of it. -/
set_option linter.unusedSimpArgs false
set_option linter.unusedVariables false
namespace Go.Proofs.Yticflcpmlbaafaa.AL
open Go

section
variable {g : GrD} {n : Nat} {P B but : Int} {free : Nat → Prop} {F0 : List Int}

/-- What is not settled yet can be settled. -/
theorem settle_ex (hg : GrOk g n P) : ∀ (k : Nat) {F : List Int}, pot B F < k → SetI g n P B but free F0 F (fun _ => True) → ∃ F', SetI g n P B but free F0 F' fun _ => False := by
  intro k
  induction k with
  | zero => intro F h; omega
  | succ k ih =>
    intro F hp h
    by_cases hex : ∃ c, c < n ∧ free c ∧ 0 ≤ bst g but F c ∧ (F.getD c 0 < 0 ∨ bst g but F c < F.getD c 0)
    · obtain ⟨c, hc, hf, hb, hv⟩ := hex
      obtain ⟨h1, h2⟩ := h.step hg hc hf hb hv
      exact ih (by omega) (h1.mono fun d _ => trivial)
    · exact ⟨F, h.len, h.lo, h.up, h.i1, fun c hc hf hb hv => hex ⟨c, hc, hf, hb, hv⟩, h.fr⟩

theorem bst_neg (hg : GrOk g n P) {F : List Int} {c : Nat} (hc : c < n) (h : bst g but F c < 0) : bst g but F c = -1 := by
  have := (bestL_ok F but _ (hg.pos hc)).no h
  unfold bst
  rw [this]
end

section
variable {g : GrD} {n : Nat} {P : Int}

theorem fuel_end (hg : GrOk g n P) {F : List Int} (h : SetI g n P 24000 (-1) (freeG g fun _ => true) (fuelL g n n) F fun _ => False) : FuelIs g n F := by
  refine ⟨h.len, fun d hd hh => ?_, fun d hd hh => ?_, fun d hd => ⟨h.lo d hd, ?_⟩⟩
  · rw [h.fr d hd (fun hf => by rw [hf.1] at hh; cases hh), fuelL_at hd, if_pos hd, if_pos hh]
  · have h1 := h.lo d hd
    have h2 := h.i1 d hd ⟨hh, rfl⟩
    have h3 := h.i2 d hd ⟨hh, rfl⟩
    by_cases hb : 0 ≤ bst g (-1) F d
    · by_cases h5 : F.getD d 0 < 0 ∨ bst g (-1) F d < F.getD d 0
      · exact (h3 hb h5).elim
      · have := h2 (by omega)
        omega
    · have := bst_neg (but := -1) hg hd (by omega : bst g (-1) F d < 0)
      by_cases h5 : 0 ≤ F.getD d 0
      · have := h2 h5; omega
      · omega
  · by_cases h5 : 0 ≤ F.getD d 0
    · have := h.up d hd h5
      have : 0 ≤ P * (negs F : Int) := Int.mul_nonneg (by have := hg.p1; omega) (by omega)
      omega
    · omega

theorem fuel_ex (hg : GrOk g n P) (hn : n ≤ 60) (hP : P ≤ 400) : ∃ F, FuelIs g n F := by
  obtain ⟨F, h⟩ := settle_ex hg _ (Nat.lt_succ_self _) ((fuel_start hg hn hP).mono fun _ _ => trivial)
  exact ⟨F, fuel_end hg h⟩

theorem FuelIs.sol {F : List Int} (h : FuelIs g n F) : Sol g n (-1) (fun c => g.home.getD c false = false) F := fun c hc hf => h.best c hc hf
theorem fuel_one (hg : GrOk g n P) {F F' : List Int} (h : FuelIs g n F) (h' : FuelIs g n F') : F = F' :=
  sol_unique hg h.len h'.len h.sol h'.sol fun c hc hf => by
    have hh : g.home.getD c false = true := by cases hb : g.home.getD c false <;> simp_all
    rw [h.home c hc hh, h'.home c hc hh]
end

/-- The fuel of a graph. -/
noncomputable def fuelF (g : GrD) (n : Nat) : List Int := open Classical in if h : ∃ F, FuelIs g n F then h.choose else []
theorem fuelF_ok {g : GrD} {n : Nat} {P : Int} (hg : GrOk g n P) (hn : n ≤ 60) (hP : P ≤ 400) : FuelIs g n (fuelF g n) := by
  have h := fuel_ex hg hn hP
  unfold fuelF
  rw [dif_pos h]
  exact h.choose_spec
theorem fuelF_eq {g : GrD} {n : Nat} {P : Int} (hg : GrOk g n P) (hn : n ≤ 60) (hP : P ≤ 400) {F : List Int} (h : FuelIs g n F) : F = fuelF g n := fuel_one hg h (fuelF_ok hg hn hP)

/-! The tree of fuel. -/
section
variable {s : SiteD} {bl : List Int} {n : Nat} {F : List Int}

def toF (g : GrD) (F : List Int) (c : Nat) : Int := (bestL F (-1) (g.out.getD c [])).2
/-- The cells below m that have this one as their next. -/
def chF (g : GrD) (F : List Int) (m : Nat) (y : Nat) : List Int := ((List.range m).filter fun c => decide (0 ≤ F.getD c 0) && !(g.home.getD c false) && decide (toF g F c = y)).map fun c : Nat => (c : Int)
def chL (g : GrD) (F : List Int) (n : Nat) : List (List Int) := (List.range n).map (chF g F n)

theorem mem_chF {g : GrD} {m y : Nat} {c : Int} : c ∈ chF g F m y ↔ ∃ d : Nat, d < m ∧ c = d ∧ 0 ≤ F.getD d 0 ∧ g.home.getD d false = false ∧ toF g F d = y := by
  unfold chF
  simp only [List.mem_map, List.mem_filter, List.mem_range, Bool.and_eq_true, decide_eq_true_eq, Bool.not_eq_true']
  constructor
  · rintro ⟨d, ⟨h1, ⟨h2, h3⟩, h4⟩, rfl⟩
    exact ⟨d, h1, rfl, h2, h3, h4⟩
  · rintro ⟨d, h1, rfl, h2, h3, h4⟩
    exact ⟨d, ⟨h1, ⟨h2, h3⟩, h4⟩, rfl⟩

theorem chL_at {g : GrD} {y : Nat} (hy : y < n) : (chL g F n).getD y [] = chF g F n y := by simp [chL, hy]

/-- The next cell of one that has fuel. -/
theorem toF_ok {g : GrD} {P : Int} (hg : GrOk g n P) (hF : FuelIs g n F) {c : Nat} (hc : c < n) (h0 : 0 ≤ F.getD c 0) (hh : g.home.getD c false = false) :
    ∃ x, x ∈ g.out.getD c [] ∧ toF g F c = x.1 ∧ 0 ≤ F.getD x.1.toNat 0 ∧ F.getD c 0 = F.getD x.1.toNat 0 + x.2 := by
  have hb := hF.best c hc hh
  obtain ⟨x, x1, x2, x3⟩ := (bestL_ok F (-1) _ (hg.pos hc)).hit (by unfold bst at hb; omega)
  refine ⟨x, x1, by unfold toF; rw [x3], x2.2, ?_⟩
  rw [hb]
  unfold bst
  rw [x3]

theorem chL_ok {g : GrD} {P : Int} (hg : GrOk g n P) (hF : FuelIs g n F) : ChOk (chL g F n) F n := by
  refine ⟨by simp [chL], fun y hy c hc => ?_, fun y hy => ?_, fun y hy c hc => ?_, fun y z c hy hz h1 h2 => ?_⟩
  · rw [chL_at hy, mem_chF] at hc
    obtain ⟨d, h1, rfl, _⟩ := hc
    omega
  · rw [chL_at hy]
    unfold chF
    rw [List.nodup_iff_pairwise_ne, List.pairwise_map]
    refine ((List.nodup_range.filter _).imp fun {a b} h e => h ?_)
    omega
  · rw [chL_at hy, mem_chF] at hc
    obtain ⟨d, h1, rfl, h2, h3, h4⟩ := hc
    obtain ⟨x, x1, x2, x3, x4⟩ := toF_ok hg hF h1 h2 h3
    have hp := (hg.st d h1 x x1).2.1
    have e : x.1.toNat = y := by omega
    rw [e] at x4
    rw [Int.toNat_natCast]
    omega
  · rw [chL_at hy, mem_chF] at h1
    rw [chL_at hz, mem_chF] at h2
    obtain ⟨d, _, e1, _, _, e2⟩ := h1
    obtain ⟨d', _, e1', _, _, e2'⟩ := h2
    have : d = d' := by omega
    subst this
    omega

/-! One more cell blocked. -/
theorem foldl_skip {α β : Type} {f f' : β → α → β} {p : α → Bool} (h1 : ∀ a x, p x = true → f a x = f' a x) (h2 : ∀ a x, p x = false → f a x = a) : ∀ (l : List α) (a : β), l.foldl f a = (l.filter p).foldl f' a
  | [], a => rfl
  | x :: l, a => by
    cases hp : p x with
    | true => simp only [List.foldl_cons, List.filter_cons, hp, if_true, h1 a x hp]; exact foldl_skip h1 h2 l _
    | false => simp only [List.foldl_cons, List.filter_cons, hp, Bool.false_eq_true, if_false, h2 a x hp]; exact foldl_skip h1 h2 l _

theorem bestL_but {x : Int} {l : List (Int × Int)} (hl : ∀ y, y ∈ l → 0 ≤ y.1) : bestL F x l = bestL F (-1) (l.filter fun y => decide (y.1 ≠ x)) := by
  unfold bestL
  have gen : ∀ (l : List (Int × Int)) (a : Int × Int), (∀ y, y ∈ l → 0 ≤ y.1) → l.foldl (bestStep F x) a = (l.filter fun y => decide (y.1 ≠ x)).foldl (bestStep F (-1)) a := by
    intro l
    induction l with
    | nil => intro a _; rfl
    | cons y l ih =>
      intro a hl
      have hy := hl y (by simp)
      by_cases e : y.1 = x
      · have : bestStep F x a y = a := by unfold bestStep; rw [if_neg]; intro h; exact h.1 e
        simp only [List.foldl_cons, List.filter_cons, e, ne_eq, not_true_eq_false, decide_false, Bool.false_eq_true, if_false, this]
        exact ih a fun z hz => hl z (by simp [hz])
      · have : bestStep F x a y = bestStep F (-1) a y := by
          unfold bestStep
          simp only [e, show ¬ y.1 = -1 by omega, not_false_eq_true, true_and]
        simp only [List.foldl_cons, List.filter_cons, e, ne_eq, not_false_eq_true, decide_true, if_true, this]
        exact ih _ fun z hz => hl z (by simp [hz])
  exact gen l _ hl

theorem outF_more {c m : Nat} {x : Int} : outF s (bl ++ [x]) c m = (outF s bl c m).filter fun y => decide (y.1 ≠ x) := by
  induction m with
  | zero => rfl
  | succ m ih =>
    unfold outF
    rw [ih, List.filter_append]
    congr 1
    unfold edgeB
    by_cases hn : nextB s.floor c m = true
    · by_cases h1 : nextF s.floor c m ∈ bl
      · simp [hn, h1]
      · by_cases h2 : nextF s.floor c m = x
        · simp [hn, h1, h2]
        · simp [hn, h1, h2]
    · simp [hn]

theorem grF_home2 {bl' : List Int} : (grF s bl').home = (grF s bl).home := rfl

theorem wok_nil {g : GrD} {x : Nat} (hF : FuelIs g n F) : WOk g n F x [] F := ⟨hF.len, fun c _ h => by simp at h, fun c _ _ => rfl, fun c hc => by have := hF.lo c hc; omega⟩

/-- Less ways, no less fuel. -/
theorem wok_ge {g : GrD} {P : Int} (hg : GrOk g n P) (hF : FuelIs g n F) {x : Nat} {L W : List Int} (hW : WOk g n F x L W) (hh : ∀ c, c ∈ L → g.home.getD c.toNat false = false) :
    ∀ (k c : Nat), c < n → 0 ≤ W.getD c 0 → W.getD c 0 < k → 0 ≤ F.getD c 0 ∧ F.getD c 0 ≤ W.getD c 0 := by
  intro k
  induction k with
  | zero => intro c hc h0 h1; omega
  | succ k ih =>
    intro c hc h0 h1
    by_cases hL : (c : Int) ∈ L
    · have hb := hW.best c hc hL
      have hhc : g.home.getD c false = false := by have := hh _ hL; simpa using this
      obtain ⟨z, z1, z2, z3⟩ := (bestL_ok W x _ (hg.pos hc)).hit (by unfold bst at hb; omega)
      obtain ⟨⟨s1, s2⟩, s3, s4, s5⟩ := hg.st c hc z z1
      have e : W.getD c 0 = W.getD z.1.toNat 0 + z.2 := by rw [hb]; unfold bst; rw [z3]
      obtain ⟨i1, i2⟩ := ih z.1.toNat (by omega) z2.2 (by omega)
      have hle := (bestL_ok F (-1) _ (hg.pos hc)).le z z1 ⟨by omega, i1⟩ (by omega)
      have hfb := hF.best c hc hhc
      unfold bst at hfb
      rw [← hfb] at hle
      omega
    · rw [hW.out c hc hL] at h0 ⊢
      exact ⟨h0, Int.le_refl _⟩

theorem without_is (h0 : FloorOk s.floor) (hs : SpeedOk s) (hn : n = s.floor.kind.length) (hF : FuelIs (grF s bl) n F) {x : Nat} (hx : x < n) {L W : List Int} (hb : BelI (chL (grF s bl) F n) F n x L L.length) (hW : WOk (grF s bl) n F x L W) {G : List Int} (hG : FuelIs (grF s (bl ++ [(x : Int)])) n G) :
    (∀ c, c < n → (c : Int) ∈ L → G.getD c 0 = W.getD c 0) ∧ ∀ c, c < n → ¬ (c : Int) ∈ L → c ≠ x → G.getD c 0 = F.getD c 0 := by
  have hg := grF_ok (bl := bl) h0 hs
  have hg' := grF_ok (bl := bl ++ [(x : Int)]) h0 hs
  rw [← hn] at hg hg'
  have hco := chL_ok hg hF
  have hLr := hb.rng
  have hxL : ¬ (x : Int) ∈ L := fun h => by have := hb.up _ h; rw [Int.toNat_natCast] at this; omega
  have hh : ∀ c, c ∈ L → (grF s bl).home.getD c.toNat false = false := fun c hcm => by
    have : ∀ y : Nat, y < n → c ∈ (chL (grF s bl) F n).getD y [] → (grF s bl).home.getD c.toNat false = false := fun y hy h => by
      rw [chL_at hy, mem_chF] at h
      obtain ⟨d, _, rfl, _, h3, _⟩ := h
      simpa using h3
    rcases (hb.mem c).1 hcm with h | ⟨y, h1, h2⟩
    · exact this x hx h
    · exact this y.toNat (by have := hLr y h1; omega) h2
  have hout : ∀ c, c < n → (grF s (bl ++ [(x : Int)])).out.getD c [] = ((grF s bl).out.getD c []).filter fun y => decide (y.1 ≠ (x : Int)) := fun c hc => by
    rw [grF_out (by omega), grF_out (by omega), outF_more]
  -- the fuel as it has to be
  obtain ⟨H0, eH0⟩ : ∃ H0, H0 = (List.range n).map fun c : Nat => if (c : Int) ∈ L then W.getD c 0 else F.getD c 0 := ⟨_, rfl⟩
  have H0l : H0.length = n := by rw [eH0]; simp
  have H0at : ∀ c, c < n → H0.getD c 0 = if (c : Int) ∈ L then W.getD c 0 else F.getD c 0 := fun c hc => by rw [eH0]; simp [hc]
  have H0W : ∀ c, c < n → H0.getD c 0 = W.getD c 0 := fun c hc => by
    rw [H0at c hc]
    split
    · rfl
    · rename_i h; rw [hW.out c hc h]
  obtain ⟨H, eH⟩ : ∃ H, H = H0.set x (if (grF s bl).home.getD x false = true then 0 else bst (grF s (bl ++ [(x : Int)])) (-1) H0 x) := ⟨_, rfl⟩
  have Hl : H.length = n := by rw [eH]; simp [H0l]
  have Hat : ∀ c, H.getD c 0 = if c = x then (if (grF s bl).home.getD x false = true then 0 else bst (grF s (bl ++ [(x : Int)])) (-1) H0 x) else H0.getD c 0 := fun c => by rw [eH]; exact set_at (by omega)
  have hbs : ∀ c, c < n → bst (grF s (bl ++ [(x : Int)])) (-1) H c = bst (grF s (bl ++ [(x : Int)])) (-1) H0 c := fun c hc => by
    unfold bst
    rw [bestL_congr (fuel := H) (fuel' := H0) fun y hy => ?_]
    rw [hout c hc, List.mem_filter, decide_eq_true_eq] at hy
    have := (hg.st c hc y hy.1).1
    rw [Hat, if_neg (by omega)]
  have hbW : ∀ c, c < n → bst (grF s (bl ++ [(x : Int)])) (-1) H0 c = bst (grF s bl) x W c := fun c hc => by
    unfold bst
    rw [hout c hc, ← bestL_but (fun y hy => (hg.st c hc y hy).1.1), bestL_congr (fuel := H0) (fuel' := W) fun y hy => ?_]
    have := (hg.st c hc y hy).1
    exact H0W _ (by omega)
  have hsol : Sol (grF s (bl ++ [(x : Int)])) n (-1) (fun c => (grF s (bl ++ [(x : Int)])).home.getD c false = false) H := by
    intro c hc hf
    have hf' : (grF s bl).home.getD c false = false := hf
    rw [hbs c hc, Hat]
    by_cases ex : c = x
    · subst ex
      rw [if_pos rfl, if_neg (by rw [hf']; decide)]
    · rw [if_neg ex, H0at c hc, hbW c hc]
      by_cases hL : (c : Int) ∈ L
      · rw [if_pos hL]; exact hW.best c hc hL
      · rw [if_neg hL]
        have hfb := hF.best c hc hf'
        by_cases hp : 0 ≤ F.getD c 0
        · obtain ⟨z, z1, z2, z3, z4⟩ := toF_ok hg hF hc hp hf'
          obtain ⟨⟨s1, s2⟩, s3, s4, s5⟩ := hg.st c hc z z1
          have hzx : z.1 ≠ x := fun e => hL ((hb.mem c).2 (.inl (by rw [chL_at hx, mem_chF]; exact ⟨c, hc, rfl, hp, hf', by rw [z2, e]⟩)))
          have hzL : ¬ z.1 ∈ L := fun e => hL ((hb.mem c).2 (.inr ⟨z.1, e, by unfold chI; rw [chL_at (by omega), mem_chF]; exact ⟨c, hc, rfl, hp, hf', by rw [z2]; omega⟩⟩))
          have eW : W.getD z.1.toNat 0 = F.getD z.1.toNat 0 := hW.out _ (by omega) (by rw [show ((z.1.toNat : Nat) : Int) = z.1 by omega]; exact hzL)
          have hle := (bestL_ok W x _ (hg.pos hc)).le z z1 ⟨hzx, by omega⟩ (by omega)
          have hbw : bst (grF s bl) x W c = (bestL W x ((grF s bl).out.getD c [])).1 := rfl
          rw [← hbw] at hle
          obtain ⟨y, y1, y2, y3⟩ := (bestL_ok W x _ (hg.pos hc)).hit hle.1
          obtain ⟨⟨t1, t2⟩, t3, t4, t5⟩ := hg.st c hc y y1
          have ey : bst (grF s bl) x W c = W.getD y.1.toNat 0 + y.2 := by rw [hbw, y3]
          have hge := wok_ge hg hF hW hh ((W.getD y.1.toNat 0).toNat + 1) y.1.toNat (by omega) y2.2 (by have := y2.2; omega)
          have hle2 := (bestL_ok F (-1) _ (hg.pos hc)).le y y1 ⟨by omega, hge.1⟩ (by omega)
          unfold bst at hfb
          rw [← hfb] at hle2
          omega
        · have hneg : F.getD c 0 = -1 := by have := hF.lo c hc; omega
          rw [hneg]
          apply Eq.symm
          refine bst_neg hg hc (Int.not_le.1 fun h => ?_)
          obtain ⟨y, y1, y2, y3⟩ := (bestL_ok W x _ (hg.pos hc)).hit h
          obtain ⟨⟨t1, t2⟩, t3, t4, t5⟩ := hg.st c hc y y1
          have hge := wok_ge hg hF hW hh ((W.getD y.1.toNat 0).toNat + 1) y.1.toNat (by omega) y2.2 (by have := y2.2; omega)
          have hle2 := (bestL_ok F (-1) _ (hg.pos hc)).le y y1 ⟨by omega, hge.1⟩ (by omega)
          unfold bst at hfb
          rw [← hfb] at hle2
          omega
  have eG : G = H := sol_unique hg' hG.len Hl hG.sol hsol fun c hc hf => by
    have hh' : (grF s bl).home.getD c false = true := by cases hb : (grF s bl).home.getD c false with | true => rfl | false => exact absurd hb hf
    rw [hG.home c hc hh', Hat]
    split
    · rename_i e; subst e; rw [if_pos hh']
    · have : ¬ (c : Int) ∈ L := fun h => by have := hh _ h; rw [Int.toNat_natCast] at this; rw [this] at hh'; cases hh'
      rw [H0at c hc, if_neg this, hF.home c hc hh']
  refine ⟨fun c hc hL => ?_, fun c hc hL hne => ?_⟩
  · rw [eG, Hat, if_neg (fun e : c = x => hxL (by rw [← e]; exact hL)), H0at c hc, if_pos hL]
  · rw [eG, Hat, if_neg hne, H0at c hc, if_neg hL]
end
end Go.Proofs.Yticflcpmlbaafaa.AL

/- Energy: Needs. -/
set_option linter.unusedSimpArgs false
set_option linter.unusedVariables false
namespace Go.Proofs.Yticflcpmlbaafaa.AL
open Go
variable {s : SiteD} {bl : List Int} {n : Nat} {F : List Int} {K : KMap} {N : Nat}

/-- The graph of a site among the objects, from the name b on. -/
structure GK (s : SiteD) (bl : List Int) (n b : Nat) (VO VI : Nat → Nat) (K : KMap) : Prop where
  k0 : K b = some (.row 0 3 [[.own (b + 1) 0 0 n, .own (b + 2) 0 0 n, .own (b + 3) 0 0 n]])
  k1 : K (b + 1) = some (.row 0 1 (ownRow (b + 4) VO (fun i => (OF s bl n 0 i).length) n))
  k2 : K (b + 2) = some (.row 0 1 (ownRow (b + (4 + n)) VI (fun i => (IF s bl n 0 i).length) n))
  k3 : K (b + 3) = some (.row 0 1 (rowC boolR (homeL s n)))
  ko : ∀ i, i < n → K (b + 4 + i) = some (.row (VO i) 2 (rowC stepR (OF s bl n 0 i)))
  ki : ∀ i, i < n → K (b + (4 + n) + i) = some (.row (VI i) 1 (intC (IF s bl n 0 i)))

theorem GK.join {K0 : KMap} {b : Nat} {VO VI : Nat → Nat} (hn : n = s.floor.kind.length) : GK s bl n b VO VI (joinK b K0 (KGs s bl VO VI)) := by
  subst hn
  have up : ∀ i, joinK b K0 (KGs s bl VO VI) (b + i) = (KGs s bl VO VI i).map (AObj.ren (addN b)) := fun i => by
    unfold joinK
    rw [if_neg (by omega), show b + i - b = i by omega]
  refine ⟨?_, ?_, ?_, ?_, fun i hi => ?_, fun i hi => ?_⟩
  · have := up 0
    rw [Nat.add_zero] at this
    rw [this]; simp [KGs, KG, AObj.ren, C.ren, addN, Nat.add_comm]
  · rw [up 1]
    exact congrArg (fun x => some (AObj.row 0 1 x)) (ownRow_ren (b := 4) (b' := b + 4) (fun i _ => by unfold addN; omega))
  · rw [up 2]
    exact congrArg (fun x => some (AObj.row 0 1 x)) (ownRow_ren (b := 4 + s.floor.kind.length) (b' := b + (4 + s.floor.kind.length)) (fun i _ => by unfold addN; omega))
  · rw [up 3]
    exact congrArg some rowC_ren
  · rw [show b + 4 + i = b + (4 + i) by omega, up, KGs, KG_at_O hi]
    exact congrArg some rowC_ren
  · rw [show b + (4 + s.floor.kind.length) + i = b + (4 + s.floor.kind.length + i) by omega, up, KGs, KG_at_I hi]
    exact congrArg some intC_ren

theorem GK.same {K' : KMap} {b : Nat} {VO VI : Nat → Nat} (h : GK s bl n b VO VI K) (hk : ∀ i, b ≤ i → i < b + (4 + n + n) → K' i = K i) : GK s bl n b VO VI K' :=
  ⟨by rw [hk _ (by omega) (by omega)]; exact h.k0, by rw [hk _ (by omega) (by omega)]; exact h.k1, by rw [hk _ (by omega) (by omega)]; exact h.k2, by rw [hk _ (by omega) (by omega)]; exact h.k3,
    fun i hi => by rw [hk _ (by omega) (by omega)]; exact h.ko i hi, fun i hi => by rw [hk _ (by omega) (by omega)]; exact h.ki i hi⟩

theorem GK.mix {b : Nat} {VO VI : Nat → Nat} (h : GK s bl n b VO VI K) (hn : n = s.floor.kind.length) {X : Nat → Prop} {σ : Nat → Nat} {N1 : Nat} (hX : ∀ i, X i) : MixC K X σ N1 (.ptr b 0 0 0) (.rp (encGr (grF s bl))) := by
  subst hn
  exact KG_mixG h.k0 h.k1 h.k2 h.k3 h.ko h.ki hX (by simp [homeL])

/-- What Needs works on: the graph, its fuel (pf), the needs (pn), the children (pc, and from pb on). -/
structure NK (s : SiteD) (bl : List Int) (n pf pn pc pb : Nat) (F ne : List Int) (vn : Nat) (V : Nat → Nat) (CH : Nat → List Int) (K : KMap) (N : Nat) : Prop where
  gk : ∃ VO VI, GK s bl n 1 VO VI K
  fu : K pf = some (.row 0 1 (intC F))
  ne : K pn = some (.row vn 1 (intC ne))
  ci : K pc = some (.row 0 1 (ownRow pb V (fun i => (CH i).length) n))
  ch : ∀ i, i < n → K (pb + i) = some (.row (V i) 1 (intC (CH i)))
  hN : pb + n ≤ N
  hp : 1 + (4 + n + n) ≤ pf ∧ pf < pn ∧ pn < pc ∧ pc < pb

variable {pf pn pc pb : Nat}
theorem NK.need {ne ne' : List Int} {vn : Nat} {V : Nat → Nat} {CH : Nat → List Int} (h : NK s bl n pf pn pc pb F ne vn V CH K N) : NK s bl n pf pn pc pb F ne' vn V CH (upd K pn (.row vn 1 (intC ne'))) N := by
  obtain ⟨VO, VI, hg⟩ := h.gk
  have hp := h.hp
  exact ⟨⟨VO, VI, hg.same fun i h1 h2 => upd_ne _ _ (by omega)⟩, by rw [upd_ne _ _ (by omega)]; exact h.fu, upd_self _ _ _, by rw [upd_ne _ _ (by omega)]; exact h.ci, fun i hi => by rw [upd_ne _ _ (by omega)]; exact h.ch i hi, h.hN, hp⟩

theorem NK.less {K' : KMap} {N' : Nat} {ne : List Int} {vn : Nat} {V : Nat → Nat} {CH : Nat → List Int} (h : NK s bl n pf pn pc pb F ne vn V CH K N) (hk : ∀ i, 1 ≤ i → i < pb + n → K' i = K i) (hN : pb + n ≤ N') : NK s bl n pf pn pc pb F ne vn V CH K' N' := by
  obtain ⟨VO, VI, hg⟩ := h.gk
  have hp := h.hp
  exact ⟨⟨VO, VI, hg.same fun i h1 h2 => hk _ (by omega) (by omega)⟩, by rw [hk _ (by omega) (by omega)]; exact h.fu, by rw [hk _ (by omega) (by omega)]; exact h.ne, by rw [hk _ (by omega) (by omega)]; exact h.ci, fun i hi => by rw [hk _ (by omega) (by omega)]; exact h.ch i hi, hN, hp⟩

theorem NK.child {ne : List Int} {vn : Nat} {V : Nat → Nat} {CH : Nat → List Int} (h : NK s bl n pf pn pc pb F ne vn V CH K N) {t : Nat} (ht : t < n) {c : Int} {o : AObj} {l : Nat} (hl : l = (CH t).length + 1) :
    NK s bl n pf pn pc pb F ne vn (fun i => if i = t then V t + 1 else V i) (fun i => if i = t then CH t ++ [c] else CH i) (upd (upd (upd K N o) (pb + t) (.row (V t + 1) 1 (intC (CH t ++ [c])))) pc (.row 0 1 ((ownRow pb V (fun i => (CH i).length) n).set t [.own (pb + t) (V t + 1) 0 l]))) (N + 1) := by
  obtain ⟨VO, VI, hg⟩ := h.gk
  have hN := h.hN
  have hp := h.hp
  refine ⟨⟨VO, VI, hg.same fun i h1 h2 => by rw [upd_ne _ _ (by omega), upd_ne _ _ (by omega), upd_ne _ _ (by omega)]⟩, ?_, ?_, ?_, fun i hi => ?_, by omega, hp⟩
  · rw [upd_ne _ _ (by omega), upd_ne _ _ (by omega), upd_ne _ _ (by omega)]; exact h.fu
  · rw [upd_ne _ _ (by omega), upd_ne _ _ (by omega), upd_ne _ _ (by omega)]; exact h.ne
  · rw [upd_self, ownRow_set ht]
    congr 2
    refine congrArg (fun f => ownRow pb (fun i => if i = t then V t + 1 else V i) f n) (funext fun i => ?_)
    by_cases e : i = t
    · subst e; simp [hl]
    · simp [e]
  · rw [upd_ne _ _ (by omega)]
    by_cases e : i = t
    · subst e; rw [upd_self]; simp
    · rw [upd_ne _ _ (by omega), upd_ne _ _ (by omega), h.ch i hi, if_neg e, if_neg e]

/-- The needs when the cells below m are begun. -/
def neF (F : List Int) (delay : Int) (n m : Nat) : List Int := (List.range n).map fun c => if c < m ∧ 0 ≤ F.getD c 0 then F.getD c 0 + delay * 3 else F.getD c 0

theorem neF_at {delay : Int} {m c : Nat} (hc : c < n) : (neF F delay n m).getD c 0 = if c < m ∧ 0 ≤ F.getD c 0 then F.getD c 0 + delay * 3 else F.getD c 0 := by simp [neF, hc]
theorem neF_len {delay : Int} {m : Nat} : (neF F delay n m).length = n := by simp [neF]
theorem neF_no {delay : Int} {m : Nat} (h : ¬ 0 ≤ F.getD m 0) : neF F delay n (m + 1) = neF F delay n m := by
  refine List.ext_getElem (by simp [neF]) fun j h1 h2 => ?_
  simp only [neF, List.getElem_map, List.getElem_range]
  by_cases e : j = m
  · subst e; rw [if_neg (by omega), if_neg (by omega)]
  · have e2 : (j < m + 1) ↔ (j < m) := by omega
    simp only [e2]
theorem neF_yes {delay : Int} {m : Nat} (hm : m < n) (h : 0 ≤ F.getD m 0) : (neF F delay n m).set m (F.getD m 0 + delay * 3) = neF F delay n (m + 1) := by
  refine List.ext_getElem (by simp [neF]) fun j h1 h2 => ?_
  rw [List.getElem_set]
  by_cases e : m = j
  · subst e; simp only [neF, List.getElem_map, List.getElem_range]; rw [if_pos trivial, if_pos (by omega)]
  · rw [if_neg e]
    simp only [neF, List.getElem_map, List.getElem_range]
    have e2 : (j < m + 1) ↔ (j < m) := by omega
    simp only [e2]
theorem neF_zero {delay : Int} (h : F.length = n) : neF F delay n 0 = F := by
  refine List.ext_getElem (by simp [neF, h]) fun j h1 h2 => ?_
  simp [neF, h2]

theorem chF_succ {g : GrD} {m y : Nat} : chF g F (m + 1) y = chF g F m y ++ if 0 ≤ F.getD m 0 ∧ g.home.getD m false = false ∧ toF g F m = y then [(m : Int)] else [] := by
  unfold chF
  rw [List.range_succ, List.filter_append, List.map_append]
  congr 1
  by_cases h1 : 0 ≤ F.getD m 0 <;> by_cases h2 : g.home.getD m false = false <;> by_cases h3 : toF g F m = y <;> simp [h1, h2, h3] <;> simp_all
end Go.Proofs.Yticflcpmlbaafaa.AL

/- Energy: Needs, walked. -/
set_option linter.unusedSimpArgs false
set_option linter.unusedVariables false
namespace Go.Proofs.Yticflcpmlbaafaa.AL
open Go
variable {s : SiteD} {bl : List Int} {n : Nat} {F : List Int} {K : KMap} {N : Nat}

/-- One cell's need and the fuel of the cell where a further one is blocked. -/
def combN (a g : Int) : Int := if g < 0 ∨ a < 0 then -1 else max a g
/-- What without hands back at x, as far as it concerns the cell c. -/
structure Wout (g : GrD) (n : Nat) (F : List Int) (x : Nat) (L W : List Int) : Prop where
  bel : BelI (chL g F n) F n x L L.length
  w : WOk g n F x L W

/-- The needs, cell by further cell. -/
structure RowsN (s : SiteD) (bl : List Int) (delay : Int) (n m : Nat) (F : List Int) (R : Nat → List Int) (LW : Nat → List Int × List Int) : Prop where
  r0 : R 0 = neF F delay n n
  len : ∀ x, x ≤ m → (R x).length = n
  w : ∀ x, x < m → Wout (grF s bl) n F x (LW x).1 (LW x).2
  r : ∀ x, x < m → ∀ c, c < n → (R (x + 1)).getD c 0 = if (c : Int) ∈ (LW x).1 then combN ((R x).getD c 0) ((LW x).2.getD c 0) else (R x).getD c 0

def PNe (s : SiteD) (bl : List Int) (delay : Int) (n : Nat) (d : T) (K : KMap) (N : Nat) : Prop :=
  ∃ (R : Nat → List Int) (LW : Nat → List Int × List Int) (v : Nat), d = tC (.own 0 v 0 n) ∧ K = upd emp 0 (.row v 1 (intC (R n))) ∧ N = 1 ∧ RowsN s bl delay n n (fuelF (grF s bl) n) R LW

theorem intC_castX {X : Nat → Prop} {l : List Int} {id v : Nat} (hX : X id) (hK : K id = some (.row v 1 (intC l))) : CastX K X (.own id v 0 l.length) (.rd 1 (ints l)) :=
  rowC_castX (f := intR) (fun x => rfl) hX hK

def tmN (n pf pn pc v1 : Nat) (delay : Int) : Nat → Option T := upd (upd (upd (upd (upd emp 2 (tI delay)) 7 (tC (.ptr 1 0 0 0))) 8 (tC (.own pf 0 0 n))) 9 (tC (.own pn v1 0 n))) 10 (tC (.own pc 0 0 n))

set_option maxHeartbeats 2000000 in
theorem f11 (h0 : FloorOk s.floor) (hz : ZonesOk s) (hs : SpeedOk s) (hn : n = s.floor.kind.length) (hn2 : n ≤ 60) (hbl : bl.length ≤ 1000000) {delay : Int} (hd : 0 ≤ delay ∧ delay ≤ 1000) :
    Spec Try.prog 11 [.v (.agg (encSite s)), tC (.r (.rd 1 (ints bl))), tI delay] emp 0 (PNe s bl delay n) := by
  refine Spec.of_awp hm Try.func11 s11_ok (by simp [s11]) ?_
  have hg := grF_ok (bl := bl) h0 hs
  rw [← hn] at hg
  simp (maxSteps := 2000000) +contextual (disch := (first | omega | (simp only [List.length_set]; omega))) only [go_sem, s11, ↓ s11_w.down, ↓ twoQ_bool, ↓ guardQ_boolt, ↓ guardQ_boolf, decide_eq_true_eq, decide_eq_false_iff_not, Bool.not_eq_true', Bool.not_eq_false', ne_eq, Decidable.not_not, wrap_i, below_r, below_cons, below_nil, below_vx, AL.T.v.injEq, AL.T.tup.injEq, List.cons.injEq, AL.V.x.injEq, AL.C.r.injEq, AL.R.val.injEq, Value.bool.injEq, Value.int.injEq, not_true_eq_false, not_false_eq_true, ints_len, ints_at, intC_len, intC_at, intC_src, intC_app, upd_upd, intC_set, Int.toNat_natCast, List.length_map, evAppend, srcRows, evMkslice, rowsOf, Nat.le_refl, Int.natCast_nonneg, List.drop_one, List.tail_cons, List.length_set, getD_setI, AL.T.ren, AL.V.ren, AL.C.ren, addN, enc_len, enc_take, ↓reduceIte, reduceCtorEq, Nat.reduceEqDiff, Nat.reduceAdd, Nat.reduceSub, Nat.reduceMul, Nat.reduceLT, Nat.reduceLeDiff, Int.reduceToNat]
  refine Spec.plain (f18 h0 hz hs hbl) (liftA_refl rfl) (fun d K1 N1 hP => ?_)
  obtain ⟨rfl, rfl, VO, VI, rfl⟩ := hP
  rw [← hn]
  have hgk : GK s bl n 1 VO VI (joinK 1 (upd emp 0 (.row 0 9 [encSite s])) (KGs s bl VO VI)) := GK.join hn
  generalize joinK 1 (upd emp 0 (.row 0 9 [encSite s])) (KGs s bl VO VI) = K at hgk ⊢
  simp (maxSteps := 2000000) +contextual (disch := (first | omega | (simp only [List.length_set]; omega))) only [go_sem, s11, ↓ s11_w.down, ↓ twoQ_bool, ↓ guardQ_boolt, ↓ guardQ_boolf, decide_eq_true_eq, decide_eq_false_iff_not, Bool.not_eq_true', Bool.not_eq_false', ne_eq, Decidable.not_not, wrap_i, below_r, below_cons, below_nil, below_vx, AL.T.v.injEq, AL.T.tup.injEq, List.cons.injEq, AL.V.x.injEq, AL.C.r.injEq, AL.R.val.injEq, Value.bool.injEq, Value.int.injEq, not_true_eq_false, not_false_eq_true, ints_len, ints_at, intC_len, intC_at, intC_src, intC_app, upd_upd, intC_set, Int.toNat_natCast, List.length_map, evAppend, srcRows, evMkslice, rowsOf, Nat.le_refl, Int.natCast_nonneg, List.drop_one, List.tail_cons, List.length_set, getD_setI, AL.T.ren, AL.V.ren, AL.C.ren, addN, ↓reduceIte, reduceCtorEq, Nat.reduceEqDiff, Nat.reduceAdd, Nat.reduceSub, Nat.reduceMul, Nat.reduceLT, Nat.reduceLeDiff, Int.reduceToNat]
  refine Spec.callMix (args := [tC (.ptr 1 0 0 0)]) (K1 := emp) (N1 := 0) (f19 hg hn2 (by decide)) (fun i => i) (fun i hi => by omega) (fun i j hi => by omega) (fun i o h => by cases h) ⟨hgk.mix hn (fun _ i hi => by omega), trivial⟩ (fun d K' N' hQ => ?_) (fun d K' N' hQ hle => ⟨(fun h => by cases h), ?_⟩)
  · obtain ⟨rfl, rfl, F, rfl, hF⟩ := hQ
    refine ⟨rfl, fun i o h => ?_⟩
    unfold upd at h
    split at h
    · cases h; simp [AObj.flat, intC, C.flat]; intro x _; rfl
    · cases h
  obtain ⟨rfl, rfl, F, rfl, hF⟩ := hQ
  have eF := fuelF_eq hg hn2 (by decide) hF
  have hFl := hF.len
  obtain ⟨pf, hpf⟩ : ∃ pf, pf = 1 + (4 + n + n) := ⟨_, rfl⟩
  rw [← hpf]
  have hgk2 : GK s bl n 1 VO VI (joinS (fun i => i) 0 pf K (upd emp 0 (.row 0 1 (intC F)))) := hgk.same fun i h1 h2 => joinS_off (fun i hi => by omega) (by omega) (fun i hi => by omega)
  have hfu : joinS (fun i => i) 0 pf K (upd emp 0 (.row 0 1 (intC F))) pf = some (.row 0 1 (intC F)) := by
    unfold joinS
    rw [show downTo (fun i => i) 0 pf pf = some 0 by have := downTo_up (σ := fun i => i) (N1 := 0) (N := pf) (fun i hi => by omega) (fun i j hi => by omega) 0; simpa [upTo] using this]
    exact congrArg some intC_ren
  generalize joinS (fun i => i) 0 pf K (upd emp 0 (.row 0 1 (intC F))) = K at hgk2 hfu ⊢
  rw [show T.ren (upTo (fun i => i) 0 pf) (tC (.own 0 0 0 n)) = tC (.own pf 0 0 n) by simp [T.ren, V.ren, C.ren, upTo], show pf + (1 - 0) = pf + 1 from rfl]
  simp (maxSteps := 2000000) +contextual (disch := (first | omega | (simp only [List.length_set]; omega))) only [go_sem, s11, ↓ s11_w.down, ↓ twoQ_bool, ↓ guardQ_boolt, ↓ guardQ_boolf, decide_eq_true_eq, decide_eq_false_iff_not, Bool.not_eq_true', Bool.not_eq_false', ne_eq, Decidable.not_not, wrap_i, below_r, below_cons, below_nil, below_vx, AL.T.v.injEq, AL.T.tup.injEq, List.cons.injEq, AL.V.x.injEq, AL.C.r.injEq, AL.R.val.injEq, Value.bool.injEq, Value.int.injEq, not_true_eq_false, not_false_eq_true, ints_len, ints_at, intC_len, intC_at, intC_src, intC_app, upd_upd, intC_set, Int.toNat_natCast, List.length_map, evAppend, srcRows, evMkslice, rowsOf, Nat.le_refl, Int.natCast_nonneg, List.drop_one, List.tail_cons, List.length_set, getD_setI, AL.T.ren, AL.V.ren, AL.C.ren, addN, ↓reduceIte, reduceCtorEq, Nat.reduceEqDiff, Nat.reduceAdd, Nat.reduceSub, Nat.reduceMul, Nat.reduceLT, Nat.reduceLeDiff, Int.reduceToNat]
  refine RetI.call (f25o F (by omega)) ⟨by have := intC_cast hfu (by omega); rw [hFl] at this; exact this, trivial⟩ fun v1 => ?_
  simp (maxSteps := 2000000) +contextual (disch := (first | omega | (simp only [List.length_set]; omega))) only [go_sem, s11, ↓ s11_w.down, ↓ twoQ_bool, ↓ guardQ_boolt, ↓ guardQ_boolf, decide_eq_true_eq, decide_eq_false_iff_not, Bool.not_eq_true', Bool.not_eq_false', ne_eq, Decidable.not_not, wrap_i, below_r, below_cons, below_nil, below_vx, AL.T.v.injEq, AL.T.tup.injEq, List.cons.injEq, AL.V.x.injEq, AL.C.r.injEq, AL.R.val.injEq, Value.bool.injEq, Value.int.injEq, not_true_eq_false, not_false_eq_true, ints_len, ints_at, intC_len, intC_at, intC_src, intC_app, upd_upd, intC_set, Int.toNat_natCast, List.length_map, evAppend, srcRows, evMkslice, rowsOf, Nat.le_refl, Int.natCast_nonneg, List.drop_one, List.tail_cons, List.length_set, getD_setI, AL.T.ren, AL.V.ren, AL.C.ren, addN, hFl, ↓reduceIte, reduceCtorEq, Nat.reduceEqDiff, Nat.reduceAdd, Nat.reduceSub, Nat.reduceMul, Nat.reduceLT, Nat.reduceLeDiff, Int.reduceToNat]
  (repeat' (with_reducible first | refine And.intro ?_ ?_ | intro _)) <;> try (first | omega | rfl)
  obtain ⟨pn, hpn⟩ : ∃ pn, pn = pf + 1 := ⟨_, rfl⟩
  obtain ⟨pc, hpc⟩ : ∃ pc, pc = pn + 1 := ⟨_, rfl⟩
  rw [← hpn, ← hpc]
  obtain ⟨K', w1, w2, w3, w4⟩ := Weak.nilRow (N0 := 0) (K := upd (upd K pn (.row v1 1 (intC F))) pc (.row 0 1 (List.replicate n [cV nilS]))) (N := pc + 1) pc 1 0 n (upd_self _ _ _) (by omega)
  have hst : NK s bl n pf pn pc (pc + 1) F (neF F delay n 0) v1 (fun _ => 0) (chF (grF s bl) F 0) K' (pc + 1 + n) := by
    refine ⟨⟨VO, VI, hgk2.same fun i h1 h2 => ?_⟩, ?_, ?_, w3, fun i hi => w4 i hi, Nat.le_refl _, by omega⟩
    · rw [w2 i (by omega) (by omega), upd_ne _ _ (by omega), upd_ne _ _ (by omega)]
    · rw [w2 _ (by omega) (by omega), upd_ne _ _ (by omega), upd_ne _ _ (by omega)]; exact hfu
    · rw [w2 _ (by omega) (by omega), upd_ne _ _ (by omega), upd_self, neF_zero hFl]
  have hgb := hg.ol
  refine awp_loop (fun y : Nat × (Nat → Nat) × KMap × Nat => ⟨upd (upd (upd (tmN n pf pn pc v1 delay) 28 (tC (.own pf 0 0 n))) 29 (tI n)) 30 (tI y.1), y.2.2.1, y.2.2.2⟩) (fun y => n - y.1)
    (fun y => y.1 ≤ n ∧ NK s bl n pf pn pc (pc + 1) F (neF F delay n y.1) v1 y.2.1 (chF (grF s bl) F y.1) y.2.2.1 y.2.2.2) (0, fun _ => 0, K', pc + 1 + n) ⟨Nat.zero_le _, hst⟩ ?_ ?_
  · refine Weak.trans (w1 _) ?_
    unfold tmN
    exact Weak.cutTm (by repeat (first | refine TmCut.cons rfl ?_ | refine TmCut.cons (by simp [upd, *]; done) ?_ | exact TmCut.nil))
  rintro ⟨c, Vr, K2, N2⟩ ⟨hc, hk⟩
  simp only at hc hk
  have hkf := hk.fu
  have hkn := hk.ne
  have hkN := hk.hN
  have hFc : c < n → -1 ≤ F.getD c 0 ∧ F.getD c 0 ≤ 24000 := fun h => hF.lo c h
  have hnl : (neF F delay n c).length = n := neF_len
  have hp := hk.hp
  clear hst w1 w2 w3 w4 hgk hgk2 hfu
  simp (maxSteps := 2000000) +contextual (disch := (first | omega | (simp only [List.length_set]; omega))) only [go_sem, s11, ↓ s11_w.down, ↓ twoQ_bool, ↓ guardQ_boolt, ↓ guardQ_boolf, decide_eq_true_eq, decide_eq_false_iff_not, Bool.not_eq_true', Bool.not_eq_false', ne_eq, Decidable.not_not, wrap_i, below_r, below_cons, below_nil, below_vx, AL.T.v.injEq, AL.T.tup.injEq, List.cons.injEq, AL.V.x.injEq, AL.C.r.injEq, AL.R.val.injEq, Value.bool.injEq, Value.int.injEq, not_true_eq_false, not_false_eq_true, ints_len, ints_at, intC_len, intC_at, intC_src, intC_app, upd_upd, intC_set, Int.toNat_natCast, List.length_map, evAppend, srcRows, evMkslice, rowsOf, Nat.le_refl, Int.natCast_nonneg, List.drop_one, List.tail_cons, List.length_set, getD_setI, AL.T.ren, AL.V.ren, AL.C.ren, addN, tmN, hkf, hFl, ↓reduceIte, reduceCtorEq, Nat.reduceEqDiff, Nat.reduceAdd, Nat.reduceSub, Nat.reduceMul, Nat.reduceLT, Nat.reduceLeDiff, Int.reduceToNat]
  (repeat' (with_reducible first | refine And.intro ?_ ?_ | intro _)) <;> try (first | omega | rfl)
  · rename_i h1 h2
    have hc' : c < n := by omega
    refine ⟨(c + 1, Vr, K2, N2), ⟨hc', ?_⟩, by simp only; omega, ?_⟩
    · simp only
      rw [neF_no (by omega), show chF (grF s bl) F (c + 1) = chF (grF s bl) F c from funext fun y => by rw [chF_succ, if_neg (fun h => by omega), List.append_nil]]
      exact hk
    · exact Weak.cutTm (by repeat (first | refine TmCut.cons rfl ?_ | refine TmCut.cons (by simp [upd, *]; done) ?_ | exact TmCut.nil))
  · rename_i h1 h2
    have hc' : c < n := by omega
    refine Pure.callS f12 rfl ?_
    have hmul : delay * 3 ≤ 3000 := by omega
    simp (maxSteps := 2000000) +contextual (disch := (first | omega | (simp only [List.length_set]; omega))) only [go_sem, s11, ↓ s11_w.down, ↓ twoQ_bool, ↓ guardQ_boolt, ↓ guardQ_boolf, decide_eq_true_eq, decide_eq_false_iff_not, Bool.not_eq_true', Bool.not_eq_false', ne_eq, Decidable.not_not, wrap_i, below_r, below_cons, below_nil, below_vx, AL.T.v.injEq, AL.T.tup.injEq, List.cons.injEq, AL.V.x.injEq, AL.C.r.injEq, AL.R.val.injEq, Value.bool.injEq, Value.int.injEq, not_true_eq_false, not_false_eq_true, ints_len, ints_at, intC_len, intC_at, intC_src, intC_app, upd_upd, intC_set, Int.toNat_natCast, List.length_map, evAppend, srcRows, evMkslice, rowsOf, Nat.le_refl, Int.natCast_nonneg, List.drop_one, List.tail_cons, List.length_set, getD_setI, AL.T.ren, AL.V.ren, AL.C.ren, addN, tmN, hkf, hkn, hFl, hnl, ↓reduceIte, reduceCtorEq, Nat.reduceEqDiff, Nat.reduceAdd, Nat.reduceSub, Nat.reduceMul, Nat.reduceLT, Nat.reduceLeDiff, Int.reduceToNat]
    have hk3 := hk.need (ne' := neF F delay n (c + 1))
    obtain ⟨VO3, VI3, hgk3⟩ := hk3.gk
    have hkf3 := hk3.fu
    have hset : (neF F delay n c).set c (F.getD c 0 + delay * 3) = neF F delay n (c + 1) := neF_yes hc' (by omega)
    (repeat' (with_reducible first | refine And.intro ?_ ?_ | intro _)) <;> try (first | omega | rfl)
    rw [hset]
    refine Pure.callMix (f26 (grF s bl) F c (-1) ⟨by omega, by have := hg.lo; omega⟩ (by have := hg.ol c hc'; rw [Int.toNat_natCast]; omega) (fun j hj => ?_) (fun j hj => ?_)) ⟨hgk3.mix hn (fun _ => trivial), .inr (.inl ⟨_, rfl, ?_⟩), .inl ⟨rfl, rfl⟩, .inl ⟨rfl, rfl⟩, trivial⟩ (fun d hd => by rw [hd]; rfl) (fun d hd => ?_)
    · rw [Int.toNat_natCast] at hj ⊢
      have := hg.st c hc' _ (getD_memG (d := (0, 0)) hj)
      rw [hFl]
      exact ⟨this.1, this.2.1, by omega⟩
    · rw [hFl] at hj
      have := hF.lo j hj
      omega
    · have := intC_castX (X := fun _ => True) (l := F) trivial hkf3
      rw [hFl] at this
      exact this
    subst hd
    rw [Int.toNat_natCast, show (bestL F (-1) ((grF s bl).out.getD c [])).2 = toF (grF s bl) F c from rfl]
    generalize upd K2 pn (.row v1 1 (intC (neF F delay n (c + 1)))) = K3 at hk3 hgk3 hkf3 ⊢
    have g0 := hgk3.k0
    have g3 := hgk3.k3
    have hhl : (homeL s n).length = n := by simp [homeL, hn]
    have hhc : (rowC boolR (homeL s n)).getD c [] = [.r (.val (.bool ((grF s bl).home.getD c false)))] := by
      rw [rowC_at (by omega)]
      have e : (grF s bl).home.getD c false = (homeL s n).getD c default := by rw [hn]; rfl
      rw [e]; rfl
    have hbt : 0 ≤ F.getD c 0 ∧ (grF s bl).home.getD c false = false → ∃ t : Nat, toF (grF s bl) F c = t ∧ t < n := fun ⟨a, b⟩ => by
      obtain ⟨z, z1, z2, _⟩ := toF_ok hg hF hc' a b
      have := hg.st c hc' z z1
      exact ⟨z.1.toNat, by omega, by omega⟩
    simp (maxSteps := 2000000) +contextual (disch := (first | omega | (simp only [List.length_set]; omega))) only [go_sem, s11, ↓ s11_w.down, ↓ twoQ_bool, ↓ guardQ_boolt, ↓ guardQ_boolf, decide_eq_true_eq, decide_eq_false_iff_not, Bool.not_eq_true', Bool.not_eq_false', ne_eq, Decidable.not_not, wrap_i, below_r, below_cons, below_nil, below_vx, AL.T.v.injEq, AL.T.tup.injEq, List.cons.injEq, AL.V.x.injEq, AL.C.r.injEq, AL.R.val.injEq, Value.bool.injEq, Value.int.injEq, not_true_eq_false, not_false_eq_true, ints_len, ints_at, intC_len, intC_at, intC_src, intC_app, upd_upd, intC_set, Int.toNat_natCast, List.length_map, evAppend, srcRows, evMkslice, rowsOf, Nat.le_refl, Int.natCast_nonneg, List.drop_one, List.tail_cons, List.length_set, getD_setI, AL.T.ren, AL.V.ren, AL.C.ren, addN, g0, g3, hhc, rowC_len, hhl, Nat.reduceAdd, ↓reduceIte, reduceCtorEq, Nat.reduceEqDiff, Nat.reduceAdd, Nat.reduceSub, Nat.reduceMul, Nat.reduceLT, Nat.reduceLeDiff, Int.reduceToNat]
    (repeat' (with_reducible first | refine And.intro ?_ ?_ | intro _)) <;> try (first | omega | rfl)
    · rename_i hh
      obtain ⟨t, et, ht⟩ := hbt ⟨by omega, hh⟩
      have hci := hk3.ci
      have hch := hk3.ch t ht
      have e1 : (pc = N2) = False := eq_false (by omega)
      have e2 : (pc + 1 + t = N2) = False := eq_false (by omega)
      have e3 : (pc = pc + 1 + t) = False := eq_false (by omega)
      have hlt : (chF (grF s bl) F c t).length ≤ 60 := by
        unfold chF
        rw [List.length_map]
        have := List.length_filter_le (fun c => decide (0 ≤ F.getD c 0) && !(grF s bl).home.getD c false && decide (toF (grF s bl) F c = t)) (List.range c)
        rw [List.length_range] at this
        omega
      rw [et]
      simp (maxSteps := 2000000) +contextual (disch := (first | omega | (simp only [List.length_set]; omega))) only [go_sem, s11, ↓ s11_w.down, ↓ twoQ_bool, ↓ guardQ_boolt, ↓ guardQ_boolf, decide_eq_true_eq, decide_eq_false_iff_not, Bool.not_eq_true', Bool.not_eq_false', ne_eq, Decidable.not_not, wrap_i, below_r, below_cons, below_nil, below_vx, AL.T.v.injEq, AL.T.tup.injEq, List.cons.injEq, AL.V.x.injEq, AL.C.r.injEq, AL.R.val.injEq, Value.bool.injEq, Value.int.injEq, not_true_eq_false, not_false_eq_true, ints_len, ints_at, intC_len, intC_at, intC_src, intC_app, upd_upd, intC_set, Int.toNat_natCast, List.length_map, evAppend, srcRows, evMkslice, rowsOf, Nat.le_refl, Int.natCast_nonneg, List.drop_one, List.tail_cons, List.length_set, getD_setI, AL.T.ren, AL.V.ren, AL.C.ren, addN, hci, hch, ownRow_len, ownRow_at ht, e1, e2, e3, List.length_append, List.length_singleton, ↓reduceIte, reduceCtorEq, Nat.reduceEqDiff, Nat.reduceAdd, Nat.reduceSub, Nat.reduceMul, Nat.reduceLT, Nat.reduceLeDiff, Int.reduceToNat]
      have hk4 := hk3.child ht (c := (c : Int)) (o := .row 0 1 [[cV (.int .i64 c)]]) (l := (chF (grF s bl) F c t).length + 1) rfl
      have hC : (fun i => if i = t then chF (grF s bl) F c t ++ [(c : Int)] else chF (grF s bl) F c i) = chF (grF s bl) F (c + 1) := by
        funext i
        rw [chF_succ]
        by_cases ei : i = t
        · subst ei; rw [if_pos rfl, if_pos ⟨by omega, hh, et⟩]
        · rw [if_neg ei, if_neg (fun h => ei (by have := h.2.2; omega)), List.append_nil]
      rw [hC] at hk4
      (repeat' (with_reducible first | refine And.intro ?_ ?_ | intro _)) <;> try (first | omega | rfl)
      refine ⟨(c + 1, _, _, N2 + 1), ⟨hc', hk4⟩, by simp only; omega, ?_⟩
      exact Weak.cutTm (by repeat (first | refine TmCut.cons rfl ?_ | refine TmCut.cons (by simp [upd, *]; done) ?_ | exact TmCut.nil))
    · rename_i hh
      refine ⟨(c + 1, Vr, K3, N2), ⟨hc', ?_⟩, by simp only; omega, ?_⟩
      · simp only
        rw [show chF (grF s bl) F (c + 1) = chF (grF s bl) F c from funext fun y => by rw [chF_succ, if_neg (fun h => by have := h.2.1; simp_all), List.append_nil]]
        exact hk3
      · exact Weak.cutTm (by repeat (first | refine TmCut.cons rfl ?_ | refine TmCut.cons (by simp [upd, *]; done) ?_ | exact TmCut.nil))
  rename_i hcn
  have hcn : c = n := by omega
  subst hcn
  clear hkf hkn hFc hp hnl hkN
  refine awp_loop (fun y : Nat × (Nat → List Int) × (Nat → List Int × List Int) × KMap × Nat => ⟨upd (upd (upd (tmN c pf pn pc v1 delay) 71 (tC (.own pf 0 0 c))) 72 (tI c)) 73 (tI y.1), y.2.2.2.1, y.2.2.2.2⟩) (fun y => c - y.1)
    (fun y => y.1 ≤ c ∧ RowsN s bl delay c y.1 F y.2.1 y.2.2.1 ∧ NK s bl c pf pn pc (pc + 1) F (y.2.1 y.1) v1 Vr (chF (grF s bl) F c) y.2.2.2.1 y.2.2.2.2) (0, fun _ => neF F delay c c, fun _ => ([], []), K2, N2) ⟨Nat.zero_le _, ⟨rfl, fun x hx => neF_len, fun x hx => by omega, fun x hx => by omega⟩, hk⟩ ?_ ?_
  · unfold tmN
    exact Weak.cutTm (by repeat (first | refine TmCut.cons rfl ?_ | refine TmCut.cons (by simp [upd, *]; done) ?_ | exact TmCut.nil))
  clear hk K2 N2
  rintro ⟨m, R, LW, K2, N2⟩ ⟨hm1, hR, hk⟩
  simp only at hm1 hR hk
  obtain ⟨VO3, VI3, hgk3⟩ := hk.gk
  have hkf := hk.fu
  have hkn := hk.ne
  have hkN := hk.hN
  have hp := hk.hp
  have hci := hk.ci
  have hch := hk.ch
  simp (maxSteps := 2000000) +contextual (disch := (first | omega | (simp only [List.length_set]; omega))) only [go_sem, s11, ↓ s11_w.down, ↓ twoQ_bool, ↓ guardQ_boolt, ↓ guardQ_boolf, decide_eq_true_eq, decide_eq_false_iff_not, Bool.not_eq_true', Bool.not_eq_false', ne_eq, Decidable.not_not, wrap_i, below_r, below_cons, below_nil, below_vx, AL.T.v.injEq, AL.T.tup.injEq, List.cons.injEq, AL.V.x.injEq, AL.C.r.injEq, AL.R.val.injEq, Value.bool.injEq, Value.int.injEq, not_true_eq_false, not_false_eq_true, ints_len, ints_at, intC_len, intC_at, intC_src, intC_app, upd_upd, intC_set, Int.toNat_natCast, List.length_map, evAppend, srcRows, evMkslice, rowsOf, Nat.le_refl, Int.natCast_nonneg, List.drop_one, List.tail_cons, List.length_set, getD_setI, AL.T.ren, AL.V.ren, AL.C.ren, addN, tmN, ↓reduceIte, reduceCtorEq, Nat.reduceEqDiff, Nat.reduceAdd, Nat.reduceSub, Nat.reduceMul, Nat.reduceLT, Nat.reduceLeDiff, Int.reduceToNat]
  (repeat' (with_reducible first | refine And.intro ?_ ?_ | intro _)) <;> try (first | omega | rfl)
  · rename_i hm2
    have hm2 : m < c := by omega
    have hco := chL_ok hg hF
    have hch2 : ∀ y, y < c → ∀ d, d ∈ (chL (grF s bl) F c).getD y [] → (grF s bl).home.getD d.toNat false = false := fun y hy d hd => by
      rw [chL_at hy, mem_chF] at hd
      obtain ⟨e, _, rfl, _, h3, _⟩ := hd
      simpa using h3
    have hcast : CastX K2 (fun id => ∀ i, i < 0 → (fun i : Nat => i) i ≠ id) (.own pc 0 0 c) (.rd 1 ((chL (grF s bl) F c).map encIn)) :=
      ownRow_castX (f := intR) (sz := 1) (fun i hi => by omega) hci (fun l => rfl) (fun x => rfl) (fun i hi i hi => by omega) hch
    have hcf : CastX K2 (fun id => ∀ i, i < 0 → (fun i : Nat => i) i ≠ id) (.own pf 0 0 c) (.rd 1 (ints F)) := by
      have := intC_castX (X := fun id => ∀ i, i < 0 → (fun i : Nat => i) i ≠ id) (l := F) (fun i hi => by omega) hkf
      rw [hFl] at this
      exact this
    refine Spec.callMix (args := [tC (.ptr 1 0 0 0), tC (.own pf 0 0 c), tC (.own pc 0 0 c), tI m]) (K1 := emp) (N1 := 0) (f27 hg hn2 hF hco hch2 hm2) (fun i => i) (fun i hi => by omega) (fun i j hi => by omega) (fun i o h => by cases h) ⟨hgk3.mix hn (fun _ i hi => by omega), .inr (.inl ⟨_, rfl, hcf⟩), .inr (.inl ⟨_, rfl, hcast⟩), .inl ⟨rfl, rfl⟩, trivial⟩ (fun d K' N' hQ => ?_) (fun d K' N' hQ hle => ⟨(fun h => by cases h), ?_⟩)
    · obtain ⟨L, _, ⟨_, rfl, rfl, rfl⟩ | ⟨es, W, rfl, rfl, rfl, hes, _⟩⟩ := hQ
      · exact ⟨rfl, fun i o h => by cases h⟩
      · refine ⟨rfl, fun i o h => ?_⟩
        unfold upd at h
        split at h
        · cases h
          simp only [AObj.flat, List.all_eq_true]
          intro e he
          obtain ⟨n0, _, h2⟩ := hes.mem he
          unfold mapF at h2
          split at h2
          · rw [← Option.some.inj h2]; rfl
          · cases h2
        · cases h
    have hsame : ∀ K1 i, i < N2 → joinS (fun i => i) 0 N2 K2 K1 i = K2 i := fun K1 i hi => joinS_off' hi
    obtain ⟨L, hbel, ⟨rfl, rfl, rfl, rfl⟩ | ⟨es, W, rfl, rfl, rfl, hes, hW⟩⟩ := hQ
    · have hk3 := hk.less (K' := joinS (fun i => i) 0 N2 K2 emp) (N' := N2 + (0 - 0)) (fun i h1 h2 => hsame _ i (by omega)) (by omega)
      generalize joinS (fun i => i) 0 N2 K2 emp = K3 at hk3 ⊢
      simp (maxSteps := 2000000) +contextual (disch := (first | omega | (simp only [List.length_set]; omega))) only [go_sem, s11, ↓ s11_w.down, ↓ twoQ_bool, ↓ guardQ_boolt, ↓ guardQ_boolf, decide_eq_true_eq, decide_eq_false_iff_not, Bool.not_eq_true', Bool.not_eq_false', ne_eq, Decidable.not_not, wrap_i, below_r, below_cons, below_nil, below_vx, AL.T.v.injEq, AL.T.tup.injEq, List.cons.injEq, AL.V.x.injEq, AL.C.r.injEq, AL.R.val.injEq, Value.bool.injEq, Value.int.injEq, not_true_eq_false, not_false_eq_true, ints_len, ints_at, intC_len, intC_at, intC_src, intC_app, upd_upd, intC_set, Int.toNat_natCast, List.length_map, evAppend, srcRows, evMkslice, rowsOf, Nat.le_refl, Int.natCast_nonneg, List.drop_one, List.tail_cons, List.length_set, getD_setI, AL.T.ren, AL.V.ren, AL.C.ren, addN, ↓reduceIte, reduceCtorEq, Nat.reduceEqDiff, Nat.reduceAdd, Nat.reduceSub, Nat.reduceMul, Nat.reduceLT, Nat.reduceLeDiff, Int.reduceToNat]
      refine rmW_nil rfl fun r => ?_
      simp (maxSteps := 2000000) +contextual (disch := (first | omega | (simp only [List.length_set]; omega))) only [go_sem, s11, ↓ s11_w.down, ↓ twoQ_bool, ↓ guardQ_boolt, ↓ guardQ_boolf, decide_eq_true_eq, decide_eq_false_iff_not, Bool.not_eq_true', Bool.not_eq_false', ne_eq, Decidable.not_not, wrap_i, below_r, below_cons, below_nil, below_vx, AL.T.v.injEq, AL.T.tup.injEq, List.cons.injEq, AL.V.x.injEq, AL.C.r.injEq, AL.R.val.injEq, Value.bool.injEq, Value.int.injEq, not_true_eq_false, not_false_eq_true, ints_len, ints_at, intC_len, intC_at, intC_src, intC_app, upd_upd, intC_set, Int.toNat_natCast, List.length_map, evAppend, srcRows, evMkslice, rowsOf, Nat.le_refl, Int.natCast_nonneg, List.drop_one, List.tail_cons, List.length_set, getD_setI, AL.T.ren, AL.V.ren, AL.C.ren, addN, ↓reduceIte, reduceCtorEq, Nat.reduceEqDiff, Nat.reduceAdd, Nat.reduceSub, Nat.reduceMul, Nat.reduceLT, Nat.reduceLeDiff, Int.reduceToNat]
      refine ⟨(m + 1, fun x => if x ≤ m then R x else R m, fun x => if x < m then LW x else ([], F), K3, N2 + (0 - 0)), ⟨hm2, ⟨by simp [hR.r0], fun x hx => ?_, fun x hx => ?_, fun x hx c' hc' => ?_⟩, ?_⟩, by simp only; omega, ?_⟩
      · simp only
        split
        · exact hR.len x (by omega)
        · exact hR.len m (by omega)
      · simp only
        by_cases e : x < m
        · rw [if_pos e]; exact hR.w x e
        · rw [if_neg e, show x = m by omega]; exact ⟨hbel, wok_nil hF⟩
      · simp only
        by_cases e : x < m
        · simp only [show x + 1 ≤ m by omega, show x ≤ m by omega, e, if_true]; exact hR.r x e c' hc'
        · have e2 : x = m := by omega
          subst e2
          simp only [Nat.lt_irrefl, if_false, show ¬ x + 1 ≤ x by omega, Nat.le_refl, if_true, List.not_mem_nil]
      · simp only
        rw [if_neg (by omega)]
        exact hk3
      · exact Weak.cutTm (by repeat (first | refine TmCut.cons rfl ?_ | refine TmCut.cons (by simp [upd, *]; done) ?_ | exact TmCut.nil))
    · have hk3 := hk.less (K' := joinS (fun i => i) 0 N2 K2 (upd emp 0 (.map es))) (N' := N2 + (1 - 0)) (fun i h1 h2 => hsame _ i (by omega)) (by omega)
      have hmap : joinS (fun i => i) 0 N2 K2 (upd emp 0 (.map es)) N2 = some (.map es) := by
        unfold joinS
        rw [show downTo (fun i => i) 0 N2 N2 = some 0 by have := downTo_up (σ := fun i => i) (N1 := 0) (N := N2) (fun i hi => by omega) (fun i j hi => by omega) 0; simpa [upTo] using this]
        exact congrArg some (hes.im.ren _)
      generalize joinS (fun i => i) 0 N2 K2 (upd emp 0 (.map es)) = K3 at hk3 hmap ⊢
      have hup : upTo (fun i => i) 0 N2 0 = N2 := by simp [upTo]
      simp (maxSteps := 2000000) +contextual (disch := (first | omega | (simp only [List.length_set]; omega))) only [go_sem, s11, ↓ s11_w.down, ↓ twoQ_bool, ↓ guardQ_boolt, ↓ guardQ_boolf, decide_eq_true_eq, decide_eq_false_iff_not, Bool.not_eq_true', Bool.not_eq_false', ne_eq, Decidable.not_not, wrap_i, below_r, below_cons, below_nil, below_vx, AL.T.v.injEq, AL.T.tup.injEq, List.cons.injEq, AL.V.x.injEq, AL.C.r.injEq, AL.R.val.injEq, Value.bool.injEq, Value.int.injEq, not_true_eq_false, not_false_eq_true, ints_len, ints_at, intC_len, intC_at, intC_src, intC_app, upd_upd, intC_set, Int.toNat_natCast, List.length_map, evAppend, srcRows, evMkslice, rowsOf, Nat.le_refl, Int.natCast_nonneg, List.drop_one, List.tail_cons, List.length_set, getD_setI, AL.T.ren, AL.V.ren, AL.C.ren, addN, hup, ↓reduceIte, reduceCtorEq, Nat.reduceEqDiff, Nat.reduceAdd, Nat.reduceSub, Nat.reduceMul, Nat.reduceLT, Nat.reduceLeDiff, Int.reduceToNat]
      have hok : es.all (fun e => keyGood e.1 && dataV e.2) = true := List.all_eq_true.2 fun e he => by
        obtain ⟨n0, h1, h2⟩ := hes.mem he
        unfold mapF at h2
        split at h2
        · rw [h1, ← Option.some.inj h2]; rfl
        · cases h2
      have hWl := hW.len
      refine rmW_map (mid := N2) (es := es) rfl hmap hok (fun r (y : List Int × KMap × Nat) => ⟨upd (upd (upd (upd (tmN c pf pn pc v1 delay) 71 (tC (.own pf 0 0 c))) 72 (tI c)) 73 (tI m)) 81 (tV (iptr r)), y.2.1, y.2.2⟩)
        (fun done y => NK s bl c pf pn pc (pc + 1) F y.1 v1 Vr (chF (grF s bl) F c) y.2.1 y.2.2 ∧ y.1.length = c ∧ ∀ d, d < c → y.1.getD d 0 = if (mfind done (ki d)).isSome = true then combN ((R m).getD d 0) (W.getD d 0) else (R m).getD d 0)
        (fun r y => rfl) (R m, dropK [N2] K3, N2 + (1 - 0)) (fun r => ?_) ⟨hk3.less (K' := dropK [N2] K3) (fun i h1 h2 => by unfold dropK; rw [if_neg (by simp; omega)]) (by have := hk3.hN; omega), hR.len m (Nat.le_refl m), fun d hd => by simp [mfind]⟩ (fun r done e rest y hpm hi => ?_) (fun r done y hpm hi => ?_)
      · unfold tmN
        exact Weak.cutTm (by repeat (first | refine TmCut.cons rfl ?_ | refine TmCut.cons (by simp [upd, *]; done) ?_ | exact TmCut.nil))
      · obtain ⟨ne, K4, N4⟩ := y
        obtain ⟨hk4, hl4, hi⟩ := hi
        simp only at hk4 hl4 hi
        obtain ⟨n0, hn0, hf, hno, hsn⟩ := hes.round hpm
        obtain ⟨ke, de⟩ := e
        simp only at hn0 hf hsn
        subst hn0
        unfold mapF at hf
        split at hf
        · rename_i hnL
          have hde := Option.some.inj hf
          subst hde
          obtain ⟨b1, b2⟩ := hbel.rng n0 hnL
          obtain ⟨e0, he0⟩ : ∃ e0 : Nat, n0 = e0 := ⟨n0.toNat, by omega⟩
          subst he0
          have he0c : e0 < c := by omega
          have hkn4 := hk4.ne
          have hne0 : ne.getD e0 0 = (R m).getD e0 0 := by rw [hi e0 he0c, hno]; rfl
          have fin : ∀ (v : Int) (tm' : Nat → Option T), v = combN (ne.getD e0 0) (W.getD e0 0) → TmCut (upd (upd (upd (upd (tmN c pf pn pc v1 delay) 71 (tC (.own pf 0 0 c))) 72 (tI c)) 73 (tI m)) 81 (tV (iptr r))) tm' →
              ∃ s2, Weak 0 ⟨tm', upd K4 pn (.row v1 1 (intC (ne.set e0 v))), N4⟩ s2 ∧ ∃ y : List Int × KMap × Nat, s2 = ⟨upd (upd (upd (upd (tmN c pf pn pc v1 delay) 71 (tC (.own pf 0 0 c))) 72 (tI c)) 73 (tI m)) 81 (tV (iptr r)), y.2.1, y.2.2⟩ ∧
                NK s bl c pf pn pc (pc + 1) F y.1 v1 Vr (chF (grF s bl) F c) y.2.1 y.2.2 ∧ y.1.length = c ∧ ∀ d, d < c → y.1.getD d 0 = if (mfind (done ++ [(ki e0, iV2 (W.getD (e0 : Int).toNat 0))]) (ki d)).isSome = true then combN ((R m).getD d 0) (W.getD d 0) else (R m).getD d 0 := by
            intro v tm' hv ht
            refine ⟨_, Weak.cutTm ht, (ne.set e0 v, _, _), rfl, hk4.need, by simp only [List.length_set]; exact hl4, fun d hd => ?_⟩
            simp only
            rw [set_at (by omega), hsn]
            by_cases ed : d = e0
            · subst ed; simp only [if_true, Option.isSome_some]; rw [hv, hne0]
            · rw [if_neg ed, if_neg (show ¬ (d : Int) = e0 by omega)]; exact hi d hd
          unfold tmN at fin
          simp (maxSteps := 2000000) +contextual (disch := (first | omega | (simp only [List.length_set]; omega))) only [go_sem, s11, ↓ s11_w.down, ↓ twoQ_bool, ↓ guardQ_boolt, ↓ guardQ_boolf, decide_eq_true_eq, decide_eq_false_iff_not, Bool.not_eq_true', Bool.not_eq_false', ne_eq, Decidable.not_not, wrap_i, below_r, below_cons, below_nil, below_vx, AL.T.v.injEq, AL.T.tup.injEq, List.cons.injEq, AL.V.x.injEq, AL.C.r.injEq, AL.R.val.injEq, Value.bool.injEq, Value.int.injEq, not_true_eq_false, not_false_eq_true, ints_len, ints_at, intC_len, intC_at, intC_src, intC_app, upd_upd, intC_set, Int.toNat_natCast, List.length_map, evAppend, srcRows, evMkslice, rowsOf, Nat.le_refl, Int.natCast_nonneg, List.drop_one, List.tail_cons, List.length_set, getD_setI, AL.T.ren, AL.V.ren, AL.C.ren, addN, tmN, hkn4, hl4, iV2, ki, ↓reduceIte, reduceCtorEq, Nat.reduceEqDiff, Nat.reduceAdd, Nat.reduceSub, Nat.reduceMul, Nat.reduceLT, Nat.reduceLeDiff, Int.reduceToNat]
          (repeat' (with_reducible first | refine And.intro ?_ ?_ | intro _)) <;> try (first | omega | rfl)
          all_goals
            refine fin _ _ ?_ ?_
            · unfold combN
              split <;> omega
            · (repeat (first | exact TmCut.nil | refine TmCut.cons rfl ?_ | refine TmCut.cons (by simp [upd, *]; done) ?_))
        · cases hf
      · obtain ⟨ne, K4, N4⟩ := y
        obtain ⟨hk4, hl4, hi⟩ := hi
        simp only at hk4 hl4 hi
        have hpd := hes.perm hpm
        have hi2 : ∀ d, d < c → ne.getD d 0 = if (d : Int) ∈ L then combN ((R m).getD d 0) (W.getD d 0) else (R m).getD d 0 := fun d hd => by
          rw [hi d hd, hpd.im.2.2]
          unfold mapF
          by_cases hdL : (d : Int) ∈ L <;> simp [hdL]
        simp (maxSteps := 2000000) +contextual (disch := (first | omega | (simp only [List.length_set]; omega))) only [go_sem, s11, ↓ s11_w.down, ↓ twoQ_bool, ↓ guardQ_boolt, ↓ guardQ_boolf, decide_eq_true_eq, decide_eq_false_iff_not, Bool.not_eq_true', Bool.not_eq_false', ne_eq, Decidable.not_not, wrap_i, below_r, below_cons, below_nil, below_vx, AL.T.v.injEq, AL.T.tup.injEq, List.cons.injEq, AL.V.x.injEq, AL.C.r.injEq, AL.R.val.injEq, Value.bool.injEq, Value.int.injEq, not_true_eq_false, not_false_eq_true, ints_len, ints_at, intC_len, intC_at, intC_src, intC_app, upd_upd, intC_set, Int.toNat_natCast, List.length_map, evAppend, srcRows, evMkslice, rowsOf, Nat.le_refl, Int.natCast_nonneg, List.drop_one, List.tail_cons, List.length_set, getD_setI, AL.T.ren, AL.V.ren, AL.C.ren, addN, tmN, ↓reduceIte, reduceCtorEq, Nat.reduceEqDiff, Nat.reduceAdd, Nat.reduceSub, Nat.reduceMul, Nat.reduceLT, Nat.reduceLeDiff, Int.reduceToNat]
        refine ⟨(m + 1, fun x => if x ≤ m then R x else ne, fun x => if x < m then LW x else (L, W), K4, N4), ⟨hm2, ⟨by simp [hR.r0], fun x hx => ?_, fun x hx => ?_, fun x hx c' hc' => ?_⟩, ?_⟩, by simp only; omega, ?_⟩
        · simp only
          split
          · exact hR.len x (by omega)
          · exact hl4
        · simp only
          by_cases e : x < m
          · rw [if_pos e]; exact hR.w x e
          · rw [if_neg e, show x = m by omega]; exact ⟨hbel, hW⟩
        · simp only
          by_cases e : x < m
          · simp only [show x + 1 ≤ m by omega, show x ≤ m by omega, e, if_true]; exact hR.r x e c' hc'
          · have e2 : x = m := by omega
            subst e2
            simp only [Nat.lt_irrefl, if_false, show ¬ x + 1 ≤ x by omega, Nat.le_refl, if_true]
            exact hi2 c' hc'
        · simp only
          rw [if_neg (by omega)]
          exact hk4
        · exact Weak.cutTm (by repeat (first | refine TmCut.cons rfl ?_ | refine TmCut.cons (by simp [upd, *]; done) ?_ | exact TmCut.nil))
  · exact ⟨_, _, _, _, Back.intC1 hkn rfl, R, LW, v1, rfl, by rw [show m = c by omega], rfl, by rw [show m = c by omega] at hR; rw [← eF]; exact hR⟩
end Go.Proofs.Yticflcpmlbaafaa.AL

/- Energy: what Needs hands back, said by fuel alone. -/
set_option linter.unusedSimpArgs false
set_option linter.unusedVariables false
namespace Go.Proofs.Yticflcpmlbaafaa.AL
open Go
variable {s : SiteD} {bl : List Int} {n : Nat}

/-- The fuel where x is blocked, too. -/
noncomputable def gxF (s : SiteD) (bl : List Int) (x : Nat) : List Int := fuelF (grF s (bl ++ [(x : Int)])) s.floor.kind.length
noncomputable def fxF (s : SiteD) (bl : List Int) : List Int := fuelF (grF s bl) s.floor.kind.length
noncomputable def needAt (s : SiteD) (bl : List Int) (delay : Int) (c m : Nat) : Int :=
  (List.range m).foldl (fun (a : Int) (x : Nat) => if (x : Int) ∈ bl ∨ x = c then a else combN a ((gxF s bl x).getD c 0)) (if 0 ≤ (fxF s bl).getD c 0 then (fxF s bl).getD c 0 + delay * 3 else (fxF s bl).getD c 0)
noncomputable def needsL (s : SiteD) (bl : List Int) (delay : Int) : List Int := (List.range s.floor.kind.length).map fun c => needAt s bl delay c s.floor.kind.length

theorem needAt_succ {delay : Int} {c m : Nat} : needAt s bl delay c (m + 1) = if (m : Int) ∈ bl ∨ m = c then needAt s bl delay c m else combN (needAt s bl delay c m) ((gxF s bl m).getD c 0) := by
  unfold needAt
  rw [List.range_succ, List.foldl_append]
  rfl

theorem combN_neg {g : Int} : combN (-1) g = -1 := by unfold combN; rw [if_pos (by omega)]

theorem needAt_inv {delay : Int} (hd : 0 ≤ delay) {c m : Nat} (hF : -1 ≤ (fxF s bl).getD c 0) : ((fxF s bl).getD c 0 < 0 → needAt s bl delay c m = -1) ∧ (0 ≤ (fxF s bl).getD c 0 → needAt s bl delay c m = -1 ∨ (fxF s bl).getD c 0 ≤ needAt s bl delay c m) := by
  induction m with
  | zero =>
    unfold needAt
    simp only [List.range_zero, List.foldl_nil]
    refine ⟨fun h => by rw [if_neg (by omega)]; omega, fun h => .inr ?_⟩
    rw [if_pos h]
    omega
  | succ m ih =>
    rw [needAt_succ]
    split
    · exact ih
    · refine ⟨fun h => by rw [ih.1 h, combN_neg], fun h => ?_⟩
      rcases ih.2 h with e | e
      · rw [e, combN_neg]; exact .inl rfl
      · unfold combN
        split
        · exact .inl rfl
        · exact .inr (by omega)

/-- What Needs hands back. -/
theorem needs_is (h0 : FloorOk s.floor) (hs : SpeedOk s) (hn : n = s.floor.kind.length) (hn2 : n ≤ 60) {delay : Int} (hd : 0 ≤ delay) {d : T} {K : KMap} {N : Nat} (h : PNe s bl delay n d K N) : RetI (needsL s bl delay) d K N := by
  subst hn
  obtain ⟨R, LW, v, rfl, rfl, rfl, hRN⟩ := h
  have hg := grF_ok (bl := bl) h0 hs
  have hF := fuelF_ok hg hn2 (by decide)
  rw [show fuelF (grF s bl) s.floor.kind.length = fxF s bl from rfl] at hRN hF
  have hR0 := hRN.r0
  have key : ∀ x, x ≤ s.floor.kind.length → (R x).length = s.floor.kind.length ∧ ∀ c, c < s.floor.kind.length → (R x).getD c 0 = needAt s bl delay c x := by
    intro x
    induction x with
    | zero =>
      intro _
      refine ⟨by rw [hR0, neF_len], fun c hc => ?_⟩
      rw [hR0, neF_at hc]
      unfold needAt
      simp only [List.range_zero, List.foldl_nil, hc, true_and]
    | succ x ih =>
      intro hx
      have hx : x < s.floor.kind.length := by omega
      have hw := hRN.w x hx
      have hl2 := hRN.len (x + 1) (by omega)
      have hr := hRN.r x hx
      obtain ⟨_, ih⟩ := ih (by omega)
      refine ⟨hl2, fun c hc => ?_⟩
      rw [hr c hc, ih c hc, needAt_succ]
      have hinv := needAt_inv (s := s) (bl := bl) hd (c := c) (m := x) (hF.lo c hc).1
      have hbel := hw.bel
      by_cases hb : (x : Int) ∈ bl
      · -- nobody leads to a blocked cell
        rw [if_pos (c := (x : Int) ∈ bl ∨ x = c) (.inl hb), if_neg]
        intro hcL
        have hne : ∀ c', c' ∉ chF (grF s bl) (fxF s bl) s.floor.kind.length x := fun c' hm => by
          rw [mem_chF] at hm
          obtain ⟨e, h1, rfl, h2, h3, h4⟩ := hm
          obtain ⟨z, z1, z2, _, _⟩ := toF_ok hg hF h1 h2 h3
          rw [grF_out h1, mem_outF] at z1
          obtain ⟨dd, _, he, rfl⟩ := z1
          unfold edgeB at he
          simp only [Bool.and_eq_true, Bool.not_eq_true', decide_eq_false_iff_not] at he
          rw [z2] at h4
          simp only at h4
          rw [h4] at he
          exact he.2 hb
        have hnil : (chL (grF s bl) (fxF s bl) s.floor.kind.length).getD x [] = [] := by
          rw [chL_at hx]
          exact List.eq_nil_iff_forall_not_mem.2 hne
        have heq := hbel.eq
        rw [hnil, List.take_length, List.nil_append] at heq
        -- the list is its own children: without a first one there is none
        have hall : ∀ (k : Nat) (y : Int), y ∈ (LW x).1 → (fxF s bl).getD y.toNat 0 < k → False := by
          intro k
          induction k with
          | zero =>
            intro y hy hk
            rcases (hbel.mem y).1 hy with h | ⟨z, z1, z2⟩
            · rw [hnil] at h; cases h
            · unfold chI at z2
              have hzr := hbel.rng z z1
              rw [chL_at (by omega), mem_chF] at z2
              obtain ⟨e, _, rfl, h2, _⟩ := z2
              rw [Int.toNat_natCast] at hk
              omega
          | succ k ihk =>
            intro y hy hk
            rcases (hbel.mem y).1 hy with h | ⟨z, z1, z2⟩
            · rw [hnil] at h; cases h
            · have hzr := hbel.rng z z1
              have := (chL_ok hg hF).up z.toNat (by omega) y z2
              exact ihk z z1 (by omega)
        exact hall (((fxF s bl).getD c 0).toNat + 1) c hcL (by rw [Int.toNat_natCast]; omega)
      · have hGx : FuelIs (grF s (bl ++ [(x : Int)])) s.floor.kind.length (gxF s bl x) := fuelF_ok (grF_ok h0 hs) hn2 (by decide)
        obtain ⟨w1, w2⟩ := without_is h0 hs rfl hF hx hbel hw.w hGx
        by_cases e : x = c
        · subst e
          rw [if_pos (c := (x : Int) ∈ bl ∨ x = x) (.inr rfl), if_neg (fun h => by have := hbel.up _ h; rw [Int.toNat_natCast] at this; omega)]
        · rw [if_neg (c := (x : Int) ∈ bl ∨ x = c) (by rintro (h | h); exact hb h; exact e h)]
          by_cases hcL : (c : Int) ∈ (LW x).1
          · rw [if_pos hcL, w1 c hc hcL]
          · rw [if_neg hcL, w2 c hc hcL (fun h => e h.symm)]
            by_cases hp : 0 ≤ (fxF s bl).getD c 0
            · rcases hinv.2 hp with e2 | e2
              · rw [e2, combN_neg]
              · unfold combN
                rw [if_neg (by omega)]
                omega
            · rw [hinv.1 (by omega), combN_neg]
  obtain ⟨k1, k2⟩ := key _ (Nat.le_refl _)
  have e : R s.floor.kind.length = needsL s bl delay := by
    refine List.ext_getElem (by rw [k1]; simp [needsL]) fun j h1 h2 => ?_
    have := k2 j (by omega)
    rw [List.getD_eq_getElem?_getD, List.getElem?_eq_getElem h1] at this
    simp only [Option.getD_some] at this
    rw [this]
    simp [needsL]
  refine ⟨v, ?_, ?_, rfl⟩
  · rw [show (needsL s bl delay).length = s.floor.kind.length by simp [needsL]]
  · rw [e]; rfl

theorem needs_at {delay : Int} {c : Nat} (hc : c < s.floor.kind.length) : (needsL s bl delay).getD c 0 = needAt s bl delay c s.floor.kind.length := by simp [needsL, hc]
theorem needs_len {delay : Int} : (needsL s bl delay).length = s.floor.kind.length := by simp [needsL]

theorem f11o (h0 : FloorOk s.floor) (hz : ZonesOk s) (hs : SpeedOk s) (hn2 : s.floor.kind.length ≤ 60) (hbl : bl.length ≤ 1000000) {delay : Int} (hd : 0 ≤ delay ∧ delay ≤ 1000) :
    Spec Try.prog 11 [.v (.agg (encSite s)), tC (.r (.rd 1 (ints bl))), tI delay] emp 0 (RetI (needsL s bl delay)) :=
  (f11 h0 hz hs rfl hn2 hbl hd).mono fun d K N h => needs_is h0 hs rfl hn2 hd.1 h

theorem f7o (h0 : FloorOk s.floor) (hz : ZonesOk s) (hs : SpeedOk s) (hn2 : s.floor.kind.length ≤ 60) (hbl : bl.length ≤ 1000000) :
    Spec Try.prog 7 [.v (.agg (encSite s)), tC (.r (.rd 1 (ints bl)))] emp 0 (RetI (fxF s bl)) :=
  (f7 h0 hz hs hn2 hbl).mono fun d K N ⟨h1, h2, F, h3, h4⟩ => by
    have e := fuelF_eq (grF_ok h0 hs) hn2 (by decide) h4
    rw [show fuelF (grF s bl) s.floor.kind.length = fxF s bl from rfl] at e
    subst e
    exact ⟨0, by rw [h4.len]; exact h2, h3, h1⟩

/-- Need. -/
noncomputable def needF (s : SiteD) (bl : List Int) (delay c : Int) : Int := if isCellF s c = true then (needsL s bl delay).getD c.toNat 0 else -1

theorem f15 (h0 : FloorOk s.floor) (hz : ZonesOk s) (hs : SpeedOk s) (hn2 : s.floor.kind.length ≤ 60) (hbl : bl.length ≤ 1000000) {delay : Int} (hd : 0 ≤ delay ∧ delay ≤ 1000) (c : Int) :
    Pure Try.prog 15 [.v (.agg (encSite s)), tC (.r (.rd 1 (ints bl))), tI c, tI delay] (· = tI (needF s bl delay c)) := by
  refine Pure.of_awp hm Try.func15 s15_ok (by simp [s15]) ?_
  simp (maxSteps := 2000000) +contextual (disch := (first | omega | (simp only [List.length_set]; omega))) only [go_sem, s15, ↓ s15_w.down, ↓ twoQ_bool, ↓ guardQ_boolt, ↓ guardQ_boolf, decide_eq_true_eq, decide_eq_false_iff_not, Bool.not_eq_true', Bool.not_eq_false', ne_eq, Decidable.not_not, wrap_i, below_r, below_cons, below_nil, below_vx, AL.T.v.injEq, AL.T.tup.injEq, List.cons.injEq, AL.V.x.injEq, AL.C.r.injEq, AL.R.val.injEq, Value.bool.injEq, Value.int.injEq, not_true_eq_false, not_false_eq_true, ints_len, ints_at, intC_len, intC_at, intC_src, intC_app, upd_upd, intC_set, Int.toNat_natCast, List.length_map, evAppend, srcRows, evMkslice, rowsOf, Nat.le_refl, Int.natCast_nonneg, List.drop_one, List.tail_cons, List.length_set, getD_setI, AL.T.ren, AL.V.ren, AL.C.ren, addN, enc_len, enc_take, ↓reduceIte, reduceCtorEq, Nat.reduceEqDiff, Nat.reduceAdd, Nat.reduceSub, Nat.reduceMul, Nat.reduceLT, Nat.reduceLeDiff, Int.reduceToNat]
  refine Pure.callS (f21 c) rfl ?_
  have hb := @isCell_b s c
  have hnl := needs_len (s := s) (bl := bl) (delay := delay)
  simp (maxSteps := 2000000) +contextual (disch := (first | omega | (simp only [List.length_set]; omega))) only [go_sem, s15, ↓ s15_w.down, ↓ twoQ_bool, ↓ guardQ_boolt, ↓ guardQ_boolf, decide_eq_true_eq, decide_eq_false_iff_not, Bool.not_eq_true', Bool.not_eq_false', ne_eq, Decidable.not_not, wrap_i, below_r, below_cons, below_nil, below_vx, AL.T.v.injEq, AL.T.tup.injEq, List.cons.injEq, AL.V.x.injEq, AL.C.r.injEq, AL.R.val.injEq, Value.bool.injEq, Value.int.injEq, not_true_eq_false, not_false_eq_true, ints_len, ints_at, intC_len, intC_at, intC_src, intC_app, upd_upd, intC_set, Int.toNat_natCast, List.length_map, evAppend, srcRows, evMkslice, rowsOf, Nat.le_refl, Int.natCast_nonneg, List.drop_one, List.tail_cons, List.length_set, getD_setI, AL.T.ren, AL.V.ren, AL.C.ren, addN, enc_len, enc_take, ↓reduceIte, reduceCtorEq, Nat.reduceEqDiff, Nat.reduceAdd, Nat.reduceSub, Nat.reduceMul, Nat.reduceLT, Nat.reduceLeDiff, Int.reduceToNat]
  (repeat' (with_reducible first | refine And.intro ?_ ?_ | intro _)) <;> try (first | omega | rfl)
  · rename_i h
    unfold needF
    rw [if_neg (by rw [h]; decide)]
  · rename_i h
    have hc := hb h
    refine RetI.call (f11o h0 hz hs hn2 hbl hd) ⟨castAgg rfl, castC_ints, .inl ⟨rfl, rfl⟩, trivial⟩ fun v => ?_
    have hnl2 : c.toNat < (needsL s bl delay).length := by rw [hnl]; omega
    simp (maxSteps := 2000000) +contextual (disch := (first | omega | (simp only [List.length_set]; omega))) only [go_sem, s15, ↓ s15_w.down, ↓ twoQ_bool, ↓ guardQ_boolt, ↓ guardQ_boolf, decide_eq_true_eq, decide_eq_false_iff_not, Bool.not_eq_true', Bool.not_eq_false', ne_eq, Decidable.not_not, wrap_i, below_r, below_cons, below_nil, below_vx, AL.T.v.injEq, AL.T.tup.injEq, List.cons.injEq, AL.V.x.injEq, AL.C.r.injEq, AL.R.val.injEq, Value.bool.injEq, Value.int.injEq, not_true_eq_false, not_false_eq_true, ints_len, ints_at, intC_len, intC_at, intC_src, intC_app, upd_upd, intC_set, Int.toNat_natCast, List.length_map, evAppend, srcRows, evMkslice, rowsOf, Nat.le_refl, Int.natCast_nonneg, List.drop_one, List.tail_cons, List.length_set, getD_setI, AL.T.ren, AL.V.ren, AL.C.ren, addN, ↓reduceIte, reduceCtorEq, Nat.reduceEqDiff, Nat.reduceAdd, Nat.reduceSub, Nat.reduceMul, Nat.reduceLT, Nat.reduceLeDiff, Int.reduceToNat]
    (repeat' (with_reducible first | refine And.intro ?_ ?_ | intro _)) <;> try (first | omega | rfl)
    unfold needF
    rw [if_pos h]
end Go.Proofs.Yticflcpmlbaafaa.AL

/- Energy: the examples. -/
set_option linter.unusedSimpArgs false
set_option linter.unusedVariables false
namespace Go.Proofs.Yticflcpmlbaafaa.AL
open Go

/-- Fuel, checked. -/
def fuelB (g : GrD) (n : Nat) (F : List Int) : Bool := decide (F.length = n) && (List.range n).all fun c => decide (-1 ≤ F.getD c 0) && decide (F.getD c 0 ≤ 24000) && (if g.home.getD c false then decide (F.getD c 0 = 0) else decide (F.getD c 0 = bst g (-1) F c))
theorem fuelB_ok {g : GrD} {n : Nat} {F : List Int} (h : fuelB g n F = true) : FuelIs g n F := by
  unfold fuelB at h
  simp only [Bool.and_eq_true, decide_eq_true_eq, List.all_eq_true, List.mem_range] at h
  obtain ⟨h1, h2⟩ := h
  refine ⟨h1, fun c hc hh => ?_, fun c hc hh => ?_, fun c hc => ⟨(h2 c hc).1.1, (h2 c hc).1.2⟩⟩
  · have := (h2 c hc).2
    rw [hh] at this
    simpa using this
  · have := (h2 c hc).2
    rw [hh] at this
    simpa using this

theorem smp_fuel {bl : List Int} {F : List Int} (h : fuelB (grF smpS bl) 4 F = true) : fxF smpS bl = F := (fuelF_eq (grF_ok smpF smpSp) (by decide) (by decide) (fuelB_ok h)).symm
theorem smp0 : fxF smpS [] = [0, 12, 12, 0] := smp_fuel (by kernel_rfl)
theorem smp_n0 : needF smpS [] 0 1 = 24 := by
  have g0 : gxF smpS [] 0 = [0, 24, 12, 0] := smp_fuel (bl := [0]) (by kernel_rfl)
  have g2 : gxF smpS [] 2 = [0, 12, 12, 0] := smp_fuel (bl := [2]) (by kernel_rfl)
  have g3 : gxF smpS [] 3 = [0, 12, 24, 0] := smp_fuel (bl := [3]) (by kernel_rfl)
  unfold needF
  rw [if_pos (c := isCellF smpS 1 = true) (by decide), needs_at (by decide)]
  show needAt smpS [] 0 1 4 = 24
  simp only [needAt_succ, g0, g2, g3]
  unfold needAt
  rw [smp0]
  decide
theorem smp_n1 : needF smpS [0] 0 1 = -1 := by
  have g0 : fxF smpS [0] = [0, 24, 12, 0] := smp_fuel (by kernel_rfl)
  have g2 : gxF smpS [0] 2 = [0, -1, 12, 0] := smp_fuel (bl := [0, 2]) (by kernel_rfl)
  have g3 : gxF smpS [0] 3 = [0, -1, -1, 0] := smp_fuel (bl := [0, 3]) (by kernel_rfl)
  unfold needF
  rw [if_pos (c := isCellF smpS 1 = true) (by decide), needs_at (by decide)]
  show needAt smpS [0] 0 1 4 = -1
  simp only [needAt_succ, g2, g3]
  unfold needAt
  rw [g0]
  decide
theorem smp_p : priceF smpS 2 1 = 12 := by kernel_rfl

set_option maxHeartbeats 2000000 in
theorem f5 : Pure Try.prog 5 [] (· = tB true) := by
  refine Pure.of_awp hm Try.func5 s5_ok (by simp [s5]) ?_
  simp (maxSteps := 2000000) +contextual (disch := (first | omega | (simp only [List.length_set]; omega))) only [go_sem, s5, ↓ s5_w.down, ↓ twoQ_bool, ↓ guardQ_boolt, ↓ guardQ_boolf, decide_eq_true_eq, decide_eq_false_iff_not, Bool.not_eq_true', Bool.not_eq_false', ne_eq, Decidable.not_not, wrap_i, below_r, below_cons, below_nil, below_vx, AL.T.v.injEq, AL.T.tup.injEq, List.cons.injEq, AL.V.x.injEq, AL.C.r.injEq, AL.R.val.injEq, Value.bool.injEq, Value.int.injEq, not_true_eq_false, not_false_eq_true, ints_len, ints_at, intC_len, intC_at, intC_src, intC_app, upd_upd, intC_set, Int.toNat_natCast, List.length_map, evAppend, srcRows, evMkslice, rowsOf, Nat.le_refl, Int.natCast_nonneg, List.drop_one, List.tail_cons, List.length_set, getD_setI, AL.T.ren, AL.V.ren, AL.C.ren, addN, ↓reduceIte, reduceCtorEq, Nat.reduceEqDiff, Nat.reduceAdd, Nat.reduceSub, Nat.reduceMul, Nat.reduceLT, Nat.reduceLeDiff, Int.reduceToNat]
  refine Spec.plain (args := []) f13 trivial (fun d K1 N1 hP => ?_)
  obtain ⟨rfl, rfl, rfl⟩ := hP
  have e0 : joinK 0 emp smpK = smpK := by
    funext i
    unfold joinK
    rw [if_neg (by omega), Nat.sub_zero]
    unfold smpK upd emp
    split
    · exact congrArg some intC_ren
    · split
      · exact congrArg some intC_ren
      · rfl
  have e1 : T.ren (addN 0) (.v (.agg smpC)) = .v (.agg smpC) := rfl
  rw [e0, e1]
  have hnil : ∀ K, liftT (CastC K) (tV (.slice none 0 0)) (tC (.r (.rd 1 (ints [])))) := fun K => .inr ⟨_, rfl, .nil⟩
  have hpl : ∀ K n, liftT (CastC K) (tI n) (tI n) := fun K n => .inl ⟨rfl, rfl⟩
  simp (maxSteps := 2000000) +contextual (disch := (first | omega | (simp only [List.length_set]; omega))) only [go_sem, s5, ↓ s5_w.down, ↓ twoQ_bool, ↓ guardQ_boolt, ↓ guardQ_boolf, decide_eq_true_eq, decide_eq_false_iff_not, Bool.not_eq_true', Bool.not_eq_false', ne_eq, Decidable.not_not, wrap_i, below_r, below_cons, below_nil, below_vx, AL.T.v.injEq, AL.T.tup.injEq, List.cons.injEq, AL.V.x.injEq, AL.C.r.injEq, AL.R.val.injEq, Value.bool.injEq, Value.int.injEq, not_true_eq_false, not_false_eq_true, ints_len, ints_at, intC_len, intC_at, intC_src, intC_app, upd_upd, intC_set, Int.toNat_natCast, List.length_map, evAppend, srcRows, evMkslice, rowsOf, Nat.le_refl, Int.natCast_nonneg, List.drop_one, List.tail_cons, List.length_set, getD_setI, AL.T.ren, AL.V.ren, AL.C.ren, addN, smpC, ↓reduceIte, reduceCtorEq, Nat.reduceEqDiff, Nat.reduceAdd, Nat.reduceSub, Nat.reduceMul, Nat.reduceLT, Nat.reduceLeDiff, Int.reduceToNat]
  refine Pure.callS f12 rfl ?_
  have hK : ∀ {o : AObj} {i : Nat}, i < 2 → (upd smpK 2 o) i = smpK i := fun hi => upd_ne _ _ (by omega)
  simp (maxSteps := 2000000) +contextual (disch := (first | omega | (simp only [List.length_set]; omega))) only [go_sem, s5, ↓ s5_w.down, ↓ twoQ_bool, ↓ guardQ_boolt, ↓ guardQ_boolf, decide_eq_true_eq, decide_eq_false_iff_not, Bool.not_eq_true', Bool.not_eq_false', ne_eq, Decidable.not_not, wrap_i, below_r, below_cons, below_nil, below_vx, AL.T.v.injEq, AL.T.tup.injEq, List.cons.injEq, AL.V.x.injEq, AL.C.r.injEq, AL.R.val.injEq, Value.bool.injEq, Value.int.injEq, not_true_eq_false, not_false_eq_true, ints_len, ints_at, intC_len, intC_at, intC_src, intC_app, upd_upd, intC_set, Int.toNat_natCast, List.length_map, evAppend, srcRows, evMkslice, rowsOf, Nat.le_refl, Int.natCast_nonneg, List.drop_one, List.tail_cons, List.length_set, getD_setI, AL.T.ren, AL.V.ren, AL.C.ren, addN, ↓reduceIte, reduceCtorEq, Nat.reduceEqDiff, Nat.reduceAdd, Nat.reduceSub, Nat.reduceMul, Nat.reduceLT, Nat.reduceLeDiff, Int.reduceToNat]
  refine Pure.castS (f10 smpZO smpSp 2 1) ⟨(smp_cast fun i hi => hK hi).1, hpl _ _, hpl _ _, trivial⟩ rfl ?_
  rw [smp_p]
  simp (maxSteps := 2000000) +contextual (disch := (first | omega | (simp only [List.length_set]; omega))) only [go_sem, s5, ↓ s5_w.down, ↓ twoQ_bool, ↓ guardQ_boolt, ↓ guardQ_boolf, decide_eq_true_eq, decide_eq_false_iff_not, Bool.not_eq_true', Bool.not_eq_false', ne_eq, Decidable.not_not, wrap_i, below_r, below_cons, below_nil, below_vx, AL.T.v.injEq, AL.T.tup.injEq, List.cons.injEq, AL.V.x.injEq, AL.C.r.injEq, AL.R.val.injEq, Value.bool.injEq, Value.int.injEq, not_true_eq_false, not_false_eq_true, ints_len, ints_at, intC_len, intC_at, intC_src, intC_app, upd_upd, intC_set, Int.toNat_natCast, List.length_map, evAppend, srcRows, evMkslice, rowsOf, Nat.le_refl, Int.natCast_nonneg, List.drop_one, List.tail_cons, List.length_set, getD_setI, AL.T.ren, AL.V.ren, AL.C.ren, addN, ↓reduceIte, reduceCtorEq, Nat.reduceEqDiff, Nat.reduceAdd, Nat.reduceSub, Nat.reduceMul, Nat.reduceLT, Nat.reduceLeDiff, Int.reduceToNat]
  refine RetI.call (f7o smpF smpZO smpSp (by decide) (by decide)) ⟨(smp_cast fun i hi => hK hi).1, hnil _, trivial⟩ fun v => ?_
  rw [smp0]
  simp (maxSteps := 2000000) +contextual (disch := (first | omega | (simp only [List.length_set]; omega))) only [go_sem, s5, ↓ s5_w.down, ↓ twoQ_bool, ↓ guardQ_boolt, ↓ guardQ_boolf, decide_eq_true_eq, decide_eq_false_iff_not, Bool.not_eq_true', Bool.not_eq_false', ne_eq, Decidable.not_not, wrap_i, below_r, below_cons, below_nil, below_vx, AL.T.v.injEq, AL.T.tup.injEq, List.cons.injEq, AL.V.x.injEq, AL.C.r.injEq, AL.R.val.injEq, Value.bool.injEq, Value.int.injEq, not_true_eq_false, not_false_eq_true, ints_len, ints_at, intC_len, intC_at, intC_src, intC_app, upd_upd, intC_set, Int.toNat_natCast, List.length_map, evAppend, srcRows, evMkslice, rowsOf, Nat.le_refl, Int.natCast_nonneg, List.drop_one, List.tail_cons, List.length_set, getD_setI, AL.T.ren, AL.V.ren, AL.C.ren, addN, ↓reduceIte, reduceCtorEq, Nat.reduceEqDiff, Nat.reduceAdd, Nat.reduceSub, Nat.reduceMul, Nat.reduceLT, Nat.reduceLeDiff, Int.reduceToNat]
  refine Pure.castS (f14 [0, 12, 12, 0] [0, 12, 12, 0] (by decide)) ⟨intC_cast (l := [0, 12, 12, 0]) (v := v) ?_ (by decide), intC_cast (l := [0, 12, 12, 0]) (v := 0) ?_ (by decide), trivial⟩ rfl ?_
  · rfl
  · rfl
  simp (maxSteps := 2000000) +contextual (disch := (first | omega | (simp only [List.length_set]; omega))) only [go_sem, s5, ↓ s5_w.down, ↓ twoQ_bool, ↓ guardQ_boolt, ↓ guardQ_boolf, decide_eq_true_eq, decide_eq_false_iff_not, Bool.not_eq_true', Bool.not_eq_false', ne_eq, Decidable.not_not, wrap_i, below_r, below_cons, below_nil, below_vx, AL.T.v.injEq, AL.T.tup.injEq, List.cons.injEq, AL.V.x.injEq, AL.C.r.injEq, AL.R.val.injEq, Value.bool.injEq, Value.int.injEq, not_true_eq_false, not_false_eq_true, ints_len, ints_at, intC_len, intC_at, intC_src, intC_app, upd_upd, intC_set, Int.toNat_natCast, List.length_map, evAppend, srcRows, evMkslice, rowsOf, Nat.le_refl, Int.natCast_nonneg, List.drop_one, List.tail_cons, List.length_set, getD_setI, AL.T.ren, AL.V.ren, AL.C.ren, addN, ↓reduceIte, reduceCtorEq, Nat.reduceEqDiff, Nat.reduceAdd, Nat.reduceSub, Nat.reduceMul, Nat.reduceLT, Nat.reduceLeDiff, Int.reduceToNat]
  refine Pure.castS (f15 smpF smpZO smpSp (by decide) (bl := []) (by decide) (delay := 0) (by decide) 1) ⟨(smp_cast fun i hi => ?_).1, hnil _, hpl _ _, hpl _ _, trivial⟩ rfl ?_
  · rw [upd_ne _ _ (by omega), upd_ne _ _ (by omega)]; exact hK hi
  rw [smp_n0]
  simp (maxSteps := 2000000) +contextual (disch := (first | omega | (simp only [List.length_set]; omega))) only [go_sem, s5, ↓ s5_w.down, ↓ twoQ_bool, ↓ guardQ_boolt, ↓ guardQ_boolf, decide_eq_true_eq, decide_eq_false_iff_not, Bool.not_eq_true', Bool.not_eq_false', ne_eq, Decidable.not_not, wrap_i, below_r, below_cons, below_nil, below_vx, AL.T.v.injEq, AL.T.tup.injEq, List.cons.injEq, AL.V.x.injEq, AL.C.r.injEq, AL.R.val.injEq, Value.bool.injEq, Value.int.injEq, not_true_eq_false, not_false_eq_true, ints_len, ints_at, intC_len, intC_at, intC_src, intC_app, upd_upd, intC_set, Int.toNat_natCast, List.length_map, evAppend, srcRows, evMkslice, rowsOf, Nat.le_refl, Int.natCast_nonneg, List.drop_one, List.tail_cons, List.length_set, getD_setI, AL.T.ren, AL.V.ren, AL.C.ren, addN, ↓reduceIte, reduceCtorEq, Nat.reduceEqDiff, Nat.reduceAdd, Nat.reduceSub, Nat.reduceMul, Nat.reduceLT, Nat.reduceLeDiff, Int.reduceToNat]
  refine Pure.castS (f15 smpF smpZO smpSp (by decide) (bl := [0]) (by decide) (delay := 0) (by decide) 1) ⟨(smp_cast fun i hi => ?_).1, intC_cast (l := [0]) (v := 0) ?_ (by decide), hpl _ _, hpl _ _, trivial⟩ rfl ?_
  · rw [upd_ne _ _ (by omega), upd_ne _ _ (by omega), upd_ne _ _ (by omega)]; exact hK hi
  · rfl
  rw [smp_n1]
  simp (maxSteps := 2000000) +contextual (disch := (first | omega | (simp only [List.length_set]; omega))) only [go_sem, s5, ↓ s5_w.down, ↓ twoQ_bool, ↓ guardQ_boolt, ↓ guardQ_boolf, decide_eq_true_eq, decide_eq_false_iff_not, Bool.not_eq_true', Bool.not_eq_false', ne_eq, Decidable.not_not, wrap_i, below_r, below_cons, below_nil, below_vx, AL.T.v.injEq, AL.T.tup.injEq, List.cons.injEq, AL.V.x.injEq, AL.C.r.injEq, AL.R.val.injEq, Value.bool.injEq, Value.int.injEq, not_true_eq_false, not_false_eq_true, ints_len, ints_at, intC_len, intC_at, intC_src, intC_app, upd_upd, intC_set, Int.toNat_natCast, List.length_map, evAppend, srcRows, evMkslice, rowsOf, Nat.le_refl, Int.natCast_nonneg, List.drop_one, List.tail_cons, List.length_set, getD_setI, AL.T.ren, AL.V.ren, AL.C.ren, addN, ↓reduceIte, reduceCtorEq, Nat.reduceEqDiff, Nat.reduceAdd, Nat.reduceSub, Nat.reduceMul, Nat.reduceLT, Nat.reduceLeDiff, Int.reduceToNat]
end Go.Proofs.Yticflcpmlbaafaa.AL
