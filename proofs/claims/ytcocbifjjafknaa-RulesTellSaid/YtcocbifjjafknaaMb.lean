/- What the functions of chapter 12 hand back, second part. -/
import Derived.Test.YtcocbifjjafknaaMa
import Derived.Test.YtcocbifjjafknaaSa
import Derived.Test.YtcocbifjjafknaaAc

/- Which shelf stands where. -/
set_option linter.unusedSimpArgs false
set_option linter.unusedVariables false
namespace Go.Proofs.Ytcocbifjjafknaa.AL
open Go

theorem f82 (l : List Int) : Spec Try.prog 82 [tC (.r (.rd 1 (ints l)))] emp 0 fun d K N => d = tC (.fn 96 [0]) ∧ K = upd emp 0 (.row 0 1 [[.r (.rd 1 (ints l))]]) ∧ N = 1 := by
  refine Spec.of_awp hm Try.func82 s82_ok (by simp [s82]) ?_
  simp only [go_sem, s82, ↓reduceIte, reduceCtorEq, Nat.reduceEqDiff, Nat.reduceAdd, Nat.reduceSub, Nat.reduceMul, Nat.reduceLT, Nat.reduceLeDiff, Int.reduceToNat]
  refine ⟨_, upd emp 0 (.row 0 1 [[.r (.rd 1 (ints l))]]), 1, _, Back.list [0] _ (by simp) (fun k o hk => ?_) rfl rfl, rfl, rfl, rfl⟩
  unfold upd at hk
  split at hk
  · cases hk
    subst_vars
    exact ⟨by simp, rfl, rfl⟩
  · cases hk

abbrev ki (n : Int) : Value := .int .i64 n
theorem ki_ok (n : Int) : keyOk (.sc 6) (ki n) = true := rfl
theorem ki_eq (n m : Int) : keyEq (ki n) (ki m) = decide (n = m) := rfl

/-- A map from numbers is as a function says. -/
def IMap (es : List (Value × V)) (φ : Int → Option V) : Prop := es.all (fun e => keyOk (.sc 6) e.1) = true ∧ es.all (fun e => e.2.below 0) = true ∧ ∀ n, mfind es (ki n) = φ n

theorem IMap.nil : IMap [] (fun _ => none) := ⟨rfl, rfl, fun n => rfl⟩
theorem IMap.set {es : List (Value × V)} {φ : Int → Option V} (h : IMap es φ) (m : Int) (d : V) (hd : d.below 0 = true) : IMap (mset es (ki m) d) (fun n => if n = m then some d else φ n) := by
  obtain ⟨h1, h2, h3⟩ := h
  refine ⟨all_mset (ki_ok m) _ h1, all_mset hd _ h2, fun n => ?_⟩
  rw [mfind_mset (ki_ok m) (ki_ok n) es h1, h3, ki_eq]
  by_cases e : n = m <;> simp [e]
theorem IMap.congr {es : List (Value × V)} {φ ψ : Int → Option V} (h : IMap es φ) (hp : ∀ n, φ n = ψ n) : IMap es ψ := ⟨h.1, h.2.1, fun n => (h.2.2 n).trans (hp n)⟩

theorem IMap.bel {es : List (Value × V)} {φ : Int → Option V} {N : Nat} (h : IMap es φ) : (AObj.map es).below N = true := below_map h.2.1
theorem IMap.ren {es : List (Value × V)} {φ : Int → Option V} (h : IMap es φ) (ρ : Nat → Nat) : (AObj.map es).ren ρ = .map es := map_ren h.2.1 ρ
theorem ki_ok' (n : Int) : keyOk (.sc 6) (Value.int .i64 n) = true := rfl

theorem awp_rf {P : Program} {N0 : Nat} {tm : Nat → Option T} {K : KMap} {N : Nat} {Q : XE → St → Prop} {g : Operand} {ps : List Nat} {mvs : List (Nat × Nat)} {b : SCode} (gf : FuncId) (caps : List Nat) (ys : List (List T)) (keep : List Nat) (I : Nat → KMap → Nat → Prop) (X : XE → KMap → Nat → Prop) (s2 : St)
    (h1 : opd tm g = some (.v (.x (.fn gf caps)))) (h2 : Iter P gf caps K N ps.length ys keep) (h3 : ∀ i K' N', I i K' N' → MapsOld K N K') (h4 : ∀ e K' N', X e K' N' → MapsOld K N K')
    (h5 : Weak N ⟨tm, dropK keep K, N⟩ s2) (h6 : I 0 s2.K s2.N) (h7 : ∀ i K' N', i < ys.length → N ≤ N' → I i K' N' → awp P N b ⟨mvTm mvs (psTm ps (ys.getD i []) tm), K', N'⟩ (rfQ N I X i))
    (h8 : ∀ K' N', N ≤ N' → I ys.length K' N' → Q .normal ⟨tm, K', N'⟩) (h9 : ∀ e K' N', N ≤ N' → X e K' N' → e ≠ .normal → Q e ⟨tm, K', N'⟩) : awp P N0 (.rf g ps mvs b) ⟨tm, K, N⟩ Q :=
  ⟨gf, caps, ys, keep, I, X, h1, h2, ⟨h3, h4⟩, ⟨s2, h5, h6⟩, h7, h8, h9⟩

theorem MapsOld.nil {K0 : KMap} {N0 : Nat} : MapsOld K0 N0 emp := fun id es h => by cases h
theorem MapsOld.row {K0 K : KMap} {N0 t v z : Nat} {xs : List (List C)} (h : MapsOld K0 N0 K) : MapsOld K0 N0 (upd K t (.row v z xs)) := fun id es hk => by
  unfold upd at hk
  split at hk
  · cases hk
  · exact h id es hk
theorem MapsOld.map {K0 K : KMap} {N0 t : Nat} {es : List (Value × V)} {o : AObj} (h1 : t < N0) (h2 : K0 t = some o) (h : MapsOld K0 N0 K) : MapsOld K0 N0 (upd K t (.map es)) := fun id es hk => by
  unfold upd at hk
  split at hk
  · rename_i e
    subst e
    exact ⟨h1, o, h2⟩
  · exact h id es hk

/-- One of the first n robots has this load. -/
def loadF (st : StateD) (n : Nat) (k : Int) : Bool := (List.range n).any fun j => decide ((st.robots.getD j default).load = k)
theorem loadF_succ {st : StateD} {n : Nat} {k : Int} : loadF st (n + 1) k = (loadF st n k || decide ((st.robots.getD n default).load = k)) := by simp [loadF, List.range_succ]

/-- The shelf i stands at c. -/
def standsAt (st : StateD) (c : Int) (i : Nat) : Bool := decide (st.shelves.getD i 0 = c) && !loadF st st.robots.length i
/-- The first shelf from n on that stands at c. -/
def standFrom (st : StateD) (n : Nat) (c : Int) : Option Nat := (List.range st.shelves.length).find? fun i => decide (n ≤ i) && standsAt st c i
abbrev standF (st : StateD) (c : Int) : Option Nat := standFrom st 0 c
abbrev iV (i : Nat) : V := .x (cV (.int .i64 (i : Int)))

theorem standFrom_all {st : StateD} {c : Int} : standFrom st st.shelves.length c = none := by
  unfold standFrom
  rw [List.find?_range_eq_none]
  intro i hi
  simp; omega
theorem standFrom_step {st : StateD} {n : Nat} {c : Int} (hn : n < st.shelves.length) : standFrom st n c = if standsAt st c n = true then some n else standFrom st (n + 1) c := by
  split
  · rename_i h
    unfold standFrom
    rw [List.find?_range_eq_some]
    refine ⟨by simp [h], by simpa using hn, fun j hj => ?_⟩
    simp; exact .inl hj
  · rename_i h
    unfold standFrom
    congr 1
    funext i
    by_cases e : i = n
    · subst e; simp [h]
    · have : (n ≤ i) = (n + 1 ≤ i) := by simp; omega
      simp [this]

theorem f51 (st : StateD) (hr : st.robots.length ≤ 140737488355328) (hl : st.shelves.length ≤ 140737488355328) : Spec Try.prog 51 [.v (.agg (encState st))] emp 0 fun d K N => ∃ es, d = tC (.map 0) ∧ K = upd emp 0 (.map es) ∧ N = 1 ∧ IMap es (fun c => (standF st c).map iV) := by
  refine Spec.of_awp hm Try.func51 s51_ok (by simp [s51]) ?_
  simp only [go_sem, s51, encState, rows_len, ↓reduceIte, reduceCtorEq, Nat.reduceEqDiff, Nat.reduceAdd, Nat.reduceSub, Nat.reduceMul, Nat.reduceLT, Nat.reduceLeDiff, Int.reduceToNat]
  refine awp_loop (fun v : Nat × List (Value × V) => ⟨upd (upd (upd (upd (upd emp 1 (tC (.ptr 0 0 0 0))) 3 (tC (.ptr 2 0 0 0))) 11 (tC (.r (.rd 6 (st.robots.map encRobot))))) 12 (tI st.robots.length)) 13 (tI v.1), upd (upd (upd emp 0 (.row 0 6 [encState st])) 1 (.map v.2)) 2 (.row 0 1 [[.map 1]]), 3⟩) (fun v => st.robots.length - v.1)
    (fun v => v.1 ≤ st.robots.length ∧ IMap v.2 (fun n => if loadF st v.1 n then some vT else none)) (0, []) ⟨Nat.zero_le _, IMap.nil.congr (by simp [loadF])⟩ ?_ ?_
  · exact Weak.keep (by repeat (first | refine TmLe.cons rfl rfl ?_ | refine TmLe.cons (by simp [upd, *]) rfl ?_ | exact TmLe.nil)) (by repeat (first | refine KLe.cons (by omega) (by first | rfl | (simp [upd, *]; done) | (simp [joinK, upd, addN, ho.ren]; done)) (by first | rfl | exact IMap.bel (by assumption) | exact intC_bel) ?_ | exact KLe.nil)) (by first | omega | exact Nat.le_refl _ | (dsimp only; omega)) (by first | omega | exact Nat.le_refl _ | (dsimp only; omega))
  · rintro ⟨i, es⟩ ⟨hi, ho⟩
    simp only at hi ho
    simp only [go_sem, s51_8, ↓reduceIte, reduceCtorEq, Nat.reduceEqDiff, Nat.reduceAdd, Nat.reduceSub, Nat.reduceMul, Nat.reduceLT, Nat.reduceLeDiff, Int.reduceToNat]
    refine twoQ_at (fun h => ?_) (fun h => ?_)
    · have hi' : i < st.robots.length := by simpa using h
      simp only [go_sem, s51_7, rows_len, rows_at hi', encRobot, Int.toNat_natCast, ho.1, ki_ok', ↓reduceIte, reduceCtorEq, Nat.reduceEqDiff, Nat.reduceAdd, Nat.reduceSub, Nat.reduceMul, Nat.reduceLT, Nat.reduceLeDiff, Int.reduceToNat]
      have ho2 := (ho.set (st.robots.getD i default).load vT rfl).congr (ψ := fun n => if loadF st (i + 1) n then some vT else none) (fun n => by
        rw [loadF_succ]
        by_cases e : n = (st.robots.getD i default).load
        · simp [e]
        · have : ¬ (st.robots.getD i default).load = n := fun h => e h.symm
          simp only [e, this, if_false, decide_false, Bool.or_false])
      refine ⟨⟨by omega, by omega⟩, (i + 1, _), ⟨by simp only; omega, ho2⟩, by simp only; omega, ?_⟩
      rw [wrap_i (by omega) (by omega)]
      exact Weak.keep (by repeat (first | refine TmLe.cons rfl rfl ?_ | refine TmLe.cons (by simp [upd, *]) rfl ?_ | exact TmLe.nil)) (by repeat (first | refine KLe.cons (by omega) (by first | rfl | (simp [upd, *]; done) | (simp [joinK, upd, addN, ho.ren]; done)) (by first | rfl | exact IMap.bel (by assumption) | exact intC_bel) ?_ | exact KLe.nil)) (by first | omega | exact Nat.le_refl _ | (dsimp only; omega)) (by first | omega | exact Nat.le_refl _ | (dsimp only; omega))
    · have hi' : i = st.robots.length := by simp at h; omega
      subst hi'
      simp only [go_sem, s51_6, encState, ↓reduceIte, reduceCtorEq, Nat.reduceEqDiff, Nat.reduceAdd, Nat.reduceSub, Nat.reduceMul, Nat.reduceLT, Nat.reduceLeDiff, Int.reduceToNat]
      refine Spec.plain (f82 st.shelves) (liftA_refl rfl) ?_
      rintro _ _ _ ⟨rfl, rfl, rfl⟩
      simp only [go_sem, s51_5, s51_4, T.ren, V.ren, C.ren, addN, ↓reduceIte, reduceCtorEq, Nat.reduceEqDiff, Nat.reduceAdd, Nat.reduceSub, Nat.reduceMul, Nat.reduceLT, Nat.reduceLeDiff, Int.reduceToNat]
      refine awp_rf 96 [5] (backY st.shelves) [5] (fun i K N => N = 6 ∧ ∃ es2, K = upd (upd (upd (upd (upd emp 0 (.row 0 6 [encState st])) 1 (.map es)) 2 (.row 0 1 [[.map 1]])) 3 (.map es2)) 4 (.row 0 1 [[.map 3]]) ∧ IMap es2 (fun c => (standFrom st (st.shelves.length - i) c).map iV)) (fun _ _ _ => False)
        ⟨emp, upd (upd (upd (upd (upd emp 0 (.row 0 6 [encState st])) 1 (.map es)) 2 (.row 0 1 [[.map 1]])) 3 (.map [])) 4 (.row 0 1 [[.map 3]]), 6⟩ rfl (back_iter hl rfl) ?_ (fun _ _ _ h => h.elim) ?_ ?_ ?_ ?_ (fun _ _ _ _ h => h.elim)
      · rintro i K N ⟨rfl, es2, rfl, hes⟩
        exact .row (.map (by decide) rfl (.row (.map (by decide) rfl (.row .nil))))
      · exact Weak.keep (by repeat (first | refine TmLe.cons rfl rfl ?_ | refine TmLe.cons (by simp [upd, *]) rfl ?_ | exact TmLe.nil)) (by repeat (first | refine KLe.cons (by omega) (by first | rfl | (simp [upd, *]; done) | (simp [joinK, upd, addN, ho.ren]; done)) (by first | rfl | exact IMap.bel (by assumption) | exact intC_bel) ?_ | exact KLe.nil)) (by first | omega | exact Nat.le_refl _ | (dsimp only; omega)) (by first | omega | exact Nat.le_refl _ | (dsimp only; omega))
      · exact ⟨rfl, [], rfl, IMap.nil.congr (fun n => by rw [Nat.sub_zero, standFrom_all]; rfl)⟩
      · rintro i K N hlt hN ⟨rfl, es2, rfl, hes⟩
        have hlt' : i < st.shelves.length := by simpa [backY] using hlt
        obtain ⟨k, hk⟩ : ∃ k, k = st.shelves.length - 1 - i := ⟨_, rfl⟩
        have hy : (backY st.shelves).getD i [] = [tI (k : Int), tI (st.shelves.getD k 0)] := by
          have e : ((k : Nat) : Int) = (st.shelves.length : Int) - 1 - (i : Int) := by omega
          rw [e, hk]
          simp [backY, hlt']
        have hf : (mfind es (Value.int .i64 (k : Int))).getD (V.x (C.r (R.val (Value.bool false)))) = V.x (C.r (R.val (Value.bool (loadF st st.robots.length k)))) := by
          have := ho.2.2 (k : Int)
          unfold ki at this
          rw [this]
          dsimp only
          cases loadF st st.robots.length (k : Int) <;> rfl
        have hstep : ∀ c, standFrom st (st.shelves.length - (i + 1)) c = if standsAt st c k = true then some k else standFrom st (st.shelves.length - i) c := fun c => by
          have e1 : st.shelves.length - (i + 1) = k := by omega
          have e2 : st.shelves.length - i = k + 1 := by omega
          rw [e1, e2]
          exact standFrom_step (by omega)
        simp only [hy, psTm, mvTm]
        simp only [go_sem, s51_3, ki_ok', ho.1, hf, ↓reduceIte, reduceCtorEq, Nat.reduceEqDiff, Nat.reduceAdd, Nat.reduceSub, Nat.reduceMul, Nat.reduceLT, Nat.reduceLeDiff, Int.reduceToNat]
        refine twoQ_at (fun g => ?_) (fun g => ?_)
        · simp only [go_sem, s51_2, ki_ok', hes.1, rfQ, ↓reduceIte, reduceCtorEq, Nat.reduceEqDiff, Nat.reduceAdd, Nat.reduceSub, Nat.reduceMul, Nat.reduceLT, Nat.reduceLeDiff, Int.reduceToNat]
          have hn := (hes.set (st.shelves.getD k 0) (iV k) rfl).congr (ψ := fun c => (standFrom st (st.shelves.length - (i + 1)) c).map iV) (fun c => by
            rw [hstep]
            simp only [Bool.not_eq_true'] at g
            simp only [standsAt, g, Bool.not_false, Bool.and_true, decide_eq_true_eq]
            by_cases e : c = st.shelves.getD k 0
            · simp [e]
            · rw [if_neg e, if_neg (fun h => e h.symm)])
          refine ⟨⟨emp, upd (upd (upd (upd (upd emp 0 (.row 0 6 [encState st])) 1 (.map es)) 2 (.row 0 1 [[.map 1]])) 3 (.map _)) 4 (.row 0 1 [[.map 3]]), 6⟩, ?_, rfl, _, rfl, hn⟩
          exact Weak.keep (by repeat (first | refine TmLe.cons rfl rfl ?_ | refine TmLe.cons (by simp [upd, *]) rfl ?_ | exact TmLe.nil)) (by repeat (first | refine KLe.cons (by omega) (by first | rfl | (simp [upd, *]; done) | (simp [joinK, upd, addN, ho.ren]; done)) (by first | rfl | exact IMap.bel (by assumption) | exact intC_bel) ?_ | exact KLe.nil)) (by first | omega | exact Nat.le_refl _ | (dsimp only; omega)) (by first | omega | exact Nat.le_refl _ | (dsimp only; omega))
        · simp only [go_sem, rfQ, ↓reduceIte, reduceCtorEq, Nat.reduceEqDiff, Nat.reduceAdd, Nat.reduceSub, Nat.reduceMul, Nat.reduceLT, Nat.reduceLeDiff, Int.reduceToNat]
          have hn := hes.congr (ψ := fun c => (standFrom st (st.shelves.length - (i + 1)) c).map iV) (fun c => by
            rw [hstep]
            simp only [Bool.not_eq_false'] at g
            simp [standsAt, g])
          exact ⟨⟨_, _, 6⟩, Weak.refl _ _, rfl, _, rfl, hn⟩
      · rintro K N hN ⟨rfl, es2, rfl, hes⟩
        simp only [go_sem, s51_1, ↓reduceIte, reduceCtorEq, Nat.reduceEqDiff, Nat.reduceAdd, Nat.reduceSub, Nat.reduceMul, Nat.reduceLT, Nat.reduceLeDiff, Int.reduceToNat]
        refine ⟨_, upd emp 0 (.map es2), 1, _, Back.list [3] _ (by simp) (fun k o hk => ?_) rfl rfl, es2, rfl, rfl, rfl, hes.congr (fun c => by simp [backY])⟩
        unfold upd at hk
        split at hk
        · cases hk
          subst_vars
          exact ⟨by simp, hes.bel, by rw [hes.ren]; rfl⟩
        · cases hk
end Go.Proofs.Ytcocbifjjafknaa.AL

/- At, Room, Keeps, OfKind. -/
set_option linter.unusedSimpArgs false
set_option linter.unusedVariables false
namespace Go.Proofs.Ytcocbifjjafknaa.AL
open Go
variable {s : SiteD} {st : StateD}

structure StOk (st : StateD) : Prop where
  nr : st.robots.length ≤ 140737488355328
  nsh : st.shelves.length ≤ 140737488355328

def atF (st : StateD) (c : Int) : Int := match standF st c with | some i => (i : Int) | none => -1

theorem f17 (h : StOk st) (c : Int) : Pure Try.prog 17 [.v (.agg (encSite s)), .v (.agg (encState st)), tI c] (· = tI (atF st c)) := by
  refine Pure.of_awp hm Try.func17 s17_ok (by simp [s17]) ?_
  simp only [go_sem, s17, encSite, encState, ↓reduceIte, reduceCtorEq, Nat.reduceEqDiff, Nat.reduceAdd, Nat.reduceSub, Nat.reduceMul, Nat.reduceLT, Nat.reduceLeDiff, Int.reduceToNat]
  refine Spec.plain (f51 st h.nr h.nsh) (liftA_refl rfl) ?_
  rintro _ _ _ ⟨es, rfl, rfl, rfl, ho⟩
  have hf : mfind es (Value.int .i64 c) = (standF st c).map iV := ho.2.2 c
  cases hs : standF st c with
  | none =>
    rw [hs] at hf
    simp only [go_sem, s17_4, s17_3, s17_1, T.ren, V.ren, C.ren, joinK, addN, Nat.lt_irrefl, Nat.sub_self, ho.ren, ki_ok', ho.1, hf, Option.map_none, Option.getD_none, Option.isSome_none, ↓reduceIte, reduceCtorEq, Nat.reduceEqDiff, Nat.reduceAdd, Nat.reduceSub, Nat.reduceMul, Nat.reduceLT, Nat.reduceLeDiff, Int.reduceToNat]
    exact ⟨rfl, by rw [atF, hs]⟩
  | some i =>
    rw [hs] at hf
    simp only [go_sem, s17_4, s17_3, s17_2, T.ren, V.ren, C.ren, joinK, addN, Nat.lt_irrefl, Nat.sub_self, ho.ren, ki_ok', ho.1, hf, Option.map_some, Option.getD_some, Option.isSome_some, ↓reduceIte, reduceCtorEq, Nat.reduceEqDiff, Nat.reduceAdd, Nat.reduceSub, Nat.reduceMul, Nat.reduceLT, Nat.reduceLeDiff, Int.reduceToNat]
    exact ⟨rfl, by rw [atF, hs]⟩

/-- A cell of a zone that has room. -/
def freeF (s : SiteD) (st : StateD) (c : Int) : Bool := (standF st c).isNone && standsF s c
def countF (s : SiteD) (st : StateD) (l : List Int) (n : Nat) : Nat := (List.range n).countP fun i => freeF s st (l.getD i 0)
theorem countF_succ {l : List Int} {n : Nat} : countF s st l (n + 1) = countF s st l n + (if freeF s st (l.getD n 0) then 1 else 0) := by
  unfold countF
  rw [List.range_succ, List.countP_append]
  simp [List.countP_cons]
theorem countF_le {l : List Int} {n : Nat} : countF s st l n ≤ n := by
  have := List.countP_le_length (p := fun i => freeF s st (l.getD i 0)) (l := List.range n)
  simpa [countF] using this

def zoneD (s : SiteD) (z : Int) : ZoneD := s.zones.getD z.toNat default
def roomF (s : SiteD) (st : StateD) (z : Int) : Int := if 0 ≤ z ∧ z < s.zones.length then IntKind.i64.wrap ((countF s st (zoneD s z).cells (zoneD s z).cells.length : Nat) - (zoneD s z).keep) else 0

theorem wrap_wrap_add (a b : Int) : IntKind.i64.wrap (IntKind.i64.wrap a + b) = IntKind.i64.wrap (a + b) := by
  rw [IntKind.wrap_i64, IntKind.wrap_i64, IntKind.wrap_i64]
  omega

theorem f19 (hz : ZonesOk s) (h : StOk st) (z : Int) : Pure Try.prog 19 [.v (.agg (encSite s)), .v (.agg (encState st)), tI z] (· = tI (roomF s st z)) := by
  refine Pure.of_awp hm Try.func19 s19_ok (by simp [s19]) ?_
  simp only [go_sem, s19, encSite, encState, rows_len, ↓reduceIte, reduceCtorEq, Nat.reduceEqDiff, Nat.reduceAdd, Nat.reduceSub, Nat.reduceMul, Nat.reduceLT, Nat.reduceLeDiff, Int.reduceToNat]
  refine guardQ_at (fun h1 => ?_) (fun h1 => ?_)
  · simp only [go_sem, s19_14, s19_13, rows_len, ↓reduceIte, reduceCtorEq, Nat.reduceEqDiff, Nat.reduceAdd, Nat.reduceSub, Nat.reduceMul, Nat.reduceLT, Nat.reduceLeDiff, Int.reduceToNat]
    refine twoQ_at (fun h2 => ?_) (fun h2 => ?_)
    · simp only [go_sem, s19_12, ↓reduceIte, reduceCtorEq, Nat.reduceEqDiff, Nat.reduceAdd, Nat.reduceSub, Nat.reduceMul, Nat.reduceLT, Nat.reduceLeDiff, Int.reduceToNat]
      simp only [decide_eq_true_eq] at h2
      exact ⟨rfl, by rw [roomF, if_neg (by omega)]⟩
    · simp only [decide_eq_false_iff_not] at h1 h2
      have hz3 : z.toNat < s.zones.length := by omega
      simp only [go_sem, s19_11, rows_len, rows_at hz3, encZone, encState, ↓reduceIte, reduceCtorEq, Nat.reduceEqDiff, Nat.reduceAdd, Nat.reduceSub, Nat.reduceMul, Nat.reduceLT, Nat.reduceLeDiff, Int.reduceToNat]
      refine ⟨⟨by omega, by omega⟩, ?_⟩
      refine Spec.plain (f51 st h.nr h.nsh) (liftA_refl rfl) ?_
      rintro _ _ _ ⟨es, rfl, rfl, rfl, ho⟩
      simp only [go_sem, s19_10, s19_9, T.ren, V.ren, C.ren, addN, joinK, rows_len, rows_at hz3, encZone, ints_len, ↓reduceIte, reduceCtorEq, Nat.reduceEqDiff, Nat.reduceAdd, Nat.reduceSub, Nat.reduceMul, Nat.reduceLT, Nat.reduceLeDiff, Int.reduceToNat]
      have hl : (zoneD s z).cells.length ≤ 140737488355328 := hz.nc _ hz3
      have hzd : s.zones.getD z.toNat default = zoneD s z := rfl
      refine ⟨⟨by omega, by omega⟩, awp_loop (fun i : Nat => ⟨upd (upd (upd (upd (upd (upd emp 3 (tC (.ptr 0 0 0 0))) 7 (tI (IntKind.i64.wrap ((countF s st (zoneD s z).cells i : Nat) - (zoneD s z).keep)))) 8 (tC (.map 2))) 36 (tC (.r (.rd 1 (ints (zoneD s z).cells))))) 37 (tI (zoneD s z).cells.length)) 38 (tI i), upd (upd emp 0 (.row 0 9 [encSite s])) 2 (.map es), 3⟩)
        (fun i => (zoneD s z).cells.length - i) (fun i => i ≤ (zoneD s z).cells.length) 0 (Nat.zero_le _) ?_ ?_⟩
      · have e0 : countF s st (zoneD s z).cells 0 = 0 := rfl
        rw [e0]
        have hbel := ho
        exact Weak.keep (by repeat (first | refine TmLe.cons rfl rfl ?_ | refine TmLe.cons (by simp [upd, *]) rfl ?_ | exact TmLe.nil)) (by repeat (first | refine KLe.cons (by omega) (by first | rfl | (simp [upd, *]; done) | (simp [joinK, upd, addN, ho.ren]; done)) (by first | rfl | exact IMap.bel (by assumption) | exact intC_bel) ?_ | exact KLe.nil)) (by first | omega | exact Nat.le_refl _ | (dsimp only; omega)) (by first | omega | exact Nat.le_refl _ | (dsimp only; omega))
      · intro i hi
        simp only [go_sem, s19_8, ↓reduceIte, reduceCtorEq, Nat.reduceEqDiff, Nat.reduceAdd, Nat.reduceSub, Nat.reduceMul, Nat.reduceLT, Nat.reduceLeDiff, Int.reduceToNat]
        refine twoQ_at (fun g => ?_) (fun g => ?_)
        · have hi' : i < (zoneD s z).cells.length := by simpa using g
          have hf : mfind es (Value.int .i64 ((zoneD s z).cells.getD i 0)) = (standF st ((zoneD s z).cells.getD i 0)).map iV := ho.2.2 _
          have fin : ∀ (b : Bool) {tm : Nat → Option T}, freeF s st ((zoneD s z).cells.getD i 0) = b → tm 3 = some (tC (.ptr 0 0 0 0)) → tm 7 = some (tI (IntKind.i64.wrap ((countF s st (zoneD s z).cells (i + 1) : Nat) - (zoneD s z).keep))) → tm 8 = some (tC (.map 2)) → tm 36 = some (tC (.r (.rd 1 (ints (zoneD s z).cells)))) → tm 37 = some (tI (zoneD s z).cells.length) → tm 38 = some (tI (i + 1 : Nat)) →
              Weak 0 ⟨tm, upd (upd emp 0 (.row 0 9 [encSite s])) 2 (.map es), 3⟩ ⟨upd (upd (upd (upd (upd (upd emp 3 (tC (.ptr 0 0 0 0))) 7 (tI (IntKind.i64.wrap ((countF s st (zoneD s z).cells (i + 1) : Nat) - (zoneD s z).keep)))) 8 (tC (.map 2))) 36 (tC (.r (.rd 1 (ints (zoneD s z).cells))))) 37 (tI (zoneD s z).cells.length)) 38 (tI (i + 1 : Nat)), upd (upd emp 0 (.row 0 9 [encSite s])) 2 (.map es), 3⟩ := by
            intro b tm _ h3 h7 h8 h36 h37 h38
            exact Weak.keep (TmLe.cons h38 rfl (TmLe.cons h37 rfl (TmLe.cons h36 rfl (TmLe.cons h8 rfl (TmLe.cons h7 rfl (TmLe.cons h3 rfl TmLe.nil)))))) (KLe.cons (by omega) rfl ho.bel (KLe.cons (by omega) rfl rfl KLe.nil)) (Nat.zero_le _) (Nat.le_refl _)
          have hw : IntKind.i64.wrap ((i : Int) + 1) = ((i + 1 : Nat) : Int) := wrap_i (by omega) (by omega)
          cases hst : standF st ((zoneD s z).cells.getD i 0) with
          | some k =>
            rw [hst] at hf
            have hfree : freeF s st ((zoneD s z).cells.getD i 0) = false := by rw [freeF, hst]; rfl
            simp only [go_sem, s19_7, s19_6, s19_5, s19_4, s19_2, ints_len, ints_at hi', Int.toNat_natCast, ki_ok', ho.1, hf, Option.map_some, Option.getD_some, Option.isSome_some, ↓reduceIte, reduceCtorEq, Nat.reduceEqDiff, Nat.reduceAdd, Nat.reduceSub, Nat.reduceMul, Nat.reduceLT, Nat.reduceLeDiff, Int.reduceToNat]
            refine ⟨⟨by omega, by omega⟩, i + 1, by omega, by omega, ?_⟩
            refine fin false hfree rfl ?_ rfl rfl rfl (by rw [← hw]; rfl)
            rw [countF_succ, hfree]; rfl
          | none =>
            rw [hst] at hf
            simp only [go_sem, s19_7, s19_6, ints_len, ints_at hi', Int.toNat_natCast, ki_ok', ho.1, hf, Option.map_none, Option.getD_none, Option.isSome_none, encSite, ↓reduceIte, reduceCtorEq, Nat.reduceEqDiff, Nat.reduceAdd, Nat.reduceSub, Nat.reduceMul, Nat.reduceLT, Nat.reduceLeDiff, Int.reduceToNat]
            refine ⟨⟨by omega, by omega⟩, ?_⟩
            refine Pure.callS (f16 (s := s) _) rfl ?_
            simp only [go_sem, s19_5, s19_4, ↓reduceIte, reduceCtorEq, Nat.reduceEqDiff, Nat.reduceAdd, Nat.reduceSub, Nat.reduceMul, Nat.reduceLT, Nat.reduceLeDiff, Int.reduceToNat]
            have hfree : freeF s st ((zoneD s z).cells.getD i 0) = standsF s ((zoneD s z).cells.getD i 0) := by rw [freeF, hst]; rfl
            refine twoQ_at (fun g2 => ?_) (fun g2 => ?_)
            · simp only [go_sem, s19_3, s19_2, ↓reduceIte, reduceCtorEq, Nat.reduceEqDiff, Nat.reduceAdd, Nat.reduceSub, Nat.reduceMul, Nat.reduceLT, Nat.reduceLeDiff, Int.reduceToNat]
              refine ⟨i + 1, by omega, by omega, ?_⟩
              refine fin true (hfree.trans g2) rfl ?_ rfl rfl rfl (by rw [← hw]; rfl)
              rw [countF_succ, hfree.trans g2]
              have e : IntKind.i64.wrap (IntKind.i64.wrap ((countF s st (zoneD s z).cells i : Nat) - (zoneD s z).keep) + 1) = IntKind.i64.wrap ((countF s st (zoneD s z).cells i + 1 : Nat) - (zoneD s z).keep) := by
                rw [wrap_wrap_add]
                congr 1
                omega
              rw [if_pos rfl, ← e]
              rfl
            · simp only [go_sem, s19_2, ↓reduceIte, reduceCtorEq, Nat.reduceEqDiff, Nat.reduceAdd, Nat.reduceSub, Nat.reduceMul, Nat.reduceLT, Nat.reduceLeDiff, Int.reduceToNat]
              refine ⟨i + 1, by omega, by omega, ?_⟩
              refine fin false (hfree.trans g2) rfl ?_ rfl rfl rfl (by rw [← hw]; rfl)
              rw [countF_succ, hfree.trans g2]; rfl
        · have hi' : i = (zoneD s z).cells.length := by simp at g; omega
          subst hi'
          simp only [go_sem, s19_1, ↓reduceIte, reduceCtorEq, Nat.reduceEqDiff, Nat.reduceAdd, Nat.reduceSub, Nat.reduceMul, Nat.reduceLT, Nat.reduceLeDiff, Int.reduceToNat]
          exact ⟨rfl, by rw [roomF, if_pos (by omega)]⟩
  · simp only [go_sem, s19_14, s19_13, s19_12, ↓reduceIte, reduceCtorEq, Nat.reduceEqDiff, Nat.reduceAdd, Nat.reduceSub, Nat.reduceMul, Nat.reduceLT, Nat.reduceLeDiff, Int.reduceToNat]
    simp only [Bool.not_false, decide_eq_true_eq] at h1
    exact ⟨rfl, by rw [roomF, if_neg (by omega)]⟩

def keepsF (s : SiteD) (st : StateD) : Int := idxF (fun z => decide (roomF s st z < 0)) s.zones.length

theorem f26 (hz : ZonesOk s) (h : StOk st) : Pure Try.prog 26 [.v (.agg (encSite s)), .v (.agg (encState st))] (· = tI (keepsF s st)) := by
  have hnz := hz.nz
  refine Pure.of_awp hm Try.func26 s26_ok (by simp [s26]) ?_
  simp only [go_sem, s26, encSite, rows_len, ↓reduceIte, reduceCtorEq, Nat.reduceEqDiff, Nat.reduceAdd, Nat.reduceSub, Nat.reduceMul, Nat.reduceLT, Nat.reduceLeDiff, Int.reduceToNat]
  refine awp_loop (fun i : Nat => ⟨upd (upd (upd (upd emp 2 (tC (.ptr 0 0 0 0))) 3 (tC (.ptr 1 0 0 0))) 8 (tI s.zones.length)) 9 (tI i), upd (upd emp 0 (.row 0 9 [encSite s])) 1 (.row 0 6 [encState st]), 2⟩)
    (fun i => s.zones.length - i) (fun i => i ≤ s.zones.length ∧ ∀ j, j < i → decide (roomF s st (j : Nat) < 0) = false) 0 ⟨Nat.zero_le _, fun j hj => by omega⟩ ?_ ?_
  · exact Weak.keep (by repeat (first | refine TmLe.cons rfl rfl ?_ | refine TmLe.cons (by simp [upd, *]) rfl ?_ | exact TmLe.nil)) (by repeat (first | refine KLe.cons (by omega) (by first | rfl | (simp [upd, *]; done) | (simp [joinK, upd, addN, ho.ren]; done)) (by first | rfl | exact IMap.bel (by assumption) | exact intC_bel) ?_ | exact KLe.nil)) (by first | omega | exact Nat.le_refl _ | (dsimp only; omega)) (by first | omega | exact Nat.le_refl _ | (dsimp only; omega))
  · intro i ⟨hi, hno⟩
    simp only [go_sem, s26_7, ↓reduceIte, reduceCtorEq, Nat.reduceEqDiff, Nat.reduceAdd, Nat.reduceSub, Nat.reduceMul, Nat.reduceLT, Nat.reduceLeDiff, Int.reduceToNat]
    refine twoQ_at (fun g => ?_) (fun g => ?_)
    · have hi' : i < s.zones.length := by simpa using g
      simp only [go_sem, s26_6, encSite, encState, ↓reduceIte, reduceCtorEq, Nat.reduceEqDiff, Nat.reduceAdd, Nat.reduceSub, Nat.reduceMul, Nat.reduceLT, Nat.reduceLeDiff, Int.reduceToNat]
      refine Pure.callS (f19 hz h _) rfl ?_
      simp only [go_sem, s26_5, s26_4, ↓reduceIte, reduceCtorEq, Nat.reduceEqDiff, Nat.reduceAdd, Nat.reduceSub, Nat.reduceMul, Nat.reduceLT, Nat.reduceLeDiff, Int.reduceToNat]
      refine twoQ_at (fun g2 => ?_) (fun g2 => ?_)
      · simp only [go_sem, s26_3, ↓reduceIte, reduceCtorEq, Nat.reduceEqDiff, Nat.reduceAdd, Nat.reduceSub, Nat.reduceMul, Nat.reduceLT, Nat.reduceLeDiff, Int.reduceToNat]
        exact ⟨rfl, by rw [keepsF, idxF_hit (p := fun z => decide (roomF s st (z : Nat) < 0)) hi' g2 hno]⟩
      · simp only [go_sem, s26_2, ↓reduceIte, reduceCtorEq, Nat.reduceEqDiff, Nat.reduceAdd, Nat.reduceSub, Nat.reduceMul, Nat.reduceLT, Nat.reduceLeDiff, Int.reduceToNat]
        refine ⟨i + 1, ⟨by omega, fun j hj => ?_⟩, by omega, ?_⟩
        · by_cases e : j = i
          · subst e; exact g2
          · exact hno j (by omega)
        · rw [wrap_i (by omega) (by omega)]
          exact Weak.keep (by repeat (first | refine TmLe.cons rfl rfl ?_ | refine TmLe.cons (by simp [upd, *]) rfl ?_ | exact TmLe.nil)) (by repeat (first | refine KLe.cons (by omega) (by first | rfl | (simp [upd, *]; done) | (simp [joinK, upd, addN, ho.ren]; done)) (by first | rfl | exact IMap.bel (by assumption) | exact intC_bel) ?_ | exact KLe.nil)) (by first | omega | exact Nat.le_refl _ | (dsimp only; omega)) (by first | omega | exact Nat.le_refl _ | (dsimp only; omega))
    · have hi' : i = s.zones.length := by simp at g; omega
      subst hi'
      simp only [go_sem, s26_1, ↓reduceIte, reduceCtorEq, Nat.reduceEqDiff, Nat.reduceAdd, Nat.reduceSub, Nat.reduceMul, Nat.reduceLT, Nat.reduceLeDiff, Int.reduceToNat]
      exact ⟨rfl, by rw [keepsF, idxF_none hno]⟩

/-- The first n cells' numbers that are of a kind. -/
def ofKindN (s : SiteD) (k : Int) (n : Nat) : List Int := ((List.range n).filter fun c => decide (s.floor.kind.getD c 0 = k)).map fun c : Nat => (c : Int)
theorem ofKindN_succ {k : Int} {n : Nat} : ofKindN s k (n + 1) = ofKindN s k n ++ (if s.floor.kind.getD n 0 = k then [(n : Int)] else []) := by
  unfold ofKindN
  rw [List.range_succ, List.filter_append, List.map_append]
  congr 1
  by_cases h : s.floor.kind.getD n 0 = k
  · simp only [h, if_true, List.filter_cons, decide_true, List.filter_nil, List.map_cons, List.map_nil]
  · simp only [h, if_false, List.filter_cons, decide_false, List.filter_nil, List.map_nil, Bool.false_eq_true]
theorem ofKindN_len {k : Int} {n : Nat} : (ofKindN s k n).length ≤ n := by
  unfold ofKindN
  rw [List.length_map]
  exact Nat.le_trans (List.length_filter_le _ _) (by simp)

/-- Own rows of numbers. -/
def intC (l : List Int) : List (List C) := l.map fun n => [cV (.int .i64 n)]
theorem intC_len {l : List Int} : (intC l).length = l.length := by simp [intC]

theorem intC_bel {l : List Int} {v n N : Nat} : (AObj.row v n (intC l)).below N = true := by
  simp [AObj.below, intC, C.below]
theorem intC_ren {l : List Int} {v n : Nat} {ρ : Nat → Nat} : (AObj.row v n (intC l)).ren ρ = .row v n (intC l) := by
  simp [AObj.ren, intC, C.ren]
theorem intC_app {l : List Int} {n : Int} : intC l ++ [[C.r (R.val (Value.int .i64 n))]] = intC (l ++ [n]) := by simp [intC]
/-- Handed back: one own row of numbers. -/
theorem Back.intC1 {st : St} {i v n : Nat} {l : List Int} {d : T} {w : Nat} (h : st.K i = some (.row v n (intC l))) (hd : d = tC (.own i v 0 w)) : Back 0 st d (tC (.own 0 v 0 w)) (upd emp 0 (.row v n (intC l))) 1 (fun k => [i].getD k 0) := by
  subst hd
  refine Back.list [i] _ (by simp) (fun k o hk => ?_) rfl rfl
  unfold upd at hk
  split at hk
  · cases hk
    subst_vars
    exact ⟨by simp, intC_bel, by rw [intC_ren]; exact h⟩
  · cases hk

theorem f21 (hl : s.floor.kind.length ≤ 4096) (k : Int) : Spec Try.prog 21 [.v (.agg (encSite s)), tI k] emp 0 fun d K N => ∃ v, d = tC (.own 0 v 0 (ofKindN s k s.floor.kind.length).length) ∧ K = upd emp 0 (.row v 1 (intC (ofKindN s k s.floor.kind.length))) ∧ N = 1 := by
  refine Spec.of_awp hm Try.func21 s21_ok (by simp [s21]) ?_
  simp only [go_sem, s21, encSite, ints_len, ↓reduceIte, reduceCtorEq, Nat.reduceEqDiff, Nat.reduceAdd, Nat.reduceSub, Nat.reduceMul, Nat.reduceLT, Nat.reduceLeDiff, Int.reduceToNat]
  refine awp_loop (fun x : Nat × Nat => ⟨upd (upd (upd (upd (upd emp 1 (tI k)) 5 (tC (.own 1 x.2 0 (ofKindN s k x.1).length))) 10 (tC (.r (.rd 1 (ints s.floor.kind))))) 11 (tI s.floor.kind.length)) 12 (tI x.1), upd emp 1 (.row x.2 1 (intC (ofKindN s k x.1))), 2⟩)
    (fun x => s.floor.kind.length - x.1) (fun x => x.1 ≤ s.floor.kind.length) (0, 0) (Nat.zero_le _) ?_ ?_
  · refine Weak.trans (Weak.nilTm 5 1 rfl) ?_
    exact Weak.keep (by repeat (first | refine TmLe.cons rfl rfl ?_ | refine TmLe.cons (by simp [upd, *]) rfl ?_ | exact TmLe.nil)) (by repeat (first | refine KLe.cons (by omega) (by first | rfl | (simp [upd, *]; done) | (simp [joinK, upd, addN, ho.ren]; done)) (by first | rfl | exact IMap.bel (by assumption) | exact intC_bel) ?_ | exact KLe.nil)) (by first | omega | exact Nat.le_refl _ | (dsimp only; omega)) (by first | omega | exact Nat.le_refl _ | (dsimp only; omega))
  · rintro ⟨i, v⟩ hi
    simp only at hi
    simp only [go_sem, s21_5, ↓reduceIte, reduceCtorEq, Nat.reduceEqDiff, Nat.reduceAdd, Nat.reduceSub, Nat.reduceMul, Nat.reduceLT, Nat.reduceLeDiff, Int.reduceToNat]
    refine twoQ_at (fun g => ?_) (fun g => ?_)
    · have hi' : i < s.floor.kind.length := by simpa using g
      have hlen := ofKindN_len (s := s) (k := k) (n := i)
      simp only [go_sem, s21_4, ints_len, ints_at hi', Int.toNat_natCast, ↓reduceIte, reduceCtorEq, Nat.reduceEqDiff, Nat.reduceAdd, Nat.reduceSub, Nat.reduceMul, Nat.reduceLT, Nat.reduceLeDiff, Int.reduceToNat]
      refine ⟨⟨by omega, by omega⟩, twoQ_at (fun g2 => ?_) (fun g2 => ?_)⟩
      · simp only [decide_eq_true_eq] at g2
        simp only [go_sem, s21_3, evAppend, srcRows, rowsOf, intC_len, ↓reduceIte, reduceCtorEq, Nat.reduceEqDiff, Nat.reduceAdd, Nat.reduceSub, Nat.reduceMul, Nat.reduceLT, Nat.reduceLeDiff, Int.reduceToNat]
        refine ⟨by omega, ?_⟩
        have e : ofKindN s k (i + 1) = ofKindN s k i ++ [(i : Int)] := by rw [ofKindN_succ, if_pos g2]
        simp only [go_sem, s21_2, ↓reduceIte, reduceCtorEq, Nat.reduceEqDiff, Nat.reduceAdd, Nat.reduceSub, Nat.reduceMul, Nat.reduceLT, Nat.reduceLeDiff, Int.reduceToNat]
        refine ⟨(i + 1, v + 1), by simp only; omega, by simp only; omega, ?_⟩
        rw [wrap_i (by omega) (by omega), intC_app, ← e]
        have e2 : (ofKindN s k (i + 1)).length = (ofKindN s k i).length + 1 := by rw [e]; simp
        simp only [e2]
        exact Weak.keep (by repeat (first | refine TmLe.cons rfl rfl ?_ | refine TmLe.cons (by simp [upd, *]) rfl ?_ | exact TmLe.nil)) (by repeat (first | refine KLe.cons (by omega) (by first | rfl | (simp [upd, *]; done) | (simp [joinK, upd, addN, ho.ren]; done)) (by first | rfl | exact IMap.bel (by assumption) | exact intC_bel) ?_ | exact KLe.nil)) (by first | omega | exact Nat.le_refl _ | (dsimp only; omega)) (by first | omega | exact Nat.le_refl _ | (dsimp only; omega))
      · simp only [decide_eq_false_iff_not] at g2
        simp only [go_sem, s21_2, ↓reduceIte, reduceCtorEq, Nat.reduceEqDiff, Nat.reduceAdd, Nat.reduceSub, Nat.reduceMul, Nat.reduceLT, Nat.reduceLeDiff, Int.reduceToNat]
        refine ⟨(i + 1, v), by simp only; omega, by simp only; omega, ?_⟩
        rw [wrap_i (by omega) (by omega)]
        have e : ofKindN s k (i + 1) = ofKindN s k i := by rw [ofKindN_succ, if_neg g2]; simp
        simp only [e]
        exact Weak.keep (by repeat (first | refine TmLe.cons rfl rfl ?_ | refine TmLe.cons (by simp [upd, *]) rfl ?_ | exact TmLe.nil)) (by repeat (first | refine KLe.cons (by omega) (by first | rfl | (simp [upd, *]; done) | (simp [joinK, upd, addN, ho.ren]; done)) (by first | rfl | exact IMap.bel (by assumption) | exact intC_bel) ?_ | exact KLe.nil)) (by first | omega | exact Nat.le_refl _ | (dsimp only; omega)) (by first | omega | exact Nat.le_refl _ | (dsimp only; omega))
    · have hi' : i = s.floor.kind.length := by simp at g; omega
      subst hi'
      simp only [go_sem, s21_1, ↓reduceIte, reduceCtorEq, Nat.reduceEqDiff, Nat.reduceAdd, Nat.reduceSub, Nat.reduceMul, Nat.reduceLT, Nat.reduceLeDiff, Int.reduceToNat]
      exact ⟨_, _, 1, _, Back.intC1 rfl rfl, v, rfl, rfl, rfl⟩
end Go.Proofs.Ytcocbifjjafknaa.AL

/- DeleteFunc, the cells beside a cell. -/
set_option linter.unusedSimpArgs false
set_option linter.unusedVariables false
namespace Go.Proofs.Ytcocbifjjafknaa.AL
open Go
variable {s : SiteD} {st : StateD}

/-- Only the temporaries are cut. -/
theorem Weak.cutTm {N0 N : Nat} {tm tm' : Nat → Option T} {K : KMap} (h1 : ∀ t d, tm' t = some d → tm t = some d) : Weak N0 ⟨tm, K, N⟩ ⟨tm', K, N⟩ := fun dl n w0 F S μ0 μ a w h =>
  ⟨μ, h.defers, h.size, fun t d hd => h.tm t d (h1 t d hd), h.h, h.ent, h.later⟩

theorem intC_at {l : List Int} {i : Nat} (h : i < l.length) : (intC l).getD i [] = [cV (.int .i64 (l.getD i 0))] := by simp [intC, h]
theorem intC_set {l : List Int} {i : Nat} {n : Int} : (intC l).set i [cV (.int .i64 n)] = intC (l.set i n) := by simp [intC, List.map_set]

def posL (l : List Int) : List Int := l.filter fun c => !decide (c < 0)

theorem intC_cast {K : KMap} {id v : Nat} {l : List Int} (hK : K id = some (.row v 1 (intC l))) (hl : l.length ≤ 140737488355328) : CastC K (.own id v 0 l.length) (.r (.rd 1 (ints l))) := by
  refine .inr ⟨_, rfl, .own hK (by rw [intC_len]; omega) ints_len (fun y hy => ?_) (fun i k c r hi hc hr => ?_)⟩
  · simp only [ints, List.mem_map] at hy
    obtain ⟨n, _, rfl⟩ := hy
    rfl
  · rw [Nat.zero_add, intC_at hi] at hc
    rw [ints_at hi] at hr
    cases k with
    | zero => simp at hc hr; subst hc hr; exact .r
    | succ k => simp at hr

theorem joinK_nil {N : Nat} {K : KMap} (h : ∀ i, N ≤ i → K i = none) : joinK N K emp = K := by
  funext i
  unfold joinK
  split
  · rfl
  · rw [h i (by omega)]; rfl
theorem up1_none {o : AObj} : ∀ i, 1 ≤ i → (upd emp 0 o : KMap) i = none := fun i hi => by
  rw [upd_ne _ _ (by omega)]; rfl

theorem posL_succ {l : List Int} {j : Nat} (h : j < l.length) : posL (l.take (j + 1)) = posL (l.take j) ++ (if l.getD j 0 < 0 then [] else [l.getD j 0]) := by
  unfold posL
  rw [List.take_add_one, List.filter_append]
  congr 1
  have : l[j]? = some (l.getD j 0) := by simp [h]
  rw [this]
  by_cases e : l.getD j 0 < 0
  · simp only [e, if_true, Option.toList_some, List.filter_cons, decide_true, Bool.not_true, Bool.false_eq_true, if_false, List.filter_nil]
  · simp only [e, if_false, Option.toList_some, List.filter_cons, decide_false, Bool.not_false, if_true, List.filter_nil]

theorem posL_take {l : List Int} : ∀ {j : Nat}, j ≤ l.length → (∀ k, k < j → ¬ l.getD k 0 < 0) → posL (l.take j) = l.take j
  | 0, _, _ => by simp [posL]
  | j + 1, hj, h => by
    rw [posL_succ (by omega), if_neg (h j (by omega)), posL_take (by omega) (fun k hk => h k (by omega)), List.take_add_one]
    have : l[j]? = some (l.getD j 0) := by simp [show j < l.length by omega]
    rw [this]; rfl

theorem f76 (l : List Int) (v : Nat) (hl : l.length ≤ 140737488355328) : Spec Try.prog 76 [tC (.own 0 v 0 l.length), tC (.fn 77 [])] (upd emp 0 (.row v 1 (intC l))) 1
    fun d K N => ∃ t, d = tC (.own 0 v 0 (posL l).length) ∧ K = upd emp 0 (.row v 1 (intC (posL l) ++ List.replicate t [.any])) ∧ N = 1 := by
  refine Spec.of_awp hm Try.func76 s76_ok (by simp [s76]) ?_
  simp only [go_sem, s76, ↓reduceIte, reduceCtorEq, Nat.reduceEqDiff, Nat.reduceAdd, Nat.reduceSub, Nat.reduceMul, Nat.reduceLT, Nat.reduceLeDiff, Int.reduceToNat]
  refine Spec.cast (f94 (K := emp) (N := 0) (g := 77) (caps := []) (ints l) (fun i hi => ?_) (fun i => decide (l.getD i 0 < 0)) (by rw [ints_len]; exact hl) rfl (fun i o h => by cases h) (fun i hi => ?_) (fun i hi => ?_)) ?_ ?_ ?_
  · rw [ints_at (by rw [ints_len] at hi; exact hi)]; exact ⟨_, rfl⟩
  · rw [ints_at (by rw [ints_len] at hi; exact hi)]; rfl
  · rw [ints_at (by rw [ints_len] at hi; exact hi)]
    exact f77 _
  · exact ⟨intC_cast rfl hl, .inl ⟨rfl, rfl⟩, trivial⟩
  · rintro d K1 N1 ⟨rfl, h2, rfl, rfl⟩
    exact ⟨rfl, fun id o h => by cases h⟩
  · rintro d K1 N1 ⟨rfl, h2, rfl, rfl⟩
    rw [ints_len]
    simp only [go_sem, s76_11, s76_10, T.ren, V.ren, C.ren, ↓reduceIte, reduceCtorEq, Nat.reduceEqDiff, Nat.reduceAdd, Nat.reduceSub, Nat.reduceMul, Nat.reduceLT, Nat.reduceLeDiff, Int.reduceToNat]
    rw [joinK_nil up1_none]
    refine twoQ_at (fun g => ?_) (fun g => ?_)
    · simp only [decide_eq_true_eq] at g
      simp only [go_sem, s76_9, ↓reduceIte, reduceCtorEq, Nat.reduceEqDiff, Nat.reduceAdd, Nat.reduceSub, Nat.reduceMul, Nat.reduceLT, Nat.reduceLeDiff, Int.reduceToNat]
      have hp : posL l = l := by
        have := posL_take (l := l) (Nat.le_refl _) (fun k hk hneg => by
          unfold idxF at g
          cases hf : (List.range l.length).find? (fun i => decide (l.getD i 0 < 0)) with
          | some i => rw [hf] at g; simp only at g; omega
          | none =>
            rw [List.find?_range_eq_none] at hf
            have := hf k hk
            simp only [Bool.not_eq_true', decide_eq_false_iff_not] at this
            exact this hneg)
        rwa [List.take_length] at this
      refine ⟨_, upd emp 0 (.row v 1 (intC l)), 1, _, Back.keep (Nat.le_refl _) rfl (fun i o hk => ?_), 0, by rw [hp], by simp [hp], rfl⟩
      refine ⟨?_, ?_, hk⟩ <;> unfold upd at hk <;> split at hk
      · omega
      · cases hk
      · cases hk; exact intC_bel
      · cases hk
    · simp only [decide_eq_false_iff_not] at g
      obtain ⟨i0, hi0, hn0, he0⟩ := (idxF_b (fun i => decide (l.getD i 0 < 0)) l.length).resolve_left g
      simp only [decide_eq_true_eq] at hn0
      have hfirst : ∀ k, k < i0 → ¬ l.getD k 0 < 0 := fun k hk hneg => by
        unfold idxF at he0
        cases hf : (List.range l.length).find? (fun i => decide (l.getD i 0 < 0)) with
        | none => rw [hf] at he0; simp only at he0; omega
        | some i =>
          rw [hf] at he0
          rw [List.find?_range_eq_some] at hf
          simp only at he0
          have : i = i0 := by omega
          subst this
          have := hf.2.2 k hk
          simp only [Bool.not_eq_true', decide_eq_false_iff_not] at this
          exact this hneg
      rw [he0]
      simp only [go_sem, s76_8, ↓reduceIte, reduceCtorEq, Nat.reduceEqDiff, Nat.reduceAdd, Nat.reduceSub, Nat.reduceMul, Nat.reduceLT, Nat.reduceLeDiff, Int.reduceToNat]
      rw [wrap_i (n := (i0 : Int) + 1) (by omega) (by omega)]
      refine awp_loop (fun x : Nat × Nat × List Int => ⟨upd (upd (upd (upd emp 0 (tC (.own 0 v 0 l.length))) 1 (tC (.fn 77 []))) 5 (tI x.1)) 6 (tI x.2.1), upd emp 0 (.row v 1 (intC x.2.2)), 1⟩) (fun x => l.length - x.2.1)
        (fun x => x.1 < x.2.1 ∧ x.2.1 ≤ l.length ∧ x.2.2.length = l.length ∧ x.1 = (posL (l.take x.2.1)).length ∧ x.2.2.take x.1 = posL (l.take x.2.1) ∧ ∀ k, x.2.1 ≤ k → k < l.length → x.2.2.getD k 0 = l.getD k 0) (i0, i0 + 1, l) ?_ ?_ ?_
      · have e : posL (l.take (i0 + 1)) = l.take i0 := by rw [posL_succ hi0, if_pos hn0, posL_take (by omega) hfirst, List.append_nil]
        exact ⟨by simp only; omega, by simp only; omega, rfl, by simp only [e, List.length_take]; omega, by simp only [e], fun k _ _ => rfl⟩
      · exact Weak.keep (by repeat (first | refine TmLe.cons rfl rfl ?_ | refine TmLe.cons (by simp [upd, *]) rfl ?_ | exact TmLe.nil)) (by repeat (first | refine KLe.cons (by omega) (by first | rfl | (simp [upd, *]; done) | (simp [joinK, upd, addN, ho.ren]; done)) (by first | rfl | exact IMap.bel (by assumption) | exact intC_bel) ?_ | exact KLe.nil)) (by first | omega | exact Nat.le_refl _ | (dsimp only; omega)) (by first | omega | exact Nat.le_refl _ | (dsimp only; omega))
      · rintro ⟨i, j, cur⟩ ⟨h1, h3, h4, h5, h6, h7⟩
        simp only at h1 h3 h4 h5 h6 h7
        simp only [go_sem, s76_7, ↓reduceIte, reduceCtorEq, Nat.reduceEqDiff, Nat.reduceAdd, Nat.reduceSub, Nat.reduceMul, Nat.reduceLT, Nat.reduceLeDiff, Int.reduceToNat]
        refine twoQ_at (fun g2 => ?_) (fun g2 => ?_)
        · have hj : j < l.length := by simpa using g2
          have hj2 : j < cur.length := by omega
          have hi2 : i < cur.length := by omega
          simp only [go_sem, s76_6, evIaddr, evLoad, intC_len, Int.toNat_natCast, intC_at hj2, ↓reduceIte, reduceCtorEq, Nat.reduceEqDiff, Nat.reduceAdd, Nat.reduceSub, Nat.reduceMul, Nat.reduceLT, Nat.reduceLeDiff, Int.reduceToNat]
          refine ⟨⟨by omega, by omega⟩, by omega, ?_⟩
          rw [h7 j (Nat.le_refl _) hj]
          refine Pure.callS (f77 _) rfl ?_
          simp only [go_sem, s76_5, s76_4, ↓reduceIte, reduceCtorEq, Nat.reduceEqDiff, Nat.reduceAdd, Nat.reduceSub, Nat.reduceMul, Nat.reduceLT, Nat.reduceLeDiff, Int.reduceToNat]
          refine twoQ_at (fun g3 => ?_) (fun g3 => ?_)
          · simp only [go_sem, s76_3, s76_2, evIaddr, evStore, intC_len, Int.toNat_natCast, intC_at hi2, intC_set, ↓reduceIte, reduceCtorEq, Nat.reduceEqDiff, Nat.reduceAdd, Nat.reduceSub, Nat.reduceMul, Nat.reduceLT, Nat.reduceLeDiff, Int.reduceToNat]
            simp only [Bool.not_eq_true', decide_eq_false_iff_not] at g3
            refine ⟨⟨by omega, by omega⟩, by omega, (i + 1, j + 1, cur.set i (l.getD j 0)), ⟨by simp only; omega, by simp only; omega, by simpa using h4, ?_, ?_, fun k hk1 hk2 => ?_⟩, by simp only; omega, ?_⟩
            · simp only [posL_succ hj, if_neg g3, List.length_append, List.length_cons, List.length_nil]; omega
            · simp only [posL_succ hj, if_neg g3]
              rw [← h6, List.take_add_one]
              have e1 : (cur.set i (l.getD j 0)).take i = cur.take i := by rw [List.take_set_of_le (Nat.le_refl _)]
              have e2 : (cur.set i (l.getD j 0))[i]? = some (l.getD j 0) := by simp [hi2]
              rw [e1, e2]; rfl
            · simp only at hk1
              have : (cur.set i (l.getD j 0)).getD k 0 = cur.getD k 0 := by
                simp only [List.getD_eq_getElem?_getD]
                rw [List.getElem?_set_ne (by omega)]
              simp only [this]
              exact h7 k (by omega) hk2
            · rw [wrap_i (n := (i : Int) + 1) (by omega) (by omega), wrap_i (n := (j : Int) + 1) (by omega) (by omega)]
              exact Weak.keep (by repeat (first | refine TmLe.cons rfl rfl ?_ | refine TmLe.cons (by simp [upd, *]) rfl ?_ | exact TmLe.nil)) (by repeat (first | refine KLe.cons (by omega) (by first | rfl | (simp [upd, *]; done) | (simp [joinK, upd, addN, ho.ren]; done)) (by first | rfl | exact IMap.bel (by assumption) | exact intC_bel) ?_ | exact KLe.nil)) (by first | omega | exact Nat.le_refl _ | (dsimp only; omega)) (by first | omega | exact Nat.le_refl _ | (dsimp only; omega))
          · simp only [go_sem, s76_2, ↓reduceIte, reduceCtorEq, Nat.reduceEqDiff, Nat.reduceAdd, Nat.reduceSub, Nat.reduceMul, Nat.reduceLT, Nat.reduceLeDiff, Int.reduceToNat]
            simp only [Bool.not_eq_false', decide_eq_true_eq] at g3
            refine ⟨(i, j + 1, cur), ⟨by simp only; omega, by simp only; omega, h4, ?_, ?_, fun k hk1 hk2 => h7 k (by simp only at hk1; omega) hk2⟩, by simp only; omega, ?_⟩
            · simp only [posL_succ hj, if_pos g3, List.append_nil]; exact h5
            · simp only [posL_succ hj, if_pos g3, List.append_nil]; exact h6
            · rw [wrap_i (n := (j : Int) + 1) (by omega) (by omega)]
              exact Weak.keep (by repeat (first | refine TmLe.cons rfl rfl ?_ | refine TmLe.cons (by simp [upd, *]) rfl ?_ | exact TmLe.nil)) (by repeat (first | refine KLe.cons (by omega) (by first | rfl | (simp [upd, *]; done) | (simp [joinK, upd, addN, ho.ren]; done)) (by first | rfl | exact IMap.bel (by assumption) | exact intC_bel) ?_ | exact KLe.nil)) (by first | omega | exact Nat.le_refl _ | (dsimp only; omega)) (by first | omega | exact Nat.le_refl _ | (dsimp only; omega))
        · have hj : j = l.length := by simp at g2; omega
          subst hj
          rw [List.take_length] at h5 h6
          simp only [go_sem, s76_1, evSlice, boundsOf, evClear, intC_len, Int.toNat_natCast, ↓reduceIte, reduceCtorEq, Nat.reduceEqDiff, Nat.reduceAdd, Nat.reduceSub, Nat.reduceMul, Nat.reduceLT, Nat.reduceLeDiff, Int.reduceToNat]
          have er : List.take i (intC cur) ++ List.replicate (l.length - i) (List.replicate 1 C.any) ++ List.drop (i + (l.length - i)) (intC cur) = intC (posL l) ++ List.replicate (l.length - i) [C.any] := by
            have e1 : List.take i (intC cur) = intC (posL l) := by rw [← h6]; simp [intC, List.map_take]
            have e2 : List.drop (i + (l.length - i)) (intC cur) = [] := List.drop_eq_nil_of_le (by rw [intC_len]; omega)
            rw [e1, e2, List.append_nil]; rfl
          rw [er]
          refine ⟨by omega, by omega, by omega, _, upd emp 0 (.row v 1 (intC (posL l) ++ List.replicate (l.length - i) [.any])), 1, _, Back.keep (Nat.le_refl _) rfl (fun k o hk => ?_), l.length - i, by rw [← h5]; rfl, rfl, rfl⟩
          unfold upd at hk
          split at hk
          · cases hk
            subst_vars
            refine ⟨by omega, ?_, rfl⟩
            have := intC_bel (l := posL l) (v := v) (n := 1) (N := 1)
            simp only [AObj.below, List.all_append, Bool.and_eq_true] at this ⊢
            refine ⟨this, ?_⟩
            simp [C.below]
          · cases hk

/-- The caller's last object, as a callee gets it. -/
theorem upd_join {N : Nat} {K : KMap} {o : AObj} (o' : AObj) (ho : o'.ren (addN N) = o) (h : ∀ i, N < i → K i = none) : upd K N o = joinK N K (upd emp 0 o') := by
  funext i
  unfold upd joinK
  by_cases e : i = N
  · subst e
    simp [upd, ho]
  · by_cases e2 : i < N
    · simp [e, e2]
    · have e3 : ¬ i - N = 0 := by omega
      simp only [if_neg e, if_neg e2]
      rw [h i (by omega)]
      simp [e3, emp]

/-- The places beside a cell, one after the other. -/
def sideL (f : FloorD) (c : Int) : List Int := [cellF f (xF f c + 1) (yF f c) (zF f c), cellF f (xF f c) (yF f c + 1) (zF f c), cellF f (xF f c - 1) (yF f c) (zF f c), cellF f (xF f c) (yF f c - 1) (zF f c)]

theorem f45 (h : FloorOk s.floor) (c : Int) : Spec Try.prog 45 [.v (.agg (encSite s)), tI c] emp 0
    fun d K N => ∃ t, d = tC (.own 0 0 0 (posL (sideL s.floor c)).length) ∧ K = upd emp 0 (.row 0 1 (intC (posL (sideL s.floor c)) ++ List.replicate t [.any])) ∧ N = 1 := by
  obtain ⟨b1, b2, b3⟩ := xF_b h c
  have := h.w2; have := h.h2
  refine Spec.of_awp hm Try.func45 s45_ok (by simp [s45]) ?_
  simp only [go_sem, s45, encSite, ↓reduceIte, reduceCtorEq, Nat.reduceEqDiff, Nat.reduceAdd, Nat.reduceSub, Nat.reduceMul, Nat.reduceLT, Nat.reduceLeDiff, Int.reduceToNat]
  refine Pure.callS (f74 h c) rfl ?_
  simp only [go_sem, s45_8, s45_7, encSite, ↓reduceIte, reduceCtorEq, Nat.reduceEqDiff, Nat.reduceAdd, Nat.reduceSub, Nat.reduceMul, Nat.reduceLT, Nat.reduceLeDiff, Int.reduceToNat]
  refine Pure.callS (f75 h _ _ _) rfl ?_
  simp only [go_sem, s45_6, ↓reduceIte, reduceCtorEq, Nat.reduceEqDiff, Nat.reduceAdd, Nat.reduceSub, Nat.reduceMul, Nat.reduceLT, Nat.reduceLeDiff, Int.reduceToNat]
  refine Pure.callS (f75 h _ _ _) rfl ?_
  simp only [go_sem, s45_5, ↓reduceIte, reduceCtorEq, Nat.reduceEqDiff, Nat.reduceAdd, Nat.reduceSub, Nat.reduceMul, Nat.reduceLT, Nat.reduceLeDiff, Int.reduceToNat]
  refine Pure.callS (f75 h _ _ _) rfl ?_
  simp only [go_sem, s45_4, ↓reduceIte, reduceCtorEq, Nat.reduceEqDiff, Nat.reduceAdd, Nat.reduceSub, Nat.reduceMul, Nat.reduceLT, Nat.reduceLeDiff, Int.reduceToNat]
  refine Pure.callS (f75 h _ _ _) rfl ?_
  simp only [go_sem, s45_3, s45_2, rowsOf, ↓reduceIte, reduceCtorEq, Nat.reduceEqDiff, Nat.reduceAdd, Nat.reduceSub, Nat.reduceMul, Nat.reduceLT, Nat.reduceLeDiff, Int.reduceToNat]
  rw [wrap_i (n := xF s.floor c + 1) (by omega) (by omega), wrap_i (n := yF s.floor c + 1) (by omega) (by omega), wrap_i (n := xF s.floor c - 1) (by omega) (by omega), wrap_i (n := yF s.floor c - 1) (by omega) (by omega)]
  rw [upd_join (N := 1) (.row 0 1 (intC (sideL s.floor c))) (by rw [intC_ren]; rfl) (fun i hi => by rw [upd_ne _ _ (by omega)]; rfl)]
  refine Spec.callShift (f76 (sideL s.floor c) 0 (by simp [sideL])) (fun i o hk => ?_) rfl (fun a ha => ?_) ?_
  · unfold upd at hk
    split at hk
    · cases hk; exact ⟨by omega, intC_bel⟩
    · cases hk
  · simp only [List.mem_cons, List.not_mem_nil, or_false] at ha
    rcases ha with rfl | rfl <;> rfl
  · rintro d K1 N1 ⟨t, rfl, rfl, rfl⟩ _
    refine ⟨(fun h => by cases h), ?_⟩
    simp only [go_sem, s45_1, T.ren, V.ren, C.ren, addN, ↓reduceIte, reduceCtorEq, Nat.reduceEqDiff, Nat.reduceAdd, Nat.reduceSub, Nat.reduceMul, Nat.reduceLT, Nat.reduceLeDiff, Int.reduceToNat]
    refine ⟨_, upd emp 0 (.row 0 1 (intC (posL (sideL s.floor c)) ++ List.replicate t [.any])), 1, _, Back.list [1] _ (by simp) (fun k o hk => ?_) rfl rfl, t, rfl, rfl, rfl⟩
    unfold upd at hk
    split at hk
    · cases hk
      subst_vars
      have hb := intC_bel (l := posL (sideL s.floor c)) (v := 0) (n := 1) (N := 1)
      have hr : ∀ ρ, (AObj.row 0 1 (intC (posL (sideL s.floor c)) ++ List.replicate t [.any])).ren ρ = .row 0 1 (intC (posL (sideL s.floor c)) ++ List.replicate t [.any]) := fun ρ => by
        have := intC_ren (l := posL (sideL s.floor c)) (v := 0) (n := 1) (ρ := ρ)
        simp only [AObj.ren, List.map_append, AObj.row.injEq, true_and] at this ⊢
        rw [this]
        simp [C.ren]
      refine ⟨by simp, ?_, ?_⟩
      · simp only [AObj.below, List.all_append, Bool.and_eq_true] at hb ⊢
        exact ⟨hb, by simp [C.below]⟩
      · rw [hr]
        simp [joinK, upd, addN, hr]
    · cases hk
end Go.Proofs.Ytcocbifjjafknaa.AL

/- Which shelves disturb each other: plain. -/
set_option linter.unusedSimpArgs false
set_option linter.unusedVariables false
namespace Go.Proofs.Ytcocbifjjafknaa.AL
open Go
variable {s : SiteD} {st : StateD}

theorem idxF_spec (p : Nat → Bool) (n : Nat) : (idxF p n = -1 ∧ ∀ j, j < n → p j = false) ∨ ∃ i, i < n ∧ p i = true ∧ (∀ j, j < i → p j = false) ∧ idxF p n = i := by
  unfold idxF
  cases h : (List.range n).find? p with
  | none =>
    rw [List.find?_range_eq_none] at h
    exact .inl ⟨rfl, fun j hj => by simpa using h j hj⟩
  | some i =>
    rw [List.find?_range_eq_some] at h
    exact .inr ⟨i, by simpa using h.2.1, h.1, fun j hj => by simpa using h.2.2 j hj, rfl⟩

theorem idxF_congr {p q : Nat → Bool} {n : Nat} (h : ∀ j, j < n → p j = q j) : idxF p n = idxF q n := by
  rcases idxF_spec p n with ⟨h1, h2⟩ | ⟨i, h1, h2, h3, h4⟩
  · rw [h1, idxF_none (fun j hj => by rw [← h j hj]; exact h2 j hj)]
  · rw [h4, idxF_hit h1 (by rw [← h i h1]; exact h2) (fun j hj => by rw [← h j (by omega)]; exact h3 j hj)]

theorem idxF_add {p : Nat → Bool} {n k : Nat} (hk : k < n) (b : Bool) : idxF (fun q => p q || (decide (q = k) && b)) n = if b = true ∧ (idxF p n < 0 ∨ (k : Int) < idxF p n) then (k : Int) else idxF p n := by
  rcases idxF_spec p n with ⟨h1, h2⟩ | ⟨i, h1, h2, h3, h4⟩
  · rw [h1]
    cases b with
    | true =>
      rw [if_pos (by simp)]
      exact idxF_hit hk (by simp) (fun j hj => by simp [h2 j (by omega)]; omega)
    | false =>
      rw [if_neg (by simp)]
      exact idxF_none (fun j hj => by simp [h2 j hj])
  · rw [h4]
    by_cases c : b = true ∧ ((i : Int) < 0 ∨ (k : Int) < i)
    · rw [if_pos c]
      obtain ⟨rfl, c⟩ := c
      exact idxF_hit hk (by simp) (fun j hj => by simp [h3 j (by omega)]; omega)
    · rw [if_neg c]
      refine idxF_hit h1 (by simp [h2]) (fun j hj => ?_)
      rw [h3 j hj]
      cases b with
      | false => simp
      | true =>
        have : ¬ j = k := fun e => c ⟨rfl, .inr (by omega)⟩
        simp [this]

/-- A shelf that has a class and stands. -/
def actF (s : SiteD) (st : StateD) (i : Nat) : Bool := decide (classF s i ≠ ⟨#[]⟩) && decide (carriedF st i < 0)
/-- The classes of two shelves are apart. -/
def clsF (s : SiteD) (i k : Nat) : Bool := pairF s s.aparts.length (classF s i) (classF s k)
def sideOf (s : SiteD) (st : StateD) (i : Nat) : List Int := posL (sideL s.floor (shelfAt st i))
def badF (s : SiteD) (st : StateD) (i k : Nat) : Bool := (actF s st k && decide (shelfAt st k ∈ sideOf s st i)) && (decide (i < k) && clsF s i k)
def bestF (s : SiteD) (st : StateD) (i : Nat) : Int := if actF s st i = true then idxF (badF s st i) st.shelves.length else -1
def hitI (s : SiteD) (st : StateD) : Int := idxF (fun i => decide (0 ≤ bestF s st i)) st.shelves.length
def apA (s : SiteD) (st : StateD) : Int := if 0 ≤ hitI s st then hitI s st else 0
def apB (s : SiteD) (st : StateD) : Int := if 0 ≤ hitI s st then bestF s st (hitI s st).toNat else 0
def apOk (s : SiteD) (st : StateD) : Bool := decide (0 ≤ hitI s st)

/-- The first n shelves that count and stand at c. -/
def grp (s : SiteD) (st : StateD) (n : Nat) (c : Int) : List Int := ((List.range n).filter fun i => actF s st i && decide (shelfAt st i = c)).map fun i : Nat => (i : Int)
theorem grp_succ {n : Nat} {c : Int} : grp s st (n + 1) c = grp s st n c ++ (if actF s st n = true ∧ shelfAt st n = c then [(n : Int)] else []) := by
  unfold grp
  rw [List.range_succ, List.filter_append, List.map_append]
  congr 1
  by_cases h : actF s st n = true ∧ shelfAt st n = c
  · rw [if_pos h]; simp [h.1, h.2]
  · rw [if_neg h]
    have : (actF s st n && decide (shelfAt st n = c)) = false := by
      cases h2 : actF s st n with
      | false => rfl
      | true => simp; exact fun e => h ⟨h2, e⟩
    simp [this]
theorem grp_len {n : Nat} {c : Int} : (grp s st n c).length ≤ n := by
  unfold grp
  rw [List.length_map]
  exact Nat.le_trans (List.length_filter_le _ _) (by simp)
theorem grp_mem {n : Nat} {c : Int} {k : Int} : k ∈ grp s st n c ↔ ∃ i : Nat, i < n ∧ actF s st i = true ∧ shelfAt st i = c ∧ k = i := by
  unfold grp
  simp only [List.mem_map, List.mem_filter, List.mem_range, Bool.and_eq_true, decide_eq_true_eq]
  constructor
  · rintro ⟨i, ⟨h1, h2, h3⟩, rfl⟩; exact ⟨i, h1, h2, h3, rfl⟩
  · rintro ⟨i, h1, h2, h3, rfl⟩; exact ⟨i, ⟨h1, h2, h3⟩, rfl⟩

/-- The map holds each group in an own row. -/
structure Gr (s : SiteD) (st : StateD) (n : Nat) (K : KMap) (N : Nat) (es : List (Value × V)) : Prop where
  keys : es.all (fun e => keyOk (.sc 6) e.1) = true
  no : ∀ c, mfind es (ki c) = none → grp s st n c = []
  yes : ∀ c d, mfind es (ki c) = some d → ∃ id v, d = .x (.own id v 0 (grp s st n c).length) ∧ 4 ≤ id ∧ id < N ∧ K id = some (.row v 1 (intC (grp s st n c)))
  inj : ∀ c c' id v v' l l', mfind es (ki c) = some (.x (.own id v 0 l)) → mfind es (ki c') = some (.x (.own id v' 0 l')) → c = c'

theorem Gr.nil {K : KMap} {N : Nat} : Gr s st 0 K N [] := ⟨rfl, fun c _ => rfl, fun c d h => by simp [mfind] at h, fun c c' id v v' l l' h => by simp [mfind] at h⟩

theorem Gr.skip {n : Nat} {K : KMap} {N : Nat} {es : List (Value × V)} (h : Gr s st n K N es) (ha : ¬ actF s st n = true) : Gr s st (n + 1) K N es := by
  have e : ∀ c, grp s st (n + 1) c = grp s st n c := fun c => by rw [grp_succ, if_neg (fun h => ha h.1)]; simp
  exact ⟨h.keys, fun c hc => by rw [e]; exact h.no c hc, fun c d hd => by rw [e]; exact h.yes c d hd, h.inj⟩

theorem mfind_ki {es : List (Value × V)} (h : es.all (fun e => keyOk (.sc 6) e.1) = true) (m n : Int) (d : V) : mfind (mset es (ki m) d) (ki n) = if n = m then some d else mfind es (ki n) := by
  rw [mfind_mset (ki_ok m) (ki_ok n) es h, ki_eq]
  by_cases e : n = m <;> simp [e]

theorem Gr.step {n : Nat} {K K' : KMap} {N N' : Nat} {es : List (Value × V)} (h : Gr s st n K N es) (ha : actF s st n = true) {id v : Nat} (hid : 4 ≤ id) (hidN : id < N') (hN : N ≤ N')
    (hnew : N ≤ id ∨ ∃ v' l', mfind es (ki (shelfAt st n)) = some (.x (.own id v' 0 l'))) (hK : ∀ j, 4 ≤ j → j < N → j ≠ id → K' j = K j) (hrow : K' id = some (.row v 1 (intC (grp s st n (shelfAt st n) ++ [(n : Int)])))) :
    Gr s st (n + 1) K' N' (mset es (ki (shelfAt st n)) (.x (.own id v 0 ((grp s st n (shelfAt st n)).length + 1)))) := by
  have e1 : grp s st (n + 1) (shelfAt st n) = grp s st n (shelfAt st n) ++ [(n : Int)] := by rw [grp_succ, if_pos ⟨ha, rfl⟩]
  have e2 : ∀ c, c ≠ shelfAt st n → grp s st (n + 1) c = grp s st n c := fun c hc => by rw [grp_succ, if_neg (fun h => hc h.2.symm)]; simp
  have old : ∀ c d, c ≠ shelfAt st n → mfind es (ki c) = some d → ∃ id' v', d = .x (.own id' v' 0 (grp s st n c).length) ∧ 4 ≤ id' ∧ id' < N ∧ id' ≠ id ∧ K id' = some (.row v' 1 (intC (grp s st n c))) := fun c d hc hd => by
    obtain ⟨id', v', rfl, h1, h2, h3⟩ := h.yes c d hd
    refine ⟨id', v', rfl, h1, h2, ?_, h3⟩
    rcases hnew with hnew | ⟨v2, l2, hnew⟩
    · omega
    · intro e
      subst e
      exact hc (h.inj c _ _ _ _ _ _ hd hnew)
  refine ⟨all_mset (ki_ok _) _ h.keys, fun c hc => ?_, fun c d hd => ?_, fun c c' i v1 v2 l1 l2 h1 h2 => ?_⟩
  · rw [mfind_ki h.keys] at hc
    split at hc
    · cases hc
    · rename_i hne; rw [e2 c hne]; exact h.no c hc
  · rw [mfind_ki h.keys] at hd
    split at hd
    · rename_i he
      cases hd
      subst he
      exact ⟨id, v, by rw [e1]; simp, hid, hidN, by rw [e1]; exact hrow⟩
    · rename_i hne
      obtain ⟨id', v', rfl, g1, g2, g3, g4⟩ := old c d hne hd
      exact ⟨id', v', by rw [e2 c hne], g1, by omega, by rw [e2 c hne, hK id' g1 g2 g3]; exact g4⟩
  · rw [mfind_ki h.keys] at h1 h2
    split at h1
    · rename_i he
      cases h1
      split at h2
      · rename_i he'; rw [he, he']
      · rename_i hne
        obtain ⟨id', v', hd, _, _, g3, _⟩ := old c' _ hne h2
        cases hd
        exact absurd rfl g3
    · rename_i hne
      split at h2
      · rename_i he'
        cases h2
        obtain ⟨id', v', hd, _, _, g3, _⟩ := old c _ hne h1
        cases hd
        exact absurd rfl g3
      · exact h.inj c c' i v1 v2 l1 l2 h1 h2

/-- What the search has found when it has seen the cells of S and the first m of a group. -/
def seenF (s : SiteD) (st : StateD) (i : Nat) (L l : List Int) (q : Nat) : Bool := ((actF s st q && decide (shelfAt st q ∈ L)) || decide ((q : Int) ∈ l)) && (decide (i < q) && clsF s i q)

theorem seen_step {i k n : Nat} {L l : List Int} (hk : k < n) : idxF (seenF s st i L (l ++ [(k : Int)])) n =
    if (i < k ∧ clsF s i k = true) ∧ (idxF (seenF s st i L l) n < 0 ∨ (k : Int) < idxF (seenF s st i L l) n) then (k : Int) else idxF (seenF s st i L l) n := by
  have e : ∀ q, q < n → seenF s st i L (l ++ [(k : Int)]) q = (seenF s st i L l q || (decide (q = k) && (decide (i < k) && clsF s i k))) := fun q _ => by
    unfold seenF
    have : decide ((q : Int) ∈ l ++ [(k : Int)]) = (decide ((q : Int) ∈ l) || decide (q = k)) := by
      simp only [List.mem_append, List.mem_singleton, Bool.decide_or, Int.natCast_inj]
    rw [this]
    by_cases e : q = k
    · subst e
      cases (actF s st q && decide (shelfAt st q ∈ L)) <;> cases decide ((q : Int) ∈ l) <;> simp
    · simp [e]
  rw [idxF_congr e, idxF_add hk]
  simp

theorem seen_group {i n : Nat} {L : List Int} {c : Int} : idxF (seenF s st i L (grp s st n c)) n = idxF (seenF s st i (L ++ [c]) []) n := by
  refine idxF_congr fun q hq => ?_
  unfold seenF
  have : decide ((q : Int) ∈ grp s st n c) = (actF s st q && decide (shelfAt st q = c)) := by
    rw [Bool.eq_iff_iff]
    simp only [decide_eq_true_eq, grp_mem, Bool.and_eq_true]
    constructor
    · rintro ⟨j, h1, h2, h3, h4⟩
      have : q = j := by omega
      subst this
      exact ⟨h2, h3⟩
    · rintro ⟨h1, h2⟩; exact ⟨q, hq, h1, h2, rfl⟩
  rw [this]
  cases actF s st q <;> simp

theorem seen_all {i n : Nat} : idxF (seenF s st i (sideOf s st i) []) n = idxF (badF s st i) n := idxF_congr fun q _ => by
  unfold seenF badF
  simp
end Go.Proofs.Ytcocbifjjafknaa.AL

/- Which shelves disturb each other: the walk. -/
set_option linter.unusedSimpArgs false
set_option linter.unusedVariables false
namespace Go.Proofs.Ytcocbifjjafknaa.AL
open Go
variable {s : SiteD} {st : StateD}

abbrev tAp (a b : Int) (ok : Bool) : T := .tup [.x (cV (.int .i64 a)), .x (cV (.int .i64 b)), .x (cV (.bool ok))]

/-- What the search leans on. -/
structure ApK (s : SiteD) (st : StateD) (es0 : List (Value × V)) (K : KMap) : Prop where
  k0 : K 0 = some (.row 0 9 [encSite s])
  k1 : K 1 = some (.row 0 6 [encState st])
  k2 : K 2 = some (.map es0)

structure ApI (s : SiteD) (st : StateD) (es0 : List (Value × V)) (x : Nat × KMap × Nat × List (Value × V)) : Prop where
  le : x.1 ≤ st.shelves.length
  n4 : 4 ≤ x.2.2.1
  base : ApK s st es0 x.2.1
  k3 : x.2.1 3 = some (.map x.2.2.2)
  gr : Gr s st x.1 x.2.1 x.2.2.1 x.2.2.2

def ap1 (st : StateD) (x : Nat × KMap × Nat × List (Value × V)) : St := ⟨upd (upd (upd (upd (upd (upd (upd emp 2 (tC (.ptr 0 0 0 0))) 3 (tC (.ptr 1 0 0 0))) 7 (tC (.map 2))) 8 (tC (.map 3))) 22 (tC (.r (.rd 1 (ints st.shelves))))) 23 (tI st.shelves.length)) 24 (tI x.1), x.2.1, x.2.2.1⟩

theorem cut7 {N0 N : Nat} {tm : Nat → Option T} {K : KMap} {d2 d3 d7 d8 d22 d23 d24 : T} {a b c : Nat} (h2 : tm 2 = some d2) (h3 : tm 3 = some d3) (h7 : tm 7 = some d7) (h8 : tm 8 = some d8) (h22 : tm a = some d22) (h23 : tm b = some d23) (h24 : tm c = some d24) :
    Weak N0 ⟨tm, K, N⟩ ⟨upd (upd (upd (upd (upd (upd (upd emp 2 d2) 3 d3) 7 d7) 8 d8) a d22) b d23) c d24, K, N⟩ := by
  refine Weak.cutTm fun t d ht => ?_
  simp only [upd, emp] at ht
  repeat (split at ht; · rename_i e; subst e; cases ht; assumption)
  cases ht

theorem f10a (hf : FloorOk s.floor) (hr : st.robots.length ≤ 140737488355328) (hl : st.shelves.length ≤ 1000000) {es0 : List (Value × V)} (hm0 : MapOk s s.aparts.length es0) {Q : XE → St → Prop}
    (hQ : ∀ K N es, ApI s st es0 (st.shelves.length, K, N, es) → Q (.exit 0) ⟨upd (ap1 st (st.shelves.length, K, N, es)).tm 25 (tB (decide ((st.shelves.length : Int) < st.shelves.length))), K, N⟩) :
    ∀ x, ApI s st es0 x → awp Try.prog 0 s10_36 (ap1 st x) (roundQ 0 (ap1 st) (fun x => st.shelves.length - x.1) (ApI s st es0) x Q) := by
  rintro ⟨i, K, N, es⟩ ⟨hi, h4, ⟨hk0, hk1, hk2⟩, hk3, hg⟩
  simp only at hi h4 hk0 hk1 hk2 hk3 hg
  simp only [go_sem, s10_36, ap1, ↓reduceIte, reduceCtorEq, Nat.reduceEqDiff, Nat.reduceAdd, Nat.reduceSub, Nat.reduceMul, Nat.reduceLT, Nat.reduceLeDiff, Int.reduceToNat]
  refine twoQ_at (fun g => ?_) (fun g => ?_)
  · have hi' : i < st.shelves.length := by simpa using g
    have hw : IntKind.i64.wrap ((i : Int) + 1) = ((i + 1 : Nat) : Int) := wrap_i (by omega) (by omega)
    have q1 : ¬ N = 2 := by omega
    have q2 : ¬ 3 = N := by omega
    have q3 : ¬ N + 1 = 3 := by omega
    have q4 : ¬ 3 = N + 1 := by omega
    simp only [go_sem, s10_35, hk0, hk1, ints_len, ints_at hi', Int.toNat_natCast, ↓reduceIte, reduceCtorEq, Nat.reduceEqDiff, Nat.reduceAdd, Nat.reduceSub, Nat.reduceMul, Nat.reduceLT, Nat.reduceLeDiff, Int.reduceToNat]
    refine ⟨⟨by omega, by omega⟩, Pure.callS (f12 (s := s) i) rfl ?_⟩
    simp only [go_sem, s10_34, hk0, hk1, ↓reduceIte, reduceCtorEq, Nat.reduceEqDiff, Nat.reduceAdd, Nat.reduceSub, Nat.reduceMul, Nat.reduceLT, Nat.reduceLeDiff, Int.reduceToNat]
    refine guardQ_at (fun g1 => ?_) (fun g1 => ?_)
    · simp only [go_sem, s10_33, ↓reduceIte, reduceCtorEq, Nat.reduceEqDiff, Nat.reduceAdd, Nat.reduceSub, Nat.reduceMul, Nat.reduceLT, Nat.reduceLeDiff, Int.reduceToNat]
      refine Pure.callS (f14 st i hr) rfl ?_
      simp only [go_sem, s10_32, s10_31, ↓reduceIte, reduceCtorEq, Nat.reduceEqDiff, Nat.reduceAdd, Nat.reduceSub, Nat.reduceMul, Nat.reduceLT, Nat.reduceLeDiff, Int.reduceToNat]
      refine twoQ_at (fun g2 => ?_) (fun g2 => ?_)
      · have ha : actF s st i = true := by rw [actF, g1, g2]; rfl
        have hwi : (grp s st i (shelfAt st i)).length ≤ i := grp_len
        cases hm : mfind es (ki (shelfAt st i)) with
        | none =>
          have hm' : mfind es (Value.int .i64 (st.shelves.getD i 0)) = none := hm
          simp only [go_sem, s10_30, s10_29, hk3, ki_ok', hg.keys, hm', Option.getD_none, evAppend, srcRows, rowsOf, q1, q2, q3, q4, ↓reduceIte, reduceCtorEq, Nat.reduceEqDiff, Nat.reduceAdd, Nat.reduceSub, Nat.reduceMul, Nat.reduceLT, Nat.reduceLeDiff, Int.reduceToNat]
          have e0 := hg.no _ hm
          have hst := Gr.step hg ha (id := N + 1) (v := 0) (K' := upd (upd (upd K N (.row 0 1 (intC [(i : Int)]))) (N + 1) (.row 0 1 (intC [(i : Int)]))) 3 (.map (mset es (ki (shelfAt st i)) (.x (.own (N + 1) 0 0 1))))) (N' := N + 1 + 1) (by omega) (by omega) (by omega) (.inl (by omega))
            (fun j k1 k2 k3 => by rw [upd_ne _ _ (by omega), upd_ne _ _ k3, upd_ne _ _ (by omega)]) (by rw [upd_ne _ _ (by omega), upd_self, e0]; rfl)
          rw [e0] at hst
          refine ⟨(i + 1, upd (upd (upd K N (.row 0 1 (intC [(i : Int)]))) (N + 1) (.row 0 1 (intC [(i : Int)]))) 3 (.map (mset es (ki (shelfAt st i)) (.x (.own (N + 1) 0 0 1)))), N + 1 + 1, mset es (ki (shelfAt st i)) (.x (.own (N + 1) 0 0 1))), ⟨by simp only; omega, by simp only; omega, ⟨?_, ?_, ?_⟩, ?_, hst⟩, by simp only; omega, ?_⟩
          rotate_left 3
          · dsimp only; exact upd_self _ _ _
          rotate_left 1
          · dsimp only; rw [upd_ne _ _ (by omega), upd_ne _ _ (by omega), upd_ne _ _ (by omega)]; exact hk0
          · dsimp only; rw [upd_ne _ _ (by omega), upd_ne _ _ (by omega), upd_ne _ _ (by omega)]; exact hk1
          · dsimp only; rw [upd_ne _ _ (by omega), upd_ne _ _ (by omega), upd_ne _ _ (by omega)]; exact hk2
          · rw [hw]
            exact cut7 rfl rfl rfl rfl rfl rfl rfl
        | some d =>
          obtain ⟨id, v, rfl, j1, j2, j3⟩ := hg.yes _ _ hm
          have hm' : mfind es (Value.int .i64 (st.shelves.getD i 0)) = some (.x (.own id v 0 (grp s st i (shelfAt st i)).length)) := hm
          have hne : ¬ id = N := by omega
          have hne3 : ¬ 3 = id := by omega
          simp only [go_sem, s10_30, s10_29, hk3, ki_ok', hg.keys, hm', Option.getD_some, evAppend, srcRows, rowsOf, hne, hne3, q1, q2, q3, q4, j3, intC_len, ↓reduceIte, reduceCtorEq, Nat.reduceEqDiff, Nat.reduceAdd, Nat.reduceSub, Nat.reduceMul, Nat.reduceLT, Nat.reduceLeDiff, Int.reduceToNat]
          have hst := Gr.step hg ha (id := id) (v := v + 1) (K' := upd (upd (upd K N (.row 0 1 (intC [(i : Int)]))) id (.row (v + 1) 1 (intC (grp s st i (shelfAt st i) ++ [(i : Int)])))) 3 (.map (mset es (ki (shelfAt st i)) (.x (.own id (v + 1) 0 ((grp s st i (shelfAt st i)).length + 1)))))) (N' := N + 1) j1 (by omega) (by omega) (.inr ⟨_, _, hm⟩)
            (fun j k1 k2 k3 => by rw [upd_ne _ _ (by omega), upd_ne _ _ k3, upd_ne _ _ (by omega)]) (by rw [upd_ne _ _ (by omega), upd_self])
          rw [intC_app]
          refine ⟨by omega, (i + 1, upd (upd (upd K N (.row 0 1 (intC [(i : Int)]))) id (.row (v + 1) 1 (intC (grp s st i (shelfAt st i) ++ [(i : Int)])))) 3 (.map (mset es (ki (shelfAt st i)) (.x (.own id (v + 1) 0 ((grp s st i (shelfAt st i)).length + 1))))), N + 1, mset es (ki (shelfAt st i)) (.x (.own id (v + 1) 0 ((grp s st i (shelfAt st i)).length + 1)))), ⟨by simp only; omega, by simp only; omega, ⟨?_, ?_, ?_⟩, ?_, hst⟩, by simp only; omega, ?_⟩
          rotate_left 3
          · dsimp only; exact upd_self _ _ _
          rotate_left 1
          · dsimp only; rw [upd_ne _ _ (by omega), upd_ne _ _ (by omega), upd_ne _ _ (by omega)]; exact hk0
          · dsimp only; rw [upd_ne _ _ (by omega), upd_ne _ _ (by omega), upd_ne _ _ (by omega)]; exact hk1
          · dsimp only; rw [upd_ne _ _ (by omega), upd_ne _ _ (by omega), upd_ne _ _ (by omega)]; exact hk2
          · rw [hw]
            exact cut7 rfl rfl rfl rfl rfl rfl rfl
      · have ha : ¬ actF s st i = true := by rw [actF, g2]; simp
        simp only [go_sem, s10_29, ↓reduceIte, reduceCtorEq, Nat.reduceEqDiff, Nat.reduceAdd, Nat.reduceSub, Nat.reduceMul, Nat.reduceLT, Nat.reduceLeDiff, Int.reduceToNat]
        refine ⟨(i + 1, K, N, es), ⟨by simp only; omega, h4, ⟨hk0, hk1, hk2⟩, hk3, hg.skip ha⟩, by simp only; omega, ?_⟩
        rw [hw]
        exact cut7 rfl rfl rfl rfl rfl rfl rfl
    · have ha : ¬ actF s st i = true := by
        simp only [Bool.not_true] at g1
        rw [actF, g1]; simp
      simp only [go_sem, s10_33, s10_32, s10_31, s10_29, ↓reduceIte, reduceCtorEq, Nat.reduceEqDiff, Nat.reduceAdd, Nat.reduceSub, Nat.reduceMul, Nat.reduceLT, Nat.reduceLeDiff, Int.reduceToNat]
      refine ⟨(i + 1, K, N, es), ⟨by simp only; omega, h4, ⟨hk0, hk1, hk2⟩, hk3, hg.skip ha⟩, by simp only; omega, ?_⟩
      rw [hw]
      exact cut7 rfl rfl rfl rfl rfl rfl rfl
  · have hi' : i = st.shelves.length := by simp at g; omega
    subst hi'
    exact hQ K N es ⟨Nat.le_refl _, h4, ⟨hk0, hk1, hk2⟩, hk3, hg⟩
end Go.Proofs.Ytcocbifjjafknaa.AL

/- Which shelves disturb each other: the second loop. -/
set_option linter.unusedSimpArgs false
set_option linter.unusedVariables false
namespace Go.Proofs.Ytcocbifjjafknaa.AL
open Go
variable {s : SiteD} {st : StateD}

def TmCut (tm' tm : Nat → Option T) : Prop := ∀ t d, tm' t = some d → tm t = some d
theorem TmCut.nil {tm : Nat → Option T} : TmCut emp tm := fun t d h => by cases h
theorem TmCut.cons {tm' tm : Nat → Option T} {t : Nat} {d : T} (h1 : tm t = some d) (h : TmCut tm' tm) : TmCut (upd tm' t d) tm := fun k e hk => by
  unfold upd at hk
  split at hk
  · rename_i e2; subst e2; cases hk; exact h1
  · exact h k e hk

theorem TmCut.skip {tm' tm : Nat → Option T} {t : Nat} {d : T} (h : TmCut tm' tm) (h1 : tm' t = none) : TmCut tm' (upd tm t d) := fun k e hk => by
  unfold upd
  split
  · rename_i e2; subst e2; rw [h1] at hk; cases hk
  · exact h k e hk
theorem TmCut.get {tm' tm : Nat → Option T} {t : Nat} {d : T} (h : TmCut tm' tm) (h1 : tm' t = some d) : tm t = some d := h t d h1

/-- The innermost loop: the shelves of one group. -/
def tm4 (i n w lenL j id v len : Nat) (t49 : T) : Nat → Option T :=
  upd (upd (upd (upd (upd (upd (upd (upd (upd (upd (upd (upd (upd emp 2 (tC (.ptr 0 0 0 0))) 3 (tC (.ptr 1 0 0 0))) 7 (tC (.map 2))) 8 (tC (.map 3))) 11 (tI i)) 49 t49) 50 (tI n)) 51 (tI i)) 68 (tC (.own w 0 0 lenL))) 69 (tI lenL)) 70 (tI j)) 76 (tC (.own id v 0 len))) 77 (tI len)
def ap4 (i n w lenL j id v len : Nat) (t49 : T) (KK : KMap) (NN : Nat) (x : Nat × Int) : St := ⟨upd (upd (tm4 i n w lenL j id v len t49) 13 (tI x.2)) 78 (tI x.1), KK, NN⟩

theorem f10d {i n w lenL j id v : Nat} {t49 : T} {KK : KMap} {NN : Nat} {es0 : List (Value × V)} {L l : List Int} (hm0 : MapOk s s.aparts.length es0) (h0 : KK 0 = some (.row 0 9 [encSite s])) (h2 : KK 2 = some (.map es0)) (hrow : KK id = some (.row v 1 (intC l)))
    (hl : l.length ≤ 1000000) (hn : n ≤ 1000000) (hel : ∀ m, m < l.length → ∃ k : Nat, k < n ∧ l.getD m 0 = k) {Q : XE → St → Prop}
    (hQ : Q (.exit 6) ⟨upd (ap4 i n w lenL j id v l.length t49 KK NN (l.length, idxF (seenF s st i L l) n)).tm 79 (tB (decide ((l.length : Int) < l.length))), KK, NN⟩) :
    ∀ x : Nat × Int, (x.1 ≤ l.length ∧ x.2 = idxF (seenF s st i L (l.take x.1)) n) →
      awp Try.prog 0 s10_16 (ap4 i n w lenL j id v l.length t49 KK NN x) (roundQ 0 (ap4 i n w lenL j id v l.length t49 KK NN) (fun x => l.length - x.1) (fun x => x.1 ≤ l.length ∧ x.2 = idxF (seenF s st i L (l.take x.1)) n) x Q) := by
  rintro ⟨m, b⟩ ⟨hm, hb⟩
  simp only at hm hb
  simp only [go_sem, s10_16, ap4, tm4, ↓reduceIte, reduceCtorEq, Nat.reduceEqDiff, Nat.reduceAdd, Nat.reduceSub, Nat.reduceMul, Nat.reduceLT, Nat.reduceLeDiff, Int.reduceToNat]
  refine twoQ_at (fun g => ?_) (fun g => ?_)
  · have hm' : m < l.length := by simpa using g
    obtain ⟨k, hk, hlk⟩ := hel m hm'
    have hw : IntKind.i64.wrap ((m : Int) + 1) = ((m + 1 : Nat) : Int) := wrap_i (by omega) (by omega)
    have htake : l.take (m + 1) = l.take m ++ [(k : Int)] := by
      rw [List.take_add_one]
      have : l[m]? = some (k : Int) := by rw [← hlk]; simp [hm']
      rw [this]; rfl
    have hstep := seen_step (s := s) (st := st) (i := i) (L := L) (l := l.take m) hk
    rw [← htake, ← hb] at hstep
    have hne : ∀ a b : ByteArray, keyOk (.st [1, 1]) (.agg #[.string a, .string b]) = true := pk_ok
    have hf : (mfind es0 (pk (classF s i) (classF s k))).getD (V.x (C.r (R.val (Value.bool false)))) = V.x (C.r (R.val (Value.bool (clsF s i k)))) := by
      rw [hm0.2.2]
      unfold clsF
      cases pairF s s.aparts.length (classF s i) (classF s k) <;> rfl
    have fin : ∀ {tm : Nat → Option T} {b' : Int}, b' = idxF (seenF s st i L (l.take (m + 1))) n → TmCut (tm4 i n w lenL j id v l.length t49) tm → tm 13 = some (tI b') → tm 78 = some (tI (m + 1 : Nat)) →
        ∃ y : Nat × Int, (y.1 ≤ l.length ∧ y.2 = idxF (seenF s st i L (l.take y.1)) n) ∧ l.length - y.1 < l.length - m ∧ Weak 0 ⟨tm, KK, NN⟩ (ap4 i n w lenL j id v l.length t49 KK NN y) := fun hb' hc h13 h78 =>
      ⟨(m + 1, _), ⟨by simp only; omega, hb'⟩, by simp only; omega, Weak.cutTm (TmCut.cons h78 (TmCut.cons h13 hc))⟩
    have skip : ∀ {tm : Nat → Option T}, ¬ ((i < k ∧ clsF s i k = true) ∧ (b < 0 ∨ (k : Int) < b)) → tm 104 = some (tB false) → TmCut (tm4 i n w lenL j id v l.length t49) tm → tm 13 = some (tI b) → tm 78 = some (tI m) →
        awp Try.prog 0 s10_8 ⟨tm, KK, NN⟩ (blockQ 7 (seqQ (fun s_2 => awp Try.prog 0 s10_6 s_2 (roundQ 0 (ap4 i n w lenL j id v l.length t49 KK NN) (fun x => l.length - x.1) (fun x => x.1 ≤ l.length ∧ x.2 = idxF (seenF s st i L (l.take x.1)) n) (m, b) Q))
          (roundQ 0 (ap4 i n w lenL j id v l.length t49 KK NN) (fun x => l.length - x.1) (fun x => x.1 ≤ l.length ∧ x.2 = idxF (seenF s st i L (l.take x.1)) n) (m, b) Q))) := by
      intro tm hno h104 hc h13 h78
      simp only [go_sem, s10_8, s10_6, h104, h78, ↓reduceIte, reduceCtorEq, Nat.reduceEqDiff, Nat.reduceAdd, Nat.reduceSub, Nat.reduceMul, Nat.reduceLT, Nat.reduceLeDiff, Int.reduceToNat]
      exact fin (by rw [hstep, if_neg hno]) (.skip (.skip hc rfl) rfl) h13 (by rw [← hw]; rfl)
    have main : i < k → (b < 0 ∨ (k : Int) < b) → ∀ {tm : Nat → Option T}, tm 94 = some (tB true) → tm 95 = some (tC (.map 2)) → tm 17 = some (tI k) → TmCut (tm4 i n w lenL j id v l.length t49) tm → tm 13 = some (tI b) → tm 78 = some (tI m) →
        AW Try.prog true s10_11 ⟨tm, KK, NN⟩ (fun s_1 => awp Try.prog 0 s10_8 s_1 (blockQ 7 (seqQ (fun s_2 => awp Try.prog 0 s10_6 s_2 (roundQ 0 (ap4 i n w lenL j id v l.length t49 KK NN) (fun x => l.length - x.1) (fun x => x.1 ≤ l.length ∧ x.2 = idxF (seenF s st i L (l.take x.1)) n) (m, b) Q))
          (roundQ 0 (ap4 i n w lenL j id v l.length t49 KK NN) (fun x => l.length - x.1) (fun x => x.1 ≤ l.length ∧ x.2 = idxF (seenF s st i L (l.take x.1)) n) (m, b) Q)))) := by
      intro hik hbk tm h94 h95 h17 hc h13 h78
      have c2 : tm 2 = some (tC (.ptr 0 0 0 0)) := hc.get rfl
      have c11 : tm 11 = some (tI i) := hc.get rfl
      simp only [go_sem, s10_11, h94, c2, c11, h17, h0, ↓reduceIte, reduceCtorEq, Nat.reduceEqDiff, Nat.reduceAdd, Nat.reduceSub, Nat.reduceMul, Nat.reduceLT, Nat.reduceLeDiff, Int.reduceToNat]
      refine Pure.callS (f12 (s := s) i) rfl ?_
      simp only [go_sem, s10_10, h94, c2, c11, h17, h0, ↓reduceIte, reduceCtorEq, Nat.reduceEqDiff, Nat.reduceAdd, Nat.reduceSub, Nat.reduceMul, Nat.reduceLT, Nat.reduceLeDiff, Int.reduceToNat]
      refine Pure.callS (f12 (s := s) k) rfl ?_
      simp only [go_sem, s10_9, h94, h95, h2, hne, hm0.1, hf, ↓reduceIte, reduceCtorEq, Nat.reduceEqDiff, Nat.reduceAdd, Nat.reduceSub, Nat.reduceMul, Nat.reduceLT, Nat.reduceLeDiff, Int.reduceToNat]
      cases hcl : clsF s i k with
      | true =>
        simp only [go_sem, s10_8, s10_7, s10_6, h17, h78, ↓reduceIte, reduceCtorEq, Nat.reduceEqDiff, Nat.reduceAdd, Nat.reduceSub, Nat.reduceMul, Nat.reduceLT, Nat.reduceLeDiff, Int.reduceToNat]
        refine fin (by rw [hstep, if_pos ⟨⟨hik, hcl⟩, hbk⟩]) ?_ rfl (by rw [← hw]; rfl)
        repeat (first | exact hc | refine TmCut.skip ?_ rfl)
      | false =>
        refine skip (by simp [hcl]) rfl ?_ h13 h78
        repeat (first | exact hc | refine TmCut.skip ?_ rfl)
    have base : TmCut (tm4 i n w lenL j id v l.length t49) (upd (upd (tm4 i n w lenL j id v l.length t49) 13 (tI b)) 78 (tI m)) := .skip (.skip (fun _ _ h => h) rfl) rfl
    simp only [go_sem, s10_15, evIaddr, evLoad, hrow, h0, h2, intC_len, intC_at hm', Int.toNat_natCast, hlk, hm0.1, hne, ↓reduceIte, reduceCtorEq, Nat.reduceEqDiff, Nat.reduceAdd, Nat.reduceSub, Nat.reduceMul, Nat.reduceLT, Nat.reduceLeDiff, Int.reduceToNat]
    refine ⟨⟨by omega, by omega, Nat.le_refl _⟩, hm', ?_⟩
    refine guardQ_at (fun g1 => ?_) (fun g1 => ?_)
    · simp only [decide_eq_true_eq] at g1
      simp only [go_sem, s10_14, ↓reduceIte, reduceCtorEq, Nat.reduceEqDiff, Nat.reduceAdd, Nat.reduceSub, Nat.reduceMul, Nat.reduceLT, Nat.reduceLeDiff, Int.reduceToNat]
      refine guardQ_at (fun g2 => ?_) (fun g2 => ?_)
      · simp only [decide_eq_false_iff_not] at g2
        simp only [go_sem, s10_13, s10_12, ↓reduceIte, reduceCtorEq, Nat.reduceEqDiff, Nat.reduceAdd, Nat.reduceSub, Nat.reduceMul, Nat.reduceLT, Nat.reduceLeDiff, Int.reduceToNat]
        refine guardQ_at (fun g3 => ?_) (fun g3 => ?_)
        · simp only [decide_eq_true_eq] at g3
          refine main (by omega) (.inr g3) rfl rfl rfl ?_ rfl rfl
          repeat (first | exact base | refine TmCut.skip ?_ rfl)
        · simp only [Bool.not_true, decide_eq_false_iff_not] at g3
          simp only [go_sem, s10_11, s10_10, s10_9, ↓reduceIte, reduceCtorEq, Nat.reduceEqDiff, Nat.reduceAdd, Nat.reduceSub, Nat.reduceMul, Nat.reduceLT, Nat.reduceLeDiff, Int.reduceToNat]
          refine skip (fun h => by rcases h.2 with h | h <;> omega) rfl ?_ rfl rfl
          repeat (first | exact base | refine TmCut.skip ?_ rfl)
      · simp only [Bool.not_false, decide_eq_true_eq] at g2
        simp only [go_sem, s10_13, s10_12, ↓reduceIte, reduceCtorEq, Nat.reduceEqDiff, Nat.reduceAdd, Nat.reduceSub, Nat.reduceMul, Nat.reduceLT, Nat.reduceLeDiff, Int.reduceToNat]
        refine main (by omega) (.inl g2) rfl rfl rfl ?_ rfl rfl
        repeat (first | exact base | refine TmCut.skip ?_ rfl)
    · simp only [Bool.not_true, decide_eq_false_iff_not] at g1
      simp only [go_sem, s10_14, s10_13, s10_12, s10_11, s10_10, s10_9, ↓reduceIte, reduceCtorEq, Nat.reduceEqDiff, Nat.reduceAdd, Nat.reduceSub, Nat.reduceMul, Nat.reduceLT, Nat.reduceLeDiff, Int.reduceToNat]
      refine skip (fun h => by omega) rfl ?_ rfl rfl
      repeat (first | exact base | refine TmCut.skip ?_ rfl)
  · have hm' : m = l.length := by simp at g; omega
    subst hm'
    rw [List.take_length] at hb
    subst hb
    exact hQ
end Go.Proofs.Ytcocbifjjafknaa.AL

/- Which shelves disturb each other: the cells beside one. -/
set_option linter.unusedSimpArgs false
set_option linter.unusedVariables false
namespace Go.Proofs.Ytcocbifjjafknaa.AL
open Go
variable {s : SiteD} {st : StateD}

def tm3 (i n w lenL : Nat) (t49 : T) : Nat → Option T :=
  upd (upd (upd (upd (upd (upd (upd (upd (upd (upd emp 2 (tC (.ptr 0 0 0 0))) 3 (tC (.ptr 1 0 0 0))) 7 (tC (.map 2))) 8 (tC (.map 3))) 11 (tI i)) 49 t49) 50 (tI n)) 51 (tI i)) 68 (tC (.own w 0 0 lenL))) 69 (tI lenL)
def ap3 (i n w lenL : Nat) (t49 : T) (KK : KMap) (NN : Nat) (x : Nat × Int) : St := ⟨upd (upd (tm3 i n w lenL t49) 13 (tI x.2)) 70 (tI x.1), KK, NN⟩

theorem intC_any_at {l : List Int} {t i : Nat} (h : i < l.length) : (intC l ++ List.replicate t [C.any]).getD i [] = [cV (.int .i64 (l.getD i 0))] := by
  rw [List.getD_eq_getElem?_getD, List.getElem?_append_left (by rw [intC_len]; exact h), ← List.getD_eq_getElem?_getD, intC_at h]

theorem getD_mem {l : List Int} {m : Nat} (h : m < l.length) : l.getD m 0 ∈ l := by
  rw [List.getD_eq_getElem?_getD, List.getElem?_eq_getElem h]; exact List.getElem_mem h

theorem f10c {i n w t : Nat} {t49 : T} {KK : KMap} {NN : Nat} {es0 es : List (Value × V)} {L : List Int} (hm0 : MapOk s s.aparts.length es0) (h0 : KK 0 = some (.row 0 9 [encSite s])) (h2 : KK 2 = some (.map es0)) (h3 : KK 3 = some (.map es)) (hg : Gr s st n KK NN es)
    (hrow : KK w = some (.row 0 1 (intC L ++ List.replicate t [.any]))) (hL : L.length ≤ 1000000) (hn : n ≤ 1000000) {Q : XE → St → Prop}
    (hQ : Q (.exit 4) ⟨upd (ap3 i n w L.length t49 KK NN (L.length, idxF (seenF s st i L []) n)).tm 71 (tB (decide ((L.length : Int) < L.length))), KK, NN⟩) :
    ∀ x : Nat × Int, (x.1 ≤ L.length ∧ x.2 = idxF (seenF s st i (L.take x.1) []) n) →
      awp Try.prog 0 s10_18 (ap3 i n w L.length t49 KK NN x) (roundQ 0 (ap3 i n w L.length t49 KK NN) (fun x => L.length - x.1) (fun x => x.1 ≤ L.length ∧ x.2 = idxF (seenF s st i (L.take x.1) []) n) x Q) := by
  rintro ⟨j, b⟩ ⟨hj, hb⟩
  simp only at hj hb
  simp only [go_sem, s10_18, ap3, tm3, ↓reduceIte, reduceCtorEq, Nat.reduceEqDiff, Nat.reduceAdd, Nat.reduceSub, Nat.reduceMul, Nat.reduceLT, Nat.reduceLeDiff, Int.reduceToNat]
  refine twoQ_at (fun g => ?_) (fun g => ?_)
  · have hj' : j < L.length := by simpa using g
    have hw : IntKind.i64.wrap ((j : Int) + 1) = ((j + 1 : Nat) : Int) := wrap_i (by omega) (by omega)
    have htake : L.take (j + 1) = L.take j ++ [L.getD j 0] := by
      rw [List.take_add_one]
      have : L[j]? = some (L.getD j 0) := by simp [hj']
      rw [this]; rfl
    have hstep := seen_group (s := s) (st := st) (i := i) (n := n) (L := L.take j) (c := L.getD j 0)
    rw [← htake] at hstep
    have fin : ∀ {tm : Nat → Option T} {b' : Int}, b' = idxF (seenF s st i (L.take j) (grp s st n (L.getD j 0))) n → TmCut (tm3 i n w L.length t49) tm → tm 13 = some (tI b') → tm 70 = some (tI j) →
        awp Try.prog 0 s10_5 ⟨tm, KK, NN⟩ (roundQ 0 (ap3 i n w L.length t49 KK NN) (fun x => L.length - x.1) (fun x => x.1 ≤ L.length ∧ x.2 = idxF (seenF s st i (L.take x.1) []) n) (j, b) Q) := by
      intro tm b' hb' hc h13 h70
      simp only [go_sem, s10_5, h70, ↓reduceIte, reduceCtorEq, Nat.reduceEqDiff, Nat.reduceAdd, Nat.reduceSub, Nat.reduceMul, Nat.reduceLT, Nat.reduceLeDiff, Int.reduceToNat]
      refine ⟨(j + 1, b'), ⟨by simp only; omega, by simp only; rw [hb', hstep]⟩, by simp only; omega, Weak.cutTm (TmCut.cons (by rw [← hw]; rfl) (TmCut.cons h13 (.skip (.skip hc rfl) rfl)))⟩
    have base : TmCut (tm3 i n w L.length t49) (upd (upd (tm3 i n w L.length t49) 13 (tI b)) 70 (tI j)) := .skip (.skip (fun _ _ h => h) rfl) rfl
    cases hm : mfind es (ki (L.getD j 0)) with
    | none =>
      have hm' : mfind es (Value.int .i64 (L.getD j 0)) = none := hm
      have e0 := hg.no _ hm
      simp only [go_sem, s10_17, evIaddr, evLoad, hrow, h3, intC_len, List.length_append, List.length_replicate, intC_any_at hj', Int.toNat_natCast, hg.keys, ki_ok', hm', Option.getD_none, ↓reduceIte, reduceCtorEq, Nat.reduceEqDiff, Nat.reduceAdd, Nat.reduceSub, Nat.reduceMul, Nat.reduceLT, Nat.reduceLeDiff, Int.reduceToNat]
      refine ⟨⟨by omega, by omega, by omega⟩, by omega, ?_⟩
      refine awp_loop (fun _ : Unit => ⟨upd (upd (upd (upd (tm3 i n w L.length t49) 13 (tI b)) 70 (tI j)) 78 (tI 0)) 77 (tI 0), KK, NN⟩) (fun _ => 0) (fun _ => True) () trivial ?_ ?_
      · refine Weak.cutTm (TmCut.cons rfl (TmCut.cons rfl (TmCut.cons rfl (TmCut.cons rfl ?_))))
        repeat (first | exact base | refine TmCut.skip ?_ rfl)
      · intro _ _
        simp only [go_sem, s10_16, ↓reduceIte, reduceCtorEq, Nat.reduceEqDiff, Nat.reduceAdd, Nat.reduceSub, Nat.reduceMul, Nat.reduceLT, Nat.reduceLeDiff, Int.reduceToNat]
        refine twoQ_at (fun h => by simp at h) (fun _ => ?_)
        refine fin (by rw [e0]; exact hb) ?_ rfl rfl
        repeat (first | exact base | refine TmCut.skip ?_ rfl)
    | some d =>
      obtain ⟨id, v, rfl, j1, j2, j3⟩ := hg.yes _ _ hm
      have hm' : mfind es (Value.int .i64 (L.getD j 0)) = some (.x (.own id v 0 (grp s st n (L.getD j 0)).length)) := hm
      simp only [go_sem, s10_17, evIaddr, evLoad, hrow, h3, intC_len, List.length_append, List.length_replicate, intC_any_at hj', Int.toNat_natCast, hg.keys, ki_ok', hm', Option.getD_some, ↓reduceIte, reduceCtorEq, Nat.reduceEqDiff, Nat.reduceAdd, Nat.reduceSub, Nat.reduceMul, Nat.reduceLT, Nat.reduceLeDiff, Int.reduceToNat]
      refine ⟨⟨by omega, by omega, by omega⟩, by omega, ?_⟩
      have hgl := grp_len (s := s) (st := st) (n := n) (c := L.getD j 0)
      refine awp_loop (ap4 i n w L.length j id v (grp s st n (L.getD j 0)).length t49 KK NN) (fun x => (grp s st n (L.getD j 0)).length - x.1) (fun x => x.1 ≤ (grp s st n (L.getD j 0)).length ∧ x.2 = idxF (seenF s st i (L.take j) ((grp s st n (L.getD j 0)).take x.1)) n) (0, b) ?_ ?_ (f10d (i := i) (n := n) (w := w) (lenL := L.length) (j := j) (t49 := t49) (NN := NN) (L := L.take j) hm0 h0 h2 j3 (by omega) hn (fun m hm2 => ?_) ?_)
      · exact ⟨Nat.zero_le _, by simp only [List.take_zero]; exact hb⟩
      · refine Weak.cutTm (TmCut.cons rfl (TmCut.cons rfl ?_))
        unfold tm4
        repeat (first | refine TmCut.cons rfl ?_ | exact TmCut.nil)
      · have hmem : (grp s st n (L.getD j 0)).getD m 0 ∈ grp s st n (L.getD j 0) := getD_mem hm2
        obtain ⟨k, k1, _, _, k2⟩ := grp_mem.1 hmem
        exact ⟨k, k1, k2⟩
      · simp only [go_sem, ap4, tm4, ↓reduceIte, reduceCtorEq, Nat.reduceEqDiff, Nat.reduceAdd, Nat.reduceSub, Nat.reduceMul, Nat.reduceLT, Nat.reduceLeDiff, Int.reduceToNat]
        refine fin rfl ?_ rfl rfl
        unfold tm3
        repeat (first | refine TmCut.cons rfl ?_ | exact TmCut.nil)
  · have hj' : j = L.length := by simp at g; omega
    subst hj'
    rw [List.take_length] at hb
    subst hb
    exact hQ
end Go.Proofs.Ytcocbifjjafknaa.AL

/- Which shelves disturb each other. -/
set_option linter.unusedSimpArgs false
set_option linter.unusedVariables false
namespace Go.Proofs.Ytcocbifjjafknaa.AL
open Go
variable {s : SiteD} {st : StateD}

structure ApJ (s : SiteD) (st : StateD) (K0 : KMap) (N0 : Nat) (x : Nat × KMap × Nat) : Prop where
  le : x.1 ≤ st.shelves.length
  n : N0 ≤ x.2.2
  k : ∀ j, j < N0 → x.2.1 j = K0 j
  no : ∀ j, j < x.1 → decide (0 ≤ bestF s st j) = false

def ap2 (st : StateD) (x : Nat × KMap × Nat) : St := ⟨upd (upd (upd (upd (upd (upd (upd emp 2 (tC (.ptr 0 0 0 0))) 3 (tC (.ptr 1 0 0 0))) 7 (tC (.map 2))) 8 (tC (.map 3))) 49 (tC (.r (.rd 1 (ints st.shelves))))) 50 (tI st.shelves.length)) 51 (tI x.1), x.2.1, x.2.2⟩

theorem Gr.grow {n : Nat} {K K' : KMap} {N N' : Nat} {es : List (Value × V)} (h : Gr s st n K N es) (hK : ∀ j, j < N → K' j = K j) (hN : N ≤ N') : Gr s st n K' N' es :=
  ⟨h.keys, h.no, fun c d hd => by obtain ⟨id, v, h1, h2, h3, h4⟩ := h.yes c d hd; exact ⟨id, v, h1, h2, by omega, by rw [hK id h3]; exact h4⟩, h.inj⟩

theorem joinK_old {N j : Nat} {K K1 : KMap} (h : j < N) : joinK N K K1 j = K j := by simp [joinK, h]

theorem sideL_len {f : FloorD} {c : Int} : (posL (sideL f c)).length ≤ 4 := by
  have := List.length_filter_le (fun c => !decide (c < 0)) (sideL f c)
  simpa [posL, sideL] using this

theorem f10b (hf : FloorOk s.floor) (hr : st.robots.length ≤ 140737488355328) (hl : st.shelves.length ≤ 1000000) {es0 es : List (Value × V)} {K0 : KMap} {N0 : Nat} (hm0 : MapOk s s.aparts.length es0) (hI : ApI s st es0 (st.shelves.length, K0, N0, es)) :
    ∀ x, ApJ s st K0 N0 x → awp Try.prog 0 s10_27 (ap2 st x) (roundQ 0 (ap2 st) (fun x => st.shelves.length - x.1) (ApJ s st K0 N0) x
      (blockQ 2 (seqQ (fun s_1 => awp Try.prog 0 s10_1 s_1 (retP [SRes.tmp 4, SRes.tmp 5, SRes.tmp 6] fun d => d = tAp (apA s st) (apB s st) (apOk s st))) (retP [SRes.tmp 4, SRes.tmp 5, SRes.tmp 6] fun d => d = tAp (apA s st) (apB s st) (apOk s st))))) := by
  rintro ⟨i, K, N⟩ ⟨hi, hN, hK, hno⟩
  simp only at hi hN hK hno
  obtain ⟨_, i2, ⟨i3, i4, i5⟩, i6, i7⟩ := hI
  simp only at i2 i3 i4 i5 i6 i7
  have hk0 : K 0 = some (.row 0 9 [encSite s]) := (hK 0 (by omega)).trans i3
  have hk1 : K 1 = some (.row 0 6 [encState st]) := (hK 1 (by omega)).trans i4
  simp only [go_sem, s10_27, ap2, ↓reduceIte, reduceCtorEq, Nat.reduceEqDiff, Nat.reduceAdd, Nat.reduceSub, Nat.reduceMul, Nat.reduceLT, Nat.reduceLeDiff, Int.reduceToNat]
  refine twoQ_at (fun g => ?_) (fun g => ?_)
  · have hi' : i < st.shelves.length := by simpa using g
    have hw : IntKind.i64.wrap ((i : Int) + 1) = ((i + 1 : Nat) : Int) := wrap_i (by omega) (by omega)
    have next : ∀ {tm : Nat → Option T} {K' : KMap} {N' : Nat}, decide (0 ≤ bestF s st i) = false → N0 ≤ N' → (∀ j, j < N0 → K' j = K0 j) → TmCut (ap2 st (i, K, N)).tm tm →
        awp Try.prog 0 s10_2 ⟨tm, K', N'⟩ (roundQ 0 (ap2 st) (fun x => st.shelves.length - x.1) (ApJ s st K0 N0) (i, K, N)
          (blockQ 2 (seqQ (fun s_1 => awp Try.prog 0 s10_1 s_1 (retP [SRes.tmp 4, SRes.tmp 5, SRes.tmp 6] fun d => d = tAp (apA s st) (apB s st) (apOk s st))) (retP [SRes.tmp 4, SRes.tmp 5, SRes.tmp 6] fun d => d = tAp (apA s st) (apB s st) (apOk s st))))) := by
      intro tm K' N' hb hN' hK' hc
      have h51 : tm 51 = some (tI i) := hc.get rfl
      simp only [go_sem, s10_2, h51, ↓reduceIte, reduceCtorEq, Nat.reduceEqDiff, Nat.reduceAdd, Nat.reduceSub, Nat.reduceMul, Nat.reduceLT, Nat.reduceLeDiff, Int.reduceToNat]
      refine ⟨(i + 1, K', N'), ⟨by simp only; omega, hN', hK', fun j hj => ?_⟩, by simp only; omega, ?_⟩
      · by_cases e : j = i
        · subst e; exact hb
        · exact hno j (by simp only at hj; omega)
      · rw [hw]
        refine Weak.cutTm (TmCut.cons rfl (.skip (.skip (fun t d ht => hc t d ?_) rfl) rfl))
        unfold ap2
        simp only [upd] at ht ⊢
        split
        · rename_i e; subst e; simp [emp] at ht
        · exact ht
    simp only [go_sem, s10_26, hk0, hk1, ints_len, ints_at hi', Int.toNat_natCast, ↓reduceIte, reduceCtorEq, Nat.reduceEqDiff, Nat.reduceAdd, Nat.reduceSub, Nat.reduceMul, Nat.reduceLT, Nat.reduceLeDiff, Int.reduceToNat]
    refine ⟨⟨by omega, by omega⟩, Pure.callS (f12 (s := s) i) rfl ?_⟩
    simp only [go_sem, s10_25, hk0, hk1, ↓reduceIte, reduceCtorEq, Nat.reduceEqDiff, Nat.reduceAdd, Nat.reduceSub, Nat.reduceMul, Nat.reduceLT, Nat.reduceLeDiff, Int.reduceToNat]
    have hc0 : TmCut (ap2 st (i, K, N)).tm (ap2 st (i, K, N)).tm := fun _ _ h => h
    refine guardQ_at (fun g1 => ?_) (fun g1 => ?_)
    · simp only [go_sem, s10_24, ↓reduceIte, reduceCtorEq, Nat.reduceEqDiff, Nat.reduceAdd, Nat.reduceSub, Nat.reduceMul, Nat.reduceLT, Nat.reduceLeDiff, Int.reduceToNat]
      refine Pure.callS (f14 st i hr) rfl ?_
      simp only [go_sem, s10_23, s10_22, ↓reduceIte, reduceCtorEq, Nat.reduceEqDiff, Nat.reduceAdd, Nat.reduceSub, Nat.reduceMul, Nat.reduceLT, Nat.reduceLeDiff, Int.reduceToNat]
      refine twoQ_at (fun g2 => ?_) (fun g2 => ?_)
      · simp only [decide_eq_true_eq] at g2
        refine next ?_ hN hK ?_
        · have : actF s st i = false := by simp [actF, Int.not_lt.2 g2]
          simp [bestF, this]
        · unfold ap2
          repeat (first | refine TmCut.cons rfl ?_ | exact TmCut.nil)
      · simp only [decide_eq_false_iff_not] at g1 g2
        have ha : actF s st i = true := by
          have h1 : carriedF st i < 0 := by omega
          simp [actF, g1, h1]
        have hx : st.shelves.getD i 0 = shelfAt st i := rfl
        simp only [go_sem, s10_21, hk0, hx, ↓reduceIte, reduceCtorEq, Nat.reduceEqDiff, Nat.reduceAdd, Nat.reduceSub, Nat.reduceMul, Nat.reduceLT, Nat.reduceLeDiff, Int.reduceToNat]
        refine Spec.plain (f45 hf (shelfAt st i)) (liftA_refl rfl) ?_
        rintro _ _ _ ⟨t, rfl, rfl, rfl⟩
        have hside : posL (sideL s.floor (shelfAt st i)) = sideOf s st i := rfl
        have hL := sideL_len (f := s.floor) (c := shelfAt st i)
        rw [hside] at hL ⊢
        simp only [go_sem, s10_20, s10_19, T.ren, V.ren, C.ren, addN, ↓reduceIte, reduceCtorEq, Nat.reduceEqDiff, Nat.reduceAdd, Nat.reduceSub, Nat.reduceMul, Nat.reduceLT, Nat.reduceLeDiff, Int.reduceToNat]
        have kj : ∀ j, j < N → joinK N K (upd emp 0 (.row 0 1 (intC (sideOf s st i) ++ List.replicate t [.any]))) j = K j := fun j hj => joinK_old hj
        refine awp_loop (ap3 i st.shelves.length N (sideOf s st i).length (tC (.r (.rd 1 (ints st.shelves)))) _ (N + 1)) (fun x => (sideOf s st i).length - x.1) (fun x => x.1 ≤ (sideOf s st i).length ∧ x.2 = idxF (seenF s st i ((sideOf s st i).take x.1) []) st.shelves.length) (0, -1) ?_ ?_
          (f10c (t := t) (es0 := es0) (es := es) hm0 ((kj 0 (by omega)).trans hk0) ((kj 2 (by omega)).trans ((hK 2 (by omega)).trans i5)) ((kj 3 (by omega)).trans ((hK 3 (by omega)).trans i6)) (i7.grow (fun j hj => (kj j (by omega)).trans (hK j hj)) (by omega)) ?_ (by omega) hl ?_)
        · refine ⟨Nat.zero_le _, ?_⟩
          simp only [List.take_zero]
          exact (idxF_none (fun j hj => by simp [seenF])).symm
        · refine Weak.cutTm ?_
          unfold tm3
          repeat (first | refine TmCut.cons rfl ?_ | exact TmCut.nil)
        · simp [joinK, upd, AObj.ren, intC, C.ren]
        · simp only [go_sem, ap3, tm3, ↓reduceIte, reduceCtorEq, Nat.reduceEqDiff, Nat.reduceAdd, Nat.reduceSub, Nat.reduceMul, Nat.reduceLT, Nat.reduceLeDiff, Int.reduceToNat]
          have hbest : bestF s st i = idxF (seenF s st i (sideOf s st i) []) st.shelves.length := by
            rw [bestF, if_pos ha, seen_all]
          rw [← hbest]
          simp only [go_sem, s10_4, ↓reduceIte, reduceCtorEq, Nat.reduceEqDiff, Nat.reduceAdd, Nat.reduceSub, Nat.reduceMul, Nat.reduceLT, Nat.reduceLeDiff, Int.reduceToNat]
          refine twoQ_at (fun g3 => ?_) (fun g3 => ?_)
          · simp only [go_sem, s10_3, ↓reduceIte, reduceCtorEq, Nat.reduceEqDiff, Nat.reduceAdd, Nat.reduceSub, Nat.reduceMul, Nat.reduceLT, Nat.reduceLeDiff, Int.reduceToNat]
            have hh : hitI s st = i := idxF_hit hi' g3 hno
            refine ⟨rfl, ?_⟩
            have h0 : (0 : Int) ≤ hitI s st := by omega
            simp [apA, apB, apOk, h0, hh]
          · refine next g3 (by omega) (fun j hj => (kj j (by omega)).trans (hK j hj)) ?_
            unfold ap2
            repeat (first | refine TmCut.cons rfl ?_ | exact TmCut.nil)
    · simp only [go_sem, s10_24, s10_23, s10_22, ↓reduceIte, reduceCtorEq, Nat.reduceEqDiff, Nat.reduceAdd, Nat.reduceSub, Nat.reduceMul, Nat.reduceLT, Nat.reduceLeDiff, Int.reduceToNat]
      refine next ?_ hN hK ?_
      · simp only [Bool.not_false, decide_eq_true_eq] at g1
        have : actF s st i = false := by simp [actF, g1]
        simp [bestF, this]
      · unfold ap2
        repeat (first | refine TmCut.cons rfl ?_ | exact TmCut.nil)
  · have hi' : i = st.shelves.length := by simp at g; omega
    subst hi'
    simp only [go_sem, s10_1, ↓reduceIte, reduceCtorEq, Nat.reduceEqDiff, Nat.reduceAdd, Nat.reduceSub, Nat.reduceMul, Nat.reduceLT, Nat.reduceLeDiff, Int.reduceToNat]
    refine ⟨rfl, ?_⟩
    have hh : hitI s st = -1 := idxF_none hno
    simp [apA, apB, apOk, hh]

theorem f10 (hf : FloorOk s.floor) (ha : s.aparts.length ≤ 140737488355328) (hr : st.robots.length ≤ 140737488355328) (hl : st.shelves.length ≤ 1000000) :
    Pure Try.prog 10 [.v (.agg (encSite s)), .v (.agg (encState st))] (· = tAp (apA s st) (apB s st) (apOk s st)) := by
  refine Pure.of_awp hm Try.func10 s10_ok (by simp [s10]) ?_
  simp only [go_sem, s10, encSite, encState, ↓reduceIte, reduceCtorEq, Nat.reduceEqDiff, Nat.reduceAdd, Nat.reduceSub, Nat.reduceMul, Nat.reduceLT, Nat.reduceLeDiff, Int.reduceToNat]
  refine Spec.plain (f44 (s := s) ha) (liftA_refl rfl) ?_
  rintro _ _ _ ⟨es0, rfl, rfl, rfl, hm0⟩
  rw [← upd_join (N := 2) (o := .map es0) (.map es0) (map_ren hm0.2.1 _) (fun i hi => by rw [upd_ne _ _ (by omega), upd_ne _ _ (by omega)]; rfl)]
  simp only [go_sem, s10_38, s10_37, T.ren, V.ren, C.ren, addN, ints_len, ↓reduceIte, reduceCtorEq, Nat.reduceEqDiff, Nat.reduceAdd, Nat.reduceSub, Nat.reduceMul, Nat.reduceLT, Nat.reduceLeDiff, Int.reduceToNat]
  refine awp_loop (ap1 st) (fun x => st.shelves.length - x.1) (ApI s st es0) (0, upd (upd (upd (upd emp 0 (.row 0 9 [encSite s])) 1 (.row 0 6 [encState st])) 2 (.map es0)) 3 (.map []), 4, []) ⟨Nat.zero_le _, Nat.le_refl 4, ⟨rfl, rfl, rfl⟩, rfl, Gr.nil⟩ ?_ (f10a hf hr hl hm0 ?_)
  · exact cut7 rfl rfl rfl rfl rfl rfl rfl
  · intro K N es hI
    have hk1 := hI.base.k1
    simp only at hk1
    simp only [go_sem, ap1, s10_28, hk1, encState, ints_len, ↓reduceIte, reduceCtorEq, Nat.reduceEqDiff, Nat.reduceAdd, Nat.reduceSub, Nat.reduceMul, Nat.reduceLT, Nat.reduceLeDiff, Int.reduceToNat]
    refine awp_loop (ap2 st) (fun x => st.shelves.length - x.1) (ApJ s st K N) (0, K, N) ⟨Nat.zero_le _, Nat.le_refl _, fun j _ => rfl, fun j hj => by simp at hj⟩ ?_ (f10b hf hr hl hm0 hI)
    exact cut7 rfl rfl rfl rfl rfl rfl rfl
end Go.Proofs.Ytcocbifjjafknaa.AL

/- The maker of sites: its memory; kinds of cells. -/
set_option linter.unusedSimpArgs false
set_option linter.unusedVariables false
namespace Go.Proofs.Ytcocbifjjafknaa.AL
open Go

structure MK where
  f : FloorD
  zs : List ZoneD
  ap : List ApartD
  sh : List ShelfD
  rb : List StartD
  vz : Nat
  va : Nat
  vs : Nat
  vr : Nat
  eS : List (Value × V)
  eR : List (Value × V)
  eZ : List (Value × V)
  eN : List (Value × V)

def rowC {α : Type} (f : α → List R) (l : List α) : List (List C) := l.map fun x => (f x).map C.r
theorem rowC_len {α : Type} {f : α → List R} {l : List α} : (rowC f l).length = l.length := by simp [rowC]
theorem rowC_at {α : Type} [Inhabited α] {f : α → List R} {l : List α} {i : Nat} (h : i < l.length) : (rowC f l).getD i [] = (f (l.getD i default)).map C.r := by simp [rowC, h]
theorem rowC_app {α : Type} {f : α → List R} {l : List α} {x : α} : rowC f l ++ [(f x).map C.r] = rowC f (l ++ [x]) := by simp [rowC]
theorem rowC_bel {α : Type} {f : α → List R} {l : List α} {v n N : Nat} : (AObj.row v n (rowC f l)).below N = true := by
  simp [AObj.below, rowC, C.below]
theorem rowC_ren {α : Type} {f : α → List R} {l : List α} {v n : Nat} {ρ : Nat → Nat} : (AObj.row v n (rowC f l)).ren ρ = .row v n (rowC f l) := by
  simp [AObj.ren, rowC, C.ren]

def mkBox (m : MK) : List C := [cV (.int .i64 m.f.w), cV (.int .i64 m.f.h), cV (.int .i64 m.f.d), .r (.rd 1 (ints m.f.kind)), .r (.rd 1 (ints m.f.out)),
  .own 6 m.vz 0 m.zs.length, .own 7 m.va 0 m.ap.length, .own 8 m.vs 0 m.sh.length, .own 9 m.vr 0 m.rb.length, .map 1, .map 2, .map 3, .map 4, .map 5, cV nilS, cV nilS]

def mkK (m : MK) : KMap := upd (upd (upd (upd (upd (upd (upd (upd (upd (upd emp 0 (.row 0 16 [mkBox m])) 1 (.map m.eS)) 2 (.map m.eR)) 3 (.map m.eZ)) 4 (.map m.eN)) 5 (.map [])) 6 (.row m.vz 5 (rowC encZone m.zs))) 7 (.row m.va 2 (rowC encApart m.ap))) 8 (.row m.vs 2 (rowC encShelf m.sh))) 9 (.row m.vr 2 (rowC encStart m.rb))

/-- What the maps hold is right. -/
structure MI (m : MK) : Prop where
  zm : IMap m.eZ (fun c => if m.zs.any (fun z => decide (c ∈ z.cells)) = true then some vT else none)
  sm : IMap m.eS (fun c => ((List.range m.sh.length).find? fun i => decide ((m.sh.getD i default).cell = c)).map iV)
  rm : IMap m.eR (fun c => if m.rb.any (fun r => decide (r.cell = c)) = true then some vT else none)
  nm : m.eN.all (fun e => keyOk (.sc 1) e.1) = true ∧ m.eN.all (fun e => e.2.below 0) = true

theorem MI.wf {m : MK} (h : MI m) : ∀ i o, mkK m i = some o → i < 10 ∧ o.below 10 = true := by
  intro i o hk
  unfold mkK at hk
  simp only [upd, emp] at hk
  repeat (split at hk; · rename_i e; subst e; cases hk; exact ⟨by omega, by first | rfl | exact rowC_bel | exact below_map h.nm.2 | exact h.zm.bel | exact h.sm.bel | exact h.rm.bel⟩)
  cases hk

/-- A maker's memory stands in the caller's, from o on. -/
def HasM (o : Nat) (K : KMap) (m : MK) : Prop := ∀ i, i < 10 → K (o + i) = (mkK m i).map (AObj.ren (addN o))

theorem HasM.join {o : Nat} {K : KMap} {m : MK} : HasM o (joinK o K (mkK m)) m := fun i _ => joinK_up i
theorem HasM.self {m : MK} : HasM 0 (mkK m) m := fun i _ => by
  have e : addN 0 = fun i => i := by funext i; unfold addN; omega
  have e2 : AObj.ren (addN 0) = id := by rw [e]; exact funext AObj.ren_id
  rw [e2, Option.map_id, Nat.zero_add]; rfl
theorem HasM.mono {o : Nat} {K K' : KMap} {m : MK} (h : HasM o K m) (hk : ∀ j, o ≤ j → j < o + 10 → K' j = K j) : HasM o K' m := fun i hi => by rw [hk _ (by omega) (by omega)]; exact h i hi
theorem HasM.upd {o : Nat} {K : KMap} {m : MK} (h : HasM o K m) {j : Nat} (hj : o + 10 ≤ j) (x : AObj) : HasM o (upd K j x) m := h.mono fun k h1 h2 => upd_ne _ _ (by omega)

section
variable {P : Program} {K : KMap} {N o : Nat}

theorem addN_inj {o i j : Nat} (h : addN o i = addN o j) : i = j := by unfold addN at h; omega

/-- A method that leaves the maker as it is. -/
theorem PureK.callM {f : FuncId} {args args1 : List T} {Φ : T → Prop} {m : MK} (hm : MI m) (hs : PureK P f args1 (mkK m) 10 Φ) (hM : HasM o K m) (hN : o + 10 ≤ N) (ha : args = args1.map (T.ren (addN o))) (hb : ∀ a, a ∈ args1 → a.below 10 = true) {q : Bool} {R : T → KMap → Nat → Prop}
    (hR : ∀ d, Φ d → d.below 0 = true → R d K N) : CallW P q f args K N R :=
  PureK.call hs (addN o) (fun i hi => by unfold addN; omega) (fun i j _ _ h => addN_inj h) hm.wf (fun i hi => hM i hi) ha hb hR

/-- A method that changes the maker. -/
theorem Spec.callM {f : FuncId} {args args1 : List T} {Q : T → MK → Prop} {m : MK} (hm : MI m) (hs : Spec P f args1 (mkK m) 10 fun d K N => ∃ m', (MI m' ∧ Q d m') ∧ d.below 0 = true ∧ K = mkK m' ∧ N = 10) (hM : HasM o K m) (hN : o + 10 ≤ N) (ha : args = args1.map (T.ren (addN o))) (hb : ∀ a, a ∈ args1 → a.below 10 = true)
    {R : T → KMap → Nat → Prop} (hR : ∀ d m' K', MI m' → Q d m' → HasM o K' m' → (∀ j, (j < o ∨ o + 10 ≤ j) → j < N → K' j = K j) → R d K' N) : CallW P false f args K N R := by
  refine Spec.call hs (addN o) (fun i hi => by unfold addN; omega) (fun i j _ _ h => addN_inj h) (fun i ob hk => ⟨(hm.wf i ob hk).1, (hm.wf i ob hk).2, by
    have := hM i (hm.wf i ob hk).1
    rw [hk] at this
    exact this⟩) ha hb ?_
  rintro d K1 N1 ⟨m', ⟨hm', hQ⟩, hd, rfl, rfl⟩ _
  refine ⟨fun h => (by cases h), ?_⟩
  rw [T.ren_below hd, Nat.sub_self, Nat.add_zero]
  have hup : ∀ i, i < 10 → upTo (addN o) 10 N i = addN o i := fun i hi => upTo_lt hi
  refine hR d m' _ hm' hQ (fun i hi => ?_) (fun j hj hjN => ?_)
  · unfold joinS
    cases hd2 : downTo (addN o) 10 N (o + i) with
    | none =>
      obtain ⟨_, k2⟩ := downTo_none hd2
      exact absurd rfl (k2 i hi)
    | some k =>
      have hu := downTo_some hd2
      have hk : k = i := by
        by_cases hlt : k < 10
        · rw [hup k hlt] at hu; unfold addN at hu; omega
        · rw [upTo_ge hlt] at hu; omega
      subst hk
      simp only
      cases hmk : mkK m' k with
      | none => rfl
      | some ob =>
        simp only [Option.map_some]
        congr 1
        exact AObj.ren_congr (fun j hj => hup j hj) (hm'.wf k ob hmk).2
  · unfold joinS
    cases hd2 : downTo (addN o) 10 N j with
    | none => rfl
    | some k =>
      have hu := downTo_some hd2
      by_cases hlt : k < 10
      · rw [hup k hlt] at hu; unfold addN at hu; omega
      · rw [upTo_ge hlt] at hu; omega
end

def m0 (f : FloorD) : MK := ⟨f, [], [], [], [], 0, 0, 0, 0, [], [], [], []⟩
theorem MI.m0 {f : FloorD} : MI (m0 f) := ⟨IMap.nil.congr (by simp [AL.m0]), IMap.nil.congr (by simp [AL.m0]), IMap.nil.congr (by simp [AL.m0]), rfl, rfl⟩

theorem f62 (f : FloorD) : Spec Try.prog 62 [.v (.agg (encFloor f))] emp 0 fun d K N => d = tC (.ptr 0 0 0 0) ∧ K = mkK (m0 f) ∧ N = 10 := by
  refine Spec.of_awpW hm Try.func62 s62_ok (by simp [s62]) ?_
  simp only [go_sem, s62, encFloor, ↓reduceIte, reduceCtorEq, Nat.reduceEqDiff, Nat.reduceAdd, Nat.reduceSub, Nat.reduceMul, Nat.reduceLT, Nat.reduceLeDiff, Int.reduceToNat]
  refine ⟨_, Weak.trans (Weak.nilCell 6 5 16 5 _ rfl rfl) (Weak.trans (Weak.nilCell 6 6 16 2 _ rfl rfl) (Weak.trans (Weak.nilCell 6 7 16 2 _ rfl rfl) (Weak.nilCell 6 8 16 2 _ rfl rfl))), ?_⟩
  simp only [go_sem, ↓reduceIte, reduceCtorEq, Nat.reduceEqDiff, Nat.reduceAdd, Nat.reduceSub, Nat.reduceMul, Nat.reduceLT, Nat.reduceLeDiff, Int.reduceToNat]
  refine ⟨_, mkK (m0 f), 10, _, Back.list [6, 1, 2, 3, 4, 5, 7, 8, 9, 10] _ (by decide) (fun i o hk => ?_) rfl rfl, rfl, rfl, rfl⟩
  unfold mkK at hk
  simp only [upd, emp] at hk
  repeat (split at hk; · rename_i e; subst e; cases hk; exact ⟨by decide, rfl, rfl⟩)
  cases hk

variable {m : MK}

theorem mkK0 : mkK m 0 = some (.row 0 16 [mkBox m]) := rfl
theorem mkK1 : mkK m 1 = some (.map m.eS) := rfl
theorem mkK2 : mkK m 2 = some (.map m.eR) := rfl
theorem mkK3 : mkK m 3 = some (.map m.eZ) := rfl
theorem mkK4 : mkK m 4 = some (.map m.eN) := rfl
theorem mkK6 : mkK m 6 = some (.row m.vz 5 (rowC encZone m.zs)) := rfl
theorem mkK7 : mkK m 7 = some (.row m.va 2 (rowC encApart m.ap)) := rfl
theorem mkK8 : mkK m 8 = some (.row m.vs 2 (rowC encShelf m.sh)) := rfl
theorem mkK9 : mkK m 9 = some (.row m.vr 2 (rowC encStart m.rb)) := rfl

def kindM (f : FloorD) (c : Int) : Int := if 0 ≤ c ∧ c < f.kind.length then f.kind.getD c.toNat 0 else 0
def isM (f : FloorD) (c : Int) : Bool := decide (0 ≤ c) && decide (c < f.kind.length)

theorem f88 (hmi : MI m) (c : Int) : PureK Try.prog 88 [tC (.ptr 0 0 0 0), tI c] (mkK m) 10 (· = .tup [.x (cV (.int .i64 (kindM m.f c))), .x (cV (.bool (isM m.f c)))]) := by
  refine PureK.of_awp hm Try.func88 s88_ok (by simp [s88]) ?_
  simp only [go_sem, s88, ↓reduceIte, reduceCtorEq, Nat.reduceEqDiff, Nat.reduceAdd, Nat.reduceSub, Nat.reduceMul, Nat.reduceLT, Nat.reduceLeDiff, Int.reduceToNat]
  refine guardQ_at (fun h1 => ?_) (fun h1 => ?_)
  · simp only [decide_eq_false_iff_not] at h1
    simp only [go_sem, s88_4, s88_3, mkK0, mkBox, ints_len, ↓reduceIte, reduceCtorEq, Nat.reduceEqDiff, Nat.reduceAdd, Nat.reduceSub, Nat.reduceMul, Nat.reduceLT, Nat.reduceLeDiff, Int.reduceToNat]
    refine twoQ_at (fun h2 => ?_) (fun h2 => ?_)
    · simp only [decide_eq_true_eq] at h2
      simp only [go_sem, s88_2, ↓reduceIte, reduceCtorEq, Nat.reduceEqDiff, Nat.reduceAdd, Nat.reduceSub, Nat.reduceMul, Nat.reduceLT, Nat.reduceLeDiff, Int.reduceToNat]
      exact ⟨rfl, KLe.self hmi.wf, by rw [kindM, isM, if_neg (by omega), decide_eq_false (p := c < _) (by omega), Bool.and_false]⟩
    · simp only [decide_eq_false_iff_not] at h2
      have hc : c.toNat < m.f.kind.length := by omega
      simp only [go_sem, s88_1, mkK0, mkBox, ints_len, ints_at hc, ↓reduceIte, reduceCtorEq, Nat.reduceEqDiff, Nat.reduceAdd, Nat.reduceSub, Nat.reduceMul, Nat.reduceLT, Nat.reduceLeDiff, Int.reduceToNat]
      exact ⟨⟨by omega, by omega⟩, rfl, KLe.self hmi.wf, by rw [kindM, isM, if_pos (by omega), decide_eq_true (p := 0 ≤ c) (by omega), decide_eq_true (p := c < _) (by omega), Bool.and_true]⟩
  · simp only [Bool.not_false, decide_eq_true_eq] at h1
    simp only [go_sem, s88_4, s88_3, s88_2, ↓reduceIte, reduceCtorEq, Nat.reduceEqDiff, Nat.reduceAdd, Nat.reduceSub, Nat.reduceMul, Nat.reduceLT, Nat.reduceLeDiff, Int.reduceToNat]
    exact ⟨rfl, KLe.self hmi.wf, by rw [kindM, isM, if_neg (by omega), decide_eq_false (p := 0 ≤ c) (by omega), Bool.false_and]⟩

theorem asc_next {l : List Int} (h : ∀ j, 0 < j → j < l.length → l.getD (j - 1) 0 < l.getD j 0) : Asc l := by
  intro i j hij
  induction j with
  | zero => omega
  | succ j ih =>
    intro hj
    have h1 := h (j + 1) (by omega) hj
    rw [Nat.add_sub_cancel] at h1
    by_cases e : i = j
    · subst e; exact h1
    · exact Int.lt_trans (ih (by omega) (by omega)) h1

theorem f66 (hmi : MI m) (l : List Int) (hl : l.length ≤ 1000000) : PureK Try.prog 66 [tC (.ptr 0 0 0 0), tC (.r (.rd 1 (ints l)))] (mkK m) 10 (fun d => ∃ b, d = tB b ∧ (b = true → 0 < l.length ∧ Asc l ∧ ∀ i, i < l.length → isM m.f (l.getD i 0) = true)) := by
  refine PureK.of_awp hm Try.func66 s66_ok (by simp [s66]) ?_
  have no : T.below 0 (tB false) = true ∧ KLe 10 (mkK m) (mkK m) ∧ ∃ b, tB false = tB b ∧ (b = true → 0 < l.length ∧ Asc l ∧ ∀ i, i < l.length → isM m.f (l.getD i 0) = true) := ⟨rfl, KLe.self hmi.wf, false, rfl, fun h => by cases h⟩
  simp only [go_sem, s66, ints_len, ↓reduceIte, reduceCtorEq, Nat.reduceEqDiff, Nat.reduceAdd, Nat.reduceSub, Nat.reduceMul, Nat.reduceLT, Nat.reduceLeDiff, Int.reduceToNat]
  refine awp_loop (fun i : Nat => ⟨upd (upd (upd (upd (upd emp 0 (tC (.ptr 0 0 0 0))) 1 (tC (.r (.rd 1 (ints l))))) 9 (tC (.r (.rd 1 (ints l))))) 10 (tI l.length)) 11 (tI i), mkK m, 10⟩) (fun i => l.length - i)
    (fun i => i ≤ l.length ∧ ∀ j, j < i → isM m.f (l.getD j 0) = true ∧ (0 < j → l.getD (j - 1) 0 < l.getD j 0)) 0 ⟨Nat.zero_le _, fun j hj => by omega⟩ ?_ ?_
  · exact Weak.cutTm (by repeat (first | refine TmCut.cons rfl ?_ | refine TmCut.cons (by simp [upd, *]; done) ?_ | exact TmCut.nil))
  · intro i ⟨hi, hin⟩
    simp only [go_sem, s66_11, ↓reduceIte, reduceCtorEq, Nat.reduceEqDiff, Nat.reduceAdd, Nat.reduceSub, Nat.reduceMul, Nat.reduceLT, Nat.reduceLeDiff, Int.reduceToNat]
    refine twoQ_at (fun g => ?_) (fun g => ?_)
    · have hi' : i < l.length := by simpa using g
      simp only [go_sem, s66_10, ints_len, ints_at hi', Int.toNat_natCast, ↓reduceIte, reduceCtorEq, Nat.reduceEqDiff, Nat.reduceAdd, Nat.reduceSub, Nat.reduceMul, Nat.reduceLT, Nat.reduceLeDiff, Int.reduceToNat]
      refine ⟨⟨by omega, by omega⟩, PureK.callId (f88 hmi _) hmi.wf (fun a ha => ?_) ?_⟩
      · simp only [List.mem_cons, List.not_mem_nil, or_false] at ha
        rcases ha with rfl | rfl <;> rfl
      · rintro _ rfl _
        simp only [go_sem, s66_9, s66_8, ↓reduceIte, reduceCtorEq, Nat.reduceEqDiff, Nat.reduceAdd, Nat.reduceSub, Nat.reduceMul, Nat.reduceLT, Nat.reduceLeDiff, Int.reduceToNat]
        refine guardQ_at (fun g1 => ?_) (fun g1 => ?_)
        · simp only [Bool.not_eq_false'] at g1
          simp only [go_sem, s66_7, ↓reduceIte, reduceCtorEq, Nat.reduceEqDiff, Nat.reduceAdd, Nat.reduceSub, Nat.reduceMul, Nat.reduceLT, Nat.reduceLeDiff, Int.reduceToNat]
          refine guardQ_at (fun g2 => ?_) (fun g2 => ?_)
          · simp only [decide_eq_true_eq] at g2
            have hw : IntKind.i64.wrap ((i : Int) - 1) = ((i - 1 : Nat) : Int) := by rw [wrap_i (by omega) (by omega)]; omega
            have hi2 : i - 1 < l.length := by omega
            simp only [go_sem, s66_6, hw, ints_len, ints_at hi2, Int.toNat_natCast, ↓reduceIte, reduceCtorEq, Nat.reduceEqDiff, Nat.reduceAdd, Nat.reduceSub, Nat.reduceMul, Nat.reduceLT, Nat.reduceLeDiff, Int.reduceToNat]
            refine ⟨⟨by omega, by omega⟩, ?_⟩
            simp only [go_sem, s66_5, s66_4, ↓reduceIte, reduceCtorEq, Nat.reduceEqDiff, Nat.reduceAdd, Nat.reduceSub, Nat.reduceMul, Nat.reduceLT, Nat.reduceLeDiff, Int.reduceToNat]
            refine twoQ_at (fun g3 => ?_) (fun g3 => ?_)
            · simp only [go_sem, s66_3, ↓reduceIte, reduceCtorEq, Nat.reduceEqDiff, Nat.reduceAdd, Nat.reduceSub, Nat.reduceMul, Nat.reduceLT, Nat.reduceLeDiff, Int.reduceToNat]
              exact no
            · simp only [decide_eq_false_iff_not] at g3
              simp only [go_sem, s66_2, ↓reduceIte, reduceCtorEq, Nat.reduceEqDiff, Nat.reduceAdd, Nat.reduceSub, Nat.reduceMul, Nat.reduceLT, Nat.reduceLeDiff, Int.reduceToNat]
              refine ⟨i + 1, ⟨by omega, fun j hj => ?_⟩, by omega, ?_⟩
              · by_cases e : j = i
                · subst e; exact ⟨g1, fun _ => by omega⟩
                · exact hin j (by omega)
              · rw [wrap_i (by omega) (by omega)]
                exact Weak.cutTm (by repeat (first | refine TmCut.cons rfl ?_ | refine TmCut.cons (by simp [upd, *]; done) ?_ | exact TmCut.nil))
          · simp only [Bool.not_true, decide_eq_false_iff_not] at g2
            simp only [go_sem, s66_6, s66_5, s66_4, s66_2, ↓reduceIte, reduceCtorEq, Nat.reduceEqDiff, Nat.reduceAdd, Nat.reduceSub, Nat.reduceMul, Nat.reduceLT, Nat.reduceLeDiff, Int.reduceToNat]
            refine ⟨i + 1, ⟨by omega, fun j hj => ?_⟩, by omega, ?_⟩
            · by_cases e : j = i
              · subst e; exact ⟨g1, fun h => by omega⟩
              · exact hin j (by omega)
            · rw [wrap_i (by omega) (by omega)]
              exact Weak.cutTm (by repeat (first | refine TmCut.cons rfl ?_ | refine TmCut.cons (by simp [upd, *]; done) ?_ | exact TmCut.nil))
        · simp only [go_sem, s66_7, s66_6, s66_5, s66_4, s66_3, ↓reduceIte, reduceCtorEq, Nat.reduceEqDiff, Nat.reduceAdd, Nat.reduceSub, Nat.reduceMul, Nat.reduceLT, Nat.reduceLeDiff, Int.reduceToNat]
          exact no
    · have hi' : i = l.length := by simp at g; omega
      subst hi'
      simp only [go_sem, s66_1, ints_len, ↓reduceIte, reduceCtorEq, Nat.reduceEqDiff, Nat.reduceAdd, Nat.reduceSub, Nat.reduceMul, Nat.reduceLT, Nat.reduceLeDiff, Int.reduceToNat]
      refine ⟨rfl, KLe.self hmi.wf, _, rfl, fun h => ⟨by simp at h; omega, asc_next (fun j h1 h2 => (hin j h2).2 h1), fun j hj => (hin j hj).1⟩⟩
end Go.Proofs.Ytcocbifjjafknaa.AL

/- The maker of sites: zones. -/
set_option linter.unusedSimpArgs false
set_option linter.unusedVariables false
namespace Go.Proofs.Ytcocbifjjafknaa.AL
open Go
variable {m : MK}

theorem ks_ok (a : ByteArray) : keyOk (.sc 1) (Value.string a) = true := rfl

theorem mkK_eZ (es : List (Value × V)) : upd (mkK m) 3 (.map es) = mkK { m with eZ := es } := by
  funext i
  by_cases h : i = 3
  · subst h; rfl
  · rw [upd_ne _ _ h]
    simp only [mkK, upd, if_neg h, mkBox]
theorem mkK_box {es : List (Value × V)} {b : AObj} : upd (upd (mkK m) 10 b) 3 (.map es) = upd (mkK { m with eZ := es }) 10 b := by
  rw [upd_comm _ _ _ (by decide), mkK_eZ]

/-- What adding a zone asks for. -/
structure AddZ (m : MK) (z : ZoneD) : Prop where
  kind : ∀ i, i < z.cells.length → zonedK (kindM m.f (z.cells.getD i 0)) = true
  free : ∀ i, i < z.cells.length → m.zs.any (fun x => decide (z.cells.getD i 0 ∈ x.cells)) = false

theorem zm_step {zs : List ZoneD} {l : List Int} {i : Nat} (hi : i < l.length) (n : Int) : (if n = l.getD i 0 then some vT else if (zs.any (fun x => decide (n ∈ x.cells)) || decide (n ∈ l.take i)) = true then some vT else none) = if (zs.any (fun x => decide (n ∈ x.cells)) || decide (n ∈ l.take (i + 1))) = true then some vT else none := by
  have h1 : l[i]? = some (l.getD i 0) := by simp [hi]
  have h2 : (n ∈ l.take (i + 1)) = (n ∈ l.take i ∨ n = l.getD i 0) := by
    rw [List.take_add_one, h1]
    simp
  by_cases e : n = l.getD i 0
  · simp only [e, if_true]
    rw [if_pos]
    simp only [Bool.or_eq_true, decide_eq_true_eq]
    exact .inr (by rw [List.take_add_one, h1]; simp)
  · rw [if_neg e]
    have h3 : decide (n ∈ l.take (i + 1)) = decide (n ∈ l.take i) := by
      rw [decide_eq_decide, h2]
      exact ⟨fun h => h.resolve_right e, .inl⟩
    rw [h3]

/-- What a method that adds something hands back. -/
def MakeQ (A : Int → MK → Prop) : T → KMap → Nat → Prop := fun d K N => ∃ m', (MI m' ∧ ∃ e, d = tI e ∧ A e m') ∧ d.below 0 = true ∧ K = mkK m' ∧ N = 10

theorem make_ret {m' : MK} (hmi : MI m') {A : Int → MK → Prop} {e : Int} (hA : A e m') {tm : Nat → Option T} {K : KMap} {N : Nat} (hN : 10 ≤ N) (hK : ∀ i, i < 10 → K i = mkK m' i) :
    ∃ d' K' N' τ, Back 10 ⟨tm, K, N⟩ (tI e) d' K' N' τ ∧ MakeQ A d' K' N' := by
  refine ⟨_, mkK m', 10, _, Back.keep hN rfl (fun i o hk => ?_), m', ⟨hmi, e, rfl, hA⟩, rfl, rfl, rfl⟩
  obtain ⟨h1, h2⟩ := hmi.wf i o hk
  exact ⟨h1, h2, (hK i h1).trans hk⟩

def ZoneA (m : MK) (z : ZoneD) (e : Int) (m' : MK) : Prop := e = 0 → AddZ m z ∧ ∃ es en, m' = { m with zs := m.zs ++ [z], vz := m.vz + 1, eZ := es, eN := en }

theorem f67 (hmi : MI m) (z : ZoneD) (hl : z.cells.length ≤ 1000000) (hz : m.zs.length ≤ 1000000) :
    Spec Try.prog 67 [tC (.ptr 0 0 0 0), .v (.agg ((encZone z).map C.r))] (mkK m) 10 (MakeQ (ZoneA m z)) := by
  refine Spec.of_awp hm Try.func67 s67_ok (by simp [s67]) ?_
  cases hn : mfind m.eN (.string z.name) with
  | some d0 =>
    simp only [go_sem, s67, s67_17, encZone, mkK0, mkBox, mkK4, hmi.nm.1, ks_ok, hn, Option.isSome_some, ↓reduceIte, reduceCtorEq, Nat.reduceEqDiff, Nat.reduceAdd, Nat.reduceSub, Nat.reduceMul, Nat.reduceLT, Nat.reduceLeDiff, Int.reduceToNat]
    exact make_ret hmi (fun h => by cases h) (by decide) (fun i hi => upd_ne _ _ (by omega))
  | none =>
    simp only [go_sem, s67, s67_16, encZone, mkK0, mkBox, mkK4, hmi.nm.1, ks_ok, hn, Option.isSome_none, ↓reduceIte, reduceCtorEq, Nat.reduceEqDiff, Nat.reduceAdd, Nat.reduceSub, Nat.reduceMul, Nat.reduceLT, Nat.reduceLeDiff, Int.reduceToNat]
    refine twoQ_at (fun g0 => ?_) (fun g0 => ?_)
    · simp only [go_sem, s67_15, ↓reduceIte, reduceCtorEq, Nat.reduceEqDiff, Nat.reduceAdd, Nat.reduceSub, Nat.reduceMul, Nat.reduceLT, Nat.reduceLeDiff, Int.reduceToNat]
      exact make_ret hmi (fun h => by cases h) (by decide) (fun i hi => upd_ne _ _ (by omega))
    · simp only [go_sem, s67_14, ints_len, ↓reduceIte, reduceCtorEq, Nat.reduceEqDiff, Nat.reduceAdd, Nat.reduceSub, Nat.reduceMul, Nat.reduceLT, Nat.reduceLeDiff, Int.reduceToNat]
      refine awp_loop (fun i : Nat => ⟨upd (upd (upd (upd (upd emp 0 (tC (.ptr 0 0 0 0))) 3 (tC (.ptr 10 0 0 0))) 32 (tC (.r (.rd 1 (ints z.cells))))) 33 (tI z.cells.length)) 34 (tI i), upd (mkK m) 10 (.row 0 5 [(encZone z).map C.r]), 11⟩) (fun i => z.cells.length - i)
        (fun i => i ≤ z.cells.length ∧ ∀ j, j < i → zonedK (kindM m.f (z.cells.getD j 0)) = true ∧ m.zs.any (fun x => decide (z.cells.getD j 0 ∈ x.cells)) = false) 0 ⟨Nat.zero_le _, fun j hj => by omega⟩ ?_ ?_
      · exact Weak.cutTm (by repeat (first | refine TmCut.cons rfl ?_ | refine TmCut.cons (by simp [upd, *]; done) ?_ | exact TmCut.nil))
      · intro i ⟨hi, hin⟩
        simp only [go_sem, s67_13, ↓reduceIte, reduceCtorEq, Nat.reduceEqDiff, Nat.reduceAdd, Nat.reduceSub, Nat.reduceMul, Nat.reduceLT, Nat.reduceLeDiff, Int.reduceToNat]
        refine twoQ_at (fun g => ?_) (fun g => ?_)
        · have hi' : i < z.cells.length := by simpa using g
          simp only [go_sem, s67_12, ints_len, ints_at hi', Int.toNat_natCast, ↓reduceIte, reduceCtorEq, Nat.reduceEqDiff, Nat.reduceAdd, Nat.reduceSub, Nat.reduceMul, Nat.reduceLT, Nat.reduceLeDiff, Int.reduceToNat]
          refine ⟨⟨by omega, by omega⟩, PureK.callM hmi (f88 hmi (z.cells.getD i 0)) (HasM.self.upd (by decide) _) (by decide) rfl (fun a ha => ?_) ?_⟩
          · simp only [List.mem_cons, List.not_mem_nil, or_false] at ha
            rcases ha with rfl | rfl <;> rfl
          · rintro _ rfl _
            simp only [go_sem, s67_11, s67_10, ↓reduceIte, reduceCtorEq, Nat.reduceEqDiff, Nat.reduceAdd, Nat.reduceSub, Nat.reduceMul, Nat.reduceLT, Nat.reduceLeDiff, Int.reduceToNat]
            refine Pure.callS (f89 _) rfl ?_
            simp only [go_sem, s67_9, ↓reduceIte, reduceCtorEq, Nat.reduceEqDiff, Nat.reduceAdd, Nat.reduceSub, Nat.reduceMul, Nat.reduceLT, Nat.reduceLeDiff, Int.reduceToNat]
            refine guardQ_at (fun g1 => ?_) (fun g1 => ?_)
            · simp only [Bool.not_eq_false'] at g1
              have hf : (mfind m.eZ (Value.int .i64 (z.cells.getD i 0))).getD (V.x (C.r (R.val (Value.bool false)))) = V.x (C.r (R.val (Value.bool (m.zs.any (fun x => decide (z.cells.getD i 0 ∈ x.cells)))))) := by
                have := hmi.zm.2.2 (z.cells.getD i 0)
                unfold ki at this
                rw [this]
                dsimp only
                cases m.zs.any (fun x => decide (z.cells.getD i 0 ∈ x.cells)) <;> rfl
              simp only [go_sem, s67_8, mkK0, mkBox, mkK3, hmi.zm.1, ki_ok', hf, ↓reduceIte, reduceCtorEq, Nat.reduceEqDiff, Nat.reduceAdd, Nat.reduceSub, Nat.reduceMul, Nat.reduceLT, Nat.reduceLeDiff, Int.reduceToNat]
              simp only [go_sem, s67_7, ↓reduceIte, reduceCtorEq, Nat.reduceEqDiff, Nat.reduceAdd, Nat.reduceSub, Nat.reduceMul, Nat.reduceLT, Nat.reduceLeDiff, Int.reduceToNat]
              refine twoQ_at (fun g2 => ?_) (fun g2 => ?_)
              · simp only [go_sem, s67_6, ↓reduceIte, reduceCtorEq, Nat.reduceEqDiff, Nat.reduceAdd, Nat.reduceSub, Nat.reduceMul, Nat.reduceLT, Nat.reduceLeDiff, Int.reduceToNat]
                exact make_ret hmi (fun h => by cases h) (by decide) (fun i hi => upd_ne _ _ (by omega))
              · simp only [go_sem, s67_5, ↓reduceIte, reduceCtorEq, Nat.reduceEqDiff, Nat.reduceAdd, Nat.reduceSub, Nat.reduceMul, Nat.reduceLT, Nat.reduceLeDiff, Int.reduceToNat]
                refine ⟨i + 1, ⟨by omega, fun j hj => ?_⟩, by omega, ?_⟩
                · by_cases e : j = i
                  · subst e; exact ⟨g1, g2⟩
                  · exact hin j (by omega)
                · rw [wrap_i (by omega) (by omega)]
                  exact Weak.cutTm (by repeat (first | refine TmCut.cons rfl ?_ | refine TmCut.cons (by simp [upd, *]; done) ?_ | exact TmCut.nil))
            · simp only [go_sem, s67_8, s67_7, s67_6, ↓reduceIte, reduceCtorEq, Nat.reduceEqDiff, Nat.reduceAdd, Nat.reduceSub, Nat.reduceMul, Nat.reduceLT, Nat.reduceLeDiff, Int.reduceToNat]
              exact make_ret hmi (fun h => by cases h) (by decide) (fun i hi => upd_ne _ _ (by omega))
        · have hi' : i = z.cells.length := by simp at g; omega
          subst hi'
          have hadd : AddZ m z := ⟨fun j hj => (hin j hj).1, fun j hj => (hin j hj).2⟩
          simp only [go_sem, s67_4, encZone, ints_len, ↓reduceIte, reduceCtorEq, Nat.reduceEqDiff, Nat.reduceAdd, Nat.reduceSub, Nat.reduceMul, Nat.reduceLT, Nat.reduceLeDiff, Int.reduceToNat]
          refine awp_loop (fun x : Nat × List (Value × V) => ⟨upd (upd (upd (upd (upd emp 0 (tC (.ptr 0 0 0 0))) 3 (tC (.ptr 10 0 0 0))) 57 (tC (.r (.rd 1 (ints z.cells))))) 58 (tI z.cells.length)) 59 (tI x.1), upd (mkK { m with eZ := x.2 }) 10 (.row 0 5 [(encZone z).map C.r]), 11⟩) (fun x => z.cells.length - x.1)
            (fun x => x.1 ≤ z.cells.length ∧ IMap x.2 (fun n => if (m.zs.any (fun y => decide (n ∈ y.cells)) || decide (n ∈ z.cells.take x.1)) = true then some vT else none)) (0, m.eZ) ⟨Nat.zero_le _, hmi.zm.congr (fun n => by simp)⟩ ?_ ?_
          · exact Weak.cutTm (by repeat (first | refine TmCut.cons rfl ?_ | refine TmCut.cons (by simp [upd, *]; done) ?_ | exact TmCut.nil))
          · rintro ⟨i, es⟩ ⟨hi2, hes⟩
            simp only at hi2 hes
            simp only [go_sem, s67_3, ↓reduceIte, reduceCtorEq, Nat.reduceEqDiff, Nat.reduceAdd, Nat.reduceSub, Nat.reduceMul, Nat.reduceLT, Nat.reduceLeDiff, Int.reduceToNat]
            refine twoQ_at (fun g2 => ?_) (fun g2 => ?_)
            · have hi' : i < z.cells.length := by simpa using g2
              simp only [go_sem, s67_2, mkK0, mkBox, mkK3, ints_len, ints_at hi', Int.toNat_natCast, ki_ok', hes.1, ↓reduceIte, reduceCtorEq, Nat.reduceEqDiff, Nat.reduceAdd, Nat.reduceSub, Nat.reduceMul, Nat.reduceLT, Nat.reduceLeDiff, Int.reduceToNat]
              rw [mkK_box]
              refine ⟨⟨by omega, by omega⟩, (i + 1, _), ⟨by simp only; omega, (hes.set (z.cells.getD i 0) vT rfl).congr (zm_step hi')⟩, by simp only; omega, ?_⟩
              rw [wrap_i (by omega) (by omega)]
              exact Weak.cutTm (by repeat (first | refine TmCut.cons rfl ?_ | refine TmCut.cons (by simp [upd, *]; done) ?_ | exact TmCut.nil))
            · have hi' : i = z.cells.length := by simp at g2; omega
              subst hi'
              simp only [go_sem, s67_1, mkK0, mkBox, mkK4, mkK6, hmi.nm.1, ks_ok, encZone, evAppend, srcRows, rowsOf, rowC_len, ↓reduceIte, reduceCtorEq, Nat.reduceEqDiff, Nat.reduceAdd, Nat.reduceSub, Nat.reduceMul, Nat.reduceLT, Nat.reduceLeDiff, Int.reduceToNat]
              have e1 : (m.zs ++ [z]).length = m.zs.length + 1 := by simp
              refine ⟨by omega, make_ret (m' := { m with zs := m.zs ++ [z], vz := m.vz + 1, eZ := es, eN := mset m.eN (.string z.name) (.x (cV (.int .i64 m.zs.length))) }) ⟨hes.congr (fun n => ?_), hmi.sm, hmi.rm, all_mset (ks_ok _) _ hmi.nm.1, all_mset rfl _ hmi.nm.2⟩ (fun _ => ⟨hadd, es, _, rfl⟩) (by decide) (fun i hi => ?_)⟩
              · rw [List.take_length]
                simp
              · have hc : i = 0 ∨ i = 1 ∨ i = 2 ∨ i = 3 ∨ i = 4 ∨ i = 5 ∨ i = 6 ∨ i = 7 ∨ i = 8 ∨ i = 9 := by omega
                rcases hc with rfl | rfl | rfl | rfl | rfl | rfl | rfl | rfl | rfl | rfl
                · rw [mkK0]; simp only [mkBox, e1]; rfl
                · rfl
                · rfl
                · rfl
                · rfl
                · rfl
                · rw [mkK6]; simp only [← rowC_app]; rfl
                · rfl
                · rfl
                · rfl
end Go.Proofs.Ytcocbifjjafknaa.AL

/- The maker of sites: rules, shelves, robots. -/
set_option linter.unusedSimpArgs false
set_option linter.unusedVariables false
namespace Go.Proofs.Ytcocbifjjafknaa.AL
open Go
variable {m : MK}

theorem rowC_cast {α : Type} [Inhabited α] {f : α → List R} {n : Nat} {K : KMap} {id v : Nat} {l : List α} (hf : ∀ x, (f x).length = n) (hK : K id = some (.row v n (rowC f l))) : CastC K (.own id v 0 l.length) (.r (.rd n (l.map f))) := by
  refine .inr ⟨_, rfl, .own hK (by rw [rowC_len]; omega) (by simp) (fun y hy => ?_) (fun i k c r hi hc hr => ?_)⟩
  · simp only [List.mem_map] at hy
    obtain ⟨x, _, rfl⟩ := hy
    exact hf x
  · rw [Nat.zero_add, rowC_at hi] at hc
    rw [rows_at hi] at hr
    simp only [List.getElem?_map, Option.map_eq_some_iff] at hc
    obtain ⟨r', h1, rfl⟩ := hc
    rw [hr] at h1
    cases h1
    exact .r

def ApartA (m : MK) (x : ApartD) (e : Int) (m' : MK) : Prop := e = 0 → apartL m.ap x.a x.b = false ∧ m' = { m with ap := m.ap ++ [x], va := m.va + 1 }

theorem f68 (hmi : MI m) (x : ApartD) (hl : m.ap.length ≤ 1000000) : Spec Try.prog 68 [tC (.ptr 0 0 0 0), .v (.agg ((encApart x).map C.r))] (mkK m) 10 (MakeQ (ApartA m x)) := by
  refine Spec.of_awp hm Try.func68 s68_ok (by simp [s68]) ?_
  simp only [go_sem, s68, encApart, ↓reduceIte, reduceCtorEq, Nat.reduceEqDiff, Nat.reduceAdd, Nat.reduceSub, Nat.reduceMul, Nat.reduceLT, Nat.reduceLeDiff, Int.reduceToNat]
  refine Pure.call (f63 x.a) (liftA_refl rfl) ?_
  rintro _ ⟨b, rfl, _⟩ _
  simp only [go_sem, s68_10, ↓reduceIte, reduceCtorEq, Nat.reduceEqDiff, Nat.reduceAdd, Nat.reduceSub, Nat.reduceMul, Nat.reduceLT, Nat.reduceLeDiff, Int.reduceToNat]
  have main : ∀ {tm : Nat → Option T}, tm 0 = some (tC (.ptr 0 0 0 0)) → tm 3 = some (tC (.ptr 10 0 0 0)) → awp Try.prog 10 s68_5 ⟨tm, upd (mkK m) 10 (.row 0 2 [[.r (.val (.string x.a)), .r (.val (.string x.b))]]), 11⟩ (retQ 10 [SRes.tmp 4] (MakeQ (ApartA m x))) := by
    intro tm h0 h3
    simp only [go_sem, s68_5, h0, h3, mkK0, mkBox, ↓reduceIte, reduceCtorEq, Nat.reduceEqDiff, Nat.reduceAdd, Nat.reduceSub, Nat.reduceMul, Nat.reduceLT, Nat.reduceLeDiff, Int.reduceToNat]
    refine Spec.cast (f90 m.ap x.a x.b (by omega)) ?_ ?_ ?_
    · exact ⟨rowC_cast (fun x => rfl) rfl, .inl ⟨rfl, rfl⟩, .inl ⟨rfl, rfl⟩, trivial⟩
    · rintro d K1 N1 ⟨rfl, h2, rfl, rfl⟩
      exact ⟨rfl, fun id o h => by cases h⟩
    · rintro d K1 N1 ⟨rfl, h2, rfl, rfl⟩
      rw [joinK_nil (fun i hi => by rw [upd_ne _ _ (by omega)]; cases h : mkK m i with | none => rfl | some o => exact absurd (hmi.wf i o h).1 (by omega))]
      simp only [go_sem, s68_4, s68_3, T.ren, V.ren, C.ren, ↓reduceIte, reduceCtorEq, Nat.reduceEqDiff, Nat.reduceAdd, Nat.reduceSub, Nat.reduceMul, Nat.reduceLT, Nat.reduceLeDiff, Int.reduceToNat]
      refine twoQ_at (fun g => ?_) (fun g => ?_)
      · simp only [go_sem, s68_2, ↓reduceIte, reduceCtorEq, Nat.reduceEqDiff, Nat.reduceAdd, Nat.reduceSub, Nat.reduceMul, Nat.reduceLT, Nat.reduceLeDiff, Int.reduceToNat]
        exact make_ret hmi (fun h => by cases h) (by decide) (fun i hi => upd_ne _ _ (by omega))
      · simp only [go_sem, s68_1, h0, h3, mkK0, mkBox, mkK7, evAppend, srcRows, rowsOf, rowC_len, ↓reduceIte, reduceCtorEq, Nat.reduceEqDiff, Nat.reduceAdd, Nat.reduceSub, Nat.reduceMul, Nat.reduceLT, Nat.reduceLeDiff, Int.reduceToNat]
        have e1 : (m.ap ++ [x]).length = m.ap.length + 1 := by simp
        refine ⟨by omega, make_ret (m' := { m with ap := m.ap ++ [x], va := m.va + 1 }) ⟨hmi.zm, hmi.sm, hmi.rm, hmi.nm⟩ (fun _ => ⟨g, rfl⟩) (by decide) (fun i hi => ?_)⟩
        have hc : i = 0 ∨ i = 1 ∨ i = 2 ∨ i = 3 ∨ i = 4 ∨ i = 5 ∨ i = 6 ∨ i = 7 ∨ i = 8 ∨ i = 9 := by omega
        rcases hc with rfl | rfl | rfl | rfl | rfl | rfl | rfl | rfl | rfl | rfl
        · rw [mkK0]; simp only [mkBox, e1]; rfl
        · rfl
        · rfl
        · rfl
        · rfl
        · rfl
        · rfl
        · rw [mkK7]; simp only [← rowC_app]; rfl
        · rfl
        · rfl
  have bad : ∀ {tm : Nat → Option T}, tm 14 = some (tB true) → awp Try.prog 10 s68_7 ⟨tm, upd (mkK m) 10 (.row 0 2 [[.r (.val (.string x.a)), .r (.val (.string x.b))]]), 11⟩ (seqQ (fun s => awp Try.prog 10 s68_5 s (retQ 10 [SRes.tmp 4] (MakeQ (ApartA m x)))) (retQ 10 [SRes.tmp 4] (MakeQ (ApartA m x)))) := by
    intro tm h
    simp only [go_sem, s68_7, s68_6, h, ↓reduceIte, reduceCtorEq, Nat.reduceEqDiff, Nat.reduceAdd, Nat.reduceSub, Nat.reduceMul, Nat.reduceLT, Nat.reduceLeDiff, Int.reduceToNat]
    exact make_ret hmi (fun h => by cases h) (by decide) (fun i hi => upd_ne _ _ (by omega))
  refine guardQ_at (fun g1 => ?_) (fun g1 => ?_)
  · simp only [go_sem, s68_9, ↓reduceIte, reduceCtorEq, Nat.reduceEqDiff, Nat.reduceAdd, Nat.reduceSub, Nat.reduceMul, Nat.reduceLT, Nat.reduceLeDiff, Int.reduceToNat]
    refine Pure.call (f63 x.b) (liftA_refl rfl) ?_
    rintro _ ⟨b2, rfl, _⟩ _
    cases b2 with
    | true =>
      simp only [go_sem, s68_8, s68_7, ↓reduceIte, reduceCtorEq, Nat.reduceEqDiff, Nat.reduceAdd, Nat.reduceSub, Nat.reduceMul, Nat.reduceLT, Nat.reduceLeDiff, Int.reduceToNat]
      exact main rfl rfl
    | false =>
      simp only [go_sem, s68_8, ↓reduceIte, reduceCtorEq, Nat.reduceEqDiff, Nat.reduceAdd, Nat.reduceSub, Nat.reduceMul, Nat.reduceLT, Nat.reduceLeDiff, Int.reduceToNat]
      exact bad rfl
  · simp only [go_sem, s68_9, s68_8, ↓reduceIte, reduceCtorEq, Nat.reduceEqDiff, Nat.reduceAdd, Nat.reduceSub, Nat.reduceMul, Nat.reduceLT, Nat.reduceLeDiff, Int.reduceToNat]
    exact bad rfl

def ShelfA (m : MK) (x : ShelfD) (e : Int) (m' : MK) : Prop := e = 0 → isM m.f x.cell = true ∧ standsK (kindM m.f x.cell) = true ∧ (∀ i, i < m.sh.length → (m.sh.getD i default).cell ≠ x.cell) ∧ ∃ es, m' = { m with sh := m.sh ++ [x], vs := m.vs + 1, eS := es }

theorem getD_app_lt {α : Type} [Inhabited α] {l : List α} {x : α} {i : Nat} (h : i < l.length) : (l ++ [x]).getD i default = l.getD i default := by
  simp only [List.getD_eq_getElem?_getD, List.getElem?_append_left h]
theorem getD_app_eq {α : Type} [Inhabited α] {l : List α} {x : α} : (l ++ [x]).getD l.length default = x := by
  simp [List.getD_eq_getElem?_getD]

theorem find_congr {α : Type} {p q : α → Bool} : ∀ {l : List α}, (∀ a, a ∈ l → p a = q a) → l.find? p = l.find? q
  | [], _ => rfl
  | a :: l, h => by
    rw [List.find?_cons, List.find?_cons, h a (by simp), find_congr (l := l) (fun b hb => h b (by simp [hb]))]

theorem find_app {α : Type} [Inhabited α] {l : List α} {x : α} {p : α → Bool} : ((List.range (l ++ [x]).length).find? fun i => p ((l ++ [x]).getD i default)) = ((List.range l.length).find? fun i => p (l.getD i default)).or (if p x then some l.length else none) := by
  rw [List.length_append, List.length_singleton, List.range_succ, List.find?_append]
  have e : (List.range l.length).find? (fun i => p ((l ++ [x]).getD i default)) = (List.range l.length).find? (fun i => p (l.getD i default)) := by
    refine find_congr fun i hi => ?_
    rw [getD_app_lt (by simpa using hi)]
  rw [e]
  congr 1
  simp only [List.find?_cons, getD_app_eq, List.find?_nil]
  cases p x <;> rfl

theorem f69 (hmi : MI m) (x : ShelfD) (hl : m.sh.length ≤ 1000000) : Spec Try.prog 69 [tC (.ptr 0 0 0 0), .v (.agg ((encShelf x).map C.r))] (mkK m) 10 (MakeQ (ShelfA m x)) := by
  refine Spec.of_awp hm Try.func69 s69_ok (by simp [s69]) ?_
  simp only [go_sem, s69, encShelf, ↓reduceIte, reduceCtorEq, Nat.reduceEqDiff, Nat.reduceAdd, Nat.reduceSub, Nat.reduceMul, Nat.reduceLT, Nat.reduceLeDiff, Int.reduceToNat]
  have main : ∀ {tm : Nat → Option T}, tm 0 = some (tC (.ptr 0 0 0 0)) → tm 3 = some (tC (.ptr 10 0 0 0)) → awp Try.prog 10 s69_13 ⟨tm, upd (mkK m) 10 (.row 0 2 [[.r (.val (.int .i64 x.cell)), .r (.val (.string x.cls))]]), 11⟩ (retQ 10 [SRes.tmp 4] (MakeQ (ShelfA m x))) := by
    intro tm h0 h3
    simp only [go_sem, s69_13, h0, h3, ↓reduceIte, reduceCtorEq, Nat.reduceEqDiff, Nat.reduceAdd, Nat.reduceSub, Nat.reduceMul, Nat.reduceLT, Nat.reduceLeDiff, Int.reduceToNat]
    refine PureK.callM hmi (f88 hmi x.cell) (HasM.self.upd (by decide) _) (by decide) rfl (fun a ha => ?_) ?_
    · simp only [List.mem_cons, List.not_mem_nil, or_false] at ha
      rcases ha with rfl | rfl <;> rfl
    rintro _ rfl _
    simp only [go_sem, s69_12, s69_11, ↓reduceIte, reduceCtorEq, Nat.reduceEqDiff, Nat.reduceAdd, Nat.reduceSub, Nat.reduceMul, Nat.reduceLT, Nat.reduceLeDiff, Int.reduceToNat]
    refine twoQ_at (fun g1 => ?_) (fun g1 => ?_)
    · simp only [go_sem, s69_10, ↓reduceIte, reduceCtorEq, Nat.reduceEqDiff, Nat.reduceAdd, Nat.reduceSub, Nat.reduceMul, Nat.reduceLT, Nat.reduceLeDiff, Int.reduceToNat]
      exact make_ret hmi (fun h => by cases h) (by decide) (fun i hi => upd_ne _ _ (by omega))
    simp only [Bool.not_eq_false'] at g1
    simp only [go_sem, s69_9, ↓reduceIte, reduceCtorEq, Nat.reduceEqDiff, Nat.reduceAdd, Nat.reduceSub, Nat.reduceMul, Nat.reduceLT, Nat.reduceLeDiff, Int.reduceToNat]
    refine Pure.callS (f91 _) rfl ?_
    simp only [go_sem, s69_8, s69_7, ↓reduceIte, reduceCtorEq, Nat.reduceEqDiff, Nat.reduceAdd, Nat.reduceSub, Nat.reduceMul, Nat.reduceLT, Nat.reduceLeDiff, Int.reduceToNat]
    refine twoQ_at (fun g2 => ?_) (fun g2 => ?_)
    · simp only [go_sem, s69_6, ↓reduceIte, reduceCtorEq, Nat.reduceEqDiff, Nat.reduceAdd, Nat.reduceSub, Nat.reduceMul, Nat.reduceLT, Nat.reduceLeDiff, Int.reduceToNat]
      exact make_ret hmi (fun h => by cases h) (by decide) (fun i hi => upd_ne _ _ (by omega))
    simp only [Bool.not_eq_false'] at g2
    have hsm := hmi.sm.2.2 x.cell
    unfold ki at hsm
    cases hx : (List.range m.sh.length).find? (fun i => decide ((m.sh.getD i default).cell = x.cell)) with
    | some i0 =>
      simp only [hx, Option.map_some] at hsm
      simp only [go_sem, s69_5, s69_4, h0, h3, mkK0, mkBox, mkK1, hmi.sm.1, ki_ok', hsm, Option.isSome_some, ↓reduceIte, reduceCtorEq, Nat.reduceEqDiff, Nat.reduceAdd, Nat.reduceSub, Nat.reduceMul, Nat.reduceLT, Nat.reduceLeDiff, Int.reduceToNat]
      exact make_ret hmi (fun h => by cases h) (by decide) (fun i hi => upd_ne _ _ (by omega))
    | none =>
      simp only [hx, Option.map_none] at hsm
      simp only [go_sem, s69_5, s69_3, h0, h3, mkK0, mkBox, mkK1, hmi.sm.1, ki_ok', hsm, Option.isSome_none, ↓reduceIte, reduceCtorEq, Nat.reduceEqDiff, Nat.reduceAdd, Nat.reduceSub, Nat.reduceMul, Nat.reduceLT, Nat.reduceLeDiff, Int.reduceToNat]
      refine twoQ_at (fun g3 => ?_) (fun g3 => ?_)
      · simp only [go_sem, s69_2, ↓reduceIte, reduceCtorEq, Nat.reduceEqDiff, Nat.reduceAdd, Nat.reduceSub, Nat.reduceMul, Nat.reduceLT, Nat.reduceLeDiff, Int.reduceToNat]
        exact make_ret hmi (fun h => by cases h) (by decide) (fun i hi => upd_ne _ _ (by omega))
      simp only [go_sem, s69_1, h0, h3, mkK0, mkBox, mkK1, mkK8, hmi.sm.1, ki_ok', evAppend, srcRows, rowsOf, rowC_len, ↓reduceIte, reduceCtorEq, Nat.reduceEqDiff, Nat.reduceAdd, Nat.reduceSub, Nat.reduceMul, Nat.reduceLT, Nat.reduceLeDiff, Int.reduceToNat]
      have e1 : (m.sh ++ [x]).length = m.sh.length + 1 := by simp
      have hno : ∀ i, i < m.sh.length → (m.sh.getD i default).cell ≠ x.cell := fun i hi he => by
        rw [List.find?_range_eq_none] at hx
        have := hx i hi
        simp only [he, decide_true, Bool.not_true, Bool.false_eq_true] at this
      refine ⟨by omega, make_ret (m' := { m with sh := m.sh ++ [x], vs := m.vs + 1, eS := mset m.eS (.int .i64 x.cell) (.x (cV (.int .i64 m.sh.length))) }) ⟨hmi.zm, (hmi.sm.set x.cell (iV m.sh.length) rfl).congr (fun c => ?_), hmi.rm, hmi.nm⟩ (fun _ => ⟨g1, g2, hno, _, rfl⟩) (by decide) (fun i hi => ?_)⟩
      · rw [find_app (p := fun y : ShelfD => decide (y.cell = c))]
        by_cases e : c = x.cell
        · subst e
          rw [if_pos rfl, hx]
          simp
        · rw [if_neg e]
          have : ¬ x.cell = c := fun h => e h.symm
          simp [this]
      have hc : i = 0 ∨ i = 1 ∨ i = 2 ∨ i = 3 ∨ i = 4 ∨ i = 5 ∨ i = 6 ∨ i = 7 ∨ i = 8 ∨ i = 9 := by omega
      rcases hc with rfl | rfl | rfl | rfl | rfl | rfl | rfl | rfl | rfl | rfl
      · rw [mkK0]; simp only [mkBox, e1]; rfl
      · rfl
      · rfl
      · rfl
      · rfl
      · rfl
      · rfl
      · rfl
      · rw [mkK8]; simp only [← rowC_app]; rfl
      · rfl
  refine guardQ_at (fun g1 => ?_) (fun g1 => ?_)
  · simp only [go_sem, s69_17, ↓reduceIte, reduceCtorEq, Nat.reduceEqDiff, Nat.reduceAdd, Nat.reduceSub, Nat.reduceMul, Nat.reduceLT, Nat.reduceLeDiff, Int.reduceToNat]
    refine Pure.call (f63 x.cls) (liftA_refl rfl) ?_
    rintro _ ⟨b2, rfl, _⟩ _
    cases b2 with
    | true =>
      simp only [go_sem, s69_16, s69_15, ↓reduceIte, reduceCtorEq, Nat.reduceEqDiff, Nat.reduceAdd, Nat.reduceSub, Nat.reduceMul, Nat.reduceLT, Nat.reduceLeDiff, Int.reduceToNat]
      exact main rfl rfl
    | false =>
      simp only [go_sem, s69_16, s69_15, s69_14, ↓reduceIte, reduceCtorEq, Nat.reduceEqDiff, Nat.reduceAdd, Nat.reduceSub, Nat.reduceMul, Nat.reduceLT, Nat.reduceLeDiff, Int.reduceToNat]
      exact make_ret hmi (fun h => by cases h) (by decide) (fun i hi => upd_ne _ _ (by omega))
  · simp only [go_sem, s69_17, s69_16, s69_15, ↓reduceIte, reduceCtorEq, Nat.reduceEqDiff, Nat.reduceAdd, Nat.reduceSub, Nat.reduceMul, Nat.reduceLT, Nat.reduceLeDiff, Int.reduceToNat]
    exact main rfl rfl

def RobotA (m : MK) (x : StartD) (e : Int) (m' : MK) : Prop := e = 0 → isM m.f x.cell = true ∧ 0 ≤ x.charge ∧ x.charge ≤ 1000000 ∧ kindM m.f x.cell ≠ 0 ∧ m.rb.any (fun r => decide (r.cell = x.cell)) = false ∧ ∃ es, m' = { m with rb := m.rb ++ [x], vr := m.vr + 1, eR := es }

theorem f70 (hmi : MI m) (x : StartD) (hl : m.rb.length ≤ 1000000) : Spec Try.prog 70 [tC (.ptr 0 0 0 0), .v (.agg ((encStart x).map C.r))] (mkK m) 10 (MakeQ (RobotA m x)) := by
  refine Spec.of_awp hm Try.func70 s70_ok (by simp [s70]) ?_
  simp only [go_sem, s70, encStart, ↓reduceIte, reduceCtorEq, Nat.reduceEqDiff, Nat.reduceAdd, Nat.reduceSub, Nat.reduceMul, Nat.reduceLT, Nat.reduceLeDiff, Int.reduceToNat]
  refine PureK.callM hmi (f88 hmi x.cell) (HasM.self.upd (by decide) _) (by decide) rfl (fun a ha => ?_) ?_
  · simp only [List.mem_cons, List.not_mem_nil, or_false] at ha
    rcases ha with rfl | rfl <;> rfl
  rintro _ rfl _
  simp only [go_sem, s70_13, s70_12, ↓reduceIte, reduceCtorEq, Nat.reduceEqDiff, Nat.reduceAdd, Nat.reduceSub, Nat.reduceMul, Nat.reduceLT, Nat.reduceLeDiff, Int.reduceToNat]
  refine guardQ_at (fun g1 => ?_) (fun g1 => ?_)
  · simp only [Bool.not_eq_false'] at g1
    simp only [go_sem, s70_11, ↓reduceIte, reduceCtorEq, Nat.reduceEqDiff, Nat.reduceAdd, Nat.reduceSub, Nat.reduceMul, Nat.reduceLT, Nat.reduceLeDiff, Int.reduceToNat]
    refine Pure.callS (f64 _ _ _) rfl ?_
    simp only [go_sem, s70_10, s70_9, ↓reduceIte, reduceCtorEq, Nat.reduceEqDiff, Nat.reduceAdd, Nat.reduceSub, Nat.reduceMul, Nat.reduceLT, Nat.reduceLeDiff, Int.reduceToNat]
    refine twoQ_at (fun g2 => ?_) (fun g2 => ?_)
    · simp only [go_sem, s70_8, ↓reduceIte, reduceCtorEq, Nat.reduceEqDiff, Nat.reduceAdd, Nat.reduceSub, Nat.reduceMul, Nat.reduceLT, Nat.reduceLeDiff, Int.reduceToNat]
      exact make_ret hmi (fun h => by cases h) (by decide) (fun i hi => upd_ne _ _ (by omega))
    simp only [Bool.not_eq_false', Bool.and_eq_true, decide_eq_true_eq] at g2
    simp only [go_sem, s70_7, ↓reduceIte, reduceCtorEq, Nat.reduceEqDiff, Nat.reduceAdd, Nat.reduceSub, Nat.reduceMul, Nat.reduceLT, Nat.reduceLeDiff, Int.reduceToNat]
    refine twoQ_at (fun g3 => ?_) (fun g3 => ?_)
    · simp only [go_sem, s70_6, ↓reduceIte, reduceCtorEq, Nat.reduceEqDiff, Nat.reduceAdd, Nat.reduceSub, Nat.reduceMul, Nat.reduceLT, Nat.reduceLeDiff, Int.reduceToNat]
      exact make_ret hmi (fun h => by cases h) (by decide) (fun i hi => upd_ne _ _ (by omega))
    simp only [decide_eq_false_iff_not] at g3
    have hrm : (mfind m.eR (Value.int .i64 x.cell)).getD (V.x (C.r (R.val (Value.bool false)))) = V.x (C.r (R.val (Value.bool (m.rb.any (fun r => decide (r.cell = x.cell)))))) := by
      have := hmi.rm.2.2 x.cell
      unfold ki at this
      rw [this]
      dsimp only
      cases m.rb.any (fun r => decide (r.cell = x.cell)) <;> rfl
    simp only [go_sem, s70_5, mkK0, mkBox, mkK2, hmi.rm.1, ki_ok', hrm, ↓reduceIte, reduceCtorEq, Nat.reduceEqDiff, Nat.reduceAdd, Nat.reduceSub, Nat.reduceMul, Nat.reduceLT, Nat.reduceLeDiff, Int.reduceToNat]
    refine twoQ_at (fun g4 => ?_) (fun g4 => ?_)
    · simp only [go_sem, s70_4, ↓reduceIte, reduceCtorEq, Nat.reduceEqDiff, Nat.reduceAdd, Nat.reduceSub, Nat.reduceMul, Nat.reduceLT, Nat.reduceLeDiff, Int.reduceToNat]
      exact make_ret hmi (fun h => by cases h) (by decide) (fun i hi => upd_ne _ _ (by omega))
    simp only [go_sem, s70_3, mkK0, mkBox, ↓reduceIte, reduceCtorEq, Nat.reduceEqDiff, Nat.reduceAdd, Nat.reduceSub, Nat.reduceMul, Nat.reduceLT, Nat.reduceLeDiff, Int.reduceToNat]
    refine twoQ_at (fun g5 => ?_) (fun g5 => ?_)
    · simp only [go_sem, s70_2, ↓reduceIte, reduceCtorEq, Nat.reduceEqDiff, Nat.reduceAdd, Nat.reduceSub, Nat.reduceMul, Nat.reduceLT, Nat.reduceLeDiff, Int.reduceToNat]
      exact make_ret hmi (fun h => by cases h) (by decide) (fun i hi => upd_ne _ _ (by omega))
    simp only [go_sem, s70_1, mkK0, mkBox, mkK2, mkK9, hmi.rm.1, ki_ok', evAppend, srcRows, rowsOf, rowC_len, ↓reduceIte, reduceCtorEq, Nat.reduceEqDiff, Nat.reduceAdd, Nat.reduceSub, Nat.reduceMul, Nat.reduceLT, Nat.reduceLeDiff, Int.reduceToNat]
    have e1 : (m.rb ++ [x]).length = m.rb.length + 1 := by simp
    refine ⟨by omega, make_ret (m' := { m with rb := m.rb ++ [x], vr := m.vr + 1, eR := mset m.eR (.int .i64 x.cell) vT }) ⟨hmi.zm, hmi.sm, (hmi.rm.set x.cell vT rfl).congr (fun c => ?_), hmi.nm⟩ (fun _ => ⟨g1, g2.1, g2.2, g3, g4, _, rfl⟩) (by decide) (fun i hi => ?_)⟩
    · rw [List.any_append]
      by_cases e : c = x.cell
      · subst e; simp
      · have : ¬ x.cell = c := fun h => e h.symm
        simp [e, this]
    have hc : i = 0 ∨ i = 1 ∨ i = 2 ∨ i = 3 ∨ i = 4 ∨ i = 5 ∨ i = 6 ∨ i = 7 ∨ i = 8 ∨ i = 9 := by omega
    rcases hc with rfl | rfl | rfl | rfl | rfl | rfl | rfl | rfl | rfl | rfl
    · rw [mkK0]; simp only [mkBox, e1]; rfl
    · rfl
    · rfl
    · rfl
    · rfl
    · rfl
    · rfl
    · rfl
    · rfl
    · rw [mkK9]; simp only [← rowC_app]; rfl
  · simp only [go_sem, s70_11, s70_10, s70_9, s70_8, ↓reduceIte, reduceCtorEq, Nat.reduceEqDiff, Nat.reduceAdd, Nat.reduceSub, Nat.reduceMul, Nat.reduceLT, Nat.reduceLeDiff, Int.reduceToNat]
    exact make_ret hmi (fun h => by cases h) (by decide) (fun i hi => upd_ne _ _ (by omega))
end Go.Proofs.Ytcocbifjjafknaa.AL

/- The maker of sites: what is checked at the end. -/
set_option linter.unusedSimpArgs false
set_option linter.unusedVariables false
namespace Go.Proofs.Ytcocbifjjafknaa.AL
open Go
variable {m : MK}

def SameM (K : KMap) (m : MK) : Prop := ∀ i, i < 10 → K i = mkK m i
theorem SameM.kle {K : KMap} (h : SameM K m) (hmi : MI m) : KLe 10 (mkK m) K := fun i o hk => ⟨(hmi.wf i o hk).1, (h i (hmi.wf i o hk).1).trans hk, (hmi.wf i o hk).2⟩

theorem f73 (hmi : MI m) (hl : m.f.kind.length ≤ 1000000) : PureK Try.prog 73 [tC (.ptr 0 0 0 0)] (mkK m) 10 (· = tB (decide ((3 : Int) ∈ m.f.kind))) := by
  refine PureK.of_awp hm Try.func73 s73_ok (by simp [s73]) ?_
  simp only [go_sem, s73, mkK0, mkBox, ↓reduceIte, reduceCtorEq, Nat.reduceEqDiff, Nat.reduceAdd, Nat.reduceSub, Nat.reduceMul, Nat.reduceLT, Nat.reduceLeDiff, Int.reduceToNat]
  refine Pure.callS (f93 m.f.kind 3 (by omega)) rfl ?_
  simp only [go_sem, s73_1, ↓reduceIte, reduceCtorEq, Nat.reduceEqDiff, Nat.reduceAdd, Nat.reduceSub, Nat.reduceMul, Nat.reduceLT, Nat.reduceLeDiff, Int.reduceToNat]
  exact ⟨rfl, KLe.self hmi.wf⟩

/-- IndexFunc over own rows. -/
theorem f52o {K : KMap} {N g id v : Nat} {caps : List Nat} (xs : List (List C)) (p : Nat → Bool) (hl : xs.length ≤ 1000000) (hid : K id = some (.row v 5 xs)) (hcaps : caps.all (· < N) = true) (hK : ∀ i o, K i = some o → i < N ∧ o.below N = true)
    (hrow : ∀ i, i < xs.length → (xs.getD i []).length = 5) (hp : ∀ i, i < xs.length → PureK Try.prog g (.v (.agg (xs.getD i [])) :: caps.map fun id => tC (.ptr id 0 0 0)) K N (· = tB (p i))) :
    PureK Try.prog 52 [tC (.own id v 0 xs.length), tC (.fn g caps)] K N (· = tI (idxF p xs.length)) := by
  refine PureK.of_awp hm Try.func52 s52_ok (by simp [s52]) ?_
  simp only [go_sem, s52, ↓reduceIte, reduceCtorEq, Nat.reduceEqDiff, Nat.reduceAdd, Nat.reduceSub, Nat.reduceMul, Nat.reduceLT, Nat.reduceLeDiff, Int.reduceToNat]
  refine awp_loop (fun i : Nat => ⟨upd (upd (upd (upd emp 0 (tC (.own id v 0 xs.length))) 1 (tC (.fn g caps))) 7 (tI xs.length)) 8 (tI i), K, N⟩) (fun i => xs.length - i) (fun i => i ≤ xs.length ∧ ∀ j, j < i → p j = false) 0 ⟨Nat.zero_le _, fun j hj => by omega⟩ ?_ ?_
  · exact Weak.cutTm (by repeat (first | refine TmCut.cons rfl ?_ | refine TmCut.cons (by simp [upd, *]; done) ?_ | exact TmCut.nil))
  · intro i ⟨hi, hno⟩
    simp only [go_sem, s52_7, ↓reduceIte, reduceCtorEq, Nat.reduceEqDiff, Nat.reduceAdd, Nat.reduceSub, Nat.reduceMul, Nat.reduceLT, Nat.reduceLeDiff, Int.reduceToNat]
    refine twoQ_at (fun h => ?_) (fun h => ?_)
    · have hi' : i < xs.length := by simpa using h
      have hx : (xs.getD i []).take 5 = xs.getD i [] := List.take_of_length_le (by rw [hrow i hi']; exact Nat.le_refl _)
      simp only [go_sem, s52_6, Int.toNat_natCast, evIaddr, evLoad, hid, hx, hrow i hi', ↓reduceIte, reduceCtorEq, Nat.reduceEqDiff, Nat.reduceAdd, Nat.reduceSub, Nat.reduceMul, Nat.reduceLT, Nat.reduceLeDiff, Int.reduceToNat]
      refine ⟨⟨by omega, by omega, Nat.le_refl _⟩, hi', ?_⟩
      refine PureK.callId (hp i hi') hK (fun a ha => ?_) ?_
      · rcases List.mem_cons.1 ha with rfl | ha
        · have hb := (hK id _ hid).2
          simp only [AObj.below, List.all_eq_true] at hb
          have hmem : xs.getD i [] ∈ xs := by
            rw [List.getD_eq_getElem?_getD, List.getElem?_eq_getElem hi']; exact List.getElem_mem hi'
          simp only [T.below, V.below, List.all_eq_true]
          exact hb _ hmem
        · obtain ⟨id', hid', rfl⟩ := List.mem_map.1 ha
          simp only [List.all_eq_true] at hcaps
          simpa [T.below, V.below, C.below] using hcaps id' hid'
      · rintro _ rfl _
        simp only [go_sem, s52_5, s52_4, s52_3, ↓reduceIte, reduceCtorEq, Nat.reduceEqDiff, Nat.reduceAdd, Nat.reduceSub, Nat.reduceMul, Nat.reduceLT, Nat.reduceLeDiff, Int.reduceToNat]
        refine twoQ_at (fun h2 => ?_) (fun h2 => ?_)
        · refine ⟨rfl, KLe.self hK, ?_⟩
          rw [idxF_hit hi' h2 hno]
        · simp only [go_sem, s52_2, ↓reduceIte, reduceCtorEq, Nat.reduceEqDiff, Nat.reduceAdd, Nat.reduceSub, Nat.reduceMul, Nat.reduceLT, Nat.reduceLeDiff, Int.reduceToNat]
          refine ⟨i + 1, ⟨by omega, fun j hj => ?_⟩, by omega, ?_⟩
          · by_cases e : j = i
            · subst e; exact h2
            · exact hno j (by omega)
          · rw [wrap_i (by omega) (by omega)]
            exact Weak.cutTm (by repeat (first | refine TmCut.cons rfl ?_ | refine TmCut.cons (by simp [upd, *]; done) ?_ | exact TmCut.nil))
    · have hi' : i = xs.length := by simp at h; omega
      simp only [go_sem, s52_1, ↓reduceIte, reduceCtorEq, Nat.reduceEqDiff, Nat.reduceAdd, Nat.reduceSub, Nat.reduceMul, Nat.reduceLT, Nat.reduceLeDiff, Int.reduceToNat]
      refine ⟨rfl, KLe.self hK, ?_⟩
      rw [idxF_none (fun j hj => hno j (by omega))]

/-- The first shelf at a cell. -/
def atM (m : MK) (c : Int) : Option Nat := (List.range m.sh.length).find? fun i => decide ((m.sh.getD i default).cell = c)
theorem atM_map (hmi : MI m) (c : Int) : mfind m.eS (Value.int .i64 c) = (atM m c).map iV := hmi.sm.2.2 c

def freeM (m : MK) (c : Int) : Bool := (atM m c).isNone && standsK (kindM m.f c)
def freeN (m : MK) (l : List Int) (n : Nat) : Nat := (List.range n).countP fun i => freeM m (l.getD i 0)
theorem freeN_succ {l : List Int} {n : Nat} : freeN m l (n + 1) = freeN m l n + (if freeM m (l.getD n 0) then 1 else 0) := by
  unfold freeN
  rw [List.range_succ, List.countP_append]
  simp [List.countP_cons]
theorem freeN_le {l : List Int} {n : Nat} : freeN m l n ≤ n := by
  have := List.countP_le_length (p := fun i => freeM m (l.getD i 0)) (l := List.range n)
  simpa [freeN] using this

theorem f92 (hmi : MI m) (z : ZoneD) (hl : z.cells.length ≤ 1000000) (hc : ∀ i, i < z.cells.length → isM m.f (z.cells.getD i 0) = true) :
    PureK Try.prog 92 [.v (.agg ((encZone z).map C.r)), tC (.ptr 10 0 0 0)] (upd (mkK m) 10 (.row 0 1 [[.ptr 0 0 0 0]])) 11 (· = tB (decide ((freeN m z.cells z.cells.length : Int) < z.keep))) := by
  have hK : ∀ i o, (upd (mkK m) 10 (.row 0 1 [[.ptr 0 0 0 0]]) : KMap) i = some o → i < 11 ∧ o.below 11 = true := by
    intro i o hk
    unfold mkK at hk
    simp only [upd, emp] at hk
    repeat (split at hk; · rename_i e; subst e; cases hk; exact ⟨by omega, by first | rfl | exact rowC_bel | exact below_map hmi.nm.2 | exact hmi.zm.bel | exact hmi.sm.bel | exact hmi.rm.bel⟩)
    cases hk
  refine PureK.of_awp hm Try.func92 s92_ok (by simp [s92]) ?_
  simp only [go_sem, s92, encZone, ints_len, ↓reduceIte, reduceCtorEq, Nat.reduceEqDiff, Nat.reduceAdd, Nat.reduceSub, Nat.reduceMul, Nat.reduceLT, Nat.reduceLeDiff, Int.reduceToNat]
  refine awp_loop (fun i : Nat => ⟨upd (upd (upd (upd (upd (upd emp 1 (tC (.ptr 10 0 0 0))) 2 (tC (.ptr 11 0 0 0))) 4 (tI (freeN m z.cells i))) 10 (tC (.r (.rd 1 (ints z.cells))))) 11 (tI z.cells.length)) 12 (tI i), upd (upd (mkK m) 10 (.row 0 1 [[.ptr 0 0 0 0]])) 11 (.row 0 5 [(encZone z).map C.r]), 12⟩) (fun i => z.cells.length - i)
    (fun i => i ≤ z.cells.length) 0 (Nat.zero_le _) ?_ ?_
  · exact Weak.cutTm (by repeat (first | refine TmCut.cons rfl ?_ | refine TmCut.cons (by simp [upd, *]; done) ?_ | exact TmCut.nil))
  · intro i hi
    simp only [go_sem, s92_8, ↓reduceIte, reduceCtorEq, Nat.reduceEqDiff, Nat.reduceAdd, Nat.reduceSub, Nat.reduceMul, Nat.reduceLT, Nat.reduceLeDiff, Int.reduceToNat]
    refine twoQ_at (fun g => ?_) (fun g => ?_)
    · have hi' : i < z.cells.length := by simpa using g
      have hle := freeN_le (m := m) (l := z.cells) (n := i)
      have hm1 := atM_map hmi (z.cells.getD i 0)
      have hci := hc i hi'
      cases hat : atM m (z.cells.getD i 0) with
      | some k =>
        have hfr : freeM m (z.cells.getD i 0) = false := by rw [freeM, hat]; rfl
        rw [hat] at hm1
        simp only [go_sem, s92_7, s92_6, s92_5, s92_4, ints_len, ints_at hi', Int.toNat_natCast, mkK0, mkBox, mkK1, hmi.sm.1, ki_ok', hm1, Option.map_some, Option.isSome_some, Option.getD_some, ↓reduceIte, reduceCtorEq, Nat.reduceEqDiff, Nat.reduceAdd, Nat.reduceSub, Nat.reduceMul, Nat.reduceLT, Nat.reduceLeDiff, Int.reduceToNat]
        simp only [go_sem, s92_2, ↓reduceIte, reduceCtorEq, Nat.reduceEqDiff, Nat.reduceAdd, Nat.reduceSub, Nat.reduceMul, Nat.reduceLT, Nat.reduceLeDiff, Int.reduceToNat]
        refine ⟨⟨by omega, by omega⟩, i + 1, by omega, by omega, ?_⟩
        have e : freeN m z.cells (i + 1) = freeN m z.cells i := by rw [freeN_succ, hfr]; rfl
        rw [wrap_i (by omega) (by omega), e]
        exact Weak.cutTm (by repeat (first | refine TmCut.cons rfl ?_ | refine TmCut.cons (by simp [upd, *]; done) ?_ | exact TmCut.nil))
      | none =>
        rw [hat] at hm1
        have hfr : freeM m (z.cells.getD i 0) = standsK (kindM m.f (z.cells.getD i 0)) := by rw [freeM, hat]; rfl
        simp only [isM, Bool.and_eq_true, decide_eq_true_eq] at hci
        have hkind : m.f.kind.getD (z.cells.getD i 0).toNat 0 = kindM m.f (z.cells.getD i 0) := by rw [kindM, if_pos (by omega)]
        have hlt : (z.cells.getD i 0).toNat < m.f.kind.length := by omega
        simp only [go_sem, s92_7, s92_6, ints_len, ints_at hi', ints_at hlt, Int.toNat_natCast, mkK0, mkBox, mkK1, hmi.sm.1, ki_ok', hm1, Option.map_none, Option.isSome_none, Option.getD_none, hkind, ↓reduceIte, reduceCtorEq, Nat.reduceEqDiff, Nat.reduceAdd, Nat.reduceSub, Nat.reduceMul, Nat.reduceLT, Nat.reduceLeDiff, Int.reduceToNat]
        refine ⟨⟨by omega, by omega⟩, ⟨by omega, by omega⟩, Pure.callS (f91 _) rfl ?_⟩
        simp only [go_sem, s92_5, s92_4, ↓reduceIte, reduceCtorEq, Nat.reduceEqDiff, Nat.reduceAdd, Nat.reduceSub, Nat.reduceMul, Nat.reduceLT, Nat.reduceLeDiff, Int.reduceToNat]
        refine twoQ_at (fun g2 => ?_) (fun g2 => ?_)
        · simp only [go_sem, s92_3, s92_2, ↓reduceIte, reduceCtorEq, Nat.reduceEqDiff, Nat.reduceAdd, Nat.reduceSub, Nat.reduceMul, Nat.reduceLT, Nat.reduceLeDiff, Int.reduceToNat]
          refine ⟨i + 1, by omega, by omega, ?_⟩
          have e : freeN m z.cells (i + 1) = freeN m z.cells i + 1 := by rw [freeN_succ, hfr, g2]; rfl
          rw [wrap_i (n := (i : Int) + 1) (by omega) (by omega), wrap_i (n := (freeN m z.cells i : Int) + 1) (by omega) (by omega), e]
          exact Weak.cutTm (by repeat (first | refine TmCut.cons rfl ?_ | refine TmCut.cons (by simp [upd, *]; done) ?_ | exact TmCut.nil))
        · simp only [go_sem, s92_2, ↓reduceIte, reduceCtorEq, Nat.reduceEqDiff, Nat.reduceAdd, Nat.reduceSub, Nat.reduceMul, Nat.reduceLT, Nat.reduceLeDiff, Int.reduceToNat]
          refine ⟨i + 1, by omega, by omega, ?_⟩
          have e : freeN m z.cells (i + 1) = freeN m z.cells i := by rw [freeN_succ, hfr, g2]; rfl
          rw [wrap_i (n := (i : Int) + 1) (by omega) (by omega), e]
          exact Weak.cutTm (by repeat (first | refine TmCut.cons rfl ?_ | refine TmCut.cons (by simp [upd, *]; done) ?_ | exact TmCut.nil))
    · have hi' : i = z.cells.length := by simp at g; omega
      subst hi'
      simp only [go_sem, s92_1, encZone, ↓reduceIte, reduceCtorEq, Nat.reduceEqDiff, Nat.reduceAdd, Nat.reduceSub, Nat.reduceMul, Nat.reduceLT, Nat.reduceLeDiff, Int.reduceToNat]
      refine ⟨rfl, fun i o hk => ⟨(hK i o hk).1, ?_, (hK i o hk).2⟩⟩
      rw [upd_ne _ _ (by have := (hK i o hk).1; omega)]
      exact hk

theorem f72 (hmi : MI m) (hz : m.zs.length ≤ 1000000) (hl : ∀ i, i < m.zs.length → (m.zs.getD i default).cells.length ≤ 1000000) (hc : ∀ i, i < m.zs.length → ∀ j, j < (m.zs.getD i default).cells.length → isM m.f ((m.zs.getD i default).cells.getD j 0) = true) :
    PureK Try.prog 72 [tC (.ptr 0 0 0 0)] (mkK m) 10 (· = tI (idxF (fun i => decide ((freeN m (m.zs.getD i default).cells (m.zs.getD i default).cells.length : Int) < (m.zs.getD i default).keep)) m.zs.length)) := by
  have hK : ∀ i o, (upd (mkK m) 10 (.row 0 1 [[.ptr 0 0 0 0]]) : KMap) i = some o → i < 11 ∧ o.below 11 = true := by
    intro i o hk
    unfold mkK at hk
    simp only [upd, emp] at hk
    repeat (split at hk; · rename_i e; subst e; cases hk; exact ⟨by omega, by first | rfl | exact rowC_bel | exact below_map hmi.nm.2 | exact hmi.zm.bel | exact hmi.sm.bel | exact hmi.rm.bel⟩)
    cases hk
  refine PureK.of_awp hm Try.func72 s72_ok (by simp [s72]) ?_
  simp only [go_sem, s72, mkK0, mkBox, ↓reduceIte, reduceCtorEq, Nat.reduceEqDiff, Nat.reduceAdd, Nat.reduceSub, Nat.reduceMul, Nat.reduceLT, Nat.reduceLeDiff, Int.reduceToNat]
  have hx := f52o (K := upd (mkK m) 10 (.row 0 1 [[.ptr 0 0 0 0]])) (N := 11) (g := 92) (id := 6) (v := m.vz) (caps := [10]) (rowC encZone m.zs) (fun i => decide ((freeN m (m.zs.getD i default).cells (m.zs.getD i default).cells.length : Int) < (m.zs.getD i default).keep)) (by rw [rowC_len]; exact hz) rfl rfl hK (fun i hi => ?_) (fun i hi => ?_)
  · rw [rowC_len] at hx
    refine PureK.callId hx hK (fun a ha => ?_) ?_
    · simp only [List.mem_cons, List.not_mem_nil, or_false] at ha
      rcases ha with rfl | rfl <;> rfl
    · rintro _ rfl _
      simp only [go_sem, s72_1, ↓reduceIte, reduceCtorEq, Nat.reduceEqDiff, Nat.reduceAdd, Nat.reduceSub, Nat.reduceMul, Nat.reduceLT, Nat.reduceLeDiff, Int.reduceToNat]
      exact ⟨rfl, SameM.kle (fun i hi => upd_ne _ _ (by omega)) hmi⟩
  · rw [rowC_at (by rw [rowC_len] at hi; exact hi)]; rfl
  · rw [rowC_len] at hi
    rw [rowC_at hi]
    exact f92 hmi _ (hl i hi) (hc i hi)
end Go.Proofs.Ytcocbifjjafknaa.AL

/- The maker of sites: shelves beside each other. -/
set_option linter.unusedSimpArgs false
set_option linter.unusedVariables false
namespace Go.Proofs.Ytcocbifjjafknaa.AL
open Go
variable {m : MK}

def cellM (m : MK) (i : Nat) : Int := (m.sh.getD i default).cell
def clsM (m : MK) (i : Nat) : ByteArray := (m.sh.getD i default).cls
/-- No earlier shelf beside this one disturbs it. -/
def NearAt (m : MK) (i : Nat) : Prop := ∀ c, c ∈ sideL m.f (cellM m i) → ∀ k, atM m c = some k → k < i → apartL m.ap (clsM m i) (clsM m k) = false

theorem atM_lt {c : Int} {k : Nat} (h : atM m c = some k) : k < m.sh.length ∧ cellM m k = c := by
  unfold atM at h
  rw [List.find?_range_eq_some] at h
  exact ⟨by simpa using h.2.1, of_decide_eq_true h.1⟩

/-- A call that reads own rows, of a function that hands back data. -/
theorem Pure.castS {P : Program} {f : FuncId} {args args1 : List T} {v : T} (hs : Pure P f args1 (· = v)) {q : Bool} {K : KMap} {N : Nat} {R : T → KMap → Nat → Prop} (ha : liftA (CastC K) args args1) (hv : v.flat = true) (hR : R v K N) : CallW P q f args K N R := by
  refine CallW.wf (fun hw => Spec.cast hs ha ?_ ?_) hs.1
  · rintro d K1 N1 ⟨rfl, h2, rfl, rfl⟩
    exact ⟨hv, fun id o h => by cases h⟩
  · rintro d K1 N1 ⟨rfl, h2, rfl, rfl⟩
    rw [T.ren_below h2, joinK_emp hw]
    exact hR

structure BsI (m : MK) (x : Nat × KMap × Nat) : Prop where
  le : x.1 ≤ m.sh.length
  n : 11 ≤ x.2.2
  same : SameM x.2.1 m
  box : x.2.1 10 = some (.row 0 5 [encFloor m.f])
  no : ∀ j, j < x.1 → NearAt m j

def bs1 (m : MK) (x : Nat × KMap × Nat) : St := ⟨upd (upd (upd (upd (upd emp 0 (tC (.ptr 0 0 0 0))) 3 (tC (.ptr 10 0 0 0))) 22 (tC (.own 8 m.vs 0 m.sh.length))) 23 (tI m.sh.length)) 24 (tI x.1), x.2.1, x.2.2⟩

def tmB (m : MK) (i w : Nat) : Nat → Option T := upd (upd (upd (upd (upd (upd (upd (upd (upd emp 0 (tC (.ptr 0 0 0 0))) 3 (tC (.ptr 10 0 0 0))) 22 (tC (.own 8 m.vs 0 m.sh.length))) 23 (tI m.sh.length)) 24 (tI i)) 4 (tI i)) 5 (tC (.ptr w 0 0 0))) 61 (tC (.own (w + 1) 0 0 4))) 62 (tI 4)
def bs2 (m : MK) (i w : Nat) (K : KMap) (N : Nat) (j : Nat) : St := ⟨upd (tmB m i w) 63 (tI j), K, N⟩

def BsQ (m : MK) (d : T) : Prop := ∃ e, d = tI e ∧ (e < 0 → ∀ i, i < m.sh.length → NearAt m i)

theorem f71b (hf : FloorOk m.f) (hmi : MI m) (hl : m.sh.length ≤ 1000000) (ha : m.ap.length ≤ 1000000) {i w : Nat} {K : KMap} {N : Nat} (hi : i < m.sh.length) (hw11 : 11 ≤ w) (hs : SameM K m) (hb : K w = some (.row 0 2 [[.r (.val (.int .i64 (cellM m i))), .r (.val (.string (clsM m i)))]]))
    (hb2 : K (w + 1) = some (.row 0 1 (intC (sideL m.f (cellM m i))))) {Q : XE → St → Prop}
    (hQ1 : (∀ j, j < 4 → ∀ k, atM m ((sideL m.f (cellM m i)).getD j 0) = some k → k < i → apartL m.ap (clsM m i) (clsM m k) = false) → Q (.exit 2) ⟨upd (bs2 m i w K N 4).tm 64 (tB (decide ((4 : Int) < 4))), K, N⟩)
    (hQ2 : ∀ {tm : Nat → Option T}, tm 2 = some (tI i) → Q .ret ⟨tm, K, N⟩) :
    ∀ j : Nat, (j ≤ 4 ∧ ∀ j2, j2 < j → ∀ k, atM m ((sideL m.f (cellM m i)).getD j2 0) = some k → k < i → apartL m.ap (clsM m i) (clsM m k) = false) →
      awp Try.prog 10 s71_10 (bs2 m i w K N j) (roundQ 10 (bs2 m i w K N) (fun j => 4 - j) (fun j => j ≤ 4 ∧ ∀ j2, j2 < j → ∀ k, atM m ((sideL m.f (cellM m i)).getD j2 0) = some k → k < i → apartL m.ap (clsM m i) (clsM m k) = false) j Q) := by
  rintro j ⟨hj, hin⟩
  have hk0 : K 0 = some (.row 0 16 [mkBox m]) := hs 0 (by decide)
  have hk1 : K 1 = some (.map m.eS) := hs 1 (by decide)
  have hk7 : K 7 = some (.row m.va 2 (rowC encApart m.ap)) := hs 7 (by decide)
  have hk8 : K 8 = some (.row m.vs 2 (rowC encShelf m.sh)) := hs 8 (by decide)
  have hlen : (sideL m.f (cellM m i)).length = 4 := rfl
  simp only [go_sem, s71_10, bs2, tmB, ↓reduceIte, reduceCtorEq, Nat.reduceEqDiff, Nat.reduceAdd, Nat.reduceSub, Nat.reduceMul, Nat.reduceLT, Nat.reduceLeDiff, Int.reduceToNat]
  refine twoQ_at (fun g => ?_) (fun g => ?_)
  · have hj' : j < 4 := by simp at g; omega
    have hjl : j < (sideL m.f (cellM m i)).length := by omega
    have hwr : IntKind.i64.wrap ((j : Int) + 1) = ((j + 1 : Nat) : Int) := wrap_i (by omega) (by omega)
    have next : (∀ k, atM m ((sideL m.f (cellM m i)).getD j 0) = some k → k < i → apartL m.ap (clsM m i) (clsM m k) = false) → ∀ {tm : Nat → Option T}, TmCut (tmB m i w) tm → tm 63 = some (tI j) →
        awp Try.prog 10 s71_3 ⟨tm, K, N⟩ (roundQ 10 (bs2 m i w K N) (fun j => 4 - j) (fun j => j ≤ 4 ∧ ∀ j2, j2 < j → ∀ k, atM m ((sideL m.f (cellM m i)).getD j2 0) = some k → k < i → apartL m.ap (clsM m i) (clsM m k) = false) j Q) := by
      intro hok tm hc h63
      simp only [go_sem, s71_3, h63, ↓reduceIte, reduceCtorEq, Nat.reduceEqDiff, Nat.reduceAdd, Nat.reduceSub, Nat.reduceMul, Nat.reduceLT, Nat.reduceLeDiff, Int.reduceToNat]
      refine ⟨j + 1, ⟨by omega, fun j2 hj2 => ?_⟩, by omega, Weak.cutTm (TmCut.cons (by rw [← hwr]; rfl) (.skip (.skip hc rfl) rfl))⟩
      by_cases e : j2 = j
      · subst e; exact hok
      · exact hin j2 (by omega)
    have base : TmCut (tmB m i w) (upd (tmB m i w) 63 (tI j)) := .skip (fun _ _ h => h) rfl
    have hm1 := atM_map hmi ((sideL m.f (cellM m i)).getD j 0)
    cases hat : atM m ((sideL m.f (cellM m i)).getD j 0) with
    | none =>
      rw [hat] at hm1
      simp only [go_sem, s71_9, s71_8, s71_7, s71_6, s71_5, evIaddr, evLoad, hb2, intC_len, hlen, intC_at hjl, Int.toNat_natCast, hk0, mkBox, hk1, hmi.sm.1, ki_ok', hm1, Option.map_none, Option.isSome_none, Option.getD_none, ↓reduceIte, reduceCtorEq, Nat.reduceEqDiff, Nat.reduceAdd, Nat.reduceSub, Nat.reduceMul, Nat.reduceLT, Nat.reduceLeDiff, Int.reduceToNat]
      refine ⟨⟨by omega, by omega⟩, hj', ?_⟩
      refine next (fun k hk => by cases hat.symm.trans hk) ?_ rfl
      repeat (first | exact base | refine TmCut.skip ?_ rfl)
    | some k =>
      obtain ⟨hk, _⟩ := atM_lt hat
      rw [hat] at hm1
      have hx : (m.sh.getD k default).cls = clsM m k := rfl
      simp only [go_sem, s71_9, evIaddr, evLoad, hb2, intC_len, hlen, intC_at hjl, Int.toNat_natCast, hk0, mkBox, hk1, hmi.sm.1, ki_ok', hm1, Option.map_some, Option.isSome_some, Option.getD_some, ↓reduceIte, reduceCtorEq, Nat.reduceEqDiff, Nat.reduceAdd, Nat.reduceSub, Nat.reduceMul, Nat.reduceLT, Nat.reduceLeDiff, Int.reduceToNat]
      refine ⟨⟨by omega, by omega⟩, hj', ?_⟩
      simp only [go_sem, s71_8, ↓reduceIte, reduceCtorEq, Nat.reduceEqDiff, Nat.reduceAdd, Nat.reduceSub, Nat.reduceMul, Nat.reduceLT, Nat.reduceLeDiff, Int.reduceToNat]
      refine guardQ_at (fun g2 => ?_) (fun g2 => ?_)
      · simp only [decide_eq_true_eq] at g2
        have hne : ¬ w = w + 1 := by omega
        simp only [go_sem, s71_7, hk0, mkBox, hk7, hk8, hb, evIaddr, evLoad, rowC_len, rowC_at hk, encShelf, Int.toNat_natCast, hx, ↓reduceIte, reduceCtorEq, Nat.reduceEqDiff, Nat.reduceAdd, Nat.reduceSub, Nat.reduceMul, Nat.reduceLT, Nat.reduceLeDiff, Int.reduceToNat]
        refine ⟨⟨by omega, by omega, Nat.le_refl _⟩, hk, hk, ?_⟩
        refine Pure.castS (f90 m.ap (clsM m i) (clsM m k) (by omega)) ?_ rfl ?_
        · exact ⟨rowC_cast (fun x => rfl) hk7, .inl ⟨rfl, rfl⟩, .inl ⟨rfl, rfl⟩, trivial⟩
        · simp only [go_sem, s71_6, s71_5, ↓reduceIte, reduceCtorEq, Nat.reduceEqDiff, Nat.reduceAdd, Nat.reduceSub, Nat.reduceMul, Nat.reduceLT, Nat.reduceLeDiff, Int.reduceToNat]
          refine twoQ_at (fun g3 => ?_) (fun g3 => ?_)
          · simp only [go_sem, s71_4, ↓reduceIte, reduceCtorEq, Nat.reduceEqDiff, Nat.reduceAdd, Nat.reduceSub, Nat.reduceMul, Nat.reduceLT, Nat.reduceLeDiff, Int.reduceToNat]
            exact hQ2 rfl
          · refine next (fun k2 hk2 h2 => by cases hat.symm.trans hk2; exact g3) ?_ rfl
            repeat (first | exact base | refine TmCut.skip ?_ rfl)
      · simp only [Bool.not_true, decide_eq_false_iff_not] at g2
        simp only [go_sem, s71_7, s71_6, s71_5, ↓reduceIte, reduceCtorEq, Nat.reduceEqDiff, Nat.reduceAdd, Nat.reduceSub, Nat.reduceMul, Nat.reduceLT, Nat.reduceLeDiff, Int.reduceToNat]
        refine next (fun k2 hk2 h2 => by cases hat.symm.trans hk2; omega) ?_ rfl
        repeat (first | exact base | refine TmCut.skip ?_ rfl)
  · have hj' : j = 4 := by simp at g; omega
    subst hj'
    exact hQ1 hin

theorem upd_upd {α : Type} {f : Nat → Option α} {i : Nat} {a b : α} : upd (upd f i a) i b = upd f i b := by
  funext j; simp only [upd]; split <;> rfl

theorem f71 (hf : FloorOk m.f) (hmi : MI m) (hl : m.sh.length ≤ 1000000) (ha : m.ap.length ≤ 1000000) : PureK Try.prog 71 [tC (.ptr 0 0 0 0)] (mkK m) 10 (BsQ m) := by
  refine PureK.of_awp hm Try.func71 s71_ok (by simp [s71]) ?_
  simp only [go_sem, s71, mkK0, mkBox, ↓reduceIte, reduceCtorEq, Nat.reduceEqDiff, Nat.reduceAdd, Nat.reduceSub, Nat.reduceMul, Nat.reduceLT, Nat.reduceLeDiff, Int.reduceToNat]
  rw [upd_upd]
  refine awp_loop (bs1 m) (fun x => m.sh.length - x.1) (BsI m) (0, upd (mkK m) 10 (.row 0 5 [encFloor m.f]), 11) ⟨Nat.zero_le _, Nat.le_refl _, fun i hi => upd_ne _ _ (by omega), rfl, fun j hj => by simp at hj⟩ ?_ ?_
  · refine Weak.cutTm ?_
    repeat (first | refine TmCut.cons rfl ?_ | exact TmCut.nil)
  · rintro ⟨i, K, N⟩ ⟨hi, hN, hs, hb, hno⟩
    simp only at hi hN hs hb hno
    have hk8 : K 8 = some (.row m.vs 2 (rowC encShelf m.sh)) := hs 8 (by decide)
    have ne : ∀ k, k < 11 → ¬ k = N := fun k hk => by omega
    have n10 := ne 10 (by decide); have n9 := ne 9 (by decide)
    simp only [go_sem, s71_19, bs1, ↓reduceIte, reduceCtorEq, Nat.reduceEqDiff, Nat.reduceAdd, Nat.reduceSub, Nat.reduceMul, Nat.reduceLT, Nat.reduceLeDiff, Int.reduceToNat]
    refine twoQ_at (fun g => ?_) (fun g => ?_)
    · have hi' : i < m.sh.length := by simpa using g
      have hwr : IntKind.i64.wrap ((i : Int) + 1) = ((i + 1 : Nat) : Int) := wrap_i (by omega) (by omega)
      obtain ⟨b1, b2, b3⟩ := xF_b hf (cellM m i)
      have := hf.w2; have := hf.h2
      have hcell : (m.sh.getD i default).cell = cellM m i := rfl
      have hcls : (m.sh.getD i default).cls = clsM m i := rfl
      simp only [go_sem, s71_18, hk8, hb, n10, n9, evIaddr, evLoad, rowC_len, rowC_at hi', encShelf, encFloor, Int.toNat_natCast, hcell, hcls, ↓reduceIte, reduceCtorEq, Nat.reduceEqDiff, Nat.reduceAdd, Nat.reduceSub, Nat.reduceMul, Nat.reduceLT, Nat.reduceLeDiff, Int.reduceToNat]
      refine ⟨⟨by omega, by omega, Nat.le_refl _⟩, hi', Pure.callS (f74 hf _) rfl ?_⟩
      rw [upd_upd]
      simp only [go_sem, s71_17, s71_16, hb, n10, encFloor, ↓reduceIte, reduceCtorEq, Nat.reduceEqDiff, Nat.reduceAdd, Nat.reduceSub, Nat.reduceMul, Nat.reduceLT, Nat.reduceLeDiff, Int.reduceToNat]
      refine Pure.callS (f75 hf _ _ _) rfl ?_
      simp only [go_sem, s71_15, ↓reduceIte, reduceCtorEq, Nat.reduceEqDiff, Nat.reduceAdd, Nat.reduceSub, Nat.reduceMul, Nat.reduceLT, Nat.reduceLeDiff, Int.reduceToNat]
      refine Pure.callS (f75 hf _ _ _) rfl ?_
      simp only [go_sem, s71_14, ↓reduceIte, reduceCtorEq, Nat.reduceEqDiff, Nat.reduceAdd, Nat.reduceSub, Nat.reduceMul, Nat.reduceLT, Nat.reduceLeDiff, Int.reduceToNat]
      refine Pure.callS (f75 hf _ _ _) rfl ?_
      simp only [go_sem, s71_13, ↓reduceIte, reduceCtorEq, Nat.reduceEqDiff, Nat.reduceAdd, Nat.reduceSub, Nat.reduceMul, Nat.reduceLT, Nat.reduceLeDiff, Int.reduceToNat]
      refine Pure.callS (f75 hf _ _ _) rfl ?_
      rw [wrap_i (n := xF m.f (cellM m i) + 1) (by omega) (by omega), wrap_i (n := yF m.f (cellM m i) + 1) (by omega) (by omega), wrap_i (n := xF m.f (cellM m i) - 1) (by omega) (by omega), wrap_i (n := yF m.f (cellM m i) - 1) (by omega) (by omega)]
      simp only [go_sem, s71_12, s71_11, rowsOf, ↓reduceIte, reduceCtorEq, Nat.reduceEqDiff, Nat.reduceAdd, Nat.reduceSub, Nat.reduceMul, Nat.reduceLT, Nat.reduceLeDiff, Int.reduceToNat]
      obtain ⟨K2, hK2⟩ : ∃ K2, K2 = upd (upd K N (.row 0 2 [[.r (.val (.int .i64 (cellM m i))), .r (.val (.string (clsM m i)))]])) (N + 1) (.row 0 1 (intC (sideL m.f (cellM m i)))) := ⟨_, rfl⟩
      have hs2 : SameM K2 m := fun k hk => by rw [hK2, upd_ne _ _ (by omega), upd_ne _ _ (by omega)]; exact hs k hk
      have hw1 : K2 N = some (.row 0 2 [[.r (.val (.int .i64 (cellM m i))), .r (.val (.string (clsM m i)))]]) := by rw [hK2, upd_ne _ _ (by omega), upd_self]
      have hw2 : K2 (N + 1) = some (.row 0 1 (intC (sideL m.f (cellM m i)))) := by rw [hK2, upd_self]
      have hw3 : K2 10 = some (.row 0 5 [encFloor m.f]) := by rw [hK2, upd_ne _ _ (by omega), upd_ne _ _ (by omega)]; exact hb
      refine awp_loop (bs2 m i N K2 (N + 1 + 1)) (fun j => 4 - j) (fun j => j ≤ 4 ∧ ∀ j2, j2 < j → ∀ k, atM m ((sideL m.f (cellM m i)).getD j2 0) = some k → k < i → apartL m.ap (clsM m i) (clsM m k) = false) 0 ⟨Nat.zero_le _, fun j hj => by omega⟩ ?_ (f71b hf hmi hl ha hi' hN hs2 hw1 hw2 ?_ ?_)
      · rw [hK2]
        refine Weak.cutTm ?_
        unfold tmB
        repeat (first | refine TmCut.cons rfl ?_ | exact TmCut.nil)
      · intro hok
        simp only [go_sem, bs2, tmB, s71_2, ↓reduceIte, reduceCtorEq, Nat.reduceEqDiff, Nat.reduceAdd, Nat.reduceSub, Nat.reduceMul, Nat.reduceLT, Nat.reduceLeDiff, Int.reduceToNat]
        refine ⟨(i + 1, K2, N + 1 + 1), ⟨by simp only; omega, by simp only; omega, hs2, hw3, fun j hj => ?_⟩, by simp only; omega, ?_⟩
        · by_cases e : j = i
          · subst e
            intro c hc k hk hki
            obtain ⟨q, hq, rfl⟩ := mem_getD.1 hc
            exact hok q hq k hk hki
          · exact hno j (by simp only at hj; omega)
        · rw [hwr]
          refine Weak.cutTm ?_
          repeat (first | refine TmCut.cons rfl ?_ | exact TmCut.nil)
      · intro tm h2
        simp only [go_sem, h2, ↓reduceIte, reduceCtorEq, Nat.reduceEqDiff, Nat.reduceAdd, Nat.reduceSub, Nat.reduceMul, Nat.reduceLT, Nat.reduceLeDiff, Int.reduceToNat]
        exact ⟨rfl, hs2.kle hmi, i, rfl, fun h => by omega⟩
    · have hi' : i = m.sh.length := by simp at g; omega
      subst hi'
      simp only [go_sem, s71_1, ↓reduceIte, reduceCtorEq, Nat.reduceEqDiff, Nat.reduceAdd, Nat.reduceSub, Nat.reduceMul, Nat.reduceLT, Nat.reduceLeDiff, Int.reduceToNat]
      exact ⟨rfl, hs.kle hmi, -1, rfl, fun _ => hno⟩
end Go.Proofs.Ytcocbifjjafknaa.AL

/- Right sites. -/
set_option linter.unusedSimpArgs false
set_option linter.unusedVariables false
namespace Go.Proofs.Ytcocbifjjafknaa.AL
open Go
variable {s : SiteD}

structure ZP (s : SiteD) (j : Nat) : Prop where
  name1 : 1 ≤ (s.zones.getD j default).name.size
  name2 : (s.zones.getD j default).name.size ≤ 20
  speed1 : 1 ≤ (s.zones.getD j default).speed
  speed2 : (s.zones.getD j default).speed ≤ 100
  keep : 0 ≤ (s.zones.getD j default).keep
  shut : ShutOk (s.zones.getD j default).shut
  pos : 0 < (s.zones.getD j default).cells.length
  asc : Asc (s.zones.getD j default).cells
  isC : ∀ q, q < (s.zones.getD j default).cells.length → isM s.floor ((s.zones.getD j default).cells.getD q 0) = true
  kind : ∀ q, q < (s.zones.getD j default).cells.length → zonedK (kindM s.floor ((s.zones.getD j default).cells.getD q 0)) = true
  disj : ∀ q, q < (s.zones.getD j default).cells.length → ∀ j', j' < j → (s.zones.getD j default).cells.getD q 0 ∉ (s.zones.getD j' default).cells

structure SP (s : SiteD) (j : Nat) : Prop where
  isC : isM s.floor (s.shelves.getD j default).cell = true
  kind : standsK (kindM s.floor (s.shelves.getD j default).cell) = true
  disj : ∀ j', j' < j → (s.shelves.getD j' default).cell ≠ (s.shelves.getD j default).cell

structure RP (s : SiteD) (j : Nat) : Prop where
  isC : isM s.floor (s.robots.getD j default).cell = true
  kind : kindM s.floor (s.robots.getD j default).cell ≠ 0
  c1 : 0 ≤ (s.robots.getD j default).charge
  c2 : (s.robots.getD j default).charge ≤ 1000000
  disj : ∀ j', j' < j → (s.robots.getD j' default).cell ≠ (s.robots.getD j default).cell

def atS (s : SiteD) (c : Int) : Option Nat := (List.range s.shelves.length).find? fun i => decide ((s.shelves.getD i default).cell = c)
def freeS (s : SiteD) (c : Int) : Bool := (atS s c).isNone && standsK (kindM s.floor c)
def freeC (s : SiteD) (l : List Int) : Nat := (List.range l.length).countP fun i => freeS s (l.getD i 0)

structure SiteOk (s : SiteD) : Prop where
  floor : FloorOk s.floor
  zones : ∀ j, j < s.zones.length → ZP s j
  shelves : ∀ j, j < s.shelves.length → SP s j
  robots : ∀ j, j < s.robots.length → RP s j
  near : ∀ i, i < s.shelves.length → ∀ c, c ∈ sideL s.floor (s.shelves.getD i default).cell → ∀ k, atS s c = some k → k < i → apartL s.aparts (s.shelves.getD i default).cls (s.shelves.getD k default).cls = false
  keeps : ∀ j, j < s.zones.length → (s.zones.getD j default).keep ≤ freeC s (s.zones.getD j default).cells
  charger : (3 : Int) ∈ s.floor.kind

structure RI (s : SiteD) (K : KMap) (N : Nat) (m : MK) : Prop where
  hM : HasM 1 K m
  mi : MI m
  k0 : K 0 = some (.row 0 9 [encSite s])
  n : 11 ≤ N
  f : m.f = s.floor

abbrev RX := Nat × KMap × Nat × MK

structure ZI (s : SiteD) (x : RX) : Prop where
  le : x.1 ≤ s.zones.length
  ri : RI s x.2.1 x.2.2.1 x.2.2.2
  zs : x.2.2.2.zs = s.zones.take x.1
  ap : x.2.2.2.ap = []
  sh : x.2.2.2.sh = []
  rb : x.2.2.2.rb = []
  zp : ∀ j, j < x.1 → ZP s j

def rz (s : SiteD) (x : RX) : St := ⟨upd (upd (upd (upd (upd emp 1 (tC (.ptr 0 0 0 0))) 3 (tC (.ptr 1 0 0 0))) 20 (tC (.r (.rd 5 (s.zones.map encZone))))) 21 (tI s.zones.length)) 22 (tI x.1), x.2.1, x.2.2.1⟩

theorem take_snoc {α : Type} [Inhabited α] {l : List α} {i : Nat} (h : i < l.length) : l.take (i + 1) = l.take i ++ [l.getD i default] := by
  rw [List.take_add_one]
  have : l[i]? = some (l.getD i default) := by simp [h]
  rw [this]; rfl

theorem take_mem {α : Type} [Inhabited α] {l : List α} {i j : Nat} (h : j < i) (hi : i ≤ l.length) : l.getD j default ∈ l.take i := by
  rw [List.mem_take_iff_getElem]
  exact ⟨j, by omega, by simp [show j < l.length by omega]⟩

def RQ (s : SiteD) (d : T) : Prop := ∃ b, d = tB b ∧ (b = true → SiteOk s)

theorem f43a (hfew : FewOk s 1000 1000) {Q : XE → St → Prop} (hQ : ∀ x, ZI s x → x.1 = s.zones.length → Q (.exit 0) ⟨upd (rz s x).tm 23 (tB (decide ((s.zones.length : Int) < s.zones.length))), x.2.1, x.2.2.1⟩) (hno : ∀ {tm : Nat → Option T} {K : KMap} {N : Nat}, tm 2 = some (tB false) → Q .ret ⟨tm, K, N⟩) :
    ∀ x, ZI s x → awp Try.prog 0 s43_42 (rz s x) (roundQ 0 (rz s) (fun x => s.zones.length - x.1) (ZI s) x Q) := by
  rintro ⟨i, K, N, m⟩ ⟨hi, ⟨hM, hmi, hk0, hN, hf⟩, hzs, hap, hsh, hrb, hzp⟩
  simp only at hi hM hmi hk0 hN hf hzs hap hsh hrb hzp
  simp only [go_sem, s43_42, rz, ↓reduceIte, reduceCtorEq, Nat.reduceEqDiff, Nat.reduceAdd, Nat.reduceSub, Nat.reduceMul, Nat.reduceLT, Nat.reduceLeDiff, Int.reduceToNat]
  refine twoQ_at (fun g => ?_) (fun g => ?_)
  · have hi' : i < s.zones.length := by simpa using g
    have hwr : IntKind.i64.wrap ((i : Int) + 1) = ((i + 1 : Nat) : Int) := wrap_i (by omega) (by have := hfew.nz; omega)
    obtain ⟨hc1, hc2⟩ := hfew.zc i hi'
    obtain ⟨z, hz⟩ : ∃ z, z = s.zones.getD i default := ⟨_, rfl⟩
    rw [← hz] at hc1 hc2
    simp only [go_sem, s43_41, rows_len, rows_at hi', ← hz, encZone, Int.toNat_natCast, ↓reduceIte, reduceCtorEq, Nat.reduceEqDiff, Nat.reduceAdd, Nat.reduceSub, Nat.reduceMul, Nat.reduceLT, Nat.reduceLeDiff, Int.reduceToNat]
    refine ⟨⟨by omega, by omega⟩, ?_⟩
    rw [upd_upd]
    refine Pure.call (f63 z.name) (liftA_refl rfl) ?_
    rintro _ ⟨bn, rfl, hbn⟩ _
    simp only [go_sem, s43_40, ↓reduceIte, reduceCtorEq, Nat.reduceEqDiff, Nat.reduceAdd, Nat.reduceSub, Nat.reduceMul, Nat.reduceLT, Nat.reduceLeDiff, Int.reduceToNat]
    refine guardQ_at (fun g1 => ?_) (fun g1 => ?_)
    · simp only [Bool.not_eq_false'] at g1
      simp only [go_sem, s43_39, ↓reduceIte, reduceCtorEq, Nat.reduceEqDiff, Nat.reduceAdd, Nat.reduceSub, Nat.reduceMul, Nat.reduceLT, Nat.reduceLeDiff, Int.reduceToNat]
      refine Pure.callS (f64 _ _ _) rfl ?_
      simp only [go_sem, s43_38, ↓reduceIte, reduceCtorEq, Nat.reduceEqDiff, Nat.reduceAdd, Nat.reduceSub, Nat.reduceMul, Nat.reduceLT, Nat.reduceLeDiff, Int.reduceToNat]
      refine guardQ_at (fun g2 => ?_) (fun g2 => ?_)
      · simp only [Bool.not_eq_false', Bool.and_eq_true, decide_eq_true_eq] at g2
        simp only [go_sem, s43_37, ↓reduceIte, reduceCtorEq, Nat.reduceEqDiff, Nat.reduceAdd, Nat.reduceSub, Nat.reduceMul, Nat.reduceLT, Nat.reduceLeDiff, Int.reduceToNat]
        refine guardQ_at (fun g3 => ?_) (fun g3 => ?_)
        · simp only [decide_eq_false_iff_not] at g3
          simp only [go_sem, s43_36, ↓reduceIte, reduceCtorEq, Nat.reduceEqDiff, Nat.reduceAdd, Nat.reduceSub, Nat.reduceMul, Nat.reduceLT, Nat.reduceLeDiff, Int.reduceToNat]
          refine Pure.call (f65 z.shut (by omega)) (liftA_refl rfl) ?_
          rintro _ ⟨bs, rfl, hbs⟩ _
          simp only [go_sem, s43_35, ↓reduceIte, reduceCtorEq, Nat.reduceEqDiff, Nat.reduceAdd, Nat.reduceSub, Nat.reduceMul, Nat.reduceLT, Nat.reduceLeDiff, Int.reduceToNat]
          refine guardQ_at (fun g4 => ?_) (fun g4 => ?_)
          · simp only [Bool.not_eq_false'] at g4
            simp only [go_sem, s43_34, ↓reduceIte, reduceCtorEq, Nat.reduceEqDiff, Nat.reduceAdd, Nat.reduceSub, Nat.reduceMul, Nat.reduceLT, Nat.reduceLeDiff, Int.reduceToNat]
            refine PureK.callM hmi (f66 hmi z.cells (by omega)) (hM.upd (by omega) _) (by omega) rfl (fun a ha => ?_) ?_
            · simp only [List.mem_cons, List.not_mem_nil, or_false] at ha
              rcases ha with rfl | rfl <;> rfl
            rintro _ ⟨bc, rfl, hbc⟩ _
            simp only [go_sem, s43_33, ↓reduceIte, reduceCtorEq, Nat.reduceEqDiff, Nat.reduceAdd, Nat.reduceSub, Nat.reduceMul, Nat.reduceLT, Nat.reduceLeDiff, Int.reduceToNat]
            refine guardQ_at (fun g5 => ?_) (fun g5 => ?_)
            · simp only [Bool.not_eq_false'] at g5
              simp only [go_sem, s43_32, ↓reduceIte, reduceCtorEq, Nat.reduceEqDiff, Nat.reduceAdd, Nat.reduceSub, Nat.reduceMul, Nat.reduceLT, Nat.reduceLeDiff, Int.reduceToNat]
              have hzl : m.zs.length ≤ 1000000 := by rw [hzs, List.length_take]; have := hfew.nz; omega
              refine Spec.callM hmi (f67 hmi z (by omega) hzl) (hM.upd (by omega) _) (by omega) rfl (fun a ha => ?_) ?_
              · simp only [List.mem_cons, List.not_mem_nil, or_false] at ha
                rcases ha with rfl | rfl <;> rfl
              rintro _ m' K' hmi' ⟨e, rfl, hA⟩ hM' hK'
              simp only [go_sem, s43_31, s43_30, ↓reduceIte, reduceCtorEq, Nat.reduceEqDiff, Nat.reduceAdd, Nat.reduceSub, Nat.reduceMul, Nat.reduceLT, Nat.reduceLeDiff, Int.reduceToNat]
              refine twoQ_at (fun g6 => ?_) (fun g6 => ?_)
              · simp only [go_sem, s43_29, ↓reduceIte, reduceCtorEq, Nat.reduceEqDiff, Nat.reduceAdd, Nat.reduceSub, Nat.reduceMul, Nat.reduceLT, Nat.reduceLeDiff, Int.reduceToNat]
                exact hno rfl
              · simp only [ne_eq, decide_eq_false_iff_not, Decidable.not_not] at g6
                obtain ⟨⟨a1, a2⟩, es, en, rfl⟩ := hA g6
                obtain ⟨c1, c2, c3⟩ := hbc g5
                simp only [go_sem, s43_28, ↓reduceIte, reduceCtorEq, Nat.reduceEqDiff, Nat.reduceAdd, Nat.reduceSub, Nat.reduceMul, Nat.reduceLT, Nat.reduceLeDiff, Int.reduceToNat]
                refine ⟨(i + 1, K', N + 1, _), ⟨by simp only; omega, ⟨hM', hmi', ?_, by simp only; omega, hf⟩, ?_, hap, hsh, hrb, fun j hj => ?_⟩, by simp only; omega, ?_⟩
                · simp only
                  rw [hK' 0 (.inl (by omega)) (by omega), upd_ne _ _ (by omega)]
                  exact hk0
                · simp only [hzs, take_snoc hi', ← hz]
                · by_cases ej : j = i
                  · subst ej
                    rw [hf] at a1 c3
                    refine ⟨?_, ?_, ?_, ?_, ?_, ?_, ?_, ?_, ?_, ?_, ?_⟩ <;> rw [← hz]
                    · exact (hbn g1).1
                    · exact (hbn g1).2
                    · exact g2.1
                    · exact g2.2
                    · omega
                    · exact hbs g4
                    · exact c1
                    · exact c2
                    · exact c3
                    · exact a1
                    · intro q hq j' hj' hmem
                      have := a2 q hq
                      rw [List.any_eq_false] at this
                      exact this _ (by rw [hzs]; exact take_mem hj' hi) (by simpa using hmem)
                  · exact hzp j (by simp only at hj; omega)
                · rw [hwr]
                  refine Weak.cutTm ?_
                  repeat (first | refine TmCut.cons rfl ?_ | exact TmCut.nil)
            · simp only [go_sem, s43_32, s43_31, s43_30, s43_29, ↓reduceIte, reduceCtorEq, Nat.reduceEqDiff, Nat.reduceAdd, Nat.reduceSub, Nat.reduceMul, Nat.reduceLT, Nat.reduceLeDiff, Int.reduceToNat]
              exact hno rfl
          · simp only [go_sem, s43_34, s43_33, s43_32, s43_31, s43_30, s43_29, ↓reduceIte, reduceCtorEq, Nat.reduceEqDiff, Nat.reduceAdd, Nat.reduceSub, Nat.reduceMul, Nat.reduceLT, Nat.reduceLeDiff, Int.reduceToNat]
            exact hno rfl
        · simp only [go_sem, s43_36, s43_35, s43_34, s43_33, s43_32, s43_31, s43_30, s43_29, ↓reduceIte, reduceCtorEq, Nat.reduceEqDiff, Nat.reduceAdd, Nat.reduceSub, Nat.reduceMul, Nat.reduceLT, Nat.reduceLeDiff, Int.reduceToNat]
          exact hno rfl
      · simp only [go_sem, s43_37, s43_36, s43_35, s43_34, s43_33, s43_32, s43_31, s43_30, s43_29, ↓reduceIte, reduceCtorEq, Nat.reduceEqDiff, Nat.reduceAdd, Nat.reduceSub, Nat.reduceMul, Nat.reduceLT, Nat.reduceLeDiff, Int.reduceToNat]
        exact hno rfl
    · simp only [go_sem, s43_39, s43_38, s43_37, s43_36, s43_35, s43_34, s43_33, s43_32, s43_31, s43_30, s43_29, ↓reduceIte, reduceCtorEq, Nat.reduceEqDiff, Nat.reduceAdd, Nat.reduceSub, Nat.reduceMul, Nat.reduceLT, Nat.reduceLeDiff, Int.reduceToNat]
      exact hno rfl
  · have hi' : i = s.zones.length := by simp at g; omega
    subst hi'
    exact hQ (s.zones.length, K, N, m) ⟨hi, ⟨hM, hmi, hk0, hN, hf⟩, hzs, hap, hsh, hrb, hzp⟩ rfl
end Go.Proofs.Ytcocbifjjafknaa.AL

/- Right sites: rules, shelves, robots. -/
set_option linter.unusedSimpArgs false
set_option linter.unusedVariables false
namespace Go.Proofs.Ytcocbifjjafknaa.AL
open Go
variable {s : SiteD}

structure AI (s : SiteD) (x : RX) : Prop where
  le : x.1 ≤ s.aparts.length
  ri : RI s x.2.1 x.2.2.1 x.2.2.2
  zs : x.2.2.2.zs = s.zones
  ap : x.2.2.2.ap = s.aparts.take x.1
  sh : x.2.2.2.sh = []
  rb : x.2.2.2.rb = []
def ra (s : SiteD) (x : RX) : St := ⟨upd (upd (upd (upd (upd emp 1 (tC (.ptr 0 0 0 0))) 3 (tC (.ptr 1 0 0 0))) 62 (tC (.r (.rd 2 (s.aparts.map encApart))))) 63 (tI s.aparts.length)) 64 (tI x.1), x.2.1, x.2.2.1⟩

theorem f43b (hfew : FewOk s 1000 1000) {Q : XE → St → Prop} (hQ : ∀ x, AI s x → x.1 = s.aparts.length → Q (.exit 2) ⟨upd (ra s x).tm 65 (tB (decide ((s.aparts.length : Int) < s.aparts.length))), x.2.1, x.2.2.1⟩) (hno : ∀ {tm : Nat → Option T} {K : KMap} {N : Nat}, tm 2 = some (tB false) → Q .ret ⟨tm, K, N⟩) :
    ∀ x, AI s x → awp Try.prog 0 s43_26 (ra s x) (roundQ 0 (ra s) (fun x => s.aparts.length - x.1) (AI s) x Q) := by
  rintro ⟨i, K, N, m⟩ ⟨hi, ⟨hM, hmi, hk0, hN, hf⟩, hzs, hap, hsh, hrb⟩
  simp only at hi hM hmi hk0 hN hf hzs hap hsh hrb
  simp only [go_sem, s43_26, ra, ↓reduceIte, reduceCtorEq, Nat.reduceEqDiff, Nat.reduceAdd, Nat.reduceSub, Nat.reduceMul, Nat.reduceLT, Nat.reduceLeDiff, Int.reduceToNat]
  refine twoQ_at (fun g => ?_) (fun g => ?_)
  · have hi' : i < s.aparts.length := by simpa using g
    have hna := hfew.na
    have hwr : IntKind.i64.wrap ((i : Int) + 1) = ((i + 1 : Nat) : Int) := wrap_i (by omega) (by omega)
    obtain ⟨z, hz⟩ : ∃ z, z = s.aparts.getD i default := ⟨_, rfl⟩
    simp only [go_sem, s43_25, rows_len, rows_at hi', ← hz, encApart, Int.toNat_natCast, ↓reduceIte, reduceCtorEq, Nat.reduceEqDiff, Nat.reduceAdd, Nat.reduceSub, Nat.reduceMul, Nat.reduceLT, Nat.reduceLeDiff, Int.reduceToNat]
    refine ⟨⟨by omega, by omega⟩, ?_⟩
    rw [upd_upd]
    refine Spec.callM hmi (f68 hmi z (by rw [hap, List.length_take]; omega)) (hM.upd (by omega) _) (by omega) rfl (fun a ha => ?_) ?_
    · simp only [List.mem_cons, List.not_mem_nil, or_false] at ha
      rcases ha with rfl | rfl <;> rfl
    rintro _ m' K' hmi' ⟨e, rfl, hA⟩ hM' hK'
    simp only [go_sem, s43_24, s43_23, ↓reduceIte, reduceCtorEq, Nat.reduceEqDiff, Nat.reduceAdd, Nat.reduceSub, Nat.reduceMul, Nat.reduceLT, Nat.reduceLeDiff, Int.reduceToNat]
    refine twoQ_at (fun g6 => ?_) (fun g6 => ?_)
    · simp only [go_sem, s43_22, ↓reduceIte, reduceCtorEq, Nat.reduceEqDiff, Nat.reduceAdd, Nat.reduceSub, Nat.reduceMul, Nat.reduceLT, Nat.reduceLeDiff, Int.reduceToNat]
      exact hno rfl
    · simp only [ne_eq, decide_eq_false_iff_not, Decidable.not_not] at g6
      obtain ⟨a1, rfl⟩ := hA g6
      simp only [go_sem, s43_21, ↓reduceIte, reduceCtorEq, Nat.reduceEqDiff, Nat.reduceAdd, Nat.reduceSub, Nat.reduceMul, Nat.reduceLT, Nat.reduceLeDiff, Int.reduceToNat]
      refine ⟨(i + 1, K', N + 1, _), ⟨by simp only; omega, ⟨hM', hmi', ?_, by simp only; omega, hf⟩, hzs, ?_, hsh, hrb⟩, by simp only; omega, ?_⟩
      · simp only
        rw [hK' 0 (.inl (by omega)) (by omega), upd_ne _ _ (by omega)]
        exact hk0
      · simp only [hap, take_snoc hi', ← hz]
      · rw [hwr]
        refine Weak.cutTm ?_
        repeat (first | refine TmCut.cons rfl ?_ | exact TmCut.nil)
  · have hi' : i = s.aparts.length := by simp at g; omega
    subst hi'
    exact hQ (s.aparts.length, K, N, m) ⟨hi, ⟨hM, hmi, hk0, hN, hf⟩, hzs, hap, hsh, hrb⟩ rfl

structure SI (s : SiteD) (x : RX) : Prop where
  le : x.1 ≤ s.shelves.length
  ri : RI s x.2.1 x.2.2.1 x.2.2.2
  zs : x.2.2.2.zs = s.zones
  ap : x.2.2.2.ap = s.aparts
  sh : x.2.2.2.sh = s.shelves.take x.1
  rb : x.2.2.2.rb = []
  sp : ∀ j, j < x.1 → SP s j
def rs (s : SiteD) (x : RX) : St := ⟨upd (upd (upd (upd (upd emp 1 (tC (.ptr 0 0 0 0))) 3 (tC (.ptr 1 0 0 0))) 74 (tC (.r (.rd 2 (s.shelves.map encShelf))))) 75 (tI s.shelves.length)) 76 (tI x.1), x.2.1, x.2.2.1⟩

theorem take_getD {α : Type} [Inhabited α] {l : List α} {i j : Nat} (h : j < i) : (l.take i).getD j default = l.getD j default := by
  simp only [List.getD_eq_getElem?_getD, List.getElem?_take, if_pos h]

theorem f43c (hfew : FewOk s 1000 1000) {Q : XE → St → Prop} (hQ : ∀ x, SI s x → x.1 = s.shelves.length → Q (.exit 4) ⟨upd (rs s x).tm 77 (tB (decide ((s.shelves.length : Int) < s.shelves.length))), x.2.1, x.2.2.1⟩) (hno : ∀ {tm : Nat → Option T} {K : KMap} {N : Nat}, tm 2 = some (tB false) → Q .ret ⟨tm, K, N⟩) :
    ∀ x, SI s x → awp Try.prog 0 s43_19 (rs s x) (roundQ 0 (rs s) (fun x => s.shelves.length - x.1) (SI s) x Q) := by
  rintro ⟨i, K, N, m⟩ ⟨hi, ⟨hM, hmi, hk0, hN, hf⟩, hzs, hap, hsh, hrb, hsp⟩
  simp only at hi hM hmi hk0 hN hf hzs hap hsh hrb hsp
  simp only [go_sem, s43_19, rs, ↓reduceIte, reduceCtorEq, Nat.reduceEqDiff, Nat.reduceAdd, Nat.reduceSub, Nat.reduceMul, Nat.reduceLT, Nat.reduceLeDiff, Int.reduceToNat]
  refine twoQ_at (fun g => ?_) (fun g => ?_)
  · have hi' : i < s.shelves.length := by simpa using g
    have hna := hfew.ns
    have hwr : IntKind.i64.wrap ((i : Int) + 1) = ((i + 1 : Nat) : Int) := wrap_i (by omega) (by omega)
    obtain ⟨z, hz⟩ : ∃ z, z = s.shelves.getD i default := ⟨_, rfl⟩
    simp only [go_sem, s43_18, rows_len, rows_at hi', ← hz, encShelf, Int.toNat_natCast, ↓reduceIte, reduceCtorEq, Nat.reduceEqDiff, Nat.reduceAdd, Nat.reduceSub, Nat.reduceMul, Nat.reduceLT, Nat.reduceLeDiff, Int.reduceToNat]
    refine ⟨⟨by omega, by omega⟩, ?_⟩
    rw [upd_upd]
    refine Spec.callM hmi (f69 hmi z (by rw [hsh, List.length_take]; omega)) (hM.upd (by omega) _) (by omega) rfl (fun a ha => ?_) ?_
    · simp only [List.mem_cons, List.not_mem_nil, or_false] at ha
      rcases ha with rfl | rfl <;> rfl
    rintro _ m' K' hmi' ⟨e, rfl, hA⟩ hM' hK'
    simp only [go_sem, s43_17, s43_16, ↓reduceIte, reduceCtorEq, Nat.reduceEqDiff, Nat.reduceAdd, Nat.reduceSub, Nat.reduceMul, Nat.reduceLT, Nat.reduceLeDiff, Int.reduceToNat]
    refine twoQ_at (fun g6 => ?_) (fun g6 => ?_)
    · simp only [go_sem, s43_15, ↓reduceIte, reduceCtorEq, Nat.reduceEqDiff, Nat.reduceAdd, Nat.reduceSub, Nat.reduceMul, Nat.reduceLT, Nat.reduceLeDiff, Int.reduceToNat]
      exact hno rfl
    · simp only [ne_eq, decide_eq_false_iff_not, Decidable.not_not] at g6
      obtain ⟨a1, a2, a3, es, rfl⟩ := hA g6
      simp only [go_sem, s43_14, ↓reduceIte, reduceCtorEq, Nat.reduceEqDiff, Nat.reduceAdd, Nat.reduceSub, Nat.reduceMul, Nat.reduceLT, Nat.reduceLeDiff, Int.reduceToNat]
      refine ⟨(i + 1, K', N + 1, _), ⟨by simp only; omega, ⟨hM', hmi', ?_, by simp only; omega, hf⟩, hzs, hap, ?_, hrb, fun j hj => ?_⟩, by simp only; omega, ?_⟩
      · simp only
        rw [hK' 0 (.inl (by omega)) (by omega), upd_ne _ _ (by omega)]
        exact hk0
      · simp only [hsh, take_snoc hi', ← hz]
      · by_cases ej : j = i
        · subst ej
          rw [hf] at a1 a2
          refine ⟨by rw [← hz]; exact a1, by rw [← hz]; exact a2, fun j' hj' => ?_⟩
          have := a3 j' (by rw [hsh, List.length_take]; omega)
          rw [hsh, take_getD hj'] at this
          rw [← hz]
          exact this
        · exact hsp j (by simp only at hj; omega)
      · rw [hwr]
        refine Weak.cutTm ?_
        repeat (first | refine TmCut.cons rfl ?_ | exact TmCut.nil)
  · have hi' : i = s.shelves.length := by simp at g; omega
    subst hi'
    exact hQ (s.shelves.length, K, N, m) ⟨hi, ⟨hM, hmi, hk0, hN, hf⟩, hzs, hap, hsh, hrb, hsp⟩ rfl

structure BI (s : SiteD) (x : RX) : Prop where
  le : x.1 ≤ s.robots.length
  ri : RI s x.2.1 x.2.2.1 x.2.2.2
  zs : x.2.2.2.zs = s.zones
  ap : x.2.2.2.ap = s.aparts
  sh : x.2.2.2.sh = s.shelves
  rb : x.2.2.2.rb = s.robots.take x.1
  rp : ∀ j, j < x.1 → RP s j
def rr (s : SiteD) (x : RX) : St := ⟨upd (upd (upd (upd (upd emp 1 (tC (.ptr 0 0 0 0))) 3 (tC (.ptr 1 0 0 0))) 86 (tC (.r (.rd 2 (s.robots.map encStart))))) 87 (tI s.robots.length)) 88 (tI x.1), x.2.1, x.2.2.1⟩

theorem f43d (hfew : FewOk s 1000 1000) {Q : XE → St → Prop} (hQ : ∀ x, BI s x → x.1 = s.robots.length → Q (.exit 6) ⟨upd (rr s x).tm 89 (tB (decide ((s.robots.length : Int) < s.robots.length))), x.2.1, x.2.2.1⟩) (hno : ∀ {tm : Nat → Option T} {K : KMap} {N : Nat}, tm 2 = some (tB false) → Q .ret ⟨tm, K, N⟩) :
    ∀ x, BI s x → awp Try.prog 0 s43_12 (rr s x) (roundQ 0 (rr s) (fun x => s.robots.length - x.1) (BI s) x Q) := by
  rintro ⟨i, K, N, m⟩ ⟨hi, ⟨hM, hmi, hk0, hN, hf⟩, hzs, hap, hsh, hrb, hrp⟩
  simp only at hi hM hmi hk0 hN hf hzs hap hsh hrb hrp
  simp only [go_sem, s43_12, rr, ↓reduceIte, reduceCtorEq, Nat.reduceEqDiff, Nat.reduceAdd, Nat.reduceSub, Nat.reduceMul, Nat.reduceLT, Nat.reduceLeDiff, Int.reduceToNat]
  refine twoQ_at (fun g => ?_) (fun g => ?_)
  · have hi' : i < s.robots.length := by simpa using g
    have hna := hfew.nr
    have hwr : IntKind.i64.wrap ((i : Int) + 1) = ((i + 1 : Nat) : Int) := wrap_i (by omega) (by omega)
    obtain ⟨z, hz⟩ : ∃ z, z = s.robots.getD i default := ⟨_, rfl⟩
    simp only [go_sem, s43_11, rows_len, rows_at hi', ← hz, encStart, Int.toNat_natCast, ↓reduceIte, reduceCtorEq, Nat.reduceEqDiff, Nat.reduceAdd, Nat.reduceSub, Nat.reduceMul, Nat.reduceLT, Nat.reduceLeDiff, Int.reduceToNat]
    refine ⟨⟨by omega, by omega⟩, ?_⟩
    rw [upd_upd]
    refine Spec.callM hmi (f70 hmi z (by rw [hrb, List.length_take]; omega)) (hM.upd (by omega) _) (by omega) rfl (fun a ha => ?_) ?_
    · simp only [List.mem_cons, List.not_mem_nil, or_false] at ha
      rcases ha with rfl | rfl <;> rfl
    rintro _ m' K' hmi' ⟨e, rfl, hA⟩ hM' hK'
    simp only [go_sem, s43_10, s43_9, ↓reduceIte, reduceCtorEq, Nat.reduceEqDiff, Nat.reduceAdd, Nat.reduceSub, Nat.reduceMul, Nat.reduceLT, Nat.reduceLeDiff, Int.reduceToNat]
    refine twoQ_at (fun g6 => ?_) (fun g6 => ?_)
    · simp only [go_sem, s43_8, ↓reduceIte, reduceCtorEq, Nat.reduceEqDiff, Nat.reduceAdd, Nat.reduceSub, Nat.reduceMul, Nat.reduceLT, Nat.reduceLeDiff, Int.reduceToNat]
      exact hno rfl
    · simp only [ne_eq, decide_eq_false_iff_not, Decidable.not_not] at g6
      obtain ⟨a1, a2, a3, a4, a5, es, rfl⟩ := hA g6
      simp only [go_sem, s43_7, ↓reduceIte, reduceCtorEq, Nat.reduceEqDiff, Nat.reduceAdd, Nat.reduceSub, Nat.reduceMul, Nat.reduceLT, Nat.reduceLeDiff, Int.reduceToNat]
      refine ⟨(i + 1, K', N + 1, _), ⟨by simp only; omega, ⟨hM', hmi', ?_, by simp only; omega, hf⟩, hzs, hap, hsh, ?_, fun j hj => ?_⟩, by simp only; omega, ?_⟩
      · simp only
        rw [hK' 0 (.inl (by omega)) (by omega), upd_ne _ _ (by omega)]
        exact hk0
      · simp only [hrb, take_snoc hi', ← hz]
      · by_cases ej : j = i
        · subst ej
          rw [hf] at a1 a4
          refine ⟨by rw [← hz]; exact a1, by rw [← hz]; exact a4, by rw [← hz]; exact a2, by rw [← hz]; exact a3, fun j' hj' he => ?_⟩
          rw [List.any_eq_false] at a5
          refine a5 _ (by rw [hrb]; exact take_mem hj' hi) ?_
          rw [← hz] at he
          simp only [decide_eq_true_eq]
          exact he
        · exact hrp j (by simp only at hj; omega)
      · rw [hwr]
        refine Weak.cutTm ?_
        repeat (first | refine TmCut.cons rfl ?_ | exact TmCut.nil)
  · have hi' : i = s.robots.length := by simp at g; omega
    subst hi'
    exact hQ (s.robots.length, K, N, m) ⟨hi, ⟨hM, hmi, hk0, hN, hf⟩, hzs, hap, hsh, hrb, hrp⟩ rfl

theorem f43 (hfew : FewOk s 1000 1000) : Pure Try.prog 43 [.v (.agg (encSite s))] (RQ s) := by
  refine Pure.of_awp hm Try.func43 s43_ok (by simp [s43]) ?_
  have no : ∀ {tm : Nat → Option T} {K : KMap} {N : Nat}, tm 2 = some (tB false) → retP [SRes.tmp 2] (RQ s) .ret ⟨tm, K, N⟩ := by
    intro tm K N h
    simp only [go_sem, h, ↓reduceIte, reduceCtorEq, Nat.reduceEqDiff, Nat.reduceAdd, Nat.reduceSub, Nat.reduceMul, Nat.reduceLT, Nat.reduceLeDiff, Int.reduceToNat]
    exact ⟨rfl, false, rfl, fun h => by cases h⟩
  simp only [go_sem, s43, encSite, ↓reduceIte, reduceCtorEq, Nat.reduceEqDiff, Nat.reduceAdd, Nat.reduceSub, Nat.reduceMul, Nat.reduceLT, Nat.reduceLeDiff, Int.reduceToNat]
  refine Pure.call (f61 s.floor) (liftA_refl rfl) ?_
  rintro _ ⟨bf, rfl, hbf⟩ _
  simp only [go_sem, s43_48, s43_47, ↓reduceIte, reduceCtorEq, Nat.reduceEqDiff, Nat.reduceAdd, Nat.reduceSub, Nat.reduceMul, Nat.reduceLT, Nat.reduceLeDiff, Int.reduceToNat]
  refine twoQ_at (fun g0 => ?_) (fun g0 => ?_)
  · simp only [go_sem, s43_46, ↓reduceIte, reduceCtorEq, Nat.reduceEqDiff, Nat.reduceAdd, Nat.reduceSub, Nat.reduceMul, Nat.reduceLT, Nat.reduceLeDiff, Int.reduceToNat]
    exact ⟨rfl, false, rfl, fun h => by cases h⟩
  simp only [Bool.not_eq_false'] at g0
  have hF := hbf g0
  simp only [go_sem, s43_45, ↓reduceIte, reduceCtorEq, Nat.reduceEqDiff, Nat.reduceAdd, Nat.reduceSub, Nat.reduceMul, Nat.reduceLT, Nat.reduceLeDiff, Int.reduceToNat]
  refine Spec.plain (f62 s.floor) (liftA_refl rfl) ?_
  rintro _ _ _ ⟨rfl, rfl, rfl⟩
  have h0 : ∀ (a : AObj), joinK 1 (upd emp 0 a) (mkK (m0 s.floor)) 0 = some a := fun a => rfl
  simp only [go_sem, s43_44, s43_43, T.ren, V.ren, C.ren, addN, h0, rows_len, ↓reduceIte, reduceCtorEq, Nat.reduceEqDiff, Nat.reduceAdd, Nat.reduceSub, Nat.reduceMul, Nat.reduceLT, Nat.reduceLeDiff, Int.reduceToNat]
  refine awp_loop (rz s) (fun x => s.zones.length - x.1) (ZI s) (0, joinK 1 (upd emp 0 (.row 0 9 [encSite s])) (mkK (m0 s.floor)), 11, m0 s.floor) ⟨Nat.zero_le _, ⟨HasM.join, MI.m0, rfl, Nat.le_refl _, rfl⟩, rfl, rfl, rfl, rfl, fun j hj => by simp at hj⟩ ?_ (f43a hfew ?_ (fun h => no h))
  · refine Weak.cutTm ?_
    repeat (first | refine TmCut.cons rfl ?_ | exact TmCut.nil)
  rintro ⟨i, K, N, m⟩ ⟨_, ⟨hM, hmi, hk0, hN, hf⟩, hzs, hap, hsh, hrb, hzp⟩ hie
  simp only at hM hmi hk0 hN hf hzs hap hsh hrb hzp hie
  subst hie
  simp only [go_sem, rz, s43_27, hk0, encSite, rows_len, ↓reduceIte, reduceCtorEq, Nat.reduceEqDiff, Nat.reduceAdd, Nat.reduceSub, Nat.reduceMul, Nat.reduceLT, Nat.reduceLeDiff, Int.reduceToNat]
  rw [List.take_length] at hzs
  refine awp_loop (ra s) (fun x => s.aparts.length - x.1) (AI s) (0, K, N, m) ⟨Nat.zero_le _, ⟨hM, hmi, hk0, hN, hf⟩, hzs, hap, hsh, hrb⟩ ?_ (f43b hfew ?_ (fun h => no h))
  · refine Weak.cutTm ?_
    repeat (first | refine TmCut.cons rfl ?_ | exact TmCut.nil)
  rintro ⟨i, K, N, m⟩ ⟨_, ⟨hM, hmi, hk0, hN, hf⟩, hzs, hap, hsh, hrb⟩ hie
  simp only at hM hmi hk0 hN hf hzs hap hsh hrb hie
  subst hie
  simp only [go_sem, ra, s43_20, hk0, encSite, rows_len, ↓reduceIte, reduceCtorEq, Nat.reduceEqDiff, Nat.reduceAdd, Nat.reduceSub, Nat.reduceMul, Nat.reduceLT, Nat.reduceLeDiff, Int.reduceToNat]
  rw [List.take_length] at hap
  refine awp_loop (rs s) (fun x => s.shelves.length - x.1) (SI s) (0, K, N, m) ⟨Nat.zero_le _, ⟨hM, hmi, hk0, hN, hf⟩, hzs, hap, hsh, hrb, fun j hj => by simp at hj⟩ ?_ (f43c hfew ?_ (fun h => no h))
  · refine Weak.cutTm ?_
    repeat (first | refine TmCut.cons rfl ?_ | exact TmCut.nil)
  rintro ⟨i, K, N, m⟩ ⟨_, ⟨hM, hmi, hk0, hN, hf⟩, hzs, hap, hsh, hrb, hsp⟩ hie
  simp only at hM hmi hk0 hN hf hzs hap hsh hrb hsp hie
  subst hie
  simp only [go_sem, rs, s43_13, hk0, encSite, rows_len, ↓reduceIte, reduceCtorEq, Nat.reduceEqDiff, Nat.reduceAdd, Nat.reduceSub, Nat.reduceMul, Nat.reduceLT, Nat.reduceLeDiff, Int.reduceToNat]
  rw [List.take_length] at hsh
  refine awp_loop (rr s) (fun x => s.robots.length - x.1) (BI s) (0, K, N, m) ⟨Nat.zero_le _, ⟨hM, hmi, hk0, hN, hf⟩, hzs, hap, hsh, hrb, fun j hj => by simp at hj⟩ ?_ (f43d hfew ?_ (fun h => no h))
  · refine Weak.cutTm ?_
    repeat (first | refine TmCut.cons rfl ?_ | exact TmCut.nil)
  rintro ⟨i, K, N, m⟩ ⟨_, ⟨hM, hmi, hk0, hN, hf⟩, hzs, hap, hsh, hrb, hrp⟩ hie
  simp only at hM hmi hk0 hN hf hzs hap hsh hrb hrp hie
  subst hie
  simp only [go_sem, rr, s43_6, ↓reduceIte, reduceCtorEq, Nat.reduceEqDiff, Nat.reduceAdd, Nat.reduceSub, Nat.reduceMul, Nat.reduceLT, Nat.reduceLeDiff, Int.reduceToNat]
  have hns := hfew.ns; have hna := hfew.na; have hnz := hfew.nz
  refine PureK.callM hmi (f71 (by rw [hf]; exact hF) hmi (by rw [hsh]; omega) (by rw [hap]; omega)) hM (by omega) rfl (fun a ha => ?_) ?_
  · simp only [List.mem_cons, List.not_mem_nil, or_false] at ha
    subst ha; rfl
  rintro _ ⟨e1, rfl, he1⟩ _
  simp only [go_sem, s43_5, ↓reduceIte, reduceCtorEq, Nat.reduceEqDiff, Nat.reduceAdd, Nat.reduceSub, Nat.reduceMul, Nat.reduceLT, Nat.reduceLeDiff, Int.reduceToNat]
  refine guardQ_at (fun g1 => ?_) (fun g1 => ?_)
  · simp only [decide_eq_true_eq] at g1
    simp only [go_sem, s43_4, ↓reduceIte, reduceCtorEq, Nat.reduceEqDiff, Nat.reduceAdd, Nat.reduceSub, Nat.reduceMul, Nat.reduceLT, Nat.reduceLeDiff, Int.reduceToNat]
    refine PureK.callM hmi (f72 hmi (by rw [hzs]; omega) (fun j hj => ?_) (fun j hj q hq => ?_)) hM (by omega) rfl (fun a ha => ?_) ?_
    · rw [hzs] at hj ⊢
      have := (hfew.zc j hj).1; omega
    · rw [hzs] at hj hq ⊢
      rw [hf]
      exact (hzp j hj).isC q hq
    · simp only [List.mem_cons, List.not_mem_nil, or_false] at ha
      subst ha; rfl
    rintro _ rfl _
    simp only [go_sem, s43_3, ↓reduceIte, reduceCtorEq, Nat.reduceEqDiff, Nat.reduceAdd, Nat.reduceSub, Nat.reduceMul, Nat.reduceLT, Nat.reduceLeDiff, Int.reduceToNat]
    refine guardQ_at (fun g2 => ?_) (fun g2 => ?_)
    · simp only [decide_eq_true_eq] at g2
      simp only [go_sem, s43_2, ↓reduceIte, reduceCtorEq, Nat.reduceEqDiff, Nat.reduceAdd, Nat.reduceSub, Nat.reduceMul, Nat.reduceLT, Nat.reduceLeDiff, Int.reduceToNat]
      refine PureK.callM hmi (f73 hmi (by rw [hf]; have := hfew.kind; omega)) hM (by omega) rfl (fun a ha => ?_) ?_
      · simp only [List.mem_cons, List.not_mem_nil, or_false] at ha
        subst ha; rfl
      rintro _ rfl _
      simp only [go_sem, s43_1, ↓reduceIte, reduceCtorEq, Nat.reduceEqDiff, Nat.reduceAdd, Nat.reduceSub, Nat.reduceMul, Nat.reduceLT, Nat.reduceLeDiff, Int.reduceToNat]
      refine ⟨rfl, _, rfl, fun hch => ⟨hF, hzp, hsp, hrp, ?_, ?_, ?_⟩⟩
      · intro i hi c hc k hk hki
        have hat : atM m c = some k := by unfold atM; rw [hsh]; exact hk
        have := he1 g1 i (by rw [hsh]; exact hi) c (by rw [cellM, hsh, hf]; exact hc) k hat hki
        rw [hap] at this
        unfold clsM at this
        rw [hsh] at this
        exact this
      · intro j hj
        have hfr : ∀ c, freeM m c = freeS s c := fun c => by unfold freeM freeS atM atS; rw [hsh, hf]
        rcases idxF_spec (fun i => decide ((freeN m (m.zs.getD i default).cells (m.zs.getD i default).cells.length : Int) < (m.zs.getD i default).keep)) m.zs.length with ⟨_, h2⟩ | ⟨q, _, _, _, h3⟩
        · have := h2 j (by rw [hzs]; exact hj)
          rw [hzs] at this
          simp only [decide_eq_false_iff_not] at this
          have e : freeN m (s.zones.getD j default).cells (s.zones.getD j default).cells.length = freeC s (s.zones.getD j default).cells := by
            unfold freeN freeC
            congr 1
            funext q
            exact hfr _
          rw [e] at this
          omega
        · rw [h3] at g2; omega
      · rw [hf] at hch
        exact of_decide_eq_true hch
    · simp only [go_sem, s43_2, s43_1, ↓reduceIte, reduceCtorEq, Nat.reduceEqDiff, Nat.reduceAdd, Nat.reduceSub, Nat.reduceMul, Nat.reduceLT, Nat.reduceLeDiff, Int.reduceToNat]
      exact ⟨rfl, false, rfl, fun h => by cases h⟩
  · simp only [go_sem, s43_4, s43_3, s43_2, s43_1, ↓reduceIte, reduceCtorEq, Nat.reduceEqDiff, Nat.reduceAdd, Nat.reduceSub, Nat.reduceMul, Nat.reduceLT, Nat.reduceLeDiff, Int.reduceToNat]
    exact ⟨rfl, false, rfl, fun h => by cases h⟩
end Go.Proofs.Ytcocbifjjafknaa.AL

/- The site of the examples. -/
set_option linter.unusedSimpArgs false
set_option linter.unusedVariables false
namespace Go.Proofs.Ytcocbifjjafknaa.AL
open Go
variable {s : SiteD} {st : StateD}

def sampZ : ZoneD := ⟨⟨#[122]⟩, [0, 1], 2, 1, [(5, 8)]⟩
def sampS : SiteD := ⟨⟨4, 1, 1, [1, 1, 1, 3], [1, 5, 5, 4]⟩, [sampZ], [⟨⟨#[65]⟩, ⟨#[66]⟩⟩], [⟨0, ⟨#[65]⟩⟩, ⟨2, ⟨#[66]⟩⟩], []⟩
def sampT : StateD := ⟨0, [0, 2], [], [], [], []⟩
def sampSC : List C := [cV (.int .i64 4), cV (.int .i64 1), cV (.int .i64 1), .own 0 0 0 4, .own 1 0 0 4, .own 4 0 0 1, .own 5 0 0 1, .own 6 0 0 2, cV nilS]
def sampTC : List C := [cV (.int .i64 0), .own 7 0 0 2, cV nilS, cV nilS, cV nilS, cV nilS]
def sampK : KMap := upd (upd (upd (upd (upd (upd (upd (upd emp 0 (.row 0 1 (intC [1, 1, 1, 3]))) 1 (.row 0 1 (intC [1, 5, 5, 4]))) 2 (.row 0 1 (intC [0, 1]))) 3 (.row 0 2 [[cV (.int .i64 5), cV (.int .i64 8)]])) 4 (.row 0 5 [[cV (.string ⟨#[122]⟩), .own 2 0 0 2, cV (.int .i64 2), cV (.int .i64 1), .own 3 0 0 1]]))
  5 (.row 0 2 (rowC encApart [⟨⟨#[65]⟩, ⟨#[66]⟩⟩]))) 6 (.row 0 2 (rowC encShelf [⟨0, ⟨#[65]⟩⟩, ⟨2, ⟨#[66]⟩⟩]))) 7 (.row 0 1 (intC [0, 2]))

theorem f41 : Spec Try.prog 41 [] emp 0 fun d K N => d = .tup [.agg sampSC, .agg sampTC] ∧ K = sampK ∧ N = 8 := by
  refine Spec.of_awp hm Try.func41 s41_ok (by simp [s41]) ?_
  simp only [go_sem, s41, rowsOf, ↓reduceIte, reduceCtorEq, Nat.reduceEqDiff, Nat.reduceAdd, Nat.reduceSub, Nat.reduceMul, Nat.reduceLT, Nat.reduceLeDiff, Int.reduceToNat]
  refine ⟨_, sampK, 8, _, Back.list [2, 3, 5, 6, 7, 8, 9, 11] _ (by decide) (fun i o hk => ?_) rfl rfl, rfl, rfl, rfl⟩
  unfold sampK at hk
  simp only [upd, emp] at hk
  repeat (split at hk; · rename_i e; subst e; cases hk; exact ⟨by decide, rfl, rfl⟩)
  cases hk

theorem CastC.r_of {K : KMap} {c : C} {r : R} (h : CastC K c (.r r)) : CastR K c r := by
  rcases h with ⟨rfl, _⟩ | ⟨r', h1, h2⟩
  · exact .r
  · cases h1; exact h2

theorem encZone_len (z : ZoneD) : (encZone z).length = 5 := rfl

theorem samp_cast {K : KMap} (h : ∀ i, i < 8 → K i = sampK i) : liftA (CastC K) [.v (.agg sampSC), .v (.agg sampTC)] [.v (.agg (encSite sampS)), .v (.agg (encState sampT))] := by
  have c0 : CastC K (.own 0 0 0 4) (.r (.rd 1 (ints [1, 1, 1, 3]))) := intC_cast (l := [1, 1, 1, 3]) ((h 0 (by decide)).trans rfl) (by decide)
  have c1 : CastC K (.own 1 0 0 4) (.r (.rd 1 (ints [1, 5, 5, 4]))) := intC_cast (l := [1, 5, 5, 4]) ((h 1 (by decide)).trans rfl) (by decide)
  have c2 : CastC K (.own 2 0 0 2) (.r (.rd 1 (ints [0, 1]))) := intC_cast (l := [0, 1]) ((h 2 (by decide)).trans rfl) (by decide)
  have c7 : CastC K (.own 7 0 0 2) (.r (.rd 1 (ints [0, 2]))) := intC_cast (l := [0, 2]) ((h 7 (by decide)).trans rfl) (by decide)
  have c5 : CastC K (.own 5 0 0 1) (.r (.rd 2 (sampS.aparts.map encApart))) := rowC_cast (l := sampS.aparts) (fun x => rfl) ((h 5 (by decide)).trans rfl)
  have c6 : CastC K (.own 6 0 0 2) (.r (.rd 2 (sampS.shelves.map encShelf))) := rowC_cast (l := sampS.shelves) (fun x => rfl) ((h 6 (by decide)).trans rfl)
  have c3 : CastR K (.own 3 0 0 1) (.rd 2 (spans [(5, 8)])) := by
    refine .own ((h 3 (by decide)).trans rfl) (by decide) rfl (fun y hy => ?_) (fun i k c r hi hc hr => ?_)
    · simp [spans] at hy; subst hy; rfl
    · obtain rfl : i = 0 := by omega
      match k with
      | 0 => simp [spans] at hc hr; subst hc hr; exact .r
      | 1 => simp [spans] at hc hr; subst hc hr; exact .r
      | k + 2 => simp [spans] at hr
  have c4 : CastC K (.own 4 0 0 1) (.r (.rd 5 (sampS.zones.map encZone))) := by
    refine .inr ⟨_, rfl, .own ((h 4 (by decide)).trans rfl) (by decide) rfl (fun y hy => ?_) (fun i k c r hi hc hr => ?_)⟩
    · simp [sampS] at hy; subst hy; rfl
    · obtain rfl : i = 0 := by omega
      match k with
      | 0 => simp [sampS, encZone, sampZ] at hc hr; subst hc hr; exact .r
      | 1 => simp [sampS, encZone, sampZ] at hc hr; subst hc hr; exact c2.r_of
      | 2 => simp [sampS, encZone, sampZ] at hc hr; subst hc hr; exact .r
      | 3 => simp [sampS, encZone, sampZ] at hc hr; subst hc hr; exact .r
      | 4 => simp [sampS, encZone, sampZ] at hc hr; subst hc hr; exact c3
      | k + 5 => simp [sampS, encZone] at hr
  have nil : ∀ sz, CastC K (cV nilS) (.r (.rd sz [])) := fun sz => .inr ⟨_, rfl, .nil⟩
  have val : ∀ v, CastC K (cV v) (cV v) := fun v => .inl ⟨rfl, rfl⟩
  refine ⟨⟨rfl, fun i c c' hi hi' => ?_⟩, ⟨rfl, fun i c c' hi hi' => ?_⟩, trivial⟩
  · match i with
    | 0 => cases hi; cases hi'; exact val _
    | 1 => cases hi; cases hi'; exact val _
    | 2 => cases hi; cases hi'; exact val _
    | 3 => cases hi; cases hi'; exact c0
    | 4 => cases hi; cases hi'; exact c1
    | 5 => cases hi; cases hi'; exact c4
    | 6 => cases hi; cases hi'; exact c5
    | 7 => cases hi; cases hi'; exact c6
    | 8 => cases hi; cases hi'; exact nil 2
    | i + 9 => simp [sampSC] at hi
  · match i with
    | 0 => cases hi; cases hi'; exact val _
    | 1 => cases hi; cases hi'; exact c7
    | 2 => cases hi; cases hi'; exact nil 6
    | 3 => cases hi; cases hi'; exact nil 1
    | 4 => cases hi; cases hi'; exact nil 1
    | 5 => cases hi; cases hi'; exact nil 2
    | i + 6 => simp [sampTC] at hi

theorem sampF : FloorOk sampS.floor where
  w1 := by decide
  w2 := by decide
  h1 := by decide
  h2 := by decide
  d1 := by decide
  d2 := by decide
  size := by decide
  n2 := by decide
  out := rfl
  kind := fun i hi => by
    have hc : i = 0 ∨ i = 1 ∨ i = 2 ∨ i = 3 := by simp [sampS] at hi; omega
    rcases hc with rfl | rfl | rfl | rfl <;> decide
  outs := fun i hi => by
    have hc : i = 0 ∨ i = 1 ∨ i = 2 ∨ i = 3 := by simp [sampS] at hi; omega
    rcases hc with rfl | rfl | rfl | rfl <;> decide

theorem sampZO : ZonesOk sampS where
  nz := by decide
  nc := fun i hi => by
    obtain rfl : i = 0 := by simp [sampS] at hi; omega
    decide
  asc := fun i hi => by
    obtain rfl : i = 0 := by simp [sampS] at hi; omega
    intro a b hab hb
    have : b < 2 := hb
    obtain rfl : a = 0 := by omega
    obtain rfl : b = 1 := by omega
    decide
  ns := fun i hi => by
    obtain rfl : i = 0 := by simp [sampS] at hi; omega
    decide
theorem sampSO : StOk sampT := ⟨by decide, by decide⟩

theorem addN0 : addN 0 = fun i => i := by funext i; unfold addN; omega
theorem joinK0 {K : KMap} : joinK 0 emp K = K := by
  funext i
  unfold joinK
  rw [if_neg (by omega), addN0, show AObj.ren (fun i => i) = id from funext AObj.ren_id, Option.map_id]
  rfl

theorem samp_site {K : KMap} (h : ∀ i, i < 8 → K i = sampK i) : liftA (CastC K) [.v (.agg sampSC)] [.v (.agg (encSite sampS))] := ⟨(samp_cast h).1, trivial⟩

theorem v1 : speedF sampS 1 = 2 := by kernel_rfl
theorem v2 : speedF sampS 2 = 1 := by kernel_rfl
theorem v3 : openF sampS 0 7 = false := by kernel_rfl
theorem v4 : openF sampS 0 8 = true := by kernel_rfl
theorem v5 : roomF sampS sampT 0 = 0 := by kernel_rfl
theorem v6 : dropF sampS sampT 1 1 = 17 := by kernel_rfl
theorem v7 : apOk sampS sampT = false := by kernel_rfl

theorem f8 : Pure Try.prog 8 [] (· = tB true) := by
  refine Pure.of_awp hm Try.func8 s8_ok (by simp [s8]) ?_
  simp only [go_sem, s8, ↓reduceIte, reduceCtorEq, Nat.reduceEqDiff, Nat.reduceAdd, Nat.reduceSub, Nat.reduceMul, Nat.reduceLT, Nat.reduceLeDiff, Int.reduceToNat]
  refine Spec.plain f41 (liftA_refl rfl) ?_
  rintro _ _ _ ⟨rfl, rfl, rfl⟩
  rw [addN0, T.ren_id, joinK0]
  have hc : ∀ (a b c d : AObj) i, i < 8 → upd (upd (upd (upd sampK 8 a) 9 b) 8 c) 9 d i = sampK i := fun a b c d i hi => by
    rw [upd_ne _ _ (by omega), upd_ne _ _ (by omega), upd_ne _ _ (by omega), upd_ne _ _ (by omega)]
  have e1 : (sampSC.take 9) = sampSC := rfl
  have e2 : (sampTC.take 6) = sampTC := rfl
  have e3 : sampSC.length = 9 := rfl
  have e4 : sampTC.length = 6 := rfl
  simp only [go_sem, s8_16, s8_15, e1, e2, e3, e4, List.drop_nil, List.append_nil, ↓reduceIte, reduceCtorEq, Nat.reduceEqDiff, Nat.reduceAdd, Nat.reduceSub, Nat.reduceMul, Nat.reduceLT, Nat.reduceLeDiff, Int.reduceToNat]
  refine Pure.castS (f10 sampF (by decide) (by decide) (by decide)) (samp_cast (hc _ _ _ _)) rfl ?_
  rw [v7]
  simp only [go_sem, s8_14, s8_13, e1, e2, e3, e4, ↓reduceIte, reduceCtorEq, Nat.reduceEqDiff, Nat.reduceAdd, Nat.reduceSub, Nat.reduceMul, Nat.reduceLT, Nat.reduceLeDiff, Int.reduceToNat]
  refine Pure.castS (f24 sampZO 1) ⟨(samp_cast (hc _ _ _ _)).1, .inl ⟨rfl, rfl⟩, trivial⟩ rfl ?_
  rw [v1]
  simp only [go_sem, s8_12, s8_11, e1, e2, e3, e4, eq_self, decide_true, ↓reduceIte, reduceCtorEq, Nat.reduceEqDiff, Nat.reduceAdd, Nat.reduceSub, Nat.reduceMul, Nat.reduceLT, Nat.reduceLeDiff, Int.reduceToNat]
  refine Pure.castS (f24 sampZO 2) ⟨(samp_cast (hc _ _ _ _)).1, .inl ⟨rfl, rfl⟩, trivial⟩ rfl ?_
  rw [v2]
  simp only [go_sem, s8_10, s8_9, e1, e2, e3, e4, eq_self, decide_true, ↓reduceIte, reduceCtorEq, Nat.reduceEqDiff, Nat.reduceAdd, Nat.reduceSub, Nat.reduceMul, Nat.reduceLT, Nat.reduceLeDiff, Int.reduceToNat]
  refine Pure.castS (f25 sampZO 0 7) ⟨(samp_cast (hc _ _ _ _)).1, .inl ⟨rfl, rfl⟩, .inl ⟨rfl, rfl⟩, trivial⟩ rfl ?_
  rw [v3]
  simp only [go_sem, s8_8, s8_7, e1, e2, e3, e4, eq_self, decide_true, ↓reduceIte, reduceCtorEq, Nat.reduceEqDiff, Nat.reduceAdd, Nat.reduceSub, Nat.reduceMul, Nat.reduceLT, Nat.reduceLeDiff, Int.reduceToNat]
  refine Pure.castS (f25 sampZO 0 8) ⟨(samp_cast (hc _ _ _ _)).1, .inl ⟨rfl, rfl⟩, .inl ⟨rfl, rfl⟩, trivial⟩ rfl ?_
  rw [v4]
  simp only [go_sem, s8_6, s8_5, e1, e2, e3, e4, eq_self, decide_true, ↓reduceIte, reduceCtorEq, Nat.reduceEqDiff, Nat.reduceAdd, Nat.reduceSub, Nat.reduceMul, Nat.reduceLT, Nat.reduceLeDiff, Int.reduceToNat]
  refine Pure.castS (f19 sampZO sampSO 0) ⟨(samp_cast (hc _ _ _ _)).1, (samp_cast (hc _ _ _ _)).2.1, .inl ⟨rfl, rfl⟩, trivial⟩ rfl ?_
  rw [v5]
  simp only [go_sem, s8_4, s8_3, e1, e2, e3, e4, eq_self, decide_true, ↓reduceIte, reduceCtorEq, Nat.reduceEqDiff, Nat.reduceAdd, Nat.reduceSub, Nat.reduceMul, Nat.reduceLT, Nat.reduceLeDiff, Int.reduceToNat]
  refine Pure.castS (f15 sampF (by decide) (by decide) (by decide) 1 1) ⟨(samp_cast (hc _ _ _ _)).1, (samp_cast (hc _ _ _ _)).2.1, .inl ⟨rfl, rfl⟩, .inl ⟨rfl, rfl⟩, trivial⟩ rfl ?_
  rw [v6]
  simp only [go_sem, s8_2, s8_1, eq_self, decide_true, ↓reduceIte, reduceCtorEq, Nat.reduceEqDiff, Nat.reduceAdd, Nat.reduceSub, Nat.reduceMul, Nat.reduceLT, Nat.reduceLeDiff, Int.reduceToNat]
  rfl
end Go.Proofs.Ytcocbifjjafknaa.AL

/- What the laws ask of their inputs. -/
set_option linter.unusedSimpArgs false
set_option linter.unusedVariables false
namespace Go.Proofs.Ytcocbifjjafknaa.AL
open Go
variable {s : SiteD} {st : StateD}

structure Fits (s : SiteD) (st : StateD) : Prop where
  few : FewOk s 60 20
  nr : st.robots.length ≤ 20
  nsh : st.shelves.length = s.shelves.length
  ok : SiteOk s
  sh : ∀ i, i < st.shelves.length → isF s.floor (st.shelves.getD i 0) = true

theorem FewOk.big (h : FewOk s 60 20) : FewOk s 1000 1000 :=
  ⟨by have := h.kind; omega, by have := h.out; omega, by have := h.nz; omega, by have := h.na; omega, by have := h.ns; omega, by have := h.nr; omega, fun i hi => by have := h.zc i hi; omega⟩

theorem f9 : Pure Try.prog 9 [.v (.agg (encSite s)), .v (.agg (encState st))] (fun d => ∃ b, d = tB b ∧ (b = true → Fits s st)) := by
  refine Pure.of_awp hm Try.func9 s9_ok (by simp [s9]) ?_
  have no : T.below 0 (tB false) = true ∧ ∃ b, tB false = tB b ∧ (b = true → Fits s st) := ⟨rfl, false, rfl, fun h => by cases h⟩
  simp only [go_sem, s9, encSite, encState, ↓reduceIte, reduceCtorEq, Nat.reduceEqDiff, Nat.reduceAdd, Nat.reduceSub, Nat.reduceMul, Nat.reduceLT, Nat.reduceLeDiff, Int.reduceToNat]
  refine Pure.call (f42 s 60 20 (by decide)) (liftA_refl rfl) ?_
  rintro _ ⟨b1, rfl, h1⟩ _
  simp only [go_sem, s9_15, ↓reduceIte, reduceCtorEq, Nat.reduceEqDiff, Nat.reduceAdd, Nat.reduceSub, Nat.reduceMul, Nat.reduceLT, Nat.reduceLeDiff, Int.reduceToNat]
  refine guardQ_at (fun g1 => ?_) (fun g1 => ?_)
  · simp only [Bool.not_eq_false'] at g1
    have hfew := h1 g1
    simp only [go_sem, s9_14, encState, rows_len, ↓reduceIte, reduceCtorEq, Nat.reduceEqDiff, Nat.reduceAdd, Nat.reduceSub, Nat.reduceMul, Nat.reduceLT, Nat.reduceLeDiff, Int.reduceToNat]
    refine guardQ_at (fun g2 => ?_) (fun g2 => ?_)
    · simp only [decide_eq_false_iff_not] at g2
      simp only [go_sem, s9_13, encState, encSite, rows_len, ints_len, ↓reduceIte, reduceCtorEq, Nat.reduceEqDiff, Nat.reduceAdd, Nat.reduceSub, Nat.reduceMul, Nat.reduceLT, Nat.reduceLeDiff, Int.reduceToNat]
      refine guardQ_at (fun g3 => ?_) (fun g3 => ?_)
      · simp only [ne_eq, decide_eq_false_iff_not, Decidable.not_not] at g3
        simp only [go_sem, s9_12, ↓reduceIte, reduceCtorEq, Nat.reduceEqDiff, Nat.reduceAdd, Nat.reduceSub, Nat.reduceMul, Nat.reduceLT, Nat.reduceLeDiff, Int.reduceToNat]
        refine Pure.call (f43 hfew.big) (liftA_refl rfl) ?_
        rintro _ ⟨b2, rfl, h2⟩ _
        simp only [go_sem, s9_11, s9_10, ↓reduceIte, reduceCtorEq, Nat.reduceEqDiff, Nat.reduceAdd, Nat.reduceSub, Nat.reduceMul, Nat.reduceLT, Nat.reduceLeDiff, Int.reduceToNat]
        refine twoQ_at (fun g4 => ?_) (fun g4 => ?_)
        · simp only [go_sem, s9_9, ↓reduceIte, reduceCtorEq, Nat.reduceEqDiff, Nat.reduceAdd, Nat.reduceSub, Nat.reduceMul, Nat.reduceLT, Nat.reduceLeDiff, Int.reduceToNat]
          exact no
        · simp only [Bool.not_eq_false'] at g4
          have hok := h2 g4
          have hns := hfew.ns
          simp only [go_sem, s9_8, ↓reduceIte, reduceCtorEq, Nat.reduceEqDiff, Nat.reduceAdd, Nat.reduceSub, Nat.reduceMul, Nat.reduceLT, Nat.reduceLeDiff, Int.reduceToNat]
          refine awp_loop (fun i : Nat => ⟨upd (upd (upd emp 2 (tC (.ptr 0 0 0 0))) 3 (tC (.ptr 1 0 0 0))) 5 (tI i), upd (upd emp 0 (.row 0 9 [encSite s])) 1 (.row 0 6 [encState st]), 2⟩) (fun i => st.shelves.length - i)
            (fun i => i ≤ st.shelves.length ∧ ∀ j, j < i → isF s.floor (st.shelves.getD j 0) = true) 0 ⟨Nat.zero_le _, fun j hj => by omega⟩ ?_ ?_
          · exact Weak.cutTm (by repeat (first | refine TmCut.cons rfl ?_ | refine TmCut.cons (by simp [upd, *]; done) ?_ | exact TmCut.nil))
          · intro i ⟨hi, hin⟩
            simp only [go_sem, s9_7, encState, ints_len, ↓reduceIte, reduceCtorEq, Nat.reduceEqDiff, Nat.reduceAdd, Nat.reduceSub, Nat.reduceMul, Nat.reduceLT, Nat.reduceLeDiff, Int.reduceToNat]
            refine twoQ_at (fun g5 => ?_) (fun g5 => ?_)
            · have hi' : i < st.shelves.length := by simpa using g5
              simp only [go_sem, s9_6, encState, encSite, ints_len, ints_at hi', Int.toNat_natCast, ↓reduceIte, reduceCtorEq, Nat.reduceEqDiff, Nat.reduceAdd, Nat.reduceSub, Nat.reduceMul, Nat.reduceLT, Nat.reduceLeDiff, Int.reduceToNat]
              refine ⟨⟨by omega, by omega⟩, Pure.callS (f22 hok.floor _) rfl ?_⟩
              simp only [go_sem, s9_5, s9_4, ↓reduceIte, reduceCtorEq, Nat.reduceEqDiff, Nat.reduceAdd, Nat.reduceSub, Nat.reduceMul, Nat.reduceLT, Nat.reduceLeDiff, Int.reduceToNat]
              refine twoQ_at (fun g6 => ?_) (fun g6 => ?_)
              · simp only [go_sem, s9_3, ↓reduceIte, reduceCtorEq, Nat.reduceEqDiff, Nat.reduceAdd, Nat.reduceSub, Nat.reduceMul, Nat.reduceLT, Nat.reduceLeDiff, Int.reduceToNat]
                exact no
              · simp only [Bool.not_eq_false'] at g6
                simp only [go_sem, s9_2, ↓reduceIte, reduceCtorEq, Nat.reduceEqDiff, Nat.reduceAdd, Nat.reduceSub, Nat.reduceMul, Nat.reduceLT, Nat.reduceLeDiff, Int.reduceToNat]
                refine ⟨i + 1, ⟨by omega, fun j hj => ?_⟩, by omega, ?_⟩
                · by_cases e : j = i
                  · subst e; exact g6
                  · exact hin j (by omega)
                · rw [wrap_i (by omega) (by omega)]
                  exact Weak.cutTm (by repeat (first | refine TmCut.cons rfl ?_ | refine TmCut.cons (by simp [upd, *]; done) ?_ | exact TmCut.nil))
            · have hi' : i = st.shelves.length := by simp at g5; omega
              subst hi'
              simp only [go_sem, s9_1, ↓reduceIte, reduceCtorEq, Nat.reduceEqDiff, Nat.reduceAdd, Nat.reduceSub, Nat.reduceMul, Nat.reduceLT, Nat.reduceLeDiff, Int.reduceToNat]
              exact ⟨rfl, true, rfl, fun _ => ⟨hfew, by omega, by omega, hok, hin⟩⟩
      · simp only [go_sem, s9_12, s9_11, s9_10, s9_9, ↓reduceIte, reduceCtorEq, Nat.reduceEqDiff, Nat.reduceAdd, Nat.reduceSub, Nat.reduceMul, Nat.reduceLT, Nat.reduceLeDiff, Int.reduceToNat]
        exact no
    · simp only [go_sem, s9_13, s9_12, s9_11, s9_10, s9_9, ↓reduceIte, reduceCtorEq, Nat.reduceEqDiff, Nat.reduceAdd, Nat.reduceSub, Nat.reduceMul, Nat.reduceLT, Nat.reduceLeDiff, Int.reduceToNat]
      exact no
  · simp only [go_sem, s9_14, s9_13, s9_12, s9_11, s9_10, s9_9, ↓reduceIte, reduceCtorEq, Nat.reduceEqDiff, Nat.reduceAdd, Nat.reduceSub, Nat.reduceMul, Nat.reduceLT, Nat.reduceLeDiff, Int.reduceToNat]
    exact no

/-! The cells near a cell, in two ways. -/
theorem cellF_isF {f : FloorD} (h : FloorOk f) {x y z : Int} (hc : 0 ≤ cellF f x y z) : isF f (cellF f x y z) = true := by
  unfold cellF at hc ⊢
  split at hc
  · rename_i hx
    rw [if_pos hx]
    obtain ⟨b1, b2, b3, b4, b5⟩ := cell_bound h hx
    simp only [isF, Bool.and_eq_true, decide_eq_true_eq]
    omega
  · omega

theorem near_side {f : FloorD} (h : FloorOk f) {a b : Int} (ha : isF f a = true) (hb : isF f b = true) : nearF f a b = decide (b ∈ posL (sideL f a)) := by
  have hb0 : ¬ b < 0 := by simp only [isF, Bool.and_eq_true, decide_eq_true_eq] at hb; omega
  have e : b ∈ posL (sideL f a) ↔ (besideF f a 0 = b ∨ besideF f a 1 = b ∨ besideF f a 2 = b ∨ besideF f a 3 = b) := by
    unfold posL
    rw [List.mem_filter]
    simp only [sideL, besideF, ha, List.mem_cons, List.not_mem_nil, or_false, Bool.true_eq_false, if_false, if_true]
    simp only [hb0, decide_false, Bool.not_false, and_true, Bool.not_true]
    constructor
    · rintro (h | h | h | h) <;> simp [h]
    · intro h
      simp at h
      rcases h with h | h | h | h <;> simp [h]
  rw [Bool.eq_iff_iff]
  simp only [nearF, hb, Bool.true_and, Bool.or_eq_true, decide_eq_true_eq, e, or_assoc]

theorem pairF_symm {n : Nat} {a b : ByteArray} : pairF s n a b = pairF s n b a := by
  unfold pairF
  congr 1
  funext j
  rw [Bool.or_comm, Bool.and_comm, Bool.and_comm (decide (a = (s.aparts.getD j default).a))]

theorem neverF_symm {a b : ByteArray} : neverF s a b = neverF s b a := by
  unfold neverF
  rw [pairF_symm, Bool.and_comm (decide (a ≠ _))]
end Go.Proofs.Ytcocbifjjafknaa.AL

/- How a site and a state are read. -/
set_option linter.unusedSimpArgs false
set_option linter.unusedVariables false
namespace Go.Proofs.Ytcocbifjjafknaa.AL
open Go

def spanSh : List Sh := [.num .i64, .num .i64]
def zoneSh : List Sh := [.str, .sl 1 8 [.num .i64], .num .i64, .num .i64, .sl 2 16 spanSh]
def siteSh : List Sh := [.num .i64, .num .i64, .num .i64, .sl 1 8 [.num .i64], .sl 1 8 [.num .i64], .sl 5 80 zoneSh, .sl 2 32 [.str, .str], .sl 2 24 [.num .i64, .str], .sl 2 16 spanSh]
def robotSh : List Sh := [.num .i64, .num .i64, .num .i64, .num .i64, .num .i64, .bool]
def stateSh : List Sh := [.num .i64, .sl 1 8 [.num .i64], .sl 6 48 robotSh, .sl 1 8 [.num .i64], .sl 1 8 [.num .i64], .sl 2 16 spanSh]

/-- No slice takes more than an address reaches. -/
structure SiteSz (s : SiteD) : Prop where
  kind : s.floor.kind.length * 8 ≤ reachBytes
  out : s.floor.out.length * 8 ≤ reachBytes
  zones : s.zones.length * 80 ≤ reachBytes
  aparts : s.aparts.length * 32 ≤ reachBytes
  shelves : s.shelves.length * 24 ≤ reachBytes
  robots : s.robots.length * 16 ≤ reachBytes
structure StateSz (s : StateD) : Prop where
  shelves : s.shelves.length * 8 ≤ reachBytes
  robots : s.robots.length * 48 ≤ reachBytes
  people : s.people.length * 8 ≤ reachBytes
  dead : s.dead.length * 8 ≤ reachBytes
  stuck : s.stuck.length * 16 ≤ reachBytes

theorem isInt {x : List R} (h : shsOk [.num .i64] x) : ∃ n : Int, x = (fun n : Int => [R.val (.int .i64 n)]) n := by
  obtain ⟨n, _, rfl, _, h1⟩ := shs_num h
  cases shs_nil h1
  exact ⟨n, rfl⟩
theorem isSpan {x : List R} (h : shsOk spanSh x) : ∃ n : Int × Int, x = (fun n : Int × Int => [R.val (.int .i64 n.1), R.val (.int .i64 n.2)]) n := by
  obtain ⟨n, _, rfl, _, h1⟩ := shs_num h
  obtain ⟨m, _, rfl, _, h2⟩ := shs_num h1
  cases shs_nil h2
  exact ⟨(n, m), rfl⟩
theorem isZone {x : List R} (h : shsOk zoneSh x) : ∃ z, x = encZone z := by
  obtain ⟨n, _, rfl, _, h1⟩ := shs_str h
  obtain ⟨c, _, rfl, w1, h2⟩ := shs_sl (fun _ => isInt) h1
  obtain ⟨sp, _, rfl, _, h3⟩ := shs_num h2
  obtain ⟨k, _, rfl, _, h4⟩ := shs_num h3
  obtain ⟨sh, _, rfl, w2, h5⟩ := shs_sl (fun _ => isSpan) h4
  cases shs_nil h5
  exact ⟨⟨n, c, sp, k, sh⟩, rfl⟩
theorem isApart {x : List R} (h : shsOk [.str, .str] x) : ∃ z, x = encApart z := by
  obtain ⟨n, _, rfl, _, h1⟩ := shs_str h
  obtain ⟨m, _, rfl, _, h2⟩ := shs_str h1
  cases shs_nil h2
  exact ⟨⟨n, m⟩, rfl⟩
theorem isShelf {x : List R} (h : shsOk [.num .i64, .str] x) : ∃ z, x = encShelf z := by
  obtain ⟨n, _, rfl, _, h1⟩ := shs_num h
  obtain ⟨m, _, rfl, _, h2⟩ := shs_str h1
  cases shs_nil h2
  exact ⟨⟨n, m⟩, rfl⟩
theorem isStart {x : List R} (h : shsOk spanSh x) : ∃ z, x = encStart z := by
  obtain ⟨n, _, rfl, _, h1⟩ := shs_num h
  obtain ⟨m, _, rfl, _, h2⟩ := shs_num h1
  cases shs_nil h2
  exact ⟨⟨n, m⟩, rfl⟩
theorem isRobot {x : List R} (h : shsOk robotSh x) : ∃ z, x = encRobot z := by
  obtain ⟨a, _, rfl, _, h1⟩ := shs_num h
  obtain ⟨b, _, rfl, _, h2⟩ := shs_num h1
  obtain ⟨c, _, rfl, _, h3⟩ := shs_num h2
  obtain ⟨d, _, rfl, _, h4⟩ := shs_num h3
  obtain ⟨e, _, rfl, _, h5⟩ := shs_num h4
  obtain ⟨f, _, rfl, h6⟩ := shs_bool h5
  cases shs_nil h6
  exact ⟨⟨a, b, c, d, e, f⟩, rfl⟩
theorem isSite {x : List R} (h : shsOk siteSh x) : ∃ s : SiteD, x.map C.r = encSite s ∧ SiteSz s := by
  obtain ⟨w, _, rfl, _, h1⟩ := shs_num h
  obtain ⟨g, _, rfl, _, h2⟩ := shs_num h1
  obtain ⟨d, _, rfl, _, h3⟩ := shs_num h2
  obtain ⟨k, _, rfl, w1, h4⟩ := shs_sl (fun _ => isInt) h3
  obtain ⟨o, _, rfl, w2, h5⟩ := shs_sl (fun _ => isInt) h4
  obtain ⟨z, _, rfl, w3, h6⟩ := shs_sl (fun _ => isZone) h5
  obtain ⟨a, _, rfl, w4, h7⟩ := shs_sl (fun _ => isApart) h6
  obtain ⟨s, _, rfl, w5, h8⟩ := shs_sl (fun _ => isShelf) h7
  obtain ⟨r, _, rfl, w6, h9⟩ := shs_sl (fun _ => isStart) h8
  cases shs_nil h9
  exact ⟨⟨⟨w, g, d, k, o⟩, z, a, s, r⟩, rfl, ⟨w1, w2, w3, w4, w5, w6⟩⟩
theorem isState {x : List R} (h : shsOk stateSh x) : ∃ s : StateD, x.map C.r = encState s ∧ StateSz s := by
  obtain ⟨t, _, rfl, _, h1⟩ := shs_num h
  obtain ⟨k, _, rfl, w1, h2⟩ := shs_sl (fun _ => isInt) h1
  obtain ⟨r, _, rfl, w2, h3⟩ := shs_sl (fun _ => isRobot) h2
  obtain ⟨p, _, rfl, w3, h4⟩ := shs_sl (fun _ => isInt) h3
  obtain ⟨d, _, rfl, w4, h5⟩ := shs_sl (fun _ => isInt) h4
  obtain ⟨s, _, rfl, w5, h6⟩ := shs_sl (fun _ => isSpan) h5
  cases shs_nil h6
  exact ⟨⟨t, k, r, p, d, s⟩, rfl, ⟨w1, w2, w3, w4, w5⟩⟩

theorem siteSh_ok : shOf Try.prog 8 30 = some siteSh := by kernel_rfl
theorem stateSh_ok : shOf Try.prog 8 34 = some stateSh := by kernel_rfl

theorem siteSt : isStructT Try.prog 30 = true := by kernel_rfl
theorem stateSt : isStructT Try.prog 34 = true := by kernel_rfl

section
variable {H : Type} {enc : TypeId × Value → H} {W : World} {b0 : Nat} {v : Value} {d : DataW H} {ps : List MemPlace}

set_option maxRecDepth 100000 in
theorem site_read (hv : Value.okWide Try.prog W .any b0 30 v) (h : DataW.Trod enc Try.prog W 0 (fun _ => true) true 30 v d ps) (hw : ∀ n ∈ d.weights Try.prog 30, n ≤ reachBytes) :
    ∃ s : SiteD, RepT (fun b => b < W.heap.size) 0 (fun _ => default) W (.v (.agg (encSite s))) v ∧ SiteSz s := read_agg siteSh_ok siteSt hv h hw fun _ => isSite

set_option maxRecDepth 100000 in
theorem state_read (hv : Value.okWide Try.prog W .any b0 34 v) (h : DataW.Trod enc Try.prog W 0 (fun _ => true) true 34 v d ps) (hw : ∀ n ∈ d.weights Try.prog 34, n ≤ reachBytes) :
    ∃ s : StateD, RepT (fun b => b < W.heap.size) 0 (fun _ => default) W (.v (.agg (encState s))) v ∧ StateSz s := read_agg stateSh_ok stateSt hv h hw fun _ => isState
end

end Go.Proofs.Ytcocbifjjafknaa.AL
