/- THE LAW ReachFuel HOLDS: whatever site and list of blocked cells it is called with, it returns true, and what was there before the call is as it was. No condition. -/
import Derived.Test.YticflcpmlbaafaaMc
import Derived.Test.YticflcpmlbaafaaMb
import Derived.Test.YticflcpmlbaafaaAc
import Derived.Test.YticflcpmlbaafaaRows
import Derived.WalkKit
import Derived.ProofKit
import Derived.OpenShut
import Derived.ShutString
import Derived.ChangeOld
import Derived.Below
import Derived.SizedLaws
import Derived.Carry

/- Energy: the law of fuel. -/
set_option linter.unusedSimpArgs false
set_option linter.unusedVariables false
namespace Go.Proofs.Yticflcpmlbaafaa.AL
open Go
variable {s : SiteD} {bl : List Int}

theorem bestL_snoc {F : List Int} {but : Int} {l : List (Int × Int)} {x : Int × Int} : bestL F but (l ++ [x]) = bestStep F but (bestL F but l) x := by simp [bestL]

theorem fx_ok (h0 : FloorOk s.floor) (hs : SpeedOk s) (hn : s.floor.kind.length ≤ 60) : FuelIs (grF s bl) s.floor.kind.length (fxF s bl) := fuelF_ok (grF_ok h0 hs) hn (by decide)

/-- No fuel at chargers, and only there. -/
theorem fx_zero (h0 : FloorOk s.floor) (hs : SpeedOk s) (hn : s.floor.kind.length ≤ 60) {c : Nat} (hc : c < s.floor.kind.length) : (fxF s bl).getD c 0 = 0 ↔ s.floor.kind.getD c 0 = 3 := by
  have hF := fx_ok (bl := bl) h0 hs hn
  have hg := grF_ok (bl := bl) h0 hs
  have hh := grF_home (bl := bl) hc
  constructor
  · intro h
    apply Classical.byContradiction
    intro hk
    have hb := hF.best c hc (by rw [hh]; exact decide_eq_false hk)
    rw [h] at hb
    obtain ⟨x, x1, x2, x3⟩ := (bestL_ok (fxF s bl) (-1) _ (hg.pos hc)).hit (by unfold bst at hb; omega)
    have := (hg.st c hc x x1).2.1
    have := x2.2
    unfold bst at hb
    rw [x3] at hb
    simp only at hb
    omega
  · intro h
    exact hF.home c hc (by rw [hh]; exact decide_eq_true h)

theorem fx_best (h0 : FloorOk s.floor) (hs : SpeedOk s) (hn : s.floor.kind.length ≤ 60) {c : Nat} (hc : c < s.floor.kind.length) (hne : (fxF s bl).getD c 0 ≠ 0) : (fxF s bl).getD c 0 = (bestL (fxF s bl) (-1) (outF s bl c 6)).1 := by
  have hF := fx_ok (bl := bl) h0 hs hn
  have hh := grF_home (bl := bl) hc
  have := hF.best c hc (by rw [hh]; exact decide_eq_false fun h => hne ((fx_zero h0 hs hn hc).2 h))
  rw [← grF_out hc]
  exact this

theorem FewOk.le {n m : Int} (h : FewOk s n 20) (hn : n ≤ m) : FewOk s m 20 :=
  ⟨by have := h.kind; omega, by have := h.out; omega, h.nz, h.na, h.ns, h.nr, fun i hi => by have := h.zc i hi; omega⟩
theorem SiteOk.speed (h : SiteOk s) : SpeedOk s := fun j hj => ⟨(h.zones j hj).speed1, (h.zones j hj).speed2⟩

theorem next_isC (h0 : FloorOk s.floor) {c d : Nat} (hb : nextB s.floor c d = true) : isCellF s (nextF s.floor c d) = true ∧ 0 ≤ nextF s.floor c d ∧ nextF s.floor c d < s.floor.kind.length := by
  obtain ⟨_, hd2, x1, x2⟩ := next_b h0 hb
  exact ⟨by unfold isCellF; simp only [Bool.and_eq_true, decide_eq_true_eq]; exact ⟨x1, x2⟩, x1, x2⟩

set_option maxRecDepth 20000 in
set_option maxHeartbeats 4000000 in
theorem f3 (hbl0 : bl.length ≤ mxl) : Pure Try.prog 3 [.v (.agg (encSite s)), tC (.r (.rd 1 (ints bl)))] (· = tB true) := by
  refine Pure.of_awp hm Try.func3 s3_ok (by simp [s3]) ?_
  simp (maxSteps := 2000000) +contextual (disch := (first | omega | (simp only [List.length_set]; omega))) only [go_sem, s3, ↓ s3_w.down, ↓ twoQ_bool, ↓ guardQ_boolt, ↓ guardQ_boolf, decide_eq_true_eq, decide_eq_false_iff_not, Bool.not_eq_true', Bool.not_eq_false', ne_eq, Decidable.not_not, wrap_i, below_r, below_cons, below_nil, below_vx, AL.T.v.injEq, AL.T.tup.injEq, List.cons.injEq, AL.V.x.injEq, AL.C.r.injEq, AL.R.val.injEq, Value.bool.injEq, Value.int.injEq, not_true_eq_false, not_false_eq_true, ints_len, ints_at, intC_len, intC_at, intC_src, intC_app, upd_upd, intC_set, Int.toNat_natCast, List.length_map, evAppend, srcRows, evMkslice, rowsOf, Nat.le_refl, Int.natCast_nonneg, List.drop_one, List.tail_cons, List.length_set, getD_setI, AL.T.ren, AL.V.ren, AL.C.ren, addN, ↓reduceIte, reduceCtorEq, Nat.reduceEqDiff, Nat.reduceAdd, Nat.reduceSub, Nat.reduceMul, Nat.reduceLT, Nat.reduceLeDiff, Int.reduceToNat]
  refine Pure.callS f5 rfl ?_
  simp (maxSteps := 2000000) +contextual (disch := (first | omega | (simp only [List.length_set]; omega))) only [go_sem, s3, ↓ s3_w.down, ↓ twoQ_bool, ↓ guardQ_boolt, ↓ guardQ_boolf, decide_eq_true_eq, decide_eq_false_iff_not, Bool.not_eq_true', Bool.not_eq_false', ne_eq, Decidable.not_not, wrap_i, below_r, below_cons, below_nil, below_vx, AL.T.v.injEq, AL.T.tup.injEq, List.cons.injEq, AL.V.x.injEq, AL.C.r.injEq, AL.R.val.injEq, Value.bool.injEq, Value.int.injEq, not_true_eq_false, not_false_eq_true, ints_len, ints_at, intC_len, intC_at, intC_src, intC_app, upd_upd, intC_set, Int.toNat_natCast, List.length_map, evAppend, srcRows, evMkslice, rowsOf, Nat.le_refl, Int.natCast_nonneg, List.drop_one, List.tail_cons, List.length_set, getD_setI, AL.T.ren, AL.V.ren, AL.C.ren, addN, enc_len, enc_take, ↓reduceIte, reduceCtorEq, Nat.reduceEqDiff, Nat.reduceAdd, Nat.reduceSub, Nat.reduceMul, Nat.reduceLT, Nat.reduceLeDiff, Int.reduceToNat]
  refine Pure.call (f6 (s := s) 30 (by omega)) (liftA_refl rfl) ?_
  rintro _ ⟨b, rfl, hb⟩ _
  simp (maxSteps := 2000000) +contextual (disch := (first | omega | (simp only [List.length_set]; omega))) only [go_sem, s3, ↓ s3_w.down, ↓ twoQ_bool, ↓ guardQ_boolt, ↓ guardQ_boolf, decide_eq_true_eq, decide_eq_false_iff_not, Bool.not_eq_true', Bool.not_eq_false', ne_eq, Decidable.not_not, wrap_i, below_r, below_cons, below_nil, below_vx, AL.T.v.injEq, AL.T.tup.injEq, List.cons.injEq, AL.V.x.injEq, AL.C.r.injEq, AL.R.val.injEq, Value.bool.injEq, Value.int.injEq, not_true_eq_false, not_false_eq_true, ints_len, ints_at, intC_len, intC_at, intC_src, intC_app, upd_upd, intC_set, Int.toNat_natCast, List.length_map, evAppend, srcRows, evMkslice, rowsOf, Nat.le_refl, Int.natCast_nonneg, List.drop_one, List.tail_cons, List.length_set, getD_setI, AL.T.ren, AL.V.ren, AL.C.ren, addN, enc_len, enc_take, ↓reduceIte, reduceCtorEq, Nat.reduceEqDiff, Nat.reduceAdd, Nat.reduceSub, Nat.reduceMul, Nat.reduceLT, Nat.reduceLeDiff, Int.reduceToNat]
  (repeat' (with_reducible first | refine And.intro ?_ ?_ | intro _)) <;> try (first | omega | rfl)
  rename_i hb1 hl20
  have hbl : bl.length ≤ 1000000 := by omega
  obtain ⟨hfew, hok⟩ := hb hb1
  have h0 := hok.floor
  have hs := hok.speed
  have hz := hok.zok (hfew.le (by omega))
  have hn : s.floor.kind.length ≤ 30 := by have := hfew.kind; omega
  have hF := fx_ok (bl := bl) h0 hs (by omega)
  have hFl := hF.len
  refine RetI.call (f7o h0 hz hs (by omega) hbl) ⟨castAgg rfl, castC_ints, trivial⟩ fun v => ?_
  simp (maxSteps := 2000000) +contextual (disch := (first | omega | (simp only [List.length_set]; omega))) only [go_sem, s3, ↓ s3_w.down, ↓ twoQ_bool, ↓ guardQ_boolt, ↓ guardQ_boolf, decide_eq_true_eq, decide_eq_false_iff_not, Bool.not_eq_true', Bool.not_eq_false', ne_eq, Decidable.not_not, wrap_i, below_r, below_cons, below_nil, below_vx, AL.T.v.injEq, AL.T.tup.injEq, List.cons.injEq, AL.V.x.injEq, AL.C.r.injEq, AL.R.val.injEq, Value.bool.injEq, Value.int.injEq, not_true_eq_false, not_false_eq_true, ints_len, ints_at, intC_len, intC_at, intC_src, intC_app, upd_upd, intC_set, Int.toNat_natCast, List.length_map, evAppend, srcRows, evMkslice, rowsOf, Nat.le_refl, Int.natCast_nonneg, List.drop_one, List.tail_cons, List.length_set, getD_setI, AL.T.ren, AL.V.ren, AL.C.ren, addN, encSite, encFloor, hFl, ↓reduceIte, reduceCtorEq, Nat.reduceEqDiff, Nat.reduceAdd, Nat.reduceSub, Nat.reduceMul, Nat.reduceLT, Nat.reduceLeDiff, Int.reduceToNat]
  refine awp_loop (fun c : Nat => ⟨upd (upd (upd (upd (upd emp 1 (tC (.r (.rd 1 (ints bl))))) 2 (tC (.ptr 0 0 0 0))) 5 (tB true)) 6 (tC (.own 1 v 0 s.floor.kind.length))) 7 (tI c), upd (upd emp 0 (.row 0 9 [encSite s])) 1 (.row v 1 (intC (fxF s bl))), 2⟩)
    (fun c => s.floor.kind.length - c) (fun c => c ≤ s.floor.kind.length) 0 (Nat.zero_le _) ?_ ?_
  · simp only [encSite, encFloor]
    exact Weak.cutTm (by repeat (first | refine TmCut.cons rfl ?_ | refine TmCut.cons (by simp [upd, *]; done) ?_ | exact TmCut.nil))
  intro c hc
  have hFc : c < s.floor.kind.length → -1 ≤ (fxF s bl).getD c 0 ∧ (fxF s bl).getD c 0 ≤ 24000 := fun h => hF.lo c h
  have hz2 : c < s.floor.kind.length → ((fxF s bl).getD c 0 = 0) = (s.floor.kind.getD c 0 = 3) := fun h => propext (fx_zero h0 hs (by omega) h)
  simp (maxSteps := 2000000) +contextual (disch := (first | omega | (simp only [List.length_set]; omega))) only [go_sem, s3, ↓ s3_w.down, ↓ twoQ_bool, ↓ guardQ_boolt, ↓ guardQ_boolf, decide_eq_true_eq, decide_eq_false_iff_not, Bool.not_eq_true', Bool.not_eq_false', ne_eq, Decidable.not_not, wrap_i, below_r, below_cons, below_nil, below_vx, AL.T.v.injEq, AL.T.tup.injEq, List.cons.injEq, AL.V.x.injEq, AL.C.r.injEq, AL.R.val.injEq, Value.bool.injEq, Value.int.injEq, not_true_eq_false, not_false_eq_true, ints_len, ints_at, intC_len, intC_at, intC_src, intC_app, upd_upd, intC_set, Int.toNat_natCast, List.length_map, evAppend, srcRows, evMkslice, rowsOf, Nat.le_refl, Int.natCast_nonneg, List.drop_one, List.tail_cons, List.length_set, getD_setI, AL.T.ren, AL.V.ren, AL.C.ren, addN, encSite, encFloor, hFl, hz2, bne_self_eq_false, ↓reduceIte, reduceCtorEq, Nat.reduceEqDiff, Nat.reduceAdd, Nat.reduceSub, Nat.reduceMul, Nat.reduceLT, Nat.reduceLeDiff, Int.reduceToNat]
  (repeat' (with_reducible first | refine And.intro ?_ ?_ | intro _)) <;> try (first | omega | rfl)
  · rename_i hc1 h1 h2
    have hc' : c < s.floor.kind.length := by omega
    refine awp_loop (fun d : Nat => ⟨upd (upd (upd (upd (upd (upd (upd emp 1 (tC (.r (.rd 1 (ints bl))))) 2 (tC (.ptr 0 0 0 0))) 5 (tB true)) 6 (tC (.own 1 v 0 s.floor.kind.length))) 7 (tI c)) 8 (tI (bestL (fxF s bl) (-1) (outF s bl c d)).1)) 9 (tI d), upd (upd emp 0 (.row 0 9 [encSite s])) 1 (.row v 1 (intC (fxF s bl))), 2⟩)
      (fun d => 6 - d) (fun d => d ≤ 6) 0 (Nat.zero_le _) ?_ ?_
    · simp only [encSite, encFloor]
      exact Weak.cutTm (by repeat (first | refine TmCut.cons rfl ?_ | refine TmCut.cons (by simp [upd, *]; done) ?_ | exact TmCut.nil))
    intro d hd
    simp (maxSteps := 2000000) +contextual (disch := (first | omega | (simp only [List.length_set]; omega))) only [go_sem, s3, ↓ s3_w.down, ↓ twoQ_bool, ↓ guardQ_boolt, ↓ guardQ_boolf, decide_eq_true_eq, decide_eq_false_iff_not, Bool.not_eq_true', Bool.not_eq_false', ne_eq, Decidable.not_not, wrap_i, below_r, below_cons, below_nil, below_vx, AL.T.v.injEq, AL.T.tup.injEq, List.cons.injEq, AL.V.x.injEq, AL.C.r.injEq, AL.R.val.injEq, Value.bool.injEq, Value.int.injEq, not_true_eq_false, not_false_eq_true, ints_len, ints_at, intC_len, intC_at, intC_src, intC_app, upd_upd, intC_set, Int.toNat_natCast, List.length_map, evAppend, srcRows, evMkslice, rowsOf, Nat.le_refl, Int.natCast_nonneg, List.drop_one, List.tail_cons, List.length_set, getD_setI, AL.T.ren, AL.V.ren, AL.C.ren, addN, encSite, encFloor, hFl, ↓reduceIte, reduceCtorEq, Nat.reduceEqDiff, Nat.reduceAdd, Nat.reduceSub, Nat.reduceMul, Nat.reduceLT, Nat.reduceLeDiff, Int.reduceToNat]
    have step0 : edgeB s bl c d = false → outF s bl c (d + 1) = outF s bl c d := fun e => by rw [show outF s bl c (d + 1) = outF s bl c d ++ if edgeB s bl c d then [(nextF s.floor c d, priceF s d (nextF s.floor c d))] else [] from rfl, e]; simp
    have step1 : edgeB s bl c d = true → bestL (fxF s bl) (-1) (outF s bl c (d + 1)) = bestStep (fxF s bl) (-1) (bestL (fxF s bl) (-1) (outF s bl c d)) (nextF s.floor c d, priceF s d (nextF s.floor c d)) := fun e => by rw [show outF s bl c (d + 1) = outF s bl c d ++ if edgeB s bl c d then [(nextF s.floor c d, priceF s d (nextF s.floor c d))] else [] from rfl, e, if_pos rfl, bestL_snoc]
    have hedge : edgeB s bl c d = (nextB s.floor c d && !decide (nextF s.floor c d ∈ bl)) := rfl
    (repeat' (with_reducible first | refine And.intro ?_ ?_ | intro _)) <;> try (first | omega | rfl)
    · rename_i hd6
      have hd' : d < 6 := by omega
      refine Pure.callS (f8 h0 c d) rfl ?_
      simp (maxSteps := 2000000) +contextual (disch := (first | omega | (simp only [List.length_set]; omega))) only [go_sem, s3, ↓ s3_w.down, ↓ twoQ_bool, ↓ guardQ_boolt, ↓ guardQ_boolf, decide_eq_true_eq, decide_eq_false_iff_not, Bool.not_eq_true', Bool.not_eq_false', ne_eq, Decidable.not_not, wrap_i, below_r, below_cons, below_nil, below_vx, AL.T.v.injEq, AL.T.tup.injEq, List.cons.injEq, AL.V.x.injEq, AL.C.r.injEq, AL.R.val.injEq, Value.bool.injEq, Value.int.injEq, not_true_eq_false, not_false_eq_true, ints_len, ints_at, intC_len, intC_at, intC_src, intC_app, upd_upd, intC_set, Int.toNat_natCast, List.length_map, evAppend, srcRows, evMkslice, rowsOf, Nat.le_refl, Int.natCast_nonneg, List.drop_one, List.tail_cons, List.length_set, getD_setI, AL.T.ren, AL.V.ren, AL.C.ren, addN, ↓reduceIte, reduceCtorEq, Nat.reduceEqDiff, Nat.reduceAdd, Nat.reduceSub, Nat.reduceMul, Nat.reduceLT, Nat.reduceLeDiff, Int.reduceToNat]
      (repeat' (with_reducible first | refine And.intro ?_ ?_ | intro _)) <;> try (first | omega | rfl)
      · rename_i hnb
        refine Pure.callS (f9 bl (nextF s.floor c d) (by unfold mxl; omega)) rfl ?_
        simp (maxSteps := 2000000) +contextual (disch := (first | omega | (simp only [List.length_set]; omega))) only [go_sem, s3, ↓ s3_w.down, ↓ twoQ_bool, ↓ guardQ_boolt, ↓ guardQ_boolf, decide_eq_true_eq, decide_eq_false_iff_not, Bool.not_eq_true', Bool.not_eq_false', ne_eq, Decidable.not_not, wrap_i, below_r, below_cons, below_nil, below_vx, AL.T.v.injEq, AL.T.tup.injEq, List.cons.injEq, AL.V.x.injEq, AL.C.r.injEq, AL.R.val.injEq, Value.bool.injEq, Value.int.injEq, not_true_eq_false, not_false_eq_true, ints_len, ints_at, intC_len, intC_at, intC_src, intC_app, upd_upd, intC_set, Int.toNat_natCast, List.length_map, evAppend, srcRows, evMkslice, rowsOf, Nat.le_refl, Int.natCast_nonneg, List.drop_one, List.tail_cons, List.length_set, getD_setI, AL.T.ren, AL.V.ren, AL.C.ren, addN, ↓reduceIte, reduceCtorEq, Nat.reduceEqDiff, Nat.reduceAdd, Nat.reduceSub, Nat.reduceMul, Nat.reduceLT, Nat.reduceLeDiff, Int.reduceToNat]
        (repeat' (with_reducible first | refine And.intro ?_ ?_ | intro _)) <;> try (first | omega | rfl)
        · rename_i hmem
          refine ⟨d + 1, by omega, by omega, ?_⟩
          rw [step0 (by rw [hedge]; simp [hmem])]
          exact Weak.cutTm (by repeat (first | refine TmCut.cons rfl ?_ | refine TmCut.cons (by simp [upd, *]; done) ?_ | exact TmCut.nil))
        · rename_i hmem
          have hed : edgeB s bl c d = true := by rw [hedge]; simp [hmem, hnb]
          obtain ⟨hic, x1, x2⟩ := next_isC h0 hnb
          have hpr := price_b hs (d := (d : Int)) ⟨by omega, by omega⟩ hic
          have hst := step1 hed
          refine Pure.callS (f10 hz hs d (nextF s.floor c d)) rfl ?_
          generalize nextF s.floor c d = x at *
          generalize priceF s d x = p at *
          have hxF := hF.lo x.toNat (by omega)
          have hxl : x.toNat < s.floor.kind.length := by omega
          have no : ¬ (0 ≤ (fxF s bl).getD x.toNat 0 ∧ ((bestL (fxF s bl) (-1) (outF s bl c d)).1 < 0 ∨ (fxF s bl).getD x.toNat 0 + p < (bestL (fxF s bl) (-1) (outF s bl c d)).1)) → (bestL (fxF s bl) (-1) (outF s bl c (d + 1))).1 = (bestL (fxF s bl) (-1) (outF s bl c d)).1 := fun h => by rw [hst]; unfold bestStep; rw [if_neg (fun h2 => h h2.2)]
          have yes : (0 ≤ (fxF s bl).getD x.toNat 0 ∧ ((bestL (fxF s bl) (-1) (outF s bl c d)).1 < 0 ∨ (fxF s bl).getD x.toNat 0 + p < (bestL (fxF s bl) (-1) (outF s bl c d)).1)) → (bestL (fxF s bl) (-1) (outF s bl c (d + 1))).1 = (fxF s bl).getD x.toNat 0 + p := fun h => by rw [hst]; unfold bestStep; rw [if_pos ⟨by omega, h⟩]
          generalize (bestL (fxF s bl) (-1) (outF s bl c d)).1 = least at *
          have hwn : IntKind.i64.wrap ((fxF s bl).getD x.toNat 0 + p) = (fxF s bl).getD x.toNat 0 + p := wrap_i (by omega) (by omega)
          have hwd : IntKind.i64.wrap ((d : Int) + 1) = ((d + 1 : Nat) : Int) := wrap_i (by omega) (by omega)
          have hxF2 : x.toNat < (fxF s bl).length := by omega
          simp only [go_sem, s3_16, s3_15, ↓reduceIte, reduceCtorEq, Nat.reduceEqDiff, Nat.reduceAdd, Nat.reduceSub, Nat.reduceMul, Nat.reduceLT, Nat.reduceLeDiff, Int.reduceToNat]
          refine twoQ_at (fun g => absurd (of_decide_eq_true g) (by omega)) (fun _ => ?_)
          simp only [go_sem, s3_13, intC_at hxF2, intC_len, hFl, Nat.zero_add, Nat.le_refl, ↓reduceIte, reduceCtorEq, Nat.reduceEqDiff, Nat.reduceAdd, Nat.reduceSub, Nat.reduceMul, Nat.reduceLT, Nat.reduceLeDiff, Int.reduceToNat]
          refine ⟨⟨x1, x2⟩, hxl, guardQ_at (fun g1 => ?_) (fun g1 => ?_)⟩
          · have g1 : 0 ≤ (fxF s bl).getD x.toNat 0 := of_decide_eq_true g1
            simp only [go_sem, s3_12, intC_at hxF2, intC_len, hFl, Nat.zero_add, Nat.le_refl, ↓reduceIte, reduceCtorEq, Nat.reduceEqDiff, Nat.reduceAdd, Nat.reduceSub, Nat.reduceMul, Nat.reduceLT, Nat.reduceLeDiff, Int.reduceToNat]
            refine guardQ_at (fun g2 => ?_) (fun g2 => ?_)
            · have g2 : ¬ least < 0 := of_decide_eq_false g2
              simp only [go_sem, s3_11, s3_10, intC_at hxF2, intC_len, hFl, Nat.zero_add, Nat.le_refl, hwn, ↓reduceIte, reduceCtorEq, Nat.reduceEqDiff, Nat.reduceAdd, Nat.reduceSub, Nat.reduceMul, Nat.reduceLT, Nat.reduceLeDiff, Int.reduceToNat]
              refine ⟨⟨x1, x2⟩, hxl, ?_⟩
              simp only [go_sem, s3_9, ↓reduceIte, reduceCtorEq, Nat.reduceEqDiff, Nat.reduceAdd, Nat.reduceSub, Nat.reduceMul, Nat.reduceLT, Nat.reduceLeDiff, Int.reduceToNat]
              refine twoQ_at (fun g3 => ?_) (fun g3 => ?_)
              · have g3 : (fxF s bl).getD x.toNat 0 + p < least := of_decide_eq_true g3
                simp only [go_sem, s3_8, s3_7, intC_at hxF2, intC_len, hFl, Nat.zero_add, Nat.le_refl, hwn, hwd, ↓reduceIte, reduceCtorEq, Nat.reduceEqDiff, Nat.reduceAdd, Nat.reduceSub, Nat.reduceMul, Nat.reduceLT, Nat.reduceLeDiff, Int.reduceToNat]
                refine ⟨⟨x1, x2⟩, hxl, d + 1, by omega, by omega, ?_⟩
                rw [yes ⟨g1, .inr g3⟩]
                exact Weak.cutTm (by repeat (first | refine TmCut.cons rfl ?_ | refine TmCut.cons (by simp [upd, *]; done) ?_ | exact TmCut.nil))
              · have g3 : ¬ (fxF s bl).getD x.toNat 0 + p < least := of_decide_eq_false g3
                simp only [go_sem, s3_7, hwd, ↓reduceIte, reduceCtorEq, Nat.reduceEqDiff, Nat.reduceAdd, Nat.reduceSub, Nat.reduceMul, Nat.reduceLT, Nat.reduceLeDiff, Int.reduceToNat]
                refine ⟨d + 1, by omega, by omega, ?_⟩
                rw [no (by omega)]
                exact Weak.cutTm (by repeat (first | refine TmCut.cons rfl ?_ | refine TmCut.cons (by simp [upd, *]; done) ?_ | exact TmCut.nil))
            · have g2 : least < 0 := of_decide_eq_true g2
              simp only [go_sem, s3_11, s3_10, s3_9, s3_8, s3_7, intC_at hxF2, intC_len, hFl, Nat.zero_add, Nat.le_refl, hwn, hwd, ↓reduceIte, reduceCtorEq, Nat.reduceEqDiff, Nat.reduceAdd, Nat.reduceSub, Nat.reduceMul, Nat.reduceLT, Nat.reduceLeDiff, Int.reduceToNat]
              refine ⟨⟨x1, x2⟩, hxl, d + 1, by omega, by omega, ?_⟩
              rw [yes ⟨g1, .inl g2⟩]
              exact Weak.cutTm (by repeat (first | refine TmCut.cons rfl ?_ | refine TmCut.cons (by simp [upd, *]; done) ?_ | exact TmCut.nil))
          · have g1 : ¬ 0 ≤ (fxF s bl).getD x.toNat 0 := of_decide_eq_false g1
            simp only [go_sem, s3_12, s3_11, s3_10, s3_9, s3_7, hwd, ↓reduceIte, reduceCtorEq, Nat.reduceEqDiff, Nat.reduceAdd, Nat.reduceSub, Nat.reduceMul, Nat.reduceLT, Nat.reduceLeDiff, Int.reduceToNat]
            refine ⟨d + 1, by omega, by omega, ?_⟩
            rw [no (by omega)]
            exact Weak.cutTm (by repeat (first | refine TmCut.cons rfl ?_ | refine TmCut.cons (by simp [upd, *]; done) ?_ | exact TmCut.nil))
      · rename_i hnb
        refine ⟨d + 1, by omega, by omega, ?_⟩
        rw [step0 (by rw [hedge]; simp [hnb])]
        exact Weak.cutTm (by repeat (first | refine TmCut.cons rfl ?_ | refine TmCut.cons (by simp [upd, *]; done) ?_ | exact TmCut.nil))
    · rename_i hne hd6 hne2
      have := fx_best (bl := bl) h0 hs (by omega) hc' (by omega)
      rw [show d = 6 by omega] at *
      omega
    · rename_i hd6 he
      refine ⟨c + 1, by omega, by omega, ?_⟩
      exact Weak.cutTm (by repeat (first | refine TmCut.cons rfl ?_ | refine TmCut.cons (by simp [upd, *]; done) ?_ | exact TmCut.nil))
    · rename_i hd6 he
      refine ⟨c + 1, by omega, by omega, ?_⟩
      exact Weak.cutTm (by repeat (first | refine TmCut.cons rfl ?_ | refine TmCut.cons (by simp [upd, *]; done) ?_ | exact TmCut.nil))
end Go.Proofs.Yticflcpmlbaafaa.AL

/- How a site and a list of numbers are read. -/
set_option linter.unusedSimpArgs false
set_option linter.unusedVariables false
namespace Go.Proofs.Yticflcpmlbaafaa.AL
open Go

def spanSh : List Sh := [.num .i64, .num .i64]
def zoneSh : List Sh := [.str, .sl 1 8 [.num .i64], .num .i64, .num .i64, .sl 2 16 spanSh]
def siteSh : List Sh := [.num .i64, .num .i64, .num .i64, .sl 1 8 [.num .i64], .sl 1 8 [.num .i64], .sl 5 80 zoneSh, .sl 2 32 [.str, .str], .sl 2 24 [.num .i64, .str], .sl 2 16 spanSh]

/-- No slice takes more than an address reaches. -/
structure SiteSz (s : SiteD) : Prop where
  kind : s.floor.kind.length * 8 ≤ reachBytes
  out : s.floor.out.length * 8 ≤ reachBytes
  zones : s.zones.length * 80 ≤ reachBytes
  aparts : s.aparts.length * 32 ≤ reachBytes
  shelves : s.shelves.length * 24 ≤ reachBytes
  robots : s.robots.length * 16 ≤ reachBytes

theorem isInt {x : List R} (h : shsOk [.num .i64] x) : ∃ n : Int, x = (fun n : Int => [R.val (.int .i64 n)]) n := by
  obtain ⟨n, _, rfl, _, h1⟩ := shs_num h
  cases shs_nil h1
  exact ⟨n, rfl⟩
theorem isSpan {x : List R} (h : shsOk spanSh x) : ∃ n : Int × Int, x = (fun n : Int × Int => [R.val (.int .i64 n.1), R.val (.int .i64 n.2)]) n := by
  obtain ⟨n, _, rfl, _, h1⟩ := shs_num h
  obtain ⟨m, _, rfl, _, h2⟩ := shs_num h1
  cases shs_nil h2
  exact ⟨(n, m), rfl⟩
theorem isZone {x : List R} (h : shsOk zoneSh x) : ∃ z, x = encZone z := by
  obtain ⟨n, _, rfl, _, h1⟩ := shs_str h
  obtain ⟨c, _, rfl, w1, h2⟩ := shs_sl (fun _ => isInt) h1
  obtain ⟨sp, _, rfl, _, h3⟩ := shs_num h2
  obtain ⟨k, _, rfl, _, h4⟩ := shs_num h3
  obtain ⟨sh, _, rfl, w2, h5⟩ := shs_sl (fun _ => isSpan) h4
  cases shs_nil h5
  exact ⟨⟨n, c, sp, k, sh⟩, rfl⟩
theorem isApart {x : List R} (h : shsOk [.str, .str] x) : ∃ z, x = encApart z := by
  obtain ⟨n, _, rfl, _, h1⟩ := shs_str h
  obtain ⟨m, _, rfl, _, h2⟩ := shs_str h1
  cases shs_nil h2
  exact ⟨⟨n, m⟩, rfl⟩
theorem isShelf {x : List R} (h : shsOk [.num .i64, .str] x) : ∃ z, x = encShelf z := by
  obtain ⟨n, _, rfl, _, h1⟩ := shs_num h
  obtain ⟨m, _, rfl, _, h2⟩ := shs_str h1
  cases shs_nil h2
  exact ⟨⟨n, m⟩, rfl⟩
theorem isStart {x : List R} (h : shsOk spanSh x) : ∃ z, x = encStart z := by
  obtain ⟨n, _, rfl, _, h1⟩ := shs_num h
  obtain ⟨m, _, rfl, _, h2⟩ := shs_num h1
  cases shs_nil h2
  exact ⟨⟨n, m⟩, rfl⟩
theorem isSite {x : List R} (h : shsOk siteSh x) : ∃ s : SiteD, x.map C.r = encSite s ∧ SiteSz s := by
  obtain ⟨w, _, rfl, _, h1⟩ := shs_num h
  obtain ⟨g, _, rfl, _, h2⟩ := shs_num h1
  obtain ⟨d, _, rfl, _, h3⟩ := shs_num h2
  obtain ⟨k, _, rfl, w1, h4⟩ := shs_sl (fun _ => isInt) h3
  obtain ⟨o, _, rfl, w2, h5⟩ := shs_sl (fun _ => isInt) h4
  obtain ⟨z, _, rfl, w3, h6⟩ := shs_sl (fun _ => isZone) h5
  obtain ⟨a, _, rfl, w4, h7⟩ := shs_sl (fun _ => isApart) h6
  obtain ⟨s, _, rfl, w5, h8⟩ := shs_sl (fun _ => isShelf) h7
  obtain ⟨r, _, rfl, w6, h9⟩ := shs_sl (fun _ => isStart) h8
  cases shs_nil h9
  exact ⟨⟨⟨w, g, d, k, o⟩, z, a, s, r⟩, rfl, ⟨w1, w2, w3, w4, w5, w6⟩⟩

theorem siteSh_ok : shOf Try.prog 8 30 = some siteSh := by kernel_rfl
theorem siteSt : isStructT Try.prog 30 = true := by kernel_rfl
theorem intsSh_ok : shOf Try.prog 8 22 = some [.sl 1 8 [.num .i64]] := by kernel_rfl

section
variable {H : Type} {enc : TypeId × Value → H} {W : World} {b0 : Nat} {v : Value} {d : DataW H} {ps : List MemPlace}

set_option maxRecDepth 100000 in
theorem site_read (hv : Value.okWide Try.prog W .any b0 30 v) (h : DataW.Trod enc Try.prog W 0 (fun _ => true) true 30 v d ps) (hw : ∀ n ∈ d.weights Try.prog 30, n ≤ reachBytes) :
    ∃ s : SiteD, RepT (fun b => b < W.heap.size) 0 (fun _ => default) W (.v (.agg (encSite s))) v ∧ SiteSz s := read_agg siteSh_ok siteSt hv h hw fun _ => isSite

set_option maxRecDepth 100000 in
theorem ints_read (hv : Value.okWide Try.prog W .any b0 22 v) (h : DataW.Trod enc Try.prog W 0 (fun _ => true) true 22 v d ps) (hw : ∀ n ∈ d.weights Try.prog 22, n ≤ reachBytes) :
    ∃ l : List Int, RepT (fun b => b < W.heap.size) 0 (fun _ => default) W (tC (.r (.rd 1 (ints l)))) v ∧ l.length ≤ mxl := by
  obtain ⟨a, len, cap, rfl⟩ := WideShapes.okWide_slice Try.underlying22 hv
  obtain ⟨m, hm⟩ := h
  obtain ⟨rs, h1, h2⟩ := shOf_read _ _ _ m _ _ intsSh_ok hm hw
  obtain ⟨l, rs', rfl, hl, h3⟩ := shs_sl (fun _ => isInt) h2
  cases shs_nil h3
  exact ⟨l, repV_one (N := 0) (μ := fun _ => default) h1, by unfold reachBytes at hl; unfold mxl; omega⟩
end

end Go.Proofs.Yticflcpmlbaafaa.AL

/- THE LAW ReachFuel HOLDS: whatever site and list of blocked cells it is called with, it returns true, and what was there before the call is as it was. No condition. -/
namespace Go.Proofs.Yticflcpmlbaafaa.reachFuel
open Go.ChangeShapes Go.WideShapes Go.ChangeAt Go.RowKit Go.Proofs.Yticflcpmlbaafaa.AL
set_option linter.unusedVariables false

theorem own : ownKnob Try.prog.godebug = none := by kernel_rfl
theorem laidOut : laidOutB Try.prog = true := by kernel_rfl

set_option maxRecDepth 100000 in
theorem lifted (os : Os) (started : os.Started) (H : Type) (enc : TypeId × Value → H) :
    ReturnsInHanded {} Try.checked os 3 .any (Rows.reachFuelSpec.pre6 enc Try.prog Try.f3 Rows.reachFuelRow.domain false) (Rows.reachFuelSpec.post enc Try.prog Try.f3 false true false false) := by
  refine returnsInHanded_of_change_sized (C := Try.checked) own started (by kernel_rfl) Try.func3
    (ChangeSpec.witness6 (enc := enc) (C := Try.checked) false ⟨#[], #[.agg #[.int .i64 0, .int .i64 0, .int .i64 0, nilS, nilS, nilS, nilS, nilS, nilS], nilS], []⟩ 8 (by kernel_rfl) (by kernel_rfl) (by kernel_rfl) (by kernel_rfl)) ?_
  intro W base args ds gs before hval0 hW hcnd hsz0 _
  have hval : ∀ (j : Nat) t v, Try.f3.params[j]? = some t → args[j]? = some v → Value.okWide Try.prog W .any base t v := hval0
  have hsz : (DataW.weightsEach Try.prog (Try.f3.params.toList ++ Rows.reachFuelSpec.plain.varTypes Try.prog) (ds ++ gs)).all (· ≤ reachBytes) = true := hsz0
  have hW' := hW
  obtain ⟨p, q, hA0, hV, rfl, hfz, hnd⟩ := hW
  have hA : DataW.TrodAll enc Try.prog W 0 (fun _ => true) true Try.f3.params.toList args.toList ds p := hA0
  rw [Try.params3] at hA hval hsz
  obtain ⟨v0, vs0, d0, ds0, p0, q0, hargs, rfl, rfl, h0, r0⟩ := trodAll_cons hA
  obtain ⟨v1, vs1, d1, ds1, p1, q1, rfl, rfl, rfl, h1, r1⟩ := trodAll_cons r0
  obtain ⟨rfl, rfl, rfl⟩ := trodAll_nil r1
  obtain rfl : args = #[v0, v1] := by cases args; simp_all
  obtain ⟨rfl, rfl⟩ := trodVars_none hV
  obtain ⟨x0, e0, w0⟩ := site_read (hval 0 30 v0 rfl rfl) h0 (each_weights hsz (j := 0) rfl rfl)
  have lt0 : ∀ x ∈ p0, x.block < W.heap.size := by obtain ⟨m, hm⟩ := h0; exact DataW.trod_lt m _ _ _ hm
  obtain ⟨x1, e1, w1⟩ := ints_read (hval 1 22 v1 rfl rfl) h1 (each_weights hsz (j := 1) rfl rfl)
  have lt1 : ∀ x ∈ p1, x.block < W.heap.size := by obtain ⟨m, hm⟩ := h1; exact DataW.trod_lt m _ _ _ hm
  clear hA0 hval0 hsz0
  refine (row_of (f3 w1) (argsRep_cons e0 (argsRep_cons e1 argsRep_nil))).mono fun e W' ⟨he, bel⟩ => ?_
  subst he
  exact ⟨_, rfl, _, _, _, [], _, [], hW', trodAll_mk1 (shut_bool Try.underlying4 _), (trodAll_cons_mk (Below.trod laidOut (by kernel_rfl) (of_decide_eq_true (by kernel_rfl)) h0 bel lt0) (trodAll_cons_mk (Below.trod laidOut (by kernel_rfl) (of_decide_eq_true (by kernel_rfl)) h1 bel lt1) trodAll_mk0)), rfl, bel.frame _, fun h => by cases h⟩

theorem over : Rows.reachFuelRow.holds Try.pinned (OpenSpec.ofChange Rows.reachFuelSpec) :=
  OpenClaim.holds_of_wide 3 Try.f3 rfl rfl rfl rfl rfl rfl rfl ⟨rfl, rfl, rfl, rfl, rfl⟩ rfl rfl rfl rfl rfl (by kernel_rfl) Try.func3 (by kernel_rfl)
    (of_decide_eq_true (by kernel_rfl)) (by unfold Func.isWrapper; first | (rw [if_pos (by decide +kernel)]; kernel_rfl) | (rw [if_neg (by decide +kernel)]; exact ⟨rfl, rfl⟩))
    (fun os started H enc _ => lifted os started H enc)
end Go.Proofs.Yticflcpmlbaafaa.reachFuel

namespace Go.Proofs.Yticflcpmlbaafaa
theorem reachFuel_holds : Rows.ReachFuelSaid := reachFuel.over
end Go.Proofs.Yticflcpmlbaafaa
#print axioms Go.Proofs.Yticflcpmlbaafaa.reachFuel_holds
