/- THE LAW ReachNeeds HOLDS: whatever site, list of blocked cells, cell and delay it is called with, it returns true, and what was there before the call is as it was. No condition. -/
import Derived.Test.YticflcpmlbaafaaMb
import Derived.Test.YticflcpmlbaafaaAc
import Derived.Test.YticflcpmlbaafaaMc
import Derived.Test.YticflcpmlbaafaaRows
import Derived.WalkKit
import Derived.ProofKit
import Derived.OpenShut
import Derived.ShutString
import Derived.ChangeOld
import Derived.Below
import Derived.SizedLaws
import Derived.Carry

/- How a site and a list of numbers are read. -/
set_option linter.unusedSimpArgs false
set_option linter.unusedVariables false
namespace Go.Proofs.Yticflcpmlbaafaa.AL
open Go

def spanSh : List Sh := [.num .i64, .num .i64]
def zoneSh : List Sh := [.str, .sl 1 8 [.num .i64], .num .i64, .num .i64, .sl 2 16 spanSh]
def siteSh : List Sh := [.num .i64, .num .i64, .num .i64, .sl 1 8 [.num .i64], .sl 1 8 [.num .i64], .sl 5 80 zoneSh, .sl 2 32 [.str, .str], .sl 2 24 [.num .i64, .str], .sl 2 16 spanSh]

/-- No slice takes more than an address reaches. -/
structure SiteSz (s : SiteD) : Prop where
  kind : s.floor.kind.length * 8 ≤ reachBytes
  out : s.floor.out.length * 8 ≤ reachBytes
  zones : s.zones.length * 80 ≤ reachBytes
  aparts : s.aparts.length * 32 ≤ reachBytes
  shelves : s.shelves.length * 24 ≤ reachBytes
  robots : s.robots.length * 16 ≤ reachBytes

theorem isInt {x : List R} (h : shsOk [.num .i64] x) : ∃ n : Int, x = (fun n : Int => [R.val (.int .i64 n)]) n := by
  obtain ⟨n, _, rfl, _, h1⟩ := shs_num h
  cases shs_nil h1
  exact ⟨n, rfl⟩
theorem isSpan {x : List R} (h : shsOk spanSh x) : ∃ n : Int × Int, x = (fun n : Int × Int => [R.val (.int .i64 n.1), R.val (.int .i64 n.2)]) n := by
  obtain ⟨n, _, rfl, _, h1⟩ := shs_num h
  obtain ⟨m, _, rfl, _, h2⟩ := shs_num h1
  cases shs_nil h2
  exact ⟨(n, m), rfl⟩
theorem isZone {x : List R} (h : shsOk zoneSh x) : ∃ z, x = encZone z := by
  obtain ⟨n, _, rfl, _, h1⟩ := shs_str h
  obtain ⟨c, _, rfl, w1, h2⟩ := shs_sl (fun _ => isInt) h1
  obtain ⟨sp, _, rfl, _, h3⟩ := shs_num h2
  obtain ⟨k, _, rfl, _, h4⟩ := shs_num h3
  obtain ⟨sh, _, rfl, w2, h5⟩ := shs_sl (fun _ => isSpan) h4
  cases shs_nil h5
  exact ⟨⟨n, c, sp, k, sh⟩, rfl⟩
theorem isApart {x : List R} (h : shsOk [.str, .str] x) : ∃ z, x = encApart z := by
  obtain ⟨n, _, rfl, _, h1⟩ := shs_str h
  obtain ⟨m, _, rfl, _, h2⟩ := shs_str h1
  cases shs_nil h2
  exact ⟨⟨n, m⟩, rfl⟩
theorem isShelf {x : List R} (h : shsOk [.num .i64, .str] x) : ∃ z, x = encShelf z := by
  obtain ⟨n, _, rfl, _, h1⟩ := shs_num h
  obtain ⟨m, _, rfl, _, h2⟩ := shs_str h1
  cases shs_nil h2
  exact ⟨⟨n, m⟩, rfl⟩
theorem isStart {x : List R} (h : shsOk spanSh x) : ∃ z, x = encStart z := by
  obtain ⟨n, _, rfl, _, h1⟩ := shs_num h
  obtain ⟨m, _, rfl, _, h2⟩ := shs_num h1
  cases shs_nil h2
  exact ⟨⟨n, m⟩, rfl⟩
theorem isSite {x : List R} (h : shsOk siteSh x) : ∃ s : SiteD, x.map C.r = encSite s ∧ SiteSz s := by
  obtain ⟨w, _, rfl, _, h1⟩ := shs_num h
  obtain ⟨g, _, rfl, _, h2⟩ := shs_num h1
  obtain ⟨d, _, rfl, _, h3⟩ := shs_num h2
  obtain ⟨k, _, rfl, w1, h4⟩ := shs_sl (fun _ => isInt) h3
  obtain ⟨o, _, rfl, w2, h5⟩ := shs_sl (fun _ => isInt) h4
  obtain ⟨z, _, rfl, w3, h6⟩ := shs_sl (fun _ => isZone) h5
  obtain ⟨a, _, rfl, w4, h7⟩ := shs_sl (fun _ => isApart) h6
  obtain ⟨s, _, rfl, w5, h8⟩ := shs_sl (fun _ => isShelf) h7
  obtain ⟨r, _, rfl, w6, h9⟩ := shs_sl (fun _ => isStart) h8
  cases shs_nil h9
  exact ⟨⟨⟨w, g, d, k, o⟩, z, a, s, r⟩, rfl, ⟨w1, w2, w3, w4, w5, w6⟩⟩

theorem siteSh_ok : shOf Try.prog 8 30 = some siteSh := by kernel_rfl
theorem siteSt : isStructT Try.prog 30 = true := by kernel_rfl
theorem intsSh_ok : shOf Try.prog 8 22 = some [.sl 1 8 [.num .i64]] := by kernel_rfl

section
variable {H : Type} {enc : TypeId × Value → H} {W : World} {b0 : Nat} {v : Value} {d : DataW H} {ps : List MemPlace}

set_option maxRecDepth 100000 in
theorem site_read (hv : Value.okWide Try.prog W .any b0 30 v) (h : DataW.Trod enc Try.prog W 0 (fun _ => true) true 30 v d ps) (hw : ∀ n ∈ d.weights Try.prog 30, n ≤ reachBytes) :
    ∃ s : SiteD, RepT (fun b => b < W.heap.size) 0 (fun _ => default) W (.v (.agg (encSite s))) v ∧ SiteSz s := read_agg siteSh_ok siteSt hv h hw fun _ => isSite

set_option maxRecDepth 100000 in
theorem ints_read (hv : Value.okWide Try.prog W .any b0 22 v) (h : DataW.Trod enc Try.prog W 0 (fun _ => true) true 22 v d ps) (hw : ∀ n ∈ d.weights Try.prog 22, n ≤ reachBytes) :
    ∃ l : List Int, RepT (fun b => b < W.heap.size) 0 (fun _ => default) W (tC (.r (.rd 1 (ints l)))) v ∧ l.length ≤ mxl := by
  obtain ⟨a, len, cap, rfl⟩ := WideShapes.okWide_slice Try.underlying22 hv
  obtain ⟨m, hm⟩ := h
  obtain ⟨rs, h1, h2⟩ := shOf_read _ _ _ m _ _ intsSh_ok hm hw
  obtain ⟨l, rs', rfl, hl, h3⟩ := shs_sl (fun _ => isInt) h2
  cases shs_nil h3
  exact ⟨l, repV_one (N := 0) (μ := fun _ => default) h1, by unfold reachBytes at hl; unfold mxl; omega⟩
end

end Go.Proofs.Yticflcpmlbaafaa.AL

/- Energy: needs never become less with more blocked cells or a greater delay. -/
set_option linter.unusedSimpArgs false
set_option linter.unusedVariables false
namespace Go.Proofs.Yticflcpmlbaafaa.AL
open Go
variable {s : SiteD} {bl : List Int}

theorem fx_is (h0 : FloorOk s.floor) (hs : SpeedOk s) (hn : s.floor.kind.length ≤ 60) : FuelIs (grF s bl) s.floor.kind.length (fxF s bl) := fuelF_ok (grF_ok h0 hs) hn (by decide)

theorem FewOk.wide {n m : Int} (h : FewOk s n 20) (hn : n ≤ m) : FewOk s m 20 :=
  ⟨by have := h.kind; omega, by have := h.out; omega, h.nz, h.na, h.ns, h.nr, fun i hi => by have := h.zc i hi; omega⟩
theorem SiteOk.spd (h : SiteOk s) : SpeedOk s := fun j hj => ⟨(h.zones j hj).speed1, (h.zones j hj).speed2⟩

/-- A need that is there, and is at most M. -/
def Le0 (a M : Int) : Prop := 0 ≤ a ∧ a ≤ M

theorem fx_mono (h0 : FloorOk s.floor) (hs : SpeedOk s) (hn : s.floor.kind.length ≤ 60) {bl' : List Int} (hsub : ∀ y, y ∈ bl → y ∈ bl') :
    ∀ (k c : Nat), c < s.floor.kind.length → 0 ≤ (fxF s bl').getD c 0 → (fxF s bl').getD c 0 < k → Le0 ((fxF s bl).getD c 0) ((fxF s bl').getD c 0) := by
  have hF := fx_is (bl := bl) h0 hs hn
  have hF' := fx_is (bl := bl') h0 hs hn
  have hg := grF_ok (bl := bl) h0 hs
  have hg' := grF_ok (bl := bl') h0 hs
  intro k
  induction k with
  | zero => intro c hc h0 h1; omega
  | succ k ih =>
    intro c hc h0 h1
    by_cases hh : (grF s bl).home.getD c false = true
    · have e1 := hF.home c hc hh
      have e2 := hF'.home c hc hh
      unfold Le0
      omega
    · have hh : (grF s bl).home.getD c false = false := by simpa using hh
      have hb := hF'.best c hc hh
      obtain ⟨z, z1, z2, z3⟩ := (bestL_ok (fxF s bl') (-1) _ (hg'.pos hc)).hit (by unfold bst at hb; omega)
      obtain ⟨⟨s1, s2⟩, s3, s4, s5⟩ := hg'.st c hc z z1
      have e : (fxF s bl').getD c 0 = (fxF s bl').getD z.1.toNat 0 + z.2 := by rw [hb]; unfold bst; rw [z3]
      obtain ⟨i1, i2⟩ := ih z.1.toNat (by omega) z2.2 (by omega)
      have z1' : z ∈ (grF s bl).out.getD c [] := by
        rw [grF_out hc, mem_outF] at z1 ⊢
        obtain ⟨d, d1, d2, d3⟩ := z1
        refine ⟨d, d1, ?_, d3⟩
        unfold edgeB at d2 ⊢
        simp only [Bool.and_eq_true, Bool.not_eq_true', decide_eq_false_iff_not] at d2 ⊢
        exact ⟨d2.1, fun h => d2.2 (hsub _ h)⟩
      have hle := (bestL_ok (fxF s bl) (-1) _ (hg.pos hc)).le z z1' ⟨by omega, i1⟩ (by omega)
      have hfb := hF.best c hc hh
      unfold bst at hfb
      rw [← hfb] at hle
      unfold Le0
      omega

theorem fx_le (h0 : FloorOk s.floor) (hs : SpeedOk s) (hn : s.floor.kind.length ≤ 60) {bl' : List Int} (hsub : ∀ y, y ∈ bl → y ∈ bl') {c : Nat} (hc : c < s.floor.kind.length) {M : Int} (h : Le0 ((fxF s bl').getD c 0) M) :
    Le0 ((fxF s bl).getD c 0) M := by
  obtain ⟨h1, h2⟩ := h
  have := fx_mono h0 hs hn hsub ((fxF s bl').getD c 0 + 1).toNat c hc h1 (by omega)
  unfold Le0 at *
  omega

theorem needAt_le {delay M : Int} (hd : 0 ≤ delay) {c m : Nat} : Le0 (needAt s bl delay c m) M ↔ Le0 ((fxF s bl).getD c 0) (M - delay * 3) ∧ ∀ x : Nat, x < m → ¬ (x : Int) ∈ bl → x ≠ c → Le0 ((fxF s (bl ++ [(x : Int)])).getD c 0) M := by
  induction m with
  | zero =>
    unfold needAt Le0
    simp only [List.range_zero, List.foldl_nil]
    constructor
    · intro h
      refine ⟨?_, fun x hx => by omega⟩
      split at h <;> omega
    · rintro ⟨h, _⟩
      split <;> omega
  | succ m ih =>
    rw [needAt_succ]
    split
    · rename_i hsk
      rw [ih]
      constructor
      · rintro ⟨a, b⟩
        refine ⟨a, fun x hx h1 h2 => ?_⟩
        by_cases e : x = m
        · subst e; rcases hsk with h | h
          · exact absurd h h1
          · exact absurd h h2
        · exact b x (by omega) h1 h2
      · rintro ⟨a, b⟩
        exact ⟨a, fun x hx => b x (by omega)⟩
    · rename_i hsk
      have key : Le0 (combN (needAt s bl delay c m) ((gxF s bl m).getD c 0)) M ↔ Le0 (needAt s bl delay c m) M ∧ Le0 ((gxF s bl m).getD c 0) M := by
        unfold combN Le0
        split <;> omega
      rw [key, ih]
      constructor
      · rintro ⟨⟨a, b⟩, g⟩
        refine ⟨a, fun x hx h1 h2 => ?_⟩
        by_cases e : x = m
        · subst e; exact g
        · exact b x (by omega) h1 h2
      · rintro ⟨a, b⟩
        exact ⟨⟨a, fun x hx => b x (by omega)⟩, b m (by omega) (fun h => hsk (.inl h)) (fun h => hsk (.inr h))⟩

/-- A greater delay, no less need. -/
theorem need_later {delay : Int} (hd : 0 ≤ delay) {c m : Nat} (h : 0 ≤ needAt s bl (delay + 1) c m) : Le0 (needAt s bl delay c m) (needAt s bl (delay + 1) c m) := by
  obtain ⟨a, b⟩ := (needAt_le (M := needAt s bl (delay + 1) c m) (by omega)).1 ⟨h, Int.le_refl _⟩
  exact (needAt_le hd).2 ⟨by unfold Le0 at *; omega, b⟩

theorem need_later2 {delay : Int} (hd : 0 ≤ delay) {c m : Nat} (h : 0 ≤ needAt s bl delay c m) : 0 ≤ needAt s bl (delay + 1) c m := by
  obtain ⟨a, b⟩ := (needAt_le (M := needAt s bl delay c m) hd).1 ⟨h, Int.le_refl _⟩
  have := (needAt_le (M := needAt s bl delay c m + 3) (bl := bl) (s := s) (c := c) (m := m) (delay := delay + 1) (by omega)).2 ⟨by unfold Le0 at *; omega, fun x hx h1 h2 => by have := b x hx h1 h2; unfold Le0 at *; omega⟩
  exact this.1

/-- One more blocked cell, no less need elsewhere. -/
theorem need_worse (h0 : FloorOk s.floor) (hs : SpeedOk s) (hn : s.floor.kind.length ≤ 60) {delay more : Int} (hd : 0 ≤ delay) {c : Nat} (hc : c < s.floor.kind.length) (hm : (c : Int) ≠ more)
    (h : 0 ≤ needAt s (bl ++ [more]) delay c s.floor.kind.length) : Le0 (needAt s bl delay c s.floor.kind.length) (needAt s (bl ++ [more]) delay c s.floor.kind.length) := by
  obtain ⟨a, b⟩ := (needAt_le (M := needAt s (bl ++ [more]) delay c s.floor.kind.length) hd).1 ⟨h, Int.le_refl _⟩
  refine (needAt_le hd).2 ⟨fx_le h0 hs hn (fun y hy => by simp [hy]) hc a, fun x hx h1 h2 => ?_⟩
  by_cases e : (x : Int) = more
  · subst e
    unfold Le0 at *
    omega
  · exact fx_le h0 hs hn (fun y hy => by simp only [List.mem_append, List.mem_singleton] at hy ⊢; rcases hy with h | h <;> simp [h]) hc (b x hx (by simp only [List.mem_append, List.mem_singleton]; exact fun h => h.elim h1 e) h2)

theorem needAt_lo (h0 : FloorOk s.floor) (hs : SpeedOk s) (hn : s.floor.kind.length ≤ 60) {delay : Int} (hd : 0 ≤ delay ∧ delay ≤ 1000) {c m : Nat} (hc : c < s.floor.kind.length) : -1 ≤ needAt s bl delay c m ∧ needAt s bl delay c m ≤ 30000 := by
  have hl := (fx_is (bl := bl) h0 hs hn).lo c hc
  induction m with
  | zero =>
    unfold needAt
    simp only [List.range_zero, List.foldl_nil]
    split <;> omega
  | succ m ih =>
    rw [needAt_succ]
    split
    · exact ih
    · have := (fx_is (bl := bl ++ [(m : Int)]) h0 hs hn).lo c hc
      have e : gxF s bl m = fxF s (bl ++ [(m : Int)]) := rfl
      rw [e]
      unfold combN
      split <;> omega

/-! Tables. -/
def tabL (n : Nat) (f : Nat → Int) : List Int := (List.range n).map f
theorem tab_len {n : Nat} {f : Nat → Int} : (tabL n f).length = n := by simp [tabL]
theorem tab_at {n c : Nat} {f : Nat → Int} (hc : c < n) : (tabL n f).getD c 0 = f c := by simp [tabL, hc]
theorem tab_set {n c : Nat} {f : Nat → Int} {v : Int} : (tabL n f).set c v = tabL n fun i => if i = c then v else f i := by
  refine List.ext_getElem (by simp [tabL]) fun j h1 h2 => ?_
  rw [List.getElem_set]
  simp only [tabL, List.getElem_map, List.getElem_range]
  by_cases e : c = j
  · subst e; simp
  · rw [if_neg e, if_neg (fun h => e h.symm)]
theorem tab_congr {n : Nat} {f g : Nat → Int} (h : ∀ c, c < n → f c = g c) : tabL n f = tabL n g := List.map_congr_left fun c hc => h c (List.mem_range.1 hc)
theorem needs_tab {delay : Int} : needsL s bl delay = tabL s.floor.kind.length fun c => needAt s bl delay c s.floor.kind.length := rfl
end Go.Proofs.Yticflcpmlbaafaa.AL

/- Energy: the law of needs. -/
set_option linter.unusedSimpArgs false
set_option linter.unusedVariables false
namespace Go.Proofs.Yticflcpmlbaafaa.AL
open Go
variable {s : SiteD} {bl : List Int}

def tmf4 (n v1 v2 : Nat) (bl : List Int) (more delay : Int) : Nat → Option T :=
  upd (upd (upd (upd (upd (upd (upd (upd emp 1 (tC (.r (.rd 1 (ints bl))))) 2 (tI more)) 3 (tI delay)) 4 (tC (.ptr 0 0 0 0))) 9 (tB true)) 10 (tC (.own 1 v1 0 n))) 11 (tC (.own 2 v2 0 n))) 12 (tC (.own 3 0 0 n))
def Kf4 (s : SiteD) (A B W : List Int) (v1 v2 : Nat) : KMap := upd (upd (upd (upd emp 0 (.row 0 9 [encSite s])) 1 (.row v1 1 (intC A))) 2 (.row v2 1 (intC B))) 3 (.row 0 1 (intC W))

def Kg4 (s : SiteD) (A B W L Z : List Int) (v1 v2 v4 v5 : Nat) : KMap := upd (upd (Kf4 s A B W v1 v2) 4 (.row v4 1 (intC L))) 7 (.row v5 1 (intC Z))

set_option maxRecDepth 20000 in
set_option maxHeartbeats 8000000 in
theorem f4_fin {v1 v2 v4 v5 n : Nat} {A B W L Z : List Int} {more delay : Int} (hn : n ≤ 24) (hA : A.length = n) (hW : W = A) (hL : L.length = n) (hZ : Z.length = n)
    (hl : ∀ c : Nat, c < n → (0 ≤ A.getD c 0 → A.getD c 0 ≤ L.getD c 0) ∧ (A.getD c 0 < 0 → L.getD c 0 < 0))
    (hz : ∀ c : Nat, c < n → (c : Int) ≠ more → 0 ≤ Z.getD c 0 → 0 ≤ A.getD c 0 ∧ A.getD c 0 ≤ Z.getD c 0) (hB : B.length = n) {tm : Nat → Option T} {K : KMap}
    (hw : Weak 0 ⟨upd tm 19 (tI 0), K, 8⟩ ⟨upd (upd (upd (tmf4 n v1 v2 bl more delay) 17 (tC (.own 4 v4 0 n))) 18 (tC (.own 7 v5 0 n))) 19 (tI 0), Kg4 s A B W L Z v1 v2 v4 v5, 8⟩) :
    awp Try.prog 0 s4_22 ⟨tm, K, 8⟩ (retP [SRes.tmp 8] fun x => x = tB true) := by
  subst hW
  simp only [go_sem, s4_22, ↓reduceIte, reduceCtorEq, Nat.reduceEqDiff, Nat.reduceAdd, Nat.reduceSub, Nat.reduceMul, Nat.reduceLT, Nat.reduceLeDiff, Int.reduceToNat]
  refine awp_loop (fun c : Nat => ⟨upd (upd (upd (tmf4 n v1 v2 bl more delay) 17 (tC (.own 4 v4 0 n))) 18 (tC (.own 7 v5 0 n))) 19 (tI c), Kg4 s W B W L Z v1 v2 v4 v5, 8⟩) (fun c => n - c) (fun c => c ≤ n) 0 (Nat.zero_le _) hw ?_
  intro c hc
  have hl' := hl c
  have hz' := hz c
  unfold tmf4 Kg4 Kf4
  simp only [go_sem, s4_21, ↓reduceIte, reduceCtorEq, Nat.reduceEqDiff, Nat.reduceAdd, Nat.reduceSub, Nat.reduceMul, Nat.reduceLT, Nat.reduceLeDiff, Int.reduceToNat]
  refine twoQ_at (fun g => ?_) (fun g => ?_)
  · have g : c < n := by have := of_decide_eq_true g; omega
    have hg' : (c : Int).toNat < n := by omega
    have fin : ∀ tm', TmCut (upd (upd (upd (tmf4 n v1 v2 bl more delay) 17 (tC (.own 4 v4 0 n))) 18 (tC (.own 7 v5 0 n))) 19 (tI (c + 1 : Nat))) tm' → ∃ y, y ≤ n ∧ n - y < n - c ∧ Weak 0 ⟨tm', Kg4 s W B W L Z v1 v2 v4 v5, 8⟩ ⟨upd (upd (upd (tmf4 n v1 v2 bl more delay) 17 (tC (.own 4 v4 0 n))) 18 (tC (.own 7 v5 0 n))) 19 (tI y), Kg4 s W B W L Z v1 v2 v4 v5, 8⟩ :=
      fun tm' h => ⟨c + 1, by omega, by omega, Weak.cutTm h⟩
    unfold tmf4 Kg4 Kf4 at fin
    have eA : (intC W).getD c [] = [cV (.int .i64 (W.getD c 0))] := intC_at (by omega)
    have eL : (intC L).getD c [] = [cV (.int .i64 (L.getD c 0))] := intC_at (by omega)
    have eZ : (intC Z).getD c [] = [cV (.int .i64 (Z.getD c 0))] := intC_at (by omega)
    generalize W.getD c 0 = a at *
    generalize L.getD c 0 = l at *
    generalize Z.getD c 0 = z at *
    have wc : IntKind.i64.wrap ((c : Int) + 1) = ((c + 1 : Nat) : Int) := wrap_i (by omega) (by omega)
    have hl' := hl' g
    have hz' := hz' g
    have c1 : (0 ≤ (c : Int)) = True := eq_true (by omega)
    have c2 : ((c : Int) < (n : Int)) = True := eq_true (by omega)
    have c3 : (c < n) = True := eq_true g
    by_cases ha : 0 ≤ a
    · have p1 := eq_true ha
      have p2 : (a < 0) = False := eq_false (by omega)
      have p3 : (l < a) = False := eq_false (by have := hl'.1 ha; omega)
      by_cases hzz : 0 ≤ z
      · have q1 := eq_true hzz
        by_cases hm : (c : Int) = more
        · have q4 : ((c : Int) = more) = True := eq_true hm
          clear hl' hz'
          (try simp only [go_sem, s4_20, s4_19, eA, eL, eZ, hA, hL, hZ, c1, c2, c3, wc, intC_len, Nat.zero_add, Nat.le_refl, Int.toNat_natCast, ne_eq, not_true_eq_false, not_false_eq_true, decide_true, decide_false, p1, p2, p3, q1, q4, ↓reduceIte, reduceCtorEq, Nat.reduceEqDiff, Nat.reduceAdd, Nat.reduceSub, Nat.reduceMul, Nat.reduceLT, Nat.reduceLeDiff, Int.reduceToNat])
          (try simp only [go_sem, s4_18, s4_17, eA, eL, eZ, hA, hL, hZ, c1, c2, c3, wc, intC_len, Nat.zero_add, Nat.le_refl, Int.toNat_natCast, ne_eq, not_true_eq_false, not_false_eq_true, decide_true, decide_false, p1, p2, p3, q1, q4, ↓reduceIte, reduceCtorEq, Nat.reduceEqDiff, Nat.reduceAdd, Nat.reduceSub, Nat.reduceMul, Nat.reduceLT, Nat.reduceLeDiff, Int.reduceToNat])
          (try simp only [go_sem, s4_16, s4_15, s4_14, s4_13, eA, eL, eZ, hA, hL, hZ, c1, c2, c3, wc, intC_len, Nat.zero_add, Nat.le_refl, Int.toNat_natCast, ne_eq, not_true_eq_false, not_false_eq_true, decide_true, decide_false, p1, p2, p3, q1, q4, ↓reduceIte, reduceCtorEq, Nat.reduceEqDiff, Nat.reduceAdd, Nat.reduceSub, Nat.reduceMul, Nat.reduceLT, Nat.reduceLeDiff, Int.reduceToNat])
          (try simp only [go_sem, s4_12, s4_11, s4_10, eA, eL, eZ, hA, hL, hZ, c1, c2, c3, wc, intC_len, Nat.zero_add, Nat.le_refl, Int.toNat_natCast, ne_eq, not_true_eq_false, not_false_eq_true, decide_true, decide_false, p1, p2, p3, q1, q4, ↓reduceIte, reduceCtorEq, Nat.reduceEqDiff, Nat.reduceAdd, Nat.reduceSub, Nat.reduceMul, Nat.reduceLT, Nat.reduceLeDiff, Int.reduceToNat])
          (try simp only [go_sem, s4_9, s4_8, eA, eL, eZ, hA, hL, hZ, c1, c2, c3, wc, intC_len, Nat.zero_add, Nat.le_refl, Int.toNat_natCast, ne_eq, not_true_eq_false, not_false_eq_true, decide_true, decide_false, p1, p2, p3, q1, q4, ↓reduceIte, reduceCtorEq, Nat.reduceEqDiff, Nat.reduceAdd, Nat.reduceSub, Nat.reduceMul, Nat.reduceLT, Nat.reduceLeDiff, Int.reduceToNat])
          (try simp only [go_sem, s4_7, s4_6, eA, eL, eZ, hA, hL, hZ, c1, c2, c3, wc, intC_len, Nat.zero_add, Nat.le_refl, Int.toNat_natCast, ne_eq, not_true_eq_false, not_false_eq_true, decide_true, decide_false, p1, p2, p3, q1, q4, ↓reduceIte, reduceCtorEq, Nat.reduceEqDiff, Nat.reduceAdd, Nat.reduceSub, Nat.reduceMul, Nat.reduceLT, Nat.reduceLeDiff, Int.reduceToNat])
          (try simp only [go_sem, s4_5, s4_4, s4_2, eA, eL, eZ, hA, hL, hZ, c1, c2, c3, wc, intC_len, Nat.zero_add, Nat.le_refl, Int.toNat_natCast, ne_eq, not_true_eq_false, not_false_eq_true, decide_true, decide_false, p1, p2, p3, q1, q4, ↓reduceIte, reduceCtorEq, Nat.reduceEqDiff, Nat.reduceAdd, Nat.reduceSub, Nat.reduceMul, Nat.reduceLT, Nat.reduceLeDiff, Int.reduceToNat])
          refine fin _ ?_
          (repeat (first | exact TmCut.nil | refine TmCut.cons rfl ?_ | refine TmCut.cons (by simp [upd, *]; done) ?_))
        · have q4 : ((c : Int) = more) = False := eq_false hm
          have q3 : (z < a) = False := eq_false (by have := (hz' hm hzz).2; omega)
          clear hl' hz'
          (try simp only [go_sem, s4_20, s4_19, eA, eL, eZ, hA, hL, hZ, c1, c2, c3, wc, intC_len, Nat.zero_add, Nat.le_refl, Int.toNat_natCast, ne_eq, not_true_eq_false, not_false_eq_true, decide_true, decide_false, p1, p2, p3, q1, q3, q4, ↓reduceIte, reduceCtorEq, Nat.reduceEqDiff, Nat.reduceAdd, Nat.reduceSub, Nat.reduceMul, Nat.reduceLT, Nat.reduceLeDiff, Int.reduceToNat])
          (try simp only [go_sem, s4_18, s4_17, eA, eL, eZ, hA, hL, hZ, c1, c2, c3, wc, intC_len, Nat.zero_add, Nat.le_refl, Int.toNat_natCast, ne_eq, not_true_eq_false, not_false_eq_true, decide_true, decide_false, p1, p2, p3, q1, q3, q4, ↓reduceIte, reduceCtorEq, Nat.reduceEqDiff, Nat.reduceAdd, Nat.reduceSub, Nat.reduceMul, Nat.reduceLT, Nat.reduceLeDiff, Int.reduceToNat])
          (try simp only [go_sem, s4_16, s4_15, s4_14, s4_13, eA, eL, eZ, hA, hL, hZ, c1, c2, c3, wc, intC_len, Nat.zero_add, Nat.le_refl, Int.toNat_natCast, ne_eq, not_true_eq_false, not_false_eq_true, decide_true, decide_false, p1, p2, p3, q1, q3, q4, ↓reduceIte, reduceCtorEq, Nat.reduceEqDiff, Nat.reduceAdd, Nat.reduceSub, Nat.reduceMul, Nat.reduceLT, Nat.reduceLeDiff, Int.reduceToNat])
          (try simp only [go_sem, s4_12, s4_11, s4_10, eA, eL, eZ, hA, hL, hZ, c1, c2, c3, wc, intC_len, Nat.zero_add, Nat.le_refl, Int.toNat_natCast, ne_eq, not_true_eq_false, not_false_eq_true, decide_true, decide_false, p1, p2, p3, q1, q3, q4, ↓reduceIte, reduceCtorEq, Nat.reduceEqDiff, Nat.reduceAdd, Nat.reduceSub, Nat.reduceMul, Nat.reduceLT, Nat.reduceLeDiff, Int.reduceToNat])
          (try simp only [go_sem, s4_9, s4_8, eA, eL, eZ, hA, hL, hZ, c1, c2, c3, wc, intC_len, Nat.zero_add, Nat.le_refl, Int.toNat_natCast, ne_eq, not_true_eq_false, not_false_eq_true, decide_true, decide_false, p1, p2, p3, q1, q3, q4, ↓reduceIte, reduceCtorEq, Nat.reduceEqDiff, Nat.reduceAdd, Nat.reduceSub, Nat.reduceMul, Nat.reduceLT, Nat.reduceLeDiff, Int.reduceToNat])
          (try simp only [go_sem, s4_7, s4_6, eA, eL, eZ, hA, hL, hZ, c1, c2, c3, wc, intC_len, Nat.zero_add, Nat.le_refl, Int.toNat_natCast, ne_eq, not_true_eq_false, not_false_eq_true, decide_true, decide_false, p1, p2, p3, q1, q3, q4, ↓reduceIte, reduceCtorEq, Nat.reduceEqDiff, Nat.reduceAdd, Nat.reduceSub, Nat.reduceMul, Nat.reduceLT, Nat.reduceLeDiff, Int.reduceToNat])
          (try simp only [go_sem, s4_5, s4_4, s4_2, eA, eL, eZ, hA, hL, hZ, c1, c2, c3, wc, intC_len, Nat.zero_add, Nat.le_refl, Int.toNat_natCast, ne_eq, not_true_eq_false, not_false_eq_true, decide_true, decide_false, p1, p2, p3, q1, q3, q4, ↓reduceIte, reduceCtorEq, Nat.reduceEqDiff, Nat.reduceAdd, Nat.reduceSub, Nat.reduceMul, Nat.reduceLT, Nat.reduceLeDiff, Int.reduceToNat])
          refine fin _ ?_
          (repeat (first | exact TmCut.nil | refine TmCut.cons rfl ?_ | refine TmCut.cons (by simp [upd, *]; done) ?_))
      · have q1 := eq_false hzz
        clear hl' hz'
        (try simp only [go_sem, s4_20, s4_19, eA, eL, eZ, hA, hL, hZ, c1, c2, c3, wc, intC_len, Nat.zero_add, Nat.le_refl, Int.toNat_natCast, ne_eq, not_true_eq_false, not_false_eq_true, decide_true, decide_false, p1, p2, p3, q1, ↓reduceIte, reduceCtorEq, Nat.reduceEqDiff, Nat.reduceAdd, Nat.reduceSub, Nat.reduceMul, Nat.reduceLT, Nat.reduceLeDiff, Int.reduceToNat])
        (try simp only [go_sem, s4_18, s4_17, eA, eL, eZ, hA, hL, hZ, c1, c2, c3, wc, intC_len, Nat.zero_add, Nat.le_refl, Int.toNat_natCast, ne_eq, not_true_eq_false, not_false_eq_true, decide_true, decide_false, p1, p2, p3, q1, ↓reduceIte, reduceCtorEq, Nat.reduceEqDiff, Nat.reduceAdd, Nat.reduceSub, Nat.reduceMul, Nat.reduceLT, Nat.reduceLeDiff, Int.reduceToNat])
        (try simp only [go_sem, s4_16, s4_15, s4_14, s4_13, eA, eL, eZ, hA, hL, hZ, c1, c2, c3, wc, intC_len, Nat.zero_add, Nat.le_refl, Int.toNat_natCast, ne_eq, not_true_eq_false, not_false_eq_true, decide_true, decide_false, p1, p2, p3, q1, ↓reduceIte, reduceCtorEq, Nat.reduceEqDiff, Nat.reduceAdd, Nat.reduceSub, Nat.reduceMul, Nat.reduceLT, Nat.reduceLeDiff, Int.reduceToNat])
        (try simp only [go_sem, s4_12, s4_11, s4_10, eA, eL, eZ, hA, hL, hZ, c1, c2, c3, wc, intC_len, Nat.zero_add, Nat.le_refl, Int.toNat_natCast, ne_eq, not_true_eq_false, not_false_eq_true, decide_true, decide_false, p1, p2, p3, q1, ↓reduceIte, reduceCtorEq, Nat.reduceEqDiff, Nat.reduceAdd, Nat.reduceSub, Nat.reduceMul, Nat.reduceLT, Nat.reduceLeDiff, Int.reduceToNat])
        (try simp only [go_sem, s4_9, s4_8, eA, eL, eZ, hA, hL, hZ, c1, c2, c3, wc, intC_len, Nat.zero_add, Nat.le_refl, Int.toNat_natCast, ne_eq, not_true_eq_false, not_false_eq_true, decide_true, decide_false, p1, p2, p3, q1, ↓reduceIte, reduceCtorEq, Nat.reduceEqDiff, Nat.reduceAdd, Nat.reduceSub, Nat.reduceMul, Nat.reduceLT, Nat.reduceLeDiff, Int.reduceToNat])
        (try simp only [go_sem, s4_7, s4_6, eA, eL, eZ, hA, hL, hZ, c1, c2, c3, wc, intC_len, Nat.zero_add, Nat.le_refl, Int.toNat_natCast, ne_eq, not_true_eq_false, not_false_eq_true, decide_true, decide_false, p1, p2, p3, q1, ↓reduceIte, reduceCtorEq, Nat.reduceEqDiff, Nat.reduceAdd, Nat.reduceSub, Nat.reduceMul, Nat.reduceLT, Nat.reduceLeDiff, Int.reduceToNat])
        (try simp only [go_sem, s4_5, s4_4, s4_2, eA, eL, eZ, hA, hL, hZ, c1, c2, c3, wc, intC_len, Nat.zero_add, Nat.le_refl, Int.toNat_natCast, ne_eq, not_true_eq_false, not_false_eq_true, decide_true, decide_false, p1, p2, p3, q1, ↓reduceIte, reduceCtorEq, Nat.reduceEqDiff, Nat.reduceAdd, Nat.reduceSub, Nat.reduceMul, Nat.reduceLT, Nat.reduceLeDiff, Int.reduceToNat])
        refine fin _ ?_
        (repeat (first | exact TmCut.nil | refine TmCut.cons rfl ?_ | refine TmCut.cons (by simp [upd, *]; done) ?_))
    · have p1 := eq_false ha
      have p2 : (a < 0) = True := eq_true (by omega)
      have p3 : (0 ≤ l) = False := eq_false (by have := hl'.2 (by omega); omega)
      by_cases hzz : 0 ≤ z
      · have q1 := eq_true hzz
        have hm : (c : Int) = more := Classical.byContradiction fun hm => ha (hz' hm hzz).1
        have q4 : ((c : Int) = more) = True := eq_true hm
        clear hl' hz'
        (try simp only [go_sem, s4_20, s4_19, eA, eL, eZ, hA, hL, hZ, c1, c2, c3, wc, intC_len, Nat.zero_add, Nat.le_refl, Int.toNat_natCast, ne_eq, not_true_eq_false, not_false_eq_true, decide_true, decide_false, p1, p2, p3, q1, q4, ↓reduceIte, reduceCtorEq, Nat.reduceEqDiff, Nat.reduceAdd, Nat.reduceSub, Nat.reduceMul, Nat.reduceLT, Nat.reduceLeDiff, Int.reduceToNat])
        (try simp only [go_sem, s4_18, s4_17, eA, eL, eZ, hA, hL, hZ, c1, c2, c3, wc, intC_len, Nat.zero_add, Nat.le_refl, Int.toNat_natCast, ne_eq, not_true_eq_false, not_false_eq_true, decide_true, decide_false, p1, p2, p3, q1, q4, ↓reduceIte, reduceCtorEq, Nat.reduceEqDiff, Nat.reduceAdd, Nat.reduceSub, Nat.reduceMul, Nat.reduceLT, Nat.reduceLeDiff, Int.reduceToNat])
        (try simp only [go_sem, s4_16, s4_15, s4_14, s4_13, eA, eL, eZ, hA, hL, hZ, c1, c2, c3, wc, intC_len, Nat.zero_add, Nat.le_refl, Int.toNat_natCast, ne_eq, not_true_eq_false, not_false_eq_true, decide_true, decide_false, p1, p2, p3, q1, q4, ↓reduceIte, reduceCtorEq, Nat.reduceEqDiff, Nat.reduceAdd, Nat.reduceSub, Nat.reduceMul, Nat.reduceLT, Nat.reduceLeDiff, Int.reduceToNat])
        (try simp only [go_sem, s4_12, s4_11, s4_10, eA, eL, eZ, hA, hL, hZ, c1, c2, c3, wc, intC_len, Nat.zero_add, Nat.le_refl, Int.toNat_natCast, ne_eq, not_true_eq_false, not_false_eq_true, decide_true, decide_false, p1, p2, p3, q1, q4, ↓reduceIte, reduceCtorEq, Nat.reduceEqDiff, Nat.reduceAdd, Nat.reduceSub, Nat.reduceMul, Nat.reduceLT, Nat.reduceLeDiff, Int.reduceToNat])
        (try simp only [go_sem, s4_9, s4_8, eA, eL, eZ, hA, hL, hZ, c1, c2, c3, wc, intC_len, Nat.zero_add, Nat.le_refl, Int.toNat_natCast, ne_eq, not_true_eq_false, not_false_eq_true, decide_true, decide_false, p1, p2, p3, q1, q4, ↓reduceIte, reduceCtorEq, Nat.reduceEqDiff, Nat.reduceAdd, Nat.reduceSub, Nat.reduceMul, Nat.reduceLT, Nat.reduceLeDiff, Int.reduceToNat])
        (try simp only [go_sem, s4_7, s4_6, eA, eL, eZ, hA, hL, hZ, c1, c2, c3, wc, intC_len, Nat.zero_add, Nat.le_refl, Int.toNat_natCast, ne_eq, not_true_eq_false, not_false_eq_true, decide_true, decide_false, p1, p2, p3, q1, q4, ↓reduceIte, reduceCtorEq, Nat.reduceEqDiff, Nat.reduceAdd, Nat.reduceSub, Nat.reduceMul, Nat.reduceLT, Nat.reduceLeDiff, Int.reduceToNat])
        (try simp only [go_sem, s4_5, s4_4, s4_2, eA, eL, eZ, hA, hL, hZ, c1, c2, c3, wc, intC_len, Nat.zero_add, Nat.le_refl, Int.toNat_natCast, ne_eq, not_true_eq_false, not_false_eq_true, decide_true, decide_false, p1, p2, p3, q1, q4, ↓reduceIte, reduceCtorEq, Nat.reduceEqDiff, Nat.reduceAdd, Nat.reduceSub, Nat.reduceMul, Nat.reduceLT, Nat.reduceLeDiff, Int.reduceToNat])
        refine fin _ ?_
        (repeat (first | exact TmCut.nil | refine TmCut.cons rfl ?_ | refine TmCut.cons (by simp [upd, *]; done) ?_))
      · have q1 := eq_false hzz
        clear hl' hz'
        (try simp only [go_sem, s4_20, s4_19, eA, eL, eZ, hA, hL, hZ, c1, c2, c3, wc, intC_len, Nat.zero_add, Nat.le_refl, Int.toNat_natCast, ne_eq, not_true_eq_false, not_false_eq_true, decide_true, decide_false, p1, p2, p3, q1, ↓reduceIte, reduceCtorEq, Nat.reduceEqDiff, Nat.reduceAdd, Nat.reduceSub, Nat.reduceMul, Nat.reduceLT, Nat.reduceLeDiff, Int.reduceToNat])
        (try simp only [go_sem, s4_18, s4_17, eA, eL, eZ, hA, hL, hZ, c1, c2, c3, wc, intC_len, Nat.zero_add, Nat.le_refl, Int.toNat_natCast, ne_eq, not_true_eq_false, not_false_eq_true, decide_true, decide_false, p1, p2, p3, q1, ↓reduceIte, reduceCtorEq, Nat.reduceEqDiff, Nat.reduceAdd, Nat.reduceSub, Nat.reduceMul, Nat.reduceLT, Nat.reduceLeDiff, Int.reduceToNat])
        (try simp only [go_sem, s4_16, s4_15, s4_14, s4_13, eA, eL, eZ, hA, hL, hZ, c1, c2, c3, wc, intC_len, Nat.zero_add, Nat.le_refl, Int.toNat_natCast, ne_eq, not_true_eq_false, not_false_eq_true, decide_true, decide_false, p1, p2, p3, q1, ↓reduceIte, reduceCtorEq, Nat.reduceEqDiff, Nat.reduceAdd, Nat.reduceSub, Nat.reduceMul, Nat.reduceLT, Nat.reduceLeDiff, Int.reduceToNat])
        (try simp only [go_sem, s4_12, s4_11, s4_10, eA, eL, eZ, hA, hL, hZ, c1, c2, c3, wc, intC_len, Nat.zero_add, Nat.le_refl, Int.toNat_natCast, ne_eq, not_true_eq_false, not_false_eq_true, decide_true, decide_false, p1, p2, p3, q1, ↓reduceIte, reduceCtorEq, Nat.reduceEqDiff, Nat.reduceAdd, Nat.reduceSub, Nat.reduceMul, Nat.reduceLT, Nat.reduceLeDiff, Int.reduceToNat])
        (try simp only [go_sem, s4_9, s4_8, eA, eL, eZ, hA, hL, hZ, c1, c2, c3, wc, intC_len, Nat.zero_add, Nat.le_refl, Int.toNat_natCast, ne_eq, not_true_eq_false, not_false_eq_true, decide_true, decide_false, p1, p2, p3, q1, ↓reduceIte, reduceCtorEq, Nat.reduceEqDiff, Nat.reduceAdd, Nat.reduceSub, Nat.reduceMul, Nat.reduceLT, Nat.reduceLeDiff, Int.reduceToNat])
        (try simp only [go_sem, s4_7, s4_6, eA, eL, eZ, hA, hL, hZ, c1, c2, c3, wc, intC_len, Nat.zero_add, Nat.le_refl, Int.toNat_natCast, ne_eq, not_true_eq_false, not_false_eq_true, decide_true, decide_false, p1, p2, p3, q1, ↓reduceIte, reduceCtorEq, Nat.reduceEqDiff, Nat.reduceAdd, Nat.reduceSub, Nat.reduceMul, Nat.reduceLT, Nat.reduceLeDiff, Int.reduceToNat])
        (try simp only [go_sem, s4_5, s4_4, s4_2, eA, eL, eZ, hA, hL, hZ, c1, c2, c3, wc, intC_len, Nat.zero_add, Nat.le_refl, Int.toNat_natCast, ne_eq, not_true_eq_false, not_false_eq_true, decide_true, decide_false, p1, p2, p3, q1, ↓reduceIte, reduceCtorEq, Nat.reduceEqDiff, Nat.reduceAdd, Nat.reduceSub, Nat.reduceMul, Nat.reduceLT, Nat.reduceLeDiff, Int.reduceToNat])
        refine fin _ ?_
        (repeat (first | exact TmCut.nil | refine TmCut.cons rfl ?_ | refine TmCut.cons (by simp [upd, *]; done) ?_))
  · clear hl' hz'
    simp only [go_sem, s4_1, ↓reduceIte, reduceCtorEq, Nat.reduceEqDiff, Nat.reduceAdd, Nat.reduceSub, Nat.reduceMul, Nat.reduceLT, Nat.reduceLeDiff, Int.reduceToNat]
    rfl
end Go.Proofs.Yticflcpmlbaafaa.AL

/- Energy: the law of needs, one further cell. -/
set_option linter.unusedSimpArgs false
set_option linter.unusedVariables false
namespace Go.Proofs.Yticflcpmlbaafaa.AL
open Go
variable {s : SiteD} {bl : List Int}

def Kh4 (s : SiteD) (A B W G : List Int) (v1 v2 v6 : Nat) : KMap := upd (upd (upd (upd (upd emp 0 (.row 0 9 [encSite s])) 1 (.row v1 1 (intC A))) 2 (.row v2 1 (intC B))) 6 (.row v6 1 (intC G))) 3 (.row 0 1 (intC W))

set_option maxRecDepth 20000 in
set_option maxHeartbeats 8000000 in
theorem f4_in {v1 v2 v6 n x : Nat} {A B G : List Int} {more delay : Int} (hn : n ≤ 24) (hB : B.length = n) (hG : G.length = n) (f0 f1 : Nat → Int)
    (hf : ∀ c : Nat, c < n → f1 c = if c = x then f0 c else combN (f0 c) (G.getD c 0)) {Q : XE → St → Prop}
    (hQ : Q .normal ⟨upd (upd (upd (upd (upd (upd (upd (tmf4 n v1 v2 bl more delay) 14 (tI x)) 15 (tC (.own 6 v6 0 n))) 16 (tI n)) 99 (tI n)) 100 (tC (.own 2 v2 0 n))) 101 (tI n)) 102 (tB (decide ((n : Int) < n))), Kh4 s A B (tabL n f1) G v1 v2 v6, 7⟩) {tm : Nat → Option T} {K : KMap}
    (hw : Weak 0 ⟨upd tm 16 (tI 0), K, 7⟩ ⟨upd (upd (upd (tmf4 n v1 v2 bl more delay) 14 (tI x)) 15 (tC (.own 6 v6 0 n))) 16 (tI 0), Kh4 s A B (tabL n f0) G v1 v2 v6, 7⟩) :
    awp Try.prog 0 s4_46 ⟨tm, K, 7⟩ Q := by
  simp only [go_sem, s4_46, ↓reduceIte, reduceCtorEq, Nat.reduceEqDiff, Nat.reduceAdd, Nat.reduceSub, Nat.reduceMul, Nat.reduceLT, Nat.reduceLeDiff, Int.reduceToNat]
  refine awp_loop (fun c : Nat => ⟨upd (upd (upd (tmf4 n v1 v2 bl more delay) 14 (tI x)) 15 (tC (.own 6 v6 0 n))) 16 (tI c), Kh4 s A B (tabL n fun i => if i < c then f1 i else f0 i) G v1 v2 v6, 7⟩) (fun c => n - c) (fun c => c ≤ n) 0 (Nat.zero_le _) (by simp only [Nat.not_lt_zero, if_false]; exact hw) ?_
  clear hw
  intro c hc
  have hf' := hf c
  have fin : ∀ (v : Int) tm', c < n → v = f1 c → TmCut (upd (upd (upd (tmf4 n v1 v2 bl more delay) 14 (tI x)) 15 (tC (.own 6 v6 0 n))) 16 (tI (c + 1 : Nat))) tm' →
      ∃ y, y ≤ n ∧ n - y < n - c ∧ Weak 0 ⟨tm', Kh4 s A B ((tabL n fun i => if i < c then f1 i else f0 i).set c v) G v1 v2 v6, 7⟩ ⟨upd (upd (upd (tmf4 n v1 v2 bl more delay) 14 (tI x)) 15 (tC (.own 6 v6 0 n))) 16 (tI y), Kh4 s A B (tabL n fun i => if i < y then f1 i else f0 i) G v1 v2 v6, 7⟩ := fun v tm' hc hv ht => by
    refine ⟨c + 1, by omega, by omega, ?_⟩
    rw [tab_set, tab_congr (g := fun i => if i < c + 1 then f1 i else f0 i)]
    · exact Weak.cutTm ht
    · intro i hi
      by_cases e : i = c
      · subst e; rw [if_pos rfl, if_pos (by omega), hv]
      · rw [if_neg e]
        by_cases e2 : i < c
        · rw [if_pos e2, if_pos (by omega)]
        · rw [if_neg e2, if_neg (by omega)]
  have fin0 : ∀ tm', c < n → f0 c = f1 c → TmCut (upd (upd (upd (tmf4 n v1 v2 bl more delay) 14 (tI x)) 15 (tC (.own 6 v6 0 n))) 16 (tI (c + 1 : Nat))) tm' →
      ∃ y, y ≤ n ∧ n - y < n - c ∧ Weak 0 ⟨tm', Kh4 s A B (tabL n fun i => if i < c then f1 i else f0 i) G v1 v2 v6, 7⟩ ⟨upd (upd (upd (tmf4 n v1 v2 bl more delay) 14 (tI x)) 15 (tC (.own 6 v6 0 n))) 16 (tI y), Kh4 s A B (tabL n fun i => if i < y then f1 i else f0 i) G v1 v2 v6, 7⟩ := fun tm' hc hv ht => by
    have := fin (f0 c) tm' hc hv ht
    rw [tab_set, tab_congr (g := fun i => if i < c then f1 i else f0 i)] at this
    · exact this
    · intro i hi
      by_cases e : i = c
      · subst e; rw [if_pos rfl, if_neg (by omega)]
      · rw [if_neg e]
  unfold tmf4 Kh4 at *
  have eW : c < n → (intC (tabL n fun i => if i < c then f1 i else f0 i)).getD c [] = [cV (.int .i64 (f0 c))] := fun h => by rw [intC_at (by rw [tab_len]; exact h), tab_at h, if_neg (by omega)]
  have eG : c < n → (intC G).getD c [] = [cV (.int .i64 (G.getD c 0))] := fun h => intC_at (by omega)
  have eWl : (tabL n fun i => if i < c then f1 i else f0 i).length = n := tab_len
  have eEnd : c = n → (tabL n fun i => if i < c then f1 i else f0 i) = tabL n f1 := fun h => tab_congr fun i hi => by rw [if_pos (by omega)]
  generalize (tabL n fun i => if i < c then f1 i else f0 i) = Wc at *
  simp only [go_sem, s4_45, ↓reduceIte, reduceCtorEq, Nat.reduceEqDiff, Nat.reduceAdd, Nat.reduceSub, Nat.reduceMul, Nat.reduceLT, Nat.reduceLeDiff, Int.reduceToNat]
  refine twoQ_at (fun g => ?_) (fun g => ?_)
  · have g : c < n := by have := of_decide_eq_true g; omega
    have eW := eW g
    have eG := eG g
    have hf' := hf' g
    generalize f0 c = w at *
    generalize G.getD c 0 = gg at *
    have wc : IntKind.i64.wrap ((c : Int) + 1) = ((c + 1 : Nat) : Int) := wrap_i (by omega) (by omega)
    have c1 : (0 ≤ (c : Int)) = True := eq_true (by omega)
    have c2 : ((c : Int) < (n : Int)) = True := eq_true (by omega)
    have c3 : (c < n) = True := eq_true g
    by_cases hx : (c : Int) = x
    · have hx' : c = x := by omega
      have q := eq_true hx
      rw [if_pos hx'] at hf'
      (try simp only [go_sem, s4_44, s4_43, eW, eG, eWl, hB, hG, c1, c2, c3, wc, upd_upd, intC_set, intC_len, Nat.zero_add, Nat.le_refl, Int.toNat_natCast, ne_eq, not_true_eq_false, not_false_eq_true, decide_true, decide_false, Decidable.not_not, q, ↓reduceIte, reduceCtorEq, Nat.reduceEqDiff, Nat.reduceAdd, Nat.reduceSub, Nat.reduceMul, Nat.reduceLT, Nat.reduceLeDiff, Int.reduceToNat])
      (try simp only [go_sem, s4_42, s4_41, eW, eG, eWl, hB, hG, c1, c2, c3, wc, upd_upd, intC_set, intC_len, Nat.zero_add, Nat.le_refl, Int.toNat_natCast, ne_eq, not_true_eq_false, not_false_eq_true, decide_true, decide_false, Decidable.not_not, q, ↓reduceIte, reduceCtorEq, Nat.reduceEqDiff, Nat.reduceAdd, Nat.reduceSub, Nat.reduceMul, Nat.reduceLT, Nat.reduceLeDiff, Int.reduceToNat])
      (try simp only [go_sem, s4_40, s4_39, eW, eG, eWl, hB, hG, c1, c2, c3, wc, upd_upd, intC_set, intC_len, Nat.zero_add, Nat.le_refl, Int.toNat_natCast, ne_eq, not_true_eq_false, not_false_eq_true, decide_true, decide_false, Decidable.not_not, q, ↓reduceIte, reduceCtorEq, Nat.reduceEqDiff, Nat.reduceAdd, Nat.reduceSub, Nat.reduceMul, Nat.reduceLT, Nat.reduceLeDiff, Int.reduceToNat])
      (try simp only [go_sem, s4_38, s4_37, eW, eG, eWl, hB, hG, c1, c2, c3, wc, upd_upd, intC_set, intC_len, Nat.zero_add, Nat.le_refl, Int.toNat_natCast, ne_eq, not_true_eq_false, not_false_eq_true, decide_true, decide_false, Decidable.not_not, q, ↓reduceIte, reduceCtorEq, Nat.reduceEqDiff, Nat.reduceAdd, Nat.reduceSub, Nat.reduceMul, Nat.reduceLT, Nat.reduceLeDiff, Int.reduceToNat])
      (try simp only [go_sem, s4_36, eW, eG, eWl, hB, hG, c1, c2, c3, wc, upd_upd, intC_set, intC_len, Nat.zero_add, Nat.le_refl, Int.toNat_natCast, ne_eq, not_true_eq_false, not_false_eq_true, decide_true, decide_false, Decidable.not_not, q, ↓reduceIte, reduceCtorEq, Nat.reduceEqDiff, Nat.reduceAdd, Nat.reduceSub, Nat.reduceMul, Nat.reduceLT, Nat.reduceLeDiff, Int.reduceToNat])
      refine fin0 _ g hf'.symm ?_
      (repeat (first | exact TmCut.nil | refine TmCut.cons rfl ?_ | refine TmCut.cons (by simp [upd, *]; done) ?_))
    · have hx' : ¬ c = x := by omega
      have q := eq_false hx
      rw [if_neg hx'] at hf'
      unfold combN at hf'
      by_cases h1 : gg < 0
      · have q1 := eq_true h1
        (try simp only [go_sem, s4_44, s4_43, eW, eG, eWl, hB, hG, c1, c2, c3, wc, upd_upd, intC_set, intC_len, Nat.zero_add, Nat.le_refl, Int.toNat_natCast, ne_eq, not_true_eq_false, not_false_eq_true, decide_true, decide_false, Decidable.not_not, q, q1, ↓reduceIte, reduceCtorEq, Nat.reduceEqDiff, Nat.reduceAdd, Nat.reduceSub, Nat.reduceMul, Nat.reduceLT, Nat.reduceLeDiff, Int.reduceToNat])
        (try simp only [go_sem, s4_42, s4_41, eW, eG, eWl, hB, hG, c1, c2, c3, wc, upd_upd, intC_set, intC_len, Nat.zero_add, Nat.le_refl, Int.toNat_natCast, ne_eq, not_true_eq_false, not_false_eq_true, decide_true, decide_false, Decidable.not_not, q, q1, ↓reduceIte, reduceCtorEq, Nat.reduceEqDiff, Nat.reduceAdd, Nat.reduceSub, Nat.reduceMul, Nat.reduceLT, Nat.reduceLeDiff, Int.reduceToNat])
        (try simp only [go_sem, s4_40, s4_39, eW, eG, eWl, hB, hG, c1, c2, c3, wc, upd_upd, intC_set, intC_len, Nat.zero_add, Nat.le_refl, Int.toNat_natCast, ne_eq, not_true_eq_false, not_false_eq_true, decide_true, decide_false, Decidable.not_not, q, q1, ↓reduceIte, reduceCtorEq, Nat.reduceEqDiff, Nat.reduceAdd, Nat.reduceSub, Nat.reduceMul, Nat.reduceLT, Nat.reduceLeDiff, Int.reduceToNat])
        (try simp only [go_sem, s4_38, s4_37, eW, eG, eWl, hB, hG, c1, c2, c3, wc, upd_upd, intC_set, intC_len, Nat.zero_add, Nat.le_refl, Int.toNat_natCast, ne_eq, not_true_eq_false, not_false_eq_true, decide_true, decide_false, Decidable.not_not, q, q1, ↓reduceIte, reduceCtorEq, Nat.reduceEqDiff, Nat.reduceAdd, Nat.reduceSub, Nat.reduceMul, Nat.reduceLT, Nat.reduceLeDiff, Int.reduceToNat])
        (try simp only [go_sem, s4_36, eW, eG, eWl, hB, hG, c1, c2, c3, wc, upd_upd, intC_set, intC_len, Nat.zero_add, Nat.le_refl, Int.toNat_natCast, ne_eq, not_true_eq_false, not_false_eq_true, decide_true, decide_false, Decidable.not_not, q, q1, ↓reduceIte, reduceCtorEq, Nat.reduceEqDiff, Nat.reduceAdd, Nat.reduceSub, Nat.reduceMul, Nat.reduceLT, Nat.reduceLeDiff, Int.reduceToNat])
        refine fin _ _ g (by rw [hf', if_pos (.inl h1)]) ?_
        (repeat (first | exact TmCut.nil | refine TmCut.cons rfl ?_ | refine TmCut.cons (by simp [upd, *]; done) ?_))
      · have q1 := eq_false h1
        by_cases h2 : w < 0
        · have q2 := eq_true h2
          (try simp only [go_sem, s4_44, s4_43, eW, eG, eWl, hB, hG, c1, c2, c3, wc, upd_upd, intC_set, intC_len, Nat.zero_add, Nat.le_refl, Int.toNat_natCast, ne_eq, not_true_eq_false, not_false_eq_true, decide_true, decide_false, Decidable.not_not, q, q1, q2, ↓reduceIte, reduceCtorEq, Nat.reduceEqDiff, Nat.reduceAdd, Nat.reduceSub, Nat.reduceMul, Nat.reduceLT, Nat.reduceLeDiff, Int.reduceToNat])
          (try simp only [go_sem, s4_42, s4_41, eW, eG, eWl, hB, hG, c1, c2, c3, wc, upd_upd, intC_set, intC_len, Nat.zero_add, Nat.le_refl, Int.toNat_natCast, ne_eq, not_true_eq_false, not_false_eq_true, decide_true, decide_false, Decidable.not_not, q, q1, q2, ↓reduceIte, reduceCtorEq, Nat.reduceEqDiff, Nat.reduceAdd, Nat.reduceSub, Nat.reduceMul, Nat.reduceLT, Nat.reduceLeDiff, Int.reduceToNat])
          (try simp only [go_sem, s4_40, s4_39, eW, eG, eWl, hB, hG, c1, c2, c3, wc, upd_upd, intC_set, intC_len, Nat.zero_add, Nat.le_refl, Int.toNat_natCast, ne_eq, not_true_eq_false, not_false_eq_true, decide_true, decide_false, Decidable.not_not, q, q1, q2, ↓reduceIte, reduceCtorEq, Nat.reduceEqDiff, Nat.reduceAdd, Nat.reduceSub, Nat.reduceMul, Nat.reduceLT, Nat.reduceLeDiff, Int.reduceToNat])
          (try simp only [go_sem, s4_38, s4_37, eW, eG, eWl, hB, hG, c1, c2, c3, wc, upd_upd, intC_set, intC_len, Nat.zero_add, Nat.le_refl, Int.toNat_natCast, ne_eq, not_true_eq_false, not_false_eq_true, decide_true, decide_false, Decidable.not_not, q, q1, q2, ↓reduceIte, reduceCtorEq, Nat.reduceEqDiff, Nat.reduceAdd, Nat.reduceSub, Nat.reduceMul, Nat.reduceLT, Nat.reduceLeDiff, Int.reduceToNat])
          (try simp only [go_sem, s4_36, eW, eG, eWl, hB, hG, c1, c2, c3, wc, upd_upd, intC_set, intC_len, Nat.zero_add, Nat.le_refl, Int.toNat_natCast, ne_eq, not_true_eq_false, not_false_eq_true, decide_true, decide_false, Decidable.not_not, q, q1, q2, ↓reduceIte, reduceCtorEq, Nat.reduceEqDiff, Nat.reduceAdd, Nat.reduceSub, Nat.reduceMul, Nat.reduceLT, Nat.reduceLeDiff, Int.reduceToNat])
          refine fin _ _ g (by rw [hf', if_pos (.inr h2)]) ?_
          (repeat (first | exact TmCut.nil | refine TmCut.cons rfl ?_ | refine TmCut.cons (by simp [upd, *]; done) ?_))
        · have q2 := eq_false h2
          (try simp only [go_sem, s4_44, s4_43, eW, eG, eWl, hB, hG, c1, c2, c3, wc, upd_upd, intC_set, intC_len, Nat.zero_add, Nat.le_refl, Int.toNat_natCast, ne_eq, not_true_eq_false, not_false_eq_true, decide_true, decide_false, Decidable.not_not, q, q1, q2, ↓reduceIte, reduceCtorEq, Nat.reduceEqDiff, Nat.reduceAdd, Nat.reduceSub, Nat.reduceMul, Nat.reduceLT, Nat.reduceLeDiff, Int.reduceToNat])
          (try simp only [go_sem, s4_42, s4_41, eW, eG, eWl, hB, hG, c1, c2, c3, wc, upd_upd, intC_set, intC_len, Nat.zero_add, Nat.le_refl, Int.toNat_natCast, ne_eq, not_true_eq_false, not_false_eq_true, decide_true, decide_false, Decidable.not_not, q, q1, q2, ↓reduceIte, reduceCtorEq, Nat.reduceEqDiff, Nat.reduceAdd, Nat.reduceSub, Nat.reduceMul, Nat.reduceLT, Nat.reduceLeDiff, Int.reduceToNat])
          (try simp only [go_sem, s4_40, s4_39, eW, eG, eWl, hB, hG, c1, c2, c3, wc, upd_upd, intC_set, intC_len, Nat.zero_add, Nat.le_refl, Int.toNat_natCast, ne_eq, not_true_eq_false, not_false_eq_true, decide_true, decide_false, Decidable.not_not, q, q1, q2, ↓reduceIte, reduceCtorEq, Nat.reduceEqDiff, Nat.reduceAdd, Nat.reduceSub, Nat.reduceMul, Nat.reduceLT, Nat.reduceLeDiff, Int.reduceToNat])
          (try simp only [go_sem, s4_38, s4_37, eW, eG, eWl, hB, hG, c1, c2, c3, wc, upd_upd, intC_set, intC_len, Nat.zero_add, Nat.le_refl, Int.toNat_natCast, ne_eq, not_true_eq_false, not_false_eq_true, decide_true, decide_false, Decidable.not_not, q, q1, q2, ↓reduceIte, reduceCtorEq, Nat.reduceEqDiff, Nat.reduceAdd, Nat.reduceSub, Nat.reduceMul, Nat.reduceLT, Nat.reduceLeDiff, Int.reduceToNat])
          (try simp only [go_sem, s4_36, eW, eG, eWl, hB, hG, c1, c2, c3, wc, upd_upd, intC_set, intC_len, Nat.zero_add, Nat.le_refl, Int.toNat_natCast, ne_eq, not_true_eq_false, not_false_eq_true, decide_true, decide_false, Decidable.not_not, q, q1, q2, ↓reduceIte, reduceCtorEq, Nat.reduceEqDiff, Nat.reduceAdd, Nat.reduceSub, Nat.reduceMul, Nat.reduceLT, Nat.reduceLeDiff, Int.reduceToNat])
          refine fin _ _ g (by rw [hf', if_neg (c := gg < 0 ∨ w < 0) (by omega)]; split <;> omega) ?_
          (repeat (first | exact TmCut.nil | refine TmCut.cons rfl ?_ | refine TmCut.cons (by simp [upd, *]; done) ?_))
  · have g : c = n := by have := of_decide_eq_false g; omega
    rw [eEnd g]
    subst g
    exact hQ
end Go.Proofs.Yticflcpmlbaafaa.AL

/- Energy: the law of needs, behind its first loop. -/
set_option linter.unusedSimpArgs false
set_option linter.unusedVariables false
namespace Go.Proofs.Yticflcpmlbaafaa.AL
open Go
variable {s : SiteD} {bl : List Int}

theorem intC_castR {K : KMap} {l : List Int} {id v n : Nat} (hK : K id = some (.row v 1 (intC l))) (hn : l.length = n) : CastR K (.own id v 0 n) (.rd 1 (ints l)) := by
  subst hn
  refine .own hK (by simp [intC]) (by simp [ints]) (fun y hy => ?_) (fun i k c r hi hc hr => ?_)
  · simp only [ints, List.mem_map] at hy
    obtain ⟨x, _, rfl⟩ := hy
    rfl
  · simp only [ints, intC, Nat.zero_add, List.getD_eq_getElem?_getD, List.getElem?_map, List.getElem?_eq_getElem hi, Option.map_some, Option.getD_some] at hc hr
    cases k with
    | zero => simp at hc hr; subst hc; subst hr; exact .r
    | succ k => simp at hr
theorem ints_src {m : List Int} : (ints m).map (fun x => x.map C.r) = intC m := by simp [intC, ints]
theorem intC_one {l : List Int} {x : Int} : intC l ++ [[cV (.int .i64 x)]] = intC (l ++ [x]) := by simp [intC]

set_option maxRecDepth 20000 in
set_option maxHeartbeats 8000000 in
theorem f4_two (h0 : FloorOk s.floor) (hs : SpeedOk s) (hz : ZonesOk s) (hn : s.floor.kind.length ≤ 24) (hbl : bl.length ≤ 1000) {more delay : Int} (hd : 0 ≤ delay ∧ delay < 100) {v1 v2 : Nat} {tm : Nat → Option T} {K : KMap}
    (hw : Weak 0 ⟨upd tm 14 (tI 0), K, 4⟩ ⟨upd (tmf4 s.floor.kind.length v1 v2 bl more delay) 14 (tI 0), Kf4 s (needsL s bl delay) (fxF s bl) (tabL s.floor.kind.length fun i => needAt s bl delay i 0) v1 v2, 4⟩) :
    awp Try.prog 0 s4_61 ⟨tm, K, 4⟩ (retP [SRes.tmp 8] fun x => x = tB true) := by
  have hF := fx_is (bl := bl) h0 hs (by omega)
  have hFl := hF.len
  have hNl := needs_len (s := s) (bl := bl) (delay := delay)
  simp only [go_sem, s4_61, ↓reduceIte, reduceCtorEq, Nat.reduceEqDiff, Nat.reduceAdd, Nat.reduceSub, Nat.reduceMul, Nat.reduceLT, Nat.reduceLeDiff, Int.reduceToNat]
  refine awp_loop (fun x : Nat => ⟨upd (tmf4 s.floor.kind.length v1 v2 bl more delay) 14 (tI x), Kf4 s (needsL s bl delay) (fxF s bl) (tabL s.floor.kind.length fun i => needAt s bl delay i x) v1 v2, 4⟩)
    (fun c => s.floor.kind.length - c) (fun c => c ≤ s.floor.kind.length) 0 (Nat.zero_le _) hw ?_
  clear hw tm K
  intro x hx
  have hW : (tabL s.floor.kind.length fun i => needAt s bl delay i x).length = s.floor.kind.length := tab_len
  simp only [go_sem, s4_60, hFl, tmf4, Kf4, ↓reduceIte, reduceCtorEq, Nat.reduceEqDiff, Nat.reduceAdd, Nat.reduceSub, Nat.reduceMul, Nat.reduceLT, Nat.reduceLeDiff, Int.reduceToNat]
  refine twoQ_at (fun g => ?_) (fun g => ?_)
  · have g : x < s.floor.kind.length := by have := of_decide_eq_true g; omega
    have wx : IntKind.i64.wrap ((x : Int) + 1) = ((x + 1 : Nat) : Int) := wrap_i (by omega) (by omega)
    simp only [go_sem, s4_59, ↓reduceIte, reduceCtorEq, Nat.reduceEqDiff, Nat.reduceAdd, Nat.reduceSub, Nat.reduceMul, Nat.reduceLT, Nat.reduceLeDiff, Int.reduceToNat]
    refine Pure.callS (f9 bl x (by unfold mxl; omega)) rfl ?_
    simp only [go_sem, s4_58, s4_57, ↓reduceIte, reduceCtorEq, Nat.reduceEqDiff, Nat.reduceAdd, Nat.reduceSub, Nat.reduceMul, Nat.reduceLT, Nat.reduceLeDiff, Int.reduceToNat]
    refine twoQ_at (fun h1 => ?_) (fun h1 => ?_)
    · have h1 : (x : Int) ∈ bl := of_decide_eq_true h1
      simp only [go_sem, s4_35, wx, ↓reduceIte, reduceCtorEq, Nat.reduceEqDiff, Nat.reduceAdd, Nat.reduceSub, Nat.reduceMul, Nat.reduceLT, Nat.reduceLeDiff, Int.reduceToNat]
      refine ⟨x + 1, by omega, by omega, ?_⟩
      rw [tab_congr (f := fun i => needAt s bl delay i (x + 1)) (g := fun i => needAt s bl delay i x) fun i hi => by rw [needAt_succ, if_pos (.inl h1)]]
      exact Weak.cutTm (by repeat (first | refine TmCut.cons rfl ?_ | refine TmCut.cons (by simp [upd, *]; done) ?_ | exact TmCut.nil))
    · have h1 : ¬ (x : Int) ∈ bl := of_decide_eq_false h1
      simp only [go_sem, s4_56, enc_take, ints_src, intC_one, List.nil_append, evAppend, srcRows, rowsOf, ints_len, List.drop_zero, List.drop_nil, intC_len, Nat.zero_add, Nat.le_refl, List.length_nil, List.length_map, ↓reduceIte, reduceCtorEq, Nat.reduceEqDiff, Nat.reduceAdd, Nat.reduceSub, Nat.reduceMul, Nat.reduceLT, Nat.reduceLeDiff, Int.reduceToNat]
      have hl1 : (bl ++ [(x : Int)]).length = bl.length + 1 := by simp
      have arg : ∀ {K : KMap} {id : Nat}, K id = some (.row 2 1 (intC (bl ++ [(x : Int)]))) → liftA (CastC K) [.v (.agg (encSite s)), tC (.own id 2 0 (bl.length + 1))] [.v (.agg (encSite s)), tC (.r (.rd 1 (ints (bl ++ [(x : Int)]))))] :=
        fun h => ⟨castAgg rfl, .inr ⟨_, rfl, intC_castR h hl1⟩, trivial⟩
      have hG := fx_is (bl := bl ++ [(x : Int)]) h0 hs (by omega)
      have hGl := hG.len
      have hf : ∀ c : Nat, c < s.floor.kind.length → needAt s bl delay c (x + 1) = if c = x then needAt s bl delay c x else combN (needAt s bl delay c x) ((fxF s (bl ++ [(x : Int)])).getD c 0) := fun c hc => by
        rw [needAt_succ]
        by_cases e : c = x
        · rw [if_pos (.inr e.symm), if_pos e]
        · rw [if_neg (fun h => h.elim h1 fun h => e h.symm), if_neg e]; rfl
      refine ⟨?_, ?_, ?_, ?_, ?_, ?_, ?_, ?_, ?_⟩
      all_goals
        refine ⟨by omega, by omega, RetI.call (f7o (bl := bl ++ [(x : Int)]) h0 hz hs (by omega) (by omega)) (arg rfl) fun v6 => ?_⟩
        simp only [go_sem, s4_47, s4_48, s4_49, s4_50, s4_51, s4_52, s4_53, s4_54, s4_55, hGl, ↓reduceIte, reduceCtorEq, Nat.reduceEqDiff, Nat.reduceAdd, Nat.reduceSub, Nat.reduceMul, Nat.reduceLT, Nat.reduceLeDiff, Int.reduceToNat]
        refine f4_in (s := s) (A := needsL s bl delay) (B := fxF s bl) (G := fxF s (bl ++ [(x : Int)])) (v1 := v1) (v2 := v2) (v6 := v6) (x := x) (more := more) (delay := delay) (bl := bl) hn hFl hGl (fun i => needAt s bl delay i x) (fun i => needAt s bl delay i (x + 1)) hf ?_ ?_
        · simp only [go_sem, s4_35, wx, tmf4, Kh4, ↓reduceIte, reduceCtorEq, Nat.reduceEqDiff, Nat.reduceAdd, Nat.reduceSub, Nat.reduceMul, Nat.reduceLT, Nat.reduceLeDiff, Int.reduceToNat]
          refine ⟨x + 1, by omega, by omega, ?_⟩
          exact Weak.keep (by repeat (first | refine TmLe.cons rfl rfl ?_ | refine TmLe.cons (by simp [upd, *]) rfl ?_ | exact TmLe.nil)) (by repeat (first | refine KLe.cons (by omega) (by first | rfl | (simp [upd, *]; done) | (simp [joinK, upd, addN, ho.ren]; done)) (by first | rfl | exact IMap.bel (by assumption) | exact (NMap.im (by assumption)).bel | exact intC_bel | exact rowC_bel) ?_ | exact KLe.nil)) (by first | omega | exact Nat.le_refl _ | (dsimp only; omega)) (by first | omega | exact Nat.le_refl _ | (dsimp only; omega))
        · unfold tmf4 Kh4
          exact Weak.keep (by repeat (first | refine TmLe.cons rfl rfl ?_ | refine TmLe.cons (by simp [upd, *]) rfl ?_ | exact TmLe.nil)) (by repeat (first | refine KLe.cons (by omega) (by first | rfl | (simp [upd, *]; done) | (simp [joinK, upd, addN, ho.ren]; done)) (by first | rfl | exact IMap.bel (by assumption) | exact (NMap.im (by assumption)).bel | exact intC_bel | exact rowC_bel) ?_ | exact KLe.nil)) (by first | omega | exact Nat.le_refl _ | (dsimp only; omega)) (by first | omega | exact Nat.le_refl _ | (dsimp only; omega))
  · have g : x = s.floor.kind.length := by have := of_decide_eq_false g; omega
    subst g
    rw [← needs_tab] at *
    have wd : IntKind.i64.wrap (delay + 1) = delay + 1 := wrap_i (by omega) (by omega)
    have hl1 : (bl ++ [more]).length = bl.length + 1 := by simp
    simp only [go_sem, s4_34, enc_take, wd, ↓reduceIte, reduceCtorEq, Nat.reduceEqDiff, Nat.reduceAdd, Nat.reduceSub, Nat.reduceMul, Nat.reduceLT, Nat.reduceLeDiff, Int.reduceToNat]
    refine RetI.call (f11o (delay := delay + 1) h0 hz hs (by omega) (by omega) (by omega)) ⟨castAgg rfl, castC_ints, .inl ⟨rfl, rfl⟩, trivial⟩ fun v4 => ?_
    simp only [go_sem, s4_33, s4_32, enc_take, ints_src, intC_one, List.nil_append, evAppend, srcRows, rowsOf, ints_len, List.drop_zero, List.drop_nil, intC_len, Nat.zero_add, Nat.le_refl, List.length_nil, List.length_map, ↓reduceIte, reduceCtorEq, Nat.reduceEqDiff, Nat.reduceAdd, Nat.reduceSub, Nat.reduceMul, Nat.reduceLT, Nat.reduceLeDiff, Int.reduceToNat]
    have arg : ∀ {K : KMap} {id : Nat}, K id = some (.row 2 1 (intC (bl ++ [more]))) → liftA (CastC K) [.v (.agg (encSite s)), tC (.own id 2 0 (bl.length + 1)), tI delay] [.v (.agg (encSite s)), tC (.r (.rd 1 (ints (bl ++ [more])))), tI delay] :=
      fun h => ⟨castAgg rfl, .inr ⟨_, rfl, intC_castR h hl1⟩, .inl ⟨rfl, rfl⟩, trivial⟩
    have hn1 : ∀ {b : List Int} {dl : Int}, (needsL s b dl).length = s.floor.kind.length := needs_len
    refine ⟨?_, ?_, ?_, ?_, ?_, ?_, ?_, ?_, ?_⟩
    all_goals
      refine ⟨by omega, by omega, RetI.call (f11o (bl := bl ++ [more]) (delay := delay) h0 hz hs (by omega) (by omega) (by omega)) (arg rfl) fun v5 => ?_⟩
      simp only [go_sem, s4_23, s4_24, s4_25, s4_26, s4_27, s4_28, s4_29, s4_30, s4_31, hn1, ↓reduceIte, reduceCtorEq, Nat.reduceEqDiff, Nat.reduceAdd, Nat.reduceSub, Nat.reduceMul, Nat.reduceLT, Nat.reduceLeDiff, Int.reduceToNat]
      refine f4_fin (s := s) (A := needsL s bl delay) (B := fxF s bl) (W := needsL s bl delay) (L := needsL s bl (delay + 1)) (Z := needsL s (bl ++ [more]) delay) (v1 := v1) (v2 := v2) (v4 := v4) (v5 := v5) (more := more) (delay := delay) (bl := bl) hn hNl rfl hn1 hn1 (fun c hc => ?_) (fun c hc hm h => ?_) hFl ?_
      · rw [needs_at hc, needs_at hc]
        refine ⟨fun h => (need_later hd.1 (need_later2 hd.1 h)).2, fun h => Int.not_le.1 fun h2 => ?_⟩
        have := (need_later hd.1 h2).1
        omega
      · rw [needs_at hc] at h
        rw [needs_at hc, needs_at hc]
        exact need_worse h0 hs (by omega) hd.1 hc hm h
      · unfold tmf4 Kg4 Kf4
        exact Weak.keep (by repeat (first | refine TmLe.cons rfl rfl ?_ | refine TmLe.cons (by simp [upd, *]) rfl ?_ | exact TmLe.nil)) (by repeat (first | refine KLe.cons (by omega) (by first | rfl | (simp [upd, *]; done) | (simp [joinK, upd, addN, ho.ren]; done)) (by first | rfl | exact IMap.bel (by assumption) | exact (NMap.im (by assumption)).bel | exact intC_bel | exact rowC_bel) ?_ | exact KLe.nil)) (by first | omega | exact Nat.le_refl _ | (dsimp only; omega)) (by first | omega | exact Nat.le_refl _ | (dsimp only; omega))
end Go.Proofs.Yticflcpmlbaafaa.AL

/- Energy: the law of needs. -/
set_option linter.unusedSimpArgs false
set_option linter.unusedVariables false
namespace Go.Proofs.Yticflcpmlbaafaa.AL
open Go
variable {s : SiteD} {bl : List Int}

theorem rep_tab {n : Nat} : List.replicate n [cV (.int .i64 0)] = intC (tabL n fun _ => 0) := by simp [tabL, intC, List.map_const']

set_option maxRecDepth 20000 in
set_option maxHeartbeats 8000000 in
theorem f4 (hbl0 : bl.length ≤ mxl) (more delay : Int) : Pure Try.prog 4 [.v (.agg (encSite s)), tC (.r (.rd 1 (ints bl))), tI more, tI delay] (· = tB true) := by
  refine Pure.of_awp hm Try.func4 s4_ok (by simp [s4]) ?_
  simp (maxSteps := 2000000) +contextual (disch := (first | omega | (simp only [List.length_set]; omega))) only [go_sem, s4, ↓ s4_w.down, ↓ twoQ_bool, ↓ guardQ_boolt, ↓ guardQ_boolf, decide_eq_true_eq, decide_eq_false_iff_not, Bool.not_eq_true', Bool.not_eq_false', ne_eq, Decidable.not_not, wrap_i, below_r, below_cons, below_nil, below_vx, AL.T.v.injEq, AL.T.tup.injEq, List.cons.injEq, AL.V.x.injEq, AL.C.r.injEq, AL.R.val.injEq, Value.bool.injEq, Value.int.injEq, not_true_eq_false, not_false_eq_true, ints_len, ints_at, intC_len, intC_at, intC_src, intC_app, upd_upd, intC_set, Int.toNat_natCast, List.length_map, evAppend, srcRows, evMkslice, rowsOf, Nat.le_refl, Int.natCast_nonneg, List.drop_one, List.tail_cons, List.length_set, getD_setI, AL.T.ren, AL.V.ren, AL.C.ren, addN, ↓reduceIte, reduceCtorEq, Nat.reduceEqDiff, Nat.reduceAdd, Nat.reduceSub, Nat.reduceMul, Nat.reduceLT, Nat.reduceLeDiff, Int.reduceToNat]
  refine Pure.callS f5 rfl ?_
  simp (maxSteps := 2000000) +contextual (disch := (first | omega | (simp only [List.length_set]; omega))) only [go_sem, s4, ↓ s4_w.down, ↓ twoQ_bool, ↓ guardQ_boolt, ↓ guardQ_boolf, decide_eq_true_eq, decide_eq_false_iff_not, Bool.not_eq_true', Bool.not_eq_false', ne_eq, Decidable.not_not, wrap_i, below_r, below_cons, below_nil, below_vx, AL.T.v.injEq, AL.T.tup.injEq, List.cons.injEq, AL.V.x.injEq, AL.C.r.injEq, AL.R.val.injEq, Value.bool.injEq, Value.int.injEq, not_true_eq_false, not_false_eq_true, ints_len, ints_at, intC_len, intC_at, intC_src, intC_app, upd_upd, intC_set, Int.toNat_natCast, List.length_map, evAppend, srcRows, evMkslice, rowsOf, Nat.le_refl, Int.natCast_nonneg, List.drop_one, List.tail_cons, List.length_set, getD_setI, AL.T.ren, AL.V.ren, AL.C.ren, addN, enc_len, enc_take, ↓reduceIte, reduceCtorEq, Nat.reduceEqDiff, Nat.reduceAdd, Nat.reduceSub, Nat.reduceMul, Nat.reduceLT, Nat.reduceLeDiff, Int.reduceToNat]
  refine Pure.call (f6 (s := s) 24 (by omega)) (liftA_refl rfl) ?_
  rintro _ ⟨b, rfl, hb⟩ _
  simp (maxSteps := 2000000) +contextual (disch := (first | omega | (simp only [List.length_set]; omega))) only [go_sem, s4, ↓ s4_w.down, ↓ twoQ_bool, ↓ guardQ_boolt, ↓ guardQ_boolf, decide_eq_true_eq, decide_eq_false_iff_not, Bool.not_eq_true', Bool.not_eq_false', ne_eq, Decidable.not_not, wrap_i, below_r, below_cons, below_nil, below_vx, AL.T.v.injEq, AL.T.tup.injEq, List.cons.injEq, AL.V.x.injEq, AL.C.r.injEq, AL.R.val.injEq, Value.bool.injEq, Value.int.injEq, not_true_eq_false, not_false_eq_true, ints_len, ints_at, intC_len, intC_at, intC_src, intC_app, upd_upd, intC_set, Int.toNat_natCast, List.length_map, evAppend, srcRows, evMkslice, rowsOf, Nat.le_refl, Int.natCast_nonneg, List.drop_one, List.tail_cons, List.length_set, getD_setI, AL.T.ren, AL.V.ren, AL.C.ren, addN, enc_len, enc_take, ↓reduceIte, reduceCtorEq, Nat.reduceEqDiff, Nat.reduceAdd, Nat.reduceSub, Nat.reduceMul, Nat.reduceLT, Nat.reduceLeDiff, Int.reduceToNat]
  (repeat' (with_reducible first | refine And.intro ?_ ?_ | intro _)) <;> try (first | omega | rfl)
  rename_i hb1 hl10 hd0 hd1
  have hbl : bl.length ≤ 1000000 := by omega
  have hd : 0 ≤ delay ∧ delay < 100 := by omega
  have hbl3 : bl.length ≤ 1000 := by omega
  clear hl10 hd0 hd1 hbl0
  obtain ⟨hfew, hok⟩ := hb hb1
  have h0 := hok.floor
  have hs := hok.spd
  have hz := hok.zok (hfew.wide (by omega))
  have hn : s.floor.kind.length ≤ 24 := by have := hfew.kind; omega
  have hF := fx_is (bl := bl) h0 hs (by omega)
  have hFl := hF.len
  have hNl := needs_len (s := s) (bl := bl) (delay := delay)
  refine RetI.call (f11o h0 hz hs (by omega) hbl (by omega)) ⟨castAgg rfl, castC_ints, .inl ⟨rfl, rfl⟩, trivial⟩ fun v1 => ?_
  simp (maxSteps := 2000000) +contextual (disch := (first | omega | (simp only [List.length_set]; omega))) only [go_sem, s4, ↓ s4_w.down, ↓ twoQ_bool, ↓ guardQ_boolt, ↓ guardQ_boolf, decide_eq_true_eq, decide_eq_false_iff_not, Bool.not_eq_true', Bool.not_eq_false', ne_eq, Decidable.not_not, wrap_i, below_r, below_cons, below_nil, below_vx, AL.T.v.injEq, AL.T.tup.injEq, List.cons.injEq, AL.V.x.injEq, AL.C.r.injEq, AL.R.val.injEq, Value.bool.injEq, Value.int.injEq, not_true_eq_false, not_false_eq_true, ints_len, ints_at, intC_len, intC_at, intC_src, intC_app, upd_upd, intC_set, Int.toNat_natCast, List.length_map, evAppend, srcRows, evMkslice, rowsOf, Nat.le_refl, Int.natCast_nonneg, List.drop_one, List.tail_cons, List.length_set, getD_setI, AL.T.ren, AL.V.ren, AL.C.ren, addN, enc_len, enc_take, ↓reduceIte, reduceCtorEq, Nat.reduceEqDiff, Nat.reduceAdd, Nat.reduceSub, Nat.reduceMul, Nat.reduceLT, Nat.reduceLeDiff, Int.reduceToNat]
  refine RetI.call (f7o h0 hz hs (by omega) hbl) ⟨castAgg rfl, castC_ints, trivial⟩ fun v2 => ?_
  simp (maxSteps := 2000000) +contextual (disch := (first | omega | (simp only [List.length_set]; omega))) only [go_sem, s4, ↓ s4_w.down, ↓ twoQ_bool, ↓ guardQ_boolt, ↓ guardQ_boolf, decide_eq_true_eq, decide_eq_false_iff_not, Bool.not_eq_true', Bool.not_eq_false', ne_eq, Decidable.not_not, wrap_i, below_r, below_cons, below_nil, below_vx, AL.T.v.injEq, AL.T.tup.injEq, List.cons.injEq, AL.V.x.injEq, AL.C.r.injEq, AL.R.val.injEq, Value.bool.injEq, Value.int.injEq, not_true_eq_false, not_false_eq_true, ints_len, ints_at, intC_len, intC_at, intC_src, intC_app, upd_upd, intC_set, Int.toNat_natCast, List.length_map, evAppend, srcRows, evMkslice, rowsOf, Nat.le_refl, Int.natCast_nonneg, List.drop_one, List.tail_cons, List.length_set, getD_setI, AL.T.ren, AL.V.ren, AL.C.ren, addN, hFl, hNl, bne_self_eq_false, rep_tab, ↓reduceIte, reduceCtorEq, Nat.reduceEqDiff, Nat.reduceAdd, Nat.reduceSub, Nat.reduceMul, Nat.reduceLT, Nat.reduceLeDiff, Int.reduceToNat]
  refine ⟨by omega, ?_⟩
  refine awp_loop (fun c : Nat => ⟨upd (tmf4 s.floor.kind.length v1 v2 bl more delay) 13 (tI c), Kf4 s (needsL s bl delay) (fxF s bl) (tabL s.floor.kind.length fun i => if i < c then needAt s bl delay i 0 else 0) v1 v2, 4⟩)
    (fun c => s.floor.kind.length - c) (fun c => c ≤ s.floor.kind.length) 0 (Nat.zero_le _) ?_ ?_
  · simp only [Nat.not_lt_zero, if_false]
    unfold tmf4 Kf4
    exact Weak.cutTm (by repeat (first | refine TmCut.cons rfl ?_ | refine TmCut.cons (by simp [upd, *]; done) ?_ | exact TmCut.nil))
  intro c hc
  have wc : c < s.floor.kind.length → IntKind.i64.wrap ((c : Int) + 1) = ((c + 1 : Nat) : Int) := fun _ => wrap_i (by omega) (by omega)
  have hW : (tabL s.floor.kind.length fun i => if i < c then needAt s bl delay i 0 else 0).length = s.floor.kind.length := tab_len
  have hn0 : needAt s bl delay c 0 = if 0 ≤ (fxF s bl).getD c 0 then (fxF s bl).getD c 0 + delay * 3 else (fxF s bl).getD c 0 := rfl
  have hFc : c < s.floor.kind.length → -1 ≤ (fxF s bl).getD c 0 ∧ (fxF s bl).getD c 0 ≤ 24000 := fun h => hF.lo c h
  have fin : ∀ (v : Int) tm', c < s.floor.kind.length → v = needAt s bl delay c 0 → TmCut (upd (tmf4 s.floor.kind.length v1 v2 bl more delay) 13 (tI (c + 1 : Nat))) tm' →
      ∃ y, y ≤ s.floor.kind.length ∧ s.floor.kind.length - y < s.floor.kind.length - c ∧ Weak 0 ⟨tm', Kf4 s (needsL s bl delay) (fxF s bl) ((tabL s.floor.kind.length fun i => if i < c then needAt s bl delay i 0 else 0).set c v) v1 v2, 4⟩
        ⟨upd (tmf4 s.floor.kind.length v1 v2 bl more delay) 13 (tI y), Kf4 s (needsL s bl delay) (fxF s bl) (tabL s.floor.kind.length fun i => if i < y then needAt s bl delay i 0 else 0) v1 v2, 4⟩ := fun v tm' hc hv ht => by
    refine ⟨c + 1, by omega, by omega, ?_⟩
    rw [tab_set, tab_congr (g := fun i => if i < c + 1 then needAt s bl delay i 0 else 0)]
    · exact Weak.cutTm ht
    · intro i hi
      by_cases e : i = c
      · subst e; rw [if_pos rfl, if_pos (by omega), hv]
      · rw [if_neg e]
        by_cases e2 : i < c
        · rw [if_pos e2, if_pos (by omega)]
        · rw [if_neg e2, if_neg (by omega)]
  have eEnd : c = s.floor.kind.length → (tabL s.floor.kind.length fun i => if i < c then needAt s bl delay i 0 else 0) = tabL s.floor.kind.length fun i => needAt s bl delay i 0 := fun h => tab_congr fun i hi => by rw [if_pos (by omega)]
  unfold tmf4 Kf4 at *
  generalize (tabL s.floor.kind.length fun i => if i < c then needAt s bl delay i 0 else 0) = Wc at *
  simp only [go_sem, s4_66, hFl, ↓reduceIte, reduceCtorEq, Nat.reduceEqDiff, Nat.reduceAdd, Nat.reduceSub, Nat.reduceMul, Nat.reduceLT, Nat.reduceLeDiff, Int.reduceToNat]
  refine twoQ_at (fun g => ?_) (fun g => ?_)
  · have g : c < s.floor.kind.length := by have := of_decide_eq_true g; omega
    have hFc := hFc g
    have wc := wc g
    have eF : (intC (fxF s bl)).getD c [] = [cV (.int .i64 ((fxF s bl).getD c 0))] := intC_at (by omega)
    generalize hfe : (fxF s bl).getD c 0 = fc at *
    have eW : (intC Wc).getD c [] = [cV (.int .i64 (Wc.getD c 0))] := intC_at (by omega)
    have eT : (intC (Wc.set c fc)).getD c [] = [cV (.int .i64 fc)] := by rw [intC_at (by rw [List.length_set]; omega), getD_setI (by omega)]
    have eS : ((intC Wc).set c [cV (.int .i64 fc)]).length = s.floor.kind.length := by rw [List.length_set, intC_len]; exact hW
    have c1 : (0 ≤ (c : Int)) = True := eq_true (by omega)
    have c2 : ((c : Int) < (s.floor.kind.length : Int)) = True := eq_true (by omega)
    have c3 : (c < s.floor.kind.length) = True := eq_true g
    have w1 : IntKind.i64.wrap (delay * 3) = delay * 3 := wrap_i (by omega) (by omega)
    have w2 : IntKind.i64.wrap (fc + delay * 3) = fc + delay * 3 := wrap_i (by omega) (by omega)
    by_cases h1 : 0 ≤ fc
    · have q := eq_true h1
      simp only [go_sem, s4_65, s4_64, eF, eW, eT, hW, hFl, c1, c2, c3, wc, q, upd_upd, intC_set, intC_len, Nat.zero_add, Nat.le_refl, Int.toNat_natCast, decide_true, List.length_set, ↓reduceIte, reduceCtorEq, Nat.reduceEqDiff, Nat.reduceAdd, Nat.reduceSub, Nat.reduceMul, Nat.reduceLT, Nat.reduceLeDiff, Int.reduceToNat]
      refine Pure.callS f12 rfl ?_
      simp only [go_sem, s4_63, s4_62, eF, eW, eT, hW, hFl, c1, c2, c3, wc, w1, w2, upd_upd, intC_set, intC_len, Nat.zero_add, Nat.le_refl, Int.toNat_natCast, decide_true, List.length_set, List.set_set, ↓reduceIte, reduceCtorEq, Nat.reduceEqDiff, Nat.reduceAdd, Nat.reduceSub, Nat.reduceMul, Nat.reduceLT, Nat.reduceLeDiff, Int.reduceToNat]
      refine fin _ _ g (by rw [hn0, if_pos h1]) ?_
      (repeat (first | exact TmCut.nil | refine TmCut.cons rfl ?_ | refine TmCut.cons (by simp [upd, *]; done) ?_))
    · have q := eq_false h1
      simp only [go_sem, s4_65, s4_62, eF, eW, eT, hW, hFl, c1, c2, c3, wc, q, upd_upd, intC_set, intC_len, Nat.zero_add, Nat.le_refl, Int.toNat_natCast, decide_false, List.length_set, ↓reduceIte, reduceCtorEq, Nat.reduceEqDiff, Nat.reduceAdd, Nat.reduceSub, Nat.reduceMul, Nat.reduceLT, Nat.reduceLeDiff, Int.reduceToNat]
      refine fin _ _ g (by rw [hn0, if_neg h1]) ?_
      (repeat (first | exact TmCut.nil | refine TmCut.cons rfl ?_ | refine TmCut.cons (by simp [upd, *]; done) ?_))
  have g : c = s.floor.kind.length := by have := of_decide_eq_false g; omega
  rw [eEnd g]
  clear hn0 fin eEnd hW Wc wc hFc
  subst g
  refine f4_two (more := more) (v1 := v1) (v2 := v2) h0 hs hz hn hbl3 hd ?_
  unfold tmf4 Kf4
  exact Weak.cutTm (by repeat (first | refine TmCut.cons rfl ?_ | refine TmCut.cons (by simp [upd, *]; done) ?_ | exact TmCut.nil))
end Go.Proofs.Yticflcpmlbaafaa.AL

/- THE LAW ReachNeeds HOLDS: whatever site, list of blocked cells, cell and delay it is called with, it returns true, and what was there before the call is as it was. No condition. -/
namespace Go.Proofs.Yticflcpmlbaafaa.reachNeeds
open Go.ChangeShapes Go.WideShapes Go.ChangeAt Go.RowKit Go.Proofs.Yticflcpmlbaafaa.AL
set_option linter.unusedVariables false

theorem own : ownKnob Try.prog.godebug = none := by kernel_rfl
theorem laidOut : laidOutB Try.prog = true := by kernel_rfl

set_option maxRecDepth 100000 in
theorem lifted (os : Os) (started : os.Started) (H : Type) (enc : TypeId × Value → H) :
    ReturnsInHanded {} Try.checked os 4 .any (Rows.reachNeedsSpec.pre6 enc Try.prog Try.f4 Rows.reachNeedsRow.domain false) (Rows.reachNeedsSpec.post enc Try.prog Try.f4 false true false false) := by
  refine returnsInHanded_of_change_sized (C := Try.checked) own started (by kernel_rfl) Try.func4
    (ChangeSpec.witness6 (enc := enc) (C := Try.checked) false ⟨#[], #[.agg #[.int .i64 0, .int .i64 0, .int .i64 0, nilS, nilS, nilS, nilS, nilS, nilS], nilS, .int .i64 0, .int .i64 0], []⟩ 8 (by kernel_rfl) (by kernel_rfl) (by kernel_rfl) (by kernel_rfl)) ?_
  intro W base args ds gs before hval0 hW hcnd hsz0 _
  have hval : ∀ (j : Nat) t v, Try.f4.params[j]? = some t → args[j]? = some v → Value.okWide Try.prog W .any base t v := hval0
  have hsz : (DataW.weightsEach Try.prog (Try.f4.params.toList ++ Rows.reachNeedsSpec.plain.varTypes Try.prog) (ds ++ gs)).all (· ≤ reachBytes) = true := hsz0
  have hW' := hW
  obtain ⟨p, q, hA0, hV, rfl, hfz, hnd⟩ := hW
  have hA : DataW.TrodAll enc Try.prog W 0 (fun _ => true) true Try.f4.params.toList args.toList ds p := hA0
  rw [Try.params4] at hA hval hsz
  obtain ⟨v0, vs0, d0, ds0, p0, q0, hargs, rfl, rfl, h0, r0⟩ := trodAll_cons hA
  obtain ⟨v1, vs1, d1, ds1, p1, q1, rfl, rfl, rfl, h1, r1⟩ := trodAll_cons r0
  obtain ⟨v2, vs2, d2, ds2, p2, q2, rfl, rfl, rfl, h2, r2⟩ := trodAll_cons r1
  obtain ⟨v3, vs3, d3, ds3, p3, q3, rfl, rfl, rfl, h3, r3⟩ := trodAll_cons r2
  obtain ⟨rfl, rfl, rfl⟩ := trodAll_nil r3
  obtain rfl : args = #[v0, v1, v2, v3] := by cases args; simp_all
  obtain ⟨rfl, rfl⟩ := trodVars_none hV
  obtain ⟨x0, e0, w0⟩ := site_read (hval 0 30 v0 rfl rfl) h0 (each_weights hsz (j := 0) rfl rfl)
  have lt0 : ∀ x ∈ p0, x.block < W.heap.size := by obtain ⟨m, hm⟩ := h0; exact DataW.trod_lt m _ _ _ hm
  obtain ⟨x1, e1, w1⟩ := ints_read (hval 1 22 v1 rfl rfl) h1 (each_weights hsz (j := 1) rfl rfl)
  have lt1 : ∀ x ∈ p1, x.block < W.heap.size := by obtain ⟨m, hm⟩ := h1; exact DataW.trod_lt m _ _ _ hm
  obtain ⟨x2, rfl, rfl, rfl, w2⟩ := open_int Try.underlying3 (hval 2 3 v2 rfl rfl) h2
  obtain ⟨x3, rfl, rfl, rfl, w3⟩ := open_int Try.underlying3 (hval 3 3 v3 rfl rfl) h3
  clear hA0 hval0 hsz0
  refine (row_of (f4 w1 x2 x3) (argsRep_cons e0 (argsRep_cons e1 (argsRep_cons (repT_num w2) (argsRep_cons (repT_num w3) argsRep_nil))))).mono fun e W' ⟨he, bel⟩ => ?_
  subst he
  exact ⟨_, rfl, _, _, _, [], _, [], hW', trodAll_mk1 (shut_bool Try.underlying4 _), (trodAll_cons_mk (Below.trod laidOut (by kernel_rfl) (of_decide_eq_true (by kernel_rfl)) h0 bel lt0) (trodAll_cons_mk (Below.trod laidOut (by kernel_rfl) (of_decide_eq_true (by kernel_rfl)) h1 bel lt1) (trodAll_cons_mk (shut_int Try.underlying3 w2) (trodAll_cons_mk (shut_int Try.underlying3 w3) trodAll_mk0)))), rfl, bel.frame _, fun h => by cases h⟩

theorem over : Rows.reachNeedsRow.holds Try.pinned (OpenSpec.ofChange Rows.reachNeedsSpec) :=
  OpenClaim.holds_of_wide 4 Try.f4 rfl rfl rfl rfl rfl rfl rfl ⟨rfl, rfl, rfl, rfl, rfl⟩ rfl rfl rfl rfl rfl (by kernel_rfl) Try.func4 (by kernel_rfl)
    (of_decide_eq_true (by kernel_rfl)) (by unfold Func.isWrapper; first | (rw [if_pos (by decide +kernel)]; kernel_rfl) | (rw [if_neg (by decide +kernel)]; exact ⟨rfl, rfl⟩))
    (fun os started H enc _ => lifted os started H enc)
end Go.Proofs.Yticflcpmlbaafaa.reachNeeds

namespace Go.Proofs.Yticflcpmlbaafaa
theorem reachNeeds_holds : Rows.ReachNeedsSaid := reachNeeds.over
end Go.Proofs.Yticflcpmlbaafaa
#print axioms Go.Proofs.Yticflcpmlbaafaa.reachNeeds_holds
