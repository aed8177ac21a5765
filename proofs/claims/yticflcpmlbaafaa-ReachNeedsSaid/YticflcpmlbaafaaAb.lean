/- Walks over abstract memory: a part of the proof; it states no law of its own. -/
import Derived.Test.YticflcpmlbaafaaAa
import Derived.Orders
import Derived.OrdersIn
import Derived.RangeFuncWrites
import Derived.RangeFuncLeaves
import Derived.Laws.IdiomRangeMap

/- AL: append. -/
set_option linter.unusedSimpArgs false
set_option linter.unusedVariables false
namespace Go.Proofs.Yticflcpmlbaafaa.AL
open Go
section
variable {P : Program} {w0 : World} {F S : Nat → Prop} {K : KMap} {N : Nat} {μ : Nat → Loc} {w : World}

/-- A row that is nil. -/
theorem HRel.nilRow (h : HRel w0 F S K N μ w) (sz : Nat) : HRel w0 F S (upd K N (.row 0 sz [])) (N + 1) (fun id => if id = N then ⟨0, none, 0, 0, sz⟩ else μ id) w := by
  refine h.step (t := N) (fun _ => False) rfl rfl rfl (Nat.le_refl _) (fun b hb _ => rfl) (fun b hb => hb.elim) (fun _ _ _ _ _ _ hb => hb)
    (Nat.le_succ N) (Nat.lt_succ_self N) (fun id hid => by simp [hid]) later_new (fun hsame => ?_) (fun b hb => ?_) (fun id o b hid hk hb e => ?_)
  · exact ⟨by simp, by simp, by simp, by simp, by simp, by simp⟩
  · simp at hb
  · simp at e

theorem run_append_none {t ty e : TypeId} {i : TypeInfo} (ht : P.underlying t = some (.slice e)) (hi : P.info? e = some i) (A A' : Option Addr) {len cap c : Nat} (hle : len ≤ cap) :
    (Builtin.append_ #[t, t] ty #[.slice A len cap, .slice A' 0 c]).run P w = .ok (.slice A len cap) w := by
  cases A <;> cases A' <;> simp [Builtin.append_, run_under ht, run_size hi, Builtin.lenOf, hle, Builtin.firstCells, loadCells, loadCellsFrom, storeCells]

theorem run_append_in {t ty e : TypeId} {i : TypeInfo} (ht : P.underlying t = some (.slice e)) (hi : P.info? e = some i) {g o len cap : Nat} {cur : Array Value} {ty' : TypeId} (hg : w.heap[g]? = some (.cells cur ty' (0, 0)))
    (a : Addr) {m c : Nat} {news : List Value} (hl : news.length = m * i.size) (hnews : ∀ j u, news[j]? = some u → w.cell? (a.add j) = some u) (h1 : ∀ u ∈ news, u.oneCell' = true)
    (hroom : len + m ≤ cap) (hfit : o + len * i.size + news.length ≤ cur.size) :
    (Builtin.append_ #[t, t] ty #[.slice (some ⟨g, o, none⟩) len cap, .slice (some a) m c]).run P w =
      .ok (.slice (some ⟨g, o, none⟩) (len + m) cap) (w.setRow g (cur.toList.take (o + len * i.size) ++ news ++ cur.toList.drop (o + len * i.size + news.length)).toArray) := by
  have hf := run_firstCells_some (P := P) w i.size m a m c news hl hnews
  have hst := run_storeCells_at P g (o + len * i.size) ty' news 0 cur w hg (by simpa using hfit) h1
  simp only [Nat.add_zero] at hst
  have hadd : (⟨g, o, none⟩ : Addr).add (len * i.size) = ⟨g, o + len * i.size, none⟩ := by unfold Addr.add; split <;> simp_all
  simp [Builtin.append_, run_under ht, run_size hi, Builtin.lenOf, hroom, hf, hadd, hst]

theorem zero_info {e : TypeId} {ti : TypeInfo} {z : List Value} (hi : P.info? e = some ti) (hz : zeroOf P e = some z) : ∃ zv, ti.zero = some zv ∧ zv.cells.toList = z := by
  unfold zeroOf at hz
  split at hz
  · rename_i v d hv hd
    split at hz
    · cases hz
      simp [hi] at hv
      exact ⟨v, hv, rfl⟩
    · cases hz
  · cases hz

/-- A new block that holds old and new cells. -/
theorem grown_cells {xs ys : List (List C)} {sz newCap : Nat} {olds news : List Value} {rest : Array Value} (hlo : olds.length = xs.length * sz) (hln : news.length = ys.length * sz) (hr : rest.size = (newCap - (xs.length + ys.length)) * sz) (hcap : xs.length + ys.length ≤ newCap)
    (hxl : ∀ x, x ∈ xs → x.length = sz) (hyl : ∀ x, x ∈ ys → x.length = sz)
    (hx : ∀ i x k c, xs[i]? = some x → x[k]? = some c → ∃ u, olds[i * sz + k]? = some u ∧ RepC S N μ w c u) (hy : ∀ i x k c, ys[i]? = some x → x[k]? = some c → ∃ u, news[i * sz + k]? = some u ∧ RepC S N μ w c u) :
    newCap * sz ≤ (olds.toArray ++ news.toArray ++ rest).size ∧ ∀ i x k c, (xs ++ ys)[i]? = some x → x[k]? = some c → ∃ u, (olds.toArray ++ news.toArray ++ rest)[i * sz + k]? = some u ∧ RepC S N μ w c u := by
  refine ⟨?_, fun i x k c hi hk => ?_⟩
  · simp only [Array.size_append, List.size_toArray, hlo, hln, hr, ← Nat.add_mul]
    exact Nat.mul_le_mul_right _ (by omega)
  · have hk' : k < sz := by
      have hm := List.mem_of_getElem? hi
      rcases List.mem_append.1 hm with hm | hm
      · rw [← hxl x hm]; exact (List.getElem?_eq_some_iff.1 hk).1
      · rw [← hyl x hm]; exact (List.getElem?_eq_some_iff.1 hk).1
    by_cases hlt : i < xs.length
    · rw [List.getElem?_append_left hlt] at hi
      obtain ⟨u, hu, hr'⟩ := hx i x k c hi hk
      have h1 : i * sz + k < olds.length := (List.getElem?_eq_some_iff.1 hu).1
      refine ⟨u, ?_, hr'⟩
      rw [Array.append_assoc, Array.getElem?_append_left (by simpa using h1)]
      simpa using hu
    · rw [List.getElem?_append_right (by omega)] at hi
      obtain ⟨u, hu, hr'⟩ := hy _ x k c hi hk
      have h1 : (i - xs.length) * sz + k < news.length := (List.getElem?_eq_some_iff.1 hu).1
      have h2 : i * sz + k = olds.length + ((i - xs.length) * sz + k) := by
        rw [hlo, ← Nat.add_assoc, ← Nat.add_mul]
        congr 2
        omega
      refine ⟨u, ?_, hr'⟩
      rw [h2, Array.append_assoc, Array.getElem?_append_right (by simp), Array.getElem?_append_left (by simp; omega)]
      simpa using hu

theorem zero_rest {zv : Value} {z : List Value} (h : zv.cells.toList = z) (n : Nat) : (Builtin.zeroCells zv.cells n).size = n * z.length := by
  rw [size_zeroCells, ← h]; simp

theorem append_out (h : HRel w0 F S K N μ w) {t ty e : TypeId} {ti : TypeInfo} {z : List Value} (ht : P.underlying t = some (.slice e)) (hi : P.info? e = some ti) (hz : zeroOf P e = some z) (hzs : z.length = ti.size) (hpos : 0 < ti.size) (hbp : 0 < ti.bytes)
    {a b : T} {v u : Value} (ha : RepT S N μ w a v) (hb : RepT S N μ w b u) {res : Res} (he : evAppend ti.size ti.bytes K N [a, b] = some res) (hp : res.pre) :
    Out P w0 F S N μ w (Builtin.append_ #[t, t] ty #[v, u]) res := by
  obtain ⟨zv, hzi, hzc⟩ := zero_info hi hz
  have hm63 : ∀ n : Nat, n ≤ 140737488355328 → n ≤ maxLen := fun n hn => by unfold maxLen; omega
  have alloc : ∀ (cells : Array Value), (w.drew.alloc (.cells cells e)).heap = w.heap.push (.cells cells e (0, 0)) := fun cells => rfl
  unfold evAppend at he
  split at he
  · rename_i y hargs
    simp only [List.cons.injEq, and_true] at hargs
    obtain ⟨rfl, rfl⟩ := hargs
    obtain ⟨rfl, _⟩ := rep_val ha
    split at he
    · rename_i sz ys p hsrc
      cases he
      obtain ⟨hp1, hsz, hby, hcap⟩ := hp
      subst hsz
      obtain ⟨A, c, rfl, hyl, news, hn, hA, h1, hc⟩ := src_spec h hb hsrc hp1
      by_cases hne : ys = []
      · subst hne
        refine ⟨_, _, _, run_append_none ht hi none A (Nat.le_refl 0), h.nilRow ti.size, Nat.le_succ N, later_new, Nat.lt_succ_self N, by simp, none, 0, rfl, fun _ => ⟨Nat.le_refl 0, by simp, fun h => absurd rfl h⟩⟩
      · obtain ⟨ad, rfl, hcell⟩ := hA hne
        have h0 : 0 < ys.length := List.length_pos_iff.2 hne
        have hrun := run_append_nil (P := P) w t ty e ti zv ht hi hzi ad ys.length c news hn hcell h0 (by omega) (by omega)
        have hge := grownCap_ge w ys.length 0 e
        have hgm := grownCap_le_maxLen w ys.length 0 e (hm63 _ hcap)
        obtain ⟨g1, g2⟩ := grown_cells (S := S) (N := N) (μ := μ) (w := w) (xs := []) (ys := ys) (sz := ti.size) (newCap := grownCap w ys.length 0 e) (olds := []) (news := news) (rest := Builtin.zeroCells zv.cells (grownCap w ys.length 0 e - ys.length))
          (by simp) hn (by rw [zero_rest hzc, hzs]; simp) (by simpa using hge) (by simp) hyl (fun i x k c hi => by simp at hi) hc
        refine ⟨_, _, _, hrun, h.allocRow (w' := w.drew.alloc (.cells (news.toArray ++ Builtin.zeroCells zv.cells (grownCap w ys.length 0 e - ys.length)) e)) (ty := e) (cells := news.toArray ++ Builtin.zeroCells zv.cells (grownCap w ys.length 0 e - ys.length)) (room := grownCap w ys.length 0 e) (alloc _) rfl rfl rfl hyl hge hgm (by simpa using g1) (by simpa using g2), Nat.le_succ N, later_new, ?_⟩
        exact ⟨Nat.lt_succ_self N, by simp, _, _, rfl, fun _ => ⟨hge, by simp, fun _ => ⟨w.heap.size, by simp, by simp [Loc.at]⟩⟩⟩
    · split at he
      · rename_i hnil
        cases he
        obtain ⟨rfl, _⟩ := rep_val hb
        exact ⟨_, _, _, run_append_none ht hi none none (Nat.le_refl 0), h.nilRow ti.size, Nat.le_succ N, later_new, Nat.lt_succ_self N, by simp, none, 0, rfl, fun _ => ⟨Nat.le_refl 0, by simp, fun h => absurd rfl h⟩⟩
      · cases he
  · rename_i id ver off len y hargs
    simp only [List.cons.injEq, and_true] at hargs
    obtain ⟨rfl, rfl⟩ := hargs
    split at he
    · rename_i ver' sz xs sz' ys p hk hsrc
      cases he
      obtain ⟨hp1, hsz, hsz', rfl, hfill, hby, hcap⟩ := hp
      subst hsz
      subst hsz'
      obtain ⟨hv, hsl, hid⟩ := h.ver hk
      obtain ⟨A, c, rfl, hyl, news, hn, hA, h1, hc⟩ := src_spec h hb hsrc hp1
      obtain ⟨_, hle, A0, cap, rfl, hcur⟩ := ha
      obtain ⟨hlc, hroom, hA0⟩ := hcur hv.symm
      obtain ⟨_, o1, o2, o3, o4, o5, o6⟩ := h.obj id _ hk
      have hdl : (xs.drop off).length = len := by simp; omega
      have hdlen : ∀ x, x ∈ xs.drop off → x.length = ti.size := fun x hx => o5 x (List.mem_of_mem_drop hx)
      have hall : ∀ y, y ∈ xs.drop off ++ ys → y.length = ti.size := fun y hy => by rcases List.mem_append.1 hy with h' | h'; exact hdlen y h'; exact hyl y h'
      have hL : ∀ loc : Loc, loc.ver = ver + 1 → Later N μ (fun j => if j = id then loc else μ j) := fun loc hloc j hj => by
        by_cases e : j = id
        · subst e; exact .inr (by simp [hloc, hv])
        · exact .inl (by simp [e])
      by_cases hne : ys = []
      · -- nothing is appended
        subst hne
        simp only [List.append_nil, List.length_nil, Nat.add_zero] at *
        have hrun := run_append_none (w := w) (ty := ty) ht hi A0 A (c := c) hlc
        refine ⟨_, w, fun j => if j = id then { μ id with ver := ver + 1, org := (μ id).org + off * ti.size, room := (μ id).room - off } else μ j, hrun, ?_, Nat.le_refl N, hL _ rfl, hid, by simp, A0, cap, rfl, fun _ => ⟨hlc, by simp; omega, fun hne => ?_⟩⟩
        · cases hbk : (μ id).blk with
          | none =>
            rw [hbk] at o6
            dsimp only at o6
            refine h.step (t := id) (fun _ => False) rfl rfl rfl (Nat.le_refl _) (fun b hb _ => rfl) (fun b hb => hb.elim) (fun _ _ _ _ _ _ hb => hb) (Nat.le_refl N) hid (fun j hj => by simp [hj]) (hL _ rfl) (fun hsame => ?_) (fun b hb => by simp [hbk] at hb) (fun j o b hj hkj hbj e => by simp [hbk] at e)
            refine ⟨by simp, by simp [o2], by simp; omega, by simp; omega, hdlen, ?_⟩
            simp only [if_true, hbk]
            omega
          | some b =>
            rw [hbk] at o6
            obtain ⟨vals, ty', hh, hfit, hcells⟩ := o6
            refine h.setRow hk hbk hh rfl rfl rfl rfl (fun _ _ => rfl) (loc := { μ id with ver := ver + 1, org := (μ id).org + off * ti.size, room := (μ id).room - off }) rfl hbk o2 (by simp; omega) (by simp; omega) hdlen ?_ (.inr (by omega)) (fun i x k c hi hk' => ?_)
            · dsimp only
              have : off * ti.size + ((μ id).room - off) * ti.size = (μ id).room * ti.size := by rw [← Nat.add_mul]; congr 1; omega
              omega
            · rw [List.getElem?_drop] at hi
              obtain ⟨u, hu, hr⟩ := hcells _ x k c hi hk'
              refine ⟨u, ?_, hr⟩
              rw [Nat.add_mul] at hu
              simpa [Nat.add_assoc] using hu
        · obtain ⟨b, hb, rfl⟩ := hA0 hne
          exact ⟨b, by simpa using hb, by simp [Loc.at, o2]⟩
      · have h0 : 0 < ys.length := List.length_pos_iff.2 hne
        obtain ⟨ad, rfl, hcell⟩ := hA hne
        by_cases hin : len + ys.length ≤ cap
        · -- there is room
          obtain ⟨b, hbk, rfl⟩ := hA0 (by omega)
          rw [hbk] at o6
          obtain ⟨vals, ty', hh, hfit, hcells⟩ := o6
          have e1 : (μ id).at b off 0 = ⟨b, (μ id).org + off * ti.size, none⟩ := by simp [Loc.at, o2]
          have hle1 : (off + len + ys.length) * ti.size ≤ (μ id).room * ti.size := Nat.mul_le_mul_right _ (by omega)
          rw [Nat.add_mul, Nat.add_mul] at hle1
          have hfit' : (μ id).org + off * ti.size + len * ti.size + news.length ≤ vals.size := by omega
          have hrun := run_append_in (P := P) (w := w) (ty := ty) ht hi (len := len) (cap := cap) hh ad (c := c) hn hcell h1 hin hfit'
          rw [← e1] at hrun
          refine ⟨_, _, fun j => if j = id then { μ id with ver := ver + 1, org := (μ id).org + off * ti.size, room := (μ id).room - off } else μ j, hrun,
            h.setRow hk hbk (setRow_heap w b vals _ ty' (0, 0) hh) rfl rfl rfl (by simp) (fun k hne => setRow_other w b k _ hne) (loc := { μ id with ver := ver + 1, org := (μ id).org + off * ti.size, room := (μ id).room - off }) rfl hbk o2 (by simp; omega) (by simp; omega) hall ?_ (.inr (by omega)) (fun i x k c hi hk' => ?_), Nat.le_refl N, hL _ rfl, hid, by simp, _, cap, rfl, fun _ => ⟨hin, by simp; omega, fun _ => ⟨b, by simpa using hbk, by simp [Loc.at, o2]⟩⟩⟩
          · dsimp only
            have : off * ti.size + ((μ id).room - off) * ti.size = (μ id).room * ti.size := by rw [← Nat.add_mul]; congr 1; omega
            simp only [List.size_toArray, List.length_append, List.length_take, List.length_drop, Array.length_toList]
            omega
          · dsimp only
            have hput : ∀ q, (vals.toList.take ((μ id).org + off * ti.size + len * ti.size) ++ news ++ vals.toList.drop ((μ id).org + off * ti.size + len * ti.size + news.length)).toArray[q]? = if (μ id).org + off * ti.size + len * ti.size ≤ q ∧ q < (μ id).org + off * ti.size + len * ti.size + news.length then news[q - ((μ id).org + off * ti.size + len * ti.size)]? else vals[q]? := by
              intro q
              have := splice_get (f := (μ id).org + off * ti.size + len * ti.size) (cs := news) (x := vals.toList) (by simpa using hfit') q
              simpa [splice] using this
            rw [hput]
            have hk2 : k < ti.size := by rw [← hall x (List.mem_of_getElem? hi)]; exact (List.getElem?_eq_some_iff.1 hk').1
            by_cases hlt : i < len
            · rw [List.getElem?_append_left (by omega), List.getElem?_drop] at hi
              have h2 : (i + 1) * ti.size ≤ len * ti.size := Nat.mul_le_mul_right _ hlt
              rw [Nat.add_mul] at h2
              rw [if_neg (by omega)]
              obtain ⟨u, hu, hr⟩ := hcells _ x k c hi hk'
              refine ⟨u, ?_, hr⟩
              rw [Nat.add_mul] at hu
              simpa [Nat.add_assoc] using hu
            · rw [List.getElem?_append_right (by omega), hdl] at hi
              have h3 : i - len < ys.length := (List.getElem?_eq_some_iff.1 hi).1
              have h4 : (i - len + 1) * ti.size ≤ ys.length * ti.size := Nat.mul_le_mul_right _ h3
              rw [Nat.add_mul] at h4
              have h5 : i * ti.size = len * ti.size + (i - len) * ti.size := by rw [← Nat.add_mul]; congr 1; omega
              rw [if_pos (by omega)]
              obtain ⟨u, hu, hr⟩ := hc _ x k c hi hk'
              refine ⟨u, ?_, hr⟩
              rw [show (μ id).org + off * ti.size + i * ti.size + k - ((μ id).org + off * ti.size + len * ti.size) = (i - len) * ti.size + k by omega]
              exact hu
        · -- a new array is made
          obtain ⟨olds, ho, hrun, hxo⟩ : ∃ olds : List Value, olds.length = (xs.drop off).length * ti.size ∧
              (Builtin.append_ #[t, t] ty #[.slice A0 len cap, .slice (some ad) ys.length c]).run P w = .ok (.slice (some ⟨w.heap.size, 0, none⟩) (len + ys.length) (grownCap w (len + ys.length) cap e))
                (w.drew.alloc (.cells (olds.toArray ++ news.toArray ++ Builtin.zeroCells zv.cells (grownCap w (len + ys.length) cap e - (len + ys.length))) e)) ∧
              ∀ i x k c, (xs.drop off)[i]? = some x → x[k]? = some c → ∃ u, olds[i * ti.size + k]? = some u ∧ RepC S N μ w c u := by
            have hfits := growslice_fits (need := len + ys.length) (old := cap) (bytes := ti.bytes) (by omega) hby
            rcases Nat.eq_zero_or_pos cap with hc0 | hcp
            · have hl0 : len = 0 := by omega
              subst hc0
              subst hl0
              have hd0 : xs.drop off = [] := List.eq_nil_of_length_eq_zero hdl
              refine ⟨[], by rw [hd0]; simp, ?_, fun i x k c hi => by rw [hd0] at hi; simp at hi⟩
              cases A0 with
              | none =>
                have := run_append_nil (P := P) w t ty e ti zv ht hi hzi ad ys.length c news hn hcell h0 (by omega) (by have := hby; simp only [Nat.zero_add] at this; omega)
                simpa using this
              | some a0 =>
                have := run_append_grow (P := P) w t ty e ti zv ht hi hzi a0 0 0 [] (by simp) (fun j v hj => by simp at hj) ad ys.length c news hn hcell (by omega) (by simp; omega) hfits
                simpa using this
            · obtain ⟨b, hbk, rfl⟩ := hA0 (by omega)
              have hsrc' : srcRows K (tC (.own id ver off len)) = some (ti.size, (xs.drop off).take len, ver = ver ∧ off + len ≤ xs.length) := by simp only [srcRows, hk]
              obtain ⟨A2, c2, e2, _, olds, q1, q2, q3, q4⟩ := src_spec h (y := tC (.own id ver off len)) (v := .slice (some ((μ id).at b off 0)) len cap) ⟨hid, hle, _, _, rfl, fun _ => ⟨hlc, hroom, fun _ => ⟨b, hbk, rfl⟩⟩⟩ hsrc' ⟨rfl, by omega⟩
              have ht' : (xs.drop off).take len = xs.drop off := List.take_of_length_le (by omega)
              rw [ht'] at q1 q2 q4
              refine ⟨olds, q1, ?_, q4⟩
              have holds : ∀ j v, olds[j]? = some v → w.cell? (((μ id).at b off 0).add j) = some v := by
                by_cases hd0 : xs.drop off = []
                · rw [hd0] at q1
                  obtain rfl := List.eq_nil_of_length_eq_zero (by simpa using q1)
                  intro j v hj; simp at hj
                · obtain ⟨a2, ea, ha2⟩ := q2 hd0
                  injection e2 with e2 _ _
                  rw [← e2] at ea
                  cases ea
                  exact ha2
              exact run_append_grow (P := P) w t ty e ti zv ht hi hzi ((μ id).at b off 0) len cap olds (by rw [q1, hdl]) holds ad ys.length c news hn hcell (by omega) (by omega) hfits
          have hge := grownCap_ge w (len + ys.length) cap e
          have hgm := grownCap_le_maxLen w (len + ys.length) cap e (hm63 _ hcap)
          obtain ⟨g1, g2⟩ := grown_cells (S := S) (N := N) (μ := μ) (w := w) (xs := xs.drop off) (ys := ys) (sz := ti.size) (newCap := grownCap w (len + ys.length) cap e) (olds := olds) (news := news) (rest := Builtin.zeroCells zv.cells (grownCap w (len + ys.length) cap e - (len + ys.length)))
            ho hn (by rw [zero_rest hzc, hzs, hdl]) (by rw [hdl]; exact hge) hdlen hyl hxo hc
          have hLn := hL ⟨ver + 1, some w.heap.size, 0, grownCap w (len + ys.length) cap e, ti.size⟩ rfl
          refine ⟨_, _, fun j => if j = id then ⟨ver + 1, some w.heap.size, 0, grownCap w (len + ys.length) cap e, ti.size⟩ else μ j, hrun, ?_, Nat.le_refl N, hLn, hid, by simp, _, _, rfl, fun _ => ⟨hge, by simp, fun _ => ⟨w.heap.size, by simp, by simp [Loc.at]⟩⟩⟩
          refine h.step (t := id) (fun _ => False) rfl rfl rfl (by simp) (fun b hb _ => by rw [alloc, Array.getElem?_push, if_neg (by omega)]) (fun b hb => hb.elim) (fun _ _ _ _ _ _ hb => hb) (Nat.le_refl N) hid (fun j hj => by simp [hj]) hLn (fun hsame => ?_) (fun b hb => ?_) (fun j o b hj hkj hbj e => ?_)
          · refine ⟨by simp, by simp, by simp only [if_true, List.length_append, hdl]; exact hge, by simpa using hgm, hall, ?_⟩
            simp only [if_true]
            refine ⟨olds.toArray ++ news.toArray ++ Builtin.zeroCells zv.cells (grownCap w (len + ys.length) cap e - (len + ys.length)), e, by rw [alloc]; simp, by simpa using g1, fun i x k c hi hk' => ?_⟩
            obtain ⟨u, hu, hr⟩ := g2 i x k c hi hk'
            exact ⟨u, by simpa using hu, hr.move hsame (fun _ h => h) (Nat.le_refl N) hLn⟩
          · simp at hb
            subst hb
            exact ⟨.inr h.size, by simp⟩
          · simp at e
            subst e
            have := (h.blk j o _ hkj hbj).2
            omega
    · rename_i ver' sz xs hk hsrc
      split at he
      · rename_i hnil
        cases he
        obtain ⟨rfl, hsz⟩ := hp
        obtain ⟨rfl, _⟩ := rep_val hb
        obtain ⟨hv, hsl, hid⟩ := h.ver hk
        have ha' := ha
        obtain ⟨_, hle, A0, cap, rfl, hcur⟩ := ha
        obtain ⟨hlc, hroom, hA0⟩ := hcur hv.symm
        exact ⟨_, _, μ, run_append_none ht hi A0 none hlc, h, Nat.le_refl N, Later.refl N μ, ha'⟩
      · cases he
    · cases he
  · cases he
theorem clear_out (h : HRel w0 F S K N μ w) {t ty e : TypeId} {ti : TypeInfo} {z : List Value} (ht : P.underlying t = some (.slice e)) (hi : P.info? e = some ti) (hz : zeroOf P e = some z) (hzs : z.length = ti.size) (hpos : 0 < ti.size)
    {a : T} {v : Value} (ha : RepT S N μ w a v) {res : Res} (he : evClear ti.size K N [a] = some res) (hp : res.pre) : Out P w0 F S N μ w (Builtin.clear_ #[t] ty #[v]) res := by
  obtain ⟨zv, hzi, hzc⟩ := zero_info hi hz
  have hz1 : oneAll z = true := by
    unfold zeroOf at hz
    split at hz
    · split at hz
      · rename_i h2; cases hz; simp only [Bool.and_eq_true] at h2; exact h2.1
      · cases hz
    · cases hz
  unfold evClear at he
  split at he
  · rename_i id ver off len hargs
    simp only [List.cons.injEq, and_true] at hargs
    subst hargs
    split at he
    · rename_i ver' sz xs hk
      cases he
      obtain ⟨rfl, hsz, hlen⟩ := hp
      subst hsz
      obtain ⟨hv, hsl, hid⟩ := h.ver hk
      obtain ⟨_, hle, A0, cap, rfl, hcur⟩ := ha
      obtain ⟨hlc, hroom, hA0⟩ := hcur hv.symm
      obtain ⟨_, o1, o2, o3, o4, o5, o6⟩ := h.obj id _ hk
      by_cases h0 : len = 0
      · subst h0
        have hsame : upd K id (.row ver ti.size (xs.take off ++ List.replicate 0 (List.replicate ti.size .any) ++ xs.drop (off + 0))) = K := by
          funext j
          unfold upd
          split
          · rename_i e; subst e; rw [hk]; simp
          · rfl
        refine ⟨.tuple #[], w, μ, ?_, ?_, Nat.le_refl N, Later.refl N μ, ⟨#[], rfl, rfl, fun i d hi => by simp at hi⟩⟩
        · cases A0 <;> simp [Builtin.clear_, run_under ht]
        · simp only [hsame]
          exact h
      · obtain ⟨b, hb', rfl⟩ := hA0 (by omega)
        rw [hb'] at o6
        obtain ⟨vals, ty', hh, hfit, hall⟩ := o6
        have hzsz := zero_rest hzc len
        have hone : ∀ x ∈ (Builtin.zeroCells zv.cells len).toList, x.oneCell' = true := by
          intro x hx
          simp only [Builtin.zeroCells, Array.toList_map, List.mem_map] at hx
          obtain ⟨j, _, rfl⟩ := hx
          have hzl : zv.cells.size = z.length := by rw [← hzc]; simp
          have hlt : j % zv.cells.size < zv.cells.size := Nat.mod_lt _ (by omega)
          simp only [oneAll, List.all_eq_true] at hz1
          refine hz1 _ ?_
          rw [← hzc, getElem!_pos zv.cells _ hlt]
          simp
        have hin : (μ id).org + off * ti.size + (Builtin.zeroCells zv.cells len).size ≤ vals.size := by
          rw [hzsz, hzs]
          have h1 : (off + len) * ti.size ≤ (μ id).room * ti.size := Nat.mul_le_mul_right _ (by omega)
          rw [Nat.add_mul] at h1
          omega
        have hst := run_storeCells_at P b ((μ id).org + off * ti.size) ty' (Builtin.zeroCells zv.cells len).toList 0 vals w hh (by simpa using hin) hone
        simp only [Nat.add_zero, Array.length_toList] at hst
        have hat : (μ id).at b off 0 = ⟨b, (μ id).org + off * ti.size, none⟩ := by simp [Loc.at, hsl]
        have hrl : ∀ y, y ∈ xs.take off ++ List.replicate len (List.replicate ti.size C.any) ++ xs.drop (off + len) → y.length = ti.size := fun y hy => by
          rcases List.mem_append.1 hy with hy | hy
          · rcases List.mem_append.1 hy with hy | hy
            · exact o5 y (List.mem_of_mem_take hy)
            · rw [(List.mem_replicate.1 hy).2]; simp
          · exact o5 y (List.mem_of_mem_drop hy)
        refine ⟨.tuple #[], w.setRow b (vals.toList.take ((μ id).org + off * ti.size) ++ (Builtin.zeroCells zv.cells len).toList ++ vals.toList.drop ((μ id).org + off * ti.size + (Builtin.zeroCells zv.cells len).size)).toArray, fun j => if j = id then μ id else μ j, ?_,
          h.setRow hk hb' (setRow_heap w b vals _ ty' (0, 0) hh) rfl rfl rfl (by simp) (fun k hne => setRow_other w b k _ hne) hv hb' hsl (by simp; omega) o4 hrl ?_ (.inl rfl) (fun j x k c hj hc => ?_), Nat.le_refl N, fun j hj => .inl (by by_cases e : j = id <;> simp [e]), ⟨#[], rfl, rfl, fun i d hi => by simp at hi⟩⟩
        · rw [hat]
          cases len with
          | zero => exact absurd rfl h0
          | succ n =>
            have hz0 : (zeroValue e).run P w = .ok zv w := by simp [zeroValue, typeInfo, program, Sem.run, hi, hzi]
            have hr : (Builtin.clear_ #[t] ty #[.slice (some ⟨b, (μ id).org + off * ti.size, none⟩) (n + 1) cap]).run P w = ((storeCells ⟨b, (μ id).org + off * ti.size, none⟩ (Builtin.zeroCells zv.cells (n + 1)).toList).run P w).andThen fun _ w' => .ok (.tuple #[]) w' := by
              simp [Builtin.clear_, Sem.run_bind, run_under ht, Result.andThen, hz0]
            rw [hr, hst]
            rfl
        · simp only [List.size_toArray, List.length_append, List.length_take, List.length_drop, Array.length_toList]
          omega
        · have hput : ∀ q, (vals.toList.take ((μ id).org + off * ti.size) ++ (Builtin.zeroCells zv.cells len).toList ++ vals.toList.drop ((μ id).org + off * ti.size + (Builtin.zeroCells zv.cells len).size)).toArray[q]? = if (μ id).org + off * ti.size ≤ q ∧ q < (μ id).org + off * ti.size + (Builtin.zeroCells zv.cells len).size then (Builtin.zeroCells zv.cells len)[q - ((μ id).org + off * ti.size)]? else vals[q]? := by
            intro q
            have := splice_get (f := (μ id).org + off * ti.size) (cs := (Builtin.zeroCells zv.cells len).toList) (x := vals.toList) (by simpa using hin) q
            simpa [splice] using this
          rw [hput]
          have hxl := hrl x (List.mem_of_getElem? hj)
          have hkk : k < ti.size := by rw [← hxl]; exact (List.getElem?_eq_some_iff.1 hc).1
          by_cases hin' : off ≤ j ∧ j < off + len
          · have hj' : x = List.replicate ti.size C.any := by
              rw [List.append_assoc, List.getElem?_append_right (by simp; omega), List.getElem?_append_left (by simp; omega)] at hj
              simp only [List.getElem?_replicate] at hj
              split at hj <;> first | (cases hj; rfl) | cases hj
            subst hj'
            have hca : c = .any := by
              simp only [List.getElem?_replicate] at hc
              split at hc <;> first | (cases hc; rfl) | cases hc
            subst hca
            have m1 : off * ti.size ≤ j * ti.size := Nat.mul_le_mul_right _ hin'.1
            have m2 : (j + 1) * ti.size ≤ (off + len) * ti.size := Nat.mul_le_mul_right _ (by omega)
            rw [Nat.add_mul, Nat.add_mul, Nat.one_mul] at m2
            rw [if_pos (by rw [hzsz, hzs]; omega)]
            have hlt : (μ id).org + j * ti.size + k - ((μ id).org + off * ti.size) < (Builtin.zeroCells zv.cells len).size := by rw [hzsz, hzs]; omega
            refine ⟨_, Array.getElem?_eq_getElem hlt, ?_⟩
            exact hone _ (by simp)
          · have hxj : xs[j]? = some x := by
              by_cases hlo : j < off
              · rw [List.append_assoc, List.getElem?_append_left (by simp; omega), List.getElem?_take_of_lt hlo] at hj
                exact hj
              · rw [List.getElem?_append_right (by simp; omega), List.getElem?_drop] at hj
                rw [← hj]
                congr 1
                simp
                omega
            have hne : ¬ ((μ id).org + off * ti.size ≤ (μ id).org + j * ti.size + k ∧ (μ id).org + j * ti.size + k < (μ id).org + off * ti.size + (Builtin.zeroCells zv.cells len).size) := by
              rw [hzsz, hzs]
              rintro ⟨g1, g2⟩
              by_cases hlo : j < off
              · have h1 : (j + 1) * ti.size ≤ off * ti.size := Nat.mul_le_mul_right _ (by omega)
                rw [Nat.add_mul] at h1
                omega
              · have h1 : (off + len) * ti.size ≤ j * ti.size := Nat.mul_le_mul_right _ (by omega)
                rw [Nat.add_mul] at h1
                omega
            rw [if_neg hne]
            exact hall j x k c hxj hc
    · cases he
  · cases he

end
end Go.Proofs.Yticflcpmlbaafaa.AL

/- AL: the walk's judgements: operations, regions. -/
set_option linter.unusedSimpArgs false
set_option linter.unusedVariables false
namespace Go.Proofs.Yticflcpmlbaafaa.AL
open Go

def constT : Value → Option T
  | .agg vs => if oneAll vs.toList then some (.v (.agg (vs.toList.map cV))) else none
  | v => if v.oneCell' then some (tV v) else none

def opd (tm : Nat → Option T) : Operand → Option T
  | .tmp t => tm t
  | .const v => constT v
  | .func f => some (tC (.fn f []))
  | .global _ => none

def opds (tm : Nat → Option T) : List Operand → Option (List T)
  | [] => some []
  | x :: l => match opd tm x, opds tm l with | some a, some r => some (a :: r) | _, _ => none

def updO (tm : Nat → Option T) (d : Option Nat) (v : T) : Nat → Option T := match d with | some t => upd tm t v | none => tm
def clr {α : Type} (f : Nat → Option α) (i : Nat) : Nat → Option α := fun j => if j = i then none else f j
def clrO (tm : Nat → Option T) (d : Option Nat) : Nat → Option T := match d with | some t => clr tm t | none => tm

def callable (P : Program) (f : FuncId) : Bool := match P.funcs[f]? with | some fn => fn.name != "runtime.NumGoroutine" && fn.body.isSome | none => false

/-- The arguments' values are what is known of them. -/
def ArgsRep (S : Nat → Prop) (N : Nat) (μ : Nat → Loc) (w : World) (args : List T) (vs : List Value) : Prop :=
  vs.length = args.length ∧ ∀ (i : Nat) (d : T), args[i]? = some d → ∃ v, vs[i]? = some v ∧ RepT S N μ w d v

/-- A call in a state comes back with what R says. -/
def CallW (P : Program) (q : Bool) (f : FuncId) (args : List T) (K : KMap) (N : Nat) (R : T → KMap → Nat → Prop) : Prop :=
  callable P f = true ∧ ∀ (w0 : World) (F S : Nat → Prop) (μ : Nat → Loc) (w : World) (vs : Array Value), HRel w0 F S K N μ w → ArgsRep S N μ w args vs.toList →
    Calls P f vs w fun e w' => ∃ v d K' N' μ', e = .returned v ∧ R d K' N' ∧ (q = true → ∀ id, id < N → K' id = K id) ∧ HRel w0 F S K' N' μ' w' ∧ N ≤ N' ∧ Later N μ μ' ∧ RepT S N' μ' w' d v

def isUnit : SO → Bool
  | .store _ | .mupd _ => true
  | _ => false

def rowVer (ver : Nat) : Option AObj → Prop
  | some (.row v _ _) => ver = v
  | _ => False
/-- A slice compared with nil: an empty one may be nil, or not. -/
def isnilW (K : KMap) (R : Bool → Prop) : List T → Prop
  | [.v (.x (.r (.val (.slice none 0 0))))] => R true
  | [.v (.x (.r (.rd _ xs)))] => (xs = [] → R true) ∧ R false
  | [.v (.x (.own id ver _ len))] => rowVer ver (K id) ∧ (len = 0 → R true) ∧ R false
  | _ => False

theorem isnilW_mono {K : KMap} {R R' : Bool → Prop} (h : ∀ b, R b → R' b) {args : List T} (hw : isnilW K R args) : isnilW K R' args := by
  unfold isnilW at *
  split at hw
  · exact h _ hw
  · exact ⟨fun e => h _ (hw.1 e), h _ hw.2⟩
  · exact ⟨hw.1, fun e => h _ (hw.2.1 e), h _ hw.2.2⟩
  · exact hw.elim

def stepW (P : Program) (q : Bool) (o : SOp) (st : St) (R : St → Prop) : Prop :=
  match opds st.tm o.args with
  | none => False
  | some args =>
    match o.op with
    | .call f => CallW P q f args st.K st.N fun d K N => R ⟨updO st.tm o.dst d, K, N⟩
    | .callv =>
      match args with
      | .v (.x (.fn f caps)) :: rest => CallW P q f (rest ++ caps.map fun id => tC (.ptr id 0 0 0)) st.K st.N fun d K N => R ⟨updO st.tm o.dst d, K, N⟩
      | _ => False
    | .isnil neg => isnilW st.K (fun b => R ⟨updO st.tm o.dst (tB (b != neg)), st.K, st.N⟩) args
    | op =>
      match ev op args st.K st.N with
      | some r => r.pre ∧ R ⟨if isUnit op then clrO st.tm o.dst else updO st.tm o.dst r.val, r.K, r.N⟩
      | none => False

def opW (P : Program) (q : Bool) (o : SOp) (st : St) (R : St → Prop) : Prop :=
  match o.guard with
  | none => stepW P q o st R
  | some (t, b) =>
    match st.tm t with
    | some (.v (.x (.r (.val (.bool b'))))) => (b' = b → stepW P q o st R) ∧ (b' = !b → R ⟨updO st.tm o.dst (.tup []), st.K, st.N⟩)
    | some (.tup []) => R ⟨updO st.tm o.dst (.tup []), st.K, st.N⟩
    | _ => False

def AW (P : Program) (q : Bool) : List SOp → St → (St → Prop) → Prop
  | [], st, Q => Q st
  | o :: l, st, Q => opW P q o st fun st' => AW P q l st' Q

def Post (dl : List Deferred) (n : Nat) (w0 : World) (F S : Nat → Prop) (N0 : Nat) (μ0 : Nat → Loc) (Q : St → Prop) (a : Act) (w : World) : Prop := ∃ st μ, Q st ∧ Rel dl n w0 F S N0 μ0 st μ a w

section
variable {P : Program} {dl : List Deferred} {w0 : World} {F S : Nat → Prop} {st : St} {μ : Nat → Loc} {a : Act} {w : World} {n N0 : Nat} {μ0 : Nat → Loc}

theorem HRel.same2 {K K' : KMap} {N N' : Nat} {μ' : Nat → Loc} {w' : World} (h : HRel w0 F S K N μ w) (h' : HRel w0 F S K' N' μ' w') : Same S w w' := fun b hb => by
  obtain ⟨h1, h2⟩ := h.st b hb
  rw [h'.frame b h1 h2, h.frame b h1 h2]

theorem opd_rep (h : Rel dl n w0 F S N0 μ0 st μ a w) {x : Operand} {d : T} (hx : opd st.tm x = some d) : RepT S st.N μ w d (a.eval x) := by
  cases x with
  | tmp t => exact h.tm t d hx
  | const v =>
    simp only [opd] at hx
    unfold constT at hx
    split at hx
    · rename_i vs
      split at hx
      · rename_i h1
        cases hx
        refine ⟨vs, rfl, by simp, fun i c hi => ?_⟩
        obtain ⟨u, hu, hr⟩ := zero_cells (S := S) (N := st.N) (μ := μ) (w := w) h1 i c hi
        exact ⟨u, by simpa using hu, hr⟩
      · cases hx
    · split at hx
      · rename_i h1
        cases hx
        exact .val h1
      · cases hx
  | global g => cases hx
  | func f =>
    cases hx
    exact ⟨#[], rfl, rfl, fun i id hi => by simp at hi⟩

theorem opds_rep (h : Rel dl n w0 F S N0 μ0 st μ a w) : ∀ {l : List Operand} {ds : List T}, opds st.tm l = some ds → ArgsRep S st.N μ w ds (l.map a.eval)
  | [], ds, hl => by
    simp [opds] at hl
    subst hl
    exact ⟨rfl, fun i d hi => by simp at hi⟩
  | x :: l, ds, hl => by
    simp only [opds] at hl
    split at hl
    · rename_i d r hd hr
      cases hl
      obtain ⟨h1, h2⟩ := opds_rep h hr
      refine ⟨by simp [h1], fun i d' hi => ?_⟩
      cases i with
      | zero => simp at hi; subst hi; exact ⟨_, rfl, opd_rep h hd⟩
      | succ i => simpa using h2 i d' (by simpa using hi)
    · cases hl

theorem getD_put {tm : Array Value} {t k : Nat} {v : Value} : (tm.setIfInBounds t v).getD k undef = if k = t ∧ t < tm.size then v else tm.getD k undef := by
  simp only [Array.getD_eq_getD_getElem?, Array.getElem?_setIfInBounds]
  by_cases e : t = k
  · subst e
    by_cases hlt : t < tm.size
    · simp [hlt]
    · simp [hlt]
  · simp [e, Ne.symm e]

theorem Rel.put (h : Rel dl n w0 F S N0 μ0 st μ a w) {K' : KMap} {N' : Nat} {μ' : Nat → Loc} {w' : World} (h' : HRel w0 F S K' N' μ' w') (hN : st.N ≤ N') (hL : Later st.N μ μ') {dst : Option Nat} (hd : ∀ t, dst = some t → t < n)
    {d : T} {v : Value} (hr : RepT S N' μ' w' d v) : Rel dl n w0 F S N0 μ0 ⟨updO st.tm dst d, K', N'⟩ μ' (a.put dst v) w' := by
  have hsame := h.h.same2 h'
  cases dst with
  | none => exact ⟨h.defers, h.size, fun t d hd => (h.tm t d hd).move hsame (fun _ h => h) hN hL, h', Nat.le_trans h.ent hN, h.later.trans hL h.ent⟩
  | some t =>
    refine ⟨h.defers, by simp [Act.put, h.size], fun k d' hk => ?_, h', Nat.le_trans h.ent hN, h.later.trans hL h.ent⟩
    simp only [Act.put, getD_put]
    by_cases e : k = t
    · subst e
      simp [updO] at hk
      subst hk
      rw [if_pos ⟨rfl, by rw [h.size]; exact hd k rfl⟩]
      exact hr
    · simp only [updO] at hk
      rw [upd_ne _ _ e] at hk
      rw [if_neg (by simp [e])]
      exact (h.tm k d' hk).move hsame (fun _ h => h) hN hL

theorem Rel.clr (h : Rel dl n w0 F S N0 μ0 st μ a w) {K' : KMap} {N' : Nat} {μ' : Nat → Loc} {w' : World} (h' : HRel w0 F S K' N' μ' w') (hN : st.N ≤ N') (hL : Later st.N μ μ') (dst : Option Nat) (v : Value) :
    Rel dl n w0 F S N0 μ0 ⟨clrO st.tm dst, K', N'⟩ μ' (a.put dst v) w' := by
  have hsame := h.h.same2 h'
  cases dst with
  | none => exact ⟨h.defers, h.size, fun t d hd => (h.tm t d hd).move hsame (fun _ h => h) hN hL, h', Nat.le_trans h.ent hN, h.later.trans hL h.ent⟩
  | some t =>
    refine ⟨h.defers, by simp [Act.put, h.size], fun k d' hk => ?_, h', Nat.le_trans h.ent hN, h.later.trans hL h.ent⟩
    simp only [Act.put, getD_put]
    by_cases e : k = t
    · subst e
      simp [clrO, AL.clr] at hk
    · simp only [clrO, AL.clr, if_neg e] at hk
      rw [if_neg (by simp [e])]
      exact (h.tm k d' hk).move hsame (fun _ h => h) hN hL

theorem wp_value {o : Oper} {Q : Exit → Act → World → Prop} {K : Act → World → Prop} {v : Value} {w' : World} (hx : (execOp a.eval o).run P w = .ok (.value v) w') (hk : K (a.put o.dst v) w') : o.wp P a w K Q := by
  unfold Oper.wp
  rw [hx]
  exact hk
theorem wp_skip {o : Oper} {Q : Exit → Act → World → Prop} {K : Act → World → Prop} {w' : World} (hx : (execOp a.eval o).run P w = .ok .skip w') (hk : K (a.put o.dst undef) w') : o.wp P a w K Q := by
  unfold Oper.wp
  rw [hx]
  exact hk

theorem wp_enter {o : Oper} {Q : Exit → Act → World → Prop} {K : Act → World → Prop} {f : FuncId} {args : Array Value} (hx : (execOp a.eval o).run P w = .ok (.enter f args) w)
    (hc : Calls P f args w fun e w' => ∃ v, e = .returned v ∧ K (a.put o.dst v) w') : o.wp P a w K Q := by
  unfold Oper.wp
  rw [hx]
  exact hc.mono fun e w' ⟨v, he, hk⟩ => by subst he; exact hk

theorem run_callFunc {f : FuncId} (h : callable P f = true) (args : Array Value) : (callFunc f args).run P w = .ok (.enter f args) w := by
  unfold callable at h
  cases hf : P.funcs[f]? with
  | none => simp [hf] at h
  | some fn =>
    simp only [hf, Bool.and_eq_true, bne_iff_ne, ne_eq] at h
    obtain ⟨h1, h2⟩ := h
    simp [callFunc, hf, h1]
    intro hb
    simp [hb] at h2

/-- Operations of one value: from Still. -/
theorem wp_still (h : Rel dl n w0 F S N0 μ0 st μ a w) {o : Oper} {Q : Exit → Act → World → Prop} {K : KMap} {N : Nat} {x : Sem Value} {d : T} (hx : execOp a.eval o = (do pure (.value (← x)))) (hK : K = st.K) (hN : N = st.N)
    (hs : Still P S st.N μ w x d) (hd : ∀ t, o.dst = some t → t < n) {R : St → Prop} (hR : R ⟨updO st.tm o.dst d, K, N⟩) : o.wp P a w (Post dl n w0 F S N0 μ0 R) Q := by
  obtain ⟨v, hv, hr⟩ := hs
  subst hK hN
  exact wp_value (by rw [hx]; simp [hv]) ⟨_, μ, hR, h.put h.h (Nat.le_refl _) (Later.refl _ _) hd hr⟩

theorem wp_out (h : Rel dl n w0 F S N0 μ0 st μ a w) {o : Oper} {Q : Exit → Act → World → Prop} {x : Sem Value} {res : Res} (hx : execOp a.eval o = (do pure (.value (← x))))
    (hs : Out P w0 F S st.N μ w x res) (hd : ∀ t, o.dst = some t → t < n) {R : St → Prop} (hR : R ⟨updO st.tm o.dst res.val, res.K, res.N⟩) : o.wp P a w (Post dl n w0 F S N0 μ0 R) Q := by
  obtain ⟨v, w', μ', hv, hh, hN, hL, hr⟩ := hs
  exact wp_value (by rw [hx]; simp [hv]) ⟨_, μ', hR, h.put hh hN hL hd hr⟩

end
end Go.Proofs.Yticflcpmlbaafaa.AL

/- AL: each operation of the machine does what the walk says. -/
set_option linter.unusedSimpArgs false
set_option linter.unusedVariables false
namespace Go.Proofs.Yticflcpmlbaafaa.AL
open Go
section
variable {P : Program} {dl : List Deferred} {w0 : World} {F S : Nat → Prop} {st : St} {μ : Nat → Loc} {a : Act} {w : World} {n N0 : Nat} {μ0 : Nat → Loc} {R : St → Prop} {Q : Exit → Act → World → Prop} {q : Bool}

theorem idxb_find {fn : Func} (h1 : fn.name = "internal/bytealg.IndexByteString") (h2 : fn.origin = "") : Extern.find fn = some Extern.BytealgIndexByte.indexByte := by
  have e1 : Extern.allGenericRows.lookup "internal/bytealg.IndexByteString" = none := by kernel_rfl
  have e2 : Extern.allTypedRows.lookup "internal/bytealg.IndexByteString" = none := by kernel_rfl
  have e3 : Extern.allRows.lookup "internal/bytealg.IndexByteString" = some Extern.BytealgIndexByte.indexByte := by kernel_rfl
  simp only [Extern.find, h1, e1, e2, e3, Option.map_none]
  rfl
theorem idxb_next {fn : Func} (h1 : fn.name = "internal/bytealg.IndexByteString") (h2 : fn.origin = "") : Extern.findNext fn = none := by
  have e1 : Extern.allNextRows.lookup "internal/bytealg.IndexByteString" = none := by kernel_rfl
  have e2 : Extern.allNextRows.lookup "" = none := by kernel_rfl
  simp only [Extern.findNext, h1, h2, e1, e2, Option.map_none]
  rfl

theorem stepW_ev {s : SOp} (h1 : ∀ f, s.op ≠ .call f) (h2 : s.op ≠ .callv) (h : stepW P q s st R) (h3 : ∀ b, s.op ≠ .isnil b := by simp) :
    ∃ args res, opds st.tm s.args = some args ∧ ev s.op args st.K st.N = some res ∧ res.pre ∧ R ⟨if isUnit s.op then clrO st.tm s.dst else updO st.tm s.dst res.val, res.K, res.N⟩ := by
  unfold stepW at h
  split at h
  · exact h.elim
  · rename_i args hargs
    split at h
    · rename_i f hf; exact absurd hf (h1 f)
    · rename_i hf; exact absurd hf h2
    · rename_i b hf; exact absurd hf (h3 b)
    · split at h
      · rename_i r hr
        exact ⟨args, r, hargs, hr, h.1, h.2⟩
      · exact h.elim

theorem opds1 {tm : Nat → Option T} {x : Operand} {args : List T} (h : opds tm [x] = some args) : ∃ d, args = [d] ∧ opd tm x = some d := by
  simp only [opds] at h
  split at h
  · rename_i d r hd hr; cases hr; cases h; exact ⟨d, rfl, hd⟩
  · cases h
theorem opds_cons {tm : Nat → Option T} {x : Operand} {l : List Operand} {args : List T} (h : opds tm (x :: l) = some args) : ∃ d r, args = d :: r ∧ opd tm x = some d ∧ opds tm l = some r := by
  simp only [opds] at h
  split at h
  · rename_i d r hd hr; cases h; exact ⟨d, r, rfl, hd, hr⟩
  · cases h
theorem opds2 {tm : Nat → Option T} {x y : Operand} {args : List T} (h : opds tm [x, y] = some args) : ∃ d e, args = [d, e] ∧ opd tm x = some d ∧ opd tm y = some e := by
  obtain ⟨d, r, rfl, hd, hr⟩ := opds_cons h
  obtain ⟨e, rfl, he⟩ := opds1 hr
  exact ⟨d, e, rfl, hd, he⟩
theorem opds3 {tm : Nat → Option T} {x y z : Operand} {args : List T} (h : opds tm [x, y, z] = some args) : ∃ d e f, args = [d, e, f] ∧ opd tm x = some d ∧ opd tm y = some e ∧ opd tm z = some f := by
  obtain ⟨d, r, rfl, hd, hr⟩ := opds_cons h
  obtain ⟨e, f, rfl, he, hf⟩ := opds2 hr
  exact ⟨d, e, f, rfl, hd, he, hf⟩

theorem placesOf_spec {t : TypeId} {is : List Nat} {ps : List (Nat × Nat)} (h : placesOf P t is = some ps) :
    (∃ fields, P.underlying t = some (.struct fields) ∧ fieldsKnown P fields.toList = true ∧ (is.map fun i => (fields[i]?).bind fun f => (P.info? f.type).map fun x => (f.offset, x.size)) = ps.map some) ∨
    (∃ m e ti, P.underlying t = some (.array m e) ∧ P.info? e = some ti ∧ ps = is.map fun i => (i * ti.size, ti.size)) := by
  unfold placesOf at h
  split at h
  · rename_i fields hf
    split at h
    case isFalse => cases h
    rename_i hkn
    refine .inl ⟨fields, hf, hkn, ?_⟩
    clear hf hkn
    induction is generalizing ps with
    | nil => simp at h; subst h; rfl
    | cons i is ih =>
      simp only [List.mapM_cons] at h
      cases hb : (fields[i]?).bind fun f => (P.info? f.type).map fun x => (f.offset, x.size) with
      | none => simp [hb] at h
      | some p =>
        cases hm : is.mapM fun i => (fields[i]?).bind fun f => (P.info? f.type).map fun x => (f.offset, x.size) with
        | none => simp [hb, hm] at h
        | some r =>
          simp [hb, hm] at h
          subst h
          simp only [List.map_cons, hb, ih hm]
  · rename_i m e he
    cases hi : P.info? e with
    | none => simp [hi] at h
    | some ti =>
      simp [hi] at h
      exact .inr ⟨m, e, ti, he, hi, h.symm⟩
  · cases h

theorem run_places : ∀ (fs : List Field), (∀ f ∈ fs, ∃ ti, P.info? f.type = some ti) →
    (fs.mapM (m := Sem) fun f => do pure (f.offset, ← sizeOf f.type)).run P w = .ok (fs.map fun f => (f.offset, P.cellsOf f.type)) w
  | [], h => rfl
  | f :: fs, h => by
    obtain ⟨ti, hi⟩ := h f (by simp)
    have ih := run_places fs (fun f hf => h f (by simp [hf]))
    simp only [List.mapM_cons, Sem.run_bind, run_size hi, Result.andThen, Sem.run_pure, ih, List.map_cons]
    simp [Program.cellsOf, hi]


theorem build_still {t : TypeId} {z : List Value} {d : TypeDesc} {parts : Array (Nat × Value)} {ps : List (Nat × Nat)} {args : List T} {K : KMap} {N : Nat} (hz : zeroOf P t = some z) (hd : P.underlying t = some d) (hag : aggD d = true) (hps : placesOf P t (parts.toList.map (·.1)) = some ps)
    (hlen : parts.size = args.length) (hargs : ∀ (i : Nat) (d : T), args[i]? = some d → ∃ x, parts[i]? = some x ∧ RepT S N μ w d x.2) {res : Res} (he : ev (.build z ps) args K N = some res) (hp : res.pre) :
    res.K = K ∧ res.N = N ∧ Still P S N μ w (Instr.build t parts) res.val := by
  simp only [ev] at he
  split at he
  · rename_i cs hfc
    cases he
    obtain ⟨zv, hr, hzc, hone, hza, _⟩ := run_zeroV (P := P) (w := w) hz hd
    obtain rfl := hza hag
    have main : ∀ place : Nat → Option (Nat × Nat), (parts.toList.map fun x => place x.1) = ps.map some → ∃ arr', Instr.fill place z.toArray parts.toList = some arr' ∧ RepT S N μ w (.v (.agg cs)) (.agg arr') := by
      intro place hpl
      obtain ⟨arr, ha1, ha2, ha3⟩ := fill_cells (S := S) (N := N) (μ := μ) (w := w) place ps args _ cs parts.toList z.toArray hfc hpl (by simpa using hlen) (fun i d hid => by
        obtain ⟨x, hx, hrx⟩ := hargs i d hid
        exact ⟨x, by simpa using hx, hrx⟩) (by simp) (zero_cells hone)
      exact ⟨arr, ha1, arr, rfl, ha2, ha3⟩
    rcases placesOf_spec hps with ⟨fields, hf, hkn, hpl⟩ | ⟨m, e, ti, hf, hi, rfl⟩
    · have hall : ∀ f ∈ fields.toList, ∃ ti, P.info? f.type = some ti := fun f hf => by
        have := List.all_eq_true.1 hkn f hf
        exact Option.isSome_iff_exists.1 this
      have hrp : (fields.mapM (m := Sem) fun f => do pure (f.offset, ← sizeOf f.type)).run P w = .ok (fields.map fun f => (f.offset, P.cellsOf f.type)) w := by
        rw [Array.mapM_eq_mapM_toList, Sem.run_map, run_places fields.toList hall]
        simp only [Result.andThen, Result.ok.injEq, and_true]
        apply Array.ext'
        simp
      obtain ⟨arr, ha1, ha2⟩ := main (fun i => (fields.map fun f => (f.offset, P.cellsOf f.type))[i]?) (by
        rw [← hpl, List.map_map]
        apply List.map_congr_left
        intro x hx
        simp only [Function.comp, Array.getElem?_map]
        cases hfx : fields[x.1]? with
        | none => rfl
        | some f =>
          obtain ⟨ti, hti⟩ := hall f (by rw [Array.mem_toList_iff]; exact Array.mem_of_getElem? hfx)
          simp [hti, Program.cellsOf])
      refine ⟨rfl, rfl, .agg arr, ?_, ha2⟩
      simp only [Instr.build, Sem.run_bind, hr, Result.andThen, run_under hf, hrp, Value.cells, ha1, Sem.run_pure]
    · obtain ⟨arr, ha1, ha2⟩ := main (fun i => some (i * ti.size, ti.size)) (by rw [List.map_map, List.map_map]; rfl)
      refine ⟨rfl, rfl, .agg arr, ?_, ha2⟩
      simp only [Instr.build, Sem.run_bind, hr, Result.andThen, run_under hf, run_size hi, Value.cells, ha1, Sem.run_pure]
  · cases he

theorem args_parts {parts : Array (Nat × Operand)} {ds : List T} (h : Rel dl n w0 F S N0 μ0 st μ a w) (ho : opds st.tm (parts.toList.map (·.2)) = some ds) :
    (parts.map fun x => (x.1, a.eval x.2)).size = ds.length ∧ ∀ (i : Nat) (d : T), ds[i]? = some d → ∃ x, (parts.map fun x => (x.1, a.eval x.2))[i]? = some x ∧ RepT S st.N μ w d x.2 := by
  obtain ⟨h1, h2⟩ := opds_rep h ho
  refine ⟨by simpa using h1, fun i d hi => ?_⟩
  obtain ⟨v, hv, hr⟩ := h2 i d hi
  simp only [List.map_map, List.getElem?_map, Option.map_eq_some_iff] at hv
  obtain ⟨x, hx, rfl⟩ := hv
  exact ⟨(x.1, a.eval x.2), by simp at hx; simp [hx], hr⟩

theorem isnil_rep {K : KMap} {N : Nat} (h : HRel w0 F S K N μ w) {d : T} {v : Value} (hr : RepT S N μ w d v) {R : Bool → Prop} (hw : isnilW K R [d]) : ∃ A l c, v = .slice A l c ∧ R A.isNone := by
  unfold isnilW at hw
  split at hw
  · rename_i hd
    simp only [List.cons.injEq, and_true] at hd
    subst hd
    cases hr
    exact ⟨none, 0, 0, rfl, hw⟩
  · rename_i sz xs hd
    simp only [List.cons.injEq, and_true] at hd
    subst hd
    cases hr with
    | rd g h1 h2 h3 h4 h5 =>
      rename_i A cap
      refine ⟨A, _, cap, rfl, ?_⟩
      cases A with
      | none =>
        by_cases e : xs = []
        · exact hw.1 e
        · obtain ⟨b, hb, _⟩ := h4 e
          cases hb
      | some b => exact hw.2
  · rename_i id ver off len hd
    simp only [List.cons.injEq, and_true] at hd
    subst hd
    obtain ⟨hv, hw⟩ := hw
    unfold rowVer at hv
    split at hv
    · rename_i v' s xs hk
      obtain ⟨hver, _, _⟩ := h.ver hk
      obtain ⟨_, _, A, cap, rfl, hcur⟩ := hr
      obtain ⟨hc, _, hA⟩ := hcur (by omega)
      refine ⟨A, len, cap, rfl, ?_⟩
      cases A with
      | none =>
        refine hw.1 ?_
        by_cases e : cap = 0
        · omega
        · obtain ⟨b, _, hb⟩ := hA e
          cases hb
      | some b => exact hw.2
    · exact hv.elim
  · exact hw.elim

theorem run_equal_nil {t el : TypeId} (ht : P.underlying t = some (.slice el)) (A : Option Addr) (l c : Nat) (w : World) : (Op.equal t (.slice A l c) (.slice none 0 0)).run P w = .ok A.isNone w := by
  show (Op.equalIn (9999 + 1) t (.slice A l c) (.slice none 0 0)).run P w = _
  unfold Op.equalIn
  cases A <;> simp [run_under ht]

theorem isnil_wp (h : Rel dl n w0 F S N0 μ0 st μ a w) {o : Oper} {op : BinOp} {t el yt : TypeId} {x y : Operand} {s : SO} {xs : List Operand} {g : Option (Nat × Bool)} (hop : o.op = .binOp op t x y yt) (hk : P.underlying t = some (.slice el)) (hs : nilCmp op x y = some (s, xs))
    (hw : stepW P q ⟨o.dst, s, xs, g⟩ st R) (hd : ∀ t, o.dst = some t → t < n) : o.wp P a w (Post dl n w0 F S N0 μ0 R) Q := by
  unfold nilCmp at hs
  split at hs
  · rename_i hy
    have hy' : y = .const (.slice none 0 0) := by
      unfold isNilC at hy
      split at hy
      · rfl
      · cases hy
    subst hy'
    have go : ∀ neg, (op = .eql ∧ neg = false) ∨ (op = .neq ∧ neg = true) → stepW P q ⟨o.dst, .isnil neg, [x], g⟩ st R → o.wp P a w (Post dl n w0 F S N0 μ0 R) Q := by
      intro neg hneg hw
      unfold stepW at hw
      simp only at hw
      split at hw
      · exact hw.elim
      · rename_i args hargs
        obtain ⟨d, rfl, hx⟩ := opds1 hargs
        obtain ⟨A, l, c, hv, hR⟩ := isnil_rep h.h (opd_rep h hx) hw
        refine wp_value (v := .bool (A.isNone != neg)) ?_ ⟨_, μ, hR, h.put h.h (Nat.le_refl _) (Later.refl _ _) hd (.val rfl)⟩
        have he := run_equal_nil hk A l c w
        rcases hneg with ⟨rfl, rfl⟩ | ⟨rfl, rfl⟩
        · simp only [execOp, hop]
          have e2 : a.eval (Operand.const (.slice none 0 0)) = .slice none 0 0 := rfl
          rw [hv, e2]
          simp [eqGuard, binOp, he]
        · simp only [execOp, hop]
          have e2 : a.eval (Operand.const (.slice none 0 0)) = .slice none 0 0 := rfl
          rw [hv, e2]
          simp [eqGuard, binOp, he]
    split at hs
    · cases hs; exact go false (.inl ⟨rfl, rfl⟩) hw
    · cases hs; exact go true (.inr ⟨rfl, rfl⟩) hw
    · cases hs
  · cases hs

theorem op_sound (h : Rel dl n w0 F S N0 μ0 st μ a w) {o : Oper} {s : SO} {xs : List Operand} {g : Option (Nat × Bool)} (hs : slimOp P o.op = some (s, xs)) (hw : stepW P q ⟨o.dst, s, xs, g⟩ st R)
    (hd : ∀ t, o.dst = some t → t < n) : o.wp P a w (Post dl n w0 F S N0 μ0 R) Q := by
  cases hop : o.op with
  | move x | assign x =>
    rw [hop] at hs
    simp only [slimOp, Option.some.injEq, Prod.mk.injEq] at hs
    obtain ⟨rfl, rfl⟩ := hs
    obtain ⟨args, res, ho, he, hp, hR⟩ := stepW_ev (by simp) (by simp) hw
    obtain ⟨d, rfl, hx⟩ := opds1 ho
    cases he
    exact wp_value (by simp only [execOp, hop, Sem.run_pure]) ⟨_, μ, hR, h.put h.h (Nat.le_refl _) (Later.refl _ _) hd (opd_rep h hx)⟩
  | pick c x y =>
    rw [hop] at hs
    simp only [slimOp, Option.some.injEq, Prod.mk.injEq] at hs
    obtain ⟨rfl, rfl⟩ := hs
    obtain ⟨args, res, ho, he, hp, hR⟩ := stepW_ev (by simp) (by simp) hw
    obtain ⟨d, e, f, rfl, h1, h2, h3⟩ := opds3 ho
    obtain ⟨e1, e2, v, hv, hr⟩ := pick_still (P := P) (opd_rep h h1) (opd_rep h h2) (opd_rep h h3) he hp
    rw [e1, e2] at hR
    refine wp_value (v := v) ?_ ⟨_, μ, hR, h.put h.h (Nat.le_refl _) (Later.refl _ _) hd hr⟩
    simp only [execOp, hop]
    simp only [Sem.run_bind, Sem.run_pure] at hv ⊢
    cases hb : (asBool (a.eval c)).run P w with
    | ok b w' => rw [hb] at hv; simp only [Result.andThen, Result.ok.injEq] at hv ⊢; rw [hv.1, hv.2]; exact ⟨rfl, rfl⟩
    | halt x w' => rw [hb] at hv; cases hv
  | alloc t =>
    rw [hop] at hs
    simp only [slimOp, Option.map_eq_some_iff, Prod.mk.injEq] at hs
    obtain ⟨z, hz, rfl, rfl⟩ := hs
    obtain ⟨args, res, ho, he, hp, hR⟩ := stepW_ev (by simp) (by simp) hw
    simp [opds] at ho
    subst ho
    have hdt : ∃ d, P.underlying t = some d := by
      unfold zeroOf at hz
      split at hz
      · rename_i d _ hd; exact ⟨d, hd⟩
      · cases hz
    obtain ⟨dt, hdt⟩ := hdt
    exact wp_out h (by simp only [execOp, hop]; rfl) (alloc_out h.h hz hdt he) hd hR
  | box t x =>
    rw [hop] at hs
    simp only [slimOp, Option.some.injEq, Prod.mk.injEq] at hs
    obtain ⟨rfl, rfl⟩ := hs
    obtain ⟨args, res, ho, he, hp, hR⟩ := stepW_ev (by simp) (by simp) hw
    obtain ⟨d, rfl, hx⟩ := opds1 ho
    cases d with
    | tup l => cases he
    | v d => exact wp_out h (by simp only [execOp, hop]; rfl) (box_out h.h (opd_rep h hx) he) hd hR
  | build t parts =>
    rw [hop] at hs
    simp only [slimOp] at hs
    split at hs
    · rename_i z ps dt hz hps hdt
      split at hs
      · rename_i hag
        cases hs
        obtain ⟨args, res, ho, he, hp, hR⟩ := stepW_ev (by simp) (by simp) hw
        obtain ⟨l1, l2⟩ := args_parts h ho
        obtain ⟨e1, e2, e3⟩ := build_still (P := P) hz hdt hag (by simpa [Function.comp_def] using hps) l1 l2 he hp
        exact wp_still h (by simp only [execOp, hop]) e1 e2 e3 hd hR
      · cases hs
    · cases hs
  | buildSlice t m parts =>
    rw [hop] at hs
    simp only [slimOp] at hs
    split at hs
    · rename_i e ht
      split at hs
      · rename_i ti z hi hz
        split at hs
        · rename_i hc
          obtain ⟨hzs, hpos, hsmall⟩ := hc
          cases hs
          obtain ⟨args, res, ho, he, hp, hR⟩ := stepW_ev (by simp) (by simp) hw
          obtain ⟨l1, l2⟩ := args_parts h ho
          have hdt : ∃ d, P.underlying e = some d := by
            unfold zeroOf at hz
            split at hz
            · rename_i d _ hd; exact ⟨d, hd⟩
            · cases hz
          obtain ⟨dt, hdt⟩ := hdt
          refine wp_out h (by simp only [execOp, hop]) (bslice_out h.h ht hi hz hdt hzs hpos hsmall l1 l2 ?_ hp) hd hR
          simpa [Function.comp_def] using he
        · cases hs
      · cases hs
    · cases hs
  | load t x =>
    rw [hop] at hs
    simp only [slimOp] at hs
    split at hs
    · rename_i d i hdt hi
      cases hs
      obtain ⟨args, res, ho, he, hp, hR⟩ := stepW_ev (by simp) (by simp) hw
      obtain ⟨d, rfl, hx⟩ := opds1 ho
      obtain ⟨e1, e2, e3⟩ := load_still h.h hdt hi (opd_rep h hx) he hp
      exact wp_still h (by simp only [execOp, hop]) e1 e2 e3 hd hR
    · cases hs
  | store t x y =>
    rw [hop] at hs
    simp only [slimOp, Option.map_eq_some_iff, Prod.mk.injEq] at hs
    obtain ⟨i, hi, rfl, rfl⟩ := hs
    obtain ⟨args, res, ho, he, hp, hR⟩ := stepW_ev (by simp) (by simp) hw
    obtain ⟨d, e, rfl, h1, h2⟩ := opds2 ho
    obtain ⟨w', μ', hr, hh, hN, hL, _⟩ := store_out h.h hi (opd_rep h h1) (opd_rep h h2) he hp
    exact wp_skip (by simp only [execOp, hop, Sem.run_bind, hr, Result.andThen, Sem.run_pure]) ⟨_, μ', hR, h.clr hh hN hL o.dst undef⟩
  | nilCheck x =>
    rw [hop] at hs
    simp only [slimOp, Option.some.injEq, Prod.mk.injEq] at hs
    obtain ⟨rfl, rfl⟩ := hs
    obtain ⟨args, res, ho, he, hp, hR⟩ := stepW_ev (by simp) (by simp) hw
    obtain ⟨d, rfl, hx⟩ := opds1 ho
    obtain ⟨e1, e2, e3, e4⟩ := nilc_still h.h (opd_rep h hx) he hp
    rw [e1, e2] at hR
    refine wp_value (v := a.eval x) ?_ ⟨_, μ, hR, h.put h.h (Nat.le_refl _) (Later.refl _ _) hd e3⟩
    simp only [execOp, hop]
    rcases e4 with ⟨A, hA⟩ | ⟨f, vals, hf⟩
    · rw [hA]; rfl
    · rw [hf]; rfl
  | binOp op t x y yt =>
    rw [hop] at hs
    simp only [slimOp] at hs
    have hex : execOp a.eval o = (do pure (.value (← (do eqGuard op t x y (a.eval x) (a.eval y); binOp op t (a.eval x) (a.eval y))))) := by simp only [execOp, hop]
    split at hs
    · rename_i k hk
      cases hs
      obtain ⟨args, res, ho, he, hp, hR⟩ := stepW_ev (by simp) (by simp) hw
      obtain ⟨d, e, rfl, h1, h2⟩ := opds2 ho
      obtain ⟨e1, e2, e3⟩ := bin_still (P := P) (x := x) (y := y) (t := t) (opd_rep h h1) (opd_rep h h2) he hp
      exact wp_still h hex e1 e2 e3 hd hR
    · rename_i hk
      cases hs
      obtain ⟨args, res, ho, he, hp, hR⟩ := stepW_ev (by simp) (by simp) hw
      obtain ⟨d, e, rfl, h1, h2⟩ := opds2 ho
      obtain ⟨e1, e2, e3⟩ := bin_still (P := P) (x := x) (y := y) (t := t) (opd_rep h h1) (opd_rep h h2) he hp
      exact wp_still h hex e1 e2 e3 hd hR
    · rename_i hk
      split at hs
      · cases hs
        obtain ⟨args, res, ho, he, hp, hR⟩ := stepW_ev (by simp) (by simp) hw
        obtain ⟨d, e, rfl, h1, h2⟩ := opds2 ho
        obtain ⟨e1, e2, e3⟩ := binbool_still (P := P) (op := .eql) (x := x) (y := y) hk (opd_rep h h1) (opd_rep h h2) he hp
        exact wp_still h hex e1 e2 e3 hd hR
      · cases hs
        obtain ⟨args, res, ho, he, hp, hR⟩ := stepW_ev (by simp) (by simp) hw
        obtain ⟨d, e, rfl, h1, h2⟩ := opds2 ho
        obtain ⟨e1, e2, e3⟩ := binbool_still (P := P) (op := .neq) (x := x) (y := y) hk (opd_rep h h1) (opd_rep h h2) he hp
        exact wp_still h hex e1 e2 e3 hd hR
      · cases hs
    · rename_i el hk
      exact isnil_wp h hop hk hs hw hd
    · rename_i fs hk
      split at hs
      · rename_i l hl
        split at hs
        · cases hs
        · rename_i hc
          simp only [not_or, Bool.not_eq_true] at hc
          cases hs
          obtain ⟨args, res, ho, he, hp, hR⟩ := stepW_ev (by simp) (by simp) hw
          obtain ⟨d, e, rfl, h1, h2⟩ := opds2 ho
          obtain ⟨e1, e2, e3⟩ := eqs_still (P := P) (x := x) (y := y) (neg := false) hk hl hc.1 hc.2 (opd_rep h h1) (opd_rep h h2) he hp
          exact wp_still h hex e1 e2 e3 hd hR
      · rename_i l hl
        split at hs
        · cases hs
        · rename_i hc
          simp only [not_or, Bool.not_eq_true] at hc
          cases hs
          obtain ⟨args, res, ho, he, hp, hR⟩ := stepW_ev (by simp) (by simp) hw
          obtain ⟨d, e, rfl, h1, h2⟩ := opds2 ho
          obtain ⟨e1, e2, e3⟩ := eqs_still (P := P) (x := x) (y := y) (neg := true) hk hl hc.1 hc.2 (opd_rep h h1) (opd_rep h h2) he hp
          exact wp_still h hex e1 e2 e3 hd hR
      · cases hs
    · cases hs
  | unOp op t x =>
    rw [hop] at hs
    simp only [slimOp, Option.some.injEq, Prod.mk.injEq] at hs
    obtain ⟨rfl, rfl⟩ := hs
    obtain ⟨args, res, ho, he, hp, hR⟩ := stepW_ev (by simp) (by simp) hw
    obtain ⟨d, rfl, hx⟩ := opds1 ho
    obtain ⟨e1, e2, e3⟩ := un_still (P := P) (opd_rep h hx) he hp
    exact wp_still h (by simp only [execOp, hop]) e1 e2 e3 hd hR
  | convert src dst x =>
    rw [hop] at hs
    simp only [slimOp] at hs
    split at hs
    · rename_i q' k h1 h2
      cases hs
      obtain ⟨args, res, ho, he, hp, hR⟩ := stepW_ev (by simp) (by simp) hw
      obtain ⟨d, rfl, hx⟩ := opds1 ho
      obtain ⟨e1, e2, e3⟩ := conv_still (P := P) h1 h2 (opd_rep h hx) he hp
      exact wp_still h (by simp only [execOp, hop]) e1 e2 e3 hd hR
    · cases hs
  | makeFunc fn first captured =>
    rw [hop] at hs
    cases fn with
    | func f =>
      simp only [slimOp] at hs
      split at hs
      · rename_i hf
        cases hs
        obtain ⟨args, res, ho, he, hp, hR⟩ := stepW_ev (by simp) (by simp) hw
        obtain ⟨h1, h2⟩ := opds_rep h ho
        obtain ⟨e1, e2, e3⟩ := mkfn_still (P := P) h1 h2 he hp
        refine wp_still h (x := Instr.makeFunc (.func f) #[] (captured.toList.map a.eval).toArray) ?_ e1 e2 e3 hd hR
        have : first = #[] := Array.eq_empty_of_size_eq_zero hf
        subst this
        have e2 : (captured.toList.map a.eval).toArray = captured.map a.eval := by apply Array.ext'; simp
        rw [e2]
        simp only [execOp, hop, List.map_toArray, List.map_nil]
      · cases hs
    | _ => cases hs
  | makeMap t r =>
    rw [hop] at hs
    cases r with
    | none =>
      simp only [slimOp, Option.some.injEq, Prod.mk.injEq] at hs
      obtain ⟨rfl, rfl⟩ := hs
      obtain ⟨args, res, ho, he, hp, hR⟩ := stepW_ev (by simp) (by simp) hw
      simp [opds] at ho
      subst ho
      cases he
      exact wp_out h (x := Instr.makeMap t none) (by simp only [execOp, hop]; rfl) (mkmap_out h.h (by simp [Instr.makeMap])) hd hR
    | some x =>
      cases x with
      | const v =>
        cases v with
        | int k m =>
          simp only [slimOp] at hs
          split at hs
          · rename_i hk
            cases hs
            obtain ⟨args, res, ho, he, hp, hR⟩ := stepW_ev (by simp) (by simp) hw
            simp [opds] at ho
            subst ho
            cases he
            exact wp_out h (x := Instr.makeMap t (some (.int k m))) (by simp only [execOp, hop]; rfl) (mkmap_out h.h (by simp [Instr.makeMap, run_under hk, asInt, asIntOf])) hd hR
          · cases hs
        | _ => cases hs
      | _ => cases hs
  | makeSlice t l c =>
    rw [hop] at hs
    simp only [slimOp] at hs
    split at hs
    · rename_i e ht
      split at hs
      · rename_i ti z hi hz
        split at hs
        · rename_i hc
          obtain ⟨hzs, hpos⟩ := hc
          cases hs
          obtain ⟨args, res, ho, he, hp, hR⟩ := stepW_ev (by simp) (by simp) hw
          obtain ⟨d, e', rfl, h1, h2⟩ := opds2 ho
          have hdt : ∃ d, P.underlying e = some d := by
            unfold zeroOf at hz
            split at hz
            · rename_i d _ hd; exact ⟨d, hd⟩
            · cases hz
          obtain ⟨dt, hdt⟩ := hdt
          exact wp_out h (by simp only [execOp, hop]) (mkslice_out h.h ht hi hz hdt hzs hpos (opd_rep h h1) (opd_rep h h2) he hp) hd hR
        · cases hs
      · cases hs
    · cases hs
  | slice t x lo hi mx =>
    rw [hop] at hs
    cases mx with
    | some m => cases hs
    | none =>
      have hbs : ∀ {bs : List T}, opds st.tm (lo.toList ++ hi.toList) = some bs → ∀ (i : Nat) (d : T), bs[i]? = some d → ∃ v, ((lo.map a.eval).toList ++ (hi.map a.eval).toList)[i]? = some v ∧ RepT S st.N μ w d v := by
        intro bs hb i d hi'
        obtain ⟨_, h2⟩ := opds_rep h hb
        obtain ⟨v, hv, hr⟩ := h2 i d hi'
        refine ⟨v, ?_, hr⟩
        rw [← hv]
        cases lo <;> cases hi <;> rfl
      simp only [slimOp] at hs
      split at hs
      · rename_i ht
        cases hs
        obtain ⟨args, res, ho, he, hp, hR⟩ := stepW_ev (by simp) (by simp) hw
        obtain ⟨d, bs, rfl, h1, h2⟩ := opds_cons ho
        obtain ⟨e1, e2, e3⟩ := sslice_still (P := P) (lo := lo.map a.eval) (hi := hi.map a.eval) ht (opd_rep h h1) (hbs h2) (by simpa [ev] using he) hp
        exact wp_still h (by simp only [execOp, hop]; rfl) e1 e2 e3 hd hR
      · rename_i e ht
        simp only [Option.map_eq_some_iff, Prod.mk.injEq] at hs
        obtain ⟨ti, hti, rfl, rfl⟩ := hs
        obtain ⟨args, res, ho, he, hp, hR⟩ := stepW_ev (by simp) (by simp) hw
        obtain ⟨d, bs, rfl, h1, h2⟩ := opds_cons ho
        obtain ⟨e1, e2, e3⟩ := slice_still (P := P) (lo := lo.map a.eval) (hi := hi.map a.eval) h.h ht hti (opd_rep h h1) (hbs h2) (by simpa [ev] using he) hp
        exact wp_still h (by simp only [execOp, hop]; rfl) e1 e2 e3 hd hR
      · cases hs
  | fieldAddr s x f =>
    rw [hop] at hs
    simp only [slimOp] at hs
    split at hs
    · rename_i fields hf
      simp only [Option.bind_eq_some_iff] at hs
      obtain ⟨fd, hfd, ti, hti, hs⟩ := hs
      split at hs
      · cases hs
      · rename_i hne
        cases hs
        obtain ⟨args, res, ho, he, hp, hR⟩ := stepW_ev (by simp) (by simp) hw
        obtain ⟨d, rfl, hx⟩ := opds1 ho
        obtain ⟨e1, e2, e3⟩ := faddr_still (P := P) h.h hf hfd hti hne (opd_rep h hx) he hp
        exact wp_still h (by simp only [execOp, hop]) e1 e2 e3 hd hR
    · cases hs
  | field s x f =>
    rw [hop] at hs
    simp only [slimOp] at hs
    split at hs
    · rename_i fields hf
      simp only [Option.bind_eq_some_iff, Option.map_eq_some_iff] at hs
      obtain ⟨fd, hfd, ti, hti, dt, hdt, hs⟩ := hs
      cases hs
      obtain ⟨args, res, ho, he, hp, hR⟩ := stepW_ev (by simp) (by simp) hw
      obtain ⟨d, rfl, hx⟩ := opds1 ho
      obtain ⟨e1, e2, e3⟩ := field_still (P := P) hf hfd hti hdt (opd_rep h hx) he hp
      exact wp_still h (by simp only [execOp, hop]) e1 e2 e3 hd hR
    · cases hs
  | indexAddr t x ix =>
    rw [hop] at hs
    simp only [slimOp] at hs
    split at hs
    · rename_i e ht
      simp only [Option.map_eq_some_iff, Prod.mk.injEq] at hs
      obtain ⟨ti, hti, rfl, rfl⟩ := hs
      obtain ⟨args, res, ho, he, hp, hR⟩ := stepW_ev (by simp) (by simp) hw
      obtain ⟨d, e', rfl, h1, h2⟩ := opds2 ho
      obtain ⟨e1, e2, e3⟩ := iaddr_still (P := P) h.h ht hti (opd_rep h h1) (opd_rep h h2) he hp
      exact wp_still h (by simp only [execOp, hop]) e1 e2 e3 hd hR
    · rename_i m e ht
      simp only [Option.map_eq_some_iff, Prod.mk.injEq] at hs
      obtain ⟨ti, hti, rfl, rfl⟩ := hs
      obtain ⟨args, res, ho, he, hp, hR⟩ := stepW_ev (by simp) (by simp) hw
      obtain ⟨d, e', rfl, h1, h2⟩ := opds2 ho
      obtain ⟨e1, e2, e3⟩ := iarr_still (P := P) h.h ht hti (opd_rep h h1) (opd_rep h h2) he hp
      exact wp_still h (by simp only [execOp, hop]) e1 e2 e3 hd hR
    · cases hs
  | index t x ix =>
    rw [hop] at hs
    simp only [slimOp] at hs
    split at hs
    · rename_i m e ht
      simp only [Option.bind_eq_some_iff, Option.map_eq_some_iff] at hs
      obtain ⟨ti, hti, dt, hdt, hs⟩ := hs
      cases hs
      obtain ⟨args, res, ho, he, hp, hR⟩ := stepW_ev (by simp) (by simp) hw
      obtain ⟨d, e', rfl, h1, h2⟩ := opds2 ho
      obtain ⟨e1, e2, e3⟩ := index_still (P := P) ht hti hdt (opd_rep h h1) (opd_rep h h2) he hp
      exact wp_still h (by simp only [execOp, hop]) e1 e2 e3 hd hR
    · rename_i ht
      cases hs
      obtain ⟨args, res, ho, he, hp, hR⟩ := stepW_ev (by simp) (by simp) hw
      obtain ⟨d, e', rfl, h1, h2⟩ := opds2 ho
      obtain ⟨e1, e2, e3⟩ := sidx_still (P := P) ht (opd_rep h h1) (opd_rep h h2) he hp
      exact wp_still h (by simp only [execOp, hop]) e1 e2 e3 hd hR
    · cases hs
  | lookup t m k ok =>
    rw [hop] at hs
    simp only [slimOp] at hs
    split at hs
    · rename_i kt et ht
      split at hs
      · rename_i kk z dt hkk hz hdt
        cases hs
        obtain ⟨args, res, ho, he, hp, hR⟩ := stepW_ev (by simp) (by simp) hw
        obtain ⟨d, e', rfl, h1, h2⟩ := opds2 ho
        obtain ⟨e1, e2, e3⟩ := look_still (P := P) h.h ht hkk hz hdt (opd_rep h h1) (opd_rep h h2) he hp
        exact wp_still h (by simp only [execOp, hop]) e1 e2 e3 hd hR
      · cases hs
    · cases hs
  | mapUpdate t m k v =>
    rw [hop] at hs
    simp only [slimOp] at hs
    split at hs
    · rename_i kt et ht
      simp only [Option.map_eq_some_iff, Prod.mk.injEq] at hs
      obtain ⟨kk, hkk, rfl, rfl⟩ := hs
      obtain ⟨args, res, ho, he, hp, hR⟩ := stepW_ev (by simp) (by simp) hw
      obtain ⟨d, e, f, rfl, h1, h2, h3⟩ := opds3 ho
      obtain ⟨w', μ', hr, hh, hN, hL, _⟩ := mupd_out h.h ht hkk (opd_rep h h1) (opd_rep h h2) (opd_rep h h3) he hp
      exact wp_skip (by simp only [execOp, hop, Sem.run_bind, hr, Result.andThen, Sem.run_pure]) ⟨_, μ', hR, h.clr hh hN hL o.dst undef⟩
    · cases hs
  | extract x i =>
    rw [hop] at hs
    simp only [slimOp, Option.some.injEq, Prod.mk.injEq] at hs
    obtain ⟨rfl, rfl⟩ := hs
    obtain ⟨args, res, ho, he, hp, hR⟩ := stepW_ev (by simp) (by simp) hw
    obtain ⟨d, rfl, hx⟩ := opds1 ho
    obtain ⟨e1, e2, e3⟩ := extract_still (P := P) (opd_rep h hx) he hp
    exact wp_still h (by simp only [execOp, hop]) e1 e2 e3 hd hR
  | call c =>
    rw [hop] at hs
    have hex : ∀ d, (resolve a.eval c o.type).run P w = .ok d w → (execOp a.eval o).run P w = (invoke d.target d.args).run P w := fun d hd => by
      simp only [execOp, hop, Sem.run_bind, hd, Result.andThen]
    simp only [slimOp] at hs
    split at hs
    · -- a function by its name
      rename_i f hc
      split at hs
      · rename_i hix
        cases hs
        obtain ⟨args, res, ho, he, hp, hR⟩ := stepW_ev (by simp) (by simp) hw
        have hr := opds_rep h ho
        simp only [ev] at he
        unfold evIdxb at he
        split at he
        · rename_i s b
          cases he
          obtain ⟨hl, hv⟩ := hr
          obtain ⟨v0, hv0, hr0⟩ := hv 0 _ rfl
          obtain ⟨v1, hv1, hr1⟩ := hv 1 _ rfl
          obtain ⟨rfl, _⟩ := rep_val hr0
          obtain ⟨rfl, _⟩ := rep_val hr1
          have hargs : c.args.map a.eval = #[.string s, .int .u8 b] := by
            apply Array.ext'
            simp only [Array.toList_map] at hl ⊢
            match hq : c.args.toList.map a.eval, hl, hv0, hv1 with
            | [x, y], _, h0, h1 =>
              simp only [hq] at *
              simp at h0 h1
              rw [h0, h1]
          have hres : (resolve a.eval c o.type).run P w = .ok { target := .fn (.func f) #[], args := #[] ++ c.args.map a.eval } w := by
            simp [resolve, hc, Act.eval, Deferred.ofValue]
          unfold isIdxb at hix
          split at hix
          · rename_i fn hfn
            simp only [Bool.and_eq_true, beq_iff_eq] at hix
            obtain ⟨⟨hb, hnm⟩, hog⟩ := hix
            refine wp_value (v := .int .i64 (firstIdx s b.toNat.toUInt8)) ?_ ⟨_, μ, hR, h.put h.h (Nat.le_refl _) (Later.refl _ _) hd (.val rfl)⟩
            rw [hex _ hres]
            simp only [invoke, Array.append_empty, Array.empty_append, hargs]
            rw [run_callFunc_extern hfn (by rw [hnm]; rfl) hb (idxb_next hnm hog) (idxb_find hnm hog), run_indexByte_string]
            rfl
          · cases hix
        · cases he
      cases hs
      unfold stepW at hw
      split at hw
      · exact hw.elim
      · rename_i args hargs
        obtain ⟨hcall, hw⟩ := hw
        have hr := opds_rep h hargs
        have hres : (resolve a.eval c o.type).run P w = .ok { target := .fn (.func f) #[], args := #[] ++ c.args.map a.eval } w := by
          simp [resolve, hc, Act.eval, Deferred.ofValue]
        refine wp_enter (f := f) (args := c.args.map a.eval) ?_ ?_
        · rw [hex _ hres]
          simp only [invoke, Array.append_empty, Array.empty_append]
          exact run_callFunc hcall _
        · refine (hw w0 F S μ w (c.args.map a.eval) h.h (by simpa using hr)).mono ?_
          rintro e w' ⟨v, d, K', N', μ', rfl, hR, _, hh, hN, hL, hrep⟩
          exact ⟨v, rfl, _, μ', hR, h.put hh hN hL hd hrep⟩
    · -- a function value
      rename_i x hnf hc
      cases hs
      unfold stepW at hw
      split at hw
      · exact hw.elim
      · rename_i args hargs
        obtain ⟨d0, rest, rfl, hx, hrest⟩ := opds_cons hargs
        split at hw
        · rename_i f hf; cases hf
        · split at hw
          · rename_i f caps rest' heq
            simp only [List.cons.injEq] at heq
            obtain ⟨rfl, rfl⟩ := heq
            obtain ⟨hcall, hw⟩ := hw
            have hr := opds_rep h hrest
            obtain ⟨vals, hv, hvs, hvc⟩ := opd_rep h hx
            have hres : (resolve a.eval c o.type).run P w = .ok { target := .fn (.func f) vals, args := #[] ++ c.args.map a.eval } w := by
              simp [resolve, hc, hv, Deferred.ofValue]
            refine wp_enter (f := f) (args := c.args.map a.eval ++ vals) ?_ ?_
            · rw [hex _ hres]
              simp only [invoke, Array.empty_append]
              exact run_callFunc hcall _
            · refine (hw w0 F S μ w (c.args.map a.eval ++ vals) h.h ⟨?_, fun i d hi => ?_⟩).mono ?_
              · have := hr.1
                simp only [List.length_map, Array.length_toList] at this
                simp [hvs, this]
              · have hl := hr.1
                simp only [List.length_map, Array.length_toList] at hl
                by_cases hlt : i < rest.length
                · rw [List.getElem?_append_left hlt] at hi
                  obtain ⟨v, hv', hrv⟩ := hr.2 i d hi
                  refine ⟨v, ?_, hrv⟩
                  rw [Array.toList_append, List.getElem?_append_left (by simp; omega)]
                  simpa using hv'
                · rw [List.getElem?_append_right (by omega), List.getElem?_map] at hi
                  cases hci : caps[i - rest.length]? with
                  | none => simp [hci] at hi
                  | some id =>
                    simp [hci] at hi
                    subst hi
                    obtain ⟨hid, A, hA, hcur⟩ := hvc _ id hci
                    refine ⟨.pointer A, ?_, hid, Nat.zero_le _, A, rfl, fun h0 => hcur h0.symm⟩
                    rw [Array.toList_append, List.getElem?_append_right (by simp; omega)]
                    simp only [Array.toList_map, List.length_map, Array.length_toList]
                    rw [hl]
                    simpa using hA
              · rintro e w' ⟨v, d, K', N', μ', rfl, hR, _, hh, hN, hL, hrep⟩
                exact ⟨v, rfl, _, μ', hR, h.put hh hN hL hd hrep⟩
          · exact hw.elim
        · rename_i h1 h2; cases h2
        · rename_i h1 h2 h3
          exact absurd rfl h2
    · -- len
      rename_i hc
      split at hs
      all_goals first | (cases hs; done) | skip
      all_goals (
        rename_i x hty hca
        cases hs
        obtain ⟨args, res, ho, he, hp, hR⟩ := stepW_ev (by simp) (by simp) hw
        obtain ⟨d, rfl, hx⟩ := opds1 ho
        obtain ⟨t, ht0, ht⟩ := Option.bind_eq_some_iff.1 hty
        have hargs : c.args.map a.eval = #[a.eval x] := by
          apply Array.ext'
          rw [Array.toList_map, hca]
          rfl
        have hrep := opd_rep h hx
        obtain ⟨e1, e2, v, hv, hr⟩ := len_still (P := P) h.h ht (by first | (intro _; rfl) | (intro h; cases h)) (by first | (intro _; exact ⟨_, rfl⟩) | (intro h; cases h)) (by first | (intro _; exact ⟨_, _, rfl⟩) | (intro h; cases h)) ht0 (ty := o.type) hrep he hp
        rw [e1, e2] at hR
        refine wp_value (v := v) ?_ ⟨_, μ, hR, h.put h.h (Nat.le_refl _) (Later.refl _ _) hd hr⟩
        obtain ⟨cs, hres⟩ : ∃ cs, (resolve a.eval c o.type).run P w = .ok { target := .builtin .len c.argTypes o.type cs, args := c.args.map a.eval } w := ⟨_, by simp only [resolve, hc]; rfl⟩
        rw [hex _ hres, hargs]
        simp [invoke, builtin, hv])
    · -- clear
      rename_i hc
      split at hs
      · rename_i t x hat hca
        split at hs
        · rename_i e ht
          split at hs
          · rename_i ti z hti hz
            split at hs
            · rename_i hcond
              obtain ⟨hzs, hpos⟩ := hcond
              cases hs
              obtain ⟨args, res, ho, he, hp, hR⟩ := stepW_ev (by simp) (by simp) hw
              obtain ⟨d, rfl, h1⟩ := opds1 ho
              have hargs : c.args.map a.eval = #[a.eval x] := by
                apply Array.ext'
                rw [Array.toList_map, hca]
                rfl
              have hats : c.argTypes = #[t] := by
                apply Array.ext'
                rw [hat]
              obtain ⟨v, w', μ', hv, hh, hN, hL, hr⟩ := clear_out (P := P) h.h (ty := o.type) ht hti hz hzs hpos (opd_rep h h1) he hp
              refine wp_value (v := v) (w' := w') ?_ ⟨_, μ', hR, h.put hh hN hL hd hr⟩
              obtain ⟨cs, hres⟩ : ∃ cs, (resolve a.eval c o.type).run P w = .ok { target := .builtin .clear c.argTypes o.type cs, args := c.args.map a.eval } w := ⟨_, by simp only [resolve, hc]; rfl⟩
              rw [hex _ hres]
              rw [hargs, hats]
              simp [invoke, builtin, hv]
            · cases hs
          · cases hs
        · cases hs
      · cases hs
    · -- max
      rename_i hc
      cases hs
      obtain ⟨args, res, ho, he, hp, hR⟩ := stepW_ev (by simp) (by simp) hw
      obtain ⟨h1, h2⟩ := opds_rep h ho
      obtain ⟨e1, e2, v, hv, hr⟩ := maxmin_still (P := P) (mx := true) (ats := c.argTypes) (ty := o.type) h1 h2 he hp
      rw [e1, e2] at hR
      refine wp_value (v := v) ?_ ⟨_, μ, hR, h.put h.h (Nat.le_refl _) (Later.refl _ _) hd hr⟩
      obtain ⟨cs, hres⟩ : ∃ cs, (resolve a.eval c o.type).run P w = .ok { target := .builtin .max c.argTypes o.type cs, args := c.args.map a.eval } w := ⟨_, by simp only [resolve, hc]; rfl⟩
      rw [hex _ hres]
      have e3 : (c.args.toList.map a.eval).toArray = c.args.map a.eval := by apply Array.ext'; simp
      rw [e3] at hv
      simp only [if_true] at hv
      simp [invoke, builtin, hv]
    · -- min
      rename_i hc
      cases hs
      obtain ⟨args, res, ho, he, hp, hR⟩ := stepW_ev (by simp) (by simp) hw
      obtain ⟨h1, h2⟩ := opds_rep h ho
      obtain ⟨e1, e2, v, hv, hr⟩ := maxmin_still (P := P) (mx := false) (ats := c.argTypes) (ty := o.type) h1 h2 he hp
      rw [e1, e2] at hR
      refine wp_value (v := v) ?_ ⟨_, μ, hR, h.put h.h (Nat.le_refl _) (Later.refl _ _) hd hr⟩
      obtain ⟨cs, hres⟩ : ∃ cs, (resolve a.eval c o.type).run P w = .ok { target := .builtin .min c.argTypes o.type cs, args := c.args.map a.eval } w := ⟨_, by simp only [resolve, hc]; rfl⟩
      rw [hex _ hres]
      have e3 : (c.args.toList.map a.eval).toArray = c.args.map a.eval := by apply Array.ext'; simp
      rw [e3] at hv
      simp only [Bool.false_eq_true, if_false] at hv
      simp [invoke, builtin, hv]
    · -- append
      rename_i hc
      split at hs
      · rename_i t t' x y hat hca
        split at hs
        · rename_i htt
          subst htt
          split at hs
          · rename_i e ht
            split at hs
            · rename_i ti z hti hz
              split at hs
              · rename_i hcond
                obtain ⟨hzs, hpos, hbp⟩ := hcond
                cases hs
                obtain ⟨args, res, ho, he, hp, hR⟩ := stepW_ev (by simp) (by simp) hw
                obtain ⟨d, d', rfl, h1, h2⟩ := opds2 ho
                have hargs : c.args.map a.eval = #[a.eval x, a.eval y] := by
                  apply Array.ext'
                  rw [Array.toList_map, hca]
                  rfl
                have hats : c.argTypes = #[t, t] := by
                  apply Array.ext'
                  rw [hat]
                obtain ⟨v, w', μ', hv, hh, hN, hL, hr⟩ := append_out (P := P) h.h (ty := o.type) ht hti hz hzs hpos hbp (opd_rep h h1) (opd_rep h h2) he hp
                refine wp_value (v := v) (w' := w') ?_ ⟨_, μ', hR, h.put hh hN hL hd hr⟩
                obtain ⟨cs, hres⟩ : ∃ cs, (resolve a.eval c o.type).run P w = .ok { target := .builtin .append c.argTypes o.type cs, args := c.args.map a.eval } w := ⟨_, by simp only [resolve, hc]; rfl⟩
                rw [hex _ hres]
                rw [hargs, hats]
                simp [invoke, builtin, hv]
              · cases hs
            · cases hs
          · cases hs
        · cases hs
      · cases hs
    · cases hs
  | _ => rw [hop] at hs; cases hs

end
end Go.Proofs.Yticflcpmlbaafaa.AL

/- AL: regions, in the order of the text or in whatever order is drawn. -/
set_option linter.unusedSimpArgs false
set_option linter.unusedVariables false
namespace Go.Proofs.Yticflcpmlbaafaa.AL
open Go

/-- An operation stands behind another one by the edges that always bind. -/
inductive Behind (ops : Array Oper) : Nat → Nat → Prop
  | one {k : Nat} {o : Oper} {e : Edge} : ops[k]? = some o → e ∈ o.after → Region.binds .any e = true → Behind ops k e.on
  | step {k j : Nat} {o : Oper} {e : Edge} : ops[k]? = some o → e ∈ o.after → Region.binds .any e = true → Behind ops e.on j → Behind ops k j

theorem fold_bits (acc : Array Nat) : ∀ (l : List Edge) (s j : Nat), (l.foldl (fun s e => if Region.binds .any e then s ||| 2 ^ e.on ||| acc.getD e.on 0 else s) s).testBit j = true →
    s.testBit j = true ∨ ∃ e ∈ l, Region.binds .any e = true ∧ (e.on = j ∨ (acc.getD e.on 0).testBit j = true)
  | [], s, j, h => .inl h
  | e :: l, s, j, h => by
    simp only [List.foldl_cons] at h
    rcases fold_bits acc l _ j h with h1 | ⟨e', he', hb, h2⟩
    · split at h1
      · rename_i hb
        simp only [Nat.testBit_or, Nat.testBit_two_pow, Bool.or_eq_true, decide_eq_true_eq] at h1
        rcases h1 with (h1 | h1) | h1
        · exact .inl h1
        · exact .inr ⟨e, by simp, hb, .inl h1⟩
        · exact .inr ⟨e, by simp, hb, .inr h1⟩
      · exact .inl h1
    · exact .inr ⟨e', by simp [he'], hb, h2⟩

theorem before_spec (ops : Array Oper) {k j : Nat} (h : ((Region.before ops).getD k 0).testBit j = true) : Behind ops k j := by
  have key : ∀ (rest pre : List Oper) (acc : Array Nat), ops.toList = pre ++ rest → acc.size = pre.length → (∀ k j, (acc.getD k 0).testBit j = true → Behind ops k j) →
      ∀ k j, ((rest.foldl (fun acc o => acc.push (o.after.foldl (fun s e => if Region.binds .any e then s ||| 2 ^ e.on ||| acc.getD e.on 0 else s) 0)) acc).getD k 0).testBit j = true → Behind ops k j := by
    intro rest
    induction rest with
    | nil => intro pre acc _ _ h k j hk; exact h k j hk
    | cons o rest ih =>
      intro pre acc he hsz h k j hk
      simp only [List.foldl_cons] at hk
      refine ih (pre ++ [o]) _ (by rw [he]; simp) (by simp [hsz]) (fun k j hkj => ?_) k j hk
      simp only [Array.getD_eq_getD_getElem?, Array.getElem?_push] at hkj
      split at hkj
      · rename_i hks
        subst hks
        have ho : ops[acc.size]? = some o := by
          have : ops.toList[acc.size]? = some o := by rw [he, hsz]; simp
          simpa using this
        simp only [Option.getD_some, ← Array.foldl_toList] at hkj
        rcases fold_bits acc o.after.toList 0 j (by simpa only [Array.getD_eq_getD_getElem?] using hkj) with h1 | ⟨e, hm, hb, h1 | h1⟩
        · simp at h1
        · subst h1
          exact .one ho (by simpa using hm) hb
        · exact .step ho (by simpa using hm) hb (h _ _ h1)
      · exact h k j (by simpa only [Array.getD_eq_getD_getElem?] using hkj)
  have := key ops.toList [] #[] rfl rfl (fun k j h => by simp at h)
  refine this k j ?_
  rw [Array.foldl_toList]
  exact h

section
variable {P : Program} {dl : List Deferred} {w0 : World} {F S : Nat → Prop} {st : St} {μ : Nat → Loc} {a : Act} {w : World} {n N0 : Nat} {μ0 : Nat → Loc} {R : St → Prop} {Q : Exit → Act → World → Prop} {q : Bool} {ops : Array Oper}

theorem stepW_mono {s : SOp} {R R' : St → Prop} (hR : ∀ st, R st → R' st) (h : stepW P q s st R) : stepW P q s st R' := by
  unfold stepW at *
  split at h
  · exact h.elim
  · rename_i args hargs
    have cm : ∀ {f args'}, CallW P q f args' st.K st.N (fun d K N => R ⟨updO st.tm s.dst d, K, N⟩) → CallW P q f args' st.K st.N (fun d K N => R' ⟨updO st.tm s.dst d, K, N⟩) := by
      rintro f args' ⟨h1, h2⟩
      refine ⟨h1, fun w0 F S μ w vs hh ha => (h2 w0 F S μ w vs hh ha).mono ?_⟩
      rintro e w' ⟨v, d, K', N', μ', he, hr, rest⟩
      exact ⟨v, d, K', N', μ', he, hR _ hr, rest⟩
    split
    · rename_i f hf
      simp only [hf] at h
      exact cm h
    · rename_i hf
      simp only [hf] at h
      split at h
      · exact cm h
      · exact h.elim
    · rename_i b hf
      simp only [hf] at h
      exact isnilW_mono (fun _ h => hR _ h) h
    · rename_i h1 h2 h3
      split at h
      · rename_i f hf; exact absurd hf (h1 f)
      · rename_i hf; exact absurd hf h2
      · rename_i b hf; exact absurd hf (h3 b)
      · split at h
        · exact ⟨h.1, hR _ h.2⟩
        · exact h.elim

theorem opW_mono {s : SOp} {R R' : St → Prop} (hR : ∀ st, R st → R' st) (h : opW P q s st R) : opW P q s st R' := by
  unfold opW at *
  split
  · rename_i hg
    simp only [hg] at h
    exact stepW_mono hR h
  · rename_i t b hg
    simp only [hg] at h
    split at h
    · rename_i b' hb
      exact ⟨fun e => stepW_mono hR (h.1 e), fun e => hR _ (h.2 e)⟩
    · exact hR _ h
    · exact h.elim

theorem AW_mono : ∀ {l : List SOp} {st : St} {R R' : St → Prop}, (∀ st, R st → R' st) → AW P q l st R → AW P q l st R'
  | [], st, R, R', hR, h => hR _ h
  | s :: l, st, R, R', hR, h => opW_mono (fun st' h' => AW_mono hR h') h

/-- One operation, guarded or not. -/
theorem opW_sound (h : Rel dl n w0 F S N0 μ0 st μ a w) {o : Oper} {s : SOp} (hs : slim1 P ops o = some s) (hw : opW P q s st R) (hd : ∀ t, o.dst = some t → t < n) :
    if Region.wanted o (yielded ops a.tmps) then o.wp P a w (Post dl n w0 F S N0 μ0 R) Q else Post dl n w0 F S N0 μ0 R (a.put o.dst undef) w := by
  unfold slim1 at hs
  split at hs
  · rename_i so xs hop
    split at hs
    · rename_i hg
      cases hs
      have : Region.wanted o (yielded ops a.tmps) = true := by simp [Region.wanted, hg]
      rw [this, if_pos rfl]
      unfold opW at hw
      exact op_sound h hop hw hd
    · rename_i j b hg
      simp only [Option.map_eq_some_iff] at hs
      obtain ⟨t, ht, rfl⟩ := hs
      unfold opW at hw
      simp only at hw
      split at hw
      · rename_i b' hb'
        have hv := h.tm t _ hb'
        obtain ⟨hv, _⟩ := rep_val hv
        have hy : yielded ops a.tmps j = some b' := by
          unfold yielded
          rw [ht]
          simp only [Option.bind_some]
          have : a.tmps[t]? = some (.bool b') := by
            rw [Array.getD_eq_getD_getElem?] at hv
            cases hx : a.tmps[t]? with
            | none => rw [hx] at hv; cases hv
            | some x => rw [hx] at hv; rw [← hv]; rfl
          rw [this]
        have hwn : Region.wanted o (yielded ops a.tmps) = (some b' == some b) := by simp [Region.wanted, hg, hy]
        rw [hwn]
        by_cases e : b' = b
        · subst e
          rw [if_pos (by simp)]
          exact op_sound h hop (hw.1 rfl) hd
        · rw [if_neg (by simpa using e)]
          have e' : b' = !b := by cases b' <;> cases b <;> simp_all
          exact ⟨_, μ, hw.2 e', h.put h.h (Nat.le_refl _) (Later.refl _ _) hd ⟨#[], rfl, rfl, fun i d hi => by simp at hi⟩⟩
      · rename_i hb'
        obtain ⟨vs, hv, hvs, _⟩ := h.tm t _ hb'
        have hy : yielded ops a.tmps j = none := by
          unfold yielded
          rw [ht]
          simp only [Option.bind_some]
          rw [Array.getD_eq_getD_getElem?] at hv
          cases hx : a.tmps[t]? with
          | none => rfl
          | some x => rw [hx] at hv; simp only [Option.getD_some] at hv; rw [hv]
        have hwn : Region.wanted o (yielded ops a.tmps) = false := by simp [Region.wanted, hg, hy]
        rw [hwn]
        exact ⟨_, μ, hw, h.put h.h (Nat.le_refl _) (Later.refl _ _) hd ⟨#[], rfl, rfl, fun i d hi => by simp at hi⟩⟩
      · exact hw.elim
  · cases hs

/-- All functions, however deep; in the round of a loop over a function, or in none. -/
abbrev FR (r : Option Nat) : Fence := { fn := fun _ => True, depth := none, alive := false, round := r }

theorem slim_defer {o : Oper} {s : SOp} (h : slim1 P ops o = some s) : ∀ c, o.op ≠ .defer c := fun c hc => by
  simp [slim1, slimOp, hc] at h

/-- An operation's walk, in a round as out of one. -/
theorem wpIn_of_wp {r : Option Nat} {o : Oper} {K : Act → World → Prop} (hd : ∀ c, o.op ≠ .defer c) (h : o.wp P a w K Q) : o.wpIn (FR r) 0 P a w K Q := by
  refine ⟨fun _ _ => trivial, ?_⟩
  rw [show (FR r).round = r from rfl, Oper.semAt_eq _ _ _ hd]
  unfold Oper.wp at h
  revert h
  generalize (execOp a.eval o).run P w = res
  intro h
  cases res with
  | ok nx w' =>
    cases nx with
    | value v => exact h
    | skip => exact h
    | «defer» d => exact h
    | enter f args =>
      refine ⟨fun hh => by simp at hh, ?_⟩
      have h' := (callsIn_wide (n := 0 - 1)).2 h
      have h2 : CallsIn (FR r) (0 - 1) P f args w' _ := h'
      exact h2.mono fun e w'' hq => by cases e <;> exact hq
    | row row args =>
      refine ⟨fun hh => by simp at hh, fun c cs _ => ?_⟩
      obtain ⟨v, w'', hq, hs⟩ := h c cs
      exact ⟨v, w'', hq, stepsIn_wide.2 hs⟩
    | _ => exact h.elim
  | halt p w' =>
    cases p with
    | panic v => exact h
    | _ => exact h.elim

def dstsOk (n : Nat) (ops : Array Oper) : Prop := ∀ (i : Nat) (o : Oper) (t : Nat), ops[i]? = some o → o.dst = some t → t < n

theorem AW_ops {r : Option Nat} (hd : dstsOk n ops) : ∀ (is : List Nat) (l : List SOp) (st : St) (μ : Nat → Loc) (a : Act) (w : World), (is.map fun i => (ops[i]?).bind (slim1 P ops)) = l.map some → AW P q l st R → Rel dl n w0 F S N0 μ0 st μ a w →
    (∀ a w, Post dl n w0 F S N0 μ0 R a w → Q .normal a w) → wpOpsIn (FR r) 0 P ops Q is a w
  | [], [], st, μ, a, w, hm, hA, h, hQ => hQ a w ⟨st, μ, hA, h⟩
  | [], s :: l, st, μ, a, w, hm, hA, h, hQ => by simp at hm
  | i :: is, [], st, μ, a, w, hm, hA, h, hQ => by simp at hm
  | i :: is, s :: l, st, μ, a, w, hm, hA, h, hQ => by
    simp only [List.map_cons, List.cons.injEq] at hm
    obtain ⟨h0, hm⟩ := hm
    obtain ⟨o, ho, hs⟩ := Option.bind_eq_some_iff.1 h0
    have hone := opW_sound (Q := Q) h hs hA (fun t ht => hd i o t ho ht)
    simp only [wpOpsIn, ho]
    have hnext : ∀ a w, Post dl n w0 F S N0 μ0 (fun st' => AW P q l st' R) a w → wpOpsIn (FR r) 0 P ops Q is a w := by
      rintro a w ⟨st', μ', hA', h'⟩
      exact AW_ops hd is l st' μ' a w hm hA' h' hQ
    split at hone
    · rename_i hw
      rw [if_pos hw]
      exact Oper.wpIn_mono hnext (wpIn_of_wp (slim_defer hs) hone)
    · rename_i hw
      rw [if_neg hw]
      exact ⟨fun _ _ => trivial, hnext _ _ hone⟩

theorem AW_opsThen {r : Option Nat} (hd : dstsOk n ops) (is2 : List Nat) : ∀ (is : List Nat) (l : List SOp) (st : St) (μ : Nat → Loc) (a : Act) (w : World), (is.map fun i => (ops[i]?).bind (slim1 P ops)) = l.map some → AW P q l st R → Rel dl n w0 F S N0 μ0 st μ a w →
    (∀ a w, Post dl n w0 F S N0 μ0 R a w → wpOpsIn (FR r) 0 P ops Q is2 a w) → wpOpsIn (FR r) 0 P ops Q (is ++ is2) a w
  | [], [], st, μ, a, w, hm, hA, h, hQ => hQ a w ⟨st, μ, hA, h⟩
  | [], s :: l, st, μ, a, w, hm, hA, h, hQ => by simp at hm
  | i :: is, [], st, μ, a, w, hm, hA, h, hQ => by simp at hm
  | i :: is, s :: l, st, μ, a, w, hm, hA, h, hQ => by
    simp only [List.map_cons, List.cons.injEq] at hm
    obtain ⟨h0, hm⟩ := hm
    obtain ⟨o, ho, hs⟩ := Option.bind_eq_some_iff.1 h0
    have hone := opW_sound (Q := Q) h hs hA (fun t ht => hd i o t ho ht)
    simp only [List.cons_append, wpOpsIn, ho]
    have hnext : ∀ a w, Post dl n w0 F S N0 μ0 (fun st' => AW P q l st' R) a w → wpOpsIn (FR r) 0 P ops Q (is ++ is2) a w := by
      rintro a w ⟨st', μ', hA', h'⟩
      exact AW_opsThen hd is2 is l st' μ' a w hm hA' h' hQ
    split at hone
    · rename_i hw
      rw [if_pos hw]
      exact Oper.wpIn_mono hnext (wpIn_of_wp (slim_defer hs) hone)
    · rename_i hw
      rw [if_neg hw]
      exact ⟨fun _ _ => trivial, hnext _ _ hone⟩

end
end Go.Proofs.Yticflcpmlbaafaa.AL

/- AL: two operations in the other order. -/
set_option linter.unusedSimpArgs false
set_option linter.unusedVariables false
namespace Go.Proofs.Yticflcpmlbaafaa.AL
open Go

def isRow : AObj → Bool
  | .row _ _ _ => true
  | _ => false

/-- What an operation of kind k leaves as it was. -/
def Agree (k : Nat) (K K2 : KMap) : Prop := ∀ id o, K id = some o → (k = 3 → isRow o = false) → (k = 6 → isRow o = true) → K2 id = some o

/-- What an operation of kind k looks at is there still. -/
def Sees (k : Nat) (K K2 : KMap) : Prop := (k = 1 ∨ k = 5 → ∀ id v s xs, K id = some (.row v s xs) → K2 id = some (.row v s xs)) ∧ (k = 4 ∨ k = 5 → ∀ id es, K id = some (.map es) → K2 id = some (.map es))

theorem ev_still {o : SO} (hk : stillK o.kind = true) {args : List T} {K K2 : KMap} {N N2 : Nat} {r : Res} (he : ev o args K N = some r) (hs : Sees o.kind K K2) :
    r.K = K ∧ r.N = N ∧ ev o args K2 N2 = some ⟨r.pre, r.val, K2, N2⟩ := by
  obtain ⟨hrow, hmap⟩ := hs
  cases o with
  | mv => simp only [ev] at he ⊢; split at he <;> first | (cases he; (refine ⟨?_, ?_, ?_⟩ <;> first | rfl | trivial)) | cases he
  | pick => simp only [ev, evPick] at he ⊢; split at he <;> first | (cases he; (refine ⟨?_, ?_, ?_⟩ <;> first | rfl | trivial)) | cases he
  | box | alloc | bslice | mkmap | mkslice | call | callv | isnil | store | append | mupd | clear => simp [SO.kind, stillK] at hk
  | build z ps => simp only [ev] at he ⊢; split at he <;> first | (rename_i cs hc; cases he; (try simp only [hc]); refine ⟨?_, ?_, ?_⟩ <;> first | rfl | trivial) | cases he
  | load ag size =>
    simp only [ev, evLoad] at he ⊢
    split at he
    · rename_i id ver i f
      split at he
      · rename_i ver' sz xs hk
        cases he
        have := hrow (.inl rfl) _ _ _ _ hk
        simp only [this]
        (refine ⟨?_, ?_, ?_⟩ <;> first | rfl | trivial)
      · cases he
    · cases he; (refine ⟨?_, ?_, ?_⟩ <;> first | rfl | trivial)
    · cases he
  | nilc =>
    simp only [ev, evNilc] at he ⊢
    split at he
    · rename_i id ver i f
      split at he
      · rename_i ver' sz xs hk
        cases he
        have := hrow (.inl rfl) _ _ _ _ hk
        simp only [this]
        (refine ⟨?_, ?_, ?_⟩ <;> first | rfl | trivial)
      · cases he
    · cases he; (refine ⟨?_, ?_, ?_⟩ <;> first | rfl | trivial)
    · cases he; (refine ⟨?_, ?_, ?_⟩ <;> first | rfl | trivial)
    · cases he
  | bin op =>
    simp only [ev, evBin] at he ⊢
    split at he
    · cases op <;> first | (cases he; (refine ⟨?_, ?_, ?_⟩ <;> first | rfl | trivial)) | cases he
    · cases op <;> first | (cases he; (refine ⟨?_, ?_, ?_⟩ <;> first | rfl | trivial)) | cases he
    · cases he
  | binb op =>
    simp only [ev, evEqb] at he ⊢
    split at he
    · cases op <;> first | (cases he; (refine ⟨?_, ?_, ?_⟩ <;> first | rfl | trivial)) | cases he
    · cases he
  | eqs neg fs =>
    simp only [ev, evEqs] at he ⊢
    split at he
    · split at he <;> first | (rename_i p e hc; cases he; (try simp only [hc]); refine ⟨?_, ?_, ?_⟩ <;> first | rfl | trivial) | cases he
    · cases he
  | un op =>
    simp only [ev, evUn] at he ⊢
    split at he
    · cases op <;> first | (cases he; (refine ⟨?_, ?_, ?_⟩ <;> first | rfl | trivial)) | cases he
    · cases op <;> first | (cases he; (refine ⟨?_, ?_, ?_⟩ <;> first | rfl | trivial)) | cases he
    · cases he
  | conv k => simp only [ev, evConv] at he ⊢; split at he <;> first | (cases he; (refine ⟨?_, ?_, ?_⟩ <;> first | rfl | trivial)) | cases he
  | mkfn f => simp only [ev, evMkfn] at he ⊢; split at he <;> first | (rename_i ids hc; cases he; (try simp only [hc]); refine ⟨?_, ?_, ?_⟩ <;> first | rfl | trivial) | cases he
  | slice sz lo hi =>
    simp only [ev, evSlice] at he ⊢
    split at he
    · split at he <;> first | (rename_i l h' hb; cases he; (try simp only [hb]); refine ⟨?_, ?_, ?_⟩ <;> first | rfl | trivial) | cases he
    · split at he
      · rename_i ver' sz' xs l h' hk hb
        cases he
        have := hrow (.inl rfl) _ _ _ _ hk
        simp only [this, hb]
        (refine ⟨?_, ?_, ?_⟩ <;> first | rfl | trivial)
      · cases he
    · cases he
  | sslice lo hi =>
    simp only [ev, evSslice] at he ⊢
    split at he
    · split at he <;> first | (rename_i l h' hb; cases he; (try simp only [hb]); refine ⟨?_, ?_, ?_⟩ <;> first | rfl | trivial) | cases he
    · cases he
  | faddr off =>
    simp only [ev, evFaddr] at he ⊢
    split at he
    · rename_i id ver i f
      split at he
      · rename_i ver' sz xs hk
        cases he
        have := hrow (.inl rfl) _ _ _ _ hk
        simp only [this]
        (refine ⟨?_, ?_, ?_⟩ <;> first | rfl | trivial)
      · cases he
    · cases he; (refine ⟨?_, ?_, ?_⟩ <;> first | rfl | trivial)
    · cases he
  | field ag off size => simp only [ev, evField] at he ⊢; split at he <;> first | (cases he; (refine ⟨?_, ?_, ?_⟩ <;> first | rfl | trivial)) | cases he
  | iaddr sz =>
    simp only [ev, evIaddr] at he ⊢
    split at he
    · cases he; (refine ⟨?_, ?_, ?_⟩ <;> first | rfl | trivial)
    · split at he
      · rename_i ver' sz' xs hk
        cases he
        have := hrow (.inl rfl) _ _ _ _ hk
        simp only [this]
        (refine ⟨?_, ?_, ?_⟩ <;> first | rfl | trivial)
      · cases he
    · cases he
  | iarr n sz =>
    simp only [ev, evIarr] at he ⊢
    split at he
    · split at he
      · rename_i ver' sz' xs hk
        cases he
        have := hrow (.inl rfl) _ _ _ _ hk
        simp only [this]
        (refine ⟨?_, ?_, ?_⟩ <;> first | rfl | trivial)
      · cases he
    · cases he
  | index n ag size => simp only [ev, evIndex] at he ⊢; split at he <;> first | (cases he; (refine ⟨?_, ?_, ?_⟩ <;> first | rfl | trivial)) | cases he
  | sidx => simp only [ev, evSidx] at he ⊢; split at he <;> first | (cases he; (refine ⟨?_, ?_, ?_⟩ <;> first | rfl | trivial)) | cases he
  | idxb => simp only [ev, evIdxb] at he ⊢; split at he <;> first | (cases he; (refine ⟨?_, ?_, ?_⟩ <;> first | rfl | trivial)) | cases he
  | look kk ok ag z =>
    simp only [ev, evLook] at he ⊢
    split at he
    · split at he
      · rename_i es k hk hkey
        cases he
        have := hmap (.inl rfl) _ _ hk
        simp only [this, hkey]
        (refine ⟨?_, ?_, ?_⟩ <;> first | rfl | trivial)
      · cases he
    · cases he
  | extract i => simp only [ev, evExtract] at he ⊢; split at he <;> first | (cases he; (refine ⟨?_, ?_, ?_⟩ <;> first | rfl | trivial)) | cases he
  | len k =>
    simp only [ev, evLen] at he ⊢
    split at he
    · cases he; (refine ⟨?_, ?_, ?_⟩ <;> first | rfl | trivial)
    · cases he; (refine ⟨?_, ?_, ?_⟩ <;> first | rfl | trivial)
    · cases he; (refine ⟨?_, ?_, ?_⟩ <;> first | rfl | trivial)
    · cases he; (refine ⟨?_, ?_, ?_⟩ <;> first | rfl | trivial)
    · split at he
      · rename_i es hk
        cases he
        have := hmap (.inr rfl) _ _ hk
        simp only [this]
        (refine ⟨?_, ?_, ?_⟩ <;> first | rfl | trivial)
      · cases he
    · cases he
  | max => simp only [ev, evMaxMin] at he ⊢; split at he <;> first | (cases he; (refine ⟨?_, ?_, ?_⟩ <;> first | rfl | trivial)) | cases he
  | min => simp only [ev, evMaxMin] at he ⊢; split at he <;> first | (cases he; (refine ⟨?_, ?_, ?_⟩ <;> first | rfl | trivial)) | cases he

def WF (K : KMap) (N : Nat) : Prop := ∀ id o, K id = some o → id < N

theorem agree_new {k : Nat} {K : KMap} {N : Nat} (h : WF K N) (o : AObj) : Agree k K (upd K N o) := fun id o' hk _ _ => by
  have := h id o' hk
  rw [upd_ne _ _ (by omega)]
  exact hk
theorem agree_row {k : Nat} (hk3 : k = 3) {K : KMap} {id : Nat} {v s : Nat} {xs : List (List C)} (h : K id = some (.row v s xs)) (o : AObj) : Agree k K (upd K id o) := fun id' o' hk h3 _ => by
  have : id' ≠ id := by
    rintro rfl
    rw [h] at hk
    cases hk
    have := h3 hk3
    simp [isRow] at this
  rw [upd_ne _ _ this]
  exact hk
theorem agree_map {k : Nat} (hk6 : k = 6) {K : KMap} {id : Nat} {es : List (Value × V)} (h : K id = some (.map es)) (o : AObj) : Agree k K (upd K id o) := fun id' o' hk _ h6 => by
  have : id' ≠ id := by
    rintro rfl
    rw [h] at hk
    cases hk
    have := h6 hk6
    simp [isRow] at this
  rw [upd_ne _ _ this]
  exact hk

theorem ev_agree {o : SO} (hnc : ∀ f, o ≠ .call f) (hnv : o ≠ .callv) (hni : ∀ b, o ≠ .isnil b) {args : List T} {K : KMap} {N : Nat} (hw : WF K N) {r : Res} (he : ev o args K N = some r) : Agree o.kind K r.K := by
  by_cases hk : stillK o.kind = true
  · obtain ⟨h1, _, _⟩ := ev_still (K2 := K) (N2 := N) hk he ⟨fun _ _ _ _ _ h => h, fun _ _ _ h => h⟩
    rw [h1]
    exact fun id o' hk _ _ => hk
  · cases o with
    | box => simp only [ev] at he; split at he <;> first | (cases he; exact agree_new hw _) | cases he
    | alloc z => simp only [ev] at he; split at he <;> first | (cases he; exact agree_new hw _) | cases he
    | bslice sz z n ps => simp only [ev] at he; split at he <;> first | (cases he; exact agree_new hw _) | cases he
    | mkmap => simp only [ev] at he; split at he <;> first | (cases he; exact agree_new hw _) | cases he
    | mkslice sz b z => simp only [ev, evMkslice] at he; split at he <;> first | (cases he; exact agree_new hw _) | cases he
    | store size =>
      simp only [ev, evStore] at he
      split at he
      · split at he
        · rename_i ver' sz xs hk'; cases he; exact agree_row rfl hk' _
        · cases he
      · cases he
    | clear size =>
      simp only [ev, evClear] at he
      split at he
      · split at he
        · rename_i ver' sz xs hk'; cases he; exact agree_row rfl hk' _
        · cases he
      · cases he
    | mupd kk =>
      simp only [ev, evMupd] at he
      split at he
      · split at he
        · rename_i es k hk' hkey; cases he; exact agree_map rfl hk' _
        · cases he
      · cases he
    | append sz b z =>
      simp only [ev, evAppend] at he
      split at he
      · split at he
        · cases he; exact agree_new hw _
        · split at he <;> first | (cases he; exact agree_new hw _) | cases he
      · split at he
        · rename_i ver' sz' xs sz'' ys p hk' hs'; cases he; exact agree_row rfl hk' _
        · split at he <;> first | (cases he; exact fun id o' hk _ _ => hk) | cases he
        · cases he
      · cases he
    | call f => exact absurd rfl (hnc f)
    | callv => exact absurd rfl hnv
    | isnil b => exact absurd rfl (hni b)
    | _ => exact absurd rfl hk

section
variable {P : Program} {st : St} {R : St → Prop}

theorem opW_agree {s : SOp} (hw : WF st.K st.N) (h : opW P true s st R) : opW P true s st fun st2 => R st2 ∧ Agree s.op.kind st.K st2.K := by
  have cm : ∀ {f : FuncId} {args' : List T} {R : T → KMap → Nat → Prop}, CallW P true f args' st.K st.N R → CallW P true f args' st.K st.N (fun d K N => R d K N ∧ Agree 2 st.K K) := by
    rintro f args' R ⟨h1, h2⟩
    refine ⟨h1, fun w0 F S μ w vs hh ha => (h2 w0 F S μ w vs hh ha).mono ?_⟩
    rintro e w' ⟨v, d, K', N', μ', he, hr, hq, rest⟩
    exact ⟨v, d, K', N', μ', he, ⟨hr, fun id o hk _ _ => by rw [hq rfl id (hw id o hk)]; exact hk⟩, hq, rest⟩
  have hst : stepW P true s st R → stepW P true s st fun st2 => R st2 ∧ Agree s.op.kind st.K st2.K := by
    intro h
    unfold stepW at *
    split at h
    · exact h.elim
    · rename_i args hargs
      split
      · rename_i f hf
        simp only [hf] at h
        simp only [hf]
        exact cm h
      · rename_i hf
        simp only [hf] at h
        split at h
        · simp only [hf]; exact cm h
        · exact h.elim
      · rename_i b hf
        simp only [hf] at h
        exact isnilW_mono (fun _ h => ⟨h, fun id o hk _ _ => hk⟩) h
      · rename_i h1 h2 h3
        split at h
        · rename_i f hf; exact absurd hf (h1 f)
        · rename_i hf; exact absurd hf h2
        · rename_i b hf; exact absurd hf (h3 b)
        · split at h
          · rename_i r hr
            exact ⟨h.1, h.2, ev_agree h1 h2 h3 hw hr⟩
          · exact h.elim
  unfold opW at *
  split
  · rename_i hg
    simp only [hg] at h
    exact hst h
  · rename_i t b hg
    simp only [hg] at h
    split at h
    · exact ⟨fun e => hst (h.1 e), fun e => ⟨h.2 e, fun id o hk _ _ => hk⟩⟩
    · exact ⟨h, fun id o hk _ _ => hk⟩
    · exact h.elim

/-- A change of the temporaries that an operation neither sees nor makes itself. -/
structure Away (s : SOp) (m : (Nat → Option T) → (Nat → Option T)) : Prop where
  reads : ∀ tm t, t ∈ s.reads → m tm t = tm t
  upd : ∀ tm v, updO (m tm) s.dst v = m (updO tm s.dst v)
  clr : ∀ tm, clrO (m tm) s.dst = m (clrO tm s.dst)

theorem opds_same {tm tm' : Nat → Option T} : ∀ {l : List Operand}, (∀ t, t ∈ tmpsOf l → tm' t = tm t) → opds tm' l = opds tm l
  | [], h => rfl
  | x :: l, h => by
    have ih := opds_same (tm := tm) (tm' := tm') (l := l) (fun t ht => h t (by cases x <;> simp [tmpsOf, ht]))
    have hx : opd tm' x = opd tm x := by
      cases x with
      | tmp t => exact h t (by simp [tmpsOf])
      | _ => rfl
    simp only [opds, ih, hx]

theorem opW_away {s : SOp} {m : (Nat → Option T) → (Nat → Option T)} (ha : Away s m) {q : Bool} (h : opW P q s ⟨m st.tm, st.K, st.N⟩ R) : opW P q s st fun st2 => R ⟨m st2.tm, st2.K, st2.N⟩ := by
  have hargs : opds (m st.tm) s.args = opds st.tm s.args := opds_same fun t ht => ha.reads st.tm t (by simp [SOp.reads, ht])
  have hst : stepW P q s ⟨m st.tm, st.K, st.N⟩ R → stepW P q s st fun st2 => R ⟨m st2.tm, st2.K, st2.N⟩ := by
    intro h
    unfold stepW at *
    simp only [hargs] at h
    split
    · rename_i hn; simp only [hn] at h
    · rename_i args hargs'
      simp only [hargs'] at h
      split
      · rename_i f hf
        simp only [hf, ha.upd] at h
        exact h
      · rename_i hf
        simp only [hf, ha.upd] at h
        exact h
      · rename_i b hf
        simp only [hf, ha.upd] at h
        exact h
      · rename_i h1 h2 h3
        split at h
        · rename_i f hf; exact absurd hf (h1 f)
        · rename_i hf; exact absurd hf h2
        · rename_i b hf; exact absurd hf (h3 b)
        · split
          · rename_i r hr
            simp only [hr] at h
            refine ⟨h.1, ?_⟩
            have h3 := h.2
            split
            · rename_i hu; simp only [hu, if_true, ha.clr] at h3; exact h3
            · rename_i hu; simp only [hu, if_false, ha.upd] at h3; exact h3
          · rename_i hr; simp only [hr] at h
  unfold opW at *
  split
  · rename_i hg
    simp only [hg] at h
    exact hst h
  · rename_i t b hg
    simp only [hg] at h
    have ht : m st.tm t = st.tm t := ha.reads st.tm t (by simp [SOp.reads, hg])
    simp only [ht] at h
    split
    · rename_i b' hb
      simp only [hb] at h
      refine ⟨fun e => hst (h.1 e), fun e => ?_⟩
      have := h.2 e
      rw [ha.upd] at this
      exact this
    · rename_i hb
      simp only [hb] at h
      rw [ha.upd] at h
      exact h
    · rename_i hn hn2
      split at h
      · rename_i b' hb; exact absurd hb (hn b')
      · rename_i hb; exact absurd hb hn2
      · exact h.elim

theorem updO_comm {tm : Nat → Option T} {d e : Option Nat} {u v : T} (h : ∀ t, d = some t → e ≠ some t) : updO (updO tm d u) e v = updO (updO tm e v) d u := by
  cases d <;> cases e <;> try rfl
  rename_i a b
  exact upd_comm tm u v (fun hab => h a rfl (by rw [hab]))
theorem clr_updO {tm : Nat → Option T} {d e : Option Nat} {v : T} (h : ∀ t, d = some t → e ≠ some t) : updO (clrO tm d) e v = clrO (updO tm e v) d := by
  cases d <;> cases e <;> try rfl
  rename_i a b
  funext k
  have : a ≠ b := fun hab => h a rfl (by rw [hab])
  simp only [updO, clrO, AL.clr, AL.upd]
  by_cases h1 : k = b <;> by_cases h2 : k = a <;> simp_all
theorem clr_clrO {tm : Nat → Option T} {d e : Option Nat} : clrO (clrO tm d) e = clrO (clrO tm e) d := by
  cases d <;> cases e <;> try rfl
  funext k
  simp only [clrO, AL.clr]
  split <;> split <;> rfl

theorem apartT_spec {a b : SOp} (h : apartT a b = true) : (∀ t, a.dst = some t → t ∉ b.reads) ∧ (∀ t, a.dst = some t → b.dst ≠ some t) ∧ ∀ t, b.dst = some t → t ∉ a.reads := by
  unfold apartT at h
  simp only [Bool.and_eq_true] at h
  obtain ⟨h1, h2⟩ := h
  refine ⟨fun t ht => ?_, fun t ht => ?_, fun t ht => ?_⟩
  · simp only [ht, Bool.and_eq_true] at h1
    simpa using h1.1
  · simp only [ht, Bool.and_eq_true] at h1
    intro hb
    have := h1.2
    simp [hb] at this
  · simp only [ht] at h2
    simpa using h2

theorem sees_of {a b : Nat} (h : kindsOk a b = true) {K K2 : KMap} (hA : Agree b K K2) : Sees a K K2 := by
  unfold kindsOk at h
  refine ⟨fun ha id v s xs hk => hA id _ hk (fun hb => ?_) (fun hb => rfl), fun ha id es hk => hA id _ hk (fun hb => rfl) (fun hb => ?_)⟩
  · subst hb
    rcases ha with rfl | rfl <;> simp [stillK] at h
  · subst hb
    rcases ha with rfl | rfl <;> simp [stillK] at h

theorem kinds_still {a b : Nat} (h : kindsOk a b = true) : stillK a = true := by
  unfold kindsOk at h
  by_cases h0 : a = 0
  · subst h0; rfl
  · simp only [beq_iff_eq, h0, if_false] at h
    split at h
    · exact h
    · split at h
      · rw [beq_iff_eq] at h; subst h; rfl
      · split at h
        · rw [beq_iff_eq] at h; subst h; rfl
        · cases h

theorem still_unit {o : SO} (h : stillK o.kind = true) : isUnit o = false ∧ (∀ f, o ≠ .call f) ∧ o ≠ .callv ∧ ∀ b, o ≠ .isnil b := by
  cases o <;> simp [SO.kind, stillK, isUnit] at h ⊢

theorem stepW_of_ev {q : Bool} {s : SOp} (h1 : ∀ f, s.op ≠ .call f) (h2 : s.op ≠ .callv) (h3 : ∀ b, s.op ≠ .isnil b) {args : List T} {r : Res} (ho : opds st.tm s.args = some args) (he : ev s.op args st.K st.N = some r) (hp : r.pre)
    (hR : R ⟨if isUnit s.op then clrO st.tm s.dst else updO st.tm s.dst r.val, r.K, r.N⟩) : stepW P q s st R := by
  obtain ⟨dst, op, xs, g⟩ := s
  simp only at *
  unfold stepW
  simp only [ho]
  cases op <;> first | exact absurd rfl (h1 _) | exact absurd rfl h2 | exact absurd rfl (h3 _) | (simp only [he]; exact ⟨hp, hR⟩)

theorem swap {a b : SOp} (hs : swapsOk a b = true) (hw : WF st.K st.N) (h : opW P true a st fun st1 => opW P true b st1 R) : opW P true b st fun st2 => opW P true a st2 R := by
  unfold swapsOk at hs
  simp only [Bool.and_eq_true] at hs
  obtain ⟨hap, hkk⟩ := hs
  obtain ⟨p1, p2, p3⟩ := apartT_spec hap
  have hst := kinds_still hkk
  obtain ⟨u1, u2, u3, u4⟩ := still_unit hst
  have awayU : ∀ v, Away b (fun tm => updO tm a.dst v) := fun v => ⟨fun tm t ht => by
    cases hd : a.dst with
    | none => rfl
    | some d => simp only [updO]; exact upd_ne _ _ (fun e => p1 d hd (by rw [← e]; exact ht)), fun tm v' => updO_comm p2, fun tm => (clr_updO (fun t ht hb => p2 t hb ht)).symm⟩
  have tmb : ∀ (st2 : St) (R' : St → Prop), True := fun _ _ => trivial
  -- what the temporaries that a reads hold behind b
  have keepR : ∀ {R' : St → Prop}, opW P true b st R' → opW P true b st fun st2 => R' st2 ∧ ∀ t, t ∈ a.reads → st2.tm t = st.tm t := by
    intro R' h'
    have hup : ∀ d t, t ∈ a.reads → updO st.tm b.dst d t = st.tm t := fun d t ht => by
      cases hd : b.dst with
      | none => rfl
      | some e => simp only [updO]; exact upd_ne _ _ (fun e' => p3 e hd (by rw [← e']; exact ht))
    have hcl : ∀ t, t ∈ a.reads → clrO st.tm b.dst t = st.tm t := fun t ht => by
      cases hd : b.dst with
      | none => rfl
      | some e => simp only [clrO, AL.clr]; rw [if_neg (fun e' => p3 e hd (by rw [← e']; exact ht))]
    have cm : ∀ {f : FuncId} {args' : List T}, CallW P true f args' st.K st.N (fun d K N => R' ⟨updO st.tm b.dst d, K, N⟩) → CallW P true f args' st.K st.N (fun d K N => R' ⟨updO st.tm b.dst d, K, N⟩ ∧ ∀ t, t ∈ a.reads → updO st.tm b.dst d t = st.tm t) := by
      rintro f args' ⟨h1, h2⟩
      refine ⟨h1, fun w0 F S μ w vs hh ha => (h2 w0 F S μ w vs hh ha).mono ?_⟩
      rintro e w' ⟨v, d, K', N', μ', he, hr, rest⟩
      exact ⟨v, d, K', N', μ', he, ⟨hr, hup d⟩, rest⟩
    have hstp : stepW P true b st R' → stepW P true b st fun st2 => R' st2 ∧ ∀ t, t ∈ a.reads → st2.tm t = st.tm t := by
      intro h'
      unfold stepW at *
      split at h'
      · exact h'.elim
      · rename_i args hargs
        split
        · rename_i f hf
          simp only [hf] at h'
          exact cm h'
        · rename_i hf
          simp only [hf] at h'
          split at h'
          · exact cm h'
          · exact h'.elim
        · rename_i b hf
          simp only [hf] at h'
          exact isnilW_mono (fun _ h => ⟨h, hup _⟩) h'
        · rename_i h1 h2 h3
          split at h'
          · rename_i f hf; exact absurd hf (h1 f)
          · rename_i hf; exact absurd hf h2
          · rename_i b hf; exact absurd hf (h3 b)
          · split at h'
            · refine ⟨h'.1, h'.2, fun t ht => ?_⟩
              dsimp only
              split
              · exact hcl t ht
              · exact hup _ t ht
            · exact h'.elim
    unfold opW at *
    split
    · rename_i hg
      simp only [hg] at h'
      exact hstp h'
    · rename_i t b hg
      simp only [hg] at h'
      split at h'
      · exact ⟨fun e => hstp (h'.1 e), fun e => ⟨h'.2 e, hup _⟩⟩
      · exact ⟨h', hup _⟩
      · exact h'.elim
  have step : stepW P true a st (fun st1 => opW P true b st1 R) → opW P true b st fun st2 => (∀ t, t ∈ a.reads → st2.tm t = st.tm t) ∧ stepW P true a st2 R := by
    intro h'
    obtain ⟨args, res, ho, he, hp, hR⟩ := stepW_ev u2 u3 h' u4
    obtain ⟨k1, k2, _⟩ := ev_still (K2 := st.K) (N2 := st.N) hst he ⟨fun _ _ _ _ _ h => h, fun _ _ _ h => h⟩
    simp only [u1, Bool.false_eq_true, if_false, k1, k2] at hR
    have h2 := keepR (opW_agree hw (opW_away (awayU res.val) hR))
    refine opW_mono ?_ h2
    rintro st2 ⟨⟨h3, h4⟩, h5⟩
    refine ⟨h5, ?_⟩
    have ho2 : opds st2.tm a.args = some args := by
      rw [← ho]
      exact opds_same fun t ht => h5 t (by simp [SOp.reads, ht])
    obtain ⟨_, _, e2⟩ := ev_still (K2 := st2.K) (N2 := st2.N) hst he (sees_of hkk h4)
    exact stepW_of_ev u2 u3 u4 ho2 e2 hp (by simp only [u1, Bool.false_eq_true, if_false]; exact h3)
  unfold opW at h
  split at h
  · rename_i hg
    refine opW_mono ?_ (step h)
    rintro st2 ⟨_, h2⟩
    unfold opW
    simp only [hg]
    exact h2
  · rename_i t b0 hg
    split at h
    · rename_i b' hb
      have htr : t ∈ a.reads := by simp [SOp.reads, hg]
      by_cases e : b' = b0
      · refine opW_mono ?_ (step (h.1 e))
        rintro st2 ⟨h1, h2⟩
        unfold opW
        simp only [hg, h1 t htr, hb]
        exact ⟨fun _ => h2, fun e' => by subst e; simp at e'⟩
      · have e' : b' = !b0 := by cases b' <;> cases b0 <;> simp_all
        have h2 := keepR (opW_away (awayU (.tup [])) (h.2 e'))
        refine opW_mono ?_ h2
        rintro st2 ⟨h3, h4⟩
        unfold opW
        simp only [hg, h4 t htr, hb]
        exact ⟨fun e2 => absurd e2 e, fun _ => h3⟩
    · rename_i hb
      have htr : t ∈ a.reads := by simp [SOp.reads, hg]
      have h2 := keepR (opW_away (awayU (.tup [])) h)
      refine opW_mono ?_ h2
      rintro st2 ⟨h3, h4⟩
      unfold opW
      simp only [hg, h4 t htr, hb]
      exact h3
    · exact h.elim

end
end Go.Proofs.Yticflcpmlbaafaa.AL

/- AL: a region in whatever order is drawn; the slim code of a region. -/
set_option linter.unusedSimpArgs false
set_option linter.unusedVariables false
namespace Go.Proofs.Yticflcpmlbaafaa.AL
open Go
section
variable {P : Program} {dl : List Deferred} {w0 : World} {F S : Nat → Prop} {st : St} {μ : Nat → Loc} {a : Act} {w : World} {n N0 : Nat} {μ0 : Nat → Loc} {R : St → Prop} {Q : Exit → Act → World → Prop} {ops : Array Oper}

theorem opW_keeps {s : SOp} {q : Bool} (hk : stillK s.op.kind = true) (h : opW P q s st R) : opW P q s st fun st2 => R st2 ∧ st2.K = st.K ∧ st2.N = st.N := by
  obtain ⟨u1, u2, u3, u4⟩ := still_unit hk
  have hst : stepW P q s st R → stepW P q s st fun st2 => R st2 ∧ st2.K = st.K ∧ st2.N = st.N := by
    intro h
    obtain ⟨args, res, ho, he, hp, hR⟩ := stepW_ev u2 u3 h u4
    obtain ⟨k1, k2, _⟩ := ev_still (K2 := st.K) (N2 := st.N) hk he ⟨fun _ _ _ _ _ h => h, fun _ _ _ h => h⟩
    exact stepW_of_ev u2 u3 u4 ho he hp ⟨hR, k1, k2⟩
  unfold opW at *
  split
  · rename_i hg
    simp only [hg] at h
    exact hst h
  · rename_i t b hg
    simp only [hg] at h
    split at h
    · exact ⟨fun e => hst (h.1 e), fun e => ⟨h.2 e, rfl, rfl⟩⟩
    · exact ⟨h, rfl, rfl⟩
    · exact h.elim

/-- An operation that may be done now is done first. -/
theorem pull : ∀ {l1 : List SOp} {b : SOp} {l2 : List SOp} {st : St}, (∀ a, a ∈ l1 → swapsOk a b = true) → WF st.K st.N → AW P true (l1 ++ b :: l2) st R → opW P true b st fun st2 => AW P true (l1 ++ l2) st2 R
  | [], b, l2, st, hs, hw, h => h
  | a :: l1, b, l2, st, hs, hw, h => by
    have ha := hs a (by simp)
    have hk : stillK a.op.kind = true := by
      unfold swapsOk at ha
      simp only [Bool.and_eq_true] at ha
      exact kinds_still ha.2
    have h' : opW P true a st fun st1 => AW P true (l1 ++ b :: l2) st1 R := h
    refine swap ha hw (opW_mono ?_ (opW_keeps hk h'))
    rintro st1 ⟨h1, e1, e2⟩
    exact pull (fun a' ha' => hs a' (by simp [ha'])) (by rw [e1, e2]; exact hw) h1

theorem HRel.wf {K : KMap} {N : Nat} (h : HRel w0 F S K N μ w) : WF K N := fun id o hk => (h.obj id o hk).1

theorem drawOk_pair {b : Array Nat} : ∀ {ps : List (Nat × SOp)}, drawOk ops b ps = true → ∀ {p1 : List (Nat × SOp)} {x : Nat × SOp} {p2 : List (Nat × SOp)}, ps = p1 ++ x :: p2 →
    (∀ y, y ∈ p1 → (b.getD x.1 0).testBit y.1 = true ∨ swapsOk y.2 x.2 = true) ∧ (∀ y, y ∈ p2 → onto ops x.1 y.1 = false) ∧ ((ops.getD x.1 default).after.all fun e => e.on < ops.size && e.on != x.1) = true
  | [], h, p1, x, p2, he => by simp at he
  | (i, a) :: ps, h, p1, x, p2, he => by
    simp only [drawOk, Bool.and_eq_true, List.all_eq_true, Bool.not_eq_true', Bool.or_eq_true] at h
    obtain ⟨⟨h1, h2⟩, h3⟩ := h
    cases p1 with
    | nil =>
      simp at he
      obtain ⟨rfl, rfl⟩ := he
      exact ⟨fun y hy => by simp at hy, fun y hy => (h2 y hy).1, h1⟩
    | cons y p1 =>
      simp at he
      obtain ⟨rfl, rfl⟩ := he
      obtain ⟨g1, g2, g3⟩ := drawOk_pair h3 rfl
      refine ⟨fun y hy => ?_, g2, g3⟩
      rcases List.mem_cons.1 hy with rfl | hy
      · exact (h2 x (by simp)).2
      · exact g1 y hy

theorem drawOk_drop {b : Array Nat} : ∀ {p1 : List (Nat × SOp)} {x : Nat × SOp} {p2 : List (Nat × SOp)}, drawOk ops b (p1 ++ x :: p2) = true → drawOk ops b (p1 ++ p2) = true
  | [], x, p2, h => by
    simp only [List.nil_append, drawOk, Bool.and_eq_true] at h
    exact h.2
  | (i, a) :: p1, x, p2, h => by
    simp only [List.cons_append, drawOk, Bool.and_eq_true, List.all_eq_true] at h ⊢
    refine ⟨⟨h.1.1, fun y hy => h.1.2 y (by rcases List.mem_append.1 hy with h' | h' <;> simp [h'])⟩, drawOk_drop h.2⟩

theorem AW_any {r : Option Nat} (hd : dstsOk n ops) : ∀ (fuel : Nat) (ps : List (Nat × SOp)) (listed : Array Bool) (st : St) (μ : Nat → Loc) (a : Act) (w : World), (∀ x, x ∈ ps → ∃ o, ops[x.1]? = some o ∧ slim1 P ops o = some x.2) → (ps.map (·.1)).Nodup →
    ps.length ≤ fuel → listed.size = ops.size → (∀ i, i < ops.size → (listed.getD i true = false ↔ i ∈ ps.map (·.1))) → (∀ i j, Behind ops i j → i ∉ ps.map (·.1) → j ∉ ps.map (·.1)) → drawOk ops (Region.before ops) ps = true →
    AW P true (ps.map (·.2)) st R → Rel dl n w0 F S N0 μ0 st μ a w → (∀ a w, Post dl n w0 F S N0 μ0 R a w → Q .normal a w) → wpAnyIn (FR r) 0 P .any ops Q fuel listed a w := by
  intro fuel
  induction fuel with
  | zero =>
    intro ps listed st μ a w hsl hnd hlen hsz hlis hdown hok hA h hQ
    obtain rfl := List.eq_nil_of_length_eq_zero (Nat.le_zero.1 hlen)
    refine ⟨?_, hQ a w ⟨st, μ, hA, h⟩⟩
    rw [List.eq_nil_iff_forall_not_mem]
    intro i hi
    obtain ⟨h1, o, ho, _⟩ := mem_ready.1 hi
    have := (hlis i (Array.getElem?_eq_some_iff.1 ho).1).1 h1
    simp at this
  | succ fuel ih =>
    intro ps listed st μ a w hsl hnd hlen hsz hlis hdown hok hA h hQ
    have hlist : ∀ i, i < ops.size → i ∉ ps.map (·.1) → listed.getD i false = true := by
      intro i hi hn
      have h1 : ¬ listed.getD i true = false := fun h => hn ((hlis i hi).1 h)
      have hlt : i < listed.size := by omega
      simp only [Array.getD_eq_getD_getElem?, Array.getElem?_eq_getElem hlt, Option.getD_some] at h1 ⊢
      simpa using h1
    refine ⟨fun hr => ?_, fun i hi => ?_⟩
    · cases ps with
      | nil => exact hQ a w ⟨st, μ, hA, h⟩
      | cons x ps =>
        exfalso
        obtain ⟨o, ho, _⟩ := hsl x (by simp)
        have hx : x.1 < ops.size := (Array.getElem?_eq_some_iff.1 ho).1
        obtain ⟨_, g2, g3⟩ := drawOk_pair (p1 := []) hok rfl
        have hgd : ops.getD x.1 default = o := by rw [Array.getD_eq_getD_getElem?, ho]; rfl
        have : x.1 ∈ Region.ready .any ops listed := by
          refine mem_ready.2 ⟨(hlis x.1 hx).2 (by simp), o, ho, fun e he hb => ?_⟩
          rw [hgd] at g3
          have g3' := Array.all_eq_true_iff_forall_mem.1 g3 e he
          simp only [Bool.and_eq_true, decide_eq_true_eq, bne_iff_ne, ne_eq] at g3'
          refine hlist e.on g3'.1 (fun hm => ?_)
          simp only [List.map_cons, List.mem_cons, List.mem_map] at hm
          rcases hm with hm | ⟨y, hy, hye⟩
          · exact g3'.2 hm
          · have := g2 y hy
            unfold onto at this
            rw [hgd] at this
            rw [Array.any_eq_false] at this
            obtain ⟨k, hk, hke⟩ := Array.mem_iff_getElem.1 he
            have := this k hk
            rw [hke] at this
            simp [hb, hye] at this
        rw [hr] at this
        simp at this
    · obtain ⟨h1, o, ho, hedge⟩ := mem_ready.1 hi
      have hilt : i < ops.size := (Array.getElem?_eq_some_iff.1 ho).1
      have him := (hlis i hilt).1 h1
      obtain ⟨x, hx, hxi⟩ := List.mem_map.1 him
      obtain ⟨p1, p2, rfl⟩ := List.append_of_mem hx
      obtain ⟨o', ho', hs⟩ := hsl x hx
      rw [hxi, ho] at ho'
      cases ho'
      obtain ⟨g1, _, _⟩ := drawOk_pair hok rfl
      have hno : ∀ j, Behind ops i j → j ∉ (p1 ++ x :: p2).map (·.1) := by
        intro j hb
        have hone : ∀ e ∈ o.after, Region.binds .any e = true → e.on ∉ (p1 ++ x :: p2).map (·.1) := by
          intro e he hbe hm
          have h2 := hedge e he hbe
          have hlt : e.on < listed.size := by
            rcases Nat.lt_or_ge e.on listed.size with h' | h'
            · exact h'
            · simp [Array.getElem?_eq_none h'] at h2
          have := (hlis e.on (by omega)).2 hm
          simp only [Array.getD_eq_getD_getElem?, Array.getElem?_eq_getElem hlt, Option.getD_some] at h2 this
          rw [h2] at this
          cases this
        cases hb with
        | one ho2 he hbe => rw [ho] at ho2; cases ho2; exact hone _ he hbe
        | step ho2 he hbe hb2 => rw [ho] at ho2; cases ho2; exact hdown _ _ hb2 (hone _ he hbe)
      have hsw : ∀ y, y ∈ p1.map (·.2) → swapsOk y x.2 = true := by
        intro y hy
        obtain ⟨z, hz, rfl⟩ := List.mem_map.1 hy
        rcases g1 z hz with h2 | h2
        · exfalso
          rw [hxi] at h2
          exact hno z.1 (before_spec ops h2) (List.mem_map_of_mem (by simp [hz]))
        · exact h2
      have hA' : AW P true (p1.map (·.2) ++ x.2 :: p2.map (·.2)) st R := by simpa using hA
      have hpull := pull hsw h.h.wf hA'
      have hone := opW_sound (Q := Q) h hs hpull (fun t ht => hd i o t ho ht)
      have hnd' : ((p1 ++ p2).map (·.1)).Nodup ∧ i ∉ (p1 ++ p2).map (·.1) := by
        simp only [List.map_append, List.map_cons, List.nodup_append, List.nodup_cons, List.mem_cons, List.mem_append, ne_eq] at hnd ⊢
        refine ⟨⟨hnd.1, hnd.2.1.2, fun a ha b hb => hnd.2.2 a ha b (.inr hb)⟩, ?_⟩
        rintro (h2 | h2)
        · exact hnd.2.2 i h2 i (.inl hxi.symm) rfl
        · rw [← hxi] at h2
          exact hnd.2.1.1 h2
      have hnext : ∀ a w, Post dl n w0 F S N0 μ0 (fun st2 => AW P true (p1.map (·.2) ++ p2.map (·.2)) st2 R) a w → wpAnyIn (FR r) 0 P .any ops Q fuel (listed.setIfInBounds i true) a w := by
        rintro a w ⟨st', μ', hA2, h'⟩
        refine ih (p1 ++ p2) _ st' μ' a w (fun y hy => hsl y (by rcases List.mem_append.1 hy with h2 | h2 <;> simp [h2])) hnd'.1 (by simp at hlen ⊢; omega) (by simpa using hsz) (fun j hj => ?_) (fun j k hb hj => ?_) (drawOk_drop hok) (by simpa using hA2) h' hQ
        · by_cases e : j = i
          · subst e
            have : (listed.setIfInBounds j true).getD j true = true := by simp [show j < listed.size by omega]
            rw [this]
            constructor
            · intro h2; cases h2
            · intro h2; exact absurd h2 hnd'.2
          · rw [getD_set_ne true (Ne.symm e), hlis j hj]
            simp only [List.map_append, List.map_cons, List.mem_append, List.mem_cons, hxi]
            constructor
            · rintro (h2 | h2 | h2)
              · exact .inl h2
              · exact absurd h2 e
              · exact .inr h2
            · rintro (h2 | h2)
              · exact .inl h2
              · exact .inr (.inr h2)
        · have hk : k ∉ (p1 ++ x :: p2).map (·.1) := by
            by_cases e : j = i
            · subst e; exact hno k hb
            · refine hdown j k hb (fun hm => hj ?_)
              simp only [List.map_append, List.map_cons, List.mem_append, List.mem_cons, hxi] at hm ⊢
              rcases hm with h2 | h2 | h2
              · exact .inl h2
              · exact absurd h2 e
              · exact .inr h2
          intro hm
          apply hk
          simp only [List.map_append, List.map_cons, List.mem_append, List.mem_cons] at hm ⊢
          rcases hm with h2 | h2
          · exact .inl h2
          · exact .inr (.inr h2)
      simp only [wpOpIn, ho]
      split at hone
      · rename_i hw
        rw [if_pos hw]
        exact Oper.wpIn_mono hnext (wpIn_of_wp (slim_defer hs) hone)
      · rename_i hw
        rw [if_neg hw]
        exact ⟨fun _ _ => trivial, hnext _ _ hone⟩

theorem HRel.drew {K : KMap} {N : Nat} (h : HRel w0 F S K N μ w) : HRel w0 F S K N μ w.drew := by
  have hs : Same S w w.drew := fun _ _ => rfl
  refine ⟨h.st, h.os, h.tape, h.output, h.size, h.frame, fun id o hk => ?_, h.blk, h.dis⟩
  obtain ⟨h1, h2⟩ := h.obj id o hk
  exact ⟨h1, h2.move hs (fun _ h => h) (Nat.le_refl _) (Later.refl _ _) rfl (fun _ _ => rfl)⟩

theorem Rel.drew (h : Rel dl n w0 F S N0 μ0 st μ a w) : Rel dl n w0 F S N0 μ0 st μ a w.drew :=
  ⟨h.defers, h.size, fun t d hd => RepT.move (w := w) (w' := w.drew) (fun _ _ => rfl) (fun _ h => h) (Nat.le_refl _) (Later.refl _ _) (h.tm t d hd), h.h.drew, h.ent, h.later⟩

theorem mapM_slim : ∀ {l : List Oper} {r : List SOp}, l.mapM (slim1 P ops) = some r → r.length = l.length ∧ ∀ (i : Nat) (o : Oper), l[i]? = some o → slim1 P ops o = r[i]?
  | [], r, h => by simp at h; subst h; exact ⟨rfl, fun i o hi => by simp at hi⟩
  | o :: l, r, h => by
    simp only [List.mapM_cons] at h
    cases ho : slim1 P ops o with
    | none => simp [ho] at h
    | some s =>
      cases hm : l.mapM (slim1 P ops) with
      | none => simp [ho, hm] at h
      | some r' =>
        simp [ho, hm] at h
        subst h
        obtain ⟨h1, h2⟩ := mapM_slim hm
        refine ⟨by simp [h1], fun i o' hi => ?_⟩
        cases i with
        | zero => simp at hi; subst hi; simp [ho]
        | succ i => simpa using h2 i o' (by simpa using hi)

theorem mapM_pair {l : List SOp} : ∀ {ord : List Nat} {ps : List (Nat × SOp)}, (ord.mapM fun i => (l[i]?).map fun o => (i, o)) = some ps → ps.map (·.1) = ord ∧ ∀ x, x ∈ ps → l[x.1]? = some x.2
  | [], ps, h => by simp at h; subst h; exact ⟨rfl, fun x hx => by simp at hx⟩
  | i :: ord, ps, h => by
    simp only [List.mapM_cons] at h
    cases ho : (l[i]?).map fun o => (i, o) with
    | none => simp [ho] at h
    | some s =>
      cases hm : (ord.mapM fun i => (l[i]?).map fun o => (i, o)) with
      | none => simp [ho, hm] at h
      | some r' =>
        simp [ho, hm] at h
        subst h
        obtain ⟨h1, h2⟩ := mapM_pair hm
        obtain ⟨o, ho', rfl⟩ := Option.map_eq_some_iff.1 ho
        refine ⟨by simp [h1], fun x hx => ?_⟩
        rcases List.mem_cons.1 hx with rfl | hx
        · exact ho'
        · exact h2 x hx

theorem reg_sound {r : Option Nat} (hm : P.follows .mixedOrders = true) {id : Nat} {draw : Bool} {q : Bool} {l : List SOp} (hs : slimReg P ops draw = some (.reg q l)) (hd : dstsOk n ops) (hA : AW P q l st R) (h : Rel dl n w0 F S N0 μ0 st μ a w)
    (hQ : ∀ a w, Post dl n w0 F S N0 μ0 R a w → Q .normal a w) : (Code.region id ops draw).wpIn (FR r) 0 P Q a w := by
  unfold slimReg at hs
  split at hs
  · cases hs
  · rename_i l0 hl0
    obtain ⟨hlen, hget⟩ := mapM_slim hl0
    simp at hlen
    cases draw with
    | true =>
      simp only [if_true] at hs
      split at hs
      · rename_i ps hps
        split at hs
        · rename_i hc
          obtain ⟨c1, c2, c4, c3⟩ := hc
          cases hs
          obtain ⟨p1, p2⟩ := mapM_pair hps
          refine wpIn_region_any hm ?_
          have hin : ∀ i, i < ops.size → i ∈ ps.map (·.1) := by
            intro i hi
            rw [p1]
            have := List.all_eq_true.1 c4 i (by simpa using hi)
            simpa using this
          refine AW_any hd ops.size ps _ st μ a w.drew (fun x hx => ?_) (by rw [p1]; exact c2) (by have := congrArg List.length p1; simp at this; omega) (by simp) (fun i hi => ?_) (fun i j hb hi => ?_) c3 hA h.drew hQ
          · have hx1 := p2 x hx
            have hlt := (List.getElem?_eq_some_iff.1 hx1).1
            have hlt' : x.1 < ops.size := by omega
            refine ⟨ops[x.1], by simp [hlt'], ?_⟩
            rw [hget x.1 ops[x.1] (by simp [hlt']), hx1]
          · simp [hi]
            simpa using hin i hi
          · exfalso
            have hb' : i < ops.size := by
              cases hb with
              | one ho _ _ => exact (Array.getElem?_eq_some_iff.1 ho).1
              | step ho _ _ _ => exact (Array.getElem?_eq_some_iff.1 ho).1
            exact hi (hin i hb')
        · obtain ⟨_, _, e, _⟩ := slimRegs_spec hs
          cases e
      · cases hs
    | false =>
      simp only [Bool.false_eq_true, if_false, Option.some.injEq, SCode.reg.injEq] at hs
      obtain ⟨rfl, rfl⟩ := hs
      refine wpIn_region (AW_ops hd (List.range ops.size) l0 st μ a w ?_ hA h hQ)
      apply List.ext_getElem?
      intro i
      simp only [List.getElem?_map]
      by_cases hi : i < ops.size
      · have h1 := hget i ops[i] (by simp [hi])
        have h2 : l0[i]? = some l0[i] := List.getElem?_eq_getElem (by omega)
        rw [h2] at h1 ⊢
        simp [hi, h1]
      · rw [List.getElem?_eq_none (by simpa using hi), List.getElem?_eq_none (by omega)]
        rfl
end
end Go.Proofs.Yticflcpmlbaafaa.AL

/- AL: regions in a drawn order that matters: the orders that matter, each walked. -/
set_option linter.unusedSimpArgs false
set_option linter.unusedVariables false
namespace Go.Proofs.Yticflcpmlbaafaa.AL
open Go

theorem permOk_spec {n : Nat} {l : List Nat} (h : permOk n l = true) : (∀ i, i ∈ l → i < n) ∧ l.Nodup ∧ ∀ i, i < n → i ∈ l := by
  simp only [permOk, Bool.and_eq_true, decide_eq_true_eq, List.all_eq_true, List.mem_range, List.contains_iff_mem] at h
  exact ⟨h.1.2, h.1.1, h.2⟩

theorem permOk_len {n : Nat} {l : List Nat} (h : permOk n l = true) : l.length ≤ n := by
  obtain ⟨h1, h2, h3⟩ := permOk_spec h
  have := ((List.perm_ext_iff_of_nodup h2 (List.nodup_range (n := n))).2 fun i => ⟨fun hi => by simpa using h1 i hi, fun hi => h3 i (by simpa using hi)⟩).length_eq
  simp at this
  omega

theorem idx_tail {l : List Nat} {i k : Nat} (h : k ≠ i) : (i :: l).idxOf k = l.idxOf k + 1 := by
  rw [List.idxOf_cons]
  have : (i == k) = false := by simpa using h.symm
  rw [this]
  rfl

section
variable {ops : Array Oper}

theorem topoOk_erase {i : Nat} : ∀ {l : List Nat}, topoOk ops l = true → topoOk ops (l.erase i) = true
  | [], h => h
  | x :: l, h => by
    simp only [topoOk, Bool.and_eq_true, List.all_eq_true] at h
    obtain ⟨⟨h1, h2⟩, h3⟩ := h
    by_cases e : x = i
    · subst e
      rw [List.erase_cons_head]
      exact h3
    · rw [List.erase_cons_tail (by simpa using e)]
      simp only [topoOk, Bool.and_eq_true, List.all_eq_true]
      exact ⟨⟨h1, fun y hy => h2 y (List.mem_of_mem_erase hy)⟩, topoOk_erase h3⟩

/-- What the machine draws is an order of all operations, in which each stands behind those that it needs. -/
theorem lin_go (hsize : ∀ (i : Nat) (o : Oper) (e : Edge), ops[i]? = some o → e ∈ o.after → e.on < ops.size ∧ e.on ≠ i) : ∀ (fuel t : Nat) (listed : Array Bool) (L : List Nat), L.Nodup → topoOk ops L = true → L.length ≤ fuel → (∀ i, i ∈ L → i < ops.size) → listed.size = ops.size →
    (∀ i, i < ops.size → (listed.getD i true = false ↔ i ∈ L)) →
    (Region.linearise.go .any ops fuel t listed []).Nodup ∧ (∀ i, i ∈ Region.linearise.go .any ops fuel t listed [] ↔ i ∈ L) ∧
      ∀ (i : Nat) (o : Oper) (e : Edge), ops[i]? = some o → i ∈ L → e ∈ o.after → Region.binds .any e = true → e.on ∈ L → (Region.linearise.go .any ops fuel t listed []).idxOf e.on < (Region.linearise.go .any ops fuel t listed []).idxOf i := by
  intro fuel
  induction fuel with
  | zero =>
    intro t listed L hnd ht hlen hlt hsz hli
    obtain rfl := List.eq_nil_of_length_eq_zero (Nat.le_zero.1 hlen)
    refine ⟨by simp [Region.linearise.go], fun i => by simp [Region.linearise.go], fun i o e ho hi => by simp at hi⟩
  | succ fuel ih =>
    intro t listed L hnd ht hlen hlt hsz hli
    have hready : ∀ j, j ∈ Region.ready .any ops listed → j ∈ L ∧ j < ops.size ∧ ∀ (o : Oper) (e : Edge), ops[j]? = some o → e ∈ o.after → Region.binds .any e = true → e.on ∉ L := by
      intro j hj
      obtain ⟨h1, o, ho, hed⟩ := mem_ready.1 hj
      have hjs : j < ops.size := (Array.getElem?_eq_some_iff.1 ho).1
      refine ⟨(hli j hjs).1 h1, hjs, fun o' e ho' he hb hm => ?_⟩
      rw [ho] at ho'
      cases ho'
      have h2 := hed e he hb
      have h3 := (hli e.on (hsize j o e ho he).1).2 hm
      have hlt' : e.on < listed.size := by rw [hsz]; exact (hsize j o e ho he).1
      simp only [Array.getD_eq_getD_getElem?, Array.getElem?_eq_getElem hlt', Option.getD_some] at h2 h3
      rw [h2] at h3
      cases h3
    have hex : L ≠ [] → Region.ready .any ops listed ≠ [] := by
      intro hne
      cases L with
      | nil => exact absurd rfl hne
      | cons x L =>
        simp only [topoOk, Bool.and_eq_true, List.all_eq_true, Bool.not_eq_true'] at ht
        obtain ⟨⟨_, h2⟩, _⟩ := ht
        have hx : x < ops.size := hlt x (by simp)
        intro hr
        have : x ∈ Region.ready .any ops listed := by
          refine mem_ready.2 ⟨(hli x hx).2 (by simp), ops[x], by simp [hx], fun e he hb => ?_⟩
          have hes := hsize x ops[x] e (by simp [hx]) he
          have hn : e.on ∉ x :: L := by
            intro hm
            rcases List.mem_cons.1 hm with hm | hm
            · exact hes.2 hm
            · have := h2 e.on hm
              unfold onto at this
              have hgd : ops.getD x default = ops[x] := by simp [Array.getD_eq_getD_getElem?, hx]
              rw [hgd, Array.any_eq_false] at this
              obtain ⟨k, hk, hke⟩ := Array.mem_iff_getElem.1 he
              have := this k hk
              rw [hke] at this
              simp [hb] at this
          have h1 : ¬ listed.getD e.on true = false := fun h => hn ((hli e.on hes.1).1 h)
          have hlt' : e.on < listed.size := by rw [hsz]; exact hes.1
          simp only [Array.getD_eq_getD_getElem?, Array.getElem?_eq_getElem hlt', Option.getD_some] at h1 ⊢
          simpa using h1
        rw [hr] at this
        simp at this
    have hgo : Region.linearise.go .any ops (fuel + 1) t listed [] = match (Region.ready .any ops listed)[t % (Region.ready .any ops listed).length]? with
      | some i => i :: Region.linearise.go .any ops fuel (t / (Region.ready .any ops listed).length) (listed.setIfInBounds i true) []
      | none => [] := by
      show (match (Region.ready .any ops listed)[t % (Region.ready .any ops listed).length]? with
        | some i => Region.linearise.go .any ops fuel (t / (Region.ready .any ops listed).length) (listed.setIfInBounds i true) [i]
        | none => []) = _
      split
      · rw [linearise_go_acc]; rfl
      · rfl
    rw [hgo]
    cases hL : (Region.ready .any ops listed)[t % (Region.ready .any ops listed).length]? with
    | none =>
      have hnil : L = [] := by
        by_cases hne : L = []
        · exact hne
        · exfalso
          have hp : 0 < (Region.ready .any ops listed).length := List.length_pos_iff.2 (hex hne)
          have := List.getElem?_eq_none_iff.1 hL
          have := Nat.mod_lt t hp
          omega
      subst hnil
      exact ⟨List.nodup_nil, fun i => by simp, fun i o e _ hi => by simp at hi⟩
    | some i =>
      dsimp only
      obtain ⟨r1, r2, r3⟩ := hready i (List.mem_of_getElem? hL)
      have hmem : ∀ j, j ∈ L.erase i ↔ j ∈ L ∧ j ≠ i := fun j => by rw [hnd.mem_erase_iff]; exact ⟨fun h => ⟨h.2, h.1⟩, fun h => ⟨h.2, h.1⟩⟩
      obtain ⟨g1, g2, g3⟩ := ih (t / (Region.ready .any ops listed).length) (listed.setIfInBounds i true) (L.erase i) (hnd.erase i) (topoOk_erase ht) (by rw [List.length_erase_of_mem r1]; omega)
        (fun j hj => hlt j ((hmem j).1 hj).1) (by simpa using hsz) (fun j hj => by
          by_cases e : j = i
          · subst e
            have : (listed.setIfInBounds j true).getD j true = true := by simp [show j < listed.size by omega]
            rw [this, hmem]
            simp
          · rw [getD_set_ne true (Ne.symm e), hli j hj, hmem]
            simp [e])
      refine ⟨List.nodup_cons.2 ⟨fun hm => ?_, g1⟩, fun j => ?_, fun k o e ho hk he hb hm => ?_⟩
      · have := ((hmem i).1 ((g2 i).1 hm)).2
        exact this rfl
      · rw [List.mem_cons, g2, hmem]
        constructor
        · rintro (rfl | h)
          · exact r1
          · exact h.1
        · intro h
          by_cases e : j = i
          · exact .inl e
          · exact .inr ⟨h, e⟩
      · by_cases ek : k = i
        · subst ek
          exact absurd hm (r3 o e ho he hb)
        · rw [idx_tail ek]
          by_cases ee : e.on = i
          · rw [ee, List.idxOf_cons_self]
            omega
          · rw [idx_tail ee]
            have := g3 k o e ho ((hmem k).2 ⟨hk, ek⟩) he hb ((hmem _).2 ⟨hm, ee⟩)
            omega

structure OrdOk (ops : Array Oper) (ord : List Nat) : Prop where
  nodup : ord.Nodup
  mem : ∀ i, i ∈ ord ↔ i < ops.size
  dep : ∀ i j, Behind ops i j → ord.idxOf j < ord.idxOf i

theorem lin_ok {L : List Nat} (hp : permOk ops.size L = true) (ht : topoOk ops L = true) (t : Nat) : OrdOk ops (Region.linearise .any ops t) := by
  obtain ⟨p1, p2, p3⟩ := permOk_spec hp
  have hall : ∀ {l : List Nat}, topoOk ops l = true → ∀ i, i ∈ l → ((ops.getD i default).after.all fun e => e.on < ops.size && e.on != i) = true := by
    intro l
    induction l with
    | nil => intro _ i hi; simp at hi
    | cons x l ih =>
      intro h i hi
      simp only [topoOk, Bool.and_eq_true] at h
      rcases List.mem_cons.1 hi with rfl | hi
      · exact h.1.1
      · exact ih h.2 i hi
  have hsize : ∀ (i : Nat) (o : Oper) (e : Edge), ops[i]? = some o → e ∈ o.after → e.on < ops.size ∧ e.on ≠ i := by
    intro i o e ho he
    have hi : i < ops.size := (Array.getElem?_eq_some_iff.1 ho).1
    have := hall ht i (p3 i hi)
    have hgd : ops.getD i default = o := by rw [Array.getD_eq_getD_getElem?, ho]; rfl
    rw [hgd] at this
    have := Array.all_eq_true_iff_forall_mem.1 this e he
    simpa using this
  have hlt : ∀ i, i ∈ L → i < ops.size := p1
  obtain ⟨g1, g2, g3⟩ := lin_go hsize ops.size t (Array.replicate ops.size false) L p2 ht (permOk_len hp) hlt (by simp) (fun i hi => by
    simp [hi]
    exact p3 i hi)
  have hgo : Region.linearise .any ops t = Region.linearise.go .any ops ops.size t (Array.replicate ops.size false) [] := rfl
  rw [hgo]
  refine ⟨g1, fun i => (g2 i).trans ⟨hlt i, p3 i⟩, fun i j hb => ?_⟩
  induction hb with
  | one ho he hbe =>
    have hk := (Array.getElem?_eq_some_iff.1 ho).1
    exact g3 _ _ _ ho (p3 _ hk) he hbe (p3 _ (hsize _ _ _ ho he).1)
  | step ho he hbe _ ih =>
    have hk := (Array.getElem?_eq_some_iff.1 ho).1
    have := g3 _ _ _ ho (p3 _ hk) he hbe (p3 _ (hsize _ _ _ ho he).1)
    omega

/-- The order keeps these pairs. -/
def Keeps (ord : List Nat) (cs : List (Nat × Nat)) : Prop := ∀ c, c ∈ cs → ord.idxOf c.1 < ord.idxOf c.2

theorem depB_ok {ord : List Nat} (ho : OrdOk ops ord) {i j : Nat} (h : depB (Region.before ops) i j = true) : ord.idxOf i < ord.idxOf j := ho.dep j i (before_spec ops h)

theorem implB_ok {ord : List Nat} (ho : OrdOk ops ord) {cs : List (Nat × Nat)} (hk : Keeps ord cs) : ∀ {n i j : Nat}, implB (Region.before ops) n cs i j = true → ord.idxOf i < ord.idxOf j
  | 0, i, j, h => depB_ok ho h
  | n + 1, i, j, h => by
    simp only [implB, Bool.or_eq_true, List.any_eq_true, Bool.and_eq_true, beq_iff_eq] at h
    rcases h with h | ⟨c, hc, h1, h2⟩
    · exact depB_ok ho h
    · have hcc := hk c hc
      have a1 : ord.idxOf i ≤ ord.idxOf c.1 := by
        rcases h1 with h1 | h1
        · rw [h1]; exact Nat.le_refl _
        · exact Nat.le_of_lt (depB_ok ho h1)
      have a2 : ord.idxOf c.2 ≤ ord.idxOf j := by
        rcases h2 with h2 | h2
        · rw [h2]; exact Nat.le_refl _
        · exact Nat.le_of_lt (implB_ok ho hk h2)
      omega

theorem infeas_ok {ord : List Nat} (ho : OrdOk ops ord) {cs : List (Nat × Nat)} (hk : Keeps ord cs) (h : infeas (Region.before ops) cs = true) : False := by
  simp only [infeas, List.any_eq_true] at h
  obtain ⟨c, hc, h⟩ := h
  have h1 := hk c hc
  have h2 := implB_ok ho hk h
  omega

/-- Each pair that stands the other way round in what the machine draws may be turned. -/
def Turns (ord : List Nat) (L : List (Nat × SOp)) : Prop := ∀ p1 x p2, L = p1 ++ x :: p2 → ∀ y, y ∈ p1 → ord.idxOf x.1 < ord.idxOf y.1 → swapsOk y.2 x.2 = true

theorem hardOk_ok {ord : List Nat} (ho : OrdOk ops ord) {cs : List (Nat × Nat)} (hk : Keeps ord cs) : ∀ {L : List (Nat × SOp)}, hardOk (Region.before ops) cs L = true → Turns ord L
  | [], _, p1, x, p2, he, _, _, _ => by simp at he
  | z :: L, h, p1, x, p2, he, y, hy, hlt => by
    simp only [hardOk, Bool.and_eq_true, List.all_eq_true, Bool.or_eq_true] at h
    obtain ⟨h1, h2⟩ := h
    cases p1 with
    | nil => simp at hy
    | cons w p1 =>
      simp at he
      obtain ⟨rfl, rfl⟩ := he
      rcases List.mem_cons.1 hy with rfl | hy
      · rcases h1 x (by simp) with h | h
        · exact h
        · have := implB_ok ho hk h
          omega
      · exact hardOk_ok ho hk h2 p1 x p2 rfl y hy hlt

theorem covB_ok {ord : List Nat} (ho : OrdOk ops ord) {Ls : List (List (Nat × SOp))} : ∀ {H cs : List (Nat × Nat)}, (∀ c, c ∈ H → c.1 < ops.size ∧ c.2 < ops.size ∧ c.1 ≠ c.2) → Keeps ord cs → covB (Region.before ops) Ls H cs = true → ∃ L, L ∈ Ls ∧ Turns ord L
  | [], cs, _, hk, h => by
    simp only [covB, List.any_eq_true] at h
    obtain ⟨L, hL, h⟩ := h
    exact ⟨L, hL, hardOk_ok ho hk h⟩
  | p :: H, cs, hH, hk, h => by
    simp only [covB, Bool.or_eq_true] at h
    have hH' : ∀ c, c ∈ H → c.1 < ops.size ∧ c.2 < ops.size ∧ c.1 ≠ c.2 := fun c hc => hH c (by simp [hc])
    rcases h with h | h
    · exact (infeas_ok ho hk h).elim
    · split at h
      · exact covB_ok ho hH' hk h
      · simp only [Bool.and_eq_true] at h
        obtain ⟨p1, p2, p3⟩ := hH p (by simp)
        have hne : ord.idxOf p.1 ≠ ord.idxOf p.2 := by
          intro e
          have i1 : ord.idxOf p.1 < ord.length := List.idxOf_lt_length_iff.2 ((ho.mem p.1).2 p1)
          have i2 : ord.idxOf p.2 < ord.length := List.idxOf_lt_length_iff.2 ((ho.mem p.2).2 p2)
          apply p3
          have e1 := List.getElem_idxOf i1
          have e2 := List.getElem_idxOf i2
          simp only [e] at e1
          rw [← e1, e2]
        rcases Nat.lt_or_gt_of_ne hne with g | g
        · exact covB_ok ho hH' (fun c hc => by
            rcases List.mem_cons.1 hc with rfl | hc
            · exact g
            · exact hk c hc) h.1
        · exact covB_ok ho hH' (fun c hc => by
            rcases List.mem_cons.1 hc with rfl | hc
            · exact g
            · exact hk c hc) h.2
end

section
variable {P : Program} {ops : Array Oper} {dl : List Deferred} {n N0 : Nat} {w0 : World} {F S : Nat → Prop} {μ0 : Nat → Loc} {R : St → Prop} {Q : Exit → Act → World → Prop}

/-- Along any order that an order stands for. -/
theorem AW_ord {r : Option Nat} (hd : dstsOk n ops) : ∀ (ord : List Nat) (L : List (Nat × SOp)) (st : St) (μ : Nat → Loc) (a : Act) (w : World), ord.Nodup → ord.Perm (L.map (·.1)) → (∀ x, x ∈ L → ∃ o, ops[x.1]? = some o ∧ slim1 P ops o = some x.2) → Turns ord L →
    AW P true (L.map (·.2)) st R → Rel dl n w0 F S N0 μ0 st μ a w → (∀ a w, Post dl n w0 F S N0 μ0 R a w → Q .normal a w) → wpOpsIn (FR r) 0 P ops Q ord a w := by
  intro ord
  induction ord with
  | nil =>
    intro L st μ a w hnd hp hsl ht hA h hQ
    have : L = [] := by simpa using hp.symm.eq_nil
    subst this
    exact hQ a w ⟨st, μ, hA, h⟩
  | cons i ord ih =>
    intro L st μ a w hnd hp hsl ht hA h hQ
    have him : i ∈ L.map (·.1) := hp.mem_iff.1 (by simp)
    obtain ⟨x, hx, hxi⟩ := List.mem_map.1 him
    obtain ⟨p1, p2, rfl⟩ := List.append_of_mem hx
    obtain ⟨o, ho, hs⟩ := hsl x hx
    rw [hxi] at ho
    have hndL : ((p1 ++ x :: p2).map (·.1)).Nodup := hp.nodup_iff.1 hnd
    have hne : ∀ y, y ∈ p1 → y.1 ≠ i := by
      intro y hy e
      simp only [List.map_append, List.map_cons, List.nodup_append] at hndL
      exact hndL.2.2 y.1 (List.mem_map_of_mem hy) x.1 (by simp) (e.trans hxi.symm)
    have hne2 : ∀ y, y ∈ p2 → y.1 ≠ i := by
      intro y hy e
      simp only [List.map_append, List.map_cons, List.nodup_append, List.nodup_cons] at hndL
      exact hndL.2.1.1 (by rw [hxi, ← e]; exact List.mem_map_of_mem hy)
    have hsw : ∀ y, y ∈ p1.map (·.2) → swapsOk y x.2 = true := by
      intro y hy
      obtain ⟨z, hz, rfl⟩ := List.mem_map.1 hy
      refine ht p1 x p2 rfl z hz ?_
      rw [hxi, List.idxOf_cons_self, idx_tail (hne z hz)]
      omega
    have hA' : AW P true (p1.map (·.2) ++ x.2 :: p2.map (·.2)) st R := by simpa using hA
    have hpull := pull hsw h.h.wf hA'
    have hone := opW_sound (Q := Q) h hs hpull (fun t ht => hd i o t ho ht)
    have hp' : ord.Perm ((p1 ++ p2).map (·.1)) := by
      have h1 : (i :: ord).Perm (i :: (p1 ++ p2).map (·.1)) := by
        refine hp.trans ?_
        simp only [List.map_append, List.map_cons, hxi]
        exact List.perm_middle
      exact h1.cons_inv
    have hnext : ∀ a w, Post dl n w0 F S N0 μ0 (fun st2 => AW P true (p1.map (·.2) ++ p2.map (·.2)) st2 R) a w → wpOpsIn (FR r) 0 P ops Q ord a w := by
      rintro a w ⟨st', μ', hA2, h'⟩
      refine ih (p1 ++ p2) st' μ' a w (List.nodup_cons.1 hnd).2 hp' (fun y hy => hsl y (by rcases List.mem_append.1 hy with h2 | h2 <;> simp [h2])) ?_ (by simpa using hA2) h' hQ
      intro q1 y q2 he z hz hlt
      have up : ∀ k, k ≠ i → (i :: ord).idxOf k = ord.idxOf k + 1 := fun k hk => idx_tail hk
      have hy : y ∈ p1 ++ p2 := by rw [he]; simp
      have hz' : z ∈ p1 ++ p2 := by rw [he]; simp [hz]
      have hyi : y.1 ≠ i := by rcases List.mem_append.1 hy with h2 | h2; exact hne y h2; exact hne2 y h2
      have hzi : z.1 ≠ i := by rcases List.mem_append.1 hz' with h2 | h2; exact hne z h2; exact hne2 z h2
      have hlt' : (i :: ord).idxOf y.1 < (i :: ord).idxOf z.1 := by rw [up _ hyi, up _ hzi]; omega
      -- where the pair stood before x was taken out
      rcases List.append_eq_append_iff.1 he with ⟨as, e1, e2⟩ | ⟨bs, e1, e2⟩
      · -- q1 = p1 ++ as, p2 = as ++ y :: q2
        refine ht (p1 ++ x :: as) y q2 (by rw [e2]; simp) z ?_ hlt'
        rw [e1] at hz
        rcases List.mem_append.1 hz with h2 | h2 <;> simp [h2]
      · -- p1 = q1 ++ bs, y :: q2 = bs ++ p2
        cases bs with
        | nil =>
          simp only [List.nil_append] at e2
          refine ht (p1 ++ [x]) y q2 (by rw [← e2]; simp) z ?_ hlt'
          rw [e1]
          simp [hz]
        | cons b bs =>
          simp only [List.cons_append, List.cons.injEq] at e2
          obtain ⟨rfl, rfl⟩ := e2
          exact ht q1 y (bs ++ x :: p2) (by rw [e1]; simp) z hz hlt'
    simp only [wpOpsIn, ho]
    split at hone
    · rename_i hw
      rw [if_pos hw]
      exact Oper.wpIn_mono hnext (wpIn_of_wp (slim_defer hs) hone)
    · rename_i hw
      rw [if_neg hw]
      exact ⟨fun _ _ => trivial, hnext _ _ hone⟩

theorem regs_sound {r : Option Nat} (hm : P.follows .mixedOrders = true) {id : Nat} {draw : Bool} {Ls : List (List SOp)} {st : St} {μ : Nat → Loc} {a : Act} {w : World} (hs : slimReg P ops draw = some (.regs Ls)) (hd : dstsOk n ops) (hA : ∀ L, L ∈ Ls → AW P true L st R) (h : Rel dl n w0 F S N0 μ0 st μ a w)
    (hQ : ∀ a w, Post dl n w0 F S N0 μ0 R a w → Q .normal a w) : (Code.region id ops draw).wpIn (FR r) 0 P Q a w := by
  unfold slimReg at hs
  split at hs
  · cases hs
  · rename_i l0 hl0
    obtain ⟨hlen, hget⟩ := mapM_slim hl0
    simp at hlen
    cases draw with
    | false => simp at hs
    | true =>
      simp only [if_true] at hs
      split at hs
      · rename_i ps hps
        split at hs
        · cases hs
        · obtain ⟨ps2, Ls2, e, c1, c2, c3, c4, c5⟩ := slimRegs_spec hs
          cases e
          obtain ⟨f1, _⟩ := mapM_pair c5
          have hps2 : ∀ x, x ∈ ps2 → x.1 < ops.size := fun x hx => by
            have : x.1 ∈ ps2.map (·.1) := List.mem_map_of_mem hx
            rw [f1] at this
            simpa using this
          have hcf : ∀ c, c ∈ conflicts (Region.before ops) ps2 → c.1 < ops.size ∧ c.2 < ops.size ∧ c.1 ≠ c.2 := fun c hc => by
            simp only [conflicts, List.mem_flatMap, List.mem_map, List.mem_filter, Bool.and_eq_true, decide_eq_true_eq] at hc
            obtain ⟨x, hx, y, ⟨hy, ⟨⟨⟨⟨hxy, _⟩, _⟩, _⟩, _⟩⟩, rfl⟩ := hc
            exact ⟨hps2 x hx, hps2 y hy, by simp only; omega⟩
          refine wpIn_region_draw fun t => ?_
          simp only [Region.schedule, hm, Bool.true_or, if_true]
          have hord := lin_ok c1 c2 t
          obtain ⟨L, hL, ht⟩ := covB_ok hord (H := conflicts (Region.before ops) ps2) (cs := []) hcf (fun c hc => by simp at hc) c4
          · obtain ⟨d1, d2⟩ := c3 L hL
            obtain ⟨e1, e2, e3⟩ := permOk_spec d1
            have hperm : (Region.linearise .any ops t).Perm (L.map (·.1)) :=
              (List.perm_ext_iff_of_nodup hord.nodup e2).2 fun i => ⟨fun hi => e3 i ((hord.mem i).1 hi), fun hi => (hord.mem i).2 (e1 i hi)⟩
            refine AW_ord hd _ L st μ a _ hord.nodup hperm (fun x hx => ?_) ht (hA _ (List.mem_map_of_mem hL)) h.drew hQ
            have hx1 := d2 x hx
            have hlt := (List.getElem?_eq_some_iff.1 hx1).1
            have hlt' : x.1 < ops.size := by omega
            refine ⟨ops[x.1], by simp [hlt'], ?_⟩
            rw [hget x.1 ops[x.1] (by simp [hlt']), hx1]
      · cases hs
end
end Go.Proofs.Yticflcpmlbaafaa.AL

/- AL: the marks that ranges over functions leave; what lays a round's variables; iterators. -/
set_option linter.unusedSimpArgs false
set_option linter.unusedVariables false
namespace Go.Proofs.Yticflcpmlbaafaa.AL
open Go

/-- The blocks of a call's own objects. -/
def Foot (K : KMap) (μ : Nat → Loc) (b : Nat) : Prop := ∃ id o, K id = some o ∧ (μ id).blk = some b

section
variable {P : Program} {dl : List Deferred} {w0 : World} {F S : Nat → Prop} {K K' : KMap} {N N' : Nat} {μ μ' : Nat → Loc} {w w' : World}

theorem HRel.foot (h : HRel w0 F S K N μ w) {b : Nat} (hb : Foot K μ b) : (F b ∨ w0.heap.size ≤ b) ∧ b < w.heap.size := by
  obtain ⟨id, o, h1, h2⟩ := hb
  exact h.blk id o b h1 h2

theorem HRel.rebase (h : HRel w0 F S K N μ w) : HRel w (Foot K μ) S K N μ w :=
  ⟨fun b hb => ⟨by have := (h.st b hb).1; have := h.size; omega, fun hf => by
      obtain ⟨h1, _⟩ := h.foot hf
      obtain ⟨h2, h3⟩ := h.st b hb
      rcases h1 with h1 | h1
      · exact h3 h1
      · omega⟩,
    rfl, rfl, rfl, Nat.le_refl _, fun b _ _ => rfl, h.obj, fun id o b h1 h2 => ⟨.inl ⟨id, o, h1, h2⟩, (h.blk id o b h1 h2).2⟩, h.dis⟩

theorem HRel.compose (h : HRel w0 F S K N μ w) (h' : HRel w (Foot K μ) S K' N' μ' w') : HRel w0 F S K' N' μ' w' :=
  ⟨h.st, h'.os.trans h.os, h'.tape.trans h.tape, h'.output.trans h.output, Nat.le_trans h.size h'.size,
    fun b hb hF => by
      rw [h'.frame b (by have := h.size; omega) (fun hf => by
        rcases (h.foot hf).1 with g | g
        · exact hF g
        · omega)]
      exact h.frame b hb hF,
    h'.obj, fun id o b h1 h2 => by
      obtain ⟨g1, g2⟩ := h'.blk id o b h1 h2
      refine ⟨?_, g2⟩
      rcases g1 with g1 | g1
      · exact (h.foot g1).1
      · exact .inr (by have := h.size; omega), h'.dis⟩

/-- An own object's block holds cells, or a map. -/
def objKind : Obj → Bool
  | .cells _ _ _ => true
  | .map _ _ => true
  | _ => false

theorem HRel.kind (h : HRel w0 F S K N μ w) {b : Nat} (hb : Foot K μ b) : ∃ o, w.heap[b]? = some o ∧ objKind o = true := by
  obtain ⟨id, o, h1, h2⟩ := hb
  have hok := (h.obj id o h1).2
  cases o with
  | row ver sz xs =>
    obtain ⟨_, _, _, _, _, h6⟩ := hok
    rw [h2] at h6
    obtain ⟨vals, ty, g, _⟩ := h6
    exact ⟨_, g, rfl⟩
  | map es =>
    obtain ⟨_, b', arr, clock, g1, g2, _⟩ := hok
    rw [h2] at g1
    cases g1
    exact ⟨_, g2, rfl⟩

/-- The deferred calls of the activation are marks of ranges over functions, each with its block. -/
def DefsOk (B : Nat) (dl : List Deferred) (w : World) : Prop :=
  ∃ Ds : List Nat, dl = Ds.map (fun D => { target := .collected D, args := #[] }) ∧ Ds.Nodup ∧ ∀ D, D ∈ Ds → B ≤ D ∧ w.heap[D]? = some (.deferred (some []))

theorem DefsOk.nil {B : Nat} {w : World} : DefsOk B [] w := ⟨[], rfl, List.nodup_nil, fun D h => by simp at h⟩

theorem DefsOk.step {B : Nat} (hd : DefsOk B dl w) (h : HRel w0 F S K N μ w) (h' : HRel w (Foot K μ) S K' N' μ' w') : DefsOk B dl w' := by
  obtain ⟨Ds, h1, h2, h3⟩ := hd
  refine ⟨Ds, h1, h2, fun D hD => ?_⟩
  obtain ⟨g1, g2⟩ := h3 D hD
  refine ⟨g1, ?_⟩
  rw [h'.frame D (Array.getElem?_eq_some_iff.1 g2).1 (fun hf => ?_)]
  · exact g2
  · obtain ⟨o, k1, k2⟩ := h.kind hf
    rw [g2] at k1
    cases k1
    cases k2

theorem Rel.rebase {n N0 : Nat} {μ0 : Nat → Loc} {st : St} {a : Act} (h : Rel dl n w0 F S N0 μ0 st μ a w) : Rel dl n w (Foot st.K μ) S N0 μ st μ a w :=
  ⟨h.defers, h.size, h.tm, h.h.rebase, h.ent, Later.refl _ _⟩

theorem Rel.compose {n N0 : Nat} {μ0 : Nat → Loc} {st st' : St} {a a' : Act} {dl' : List Deferred} (h : Rel dl n w0 F S N0 μ0 st μ a w) (h' : Rel dl' n w (Foot st.K μ) S N0 μ st' μ' a' w') : Rel dl' n w0 F S N0 μ0 st' μ' a' w' :=
  ⟨h'.defers, h'.size, h'.tm, h.h.compose h'.h, h'.ent, h.later.trans h'.later (Nat.le_refl _)⟩

theorem reg_soundD {n N0 : Nat} {μ0 : Nat → Loc} {st : St} {a : Act} {R : St → Prop} {Q : Exit → Act → World → Prop} {ops : Array Oper} {r : Option Nat} (hm : P.follows .mixedOrders = true) {id : Nat} {draw : Bool} {q : Bool} {l : List SOp} (hs : slimReg P ops draw = some (.reg q l)) (hd : dstsOk n ops) (hA : AW P q l st R)
    (h : Rel dl n w0 F S N0 μ0 st μ a w) {B : Nat} (hD : DefsOk B dl w) (hQ : ∀ a w st' μ', R st' → Rel dl n w0 F S N0 μ0 st' μ' a w → DefsOk B dl w → Q .normal a w) : (Code.region id ops draw).wpIn (FR r) 0 P Q a w := by
  refine reg_sound hm hs hd hA h.rebase ?_
  rintro a' w' ⟨st', μ', hR, hr⟩
  exact hQ a' w' st' μ' hR (h.compose hr) (hD.step h.h hr.h)

theorem regs_soundD {n N0 : Nat} {μ0 : Nat → Loc} {st : St} {a : Act} {R : St → Prop} {Q : Exit → Act → World → Prop} {ops : Array Oper} {r : Option Nat} (hm : P.follows .mixedOrders = true) {id : Nat} {draw : Bool} {Ls : List (List SOp)} (hs : slimReg P ops draw = some (.regs Ls)) (hd : dstsOk n ops) (hA : ∀ L, L ∈ Ls → AW P true L st R)
    (h : Rel dl n w0 F S N0 μ0 st μ a w) {B : Nat} (hD : DefsOk B dl w) (hQ : ∀ a w st' μ', R st' → Rel dl n w0 F S N0 μ0 st' μ' a w → DefsOk B dl w → Q .normal a w) : (Code.region id ops draw).wpIn (FR r) 0 P Q a w := by
  refine regs_sound hm hs hd hA h.rebase ?_
  rintro a' w' ⟨st', μ', hR, hr⟩
  exact hQ a' w' st' μ' hR (h.compose hr) (hD.step h.h hr.h)

/-! What lays a round's variables. -/
def setAll (tmps : Array Value) (ps : List Nat) (vs : List Value) : Array Value := (ps.zip vs).foldl (fun t x => t.setIfInBounds x.1 x.2) tmps
def mvAll (tmps : Array Value) (mvs : List (Nat × Nat)) : Array Value := mvs.foldl (fun t x => t.setIfInBounds x.1 (t.getD x.2 undef)) tmps

theorem move_wp {o : Oper} {d s : Nat} (ho : asg1 o = some (d, s)) {a : Act} {K : Act → World → Prop} {Q : Exit → Act → World → Prop} (hK : K { a with tmps := a.tmps.setIfInBounds d (a.tmps.getD s undef) } w) : o.wp P a w K Q := by
  obtain ⟨dst, op, guard, after, ty⟩ := o
  unfold asg1 at ho
  split at ho
  · rename_i h1 h2 h3
    simp only at h1 h2 h3
    cases ho
    subst h1 h2 h3
    exact hK
  · rename_i h1 h2 h3
    simp only at h1 h2 h3
    cases ho
    subst h1 h2 h3
    exact hK
  · cases ho

theorem asg_guard {o : Oper} {x : Nat × Nat} (ho : asg1 o = some x) : o.guard = none ∧ ∀ c, o.op ≠ .defer c := by
  unfold asg1 at ho
  split at ho
  · rename_i h1 h2 h3
    exact ⟨h3, fun c hc => by rw [h1] at hc; cases hc⟩
  · rename_i h1 h2 h3
    exact ⟨h3, fun c hc => by rw [h1] at hc; cases hc⟩
  · cases ho

theorem asg_ops {r : Option Nat} {ops : Array Oper} {Q : Exit → Act → World → Prop} : ∀ (is : List Nat) (l : List (Nat × Nat)) (a : Act), (is.map fun i => (ops[i]?).bind asg1) = l.map some → Q .normal { a with tmps := mvAll a.tmps l } w → wpOpsIn (FR r) 0 P ops Q is a w
  | [], [], a, hm, h => h
  | [], s :: l, a, hm, h => by simp at hm
  | i :: is, [], a, hm, h => by simp at hm
  | i :: is, (d, s) :: l, a, hm, h => by
    simp only [List.map_cons, List.cons.injEq] at hm
    obtain ⟨h0, hm⟩ := hm
    obtain ⟨o, ho, hs⟩ := Option.bind_eq_some_iff.1 h0
    obtain ⟨g1, g2⟩ := asg_guard hs
    simp only [wpOpsIn, ho]
    have hw : Region.wanted o (yielded ops a.tmps) = true := by simp [Region.wanted, g1]
    rw [if_pos hw]
    refine wpIn_of_wp g2 (move_wp hs ?_)
    exact asg_ops is l _ hm h

theorem asg_mapM {ops : Array Oper} {l : List (Nat × Nat)} (h : ops.toList.mapM asg1 = some l) : ((List.range ops.size).map fun i => (ops[i]?).bind asg1) = l.map some := by
  have key : ∀ (xs : List Oper) (l : List (Nat × Nat)), xs.mapM asg1 = some l → xs.map asg1 = l.map some := by
    intro xs
    induction xs with
    | nil => intro l h; cases h; rfl
    | cons x xs ih =>
      intro l h
      rw [List.mapM_cons] at h
      cases hx : asg1 x with
      | none => rw [hx] at h; cases h
      | some y =>
        rw [hx] at h
        cases hxs : xs.mapM asg1 with
        | none => rw [hxs] at h; cases h
        | some ys =>
          rw [hxs] at h
          cases h
          simp [hx, ih ys hxs]
  rw [← key _ _ h]
  apply List.ext_getElem?
  intro i
  simp only [List.getElem?_map, Array.getElem?_toList]
  by_cases hi : i < ops.size
  · simp [hi]
  · simp [hi]

theorem asg_wp {r : Option Nat} : ∀ {c : Code} {mvs : List (Nat × Nat)} {a : Act} {Q : Exit → Act → World → Prop}, asgOf c = some mvs → Q .normal { a with tmps := mvAll a.tmps mvs } w → c.wpIn (FR r) 0 P Q a w := by
  intro c
  induction c with
  | skip => intro mvs a Q h hQ; cases h; exact wpIn_skip hQ
  | seq x y ihx ihy =>
    intro mvs a Q h hQ
    simp only [asgOf] at h
    split at h
    · rename_i u v hu hv
      cases h
      refine wpIn_seq (ihx hu (ihy hv ?_))
      simpa [mvAll, List.foldl_append] using hQ
    · cases h
  | region id ops draw =>
    intro mvs a Q h hQ
    cases draw with
    | true => cases h
    | false => exact wpIn_region (asg_ops _ _ a (asg_mapM h) hQ)
  | _ => intro mvs a Q h; cases h

def psTm : List Nat → List T → (Nat → Option T) → Nat → Option T
  | p :: ps, d :: ds, tm => psTm ps ds (upd tm p d)
  | _, _, tm => tm
def mvTm : List (Nat × Nat) → (Nat → Option T) → Nat → Option T
  | [], tm => tm
  | (d, s) :: l, tm => mvTm l (match tm s with | some v => upd tm d v | none => clrO tm (some d))

theorem setAll_size (ps : List Nat) (vs : List Value) (tmps : Array Value) : (setAll tmps ps vs).size = tmps.size := by
  unfold setAll
  generalize ps.zip vs = l
  induction l generalizing tmps with
  | nil => rfl
  | cons x l ih => rw [List.foldl_cons, ih]; simp
theorem mvAll_size (mvs : List (Nat × Nat)) (tmps : Array Value) : (mvAll tmps mvs).size = tmps.size := by
  unfold mvAll
  induction mvs generalizing tmps with
  | nil => rfl
  | cons x l ih => rw [List.foldl_cons, ih]; simp

def TmRep (S : Nat → Prop) (N : Nat) (μ : Nat → Loc) (w : World) (tm : Nat → Option T) (tmps : Array Value) : Prop := ∀ t d, tm t = some d → RepT S N μ w d (tmps.getD t undef)

theorem TmRep.upd1 {tm : Nat → Option T} {tmps : Array Value} (h : TmRep S N μ w tm tmps) {p : Nat} (hp : p < tmps.size) {d : T} {v : Value} (hr : RepT S N μ w d v) : TmRep S N μ w (upd tm p d) (tmps.setIfInBounds p v) := by
  intro t e ht
  unfold upd at ht
  rw [Array.getD_eq_getD_getElem?, Array.getElem?_setIfInBounds]
  split at ht
  · rename_i e2
    cases ht
    subst e2
    simp [hp]
    exact hr
  · rename_i e2
    rw [if_neg (fun h => e2 h.symm), ← Array.getD_eq_getD_getElem?]
    exact h t e ht

theorem TmRep.clr1 {tm : Nat → Option T} {tmps : Array Value} (h : TmRep S N μ w tm tmps) {p : Nat} {v : Value} : TmRep S N μ w (clrO tm (some p)) (tmps.setIfInBounds p v) := by
  intro t e ht
  unfold clrO at ht
  simp only [clr] at ht
  rw [Array.getD_eq_getD_getElem?, Array.getElem?_setIfInBounds]
  split at ht
  · cases ht
  · rename_i e2
    rw [if_neg (fun h => e2 h.symm), ← Array.getD_eq_getD_getElem?]
    exact h t e ht

theorem TmRep.ps : ∀ {ps : List Nat} {ds : List T} {vs : List Value} {tm : Nat → Option T} {tmps : Array Value}, TmRep S N μ w tm tmps → (∀ p, p ∈ ps → p < tmps.size) → ArgsRep S N μ w ds vs → ps.length = vs.length → TmRep S N μ w (psTm ps ds tm) (setAll tmps ps vs)
  | [], ds, vs, tm, tmps, h, hp, ha, hl => by cases ds <;> simpa [psTm, setAll] using h
  | p :: ps, ds, [], tm, tmps, h, hp, ha, hl => by simp at hl
  | p :: ps, [], v :: vs, tm, tmps, h, hp, ha, hl => by have := ha.1; simp at this
  | p :: ps, d :: ds, v :: vs, tm, tmps, h, hp, ha, hl => by
    obtain ⟨a1, a2⟩ := ha
    obtain ⟨v', hv', hr⟩ := a2 0 d rfl
    simp at hv'
    subst hv'
    have := TmRep.ps (ps := ps) (ds := ds) (vs := vs) (h.upd1 (hp p (by simp)) hr) (fun q hq => by simpa using hp q (by simp [hq])) ⟨by simpa using a1, fun i e hi => by simpa using a2 (i + 1) e (by simpa using hi)⟩ (by simpa using hl)
    simpa [psTm, setAll] using this

theorem TmRep.mv : ∀ {mvs : List (Nat × Nat)} {tm : Nat → Option T} {tmps : Array Value}, TmRep S N μ w tm tmps → (∀ x, x ∈ mvs → x.1 < tmps.size) → TmRep S N μ w (mvTm mvs tm) (mvAll tmps mvs)
  | [], tm, tmps, h, hp => h
  | (d, s) :: l, tm, tmps, h, hp => by
    have hstep : TmRep S N μ w (match tm s with | some v => upd tm d v | none => clrO tm (some d)) (tmps.setIfInBounds d (tmps.getD s undef)) := by
      cases hs : tm s with
      | some v => exact h.upd1 (hp (d, s) (by simp)) (h s v hs)
      | none => exact h.clr1
    have := TmRep.mv (mvs := l) hstep (fun x hx => by simpa using hp x (by simp [hx]))
    simpa [mvTm, mvAll] using this

/-! Iterators. -/
def dropK (keep : List Nat) (K : KMap) : KMap := fun id => if id ∈ keep then none else K id
def KeepB (S : Nat → Prop) (K : KMap) (μ : Nat → Loc) (keep : List Nat) (b : Nat) : Prop := S b ∨ ∃ id, id ∈ keep ∧ ∃ o, K id = some o ∧ (μ id).blk = some b

end
end Go.Proofs.Yticflcpmlbaafaa.AL

/- AL: a range over a function, round by round. -/
set_option linter.unusedSimpArgs false
set_option linter.unusedVariables false
namespace Go.Proofs.Yticflcpmlbaafaa.AL
open Go Go.RowKit

/-- What an iterator does: it calls yield with these values, one behind the other, until a round says no; it needs Kp of the rounds. -/
def IterRun (P : Program) (gf : FuncId) (vals : Array Value) (encs : Nat → Array Value) (len : Nat) (Kp : World → World → Prop) (w : World) : Prop :=
  ∀ (l : Nat) (J Jx : Nat → World → Prop) (W : World), Kp w W → w.heap.size ≤ W.heap.size → AbidesFrom W.heap.size J → AbidesFrom W.heap.size Jx →
    (∀ i W1, J i W1 → i < len → YieldAt (FR none) 0 P l (encs i) W1 fun e W' => (e = .returned (.bool true) ∧ J (i + 1) W' ∧ Kp W1 W') ∨ (e = .returned (.bool false) ∧ Jx (i + 1) W')) →
    J 0 W → CallsIn (FR none) 1 P gf (#[.func (.yield l) #[] #[]] ++ vals) W fun e W' => (∃ v, e = .returned v) ∧ (J len W' ∨ ∃ i, i < len ∧ Jx (i + 1) W')

/-- How a round may be left. -/
def roundP (B : Nat) (Kp : World → World → Prop) (I : Nat → World → Prop) (Ix : Code → World → Prop) (i : Nat) (W : World) : Exit → Act → World → Prop
  | .normal, _, W' => KeepsFrom B W W' ∧ Kp W W' ∧ I (i + 1) W'
  | .ret, _, W' => KeepsFrom B W W' ∧ Ix .ret W'
  | .exit id, _, W' => KeepsFrom B W W' ∧ Ix (.exit id) W'
  | _, _, _ => False

def OwnOne (B : Nat) (I : World → Prop) : Prop := ∀ W W' row, I W → W.grownBy W' row → (∀ r, row = some r → B ≤ r ∧ ∃ o : Obj, W.heap[r]? = some o ∧ o.isCells = false) → I W'

theorem OwnOne.put {B : Nat} {I : World → Prop} (h : OwnOne B I) {W : World} {l : Nat} {o : Obj} (o' : Obj) (hI : I W) (hB : B ≤ l) (hl : W.heap[l]? = some o) (ho : o.isCells = false) : I (W.putObj l o') :=
  h W _ (some l) hI (grownBy_putObj' W l o') (fun r e => by cases e; exact ⟨hB, o, hl, ho⟩)
theorem OwnOne.new {B : Nat} {I : World → Prop} (h : OwnOne B I) {W : World} (o : Obj) (hI : I W) : I (W.alloc o) := h W _ none hI (World.grownBy_alloc W o none) (fun r e => by cases e)

theorem rf_law {P : Program} {g : Operand} {ps : Array Tmp} {assign body : Code} {Q : Exit → Act → World → Prop} {a : Act} {w : World} {gf : Nat} {vals : Array Value} (hg : a.eval g = .func (.func gf) #[] vals) (eg : ∀ args w, (callFunc gf args).run P w = .ok (.enter gf args) w)
    {encs : Nat → Array Value} {len : Nat} {Kp : World → World → Prop} (hit : IterRun P gf vals encs len Kp w) (hsz : ∀ x, (encs x).size = ps.size)
    (hKr : ∀ W, Kp W W) (hKt : ∀ {A B C : World}, Kp A B → Kp B C → Kp A C) (hKa : ∀ o, Kp w (w.alloc o) ∧ ∀ o', Kp w ((w.alloc o).alloc o')) (hKb : ∀ (W : World) (l : Nat) (o' : Obj), w.heap.size ≤ l → Kp W (W.putObj l o'))
    (I : Nat → World → Prop) (Ix : Code → World → Prop) (hI : ∀ i, OwnOne w.heap.size (I i)) (hIx : ∀ c, OwnOne w.heap.size (Ix c)) (h0 : I 0 w) (a₁ : Nat → Act)
    (hassign : ∀ (l i : Nat) (W : World) (K : Act → World → Prop), K (a₁ i) W → assign.wpIn (FR (some l)) 0 P (Exit.then K (fun _ _ _ => False)) { tmps := (ps.zip (encs i)).foldl (fun t (p, v) => t.setIfInBounds p v) a.tmps, defers := [] } W)
    (hbody : ∀ (l i : Nat) (W : World), I i W → i < len → body.wpIn (FR (some l)) 0 P (roundP w.heap.size Kp I Ix i W) (a₁ i) W)
    (hdone : ∀ (D : Nat) (W : World), w.heap.size ≤ D → I len W → W.heap[D]? = some (.deferred (some [])) → Q .normal { a with defers := { target := .collected D, args := #[] } :: a.defers } W)
    (hstop : ∀ (D : Nat) (c : Code) (W : World), w.heap.size ≤ D → Ix c W → W.heap[D]? = some (.deferred (some [])) → c.wpIn (FR none) 2 P Q { a with defers := { target := .collected D, args := #[] } :: a.defers } W) :
    (Code.rangeFunc g ps assign body).wpIn (FR none) 2 P Q a w := by
  refine wpIn_rangeFunc ?_
  intro fn hfn
  let rec' : LoopState → Option Code → Loop := fun st pe => { state := st, pending := pe, fn, tmps := a.tmps, params := ps, assign, body, defers := w.heap.size }
  obtain ⟨rc, hrc⟩ : ∃ rc, rc = rec' := ⟨_, rfl⟩
  obtain ⟨W1, hW1⟩ : ∃ W1, (w.alloc (.deferred (some []))).alloc (.loop (rc .ready none)) = W1 := ⟨_, rfl⟩
  have hL1 : W1.heap[w.heap.size + 1]? = some (.loop (rc .ready none)) := by
    rw [← hW1]
    have := World.alloc_heap_new (w.alloc (.deferred (some []))) (.loop (rc .ready none))
    rwa [World.size_alloc] at this
  have hD1 : W1.heap[w.heap.size]? = some (.deferred (some [])) := by
    rw [← hW1]
    exact (Below.heap_alloc _ _ _ (by simp)).trans (World.alloc_heap_new w _)
  have hsize1 : W1.heap.size = w.heap.size + 2 := by rw [← hW1]; simp
  have hI1 : I 0 W1 := by rw [← hW1]; exact (hI 0).new _ ((hI 0).new _ h0)
  refine ⟨w.heap.size + 1, [{ target := .collected w.heap.size, args := #[] }], W1, { target := .fn (.func gf) vals, args := #[.func (.yield (w.heap.size + 1)) #[] #[]] }, W1, gf,
    #[.func (.yield (w.heap.size + 1)) #[] #[]] ++ vals, W1, ?_, ?_, ?_, ?_, fun _ => by decide, ?_⟩
  · rw [← hW1, hrc]; exact run_enterLoop_outer _ _ _ _ _
  · simp only [resolve, hg]
    simp [go_sem]
  · intro f' _; trivial
  · simp [invoke, go_sem, eg]
  · have lift : ∀ {A B : World} {row : Option Nat}, (∀ r, row = some r → W1.heap.size ≤ r ∧ ∃ o : Obj, A.heap[r]? = some o ∧ o.isWalk = true) → (∀ r, row = some r → w.heap.size ≤ r ∧ ∃ o : Obj, A.heap[r]? = some o ∧ o.isCells = false) :=
      fun hr r e => by obtain ⟨hB, o, ho, hw⟩ := hr r e; exact ⟨by omega, o, ho, Obj.not_cells_of_walk hw⟩
    refine (hit (w.heap.size + 1)
      (fun i W => I i W ∧ W.heap[w.heap.size + 1]? = some (.loop (rc .ready none)) ∧ W.heap[w.heap.size]? = some (.deferred (some [])))
      (fun i W => ∃ c, Ix c W ∧ W.heap[w.heap.size + 1]? = some (.loop (rc .done (some c))) ∧ W.heap[w.heap.size]? = some (.deferred (some [])))
      W1 (by rw [← hW1]; exact (hKa _).2 _) (by omega)
      (fun s A B row hs hg' hr => ⟨hI s A B row hs.1 hg' (lift (B := B) hr), (grownBy_keeps hg' (fun r e => (hr r e).2) hs.2.1 rfl).trans hs.2.1, (grownBy_keeps hg' (fun r e => (hr r e).2) hs.2.2 rfl).trans hs.2.2⟩)
      (fun s A B row hs hg' hr => by
        obtain ⟨c, hc, hl, hk⟩ := hs
        exact ⟨c, hIx c A B row hc hg' (lift (B := B) hr), (grownBy_keeps hg' (fun r e => (hr r e).2) hl rfl).trans hl, (grownBy_keeps hg' (fun r e => (hr r e).2) hk rfl).trans hk⟩)
      ?_ ⟨hI1, hL1, hD1⟩).mono ?_
    · rintro i W ⟨hi, hl, hk⟩ hlen
      have hlt : w.heap.size + 1 < W.heap.size := (Array.getElem?_eq_some_iff.1 hl).1
      have hy := run_yield (P := P) (args := encs i) hl (by rw [hrc]; exact hsz i)
      rw [hrc] at hy
      refine ⟨fn, _, assign, body, hy, roundIn_of_wpIn trivial (hassign _ i W _ ⟨_, run_beginRound hl (by rw [hrc]), ?_⟩)⟩
      obtain ⟨Wb, hWb⟩ : ∃ Wb, W.putObj (w.heap.size + 1) (.loop { rc .ready none with state := .busy }) = Wb := ⟨_, rfl⟩
      have hl2 : Wb.heap[w.heap.size + 1]? = some (.loop { rc .ready none with state := .busy }) := by rw [← hWb]; exact World.putObj_heap_same hlt
      have hk2 : Wb.heap[w.heap.size]? = some (.deferred (some [])) := by rw [← hWb]; exact (World.putObj_heap_other (by omega)).trans hk
      have hKp2 : Kp W Wb := by rw [← hWb]; exact hKb _ _ _ (by omega)
      have hI2 : I i Wb := by rw [← hWb]; exact (hI i).put _ hi (by omega) hl rfl
      rw [hWb]
      refine wpIn_mono (hbody _ i Wb hI2 hlen) ?_
      have fin : ∀ (jump : Option Code) (W3 : World), KeepsFrom w.heap.size Wb W3 →
          (Instr.endRound (w.heap.size + 1) jump).run P W3 = .ok (.bool jump.isNone) (W3.putObj (w.heap.size + 1) (.loop (rc (if jump.isNone then .ready else .done) jump))) ∧
          W3.heap[w.heap.size + 1]? = some (.loop { rc .ready none with state := .busy }) ∧
          (W3.putObj (w.heap.size + 1) (.loop (rc (if jump.isNone then .ready else .done) jump))).heap[w.heap.size + 1]? = some (.loop (rc (if jump.isNone then .ready else .done) jump)) ∧
          (W3.putObj (w.heap.size + 1) (.loop (rc (if jump.isNone then .ready else .done) jump))).heap[w.heap.size]? = some (.deferred (some [])) := fun jump W3 hk3 => by
        have hl3 := hk3.same _ _ (by omega) hl2 rfl
        have hend := run_endRound (P := P) jump hl3
        rw [hrc] at hend ⊢
        exact ⟨hend, by rw [hrc] at hl3; exact hl3, World.putObj_heap_same (Array.getElem?_eq_some_iff.1 hl3).1, (World.putObj_heap_other (by omega)).trans (hk3.same _ _ (Nat.le_refl _) hk2 rfl)⟩
      rintro e a3 W3 hp
      cases e with
      | normal =>
        obtain ⟨hk3, hkp3, hi3⟩ := hp
        obtain ⟨hr, hl3, hl4, hk4⟩ := fin none W3 hk3
        exact ⟨_, _, hr, .inl ⟨rfl, ⟨(hI _).put _ hi3 (by omega) hl3 rfl, hl4, hk4⟩, hKt (hKt hKp2 hkp3) (hKb _ _ _ (by omega))⟩⟩
      | ret =>
        obtain ⟨hk3, hi3⟩ := hp
        obtain ⟨hr, hl3, hl4, hk4⟩ := fin (some .ret) W3 hk3
        exact ⟨_, _, hr, .inr ⟨rfl, .ret, (hIx _).put _ hi3 (by omega) hl3 rfl, hl4, hk4⟩⟩
      | exit id =>
        obtain ⟨hk3, hi3⟩ := hp
        obtain ⟨hr, hl3, hl4, hk4⟩ := fin (some (.exit id)) W3 hk3
        exact ⟨_, _, hr, .inr ⟨rfl, .exit id, (hIx _).put _ hi3 (by omega) hl3 rfl, hl4, hk4⟩⟩
      | goto t => exact hp.elim
      | panic ch => exact hp.elim
      | outgrown => exact hp.elim
    · rintro e W2 ⟨⟨v, rfl⟩, (⟨hi, hl, hk⟩ | ⟨i, _, c, hi, hl, hk⟩)⟩
      · exact ⟨none, _, by have := run_endLoop (P := P) hl (by rw [hrc]; simp [rec']); rw [hrc] at this; exact this, hdone _ _ (Nat.le_refl _) ((hI _).put _ hi (by omega) hl rfl) ((World.putObj_heap_other (by omega)).trans hk)⟩
      · exact ⟨some c, _, by have := run_endLoop (P := P) hl (by rw [hrc]; simp [rec']); rw [hrc] at this; exact this, hstop _ c _ (Nat.le_refl _) ((hIx c).put _ hi (by omega) hl rfl) ((World.putObj_heap_other (by omega)).trans hk)⟩
/-- Called with a loop's yield, the closure hands over these values, one round each, as long as what it reads (keep) stays as it is. -/
def Iter (P : Program) (gf : FuncId) (caps : List Nat) (K : KMap) (N : Nat) (m : Nat) (ys : List (List T)) (keep : List Nat) : Prop :=
  callable P gf = true ∧ ∀ (S : Nat → Prop) (μ : Nat → Loc) (w : World) (vals : Array Value), HRel w (Foot K μ) S K N μ w → RepC S N μ w (.fn gf caps) (.func (.func gf) #[] vals) →
    ∃ encs : Nat → Array Value, (∀ x, (encs x).size = m) ∧ (∀ i y, ys[i]? = some y → ArgsRep S N μ w y (encs i).toList) ∧
      IterRun P gf vals encs ys.length (fun W W' => ∀ b, KeepB S K μ keep b → W'.heap[b]? = W.heap[b]?) w

end Go.Proofs.Yticflcpmlbaafaa.AL

/- AL: a range over a map: what its operations do, and the parts of its code. -/
set_option linter.unusedSimpArgs false
set_option linter.unusedVariables false
namespace Go.Proofs.Yticflcpmlbaafaa.AL
open Go

/-- The pointer to an iterator. -/
def iptr (r : Nat) : Value := .pointer (some ⟨r, 0, none⟩)

section
variable {P : Program}

theorem next_nil {w : World} {ty : TypeId} {r a b : Nat} {s : Array Nat} (h : w.heap[r]? = some (.mapIter none a s b)) :
    (Instr.next (iptr r) false ty).run P w = .ok (.tuple #[.bool false]) w := by
  simp only [iptr, Instr.next, getObj, Sem.run_bind, Sem.run, h, Result.andThen]
  rfl

/-- The iterator's step over a map that is as it was: nothing is left, or one entry that is left comes out. -/
theorem next_map {w : World} {ty : TypeId} {r mb since c0 clock : Nat} {seen : Array Nat} {es : Array MapEntry} (hr : w.heap[r]? = some (.mapIter (some mb) since seen c0)) (hb : w.heap[mb]? = some (.map es clock))
    (hold : ∀ x ∈ es.toList, x.born < since) (hsc : since ≤ c0) :
    ((leftOf es seen).size = 0 ∧ (Instr.next (iptr r) false ty).run P w = .ok (.tuple #[.bool false]) w) ∨
    ∃ e ∈ (leftOf es seen).toList, ∃ w1 : World, (w1 = w ∨ w1 = w.drew) ∧ (Instr.next (iptr r) false ty).run P w = .ok (.tuple #[.bool true, e.key, e.val]) { w1 with heap := w1.heap.setIfInBounds r (.mapIter (some mb) since (seen.push e.born) clock) } := by
  simp only [iptr, Instr.next, getObj, Sem.run_bind, Sem.run, hr, hb, Result.andThen, next_test_false seen es since c0 hold hsc, Bool.false_eq_true, if_false]
  unfold leftOf
  have hmem : ∀ x ∈ (Array.filter (fun e => !seen.contains e.born) es).toList, x.born < since := fun x hx => hold x (by simp at hx ⊢; exact hx.1)
  generalize Array.filter (fun e => !seen.contains e.born) es = L at hmem ⊢
  have e1 : L.filter (fun x => decide (x.born < since)) = L := Array.filter_eq_self.2 (fun x hx => by simpa using hmem x (by simpa using hx))
  have e2 : L.filter (fun x => decide (x.born ≥ since)) = #[] := by
    rw [Array.filter_eq_empty_iff]
    intro x hx
    have := hmem x (by simpa using hx)
    simp
    omega
  simp only [e1, e2, Array.append_empty]
  by_cases h0 : L.size = 0
  · left
    have : L = #[] := Array.eq_empty_of_size_eq_zero h0
    subst this
    refine ⟨rfl, ?_⟩
    simp [choose, Sem.run, Question.forced]
  · right
    have hne : L.isEmpty = false := by simp [Array.isEmpty, h0]
    simp only [hne, Bool.false_eq_true, if_false, Array.empty_append, Array.size_map]
    have hch : ∃ (j : Nat) (w1 : World), j < L.size ∧ (w1 = w ∨ w1 = w.drew) ∧ (choose (Question.mapNext L.size)).run P w = .ok j w1 := by
      by_cases hf : L.size ≤ 1
      · exact ⟨0, w, by omega, .inl rfl, by simp [choose, Sem.run, Question.forced, hf]⟩
      · exact ⟨_, w.drew, Nat.mod_lt _ (by omega), .inr rfl, by
          simp only [choose, Sem.run, Question.forced, decide_eq_true_eq, hf, if_false, Question.cut]
          rfl⟩
    obtain ⟨j, w1, hj, hal, hrun⟩ := hch
    refine ⟨L[j], by simp, w1, hal, ?_⟩
    have hw1 : w1.heap = w.heap := by rcases hal with rfl | rfl <;> rfl
    have hset : ∀ o', (setObj r o').run P w1 = .ok () { w1 with heap := w1.heap.setIfInBounds r o' } := fun o' => by
      simp only [setObj, Sem.run, hw1, hr]
    simp only [hrun, Array.getElem?_map, Array.getElem?_eq_getElem hj, Option.map_some, Sem.run_bind, hset, Result.andThen]
    rfl

theorem entry_map {w : World} {r mb since clock : Nat} {seen : Array Nat} {es : Array MapEntry} {e : MapEntry} (hr : w.heap[r]? = some (.mapIter (some mb) since (seen.push e.born) clock)) (hb : w.heap[mb]? = some (.map es clock))
    (he : e ∈ es.toList) (hn : (es.toList.map (·.born)).Nodup) : (Instr.entry (iptr r)).run P w = .ok (.tuple #[e.key, e.val]) w := by
  have hf : es.find? (·.born == e.born) = some e := by rw [← Array.find?_toList]; exact find_born e es.toList hn he
  simp only [iptr, Instr.entry, getObj, Sem.run_bind, Sem.run, hr, hb, Result.andThen, Array.back?_push, bne_self_eq_false, Bool.false_eq_true, if_false, hf]
  rfl

/-- A foreign block is turned, or made: nothing of ours is. -/
theorem HRel.other {w0 : World} {F S : Nat → Prop} {K : KMap} {N : Nat} {μ : Nat → Loc} {w w' : World} (h : HRel w0 F S K N μ w) {r : Nat} (hos : w'.os = w.os) (htape : w'.tape = w.tape) (hout : w'.output = w.output)
    (hs : w.heap.size ≤ w'.heap.size) (hb : ∀ b, b < w.heap.size → b ≠ r → w'.heap[b]? = w.heap[b]?) (hr : ¬ Foot K μ r) (hr0 : w0.heap.size ≤ r) : HRel w0 F S K N μ w' := by
  have hsame : Same S w w' := fun b hb' => hb b (by have := (h.st b hb').1; have := h.size; omega) (by have := (h.st b hb').1; omega)
  refine ⟨h.st, hos.trans h.os, htape.trans h.tape, hout.trans h.output, Nat.le_trans h.size hs, fun b hb' hF => ?_, fun id o hk => ?_, fun id o b hk hb' => ?_, h.dis⟩
  · rw [hb b (by have := h.size; omega) (by omega)]
    exact h.frame b hb' hF
  · obtain ⟨h1, h2⟩ := h.obj id o hk
    refine ⟨h1, h2.move hsame (fun _ h => h) (Nat.le_refl _) (Later.refl _ _) rfl (fun b hb' => hb b (h.blk id o b hk hb').2 (fun e => hr ⟨id, o, hk, e ▸ hb'⟩))⟩
  · obtain ⟨h1, h2⟩ := h.blk id o b hk hb'
    exact ⟨h1, by omega⟩
end

/-! The parts of the code. -/
theorem isRange_spec {P : Program} {o : Oper} {m : Operand} {it : Nat} (h : isRange P o = some (m, it)) : o.dst = some it ∧ o.guard = none ∧ ∃ t k e, o.op = .range t m ∧ P.underlying t = some (.map k e) := by
  unfold isRange at h
  split at h
  · rename_i t m' it' h1 h2 h3
    split at h
    · rename_i k e hk
      cases h
      exact ⟨h2, h3, t, k, e, h1, hk⟩
    · cases h
  · cases h
theorem isNext_spec {o : Oper} {x y : Nat} (h : isNext o = some (x, y)) : o.dst = some y ∧ o.guard = none ∧ o.op = .next (.tmp x) false := by
  unfold isNext at h
  split at h
  · rename_i h1 h2 h3; cases h; exact ⟨h2, h3, h1⟩
  · cases h
theorem isExt0_spec {o : Oper} {x y : Nat} (h : isExt0 o = some (x, y)) : o.dst = some y ∧ o.guard = none ∧ o.op = .extract (.tmp x) 0 := by
  unfold isExt0 at h
  split at h
  · rename_i h1 h2 h3; cases h; exact ⟨h2, h3, h1⟩
  · cases h
theorem isEntry_spec {o : Oper} {x y : Nat} (h : isEntry o = some (x, y)) : o.dst = some y ∧ o.guard = none ∧ o.op = .entry (.tmp x) := by
  unfold isEntry at h
  split at h
  · rename_i h1 h2 h3; cases h; exact ⟨h2, h3, h1⟩
  · cases h
end Go.Proofs.Yticflcpmlbaafaa.AL

/- AL: the walk through code; contracts. -/
set_option linter.unusedSimpArgs false
set_option linter.unusedVariables false
namespace Go.Proofs.Yticflcpmlbaafaa.AL
open Go

inductive XE where
  | normal
  | exit (id : Nat)
  | ret
  deriving DecidableEq

def Weak (N0 : Nat) (st s : St) : Prop := ∀ dl n w0 F S μ0 μ a w, Rel dl n w0 F S N0 μ0 st μ a w → ∃ μ', Rel dl n w0 F S N0 μ0 s μ' a w

theorem Weak.refl (N0 : Nat) (st : St) : Weak N0 st st := fun _ _ _ _ _ _ μ _ _ h => ⟨μ, h⟩
theorem Weak.trans {N0 : Nat} {a b c : St} (h : Weak N0 a b) (k : Weak N0 b c) : Weak N0 a c := fun dl n w0 F S μ0 μ x w hr => by
  obtain ⟨μ1, h1⟩ := h dl n w0 F S μ0 μ x w hr
  exact k dl n w0 F S μ0 μ1 x w h1

def seqQ (K : St → Prop) (Q : XE → St → Prop) : XE → St → Prop
  | .normal, s => K s
  | e, s => Q e s

def blockQ (id : Nat) (Q : XE → St → Prop) : XE → St → Prop
  | .exit j, s => if j = id then Q .normal s else Q (.exit j) s
  | e, s => Q e s

def loopQ (N0 : Nat) (I : Nat → St → Prop) (m : Nat) (Q : XE → St → Prop) : XE → St → Prop
  | .normal, s => ∃ m' s2, m' < m ∧ Weak N0 s s2 ∧ I m' s2
  | e, s => ∃ s2, Weak N0 s s2 ∧ Q e s2

/-- What has to hold behind a round of a range over a function. -/
def rfQ (N : Nat) (I : Nat → KMap → Nat → Prop) (X : XE → KMap → Nat → Prop) (i : Nat) : XE → St → Prop
  | .normal, s => ∃ s2, Weak N s s2 ∧ I (i + 1) s2.K s2.N
  | e, s => ∃ s2, Weak N s s2 ∧ X e s2.K s2.N

/-- No map is among the objects that is none of the caller's old ones. -/
def MapsOld (K0 : KMap) (N0 : Nat) (K : KMap) : Prop := ∀ id es, K id = some (.map es) → id < N0 ∧ ∃ o, K0 id = some o

/-- Walked in each of these orders. -/
def AWs (P : Program) : List (List SOp) → St → (St → Prop) → Prop
  | [], _, _ => True
  | L :: Ls, st, R => AW P true L st R ∧ AWs P Ls st R

theorem AWs_all {P : Program} : ∀ {Ls : List (List SOp)} {st : St} {R : St → Prop}, AWs P Ls st R → ∀ L, L ∈ Ls → AW P true L st R
  | [], _, _, _, L, hL => by simp at hL
  | _ :: _, _, _, h, L, hL => by
    rcases List.mem_cons.1 hL with rfl | hL
    · exact h.1
    · exact AWs_all h.2 L hL
theorem AWs_mono {P : Program} : ∀ {Ls : List (List SOp)} {st : St} {R R' : St → Prop}, (∀ s, R s → R' s) → AWs P Ls st R → AWs P Ls st R'
  | [], _, _, _, _, _ => trivial
  | _ :: _, _, _, _, hR, h => ⟨AW_mono hR h.1, AWs_mono hR h.2⟩

/-- What has to hold behind a round of a range over a map. -/
def rmE (N0 : Nat) (J : St → Prop) (Q : XE → St → Prop) : XE → St → Prop
  | .normal, s => ∃ s2, Weak N0 s s2 ∧ J s2
  | e, s => Q e s

/-- A map's key as a value of the walk. -/
def keyV : Value → V
  | .agg a => .agg (a.toList.map fun v => cV v)
  | k => .x (cV k)
def keyGood : Value → Bool
  | .agg a => a.toList.all Value.oneCell'
  | k => k.oneCell'
def dataV (d : V) : Bool := d.cells.all fun c => match c with | .r _ => true | _ => false
/-- The temporaries in a round, and behind the last one. -/
def tmR (tm : Nat → Option T) (nx more pr : Nat) (e : Value × V) : Nat → Option T := upd (upd (clr tm nx) more (tB true)) pr (.tup [keyV e.1, e.2])
def tmE (tm : Nat → Option T) (nx more : Nat) : Nat → Option T := upd (clr tm nx) more (tB false)

def awp (P : Program) (N0 : Nat) : SCode → St → (XE → St → Prop) → Prop
  | .skip, st, Q => Q .normal st
  | .reg q ops, st, Q => AW P q ops st (Q .normal)
  | .regs ls, st, Q => AWs P ls st (Q .normal)
  | .seq a b, st, Q => awp P N0 a st (seqQ (fun s => awp P N0 b s Q) Q)
  | .cond c a b, st, Q =>
    match opd st.tm c with
    | some (.v (.x (.r (.val (.bool t))))) => (t = true → awp P N0 a st Q) ∧ (t = false → awp P N0 b st Q)
    | _ => False
  | .block id b, st, Q => awp P N0 b st (blockQ id Q)
  | .loop b, st, Q => ∃ I : Nat → St → Prop, (∃ m s, Weak N0 st s ∧ I m s) ∧ ∀ m s, I m s → awp P N0 b s (loopQ N0 I m Q)
  | .exit id, st, Q => Q (.exit id) st
  | .ret, st, Q => Q .ret st
  | .rf g ps mvs b, st, Q => ∃ (gf : FuncId) (caps : List Nat) (ys : List (List T)) (keep : List Nat) (I : Nat → KMap → Nat → Prop) (X : XE → KMap → Nat → Prop),
      opd st.tm g = some (.v (.x (.fn gf caps))) ∧ Iter P gf caps st.K st.N ps.length ys keep ∧
      ((∀ i K N, I i K N → MapsOld st.K st.N K) ∧ ∀ e K N, X e K N → MapsOld st.K st.N K) ∧
      (∃ s2 : St, Weak st.N ⟨st.tm, dropK keep st.K, st.N⟩ s2 ∧ I 0 s2.K s2.N) ∧
      (∀ i K N, i < ys.length → st.N ≤ N → I i K N → awp P st.N b ⟨mvTm mvs (psTm ps (ys.getD i []) st.tm), K, N⟩ (rfQ st.N I X i)) ∧
      (∀ K N, st.N ≤ N → I ys.length K N → Q .normal ⟨st.tm, K, N⟩) ∧ ∀ e K N, st.N ≤ N → X e K N → e ≠ .normal → Q e ⟨st.tm, K, N⟩
  | .rm init m it nx more pr asg out nb b, st, Q => AW P false init st fun s0 => ∀ r : Nat,
      (∃ v, opd s0.tm m = some v ∧ v = tV (.map none) ∧ Q .normal ⟨tmE (upd s0.tm it (tV (iptr r))) nx more, s0.K, s0.N⟩) ∨
      ∃ (mid : Nat) (es : List (Value × V)) (I : List (Value × V) → St → Prop), opd s0.tm m = some (tC (.map mid)) ∧ s0.K mid = some (.map es) ∧ es.all (fun e => keyGood e.1 && dataV e.2) = true ∧
        (∀ done s, I done s → s.tm it = some (tV (iptr r))) ∧
        (∃ s, Weak N0 ⟨upd s0.tm it (tV (iptr r)), dropK [mid] s0.K, s0.N⟩ s ∧ I [] s) ∧
        (∀ done e rest s, es.Perm (done ++ e :: rest) → I done s → AW P false asg ⟨tmR s.tm nx more pr e, s.K, s.N⟩ fun s' => awp P N0 b s' (blockQ nb (rmE N0 (I (done ++ [e])) (blockQ out Q)))) ∧
        (∀ done s, es.Perm done → I done s → Q .normal ⟨tmE s.tm nx more, s.K, s.N⟩)

theorem blockQ_mono {id : Nat} {Q Q' : XE → St → Prop} (hq : ∀ e s, Q e s → Q' e s) : ∀ e s, blockQ id Q e s → blockQ id Q' e s := fun e s hs => by
  cases e with
  | exit j =>
    simp only [blockQ] at hs ⊢
    split at hs
    · rename_i e; rw [if_pos e]; exact hq _ _ hs
    · rename_i e; rw [if_neg e]; exact hq _ _ hs
  | normal => exact hq _ _ hs
  | ret => exact hq _ _ hs
theorem rmE_mono {N0 : Nat} {J : St → Prop} {Q Q' : XE → St → Prop} (hq : ∀ e s, Q e s → Q' e s) : ∀ e s, rmE N0 J Q e s → rmE N0 J Q' e s := fun e s hs => by
  cases e with
  | normal => exact hs
  | exit j => exact hq _ _ hs
  | ret => exact hq _ _ hs

theorem awp_mono {P : Program} {N0 : Nat} : ∀ {c : SCode} {st : St} {Q Q' : XE → St → Prop}, (∀ e s, Q e s → Q' e s) → awp P N0 c st Q → awp P N0 c st Q'
  | .skip, st, Q, Q', hq, h => hq _ _ h
  | .reg q ops, st, Q, Q', hq, h => AW_mono (fun s hs => hq _ s hs) h
  | .regs ls, st, Q, Q', hq, h => AWs_mono (fun s hs => hq _ s hs) h
  | .seq a b, st, Q, Q', hq, h => awp_mono (c := a) (fun e s hs => by
      cases e with
      | normal => exact awp_mono (c := b) hq hs
      | exit id => exact hq _ _ hs
      | ret => exact hq _ _ hs) h
  | .cond c a b, st, Q, Q', hq, h => by
    unfold awp at *
    split at h
    · exact ⟨fun e => awp_mono hq (h.1 e), fun e => awp_mono hq (h.2 e)⟩
    · exact h.elim
  | .block id b, st, Q, Q', hq, h => awp_mono (c := b) (fun e s hs => by
      cases e with
      | exit j =>
        simp only [blockQ] at hs ⊢
        split at hs
        · rename_i e; rw [if_pos e]; exact hq _ _ hs
        · rename_i e; rw [if_neg e]; exact hq _ _ hs
      | normal => exact hq _ _ hs
      | ret => exact hq _ _ hs) h
  | .loop b, st, Q, Q', hq, h => by
    obtain ⟨I, h1, h2⟩ := h
    refine ⟨I, h1, fun m s hI => awp_mono (c := b) (fun e s hs => ?_) (h2 m s hI)⟩
    cases e with
    | normal => exact hs
    | exit id => obtain ⟨s2, k1, k2⟩ := hs; exact ⟨s2, k1, hq _ _ k2⟩
    | ret => obtain ⟨s2, k1, k2⟩ := hs; exact ⟨s2, k1, hq _ _ k2⟩
  | .exit id, st, Q, Q', hq, h => hq _ _ h
  | .ret, st, Q, Q', hq, h => hq _ _ h
  | .rf g ps mvs b, st, Q, Q', hq, h => by
    obtain ⟨gf, caps, ys, keep, I, X, h1, h2, h3, h4, h5, h6, h7⟩ := h
    exact ⟨gf, caps, ys, keep, I, X, h1, h2, h3, h4, h5, fun K N hN hI => hq _ _ (h6 K N hN hI), fun e K N hN hI he => hq _ _ (h7 e K N hN hI he)⟩
  | .rm init m it nx more pr asg out nb b, st, Q, Q', hq, h => by
    refine AW_mono (fun s0 h r => ?_) h
    rcases h r with ⟨v, h1, h2, h3⟩ | ⟨mid, es, I, h1, h2, h3, h4, h5, h6, h7⟩
    · exact .inl ⟨v, h1, h2, hq _ _ h3⟩
    · exact .inr ⟨mid, es, I, h1, h2, h3, h4, h5, fun done e rest s hp hI => AW_mono (fun s' hs => awp_mono (c := b) (blockQ_mono (rmE_mono (blockQ_mono hq))) hs) (h6 done e rest s hp hI), fun done s hp hI => hq _ _ (h7 done s hp hI)⟩

/-- Which of the machine's ways out is meant. -/
def XEx : XE → Exit → Prop
  | .normal, .normal => True
  | .exit i, .exit j => i = j
  | .ret, .ret => True
  | _, _ => False

def PostX (B n : Nat) (w0 : World) (F S : Nat → Prop) (N0 : Nat) (μ0 : Nat → Loc) (Q : XE → St → Prop) (e : Exit) (a : Act) (w : World) : Prop := ∃ x, XEx x e ∧ ∃ st μ, Q x st ∧ Rel a.defers n w0 F S N0 μ0 st μ a w ∧ DefsOk B a.defers w

def noRf : Code → Bool
  | .seq a b => noRf a && noRf b
  | .cond _ a b => noRf a && noRf b
  | .block _ b => noRf b
  | .loop b => noRf b
  | .rangeFunc _ _ _ _ => false
  | _ => true

/-- Each temporary that is written is there; no range over a function stands in another's round. -/
def dstsIn (n : Nat) : Code → Bool
  | .region _ ops _ => ops.all fun o => match o.dst with | some t => t < n | none => true
  | .seq a b => dstsIn n a && dstsIn n b
  | .cond _ a b => dstsIn n a && dstsIn n b
  | .block _ b => dstsIn n b
  | .loop b => dstsIn n b
  | .rangeFunc _ ps a b => ps.all (· < n) && (match asgOf a with | some mvs => mvs.all (·.1 < n) | none => false) && dstsIn n b && noRf b
  | _ => true

theorem PostX.weak {B n : Nat} {w0 : World} {F S : Nat → Prop} {N0 : Nat} {μ0 : Nat → Loc} {Q : XE → St → Prop} {x : XE} {e : Exit} {a : Act} {w : World} (hx : XEx x e) {R : St → Prop} (hR : ∀ s, R s → ∃ s2, Weak N0 s s2 ∧ Q x s2) {st : St} {μ : Nat → Loc} (hr : R st) (hrel : Rel a.defers n w0 F S N0 μ0 st μ a w) (hD : DefsOk B a.defers w) : PostX B n w0 F S N0 μ0 Q e a w := by
  obtain ⟨s2, h1, h2⟩ := hR st hr
  obtain ⟨μ', h3⟩ := h1 a.defers n w0 F S μ0 μ a w hrel
  exact ⟨x, hx, s2, μ', h2, h3, hD⟩

theorem wpIn_any {r : Option Nat} {P : Program} {n m : Nat} {c : Code} {Q : Exit → Act → World → Prop} {a : Act} {w : World} (h : c.wpIn (FR r) n P Q a w) : c.wpIn (FR r) m P Q a w :=
  fun b k cs h1 h2 _ => h b k cs h1 h2 (fun d hd => by cases hd)

/-- What is held in the rounds of a range over a function. -/
def Held (st : St) (w : World) (S : Nat → Prop) (μ : Nat → Loc) (keep : List Nat) (Φ : KMap → Nat → Prop) (W : World) : Prop :=
  ∃ K N μ', Φ K N ∧ HRel w (Foot (dropK keep st.K) μ) S K N μ' W ∧ st.N ≤ N ∧ Later st.N μ μ'

def codeX : XE → Option Code
  | .normal => none
  | .exit id => some (.exit id)
  | .ret => some .ret

section
variable {st : St} {w : World} {S : Nat → Prop} {μ : Nat → Loc} {keep : List Nat}

theorem foot_drop {b : Nat} (h : Foot (dropK keep st.K) μ b) : Foot st.K μ b := by
  obtain ⟨id, o, h1, h2⟩ := h
  unfold dropK at h1
  split at h1
  · cases h1
  · exact ⟨id, o, h1, h2⟩

theorem HRel.dropK (h : HRel w (Foot st.K μ) S st.K st.N μ w) : HRel w (Foot (dropK keep st.K) μ) S (dropK keep st.K) st.N μ w := by
  have hk : ∀ id o, AL.dropK keep st.K id = some o → st.K id = some o := fun id o h => by
    unfold AL.dropK at h
    split at h
    · cases h
    · exact h
  exact ⟨fun b hb => ⟨(h.st b hb).1, fun hf => (h.st b hb).2 (foot_drop hf)⟩, rfl, rfl, rfl, Nat.le_refl _, fun b _ _ => rfl, fun id o hk' => h.obj id o (hk _ _ hk'),
    fun id o b hk' hb => ⟨.inl ⟨id, o, hk', hb⟩, (h.blk id o b (hk _ _ hk') hb).2⟩, fun id id' o o' b hne h1 h2 hb => h.dis id id' o o' b hne (hk _ _ h1) (hk _ _ h2) hb⟩

/-- Book-keeping of the loop, in blocks that are none of ours. -/
theorem HRel.books {F : Nat → Prop} {K : KMap} {N : Nat} {μ' : Nat → Loc} {W W' : World} {row : Option Nat} (h : HRel w F S K N μ' W) (hF : ∀ b, F b → b < w.heap.size) (hmap : ∀ id es, K id = some (.map es) → ∀ b, (μ' id).blk = some b → b < w.heap.size)
    (hg : W.grownBy W' row) (hr : ∀ r, row = some r → w.heap.size ≤ r ∧ ∃ o : Obj, W.heap[r]? = some o ∧ o.isCells = false) : HRel w F S K N μ' W' := by
  have hlow : ∀ b, b < w.heap.size → W'.heap[b]? = W.heap[b]? := fun b hb => hg.block b (by have := h.size; omega) (fun e => by have := (hr b e.symm).1; omega)
  have hs : Same S W W' := fun b hb => hlow b (h.st b hb).1
  refine ⟨h.st, hg.os.trans h.os, hg.tape.trans h.tape, hg.output.trans h.output, Nat.le_trans h.size hg.size, fun b hb hf => (hlow b hb).trans (h.frame b hb hf), fun id o hk => ?_, fun id o b hk hb => ?_, h.dis⟩
  · obtain ⟨g1, g2⟩ := h.obj id o hk
    refine ⟨g1, g2.move hs (fun _ h => h) (Nat.le_refl _) (Later.refl _ _) rfl (fun b hb => ?_)⟩
    by_cases hlt : b < w.heap.size
    · exact hlow b hlt
    · refine hg.block b (h.blk id o b hk hb).2 (fun e => ?_)
      obtain ⟨_, o', k1, k2⟩ := hr b e.symm
      cases o with
      | row ver sz xs =>
        obtain ⟨_, _, _, _, _, h6⟩ := g2
        rw [hb] at h6
        obtain ⟨vals, ty, g, _⟩ := h6
        rw [g] at k1
        cases k1
        cases k2
      | map es => exact hlt (hmap id es hk b hb)
  · obtain ⟨g1, g2⟩ := h.blk id o b hk hb
    exact ⟨g1, Nat.lt_of_lt_of_le g2 hg.size⟩

theorem HRel.widen {F F' : Nat → Prop} {K : KMap} {N : Nat} {μ' : Nat → Loc} {W : World} (h : HRel w F S K N μ' W) (hF : ∀ b, F b → F' b) (hs : ∀ b, S b → ¬ F' b) : HRel w F' S K N μ' W :=
  ⟨fun b hb => ⟨(h.st b hb).1, hs b hb⟩, h.os, h.tape, h.output, h.size, fun b hb hf => h.frame b hb (fun hf' => hf (hF b hf')), h.obj, fun id o b h1 h2 => ⟨(h.blk id o b h1 h2).1.imp (hF b) (fun h => h), (h.blk id o b h1 h2).2⟩, h.dis⟩

theorem MapsOld.low (hw : HRel w (Foot st.K μ) S st.K st.N μ w) {F : Nat → Prop} {K : KMap} {N : Nat} {μ' : Nat → Loc} {W : World} (hm : MapsOld st.K st.N K) (hH : HRel w F S K N μ' W) (hL : Later st.N μ μ') {id : Nat} {es : List (Value × V)} (hk : K id = some (.map es)) {b : Nat} (hb : (μ' id).blk = some b) : b < w.heap.size := by
  obtain ⟨h1, o, h2⟩ := hm id es hk
  have hv : (μ' id).ver = 0 := (hH.obj id _ hk).2.1
  rcases hL id h1 with e | e
  · rw [e] at hb; exact (hw.blk id o b h2 hb).2
  · omega

theorem Held.own (hw : HRel w (Foot st.K μ) S st.K st.N μ w) {Φ : KMap → Nat → Prop} (hΦ : ∀ K N, Φ K N → MapsOld st.K st.N K) : OwnOne w.heap.size (Held st w S μ keep Φ) := by
  rintro W W' row ⟨K, N, μ', h1, h2, h3, h4⟩ hg hr
  exact ⟨K, N, μ', h1, h2.books (fun b hb => by
    obtain ⟨id, o, k1, k2⟩ := foot_drop hb
    exact (hw.blk id o b k1 k2).2) (fun id es hk b hb => (hΦ K N h1).low hw h2 h4 hk hb) hg hr, h3, h4⟩
end

/-! A range over a map. -/
theorem mapM_some {α β : Type} {f : α → Option β} : ∀ {l : List α} {r : List β}, l.mapM f = some r → l.map f = r.map some
  | [], r, h => by simp at h; subst h; rfl
  | x :: l, r, h => by
    simp only [List.mapM_cons] at h
    cases h1 : f x with
    | none => simp [h1] at h
    | some y =>
      cases h2 : l.mapM f with
      | none => simp [h1, h2] at h
      | some ys =>
        simp [h1, h2] at h
        subst h
        simp [h1, mapM_some h2]

theorem rmParts_spec {P : Program} {ops ns as : Array Oper} {c : Nat} {x : RM} (h : rmParts P ops ns as c = some x) :
    (∃ (k : Nat) (o : Oper), ops.size = k + 1 ∧ ops[k]? = some o ∧ isRange P o = some (x.m, x.it) ∧ ((List.range k).map fun i => (ops[i]?).bind (slim1 P ops)) = x.init.map some) ∧
    (∃ n1 n2 : Oper, ns.size = 2 ∧ ns[0]? = some n1 ∧ isNext n1 = some (x.it, x.nx) ∧ ns[1]? = some n2 ∧ isExt0 n2 = some (x.nx, x.more)) ∧
    (∃ (k : Nat) (e : Oper), as.size = k + 1 ∧ as[0]? = some e ∧ isEntry e = some (x.it, x.pr) ∧ (((List.range k).map (· + 1)).map fun i => (as[i]?).bind (slim1 P as)) = x.asg.map some) ∧
    c = x.more ∧ x.nx ≠ x.more ∧ x.nx ≠ x.it ∧ x.more ≠ x.it := by
  unfold rmParts at h
  split at h
  · rename_i m it i1 nx x1 more i2 pr h1 h2 h3 h4
    split at h
    · rename_i hc
      obtain ⟨c1, c2, c3, c4, c5, c6, c7, c8⟩ := hc
      split at h
      · rename_i init asg g1 g2
        cases h
        obtain ⟨o, ho, ho'⟩ := Option.bind_eq_some_iff.1 h1
        obtain ⟨n1, hn1, hn1'⟩ := Option.bind_eq_some_iff.1 h2
        obtain ⟨n2, hn2, hn2'⟩ := Option.bind_eq_some_iff.1 h3
        obtain ⟨e, he, he'⟩ := Option.bind_eq_some_iff.1 h4
        subst c2 c3 c4 c5
        have z1 := (Array.getElem?_eq_some_iff.1 ho).1
        have z2 := (Array.getElem?_eq_some_iff.1 he).1
        exact ⟨⟨ops.size - 1, o, by omega, ho, ho', mapM_some g1⟩, ⟨n1, n2, c1, hn1, hn1', hn2, hn2'⟩, ⟨as.size - 1, e, by omega, he, he', mapM_some g2⟩, rfl, c6, c7, c8⟩
      · cases h
    · cases h
  · cases h

theorem range_snoc (k : Nat) : List.range (k + 1) = List.range k ++ [k] := by
  rw [List.range_succ]

section
variable {P : Program} {a : Act} {w : World} {rr : Option Nat} {Q : Exit → Act → World → Prop}

theorem wanted_none {o : Oper} {y : Nat → Option Bool} (h : o.guard = none) : Region.wanted o y = true := by
  unfold Region.wanted
  rw [h]

/-- The loop's step: the iterator's next, and whether there was one. -/
theorem stepM_wp {i1 : Nat} {ns : Array Oper} {n1 n2 : Oper} {it nx more r : Nat} (hsz : ns.size = 2) (h1 : ns[0]? = some n1) (k1 : isNext n1 = some (it, nx)) (h2 : ns[1]? = some n2) (k2 : isExt0 n2 = some (nx, more))
    (hit : a.tmps.getD it undef = iptr r) (hnx : nx < a.tmps.size) {vs : Array Value} {t : Bool} {w' : World} (hrun : (Instr.next (iptr r) false n1.type).run P w = .ok (.tuple vs) w') (hv : vs[0]? = some (.bool t))
    (hQ : Q .normal ((a.put (some nx) (.tuple vs)).put (some more) (.bool t)) w') : (Code.region i1 ns false).wpIn (FR rr) 0 P Q a w := by
  obtain ⟨d1, g1, o1⟩ := isNext_spec k1
  obtain ⟨d2, g2, o2⟩ := isExt0_spec k2
  refine wpIn_region ?_
  rw [hsz]
  show wpOpsIn (FR rr) 0 P ns Q [0, 1] a w
  simp only [wpOpsIn, h1, h2, wanted_none g1, wanted_none g2, if_true]
  refine wpIn_of_wp (fun c hc => by rw [o1] at hc; cases hc) (wp_value (v := .tuple vs) (w' := w') ?_ ?_)
  · have he : a.eval (.tmp it) = iptr r := hit
    simp only [execOp, o1]
    rw [he]
    simp only [Sem.run_bind, hrun, Result.andThen, Sem.run_pure]
  · rw [d1]
    refine wpIn_of_wp (fun c hc => by rw [o2] at hc; cases hc) (wp_value (v := .bool t) (w' := w') ?_ ?_)
    · have he : (a.put (some nx) (.tuple vs)).eval (.tmp nx) = .tuple vs := by
        show ((a.tmps.setIfInBounds nx (.tuple vs)).getD nx undef) = _
        rw [getD_put, if_pos ⟨rfl, hnx⟩]
      simp only [execOp, o2]
      rw [he]
      simp [Instr.extract, hv]
    · rw [d2]; exact hQ
end

theorem HRel.less {w0 : World} {F S : Nat → Prop} {K K' : KMap} {N : Nat} {μ : Nat → Loc} {w : World} (h : HRel w0 F S K N μ w) (hk : ∀ id o, K' id = some o → K id = some o) : HRel w0 F S K' N μ w :=
  ⟨h.st, h.os, h.tape, h.output, h.size, h.frame, fun id o h1 => h.obj id o (hk _ _ h1), fun id o b h1 h2 => h.blk id o b (hk _ _ h1) h2, fun id id' o o' b hne h1 h2 hb => h.dis id id' o o' b hne (hk _ _ h1) (hk _ _ h2) hb⟩

theorem RepV_data {S : Nat → Prop} {N N' : Nat} {μ μ' : Nat → Loc} {w w' : World} {d : V} {v : Value} (hd : dataV d = true) (hs : Same S w w') (h : RepV S N μ w d v) : RepV S N' μ' w' d v := by
  have one : ∀ {c : C} {u : Value}, (match c with | .r _ => true | _ => false) = true → RepC S N μ w c u → RepC S N' μ' w' c u := by
    intro c u hc hr
    cases c <;> simp at hc
    exact RepR.same hs (fun _ h => h) hr
  unfold dataV at hd
  cases d with
  | x c => exact one (by simpa [V.cells] using hd) h
  | agg cs =>
    obtain ⟨vs, rfl, hsz, hc⟩ := h
    refine ⟨vs, rfl, hsz, fun i c hi => ?_⟩
    obtain ⟨u, hu, hr⟩ := hc i c hi
    exact ⟨u, hu, one (List.all_eq_true.1 hd c (List.mem_of_getElem? hi)) hr⟩

theorem keyV_rep {S : Nat → Prop} {N : Nat} {μ : Nat → Loc} {w : World} {k : Value} (hk : keyGood k = true) : RepV S N μ w (keyV k) k := by
  cases k with
  | agg a =>
    refine ⟨a, rfl, by simp, fun i c hi => ?_⟩
    simp only [List.getElem?_map, Option.map_eq_some_iff] at hi
    obtain ⟨v, hv, rfl⟩ := hi
    refine ⟨v, by simpa using hv, .val ?_⟩
    exact List.all_eq_true.1 hk v (List.mem_of_getElem? hv)
  | _ => exact RepR.val hk

/-- Which entries have been handed out. -/
structure SeenOk (arr : Array MapEntry) (es : List (Value × V)) (idx : List Nat) (seen : Array Nat) (done : List (Value × V)) : Prop where
  nd : idx.Nodup
  lt : ∀ i, i ∈ idx → i < es.length
  eq : done = idx.map fun i => es.getD i default
  mem : ∀ (j : Nat) (e : MapEntry), arr[j]? = some e → (seen.contains e.born = true ↔ j ∈ idx)

theorem getD_range {α : Type} {l : List α} {d : α} : (List.range l.length).map (fun i => l.getD i d) = l := by
  refine List.ext_getElem (by simp) fun i h1 h2 => ?_
  simp [h2]

theorem perm_of_mem {idx : List Nat} {n : Nat} (hn : idx.Nodup) (hm : ∀ i, i ∈ idx ↔ i < n) : (List.range n).Perm idx :=
  (List.perm_ext_iff_of_nodup List.nodup_range hn).2 fun i => by rw [List.mem_range, hm]

theorem seen_done {arr : Array MapEntry} {es : List (Value × V)} {idx : List Nat} {seen : Array Nat} {done : List (Value × V)} (h : SeenOk arr es idx seen done) (hsz : arr.size = es.length) (h0 : (leftOf arr seen).size = 0) : es.Perm done := by
  have hall : ∀ i, i ∈ idx ↔ i < es.length := fun i => ⟨h.lt i, fun hi => by
    have hi' : i < arr.size := by omega
    refine (h.mem i arr[i] (by simp [hi'])).1 ?_
    cases hc : seen.contains arr[i].born with
    | true => rfl
    | false =>
      have : arr[i] ∈ leftOf arr seen := by
        unfold leftOf
        rw [Array.mem_filter]
        exact ⟨by simp, by rw [hc]; rfl⟩
      rw [Array.eq_empty_of_size_eq_zero h0] at this
      simp at this⟩
  have := (perm_of_mem h.nd hall).map fun i => es.getD i default
  rw [getD_range] at this
  rw [h.eq]
  exact this

theorem seen_next {arr : Array MapEntry} {es : List (Value × V)} {idx : List Nat} {seen : Array Nat} {done : List (Value × V)} (h : SeenOk arr es idx seen done) (hsz : arr.size = es.length) {j : Nat} {e : MapEntry} (he : arr[j]? = some e)
    (hne : seen.contains e.born = false) (huniq : ∀ (i : Nat) (e' : MapEntry), arr[i]? = some e' → e'.born = e.born → i = j) : SeenOk arr es (idx ++ [j]) (seen.push e.born) (done ++ [es.getD j default]) ∧ ∃ rest, es.Perm (done ++ es.getD j default :: rest) := by
  have hj : j ∉ idx := fun hm => by rw [(h.mem j e he).2 hm] at hne; cases hne
  have hjl : j < es.length := by rw [← hsz]; exact (Array.getElem?_eq_some_iff.1 he).1
  refine ⟨⟨?_, fun i hi => ?_, by rw [h.eq]; simp, fun i e' he' => ?_⟩, ?_⟩
  · rw [List.nodup_append]
    refine ⟨h.nd, by simp, fun a ha b hb => ?_⟩
    simp at hb
    subst hb
    exact fun e => hj (e ▸ ha)
  · simp only [List.mem_append, List.mem_singleton] at hi
    rcases hi with hi | rfl
    · exact h.lt i hi
    · exact hjl
  · rw [Array.contains_push, Bool.or_eq_true, h.mem i e' he']
    simp only [List.mem_append, List.mem_singleton, beq_iff_eq]
    constructor
    · rintro (h1 | h1)
      · exact .inl h1
      · exact .inr (huniq i e' he' h1)
    · rintro (h1 | rfl)
      · exact .inl h1
      · right
        rw [he] at he'
        cases he'
        rfl
  · refine ⟨((List.range es.length).filter fun i => !(idx ++ [j]).contains i).map (fun i => es.getD i default), ?_⟩
    have hp : (List.range es.length).Perm (idx ++ j :: (List.range es.length).filter fun i => !(idx ++ [j]).contains i) := by
      refine (List.perm_ext_iff_of_nodup List.nodup_range ?_).2 fun i => ?_
      · rw [List.nodup_append]
        refine ⟨h.nd, ?_, fun a ha b hb => ?_⟩
        · rw [List.nodup_cons]
          exact ⟨by simp, List.nodup_range.filter _⟩
        · intro e
          subst e
          rcases List.mem_cons.1 hb with rfl | hb
          · exact hj ha
          · simp [ha] at hb
      · simp only [List.mem_range, List.mem_append, List.mem_cons, List.mem_filter]
        constructor
        · intro hi
          by_cases h1 : i ∈ idx
          · exact .inl h1
          · by_cases h2 : i = j
            · exact .inr (.inl h2)
            · exact .inr (.inr ⟨hi, by simp [h1, h2]⟩)
        · rintro (h1 | rfl | h1)
          · exact h.lt i h1
          · exact hjl
          · exact h1.1
    have := hp.map fun i => es.getD i default
    rw [getD_range] at this
    rw [h.eq]
    simpa using this

theorem nodup_born {arr : Array MapEntry} (h : ∀ (i j : Nat) (e e' : MapEntry), arr[i]? = some e → arr[j]? = some e' → e'.born = e.born → j = i) : (arr.toList.map (·.born)).Nodup := by
  rw [List.nodup_iff_pairwise_ne, List.pairwise_map, List.pairwise_iff_getElem]
  intro i j hi hj hij e
  have := h i j arr.toList[i] arr.toList[j] (by simp at hi; simp [hi]) (by simp at hj; simp [hj]) e.symm
  omega

theorem rm_sound {P : Program} {n B : Nat} {S : Nat → Prop} {rr : Option Nat} {N0 : Nat} {i0 i1 i2 out nb : Nat} {ops ns as : Array Oper} {c : Nat} {code : Code} {sb : SCode} {x : RM} (hx : rmParts P ops ns as c = some x)
    (hd0 : dstsOk n ops) (hd1 : dstsOk n ns) (hd2 : dstsOk n as)
    (ih : ∀ {w0 : World} {F : Nat → Prop} {μ0 : Nat → Loc} {dl : List Deferred} {Q : XE → St → Prop} {st : St} {μ : Nat → Loc} {a : Act} {w : World}, B ≤ w0.heap.size → awp P N0 sb st Q → Rel dl n w0 F S N0 μ0 st μ a w → DefsOk B dl w → code.wpIn (FR rr) 0 P (PostX B n w0 F S N0 μ0 Q) a w)
    {w0 : World} {F : Nat → Prop} {μ0 : Nat → Loc} {dl : List Deferred} {Q : XE → St → Prop} {st : St} {μ : Nat → Loc} {a : Act} {w : World} (hB : B ≤ w0.heap.size)
    (h : awp P N0 (.rm x.init x.m x.it x.nx x.more x.pr x.asg out nb sb) st Q) (hr : Rel dl n w0 F S N0 μ0 st μ a w) (hD : DefsOk B dl w) :
    (Code.seq (.region i0 ops false) (.block out (.loop (.seq (.region i1 ns false) (.seq (.cond (.tmp c) .skip (.exit out)) (.block nb (.seq (.region i2 as false) code))))))).wpIn (FR rr) 0 P (PostX B n w0 F S N0 μ0 Q) a w := by
  obtain ⟨⟨k, o, hk, ho, hoR, hinit⟩, ⟨n1, n2, hns, hn1, hn1', hn2, hn2'⟩, ⟨k2, e0, hk2, he0, he0', hasg⟩, rfl, q1, q2, q3⟩ := rmParts_spec hx
  obtain ⟨d1, g1, t, kt, et, o1, ht⟩ := isRange_spec hoR
  have lit : x.it < n := hd0 k o x.it ho d1
  have lnx : x.nx < n := hd1 0 n1 x.nx hn1 (isNext_spec hn1').1
  have lmore : x.more < n := hd1 1 n2 x.more hn2 (isExt0_spec hn2').1
  have lpr : x.pr < n := hd2 0 e0 x.pr he0 (isEntry_spec he0').1
  refine wpIn_seq (wpIn_region ?_)
  rw [hk, range_snoc]
  refine AW_opsThen hd0 [k] _ _ st μ a w hinit h hr.rebase ?_
  rintro a1 w1 ⟨s0, μ1, hs0, hr1'⟩
  have hr1 : Rel dl n w0 F S N0 μ0 s0 μ1 a1 w1 := hr.compose hr1'
  have hD1 : DefsOk B dl w1 := hD.step hr.h hr1'.h
  have he1 : dl = a1.defers := hr1.defers.symm
  subst he1
  simp only [wpOpsIn, ho, wanted_none g1, if_true]
  obtain ⟨r, er⟩ : ∃ r, r = w1.heap.size := ⟨_, rfl⟩
  have hnoF : ∀ {b : Nat}, Foot s0.K μ1 b → b < r := fun {b} ⟨id, ob, k1, k2⟩ => by rw [er]; exact (hr1.h.blk id ob b k1 k2).2
  have hr0 : w0.heap.size ≤ r := by rw [er]; exact hr1.h.size
  have mkRel : ∀ (ob : Obj), Rel a1.defers n w0 F S N0 μ0 ⟨upd s0.tm x.it (tV (iptr r)), s0.K, s0.N⟩ μ1 (a1.put (some x.it) (iptr r)) (w1.alloc ob) := fun ob =>
    hr1.put (dst := some x.it) (d := tV (iptr r)) (v := iptr r) (hr1.h.other (w' := w1.alloc ob) (r := r) rfl rfl rfl (by simp) (fun b hb _ => heap_alloc_old w1 ob hb) (fun hf => by have := hnoF hf; omega) hr0) (Nat.le_refl _) (Later.refl _ _) (fun t ht => by cases ht; exact lit) (RepR.val rfl)
  have mkD : ∀ (ob : Obj), DefsOk B a1.defers (w1.alloc ob) := fun ob => by
    obtain ⟨Ds, c1, c2, c3⟩ := hD1
    exact ⟨Ds, c1, c2, fun D hD => ⟨(c3 D hD).1, by rw [heap_alloc_old w1 ob (Array.getElem?_eq_some_iff.1 (c3 D hD).2).1]; exact (c3 D hD).2⟩⟩
  have itAt : (a1.put (some x.it) (iptr r)).tmps.getD x.it undef = iptr r := by
    show (a1.tmps.setIfInBounds x.it (iptr r)).getD x.it undef = _
    rw [getD_put, if_pos ⟨rfl, by rw [hr1.size]; exact lit⟩]
  -- behind the last round
  have fin : ∀ {a : Act} {w : World} {s : St} {μ' : Nat → Loc} {R : Exit → Act → World → Prop} (vs : Array Value), Rel a.defers n w0 F S N0 μ0 s μ' a w → DefsOk B a.defers w → Q .normal ⟨tmE s.tm x.nx x.more, s.K, s.N⟩ →
      (Code.seq (.cond (.tmp x.more) .skip (.exit out)) (.block nb (.seq (.region i2 as false) code))).wpIn (FR rr) 0 P (Exit.then (fun a' w' => R .normal a' w') (Exit.inBlock out (PostX B n w0 F S N0 μ0 Q))) ((a.put (some x.nx) (.tuple vs)).put (some x.more) (.bool false)) w := by
    intro a w s μ' R vs hrel hDw hq
    have hrel2 : Rel a.defers n w0 F S N0 μ0 ⟨tmE s.tm x.nx x.more, s.K, s.N⟩ μ' ((a.put (some x.nx) (.tuple vs)).put (some x.more) (.bool false)) w :=
      (hrel.clr hrel.h (Nat.le_refl _) (Later.refl _ _) (some x.nx) (.tuple vs)).put (dst := some x.more) (d := tB false) hrel.h (Nat.le_refl _) (Later.refl _ _) (fun t ht => by cases ht; exact lmore) (RepR.val rfl)
    refine wpIn_seq (wpIn_cond_false ?_ (wpIn_exit ?_))
    · show (((a.tmps.setIfInBounds x.nx (.tuple vs)).setIfInBounds x.more (.bool false)).getD x.more undef) = _
      rw [getD_put, if_pos ⟨rfl, by simp [hrel.size]; exact lmore⟩]
    · simp only [Exit.then, Exit.inBlock, if_true]
      exact ⟨.normal, trivial, _, μ', hq, hrel2, hDw⟩
  rcases hs0 r with ⟨v, hv1, hv2, hQ⟩ | ⟨mid, es, I, hm1, hm2, hm3, hit, ⟨s1, hwk, hI0⟩, hround, hdone⟩
  · subst hv2
    have hval : a1.eval x.m = .map none := (rep_val (opd_rep hr1 hv1)).1
    refine wpIn_of_wp (fun c hc => by rw [o1] at hc; cases hc) (wp_value (v := iptr r) (w' := w1.alloc (.mapIter none 0 #[] 0)) ?_ ?_)
    · simp only [execOp, o1]
      rw [hval]
      simp only [Sem.run_bind, run_range_nilMap w1 t kt et ht, Result.andThen, Sem.run_pure]
      rw [er]; rfl
    · rw [d1]
      refine wpIn_block (wpIn_loop (fun a w => a = a1.put (some x.it) (iptr r) ∧ w = w1.alloc (.mapIter none 0 #[] 0)) (fun _ _ => 0) ⟨rfl, rfl⟩ ?_)
      rintro _ _ ⟨rfl, rfl⟩
      refine wpIn_seq (stepM_wp hns hn1 hn1' hn2 hn2' itAt (by simp [Act.put, hr1.size]; exact lnx) (next_nil (by rw [er]; exact heap_alloc_new _ _)) rfl ?_)
      simp only [Exit.then]
      exact wpIn_mono (fin (R := fun _ _ _ => False) _ (mkRel _) (mkD _) hQ) (fun e a w hp => by cases e <;> first | exact hp.elim | exact hp)
  · have hval := opd_rep hr1 hm1
    obtain ⟨_, A, hA, hcur⟩ := hval
    obtain ⟨hidN, hver, mb, arr, clock, hmb, hheap, hsz, hall⟩ := hr1.h.obj mid _ hm2
    have hAm : A = some mb := by rw [hcur hver, hmb]
    subst hAm
    have hborn : ∀ (i : Nat) (e : MapEntry), arr[i]? = some e → ∃ k d, es[i]? = some (k, d) ∧ e.key = k ∧ BornOk arr clock i e ∧ RepV S s0.N μ1 w1 d e.val := fun i e he => by
      have hi : i < es.length := by rw [← hsz]; exact (Array.getElem?_eq_some_iff.1 he).1
      obtain ⟨e', h1, h2, h3, h4⟩ := hall i _ _ (List.getElem?_eq_getElem hi)
      rw [he] at h1
      cases h1
      exact ⟨_, _, List.getElem?_eq_getElem hi, h2, h3, h4⟩
    have hold : ∀ e ∈ arr.toList, e.born < clock := fun e he => by
      obtain ⟨i, hi, rfl⟩ := List.getElem_of_mem he
      obtain ⟨_, _, _, _, hb, _⟩ := hborn i arr.toList[i] (by rw [Array.length_toList] at hi; simp [hi])
      exact hb.1
    have hnd : (arr.toList.map (·.born)).Nodup := nodup_born fun i j e e' h1 h2 h3 => by
      obtain ⟨_, _, _, _, hb, _⟩ := hborn i e h1
      exact hb.2 j e' h2 h3
    have hmbr : mb < r := hnoF ⟨mid, _, hm2, hmb⟩
    refine wpIn_of_wp (fun c hc => by rw [o1] at hc; cases hc) (wp_value (v := iptr r) (w' := w1.alloc (.mapIter (some mb) clock #[] clock)) ?_ ?_)
    · simp only [execOp, o1]
      have : a1.eval x.m = .map (some mb) := hA
      rw [this]
      simp only [Sem.run_bind, run_range_map w1 t kt et mb arr clock ht hheap, Result.andThen, Sem.run_pure]
      rw [er]; rfl
    · rw [d1]
      refine wpIn_block ?_
      have hlow : ∀ b, b < r → (w1.alloc (.mapIter (some mb) clock #[] clock)).heap[b]? = w1.heap[b]? := fun b hb => heap_alloc_old w1 _ (by omega)
      have hw2r : (w1.alloc (.mapIter (some mb) clock #[] clock)).heap[r]? = some (.mapIter (some mb) clock #[] clock) := by rw [er]; exact heap_alloc_new _ _
      have hw2m : (w1.alloc (.mapIter (some mb) clock #[] clock)).heap[mb]? = some (.map arr clock) := by rw [hlow mb hmbr]; exact hheap
      have hrel2 := mkRel (.mapIter (some mb) clock #[] clock)
      have hD2 := mkD (.mapIter (some mb) clock #[] clock)
      generalize w1.alloc (.mapIter (some mb) clock #[] clock) = w2 at hlow hw2r hw2m hrel2 hD2 ⊢
      have hsame12 : Same S w1 w2 := fun b hb => hlow b (by have := (hr1.h.st b hb).1; omega)
      -- the rounds
      refine wpIn_loop (fun a w => ∃ (done : List (Value × V)) (idx : List Nat) (seen : Array Nat) (c0 : Nat) (s : St) (μ' : Nat → Loc), I done s ∧ Rel a.defers n w0 F S N0 μ0 s μ' a w ∧ DefsOk B a.defers w ∧
        w.heap[r]? = some (.mapIter (some mb) clock seen c0) ∧ clock ≤ c0 ∧ w.heap[mb]? = some (.map arr clock) ∧ ¬ Foot s.K μ' r ∧ ¬ Foot s.K μ' mb ∧ SeenOk arr es idx seen done) (fun _ w => (leftOf arr (w.iterSeen r)).size) ?_ ?_
      · have hdrop : ∀ id ob, dropK [mid] s0.K id = some ob → s0.K id = some ob := fun id ob h => by
          unfold dropK at h
          split at h
          · cases h
          · exact h
        have hrd : Rel a1.defers n w0 F S N0 μ0 ⟨upd s0.tm x.it (tV (iptr r)), dropK [mid] s0.K, s0.N⟩ μ1 (a1.put (some x.it) (iptr r)) w2 := ⟨hrel2.defers, hrel2.size, hrel2.tm, hrel2.h.less hdrop, hrel2.ent, hrel2.later⟩
        have hnr : ¬ Foot (dropK [mid] s0.K) μ1 r := fun ⟨id, ob, k1, k2⟩ => by have := hnoF ⟨id, ob, hdrop _ _ k1, k2⟩; omega
        have hnm : ¬ Foot (dropK [mid] s0.K) μ1 mb := fun ⟨id, ob, k1, k2⟩ => by
          have hne : id ≠ mid := fun e => by subst e; simp [dropK] at k1
          exact hr1.h.dis id mid ob _ mb hne (hdrop _ _ k1) hm2 k2 hmb
        obtain ⟨μ3, hr3⟩ := hwk _ n w2 (Foot (dropK [mid] s0.K) μ1) S μ1 μ1 _ w2 hrd.rebase
        have hfoot : ∀ b, Foot s1.K μ3 b → Foot (dropK [mid] s0.K) μ1 b := fun b ⟨id, ob, k1, k2⟩ => by
          obtain ⟨h1 | h1, h2⟩ := hr3.h.blk id ob b k1 k2
          · exact h1
          · omega
        exact ⟨[], [], #[], clock, s1, μ3, hI0, hrd.compose hr3, hD2, hw2r, Nat.le_refl _, hw2m, fun h => hnr (hfoot _ h), fun h => hnm (hfoot _ h), ⟨List.nodup_nil, by simp, rfl, fun j e _ => by simp⟩⟩
      · rintro a w ⟨done, idx, seen, c0, s, μ', hI, hrel, hDw, hwr, hc0, hwm, hfr, hfm, hseen⟩
        have hita : a.tmps.getD x.it undef = iptr r := (rep_val (hrel.tm x.it _ (hit done s hI))).1
        have hsn : w.iterSeen r = seen := by unfold World.iterSeen; rw [hwr]
        rcases next_map (P := P) (ty := n1.type) hwr hwm hold hc0 with ⟨h0, hrun⟩ | ⟨e, he, w1', hw1', hrun⟩
        · refine wpIn_seq (stepM_wp hns hn1 hn1' hn2 hn2' hita (by rw [hrel.size]; exact lnx) hrun rfl ?_)
          simp only [Exit.then]
          exact wpIn_mono (fin (R := fun _ _ _ => False) _ hrel hDw (hdone done s (seen_done hseen hsz h0) hI)) (fun e a w hp => by cases e <;> first | exact hp.elim | exact hp)
        · obtain ⟨hea, hes⟩ := mem_left he
          obtain ⟨j, hj, hje⟩ := List.getElem_of_mem hea
          have hje' : arr[j]? = some e := by
            rw [Array.length_toList] at hj
            rw [← hje]
            simp [hj]
          obtain ⟨kk, dd, hesj, hkey, hbok, hrv⟩ := hborn j e hje'
          have hgd : es.getD j default = (kk, dd) := by rw [List.getD_eq_getElem?_getD, hesj]; rfl
          obtain ⟨hseen', rest, hperm⟩ := seen_next hseen hsz hje' hes hbok.2
          rw [hgd] at hseen' hperm
          have hrw : r < w.heap.size := (Array.getElem?_eq_some_iff.1 hwr).1
          have hw1h : w1'.heap = w.heap := by rcases hw1' with rfl | rfl <;> rfl
          obtain ⟨w3, ew3⟩ : ∃ w3 : World, w3 = { w1' with heap := w1'.heap.setIfInBounds r (.mapIter (some mb) clock (seen.push e.born) clock) } := ⟨_, rfl⟩
          rw [← ew3] at hrun
          have hw3h : w3.heap = w.heap.setIfInBounds r (.mapIter (some mb) clock (seen.push e.born) clock) := by rw [ew3, ← hw1h]
          have hw3o : ∀ b, b ≠ r → w3.heap[b]? = w.heap[b]? := fun b hb => by rw [hw3h, Array.getElem?_setIfInBounds, if_neg (Ne.symm hb)]
          have hw3r : w3.heap[r]? = some (.mapIter (some mb) clock (seen.push e.born) clock) := by rw [hw3h, Array.getElem?_setIfInBounds, if_pos rfl, if_pos hrw]
          have hw3m : w3.heap[mb]? = some (.map arr clock) := by rw [hw3o mb (by omega)]; exact hwm
          have hh3 : HRel w0 F S s.K s.N μ' w3 := hrel.h.other (r := r) (by rw [ew3]; rcases hw1' with rfl | rfl <;> rfl) (by rw [ew3]; rcases hw1' with rfl | rfl <;> rfl) (by rw [ew3]; rcases hw1' with rfl | rfl <;> rfl) (by rw [hw3h]; simp) (fun b _ hb => hw3o b hb) hfr hr0
          have hsz3 : r < w3.heap.size := by rw [hw3h]; simpa using hrw
          have hDw3 : DefsOk B a.defers w3 := by
            obtain ⟨Ds, c1, c2, c3⟩ := hDw
            refine ⟨Ds, c1, c2, fun D hD => ⟨(c3 D hD).1, ?_⟩⟩
            rw [hw3o D (fun e => by have := (c3 D hD).2; rw [e, hwr] at this; cases this)]
            exact (c3 D hD).2
          refine wpIn_seq (stepM_wp hns hn1 hn1' hn2 hn2' hita (by rw [hrel.size]; exact lnx) hrun rfl ?_)
          simp only [Exit.then]
          have hrel3 : Rel a.defers n w0 F S N0 μ0 ⟨upd (clr s.tm x.nx) x.more (tB true), s.K, s.N⟩ μ' ((a.put (some x.nx) (.tuple #[.bool true, e.key, e.val])).put (some x.more) (.bool true)) w3 :=
            (hrel.clr hh3 (Nat.le_refl _) (Later.refl _ _) (some x.nx) (.tuple #[.bool true, e.key, e.val])).put (dst := some x.more) (d := tB true) hh3 (Nat.le_refl _) (Later.refl _ _) (fun t ht => by cases ht; exact lmore) (RepR.val rfl)
          refine wpIn_seq (wpIn_cond_true ?_ (wpIn_skip ?_))
          · show (((a.tmps.setIfInBounds x.nx _).setIfInBounds x.more (.bool true)).getD x.more undef) = _
            rw [getD_put, if_pos ⟨rfl, by simp [hrel.size]; exact lmore⟩]
          simp only [Exit.then]
          refine wpIn_block (wpIn_seq (wpIn_region ?_))
          rw [hk2, List.range_succ_eq_map]
          obtain ⟨d3, g3, o3⟩ := isEntry_spec he0'
          simp only [wpOpsIn, he0, wanted_none g3, if_true]
          have hit3 : ((a.put (some x.nx) (.tuple #[.bool true, e.key, e.val])).put (some x.more) (.bool true)).eval (.tmp x.it) = iptr r := by
            show (((a.tmps.setIfInBounds x.nx _).setIfInBounds x.more _).getD x.it undef) = _
            rw [getD_put, if_neg (fun e => q3 e.1.symm), getD_put, if_neg (fun e => q2 e.1.symm)]
            exact hita
          refine wpIn_of_wp (fun c hc => by rw [o3] at hc; cases hc) (wp_value (v := .tuple #[e.key, e.val]) (w' := w3) ?_ ?_)
          · simp only [execOp, o3]
            rw [hit3]
            simp only [Sem.run_bind, entry_map hw3r hw3m hea hnd, Result.andThen, Sem.run_pure]
          rw [d3]
          have hgood := List.all_eq_true.1 hm3 _ (List.mem_of_getElem? hesj)
          rw [Bool.and_eq_true] at hgood
          have hsame3 : Same S w1 w3 := fun b hb => by
            obtain ⟨b1, b2⟩ := hr1.h.st b hb
            rw [hh3.frame b b1 b2, hr1.h.frame b b1 b2]
          have hrel4 : Rel a.defers n w0 F S N0 μ0 ⟨tmR s.tm x.nx x.more x.pr (kk, dd), s.K, s.N⟩ μ' (((a.put (some x.nx) (.tuple #[.bool true, e.key, e.val])).put (some x.more) (.bool true)).put (some x.pr) (.tuple #[e.key, e.val])) w3 :=
            hrel3.put (dst := some x.pr) (d := .tup [keyV kk, dd]) hh3 (Nat.le_refl _) (Later.refl _ _) (fun t ht => by cases ht; exact lpr) ⟨#[e.key, e.val], rfl, rfl, fun i d hi => by
              match i with
              | 0 => cases hi; exact ⟨e.key, rfl, by rw [hkey]; exact keyV_rep hgood.1⟩
              | 1 => cases hi; exact ⟨e.val, rfl, RepV_data hgood.2 hsame3 hrv⟩
              | i + 2 => simp at hi⟩
          have hB3 : B ≤ w3.heap.size := by have := hh3.size; omega
          refine AW_ops hd2 _ _ _ μ' _ w3 hasg (hround done (kk, dd) rest s hperm hI) hrel4.rebase ?_
          rintro a5 w5 ⟨s5, μ5, hs5, hr5⟩
          simp only [Exit.then]
          have hD5 : DefsOk B a.defers w5 := hDw3.step hrel4.h hr5.h
          refine wpIn_mono (ih hB3 hs5 hr5 hD5) ?_
          rintro e6 a6 w6 ⟨x6, hx6, s6, μ6, hq6, hr6, hD6⟩
          have again : (∃ s2, Weak N0 s6 s2 ∧ I (done ++ [(kk, dd)]) s2) → (∃ (done : List (Value × V)) (idx : List Nat) (seen : Array Nat) (c0 : Nat) (s : St) (μ' : Nat → Loc), I done s ∧ Rel a6.defers n w0 F S N0 μ0 s μ' a6 w6 ∧ DefsOk B a6.defers w6 ∧
              w6.heap[r]? = some (.mapIter (some mb) clock seen c0) ∧ clock ≤ c0 ∧ w6.heap[mb]? = some (.map arr clock) ∧ ¬ Foot s.K μ' r ∧ ¬ Foot s.K μ' mb ∧ SeenOk arr es idx seen done) ∧ (leftOf arr (w6.iterSeen r)).size < (leftOf arr (w.iterSeen r)).size := by
            rintro ⟨s2, hwk2, hI2⟩
            obtain ⟨μ7, hr7⟩ := hwk2 _ n w3 (Foot s.K μ') S μ' μ6 a6 w6 hr6
            have e6r : w6.heap[r]? = some (.mapIter (some mb) clock (seen.push e.born) clock) := by rw [hr7.h.frame r hsz3 hfr]; exact hw3r
            have e6m : w6.heap[mb]? = some (.map arr clock) := by rw [hr7.h.frame mb (by omega) hfm]; exact hw3m
            have hfoot : ∀ b, b < w3.heap.size → Foot s2.K μ7 b → Foot s.K μ' b := fun b hb ⟨id, ob, k1, k2⟩ => by
              obtain ⟨h1 | h1, h2⟩ := hr7.h.blk id ob b k1 k2
              · exact h1
              · omega
            refine ⟨⟨_, _, _, clock, s2, μ7, hI2, ⟨hr7.defers, hr7.size, hr7.tm, hh3.compose hr7.h, hr7.ent, hrel.later.trans hr7.later (Nat.le_refl _)⟩, hD6, e6r, Nat.le_refl _, e6m, fun h => hfr (hfoot r hsz3 h), fun h => hfm (hfoot mb (by omega) h), hseen'⟩, ?_⟩
            rw [hsn, show w6.iterSeen r = seen.push e.born by unfold World.iterSeen; rw [e6r]]
            exact left_shrinks arr seen e he
          have outw : ∀ {y : XE} {ee : Exit}, XEx y ee → Q y s6 → PostX B n w0 F S N0 μ0 Q ee a6 w6 := fun hy hq =>
            ⟨_, hy, s6, μ6, hq, ⟨hr6.defers, hr6.size, hr6.tm, hh3.compose hr6.h, hr6.ent, hrel.later.trans hr6.later (Nat.le_refl _)⟩, hD6⟩
          cases e6 with
          | normal =>
            cases x6 <;> simp [XEx] at hx6
            exact again hq6
          | exit i =>
            cases x6 <;> simp [XEx] at hx6
            subst hx6
            simp only [blockQ] at hq6
            simp only [Exit.inBlock]
            split at hq6
            · rename_i e; rw [if_pos e]; exact again hq6
            · rename_i e
              rw [if_neg e]
              simp only [rmE, blockQ] at hq6
              simp only [Exit.then, Exit.inBlock]
              split at hq6
              · rename_i e; rw [if_pos e]; exact outw (y := .normal) trivial hq6
              · rename_i e; rw [if_neg e]; exact outw (y := .exit _) rfl hq6
          | ret =>
            cases x6 <;> simp [XEx] at hx6
            exact outw (y := .ret) trivial hq6
          | _ => cases x6 <;> simp [XEx] at hx6


theorem awp_soundF {P : Program} (hm : P.follows .mixedOrders = true) {n B : Nat} {S : Nat → Prop} (fuel : Nat) : ∀ {c : Code}, SizeOf.sizeOf c ≤ fuel → ∀ {r : Option Nat} {w0 : World} {F : Nat → Prop} {N0 : Nat} {μ0 : Nat → Loc} {dl : List Deferred} {sc : SCode} {Q : XE → St → Prop} {st : St} {μ : Nat → Loc} {a : Act} {w : World}, B ≤ w0.heap.size → slim P c = some sc → dstsIn n c = true → (r.isSome = true → noRf c = true) →
    awp P N0 sc st Q → Rel dl n w0 F S N0 μ0 st μ a w → DefsOk B dl w → c.wpIn (FR r) 0 P (PostX B n w0 F S N0 μ0 Q) a w := by
  induction fuel with
  | zero => intro c hk; cases c <;> simp at hk
  | succ fuel IH =>
  intro c hk
  cases c with
  | skip => intro r w0 F N0 μ0 dl sc Q st μ a w hB hs hd hn h hr hD; cases hs; exact wpIn_skip ⟨.normal, trivial, st, μ, h, by rw [hr.defers]; exact hr, by rw [hr.defers]; exact hD⟩
  | region id ops draw =>
    intro r w0 F N0 μ0 dl sc Q st μ a w hB hs hd hn h hr hD
    simp only [slim] at hs
    have hdo : dstsOk n ops := fun i o t ho ht => by
      simp only [dstsIn, Array.all_eq_true_iff_forall_mem] at hd
      have := hd o (Array.mem_of_getElem? ho)
      simpa [ht] using this
    have hform : (∃ q l, sc = .reg q l) ∨ ∃ ls, sc = .regs ls := by
      unfold slimReg at hs
      split at hs
      · cases hs
      · split at hs
        · dsimp only at hs
          split at hs
          · split at hs
            · cases hs; exact .inl ⟨_, _, rfl⟩
            · obtain ⟨_, _, e, _⟩ := slimRegs_spec hs
              exact .inr ⟨_, e⟩
          · cases hs
        · cases hs; exact .inl ⟨_, _, rfl⟩
    rcases hform with ⟨q, l, rfl⟩ | ⟨ls, rfl⟩
    · exact reg_soundD hm hs hdo h hr hD (fun a w st' μ' hq hr' hD' => ⟨.normal, trivial, st', μ', hq, by rw [hr'.defers]; exact hr', by rw [hr'.defers]; exact hD'⟩)
    · exact regs_soundD hm hs hdo (AWs_all h) hr hD (fun a w st' μ' hq hr' hD' => ⟨.normal, trivial, st', μ', hq, by rw [hr'.defers]; exact hr', by rw [hr'.defers]; exact hD'⟩)
  | seq x y =>
    have ihx := @IH x (by simp at hk; omega)
    have ihy := @IH y (by simp at hk; omega)
    intro r w0 F N0 μ0 dl sc Q st μ a w hB hs hd hn h hr hD
    simp only [slim] at hs
    split at hs
    · rename_i xx hx
      unfold rmOf at hx
      split at hx
      · rename_i i0 ops out i1 ns cc oo nb i2 as code
        split at hx
        · rename_i eo
          subst eo
          simp only [Option.map_eq_some_iff] at hs
          obtain ⟨sb, hsb, rfl⟩ := hs
          have ihc := @IH code (by simp at hk; omega)
          simp only [dstsIn, Bool.and_eq_true] at hd
          simp only [noRf, Bool.true_and] at hn
          have dok : ∀ {ar : Array Oper}, (ar.all fun o => match o.dst with | some t => decide (t < n) | none => true) = true → dstsOk n ar := fun {ar} h i o t ho ht => by
            rw [Array.all_eq_true_iff_forall_mem] at h
            have := h o (Array.mem_of_getElem? ho)
            simpa [ht] using this
          obtain ⟨d0, d1, _, d2, dc⟩ := hd
          exact rm_sound hx (dok d0) (dok d1) (dok d2) (fun hB' h' hr' hD' => ihc hB' hsb dc hn h' hr' hD') hB h hr hD
        · cases hx
      · cases hx
    split at hs
    · rename_i sx sy hx hy
      cases hs
      simp only [dstsIn, Bool.and_eq_true] at hd
      simp only [noRf, Bool.and_eq_true] at hn
      refine wpIn_seq (wpIn_mono (ihx hB hx hd.1 (fun e => (hn e).1) h hr hD) ?_)
      rintro e a w ⟨x, hxe, st', μ', hq, hr', hD'⟩
      cases e with
      | normal =>
        cases x <;> simp [XEx] at hxe
        exact ihy hB hy hd.2 (fun e => (hn e).2) hq hr' hD'
      | exit i => cases x <;> simp [XEx] at hxe; exact ⟨.exit i, rfl, st', μ', by subst hxe; exact hq, hr', hD'⟩
      | ret => cases x <;> simp [XEx] at hxe; exact ⟨.ret, trivial, st', μ', hq, hr', hD'⟩
      | _ => cases x <;> simp [XEx] at hxe
    · cases hs
  | cond c x y =>
    have ihx := @IH x (by simp at hk; omega)
    have ihy := @IH y (by simp at hk; omega)
    intro r w0 F N0 μ0 dl sc Q st μ a w hB hs hd hn h hr hD
    simp only [slim] at hs
    split at hs
    · rename_i sx sy hx hy
      cases hs
      simp only [dstsIn, Bool.and_eq_true] at hd
      simp only [noRf, Bool.and_eq_true] at hn
      unfold awp at h
      split at h
      · rename_i t ht
        have hv := (rep_val (opd_rep hr ht)).1
        refine wpIn_cond_split hv (fun e => ihx hB hx hd.1 (fun e => (hn e).1) (h.1 e) hr hD) (fun e => ihy hB hy hd.2 (fun e => (hn e).2) (h.2 e) hr hD)
      · exact h.elim
    · cases hs
  | block id b =>
    have ih := @IH b (by simp at hk; omega)
    intro r w0 F N0 μ0 dl sc Q st μ a w hB hs hd hn h hr hD
    simp only [slim, Option.map_eq_some_iff] at hs
    obtain ⟨sb, hb, rfl⟩ := hs
    refine wpIn_block (wpIn_mono (ih hB hb hd hn h hr hD) ?_)
    rintro e a w ⟨x, hxe, st', μ', hq, hr', hD'⟩
    cases e with
    | normal => cases x <;> simp [XEx] at hxe; exact ⟨.normal, trivial, st', μ', hq, hr', hD'⟩
    | exit i =>
      cases x <;> simp [XEx] at hxe
      subst hxe
      simp only [blockQ] at hq
      simp only [Exit.inBlock]
      split at hq
      · rename_i e; rw [if_pos e]; exact ⟨.normal, trivial, st', μ', hq, hr', hD'⟩
      · rename_i e; rw [if_neg e]; exact ⟨.exit _, rfl, st', μ', hq, hr', hD'⟩
    | ret => cases x <;> simp [XEx] at hxe; exact ⟨.ret, trivial, st', μ', hq, hr', hD'⟩
    | _ => cases x <;> simp [XEx] at hxe
  | loop b =>
    have ih := @IH b (by simp at hk; omega)
    intro r w0 F N0 μ0 dl sc Q st μ a w hB hs hd hn h hr hD
    simp only [slim, Option.map_eq_some_iff] at hs
    obtain ⟨sb, hb, rfl⟩ := hs
    obtain ⟨I, ⟨m0, s0, hw0, hI0⟩, hround⟩ := h
    obtain ⟨μz, hr0⟩ := hw0 dl n w0 F S μ0 μ a w hr
    -- the least measure of a state that fits
    let fits : Act → World → Nat → Prop := fun a w m => ∃ s μ, I m s ∧ Rel a.defers n w0 F S N0 μ0 s μ a w ∧ DefsOk B a.defers w
    have hex : ∀ a w, (∃ m, fits a w m) → ∃ m, fits a w m ∧ ∀ m', fits a w m' → m ≤ m' := by
      intro a w ⟨m, hm⟩
      induction m using Nat.strongRecOn with
      | _ m ihm =>
        by_cases hlt : ∃ m', m' < m ∧ fits a w m'
        · obtain ⟨m', h1, h2⟩ := hlt
          exact ihm m' h1 h2
        · refine ⟨m, hm, fun m' hm' => ?_⟩
          rcases Nat.lt_or_ge m' m with h1 | h1
          · exact absurd ⟨m', h1, hm'⟩ hlt
          · exact h1
    classical
    let meas : Act → World → Nat := fun a w => if h : ∃ m, fits a w m then (hex a w h).choose else 0
    have hmeas : ∀ a w, (∃ m, fits a w m) → fits a w (meas a w) ∧ ∀ m', fits a w m' → meas a w ≤ m' := by
      intro a w h
      have : meas a w = (hex a w h).choose := dif_pos h
      rw [this]
      exact (hex a w h).choose_spec
    refine wpIn_loop (fun a w => ∃ m, fits a w m) meas ⟨m0, s0, μz, hI0, by rw [hr.defers]; exact hr0, by rw [hr.defers]; exact hD⟩ (fun a w hf => ?_)
    obtain ⟨⟨s, μ1, hI, hr1, hD1⟩, hmin⟩ := hmeas a w hf
    refine wpIn_mono (ih hB hb hd hn (hround _ s hI) hr1 hD1) ?_
    rintro e a' w' ⟨x, hxe, st', μ', hq, hr', hD'⟩
    cases e with
    | normal =>
      cases x <;> simp [XEx] at hxe
      obtain ⟨m', s2, hlt, hw, hI2⟩ := hq
      obtain ⟨μ2, hr2⟩ := hw _ n w0 F S μ0 μ' a' w' hr'
      have hf' : ∃ m, fits a' w' m := ⟨m', s2, μ2, hI2, hr2, hD'⟩
      exact ⟨hf', Nat.lt_of_le_of_lt ((hmeas a' w' hf').2 m' ⟨s2, μ2, hI2, hr2, hD'⟩) hlt⟩
    | exit i =>
      cases x <;> simp [XEx] at hxe
      subst hxe
      obtain ⟨s2, hw, hq⟩ := hq
      obtain ⟨μ2, hr2⟩ := hw _ n w0 F S μ0 μ' a' w' hr'
      exact ⟨.exit _, rfl, s2, μ2, hq, hr2, hD'⟩
    | ret =>
      cases x <;> simp [XEx] at hxe
      obtain ⟨s2, hw, hq⟩ := hq
      obtain ⟨μ2, hr2⟩ := hw _ n w0 F S μ0 μ' a' w' hr'
      exact ⟨.ret, trivial, s2, μ2, hq, hr2, hD'⟩
    | _ => cases x <;> simp [XEx] at hxe
  | exit id => intro r w0 F N0 μ0 dl sc Q st μ a w hB hs hd hn h hr hD; cases hs; exact wpIn_exit ⟨.exit id, rfl, st, μ, h, by rw [hr.defers]; exact hr, by rw [hr.defers]; exact hD⟩
  | ret => intro r w0 F N0 μ0 dl sc Q st μ a w hB hs hd hn h hr hD; cases hs; exact wpIn_ret ⟨.ret, trivial, st, μ, h, by rw [hr.defers]; exact hr, by rw [hr.defers]; exact hD⟩
  | rangeFunc g ps assign body =>
    have ihb := @IH body (by simp at hk; omega)
    intro r w0 F N0 μ0 dl sc Q st μ a w hB hs hd hn h hr hD
    have hrn : r = none := by
      cases r with
      | none => rfl
      | some l => have := hn rfl; simp [noRf] at this
    subst hrn
    simp only [slim] at hs
    split at hs
    · rename_i mvs sb hmv hsb
      cases hs
      simp only [dstsIn, hmv, Bool.and_eq_true, Array.all_eq_true_iff_forall_mem, List.all_eq_true, decide_eq_true_eq] at hd
      obtain ⟨⟨⟨hps, hmvs⟩, hdb⟩, hnb⟩ := hd
      obtain ⟨gf, caps, ys, keep, I, X, hg, hit, ⟨hI, hX⟩, ⟨s2, hw2, hI0⟩, hround, hdone, hstop⟩ := h
      have hrep : RepC S st.N μ w (.fn gf caps) (a.eval g) := opd_rep hr hg
      obtain ⟨vals, hev, hvs, hcap⟩ := hrep
      obtain ⟨hcall, hit⟩ := hit
      have hw := hr.h.rebase
      obtain ⟨encs, he1, he2, hseq⟩ := hit S μ w vals hw ⟨vals, rfl, hvs, hcap⟩
      have hkb : ∀ b, KeepB S st.K μ keep b → b < w.heap.size ∧ ¬ Foot (dropK keep st.K) μ b := by
        rintro b (hb | ⟨id, hid, o, h1, h2⟩)
        · exact ⟨(hw.st b hb).1, fun hf => (hw.st b hb).2 (foot_drop hf)⟩
        · refine ⟨(hw.blk id o b h1 h2).2, ?_⟩
          rintro ⟨id', o', k1, k2⟩
          unfold dropK at k1
          split at k1
          · cases k1
          · rename_i hne
            exact hw.dis id id' o o' b (fun e => hne (e ▸ hid)) h1 k1 h2 k2
      obtain ⟨μ2, hr2⟩ := hw2 dl n w (Foot (dropK keep st.K) μ) S μ μ a w ⟨hr.defers, hr.size, hr.tm, hw.dropK, Nat.le_refl _, Later.refl _ _⟩
      have tmAt : ∀ {K : KMap} {N : Nat} {μ' : Nat → Loc} {W : World}, HRel w (Foot (dropK keep st.K) μ) S K N μ' W → st.N ≤ N → Later st.N μ μ' → TmRep S N μ' W st.tm a.tmps := fun hH hN hL t d hd =>
        (hr.tm t d hd).move (fun b hb => hH.frame b (hw.st b hb).1 (hkb b (.inl hb)).2) (fun _ h => h) hN hL
      have out : ∀ (x : XE) {D : Nat} {W : World} {K : KMap} {N : Nat} {μ' : Nat → Loc}, w.heap.size ≤ D → HRel w (Foot (dropK keep st.K) μ) S K N μ' W → st.N ≤ N → Later st.N μ μ' → W.heap[D]? = some (.deferred (some [])) → Q x ⟨st.tm, K, N⟩ →
          ∃ st' μ'', Q x st' ∧ Rel ({ target := .collected D, args := #[] } :: a.defers) n w0 F S N0 μ0 st' μ'' { a with defers := { target := .collected D, args := #[] } :: a.defers } W ∧ DefsOk B ({ target := .collected D, args := #[] } :: a.defers) W := by
        intro x D W K N μ' hDw hH hN hL hWD hq
        have hH' : HRel w (Foot st.K μ) S K N μ' W := hH.widen (fun b hb => foot_drop hb) (fun b hb => (hw.st b hb).2)
        refine ⟨_, μ', hq, ⟨rfl, hr.size, tmAt hH hN hL, hr.h.compose hH', Nat.le_trans hr.ent hN, hr.later.trans hL hr.ent⟩, ?_⟩
        obtain ⟨Ds, d1, d2, d3⟩ := hD.step hr.h hH'
        obtain ⟨Ds0, e1, e2, e3⟩ := hD
        refine ⟨D :: Ds, by rw [hr.defers, d1]; rfl, ?_, ?_⟩
        · refine List.nodup_cons.2 ⟨fun hmem => ?_, d2⟩
          have : Ds = Ds0 := by
            have h1 : Ds.map (fun D => ({ target := .collected D, args := #[] } : Deferred)) = Ds0.map (fun D => { target := .collected D, args := #[] }) := by rw [← d1, ← e1]
            have inj : ∀ (l l' : List Nat), l.map (fun D => ({ target := .collected D, args := #[] } : Deferred)) = l'.map (fun D => { target := .collected D, args := #[] }) → l = l' := by
              intro l
              induction l with
              | nil => intro l' h; cases l' with | nil => rfl | cons y l' => simp at h
              | cons x l ih => intro l' h; cases l' with | nil => simp at h | cons y l' => simp at h; obtain ⟨h1, h2⟩ := h; subst h1; rw [ih l' (by simpa using h2)]
            exact inj _ _ h1
          rw [this] at hmem
          have := (Array.getElem?_eq_some_iff.1 (e3 D hmem).2).1
          omega
        · intro D' hD'
          rcases List.mem_cons.1 hD' with rfl | hD'
          · exact ⟨Nat.le_trans hB (Nat.le_trans hr.h.size hDw), hWD⟩
          · exact d3 D' hD'
      refine wpIn_any (n := 2) (rf_law hev (fun args w => run_callFunc hcall args) hseq (fun x => by rw [he1]; simp) (fun W b hb => rfl) (fun h1 h2 b hb => (h2 b hb).trans (h1 b hb))
        (fun o => ⟨fun b hb => Go.RowKit.Below.heap_alloc _ _ _ (hkb b hb).1, fun o' b hb => (Go.RowKit.Below.heap_alloc _ _ _ (by have := (hkb b hb).1; simp; omega)).trans (Go.RowKit.Below.heap_alloc _ _ _ (hkb b hb).1)⟩)
        (fun W l o' hl b hb => World.putObj_heap_other (by have := (hkb b hb).1; omega))
        (fun i => Held st w S μ keep (I i)) (fun c => Held st w S μ keep (fun K N => ∃ x, codeX x = some c ∧ X x K N)) (fun i => Held.own hw (hI i)) (fun c => Held.own hw (fun K N ⟨x, _, h⟩ => hX x K N h))
        ⟨s2.K, s2.N, μ2, hI0, hr2.h, hr2.ent, hr2.later⟩ (fun i => { tmps := mvAll (setAll a.tmps ps.toList (encs i).toList) mvs, defers := [] }) ?_ ?_ ?_ ?_)
      · intro l i W K hK
        refine asg_wp hmv ?_
        have e : ((ps.zip (encs i)).foldl (fun t (x : Nat × Value) => t.setIfInBounds x.1 x.2) a.tmps) = setAll a.tmps ps.toList (encs i).toList := by
          unfold setAll
          rw [← Array.foldl_toList, Array.toList_zip]
        simp only [Exit.then]
        rw [e]
        exact hK
      · rintro l i W ⟨K, N, μ', hIK, hH, hN, hL⟩ hlt
        have hsz : (setAll a.tmps ps.toList (encs i).toList).size = n := by rw [setAll_size]; exact hr.size
        have hy : ArgsRep S N μ' W (ys.getD i []) (encs i).toList := by
          have hyi : ys[i]? = some (ys.getD i []) := by simp [hlt]
          obtain ⟨a1, a2⟩ := he2 i _ hyi
          refine ⟨a1, fun j d hj => ?_⟩
          obtain ⟨v, hv, hrv⟩ := a2 j d hj
          exact ⟨v, hv, hrv.move (fun b hb => hH.frame b (hw.st b hb).1 (hkb b (.inl hb)).2) (fun _ h => h) hN hL⟩
        have hrel : Rel [] n W (Foot K μ') S st.N μ' ⟨mvTm mvs (psTm ps.toList (ys.getD i []) st.tm), K, N⟩ μ' { tmps := mvAll (setAll a.tmps ps.toList (encs i).toList) mvs, defers := [] } W :=
          ⟨rfl, by show (mvAll _ mvs).size = n; rw [mvAll_size, hsz],
            TmRep.mv (TmRep.ps (tmAt hH hN hL) (fun p hp => by rw [hr.size]; exact hps p (by simpa using hp)) hy (by have := he1 i; simp [this])) (fun x hx => by rw [hsz]; exact hmvs x hx), hH.rebase, hN, Later.refl _ _⟩
        refine wpIn_mono (ihb (by have := hr.h.size; have := hH.size; omega) hsb hdb (fun _ => hnb) (hround i K N hlt hN hIK) hrel DefsOk.nil) ?_
        have keeps : ∀ {K2 : KMap} {N2 : Nat} {μ3 : Nat → Loc} {W3 : World}, HRel W (Foot K μ') S K2 N2 μ3 W3 → KeepsFrom w.heap.size W W3 := fun h2 =>
          ⟨h2.size, fun k o hk ho hno => by
            rw [h2.frame k (Array.getElem?_eq_some_iff.1 ho).1 ?_]
            · exact ho
            · rintro ⟨id, o', k1, k2⟩
              cases o' with
              | row ver sz xs =>
                obtain ⟨_, _, _, _, _, h6⟩ := (hH.obj id _ k1).2
                rw [k2] at h6
                obtain ⟨vals, ty, g, _⟩ := h6
                rw [g] at ho
                cases ho
                cases hno
              | map es =>
                have := (hI i K N hIK).low hw hH hL k1 k2
                omega⟩
        rintro e a3 W3 ⟨x, hxe, s, μ3, hq, hr3, _⟩
        have go : ∀ {s2 : St}, Weak st.N s s2 → ∃ μ4, HRel W (Foot K μ') S s2.K s2.N μ4 W3 ∧ HRel w (Foot (dropK keep st.K) μ) S s2.K s2.N μ4 W3 ∧ st.N ≤ s2.N ∧ Later st.N μ μ4 := fun {s2} hwk => by
          obtain ⟨μ4, hr4⟩ := hwk _ n W (Foot K μ') S μ' μ3 a3 W3 hr3
          exact ⟨μ4, hr4.h, hH.compose hr4.h, hr4.ent, hL.trans hr4.later (Nat.le_refl _)⟩
        cases e with
        | normal =>
          cases x <;> simp [XEx] at hxe
          obtain ⟨s2, hwk, hI2⟩ := hq
          obtain ⟨μ4, g1, g2, g3, g4⟩ := go hwk
          exact ⟨keeps g1, fun b hb => (g2.frame b (hkb b hb).1 (hkb b hb).2).trans (hH.frame b (hkb b hb).1 (hkb b hb).2).symm, s2.K, s2.N, μ4, hI2, g2, g3, g4⟩
        | exit j =>
          cases x <;> simp [XEx] at hxe
          subst hxe
          obtain ⟨s2, hwk, hI2⟩ := hq
          obtain ⟨μ4, g1, g2, g3, g4⟩ := go hwk
          exact ⟨keeps g1, s2.K, s2.N, μ4, ⟨_, rfl, hI2⟩, g2, g3, g4⟩
        | ret =>
          cases x <;> simp [XEx] at hxe
          obtain ⟨s2, hwk, hI2⟩ := hq
          obtain ⟨μ4, g1, g2, g3, g4⟩ := go hwk
          exact ⟨keeps g1, s2.K, s2.N, μ4, ⟨_, rfl, hI2⟩, g2, g3, g4⟩
        | _ => cases x <;> simp [XEx] at hxe
      · rintro D W hDw ⟨K, N, μ', hIK, hH, hN, hL⟩ hWD
        obtain ⟨st', μ'', h1, h2, h3⟩ := out .normal hDw hH hN hL hWD (hdone K N hN hIK)
        exact ⟨.normal, trivial, st', μ'', h1, h2, h3⟩
      · rintro D c W hDw ⟨K, N, μ', ⟨x, hxc, hXK⟩, hH, hN, hL⟩ hWD
        cases x with
        | normal => cases hxc
        | ret =>
          cases hxc
          obtain ⟨st', μ'', h1, h2, h3⟩ := out .ret hDw hH hN hL hWD (hstop _ K N hN hXK (by simp))
          exact wpIn_ret ⟨.ret, trivial, st', μ'', h1, h2, h3⟩
        | exit j =>
          cases hxc
          obtain ⟨st', μ'', h1, h2, h3⟩ := out (.exit j) hDw hH hN hL hWD (hstop _ K N hN hXK (by simp))
          exact wpIn_exit ⟨.exit j, rfl, st', μ'', h1, h2, h3⟩
    · cases hs
  | _ => intro r w0 F N0 μ0 dl sc Q st μ a w hB hs; cases hs


theorem awp_sound {P : Program} (hm : P.follows .mixedOrders = true) {n B : Nat} {S : Nat → Prop} {c : Code} {r : Option Nat} {w0 : World} {F : Nat → Prop} {N0 : Nat} {μ0 : Nat → Loc} {dl : List Deferred} {sc : SCode} {Q : XE → St → Prop} {st : St} {μ : Nat → Loc} {a : Act} {w : World} (hB : B ≤ w0.heap.size) (hs : slim P c = some sc) (hd : dstsIn n c = true) (hn : r.isSome = true → noRf c = true)
    (h : awp P N0 sc st Q) (hr : Rel dl n w0 F S N0 μ0 st μ a w) (hD : DefsOk B dl w) : c.wpIn (FR r) 0 P (PostX B n w0 F S N0 μ0 Q) a w := awp_soundF hm (SizeOf.sizeOf c) (Nat.le_refl _) hB hs hd hn h hr hD


/-- THE CONTRACT: called with these arguments, over these objects, the function comes back with a result and objects of which Q holds. -/
def Spec (P : Program) (f : FuncId) (args : List T) (K : KMap) (N : Nat) (Q : T → KMap → Nat → Prop) : Prop :=
  callable P f = true ∧ ∀ (S : Nat → Prop) (μ : Nat → Loc) (w : World) (vs : Array Value), HRel w (Foot K μ) S K N μ w → ArgsRep S N μ w args vs.toList →
    Calls P f vs w fun e w' => ∃ v d K' N' μ', e = .returned v ∧ Q d K' N' ∧ HRel w (Foot K μ) S K' N' μ' w' ∧ N ≤ N' ∧ Later N μ μ' ∧ RepT S N' μ' w' d v

theorem Spec.mono {P : Program} {f : FuncId} {args : List T} {K : KMap} {N : Nat} {Q Q' : T → KMap → Nat → Prop} (h : Spec P f args K N Q) (hq : ∀ d K N, Q d K N → Q' d K N) : Spec P f args K N Q' :=
  ⟨h.1, fun S μ w vs hh ha => (h.2 S μ w vs hh ha).mono fun e w' ⟨v, d, K', N', μ', he, hQ, rest⟩ => ⟨v, d, K', N', μ', he, hq _ _ _ hQ, rest⟩⟩

/-- The temporaries at a function's begin. -/
def argTm : Nat → List T → Nat → Option T
  | _, [] => emp
  | i, d :: l => upd (argTm (i + 1) l) i d

theorem argTm_get : ∀ (l : List T) (i t : Nat), argTm i l t = if i ≤ t then l[t - i]? else none
  | [], i, t => by simp [argTm, emp]
  | d :: l, i, t => by
    simp only [argTm, upd]
    by_cases e : t = i
    · subst e; simp
    · rw [if_neg e, argTm_get l (i + 1) t]
      by_cases h : i + 1 ≤ t
      · rw [if_pos h, if_pos (by omega), show t - i = (t - (i + 1)) + 1 by omega]; simp
      · rw [if_neg h, if_neg (by omega)]

/-- Where a function's results lie. -/
inductive SRes where
  | tmp (t : Nat)
  | cell (t : Nat) (agg : Bool) (size : Nat)
  deriving Inhabited

def slimRes (P : Program) : List ResultVar → Option (List SRes)
  | [] => some []
  | .tmp t :: l => (slimRes P l).map (.tmp t :: ·)
  | .cell t ty :: l =>
    match P.underlying ty, P.info? ty, slimRes P l with
    | some d, some i, some r => some (.cell t (aggD d) i.size :: r)
    | _, _, _ => none

def resT (st : St) : List SRes → Option (List V × Prop)
  | [] => some ([], True)
  | .tmp t :: l => match st.tm t, resT st l with | some (.v d), some (r, p) => some (d :: r, p) | _, _ => none
  | .cell t agg size :: l =>
    match st.tm t, resT st l with
    | some x, some (r, p) => match evLoad agg size st.K st.N [x] with | some ⟨q, .v d, _, _⟩ => some (d :: r, q ∧ p) | _ => none
    | _, _ => none

def oneT : List V → T
  | [d] => .v d
  | l => .tup l

def resStep (tmps : Array Value) : ResultVar → Sem Value
  | .tmp t => pure (tmps.getD t undef)
  | .cell x t => do loadVar t (← asAddr (tmps.getD x undef))

theorem results_run {P : Program} {dl : List Deferred} {n : Nat} {w0 : World} {F S : Nat → Prop} {N0 : Nat} {μ0 : Nat → Loc} {st : St} {μ : Nat → Loc} {a : Act} {w : World} (h : Rel dl n w0 F S N0 μ0 st μ a w) : ∀ {l : List ResultVar} {sl : List SRes} {ds : List V} {p : Prop}, slimRes P l = some sl → resT st sl = some (ds, p) → p →
    ∃ vs : List Value, (l.mapM (resStep a.tmps)).run P w = .ok vs w ∧ vs.length = ds.length ∧ ∀ (i : Nat) (d : V), ds[i]? = some d → ∃ v, vs[i]? = some v ∧ RepV S st.N μ w d v
  | [], sl, ds, p, hs, hr, hp => by
    cases hs
    cases hr
    exact ⟨[], rfl, rfl, fun i d hi => by simp at hi⟩
  | .tmp t :: l, sl, ds, p, hs, hr, hp => by
    simp only [slimRes, Option.map_eq_some_iff] at hs
    obtain ⟨sl', hs', rfl⟩ := hs
    simp only [resT] at hr
    split at hr
    · rename_i d r p' hd hr'
      cases hr
      obtain ⟨vs, h1, h2, h3⟩ := results_run h hs' hr' hp
      refine ⟨a.tmps.getD t undef :: vs, ?_, by simp [h2], fun i d' hi => ?_⟩
      · simp only [List.mapM_cons, resStep, Sem.run_bind, Sem.run_pure, Result.andThen, h1]
      · cases i with
        | zero => simp at hi; subst hi; exact ⟨_, rfl, h.tm t _ hd⟩
        | succ i => simpa using h3 i d' (by simpa using hi)
    · cases hr
  | .cell t ty :: l, sl, ds, p, hs, hr, hp => by
    simp only [slimRes] at hs
    split at hs
    · rename_i dt ti sl' hdt hti hs'
      cases hs
      simp only [resT] at hr
      split at hr
      · rename_i x r p' hx hr'
        split at hr
        · rename_i q d K' N' he
          cases hr
          obtain ⟨vs, h1, h2, h3⟩ := results_run h hs' hr' hp.2
          have hrep := h.tm t x hx
          obtain ⟨_, _, v, hv, hvr⟩ := load_still (P := P) h.h hdt hti hrep he hp.1
          have hptr : ∃ A, a.tmps.getD t undef = .pointer (some A) := by
            simp only [Instr.loadAt, Instr.sureAddr] at hv
            cases hval : a.tmps.getD t undef with
            | pointer o =>
              cases o with
              | some A => exact ⟨A, rfl⟩
              | none => rw [hval] at hv; simp at hv
            | _ => rw [hval] at hv; simp at hv
          obtain ⟨A, hA⟩ := hptr
          rw [hA] at hv
          refine ⟨v :: vs, ?_, by simp [h2], fun i d' hi => ?_⟩
          · have hv' : (loadVar ty A).run P w = .ok v w := by simpa [Instr.loadAt, Instr.sureAddr] using hv
            have has : (asAddr (.pointer (some A))).run P w = .ok A w := rfl
            simp only [List.mapM_cons, resStep, Sem.run_bind, Result.andThen, hA, has, Sem.run_pure, hv', h1]
          · cases i with
            | zero => simp at hi; subst hi; exact ⟨_, rfl, hvr⟩
            | succ i => simpa using h3 i d' (by simpa using hi)
        · cases hr
      · cases hr
    · cases hs

/-- A function's slim text. -/
structure SFun where
  body : SCode
  res : List SRes
  n : Nat
  np : Nat
  deriving Inhabited

def slimF (P : Program) (fn : Func) : Option SFun :=
  match fn.body with
  | some c =>
    match slim P c, slimRes P fn.results.toList with
    | some b, some r => if dstsIn fn.ntmps c && fn.name != "runtime.NumGoroutine" then some ⟨b, r, fn.ntmps, fn.params.size + fn.nfree⟩ else none
    | _, _ => none
  | none => none

end Go.Proofs.Yticflcpmlbaafaa.AL

/- AL: a contract used at a call: names of objects changed, own rows handed on as read-only data. -/
set_option linter.unusedSimpArgs false
set_option linter.unusedVariables false
namespace Go.Proofs.Yticflcpmlbaafaa.AL
open Go

def C.ren (ρ : Nat → Nat) : C → C
  | .own id v o l => .own (ρ id) v o l
  | .ptr id v i f => .ptr (ρ id) v i f
  | .map id => .map (ρ id)
  | .fn f caps => .fn f (caps.map ρ)
  | .any => .any
  | .r y => .r y
  | .rp y => .rp y
def C.below (N : Nat) : C → Bool
  | .own id _ _ _ => id < N
  | .ptr id _ _ _ => id < N
  | .map id => id < N
  | .fn _ caps => caps.all (· < N)
  | .any | .r _ | .rp _ => true
def C.flat : C → Bool
  | .r y => y.flat
  | .rp _ => false
  | _ => true
def V.ren (ρ : Nat → Nat) : V → V
  | .x c => .x (c.ren ρ)
  | .agg cs => .agg (cs.map (C.ren ρ))
def V.below (N : Nat) : V → Bool
  | .x c => c.below N
  | .agg cs => cs.all (C.below N)
def V.flat : V → Bool
  | .x c => c.flat
  | .agg cs => cs.all C.flat
def T.ren (ρ : Nat → Nat) : T → T
  | .v d => .v (d.ren ρ)
  | .tup ds => .tup (ds.map (V.ren ρ))
def T.below (N : Nat) : T → Bool
  | .v d => d.below N
  | .tup ds => ds.all (V.below N)
def T.flat : T → Bool
  | .v d => d.flat
  | .tup ds => ds.all V.flat
def AObj.ren (ρ : Nat → Nat) : AObj → AObj
  | .row v s xs => .row v s (xs.map (·.map (C.ren ρ)))
  | .map es => .map (es.map fun x => (x.1, x.2.ren ρ))
def AObj.below (N : Nat) : AObj → Bool
  | .row _ _ xs => xs.all (·.all (C.below N))
  | .map es => es.all fun x => x.2.below N
def AObj.flat : AObj → Bool
  | .row _ _ xs => xs.all (·.all C.flat)
  | .map es => es.all fun x => x.2.flat

section
variable {P : Program} {w0 : World} {F S S' : Nat → Prop} {N1 N2 : Nat} {μ1 μ2 : Nat → Loc} {w : World} {ρ : Nat → Nat}

theorem RepC.up (hρ : ∀ id, id < N1 → ρ id < N2 ∧ μ2 (ρ id) = μ1 id) {c : C} {v : Value} (h : RepC S N1 μ1 w c v) : RepC S N2 μ2 w (c.ren ρ) v := by
  cases c with
  | any => exact h
  | r r => exact h
  | rp cs => exact h
  | own id ver off len =>
    obtain ⟨h1, h2, A, cap, h3, h4⟩ := h
    obtain ⟨g1, g2⟩ := hρ id h1
    exact ⟨g1, by rw [g2]; exact h2, A, cap, h3, by rw [g2]; exact h4⟩
  | ptr id ver i f =>
    obtain ⟨h1, h2, A, h3, h4⟩ := h
    obtain ⟨g1, g2⟩ := hρ id h1
    exact ⟨g1, by rw [g2]; exact h2, A, h3, by rw [g2]; exact h4⟩
  | map id =>
    obtain ⟨h1, A, h3, h4⟩ := h
    obtain ⟨g1, g2⟩ := hρ id h1
    exact ⟨g1, A, h3, by rw [g2]; exact h4⟩
  | fn f caps =>
    obtain ⟨vals, h1, h2, h3⟩ := h
    refine ⟨vals, h1, by simpa using h2, fun i id hi => ?_⟩
    simp only [List.getElem?_map, Option.map_eq_some_iff] at hi
    obtain ⟨j, hj, rfl⟩ := hi
    obtain ⟨k1, A, k2, k3⟩ := h3 i j hj
    obtain ⟨g1, g2⟩ := hρ j k1
    exact ⟨g1, A, k2, by rw [g2]; exact k3⟩

theorem RepC.down (hρ : ∀ id, id < N1 → μ1 id = μ2 (ρ id)) {c : C} (hb : c.below N1 = true) {v : Value} (h : RepC S N2 μ2 w (c.ren ρ) v) : RepC S N1 μ1 w c v := by
  cases c with
  | any => exact h
  | r r => exact h
  | rp cs => exact h
  | own id ver off len =>
    obtain ⟨h1, h2, A, cap, h3, h4⟩ := h
    have hb' : id < N1 := by simpa [C.below] using hb
    have g2 := hρ id hb'
    exact ⟨hb', by rw [g2]; exact h2, A, cap, h3, by rw [g2]; exact h4⟩
  | ptr id ver i f =>
    obtain ⟨h1, h2, A, h3, h4⟩ := h
    have hb' : id < N1 := by simpa [C.below] using hb
    have g2 := hρ id hb'
    exact ⟨hb', by rw [g2]; exact h2, A, h3, by rw [g2]; exact h4⟩
  | map id =>
    obtain ⟨h1, A, h3, h4⟩ := h
    have hb' : id < N1 := by simpa [C.below] using hb
    have g2 := hρ id hb'
    exact ⟨hb', A, h3, by rw [g2]; exact h4⟩
  | fn f caps =>
    obtain ⟨vals, h1, h2, h3⟩ := h
    refine ⟨vals, h1, by simpa using h2, fun i id hi => ?_⟩
    have hb' : id < N1 := by
      simp only [C.below, List.all_eq_true, decide_eq_true_eq] at hb
      exact hb id (List.mem_of_getElem? hi)
    obtain ⟨k1, A, k2, k3⟩ := h3 i (ρ id) (by simp [hi])
    have g2 := hρ id hb'
    exact ⟨hb', A, k2, by rw [g2]; exact k3⟩

theorem RepC.flat (hf : ∀ {c : C}, True) {c : C} (hc : c.flat = true) {v : Value} (h : RepC S' N1 μ1 w c v) : RepC S N1 μ1 w c v := by
  cases c with
  | r r => exact RepR.flat h hc
  | rp cs => simp [C.flat] at hc
  | _ => exact h

theorem RepV.up (hρ : ∀ id, id < N1 → ρ id < N2 ∧ μ2 (ρ id) = μ1 id) {c : V} {v : Value} (h : RepV S N1 μ1 w c v) : RepV S N2 μ2 w (c.ren ρ) v := by
  cases c with
  | x c => exact RepC.up hρ h
  | agg cs =>
    obtain ⟨vs, h1, h2, h3⟩ := h
    refine ⟨vs, h1, by simpa using h2, fun i c hi => ?_⟩
    simp only [List.getElem?_map, Option.map_eq_some_iff] at hi
    obtain ⟨j, hj, rfl⟩ := hi
    obtain ⟨u, k1, k2⟩ := h3 i j hj
    exact ⟨u, k1, k2.up hρ⟩

theorem RepV.down (hρ : ∀ id, id < N1 → μ1 id = μ2 (ρ id)) {c : V} (hb : c.below N1 = true) {v : Value} (h : RepV S N2 μ2 w (c.ren ρ) v) : RepV S N1 μ1 w c v := by
  cases c with
  | x c => exact RepC.down hρ hb h
  | agg cs =>
    obtain ⟨vs, h1, h2, h3⟩ := h
    refine ⟨vs, h1, by simpa using h2, fun i c hi => ?_⟩
    obtain ⟨u, k1, k2⟩ := h3 i (c.ren ρ) (by simp [hi])
    refine ⟨u, k1, k2.down hρ ?_⟩
    simp only [V.below, List.all_eq_true] at hb
    exact hb c (List.mem_of_getElem? hi)

theorem RepV.flat {c : V} (hc : c.flat = true) {v : Value} (h : RepV S' N1 μ1 w c v) : RepV S N1 μ1 w c v := by
  cases c with
  | x c => exact RepC.flat (fun {_} => trivial) hc h
  | agg cs =>
    obtain ⟨vs, h1, h2, h3⟩ := h
    refine ⟨vs, h1, h2, fun i c hi => ?_⟩
    obtain ⟨u, k1, k2⟩ := h3 i c hi
    simp only [V.flat, List.all_eq_true] at hc
    exact ⟨u, k1, RepC.flat (fun {_} => trivial) (hc c (List.mem_of_getElem? hi)) k2⟩

theorem RepT.up (hρ : ∀ id, id < N1 → ρ id < N2 ∧ μ2 (ρ id) = μ1 id) {c : T} {v : Value} (h : RepT S N1 μ1 w c v) : RepT S N2 μ2 w (c.ren ρ) v := by
  cases c with
  | v c => exact RepV.up hρ h
  | tup cs =>
    obtain ⟨vs, h1, h2, h3⟩ := h
    refine ⟨vs, h1, by simpa using h2, fun i c hi => ?_⟩
    simp only [List.getElem?_map, Option.map_eq_some_iff] at hi
    obtain ⟨j, hj, rfl⟩ := hi
    obtain ⟨u, k1, k2⟩ := h3 i j hj
    exact ⟨u, k1, k2.up hρ⟩

theorem RepT.down (hρ : ∀ id, id < N1 → μ1 id = μ2 (ρ id)) {c : T} (hb : c.below N1 = true) {v : Value} (h : RepT S N2 μ2 w (c.ren ρ) v) : RepT S N1 μ1 w c v := by
  cases c with
  | v c => exact RepV.down hρ hb h
  | tup cs =>
    obtain ⟨vs, h1, h2, h3⟩ := h
    refine ⟨vs, h1, by simpa using h2, fun i c hi => ?_⟩
    obtain ⟨u, k1, k2⟩ := h3 i (c.ren ρ) (by simp [hi])
    refine ⟨u, k1, k2.down hρ ?_⟩
    simp only [T.below, List.all_eq_true] at hb
    exact hb c (List.mem_of_getElem? hi)

theorem RepT.flat {c : T} (hc : c.flat = true) {v : Value} (h : RepT S' N1 μ1 w c v) : RepT S N1 μ1 w c v := by
  cases c with
  | v c => exact RepV.flat hc h
  | tup cs =>
    obtain ⟨vs, h1, h2, h3⟩ := h
    refine ⟨vs, h1, h2, fun i c hi => ?_⟩
    obtain ⟨u, k1, k2⟩ := h3 i c hi
    simp only [T.flat, List.all_eq_true] at hc
    exact ⟨u, k1, RepV.flat (hc c (List.mem_of_getElem? hi)) k2⟩

theorem ObjOk.up (hρ : ∀ id, id < N1 → ρ id < N2 ∧ μ2 (ρ id) = μ1 id) {id : Nat} (hid : id < N1) {o : AObj} (h : ObjOk S N1 μ1 w id o) : ObjOk S N2 μ2 w (ρ id) (o.ren ρ) := by
  obtain ⟨_, he⟩ := hρ id hid
  cases o with
  | row ver sz xs =>
    obtain ⟨h1, h2, h3, h4, h5, h6⟩ := h
    refine ⟨by rw [he]; exact h1, by rw [he]; exact h2, by rw [he]; simpa using h3, by rw [he]; exact h4, fun x hx => ?_, ?_⟩
    · obtain ⟨y, hy, rfl⟩ := List.mem_map.1 hx
      simpa using h5 y hy
    · rw [he]
      cases hb : (μ1 id).blk with
      | none => rw [hb] at h6; exact h6
      | some b =>
        rw [hb] at h6
        obtain ⟨vals, ty, hh, hsz, hall⟩ := h6
        refine ⟨vals, ty, hh, hsz, fun i x k c hx hc => ?_⟩
        simp only [List.getElem?_map, Option.map_eq_some_iff] at hx
        obtain ⟨y, hy, rfl⟩ := hx
        simp only [List.getElem?_map, Option.map_eq_some_iff] at hc
        obtain ⟨c', hc', rfl⟩ := hc
        obtain ⟨u, hu, hr⟩ := hall i y k c' hy hc'
        exact ⟨u, hu, hr.up hρ⟩
  | map es =>
    obtain ⟨h1, b, arr, clock, hb, hh, hsz, hall⟩ := h
    refine ⟨by rw [he]; exact h1, b, arr, clock, by rw [he]; exact hb, hh, by simpa using hsz, fun i k d hi => ?_⟩
    simp only [List.getElem?_map, Option.map_eq_some_iff] at hi
    obtain ⟨y, hy, hyd⟩ := hi
    cases hyd
    obtain ⟨e, he', hk, hc, hr⟩ := hall i y.1 y.2 hy
    exact ⟨e, he', hk, hc, hr.up hρ⟩

theorem ObjOk.down (hρ : ∀ id, id < N1 → μ1 id = μ2 (ρ id)) {id : Nat} (hid : id < N1) {o : AObj} (hb : o.below N1 = true) (h : ObjOk S N2 μ2 w (ρ id) (o.ren ρ)) : ObjOk S N1 μ1 w id o := by
  have he := hρ id hid
  cases o with
  | row ver sz xs =>
    obtain ⟨h1, h2, h3, h4, h5, h6⟩ := h
    refine ⟨by rw [he]; exact h1, by rw [he]; exact h2, by rw [he]; simpa using h3, by rw [he]; exact h4, fun x hx => ?_, ?_⟩
    · simpa using h5 (x.map (C.ren ρ)) (List.mem_map_of_mem hx)
    · rw [he]
      cases hbk : (μ2 (ρ id)).blk with
      | none => rw [hbk] at h6; exact h6
      | some b =>
        rw [hbk] at h6
        obtain ⟨vals, ty, hh, hsz, hall⟩ := h6
        refine ⟨vals, ty, hh, hsz, fun i x k c hx hc => ?_⟩
        obtain ⟨u, hu, hr⟩ := hall i (x.map (C.ren ρ)) k (c.ren ρ) (by simp [hx]) (by simp [hc])
        refine ⟨u, hu, hr.down hρ ?_⟩
        simp only [AObj.below, List.all_eq_true] at hb
        exact hb x (List.mem_of_getElem? hx) c (List.mem_of_getElem? hc)
  | map es =>
    obtain ⟨h1, b, arr, clock, hbk, hh, hsz, hall⟩ := h
    refine ⟨by rw [he]; exact h1, b, arr, clock, by rw [he]; exact hbk, hh, by simpa using hsz, fun i k d hi => ?_⟩
    obtain ⟨e, he', hk, hc, hr⟩ := hall i k (d.ren ρ) (by simp [hi])
    refine ⟨e, he', hk, hc, hr.down hρ ?_⟩
    simp only [AObj.below, List.all_eq_true] at hb
    exact hb (k, d) (List.mem_of_getElem? hi)

theorem ObjOk.flat {id : Nat} {o : AObj} (hf : o.flat = true) (h : ObjOk S' N1 μ1 w id o) : ObjOk S N1 μ1 w id o := by
  cases o with
  | row ver sz xs =>
    obtain ⟨h1, h2, h3, h4, h5, h6⟩ := h
    refine ⟨h1, h2, h3, h4, h5, ?_⟩
    cases hb : (μ1 id).blk with
    | none => rw [hb] at h6; exact h6
    | some b =>
      rw [hb] at h6
      obtain ⟨vals, ty, hh, hsz, hall⟩ := h6
      refine ⟨vals, ty, hh, hsz, fun i x k c hx hc => ?_⟩
      obtain ⟨u, hu, hr⟩ := hall i x k c hx hc
      simp only [AObj.flat, List.all_eq_true] at hf
      exact ⟨u, hu, RepC.flat (fun {_} => trivial) (hf x (List.mem_of_getElem? hx) c (List.mem_of_getElem? hc)) hr⟩
  | map es =>
    obtain ⟨h1, b, arr, clock, hbk, hh, hsz, hall⟩ := h
    refine ⟨h1, b, arr, clock, hbk, hh, hsz, fun i k d hi => ?_⟩
    obtain ⟨e, he', hk, hc, hr⟩ := hall i k d hi
    simp only [AObj.flat, List.all_eq_true] at hf
    exact ⟨e, he', hk, hc, hr.flat (hf (k, d) (List.mem_of_getElem? hi))⟩
end

/-- Own rows handed on as read-only data. -/
inductive CastR (K : KMap) : C → R → Prop
  | r {r : R} : CastR K (.r r) r
  | nil {sz : Nat} : CastR K (.r (.val nilS)) (.rd sz [])
  | own {id ver off len sz : Nat} {xs : List (List C)} {rows : List (List R)} (h : K id = some (.row ver sz xs)) (hlen : off + len ≤ xs.length) (hrl : rows.length = len) (hsz : ∀ y, y ∈ rows → y.length = sz)
      (f : ∀ (i k : Nat) (c : C) (r : R), i < len → (xs.getD (off + i) [])[k]? = some c → (rows.getD i [])[k]? = some r → CastR K c r) : CastR K (.own id ver off len) (.rd sz rows)

theorem CastR.sound {w0 : World} {F S : Nat → Prop} {K : KMap} {N : Nat} {μ : Nat → Loc} {w : World} (h : HRel w0 F S K N μ w) {c : C} {r : R} (hc : CastR K c r) : ∀ {v : Value}, RepC S N μ w c v → RepR (fun b => b < w.heap.size) w r v := by
  induction hc with
  | r => intro v hv; exact RepR.same (fun _ _ => rfl) (fun b hb => by have := (h.st b hb).1; have := h.size; omega) hv
  | nil => intro v hv; cases hv; exact .rd (xs := []) (fun _ _ => undef) (Nat.le_refl 0) (Nat.zero_le _) (fun x hx => by simp at hx) (fun h => absurd rfl h) (fun j x i r hx => by simp at hx)
  | own hk hlen hrl hsz f ih =>
    rename_i id ver off len sz xs rows
    intro v hv
    obtain ⟨hver, hs, hid⟩ := h.ver hk
    obtain ⟨_, hle, A, cap, rfl, hcur⟩ := hv
    obtain ⟨hcap, hroom, hA⟩ := hcur hver.symm
    obtain ⟨_, o1, o2, o3, o4, o5, o6⟩ := h.obj id _ hk
    subst hrl
    have hrow : ∀ (j : Nat) (x : List R) (i : Nat) (r : R), rows[j]? = some x → x[i]? = some r → ∃ c, (xs.getD (off + j) [])[i]? = some c ∧ j < rows.length ∧ xs[off + j]? = some (xs.getD (off + j) []) := by
      intro j x i r hx hr
      have hj := (List.getElem?_eq_some_iff.1 hx).1
      have hxj : xs[off + j]? = some (xs.getD (off + j) []) := by
        have : off + j < xs.length := by omega
        simp [this]
      have hl1 := h.rowLen hk hxj
      have hl2 := hsz x (List.mem_of_getElem? hx)
      have hi := (List.getElem?_eq_some_iff.1 hr).1
      exact ⟨_, List.getElem?_eq_getElem (by omega), hj, hxj⟩
    by_cases hne : rows = []
    · subst hne
      exact .rd (xs := []) (fun _ _ => undef) hcap (by omega) (fun x hx => by simp at hx) (fun h => absurd rfl h) (fun j x i r hx => by simp at hx)
    · have hpos : 0 < rows.length := List.length_pos_iff.2 hne
      obtain ⟨b, hb, rfl⟩ := hA (by omega)
      refine .rd (fun j i => (w.cell? (((μ id).at b off 0).add (j * sz + i))).getD undef) hcap (by omega) hsz (fun _ => ⟨_, rfl, ?_, fun j x i r hx hr => ?_⟩) (fun j x i r hx hr => ?_)
      · simp only [Loc.at]
        exact (h.blk id _ b hk hb).2
      · obtain ⟨c, hc, hj, hxj⟩ := hrow j x i r hx hr
        obtain ⟨u, hu, _⟩ := h.cell hk hb hxj hc
        have : ((μ id).at b off 0).add (j * sz + i) = (μ id).at b (off + j) i := by
          rw [loc_at_add]; unfold Loc.at; rw [hs, Nat.add_mul]; simp [Nat.add_assoc]
        rw [this, hu]; rfl
      · obtain ⟨c, hc, hj, hxj⟩ := hrow j x i r hx hr
        obtain ⟨u, hu, hr'⟩ := h.cell hk hb hxj hc
        have : ((μ id).at b off 0).add (j * sz + i) = (μ id).at b (off + j) i := by
          rw [loc_at_add]; unfold Loc.at; rw [hs, Nat.add_mul]; simp [Nat.add_assoc]
        rw [this, hu]
        have hrx : (rows.getD j [])[i]? = some r := by
          have : rows.getD j [] = x := by simp [List.getD_eq_getElem?_getD, hx]
          rw [this]; exact hr
        exact ih j i c r hj hc hrx hr'

def CastC (K : KMap) (c c1 : C) : Prop := (c = c1 ∧ c1.below 0 = true) ∨ ∃ r, c1 = .r r ∧ CastR K c r
def PlainC (c c1 : C) : Prop := (c = c1 ∧ c1.below 0 = true) ∨ (c = .r (.val nilS) ∧ ∃ sz, c1 = .r (.rd sz []))
def liftV (X : C → C → Prop) : V → V → Prop
  | .x c, .x c1 => X c c1
  | .agg cs, .agg cs1 => cs.length = cs1.length ∧ ∀ (i : Nat) (c c1 : C), cs[i]? = some c → cs1[i]? = some c1 → X c c1
  | _, _ => False
def liftT (X : C → C → Prop) : T → T → Prop
  | .v d, .v d1 => liftV X d d1
  | _, _ => False
def liftA (X : C → C → Prop) : List T → List T → Prop
  | [], [] => True
  | a :: l, b :: m => liftT X a b ∧ liftA X l m
  | _, _ => False

section
variable {P : Program} {w0 : World} {F S S' : Nat → Prop} {K : KMap} {N N1 : Nat} {μ : Nat → Loc} {w : World}

theorem below0 {c : C} (hb : c.below 0 = true) {v : Value} (h : RepC S N μ w c v) : RepC S 0 μ w c v := by
  have hid : c.ren id = c := by cases c <;> simp [C.ren]
  exact RepC.down (ρ := id) (μ2 := μ) (N2 := N) (fun _ _ => rfl) hb (by rw [hid]; exact h)

theorem liftA_rep {X : C → C → Prop} (hX : ∀ c c1 v, X c c1 → RepC S N μ w c v → RepC S' 0 μ w c1 v) : ∀ {args args1 : List T} {vs : List Value}, liftA X args args1 → ArgsRep S N μ w args vs → ArgsRep S' 0 μ w args1 vs
  | [], [], vs, _, h => ⟨h.1, fun i d hi => by simp at hi⟩
  | [], _ :: _, vs, hl, h => hl.elim
  | _ :: _, [], vs, hl, h => hl.elim
  | a :: l, b :: m, vs, hl, h => by
    obtain ⟨h1, h2⟩ := h
    cases vs with
    | nil => simp at h1
    | cons v vs =>
      have hrest := liftA_rep hX (args := l) (args1 := m) (vs := vs) hl.2 ⟨by simpa using h1, fun i d hi => by simpa using h2 (i + 1) d (by simpa using hi)⟩
      refine ⟨by simp [hrest.1], fun i d hi => ?_⟩
      cases i with
      | succ i => simpa using hrest.2 i d (by simpa using hi)
      | zero =>
        simp at hi
        subst hi
        refine ⟨v, rfl, ?_⟩
        obtain ⟨v', hv', hr⟩ := h2 0 a rfl
        simp at hv'
        subst hv'
        have hab := hl.1
        cases a with
        | tup => cases b <;> exact hab.elim
        | v d =>
          cases b with
          | tup => exact hab.elim
          | v d1 =>
            cases d with
            | x c =>
              cases d1 with
              | x c1 => exact hX c c1 v hab hr
              | agg cs1 => exact hab.elim
            | agg cs =>
              cases d1 with
              | x c1 => exact hab.elim
              | agg cs1 =>
                obtain ⟨us, rfl, hsz, hc⟩ := hr
                obtain ⟨e1, e2⟩ := hab
                refine ⟨us, rfl, by omega, fun i c1 hi => ?_⟩
                have hlt : i < cs.length := by
                  have := (List.getElem?_eq_some_iff.1 hi).1
                  omega
                have hci := List.getElem?_eq_getElem hlt
                obtain ⟨u, hu, hr'⟩ := hc i _ hci
                exact ⟨u, hu, hX _ _ u (e2 i _ c1 hci hi) hr'⟩

def addN (N : Nat) (i : Nat) : Nat := N + i
/-- The objects behind a call that was handed none: its own ones stand behind the caller's. -/
def joinK (N : Nat) (K K1 : KMap) : KMap := fun id => if id < N then K id else (K1 (id - N)).map (AObj.ren (addN N))

theorem call_core {f : FuncId} {args args1 : List T} {Q : T → KMap → Nat → Prop} (hs : Spec P f args1 emp 0 Q) {q : Bool} {R : T → KMap → Nat → Prop} (S1 : World → (Nat → Prop) → (Nat → Prop))
    (hS1 : ∀ {w0 F S K N μ w}, HRel w0 F S K N μ w → (∀ b, S1 w S b → b < w.heap.size))
    (hargs : ∀ {w0 F S μ w} {vs : List Value}, HRel w0 F S K N μ w → ArgsRep S N μ w args vs → ArgsRep (S1 w S) 0 μ w args1 vs)
    (hback : ∀ d K1 N1, Q d K1 N1 → (∀ w S, S1 w S = S) ∨ (d.flat = true ∧ ∀ id o, K1 id = some o → o.flat = true))
    (hR : ∀ d K1 N1, Q d K1 N1 → R (d.ren (addN N)) (joinK N K K1) (N + N1)) : CallW P q f args K N R := by
  obtain ⟨hc, hs⟩ := hs
  refine ⟨hc, fun w0 F S μ w vs hh ha => ?_⟩
  have hfoot : ∀ b, ¬ Foot emp μ b := fun b ⟨id, o, h, _⟩ => by simp [emp] at h
  have hpre : HRel w (Foot emp μ) (S1 w S) emp 0 μ w := ⟨fun b hb => ⟨hS1 hh b hb, hfoot b⟩, rfl, rfl, rfl, Nat.le_refl _, fun b _ _ => rfl, fun id o h => by simp [emp] at h, fun id o b h => by simp [emp] at h, fun id id' o o' b _ h => by simp [emp] at h⟩
  refine (hs (S1 w S) μ w vs hpre (hargs hh ha)).mono ?_
  rintro e w' ⟨v, d, K1, N1, μ1, rfl, hQ, h1, _, _, hrep⟩
  have hρ : ∀ id, id < N1 → addN N id < N + N1 ∧ (fun id => if id < N then μ id else μ1 (id - N)) (addN N id) = μ1 id := fun id hid => ⟨by unfold addN; omega, by
    have h1 : ¬ addN N id < N := by unfold addN; omega
    have h2 : addN N id - N = id := by unfold addN; omega
    simp only [h1, if_false, h2]⟩
  have hL : Later N μ (fun id => if id < N then μ id else μ1 (id - N)) := fun id hid => .inl (by simp [hid])
  have hheap : ∀ b, b < w.heap.size → w'.heap[b]? = w.heap[b]? := fun b hb => h1.frame b hb (hfoot b)
  have hsame : Same S w w' := fun b hb => hheap b (by have := (hh.st b hb).1; have := hh.size; omega)
  have hobj : ∀ id o, K1 id = some o → id < N1 ∧ ObjOk S N1 μ1 w' id o := by
    intro id o hk
    obtain ⟨g1, g2⟩ := h1.obj id o hk
    refine ⟨g1, ?_⟩
    rcases hback d K1 N1 hQ with hb | ⟨_, hb⟩
    · rw [hb w S] at g2; exact g2
    · exact g2.flat (hb id o hk)
  have hrep' : RepT S N1 μ1 w' d v := by
    rcases hback d K1 N1 hQ with hb | ⟨hb, _⟩
    · rw [hb w S] at hrep; exact hrep
    · exact hrep.flat hb
  refine ⟨v, d.ren (addN N), joinK N K K1, N + N1, fun id => if id < N then μ id else μ1 (id - N), rfl, hR d K1 N1 hQ, fun _ id hid => by simp [joinK, hid], ?_, by omega, hL, hrep'.up (ρ := addN N) (μ2 := fun id => if id < N then μ id else μ1 (id - N)) hρ⟩
  refine ⟨hh.st, h1.os.trans hh.os, h1.tape.trans hh.tape, h1.output.trans hh.output, Nat.le_trans hh.size h1.size, fun b hb hF => ?_, fun id o hk => ?_, fun id o b hk hb => ?_, fun id id' o o' b hne hk hk' hb => ?_⟩
  · rw [hheap b (by have := hh.size; omega)]
    exact hh.frame b hb hF
  · by_cases hid : id < N
    · simp only [joinK, hid, if_true] at hk
      obtain ⟨g1, g2⟩ := hh.obj id o hk
      exact ⟨by omega, g2.move hsame (fun _ h => h) (by omega) hL (by simp [hid]) (fun b hb => hheap b (hh.blk id o b hk hb).2)⟩
    · simp only [joinK, hid, if_false, Option.map_eq_some_iff] at hk
      obtain ⟨o', hk', rfl⟩ := hk
      obtain ⟨g1, g2⟩ := hobj _ o' hk'
      refine ⟨by omega, ?_⟩
      have := g2.up (ρ := addN N) (μ2 := fun id => if id < N then μ id else μ1 (id - N)) hρ g1
      simpa [addN, show N + (id - N) = id by omega] using this
  · by_cases hid : id < N
    · simp only [joinK, hid, if_true] at hk hb
      obtain ⟨g1, g2⟩ := hh.blk id o b hk hb
      exact ⟨g1, by have := h1.size; omega⟩
    · simp only [joinK, hid, if_false, Option.map_eq_some_iff] at hk hb
      obtain ⟨o', hk', rfl⟩ := hk
      obtain ⟨g1, g2⟩ := h1.blk _ o' b hk' hb
      refine ⟨.inr ?_, g2⟩
      rcases g1 with g1 | g1
      · exact absurd g1 (hfoot b)
      · have := hh.size; omega
  · have old : ∀ id o b, id < N → K id = some o → (μ id).blk = some b → b < w.heap.size := fun id o b _ hk hb => (hh.blk id o b hk hb).2
    have new : ∀ id o b, K1 id = some o → (μ1 id).blk = some b → w.heap.size ≤ b := fun id o b hk hb => by
      rcases (h1.blk id o b hk hb).1 with g1 | g1
      · exact absurd g1 (hfoot b)
      · exact g1
    by_cases hid : id < N <;> by_cases hid' : id' < N
    · simp only [joinK, hid, hid', if_true] at hk hk' hb ⊢
      exact hh.dis id id' o o' b hne hk hk' hb
    · simp only [joinK, hid, hid', if_true, if_false, Option.map_eq_some_iff] at hk hk' hb ⊢
      obtain ⟨o2, hk2, rfl⟩ := hk'
      intro hb'
      have := old id o b hid hk hb
      have := new _ o2 b hk2 hb'
      omega
    · simp only [joinK, hid, hid', if_true, if_false, Option.map_eq_some_iff] at hk hk' hb ⊢
      obtain ⟨o2, hk2, rfl⟩ := hk
      intro hb'
      have := old id' o' b hid' hk' hb'
      have := new _ o2 b hk2 hb
      omega
    · simp only [joinK, hid, hid', if_false, Option.map_eq_some_iff] at hk hk' hb ⊢
      obtain ⟨o2, hk2, rfl⟩ := hk
      obtain ⟨o3, hk3, rfl⟩ := hk'
      exact h1.dis (id - N) (id' - N) o2 o3 b (by omega) hk2 hk3 hb

/-- A CALL THAT IS HANDED DATA ALONE. -/
theorem Spec.plain {f : FuncId} {args args1 : List T} {Q : T → KMap → Nat → Prop} (hs : Spec P f args1 emp 0 Q) (ha : liftA PlainC args args1) {q : Bool} {R : T → KMap → Nat → Prop}
    (hR : ∀ d K1 N1, Q d K1 N1 → R (d.ren (addN N)) (joinK N K K1) (N + N1)) : CallW P q f args K N R := by
  refine call_core hs (fun _ S => S) (fun hh b hb => by have := (hh.st b hb).1; have := hh.size; omega) (fun hh har => liftA_rep (fun c c1 v hx hr => ?_) ha har) (fun _ _ _ _ => .inl fun _ _ => rfl) hR
  rcases hx with ⟨rfl, hb⟩ | ⟨rfl, sz, rfl⟩
  · exact below0 hb hr
  · cases hr
    exact .rd (xs := []) (fun _ _ => undef) (Nat.le_refl 0) (Nat.zero_le _) (fun x hx => by simp at hx) (fun h => absurd rfl h) (fun j x i r hx => by simp at hx)

/-- A CALL THAT IS HANDED OWN ROWS TO READ: its result leads to no data that came in. -/
theorem Spec.cast {f : FuncId} {args args1 : List T} {Q : T → KMap → Nat → Prop} (hs : Spec P f args1 emp 0 Q) (ha : liftA (CastC K) args args1) {q : Bool} {R : T → KMap → Nat → Prop}
    (hflat : ∀ d K1 N1, Q d K1 N1 → d.flat = true ∧ ∀ id o, K1 id = some o → o.flat = true)
    (hR : ∀ d K1 N1, Q d K1 N1 → R (d.ren (addN N)) (joinK N K K1) (N + N1)) : CallW P q f args K N R := by
  refine call_core hs (fun w _ b => b < w.heap.size) (fun hh b hb => hb) (fun {w0 F S μ w vs} hh har => liftA_rep (fun c c1 v hx hr => ?_) ha har) (fun d K1 N1 hQ => .inr (hflat d K1 N1 hQ)) hR
  rcases hx with ⟨rfl, hb⟩ | ⟨r, rfl, hcr⟩
  · exact below0 hb (hr.move (fun _ _ => rfl) (fun b hb => by have := (hh.st b hb).1; have := hh.size; omega) (Nat.le_refl _) (Later.refl _ _))
  · exact hcr.sound hh hr
end
end Go.Proofs.Yticflcpmlbaafaa.AL

/- AL: a contract out of a walk. -/
set_option linter.unusedSimpArgs false
set_option linter.unusedVariables false
namespace Go.Proofs.Yticflcpmlbaafaa.AL
open Go

/-- What is handed back, its objects named anew (τ: from the new names to those of the walk). -/
structure Back (N0 : Nat) (st : St) (d : T) (d' : T) (K' : KMap) (N' : Nat) (τ : Nat → Nat) : Prop where
  le : N0 ≤ N'
  old : ∀ i, i < N0 → τ i = i
  inj : ∀ i j o o', i ≠ j → K' i = some o → K' j = some o' → τ i ≠ τ j
  obj : ∀ i o, K' i = some o → i < N' ∧ o.below N' = true ∧ st.K (τ i) = some (o.ren τ)
  low : d'.below N' = true
  val : d'.ren τ = d

/-- What has to hold when the function comes back. -/
def retQ (N0 : Nat) (sl : List SRes) (Q : T → KMap → Nat → Prop) : XE → St → Prop
  | .exit _, _ => False
  | _, st => match resT st sl with | some (ds, p) => p ∧ ∃ d' K' N' τ, Back N0 st (oneT ds) d' K' N' τ ∧ Q d' K' N' | none => False

theorem HRel.names {w0 : World} {F S : Nat → Prop} {K K' : KMap} {N N' : Nat} {μ : Nat → Loc} {w : World} (h : HRel w0 F S K N μ w) {τ : Nat → Nat}
    (inj : ∀ i j o o', i ≠ j → K' i = some o → K' j = some o' → τ i ≠ τ j) (obj : ∀ i o, K' i = some o → i < N' ∧ o.below N' = true ∧ K (τ i) = some (o.ren τ)) : HRel w0 F S K' N' (fun i => μ (τ i)) w := by
  refine ⟨h.st, h.os, h.tape, h.output, h.size, h.frame, fun i o hk => ?_, fun i o b hk hb => ?_, fun i j o o' b hne hk hk' hb => ?_⟩
  · obtain ⟨g1, g2, g3⟩ := obj i o hk
    exact ⟨g1, ObjOk.down (N2 := N) (μ2 := μ) (ρ := τ) (fun _ _ => rfl) g1 g2 (h.obj _ _ g3).2⟩
  · obtain ⟨g1, g2, g3⟩ := obj i o hk
    exact h.blk _ _ b g3 hb
  · obtain ⟨_, _, g3⟩ := obj i o hk
    obtain ⟨_, _, g4⟩ := obj j o' hk'
    exact h.dis (τ i) (τ j) _ _ b (inj i j o o' hne hk hk') g3 g4 hb

theorem HRel.putDef {w0 : World} {F S : Nat → Prop} {K : KMap} {N : Nat} {μ : Nat → Loc} {W : World} (h : HRel w0 F S K N μ W) {D : Nat} (hD : w0.heap.size ≤ D) {x : Option (List Deferred)} (hk : W.heap[D]? = some (.deferred x)) (o : Obj) : HRel w0 F S K N μ (W.putObj D o) := by
  have hne : ∀ b, b ≠ D → (W.putObj D o).heap[b]? = W.heap[b]? := fun b hb => World.putObj_heap_other hb
  have hs : Same S W (W.putObj D o) := fun b hb => hne b (by have := (h.st b hb).1; omega)
  refine ⟨h.st, h.os, h.tape, h.output, by rw [World.putObj_size]; exact h.size, fun b hb hf => (hne b (by omega)).trans (h.frame b hb hf), fun id ob hk' => ?_, fun id ob b h1 h2 => ?_, h.dis⟩
  · obtain ⟨g1, g2⟩ := h.obj id ob hk'
    refine ⟨g1, g2.move hs (fun _ h => h) (Nat.le_refl _) (Later.refl _ _) rfl (fun b hb => hne b (fun e => ?_))⟩
    obtain ⟨ob', k1, k2⟩ := h.kind (b := b) ⟨id, ob, hk', hb⟩
    subst e
    rw [hk] at k1
    cases k1
    cases k2
  · obtain ⟨g1, g2⟩ := h.blk id ob b h1 h2
    exact ⟨g1, by rw [World.putObj_size]; exact g2⟩

theorem leaves_marks {P : Program} {fn : Func} {tmps : Array Value} {R : Ending → World → Prop} (Φ : World → Prop) : ∀ (Ds : List Nat) (W : World), Ds.Nodup → (∀ D, D ∈ Ds → W.heap[D]? = some (.deferred (some []))) → Φ W →
    (∀ D W', D ∈ Ds → Φ W' → W'.heap[D]? = some (.deferred (some [])) → Φ (W'.putObj D (.deferred none))) → (∀ W', Φ W' → ∃ v, (results fn tmps).run P W' = .ok v W' ∧ R (.returned v) W') →
    LeavesInM (FR none) 0 P fn tmps R (Ds.map fun D => { target := .collected D, args := #[] }) .returning W
  | [], W, hnd, hD, hΦ, hst, hend => hend W hΦ
  | D :: Ds, W, hnd, hD, hΦ, hst, hend => by
    refine ⟨by simp, .inl ⟨D, _, rfl, run_takeDeferred (hD D (by simp)), ?_⟩⟩
    rw [List.nodup_cons] at hnd
    refine leaves_marks Φ Ds _ hnd.2 (fun D' hD' => ?_) (hst D W (by simp) hΦ (hD D (by simp))) (fun D' W' h => hst D' W' (by simp [h])) hend
    have hne : D' ≠ D := fun e => hnd.1 (by rw [← e]; exact hD')
    rw [World.putObj_heap_other hne]
    exact hD D' (by simp [hD'])

/-- Behind the walk, what is known may be turned once more. -/
def retW (N0 : Nat) (sl : List SRes) (Q : T → KMap → Nat → Prop) (e : XE) (st : St) : Prop := ∃ s2, Weak N0 st s2 ∧ retQ N0 sl Q e s2

/-- A contract out of a walk through the function's slim text. -/
theorem Spec.of_awpW {P : Program} (hm : P.follows .mixedOrders = true) {f : FuncId} {fn : Func} {sf : SFun} (hf : P.funcs[f]? = some fn) (hs : slimF P fn = some sf) {args : List T} {K : KMap} {N : Nat} {Q : T → KMap → Nat → Prop} (hle : args.length ≤ sf.n)
    (h : awp P N sf.body ⟨argTm 0 args, K, N⟩ (retW N sf.res Q)) : Spec P f args K N Q := by
  unfold slimF at hs
  split at hs
  · rename_i c hb
    split at hs
    · rename_i b r hsb hsr
      split at hs
      · rename_i hc
        cases hs
        simp only [Bool.and_eq_true, bne_iff_ne, ne_eq] at hc
        refine ⟨by simp [callable, hf, hb, hc.2], fun S μ w vs hh ha => ?_⟩
        obtain ⟨a1, a2⟩ := ha
        simp at a1
        have hrel : Rel [] fn.ntmps w (Foot K μ) S N μ ⟨argTm 0 args, K, N⟩ μ { tmps := vs ++ Array.replicate (fn.ntmps - vs.size) undef, defers := [] } w := by
          refine ⟨rfl, by simp at hle ⊢; omega, fun t d hd => ?_, hh, Nat.le_refl N, Later.refl N μ⟩
          change argTm 0 args t = some d at hd
          rw [argTm_get] at hd
          simp only [Nat.zero_le, if_true, Nat.sub_zero] at hd
          obtain ⟨v, hv, hr⟩ := a2 t d hd
          have hlt : t < vs.size := by
            have := (List.getElem?_eq_some_iff.1 hd).1
            omega
          have : (vs ++ Array.replicate (fn.ntmps - vs.size) undef).getD t undef = v := by
            rw [Array.getD_eq_getD_getElem?, Array.getElem?_append_left hlt]
            have : vs[t]? = some v := by simpa using hv
            rw [this]; rfl
          rw [this]
          exact hr
        have hw := awp_sound (r := none) (B := w.heap.size) hm (Nat.le_refl _) hsb hc.1 (fun h => by cases h) h hrel DefsOk.nil
        refine callsIn_wide.1 (callsIn_of_wp_marks (F := FR none) (n := 0) hf hb trivial (wpIn_mono hw ?_) rfl)
        rintro e a w' ⟨x, hx, st1, μ1, ⟨st', hwk, hq⟩, hr1, hD0⟩
        obtain ⟨μ', hr0⟩ := hwk _ _ _ _ _ _ _ _ _ hr1
        have fin1 : retQ N r Q .ret st' → ∀ w', Rel a.defers fn.ntmps w (Foot K μ) S N μ st' μ' a w' → ∃ v, (results fn a.tmps).run P w' = .ok v w' ∧ ∃ v1 d K' N' μ1, Ending.returned v = .returned v1 ∧ Q d K' N' ∧ HRel w (Foot K μ) S K' N' μ1 w' ∧ N ≤ N' ∧ Later N μ μ1 ∧ RepT S N' μ1 w' d v1 := by
          intro hq w' hr'
          simp only [retQ] at hq
          split at hq
          · rename_i ds p hds
            obtain ⟨vs', h1, h2, h3⟩ := results_run hr' hsr hds hq.1
            have hrun : (results fn a.tmps).run P w' = .ok (if h : vs'.toArray.size = 1 then vs'.toArray[0] else .tuple vs'.toArray) w' := by
              unfold results
              rw [Array.mapM_eq_mapM_toList]
              have h1' : ((fun l : List Value => l.toArray) <$> (fn.results.toList.mapM (resStep a.tmps))).run P w' = .ok vs'.toArray w' := by rw [Sem.run_map, h1]; rfl
              have e1 : ∀ x : Sem (Array Value), x.run P w' = .ok vs'.toArray w' → (do let vs ← x; pure (if h : vs.size = 1 then vs[0] else Value.tuple vs)).run P w' = .ok (if h : vs'.toArray.size = 1 then vs'.toArray[0] else .tuple vs'.toArray) w' := fun x hx => by
                simp only [Sem.run_bind, hx, Result.andThen, Sem.run_pure]
              exact e1 _ h1'
            obtain ⟨d', K', N', τ, hb, hQ⟩ := hq.2
            refine ⟨_, hrun, _, _, _, _, fun i => μ' (τ i), rfl, hQ, hr'.h.names hb.inj hb.obj, hb.le, fun i hi => by have := hr'.later i hi; rw [← hb.old i hi] at this; simpa only [hb.old i hi] using this, RepT.down (N2 := st'.N) (μ2 := μ') (ρ := τ) (fun _ _ => rfl) hb.low ?_⟩
            rw [hb.val]
            match ds, h2, h3 with
            | [], h2, h3 =>
              obtain rfl := List.eq_nil_of_length_eq_zero h2
              exact ⟨#[], rfl, rfl, fun i d hi => by simp at hi⟩
            | [d], h2, h3 =>
              obtain ⟨v, rfl⟩ : ∃ v, vs' = [v] := by
                match vs', h2 with
                | [v], _ => exact ⟨v, rfl⟩
              obtain ⟨v', hv', hrv⟩ := h3 0 d rfl
              simp at hv'
              subst hv'
              exact hrv
            | d :: d' :: ds, h2, h3 =>
              have hne : ¬ vs'.toArray.size = 1 := by simp at h2 ⊢; omega
              rw [dif_neg hne]
              exact ⟨vs'.toArray, rfl, by simpa using h2, fun i d hi => by simpa using h3 i d hi⟩
          · exact hq.elim
        have fin : retQ N r Q .ret st' → LeavesInM (FR none) 0 P fn a.tmps (fun e w' => ∃ v d K' N' μ', e = .returned v ∧ Q d K' N' ∧ HRel w (Foot K μ) S K' N' μ' w' ∧ N ≤ N' ∧ Later N μ μ' ∧ RepT S N' μ' w' d v) a.defers .returning w' := by
          intro hq
          obtain ⟨Ds, d1, d2, d3⟩ := hD0
          have hd := d1
          rw [hd]
          refine leaves_marks (fun W => Rel a.defers fn.ntmps w (Foot K μ) S N μ st' μ' a W) Ds w' d2 (fun D hD => (d3 D hD).2) hr0 (fun D W hD hW hk => ?_) (fun W hW => fin1 hq W hW)
          have hs : Same S W (W.putObj D (.deferred none)) := fun b hb => World.putObj_heap_other (by have := (hW.h.st b hb).1; have := (d3 D hD).1; omega)
          exact ⟨rfl, hW.size, fun t d ht => (hW.tm t d ht).move hs (fun _ h => h) (Nat.le_refl _) (Later.refl _ _), hW.h.putDef (d3 D hD).1 hk _, hW.ent, hW.later⟩
        cases e with
        | normal => cases x <;> simp [XEx] at hx; exact fin hq
        | ret => cases x <;> simp [XEx] at hx; exact fin hq
        | exit i => cases x <;> simp [XEx] at hx; exact hq.elim
        | _ => cases x <;> simp [XEx] at hx
      · cases hs
    · cases hs
  · cases hs

theorem Spec.of_awp {P : Program} (hm : P.follows .mixedOrders = true) {f : FuncId} {fn : Func} {sf : SFun} (hf : P.funcs[f]? = some fn) (hs : slimF P fn = some sf) {args : List T} {K : KMap} {N : Nat} {Q : T → KMap → Nat → Prop} (hle : args.length ≤ sf.n)
    (h : awp P N sf.body ⟨argTm 0 args, K, N⟩ (retQ N sf.res Q)) : Spec P f args K N Q :=
  Spec.of_awpW hm hf hs hle (awp_mono (fun e s hq => ⟨s, Weak.refl _ _, hq⟩) h)

/-- The function hands back data alone. -/
theorem Back.data {st : St} {d : T} (h : d.below 0 = true) : Back 0 st d d emp 0 (fun i => i) := by
  refine ⟨Nat.le_refl 0, fun i h => by omega, fun i j o o' _ h => by simp [emp] at h, fun i o h => by simp [emp] at h, h, ?_⟩
  have hc : ∀ c : C, c.ren (fun i => i) = c := fun c => by cases c <;> simp [C.ren]
  have hv : ∀ v : V, v.ren (fun i => i) = v := fun v => by
    cases v with
    | x c => simp [V.ren, hc]
    | agg cs =>
      have : C.ren (fun i => i) = id := funext hc
      simp [V.ren, this]
  cases d with
  | v d => simp [T.ren, hv]
  | tup ds =>
    have : V.ren (fun i => i) = id := funext hv
    simp [T.ren, this]

end Go.Proofs.Yticflcpmlbaafaa.AL
