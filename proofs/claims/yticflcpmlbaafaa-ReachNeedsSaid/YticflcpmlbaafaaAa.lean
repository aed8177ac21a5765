/- Abstract values and memory, and steps over them: a part of the proof; it states no law of its own. -/
import Derived.Calls
import Derived.Laws.World
import Derived.Laws.Sem
import Derived.KernelRfl
import GoSem.ClaimData
import Derived.Laws.Externs
import Derived.Laws.Cells
import Derived.WalkKit
import Derived.Laws.StructEq
import Derived.Laws.AppendOwn
import Derived.Laws.CopyRow

/- AL: abstract values, abstract own memory, and what they say of the machine's. -/
namespace Go.Proofs.Yticflcpmlbaafaa.AL
open Go

/-- Read-only data: a value of one cell, or a slice of rows of cells. -/
inductive R where
  | val (v : Value)
  | rd (sz : Nat) (xs : List (List R))
  deriving Inhabited

/-- What one cell (or a one-cell value) is known to be. -/
inductive C where
  | any
  | r (r : R)
  | rp (cs : List R)
  | own (id ver off len : Nat)
  | ptr (id ver i f : Nat)
  | map (id : Nat)
  | fn (f : FuncId) (caps : List Nat)
  deriving Inhabited

inductive V where
  | x (c : C)
  | agg (cs : List C)
  deriving Inhabited

inductive T where
  | v (v : V)
  | tup (vs : List V)
  deriving Inhabited

def V.cells : V → List C
  | .x c => [c]
  | .agg cs => cs

/-- Own objects: rows of cells (a box is one row), maps. -/
inductive AObj where
  | row (ver sz : Nat) (xs : List (List C))
  | map (es : List (Value × V))
  deriving Inhabited

structure Loc where
  ver : Nat
  blk : Option Nat
  org : Nat
  room : Nat
  sz : Nat
  deriving Inhabited

abbrev KMap := Nat → Option AObj

def upd {α : Type} (f : Nat → Option α) (i : Nat) (a : α) : Nat → Option α := fun j => if j = i then some a else f j
def emp {α : Type} : Nat → Option α := fun _ => none

@[simp] theorem upd_self {α : Type} (f : Nat → Option α) (i : Nat) (a : α) : upd f i a i = some a := by simp [upd]
theorem upd_ne {α : Type} (f : Nat → Option α) {i j : Nat} (a : α) (h : j ≠ i) : upd f i a j = f j := by simp [upd, h]
theorem upd_comm {α : Type} (f : Nat → Option α) {i j : Nat} (a b : α) (h : i ≠ j) : upd (upd f i a) j b = upd (upd f j b) i a := by
  funext k
  unfold upd
  by_cases h1 : k = j <;> by_cases h2 : k = i <;> simp_all

def one (v : Value) : Prop := v.oneCell' = true
theorem one.cells {v : Value} (h : one v) : v.cells = #[v] := by cases v <;> first | rfl | (simp [one, Value.oneCell'] at h; done)

inductive RepR (S : Nat → Prop) (w : World) : R → Value → Prop
  | val {v : Value} : one v → RepR S w (.val v) v
  | rd {sz : Nat} {xs : List (List R)} {A : Option Addr} {cap : Nat} (g : Nat → Nat → Value) :
      xs.length ≤ cap → cap ≤ maxLen → (∀ x, x ∈ xs → x.length = sz) →
      (xs ≠ [] → ∃ a, A = some a ∧ S a.block ∧ ∀ j x i r, xs[j]? = some x → x[i]? = some r → w.cell? (a.add (j * sz + i)) = some (g j i)) →
      (∀ j x i r, xs[j]? = some x → x[i]? = some r → RepR S w r (g j i)) →
      RepR S w (.rd sz xs) (.slice A xs.length cap)

/-- The world agrees with another one on the blocks of S. -/
def Same (S : Nat → Prop) (w w' : World) : Prop := ∀ b, S b → w'.heap[b]? = w.heap[b]?

theorem cell?_same {w w' : World} {a : Addr} (h : w'.heap[a.block]? = w.heap[a.block]?) : w'.cell? a = w.cell? a := by
  unfold World.cell?
  rw [h]

theorem add_block (a : Addr) (n : Nat) : (a.add n).block = a.block := by unfold Addr.add; split <;> rfl

theorem RepR.same {S S' : Nat → Prop} {w w' : World} (hs : Same S w w') (hS : ∀ b, S b → S' b) {r : R} {v : Value} (h : RepR S w r v) : RepR S' w' r v := by
  induction h with
  | val h => exact .val h
  | rd g h1 h2 h3 h4 h5 ih =>
    refine .rd g h1 h2 h3 (fun hne => ?_) ih
    obtain ⟨a, rfl, ha, hc⟩ := h4 hne
    refine ⟨a, rfl, hS _ ha, fun j x i r hx hr => ?_⟩
    rw [cell?_same]
    · exact hc j x i r hx hr
    · rw [add_block]
      exact hs _ ha

theorem RepR.one {S : Nat → Prop} {w : World} {r : R} {v : Value} (h : RepR S w r v) : one v := by
  cases h with
  | val h => exact h
  | rd => rfl

/-- No slice in it leads anywhere: a plain value. -/
def R.flat : R → Bool
  | .val _ => true
  | .rd _ xs => xs.isEmpty

theorem RepR.flat {S S' : Nat → Prop} {w w' : World} {r : R} {v : Value} (h : RepR S w r v) (hf : r.flat = true) : RepR S' w' r v := by
  cases h with
  | val h => exact .val h
  | rd g h1 h2 h3 h4 h5 =>
    rename_i sz xs A cap
    have : xs = [] := by simpa [R.flat] using hf
    subst this
    exact .rd g h1 h2 h3 (fun h => absurd rfl h) (fun j x i r hx => by simp at hx)

/-- An address that an own row's element has. -/
def Loc.at (l : Loc) (b i f : Nat) : Addr := ⟨b, l.org + i * l.sz + f, none⟩

/-- An entry's stamp: below the clock, and no other's. -/
def BornOk (arr : Array MapEntry) (clock i : Nat) (e : MapEntry) : Prop := e.born < clock ∧ ∀ (j : Nat) (e' : MapEntry), arr[j]? = some e' → e'.born = e.born → j = i

section rep
variable (S : Nat → Prop) (N : Nat) (μ : Nat → Loc) (w : World)

def RepC : C → Value → Prop
  | .any, v => one v
  | .r r, v => RepR S w r v
  | .rp cs, v => ∃ a, v = .pointer (some a) ∧ S a.block ∧ ∀ k r, cs[k]? = some r → ∃ u, w.cell? (a.add k) = some u ∧ RepR S w r u
  | .own id ver off len, v => id < N ∧ ver ≤ (μ id).ver ∧ ∃ A cap, v = .slice A len cap ∧
      (ver = (μ id).ver → len ≤ cap ∧ off + cap ≤ (μ id).room ∧ (cap ≠ 0 → ∃ b, (μ id).blk = some b ∧ A = some ((μ id).at b off 0)))
  | .ptr id ver i f, v => id < N ∧ ver ≤ (μ id).ver ∧ ∃ A, v = .pointer A ∧ (ver = (μ id).ver → ∃ b, (μ id).blk = some b ∧ A = some ((μ id).at b i f))
  | .map id, v => id < N ∧ ∃ A, v = .map A ∧ ((μ id).ver = 0 → A = (μ id).blk)
  | .fn f caps, v => ∃ vals : Array Value, v = .func (.func f) #[] vals ∧ vals.size = caps.length ∧
      ∀ (i : Nat) (id : Nat), caps[i]? = some id → id < N ∧ ∃ A, vals[i]? = some (.pointer A) ∧ ((μ id).ver = 0 → ∃ b, (μ id).blk = some b ∧ A = some ((μ id).at b 0 0))

def RepV : V → Value → Prop
  | .x c, v => RepC S N μ w c v
  | .agg cs, v => ∃ vs : Array Value, v = .agg vs ∧ vs.size = cs.length ∧ ∀ (i : Nat) (c : C), cs[i]? = some c → ∃ u, vs[i]? = some u ∧ RepC S N μ w c u

def RepT : T → Value → Prop
  | .v d, v => RepV S N μ w d v
  | .tup ds, v => ∃ vs : Array Value, v = .tuple vs ∧ vs.size = ds.length ∧ ∀ (i : Nat) (d : V), ds[i]? = some d → ∃ u, vs[i]? = some u ∧ RepV S N μ w d u

def ObjOk (id : Nat) : AObj → Prop
  | .row ver sz xs => (μ id).ver = ver ∧ (μ id).sz = sz ∧ xs.length ≤ (μ id).room ∧ (μ id).room ≤ maxLen ∧ (∀ x, x ∈ xs → x.length = sz) ∧
      match (μ id).blk with
      | none => (μ id).room = 0
      | some b => ∃ (vals : Array Value) (ty : TypeId), w.heap[b]? = some (.cells vals ty (0, 0)) ∧ (μ id).org + (μ id).room * sz ≤ vals.size ∧
          ∀ i x k c, xs[i]? = some x → x[k]? = some c → ∃ u, vals[(μ id).org + i * sz + k]? = some u ∧ RepC S N μ w c u
  | .map es => (μ id).ver = 0 ∧ ∃ b arr clock, (μ id).blk = some b ∧ w.heap[b]? = some (.map arr clock) ∧ arr.size = es.length ∧
      ∀ (i : Nat) (k : Value) (d : V), es[i]? = some (k, d) → ∃ e, arr[i]? = some e ∧ e.key = k ∧ BornOk arr clock i e ∧ RepV S N μ w d e.val
end rep

/-- What becomes of the places of own objects: the same, or a later version. -/
def Later (N : Nat) (μ μ' : Nat → Loc) : Prop := ∀ id, id < N → μ' id = μ id ∨ (μ id).ver < (μ' id).ver

theorem Later.refl (N : Nat) (μ : Nat → Loc) : Later N μ μ := fun _ _ => .inl rfl
theorem Later.trans {N N' : Nat} {μ μ' μ'' : Nat → Loc} (h : Later N μ μ') (h' : Later N' μ' μ'') (hN : N ≤ N') : Later N μ μ'' := by
  intro id hid
  rcases h id hid with h1 | h1 <;> rcases h' id (by omega) with h2 | h2
  · exact .inl (h2.trans h1)
  · exact .inr (by rw [← h1]; exact h2)
  · exact .inr (by rw [h2]; exact h1)
  · exact .inr (Nat.lt_trans h1 h2)

theorem RepC.one {S : Nat → Prop} {N : Nat} {μ : Nat → Loc} {w : World} {c : C} {v : Value} (h : RepC S N μ w c v) : one v := by
  cases c with
  | any => exact h
  | r r => exact RepR.one h
  | rp cs => obtain ⟨a, rfl, _⟩ := h; rfl
  | own id ver off len => obtain ⟨_, _, A, cap, rfl, _⟩ := h; rfl
  | ptr id ver i f => obtain ⟨_, _, A, rfl, _⟩ := h; rfl
  | map id => obtain ⟨_, A, rfl, _⟩ := h; rfl
  | fn f caps => obtain ⟨vals, rfl, _⟩ := h; rfl

theorem RepC.move {S S' : Nat → Prop} {N N' : Nat} {μ μ' : Nat → Loc} {w w' : World} (hs : Same S w w') (hS : ∀ b, S b → S' b) (hN : N ≤ N') (hμ : Later N μ μ')
    {c : C} {v : Value} (h : RepC S N μ w c v) : RepC S' N' μ' w' c v := by
  cases c with
  | any => exact h
  | r r => exact RepR.same hs hS h
  | rp cs =>
    obtain ⟨a, rfl, ha, hc⟩ := h
    refine ⟨a, rfl, hS _ ha, fun k r hk => ?_⟩
    obtain ⟨u, hu, hr⟩ := hc k r hk
    refine ⟨u, ?_, hr.same hs hS⟩
    rw [cell?_same]
    · exact hu
    · rw [add_block]
      exact hs _ ha
  | own id ver off len =>
    obtain ⟨hid, hver, A, cap, rfl, hcur⟩ := h
    rcases hμ id hid with e | e
    · exact ⟨by omega, by rw [e]; exact hver, A, cap, rfl, by rw [e]; exact hcur⟩
    · exact ⟨by omega, by omega, A, cap, rfl, fun hv => by omega⟩
  | ptr id ver i f =>
    obtain ⟨hid, hver, A, rfl, hcur⟩ := h
    rcases hμ id hid with e | e
    · exact ⟨by omega, by rw [e]; exact hver, A, rfl, by rw [e]; exact hcur⟩
    · exact ⟨by omega, by omega, A, rfl, fun hv => by omega⟩
  | map id =>
    obtain ⟨hid, A, rfl, hcur⟩ := h
    rcases hμ id hid with e | e
    · exact ⟨by omega, A, rfl, by rw [e]; exact hcur⟩
    · exact ⟨by omega, A, rfl, fun hv => by omega⟩
  | fn f caps =>
    obtain ⟨vals, rfl, hsz, hc⟩ := h
    refine ⟨vals, rfl, hsz, fun i id hi => ?_⟩
    obtain ⟨hid, A, hA, hcur⟩ := hc i id hi
    rcases hμ id hid with e | e
    · exact ⟨by omega, A, hA, by rw [e]; exact hcur⟩
    · exact ⟨by omega, A, hA, fun hv => by omega⟩

theorem RepV.move {S S' : Nat → Prop} {N N' : Nat} {μ μ' : Nat → Loc} {w w' : World} (hs : Same S w w') (hS : ∀ b, S b → S' b) (hN : N ≤ N') (hμ : Later N μ μ')
    {d : V} {v : Value} (h : RepV S N μ w d v) : RepV S' N' μ' w' d v := by
  cases d with
  | x c => exact RepC.move hs hS hN hμ h
  | agg cs =>
    obtain ⟨vs, rfl, hsz, hc⟩ := h
    refine ⟨vs, rfl, hsz, fun i c hi => ?_⟩
    obtain ⟨u, hu, hr⟩ := hc i c hi
    exact ⟨u, hu, hr.move hs hS hN hμ⟩

theorem RepT.move {S S' : Nat → Prop} {N N' : Nat} {μ μ' : Nat → Loc} {w w' : World} (hs : Same S w w') (hS : ∀ b, S b → S' b) (hN : N ≤ N') (hμ : Later N μ μ')
    {d : T} {v : Value} (h : RepT S N μ w d v) : RepT S' N' μ' w' d v := by
  cases d with
  | v d => exact RepV.move hs hS hN hμ h
  | tup ds =>
    obtain ⟨vs, rfl, hsz, hc⟩ := h
    refine ⟨vs, rfl, hsz, fun i c hi => ?_⟩
    obtain ⟨u, hu, hr⟩ := hc i c hi
    exact ⟨u, hu, hr.move hs hS hN hμ⟩

/-- The cells of a value. -/
theorem RepV.cells {S : Nat → Prop} {N : Nat} {μ : Nat → Loc} {w : World} {d : V} {v : Value} (h : RepV S N μ w d v) :
    v.cells.size = d.cells.length ∧ ∀ (i : Nat) (c : C), d.cells[i]? = some c → ∃ u, v.cells[i]? = some u ∧ RepC S N μ w c u := by
  cases d with
  | x c =>
    have ho : v.cells = #[v] := (RepC.one h).cells
    rw [ho]
    refine ⟨rfl, fun i c' hi => ?_⟩
    cases i with
    | zero => simp [V.cells] at hi; subst hi; exact ⟨v, rfl, h⟩
    | succ i => simp [V.cells] at hi
  | agg cs =>
    obtain ⟨vs, rfl, hsz, hc⟩ := h
    exact ⟨hsz, hc⟩

/-- What is known of the memory: of the world at the call's begin (w0), of the blocks that the call may write (F), of those that stay as they are (S), of its own objects (K), and where they lie (μ). -/
structure HRel (w0 : World) (F S : Nat → Prop) (K : KMap) (N : Nat) (μ : Nat → Loc) (w : World) : Prop where
  st : ∀ b, S b → b < w0.heap.size ∧ ¬ F b
  os : w.os = w0.os
  tape : w.tape = w0.tape
  output : w.output = w0.output
  size : w0.heap.size ≤ w.heap.size
  frame : ∀ b, b < w0.heap.size → ¬ F b → w.heap[b]? = w0.heap[b]?
  obj : ∀ id o, K id = some o → id < N ∧ ObjOk S N μ w id o
  blk : ∀ id o b, K id = some o → (μ id).blk = some b → (F b ∨ w0.heap.size ≤ b) ∧ b < w.heap.size
  dis : ∀ id id' o o' b, id ≠ id' → K id = some o → K id' = some o' → (μ id).blk = some b → (μ id').blk ≠ some b

structure St where
  tm : Nat → Option T
  K : KMap
  N : Nat

/-- What is known of the temporaries and of the memory. -/
structure Rel (dl : List Deferred) (n : Nat) (w0 : World) (F S : Nat → Prop) (N0 : Nat) (μ0 : Nat → Loc) (st : St) (μ : Nat → Loc) (a : Act) (w : World) : Prop where
  defers : a.defers = dl
  size : a.tmps.size = n
  tm : ∀ t d, st.tm t = some d → RepT S st.N μ w d (a.tmps.getD t undef)
  h : HRel w0 F S st.K st.N μ w
  ent : N0 ≤ st.N
  later : Later N0 μ0 μ

theorem HRel.same_of {w0 : World} {F S : Nat → Prop} {K : KMap} {N : Nat} {μ : Nat → Loc} {w w' : World} (h : HRel w0 F S K N μ w) (h' : ∀ b, b < w0.heap.size → ¬ F b → w'.heap[b]? = w.heap[b]?) : Same S w w' :=
  fun b hb => h' b (h.st b hb).1 (h.st b hb).2

end Go.Proofs.Yticflcpmlbaafaa.AL

/- AL: the operations of the walk, and what each gives of abstract values. -/
namespace Go.Proofs.Yticflcpmlbaafaa.AL
open Go

abbrev cV (v : Value) : C := .r (.val v)
abbrev tV (v : Value) : T := .v (.x (.r (.val v)))
abbrev tC (c : C) : T := .v (.x c)
abbrev tI (n : Int) : T := .v (.x (.r (.val (.int .i64 n))))
abbrev tB (b : Bool) : T := .v (.x (.r (.val (.bool b))))
abbrev tS (s : ByteArray) : T := .v (.x (.r (.val (.string s))))
abbrev nilS : Value := .slice none 0 0

/-- Kinds of plain cells: 1 strings, 2 bools, from 3 on the kinds of whole numbers. -/
def kindNo : IntKind → Nat
  | .i8 => 3 | .i16 => 4 | .i32 => 5 | .i64 => 6 | .u8 => 7 | .u16 => 8 | .u32 => 9 | .u64 => 10

def tagOf : Value → Nat
  | .int k _ => kindNo k
  | .string _ => 1
  | .bool _ => 2
  | _ => 0

/-- Kinds of keys: plain ones, or structs of plain cells (their tags). -/
inductive KK where
  | sc (t : Nat)
  | st (ts : List Nat)
  deriving Inhabited

def keyOk : KK → Value → Bool
  | .sc t, v => t != 0 && tagOf v == t
  | .st ts, .agg a => a.toList.map tagOf == ts
  | _, _ => false

inductive SO where
  | mv
  | pick
  | box
  | alloc (zero : List Value)
  | build (zero : List Value) (parts : List (Nat × Nat))
  | bslice (sz : Nat) (zero : List Value) (len : Nat) (parts : List (Nat × Nat))
  | load (agg : Bool) (size : Nat)
  | store (size : Nat)
  | nilc
  | bin (op : BinOp)
  | binb (op : BinOp)
  | eqs (neg : Bool) (fs : List (Nat × Nat))
  | un (op : UnOp)
  | conv (k : IntKind)
  | mkfn (f : FuncId)
  | mkmap
  | mkslice (sz bytes : Nat) (zero : List Value)
  | slice (sz : Nat) (lo hi : Bool)
  | sslice (lo hi : Bool)
  | faddr (off : Nat)
  | field (agg : Bool) (off size : Nat)
  | iaddr (sz : Nat)
  | iarr (n sz : Nat)
  | index (n : Nat) (agg : Bool) (size : Nat)
  | sidx
  | idxb
  | clear (sz : Nat)
  | look (kk : KK) (ok : Bool) (agg : Bool) (zero : List Value)
  | mupd (kk : KK)
  | extract (i : Nat)
  | len (k : Nat)
  | max
  | min
  | append (sz bytes : Nat) (zero : List Value)
  | call (f : FuncId)
  | callv
  | isnil (neg : Bool)
  deriving Inhabited

structure Res where
  pre : Prop
  val : T
  K : KMap
  N : Nat

abbrev still (K : KMap) (N : Nat) (v : T) : Option Res := some ⟨True, v, K, N⟩
abbrev stillIf (K : KMap) (N : Nat) (p : Prop) (v : T) : Option Res := some ⟨p, v, K, N⟩

def evBin (op : BinOp) (K : KMap) (N : Nat) : List T → Option Res
  | [.v (.x (.r (.val (.int k a)))), .v (.x (.r (.val (.int k' b))))] =>
    match op with
    | .add => stillIf K N (k = k') (tV (.int k (k.wrap (a + b))))
    | .sub => stillIf K N (k = k') (tV (.int k (k.wrap (a - b))))
    | .mul => stillIf K N (k = k') (tV (.int k (k.wrap (a * b))))
    | .quo => stillIf K N (k = k' ∧ b ≠ 0) (tV (.int k (k.wrap (a.tdiv b))))
    | .rem => stillIf K N (k = k' ∧ b ≠ 0) (tV (.int k (a.tmod b)))
    | .and => stillIf K N (k = k') (tV (.int k (k.wrap (BitVec.ofInt k.bits a &&& BitVec.ofInt k.bits b).toNat)))
    | .or => stillIf K N (k = k') (tV (.int k (k.wrap (BitVec.ofInt k.bits a ||| BitVec.ofInt k.bits b).toNat)))
    | .xor => stillIf K N (k = k') (tV (.int k (k.wrap (BitVec.ofInt k.bits a ^^^ BitVec.ofInt k.bits b).toNat)))
    | .shl => stillIf K N (0 ≤ b) (tV (.int k (k.wrap (a * 2 ^ (min b.toNat k.bits)))))
    | .shr => stillIf K N (0 ≤ b) (tV (.int k (a.fdiv (2 ^ (min b.toNat k.bits)))))
    | .eql => stillIf K N (k = k') (tB (decide (a = b)))
    | .neq => stillIf K N (k = k') (tB (decide (a ≠ b)))
    | .lss => stillIf K N (k = k') (tB (decide (a < b)))
    | .leq => stillIf K N (k = k') (tB (decide (a ≤ b)))
    | .gtr => stillIf K N (k = k') (tB (decide (b < a)))
    | .geq => stillIf K N (k = k') (tB (decide (b ≤ a)))
    | _ => none
  | [.v (.x (.r (.val (.string a)))), .v (.x (.r (.val (.string b))))] =>
    match op with
    | .eql => still K N (tB (decide (a = b)))
    | .neq => still K N (tB (decide (a ≠ b)))
    | .lss => still K N (tB (Op.bytesLess a.toList b.toList))
    | _ => none
  | _ => none

def evEqb (op : BinOp) (K : KMap) (N : Nat) : List T → Option Res
  | [.v (.x (.r (.val (.bool a)))), .v (.x (.r (.val (.bool b))))] =>
    match op with
    | .eql => still K N (tB (a == b))
    | .neq => still K N (tB (a != b))
    | _ => none
  | _ => none

def evUn (op : UnOp) (K : KMap) (N : Nat) : List T → Option Res
  | [.v (.x (.r (.val (.bool a))))] => match op with | .not => still K N (tB (!a)) | _ => none
  | [.v (.x (.r (.val (.int k a))))] => match op with | .neg => still K N (tV (.int k (k.wrap (0 - a)))) | _ => none
  | _ => none

def evPick (K : KMap) (N : Nat) : List T → Option Res
  | [.v (.x (.r (.val (.bool c)))), .v (.x (.r (.val (.bool a)))), .v (.x (.r (.val (.bool b))))] => still K N (tB (bif c then a else b))
  | [.v (.x (.r (.val (.bool c)))), a, b] => still K N (bif c then a else b)
  | _ => none

def boxRes (K : KMap) (N : Nat) (cs : List C) : Option Res :=
  some ⟨True, tC (.ptr N 0 0 0), upd K N (.row 0 cs.length [cs]), N + 1⟩

/-- Cells put over others, from a place on. -/
def splice {α : Type} (f : Nat) (cs : List α) (x : List α) : List α := x.take f ++ cs ++ x.drop (f + cs.length)

/-- The cells of zero values with parts put over them. -/
def fillC : List (Nat × Nat) → List T → List C → Option (List C)
  | [], [], cs => some cs
  | (off, size) :: ps, .v d :: ds, cs => if d.cells.length = size ∧ off + size ≤ cs.length then fillC ps ds (splice off d.cells cs) else none
  | _, _, _ => none

/-- A list cut into rows of sz cells. -/
def rowsOf {α : Type} (sz : Nat) : Nat → List α → List (List α)
  | 0, _ => []
  | n + 1, l => l.take sz :: rowsOf sz n (l.drop sz)

def mkV (agg : Bool) (cs : List C) : T := if agg then .v (.agg cs) else .v (.x (cs.headD .any))

def evLoad (agg : Bool) (size : Nat) (K : KMap) (N : Nat) : List T → Option Res
  | [.v (.x (.ptr id ver i f))] =>
    match K id with
    | some (.row ver' sz xs) => stillIf K N (ver = ver' ∧ i < xs.length ∧ f + size ≤ sz ∧ (agg = false → size = 1)) (mkV agg (((xs.getD i []).drop f).take size))
    | _ => none
  | [.v (.x (.rp cs))] => stillIf K N (size ≤ cs.length ∧ (agg = false → size = 1)) (mkV agg ((cs.take size).map C.r))
  | _ => none

def evStore (size : Nat) (K : KMap) (N : Nat) : List T → Option Res
  | [.v (.x (.ptr id ver i f)), .v d] =>
    match K id with
    | some (.row ver' sz xs) => some ⟨ver = ver' ∧ i < xs.length ∧ f + size ≤ sz ∧ d.cells.length = size, tC .any, upd K id (.row ver' sz (xs.set i (splice f d.cells (xs.getD i [])))), N⟩
    | _ => none
  | _ => none

def evNilc (K : KMap) (N : Nat) : List T → Option Res
  | [.v (.x (.ptr id ver i f))] =>
    match K id with
    | some (.row ver' _ xs) => stillIf K N (ver = ver' ∧ i < xs.length) (tC (.ptr id ver i f))
    | _ => none
  | [.v (.x (.rp cs))] => still K N (tC (.rp cs))
  | [.v (.x (.fn f caps))] => still K N (tC (.fn f caps))
  | _ => none

def evFaddr (off : Nat) (K : KMap) (N : Nat) : List T → Option Res
  | [.v (.x (.ptr id ver i f))] =>
    match K id with
    | some (.row ver' _ xs) => stillIf K N (ver = ver' ∧ i < xs.length) (tC (.ptr id ver i (f + off)))
    | _ => none
  | [.v (.x (.rp cs))] => still K N (tC (.rp (cs.drop off)))
  | _ => none

def evField (agg : Bool) (off size : Nat) (K : KMap) (N : Nat) : List T → Option Res
  | [.v (.agg cs)] => stillIf K N (off + size ≤ cs.length ∧ (agg = false → size = 1)) (mkV agg ((cs.drop off).take size))
  | _ => none

def evIaddr (sz : Nat) (K : KMap) (N : Nat) : List T → Option Res
  | [.v (.x (.r (.rd sz' xs))), .v (.x (.r (.val (.int _ i))))] => stillIf K N (sz = sz' ∧ 0 ≤ i ∧ i < xs.length) (tC (.rp (xs.getD i.toNat [])))
  | [.v (.x (.own id ver off len)), .v (.x (.r (.val (.int _ i))))] =>
    match K id with
    | some (.row ver' sz' xs) => stillIf K N (sz = sz' ∧ ver = ver' ∧ 0 ≤ i ∧ i < len ∧ off + len ≤ xs.length) (tC (.ptr id ver (off + i.toNat) 0))
    | _ => none
  | _ => none

def evIarr (n sz : Nat) (K : KMap) (N : Nat) : List T → Option Res
  | [.v (.x (.ptr id ver i f)), .v (.x (.r (.val (.int _ j))))] =>
    match K id with
    | some (.row ver' _ xs) => stillIf K N (ver = ver' ∧ i < xs.length ∧ 0 ≤ j ∧ j < n) (tC (.ptr id ver i (f + j.toNat * sz)))
    | _ => none
  | _ => none

def evIndex (n : Nat) (agg : Bool) (size : Nat) (K : KMap) (N : Nat) : List T → Option Res
  | [.v (.agg cs), .v (.x (.r (.val (.int _ j))))] => stillIf K N (0 ≤ j ∧ j < n ∧ n * size ≤ cs.length ∧ (agg = false → size = 1)) (mkV agg ((cs.drop (j.toNat * size)).take size))
  | _ => none

def evSidx (K : KMap) (N : Nat) : List T → Option Res
  | [.v (.x (.r (.val (.string s)))), .v (.x (.r (.val (.int _ j))))] => stillIf K N (0 ≤ j ∧ j < s.size) (tV (.int .u8 ((s.data.getD j.toNat 0).toNat)))
  | _ => none

def evIdxb (K : KMap) (N : Nat) : List T → Option Res
  | [.v (.x (.r (.val (.string s)))), .v (.x (.r (.val (.int .u8 c))))] => still K N (tI (firstIdx s c.toNat.toUInt8))
  | _ => none

def evClear (sz : Nat) (K : KMap) (N : Nat) : List T → Option Res
  | [.v (.x (.own id ver off len))] =>
    match K id with
    | some (.row ver' sz' xs) => some ⟨ver = ver' ∧ sz = sz' ∧ off + len ≤ xs.length, .tup [], upd K id (.row ver' sz' (xs.take off ++ List.replicate len (List.replicate sz .any) ++ xs.drop (off + len))), N⟩
    | _ => none
  | _ => none

/-- How many elements a slice has, as far as it is known. -/
def evLen (k : Nat) (K : KMap) (N : Nat) : List T → Option Res
  | [.v (.x (.r (.rd _ xs)))] => stillIf K N (k = 1) (tI xs.length)
  | [.v (.x (.own _ _ _ len))] => stillIf K N (k = 1) (tI len)
  | [.v (.x (.r (.val (.string s))))] => stillIf K N (k = 0) (tI s.size)
  | [.v (.x (.r (.val (.slice _ n _))))] => stillIf K N (k = 1) (tI n)
  | [.v (.x (.map id))] =>
    match K id with
    | some (.map es) => stillIf K N (k = 2) (tI es.length)
    | _ => none
  | _ => none

def evMkslice (sz bytes : Nat) (zero : List Value) (K : KMap) (N : Nat) : List T → Option Res
  | [.v (.x (.r (.val (.int _ n)))), .v (.x (.r (.val (.int _ m))))] =>
    some ⟨n = m ∧ 0 ≤ n ∧ n ≤ 9223372036854775807 ∧ bytes * n ≤ 140737488355328 ∧ zero.length = sz, tC (.own N 0 0 n.toNat), upd K N (.row 0 sz (List.replicate n.toNat (zero.map cV))), N + 1⟩
  | _ => none

/-- The bounds of a slice expression. -/
def boundsOf (n : Nat) : Bool → Bool → List T → Option (Int × Int)
  | false, false, [] => some (0, n)
  | true, false, [.v (.x (.r (.val (.int _ l))))] => some (l, n)
  | false, true, [.v (.x (.r (.val (.int _ h))))] => some (0, h)
  | true, true, [.v (.x (.r (.val (.int _ l)))), .v (.x (.r (.val (.int _ h))))] => some (l, h)
  | _, _, _ => none

def evSlice (sz : Nat) (lo hi : Bool) (K : KMap) (N : Nat) : List T → Option Res
  | .v (.x (.r (.rd sz' xs))) :: bs =>
    match boundsOf xs.length lo hi bs with
    | some (l, h) => stillIf K N (sz = sz' ∧ 0 ≤ l ∧ l ≤ h ∧ h ≤ xs.length) (tC (.r (.rd sz ((xs.take h.toNat).drop l.toNat))))
    | none => none
  | .v (.x (.own id ver off len)) :: bs =>
    match K id, boundsOf len lo hi bs with
    | some (.row ver' sz' _), some (l, h) => stillIf K N (sz = sz' ∧ ver = ver' ∧ 0 ≤ l ∧ l ≤ h ∧ h ≤ len) (tC (.own id ver (off + l.toNat) (h.toNat - l.toNat)))
    | _, _ => none
  | _ => none

def evSslice (lo hi : Bool) (K : KMap) (N : Nat) : List T → Option Res
  | .v (.x (.r (.val (.string s)))) :: bs =>
    match boundsOf s.size lo hi bs with
    | some (l, h) => stillIf K N (0 ≤ l ∧ l ≤ h ∧ h ≤ s.size) (tS (s.extract l.toNat h.toNat))
    | none => none
  | _ => none

/-- Plain values that are the same. -/
def plainEq : Value → Value → Bool
  | .int _ a, .int _ b => a == b
  | .string a, .string b => decide (a = b)
  | .bool a, .bool b => a == b
  | _, _ => false

def plainEqs : List Value → List Value → Bool
  | [], [] => true
  | a :: as', b :: bs => plainEq a b && plainEqs as' bs
  | _, _ => false

/-- Keys that are the same (keys of one kind). -/
def keyEq : Value → Value → Bool
  | .agg a, .agg b => plainEqs a.toList b.toList
  | a, b => plainEq a b

def mfind : List (Value × V) → Value → Option V
  | [], _ => none
  | (k', d) :: es, k => if keyEq k k' then some d else mfind es k

def mset : List (Value × V) → Value → V → List (Value × V)
  | [], k, d => [(k, d)]
  | (k', d') :: es, k, d => if keyEq k k' then (k, d) :: es else (k', d') :: mset es k d

def vCell : C → Option Value
  | .r (.val v) => some v
  | _ => none

def keyOf' : T → Option Value
  | .v (.x (.r (.val v))) => some v
  | .v (.agg cs) => (cs.mapM vCell).map fun vs => .agg vs.toArray
  | _ => none

def evLook (kk : KK) (ok : Bool) (agg : Bool) (zero : List Value) (K : KMap) (N : Nat) : List T → Option Res
  | [.v (.x (.map id)), kt] =>
    match K id, keyOf' kt with
    | some (.map es), some k =>
      let z : V := if agg then .agg (zero.map cV) else .x ((zero.map cV).headD .any)
      stillIf K N ((agg = false → zero.length = 1) ∧ keyOk kk k = true ∧ es.all (fun e => keyOk kk e.1) = true) (if ok then .tup [(mfind es k).getD z, .x (cV (.bool (mfind es k).isSome))] else .v ((mfind es k).getD z))
    | _, _ => none
  | _ => none

def evMupd (kk : KK) (K : KMap) (N : Nat) : List T → Option Res
  | [.v (.x (.map id)), kt, .v d] =>
    match K id, keyOf' kt with
    | some (.map es), some k => some ⟨keyOk kk k = true ∧ es.all (fun e => keyOk kk e.1) = true, tC .any, upd K id (.map (mset es k d)), N⟩
    | _, _ => none
  | _ => none

def evExtract (i : Nat) (K : KMap) (N : Nat) : List T → Option Res
  | [.tup ds] => stillIf K N (i < ds.length) (.v (ds.getD i (.x .any)))
  | _ => none

def evMaxMin (mx : Bool) (K : KMap) (N : Nat) : List T → Option Res
  | [.v (.x (.r (.val (.int k a)))), .v (.x (.r (.val (.int k' b))))] => stillIf K N (k = k') (tV (.int k (if mx then (if b > a then b else a) else (if b < a then b else a))))
  | [.v (.x (.r (.val (.int k a)))), .v (.x (.r (.val (.int k' b)))), .v (.x (.r (.val (.int k'' c))))] =>
    stillIf K N (k = k' ∧ k = k'') (tV (.int k (if mx then (if c > (if b > a then b else a) then c else (if b > a then b else a)) else (if c < (if b < a then b else a) then c else (if b < a then b else a)))))
  | _ => none

/-- The rows that a source of append or copy holds. -/
def srcRows (K : KMap) : T → Option (Nat × List (List C) × Prop)
  | .v (.x (.r (.rd sz xs))) => some (sz, xs.map (·.map C.r), True)
  | .v (.x (.own id ver off len)) =>
    match K id with
    | some (.row ver' sz xs) => some (sz, (xs.drop off).take len, ver = ver' ∧ off + len ≤ xs.length)
    | _ => none
  | _ => none

def evAppend (sz bytes : Nat) (K : KMap) (N : Nat) : List T → Option Res
  | [.v (.x (.r (.val (.slice none 0 0)))), y] =>
    match srcRows K y with
    | some (sz', ys, p) => some ⟨p ∧ sz = sz' ∧ ys.length * bytes ≤ 140737488355328 ∧ ys.length ≤ 140737488355328, tC (.own N 0 0 ys.length), upd K N (.row 0 sz ys), N + 1⟩
    | none => if y matches .v (.x (.r (.val (.slice none 0 0)))) then some ⟨True, tC (.own N 0 0 0), upd K N (.row 0 sz []), N + 1⟩ else none
  | [.v (.x (.own id ver off len)), y] =>
    match K id, srcRows K y with
    | some (.row ver' sz' xs), some (sz'', ys, p) =>
      some ⟨p ∧ sz = sz' ∧ sz = sz'' ∧ ver = ver' ∧ off + len = xs.length ∧ (len + ys.length) * bytes ≤ 140737488355328 ∧ len + ys.length ≤ 140737488355328,
        tC (.own id (ver + 1) 0 (len + ys.length)), upd K id (.row (ver + 1) sz (xs.drop off ++ ys)), N⟩
    | some (.row ver' sz' _), none => if y matches .v (.x (.r (.val (.slice none 0 0)))) then stillIf K N (ver = ver' ∧ sz = sz') (tC (.own id ver off len)) else none
    | _, _ => none
  | _ => none

def isBoxPtr : T → Option Nat
  | .v (.x (.ptr id 0 0 0)) => some id
  | _ => none

def evMkfn (f : FuncId) (K : KMap) (N : Nat) (args : List T) : Option Res :=
  match args.mapM isBoxPtr with
  | some ids => still K N (tC (.fn f ids))
  | none => none

def evConv (k : IntKind) (K : KMap) (N : Nat) : List T → Option Res
  | [.v (.x (.r (.val (.int _ a))))] => still K N (tV (.int k (k.wrap a)))
  | _ => none

def eqCells : List (Nat × Nat) → List C → List C → Option (Prop × Bool)
  | [], _, _ => some (True, true)
  | (o, t) :: os, xs, ys =>
    match (xs.getD o .any), (ys.getD o .any), eqCells os xs ys with
    | .r (.val a), .r (.val b), some (p, e) => some (t ≠ 0 ∧ tagOf a = t ∧ tagOf b = t ∧ p, plainEq a b && e)
    | _, _, _ => none

def evEqs (neg : Bool) (fs : List (Nat × Nat)) (K : KMap) (N : Nat) : List T → Option Res
  | [.v (.agg xs), .v (.agg ys)] =>
    match eqCells fs xs ys with
    | some (p, e) => stillIf K N p (tB (if neg then !e else e))
    | none => none
  | _ => none

def ev (o : SO) (args : List T) (K : KMap) (N : Nat) : Option Res :=
  match o with
  | .mv => match args with | [x] => still K N x | _ => none
  | .pick => evPick K N args
  | .box => match args with | [.v d] => boxRes K N d.cells | _ => none
  | .alloc zero => match args with | [] => boxRes K N (zero.map cV) | _ => none
  | .build zero parts => match fillC parts args (zero.map cV) with | some cs => still K N (.v (.agg cs)) | none => none
  | .bslice sz zero len parts =>
    match fillC parts args (zero.map cV) with
    | some cs => some ⟨zero.length = len * sz, tC (.own N 0 0 len), upd K N (.row 0 sz (rowsOf sz len cs)), N + 1⟩
    | none => none
  | .load agg size => evLoad agg size K N args
  | .store size => evStore size K N args
  | .nilc => evNilc K N args
  | .bin op => evBin op K N args
  | .binb op => evEqb op K N args
  | .eqs neg fs => evEqs neg fs K N args
  | .un op => evUn op K N args
  | .conv k => evConv k K N args
  | .mkfn f => evMkfn f K N args
  | .mkmap => match args with | [] => some ⟨True, tC (.map N), upd K N (.map []), N + 1⟩ | _ => none
  | .mkslice sz bytes zero => evMkslice sz bytes zero K N args
  | .slice sz lo hi => evSlice sz lo hi K N args
  | .sslice lo hi => evSslice lo hi K N args
  | .faddr off => evFaddr off K N args
  | .field agg off size => evField agg off size K N args
  | .iaddr sz => evIaddr sz K N args
  | .iarr n sz => evIarr n sz K N args
  | .index n agg size => evIndex n agg size K N args
  | .sidx => evSidx K N args
  | .idxb => evIdxb K N args
  | .clear sz => evClear sz K N args
  | .look kk ok agg zero => evLook kk ok agg zero K N args
  | .mupd kk => evMupd kk K N args
  | .extract i => evExtract i K N args
  | .len k => evLen k K N args
  | .max => evMaxMin true K N args
  | .min => evMaxMin false K N args
  | .append sz bytes _ => evAppend sz bytes K N args
  | .call _ => none
  | .callv => none
  | .isnil _ => none

end Go.Proofs.Yticflcpmlbaafaa.AL

/- AL: the machine's code made slim: each operation with what its types say. -/
namespace Go.Proofs.Yticflcpmlbaafaa.AL
open Go

structure SOp where
  dst : Option Nat
  op : SO
  args : List Operand
  guard : Option (Nat × Bool)
  deriving Inhabited

inductive SCode where
  | skip
  | reg (quiet : Bool) (ops : List SOp)
  | regs (ls : List (List SOp))
  | seq (a b : SCode)
  | cond (c : Operand) (a b : SCode)
  | block (id : Nat) (b : SCode)
  | loop (b : SCode)
  | exit (id : Nat)
  | ret
  | rf (g : Operand) (ps : List Nat) (mvs : List (Nat × Nat)) (b : SCode)
  | rm (init : List SOp) (m : Operand) (it nx more pr : Nat) (asg : List SOp) (out nb : Nat) (b : SCode)
  deriving Inhabited

def aggD : TypeDesc → Bool
  | .struct _ | .array _ _ => true
  | _ => false

def oneAll (l : List Value) : Bool := l.all Value.oneCell'

def isAggV : Value → Bool
  | .agg _ => true
  | _ => false

/-- The zero cells of a type. -/
def zeroOf (P : Program) (t : TypeId) : Option (List Value) :=
  match (P.info? t).bind (·.zero), P.underlying t with
  | some z, some d => if oneAll z.cells.toList && (isAggV z == aggD d) then some z.cells.toList else none
  | _, _ => none

/-- The fields' types of a struct are known. -/
def fieldsKnown (P : Program) (fs : List Field) : Bool := fs.all fun f => (P.info? f.type).isSome

def placesOf (P : Program) (t : TypeId) (is : List Nat) : Option (List (Nat × Nat)) :=
  match P.underlying t with
  | some (.struct fields) => if fieldsKnown P fields.toList then is.mapM fun i => (fields[i]?).bind fun f => (P.info? f.type).map fun x => (f.offset, x.size) else none
  | some (.array _ e) => (P.info? e).map fun x => is.map fun i => (i * x.size, x.size)
  | _ => none

def flatFields (P : Program) : List Field → Option (List (Nat × Nat))
  | [] => some []
  | f :: fs => if f.name = "_" then none else
    match P.underlying f.type, flatFields P fs with
    | some (.int k), some r => some ((f.offset, kindNo k) :: r)
    | some .bool, some r => some ((f.offset, 2) :: r)
    | some .string, some r => some ((f.offset, 1) :: r)
    | _, _ => none

def keyKind (P : Program) (kt : TypeId) : Option KK :=
  match P.underlying kt with
  | some (.int k) => some (.sc (kindNo k))
  | some .string => some (.sc 1)
  | some .bool => some (.sc 2)
  | some (.struct fs) =>
    match flatFields P fs.toList with
    | some l => if P.stoodInHeld kt = false ∧ l.map (·.1) = List.range l.length then some (.st (l.map (·.2))) else none
    | none => none
  | _ => none

/-- The one function without a body that is stood in for. -/
def isIdxb (P : Program) (f : FuncId) : Bool :=
  match P.funcs[f]? with
  | some fn => fn.body.isNone && fn.name == "internal/bytealg.IndexByteString" && fn.origin == ""
  | none => false

def isNilC : Operand → Bool
  | .const (.slice none 0 0) => true
  | _ => false
/-- A slice compared with nil. -/
def nilCmp (op : BinOp) (x y : Operand) : Option (SO × List Operand) :=
  if isNilC y then (match op with | .eql => some (.isnil false, [x]) | .neq => some (.isnil true, [x]) | _ => none) else none

def slimOp (P : Program) : Op → Option (SO × List Operand)
  | .move x | .assign x => some (.mv, [x])
  | .pick c a b => some (.pick, [c, a, b])
  | .alloc t => (zeroOf P t).map fun z => (.alloc z, [])
  | .box _ x => some (.box, [x])
  | .build t parts =>
    match zeroOf P t, placesOf P t (parts.toList.map (·.1)), P.underlying t with
    | some z, some ps, some d => if aggD d then some (.build z ps, parts.toList.map (·.2)) else none
    | _, _, _ => none
  | .buildSlice t n parts =>
    match P.underlying t with
    | some (.slice e) =>
      match P.info? e, zeroOf P e with
      | some i, some z =>
        if z.length = i.size ∧ 0 < i.size ∧ n * i.size ≤ 1000 then some (.bslice i.size ((List.range (n * i.size)).map fun k => z.getD (k % z.length) undef) n (parts.toList.map fun x => (x.1 * i.size, i.size)), parts.toList.map (·.2)) else none
      | _, _ => none
    | _ => none
  | .load t x =>
    match P.underlying t, P.info? t with
    | some d, some i => some (.load (aggD d) i.size, [x])
    | _, _ => none
  | .store t a x => (P.info? t).map fun i => (.store i.size, [a, x])
  | .nilCheck x => some (.nilc, [x])
  | .binOp op t x y _ =>
    match P.underlying t with
    | some (.int _) | some .string => some (.bin op, [x, y])
    | some .bool => (match op with | .eql | .neq => some (.binb op, [x, y]) | _ => none)
    | some (.slice _) => nilCmp op x y
    | some (.struct fs) =>
      match op, flatFields P fs.toList with
      | .eql, some l => if P.stoodInHeld t ∨ P.eqGuardType P.depth t then none else some (.eqs false l, [x, y])
      | .neq, some l => if P.stoodInHeld t ∨ P.eqGuardType P.depth t then none else some (.eqs true l, [x, y])
      | _, _ => none
    | _ => none
  | .unOp op _ x => some (.un op, [x])
  | .convert src dst x =>
    match P.underlying src, P.underlying dst with
    | some (.int _), some (.int k) => some (.conv k, [x])
    | _, _ => none
  | .makeFunc (.func f) first captured => if first.size = 0 then some (.mkfn f, captured.toList) else none
  | .makeMap _ none => some (.mkmap, [])
  | .makeMap t (some (.const (.int _ _))) => (match P.underlying t with | some (.map _ _) => some (.mkmap, []) | _ => none)
  | .makeSlice t l c =>
    match P.underlying t with
    | some (.slice e) =>
      match P.info? e, zeroOf P e with
      | some i, some z => if z.length = i.size ∧ 0 < i.size then some (.mkslice i.size i.bytes z, [l, c]) else none
      | _, _ => none
    | _ => none
  | .slice t x lo hi none =>
    match P.underlying t with
    | some .string => some (.sslice lo.isSome hi.isSome, x :: (lo.toList ++ hi.toList))
    | some (.slice e) => (P.info? e).map fun i => (.slice i.size lo.isSome hi.isSome, x :: (lo.toList ++ hi.toList))
    | _ => none
  | .fieldAddr s x f =>
    match P.underlying s with
    | some (.struct fields) => (fields[f]?).bind fun fd => (P.info? fd.type).bind fun i => if i.size = 0 then none else some (.faddr fd.offset, [x])
    | _ => none
  | .field s x f =>
    match P.underlying s with
    | some (.struct fields) => (fields[f]?).bind fun fd => (P.info? fd.type).bind fun i => (P.underlying fd.type).map fun d => (.field (aggD d) fd.offset i.size, [x])
    | _ => none
  | .indexAddr t x ix =>
    match P.underlying t with
    | some (.slice e) => (P.info? e).map fun i => (.iaddr i.size, [x, ix])
    | some (.array n e) => (P.info? e).map fun i => (.iarr n i.size, [x, ix])
    | _ => none
  | .index t x ix =>
    match P.underlying t with
    | some (.array n e) => (P.info? e).bind fun i => (P.underlying e).map fun d => (.index n (aggD d) i.size, [x, ix])
    | some .string => some (.sidx, [x, ix])
    | _ => none
  | .lookup t m k ok =>
    match P.underlying t with
    | some (.map kt et) =>
      match keyKind P kt, zeroOf P et, P.underlying et with
      | some kk, some z, some d => some (.look kk ok (aggD d) z, [m, k])
      | _, _, _ => none
    | _ => none
  | .mapUpdate t m k v =>
    match P.underlying t with
    | some (.map kt _) => (keyKind P kt).map fun kk => (.mupd kk, [m, k, v])
    | _ => none
  | .extract x i => some (.extract i, [x])
  | .call c =>
    match c.callee with
    | .value (.func f) => if isIdxb P f then some (.idxb, c.args.toList) else some (.call f, c.args.toList)
    | .value x => some (.callv, x :: c.args.toList)
    | .builtin .len =>
      (match (c.argTypes[0]?).bind P.underlying, c.args.toList with
       | some .string, [x] => some (.len 0, [x])
       | some (.slice _), [x] => some (.len 1, [x])
       | some (.map _ _), [x] => some (.len 2, [x])
       | _, _ => none)
    | .builtin .clear =>
      (match c.argTypes.toList, c.args.toList with
       | [t], [x] =>
         (match P.underlying t with
          | some (.slice e) =>
            (match P.info? e, zeroOf P e with
             | some i, some z => if z.length = i.size ∧ 0 < i.size then some (.clear i.size, [x]) else none
             | _, _ => none)
          | _ => none)
       | _, _ => none)
    | .builtin .max => some (.max, c.args.toList)
    | .builtin .min => some (.min, c.args.toList)
    | .builtin .append =>
      (match c.argTypes.toList, c.args.toList with
       | [t, t'], [x, y] =>
         if t = t' then
           (match P.underlying t with
            | some (.slice e) =>
              (match P.info? e, zeroOf P e with
               | some i, some z => if z.length = i.size ∧ 0 < i.size ∧ 0 < i.bytes then some (.append i.size i.bytes z, [x, y]) else none
               | _, _ => none)
            | _ => none)
         else none
       | _, _ => none)
    | _ => none
  | _ => none

def slim1 (P : Program) (ops : Array Oper) (o : Oper) : Option SOp :=
  match slimOp P o.op with
  | some (s, args) =>
    match o.guard with
    | none => some ⟨o.dst, s, args, none⟩
    | some (j, b) => ((ops[j]?).bind (·.dst)).map fun t => ⟨o.dst, s, args, some (t, b)⟩
  | none => none

/-- What kind of operation it is for an order that is drawn: 0: of the temporaries alone; 1: it reads rows; 4: maps; 5: either; 2: it makes memory or calls; 3: it writes rows; 6: it writes maps. -/
def SO.kind : SO → Nat
  | .load _ _ | .nilc | .slice _ _ _ | .iaddr _ | .iarr _ _ | .faddr _ => 1
  | .look _ _ _ _ => 4
  | .len _ => 5
  | .box | .alloc _ | .bslice _ _ _ _ | .mkmap | .mkslice _ _ _ | .call _ | .callv | .isnil _ => 2
  | .store _ | .append _ _ _ | .clear _ => 3
  | .mupd _ => 6
  | _ => 0

def stillK (k : Nat) : Bool := k == 0 || k == 1 || k == 4 || k == 5

def tmpsOf : List Operand → List Nat
  | [] => []
  | .tmp t :: l => t :: tmpsOf l
  | _ :: l => tmpsOf l

def SOp.reads (o : SOp) : List Nat := (match o.guard with | some (t, _) => [t] | none => []) ++ tmpsOf o.args

/-- Two operations that don't meet in a temporary. -/
def apartT (a b : SOp) : Bool :=
  (match a.dst with | some d => !(b.reads.contains d) && (match b.dst with | some e => d != e | none => true) | none => true) &&
  (match b.dst with | some d => !(a.reads.contains d) | none => true)

def kindsOk (a b : Nat) : Bool :=
  if a == 0 then true else if stillK b || b == 2 then stillK a else if b == 6 then a == 1 else if b == 3 then a == 4 else false

/-- The operation a, ahead of b in the order that is walked, may also come behind it. -/
def swapsOk (a b : SOp) : Bool := apartT a b && kindsOk a.op.kind b.op.kind

def insertEarly (ops : Array Oper) (kinds : List Nat) : Nat → List Nat → List Nat → List Nat
  | 0, done, _ => done
  | n + 1, done, left =>
    let ready := left.filter fun i => ((ops[i]?).map fun o => o.after.all fun e => !Region.binds .any e || done.contains e.on).getD false
    match (ready.find? fun i => stillK (kinds.getD i 0)).or ready.head? with
    | some i => insertEarly ops kinds n (done ++ [i]) (left.filter (· != i))
    | none => done

/-- The order that is walked where the machine draws one: what neither makes nor writes memory as early as it may come. -/
def early (ops : Array Oper) (kinds : List Nat) : List Nat := insertEarly ops kinds ops.size [] (List.range ops.size)

def onto (ops : Array Oper) (i j : Nat) : Bool := (ops.getD i default).after.any fun e => Region.binds .any e && e.on == j

/-- Each pair of the order that the machine may turn may be turned. -/
def drawOk (ops : Array Oper) (b : Array Nat) : List (Nat × SOp) → Bool
  | [] => true
  | (i, a) :: l => ((ops.getD i default).after.all fun e => e.on < ops.size && e.on != i) && (l.all fun x => !onto ops i x.1 && ((b.getD x.1 0).testBit i || swapsOk a x.2)) && drawOk ops b l

/-- i comes ahead of j, by the edges that always bind. -/
def depB (b : Array Nat) (i j : Nat) : Bool := (b.getD j 0).testBit i
/-- i comes ahead of j, by these edges and by the pairs cs. -/
def implB (b : Array Nat) : Nat → List (Nat × Nat) → Nat → Nat → Bool
  | 0, _, i, j => depB b i j
  | n + 1, cs, i, j => depB b i j || cs.any fun c => (c.1 == i || depB b i c.1) && (c.2 == j || implB b n cs c.2 j)
def infeas (b : Array Nat) (cs : List (Nat × Nat)) : Bool := cs.any fun c => implB b 3 cs c.2 c.1

/-- The order stands for each one that keeps cs. -/
def hardOk (b : Array Nat) (cs : List (Nat × Nat)) : List (Nat × SOp) → Bool
  | [] => true
  | x :: l => (l.all fun y => swapsOk x.2 y.2 || implB b 3 cs x.1 y.1) && hardOk b cs l

/-- Whatever the order of these pairs: one of the orders stands for it. -/
def covB (b : Array Nat) (Ls : List (List (Nat × SOp))) : List (Nat × Nat) → List (Nat × Nat) → Bool
  | [], cs => Ls.any (hardOk b cs)
  | p :: H, cs => infeas b cs || (if implB b 3 cs p.1 p.2 || implB b 3 cs p.2 p.1 then covB b Ls H cs else covB b Ls H (p :: cs) && covB b Ls H ((p.2, p.1) :: cs))

def greedy (b : Array Nat) (kinds : List Nat) (cs : List (Nat × Nat)) : Nat → List Nat → List Nat → List Nat
  | 0, done, _ => done
  | n + 1, done, left =>
    let ready := left.filter fun i => left.all fun j => !implB b 3 cs j i
    match (ready.find? fun i => stillK (kinds.getD i 0)).or ready.head? with
    | some i => greedy b kinds cs n (done ++ [i]) (left.filter (· != i))
    | none => done

def gens (b : Array Nat) (kinds : List Nat) (size : Nat) : List (Nat × Nat) → List (Nat × Nat) → List (List Nat)
  | [], cs => if infeas b cs then [] else [greedy b kinds cs size [] (List.range size)]
  | p :: H, cs => if infeas b cs then [] else if implB b 3 cs p.1 p.2 || implB b 3 cs p.2 p.1 then gens b kinds size H cs else gens b kinds size H (p :: cs) ++ gens b kinds size H ((p.2, p.1) :: cs)

def conflicts (b : Array Nat) (l : List (Nat × SOp)) : List (Nat × Nat) :=
  l.flatMap fun x => (l.filter fun y => x.1 < y.1 && !depB b x.1 y.1 && !depB b y.1 x.1 && !swapsOk x.2 y.2 && !swapsOk y.2 x.2).map fun y => (x.1, y.1)

def topoOk (ops : Array Oper) : List Nat → Bool
  | [] => true
  | i :: l => ((ops.getD i default).after.all fun e => e.on < ops.size && e.on != i) && (l.all fun x => !onto ops i x) && topoOk ops l

def permOk (n : Nat) (l : List Nat) : Bool := decide l.Nodup && (l.all fun i => decide (i < n)) && (List.range n).all fun i => l.contains i

/-- A region whose order matters: all orders that matter. -/
def slimRegs (ops : Array Oper) (l : List SOp) (ord : List Nat) : Option SCode :=
  let b := Region.before ops
  match (List.range ops.size).mapM fun i => (l[i]?).map fun o => (i, o) with
  | some ps =>
    let H := conflicts b ps
    match (gens b (l.map (·.op.kind)) ops.size H []).mapM fun o => o.mapM fun i => (l[i]?).map fun s => (i, s) with
    | some Ls => if (permOk ops.size ord && topoOk ops ord && (Ls.all fun L => permOk ops.size (L.map (·.1))) && covB b Ls H []) = true then some (.regs (Ls.map fun L => L.map (·.2))) else none
    | none => none
  | none => none

theorem slimRegs_spec {ops : Array Oper} {l : List SOp} {ord : List Nat} {sc : SCode} (h : slimRegs ops l ord = some sc) :
    ∃ (ps : List (Nat × SOp)) (Ls : List (List (Nat × SOp))), sc = .regs (Ls.map fun L => L.map (·.2)) ∧ permOk ops.size ord = true ∧ topoOk ops ord = true ∧
      (∀ L, L ∈ Ls → permOk ops.size (L.map (·.1)) = true ∧ ∀ x, x ∈ L → l[x.1]? = some x.2) ∧ covB (Region.before ops) Ls (conflicts (Region.before ops) ps) [] = true ∧ ((List.range ops.size).mapM fun i => (l[i]?).map fun o => (i, o)) = some ps := by
  unfold slimRegs at h
  dsimp only at h
  split at h
  · rename_i ps hps
    split at h
    · rename_i Ls hLs
      split at h
      · rename_i hc
        simp only [Bool.and_eq_true, List.all_eq_true] at hc
        obtain ⟨⟨⟨c1, c2⟩, c3⟩, c4⟩ := hc
        cases h
        refine ⟨ps, Ls, rfl, c1, c2, fun L hL => ⟨c3 L hL, fun x hx => ?_⟩, c4, hps⟩
        have key : ∀ {os : List (List Nat)} {Ls : List (List (Nat × SOp))}, (os.mapM fun o => o.mapM fun i => (l[i]?).map fun s => (i, s)) = some Ls → ∀ L, L ∈ Ls → ∀ x, x ∈ L → l[x.1]? = some x.2 := by
          intro os
          induction os with
          | nil => intro Ls h L hL; simp at h; subst h; simp at hL
          | cons o os ih =>
            intro Ls h L hL
            simp only [List.mapM_cons] at h
            cases h1 : (o.mapM fun i => (l[i]?).map fun s => (i, s)) with
            | none => simp [h1] at h
            | some L1 =>
              cases h2 : (os.mapM fun o => o.mapM fun i => (l[i]?).map fun s => (i, s)) with
              | none => simp [h1, h2] at h
              | some Ls1 =>
                simp [h1, h2] at h
                subst h
                rcases List.mem_cons.1 hL with rfl | hL
                · have key2 : ∀ {o : List Nat} {L1 : List (Nat × SOp)}, (o.mapM fun i => (l[i]?).map fun s => (i, s)) = some L1 → ∀ x, x ∈ L1 → l[x.1]? = some x.2 := by
                    intro o
                    induction o with
                    | nil => intro L1 h x hx; simp at h; subst h; simp at hx
                    | cons i o ih2 =>
                      intro L1 h x hx
                      simp only [List.mapM_cons] at h
                      cases h3 : (l[i]?).map fun s => (i, s) with
                      | none => simp [h3] at h
                      | some y =>
                        cases h4 : (o.mapM fun i => (l[i]?).map fun s => (i, s)) with
                        | none => simp [h3, h4] at h
                        | some L2 =>
                          simp [h3, h4] at h
                          subst h
                          obtain ⟨s, hs, rfl⟩ := Option.map_eq_some_iff.1 h3
                          rcases List.mem_cons.1 hx with rfl | hx
                          · exact hs
                          · exact ih2 h4 x hx
                  exact key2 h1
                · exact ih h2 L hL
        exact key hLs L hL x hx
      · cases h
    · cases h
  · cases h

def slimReg (P : Program) (ops : Array Oper) (draw : Bool) : Option SCode :=
  match ops.toList.mapM (slim1 P ops) with
  | none => none
  | some l =>
    if draw then
      let ord := early ops (l.map (·.op.kind))
      match ord.mapM fun i => (l[i]?).map fun o => (i, o) with
      | some ps => if ord.length = ops.size ∧ ord.Nodup ∧ ((List.range ops.size).all fun i => ord.contains i) = true ∧ drawOk ops (Region.before ops) ps = true then some (.reg true (ps.map (·.2))) else slimRegs ops l ord
      | none => none
    else some (.reg false l)

/-- What lays a round's variables: moves alone. -/
def asg1 (o : Oper) : Option (Nat × Nat) :=
  match o.op, o.dst, o.guard with
  | .move (.tmp s), some d, none => some (d, s)
  | .assign (.tmp s), some d, none => some (d, s)
  | _, _, _ => none

def asgOf : Code → Option (List (Nat × Nat))
  | .skip => some []
  | .seq a b => match asgOf a, asgOf b with | some x, some y => some (x ++ y) | _, _ => none
  | .region _ ops false => ops.toList.mapM asg1
  | _ => none

/-! A range over a map. -/
def isRange (P : Program) (o : Oper) : Option (Operand × Nat) :=
  match o.op, o.dst, o.guard with
  | .range t m, some it, none => (match P.underlying t with | some (.map _ _) => some (m, it) | _ => none)
  | _, _, _ => none
def isNext (o : Oper) : Option (Nat × Nat) :=
  match o.op, o.dst, o.guard with
  | .next (.tmp it) false, some nx, none => some (it, nx)
  | _, _, _ => none
def isExt0 (o : Oper) : Option (Nat × Nat) :=
  match o.op, o.dst, o.guard with
  | .extract (.tmp x) 0, some more, none => some (x, more)
  | _, _, _ => none
def isEntry (o : Oper) : Option (Nat × Nat) :=
  match o.op, o.dst, o.guard with
  | .entry (.tmp it), some pr, none => some (it, pr)
  | _, _, _ => none

structure RM where
  init : List SOp
  m : Operand
  it : Nat
  nx : Nat
  more : Nat
  pr : Nat
  asg : List SOp

def rmParts (P : Program) (ops ns as : Array Oper) (c : Nat) : Option RM :=
  match (ops[ops.size - 1]?).bind (isRange P), (ns[0]?).bind isNext, (ns[1]?).bind isExt0, (as[0]?).bind isEntry with
  | some (m, it), some (i1, nx), some (x1, more), some (i2, pr) =>
    if ns.size = 2 ∧ i1 = it ∧ i2 = it ∧ x1 = nx ∧ c = more ∧ nx ≠ more ∧ nx ≠ it ∧ more ≠ it then
      match (List.range (ops.size - 1)).mapM (fun i => (ops[i]?).bind (slim1 P ops)), ((List.range (as.size - 1)).map (· + 1)).mapM (fun i => (as[i]?).bind (slim1 P as)) with
      | some init, some asg => some ⟨init, m, it, nx, more, pr, asg⟩
      | _, _ => none
    else none
  | _, _, _, _ => none

def rmOf (P : Program) (a b : Code) : Option RM :=
  match a, b with
  | .region _ ops false, .block out (.loop (.seq (.region _ ns false) (.seq (.cond (.tmp c) .skip (.exit o)) (.block _ (.seq (.region _ as false) _))))) => if o = out then rmParts P ops ns as c else none
  | _, _ => none

def slim (P : Program) : Code → Option SCode
  | .skip => some .skip
  | .region _ ops draw => slimReg P ops draw
  | .seq a b =>
    match rmOf P a b with
    | some x =>
      (match b with
       | .block out (.loop (.seq _ (.seq _ (.block nb (.seq _ code))))) => (slim P code).map (.rm x.init x.m x.it x.nx x.more x.pr x.asg out nb)
       | _ => none)
    | none => match slim P a, slim P b with | some x, some y => some (.seq x y) | _, _ => none
  | .cond c a b => match slim P a, slim P b with | some x, some y => some (.cond c x y) | _, _ => none
  | .block id b => (slim P b).map (.block id)
  | .loop b => (slim P b).map .loop
  | .exit id => some (.exit id)
  | .ret => some .ret
  | .rangeFunc g ps a b => match asgOf a, slim P b with | some mvs, some y => some (.rf g ps.toList mvs y) | _, _ => none
  | _ => none

end Go.Proofs.Yticflcpmlbaafaa.AL

/- AL: operations that leave memory alone are carried out as ev says. -/
set_option linter.unusedSimpArgs false
set_option linter.unusedVariables false
namespace Go.Proofs.Yticflcpmlbaafaa.AL
open Go

section
variable {P : Program} {w0 : World} {F S : Nat → Prop} {K : KMap} {N : Nat} {μ : Nat → Loc} {w : World}

def Still (P : Program) (S : Nat → Prop) (N : Nat) (μ : Nat → Loc) (w : World) (x : Sem Value) (d : T) : Prop := ∃ v, x.run P w = .ok v w ∧ RepT S N μ w d v

theorem run_under {t : TypeId} {d : TypeDesc} (h : P.underlying t = some d) : (underlying t).run P w = .ok d w := by
  simp [underlying, h]
theorem run_tinfo {t : TypeId} {d : TypeInfo} (h : P.info? t = some d) : (typeInfo t).run P w = .ok d w := by
  simp [typeInfo, h]
theorem run_size {t : TypeId} {d : TypeInfo} (h : P.info? t = some d) : (sizeOf t).run P w = .ok d.size w := by
  simp [sizeOf, run_tinfo h]
theorem run_agg {t : TypeId} {d : TypeDesc} (h : P.underlying t = some d) : (isAgg t).run P w = .ok (aggD d) w := by
  cases d <;> simp [isAgg, run_under h, aggD]

theorem addr_add_add (a : Addr) (m n : Nat) : (a.add m).add n = a.add (m + n) := by
  unfold Addr.add
  by_cases hm : m = 0 <;> by_cases hn : n = 0 <;> simp [hm, hn, Nat.add_assoc]

theorem loc_at_add (l : Loc) (b i f n : Nat) : (l.at b i f).add n = l.at b i (f + n) := by
  unfold Addr.add Loc.at
  by_cases hn : n = 0 <;> simp [hn, Nat.add_assoc]

/-- A cell of an own row. -/
theorem HRel.cell (h : HRel w0 F S K N μ w) {id ver sz : Nat} {xs : List (List C)} (hk : K id = some (.row ver sz xs)) {b : Nat} (hb : (μ id).blk = some b)
    {i k : Nat} {x : List C} {c : C} (hx : xs[i]? = some x) (hc : x[k]? = some c) : ∃ u, w.cell? ((μ id).at b i k) = some u ∧ RepC S N μ w c u := by
  obtain ⟨_, hv, hs, _, _, hl, hm⟩ := h.obj id _ hk
  rw [hb] at hm
  obtain ⟨vals, ty, hh, hsz, hall⟩ := hm
  obtain ⟨u, hu, hr⟩ := hall i x k c hx hc
  refine ⟨u, ?_, hr⟩
  unfold World.cell? Loc.at
  simp only [hh, hs]
  simpa using hu

theorem HRel.someBlk (h : HRel w0 F S K N μ w) {id ver sz : Nat} {xs : List (List C)} (hk : K id = some (.row ver sz xs)) {i : Nat} (hi : i < xs.length) : ∃ b, (μ id).blk = some b := by
  obtain ⟨_, hv, hs, hr, _, hl, hm⟩ := h.obj id _ hk
  cases hb : (μ id).blk with
  | some b => exact ⟨b, rfl⟩
  | none => rw [hb] at hm; dsimp only at hm; omega

theorem HRel.rowLen (h : HRel w0 F S K N μ w) {id ver sz : Nat} {xs : List (List C)} (hk : K id = some (.row ver sz xs)) {i : Nat} {x : List C} (hx : xs[i]? = some x) : x.length = sz := by
  obtain ⟨_, hv, hs, hr, _, hl, hm⟩ := h.obj id _ hk
  exact hl x (List.mem_of_getElem? hx)

theorem HRel.ver (h : HRel w0 F S K N μ w) {id ver sz : Nat} {xs : List (List C)} (hk : K id = some (.row ver sz xs)) : (μ id).ver = ver ∧ (μ id).sz = sz ∧ id < N :=
  let ⟨hid, hv, hs, _⟩ := h.obj id _ hk
  ⟨hv, hs, hid⟩

/-- A variable is loaded: its cells are known. -/
theorem run_load_cells {t : TypeId} {d : TypeDesc} {ti : TypeInfo} (hd : P.underlying t = some d) (hi : P.info? t = some ti) {a : Addr} {cs : List C}
    (hc : ∀ k c, cs[k]? = some c → ∃ u, w.cell? (a.add k) = some u ∧ RepC S N μ w c u) (hsz : ti.size ≤ cs.length) (h1 : aggD d = false → ti.size = 1) :
    Still P S N μ w (loadVar t a) (mkV (aggD d) (cs.take ti.size)) := by
  unfold Still mkV
  cases hag : aggD d with
  | true =>
    have hcell : ∀ j, j < ti.size → w.cell? (a.add j) = some ((w.cell? (a.add j)).getD undef) := fun j hj => by
      obtain ⟨u, hu, _⟩ := hc j _ (List.getElem?_eq_getElem (show j < cs.length by omega))
      rw [hu]; rfl
    refine ⟨.agg ((List.range ti.size).map fun j => (w.cell? (a.add j)).getD undef).toArray, ?_, ?_⟩
    · simp [loadVar, run_agg hd, hag, run_size hi, run_loadCells w a ti.size _ hcell]
    · refine ⟨_, rfl, by simp [Nat.min_eq_left hsz], fun i c hi' => ?_⟩
      have hlt : i < ti.size := by
        have := (List.getElem?_eq_some_iff.1 hi').1
        simp at this
        omega
      rw [List.getElem?_take_of_lt hlt] at hi'
      obtain ⟨u, hu, hr⟩ := hc i c hi'
      exact ⟨u, by simp [hlt, hu], hr⟩
  | false =>
    have hs1 := h1 hag
    have hlt : 0 < cs.length := by omega
    obtain ⟨u, hu, hr⟩ := hc 0 _ (List.getElem?_eq_getElem hlt)
    refine ⟨u, ?_, ?_⟩
    · have : a.add 0 = a := by simp [Addr.add]
      rw [this] at hu
      simp [loadVar, run_agg hd, hag, hu]
    · rw [hs1]
      cases cs with
      | nil => simp at hlt
      | cons c cs => simpa [RepT, RepV] using hr

theorem repc_map_r {cs : List R} {k : Nat} {c : C} (h : (cs.map C.r)[k]? = some c) : ∃ r, cs[k]? = some r ∧ c = .r r := by
  rw [List.getElem?_map] at h
  cases hc : cs[k]? with
  | none => simp [hc] at h
  | some r => simp [hc] at h; exact ⟨r, rfl, h.symm⟩

theorem load_still (h : HRel w0 F S K N μ w) {t : TypeId} {d : TypeDesc} {ti : TypeInfo} (hd : P.underlying t = some d) (hi : P.info? t = some ti)
    {a : T} {v : Value} (ha : RepT S N μ w a v) {res : Res} (he : evLoad (aggD d) ti.size K N [a] = some res) (hp : res.pre) :
    res.K = K ∧ res.N = N ∧ Still P S N μ w (Instr.loadAt t v) res.val := by
  unfold evLoad at he
  split at he
  · rename_i id ver i f hargs
    injection hargs with hargs _
    subst hargs
    split at he
    · rename_i ver' sz xs hk
      cases he
      obtain ⟨hver, hix, hfs, h1⟩ := hp
      subst hver
      obtain ⟨hv, hs, hid⟩ := h.ver hk
      obtain ⟨_, hle, A, rfl, hcur⟩ := ha
      obtain ⟨b, hb, rfl⟩ := hcur hv.symm
      refine ⟨rfl, rfl, ?_⟩
      have hx : xs[i]? = some xs[i] := List.getElem?_eq_getElem hix
      have hl := h.rowLen hk hx
      have hg : xs.getD i [] = xs[i] := by simp [hix]
      rw [hg]
      have := run_load_cells (P := P) (S := S) (N := N) (μ := μ) (w := w) (t := t) hd hi (a := (μ id).at b i f) (cs := (xs[i]).drop f) (fun k c hc => by
        rw [List.getElem?_drop] at hc
        rw [loc_at_add]
        exact h.cell hk hb hx hc) (by simp; omega) h1
      simpa [Instr.loadAt, Instr.sureAddr] using this
    · cases he
  · rename_i cs hargs
    injection hargs with hargs _
    subst hargs
    cases he
    obtain ⟨hsz, h1⟩ := hp
    obtain ⟨A, rfl, hS, hc⟩ := ha
    refine ⟨rfl, rfl, ?_⟩
    have := run_load_cells (P := P) (S := S) (N := N) (μ := μ) (w := w) (t := t) hd hi (a := A) (cs := cs.map C.r) (fun k c hk => by
      obtain ⟨r, hr, rfl⟩ := repc_map_r hk
      exact hc k r hr) (by simpa using hsz) h1
    rw [List.map_take]
    simpa [Instr.loadAt, Instr.sureAddr] using this
  · cases he

theorem nilc_still (h : HRel w0 F S K N μ w) {a : T} {v : Value} (ha : RepT S N μ w a v) {res : Res} (he : evNilc K N [a] = some res) (hp : res.pre) :
    res.K = K ∧ res.N = N ∧ RepT S N μ w res.val v ∧ ((∃ A, v = .pointer (some A)) ∨ ∃ f vals, v = .func (.func f) #[] vals) := by
  unfold evNilc at he
  split at he
  · rename_i id ver i f hargs
    injection hargs with hargs _
    subst hargs
    split at he
    · rename_i ver' sz xs hk
      cases he
      obtain ⟨rfl, hix⟩ := hp
      obtain ⟨hv, hs, hid⟩ := h.ver hk
      refine ⟨rfl, rfl, ha, ?_⟩
      obtain ⟨_, hle, A, rfl, hcur⟩ := ha
      obtain ⟨b, hb, rfl⟩ := hcur hv.symm
      exact .inl ⟨_, rfl⟩
    · cases he
  · rename_i cs hargs
    injection hargs with hargs _
    subst hargs
    cases he
    refine ⟨rfl, rfl, ha, ?_⟩
    obtain ⟨A, rfl, _⟩ := ha
    exact .inl ⟨_, rfl⟩
  · rename_i f caps hargs
    injection hargs with hargs _
    subst hargs
    cases he
    refine ⟨rfl, rfl, ha, ?_⟩
    obtain ⟨vals, rfl, _⟩ := ha
    exact .inr ⟨_, _, rfl⟩
  · cases he

theorem faddr_still (h : HRel w0 F S K N μ w) {s : TypeId} {fields : Array Field} {f : Nat} {fd : Field} {ti : TypeInfo} (hs : P.underlying s = some (.struct fields)) (hf : fields[f]? = some fd)
    (hi : P.info? fd.type = some ti) (hne : ti.size ≠ 0) {a : T} {v : Value} (ha : RepT S N μ w a v) {res : Res} (he : evFaddr fd.offset K N [a] = some res) (hp : res.pre) :
    res.K = K ∧ res.N = N ∧ Still P S N μ w (Instr.fieldAt s v f) res.val := by
  have hplace : ∀ A : Addr, (fieldPlace A fd).run P w = .ok (A.add fd.offset) w := fun A => by simp [fieldPlace, run_size hi, hne]
  unfold evFaddr at he
  split at he
  · rename_i id ver i o hargs
    injection hargs with hargs _
    subst hargs
    split at he
    · rename_i ver' sz xs hk
      cases he
      obtain ⟨rfl, hix⟩ := hp
      obtain ⟨hv, hsz, hid⟩ := h.ver hk
      obtain ⟨_, hle, A, rfl, hcur⟩ := ha
      obtain ⟨b, hb, rfl⟩ := hcur hv.symm
      refine ⟨rfl, rfl, .pointer (some ((μ id).at b i (o + fd.offset))), ?_, hid, by omega, _, rfl, fun _ => ⟨b, hb, rfl⟩⟩
      simp [Instr.fieldAt, run_under hs, hf, Instr.sureAddr, hplace, loc_at_add]
    · cases he
  · rename_i cs hargs
    injection hargs with hargs _
    subst hargs
    cases he
    obtain ⟨A, rfl, hS, hc⟩ := ha
    refine ⟨rfl, rfl, .pointer (some (A.add fd.offset)), by simp [Instr.fieldAt, run_under hs, hf, Instr.sureAddr, hplace], A.add fd.offset, rfl, by rw [add_block]; exact hS, fun k r hk => ?_⟩
    rw [List.getElem?_drop] at hk
    rw [addr_add_add]
    exact hc _ r hk
  · cases he

theorem mkV_part {agg : Bool} {cs : List C} {vs : Array Value} {off size : Nat} (hsz : vs.size = cs.length) (hc : ∀ (i : Nat) (c : C), cs[i]? = some c → ∃ u, vs[i]? = some u ∧ RepC S N μ w c u)
    (ho : off + size ≤ cs.length) (h1 : agg = false → size = 1) :
    RepT S N μ w (mkV agg ((cs.drop off).take size)) (if agg then .agg (vs.extract off (off + size)) else vs.getD off undef) := by
  unfold mkV
  cases agg with
  | true =>
    refine ⟨_, rfl, by simp [hsz]; omega, fun i c hi => ?_⟩
    have hlt : i < size := by
      have := (List.getElem?_eq_some_iff.1 hi).1
      simp at this
      omega
    rw [List.getElem?_take_of_lt hlt, List.getElem?_drop] at hi
    obtain ⟨u, hu, hr⟩ := hc _ c hi
    refine ⟨u, ?_, hr⟩
    rw [Array.getElem?_extract]
    have : i < min (off + size) vs.size - off := by omega
    simp [this, hu]
  | false =>
    have hs1 := h1 rfl
    subst hs1
    have hlt : off < cs.length := by omega
    obtain ⟨u, hu, hr⟩ := hc off _ (List.getElem?_eq_getElem hlt)
    have e : (cs.drop off).take 1 = [cs[off]] := by
      rw [List.drop_eq_getElem_cons hlt]; rfl
    rw [e]
    simp only [Bool.false_eq_true, if_false, List.headD_cons]
    rw [Array.getD_eq_getD_getElem?, hu]
    exact hr

theorem run_part {t : TypeId} {d : TypeDesc} {ti : TypeInfo} (hd : P.underlying t = some d) (hi : P.info? t = some ti) {vs : Array Value} {off : Nat} (ho : off + ti.size ≤ vs.size) (h1 : aggD d = false → ti.size = 1) :
    (part t vs off).run P w = .ok (if aggD d then .agg (vs.extract off (off + ti.size)) else vs.getD off undef) w := by
  cases hag : aggD d with
  | true => simp [part, run_agg hd, hag, run_size hi]
  | false =>
    have hlt : off < vs.size := by have := h1 hag; omega
    simp [part, run_agg hd, hag, hlt]

theorem field_still {s : TypeId} {fields : Array Field} {f : Nat} {fd : Field} {ti : TypeInfo} {d : TypeDesc} (hs : P.underlying s = some (.struct fields)) (hf : fields[f]? = some fd)
    (hi : P.info? fd.type = some ti) (hd : P.underlying fd.type = some d) {a : T} {v : Value} (ha : RepT S N μ w a v) {res : Res} (he : evField (aggD d) fd.offset ti.size K N [a] = some res) (hp : res.pre) :
    res.K = K ∧ res.N = N ∧ Still P S N μ w (Instr.field s v f) res.val := by
  unfold evField at he
  split at he
  · rename_i cs hargs
    injection hargs with hargs _
    subst hargs
    cases he
    obtain ⟨ho, h1⟩ := hp
    obtain ⟨vs, rfl, hsz, hc⟩ := ha
    refine ⟨rfl, rfl, _, ?_, mkV_part hsz hc ho h1⟩
    simp only [Instr.field, Sem.run_bind, run_under hs, Result.andThen, hf, asAgg, Sem.run_pure]
    exact run_part hd hi (by omega) h1
  · cases he

theorem iaddr_still (h : HRel w0 F S K N μ w) {t e : TypeId} {ti : TypeInfo} (ht : P.underlying t = some (.slice e)) (hi : P.info? e = some ti) {a b : T} {v u : Value} (ha : RepT S N μ w a v) (hb : RepT S N μ w b u)
    {res : Res} (he : evIaddr ti.size K N [a, b] = some res) (hp : res.pre) : res.K = K ∧ res.N = N ∧ Still P S N μ w (Instr.indexAt t v u) res.val := by
  unfold evIaddr at he
  split at he
  · rename_i sz xs k i hargs
    simp only [List.cons.injEq, and_true] at hargs
    obtain ⟨rfl, rfl⟩ := hargs
    cases he
    obtain ⟨hsz, h0, hlt⟩ := hp
    cases hb
    cases ha with
    | rd g h1 h2 h3 h4 h5 =>
      rename_i A cap
      have hlt' : i.toNat < xs.length := by omega
      obtain ⟨ad, rfl, hS, hcell⟩ := h4 (by intro e; subst e; simp at hlt')
      have hx : xs[i.toNat]? = some xs[i.toNat] := List.getElem?_eq_getElem hlt'
      have hg : xs.getD i.toNat [] = xs[i.toNat] := by simp [hlt']
      refine ⟨rfl, rfl, .pointer (some (ad.add (i.toNat * ti.size))), ?_, ?_⟩
      · simp [Instr.indexAt, asIntOf, run_under ht, h0, hlt, run_size hi]
      · rw [hg]
        refine ⟨_, rfl, by rw [add_block]; exact hS, fun k r hk => ⟨g i.toNat k, ?_, h5 _ _ k r hx hk⟩⟩
        rw [addr_add_add, hsz]
        exact hcell _ _ k r hx hk
  · rename_i id ver off len k i hargs
    simp only [List.cons.injEq, and_true] at hargs
    obtain ⟨rfl, rfl⟩ := hargs
    split at he
    · rename_i ver' sz xs hk
      cases he
      obtain ⟨hsz, rfl, h0, hlt, hlen⟩ := hp
      cases hb
      obtain ⟨hv, hs, hid⟩ := h.ver hk
      obtain ⟨_, hle, A, cap, rfl, hcur⟩ := ha
      obtain ⟨hcap, hroom, hA⟩ := hcur hv.symm
      obtain ⟨b, hb, rfl⟩ := hA (by omega)
      refine ⟨rfl, rfl, .pointer (some ((μ id).at b (off + i.toNat) 0)), ?_, hid, by omega, _, rfl, fun _ => ⟨b, hb, rfl⟩⟩
      have : ((μ id).at b off 0).add (i.toNat * ti.size) = (μ id).at b (off + i.toNat) 0 := by
        rw [loc_at_add]; unfold Loc.at; rw [hsz, hs, Nat.add_mul]; simp [Nat.add_assoc]
      simp [Instr.indexAt, asIntOf, run_under ht, h0, hlt, run_size hi, this]
    · cases he
  · cases he

theorem iarr_still (h : HRel w0 F S K N μ w) {t e : TypeId} {n : Nat} {ti : TypeInfo} (ht : P.underlying t = some (.array n e)) (hi : P.info? e = some ti) {a b : T} {v u : Value} (ha : RepT S N μ w a v) (hb : RepT S N μ w b u)
    {res : Res} (he : evIarr n ti.size K N [a, b] = some res) (hp : res.pre) : res.K = K ∧ res.N = N ∧ Still P S N μ w (Instr.indexAt t v u) res.val := by
  unfold evIarr at he
  split at he
  · rename_i id ver i f k j hargs
    simp only [List.cons.injEq, and_true] at hargs
    obtain ⟨rfl, rfl⟩ := hargs
    split at he
    · rename_i ver' sz xs hk
      cases he
      obtain ⟨rfl, hix, h0, hlt⟩ := hp
      cases hb
      obtain ⟨hv, hs, hid⟩ := h.ver hk
      obtain ⟨_, hle, A, rfl, hcur⟩ := ha
      obtain ⟨b, hb, rfl⟩ := hcur hv.symm
      refine ⟨rfl, rfl, .pointer (some ((μ id).at b i (f + j.toNat * ti.size))), ?_, hid, by omega, _, rfl, fun _ => ⟨b, hb, rfl⟩⟩
      simp [Instr.indexAt, asIntOf, run_under ht, h0, hlt, run_size hi, loc_at_add, Instr.sureAddr]
    · cases he
  · cases he

theorem index_still {t e : TypeId} {n : Nat} {ti : TypeInfo} {d : TypeDesc} (ht : P.underlying t = some (.array n e)) (hi : P.info? e = some ti) (hd : P.underlying e = some d) {a b : T} {v u : Value} (ha : RepT S N μ w a v) (hb : RepT S N μ w b u)
    {res : Res} (he : evIndex n (aggD d) ti.size K N [a, b] = some res) (hp : res.pre) : res.K = K ∧ res.N = N ∧ Still P S N μ w (Instr.index t v u) res.val := by
  unfold evIndex at he
  split at he
  · rename_i cs k j hargs
    simp only [List.cons.injEq, and_true] at hargs
    obtain ⟨rfl, rfl⟩ := hargs
    cases he
    obtain ⟨h0, hlt, hn, h1⟩ := hp
    cases hb
    obtain ⟨vs, rfl, hsz, hc⟩ := ha
    have hb : j.toNat * ti.size + ti.size ≤ cs.length := by
      have h2 : j.toNat + 1 ≤ n := by omega
      have h3 := Nat.mul_le_mul_right ti.size h2
      rw [Nat.add_mul] at h3
      omega
    refine ⟨rfl, rfl, _, ?_, mkV_part hsz hc hb h1⟩
    simp only [Instr.index, asIntOf, Sem.run_bind, Sem.run_pure, run_under ht, Result.andThen, h0, hlt, and_self, if_true, run_size hi]
    exact run_part hd hi (by omega) h1
  · cases he

theorem sidx_still {t : TypeId} (ht : P.underlying t = some .string) {a b : T} {v u : Value} (ha : RepT S N μ w a v) (hb : RepT S N μ w b u)
    {res : Res} (he : evSidx K N [a, b] = some res) (hp : res.pre) : res.K = K ∧ res.N = N ∧ Still P S N μ w (Instr.index t v u) res.val := by
  unfold evSidx at he
  split at he
  · rename_i s k j hargs
    simp only [List.cons.injEq, and_true] at hargs
    obtain ⟨rfl, rfl⟩ := hargs
    cases he
    obtain ⟨h0, hlt⟩ := hp
    cases hb
    cases ha
    have hlt' : j.toNat < s.size := by omega
    have hd : s.data.getD j.toNat 0 = s[j.toNat] := by
      simp only [Array.getD]
      rw [dif_pos (show j.toNat < s.data.size from hlt')]
      rfl
    have he : s[j.toNat]? = some s[j.toNat] := getElem?_pos s j.toNat hlt'
    refine ⟨rfl, rfl, .int .u8 (s.data.getD j.toNat 0).toNat, ?_, .val rfl⟩
    rw [hd]
    simp [Instr.index, asIntOf, run_under ht, h0, he]
  · cases he

end
end Go.Proofs.Yticflcpmlbaafaa.AL

/- AL: operations that leave memory alone, the rest of them. -/
set_option linter.unusedSimpArgs false
set_option linter.unusedVariables false
namespace Go.Proofs.Yticflcpmlbaafaa.AL
open Go

section
variable {P : Program} {w0 : World} {F S : Nat → Prop} {K : KMap} {N : Nat} {μ : Nat → Loc} {w : World}

theorem rep_val {v u : Value} (h : RepT S N μ w (tV v) u) : u = v ∧ one v := by
  cases h with
  | val h => exact ⟨rfl, h⟩

theorem still_val {x : Sem Value} {v : Value} (h : x.run P w = .ok v w) (h1 : one v) : Still P S N μ w x (tV v) := ⟨v, h, .val h1⟩

theorem beq_dec (m n : Int) : (m == n) = decide (m = n) := by
  by_cases e : m = n <;> simp [e]

theorem binint_still {op : BinOp} {t : TypeId} {k k' : IntKind} {m n : Int} {res : Res} (he : evBin op K N [tV (.int k m), tV (.int k' n)] = some res) (hp : res.pre) :
    res.K = K ∧ res.N = N ∧ Still P S N μ w (binOp op t (.int k m) (.int k' n)) res.val := by
  cases op <;> first | (simp [evBin] at he; done) | (
    simp only [evBin, stillIf, Option.some.injEq] at he
    subst he
    refine ⟨rfl, rfl, ?_⟩
    first
      | (cases hp; refine ⟨_, ?_, .val rfl⟩; simp [binOp, Op.intArith, Op.intBits, Op.intCmp]; done)
      | (obtain ⟨rfl, hne⟩ := hp; refine ⟨_, ?_, .val rfl⟩; simp [binOp, Op.intDiv, hne]; done)
      | (refine ⟨_, ?_, .val rfl⟩; have hp' : ¬ n < 0 := Int.not_lt.2 hp; simp [binOp, Op.shift, hp']; done)
      | (cases hp; refine ⟨_, ?_, .val rfl⟩; simp [binOp, Op.intCmp, beq_dec, bne]; done))

theorem str_dec (m n : ByteArray) : (m.toList == n.toList) = decide (m = n) := by
  have h1 : ∀ x : ByteArray, x.toList = x.data.toList := fun x => ByteArray.toList_eq x
  by_cases e : m = n
  · subst e; simp
  · have : m.toList ≠ n.toList := fun h => e (by rw [h1, h1] at h; cases m; cases n; simp_all [Array.toList_inj])
    rw [beq_eq_false_iff_ne.2 this]
    simp [e]

theorem binstr_still {op : BinOp} {t : TypeId} {m n : ByteArray} {res : Res} (he : evBin op K N [tV (.string m), tV (.string n)] = some res) (hp : res.pre) :
    res.K = K ∧ res.N = N ∧ Still P S N μ w (binOp op t (.string m) (.string n)) res.val := by
  cases op <;> first | (simp [evBin] at he; done) | (
    simp only [evBin, still, Option.some.injEq] at he
    subst he
    refine ⟨rfl, rfl, _, ?_, .val rfl⟩
    simp [binOp, Op.stringOp, str_dec])

theorem run_equal_bool {d : Nat} {t : TypeId} (ht : P.underlying t = some .bool) (m n : Bool) : (Op.equalIn (d + 1) t (.bool m) (.bool n)).run P w = .ok (m == n) w := by
  simp only [Op.equalIn, Sem.run_bind, run_under ht, Result.andThen, Sem.run_pure]
theorem run_equal_int {d : Nat} {t : TypeId} {k : IntKind} (ht : P.underlying t = some (.int k)) (q : IntKind) (m n : Int) : (Op.equalIn (d + 1) t (.int q m) (.int q n)).run P w = .ok (m == n) w := by
  simp only [Op.equalIn, Sem.run_bind, run_under ht, Result.andThen, Sem.run_pure, if_true]
theorem run_equal_str {d : Nat} {t : TypeId} (ht : P.underlying t = some .string) (m n : ByteArray) : (Op.equalIn (d + 1) t (.string m) (.string n)).run P w = .ok (m == n) w := by
  simp only [Op.equalIn, Sem.run_bind, run_under ht, Result.andThen, Sem.run_pure]

theorem binbool_still {op : BinOp} {t : TypeId} {x y : Operand} (ht : P.underlying t = some .bool) {a b : T} {v u : Value} (ha : RepT S N μ w a v) (hb : RepT S N μ w b u)
    {res : Res} (he : evEqb op K N [a, b] = some res) (hp : res.pre) :
    res.K = K ∧ res.N = N ∧ Still P S N μ w (do eqGuard op t x y v u; binOp op t v u) res.val := by
  unfold evEqb at he
  split at he
  · rename_i m n hargs
    simp only [List.cons.injEq, and_true] at hargs
    obtain ⟨rfl, rfl⟩ := hargs
    obtain ⟨rfl, _⟩ := rep_val ha
    obtain ⟨rfl, _⟩ := rep_val hb
    cases op <;> first | (simp at he; done) | (
      simp only [still, Option.some.injEq] at he
      subst he
      refine ⟨rfl, rfl, _, ?_, .val rfl⟩
      rw [eqGuard_at_bool]
      have h1 : ∀ m n, (Op.equal t (.bool m) (.bool n)).run P w = .ok (m == n) w := fun m n => run_equal_bool (d := 9999) ht m n
      simp only [binOp, Sem.run_bind, Sem.run_pure, Result.andThen, h1]
      try rfl)
  · cases he

theorem bin_still {op : BinOp} {t : TypeId} {x y : Operand} {a b : T} {v u : Value}
    (ha : RepT S N μ w a v) (hb : RepT S N μ w b u) {res : Res} (he : evBin op K N [a, b] = some res) (hp : res.pre) :
    res.K = K ∧ res.N = N ∧ Still P S N μ w (do eqGuard op t x y v u; binOp op t v u) res.val := by
  unfold evBin at he
  split at he
  · rename_i k m k' n hargs
    simp only [List.cons.injEq, and_true] at hargs
    obtain ⟨rfl, rfl⟩ := hargs
    obtain ⟨rfl, _⟩ := rep_val ha
    obtain ⟨rfl, _⟩ := rep_val hb
    rw [eqGuard_at_int]
    exact binint_still (by unfold evBin; exact he) hp
  · rename_i m n hargs
    simp only [List.cons.injEq, and_true] at hargs
    obtain ⟨rfl, rfl⟩ := hargs
    obtain ⟨rfl, _⟩ := rep_val ha
    obtain ⟨rfl, _⟩ := rep_val hb
    rw [eqGuard_at_string]
    exact binstr_still (by unfold evBin; exact he) hp
  · cases he

theorem un_still {op : UnOp} {a : T} {v : Value} (ha : RepT S N μ w a v) {res : Res} (he : evUn op K N [a] = some res) (hp : res.pre) :
    res.K = K ∧ res.N = N ∧ Still P S N μ w (Op.unary op v) res.val := by
  unfold evUn at he
  split at he
  · rename_i m hargs
    simp only [List.cons.injEq, and_true] at hargs
    subst hargs
    obtain ⟨rfl, _⟩ := rep_val ha
    cases op <;> first | (simp at he; done) | (
      simp only [still, Option.some.injEq] at he
      subst he
      exact ⟨rfl, rfl, _, rfl, .val rfl⟩)
  · rename_i k m hargs
    simp only [List.cons.injEq, and_true] at hargs
    subst hargs
    obtain ⟨rfl, _⟩ := rep_val ha
    cases op <;> first | (simp at he; done) | (
      simp only [still, Option.some.injEq] at he
      subst he
      exact ⟨rfl, rfl, _, rfl, .val rfl⟩)
  · cases he

theorem pick_still {a b c : T} {v u x : Value} (hc : RepT S N μ w c x) (ha : RepT S N μ w a v) (hb : RepT S N μ w b u) {res : Res} (he : evPick K N [c, a, b] = some res) (hp : res.pre) :
    res.K = K ∧ res.N = N ∧ Still P S N μ w (do pure (if ← asBool x then v else u)) res.val := by
  unfold evPick at he
  split at he
  · rename_i q m n hargs
    simp only [List.cons.injEq, and_true] at hargs
    obtain ⟨rfl, rfl, rfl⟩ := hargs
    obtain ⟨rfl, _⟩ := rep_val ha
    obtain ⟨rfl, _⟩ := rep_val hb
    obtain ⟨rfl, _⟩ := rep_val hc
    simp only [still, Option.some.injEq] at he
    subst he
    refine ⟨rfl, rfl, .bool (bif q then m else n), ?_, .val rfl⟩
    cases q <;> simp [asBool]
  · rename_i q a' b' _ hargs
    simp only [List.cons.injEq, and_true] at hargs
    obtain ⟨rfl, rfl, rfl⟩ := hargs
    obtain ⟨rfl, _⟩ := rep_val hc
    simp only [still, Option.some.injEq] at he
    subst he
    refine ⟨rfl, rfl, ?_⟩
    cases q
    · exact ⟨u, by simp [asBool], hb⟩
    · exact ⟨v, by simp [asBool], ha⟩
  · cases he

theorem conv_still {s t : TypeId} {q k : IntKind} (hs : P.underlying s = some (.int q)) (ht : P.underlying t = some (.int k)) {a : T} {v : Value} (ha : RepT S N μ w a v) {res : Res} (he : evConv k K N [a] = some res) (hp : res.pre) :
    res.K = K ∧ res.N = N ∧ Still P S N μ w (convert s t v) res.val := by
  unfold evConv at he
  split at he
  · rename_i k' m hargs
    simp only [List.cons.injEq, and_true] at hargs
    subst hargs
    obtain ⟨rfl, _⟩ := rep_val ha
    simp only [still, Option.some.injEq] at he
    subst he
    exact ⟨rfl, rfl, _, by simp [convert, run_under hs, run_under ht, Conv.intToInt], .val rfl⟩
  · cases he

theorem extract_still {i : Nat} {a : T} {v : Value} (ha : RepT S N μ w a v) {res : Res} (he : evExtract i K N [a] = some res) (hp : res.pre) :
    res.K = K ∧ res.N = N ∧ Still P S N μ w (Instr.extract v i) res.val := by
  unfold evExtract at he
  split at he
  · rename_i ds hargs
    simp only [List.cons.injEq, and_true] at hargs
    subst hargs
    cases he
    obtain ⟨vs, rfl, hsz, hc⟩ := ha
    obtain ⟨u, hu, hr⟩ := hc i _ (List.getElem?_eq_getElem hp)
    have hp' : i < ds.length := hp
    refine ⟨rfl, rfl, u, by simp [Instr.extract, hu], ?_⟩
    simpa [RepT, hp'] using hr
  · cases he

theorem len_still (h : HRel w0 F S K N μ w) {k : Nat} {d : TypeDesc} {t ty : TypeId} (ht : P.underlying t = some d) (h0 : k = 0 → d = .string) (h1 : k = 1 → ∃ e, d = .slice e) (h2 : k = 2 → ∃ a e, d = .map a e) {ats : Array TypeId} (hats : ats[0]? = some t)
    {a : T} {v : Value} (ha : RepT S N μ w a v) {res : Res} (he : evLen k K N [a] = some res) (hp : res.pre) :
    res.K = K ∧ res.N = N ∧ Still P S N μ w (Builtin.len_ ats ty #[v]) res.val := by
  unfold evLen at he
  split at he
  · rename_i sz xs hargs
    simp only [List.cons.injEq, and_true] at hargs
    subst hargs
    simp only [stillIf, Option.some.injEq] at he
    subst he
    obtain ⟨e, rfl⟩ := h1 hp
    cases ha with
    | rd g g1 g2 g3 g4 g5 => exact ⟨rfl, rfl, _, by simp [Builtin.len_, hats, run_under ht, goInt], .val rfl⟩
  · rename_i id ver off len hargs
    simp only [List.cons.injEq, and_true] at hargs
    subst hargs
    simp only [stillIf, Option.some.injEq] at he
    subst he
    obtain ⟨e, rfl⟩ := h1 hp
    obtain ⟨_, _, A, cap, rfl, _⟩ := ha
    exact ⟨rfl, rfl, _, by simp [Builtin.len_, hats, run_under ht, goInt], .val rfl⟩
  · rename_i s hargs
    simp only [List.cons.injEq, and_true] at hargs
    subst hargs
    simp only [stillIf, Option.some.injEq] at he
    subst he
    obtain ⟨rfl, _⟩ := rep_val ha
    obtain rfl := h0 hp
    exact ⟨rfl, rfl, _, by simp [Builtin.len_, hats, run_under ht, goInt], .val rfl⟩
  · rename_i A n c hargs
    simp only [List.cons.injEq, and_true] at hargs
    subst hargs
    simp only [stillIf, Option.some.injEq] at he
    subst he
    obtain ⟨rfl, _⟩ := rep_val ha
    obtain ⟨e, rfl⟩ := h1 hp
    exact ⟨rfl, rfl, _, by simp [Builtin.len_, hats, run_under ht, goInt], .val rfl⟩
  · rename_i id hargs
    simp only [List.cons.injEq, and_true] at hargs
    subst hargs
    split at he
    · rename_i es hk
      simp only [stillIf, Option.some.injEq] at he
      subst he
      obtain ⟨k, e, rfl⟩ := h2 hp
      obtain ⟨hid, A, rfl, hcur⟩ := ha
      obtain ⟨_, hv, b, arr, clock, hb, hh, hsz, _⟩ := h.obj id _ hk
      have hA := hcur hv
      rw [hb] at hA
      subst hA
      refine ⟨rfl, rfl, _, ?_, .val rfl⟩
      simp [Builtin.len_, hats, run_under ht, goInt, getObj, Sem.run, hh, hsz]
    · cases he
  · cases he

theorem max2_int (k : IntKind) (m n : Int) : (Builtin.max2 (.int k m) (.int k n)).run P w = .ok (.int k (if n > m then n else m)) w := by simp [Builtin.max2]
theorem min2_int (k : IntKind) (m n : Int) : (Builtin.min2 (.int k m) (.int k n)).run P w = .ok (.int k (if n < m then n else m)) w := by simp [Builtin.min2]

theorem maxmin_still {mx : Bool} {ats : Array TypeId} {ty : TypeId} {args : List T} {vs : List Value} (hl : vs.length = args.length) (ha : ∀ (i : Nat) (d : T), args[i]? = some d → ∃ v, vs[i]? = some v ∧ RepT S N μ w d v)
    {res : Res} (he : evMaxMin mx K N args = some res) (hp : res.pre) :
    res.K = K ∧ res.N = N ∧ Still P S N μ w (if mx then Builtin.max_ ats ty vs.toArray else Builtin.min_ ats ty vs.toArray) res.val := by
  unfold evMaxMin at he
  split at he
  · rename_i k m k' n
    cases he
    cases hp
    obtain ⟨v0, h0, r0⟩ := ha 0 _ rfl
    obtain ⟨v1, h1, r1⟩ := ha 1 _ rfl
    obtain ⟨rfl, _⟩ := rep_val r0
    obtain ⟨rfl, _⟩ := rep_val r1
    obtain ⟨x, y, rfl⟩ : ∃ x y, vs = [x, y] := by
      match vs, hl with
      | [x, y], _ => exact ⟨x, y, rfl⟩
    simp at h0 h1
    subst h0 h1
    refine ⟨rfl, rfl, ?_⟩
    cases mx
    · exact ⟨_, by simp [Builtin.min_, min2_int], .val rfl⟩
    · exact ⟨_, by simp [Builtin.max_, max2_int], .val rfl⟩
  · rename_i k m k' n k'' q
    cases he
    obtain ⟨rfl, rfl⟩ := hp
    obtain ⟨v0, h0, r0⟩ := ha 0 _ rfl
    obtain ⟨v1, h1, r1⟩ := ha 1 _ rfl
    obtain ⟨v2, h2, r2⟩ := ha 2 _ rfl
    obtain ⟨rfl, _⟩ := rep_val r0
    obtain ⟨rfl, _⟩ := rep_val r1
    obtain ⟨rfl, _⟩ := rep_val r2
    obtain ⟨x, y, z, rfl⟩ : ∃ x y z, vs = [x, y, z] := by
      match vs, hl with
      | [x, y, z], _ => exact ⟨x, y, z, rfl⟩
    simp at h0 h1 h2
    subst h0 h1 h2
    refine ⟨rfl, rfl, ?_⟩
    cases mx
    · exact ⟨_, by simp [Builtin.min_, min2_int], .val rfl⟩
    · exact ⟨_, by simp [Builtin.max_, max2_int], .val rfl⟩
  · cases he

theorem mkfn_still {f : FuncId} {args : List T} {vs : List Value} (hl : vs.length = args.length) (ha : ∀ (i : Nat) (d : T), args[i]? = some d → ∃ v, vs[i]? = some v ∧ RepT S N μ w d v)
    {res : Res} (he : evMkfn f K N args = some res) (hp : res.pre) :
    res.K = K ∧ res.N = N ∧ Still P S N μ w (Instr.makeFunc (.func f) #[] vs.toArray) res.val := by
  unfold evMkfn at he
  split at he
  · rename_i ids hids
    cases he
    refine ⟨rfl, rfl, _, rfl, vs.toArray, rfl, ?_, fun i id hi => ?_⟩
    · have : ids.length = args.length := by
        clear ha hl
        induction args generalizing ids with
        | nil => simp at hids; simp [← hids]
        | cons a l ih =>
          simp only [List.mapM_cons] at hids
          cases hb : isBoxPtr a with
          | none => simp [hb] at hids
          | some x =>
            cases hm : l.mapM isBoxPtr with
            | none => simp [hb, hm] at hids
            | some r => simp [hb, hm] at hids; subst hids; simp [ih _ hm]
      simp [hl, this]
    · have key : ∀ (l : List T) (ids : List Nat), l.mapM isBoxPtr = some ids → ∀ (i id : Nat), ids[i]? = some id → l[i]? = some (tC (.ptr id 0 0 0)) := by
        intro l
        induction l with
        | nil => intro ids hm i id hi; simp at hm; subst hm; simp at hi
        | cons a l ih =>
          intro ids hm i id hi
          simp only [List.mapM_cons] at hm
          cases hb : isBoxPtr a with
          | none => simp [hb] at hm
          | some x =>
            cases hm' : l.mapM isBoxPtr with
            | none => simp [hb, hm'] at hm
            | some r =>
              simp [hb, hm'] at hm
              subst hm
              cases i with
              | zero =>
                simp at hi
                subst hi
                unfold isBoxPtr at hb
                split at hb
                · simp at hb; subst hb; rfl
                · cases hb
              | succ i => simpa using ih r hm' i id (by simpa using hi)
      obtain ⟨v, hv, hr⟩ := ha i _ (key args ids hids i id hi)
      obtain ⟨hid, _, A, rfl, hcur⟩ := hr
      exact ⟨hid, A, by simpa using hv, fun h0 => hcur h0.symm⟩
  · cases he
end
end Go.Proofs.Yticflcpmlbaafaa.AL

/- AL: equality of structs of plain cells, keys of maps, look-ups, slices of slices, composites. -/
set_option linter.unusedSimpArgs false
set_option linter.unusedVariables false
namespace Go.Proofs.Yticflcpmlbaafaa.AL
open Go
section
variable {P : Program} {w0 : World} {F S : Nat → Prop} {K : KMap} {N : Nat} {μ : Nat → Loc} {w : World}

def eqAll (l : List (Nat × Nat)) (a b : Array Value) : Bool := l.all fun x => plainEq (a.getD x.1 undef) (b.getD x.1 undef)

/-- Cells of these kinds lie at these places. -/
def Tagged (l : List (Nat × Nat)) (a : Array Value) : Prop := ∀ o t, (o, t) ∈ l → t ≠ 0 ∧ ∃ v, a[o]? = some v ∧ tagOf v = t

theorem tagOf_int {v : Value} {k : IntKind} (h : tagOf v = kindNo k) : ∃ n, v = .int k n := by
  cases v with
  | int q n =>
    have : q = k := by cases q <;> cases k <;> simp [tagOf, kindNo] at h ⊢
    subst this
    exact ⟨n, rfl⟩
  | string s => cases k <;> simp [tagOf, kindNo] at h
  | bool b => cases k <;> simp [tagOf, kindNo] at h
  | _ => cases k <;> simp [tagOf, kindNo] at h
theorem kindNo_ge (k : IntKind) : 3 ≤ kindNo k := by cases k <;> simp [kindNo]
theorem tagOf_str {v : Value} (h : tagOf v = 1) : ∃ s, v = .string s := by
  cases v with
  | string s => exact ⟨s, rfl⟩
  | int q n => have := kindNo_ge q; simp [tagOf] at h; omega
  | _ => simp [tagOf] at h
theorem tagOf_bool {v : Value} (h : tagOf v = 2) : ∃ s, v = .bool s := by
  cases v with
  | bool s => exact ⟨s, rfl⟩
  | int q n => have := kindNo_ge q; simp [tagOf] at h; omega
  | _ => simp [tagOf] at h

theorem beq_str (m n : ByteArray) : (m == n) = decide (m = n) := by rw [beq_toListBytes, str_dec]

theorem run_part1 {t : TypeId} {d : TypeDesc} (hd : P.underlying t = some d) (hag : aggD d = false) {a : Array Value} {o : Nat} {v : Value} (h : a[o]? = some v) : (part t a o).run P w = .ok v w := by
  simp [part, run_agg hd, hag, h]

theorem getD_of {a : Array Value} {o : Nat} {v : Value} (h : a[o]? = some v) : a.getD o undef = v := by
  rw [Array.getD_eq_getD_getElem?, h]; rfl

theorem run_eqFields (d : Nat) (a b : Array Value) : ∀ (fs : List Field) (l : List (Nat × Nat)), flatFields P fs = some l → Tagged l a → Tagged l b →
    (forIn fs ((none : Option Bool), ()) fun (f : Field) __s =>
              if f.name ≠ "_" then do
                let __do_lift ← part f.type a f.offset
                let __do_lift_1 ← part f.type b f.offset
                let __do_lift ← Op.equalIn (d + 1) f.type __do_lift __do_lift_1
                if (!__do_lift) = true then pure (ForInStep.done (some false, ()))
                  else pure (ForInStep.yield (none, ()))
              else pure (ForInStep.yield (none, ()))).run P w = .ok (if eqAll l a b then (none, ()) else (some false, ())) w
  | [], l, hf, ha, hb => by
    simp [flatFields] at hf
    subst hf
    rfl
  | f :: fs, l, hf, ha, hb => by
    have hn : f.name ≠ "_" := fun e => by simp [flatFields, e] at hf
    obtain ⟨d', hd', tag, r, hr, rfl, hag, heq⟩ : ∃ d', P.underlying f.type = some d' ∧ ∃ tag r, flatFields P fs = some r ∧ l = (f.offset, tag) :: r ∧ aggD d' = false ∧
        ∀ u v : Value, tagOf u = tag → tagOf v = tag → (Op.equalIn (d + 1) f.type u v).run P w = .ok (plainEq u v) w := by
      simp only [flatFields, if_neg hn] at hf
      split at hf
      · rename_i k r h1 h2
        cases hf
        refine ⟨_, h1, _, _, h2, rfl, rfl, fun u v hu hv => ?_⟩
        obtain ⟨m, rfl⟩ := tagOf_int hu
        obtain ⟨n, rfl⟩ := tagOf_int hv
        exact run_equal_int h1 _ m n
      · rename_i r h1 h2
        cases hf
        refine ⟨_, h1, _, _, h2, rfl, rfl, fun u v hu hv => ?_⟩
        obtain ⟨m, rfl⟩ := tagOf_bool hu
        obtain ⟨n, rfl⟩ := tagOf_bool hv
        exact run_equal_bool h1 m n
      · rename_i r h1 h2
        cases hf
        refine ⟨_, h1, _, _, h2, rfl, rfl, fun u v hu hv => ?_⟩
        obtain ⟨m, rfl⟩ := tagOf_str hu
        obtain ⟨n, rfl⟩ := tagOf_str hv
        rw [run_equal_str h1 m n, beq_str]; rfl
      · cases hf
    obtain ⟨_, u, hu, htu⟩ := ha f.offset tag (by simp)
    obtain ⟨_, v, hv, htv⟩ := hb f.offset tag (by simp)
    have ih := run_eqFields d a b fs r hr (fun o t h => ha o t (by simp [h])) (fun o t h => hb o t (by simp [h]))
    simp only [List.forIn_cons, Sem.run_bind, ne_eq, hn, not_false_eq_true, if_true, run_part1 hd' hag hu, run_part1 hd' hag hv, Result.andThen, heq u v htu htv]
    have hall : eqAll ((f.offset, tag) :: r) a b = (plainEq u v && eqAll r a b) := by simp [eqAll, hu, hv]
    rw [hall]
    cases hp : plainEq u v
    · simp
    · simp only [Bool.not_true, Bool.false_eq_true, if_false, Sem.run_pure, Bool.true_and]
      simpa using ih

theorem run_equal_flat {d : Nat} {t : TypeId} {fs : Array Field} (ht : P.underlying t = some (.struct fs)) (hs : P.stoodInHeld t = false) {l : List (Nat × Nat)} (hl : flatFields P fs.toList = some l)
    {a b : Array Value} (ha : Tagged l a) (hb : Tagged l b) : (Op.equalIn (d + 1 + 1) t (.agg a) (.agg b)).run P w = .ok (eqAll l a b) w := by
  have h := run_eqFields (P := P) (w := w) d a b fs.toList l hl ha hb
  rw [Array.forIn_toList] at h
  generalize d + 1 = D at h ⊢
  simp only [Op.equalIn, Sem.run_bind, run_under ht, Result.andThen, Sem.run_pure, run_program, hs, Bool.false_eq_true, if_false, h]
  cases eqAll l a b <;> rfl

theorem run_checkFields (e : Bool) (d : Nat) (a : Array Value) : ∀ (fs : List Field) (l : List (Nat × Nat)), flatFields P fs = some l → Tagged l a →
    (forIn fs PUnit.unit fun (f : Field) __s =>
          if f.name ≠ "_" then do
            let __do_lift ← part f.type a f.offset
            Instr.checkKey e (d + 1) f.type __do_lift
            pure (ForInStep.yield PUnit.unit)
          else pure (ForInStep.yield PUnit.unit)).run P w = .ok PUnit.unit w
  | [], l, hf, ha => by simp
  | f :: fs, l, hf, ha => by
    have hn : f.name ≠ "_" := fun e => by simp [flatFields, e] at hf
    obtain ⟨d', hd', tag, r, hr, rfl, hag, heq⟩ : ∃ d', P.underlying f.type = some d' ∧ ∃ tag r, flatFields P fs = some r ∧ l = (f.offset, tag) :: r ∧ aggD d' = false ∧
        ∀ u : Value, (Instr.checkKey e (d + 1) f.type u).run P w = .ok () w := by
      simp only [flatFields, if_neg hn] at hf
      split at hf
      all_goals first
        | (rename_i k r h1 h2; cases hf; exact ⟨_, h1, _, _, h2, rfl, rfl, fun u => by simp [Instr.checkKey, run_under h1]⟩)
        | (rename_i r h1 h2; cases hf; exact ⟨_, h1, _, _, h2, rfl, rfl, fun u => by simp [Instr.checkKey, run_under h1]⟩)
        | cases hf
    obtain ⟨_, u, hu, htu⟩ := ha f.offset tag (by simp)
    have ih := run_checkFields e d a fs r hr (fun o t h => ha o t (by simp [h]))
    simp only [List.forIn_cons, Sem.run_bind, ne_eq, hn, not_false_eq_true, if_true, run_part1 hd' hag hu, Result.andThen, heq u, Sem.run_pure]
    simpa using ih

theorem run_checkKey_flat {e : Bool} {d : Nat} {t : TypeId} {fs : Array Field} (ht : P.underlying t = some (.struct fs)) {l : List (Nat × Nat)} (hl : flatFields P fs.toList = some l)
    {a : Array Value} (ha : Tagged l a) : (Instr.checkKey e (d + 1 + 1) t (.agg a)).run P w = .ok () w := by
  have h := run_checkFields (P := P) (w := w) e d a fs.toList l hl ha
  rw [Array.forIn_toList] at h
  generalize d + 1 = D at h ⊢
  simp only [Instr.checkKey, Sem.run_bind, run_under ht, Result.andThen, h, Sem.run_pure]

/-- Keys of one kind: what keyOk says of struct keys. -/
theorem keyOk_st {ts : List Nat} {v : Value} (h : keyOk (.st ts) v = true) : ∃ a, v = .agg a ∧ a.toList.map tagOf = ts := by
  unfold keyOk at h
  split at h
  · rename_i t v' h1; cases h1
  · rename_i ts' a h1; cases h1; exact ⟨a, rfl, by simpa using h⟩
  · cases h

theorem keyOk_sc {t : Nat} {v : Value} (h : keyOk (.sc t) v = true) : t ≠ 0 ∧ tagOf v = t := by
  simpa [keyOk] using h

theorem flat_ne : ∀ (fs : List Field) (l : List (Nat × Nat)), flatFields P fs = some l → ∀ o t, (o, t) ∈ l → t ≠ 0
  | [], l, h, o, t, hm => by simp [flatFields] at h; subst h; simp at hm
  | f :: fs, l, h, o, t, hm => by
    have hn : f.name ≠ "_" := fun e => by simp [flatFields, e] at h
    simp only [flatFields, if_neg hn] at h
    split at h
    all_goals first
      | (rename_i k r h1 h2; cases h; rcases List.mem_cons.1 hm with e | e; (· cases e; have := kindNo_ge k; omega); exact flat_ne fs r h2 o t e)
      | (rename_i r h1 h2; cases h; rcases List.mem_cons.1 hm with e | e; (· cases e; decide); exact flat_ne fs r h2 o t e)
      | cases h

theorem tagged_of {fs : List Field} {l : List (Nat × Nat)} (hl : flatFields P fs = some l) (hr : l.map (·.1) = List.range l.length) {a : Array Value} (ha : a.toList.map tagOf = l.map (·.2)) : Tagged l a := by
  intro o t hm
  refine ⟨flat_ne fs l hl o t hm, ?_⟩
  obtain ⟨i, hi, he⟩ := List.getElem_of_mem hm
  have h1 : (l.map (·.1))[i]? = some o := by simp [hi, he]
  rw [hr] at h1
  have : i = o := by simpa [hi] using h1
  subst this
  have h2 : (l.map (·.2))[i]? = some t := by simp [hi, he]
  rw [← ha, List.getElem?_map] at h2
  cases hv : a.toList[i]? with
  | none => simp [hv] at h2
  | some v => exact ⟨v, by simpa using hv, by simpa [hv] using h2⟩

theorem plainEqs_all : ∀ (l : List (Nat × Nat)) (n : Nat) (a b : List Value), a.length = l.length → b.length = l.length → l.map (·.1) = (List.range l.length).map (· + n) →
    (l.all fun x => plainEq (a.getD (x.1 - n) undef) (b.getD (x.1 - n) undef)) = plainEqs a b
  | [], n, a, b, ha, hb, hr => by
    obtain rfl := List.eq_nil_of_length_eq_zero ha
    obtain rfl := List.eq_nil_of_length_eq_zero hb
    rfl
  | (o, t) :: l, n, [], b, ha, hb, hr => by simp at ha
  | (o, t) :: l, n, x :: a, [], ha, hb, hr => by simp at hb
  | (o, t) :: l, n, x :: a, y :: b, ha, hb, hr => by
    simp only [List.map_cons, List.length_cons, List.range_succ_eq_map, List.cons.injEq, Nat.zero_add, List.map_map] at hr
    obtain ⟨rfl, hr⟩ := hr
    have ih := plainEqs_all l (o + 1) a b (by simpa using ha) (by simpa using hb) (by
      rw [hr]; apply List.map_congr_left; intro k _; simp [Nat.add_assoc, Nat.add_comm 1])
    simp only [List.all_cons, Nat.sub_self, List.getD_cons_zero, plainEqs, ← ih]
    congr 1
    rw [Bool.eq_iff_iff]
    simp only [List.all_eq_true]
    have hge : ∀ z ∈ l, ∃ k, z.1 = o + 1 + k := by
      intro z hz
      have : z.1 ∈ l.map (·.1) := List.mem_map_of_mem hz
      rw [hr] at this
      obtain ⟨k, _, hk⟩ := List.mem_map.1 this
      exact ⟨k, by simp at hk; omega⟩
    constructor
    · intro h z hz
      obtain ⟨k, hk⟩ := hge z hz
      have := h z hz
      rw [hk] at this ⊢
      rw [show o + 1 + k - o = k + 1 by omega] at this
      rw [show o + 1 + k - (o + 1) = k by omega]
      simpa using this
    · intro h z hz
      obtain ⟨k, hk⟩ := hge z hz
      have := h z hz
      rw [hk] at this ⊢
      rw [show o + 1 + k - (o + 1) = k by omega] at this
      rw [show o + 1 + k - o = k + 1 by omega]
      simpa using this

theorem eqAll_keys {l : List (Nat × Nat)} (hr : l.map (·.1) = List.range l.length) {a b : Array Value} (ha : a.toList.map tagOf = l.map (·.2)) (hb : b.toList.map tagOf = l.map (·.2)) : eqAll l a b = keyEq (.agg a) (.agg b) := by
  have h1 := congrArg List.length ha
  have h2 := congrArg List.length hb
  have := plainEqs_all l 0 a.toList b.toList (by simpa using h1) (by simpa using h2) (by simpa using hr)
  simp only [keyEq, ← this, eqAll]
  have e : ∀ (x : Array Value) (i : Nat), x.getD i undef = x.toList.getD (i - 0) undef := fun x i => by
    simp [Array.getD_eq_getD_getElem?, List.getD_eq_getElem?_getD]
  simp only [e]

def entFind (k : Value) : List MapEntry → Nat → Option (Nat × Value)
  | [], _ => none
  | e :: es, i => if keyEq k e.key then some (i, e.val) else entFind k es (i + 1)

theorem findNow_sc {d : TypeDesc} {t : Nat} (hd : (∃ k, d = .int k ∧ t = kindNo k) ∨ (d = .string ∧ t = 1) ∨ (d = .bool ∧ t = 2)) {k : Value} (hk : tagOf k = t) :
    ∀ (es : List MapEntry) (i : Nat), (∀ e ∈ es, tagOf e.key = t) → Instr.findNow d k es i = some (entFind k es i)
  | [], i, h => rfl
  | e :: es, i, h => by
    have he := h e (by simp)
    have ih := findNow_sc hd hk es (i + 1) (fun e' h' => h e' (by simp [h']))
    have hs : Instr.sameNow d k e.key = some (keyEq k e.key) := by
      rcases hd with ⟨q, rfl, rfl⟩ | ⟨rfl, rfl⟩ | ⟨rfl, rfl⟩
      · obtain ⟨m, rfl⟩ := tagOf_int hk
        obtain ⟨n, hn⟩ := tagOf_int he
        rw [hn]; simp [Instr.sameNow, keyEq, plainEq]
      · obtain ⟨m, rfl⟩ := tagOf_str hk
        obtain ⟨n, hn⟩ := tagOf_str he
        rw [hn]; simp [Instr.sameNow, keyEq, plainEq, beq_str]
      · obtain ⟨m, rfl⟩ := tagOf_bool hk
        obtain ⟨n, hn⟩ := tagOf_bool he
        rw [hn]; simp [Instr.sameNow, keyEq, plainEq]
    simp only [Instr.findNow, hs, entFind]
    cases keyEq k e.key <;> simp [ih]

theorem keyKind_cases {kt : TypeId} {kk : KK} (h : keyKind P kt = some kk) :
    (∃ d t, P.underlying kt = some d ∧ kk = .sc t ∧ ((∃ k, d = .int k ∧ t = kindNo k) ∨ (d = .string ∧ t = 1) ∨ (d = .bool ∧ t = 2))) ∨
    (∃ fs l, P.underlying kt = some (.struct fs) ∧ flatFields P fs.toList = some l ∧ P.stoodInHeld kt = false ∧ l.map (·.1) = List.range l.length ∧ kk = .st (l.map (·.2))) := by
  unfold keyKind at h
  split at h
  · rename_i k hk; cases h; exact .inl ⟨_, _, hk, rfl, .inl ⟨k, rfl, rfl⟩⟩
  · rename_i hk; cases h; exact .inl ⟨_, _, hk, rfl, .inr (.inl ⟨rfl, rfl⟩)⟩
  · rename_i hk; cases h; exact .inl ⟨_, _, hk, rfl, .inr (.inr ⟨rfl, rfl⟩)⟩
  · rename_i fs hk
    split at h
    · rename_i l hl
      split at h
      · rename_i hc; cases h; exact .inr ⟨fs, l, hk, hl, hc.1, hc.2, rfl⟩
      · cases h
    · cases h
  · cases h

theorem run_checkKey {kt : TypeId} {kk : KK} (h : keyKind P kt = some kk) {k : Value} (hk : keyOk kk k = true) (e : Bool) : (Instr.checkKey e 10000 kt k).run P w = .ok () w := by
  rcases keyKind_cases h with ⟨d, t, hd, rfl, hc⟩ | ⟨fs, l, hd, hl, hs, hr, rfl⟩
  · obtain ⟨_, ht⟩ := keyOk_sc hk
    show (Instr.checkKey e (9999 + 1) kt k).run P w = _
    generalize (9999 : Nat) = D
    rcases hc with ⟨q, rfl, rfl⟩ | ⟨rfl, rfl⟩ | ⟨rfl, rfl⟩ <;> simp [Instr.checkKey, run_under hd]
  · obtain ⟨a, rfl, ha⟩ := keyOk_st hk
    exact run_checkKey_flat (d := 9998) hd hl (tagged_of hl hr ha)

theorem run_findAsking {kt : TypeId} {k : Value} : ∀ (es : List MapEntry) (i : Nat), (∀ e ∈ es, (Op.equal kt k e.key).run P w = .ok (keyEq k e.key) w) →
    (Instr.findAsking kt k es i).run P w = .ok (entFind k es i) w
  | [], i, h => rfl
  | e :: es, i, h => by
    have ih := run_findAsking es (i + 1) (fun e' h' => h e' (by simp [h']))
    simp only [Instr.findAsking, Sem.run_bind, h e (by simp), Result.andThen, entFind]
    cases keyEq k e.key <;> simp [ih]

theorem run_findKey {kt : TypeId} {kk : KK} (h : keyKind P kt = some kk) {k : Value} (hk : keyOk kk k = true) {es : List MapEntry} (hes : ∀ e ∈ es, keyOk kk e.key = true) :
    (Instr.findKey kt k es).run P w = .ok (entFind k es 0) w := by
  rcases keyKind_cases h with ⟨d, t, hd, rfl, hc⟩ | ⟨fs, l, hd, hl, hs, hr, rfl⟩
  · simp [Instr.findKey, run_under hd, findNow_sc hc (keyOk_sc hk).2 es 0 (fun e he => (keyOk_sc (hes e he)).2)]
  · obtain ⟨a, rfl, ha⟩ := keyOk_st hk
    cases es with
    | nil => simp [Instr.findKey, run_under hd, Instr.findNow, entFind]
    | cons e es =>
      have hn : Instr.findNow (.struct fs) (.agg a) (e :: es) 0 = none := by simp [Instr.findNow, Instr.sameNow]
      simp only [Instr.findKey, Sem.run_bind, run_under hd, Result.andThen, hn]
      refine run_findAsking _ _ (fun e' he' => ?_)
      obtain ⟨b, hb, hbt⟩ := keyOk_st (hes e' he')
      rw [hb]
      show (Op.equalIn (9998 + 1 + 1) kt (.agg a) (.agg b)).run P w = _
      rw [run_equal_flat hd hs hl (tagged_of hl hr ha) (tagged_of hl hr hbt), eqAll_keys hr ha hbt]

/-- The entries of an own map, as they lie. -/
theorem entFind_mfind {es : List (Value × V)} {arr : List MapEntry} (hsz : arr.length = es.length)
    (hall : ∀ (i : Nat) (k : Value) (d : V), es[i]? = some (k, d) → ∃ e, arr[i]? = some e ∧ e.key = k ∧ RepV S N μ w d e.val) (k : Value) (i : Nat) :
    (entFind k arr i = none ∧ mfind es k = none) ∨ ∃ j v d, entFind k arr i = some (i + j, v) ∧ mfind es k = some d ∧ RepV S N μ w d v ∧ ∃ e k', arr[j]? = some e ∧ es[j]? = some (k', d) ∧ keyEq k k' = true ∧ ∀ j' e', j' < j → arr[j']? = some e' → keyEq k e'.key = false := by
  induction es generalizing arr i with
  | nil =>
    obtain rfl := List.eq_nil_of_length_eq_zero hsz
    exact .inl ⟨rfl, rfl⟩
  | cons x es ih =>
    obtain ⟨k', d⟩ := x
    cases arr with
    | nil => simp at hsz
    | cons e arr =>
      obtain ⟨e', he, hk, hr⟩ := hall 0 k' d rfl
      simp at he
      subst he
      subst hk
      simp only [entFind, mfind]
      cases hq : keyEq k e.key with
      | true => exact .inr ⟨0, e.val, d, by simp, by simp, hr, e, e.key, rfl, rfl, hq, fun j' e' h => by omega⟩
      | false =>
        rcases ih (by simpa using hsz) (fun i k d h => hall (i + 1) k d (by simpa using h)) (i + 1) with ⟨h1, h2⟩ | ⟨j, v, d', h1, h2, h3, e', k', h4, h5, h6, h7⟩
        · exact .inl ⟨by simp [h1], by simp [h2]⟩
        · refine .inr ⟨j + 1, v, d', by simp [h1, Nat.add_assoc, Nat.add_comm 1], by simp [h2], h3, e', k', by simpa using h4, by simpa using h5, h6, fun j' e2 hj he2 => ?_⟩
          cases j' with
          | zero => simp at he2; subst he2; exact hq
          | succ j' => exact h7 j' e2 (by omega) (by simpa using he2)

theorem keyOf_rep {kt : T} {k v : Value} (h : keyOf' kt = some k) (hr : RepT S N μ w kt v) : v = k := by
  unfold keyOf' at h
  split at h
  · cases h; exact (rep_val hr).1
  · rename_i cs
    obtain ⟨vs, rfl, hsz, hc⟩ := hr
    cases hm : cs.mapM vCell with
    | none => simp [hm] at h
    | some us =>
      simp [hm] at h
      subst h
      congr 1
      have key : ∀ (cs : List C) (us : List Value), cs.mapM vCell = some us → ∀ i : Nat, us[i]? = (cs[i]?).bind vCell ∧ us.length = cs.length ∧ ∀ c, cs[i]? = some c → ∃ u, vCell c = some u := by
        intro cs
        induction cs with
        | nil => intro us hm i; simp at hm; subst hm; simp
        | cons c cs ih =>
          intro us hm i
          simp only [List.mapM_cons] at hm
          cases hb : vCell c with
          | none => simp [hb] at hm
          | some x =>
            cases hm' : cs.mapM vCell with
            | none => simp [hb, hm'] at hm
            | some r =>
              simp [hb, hm'] at hm
              subst hm
              cases i with
              | zero => simp [hb, (ih r hm' 0).2.1]
              | succ i =>
                obtain ⟨h1, h2, h3⟩ := ih r hm' i
                simp [h1, h2]
                exact fun c' hc' => h3 c' hc'
      apply Array.ext'
      apply List.ext_getElem?
      intro i
      obtain ⟨h1, h2, h3⟩ := key cs us hm i
      rw [h1]
      cases hci : cs[i]? with
      | none =>
        have : cs.length ≤ i := by simpa using hci
        simp; omega
      | some c =>
        obtain ⟨u, hu, hru⟩ := hc i c hci
        obtain ⟨x, hx⟩ := h3 c hci
        simp only [Option.bind_some, hx]
        have : c = cV x := by
          unfold vCell at hx
          split at hx
          · cases hx; rfl
          · cases hx
        subst this
        cases hru
        simpa using hu
  · cases h

theorem run_zeroV {t : TypeId} {z : List Value} {d : TypeDesc} (hz : zeroOf P t = some z) (hd : P.underlying t = some d) :
    ∃ v, (zeroValue t).run P w = .ok v w ∧ v.cells.toList = z ∧ oneAll z = true ∧ (aggD d = true → v = .agg z.toArray) ∧ (aggD d = false → z = [v] ∧ one v) := by
  unfold zeroOf at hz
  split at hz
  · rename_i v d' hv hd'
    rw [hd] at hd'
    cases hd'
    split at hz
    · rename_i hone
      cases hz
      simp only [Bool.and_eq_true, beq_iff_eq] at hone
      cases hi : P.info? t with
      | none => simp [hi] at hv
      | some ti =>
        simp [hi] at hv
        refine ⟨v, by simp [zeroValue, run_tinfo hi, hv], rfl, hone.1, fun hag => ?_, fun hag => ?_⟩
        · rw [hag] at hone
          cases v <;> simp [isAggV] at hone
          simp [Value.cells]
        · rw [hag] at hone
          have h1 := hone.1
          cases v <;> simp [isAggV] at hone <;> simp [Value.cells, oneAll] at h1 ⊢ <;> exact h1
    · cases hz
  · cases hz

/-- A zero value, as it is known. -/
theorem rep_zero {z : List Value} {d : TypeDesc} {v : Value} (h1 : oneAll z = true) (h2 : aggD d = true → v = .agg z.toArray) (h3 : aggD d = false → z = [v] ∧ one v) :
    RepV S N μ w (if aggD d = true then .agg (z.map cV) else .x ((z.map cV).headD .any)) v := by
  cases hag : aggD d with
  | true =>
    obtain rfl := h2 hag
    refine ⟨_, rfl, by simp, fun i c hi => ?_⟩
    rw [List.getElem?_map] at hi
    cases hx : z[i]? with
    | none => simp [hx] at hi
    | some x =>
      simp [hx] at hi
      subst hi
      refine ⟨x, by simpa using hx, .val ?_⟩
      simp only [oneAll, List.all_eq_true] at h1
      exact h1 x (List.mem_of_getElem? hx)
  | false =>
    obtain ⟨rfl, ho⟩ := h3 hag
    exact .val ho

end
end Go.Proofs.Yticflcpmlbaafaa.AL

/- AL: slice expressions, look-ups, struct equality, composites. -/
set_option linter.unusedSimpArgs false
set_option linter.unusedVariables false
namespace Go.Proofs.Yticflcpmlbaafaa.AL
open Go
section
variable {P : Program} {w0 : World} {F S : Nat → Prop} {K : KMap} {N : Nat} {μ : Nat → Loc} {w : World}

theorem bounds_of {n : Nat} {lo hi : Option Value} {bs : List T} {l h : Int} (hb : boundsOf n lo.isSome hi.isSome bs = some (l, h))
    (hr : ∀ (i : Nat) (d : T), bs[i]? = some d → ∃ v, (lo.toList ++ hi.toList)[i]? = some v ∧ RepT S N μ w d v) :
    ((lo = none ∧ l = 0) ∨ ∃ k, lo = some (.int k l)) ∧ ((hi = none ∧ h = n) ∨ ∃ k, hi = some (.int k h)) := by
  cases lo with
  | none =>
    cases hi with
    | none =>
      unfold boundsOf at hb
      split at hb <;> first | contradiction | (cases hb; exact ⟨.inl ⟨rfl, rfl⟩, .inl ⟨rfl, rfl⟩⟩)
    | some y =>
      simp only [Option.isSome_none, Option.isSome_some] at hb
      unfold boundsOf at hb
      split at hb
      · contradiction
      · contradiction
      · rename_i k h' _ _ 
        cases hb
        obtain ⟨v, hv, hrv⟩ := hr 0 _ rfl
        obtain ⟨rfl, _⟩ := rep_val hrv
        simp at hv
        exact ⟨.inl ⟨rfl, rfl⟩, .inr ⟨k, by rw [hv]⟩⟩
      · contradiction
      · cases hb
  | some x =>
    cases hi with
    | none =>
      simp only [Option.isSome_none, Option.isSome_some] at hb
      unfold boundsOf at hb
      split at hb
      · contradiction
      · rename_i k h' _ _
        cases hb
        obtain ⟨v, hv, hrv⟩ := hr 0 _ rfl
        obtain ⟨rfl, _⟩ := rep_val hrv
        simp at hv
        exact ⟨.inr ⟨k, by rw [hv]⟩, .inl ⟨rfl, rfl⟩⟩
      · contradiction
      · contradiction
      · cases hb
    | some y =>
      simp only [Option.isSome_some] at hb
      unfold boundsOf at hb
      split at hb
      · contradiction
      · contradiction
      · contradiction
      · rename_i k l' k' h' _ _
        cases hb
        obtain ⟨v, hv, hrv⟩ := hr 0 _ rfl
        obtain ⟨rfl, _⟩ := rep_val hrv
        obtain ⟨v', hv', hrv'⟩ := hr 1 _ rfl
        obtain ⟨rfl, _⟩ := rep_val hrv'
        simp at hv hv'
        exact ⟨.inr ⟨k, by rw [hv]⟩, .inr ⟨k', by rw [hv']⟩⟩
      · cases hb

theorem run_bounds {isS : Bool} {n cap : Nat} {lo hi : Option Value} {l h : Int} (hlo : (lo = none ∧ l = 0) ∨ ∃ k, lo = some (.int k l)) (hhi : (hi = none ∧ h = n) ∨ ∃ k, hi = some (.int k h))
    (h0 : 0 ≤ l) (h1 : l ≤ h) (h2 : h ≤ cap) : (Instr.sliceBounds isS n cap lo hi none).run P w = .ok (l.toNat, h.toNat, cap) w := by
  have hh : 0 ≤ h := by omega
  have hl : l ≤ (h.toNat : Int) := by omega
  rcases hlo with ⟨rfl, rfl⟩ | ⟨k, rfl⟩ <;> rcases hhi with ⟨rfl, rfl⟩ | ⟨k', rfl⟩
  · simp [Instr.sliceBounds]
  · simp [Instr.sliceBounds, Instr.sliceBound, asIntOf, hh, h2]
  · have : l ≤ (n : Int) := h1
    simp [Instr.sliceBounds, Instr.sliceBound, asIntOf, h0, this]
  · simp [Instr.sliceBounds, Instr.sliceBound, asIntOf, h0, hl, hh, h2, h1]
    intro hm
    omega

theorem slice_still (h : HRel w0 F S K N μ w) {t e : TypeId} {ti : TypeInfo} (ht : P.underlying t = some (.slice e)) (hti : P.info? e = some ti) {a : T} {v : Value} {lo hi : Option Value} {bs : List T}
    (ha : RepT S N μ w a v) (hr : ∀ (i : Nat) (d : T), bs[i]? = some d → ∃ v, (lo.toList ++ hi.toList)[i]? = some v ∧ RepT S N μ w d v)
    {res : Res} (he : evSlice ti.size lo.isSome hi.isSome K N (a :: bs) = some res) (hp : res.pre) :
    res.K = K ∧ res.N = N ∧ Still P S N μ w (Instr.sliceAt t v lo hi none) res.val := by
  unfold evSlice at he
  split at he
  · rename_i sz xs bs' hargs
    simp only [List.cons.injEq] at hargs
    obtain ⟨rfl, rfl⟩ := hargs
    split at he
    · rename_i l h' hb
      cases he
      obtain ⟨rfl, h0, h1, h2⟩ := hp
      obtain ⟨hlo, hhi⟩ := bounds_of hb hr
      cases ha with
      | rd g g1 g2 g3 g4 g5 =>
        rename_i A cap
        have hrun := run_bounds (P := P) (w := w) (isS := true) hlo hhi h0 h1 (by omega : h' ≤ (cap : Int))
        refine ⟨rfl, rfl, .slice (if cap = l.toNat then A else A.map (·.add (l.toNat * ti.size))) (h'.toNat - l.toNat) (cap - l.toNat), ?_, ?_⟩
        · simp [Instr.sliceAt, Instr.slice, run_under ht, hrun, run_size hti]
        · have hlen : h'.toNat - l.toNat = ((xs.take h'.toNat).drop l.toNat).length := by simp; omega
          rw [hlen]
          have hget : ∀ (j : Nat) (x : List R), ((xs.take h'.toNat).drop l.toNat)[j]? = some x → xs[l.toNat + j]? = some x := fun j x hx => by
            rw [List.getElem?_drop] at hx
            have hlt := (List.getElem?_eq_some_iff.1 hx).1
            rw [List.getElem?_take_of_lt (by simp at hlt; omega)] at hx
            exact hx
          refine .rd (fun j i => g (l.toNat + j) i) (by rw [← hlen]; omega) (by omega) (fun x hx => g3 x (List.mem_of_mem_take (List.mem_of_mem_drop hx))) (fun hne => ?_) (fun j x i r hx hr => g5 _ x i r (hget j x hx) hr)
          obtain ⟨ad, rfl, hS, hc⟩ := g4 (by rintro rfl; simp at hne)
          have hcap : cap ≠ l.toNat := by
            intro e
            have : ((xs.take h'.toNat).drop l.toNat) = [] := List.eq_nil_of_length_eq_zero (by rw [← hlen]; omega)
            exact hne this
          refine ⟨ad.add (l.toNat * ti.size), by simp [hcap], by rw [add_block]; exact hS, fun j x i r hx hr => ?_⟩
          rw [addr_add_add, ← Nat.add_assoc, ← Nat.add_mul]
          exact hc _ x i r (hget j x hx) hr
    · cases he
  · rename_i id ver off len bs' hargs
    simp only [List.cons.injEq] at hargs
    obtain ⟨rfl, rfl⟩ := hargs
    split at he
    · rename_i ver' sz xs l h' hk hb
      cases he
      obtain ⟨hsz, rfl, h0, h1, h2⟩ := hp
      obtain ⟨hlo, hhi⟩ := bounds_of hb hr
      obtain ⟨hv, hs, hid⟩ := h.ver hk
      obtain ⟨_, hle, A, cap, rfl, hcur⟩ := ha
      obtain ⟨hcap, hroom, hA⟩ := hcur hv.symm
      have hrun := run_bounds (P := P) (w := w) (isS := true) hlo hhi h0 h1 (by omega : h' ≤ (cap : Int))
      refine ⟨rfl, rfl, .slice (if cap = l.toNat then A else A.map (·.add (l.toNat * ti.size))) (h'.toNat - l.toNat) (cap - l.toNat), ?_, hid, hle, _, _, rfl, fun _ => ⟨by omega, by omega, fun hne => ?_⟩⟩
      · simp [Instr.sliceAt, Instr.slice, run_under ht, hrun, run_size hti]
      · obtain ⟨b, hb, rfl⟩ := hA (by omega)
        have hne' : cap ≠ l.toNat := by omega
        refine ⟨b, hb, ?_⟩
        simp only [hne', if_false, Option.map_some, loc_at_add]
        unfold Loc.at
        rw [hsz, hs, Nat.add_mul]
        simp [Nat.add_assoc]
    · cases he
  · cases he

theorem sslice_still {t : TypeId} (ht : P.underlying t = some .string) {a : T} {v : Value} {lo hi : Option Value} {bs : List T}
    (ha : RepT S N μ w a v) (hr : ∀ (i : Nat) (d : T), bs[i]? = some d → ∃ v, (lo.toList ++ hi.toList)[i]? = some v ∧ RepT S N μ w d v)
    {res : Res} (he : evSslice lo.isSome hi.isSome K N (a :: bs) = some res) (hp : res.pre) :
    res.K = K ∧ res.N = N ∧ Still P S N μ w (Instr.sliceAt t v lo hi none) res.val := by
  unfold evSslice at he
  split at he
  · rename_i s bs' hargs
    simp only [List.cons.injEq] at hargs
    obtain ⟨rfl, rfl⟩ := hargs
    split at he
    · rename_i l h' hb
      cases he
      obtain ⟨h0, h1, h2⟩ := hp
      obtain ⟨hlo, hhi⟩ := bounds_of hb hr
      obtain ⟨rfl, _⟩ := rep_val ha
      have hrun := run_bounds (P := P) (w := w) (isS := false) hlo hhi h0 h1 h2
      exact ⟨rfl, rfl, .string (s.extract l.toNat h'.toNat), by simp [Instr.sliceAt, Instr.slice, run_under ht, hrun], .val rfl⟩
    · cases he
  · cases he

theorem look_still (h : HRel w0 F S K N μ w) {t kt et : TypeId} {kk : KK} {d : TypeDesc} {z : List Value} (ht : P.underlying t = some (.map kt et)) (hkk : keyKind P kt = some kk) (hz : zeroOf P et = some z)
    (hd : P.underlying et = some d) {ok : Bool} {a b : T} {v u : Value} (ha : RepT S N μ w a v) (hb : RepT S N μ w b u)
    {res : Res} (he : evLook kk ok (aggD d) z K N [a, b] = some res) (hp : res.pre) :
    res.K = K ∧ res.N = N ∧ Still P S N μ w (Instr.lookup t v u ok) res.val := by
  unfold evLook at he
  split at he
  · rename_i id kt' hargs
    simp only [List.cons.injEq, and_true] at hargs
    obtain ⟨rfl, rfl⟩ := hargs
    split at he
    · rename_i es k hk hkey
      cases he
      obtain ⟨h1, hko, hes⟩ := hp
      obtain rfl := keyOf_rep hkey hb
      obtain ⟨hid, hv, bl, arr, clock, hbl, hh, hsz, hall⟩ := h.obj id _ hk
      obtain ⟨_, A, rfl, hcur⟩ := ha
      have hA := hcur hv
      rw [hbl] at hA
      subst hA
      obtain ⟨zv, hzr, hzc, hz1, hz2, hz3⟩ := run_zeroV (P := P) (w := w) hz hd
      have hzrep := rep_zero (S := S) (N := N) (μ := μ) (w := w) hz1 hz2 hz3
      have hall' : ∀ (i : Nat) (k : Value) (d : V), es[i]? = some (k, d) → ∃ e, arr.toList[i]? = some e ∧ e.key = k ∧ RepV S N μ w d e.val := fun i k d hi => by
        obtain ⟨e, he, hk, _, hr⟩ := hall i k d hi
        exact ⟨e, by simpa using he, hk, hr⟩
      have hkeys : ∀ e ∈ arr.toList, keyOk kk e.key = true := by
        intro e he
        obtain ⟨i, hi, hei⟩ := List.getElem_of_mem he
        have hi' : i < es.length := by simp at hi; omega
        obtain ⟨e', he', hk', _⟩ := hall' i _ _ (by rw [List.getElem?_eq_getElem hi'])
        rw [List.getElem?_eq_getElem hi, Option.some.injEq, hei] at he'
        subst he'
        rw [hk']
        simp only [List.all_eq_true] at hes
        exact hes es[i] (List.getElem_mem _)
      have hfind := run_findKey (P := P) (w := w) hkk hko hkeys
      have hgo : (getObj bl).run P w = .ok (.map arr clock) w := by simp [getObj, Sem.run, hh]
      have hck := run_checkKey (P := P) (w := w) hkk hko arr.isEmpty
      rcases entFind_mfind (S := S) (N := N) (μ := μ) (w := w) (es := es) (arr := arr.toList) (by simpa using hsz) hall' u 0 with ⟨e1, e2⟩ | ⟨j, vv, dd, e1, e2, e3, _⟩
      · refine ⟨rfl, rfl, if ok then .tuple #[zv, .bool false] else zv, ?_, ?_⟩
        · simp only [Instr.lookup, Sem.run_bind, run_under ht, Result.andThen, hgo, Sem.run_pure, hck, hfind, e1, hzr]
        · cases ok
          · show RepV S N μ w ((mfind es u).getD _) zv
            rw [e2]; exact hzrep
          · refine ⟨_, rfl, rfl, fun i dd hi => ?_⟩
            match i with
            | 0 =>
              simp only [List.getElem?_cons_zero, Option.some.injEq] at hi
              subst hi
              exact ⟨zv, rfl, by rw [e2]; exact hzrep⟩
            | 1 => simp [e2] at hi; subst hi; exact ⟨_, rfl, .val rfl⟩
            | i + 2 => simp at hi
      · refine ⟨rfl, rfl, if ok then .tuple #[vv, .bool true] else vv, ?_, ?_⟩
        · simp only [Instr.lookup, Sem.run_bind, run_under ht, Result.andThen, hgo, Sem.run_pure, hck, hfind, e1]
        · cases ok
          · show RepV S N μ w ((mfind es u).getD _) vv
            rw [e2]; exact e3
          · refine ⟨_, rfl, rfl, fun i d' hi => ?_⟩
            match i with
            | 0 =>
              simp only [List.getElem?_cons_zero, Option.some.injEq] at hi
              subst hi
              exact ⟨vv, rfl, by rw [e2]; exact e3⟩
            | 1 => simp [e2] at hi; subst hi; exact ⟨_, rfl, .val rfl⟩
            | i + 2 => simp at hi
    · cases he
  · cases he

theorem eqCells_spec : ∀ (l : List (Nat × Nat)) (xs ys : List C) (a b : Array Value) (p : Prop) (e : Bool), eqCells l xs ys = some (p, e) → p →
    (∀ (i : Nat) (c : C), xs[i]? = some c → ∃ u, a[i]? = some u ∧ RepC S N μ w c u) → (∀ (i : Nat) (c : C), ys[i]? = some c → ∃ u, b[i]? = some u ∧ RepC S N μ w c u) → Tagged l a ∧ Tagged l b ∧ eqAll l a b = e
  | [], xs, ys, a, b, p, e, h, hp, ha, hb => by
    simp only [eqCells, Option.some.injEq, Prod.mk.injEq] at h
    obtain ⟨rfl, rfl⟩ := h
    exact ⟨fun o t hm => by simp at hm, fun o t hm => by simp at hm, rfl⟩
  | (o, t) :: l, xs, ys, a, b, p, e, h, hp, ha, hb => by
    simp only [eqCells] at h
    split at h
    · rename_i u v p' e' hx hy hr
      cases h
      obtain ⟨h0, htu, htv, hp'⟩ := hp
      obtain ⟨i1, i2, i3⟩ := eqCells_spec l xs ys a b p' e' hr hp' ha hb
      have gx : ∃ c, xs[o]? = some c ∧ c = cV u := by
        cases hxo : xs[o]? with
        | none => simp [List.getD_eq_getElem?_getD, hxo] at hx
        | some c => simp [List.getD_eq_getElem?_getD, hxo] at hx; exact ⟨c, rfl, hx⟩
      have gy : ∃ c, ys[o]? = some c ∧ c = cV v := by
        cases hyo : ys[o]? with
        | none => simp [List.getD_eq_getElem?_getD, hyo] at hy
        | some c => simp [List.getD_eq_getElem?_getD, hyo] at hy; exact ⟨c, rfl, hy⟩
      obtain ⟨_, hxo, rfl⟩ := gx
      obtain ⟨_, hyo, rfl⟩ := gy
      obtain ⟨u', hu', ru⟩ := ha o _ hxo
      obtain ⟨v', hv', rv⟩ := hb o _ hyo
      cases ru
      cases rv
      refine ⟨fun o' t' hm => ?_, fun o' t' hm => ?_, ?_⟩
      · rcases List.mem_cons.1 hm with e | e
        · cases e; exact ⟨h0, u, hu', htu⟩
        · exact i1 o' t' e
      · rcases List.mem_cons.1 hm with e | e
        · cases e; exact ⟨h0, v, hv', htv⟩
        · exact i2 o' t' e
      · rw [← i3]
        simp [eqAll, hu', hv']
    · cases h

theorem run_guard_flat {op : BinOp} {t : TypeId} {x y : Operand} {a b : Array Value} (hg : P.eqGuardType P.depth t = false) (hop : op = .eql ∨ op = .neq) : (eqGuard op t x y (.agg a) (.agg b)).run P w = .ok () w := by
  rcases hop with rfl | rfl <;> simp [eqGuard, hg]

theorem eqs_still {neg : Bool} {t : TypeId} {x y : Operand} {fs : Array Field} (ht : P.underlying t = some (.struct fs)) {l : List (Nat × Nat)} (hl : flatFields P fs.toList = some l) (hs : P.stoodInHeld t = false)
    (hg : P.eqGuardType P.depth t = false) {a b : T} {v u : Value} (ha : RepT S N μ w a v) (hb : RepT S N μ w b u) {res : Res} (he : evEqs neg l K N [a, b] = some res) (hp : res.pre) :
    res.K = K ∧ res.N = N ∧ Still P S N μ w (do eqGuard (if neg then .neq else .eql) t x y v u; binOp (if neg then .neq else .eql) t v u) res.val := by
  unfold evEqs at he
  split at he
  · rename_i xs ys hargs
    simp only [List.cons.injEq, and_true] at hargs
    obtain ⟨rfl, rfl⟩ := hargs
    split at he
    · rename_i p e hec
      cases he
      obtain ⟨va, rfl, hsa, hca⟩ := ha
      obtain ⟨vb, rfl, hsb, hcb⟩ := hb
      obtain ⟨h1, h2, h3⟩ := eqCells_spec l xs ys va vb p e hec hp hca hcb
      have heq : (Op.equal t (.agg va) (.agg vb)).run P w = .ok e w := by
        rw [← h3]
        exact run_equal_flat (d := 9998) ht hs hl h1 h2
      refine ⟨rfl, rfl, _, ?_, .val rfl⟩
      cases neg
      · simp only [Bool.false_eq_true, if_false, Sem.run_bind, run_guard_flat hg (.inl rfl), Result.andThen, binOp, heq, Sem.run_pure]
      · simp only [if_true, Sem.run_bind, run_guard_flat hg (.inr rfl), Result.andThen, binOp, heq, Sem.run_pure]
    · cases he
  · cases he

/-- Cells put into an array of cells, and what is known of both. -/
theorem fill_cells (place : Nat → Option (Nat × Nat)) : ∀ (ps : List (Nat × Nat)) (ds : List T) (cs cs' : List C) (parts : List (Nat × Value)) (arr : Array Value), fillC ps ds cs = some cs' →
    parts.map (fun x => place x.1) = ps.map some → parts.length = ds.length → (∀ (i : Nat) (d : T), ds[i]? = some d → ∃ x, parts[i]? = some x ∧ RepT S N μ w d x.2) → arr.size = cs.length →
    (∀ (i : Nat) (c : C), cs[i]? = some c → ∃ u, arr[i]? = some u ∧ RepC S N μ w c u) →
    ∃ arr', Instr.fill place arr parts = some arr' ∧ arr'.size = cs'.length ∧ ∀ (i : Nat) (c : C), cs'[i]? = some c → ∃ u, arr'[i]? = some u ∧ RepC S N μ w c u
  | [], [], cs, cs', parts, arr, h, hpl, hlen, hd, hsz, hc => by
    simp [fillC] at h
    subst h
    obtain rfl := List.eq_nil_of_length_eq_zero hlen
    exact ⟨arr, rfl, hsz, hc⟩
  | [], d :: ds, cs, cs', parts, arr, h, hpl, hlen, hd, hsz, hc => by simp [fillC] at h
  | (off, size) :: ps, [], cs, cs', parts, arr, h, hpl, hlen, hd, hsz, hc => by simp [fillC] at h
  | (off, size) :: ps, d :: ds, cs, cs', parts, arr, h, hpl, hlen, hd, hsz, hc => by
    cases d with
    | tup l => simp [fillC] at h
    | v d =>
      simp only [fillC] at h
      split at h
      · rename_i hcond
        obtain ⟨hds, hoff⟩ := hcond
        cases parts with
        | nil => simp at hlen
        | cons x parts =>
          obtain ⟨i, v⟩ := x
          simp only [List.map_cons, List.cons.injEq] at hpl
          obtain ⟨hpl0, hpl⟩ := hpl
          obtain ⟨x', hx', hr⟩ := hd 0 _ rfl
          simp at hx'
          subst hx'
          obtain ⟨hvs, hvc⟩ := RepV.cells hr
          dsimp only at hvs hvc
          have hfold : ∀ (cells : List Value) (n : Nat) (arr : Array Value), (cells.zipIdx n).foldl (fun cs (x : Value × Nat) => cs.setIfInBounds (off + x.2) x.1) arr = (cells.zipIdx n).foldl (fun cs (x : Value × Nat) => cs.setIfInBounds (off + x.2) x.1) arr := fun _ _ _ => rfl
          have hput : ∀ (cells : List Value) (n : Nat) (arr : Array Value), off + n + cells.length ≤ arr.size →
              ((cells.zipIdx n).foldl (fun cs (x : Value × Nat) => cs.setIfInBounds (off + x.2) x.1) arr).size = arr.size ∧
              ∀ k, ((cells.zipIdx n).foldl (fun cs (x : Value × Nat) => cs.setIfInBounds (off + x.2) x.1) arr)[k]? = if off + n ≤ k ∧ k < off + n + cells.length then cells[k - (off + n)]? else arr[k]? := by
            intro cells
            induction cells with
            | nil => intro n arr _; simp; intro k h1 h2; omega
            | cons c cells ih =>
              intro n arr hle
              simp only [List.zipIdx_cons, List.foldl_cons, List.length_cons] at hle ⊢
              obtain ⟨i1, i2⟩ := ih (n + 1) (arr.setIfInBounds (off + n) c) (by simp; omega)
              refine ⟨by simpa using i1, fun k => ?_⟩
              rw [i2 k]
              by_cases h1 : k = off + n
              · subst h1
                rw [if_neg (by omega), if_pos (by omega), Array.getElem?_setIfInBounds_self_of_lt (by omega)]
                simp
              · by_cases h2 : off + (n + 1) ≤ k ∧ k < off + (n + 1) + cells.length
                · rw [if_pos h2, if_pos (by omega)]
                  rw [show k - (off + n) = (k - (off + (n + 1))) + 1 by omega]
                  simp
                · rw [if_neg h2, if_neg (by omega)]
                  rw [Array.getElem?_setIfInBounds_ne (by omega)]
          obtain ⟨s1, s2⟩ := hput v.cells.toList 0 arr (by simp; omega)
          have hfill : Instr.fill place arr ((i, v) :: parts) = Instr.fill place ((v.cells.toList.zipIdx 0).foldl (fun cs (x : Value × Nat) => cs.setIfInBounds (off + x.2) x.1) arr) parts := by
            simp only [Instr.fill, hpl0]
            rw [if_neg (by simp; omega)]
            congr 1
            rw [← Array.foldl_toList, Array.toList_zipIdx]
          have hspl : (splice off d.cells cs).length = cs.length := by simp [splice]; omega
          rw [hfill]
          refine fill_cells place ps ds (splice off d.cells cs) cs' parts _ h hpl (by simpa using hlen) (fun j d' hj => hd (j + 1) d' (by simpa using hj)) (by rw [s1, hspl]; exact hsz) (fun k c hk => ?_)
          have hklt : k < cs.length := by rw [← hspl]; exact (List.getElem?_eq_some_iff.1 hk).1
          rw [s2 k]
          unfold splice at hk
          by_cases h1 : k < off
          · rw [if_neg (by omega)]
            rw [List.append_assoc, List.getElem?_append_left (by simp; omega), List.getElem?_take_of_lt h1] at hk
            exact hc k c hk
          · by_cases h2 : k < off + d.cells.length
            · rw [if_pos (by simp; omega)]
              rw [List.append_assoc, List.getElem?_append_right (by simp; omega), List.getElem?_append_left (by simp; omega)] at hk
              rw [show k - (List.take off cs).length = k - off by simp; omega] at hk
              obtain ⟨u, hu, hr'⟩ := hvc _ c hk
              exact ⟨u, by simpa using hu, hr'⟩
            · rw [if_neg (by simp; omega)]
              rw [List.getElem?_append_right (by simp; omega), List.getElem?_drop] at hk
              rw [show off + d.cells.length + (k - (List.take off cs ++ d.cells).length) = k by simp; omega] at hk
              exact hc k c hk
      · cases h

theorem zero_cells {z : List Value} (h1 : oneAll z = true) : ∀ (i : Nat) (c : C), (z.map cV)[i]? = some c → ∃ u, z.toArray[i]? = some u ∧ RepC S N μ w c u := by
  intro i c hi
  rw [List.getElem?_map] at hi
  cases hx : z[i]? with
  | none => simp [hx] at hi
  | some x =>
    simp [hx] at hi
    subst hi
    refine ⟨x, by simpa using hx, .val ?_⟩
    simp only [oneAll, List.all_eq_true] at h1
    exact h1 x (List.mem_of_getElem? hx)

end
end Go.Proofs.Yticflcpmlbaafaa.AL

/- AL: operations that make or write memory. -/
set_option linter.unusedSimpArgs false
set_option linter.unusedVariables false
namespace Go.Proofs.Yticflcpmlbaafaa.AL
open Go
section
variable {P : Program} {w0 : World} {F S : Nat → Prop} {K : KMap} {N : Nat} {μ : Nat → Loc} {w : World}

/-- What becomes of an operation that may make or write memory. -/
def Out (P : Program) (w0 : World) (F S : Nat → Prop) (N : Nat) (μ : Nat → Loc) (w : World) (x : Sem Value) (res : Res) : Prop :=
  ∃ v w' μ', x.run P w = .ok v w' ∧ HRel w0 F S res.K res.N μ' w' ∧ N ≤ res.N ∧ Later N μ μ' ∧ RepT S res.N μ' w' res.val v

theorem ObjOk.move {S' : Nat → Prop} {N' : Nat} {μ' : Nat → Loc} {w' : World} (hs : Same S w w') (hS : ∀ b, S b → S' b) (hN : N ≤ N') (hμ : Later N μ μ') {id : Nat} (hid : μ' id = μ id)
    (hb : ∀ b, (μ id).blk = some b → w'.heap[b]? = w.heap[b]?) {o : AObj} (h : ObjOk S N μ w id o) : ObjOk S' N' μ' w' id o := by
  cases o with
  | row ver sz xs =>
    obtain ⟨h1, h2, h3, h4, h5, h6⟩ := h
    refine ⟨by rw [hid]; exact h1, by rw [hid]; exact h2, by rw [hid]; exact h3, by rw [hid]; exact h4, h5, ?_⟩
    rw [hid]
    cases hblk : (μ id).blk with
    | none => rw [hblk] at h6; exact h6
    | some b =>
      rw [hblk] at h6
      obtain ⟨vals, ty, hh, hsz, hall⟩ := h6
      refine ⟨vals, ty, by rw [hb b hblk]; exact hh, hsz, fun i x k c hx hc => ?_⟩
      obtain ⟨u, hu, hr⟩ := hall i x k c hx hc
      exact ⟨u, hu, hr.move hs hS hN hμ⟩
  | map es =>
    obtain ⟨h1, b, arr, clock, hblk, hh, hsz, hall⟩ := h
    refine ⟨by rw [hid]; exact h1, b, arr, clock, by rw [hid]; exact hblk, by rw [hb b hblk]; exact hh, hsz, fun i k d hi => ?_⟩
    obtain ⟨e, he, hk, hc, hr⟩ := hall i k d hi
    exact ⟨e, he, hk, hc, hr.move hs hS hN hμ⟩

/-- One object is new, or turned; of what was there only the blocks of X may have turned. -/
theorem HRel.step (h : HRel w0 F S K N μ w) {t : Nat} {obj : AObj} {N' : Nat} {μ' : Nat → Loc} {w' : World} (X : Nat → Prop)
    (hos : w'.os = w.os) (htape : w'.tape = w.tape) (hout : w'.output = w.output) (hsize : w.heap.size ≤ w'.heap.size) (hheap : ∀ b, b < w.heap.size → ¬ X b → w'.heap[b]? = w.heap[b]?)
    (hX : ∀ b, X b → (F b ∨ w0.heap.size ≤ b)) (hXo : ∀ id o b, id ≠ t → K id = some o → (μ id).blk = some b → ¬ X b)
    (hN : N ≤ N') (ht : t < N') (hμ : ∀ id, id ≠ t → μ' id = μ id) (hL : Later N μ μ')
    (hobj : Same S w w' → ObjOk S N' μ' w' t obj) (hblk : ∀ b, (μ' t).blk = some b → (F b ∨ w0.heap.size ≤ b) ∧ b < w'.heap.size)
    (hdis : ∀ id o b, id ≠ t → K id = some o → (μ id).blk = some b → (μ' t).blk ≠ some b) :
    HRel w0 F S (upd K t obj) N' μ' w' := by
  have hsame : Same S w w' := fun b hb => by
    obtain ⟨h1, h2⟩ := h.st b hb
    refine hheap b (by have := h.size; omega) (fun hx => ?_)
    rcases hX b hx with h3 | h3
    · exact h2 h3
    · omega
  refine ⟨h.st, hos.trans h.os, htape.trans h.tape, hout.trans h.output, Nat.le_trans h.size hsize, fun b hb hF => ?_, fun id o hk => ?_, fun id o b hk hb => ?_, fun id id' o o' b hne hk hk' hb => ?_⟩
  · rw [hheap b (by have := h.size; omega) (fun hx => by rcases hX b hx with h3 | h3; exact hF h3; omega)]
    exact h.frame b hb hF
  · by_cases e : id = t
    · subst e
      simp at hk
      subst hk
      exact ⟨ht, hobj hsame⟩
    · rw [upd_ne _ _ e] at hk
      obtain ⟨h1, h2⟩ := h.obj id o hk
      refine ⟨by omega, h2.move hsame (fun _ h => h) hN hL (hμ id e) (fun b hb => ?_)⟩
      exact hheap b (h.blk id o b hk hb).2 (hXo id o b e hk hb)
  · by_cases e : id = t
    · subst e; exact hblk b hb
    · rw [upd_ne _ _ e] at hk
      rw [hμ id e] at hb
      obtain ⟨h1, h2⟩ := h.blk id o b hk hb
      exact ⟨h1, by omega⟩
  · by_cases e : id = t
    · subst e
      rw [upd_ne _ _ (Ne.symm hne)] at hk'
      rw [hμ id' (Ne.symm hne)]
      intro hb'
      exact hdis id' o' b (Ne.symm hne) hk' hb' hb
    · rw [upd_ne _ _ e] at hk
      rw [hμ id e] at hb
      by_cases e' : id' = t
      · subst e'
        exact hdis id o b e hk hb
      · rw [upd_ne _ _ e'] at hk'
        rw [hμ id' e']
        exact h.dis id id' o o' b hne hk hk' hb

theorem later_new {loc : Loc} : Later N μ (fun id => if id = N then loc else μ id) := fun id hid => .inl (by simp [show id ≠ N by omega])

/-- A new block of cells: a box, or a row. -/
theorem HRel.allocRow (h : HRel w0 F S K N μ w) {w' : World} {cells : Array Value} {ty : TypeId} {xs : List (List C)} {sz room : Nat} (hheap : w'.heap = w.heap.push (.cells cells ty (0, 0)))
    (hos : w'.os = w.os) (htape : w'.tape = w.tape) (hout : w'.output = w.output)
    (hx : ∀ x, x ∈ xs → x.length = sz) (hroom : xs.length ≤ room) (hm : room ≤ maxLen) (hsz : room * sz ≤ cells.size)
    (hc : ∀ i x k c, xs[i]? = some x → x[k]? = some c → ∃ u, cells[i * sz + k]? = some u ∧ RepC S N μ w c u) :
    HRel w0 F S (upd K N (.row 0 sz xs)) (N + 1) (fun id => if id = N then ⟨0, some w.heap.size, 0, room, sz⟩ else μ id) w' := by
  have hs' : w'.heap.size = w.heap.size + 1 := by rw [hheap]; simp
  refine h.step (t := N) (fun _ => False) hos htape hout (by omega) (fun b hb _ => by rw [hheap, Array.getElem?_push, if_neg (by omega)]) (fun b hb => hb.elim) (fun _ _ _ _ _ _ hb => hb)
    (by omega) (by omega) (fun id hid => by simp [hid]) later_new (fun hsame => ?_) (fun b hb => ?_) (fun id o b hid hk hb e => ?_)
  · refine ⟨by simp, by simp, by simpa using hroom, by simpa using hm, hx, ?_⟩
    simp only [if_true]
    refine ⟨cells, ty, by rw [hheap]; simp, by simpa using hsz, fun i x k c hi hk => ?_⟩
    obtain ⟨u, hu, hr⟩ := hc i x k c hi hk
    exact ⟨u, by simpa using hu, hr.move hsame (fun _ h => h) (by omega) later_new⟩
  · simp at hb
    subst hb
    exact ⟨.inr h.size, by omega⟩
  · simp at e
    subst e
    have := (h.blk id o _ hk hb).2
    omega

theorem box_out (h : HRel w0 F S K N μ w) {t : TypeId} {d : V} {v : Value} (hv : RepV S N μ w d v) {res : Res} (he : boxRes K N d.cells = some res) : Out P w0 F S N μ w (Instr.box t v) res := by
  cases he
  obtain ⟨hsz, hc⟩ := hv.cells
  refine ⟨_, _, _, rfl, h.allocRow (w' := { w with heap := w.heap.push (.cells v.cells t) }) (ty := t) (cells := v.cells) (room := 1) rfl rfl rfl rfl (by simp) (by simp) (by decide) (by rw [hsz]; omega) (fun i x k c hi hk => ?_), by simp, later_new, ?_⟩
  · cases i with
    | zero => simp at hi; subst hi; simpa using hc k c hk
    | succ i => simp at hi
  · exact ⟨by simp, by simp, _, rfl, fun _ => ⟨w.heap.size, by simp, by simp [Loc.at]⟩⟩

theorem rep_consts {z : List Value} {v : Value} {d : TypeDesc} (hc : v.cells.toList = z) (h1 : oneAll z = true) : v.cells.size = (z.map cV).length ∧ ∀ (i : Nat) (c : C), (z.map cV)[i]? = some c → ∃ u, v.cells[i]? = some u ∧ RepC S N μ w c u := by
  subst hc
  refine ⟨by simp, fun i c hi => ?_⟩
  obtain ⟨u, hu, hr⟩ := zero_cells (S := S) (N := N) (μ := μ) (w := w) h1 i c hi
  exact ⟨u, by simpa using hu, hr⟩

theorem alloc_out (h : HRel w0 F S K N μ w) {t : TypeId} {z : List Value} {d : TypeDesc} (hz : zeroOf P t = some z) (hd : P.underlying t = some d) {old : Value} {res : Res} (he : boxRes K N (z.map cV) = some res) :
    Out P w0 F S N μ w (Instr.alloc t true old) res := by
  cases he
  obtain ⟨v, hr, hzc, h1, _⟩ := run_zeroV (P := P) (w := w) hz hd
  obtain ⟨hsz, hc⟩ := rep_consts (S := S) (N := N) (μ := μ) (w := w) (d := d) hzc h1
  refine ⟨.pointer (some ⟨w.heap.size, 0, none⟩), { w with heap := w.heap.push (.cells v.cells t) }, _, ?_, h.allocRow (w' := { w with heap := w.heap.push (.cells v.cells t) }) (ty := t) (cells := v.cells) (room := 1) rfl rfl rfl rfl (by simp) (by simp) (by decide) (by rw [hsz]; omega) (fun i x k c hi hk => ?_), by simp, later_new, ?_⟩
  · simp [Instr.alloc, hr, newVar, newRow]
  · cases i with
    | zero => simp at hi; subst hi; simpa using hc k c hk
    | succ i => simp at hi
  · exact ⟨by simp, by simp, _, rfl, fun _ => ⟨w.heap.size, by simp, by simp [Loc.at]⟩⟩

theorem mkmap_out (h : HRel w0 F S K N μ w) {x : Sem Value} (hx : x.run P w = .ok (.map (some w.heap.size)) { w with heap := w.heap.push (.map #[] 0) }) :
    Out P w0 F S N μ w x ⟨True, tC (.map N), upd K N (.map []), N + 1⟩ := by
  refine ⟨_, _, fun id => if id = N then ⟨0, some w.heap.size, 0, 0, 0⟩ else μ id, hx, ?_, by simp, later_new, by simp, _, rfl, by simp⟩
  refine h.step (t := N) (fun _ => False) rfl rfl rfl (by simp) (fun b hb _ => by simp only [Array.getElem?_push]; rw [if_neg (by omega)]) (fun b hb => hb.elim) (fun _ _ _ _ _ _ hb => hb)
    (Nat.le_succ N) (Nat.lt_succ_self N) (fun id hid => by simp [hid]) later_new (fun hsame => ?_) (fun b hb => ?_) (fun id o b hid hk hb e => ?_)
  · exact ⟨by simp, w.heap.size, #[], 0, by simp, by simp, rfl, fun i k d hi => by simp at hi⟩
  · simp at hb
    subst hb
    exact ⟨.inr h.size, by simp⟩
  · simp at e
    subst e
    have := (h.blk id o _ hk hb).2
    omega

theorem zrep_get {z : Array Value} {n sz : Nat} (hz : z.size = sz) (hpos : 0 < sz) {i k : Nat} (hi : i < n) (hk : k < sz) : ((Array.range (n * sz)).map (fun j => z[j % z.size]!))[i * sz + k]? = z[k]? := by
  have hlt : i * sz + k < n * sz := by
    have h1 : (i + 1) * sz ≤ n * sz := Nat.mul_le_mul_right _ hi
    rw [Nat.add_mul] at h1
    omega
  have hmod : (i * sz + k) % sz = k := by rw [Nat.mul_comm, Nat.mul_add_mod, Nat.mod_eq_of_lt hk]
  have hk' : k < z.size := by omega
  simp only [Array.getElem?_map, Array.getElem?_range, hlt, if_true, Option.map_some, hz, hmod]
  rw [getElem!_pos z k hk', getElem?_pos z k hk']

theorem mkslice_out (h : HRel w0 F S K N μ w) {t e : TypeId} {ti : TypeInfo} {z : List Value} {d : TypeDesc} (ht : P.underlying t = some (.slice e)) (hi : P.info? e = some ti) (hz : zeroOf P e = some z) (hd : P.underlying e = some d)
    (hzs : z.length = ti.size) (hpos : 0 < ti.size) {a b : T} {v u : Value} (ha : RepT S N μ w a v) (hb : RepT S N μ w b u) {res : Res} (he : evMkslice ti.size ti.bytes z K N [a, b] = some res) (hp : res.pre) :
    Out P w0 F S N μ w (Instr.makeSlice t v u) res := by
  unfold evMkslice at he
  split at he
  · rename_i k n k' m hargs
    simp only [List.cons.injEq, and_true] at hargs
    obtain ⟨rfl, rfl⟩ := hargs
    obtain ⟨rfl, _⟩ := rep_val ha
    obtain ⟨rfl, _⟩ := rep_val hb
    cases he
    obtain ⟨rfl, h0, h1, h2, _⟩ := hp
    obtain ⟨zv, hr, hzc, hone, _⟩ := run_zeroV (P := P) (w := w) hz hd
    have hwrap : IntKind.i64.wrap n = n := by
      unfold IntKind.wrap IntKind.bits IntKind.signed
      simp only [Bool.true_and, decide_eq_true_eq]
      split <;> omega
    have hzsz : zv.cells.size = ti.size := by rw [← hzs, ← hzc]; simp
    have hrun : (Instr.makeSlice t (.int k n) (.int k' n)).run P w = .ok (.slice (some ⟨w.heap.size, 0, none⟩) n.toNat n.toNat)
        { w with heap := w.heap.push (.cells ((Array.range (n.toNat * ti.size)).map fun j => zv.cells[j % zv.cells.size]!) e) } := by
      have c1 : ¬ n < 0 := by omega
      have c2 : ¬ (281474976710656 : Int) < (ti.bytes : Int) * n := by omega
      by_cases hn : n.toNat * ti.size = 0
      · have hn0 : n = 0 := by
          rcases Nat.mul_eq_zero.1 hn with h | h <;> omega
        subst hn0
        simp [Instr.makeSlice, run_under ht, asInt, asIntOf, run_tinfo hi, hwrap, run_size hi, newRow, show Array.range 0 = #[] from rfl]
      · simp only [Instr.makeSlice, Sem.run_bind, run_under ht, Result.andThen, asInt, asIntOf, Sem.run_pure, run_tinfo hi, hwrap]
        simp [c1, c2, run_size hi, hn, hr, newRow]
    refine ⟨_, _, _, hrun, h.allocRow (w' := { w with heap := w.heap.push (.cells ((Array.range (n.toNat * ti.size)).map fun j => zv.cells[j % zv.cells.size]!) e) }) (ty := e)
      (cells := (Array.range (n.toNat * ti.size)).map fun j => zv.cells[j % zv.cells.size]!) (room := n.toNat) rfl rfl rfl rfl (fun x hx => ?_) (by simp) (by unfold maxLen; omega) (by simp) (fun i x k c hix hk => ?_), by simp, later_new, ?_⟩
    · have := List.eq_of_mem_replicate hx
      subst this
      simpa using hzs
    · rw [List.getElem?_replicate] at hix
      split at hix
      · rename_i hin
        cases hix
        obtain ⟨hsz', hc⟩ := rep_consts (S := S) (N := N) (μ := μ) (w := w) (d := d) hzc hone
        obtain ⟨u, hu, hr'⟩ := hc k c hk
        have hk' : k < ti.size := by
          have := (List.getElem?_eq_some_iff.1 hk).1
          simp at this
          omega
        exact ⟨u, by rw [zrep_get hzsz hpos hin hk']; exact hu, hr'⟩
      · cases hix
    · refine ⟨by simp, by simp, _, _, rfl, fun _ => ⟨by simp, by simp, fun _ => ⟨w.heap.size, by simp, by simp [Loc.at]⟩⟩⟩
  · cases he

end
end Go.Proofs.Yticflcpmlbaafaa.AL

/- AL: composite slices, stores, stores into maps, append. -/
set_option linter.unusedSimpArgs false
set_option linter.unusedVariables false
namespace Go.Proofs.Yticflcpmlbaafaa.AL
open Go
section
variable {P : Program} {w0 : World} {F S : Nat → Prop} {K : KMap} {N : Nat} {μ : Nat → Loc} {w : World}

theorem rowsOf_spec {α : Type} (sz : Nat) : ∀ (n : Nat) (l : List α), n * sz ≤ l.length → (rowsOf sz n l).length = n ∧ ∀ (i : Nat) (x : List α), (rowsOf sz n l)[i]? = some x → x.length = sz ∧ ∀ k, k < sz → x[k]? = l[i * sz + k]?
  | 0, l, h => ⟨rfl, fun i x hx => by simp [rowsOf] at hx⟩
  | n + 1, l, h => by
    rw [Nat.add_mul, Nat.one_mul] at h
    obtain ⟨h1, h2⟩ := rowsOf_spec sz n (l.drop sz) (by simp; omega)
    refine ⟨by simp [rowsOf, h1], fun i x hx => ?_⟩
    cases i with
    | zero =>
      simp [rowsOf] at hx
      subst hx
      refine ⟨by simp; omega, fun k hk => ?_⟩
      rw [List.getElem?_take_of_lt hk]
      simp
    | succ i =>
      simp only [rowsOf, List.getElem?_cons_succ] at hx
      obtain ⟨h3, h4⟩ := h2 i x hx
      refine ⟨h3, fun k hk => ?_⟩
      rw [h4 k hk, List.getElem?_drop]
      congr 1
      rw [Nat.add_mul]
      omega

theorem bslice_out (h : HRel w0 F S K N μ w) {t e : TypeId} {ti : TypeInfo} {z : List Value} {d : TypeDesc} {n : Nat} {parts : Array (Nat × Value)} {args : List T} (ht : P.underlying t = some (.slice e)) (hi : P.info? e = some ti) (hz : zeroOf P e = some z)
    (hd : P.underlying e = some d) (hzs : z.length = ti.size) (hpos : 0 < ti.size) (hsmall : n * ti.size ≤ 1000) (hlen : parts.size = args.length) (hargs : ∀ (i : Nat) (d : T), args[i]? = some d → ∃ x, parts[i]? = some x ∧ RepT S N μ w d x.2)
    {res : Res} (he : ev (.bslice ti.size ((List.range (n * ti.size)).map fun k => z.getD (k % z.length) undef) n (parts.toList.map fun x => (x.1 * ti.size, ti.size))) args K N = some res) (hp : res.pre) :
    Out P w0 F S N μ w (Instr.buildSlice t n parts) res := by
  simp only [ev] at he
  split at he
  · rename_i cs hfc
    cases he
    obtain ⟨zv, hr, hzc, hone, _⟩ := run_zeroV (P := P) (w := w) hz hd
    have hzsz : zv.cells.size = ti.size := by rw [← hzs, ← hzc]; simp
    have hz1 : ∀ x ∈ z, x.oneCell' = true := by simpa [oneAll] using hone
    have hzero : ∀ (i : Nat) (c : C), (((List.range (n * ti.size)).map fun k => z.getD (k % z.length) undef).map cV)[i]? = some c →
        ∃ u, ((Array.range (n * ti.size)).map (fun j => zv.cells[j % zv.cells.size]!))[i]? = some u ∧ RepC S N μ w c u := by
      intro i c hic
      simp only [List.map_map, List.getElem?_map, List.getElem?_range, Option.map_eq_some_iff] at hic
      obtain ⟨j, hj, rfl⟩ := hic
      have hlt : i < n * ti.size := by
        rcases Nat.lt_or_ge i (n * ti.size) with h' | h'
        · exact h'
        · rw [List.getElem?_eq_none (by simpa using h')] at hj; cases hj
      rw [List.getElem?_range hlt] at hj
      cases hj
      have hm : i % ti.size < z.length := by rw [hzs]; exact Nat.mod_lt _ hpos
      have hm' : i % ti.size < zv.cells.size := by rw [hzsz]; exact Nat.mod_lt _ hpos
      refine ⟨zv.cells[i % zv.cells.size]!, by simp [hlt], ?_⟩
      have e1 : zv.cells[i % zv.cells.size]! = z[i % ti.size] := by
        rw [hzsz, getElem!_pos zv.cells _ hm']
        have : zv.cells.toList[i % ti.size]? = z[i % ti.size]? := by rw [hzc]
        rw [List.getElem?_eq_getElem hm, List.getElem?_eq_getElem (by simpa using hm')] at this
        simpa using this
      simp only [Function.comp]
      rw [e1, hzs]
      have : z.getD (i % ti.size) undef = z[i % ti.size] := by simp [hm]
      rw [this]
      exact .val (hz1 _ (List.getElem_mem _))
    obtain ⟨arr, ha1, ha2, ha3⟩ := fill_cells (S := S) (N := N) (μ := μ) (w := w) (fun i => some (i * ti.size, ti.size)) (parts.toList.map fun x => (x.1 * ti.size, ti.size)) args _ cs parts.toList
      ((Array.range (n * ti.size)).map (fun j => zv.cells[j % zv.cells.size]!)) hfc (by simp [Function.comp_def]) (by simpa using hlen) (fun i d hid => by
        obtain ⟨x, hx, hrx⟩ := hargs i d hid
        exact ⟨x, by simpa using hx, hrx⟩) (by simp) hzero
    have hcl : cs.length = n * ti.size := by
      have : ∀ (ps : List (Nat × Nat)) (ds : List T) (cs cs' : List C), fillC ps ds cs = some cs' → cs'.length = cs.length := by
        intro ps
        induction ps with
        | nil => intro ds cs cs' h; cases ds <;> simp [fillC] at h; subst h; rfl
        | cons p ps ih =>
          intro ds cs cs' h
          obtain ⟨off, size⟩ := p
          cases ds with
          | nil => simp [fillC] at h
          | cons d ds =>
            cases d with
            | tup l => simp [fillC] at h
            | v d =>
              simp only [fillC] at h
              split at h
              · rename_i hc
                rw [ih ds _ cs' h]
                simp [splice]; omega
              · cases h
      rw [this _ _ _ _ hfc]; simp
    obtain ⟨r1, r2⟩ := rowsOf_spec ti.size n cs (by omega)
    refine ⟨.slice (some ⟨w.heap.size, 0, none⟩) n n, { w with heap := w.heap.push (.cells arr e) }, _, ?_, h.allocRow (w' := { w with heap := w.heap.push (.cells arr e) }) (ty := e) (cells := arr) (room := n) rfl rfl rfl rfl
      (fun x hx => by obtain ⟨i, hi', he⟩ := List.getElem_of_mem hx; exact (r2 i x (by rw [List.getElem?_eq_getElem hi', he])).1) (by rw [r1]; omega) (by unfold maxLen; have : n ≤ n * ti.size := Nat.le_mul_of_pos_right n hpos; omega) (by rw [ha2]; omega) (fun i x k c hix hk => ?_), by simp, later_new, ?_⟩
    · by_cases hn : n * ti.size = 0
      · have hn0 : n = 0 := by rcases Nat.mul_eq_zero.1 hn with h' | h' <;> omega
        subst hn0
        simp only [Nat.zero_mul] at ha1
        have e0 : ((Array.range 0).map (fun j => zv.cells[j % zv.cells.size]!)) = #[] := by simp [show Array.range 0 = #[] from rfl]
        rw [e0] at ha1
        simp [Instr.buildSlice, run_under ht, run_size hi, newRow, show Array.range 0 = #[] from rfl, ha1]
      · simp only [Instr.buildSlice, Sem.run_bind, run_under ht, Result.andThen, run_size hi]
        rw [if_neg (show ¬ n * ti.size > 2 ^ 24 by omega), if_neg hn]
        simp [hr, ha1, newRow]
    · obtain ⟨hxl, hxk⟩ := r2 i x hix
      have hk' : k < ti.size := by rw [← hxl]; exact (List.getElem?_eq_some_iff.1 hk).1
      rw [hxk k hk'] at hk
      exact ha3 _ c hk
    · exact ⟨by simp, by simp, _, _, rfl, fun _ => ⟨by simp, by simp, fun _ => ⟨w.heap.size, by simp, by simp [Loc.at]⟩⟩⟩
  · cases he

/-- An own row's cells are written over. -/
theorem HRel.setRow (h : HRel w0 F S K N μ w) {id ver sz : Nat} {xs ys : List (List C)} (hk : K id = some (.row ver sz xs)) {b : Nat} (hb : (μ id).blk = some b) {w' : World} {vals : Array Value} {ty : TypeId}
    (hh : w'.heap[b]? = some (.cells vals ty (0, 0))) (hos : w'.os = w.os) (htape : w'.tape = w.tape) (hout : w'.output = w.output) (hsize : w'.heap.size = w.heap.size) (hother : ∀ k, k ≠ b → w'.heap[k]? = w.heap[k]?)
    {loc : Loc} {ver' : Nat} (hl1 : loc.ver = ver') (hl2 : loc.blk = some b) (hl3 : loc.sz = sz) (hroom : ys.length ≤ loc.room) (hm : loc.room ≤ maxLen) (hlen : ∀ y, y ∈ ys → y.length = sz) (hfit : loc.org + loc.room * sz ≤ vals.size)
    (hlater : loc = μ id ∨ (μ id).ver < ver')
    (hc : ∀ i x k c, ys[i]? = some x → x[k]? = some c → ∃ u, vals[loc.org + i * sz + k]? = some u ∧ RepC S N μ w c u) :
    HRel w0 F S (upd K id (.row ver' sz ys)) N (fun j => if j = id then loc else μ j) w' := by
  obtain ⟨hv, hs, hid⟩ := h.ver hk
  have hL : Later N μ (fun j => if j = id then loc else μ j) := by
    intro j hj
    by_cases e : j = id
    · subst e
      rcases hlater with rfl | hlt
      · exact .inl (by simp)
      · exact .inr (by simp [hl1, hlt])
    · exact .inl (by simp [e])
  refine h.step (t := id) (fun k => k = b) hos htape hout (by omega) (fun k _ hne => hother k hne) (fun k hk' => ?_) (fun j o b' hj hkj hbj e => ?_) (Nat.le_refl N) hid (fun j hj => by simp [hj]) hL (fun hsame => ?_) (fun b' hb' => ?_) (fun j o b' hj hkj hbj e => ?_)
  · subst hk'
    exact (h.blk id _ _ hk hb).1
  · subst e
    exact h.dis j id o _ _ hj hkj hk hbj hb
  · refine ⟨by simp [hl1], by simp [hl3], by simpa using hroom, by simpa using hm, hlen, ?_⟩
    simp only [if_true, hl2]
    refine ⟨vals, ty, hh, hfit, fun i x k c hi hk' => ?_⟩
    obtain ⟨u, hu, hr⟩ := hc i x k c hi hk'
    exact ⟨u, hu, hr.move hsame (fun _ h => h) (Nat.le_refl N) hL⟩
  · simp only [if_true, hl2, Option.some.injEq] at hb'
    subst hb'
    have := h.blk id _ _ hk hb
    exact ⟨this.1, by omega⟩
  · simp only [if_true, hl2, Option.some.injEq] at e
    subst e
    exact h.dis j id o _ _ hj hkj hk hbj hb

theorem splice_get {α : Type} {f : Nat} {cs x : List α} (h : f + cs.length ≤ x.length) (k : Nat) : (splice f cs x)[k]? = if f ≤ k ∧ k < f + cs.length then cs[k - f]? else x[k]? := by
  unfold splice
  by_cases h1 : k < f
  · rw [if_neg (by omega), List.append_assoc, List.getElem?_append_left (by simp; omega), List.getElem?_take_of_lt h1]
  · by_cases h2 : k < f + cs.length
    · rw [if_pos (by omega), List.append_assoc, List.getElem?_append_right (by simp; omega), List.getElem?_append_left (by simp; omega)]
      congr 1
      simp; omega
    · rw [if_neg (by omega), List.getElem?_append_right (by simp; omega), List.getElem?_drop]
      congr 1
      simp; omega

theorem store_out (h : HRel w0 F S K N μ w) {t : TypeId} {ti : TypeInfo} (hi : P.info? t = some ti) {a b : T} {v u : Value} (ha : RepT S N μ w a v) (hb : RepT S N μ w b u)
    {res : Res} (he : evStore ti.size K N [a, b] = some res) (hp : res.pre) : ∃ w' μ', (Instr.storeAt t v u).run P w = .ok () w' ∧ HRel w0 F S res.K res.N μ' w' ∧ N ≤ res.N ∧ Later N μ μ' ∧ res.val = tC .any := by
  unfold evStore at he
  split at he
  · rename_i id ver i f d hargs
    simp only [List.cons.injEq, and_true] at hargs
    obtain ⟨rfl, rfl⟩ := hargs
    split at he
    · rename_i ver' sz xs hk
      cases he
      obtain ⟨rfl, hix, hfs, hds⟩ := hp
      obtain ⟨hv, hs, hid⟩ := h.ver hk
      obtain ⟨_, hle, A, rfl, hcur⟩ := ha
      obtain ⟨b, hb', rfl⟩ := hcur hv.symm
      obtain ⟨hus, huc⟩ := RepV.cells hb
      obtain ⟨_, o1, o2, o3, o4, o5, o6⟩ := h.obj id _ hk
      rw [hb'] at o6
      obtain ⟨vals, ty, hh, hfit, hall⟩ := o6
      have hx : xs[i]? = some xs[i] := List.getElem?_eq_getElem hix
      have hxl := h.rowLen hk hx
      have hg : xs.getD i [] = xs[i] := by simp [hix]
      have hin : (μ id).org + i * sz + f + u.cells.size ≤ vals.size := by
        have h1 : (i + 1) * sz ≤ (μ id).room * sz := Nat.mul_le_mul_right _ (by omega)
        rw [Nat.add_mul] at h1
        omega
      have hone : ∀ x ∈ u.cells.toList, x.oneCell' = true := by
        intro x hx
        obtain ⟨j, hj, he⟩ := List.getElem_of_mem hx
        have hj' : j < d.cells.length := by simp at hj; omega
        obtain ⟨y, hy, hr⟩ := huc j _ (List.getElem?_eq_getElem hj')
        have : u.cells.toList[j]? = some y := by simpa using hy
        rw [List.getElem?_eq_getElem hj, Option.some.injEq, he] at this
        subst this
        exact RepC.one hr
      have hst := run_storeCells_at P b ((μ id).org + i * sz + f) ty u.cells.toList 0 vals w hh (by simpa using hin) hone
      simp only [Nat.add_zero, Array.length_toList] at hst
      have hat : (μ id).at b i f = ⟨b, (μ id).org + i * sz + f, none⟩ := by simp [Loc.at, hs]
      refine ⟨w.setRow b (vals.toList.take ((μ id).org + i * sz + f) ++ u.cells.toList ++ vals.toList.drop ((μ id).org + i * sz + f + u.cells.size)).toArray, fun j => if j = id then μ id else μ j, ?_, h.setRow hk hb' (setRow_heap w b vals _ ty (0, 0) hh) rfl rfl rfl (by simp) (fun k hne => setRow_other w b k _ hne) hv hb' hs (by simpa using o3) o4 (fun y hy => ?_) ?_ (.inl rfl) (fun j x k c hj hc => ?_), Nat.le_refl N, fun j hj => .inl (by by_cases e : j = id <;> simp [e]), rfl⟩
      · rw [hat]
        simp only [Instr.storeAt, Instr.sureAddr, storeVar, Sem.run_bind, Sem.run_pure, Result.andThen, run_size hi]
        rw [if_neg (by rw [hus]; simp [hds])]
        exact hst
      · rcases List.mem_or_eq_of_mem_set hy with hy' | hy'
        · exact o5 y hy'
        · rw [hy', hg]
          simp [splice]; omega
      · simp only [List.size_toArray, List.length_append, List.length_take, List.length_drop, Array.length_toList]
        omega
      · have hput : ∀ q, (vals.toList.take ((μ id).org + i * sz + f) ++ u.cells.toList ++ vals.toList.drop ((μ id).org + i * sz + f + u.cells.size)).toArray[q]? = if (μ id).org + i * sz + f ≤ q ∧ q < (μ id).org + i * sz + f + u.cells.size then u.cells[q - ((μ id).org + i * sz + f)]? else vals[q]? := by
          intro q
          have := splice_get (f := (μ id).org + i * sz + f) (cs := u.cells.toList) (x := vals.toList) (by simpa using hin) q
          simpa [splice] using this
        rw [hput]
        by_cases e : j = i
        · subst e
          rw [List.getElem?_set_self (by omega)] at hj
          cases hj
          rw [hg] at hc
          rw [splice_get (by omega)] at hc
          have hkk : k < sz := by
            by_cases hkk : k < sz
            · exact hkk
            · rw [if_neg (by omega), List.getElem?_eq_none (by omega)] at hc; cases hc
          by_cases hin' : f ≤ k ∧ k < f + d.cells.length
          · rw [if_pos hin'] at hc
            rw [if_pos (by omega)]
            obtain ⟨y, hy, hr⟩ := huc _ c hc
            exact ⟨y, by rw [show (μ id).org + j * sz + k - ((μ id).org + j * sz + f) = k - f by omega]; exact hy, hr⟩
          · rw [if_neg hin'] at hc
            rw [if_neg (by omega)]
            exact hall j _ k c hx hc
        · rw [List.getElem?_set_ne (Ne.symm e)] at hj
          have hkk : k < sz := by have := h.rowLen hk hj; rw [← this]; exact (List.getElem?_eq_some_iff.1 hc).1
          have hne : ¬ ((μ id).org + i * sz + f ≤ (μ id).org + j * sz + k ∧ (μ id).org + j * sz + k < (μ id).org + i * sz + f + u.cells.size) := by
            rintro ⟨g1, g2⟩
            rcases Nat.lt_or_gt_of_ne e with hlt | hgt
            · have h1 : (j + 1) * sz ≤ i * sz := Nat.mul_le_mul_right _ (by omega)
              rw [Nat.add_mul] at h1
              omega
            · have h1 : (i + 1) * sz ≤ j * sz := Nat.mul_le_mul_right _ (by omega)
              rw [Nat.add_mul] at h1
              omega
          rw [if_neg hne]
          exact hall j x k c hj hc
    · cases he
  · cases he
end
end Go.Proofs.Yticflcpmlbaafaa.AL

/- AL: stores into maps, append. -/
set_option linter.unusedSimpArgs false
set_option linter.unusedVariables false
namespace Go.Proofs.Yticflcpmlbaafaa.AL
open Go
section
variable {P : Program} {w0 : World} {F S : Nat → Prop} {K : KMap} {N : Nat} {μ : Nat → Loc} {w : World}

theorem mset_new : ∀ (es : List (Value × V)) (k : Value) (d : V), mfind es k = none → mset es k d = es ++ [(k, d)]
  | [], k, d, h => rfl
  | (k', d') :: es, k, d, h => by
    simp only [mfind] at h
    split at h
    · cases h
    · rename_i hne
      simp only [mset, if_neg hne, List.cons_append, mset_new es k d h]

theorem mset_old : ∀ (es : List (Value × V)) (k : Value) (d : V) (j : Nat) (k' : Value) (d' : V), es[j]? = some (k', d') → keyEq k k' = true → (∀ j' k2 d2, j' < j → es[j']? = some (k2, d2) → keyEq k k2 = false) → mset es k d = es.set j (k, d)
  | [], k, d, j, k', d', h, hk, hb => by simp at h
  | (k0, d0) :: es, k, d, 0, k', d', h, hk, hb => by
    simp at h
    obtain ⟨rfl, rfl⟩ := h
    simp [mset, hk]
  | (k0, d0) :: es, k, d, j + 1, k', d', h, hk, hb => by
    have h0 := hb 0 k0 d0 (by omega) rfl
    simp only [mset, h0, Bool.false_eq_true, if_false, List.set_cons_succ]
    rw [mset_old es k d j k' d' (by simpa using h) hk (fun j' k2 d2 hj he => hb (j' + 1) k2 d2 (by omega) (by simpa using he))]

theorem plainEq_eq {a b : Value} (ht : tagOf a = tagOf b) (h : plainEq a b = true) : a = b := by
  unfold plainEq at h
  split at h
  · rename_i k m k' n
    have hk : k = k' := by cases k <;> cases k' <;> simp [tagOf, kindNo] at ht ⊢
    simp at h
    rw [hk, h]
  · simp at h; rw [h]
  · simp at h; rw [h]
  · cases h

theorem plainEqs_eq : ∀ (a b : List Value), a.map tagOf = b.map tagOf → plainEqs a b = true → a = b
  | [], [], _, _ => rfl
  | [], _ :: _, h, _ => by simp at h
  | _ :: _, [], h, _ => by simp at h
  | x :: a, y :: b, ht, h => by
    simp only [List.map_cons, List.cons.injEq] at ht
    simp only [plainEqs, Bool.and_eq_true] at h
    rw [plainEq_eq ht.1 h.1, plainEqs_eq a b ht.2 h.2]

theorem keyEq_eq {kk : KK} {a b : Value} (ha : keyOk kk a = true) (hb : keyOk kk b = true) (h : keyEq a b = true) : a = b := by
  cases kk with
  | sc t =>
    obtain ⟨h0, ha⟩ := keyOk_sc ha
    obtain ⟨_, hb⟩ := keyOk_sc hb
    unfold keyEq at h
    split at h
    · simp [tagOf] at ha; exact absurd ha.symm h0
    · exact plainEq_eq (ha.trans hb.symm) h
  | st ts =>
    obtain ⟨x, rfl, hx⟩ := keyOk_st ha
    obtain ⟨y, rfl, hy⟩ := keyOk_st hb
    simp only [keyEq] at h
    have := plainEqs_eq _ _ (hx.trans hy.symm) h
    rw [Array.toList_inj.1 this]

theorem sameBits_self {v : Value} (h : tagOf v ≠ 0) (n : Nat) : Instr.sameBits n v v = true := by
  cases v <;> simp [tagOf] at h <;> cases n <;> simp [Instr.sameBits, beq_str]

theorem sameBits_key {P : Program} {kt : TypeId} {kk : KK} (hkk : keyKind P kt = some kk) {k : Value} (hk : keyOk kk k = true) : Instr.sameBits 10000 k k = true := by
  rcases keyKind_cases hkk with ⟨d, t, hd, rfl, hc⟩ | ⟨fs, l, hd, hl, hs, hr, rfl⟩
  · obtain ⟨h0, ht⟩ := keyOk_sc hk
    exact sameBits_self (by rw [ht]; exact h0) _
  · obtain ⟨a, rfl, ha⟩ := keyOk_st hk
    show Instr.sameBits (9999 + 1) (.agg a) (.agg a) = true
    generalize (9999 : Nat) = n
    simp only [Instr.sameBits, beq_self_eq_true, Bool.true_and, List.all_eq_true]
    rintro ⟨x, y⟩ hm
    have hxy : x = y ∧ x ∈ a.toList := by
      have : ∀ l : List Value, ∀ x y, (x, y) ∈ l.zip l → x = y ∧ x ∈ l := by
        intro l
        induction l with
        | nil => intro x y h; simp at h
        | cons z l ih =>
          intro x y h
          simp only [List.zip_cons_cons, List.mem_cons, Prod.mk.injEq] at h
          rcases h with ⟨rfl, rfl⟩ | h
          · exact ⟨rfl, by simp⟩
          · exact ⟨(ih x y h).1, by simp [(ih x y h).2]⟩
      exact this _ x y hm
    obtain ⟨rfl, hx⟩ := hxy
    have ht := tagged_of hl hr ha
    obtain ⟨i, hi, he⟩ := List.getElem_of_mem hx
    have hlen := congrArg List.length ha
    simp at hlen
    have hi' : i < l.length := by simp at hi; omega
    have h1 : (l.map (·.1))[i]? = some i := by rw [hr]; simp [hi']
    obtain ⟨o, t', ho⟩ : ∃ o t', l[i] = (o, t') := ⟨_, _, rfl⟩
    have hoi : o = i := by simpa [hi', ho] using h1
    subst hoi
    obtain ⟨h0, v, hv, htv⟩ := ht o t' (by rw [← ho]; exact List.getElem_mem _)
    have : v = x := by
      have : a.toList[o]? = some v := by simpa using hv
      rw [List.getElem?_eq_getElem hi, he] at this
      exact (Option.some.inj this).symm
    subst this
    exact sameBits_self (by rw [htv]; exact h0) _

theorem mupd_out (h : HRel w0 F S K N μ w) {t kt et : TypeId} {kk : KK} (ht : P.underlying t = some (.map kt et)) (hkk : keyKind P kt = some kk) {a b c : T} {v u x : Value} (ha : RepT S N μ w a v) (hb : RepT S N μ w b u) (hc : RepT S N μ w c x)
    {res : Res} (he : evMupd kk K N [a, b, c] = some res) (hp : res.pre) : ∃ w' μ', (Instr.mapUpdate t v u x).run P w = .ok () w' ∧ HRel w0 F S res.K res.N μ' w' ∧ N ≤ res.N ∧ Later N μ μ' ∧ res.val = tC .any := by
  unfold evMupd at he
  split at he
  · rename_i id kt' d hargs
    simp only [List.cons.injEq, and_true] at hargs
    obtain ⟨rfl, rfl, rfl⟩ := hargs
    split at he
    · rename_i es k hk hkey
      cases he
      obtain ⟨hko, hes⟩ := hp
      obtain rfl := keyOf_rep hkey hb
      replace hc : RepV S N μ w d x := hc
      obtain ⟨hid, hv, bl, arr, clock, hbl, hh, hsz, hall⟩ := h.obj id _ hk
      obtain ⟨_, A, rfl, hcur⟩ := ha
      have hA := hcur hv
      rw [hbl] at hA
      subst hA
      have hall' : ∀ (i : Nat) (k : Value) (d : V), es[i]? = some (k, d) → ∃ e, arr.toList[i]? = some e ∧ e.key = k ∧ RepV S N μ w d e.val := fun i k d hi => by
        obtain ⟨e, he, hk, _, hr⟩ := hall i k d hi
        exact ⟨e, by simpa using he, hk, hr⟩
      have hesk : ∀ (i : Nat) (k' : Value) (d' : V), es[i]? = some (k', d') → keyOk kk k' = true := by
        intro i k' d' hi
        simp only [List.all_eq_true] at hes
        exact hes _ (List.mem_of_getElem? hi)
      have hkeys : ∀ e ∈ arr.toList, keyOk kk e.key = true := by
        intro e he
        obtain ⟨i, hi, hei⟩ := List.getElem_of_mem he
        have hi' : i < es.length := by simp at hi; omega
        obtain ⟨e', he', hk', _⟩ := hall' i _ _ (by rw [List.getElem?_eq_getElem hi'])
        rw [List.getElem?_eq_getElem hi, Option.some.injEq, hei] at he'
        subst he'
        rw [hk']
        exact hesk i _ _ (List.getElem?_eq_getElem hi')
      have hfind := run_findKey (P := P) (w := w) hkk hko hkeys
      have hgo : (getObj bl).run P w = .ok (.map arr clock) w := by simp [getObj, Sem.run, hh]
      have hck := run_checkKey (P := P) (w := w) hkk hko false
      have hset : ∀ o, (setObj bl o).run P w = .ok () { w with heap := w.heap.setIfInBounds bl o } := fun o => by simp [setObj, Sem.run, hh]
      have hlt := (h.blk id _ _ hk hbl).2
      have key : ∀ (arr' : Array MapEntry) (clock' : Nat), clock ≤ clock' → arr'.size = (mset es u d).length →
          (∀ (i : Nat) (k : Value) (d' : V), (mset es u d)[i]? = some (k, d') → ∃ e, arr'[i]? = some e ∧ e.key = k ∧ BornOk arr' clock' i e ∧ RepV S N μ w d' e.val) →
          HRel w0 F S (upd K id (.map (mset es u d))) N (fun j => if j = id then μ id else μ j) { w with heap := w.heap.setIfInBounds bl (.map arr' clock') } := by
        intro arr' clock' hcl hsz' hall2
        have hL : Later N μ (fun j => if j = id then μ id else μ j) := fun j hj => .inl (by by_cases e : j = id <;> simp [e])
        refine h.step (t := id) (fun k => k = bl) rfl rfl rfl (by simp) (fun k _ hne => by simp only [Array.getElem?_setIfInBounds]; rw [if_neg (Ne.symm hne)]) (fun k hk' => ?_) (fun j o b' hj hkj hbj e => ?_) (Nat.le_refl N) hid (fun j hj => by simp [hj]) hL (fun hsame => ?_) (fun b' hb' => ?_) (fun j o b' hj hkj hbj e => ?_)
        · subst hk'; exact (h.blk id _ _ hk hbl).1
        · subst e; exact h.dis j id o _ _ hj hkj hk hbj hbl
        · refine ⟨by simpa using hv, bl, arr', clock', by simpa using hbl, by simp [hlt], hsz', fun i k' d' hi => ?_⟩
          obtain ⟨e, he, hk', hb', hr⟩ := hall2 i k' d' hi
          exact ⟨e, he, hk', hb', hr.move hsame (fun _ h => h) (Nat.le_refl N) hL⟩
        · simp only [if_true, hbl, Option.some.injEq] at hb'
          subst hb'
          have := h.blk id _ _ hk hbl
          exact ⟨this.1, by simpa using this.2⟩
        · simp only [if_true, hbl, Option.some.injEq] at e
          subst e
          exact h.dis j id o _ _ hj hkj hk hbj hbl
      rcases entFind_mfind (S := S) (N := N) (μ := μ) (w := w) (es := es) (arr := arr.toList) (by simpa using hsz) hall' u 0 with ⟨e1, e2⟩ | ⟨j, vv, dd, e1, e2, e3, ej, kj, e4, e5, e6, e7⟩
      · refine ⟨_, _, ?_, key (arr.push { key := u, val := x, born := clock }) (clock + 1) (by omega) ?_ ?_, Nat.le_refl N, fun j hj => .inl (by by_cases e : j = id <;> simp [e]), rfl⟩
        · simp only [Instr.mapUpdate, Sem.run_bind, run_under ht, Result.andThen, hgo, hck, hfind, e1, hset]
        · rw [mset_new es u d e2]; simp [hsz]
        · rw [mset_new es u d e2]
          intro i k' d' hi
          by_cases hlt' : i < es.length
          · rw [List.getElem?_append_left hlt'] at hi
            obtain ⟨e, he, hk', hb', hr⟩ := hall i k' d' hi
            refine ⟨e, by rw [Array.getElem?_push, if_neg (by omega)]; exact he, hk', ⟨by have := hb'.1; omega, fun j' e' hj' heq => ?_⟩, hr⟩
            rw [Array.getElem?_push] at hj'
            split at hj'
            · cases hj'; have := hb'.1; simp only at heq; omega
            · exact hb'.2 j' e' hj' heq
          · rw [List.getElem?_append_right (by omega)] at hi
            have hi0 : i - es.length = 0 := by
              rcases Nat.eq_zero_or_pos (i - es.length) with h' | h'
              · exact h'
              · rw [List.getElem?_eq_none (by simp; omega)] at hi; cases hi
            rw [hi0] at hi
            simp at hi
            obtain ⟨rfl, rfl⟩ := hi
            refine ⟨{ key := u, val := x, born := clock }, by rw [Array.getElem?_push, if_pos (by omega)], rfl, ⟨Nat.lt_succ_self _, fun j' e' hj' heq => ?_⟩, hc⟩
            rw [Array.getElem?_push] at hj'
            split at hj'
            · omega
            · have hj2 : j' < es.length := by rw [← hsz]; exact (Array.getElem?_eq_some_iff.1 hj').1
              obtain ⟨e2, he2, _, hb2, _⟩ := hall j' _ _ (by rw [List.getElem?_eq_getElem hj2])
              rw [hj'] at he2
              cases he2
              have := hb2.1
              simp only at heq
              omega
      · have hjlt : j < es.length := (List.getElem?_eq_some_iff.1 e5).1
        have hkk' : kj = u := (keyEq_eq hko (hesk j _ _ e5) e6).symm
        have hms : mset es u d = es.set j (u, d) := mset_old es u d j kj dd e5 e6 (fun j' k2 d2 hj he => by
          obtain ⟨e', he', hk', _⟩ := hall' j' k2 d2 he
          rw [← hk']
          exact e7 j' e' hj he')
        obtain ⟨ee, hee, hkee, hbee, _⟩ := hall j kj dd e5
        have hej : ej = ee := by
          have : arr[j]? = some ej := by simpa using e4
          rw [hee] at this
          exact (Option.some.inj this).symm
        subst hej
        have modOk : ∀ {i : Nat} {e : MapEntry}, BornOk arr clock i e → BornOk (arr.modify j fun e => { e with key := u, val := x }) clock i e := fun {i e} hb => ⟨hb.1, fun j' e' hj' heq => by
          rw [Array.getElem?_modify] at hj'
          split at hj'
          · obtain ⟨e0, h0, rfl⟩ := Option.map_eq_some_iff.1 hj'
            exact hb.2 j' e0 h0 heq
          · exact hb.2 j' e' hj' heq⟩
        refine ⟨_, _, ?_, key (arr.modify j fun e => { e with key := u, val := x }) clock (by omega) ?_ ?_, Nat.le_refl N, fun j hj => .inl (by by_cases e : j = id <;> simp [e]), rfl⟩
        · have hst : (Instr.keyThatStays u u).run P w = .ok u w := by simp [Instr.keyThatStays, sameBits_key hkk hko]
          have hold : ((arr[0 + j]?).map (·.key)).getD u = u := by rw [Nat.zero_add, hee]; simp [hkee, hkk']
          simp only [Instr.mapUpdate, Sem.run_bind, run_under ht, Result.andThen, hgo, hck, hfind, e1]
          rw [hold, hst]
          simp only [hset, Nat.zero_add]
        · rw [hms]; simp [hsz]
        · rw [hms]
          intro i k' d' hi
          by_cases e : i = j
          · subst e
            rw [List.getElem?_set_self hjlt] at hi
            cases hi
            exact ⟨{ ej with key := u, val := x }, by rw [Array.getElem?_modify]; simp [hee], rfl, modOk hbee, hc⟩
          · rw [List.getElem?_set_ne (Ne.symm e)] at hi
            obtain ⟨e', he', hk', hb', hr⟩ := hall i k' d' hi
            exact ⟨e', by rw [Array.getElem?_modify, if_neg (Ne.symm e)]; exact he', hk', modOk hb', hr⟩
    · cases he
  · cases he

/-- What append reads of its source. -/
theorem src_spec (h : HRel w0 F S K N μ w) {y : T} {v : Value} (hy : RepT S N μ w y v) {sz : Nat} {ys : List (List C)} {p : Prop} (hs : srcRows K y = some (sz, ys, p)) (hp : p) :
    ∃ A c, v = .slice A ys.length c ∧ (∀ x, x ∈ ys → x.length = sz) ∧ ∃ news : List Value, news.length = ys.length * sz ∧ (ys ≠ [] → ∃ a, A = some a ∧ ∀ j u, news[j]? = some u → w.cell? (a.add j) = some u) ∧
      (∀ u ∈ news, u.oneCell' = true) ∧ ∀ i x k c, ys[i]? = some x → x[k]? = some c → ∃ u, news[i * sz + k]? = some u ∧ RepC S N μ w c u := by
  have build : ∀ (a : Addr) (ys : List (List C)) (sz : Nat), (∀ x, x ∈ ys → x.length = sz) → (∀ i x k c, ys[i]? = some x → x[k]? = some c → ∃ u, w.cell? (a.add (i * sz + k)) = some u ∧ RepC S N μ w c u) →
      ∃ news : List Value, news.length = ys.length * sz ∧ (∀ j u, news[j]? = some u → w.cell? (a.add j) = some u) ∧ (∀ u ∈ news, u.oneCell' = true) ∧ ∀ i x k c, ys[i]? = some x → x[k]? = some c → ∃ u, news[i * sz + k]? = some u ∧ RepC S N μ w c u := by
    intro a ys sz hl hc
    have hex : ∀ j, j < ys.length * sz → ∃ u, w.cell? (a.add j) = some u ∧ u.oneCell' = true := by
      intro j hj
      have hpos : 0 < sz := by rcases Nat.eq_zero_or_pos sz with e | e; (· subst e; simp at hj); exact e
      have hi : j / sz < ys.length := (Nat.div_lt_iff_lt_mul hpos).2 hj
      have hk : j % sz < sz := Nat.mod_lt _ hpos
      have hx := List.getElem?_eq_getElem hi
      have hxl := hl _ (List.getElem_mem hi)
      obtain ⟨u, hu, hr⟩ := hc (j / sz) _ (j % sz) _ hx (List.getElem?_eq_getElem (by omega))
      rw [Nat.mul_comm, Nat.div_add_mod] at hu
      exact ⟨u, hu, hr.one⟩
    refine ⟨(List.range (ys.length * sz)).map fun j => (w.cell? (a.add j)).getD undef, by simp, fun j u hu => ?_, fun u hu => ?_, fun i x k c hi hk => ?_⟩
    · simp only [List.getElem?_map, Option.map_eq_some_iff] at hu
      obtain ⟨j', hj', rfl⟩ := hu
      have hlt : j < ys.length * sz := by
        rcases Nat.lt_or_ge j (ys.length * sz) with h' | h'
        · exact h'
        · rw [List.getElem?_eq_none (by simpa using h')] at hj'; cases hj'
      rw [List.getElem?_range hlt] at hj'
      cases hj'
      obtain ⟨u, hu, _⟩ := hex j hlt
      rw [hu]; rfl
    · simp only [List.mem_map, List.mem_range] at hu
      obtain ⟨j, hj, rfl⟩ := hu
      obtain ⟨u, hu, h1⟩ := hex j hj
      rw [hu]; exact h1
    · obtain ⟨u, hu, hr⟩ := hc i x k c hi hk
      have hi' : i < ys.length := (List.getElem?_eq_some_iff.1 hi).1
      have hk' : k < sz := by rw [← hl x (List.mem_of_getElem? hi)]; exact (List.getElem?_eq_some_iff.1 hk).1
      have hlt : i * sz + k < ys.length * sz := by
        have h1 : (i + 1) * sz ≤ ys.length * sz := Nat.mul_le_mul_right _ hi'
        rw [Nat.add_mul] at h1
        omega
      exact ⟨u, by simp [hlt, hu], hr⟩
  unfold srcRows at hs
  split at hs
  · rename_i sz' xs
    cases hs
    cases hy with
    | rd g g1 g2 g3 g4 g5 =>
      rename_i A cap
      have hlen : (xs.map (·.map C.r)).length = xs.length := by simp
      have hl : ∀ x, x ∈ xs.map (·.map C.r) → x.length = sz := by
        intro x hx
        obtain ⟨z, hz, rfl⟩ := List.mem_map.1 hx
        simpa using g3 z hz
      have hrow : ∀ (i : Nat) (x : List C) (k : Nat) (c : C), (xs.map (·.map C.r))[i]? = some x → x[k]? = some c → ∃ z r, xs[i]? = some z ∧ z[k]? = some r ∧ c = .r r := by
        intro i x k c hi hk
        rw [List.getElem?_map] at hi
        cases hz : xs[i]? with
        | none => simp [hz] at hi
        | some z =>
          simp [hz] at hi
          subst hi
          obtain ⟨r, hr, rfl⟩ := repc_map_r hk
          exact ⟨z, r, rfl, hr, rfl⟩
      by_cases hne : xs = []
      · subst hne
        exact ⟨A, cap, rfl, by simp, [], by simp, fun h => absurd rfl h, by simp, fun i x k c hi => by simp at hi⟩
      · obtain ⟨a, rfl, hS, hc⟩ := g4 hne
        obtain ⟨news, n1, n2, n3, n4⟩ := build a (xs.map (·.map C.r)) sz hl (fun i x k c hi hk => by
          obtain ⟨z, r, hz, hr, rfl⟩ := hrow i x k c hi hk
          exact ⟨g i k, hc i z k r hz hr, g5 i z k r hz hr⟩)
        exact ⟨some a, cap, by rw [hlen], hl, news, n1, fun _ => ⟨a, rfl, n2⟩, n3, n4⟩
  · rename_i id ver off len
    split at hs
    · rename_i ver' sz' xs hk
      cases hs
      obtain ⟨rfl, hlen⟩ := hp
      obtain ⟨hv, hsz, hid⟩ := h.ver hk
      obtain ⟨_, hle, A, cap, rfl, hcur⟩ := hy
      obtain ⟨hcap, hroom, hA⟩ := hcur hv.symm
      have hll : ((xs.drop off).take len).length = len := by simp; omega
      have hl : ∀ x, x ∈ (xs.drop off).take len → x.length = sz := by
        intro x hx
        obtain ⟨i, hi, he⟩ := List.getElem_of_mem (List.mem_of_mem_drop (List.mem_of_mem_take hx))
        exact h.rowLen hk (by rw [List.getElem?_eq_getElem hi, he])
      by_cases hne : (xs.drop off).take len = []
      · rw [hne]
        have h0 : len = 0 := by rw [hne] at hll; simpa using hll.symm
        subst h0
        exact ⟨A, cap, rfl, by simp, [], by simp, fun h => absurd rfl h, by simp, fun i x k c hi => by simp at hi⟩
      · have hpos : 0 < len := by
          rcases Nat.eq_zero_or_pos len with e | e
          · subst e; simp at hne
          · exact e
        obtain ⟨b, hb, rfl⟩ := hA (by omega)
        obtain ⟨news, n1, n2, n3, n4⟩ := build ((μ id).at b off 0) ((xs.drop off).take len) sz hl (fun i x k c hi hk' => by
          have hlt : i < len := by
            have := (List.getElem?_eq_some_iff.1 hi).1
            rw [hll] at this; exact this
          rw [List.getElem?_take_of_lt hlt, List.getElem?_drop] at hi
          obtain ⟨u, hu, hr⟩ := h.cell hk hb hi hk'
          refine ⟨u, ?_, hr⟩
          rw [loc_at_add]
          unfold Loc.at at hu ⊢
          rw [hsz] at hu ⊢
          rw [Nat.add_mul] at hu
          simpa [Nat.add_assoc] using hu)
        exact ⟨some ((μ id).at b off 0), cap, by rw [hll], hl, news, n1, fun _ => ⟨_, rfl, n2⟩, n3, n4⟩
    · cases hs
  · cases hs

end
end Go.Proofs.Yticflcpmlbaafaa.AL
