/- Contracts of functions over abstract memory: a part of the proof; it states no law of its own. -/
import Derived.Test.YticflcpmlbaafaaAb
import Derived.ChangeArms
import Derived.DataElems
import Derived.ChangeOld
import Derived.Below
import Derived.SizedLaws
import Derived.ChangeShapes
import Derived.WideShapes

/- AL: the rows by which a walk goes on; calls that are handed data and hand back data; loops. -/
set_option linter.unusedSimpArgs false
set_option linter.unusedVariables false
namespace Go.Proofs.Yticflcpmlbaafaa.AL
open Go

/-! The rows of the walk. -/
section
variable {P : Program} {N0 : Nat} {st : St} {Q : XE → St → Prop} {R : St → Prop} {q : Bool}

theorem awp_skip : awp P N0 .skip st Q = Q .normal st := rfl
theorem awp_regs {ls : List (List SOp)} : awp P N0 (.regs ls) st Q = AWs P ls st (Q .normal) := rfl
theorem AWs_nil {R : St → Prop} : AWs P [] st R = True := rfl
theorem AWs_cons {L : List SOp} {Ls : List (List SOp)} {R : St → Prop} : AWs P (L :: Ls) st R = (AW P true L st R ∧ AWs P Ls st R) := rfl
theorem awp_reg {ops : List SOp} : awp P N0 (.reg q ops) st Q = AW P q ops st (Q .normal) := rfl
theorem awp_seq {a b : SCode} : awp P N0 (.seq a b) st Q = awp P N0 a st (seqQ (fun s => awp P N0 b s Q) Q) := rfl
theorem awp_block {id : Nat} {b : SCode} : awp P N0 (.block id b) st Q = awp P N0 b st (blockQ id Q) := rfl
theorem awp_rm {init : List SOp} {m : Operand} {it nx more pr out nb : Nat} {asg : List SOp} {b : SCode} : awp P N0 (.rm init m it nx more pr asg out nb b) st Q = AW P false init st fun s0 => ∀ r : Nat,
      (∃ v, opd s0.tm m = some v ∧ v = tV (.map none) ∧ Q .normal ⟨tmE (upd s0.tm it (tV (iptr r))) nx more, s0.K, s0.N⟩) ∨
      ∃ (mid : Nat) (es : List (Value × V)) (I : List (Value × V) → St → Prop), opd s0.tm m = some (tC (.map mid)) ∧ s0.K mid = some (.map es) ∧ es.all (fun e => keyGood e.1 && dataV e.2) = true ∧
        (∀ done s, I done s → s.tm it = some (tV (iptr r))) ∧
        (∃ s, Weak N0 ⟨upd s0.tm it (tV (iptr r)), dropK [mid] s0.K, s0.N⟩ s ∧ I [] s) ∧
        (∀ done e rest s, es.Perm (done ++ e :: rest) → I done s → AW P false asg ⟨tmR s.tm nx more pr e, s.K, s.N⟩ fun s' => awp P N0 b s' (blockQ nb (rmE N0 (I (done ++ [e])) (blockQ out Q)))) ∧
        (∀ done s, es.Perm done → I done s → Q .normal ⟨tmE s.tm nx more, s.K, s.N⟩) := by simp only [awp]
theorem awp_exit {id : Nat} : awp P N0 (.exit id) st Q = Q (.exit id) st := rfl
theorem awp_ret : awp P N0 .ret st Q = Q .ret st := rfl

def twoQ (t : Bool) (A B : Prop) : Prop := (t = true → A) ∧ (t = false → B)
theorem twoQ_true {A B : Prop} : twoQ true A B = A := by simp [twoQ]
theorem twoQ_false {A B : Prop} : twoQ false A B = B := by simp [twoQ]

theorem awp_cond {c : Operand} {a b : SCode} {tm : Nat → Option T} {K : KMap} {N : Nat} : awp P N0 (.cond c a b) ⟨tm, K, N⟩ Q = match opd tm c with
    | some (.v (.x (.r (.val (.bool t))))) => twoQ t (awp P N0 a ⟨tm, K, N⟩ Q) (awp P N0 b ⟨tm, K, N⟩ Q)
    | _ => False := rfl

theorem seqQ_normal {K : St → Prop} : seqQ K Q .normal = K := rfl
theorem seqQ_exit {K : St → Prop} {i : Nat} : seqQ K Q (.exit i) = Q (.exit i) := rfl
theorem seqQ_ret {K : St → Prop} : seqQ K Q .ret = Q .ret := rfl
theorem blockQ_normal {id : Nat} : blockQ id Q .normal = Q .normal := rfl
theorem blockQ_ret {id : Nat} : blockQ id Q .ret = Q .ret := rfl
theorem blockQ_here {id : Nat} : blockQ id Q (.exit id) = Q .normal := by funext s; simp [blockQ]
theorem blockQ_on {id j : Nat} (h : (j == id) = false) : blockQ id Q (.exit j) = Q (.exit j) := by
  funext s
  have : j ≠ id := by simpa using h
  simp [blockQ, this]

theorem AW_nil : AW P q [] st R = R st := rfl
theorem AW_cons {o : SOp} {l : List SOp} : AW P q (o :: l) st R = opW P q o st fun st' => AW P q l st' R := rfl
theorem opW_none {d : Option Nat} {op : SO} {as : List Operand} : opW P q ⟨d, op, as, none⟩ st R = stepW P q ⟨d, op, as, none⟩ st R := rfl

/-- A guarded operation: done (A), or left out (B). -/
def guardQ (b' b : Bool) (A B : Prop) : Prop := (b' = b → A) ∧ (b' = !b → B)

theorem opW_some {d : Option Nat} {op : SO} {as : List Operand} {t : Nat} {b : Bool} {tm : Nat → Option T} {K : KMap} {N : Nat} : opW P q ⟨d, op, as, some (t, b)⟩ ⟨tm, K, N⟩ R = match tm t with
    | some (.v (.x (.r (.val (.bool b'))))) => guardQ b' b (stepW P q ⟨d, op, as, none⟩ ⟨upd tm t (tB b), K, N⟩ R) (R ⟨updO (upd tm t (tB (!b))) d (.tup []), K, N⟩)
    | some (.tup []) => R ⟨updO tm d (.tup []), K, N⟩
    | _ => False := by
  unfold opW
  dsimp only
  split
  · rename_i b' hb
    have hu : ∀ c, b' = c → upd tm t (tB c) = tm := fun c hc => by
      subst hc
      funext k
      unfold upd
      split
      · rename_i e; rw [e, hb]
      · rfl
    simp only [hb]
    have hs : ∀ {st : St}, stepW P q ⟨d, op, as, some (t, b)⟩ st R = stepW P q ⟨d, op, as, none⟩ st R := rfl
    unfold guardQ
    by_cases e : b' = b
    · subst e
      rw [hu _ rfl]
      cases b' <;> simp [hs]
    · have e' : b' = !b := by cases b' <;> cases b <;> simp_all
      subst e'
      rw [hu _ rfl]
      cases b <;> simp
  · rename_i hb
    simp only [hb]
  · rename_i hn hn2
    split
    · rename_i b' hb; exact absurd hb (hn b')
    · rename_i hb; exact absurd hb hn2
    · rfl
theorem guardQ_tt {A B : Prop} : guardQ true true A B = A := by simp [guardQ]
theorem guardQ_ff {A B : Prop} : guardQ false false A B = A := by simp [guardQ]
theorem guardQ_tf {A B : Prop} : guardQ true false A B = B := by simp [guardQ]
theorem guardQ_ft {A B : Prop} : guardQ false true A B = B := by simp [guardQ]
theorem guardQ_at {b' b : Bool} {A B : Prop} (h1 : b' = b → A) (h2 : b' = (!b) → B) : guardQ b' b A B := ⟨h1, h2⟩

/-- What an operation that is no call asks for. -/
def evW (d : Option Nat) (o : Option Res) (tm : Nat → Option T) (R : St → Prop) : Prop :=
  match o with
  | some ⟨p, v, K, N⟩ => p ∧ R ⟨updO tm d v, K, N⟩
  | none => False
def evWu (d : Option Nat) (o : Option Res) (tm : Nat → Option T) (R : St → Prop) : Prop :=
  match o with
  | some ⟨p, _, K, N⟩ => p ∧ R ⟨clrO tm d, K, N⟩
  | none => False
theorem evW_some {d : Option Nat} {p : Prop} {v : T} {K : KMap} {N : Nat} {tm : Nat → Option T} : evW d (some ⟨p, v, K, N⟩) tm R = (p ∧ R ⟨updO tm d v, K, N⟩) := rfl
theorem evWu_some {d : Option Nat} {p : Prop} {v : T} {K : KMap} {N : Nat} {tm : Nat → Option T} : evWu d (some ⟨p, v, K, N⟩) tm R = (p ∧ R ⟨clrO tm d, K, N⟩) := rfl
theorem sW_mv {d : Option Nat} {as : List Operand} {g : Option (Nat × Bool)} {tm : Nat → Option T} {K : KMap} {N : Nat} : stepW P q ⟨d, .mv, as, g⟩ ⟨tm, K, N⟩ R = evW d ((opds tm as).bind fun x => ev SO.mv x K N) tm R := by
  unfold stepW evW
  dsimp only
  cases opds tm as with
  | none => rfl
  | some x => simp only [Option.bind_some]; cases ev SO.mv x K N <;> rfl
theorem sW_pick {d : Option Nat} {as : List Operand} {g : Option (Nat × Bool)} {tm : Nat → Option T} {K : KMap} {N : Nat} : stepW P q ⟨d, .pick, as, g⟩ ⟨tm, K, N⟩ R = evW d ((opds tm as).bind fun x => ev SO.pick x K N) tm R := by
  unfold stepW evW
  dsimp only
  cases opds tm as with
  | none => rfl
  | some x => simp only [Option.bind_some]; cases ev SO.pick x K N <;> rfl
theorem sW_box {d : Option Nat} {as : List Operand} {g : Option (Nat × Bool)} {tm : Nat → Option T} {K : KMap} {N : Nat} : stepW P q ⟨d, .box, as, g⟩ ⟨tm, K, N⟩ R = evW d ((opds tm as).bind fun x => ev SO.box x K N) tm R := by
  unfold stepW evW
  dsimp only
  cases opds tm as with
  | none => rfl
  | some x => simp only [Option.bind_some]; cases ev SO.box x K N <;> rfl
theorem sW_alloc (z : List Value) {d : Option Nat} {as : List Operand} {g : Option (Nat × Bool)} {tm : Nat → Option T} {K : KMap} {N : Nat} : stepW P q ⟨d, (.alloc z), as, g⟩ ⟨tm, K, N⟩ R = evW d ((opds tm as).bind fun x => ev (SO.alloc z) x K N) tm R := by
  unfold stepW evW
  dsimp only
  cases opds tm as with
  | none => rfl
  | some x => simp only [Option.bind_some]; cases ev (SO.alloc z) x K N <;> rfl
theorem sW_build (z : List Value) (p : List (Nat × Nat)) {d : Option Nat} {as : List Operand} {g : Option (Nat × Bool)} {tm : Nat → Option T} {K : KMap} {N : Nat} : stepW P q ⟨d, (.build z p), as, g⟩ ⟨tm, K, N⟩ R = evW d ((opds tm as).bind fun x => ev (SO.build z p) x K N) tm R := by
  unfold stepW evW
  dsimp only
  cases opds tm as with
  | none => rfl
  | some x => simp only [Option.bind_some]; cases ev (SO.build z p) x K N <;> rfl
theorem sW_bslice (a : Nat) (z : List Value) (n : Nat) (p : List (Nat × Nat)) {d : Option Nat} {as : List Operand} {g : Option (Nat × Bool)} {tm : Nat → Option T} {K : KMap} {N : Nat} : stepW P q ⟨d, (.bslice a z n p), as, g⟩ ⟨tm, K, N⟩ R = evW d ((opds tm as).bind fun x => ev (SO.bslice a z n p) x K N) tm R := by
  unfold stepW evW
  dsimp only
  cases opds tm as with
  | none => rfl
  | some x => simp only [Option.bind_some]; cases ev (SO.bslice a z n p) x K N <;> rfl
theorem sW_load (a : Bool) (n : Nat) {d : Option Nat} {as : List Operand} {g : Option (Nat × Bool)} {tm : Nat → Option T} {K : KMap} {N : Nat} : stepW P q ⟨d, (.load a n), as, g⟩ ⟨tm, K, N⟩ R = evW d ((opds tm as).bind fun x => ev (SO.load a n) x K N) tm R := by
  unfold stepW evW
  dsimp only
  cases opds tm as with
  | none => rfl
  | some x => simp only [Option.bind_some]; cases ev (SO.load a n) x K N <;> rfl
theorem sW_store (n : Nat) {d : Option Nat} {as : List Operand} {g : Option (Nat × Bool)} {tm : Nat → Option T} {K : KMap} {N : Nat} : stepW P q ⟨d, (.store n), as, g⟩ ⟨tm, K, N⟩ R = evWu d ((opds tm as).bind fun x => ev (SO.store n) x K N) tm R := by
  unfold stepW evWu
  dsimp only
  cases opds tm as with
  | none => rfl
  | some x => simp only [Option.bind_some]; cases ev (SO.store n) x K N <;> rfl
theorem sW_nilc {d : Option Nat} {as : List Operand} {g : Option (Nat × Bool)} {tm : Nat → Option T} {K : KMap} {N : Nat} : stepW P q ⟨d, .nilc, as, g⟩ ⟨tm, K, N⟩ R = evW d ((opds tm as).bind fun x => ev SO.nilc x K N) tm R := by
  unfold stepW evW
  dsimp only
  cases opds tm as with
  | none => rfl
  | some x => simp only [Option.bind_some]; cases ev SO.nilc x K N <;> rfl
theorem sW_bin (o : BinOp) {d : Option Nat} {as : List Operand} {g : Option (Nat × Bool)} {tm : Nat → Option T} {K : KMap} {N : Nat} : stepW P q ⟨d, (.bin o), as, g⟩ ⟨tm, K, N⟩ R = evW d ((opds tm as).bind fun x => ev (SO.bin o) x K N) tm R := by
  unfold stepW evW
  dsimp only
  cases opds tm as with
  | none => rfl
  | some x => simp only [Option.bind_some]; cases ev (SO.bin o) x K N <;> rfl
theorem sW_binb (o : BinOp) {d : Option Nat} {as : List Operand} {g : Option (Nat × Bool)} {tm : Nat → Option T} {K : KMap} {N : Nat} : stepW P q ⟨d, (.binb o), as, g⟩ ⟨tm, K, N⟩ R = evW d ((opds tm as).bind fun x => ev (SO.binb o) x K N) tm R := by
  unfold stepW evW
  dsimp only
  cases opds tm as with
  | none => rfl
  | some x => simp only [Option.bind_some]; cases ev (SO.binb o) x K N <;> rfl
theorem sW_eqs (a : Bool) (p : List (Nat × Nat)) {d : Option Nat} {as : List Operand} {g : Option (Nat × Bool)} {tm : Nat → Option T} {K : KMap} {N : Nat} : stepW P q ⟨d, (.eqs a p), as, g⟩ ⟨tm, K, N⟩ R = evW d ((opds tm as).bind fun x => ev (SO.eqs a p) x K N) tm R := by
  unfold stepW evW
  dsimp only
  cases opds tm as with
  | none => rfl
  | some x => simp only [Option.bind_some]; cases ev (SO.eqs a p) x K N <;> rfl
theorem sW_un (o : UnOp) {d : Option Nat} {as : List Operand} {g : Option (Nat × Bool)} {tm : Nat → Option T} {K : KMap} {N : Nat} : stepW P q ⟨d, (.un o), as, g⟩ ⟨tm, K, N⟩ R = evW d ((opds tm as).bind fun x => ev (SO.un o) x K N) tm R := by
  unfold stepW evW
  dsimp only
  cases opds tm as with
  | none => rfl
  | some x => simp only [Option.bind_some]; cases ev (SO.un o) x K N <;> rfl
theorem sW_conv (k : IntKind) {d : Option Nat} {as : List Operand} {g : Option (Nat × Bool)} {tm : Nat → Option T} {K : KMap} {N : Nat} : stepW P q ⟨d, (.conv k), as, g⟩ ⟨tm, K, N⟩ R = evW d ((opds tm as).bind fun x => ev (SO.conv k) x K N) tm R := by
  unfold stepW evW
  dsimp only
  cases opds tm as with
  | none => rfl
  | some x => simp only [Option.bind_some]; cases ev (SO.conv k) x K N <;> rfl
theorem sW_mkfn (f : FuncId) {d : Option Nat} {as : List Operand} {g : Option (Nat × Bool)} {tm : Nat → Option T} {K : KMap} {N : Nat} : stepW P q ⟨d, (.mkfn f), as, g⟩ ⟨tm, K, N⟩ R = evW d ((opds tm as).bind fun x => ev (SO.mkfn f) x K N) tm R := by
  unfold stepW evW
  dsimp only
  cases opds tm as with
  | none => rfl
  | some x => simp only [Option.bind_some]; cases ev (SO.mkfn f) x K N <;> rfl
theorem sW_mkmap {d : Option Nat} {as : List Operand} {g : Option (Nat × Bool)} {tm : Nat → Option T} {K : KMap} {N : Nat} : stepW P q ⟨d, .mkmap, as, g⟩ ⟨tm, K, N⟩ R = evW d ((opds tm as).bind fun x => ev SO.mkmap x K N) tm R := by
  unfold stepW evW
  dsimp only
  cases opds tm as with
  | none => rfl
  | some x => simp only [Option.bind_some]; cases ev SO.mkmap x K N <;> rfl
theorem sW_mkslice (a b : Nat) (z : List Value) {d : Option Nat} {as : List Operand} {g : Option (Nat × Bool)} {tm : Nat → Option T} {K : KMap} {N : Nat} : stepW P q ⟨d, (.mkslice a b z), as, g⟩ ⟨tm, K, N⟩ R = evW d ((opds tm as).bind fun x => ev (SO.mkslice a b z) x K N) tm R := by
  unfold stepW evW
  dsimp only
  cases opds tm as with
  | none => rfl
  | some x => simp only [Option.bind_some]; cases ev (SO.mkslice a b z) x K N <;> rfl
theorem sW_slice (n : Nat) (a b : Bool) {d : Option Nat} {as : List Operand} {g : Option (Nat × Bool)} {tm : Nat → Option T} {K : KMap} {N : Nat} : stepW P q ⟨d, (.slice n a b), as, g⟩ ⟨tm, K, N⟩ R = evW d ((opds tm as).bind fun x => ev (SO.slice n a b) x K N) tm R := by
  unfold stepW evW
  dsimp only
  cases opds tm as with
  | none => rfl
  | some x => simp only [Option.bind_some]; cases ev (SO.slice n a b) x K N <;> rfl
theorem sW_sslice (a b : Bool) {d : Option Nat} {as : List Operand} {g : Option (Nat × Bool)} {tm : Nat → Option T} {K : KMap} {N : Nat} : stepW P q ⟨d, (.sslice a b), as, g⟩ ⟨tm, K, N⟩ R = evW d ((opds tm as).bind fun x => ev (SO.sslice a b) x K N) tm R := by
  unfold stepW evW
  dsimp only
  cases opds tm as with
  | none => rfl
  | some x => simp only [Option.bind_some]; cases ev (SO.sslice a b) x K N <;> rfl
theorem sW_faddr (n : Nat) {d : Option Nat} {as : List Operand} {g : Option (Nat × Bool)} {tm : Nat → Option T} {K : KMap} {N : Nat} : stepW P q ⟨d, (.faddr n), as, g⟩ ⟨tm, K, N⟩ R = evW d ((opds tm as).bind fun x => ev (SO.faddr n) x K N) tm R := by
  unfold stepW evW
  dsimp only
  cases opds tm as with
  | none => rfl
  | some x => simp only [Option.bind_some]; cases ev (SO.faddr n) x K N <;> rfl
theorem sW_field (a : Bool) (n m : Nat) {d : Option Nat} {as : List Operand} {g : Option (Nat × Bool)} {tm : Nat → Option T} {K : KMap} {N : Nat} : stepW P q ⟨d, (.field a n m), as, g⟩ ⟨tm, K, N⟩ R = evW d ((opds tm as).bind fun x => ev (SO.field a n m) x K N) tm R := by
  unfold stepW evW
  dsimp only
  cases opds tm as with
  | none => rfl
  | some x => simp only [Option.bind_some]; cases ev (SO.field a n m) x K N <;> rfl
theorem sW_iaddr (n : Nat) {d : Option Nat} {as : List Operand} {g : Option (Nat × Bool)} {tm : Nat → Option T} {K : KMap} {N : Nat} : stepW P q ⟨d, (.iaddr n), as, g⟩ ⟨tm, K, N⟩ R = evW d ((opds tm as).bind fun x => ev (SO.iaddr n) x K N) tm R := by
  unfold stepW evW
  dsimp only
  cases opds tm as with
  | none => rfl
  | some x => simp only [Option.bind_some]; cases ev (SO.iaddr n) x K N <;> rfl
theorem sW_iarr (n m : Nat) {d : Option Nat} {as : List Operand} {g : Option (Nat × Bool)} {tm : Nat → Option T} {K : KMap} {N : Nat} : stepW P q ⟨d, (.iarr n m), as, g⟩ ⟨tm, K, N⟩ R = evW d ((opds tm as).bind fun x => ev (SO.iarr n m) x K N) tm R := by
  unfold stepW evW
  dsimp only
  cases opds tm as with
  | none => rfl
  | some x => simp only [Option.bind_some]; cases ev (SO.iarr n m) x K N <;> rfl
theorem sW_index (n : Nat) (a : Bool) (m : Nat) {d : Option Nat} {as : List Operand} {g : Option (Nat × Bool)} {tm : Nat → Option T} {K : KMap} {N : Nat} : stepW P q ⟨d, (.index n a m), as, g⟩ ⟨tm, K, N⟩ R = evW d ((opds tm as).bind fun x => ev (SO.index n a m) x K N) tm R := by
  unfold stepW evW
  dsimp only
  cases opds tm as with
  | none => rfl
  | some x => simp only [Option.bind_some]; cases ev (SO.index n a m) x K N <;> rfl
theorem sW_sidx {d : Option Nat} {as : List Operand} {g : Option (Nat × Bool)} {tm : Nat → Option T} {K : KMap} {N : Nat} : stepW P q ⟨d, .sidx, as, g⟩ ⟨tm, K, N⟩ R = evW d ((opds tm as).bind fun x => ev SO.sidx x K N) tm R := by
  unfold stepW evW
  dsimp only
  cases opds tm as with
  | none => rfl
  | some x => simp only [Option.bind_some]; cases ev SO.sidx x K N <;> rfl
theorem sW_idxb {d : Option Nat} {as : List Operand} {g : Option (Nat × Bool)} {tm : Nat → Option T} {K : KMap} {N : Nat} : stepW P q ⟨d, .idxb, as, g⟩ ⟨tm, K, N⟩ R = evW d ((opds tm as).bind fun x => ev SO.idxb x K N) tm R := by
  unfold stepW evW
  dsimp only
  cases opds tm as with
  | none => rfl
  | some x => simp only [Option.bind_some]; cases ev SO.idxb x K N <;> rfl
theorem sW_look (k : KK) (a b : Bool) (z : List Value) {d : Option Nat} {as : List Operand} {g : Option (Nat × Bool)} {tm : Nat → Option T} {K : KMap} {N : Nat} : stepW P q ⟨d, (.look k a b z), as, g⟩ ⟨tm, K, N⟩ R = evW d ((opds tm as).bind fun x => ev (SO.look k a b z) x K N) tm R := by
  unfold stepW evW
  dsimp only
  cases opds tm as with
  | none => rfl
  | some x => simp only [Option.bind_some]; cases ev (SO.look k a b z) x K N <;> rfl
theorem sW_mupd (k : KK) {d : Option Nat} {as : List Operand} {g : Option (Nat × Bool)} {tm : Nat → Option T} {K : KMap} {N : Nat} : stepW P q ⟨d, (.mupd k), as, g⟩ ⟨tm, K, N⟩ R = evWu d ((opds tm as).bind fun x => ev (SO.mupd k) x K N) tm R := by
  unfold stepW evWu
  dsimp only
  cases opds tm as with
  | none => rfl
  | some x => simp only [Option.bind_some]; cases ev (SO.mupd k) x K N <;> rfl
theorem sW_extract (n : Nat) {d : Option Nat} {as : List Operand} {g : Option (Nat × Bool)} {tm : Nat → Option T} {K : KMap} {N : Nat} : stepW P q ⟨d, (.extract n), as, g⟩ ⟨tm, K, N⟩ R = evW d ((opds tm as).bind fun x => ev (SO.extract n) x K N) tm R := by
  unfold stepW evW
  dsimp only
  cases opds tm as with
  | none => rfl
  | some x => simp only [Option.bind_some]; cases ev (SO.extract n) x K N <;> rfl
theorem sW_clear (n : Nat) {d : Option Nat} {as : List Operand} {g : Option (Nat × Bool)} {tm : Nat → Option T} {K : KMap} {N : Nat} : stepW P q ⟨d, (.clear n), as, g⟩ ⟨tm, K, N⟩ R = evW d ((opds tm as).bind fun x => ev (SO.clear n) x K N) tm R := by
  unfold stepW evW
  dsimp only
  cases opds tm as with
  | none => rfl
  | some x => simp only [Option.bind_some]; cases ev (SO.clear n) x K N <;> rfl
theorem sW_len (n : Nat) {d : Option Nat} {as : List Operand} {g : Option (Nat × Bool)} {tm : Nat → Option T} {K : KMap} {N : Nat} : stepW P q ⟨d, (.len n), as, g⟩ ⟨tm, K, N⟩ R = evW d ((opds tm as).bind fun x => ev (SO.len n) x K N) tm R := by
  unfold stepW evW
  dsimp only
  cases opds tm as with
  | none => rfl
  | some x => simp only [Option.bind_some]; cases ev (SO.len n) x K N <;> rfl
theorem sW_max {d : Option Nat} {as : List Operand} {g : Option (Nat × Bool)} {tm : Nat → Option T} {K : KMap} {N : Nat} : stepW P q ⟨d, .max, as, g⟩ ⟨tm, K, N⟩ R = evW d ((opds tm as).bind fun x => ev SO.max x K N) tm R := by
  unfold stepW evW
  dsimp only
  cases opds tm as with
  | none => rfl
  | some x => simp only [Option.bind_some]; cases ev SO.max x K N <;> rfl
theorem sW_min {d : Option Nat} {as : List Operand} {g : Option (Nat × Bool)} {tm : Nat → Option T} {K : KMap} {N : Nat} : stepW P q ⟨d, .min, as, g⟩ ⟨tm, K, N⟩ R = evW d ((opds tm as).bind fun x => ev SO.min x K N) tm R := by
  unfold stepW evW
  dsimp only
  cases opds tm as with
  | none => rfl
  | some x => simp only [Option.bind_some]; cases ev SO.min x K N <;> rfl
theorem sW_append (a b : Nat) (z : List Value) {d : Option Nat} {as : List Operand} {g : Option (Nat × Bool)} {tm : Nat → Option T} {K : KMap} {N : Nat} : stepW P q ⟨d, (.append a b z), as, g⟩ ⟨tm, K, N⟩ R = evW d ((opds tm as).bind fun x => ev (SO.append a b z) x K N) tm R := by
  unfold stepW evW
  dsimp only
  cases opds tm as with
  | none => rfl
  | some x => simp only [Option.bind_some]; cases ev (SO.append a b z) x K N <;> rfl

/-- What has to hold behind a call: not walked before its result is known. -/
def ThenR (R : St → Prop) (tm : Nat → Option T) (d : Option Nat) (v : T) (K : KMap) (N : Nat) : Prop := R ⟨updO tm d v, K, N⟩
theorem thenR_v {R : St → Prop} {tm : Nat → Option T} {d : Option Nat} {x : V} {K : KMap} {N : Nat} : ThenR R tm d (.v x) K N = R ⟨updO tm d (.v x), K, N⟩ := rfl
theorem thenR_tup {R : St → Prop} {tm : Nat → Option T} {d : Option Nat} {x : List V} {K : KMap} {N : Nat} : ThenR R tm d (.tup x) K N = R ⟨updO tm d (.tup x), K, N⟩ := rfl
theorem thenR_ren {R : St → Prop} {tm : Nat → Option T} {d : Option Nat} {ρ : Nat → Nat} {x : T} {K : KMap} {N : Nat} : ThenR R tm d (x.ren ρ) K N = R ⟨updO tm d (x.ren ρ), K, N⟩ := rfl

theorem stepW_call {d : Option Nat} {f : FuncId} {as : List Operand} {g : Option (Nat × Bool)} {tm : Nat → Option T} {K : KMap} {N : Nat} : stepW P q ⟨d, .call f, as, g⟩ ⟨tm, K, N⟩ R = match opds tm as with
    | some args => CallW P q f args K N (ThenR R tm d)
    | none => False := by
  unfold stepW
  dsimp only
  cases opds tm as <;> rfl

theorem stepW_isnil {neg : Bool} {d : Option Nat} {as : List Operand} {g : Option (Nat × Bool)} {tm : Nat → Option T} {K : KMap} {N : Nat} : stepW P q ⟨d, .isnil neg, as, g⟩ ⟨tm, K, N⟩ R = match opds tm as with
    | some args => isnilW K (fun b => R ⟨updO tm d (tB (b != neg)), K, N⟩) args
    | none => False := by
  unfold stepW
  dsimp only
  cases opds tm as <;> rfl
theorem isnilW_nil {K : KMap} {R : Bool → Prop} : isnilW K R [.v (.x (.r (.val (.slice none 0 0))))] = R true := rfl
theorem isnilW_rd {K : KMap} {R : Bool → Prop} {sz : Nat} {xs : List (List AL.R)} : isnilW K R [.v (.x (.r (.rd sz xs)))] = ((xs = [] → R true) ∧ R false) := rfl
theorem isnilW_own {K : KMap} {R : Bool → Prop} {id ver off len : Nat} : isnilW K R [.v (.x (.own id ver off len))] = (rowVer ver (K id) ∧ (len = 0 → R true) ∧ R false) := rfl

theorem stepW_callv {d : Option Nat} {as : List Operand} {g : Option (Nat × Bool)} {tm : Nat → Option T} {K : KMap} {N : Nat} : stepW P q ⟨d, .callv, as, g⟩ ⟨tm, K, N⟩ R = match opds tm as with
    | some (.v (.x (.fn f caps)) :: rest) => CallW P q f (rest ++ caps.map fun id => tC (.ptr id 0 0 0)) K N (ThenR R tm d)
    | _ => False := by
  unfold stepW
  dsimp only
  rcases opds tm as with _ | l
  · rfl
  · rcases l with _ | ⟨a, rest⟩
    · rfl
    · rcases a with (c | _) | _
      · cases c <;> rfl
      · rfl
      · rfl

theorem opd_tmp {tm : Nat → Option T} {t : Nat} : opd tm (.tmp t) = tm t := rfl
theorem opd_int {tm : Nat → Option T} {k : IntKind} {n : Int} : opd tm (.const (.int k n)) = some (tV (.int k n)) := rfl
theorem opd_bool {tm : Nat → Option T} {b : Bool} : opd tm (.const (.bool b)) = some (tB b) := rfl
theorem opd_str {tm : Nat → Option T} {b : ByteArray} : opd tm (.const (.string b)) = some (tS b) := rfl
theorem opd_slice {tm : Nat → Option T} {n m : Nat} {a : Option Addr} : opd tm (.const (.slice a n m)) = some (tV (.slice a n m)) := rfl
theorem opd_func {tm : Nat → Option T} {f : FuncId} : opd tm (.func f) = some (tC (.fn f [])) := rfl
theorem upd_at {α : Type} {f : Nat → Option α} {i j : Nat} {a : α} : upd f i a j = if j = i then some a else f j := rfl
theorem emp_at {α : Type} {j : Nat} : (emp : Nat → Option α) j = none := rfl
theorem updO_some {tm : Nat → Option T} {t : Nat} {v : T} : updO tm (some t) v = upd tm t v := rfl
theorem updO_none {tm : Nat → Option T} {v : T} : updO tm none v = tm := rfl
theorem clrO_some {tm : Nat → Option T} {t : Nat} : clrO tm (some t) = clr tm t := rfl
theorem clrO_none {tm : Nat → Option T} : clrO tm none = tm := rfl
theorem clr_at {α : Type} {f : Nat → Option α} {i j : Nat} : clr f i j = if j = i then none else f j := rfl
end

/-- A piece of the code is unfolded where the walk has reached it. -/
theorem awpU {c c' : SCode} (h : c = c') : (∀ {P : Program} {N0 : Nat} {tm : Nat → Option T} {t : Nat} {v : T} {K : KMap} {N : Nat} {Q : XE → St → Prop}, awp P N0 c ⟨upd tm t v, K, N⟩ Q = awp P N0 c' ⟨upd tm t v, K, N⟩ Q) ∧
    ∀ {P : Program} {N0 : Nat} {tm : Nat → Option T} {t : Nat} {K : KMap} {N : Nat} {Q : XE → St → Prop}, awp P N0 c ⟨clr tm t, K, N⟩ Q = awp P N0 c' ⟨clr tm t, K, N⟩ Q := by subst h; exact ⟨rfl, rfl⟩
theorem AWU {l l' : List SOp} (h : l = l') : (∀ {P : Program} {q : Bool} {tm : Nat → Option T} {t : Nat} {v : T} {K : KMap} {N : Nat} {R : St → Prop}, AW P q l ⟨upd tm t v, K, N⟩ R = AW P q l' ⟨upd tm t v, K, N⟩ R) ∧
    ∀ {P : Program} {q : Bool} {tm : Nat → Option T} {t : Nat} {K : KMap} {N : Nat} {R : St → Prop}, AW P q l ⟨clr tm t, K, N⟩ R = AW P q l' ⟨clr tm t, K, N⟩ R := by subst h; exact ⟨rfl, rfl⟩

/-! What is handed back. -/
theorem below_r {n : Nat} {r : R} : T.below n (.v (.x (.r r))) = true := rfl
theorem below_cons {n : Nat} {d : V} {l : List V} : T.below n (.tup (d :: l)) = (d.below n && T.below n (.tup l)) := rfl
theorem below_nil {n : Nat} : T.below n (.tup []) = true := rfl
theorem below_vx {n : Nat} {r : R} : V.below n (.x (.r r)) = true := rfl

/-! Branches taken apart into implications. -/
theorem twoQ_dec {p : Prop} [Decidable p] {A B : Prop} : twoQ (decide p) A B = ((p → A) ∧ (¬ p → B)) := by unfold twoQ; by_cases h : p <;> simp [h]
theorem twoQ_ndec {p : Prop} [Decidable p] {A B : Prop} : twoQ (!decide p) A B = ((¬ p → A) ∧ (p → B)) := by unfold twoQ; by_cases h : p <;> simp [h]
theorem twoQ_not {t : Bool} {A B : Prop} : twoQ (!t) A B = twoQ t B A := by unfold twoQ; cases t <;> simp
theorem twoQ_bool {t : Bool} {A B : Prop} : twoQ t A B = ((t = true → A) ∧ (t = false → B)) := rfl
theorem guardQ_dect {p : Prop} [Decidable p] {A B : Prop} : guardQ (decide p) true A B = ((p → A) ∧ (¬ p → B)) := by unfold guardQ; by_cases h : p <;> simp [h]
theorem guardQ_decf {p : Prop} [Decidable p] {A B : Prop} : guardQ (decide p) false A B = ((¬ p → A) ∧ (p → B)) := by unfold guardQ; by_cases h : p <;> simp [h]
theorem guardQ_not {t b : Bool} {A B : Prop} : guardQ (!t) b A B = guardQ t (!b) A B := by unfold guardQ; cases t <;> cases b <;> simp
theorem guardQ_boolt {t : Bool} {A B : Prop} : guardQ t true A B = ((t = true → A) ∧ (t = false → B)) := rfl
theorem guardQ_boolf {t : Bool} {A B : Prop} : guardQ t false A B = ((t = false → A) ∧ (t = true → B)) := rfl

/-! Contracts of functions that are handed data and hand back data. -/
section
variable {P : Program}

/-- Called with this data, the function hands back data of which Φ holds. -/
def Pure (P : Program) (f : FuncId) (args : List T) (Φ : T → Prop) : Prop := Spec P f args emp 0 fun d K N => Φ d ∧ d.below 0 = true ∧ K = emp ∧ N = 0

/-- What has to hold when such a function comes back. -/
def retP (sl : List SRes) (Φ : T → Prop) : XE → St → Prop
  | .exit _, _ => False
  | _, st => match resT st sl with | some (ds, p) => p ∧ (oneT ds).below 0 = true ∧ Φ (oneT ds) | none => False

theorem retP_normal {sl : List SRes} {Φ : T → Prop} {st : St} : retP sl Φ .normal st = match resT st sl with | some (ds, p) => p ∧ (oneT ds).below 0 = true ∧ Φ (oneT ds) | none => False := rfl
theorem retP_ret {sl : List SRes} {Φ : T → Prop} {st : St} : retP sl Φ .ret st = match resT st sl with | some (ds, p) => p ∧ (oneT ds).below 0 = true ∧ Φ (oneT ds) | none => False := rfl

theorem Pure.of_awp (hm : P.follows .mixedOrders = true) {f : FuncId} {fn : Func} {sf : SFun} (hf : P.funcs[f]? = some fn) (hs : slimF P fn = some sf) {args : List T} {Φ : T → Prop} (hle : args.length ≤ sf.n)
    (h : awp P 0 sf.body ⟨argTm 0 args, emp, 0⟩ (retP sf.res Φ)) : Pure P f args Φ := by
  refine Spec.of_awp hm hf hs hle (awp_mono ?_ h)
  intro e s hq
  cases e with
  | exit i => exact hq.elim
  | normal | ret =>
    simp only [retP, retQ] at *
    split at hq
    · rename_i ds p hr
      simp only [hr]
      exact ⟨hq.1, _, _, _, _, Back.data hq.2.1, hq.2.2, hq.2.1, rfl, rfl⟩
    · exact hq.elim

theorem C.ren_below {c : C} {ρ : Nat → Nat} (h : c.below 0 = true) : c.ren ρ = c := by
  cases c with
  | fn f caps =>
    cases caps with
    | nil => rfl
    | cons a l => simp [C.below] at h
  | _ => first | rfl | (simp [C.below] at h)
theorem V.ren_below {d : V} {ρ : Nat → Nat} (h : d.below 0 = true) : d.ren ρ = d := by
  cases d with
  | x c => exact congrArg V.x (C.ren_below h)
  | agg cs =>
    simp only [V.below, List.all_eq_true] at h
    simp only [V.ren]
    congr 1
    conv => rhs; rw [← List.map_id cs]
    exact List.map_congr_left fun c hc => C.ren_below (h c hc)
theorem T.ren_below {d : T} {ρ : Nat → Nat} (h : d.below 0 = true) : d.ren ρ = d := by
  cases d with
  | v d => exact congrArg T.v (V.ren_below h)
  | tup ds =>
    simp only [T.below, List.all_eq_true] at h
    simp only [T.ren]
    congr 1
    conv => rhs; rw [← List.map_id ds]
    exact List.map_congr_left fun c hc => V.ren_below (h c hc)

theorem joinK_emp {N : Nat} {K : KMap} (h : WF K N) : joinK N K emp = K := by
  funext id
  unfold joinK
  split
  · rfl
  · cases hk : K id with
    | none => rfl
    | some o => exact absurd (h id o hk) (by assumption)

theorem CallW.wf {f : FuncId} {q : Bool} {args : List T} {K : KMap} {N : Nat} {R : T → KMap → Nat → Prop} (h : WF K N → CallW P q f args K N R) (hc : callable P f = true) : CallW P q f args K N R :=
  ⟨hc, fun w0 F S μ w vs hh ha => (h hh.wf).2 w0 F S μ w vs hh ha⟩

theorem PlainC.refl {c : C} (h : c.below 0 = true) : PlainC c c := .inl ⟨rfl, h⟩
theorem liftA_refl : ∀ {l : List T}, (l.all fun d => match d with | .v d => d.below 0 | .tup _ => false) = true → liftA PlainC l l
  | [], _ => trivial
  | d :: l, h => by
    simp only [List.all_cons, Bool.and_eq_true] at h
    refine ⟨?_, liftA_refl h.2⟩
    cases d with
    | v d =>
      cases d with
      | x c => exact PlainC.refl h.1
      | agg cs =>
        refine ⟨rfl, fun i c c1 h1 h2 => ?_⟩
        rw [h1] at h2
        cases h2
        have := h.1
        simp only [V.below, List.all_eq_true] at this
        exact PlainC.refl (this c (List.mem_of_getElem? h1))
    | tup ds => cases h.1

/-- A call of such a function. -/
theorem Pure.call {f : FuncId} {args args1 : List T} {Φ : T → Prop} (hs : Pure P f args1 Φ) {q : Bool} {K : KMap} {N : Nat} {R : T → KMap → Nat → Prop} (ha : liftA PlainC args args1) (hR : ∀ d, Φ d → d.below 0 = true → R d K N) : CallW P q f args K N R := by
  refine CallW.wf (fun hw => Spec.plain hs ha ?_) hs.1
  rintro d K1 N1 ⟨h1, h2, rfl, rfl⟩
  rw [T.ren_below h2, joinK_emp hw]
  exact hR d h1 h2

/-- A call that has just the arguments of the contract. -/
theorem Pure.callS {f : FuncId} {args : List T} {v : T} (hs : Pure P f args (· = v)) {q : Bool} {K : KMap} {N : Nat} {R : T → KMap → Nat → Prop} (ha : (args.all fun d => match d with | .v d => d.below 0 | .tup _ => false) = true) (hR : R v K N) : CallW P q f args K N R :=
  hs.call (liftA_refl ha) (fun d hd _ => by subst hd; exact hR)

theorem Pure.mono {f : FuncId} {args : List T} {Φ Ψ : T → Prop} (hs : Pure P f args Φ) (h : ∀ d, Φ d → Ψ d) : Pure P f args Ψ := Spec.mono hs fun d K N hq => ⟨h d hq.1, hq.2⟩
end

/-! Loops. -/
section
variable {P : Program} {N0 : Nat}

def TmLe (N' : Nat) (tm' tm : Nat → Option T) : Prop := ∀ t d, tm' t = some d → tm t = some d ∧ d.below N' = true
def KLe (N' : Nat) (K' K : KMap) : Prop := ∀ i o, K' i = some o → i < N' ∧ K i = some o ∧ o.below N' = true

theorem TmLe.nil {N' : Nat} {tm : Nat → Option T} : TmLe N' emp tm := fun t d h => by cases h
theorem TmLe.cons {N' : Nat} {tm' tm : Nat → Option T} {t : Nat} {d : T} (h1 : tm t = some d) (h2 : d.below N' = true) (h : TmLe N' tm' tm) : TmLe N' (upd tm' t d) tm := fun k e hk => by
  unfold upd at hk
  split at hk
  · rename_i hkt; cases hk; subst hkt; exact ⟨h1, h2⟩
  · exact h k e hk
theorem KLe.nil {N' : Nat} {K : KMap} : KLe N' emp K := fun t d h => by cases h
theorem KLe.cons {N' : Nat} {K' K : KMap} {t : Nat} {d : AObj} (h0 : t < N') (h1 : K t = some d) (h2 : d.below N' = true) (h : KLe N' K' K) : KLe N' (upd K' t d) K := fun k e hk => by
  unfold upd at hk
  split at hk
  · rename_i hkt; cases hk; subst hkt; exact ⟨h0, h1, h2⟩
  · exact h k e hk

theorem C.ren_id (c : C) : c.ren (fun i => i) = c := by cases c <;> simp [C.ren]
theorem V.ren_id (v : V) : v.ren (fun i => i) = v := by
  cases v with
  | x c => simp [V.ren, C.ren_id]
  | agg cs =>
    have : C.ren (fun i => i) = id := funext C.ren_id
    simp [V.ren, this]
theorem T.ren_id (d : T) : d.ren (fun i => i) = d := by
  cases d with
  | v d => simp [T.ren, V.ren_id]
  | tup ds =>
    have : V.ren (fun i => i) = id := funext V.ren_id
    simp [T.ren, this]
theorem AObj.ren_id (o : AObj) : o.ren (fun i => i) = o := by
  cases o with
  | row v s xs =>
    have : C.ren (fun i => i) = id := funext C.ren_id
    simp [AObj.ren, this]
  | map es =>
    simp only [AObj.ren, V.ren_id]
    congr 1
    conv => rhs; rw [← List.map_id es]
    rfl

/-- Less is known. -/
theorem Weak.keep {tm tm' : Nat → Option T} {K K' : KMap} {N N' : Nat} (h1 : TmLe N' tm' tm) (h2 : KLe N' K' K) (h0 : N0 ≤ N') (hN : N' ≤ N) : Weak N0 ⟨tm, K, N⟩ ⟨tm', K', N'⟩ := fun dl n w0 F S μ0 μ a w h => by
  refine ⟨μ, h.defers, h.size, fun t d hd => ?_, h.h.names (τ := fun i => i) (fun i j o o' hne _ _ => hne) (fun i o hk => ?_), h0, h.later⟩
  · obtain ⟨g1, g2⟩ := h1 t d hd
    refine RepT.down (N2 := N) (μ2 := μ) (ρ := fun i => i) (fun _ _ => rfl) g2 ?_
    rw [T.ren_id]
    exact h.tm t d g1
  · obtain ⟨g1, g2, g3⟩ := h2 i o hk
    exact ⟨g1, g3, by rw [AObj.ren_id]; exact g2⟩

/-- What has to hold after a round. -/
def roundQ {X : Type} (N0 : Nat) (mk : X → St) (meas : X → Nat) (inv : X → Prop) (x : X) (Q : XE → St → Prop) : XE → St → Prop
  | .normal, s => ∃ y, inv y ∧ meas y < meas x ∧ Weak N0 s (mk y)
  | e, s => Q e s

theorem roundQ_normal {X : Type} {mk : X → St} {meas : X → Nat} {inv : X → Prop} {x : X} {Q : XE → St → Prop} {s : St} : roundQ N0 mk meas inv x Q .normal s = ∃ y, inv y ∧ meas y < meas x ∧ Weak N0 s (mk y) := rfl
theorem roundQ_exit {X : Type} {mk : X → St} {meas : X → Nat} {inv : X → Prop} {x : X} {Q : XE → St → Prop} {i : Nat} : roundQ N0 mk meas inv x Q (.exit i) = Q (.exit i) := rfl
theorem roundQ_ret {X : Type} {mk : X → St} {meas : X → Nat} {inv : X → Prop} {x : X} {Q : XE → St → Prop} : roundQ N0 mk meas inv x Q .ret = Q .ret := rfl

/-- A LOOP: its states are mk of something of which inv holds. -/
theorem awp_loop {X : Type} {st : St} {b : SCode} {Q : XE → St → Prop} (mk : X → St) (meas : X → Nat) (inv : X → Prop) (x0 : X) (h0 : inv x0) (hw : Weak N0 st (mk x0)) (h : ∀ x, inv x → awp P N0 b (mk x) (roundQ N0 mk meas inv x Q)) : awp P N0 (.loop b) st Q := by
  refine ⟨fun m s => ∃ x, inv x ∧ m = meas x ∧ s = mk x, ⟨_, _, hw, x0, h0, rfl, rfl⟩, ?_⟩
  rintro _ _ ⟨x, hx, rfl, rfl⟩
  refine awp_mono ?_ (h x hx)
  intro e s hq
  cases e with
  | normal => obtain ⟨y, h1, h2, h3⟩ := hq; exact ⟨_, _, h2, h3, y, h1, rfl, rfl⟩
  | exit i => exact ⟨s, Weak.refl _ _, hq⟩
  | ret => exact ⟨s, Weak.refl _ _, hq⟩
end
end Go.Proofs.Yticflcpmlbaafaa.AL

/- AL: a call that is handed own objects. -/
set_option linter.unusedSimpArgs false
set_option linter.unusedVariables false
namespace Go.Proofs.Yticflcpmlbaafaa.AL
open Go

/-- The callee's names made the caller's: σ for those that it is handed, behind the caller's for the new ones. -/
def upTo (σ : Nat → Nat) (N1 N : Nat) (i : Nat) : Nat := if i < N1 then σ i else N + (i - N1)

theorem upTo_lt {σ : Nat → Nat} {N1 N i : Nat} (h : i < N1) : upTo σ N1 N i = σ i := by simp [upTo, h]
theorem upTo_ge {σ : Nat → Nat} {N1 N i : Nat} (h : ¬ i < N1) : upTo σ N1 N i = N + (i - N1) := by simp [upTo, h]

/-- A name of the caller's, as the callee knows it. -/
noncomputable def downTo (σ : Nat → Nat) (N1 N : Nat) (id : Nat) : Option Nat :=
  open Classical in if h : ∃ i, i < N1 ∧ σ i = id then some h.choose else if id < N then none else some (N1 + (id - N))

theorem downTo_up {σ : Nat → Nat} {N1 N : Nat} (hσ : ∀ i, i < N1 → σ i < N) (hinj : ∀ i j, i < N1 → j < N1 → σ i = σ j → i = j) (i : Nat) : downTo σ N1 N (upTo σ N1 N i) = some i := by
  unfold downTo
  by_cases h : i < N1
  · have hex : ∃ j, j < N1 ∧ σ j = upTo σ N1 N i := ⟨i, h, (upTo_lt h).symm⟩
    rw [dif_pos hex]
    have h1 := hex.choose_spec
    exact congrArg some (hinj _ _ h1.1 h (h1.2.trans (upTo_lt h)))
  · have hex : ¬ ∃ j, j < N1 ∧ σ j = upTo σ N1 N i := fun ⟨j, h1, h2⟩ => by
      have := hσ j h1
      rw [upTo_ge h] at h2
      omega
    rw [dif_neg hex, upTo_ge h, if_neg (by omega)]
    congr 1
    omega

theorem downTo_some {σ : Nat → Nat} {N1 N id i : Nat} (h : downTo σ N1 N id = some i) : upTo σ N1 N i = id := by
  unfold downTo at h
  split at h
  · rename_i hex
    cases h
    rw [upTo_lt hex.choose_spec.1]
    exact hex.choose_spec.2
  · split at h
    · cases h
    · cases h
      rw [upTo_ge (by omega)]
      omega

theorem downTo_none {σ : Nat → Nat} {N1 N id : Nat} (h : downTo σ N1 N id = none) : id < N ∧ ∀ i, i < N1 → σ i ≠ id := by
  unfold downTo at h
  split at h
  · cases h
  · rename_i hex
    split at h
    · rename_i hlt
      exact ⟨hlt, fun i hi he => hex ⟨i, hi, he⟩⟩
    · cases h

theorem upTo_inj {σ : Nat → Nat} {N1 N : Nat} (hσ : ∀ i, i < N1 → σ i < N) (hinj : ∀ i j, i < N1 → j < N1 → σ i = σ j → i = j) {i j : Nat} (h : upTo σ N1 N i = upTo σ N1 N j) : i = j := by
  have h1 := downTo_up hσ hinj i
  have h2 := downTo_up hσ hinj j
  rw [h, h2] at h1
  cases h1
  rfl

/-- The objects behind a call that was handed own ones. -/
noncomputable def joinS (σ : Nat → Nat) (N1 N : Nat) (K K1 : KMap) : KMap := fun id => match downTo σ N1 N id with
  | some i => (K1 i).map (AObj.ren (upTo σ N1 N))
  | none => K id

section
variable {P : Program} {K K1 : KMap} {N N1 : Nat}

theorem C.ren_congr {c : C} {ρ σ : Nat → Nat} {n : Nat} (h : ∀ i, i < n → ρ i = σ i) (hb : c.below n = true) : c.ren ρ = c.ren σ := by
  cases c with
  | own id v o l => simp only [C.ren, h id (by simpa [C.below] using hb)]
  | ptr id v i f => simp only [C.ren, h id (by simpa [C.below] using hb)]
  | map id => simp only [C.ren, h id (by simpa [C.below] using hb)]
  | fn f caps =>
    simp only [C.below, List.all_eq_true, decide_eq_true_eq] at hb
    simp only [C.ren]
    congr 1
    exact List.map_congr_left fun i hi => h i (hb i hi)
  | _ => rfl
theorem V.ren_congr {c : V} {ρ σ : Nat → Nat} {n : Nat} (h : ∀ i, i < n → ρ i = σ i) (hb : c.below n = true) : c.ren ρ = c.ren σ := by
  cases c with
  | x c => exact congrArg V.x (C.ren_congr h hb)
  | agg cs =>
    simp only [V.below, List.all_eq_true] at hb
    simp only [V.ren]
    congr 1
    exact List.map_congr_left fun i hi => C.ren_congr h (hb i hi)
theorem T.ren_congr {c : T} {ρ σ : Nat → Nat} {n : Nat} (h : ∀ i, i < n → ρ i = σ i) (hb : c.below n = true) : c.ren ρ = c.ren σ := by
  cases c with
  | v c => exact congrArg T.v (V.ren_congr h hb)
  | tup cs =>
    simp only [T.below, List.all_eq_true] at hb
    simp only [T.ren]
    congr 1
    exact List.map_congr_left fun i hi => V.ren_congr h (hb i hi)
theorem AObj.ren_congr {c : AObj} {ρ σ : Nat → Nat} {n : Nat} (h : ∀ i, i < n → ρ i = σ i) (hb : c.below n = true) : c.ren ρ = c.ren σ := by
  cases c with
  | row v s xs =>
    simp only [AObj.below, List.all_eq_true] at hb
    simp only [AObj.ren]
    congr 1
    exact List.map_congr_left fun x hx => List.map_congr_left fun i hi => C.ren_congr h (hb x hx i hi)
  | map es =>
    simp only [AObj.below, List.all_eq_true] at hb
    simp only [AObj.ren]
    congr 1
    refine List.map_congr_left fun x hx => ?_
    rw [V.ren_congr h (hb x hx)]

/-- A CALL THAT IS HANDED OWN OBJECTS. -/
theorem Spec.call {f : FuncId} {args args1 : List T} {Q : T → KMap → Nat → Prop} (hs : Spec P f args1 K1 N1 Q) (σ : Nat → Nat) (hσ : ∀ i, i < N1 → σ i < N) (hinj : ∀ i j, i < N1 → j < N1 → σ i = σ j → i = j)
    (hK : ∀ i o, K1 i = some o → i < N1 ∧ o.below N1 = true ∧ K (σ i) = some (o.ren σ)) (ha : args = args1.map (T.ren σ)) (hb : ∀ a, a ∈ args1 → a.below N1 = true) {q : Bool} {R : T → KMap → Nat → Prop}
    (hR : ∀ d K1' N1', Q d K1' N1' → N1 ≤ N1' → (q = true → ∀ i, i < N1 → (K1' i).map (AObj.ren (upTo σ N1 N)) = K (σ i)) ∧ R (d.ren (upTo σ N1 N)) (joinS σ N1 N K K1') (N + (N1' - N1))) : CallW P q f args K N R := by
  obtain ⟨hc, hs⟩ := hs
  refine ⟨hc, fun w0 F S μ w vs hh har => ?_⟩
  subst ha
  have hμ : ∀ i, i < N1 → (fun i => μ (σ i)) i = μ (σ i) := fun i _ => rfl
  have hfoot : ∀ b, Foot K1 (fun i => μ (σ i)) b → ∃ i o, i < N1 ∧ K1 i = some o ∧ K (σ i) = some (o.ren σ) ∧ (μ (σ i)).blk = some b := fun b ⟨i, o, hk, hb⟩ => by
    obtain ⟨g1, g2, g3⟩ := hK i o hk
    exact ⟨i, o, g1, hk, g3, hb⟩
  have hF : ∀ b, Foot K1 (fun i => μ (σ i)) b → (F b ∨ w0.heap.size ≤ b) ∧ b < w.heap.size := fun b hb => by
    obtain ⟨i, o, g1, g2, g3, g4⟩ := hfoot b hb
    exact hh.blk (σ i) _ b g3 g4
  have hSF : ∀ b, S b → b < w.heap.size ∧ ¬ Foot K1 (fun i => μ (σ i)) b := fun b hb => by
    obtain ⟨g1, g2⟩ := hh.st b hb
    refine ⟨by have := hh.size; omega, fun hf => ?_⟩
    rcases (hF b hf).1 with g | g
    · exact g2 g
    · omega
  have hpre : HRel w (Foot K1 (fun i => μ (σ i))) S K1 N1 (fun i => μ (σ i)) w := by
    refine ⟨hSF, rfl, rfl, rfl, Nat.le_refl _, fun b _ _ => rfl, fun i o hk => ?_, fun i o b hk hb => ⟨.inl ⟨i, o, hk, hb⟩, ?_⟩, fun i j o o' b hne hk hk' hb => ?_⟩
    · obtain ⟨g1, g2, g3⟩ := hK i o hk
      exact ⟨g1, ObjOk.down (N2 := N) (μ2 := μ) (ρ := σ) (fun _ _ => rfl) g1 g2 (hh.obj _ _ g3).2⟩
    · exact (hF b ⟨i, o, hk, hb⟩).2
    · obtain ⟨g1, g2, g3⟩ := hK i o hk
      obtain ⟨g1', g2', g3'⟩ := hK j o' hk'
      exact hh.dis (σ i) (σ j) _ _ b (fun e => hne (hinj i j g1 g1' e)) g3 g3' hb
  have hargs : ArgsRep S N1 (fun i => μ (σ i)) w args1 vs.toList := by
    obtain ⟨h1, h2⟩ := har
    refine ⟨by simpa using h1, fun i d hi => ?_⟩
    obtain ⟨v, hv, hr⟩ := h2 i (d.ren σ) (by simp [hi])
    exact ⟨v, hv, RepT.down (N2 := N) (μ2 := μ) (ρ := σ) (fun _ _ => rfl) (hb d (List.mem_of_getElem? hi)) hr⟩
  refine (hs S (fun i => μ (σ i)) w vs hpre hargs).mono ?_
  rintro e w' ⟨v, d, K1', N1', μ1, rfl, hQ, h1, hN1, hL1, hrep⟩
  let μ' : Nat → Loc := fun id => match downTo σ N1 N id with | some i => μ1 i | none => μ id
  have hμ' : ∀ i, μ' (upTo σ N1 N i) = μ1 i := fun i => by simp only [μ', downTo_up hσ hinj i]
  have hρ : ∀ i, i < N1' → upTo σ N1 N i < N + (N1' - N1) ∧ μ' (upTo σ N1 N i) = μ1 i := fun i hi => ⟨by
    by_cases h : i < N1
    · rw [upTo_lt h]; have := hσ i h; omega
    · rw [upTo_ge h]; omega, hμ' i⟩
  have hheap : ∀ b, b < w.heap.size → ¬ Foot K1 (fun i => μ (σ i)) b → w'.heap[b]? = w.heap[b]? := fun b hb hn => h1.frame b hb hn
  have hsame : Same S w w' := fun b hb => hheap b (hSF b hb).1 (hSF b hb).2
  have hold : ∀ id, downTo σ N1 N id = none → μ' id = μ id := fun id h => by simp only [μ', h]
  have hL : Later N μ μ' := fun id hid => by
    cases hd : downTo σ N1 N id with
    | none => exact .inl (hold id hd)
    | some i =>
      have hu := downTo_some hd
      have hi : i < N1 := by
        rcases Nat.lt_or_ge i N1 with h | h
        · exact h
        · rw [upTo_ge (by omega)] at hu; omega
      have e : μ' id = μ1 i := by rw [← hu]; exact hμ' i
      rw [upTo_lt hi] at hu
      rw [e]
      have := hL1 i hi
      simp only [hu] at this
      exact this
  -- an old object's block is none of the callee's
  have hnf : ∀ id o b, downTo σ N1 N id = none → K id = some o → (μ id).blk = some b → b < w.heap.size ∧ ¬ Foot K1 (fun i => μ (σ i)) b := fun id o b hd hk hb => by
    refine ⟨(hh.blk id o b hk hb).2, fun hf => ?_⟩
    obtain ⟨i, o', g1, g2, g3, g4⟩ := hfoot b hf
    exact hh.dis id (σ i) o _ b (fun e => (downTo_none hd).2 i g1 e.symm) hk g3 hb g4
  obtain ⟨hq, hRR⟩ := hR d K1' N1' hQ hN1
  refine ⟨v, d.ren (upTo σ N1 N), joinS σ N1 N K K1', N + (N1' - N1), μ', rfl, hRR, fun hqt id hid => ?_, ?_, by omega, hL, hrep.up (ρ := upTo σ N1 N) (μ2 := μ') hρ⟩
  · unfold joinS
    cases hd : downTo σ N1 N id with
    | none => rfl
    | some i =>
      have hu := downTo_some hd
      have hi : i < N1 := by
        rcases Nat.lt_or_ge i N1 with h | h
        · exact h
        · rw [upTo_ge (by omega)] at hu; omega
      simp only
      rw [hq hqt i hi, ← upTo_lt (σ := σ) (N := N) hi, hu]
  · refine ⟨hh.st, h1.os.trans hh.os, h1.tape.trans hh.tape, h1.output.trans hh.output, Nat.le_trans hh.size h1.size, fun b hb hnF => ?_, fun id o hk => ?_, fun id o b hk hb => ?_, fun id id' o o' b hne hk hk' hb => ?_⟩
    · rw [hheap b (by have := hh.size; omega) (fun hf => by
        rcases (hF b hf).1 with g | g
        · exact hnF g
        · omega)]
      exact hh.frame b hb hnF
    · unfold joinS at hk
      cases hd : downTo σ N1 N id with
      | none =>
        rw [hd] at hk
        obtain ⟨g1, g2⟩ := hh.obj id o hk
        exact ⟨by omega, g2.move hsame (fun _ h => h) (by omega) hL (hold id hd) (fun b hb => hheap b (hnf id o b hd hk hb).1 (hnf id o b hd hk hb).2)⟩
      | some i =>
        rw [hd] at hk
        simp only [Option.map_eq_some_iff] at hk
        obtain ⟨o', hk', rfl⟩ := hk
        obtain ⟨g1, g2⟩ := h1.obj i o' hk'
        have hu := downTo_some hd
        have := g2.up (ρ := upTo σ N1 N) (μ2 := μ') hρ g1
        rw [hu] at this
        refine ⟨?_, this⟩
        rw [← hu]
        exact (hρ i g1).1
    · unfold joinS at hk
      cases hd : downTo σ N1 N id with
      | none =>
        rw [hd] at hk
        rw [hold id hd] at hb
        obtain ⟨g1, g2⟩ := hh.blk id o b hk hb
        exact ⟨g1, by have := h1.size; omega⟩
      | some i =>
        rw [hd] at hk
        simp only [Option.map_eq_some_iff] at hk
        obtain ⟨o', hk', rfl⟩ := hk
        rw [← downTo_some hd, hμ' i] at hb
        obtain ⟨g1, g2⟩ := h1.blk i o' b hk' hb
        refine ⟨?_, g2⟩
        rcases g1 with g1 | g1
        · exact (hF b g1).1
        · exact .inr (by have := hh.size; omega)
    · have callee : ∀ id o b, (∃ i, downTo σ N1 N id = some i) → joinS σ N1 N K K1' id = some o → (μ' id).blk = some b → ∃ i o1, downTo σ N1 N id = some i ∧ K1' i = some o1 ∧ (μ1 i).blk = some b ∧ (Foot K1 (fun i => μ (σ i)) b ∨ w.heap.size ≤ b) := by
        rintro id o b ⟨i, hd⟩ hk hb
        unfold joinS at hk
        rw [hd] at hk
        simp only [Option.map_eq_some_iff] at hk
        obtain ⟨o', hk', rfl⟩ := hk
        rw [← downTo_some hd, hμ' i] at hb
        exact ⟨i, o', hd, hk', hb, (h1.blk i o' b hk' hb).1⟩
      have oldie : ∀ id o b, downTo σ N1 N id = none → joinS σ N1 N K K1' id = some o → (μ' id).blk = some b → K id = some o ∧ (μ id).blk = some b := by
        intro id o b hd hk hb
        unfold joinS at hk
        rw [hd] at hk
        rw [hold id hd] at hb
        exact ⟨hk, hb⟩
      intro hb'
      cases hd : downTo σ N1 N id with
      | none =>
        obtain ⟨k1, k2⟩ := oldie id o b hd hk hb
        obtain ⟨n1, n2⟩ := hnf id o b hd k1 k2
        cases hd' : downTo σ N1 N id' with
        | none =>
          obtain ⟨k1', k2'⟩ := oldie id' o' b hd' hk' hb'
          exact hh.dis id id' o o' b hne k1 k1' k2 k2'
        | some j =>
          obtain ⟨_, _, _, _, _, g⟩ := callee id' o' b ⟨j, hd'⟩ hk' hb'
          rcases g with g | g
          · exact n2 g
          · omega
      | some i =>
        obtain ⟨i', o1, e1, e2, e3, g⟩ := callee id o b ⟨i, hd⟩ hk hb
        cases hd' : downTo σ N1 N id' with
        | none =>
          obtain ⟨k1', k2'⟩ := oldie id' o' b hd' hk' hb'
          obtain ⟨n1, n2⟩ := hnf id' o' b hd' k1' k2'
          rcases g with g | g
          · exact n2 g
          · omega
        | some j =>
          obtain ⟨j', o2, e1', e2', e3', _⟩ := callee id' o' b ⟨j, hd'⟩ hk' hb'
          refine h1.dis i' j' o1 o2 b (fun e => hne ?_) e2 e2' e3 e3'
          rw [← downTo_some e1, ← downTo_some e1', e]

/-- Called with this data over these objects, the function hands back data of which Φ holds, and leaves the objects as they are. -/
def PureK (P : Program) (f : FuncId) (args : List T) (K : KMap) (N : Nat) (Φ : T → Prop) : Prop := Spec P f args K N fun d K' N' => Φ d ∧ d.below 0 = true ∧ K' = K ∧ N' = N

def retK (sl : List SRes) (K : KMap) (N : Nat) (Φ : T → Prop) : XE → St → Prop
  | .exit _, _ => False
  | _, st => match resT st sl with | some (ds, p) => p ∧ (oneT ds).below 0 = true ∧ KLe N K st.K ∧ Φ (oneT ds) | none => False

theorem retK_normal {sl : List SRes} {Φ : T → Prop} {st : St} : retK sl K N Φ .normal st = match resT st sl with | some (ds, p) => p ∧ (oneT ds).below 0 = true ∧ KLe N K st.K ∧ Φ (oneT ds) | none => False := rfl
theorem retK_ret {sl : List SRes} {Φ : T → Prop} {st : St} : retK sl K N Φ .ret st = match resT st sl with | some (ds, p) => p ∧ (oneT ds).below 0 = true ∧ KLe N K st.K ∧ Φ (oneT ds) | none => False := rfl

theorem T.below_le {d : T} {n m : Nat} (hnm : n ≤ m) (h : d.below n = true) : d.below m = true := by
  have hc : ∀ c : C, c.below n = true → c.below m = true := fun c hc => by
    cases c <;> simp [C.below] at hc ⊢ <;> first | omega | (intro x hx; have := hc x hx; omega)
  have hv : ∀ c : V, c.below n = true → c.below m = true := fun c h => by
    cases c with
    | x c => exact hc c h
    | agg cs => simp only [V.below, List.all_eq_true] at h ⊢; exact fun x hx => hc x (h x hx)
  cases d with
  | v d => exact hv d h
  | tup ds => simp only [T.below, List.all_eq_true] at h ⊢; exact fun x hx => hv x (h x hx)

theorem PureK.of_awp (hm : P.follows .mixedOrders = true) {f : FuncId} {fn : Func} {sf : SFun} (hf : P.funcs[f]? = some fn) (hs : slimF P fn = some sf) {args : List T} {Φ : T → Prop} (hle : args.length ≤ sf.n)
    (h : awp P N sf.body ⟨argTm 0 args, K, N⟩ (retK sf.res K N Φ)) : PureK P f args K N Φ := by
  refine Spec.of_awp hm hf hs hle (awp_mono ?_ h)
  intro e s hq
  have fin : ∀ {ds : List V} {p : Prop}, p ∧ (oneT ds).below 0 = true ∧ KLe N K s.K ∧ Φ (oneT ds) → p ∧ ∃ d' K' N' τ, Back N s (oneT ds) d' K' N' τ ∧ Φ d' ∧ d'.below 0 = true ∧ K' = K ∧ N' = N := by
    rintro ds p ⟨h1, h2, h3, h4⟩
    refine ⟨h1, _, _, _, fun i => i, ⟨Nat.le_refl N, fun i _ => rfl, fun i j o o' hne _ _ => hne, fun i o hk => ?_, T.below_le (Nat.zero_le N) h2, T.ren_id _⟩, h4, h2, rfl, rfl⟩
    obtain ⟨g1, g2, g3⟩ := h3 i o hk
    exact ⟨g1, g3, by rw [AObj.ren_id]; exact g2⟩
  cases e with
  | exit i => exact hq.elim
  | normal | ret =>
    simp only [retK, retQ] at *
    split at hq
    · rename_i ds p hr
      simp only [hr]
      exact fin hq
    · exact hq.elim

/-- A call of such a function. -/
theorem PureK.call {f : FuncId} {args args1 : List T} {Φ : T → Prop} (hs : PureK P f args1 K1 N1 Φ) (σ : Nat → Nat) (hσ : ∀ i, i < N1 → σ i < N) (hinj : ∀ i j, i < N1 → j < N1 → σ i = σ j → i = j)
    (hK : ∀ i o, K1 i = some o → i < N1 ∧ o.below N1 = true) (hK2 : ∀ i, i < N1 → K (σ i) = (K1 i).map (AObj.ren σ)) (ha : args = args1.map (T.ren σ)) (hb : ∀ a, a ∈ args1 → a.below N1 = true) {q : Bool} {R : T → KMap → Nat → Prop}
    (hR : ∀ d, Φ d → d.below 0 = true → R d K N) : CallW P q f args K N R := by
  refine CallW.wf (fun hw => Spec.call hs σ hσ hinj (fun i o hk => ⟨(hK i o hk).1, (hK i o hk).2, by rw [hK2 i (hK i o hk).1, hk]; rfl⟩) ha hb ?_) hs.1
  rintro d K1' N1' ⟨h1, h2, rfl, rfl⟩ _
  have hren : ∀ i, i < N1' → (K1' i).map (AObj.ren (upTo σ N1' N)) = K (σ i) := fun i hi => by
    rw [hK2 i hi]
    cases hk : K1' i with
    | none => rfl
    | some o => exact congrArg some (AObj.ren_congr (fun j hj => upTo_lt hj) (hK i o hk).2)
  refine ⟨fun _ => hren, ?_⟩
  have hj : joinS σ N1' N K K1' = K := by
    funext id
    unfold joinS
    cases hd : downTo σ N1' N id with
    | none => rfl
    | some i =>
      have hu := downTo_some hd
      simp only
      by_cases hi : i < N1'
      · rw [hren i hi, ← upTo_lt (σ := σ) (N := N) hi, hu]
      · rw [upTo_ge hi] at hu
        cases hk : K1' i with
        | some o => exact absurd (hK i o hk).1 hi
        | none =>
          cases hk' : K id with
          | none => rfl
          | some o => have := hw id o hk'; omega
  rw [T.ren_below h2, hj, Nat.sub_self, Nat.add_zero]
  exact hR d h1 h2
end
end Go.Proofs.Yticflcpmlbaafaa.AL

/- AL: a call that is handed the caller's last objects, as a callee made them; what a function hands back with own objects. -/
set_option linter.unusedSimpArgs false
set_option linter.unusedVariables false
namespace Go.Proofs.Yticflcpmlbaafaa.AL
open Go
section
variable {P : Program} {K K0 K1 : KMap} {N N0 N1 : Nat}

theorem upTo_shift (i : Nat) : upTo (addN N0) N1 (N0 + N1) i = addN N0 i := by
  unfold upTo addN
  split <;> omega

theorem joinK_up (i : Nat) : joinK N0 K0 K1 (addN N0 i) = (K1 i).map (AObj.ren (addN N0)) := by
  unfold joinK addN
  rw [if_neg (by omega), show N0 + i - N0 = i by omega]
theorem joinK_lo {i : Nat} (h : i < N0) : joinK N0 K0 K1 i = K0 i := by simp [joinK, h]

/-- The caller's objects are K0 (below N0) and those that a callee made, K1: a call that is handed these, and turns them. -/
theorem Spec.callShift {f : FuncId} {args args1 : List T} {Q : T → KMap → Nat → Prop} (hs : Spec P f args1 K1 N1 Q) (hK : ∀ i o, K1 i = some o → i < N1 ∧ o.below N1 = true) (ha : args = args1.map (T.ren (addN N0))) (hb : ∀ a, a ∈ args1 → a.below N1 = true)
    {q : Bool} {R : T → KMap → Nat → Prop}
    (hR : ∀ d K1' N1', Q d K1' N1' → N1 ≤ N1' → (q = true → ∀ i, i < N1 → K1' i = K1 i) ∧ R (d.ren (addN N0)) (joinK N0 K0 K1') (N0 + N1')) : CallW P q f args (joinK N0 K0 K1) (N0 + N1) R := by
  have hup : upTo (addN N0) N1 (N0 + N1) = addN N0 := funext upTo_shift
  have h1 : ∀ i, i < N1 → addN N0 i < N0 + N1 := fun i hi => by unfold addN; omega
  have h2 : ∀ i j, i < N1 → j < N1 → addN N0 i = addN N0 j → i = j := fun i j _ _ he => by unfold addN at he; omega
  refine Spec.call hs (addN N0) h1 h2 (fun i o hk => ⟨(hK i o hk).1, (hK i o hk).2, by rw [joinK_up, hk]; rfl⟩) ha hb ?_
  intro d K1' N1' hQ hle
  obtain ⟨g1, g2⟩ := hR d K1' N1' hQ hle
  have hj : joinS (addN N0) N1 (N0 + N1) (joinK N0 K0 K1) K1' = joinK N0 K0 K1' := by
    funext id
    unfold joinS
    cases hd : downTo (addN N0) N1 (N0 + N1) id with
    | some i =>
      have hu := downTo_some hd
      rw [upTo_shift] at hu
      simp only
      rw [hup, ← hu, joinK_up]
    | none =>
      obtain ⟨k1, k2⟩ := downTo_none hd
      have hlt : id < N0 := by
        rcases Nat.lt_or_ge id N0 with h | h
        · exact h
        · exact absurd (show addN N0 (id - N0) = id by unfold addN; omega) (k2 _ (by omega))
      simp only
      rw [joinK_lo hlt, joinK_lo hlt]
  rw [hup, hj, show N0 + N1 + (N1' - N1) = N0 + N1' by omega]
  refine ⟨fun hq i hi => ?_, g2⟩
  rw [g1 hq i hi, joinK_up]

/-- What a function hands back with own objects: those of the walk, named anew by the list ids (the walk's names of the new objects 0, 1, ..). -/
theorem Back.list {st : St} {d d' : T} (ids : List Nat) (K' : KMap) (hnd : ids.Nodup) (hK : ∀ i o, K' i = some o → i < ids.length ∧ o.below ids.length = true ∧ st.K (ids.getD i 0) = some (o.ren fun i => ids.getD i 0))
    (hb : d'.below ids.length = true) (hd : d'.ren (fun i => ids.getD i 0) = d) : Back 0 st d d' K' ids.length (fun i => ids.getD i 0) := by
  refine ⟨Nat.zero_le _, fun i h => by omega, fun i j o o' hne h1 h2 he => ?_, hK, hb, hd⟩
  obtain ⟨g1, _, _⟩ := hK i o h1
  obtain ⟨g2, _, _⟩ := hK j o' h2
  simp only [List.getD_eq_getElem?_getD, List.getElem?_eq_getElem g1, List.getElem?_eq_getElem g2, Option.getD_some] at he
  exact hne ((List.getElem_inj hnd).1 he)

/-- Over objects that came in (below N0): they are handed back under their names, changed or not. -/
theorem Back.keep {st : St} {d : T} {K' : KMap} (hN : N0 ≤ st.N) (hb : d.below N0 = true) (hK : ∀ i o, K' i = some o → i < N0 ∧ o.below N0 = true ∧ st.K i = some o) : Back N0 st d d K' N0 (fun i => i) := by
  refine ⟨Nat.le_refl _, fun i _ => rfl, fun i j o o' hne _ _ => hne, fun i o hk => ?_, hb, T.ren_id d⟩
  obtain ⟨g1, g2, g3⟩ := hK i o hk
  exact ⟨g1, g2, by rw [AObj.ren_id]; exact g3⟩

/-- A call that is handed the caller's objects under their own names, and leaves them as they are. -/
theorem PureK.callId {f : FuncId} {args : List T} {Φ : T → Prop} (hs : PureK P f args K N Φ) (hK : ∀ i o, K i = some o → i < N ∧ o.below N = true) (hb : ∀ a, a ∈ args → a.below N = true) {q : Bool} {R : T → KMap → Nat → Prop}
    (hR : ∀ d, Φ d → d.below 0 = true → R d K N) : CallW P q f args K N R := by
  have e : T.ren (fun i => i) = id := funext T.ren_id
  have e2 : AObj.ren (fun i => i) = id := funext AObj.ren_id
  exact PureK.call hs (fun i => i) (fun i h => h) (fun i j _ _ h => h) hK (fun i _ => by rw [e2, Option.map_id]; rfl) (by rw [e, List.map_id]) hb hR

theorem KLe.self (hK : ∀ i o, K i = some o → i < N ∧ o.below N = true) : KLe N K K := fun i o h => ⟨(hK i o h).1, h, (hK i o h).2⟩

/-- The first number below n of which p holds, or -1. -/
def idxF (p : Nat → Bool) (n : Nat) : Int := match (List.range n).find? p with | some i => i | none => -1

theorem idxF_hit {p : Nat → Bool} {n i : Nat} (hi : i < n) (hp : p i = true) (hn : ∀ j, j < i → p j = false) : idxF p n = i := by
  unfold idxF
  have : (List.range n).find? p = some i := by
    rw [List.find?_range_eq_some]
    exact ⟨hp, by simpa using hi, fun j hj => by simp [hn j hj]⟩
  rw [this]
theorem idxF_none {p : Nat → Bool} {n : Nat} (hn : ∀ j, j < n → p j = false) : idxF p n = -1 := by
  unfold idxF
  have : (List.range n).find? p = none := by
    rw [List.find?_range_eq_none]
    exact fun j hj => by simp [hn j hj]
  rw [this]
end
end Go.Proofs.Yticflcpmlbaafaa.AL

/- AL: what a map holds behind an update. -/
set_option linter.unusedSimpArgs false
set_option linter.unusedVariables false
namespace Go.Proofs.Yticflcpmlbaafaa.AL
open Go

theorem mfind_mset {kk : KK} {k k' : Value} {d : V} (hk : keyOk kk k = true) (hk' : keyOk kk k' = true) : ∀ (es : List (Value × V)), es.all (fun e => keyOk kk e.1) = true → mfind (mset es k d) k' = if keyEq k' k = true then some d else mfind es k'
  | [], _ => by simp [mset, mfind]
  | (kx, dx) :: es, h => by
    simp only [List.all_cons, Bool.and_eq_true] at h
    have ih := mfind_mset (d := d) hk hk' es h.2
    by_cases e : keyEq k kx = true
    · have : k = kx := keyEq_eq hk h.1 e
      subst this
      simp only [mset, e, if_true, mfind]
      by_cases e2 : keyEq k' k = true
      · simp [e2]
      · simp [e2]
    · simp only [mset, e, if_false, mfind]
      by_cases e2 : keyEq k' kx = true
      · have hne : ¬ keyEq k' k = true := fun e3 => by
          have h1 : k' = kx := keyEq_eq hk' h.1 e2
          have h2 : k' = k := keyEq_eq hk' hk e3
          rw [← h2] at e
          exact e e2
        simp [mfind, e2, hne]
      · simp [mfind, e2, ih]

theorem all_mset {k : Value} {d : V} {p : Value × V → Bool} (hp : p (k, d) = true) : ∀ (es : List (Value × V)), es.all p = true → (mset es k d).all p = true
  | [], _ => by simp [mset, hp]
  | (kx, dx) :: es, h => by
    simp only [List.all_cons, Bool.and_eq_true] at h
    unfold mset
    split
    · simp [hp, h.2]
    · simp [h.1, all_mset hp es h.2]

section
variable {N : Nat} {Q : T → KMap → Nat → Prop} {sl : List SRes} {st : St}
theorem retQ_normal : retQ N sl Q .normal st = match resT st sl with | some (ds, p) => p ∧ ∃ d' K' N' τ, Back N st (oneT ds) d' K' N' τ ∧ Q d' K' N' | none => False := rfl
theorem retQ_ret : retQ N sl Q .ret st = match resT st sl with | some (ds, p) => p ∧ ∃ d' K' N' τ, Back N st (oneT ds) d' K' N' τ ∧ Q d' K' N' | none => False := rfl
theorem opd_map {tm : Nat → Option T} {m : Option Nat} : opd tm (.const (.map m)) = some (tV (.map m)) := rfl
theorem opd_ptr {tm : Nat → Option T} {m : Option Addr} : opd tm (.const (.pointer m)) = some (tV (.pointer m)) := rfl
theorem opd_nilf {tm : Nat → Option T} : opd tm (.const .nilFunc) = some (tV .nilFunc) := rfl
theorem key2 {a b : Value} : keyOf' (.v (.agg [.r (.val a), .r (.val b)])) = some (.agg #[a, b]) := rfl
theorem key1 {a : Value} : keyOf' (.v (.x (.r (.val a)))) = some a := rfl
end
end Go.Proofs.Yticflcpmlbaafaa.AL

/- AL: nil slices taken for own rows without elements. -/
set_option linter.unusedSimpArgs false
set_option linter.unusedVariables false
namespace Go.Proofs.Yticflcpmlbaafaa.AL
open Go
section
variable {N0 N : Nat} {tm : Nat → Option T} {K : KMap}

theorem HRel.objSwap {w0 : World} {F S : Nat → Prop} {μ : Nat → Loc} {w : World} (h : HRel w0 F S K N μ w) {i : Nat} {o o' : AObj} (hi : K i = some o) (hok : ObjOk S N μ w i o') : HRel w0 F S (upd K i o') N μ w := by
  have hk : ∀ id x, upd K i o' id = some x → ∃ y, K id = some y := fun id x hx => by
    unfold upd at hx
    split at hx
    · rename_i e; exact ⟨o, e ▸ hi⟩
    · exact ⟨x, hx⟩
  refine ⟨h.st, h.os, h.tape, h.output, h.size, h.frame, fun id x hx => ?_, fun id x b hx hb => ?_, fun id id' x x' b hne h1 h2 hb => ?_⟩
  · unfold upd at hx
    split at hx
    · rename_i e
      cases hx
      subst e
      exact ⟨(h.obj _ _ hi).1, hok⟩
    · exact h.obj id x hx
  · obtain ⟨y, hy⟩ := hk id x hx
    exact h.blk id y b hy hb
  · obtain ⟨y, hy⟩ := hk id x h1
    obtain ⟨y', hy'⟩ := hk id' x' h2
    exact h.dis id id' y y' b hne hy hy' hb

theorem nil_own {S : Nat → Prop} {μ : Nat → Loc} {w : World} {v : Value} {N' : Nat} {sz : Nat} (hv : RepC S N' μ w (cV nilS) v) (hN : N < N') (hμ : μ N = ⟨0, none, 0, 0, sz⟩) : RepC S N' μ w (.own N 0 0 0) v := by
  cases hv
  refine ⟨hN, Nat.zero_le _, none, 0, rfl, fun _ => ⟨Nat.le_refl _, ?_, fun h => absurd rfl h⟩⟩
  rw [hμ]
  exact Nat.le_refl _

/-- A temporary that is nil. -/
theorem Weak.nilTm (t sz : Nat) (ht : tm t = some (tC (cV nilS))) : Weak N0 ⟨tm, K, N⟩ ⟨upd tm t (tC (.own N 0 0 0)), upd K N (.row 0 sz []), N + 1⟩ := fun dl n w0 F S μ0 μ a w h => by
  have hL : Later N μ (fun id => if id = N then ⟨0, none, 0, 0, sz⟩ else μ id) := fun id hid => .inl (by simp [Nat.ne_of_lt hid])
  refine ⟨_, h.defers, h.size, fun k d hk => ?_, h.h.nilRow sz, Nat.le_succ_of_le h.ent, h.later.trans hL h.ent⟩
  have mv : ∀ k d, tm k = some d → RepT S (N + 1) (fun id => if id = N then ⟨0, none, 0, 0, sz⟩ else μ id) w d (a.tmps.getD k undef) := fun k d hk =>
    (h.tm k d hk).move (fun _ _ => rfl) (fun _ h => h) (Nat.le_succ N) hL
  simp only [upd] at hk
  split at hk
  · rename_i e
    cases hk
    subst e
    have h1 : RepC S (N + 1) (fun id => if id = N then ⟨0, none, 0, 0, sz⟩ else μ id) w (cV nilS) (a.tmps.getD k undef) := mv k _ ht
    exact nil_own (sz := sz) h1 (Nat.lt_succ_self N) (if_pos rfl)
  · exact mv k d hk

/-- A box's cell that is nil. -/
theorem Weak.nilCell (i k sz s : Nat) (cs : List C) (hi : K i = some (.row 0 sz [cs])) (hk : cs[k]? = some (cV nilS)) :
    Weak N0 ⟨tm, K, N⟩ ⟨tm, upd (upd K N (.row 0 s [])) i (.row 0 sz [cs.set k (.own N 0 0 0)]), N + 1⟩ := fun dl n w0 F S μ0 μ a w h => by
  have hL : Later N μ (fun id => if id = N then ⟨0, none, 0, 0, s⟩ else μ id) := fun id hid => .inl (by simp [Nat.ne_of_lt hid])
  have hlt : i < N := (h.h.obj i _ hi).1
  have hrow := h.h.nilRow s
  have hi2 : upd K N (.row 0 s []) i = some (.row 0 sz [cs]) := by rw [upd_ne _ _ (Nat.ne_of_lt hlt)]; exact hi
  refine ⟨_, h.defers, h.size, fun k d hk => (h.tm k d hk).move (fun _ _ => rfl) (fun _ h => h) (Nat.le_succ N) hL, hrow.objSwap hi2 ?_, Nat.le_succ_of_le h.ent, h.later.trans hL h.ent⟩
  obtain ⟨o1, o2, o3, o4, o5, o6⟩ := (hrow.obj i _ hi2).2
  refine ⟨o1, o2, o3, o4, fun x hx => ?_, ?_⟩
  · simp only [List.mem_singleton] at hx
    subst hx
    rw [List.length_set]
    exact o5 cs (by simp)
  · revert o6
    cases ((fun id => if id = N then (⟨0, none, 0, 0, s⟩ : Loc) else μ id) i).blk with
    | none => exact fun h => h
    | some b =>
      rintro ⟨vals, ty, c1, c2, c3⟩
      refine ⟨vals, ty, c1, c2, fun j x q c hj hq => ?_⟩
      cases j with
      | succ j => simp at hj
      | zero =>
        simp at hj
        subst hj
        rw [List.getElem?_set] at hq
        split at hq
        · rename_i e
          subst e
          split at hq
          · cases hq
            obtain ⟨u, u1, u2⟩ := c3 0 cs k _ rfl hk
            exact ⟨u, u1, nil_own (sz := s) u2 (Nat.lt_succ_self N) (if_pos rfl)⟩
          · cases hq
        · exact c3 0 cs q c rfl hq
end
end Go.Proofs.Yticflcpmlbaafaa.AL

/- AL: what a reading of an argument says of its shape: the data that is handed in. -/
namespace Go.Proofs.Yticflcpmlbaafaa.AL
open Go

inductive Sh where
  | num (k : IntKind)
  | str
  | bool
  | sl (sz bytes : Nat) (fs : List Sh)
  deriving Inhabited

mutual
def shOk : Sh → R → Prop
  | .num k, .val (.int k' n) => k' = k ∧ (Lit.int k n).wf = true
  | .str, .val (.string b) => b.size ≤ reachBytes
  | .bool, .val (.bool _) => True
  | .sl sz bytes fs, .rd sz' xs => sz' = sz ∧ xs.length * bytes ≤ reachBytes ∧ ∀ x, x ∈ xs → shsOk fs x
  | _, _ => False
def shsOk : List Sh → List R → Prop
  | [], [] => True
  | s :: ss, r :: rs => shOk s r ∧ shsOk ss rs
  | _, _ => False
end

theorem shsOk_app : ∀ {a b : List Sh} {x y : List R}, shsOk a x → shsOk b y → shsOk (a ++ b) (x ++ y)
  | [], _, [], _, _, h => by simpa using h
  | _ :: _, _, _ :: _, _, h1, h => by
    simp only [List.cons_append, shsOk] at h1 ⊢
    exact ⟨h1.1, shsOk_app h1.2 h⟩
  | [], _, _ :: _, _, h1, _ => by simp [shsOk] at h1
  | _ :: _, _, [], _, h1, _ => by simp [shsOk] at h1

def fieldSh (g : TypeId → Option (List Sh)) (size : TypeId → Nat) : List Field → Nat → Option (List Sh × Nat)
  | [], o => some ([], o)
  | f :: fs, o =>
    if f.offset = o then
      match g f.type, fieldSh g size fs (o + size f.type) with
      | some a, some (b, e) => some (a ++ b, e)
      | _, _ => none
    else none

def shOf (P : Program) : Nat → TypeId → Option (List Sh)
  | 0, _ => none
  | n + 1, t =>
    match P.underlying t with
    | some (.int k) => some [.num k]
    | some .string => some [.str]
    | some .bool => some [.bool]
    | some (.slice e) =>
      match shOf P n e with
      | some l => if 0 < P.cellsOf e then some [.sl (P.cellsOf e) (P.bytesOf e) l] else none
      | none => none
    | some (.struct fs) =>
      match fieldSh (shOf P n) P.cellsOf fs.toList 0 with
      | some (l, e) => if e = P.cellsOf t then some l else none
      | none => none
    | _ => none

/-- The cells are those of this data. -/
def RepRs (S : Nat → Prop) (W : World) (rs : List R) (cs : List Value) : Prop :=
  rs.length = cs.length ∧ ∀ (i : Nat) (r : R), rs[i]? = some r → ∃ v, cs[i]? = some v ∧ RepR S W r v

theorem RepRs.app {S : Nat → Prop} {W : World} {rs rs' : List R} {cs cs' : List Value} (h : RepRs S W rs cs) (h' : RepRs S W rs' cs') : RepRs S W (rs ++ rs') (cs ++ cs') := by
  refine ⟨by simp [h.1, h'.1], fun i r hi => ?_⟩
  by_cases hl : i < rs.length
  · rw [List.getElem?_append_left hl] at hi
    obtain ⟨v, hv, hr⟩ := h.2 i r hi
    exact ⟨v, by rw [List.getElem?_append_left (by have := h.1; omega)]; exact hv, hr⟩
  · rw [List.getElem?_append_right (by omega)] at hi
    obtain ⟨v, hv, hr⟩ := h'.2 _ r hi
    exact ⟨v, by rw [List.getElem?_append_right (by have := h.1; omega), ← h.1]; exact hv, hr⟩

theorem RepRs.one {S : Nat → Prop} {W : World} {r : R} {v : Value} (h : RepR S W r v) : RepRs S W [r] [v] := by
  refine ⟨rfl, fun i r' hi => ?_⟩
  cases i with
  | zero => simp at hi; subst hi; exact ⟨v, rfl, h⟩
  | succ i => simp at hi

theorem list_of {α : Type} {p : Nat → α → Prop} : ∀ n : Nat, (∀ i, i < n → ∃ x, p i x) → ∃ xs : List α, xs.length = n ∧ ∀ i x, xs[i]? = some x → p i x
  | 0, _ => ⟨[], rfl, fun i x h => by simp at h⟩
  | n + 1, h => by
    obtain ⟨xs, hl, hx⟩ := list_of n fun i hi => h i (by omega)
    obtain ⟨y, hy⟩ := h n (by omega)
    refine ⟨xs ++ [y], by simp [hl], fun i x hi => ?_⟩
    by_cases hn : i < n
    · rw [List.getElem?_append_left (by omega)] at hi
      exact hx i x hi
    · rw [List.getElem?_append_right (by omega)] at hi
      have : i - xs.length = 0 := by
        have := (List.getElem?_eq_some_iff.1 hi).1
        simp at this
        omega
      rw [this] at hi
      simp at hi
      subst hi
      have : i = n := by omega
      subst this
      exact hy

section
variable {H : Type} {enc : TypeId × Value → H} {P : Program} {W : World}

theorem DataW.mem_weightsAll {e : TypeId} {d : DataW H} {n : Nat} : ∀ {l : List (DataW H)}, d ∈ l → n ∈ d.weights P e → n ∈ DataW.weightsAll P e l
  | [], h, _ => by cases h
  | x :: l, h, hn => by
    simp only [DataW.weightsAll, List.mem_append]
    rcases List.mem_cons.1 h with rfl | h
    · exact .inl hn
    · exact .inr (DataW.mem_weightsAll h hn)

theorem fieldSh_read {g : TypeId → Option (List Sh)} {m : Nat} {cs : List Value}
    (ih : ∀ t shs cs x, g t = some shs → DataW.trod enc P W 0 (fun _ => true) true m t cs = some x → (∀ n ∈ x.1.weights P t, n ≤ reachBytes) → ∃ rs, RepRs (fun b => b < W.heap.size) W rs cs ∧ shsOk shs rs) :
    ∀ (fs : List Field) (o : Nat) (shs : List Sh) (e : Nat), fieldSh g P.cellsOf fs o = some (shs, e) → e = cs.length →
      (∀ (i : Nat) (f : Field), fs[i]? = some f → ∃ x, DataW.trod enc P W 0 (fun _ => true) true m f.type ((cs.drop f.offset).take (P.cellsOf f.type)) = some x ∧ ∀ n ∈ x.1.weights P f.type, n ≤ reachBytes) →
      ∃ rs, RepRs (fun b => b < W.heap.size) W rs (cs.drop o) ∧ shsOk shs rs
  | [], o, shs, e, h, he, _ => by
    simp only [fieldSh, Option.some.injEq, Prod.mk.injEq] at h
    obtain ⟨rfl, rfl⟩ := h
    rw [he, List.drop_length]
    exact ⟨[], ⟨rfl, fun i r h => by simp at h⟩, trivial⟩
  | f :: fs, o, shs, e, h, he, hf => by
    simp only [fieldSh] at h
    split at h
    · rename_i ho
      split at h
      · rename_i a b e' ha hb
        simp only [Option.some.injEq, Prod.mk.injEq] at h
        obtain ⟨rfl, rfl⟩ := h
        obtain ⟨x, hx, hxw⟩ := hf 0 f rfl
        obtain ⟨rs, h1, h2⟩ := ih f.type a _ x ha hx hxw
        obtain ⟨rs', h3, h4⟩ := fieldSh_read ih fs (o + P.cellsOf f.type) b e' hb he fun i f' hi => hf (i + 1) f' (by simpa using hi)
        refine ⟨rs ++ rs', ?_, shsOk_app h2 h4⟩
        have := h1.app h3
        rw [ho, ← List.drop_drop, List.take_append_drop] at this
        exact this
      · cases h
    · cases h

theorem shOf_read : ∀ (n : Nat) (t : TypeId) (shs : List Sh) (m : Nat) (cs : List Value) (x : DataW H × List MemPlace), shOf P n t = some shs →
    DataW.trod enc P W 0 (fun _ => true) true m t cs = some x → (∀ n ∈ x.1.weights P t, n ≤ reachBytes) → ∃ rs, RepRs (fun b => b < W.heap.size) W rs cs ∧ shsOk shs rs := by
  intro n
  induction n with
  | zero => intro t shs m cs x h; simp [shOf] at h
  | succ n ih =>
    intro t shs m cs x h ht hwt
    simp only [shOf] at h
    split at h
    · rename_i k hu
      simp only [Option.some.injEq] at h
      subst h
      obtain ⟨v, rfl, _, hw⟩ := DataW.trod_int hu ht
      exact ⟨_, .one (.val rfl), by simp [shsOk, shOk, hw]⟩
    · rename_i hu
      simp only [Option.some.injEq] at h
      subst h
      obtain ⟨v, rfl, rfl, _⟩ := DataW.trod_string hu ht
      have hb : v.size ≤ reachBytes := by
        have := hwt v.data.toList.length (by simp [DataW.weights])
        rwa [Array.length_toList] at this
      exact ⟨_, .one (.val rfl), by simp [shsOk, shOk, hb]⟩
    · rename_i hu
      simp only [Option.some.injEq] at h
      subst h
      obtain ⟨v, rfl, _⟩ := DataW.trod_bool hu ht
      exact ⟨_, .one (.val rfl), by simp [shsOk, shOk]⟩
    · rename_i e hu
      split at h
      · rename_i l hl
        split at h
        · rename_i hpos
          simp only [Option.some.injEq] at h
          subst h
          rcases DataW.trod_slice hu ht with ⟨rfl, _⟩ | ⟨a, len, cap, elems, rest, m', _, rfl, rfl, _, hlc, hcm, hel, hget, _, _⟩
          · exact ⟨_, .one (.rd (sz := P.cellsOf e) (xs := []) (cap := 0) (fun _ _ => .nilFunc) (Nat.le_refl _) (by simp) (by simp) (fun h => absurd rfl h) (fun j x i r h => by simp at h)), by simp [shsOk, shOk]⟩
          · have hall : ∀ i, i < len → ∃ rs : List R, rs.length = P.cellsOf e ∧ shsOk l rs ∧ ∀ k r, rs[k]? = some r → ∃ v, W.cell? (a.add (i * P.cellsOf e + k)) = some v ∧ RepR (fun b => b < W.heap.size) W r v := by
              intro i hi
              have h1 := hget i hi
              have hew : ∀ n ∈ (elems[i]'(by omega)).1.weights P e, n ≤ reachBytes := fun n hn => hwt n (by
                simp only [DataW.weights, hu, List.mem_cons, List.mem_append]
                exact .inr (.inl (DataW.mem_weightsAll (List.mem_map.2 ⟨_, List.getElem_mem (by omega), rfl⟩) hn)))
              rw [List.getElem?_eq_getElem (by omega), Option.bind_eq_some_iff] at h1
              obtain ⟨c, hc, ht'⟩ := h1
              obtain ⟨rs, ⟨hr1, hr2⟩, hr3⟩ := ih e l m' c _ hl ht' hew
              obtain ⟨_, hcl, hcc⟩ := World.cells?_some hc
              refine ⟨rs, by omega, hr3, fun k r hk => ?_⟩
              obtain ⟨v, hv, hrep⟩ := hr2 k r hk
              have hkl : k < P.cellsOf e := by
                have := (List.getElem?_eq_some_iff.1 hk).1
                omega
              have := hcc k hkl
              rw [Addr.add_add] at this
              exact ⟨v, by rw [this, hv], hrep⟩
            obtain ⟨xs, hxl, hx⟩ := list_of len hall
            have hlen : xs.length = len := hxl
            refine ⟨[.rd (P.cellsOf e) xs], ?_, ?_⟩
            · refine .one ?_
              rw [← hlen]
              refine .rd (fun j i => (W.cell? (a.add (j * P.cellsOf e + i))).getD .nilFunc) (by omega) hcm ?_ ?_ ?_
              · intro x hxm
                obtain ⟨i, hi⟩ := List.getElem?_of_mem hxm
                exact (hx i x hi).1
              · intro hne
                refine ⟨a, rfl, ?_, ?_⟩
                · obtain ⟨x0, xs0, rfl⟩ := List.exists_cons_of_ne_nil hne
                  obtain ⟨h1, _, h3⟩ := hx 0 x0 rfl
                  obtain ⟨r0, hr0⟩ : ∃ r0, x0[0]? = some r0 := by
                    have : 0 < x0.length := by omega
                    exact ⟨x0[0], by simp [this]⟩
                  obtain ⟨v, hv, _⟩ := h3 0 r0 hr0
                  have := World.block_lt_of_cell? W _ hv
                  rw [add_block] at this
                  exact this
                · intro j x i r hj hi
                  obtain ⟨_, _, h3⟩ := hx j x hj
                  obtain ⟨v, hv, _⟩ := h3 i r hi
                  rw [hv]; rfl
              · intro j x i r hj hi
                obtain ⟨_, _, h3⟩ := hx j x hj
                obtain ⟨v, hv, hrep⟩ := h3 i r hi
                rw [hv]; exact hrep
            · simp only [shsOk, shOk, and_true, true_and]
              refine ⟨?_, ?_⟩
              · have := hwt ((elems.length + rest.length) * P.bytesOf e) (by simp [DataW.weights, hu])
                rw [hlen, ← hel]
                exact Nat.le_trans (Nat.mul_le_mul_right _ (by omega)) this
              intro x hxm
              obtain ⟨i, hi⟩ := List.getElem?_of_mem hxm
              exact (hx i x hi).2.1
        · cases h
      · cases h
    · rename_i fs hu
      split at h
      · rename_i l e hl
        split at h
        · rename_i he
          simp only [Option.some.injEq] at h
          subst h
          obtain ⟨xs, m', rfl, rfl, hcl, hxl, hget⟩ := DataW.trod_struct hu ht
          have := fieldSh_read (cs := cs) (fun t shs cs x h1 h2 h3 => ih t shs m' cs x h1 h2 h3) fs.toList 0 l e hl (by omega) fun i f hi => by
            have hi' : fs[i]? = some f := by simpa using hi
            have hlt : i < fs.size := by
              have := (Array.getElem?_eq_some_iff.1 hi').1
              exact this
            exact ⟨xs[i]'(by rw [hxl]; exact hlt), by rw [hget i f hi', List.getElem?_eq_getElem (by rw [hxl]; exact hlt)], fun n hn => hwt n (by
              simp only [DataW.weights, hu]
              exact DataW.weights_mem_each (j := i) (t := f.type) (d := (xs[i]'(by rw [hxl]; exact hlt)).1) (by simp [hi']) (by simp [hxl, hlt]) n hn)⟩
          simpa using this
        · cases h
      · cases h
    · cases h
end

/-! What the shapes say, field by field. -/
theorem shs_nil {rs : List R} (h : shsOk [] rs) : rs = [] := by cases rs <;> simp_all [shsOk]
theorem shs_num {k : IntKind} {ss : List Sh} {rs : List R} (h : shsOk (.num k :: ss) rs) : ∃ n rs', rs = .val (.int k n) :: rs' ∧ (Lit.int k n).wf = true ∧ shsOk ss rs' := by
  cases rs with
  | nil => simp [shsOk] at h
  | cons r rs =>
    simp only [shsOk] at h
    obtain ⟨h1, h2⟩ := h
    cases r with
    | rd => simp [shOk] at h1
    | val v =>
      cases v with
      | int k' n =>
        simp only [shOk] at h1
        obtain ⟨rfl, hw⟩ := h1
        exact ⟨n, rs, rfl, hw, h2⟩
      | _ => simp [shOk] at h1
theorem shs_str {ss : List Sh} {rs : List R} (h : shsOk (.str :: ss) rs) : ∃ s rs', rs = .val (.string s) :: rs' ∧ s.size ≤ reachBytes ∧ shsOk ss rs' := by
  cases rs with
  | nil => simp [shsOk] at h
  | cons r rs =>
    simp only [shsOk] at h
    obtain ⟨h1, h2⟩ := h
    cases r with
    | rd => simp [shOk] at h1
    | val v =>
      cases v with
      | string s => exact ⟨s, rs, rfl, h1, h2⟩
      | _ => simp [shOk] at h1
theorem shs_bool {ss : List Sh} {rs : List R} (h : shsOk (.bool :: ss) rs) : ∃ b rs', rs = .val (.bool b) :: rs' ∧ shsOk ss rs' := by
  cases rs with
  | nil => simp [shsOk] at h
  | cons r rs =>
    simp only [shsOk] at h
    obtain ⟨h1, h2⟩ := h
    cases r with
    | rd => simp [shOk] at h1
    | val v =>
      cases v with
      | bool s => exact ⟨s, rs, rfl, h2⟩
      | _ => simp [shOk] at h1
theorem map_of {α β : Type} {e : α → β} : ∀ {xs : List β}, (∀ x, x ∈ xs → ∃ a, x = e a) → ∃ l : List α, xs = l.map e
  | [], _ => ⟨[], rfl⟩
  | x :: xs, h => by
    obtain ⟨a, rfl⟩ := h x (by simp)
    obtain ⟨l, rfl⟩ := map_of (xs := xs) fun y hy => h y (by simp [hy])
    exact ⟨a :: l, rfl⟩
theorem shs_sl {α : Type} {e : α → List R} {sz bytes : Nat} {fs ss : List Sh} {rs : List R} (he : ∀ x, shsOk fs x → ∃ a, x = e a) (h : shsOk (.sl sz bytes fs :: ss) rs) :
    ∃ (l : List α) (rs' : List R), rs = .rd sz (l.map e) :: rs' ∧ l.length * bytes ≤ reachBytes ∧ shsOk ss rs' := by
  cases rs with
  | nil => simp [shsOk] at h
  | cons r rs =>
    simp only [shsOk] at h
    obtain ⟨h1, h2⟩ := h
    cases r with
    | val v => cases v <;> simp [shOk] at h1
    | rd sz' xs =>
      simp only [shOk] at h1
      obtain ⟨rfl, h0, h1⟩ := h1
      obtain ⟨l, rfl⟩ := map_of fun x hx => he x (h1 x hx)
      exact ⟨l, rs, rfl, by simpa using h0, h2⟩

/-- A reading of a value: the value is this data. -/
theorem repV_of {W : World} {N : Nat} {μ : Nat → Loc} {S : Nat → Prop} {rs : List R} {cs : Array Value} (h : RepRs S W rs cs.toList) : RepV S N μ W (.agg (rs.map C.r)) (.agg cs) := by
  refine ⟨cs, rfl, by simp [h.1], fun i c hi => ?_⟩
  rw [List.getElem?_map, Option.map_eq_some_iff] at hi
  obtain ⟨r, hr, rfl⟩ := hi
  obtain ⟨v, hv, hrep⟩ := h.2 i r hr
  exact ⟨v, by simpa using hv, hrep⟩

theorem repV_one {W : World} {N : Nat} {μ : Nat → Loc} {S : Nat → Prop} {r : R} {v : Value} (h : RepRs S W [r] [v]) : RepV S N μ W (.x (.r r)) v := by
  obtain ⟨u, hu, hr⟩ := h.2 0 r rfl
  simp at hu
  subst hu
  exact hr

/-- A law that holds of the data holds at the call: what it hands back is true, and nothing that was there has turned. -/
theorem row_of {P : Program} {f : FuncId} {args : List T} {vs : Array Value} {W : World} (h : Pure P f args (· = tB true))
    (ha : ArgsRep (fun b => b < W.heap.size) 0 (fun _ => default) W args vs.toList) : Calls P f vs W fun e W' => e = .returned (.bool true) ∧ Go.RowKit.Below W.heap.size W W' := by
  have hF : ∀ b, ¬ Foot emp (fun _ => (default : Loc)) b := by
    intro b hb
    simp [Foot, emp] at hb
  refine (h.2 (fun b => b < W.heap.size) (fun _ => default) W vs ⟨fun b hb => ⟨hb, hF b⟩, rfl, rfl, rfl, Nat.le_refl _, fun _ _ _ => rfl, fun id o h => by simp [emp] at h, fun id o b h => by simp [emp] at h, fun id id' o o' b _ h => by simp [emp] at h⟩ ha).mono ?_
  rintro e W' ⟨v, d, K', N', μ', rfl, ⟨rfl, _, _, _⟩, hH, _, _, hv⟩
  refine ⟨?_, hH.os, hH.tape, hH.output, hH.size, fun k hk => hH.frame k hk (hF k)⟩
  cases hv
  rfl

theorem argsRep_nil {S : Nat → Prop} {N : Nat} {μ : Nat → Loc} {W : World} : ArgsRep S N μ W [] [] := ⟨rfl, fun i d h => by simp at h⟩
theorem argsRep_cons {S : Nat → Prop} {N : Nat} {μ : Nat → Loc} {W : World} {d : T} {args : List T} {v : Value} {vs : List Value} (h : RepT S N μ W d v) (ht : ArgsRep S N μ W args vs) :
    ArgsRep S N μ W (d :: args) (v :: vs) := by
  refine ⟨by simp [ht.1], fun i d' hi => ?_⟩
  cases i with
  | zero => simp at hi; subst hi; exact ⟨v, rfl, h⟩
  | succ i => obtain ⟨u, hu, hr⟩ := ht.2 i d' (by simpa using hi); exact ⟨u, by simpa using hu, hr⟩

def isStructT (P : Program) (t : TypeId) : Bool := match P.underlying t with | some (.struct _) => true | _ => false
theorem okWide_agg {P : Program} {W : World} {r : Reach} {b0 : Nat} {t : TypeId} {v : Value} (h : isStructT P t = true) (hv : Value.okWide P W r b0 t v) : ∃ cs, v = .agg cs := by
  unfold isStructT at h
  split at h
  · rename_i fs hu
    obtain ⟨cs, h1, _⟩ := WideShapes.okWide_struct hu hv
    exact ⟨cs, h1⟩
  · cases h
section
variable {H : Type} {enc : TypeId × Value → H} {P : Program} {W : World} {b0 : Nat} {t : TypeId} {v : Value} {d : DataW H} {ps : List MemPlace} {n : Nat} {μ : Nat → Loc}

theorem read_agg {shs : List Sh} (hsh : shOf P n t = some shs) (hst : isStructT P t = true) (hv : Value.okWide P W .any b0 t v) (h : DataW.Trod enc P W 0 (fun _ => true) true t v d ps)
    (hw : ∀ n ∈ d.weights P t, n ≤ reachBytes) {α : Type} {e : α → List C} {p : α → Prop} (he : ∀ x, shsOk shs x → ∃ s, x.map C.r = e s ∧ p s) : ∃ s, RepT (fun b => b < W.heap.size) 0 μ W (.v (.agg (e s))) v ∧ p s := by
  obtain ⟨cs, rfl⟩ := okWide_agg hst hv
  obtain ⟨m, hm⟩ := h
  obtain ⟨rs, h1, h2⟩ := shOf_read _ _ _ m _ _ hsh hm hw
  obtain ⟨s, hs, hp⟩ := he _ h2
  exact ⟨s, by rw [← hs]; exact repV_of h1, hp⟩

theorem read_str (ht : P.underlying t = some .string) (hv : Value.okWide P W .any b0 t v) (h : DataW.Trod enc P W 0 (fun _ => true) true t v d ps) (hw : ∀ n ∈ d.weights P t, n ≤ reachBytes) :
    ∃ b : ByteArray, v = .string b ∧ b.size ≤ reachBytes := by
  obtain ⟨m, hm⟩ := h
  obtain ⟨b, h1, h2, h3⟩ := DataW.trod_string ht hm
  obtain ⟨b', rfl⟩ := WideShapes.okWide_string ht hv
  simp only [Value.cells, List.cons.injEq, Value.string.injEq, and_true] at h1
  subst h1
  simp only [Prod.mk.injEq] at h2
  have := hw b'.data.toList.length (by rw [h2.1]; simp [DataW.weights])
  rw [Array.length_toList] at this
  exact ⟨b', rfl, this⟩

/-- Each argument is within reach. -/
theorem each_weights {ts : List TypeId} {ds : List (DataW H)} (h : (DataW.weightsEach P ts ds).all (· ≤ reachBytes) = true) {j : Nat} {t : TypeId} {d : DataW H} (ht : ts[j]? = some t) (hd : ds[j]? = some d) :
    ∀ n ∈ d.weights P t, n ≤ reachBytes := fun n hn => by
  have := List.all_eq_true.1 h n (DataW.weights_mem_each ht hd n hn)
  simpa using this

theorem read_num {k : IntKind} (ht : P.underlying t = some (.int k)) (hv : Value.okWide P W .any b0 t v) (h : DataW.Trod enc P W 0 (fun _ => true) true t v d ps) :
    ∃ m : Int, v = .int k m ∧ (Lit.int k m).wf = true ∧ d = .lit (.int k m) ∧ ps = [] := by
  obtain ⟨m, h1, h2, h3, h4⟩ := ChangeShapes.open_int ht hv h
  exact ⟨m, h1, h4, h2, h3⟩
end

theorem repT_num {S : Nat → Prop} {N : Nat} {μ : Nat → Loc} {W : World} {n : Int} (_ : (Lit.int .i64 n).wf = true) : RepT S N μ W (tI n) (.int .i64 n) := RepR.val rfl
theorem repT_str {S : Nat → Prop} {N : Nat} {μ : Nat → Loc} {W : World} (b : ByteArray) : RepT S N μ W (tS b) (.string b) := RepR.val rfl

end Go.Proofs.Yticflcpmlbaafaa.AL

/- AL: a call that is handed own objects, and others as data. -/
set_option linter.unusedSimpArgs false
set_option linter.unusedVariables false
namespace Go.Proofs.Yticflcpmlbaafaa.AL
open Go

/-- Own rows of X handed on as read-only data. -/
inductive CastX (K : KMap) (X : Nat → Prop) : C → R → Prop
  | r {r : R} : CastX K X (.r r) r
  | nil {sz : Nat} : CastX K X (.r (.val nilS)) (.rd sz [])
  | own {id ver off len sz : Nat} {xs : List (List C)} {rows : List (List R)} (hx : X id) (h : K id = some (.row ver sz xs)) (hlen : off + len ≤ xs.length) (hrl : rows.length = len) (hsz : ∀ y, y ∈ rows → y.length = sz)
      (f : ∀ (i k : Nat) (c : C) (r : R), i < len → (xs.getD (off + i) [])[k]? = some c → (rows.getD i [])[k]? = some r → CastX K X c r) : CastX K X (.own id ver off len) (.rd sz rows)

theorem CastX.sound {w0 : World} {F S S1 : Nat → Prop} {K : KMap} {X : Nat → Prop} {N : Nat} {μ : Nat → Loc} {w : World} (h : HRel w0 F S K N μ w) (hS1 : ∀ b, S b → S1 b) (hX1 : ∀ id o b, X id → K id = some o → (μ id).blk = some b → S1 b)
    {c : C} {r : R} (hc : CastX K X c r) : ∀ {v : Value}, RepC S N μ w c v → RepR S1 w r v := by
  induction hc with
  | r => intro v hv; exact RepR.same (fun _ _ => rfl) hS1 hv
  | nil => intro v hv; cases hv; exact .rd (xs := []) (fun _ _ => undef) (Nat.le_refl 0) (Nat.zero_le _) (fun x hx => by simp at hx) (fun h => absurd rfl h) (fun j x i r hx => by simp at hx)
  | own hx hk hlen hrl hsz f ih =>
    rename_i id ver off len sz xs rows
    intro v hv
    obtain ⟨hver, hs, hid⟩ := h.ver hk
    obtain ⟨_, hle, A, cap, rfl, hcur⟩ := hv
    obtain ⟨hcap, hroom, hA⟩ := hcur hver.symm
    obtain ⟨_, o1, o2, o3, o4, o5, o6⟩ := h.obj id _ hk
    subst hrl
    have hrow : ∀ (j : Nat) (x : List R) (i : Nat) (r : R), rows[j]? = some x → x[i]? = some r → ∃ c, (xs.getD (off + j) [])[i]? = some c ∧ j < rows.length ∧ xs[off + j]? = some (xs.getD (off + j) []) := by
      intro j x i r hx hr
      have hj := (List.getElem?_eq_some_iff.1 hx).1
      have hxj : xs[off + j]? = some (xs.getD (off + j) []) := by
        have : off + j < xs.length := by omega
        simp [this]
      have hl1 := h.rowLen hk hxj
      have hl2 := hsz x (List.mem_of_getElem? hx)
      have hi := (List.getElem?_eq_some_iff.1 hr).1
      exact ⟨_, List.getElem?_eq_getElem (by omega), hj, hxj⟩
    by_cases hne : rows = []
    · subst hne
      exact .rd (xs := []) (fun _ _ => undef) hcap (by omega) (fun x hx => by simp at hx) (fun h => absurd rfl h) (fun j x i r hx => by simp at hx)
    · have hpos : 0 < rows.length := List.length_pos_iff.2 hne
      obtain ⟨b, hb, rfl⟩ := hA (by omega)
      refine .rd (fun j i => (w.cell? (((μ id).at b off 0).add (j * sz + i))).getD undef) hcap (by omega) hsz (fun _ => ⟨_, rfl, ?_, fun j x i r hx hr => ?_⟩) (fun j x i r hx hr => ?_)
      · simp only [Loc.at]
        exact hX1 id _ b hx hk hb
      · obtain ⟨c, hc, hj, hxj⟩ := hrow j x i r hx hr
        obtain ⟨u, hu, _⟩ := h.cell hk hb hxj hc
        have : ((μ id).at b off 0).add (j * sz + i) = (μ id).at b (off + j) i := by
          rw [loc_at_add]; unfold Loc.at; rw [hs, Nat.add_mul]; simp [Nat.add_assoc]
        rw [this, hu]; rfl
      · obtain ⟨c, hc, hj, hxj⟩ := hrow j x i r hx hr
        obtain ⟨u, hu, hr'⟩ := h.cell hk hb hxj hc
        have : ((μ id).at b off 0).add (j * sz + i) = (μ id).at b (off + j) i := by
          rw [loc_at_add]; unfold Loc.at; rw [hs, Nat.add_mul]; simp [Nat.add_assoc]
        rw [this, hu]
        have hrx : (rows.getD j [])[i]? = some r := by
          have : rows.getD j [] = x := by simp [List.getD_eq_getElem?_getD, hx]
          rw [this]; exact hr
        exact ih j i c r hj hc hrx hr'


/-- What a callee knows of a cell that it is handed: an own one under its name there, or data. -/
def MixC (K : KMap) (X : Nat → Prop) (σ : Nat → Nat) (N1 : Nat) (c c1 : C) : Prop :=
  (c = c1.ren σ ∧ c1.below N1 = true) ∨ (∃ r, c1 = .r r ∧ CastX K X c r) ∨
  ∃ (id ver sz : Nat) (xs : List (List C)) (i : Nat) (rs : List R), c = .ptr id ver i 0 ∧ c1 = .rp rs ∧ X id ∧ K id = some (.row ver sz xs) ∧ i < xs.length ∧ rs.length ≤ sz ∧ ∀ (k : Nat) (c : C) (r : R), (xs.getD i [])[k]? = some c → rs[k]? = some r → CastX K X c r

theorem MixC.sound {w0 : World} {F S S1 : Nat → Prop} {K : KMap} {X : Nat → Prop} {N N1 : Nat} {μ : Nat → Loc} {σ : Nat → Nat} {w : World} (h : HRel w0 F S K N μ w) (hS1 : ∀ b, S b → S1 b) (hX1 : ∀ id o b, X id → K id = some o → (μ id).blk = some b → S1 b)
    {c c1 : C} {v : Value} (hc : MixC K X σ N1 c c1) (hr : RepC S N μ w c v) : RepC S1 N1 (fun i => μ (σ i)) w c1 v := by
  rcases hc with ⟨rfl, hb⟩ | ⟨r, rfl, hx⟩ | ⟨id, ver, sz, xs, i, rs, rfl, rfl, hx, hk, hi, hsz, f⟩
  · exact (RepC.down (N2 := N) (μ2 := μ) (ρ := σ) (fun _ _ => rfl) hb hr).move (fun _ _ => rfl) hS1 (Nat.le_refl _) (Later.refl _ _)
  · exact hx.sound h hS1 hX1 hr
  · obtain ⟨hver, hs, hid⟩ := h.ver hk
    obtain ⟨_, hle, A, rfl, hcur⟩ := hr
    obtain ⟨b, hb, rfl⟩ := hcur hver.symm
    have hxi : xs[i]? = some (xs.getD i []) := by simp [hi]
    have hl1 := h.rowLen hk hxi
    refine ⟨_, rfl, ?_, fun k r hkr => ?_⟩
    · simp only [Loc.at]
      exact hX1 id _ b hx hk hb
    · have hklt := (List.getElem?_eq_some_iff.1 hkr).1
      have hkc : (xs.getD i [])[k]? = some ((xs.getD i [])[k]'(by omega)) := List.getElem?_eq_getElem (by omega)
      obtain ⟨u, hu, hr'⟩ := h.cell hk hb hxi hkc
      refine ⟨u, ?_, (f k _ r hkc hkr).sound h hS1 hX1 hr'⟩
      rw [loc_at_add, Nat.zero_add]
      exact hu

section
variable {P : Program} {w0 : World} {F S S' : Nat → Prop} {K K1 : KMap} {N N1 : Nat} {μ : Nat → Loc} {w : World}

theorem liftA_repG {X : C → C → Prop} {μ1 : Nat → Loc} (hX : ∀ c c1 v, X c c1 → RepC S N μ w c v → RepC S' N1 μ1 w c1 v) : ∀ {args args1 : List T} {vs : List Value}, liftA X args args1 → ArgsRep S N μ w args vs → ArgsRep S' N1 μ1 w args1 vs
  | [], [], vs, _, h => ⟨h.1, fun i d hi => by simp at hi⟩
  | [], _ :: _, vs, hl, h => hl.elim
  | _ :: _, [], vs, hl, h => hl.elim
  | a :: l, b :: m, vs, hl, h => by
    obtain ⟨h1, h2⟩ := h
    cases vs with
    | nil => simp at h1
    | cons v vs =>
      have hrest := liftA_repG hX (args := l) (args1 := m) (vs := vs) hl.2 ⟨by simpa using h1, fun i d hi => by simpa using h2 (i + 1) d (by simpa using hi)⟩
      refine ⟨by simp [hrest.1], fun i d hi => ?_⟩
      cases i with
      | succ i => simpa using hrest.2 i d (by simpa using hi)
      | zero =>
        simp at hi
        subst hi
        refine ⟨v, rfl, ?_⟩
        obtain ⟨v', hv', hr⟩ := h2 0 a rfl
        simp at hv'
        subst hv'
        have hab := hl.1
        cases a with
        | tup => cases b <;> exact hab.elim
        | v d =>
          cases b with
          | tup => exact hab.elim
          | v d1 =>
            cases d with
            | x c =>
              cases d1 with
              | x c1 => exact hX c c1 v hab hr
              | agg cs1 => exact hab.elim
            | agg cs =>
              cases d1 with
              | x c1 => exact hab.elim
              | agg cs1 =>
                obtain ⟨us, rfl, hsz, hc⟩ := hr
                obtain ⟨e1, e2⟩ := hab
                refine ⟨us, rfl, by omega, fun i c1 hi => ?_⟩
                have hlt : i < cs.length := by
                  have := (List.getElem?_eq_some_iff.1 hi).1
                  omega
                have hci := List.getElem?_eq_getElem hlt
                obtain ⟨u, hu, hr'⟩ := hc i _ hci
                exact ⟨u, hu, hX _ _ u (e2 i _ c1 hci hi) hr'⟩

/-- A CALL THAT IS HANDED OWN OBJECTS, AND OTHERS AS DATA. -/
theorem Spec.callMix {f : FuncId} {args args1 : List T} {Q : T → KMap → Nat → Prop} (hs : Spec P f args1 K1 N1 Q) (σ : Nat → Nat) (hσ : ∀ i, i < N1 → σ i < N) (hinj : ∀ i j, i < N1 → j < N1 → σ i = σ j → i = j)
    (hK : ∀ i o, K1 i = some o → i < N1 ∧ o.below N1 = true ∧ K (σ i) = some (o.ren σ)) (ha : liftA (MixC K (fun id => ∀ i, i < N1 → σ i ≠ id) σ N1) args args1) (hfl : ∀ d K1' N1', Q d K1' N1' → d.flat = true ∧ ∀ id o, K1' id = some o → o.flat = true) {q : Bool} {R : T → KMap → Nat → Prop}
    (hR : ∀ d K1' N1', Q d K1' N1' → N1 ≤ N1' → (q = true → ∀ i, i < N1 → (K1' i).map (AObj.ren (upTo σ N1 N)) = K (σ i)) ∧ R (d.ren (upTo σ N1 N)) (joinS σ N1 N K K1') (N + (N1' - N1))) : CallW P q f args K N R := by
  obtain ⟨hc, hs⟩ := hs
  refine ⟨hc, fun w0 F S μ w vs hh har => ?_⟩
  have hμ : ∀ i, i < N1 → (fun i => μ (σ i)) i = μ (σ i) := fun i _ => rfl
  have hfoot : ∀ b, Foot K1 (fun i => μ (σ i)) b → ∃ i o, i < N1 ∧ K1 i = some o ∧ K (σ i) = some (o.ren σ) ∧ (μ (σ i)).blk = some b := fun b ⟨i, o, hk, hb⟩ => by
    obtain ⟨g1, g2, g3⟩ := hK i o hk
    exact ⟨i, o, g1, hk, g3, hb⟩
  have hF : ∀ b, Foot K1 (fun i => μ (σ i)) b → (F b ∨ w0.heap.size ≤ b) ∧ b < w.heap.size := fun b hb => by
    obtain ⟨i, o, g1, g2, g3, g4⟩ := hfoot b hb
    exact hh.blk (σ i) _ b g3 g4
  have hSF : ∀ b, S b → b < w.heap.size ∧ ¬ Foot K1 (fun i => μ (σ i)) b := fun b hb => by
    obtain ⟨g1, g2⟩ := hh.st b hb
    refine ⟨by have := hh.size; omega, fun hf => ?_⟩
    rcases (hF b hf).1 with g | g
    · exact g2 g
    · omega
  have hpre : HRel w (Foot K1 (fun i => μ (σ i))) (fun b => b < w.heap.size ∧ ¬ Foot K1 (fun i => μ (σ i)) b) K1 N1 (fun i => μ (σ i)) w := by
    refine ⟨fun b hb => hb, rfl, rfl, rfl, Nat.le_refl _, fun b _ _ => rfl, fun i o hk => ?_, fun i o b hk hb => ⟨.inl ⟨i, o, hk, hb⟩, ?_⟩, fun i j o o' b hne hk hk' hb => ?_⟩
    · obtain ⟨g1, g2, g3⟩ := hK i o hk
      exact ⟨g1, ObjOk.down (N2 := N) (μ2 := μ) (ρ := σ) (fun _ _ => rfl) g1 g2 ((hh.obj _ _ g3).2.move (fun _ _ => rfl) hSF (Nat.le_refl _) (Later.refl _ _) rfl (fun _ _ => rfl))⟩
    · exact (hF b ⟨i, o, hk, hb⟩).2
    · obtain ⟨g1, g2, g3⟩ := hK i o hk
      obtain ⟨g1', g2', g3'⟩ := hK j o' hk'
      exact hh.dis (σ i) (σ j) _ _ b (fun e => hne (hinj i j g1 g1' e)) g3 g3' hb
  have hargs : ArgsRep (fun b => b < w.heap.size ∧ ¬ Foot K1 (fun i => μ (σ i)) b) N1 (fun i => μ (σ i)) w args1 vs.toList := by
    have hX1 : ∀ id o b, (∀ i, i < N1 → σ i ≠ id) → K id = some o → (μ id).blk = some b → b < w.heap.size ∧ ¬ Foot K1 (fun i => μ (σ i)) b := fun id o b hx hk hb => by
      refine ⟨(hh.blk id o b hk hb).2, fun hf => ?_⟩
      obtain ⟨i, o', g1, g2, g3, g4⟩ := hfoot b hf
      exact hh.dis id (σ i) o _ b (fun e => hx i g1 e.symm) hk g3 hb g4
    exact liftA_repG (fun c c1 v hx hr => MixC.sound hh hSF hX1 hx hr) ha har
  refine (hs (fun b => b < w.heap.size ∧ ¬ Foot K1 (fun i => μ (σ i)) b) (fun i => μ (σ i)) w vs hpre hargs).mono ?_
  rintro e w' ⟨v, d, K1', N1', μ1, rfl, hQ, h1, hN1, hL1, hrep⟩
  obtain ⟨hfd, hfo⟩ := hfl d K1' N1' hQ
  let μ' : Nat → Loc := fun id => match downTo σ N1 N id with | some i => μ1 i | none => μ id
  have hμ' : ∀ i, μ' (upTo σ N1 N i) = μ1 i := fun i => by simp only [μ', downTo_up hσ hinj i]
  have hρ : ∀ i, i < N1' → upTo σ N1 N i < N + (N1' - N1) ∧ μ' (upTo σ N1 N i) = μ1 i := fun i hi => ⟨by
    by_cases h : i < N1
    · rw [upTo_lt h]; have := hσ i h; omega
    · rw [upTo_ge h]; omega, hμ' i⟩
  have hheap : ∀ b, b < w.heap.size → ¬ Foot K1 (fun i => μ (σ i)) b → w'.heap[b]? = w.heap[b]? := fun b hb hn => h1.frame b hb hn
  have hsame : Same S w w' := fun b hb => hheap b (hSF b hb).1 (hSF b hb).2
  have hold : ∀ id, downTo σ N1 N id = none → μ' id = μ id := fun id h => by simp only [μ', h]
  have hL : Later N μ μ' := fun id hid => by
    cases hd : downTo σ N1 N id with
    | none => exact .inl (hold id hd)
    | some i =>
      have hu := downTo_some hd
      have hi : i < N1 := by
        rcases Nat.lt_or_ge i N1 with h | h
        · exact h
        · rw [upTo_ge (by omega)] at hu; omega
      have e : μ' id = μ1 i := by rw [← hu]; exact hμ' i
      rw [upTo_lt hi] at hu
      rw [e]
      have := hL1 i hi
      simp only [hu] at this
      exact this
  -- an old object's block is none of the callee's
  have hnf : ∀ id o b, downTo σ N1 N id = none → K id = some o → (μ id).blk = some b → b < w.heap.size ∧ ¬ Foot K1 (fun i => μ (σ i)) b := fun id o b hd hk hb => by
    refine ⟨(hh.blk id o b hk hb).2, fun hf => ?_⟩
    obtain ⟨i, o', g1, g2, g3, g4⟩ := hfoot b hf
    exact hh.dis id (σ i) o _ b (fun e => (downTo_none hd).2 i g1 e.symm) hk g3 hb g4
  obtain ⟨hq, hRR⟩ := hR d K1' N1' hQ hN1
  refine ⟨v, d.ren (upTo σ N1 N), joinS σ N1 N K K1', N + (N1' - N1), μ', rfl, hRR, fun hqt id hid => ?_, ?_, by omega, hL, (hrep.flat (S := S) hfd).up (ρ := upTo σ N1 N) (μ2 := μ') hρ⟩
  · unfold joinS
    cases hd : downTo σ N1 N id with
    | none => rfl
    | some i =>
      have hu := downTo_some hd
      have hi : i < N1 := by
        rcases Nat.lt_or_ge i N1 with h | h
        · exact h
        · rw [upTo_ge (by omega)] at hu; omega
      simp only
      rw [hq hqt i hi, ← upTo_lt (σ := σ) (N := N) hi, hu]
  · refine ⟨hh.st, h1.os.trans hh.os, h1.tape.trans hh.tape, h1.output.trans hh.output, Nat.le_trans hh.size h1.size, fun b hb hnF => ?_, fun id o hk => ?_, fun id o b hk hb => ?_, fun id id' o o' b hne hk hk' hb => ?_⟩
    · rw [hheap b (by have := hh.size; omega) (fun hf => by
        rcases (hF b hf).1 with g | g
        · exact hnF g
        · omega)]
      exact hh.frame b hb hnF
    · unfold joinS at hk
      cases hd : downTo σ N1 N id with
      | none =>
        rw [hd] at hk
        obtain ⟨g1, g2⟩ := hh.obj id o hk
        exact ⟨by omega, g2.move hsame (fun _ h => h) (by omega) hL (hold id hd) (fun b hb => hheap b (hnf id o b hd hk hb).1 (hnf id o b hd hk hb).2)⟩
      | some i =>
        rw [hd] at hk
        simp only [Option.map_eq_some_iff] at hk
        obtain ⟨o', hk', rfl⟩ := hk
        obtain ⟨g1, g2⟩ := h1.obj i o' hk'
        have hu := downTo_some hd
        have := (g2.flat (S := S) (hfo i o' hk')).up (ρ := upTo σ N1 N) (μ2 := μ') hρ g1
        rw [hu] at this
        refine ⟨?_, this⟩
        rw [← hu]
        exact (hρ i g1).1
    · unfold joinS at hk
      cases hd : downTo σ N1 N id with
      | none =>
        rw [hd] at hk
        rw [hold id hd] at hb
        obtain ⟨g1, g2⟩ := hh.blk id o b hk hb
        exact ⟨g1, by have := h1.size; omega⟩
      | some i =>
        rw [hd] at hk
        simp only [Option.map_eq_some_iff] at hk
        obtain ⟨o', hk', rfl⟩ := hk
        rw [← downTo_some hd, hμ' i] at hb
        obtain ⟨g1, g2⟩ := h1.blk i o' b hk' hb
        refine ⟨?_, g2⟩
        rcases g1 with g1 | g1
        · exact (hF b g1).1
        · exact .inr (by have := hh.size; omega)
    · have callee : ∀ id o b, (∃ i, downTo σ N1 N id = some i) → joinS σ N1 N K K1' id = some o → (μ' id).blk = some b → ∃ i o1, downTo σ N1 N id = some i ∧ K1' i = some o1 ∧ (μ1 i).blk = some b ∧ (Foot K1 (fun i => μ (σ i)) b ∨ w.heap.size ≤ b) := by
        rintro id o b ⟨i, hd⟩ hk hb
        unfold joinS at hk
        rw [hd] at hk
        simp only [Option.map_eq_some_iff] at hk
        obtain ⟨o', hk', rfl⟩ := hk
        rw [← downTo_some hd, hμ' i] at hb
        exact ⟨i, o', hd, hk', hb, (h1.blk i o' b hk' hb).1⟩
      have oldie : ∀ id o b, downTo σ N1 N id = none → joinS σ N1 N K K1' id = some o → (μ' id).blk = some b → K id = some o ∧ (μ id).blk = some b := by
        intro id o b hd hk hb
        unfold joinS at hk
        rw [hd] at hk
        rw [hold id hd] at hb
        exact ⟨hk, hb⟩
      intro hb'
      cases hd : downTo σ N1 N id with
      | none =>
        obtain ⟨k1, k2⟩ := oldie id o b hd hk hb
        obtain ⟨n1, n2⟩ := hnf id o b hd k1 k2
        cases hd' : downTo σ N1 N id' with
        | none =>
          obtain ⟨k1', k2'⟩ := oldie id' o' b hd' hk' hb'
          exact hh.dis id id' o o' b hne k1 k1' k2 k2'
        | some j =>
          obtain ⟨_, _, _, _, _, g⟩ := callee id' o' b ⟨j, hd'⟩ hk' hb'
          rcases g with g | g
          · exact n2 g
          · omega
      | some i =>
        obtain ⟨i', o1, e1, e2, e3, g⟩ := callee id o b ⟨i, hd⟩ hk hb
        cases hd' : downTo σ N1 N id' with
        | none =>
          obtain ⟨k1', k2'⟩ := oldie id' o' b hd' hk' hb'
          obtain ⟨n1, n2⟩ := hnf id' o' b hd' k1' k2'
          rcases g with g | g
          · exact n2 g
          · omega
        | some j =>
          obtain ⟨j', o2, e1', e2', e3', _⟩ := callee id' o' b ⟨j, hd'⟩ hk' hb'
          refine h1.dis i' j' o1 o2 b (fun e => hne ?_) e2 e2' e3 e3'
          rw [← downTo_some e1, ← downTo_some e1', e]
end

end Go.Proofs.Yticflcpmlbaafaa.AL

/- Rows of slices: the nil ones become own empty slices, each with a name of its own. -/
set_option linter.unusedVariables false
set_option linter.unusedSimpArgs false
namespace Go.Proofs.Yticflcpmlbaafaa.AL
open Go
section
variable {N0 : Nat} {tm : Nat → Option T} {K : KMap} {N : Nat}

/-- A row of a slice that is nil. -/
theorem Weak.nilAt (i j s sz ver : Nat) (xs : List (List C)) (hi : K i = some (.row ver sz xs)) (hj : xs[j]? = some [cV nilS]) :
    Weak N0 ⟨tm, K, N⟩ ⟨tm, upd (upd K N (.row 0 s [])) i (.row ver sz (xs.set j [.own N 0 0 0])), N + 1⟩ := fun dl n w0 F S μ0 μ a w h => by
  have hL : Later N μ (fun id => if id = N then ⟨0, none, 0, 0, s⟩ else μ id) := fun id hid => .inl (by simp [Nat.ne_of_lt hid])
  have hlt : i < N := (h.h.obj i _ hi).1
  have hrow := h.h.nilRow s
  have hi2 : upd K N (.row 0 s []) i = some (.row ver sz xs) := by rw [upd_ne _ _ (Nat.ne_of_lt hlt)]; exact hi
  refine ⟨_, h.defers, h.size, fun k d hk => (h.tm k d hk).move (fun _ _ => rfl) (fun _ h => h) (Nat.le_succ N) hL, hrow.objSwap hi2 ?_, Nat.le_succ_of_le h.ent, h.later.trans hL h.ent⟩
  obtain ⟨o1, o2, o3, o4, o5, o6⟩ := (hrow.obj i _ hi2).2
  refine ⟨o1, o2, by rw [List.length_set]; exact o3, o4, fun x hx => ?_, ?_⟩
  · rcases List.mem_or_eq_of_mem_set hx with hx | rfl
    · exact o5 x hx
    · exact o5 [cV nilS] (List.mem_of_getElem? hj)
  · revert o6
    cases ((fun id => if id = N then (⟨0, none, 0, 0, s⟩ : Loc) else μ id) i).blk with
    | none => exact fun h => h
    | some b =>
      rintro ⟨vals, ty, c1, c2, c3⟩
      refine ⟨vals, ty, c1, c2, fun q x k c hq hk => ?_⟩
      rw [List.getElem?_set] at hq
      split at hq
      · rename_i e
        subst e
        split at hq
        · cases hq
          cases k with
          | succ k => simp at hk
          | zero =>
            simp at hk
            subst hk
            obtain ⟨u, u1, u2⟩ := c3 j [cV nilS] 0 _ hj rfl
            exact ⟨u, u1, nil_own (sz := s) u2 (Nat.lt_succ_self N) (if_pos rfl)⟩
        · cases hq
      · exact c3 q x k c hq hk

/-- A row of slices with names in a row. -/
def ownRow (b : Nat) (V L : Nat → Nat) (n : Nat) : List (List C) := (List.range n).map fun i => [C.own (b + i) (V i) 0 (L i)]
theorem ownRow_len {b n : Nat} {V L : Nat → Nat} : (ownRow b V L n).length = n := by simp [ownRow]
theorem ownRow_at {b n i : Nat} {V L : Nat → Nat} (h : i < n) : (ownRow b V L n).getD i [] = [C.own (b + i) (V i) 0 (L i)] := by simp [ownRow, h]
theorem ownRow_set {b n i v l : Nat} {V L : Nat → Nat} (h : i < n) : (ownRow b V L n).set i [C.own (b + i) v 0 l] = ownRow b (fun j => if j = i then v else V j) (fun j => if j = i then l else L j) n := by
  refine List.ext_getElem (by simp [ownRow]) fun j h1 h2 => ?_
  rw [List.getElem_set]
  by_cases e : i = j
  · subst e; simp [ownRow]
  · have e' : ¬ j = i := fun h => e h.symm
    simp [ownRow, e, e']

/-- All nil rows at once. -/
theorem Weak.nilRow (i s ver n : Nat) (hi : K i = some (.row ver 1 (List.replicate n [cV nilS]))) (hiN : i < N) :
    ∃ K', (∀ tm, Weak N0 ⟨tm, K, N⟩ ⟨tm, K', N + n⟩) ∧ (∀ j, j < N → j ≠ i → K' j = K j) ∧ K' i = some (.row ver 1 (ownRow N (fun _ => 0) (fun _ => 0) n)) ∧ ∀ j, j < n → K' (N + j) = some (.row 0 s []) := by
  have step : ∀ m, m ≤ n → ∃ K', (∀ tm, Weak N0 ⟨tm, K, N⟩ ⟨tm, K', N + m⟩) ∧ (∀ j, j < N → j ≠ i → K' j = K j) ∧ K' i = some (.row ver 1 (ownRow N (fun _ => 0) (fun _ => 0) m ++ List.replicate (n - m) [cV nilS])) ∧ ∀ j, j < m → K' (N + j) = some (.row 0 s []) := by
    intro m
    induction m with
    | zero => exact fun _ => ⟨K, fun _ => Weak.refl _ _, fun _ _ _ => rfl, by simpa [ownRow] using hi, fun j hj => by omega⟩
    | succ m ih =>
      intro hm
      obtain ⟨K', w, k1, k2, k3⟩ := ih (by omega)
      have e : n - m = (n - (m + 1)) + 1 := by omega
      have hj : (ownRow N (fun _ => 0) (fun _ => 0) m ++ List.replicate (n - m) [cV nilS])[m]? = some [cV nilS] := by
        rw [List.getElem?_append_right (by simp [ownRow]), ownRow_len, e]
        simp [List.replicate_succ]
      refine ⟨_, fun t => (w t).trans (Weak.nilAt i m s 1 ver _ k2 hj), fun j h1 h2 => ?_, ?_, fun j hj => ?_⟩
      · rw [upd_ne _ _ h2, upd_ne _ _ (by omega)]; exact k1 j h1 h2
      · rw [upd_self, e]
        congr 2
        rw [List.set_append_right _ _ (by simp [ownRow]), ownRow_len, Nat.sub_self, List.replicate_succ, List.set_cons_zero]
        simp [ownRow, List.range_succ]
      · rw [upd_ne _ _ (by omega)]
        by_cases e2 : j = m
        · subst e2; rw [upd_self]
        · rw [upd_ne _ _ (by omega)]; exact k3 j (by omega)
  obtain ⟨K', w, k1, k2, k3⟩ := step n (Nat.le_refl n)
  exact ⟨K', w, k1, by simpa using k2, k3⟩
end
end Go.Proofs.Yticflcpmlbaafaa.AL

/- Results that may be nil taken for own rows. -/
set_option linter.unusedVariables false
set_option linter.unusedSimpArgs false
namespace Go.Proofs.Yticflcpmlbaafaa.AL
open Go
variable {P : Program}

/-- A result that is nil is an own row without elements. -/
theorem Spec.nilOwn {f : FuncId} {args : List T} {K : KMap} {N : Nat} {Q Q' : T → KMap → Nat → Prop} (sz : Nat) (h : Spec P f args K N Q)
    (hQ : ∀ d K' N', Q d K' N' → Q' d K' N' ∨ (d = tC (cV nilS) ∧ Q' (tC (.own N' 0 0 0)) (upd K' N' (.row 0 sz [])) (N' + 1))) : Spec P f args K N Q' :=
  ⟨h.1, fun S μ w vs hh ha => (h.2 S μ w vs hh ha).mono fun e w' ⟨v, d, K', N', μ', he, hq, hr, hN, hL, hd⟩ => by
    rcases hQ d K' N' hq with h1 | ⟨rfl, h2⟩
    · exact ⟨v, d, K', N', μ', he, h1, hr, hN, hL, hd⟩
    · have hL' : Later N' μ' (fun id => if id = N' then ⟨0, none, 0, 0, sz⟩ else μ' id) := fun id hid => .inl (by simp [Nat.ne_of_lt hid])
      have hd' : RepC S N' μ' w' (cV nilS) v := hd
      exact ⟨v, _, _, _, _, he, h2, hr.nilRow sz, by omega, hL.trans hL' hN, nil_own (sz := sz) (hd'.move (fun _ _ => rfl) (fun _ h => h) (Nat.le_succ N') hL') (Nat.lt_succ_self N') (if_pos rfl)⟩⟩

theorem joinK_one {K : KMap} {N : Nat} (h : WF K N) {o : AObj} : joinK N K (upd emp 0 o) = upd K N (o.ren (addN N)) := by
  funext id
  unfold joinK upd
  by_cases h1 : id < N
  · simp [h1, Nat.ne_of_lt h1]
  · rw [if_neg h1]
    by_cases h2 : id = N
    · subst h2; simp
    · rw [if_neg h2, if_neg (by omega)]
      cases hk : K id with
      | none => rfl
      | some o => exact absurd (h id o hk) (by omega)

theorem Spec.callable {f : FuncId} {args : List T} {K : KMap} {N : Nat} {Q : T → KMap → Nat → Prop} (h : Spec P f args K N Q) : callable P f = true := h.1
/-! The objects behind a call that was handed own ones. -/
theorem joinS_at {σ : Nat → Nat} {N1 N : Nat} {K K1 : KMap} (hσ : ∀ i, i < N1 → σ i < N) (hinj : ∀ i j, i < N1 → j < N1 → σ i = σ j → i = j) {i : Nat} (hi : i < N1) : joinS σ N1 N K K1 (σ i) = (K1 i).map (AObj.ren (upTo σ N1 N)) := by
  unfold joinS
  have := downTo_up hσ hinj i
  rw [upTo_lt hi] at this
  rw [this]
theorem joinS_off {σ : Nat → Nat} {N1 N : Nat} {K K1 : KMap} (hσ : ∀ i, i < N1 → σ i < N) {id : Nat} (h : id < N) (hne : ∀ i, i < N1 → σ i ≠ id) : joinS σ N1 N K K1 id = K id := by
  unfold joinS
  cases hd : downTo σ N1 N id with
  | none => rfl
  | some i =>
    have := downTo_some hd
    unfold upTo at this
    split at this
    · rename_i h1; exact absurd this (hne i h1)
    · omega
theorem joinS_off' {N : Nat} {K K1 : KMap} {id : Nat} (h : id < N) : joinS (fun i => i) 0 N K K1 id = K id := joinS_off (fun i hi => by omega) h (fun i hi => by omega)

/-- A call of a function of data, that is handed own objects as data. -/
theorem Pure.callMix {f : FuncId} {args args1 : List T} {Φ : T → Prop} {K : KMap} {N : Nat} {q : Bool} {Rk : T → KMap → Nat → Prop} (hs : Pure P f args1 Φ) (ha : liftA (MixC K (fun _ => True) (fun i => i) 0) args args1) (hfl : ∀ d, Φ d → d.flat = true) (hR : ∀ d, Φ d → Rk d K N) : CallW P q f args K N Rk :=
  CallW.wf (fun hw => by
    refine Spec.callMix (K1 := emp) (N1 := 0) hs (fun i => i) (fun i hi => by omega) (fun i j hi => by omega) (fun i o h => by cases h) ?_ (fun d K' N' hQ => ⟨hfl d hQ.1, fun id o h => by rw [hQ.2.2.1] at h; cases h⟩) (fun d K' N' hQ hle => ⟨fun _ i hi => by omega, ?_⟩)
    · have e : (fun id => ∀ i, i < 0 → (fun i : Nat => i) i ≠ id) = fun _ => True := by funext id; simp
      rw [e]; exact ha
    · obtain ⟨h1, h2, rfl, rfl⟩ := hQ
      have ej : joinS (fun i => i) 0 N K emp = K := by
        funext id
        by_cases h : id < N
        · exact joinS_off' h
        · have hk : K id = none := by
            cases hk : K id with
            | none => rfl
            | some o => exact absurd (hw id o hk) h
          rw [hk]
          unfold joinS
          cases hd : downTo (fun i => i) 0 N id with
          | none => exact hk
          | some i => rfl
      rw [ej, T.ren_below h2]
      exact hR d h1) hs.1


/-! A range over a map. -/
/-- What has to hold where a range over a map begins. -/
def rmW (P : Program) (N0 : Nat) (m : Operand) (it nx more pr : Nat) (asg : List SOp) (out nb : Nat) (b : SCode) (Q : XE → St → Prop) (s0 : St) : Prop := ∀ r : Nat,
      (∃ v, opd s0.tm m = some v ∧ v = tV (.map none) ∧ Q .normal ⟨tmE (upd s0.tm it (tV (iptr r))) nx more, s0.K, s0.N⟩) ∨
      ∃ (mid : Nat) (es : List (Value × V)) (I : List (Value × V) → St → Prop), opd s0.tm m = some (tC (.map mid)) ∧ s0.K mid = some (.map es) ∧ es.all (fun e => keyGood e.1 && dataV e.2) = true ∧
        (∀ done s, I done s → s.tm it = some (tV (iptr r))) ∧
        (∃ s, Weak N0 ⟨upd s0.tm it (tV (iptr r)), dropK [mid] s0.K, s0.N⟩ s ∧ I [] s) ∧
        (∀ done e rest s, es.Perm (done ++ e :: rest) → I done s → AW P false asg ⟨tmR s.tm nx more pr e, s.K, s.N⟩ fun s' => awp P N0 b s' (blockQ nb (rmE N0 (I (done ++ [e])) (blockQ out Q)))) ∧
        (∀ done s, es.Perm done → I done s → Q .normal ⟨tmE s.tm nx more, s.K, s.N⟩)
section
variable {N0 : Nat} {init : List SOp} {m : Operand} {it nx more pr out nb : Nat} {asg : List SOp} {b : SCode} {Q : XE → St → Prop}
theorem awp_rmW {st : St} : awp P N0 (.rm init m it nx more pr asg out nb b) st Q = AW P false init st (rmW P N0 m it nx more pr asg out nb b Q) := awp_rm
theorem rmW_nil {tm : Nat → Option T} {K : KMap} {N : Nat} (h : opd tm m = some (tV (.map none))) (hQ : ∀ r, Q .normal ⟨tmE (upd tm it (tV (iptr r))) nx more, K, N⟩) : rmW P N0 m it nx more pr asg out nb b Q ⟨tm, K, N⟩ :=
  fun r => .inl ⟨_, h, rfl, hQ r⟩
theorem rmW_map {X : Type} {tm : Nat → Option T} {K : KMap} {N mid : Nat} {es : List (Value × V)} (h : opd tm m = some (tC (.map mid))) (hk : K mid = some (.map es)) (hes : es.all (fun e => keyGood e.1 && dataV e.2) = true)
    (mk : Nat → X → St) (inv : List (Value × V) → X → Prop) (h1 : ∀ r x, (mk r x).tm it = some (tV (iptr r))) (x0 : X) (hw : ∀ r, Weak N0 ⟨upd tm it (tV (iptr r)), dropK [mid] K, N⟩ (mk r x0)) (h0 : inv [] x0)
    (hr : ∀ r done e rest x, es.Perm (done ++ e :: rest) → inv done x → AW P false asg ⟨tmR (mk r x).tm nx more pr e, (mk r x).K, (mk r x).N⟩ fun s' => awp P N0 b s' (blockQ nb (rmE N0 (fun s => ∃ y, s = mk r y ∧ inv (done ++ [e]) y) (blockQ out Q))))
    (hd : ∀ r done x, es.Perm done → inv done x → Q .normal ⟨tmE (mk r x).tm nx more, (mk r x).K, (mk r x).N⟩) : rmW P N0 m it nx more pr asg out nb b Q ⟨tm, K, N⟩ :=
  fun r => .inr ⟨mid, es, fun done s => ∃ y, s = mk r y ∧ inv done y, h, hk, hes, fun done s ⟨y, e, _⟩ => by rw [e]; exact h1 r y, ⟨_, hw r, x0, rfl, h0⟩, fun done e rest s hp ⟨y, e1, hi⟩ => by subst e1; exact hr r done e rest y hp hi, fun done s hp ⟨y, e1, hi⟩ => by subst e1; exact hd r done y hp hi⟩
theorem rmE_normal {J : St → Prop} {s : St} : rmE N0 J Q .normal s = ∃ s2, Weak N0 s s2 ∧ J s2 := rfl
theorem rmE_exit {J : St → Prop} {i : Nat} : rmE N0 J Q (.exit i) = Q (.exit i) := rfl
theorem rmE_ret {J : St → Prop} : rmE N0 J Q .ret = Q .ret := rfl
end
end Go.Proofs.Yticflcpmlbaafaa.AL
