/-
  No cell of these rows narrows 'for every input' (looked for: loops, veiled, ifaces, maps, wideKeys, modest, calm, conditions, laid).
  DERIVED. THE GIVEN ROWS OF THIS SEAT. 5 by the template 'for every input the law returns true; each argument reads behind the call as it read before'; 0 by the template 'total and deterministic' (their statements: YtcocbifjjafknaaTotals.lean).
  GIVEN WITH THE SEED: the statements are not yours to turn. If you find one false, say at which input.
  Laid BY PROGRAM, IN A SANDBOX (cutbox-rows.mjs): the forced cells as the released guide's own fill.sh prints them over the translation 444cc8993c96732c… (all of the seat's roots in one cut). By AI agents, Wed Nov 11 2026. No macro, syntax, notation, axiom, sorry.
-/
import Derived.Test.YtcocbifjjafknaaChecked
import GoSem.Claim
import GoSem.ClaimJoined
import GoSem.ClaimMapViews
import Derived.JoinedTies
import Derived.KernelRfl
namespace Go.Proofs.Ytcocbifjjafknaa
/- THE CELL 'sum', in the pinned program and in every row, IS THE sha256 OF THE DUMP (.gsa) THAT YtcocbifjjafknaaProg.lean LOADS. Nothing in Lean hashes anything: it is a label: what it is worth is what the hold of that sum in a sandbox is worth. -/
noncomputable def Try.pinned : Pinned := { name := "ytcocbifjjafknaa", sum := "444cc8993c96732c1395b94282910cf76c026d88792264d14f86fc667423bd3b", checked := Try.checked }
namespace Rows
def none {H : Type} : Left H := { results := [], args := [] }

/-- 'taquinlaw12.RulesApart': WHATEVER THE INPUT: true; the input reads as it did. -/
def rulesApartSpec : ChangeSpec := { name := "rulesApart", fn := fun _ => fun
  | [d1, d2] => { results := [.lit (.bool true)], args := [d1, d2] }
  | _ => none }
def rulesApartRow : OpenClaim := { program := "ytcocbifjjafknaa", sum := "444cc8993c96732c1395b94282910cf76c026d88792264d14f86fc667423bd3b", func := "taquin/taquinlaw12.RulesApart", spec := "rulesApart", inPlace := ["internal/bytealg.IndexByteString"], unfollowed := true, recurses := true, plainKeys := false, apart := false }
def RulesApartSaid : Prop := rulesApartRow.holds Try.pinned (OpenSpec.ofChange rulesApartSpec)

/-- ITS FALSE NEIGHBOUR: 'it returns false'. Refute it at one input. -/
def rulesApartWrong : ChangeSpec := { name := "rulesApart", fn := fun _ => fun
  | [d1, d2] => { results := [.lit (.bool false)], args := [d1, d2] }
  | _ => none }
def RulesApartWrongFalsely : Prop := rulesApartRow.holds Try.pinned (OpenSpec.ofChange rulesApartWrong)

/-- 'taquinlaw12.RulesDrop': WHATEVER THE INPUT: true; the input reads as it did. -/
def rulesDropSpec : ChangeSpec := { name := "rulesDrop", fn := fun _ => fun
  | [d1, d2, d3, d4] => { results := [.lit (.bool true)], args := [d1, d2, d3, d4] }
  | _ => none }
def rulesDropRow : OpenClaim := { program := "ytcocbifjjafknaa", sum := "444cc8993c96732c1395b94282910cf76c026d88792264d14f86fc667423bd3b", func := "taquin/taquinlaw12.RulesDrop", spec := "rulesDrop", inPlace := ["internal/bytealg.IndexByteString"], unfollowed := true, recurses := true, plainKeys := false, apart := false }
def RulesDropSaid : Prop := rulesDropRow.holds Try.pinned (OpenSpec.ofChange rulesDropSpec)

/-- ITS FALSE NEIGHBOUR: 'it returns false'. Refute it at one input. -/
def rulesDropWrong : ChangeSpec := { name := "rulesDrop", fn := fun _ => fun
  | [d1, d2, d3, d4] => { results := [.lit (.bool false)], args := [d1, d2, d3, d4] }
  | _ => none }
def RulesDropWrongFalsely : Prop := rulesDropRow.holds Try.pinned (OpenSpec.ofChange rulesDropWrong)

/-- 'taquinlaw12.RulesZones': WHATEVER THE INPUT: true; the input reads as it did. -/
def rulesZonesSpec : ChangeSpec := { name := "rulesZones", fn := fun _ => fun
  | [d1, d2] => { results := [.lit (.bool true)], args := [d1, d2] }
  | _ => none }
def rulesZonesRow : OpenClaim := { program := "ytcocbifjjafknaa", sum := "444cc8993c96732c1395b94282910cf76c026d88792264d14f86fc667423bd3b", func := "taquin/taquinlaw12.RulesZones", spec := "rulesZones", inPlace := ["internal/bytealg.IndexByteString"], unfollowed := true, recurses := true, plainKeys := false, apart := false }
def RulesZonesSaid : Prop := rulesZonesRow.holds Try.pinned (OpenSpec.ofChange rulesZonesSpec)

/-- ITS FALSE NEIGHBOUR: 'it returns false'. Refute it at one input. -/
def rulesZonesWrong : ChangeSpec := { name := "rulesZones", fn := fun _ => fun
  | [d1, d2] => { results := [.lit (.bool false)], args := [d1, d2] }
  | _ => none }
def RulesZonesWrongFalsely : Prop := rulesZonesRow.holds Try.pinned (OpenSpec.ofChange rulesZonesWrong)

/-- 'taquinlaw12.RulesRoom': WHATEVER THE INPUT: true; the input reads as it did. -/
def rulesRoomSpec : ChangeSpec := { name := "rulesRoom", fn := fun _ => fun
  | [d1, d2] => { results := [.lit (.bool true)], args := [d1, d2] }
  | _ => none }
def rulesRoomRow : OpenClaim := { program := "ytcocbifjjafknaa", sum := "444cc8993c96732c1395b94282910cf76c026d88792264d14f86fc667423bd3b", func := "taquin/taquinlaw12.RulesRoom", spec := "rulesRoom", inPlace := ["internal/bytealg.IndexByteString"], unfollowed := true, recurses := true, plainKeys := false, apart := false }
def RulesRoomSaid : Prop := rulesRoomRow.holds Try.pinned (OpenSpec.ofChange rulesRoomSpec)

/-- ITS FALSE NEIGHBOUR: 'it returns false'. Refute it at one input. -/
def rulesRoomWrong : ChangeSpec := { name := "rulesRoom", fn := fun _ => fun
  | [d1, d2] => { results := [.lit (.bool false)], args := [d1, d2] }
  | _ => none }
def RulesRoomWrongFalsely : Prop := rulesRoomRow.holds Try.pinned (OpenSpec.ofChange rulesRoomWrong)

/-- 'taquinlaw12.RulesTell': WHATEVER THE INPUT: true; the input reads as it did. -/
def rulesTellSpec : ChangeSpec := { name := "rulesTell", fn := fun _ => fun
  | [d1, d2, d3, d4, d5, d6] => { results := [.lit (.bool true)], args := [d1, d2, d3, d4, d5, d6] }
  | _ => none }
def rulesTellRow : OpenClaim := { program := "ytcocbifjjafknaa", sum := "444cc8993c96732c1395b94282910cf76c026d88792264d14f86fc667423bd3b", func := "taquin/taquinlaw12.RulesTell", spec := "rulesTell", inPlace := ["internal/bytealg.IndexByteString"], unfollowed := true, recurses := true, plainKeys := false, apart := false }
def RulesTellSaid : Prop := rulesTellRow.holds Try.pinned (OpenSpec.ofChange rulesTellSpec)

/-- ITS FALSE NEIGHBOUR: 'it returns false'. Refute it at one input. -/
def rulesTellWrong : ChangeSpec := { name := "rulesTell", fn := fun _ => fun
  | [d1, d2, d3, d4, d5, d6] => { results := [.lit (.bool false)], args := [d1, d2, d3, d4, d5, d6] }
  | _ => none }
def RulesTellWrongFalsely : Prop := rulesTellRow.holds Try.pinned (OpenSpec.ofChange rulesTellWrong)

/- THE SECOND FORM. 'bulk': how many values and letters a reading holds, each counted each time it is reached (what is shared counts as often as it is met; a slice's spare places count too). A statement '..UptoSaid' is the law's where the arguments, and the package variables that the reading takes, are together of bulk at most 1048576: NARROWER than '..Said'. Prove '..Said' where nothing that the law and all that it calls make is longer than what came in: it says more and counts as full. Else prove '..UptoSaid'. A law counts once. -/
mutual
def uptoBulk {H : Type} : DataW H → Nat
  | .lit (.string bytes) => bytes.length + 1
  | .lit _ => 1
  | .nil => 1
  | .ptr d => uptoBulk d + 1
  | .slice elems spare => uptoBulkAll elems + uptoBulkAll spare + 1
  | .agg parts => uptoBulkAll parts + 1
  | .iface _ d => uptoBulk d + 1
  | .map entries => uptoBulkEntries entries + 1
  | .held _ => 1
def uptoBulkAll {H : Type} : List (DataW H) → Nat
  | [] => 0
  | d :: r => uptoBulk d + uptoBulkAll r
def uptoBulkEntries {H : Type} : List (Lit × DataW H) → Nat
  | [] => 0
  | x :: r => uptoBulkEntry x + uptoBulkEntries r
def uptoBulkEntry {H : Type} : Lit × DataW H → Nat
  | (.string bytes, d) => bytes.length + uptoBulk d + 1
  | (_, d) => uptoBulk d + 1
 end
def uptoSmall : (H : Type) → List (DataW H) → Bool := fun _ ds => decide (uptoBulkAll ds ≤ 1048576)
def OpenSpec.upto (s : _root_.Go.ChangeSpec) : _root_.Go.OpenSpec := { _root_.Go.OpenSpec.ofChange s with cond := some uptoSmall }

/-- 'taquinlaw12.RulesApart', WHERE WHAT IT READS IS OF BULK AT MOST 1048576: true; the input reads as it did. -/
def rulesApartUptoRow : OpenClaim := { program := "ytcocbifjjafknaa", sum := "444cc8993c96732c1395b94282910cf76c026d88792264d14f86fc667423bd3b", func := "taquin/taquinlaw12.RulesApart", spec := "rulesApart", inPlace := ["internal/bytealg.IndexByteString"], unfollowed := true, recurses := true, plainKeys := false, apart := false, narrowed := true }
def RulesApartUptoSaid : Prop := rulesApartUptoRow.holds Try.pinned (OpenSpec.upto rulesApartSpec)

/-- 'taquinlaw12.RulesDrop', WHERE WHAT IT READS IS OF BULK AT MOST 1048576: true; the input reads as it did. -/
def rulesDropUptoRow : OpenClaim := { program := "ytcocbifjjafknaa", sum := "444cc8993c96732c1395b94282910cf76c026d88792264d14f86fc667423bd3b", func := "taquin/taquinlaw12.RulesDrop", spec := "rulesDrop", inPlace := ["internal/bytealg.IndexByteString"], unfollowed := true, recurses := true, plainKeys := false, apart := false, narrowed := true }
def RulesDropUptoSaid : Prop := rulesDropUptoRow.holds Try.pinned (OpenSpec.upto rulesDropSpec)

/-- 'taquinlaw12.RulesZones', WHERE WHAT IT READS IS OF BULK AT MOST 1048576: true; the input reads as it did. -/
def rulesZonesUptoRow : OpenClaim := { program := "ytcocbifjjafknaa", sum := "444cc8993c96732c1395b94282910cf76c026d88792264d14f86fc667423bd3b", func := "taquin/taquinlaw12.RulesZones", spec := "rulesZones", inPlace := ["internal/bytealg.IndexByteString"], unfollowed := true, recurses := true, plainKeys := false, apart := false, narrowed := true }
def RulesZonesUptoSaid : Prop := rulesZonesUptoRow.holds Try.pinned (OpenSpec.upto rulesZonesSpec)

/-- 'taquinlaw12.RulesRoom', WHERE WHAT IT READS IS OF BULK AT MOST 1048576: true; the input reads as it did. -/
def rulesRoomUptoRow : OpenClaim := { program := "ytcocbifjjafknaa", sum := "444cc8993c96732c1395b94282910cf76c026d88792264d14f86fc667423bd3b", func := "taquin/taquinlaw12.RulesRoom", spec := "rulesRoom", inPlace := ["internal/bytealg.IndexByteString"], unfollowed := true, recurses := true, plainKeys := false, apart := false, narrowed := true }
def RulesRoomUptoSaid : Prop := rulesRoomUptoRow.holds Try.pinned (OpenSpec.upto rulesRoomSpec)

/-- 'taquinlaw12.RulesTell', WHERE WHAT IT READS IS OF BULK AT MOST 1048576: true; the input reads as it did. -/
def rulesTellUptoRow : OpenClaim := { program := "ytcocbifjjafknaa", sum := "444cc8993c96732c1395b94282910cf76c026d88792264d14f86fc667423bd3b", func := "taquin/taquinlaw12.RulesTell", spec := "rulesTell", inPlace := ["internal/bytealg.IndexByteString"], unfollowed := true, recurses := true, plainKeys := false, apart := false, narrowed := true }
def RulesTellUptoSaid : Prop := rulesTellUptoRow.holds Try.pinned (OpenSpec.upto rulesTellSpec)

end Rows
end Go.Proofs.Ytcocbifjjafknaa
