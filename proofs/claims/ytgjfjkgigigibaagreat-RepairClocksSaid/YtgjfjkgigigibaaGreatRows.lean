/-
  No cell of these rows narrows 'for every input' (looked for: loops, veiled, ifaces, maps, wideKeys, modest, calm, conditions, laid).
  DERIVED. THE GIVEN ROWS OF THIS SEAT. 6 by the template 'for every input the law returns true; each argument reads behind the call as it read before'; 0 by the template 'total and deterministic' (their statements: YtgjfjkgigigibaaGreatTotals.lean).
  GIVEN WITH THE SEED: the statements are not yours to turn. If you find one false, say at which input.
  Laid BY PROGRAM, IN A SANDBOX (cutbox-rows.mjs): the forced cells as the released guide's own fill.sh prints them over the translation 3e881cf11ddc59e1… (all of the seat's roots in one cut). By AI agents, Wed Nov 11 2026. No macro, syntax, notation, axiom, sorry.
-/
import Derived.Test.YtgjfjkgigigibaaGreatChecked
import GoSem.Claim
import GoSem.ClaimJoined
import GoSem.ClaimMapViews
import Derived.JoinedTies
import Derived.KernelRfl
namespace Go.Proofs.YtgjfjkgigigibaaGreat
/- THE CELL 'sum', in the pinned program and in every row, IS THE sha256 OF THE DUMP (.gsa) THAT YtgjfjkgigigibaaGreatProg.lean LOADS. Nothing in Lean hashes anything: it is a label: what it is worth is what the hold of that sum in a sandbox is worth. -/
noncomputable def Tryz.pinned : Pinned := { name := "ytgjfjkgigigibaagreat", sum := "3e881cf11ddc59e13f5420ccc5b374404fc12ee9e1ad82d8637aa7febbe4ea2d", checked := Tryz.checked }
namespace Rows
def none {H : Type} : Left H := { results := [], args := [] }

/-- 'transitlaw49.RepairRetimes': WHATEVER THE INPUT: true; the input reads as it did. -/
def repairRetimesSpec : ChangeSpec := { name := "repairRetimes", fn := fun _ => fun
  | [d1, d2] => { results := [.lit (.bool true)], args := [d1, d2] }
  | _ => none }
def repairRetimesRow : OpenClaim := { program := "ytgjfjkgigigibaagreat", sum := "3e881cf11ddc59e13f5420ccc5b374404fc12ee9e1ad82d8637aa7febbe4ea2d", func := "transit/transitlaw49.RepairRetimes", spec := "repairRetimes", unfollowed := true, recurses := true, plainKeys := false, apart := false }
def RepairRetimesSaid : Prop := repairRetimesRow.holds Tryz.pinned (OpenSpec.ofChange repairRetimesSpec)

/-- ITS FALSE NEIGHBOUR: 'it returns false'. Refute it at one input. -/
def repairRetimesWrong : ChangeSpec := { name := "repairRetimes", fn := fun _ => fun
  | [d1, d2] => { results := [.lit (.bool false)], args := [d1, d2] }
  | _ => none }
def RepairRetimesWrongFalsely : Prop := repairRetimesRow.holds Tryz.pinned (OpenSpec.ofChange repairRetimesWrong)

/-- 'transitlaw49.RepairBroken': WHATEVER THE INPUT: true; the input reads as it did. -/
def repairBrokenSpec : ChangeSpec := { name := "repairBroken", fn := fun _ => fun
  | [d1, d2, d3] => { results := [.lit (.bool true)], args := [d1, d2, d3] }
  | _ => none }
def repairBrokenRow : OpenClaim := { program := "ytgjfjkgigigibaagreat", sum := "3e881cf11ddc59e13f5420ccc5b374404fc12ee9e1ad82d8637aa7febbe4ea2d", func := "transit/transitlaw49.RepairBroken", spec := "repairBroken", unfollowed := true, recurses := true, plainKeys := false, apart := false }
def RepairBrokenSaid : Prop := repairBrokenRow.holds Tryz.pinned (OpenSpec.ofChange repairBrokenSpec)

/-- ITS FALSE NEIGHBOUR: 'it returns false'. Refute it at one input. -/
def repairBrokenWrong : ChangeSpec := { name := "repairBroken", fn := fun _ => fun
  | [d1, d2, d3] => { results := [.lit (.bool false)], args := [d1, d2, d3] }
  | _ => none }
def RepairBrokenWrongFalsely : Prop := repairBrokenRow.holds Tryz.pinned (OpenSpec.ofChange repairBrokenWrong)

/-- 'transitlaw49.RepairFrozen': WHATEVER THE INPUT: true; the input reads as it did. -/
def repairFrozenSpec : ChangeSpec := { name := "repairFrozen", fn := fun _ => fun
  | [d1, d2, d3] => { results := [.lit (.bool true)], args := [d1, d2, d3] }
  | _ => none }
def repairFrozenRow : OpenClaim := { program := "ytgjfjkgigigibaagreat", sum := "3e881cf11ddc59e13f5420ccc5b374404fc12ee9e1ad82d8637aa7febbe4ea2d", func := "transit/transitlaw49.RepairFrozen", spec := "repairFrozen", unfollowed := true, recurses := true, plainKeys := false, apart := false }
def RepairFrozenSaid : Prop := repairFrozenRow.holds Tryz.pinned (OpenSpec.ofChange repairFrozenSpec)

/-- ITS FALSE NEIGHBOUR: 'it returns false'. Refute it at one input. -/
def repairFrozenWrong : ChangeSpec := { name := "repairFrozen", fn := fun _ => fun
  | [d1, d2, d3] => { results := [.lit (.bool false)], args := [d1, d2, d3] }
  | _ => none }
def RepairFrozenWrongFalsely : Prop := repairFrozenRow.holds Tryz.pinned (OpenSpec.ofChange repairFrozenWrong)

/-- 'transitlaw49.RepairRefuses': WHATEVER THE INPUT: true; the input reads as it did. -/
def repairRefusesSpec : ChangeSpec := { name := "repairRefuses", fn := fun _ => fun
  | [d1, d2] => { results := [.lit (.bool true)], args := [d1, d2] }
  | _ => none }
def repairRefusesRow : OpenClaim := { program := "ytgjfjkgigigibaagreat", sum := "3e881cf11ddc59e13f5420ccc5b374404fc12ee9e1ad82d8637aa7febbe4ea2d", func := "transit/transitlaw49.RepairRefuses", spec := "repairRefuses", unfollowed := true, recurses := true, plainKeys := false, apart := false }
def RepairRefusesSaid : Prop := repairRefusesRow.holds Tryz.pinned (OpenSpec.ofChange repairRefusesSpec)

/-- ITS FALSE NEIGHBOUR: 'it returns false'. Refute it at one input. -/
def repairRefusesWrong : ChangeSpec := { name := "repairRefuses", fn := fun _ => fun
  | [d1, d2] => { results := [.lit (.bool false)], args := [d1, d2] }
  | _ => none }
def RepairRefusesWrongFalsely : Prop := repairRefusesRow.holds Tryz.pinned (OpenSpec.ofChange repairRefusesWrong)

/-- 'transitlaw49.RepairSettles': WHATEVER THE INPUT: true; the input reads as it did. -/
def repairSettlesSpec : ChangeSpec := { name := "repairSettles", fn := fun _ => fun
  | [d1, d2, d3] => { results := [.lit (.bool true)], args := [d1, d2, d3] }
  | _ => none }
def repairSettlesRow : OpenClaim := { program := "ytgjfjkgigigibaagreat", sum := "3e881cf11ddc59e13f5420ccc5b374404fc12ee9e1ad82d8637aa7febbe4ea2d", func := "transit/transitlaw49.RepairSettles", spec := "repairSettles", unfollowed := true, recurses := true, plainKeys := false, apart := false }
def RepairSettlesSaid : Prop := repairSettlesRow.holds Tryz.pinned (OpenSpec.ofChange repairSettlesSpec)

/-- ITS FALSE NEIGHBOUR: 'it returns false'. Refute it at one input. -/
def repairSettlesWrong : ChangeSpec := { name := "repairSettles", fn := fun _ => fun
  | [d1, d2, d3] => { results := [.lit (.bool false)], args := [d1, d2, d3] }
  | _ => none }
def RepairSettlesWrongFalsely : Prop := repairSettlesRow.holds Tryz.pinned (OpenSpec.ofChange repairSettlesWrong)

/-- 'transitlaw49.RepairClocks': WHATEVER THE INPUT: true; the input reads as it did. -/
def repairClocksSpec : ChangeSpec := { name := "repairClocks", fn := fun _ => fun
  | [d1, d2, d3] => { results := [.lit (.bool true)], args := [d1, d2, d3] }
  | _ => none }
def repairClocksRow : OpenClaim := { program := "ytgjfjkgigigibaagreat", sum := "3e881cf11ddc59e13f5420ccc5b374404fc12ee9e1ad82d8637aa7febbe4ea2d", func := "transit/transitlaw49.RepairClocks", spec := "repairClocks", unfollowed := true, recurses := true, plainKeys := false, apart := false }
def RepairClocksSaid : Prop := repairClocksRow.holds Tryz.pinned (OpenSpec.ofChange repairClocksSpec)

/-- ITS FALSE NEIGHBOUR: 'it returns false'. Refute it at one input. -/
def repairClocksWrong : ChangeSpec := { name := "repairClocks", fn := fun _ => fun
  | [d1, d2, d3] => { results := [.lit (.bool false)], args := [d1, d2, d3] }
  | _ => none }
def RepairClocksWrongFalsely : Prop := repairClocksRow.holds Tryz.pinned (OpenSpec.ofChange repairClocksWrong)

/- THE SECOND FORM. 'bulk': how many values and letters a reading holds, each counted each time it is reached (what is shared counts as often as it is met; a slice's spare places count too). A statement '..UptoSaid' is the law's where the arguments, and the package variables that the reading takes, are together of bulk at most 1048576: NARROWER than '..Said'. Prove '..Said' where nothing that the law and all that it calls make is longer than what came in: it says more and counts as full. Else prove '..UptoSaid'. A law counts once. -/
mutual
def uptoBulk {H : Type} : DataW H → Nat
  | .lit (.string bytes) => bytes.length + 1
  | .lit _ => 1
  | .nil => 1
  | .ptr d => uptoBulk d + 1
  | .slice elems spare => uptoBulkAll elems + uptoBulkAll spare + 1
  | .agg parts => uptoBulkAll parts + 1
  | .iface _ d => uptoBulk d + 1
  | .map entries => uptoBulkEntries entries + 1
  | .held _ => 1
def uptoBulkAll {H : Type} : List (DataW H) → Nat
  | [] => 0
  | d :: r => uptoBulk d + uptoBulkAll r
def uptoBulkEntries {H : Type} : List (Lit × DataW H) → Nat
  | [] => 0
  | x :: r => uptoBulkEntry x + uptoBulkEntries r
def uptoBulkEntry {H : Type} : Lit × DataW H → Nat
  | (.string bytes, d) => bytes.length + uptoBulk d + 1
  | (_, d) => uptoBulk d + 1
 end
def uptoSmall : (H : Type) → List (DataW H) → Bool := fun _ ds => decide (uptoBulkAll ds ≤ 1048576)
def OpenSpec.upto (s : _root_.Go.ChangeSpec) : _root_.Go.OpenSpec := { _root_.Go.OpenSpec.ofChange s with cond := some uptoSmall }

/-- 'transitlaw49.RepairRetimes', WHERE WHAT IT READS IS OF BULK AT MOST 1048576: true; the input reads as it did. -/
def repairRetimesUptoRow : OpenClaim := { program := "ytgjfjkgigigibaagreat", sum := "3e881cf11ddc59e13f5420ccc5b374404fc12ee9e1ad82d8637aa7febbe4ea2d", func := "transit/transitlaw49.RepairRetimes", spec := "repairRetimes", unfollowed := true, recurses := true, plainKeys := false, apart := false, narrowed := true }
def RepairRetimesUptoSaid : Prop := repairRetimesUptoRow.holds Tryz.pinned (OpenSpec.upto repairRetimesSpec)

/-- 'transitlaw49.RepairBroken', WHERE WHAT IT READS IS OF BULK AT MOST 1048576: true; the input reads as it did. -/
def repairBrokenUptoRow : OpenClaim := { program := "ytgjfjkgigigibaagreat", sum := "3e881cf11ddc59e13f5420ccc5b374404fc12ee9e1ad82d8637aa7febbe4ea2d", func := "transit/transitlaw49.RepairBroken", spec := "repairBroken", unfollowed := true, recurses := true, plainKeys := false, apart := false, narrowed := true }
def RepairBrokenUptoSaid : Prop := repairBrokenUptoRow.holds Tryz.pinned (OpenSpec.upto repairBrokenSpec)

/-- 'transitlaw49.RepairFrozen', WHERE WHAT IT READS IS OF BULK AT MOST 1048576: true; the input reads as it did. -/
def repairFrozenUptoRow : OpenClaim := { program := "ytgjfjkgigigibaagreat", sum := "3e881cf11ddc59e13f5420ccc5b374404fc12ee9e1ad82d8637aa7febbe4ea2d", func := "transit/transitlaw49.RepairFrozen", spec := "repairFrozen", unfollowed := true, recurses := true, plainKeys := false, apart := false, narrowed := true }
def RepairFrozenUptoSaid : Prop := repairFrozenUptoRow.holds Tryz.pinned (OpenSpec.upto repairFrozenSpec)

/-- 'transitlaw49.RepairRefuses', WHERE WHAT IT READS IS OF BULK AT MOST 1048576: true; the input reads as it did. -/
def repairRefusesUptoRow : OpenClaim := { program := "ytgjfjkgigigibaagreat", sum := "3e881cf11ddc59e13f5420ccc5b374404fc12ee9e1ad82d8637aa7febbe4ea2d", func := "transit/transitlaw49.RepairRefuses", spec := "repairRefuses", unfollowed := true, recurses := true, plainKeys := false, apart := false, narrowed := true }
def RepairRefusesUptoSaid : Prop := repairRefusesUptoRow.holds Tryz.pinned (OpenSpec.upto repairRefusesSpec)

/-- 'transitlaw49.RepairSettles', WHERE WHAT IT READS IS OF BULK AT MOST 1048576: true; the input reads as it did. -/
def repairSettlesUptoRow : OpenClaim := { program := "ytgjfjkgigigibaagreat", sum := "3e881cf11ddc59e13f5420ccc5b374404fc12ee9e1ad82d8637aa7febbe4ea2d", func := "transit/transitlaw49.RepairSettles", spec := "repairSettles", unfollowed := true, recurses := true, plainKeys := false, apart := false, narrowed := true }
def RepairSettlesUptoSaid : Prop := repairSettlesUptoRow.holds Tryz.pinned (OpenSpec.upto repairSettlesSpec)

/-- 'transitlaw49.RepairClocks', WHERE WHAT IT READS IS OF BULK AT MOST 1048576: true; the input reads as it did. -/
def repairClocksUptoRow : OpenClaim := { program := "ytgjfjkgigigibaagreat", sum := "3e881cf11ddc59e13f5420ccc5b374404fc12ee9e1ad82d8637aa7febbe4ea2d", func := "transit/transitlaw49.RepairClocks", spec := "repairClocks", unfollowed := true, recurses := true, plainKeys := false, apart := false, narrowed := true }
def RepairClocksUptoSaid : Prop := repairClocksUptoRow.holds Tryz.pinned (OpenSpec.upto repairClocksSpec)

end Rows
end Go.Proofs.YtgjfjkgigigibaaGreat
