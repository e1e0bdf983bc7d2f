/-
  No cell of these rows narrows 'for every input' (looked for: loops, veiled, ifaces, maps, wideKeys, modest, calm, conditions, laid).
  DERIVED. THE GIVEN ROWS OF THIS SEAT. 9 by the template 'for every input the law returns true; each argument reads behind the call as it read before'; 0 by the template 'total and deterministic' (their statements: YtnchefajiedjiaaTotals.lean).
  GIVEN WITH THE SEED: the statements are not yours to turn. If you find one false, say at which input.
  Laid BY PROGRAM, IN A SANDBOX (cutbox-rows.mjs): the forced cells as the released guide's own fill.sh prints them over the translation 0983adb8a872a887… (all of the seat's roots in one cut). By AI agents, Wed Nov 11 2026. No macro, syntax, notation, axiom, sorry.
-/
import Derived.Test.YtnchefajiedjiaaChecked
import GoSem.Claim
import GoSem.ClaimJoined
import GoSem.ClaimMapViews
import Derived.JoinedTies
import Derived.KernelRfl
namespace Go.Proofs.Ytnchefajiedjiaa
/- THE CELL 'sum', in the pinned program and in every row, IS THE sha256 OF THE DUMP (.gsa) THAT YtnchefajiedjiaaProg.lean LOADS. Nothing in Lean hashes anything: it is a label: what it is worth is what the hold of that sum in a sandbox is worth. -/
noncomputable def Try.pinned : Pinned := { name := "ytnchefajiedjiaa", sum := "0983adb8a872a887fc9f741a5c99168fc89c6afce623e7094f295894bf41ad2b", checked := Try.checked }
namespace Rows
def none {H : Type} : Left H := { results := [], args := [] }

/-- 'laws.FnExactRises': WHATEVER THE INPUT: true; the input reads as it did. -/
def fnExactRisesSpec : ChangeSpec := { name := "fnExactRises", fn := fun _ => fun
  | [d] => { results := [.lit (.bool true)], args := [d] }
  | _ => none }
def fnExactRisesRow : OpenClaim := { program := "ytnchefajiedjiaa", sum := "0983adb8a872a887fc9f741a5c99168fc89c6afce623e7094f295894bf41ad2b", func := "loop.example/almanack/laws.FnExactRises", spec := "fnExactRises", apart := false }
def FnExactRisesSaid : Prop := fnExactRisesRow.holds Try.pinned (OpenSpec.ofChange fnExactRisesSpec)

/-- ITS FALSE NEIGHBOUR: 'it returns false'. Refute it at one input. -/
def fnExactRisesWrong : ChangeSpec := { name := "fnExactRises", fn := fun _ => fun
  | [d] => { results := [.lit (.bool false)], args := [d] }
  | _ => none }
def FnExactRisesWrongFalsely : Prop := fnExactRisesRow.holds Try.pinned (OpenSpec.ofChange fnExactRisesWrong)

/-- 'laws.FnExactThin': WHATEVER THE INPUT: true; the input reads as it did. -/
def fnExactThinSpec : ChangeSpec := { name := "fnExactThin", fn := fun _ => fun
  | [d1, d2] => { results := [.lit (.bool true)], args := [d1, d2] }
  | _ => none }
def fnExactThinRow : OpenClaim := { program := "ytnchefajiedjiaa", sum := "0983adb8a872a887fc9f741a5c99168fc89c6afce623e7094f295894bf41ad2b", func := "loop.example/almanack/laws.FnExactThin", spec := "fnExactThin", apart := false }
def FnExactThinSaid : Prop := fnExactThinRow.holds Try.pinned (OpenSpec.ofChange fnExactThinSpec)

/-- ITS FALSE NEIGHBOUR: 'it returns false'. Refute it at one input. -/
def fnExactThinWrong : ChangeSpec := { name := "fnExactThin", fn := fun _ => fun
  | [d1, d2] => { results := [.lit (.bool false)], args := [d1, d2] }
  | _ => none }
def FnExactThinWrongFalsely : Prop := fnExactThinRow.holds Try.pinned (OpenSpec.ofChange fnExactThinWrong)

/-- 'laws.FnRises': WHATEVER THE INPUT: true; the input reads as it did. -/
def fnRisesSpec : ChangeSpec := { name := "fnRises", fn := fun _ => fun
  | [d1, d2] => { results := [.lit (.bool true)], args := [d1, d2] }
  | _ => none }
def fnRisesRow : OpenClaim := { program := "ytnchefajiedjiaa", sum := "0983adb8a872a887fc9f741a5c99168fc89c6afce623e7094f295894bf41ad2b", func := "loop.example/almanack/laws.FnRises", spec := "fnRises", apart := false }
def FnRisesSaid : Prop := fnRisesRow.holds Try.pinned (OpenSpec.ofChange fnRisesSpec)

/-- ITS FALSE NEIGHBOUR: 'it returns false'. Refute it at one input. -/
def fnRisesWrong : ChangeSpec := { name := "fnRises", fn := fun _ => fun
  | [d1, d2] => { results := [.lit (.bool false)], args := [d1, d2] }
  | _ => none }
def FnRisesWrongFalsely : Prop := fnRisesRow.holds Try.pinned (OpenSpec.ofChange fnRisesWrong)

/-- 'laws.FnExactWinsJoin': WHATEVER THE INPUT: true; the input reads as it did. -/
def fnExactWinsJoinSpec : ChangeSpec := { name := "fnExactWinsJoin", fn := fun _ => fun
  | [d] => { results := [.lit (.bool true)], args := [d] }
  | _ => none }
def fnExactWinsJoinRow : OpenClaim := { program := "ytnchefajiedjiaa", sum := "0983adb8a872a887fc9f741a5c99168fc89c6afce623e7094f295894bf41ad2b", func := "loop.example/almanack/laws.FnExactWinsJoin", spec := "fnExactWinsJoin", unfollowed := true, recurses := true, apart := false }
def FnExactWinsJoinSaid : Prop := fnExactWinsJoinRow.holds Try.pinned (OpenSpec.ofChange fnExactWinsJoinSpec)

/-- ITS FALSE NEIGHBOUR: 'it returns false'. Refute it at one input. -/
def fnExactWinsJoinWrong : ChangeSpec := { name := "fnExactWinsJoin", fn := fun _ => fun
  | [d] => { results := [.lit (.bool false)], args := [d] }
  | _ => none }
def FnExactWinsJoinWrongFalsely : Prop := fnExactWinsJoinRow.holds Try.pinned (OpenSpec.ofChange fnExactWinsJoinWrong)

/-- 'laws.FnWinsParts': WHATEVER THE INPUT: true; the input reads as it did. -/
def fnWinsPartsSpec : ChangeSpec := { name := "fnWinsParts", fn := fun _ => fun
  | [d1, d2] => { results := [.lit (.bool true)], args := [d1, d2] }
  | _ => none }
def fnWinsPartsRow : OpenClaim := { program := "ytnchefajiedjiaa", sum := "0983adb8a872a887fc9f741a5c99168fc89c6afce623e7094f295894bf41ad2b", func := "loop.example/almanack/laws.FnWinsParts", spec := "fnWinsParts", unfollowed := true, recurses := true, apart := false }
def FnWinsPartsSaid : Prop := fnWinsPartsRow.holds Try.pinned (OpenSpec.ofChange fnWinsPartsSpec)

/-- ITS FALSE NEIGHBOUR: 'it returns false'. Refute it at one input. -/
def fnWinsPartsWrong : ChangeSpec := { name := "fnWinsParts", fn := fun _ => fun
  | [d1, d2] => { results := [.lit (.bool false)], args := [d1, d2] }
  | _ => none }
def FnWinsPartsWrongFalsely : Prop := fnWinsPartsRow.holds Try.pinned (OpenSpec.ofChange fnWinsPartsWrong)

/-- 'laws.FnWins': WHATEVER THE INPUT: true; the input reads as it did. -/
def fnWinsSpec : ChangeSpec := { name := "fnWins", fn := fun _ => fun
  | [d] => { results := [.lit (.bool true)], args := [d] }
  | _ => none }
def fnWinsRow : OpenClaim := { program := "ytnchefajiedjiaa", sum := "0983adb8a872a887fc9f741a5c99168fc89c6afce623e7094f295894bf41ad2b", func := "loop.example/almanack/laws.FnWins", spec := "fnWins", unfollowed := true, recurses := true, apart := false }
def FnWinsSaid : Prop := fnWinsRow.holds Try.pinned (OpenSpec.ofChange fnWinsSpec)

/-- ITS FALSE NEIGHBOUR: 'it returns false'. Refute it at one input. -/
def fnWinsWrong : ChangeSpec := { name := "fnWins", fn := fun _ => fun
  | [d] => { results := [.lit (.bool false)], args := [d] }
  | _ => none }
def FnWinsWrongFalsely : Prop := fnWinsRow.holds Try.pinned (OpenSpec.ofChange fnWinsWrong)

/-- 'laws.FnExactWins': WHATEVER THE INPUT: true; the input reads as it did. -/
def fnExactWinsSpec : ChangeSpec := { name := "fnExactWins", fn := fun _ => fun
  | [d1, d2, d3, d4] => { results := [.lit (.bool true)], args := [d1, d2, d3, d4] }
  | _ => none }
def fnExactWinsRow : OpenClaim := { program := "ytnchefajiedjiaa", sum := "0983adb8a872a887fc9f741a5c99168fc89c6afce623e7094f295894bf41ad2b", func := "loop.example/almanack/laws.FnExactWins", spec := "fnExactWins", unfollowed := true, recurses := true, apart := false }
def FnExactWinsSaid : Prop := fnExactWinsRow.holds Try.pinned (OpenSpec.ofChange fnExactWinsSpec)

/-- ITS FALSE NEIGHBOUR: 'it returns false'. Refute it at one input. -/
def fnExactWinsWrong : ChangeSpec := { name := "fnExactWins", fn := fun _ => fun
  | [d1, d2, d3, d4] => { results := [.lit (.bool false)], args := [d1, d2, d3, d4] }
  | _ => none }
def FnExactWinsWrongFalsely : Prop := fnExactWinsRow.holds Try.pinned (OpenSpec.ofChange fnExactWinsWrong)

/-- 'laws.FnWinsJoin': WHATEVER THE INPUT: true; the input reads as it did. -/
def fnWinsJoinSpec : ChangeSpec := { name := "fnWinsJoin", fn := fun _ => fun
  | [d] => { results := [.lit (.bool true)], args := [d] }
  | _ => none }
def fnWinsJoinRow : OpenClaim := { program := "ytnchefajiedjiaa", sum := "0983adb8a872a887fc9f741a5c99168fc89c6afce623e7094f295894bf41ad2b", func := "loop.example/almanack/laws.FnWinsJoin", spec := "fnWinsJoin", unfollowed := true, recurses := true, apart := false }
def FnWinsJoinSaid : Prop := fnWinsJoinRow.holds Try.pinned (OpenSpec.ofChange fnWinsJoinSpec)

/-- ITS FALSE NEIGHBOUR: 'it returns false'. Refute it at one input. -/
def fnWinsJoinWrong : ChangeSpec := { name := "fnWinsJoin", fn := fun _ => fun
  | [d] => { results := [.lit (.bool false)], args := [d] }
  | _ => none }
def FnWinsJoinWrongFalsely : Prop := fnWinsJoinRow.holds Try.pinned (OpenSpec.ofChange fnWinsJoinWrong)

/-- 'laws.FnThin': WHATEVER THE INPUT: true; the input reads as it did. -/
def fnThinSpec : ChangeSpec := { name := "fnThin", fn := fun _ => fun
  | [d] => { results := [.lit (.bool true)], args := [d] }
  | _ => none }
def fnThinRow : OpenClaim := { program := "ytnchefajiedjiaa", sum := "0983adb8a872a887fc9f741a5c99168fc89c6afce623e7094f295894bf41ad2b", func := "loop.example/almanack/laws.FnThin", spec := "fnThin", unfollowed := true, recurses := true, apart := false }
def FnThinSaid : Prop := fnThinRow.holds Try.pinned (OpenSpec.ofChange fnThinSpec)

/-- ITS FALSE NEIGHBOUR: 'it returns false'. Refute it at one input. -/
def fnThinWrong : ChangeSpec := { name := "fnThin", fn := fun _ => fun
  | [d] => { results := [.lit (.bool false)], args := [d] }
  | _ => none }
def FnThinWrongFalsely : Prop := fnThinRow.holds Try.pinned (OpenSpec.ofChange fnThinWrong)

/- THE SECOND FORM. 'bulk': how many values and letters a reading holds, each counted each time it is reached (what is shared counts as often as it is met; a slice's spare places count too). A statement '..UptoSaid' is the law's where the arguments, and the package variables that the reading takes, are together of bulk at most 1048576: NARROWER than '..Said'. Prove '..Said' where nothing that the law and all that it calls make is longer than what came in: it says more and counts as full. Else prove '..UptoSaid'. A law counts once. -/
mutual
def uptoBulk {H : Type} : DataW H → Nat
  | .lit (.string bytes) => bytes.length + 1
  | .lit _ => 1
  | .nil => 1
  | .ptr d => uptoBulk d + 1
  | .slice elems spare => uptoBulkAll elems + uptoBulkAll spare + 1
  | .agg parts => uptoBulkAll parts + 1
  | .iface _ d => uptoBulk d + 1
  | .map entries => uptoBulkEntries entries + 1
  | .held _ => 1
def uptoBulkAll {H : Type} : List (DataW H) → Nat
  | [] => 0
  | d :: r => uptoBulk d + uptoBulkAll r
def uptoBulkEntries {H : Type} : List (Lit × DataW H) → Nat
  | [] => 0
  | x :: r => uptoBulkEntry x + uptoBulkEntries r
def uptoBulkEntry {H : Type} : Lit × DataW H → Nat
  | (.string bytes, d) => bytes.length + uptoBulk d + 1
  | (_, d) => uptoBulk d + 1
 end
def uptoSmall : (H : Type) → List (DataW H) → Bool := fun _ ds => decide (uptoBulkAll ds ≤ 1048576)
def OpenSpec.upto (s : _root_.Go.ChangeSpec) : _root_.Go.OpenSpec := { _root_.Go.OpenSpec.ofChange s with cond := some uptoSmall }

/-- 'laws.FnExactRises', WHERE WHAT IT READS IS OF BULK AT MOST 1048576: true; the input reads as it did. -/
def fnExactRisesUptoRow : OpenClaim := { program := "ytnchefajiedjiaa", sum := "0983adb8a872a887fc9f741a5c99168fc89c6afce623e7094f295894bf41ad2b", func := "loop.example/almanack/laws.FnExactRises", spec := "fnExactRises", apart := false, narrowed := true }
def FnExactRisesUptoSaid : Prop := fnExactRisesUptoRow.holds Try.pinned (OpenSpec.upto fnExactRisesSpec)

/-- 'laws.FnExactThin', WHERE WHAT IT READS IS OF BULK AT MOST 1048576: true; the input reads as it did. -/
def fnExactThinUptoRow : OpenClaim := { program := "ytnchefajiedjiaa", sum := "0983adb8a872a887fc9f741a5c99168fc89c6afce623e7094f295894bf41ad2b", func := "loop.example/almanack/laws.FnExactThin", spec := "fnExactThin", apart := false, narrowed := true }
def FnExactThinUptoSaid : Prop := fnExactThinUptoRow.holds Try.pinned (OpenSpec.upto fnExactThinSpec)

/-- 'laws.FnRises', WHERE WHAT IT READS IS OF BULK AT MOST 1048576: true; the input reads as it did. -/
def fnRisesUptoRow : OpenClaim := { program := "ytnchefajiedjiaa", sum := "0983adb8a872a887fc9f741a5c99168fc89c6afce623e7094f295894bf41ad2b", func := "loop.example/almanack/laws.FnRises", spec := "fnRises", apart := false, narrowed := true }
def FnRisesUptoSaid : Prop := fnRisesUptoRow.holds Try.pinned (OpenSpec.upto fnRisesSpec)

/-- 'laws.FnExactWinsJoin', WHERE WHAT IT READS IS OF BULK AT MOST 1048576: true; the input reads as it did. -/
def fnExactWinsJoinUptoRow : OpenClaim := { program := "ytnchefajiedjiaa", sum := "0983adb8a872a887fc9f741a5c99168fc89c6afce623e7094f295894bf41ad2b", func := "loop.example/almanack/laws.FnExactWinsJoin", spec := "fnExactWinsJoin", unfollowed := true, recurses := true, apart := false, narrowed := true }
def FnExactWinsJoinUptoSaid : Prop := fnExactWinsJoinUptoRow.holds Try.pinned (OpenSpec.upto fnExactWinsJoinSpec)

/-- 'laws.FnWinsParts', WHERE WHAT IT READS IS OF BULK AT MOST 1048576: true; the input reads as it did. -/
def fnWinsPartsUptoRow : OpenClaim := { program := "ytnchefajiedjiaa", sum := "0983adb8a872a887fc9f741a5c99168fc89c6afce623e7094f295894bf41ad2b", func := "loop.example/almanack/laws.FnWinsParts", spec := "fnWinsParts", unfollowed := true, recurses := true, apart := false, narrowed := true }
def FnWinsPartsUptoSaid : Prop := fnWinsPartsUptoRow.holds Try.pinned (OpenSpec.upto fnWinsPartsSpec)

/-- 'laws.FnWins', WHERE WHAT IT READS IS OF BULK AT MOST 1048576: true; the input reads as it did. -/
def fnWinsUptoRow : OpenClaim := { program := "ytnchefajiedjiaa", sum := "0983adb8a872a887fc9f741a5c99168fc89c6afce623e7094f295894bf41ad2b", func := "loop.example/almanack/laws.FnWins", spec := "fnWins", unfollowed := true, recurses := true, apart := false, narrowed := true }
def FnWinsUptoSaid : Prop := fnWinsUptoRow.holds Try.pinned (OpenSpec.upto fnWinsSpec)

/-- 'laws.FnExactWins', WHERE WHAT IT READS IS OF BULK AT MOST 1048576: true; the input reads as it did. -/
def fnExactWinsUptoRow : OpenClaim := { program := "ytnchefajiedjiaa", sum := "0983adb8a872a887fc9f741a5c99168fc89c6afce623e7094f295894bf41ad2b", func := "loop.example/almanack/laws.FnExactWins", spec := "fnExactWins", unfollowed := true, recurses := true, apart := false, narrowed := true }
def FnExactWinsUptoSaid : Prop := fnExactWinsUptoRow.holds Try.pinned (OpenSpec.upto fnExactWinsSpec)

/-- 'laws.FnWinsJoin', WHERE WHAT IT READS IS OF BULK AT MOST 1048576: true; the input reads as it did. -/
def fnWinsJoinUptoRow : OpenClaim := { program := "ytnchefajiedjiaa", sum := "0983adb8a872a887fc9f741a5c99168fc89c6afce623e7094f295894bf41ad2b", func := "loop.example/almanack/laws.FnWinsJoin", spec := "fnWinsJoin", unfollowed := true, recurses := true, apart := false, narrowed := true }
def FnWinsJoinUptoSaid : Prop := fnWinsJoinUptoRow.holds Try.pinned (OpenSpec.upto fnWinsJoinSpec)

/-- 'laws.FnThin', WHERE WHAT IT READS IS OF BULK AT MOST 1048576: true; the input reads as it did. -/
def fnThinUptoRow : OpenClaim := { program := "ytnchefajiedjiaa", sum := "0983adb8a872a887fc9f741a5c99168fc89c6afce623e7094f295894bf41ad2b", func := "loop.example/almanack/laws.FnThin", spec := "fnThin", unfollowed := true, recurses := true, apart := false, narrowed := true }
def FnThinUptoSaid : Prop := fnThinUptoRow.holds Try.pinned (OpenSpec.upto fnThinSpec)

end Rows
end Go.Proofs.Ytnchefajiedjiaa
