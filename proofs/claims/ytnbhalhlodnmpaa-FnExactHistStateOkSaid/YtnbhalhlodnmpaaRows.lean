/-
  No cell of these rows narrows 'for every input' (looked for: loops, veiled, ifaces, maps, wideKeys, modest, calm, conditions, laid).
  DERIVED. THE GIVEN ROWS OF THIS SEAT. 12 by the template 'for every input the law returns true; each argument reads behind the call as it read before'; 0 by the template 'total and deterministic' (their statements: YtnbhalhlodnmpaaTotals.lean).
  GIVEN WITH THE SEED: the statements are not yours to turn. If you find one false, say at which input.
  Laid BY PROGRAM, IN A SANDBOX (cutbox-rows.mjs): the forced cells as the released guide's own fill.sh prints them over the translation 0c72eff26d72e440… (all of the seat's roots in one cut). By AI agents, Wed Nov 11 2026. No macro, syntax, notation, axiom, sorry.
-/
import Derived.Test.YtnbhalhlodnmpaaChecked
import GoSem.Claim
import GoSem.ClaimJoined
import GoSem.ClaimMapViews
import Derived.JoinedTies
import Derived.KernelRfl
namespace Go.Proofs.Ytnbhalhlodnmpaa
/- THE CELL 'sum', in the pinned program and in every row, IS THE sha256 OF THE DUMP (.gsa) THAT YtnbhalhlodnmpaaProg.lean LOADS. Nothing in Lean hashes anything: it is a label: what it is worth is what the hold of that sum in a sandbox is worth. -/
noncomputable def Try.pinned : Pinned := { name := "ytnbhalhlodnmpaa", sum := "0c72eff26d72e4403effc2b11d7245103311ee65f233a6671096d1c991742f12", checked := Try.checked }
namespace Rows
def none {H : Type} : Left H := { results := [], args := [] }

/-- 'laws.FnExactMapRange': WHATEVER THE INPUT: true; the input reads as it did. -/
def fnExactMapRangeSpec : ChangeSpec := { name := "fnExactMapRange", fn := fun _ => fun
  | [d1, d2] => { results := [.lit (.bool true)], args := [d1, d2] }
  | _ => none }
def fnExactMapRangeRow : OpenClaim := { program := "ytnbhalhlodnmpaa", sum := "0c72eff26d72e4403effc2b11d7245103311ee65f233a6671096d1c991742f12", func := "loop.example/pannier/laws.FnExactMapRange", spec := "fnExactMapRange", apart := false }
def FnExactMapRangeSaid : Prop := fnExactMapRangeRow.holds Try.pinned (OpenSpec.ofChange fnExactMapRangeSpec)

/-- ITS FALSE NEIGHBOUR: 'it returns false'. Refute it at one input. -/
def fnExactMapRangeWrong : ChangeSpec := { name := "fnExactMapRange", fn := fun _ => fun
  | [d1, d2] => { results := [.lit (.bool false)], args := [d1, d2] }
  | _ => none }
def FnExactMapRangeWrongFalsely : Prop := fnExactMapRangeRow.holds Try.pinned (OpenSpec.ofChange fnExactMapRangeWrong)

/-- 'laws.FnMapRange': WHATEVER THE INPUT: true; the input reads as it did. -/
def fnMapRangeSpec : ChangeSpec := { name := "fnMapRange", fn := fun _ => fun
  | [d] => { results := [.lit (.bool true)], args := [d] }
  | _ => none }
def fnMapRangeRow : OpenClaim := { program := "ytnbhalhlodnmpaa", sum := "0c72eff26d72e4403effc2b11d7245103311ee65f233a6671096d1c991742f12", func := "loop.example/pannier/laws.FnMapRange", spec := "fnMapRange", apart := false }
def FnMapRangeSaid : Prop := fnMapRangeRow.holds Try.pinned (OpenSpec.ofChange fnMapRangeSpec)

/-- ITS FALSE NEIGHBOUR: 'it returns false'. Refute it at one input. -/
def fnMapRangeWrong : ChangeSpec := { name := "fnMapRange", fn := fun _ => fun
  | [d] => { results := [.lit (.bool false)], args := [d] }
  | _ => none }
def FnMapRangeWrongFalsely : Prop := fnMapRangeRow.holds Try.pinned (OpenSpec.ofChange fnMapRangeWrong)

/-- 'laws.FnExactBoxHomes': WHATEVER THE INPUT: true; the input reads as it did. -/
def fnExactBoxHomesSpec : ChangeSpec := { name := "fnExactBoxHomes", fn := fun _ => fun
  | [d] => { results := [.lit (.bool true)], args := [d] }
  | _ => none }
def fnExactBoxHomesRow : OpenClaim := { program := "ytnbhalhlodnmpaa", sum := "0c72eff26d72e4403effc2b11d7245103311ee65f233a6671096d1c991742f12", func := "loop.example/pannier/laws.FnExactBoxHomes", spec := "fnExactBoxHomes", apart := false }
def FnExactBoxHomesSaid : Prop := fnExactBoxHomesRow.holds Try.pinned (OpenSpec.ofChange fnExactBoxHomesSpec)

/-- ITS FALSE NEIGHBOUR: 'it returns false'. Refute it at one input. -/
def fnExactBoxHomesWrong : ChangeSpec := { name := "fnExactBoxHomes", fn := fun _ => fun
  | [d] => { results := [.lit (.bool false)], args := [d] }
  | _ => none }
def FnExactBoxHomesWrongFalsely : Prop := fnExactBoxHomesRow.holds Try.pinned (OpenSpec.ofChange fnExactBoxHomesWrong)

/-- 'laws.FnExactHistStart': WHATEVER THE INPUT: true; the input reads as it did. -/
def fnExactHistStartSpec : ChangeSpec := { name := "fnExactHistStart", fn := fun _ => fun
  | [] => { results := [.lit (.bool true)], args := [] }
  | _ => none }
def fnExactHistStartRow : OpenClaim := { program := "ytnbhalhlodnmpaa", sum := "0c72eff26d72e4403effc2b11d7245103311ee65f233a6671096d1c991742f12", func := "loop.example/pannier/laws.FnExactHistStart", spec := "fnExactHistStart", apart := false }
def FnExactHistStartSaid : Prop := fnExactHistStartRow.holds Try.pinned (OpenSpec.ofChange fnExactHistStartSpec)

/-- ITS FALSE NEIGHBOUR: 'it returns false'. Refute it at one input. -/
def fnExactHistStartWrong : ChangeSpec := { name := "fnExactHistStart", fn := fun _ => fun
  | [] => { results := [.lit (.bool false)], args := [] }
  | _ => none }
def FnExactHistStartWrongFalsely : Prop := fnExactHistStartRow.holds Try.pinned (OpenSpec.ofChange fnExactHistStartWrong)

/-- 'laws.FnExactMapStart': WHATEVER THE INPUT: true; the input reads as it did. -/
def fnExactMapStartSpec : ChangeSpec := { name := "fnExactMapStart", fn := fun _ => fun
  | [] => { results := [.lit (.bool true)], args := [] }
  | _ => none }
def fnExactMapStartRow : OpenClaim := { program := "ytnbhalhlodnmpaa", sum := "0c72eff26d72e4403effc2b11d7245103311ee65f233a6671096d1c991742f12", func := "loop.example/pannier/laws.FnExactMapStart", spec := "fnExactMapStart", apart := false }
def FnExactMapStartSaid : Prop := fnExactMapStartRow.holds Try.pinned (OpenSpec.ofChange fnExactMapStartSpec)

/-- ITS FALSE NEIGHBOUR: 'it returns false'. Refute it at one input. -/
def fnExactMapStartWrong : ChangeSpec := { name := "fnExactMapStart", fn := fun _ => fun
  | [] => { results := [.lit (.bool false)], args := [] }
  | _ => none }
def FnExactMapStartWrongFalsely : Prop := fnExactMapStartRow.holds Try.pinned (OpenSpec.ofChange fnExactMapStartWrong)

/-- 'laws.FnExactHistStateOk': WHATEVER THE INPUT: true; the input reads as it did. -/
def fnExactHistStateOkSpec : ChangeSpec := { name := "fnExactHistStateOk", fn := fun _ => fun
  | [d] => { results := [.lit (.bool true)], args := [d] }
  | _ => none }
def fnExactHistStateOkRow : OpenClaim := { program := "ytnbhalhlodnmpaa", sum := "0c72eff26d72e4403effc2b11d7245103311ee65f233a6671096d1c991742f12", func := "loop.example/pannier/laws.FnExactHistStateOk", spec := "fnExactHistStateOk", apart := false }
def FnExactHistStateOkSaid : Prop := fnExactHistStateOkRow.holds Try.pinned (OpenSpec.ofChange fnExactHistStateOkSpec)

/-- ITS FALSE NEIGHBOUR: 'it returns false'. Refute it at one input. -/
def fnExactHistStateOkWrong : ChangeSpec := { name := "fnExactHistStateOk", fn := fun _ => fun
  | [d] => { results := [.lit (.bool false)], args := [d] }
  | _ => none }
def FnExactHistStateOkWrongFalsely : Prop := fnExactHistStateOkRow.holds Try.pinned (OpenSpec.ofChange fnExactHistStateOkWrong)

/-- 'laws.FnExactMapOk': WHATEVER THE INPUT: true; the input reads as it did. -/
def fnExactMapOkSpec : ChangeSpec := { name := "fnExactMapOk", fn := fun _ => fun
  | [d] => { results := [.lit (.bool true)], args := [d] }
  | _ => none }
def fnExactMapOkRow : OpenClaim := { program := "ytnbhalhlodnmpaa", sum := "0c72eff26d72e4403effc2b11d7245103311ee65f233a6671096d1c991742f12", func := "loop.example/pannier/laws.FnExactMapOk", spec := "fnExactMapOk", apart := false }
def FnExactMapOkSaid : Prop := fnExactMapOkRow.holds Try.pinned (OpenSpec.ofChange fnExactMapOkSpec)

/-- ITS FALSE NEIGHBOUR: 'it returns false'. Refute it at one input. -/
def fnExactMapOkWrong : ChangeSpec := { name := "fnExactMapOk", fn := fun _ => fun
  | [d] => { results := [.lit (.bool false)], args := [d] }
  | _ => none }
def FnExactMapOkWrongFalsely : Prop := fnExactMapOkRow.holds Try.pinned (OpenSpec.ofChange fnExactMapOkWrong)

/-- 'laws.FnExactMapTarget': WHATEVER THE INPUT: true; the input reads as it did. -/
def fnExactMapTargetSpec : ChangeSpec := { name := "fnExactMapTarget", fn := fun _ => fun
  | [d1, d2] => { results := [.lit (.bool true)], args := [d1, d2] }
  | _ => none }
def fnExactMapTargetRow : OpenClaim := { program := "ytnbhalhlodnmpaa", sum := "0c72eff26d72e4403effc2b11d7245103311ee65f233a6671096d1c991742f12", func := "loop.example/pannier/laws.FnExactMapTarget", spec := "fnExactMapTarget", apart := false }
def FnExactMapTargetSaid : Prop := fnExactMapTargetRow.holds Try.pinned (OpenSpec.ofChange fnExactMapTargetSpec)

/-- ITS FALSE NEIGHBOUR: 'it returns false'. Refute it at one input. -/
def fnExactMapTargetWrong : ChangeSpec := { name := "fnExactMapTarget", fn := fun _ => fun
  | [d1, d2] => { results := [.lit (.bool false)], args := [d1, d2] }
  | _ => none }
def FnExactMapTargetWrongFalsely : Prop := fnExactMapTargetRow.holds Try.pinned (OpenSpec.ofChange fnExactMapTargetWrong)

/-- 'laws.FnExactMapSettled': WHATEVER THE INPUT: true; the input reads as it did. -/
def fnExactMapSettledSpec : ChangeSpec := { name := "fnExactMapSettled", fn := fun _ => fun
  | [d] => { results := [.lit (.bool true)], args := [d] }
  | _ => none }
def fnExactMapSettledRow : OpenClaim := { program := "ytnbhalhlodnmpaa", sum := "0c72eff26d72e4403effc2b11d7245103311ee65f233a6671096d1c991742f12", func := "loop.example/pannier/laws.FnExactMapSettled", spec := "fnExactMapSettled", apart := false }
def FnExactMapSettledSaid : Prop := fnExactMapSettledRow.holds Try.pinned (OpenSpec.ofChange fnExactMapSettledSpec)

/-- ITS FALSE NEIGHBOUR: 'it returns false'. Refute it at one input. -/
def fnExactMapSettledWrong : ChangeSpec := { name := "fnExactMapSettled", fn := fun _ => fun
  | [d] => { results := [.lit (.bool false)], args := [d] }
  | _ => none }
def FnExactMapSettledWrongFalsely : Prop := fnExactMapSettledRow.holds Try.pinned (OpenSpec.ofChange fnExactMapSettledWrong)

/-- 'laws.FnExactMapJudge': WHATEVER THE INPUT: true; the input reads as it did. -/
def fnExactMapJudgeSpec : ChangeSpec := { name := "fnExactMapJudge", fn := fun _ => fun
  | [d1, d2, d3, d4, d5] => { results := [.lit (.bool true)], args := [d1, d2, d3, d4, d5] }
  | _ => none }
def fnExactMapJudgeRow : OpenClaim := { program := "ytnbhalhlodnmpaa", sum := "0c72eff26d72e4403effc2b11d7245103311ee65f233a6671096d1c991742f12", func := "loop.example/pannier/laws.FnExactMapJudge", spec := "fnExactMapJudge", apart := false }
def FnExactMapJudgeSaid : Prop := fnExactMapJudgeRow.holds Try.pinned (OpenSpec.ofChange fnExactMapJudgeSpec)

/-- ITS FALSE NEIGHBOUR: 'it returns false'. Refute it at one input. -/
def fnExactMapJudgeWrong : ChangeSpec := { name := "fnExactMapJudge", fn := fun _ => fun
  | [d1, d2, d3, d4, d5] => { results := [.lit (.bool false)], args := [d1, d2, d3, d4, d5] }
  | _ => none }
def FnExactMapJudgeWrongFalsely : Prop := fnExactMapJudgeRow.holds Try.pinned (OpenSpec.ofChange fnExactMapJudgeWrong)

/-- 'laws.FnMapTarget': WHATEVER THE INPUT: true; the input reads as it did. -/
def fnMapTargetSpec : ChangeSpec := { name := "fnMapTarget", fn := fun _ => fun
  | [d] => { results := [.lit (.bool true)], args := [d] }
  | _ => none }
def fnMapTargetRow : OpenClaim := { program := "ytnbhalhlodnmpaa", sum := "0c72eff26d72e4403effc2b11d7245103311ee65f233a6671096d1c991742f12", func := "loop.example/pannier/laws.FnMapTarget", spec := "fnMapTarget", apart := false }
def FnMapTargetSaid : Prop := fnMapTargetRow.holds Try.pinned (OpenSpec.ofChange fnMapTargetSpec)

/-- ITS FALSE NEIGHBOUR: 'it returns false'. Refute it at one input. -/
def fnMapTargetWrong : ChangeSpec := { name := "fnMapTarget", fn := fun _ => fun
  | [d] => { results := [.lit (.bool false)], args := [d] }
  | _ => none }
def FnMapTargetWrongFalsely : Prop := fnMapTargetRow.holds Try.pinned (OpenSpec.ofChange fnMapTargetWrong)

/-- 'laws.FnMapJudge': WHATEVER THE INPUT: true; the input reads as it did. -/
def fnMapJudgeSpec : ChangeSpec := { name := "fnMapJudge", fn := fun _ => fun
  | [d] => { results := [.lit (.bool true)], args := [d] }
  | _ => none }
def fnMapJudgeRow : OpenClaim := { program := "ytnbhalhlodnmpaa", sum := "0c72eff26d72e4403effc2b11d7245103311ee65f233a6671096d1c991742f12", func := "loop.example/pannier/laws.FnMapJudge", spec := "fnMapJudge", apart := false }
def FnMapJudgeSaid : Prop := fnMapJudgeRow.holds Try.pinned (OpenSpec.ofChange fnMapJudgeSpec)

/-- ITS FALSE NEIGHBOUR: 'it returns false'. Refute it at one input. -/
def fnMapJudgeWrong : ChangeSpec := { name := "fnMapJudge", fn := fun _ => fun
  | [d] => { results := [.lit (.bool false)], args := [d] }
  | _ => none }
def FnMapJudgeWrongFalsely : Prop := fnMapJudgeRow.holds Try.pinned (OpenSpec.ofChange fnMapJudgeWrong)

/- THE SECOND FORM. 'bulk': how many values and letters a reading holds, each counted each time it is reached (what is shared counts as often as it is met; a slice's spare places count too). A statement '..UptoSaid' is the law's where the arguments, and the package variables that the reading takes, are together of bulk at most 1048576: NARROWER than '..Said'. Prove '..Said' where nothing that the law and all that it calls make is longer than what came in: it says more and counts as full. Else prove '..UptoSaid'. A law counts once. -/
mutual
def uptoBulk {H : Type} : DataW H → Nat
  | .lit (.string bytes) => bytes.length + 1
  | .lit _ => 1
  | .nil => 1
  | .ptr d => uptoBulk d + 1
  | .slice elems spare => uptoBulkAll elems + uptoBulkAll spare + 1
  | .agg parts => uptoBulkAll parts + 1
  | .iface _ d => uptoBulk d + 1
  | .map entries => uptoBulkEntries entries + 1
  | .held _ => 1
def uptoBulkAll {H : Type} : List (DataW H) → Nat
  | [] => 0
  | d :: r => uptoBulk d + uptoBulkAll r
def uptoBulkEntries {H : Type} : List (Lit × DataW H) → Nat
  | [] => 0
  | x :: r => uptoBulkEntry x + uptoBulkEntries r
def uptoBulkEntry {H : Type} : Lit × DataW H → Nat
  | (.string bytes, d) => bytes.length + uptoBulk d + 1
  | (_, d) => uptoBulk d + 1
 end
def uptoSmall : (H : Type) → List (DataW H) → Bool := fun _ ds => decide (uptoBulkAll ds ≤ 1048576)
def OpenSpec.upto (s : _root_.Go.ChangeSpec) : _root_.Go.OpenSpec := { _root_.Go.OpenSpec.ofChange s with cond := some uptoSmall }

/-- 'laws.FnExactMapRange', WHERE WHAT IT READS IS OF BULK AT MOST 1048576: true; the input reads as it did. -/
def fnExactMapRangeUptoRow : OpenClaim := { program := "ytnbhalhlodnmpaa", sum := "0c72eff26d72e4403effc2b11d7245103311ee65f233a6671096d1c991742f12", func := "loop.example/pannier/laws.FnExactMapRange", spec := "fnExactMapRange", apart := false, narrowed := true }
def FnExactMapRangeUptoSaid : Prop := fnExactMapRangeUptoRow.holds Try.pinned (OpenSpec.upto fnExactMapRangeSpec)

/-- 'laws.FnMapRange', WHERE WHAT IT READS IS OF BULK AT MOST 1048576: true; the input reads as it did. -/
def fnMapRangeUptoRow : OpenClaim := { program := "ytnbhalhlodnmpaa", sum := "0c72eff26d72e4403effc2b11d7245103311ee65f233a6671096d1c991742f12", func := "loop.example/pannier/laws.FnMapRange", spec := "fnMapRange", apart := false, narrowed := true }
def FnMapRangeUptoSaid : Prop := fnMapRangeUptoRow.holds Try.pinned (OpenSpec.upto fnMapRangeSpec)

/-- 'laws.FnExactBoxHomes', WHERE WHAT IT READS IS OF BULK AT MOST 1048576: true; the input reads as it did. -/
def fnExactBoxHomesUptoRow : OpenClaim := { program := "ytnbhalhlodnmpaa", sum := "0c72eff26d72e4403effc2b11d7245103311ee65f233a6671096d1c991742f12", func := "loop.example/pannier/laws.FnExactBoxHomes", spec := "fnExactBoxHomes", apart := false, narrowed := true }
def FnExactBoxHomesUptoSaid : Prop := fnExactBoxHomesUptoRow.holds Try.pinned (OpenSpec.upto fnExactBoxHomesSpec)

/-- 'laws.FnExactHistStart', WHERE WHAT IT READS IS OF BULK AT MOST 1048576: true; the input reads as it did. -/
def fnExactHistStartUptoRow : OpenClaim := { program := "ytnbhalhlodnmpaa", sum := "0c72eff26d72e4403effc2b11d7245103311ee65f233a6671096d1c991742f12", func := "loop.example/pannier/laws.FnExactHistStart", spec := "fnExactHistStart", apart := false, narrowed := true }
def FnExactHistStartUptoSaid : Prop := fnExactHistStartUptoRow.holds Try.pinned (OpenSpec.upto fnExactHistStartSpec)

/-- 'laws.FnExactMapStart', WHERE WHAT IT READS IS OF BULK AT MOST 1048576: true; the input reads as it did. -/
def fnExactMapStartUptoRow : OpenClaim := { program := "ytnbhalhlodnmpaa", sum := "0c72eff26d72e4403effc2b11d7245103311ee65f233a6671096d1c991742f12", func := "loop.example/pannier/laws.FnExactMapStart", spec := "fnExactMapStart", apart := false, narrowed := true }
def FnExactMapStartUptoSaid : Prop := fnExactMapStartUptoRow.holds Try.pinned (OpenSpec.upto fnExactMapStartSpec)

/-- 'laws.FnExactHistStateOk', WHERE WHAT IT READS IS OF BULK AT MOST 1048576: true; the input reads as it did. -/
def fnExactHistStateOkUptoRow : OpenClaim := { program := "ytnbhalhlodnmpaa", sum := "0c72eff26d72e4403effc2b11d7245103311ee65f233a6671096d1c991742f12", func := "loop.example/pannier/laws.FnExactHistStateOk", spec := "fnExactHistStateOk", apart := false, narrowed := true }
def FnExactHistStateOkUptoSaid : Prop := fnExactHistStateOkUptoRow.holds Try.pinned (OpenSpec.upto fnExactHistStateOkSpec)

/-- 'laws.FnExactMapOk', WHERE WHAT IT READS IS OF BULK AT MOST 1048576: true; the input reads as it did. -/
def fnExactMapOkUptoRow : OpenClaim := { program := "ytnbhalhlodnmpaa", sum := "0c72eff26d72e4403effc2b11d7245103311ee65f233a6671096d1c991742f12", func := "loop.example/pannier/laws.FnExactMapOk", spec := "fnExactMapOk", apart := false, narrowed := true }
def FnExactMapOkUptoSaid : Prop := fnExactMapOkUptoRow.holds Try.pinned (OpenSpec.upto fnExactMapOkSpec)

/-- 'laws.FnExactMapTarget', WHERE WHAT IT READS IS OF BULK AT MOST 1048576: true; the input reads as it did. -/
def fnExactMapTargetUptoRow : OpenClaim := { program := "ytnbhalhlodnmpaa", sum := "0c72eff26d72e4403effc2b11d7245103311ee65f233a6671096d1c991742f12", func := "loop.example/pannier/laws.FnExactMapTarget", spec := "fnExactMapTarget", apart := false, narrowed := true }
def FnExactMapTargetUptoSaid : Prop := fnExactMapTargetUptoRow.holds Try.pinned (OpenSpec.upto fnExactMapTargetSpec)

/-- 'laws.FnExactMapSettled', WHERE WHAT IT READS IS OF BULK AT MOST 1048576: true; the input reads as it did. -/
def fnExactMapSettledUptoRow : OpenClaim := { program := "ytnbhalhlodnmpaa", sum := "0c72eff26d72e4403effc2b11d7245103311ee65f233a6671096d1c991742f12", func := "loop.example/pannier/laws.FnExactMapSettled", spec := "fnExactMapSettled", apart := false, narrowed := true }
def FnExactMapSettledUptoSaid : Prop := fnExactMapSettledUptoRow.holds Try.pinned (OpenSpec.upto fnExactMapSettledSpec)

/-- 'laws.FnExactMapJudge', WHERE WHAT IT READS IS OF BULK AT MOST 1048576: true; the input reads as it did. -/
def fnExactMapJudgeUptoRow : OpenClaim := { program := "ytnbhalhlodnmpaa", sum := "0c72eff26d72e4403effc2b11d7245103311ee65f233a6671096d1c991742f12", func := "loop.example/pannier/laws.FnExactMapJudge", spec := "fnExactMapJudge", apart := false, narrowed := true }
def FnExactMapJudgeUptoSaid : Prop := fnExactMapJudgeUptoRow.holds Try.pinned (OpenSpec.upto fnExactMapJudgeSpec)

/-- 'laws.FnMapTarget', WHERE WHAT IT READS IS OF BULK AT MOST 1048576: true; the input reads as it did. -/
def fnMapTargetUptoRow : OpenClaim := { program := "ytnbhalhlodnmpaa", sum := "0c72eff26d72e4403effc2b11d7245103311ee65f233a6671096d1c991742f12", func := "loop.example/pannier/laws.FnMapTarget", spec := "fnMapTarget", apart := false, narrowed := true }
def FnMapTargetUptoSaid : Prop := fnMapTargetUptoRow.holds Try.pinned (OpenSpec.upto fnMapTargetSpec)

/-- 'laws.FnMapJudge', WHERE WHAT IT READS IS OF BULK AT MOST 1048576: true; the input reads as it did. -/
def fnMapJudgeUptoRow : OpenClaim := { program := "ytnbhalhlodnmpaa", sum := "0c72eff26d72e4403effc2b11d7245103311ee65f233a6671096d1c991742f12", func := "loop.example/pannier/laws.FnMapJudge", spec := "fnMapJudge", apart := false, narrowed := true }
def FnMapJudgeUptoSaid : Prop := fnMapJudgeUptoRow.holds Try.pinned (OpenSpec.upto fnMapJudgeSpec)

end Rows
end Go.Proofs.Ytnbhalhlodnmpaa
