/-
  No cell of these rows narrows 'for every input' (looked for: loops, veiled, ifaces, maps, wideKeys, modest, calm, conditions, laid).
  DERIVED. THE GIVEN ROWS OF THIS SEAT. 9 by the template 'for every input the law returns true; each argument reads behind the call as it read before'; 0 by the template 'total and deterministic' (their statements: YtaekmccjendfoaaTotals.lean).
  GIVEN WITH THE SEED: the statements are not yours to turn. If you find one false, say at which input.
  Laid BY PROGRAM, IN A SANDBOX (cutbox-rows.mjs): the forced cells as the released guide's own fill.sh prints them over the translation 4046c0036cd62ae1… (all of the seat's roots in one cut). By AI agents, Wed Nov 11 2026. No macro, syntax, notation, axiom, sorry.
-/
import Derived.Test.YtaekmccjendfoaaChecked
import GoSem.Claim
import GoSem.ClaimJoined
import GoSem.ClaimMapViews
import Derived.JoinedTies
import Derived.KernelRfl
namespace Go.Proofs.Ytaekmccjendfoaa
/- THE CELL 'sum', in the pinned program and in every row, IS THE sha256 OF THE DUMP (.gsa) THAT YtaekmccjendfoaaProg.lean LOADS. Nothing in Lean hashes anything: it is a label: what it is worth is what the hold of that sum in a sandbox is worth. -/
noncomputable def Try.pinned : Pinned := { name := "ytaekmccjendfoaa", sum := "4046c0036cd62ae1248a39ecd0b4befb4766202a8ea47315ebbd9f2431219bef", checked := Try.checked }
namespace Rows
def none {H : Type} : Left H := { results := [], args := [] }

/-- 'laws.FnHistRead': WHATEVER THE INPUT: true; the input reads as it did. -/
def fnHistReadSpec : ChangeSpec := { name := "fnHistRead", fn := fun _ => fun
  | [d] => { results := [.lit (.bool true)], args := [d] }
  | _ => none }
def fnHistReadRow : OpenClaim := { program := "ytaekmccjendfoaa", sum := "4046c0036cd62ae1248a39ecd0b4befb4766202a8ea47315ebbd9f2431219bef", func := "loop.example/pannier/laws.FnHistRead", spec := "fnHistRead", apart := false }
def FnHistReadSaid : Prop := fnHistReadRow.holds Try.pinned (OpenSpec.ofChange fnHistReadSpec)

/-- ITS FALSE NEIGHBOUR: 'it returns false'. Refute it at one input. -/
def fnHistReadWrong : ChangeSpec := { name := "fnHistRead", fn := fun _ => fun
  | [d] => { results := [.lit (.bool false)], args := [d] }
  | _ => none }
def FnHistReadWrongFalsely : Prop := fnHistReadRow.holds Try.pinned (OpenSpec.ofChange fnHistReadWrong)

/-- 'laws.FnHistSnap': WHATEVER THE INPUT: true; the input reads as it did. -/
def fnHistSnapSpec : ChangeSpec := { name := "fnHistSnap", fn := fun _ => fun
  | [d] => { results := [.lit (.bool true)], args := [d] }
  | _ => none }
def fnHistSnapRow : OpenClaim := { program := "ytaekmccjendfoaa", sum := "4046c0036cd62ae1248a39ecd0b4befb4766202a8ea47315ebbd9f2431219bef", func := "loop.example/pannier/laws.FnHistSnap", spec := "fnHistSnap", apart := false }
def FnHistSnapSaid : Prop := fnHistSnapRow.holds Try.pinned (OpenSpec.ofChange fnHistSnapSpec)

/-- ITS FALSE NEIGHBOUR: 'it returns false'. Refute it at one input. -/
def fnHistSnapWrong : ChangeSpec := { name := "fnHistSnap", fn := fun _ => fun
  | [d] => { results := [.lit (.bool false)], args := [d] }
  | _ => none }
def FnHistSnapWrongFalsely : Prop := fnHistSnapRow.holds Try.pinned (OpenSpec.ofChange fnHistSnapWrong)

/-- 'laws.FnWordBack': WHATEVER THE INPUT: true; the input reads as it did. -/
def fnWordBackSpec : ChangeSpec := { name := "fnWordBack", fn := fun _ => fun
  | [d] => { results := [.lit (.bool true)], args := [d] }
  | _ => none }
def fnWordBackRow : OpenClaim := { program := "ytaekmccjendfoaa", sum := "4046c0036cd62ae1248a39ecd0b4befb4766202a8ea47315ebbd9f2431219bef", func := "loop.example/pannier/laws.FnWordBack", spec := "fnWordBack", apart := false }
def FnWordBackSaid : Prop := fnWordBackRow.holds Try.pinned (OpenSpec.ofChange fnWordBackSpec)

/-- ITS FALSE NEIGHBOUR: 'it returns false'. Refute it at one input. -/
def fnWordBackWrong : ChangeSpec := { name := "fnWordBack", fn := fun _ => fun
  | [d] => { results := [.lit (.bool false)], args := [d] }
  | _ => none }
def FnWordBackWrongFalsely : Prop := fnWordBackRow.holds Try.pinned (OpenSpec.ofChange fnWordBackWrong)

/-- 'laws.FnWordStrict': WHATEVER THE INPUT: true; the input reads as it did. -/
def fnWordStrictSpec : ChangeSpec := { name := "fnWordStrict", fn := fun _ => fun
  | [d] => { results := [.lit (.bool true)], args := [d] }
  | _ => none }
def fnWordStrictRow : OpenClaim := { program := "ytaekmccjendfoaa", sum := "4046c0036cd62ae1248a39ecd0b4befb4766202a8ea47315ebbd9f2431219bef", func := "loop.example/pannier/laws.FnWordStrict", spec := "fnWordStrict", apart := false }
def FnWordStrictSaid : Prop := fnWordStrictRow.holds Try.pinned (OpenSpec.ofChange fnWordStrictSpec)

/-- ITS FALSE NEIGHBOUR: 'it returns false'. Refute it at one input. -/
def fnWordStrictWrong : ChangeSpec := { name := "fnWordStrict", fn := fun _ => fun
  | [d] => { results := [.lit (.bool false)], args := [d] }
  | _ => none }
def FnWordStrictWrongFalsely : Prop := fnWordStrictRow.holds Try.pinned (OpenSpec.ofChange fnWordStrictWrong)

/-- 'laws.FnExactWordUnpack': WHATEVER THE INPUT: true; the input reads as it did. -/
def fnExactWordUnpackSpec : ChangeSpec := { name := "fnExactWordUnpack", fn := fun _ => fun
  | [d] => { results := [.lit (.bool true)], args := [d] }
  | _ => none }
def fnExactWordUnpackRow : OpenClaim := { program := "ytaekmccjendfoaa", sum := "4046c0036cd62ae1248a39ecd0b4befb4766202a8ea47315ebbd9f2431219bef", func := "loop.example/pannier/laws.FnExactWordUnpack", spec := "fnExactWordUnpack", apart := false }
def FnExactWordUnpackSaid : Prop := fnExactWordUnpackRow.holds Try.pinned (OpenSpec.ofChange fnExactWordUnpackSpec)

/-- ITS FALSE NEIGHBOUR: 'it returns false'. Refute it at one input. -/
def fnExactWordUnpackWrong : ChangeSpec := { name := "fnExactWordUnpack", fn := fun _ => fun
  | [d] => { results := [.lit (.bool false)], args := [d] }
  | _ => none }
def FnExactWordUnpackWrongFalsely : Prop := fnExactWordUnpackRow.holds Try.pinned (OpenSpec.ofChange fnExactWordUnpackWrong)

/-- 'laws.FnMapTarget': WHATEVER THE INPUT: true; the input reads as it did. -/
def fnMapTargetSpec : ChangeSpec := { name := "fnMapTarget", fn := fun _ => fun
  | [d] => { results := [.lit (.bool true)], args := [d] }
  | _ => none }
def fnMapTargetRow : OpenClaim := { program := "ytaekmccjendfoaa", sum := "4046c0036cd62ae1248a39ecd0b4befb4766202a8ea47315ebbd9f2431219bef", func := "loop.example/pannier/laws.FnMapTarget", spec := "fnMapTarget", apart := false }
def FnMapTargetSaid : Prop := fnMapTargetRow.holds Try.pinned (OpenSpec.ofChange fnMapTargetSpec)

/-- ITS FALSE NEIGHBOUR: 'it returns false'. Refute it at one input. -/
def fnMapTargetWrong : ChangeSpec := { name := "fnMapTarget", fn := fun _ => fun
  | [d] => { results := [.lit (.bool false)], args := [d] }
  | _ => none }
def FnMapTargetWrongFalsely : Prop := fnMapTargetRow.holds Try.pinned (OpenSpec.ofChange fnMapTargetWrong)

/-- 'laws.FnMapJudge': WHATEVER THE INPUT: true; the input reads as it did. -/
def fnMapJudgeSpec : ChangeSpec := { name := "fnMapJudge", fn := fun _ => fun
  | [d] => { results := [.lit (.bool true)], args := [d] }
  | _ => none }
def fnMapJudgeRow : OpenClaim := { program := "ytaekmccjendfoaa", sum := "4046c0036cd62ae1248a39ecd0b4befb4766202a8ea47315ebbd9f2431219bef", func := "loop.example/pannier/laws.FnMapJudge", spec := "fnMapJudge", apart := false }
def FnMapJudgeSaid : Prop := fnMapJudgeRow.holds Try.pinned (OpenSpec.ofChange fnMapJudgeSpec)

/-- ITS FALSE NEIGHBOUR: 'it returns false'. Refute it at one input. -/
def fnMapJudgeWrong : ChangeSpec := { name := "fnMapJudge", fn := fun _ => fun
  | [d] => { results := [.lit (.bool false)], args := [d] }
  | _ => none }
def FnMapJudgeWrongFalsely : Prop := fnMapJudgeRow.holds Try.pinned (OpenSpec.ofChange fnMapJudgeWrong)

/-- 'laws.FnExactMapOf': WHATEVER THE INPUT: true; the input reads as it did. -/
def fnExactMapOfSpec : ChangeSpec := { name := "fnExactMapOf", fn := fun _ => fun
  | [d] => { results := [.lit (.bool true)], args := [d] }
  | _ => none }
def fnExactMapOfRow : OpenClaim := { program := "ytaekmccjendfoaa", sum := "4046c0036cd62ae1248a39ecd0b4befb4766202a8ea47315ebbd9f2431219bef", func := "loop.example/pannier/laws.FnExactMapOf", spec := "fnExactMapOf", apart := false }
def FnExactMapOfSaid : Prop := fnExactMapOfRow.holds Try.pinned (OpenSpec.ofChange fnExactMapOfSpec)

/-- ITS FALSE NEIGHBOUR: 'it returns false'. Refute it at one input. -/
def fnExactMapOfWrong : ChangeSpec := { name := "fnExactMapOf", fn := fun _ => fun
  | [d] => { results := [.lit (.bool false)], args := [d] }
  | _ => none }
def FnExactMapOfWrongFalsely : Prop := fnExactMapOfRow.holds Try.pinned (OpenSpec.ofChange fnExactMapOfWrong)

/-- 'laws.FnExactMapDo': WHATEVER THE INPUT: true; the input reads as it did. -/
def fnExactMapDoSpec : ChangeSpec := { name := "fnExactMapDo", fn := fun _ => fun
  | [d1, d2] => { results := [.lit (.bool true)], args := [d1, d2] }
  | _ => none }
def fnExactMapDoRow : OpenClaim := { program := "ytaekmccjendfoaa", sum := "4046c0036cd62ae1248a39ecd0b4befb4766202a8ea47315ebbd9f2431219bef", func := "loop.example/pannier/laws.FnExactMapDo", spec := "fnExactMapDo", apart := false }
def FnExactMapDoSaid : Prop := fnExactMapDoRow.holds Try.pinned (OpenSpec.ofChange fnExactMapDoSpec)

/-- ITS FALSE NEIGHBOUR: 'it returns false'. Refute it at one input. -/
def fnExactMapDoWrong : ChangeSpec := { name := "fnExactMapDo", fn := fun _ => fun
  | [d1, d2] => { results := [.lit (.bool false)], args := [d1, d2] }
  | _ => none }
def FnExactMapDoWrongFalsely : Prop := fnExactMapDoRow.holds Try.pinned (OpenSpec.ofChange fnExactMapDoWrong)

/- THE SECOND FORM. 'bulk': how many values and letters a reading holds, each counted each time it is reached (what is shared counts as often as it is met; a slice's spare places count too). A statement '..UptoSaid' is the law's where the arguments, and the package variables that the reading takes, are together of bulk at most 1048576: NARROWER than '..Said'. Prove '..Said' where nothing that the law and all that it calls make is longer than what came in: it says more and counts as full. Else prove '..UptoSaid'. A law counts once. -/
mutual
def uptoBulk {H : Type} : DataW H → Nat
  | .lit (.string bytes) => bytes.length + 1
  | .lit _ => 1
  | .nil => 1
  | .ptr d => uptoBulk d + 1
  | .slice elems spare => uptoBulkAll elems + uptoBulkAll spare + 1
  | .agg parts => uptoBulkAll parts + 1
  | .iface _ d => uptoBulk d + 1
  | .map entries => uptoBulkEntries entries + 1
  | .held _ => 1
def uptoBulkAll {H : Type} : List (DataW H) → Nat
  | [] => 0
  | d :: r => uptoBulk d + uptoBulkAll r
def uptoBulkEntries {H : Type} : List (Lit × DataW H) → Nat
  | [] => 0
  | x :: r => uptoBulkEntry x + uptoBulkEntries r
def uptoBulkEntry {H : Type} : Lit × DataW H → Nat
  | (.string bytes, d) => bytes.length + uptoBulk d + 1
  | (_, d) => uptoBulk d + 1
 end
def uptoSmall : (H : Type) → List (DataW H) → Bool := fun _ ds => decide (uptoBulkAll ds ≤ 1048576)
def OpenSpec.upto (s : _root_.Go.ChangeSpec) : _root_.Go.OpenSpec := { _root_.Go.OpenSpec.ofChange s with cond := some uptoSmall }

/-- 'laws.FnHistRead', WHERE WHAT IT READS IS OF BULK AT MOST 1048576: true; the input reads as it did. -/
def fnHistReadUptoRow : OpenClaim := { program := "ytaekmccjendfoaa", sum := "4046c0036cd62ae1248a39ecd0b4befb4766202a8ea47315ebbd9f2431219bef", func := "loop.example/pannier/laws.FnHistRead", spec := "fnHistRead", apart := false, narrowed := true }
def FnHistReadUptoSaid : Prop := fnHistReadUptoRow.holds Try.pinned (OpenSpec.upto fnHistReadSpec)

/-- 'laws.FnHistSnap', WHERE WHAT IT READS IS OF BULK AT MOST 1048576: true; the input reads as it did. -/
def fnHistSnapUptoRow : OpenClaim := { program := "ytaekmccjendfoaa", sum := "4046c0036cd62ae1248a39ecd0b4befb4766202a8ea47315ebbd9f2431219bef", func := "loop.example/pannier/laws.FnHistSnap", spec := "fnHistSnap", apart := false, narrowed := true }
def FnHistSnapUptoSaid : Prop := fnHistSnapUptoRow.holds Try.pinned (OpenSpec.upto fnHistSnapSpec)

/-- 'laws.FnWordBack', WHERE WHAT IT READS IS OF BULK AT MOST 1048576: true; the input reads as it did. -/
def fnWordBackUptoRow : OpenClaim := { program := "ytaekmccjendfoaa", sum := "4046c0036cd62ae1248a39ecd0b4befb4766202a8ea47315ebbd9f2431219bef", func := "loop.example/pannier/laws.FnWordBack", spec := "fnWordBack", apart := false, narrowed := true }
def FnWordBackUptoSaid : Prop := fnWordBackUptoRow.holds Try.pinned (OpenSpec.upto fnWordBackSpec)

/-- 'laws.FnWordStrict', WHERE WHAT IT READS IS OF BULK AT MOST 1048576: true; the input reads as it did. -/
def fnWordStrictUptoRow : OpenClaim := { program := "ytaekmccjendfoaa", sum := "4046c0036cd62ae1248a39ecd0b4befb4766202a8ea47315ebbd9f2431219bef", func := "loop.example/pannier/laws.FnWordStrict", spec := "fnWordStrict", apart := false, narrowed := true }
def FnWordStrictUptoSaid : Prop := fnWordStrictUptoRow.holds Try.pinned (OpenSpec.upto fnWordStrictSpec)

/-- 'laws.FnExactWordUnpack', WHERE WHAT IT READS IS OF BULK AT MOST 1048576: true; the input reads as it did. -/
def fnExactWordUnpackUptoRow : OpenClaim := { program := "ytaekmccjendfoaa", sum := "4046c0036cd62ae1248a39ecd0b4befb4766202a8ea47315ebbd9f2431219bef", func := "loop.example/pannier/laws.FnExactWordUnpack", spec := "fnExactWordUnpack", apart := false, narrowed := true }
def FnExactWordUnpackUptoSaid : Prop := fnExactWordUnpackUptoRow.holds Try.pinned (OpenSpec.upto fnExactWordUnpackSpec)

/-- 'laws.FnMapTarget', WHERE WHAT IT READS IS OF BULK AT MOST 1048576: true; the input reads as it did. -/
def fnMapTargetUptoRow : OpenClaim := { program := "ytaekmccjendfoaa", sum := "4046c0036cd62ae1248a39ecd0b4befb4766202a8ea47315ebbd9f2431219bef", func := "loop.example/pannier/laws.FnMapTarget", spec := "fnMapTarget", apart := false, narrowed := true }
def FnMapTargetUptoSaid : Prop := fnMapTargetUptoRow.holds Try.pinned (OpenSpec.upto fnMapTargetSpec)

/-- 'laws.FnMapJudge', WHERE WHAT IT READS IS OF BULK AT MOST 1048576: true; the input reads as it did. -/
def fnMapJudgeUptoRow : OpenClaim := { program := "ytaekmccjendfoaa", sum := "4046c0036cd62ae1248a39ecd0b4befb4766202a8ea47315ebbd9f2431219bef", func := "loop.example/pannier/laws.FnMapJudge", spec := "fnMapJudge", apart := false, narrowed := true }
def FnMapJudgeUptoSaid : Prop := fnMapJudgeUptoRow.holds Try.pinned (OpenSpec.upto fnMapJudgeSpec)

/-- 'laws.FnExactMapOf', WHERE WHAT IT READS IS OF BULK AT MOST 1048576: true; the input reads as it did. -/
def fnExactMapOfUptoRow : OpenClaim := { program := "ytaekmccjendfoaa", sum := "4046c0036cd62ae1248a39ecd0b4befb4766202a8ea47315ebbd9f2431219bef", func := "loop.example/pannier/laws.FnExactMapOf", spec := "fnExactMapOf", apart := false, narrowed := true }
def FnExactMapOfUptoSaid : Prop := fnExactMapOfUptoRow.holds Try.pinned (OpenSpec.upto fnExactMapOfSpec)

/-- 'laws.FnExactMapDo', WHERE WHAT IT READS IS OF BULK AT MOST 1048576: true; the input reads as it did. -/
def fnExactMapDoUptoRow : OpenClaim := { program := "ytaekmccjendfoaa", sum := "4046c0036cd62ae1248a39ecd0b4befb4766202a8ea47315ebbd9f2431219bef", func := "loop.example/pannier/laws.FnExactMapDo", spec := "fnExactMapDo", apart := false, narrowed := true }
def FnExactMapDoUptoSaid : Prop := fnExactMapDoUptoRow.holds Try.pinned (OpenSpec.upto fnExactMapDoSpec)

end Rows
end Go.Proofs.Ytaekmccjendfoaa
