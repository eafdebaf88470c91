/-
  No cell of these rows narrows 'for every input' (looked for: loops, veiled, ifaces, maps, wideKeys, modest, calm, conditions, laid).
  DERIVED. THE GIVEN ROWS OF THIS SEAT. 12 by the template 'for every input the law returns true; each argument reads behind the call as it read before'; 0 by the template 'total and deterministic' (their statements: YtmaaboddeodemaaTotals.lean).
  GIVEN WITH THE SEED: the statements are not yours to turn. If you find one false, say at which input.
  Laid BY PROGRAM, IN A SANDBOX (cutbox-rows.mjs): the forced cells as the released guide's own fill.sh prints them over the translation a7dd825f781f981f… (all of the seat's roots in one cut). By AI agents, Wed Nov 11 2026. No macro, syntax, notation, axiom, sorry.
-/
import Derived.Test.YtmaaboddeodemaaChecked
import GoSem.Claim
import GoSem.ClaimJoined
import GoSem.ClaimMapViews
import Derived.JoinedTies
import Derived.KernelRfl
namespace Go.Proofs.Ytmaaboddeodemaa
/- THE CELL 'sum', in the pinned program and in every row, IS THE sha256 OF THE DUMP (.gsa) THAT YtmaaboddeodemaaProg.lean LOADS. Nothing in Lean hashes anything: it is a label: what it is worth is what the hold of that sum in a sandbox is worth. -/
noncomputable def Try.pinned : Pinned := { name := "ytmaaboddeodemaa", sum := "a7dd825f781f981fa76e21b783b2017934c7f3a0cf324abb49b18c184e25648b", checked := Try.checked }
namespace Rows
def none {H : Type} : Left H := { results := [], args := [] }

/-- 'laws.FnHistRead': WHATEVER THE INPUT: true; the input reads as it did. -/
def fnHistReadSpec : ChangeSpec := { name := "fnHistRead", fn := fun _ => fun
  | [d] => { results := [.lit (.bool true)], args := [d] }
  | _ => none }
def fnHistReadRow : OpenClaim := { program := "ytmaaboddeodemaa", sum := "a7dd825f781f981fa76e21b783b2017934c7f3a0cf324abb49b18c184e25648b", func := "loop.example/pannier/laws.FnHistRead", spec := "fnHistRead", apart := false }
def FnHistReadSaid : Prop := fnHistReadRow.holds Try.pinned (OpenSpec.ofChange fnHistReadSpec)

/-- ITS FALSE NEIGHBOUR: 'it returns false'. Refute it at one input. -/
def fnHistReadWrong : ChangeSpec := { name := "fnHistRead", fn := fun _ => fun
  | [d] => { results := [.lit (.bool false)], args := [d] }
  | _ => none }
def FnHistReadWrongFalsely : Prop := fnHistReadRow.holds Try.pinned (OpenSpec.ofChange fnHistReadWrong)

/-- 'laws.FnHistSnap': WHATEVER THE INPUT: true; the input reads as it did. -/
def fnHistSnapSpec : ChangeSpec := { name := "fnHistSnap", fn := fun _ => fun
  | [d] => { results := [.lit (.bool true)], args := [d] }
  | _ => none }
def fnHistSnapRow : OpenClaim := { program := "ytmaaboddeodemaa", sum := "a7dd825f781f981fa76e21b783b2017934c7f3a0cf324abb49b18c184e25648b", func := "loop.example/pannier/laws.FnHistSnap", spec := "fnHistSnap", apart := false }
def FnHistSnapSaid : Prop := fnHistSnapRow.holds Try.pinned (OpenSpec.ofChange fnHistSnapSpec)

/-- ITS FALSE NEIGHBOUR: 'it returns false'. Refute it at one input. -/
def fnHistSnapWrong : ChangeSpec := { name := "fnHistSnap", fn := fun _ => fun
  | [d] => { results := [.lit (.bool false)], args := [d] }
  | _ => none }
def FnHistSnapWrongFalsely : Prop := fnHistSnapRow.holds Try.pinned (OpenSpec.ofChange fnHistSnapWrong)

/-- 'laws.FnWordBack': WHATEVER THE INPUT: true; the input reads as it did. -/
def fnWordBackSpec : ChangeSpec := { name := "fnWordBack", fn := fun _ => fun
  | [d] => { results := [.lit (.bool true)], args := [d] }
  | _ => none }
def fnWordBackRow : OpenClaim := { program := "ytmaaboddeodemaa", sum := "a7dd825f781f981fa76e21b783b2017934c7f3a0cf324abb49b18c184e25648b", func := "loop.example/pannier/laws.FnWordBack", spec := "fnWordBack", apart := false }
def FnWordBackSaid : Prop := fnWordBackRow.holds Try.pinned (OpenSpec.ofChange fnWordBackSpec)

/-- ITS FALSE NEIGHBOUR: 'it returns false'. Refute it at one input. -/
def fnWordBackWrong : ChangeSpec := { name := "fnWordBack", fn := fun _ => fun
  | [d] => { results := [.lit (.bool false)], args := [d] }
  | _ => none }
def FnWordBackWrongFalsely : Prop := fnWordBackRow.holds Try.pinned (OpenSpec.ofChange fnWordBackWrong)

/-- 'laws.FnWordStrict': WHATEVER THE INPUT: true; the input reads as it did. -/
def fnWordStrictSpec : ChangeSpec := { name := "fnWordStrict", fn := fun _ => fun
  | [d] => { results := [.lit (.bool true)], args := [d] }
  | _ => none }
def fnWordStrictRow : OpenClaim := { program := "ytmaaboddeodemaa", sum := "a7dd825f781f981fa76e21b783b2017934c7f3a0cf324abb49b18c184e25648b", func := "loop.example/pannier/laws.FnWordStrict", spec := "fnWordStrict", apart := false }
def FnWordStrictSaid : Prop := fnWordStrictRow.holds Try.pinned (OpenSpec.ofChange fnWordStrictSpec)

/-- ITS FALSE NEIGHBOUR: 'it returns false'. Refute it at one input. -/
def fnWordStrictWrong : ChangeSpec := { name := "fnWordStrict", fn := fun _ => fun
  | [d] => { results := [.lit (.bool false)], args := [d] }
  | _ => none }
def FnWordStrictWrongFalsely : Prop := fnWordStrictRow.holds Try.pinned (OpenSpec.ofChange fnWordStrictWrong)

/-- 'laws.FnExactWordUnpack': WHATEVER THE INPUT: true; the input reads as it did. -/
def fnExactWordUnpackSpec : ChangeSpec := { name := "fnExactWordUnpack", fn := fun _ => fun
  | [d] => { results := [.lit (.bool true)], args := [d] }
  | _ => none }
def fnExactWordUnpackRow : OpenClaim := { program := "ytmaaboddeodemaa", sum := "a7dd825f781f981fa76e21b783b2017934c7f3a0cf324abb49b18c184e25648b", func := "loop.example/pannier/laws.FnExactWordUnpack", spec := "fnExactWordUnpack", apart := false }
def FnExactWordUnpackSaid : Prop := fnExactWordUnpackRow.holds Try.pinned (OpenSpec.ofChange fnExactWordUnpackSpec)

/-- ITS FALSE NEIGHBOUR: 'it returns false'. Refute it at one input. -/
def fnExactWordUnpackWrong : ChangeSpec := { name := "fnExactWordUnpack", fn := fun _ => fun
  | [d] => { results := [.lit (.bool false)], args := [d] }
  | _ => none }
def FnExactWordUnpackWrongFalsely : Prop := fnExactWordUnpackRow.holds Try.pinned (OpenSpec.ofChange fnExactWordUnpackWrong)

/-- 'laws.FnMapDo': WHATEVER THE INPUT: true; the input reads as it did. -/
def fnMapDoSpec : ChangeSpec := { name := "fnMapDo", fn := fun _ => fun
  | [d] => { results := [.lit (.bool true)], args := [d] }
  | _ => none }
def fnMapDoRow : OpenClaim := { program := "ytmaaboddeodemaa", sum := "a7dd825f781f981fa76e21b783b2017934c7f3a0cf324abb49b18c184e25648b", func := "loop.example/pannier/laws.FnMapDo", spec := "fnMapDo", apart := false }
def FnMapDoSaid : Prop := fnMapDoRow.holds Try.pinned (OpenSpec.ofChange fnMapDoSpec)

/-- ITS FALSE NEIGHBOUR: 'it returns false'. Refute it at one input. -/
def fnMapDoWrong : ChangeSpec := { name := "fnMapDo", fn := fun _ => fun
  | [d] => { results := [.lit (.bool false)], args := [d] }
  | _ => none }
def FnMapDoWrongFalsely : Prop := fnMapDoRow.holds Try.pinned (OpenSpec.ofChange fnMapDoWrong)

/-- 'laws.FnMapEpoch': WHATEVER THE INPUT: true; the input reads as it did. -/
def fnMapEpochSpec : ChangeSpec := { name := "fnMapEpoch", fn := fun _ => fun
  | [d] => { results := [.lit (.bool true)], args := [d] }
  | _ => none }
def fnMapEpochRow : OpenClaim := { program := "ytmaaboddeodemaa", sum := "a7dd825f781f981fa76e21b783b2017934c7f3a0cf324abb49b18c184e25648b", func := "loop.example/pannier/laws.FnMapEpoch", spec := "fnMapEpoch", apart := false }
def FnMapEpochSaid : Prop := fnMapEpochRow.holds Try.pinned (OpenSpec.ofChange fnMapEpochSpec)

/-- ITS FALSE NEIGHBOUR: 'it returns false'. Refute it at one input. -/
def fnMapEpochWrong : ChangeSpec := { name := "fnMapEpoch", fn := fun _ => fun
  | [d] => { results := [.lit (.bool false)], args := [d] }
  | _ => none }
def FnMapEpochWrongFalsely : Prop := fnMapEpochRow.holds Try.pinned (OpenSpec.ofChange fnMapEpochWrong)

/-- 'laws.FnMapOnce': WHATEVER THE INPUT: true; the input reads as it did. -/
def fnMapOnceSpec : ChangeSpec := { name := "fnMapOnce", fn := fun _ => fun
  | [d] => { results := [.lit (.bool true)], args := [d] }
  | _ => none }
def fnMapOnceRow : OpenClaim := { program := "ytmaaboddeodemaa", sum := "a7dd825f781f981fa76e21b783b2017934c7f3a0cf324abb49b18c184e25648b", func := "loop.example/pannier/laws.FnMapOnce", spec := "fnMapOnce", apart := false }
def FnMapOnceSaid : Prop := fnMapOnceRow.holds Try.pinned (OpenSpec.ofChange fnMapOnceSpec)

/-- ITS FALSE NEIGHBOUR: 'it returns false'. Refute it at one input. -/
def fnMapOnceWrong : ChangeSpec := { name := "fnMapOnce", fn := fun _ => fun
  | [d] => { results := [.lit (.bool false)], args := [d] }
  | _ => none }
def FnMapOnceWrongFalsely : Prop := fnMapOnceRow.holds Try.pinned (OpenSpec.ofChange fnMapOnceWrong)

/-- 'laws.FnMapSnap': WHATEVER THE INPUT: true; the input reads as it did. -/
def fnMapSnapSpec : ChangeSpec := { name := "fnMapSnap", fn := fun _ => fun
  | [d] => { results := [.lit (.bool true)], args := [d] }
  | _ => none }
def fnMapSnapRow : OpenClaim := { program := "ytmaaboddeodemaa", sum := "a7dd825f781f981fa76e21b783b2017934c7f3a0cf324abb49b18c184e25648b", func := "loop.example/pannier/laws.FnMapSnap", spec := "fnMapSnap", apart := false }
def FnMapSnapSaid : Prop := fnMapSnapRow.holds Try.pinned (OpenSpec.ofChange fnMapSnapSpec)

/-- ITS FALSE NEIGHBOUR: 'it returns false'. Refute it at one input. -/
def fnMapSnapWrong : ChangeSpec := { name := "fnMapSnap", fn := fun _ => fun
  | [d] => { results := [.lit (.bool false)], args := [d] }
  | _ => none }
def FnMapSnapWrongFalsely : Prop := fnMapSnapRow.holds Try.pinned (OpenSpec.ofChange fnMapSnapWrong)

/-- 'laws.FnMapView': WHATEVER THE INPUT: true; the input reads as it did. -/
def fnMapViewSpec : ChangeSpec := { name := "fnMapView", fn := fun _ => fun
  | [d] => { results := [.lit (.bool true)], args := [d] }
  | _ => none }
def fnMapViewRow : OpenClaim := { program := "ytmaaboddeodemaa", sum := "a7dd825f781f981fa76e21b783b2017934c7f3a0cf324abb49b18c184e25648b", func := "loop.example/pannier/laws.FnMapView", spec := "fnMapView", apart := false }
def FnMapViewSaid : Prop := fnMapViewRow.holds Try.pinned (OpenSpec.ofChange fnMapViewSpec)

/-- ITS FALSE NEIGHBOUR: 'it returns false'. Refute it at one input. -/
def fnMapViewWrong : ChangeSpec := { name := "fnMapView", fn := fun _ => fun
  | [d] => { results := [.lit (.bool false)], args := [d] }
  | _ => none }
def FnMapViewWrongFalsely : Prop := fnMapViewRow.holds Try.pinned (OpenSpec.ofChange fnMapViewWrong)

/-- 'laws.FnMapOf': WHATEVER THE INPUT: true; the input reads as it did. -/
def fnMapOfSpec : ChangeSpec := { name := "fnMapOf", fn := fun _ => fun
  | [d1, d2] => { results := [.lit (.bool true)], args := [d1, d2] }
  | _ => none }
def fnMapOfRow : OpenClaim := { program := "ytmaaboddeodemaa", sum := "a7dd825f781f981fa76e21b783b2017934c7f3a0cf324abb49b18c184e25648b", func := "loop.example/pannier/laws.FnMapOf", spec := "fnMapOf", apart := false }
def FnMapOfSaid : Prop := fnMapOfRow.holds Try.pinned (OpenSpec.ofChange fnMapOfSpec)

/-- ITS FALSE NEIGHBOUR: 'it returns false'. Refute it at one input. -/
def fnMapOfWrong : ChangeSpec := { name := "fnMapOf", fn := fun _ => fun
  | [d1, d2] => { results := [.lit (.bool false)], args := [d1, d2] }
  | _ => none }
def FnMapOfWrongFalsely : Prop := fnMapOfRow.holds Try.pinned (OpenSpec.ofChange fnMapOfWrong)

/-- 'laws.FnMapBusy': WHATEVER THE INPUT: true; the input reads as it did. -/
def fnMapBusySpec : ChangeSpec := { name := "fnMapBusy", fn := fun _ => fun
  | [d] => { results := [.lit (.bool true)], args := [d] }
  | _ => none }
def fnMapBusyRow : OpenClaim := { program := "ytmaaboddeodemaa", sum := "a7dd825f781f981fa76e21b783b2017934c7f3a0cf324abb49b18c184e25648b", func := "loop.example/pannier/laws.FnMapBusy", spec := "fnMapBusy", apart := false }
def FnMapBusySaid : Prop := fnMapBusyRow.holds Try.pinned (OpenSpec.ofChange fnMapBusySpec)

/-- ITS FALSE NEIGHBOUR: 'it returns false'. Refute it at one input. -/
def fnMapBusyWrong : ChangeSpec := { name := "fnMapBusy", fn := fun _ => fun
  | [d] => { results := [.lit (.bool false)], args := [d] }
  | _ => none }
def FnMapBusyWrongFalsely : Prop := fnMapBusyRow.holds Try.pinned (OpenSpec.ofChange fnMapBusyWrong)

/- THE SECOND FORM. 'bulk': how many values and letters a reading holds, each counted each time it is reached (what is shared counts as often as it is met; a slice's spare places count too). A statement '..UptoSaid' is the law's where the arguments, and the package variables that the reading takes, are together of bulk at most 1048576: NARROWER than '..Said'. Prove '..Said' where nothing that the law and all that it calls make is longer than what came in: it says more and counts as full. Else prove '..UptoSaid'. A law counts once. -/
mutual
def uptoBulk {H : Type} : DataW H → Nat
  | .lit (.string bytes) => bytes.length + 1
  | .lit _ => 1
  | .nil => 1
  | .ptr d => uptoBulk d + 1
  | .slice elems spare => uptoBulkAll elems + uptoBulkAll spare + 1
  | .agg parts => uptoBulkAll parts + 1
  | .iface _ d => uptoBulk d + 1
  | .map entries => uptoBulkEntries entries + 1
  | .held _ => 1
def uptoBulkAll {H : Type} : List (DataW H) → Nat
  | [] => 0
  | d :: r => uptoBulk d + uptoBulkAll r
def uptoBulkEntries {H : Type} : List (Lit × DataW H) → Nat
  | [] => 0
  | x :: r => uptoBulkEntry x + uptoBulkEntries r
def uptoBulkEntry {H : Type} : Lit × DataW H → Nat
  | (.string bytes, d) => bytes.length + uptoBulk d + 1
  | (_, d) => uptoBulk d + 1
 end
def uptoSmall : (H : Type) → List (DataW H) → Bool := fun _ ds => decide (uptoBulkAll ds ≤ 1048576)
def OpenSpec.upto (s : _root_.Go.ChangeSpec) : _root_.Go.OpenSpec := { _root_.Go.OpenSpec.ofChange s with cond := some uptoSmall }

/-- 'laws.FnHistRead', WHERE WHAT IT READS IS OF BULK AT MOST 1048576: true; the input reads as it did. -/
def fnHistReadUptoRow : OpenClaim := { program := "ytmaaboddeodemaa", sum := "a7dd825f781f981fa76e21b783b2017934c7f3a0cf324abb49b18c184e25648b", func := "loop.example/pannier/laws.FnHistRead", spec := "fnHistRead", apart := false, narrowed := true }
def FnHistReadUptoSaid : Prop := fnHistReadUptoRow.holds Try.pinned (OpenSpec.upto fnHistReadSpec)

/-- 'laws.FnHistSnap', WHERE WHAT IT READS IS OF BULK AT MOST 1048576: true; the input reads as it did. -/
def fnHistSnapUptoRow : OpenClaim := { program := "ytmaaboddeodemaa", sum := "a7dd825f781f981fa76e21b783b2017934c7f3a0cf324abb49b18c184e25648b", func := "loop.example/pannier/laws.FnHistSnap", spec := "fnHistSnap", apart := false, narrowed := true }
def FnHistSnapUptoSaid : Prop := fnHistSnapUptoRow.holds Try.pinned (OpenSpec.upto fnHistSnapSpec)

/-- 'laws.FnWordBack', WHERE WHAT IT READS IS OF BULK AT MOST 1048576: true; the input reads as it did. -/
def fnWordBackUptoRow : OpenClaim := { program := "ytmaaboddeodemaa", sum := "a7dd825f781f981fa76e21b783b2017934c7f3a0cf324abb49b18c184e25648b", func := "loop.example/pannier/laws.FnWordBack", spec := "fnWordBack", apart := false, narrowed := true }
def FnWordBackUptoSaid : Prop := fnWordBackUptoRow.holds Try.pinned (OpenSpec.upto fnWordBackSpec)

/-- 'laws.FnWordStrict', WHERE WHAT IT READS IS OF BULK AT MOST 1048576: true; the input reads as it did. -/
def fnWordStrictUptoRow : OpenClaim := { program := "ytmaaboddeodemaa", sum := "a7dd825f781f981fa76e21b783b2017934c7f3a0cf324abb49b18c184e25648b", func := "loop.example/pannier/laws.FnWordStrict", spec := "fnWordStrict", apart := false, narrowed := true }
def FnWordStrictUptoSaid : Prop := fnWordStrictUptoRow.holds Try.pinned (OpenSpec.upto fnWordStrictSpec)

/-- 'laws.FnExactWordUnpack', WHERE WHAT IT READS IS OF BULK AT MOST 1048576: true; the input reads as it did. -/
def fnExactWordUnpackUptoRow : OpenClaim := { program := "ytmaaboddeodemaa", sum := "a7dd825f781f981fa76e21b783b2017934c7f3a0cf324abb49b18c184e25648b", func := "loop.example/pannier/laws.FnExactWordUnpack", spec := "fnExactWordUnpack", apart := false, narrowed := true }
def FnExactWordUnpackUptoSaid : Prop := fnExactWordUnpackUptoRow.holds Try.pinned (OpenSpec.upto fnExactWordUnpackSpec)

/-- 'laws.FnMapDo', WHERE WHAT IT READS IS OF BULK AT MOST 1048576: true; the input reads as it did. -/
def fnMapDoUptoRow : OpenClaim := { program := "ytmaaboddeodemaa", sum := "a7dd825f781f981fa76e21b783b2017934c7f3a0cf324abb49b18c184e25648b", func := "loop.example/pannier/laws.FnMapDo", spec := "fnMapDo", apart := false, narrowed := true }
def FnMapDoUptoSaid : Prop := fnMapDoUptoRow.holds Try.pinned (OpenSpec.upto fnMapDoSpec)

/-- 'laws.FnMapEpoch', WHERE WHAT IT READS IS OF BULK AT MOST 1048576: true; the input reads as it did. -/
def fnMapEpochUptoRow : OpenClaim := { program := "ytmaaboddeodemaa", sum := "a7dd825f781f981fa76e21b783b2017934c7f3a0cf324abb49b18c184e25648b", func := "loop.example/pannier/laws.FnMapEpoch", spec := "fnMapEpoch", apart := false, narrowed := true }
def FnMapEpochUptoSaid : Prop := fnMapEpochUptoRow.holds Try.pinned (OpenSpec.upto fnMapEpochSpec)

/-- 'laws.FnMapOnce', WHERE WHAT IT READS IS OF BULK AT MOST 1048576: true; the input reads as it did. -/
def fnMapOnceUptoRow : OpenClaim := { program := "ytmaaboddeodemaa", sum := "a7dd825f781f981fa76e21b783b2017934c7f3a0cf324abb49b18c184e25648b", func := "loop.example/pannier/laws.FnMapOnce", spec := "fnMapOnce", apart := false, narrowed := true }
def FnMapOnceUptoSaid : Prop := fnMapOnceUptoRow.holds Try.pinned (OpenSpec.upto fnMapOnceSpec)

/-- 'laws.FnMapSnap', WHERE WHAT IT READS IS OF BULK AT MOST 1048576: true; the input reads as it did. -/
def fnMapSnapUptoRow : OpenClaim := { program := "ytmaaboddeodemaa", sum := "a7dd825f781f981fa76e21b783b2017934c7f3a0cf324abb49b18c184e25648b", func := "loop.example/pannier/laws.FnMapSnap", spec := "fnMapSnap", apart := false, narrowed := true }
def FnMapSnapUptoSaid : Prop := fnMapSnapUptoRow.holds Try.pinned (OpenSpec.upto fnMapSnapSpec)

/-- 'laws.FnMapView', WHERE WHAT IT READS IS OF BULK AT MOST 1048576: true; the input reads as it did. -/
def fnMapViewUptoRow : OpenClaim := { program := "ytmaaboddeodemaa", sum := "a7dd825f781f981fa76e21b783b2017934c7f3a0cf324abb49b18c184e25648b", func := "loop.example/pannier/laws.FnMapView", spec := "fnMapView", apart := false, narrowed := true }
def FnMapViewUptoSaid : Prop := fnMapViewUptoRow.holds Try.pinned (OpenSpec.upto fnMapViewSpec)

/-- 'laws.FnMapOf', WHERE WHAT IT READS IS OF BULK AT MOST 1048576: true; the input reads as it did. -/
def fnMapOfUptoRow : OpenClaim := { program := "ytmaaboddeodemaa", sum := "a7dd825f781f981fa76e21b783b2017934c7f3a0cf324abb49b18c184e25648b", func := "loop.example/pannier/laws.FnMapOf", spec := "fnMapOf", apart := false, narrowed := true }
def FnMapOfUptoSaid : Prop := fnMapOfUptoRow.holds Try.pinned (OpenSpec.upto fnMapOfSpec)

/-- 'laws.FnMapBusy', WHERE WHAT IT READS IS OF BULK AT MOST 1048576: true; the input reads as it did. -/
def fnMapBusyUptoRow : OpenClaim := { program := "ytmaaboddeodemaa", sum := "a7dd825f781f981fa76e21b783b2017934c7f3a0cf324abb49b18c184e25648b", func := "loop.example/pannier/laws.FnMapBusy", spec := "fnMapBusy", apart := false, narrowed := true }
def FnMapBusyUptoSaid : Prop := fnMapBusyUptoRow.holds Try.pinned (OpenSpec.upto fnMapBusySpec)

end Rows
end Go.Proofs.Ytmaaboddeodemaa
