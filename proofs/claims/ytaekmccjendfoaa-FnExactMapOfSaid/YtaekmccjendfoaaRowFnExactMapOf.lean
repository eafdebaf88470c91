/- A law for all its arguments: the code as plain typed functions, and what these come to; no condition. -/
import Derived.Test.YtaekmccjendfoaaRows
import Derived.Test.YtaekmccjendfoaaML
import Derived.Test.YtaekmccjendfoaaV22
import Derived.WalkKit
import Derived.ProofKit
import Derived.OpenShut
import Derived.ShutString
import Derived.ChangeOld
import Derived.Below
import Derived.SizedLaws
namespace Go.Proofs.Ytaekmccjendfoaa.fnExactMapOf
open Go.ChangeShapes Go.WideShapes Go.ChangeAt Go.RowKit
set_option linter.unusedVariables false
theorem own : ownKnob Try.prog.godebug = none := by kernel_rfl
theorem laidOut : laidOutB Try.prog = true := by kernel_rfl
theorem readable : (Try.f10.params.toList.all fun t => Try.prog.readableRec t && decide (t < Try.prog.types.size)) = true := by kernel_rfl
theorem fits : PA.pksB Try.prog Try.f10.params.toList MO.ps10 = true := by kernel_rfl
set_option maxRecDepth 100000 in
theorem lifted (os : Os) (started : os.Started) (H : Type) (enc : TypeId × Value → H) :
    ReturnsInHanded {} Try.checked os 10 .any (Rows.fnExactMapOfSpec.pre6 enc Try.prog Try.f10 Rows.fnExactMapOfRow.domain false) (Rows.fnExactMapOfSpec.post enc Try.prog Try.f10 false true false false) := by
  refine returnsInHanded_of_change_sized (C := Try.checked) own started (by kernel_rfl) Try.func10
    (ChangeSpec.witness6 (enc := enc) (C := Try.checked) false ⟨#[], #[.slice none 0 0], []⟩ 8 (by kernel_rfl) (by kernel_rfl) (by kernel_rfl) (by kernel_rfl)) ?_
  intro W base args ds gs before hval0 hW hcnd hsz0 _
  have hW' := hW
  obtain ⟨p, q, hA0, hV, rfl, hfz, hnd⟩ := hW
  obtain ⟨rfl, rfl⟩ := trodVars_none hV
  have hlen : ds.length = Try.f10.params.toList.length := PA.args_len _ _ _ _ hA0
  obtain ⟨d0, rfl⟩ : ∃ d0, ds = [d0] := by
    match ds, hlen with
    | [d0], _ => exact ⟨d0, rfl⟩
  refine (PA.AllC.law (T := _) (F := MO.F10) MO.hT10 fits MO.pure10 hA0 (fun j t v e1 e2 => hval0 j t v (by simpa using e1) e2) hsz0).mono fun e W' ⟨he, bel⟩ => ?_
  subst he
  exact ⟨_, rfl, _, _, _, [], _, [], hW', trodAll_mk1 (shut_bool Try.underlying4 _), PA.args_below laidOut _ _ _ _ readable hA0 bel, rfl, bel.frame _, fun h => by cases h⟩
theorem over : Rows.fnExactMapOfRow.holds Try.pinned (OpenSpec.ofChange Rows.fnExactMapOfSpec) :=
  OpenClaim.holds_of_wide 10 Try.f10 rfl rfl rfl rfl rfl rfl rfl ⟨rfl, rfl, rfl, rfl, rfl⟩ rfl rfl rfl rfl rfl (by kernel_rfl) Try.func10 (by kernel_rfl)
    (of_decide_eq_true (by kernel_rfl)) (by unfold Func.isWrapper; first | (rw [if_pos (by decide +kernel)]; kernel_rfl) | (rw [if_neg (by decide +kernel)]; exact ⟨rfl, rfl⟩))
    (fun os started H enc _ => lifted os started H enc)
theorem proved : Rows.FnExactMapOfSaid := over
#print axioms proved
end Go.Proofs.Ytaekmccjendfoaa.fnExactMapOf
namespace Go.Proofs.Ytaekmccjendfoaa
/-- The row, under a short name, for the claim. -/
theorem fnExactMapOf_holds : Rows.FnExactMapOfSaid := fnExactMapOf.proved
end Go.Proofs.Ytaekmccjendfoaa
