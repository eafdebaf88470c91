/- The pure statement of FnExactMapRange: the program's MapRange and the reference's give the same number, whatever the arguments. -/
import Derived.Test.YtnbhalhlodnmpaaPFnExactMapRangex1
namespace Go.Proofs.Ytnbhalhlodnmpaa.Pure
open Go.RowKit Go.Proofs.Ytnbhalhlodnmpaa.PFnExactMapRange Go.Proofs.YtnbhalhlodnmpaaW.PrintWords Go.Proofs.YtnbhalhlodnmpaaW.PrintLast

theorem FnExactMapRange : laws_FnExactMapRange.Pure := by
  intro a0 a1 _ _
  unfold laws_FnExactMapRange.f
  have e : impl_MapRange.f a0 a1 = spec_MapRange.f a0 a1 := rfl
  rw [e]
  have i : ∀ a b c, ∃ r, spec_l6In.f a b c = some r := by
    intro a b c; unfold spec_l6In.f; split <;> exact ⟨_, rfl⟩
  have h : ∃ r, spec_MapRange.f a0 a1 = some r := by
    unfold spec_MapRange.f
    obtain ⟨x, hx⟩ := i a0 0 99999
    obtain ⟨y, hy⟩ := i a1 0 99999
    rw [hx, hy]; cases x <;> cases y <;> exact ⟨_, rfl⟩
  obtain ⟨r, hr⟩ := h
  rw [hr]; simp

end Go.Proofs.Ytnbhalhlodnmpaa.Pure
