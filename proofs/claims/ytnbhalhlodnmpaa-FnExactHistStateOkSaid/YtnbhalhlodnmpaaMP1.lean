/- Map laws: sizes, copies, equality. No condition. -/
import Derived.Test.YtnbhalhlodnmpaaMG1
import Derived.Test.YtnbhalhlodnmpaaVL
namespace Go.Proofs.Ytnbhalhlodnmpaa.MG
open Go.PA
theorem getD_get {α : Type} {a : List α} {k : Nat} (h : k < a.length) {z : α} : a.getD k z = a[k] := by simp [List.getD, h]
set_option linter.unusedSimpArgs false
set_option linter.unusedVariables false

theorem G113_some (a : List (Int × Unit)) (left : Int) : ∃ s, G113 a left = some (s, ()) := by
  rw [G113_eq]; unfold br; split <;> exact ⟨_, rfl⟩
theorem G83_some (a : List DMapView) (left : Int) : ∃ s, G83 a left = some (s, ()) := by
  rw [G83_eq]; unfold br; split <;> exact ⟨_, rfl⟩
theorem G84_some (a : List DMapDone) (left : Int) : ∃ s, G84 a left = some (s, ()) := by
  rw [G84_eq]; unfold br; split <;> exact ⟨_, rfl⟩
theorem G100_some (a0 a1 a2 a3 a4 a5 : Int) (a6 : List (Int × Unit)) (left : Int) : ∃ s, G100 a0 a1 a2 a3 a4 a5 a6 left = some (s, ()) := by
  rw [G100_eq]
  obtain ⟨s, hs⟩ := G113_some a6 left
  rw [hs]
  simp only [Option.bind_some]
  unfold br; split <;> exact ⟨_, rfl⟩
theorem lg75_some (a : List DMapDisk) (ha : a.length < 9223372036854775807) : ∀ left : Int, ∃ o, lg75_0 a left (0 : Int) = some o := by
  refine up (N := a.length) (P := fun k => ∀ left : Int, ∃ o, lg75_0 a left (k : Int) = some o) ?_ ?_
  · intro left
    rw [lg75_0_eq]
    simp (disch := omega) only [br_neg]
    exact ⟨_, rfl⟩
  · intro k hk ih left
    rw [lg75_0_eq]
    simp (disch := omega) only [br_pos, chk_pos, wrapS]
    obtain ⟨s, hs⟩ := G100_some _ _ _ _ _ _ _ _
    rw [hs]
    simp only [Option.bind_some]
    unfold br
    split
    · exact ⟨_, rfl⟩
    · exact ih _
theorem G75_some (a : List DMapDisk) (left : Int) (ha : a.length < 9223372036854775807) : ∃ s, G75 a left = some (s, ()) := by
  rw [G75_eq]
  unfold br
  split
  · exact ⟨_, rfl⟩
  · obtain ⟨o, ho⟩ := lg75_some a ha (IntKind.i64.wrap (left - ((a.length : Nat) : Int)))
    rw [ho]
    match o with
    | .inl y => exact ⟨_, rfl⟩
    | .inr (.inl y) => exact ⟨_, rfl⟩
theorem G40_some (a0 a1 a2 : Int) (a3 : List DMapDisk) (a4 : List DMapView) (a5 : List DMapDone) (left : Int) (ha : a3.length < 9223372036854775807) : ∃ s, G40 a0 a1 a2 a3 a4 a5 left = some (s, ()) := by
  rw [G40_eq]
  obtain ⟨s, hs⟩ := G75_some a3 left ha
  rw [hs]
  simp only [Option.bind_some]
  unfold br
  split
  · exact ⟨_, rfl⟩
  · obtain ⟨s, hs⟩ := G83_some a4 s
    rw [hs]
    simp only [Option.bind_some]
    split
    · exact ⟨_, rfl⟩
    · obtain ⟨s, hs⟩ := G84_some a5 s
      rw [hs]
      simp only [Option.bind_some]
      split <;> exact ⟨_, rfl⟩

theorem lg19_copy (a : List (Int × Unit)) (ha : a.length < 9223372036854775807) (r : List (Int × Unit)) (hr : r.length = a.length) : lg19_0 a (0 : Int) r = some (.inl (a, ())) := by
  refine laid (f := fun k r => lg19_0 a (k : Int) r) ?_ ?_ r hr
  · show _ = _
    rw [lg19_0_eq]
    simp (disch := omega) only [br_neg]
  · intro k hk r hr
    show lg19_0 _ _ _ = lg19_0 _ _ _
    rw [lg19_0_eq]
    simp (disch := omega) only [br_pos, chk_pos, wrapS, toNat_coe]
    rw [getD_get hk]
theorem G19_copy (a : List (Int × Unit)) (ha : a.length * 8 ≤ 140737488351232) : G19 a = some (a, ()) := by
  rw [G19_eq]
  simp (disch := omega) only [chk_pos, toNat_coe]
  rw [lg19_copy a (by omega) _ (by simp)]
  rfl
theorem G103_copy (a0 a1 a2 a3 a4 a5 : Int) (a6 : List (Int × Unit)) (ha : a6.length * 8 ≤ 140737488351232) : G103 a0 a1 a2 a3 a4 a5 a6 = some (a0, a1, a2, a3, a4, a5, a6, ()) := by
  rw [G103_eq, G19_copy _ ha]
  rfl
/-- A disk that fits. -/
def DiskFit (e : DMapDisk) : Prop := Fits MapDisk e
theorem DiskFit.list {e : DMapDisk} (h : DiskFit e) : e.2.2.2.2.2.2.1.length * 8 ≤ 140737488351232 := by
  unfold DiskFit at h
  simp only [MapDisk, I, Fits, Fit] at h
  exact h.2.2.2.2.2.2.1.1
theorem lg79_copy (a : List DMapDisk) (hf : ∀ x, x ∈ a → DiskFit x) (ha : a.length < 9223372036854775807) (r : List DMapDisk) (hr : r.length = a.length) : lg79_0 a (0 : Int) r = some (.inl (a, ())) := by
  refine laid (f := fun k r => lg79_0 a (k : Int) r) ?_ ?_ r hr
  · show _ = _
    rw [lg79_0_eq]
    simp (disch := omega) only [br_neg]
  · intro k hk r hr
    show lg79_0 _ _ _ = lg79_0 _ _ _
    rw [lg79_0_eq]
    simp (disch := omega) only [br_pos, chk_pos, wrapS, toNat_coe]
    rw [getD_get hk]
    have := (hf a[k] (List.getElem_mem hk)).list
    rw [G103_copy _ _ _ _ _ _ _ this]
    simp (disch := omega) only [Option.bind_some, chk_pos]
theorem G79_copy (a : List DMapDisk) (hf : ∀ x, x ∈ a → DiskFit x) (ha : a.length * 72 ≤ 140737488351232) : G79 a = some (a, ()) := by
  rw [G79_eq]
  simp (disch := omega) only [chk_pos, toNat_coe]
  rw [lg79_copy a hf (by omega) _ (by simp)]
  rfl
theorem lg85_copy (a : List DMapView) (ha : a.length < 9223372036854775807) (r : List DMapView) (hr : r.length = a.length) : lg85_0 a (0 : Int) r = some (.inl (a, ())) := by
  refine laid (f := fun k r => lg85_0 a (k : Int) r) ?_ ?_ r hr
  · show _ = _
    rw [lg85_0_eq]
    simp (disch := omega) only [br_neg]
  · intro k hk r hr
    show lg85_0 _ _ _ = lg85_0 _ _ _
    rw [lg85_0_eq]
    simp (disch := omega) only [br_pos, chk_pos, wrapS, toNat_coe]
    rw [getD_get hk]
    rfl
theorem G85_copy (a : List DMapView) (ha : a.length * 24 ≤ 140737488351232) : G85 a = some (a, ()) := by
  rw [G85_eq]
  simp (disch := omega) only [chk_pos, toNat_coe]
  rw [lg85_copy a (by omega) _ (by simp)]
  rfl
theorem lg86_copy (a : List DMapDone) (ha : a.length < 9223372036854775807) (r : List DMapDone) (hr : r.length = a.length) : lg86_0 a (0 : Int) r = some (.inl (a, ())) := by
  refine laid (f := fun k r => lg86_0 a (k : Int) r) ?_ ?_ r hr
  · show _ = _
    rw [lg86_0_eq]
    simp (disch := omega) only [br_neg]
  · intro k hk r hr
    show lg86_0 _ _ _ = lg86_0 _ _ _
    rw [lg86_0_eq]
    simp (disch := omega) only [br_pos, chk_pos, wrapS, toNat_coe]
    rw [getD_get hk]
    rfl
theorem G86_copy (a : List DMapDone) (ha : a.length * 32 ≤ 140737488351232) : G86 a = some (a, ()) := by
  rw [G86_eq]
  simp (disch := omega) only [chk_pos, toNat_coe]
  rw [lg86_copy a (by omega) _ (by simp)]
  rfl
/-- A map state that fits. -/
structure MFit (a0 a1 a2 : Int) (a3 : List DMapDisk) (a4 : List DMapView) (a5 : List DMapDone) : Prop where
  disk : ∀ x, x ∈ a3 → DiskFit x
  l3 : a3.length * 72 ≤ 140737488351232
  l4 : a4.length * 24 ≤ 140737488351232
  l5 : a5.length * 32 ≤ 140737488351232
  i1 : inK .i64 a1
  i2 : inK .i64 a2
theorem MFit.of {a0 a1 a2 : Int} {a3 : List DMapDisk} {a4 : List DMapView} {a5 : List DMapDone} (h : Fits MapState (a0, a1, a2, a3, a4, a5, ())) : MFit a0 a1 a2 a3 a4 a5 := by
  simp only [MapState, I, Fits, Fit] at h
  exact ⟨h.2.2.2.1.2, h.2.2.2.1.1, h.2.2.2.2.1.1, h.2.2.2.2.2.1.1, h.2.1, h.2.2.1⟩
theorem G42_copy {a0 a1 a2 : Int} {a3 : List DMapDisk} {a4 : List DMapView} {a5 : List DMapDone} (h : MFit a0 a1 a2 a3 a4 a5) : G42 a0 a1 a2 a3 a4 a5 = some (a0, a1, a2, a3, a4, a5, ()) := by
  rw [G42_eq, G79_copy _ h.disk h.l3]
  simp only [Option.bind_some]
  rw [G85_copy _ h.l4]
  simp only [Option.bind_some]
  rw [G86_copy _ h.l5]
  rfl

theorem lg22_same (a : List (Int × Unit)) (ha : a.length < 9223372036854775807) : lg22_0 a a (0 : Int) = some (.inl ()) := by
  refine up (N := a.length) (P := fun k => lg22_0 a a (k : Int) = some (.inl ())) ?_ ?_
  · rw [lg22_0_eq]
    simp (disch := omega) only [br_neg]
  · intro k hk ih
    rw [lg22_0_eq]
    simp (disch := omega) only [br_pos, chk_pos, wrapS, bne_self_eq_false, br_false]
    exact ih
theorem G22_same (a : List (Int × Unit)) (ha : a.length < 9223372036854775807) : G22 a a = some (true, ()) := by
  rw [G22_eq, lg22_same a ha]
  simp only [bne_self_eq_false, br_false]
  rfl
theorem G92_same (a0 a1 a2 a3 a4 a5 : Int) (a6 : List (Int × Unit)) (ha : a6.length < 9223372036854775807) : G92 a0 a1 a2 a3 a4 a5 a6 a0 a1 a2 a3 a4 a5 a6 = some (true, ()) := by
  rw [G92_eq, G22_same _ ha]
  simp only [bne_self_eq_false, br_false, Option.bind_some, Bool.not_true]
theorem lg62_same (a : List DMapDisk) (hf : ∀ x, x ∈ a → DiskFit x) (ha : a.length < 9223372036854775807) : lg62_0 a a (0 : Int) = some (.inl ()) := by
  refine up (N := a.length) (P := fun k => lg62_0 a a (k : Int) = some (.inl ())) ?_ ?_
  · rw [lg62_0_eq]
    simp (disch := omega) only [br_neg]
  · intro k hk ih
    rw [lg62_0_eq]
    simp (disch := omega) only [br_pos, chk_pos, wrapS, toNat_coe]
    rw [getD_get hk]
    have := (hf a[k] (List.getElem_mem hk)).list
    rw [G92_same _ _ _ _ _ _ _ (by omega)]
    simp only [Option.bind_some, Bool.not_true, br_false]
    exact ih
theorem G62_same (a : List DMapDisk) (hf : ∀ x, x ∈ a → DiskFit x) (ha : a.length < 9223372036854775807) : G62 a a = some (true, ()) := by
  rw [G62_eq, lg62_same a hf ha]
  simp only [bne_self_eq_false, br_false]
  rfl
theorem G98_same (a0 a1 a2 : Int) : G98 a0 a1 a2 a0 a1 a2 = some (true, ()) := by
  rw [G98_eq]
  simp only [bne_self_eq_false, br_false, Option.bind_some, Bool.not_true]
theorem G99_same (a0 a1 a2 a3 : Int) : G99 a0 a1 a2 a3 a0 a1 a2 a3 = some (true, ()) := by
  rw [G99_eq]
  simp only [bne_self_eq_false, br_false, Option.bind_some, Bool.not_true]
theorem lg69_same (a : List DMapView) (ha : a.length < 9223372036854775807) : lg69_0 a a (0 : Int) = some (.inl ()) := by
  refine up (N := a.length) (P := fun k => lg69_0 a a (k : Int) = some (.inl ())) ?_ ?_
  · rw [lg69_0_eq]
    simp (disch := omega) only [br_neg]
  · intro k hk ih
    rw [lg69_0_eq]
    simp (disch := omega) only [br_pos, chk_pos, wrapS, toNat_coe]
    rw [G98_same]
    simp only [Option.bind_some, Bool.not_true, br_false]
    exact ih
theorem G69_same (a : List DMapView) (ha : a.length < 9223372036854775807) : G69 a a = some (true, ()) := by
  rw [G69_eq, lg69_same a ha]
  simp only [bne_self_eq_false, br_false]
  rfl
theorem lg70_same (a : List DMapDone) (ha : a.length < 9223372036854775807) : lg70_0 a a (0 : Int) = some (.inl ()) := by
  refine up (N := a.length) (P := fun k => lg70_0 a a (k : Int) = some (.inl ())) ?_ ?_
  · rw [lg70_0_eq]
    simp (disch := omega) only [br_neg]
  · intro k hk ih
    rw [lg70_0_eq]
    simp (disch := omega) only [br_pos, chk_pos, wrapS, toNat_coe]
    rw [G99_same]
    simp only [Option.bind_some, Bool.not_true, br_false]
    exact ih
theorem G70_same (a : List DMapDone) (ha : a.length < 9223372036854775807) : G70 a a = some (true, ()) := by
  rw [G70_eq, lg70_same a ha]
  simp only [bne_self_eq_false, br_false]
  rfl
theorem G33_same {a0 a1 a2 : Int} {a3 : List DMapDisk} {a4 : List DMapView} {a5 : List DMapDone} (h : MFit a0 a1 a2 a3 a4 a5) : G33 a0 a1 a2 a3 a4 a5 a0 a1 a2 a3 a4 a5 = some (true, ()) := by
  have := h.l3; have := h.l4; have := h.l5
  rw [G33_eq, G62_same _ h.disk (by omega), G69_same _ (by omega), G70_same _ (by omega)]
  simp only [bne_self_eq_false, br_false, Option.bind_some, Bool.not_true]
end Go.Proofs.Ytnbhalhlodnmpaa.MG
