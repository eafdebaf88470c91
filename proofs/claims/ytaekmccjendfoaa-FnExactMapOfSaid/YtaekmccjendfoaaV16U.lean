/- Typed values: places that an operation leaves alone. No condition. -/
import Derived.Test.YtaekmccjendfoaaV16J
namespace Go.PA
set_option linter.unusedVariables false
set_option linter.unusedSimpArgs false
def rowOf : AV → Option Nat
  | .ref r _ _ => some r
  | .rptr r _ _ => some r
  | _ => none
def boxOf : AV → Option Nat
  | .box b _ => some b
  | _ => none
theorem SameAt.of {h h' : Heap} {a : AV} (hr : ∀ r, rowOf a = some r → h'.rows r = h.rows r) (hb : ∀ b, boxOf a = some b → h'.boxes[b]? = h.boxes[b]?) : SameAt h h' a := by
  cases a <;> simp only [SameAt, rowOf, boxOf, Option.some.injEq, forall_eq'] at * <;> assumption
theorem SlotRel.shape2 {h : Heap} {Z : List Nat} {sl : VSlot} {a : AV} {N : List Nat} (H : SlotRel h Z sl a N) : a = .nils ∨ ∃ r off len, a = .ref r off len := by
  cases sl with
  | row r => rcases H with ⟨e, _⟩ | ⟨r, off, row, e, _⟩
             · exact .inl e
             · exact .inr ⟨_, _, _, e⟩
  | sp p r => rcases H with ⟨e, _⟩ | ⟨r, off, row, e, _⟩
              · exact .inl e
              · exact .inr ⟨_, _, _, e⟩
  | ho k fo r => obtain ⟨r, off, row, es, e, _⟩ := H; exact .inr ⟨_, _, _, e⟩
/-- What writes leaves all alone but the place where it writes. -/
theorem mut_frame {env : List AV} {h h' : Heap} {op : AOp} {r : AV} {x : Operand} (hw : wOp op = some x) (hd : adet env h op = some (r, h')) :
    (∀ r0, r0 < h.next → rowOf (aeval env x) ≠ some r0 → h'.rows r0 = h.rows r0) ∧ ∀ b, boxOf (aeval env x) ≠ some b → h'.boxes[b]? = h.boxes[b]? := by
  cases op <;> simp only [wOp, Option.some.injEq, reduceCtorEq] at hw <;> subst hw <;> simp only [adet] at hd
  case store sz x y =>
    split at hd
    · split at hd
      · generalize aeval env x = ax at hd ⊢
        cases ax <;> simp only [reduceCtorEq] at hd
        · rename_i b off
          split at hd
          · split at hd
            · simp only [Option.some.injEq, Prod.mk.injEq] at hd; obtain ⟨_, rfl⟩ := hd
              refine ⟨fun _ _ _ => rfl, fun b' hb => ?_⟩
              simp only [boxOf, ne_eq, Option.some.injEq] at hb
              exact List.getElem?_set_ne hb
            · cases hd
          · cases hd
        · rename_i rr idx off
          split at hd
          · split at hd
            · split at hd
              · simp only [Option.some.injEq, Prod.mk.injEq] at hd; obtain ⟨_, rfl⟩ := hd
                refine ⟨fun r0 _ hr => ?_, fun _ _ => rfl⟩
                simp only [rowOf, ne_eq, Option.some.injEq] at hr
                exact upd_ne _ _ _ _ (Ne.symm hr)
              · cases hd
            · cases hd
          · cases hd
      · cases hd
    · cases hd
  case app sz bytes x y =>
    split at hd
    · split at hd
      · generalize aeval env x = ax at hd ⊢
        cases ax <;> simp only [reduceCtorEq] at hd
        · split at hd
          · simp only [Option.some.injEq, Prod.mk.injEq] at hd; obtain ⟨_, rfl⟩ := hd
            exact ⟨fun _ _ _ => rfl, fun _ _ => rfl⟩
          · split at hd
            · simp only [Option.some.injEq, Prod.mk.injEq] at hd; obtain ⟨_, rfl⟩ := hd
              exact ⟨fun r0 h0 _ => upd_ne _ _ _ _ (Nat.ne_of_lt h0), fun _ _ => rfl⟩
            · cases hd
        · split at hd
          · split at hd
            · simp only [Option.some.injEq, Prod.mk.injEq] at hd; obtain ⟨_, rfl⟩ := hd
              refine ⟨fun r0 h0 hr => ?_, fun _ _ => rfl⟩
              simp only [rowOf, ne_eq, Option.some.injEq] at hr
              show upd _ h.next _ r0 = _
              rw [upd_ne _ _ _ _ (Nat.ne_of_lt h0), upd_ne _ _ _ _ (Ne.symm hr)]
            · cases hd
          · cases hd
      · cases hd
    · cases hd
  case apps x y => cases hd
  case cpy sz x y =>
    split at hd
    · split at hd
      · generalize aeval env x = ax at hd ⊢
        cases ax <;> simp only [reduceCtorEq] at hd
        · simp only [Option.some.injEq, Prod.mk.injEq] at hd; obtain ⟨_, rfl⟩ := hd
          exact ⟨fun _ _ _ => rfl, fun _ _ => rfl⟩
        · split at hd
          · split at hd
            · simp only [Option.some.injEq, Prod.mk.injEq] at hd; obtain ⟨_, rfl⟩ := hd
              refine ⟨fun r0 h0 hr => ?_, fun _ _ => rfl⟩
              simp only [rowOf, ne_eq, Option.some.injEq] at hr
              exact upd_ne _ _ _ _ (Ne.symm hr)
            · cases hd
          · cases hd
      · cases hd
    · cases hd

section
variable {B : Bg} {M : Mp} {env : List AV} {h : Heap} {s : VS}
theorem ofRow (S : SRel B M env h s) {u : TV} {a : AV} (H : TVR M h u a) : (∀ r, rowOf a = some r → (u.rt.1 = 2 ∧ r ∈ fp M u.rt.2) ∨ ((u.rt.1 = 2 ∨ u.rt.1 = 3) ∧ r ∈ M.Z) ∨ u.rt.1 = 4) ∧ (∀ b, boxOf a = some b → (u.rt.1 = 1 ∧ u.rt.2 < M.nb ∧ b = M.β u.rt.2) ∨ u.rt.1 = 4) := by
  have lit : ∀ {cs : List Ty} {xs : List (Ty.Ds cs)}, LitC h M.Z (.sl cs) xs a → (∀ r, rowOf a = some r → r ∈ M.Z) ∧ ∀ b, boxOf a ≠ some b := fun H => by
    simp only [LitC] at H
    rcases H with ⟨rfl, _⟩ | ⟨f, ys, rfl, _⟩ | ⟨r, off, row, rfl, hz, _⟩
    · exact ⟨fun r hr => by simp [rowOf] at hr, fun b hb => by simp [boxOf] at hb⟩
    · exact ⟨fun r hr => by simp [rowOf] at hr, fun b hb => by simp [boxOf] at hb⟩
    · exact ⟨fun r' hr => by simp only [rowOf, Option.some.injEq] at hr; subst hr; exact hz, fun b hb => by simp [boxOf] at hb⟩
  cases u with
  | bad => exact ⟨fun _ _ => .inr (.inr rfl), fun _ _ => .inr rfl⟩
  | gd => simp only [TVR] at H
  | nil => simp only [TVR] at H; subst H; exact ⟨fun r hr => by simp [rowOf] at hr, fun b hb => by simp [boxOf] at hb⟩
  | int => simp only [TVR] at H; subst H; exact ⟨fun r hr => by simp [rowOf] at hr, fun b hb => by simp [boxOf] at hb⟩
  | bool => simp only [TVR] at H; subst H; exact ⟨fun r hr => by simp [rowOf] at hr, fun b hb => by simp [boxOf] at hb⟩
  | str => simp only [TVR] at H; subst H; exact ⟨fun r hr => by simp [rowOf] at hr, fun b hb => by simp [boxOf] at hb⟩
  | lst cs xs =>
    simp only [TVR] at H
    obtain ⟨h1, h2⟩ := lit H
    exact ⟨fun r hr => .inr (.inl ⟨.inr rfl, h1 r hr⟩), fun b hb => absurd hb (h2 b)⟩
  | ref i =>
    simp only [TVR] at H
    obtain ⟨hl, rfl⟩ := H
    rw [S.lv i] at hl
    obtain ⟨sl, hsl⟩ := Option.isSome_iff_exists.1 hl
    rcases (S.slot i sl hsl).shape2 with e | ⟨r0, off, len, e⟩
    · rw [e]; exact ⟨fun r hr => by simp [rowOf] at hr, fun b hb => by simp [boxOf] at hb⟩
    · refine ⟨fun r hr => .inl ⟨rfl, ?_⟩, fun b hb => by rw [e] at hb; simp [boxOf] at hb⟩
      rw [e] at hr
      simp only [rowOf, Option.some.injEq] at hr; subst hr
      show _ ∈ fp M i
      rw [fp, e]; simp [rid]
  | sub i lo hi =>
    simp only [TVR] at H
    obtain ⟨_, _, _, ⟨r0, off, len, e, _, h4⟩ | ⟨e, _, _, rfl⟩⟩ := H
    · rcases h4 with ⟨rfl, _⟩ | ⟨_, _, f, rfl⟩
      · refine ⟨fun r hr => .inl ⟨rfl, ?_⟩, fun b hb => by simp [boxOf] at hb⟩
        simp only [rowOf, Option.some.injEq] at hr; subst hr
        show _ ∈ fp M i
        rw [fp, e]; simp [rid]
      · exact ⟨fun r hr => by simp [rowOf] at hr, fun b hb => by simp [boxOf] at hb⟩
    · exact ⟨fun r hr => by simp [rowOf] at hr, fun b hb => by simp [boxOf] at hb⟩
  | vw i o cs xs =>
    simp only [TVR] at H
    obtain ⟨_, ⟨F, hF, HO⟩, _⟩ := H
    simp only [OwnC] at HO
    rcases HO with ⟨rfl, _⟩ | ⟨_, HO, _⟩ | ⟨_, r0, off, row, N, rfl, _, _, _, _, hF2⟩
    · exact ⟨fun r hr => by simp [rowOf] at hr, fun b hb => by simp [boxOf] at hb⟩
    · obtain ⟨h1, h2⟩ := lit HO
      exact ⟨fun r hr => .inr (.inl ⟨.inl rfl, h1 r hr⟩), fun b hb => absurd hb (h2 b)⟩
    · refine ⟨fun r hr => .inl ⟨rfl, ?_⟩, fun b hb => by simp [boxOf] at hb⟩
      simp only [rowOf, Option.some.injEq] at hr; subst hr
      exact List.mem_append_right _ (hF _ (by rw [hF2]; exact List.mem_cons_self))
  | st l => simp only [TVR] at H; obtain ⟨as, rfl, _⟩ := H; exact ⟨fun r hr => by simp [rowOf] at hr, fun b hb => by simp [boxOf] at hb⟩
  | tup l => simp only [TVR] at H; obtain ⟨as, rfl, _⟩ := H; exact ⟨fun r hr => by simp [rowOf] at hr, fun b hb => by simp [boxOf] at hb⟩
  | box b off =>
    simp only [TVR] at H
    obtain ⟨h1, rfl⟩ := H
    exact ⟨fun r hr => by simp [rowOf] at hr, fun b' hb => by simp only [boxOf, Option.some.injEq] at hb; subst hb; exact .inl ⟨rfl, h1, rfl⟩⟩
  | rptr i idx off =>
    simp only [TVR] at H
    obtain ⟨_, r0, o, len, e, _, _, rfl⟩ := H
    refine ⟨fun r hr => .inl ⟨rfl, ?_⟩, fun b hb => by simp [boxOf] at hb⟩
    simp only [rowOf, Option.some.injEq] at hr; subst hr
    show _ ∈ fp M i
    rw [fp, e]; simp [rid]
  | lptr l =>
    simp only [TVR] at H
    obtain ⟨as, _, rfl | ⟨r0, idx, off, row, es, rfl, hz, _⟩⟩ := H
    · exact ⟨fun r hr => by simp [rowOf] at hr, fun b hb => by simp [boxOf] at hb⟩
    · exact ⟨fun r hr => by simp only [rowOf, Option.some.injEq] at hr; subst hr; exact .inr (.inl ⟨.inr rfl, hz⟩), fun b hb => by simp [boxOf] at hb⟩
  | vptr i l =>
    simp only [TVR] at H
    obtain ⟨_, as, _, rfl | ⟨r0, idx, off, row, es, rfl, hz, _⟩⟩ := H
    · exact ⟨fun r hr => by simp [rowOf] at hr, fun b hb => by simp [boxOf] at hb⟩
    · refine ⟨fun r hr => ?_, fun b hb => by simp [boxOf] at hb⟩
      simp only [rowOf, Option.some.injEq] at hr; subst hr
      rcases hz with hz | hz
      · exact .inl ⟨rfl, List.mem_append_right _ hz⟩
      · exact .inr (.inl ⟨.inl rfl, hz⟩)
  | fn f caps => simp only [TVR] at H; obtain ⟨as, rfl, _⟩ := H; exact ⟨fun r hr => by simp [rowOf] at hr, fun b hb => by simp [boxOf] at hb⟩

theorem ofW (S : SRel B M env h s) {u : TV} {a : AV} (H : TVR M h u a) (h4 : u.wt.1 ≠ 4) : (∀ r, rowOf a = some r → u.wt.1 = 2 ∧ r ∈ fp M u.wt.2) ∧ (∀ b, boxOf a = some b → u.wt.1 = 1 ∧ u.wt.2 < M.nb ∧ b = M.β u.wt.2) := by
  obtain ⟨g1, g2⟩ := ofRow S H
  cases u with
  | nil => simp only [TVR] at H; subst H; exact ⟨fun r hr => by simp [rowOf] at hr, fun b hb => by simp [boxOf] at hb⟩
  | ref i =>
    simp only [TVR] at H
    obtain ⟨hl, rfl⟩ := H
    rw [S.lv i] at hl
    obtain ⟨sl, hsl⟩ := Option.isSome_iff_exists.1 hl
    rcases (S.slot i sl hsl).shape2 with e | ⟨r0, off, len, e⟩
    · rw [e]; exact ⟨fun r hr => by simp [rowOf] at hr, fun b hb => by simp [boxOf] at hb⟩
    · refine ⟨fun r hr => ⟨rfl, ?_⟩, fun b hb => by rw [e] at hb; simp [boxOf] at hb⟩
      rw [e] at hr
      simp only [rowOf, Option.some.injEq] at hr; subst hr
      show _ ∈ fp M i
      rw [fp, e]; simp [rid]
  | sub i lo hi =>
    simp only [TVR] at H
    obtain ⟨_, _, _, ⟨r0, off, len, e, _, h4⟩ | ⟨e, _, _, rfl⟩⟩ := H
    · rcases h4 with ⟨rfl, _⟩ | ⟨_, _, f, rfl⟩
      · refine ⟨fun r hr => ⟨rfl, ?_⟩, fun b hb => by simp [boxOf] at hb⟩
        simp only [rowOf, Option.some.injEq] at hr; subst hr
        show _ ∈ fp M i
        rw [fp, e]; simp [rid]
      · exact ⟨fun r hr => by simp [rowOf] at hr, fun b hb => by simp [boxOf] at hb⟩
    · exact ⟨fun r hr => by simp [rowOf] at hr, fun b hb => by simp [boxOf] at hb⟩
  | box b off =>
    simp only [TVR] at H
    obtain ⟨h1, rfl⟩ := H
    exact ⟨fun r hr => by simp [rowOf] at hr, fun b' hb => by simp only [boxOf, Option.some.injEq] at hb; subst hb; exact ⟨rfl, h1, rfl⟩⟩
  | rptr i idx off =>
    simp only [TVR] at H
    obtain ⟨_, r0, o, len, e, _, _, rfl⟩ := H
    refine ⟨fun r hr => ⟨rfl, ?_⟩, fun b hb => by simp [boxOf] at hb⟩
    simp only [rowOf, Option.some.injEq] at hr; subst hr
    show _ ∈ fp M i
    rw [fp, e]; simp [rid]
  | _ => exact absurd rfl h4
theorem quietB_heap {env : List AV} {h h' : Heap} {op : AOp} {r : AV} (hq : quietB op = true) (hd : adet env h op = some (r, h')) : h' = h := by
  cases op <;> first | exact (adet_ext (HExt.refl h) rfl hd).1 | (cases hq; done) | (cases hd; done)
theorem us_frame (S : SRel B M env h s) {u : TV} {a : AV} (H : TVR M h u a) (h4 : u.rt.1 ≠ 4) {h' : Heap} (hr : u.rt.1 = 2 → ∀ x ∈ fp M u.rt.2, h'.rows x = h.rows x) (hz : ∀ x ∈ M.Z, h'.rows x = h.rows x) (hb : u.rt.1 = 1 → h'.boxes[M.β u.rt.2]? = h.boxes[M.β u.rt.2]?) : SameAt h h' a := by
  obtain ⟨g1, g2⟩ := ofRow S H
  refine .of (fun r e => ?_) fun b e => ?_
  · rcases g1 r e with ⟨k1, k2⟩ | ⟨_, k2⟩ | k
    · exact hr k1 r k2
    · exact hz r k2
    · exact absurd k h4
  · rcases g2 b e with ⟨k1, _, rfl⟩ | k
    · exact hb k1
    · exact absurd k h4
theorem usBox_ok (S : SRel B M env h s) {bs : List Nat} {us : List Tmp} (hu : usBox s bs us = true) (hbs : ∀ b ∈ bs, b < M.nb) {C : List Nat} {h' : Heap} (D : Fr h C (bs.map M.β) h') (hC : ∀ x ∈ C, (∀ j, x ∉ fp M j) ∧ x ∉ M.Z) : ∀ t ∈ us, SameAt h h' (env.getD t .bad) := fun t ht => by
  have hu := List.all_eq_true.1 hu t ht
  have H := S.ev (g := none) trivial (.tmp t)
  have H : TVR M h ((s.get t).under s none) (env.getD t .bad) := H
  have e : (s.get t).under s none = s.get t ∧ (s.get t).rt.1 ≠ 4 := by
    cases hv : s.get t <;> rw [hv] at hu <;> first | (simp [TV.rt] at hu; done) | exact ⟨rfl, by simp [TV.rt]⟩
  rw [e.1] at H
  refine us_frame S H e.2 (fun _ x hx => D.rows x (S.lt _ x hx) fun hc => (hC x hc).1 _ hx) (fun x hx => D.rows x (S.zlt x hx) fun hc => (hC x hc).2 hx) fun h1 => ?_
  cases hv : s.get t <;> rw [hv] at h1 H hu <;> simp only [TV.rt, reduceCtorEq, Nat.reduceEqDiff] at h1
  rename_i b off
  simp only [TVR] at H
  show h'.boxes[M.β b]? = h.boxes[M.β b]?
  refine D.boxes _ (S.bown b H.1).2 fun hm => ?_
  obtain ⟨b', hb', e⟩ := List.mem_map.1 hm
  have := S.binj b' b (hbs b' hb') H.1 e
  subst this
  have := List.all_eq_true.1 hu b' hb'
  simp at this
theorem usDet_ok (S : SRel B M env h s) {op : AOp} {us : List Tmp} (hu : usDet s op us = true) {r : AV} {h' : Heap} (hd : adet env h op = some (r, h')) : ∀ t ∈ us, SameAt h h' (env.getD t .bad) := fun t ht => by
  unfold usDet at hu
  split at hu
  · rename_i x hx
    have hu := List.all_eq_true.1 hu t ht
    simp only [sepN, Bool.and_eq_true, bne_iff_ne, ne_eq, Bool.or_eq_true, beq_iff_eq, Bool.not_eq_true', Bool.and_eq_false_iff, beq_eq_false_iff_ne] at hu
    obtain ⟨⟨u4, w4⟩, hu⟩ := hu
    obtain ⟨f1, f2⟩ := mut_frame hx hd
    have H : TVR M h ((s.get t).under s none) (env.getD t .bad) := S.ev (g := none) trivial (.tmp t)
    have e : (s.get t).under s none = s.get t := by
      cases hv : s.get t <;> rw [hv] at u4 <;> first | rfl | (simp [TV.rt] at u4; done)
    rw [e] at H
    have HX := S.ev (g := none) trivial x
    obtain ⟨g1, g2⟩ := ofRow S HX
    obtain ⟨g1, g2⟩ := ofW S HX w4
    refine us_frame S H u4 (fun h2 y hy => f1 y (S.lt _ y hy) fun e => ?_) (fun y hy => f1 y (S.zlt y hy) fun e => ?_) fun h1 => ?_
    · obtain ⟨k1, k2⟩ := g1 y e
      have := S.dj _ _ y hy k2
      rcases hu with (hu | hu) | hu | hu
      · omega
      · omega
      · omega
      · exact hu this
    · obtain ⟨k1, k2⟩ := g1 y e
      exact S.zdj y hy _ k2
    · refine f2 _ fun e => ?_
      obtain ⟨k1, k2, k3⟩ := g2 _ e
      have hlt : (s.get t).rt.2 < M.nb := by
        cases hv : s.get t <;> rw [hv] at h1 H <;> simp only [TV.rt, reduceCtorEq, Nat.reduceEqDiff] at h1
        simp only [TVR] at H
        exact H.1
      have := S.binj _ _ hlt k2 k3
      rcases hu with (hu | hu) | hu | hu
      · omega
      · omega
      · omega
      · exact hu this
  · rename_i hx
    simp only [Bool.or_eq_true, List.isEmpty_iff] at hu
    rcases hu with hu | hu
    · subst hu; simp at ht
    · rw [quietB_heap hu hd]; exact SameAt.refl _ _
end
end Go.PA
