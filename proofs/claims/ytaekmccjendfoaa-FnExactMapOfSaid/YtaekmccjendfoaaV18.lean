/- Typed values: a state brought to where a loop's word begins. No condition. -/
import Derived.Test.YtaekmccjendfoaaV17
namespace Go.PA
set_option linter.unusedVariables false

def Mp.cut (M : Mp) (k : Skel) : Mp := { α := fun i => if (k.rows.getD i none).isSome then M.α i else .nils, N := fun i => if (k.rows.getD i none).isSome then M.N i else [], lv := fun i => (k.rows.getD i none).isSome, β := M.β, nb := k.boxes.length, Z := M.Z }

section
variable {B : Bg} {M : Mp} {env0 : List AV} {h : Heap} {s : VS} {k : Skel}

def Wk (M M2 : Mp) (h : Heap) (x v : TV) : Prop := ∀ (env : List AV) a, EVR M h env x a → TVR M2 h v a
theorem Wk.all {l l' : List TV} {M2 : Mp} {as : List AV} (H : All2 (Wk M M2 h) l l') (HT : TVRs M h l as) : TVRs M2 h l' as := by
  refine TVRs.iff.2 (.of_get (by rw [← H.len, HT.len]) fun i v a h1 h2 => ?_)
  have hi : i < l.length := by rw [H.len]; exact (List.getElem?_eq_some_iff.1 h1).1
  have h3 := List.getElem?_eq_getElem hi
  exact H.get i _ _ h3 h1 [] a (.of (HT.get h3 h2))

theorem onlyIf_ok {α : Type} {b : Bool} {x y : α} (h : onlyIf b x = some y) : b = true ∧ x = y := by
  cases b with
  | true => exact ⟨rfl, Option.some.inj h⟩
  | false => cases h
theorem capT_ok {nb : Nat} (hnb : nb = k.boxes.length) : ∀ (l : List (Nat × Nat)) {vs : List TV} {as : List AV}, capB l vs = true → capWf nb l = true → TVRs M h vs as → TVRs (M.cut k) h (capT l) as
  | [], [], as, hb, hw, H => by simp only [TVRs, capT] at *; exact H
  | [], _ :: _, as, hb, hw, H => by simp only [capB, Bool.false_eq_true] at hb
  | (b, o) :: l, [], as, hb, hw, H => by simp only [capB, Bool.false_eq_true] at hb
  | (b, o) :: l, v :: vs, [], hb, hw, H => by simp only [TVRs] at H
  | (b, o) :: l, v :: vs, a :: as, hb, hw, H => by
    cases v <;> simp only [capB, Bool.false_eq_true] at hb
    simp only [Bool.and_eq_true, beq_iff_eq] at hb
    obtain ⟨⟨rfl, rfl⟩, hb⟩ := hb
    simp only [capWf, Bool.and_eq_true] at hw
    simp only [TVRs, TVR] at H
    simp only [capT, TVRs, TVR]
    refine ⟨⟨?_, H.1.2⟩, capT_ok hnb l hb hw.2 H.2⟩
    have := hw.1
    simp only [Nat.blt_eq] at this
    show b < k.boxes.length
    omega

theorem ext_fill (S : SRel B M env0 h s) {nb : Nat} (hnb : nb = k.boxes.length) {rest : List Ty} {d : Ty.Ds rest} : ∀ (v : SV) {x : TV} {D : Ty.Ds (v.lv rest)}, SV.ext s rest d v x = some D → v.wf nb k.rows = true → (SV.fill rest v D).2 = d ∧ Wk M (M.cut k) h x (SV.fill rest v D).1 := by
  intro v x D he hw
  cases v with
  | int q =>
    have he : extInt rest d q x = some D := he
    unfold extInt at he
    split at he
    · split at he
      · rename_i hq
        have := Option.some.inj he
        subst this; subst hq
        exact ⟨rfl, fun env a H => by simpa only [EVR, TVR, SV.fill] using H⟩
      · cases he
    · cases he
  | bool =>
    have he : extBool rest d x = some D := he
    unfold extBool at he
    split at he
    · have := Option.some.inj he
      subst this
      exact ⟨rfl, fun env a H => by simpa only [EVR, TVR, SV.fill] using H⟩
    · cases he
  | str =>
    have he : extStr rest d x = some D := he
    unfold extStr at he
    split at he
    · have := Option.some.inj he
      subst this
      exact ⟨rfl, fun env a H => by simpa only [EVR, TVR, SV.fill] using H⟩
    · cases he
  | lst cs =>
    have he : extLst rest d cs x = some D := he
    unfold extLst at he
    split at he
    · split at he
      · rename_i ys hc
        have := Option.some.inj he
        subst this
        obtain ⟨e, rfl⟩ := castL_ok hc
        subst e
        exact ⟨rfl, fun env a H => by simp only [EVR, TVR] at H; simp only [SV.fill, TVR]; exact H⟩
      · cases he
    · have := Option.some.inj he
      subst this
      refine ⟨rfl, fun env a H => ?_⟩
      simp only [EVR, TVR] at H
      subst H
      simp only [SV.fill, TVR]
      exact LitC.nils rfl
    · cases he
  | vw i cs =>
    have he : extVw rest d i cs x = some D := he
    unfold extVw at he
    split at he
    · split at he
      · rename_i hij
        split at he
        · rename_i ys hc
          have := Option.some.inj he
          subst this
          obtain ⟨e, rfl⟩ := castL_ok hc
          subst e; subst hij
          refine ⟨rfl, fun env a H => ?_⟩
          simp only [SV.wf] at hw
          simp only [EVR, TVR] at H
          simp only [SV.fill, TVR, Mp.cut, hw, if_true]
          exact ⟨trivial, H.2.1, fun k off e => by cases e⟩
        · cases he
      · cases he
    · cases he
  | rptr i off =>
    have he : extRptr rest d i off x = some D := he
    unfold extRptr at he
    split at he
    · split at he
      · rename_i hij
        have := Option.some.inj he
        subst this
        obtain ⟨rfl, rfl⟩ := hij
        refine ⟨rfl, fun env a H => ?_⟩
        simp only [SV.wf] at hw
        simp only [EVR, TVR] at H
        simp only [SV.fill, TVR, Mp.cut, hw, if_true]
        exact ⟨trivial, H.2⟩
      · cases he
    · cases he
  | fn f l =>
    have he : onlyIf (extFn f l x) d = some D := he
    obtain ⟨hb, rfl⟩ := onlyIf_ok he
    unfold extFn at hb
    split at hb
    · simp only [Bool.and_eq_true, beq_iff_eq] at hb
      obtain ⟨rfl, hb⟩ := hb
      refine ⟨rfl, fun env a H => ?_⟩
      simp only [SV.wf] at hw
      simp only [EVR, TVR] at H
      obtain ⟨as, e, H⟩ := H
      simp only [SV.fill, TVR]
      exact ⟨as, e, capT_ok hnb l hb hw H⟩
    · cases hb
  | bad =>
    have he : some d = some D := he
    have := Option.some.inj he
    subst this
    exact ⟨rfl, fun env a H => by simp only [SV.fill, TVR]⟩
  | nil =>
    have he : onlyIf (extNil x) d = some D := he
    obtain ⟨hb, rfl⟩ := onlyIf_ok he
    unfold extNil at hb
    split at hb
    · exact ⟨rfl, fun env a H => by simpa only [EVR, TVR, SV.fill] using H⟩
    · cases hb
  | ref i =>
    have he : onlyIf (extRef s i x) d = some D := he
    obtain ⟨hb, rfl⟩ := onlyIf_ok he
    simp only [SV.wf] at hw
    unfold extRef at hb
    split at hb
    · simp only [beq_iff_eq] at hb
      subst hb
      refine ⟨rfl, fun env a H => ?_⟩
      simp only [EVR, TVR] at H
      simp only [SV.fill, TVR, Mp.cut, hw, if_true]
      exact ⟨trivial, H.2⟩
    · simp only [Option.isNone_iff_eq_none] at hb
      refine ⟨rfl, fun env a H => ?_⟩
      simp only [EVR, TVR] at H
      simp only [SV.fill, TVR, Mp.cut, hw, if_true]
      exact ⟨trivial, by rw [H, (S.dead i (S.not_lv hb)).1]⟩
    · cases hb
  | box b off =>
    have he : onlyIf (extBox b off x) d = some D := he
    obtain ⟨hb, rfl⟩ := onlyIf_ok he
    unfold extBox at hb
    split at hb
    · simp only [Bool.and_eq_true, beq_iff_eq] at hb
      obtain ⟨rfl, rfl⟩ := hb
      refine ⟨rfl, fun env a H => ?_⟩
      simp only [SV.wf, Nat.blt_eq] at hw
      simp only [EVR, TVR] at H
      simp only [SV.fill, TVR, Mp.cut]
      exact ⟨by omega, H.2⟩
    · cases hb
theorem exts_fill (S : SRel B M env0 h s) {nb : Nat} (hnb : nb = k.boxes.length) {rest : List Ty} {d : Ty.Ds rest} : ∀ (l : List SV) {xs : List TV} {D : Ty.Ds (SV.lvs rest l)}, SV.exts s rest d l xs = some D → SV.wfs nb k.rows l = true → (SV.fills rest l D).2 = d ∧ All2 (Wk M (M.cut k) h) xs (SV.fills rest l D).1
  | [], [], D, he, hw => by
    have he : some d = some D := he
    have := Option.some.inj he
    subst this
    exact ⟨rfl, trivial⟩
  | [], _ :: _, D, he, hw => by cases he
  | _ :: _, [], D, he, hw => by cases he
  | v :: l, x :: xs, D, he, hw => by
    simp only [SV.wfs, Bool.and_eq_true] at hw
    have he : (match SV.exts s rest d l xs with
      | some r => SV.ext s (SV.lvs rest l) r v x
      | none => none) = some D := he
    split at he
    · rename_i r hr
      obtain ⟨h1, h2⟩ := exts_fill S hnb l hr hw.2
      obtain ⟨h3, h4⟩ := ext_fill S hnb v he hw.1
      have e : SV.fills rest (v :: l) D = ((SV.fill (SV.lvs rest l) v D).1 :: (SV.fills rest l (SV.fill (SV.lvs rest l) v D).2).1, (SV.fills rest l (SV.fill (SV.lvs rest l) v D).2).2) := rfl
      rw [e, h3]
      exact ⟨h1, h4, h2⟩
    · cases he

theorem sxB_fill (S : SRel B M env0 h s) {nb : Nat} (hnb : nb = k.boxes.length) {rest : List Ty} {d : Ty.Ds rest} : ∀ (l : List (Option (List SV))) {bs : List (Option (List TV))} {D : Ty.Ds (lvB rest l)}, sxB s rest d l bs = some D → wfB nb k.rows l = true →
    (fillB rest l D).2 = d ∧ (fillB rest l D).1.length = l.length ∧ ∀ (b : Nat) cs', (fillB rest l D).1[b]? = some (some cs') → ∃ cs, bs[b]? = some (some cs) ∧ All2 (Wk M (M.cut k) h) cs cs'
  | [], bs, D, he, hw => by
    have he : some d = some D := by cases bs <;> exact he
    have := Option.some.inj he
    subst this
    exact ⟨rfl, rfl, fun b cs' hb => by simp [fillB] at hb⟩
  | none :: l, bs, D, he, hw => by
    have he : sxB s rest d l bs.tail = some D := by cases bs <;> exact he
    simp only [wfB] at hw
    obtain ⟨h1, h2, h3⟩ := sxB_fill S hnb l he hw
    have e : fillB rest (none :: l) D = (none :: (fillB rest l D).1, (fillB rest l D).2) := rfl
    rw [e]
    refine ⟨h1, by simp [h2], fun b cs' hb => ?_⟩
    cases b with
    | zero => simp at hb
    | succ b =>
      obtain ⟨cs, g1, g2⟩ := h3 b cs' (by simpa using hb)
      refine ⟨cs, ?_, g2⟩
      cases bs with
      | nil => simp at g1
      | cons => simpa using g1
  | some vs :: l, [], D, he, hw => by cases he
  | some vs :: l, none :: bs, D, he, hw => by cases he
  | some vs :: l, some b0 :: bs, D, he, hw => by
    simp only [wfB, Bool.and_eq_true] at hw
    have he : (match sxB s rest d l bs with
      | some r => SV.exts s (lvB rest l) r vs b0
      | none => none) = some D := he
    split at he
    · rename_i r hr
      obtain ⟨h1, h2, h3⟩ := sxB_fill S hnb l hr hw.2
      obtain ⟨h4, h5⟩ := exts_fill S hnb vs he hw.1
      have e : fillB rest (some vs :: l) D = (some (SV.fills (lvB rest l) vs D).1 :: (fillB rest l (SV.fills (lvB rest l) vs D).2).1, (fillB rest l (SV.fills (lvB rest l) vs D).2).2) := rfl
      rw [e, h4]
      refine ⟨h1, by simp [h2], fun b cs' hb => ?_⟩
      cases b with
      | zero => simp at hb; subst hb; exact ⟨b0, rfl, h5⟩
      | succ b => simpa using h3 b cs' (by simpa using hb)
    · cases he

/-- What a slot may stand for. -/
def SlotFit (o : Option (Option VSlot)) : VSlot → Prop
  | .row r' => (∃ r, o = some (some (.row r)) ∧ r.nm.ok r'.nm = true ∧ castL r.cs r'.cs r.xs = some r'.xs) ∨ ((o = none ∨ o = some none) ∧ r'.xs = [])
  | .sp p r' => (∃ r, o = some (some (.row r)) ∧ r.nm = .L ∧ castL r.cs r'.cs r.xs = some r'.xs ∧ p = 0) ∨ ∃ r, o = some (some (.sp p r)) ∧ castL r.cs r'.cs r.xs = some r'.xs
  | .ho _ _ _ => False
theorem sxR_fill : ∀ (l : RSk) {rs : List (Option VSlot)} {D : Ty.Ds (lvR l)}, sxR l rs = some D → ∀ (i : Nat), (∀ r', (fillR l D)[i]? = some (some r') → (l.getD i none).isSome = true ∧ SlotFit rs[i]? r') ∧ ((∀ r', (fillR l D)[i]? ≠ some (some r')) → (l.getD i none).isSome = false)
  | [], rs, D, he, i => ⟨fun r' h => by simp [fillR] at h, fun _ => by simp⟩
  | none :: l, rs, D, he, i => by
    simp only [sxR] at he
    have ih := sxR_fill l he
    cases i with
    | zero => exact ⟨fun r' h => by simp [fillR] at h, fun _ => by simp⟩
    | succ i =>
      obtain ⟨h2, h3⟩ := ih i
      have ht : rs.tail[i]? = rs[i + 1]? := by cases rs <;> simp
      rw [ht] at h2
      simp only [fillR, List.getElem?_cons_succ, List.getD_cons_succ]
      exact ⟨h2, h3⟩
  | some (.m m, cs) :: l, rs, D, he, i => by
    have ht : ∀ i : Nat, rs.tail[i]? = rs[i + 1]? := fun i => by cases rs <;> simp
    have fin : ∀ (xs : List (Ty.Ds cs)) (d : Ty.Ds (lvR l)), sxR l rs.tail = some d → SlotFit rs[0]? (.row ⟨m, cs, xs⟩) → (xs, d) = D →
        (∀ r', (fillR (some (.m m, cs) :: l) D)[i]? = some (some r') → ((some (SK.m m, cs) :: l).getD i none).isSome = true ∧ SlotFit rs[i]? r') ∧ ((∀ r', (fillR (some (.m m, cs) :: l) D)[i]? ≠ some (some r')) → ((some (SK.m m, cs) :: l).getD i none).isSome = false) := by
      intro xs d hd hfit e
      subst e
      have ih := sxR_fill l hd
      cases i with
      | zero =>
        refine ⟨fun r' h => ?_, fun h => ?_⟩
        · simp only [fillR, List.getElem?_cons_zero, Option.some.injEq] at h
          subst h
          exact ⟨by simp, hfit⟩
        · exact absurd rfl (h (.row ⟨m, cs, xs⟩))
      | succ i =>
        obtain ⟨h2, h3⟩ := ih i
        rw [ht] at h2
        simp only [fillR, List.getElem?_cons_succ, List.getD_cons_succ]
        exact ⟨h2, h3⟩
    simp only [sxR] at he
    split at he
    · rename_i r hr
      have h0 : rs[0]? = some (some (.row r)) := by
        cases rs with
        | nil => simp at hr
        | cons a rs => simp at hr; subst hr; rfl
      split at he
      · rename_i xs hc
        split at he
        · rename_i hm
          split at he
          · rename_i d hd
            exact fin xs d hd (.inl ⟨r, h0, hm, hc⟩) (Option.some.inj he)
          · cases he
        · cases he
      · cases he
    · rename_i hr
      have h0 : rs[0]? = none ∨ rs[0]? = some none := by
        cases rs with
        | nil => exact .inl rfl
        | cons a rs => simp at hr; subst hr; exact .inr rfl
      split at he
      · rename_i d hd
        exact fin [] d hd (.inr ⟨h0, rfl⟩) (Option.some.inj he)
      · cases he
    · cases he
  | some (.sp, cs) :: l, rs, D, he, i => by
    have ht : ∀ i : Nat, rs.tail[i]? = rs[i + 1]? := fun i => by cases rs <;> simp
    have fin : ∀ (p : Int) (xs : List (Ty.Ds cs)) (d : Ty.Ds (lvR l)), sxR l rs.tail = some d → SlotFit rs[0]? (.sp p ⟨.S, cs, xs⟩) → (p, xs, d) = D →
        (∀ r', (fillR (some (.sp, cs) :: l) D)[i]? = some (some r') → ((some (SK.sp, cs) :: l).getD i none).isSome = true ∧ SlotFit rs[i]? r') ∧ ((∀ r', (fillR (some (.sp, cs) :: l) D)[i]? ≠ some (some r')) → ((some (SK.sp, cs) :: l).getD i none).isSome = false) := by
      intro p xs d hd hfit e
      subst e
      have ih := sxR_fill l hd
      cases i with
      | zero =>
        refine ⟨fun r' h => ?_, fun h => ?_⟩
        · simp only [fillR, List.getElem?_cons_zero, Option.some.injEq] at h
          subst h
          exact ⟨by simp, hfit⟩
        · exact absurd rfl (h (.sp p ⟨.S, cs, xs⟩))
      | succ i =>
        obtain ⟨h2, h3⟩ := ih i
        rw [ht] at h2
        simp only [fillR, List.getElem?_cons_succ, List.getD_cons_succ]
        exact ⟨h2, h3⟩
    simp only [sxR] at he
    split at he
    · rename_i r hr
      have h0 : rs[0]? = some (some (.row r)) := by
        cases rs with
        | nil => simp at hr
        | cons a rs => simp at hr; subst hr; rfl
      split at he
      · rename_i xs hc
        split at he
        · rename_i hm
          split at he
          · rename_i d hd
            exact fin 0 xs d hd (.inl ⟨r, h0, hm, hc, rfl⟩) (Option.some.inj he)
          · cases he
        · cases he
      · cases he
    · rename_i p r hr
      have h0 : rs[0]? = some (some (.sp p r)) := by
        cases rs with
        | nil => simp at hr
        | cons a rs => simp at hr; subst hr; rfl
      split at he
      · rename_i xs hc
        split at he
        · rename_i d hd
          exact fin p xs d hd (.inr ⟨r, h0, hc⟩) (Option.some.inj he)
        · cases he
      · cases he
    · cases he

theorem SlotFit.rel (S : SRel B M env0 h s) {i : Nat} {r' : VSlot} (H : SlotFit s.rows[i]? r') : SlotRel h M.Z r' (M.α i) (M.N i) := by
  cases r' with
  | row r' =>
    rcases H with ⟨r, g1, g2, g3⟩ | ⟨g1, g2⟩
    · have R := (S.row i r (VS.row?_eq.2 g1)).mode g2
      obtain ⟨nm, cs, xs⟩ := r
      obtain ⟨nm', cs', xs'⟩ := r'
      obtain ⟨e, g4⟩ := castL_ok g3
      simp only at e g4 R
      subst e
      subst g4
      exact R
    · have hn : s.slot? i = none := by
        unfold VS.slot?
        rcases g1 with g1 | g1 <;> rw [g1]
      obtain ⟨u1, u2⟩ := S.dead i (S.not_lv hn)
      exact .inl ⟨u1, g2, u2⟩
  | sp p r' =>
    rcases H with ⟨r, g1, g2, g3, rfl⟩ | ⟨r, g1, g2⟩
    · have R := S.row i r (VS.row?_eq.2 g1)
      obtain ⟨nm, cs, xs⟩ := r
      obtain ⟨nm', cs', xs'⟩ := r'
      obtain ⟨e, g4⟩ := castL_ok g3
      simp only at e g4 R g2
      subst e
      subst g4
      subst g2
      rcases R with ⟨u1, u2, u3⟩ | ⟨rr, off, row, u1, u2, u3, u4, u5⟩
      · exact .inl ⟨u1, u2, rfl, u3⟩
      · have hN := OwnCs.noF (.inl rfl) u5
        rw [hN] at u5 ⊢
        refine .inr ⟨rr, off, row, u1, u2, u3, u4, by simp, by simp, rfl, ?_⟩
        exact u5.to_all2 fun a b G _ H => (OwnCs.lit (.inl rfl) _ H).1
    · have R := S.slot i _ (VS.slot?_eq.2 g1)
      obtain ⟨nm, cs, xs⟩ := r
      obtain ⟨nm', cs', xs'⟩ := r'
      obtain ⟨e, g4⟩ := castL_ok g2
      simp only at e g4
      subst e
      subst g4
      exact R
  | ho _ _ _ => exact H.elim

/-! Ahead of that. -/
def PreOk (B : Bg) (env0 : List AV) (h : Heap) (s s' : VS) : Prop := s'.boxes.length = s.boxes.length ∧ s'.pn = s.pn ∧ ∀ M, SRel B M env0 h s → ∃ M', SRel B M' env0 h s'
theorem PreOk.refl (s : VS) : PreOk B env0 h s s := ⟨rfl, rfl, fun M S => ⟨M, S⟩⟩
theorem PreOk.trans {s1 s2 s3 : VS} (a : PreOk B env0 h s1 s2) (b : PreOk B env0 h s2 s3) : PreOk B env0 h s1 s3 :=
  ⟨b.1.trans a.1, b.2.1.trans a.2.1, fun M S => by obtain ⟨M1, S1⟩ := a.2.2 M S; exact b.2.2 M1 S1⟩
theorem PreOk.frz {i : Nat} {r : VRow} (hr : s.mine i = some r) : PreOk B env0 h s (s.frz i r) := ⟨by simp [VS.frz, fzB_len], rfl, fun M S => ⟨_, S.frz (VS.mine_eq hr).1⟩⟩
theorem PreOk.frzA {i : Nat} {r : VRow} (hr : s.mine i = some r) : PreOk B env0 h s (s.frzA i r) := ⟨by simp [VS.frzA, faB_len], rfl, fun M S => ⟨_, S.frzA (VS.mine_eq hr).1 (S.ge hr)⟩⟩
theorem preR_ok : ∀ (l : RSk) (i : Nat) (s : VS), PreOk B env0 h s (preR i l s)
  | [], i, s => .refl s
  | none :: l, i, s => preR_ok l (i + 1) s
  | some (.sp, cs) :: l, i, s => preR_ok l (i + 1) s
  | some (.m m, cs) :: l, i, s => by
    cases m with
    | L =>
      simp only [preR]
      split
      · rename_i r hr
        split
        · exact (PreOk.frz hr).trans (preR_ok l (i + 1) _)
        · exact (PreOk.frz hr).trans (preR_ok l (i + 1) _)
        · exact preR_ok l (i + 1) s
      · exact preR_ok l (i + 1) s
    | _ => exact preR_ok l (i + 1) s
theorem preV_ok (s : VS) (v : SV) (x : TV) : PreOk B env0 h s (preV s v x) := by
  unfold preV
  split
  · split
    · rename_i hr; exact PreOk.frzA hr
    · exact .refl s
  · split
    · rename_i hr; exact PreOk.frzA hr
    · exact .refl s
  · split
    · rename_i hr; exact PreOk.frz hr
    · exact .refl s
  · exact .refl s
theorem preE_ok : ∀ (l : List SV) (t : Nat) (s : VS), PreOk B env0 h s (preE t l s)
  | [], t, s => .refl s
  | v :: l, t, s => (preV_ok s v _).trans (preE_ok l (t + 1) _)
theorem preC_ok : ∀ (l : List SV) (b t : Nat) (s : VS), PreOk B env0 h s (preC b t l s)
  | [], b, t, s => .refl s
  | v :: l, b, t, s => by
    simp only [preC]
    split
    · exact (preV_ok s v _).trans (preC_ok l b (t + 1) _)
    · exact preC_ok l b (t + 1) s
theorem preB_ok : ∀ (l : List (Option (List SV))) (b : Nat) (s : VS), PreOk B env0 h s (preB b l s)
  | [], b, s => .refl s
  | none :: l, b, s => preB_ok l (b + 1) s
  | some vs :: l, b, s => (preC_ok vs b 0 s).trans (preB_ok l (b + 1) _)
theorem pre_ok (k : Skel) (s : VS) : PreOk B env0 h s (k.pre s) := ((preR_ok k.rows 0 s).trans (preE_ok k.env 0 _)).trans (preB_ok k.boxes 0 _)
theorem allSome_ok {α : Type} : ∀ {n : Nat} {l : List (Option α)}, allSome n l = true → ∀ i, i < n → (l.getD i none).isSome = true
  | n + 1, some a :: l, h, 0, hi => by simp
  | n + 1, some a :: l, h, i + 1, hi => by simpa using allSome_ok (n := n) (l := l) (by simpa [allSome] using h) i (by omega)
  | n + 1, none :: l, h, i, hi => by simp [allSome] at h
  | n + 1, [], h, i, hi => by simp [allSome] at h
  | 0, l, h, i, hi => by omega

/-- **A STATE, BROUGHT TO ITS SKELETON.** -/
theorem ext0_ok (S : SRel B M env0 h s) (hnp : B.np ≤ k.boxes.length) (hwf : k.wf = true) (hble : k.boxes.length ≤ s.boxes.length) (hpn : k.pn = s.pn) {x : Ty.Ds k.ts} (he : k.ext0 s = some x) : SRel B (M.cut k) env0 h (k.fill x) := by
  simp only [Skel.wf, Bool.and_eq_true] at hwf
  obtain ⟨hwf1, hwf2, hwf3⟩ := hwf
  unfold Skel.ext0 at he
  split at he
  · rename_i d hR
    split at he
    · rename_i d' hB
      obtain ⟨b1, b2, b3⟩ := sxB_fill (k := k) S rfl k.boxes hB hwf2
      obtain ⟨e1, e2⟩ := exts_fill (k := k) S rfl k.env he hwf1
      have hfill : k.fill x = ⟨(SV.fills (lvB (lvR k.rows) k.boxes) k.env x).1, (fillB (lvR k.rows) k.boxes d').1, fillR k.rows d, [], k.pn⟩ := by
        unfold Skel.fill
        simp only
        rw [e1, b1]
      rw [hfill]
      have hR' := sxR_fill k.rows hR
      generalize hT : (⟨(SV.fills (lvB (lvR k.rows) k.boxes) k.env x).1, (fillB (lvR k.rows) k.boxes d').1, fillR k.rows d, [], k.pn⟩ : VS) = T
      have hT1 : T.rows = fillR k.rows d := by rw [← hT]
      have hT2 : T.env = (SV.fills (lvB (lvR k.rows) k.boxes) k.env x).1 := by rw [← hT]
      have hT3 : T.boxes = (fillB (lvR k.rows) k.boxes d').1 := by rw [← hT]
      have hT4 : T.pn = k.pn := by rw [← hT]
      have hslot? : ∀ i r', T.slot? i = some r' → (k.rows.getD i none).isSome = true ∧ SlotRel h M.Z r' (M.α i) (M.N i) := fun i r' hr => by
        rw [VS.slot?_eq, hT1] at hr
        obtain ⟨h3, h4⟩ := (hR' i).1 r' hr
        exact ⟨h3, h4.rel S⟩
      have hlv : ∀ i, (M.cut k).lv i = (T.slot? i).isSome := fun i => by
        show (k.rows.getD i none).isSome = _
        cases hr : T.slot? i with
        | some r' => rw [(hslot? i r' hr).1]; rfl
        | none =>
          rw [(hR' i).2 fun r' h' => by
            rw [← hT1, ← VS.slot?_eq, hr] at h'; cases h']
          rfl
      have hfp : ∀ i y, y ∈ fp (M.cut k) i → y ∈ fp M i := fun i y hy => by
        unfold fp Mp.cut at hy
        simp only at hy
        split at hy
        · exact hy
        · simp [rid] at hy
      have hαN : ∀ i, (k.rows.getD i none).isSome = true → (M.cut k).α i = M.α i ∧ (M.cut k).N i = M.N i := fun i hi => ⟨by simp only [Mp.cut]; rw [if_pos hi], by simp only [Mp.cut]; rw [if_pos hi]⟩
      refine ⟨by rw [hT2, ← e2.len]; exact S.len, fun t v a h1 h2 => ?_, by rw [hT3]; exact b2.symm, fun b cs' hb => ?_, fun b b' h1 h2 => S.binj b b' ?_ ?_, fun b hb => S.bown b ?_, hlv, fun i r' hr => ?_, fun i hi => ?_, fun i y hy => S.lt i y (hfp i y hy), fun i => ?_, fun i j y h1 h2 => S.dj i j y (hfp i y h1) (hfp j y h2), fun t g w v h1 => ?_, fun i y hy => S.own i y (hfp i y hy), S.fr, S.frb, S.nx, S.bx, fun j hj => ⟨Nat.lt_of_lt_of_le hj hnp, (S.hand j hj).2⟩,
        S.zlt, fun x hx i hi => S.zdj x hx i (hfp i x hi), S.zown, S.bz, by rw [hT4, hpn]; exact S.pn, fun i a hi => ?_⟩
      · rw [hT2] at h1
        have ht : t < s.env.length := by rw [e2.len]; exact (List.getElem?_eq_some_iff.1 h1).1
        have h3 := List.getElem?_eq_getElem ht
        exact .of (e2.get t _ _ h3 h1 env0 a (S.env t _ a h3 h2))
      · rw [VS.box?_eq, hT3] at hb
        obtain ⟨cs, g1, g2⟩ := b3 b cs' hb
        obtain ⟨as, g3, g4⟩ := S.box b cs (VS.box?_eq.2 g1)
        exact ⟨as, g3, Wk.all g2 g4⟩
      · have h1 : b < k.boxes.length := h1
        rw [S.nb]; omega
      · have h2 : b' < k.boxes.length := h2
        rw [S.nb]; omega
      · have hb : b < k.boxes.length := hb
        rw [S.nb]; omega
      · obtain ⟨g1, g2⟩ := hslot? i r' hr
        rw [(hαN i g1).1, (hαN i g1).2]; exact g2
      · have hi : (k.rows.getD i none).isSome = false := hi
        show (if _ then _ else _) = _ ∧ (if _ then _ else _) = _
        rw [hi]; exact ⟨rfl, rfl⟩
      · unfold fp Mp.cut
        simp only
        split
        · exact S.nd i
        · simp [rid]
      · exfalso
        rw [hT2] at h1
        have ht : t < s.env.length := by rw [e2.len]; exact (List.getElem?_eq_some_iff.1 h1).1
        have h3 := List.getElem?_eq_getElem ht
        have h4 := List.getElem?_eq_getElem (l := env0) (i := t) (by rw [← S.len]; exact ht)
        have := e2.get t _ _ h3 h1 env0 _ (S.env t _ _ h3 h4)
        simp only [TVR] at this
      · have hlt : i < k.pn := by rw [hpn, S.pn]; exact (List.getElem?_eq_some_iff.1 hi).1
        have hs := allSome_ok hwf3 i hlt
        exact ⟨hs, by rw [(hαN i hs).1]; exact (S.pin i a hi).2⟩
    · cases he
  · cases he
/-- **A STATE, BROUGHT TO ITS SKELETON.** -/
theorem ext_ok (S : SRel B M env0 h s) (hnp : B.np ≤ k.boxes.length) {x : Ty.Ds k.ts} (he : k.ext s = some x) : ∃ M', SRel B M' env0 h (k.fill x) := by
  unfold Skel.ext at he
  split at he
  · rename_i hwf
    simp only [Bool.and_eq_true] at hwf
    obtain ⟨hwf, hble, hpn⟩ := hwf
    obtain ⟨p1, p2, p3⟩ := pre_ok (B := B) (env0 := env0) (h := h) k s
    obtain ⟨M1, S1⟩ := p3 M S
    exact ⟨_, ext0_ok S1 hnp hwf (by rw [p1]; exact Nat.le_of_ble_eq_true hble) (by rw [p2]; exact Nat.eq_of_beq_eq_true hpn) he⟩
  · cases he
/-- Where a loop ends rows are whole. -/
theorem normR_ok : ∀ (l : List (Option VSlot)) (i : Nat), (∀ b ∈ (normR l).1, b = true) → (normR l).2.length = l.length ∧ (l[i]? = (normR l).2[i]? ∨ ∃ r, l[i]? = some (some (.sp (r.xs.length : Int) r)) ∧ (normR l).2[i]? = some (some (.row r)))
  | [], i, _ => ⟨rfl, .inl rfl⟩
  | none :: l, i, H => by
    have ih := fun i => normR_ok l i (by simpa [normR] using H)
    simp only [normR]
    refine ⟨by simp [(ih 0).1], ?_⟩
    cases i with
    | zero => exact .inl rfl
    | succ i => simpa using (ih i).2
  | some (.row r) :: l, i, H => by
    have ih := fun i => normR_ok l i (by simpa [normR] using H)
    simp only [normR]
    refine ⟨by simp [(ih 0).1], ?_⟩
    cases i with
    | zero => exact .inl rfl
    | succ i => simpa using (ih i).2
  | some (.ho k fo r) :: l, i, H => by
    have ih := fun i => normR_ok l i (by simpa [normR] using H)
    simp only [normR]
    refine ⟨by simp [(ih 0).1], ?_⟩
    cases i with
    | zero => exact .inl rfl
    | succ i => simpa using (ih i).2
  | some (.sp p r) :: l, i, H => by
    simp only [normR, List.mem_cons, forall_eq_or_imp, decide_eq_true_eq] at H
    have ih := fun i => normR_ok l i H.2
    simp only [normR]
    refine ⟨by simp [(ih 0).1], ?_⟩
    cases i with
    | zero => exact .inr ⟨r, by rw [← H.1]; rfl, rfl⟩
    | succ i => simpa using (ih i).2
theorem norm_ok (S : SRel B M env0 h s) (H : ∀ b ∈ (normR s.rows).1, b = true) (hS : ∀ i p r, s.slot? i = some (.sp p r) → r.nm = .S) : SRel B M env0 h { s with rows := (normR s.rows).2 } := by
  have hs : ∀ i, VS.slot? { s with rows := (normR s.rows).2 } i = s.slot? i ∨ ∃ r, s.slot? i = some (.sp (r.xs.length : Int) r) ∧ VS.slot? { s with rows := (normR s.rows).2 } i = some (.row r) := fun i => by
    rcases (normR_ok s.rows i H).2 with e | ⟨r, e1, e2⟩
    · left
      unfold VS.slot?
      simp only [e]
    · exact .inr ⟨r, VS.slot?_eq.2 e1, VS.slot?_eq.2 e2⟩
  refine { S with lv := fun i => ?_, slot := fun i sl hsl => ?_ }
  · rcases hs i with e | ⟨r, e1, e2⟩
    · rw [e]; exact S.lv i
    · rw [e2, S.lv i, e1]; rfl
  · rcases hs i with e | ⟨r, e1, e2⟩
    · rw [e] at hsl; exact S.slot i sl hsl
    · rw [e2] at hsl
      cases hsl
      have hn := hS i _ r e1
      have R := S.slot i _ e1
      show RowRel h M.Z r.nm r.cs r.xs (M.α i) (M.N i)
      rw [hn]
      rcases R with ⟨u1, u2, _, u3⟩ | ⟨rr, off, row, u1, u2, u3, u4, u5, u6, u7, _⟩
      · exact .inl ⟨u1, u2, u3⟩
      · refine .inr ⟨rr, off, row, u1, u2, u3, u4, ?_⟩
        have e3 : (r.xs.length : Int).toNat = r.xs.length := by omega
        rw [e3, List.take_length] at u7
        have e4 : ((row.el.drop off).take r.xs.length).take r.xs.length = (row.el.drop off).take r.xs.length := by rw [List.take_take, Nat.min_self]
        rwa [e4] at u7
theorem fill_sp : ∀ (l : RSk) (D : Ty.Ds (lvR l)) (i : Nat) p r, (fillR l D)[i]? = some (some (.sp p r)) → r.nm = .S
  | [], D, i, p, r, h => by simp [fillR] at h
  | none :: l, D, i, p, r, h => by
    cases i with
    | zero => simp [fillR] at h
    | succ i => exact fill_sp l D i p r (by simpa [fillR] using h)
  | some (.m m, cs) :: l, D, i, p, r, h => by
    cases i with
    | zero => simp [fillR] at h
    | succ i => exact fill_sp l D.2 i p r (by simpa [fillR] using h)
  | some (.sp, cs) :: l, D, i, p, r, h => by
    cases i with
    | zero =>
      simp only [fillR, List.getElem?_cons_zero, Option.some.injEq] at h
      cases h
      rfl
    | succ i => exact fill_sp l D.2.2 i p r (by simpa [fillR] using h)
theorem normK_ok {ρ : Type} {x : Ty.Ds k.ts} (S : SRel B M env0 h (k.fill x)) {K : VS → Option ρ} {out : ρ} (hv : normK (k.fill x) K = some out) : ∃ s', SRel B M env0 h s' ∧ K s' = some out := by
  unfold normK at hv
  generalize hq : normR (k.fill x).rows = q at hv
  obtain ⟨c, rows⟩ := q
  obtain ⟨h1, h2⟩ := chks_some hv
  have := norm_ok S (by rw [hq]; exact h1) (fun i p r hs => by
    rw [VS.slot?_eq] at hs
    unfold Skel.fill at hs
    exact fill_sp _ _ i p r hs)
  rw [hq] at this
  exact ⟨_, this, h2⟩
end
end Go.PA
