/- Typed values: a state brought to where a loop's word begins. No condition. -/
import Derived.Test.YtnbhalhlodnmpaaV17
namespace Go.PA

def Mp.cut (M : Mp) (k : Skel) : Mp := { α := fun i => if (k.rows.getD i none).isSome then M.α i else .nils, N := fun i => if (k.rows.getD i none).isSome then M.N i else [], lv := fun i => (k.rows.getD i none).isSome, β := M.β, nb := k.boxes.length }

section
variable {B : Bg} {M : Mp} {env0 : List AV} {h : Heap} {s : VS} {k : Skel}

def Wk (M M2 : Mp) (h : Heap) (x v : TV) : Prop := ∀ (env : List AV) a, EVR M h env x a → TVR M2 h v a
theorem Wk.all {l l' : List TV} {M2 : Mp} {as : List AV} (H : All2 (Wk M M2 h) l l') (HT : TVRs M h l as) : TVRs M2 h l' as := by
  refine TVRs.iff.2 (.of_get (by rw [← H.len, HT.len]) fun i v a h1 h2 => ?_)
  have hi : i < l.length := by rw [H.len]; exact (List.getElem?_eq_some_iff.1 h1).1
  have h3 := List.getElem?_eq_getElem hi
  exact H.get i _ _ h3 h1 [] a (.of (HT.get h3 h2))

theorem onlyIf_ok {α : Type} {b : Bool} {x y : α} (h : onlyIf b x = some y) : b = true ∧ x = y := by
  cases b with
  | true => exact ⟨rfl, Option.some.inj h⟩
  | false => cases h
theorem capT_ok {nb : Nat} (hnb : nb = k.boxes.length) : ∀ (l : List (Nat × Nat)) {vs : List TV} {as : List AV}, capB l vs = true → capWf nb l = true → TVRs M h vs as → TVRs (M.cut k) h (capT l) as
  | [], [], as, hb, hw, H => by simp only [TVRs, capT] at *; exact H
  | [], _ :: _, as, hb, hw, H => by simp only [capB, Bool.false_eq_true] at hb
  | (b, o) :: l, [], as, hb, hw, H => by simp only [capB, Bool.false_eq_true] at hb
  | (b, o) :: l, v :: vs, [], hb, hw, H => by simp only [TVRs] at H
  | (b, o) :: l, v :: vs, a :: as, hb, hw, H => by
    cases v <;> simp only [capB, Bool.false_eq_true] at hb
    simp only [Bool.and_eq_true, beq_iff_eq] at hb
    obtain ⟨⟨rfl, rfl⟩, hb⟩ := hb
    simp only [capWf, Bool.and_eq_true] at hw
    simp only [TVRs, TVR] at H
    simp only [capT, TVRs, TVR]
    refine ⟨⟨?_, H.1.2⟩, capT_ok hnb l hb hw.2 H.2⟩
    have := hw.1
    simp only [Nat.blt_eq] at this
    show b < k.boxes.length
    omega

theorem ext_fill (S : SRel B M env0 h s) {nb : Nat} (hnb : nb = k.boxes.length) {rest : List Ty} {d : Ty.Ds rest} : ∀ (v : SV) {x : TV} {D : Ty.Ds (v.lv rest)}, SV.ext s rest d v x = some D → v.wf nb k.rows = true → (SV.fill rest v D).2 = d ∧ Wk M (M.cut k) h x (SV.fill rest v D).1 := by
  intro v x D he hw
  cases v with
  | int q =>
    have he : extInt rest d q x = some D := he
    unfold extInt at he
    split at he
    · split at he
      · rename_i hq
        have := Option.some.inj he
        subst this; subst hq
        exact ⟨rfl, fun env a H => by simpa only [EVR, TVR, SV.fill] using H⟩
      · cases he
    · cases he
  | bool =>
    have he : extBool rest d x = some D := he
    unfold extBool at he
    split at he
    · have := Option.some.inj he
      subst this
      exact ⟨rfl, fun env a H => by simpa only [EVR, TVR, SV.fill] using H⟩
    · cases he
  | str =>
    have he : extStr rest d x = some D := he
    unfold extStr at he
    split at he
    · have := Option.some.inj he
      subst this
      exact ⟨rfl, fun env a H => by simpa only [EVR, TVR, SV.fill] using H⟩
    · cases he
  | lst cs =>
    have he : extLst rest d cs x = some D := he
    unfold extLst at he
    split at he
    · split at he
      · rename_i ys hc
        have := Option.some.inj he
        subst this
        obtain ⟨e, rfl⟩ := castL_ok hc
        subst e
        exact ⟨rfl, fun env a H => by simpa only [EVR, TVR, SV.fill] using H⟩
      · cases he
    · have := Option.some.inj he
      subst this
      refine ⟨rfl, fun env a H => ?_⟩
      simp only [EVR, TVR] at H
      simp only [SV.fill, TVR, LitC]
      exact .inl ⟨H, rfl⟩
    · cases he
  | vw i cs =>
    have he : extVw rest d i cs x = some D := he
    unfold extVw at he
    split at he
    · split at he
      · rename_i hij
        split at he
        · rename_i ys hc
          have := Option.some.inj he
          subst this
          obtain ⟨e, rfl⟩ := castL_ok hc
          subst e; subst hij
          refine ⟨rfl, fun env a H => ?_⟩
          simp only [SV.wf] at hw
          simp only [EVR, TVR] at H
          simp only [SV.fill, TVR, Mp.cut, hw, if_true]
          exact ⟨trivial, H.2⟩
        · cases he
      · cases he
    · cases he
  | rptr i off =>
    have he : extRptr rest d i off x = some D := he
    unfold extRptr at he
    split at he
    · split at he
      · rename_i hij
        have := Option.some.inj he
        subst this
        obtain ⟨rfl, rfl⟩ := hij
        refine ⟨rfl, fun env a H => ?_⟩
        simp only [SV.wf] at hw
        simp only [EVR, TVR] at H
        simp only [SV.fill, TVR, Mp.cut, hw, if_true]
        exact ⟨trivial, H.2⟩
      · cases he
    · cases he
  | fn f l =>
    have he : onlyIf (extFn f l x) d = some D := he
    obtain ⟨hb, rfl⟩ := onlyIf_ok he
    unfold extFn at hb
    split at hb
    · simp only [Bool.and_eq_true, beq_iff_eq] at hb
      obtain ⟨rfl, hb⟩ := hb
      refine ⟨rfl, fun env a H => ?_⟩
      simp only [SV.wf] at hw
      simp only [EVR, TVR] at H
      obtain ⟨as, e, H⟩ := H
      simp only [SV.fill, TVR]
      exact ⟨as, e, capT_ok hnb l hb hw H⟩
    · cases hb
  | bad =>
    have he : some d = some D := he
    have := Option.some.inj he
    subst this
    exact ⟨rfl, fun env a H => by simp only [SV.fill, TVR]⟩
  | nil =>
    have he : onlyIf (extNil x) d = some D := he
    obtain ⟨hb, rfl⟩ := onlyIf_ok he
    unfold extNil at hb
    split at hb
    · exact ⟨rfl, fun env a H => by simpa only [EVR, TVR, SV.fill] using H⟩
    · cases hb
  | ref i =>
    have he : onlyIf (extRef s i x) d = some D := he
    obtain ⟨hb, rfl⟩ := onlyIf_ok he
    simp only [SV.wf] at hw
    unfold extRef at hb
    split at hb
    · simp only [beq_iff_eq] at hb
      subst hb
      refine ⟨rfl, fun env a H => ?_⟩
      simp only [EVR, TVR] at H
      simp only [SV.fill, TVR, Mp.cut, hw, if_true]
      exact ⟨trivial, H.2⟩
    · simp only [Option.isNone_iff_eq_none] at hb
      refine ⟨rfl, fun env a H => ?_⟩
      simp only [EVR, TVR] at H
      simp only [SV.fill, TVR, Mp.cut, hw, if_true]
      exact ⟨trivial, by rw [H, (S.dead i (S.not_lv hb)).1]⟩
    · cases hb
  | box b off =>
    have he : onlyIf (extBox b off x) d = some D := he
    obtain ⟨hb, rfl⟩ := onlyIf_ok he
    unfold extBox at hb
    split at hb
    · simp only [Bool.and_eq_true, beq_iff_eq] at hb
      obtain ⟨rfl, rfl⟩ := hb
      refine ⟨rfl, fun env a H => ?_⟩
      simp only [SV.wf, Nat.blt_eq] at hw
      simp only [EVR, TVR] at H
      simp only [SV.fill, TVR, Mp.cut]
      exact ⟨by omega, H.2⟩
    · cases hb
theorem exts_fill (S : SRel B M env0 h s) {nb : Nat} (hnb : nb = k.boxes.length) {rest : List Ty} {d : Ty.Ds rest} : ∀ (l : List SV) {xs : List TV} {D : Ty.Ds (SV.lvs rest l)}, SV.exts s rest d l xs = some D → SV.wfs nb k.rows l = true → (SV.fills rest l D).2 = d ∧ All2 (Wk M (M.cut k) h) xs (SV.fills rest l D).1
  | [], [], D, he, hw => by
    have he : some d = some D := he
    have := Option.some.inj he
    subst this
    exact ⟨rfl, trivial⟩
  | [], _ :: _, D, he, hw => by cases he
  | _ :: _, [], D, he, hw => by cases he
  | v :: l, x :: xs, D, he, hw => by
    simp only [SV.wfs, Bool.and_eq_true] at hw
    have he : (match SV.exts s rest d l xs with
      | some r => SV.ext s (SV.lvs rest l) r v x
      | none => none) = some D := he
    split at he
    · rename_i r hr
      obtain ⟨h1, h2⟩ := exts_fill S hnb l hr hw.2
      obtain ⟨h3, h4⟩ := ext_fill S hnb v he hw.1
      have e : SV.fills rest (v :: l) D = ((SV.fill (SV.lvs rest l) v D).1 :: (SV.fills rest l (SV.fill (SV.lvs rest l) v D).2).1, (SV.fills rest l (SV.fill (SV.lvs rest l) v D).2).2) := rfl
      rw [e, h3]
      exact ⟨h1, h4, h2⟩
    · cases he

theorem sxB_fill (S : SRel B M env0 h s) {nb : Nat} (hnb : nb = k.boxes.length) {rest : List Ty} {d : Ty.Ds rest} : ∀ (l : List (Option (List SV))) {bs : List (Option (List TV))} {D : Ty.Ds (lvB rest l)}, sxB s rest d l bs = some D → wfB nb k.rows l = true →
    (fillB rest l D).2 = d ∧ (fillB rest l D).1.length = l.length ∧ ∀ (b : Nat) cs', (fillB rest l D).1[b]? = some (some cs') → ∃ cs, bs[b]? = some (some cs) ∧ All2 (Wk M (M.cut k) h) cs cs'
  | [], bs, D, he, hw => by
    have he : some d = some D := by cases bs <;> exact he
    have := Option.some.inj he
    subst this
    exact ⟨rfl, rfl, fun b cs' hb => by simp [fillB] at hb⟩
  | none :: l, bs, D, he, hw => by
    have he : sxB s rest d l bs.tail = some D := by cases bs <;> exact he
    simp only [wfB] at hw
    obtain ⟨h1, h2, h3⟩ := sxB_fill S hnb l he hw
    have e : fillB rest (none :: l) D = (none :: (fillB rest l D).1, (fillB rest l D).2) := rfl
    rw [e]
    refine ⟨h1, by simp [h2], fun b cs' hb => ?_⟩
    cases b with
    | zero => simp at hb
    | succ b =>
      obtain ⟨cs, g1, g2⟩ := h3 b cs' (by simpa using hb)
      refine ⟨cs, ?_, g2⟩
      cases bs with
      | nil => simp at g1
      | cons => simpa using g1
  | some vs :: l, [], D, he, hw => by cases he
  | some vs :: l, none :: bs, D, he, hw => by cases he
  | some vs :: l, some b0 :: bs, D, he, hw => by
    simp only [wfB, Bool.and_eq_true] at hw
    have he : (match sxB s rest d l bs with
      | some r => SV.exts s (lvB rest l) r vs b0
      | none => none) = some D := he
    split at he
    · rename_i r hr
      obtain ⟨h1, h2, h3⟩ := sxB_fill S hnb l hr hw.2
      obtain ⟨h4, h5⟩ := exts_fill S hnb vs he hw.1
      have e : fillB rest (some vs :: l) D = (some (SV.fills (lvB rest l) vs D).1 :: (fillB rest l (SV.fills (lvB rest l) vs D).2).1, (fillB rest l (SV.fills (lvB rest l) vs D).2).2) := rfl
      rw [e, h4]
      refine ⟨h1, by simp [h2], fun b cs' hb => ?_⟩
      cases b with
      | zero => simp at hb; subst hb; exact ⟨b0, rfl, h5⟩
      | succ b => simpa using h3 b cs' (by simpa using hb)
    · cases he

theorem sxR_fill : ∀ (l : List (Option (NM × List Ty))) {rs : List (Option VRow)} {D : Ty.Ds (lvR l)}, sxR l rs = some D → ∀ (i : Nat), (fillR l D)[i]?.isSome = (l[i]?).isSome ∧ (∀ r', (fillR l D)[i]? = some (some r') → (l.getD i none).isSome = true ∧
      ((∃ r, rs[i]? = some (some r) ∧ r.nm.ok r'.nm = true ∧ castL r.cs r'.cs r.xs = some r'.xs) ∨ ((rs[i]? = none ∨ rs[i]? = some none) ∧ r'.xs = []))) ∧ ((∀ r', (fillR l D)[i]? ≠ some (some r')) → (l.getD i none).isSome = false)
  | [], rs, D, he, i => ⟨by simp [fillR], fun r' h => by simp [fillR] at h, fun _ => by simp⟩
  | none :: l, rs, D, he, i => by
    simp only [sxR] at he
    have ih := sxR_fill l he
    cases i with
    | zero => exact ⟨by simp [fillR], fun r' h => by simp [fillR] at h, fun _ => by simp⟩
    | succ i =>
      obtain ⟨h1, h2, h3⟩ := ih i
      have ht : rs.tail[i]? = rs[i + 1]? := by cases rs <;> simp
      rw [ht] at h2
      simp only [fillR, List.getElem?_cons_succ, List.getD_cons_succ]
      exact ⟨h1, h2, h3⟩
  | some (m, cs) :: l, rs, D, he, i => by
    simp only [sxR] at he
    have ht : ∀ i : Nat, rs.tail[i]? = rs[i + 1]? := fun i => by cases rs <;> simp
    split at he
    · rename_i r hr
      have h0 : rs[0]? = some (some r) := by
        cases rs with
        | nil => simp at hr
        | cons a rs => simp at hr; subst hr; rfl
      split at he
      · rename_i xs hc
        split at he
        · rename_i hm
          split at he
          · rename_i d hd
            obtain rfl := Option.some.inj he
            have ih := sxR_fill l hd
            cases i with
            | zero =>
              refine ⟨by simp [fillR], fun r' h => ?_, fun h => ?_⟩
              · simp only [fillR, List.getElem?_cons_zero, Option.some.injEq] at h
                subst h
                exact ⟨by simp, .inl ⟨r, h0, hm, hc⟩⟩
              · exact absurd rfl (h ⟨m, cs, xs⟩)
            | succ i =>
              obtain ⟨h1, h2, h3⟩ := ih i
              rw [ht] at h2
              simp only [fillR, List.getElem?_cons_succ, List.getD_cons_succ]
              exact ⟨h1, h2, h3⟩
          · cases he
        · cases he
      · cases he
    · rename_i hr
      have h0 : rs[0]? = none ∨ rs[0]? = some none := by
        cases rs with
        | nil => exact .inl rfl
        | cons a rs => simp at hr; subst hr; exact .inr rfl
      split at he
      · rename_i d hd
        obtain rfl := Option.some.inj he
        have ih := sxR_fill l hd
        cases i with
        | zero =>
          refine ⟨by simp [fillR], fun r' h => ?_, fun h => ?_⟩
          · simp only [fillR, List.getElem?_cons_zero, Option.some.injEq] at h
            subst h
            exact ⟨by simp, .inr ⟨h0, rfl⟩⟩
          · exact absurd rfl (h ⟨m, cs, []⟩)
        | succ i =>
          obtain ⟨h1, h2, h3⟩ := ih i
          rw [ht] at h2
          simp only [fillR, List.getElem?_cons_succ, List.getD_cons_succ]
          exact ⟨h1, h2, h3⟩
      · cases he

/-- **A STATE, BROUGHT TO ITS SKELETON.** -/
theorem ext_ok (S : SRel B M env0 h s) {x : Ty.Ds k.ts} (he : k.ext s = some x) : SRel B (M.cut k) env0 h (k.fill x) := by
  unfold Skel.ext at he
  split at he
  · rename_i hwf
    simp only [Bool.and_eq_true] at hwf
    obtain ⟨hwf, hble⟩ := hwf
    have hble : k.boxes.length ≤ s.boxes.length := Nat.le_of_ble_eq_true hble
    simp only [Skel.wf, Bool.and_eq_true] at hwf
    unfold Skel.ext0 at he
    split at he
    · rename_i d hR
      split at he
      · rename_i d' hB
        obtain ⟨b1, b2, b3⟩ := sxB_fill (k := k) S rfl k.boxes hB hwf.2
        obtain ⟨e1, e2⟩ := exts_fill (k := k) S rfl k.env he hwf.1
        have hfill : k.fill x = ⟨(SV.fills (lvB (lvR k.rows) k.boxes) k.env x).1, (fillB (lvR k.rows) k.boxes d').1, fillR k.rows d, []⟩ := by
          unfold Skel.fill
          simp only
          rw [e1, b1]
        rw [hfill]
        have hR' := sxR_fill k.rows hR
        have hrow? : ∀ i r', VS.row? ⟨(SV.fills (lvB (lvR k.rows) k.boxes) k.env x).1, (fillB (lvR k.rows) k.boxes d').1, fillR k.rows d, []⟩ i = some r' → (k.rows.getD i none).isSome = true ∧ RowRel h r'.nm r'.cs r'.xs (M.α i) (M.N i) := fun i r' hr => by
          rw [VS.row?_eq] at hr
          obtain ⟨_, h2, _⟩ := hR' i
          obtain ⟨h3, h4⟩ := h2 r' hr
          refine ⟨h3, ?_⟩
          rcases h4 with ⟨r, g1, g2, g3⟩ | ⟨g1, g2⟩
          · have R := (S.row i r (VS.row?_eq.2 g1)).mode g2
            obtain ⟨nm, cs, xs⟩ := r
            obtain ⟨nm', cs', xs'⟩ := r'
            obtain ⟨e, g4⟩ := castL_ok g3
            simp only at e g4 R
            subst e
            subst g4
            exact R
          · have hn : s.row? i = none := by
              unfold VS.row?
              rcases g1 with g1 | g1 <;> rw [g1]
            obtain ⟨u1, u2⟩ := S.dead i (S.not_lv hn)
            exact .inl ⟨u1, g2, u2⟩
        have hlv : ∀ i, (M.cut k).lv i = (VS.row? ⟨(SV.fills (lvB (lvR k.rows) k.boxes) k.env x).1, (fillB (lvR k.rows) k.boxes d').1, fillR k.rows d, []⟩ i).isSome := fun i => by
          show (k.rows.getD i none).isSome = _
          cases hr : VS.row? ⟨(SV.fills (lvB (lvR k.rows) k.boxes) k.env x).1, (fillB (lvR k.rows) k.boxes d').1, fillR k.rows d, []⟩ i with
          | some r' => rw [(hrow? i r' hr).1]; rfl
          | none =>
            rw [(hR' i).2.2 fun r' h' => by
              rw [← VS.row?_eq (s := ⟨(SV.fills (lvB (lvR k.rows) k.boxes) k.env x).1, (fillB (lvR k.rows) k.boxes d').1, fillR k.rows d, []⟩)] at h'
              rw [hr] at h'; cases h']
            rfl
        have hfp : ∀ i y, y ∈ fp (M.cut k) i → y ∈ fp M i := fun i y hy => by
          unfold fp Mp.cut at hy
          simp only at hy
          split at hy
          · exact hy
          · simp [rid] at hy
        have hαN : ∀ i, (k.rows.getD i none).isSome = true → (M.cut k).α i = M.α i ∧ (M.cut k).N i = M.N i := fun i hi => ⟨by simp only [Mp.cut]; rw [if_pos hi], by simp only [Mp.cut]; rw [if_pos hi]⟩
        refine ⟨by rw [← e2.len]; exact S.len, fun t v a h1 h2 => ?_, b2.symm, fun b cs' hb => ?_, fun b b' h1 h2 => S.binj b b' ?_ ?_, fun b hb => S.bown b ?_, hlv, fun i r' hr => ?_, fun i hi => ?_, fun i y hy => S.lt i y (hfp i y hy), fun i => ?_, fun i j y h1 h2 => S.dj i j y (hfp i y h1) (hfp j y h2), fun t g w v h1 => ?_, fun i y hy => S.own i y (hfp i y hy), S.fr, S.frb, S.nx, S.bx⟩
        · have ht : t < s.env.length := by rw [e2.len]; exact (List.getElem?_eq_some_iff.1 h1).1
          have h3 := List.getElem?_eq_getElem ht
          exact .of (e2.get t _ _ h3 h1 env0 a (S.env t _ a h3 h2))
        · rw [VS.box?_eq] at hb
          obtain ⟨cs, g1, g2⟩ := b3 b cs' hb
          obtain ⟨as, g3, g4⟩ := S.box b cs (VS.box?_eq.2 g1)
          exact ⟨as, g3, Wk.all g2 g4⟩
        · have h1 : b < k.boxes.length := h1
          rw [S.nb]; omega
        · have h2 : b' < k.boxes.length := h2
          rw [S.nb]; omega
        · have hb : b < k.boxes.length := hb
          rw [S.nb]; omega
        · obtain ⟨g1, g2⟩ := hrow? i r' hr
          rw [(hαN i g1).1, (hαN i g1).2]; exact g2
        · have hi : (k.rows.getD i none).isSome = false := hi
          show (if _ then _ else _) = _ ∧ (if _ then _ else _) = _
          rw [hi]; exact ⟨rfl, rfl⟩
        · unfold fp Mp.cut
          simp only
          split
          · exact S.nd i
          · simp [rid]
        · exfalso
          have ht : t < s.env.length := by rw [e2.len]; exact (List.getElem?_eq_some_iff.1 h1).1
          have h3 := List.getElem?_eq_getElem ht
          have h4 := List.getElem?_eq_getElem (l := env0) (i := t) (by rw [← S.len]; exact ht)
          have := e2.get t _ _ h3 h1 env0 _ (S.env t _ _ h3 h4)
          simp only [TVR] at this
      · cases he
    · cases he
  · cases he
end
end Go.PA
