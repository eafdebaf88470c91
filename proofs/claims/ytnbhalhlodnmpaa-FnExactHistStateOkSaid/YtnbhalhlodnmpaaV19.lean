/- Typed values: code, loops, functions: the plain code does what the typed code says. No condition. -/
import Derived.Test.YtnbhalhlodnmpaaV18
namespace Go.PA
set_option linter.unusedVariables false
set_option linter.unusedSimpArgs false

section
variable {P : Program} {C : Ctrs} {an : List (Nat × An)} {L : List LCtr}

theorem outOf_ok {e : Option Nat} {s : VS} : ∀ (l : List (Option Nat × Skel)) {o : Outs l}, outOf e s l = some o → ∃ k d, Skel.ext k s = some d ∧ ∀ {ρ : Type} (E : Nat → VS → Option ρ) (R : VS → Option ρ), outTo E R l o = (match e with
    | some j => E j (k.fill d)
    | none => R (k.fill d))
  | [], o, h => nomatch o
  | (e', k) :: l, o, h => by
    simp only [outOf] at h
    split at h
    · rename_i he
      split at h
      · rename_i d hd
        obtain rfl := Option.some.inj h
        refine ⟨k, d, hd, fun E R => ?_⟩
        subst he
        cases e' <;> rfl
      · cases h
    · split at h
      · rename_i y hy
        obtain rfl := Option.some.inj h
        obtain ⟨k', d, h1, h2⟩ := outOf_ok l hy
        exact ⟨k', d, h1, fun E R => h2 E R⟩
      · cases h

theorem br_some {ρ : Type} {b : Bool} {x y : Option ρ} {out : ρ} (h : br b x y = some out) : (b = true ∧ x = some out) ∨ (b = false ∧ y = some out) := by
  cases b with
  | true => exact .inl ⟨rfl, h⟩
  | false => exact .inr ⟨rfl, h⟩

/-- **CODE.** -/
theorem vcode_ok (HC : ∀ f c, C f = some c → CtrOk P f c) {B : Bg} (c : ACode) : ∀ {ρ : Type} {L : List LCtr} {M : Mp} {s : VS} {st : ASt} {K : VS → Option ρ} {E : Nat → VS → Option ρ} {R : VS → Option ρ} {out : ρ}, LoopsOk C an L c → SRel B M st.env st.heap s → vcode C an L c s K E R = some out →
    ∀ {Q : AExit → ASt → Prop}, (∀ M' s' st', SRel B M' st'.env st'.heap s' → K s' = some out → Q .normal st') → (∀ j M' s' st', SRel B M' st'.env st'.heap s' → E j s' = some out → Q (.exit j) st') →
      (∀ M' s' st', SRel B M' st'.env st'.heap s' → R s' = some out → Q .ret st') → acode P c Q st := by
  induction c with
  | skip => intro ρ L M s st K E R out HL S hv Q hK hE hR; exact hK _ _ _ S hv
  | ops l =>
    intro ρ L M s st K E R out HL S hv Q hK hE hR
    exact vops_o HC l S hv (Q := fun env h => Q .normal ⟨env, h⟩) fun M' s' env' h' S' hk => hK M' s' ⟨env', h'⟩ S' hk
  | dops l => intro ρ L M s st K E R out HL S hv; cases hv
  | xops cf l =>
    intro ρ L M s st K E R out HL S hv Q hK hE hR
    exact vops_x HC l S hv (Q := fun env h => Q .normal ⟨env, h⟩) fun M' s' env' h' S' hk => hK M' s' ⟨env', h'⟩ S' hk
  | seq a b iha ihb =>
    intro ρ L M s st K E R out HL S hv Q hK hE hR
    exact iha HL.1 S hv (fun M' s' st' S' hk => ihb HL.2 S' hk hK hE hR) hE hR
  | cond c a b iha ihb =>
    intro ρ L M s st K E R out HL S hv Q hK hE hR
    have hc := S.ev (g := none) trivial c
    have hv : (match s.ev none c with
      | .bool t => br t (vcode C an (L.take a.loops) a s K E R) (vcode C an (L.drop a.loops) b s K E R)
      | _ => none) = some out := hv
    split at hv
    · rename_i t ht
      rw [ht] at hc
      simp only [TVR] at hc
      simp only [acode, hc]
      rcases br_some hv with ⟨rfl, hv⟩ | ⟨rfl, hv⟩
      · rw [if_pos rfl]; exact iha HL.1 S hv hK hE hR
      · rw [if_neg (by simp)]; exact ihb HL.2 S hv hK hE hR
    · cases hv
  | block id a iha =>
    intro ρ L M s st K E R out HL S hv Q hK hE hR
    refine iha HL S hv hK (fun j M' s' st' S' hk => ?_) hR
    simp only at hk ⊢
    split
    · rename_i hj; rw [if_pos hj] at hk; exact hK _ _ _ S' hk
    · rename_i hj; rw [if_neg hj] at hk; exact hE _ _ _ _ S' hk
  | loop a iha =>
    intro ρ L M s st K E R out HL S hv Q hK hE hR
    cases L with
    | nil => cases hv
    | cons lc Ls =>
      have hv : (match lc.sk.ext s with
        | some x => (lc.fn x).bind fun out => outTo E R lc.outs out
        | none => none) = some out := hv
      split at hv
      · rename_i x hx
        simp only [Option.bind_eq_some_iff] at hv
        obtain ⟨o, ho, hv⟩ := hv
        obtain ⟨m, hm⟩ := HL.1
        have S0 := ext_ok S hx
        have key : ∀ (N : Nat) (x : Ty.Ds lc.sk.ts), m x < N → lc.fn x = some o → ∀ (M : Mp) (st : ASt), SRel B M st.env st.heap (lc.sk.fill x) → ALoop (acode P a) Q st := by
          intro N
          induction N with
          | zero => intro x h; omega
          | succ N ihN =>
            intro x hmx hfx M st S
            refine ALoop.step ?_
            have hr := hm x o hfx
            unfold vround at hr
            refine iha HL.2 S hr (fun M' s' st' S' hk => ?_) (fun j M' s' st' S' hk => ?_) (fun M' s' st' S' hk => ?_)
            · simp only at hk ⊢
              split at hk
              · rename_i y hy
                split at hk
                · rename_i hlt
                  exact ihN y (by omega) hk _ st' (ext_ok S' hy)
                · cases hk
              · cases hk
            · obtain ⟨k, d, h1, h2⟩ := outOf_ok lc.outs hk
              exact hE j _ _ _ (ext_ok S' h1) ((h2 E R).symm.trans hv)
            · obtain ⟨k, d, h1, h2⟩ := outOf_ok lc.outs hk
              exact hR _ _ _ (ext_ok S' h1) ((h2 E R).symm.trans hv)
        exact key (m x + 1) x (Nat.lt_succ_self _) ho _ st S0
      · cases hv
  | exit id => intro ρ L M s st K E R out HL S hv Q hK hE hR; exact hE _ _ _ _ S hv
  | ret => intro ρ L M s st K E R out HL S hv Q hK hE hR; exact hR _ _ _ S hv

/-! Functions. -/
theorem giveTVs_keep : ∀ (ts : List Ty) {os : List (Option NM)} {d : Ty.Ds ts} {s : VS} {vs : List TV} {s1 : VS}, giveTVs os ts d s = (vs, s1) → s1.env = s.env ∧ s1.boxes = s.boxes ∧ s1.gds = s.gds
  | [], os, d, s, vs, s1, h => by
    simp only [giveTVs, Prod.mk.injEq] at h
    obtain ⟨_, rfl⟩ := h
    exact ⟨rfl, rfl, rfl⟩
  | t :: ts, os, d, s, vs, s1, h => by
    cases t with
    | sl cs =>
      simp only [giveTVs] at h
      split at h
      · generalize hgg : giveTVs os.tail ts d.2 s = q at h
        obtain ⟨l, s2⟩ := q
        simp only [Prod.mk.injEq] at h
        obtain ⟨_, rfl⟩ := h
        exact giveTVs_keep ts hgg
      · rename_i m _
        generalize hnr : s.newRow ⟨if hasSl cs then m else .Z, cs, d.1⟩ = q at h
        obtain ⟨i, s2⟩ := q
        simp only at h
        generalize hgg : giveTVs os.tail ts d.2 s2 = q at h
        obtain ⟨l, s3⟩ := q
        simp only [Prod.mk.injEq] at h
        obtain ⟨_, rfl⟩ := h
        obtain ⟨h1, h2, h3⟩ := giveTVs_keep ts hgg
        have : s2 = (s.newRow ⟨if hasSl cs then m else .Z, cs, d.1⟩).2 := by rw [hnr]
        subst this
        exact ⟨h1, h2, h3⟩
    | _ =>
      simp only [giveTVs] at h
      generalize hgg : giveTVs os.tail ts d.2 s = q at h
      obtain ⟨l, s2⟩ := q
      simp only [Prod.mk.injEq] at h
      obtain ⟨_, rfl⟩ := h
      exact giveTVs_keep ts hgg
theorem groupL_len : ∀ (ps : List PK) (l : List TV), (groupL ps l).length = ps.length
  | [], l => rfl
  | p :: ps, l => by simp [groupL, groupL_len ps]
theorem ACells.len : ∀ (ps : List PK) {as l : List AV}, ACells ps as l → as.length = ps.length
  | [], [], l, _ => rfl
  | [], _ :: _, l, H => H.elim
  | _ :: _, [], l, H => H.elim
  | p :: ps, a :: as, l, ⟨_, _, _, _, _, h⟩ => by simp [ACells.len ps h]

theorem SRel.empty (h : Heap) (F : List Nat) : SRel ⟨h, F⟩ ⟨fun _ => .nils, fun _ => [], fun _ => false, fun _ => 0, 0⟩ [] h ⟨[], [], [], []⟩ where
  len := rfl
  env t v a h1 h2 := by simp at h1
  nb := rfl
  box b cs hb := by simp [VS.box?] at hb
  binj b b' h1 := absurd h1 (Nat.not_lt_zero _)
  bown b h1 := absurd h1 (Nat.not_lt_zero _)
  lv i := by simp [VS.row?]
  row i r hr := by simp [VS.row?] at hr
  dead i _ := ⟨rfl, rfl⟩
  lt i x hx := by simp [fp, rid] at hx
  nd i := by simp [fp, rid]
  dj i j x hx := by simp [fp, rid] at hx
  gd t g w v h1 := by simp at h1
  own i x hx := by simp [fp, rid] at hx
  fr x _ _ := rfl
  frb b _ := rfl
  nx := Nat.le_refl _
  bx := Nat.le_refl _

theorem resL_ok {B : Bg} {M : Mp} {env : List AV} {h : Heap} {s : VS} (S : SRel B M env h s) : ∀ (ars : List AR) {vs : List TV}, s.resL ars = some vs → ∃ as, aresL env h ars = some as ∧ TVRs M h vs as
  | [], vs, hr => by
    simp only [VS.resL, Option.some.injEq] at hr
    subst hr
    exact ⟨[], rfl, by simp only [TVRs]⟩
  | r :: ars, vs, hr => by
    simp only [VS.resL] at hr
    split at hr
    · rename_i v hv
      split at hr
      · rename_i vs' hvs
        simp only [Option.some.injEq] at hr
        subst hr
        obtain ⟨as, h1, h2⟩ := resL_ok S ars hvs
        have : ∃ a, ares1 env h r = some a ∧ TVR M h v a := by
          cases r with
          | tmp t =>
            simp only [VS.res1, Option.some.injEq] at hv
            subst hv
            exact ⟨_, rfl, S.ev (g := none) trivial (.tmp t)⟩
          | cell a agg n =>
            simp only [VS.res1] at hv
            split at hv
            · rename_i cs hp
              obtain ⟨as', g1, g2⟩ := S.place (S.ev (g := none) trivial (.tmp a)) hp
              obtain ⟨r, g3, g4⟩ := tload_ok g2 hv
              refine ⟨r, ?_, g4⟩
              have g1 : place h (env.getD a .bad) = some as' := g1
              simp only [ares1, g1]; exact g3
            · cases hv
        obtain ⟨a, g1, g2⟩ := this
        exact ⟨a :: as, by simp only [aresL, g1, h1], by simp only [TVRs]; exact ⟨g2, h2⟩⟩
      · cases hr
    · cases hr

theorem lits_cells' {h : Heap} : ∀ (ts : List Ty) {os : List (Option NM)} {d : Ty.Ds ts} {l : List AV}, (∀ o ∈ os, o = none) → LitCs ts d l → CellRels h os ts d l []
  | [], os, d, l, ho, H => by simp only [LitCs] at H; simp only [CellRels]; exact ⟨H, trivial⟩
  | t :: ts, os, d, [], ho, H => by simp only [LitCs] at H
  | t :: ts, os, d, a :: l, ho, H => by
    simp only [LitCs] at H
    simp only [CellRels]
    have h0 : hdO os = none := by cases os with
      | nil => rfl
      | cons o os => exact ho o List.mem_cons_self
    refine ⟨[], [], rfl, ?_, lits_cells' ts (fun o h => ho o (List.mem_of_mem_tail h)) H.2⟩
    cases t <;> simp only [CellRel, h0] <;> exact ⟨H.1, trivial⟩

/-- A function's call, from its typed body. -/
theorem fun_call (HC : ∀ f c, C f = some c → CtrOk P f c) {f : FuncId} {ac : ACode} {ars : List AR} {k : Nat} (hg : Good P (f, ac, ars, k)) (HL : LoopsOk C an L ac) {ps rs : List PK} (hk : ps.length ≤ k) {d : Ty.Ds (ps.flatMap (·.cs))} {y : Ty.Ds (rs.flatMap (·.cs))}
    (hv : vfun C an L ac ars k ps rs d = some y) {h : Heap} {as l : List AV} {F : List Nat} (hA : ACells ps as l) (hR : CellRels h (PK.owns ps) (ps.flatMap (·.cs)) d l F) (hn : F.Nodup) (hF : ∀ x ∈ F, x < h.next) :
    PCall P f as h fun r h' => ∃ rs' l' F', Res1 r rs' ∧ ACells rs rs' l' ∧ CellRels h' (PK.owns rs) (rs.flatMap (·.cs)) y l' F' ∧ F'.Nodup ∧ Fr h F h' ∧ ∀ x ∈ F', x < h'.next ∧ (x ∈ F ∨ h.next ≤ x) := by
  obtain ⟨fn, g1, g2, g3, g4, g5⟩ := hg
  have hlen := ACells.len ps hA
  refine PCall.of_fn g1 g2 g3 g4 g5 ?_
  unfold vfun at hv
  generalize hgg : giveTVs (PK.owns ps) (ps.flatMap (·.cs)) d ⟨[], [], [], []⟩ = q at hv
  obtain ⟨vs, s1⟩ := q
  have hst : VS.start k ps d = { s1 with env := groupL ps vs ++ List.replicate (k - ps.length) .bad } := by unfold VS.start; rw [hgg]
  rw [hst] at hv
  obtain ⟨M1, S1, _, T1⟩ := giveTVs_ok _ (SRel.empty h F) hR hn (fun x hx => ⟨fun j hj => by simp [fp, rid] at hj, hF x hx, .inl hx⟩) hgg
  obtain ⟨e1, e2, e3⟩ := giveTVs_keep _ hgg
  have TG := groupL_ok ps hA T1
  have S0 : SRel ⟨h, F⟩ M1 (as ++ List.replicate (k - as.length) (.tup [])) h { s1 with env := groupL ps vs ++ List.replicate (k - ps.length) .bad } := by
    refine { S1 with len := by simp [groupL_len, hlen], env := fun t v a h1 h2 => ?_, gd := fun t g w v h1 => ?_ }
    · by_cases ht : t < ps.length
      · rw [List.getElem?_append_left (by rw [groupL_len]; exact ht)] at h1
        rw [List.getElem?_append_left (by omega)] at h2
        exact .of (TG.get h1 h2)
      · rw [List.getElem?_append_right (by rw [groupL_len]; omega), List.getElem?_replicate] at h1
        split at h1
        · cases h1; simp only [EVR, TVR]
        · cases h1
    · by_cases ht : t < ps.length
      · rw [List.getElem?_append_left (by rw [groupL_len]; exact ht)] at h1
        have h2 := List.getElem?_eq_getElem (l := as) (i := t) (by omega)
        have := TG.get h1 h2
        simp only [TVR] at this
      · rw [List.getElem?_append_right (by rw [groupL_len]; omega), List.getElem?_replicate] at h1
        split at h1
        · cases h1
        · cases h1
  have fin : ∀ (e : AExit) (M' : Mp) (s' : VS) (st' : ASt), (match e with | .exit _ => False | _ => True) → SRel ⟨h, F⟩ M' st'.env st'.heap s' → (match s'.resL ars with | some vs => s'.ans rs vs | none => none) = some y → Ends ars (fun r h' => ∃ rs' l' F', Res1 r rs' ∧ ACells rs rs' l' ∧ CellRels h' (PK.owns rs) (rs.flatMap (·.cs)) y l' F' ∧ F'.Nodup ∧ Fr h F h' ∧ ∀ x ∈ F', x < h'.next ∧ (x ∈ F ∨ h.next ≤ x)) e st' := by
    intro e M' s' st' hne S' hr
    split at hr
    · rename_i vs' hres
      obtain ⟨as', k1, k2⟩ := resL_ok S' ars hres
      unfold VS.ans at hr
      split at hr
      · rename_i l' hac
        split at hr
        · rename_i d' s'' htk
          obtain rfl := Option.some.inj hr
          obtain ⟨la, q1, q2⟩ := argCells_ok rs hac k2
          obtain ⟨M2, C', q3, q4, q5, q6, q7⟩ := takeTVs_ok _ S' q2 htk
          have hap := Apart.of_eaten S' q7
          have post : ∀ r, Res1 r as' → ∃ rs' l' F', Res1 r rs' ∧ ACells rs rs' l' ∧ CellRels st'.heap (PK.owns rs) (rs.flatMap (·.cs)) d' l' F' ∧ F'.Nodup ∧ Fr h F st'.heap ∧ ∀ x ∈ F', x < st'.heap.next ∧ (x ∈ F ∨ h.next ≤ x) := fun r hr => ⟨as', la, C', hr, q1, q5, q6, ⟨S'.fr, S'.frb, S'.nx, S'.bx⟩, fun x hx => ⟨(hap x hx).2.1, (hap x hx).2.2⟩⟩
          have : ∃ r, ares st'.env st'.heap ars = some r ∧ Res1 r as' := by
            simp only [ares, k1]
            cases as' with
            | nil => exact ⟨_, rfl, .inr ⟨by simp, rfl⟩⟩
            | cons a l => cases l with
              | nil => exact ⟨_, rfl, .inl ⟨a, rfl, rfl⟩⟩
              | cons => exact ⟨_, rfl, .inr ⟨by simp, rfl⟩⟩
          obtain ⟨r, k3, k4⟩ := this
          cases e with
          | exit id => exact hne.elim
          | normal => simp only [Ends, k3]; exact post r k4
          | ret => simp only [Ends, k3]; exact post r k4
        · cases hr
      · cases hr
    · cases hr
  exact vcode_ok HC ac HL S0 hv (fun M' s' st' S' hk => fin .normal M' s' st' trivial S' hk) (fun j M' s' st' S' hk => by cases hk) (fun M' s' st' S' hk => fin .ret M' s' st' trivial S' hk)

/-- **A CONTRACT FROM A TYPED BODY**: a function that only reads, and makes its answers anew. -/
theorem CtrOk.fresh_of (HC : ∀ f c, C f = some c → CtrOk P f c) {f : FuncId} {ac : ACode} {ars : List AR} {k : Nat} (hg : Good P (f, ac, ars, k)) (HL : LoopsOk C an L ac) {ps rs : List PK} {fn : Ty.Ds (ps.flatMap (·.cs)) → Option (Ty.Ds (rs.flatMap (·.cs)))}
    (hw : (decide (ps.length ≤ k) && decide (Ty.deps (rs.flatMap (·.cs)) ≤ 7) && rs.all (fun p => p.agg || p.cs.length == 1) && (PK.owns ps).all (fun o => o.isNone) && ((PK.owns rs).all (fun o => o == some .S)) && (PK.owns rs).length == (rs.flatMap (·.cs)).length) = true)
    (hv : ∀ d y, fn d = some y → vfun C an L ac ars k ps rs d = some y) : CtrOk P f ⟨true, ps, rs, fn⟩ := by
  simp only [Bool.and_eq_true, decide_eq_true_eq, List.all_eq_true, Bool.or_eq_true, beq_iff_eq, Option.isNone_iff_eq_none] at hw
  obtain ⟨⟨⟨⟨⟨w1, w2⟩, w3⟩, w4⟩, w5⟩, w6⟩ := hw
  refine ⟨⟨w2, fun p hp ha => ?_⟩, fun d y hy as l hA hL => ?_⟩
  · rcases w3 p hp with h | h
    · rw [ha] at h; cases h
    · exact h
  · have hs : PK.owns rs = strict (rs.flatMap (·.cs)) := by
      refine List.ext_getElem? fun i => ?_
      simp only [strict, List.getElem?_map]
      by_cases hi : i < (PK.owns rs).length
      · rw [List.getElem?_eq_getElem hi, List.getElem?_eq_getElem (by omega), Option.map_some, w5 _ (List.getElem_mem hi)]
      · rw [List.getElem?_eq_none (by omega), List.getElem?_eq_none (by omega)]; rfl
    refine (fun_call HC hg HL w1 (hv d y hy) (h := Heap.nil) hA (lits_cells' _ w4 hL) List.nodup_nil (fun x hx => by simp at hx)).mono fun r h' ⟨rs', l', F', k1, k2, k3, k4, _⟩ => ⟨rs', l', F', k1, k2, ?_, k4⟩
    rw [← hs]; exact k3
/-- A function that is handed rows, and hands rows on. -/
theorem CtrOk.own_of (HC : ∀ f c, C f = some c → CtrOk P f c) {f : FuncId} {ac : ACode} {ars : List AR} {k : Nat} (hg : Good P (f, ac, ars, k)) (HL : LoopsOk C an L ac) {ps rs : List PK} {fn : Ty.Ds (ps.flatMap (·.cs)) → Option (Ty.Ds (rs.flatMap (·.cs)))} (hk : Nat.ble ps.length k = true)
    (hv : ∀ d y, fn d = some y → vfun C an L ac ars k ps rs d = some y) : CtrOk P f ⟨false, ps, rs, fn⟩ :=
  fun d y hy h as l F hA hR hn hF => fun_call HC hg HL (Nat.le_of_ble_eq_true hk) (hv d y hy) hA hR hn hF
end
end Go.PA
