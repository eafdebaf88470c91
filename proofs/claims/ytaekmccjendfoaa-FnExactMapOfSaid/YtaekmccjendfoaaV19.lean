/- Typed values: code, loops, functions: the plain code does what the typed code says. No condition. -/
import Derived.Test.YtaekmccjendfoaaV18
namespace Go.PA
set_option linter.unusedVariables false
set_option linter.unusedSimpArgs false

section
variable {P : Program} {C : Ctrs} {an : List (Nat × An)} {L : List LCtr}

theorem outOf_ok {e : Option Nat} {s : VS} : ∀ (l : List (Option Nat × Skel)) {o : Outs l}, outOf e s l = some o → ∃ k d, (∃ e', (e', k) ∈ l) ∧ Skel.ext k s = some d ∧ ∀ {ρ : Type} (E : Nat → VS → Option ρ) (R : VS → Option ρ), outTo E R l o = (match e with
    | some j => normK (k.fill d) (E j)
    | none => normK (k.fill d) R)
  | [], o, h => nomatch o
  | (e', k) :: l, o, h => by
    simp only [outOf] at h
    split at h
    · rename_i he
      split at h
      · rename_i d hd
        obtain rfl := Option.some.inj h
        refine ⟨k, d, ⟨_, List.mem_cons_self⟩, hd, fun E R => ?_⟩
        subst he
        cases e' <;> rfl
      · cases h
    · split at h
      · rename_i y hy
        obtain rfl := Option.some.inj h
        obtain ⟨k', d, ⟨e'', h0⟩, h1, h2⟩ := outOf_ok l hy
        exact ⟨k', d, ⟨e'', List.mem_cons_of_mem _ h0⟩, h1, fun E R => h2 E R⟩
      · cases h

theorem br_some {ρ : Type} {b : Bool} {x y : Option ρ} {out : ρ} (h : br b x y = some out) : (b = true ∧ x = some out) ∨ (b = false ∧ y = some out) := by
  cases b with
  | true => exact .inl ⟨rfl, h⟩
  | false => exact .inr ⟨rfl, h⟩

/-- All places have room for the boxes that were handed over. -/
def LBig (n : Nat) (L : List LCtr) : Prop := ∀ lc ∈ L, n ≤ lc.sk.boxes.length ∧ ∀ o ∈ lc.outs, n ≤ o.2.boxes.length
/-- **CODE.** -/
theorem vcode_ok (HC : ∀ f c, C f = some c → CtrOk P f c) {B : Bg} (c : ACode) : ∀ {ρ : Type} {L : List LCtr} {M : Mp} {s : VS} {st : ASt} {K : VS → Option ρ} {E : Nat → VS → Option ρ} {R : VS → Option ρ} {out : ρ}, LBig B.np L → LoopsOk C an L c → SRel B M st.env st.heap s → vcode C an L c s K E R = some out →
    ∀ {Q : AExit → ASt → Prop}, (∀ M' s' st', SRel B M' st'.env st'.heap s' → K s' = some out → Q .normal st') → (∀ j M' s' st', SRel B M' st'.env st'.heap s' → E j s' = some out → Q (.exit j) st') →
      (∀ M' s' st', SRel B M' st'.env st'.heap s' → R s' = some out → Q .ret st') → acode P c Q st := by
  induction c with
  | skip => intro ρ L M s st K E R out HB HL S hv Q hK hE hR; exact hK _ _ _ S hv
  | ops l =>
    intro ρ L M s st K E R out HB HL S hv Q hK hE hR
    exact vops_o HC l S hv (Q := fun env h => Q .normal ⟨env, h⟩) fun M' s' env' h' S' hk => hK M' s' ⟨env', h'⟩ S' hk
  | dops l => intro ρ L M s st K E R out HB HL S hv; cases hv
  | xops cf l =>
    intro ρ L M s st K E R out HB HL S hv Q hK hE hR
    exact vxops_ok HC l S hv (Q := fun env h => Q .normal ⟨env, h⟩) fun M' s' env' h' S' hk => hK M' s' ⟨env', h'⟩ S' hk
  | seq a b iha ihb =>
    intro ρ L M s st K E R out HB HL S hv Q hK hE hR
    exact iha (fun lc h => HB lc (List.mem_of_mem_take h)) HL.1 S hv (fun M' s' st' S' hk => ihb (fun lc h => HB lc (List.mem_of_mem_drop h)) HL.2 S' hk hK hE hR) hE hR
  | cond c a b iha ihb =>
    intro ρ L M s st K E R out HB HL S hv Q hK hE hR
    have hc := S.ev (g := none) trivial c
    have hv : (match s.ev none c with
      | .bool t => br t (vcode C an (L.take a.loops) a s K E R) (vcode C an (L.drop a.loops) b s K E R)
      | _ => none) = some out := hv
    split at hv
    · rename_i t ht
      rw [ht] at hc
      simp only [TVR] at hc
      simp only [acode, hc]
      rcases br_some hv with ⟨rfl, hv⟩ | ⟨rfl, hv⟩
      · rw [if_pos rfl]; exact iha (fun lc h => HB lc (List.mem_of_mem_take h)) HL.1 S hv hK hE hR
      · rw [if_neg (by simp)]; exact ihb (fun lc h => HB lc (List.mem_of_mem_drop h)) HL.2 S hv hK hE hR
    · cases hv
  | block id a iha =>
    intro ρ L M s st K E R out HB HL S hv Q hK hE hR
    refine iha HB HL S hv hK (fun j M' s' st' S' hk => ?_) hR
    simp only at hk ⊢
    split
    · rename_i hj; rw [if_pos hj] at hk; exact hK _ _ _ S' hk
    · rename_i hj; rw [if_neg hj] at hk; exact hE _ _ _ _ S' hk
  | loop a iha =>
    intro ρ L M s st K E R out HB HL S hv Q hK hE hR
    cases L with
    | nil => cases hv
    | cons lc Ls =>
      have hv : (match lc.sk.ext s with
        | some x => (lc.fn x).bind fun out => outTo E R lc.outs out
        | none => none) = some out := hv
      split at hv
      · rename_i x hx
        simp only [Option.bind_eq_some_iff] at hv
        obtain ⟨o, ho, hv⟩ := hv
        obtain ⟨m, hm⟩ := HL.1
        have hB := HB lc List.mem_cons_self
        obtain ⟨M0, S0⟩ := ext_ok S hB.1 hx
        have key : ∀ (N : Nat) (x : Ty.Ds lc.sk.ts), m x < N → lc.fn x = some o → ∀ (M : Mp) (st : ASt), SRel B M st.env st.heap (lc.sk.fill x) → ALoop (acode P a) Q st := by
          intro N
          induction N with
          | zero => intro x h; omega
          | succ N ihN =>
            intro x hmx hfx M st S
            refine ALoop.step ?_
            have hr := hm x o hfx
            unfold vround at hr
            refine iha (fun lc' h => HB lc' (List.mem_cons_of_mem _ h)) HL.2 S hr (fun M' s' st' S' hk => ?_) (fun j M' s' st' S' hk => ?_) (fun M' s' st' S' hk => ?_)
            · simp only at hk ⊢
              split at hk
              · rename_i y hy
                split at hk
                · rename_i hlt
                  obtain ⟨M1, S1⟩ := ext_ok S' hB.1 hy
                  exact ihN y (by omega) hk _ st' S1
                · cases hk
              · cases hk
            · obtain ⟨k, d, ⟨e', h0⟩, h1, h2⟩ := outOf_ok lc.outs hk
              obtain ⟨M1, S1⟩ := ext_ok S' (hB.2 _ h0) h1
              obtain ⟨s2, S2, hk2⟩ := normK_ok S1 ((h2 E R).symm.trans hv)
              exact hE j _ _ _ S2 hk2
            · obtain ⟨k, d, ⟨e', h0⟩, h1, h2⟩ := outOf_ok lc.outs hk
              obtain ⟨M1, S1⟩ := ext_ok S' (hB.2 _ h0) h1
              obtain ⟨s2, S2, hk2⟩ := normK_ok S1 ((h2 E R).symm.trans hv)
              exact hR _ _ _ S2 hk2
        exact key (m x + 1) x (Nat.lt_succ_self _) ho _ st S0
      · cases hv
  | exit id => intro ρ L M s st K E R out HB HL S hv Q hK hE hR; exact hE _ _ _ _ S hv
  | ret => intro ρ L M s st K E R out HB HL S hv Q hK hE hR; exact hR _ _ _ S hv

/-! Functions. -/
theorem giveTVs_keep : ∀ (ts : List Ty) {os : List (Option NM)} {d : Ty.Ds ts} {s : VS} {vs : List TV} {s1 : VS}, giveTVs os ts d s = (vs, s1) → s1.env = s.env ∧ s1.boxes = s.boxes ∧ s1.gds = s.gds
  | [], os, d, s, vs, s1, h => by
    simp only [giveTVs, Prod.mk.injEq] at h
    obtain ⟨_, rfl⟩ := h
    exact ⟨rfl, rfl, rfl⟩
  | t :: ts, os, d, s, vs, s1, h => by
    cases t with
    | sl cs =>
      simp only [giveTVs] at h
      split at h
      · generalize hgg : giveTVs os.tail ts d.2 s = q at h
        obtain ⟨l, s2⟩ := q
        simp only [Prod.mk.injEq] at h
        obtain ⟨_, rfl⟩ := h
        exact giveTVs_keep ts hgg
      · rename_i m _
        generalize hnr : s.newRow ⟨if hasSl cs then m else .Z, cs, d.1⟩ = q at h
        obtain ⟨i, s2⟩ := q
        simp only at h
        generalize hgg : giveTVs os.tail ts d.2 s2 = q at h
        obtain ⟨l, s3⟩ := q
        simp only [Prod.mk.injEq] at h
        obtain ⟨_, rfl⟩ := h
        obtain ⟨h1, h2, h3⟩ := giveTVs_keep ts hgg
        have : s2 = (s.newRow ⟨if hasSl cs then m else .Z, cs, d.1⟩).2 := by rw [hnr]
        subst this
        exact ⟨h1, h2, h3⟩
    | _ =>
      simp only [giveTVs] at h
      generalize hgg : giveTVs os.tail ts d.2 s = q at h
      obtain ⟨l, s2⟩ := q
      simp only [Prod.mk.injEq] at h
      obtain ⟨_, rfl⟩ := h
      exact giveTVs_keep ts hgg
theorem groupL_len : ∀ (ps : List PK) (l : List TV), (groupL ps l).length = ps.length
  | [], l => rfl
  | p :: ps, l => by simp [groupL, groupL_len ps]
theorem ACells.len : ∀ (ps : List PK) {as l : List AV}, ACells ps as l → as.length = ps.length
  | [], [], l, _ => rfl
  | [], _ :: _, l, H => H.elim
  | _ :: _, [], l, H => H.elim
  | p :: ps, a :: as, l, ⟨_, _, _, _, _, h⟩ => by simp [ACells.len ps h]

theorem SRel.empty (h : Heap) (F bs Z : List Nat) (hZ : ∀ z ∈ Z, z < h.next) : SRel ⟨h, F, bs, 0, Z, []⟩ ⟨fun _ => .nils, fun _ => [], fun _ => false, fun _ => 0, 0, Z⟩ [] h ⟨[], [], [], [], 0⟩ where
  len := rfl
  env t v a h1 h2 := by simp at h1
  nb := rfl
  box b cs hb := by simp [VS.box?] at hb
  binj b b' h1 := absurd h1 (Nat.not_lt_zero _)
  bown b h1 := absurd h1 (Nat.not_lt_zero _)
  lv i := by simp [VS.slot?]
  slot i r hr := by simp [VS.slot?] at hr
  dead i _ := ⟨rfl, rfl⟩
  lt i x hx := by simp [fp, rid] at hx
  nd i := by simp [fp, rid]
  dj i j x hx := by simp [fp, rid] at hx
  gd t g w v h1 := by simp at h1
  own i x hx := by simp [fp, rid] at hx
  fr x _ _ := rfl
  frb b _ _ := rfl
  nx := Nat.le_refl _
  bx := Nat.le_refl _
  hand j hj := absurd hj (Nat.not_lt_zero _)
  zlt := hZ
  zdj x _ i hx := by simp [fp, rid] at hx
  zown x hx := .inl hx
  bz x hx := hx
  pn := rfl
  pin i a hi := by simp at hi

theorem resL_ok {B : Bg} {M : Mp} {env : List AV} {h : Heap} {s : VS} (S : SRel B M env h s) : ∀ (ars : List AR) {vs : List TV}, s.resL ars = some vs → ∃ as, aresL env h ars = some as ∧ TVRs M h vs as
  | [], vs, hr => by
    simp only [VS.resL, Option.some.injEq] at hr
    subst hr
    exact ⟨[], rfl, by simp only [TVRs]⟩
  | r :: ars, vs, hr => by
    simp only [VS.resL] at hr
    split at hr
    · rename_i v hv
      split at hr
      · rename_i vs' hvs
        simp only [Option.some.injEq] at hr
        subst hr
        obtain ⟨as, h1, h2⟩ := resL_ok S ars hvs
        have : ∃ a, ares1 env h r = some a ∧ TVR M h v a := by
          cases r with
          | tmp t =>
            simp only [VS.res1, Option.some.injEq] at hv
            subst hv
            exact ⟨_, rfl, S.ev (g := none) trivial (.tmp t)⟩
          | cell a agg n =>
            simp only [VS.res1] at hv
            split at hv
            · rename_i cs hp
              obtain ⟨as', g1, g2⟩ := S.place (S.ev (g := none) trivial (.tmp a)) hp
              obtain ⟨r, g3, g4⟩ := tload_ok g2 hv
              refine ⟨r, ?_, g4⟩
              have g1 : place h (env.getD a .bad) = some as' := g1
              simp only [ares1, g1]; exact g3
            · cases hv
        obtain ⟨a, g1, g2⟩ := this
        exact ⟨a :: as, by simp only [aresL, g1, h1], by simp only [TVRs]; exact ⟨g2, h2⟩⟩
      · cases hr
    · cases hr

theorem lits_cells' {h : Heap} {Z : List Nat} : ∀ (ts : List Ty) {os : List (Option NM)} {d : Ty.Ds ts} {l : List AV}, (∀ o ∈ os, o = none) → LitCs h Z ts d l → CellRels h Z os ts d l []
  | [], os, d, l, ho, H => by simp only [LitCs] at H; simp only [CellRels]; exact ⟨H, trivial⟩
  | t :: ts, os, d, [], ho, H => by simp only [LitCs] at H
  | t :: ts, os, d, a :: l, ho, H => by
    simp only [LitCs] at H
    simp only [CellRels]
    have h0 : hdO os = none := by cases os with
      | nil => rfl
      | cons o os => exact ho o List.mem_cons_self
    refine ⟨[], [], rfl, ?_, lits_cells' ts (fun o h => ho o (List.mem_of_mem_tail h)) H.2⟩
    cases t <;> simp only [CellRel, h0] <;> exact ⟨H.1, trivial⟩

theorem outCells_ok {B : Bg} {M : Mp} {env : List AV} {h : Heap} {s : VS} (S : SRel B M env h s) : ∀ (qs : List PK) {j : Nat} {bs : List Nat} {l : List TV}, outCells s j qs = some l → bs.length = qs.length → (∀ i, i < bs.length → bs[i]? = some (M.β (j + i))) → ∃ la, OutC h qs bs la ∧ TVRs M h l la
  | [], j, [], l, hr, hl, hb => by
    simp only [outCells, Option.some.injEq] at hr
    subst hr
    exact ⟨[], by simp only [OutC], by simp only [TVRs]⟩
  | [], j, _ :: _, l, hr, hl, hb => by simp at hl
  | _ :: _, j, [], l, hr, hl, hb => by simp at hl
  | q :: qs, j, b :: bs, l, hr, hl, hb => by
    simp only [outCells] at hr
    split at hr
    · rename_i c hc
      split at hr
      · rename_i hlen
        have hlen := Nat.eq_of_beq_eq_true hlen
        split at hr
        · rename_i l' hl'
          obtain rfl := Option.some.inj hr
          obtain ⟨c1, k1, k2⟩ := S.box j c hc
          have h0 := hb 0 (by simp)
          simp only [List.getElem?_cons_zero, Nat.add_zero, Option.some.injEq] at h0
          obtain ⟨la, g1, g2⟩ := outCells_ok S qs (bs := bs) hl' (by simpa using hl) fun i hi => by
            have := hb (i + 1) (by simpa using hi)
            rw [List.getElem?_cons_succ] at this
            rw [this]; congr 2; omega
          exact ⟨c1 ++ la, ⟨c1, la, rfl, by rw [← k2.len]; exact hlen, by rw [h0]; exact k1, g1⟩, TVRs.iff.2 ((TVRs.iff.1 k2).append (TVRs.iff.1 g2))⟩
        · cases hr
      · cases hr
    · cases hr
theorem allGe_ok {n : Nat} : ∀ {l : List Nat}, allGe n l = true → ∀ b ∈ l, n ≤ b
  | [], _, b, hb => by simp at hb
  | c :: l, h, b, hb => by
    simp only [allGe] at h
    split at h
    · rename_i hc
      rcases List.mem_cons.1 hb with rfl | hb
      · exact Nat.le_of_ble_eq_true hc
      · exact allGe_ok h b hb
    · cases h
theorem groupB_len : ∀ (ps : List PK) (l : List TV) (s : VS), (groupB ps l s).1.length = ps.length ∧ (groupB ps l s).2.env = s.env ∧ (groupB ps l s).2.gds = s.gds
  | [], l, s => ⟨rfl, rfl, rfl⟩
  | p :: ps, l, s => by
    simp only [groupB]
    split
    · obtain ⟨h1, h2, h3⟩ := groupB_len ps (l.drop p.cs.length) (s.newBox (l.take p.cs.length)).2
      exact ⟨by simp [h1], h2, h3⟩
    · obtain ⟨h1, h2, h3⟩ := groupB_len ps (l.drop p.cs.length) s
      exact ⟨by simp [h1], h2, h3⟩
theorem PCells.nptr {h : Heap} : ∀ (ps : List PK) {as l : List AV} {bs : List Nat}, PCells h ps as l bs → bs.length = Go.PA.nptr ps
  | [], [], l, bs, H => by simp only [PCells] at H; rw [H.2]; rfl
  | [], _ :: _, l, bs, H => H.elim
  | _ :: _, [], l, bs, H => H.elim
  | p :: ps, a :: as, l, bs, ⟨c1, c2, e, h1, H⟩ => by
    simp only [Go.PA.nptr]
    split at H
    · rename_i hp
      rw [hp]
      obtain ⟨b, bs', rfl, _, _, H⟩ := H
      simp [PCells.nptr ps H]
    · rename_i hp
      rw [hp]
      exact PCells.nptr ps H.2
theorem PCells.lt {h : Heap} : ∀ (ps : List PK) {as l : List AV} {bs : List Nat}, PCells h ps as l bs → ∀ b ∈ bs, b < h.boxes.length
  | [], [], l, bs, H => by simp only [PCells] at H; intro b hb; rw [H.2] at hb; simp at hb
  | [], _ :: _, l, bs, H => H.elim
  | _ :: _, [], l, bs, H => H.elim
  | p :: ps, a :: as, l, bs, ⟨c1, c2, e, h1, H⟩ => by
    split at H
    · obtain ⟨b, bs', rfl, _, hb, H⟩ := H
      intro b' hb'
      rcases List.mem_cons.1 hb' with rfl | hb'
      · exact (List.getElem?_eq_some_iff.1 hb).1
      · exact PCells.lt ps H b' hb'
    · exact PCells.lt ps H.2
/-- A function's call, from its typed body. -/
theorem fun_call (HC : ∀ f c, C f = some c → CtrOk P f c) {f : FuncId} {ac : ACode} {ars : List AR} {k na : Nat} (hg : Good P (f, ac, ars, k)) (HL : LoopsOk C an L ac) {ps rs : List PK} (HB : LBig (nptr ps) L) (hk : ps.length ≤ k) {d : Ty.Ds (ps.flatMap (·.cs))} {y : Ty.Ds (rs.flatMap (·.cs))}
    (hv : vfun C an L ac ars k false na ps rs d = some y) {h : Heap} {as l : List AV} {F bs Z : List Nat} (hA : PCells h ps as l bs) (hR : CellRels h Z (PK.owns ps) (ps.flatMap (·.cs)) d l F) (hn : F.Nodup) (hF : ∀ x ∈ F, x < h.next) (hb : bs.Nodup) (hZ : ∀ z ∈ Z, z < h.next ∧ z ∉ F) :
    PCall P f as h fun r h' => ∃ rs' l1 l2 F' cb Z', Res1 r rs' ∧ PCells h' (rs.take na) rs' l1 cb ∧ OutC h' (rs.drop na) bs l2 ∧ CellRels h' Z' (PK.owns rs) (rs.flatMap (·.cs)) y (l1 ++ l2) F' ∧ F'.Nodup ∧ cb.Nodup ∧ (∀ b ∈ cb, h.boxes.length ≤ b) ∧ Fr h F bs h' ∧ (∀ x ∈ F', x < h'.next ∧ (x ∈ F ∨ h.next ≤ x)) ∧ ∀ z ∈ Z', z < h'.next ∧ z ∉ F' ∧ (z ∈ Z ∨ z ∈ F ∨ h.next ≤ z) := by
  obtain ⟨fn, g1, g2, g3, g4, g5⟩ := hg
  have hlen := (PCells.len ps hA).2
  refine PCall.of_fn g1 g2 g3 g4 g5 ?_
  replace hv : vcode C an L ac (VS.start k 0 ps d) (fun s1 => match s1.resL ars with
      | some vs => s1.ans (nptr ps) na rs vs
      | none => none) (fun _ _ => none) (fun s1 => match s1.resL ars with
      | some vs => s1.ans (nptr ps) na rs vs
      | none => none) = some y := hv
  unfold VS.start at hv
  generalize hgg : giveTVs (PK.owns ps) (ps.flatMap (·.cs)) d ⟨[], [], [], [], 0⟩ = q at hv
  obtain ⟨vs, s1⟩ := q
  simp only at hv
  generalize hgb : groupB ps vs s1 = q at hv
  obtain ⟨ws, s2⟩ := q
  simp only at hv
  obtain ⟨M1, S1, D1, T1⟩ := giveTVs_ok _ (SRel.empty h F bs Z fun z hz => (hZ z hz).1) hR hn (fun x hx => ⟨fun j hj => by simp [fp, rid] at hj, hF x hx, .inl hx, fun hz => (hZ x hz).2 hx⟩) hgg
  have hnb1 : M1.nb = 0 := by rw [S1.nb, giveTVs_boxes _ hgg]; rfl
  obtain ⟨M2, S2, D2, T2, hnb2, hβ2⟩ := groupB_ok ps (extra := []) S1 hA (by rw [List.append_nil]; exact T1) hb (fun b hbb => ⟨fun j hj => by omega, .inr hbb⟩) hgb
  rw [hnb1] at hnb2 hβ2
  obtain ⟨f1, f2, f3⟩ := groupB_len ps vs s1
  rw [hgb] at f1 f2 f3
  simp only at f1 f2 f3
  have hbl := PCells.nptr ps hA
  have S0 : SRel ⟨h, F, bs, Go.PA.nptr ps, Z, []⟩ M2 (as ++ List.replicate (k - as.length) (.tup [])) h { s2 with env := ws ++ List.replicate (k - ps.length) .bad, pn := 0 } := by
    refine { S2 with len := by simp [f1, hlen], env := fun t v a h1 h2 => ?_, gd := fun t g w v h1 => ?_, hand := fun j hj => ⟨by have hj : j < Go.PA.nptr ps := hj; rw [hnb2, hbl]; omega, by rw [hβ2 j (by rw [hbl]; exact hj), Nat.zero_add]⟩, pn := rfl }
    · by_cases ht : t < ps.length
      · rw [List.getElem?_append_left (by rw [f1]; exact ht)] at h1
        rw [List.getElem?_append_left (by omega)] at h2
        exact .of (T2.get h1 h2)
      · rw [List.getElem?_append_right (by rw [f1]; omega), List.getElem?_replicate] at h1
        split at h1
        · cases h1; simp only [EVR, TVR]
        · cases h1
    · by_cases ht : t < ps.length
      · rw [List.getElem?_append_left (by rw [f1]; exact ht)] at h1
        have h2 := List.getElem?_eq_getElem (l := as) (i := t) (by omega)
        have := T2.get h1 h2
        simp only [TVR] at this
      · rw [List.getElem?_append_right (by rw [f1]; omega), List.getElem?_replicate] at h1
        split at h1
        · cases h1
        · cases h1
  have fin : ∀ (e : AExit) (M' : Mp) (s' : VS) (st' : ASt), (match e with | .exit _ => False | _ => True) → SRel ⟨h, F, bs, Go.PA.nptr ps, Z, []⟩ M' st'.env st'.heap s' → (match s'.resL ars with | some vs => s'.ans (nptr ps) na rs vs | none => none) = some y →
      Ends ars (fun r h' => ∃ rs' l1 l2 F' cb Z', Res1 r rs' ∧ PCells h' (rs.take na) rs' l1 cb ∧ OutC h' (rs.drop na) bs l2 ∧ CellRels h' Z' (PK.owns rs) (rs.flatMap (·.cs)) y (l1 ++ l2) F' ∧ F'.Nodup ∧ cb.Nodup ∧ (∀ b ∈ cb, h.boxes.length ≤ b) ∧ Fr h F bs h' ∧ (∀ x ∈ F', x < h'.next ∧ (x ∈ F ∨ h.next ≤ x)) ∧ ∀ z ∈ Z', z < h'.next ∧ z ∉ F' ∧ (z ∈ Z ∨ z ∈ F ∨ h.next ≤ z)) e st' := by
    intro e M' s' st' hne S' hr
    split at hr
    · rename_i vs' hres
      obtain ⟨as', k1, k2⟩ := resL_ok S' ars hres
      unfold VS.ans at hr
      split at hr
      · rename_i l' cb hac
        split at hr
        · rename_i hcond
          simp only [Bool.and_eq_true] at hcond
          obtain ⟨hc1, hc2, hc3⟩ := hcond
          have hc3 := Nat.eq_of_beq_eq_true hc3
          split at hr
          · rename_i lo hout
            split at hr
            · rename_i d' s'' htk
              obtain rfl := Option.some.inj hr
              obtain ⟨la, q1, q2, q3⟩ := argCellsB_ok S' _ hac k2
              obtain ⟨lb, o1, o2⟩ := outCells_ok S' (rs.drop na) (bs := bs) hout (by rw [hbl, hc3]) fun i hi => by
                rw [Nat.zero_add]
                exact (S'.hand i (by show i < Go.PA.nptr ps; omega)).2
              obtain ⟨M3, C', q4, q5, q6, q7, q8⟩ := takeTVs_ok _ S' (TVRs.iff.2 ((TVRs.iff.1 q2).append (TVRs.iff.1 o2))) htk
              have hap := Apart.of_eaten S' q8
              have hcb : (cb.map M'.β).Nodup := nodup_map_on (nodupN_ok hc1) fun a ha b hb e => S'.binj a b (q3 a ha) (q3 b hb) e
              have hnew : ∀ b ∈ cb.map M'.β, h.boxes.length ≤ b := by
                intro b hb
                obtain ⟨j, hj, rfl⟩ := List.mem_map.1 hb
                rcases (S'.bown j (q3 j hj)).1 with h1 | h1
                · exact h1
                · exfalso
                  obtain ⟨i, hi⟩ := List.getElem?_of_mem h1
                  have hil : i < bs.length := (List.getElem?_eq_some_iff.1 hi).1
                  have hH := S'.hand i (by show i < Go.PA.nptr ps; omega)
                  have hi : bs[i]? = some (M'.β j) := hi
                  have hH2 : bs[i]? = some (M'.β i) := hH.2
                  rw [hH2] at hi
                  have := S'.binj i j hH.1 (q3 j hj) (Option.some.inj hi)
                  have := allGe_ok hc2 j hj
                  omega
              have post : ∀ r, Res1 r as' → ∃ rs' l1 l2 F' cb Z', Res1 r rs' ∧ PCells st'.heap (rs.take na) rs' l1 cb ∧ OutC st'.heap (rs.drop na) bs l2 ∧ CellRels st'.heap Z' (PK.owns rs) (rs.flatMap (·.cs)) d' (l1 ++ l2) F' ∧ F'.Nodup ∧ cb.Nodup ∧ (∀ b ∈ cb, h.boxes.length ≤ b) ∧ Fr h F bs st'.heap ∧ (∀ x ∈ F', x < st'.heap.next ∧ (x ∈ F ∨ h.next ≤ x)) ∧ ∀ z ∈ Z', z < st'.heap.next ∧ z ∉ F' ∧ (z ∈ Z ∨ z ∈ F ∨ h.next ≤ z) :=
                fun r hr => ⟨as', la, lb, C', _, M3.Z, hr, q1, o1, q6, q7, hcb, hnew, ⟨S'.fr, S'.frb, S'.nx, S'.bx⟩, fun x hx => ⟨(hap x hx).2.1, (hap x hx).2.2.1⟩, fun z hz => ⟨q4.zlt z hz, fun hc => (hap z hc).2.2.2 hz, q4.zown z hz⟩⟩
              have : ∃ r, ares st'.env st'.heap ars = some r ∧ Res1 r as' := by
                simp only [ares, k1]
                cases as' with
                | nil => exact ⟨_, rfl, .inr ⟨by simp, rfl⟩⟩
                | cons a l => cases l with
                  | nil => exact ⟨_, rfl, .inl ⟨a, rfl, rfl⟩⟩
                  | cons => exact ⟨_, rfl, .inr ⟨by simp, rfl⟩⟩
              obtain ⟨r, k3, k4⟩ := this
              cases e with
              | exit id => exact hne.elim
              | normal => simp only [Ends, k3]; exact post r k4
              | ret => simp only [Ends, k3]; exact post r k4
            · cases hr
          · cases hr
        · cases hr
      · cases hr
    · cases hr
  exact vcode_ok HC ac HB HL S0 hv (fun M' s' st' S' hk => fin .normal M' s' st' trivial S' hk) (fun j M' s' st' S' hk => by cases hk) (fun M' s' st' S' hk => fin .ret M' s' st' trivial S' hk)

theorem PCells.of {h : Heap} : ∀ (ps : List PK) {as l : List AV}, (∀ p ∈ ps, p.ptr = false) → ACells ps as l → PCells h ps as l []
  | [], [], l, hp, H => by simp only [ACells] at H; simp only [PCells]; exact ⟨H, trivial⟩
  | [], _ :: _, l, hp, H => H.elim
  | _ :: _, [], l, hp, H => H.elim
  | p :: ps, a :: as, l, hp, ⟨c1, c2, e, h1, h2, h3⟩ => by
    refine ⟨c1, c2, e, h2, ?_⟩
    rw [hp p List.mem_cons_self]
    exact ⟨h1, PCells.of ps (fun q hq => hp q (List.mem_cons_of_mem _ hq)) h3⟩
theorem PCells.to {h : Heap} : ∀ (ps : List PK) {as l : List AV} {bs : List Nat}, (∀ p ∈ ps, p.ptr = false) → PCells h ps as l bs → ACells ps as l ∧ bs = []
  | [], [], l, bs, hp, H => by simp only [PCells] at H; simp only [ACells]; exact H
  | [], _ :: _, l, bs, hp, H => H.elim
  | _ :: _, [], l, bs, hp, H => H.elim
  | p :: ps, a :: as, l, bs, hp, ⟨c1, c2, e, h1, H⟩ => by
    rw [hp p List.mem_cons_self] at H
    obtain ⟨h2, h3⟩ := PCells.to ps (fun q hq => hp q (List.mem_cons_of_mem _ hq)) H.2
    exact ⟨⟨c1, c2, e, H.1, h1, h2⟩, h3⟩
theorem nptr_zero : ∀ (ps : List PK), (∀ p ∈ ps, p.ptr = false) → nptr ps = 0
  | [], _ => rfl
  | p :: ps, hp => by simp only [nptr, hp p List.mem_cons_self]; exact nptr_zero ps fun q hq => hp q (List.mem_cons_of_mem _ hq)
theorem CellRel.anyZ {h : Heap} {Z Z' : List Nat} {t : Ty} {x : t.D} {a : AV} {F : List Nat} (H : CellRel h Z (some .S) t x a F) : CellRel h Z' (some .S) t x a F := by
  cases t with
  | sl cs =>
    simp only [CellRel] at *
    obtain ⟨N, h1, h2⟩ := H
    exact ⟨N, h1.strict, h2⟩
  | _ => simp only [CellRel, LitC] at *; exact H
theorem CellRels.anyZ {h : Heap} {Z Z' : List Nat} : ∀ (ts : List Ty) {x : Ty.Ds ts} {as : List AV} {F : List Nat}, CellRels h Z (strict ts) ts x as F → CellRels h Z' (strict ts) ts x as F
  | [], x, as, F, H => by simp only [CellRels] at *; exact H
  | t :: ts, x, [], F, H => by simp only [CellRels] at H
  | t :: ts, x, a :: as, F, H => by
    rw [strict_cons] at *
    simp only [CellRels] at H ⊢
    obtain ⟨F1, F2, e, h1, h2⟩ := H
    exact ⟨F1, F2, e, h1.anyZ, CellRels.anyZ ts h2⟩
/-- **A CONTRACT FROM A TYPED BODY**: a function that only reads, and makes its answers anew. -/
theorem CtrOk.fresh_of (HC : ∀ f c, C f = some c → CtrOk P f c) {f : FuncId} {ac : ACode} {ars : List AR} {k : Nat} (hg : Good P (f, ac, ars, k)) (HL : LoopsOk C an L ac) {ps rs : List PK} {fn : Ty.Ds (ps.flatMap (·.cs)) → Option (Ty.Ds (rs.flatMap (·.cs)))}
    (hw : (decide (ps.length ≤ k) && decide (Ty.deps (rs.flatMap (·.cs)) ≤ 7) && rs.all (fun p => p.agg || p.cs.length == 1) && (PK.owns ps).all (fun o => o.isNone) && ((PK.owns rs).all (fun o => o == some .S)) && (PK.owns rs).length == (rs.flatMap (·.cs)).length && ps.all (fun p => !p.ptr) && rs.all (fun p => !p.ptr)) = true)
    (hv : ∀ d y, fn d = some y → vfun C an L ac ars k false rs.length ps rs d = some y) : CtrOk P f ⟨true, false, rs.length, ps, rs, fn⟩ := by
  simp only [Bool.and_eq_true, decide_eq_true_eq, List.all_eq_true, Bool.or_eq_true, beq_iff_eq, Option.isNone_iff_eq_none, Bool.not_eq_true'] at hw
  obtain ⟨⟨⟨⟨⟨⟨⟨w1, w2⟩, w3⟩, w4⟩, w5⟩, w6⟩, w7⟩, w8⟩ := hw
  refine ⟨⟨w2, fun p hp ha => ?_⟩, fun d y hy as l hA hL => ?_⟩
  · rcases w3 p hp with h | h
    · rw [ha] at h; cases h
    · exact h
  · have hs : PK.owns rs = strict (rs.flatMap (·.cs)) := by
      refine List.ext_getElem? fun i => ?_
      simp only [strict, List.getElem?_map]
      by_cases hi : i < (PK.owns rs).length
      · rw [List.getElem?_eq_getElem hi, List.getElem?_eq_getElem (by omega), Option.map_some, w5 _ (List.getElem_mem hi)]
      · rw [List.getElem?_eq_none (by omega), List.getElem?_eq_none (by omega)]; rfl
    refine (fun_call HC hg HL (fun lc _ => by rw [nptr_zero ps w7]; exact ⟨Nat.zero_le _, fun _ _ => Nat.zero_le _⟩) w1 (hv d y hy) (h := Heap.nil) (Z := []) (PCells.of ps w7 hA) (lits_cells' _ w4 hL) List.nodup_nil (fun x hx => by simp at hx) List.nodup_nil (fun z hz => by simp at hz)).mono fun r h' ⟨rs', l1, l2, F', cb, Z', k1, k2, k3, k4, k5, _⟩ => ?_
    rw [List.take_length] at k2
    rw [List.drop_length] at k3
    have k3 : l2 = [] := k3
    subst k3
    rw [List.append_nil] at k4
    rw [hs] at k4
    exact ⟨rs', l1, F', k1, (PCells.to rs w8 k2).1, CellRels.anyZ _ k4, k5⟩
/-- A function that is handed rows and boxes, and hands them on. -/
theorem CtrOk.own_of (HC : ∀ f c, C f = some c → CtrOk P f c) {f : FuncId} {ac : ACode} {ars : List AR} {k na : Nat} (hg : Good P (f, ac, ars, k)) (HL : LoopsOk C an L ac) {ps rs : List PK} (HB : LBig (nptr ps) L) {fn : Ty.Ds (ps.flatMap (·.cs)) → Option (Ty.Ds (rs.flatMap (·.cs)))} (hk : Nat.ble ps.length k = true)
    (hv : ∀ d y, fn d = some y → vfun C an L ac ars k false na ps rs d = some y) : CtrOk P f ⟨false, false, na, ps, rs, fn⟩ :=
  fun d y hy h as l F bs Z hA hR hn hF hb hZ => fun_call HC hg HL HB (Nat.le_of_ble_eq_true hk) (hv d y hy) hA hR hn hF hb hZ
end
end Go.PA
