/- Typed values: calls. No condition. -/
import Derived.Test.YtaekmccjendfoaaV15
namespace Go.PA
set_option linter.unusedVariables false
set_option linter.unusedSimpArgs false
section
variable {B : Bg} {M : Mp} {env : List AV} {h : Heap} {s : VS}

theorem blankB_env : ∀ (bs : List Nat) (s : VS), (blankB bs s).env = s.env ∧ (blankB bs s).rows = s.rows ∧ (blankB bs s).gds = s.gds ∧ (blankB bs s).boxes.length = s.boxes.length ∧ (blankB bs s).pn = s.pn
  | [], s => ⟨rfl, rfl, rfl, rfl, rfl⟩
  | b :: bs, s => by
    obtain ⟨h1, h2, h3, h4, h5⟩ := blankB_env bs { s with boxes := s.boxes.set b none }
    exact ⟨h1, h2, h3, by rw [show blankB (b :: bs) s = blankB bs { s with boxes := s.boxes.set b none } from rfl, h4]; simp, h5⟩
theorem blankB_box : ∀ (bs : List Nat) (s : VS) {b : Nat} {cs : List TV}, (blankB bs s).box? b = some cs → b ∉ bs ∧ s.box? b = some cs
  | [], s, b, cs, h => ⟨by simp, h⟩
  | c :: bs, s, b, cs, h => by
    obtain ⟨h1, h2⟩ := blankB_box bs { s with boxes := s.boxes.set c none } h
    rw [VS.box?_eq] at h2
    simp only [List.getElem?_set] at h2
    by_cases e : c = b
    · subst e
      simp only [if_true] at h2
      split at h2 <;> cases h2
    · rw [if_neg e] at h2
      exact ⟨by simp [h1, Ne.symm e], VS.box?_eq.2 h2⟩
theorem SRel.frameB (S : SRel B M env h s) {F bs : List Nat} {h' : Heap} (D : Fr h F (bs.map M.β) h') (hbs : ∀ b ∈ bs, b < M.nb) (hF : ∀ x ∈ F, (∀ j, x ∉ fp M j) ∧ (x ∈ B.F ∨ B.h.next ≤ x) ∧ x ∉ M.Z) : SRel B M env h' (blankB bs s) := by
  have hs : ∀ j x, x ∈ fp M j → h'.rows x = h.rows x := fun j x hx => D.rows x (S.lt j x hx) fun hf => (hF x hf).1 j hx
  have hz : ZUp h M.Z h' M.Z := fun x hx => ⟨hx, D.rows x (S.zlt x hx) fun hf => (hF x hf).2.2 hx⟩
  have Dm : Mono M h M h' := ⟨fun b hb => ⟨hb, rfl⟩, fun j hj => ⟨hj, rfl, fun x hx => ⟨hx, hs j x (List.mem_append_right _ hx)⟩⟩, fun j _ x hx => hs j x (List.mem_append_left _ hx), hz⟩
  obtain ⟨b1, b2, b3, b4, b5⟩ := blankB_env bs s
  have hrow : ∀ i, (blankB bs s).slot? i = s.slot? i := fun i => slot?_ext b2 i
  refine { len := by rw [b1]; exact S.len, env := fun t v a h1 h2 => (S.env t v a (by rw [b1] at h1; exact h1) h2).mono Dm, nb := by rw [b4]; exact S.nb, box := fun b cs hb => ?_, binj := S.binj, bown := fun b hb => ⟨(S.bown b hb).1, Nat.lt_of_lt_of_le (S.bown b hb).2 D.bx⟩,
           lv := fun i => by rw [hrow]; exact S.lv i, slot := fun i r hr => (S.slot i r (by rw [hrow] at hr; exact hr)).heap hz fun x hx => hs i x hx, dead := S.dead, lt := fun i x hx => Nat.lt_of_lt_of_le (S.lt i x hx) D.nx, nd := S.nd, dj := S.dj, gd := fun t g w v h1 => by rw [b3]; exact S.gd t g w v (by rw [b1] at h1; exact h1),
           own := S.own, fr := fun x h1 h2 => ?_, frb := fun b hb hnb => ?_, nx := Nat.le_trans S.nx D.nx, bx := Nat.le_trans S.bx D.bx, hand := S.hand, zlt := fun x hx => Nat.lt_of_lt_of_le (S.zlt x hx) D.nx, zdj := S.zdj, zown := S.zown, bz := S.bz, pn := by rw [b5]; exact S.pn, pin := S.pin }
  · obtain ⟨hnb, hb⟩ := blankB_box bs s hb
    obtain ⟨as, h1, h2⟩ := S.box b cs hb
    have hlt : b < M.nb := by rw [S.nb]; exact (List.getElem?_eq_some_iff.1 (VS.box?_eq.1 hb)).1
    refine ⟨as, ?_, h2.mono Dm⟩
    rw [D.boxes _ (S.bown b hlt).2 fun hm => ?_]
    · exact h1
    · obtain ⟨b', hb', e⟩ := List.mem_map.1 hm
      have := S.binj b' b (hbs b' hb') hlt e
      subst this
      exact hnb hb'
  · rw [← S.fr x h1 h2]
    refine D.rows x (Nat.lt_of_lt_of_le h1 S.nx) fun hx => ?_
    rcases (hF x hx).2.1 with h3 | h3
    · exact h2 h3
    · omega
  · rw [D.boxes b (Nat.lt_of_lt_of_le hb S.bx) fun hm => ?_]
    · exact S.frb b hb hnb
    · obtain ⟨b', hb', e⟩ := List.mem_map.1 hm
      rcases (S.bown b' (hbs b' hb')).1 with h3 | h3
      · omega
      · exact hnb (e ▸ h3)
theorem SRel.frame (S : SRel B M env h s) {F : List Nat} {h' : Heap} (D : Fr h F [] h') (hF : ∀ x ∈ F, (∀ j, x ∉ fp M j) ∧ (x ∈ B.F ∨ B.h.next ≤ x) ∧ x ∉ M.Z) : SRel B M env h' s :=
  S.frameB (bs := []) D (fun b hb => by simp at hb) hF

/-! Boxes that lie there already. -/
theorem SRel.addBox (S : SRel B M env h s) {b : Nat} {cs : List TV} {as : List AV} (hb : h.boxes[b]? = some as) (H : TVRs M h cs as) (hne : ∀ j, j < M.nb → M.β j ≠ b) (ho : B.h.boxes.length ≤ b ∨ b ∈ B.bs) :
    SRel B (M.addBox b) env h (s.newBox cs).2 ∧ Mono M h (M.addBox b) h ∧ TVR (M.addBox b) h (.box (s.newBox cs).1 0) (.box b 0) := by
  have D : Mono M h (M.addBox b) h := ⟨fun j hj => ⟨by show j < M.nb + 1; omega, by show (if j = M.nb then _ else _) = _; rw [if_neg (by omega)]⟩, fun j hj => ⟨hj, rfl, fun x hx => ⟨hx, rfl⟩⟩, fun _ _ _ _ => rfl, .refl _ _⟩
  have hβ : ∀ j, j < M.nb → (M.addBox b).β j = M.β j := fun j hj => (D.box j hj).2
  have hβn : (M.addBox b).β M.nb = b := if_pos rfl
  have hbx : (s.newBox cs).2.boxes = s.boxes ++ [some cs] := rfl
  have hlt : b < h.boxes.length := (List.getElem?_eq_some_iff.1 hb).1
  refine ⟨⟨S.len, fun t v a h1 h2 => (S.env t v a h1 h2).mono D, ?_, fun j cs' hj => ?_, fun j j' hj hj' e => ?_, fun j hj => ?_, S.lv, S.slot, S.dead, S.lt, S.nd, S.dj, S.gd, S.own, S.fr, S.frb, S.nx, S.bx, fun j hj => ⟨Nat.lt_succ_of_lt (S.hand j hj).1, by rw [hβ j (S.hand j hj).1]; exact (S.hand j hj).2⟩, S.zlt, S.zdj, S.zown, S.bz, S.pn, S.pin⟩, D, ?_⟩
  · show M.nb + 1 = (s.boxes ++ [some cs]).length
    rw [S.nb]; simp
  · rw [VS.box?_eq, hbx] at hj
    by_cases hl : j < s.boxes.length
    · rw [List.getElem?_append_left hl] at hj
      obtain ⟨as', h1, h2⟩ := S.box j cs' (VS.box?_eq.2 hj)
      refine ⟨as', ?_, h2.mono D⟩
      rw [hβ j (by rw [S.nb]; exact hl)]; exact h1
    · have hbe : j = s.boxes.length := by
        have := (List.getElem?_eq_some_iff.1 hj).1
        simp at this; omega
      subst hbe
      simp at hj
      subst hj
      refine ⟨as, ?_, H.mono D⟩
      rw [← S.nb, hβn]; exact hb
  · have hj : j < M.nb + 1 := hj
    have hj' : j' < M.nb + 1 := hj'
    by_cases h1 : j = M.nb <;> by_cases h2 : j' = M.nb
    · rw [h1, h2]
    · subst h1
      rw [hβn, hβ j' (by omega)] at e
      exact absurd e.symm (hne j' (by omega))
    · subst h2
      rw [hβn, hβ j (by omega)] at e
      exact absurd e (hne j (by omega))
    · rw [hβ j (by omega), hβ j' (by omega)] at e
      exact S.binj j j' (by omega) (by omega) e
  · have hj : j < M.nb + 1 := hj
    by_cases h1 : j = M.nb
    · subst h1; rw [hβn]; exact ⟨ho, hlt⟩
    · rw [hβ j (by omega)]; exact S.bown j (by omega)
  · simp only [TVR]
    refine ⟨?_, ?_⟩
    · show s.boxes.length < M.nb + 1
      rw [S.nb]; omega
    · show _ = AV.box ((M.addBox b).β s.boxes.length) 0
      rw [← S.nb, hβn]
theorem SRel.putBox (S : SRel B M env h s) {b : Nat} {cs : List TV} {as : List AV} (hlt : b < M.nb) (hb : h.boxes[M.β b]? = some as) (H : TVRs M h cs as) : SRel B M env h { s with boxes := s.boxes.set b (some cs) } := by
  refine { S with nb := by simp [S.nb], box := fun j cs' hj => ?_ }
  rw [VS.box?_eq] at hj
  simp only [List.getElem?_set] at hj
  by_cases e : b = j
  · subst e
    simp only [if_true] at hj
    split at hj
    · simp at hj; subst hj; exact ⟨as, hb, H⟩
    · cases hj
  · rw [if_neg e] at hj
    exact S.box j cs' (VS.box?_eq.2 hj)
theorem putBoxes_ok : ∀ (qs : List PK) {bs : List Nat} {l : List AV} {vs : List TV} {s : VS}, SRel B M env h s → OutC h qs (bs.map M.β) l → TVRs M h vs l → (∀ b ∈ bs, b < M.nb) → SRel B M env h (putBoxes qs bs vs s)
  | [], [], l, vs, s, S, H, HT, hb => S
  | [], _ :: _, l, vs, s, S, H, HT, hb => H.elim
  | _ :: _, [], l, vs, s, S, H, HT, hb => H.elim
  | q :: qs, b :: bs, l, vs, s, S, ⟨c1, c2, e, h1, h2, h3⟩, HT, hb => by
    subst e
    have ht : TVRs M h (vs.take q.cs.length) c1 := by have := HT.take' c1.length; rw [List.take_left] at this; rw [← h1]; exact this
    have hd : TVRs M h (vs.drop q.cs.length) c2 := by have := HT.drop' c1.length; rw [List.drop_left] at this; rw [← h1]; exact this
    exact putBoxes_ok qs (S.putBox (hb b List.mem_cons_self) h2 ht) h3 hd fun b' hb' => hb b' (List.mem_cons_of_mem _ hb')
theorem PCells.len : ∀ (ps : List PK) {as l : List AV} {bs : List Nat}, PCells h ps as l bs → l.length = ncells ps ∧ as.length = ps.length
  | [], [], l, bs, H => by simp only [PCells] at H; simp [H.1, ncells]
  | [], _ :: _, l, bs, H => H.elim
  | _ :: _, [], l, bs, H => H.elim
  | p :: ps, a :: as, l, bs, ⟨c1, c2, e, h1, H⟩ => by
    subst e
    have : c2.length = ncells ps ∧ as.length = ps.length := by
      split at H
      · obtain ⟨b, bs', _, _, _, H⟩ := H
        exact PCells.len ps H
      · exact PCells.len ps H.2
    simp [ncells, h1, this.1, this.2]
theorem groupB_ok : ∀ (ps : List PK) {rs cells extra : List AV} {cb : List Nat} {vs ws : List TV} {M : Mp} {s s1 : VS}, SRel B M env h s → PCells h ps rs cells cb → TVRs M h vs (cells ++ extra) → cb.Nodup → (∀ b ∈ cb, (∀ j, j < M.nb → M.β j ≠ b) ∧ (B.h.boxes.length ≤ b ∨ b ∈ B.bs)) →
    groupB ps vs s = (ws, s1) → ∃ M1, SRel B M1 env h s1 ∧ Mono M h M1 h ∧ TVRs M1 h ws rs ∧ M1.nb = M.nb + cb.length ∧ (∀ j, j < cb.length → cb[j]? = some (M1.β (M.nb + j)))
  | [], [], cells, extra, cb, vs, ws, M, s, s1, S, H, HT, hn, hcb, hg => by
    simp only [PCells] at H
    simp only [groupB, Prod.mk.injEq] at hg
    obtain ⟨rfl, rfl⟩ := hg
    obtain ⟨rfl, rfl⟩ := H
    exact ⟨M, S, .refl M h, by simp only [TVRs], rfl, fun j hj => by simp at hj⟩
  | [], _ :: _, cells, extra, cb, vs, ws, M, s, s1, S, H, HT, hn, hcb, hg => H.elim
  | _ :: _, [], cells, extra, cb, vs, ws, M, s, s1, S, H, HT, hn, hcb, hg => H.elim
  | p :: ps, a :: rs, cells, extra, cb, vs, ws, M, s, s1, S, ⟨c1, c2, e, h1, H⟩, HT, hn, hcb, hg => by
    subst e
    rw [List.append_assoc] at HT
    have ht : TVRs M h (vs.take p.cs.length) c1 := by have := HT.take' c1.length; rw [List.take_left] at this; rw [← h1]; exact this
    have hd : TVRs M h (vs.drop p.cs.length) (c2 ++ extra) := by have := HT.drop' c1.length; rw [List.drop_left] at this; rw [← h1]; exact this
    simp only [groupB] at hg
    split at H
    · rename_i hp
      rw [hp] at hg
      obtain ⟨b, bs', rfl, rfl, hbx, H⟩ := H
      simp only at hg
      obtain ⟨q1, q2⟩ := hcb b List.mem_cons_self
      obtain ⟨S1, D1, T1⟩ := S.addBox hbx ht q1 q2
      generalize hnb : s.newBox (vs.take p.cs.length) = q at hg S1 T1
      obtain ⟨bi, s2⟩ := q
      simp only at hg S1 T1
      generalize hgg : groupB ps (vs.drop p.cs.length) s2 = q at hg
      obtain ⟨ws', s3⟩ := q
      simp only [Prod.mk.injEq] at hg
      obtain ⟨rfl, rfl⟩ := hg
      obtain ⟨n1, n2⟩ := List.nodup_cons.1 hn
      obtain ⟨M2, S2, D2, T2, g1, g2⟩ := groupB_ok ps S1 H (hd.mono D1) n2 (fun b' hb' => by
        obtain ⟨u1, u2⟩ := hcb b' (List.mem_cons_of_mem _ hb')
        refine ⟨fun j hj e => ?_, u2⟩
        have hj : j < M.nb + 1 := hj
        by_cases hjn : j = M.nb
        · subst hjn
          have : (M.addBox b).β M.nb = b := if_pos rfl
          rw [this] at e
          subst e
          exact n1 hb'
        · rw [(D1.box j (by omega)).2] at e
          exact u1 j (by omega) e) hgg
      refine ⟨M2, S2, D1.trans D2, by simp only [TVRs]; exact ⟨TVR.mono D2 _ T1, T2⟩, by rw [g1]; show M.nb + 1 + _ = _; simp; omega, fun j hj => ?_⟩
      · cases j with
        | zero =>
          have hlt : M.nb < (M.addBox b).nb := Nat.lt_succ_self _
          have : (M.addBox b).β M.nb = b := if_pos rfl
          rw [Nat.add_zero, (D2.box M.nb hlt).2, this]; rfl
        | succ j =>
          have := g2 j (by simpa using hj)
          rw [List.getElem?_cons_succ, this]
          show some (M2.β (M.nb + 1 + j)) = _
          congr 2; omega
    · rename_i hp
      rw [hp] at hg
      obtain ⟨ha, H⟩ := H
      simp only at hg
      generalize hgg : groupB ps (vs.drop p.cs.length) s = q at hg
      obtain ⟨ws', s3⟩ := q
      simp only [Prod.mk.injEq] at hg
      obtain ⟨rfl, rfl⟩ := hg
      obtain ⟨M2, S2, D2, T2, g1, g2⟩ := groupB_ok ps S H hd hn hcb hgg
      refine ⟨M2, S2, D2, ?_, g1, g2⟩
      simp only [TVRs]
      refine ⟨?_, T2⟩
      split at ha
      · rename_i hpa
        rw [if_pos hpa, ha]
        simp only [TVR]
        exact ⟨c1, rfl, ht.mono D2⟩
      · rename_i hpa
        rw [if_neg hpa]
        subst ha
        cases vs with
        | nil => simp only [TVRs, List.singleton_append, reduceCtorEq] at HT
        | cons v vs => simp only [List.singleton_append, TVRs] at HT; exact TVR.mono D2 v HT.1

theorem giveTVs_ok : ∀ (ts : List Ty) {os : List (Option NM)} {d : Ty.Ds ts} {M : Mp} {s : VS} {cells : List AV} {F : List Nat} {vs : List TV} {s1 : VS}, SRel B M env h s → CellRels h M.Z os ts d cells F → F.Nodup → Apart B M h F → giveTVs os ts d s = (vs, s1) →
    ∃ M1, SRel B M1 env h s1 ∧ Mono M h M1 h ∧ TVRs M1 h vs cells
  | [], os, d, M, s, cells, F, vs, s1, S, H, hn, hF, hg => by
    simp only [giveTVs, Prod.mk.injEq] at hg
    obtain ⟨rfl, rfl⟩ := hg
    simp only [CellRels] at H
    exact ⟨M, S, .refl M h, by simp only [TVRs]; exact H.1⟩
  | t :: ts, os, d, M, s, [], F, vs, s1, S, H, hn, hF, hg => by simp only [CellRels] at H
  | t :: ts, os, d, M, s, a :: cells, F, vs, s1, S, H, hn, hF, hg => by
    simp only [CellRels] at H
    obtain ⟨F1, F2, rfl, h1, h2⟩ := H
    obtain ⟨n1, n2, n3⟩ := List.nodup_append.1 hn
    have lit_ : ∀ (u : TV) (vs' : List TV), giveTVs os.tail ts d.2 s = (vs', s1) → vs = u :: vs' → TVR M h u a → ∃ M1, SRel B M1 env h s1 ∧ Mono M h M1 h ∧ TVRs M1 h vs (a :: cells) := by
      intro u vs' hg' e hu
      subst e
      obtain ⟨M1, p1, p2, p3⟩ := giveTVs_ok ts S h2 n2 (fun x hx => hF x (List.mem_append_right _ hx)) hg'
      exact ⟨M1, p1, p2, by simp only [TVRs]; exact ⟨hu.mono p2, p3⟩⟩
    cases t with
    | sl cs =>
      simp only [giveTVs] at hg
      simp only [CellRel] at h1
      split at hg
      · rename_i ho
        rw [ho] at h1
        obtain ⟨h1, rfl⟩ := h1
        generalize hgg : giveTVs os.tail ts d.2 s = q at hg
        obtain ⟨l, s2⟩ := q
        simp only [Prod.mk.injEq] at hg
        obtain ⟨rfl, rfl⟩ := hg
        exact lit_ _ _ hgg rfl (by simp only [TVR]; exact h1)
      · rename_i m ho
        rw [ho] at h1
        obtain ⟨N, h1, rfl⟩ := h1
        generalize hnr : s.newRow ⟨if hasSl cs then m else .Z, cs, d.1⟩ = q at hg
        obtain ⟨i, s2⟩ := q
        simp only at hg
        generalize hgg : giveTVs os.tail ts d.2 s2 = q at hg
        obtain ⟨l, s3⟩ := q
        simp only [Prod.mk.injEq] at hg
        obtain ⟨rfl, rfl⟩ := hg
        obtain ⟨k1, k2⟩ := newRow_slot? s ⟨if hasSl cs then m else .Z, cs, d.1⟩
        have hs2 : s2.env = s.env ∧ s2.boxes = s.boxes ∧ s2.gds = s.gds ∧ s2.pn = s.pn := by
          have : s2 = (s.newRow ⟨if hasSl cs then m else .Z, cs, d.1⟩).2 := by rw [hnr]
          subst this; exact ⟨rfl, rfl, rfl, rfl⟩
        rw [hnr] at k1 k2
        have hi := S.not_lv k1
        obtain ⟨N', g1, g2, g3, g4⟩ : ∃ N', RowRel h M.Z (if hasSl cs then m else .Z) cs d.1 a N' ∧ (∀ x ∈ N', x ∈ N) ∧ (N.Nodup → N'.Nodup) ∧ True := by
          cases hf : hasSl cs with
          | true => exact ⟨N, by simpa using h1, fun _ h => h, fun h => h, trivial⟩
          | false => exact ⟨[], by simpa using (RowRel.flat hf .Z h1).2, fun x h => by simp at h, fun _ => List.nodup_nil, trivial⟩
        have hsub : ∀ x ∈ rid a ++ N', x ∈ rid a ++ N := fun x hx => by
          rcases List.mem_append.1 hx with hx | hx
          · exact List.mem_append_left _ hx
          · exact List.mem_append_right _ (g2 x hx)
        have hap : ∀ x ∈ rid a ++ N', (∀ j, x ∉ fp M j) ∧ x < h.next ∧ (x ∈ B.F ∨ B.h.next ≤ x) ∧ x ∉ M.Z := fun x hx => hF x (List.mem_append_left _ (hsub x hx))
        have S2 : SRel B (M.add i a N') env h s2 := S.addRow (i := i) hi (fun _ _ _ => rfl) (fun _ _ => rfl) (fun x hx => (hap x hx).2.2.2) (fun _ _ _ => rfl) (fun x hx => (hap x (List.mem_append_left _ hx)).1) rfl (Nat.le_refl _) g1
          (by
            obtain ⟨q1, q2, q3⟩ := List.nodup_append.1 n1
            exact List.nodup_append.2 ⟨q1, g3 q2, fun x hx y hy e => q3 x hx y (g2 y hy) e⟩)
          (fun x hx => ⟨(hap x (List.mem_append_right _ hx)).2.1, (hap x (List.mem_append_right _ hx)).1, (hap x (List.mem_append_right _ hx)).2.2.1⟩) (fun x hx => ⟨(hap x (List.mem_append_left _ hx)).2.1, (hap x (List.mem_append_left _ hx)).2.2.1⟩) hs2.1 hs2.2.1 hs2.2.2.1 hs2.2.2.2 k2
        have D : Mono M h (M.add i a N') h := S.mono_add hi (fun _ _ _ => rfl) (fun _ _ => rfl) a N'
        have hF2 : Apart B (M.add i a N') h F2 := fun x hx => by
          obtain ⟨q1, q2, q3⟩ := hF x (List.mem_append_right _ hx)
          refine ⟨fun j hj => ?_, q2, q3⟩
          rw [fp_add] at hj
          split at hj
          · exact n3 x (hsub x hj) x hx rfl
          · exact q1 j hj
        obtain ⟨M1, p1, p2, p3⟩ := giveTVs_ok ts S2 h2 n2 hF2 hgg
        refine ⟨M1, p1, D.trans p2, ?_⟩
        · simp only [TVRs]
          refine ⟨TVR.mono p2 (.ref i) ?_, p3⟩
          simp only [TVR, Mp.add, if_true]
          exact ⟨trivial, trivial⟩
    | _ =>
      simp only [giveTVs] at hg
      simp only [CellRel] at h1
      obtain ⟨h1, rfl⟩ := h1
      generalize hgg : giveTVs os.tail ts d.2 s = q at hg
      obtain ⟨l, s2⟩ := q
      simp only [Prod.mk.injEq] at hg
      obtain ⟨rfl, rfl⟩ := hg
      exact lit_ _ _ hgg rfl (toTV_lit h1)

theorem giveTVs_boxes : ∀ (ts : List Ty) {os : List (Option NM)} {d : Ty.Ds ts} {s s1 : VS} {vs : List TV}, giveTVs os ts d s = (vs, s1) → s1.boxes = s.boxes
  | [], os, d, s, s1, vs, hg => by simp only [giveTVs, Prod.mk.injEq] at hg; rw [hg.2]
  | t :: ts, os, d, s, s1, vs, hg => by
    cases t with
    | sl cs =>
      simp only [giveTVs] at hg
      split at hg
      · generalize hgg : giveTVs os.tail ts d.2 s = q at hg
        obtain ⟨l, s2⟩ := q
        simp only [Prod.mk.injEq] at hg
        obtain ⟨_, rfl⟩ := hg
        exact giveTVs_boxes ts hgg
      · rename_i m ho
        generalize hnr : s.newRow ⟨if hasSl cs then m else .Z, cs, d.1⟩ = q at hg
        obtain ⟨i, s2⟩ := q
        simp only at hg
        generalize hgg : giveTVs os.tail ts d.2 s2 = q at hg
        obtain ⟨l, s3⟩ := q
        simp only [Prod.mk.injEq] at hg
        obtain ⟨_, rfl⟩ := hg
        rw [giveTVs_boxes ts hgg]
        have : s2 = (s.newRow ⟨if hasSl cs then m else .Z, cs, d.1⟩).2 := by rw [hnr]
        subst this; rfl
    | _ =>
      simp only [giveTVs] at hg
      generalize hgg : giveTVs os.tail ts d.2 s = q at hg
      obtain ⟨l, s2⟩ := q
      simp only [Prod.mk.injEq] at hg
      obtain ⟨_, rfl⟩ := hg
      exact giveTVs_boxes ts hgg
theorem roTV_ok (S : SRel B M env h s) {t : Ty} {v : TV} {d : t.D} {a : AV} {n : Nat} (hr : roTV s t v = some d) (H : TVR M h v a) (hn : t.dep ≤ n) : ∃ t', dec h n a = some t' ∧ L0 t d t' := by
  unfold roTV at hr
  split at hr
  · split at hr
    · rename_i hk
      obtain rfl := Option.some.inj hr
      subst hk
      simp only [TVR] at H
      subst H
      exact ⟨_, dec_scalar_int h n _ _, by show LitC _ _ _ _ _; simp only [LitC]⟩
    · cases hr
  · obtain rfl := Option.some.inj hr
    simp only [TVR] at H
    subst H
    exact ⟨_, dec_scalar_bool h n _, by show LitC _ _ _ _ _; simp only [LitC]⟩
  · obtain rfl := Option.some.inj hr
    simp only [TVR] at H
    subst H
    exact ⟨_, dec_scalar_str h n _, by show LitC _ _ _ _ _; simp only [LitC]⟩
  · obtain rfl := Option.some.inj hr
    simp only [TVR] at H
    subst H
    exact ⟨_, dec_nils h n, LitC.nils rfl⟩
  · rename_i cs
    split at hr
    · rename_i l hl
      obtain ⟨els, F, h1, h2, _⟩ := S.list H hl
      obtain ⟨lcs, lxs, lnm, lsrc⟩ := l
      obtain ⟨e, rfl⟩ := castL_ok hr
      simp only at e h2
      subst e
      simp only [Ty.dep] at hn
      obtain ⟨k, rfl⟩ : ∃ k, n = k + 1 := ⟨n - 1, by omega⟩
      obtain ⟨ts, g1, g2⟩ := dec_list (n := k) (fun H => OwnCs.dec lcs (n := k) (by omega) H) h2
      rcases dec_aels h1 g1 with ⟨rfl, rfl, g3⟩ | g3
      · refine ⟨_, g3, LitC.nils ?_⟩
        have hl := g2.len
        cases lxs with
          | nil => rfl
          | cons => simp at hl
      · exact ⟨_, g3, by simp only [LitC]; exact .inr (.inl ⟨_, _, rfl, g2⟩)⟩
    · cases hr
  · cases hr
theorem roTVs_ok (S : SRel B M env h s) {n : Nat} : ∀ (ts : List Ty) {vs : List TV} {d : Ty.Ds ts} {as : List AV}, roTVs s ts vs = some d → TVRs M h vs as → Ty.deps ts ≤ n → ∃ ts', decC (dec h n) as = some ts' ∧ L0s ts d ts'
  | [], [], d, as, hr, H, hn => by
    simp only [TVRs] at H
    subst H
    exact ⟨[], rfl, by simp only [LitCs]⟩
  | [], _ :: _, d, as, hr, H, hn => by simp only [roTVs, reduceCtorEq] at hr
  | _ :: _, [], d, as, hr, H, hn => by simp only [roTVs, reduceCtorEq] at hr
  | t :: ts, v :: vs, d, [], hr, H, hn => by simp only [TVRs] at H
  | t :: ts, v :: vs, d, a :: as, hr, H, hn => by
    simp only [TVRs] at H
    simp only [Ty.deps] at hn
    simp only [roTVs] at hr
    split at hr
    · rename_i d1 hd
      split at hr
      · rename_i ds hds
        obtain rfl := Option.some.inj hr
        obtain ⟨t', g1, g2⟩ := roTV_ok S (n := n) hd H.1 (by omega)
        obtain ⟨ts', g3, g4⟩ := roTVs_ok S (n := n) ts hds H.2 (by omega)
        exact ⟨t' :: ts', by simp only [decC, g1, g3], by show LitCs _ _ _ _ _; simp only [LitCs]; exact ⟨g2, g4⟩⟩
      · cases hr
    · cases hr

theorem scal_lit {s : VS} {M : Mp} {h : Heap} {t : Ty} {v : TV} {d : t.D} {a : AV} (ht : ∀ cs, t ≠ .sl cs) (hr : roTV s t v = some d) (H : TVR M h v a) : ∀ Z, LitC h Z t d a := by
  intro Z
  unfold roTV at hr
  split at hr
  · split at hr
    · rename_i hk
      obtain rfl := Option.some.inj hr
      subst hk
      simp only [TVR] at H
      simp only [LitC]; exact H
    · cases hr
  · obtain rfl := Option.some.inj hr
    simp only [TVR] at H
    simp only [LitC]; exact H
  · obtain rfl := Option.some.inj hr
    simp only [TVR] at H
    simp only [LitC]; exact H
  · exact absurd rfl (ht _)
  · exact absurd rfl (ht _)
  · cases hr
theorem noRow_ok {α : Type} {o : Option α} {d : α} {e : Eff} (h : noRow o = some (d, e)) : o = some d ∧ e = .no := by
  cases o with
  | none => cases h
  | some x => simp only [noRow, Option.some.injEq, Prod.mk.injEq] at h; exact ⟨by rw [h.1], h.2.symm⟩
theorem CellRel.up {h' : Heap} {Z Z' : List Nat} (hz : ZUp h Z h' Z') {o : Option NM} {t : Ty} {x : t.D} {a : AV} {F : List Nat} (hF : ∀ r ∈ F, h'.rows r = h.rows r) (H : CellRel h Z o t x a F) : CellRel h' Z' o t x a F := by
  cases t with
  | sl cs => cases o with
    | none => simp only [CellRel] at *; exact ⟨LitC.up hz _ H.1, H.2⟩
    | some m =>
      simp only [CellRel] at *
      obtain ⟨N, h1, rfl⟩ := H
      exact ⟨N, h1.heap hz hF, rfl⟩
  | _ => simp only [CellRel, LitC] at *; exact H
theorem CellRels.up {h' : Heap} {Z Z' : List Nat} (hz : ZUp h Z h' Z') : ∀ (ts : List Ty) {os : List (Option NM)} {x : Ty.Ds ts} {as : List AV} {F : List Nat}, (∀ r ∈ F, h'.rows r = h.rows r) → CellRels h Z os ts x as F → CellRels h' Z' os ts x as F
  | [], os, x, as, F, hF, H => by simp only [CellRels] at *; exact H
  | t :: ts, os, x, [], F, hF, H => by simp only [CellRels] at H
  | t :: ts, os, x, a :: as, F, hF, H => by
    simp only [CellRels] at H ⊢
    obtain ⟨F1, F2, rfl, h1, h2⟩ := H
    exact ⟨F1, F2, rfl, h1.up hz fun r hr => hF r (List.mem_append_left _ hr), CellRels.up hz ts (fun r hr => hF r (List.mem_append_right _ hr)) h2⟩
theorem litL_ok (S : SRel B M env h s) {cs : List Ty} {v : TV} {d : List (Ty.Ds cs)} {e : Eff} (hu : litL s cs v = some (d, e)) {a : AV} (H : TVR M h v a) : ∃ M', EffOk B M M' env h s e ∧ LitC h M'.Z (.sl cs) d a := by
  unfold litL at hu
  split at hu
  · rename_i cs' xs
    split at hu
    · rename_i ys hc
      obtain ⟨e1, e2⟩ := castL_ok hc
      subst e1
      obtain ⟨rfl, rfl⟩ : ys = d ∧ Eff.no = e := by simpa using hu
      obtain rfl := e2
      simp only [TVR] at H
      exact ⟨M, .no S, H⟩
    · cases hu
  · obtain ⟨rfl, rfl⟩ : [] = d ∧ Eff.no = e := by simpa using hu
    simp only [TVR] at H
    subst H
    exact ⟨M, .no S, LitC.nils rfl⟩
  · rename_i i
    split at hu
    · rename_i r hr
      split at hu
      · rename_i ys hc
        obtain ⟨hr1, hp⟩ := VS.mine_eq hr
        rw [S.pn] at hp
        obtain ⟨rfl, rfl⟩ : ys = d ∧ Eff.frzA i r = e := by simpa using hu
        refine ⟨M.frzA i, .frzA S hr1 hp, ?_⟩
        have := TVR.fa (fa_of S hr1) _ H
        simp only [TV.fa, if_true, TVR] at this
        obtain ⟨nm, cs', xs⟩ := r
        obtain ⟨e1, rfl⟩ := castL_ok hc
        simp only at e1 this
        subst e1
        exact this
      · cases hu
    · cases hu
  · rename_i i lo hi
    split at hu
    · rename_i r hr
      split at hu
      · rename_i ys hc
        obtain ⟨hr1, hp⟩ := VS.mine_eq hr
        rw [S.pn] at hp
        obtain ⟨rfl, rfl⟩ : ys = d ∧ Eff.frzA i r = e := by simpa using hu
        refine ⟨M.frzA i, .frzA S hr1 hp, ?_⟩
        have := TVR.fa (fa_of S hr1) _ H
        simp only [TV.fa, if_true, TVR] at this
        obtain ⟨nm, cs', xs⟩ := r
        obtain ⟨e1, rfl⟩ := castL_ok hc
        simp only at e1 this
        subst e1
        exact this
      · cases hu
    · cases hu
  · rename_i i o cs' xs
    split at hu
    · rename_i r hr
      split at hu
      · rename_i ys hc
        obtain ⟨hr1, hp⟩ := VS.mine_eq hr
        obtain ⟨e1, e2⟩ := castL_ok hc
        subst e1
        obtain ⟨rfl, rfl⟩ : ys = d ∧ Eff.frz i r = e := by simpa using hu
        obtain rfl := e2
        refine ⟨M.frz i, .frz S hr1, ?_⟩
        have := TVR.fz (fz_of M h i) _ H
        simp only [TV.fz, if_true, TVR] at this
        exact this
      · cases hu
    · cases hu
  · cases hu
theorem ownL_ok (S : SRel B M env h s) {m : NM} {cs : List Ty} {v : TV} {d : List (Ty.Ds cs)} {e : Eff} (hu : ownL s m cs v = some (d, e)) {a : AV} (H : TVR M h v a) : ∃ M' C, EffOk B M M' env h s e ∧ CellRel h M'.Z (some m) (.sl cs) d a C ∧ C.Nodup ∧ Eaten M M' C := by
  unfold ownL at hu
  split at hu
  · obtain ⟨rfl, rfl⟩ : [] = d ∧ Eff.no = e := by simpa using hu
    simp only [TVR] at H
    refine ⟨M, [], .no S, ?_, List.nodup_nil, .nil _ _⟩
    simp only [CellRel]
    exact ⟨[], .inl ⟨H, rfl, rfl⟩, by rw [H]; rfl⟩
  · rename_i i
    split at hu
    · rename_i r hr
      obtain ⟨hr1, hp⟩ := VS.mine_eq hr
      rw [S.pn] at hp
      simp only [TVR] at H
      split at hu
      · rename_i ys hc
        split at hu
        · rename_i hm
          obtain ⟨rfl, rfl⟩ : ys = d ∧ Eff.kill i = e := by simpa using hu
          refine ⟨M.free i, fp M i, .kill S hp, ?_, S.nd i, .free S i⟩
          have R := (S.row _ r hr1).mode hm
          obtain ⟨nm, cs', xs⟩ := r
          obtain ⟨e1, rfl⟩ := castL_ok hc
          simp only at e1 R
          subst e1
          simp only [CellRel]
          exact ⟨M.N i, by rw [H.2]; exact R, by rw [H.2]; rfl⟩
        · split at hu
          · obtain ⟨rfl, rfl⟩ : ys = d ∧ Eff.fk i r = e := by simpa using hu
            have S1 := S.frz hr1
            have R := (S.row _ r hr1).froz (Z' := (M.frz i).Z) (fun x hx => List.mem_append_right _ hx) fun x hx => List.mem_append_left _ hx
            obtain ⟨nm, cs', xs⟩ := r
            obtain ⟨e1, rfl⟩ := castL_ok hc
            simp only at e1 R
            subst e1
            refine ⟨(M.frz i).free i, rid (M.α i), .fk S hr1 hp, ?_, ?_, ?_⟩
            · simp only [CellRel]
              exact ⟨[], by rw [H.2]; exact R, by rw [H.2, List.append_nil]⟩
            · have := S.nd i
              unfold fp at this
              exact (List.nodup_append.1 this).1
            · have hE := Eaten.free S1 i
              intro x hx
              obtain ⟨h1, h2⟩ := hE x (by unfold fp Mp.frz; simp only [if_true, List.append_nil]; exact hx)
              exact ⟨⟨i, List.mem_append_left _ hx⟩, h2⟩
          · cases hu
      · cases hu
    · cases hu
  · cases hu
theorem takeTV_ok (S : SRel B M env h s) {o : Option NM} {t : Ty} {v : TV} {d : t.D} {e : Eff} {a : AV} (hr : takeTV s o t v = some (d, e)) (H : TVR M h v a) : ∃ M' C, EffOk B M M' env h s e ∧ CellRel h M'.Z o t d a C ∧ C.Nodup ∧ Eaten M M' C := by
  have sc : ∀ {t : Ty} {d : t.D} (_ : ∀ cs, t ≠ .sl cs), roTV s t v = some d → e = .no → ∃ M' C, EffOk B M M' env h s e ∧ CellRel h M'.Z o t d a C ∧ C.Nodup ∧ Eaten M M' C := fun {t d} ht hd he => by
    subst he
    refine ⟨M, [], .no S, ?_, List.nodup_nil, .nil _ _⟩
    have := scal_lit ht hd H M.Z
    cases t with
    | sl cs => exact absurd rfl (ht cs)
    | _ => simp only [CellRel]; exact ⟨this, trivial⟩
  cases t with
  | sl cs => cases o with
    | none =>
      have hr : litL s cs v = some (d, e) := hr
      obtain ⟨M', h1, h2⟩ := litL_ok S hr H
      exact ⟨M', [], h1, by simp only [CellRel]; exact ⟨h2, trivial⟩, List.nodup_nil, .nil _ _⟩
    | some m =>
      have hr : ownL s m cs v = some (d, e) := hr
      exact ownL_ok S hr H
  | int k =>
    have hr : noRow (roTV s (.int k) v) = some (d, e) := by cases o <;> exact hr
    obtain ⟨h1, h2⟩ := noRow_ok hr
    exact sc (fun cs => by simp) h1 h2
  | bool =>
    have hr : noRow (roTV s .bool v) = some (d, e) := by cases o <;> exact hr
    obtain ⟨h1, h2⟩ := noRow_ok hr
    exact sc (fun cs => by simp) h1 h2
  | str =>
    have hr : noRow (roTV s .str v) = some (d, e) := by cases o <;> exact hr
    obtain ⟨h1, h2⟩ := noRow_ok hr
    exact sc (fun cs => by simp) h1 h2
theorem takeTVs_ok : ∀ (ts : List Ty) {os : List (Option NM)} {M : Mp} {s : VS} {vs : List TV} {as : List AV} {d : Ty.Ds ts} {s1 : VS}, SRel B M env h s → TVRs M h vs as → takeTVs os ts s vs = some (d, s1) →
    ∃ M1 C, SRel B M1 env h s1 ∧ Sub M M1 s s1 ∧ CellRels h M1.Z os ts d as C ∧ C.Nodup ∧ Eaten M M1 C
  | [], os, M, s, [], as, d, s1, S, H, hr => by
    simp only [takeTVs, Option.some.injEq, Prod.mk.injEq] at hr
    obtain ⟨_, rfl⟩ := hr
    simp only [TVRs] at H
    subst H
    exact ⟨M, [], S, .refl S, by simp only [CellRels]; exact ⟨trivial, trivial⟩, List.nodup_nil, .nil _ _⟩
  | [], os, M, s, _ :: _, as, d, s1, S, H, hr => by simp only [takeTVs, reduceCtorEq] at hr
  | _ :: _, os, M, s, [], as, d, s1, S, H, hr => by simp only [takeTVs, reduceCtorEq] at hr
  | t :: ts, os, M, s, v :: vs, [], d, s1, S, H, hr => by simp only [TVRs] at H
  | t :: ts, os, M, s, v :: vs, a :: as, d, s1, S, H, hr => by
    simp only [TVRs] at H
    simp only [takeTVs] at hr
    split at hr
    · rename_i d1 e hd
      split at hr
      · rename_i ds s2 hds
        simp only [Option.some.injEq, Prod.mk.injEq] at hr
        obtain ⟨rfl, rfl⟩ := hr
        obtain ⟨M0, C0, ⟨S0, D0, T0⟩, R0, N0, E0⟩ := takeTV_ok S hd H.1
        obtain ⟨M1, C, h1, h2, h3, h4, h5⟩ := takeTVs_ok ts S0 (T0 _ _ H.2) hds
        refine ⟨M1, C0 ++ C, h1, D0.trans h2, ?_, List.nodup_append.2 ⟨N0, h4, fun x hx y hy e => E0.apart h5 x hx (e ▸ hy)⟩, fun x hx => ?_⟩
        · simp only [CellRels]
          exact ⟨C0, C, rfl, R0.up (h2.zup h) fun _ _ => rfl, h3⟩
        · rcases List.mem_append.1 hx with hx | hx
          · exact E0.later h2 x hx
          · exact h5.sooner D0 x hx
      · cases hr
    · cases hr

theorem PK.cells_ok {p : PK} {v : TV} {a : AV} {l : List TV} (hc : p.cells v = some l) (H : TVR M h v a) : ∃ c1, (if p.agg = true then a = .agg c1 else c1 = [a]) ∧ c1.length = p.cs.length ∧ TVRs M h l c1 := by
  have one : (if !p.agg && p.cs.length == 1 then some [v] else none) = some l → ∃ c1, (if p.agg = true then a = .agg c1 else c1 = [a]) ∧ c1.length = p.cs.length ∧ TVRs M h l c1 := fun hc => by
    split at hc
    · rename_i hp
      simp only [Bool.and_eq_true, Bool.not_eq_true', beq_iff_eq] at hp
      simp only [Option.some.injEq] at hc
      subst hc
      exact ⟨[a], by simp [hp.1], by simp [hp.2], by simp only [TVRs]; exact ⟨H, trivial⟩⟩
    · cases hc
  cases v with
  | st l' =>
    simp only [PK.cells] at hc
    split at hc
    · rename_i hp
      simp only [Bool.and_eq_true, beq_iff_eq] at hp
      simp only [Option.some.injEq] at hc
      subst hc
      simp only [TVR] at H
      obtain ⟨as, rfl, H⟩ := H
      exact ⟨as, by simp [hp.1], by rw [← H.len]; exact hp.2, H⟩
    · cases hc
  | _ => exact one (by simpa only [PK.cells] using hc)
theorem argCells_ok : ∀ (ps : List PK) {vs : List TV} {as : List AV} {l : List TV}, argCells ps vs = some l → TVRs M h vs as → ∃ la, ACells ps as la ∧ TVRs M h l la
  | [], [], as, l, hc, H => by
    simp only [argCells, Option.some.injEq] at hc
    subst hc
    simp only [TVRs] at H
    subst H
    exact ⟨[], by simp only [ACells], by simp only [TVRs]⟩
  | [], _ :: _, as, l, hc, H => by simp only [argCells, reduceCtorEq] at hc
  | _ :: _, [], as, l, hc, H => by simp only [argCells, reduceCtorEq] at hc
  | p :: ps, v :: vs, [], l, hc, H => by simp only [TVRs] at H
  | p :: ps, v :: vs, a :: as, l, hc, H => by
    simp only [TVRs] at H
    simp only [argCells] at hc
    split at hc
    · rename_i l1 hl1
      split at hc
      · rename_i l2 hl2
        simp only [Option.some.injEq] at hc
        subst hc
        obtain ⟨c1, g1, g2, g3⟩ := PK.cells_ok hl1 H.1
        obtain ⟨la, g4, g5⟩ := argCells_ok ps hl2 H.2
        exact ⟨c1 ++ la, ⟨c1, la, rfl, g1, g2, g4⟩, TVRs.iff.2 ((TVRs.iff.1 g3).append (TVRs.iff.1 g5))⟩
      · cases hc
    · cases hc
theorem argCellsB_ok (S : SRel B M env h s) : ∀ (ps : List PK) {vs : List TV} {as : List AV} {l : List TV} {bs : List Nat}, argCellsB s ps vs = some (l, bs) → TVRs M h vs as → ∃ la, PCells h ps as la (bs.map M.β) ∧ TVRs M h l la ∧ ∀ b ∈ bs, b < M.nb
  | [], [], as, l, bs, hc, H => by
    simp only [argCellsB, Option.some.injEq, Prod.mk.injEq] at hc
    obtain ⟨rfl, rfl⟩ := hc
    simp only [TVRs] at H
    subst H
    exact ⟨[], by simp only [PCells, List.map_nil]; exact ⟨trivial, trivial⟩, by simp only [TVRs], fun b hb => by simp at hb⟩
  | [], _ :: _, as, l, bs, hc, H => by simp only [argCellsB, reduceCtorEq] at hc
  | _ :: _, [], as, l, bs, hc, H => by simp only [argCellsB, reduceCtorEq] at hc
  | p :: ps, v :: vs, [], l, bs, hc, H => by simp only [TVRs] at H
  | p :: ps, v :: vs, a :: as, l, bs, hc, H => by
    simp only [TVRs] at H
    simp only [argCellsB] at hc
    split at hc
    · rename_i hp
      split at hc
      · rename_i b off
        split at hc
        · rename_i ho
          have ho := Nat.eq_of_beq_eq_true ho
          subst ho
          split at hc
          · rename_i c hbx
            split at hc
            · rename_i hlen
              have hlen := Nat.eq_of_beq_eq_true hlen
              split at hc
              · rename_i l' bs' hrec
                simp only [Option.some.injEq, Prod.mk.injEq] at hc
                obtain ⟨rfl, rfl⟩ := hc
                obtain ⟨la, g1, g2, g3⟩ := argCellsB_ok S ps hrec H.2
                obtain ⟨c1, k1, k2⟩ := S.box b c hbx
                have Hb := H.1
                simp only [TVR] at Hb
                refine ⟨c1 ++ la, ⟨c1, la, rfl, by rw [← k2.len]; exact hlen, ?_⟩, TVRs.iff.2 ((TVRs.iff.1 k2).append (TVRs.iff.1 g2)), fun b' hb' => ?_⟩
                · rw [hp]
                  exact ⟨_, _, rfl, Hb.2, k1, g1⟩
                · rcases List.mem_cons.1 hb' with rfl | hb'
                  · exact Hb.1
                  · exact g3 b' hb'
              · cases hc
            · cases hc
          · cases hc
        · cases hc
      · cases hc
    · rename_i hp
      split at hc
      · rename_i l1 hl1
        split at hc
        · rename_i l2 bs' hrec
          simp only [Option.some.injEq, Prod.mk.injEq] at hc
          obtain ⟨rfl, rfl⟩ := hc
          obtain ⟨c1, g1, g2, g3⟩ := PK.cells_ok hl1 H.1
          obtain ⟨la, g4, g5, g6⟩ := argCellsB_ok S ps hrec H.2
          refine ⟨c1 ++ la, ⟨c1, la, rfl, g2, ?_⟩, TVRs.iff.2 ((TVRs.iff.1 g3).append (TVRs.iff.1 g5)), g6⟩
          rw [hp]
          exact ⟨g1, g4⟩
        · cases hc
      · cases hc
theorem hasN_ok {a : Nat} : ∀ {l : List Nat}, hasN a l = false → a ∉ l
  | [], _ => by simp
  | b :: l, h => by
    simp only [hasN] at h
    split at h
    · cases h
    · rename_i hb
      have : a ≠ b := fun e => by subst e; rw [Nat.beq_refl] at hb; cases hb
      simp [this, hasN_ok h]
theorem nodupN_ok : ∀ {l : List Nat}, nodupN l = true → l.Nodup
  | [], _ => List.nodup_nil
  | a :: l, h => by
    simp only [nodupN] at h
    split at h
    · cases h
    · rename_i hb
      exact List.nodup_cons.2 ⟨hasN_ok hb, nodupN_ok h⟩
theorem nodup_map_on {f : Nat → Nat} : ∀ {l : List Nat}, l.Nodup → (∀ a ∈ l, ∀ b ∈ l, f a = f b → a = b) → (l.map f).Nodup
  | [], _, _ => List.nodup_nil
  | a :: l, h, H => by
    obtain ⟨h1, h2⟩ := List.nodup_cons.1 h
    refine List.nodup_cons.2 ⟨fun hm => ?_, nodup_map_on h2 fun x hx y hy => H x (List.mem_cons_of_mem _ hx) y (List.mem_cons_of_mem _ hy)⟩
    obtain ⟨b, hb, e⟩ := List.mem_map.1 hm
    have := H b (List.mem_cons_of_mem _ hb) a List.mem_cons_self e
    subst this
    exact h1 hb
theorem groupL_ok : ∀ (ps : List PK) {vs : List TV} {rs cells : List AV}, ACells ps rs cells → TVRs M h vs cells → TVRs M h (groupL ps vs) rs
  | [], vs, [], cells, H, HT => by simp only [groupL, TVRs]
  | [], _, _ :: _, cells, H, HT => H.elim
  | _ :: _, _, [], cells, H, HT => H.elim
  | p :: ps, vs, r :: rs, cells, ⟨c1, c2, e, h1, h2, h3⟩, HT => by
    subst e
    have ht : TVRs M h (vs.take p.cs.length) c1 := by have := HT.take' c1.length; rw [List.take_left] at this; rw [← h2]; exact this
    have hd : TVRs M h (vs.drop p.cs.length) c2 := by have := HT.drop' c1.length; rw [List.drop_left] at this; rw [← h2]; exact this
    simp only [groupL, TVRs]
    refine ⟨?_, groupL_ok ps h3 hd⟩
    split at h1
    · rename_i hp
      rw [if_pos hp, h1]
      simp only [TVR]
      exact ⟨c1, rfl, ht⟩
    · rename_i hp
      rw [if_neg hp]
      subst h1
      cases vs with
      | nil => simp only [TVRs, List.singleton_append, reduceCtorEq] at HT
      | cons v vs => simp only [List.singleton_append, TVRs] at HT; exact HT.1
theorem group1_ok {vs : List TV} {r : AV} {rs : List AV} (HT : TVRs M h vs rs) (hr : Res1 r rs) : TVR M h (group1 vs) r := by
  have hl := HT.len
  rcases hr with ⟨a, rfl, rfl⟩ | ⟨hne, rfl⟩
  · cases vs with
    | nil => simp at hl
    | cons v vs => cases vs with
      | nil => simp only [TVRs] at HT; exact HT.1
      | cons => simp at hl
  · cases vs with
    | nil => simp only [group1, TVR]; exact ⟨_, rfl, HT⟩
    | cons v vs => cases vs with
      | nil => simp at hl; exact absurd hl.symm hne
      | cons => simp only [group1, TVR]; exact ⟨_, rfl, HT⟩

theorem lits_cells {Z : List Nat} : ∀ (ts : List Ty) {d : Ty.Ds ts} {l : List AV}, LitCs h Z ts d l → CellRels h Z [] ts d l []
  | [], d, l, H => by simp only [LitCs] at H; simp only [CellRels]; exact ⟨H, trivial⟩
  | t :: ts, d, [], H => by simp only [LitCs] at H
  | t :: ts, d, a :: l, H => by
    simp only [LitCs] at H
    simp only [CellRels]
    refine ⟨[], [], rfl, ?_, lits_cells ts H.2⟩
    cases t <;> simp only [CellRel, hdO] <;> exact ⟨H.1, trivial⟩

variable {P : Program} {ρ : Type}
/-- What a reading call sees. -/
theorem sees (S : SRel B M env h s) {ps : List PK} {vs l : List TV} {as : List AV} {d : Ty.Ds (ps.flatMap (·.cs))} (ha : argCells ps vs = some l) (hr : roTVs s (ps.flatMap (·.cs)) l = some d) (H : TVRs M h vs as) : ∃ ts tl, ACells ps ts tl ∧ L0s _ d tl ∧ Seens h as ts := by
  obtain ⟨la, g1, g2⟩ := argCells_ok ps ha H
  obtain ⟨tl, g3, g4⟩ := roTVs_ok S (n := Ty.deps (ps.flatMap (·.cs))) _ hr g2 (Nat.le_refl _)
  obtain ⟨g5, g6⟩ := ACells.seens ps g1 g3
  exact ⟨_, tl, g5, g4, g6⟩
theorem fresh_fr {f : FuncId} {c : Ctr} (HC : CtrOk P f c) (hf : c.fresh = true) {d : Ty.Ds (c.ps.flatMap (·.cs))} {y : Ty.Ds (c.rs.flatMap (·.cs))} (hy : c.fn d = some y) {ts tl : List AV} (h1 : ACells c.ps ts tl) (h2 : L0s _ d tl) :
    FR P f ts (grp1A (grpA c.rs (frCs _ y))) ∧ ∀ (M : Mp) (h : Heap) (vs : List TV), TVRs M h vs (frCs _ y) → TVR M h (group1 (groupL c.rs vs)) (grp1A (grpA c.rs (frCs _ y))) := by
  refine ⟨HC.fr hf hy h1 h2, fun M h vs HT => ?_⟩
  unfold CtrOk at HC
  rw [hf] at HC
  have hlen : ∀ (ts : List Ty) (x : Ty.Ds ts), (frCs ts x).length = ts.length := fun ts x => LitCs.len (h := Heap.nil) (Z := []) ts (frCs_lit ts x)
  have hA := grp_cells c.rs (frCs _ y) HC.1.2 (hlen _ _)
  refine group1_ok (groupL_ok c.rs hA HT) ?_
  generalize grpA c.rs (frCs _ y) = g
  cases g with
  | nil => exact .inr ⟨by simp, rfl⟩
  | cons a l => cases l with
    | nil => exact .inl ⟨a, rfl, rfl⟩
    | cons => exact .inr ⟨by simp, rfl⟩

end
end Go.PA
