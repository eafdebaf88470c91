/- Typed values: calls. No condition. -/
import Derived.Test.YtnbhalhlodnmpaaV15
namespace Go.PA
set_option linter.unusedVariables false
set_option linter.unusedSimpArgs false
section
variable {B : Bg} {M : Mp} {env : List AV} {h : Heap} {s : VS}

theorem SRel.frame (S : SRel B M env h s) {F : List Nat} {h' : Heap} (D : Fr h F h') (hF : ∀ x ∈ F, (∀ j, x ∉ fp M j) ∧ (x ∈ B.F ∨ B.h.next ≤ x)) : SRel B M env h' s := by
  have hs : ∀ j x, x ∈ fp M j → h'.rows x = h.rows x := fun j x hx => D.rows x (S.lt j x hx) fun hf => (hF x hf).1 j hx
  have Dm : Mono M h M h' := ⟨fun b hb => ⟨hb, rfl⟩, fun j hj => ⟨hj, rfl, fun x hx => ⟨hx, hs j x (List.mem_append_right _ hx)⟩⟩⟩
  refine { S with env := fun t v a h1 h2 => (S.env t v a h1 h2).mono Dm, box := fun b cs hb => ?_, bown := fun b hb => ⟨(S.bown b hb).1, Nat.lt_of_lt_of_le (S.bown b hb).2 D.bx⟩, row := fun i r hr => (S.row i r hr).heap fun x hx => hs i x hx, lt := fun i x hx => Nat.lt_of_lt_of_le (S.lt i x hx) D.nx, fr := fun x h1 h2 => ?_, frb := fun b hb => ?_, nx := Nat.le_trans S.nx D.nx, bx := Nat.le_trans S.bx D.bx }
  · obtain ⟨as, h1, h2⟩ := S.box b cs hb
    have hlt : b < M.nb := by rw [S.nb]; exact (List.getElem?_eq_some_iff.1 (VS.box?_eq.1 hb)).1
    exact ⟨as, by rw [D.boxes _ (S.bown b hlt).2]; exact h1, h2.mono Dm⟩
  · rw [← S.fr x h1 h2]
    refine D.rows x (Nat.lt_of_lt_of_le h1 S.nx) fun hx => ?_
    rcases (hF x hx).2 with h3 | h3
    · exact h2 h3
    · omega
  · rw [D.boxes b (Nat.lt_of_lt_of_le hb S.bx)]; exact S.frb b hb

theorem giveTVs_ok : ∀ (ts : List Ty) {os : List (Option NM)} {d : Ty.Ds ts} {M : Mp} {s : VS} {cells : List AV} {F : List Nat} {vs : List TV} {s1 : VS}, SRel B M env h s → CellRels h os ts d cells F → F.Nodup → Apart B M h F → giveTVs os ts d s = (vs, s1) →
    ∃ M1, SRel B M1 env h s1 ∧ Mono M h M1 h ∧ TVRs M1 h vs cells
  | [], os, d, M, s, cells, F, vs, s1, S, H, hn, hF, hg => by
    simp only [giveTVs, Prod.mk.injEq] at hg
    obtain ⟨rfl, rfl⟩ := hg
    simp only [CellRels] at H
    exact ⟨M, S, ⟨fun b hb => ⟨hb, rfl⟩, fun j hj => ⟨hj, rfl, fun x hx => ⟨hx, rfl⟩⟩⟩, by simp only [TVRs]; exact H.1⟩
  | t :: ts, os, d, M, s, [], F, vs, s1, S, H, hn, hF, hg => by simp only [CellRels] at H
  | t :: ts, os, d, M, s, a :: cells, F, vs, s1, S, H, hn, hF, hg => by
    simp only [CellRels] at H
    obtain ⟨F1, F2, rfl, h1, h2⟩ := H
    obtain ⟨n1, n2, n3⟩ := List.nodup_append.1 hn
    have lit_ : ∀ (u : TV) (vs' : List TV), giveTVs os.tail ts d.2 s = (vs', s1) → vs = u :: vs' → TVR M h u a → ∃ M1, SRel B M1 env h s1 ∧ Mono M h M1 h ∧ TVRs M1 h vs (a :: cells) := by
      intro u vs' hg' e hu
      subst e
      obtain ⟨M1, p1, p2, p3⟩ := giveTVs_ok ts S h2 n2 (fun x hx => hF x (List.mem_append_right _ hx)) hg'
      exact ⟨M1, p1, p2, by simp only [TVRs]; exact ⟨hu.mono p2, p3⟩⟩
    cases t with
    | sl cs =>
      simp only [giveTVs] at hg
      simp only [CellRel] at h1
      split at hg
      · rename_i ho
        rw [ho] at h1
        obtain ⟨h1, rfl⟩ := h1
        generalize hgg : giveTVs os.tail ts d.2 s = q at hg
        obtain ⟨l, s2⟩ := q
        simp only [Prod.mk.injEq] at hg
        obtain ⟨rfl, rfl⟩ := hg
        exact lit_ _ _ hgg rfl (by simp only [TVR]; exact h1)
      · rename_i m ho
        rw [ho] at h1
        obtain ⟨N, h1, rfl⟩ := h1
        generalize hnr : s.newRow ⟨if hasSl cs then m else .Z, cs, d.1⟩ = q at hg
        obtain ⟨i, s2⟩ := q
        simp only at hg
        generalize hgg : giveTVs os.tail ts d.2 s2 = q at hg
        obtain ⟨l, s3⟩ := q
        simp only [Prod.mk.injEq] at hg
        obtain ⟨rfl, rfl⟩ := hg
        obtain ⟨k1, k2⟩ := newRow_row? s ⟨if hasSl cs then m else .Z, cs, d.1⟩
        have hs2 : s2.env = s.env ∧ s2.boxes = s.boxes ∧ s2.gds = s.gds := by
          have : s2 = (s.newRow ⟨if hasSl cs then m else .Z, cs, d.1⟩).2 := by rw [hnr]
          subst this; exact ⟨rfl, rfl, rfl⟩
        rw [hnr] at k1 k2
        have hi := S.not_lv k1
        obtain ⟨N', g1, g2, g3, g4⟩ : ∃ N', RowRel h (if hasSl cs then m else .Z) cs d.1 a N' ∧ (∀ x ∈ N', x ∈ N) ∧ (N.Nodup → N'.Nodup) ∧ True := by
          cases hf : hasSl cs with
          | true => exact ⟨N, by simpa using h1, fun _ h => h, fun h => h, trivial⟩
          | false => exact ⟨[], by simpa using (RowRel.flat hf .Z h1).2, fun x h => by simp at h, fun _ => List.nodup_nil, trivial⟩
        have hsub : ∀ x ∈ rid a ++ N', x ∈ rid a ++ N := fun x hx => by
          rcases List.mem_append.1 hx with hx | hx
          · exact List.mem_append_left _ hx
          · exact List.mem_append_right _ (g2 x hx)
        have hap : ∀ x ∈ rid a ++ N', (∀ j, x ∉ fp M j) ∧ x < h.next ∧ (x ∈ B.F ∨ B.h.next ≤ x) := fun x hx => hF x (List.mem_append_left _ (hsub x hx))
        have S2 : SRel B (M.add i a N') env h s2 := S.addRow (i := i) hi (fun _ _ _ => rfl) (fun _ _ _ => rfl) (fun x hx => (hap x (List.mem_append_left _ hx)).1) rfl (Nat.le_refl _) g1
          (by
            obtain ⟨q1, q2, q3⟩ := List.nodup_append.1 n1
            exact List.nodup_append.2 ⟨q1, g3 q2, fun x hx y hy e => q3 x hx y (g2 y hy) e⟩)
          (fun x hx => ⟨(hap x (List.mem_append_right _ hx)).2.1, (hap x (List.mem_append_right _ hx)).1, (hap x (List.mem_append_right _ hx)).2.2⟩) (fun x hx => ⟨(hap x (List.mem_append_left _ hx)).2.1, (hap x (List.mem_append_left _ hx)).2.2⟩) hs2.1 hs2.2.1 hs2.2.2 k2
        have D : Mono M h (M.add i a N') h := S.mono_add hi (fun _ _ _ => rfl) a N'
        have hF2 : Apart B (M.add i a N') h F2 := fun x hx => by
          obtain ⟨q1, q2, q3⟩ := hF x (List.mem_append_right _ hx)
          refine ⟨fun j hj => ?_, q2, q3⟩
          rw [fp_add] at hj
          split at hj
          · exact n3 x (hsub x hj) x hx rfl
          · exact q1 j hj
        obtain ⟨M1, p1, p2, p3⟩ := giveTVs_ok ts S2 h2 n2 hF2 hgg
        refine ⟨M1, p1, ⟨fun b hb => ?_, fun j hj => ?_⟩, ?_⟩
        · obtain ⟨u1, u2⟩ := D.box b hb
          obtain ⟨u3, u4⟩ := p2.box b u1
          exact ⟨u3, u4.trans u2⟩
        · obtain ⟨u1, u2, u3⟩ := D.row j hj
          obtain ⟨u4, u5, u6⟩ := p2.row j u1
          exact ⟨u4, u5.trans u2, fun x hx => ⟨(u6 x (u3 x hx).1).1, rfl⟩⟩
        · simp only [TVRs]
          refine ⟨TVR.mono p2 (.ref i) ?_, p3⟩
          simp only [TVR, Mp.add, if_true]
          exact ⟨trivial, trivial⟩
    | _ =>
      simp only [giveTVs] at hg
      simp only [CellRel] at h1
      obtain ⟨h1, rfl⟩ := h1
      generalize hgg : giveTVs os.tail ts d.2 s = q at hg
      obtain ⟨l, s2⟩ := q
      simp only [Prod.mk.injEq] at hg
      obtain ⟨rfl, rfl⟩ := hg
      exact lit_ _ _ hgg rfl (toTV_lit h1)

theorem roTV_ok (S : SRel B M env h s) {t : Ty} {v : TV} {d : t.D} {a : AV} {n : Nat} (hr : roTV s t v = some d) (H : TVR M h v a) (hn : t.dep ≤ n) : ∃ t', dec h n a = some t' ∧ LitC t d t' := by
  unfold roTV at hr
  split at hr
  · split at hr
    · rename_i hk
      obtain rfl := Option.some.inj hr
      subst hk
      simp only [TVR] at H
      subst H
      exact ⟨_, dec_scalar_int h n _ _, by simp only [LitC]⟩
    · cases hr
  · obtain rfl := Option.some.inj hr
    simp only [TVR] at H
    subst H
    exact ⟨_, dec_scalar_bool h n _, by simp only [LitC]⟩
  · obtain rfl := Option.some.inj hr
    simp only [TVR] at H
    subst H
    exact ⟨_, dec_scalar_str h n _, by simp only [LitC]⟩
  · obtain rfl := Option.some.inj hr
    simp only [TVR] at H
    subst H
    exact ⟨_, dec_nils h n, by simp only [LitC]; exact .inl ⟨trivial, rfl⟩⟩
  · rename_i cs
    split at hr
    · rename_i l hl
      obtain ⟨els, F, h1, h2, _⟩ := S.list H hl
      obtain ⟨lcs, lxs, lnm, lsrc⟩ := l
      obtain ⟨e, rfl⟩ := castL_ok hr
      simp only at e h2
      subst e
      simp only [Ty.dep] at hn
      obtain ⟨k, rfl⟩ : ∃ k, n = k + 1 := ⟨n - 1, by omega⟩
      obtain ⟨ts, g1, g2⟩ := dec_list (n := k) (fun H => OwnCs.dec lcs (n := k) (by omega) H) h2
      rcases dec_aels h1 g1 with ⟨rfl, rfl, g3⟩ | g3
      · refine ⟨_, g3, ?_⟩
        simp only [LitC]
        have hl := g2.len
        exact .inl ⟨trivial, by cases lxs with
          | nil => rfl
          | cons => simp at hl⟩
      · exact ⟨_, g3, by simp only [LitC]; exact .inr ⟨_, _, rfl, g2⟩⟩
    · cases hr
  · cases hr
theorem roTVs_ok (S : SRel B M env h s) {n : Nat} : ∀ (ts : List Ty) {vs : List TV} {d : Ty.Ds ts} {as : List AV}, roTVs s ts vs = some d → TVRs M h vs as → Ty.deps ts ≤ n → ∃ ts', decC (dec h n) as = some ts' ∧ LitCs ts d ts'
  | [], [], d, as, hr, H, hn => by
    simp only [TVRs] at H
    subst H
    exact ⟨[], rfl, by simp only [LitCs]⟩
  | [], _ :: _, d, as, hr, H, hn => by simp only [roTVs, reduceCtorEq] at hr
  | _ :: _, [], d, as, hr, H, hn => by simp only [roTVs, reduceCtorEq] at hr
  | t :: ts, v :: vs, d, [], hr, H, hn => by simp only [TVRs] at H
  | t :: ts, v :: vs, d, a :: as, hr, H, hn => by
    simp only [TVRs] at H
    simp only [Ty.deps] at hn
    simp only [roTVs] at hr
    split at hr
    · rename_i d1 hd
      split at hr
      · rename_i ds hds
        obtain rfl := Option.some.inj hr
        obtain ⟨t', g1, g2⟩ := roTV_ok S (n := n) hd H.1 (by omega)
        obtain ⟨ts', g3, g4⟩ := roTVs_ok S (n := n) ts hds H.2 (by omega)
        exact ⟨t' :: ts', by simp only [decC, g1, g3], by simp only [LitCs]; exact ⟨g2, g4⟩⟩
      · cases hr
    · cases hr

theorem scal_lit {s : VS} {M : Mp} {h : Heap} {t : Ty} {v : TV} {d : t.D} {a : AV} (ht : ∀ cs, t ≠ .sl cs) (hr : roTV s t v = some d) (H : TVR M h v a) : LitC t d a := by
  unfold roTV at hr
  split at hr
  · split at hr
    · rename_i hk
      obtain rfl := Option.some.inj hr
      subst hk
      simp only [TVR] at H
      simp only [LitC]; exact H
    · cases hr
  · obtain rfl := Option.some.inj hr
    simp only [TVR] at H
    simp only [LitC]; exact H
  · obtain rfl := Option.some.inj hr
    simp only [TVR] at H
    simp only [LitC]; exact H
  · exact absurd rfl (ht _)
  · exact absurd rfl (ht _)
  · cases hr
theorem litTV_ok {s : VS} {M : Mp} {h : Heap} : ∀ {t : Ty} {v : TV} {d : t.D} {a : AV}, litTV s t v = some d → TVR M h v a → LitC t d a
  | .sl cs, v, d, a, hr, H => by
    simp only [litTV] at hr
    unfold litL at hr
    split at hr
    · obtain ⟨e, rfl⟩ := castL_ok hr
      subst e
      simpa only [TVR] using H
    · obtain rfl := Option.some.inj hr
      simp only [TVR] at H
      simp only [LitC]; exact .inl ⟨H, rfl⟩
    · cases hr
  | .int k, v, d, a, hr, H => scal_lit (fun cs => by simp) hr H
  | .bool, v, d, a, hr, H => scal_lit (fun cs => by simp) hr H
  | .str, v, d, a, hr, H => scal_lit (fun cs => by simp) hr H
theorem noRow_ok {α : Type} {o : Option α} {d : α} {io : Option Nat} (h : noRow o = some (d, io)) : o = some d ∧ io = none := by
  cases o with
  | none => cases h
  | some x => simp only [noRow, Option.some.injEq, Prod.mk.injEq] at h; exact ⟨by rw [h.1], h.2.symm⟩

theorem takeTV_ok (S : SRel B M env h s) : ∀ {o : Option NM} {t : Ty} {v : TV} {d : t.D} {io : Option Nat} {a : AV}, takeTV s o t v = some (d, io) → TVR M h v a → CellRel h o t d a (match io with | some i => fp M i | none => [])
  | none, t, v, d, io, a, hr, H => by
    simp only [takeTV] at hr
    obtain ⟨hd, rfl⟩ := noRow_ok hr
    have := litTV_ok hd H
    cases t <;> simp only [CellRel] <;> exact ⟨this, trivial⟩
  | some m, .sl cs, v, d, io, a, hr, H => by
    simp only [takeTV, ownTV] at hr
    unfold ownL at hr
    split at hr
    · obtain ⟨rfl, rfl⟩ := Prod.mk.inj (Option.some.inj hr)
      simp only [TVR] at H
      simp only [CellRel]
      exact ⟨[], .inl ⟨H, rfl, rfl⟩, by rw [H]; rfl⟩
    · split at hr
      · rename_i r hrr
        split at hr
        · rename_i hm
          split at hr
          · rename_i ys hc
            obtain ⟨rfl, rfl⟩ := Prod.mk.inj (Option.some.inj hr)
            have R := (S.row _ r hrr).mode hm
            obtain ⟨nm, cs', xs⟩ := r
            obtain ⟨e, rfl⟩ := castL_ok hc
            simp only at e R
            subst e
            simp only [TVR] at H
            simp only [CellRel]
            exact ⟨M.N _, by rw [H.2]; exact R, by rw [H.2]; rfl⟩
          · cases hr
        · cases hr
      · cases hr
    · cases hr
  | some m, .int k, v, d, io, a, hr, H => by
    simp only [takeTV, ownTV] at hr
    obtain ⟨hd, rfl⟩ := noRow_ok hr
    simp only [CellRel]
    exact ⟨scal_lit (fun cs => by simp) hd H, trivial⟩
  | some m, .bool, v, d, io, a, hr, H => by
    simp only [takeTV, ownTV] at hr
    obtain ⟨hd, rfl⟩ := noRow_ok hr
    simp only [CellRel]
    exact ⟨scal_lit (fun cs => by simp) hd H, trivial⟩
  | some m, .str, v, d, io, a, hr, H => by
    simp only [takeTV, ownTV] at hr
    obtain ⟨hd, rfl⟩ := noRow_ok hr
    simp only [CellRel]
    exact ⟨scal_lit (fun cs => by simp) hd H, trivial⟩
theorem takeTVs_ok : ∀ (ts : List Ty) {os : List (Option NM)} {M : Mp} {s : VS} {vs : List TV} {as : List AV} {d : Ty.Ds ts} {s1 : VS}, SRel B M env h s → TVRs M h vs as → takeTVs os ts s vs = some (d, s1) →
    ∃ M1 C, SRel B M1 env h s1 ∧ Sub M M1 s s1 ∧ CellRels h os ts d as C ∧ C.Nodup ∧ Eaten M M1 C
  | [], os, M, s, [], as, d, s1, S, H, hr => by
    simp only [takeTVs, Option.some.injEq, Prod.mk.injEq] at hr
    obtain ⟨_, rfl⟩ := hr
    simp only [TVRs] at H
    subst H
    exact ⟨M, [], S, .refl S, by simp only [CellRels]; exact ⟨trivial, trivial⟩, List.nodup_nil, .nil _ _⟩
  | [], os, M, s, _ :: _, as, d, s1, S, H, hr => by simp only [takeTVs, reduceCtorEq] at hr
  | _ :: _, os, M, s, [], as, d, s1, S, H, hr => by simp only [takeTVs, reduceCtorEq] at hr
  | t :: ts, os, M, s, v :: vs, [], d, s1, S, H, hr => by simp only [TVRs] at H
  | t :: ts, os, M, s, v :: vs, a :: as, d, s1, S, H, hr => by
    simp only [TVRs] at H
    simp only [takeTVs] at hr
    split at hr
    · rename_i d1 hd
      split at hr
      · rename_i ds s2 hds
        simp only [Option.some.injEq, Prod.mk.injEq] at hr
        obtain ⟨rfl, rfl⟩ := hr
        obtain ⟨M1, C, h1, h2, h3, h4, h5⟩ := takeTVs_ok ts S H.2 hds
        refine ⟨M1, C, h1, h2, ?_, h4, h5⟩
        simp only [CellRels]
        exact ⟨[], C, rfl, takeTV_ok S hd H.1, h3⟩
      · cases hr
    · rename_i d1 i hd
      split at hr
      · rename_i ds s2 hds
        simp only [Option.some.injEq, Prod.mk.injEq] at hr
        obtain ⟨rfl, rfl⟩ := hr
        obtain ⟨M1, C, h1, h2, h3, h4, h5⟩ := takeTVs_ok ts (S.free i) (H.2.kill (M.free_kills h i)) hds
        have hE := Eaten.free S i
        refine ⟨M1, fp M i ++ C, h1, (Sub.free S i).trans h2, ?_, List.nodup_append.2 ⟨S.nd i, h4, fun x hx y hy e => hE.apart h5 x hx (e ▸ hy)⟩, fun x hx => ?_⟩
        · simp only [CellRels]
          exact ⟨fp M i, C, rfl, takeTV_ok S hd H.1, h3⟩
        · rcases List.mem_append.1 hx with hx | hx
          · exact hE.later h2 x hx
          · exact h5.sooner (Sub.free S i) x hx
      · cases hr
    · cases hr

theorem PK.cells_ok {p : PK} {v : TV} {a : AV} {l : List TV} (hc : p.cells v = some l) (H : TVR M h v a) : ∃ c1, (if p.agg = true then a = .agg c1 else c1 = [a]) ∧ c1.length = p.cs.length ∧ TVRs M h l c1 := by
  have one : (if !p.agg && p.cs.length == 1 then some [v] else none) = some l → ∃ c1, (if p.agg = true then a = .agg c1 else c1 = [a]) ∧ c1.length = p.cs.length ∧ TVRs M h l c1 := fun hc => by
    split at hc
    · rename_i hp
      simp only [Bool.and_eq_true, Bool.not_eq_true', beq_iff_eq] at hp
      simp only [Option.some.injEq] at hc
      subst hc
      exact ⟨[a], by simp [hp.1], by simp [hp.2], by simp only [TVRs]; exact ⟨H, trivial⟩⟩
    · cases hc
  cases v with
  | st l' =>
    simp only [PK.cells] at hc
    split at hc
    · rename_i hp
      simp only [Bool.and_eq_true, beq_iff_eq] at hp
      simp only [Option.some.injEq] at hc
      subst hc
      simp only [TVR] at H
      obtain ⟨as, rfl, H⟩ := H
      exact ⟨as, by simp [hp.1], by rw [← H.len]; exact hp.2, H⟩
    · cases hc
  | _ => exact one (by simpa only [PK.cells] using hc)
theorem argCells_ok : ∀ (ps : List PK) {vs : List TV} {as : List AV} {l : List TV}, argCells ps vs = some l → TVRs M h vs as → ∃ la, ACells ps as la ∧ TVRs M h l la
  | [], [], as, l, hc, H => by
    simp only [argCells, Option.some.injEq] at hc
    subst hc
    simp only [TVRs] at H
    subst H
    exact ⟨[], by simp only [ACells], by simp only [TVRs]⟩
  | [], _ :: _, as, l, hc, H => by simp only [argCells, reduceCtorEq] at hc
  | _ :: _, [], as, l, hc, H => by simp only [argCells, reduceCtorEq] at hc
  | p :: ps, v :: vs, [], l, hc, H => by simp only [TVRs] at H
  | p :: ps, v :: vs, a :: as, l, hc, H => by
    simp only [TVRs] at H
    simp only [argCells] at hc
    split at hc
    · rename_i l1 hl1
      split at hc
      · rename_i l2 hl2
        simp only [Option.some.injEq] at hc
        subst hc
        obtain ⟨c1, g1, g2, g3⟩ := PK.cells_ok hl1 H.1
        obtain ⟨la, g4, g5⟩ := argCells_ok ps hl2 H.2
        exact ⟨c1 ++ la, ⟨c1, la, rfl, g1, g2, g4⟩, TVRs.iff.2 ((TVRs.iff.1 g3).append (TVRs.iff.1 g5))⟩
      · cases hc
    · cases hc
theorem groupL_ok : ∀ (ps : List PK) {vs : List TV} {rs cells : List AV}, ACells ps rs cells → TVRs M h vs cells → TVRs M h (groupL ps vs) rs
  | [], vs, [], cells, H, HT => by simp only [groupL, TVRs]
  | [], _, _ :: _, cells, H, HT => H.elim
  | _ :: _, _, [], cells, H, HT => H.elim
  | p :: ps, vs, r :: rs, cells, ⟨c1, c2, e, h1, h2, h3⟩, HT => by
    subst e
    have ht : TVRs M h (vs.take p.cs.length) c1 := by have := HT.take' c1.length; rw [List.take_left] at this; rw [← h2]; exact this
    have hd : TVRs M h (vs.drop p.cs.length) c2 := by have := HT.drop' c1.length; rw [List.drop_left] at this; rw [← h2]; exact this
    simp only [groupL, TVRs]
    refine ⟨?_, groupL_ok ps h3 hd⟩
    split at h1
    · rename_i hp
      rw [if_pos hp, h1]
      simp only [TVR]
      exact ⟨c1, rfl, ht⟩
    · rename_i hp
      rw [if_neg hp]
      subst h1
      cases vs with
      | nil => simp only [TVRs, List.singleton_append, reduceCtorEq] at HT
      | cons v vs => simp only [List.singleton_append, TVRs] at HT; exact HT.1
theorem group1_ok {vs : List TV} {r : AV} {rs : List AV} (HT : TVRs M h vs rs) (hr : Res1 r rs) : TVR M h (group1 vs) r := by
  have hl := HT.len
  rcases hr with ⟨a, rfl, rfl⟩ | ⟨hne, rfl⟩
  · cases vs with
    | nil => simp at hl
    | cons v vs => cases vs with
      | nil => simp only [TVRs] at HT; exact HT.1
      | cons => simp at hl
  · cases vs with
    | nil => simp only [group1, TVR]; exact ⟨_, rfl, HT⟩
    | cons v vs => cases vs with
      | nil => simp at hl; exact absurd hl.symm hne
      | cons => simp only [group1, TVR]; exact ⟨_, rfl, HT⟩

theorem lits_cells : ∀ (ts : List Ty) {d : Ty.Ds ts} {l : List AV}, LitCs ts d l → CellRels h [] ts d l []
  | [], d, l, H => by simp only [LitCs] at H; simp only [CellRels]; exact ⟨H, trivial⟩
  | t :: ts, d, [], H => by simp only [LitCs] at H
  | t :: ts, d, a :: l, H => by
    simp only [LitCs] at H
    simp only [CellRels]
    refine ⟨[], [], rfl, ?_, lits_cells ts H.2⟩
    cases t <;> simp only [CellRel, hdO] <;> exact ⟨H.1, trivial⟩

variable {P : Program} {ρ : Type}
/-- What a reading call sees. -/
theorem sees (S : SRel B M env h s) {ps : List PK} {vs l : List TV} {as : List AV} {d : Ty.Ds (ps.flatMap (·.cs))} (ha : argCells ps vs = some l) (hr : roTVs s (ps.flatMap (·.cs)) l = some d) (H : TVRs M h vs as) : ∃ ts tl, ACells ps ts tl ∧ LitCs _ d tl ∧ Seens h as ts := by
  obtain ⟨la, g1, g2⟩ := argCells_ok ps ha H
  obtain ⟨tl, g3, g4⟩ := roTVs_ok S (n := Ty.deps (ps.flatMap (·.cs))) _ hr g2 (Nat.le_refl _)
  obtain ⟨g5, g6⟩ := ACells.seens ps g1 g3
  exact ⟨_, tl, g5, g4, g6⟩
theorem fresh_fr {f : FuncId} {c : Ctr} (HC : CtrOk P f c) (hf : c.fresh = true) {d : Ty.Ds (c.ps.flatMap (·.cs))} {y : Ty.Ds (c.rs.flatMap (·.cs))} (hy : c.fn d = some y) {ts tl : List AV} (h1 : ACells c.ps ts tl) (h2 : LitCs _ d tl) :
    FR P f ts (grp1A (grpA c.rs (frCs _ y))) ∧ ∀ (M : Mp) (h : Heap) (vs : List TV), TVRs M h vs (frCs _ y) → TVR M h (group1 (groupL c.rs vs)) (grp1A (grpA c.rs (frCs _ y))) := by
  refine ⟨HC.fr hf hy h1 h2, fun M h vs HT => ?_⟩
  unfold CtrOk at HC
  rw [hf] at HC
  have hlen : ∀ (ts : List Ty) (x : Ty.Ds ts), (frCs ts x).length = ts.length := fun ts x => LitCs.len ts (frCs_lit ts x)
  have hA := grp_cells c.rs (frCs _ y) HC.1.2 (hlen _ _)
  refine group1_ok (groupL_ok c.rs hA HT) ?_
  generalize grpA c.rs (frCs _ y) = g
  cases g with
  | nil => exact .inr ⟨by simp, rfl⟩
  | cons a l => cases l with
    | nil => exact .inl ⟨a, rfl, rfl⟩
    | cons => exact .inr ⟨by simp, rfl⟩

/-- **A CALL BY ITS CONTRACT.** -/
theorem vcall_ok (S : SRel B M env h s) {f : FuncId} {c : Ctr} (HC : CtrOk P f c) {rows : Bool} {args : List Operand} {K : TV → VS → Option ρ} {out : ρ} (hv : vcall s c rows (args.map (s.ev none)) K = some out) :
    ∃ R, PCall P f (args.map (aeval env)) h R ∧ ∀ r h', R r h' → ∃ M' s' v, SRel B M' env h' s' ∧ TVR M' h' v r ∧ K v s' = some out := by
  have HA := S.evs (g := none) trivial args
  unfold vcall at hv
  split at hv
  · rename_i l ha
    split at hv
    · rename_i hf
      split at hv
      · rename_i d hd
        simp only [Option.bind_eq_some_iff] at hv
        obtain ⟨y, hy, hv⟩ := hv
        obtain ⟨ts, tl, g1, g2, g3⟩ := sees S ha hd HA
        cases rows with
        | false =>
          obtain ⟨k1, k2⟩ := fresh_fr HC hf hy g1 g2
          refine ⟨_, k1.lift (g3.ext (HExt.refl h)), fun r h' ⟨e1, e2⟩ => ?_⟩
          subst e1; subst e2
          simp only [Bool.false_eq_true, if_false] at hv
          generalize hgg : giveTVs [] (c.rs.flatMap (·.cs)) y s = q at hv
          obtain ⟨vs, s1⟩ := q
          obtain ⟨M1, p1, p2, p3⟩ := giveTVs_ok _ S (lits_cells _ (frCs_lit _ y)) List.nodup_nil (fun x hx => by simp at hx) hgg
          exact ⟨M1, s1, _, p1, k2 M1 _ vs p3, hv⟩
        | true =>
          refine ⟨_, HC.rows hf hy g1 g2 (g3.ext (HExt.refl h)), fun r h' ⟨rs, l', F, k1, k2, k3, k4, k5, k6⟩ => ?_⟩
          simp only [if_true] at hv
          generalize hgg : giveTVs ((c.rs.flatMap (·.cs)).map fun _ => some NM.S) (c.rs.flatMap (·.cs)) y s = q at hv
          obtain ⟨vs, s1⟩ := q
          have S' := S.frame k5 (fun x hx => by simp at hx)
          obtain ⟨M1, p1, p2, p3⟩ := giveTVs_ok _ S' k3 k4 (fun x hx => ⟨fun j hj => by have := S.lt j x hj; have := (k6 x hx).2; omega, (k6 x hx).1, .inr (Nat.le_trans S.nx (k6 x hx).2)⟩) hgg
          exact ⟨M1, s1, _, p1, group1_ok (groupL_ok c.rs k2 p3) k1, hv⟩
      · cases hv
    · rename_i hf
      split at hv
      · rename_i d s1 hd
        simp only [Option.bind_eq_some_iff] at hv
        obtain ⟨y, hy, hv⟩ := hv
        obtain ⟨la, g1, g2⟩ := argCells_ok c.ps ha HA
        obtain ⟨M1, C, S1, D1, q1, q2, q3⟩ := takeTVs_ok _ S g2 hd
        unfold CtrOk at HC
        rw [hf] at HC
        have hCap := Apart.of_eaten S q3
        refine ⟨_, HC d y hy h _ la C g1 q1 q2 (fun x hx => (hCap x hx).2.1), fun r h' ⟨rs, l', F', k1, k2, k3, k4, k5, k6⟩ => ?_⟩
        generalize hgg : giveTVs (PK.owns c.rs) (c.rs.flatMap (·.cs)) y s1 = q at hv
        obtain ⟨vs, s2⟩ := q
        have S' := S1.frame k5 (fun x hx => ⟨(hCap x hx).1, (hCap x hx).2.2⟩)
        obtain ⟨M2, p1, p2, p3⟩ := giveTVs_ok _ S' k3 k4 (fun x hx => by
          obtain ⟨u1, u2⟩ := k6 x hx
          rcases u2 with u2 | u2
          · exact ⟨(hCap x u2).1, u1, (hCap x u2).2.2⟩
          · exact ⟨fun j hj => by have := S1.lt j x hj; omega, u1, .inr (Nat.le_trans S1.nx u2)⟩) hgg
        exact ⟨M2, s2, _, p1, group1_ok (groupL_ok c.rs k2 p3) k1, hv⟩
      · cases hv
  · cases hv
end
end Go.PA
