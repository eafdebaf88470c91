/- Typed values: elements read and written, rows changed. No condition. -/
import Derived.Test.YtnbhalhlodnmpaaV6
namespace Go.PA
set_option linter.unusedVariables false
set_option linter.unusedSimpArgs false

theorem castL_ok {a b : List Ty} {xs : List (Ty.Ds a)} {ys : List (Ty.Ds b)} (h : castL a b xs = some ys) : ∃ e : a = b, e ▸ xs = ys := by
  unfold castL at h
  split at h
  · rename_i he
    have := Ty.eqs_ok a b he
    subst this
    exact ⟨rfl, by simpa using h⟩
  · cases h
section
variable {B : Bg} {M : Mp} {env : List AV} {h : Heap} {s : VS}

theorem toTV_lit {t : Ty} {x : t.D} {a : AV} (H : LitC t x a) : TVR M h (toTV none t x) a := by
  cases t <;> simp only [LitC] at H <;> simp only [toTV, TVR] <;> first | exact H | (simp only [LitC]; exact H)
theorem toTVs_lit : ∀ (ts : List Ty) {x : Ty.Ds ts} {as : List AV}, LitCs ts x as → TVRs M h (toTVs none ts x) as
  | [], x, as, H => by simpa only [LitCs, toTVs, TVRs] using H
  | t :: ts, x, [], H => by simp only [LitCs] at H
  | t :: ts, x, a :: as, H => by
    simp only [LitCs] at H
    simp only [toTVs, TVRs]
    exact ⟨toTV_lit H.1, toTVs_lit ts H.2⟩
theorem toTV_vw {i : Nat} (hi : M.lv i = true) {t : Ty} {x : t.D} {a : AV} {F : List Nat} (H : OwnC h .A t x a F) (hF : ∀ x ∈ F, x ∈ M.N i) : TVR M h (toTV (some i) t x) a := by
  cases t with
  | sl cs => simp only [toTV, TVR]; exact ⟨hi, F, hF, H⟩
  | _ => simp only [OwnC] at H; simp only [toTV, TVR]; exact H.1
theorem toTVs_vw {i : Nat} (hi : M.lv i = true) : ∀ (ts : List Ty) {x : Ty.Ds ts} {as : List AV} {F : List Nat}, OwnCs h .A ts x as F → (∀ x ∈ F, x ∈ M.N i) → TVRs M h (toTVs (some i) ts x) as
  | [], x, as, F, H, _ => by simp only [OwnCs] at H; simpa only [toTVs, TVRs] using H.1
  | t :: ts, x, [], F, H, _ => by simp only [OwnCs] at H
  | t :: ts, x, a :: as, F, H, hF => by
    simp only [OwnCs] at H
    obtain ⟨F1, F2, e, h1, h2⟩ := H
    simp only [toTVs, TVRs]
    exact ⟨toTV_vw hi h1 fun x hx => hF x (by rw [e]; exact List.mem_append_left _ hx), toTVs_vw hi ts h2 fun x hx => hF x (by rw [e]; exact List.mem_append_right _ hx)⟩
theorem toTVs_row {i : Nat} (hi : M.lv i = true) {m : NM} {ts : List Ty} {x : Ty.Ds ts} {as : List AV} {F : List Nat} (H : OwnCs h m ts x as F) (hF : ∀ x ∈ F, x ∈ M.N i) : TVRs M h (toTVs (m.o i) ts x) as := by
  cases m with
  | L => exact toTVs_lit ts (OwnCs.lit (.inl rfl) ts H).1
  | Z => exact toTVs_lit ts (OwnCs.lit (.inr rfl) ts H).1
  | S => exact toTVs_vw hi ts (OwnCs.mode (NM.ok_A _) ts H) hF
  | A => exact toTVs_vw hi ts H hF

theorem SRel.live (S : SRel B M env h s) {i : Nat} {r : VRow} (hr : s.row? i = some r) : M.lv i = true := by rw [S.lv i, hr]; rfl
theorem SRel.live' (S : SRel B M env h s) {i : Nat} (hi : M.lv i = true) : ∃ r, s.row? i = some r := by
  rw [S.lv i] at hi; exact Option.isSome_iff_exists.1 hi

/-- An element of a row. -/
theorem SRel.elem (S : SRel B M env h s) {i : Nat} {r : VRow} (hr : s.row? i = some r) {k : Nat} (hk : k < r.xs.length) : ∃ rr off row es A F C, M.α i = .ref rr off r.xs.length ∧ h.rows rr = some row ∧ row.sz = r.cs.length ∧ off + r.xs.length ≤ row.el.length ∧
    row.el[off + k]? = some es ∧ es.length = r.cs.length ∧ OwnCs h r.nm r.cs (r.xs.getD k (Ty.ds0 r.cs)) es F ∧ M.N i = A ++ F ++ C ∧ TVRs M h (toTVs (r.nm.o i) r.cs (r.xs.getD k (Ty.ds0 r.cs))) es ∧
    ∀ m', r.nm.ok m' = true → ∀ d' es' F', OwnCs h m' r.cs d' es' F' → AllF (fun x y G => OwnCs h m' r.cs x y G) (r.xs.set k d') (((row.el.drop off).take r.xs.length).set k es') (A ++ F' ++ C) := by
  rcases S.row i r hr with ⟨_, h2, _⟩ | ⟨rr, off, row, h1, h2, h3, h4, h5⟩
  · rw [h2] at hk; simp at hk
  · have hx : r.xs[k]? = some (r.xs.getD k (Ty.ds0 r.cs)) := by rw [List.getD_eq_getElem?_getD, List.getElem?_eq_getElem hk]; rfl
    obtain ⟨es, A, F, C, g1, g2, g3, g4⟩ := h5.at_ k hx
    rw [List.getElem?_take, if_pos hk, List.getElem?_drop] at g1
    exact ⟨rr, off, row, es, A, F, C, h1, h2, h3, h4, g1, OwnCs.len _ g3, g3, g2, toTVs_row (S.live hr) g3 (fun x hx => by rw [g2]; simp [hx]), fun m' hm => g4 _ fun _ _ _ => OwnCs.mode hm _⟩

theorem unTV_none {t : Ty} {v : TV} {d : t.D} {m : NM} (hu : unTV s t v = some (d, m, none)) {a : AV} (H : TVR M h v a) : OwnC h m t d a [] := by
  unfold unTV at hu
  split at hu
  · split at hu
    · rename_i hk
      simp only [Option.some.injEq, Prod.mk.injEq] at hu
      obtain ⟨rfl, rfl, _⟩ := hu
      simp only [TVR] at H
      simp only [OwnC]
      exact ⟨by rw [hk]; exact H, trivial⟩
    · cases hu
  · simp only [Option.some.injEq, Prod.mk.injEq] at hu
    obtain ⟨rfl, rfl, _⟩ := hu
    simp only [TVR] at H
    simp only [OwnC]
    exact ⟨H, trivial⟩
  · simp only [Option.some.injEq, Prod.mk.injEq] at hu
    obtain ⟨rfl, rfl, _⟩ := hu
    simp only [TVR] at H
    simp only [OwnC]
    exact ⟨H, trivial⟩
  · simp only [Option.some.injEq, Prod.mk.injEq] at hu
    obtain ⟨rfl, rfl, _⟩ := hu
    simp only [TVR] at H
    simp only [OwnC]
    exact .inl ⟨.inl H, rfl, trivial⟩
  · split at hu
    · rename_i ys hc
      simp only [Option.some.injEq, Prod.mk.injEq] at hu
      obtain ⟨rfl, rfl, _⟩ := hu
      obtain ⟨rfl, rfl⟩ := castL_ok hc
      simp only [TVR] at H
      exact LitC.own _ H
    · cases hu
  · split at hu
    · split at hu
      · have := congrArg (fun p => p.map fun q => q.2.2) hu; simp at this
      · cases hu
    · cases hu
  · cases hu
theorem unTV_some (S : SRel B M env h s) {t : Ty} {v : TV} {d : t.D} {m : NM} {i : Nat} (hu : unTV s t v = some (d, m, some i)) {a : AV} (H : TVR M h v a) : OwnC h m t d a (fp M i) := by
  unfold unTV at hu
  split at hu
  · split at hu
    · exact absurd (congrArg (fun p => p.map fun q => q.2.2) hu) (by simp)
    · cases hu
  · exact absurd (congrArg (fun p => p.map fun q => q.2.2) hu) (by simp)
  · exact absurd (congrArg (fun p => p.map fun q => q.2.2) hu) (by simp)
  · exact absurd (congrArg (fun p => p.map fun q => q.2.2) hu) (by simp)
  · split at hu
    · exact absurd (congrArg (fun p => p.map fun q => q.2.2) hu) (by simp)
    · cases hu
  · split at hu
    · rename_i r hr
      split at hu
      · rename_i ys hc
        simp only [Option.some.injEq, Prod.mk.injEq] at hu
        obtain ⟨rfl, rfl, rfl⟩ := hu
        have R := S.row _ r hr
        obtain ⟨nm, cs', xs⟩ := r
        obtain ⟨e, rfl⟩ := castL_ok hc
        simp only at e R ⊢
        subst e
        simp only [TVR] at H
        rw [H.2]
        exact R.toOwn
      · cases hu
    · cases hu
  · cases hu

/-- Some rows were given up. -/
structure Sub (M M' : Mp) (s s' : VS) : Prop where
  keep : ∀ j, M'.lv j = true → M.lv j = true ∧ M'.α j = M.α j ∧ M'.N j = M.N j ∧ s'.row? j = s.row? j
  gone : ∀ j, M'.lv j = false → fp M' j = []
  β : M'.β = M.β
  nb : M'.nb = M.nb
  rows : ∀ j, s.row? j = none → s'.row? j = none
theorem Sub.refl (S : SRel B M env h s) : Sub M M s s := ⟨fun j hj => ⟨hj, rfl, rfl, rfl⟩, fun j hj => by unfold fp; rw [(S.dead j hj).1, (S.dead j hj).2]; rfl, rfl, rfl, fun _ h => h⟩
theorem Sub.fp {M' : Mp} {s' : VS} (D : Sub M M' s s') {j x : Nat} (hx : x ∈ fp M' j) : x ∈ Go.PA.fp M j := by
  cases hl : M'.lv j with
  | true => obtain ⟨_, h1, h2, _⟩ := D.keep j hl; unfold Go.PA.fp at *; rw [h1, h2] at hx; exact hx
  | false => rw [D.gone j hl] at hx; simp at hx
theorem Sub.trans {M1 M2 : Mp} {s1 s2 : VS} (a : Sub M M1 s s1) (b : Sub M1 M2 s1 s2) : Sub M M2 s s2 where
  keep j hj := by
    obtain ⟨h1, h2, h3, h4⟩ := b.keep j hj
    obtain ⟨g1, g2, g3, g4⟩ := a.keep j h1
    exact ⟨g1, h2.trans g2, h3.trans g3, h4.trans g4⟩
  gone := b.gone
  β := b.β.trans a.β
  nb := b.nb.trans a.nb
  rows j h := b.rows j (a.rows j h)
theorem Sub.free (S : SRel B M env h s) (i : Nat) : Sub M (M.free i) s (s.free i) where
  keep j hj := by
    by_cases h : j = i
    · simp [Mp.free, h] at hj
    · simp only [Mp.free, h, if_false] at hj ⊢
      exact ⟨hj, trivial, trivial, by rw [free_row?, if_neg h]⟩
  gone j hj := (S.free i).dead j hj |> fun ⟨a, b⟩ => by unfold Go.PA.fp; rw [a, b]; rfl
  β := rfl
  nb := rfl
  rows j h := by rw [free_row?]; split <;> first | rfl | exact h

/-- What was consumed: it was owned, and is owned no more. -/
def Eaten (M M' : Mp) (C : List Nat) : Prop := ∀ x ∈ C, (∃ j, x ∈ fp M j) ∧ ∀ j, x ∉ fp M' j
theorem Eaten.nil (M M' : Mp) : Eaten M M' [] := fun x hx => by simp at hx
theorem Eaten.later {M1 M2 : Mp} {s1 s2 : VS} {C : List Nat} (H : Eaten M M1 C) (D : Sub M1 M2 s1 s2) : Eaten M M2 C :=
  fun x hx => ⟨(H x hx).1, fun j hj => (H x hx).2 j (D.fp hj)⟩
theorem Eaten.sooner {M1 M2 : Mp} {s1 : VS} {C : List Nat} (D : Sub M M1 s s1) (H : Eaten M1 M2 C) : Eaten M M2 C :=
  fun x hx => ⟨(H x hx).1.imp fun j hj => D.fp hj, (H x hx).2⟩
theorem Eaten.free (S : SRel B M env h s) (i : Nat) : Eaten M (M.free i) (fp M i) := fun x hx => ⟨⟨i, hx⟩, fun j hj => by
  rw [fp_free] at hj
  split at hj
  · simp at hj
  · rename_i hne; exact hne (S.dj j i x hj hx)⟩
/-- What was consumed apart is apart. -/
theorem Eaten.apart {M1 M2 : Mp} {C C' : List Nat} (H : Eaten M M1 C) (H' : Eaten M1 M2 C') : ∀ x ∈ C, x ∉ C' := fun x hx hx' => by
  obtain ⟨j, hj⟩ := (H' x hx').1
  exact (H x hx).2 j hj

theorem unTVs_ok : ∀ (ts : List Ty) {M : Mp} {s : VS} {vs : List TV} {as : List AV} {d : Ty.Ds ts} {m : NM} {s' : VS}, SRel B M env h s → TVRs M h vs as → unTVs s ts vs = some (d, m, s') →
    ∃ M' C, SRel B M' env h s' ∧ Sub M M' s s' ∧ OwnCs h m ts d as C ∧ C.Nodup ∧ Eaten M M' C ∧ s'.gds = s.gds
  | [], M, s, vs, as, d, m, s', S, H, hu => by
    cases vs with
    | nil =>
      simp only [unTVs, Option.some.injEq, Prod.mk.injEq] at hu
      obtain ⟨_, rfl, rfl⟩ := hu
      simp only [TVRs] at H
      exact ⟨M, [], S, .refl S, by simp only [OwnCs]; exact ⟨H, trivial⟩, List.nodup_nil, .nil _ _, rfl⟩
    | cons => simp [unTVs] at hu
  | t :: ts, M, s, vs, as, d, m, s', S, H, hu => by
    cases vs with
    | nil => simp [unTVs] at hu
    | cons v vs =>
      cases as with
      | nil => simp only [TVRs] at H
      | cons a as =>
        simp only [TVRs] at H
        simp only [unTVs] at hu
        split at hu
        · rename_i d1 m1 hd
          split at hu
          · rename_i ds m2 s2 hds
            simp only [Option.some.injEq, Prod.mk.injEq] at hu
            obtain ⟨rfl, rfl, rfl⟩ := hu
            obtain ⟨M', C, h1, h2, h3, h4, h5, h6⟩ := unTVs_ok ts S H.2 hds
            refine ⟨M', C, h1, h2, ?_, h4, h5, h6⟩
            simp only [OwnCs]
            exact ⟨[], C, rfl, OwnC.mode (NM.ok_join_l _ _) t (unTV_none hd H.1), OwnCs.mode (NM.ok_join_r _ _) ts h3⟩
          · cases hu
        · rename_i d1 m1 i hd
          split at hu
          · rename_i ds m2 s2 hds
            simp only [Option.some.injEq, Prod.mk.injEq] at hu
            obtain ⟨rfl, rfl, rfl⟩ := hu
            obtain ⟨M', C, h1, h2, h3, h4, h5, h6⟩ := unTVs_ok ts (S.free i) (H.2.kill (M.free_kills h i)) hds
            have hE := Eaten.free S i
            refine ⟨M', fp M i ++ C, h1, (Sub.free S i).trans h2, ?_, List.nodup_append.2 ⟨S.nd i, h4, fun x hx y hy e => hE.apart h5 x hx (e ▸ hy)⟩, fun x hx => ?_, h6⟩
            · simp only [OwnCs]
              exact ⟨fp M i, C, rfl, OwnC.mode (NM.ok_join_l _ _) t (unTV_some S hd H.1), OwnCs.mode (NM.ok_join_r _ _) ts h3⟩
            · rcases List.mem_append.1 hx with hx | hx
              · exact hE.later h2 x hx
              · exact h5.sooner (Sub.free S i) x hx
          · cases hu
        · cases hu

theorem splice_succ (a : AV) (l : List AV) (n : Nat) : ∀ (cs : List AV), splice (a :: l) (n + 1) cs = a :: splice l n cs := by
  intro cs
  induction cs generalizing l n with
  | nil => rfl
  | cons c cs ih => simp only [splice, List.set_cons_succ]; rw [ih]
theorem splice_zero (a c : AV) (l cs : List AV) : splice (a :: l) 0 (c :: cs) = c :: splice l 0 cs := by
  simp only [splice, List.set_cons_zero]; exact splice_succ c l 0 cs
/-- What comes of a cell that is written over: what stays, what was consumed. -/
theorem putTVs_ok : ∀ (ts : List Ty) {M : Mp} {s : VS} {off : Nat} {vs : List TV} {bs as : List AV} {d d' : Ty.Ds ts} {m0 m : NM} {s' : VS} {F : List Nat}, SRel B M env h s → TVRs M h vs bs → OwnCs h m0 ts d as F → putTVs s ts d off vs = some (d', m, s') →
    ∃ M' C F', SRel B M' env h s' ∧ Sub M M' s s' ∧ OwnCs h (m0.join m) ts d' (splice as off bs) F' ∧ Eaten M M' C ∧ s'.gds = s.gds ∧ (∀ x ∈ F', x ∈ F ∨ x ∈ C) ∧ (F.Nodup → (∀ x ∈ F, x ∉ C) → F'.Nodup) ∧ (bs = [] ∨ off + bs.length ≤ as.length)
  | [], M, s, off, vs, bs, as, d, d', m0, m, s', F, S, H, O, hu => by
    cases vs with
    | nil =>
      simp only [putTVs, Option.some.injEq, Prod.mk.injEq] at hu
      obtain ⟨rfl, rfl, rfl⟩ := hu
      simp only [TVRs] at H
      subst H
      exact ⟨M, [], F, S, .refl S, OwnCs.mode (NM.ok_join_l _ _) _ O, .nil _ _, rfl, fun x hx => .inl hx, fun h _ => h, .inl rfl⟩
    | cons v vs => simp [putTVs] at hu
  | t :: ts, M, s, off, vs, bs, as, d, d', m0, m, s', F, S, H, O, hu => by
    cases as with
    | nil => simp only [OwnCs] at O
    | cons a as =>
      simp only [OwnCs] at O
      obtain ⟨F1, F2, rfl, O1, O2⟩ := O
      have none_ : vs = [] → ∃ M' C F', SRel B M' env h s' ∧ Sub M M' s s' ∧ OwnCs h (m0.join m) (t :: ts) d' (splice (a :: as) off bs) F' ∧ Eaten M M' C ∧ s'.gds = s.gds ∧ (∀ x ∈ F', x ∈ F1 ++ F2 ∨ x ∈ C) ∧ ((F1 ++ F2).Nodup → (∀ x ∈ F1 ++ F2, x ∉ C) → F'.Nodup) ∧ (bs = [] ∨ off + bs.length ≤ (a :: as).length) := by
        intro e
        subst e
        cases off <;> (
          simp only [putTVs, Option.some.injEq, Prod.mk.injEq] at hu
          obtain ⟨rfl, rfl, rfl⟩ := hu
          simp only [TVRs] at H
          subst H
          refine ⟨M, [], F1 ++ F2, S, .refl S, OwnCs.mode (NM.ok_join_l _ _) _ ?_, .nil _ _, rfl, fun x hx => .inl hx, fun h _ => h, .inl rfl⟩
          simp only [OwnCs, splice]
          exact ⟨F1, F2, rfl, O1, O2⟩)
      cases off with
      | zero =>
        cases vs with
        | nil => exact none_ rfl
        | cons v vs =>
          cases bs with
          | nil => simp only [TVRs] at H
          | cons b bs =>
            simp only [TVRs] at H
            simp only [putTVs] at hu
            split at hu
            · rename_i d1 m1 hd
              split at hu
              · rename_i ds m2 s2 hds
                simp only [Option.some.injEq, Prod.mk.injEq] at hu
                obtain ⟨rfl, rfl, rfl⟩ := hu
                obtain ⟨M', C, F', h1, h2, h3, h4, h5, h6, h7, h8⟩ := putTVs_ok ts S H.2 O2 hds
                refine ⟨M', C, F', h1, h2, ?_, h4, h5, fun x hx => (h6 x hx).imp_left (List.mem_append_right _), fun g1 g2 => h7 (List.nodup_append.1 g1).2.1 fun x hx => g2 x (List.mem_append_right _ hx), ?_⟩
                · rw [splice_zero]
                  simp only [OwnCs]
                  exact ⟨[], F', rfl, OwnC.mode (NM.ok_trans (NM.ok_join_l _ _) (NM.ok_join_r _ _)) t (unTV_none hd H.1), OwnCs.mode (NM.join_ok (NM.ok_join_l _ _) (NM.ok_trans (NM.ok_join_r _ _) (NM.ok_join_r _ _))) ts h3⟩
                · refine .inr ?_
                  rcases h8 with rfl | h8
                  · simp
                  · simp only [List.length_cons]; omega
              · cases hu
            · rename_i d1 m1 i hd
              split at hu
              · rename_i ds m2 s2 hds
                simp only [Option.some.injEq, Prod.mk.injEq] at hu
                obtain ⟨rfl, rfl, rfl⟩ := hu
                obtain ⟨M', C, F', h1, h2, h3, h4, h5, h6, h7, h8⟩ := putTVs_ok ts (S.free i) (H.2.kill (M.free_kills h i)) O2 hds
                have hE := Eaten.free S i
                refine ⟨M', fp M i ++ C, fp M i ++ F', h1, (Sub.free S i).trans h2, ?_, fun x hx => ?_, h5, fun x hx => ?_, fun g1 g2 => ?_, ?_⟩
                · rw [splice_zero]
                  simp only [OwnCs]
                  exact ⟨fp M i, F', rfl, OwnC.mode (NM.ok_trans (NM.ok_join_l _ _) (NM.ok_join_r _ _)) t (unTV_some S hd H.1), OwnCs.mode (NM.join_ok (NM.ok_join_l _ _) (NM.ok_trans (NM.ok_join_r _ _) (NM.ok_join_r _ _))) ts h3⟩
                · rcases List.mem_append.1 hx with hx | hx
                  · exact hE.later h2 x hx
                  · exact h4.sooner (Sub.free S i) x hx
                · rcases List.mem_append.1 hx with hx | hx
                  · exact .inr (List.mem_append_left _ hx)
                  · exact (h6 x hx).imp (List.mem_append_right _) (List.mem_append_right _)
                · refine List.nodup_append.2 ⟨S.nd i, h7 (List.nodup_append.1 g1).2.1 fun x hx hc => g2 x (List.mem_append_right _ hx) (List.mem_append_right _ hc), fun x hx y hy e => ?_⟩
                  subst e
                  rcases h6 x hy with hy | hy
                  · exact g2 x (List.mem_append_right _ hy) (List.mem_append_left _ hx)
                  · exact hE.apart h4 x hx hy
                · refine .inr ?_
                  rcases h8 with rfl | h8
                  · simp
                  · simp only [List.length_cons]; omega
              · cases hu
            · cases hu
      | succ n =>
        cases vs with
        | nil => exact none_ rfl
        | cons v vs =>
          simp only [putTVs] at hu
          split at hu
          · rename_i ds m2 s2 hds
            simp only [Option.some.injEq, Prod.mk.injEq] at hu
            obtain ⟨rfl, rfl, rfl⟩ := hu
            obtain ⟨M', C, F', h1, h2, h3, h4, h5, h6, h7, h8⟩ := putTVs_ok ts S H O2 hds
            refine ⟨M', C, F1 ++ F', h1, h2, ?_, h4, h5, fun x hx => ?_, fun g1 g2 => ?_, ?_⟩
            · rw [splice_succ]
              simp only [OwnCs]
              exact ⟨F1, F', rfl, OwnC.mode (NM.ok_join_l _ _) t O1, h3⟩
            · rcases List.mem_append.1 hx with hx | hx
              · exact .inl (List.mem_append_left _ hx)
              · exact (h6 x hx).imp_left (List.mem_append_right _)
            · obtain ⟨k1, k2, k3⟩ := List.nodup_append.1 g1
              refine List.nodup_append.2 ⟨k1, h7 k2 fun x hx => g2 x (List.mem_append_right _ hx), fun x hx y hy e => ?_⟩
              subst e
              rcases h6 x hy with hy | hy
              · exact k3 x hx x hy rfl
              · exact g2 x (List.mem_append_left _ hx) hy
            · rcases h8 with h8 | h8
              · exact .inl h8
              · refine .inr ?_
                simp only [List.length_cons]; omega
          · cases hu

/-! A row's elements are changed. -/
theorem touch_env (s : VS) (i : Nat) (cs : List Ty) (t : Nat) : (s.touch i cs).env[t]? = if hasSl cs then (s.env[t]?).map (TV.dim i) else s.env[t]? := by
  unfold VS.touch
  cases hasSl cs <;> simp [dims_get]
theorem touch_box? (s : VS) (i : Nat) (cs : List Ty) (b : Nat) : (s.touch i cs).box? b = if hasSl cs then (s.box? b).map (TV.dims i) else s.box? b := by
  unfold VS.touch
  cases hasSl cs with
  | false => simp
  | true =>
    simp only [if_true]
    unfold VS.box?
    simp only [dimB_get]
    cases h : s.boxes[b]? with
    | none => rfl
    | some o => cases o <;> rfl
theorem touch_rest (s : VS) (i : Nat) (cs : List Ty) : (s.touch i cs).env.length = s.env.length ∧ (s.touch i cs).boxes.length = s.boxes.length ∧ (s.touch i cs).rows = s.rows ∧ (s.touch i cs).gds = s.gds := by
  unfold VS.touch
  cases hasSl cs <;> simp [dims_len, dimB_len]

theorem SRel.setRow (S : SRel B M env h s) {i : Nat} {r0 : VRow} (hr0 : s.row? i = some r0) {h' : Heap} (hh : ∀ x, x ∉ rid (M.α i) → h'.rows x = h.rows x) (hb : h'.boxes = h.boxes) (hn : h'.next = h.next) {r : VRow} {F : List Nat}
    (hrow : RowRel h' r.nm r.cs r.xs (M.α i) F) (hnd : (rid (M.α i) ++ F).Nodup) (hF : ∀ x ∈ F, x ∈ M.N i ∨ ((∀ j, x ∉ fp M j) ∧ x < h.next ∧ (x ∈ B.F ∨ B.h.next ≤ x))) :
    SRel B { M with N := fun j => if j = i then F else M.N j } env h' { s.touch i r0.cs with rows := s.rows.set i (some r) } := by
  have hlv := S.live hr0
  have htop : ∀ j, j ≠ i → ∀ x ∈ fp M j, x ∉ rid (M.α i) := fun j hj x hx he => hj (S.dj j i x hx (List.mem_append_left _ he))
  have hNi : ∀ x ∈ M.N i, x ∉ rid (M.α i) := fun x hx he => by
    have := S.nd i
    unfold fp at this
    exact (List.nodup_append.1 this).2.2 x he x hx rfl
  have hfp : ∀ j, fp { M with N := fun j => if j = i then F else M.N j } j = if j = i then rid (M.α i) ++ F else fp M j := fun j => by
    unfold fp
    by_cases h : j = i <;> simp [h]
  have hFj : ∀ x ∈ rid (M.α i) ++ F, ∀ j, j ≠ i → x ∉ fp M j := fun x hx j hj hj' => by
    rcases List.mem_append.1 hx with hx | hx
    · exact htop j hj x hj' hx
    · rcases hF x hx with h1 | h1
      · exact hj (S.dj j i x hj' (List.mem_append_right _ h1))
      · exact h1.1 j hj'
  have D : Dims i M h { M with N := fun j => if j = i then F else M.N j } h' := ⟨fun b hb => ⟨hb, rfl⟩, fun j hj => ⟨hj, rfl⟩, fun j hj _ x hx => ⟨by simpa [hj] using hx, hh x (htop j hj x (List.mem_append_right _ hx))⟩⟩
  have Dm : hasSl r0.cs = false → Mono M h { M with N := fun j => if j = i then F else M.N j } h' := fun hf => by
    have := (RowRel.flat hf .A (S.row i r0 hr0)).1
    refine ⟨fun b hb => ⟨hb, rfl⟩, fun j hj => ⟨hj, rfl, fun x hx => ?_⟩⟩
    by_cases hji : j = i
    · subst hji; rw [this] at hx; simp at hx
    · exact ⟨by simpa [hji] using hx, hh x (htop j hji x (List.mem_append_right _ hx))⟩
  obtain ⟨t1, t2, t3, t4⟩ := touch_rest s i r0.cs
  have hilt : i < s.rows.length := (List.getElem?_eq_some_iff.1 (VS.row?_eq.1 hr0)).1
  have hrow? : ∀ j, VS.row? { s.touch i r0.cs with rows := s.rows.set i (some r) } j = if j = i then some r else s.row? j := fun j => by
    unfold VS.row?
    simp only [List.getElem?_set]
    by_cases hji : j = i
    · subst hji; simp [hilt]
    · have : i ≠ j := fun e => hji e.symm
      simp [this, hji]
  refine ⟨by simp [t1, S.len], fun t v a h1 h2 => ?_, by simp [t2, S.nb], fun b cs hb' => ?_, S.binj, fun b hb' => ?_, fun j => ?_, fun j r' hr' => ?_, fun j hj => ?_, fun j x hx => ?_, fun j => ?_, fun j k x h1 h2 => ?_, fun t g w v h1 => ?_, fun j x hx => ?_, fun x h1 h2 => ?_, fun b hb' => ?_, by rw [hn]; exact S.nx, by rw [hb]; exact S.bx⟩
  · rw [touch_env] at h1
    split at h1
    · simp only [Option.map_eq_some_iff] at h1
      obtain ⟨v', h1, rfl⟩ := h1
      exact (S.env t v' a h1 h2).dim D
    · rename_i hf
      exact (S.env t v a h1 h2).mono (Dm (by simpa using hf))
  · have hb'' : (s.touch i r0.cs).box? b = some cs := hb'
    rw [touch_box?] at hb''
    split at hb''
    · simp only [Option.map_eq_some_iff] at hb''
      obtain ⟨cs', hb3, rfl⟩ := hb''
      obtain ⟨as, h1, h2⟩ := S.box b cs' hb3
      exact ⟨as, by rw [hb]; exact h1, h2.dim D⟩
    · rename_i hf
      obtain ⟨as, h1, h2⟩ := S.box b cs hb''
      exact ⟨as, by rw [hb]; exact h1, h2.mono (Dm (by simpa using hf))⟩
  · rw [hb]; exact S.bown b hb'
  · rw [hrow?]
    split
    · rename_i hji; subst hji; simpa using hlv
    · exact S.lv j
  · rw [hrow?] at hr'
    split at hr'
    · rename_i hji; subst hji; cases hr'; simpa using hrow
    · rename_i hji
      simp only [hji, if_false]
      exact (S.row j r' hr').heap fun x hx => hh x (htop j hji x hx)
  · have hji : j ≠ i := fun e => by subst e; rw [hlv] at hj; cases hj
    simp only [hji, if_false]
    exact S.dead j hj
  · rw [hfp] at hx
    rw [hn]
    split at hx
    · rcases List.mem_append.1 hx with hx | hx
      · exact S.lt i x (List.mem_append_left _ hx)
      · rcases hF x hx with h1 | h1
        · exact S.lt i x (List.mem_append_right _ h1)
        · exact h1.2.1
    · exact S.lt j x hx
  · rw [hfp]
    split
    · exact hnd
    · exact S.nd j
  · rw [hfp] at h1 h2
    split at h1
    · rename_i hj
      split at h2
      · rename_i hk; rw [hj, hk]
      · rename_i hk; exact absurd h2 (hFj x h1 k hk)
    · rename_i hj
      split at h2
      · exact absurd h1 (hFj x h2 j hj)
      · exact S.dj j k x h1 h2
  · simp only [t4]
    simp only [touch_env] at h1
    split at h1
    · simp only [Option.map_eq_some_iff] at h1
      obtain ⟨v', h1, h2⟩ := h1
      obtain ⟨u', rfl⟩ := dim_gd h2
      exact S.gd t g w u' h1
    · exact S.gd t g w v h1
  · rw [hfp] at hx
    split at hx
    · rcases List.mem_append.1 hx with hx | hx
      · exact S.own i x (List.mem_append_left _ hx)
      · rcases hF x hx with h1 | h1
        · exact S.own i x (List.mem_append_right _ h1)
        · exact h1.2.2
    · exact S.own j x hx
  · rw [← S.fr x h1 h2]
    refine hh x fun hx => ?_
    rcases S.own i x (List.mem_append_left _ hx) with h3 | h3
    · exact h2 h3
    · omega
  · rw [hb]; exact S.frb b hb'
theorem SRel.setRow' (S : SRel B M env h s) {i : Nat} {r0 : VRow} (hr0 : s.row? i = some r0) {h' : Heap} (hh : ∀ x, x ∉ rid (M.α i) → h'.rows x = h.rows x) (hb : h'.boxes = h.boxes) (hn : h'.next = h.next) {r : VRow} {F : List Nat}
    (hrow : RowRel h' r.nm r.cs r.xs (M.α i) F) (hnd : (rid (M.α i) ++ F).Nodup) (hF : ∀ x ∈ F, x ∈ M.N i ∨ ((∀ j, x ∉ fp M j) ∧ x < h.next ∧ (x ∈ B.F ∨ B.h.next ≤ x))) :
    SRel B { M with N := fun j => if j = i then F else M.N j } env h' { s.touch i r0.cs with rows := (s.touch i r0.cs).rows.set i (some r) } := by
  have := S.setRow hr0 hh hb hn hrow hnd hF
  rw [(touch_rest s i r0.cs).2.2.1]
  exact this
end
end Go.PA
