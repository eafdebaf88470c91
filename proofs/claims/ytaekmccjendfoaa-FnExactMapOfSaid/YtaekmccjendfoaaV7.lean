/- Typed values: elements read and written, rows changed. No condition. -/
import Derived.Test.YtaekmccjendfoaaV6
namespace Go.PA
set_option linter.unusedVariables false
set_option linter.unusedSimpArgs false

theorem castL_ok {a b : List Ty} {xs : List (Ty.Ds a)} {ys : List (Ty.Ds b)} (h : castL a b xs = some ys) : ∃ e : a = b, e ▸ xs = ys := by
  unfold castL at h
  split at h
  · rename_i he
    have := Ty.eqs_ok a b he
    subst this
    exact ⟨rfl, by simpa using h⟩
  · cases h
section
variable {B : Bg} {M : Mp} {env : List AV} {h : Heap} {s : VS}

/-- Where an element stands. -/
def Org (M : Mp) (h : Heap) (i : Nat) (k : Option Int) (es : List AV) : Prop := ∀ idx, k = some idx → ∃ r0 o0 len row, M.α i = .ref r0 o0 len ∧ 0 ≤ idx ∧ idx < (len : Int) ∧ h.rows r0 = some row ∧ row.el[o0 + idx.toNat]? = some es
theorem Org.none (M : Mp) (h : Heap) (i : Nat) (es : List AV) : Org M h i none es := fun _ e => by cases e
theorem toTV_vw {i : Nat} (hi : M.lv i = true) {k : Option Int} {es : List AV} (O : Org M h i k es) {t : Ty} {j : Nat} {x : t.D} {a : AV} {F : List Nat} (H : OwnC h M.Z .A t x a F) (hF : ∀ x ∈ F, x ∈ M.N i) (hj : es[j]? = some a) : TVR M h (toTV (some (i, k)) j t x) a := by
  cases t with
  | sl cs =>
    simp only [toTV, TVR]
    refine ⟨hi, ⟨F, hF, H⟩, fun idx off e => ?_⟩
    cases k with
    | none => cases e
    | some k =>
      simp only [srcO, Option.some.injEq, Prod.mk.injEq] at e
      obtain ⟨rfl, rfl⟩ := e
      obtain ⟨r0, o0, len, row, h1, h2, h3, h4, h5⟩ := O k rfl
      exact ⟨r0, o0, len, row, es, h1, h2, h3, h4, h5, hj⟩
  | _ => simp only [OwnC] at H; simp only [toTV, TVR]; exact H.1
theorem toTVs_vw {i : Nat} (hi : M.lv i = true) {k : Option Int} {es : List AV} (O : Org M h i k es) : ∀ (ts : List Ty) {j : Nat} {x : Ty.Ds ts} {as : List AV} {F : List Nat}, OwnCs h M.Z .A ts x as F → (∀ x ∈ F, x ∈ M.N i) → (∀ (p : Nat) a, as[p]? = some a → es[j + p]? = some a) → TVRs M h (toTVs (some (i, k)) j ts x) as
  | [], j, x, as, F, H, _, _ => by simp only [OwnCs] at H; simpa only [toTVs, TVRs] using H.1
  | t :: ts, j, x, [], F, H, _, _ => by simp only [OwnCs] at H
  | t :: ts, j, x, a :: as, F, H, hF, hj => by
    simp only [OwnCs] at H
    obtain ⟨F1, F2, e, h1, h2⟩ := H
    simp only [toTVs, TVRs]
    exact ⟨toTV_vw hi O h1 (fun x hx => hF x (by rw [e]; exact List.mem_append_left _ hx)) (hj 0 a rfl), toTVs_vw hi O ts h2 (fun x hx => hF x (by rw [e]; exact List.mem_append_right _ hx)) fun p b hb => by
      have := hj (p + 1) b (by simpa using hb)
      rw [show j + 1 + p = j + (p + 1) by omega]; exact this⟩
theorem toTVs_row {i : Nat} (hi : M.lv i = true) {k : Option Int} {m : NM} {ts : List Ty} {x : Ty.Ds ts} {as : List AV} {F : List Nat} (O : Org M h i k as) (H : OwnCs h M.Z m ts x as F) (hF : ∀ x ∈ F, x ∈ M.N i) : TVRs M h (toTVs (m.o i k) 0 ts x) as := by
  have hj : ∀ (p : Nat) a, as[p]? = some a → as[0 + p]? = some a := fun p a h => by simpa using h
  cases m with
  | L => exact toTVs_lit ts (OwnCs.lit (.inl rfl) ts H).1
  | Z => exact toTVs_lit ts (OwnCs.lit (.inr rfl) ts H).1
  | S => exact toTVs_vw hi O ts (OwnCs.mode (NM.ok_A _) ts H) hF hj
  | A => exact toTVs_vw hi O ts H hF hj

theorem SRel.live0 (S : SRel B M env h s) {i : Nat} {r : VSlot} (hr : s.slot? i = some r) : M.lv i = true := by rw [S.lv i, hr]; rfl
theorem SRel.live (S : SRel B M env h s) {i : Nat} {r : VRow} (hr : s.row? i = some r) : M.lv i = true := S.live0 (VS.slot_row.1 hr)
theorem SRel.live' (S : SRel B M env h s) {i : Nat} (hi : M.lv i = true) : ∃ r, s.slot? i = some r := by
  rw [S.lv i] at hi; exact Option.isSome_iff_exists.1 hi

/-- An element of a row. -/
theorem SRel.elem (S : SRel B M env h s) {i : Nat} {r : VRow} (hr : s.row? i = some r) {k : Nat} (hk : k < r.xs.length) : ∃ rr off row es A F C, M.α i = .ref rr off r.xs.length ∧ h.rows rr = some row ∧ row.sz = r.cs.length ∧ off + r.xs.length ≤ row.el.length ∧
    row.el[off + k]? = some es ∧ es.length = r.cs.length ∧ OwnCs h M.Z r.nm r.cs (r.xs.getD k (Ty.ds0 r.cs)) es F ∧ M.N i = A ++ F ++ C ∧ TVRs M h (toTVs (r.nm.o i (some (k : Int))) 0 r.cs (r.xs.getD k (Ty.ds0 r.cs))) es ∧
    ∀ m', r.nm.ok m' = true → ∀ d' es' F', OwnCs h M.Z m' r.cs d' es' F' → AllF (fun x y G => OwnCs h M.Z m' r.cs x y G) (r.xs.set k d') (((row.el.drop off).take r.xs.length).set k es') (A ++ F' ++ C) := by
  rcases S.row i r hr with ⟨_, h2, _⟩ | ⟨rr, off, row, h1, h2, h3, h4, h5⟩
  · rw [h2] at hk; simp at hk
  · have hx : r.xs[k]? = some (r.xs.getD k (Ty.ds0 r.cs)) := by rw [List.getD_eq_getElem?_getD, List.getElem?_eq_getElem hk]; rfl
    obtain ⟨es, A, F, C, g1, g2, g3, g4⟩ := h5.at_ k hx
    rw [List.getElem?_take, if_pos hk, List.getElem?_drop] at g1
    have O : Org M h i (some (k : Int)) es := fun idx e => by cases e; exact ⟨rr, off, _, row, h1, by omega, by omega, h2, g1⟩
    exact ⟨rr, off, row, es, A, F, C, h1, h2, h3, h4, g1, OwnCs.len _ g3, g3, g2, toTVs_row (S.live hr) O g3 (fun x hx => by rw [g2]; simp [hx]), fun m' hm => g4 _ fun _ _ _ => OwnCs.mode hm _⟩

/-- Some rows were given up, or what their elements own. -/
structure Sub (M M' : Mp) (s s' : VS) : Prop where
  keep : ∀ j, M'.lv j = true → M.lv j = true ∧ M'.α j = M.α j ∧ (∀ x ∈ M'.N j, x ∈ M.N j) ∧ ((s'.slot? j = s.slot? j ∧ M'.N j = M.N j) ∨ ∃ r, s.row? j = some r ∧ s'.row? j = some ⟨.L, r.cs, r.xs⟩)
  gone : ∀ j, M'.lv j = false → fp M' j = []
  β : M'.β = M.β
  nb : M'.nb = M.nb
  rows : ∀ j, s.slot? j = none → s'.slot? j = none
  z : ∀ x ∈ M.Z, x ∈ M'.Z
  znew : ∀ x ∈ M'.Z, x ∈ M.Z ∨ ∃ j, x ∈ fp M j
  gds : s'.gds = s.gds
theorem Sub.refl (S : SRel B M env h s) : Sub M M s s := ⟨fun j hj => ⟨hj, rfl, fun _ h => h, .inl ⟨rfl, rfl⟩⟩, fun j hj => by unfold fp; rw [(S.dead j hj).1, (S.dead j hj).2]; rfl, rfl, rfl, fun _ h => h, fun _ h => h, fun _ h => .inl h, rfl⟩
theorem Sub.fp {M' : Mp} {s' : VS} (D : Sub M M' s s') {j x : Nat} (hx : x ∈ fp M' j) : x ∈ Go.PA.fp M j := by
  cases hl : M'.lv j with
  | true =>
    obtain ⟨_, h1, h2, _⟩ := D.keep j hl
    unfold Go.PA.fp at *
    rw [h1] at hx
    rcases List.mem_append.1 hx with hx | hx
    · exact List.mem_append_left _ hx
    · exact List.mem_append_right _ (h2 x hx)
  | false => rw [D.gone j hl] at hx; simp at hx
theorem Sub.trans {M1 M2 : Mp} {s1 s2 : VS} (a : Sub M M1 s s1) (b : Sub M1 M2 s1 s2) : Sub M M2 s s2 where
  keep j hj := by
    obtain ⟨h1, h2, h3, h4⟩ := b.keep j hj
    obtain ⟨g1, g2, g3, g4⟩ := a.keep j h1
    refine ⟨g1, h2.trans g2, fun x hx => g3 x (h3 x hx), ?_⟩
    rcases h4 with ⟨h4, h5⟩ | ⟨r, h4, h5⟩
    · rcases g4 with ⟨g4, g5⟩ | ⟨r, g4, g5⟩
      · exact .inl ⟨h4.trans g4, h5.trans g5⟩
      · exact .inr ⟨r, g4, by rw [row?_of, h4]; exact g5⟩
    · rcases g4 with ⟨g4, g5⟩ | ⟨r', g4, g5⟩
      · exact .inr ⟨r, by rw [row?_of, ← g4]; exact h4, h5⟩
      · rw [g5] at h4
        cases h4
        exact .inr ⟨r', g4, h5⟩
  gone := b.gone
  β := b.β.trans a.β
  nb := b.nb.trans a.nb
  rows j h := b.rows j (a.rows j h)
  z x hx := b.z x (a.z x hx)
  znew x hx := by
    rcases b.znew x hx with h1 | ⟨j, hj⟩
    · exact a.znew x h1
    · exact .inr ⟨j, a.fp hj⟩
  gds := b.gds.trans a.gds
theorem Sub.zup {M' : Mp} {s' : VS} (D : Sub M M' s s') (h : Heap) : ZUp h M.Z h M'.Z := fun x hx => ⟨D.z x hx, rfl⟩
theorem Sub.free (S : SRel B M env h s) (i : Nat) (hp : B.pin.length ≤ i) : Sub M (M.free i) s (s.free i) where
  keep j hj := by
    by_cases h : j = i
    · simp [Mp.free, h] at hj
    · simp only [Mp.free, h, if_false] at hj ⊢
      exact ⟨hj, trivial, fun _ h => h, .inl ⟨by rw [free_slot?, if_neg h], trivial⟩⟩
  gone j hj := (S.free i hp).dead j hj |> fun ⟨a, b⟩ => by unfold Go.PA.fp; rw [a, b]; rfl
  β := rfl
  nb := rfl
  rows j h := by rw [free_slot?]; split <;> first | rfl | exact h
  z _ h := h
  znew _ h := .inl h
  gds := rfl
theorem Sub.frz (S : SRel B M env h s) {i : Nat} {r : VRow} (hr : s.row? i = some r) : Sub M (M.frz i) s (s.frz i r) where
  keep j hj := by
    refine ⟨hj, rfl, fun x hx => ?_, ?_⟩
    · simp only [Mp.frz] at hx
      split at hx
      · simp at hx
      · exact hx
    · by_cases h : j = i
      · subst h
        exact .inr ⟨r, hr, by rw [row?_of, frz_slot? (VS.slot_row.1 hr), if_pos rfl]; rfl⟩
      · exact .inl ⟨by rw [frz_slot? (VS.slot_row.1 hr), if_neg h], by simp [Mp.frz, h]⟩
  gone j hj := (S.frz hr).dead j hj |> fun ⟨a, b⟩ => by unfold Go.PA.fp; rw [a, b]; rfl
  β := rfl
  nb := rfl
  rows j h := by
    rw [frz_slot? (VS.slot_row.1 hr)]
    split
    · rename_i e; subst e; rw [VS.slot_row.1 hr] at h; cases h
    · exact h
  z _ h := List.mem_append_right _ h
  znew x hx := by
    rcases List.mem_append.1 hx with hx | hx
    · exact .inr ⟨i, List.mem_append_right _ hx⟩
    · exact .inl hx
  gds := rfl
theorem Sub.frzA (S : SRel B M env h s) {i : Nat} {r : VRow} (hr : s.row? i = some r) (hp : B.pin.length ≤ i) : Sub M (M.frzA i) s (s.frzA i r) where
  keep j hj := by
    by_cases h : j = i
    · simp [Mp.frzA, Mp.free, h] at hj
    · simp only [Mp.frzA, Mp.free, h, if_false] at hj ⊢
      exact ⟨hj, trivial, fun _ h => h, .inl ⟨by rw [frzA_slot? (VS.slot_row.1 hr), if_neg h], trivial⟩⟩
  gone j hj := (S.frzA hr hp).dead j hj |> fun ⟨a, b⟩ => by unfold Go.PA.fp; rw [a, b]; rfl
  β := rfl
  nb := rfl
  rows j h := by rw [frzA_slot? (VS.slot_row.1 hr)]; split <;> first | rfl | exact h
  z _ h := List.mem_append_right _ h
  znew x hx := by
    rcases List.mem_append.1 hx with hx | hx
    · exact .inr ⟨i, hx⟩
    · exact .inl hx
  gds := rfl

/-- What was consumed: it was owned, and is owned no more. -/
def Eaten (M M' : Mp) (C : List Nat) : Prop := ∀ x ∈ C, (∃ j, x ∈ fp M j) ∧ (∀ j, x ∉ fp M' j) ∧ x ∉ M'.Z
theorem Eaten.nil (M M' : Mp) : Eaten M M' [] := fun x hx => by simp at hx
theorem Eaten.later {M1 M2 : Mp} {s1 s2 : VS} {C : List Nat} (H : Eaten M M1 C) (D : Sub M1 M2 s1 s2) : Eaten M M2 C :=
  fun x hx => ⟨(H x hx).1, fun j hj => (H x hx).2.1 j (D.fp hj), fun hz => (D.znew x hz).elim (H x hx).2.2 fun ⟨j, hj⟩ => (H x hx).2.1 j hj⟩
theorem Eaten.sooner {M1 M2 : Mp} {s1 : VS} {C : List Nat} (D : Sub M M1 s s1) (H : Eaten M1 M2 C) : Eaten M M2 C :=
  fun x hx => ⟨(H x hx).1.imp fun j hj => D.fp hj, (H x hx).2⟩
theorem Eaten.free (S : SRel B M env h s) (i : Nat) : Eaten M (M.free i) (fp M i) := fun x hx => ⟨⟨i, hx⟩, fun j hj => by
  rw [fp_free] at hj
  split at hj
  · simp at hj
  · rename_i hne; exact hne (S.dj j i x hj hx), fun hz => S.zdj x hz i hx⟩
/-- What was consumed apart is apart. -/
theorem Eaten.apart {M1 M2 : Mp} {C C' : List Nat} (H : Eaten M M1 C) (H' : Eaten M1 M2 C') : ∀ x ∈ C, x ∉ C' := fun x hx hx' => by
  obtain ⟨j, hj⟩ := (H' x hx').1
  exact (H x hx).2.1 j hj

/-- An effect on the state, and on values. -/
def EffOk (B : Bg) (M M' : Mp) (env : List AV) (h : Heap) (s : VS) (e : Eff) : Prop :=
  SRel B M' env h (s.eff e) ∧ Sub M M' s (s.eff e) ∧ ∀ vs as, TVRs M h vs as → TVRs M' h (TV.effs e vs) as
theorem EffOk.no (S : SRel B M env h s) : EffOk B M M env h s .no := ⟨S, .refl S, fun _ _ h => h⟩
theorem EffOk.kill (S : SRel B M env h s) {i : Nat} (hp : B.pin.length ≤ i) : EffOk B M (M.free i) env h s (.kill i) := ⟨S.free i hp, .free S i hp, fun _ _ H => H.kill (M.free_kills h i)⟩
theorem fz_of (M : Mp) (h : Heap) (i : Nat) : Fz i M h (M.frz i) := ⟨fun b hb => ⟨hb, rfl⟩, fun j hj => ⟨hj, rfl⟩, fun j hj _ x hx => by simpa [Mp.frz, hj] using hx, fun x hx => List.mem_append_left _ hx, fun x hx => List.mem_append_right _ hx⟩
theorem fa_of (S : SRel B M env h s) {i : Nat} {r : VRow} (hr : s.row? i = some r) : Fa i r M h (M.frzA i) :=
  ⟨fun b hb => ⟨hb, rfl⟩, fun j hj hl => by simp [Mp.frzA, Mp.free, hj, hl], fun x hx => List.mem_append_left _ (List.mem_append_right _ hx), fun x hx => List.mem_append_right _ hx, fun x hx => List.mem_append_left _ (List.mem_append_left _ hx), S.row i r hr⟩
theorem EffOk.frz (S : SRel B M env h s) {i : Nat} {r : VRow} (hr : s.row? i = some r) : EffOk B M (M.frz i) env h s (.frz i r) := ⟨S.frz hr, .frz S hr, fun _ _ H => H.fz (fz_of M h i)⟩
theorem EffOk.frzA (S : SRel B M env h s) {i : Nat} {r : VRow} (hr : s.row? i = some r) (hp : B.pin.length ≤ i) : EffOk B M (M.frzA i) env h s (.frzA i r) := ⟨S.frzA hr hp, .frzA S hr hp, fun _ _ H => H.fa (fa_of S hr)⟩
theorem EffOk.fk (S : SRel B M env h s) {i : Nat} {r : VRow} (hr : s.row? i = some r) (hp : B.pin.length ≤ i) : EffOk B M ((M.frz i).free i) env h s (.fk i r) :=
  ⟨(S.frz hr).free i hp, (Sub.frz S hr).trans (.free (S.frz hr) i hp), fun _ _ H => (H.fz (fz_of M h i)).kill ((M.frz i).free_kills h i)⟩

theorem unL_ok (S : SRel B M env h s) {cs : List Ty} {v : TV} {d : List (Ty.Ds cs)} {m : NM} {e : Eff} (hu : unL s cs v = some (d, m, e)) {a : AV} (H : TVR M h v a) :
    ∃ M' C, EffOk B M M' env h s e ∧ OwnC h M'.Z m (.sl cs) d a C ∧ C.Nodup ∧ Eaten M M' C := by
  unfold unL at hu
  split at hu
  · obtain ⟨rfl, rfl, rfl⟩ : [] = d ∧ NM.Z = m ∧ Eff.no = e := by simpa using hu
    simp only [TVR] at H
    refine ⟨M, [], .no S, ?_, List.nodup_nil, .nil _ _⟩
    simp only [OwnC]
    exact .inl ⟨H, by first | exact ⟨trivial, trivial⟩ | trivial | exact ⟨rfl, rfl⟩⟩
  · rename_i cs' xs
    split at hu
    · rename_i ys hc
      obtain ⟨e1, e2⟩ := castL_ok hc
      subst e1
      obtain ⟨rfl, rfl, rfl⟩ : ys = d ∧ NM.L = m ∧ Eff.no = e := by simpa using hu
      obtain rfl := e2
      simp only [TVR] at H
      exact ⟨M, [], .no S, LitC.own _ H, List.nodup_nil, .nil _ _⟩
    · cases hu
  · rename_i i
    split at hu
    · rename_i r hr
      split at hu
      · rename_i ys hc
        obtain ⟨hr1, hp⟩ := VS.mine_eq hr
        rw [S.pn] at hp
        obtain ⟨rfl, rfl, rfl⟩ : ys = d ∧ (if r.nm = .Z ∨ r.nm = .S then NM.S else .A) = m ∧ Eff.kill i = e := by simpa using hu
        have R := S.row _ r hr1
        obtain ⟨nm, cs', xs⟩ := r
        obtain ⟨e1, rfl⟩ := castL_ok hc
        simp only at e1 R
        subst e1
        simp only [TVR] at H
        refine ⟨M.free i, fp M i, .kill S hp, ?_, S.nd i, .free S i⟩
        rw [H.2]
        exact R.toOwn
      · cases hu
    · cases hu
  · rename_i i lo hi
    split at hu
    · rename_i r hr
      split at hu
      · rename_i ys hc
        obtain ⟨hr1, hp⟩ := VS.mine_eq hr
        rw [S.pn] at hp
        obtain ⟨rfl, rfl, rfl⟩ : ys = d ∧ NM.L = m ∧ Eff.frzA i r = e := by simpa using hu
        refine ⟨M.frzA i, [], .frzA S hr1 hp, ?_, List.nodup_nil, .nil _ _⟩
        have := TVR.fa (fa_of S hr1) _ H
        simp only [TV.fa, if_true, TVR] at this
        obtain ⟨nm, cs', xs⟩ := r
        obtain ⟨e1, rfl⟩ := castL_ok hc
        simp only at e1 this
        subst e1
        exact LitC.own _ this
      · cases hu
    · cases hu
  · rename_i i o cs' xs
    split at hu
    · rename_i r hr
      split at hu
      · rename_i ys hc
        obtain ⟨hr1, hp⟩ := VS.mine_eq hr
        obtain ⟨e1, e2⟩ := castL_ok hc
        subst e1
        obtain ⟨rfl, rfl, rfl⟩ : ys = d ∧ NM.L = m ∧ Eff.frz i r = e := by simpa using hu
        obtain rfl := e2
        refine ⟨M.frz i, [], .frz S hr1, ?_, List.nodup_nil, .nil _ _⟩
        have := TVR.fz (fz_of M h i) _ H
        simp only [TV.fz, if_true, TVR] at this
        exact LitC.own _ this
      · cases hu
    · cases hu
  · cases hu
theorem unTV_ok (S : SRel B M env h s) {t : Ty} {v : TV} {d : t.D} {m : NM} {e : Eff} (hu : unTV s t v = some (d, m, e)) {a : AV} (H : TVR M h v a) :
    ∃ M' C, EffOk B M M' env h s e ∧ OwnC h M'.Z m t d a C ∧ C.Nodup ∧ Eaten M M' C := by
  cases t with
  | sl cs => exact unL_ok S hu H
  | int k =>
    have hu : unInt k v = some (d, m, e) := hu
    unfold unInt at hu
    split at hu
    · split at hu
      · rename_i hk
        cases hu
        simp only [TVR] at H
        exact ⟨M, [], .no S, by simp only [OwnC]; exact ⟨by rw [hk]; exact H, trivial⟩, List.nodup_nil, .nil _ _⟩
      · cases hu
    · cases hu
  | bool =>
    have hu : unBool v = some (d, m, e) := hu
    unfold unBool at hu
    split at hu
    · cases hu
      simp only [TVR] at H
      exact ⟨M, [], .no S, by simp only [OwnC]; exact ⟨H, trivial⟩, List.nodup_nil, .nil _ _⟩
    · cases hu
  | str =>
    have hu : unStr v = some (d, m, e) := hu
    unfold unStr at hu
    split at hu
    · cases hu
      simp only [TVR] at H
      exact ⟨M, [], .no S, by simp only [OwnC]; exact ⟨H, trivial⟩, List.nodup_nil, .nil _ _⟩
    · cases hu

theorem unTVs_ok : ∀ (ts : List Ty) {M : Mp} {s : VS} {vs : List TV} {as : List AV} {d : Ty.Ds ts} {m : NM} {s' : VS}, SRel B M env h s → TVRs M h vs as → unTVs s ts vs = some (d, m, s') →
    ∃ M' C, SRel B M' env h s' ∧ Sub M M' s s' ∧ OwnCs h M'.Z m ts d as C ∧ C.Nodup ∧ Eaten M M' C
  | [], M, s, vs, as, d, m, s', S, H, hu => by
    cases vs with
    | nil =>
      simp only [unTVs, Option.some.injEq, Prod.mk.injEq] at hu
      obtain ⟨_, rfl, rfl⟩ := hu
      simp only [TVRs] at H
      exact ⟨M, [], S, .refl S, by simp only [OwnCs]; exact ⟨H, trivial⟩, List.nodup_nil, .nil _ _⟩
    | cons => simp [unTVs] at hu
  | t :: ts, M, s, vs, as, d, m, s', S, H, hu => by
    cases vs with
    | nil => simp [unTVs] at hu
    | cons v vs =>
      cases as with
      | nil => simp only [TVRs] at H
      | cons a as =>
        simp only [TVRs] at H
        simp only [unTVs] at hu
        split at hu
        · rename_i d1 m1 e hd
          split at hu
          · rename_i ds m2 s2 hds
            simp only [Option.some.injEq, Prod.mk.injEq] at hu
            obtain ⟨rfl, rfl, rfl⟩ := hu
            obtain ⟨M1, C1, ⟨S1, D1, T1⟩, O1, N1, E1⟩ := unTV_ok S hd H.1
            obtain ⟨M', C, h1, h2, h3, h4, h5⟩ := unTVs_ok ts S1 (T1 _ _ H.2) hds
            refine ⟨M', C1 ++ C, h1, D1.trans h2, ?_, List.nodup_append.2 ⟨N1, h4, fun x hx y hy e => E1.apart h5 x hx (e ▸ hy)⟩, fun x hx => ?_⟩
            · simp only [OwnCs]
              exact ⟨C1, C, rfl, OwnC.mode (NM.ok_join_l _ _) t (OwnC.heap (h2.zup h) t (fun _ _ => rfl) O1), OwnCs.mode (NM.ok_join_r _ _) ts h3⟩
            · rcases List.mem_append.1 hx with hx | hx
              · exact E1.later h2 x hx
              · exact h5.sooner D1 x hx
          · cases hu
        · cases hu

theorem splice_succ (a : AV) (l : List AV) (n : Nat) : ∀ (cs : List AV), splice (a :: l) (n + 1) cs = a :: splice l n cs := by
  intro cs
  induction cs generalizing l n with
  | nil => rfl
  | cons c cs ih => simp only [splice, List.set_cons_succ]; rw [ih]
theorem splice_zero (a c : AV) (l cs : List AV) : splice (a :: l) 0 (c :: cs) = c :: splice l 0 cs := by
  simp only [splice, List.set_cons_zero]; exact splice_succ c l 0 cs
/-- Some of an element's cells anew. -/
theorem putD_ok {Z : List Nat} {m0 m : NM} : ∀ (ts : List Ty) {off n : Nat} {bs as : List AV} {d : Ty.Ds ts} {e : Ty.Ds ((ts.drop off).take n)} {F C : List Nat}, OwnCs h Z m0 ts d as F → OwnCs h Z m ((ts.drop off).take n) e bs C →
    ∃ F', OwnCs h Z (m0.join m) ts (putD ts d off n e) (splice as off bs) F' ∧ (∀ x ∈ F', x ∈ F ∨ x ∈ C) ∧ (F.Nodup → C.Nodup → (∀ x ∈ F, x ∉ C) → F'.Nodup)
  | [], off, n, bs, as, d, e, F, C, O, Q => by
    have hb : bs = [] := by
      have := OwnCs.len _ Q
      simp at this
      exact this
    subst hb
    refine ⟨F, ?_, fun x hx => .inl hx, fun h _ _ => h⟩
    have : splice as off [] = as := by cases as <;> rfl
    rw [this]
    exact OwnCs.mode (NM.ok_join_l _ _) _ O
  | t :: ts, off, n, bs, [], d, e, F, C, O, Q => by simp only [OwnCs] at O
  | t :: ts, off + 1, n, bs, a :: as, d, e, F, C, O, Q => by
    simp only [OwnCs] at O
    obtain ⟨F1, F2, rfl, O1, O2⟩ := O
    obtain ⟨F', h1, h2, h3⟩ := putD_ok ts (off := off) (n := n) O2 Q
    refine ⟨F1 ++ F', ?_, fun x hx => ?_, fun g1 g2 g3 => ?_⟩
    · rw [splice_succ]
      simp only [putD, OwnCs]
      exact ⟨F1, F', rfl, OwnC.mode (NM.ok_join_l _ _) t O1, h1⟩
    · rcases List.mem_append.1 hx with hx | hx
      · exact .inl (List.mem_append_left _ hx)
      · exact (h2 x hx).imp_left (List.mem_append_right _)
    · obtain ⟨k1, k2, k3⟩ := List.nodup_append.1 g1
      refine List.nodup_append.2 ⟨k1, h3 k2 g2 fun x hx => g3 x (List.mem_append_right _ hx), fun x hx y hy e => ?_⟩
      subst e
      rcases h2 x hy with hy | hy
      · exact k3 x hx x hy rfl
      · exact g3 x (List.mem_append_left _ hx) hy
  | t :: ts, 0, 0, bs, a :: as, d, e, F, C, O, Q => by
    have hb : bs = [] := by
      have := OwnCs.len _ Q
      simp at this
      exact this
    subst hb
    exact ⟨F, OwnCs.mode (NM.ok_join_l _ _) _ O, fun x hx => .inl hx, fun h _ _ => h⟩
  | t :: ts, 0, n + 1, [], a :: as, d, e, F, C, O, Q => by
    have := OwnCs.len _ Q
    simp at this
  | t :: ts, 0, n + 1, b :: bs, a :: as, d, e, F, C, O, Q => by
    simp only [OwnCs] at O
    obtain ⟨F1, F2, rfl, O1, O2⟩ := O
    have Q : OwnCs h Z m (t :: ts.take n) e (b :: bs) C := Q
    simp only [OwnCs] at Q
    obtain ⟨C1, C2, rfl, Q1, Q2⟩ := Q
    obtain ⟨F', h1, h2, h3⟩ := putD_ok ts (off := 0) (n := n) (e := e.2) O2 Q2
    refine ⟨C1 ++ F', ?_, fun x hx => ?_, fun g1 g2 g3 => ?_⟩
    · rw [splice_zero]
      simp only [putD, OwnCs]
      exact ⟨C1, F', rfl, OwnC.mode (NM.ok_join_r _ _) t Q1, h1⟩
    · rcases List.mem_append.1 hx with hx | hx
      · exact .inr (List.mem_append_left _ hx)
      · exact (h2 x hx).imp (List.mem_append_right _) (List.mem_append_right _)
    · obtain ⟨k1, k2, k3⟩ := List.nodup_append.1 g1
      obtain ⟨l1, l2, l3⟩ := List.nodup_append.1 g2
      refine List.nodup_append.2 ⟨l1, h3 k2 l2 fun x hx hc => g3 x (List.mem_append_right _ hx) (List.mem_append_right _ hc), fun x hx y hy e => ?_⟩
      subst e
      rcases h2 x hy with hy | hy
      · exact g3 x (List.mem_append_right _ hy) (List.mem_append_left _ hx)
      · exact l3 x hx x hy rfl
/-- All of an element's lists anew. -/
theorem putD_cover {Z : List Nat} {m : NM} (hm : m.fits = true) : ∀ (ts : List Ty) {off n : Nat} {bs as : List AV} {d : Ty.Ds ts} {e : Ty.Ds ((ts.drop off).take n)} {C : List Nat}, LitCs h Z ts d as → coverSl off n ts = true → OwnCs h Z m ((ts.drop off).take n) e bs C →
    OwnCs h Z .S ts (putD ts d off n e) (splice as off bs) C := by
  have hmS : m.ok .S = true := by cases m <;> simp_all [NM.fits, NM.ok]
  have flat : ∀ (ts : List Ty) {d : Ty.Ds ts} {as : List AV}, hasSl ts = false → LitCs h Z ts d as → OwnCs h Z .S ts d as [] := fun ts d as hf H => (OwnCs.flat ts hf (LitCs.own ts H)).2 h Z .S
  intro ts
  induction ts with
  | nil =>
    intro off n bs as d e C O hc Q
    have hb : bs = [] := by
      have := OwnCs.len _ Q
      simp at this
      exact this
    subst hb
    have hQ : C = [] := by
      have h0 : ((([] : List Ty).drop off).take n) = [] := by simp
      revert Q e
      rw [h0]
      intro e Q
      simp only [OwnCs] at Q
      exact Q.2
    subst hQ
    simp only [LitCs] at O
    subst O
    simp only [OwnCs, splice]
    exact ⟨trivial, trivial⟩
  | cons t ts ih =>
    intro off n bs as d e C O hc Q
    cases as with
    | nil => simp only [LitCs] at O
    | cons a as =>
      have O' := O
      simp only [LitCs] at O
      cases off with
      | succ off =>
        have h2 := ih (off := off) (n := n) (e := e) O.2 (by cases t <;> first | (simp [coverSl] at hc; done) | simpa [coverSl] using hc) Q
        have ht : ∀ cs, t ≠ .sl cs := fun cs e => by subst e; simp [coverSl] at hc
        rw [splice_succ]
        simp only [putD, OwnCs]
        refine ⟨[], C, rfl, ?_, h2⟩
        cases t with
        | sl cs => exact absurd rfl (ht cs)
        | _ => simp only [OwnC]; simp only [LitC] at O; exact ⟨O.1, trivial⟩
      | zero =>
        cases n with
        | zero =>
          have hb : bs = [] := by
            have := OwnCs.len _ Q
            simp at this
            exact this
          subst hb
          have Q : OwnCs h Z m [] e [] C := Q
          simp only [OwnCs] at Q
          rw [Q.2]
          exact flat _ (by simp [coverSl] at hc; simpa using hc) O'
        | succ n =>
          have Q : OwnCs h Z m (t :: ts.take n) e bs C := Q
          cases bs with
          | nil => simp only [OwnCs] at Q
          | cons b bs =>
            simp only [OwnCs] at Q
            obtain ⟨C1, C2, rfl, Q1, Q2⟩ := Q
            rw [splice_zero]
            simp only [putD, OwnCs]
            exact ⟨C1, C2, rfl, OwnC.mode hmS t Q1, ih (off := 0) (n := n) (e := e.2) O.2 (by simpa only [coverSl] using hc) Q2⟩
theorem putD_blank : ∀ (ts : List Ty) {off n fo : Nat} {d : Ty.Ds ts} {e : Ty.Ds ((ts.drop off).take n)}, off ≤ fo → fo < off + n → off + n ≤ ts.length → putD ts (blankD ts d fo) off n e = putD ts d off n e
  | [], off, n, fo, d, e, h1, h2, h3 => by simp at h3; omega
  | t :: ts, off + 1, n, 0, d, e, h1, h2, h3 => by omega
  | t :: ts, off + 1, n, fo + 1, d, e, h1, h2, h3 => by
    exact congrArg (fun z => (d.1, z)) (putD_blank ts (by omega) (by omega) (by simp only [List.length_cons] at h3; omega))
  | t :: ts, 0, 0, fo, d, e, h1, h2, h3 => by omega
  | t :: ts, 0, n + 1, 0, d, e, h1, h2, h3 => rfl
  | t :: ts, 0, n + 1, fo + 1, d, e, h1, h2, h3 => by
    exact congrArg (fun z => (e.1, z)) (putD_blank ts (off := 0) (d := d.2) (e := e.2) (by omega) (by omega) (by simp only [List.length_cons] at h3; omega))
theorem splice_blank : ∀ (bs : List AV) {as : List AV} {off fo : Nat} {c : AV}, off ≤ fo → fo < off + bs.length → splice (as.set fo c) off bs = splice as off bs
  | [], as, off, fo, c, h1, h2 => by simp at h2; omega
  | b :: bs, as, off, fo, c, h1, h2 => by
    simp only [splice]
    by_cases e : fo = off
    · subst e; rw [List.set_set]
    · rw [List.set_comm _ _ (by omega)]
      exact splice_blank bs (by omega) (by simp only [List.length_cons] at h2; omega)
/-- A list taken out of an element. -/
theorem OwnCs.blank {Z : List Nat} : ∀ (ts : List Ty) {fo : Nat} {d : Ty.Ds ts} {as : List AV} {F : List Nat} {cs : List Ty} {xs : List (Ty.Ds cs)} {j : Nat}, OwnCs h Z .S ts d as F → (toTVs none j ts d)[fo]? = some (.lst cs xs) →
    ∃ a A G C, as[fo]? = some a ∧ F = A ++ G ++ C ∧ OwnC h Z .S (.sl cs) xs a G ∧ OwnCs h Z .S ts (blankD ts d fo) (as.set fo .nils) (A ++ C)
  | [], fo, d, as, F, cs, xs, j, O, hg => by simp [toTVs] at hg
  | t :: ts, fo, d, [], F, cs, xs, j, O, hg => by simp only [OwnCs] at O
  | t :: ts, 0, d, a :: as, F, cs, xs, j, O, hg => by
    simp only [OwnCs] at O
    obtain ⟨F1, F2, rfl, O1, O2⟩ := O
    simp only [toTVs, List.getElem?_cons_zero, Option.some.injEq] at hg
    cases t with
    | int k => simp only [toTV, reduceCtorEq] at hg
    | bool => simp only [toTV, reduceCtorEq] at hg
    | str => simp only [toTV, reduceCtorEq] at hg
    | sl cs' =>
    have hg : TV.lst cs' d.1 = .lst cs xs := hg
    cases hg
    refine ⟨a, [], F1, F2, rfl, rfl, O1, ?_⟩
    simp only [blankD, List.set_cons_zero, OwnCs]
    exact ⟨[], F2, rfl, by simp only [OwnC]; exact .inl ⟨trivial, rfl, trivial⟩, O2⟩
  | t :: ts, fo + 1, d, a :: as, F, cs, xs, j, O, hg => by
    simp only [OwnCs] at O
    obtain ⟨F1, F2, rfl, O1, O2⟩ := O
    simp only [toTVs, List.getElem?_cons_succ] at hg
    obtain ⟨b, A, G, C, h1, rfl, h3, h4⟩ := OwnCs.blank ts O2 hg
    refine ⟨b, F1 ++ A, G, C, by simpa using h1, by simp [List.append_assoc], h3, ?_⟩
    simp only [blankD, List.set_cons_succ, OwnCs]
    exact ⟨F1, A ++ C, by rw [List.append_assoc], O1, h4⟩

/-! A row's elements are changed. -/
theorem touch_env (s : VS) (i : Nat) (t : Nat) : (s.touch i).env[t]? = (s.env[t]?).map (TV.dim i) := by simp [VS.touch, dims_get]
theorem touch_box? (s : VS) (i : Nat) (b : Nat) : (s.touch i).box? b = (s.box? b).map (TV.dims i) := by
  unfold VS.box? VS.touch
  simp only [dimB_get]
  cases h : s.boxes[b]? with
  | none => rfl
  | some o => cases o <;> rfl
theorem touch_rest (s : VS) (i : Nat) : (s.touch i).env.length = s.env.length ∧ (s.touch i).boxes.length = s.boxes.length ∧ (s.touch i).rows = s.rows ∧ (s.touch i).gds = s.gds ∧ (s.touch i).pn = s.pn := by
  simp [VS.touch, dims_len, dimB_len]

theorem SRel.setSlot (S : SRel B M env h s) {i : Nat} {sl0 : VSlot} (h0 : s.slot? i = some sl0) {h' : Heap} (hh : ∀ x, x ∉ rid (M.α i) → h'.rows x = h.rows x) (hb : h'.boxes = h.boxes) (hn : h'.next = h.next) {sl : VSlot} {F : List Nat}
    (hrow : SlotRel h' M.Z sl (M.α i) F) (hnd : (rid (M.α i) ++ F).Nodup) (hF : ∀ x ∈ F, x ∈ M.N i ∨ ((∀ j, x ∉ fp M j) ∧ x < h.next ∧ (x ∈ B.F ∨ B.h.next ≤ x) ∧ x ∉ M.Z)) :
    SRel B { M with N := fun j => if j = i then F else M.N j } env h' { s.touch i with rows := s.rows.set i (some sl) } := by
  have hlv := S.live0 h0
  have htop : ∀ j, j ≠ i → ∀ x ∈ fp M j, x ∉ rid (M.α i) := fun j hj x hx he => hj (S.dj j i x hx (List.mem_append_left _ he))
  have hzz : ∀ x ∈ M.Z, h'.rows x = h.rows x := fun x hx => hh x fun he => S.zdj x hx i (List.mem_append_left _ he)
  have hfp : ∀ j, fp { M with N := fun j => if j = i then F else M.N j } j = if j = i then rid (M.α i) ++ F else fp M j := fun j => by
    unfold fp
    by_cases h : j = i <;> simp [h]
  have hFj : ∀ x ∈ rid (M.α i) ++ F, ∀ j, j ≠ i → x ∉ fp M j := fun x hx j hj hj' => by
    rcases List.mem_append.1 hx with hx | hx
    · exact htop j hj x hj' hx
    · rcases hF x hx with h1 | h1
      · exact hj (S.dj j i x hj' (List.mem_append_right _ h1))
      · exact h1.1 j hj'
  have hFZ : ∀ x ∈ rid (M.α i) ++ F, x ∉ M.Z := fun x hx hz => by
    rcases List.mem_append.1 hx with hx | hx
    · exact S.zdj x hz i (List.mem_append_left _ hx)
    · rcases hF x hx with h1 | h1
      · exact S.zdj x hz i (List.mem_append_right _ h1)
      · exact h1.2.2.2 hz
  have D : Dims i M h { M with N := fun j => if j = i then F else M.N j } h' := ⟨fun b hb => ⟨hb, rfl⟩, fun j hj => ⟨hj, rfl⟩, fun j hj _ x hx => ⟨by simpa [hj] using hx, hh x (htop j hj x (List.mem_append_right _ hx))⟩,
    fun j hj _ x hx => hh x (htop j hj x (List.mem_append_left _ hx)), fun x hx => ⟨hx, hzz x hx⟩⟩
  obtain ⟨t1, t2, t3, t4, t5⟩ := touch_rest s i
  have hilt := slot?_lt h0
  have hslot? : ∀ j, VS.slot? { s.touch i with rows := s.rows.set i (some sl) } j = if j = i then some sl else s.slot? j := fun j => by
    have : VS.slot? { s.touch i with rows := s.rows.set i (some sl) } j = VS.slot? { s with rows := s.rows.set i (some sl) } j := slot?_ext rfl j
    rw [this, rows_slot?]
    simp [hilt]
  refine ⟨by simp [t1, S.len], fun t v a h1 h2 => ?_, by simp [t2, S.nb], fun b cs hb' => ?_, S.binj, fun b hb' => ?_, fun j => ?_, fun j r' hr' => ?_, fun j hj => ?_, fun j x hx => ?_, fun j => ?_, fun j k x h1 h2 => ?_, fun t g w v h1 => ?_, fun j x hx => ?_, fun x h1 h2 => ?_, fun b hb' => ?_, by rw [hn]; exact S.nx, by rw [hb]; exact S.bx, S.hand,
    fun x hx => by rw [hn]; exact S.zlt x hx, fun x hx j hj => ?_, S.zown, S.bz, by rw [t5]; exact S.pn, S.pin⟩
  · rw [touch_env] at h1
    simp only [Option.map_eq_some_iff] at h1
    obtain ⟨v', h1, rfl⟩ := h1
    exact (S.env t v' a h1 h2).dim D
  · have hb'' : (s.touch i).box? b = some cs := hb'
    rw [touch_box?] at hb''
    simp only [Option.map_eq_some_iff] at hb''
    obtain ⟨cs', hb3, rfl⟩ := hb''
    obtain ⟨as, h1, h2⟩ := S.box b cs' hb3
    exact ⟨as, by rw [hb]; exact h1, h2.dim D⟩
  · rw [hb]; exact S.bown b hb'
  · rw [hslot?]
    split
    · rename_i hji; subst hji; simpa using hlv
    · exact S.lv j
  · rw [hslot?] at hr'
    split at hr'
    · rename_i hji; subst hji; cases hr'; simpa using hrow
    · rename_i hji
      simp only [hji, if_false]
      exact (S.slot j r' hr').heap (fun x hx => ⟨hx, hzz x hx⟩) fun x hx => hh x (htop j hji x hx)
  · have hji : j ≠ i := fun e => by subst e; rw [hlv] at hj; cases hj
    simp only [hji, if_false]
    exact S.dead j hj
  · rw [hfp] at hx
    rw [hn]
    split at hx
    · rcases List.mem_append.1 hx with hx | hx
      · exact S.lt i x (List.mem_append_left _ hx)
      · rcases hF x hx with h1 | h1
        · exact S.lt i x (List.mem_append_right _ h1)
        · exact h1.2.1
    · exact S.lt j x hx
  · rw [hfp]
    split
    · exact hnd
    · exact S.nd j
  · rw [hfp] at h1 h2
    split at h1
    · rename_i hj
      split at h2
      · rename_i hk; rw [hj, hk]
      · rename_i hk; exact absurd h2 (hFj x h1 k hk)
    · rename_i hj
      split at h2
      · exact absurd h1 (hFj x h2 j hj)
      · exact S.dj j k x h1 h2
  · simp only [t4]
    simp only [touch_env] at h1
    simp only [Option.map_eq_some_iff] at h1
    obtain ⟨v', h1, h2⟩ := h1
    obtain ⟨u', rfl⟩ := dim_gd h2
    exact S.gd t g w u' h1
  · rw [hfp] at hx
    split at hx
    · rcases List.mem_append.1 hx with hx | hx
      · exact S.own i x (List.mem_append_left _ hx)
      · rcases hF x hx with h1 | h1
        · exact S.own i x (List.mem_append_right _ h1)
        · exact h1.2.2.1
    · exact S.own j x hx
  · rw [← S.fr x h1 h2]
    refine hh x fun hx => ?_
    rcases S.own i x (List.mem_append_left _ hx) with h3 | h3
    · exact h2 h3
    · omega
  · rw [hb]; exact S.frb b hb'
  · rw [hfp] at hj
    split at hj
    · exact hFZ x hj hx
    · exact S.zdj x hx j hj
theorem SRel.setSlot' (S : SRel B M env h s) {i : Nat} {sl0 : VSlot} (h0 : s.slot? i = some sl0) {h' : Heap} (hh : ∀ x, x ∉ rid (M.α i) → h'.rows x = h.rows x) (hb : h'.boxes = h.boxes) (hn : h'.next = h.next) {sl : VSlot} {F : List Nat}
    (hrow : SlotRel h' M.Z sl (M.α i) F) (hnd : (rid (M.α i) ++ F).Nodup) (hF : ∀ x ∈ F, x ∈ M.N i ∨ ((∀ j, x ∉ fp M j) ∧ x < h.next ∧ (x ∈ B.F ∨ B.h.next ≤ x) ∧ x ∉ M.Z)) :
    SRel B { M with N := fun j => if j = i then F else M.N j } env h' { s.touch i with rows := (s.touch i).rows.set i (some sl) } := by
  have := S.setSlot h0 hh hb hn hrow hnd hF
  rw [(touch_rest s i).2.2.1]
  exact this
/-- A row that holds lists of both kinds. -/
theorem SRel.fixA (S : SRel B M env h s) (i : Nat) : ∃ M', SRel B M' env h (s.fixA i) ∧ ∀ v a, TVR M h v a → (∀ j o cs xs, v ≠ .vw j o cs xs) → (∀ j l, v ≠ .vptr j l) → TVR M' h (v.fz i) a ∨ TVR M' h v a := by
  unfold VS.fixA
  split
  · rename_i r hr
    split
    · exact ⟨M.frz i, S.frz hr, fun v a H _ _ => .inl (H.fz (fz_of M h i))⟩
    · exact ⟨M, S, fun v a H _ _ => .inr H⟩
  · exact ⟨M, S, fun v a H _ _ => .inr H⟩
theorem SRel.fixA' (S : SRel B M env h s) (i : Nat) : ∃ M', SRel B M' env h (s.fixA i) ∧ (∀ j a, TVR M h (.ref j) a → TVR M' h (.ref j) a) ∧ ∀ n k a, TVR M h (.int k n) a → TVR M' h (.int k n) a := by
  unfold VS.fixA
  split
  · rename_i r hr
    split
    · refine ⟨M.frz i, S.frz hr, fun j a H => ?_, fun n k a H => ?_⟩
      · simpa only [TV.fz] using H.fz (fz_of M h i)
      · simpa only [TV.fz] using H.fz (fz_of M h i)
    · exact ⟨M, S, fun _ _ H => H, fun _ _ _ H => H⟩
  · exact ⟨M, S, fun _ _ H => H, fun _ _ _ H => H⟩
end
end Go.PA
