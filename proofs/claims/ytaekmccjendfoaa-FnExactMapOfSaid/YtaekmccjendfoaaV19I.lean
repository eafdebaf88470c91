/- Typed values: functions that are lent rows. No condition. -/
import Derived.Test.YtaekmccjendfoaaV19
namespace Go.PA
set_option linter.unusedVariables false
set_option linter.unusedSimpArgs false

/-- The cells that are lists. -/
def slA : List Ty → List AV → List AV
  | .sl _ :: ts, a :: l => a :: slA ts l
  | _ :: ts, _ :: l => slA ts l
  | _, _ => []
theorem slA_len : ∀ (ts : List Ty) (l : List AV), l.length = ts.length → (slA ts l).length = nsl ts
  | [], l, _ => by cases l <;> rfl
  | t :: ts, [], h => by simp at h
  | t :: ts, a :: l, h => by
    have := slA_len ts l (by simpa using h)
    cases t <;> simp [slA, nsl, this]
theorem firstNone_full {α : Type} : ∀ (l : List (Option α)) (n : Nat), (∀ o ∈ l, o.isSome = true) → firstNone n l = n + l.length
  | [], n, _ => by simp [firstNone]
  | none :: l, n, h => by have := h none (by simp); cases this
  | some a :: l, n, h => by
    simp only [firstNone, List.length_cons]
    rw [firstNone_full l (n + 1) fun o ho => h o (List.mem_cons_of_mem _ ho)]; omega
theorem putAt_end {α : Type} : ∀ (l : List (Option α)) (a : α), putAt l l.length a = l ++ [some a]
  | [], a => rfl
  | x :: l, a => by simp [putAt, putAt_end l a]
/-- Rows that are given stand in order. -/
theorem give_refs : ∀ (ts : List Ty) (d : Ty.Ds ts) (s : VS), (∀ o ∈ s.rows, o.isSome = true) → ∀ (M : Mp) (h : Heap) (l : List AV), TVRs M h (giveTVs (strict ts) ts d s).1 l →
    l.length = ts.length ∧ ∀ (j : Nat) a, (slA ts l)[j]? = some a → M.lv (s.rows.length + j) = true ∧ M.α (s.rows.length + j) = a
  | [], d, s, hs, M, h, l, H => by simp only [giveTVs, TVRs] at H; subst H; exact ⟨rfl, fun j a h => by simp [slA] at h⟩
  | t :: ts, d, s, hs, M, h, l, H => by
    rw [strict_cons] at H
    cases t with
    | sl cs =>
      simp only [giveTVs, hdO, List.tail_cons] at H
      generalize hn : s.newRow ⟨if hasSl cs then NM.S else .Z, cs, d.1⟩ = q at H
      obtain ⟨i, s1⟩ := q
      simp only at H
      have hi : i = s.rows.length := by
        have : i = (s.newRow ⟨if hasSl cs then NM.S else .Z, cs, d.1⟩).1 := by rw [hn]
        rw [this]
        show firstNone 0 s.rows = _
        rw [firstNone_full _ _ hs]; omega
      have hs1 : s1.rows = s.rows ++ [some (.row ⟨if hasSl cs then NM.S else .Z, cs, d.1⟩)] := by
        have : s1 = (s.newRow ⟨if hasSl cs then NM.S else .Z, cs, d.1⟩).2 := by rw [hn]
        rw [this]
        show putAt s.rows (firstNone 0 s.rows) _ = _
        rw [firstNone_full _ _ hs, Nat.zero_add, putAt_end]
      cases l with
      | nil => simp only [TVRs] at H
      | cons a l =>
        simp only [TVRs, TVR] at H
        obtain ⟨g1, g2⟩ := give_refs ts d.2 s1 (fun o ho => by
          rw [hs1] at ho
          rcases List.mem_append.1 ho with ho | ho
          · exact hs o ho
          · simp at ho; subst ho; rfl) M h l H.2
        rw [hs1] at g2
        refine ⟨by simp [g1], fun j b hb => ?_⟩
        cases j with
        | zero =>
          simp only [slA, List.getElem?_cons_zero, Option.some.injEq] at hb
          subst hb
          rw [Nat.add_zero, ← hi]
          exact ⟨H.1.1, H.1.2.symm⟩
        | succ j =>
          have := g2 j b (by simpa [slA] using hb)
          simp only [List.length_append, List.length_singleton] at this
          rw [show s.rows.length + (j + 1) = s.rows.length + 1 + j by omega]
          exact this
    | _ =>
      simp only [giveTVs, List.tail_cons] at H
      cases l with
      | nil => simp only [TVRs] at H
      | cons a l =>
        simp only [TVRs] at H
        obtain ⟨g1, g2⟩ := give_refs ts d.2 s hs M h l H.2
        exact ⟨by simp [g1], fun j b hb => g2 j b (by simpa [slA] using hb)⟩
section
variable {B : Bg} {M : Mp} {env : List AV} {h : Heap} {s : VS}
theorem roTVs_append : ∀ (as bs : List Ty) (y : Ty.Ds (as ++ bs)) (l l2 : List TV), roTVs s (as ++ bs) (l ++ l2) = some y → l.length = as.length → ∃ (y1 : Ty.Ds as) (y2 : Ty.Ds bs), roTVs s as l = some y1 ∧ roTVs s bs l2 = some y2 ∧
    ∀ (h : Heap) (Z : List Nat) (l1 l2 : List AV) (F1 F2 : List Nat), CellRels h Z (strict as) as y1 l1 F1 → CellRels h Z (strict bs) bs y2 l2 F2 → CellRels h Z (strict (as ++ bs)) (as ++ bs) y (l1 ++ l2) (F1 ++ F2)
  | [], bs, y, l, l2, H, hl => by
    have : l = [] := by simpa using hl
    subst this
    exact ⟨(), y, rfl, H, fun h Z l1 l2 F1 F2 h1 h2 => by simp only [CellRels] at h1; obtain ⟨rfl, rfl⟩ := h1; exact h2⟩
  | t :: as, bs, y, [], l2, H, hl => by simp at hl
  | t :: as, bs, y, v :: l, l2, H, hl => by
    have H : roTVs s (t :: (as ++ bs)) (v :: (l ++ l2)) = some y := H
    simp only [roTVs] at H
    split at H
    · rename_i d hd
      split at H
      · rename_i ds hds
        obtain ⟨y1, y2, h1, h2, h3⟩ := roTVs_append as bs ds l l2 hds (by simpa using hl)
        obtain rfl := Option.some.inj H
        refine ⟨(d, y1), y2, by simp only [roTVs, hd, h1], h2, fun h Z l1 l2 F1 F2 k1 k2 => ?_⟩
        rw [strict_cons] at k1
        cases l1 with
        | nil => simp only [CellRels] at k1
        | cons a l1 =>
          simp only [CellRels] at k1
          obtain ⟨G1, G2, rfl, k3, k4⟩ := k1
          have : CellRels h Z (some .S :: strict (as ++ bs)) (t :: (as ++ bs)) (d, ds) (a :: (l1 ++ l2)) (G1 ++ G2 ++ F2) := by
            simp only [CellRels]
            exact ⟨G1, G2 ++ F2, by rw [List.append_assoc], k3, h3 h Z l1 l2 G2 F2 k4 k2⟩
          exact this
      · cases H
    · cases H
theorem ro_flat : ∀ (ts : List Ty) {l : List TV} {la : List AV} {y : Ty.Ds ts}, hasSl ts = false → roTVs s ts l = some y → TVRs M h l la → CellRels h [] (strict ts) ts y la []
  | [], [], la, y, hf, hr, H => by simp only [TVRs] at H; subst H; simp only [CellRels]; exact ⟨trivial, trivial⟩
  | [], _ :: _, la, y, hf, hr, H => by simp only [roTVs, reduceCtorEq] at hr
  | _ :: _, [], la, y, hf, hr, H => by simp only [roTVs, reduceCtorEq] at hr
  | t :: ts, v :: l, [], y, hf, hr, H => by simp only [TVRs] at H
  | t :: ts, v :: l, a :: la, y, hf, hr, H => by
    simp only [TVRs] at H
    simp only [roTVs] at hr
    split at hr
    · rename_i d hd
      split at hr
      · rename_i ds hds
        obtain rfl := Option.some.inj hr
        rw [strict_cons]
        cases t with
        | sl cs => simp [hasSl] at hf
        | int k =>
          have h1 := scal_lit (fun cs => by simp) hd H.1 []
          simp only [CellRels]
          exact ⟨[], [], rfl, by simp only [CellRel]; exact ⟨h1, trivial⟩, ro_flat ts (by simpa [hasSl] using hf) hds H.2⟩
        | bool =>
          have h1 := scal_lit (fun cs => by simp) hd H.1 []
          simp only [CellRels]
          exact ⟨[], [], rfl, by simp only [CellRel]; exact ⟨h1, trivial⟩, ro_flat ts (by simpa [hasSl] using hf) hds H.2⟩
        | str =>
          have h1 := scal_lit (fun cs => by simp) hd H.1 []
          simp only [CellRels]
          exact ⟨[], [], rfl, by simp only [CellRel]; exact ⟨h1, trivial⟩, ro_flat ts (by simpa [hasSl] using hf) hds H.2⟩
      · cases hr
    · cases hr
theorem fits_ok {m : NM} (h : m.fits = true) : m.ok .S = true := by cases m <;> simp_all [NM.fits, NM.ok]
/-- What is in the rows that were lent. -/
theorem back_ok (S : SRel B M env h s) : ∀ (ts : List Ty) {i : Nat} {d y : Ty.Ds ts} {l2 : List TV} {la : List AV} {h0 : Heap} {Z0 F0 : List Nat}, backTVs s i ts d = some l2 → roTVs s ts l2 = some y → CellRels h0 Z0 (strict ts) ts d la F0 →
    (∀ (j : Nat) a, (slA ts la)[j]? = some a → M.α (i + j) = a) → ∃ F', CellRels h [] (strict ts) ts y la F' ∧ F'.Nodup ∧ ∀ x ∈ F', ∃ j, i ≤ j ∧ x ∈ fp M j
  | [], i, d, y, l2, la, h0, Z0, F0, hb, hr, H, hp => by
    simp only [CellRels] at H
    exact ⟨[], by simp only [CellRels]; exact ⟨H.1, trivial⟩, List.nodup_nil, fun x hx => by simp at hx⟩
  | t :: ts, i, d, y, l2, [], h0, Z0, F0, hb, hr, H, hp => by simp only [CellRels] at H
  | t :: ts, i, d, y, l2, a :: la, h0, Z0, F0, hb, hr, H, hp => by
    rw [strict_cons] at H
    simp only [CellRels] at H
    obtain ⟨G1, G2, rfl, H1, H2⟩ := H
    have scal : ∀ (_ : ∀ cs, t ≠ .sl cs), (match backTVs s i ts d.2 with
        | some l => some (toTV none 0 t d.1 :: l)
        | none => none) = some l2 → (slA (t :: ts) (a :: la)) = slA ts la → ∃ F', CellRels h [] (strict (t :: ts)) (t :: ts) y (a :: la) F' ∧ F'.Nodup ∧ ∀ x ∈ F', ∃ j, i ≤ j ∧ x ∈ fp M j := by
      intro ht hb hsl
      split at hb
      · rename_i l hl
        obtain rfl := Option.some.inj hb
        simp only [roTVs] at hr
        split at hr
        · rename_i d1 hd1
          split at hr
          · rename_i ds hds
            obtain rfl := Option.some.inj hr
            obtain ⟨F', k1, k2, k3⟩ := back_ok S ts hl hds H2 (fun j b hb => hp j b (by rw [hsl]; exact hb))
            refine ⟨F', ?_, k2, k3⟩
            rw [strict_cons]
            simp only [CellRels]
            refine ⟨[], F', rfl, ?_, k1⟩
            cases t with
            | sl cs => exact absurd rfl (ht cs)
            | int k =>
              have e : d.1 = d1 := by simp only [toTV, roTV, if_true, Option.some.injEq] at hd1; exact hd1
              simp only [CellRel, LitC] at H1 ⊢
              exact ⟨by rw [← e]; exact H1.1, trivial⟩
            | bool =>
              have e : d.1 = d1 := by simp only [toTV, roTV, Option.some.injEq] at hd1; exact hd1
              simp only [CellRel, LitC] at H1 ⊢
              exact ⟨by rw [← e]; exact H1.1, trivial⟩
            | str =>
              have e : d.1 = d1 := by simp only [toTV, roTV, Option.some.injEq] at hd1; exact hd1
              simp only [CellRel, LitC] at H1 ⊢
              exact ⟨by rw [← e]; exact H1.1, trivial⟩
          · cases hr
        · cases hr
      · cases hb
    cases t with
    | int k => exact scal (fun cs => by simp) hb rfl
    | bool => exact scal (fun cs => by simp) hb rfl
    | str => exact scal (fun cs => by simp) hb rfl
    | sl cs =>
      simp only [backTVs] at hb
      split at hb
      · rename_i r hrr
        split at hb
        · rename_i ys hc
          split at hb
          · rename_i hf
            split at hb
            · rename_i l hl
              obtain rfl := Option.some.inj hb
              simp only [roTVs] at hr
              split at hr
              · rename_i d1 hd1
                split at hr
                · rename_i ds hds
                  obtain rfl := Option.some.inj hr
                  obtain ⟨F', k1, k2, k3⟩ := back_ok S ts hl hds H2 (fun j b hb => by
                    rw [show i + 1 + j = i + (j + 1) by omega]
                    exact hp (j + 1) b (by simpa [slA] using hb))
                  have hα : M.α i = a := hp 0 a (by simp [slA])
                  have R := (S.row i r hrr).mode (fits_ok hf)
                  have hd1 : castL cs cs ys = some d1 := hd1
                  obtain ⟨nm, cs', xs⟩ := r
                  obtain ⟨e1, e2⟩ := castL_ok hc
                  simp only at e1 e2 R
                  subst e1
                  obtain rfl := e2
                  obtain ⟨_, e3⟩ := castL_ok hd1
                  obtain rfl : xs = d1 := e3
                  refine ⟨fp M i ++ F', ?_, List.nodup_append.2 ⟨S.nd i, k2, fun x hx y hy e => ?_⟩, fun x hx => ?_⟩
                  · rw [strict_cons]
                    simp only [CellRels]
                    refine ⟨fp M i, F', rfl, ?_, k1⟩
                    simp only [CellRel]
                    rw [← hα]
                    exact ⟨M.N i, R.strict, rfl⟩
                  · subst e
                    obtain ⟨j, hj, hx'⟩ := k3 x hy
                    have := S.dj i j x hx hx'
                    omega
                  · rcases List.mem_append.1 hx with hx | hx
                    · exact ⟨i, Nat.le_refl _, hx⟩
                    · obtain ⟨j, hj, hx'⟩ := k3 x hx
                      exact ⟨j, by omega, hx'⟩
                · cases hr
              · cases hr
            · cases hb
          · cases hb
        · cases hb
      · cases hb
end
theorem OwnRels.any {h : Heap} {Z Z' : List Nat} {ts : List Ty} {os : List (Option NM)} (ho : os = strict ts) {x : Ty.Ds ts} {as : List AV} {F : List Nat} (H : CellRels h Z (strict ts) ts x as F) : CellRels h Z' os ts x as F := by
  subst ho; exact CellRels.anyZ ts H
section
variable {P : Program} {C : Ctrs} {an : List (Nat × An)} {L : List LCtr}
/-- **A CONTRACT FROM A TYPED BODY**: a function that is lent rows. -/
theorem CtrOk.io_of (HC : ∀ f c, C f = some c → CtrOk P f c) {f : FuncId} {ac : ACode} {ars : List AR} {k na : Nat} (hg : Good P (f, ac, ars, k)) (HL : LoopsOk C an L ac) {ps rs : List PK} {fn : Ty.Ds (ps.flatMap (·.cs)) → Option (Ty.Ds (rs.flatMap (·.cs)))}
    (hk : ps.length ≤ k) (w1 : hasSl ((rs.take na).flatMap (·.cs)) = false) (w2 : (rs.drop na).flatMap (·.cs) = ps.flatMap (·.cs)) (w3 : PK.owns ps = strict (ps.flatMap (·.cs))) (w4 : ∀ p ∈ ps, p.ptr = false)
    (hv : ∀ d y, fn d = some y → vfun C an L ac ars k true na ps rs d = some y) : CtrOk P f ⟨false, true, na, ps, rs, fn⟩ := by
  refine ⟨w1, w2, fun d y hy h as l F hA hR hn hF => ?_⟩
  have hv := hv d y hy
  obtain ⟨fn', g1, g2, g3, g4, g5⟩ := hg
  refine PCall.of_fn g1 g2 g3 g4 g5 ?_
  replace hv : vcode C an L ac (VS.start k (nsl (ps.flatMap (·.cs))) ps d) (fun s1 => match s1.resL ars with
      | some vs => s1.ansI na ps rs d vs
      | none => none) (fun _ _ => none) (fun s1 => match s1.resL ars with
      | some vs => s1.ansI na ps rs d vs
      | none => none) = some y := hv
  have hPA := PCells.of (h := h) ps w4 hA
  have hlen := (PCells.len ps hPA).2
  unfold VS.start at hv
  generalize hgg : giveTVs (PK.owns ps) (ps.flatMap (·.cs)) d ⟨[], [], [], [], 0⟩ = q at hv
  obtain ⟨vs, s1⟩ := q
  simp only at hv
  generalize hgb : groupB ps vs s1 = q at hv
  obtain ⟨ws, s2⟩ := q
  simp only at hv
  obtain ⟨M1, S1, D1, T1⟩ := giveTVs_ok _ (SRel.empty h F [] [] fun z hz => by simp at hz) (OwnRels.any w3 hR) hn (fun x hx => ⟨fun j hj => by simp [fp, rid] at hj, hF x hx, .inl hx, fun hz => by simp at hz⟩) hgg
  have hnb1 : M1.nb = 0 := by rw [S1.nb, giveTVs_boxes _ hgg]; rfl
  obtain ⟨M2, S2, D2, T2, hnb2, hβ2⟩ := groupB_ok ps (extra := []) S1 hPA (by rw [List.append_nil]; exact T1) List.nodup_nil (fun b hbb => by simp at hbb) hgb
  obtain ⟨f1, f2, f3⟩ := groupB_len ps vs s1
  rw [hgb] at f1 f2 f3
  simp only at f1 f2 f3
  have hrefs := give_refs (ps.flatMap (·.cs)) d ⟨[], [], [], [], 0⟩ (fun o ho => by simp at ho) M1 h l (by
    rw [w3] at hgg
    rw [hgg]; exact T1)
  have S0 : SRel ⟨h, F, [], 0, [], slA (ps.flatMap (·.cs)) l⟩ M2 (as ++ List.replicate (k - as.length) (.tup [])) h { s2 with env := ws ++ List.replicate (k - ps.length) .bad, pn := nsl (ps.flatMap (·.cs)) } := by
    refine { S2 with len := by simp [f1, hlen], env := fun t v a h1 h2 => ?_, gd := fun t g w v h1 => ?_, hand := fun j hj => absurd hj (Nat.not_lt_zero _), pn := (slA_len _ _ hrefs.1).symm, pin := fun i a hi => ?_ }
    · by_cases ht : t < ps.length
      · rw [List.getElem?_append_left (by rw [f1]; exact ht)] at h1
        rw [List.getElem?_append_left (by omega)] at h2
        exact .of (T2.get h1 h2)
      · rw [List.getElem?_append_right (by rw [f1]; omega), List.getElem?_replicate] at h1
        split at h1
        · cases h1; simp only [EVR, TVR]
        · cases h1
    · by_cases ht : t < ps.length
      · rw [List.getElem?_append_left (by rw [f1]; exact ht)] at h1
        have h2 := List.getElem?_eq_getElem (l := as) (i := t) (by omega)
        have := T2.get h1 h2
        simp only [TVR] at this
      · rw [List.getElem?_append_right (by rw [f1]; omega), List.getElem?_replicate] at h1
        split at h1
        · cases h1
        · cases h1
    · obtain ⟨k1, k2⟩ := hrefs.2 i a hi
      simp only [List.length_nil, Nat.zero_add] at k1 k2
      obtain ⟨k3, k4, _⟩ := D2.row i k1
      exact ⟨k3, by rw [k4]; exact k2⟩
  have fin : ∀ (e : AExit) (M' : Mp) (s' : VS) (st' : ASt), (match e with | .exit _ => False | _ => True) → SRel ⟨h, F, [], 0, [], slA (ps.flatMap (·.cs)) l⟩ M' st'.env st'.heap s' → (match s'.resL ars with | some vs => s'.ansI na ps rs d vs | none => none) = some y →
      Ends ars (fun r h' => ∃ rs' l1 F', Res1 r rs' ∧ ACells (rs.take na) rs' l1 ∧ CellRels h' [] (strict (rs.flatMap (·.cs))) (rs.flatMap (·.cs)) y (l1 ++ l) F' ∧ F'.Nodup ∧ Fr h F [] h' ∧ ∀ x ∈ F', x < h'.next ∧ (x ∈ F ∨ h.next ≤ x)) e st' := by
    intro e M' s' st' hne S' hr
    split at hr
    · rename_i vs' hres
      obtain ⟨as', k1, k2⟩ := resL_ok S' ars hres
      unfold VS.ansI at hr
      split at hr
      · rename_i l' hac
        split at hr
        · rename_i l2 hbk
          obtain ⟨la, q1, q2⟩ := argCells_ok _ hac k2
          have hcs : rs.flatMap (·.cs) = (rs.take na).flatMap (·.cs) ++ ps.flatMap (·.cs) := by
            rw [← w2, ← List.flatMap_append, List.take_append_drop]
          have hll : l'.length = ((rs.take na).flatMap (·.cs)).length := by rw [q2.len]; exact (ACells.grp _ q1).2
          have key : ∃ F', CellRels st'.heap [] (strict (rs.flatMap (·.cs))) (rs.flatMap (·.cs)) y (la ++ l) F' ∧ F'.Nodup ∧ ∀ x ∈ F', ∃ j, x ∈ fp M' j := by
            revert hr
            generalize hz : y = z
            clear hv hy hz
            revert z
            rw [hcs]
            intro z hr
            obtain ⟨y1, y2, e1, e2, e3⟩ := roTVs_append _ _ z l' l2 hr hll
            have c1 := ro_flat _ w1 e1 q2
            obtain ⟨F', c2, c3, c4⟩ := back_ok S' _ hbk e2 hR (fun j a ha => by
              rw [Nat.zero_add]
              exact (S'.pin j a ha).2)
            refine ⟨[] ++ F', e3 _ _ _ _ _ _ c1 c2, by simpa using c3, fun x hx => ?_⟩
            obtain ⟨j, _, hx⟩ := c4 x (by simpa using hx)
            exact ⟨j, hx⟩
          obtain ⟨F', c1, c2, c3⟩ := key
          have post : ∀ r, Res1 r as' → ∃ rs' l1 F', Res1 r rs' ∧ ACells (rs.take na) rs' l1 ∧ CellRels st'.heap [] (strict (rs.flatMap (·.cs))) (rs.flatMap (·.cs)) y (l1 ++ l) F' ∧ F'.Nodup ∧ Fr h F [] st'.heap ∧ ∀ x ∈ F', x < st'.heap.next ∧ (x ∈ F ∨ h.next ≤ x) :=
            fun r hr => ⟨as', la, F', hr, q1, c1, c2, ⟨S'.fr, S'.frb, S'.nx, S'.bx⟩, fun x hx => by
              obtain ⟨j, hj⟩ := c3 x hx
              exact ⟨S'.lt j x hj, S'.own j x hj⟩⟩
          have : ∃ r, ares st'.env st'.heap ars = some r ∧ Res1 r as' := by
            simp only [ares, k1]
            cases as' with
            | nil => exact ⟨_, rfl, .inr ⟨by simp, rfl⟩⟩
            | cons a l => cases l with
              | nil => exact ⟨_, rfl, .inl ⟨a, rfl, rfl⟩⟩
              | cons => exact ⟨_, rfl, .inr ⟨by simp, rfl⟩⟩
          obtain ⟨r, k3, k4⟩ := this
          cases e with
          | exit id => exact hne.elim
          | normal => simp only [Ends, k3]; exact post r k4
          | ret => simp only [Ends, k3]; exact post r k4
        · cases hr
      · cases hr
    · cases hr
  exact vcode_ok HC ac (fun lc _ => ⟨Nat.zero_le _, fun _ _ => Nat.zero_le _⟩) HL S0 hv (fun M' s' st' S' hk => fin .normal M' s' st' trivial S' hk) (fun j M' s' st' S' hk => by cases hk) (fun M' s' st' S' hk => fin .ret M' s' st' trivial S' hk)
end
end Go.PA
