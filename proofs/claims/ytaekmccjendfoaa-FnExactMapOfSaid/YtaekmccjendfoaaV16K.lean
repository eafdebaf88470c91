/- Typed values: calls by their contracts. No condition. -/
import Derived.Test.YtaekmccjendfoaaV16U
namespace Go.PA
set_option linter.unusedVariables false
set_option linter.unusedSimpArgs false

theorem ioRows_cons (i : IoT) (l : List IoT) : ioRows (i :: l) = ioRows [i] ++ ioRows l := by cases i <;> rfl
theorem upds_append : ∀ (L1 L2 : List (Nat × VSlot)) (s : VS), VS.upds (L1 ++ L2) s = VS.upds L2 (VS.upds L1 s)
  | [], L2, s => rfl
  | (i, sl) :: L1, L2, s => upds_append L1 L2 _
theorem UpdRel.append {h' : Heap} {M : Mp} : ∀ {L1 L2 : List (Nat × VSlot)} {G1 G2 : List Nat}, UpdRel h' M L1 G1 → UpdRel h' M L2 G2 → UpdRel h' M (L1 ++ L2) (G1 ++ G2)
  | [], L2, G1, G2, H, H2 => by have H : G1 = [] := H; subst H; exact H2
  | (i, sl) :: L1, L2, G1, G2, ⟨N', G3, e, h1, h2⟩, H2 => ⟨N', G3 ++ G2, by rw [e, List.append_assoc], h1, UpdRel.append h2 H2⟩
theorem strict_cons (t : Ty) (ts : List Ty) : strict (t :: ts) = some .S :: strict ts := rfl
section
variable {B : Bg} {M : Mp} {env : List AV} {h : Heap} {s : VS}
theorem ioTVs_ok (S : SRel B M env h s) : ∀ (ts : List Ty) {l : List TV} {la : List AV} {d : Ty.Ds ts} {io : List IoT}, ioTVs s ts l = some (d, io) → TVRs M h l la → (ioRows io).Nodup →
    ∃ F, CellRels h [] (strict ts) ts d la F ∧ F.Nodup ∧ (∀ x ∈ F, ∃ k ∈ ioRows io, x ∈ fp M k) ∧ (∀ k ∈ ioRows io, ∃ sl, s.slot? k = some sl) ∧
      ∀ (h' : Heap) (Fa F' : List Nat) (y : Ty.Ds ts), (∀ x ∈ F, x ∈ Fa) → (∀ x, x < h.next → x ∉ Fa → h'.rows x = h.rows x) → (∀ k ∈ ioRows io, ∀ x ∈ fp M k, x ∈ Fa → x ∈ F) → (∀ x ∈ F', x ∈ Fa ∨ h.next ≤ x) → CellRels h' [] (strict ts) ts y la F' → F'.Nodup →
        ∀ s0 s1 j, (∀ k ∈ ioRows io, s0.slot? k = s.slot? k) → ioBack s0 io (toTVs none j ts y) = some s1 →
          ∃ (L : List (Nat × VSlot)) (G : List Nat), s1 = VS.upds L s0 ∧ L.map (·.1) = ioRows io ∧ UpdRel h' M L G ∧ G.Nodup ∧ ∀ x ∈ G, x ∈ F' ∨ (x ∉ Fa ∧ ∃ k ∈ ioRows io, x ∈ fp M k)
  | [], [], la, d, io, hr, H, hn => by
    simp only [ioTVs, Option.some.injEq, Prod.mk.injEq] at hr
    obtain ⟨_, rfl⟩ := hr
    simp only [TVRs] at H
    subst H
    refine ⟨[], by simp only [CellRels]; exact ⟨trivial, trivial⟩, List.nodup_nil, fun x hx => by simp at hx, fun k hk => by simp [ioRows] at hk, fun h' Fa F' y _ _ _ _ hy _ s0 s1 j _ hb => ?_⟩
    simp only [toTVs, ioBack, Option.some.injEq] at hb
    exact ⟨[], [], hb.symm, rfl, rfl, List.nodup_nil, fun x hx => by simp at hx⟩
  | [], _ :: _, la, d, io, hr, H, hn => by simp only [ioTVs, reduceCtorEq] at hr
  | _ :: _, [], la, d, io, hr, H, hn => by simp only [ioTVs, reduceCtorEq] at hr
  | t :: ts, v :: vs, [], d, io, hr, H, hn => by simp only [TVRs] at H
  | t :: ts, v :: vs, a :: la, d, io, hr, H, hn => by
    simp only [TVRs] at H
    simp only [ioTVs] at hr
    split at hr
    · rename_i d1 i hd
      split at hr
      · rename_i ds l2 hds
        simp only [Option.some.injEq, Prod.mk.injEq] at hr
        obtain ⟨rfl, rfl⟩ := hr
        rw [ioRows_cons] at hn
        obtain ⟨n1, n2, n3⟩ := List.nodup_append.1 hn
        obtain ⟨F1, a1, a2, a3, a4, a5⟩ := ioTV_ok S hd H.1
        obtain ⟨F2, b1, b2, b3, b4, b5⟩ := ioTVs_ok S ts hds H.2 n2
        have apart : ∀ k ∈ ioRows [i], ∀ k' ∈ ioRows l2, ∀ x, x ∈ fp M k → x ∉ fp M k' := fun k hk k' hk' x hx hx' => n3 k hk k' hk' (S.dj k k' x hx hx')
        refine ⟨F1 ++ F2, ?_, List.nodup_append.2 ⟨a2, b2, fun x hx y hy e => ?_⟩, fun x hx => ?_, fun k hk => ?_, fun h' Fa F' y hFa hsame honly hF' hy hFn s0 s1 j hs0 hb => ?_⟩
        · rw [strict_cons]
          simp only [CellRels]
          exact ⟨F1, F2, rfl, a1, b1⟩
        · subst e
          obtain ⟨k, hk, hx⟩ := a3 x hx
          obtain ⟨k', hk', hx'⟩ := b3 x hy
          exact apart k hk k' hk' x hx hx'
        · rw [ioRows_cons]
          rcases List.mem_append.1 hx with hx | hx
          · obtain ⟨k, hk, hx⟩ := a3 x hx
            exact ⟨k, List.mem_append_left _ hk, hx⟩
          · obtain ⟨k, hk, hx⟩ := b3 x hx
            exact ⟨k, List.mem_append_right _ hk, hx⟩
        · rw [ioRows_cons] at hk
          rcases List.mem_append.1 hk with hk | hk
          · exact a4 k hk
          · exact b4 k hk
        · rw [ioRows_cons] at honly hs0
          rw [strict_cons] at hy
          simp only [CellRels] at hy
          obtain ⟨G1, G2, rfl, y1, y2⟩ := hy
          obtain ⟨m1, m2, m3⟩ := List.nodup_append.1 hFn
          simp only [toTVs] at hb
          obtain ⟨L1, P1, q1, q2, q3, q4, q5⟩ := a5 h' Fa G1 y.1 (fun x hx => hFa x (List.mem_append_left _ hx)) hsame (fun k hk x hx hf => by
            rcases List.mem_append.1 (honly k (List.mem_append_left _ hk) x hx hf) with h1 | h1
            · exact h1
            · obtain ⟨k', hk', hx'⟩ := b3 x h1
              exact absurd hx' (apart k hk k' hk' x hx)) (fun x hx => hF' x (List.mem_append_left _ hx)) y1 m1 s0 s1 l2 _ j (fun k hk => hs0 k (List.mem_append_left _ hk)) hb
          have hL1 : ∀ p ∈ L1, ∃ sl, s0.slot? p.1 = some sl := fun p hp => by
            have hk : p.1 ∈ ioRows [i] := by rw [← q2]; exact List.mem_map_of_mem hp
            obtain ⟨sl, h⟩ := a4 p.1 hk
            exact ⟨sl, by rw [hs0 p.1 (List.mem_append_left _ hk)]; exact h⟩
          obtain ⟨L2, P2, r1, r2, r3, r4, r5⟩ := b5 h' Fa G2 y.2 (fun x hx => hFa x (List.mem_append_right _ hx)) hsame (fun k hk x hx hf => by
            rcases List.mem_append.1 (honly k (List.mem_append_right _ hk) x hx hf) with h1 | h1
            · obtain ⟨k', hk', hx'⟩ := a3 x h1
              exact absurd hx (apart k' hk' k hk x hx')
            · exact h1) (fun x hx => hF' x (List.mem_append_right _ hx)) y2 m2 (VS.upds L1 s0) s1 (j + 1) (fun k hk => by
              rw [(upds_slot? L1 s0 (by rw [q2]; exact n1) hL1 k).2 (by rw [q2]; exact fun hm => n3 k hm k hk rfl)]
              exact hs0 k (List.mem_append_right _ hk)) q1
          refine ⟨L1 ++ L2, P1 ++ P2, by rw [upds_append]; exact r1, by rw [List.map_append, q2, r2]; exact (ioRows_cons i l2).symm, q3.append r3, List.nodup_append.2 ⟨q4, r4, fun x hx y hy e => ?_⟩, fun x hx => ?_⟩
          · subst e
            rcases q5 x hx with h1 | ⟨h1, k, hk, hxk⟩ <;> rcases r5 x hy with h2 | ⟨h2, k', hk', hxk'⟩
            · exact m3 x h1 x h2 rfl
            · rcases hF' x (List.mem_append_left _ h1) with h3 | h3
              · exact h2 h3
              · have := S.lt k' x hxk'; omega
            · rcases hF' x (List.mem_append_right _ h2) with h3 | h3
              · exact h1 h3
              · have := S.lt k x hxk; omega
            · exact apart k hk k' hk' x hxk hxk'
          · rw [ioRows_cons]
            rcases List.mem_append.1 hx with hx | hx
            · rcases q5 x hx with h1 | ⟨h1, k, hk, hxk⟩
              · exact .inl (List.mem_append_left _ h1)
              · exact .inr ⟨h1, k, List.mem_append_left _ hk, hxk⟩
            · rcases r5 x hx with h1 | ⟨h1, k, hk, hxk⟩
              · exact .inl (List.mem_append_right _ h1)
              · exact .inr ⟨h1, k, List.mem_append_right _ hk, hxk⟩
      · cases hr
    · cases hr
theorem give_toTVs : ∀ (ts : List Ty) (y : Ty.Ds ts) (s : VS) (j : Nat), (giveTVs [] ts y s).1 = toTVs none j ts y ∧ (giveTVs [] ts y s).2 = s
  | [], y, s, j => ⟨rfl, rfl⟩
  | t :: ts, y, s, j => by
    obtain ⟨h1, h2⟩ := give_toTVs ts y.2 s (j + 1)
    cases t <;> simp only [giveTVs, hdO, List.tail_nil, toTVs, h1, h2] <;> exact ⟨rfl, trivial⟩
theorem toTVs_append : ∀ (as bs : List Ty) (y : Ty.Ds (as ++ bs)) (j : Nat), ∃ (y1 : Ty.Ds as) (y2 : Ty.Ds bs), toTVs none j (as ++ bs) y = toTVs none j as y1 ++ toTVs none (j + as.length) bs y2 ∧
    ∀ (h : Heap) (Z : List Nat) (l1 l2 : List AV) (F : List Nat), l1.length = as.length → CellRels h Z (strict (as ++ bs)) (as ++ bs) y (l1 ++ l2) F → ∃ F1 F2, F = F1 ++ F2 ∧ CellRels h Z (strict as) as y1 l1 F1 ∧ CellRels h Z (strict bs) bs y2 l2 F2
  | [], bs, y, j => ⟨(), y, by simp [toTVs], fun h Z l1 l2 F hl H => by
      have : l1 = [] := by simpa using hl
      subst this
      exact ⟨[], F, rfl, by simp only [CellRels]; exact ⟨trivial, trivial⟩, H⟩⟩
  | t :: as, bs, y, j => by
    obtain ⟨y1, y2, h1, h2⟩ := toTVs_append as bs y.2 (j + 1)
    refine ⟨(y.1, y1), y2, ?_, fun h Z l1 l2 F hl H => ?_⟩
    · simp only [List.cons_append, toTVs, h1, List.length_cons]
      rw [show j + 1 + as.length = j + (as.length + 1) by omega]
    · cases l1 with
      | nil => simp at hl
      | cons a l1 =>
        have H : CellRels h Z (some .S :: strict (as ++ bs)) (t :: (as ++ bs)) y (a :: (l1 ++ l2)) F := H
        simp only [CellRels] at H
        obtain ⟨F1, F2, rfl, h3, h4⟩ := H
        obtain ⟨F3, F4, rfl, h5, h6⟩ := h2 h Z l1 l2 F2 (by simpa using hl) h4
        refine ⟨F1 ++ F3, F4, by rw [List.append_assoc], ?_, h6⟩
        rw [strict_cons]
        simp only [CellRels]
        exact ⟨F1, F3, rfl, h3, h5⟩
theorem flat_TVRs : ∀ (ts : List Ty) {y : Ty.Ds ts} {l : List AV} {Z : List Nat} {h' : Heap} {M' : Mp} {h2 : Heap} {F : List Nat} {j : Nat}, hasSl ts = false → CellRels h' Z (strict ts) ts y l F → TVRs M' h2 (toTVs none j ts y) l
  | [], y, l, Z, h', M', h2, F, j, hf, H => by simp only [CellRels] at H; simp only [toTVs, TVRs]; exact H.1
  | t :: ts, y, [], Z, h', M', h2, F, j, hf, H => by simp only [CellRels] at H
  | t :: ts, y, a :: l, Z, h', M', h2, F, j, hf, H => by
    rw [strict_cons] at H
    simp only [CellRels] at H
    obtain ⟨F1, F2, rfl, h1, h3⟩ := H
    cases t with
    | sl cs => simp [hasSl] at hf
    | int k =>
      simp only [CellRel, LitC] at h1
      simp only [toTVs, toTV, TVRs, TVR]
      exact ⟨h1.1, flat_TVRs ts (by simpa [hasSl] using hf) h3⟩
    | bool =>
      simp only [CellRel, LitC] at h1
      simp only [toTVs, toTV, TVRs, TVR]
      exact ⟨h1.1, flat_TVRs ts (by simpa [hasSl] using hf) h3⟩
    | str =>
      simp only [CellRel, LitC] at h1
      simp only [toTVs, toTV, TVRs, TVR]
      exact ⟨h1.1, flat_TVRs ts (by simpa [hasSl] using hf) h3⟩
theorem ncells_flat (ps : List PK) : ncells ps = (ps.flatMap (·.cs)).length := by
  induction ps with
  | nil => rfl
  | cons p ps ih => simp [ncells, ih]
theorem toTVs_len {o : Src} : ∀ (ts : List Ty) (y : Ty.Ds ts) (j : Nat), (toTVs o j ts y).length = ts.length
  | [], y, j => rfl
  | t :: ts, y, j => by simp [toTVs, toTVs_len ts]
variable {P : Program} {ρ : Type}
theorem SRel.addZ (S : SRel B M env h s) {Z' : List Nat} (hZ : ∀ z ∈ Z', z < h.next ∧ (∀ j, z ∉ fp M j) ∧ (z ∈ B.Z ∨ z ∈ B.F ∨ B.h.next ≤ z)) : SRel B { M with Z := Z' ++ M.Z } env h s ∧ Mono M h { M with Z := Z' ++ M.Z } h := by
  have hz : ZUp h M.Z h (Z' ++ M.Z) := fun x hx => ⟨List.mem_append_right _ hx, rfl⟩
  have D : Mono M h { M with Z := Z' ++ M.Z } h := ⟨fun b hb => ⟨hb, rfl⟩, fun j hj => ⟨hj, rfl, fun x hx => ⟨hx, rfl⟩⟩, fun _ _ _ _ => rfl, hz⟩
  refine ⟨⟨S.len, fun t v a h1 h2 => (S.env t v a h1 h2).mono D, S.nb, fun b cs hb => ?_, S.binj, S.bown, S.lv, fun i sl hs => (S.slot i sl hs).heap hz fun _ _ => rfl, S.dead, S.lt, S.nd, S.dj, S.gd, S.own, S.fr, S.frb, S.nx, S.bx, S.hand, fun x hx => ?_, fun x hx j hj => ?_, fun x hx => ?_, fun x hx => List.mem_append_right _ (S.bz x hx), S.pn, S.pin⟩, D⟩
  · obtain ⟨as, h1, h2⟩ := S.box b cs hb
    exact ⟨as, h1, h2.mono D⟩
  · rcases List.mem_append.1 hx with hx | hx
    · exact (hZ x hx).1
    · exact S.zlt x hx
  · rcases List.mem_append.1 hx with hx | hx
    · exact (hZ x hx).2.1 j hj
    · exact S.zdj x hx j hj
  · rcases List.mem_append.1 hx with hx | hx
    · exact (hZ x hx).2.2
    · exact S.zown x hx
theorem SRel.frees : ∀ (dr : List Nat) {M : Mp} {s : VS} (_ : SRel B M env h s), ∃ M', SRel B M' env h (s.frees dr)
  | [], M, s, S => ⟨M, S⟩
  | i :: l, M, s, S => by
    unfold VS.frees
    split
    · rename_i hi
      exact SRel.frees l (S.free i (by rw [← S.pn]; exact Nat.le_of_ble_eq_true hi))
    · exact SRel.frees l S
/-- A call that only reads. -/
theorem vcallF_ok (S : SRel B M env h s) {f : FuncId} {c : Ctr} (HC : CtrOk P f c) {rows : Bool} {dr : List Nat} {args : List Operand} {K : TV → VS → Option ρ} {out : ρ} (hv : vcallF s c rows dr (args.map (s.ev none)) K = some out) :
    ∃ R, PCall P f (args.map (aeval env)) h R ∧ ∀ r h', R r h' → (rows = true → Fr h [] [] h') ∧ ∃ M' s' v, SRel B M' env h' s' ∧ TVR M' h' v r ∧ K v s' = some out := by
  have HA := S.evs (g := none) trivial args
  unfold vcallF at hv
  split at hv
  · rename_i l ha
    split at hv
    · rename_i hf
      split at hv
      · rename_i d hd
        simp only [Option.bind_eq_some_iff] at hv
        obtain ⟨y, hy, hv⟩ := hv
        obtain ⟨ts, tl, g1, g2, g3⟩ := sees S ha hd HA
        obtain ⟨M0, S⟩ := S.frees dr
        cases rows with
        | false =>
          obtain ⟨k1, k2⟩ := fresh_fr HC hf hy g1 g2
          refine ⟨_, k1.lift (g3.ext (HExt.refl h)), fun r h' ⟨e1, e2⟩ => ?_⟩
          subst e1; subst e2
          simp only [Bool.false_eq_true, if_false] at hv
          generalize hgg : giveTVs [] (c.rs.flatMap (·.cs)) y (s.frees dr) = q at hv
          obtain ⟨vs, s1⟩ := q
          obtain ⟨M1, p1, p2, p3⟩ := giveTVs_ok _ S (lits_cells _ (frCs_lit _ y)) List.nodup_nil (fun x hx => by simp at hx) hgg
          exact ⟨fun e => (by cases e), M1, s1, _, p1, k2 M1 _ vs p3, hv⟩
        | true =>
          refine ⟨_, HC.rows hf hy g1 g2 (g3.ext (HExt.refl h)), fun r h' ⟨rs, l', F, k1, k2, k3, k4, k5, k6⟩ => ?_⟩
          simp only [if_true] at hv
          generalize hgg : giveTVs ((c.rs.flatMap (·.cs)).map fun _ => some NM.S) (c.rs.flatMap (·.cs)) y (s.frees dr) = q at hv
          obtain ⟨vs, s1⟩ := q
          have S' := S.frame k5 (fun x hx => by simp at hx)
          obtain ⟨M1, p1, p2, p3⟩ := giveTVs_ok _ S' (CellRels.up (Z := []) (Z' := M0.Z) (fun r hr => by simp at hr) _ (fun _ _ => rfl) k3) k4 (fun x hx => ⟨fun j hj => by have := S.lt j x hj; have := (k6 x hx).2; omega, (k6 x hx).1, .inr (Nat.le_trans S.nx (k6 x hx).2), fun hz => by have := S.zlt x hz; have := (k6 x hx).2; omega⟩) hgg
          exact ⟨fun _ => k5, M1, s1, _, p1, group1_ok (groupL_ok c.rs k2 p3) k1, hv⟩
      · cases hv
    · cases hv
  · cases hv
/-- A call that is handed rows and boxes. -/
theorem vcallO_ok (S : SRel B M env h s) {f : FuncId} {c : Ctr} (HC : CtrOk P f c) (hf : c.fresh = false) (hio : c.io = false) {args : List Operand} {us : List Tmp} {K : TV → VS → Option ρ} {out : ρ} (hv : vcallO s c us (args.map (s.ev none)) K = some out) :
    ∃ R, PCall P f (args.map (aeval env)) h R ∧ ∀ r h', R r h' → (∀ t ∈ us, SameAt h h' (env.getD t .bad)) ∧ ∃ M' s' v, SRel B M' env h' s' ∧ TVR M' h' v r ∧ K v s' = some out := by
  have HA := S.evs (g := none) trivial args
  unfold vcallO at hv
  split at hv
  · rename_i l bs ha
    split at hv
    · rename_i hnd
      split at hv
      · rename_i d s1 hd
        split at hv
        case h_2 => cases hv
        rename_i hus
        simp only [Option.bind_eq_some_iff] at hv
        obtain ⟨y, hy, hv⟩ := hv
        obtain ⟨la, g1, g2, g3⟩ := argCellsB_ok S c.ps ha HA
        obtain ⟨M1, C, S1, D1, q1, q2, q3⟩ := takeTVs_ok _ S g2 hd
        unfold CtrOk at HC
        rw [hf, hio] at HC
        have hCap := Apart.of_eaten S q3
        have hg3 : ∀ b ∈ bs, b < M1.nb := fun b hb => by rw [D1.nb]; exact g3 b hb
        have hbn : (bs.map M.β).Nodup := nodup_map_on (nodupN_ok hnd) fun a ha b hb e => S.binj a b (g3 a ha) (g3 b hb) e
        refine ⟨_, HC d y hy h _ la C (bs.map M.β) M1.Z g1 q1 q2 (fun x hx => (hCap x hx).2.1) hbn (fun z hz => ⟨S1.zlt z hz, fun hc => (hCap z hc).2.2.2 hz⟩), fun r h' ⟨rs, l1, l2, F', cb, Z', k1, k2, k3, k4, k5, k6, k7, k8, k9, k10⟩ => ?_⟩
        generalize hgg : giveTVs (PK.owns c.rs) (c.rs.flatMap (·.cs)) y (blankB bs s1) = q at hv
        obtain ⟨vs, s2⟩ := q
        simp only at hv
        generalize hgb : groupB (c.rs.take c.na) vs s2 = q at hv
        obtain ⟨ws, s3⟩ := q
        rw [← D1.β] at k3 k8
        have S' := S1.frameB k8 hg3 (fun x hx => ⟨(hCap x hx).1, (hCap x hx).2.2⟩)
        obtain ⟨SZ, DZ⟩ := S'.addZ (Z' := Z') fun z hz => by
          obtain ⟨u1, u2, u3⟩ := k10 z hz
          refine ⟨u1, fun j hj => ?_, ?_⟩
          · rcases u3 with u3 | u3 | u3
            · exact S1.zdj z u3 j hj
            · exact (hCap z u3).1 j hj
            · have := S1.lt j z hj; omega
          · rcases u3 with u3 | u3 | u3
            · exact S1.zown z u3
            · exact .inr (hCap z u3).2.2.1
            · exact .inr (.inr (Nat.le_trans S1.nx u3))
        obtain ⟨M2, p1, p2, p3⟩ := giveTVs_ok _ SZ (CellRels.up (fun r hr => ⟨List.mem_append_left _ hr, rfl⟩) _ (fun _ _ => rfl) k4) k5 (fun x hx => by
          obtain ⟨u1, u2⟩ := k9 x hx
          refine ⟨fun j hj => ?_, u1, ?_, fun hz => ?_⟩
          · have hj : x ∈ fp M1 j := hj
            rcases u2 with u2 | u2
            · exact (hCap x u2).1 j hj
            · have := S1.lt j x hj; omega
          · rcases u2 with u2 | u2
            · exact (hCap x u2).2.2.1
            · exact .inr (Nat.le_trans S1.nx u2)
          · rcases List.mem_append.1 hz with hz | hz
            · exact (k10 x hz).2.1 hx
            · rcases u2 with u2 | u2
              · exact (hCap x u2).2.2.2 hz
              · have := S1.zlt x hz; omega) hgg
        have hnb2 : M2.nb = M1.nb ∧ s2.boxes = (blankB bs s1).boxes := by
          have := giveTVs_boxes _ hgg
          refine ⟨?_, this⟩
          rw [p1.nb, this, (blankB_env bs s1).2.2.2.1, S1.nb]
        obtain ⟨M3, r1, r2, r3, r4, r5⟩ := groupB_ok _ p1 k2 p3 k6 (fun b hb => ⟨fun j hj e => by
          rw [hnb2.1] at hj
          have h1 : M2.β j = M1.β j := (p2.box j hj).2
          have h2 := (S1.bown j hj).2
          have h3 := k7 b hb
          omega, .inl (Nat.le_trans S1.bx (k7 b hb))⟩) hgb
        have hβ3 : ∀ b ∈ bs, M3.β b = M1.β b ∧ b < M3.nb := fun b hb => by
          obtain ⟨u1, u2⟩ := p2.box b (hg3 b hb)
          obtain ⟨u3, u4⟩ := r2.box b u1
          exact ⟨u4.trans u2, u3⟩
        have S4 := putBoxes_ok (vs := vs.drop (ncells (c.rs.take c.na))) (bs := bs) (c.rs.drop c.na) r1 (by rw [List.map_congr_left fun b hb => (hβ3 b hb).1]; exact k3) (by
          have := (p3.drop' l1.length)
          rw [List.drop_left, (PCells.len _ k2).1] at this
          exact this.mono r2) fun b hb => (hβ3 b hb).2
        exact ⟨usBox_ok S1 hus hg3 k8 fun x hx => ⟨(hCap x hx).1, (hCap x hx).2.2.2⟩, M3, _, _, S4, group1_ok r3 k1, hv⟩
      · cases hv
    · cases hv
  · cases hv
/-- A call that is lent rows. -/
theorem vcallI_ok (S : SRel B M env h s) {f : FuncId} {c : Ctr} (HC : CtrOk P f c) (hf : c.fresh = false) (hio : c.io = true) {args : List Operand} {K : TV → VS → Option ρ} {out : ρ} (hv : vcallI s c (args.map (s.ev none)) K = some out) :
    ∃ R, PCall P f (args.map (aeval env)) h R ∧ ∀ r h', R r h' → ∃ M' s' v, SRel B M' env h' s' ∧ TVR M' h' v r ∧ K v s' = some out := by
  have HA := S.evs (g := none) trivial args
  unfold vcallI at hv
  split at hv
  · rename_i l ha
    split at hv
    · rename_i d io hd
      split at hv
      · rename_i hnd
        simp only [Option.bind_eq_some_iff] at hv
        obtain ⟨y, hy, hv⟩ := hv
        obtain ⟨la, g1, g2⟩ := argCells_ok c.ps ha HA
        obtain ⟨F, b1, b2, b3, b4, b5⟩ := ioTVs_ok S _ hd g2 (nodupN_ok hnd)
        have hlen : (c.rs.take c.na).flatMap (·.cs) ++ (c.rs.drop c.na).flatMap (·.cs) = c.rs.flatMap (·.cs) := by
          rw [← List.flatMap_append, List.take_append_drop]
        unfold CtrOk at HC
        rw [hf, hio] at HC
        obtain ⟨hflat, hps, HC⟩ := HC
        have hFlt : ∀ x ∈ F, x < h.next := fun x hx => by
          obtain ⟨k, _, hk⟩ := b3 x hx
          exact S.lt k x hk
        refine ⟨_, HC d y hy h _ la F g1 b1 b2 hFlt, fun r h' ⟨rs, l1, F', k1, k2, k3, k4, k5, k6⟩ => ?_⟩
        obtain ⟨gv1, gv2⟩ := give_toTVs (c.rs.flatMap (·.cs)) y s 0
        generalize hgg : giveTVs [] (c.rs.flatMap (·.cs)) y s = q at hv
        rw [hgg] at gv1 gv2
        obtain ⟨vs, s'⟩ := q
        simp only at gv1 gv2 hv
        subst gv1
        have hcs : c.rs.flatMap (·.cs) = (c.rs.take c.na).flatMap (·.cs) ++ c.ps.flatMap (·.cs) := by rw [← hps, hlen]
        have key : ∃ (y1 : Ty.Ds ((c.rs.take c.na).flatMap (·.cs))) (y2 : Ty.Ds (c.ps.flatMap (·.cs))), toTVs none 0 (c.rs.flatMap (·.cs)) y = toTVs none 0 ((c.rs.take c.na).flatMap (·.cs)) y1 ++ toTVs none (0 + ((c.rs.take c.na).flatMap (·.cs)).length) (c.ps.flatMap (·.cs)) y2 ∧
            ∃ F1 F2, F' = F1 ++ F2 ∧ CellRels h' [] (strict ((c.rs.take c.na).flatMap (·.cs))) ((c.rs.take c.na).flatMap (·.cs)) y1 l1 F1 ∧ CellRels h' [] (strict (c.ps.flatMap (·.cs))) (c.ps.flatMap (·.cs)) y2 la F2 := by
          have hl1 : l1.length = ((c.rs.take c.na).flatMap (·.cs)).length := by
            have := ACells.grp _ k2
            exact this.2
          revert k3
          generalize hz : y = z
          clear hy hz
          revert z
          rw [hcs]
          intro z k3
          obtain ⟨y1, y2, e1, e2⟩ := toTVs_append _ _ z 0
          obtain ⟨F1, F2, e3, e4, e5⟩ := e2 h' [] l1 la F' hl1 k3
          exact ⟨y1, y2, e1, F1, F2, e3, e4, e5⟩
        obtain ⟨y1, y2, e1, F1, F2, rfl, c1, c2⟩ := key
        have hn1 : ncells (c.rs.take c.na) = (toTVs none 0 ((c.rs.take c.na).flatMap (·.cs)) y1).length := by rw [toTVs_len, ncells_flat]
        rw [e1, hn1, List.drop_left, List.take_left] at hv
        split at hv
        · rename_i s1 hb
          obtain ⟨L, G, r1, r2, r3, r4, r5⟩ := b5 h' F F2 y2 (fun _ h => h) (fun x h1 h2 => k5.rows x h1 h2) (fun _ _ _ _ h => h) (fun x hx => (k6 x (List.mem_append_right _ hx)).2) c2 (List.nodup_append.1 k4).2.1 s s1 _ (fun _ _ => rfl) hb
          have hL : ∀ p ∈ L, p.1 ∈ ioRows io := fun p hp => by rw [← r2]; exact List.mem_map_of_mem hp
          have hL2 : ∀ k ∈ ioRows io, ∃ p ∈ L, p.1 = k := fun k hk => by
            rw [← r2] at hk
            exact List.mem_map.1 hk
          obtain ⟨M', S'⟩ := S.upds (L := L) (F := F) (G := G) (by rw [r2]; exact nodupN_ok hnd) (fun p hp => b4 p.1 (hL p hp)) k5 (fun x hx => by
            obtain ⟨k, hk, hx⟩ := b3 x hx
            obtain ⟨p, hp, rfl⟩ := hL2 k hk
            exact ⟨p, hp, hx⟩) r3 r4 (fun x hx => by
            rcases r5 x hx with h1 | ⟨_, k, hk, hxk⟩
            · refine ⟨(k6 x (List.mem_append_right _ h1)).1, ?_⟩
              rcases (k6 x (List.mem_append_right _ h1)).2 with h2 | h2
              · obtain ⟨k, hk, hx⟩ := b3 x h2
                obtain ⟨p, hp, rfl⟩ := hL2 k hk
                exact .inl ⟨p, hp, hx⟩
              · exact .inr h2
            · obtain ⟨p, hp, rfl⟩ := hL2 k hk
              exact ⟨Nat.lt_of_lt_of_le (S.lt _ x hxk) k5.nx, .inl ⟨p, hp, hxk⟩⟩)
          subst r1
          exact ⟨M', _, _, S', group1_ok (groupL_ok _ k2 (flat_TVRs _ hflat c1)) k1, hv⟩
        · cases hv
      · cases hv
    · cases hv
  · cases hv
/-- **A CALL BY ITS CONTRACT.** -/
theorem vcall_ok (S : SRel B M env h s) {f : FuncId} {c : Ctr} (HC : CtrOk P f c) {rows : Bool} {dr : List Nat} {us : List Tmp} {args : List Operand} {K : TV → VS → Option ρ} {out : ρ} (hv : vcall s c rows dr us (args.map (s.ev none)) K = some out) :
    ∃ R, PCall P f (args.map (aeval env)) h R ∧ ∀ r h', R r h' → ∃ M' s' v, SRel B M' env h' s' ∧ TVR M' h' v r ∧ K v s' = some out := by
  unfold vcall at hv
  split at hv
  · split at hv
    case h_2 => cases hv
    obtain ⟨R, h1, h2⟩ := vcallF_ok S HC hv
    exact ⟨R, h1, fun r h' hr => (h2 r h' hr).2⟩
  · rename_i hf
    split at hv
    · rename_i hio
      exact vcallI_ok S HC hf hio hv
    · rename_i hio
      obtain ⟨R, h1, h2⟩ := vcallO_ok S HC hf hio hv
      exact ⟨R, h1, fun r h' hr => (h2 r h' hr).2⟩
end
end Go.PA
