/- Typed values: append and copy; all operations together. No condition. -/
import Derived.Test.YtaekmccjendfoaaV11
namespace Go.PA
section
variable {B : Bg} {M : Mp} {env : List AV} {h : Heap} {s : VS}

theorem modeOf {Z : List Nat} {m : NM} {cs : List Ty} {xs : List (Ty.Ds cs)} {els : List (List AV)} {F : List Nat} (H : AllF (fun x y G => OwnCs h Z m cs x y G) xs els F) : ∃ F', AllF (fun x y G => OwnCs h Z (if hasSl cs then m else .Z) cs x y G) xs els F' ∧ (∀ x ∈ F', x ∈ F) ∧ (F.Nodup → F'.Nodup) := by
  cases hf : hasSl cs with
  | true => exact ⟨F, by simpa using H, fun _ h => h, fun h => h⟩
  | false => exact ⟨[], by simpa using (OwnCs.toZ hf H .Z).2, fun x h => by simp at h, fun _ => List.nodup_nil⟩
theorem SRel.ndN (S : SRel B M env h s) (i : Nat) : (M.N i).Nodup := by
  have := S.nd i
  unfold fp at this
  exact (List.nodup_append.1 this).2.1
theorem LoudT.fix {op : AOp} {i : Nat} {s1 : VS} (H : LoudT B env h op (.ref i) s1) : LoudT B env h op (.ref i) (s1.fixA i) := by
  obtain ⟨M', r, h', h1, h2, h3⟩ := H
  obtain ⟨M2, q1, q2, _⟩ := h2.fixA' i
  exact ⟨M2, r, h', h1, q1, q2 _ _ h3⟩

theorem appHo_ok (S : SRel B M env h s) {sz bytes : Nat} {x y : Operand} {c : List Bool} {v : TV} {s1 : VS} (hd : appHo s sz bytes (s.ev none x) (s.ev none y) = some (.ok c v s1)) (hc : ∀ b ∈ c, b = true) : LoudT B env h (.app sz bytes x y) v s1 := by
  have hx := S.ev (g := none) trivial x
  have hy := S.ev (g := none) trivial y
  unfold appHo at hd
  split at hd
  · rename_i i lo hi hvx
    rw [hvx] at hx
    split at hd
    · rename_i k fo r hsl
      split at hd
      · rename_i j lo2 hi2 hvy
        rw [hvy] at hy
        split at hd
        · rename_i hcond
          obtain ⟨rfl, hsp, hsz⟩ := hcond
          simp only [Option.some.injEq, VO.ok.injEq] at hd
          obtain ⟨rfl, rfl, rfl⟩ := hd
          have hp : B.pin.length ≤ i := by rw [← S.pn]; exact Nat.le_of_ble_eq_true hsp
          have c1 := hc (decide (lo = 0)) (by simp)
          have c2 := hc (decide (hi ≤ k)) (by simp)
          have c3 := hc (decide (k < lo2)) (by simp)
          have c4 := hc (capOk (hi.toNat + ((r.xs.take hi2.toNat).drop lo2.toNat).length) bytes) (by simp)
          simp only [decide_eq_true_eq] at c1 c2 c3
          subst c1
          subst hsz
          obtain ⟨rr, off, row, es, q1, q2, q3, q4, q5, q6, q7, q8, q9⟩ := S.slot i _ hsl
          simp only [TVR] at hx hy
          obtain ⟨_, b1, b2, hx⟩ := hx
          obtain ⟨_, d1, d2, hy⟩ := hy
          rcases hx with ⟨rr', off', len, e1, e2, ⟨e3, _⟩ | ⟨_, e4, _⟩⟩ | ⟨e1, _⟩
          · rw [q1] at e1
            cases e1
            have hwl : ((row.el.drop off).take r.xs.length).length = r.xs.length := by rw [List.length_take, List.length_drop]; omega
            obtain ⟨G1, G2, eG, f1, f2⟩ := q9.split lo2.toNat
            obtain ⟨F1, F1', eF, f3, f4⟩ := f1.split hi.toNat
            have hN := S.ndN i
            rw [eG, eF] at hN
            have hxlen : (r.xs.take hi.toNat).length = hi.toNat := by rw [List.length_take]; omega
            rw [List.take_take, Nat.min_eq_left (by omega), List.take_take, Nat.min_eq_left (by omega), List.take_set_of_le (by omega), List.take_set_of_le (by omega), List.take_take, Nat.min_eq_left (by omega)] at f3
            rw [List.drop_set_of_lt (by omega), List.drop_set_of_lt (by omega)] at f2
            -- the second part
            obtain ⟨els, Fy, y1, y2, y3, y4⟩ : ∃ els Fy, aels h (aeval env y) = some els ∧ AllF (fun x y G => OwnCs h M.Z .S r.cs x y G) ((r.xs.take hi2.toNat).drop lo2.toNat) els Fy ∧ (∀ x ∈ Fy, x ∈ G2) ∧ Fy.Nodup := by
              have hG2 : G2.Nodup := (List.nodup_append.1 hN).2.1
              rcases hy with ⟨rr', off', len, e1, e2', ⟨e3', _⟩ | ⟨e4, _, f, e5⟩⟩ | ⟨e1, _⟩
              · rw [q1] at e1
                cases e1
                obtain ⟨H1, H2, eH, k1, k2⟩ := f2.split (hi2.toNat - lo2.toNat)
                refine ⟨_, H1, by simp only [e3', aels, q2]; rw [if_pos (by omega)], ?_, fun x hx => by rw [eH]; simp [hx], by rw [eH] at hG2; exact (List.nodup_append.1 hG2).1⟩
                rw [List.drop_take]
                have : List.take (hi2.toNat - lo2.toNat) (List.drop (off + lo2.toNat) row.el) = List.take (hi2.toNat - lo2.toNat) (List.drop lo2.toNat (List.take r.xs.length (List.drop off row.el))) := by
                  rw [List.drop_take, List.drop_drop, List.take_take, Nat.min_eq_left (by omega)]
                rw [this]; exact k1
              · refine ⟨[], [], by simp only [e5, aels], ?_, fun x hx => by simp at hx, List.nodup_nil⟩
                have : (r.xs.take hi2.toNat).drop lo2.toNat = [] := List.drop_eq_nil_of_le (by rw [List.length_take]; omega)
                rw [this]; rfl
              · rw [q1] at e1; cases e1
            have core := app_core (bytes := bytes) (x := x) (y := y) S hsl hp (cs := r.cs) (xs := r.xs.take hi.toNat) (ys := (r.xs.take hi2.toNat).drop lo2.toNat) (els := els) (Fx := F1) (Fy := Fy) (mx := .S) (my := .S)
              (.inr ⟨rr, off, row, by rw [e3, hxlen]; simp, q2, q3, by rw [hxlen]; omega, by rw [hxlen]; exact f3, by rw [q1]; simp [rid]⟩)
              (fun x hx => by rw [eG, eF]; simp [hx]) y1 y2 (fun x hx => .inl (by rw [eG]; exact List.mem_append_right _ (y3 x hx)))
              (List.nodup_append.2 ⟨(List.nodup_append.1 (List.nodup_append.1 hN).1).1, y4, fun x hx z hz e => (List.nodup_append.1 hN).2.2 x (List.mem_append_left _ hx) z (y3 z hz) e⟩) (by rw [hxlen]; exact c4)
            exact core
          · exact absurd rfl e4
          · rw [q1] at e1; cases e1
        · cases hd
      · cases hd
    · cases hd
  · cases hd

/-- Append to a list that lies in an element of row 'i'. -/
theorem app_nest (S : SRel B M env h s) {i : Nat} {r : VRow} (hr : s.row? i = some r) (hnm : r.nm = .S) {k : Int} {off : Nat} {cs2 : List Ty} {zs ys : List (Ty.Ds cs2)} {els : List (List AV)} {Fy : List Nat} {my : NM} {x y : Operand} {bytes : Nat}
    (hx : ∃ r0 o0 len row es, M.α i = .ref r0 o0 len ∧ 0 ≤ k ∧ k < (len : Int) ∧ h.rows r0 = some row ∧ row.el[o0 + k.toNat]? = some es ∧ es[off]? = some (aeval env x)) (hz : (toTVs none 0 r.cs (r.xs.getD k.toNat (Ty.ds0 r.cs)))[off]? = some (.lst cs2 zs))
    (hay : aels h (aeval env y) = some els) (hy : AllF (fun x y G => OwnCs h M.Z my cs2 x y G) ys els Fy) (hFy : Apart B M h Fy) (hyn : Fy.Nodup) (hcap : capOk (zs.length + ys.length) bytes = true) {j : Nat} {s2 : VS}
    (hn : VS.newRow { s.touch i with rows := s.rows.set i (some (.ho k off r)) } ⟨(if hasSl cs2 then NM.S else NM.Z).join my, cs2, zs ++ ys⟩ = (j, s2)) : LoudT B env h (.app cs2.length bytes x y) (.ref j) s2 := by
  obtain ⟨r0, o0, len, row0, es0, x1, x2, x3, x4, x5, x6⟩ := hx
  have hsl := VS.slot_row.1 hr
  have hk : k.toNat < r.xs.length := by
    rcases S.row i r hr with ⟨e, _, _⟩ | ⟨r2, o2, row, e, _⟩
    · rw [e] at x1; cases x1
    · rw [e] at x1; cases x1; omega
  obtain ⟨rr, o, row, es, A, F, C, g1, g2, g3, g4, g5, g6, g7, g8, g9, g10⟩ := S.elem hr hk
  rw [g1] at x1
  cases x1
  rw [g2] at x4
  cases x4
  rw [g5] at x5
  cases x5
  rw [hnm] at g7 g10
  obtain ⟨a, A1, G, C1, b1, rfl, b3, b4⟩ := OwnCs.blank r.cs g7 hz
  rw [x6] at b1
  obtain rfl := Option.some.inj b1
  have hN := S.ndN i
  rw [g8] at hN
  have hN' : (A ++ (A1 ++ C1) ++ C).Nodup ∧ ∀ x ∈ G, x ∉ A ++ (A1 ++ C1) ++ C := by
    have hN2 : (A ++ (A1 ++ G ++ C1) ++ C).Perm (G ++ (A ++ (A1 ++ C1) ++ C)) := by
      have e1 : (A1 ++ G ++ C1).Perm (G ++ (A1 ++ C1)) := by
        rw [List.append_assoc]
        exact (List.perm_append_comm_assoc A1 G C1)
      have e2 : (A ++ (A1 ++ G ++ C1)).Perm (G ++ (A ++ (A1 ++ C1))) := (List.Perm.append_left A e1).trans (List.perm_append_comm_assoc A G _)
      have e3 := e2.append_right C
      rwa [List.append_assoc G] at e3
    have := hN2.nodup_iff.1 hN
    obtain ⟨k1, k2, k3⟩ := List.nodup_append.1 this
    exact ⟨k2, fun x hx hx' => k3 x hx x hx' rfl⟩
  have hGn : G.Nodup := by
    have h1 := (List.nodup_append.1 hN).1
    have h2 := (List.nodup_append.1 h1).2.1
    have h3 := (List.nodup_append.1 h2).1
    exact (List.nodup_append.1 h3).2.1
  have hGN : ∀ x ∈ G, x ∈ M.N i := fun x hx => by rw [g8]; simp [hx]
  have hsubN : ∀ x ∈ A ++ (A1 ++ C1) ++ C, x ∈ M.N i := fun x hx => by
    rw [g8]
    simp only [List.mem_append] at hx ⊢
    rcases hx with (hx | hx | hx) | hx <;> simp [hx]
  have hndi := S.nd i
  unfold fp at hndi
  have S2 := S.setSlot (h' := h) (sl := .ho k off r) (F := A ++ (A1 ++ C1) ++ C) hsl (fun _ _ => rfl) rfl rfl
    (by
      refine ⟨_, _, _, _, g1, g2, g3, g4, x2, by omega, g5, g6, ?_⟩
      exact g10 .S rfl _ _ _ b4)
    (List.nodup_append.2 ⟨(List.nodup_append.1 hndi).1, hN'.1, fun x hx y hy e => (List.nodup_append.1 hndi).2.2 x hx y (hsubN y hy) e⟩) (fun x hx => .inl (hsubN x hx))
  generalize hM2 : ({ M with N := fun j => if j = i then A ++ (A1 ++ C1) ++ C else M.N j } : Mp) = M2 at S2
  generalize hs2 : ({ s.touch i with rows := s.rows.set i (some (.ho k off r)) } : VS) = t at S2 hn
  have hfp2 : ∀ l, fp M2 l = if l = i then rid (M.α i) ++ (A ++ (A1 ++ C1) ++ C) else fp M l := fun l => by
    subst hM2
    unfold fp
    by_cases h : l = i <;> simp [h]
  have hZ2 : M2.Z = M.Z := by subst hM2; rfl
  have sub2 : ∀ l x, x ∈ fp M2 l → x ∈ fp M l := fun l x hx => by
    rw [hfp2] at hx
    split at hx
    · rename_i e
      subst e
      rcases List.mem_append.1 hx with hx | hx
      · exact List.mem_append_left _ hx
      · exact List.mem_append_right _ (hsubN x hx)
    · exact hx
  have hGap : ∀ x ∈ G, (∀ l, x ∉ fp M2 l) ∧ x < h.next ∧ (x ∈ B.F ∨ B.h.next ≤ x) ∧ x ∉ M2.Z := fun x hx => by
    have hxi : x ∈ fp M i := List.mem_append_right _ (hGN x hx)
    refine ⟨fun l hl => ?_, S.lt i x hxi, S.own i x hxi, fun hz => S.zdj x (hZ2 ▸ hz) i hxi⟩
    have hl' := sub2 l x hl
    have := S.dj l i x hl' hxi
    subst this
    rw [hfp2, if_pos rfl] at hl
    rcases List.mem_append.1 hl with hl | hl
    · exact (List.nodup_append.1 hndi).2.2 x hl x (hGN x hx) rfl
    · exact hN'.2 x hx hl
  have hFy2 : Apart B M2 h Fy := fun x hx => ⟨fun l hl => (hFy x hx).1 l (sub2 l x hl), (hFy x hx).2.1, (hFy x hx).2.2.1, by rw [hZ2]; exact (hFy x hx).2.2.2⟩
  have hall := OwnCs.all_len hy
  have hylen := hy.len
  obtain ⟨n1, n2⟩ := newRow_slot? t ⟨(if hasSl cs2 then NM.S else NM.Z).join my, cs2, zs ++ ys⟩
  rw [hn] at n1 n2
  simp only at n1 n2
  have hkeep : s2.env = t.env ∧ s2.boxes = t.boxes ∧ s2.gds = t.gds ∧ s2.pn = t.pn := by
    have : s2 = (VS.newRow t ⟨(if hasSl cs2 then NM.S else NM.Z).join my, cs2, zs ++ ys⟩).2 := by rw [hn]
    subst this
    exact ⟨rfl, rfl, rfl, rfl⟩
  simp only [capOk, decide_eq_true_eq] at hcap
  have hYm : AllF (fun x y G => OwnCs h M2.Z ((if hasSl cs2 then NM.S else NM.Z).join my) cs2 x y G) ys els Fy := by
    rw [hZ2]; exact hy.mono fun a b G _ => OwnCs.mode (NM.ok_join_r _ _) cs2
  simp only [OwnC] at b3
  rcases b3 with ⟨e1, rfl, rfl⟩ | ⟨e1, _⟩ | ⟨_, r1, o1, row1, N1, e1, e2, e3, e4, e5, rfl⟩
  · by_cases hys : els = []
    · subst hys
      have hyz : ys = [] := by cases ys with
        | nil => rfl
        | cons => simp at hylen
      subst hyz
      obtain rfl := hy.nil_left.2
      refine ⟨M2.add j .nils [], .nils, h, by simp only [adet, hay, hall, if_true, e1], S2.addRow (S2.not_lv n1) (fun _ _ _ => rfl) (fun _ _ => rfl) (fun x hx => by simp [rid] at hx) (fun _ _ _ => rfl) (fun x hx => by simp [rid] at hx) rfl (Nat.le_refl _) (.inl ⟨rfl, rfl, rfl⟩) (by simp [rid]) (fun x hx => by simp at hx) (fun x hx => by simp [rid] at hx) hkeep.1 hkeep.2.1 hkeep.2.2.1 hkeep.2.2.2 n2, ?_⟩
      simp only [TVR, Mp.add, if_true]
      exact ⟨trivial, trivial⟩
    · obtain ⟨M3, q1, q2⟩ := S2.newRow (m := (if hasSl cs2 then NM.S else NM.Z).join my) hYm hFy2 hyn
      have hnn : VS.newRow t ⟨(if hasSl cs2 then NM.S else NM.Z).join my, cs2, ys⟩ = (j, s2) := hn
      rw [hnn] at q1 q2
      refine ⟨M3, .ref h.next 0 els.length, _, ?_, q1, by rw [← hylen]; exact q2⟩
      simp only [adet, hay, hall, if_true, e1]
      rw [if_neg hys, if_pos (by rw [← hylen]; simpa using hcap)]
  · simp at e1
  · obtain ⟨N2, u1, u2, u3⟩ := modeOf e5
    have hr1 := hGap r1 List.mem_cons_self
    have hN1 : ∀ x ∈ N2, x ∈ r1 :: N1 := fun x hx => List.mem_cons_of_mem _ (u2 x hx)
    obtain ⟨v1, v2⟩ := List.nodup_cons.1 hGn
    have hXm : AllF (fun x y G => OwnCs h M2.Z ((if hasSl cs2 then NM.S else NM.Z).join my) cs2 x y G) zs ((row1.el.drop o1).take zs.length) N2 := by
      rw [hZ2]; exact u1.mono fun a b G _ => OwnCs.mode (NM.ok_join_l _ _) cs2
    have hap : Apart B M2 h (N2 ++ Fy) := fun x hx => by
      rcases List.mem_append.1 hx with hx | hx
      · exact hGap x (hN1 x hx)
      · exact hFy2 x hx
    have hne1 : ∀ x ∈ N2 ++ Fy, x ≠ r1 := fun x hx e => by
      subst e
      rcases List.mem_append.1 hx with hx | hx
      · exact v1 (u2 _ hx)
      · exact (hFy _ hx).1 i (List.mem_append_right _ (hGN _ List.mem_cons_self))
    have hnd : (N2 ++ Fy).Nodup := List.nodup_append.2 ⟨u3 v2, hyn, fun x hx y hy e => by
      subst e
      exact (hFy x hy).1 i (List.mem_append_right _ (hGN x (hN1 x hx)))⟩
    have hsame : ∀ x, x ≠ r1 → x ≠ h.next → (upd (upd h.rows r1 none) h.next (some ⟨cs2.length, (row1.el.drop o1).take zs.length ++ els⟩)) x = h.rows x := fun x h1 h2 => by rw [upd_ne _ _ _ _ h2, upd_ne _ _ _ _ h1]
    have hzs : ∀ x ∈ M2.Z, (upd (upd h.rows r1 none) h.next (some ⟨cs2.length, (row1.el.drop o1).take zs.length ++ els⟩)) x = h.rows x := fun x hx => hsame x (fun e => hr1.2.2.2 (e ▸ hx)) (by have := S2.zlt x hx; omega)
    refine ⟨M2.add j (.ref h.next 0 (zs ++ ys).length) (N2 ++ Fy), .ref h.next 0 (zs.length + els.length), { h with rows := upd (upd h.rows r1 none) h.next (some ⟨cs2.length, (row1.el.drop o1).take zs.length ++ els⟩), next := h.next + 1 }, ?_,
      S2.addRow (S2.not_lv n1) (fun l x hx => hsame x (fun e => hr1.1 l (e ▸ hx)) (by have := S2.lt l x hx; omega)) hzs (fun x hx hz => ?_) (fun x hx hxB => hsame x (fun e => ?_) (by have := S.nx; omega)) (fun x hx l hl => ?_) rfl (Nat.le_succ _) ?_ ?_ (fun x hx => ⟨Nat.lt_succ_of_lt (hap x hx).2.1, (hap x hx).1, (hap x hx).2.2.1⟩) (fun x hx => ?_) hkeep.1 hkeep.2.1 hkeep.2.2.1 hkeep.2.2.2 n2, ?_⟩
    · simp only [adet, hay, hall, if_true, e1, e2]
      rw [if_pos ⟨e3, e4, by rw [← hylen]; exact hcap⟩]
    · rcases List.mem_append.1 hx with hx | hx
      · simp [rid] at hx
        subst hx
        have := S2.zlt _ hz; omega
      · exact (hap x hx).2.2.2 hz
    · subst e
      rcases hr1.2.2.1 with h3 | h3
      · exact hxB h3
      · omega
    · simp [rid] at hx
      subst hx
      have := S2.lt l _ hl; omega
    · refine .inr ⟨h.next, 0, ⟨cs2.length, (row1.el.drop o1).take zs.length ++ els⟩, rfl, upd_same _ _ _, rfl, by simp only [Nat.zero_add]; rw [(hXm.append hYm).len]; exact Nat.le_refl _, ?_⟩
      simp only [List.drop_zero]
      rw [(hXm.append hYm).len, List.take_length]
      exact (hXm.append hYm).mono fun a b G hG => OwnCs.heap (fun x hx => ⟨hx, hzs x hx⟩) cs2 fun x hx => hsame x (hne1 x (hG x hx)) (by have := (hap x (hG x hx)).2.1; omega)
    · refine List.nodup_append.2 ⟨by simp [rid], hnd, fun x hx y hy e => ?_⟩
      simp [rid] at hx
      subst hx; subst e
      have := (hap _ hy).2.1; omega
    · simp [rid] at hx
      subst hx
      exact ⟨Nat.lt_succ_self _, .inr S.nx⟩
    · simp only [TVR, Mp.add, if_true, hylen, List.length_append]
      exact ⟨trivial, trivial⟩

theorem loud_app (S : SRel B M env h s) {an : List (Nat × An)} {dst : Option Tmp} {sz bytes : Nat} {x y : Operand} {c : List Bool} {v : TV} {s1 : VS} (hd : vdet an s none dst (.app sz bytes x y) = .ok c v s1) (hc : ∀ b ∈ c, b = true) :
    LoudT B env h (.app sz bytes x y) v s1 := by
  simp only [vdet] at hd
  split at hd
  · rename_i r hho
    subst hd
    exact appHo_ok S hho hc
  have hx := S.ev (g := none) trivial x
  have hy := S.ev (g := none) trivial y
  split at hd
  · cases hd
  · rename_i vy hnn
    split at hd
    · rename_i ly hly
      split at hd
      · rename_i hsz
        simp only [beq_iff_eq] at hsz
        subst hsz
        split at hd
        · rename_i hvx
          rw [hvx] at hx
          simp only [TVR] at hx
          split at hd
          · rename_i s2 m htk
            simp only [VO.ok.injEq] at hd
            obtain ⟨rfl, rfl, rfl⟩ := hd
            simp only [List.mem_singleton, forall_eq, capOk, decide_eq_true_eq] at hc
            obtain ⟨M1, els, F, S1, D1, h1, h2, h3, h4⟩ := take_ok S htk hy hly
            have hlen := h2.len
            have hall := OwnCs.all_len h2
            refine LoudT.fix ?_
            by_cases he : els = []
            · subst he
              obtain ⟨k1, k2⟩ := newRow_slot? s2 ⟨m, ly.cs, ly.xs⟩
              have hz : ly.xs = [] := by cases hxs : ly.xs with
                | nil => rfl
                | cons => rw [hxs] at hlen; simp at hlen
              refine ⟨M1.add _ .nils [], .nils, h, by simp only [adet, h1, hall, if_true, hx], S1.addRow (S1.not_lv k1) (fun _ _ _ => rfl) (fun _ _ => rfl) (fun x hx => by simp [rid] at hx) (fun _ _ _ => rfl) (fun x hx => by simp [rid] at hx) rfl (Nat.le_refl _) (.inl ⟨rfl, hz, rfl⟩) (by simp [rid]) (fun x hx => by simp at hx) (fun x hx => by simp [rid] at hx) rfl rfl rfl rfl k2, ?_⟩
              simp only [TVR, Mp.add, if_true]
              exact ⟨trivial, trivial⟩
            · obtain ⟨M2, q1, q2⟩ := S1.newRow h2 h3 h4
              refine ⟨M2, .ref h.next 0 els.length, _, ?_, q1, by rw [← hlen]; exact q2⟩
              simp only [adet, h1, hall, if_true, hx]
              rw [if_neg he, if_pos (by rw [← hlen]; exact hc)]
          · cases hd
        · rename_i i hvx
          rw [hvx] at hx
          simp only [TVR] at hx
          split at hd
          · rename_i s2 m htk
            split at hd
            · rename_i r hr
              split at hd
              · rename_i ys hcl
                simp only [VO.ok.injEq] at hd
                obtain ⟨rfl, rfl, rfl⟩ := hd
                simp only [List.mem_singleton, forall_eq] at hc
                obtain ⟨M1, els, F, S1, D1, h1, h2, h3, h4⟩ := take_ok S htk hy hly
                have hp := S1.ge hr
                have hr1 := (VS.mine_eq hr).1
                obtain ⟨_, e1, _, _⟩ := D1.keep i (S1.live hr1)
                obtain ⟨lcs, lxs, lnm, lsrc⟩ := ly
                obtain ⟨e, rfl⟩ := castL_ok hcl
                simp only at e h2 hc ⊢
                subst e
                have hNnd := S1.ndN i
                refine LoudT.fix ?_
                rcases S1.row i r hr1 with ⟨k1, k2, k3⟩ | ⟨rr, off, row, k1, k2, k3, k4, k5⟩
                · exact app_core S1 (VS.slot_row.1 hr1) hp (Fx := []) (mx := if hasSl r.cs then r.nm else .Z) (.inl ⟨by rw [hx.2, ← e1, k1], k2, rfl⟩) (fun x hx => by simp at hx) h1 h2 (fun x hx => .inr (h3 x hx)) h4 hc
                · obtain ⟨F', g1, g2, g3⟩ := modeOf k5
                  exact app_core S1 (VS.slot_row.1 hr1) hp (Fx := F') (.inr ⟨rr, off, row, by rw [hx.2, ← e1, k1], k2, k3, k4, g1, by rw [k1]; simp [rid]⟩) g2 h1 h2 (fun x hx => .inr (h3 x hx)) (List.nodup_append.2 ⟨g3 hNnd, h4, fun x hx y hy e => by subst e; exact (h3 x hy).1 i (List.mem_append_right _ (g2 x hx))⟩) hc
              · cases hd
            · cases hd
          · cases hd
        · rename_i i lo hi hvx
          rw [hvx] at hx
          simp only [TVR] at hx
          split at hd
          · rename_i s2 m htk
            split at hd
            · rename_i r hr
              split at hd
              · rename_i ys hcl
                simp only [VO.ok.injEq] at hd
                obtain ⟨rfl, rfl, rfl⟩ := hd
                have hlo := hc (decide (lo = 0)) (by simp)
                simp only [decide_eq_true_eq] at hlo
                have hcap := hc (capOk (hi.toNat + ys.length) bytes) (by simp)
                obtain ⟨M1, els, F, S1, D1, h1, h2, h3, h4⟩ := take_ok S htk hy hly
                have hp := S1.ge hr
                have hr1 := (VS.mine_eq hr).1
                obtain ⟨_, e1, _, _⟩ := D1.keep i (S1.live hr1)
                obtain ⟨lcs, lxs, lnm, lsrc⟩ := ly
                obtain ⟨e, rfl⟩ := castL_ok hcl
                simp only at e h2 hcap ⊢
                subst e
                subst hlo
                obtain ⟨_, b1, b2, hx⟩ := hx
                have hNnd := S1.ndN i
                refine LoudT.fix ?_
                rcases S1.row i r hr1 with ⟨k1, k2, k3⟩ | ⟨rr, off, row, k1, k2, k3, k4, k5⟩
                · rcases hx with ⟨rr, off, len, q1, _⟩ | ⟨q1, _, rfl, q2⟩
                  · rw [e1, q1] at k1; cases k1
                  · have hz : r.xs.take (0 : Int).toNat = [] := by simp
                    have hlen0 : (r.xs.take (0 : Int).toNat).length = (0 : Int).toNat := by rw [hz]; rfl
                    exact app_core S1 (VS.slot_row.1 hr1) hp (xs := r.xs.take (0 : Int).toNat) (Fx := []) (mx := if hasSl r.cs then r.nm else .Z) (.inl ⟨q2, hz, rfl⟩) (fun x hx => by simp at hx) h1 h2 (fun x hx => .inr (h3 x hx)) h4 (by rw [hlen0]; exact hcap)
                · rcases hx with ⟨rr', off', len, q1, q2, ⟨q3, q4⟩ | ⟨q3, q4, _⟩⟩ | ⟨q1, _, _, _⟩
                  · rw [← e1, k1] at q1
                    cases q1
                    obtain ⟨F1, F2, f0, f1, f2⟩ := k5.split hi.toNat
                    obtain ⟨F', g1, g2, g3⟩ := modeOf f1
                    have hlen : (r.xs.take hi.toNat).length = hi.toNat := by rw [List.length_take]; omega
                    have hN1 : F1.Nodup := by rw [f0] at hNnd; exact (List.nodup_append.1 hNnd).1
                    have hF' : ∀ x ∈ F', x ∈ M1.N i := fun x hx => by rw [f0]; exact List.mem_append_left _ (g2 x hx)
                    refine app_core S1 (VS.slot_row.1 hr1) hp (xs := r.xs.take hi.toNat) (Fx := F') (.inr ⟨rr, off, row, ?_, k2, k3, by rw [hlen]; omega, ?_, by rw [k1]; simp [rid]⟩) hF' h1 h2 (fun x hx => .inr (h3 x hx)) (List.nodup_append.2 ⟨g3 hN1, h4, fun x hx y hy e => by subst e; exact (h3 x hy).1 i (List.mem_append_right _ (hF' x hx))⟩) (by rw [hlen]; exact hcap)
                    · rw [q3, hlen]; simp
                    · rw [hlen]
                      rw [List.take_take, Nat.min_eq_left (by omega)] at g1
                      exact g1
                  · exact absurd rfl q4
                  · rw [← e1, k1] at q1; cases q1
              · cases hd
            · cases hd
          · cases hd
        · rename_i i k off cs' xs' hvx
          rw [hvx] at hx
          simp only [TVR] at hx
          split at hd
          · rename_i s2 m htk
            split at hd
            · rename_i r hr1
              split at hd
              · rename_i hnm
                split at hd
                · rename_i cs2 zs hz
                  split at hd
                  · rename_i ys hcl
                    simp only [VO.ok.injEq] at hd
                    obtain ⟨rfl, rfl, rfl⟩ := hd
                    simp only [List.mem_singleton, forall_eq] at hc
                    obtain ⟨M1, els, F, S1, D1, h1, h2, h3, h4⟩ := take_ok S htk hy hly
                    obtain ⟨_, e1, _, _⟩ := D1.keep i (S1.live hr1)
                    obtain ⟨lcs, lxs, lnm, lsrc⟩ := ly
                    obtain ⟨e, rfl⟩ := castL_ok hcl
                    simp only at e h2 hc ⊢
                    subst e
                    refine LoudT.fix ?_
                    exact app_nest S1 hr1 hnm (by rw [e1]; exact hx.2.2 k off rfl) hz h1 h2 h3 h4 hc rfl
                  · cases hd
                · cases hd
              · cases hd
            · cases hd
          · cases hd
        · cases hd
      · cases hd
    · cases hd

theorem LoudT.fixI {op : AOp} {i : Nat} {s1 : VS} {k : IntKind} {n : Int} (H : LoudT B env h op (.int k n) s1) : LoudT B env h op (.int k n) (s1.fixA i) := by
  obtain ⟨M', r, h', h1, h2, h3⟩ := H
  obtain ⟨M2, q1, _, q2⟩ := h2.fixA' i
  exact ⟨M2, r, h', h1, q1, q2 _ _ _ h3⟩
theorem loud_cpy (S : SRel B M env h s) {an : List (Nat × An)} {dst : Option Tmp} {sz : Nat} {x y : Operand} {c : List Bool} {v : TV} {s1 : VS} (hd : vdet an s none dst (.cpy sz x y) = .ok c v s1) : LoudT B env h (.cpy sz x y) v s1 := by
  simp only [vdet] at hd
  have hx := S.ev (g := none) trivial x
  have hy := S.ev (g := none) trivial y
  split at hd
  · cases hd
  · rename_i vy hnn
    split at hd
    · rename_i ly hly
      split at hd
      · rename_i hsz
        simp only [beq_iff_eq] at hsz
        subst hsz
        split at hd
        · rename_i hvx
          rw [hvx] at hx
          simp only [TVR] at hx
          simp only [VO.ok.injEq] at hd
          obtain ⟨_, rfl, rfl⟩ := hd
          obtain ⟨els, F, h1, h2, _⟩ := S.list hy hly
          exact ⟨M, .int .i64 0, h, by simp only [adet, h1, OwnCs.all_len h2, if_true, hx], S, by simp only [TVR]⟩
        · rename_i i hvx
          rw [hvx] at hx
          simp only [TVR] at hx
          split at hd
          · rename_i s2 m htk
            split at hd
            · rename_i r hr1
              split at hd
              · rename_i ys hcl
                simp only [VO.ok.injEq] at hd
                obtain ⟨_, rfl, rfl⟩ := hd
                obtain ⟨M1, els, F, S1, D1, h1, h2, h3, h4⟩ := take_ok S htk hy hly
                obtain ⟨_, e1, _, _⟩ := D1.keep i (S1.live hr1)
                obtain ⟨lcs, lxs, lnm, lsrc⟩ := ly
                obtain ⟨e, rfl⟩ := castL_ok hcl
                simp only at e h2 ⊢
                subst e
                have hsl1 := VS.slot_row.1 hr1
                refine LoudT.fixI (i := i) ?_
                have hylen := h2.len
                have hall := OwnCs.all_len h2
                have hnd := S1.nd i
                unfold fp at hnd
                obtain ⟨n1, n2, n3⟩ := List.nodup_append.1 hnd
                rcases S1.row i r hr1 with ⟨k1, k2, k3⟩ | ⟨rr, off, row, k1, k2, k3, k4, k5⟩
                · have hz : min lxs.length r.xs.length = 0 := by rw [k2]; simp
                  refine ⟨_, .int .i64 0, h, by simp only [adet, h1, hall, if_true, hx.2, ← e1, k1], S1.setSlot' (h' := h) (F := []) hsl1 (fun _ _ => rfl) rfl rfl (.inl ⟨k1, ?_, rfl⟩) (by rw [k1]; simp [rid]) (fun x hx => by simp at hx), by simp only [TVR]; rw [hz]; rfl⟩
                  simp only
                  rw [hz, k2]; simp
                · have hm1 : min lxs.length r.xs.length ≤ lxs.length := Nat.min_le_left _ _
                  have hm2 : min lxs.length r.xs.length ≤ r.xs.length := Nat.min_le_right _ _
                  have hmn : min els.length r.xs.length = min lxs.length r.xs.length := by rw [hylen]
                  generalize hn : min lxs.length r.xs.length = n at *
                  obtain ⟨F1, F2, f0, f1, f2⟩ := h2.split n
                  obtain ⟨G1, G2, g0, g1, g2⟩ := k5.split n
                  have hlen' : (lxs.take n ++ r.xs.drop n).length = r.xs.length := by rw [List.length_append, List.length_take, List.length_drop]; omega
                  have hnewlen : (row.el.take off ++ els.take n ++ row.el.drop (off + n)).length = row.el.length := by
                    simp only [List.length_append, List.length_take, List.length_drop]; omega
                  have hwin : (((row.el.take off ++ els.take n ++ row.el.drop (off + n)).drop off).take r.xs.length) = els.take n ++ ((row.el.drop off).take r.xs.length).drop n := by
                    rw [List.append_assoc, List.drop_append_of_le_length (by rw [List.length_take]; omega), List.drop_take, Nat.sub_self, List.take_zero, List.nil_append, List.take_append, List.length_take, Nat.min_eq_left (by omega), List.take_of_length_le (by rw [List.length_take]; omega), List.drop_take, List.drop_drop]
                  have hridrr : rid (M1.α i) = [rr] := by rw [k1]; rfl
                  have hFin : ∀ x ∈ F1 ++ G2, x ∈ F ∨ x ∈ M1.N i := fun x hx => by
                    rcases List.mem_append.1 hx with hx | hx
                    · exact .inl (by rw [f0]; simp [hx])
                    · exact .inr (by rw [g0]; simp [hx])
                  have hrrN : ∀ x ∈ F1 ++ G2, x ≠ rr := fun x hx e => by
                    subst e
                    rcases hFin x hx with hx | hx
                    · exact (h3 x hx).1 i (List.mem_append_left _ (by rw [hridrr]; simp))
                    · exact n3 x (by rw [hridrr]; simp) x hx rfl
                  let h' : Heap := { h with rows := upd h.rows rr (some ⟨r.cs.length, row.el.take off ++ els.take n ++ row.el.drop (off + n)⟩) }
                  have hzz : ZUp h M1.Z h' M1.Z := fun x hx => ⟨hx, by
                    have hne : x ≠ rr := fun e => S1.zdj x hx i (by unfold fp; rw [hridrr, e]; simp)
                    simp [h', upd, hne]⟩
                  refine ⟨_, .int .i64 (n : Nat), h', ?_, S1.setSlot' (h' := h') (F := F1 ++ G2) hsl1 (fun x hx => ?_) rfl rfl (.inr ⟨rr, off, ⟨r.cs.length, row.el.take off ++ els.take n ++ row.el.drop (off + n)⟩, by rw [k1, hlen'], upd_same _ _ _, rfl, ?_, ?_⟩) ?_ (fun x hx => ?_), by simp only [TVR]⟩
                  · simp only [adet, h1, hall, if_true, hx.2, ← e1, k1, k2]
                    rw [if_pos ⟨k3, k4⟩]
                    simp only [hmn]
                    rfl
                  · rw [hridrr] at hx
                    simp at hx
                    simp [h', upd, hx]
                  · simp only [hlen', hnewlen]; exact k4
                  · rw [hlen']
                    simp only
                    rw [hwin]
                    have a1 : AllF (fun x y G => OwnCs h' M1.Z (r.nm.join m) r.cs x y G) (lxs.take n) (els.take n) F1 := f1.mono fun a b G hG => fun H => OwnCs.heap hzz r.cs (fun x hx => by simp [h', upd, hrrN x (List.mem_append_left _ (hG x hx))]) (OwnCs.mode (NM.ok_join_r _ _) r.cs H)
                    have a2 : AllF (fun x y G => OwnCs h' M1.Z (r.nm.join m) r.cs x y G) (r.xs.drop n) (((row.el.drop off).take r.xs.length).drop n) G2 := g2.mono fun a b G hG => fun H => OwnCs.heap hzz r.cs (fun x hx => by simp [h', upd, hrrN x (List.mem_append_right _ (hG x hx))]) (OwnCs.mode (NM.ok_join_l _ _) r.cs H)
                    exact a1.append a2
                  · refine List.nodup_append.2 ⟨by rw [hridrr]; simp, List.nodup_append.2 ⟨?_, ?_, fun x hx y hy e => ?_⟩, fun x hx y hy e => ?_⟩
                    · rw [f0] at h4; exact (List.nodup_append.1 h4).1
                    · rw [g0] at n2; exact (List.nodup_append.1 n2).2.1
                    · subst e
                      exact (h3 x (by rw [f0]; simp [hx])).1 i (List.mem_append_right _ (by rw [g0]; simp [hy]))
                    · rw [hridrr] at hx
                      simp at hx
                      subst hx; subst e
                      exact hrrN _ hy rfl
                  · rcases hFin x hx with h6 | h6
                    · exact .inr (h3 x h6)
                    · exact .inl h6
              · cases hd
            · cases hd
          · cases hd
        · cases hd
      · cases hd
    · cases hd

/-- **WHAT AN OPERATION YIELDS.** -/
theorem vdet_ok (S : SRel B M env h s) {an : List (Nat × An)} {dst : Option Tmp} {op : AOp} {c : List Bool} {v : TV} {s1 : VS} (hd : vdet an s none dst op = .ok c v s1) (hc : ∀ b ∈ c, b = true) : LoudT B env h op v s1 := by
  cases hq : quietB op with
  | true =>
    obtain ⟨rfl, r, h1, h2⟩ := vdet_quiet S (g := none) trivial hq hd hc
    exact ⟨M, r, h, h1, S, h2⟩
  | false =>
    cases op <;> simp only [quietB, Bool.true_eq_false] at hq
    case alloc => exact loud_alloc S hd
    case box => exact loud_box S hd
    case bslice => exact loud_bslice S hd
    case store => exact loud_store S hd hc
    case mks => exact loud_mks S hd hc
    case app => exact loud_app S hd hc
    case cpy => exact loud_cpy S hd
    case call => simp only [vdet, reduceCtorEq] at hd
    case callv => simp only [vdet, reduceCtorEq] at hd
end
end Go.PA
