/- Typed values: append and copy; all operations together. No condition. -/
import Derived.Test.YtnbhalhlodnmpaaV11
namespace Go.PA
section
variable {B : Bg} {M : Mp} {env : List AV} {h : Heap} {s : VS}

theorem modeOf {m : NM} {cs : List Ty} {xs : List (Ty.Ds cs)} {els : List (List AV)} {F : List Nat} (H : AllF (fun x y G => OwnCs h m cs x y G) xs els F) : ∃ F', AllF (fun x y G => OwnCs h (if hasSl cs then m else .Z) cs x y G) xs els F' ∧ (∀ x ∈ F', x ∈ F) ∧ (F.Nodup → F'.Nodup) := by
  cases hf : hasSl cs with
  | true => exact ⟨F, by simpa using H, fun _ h => h, fun h => h⟩
  | false => exact ⟨[], by simpa using (OwnCs.toZ hf H .Z).2, fun x h => by simp at h, fun _ => List.nodup_nil⟩

theorem loud_app (S : SRel B M env h s) {an : List (Nat × An)} {dst : Option Tmp} {sz bytes : Nat} {x y : Operand} {c : List Bool} {v : TV} {s1 : VS} (hd : vdet an s none dst (.app sz bytes x y) = .ok c v s1) (hc : ∀ b ∈ c, b = true) :
    LoudT B env h (.app sz bytes x y) v s1 := by
  simp only [vdet] at hd
  have hx := S.ev (g := none) trivial x
  have hy := S.ev (g := none) trivial y
  split at hd
  · cases hd
  · rename_i vy hnn
    split at hd
    · rename_i ly hly
      split at hd
      · rename_i hsz
        simp only [beq_iff_eq] at hsz
        subst hsz
        split at hd
        · rename_i hvx
          rw [hvx] at hx
          simp only [TVR] at hx
          split at hd
          · rename_i s2 htk
            simp only [VO.ok.injEq] at hd
            obtain ⟨rfl, rfl, rfl⟩ := hd
            simp only [List.mem_singleton, forall_eq, capOk, decide_eq_true_eq] at hc
            obtain ⟨M1, els, F, S1, D1, h1, h2, h3, h4, _⟩ := take_ok S htk hy hly
            have hlen := h2.len
            have hall := OwnCs.all_len h2
            by_cases he : els = []
            · subst he
              obtain ⟨k1, k2⟩ := newRow_row? s2 ⟨ly.nm, ly.cs, ly.xs⟩
              have hz : ly.xs = [] := by cases hxs : ly.xs with
                | nil => rfl
                | cons => rw [hxs] at hlen; simp at hlen
              refine ⟨M1.add _ .nils [], .nils, h, by simp only [adet, h1, hall, if_true, hx], S1.addRow (S1.not_lv k1) (fun _ _ _ => rfl) (fun _ _ _ => rfl) (fun x hx => by simp [rid] at hx) rfl (Nat.le_refl _) (.inl ⟨rfl, hz, rfl⟩) (by simp [rid]) (fun x hx => by simp at hx) (fun x hx => by simp [rid] at hx) rfl rfl rfl k2, ?_⟩
              simp only [TVR, Mp.add, if_true]
              exact ⟨trivial, trivial⟩
            · obtain ⟨M2, q1, q2⟩ := S1.newRow h2 h3 h4
              refine ⟨M2, .ref h.next 0 els.length, _, ?_, q1, by rw [← hlen]; exact q2⟩
              simp only [adet, h1, hall, if_true, hx]
              rw [if_neg he, if_pos (by rw [← hlen]; exact hc)]
          · cases hd
        · rename_i i hvx
          rw [hvx] at hx
          simp only [TVR] at hx
          split at hd
          · rename_i r hr
            split at hd
            · rename_i ys hcl
              split at hd
              · rename_i s2 htk
                simp only [VO.ok.injEq] at hd
                obtain ⟨rfl, rfl, rfl⟩ := hd
                simp only [List.mem_singleton, forall_eq] at hc
                obtain ⟨M1, els, F, S1, D1, h1, h2, h3, h4, h5⟩ := take_ok S htk hy hly
                have hr1 := h5 i r rfl hr
                obtain ⟨_, e1, e2, _⟩ := D1.keep i (S1.live hr1)
                obtain ⟨lcs, lxs, lnm, lsrc⟩ := ly
                obtain ⟨e, rfl⟩ := castL_ok hcl
                simp only at e h2 hc ⊢
                subst e
                have hNnd : (M1.N i).Nodup := by
                  have := S1.nd i
                  unfold fp at this
                  exact (List.nodup_append.1 this).2.1
                rcases S1.row i r hr1 with ⟨k1, k2, k3⟩ | ⟨rr, off, row, k1, k2, k3, k4, k5⟩
                · exact app_core S1 hr1 (Fx := []) (mx := if hasSl r.cs then r.nm else .Z) (.inl ⟨by rw [hx.2, ← e1, k1], k2, rfl⟩) (fun x hx => by simp at hx) List.nodup_nil h1 h2 h3 h4 hc
                · obtain ⟨F', g1, g2, g3⟩ := modeOf k5
                  exact app_core S1 hr1 (Fx := F') (.inr ⟨rr, off, row, by rw [hx.2, ← e1, k1], k2, k3, k4, g1, by rw [k1]; simp [rid]⟩) g2 (g3 hNnd) h1 h2 h3 h4 hc
              · cases hd
            · cases hd
          · cases hd
        · rename_i i lo hi hvx
          rw [hvx] at hx
          simp only [TVR] at hx
          split at hd
          · rename_i r hr
            split at hd
            · rename_i ys hcl
              split at hd
              · rename_i s2 htk
                simp only [VO.ok.injEq] at hd
                obtain ⟨rfl, rfl, rfl⟩ := hd
                have hlo := hc (decide (lo = 0)) (by simp)
                simp only [decide_eq_true_eq] at hlo
                have hcap := hc (capOk (hi.toNat + ys.length) bytes) (by simp)
                obtain ⟨M1, els, F, S1, D1, h1, h2, h3, h4, h5⟩ := take_ok S htk hy hly
                have hr1 := h5 i r rfl hr
                obtain ⟨_, e1, e2, _⟩ := D1.keep i (S1.live hr1)
                obtain ⟨lcs, lxs, lnm, lsrc⟩ := ly
                obtain ⟨e, rfl⟩ := castL_ok hcl
                simp only at e h2 hcap ⊢
                subst e
                subst hlo
                obtain ⟨_, b1, b2, hx⟩ := hx
                have hNnd : (M1.N i).Nodup := by
                  have := S1.nd i
                  unfold fp at this
                  exact (List.nodup_append.1 this).2.1
                rcases S1.row i r hr1 with ⟨k1, k2, k3⟩ | ⟨rr, off, row, k1, k2, k3, k4, k5⟩
                · rcases hx with ⟨rr, off, len, q1, _⟩ | ⟨q1, _, rfl, q2⟩
                  · rw [e1, q1] at k1; cases k1
                  · have hz : r.xs.take (0 : Int).toNat = [] := by simp
                    have hlen0 : (r.xs.take (0 : Int).toNat).length = (0 : Int).toNat := by rw [hz]; rfl
                    exact app_core S1 hr1 (xs := r.xs.take (0 : Int).toNat) (Fx := []) (mx := if hasSl r.cs then r.nm else .Z) (.inl ⟨q2, hz, rfl⟩) (fun x hx => by simp at hx) List.nodup_nil h1 h2 h3 h4 (by rw [hlen0]; exact hcap)
                · rcases hx with ⟨rr', off', len, q1, q2, ⟨q3, q4⟩ | ⟨q3, q4, _⟩⟩ | ⟨q1, _, _, _⟩
                  · rw [← e1, k1] at q1
                    cases q1
                    obtain ⟨F1, F2, f0, f1, f2⟩ := k5.split hi.toNat
                    obtain ⟨F', g1, g2, g3⟩ := modeOf f1
                    have hlen : (r.xs.take hi.toNat).length = hi.toNat := by rw [List.length_take]; omega
                    have hN1 : F1.Nodup := by rw [f0] at hNnd; exact (List.nodup_append.1 hNnd).1
                    refine app_core S1 hr1 (xs := r.xs.take hi.toNat) (Fx := F') (.inr ⟨rr, off, row, ?_, k2, k3, by rw [hlen]; omega, ?_, by rw [k1]; simp [rid]⟩) (fun x hx => by rw [f0]; exact List.mem_append_left _ (g2 x hx)) (g3 hN1) h1 h2 h3 h4 (by rw [hlen]; exact hcap)
                    · rw [q3, hlen]; simp
                    · rw [hlen]
                      rw [List.take_take, Nat.min_eq_left (by omega)] at g1
                      exact g1
                  · exact absurd rfl q4
                  · rw [← e1, k1] at q1; cases q1
              · cases hd
            · cases hd
          · cases hd
        · cases hd
      · cases hd
    · cases hd

theorem loud_cpy (S : SRel B M env h s) {an : List (Nat × An)} {dst : Option Tmp} {sz : Nat} {x y : Operand} {c : List Bool} {v : TV} {s1 : VS} (hd : vdet an s none dst (.cpy sz x y) = .ok c v s1) : LoudT B env h (.cpy sz x y) v s1 := by
  simp only [vdet] at hd
  have hx := S.ev (g := none) trivial x
  have hy := S.ev (g := none) trivial y
  split at hd
  · cases hd
  · rename_i vy hnn
    split at hd
    · rename_i ly hly
      split at hd
      · rename_i hsz
        simp only [beq_iff_eq] at hsz
        subst hsz
        split at hd
        · rename_i hvx
          rw [hvx] at hx
          simp only [TVR] at hx
          simp only [VO.ok.injEq] at hd
          obtain ⟨_, rfl, rfl⟩ := hd
          obtain ⟨els, F, h1, h2, _⟩ := S.list hy hly
          exact ⟨M, .int .i64 0, h, by simp only [adet, h1, OwnCs.all_len h2, if_true, hx], S, by simp only [TVR]⟩
        · rename_i i hvx
          rw [hvx] at hx
          simp only [TVR] at hx
          split at hd
          · rename_i r hr
            split at hd
            · rename_i ys hcl
              split at hd
              · rename_i s2 htk
                simp only [VO.ok.injEq] at hd
                obtain ⟨_, rfl, rfl⟩ := hd
                obtain ⟨M1, els, F, S1, D1, h1, h2, h3, h4, h5⟩ := take_ok S htk hy hly
                have hr1 := h5 i r rfl hr
                obtain ⟨_, e1, e2, _⟩ := D1.keep i (S1.live hr1)
                obtain ⟨lcs, lxs, lnm, lsrc⟩ := ly
                obtain ⟨e, rfl⟩ := castL_ok hcl
                simp only at e h2 ⊢
                subst e
                have hylen := h2.len
                have hall := OwnCs.all_len h2
                have hnd := S1.nd i
                unfold fp at hnd
                obtain ⟨n1, n2, n3⟩ := List.nodup_append.1 hnd
                rcases S1.row i r hr1 with ⟨k1, k2, k3⟩ | ⟨rr, off, row, k1, k2, k3, k4, k5⟩
                · have hz : min lxs.length r.xs.length = 0 := by rw [k2]; simp
                  refine ⟨_, .int .i64 0, h, by simp only [adet, h1, hall, if_true, hx.2, ← e1, k1], S1.setRow' (h' := h) (F := []) hr1 (fun _ _ => rfl) rfl rfl (.inl ⟨k1, ?_, rfl⟩) (by rw [k1]; simp [rid]) (fun x hx => by simp at hx), by simp only [TVR]; rw [hz]; rfl⟩
                  rw [hz, k2]; simp
                · have hm1 : min lxs.length r.xs.length ≤ lxs.length := Nat.min_le_left _ _
                  have hm2 : min lxs.length r.xs.length ≤ r.xs.length := Nat.min_le_right _ _
                  have hmn : min els.length r.xs.length = min lxs.length r.xs.length := by rw [hylen]
                  generalize hn : min lxs.length r.xs.length = n at *
                  obtain ⟨F1, F2, f0, f1, f2⟩ := h2.split n
                  obtain ⟨G1, G2, g0, g1, g2⟩ := k5.split n
                  have hlen' : (lxs.take n ++ r.xs.drop n).length = r.xs.length := by rw [List.length_append, List.length_take, List.length_drop]; omega
                  have hnewlen : (row.el.take off ++ els.take n ++ row.el.drop (off + n)).length = row.el.length := by
                    simp only [List.length_append, List.length_take, List.length_drop]; omega
                  have hwin : (((row.el.take off ++ els.take n ++ row.el.drop (off + n)).drop off).take r.xs.length) = els.take n ++ ((row.el.drop off).take r.xs.length).drop n := by
                    rw [List.append_assoc, List.drop_append_of_le_length (by rw [List.length_take]; omega), List.drop_take, Nat.sub_self, List.take_zero, List.nil_append, List.take_append, List.length_take, Nat.min_eq_left (by omega), List.take_of_length_le (by rw [List.length_take]; omega), List.drop_take, List.drop_drop]
                  have hridrr : rid (M1.α i) = [rr] := by rw [k1]; rfl
                  have hFin : ∀ x ∈ F1 ++ G2, x ∈ F ∨ x ∈ M1.N i := fun x hx => by
                    rcases List.mem_append.1 hx with hx | hx
                    · exact .inl (by rw [f0]; simp [hx])
                    · exact .inr (by rw [g0]; simp [hx])
                  have hrrN : ∀ x ∈ F1 ++ G2, x ≠ rr := fun x hx e => by
                    subst e
                    rcases hFin x hx with hx | hx
                    · exact (h3 x hx).1 i (List.mem_append_left _ (by rw [hridrr]; simp))
                    · exact n3 x (by rw [hridrr]; simp) x hx rfl
                  let h' : Heap := { h with rows := upd h.rows rr (some ⟨r.cs.length, row.el.take off ++ els.take n ++ row.el.drop (off + n)⟩) }
                  refine ⟨_, .int .i64 (n : Nat), h', ?_, S1.setRow' (h' := h') (F := F1 ++ G2) hr1 (fun x hx => ?_) rfl rfl (.inr ⟨rr, off, ⟨r.cs.length, row.el.take off ++ els.take n ++ row.el.drop (off + n)⟩, by rw [k1, hlen'], upd_same _ _ _, rfl, ?_, ?_⟩) ?_ (fun x hx => ?_), by simp only [TVR]⟩
                  · simp only [adet, h1, hall, if_true, hx.2, ← e1, k1, k2]
                    rw [if_pos ⟨k3, k4⟩]
                    simp only [hmn]
                    rfl
                  · rw [hridrr] at hx
                    simp at hx
                    simp [h', upd, hx]
                  · simp only [hlen', hnewlen]; exact k4
                  · rw [hlen']
                    simp only
                    rw [hwin]
                    have a1 : AllF (fun x y G => OwnCs h' (r.nm.join lnm) r.cs x y G) (lxs.take n) (els.take n) F1 := f1.mono fun a b G hG => fun H => OwnCs.heap r.cs (fun x hx => by simp [h', upd, hrrN x (List.mem_append_left _ (hG x hx))]) (OwnCs.mode (NM.ok_join_r _ _) r.cs H)
                    have a2 : AllF (fun x y G => OwnCs h' (r.nm.join lnm) r.cs x y G) (r.xs.drop n) (((row.el.drop off).take r.xs.length).drop n) G2 := g2.mono fun a b G hG => fun H => OwnCs.heap r.cs (fun x hx => by simp [h', upd, hrrN x (List.mem_append_right _ (hG x hx))]) (OwnCs.mode (NM.ok_join_l _ _) r.cs H)
                    exact a1.append a2
                  · refine List.nodup_append.2 ⟨by rw [hridrr]; simp, List.nodup_append.2 ⟨?_, ?_, fun x hx y hy e => ?_⟩, fun x hx y hy e => ?_⟩
                    · rw [f0] at h4; exact (List.nodup_append.1 h4).1
                    · rw [g0] at n2; exact (List.nodup_append.1 n2).2.1
                    · subst e
                      exact (h3 x (by rw [f0]; simp [hx])).1 i (List.mem_append_right _ (by rw [g0]; simp [hy]))
                    · rw [hridrr] at hx
                      simp at hx
                      subst hx; subst e
                      exact hrrN _ hy rfl
                  · rcases hFin x hx with h6 | h6
                    · exact .inr (h3 x h6)
                    · exact .inl h6
              · cases hd
            · cases hd
          · cases hd
        · cases hd
      · cases hd
    · cases hd

/-- **WHAT AN OPERATION YIELDS.** -/
theorem vdet_ok (S : SRel B M env h s) {an : List (Nat × An)} {dst : Option Tmp} {op : AOp} {c : List Bool} {v : TV} {s1 : VS} (hd : vdet an s none dst op = .ok c v s1) (hc : ∀ b ∈ c, b = true) : LoudT B env h op v s1 := by
  cases hq : quietB op with
  | true =>
    obtain ⟨rfl, r, h1, h2⟩ := vdet_quiet S (g := none) trivial hq hd hc
    exact ⟨M, r, h, h1, S, h2⟩
  | false =>
    cases op <;> simp only [quietB, Bool.true_eq_false] at hq
    case alloc => exact loud_alloc S hd
    case box => exact loud_box S hd
    case bslice => exact loud_bslice S hd
    case store => exact loud_store S hd
    case mks => exact loud_mks S hd hc
    case app => exact loud_app S hd hc
    case cpy => exact loud_cpy S hd
    case call => simp only [vdet, reduceCtorEq] at hd
    case callv => simp only [vdet, reduceCtorEq] at hd
end
end Go.PA
