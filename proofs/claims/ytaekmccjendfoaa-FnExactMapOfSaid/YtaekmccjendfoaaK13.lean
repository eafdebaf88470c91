/- 'copy', and all operations together. No condition. -/
import Derived.Test.YtaekmccjendfoaaK12
namespace Go.PA
set_option linter.unusedVariables false
set_option linter.unusedSimpArgs false
section
variable {P : Program} {w : World} {m : Maps} {h : Heap}

theorem l_cpy (H : HRel w m h) {a : Act} {env : List AV} (E : ERel w m h a env) {t u e : TypeId} {i : TypeInfo} (ht : P.underlying t = some (.slice e)) (hi : P.info? e = some i) (hs0 : 0 < i.size)
    (ty : TypeId) {x y : Operand} {r : AV} {h' : Heap} (hd : adet env h (.cpy i.size x y) = some (r, h')) :
    Loud P w m h (Builtin.copy_ #[t, u] ty #[a.eval x, a.eval y]) id r h' := by
  simp only [adet] at hd
  cases hel : aels h (aeval env y) with
  | none => rw [hel] at hd; cases hd
  | some ys =>
    rw [hel] at hd
    simp only at hd
    split at hd
    · rename_i hall
      have hysz := all_len hall
      obtain ⟨ya, ycap, yvs, ey, hyc, hyl, hycell, hycv, hyr⟩ := aels_rel H (E.ev y) hel hysz
      have hlenOf : (Builtin.lenOf (a.eval y)).run P w = .ok ys.length w := by rw [ey]; rfl
      have hfirst : ∀ n, n ≤ ys.length → (Builtin.firstCells i.size n (a.eval y)).run P w = .ok (yvs.take (n * i.size)).toArray w := fun n hn => by
        have hmul := Nat.mul_le_mul_right i.size hn
        rw [ey]
        cases ya with
        | none =>
          have hnil : yvs = [] := by
            cases yvs with
            | nil => rfl
            | cons v vs =>
              obtain ⟨ad, e1, _⟩ := hycell 0 v rfl
              cases e1
          subst hnil
          rw [run_firstCells_none]; simp
        | some ad =>
          exact run_firstCells_some w i.size n ad ys.length ycap (yvs.take (n * i.size)) (by rw [List.length_take, hyl]; omega) (fun j v hj => by
            rw [List.getElem?_take] at hj
            split at hj
            · obtain ⟨ad', e1, e2⟩ := hycell j v hj
              cases e1; exact e2
            · cases hj)
      have hsize : (sizeOf e).run P w = .ok i.size w := by simp [sizeOf, typeInfo, hi]
      have hx := E.ev x
      generalize aeval env x = ax at hx hd
      generalize a.eval x = vx at hx ⊢
      cases hx with
      | nils =>
        simp only [Option.some.injEq, Prod.mk.injEq] at hd; obtain ⟨rfl, rfl⟩ := hd
        refine ⟨.int .i64 0, w, m, ?_, H, .int _ _, Turn.refl _ _ _⟩
        have h0 := hfirst 0 (Nat.zero_le _)
        simp only [Nat.zero_mul, List.take_zero] at h0
        simp [Builtin.copy_, run_underlying ht, hlenOf, hsize, goInt, h0]
      | ref rr off len cap q1 hg q2 q3 =>
        simp only at hd
        cases hrx : h.rows rr with
        | none => rw [hrx] at hd; cases hd
        | some row =>
          rw [hrx] at hd
          simp only at hd
          split at hd
          · rename_i hb
            obtain ⟨hb1, hb2⟩ := hb
            simp only [Option.some.injEq, Prod.mk.injEq] at hd; obtain ⟨rfl, rfl⟩ := hd
            obtain ⟨bv, T, eb, hs, hzz, hle, hels, hr⟩ := H.rows rr row hg hrx
            have hszm : (m.row rr).sz = i.size := by rw [hzz, hb1]
            have hn1 : min ys.length len ≤ ys.length := Nat.min_le_left _ _
            have hn2 : min ys.length len ≤ len := Nat.min_le_right _ _
            generalize hn : min ys.length len = n at hn1 hn2 ⊢
            have hmul1 : n * i.size ≤ ys.length * i.size := Nat.mul_le_mul_right _ hn1
            have hmul2 : (off + n) * i.size ≤ row.el.length * i.size := Nat.mul_le_mul_right _ (by omega)
            rw [Nat.add_mul] at hmul2
            have hle' : (m.row rr).start + row.el.length * i.size ≤ bv.size := by rw [← hb1]; exact hle
            have hnl : (yvs.take (n * i.size)).length = n * i.size := by rw [List.length_take, hyl]; omega
            have hst := run_storeCells_cells (P := P) (m.row rr).blk ((m.row rr).start + off * (m.row rr).sz) (yvs.take (n * i.size)) 0 w (fun j hj => by
              rw [cell_row eb, Nat.add_zero, Array.getElem?_eq_getElem (by rw [hszm]; omega)]; rfl) (fun j _ => frozen_row eb _) (fun v hv => oneCell_of (hycv v (List.mem_of_mem_take hv)))
            rw [Nat.add_zero] at hst
            have hrun : (Builtin.copy_ #[t, u] ty #[.slice (some ⟨(m.row rr).blk, (m.row rr).start + off * (m.row rr).sz, none⟩) len cap, a.eval y]).run P w = .ok (.int .i64 (n : Int)) (w.setCells (m.row rr).blk ((m.row rr).start + off * (m.row rr).sz) (yvs.take (n * i.size))) := by
              have hnm : Nat.min ys.length len = n := hn
              simp [Builtin.copy_, run_underlying ht, hlenOf, hsize, goInt, hnm, hfirst n hn1, hst]
            obtain ⟨g1, g2, g3, g4, g5, g6⟩ := setCells_frame (m.row rr).blk (yvs.take (n * i.size)) ((m.row rr).start + off * (m.row rr).sz) w
            obtain ⟨bv', e1, e2⟩ := g6 _ _ _ eb
            have hsz' : bv'.size = bv.size := by
              have := congrArg List.length e2
              rw [spliceV_len] at this
              simpa using this
            have hlen' : (row.el.take off ++ ys.take n ++ row.el.drop (off + n)).length = row.el.length := by
              rw [List.length_append, List.length_append, List.length_take, List.length_take, List.length_drop]; omega
            have hsz2 : ∀ cs ∈ row.el.take off ++ ys.take n ++ row.el.drop (off + n), cs.length = row.sz := fun cs hcs => by
              rcases List.mem_append.1 hcs with hcs | hcs
              · rcases List.mem_append.1 hcs with hcs | hcs
                · exact hels cs (List.mem_of_mem_take hcs)
                · rw [hb1]; exact hysz cs (List.mem_of_mem_take hcs)
              · exact hels cs (List.mem_of_mem_drop hcs)
            obtain ⟨G, Tn⟩ := H.row_put hg hrx (row.el.take off ++ ys.take n ++ row.el.drop (off + n)) (fun z _ hz => g5 z hz) g4 g1 g2 g3 ⟨bv', T, e1, by rw [hsz']; exact hs, by rw [hlen', hsz']; exact hle, hsz2, fun k j cs c h1 h2 => by
              have hj : j < row.sz := by have := (List.getElem?_eq_some_iff.1 h2).1; rw [hsz2 cs (List.mem_of_getElem? h1)] at this; exact this
              have hkl : k < row.el.length := by rw [← hlen']; exact (List.getElem?_eq_some_iff.1 h1).1
              have hbv : ∀ p, bv'[p]? = (spliceV bv.toList ((m.row rr).start + off * (m.row rr).sz) (yvs.take (n * i.size)))[p]? := fun p => by rw [← e2, Array.getElem?_toList]
              rw [hbv, spliceV_get _ _ _ _ (by rw [hnl, hszm]; simp; omega), hnl, hszm, hb1]
              have hoff : (row.el.take off).length = off := by rw [List.length_take]; omega
              have htn : (ys.take n).length = n := by rw [List.length_take]; omega
              by_cases hk1 : k < off
              · have hmk : (k + 1) * i.size ≤ off * i.size := Nat.mul_le_mul_right _ hk1
                rw [Nat.add_mul] at hmk
                rw [List.append_assoc, List.getElem?_append_left (by omega), List.getElem?_take, if_pos hk1] at h1
                rw [if_pos (by omega)]
                obtain ⟨v, p1, p2, p3⟩ := hr k j cs c h1 h2
                exact ⟨v, by rw [Array.getElem?_toList, ← hb1]; exact p1, p2, p3⟩
              · have hmo : off * i.size ≤ k * i.size := Nat.mul_le_mul_right _ (by omega)
                by_cases hk2 : k < off + n
                · rw [List.getElem?_append_left (by rw [List.length_append]; omega), List.getElem?_append_right (by omega), hoff, List.getElem?_take, if_pos (by omega)] at h1
                  obtain ⟨v, p1, p2⟩ := hyr (k - off) j cs c h1 h2
                  have hksub : k * i.size = off * i.size + (k - off) * i.size := by rw [← Nat.add_mul]; congr 1; omega
                  have hmk : (k - off + 1) * i.size ≤ n * i.size := Nat.mul_le_mul_right _ (by omega)
                  rw [Nat.add_mul] at hmk
                  rw [if_neg (by omega), if_pos (by omega)]
                  refine ⟨v, ?_, hycv v (List.mem_of_getElem? p1), p2⟩
                  rw [show (m.row rr).start + k * i.size + j - ((m.row rr).start + off * i.size) = (k - off) * i.size + j by omega, List.getElem?_take, if_pos (by omega)]
                  exact p1
                · have hmk : (off + n) * i.size ≤ k * i.size := Nat.mul_le_mul_right _ (by omega)
                  rw [Nat.add_mul] at hmk
                  rw [List.getElem?_append_right (by rw [List.length_append]; omega), List.length_append, hoff, htn, drop_get, show off + n + (k - (off + n)) = k by omega] at h1
                  rw [if_neg (by omega), if_neg (by omega)]
                  obtain ⟨v, p1, p2, p3⟩ := hr k j cs c h1 h2
                  exact ⟨v, by rw [Array.getElem?_toList, ← hb1]; exact p1, p2, p3⟩⟩
            rw [hb1] at G Tn
            exact ⟨_, _, m, hrun, G, .int _ _, Tn⟩
          · cases hd
      | _ => cases hd
    · cases hd

end
end Go.PA
