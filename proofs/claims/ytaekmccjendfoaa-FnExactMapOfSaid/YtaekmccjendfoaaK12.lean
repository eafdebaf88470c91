/- Stores, appends and copies. No condition. -/
import Derived.Test.YtaekmccjendfoaaK11
namespace Go.PA
section
variable {P : Program} {w : World} {m : Maps} {h : Heap}

theorem frozen_row {w : World} {b : Nat} {vs : Array Value} {T : TypeId} (hb : w.heap[b]? = some (.cells vs T (0, 0))) (o : Nat) : w.frozen? ⟨b, o, none⟩ = false := by
  unfold World.frozen?
  simp [hb]
theorem cell_row {w : World} {b : Nat} {vs : Array Value} {T : TypeId} (hb : w.heap[b]? = some (.cells vs T (0, 0))) (o : Nat) : w.cell? ⟨b, o, none⟩ = vs[o]? := by
  unfold World.cell?
  simp [hb]

theorem run_storeAt {t : TypeId} {i : TypeInfo} (hi : P.info? t = some i) {b o : Nat} {bv : Array Value} {T : TypeId} (hb : w.heap[b]? = some (.cells bv T (0, 0))) {v : Value} (hl : v.cells.size = i.size) (hroom : o + i.size ≤ bv.size)
    (hcv : ∀ x ∈ v.cells.toList, cellV x = true) : (Instr.storeAt t (.pointer (some ⟨b, o, none⟩)) v).run P w = .ok () (w.setCells b o v.cells.toList) := by
  have hst := run_storeCells_cells (P := P) b o v.cells.toList 0 w (fun j hj => by
    rw [cell_row hb, Nat.add_zero, Array.getElem?_eq_getElem (by simp at hj; omega)]; rfl) (fun j _ => frozen_row hb _) (fun x hx => by
      have := hcv x hx
      cases x <;> first | rfl | (simp [cellV] at this))
  rw [Nat.add_zero] at hst
  have h1 : (sizeOf t).run P w = .ok i.size w := by simp [sizeOf, typeInfo, hi]
  unfold Instr.storeAt Instr.sureAddr storeVar
  rw [Sem.run_bind]
  show ((Result.ok _ w).andThen _) = _
  rw [Result.andThen_ok, Sem.run_bind, h1, Result.andThen_ok]
  rw [if_neg (by simp [hl])]
  exact hst

theorem l_store (H : HRel w m h) {a : Act} {env : List AV} (E : ERel w m h a env) {t : TypeId} {i : TypeInfo} (hi : P.info? t = some i) {x y : Operand} {r : AV} {h' : Heap} (hd : adet env h (.store i.size x y) = some (r, h')) :
    Loud P w m h (Instr.storeAt t (a.eval x) (a.eval y)) (fun _ => undef) r h' := by
  simp only [adet] at hd
  cases hac : acells (aeval env y) with
  | none => rw [hac] at hd; cases hd
  | some ds =>
    rw [hac] at hd
    simp only at hd
    split at hd
    · rename_i hlen
      have U := cells_CR (E.ev y) hac
      have hvl : (a.eval y).cells.size = i.size := by have := U.1; simp at this; omega
      have hx := E.ev x
      generalize aeval env x = ax at hx hd
      generalize a.eval x = vx at hx ⊢
      cases hx with
      | box b off hb hg =>
        simp only at hd
        cases hbx : h.boxes[b]? with
        | none => rw [hbx] at hd; cases hd
        | some cs =>
          rw [hbx] at hd
          simp only at hd
          split at hd
          · rename_i hroom
            simp only [Option.some.injEq, Prod.mk.injEq] at hd; obtain ⟨rfl, rfl⟩ := hd
            obtain ⟨bv, T, e, hs, hr⟩ := H.boxes b cs hg hbx
            have hrun := run_storeAt (P := P) hi e hvl (by omega : off + i.size ≤ bv.size) U.2.1
            obtain ⟨g1, g2, g3, g4, g5, g6⟩ := setCells_frame (m.box b) (a.eval y).cells.toList off w
            obtain ⟨bv', e1, e2⟩ := g6 _ _ _ e
            have C : CR w m h bv.toList cs := ⟨by simpa using hs, fun v hv => by
              obtain ⟨j, hj⟩ := List.mem_iff_getElem?.1 hv
              have hlt : j < cs.length := by rw [← hs]; exact (Array.getElem?_eq_some_iff.1 (by simpa using hj)).1
              exact (hr j v _ (by simpa using hj) (List.getElem?_eq_getElem hlt)).1, fun j v c h1 h2 => (hr j v c (by simpa using h1) h2).2⟩
            have C2 := CR.splice _ _ _ _ off C U
            rw [← e2] at C2
            obtain ⟨G, Tn⟩ := H.box_put hg hb (splice cs off ds) (fun z _ hz => g5 z hz) g4 g1 g2 g3 ⟨bv', T, e1, by simpa using C2.1, fun j v c h1 h2 => ⟨C2.2.1 v (by simpa using Array.mem_of_getElem? h1), C2.2.2 j v c (by simpa using h1) h2⟩⟩
            exact ⟨(), _, m, hrun, G, .bad _, Tn⟩
          · cases hd
      | rptr rr idx off hr0 hg =>
        simp only at hd
        cases hrx : h.rows rr with
        | none => rw [hrx] at hd; cases hd
        | some row =>
          rw [hrx] at hd
          simp only at hd
          cases hex : row.el[idx]? with
          | none => rw [hex] at hd; cases hd
          | some cs =>
            rw [hex] at hd
            simp only at hd
            split at hd
            · rename_i hroom
              simp only [Option.some.injEq, Prod.mk.injEq] at hd; obtain ⟨rfl, rfl⟩ := hd
              obtain ⟨bv, T, e, hs, hz, hle, hels, hr⟩ := H.rows rr row hg hrx
              have R : ER w m h bv.toList (m.row rr).start row.sz row.el := ⟨by simpa using hle, hels, fun k j cs c h1 h2 => by
                obtain ⟨v, q1, q2, q3⟩ := hr k j cs c h1 h2
                exact ⟨v, by simpa using q1, q2, q3⟩⟩
              have hcs : cs.length = row.sz := hels cs (List.mem_of_getElem? hex)
              have hidx : idx < row.el.length := (List.getElem?_eq_some_iff.1 hex).1
              have hmul := Nat.mul_le_mul_right row.sz hidx
              rw [Nat.succ_mul] at hmul
              have hrun := run_storeAt (P := P) (o := (m.row rr).start + idx * row.sz + off) hi e hvl (by omega) U.2.1
              obtain ⟨g1, g2, g3, g4, g5, g6⟩ := setCells_frame (m.row rr).blk (a.eval y).cells.toList ((m.row rr).start + idx * row.sz + off) w
              obtain ⟨bv', e1, e2⟩ := g6 _ _ _ e
              have R2 := R.put hex U (by omega : off + ds.length ≤ row.sz)
              rw [← e2] at R2
              have hsz' : bv'.size = bv.size := by
                have := congrArg List.length e2
                rw [spliceV_len] at this
                simpa using this
              obtain ⟨G, Tn⟩ := H.row_put hg hrx (row.el.set idx (splice cs off ds)) (fun z _ hz => g5 z hz) g4 g1 g2 g3 ⟨bv', T, e1, by rw [hsz']; exact hs, by simpa using R2.1, R2.2.1, fun k j cs c h1 h2 => by
                obtain ⟨v, q1, q2, q3⟩ := R2.2.2 k j cs c h1 h2
                exact ⟨v, by simpa using q1, q2, q3⟩⟩
              rw [hz]
              exact ⟨(), _, m, hrun, G, .bad _, Tn⟩
            · cases hd
      | int k n => cases hd
      | bool b => cases hd
      | str s => cases hd
      | nils => cases hd
      | lit f ad cap sz xs vs q1 q2 q3 q4 q5 q6 => cases hd
      | ref r off len cap q1 hg q2 q3 => cases hd
      | lptr ad cs vs hr hm => cases hd
      | agg vs cs' hs hv' hr => cases hd
      | tup vs cs' hs hr => cases hd
      | fn f vs cs' hs hr => cases hd
      | bad v => cases hd
    · cases hd

theorem all_len {ys : List (List AV)} {sz : Nat} (hy : ys.all (fun cs => cs.length == sz) = true) : ∀ cs ∈ ys, cs.length = sz := fun cs hcs => eq_of_beq (List.all_eq_true.1 hy cs hcs)

theorem oneCell_of {v : Value} (hv : cellV v = true) : v.oneCell' = true := by cases v <;> first | rfl | (simp [cellV] at hv)

/-- 'append'. -/
theorem grown_le (w : World) (n old : Nat) (e : TypeId) : n ≤ grownCap w n old e := by
  unfold grownCap Question.cut
  exact Nat.le_add_right _ _
theorem zeroCells_size (z : Array Value) (n : Nat) : (Builtin.zeroCells z n).size = n * z.size := by simp [Builtin.zeroCells]

theorem l_app (H : HRel w m h) {a : Act} {env : List AV} (E : ERel w m h a env) {t u e e' : TypeId} {i : TypeInfo} {z : Value} (ht : P.underlying t = some (.slice e)) (hu : P.underlying u = some (.slice e')) (hi : P.info? e = some i) (hz : i.zero = some z) (hzs : z.cells.size = i.size)
    (ty : TypeId) {x y : Operand} {r : AV} {h' : Heap} (hd : adet env h (.app i.size i.bytes x y) = some (r, h')) :
    Loud P w m h (Builtin.append_ #[t, u] ty #[a.eval x, a.eval y]) id r h' := by
  simp only [adet] at hd
  cases hel : aels h (aeval env y) with
  | none => rw [hel] at hd; cases hd
  | some ys =>
    rw [hel] at hd
    simp only at hd
    split at hd
    · rename_i hall
      have hysz := all_len hall
      obtain ⟨ya, ycap, yvs, ey, hyc, hyl, hycell, hycv, hyr⟩ := aels_rel H (E.ev y) hel hysz
      have S : ∀ (k : Nat), Src P i.size u (a.eval y) ys.length yvs w := fun _ => by
        rw [ey]
        cases ya with
        | none =>
          have hnil : yvs = [] := by
            cases yvs with
            | nil => rfl
            | cons v vs =>
              obtain ⟨ad, e1, _⟩ := hycell 0 v rfl
              cases e1
          subst hnil
          refine ⟨.inl ⟨e', hu⟩, fun _ => rfl, run_firstCells_none w _ _ _ _, run_firstCells_none w.drew _ _ _ _, hyl, fun _ hv => by cases hv⟩
        | some ad =>
          exact Src.ofSlice w hu ad ys.length ycap yvs hyl (fun j v hj => by
            obtain ⟨ad', e1, e2⟩ := hycell j v hj
            cases e1; exact e2) (fun v hv => oneCell_of (hycv v hv))
      have hx := E.ev x
      generalize aeval env x = ax at hx hd
      generalize a.eval x = vx at hx ⊢
      cases hx with
      | nils =>
        simp only at hd
        split at hd
        · rename_i hnil
          simp only [Option.some.injEq, Prod.mk.injEq] at hd; obtain ⟨rfl, rfl⟩ := hd
          subst hnil
          refine ⟨.slice none 0 0, w, m, ?_, H, .nils, Turn.refl _ _ _⟩
          have hs := S 0
          simp only [List.length_nil, Nat.zero_mul] at hs hyl
          have hv0 : yvs = [] := List.length_eq_zero_iff.1 hyl
          subst hv0
          simp [Builtin.append_, run_underlying ht, run_underlying hu, sizeOf, typeInfo, hi, hs.len, hs.cells]
        · rename_i hne
          split at hd
          · rename_i hb
            simp only [Option.some.injEq, Prod.mk.injEq] at hd; obtain ⟨rfl, rfl⟩ := hd
            have hpos : 0 < ys.length := by cases ys with
              | nil => exact absurd rfl hne
              | cons _ _ => simp
            have hrun := run_append_grow_src (P := P) w t u ty e i z ht hi hz none 0 0 [] (run_firstCells_none w.drew _ _ _ _) (a.eval y) ys.length yvs (S 0) (by omega) (by omega) (growslice_fits (by omega) (by rw [Nat.zero_add]; omega))
            rw [Nat.zero_add, List.nil_append] at hrun
            obtain ⟨m', G, V, T⟩ := l_row H hyl hysz hycv hyr h.rows (fun _ _ hx => hx) e (Builtin.zeroCells z.cells (grownCap w ys.length 0 e - ys.length)) _ (.inr rfl) (grownCap w ys.length 0 e) (grown_le w _ _ _) (by
                have := grown_le w ys.length 0 e
                rw [Array.size_append, zeroCells_size, hzs, List.size_toArray, hyl, ← Nat.add_mul]
                exact Nat.le_of_eq (by congr 1; omega))
            exact ⟨_, _, m', hrun, G, V, T⟩
          · cases hd
      | ref rr off len cap q1 hg q2 q3 =>
        simp only at hd
        cases hrx : h.rows rr with
        | none => rw [hrx] at hd; cases hd
        | some row =>
          rw [hrx] at hd
          simp only at hd
          split at hd
          · rename_i hb
            obtain ⟨hb1, hb2, hb3, hb4⟩ := hb
            simp only [Option.some.injEq, Prod.mk.injEq] at hd; obtain ⟨rfl, rfl⟩ := hd
            obtain ⟨bv, T, eb, hs, hzz, hle, hels, hr⟩ := H.rows rr row hg hrx
            have hszm : (m.row rr).sz = i.size := by rw [hzz, hb1]
            have holdel : ∀ cs ∈ (row.el.drop off).take len, cs.length = i.size := fun cs hcs => by rw [← hb1]; exact hels cs (List.mem_of_mem_drop (List.mem_of_mem_take hcs))
            have hlenold : ((row.el.drop off).take len).length = len := by rw [List.length_take, List.length_drop]; omega
            have hsz2 : ∀ cs ∈ (row.el.drop off).take len ++ ys, cs.length = i.size := fun cs hcs => by
              rcases List.mem_append.1 hcs with hcs | hcs
              · exact holdel cs hcs
              · exact hysz cs hcs
            have hel2 : ((row.el.drop off).take len ++ ys).length = len + ys.length := by rw [List.length_append, hlenold]
            have hKsub : ∀ k ro, upd h.rows rr none k = some ro → h.rows k = some ro := fun k ro hk => by
              by_cases hkr : k = rr
              · subst hkr; rw [upd_same] at hk; cases hk
              · rw [upd_ne _ _ _ _ hkr] at hk; exact hk
            by_cases hroom : len + ys.length ≤ cap
            · -- there is room
              have hmulcap : (len + ys.length) * i.size ≤ cap * i.size := Nat.mul_le_mul_right _ hroom
              rw [Nat.add_mul] at hmulcap
              have hend : (m.row rr).start + off * i.size + len * i.size + ys.length * i.size ≤ bv.size := by
                rw [hszm, Nat.add_mul] at q3
                rw [hs]; omega
              have hrun := run_append_room_src (P := P) w t u ty e i ht hi (m.row rr).blk ((m.row rr).start + off * (m.row rr).sz) len cap (a.eval y) ys.length yvs (S 0) hroom (fun j hj => by
                rw [cell_row eb, Array.getElem?_eq_getElem (by rw [hszm]; omega)]; rfl) (fun j _ => frozen_row eb _)
              obtain ⟨g1, g2, g3, g4, g5, g6⟩ := setCells_frame (m.row rr).blk yvs ((m.row rr).start + off * (m.row rr).sz + len * i.size) w
              obtain ⟨bv', e1, e2⟩ := g6 _ _ _ eb
              have hsz' : bv'.size = bv.size := by
                have := congrArg List.length e2
                rw [spliceV_len] at this
                simpa using this
              obtain ⟨G, Tn⟩ := H.row_new (upd h.rows rr none) hKsub (m.row rr).blk ((m.row rr).start + off * (m.row rr).sz) i.size (m.row rr).bsz ((row.el.drop off).take len ++ ys)
                (fun k ro hgk hk he => by
                  by_cases hkr : k = rr
                  · subst hkr; rw [upd_same] at hk; cases hk
                  · exact hkr (H.rr k rr ro row hgk hg (hKsub k ro hk) hrx he)) (fun k hgk hk => H.br k rr row hgk hg hk hrx) (fun _ => .inr ⟨rr, row, hrx, hg, rfl⟩) (fun k _ hk => g5 k hk) (Nat.le_of_eq g4.symm) g1 g2 g3
                ⟨bv', T, e1, by rw [hsz']; exact hs, by rw [hsz', hel2, hszm, Nat.add_mul]; omega, hsz2, fun k j cs c h1 h2 => by
                  have hbv : ∀ p, bv'[p]? = (spliceV bv.toList ((m.row rr).start + off * (m.row rr).sz + len * i.size) yvs)[p]? := fun p => by rw [← e2, Array.getElem?_toList]
                  rw [hbv, spliceV_get _ _ _ _ (by rw [hszm]; simp; omega)]
                  have hj : j < i.size := by have := (List.getElem?_eq_some_iff.1 h2).1; rw [hsz2 cs (List.mem_of_getElem? h1)] at this; exact this
                  by_cases hk : k < len
                  · rw [List.getElem?_append_left (by rw [hlenold]; exact hk), List.getElem?_take, if_pos hk, drop_get] at h1
                    have hmk : (k + 1) * i.size ≤ len * i.size := Nat.mul_le_mul_right _ hk
                    rw [Nat.add_mul] at hmk
                    rw [if_pos (by omega)]
                    obtain ⟨v, p1, p2, p3⟩ := hr (off + k) j cs c h1 h2
                    refine ⟨v, ?_, p2, p3⟩
                    rw [Array.getElem?_toList, hszm, Nat.add_assoc (m.row rr).start, ← Nat.add_mul, ← hb1]; exact p1
                  · rw [List.getElem?_append_right (by rw [hlenold]; omega), hlenold] at h1
                    obtain ⟨v, p1, p2⟩ := hyr (k - len) j cs c h1 h2
                    have hpl : (k - len) * i.size + j < yvs.length := (List.getElem?_eq_some_iff.1 p1).1
                    have hksub : k * i.size = len * i.size + (k - len) * i.size := by rw [← Nat.add_mul]; congr 1; omega
                    rw [if_neg (by omega), if_pos (by omega)]
                    refine ⟨v, ?_, hycv v (List.mem_of_getElem? p1), p2⟩
                    rw [show (m.row rr).start + off * (m.row rr).sz + k * i.size + j - ((m.row rr).start + off * (m.row rr).sz + len * i.size) = (k - len) * i.size + j by omega]
                    exact p1⟩
              refine ⟨_, _, _, hrun, G, ?_, Tn⟩
              have := VRel.ref (w := w.setCells (m.row rr).blk ((m.row rr).start + off * (m.row rr).sz + len * i.size) yvs)
                (O := own (m.setRow h.next ⟨(m.row rr).blk, (m.row rr).start + off * (m.row rr).sz, i.size, (m.row rr).bsz⟩) { h with rows := upd (upd h.rows rr none) h.next (some ⟨i.size, (row.el.drop off).take len ++ ys⟩), next := h.next + 1 })
                (m := (m.setRow h.next ⟨(m.row rr).blk, (m.row rr).start + off * (m.row rr).sz, i.size, (m.row rr).bsz⟩)) (nb := h.boxes.length) (nr := h.next + 1) h.next 0 (len + ys.length) cap (Nat.lt_succ_self _) (by simp [Maps.setRow]) hroom (by
                  simp only [Maps.setRow, if_true, Nat.zero_add]
                  rw [hszm] at q3 ⊢
                  rw [Nat.add_mul] at q3; omega)
              simp only [Maps.setRow, if_true, Nat.zero_mul, Nat.add_zero] at this
              exact this
            · -- a new row
              have hax : aels h (.ref rr off len) = some ((row.el.drop off).take len) := by simp only [aels, hrx]; rw [if_pos hb2]
              obtain ⟨xa, xcap, xvs, ex, hxc, hxl, hxcell, hxcv, hxr⟩ := aels_rel H (VRel.ref rr off len cap q1 hg q2 q3) hax holdel
              rw [hlenold] at ex hxc hxl
              simp only [Value.slice.injEq] at ex
              obtain ⟨rfl, _, rfl⟩ := ex
              have hold := run_firstCells_some (P := P) w.drew i.size len ⟨(m.row rr).blk, (m.row rr).start + off * (m.row rr).sz, none⟩ len cap xvs hxl (fun j v hj => by
                obtain ⟨ad, f1, f2⟩ := hxcell j v hj
                cases f1; exact f2)
              have hrun := run_append_grow_src (P := P) w t u ty e i z ht hi hz (some ⟨(m.row rr).blk, (m.row rr).start + off * (m.row rr).sz, none⟩) len cap xvs hold (a.eval y) ys.length yvs (S 0) (by omega) (by omega) (growslice_fits (by omega) (by omega))
              obtain ⟨m', G, V, T⟩ := l_row H (vs := xvs ++ yvs) (el := (row.el.drop off).take len ++ ys) (sz := i.size) (by rw [List.length_append, hxl, hyl, hel2, Nat.add_mul]) hsz2 (fun v hv => by
                  rcases List.mem_append.1 hv with hv | hv
                  · exact hxcv v hv
                  · exact hycv v hv) (fun k j cs c h1 h2 => by
                  have hj : j < i.size := by have := (List.getElem?_eq_some_iff.1 h2).1; rw [hsz2 cs (List.mem_of_getElem? h1)] at this; exact this
                  by_cases hk : k < len
                  · rw [List.getElem?_append_left (by rw [hlenold]; exact hk)] at h1
                    obtain ⟨v, p1, p2⟩ := hxr k j cs c h1 h2
                    exact ⟨v, by rw [List.getElem?_append_left (List.getElem?_eq_some_iff.1 p1).1]; exact p1, p2⟩
                  · rw [List.getElem?_append_right (by rw [hlenold]; omega), hlenold] at h1
                    obtain ⟨v, p1, p2⟩ := hyr (k - len) j cs c h1 h2
                    have hksub : k * i.size = len * i.size + (k - len) * i.size := by rw [← Nat.add_mul]; congr 1; omega
                    refine ⟨v, ?_, p2⟩
                    rw [List.getElem?_append_right (by omega), hxl, show k * i.size + j - len * i.size = (k - len) * i.size + j by omega]
                    exact p1) (upd h.rows rr none) hKsub e (Builtin.zeroCells z.cells (grownCap w (len + ys.length) cap e - (len + ys.length))) _ (.inr rfl) (grownCap w (len + ys.length) cap e) (by rw [hel2]; exact grown_le w _ _ _) (by
                have := grown_le w (len + ys.length) cap e
                rw [Array.size_append, zeroCells_size, hzs, List.size_toArray, List.length_append, hxl, hyl, ← Nat.add_mul, ← Nat.add_mul]
                exact Nat.le_of_eq (by congr 1; omega))
              rw [hel2] at V
              exact ⟨_, _, m', hrun, G, V, T⟩
          · cases hd
      | _ => cases hd
    · cases hd

end
end Go.PA
