/- Typed values: the operations that make and write. No condition. -/
import Derived.Test.YtaekmccjendfoaaV9
namespace Go.PA
set_option linter.unusedVariables false
set_option linter.unusedSimpArgs false
section
variable {B : Bg} {M : Mp} {env : List AV} {h : Heap} {s : VS}

/-- What a loud operation comes to. -/
def LoudT (B : Bg) (env : List AV) (h : Heap) (op : AOp) (v : TV) (s1 : VS) : Prop :=
  ∃ M' r h', adet env h op = some (r, h') ∧ SRel B M' env h' s1 ∧ TVR M' h' v r

/-! New boxes. -/
def Mp.addBox (M : Mp) (b : Nat) : Mp := { M with β := fun j => if j = M.nb then b else M.β j, nb := M.nb + 1 }
theorem SRel.newBox (S : SRel B M env h s) {cs : List TV} {as : List AV} (H : TVRs M h cs as) : SRel B (M.addBox h.boxes.length) env { h with boxes := h.boxes ++ [as] } (s.newBox cs).2 ∧ TVR (M.addBox h.boxes.length) { h with boxes := h.boxes ++ [as] } (.box (s.newBox cs).1 0) (.box h.boxes.length 0) := by
  have D : Mono M h (M.addBox h.boxes.length) { h with boxes := h.boxes ++ [as] } := ⟨fun b hb => ⟨by show b < M.nb + 1; omega, by show (if b = M.nb then _ else _) = _; rw [if_neg (by omega)]⟩, fun j hj => ⟨hj, rfl, fun x hx => ⟨hx, rfl⟩⟩, fun _ _ _ _ => rfl, fun x hx => ⟨hx, rfl⟩⟩
  have hβ : ∀ b, b < M.nb → (M.addBox h.boxes.length).β b = M.β b := fun b hb => (D.box b hb).2
  have hβn : (M.addBox h.boxes.length).β M.nb = h.boxes.length := if_pos rfl
  have hbx : (s.newBox cs).2.boxes = s.boxes ++ [some cs] := rfl
  have hlen : (h.boxes ++ [as]).length = h.boxes.length + 1 := by simp
  refine ⟨⟨S.len, fun t v a h1 h2 => (S.env t v a h1 h2).mono D, ?_, fun b cs' hb => ?_, fun b b' hb hb' e => ?_, fun b hb => ?_, S.lv, fun i r hr => SlotRel.heap (h := h) (fun x hx => ⟨hx, rfl⟩) (fun x _ => rfl) (S.slot i r hr), S.dead, S.lt, S.nd, S.dj, S.gd, S.own, S.fr, fun b hb => ?_, S.nx, ?_, fun j hj => ⟨Nat.lt_succ_of_lt (S.hand j hj).1, by rw [hβ j (S.hand j hj).1]; exact (S.hand j hj).2⟩, S.zlt, S.zdj, S.zown, S.bz, S.pn, S.pin⟩, ?_⟩
  · show M.nb + 1 = (s.boxes ++ [some cs]).length
    rw [S.nb]; simp
  · rw [VS.box?_eq, hbx] at hb
    by_cases hlt : b < s.boxes.length
    · rw [List.getElem?_append_left hlt] at hb
      obtain ⟨as', h1, h2⟩ := S.box b cs' (VS.box?_eq.2 hb)
      have hbn : b < M.nb := by rw [S.nb]; exact hlt
      refine ⟨as', ?_, h2.mono D⟩
      show (h.boxes ++ [as])[(M.addBox h.boxes.length).β b]? = _
      rw [hβ b hbn, List.getElem?_append_left (S.bown b hbn).2]; exact h1
    · have hbe : b = s.boxes.length := by
        have := (List.getElem?_eq_some_iff.1 hb).1
        simp at this; omega
      subst hbe
      simp at hb
      subst hb
      refine ⟨as, ?_, H.mono D⟩
      show (h.boxes ++ [as])[(M.addBox h.boxes.length).β s.boxes.length]? = _
      rw [← S.nb, hβn]; simp
  · have hb : b < M.nb + 1 := hb
    have hb' : b' < M.nb + 1 := hb'
    by_cases h1 : b = M.nb <;> by_cases h2 : b' = M.nb
    · rw [h1, h2]
    · subst h1
      rw [hβn, hβ b' (by omega)] at e
      have := (S.bown b' (by omega)).2; omega
    · subst h2
      rw [hβn, hβ b (by omega)] at e
      have := (S.bown b (by omega)).2; omega
    · rw [hβ b (by omega), hβ b' (by omega)] at e
      exact S.binj b b' (by omega) (by omega) e
  · have hb : b < M.nb + 1 := hb
    show _ ∧ _ < (h.boxes ++ [as]).length
    rw [hlen]
    by_cases h1 : b = M.nb
    · subst h1; rw [hβn]; exact ⟨.inl S.bx, by omega⟩
    · rw [hβ b (by omega)]; have := S.bown b (by omega); exact ⟨this.1, by omega⟩
  · intro hbs
    show (h.boxes ++ [as])[b]? = _
    rw [List.getElem?_append_left (Nat.lt_of_lt_of_le hb S.bx)]; exact S.frb b hb hbs
  · show _ ≤ (h.boxes ++ [as]).length
    rw [hlen]; exact Nat.le_succ_of_le S.bx
  · simp only [TVR]
    refine ⟨?_, ?_⟩
    · show s.boxes.length < M.nb + 1
      rw [S.nb]; omega
    · show _ = AV.box ((M.addBox h.boxes.length).β s.boxes.length) 0
      rw [← S.nb, hβn]

theorem loud_alloc (S : SRel B M env h s) {an : List (Nat × An)} {dst : Option Tmp} {zs : List AV} {c : List Bool} {v : TV} {s1 : VS} (hd : vdet an s none dst (.alloc zs) = .ok c v s1) : LoudT B env h (.alloc zs) v s1 := by
  simp only [vdet, VO.ok.injEq] at hd
  obtain ⟨_, rfl, rfl⟩ := hd
  obtain ⟨h1, h2⟩ := S.newBox (ofAVs_ok zs)
  exact ⟨_, _, _, rfl, h1, h2⟩
theorem loud_box (S : SRel B M env h s) {an : List (Nat × An)} {dst : Option Tmp} {x : Operand} {c : List Bool} {v : TV} {s1 : VS} (hd : vdet an s none dst (.box x) = .ok c v s1) : LoudT B env h (.box x) v s1 := by
  simp only [vdet] at hd
  split at hd
  · rename_i cs hcs
    simp only [VO.ok.injEq] at hd
    obtain ⟨_, rfl, rfl⟩ := hd
    obtain ⟨as, h1, h2⟩ := S.cells (S.ev (g := none) trivial x) hcs
    obtain ⟨h3, h4⟩ := S.newBox h2
    exact ⟨_, _, _, by simp only [adet, h1] <;> rfl, h3, h4⟩
  · cases hd

theorem Sub.slotRow {M' : Mp} {s' : VS} (D : Sub M M' s s') {i : Nat} {r : VRow} (hr : s.slot? i = some (.row r)) {sl : VSlot} (hl : M'.lv i = true) (h' : s'.slot? i = some sl) : ∃ nm, sl = .row ⟨nm, r.cs, r.xs⟩ := by
  obtain ⟨_, _, _, h4⟩ := D.keep i hl
  rcases h4 with ⟨h4, _⟩ | ⟨r', h4, h5⟩
  · rw [h4, hr] at h'
    cases h'
    exact ⟨r.nm, rfl⟩
  · rw [VS.slot_row.1 h5] at h'
    rw [VS.slot_row.1 h4] at hr
    cases hr
    cases h'
    exact ⟨.L, rfl⟩
theorem Sub.slotX {M' : Mp} {s' : VS} (D : Sub M M' s s') {i : Nat} {sl0 sl : VSlot} (h0 : s.slot? i = some sl0) (hx : ∀ r, sl0 ≠ .row r) (hl : M'.lv i = true) (h' : s'.slot? i = some sl) : sl = sl0 := by
  obtain ⟨_, _, _, h4⟩ := D.keep i hl
  rcases h4 with ⟨h4, _⟩ | ⟨r', h4, h5⟩
  · rw [h4, h0] at h'
    exact (Option.some.inj h').symm
  · rw [VS.slot_row.1 h4] at h0
    exact absurd (Option.some.inj h0).symm (hx r')
/-- What can be owned anew. -/
def New (B : Bg) (M : Mp) (h : Heap) (i : Nat) (x : Nat) : Prop := x ∈ M.N i ∨ ((∀ j, x ∉ fp M j) ∧ x < h.next ∧ (x ∈ B.F ∨ B.h.next ≤ x) ∧ x ∉ M.Z)
/-- An element of row 'i' is written. -/
theorem SRel.elSet (S : SRel B M env h s) {i : Nat} {sl sl' : VSlot} (hsl : s.slot? i = some sl) {rr o len k : Nat} {row : Row} {es' : List AV} {F : List Nat} (hα : M.α i = .ref rr o len) (hF : ∀ x ∈ F, New B M h i x) (hnd : F.Nodup)
    (hrel : ∀ h', h' = { h with rows := upd h.rows rr (some ⟨row.sz, row.el.set (o + k) es'⟩) } → ZUp h M.Z h' M.Z → (∀ x ∈ F, h'.rows x = h.rows x) → SlotRel h' M.Z sl' (M.α i) F) :
    SRel B { M with N := fun j => if j = i then F else M.N j } env { h with rows := upd h.rows rr (some ⟨row.sz, row.el.set (o + k) es'⟩) } { s.touch i with rows := s.rows.set i (some sl') } := by
  have hrid : rid (M.α i) = [rr] := by rw [hα]; rfl
  have hndi := S.nd i
  unfold fp at hndi
  have hne : ∀ x ∈ F, x ≠ rr := fun x hx e => by
    subst e
    rcases hF x hx with h1 | h1
    · exact (List.nodup_append.1 hndi).2.2 x (by rw [hrid]; simp) x h1 rfl
    · exact h1.1 i (by unfold fp; rw [hrid]; simp)
  have hz : ∀ x ∈ M.Z, x ≠ rr := fun x hx e => by
    subst e
    exact S.zdj x hx i (by unfold fp; rw [hrid]; simp)
  refine S.setSlot (h' := { h with rows := upd h.rows rr (some ⟨row.sz, row.el.set (o + k) es'⟩) }) hsl (fun x hx => ?_) rfl rfl (hrel _ rfl (fun x hx => ⟨hx, upd_ne _ _ _ _ (hz x hx)⟩) fun x hx => upd_ne _ _ _ _ (hne x hx)) ?_ hF
  · rw [hrid] at hx
    exact upd_ne _ _ _ _ (by simpa using hx)
  · rw [hrid]
    exact List.nodup_append.2 ⟨by simp, hnd, fun x hx y hy e => by simp at hx; subst hx; subst e; exact hne _ hy rfl⟩
theorem win_set (el : List (List AV)) (o k n : Nat) (_hk : k < n) (es : List AV) : ((el.set (o + k) es).drop o).take n = ((el.drop o).take n).set k es := by
  rw [List.drop_set, if_neg (by omega), List.take_set]
  congr 1; omega
theorem nodup3 {A F F' C : List Nat} {E : List Nat} (h : (A ++ F ++ C).Nodup) (h1 : F'.Nodup) (h2 : ∀ x ∈ F', x ∈ F ∨ x ∈ E) (h3 : ∀ x ∈ A ++ F ++ C, x ∉ E) : (A ++ F' ++ C).Nodup := by
  obtain ⟨k1, k2, k3⟩ := List.nodup_append.1 h
  obtain ⟨k4, k5, k6⟩ := List.nodup_append.1 k1
  refine List.nodup_append.2 ⟨List.nodup_append.2 ⟨k4, h1, fun x hx y hy e => ?_⟩, k2, fun x hx y hy e => ?_⟩
  · subst e
    rcases h2 x hy with hy | hy
    · exact k6 x hx x hy rfl
    · exact h3 x (by simp [hx]) hy
  · subst e
    rcases List.mem_append.1 hx with hx | hx
    · exact k3 x (List.mem_append_left _ hx) x hy rfl
    · rcases h2 x hx with hx | hx
      · exact k3 x (List.mem_append_right _ hx) x hy rfl
      · exact h3 x (by simp [hy]) hx

/-- A store into a row's element. -/
theorem storeR_ok (S : SRel B M env h s) {i : Nat} {idx : Int} {off n : Nat} {vs : List TV} {bs : List AV} {av : AV} (ha : TVR M h (.rptr i idx off) av) (hb2 : TVRs M h vs bs) (hn : vs.length = n) (hn0 : 0 < n) {c : List Bool} {v : TV} {s1 : VS} (hd : storeR s i idx off n vs = .ok c v s1) (hc : ∀ b ∈ c, b = true) :
    v = .bad ∧ ∃ M' rr k row es, av = .rptr rr k off ∧ h.rows rr = some row ∧ row.el[k]? = some es ∧ off + n ≤ es.length ∧ SRel B M' env { h with rows := upd h.rows rr (some ⟨row.sz, row.el.set k (splice es off bs)⟩) } s1 := by
  unfold storeR at hd
  split at hd
  · cases hd
  · rename_i sl hsl
    split at hd
    · cases hd
    · rename_i e m s2 hun
      split at hd
      · rename_i hcov
        obtain ⟨M1, C, S1, D1, O1, N1, E1⟩ := unTVs_ok _ S hb2 hun
        simp only [TVR] at ha
        obtain ⟨hlv, rr0, o0, len0, hα0, hi0, hi1, hav⟩ := ha
        have hnew : ∀ x ∈ C, New B M1 h i x := fun x hx => by
          obtain ⟨⟨j, hj⟩, h2, h3⟩ := E1 x hx
          exact .inr ⟨h2, S.lt j x hj, S.own j x hj, h3⟩
        have hNC : ∀ x ∈ M1.N i, x ∉ C := fun x hx hc => (E1 x hc).2.1 i (List.mem_append_right _ hx)
        have hidx : ((idx.toNat : Nat) : Int) = idx := by omega
        cases hs2 : s2.slot? i with
        | none => rw [hs2] at hd; cases hd
        | some sl2 =>
        have hl2 := S1.live0 hs2
        have hα1 : M1.α i = .ref rr0 o0 len0 := by rw [(D1.keep i hl2).2.1]; exact hα0
        have hNnd : (M1.N i).Nodup := by
          have := S1.nd i
          unfold fp at this
          exact (List.nodup_append.1 this).2.1
        cases sl with
        | row r =>
          obtain ⟨nm1, rfl⟩ := D1.slotRow hsl hl2 hs2
          rw [hs2] at hd
          simp only [VSlot.r, VO.ok.injEq] at hd
          obtain ⟨_, rfl, rfl⟩ := hd
          refine ⟨rfl, ?_⟩
          have hr1 : s2.row? i = some ⟨nm1, r.cs, r.xs⟩ := VS.slot_row.2 hs2
          have hk : idx.toNat < r.xs.length := by
            rcases S1.row i _ hr1 with ⟨e, _, _⟩ | ⟨r2, o2, row, e, _⟩
            · rw [e] at hα1; cases hα1
            · rw [e] at hα1
              cases hα1
              have hi1 : idx < (r.xs.length : Int) := hi1
              omega
          obtain ⟨rr, o, row, es, A, F, C0, g1, g2, g3, g4, g5, g6, g7, g8, g9, g10⟩ := S1.elem hr1 hk
          rw [g1] at hα1
          cases hα1
          obtain ⟨F', p1, p2, p3⟩ := putD_ok r.cs g7 O1
          have hF'nd := p3 (by rw [g8] at hNnd; exact (List.nodup_append.1 (List.nodup_append.1 hNnd).1).2.1) N1 fun x hx => hNC x (by rw [g8]; simp [hx])
          have S2 := S1.elSet (k := idx.toNat) (row := row) (es' := splice es off bs) (F := A ++ F' ++ C0) (sl' := .row ⟨nm1.join m, r.cs, r.xs.set idx.toNat (putD r.cs (r.xs.getD idx.toNat (Ty.ds0 r.cs)) off n e)⟩) hs2 g1 (fun x hx => by
              rcases List.mem_append.1 hx with hx | hx
              · rcases List.mem_append.1 hx with hx | hx
                · exact .inl (by rw [g8]; simp [hx])
                · rcases p2 x hx with hx | hx
                  · exact .inl (by rw [g8]; simp [hx])
                  · exact hnew x hx
              · exact .inl (by rw [g8]; simp [hx])) (by
              rw [g8] at hNnd hNC
              exact nodup3 hNnd hF'nd p2 hNC) (fun h' e1 hz hs => by
              subst e1
              refine .inr ⟨rr0, o0, ⟨row.sz, row.el.set (o0 + idx.toNat) (splice es off bs)⟩, by rw [g1, List.length_set], upd_same _ _ _, g3, by simpa using g4, ?_⟩
              rw [List.length_set, win_set _ _ _ _ hk]
              exact (g10 _ (NM.ok_join_l _ _) _ _ F' p1).mono fun a b G hG => OwnCs.heap hz _ fun x hx => hs x (hG x hx))
          obtain ⟨M3, S3, _⟩ := S2.fixA' i
          have hle : off + n ≤ es.length := by
            have hcov : off + n ≤ r.cs.length := hcov
            have g6 : es.length = r.cs.length := g6
            omega
          exact ⟨M3, rr0, o0 + idx.toNat, row, es, hav, g2, g5, hle, S3⟩
        | sp p r =>
          obtain rfl := D1.slotX hsl (fun r e => by cases e) hl2 hs2
          rw [hs2] at hd
          simp only [VSlot.r] at hd
          split at hd
          · rename_i hfc
            simp only [Bool.and_eq_true] at hfc
            simp only [VO.ok.injEq] at hd
            obtain ⟨rfl, rfl, rfl⟩ := hd
            refine ⟨rfl, ?_⟩
            simp only [List.mem_singleton, forall_eq, decide_eq_true_eq] at hc
            subst hc
            rcases S1.slot i _ hs2 with ⟨e, _⟩ | ⟨rr, o, row, q1, q2, q3, q4, q5, q6, q7, q8⟩
            · rw [e] at hα1; cases hα1
            · rw [q1] at hα1
              cases hα1
              have hk : idx.toNat < r.xs.length := by omega
              have hx : r.xs[idx.toNat]? = some (r.xs.getD idx.toNat (Ty.ds0 r.cs)) := by rw [List.getD_eq_getElem?_getD, List.getElem?_eq_getElem hk]; rfl
              have hwl : ((row.el.drop o0).take r.xs.length).length = r.xs.length := by rw [List.length_take, List.length_drop]; omega
              have hy := List.getElem?_eq_getElem (l := (row.el.drop o0).take r.xs.length) (i := idx.toNat) (by omega)
              generalize hes : ((row.el.drop o0).take r.xs.length)[idx.toNat]'(by omega) = es at hy
              have hel := q8.get 0 (r.xs.getD idx.toNat (Ty.ds0 r.cs)) es (by rw [List.getElem?_drop]; exact hx) (by rw [List.getElem?_drop]; exact hy)
              have hrow : row.el[o0 + idx.toNat]? = some es := by
                rw [List.getElem?_take, if_pos hk, List.getElem?_drop] at hy; exact hy
              have p1 := putD_cover hfc.1 r.cs hel hfc.2 O1
              have hlen' := LitCs.len _ hel
              have S2 := S1.elSet (k := idx.toNat) (row := row) (es' := splice es off bs) (F := M1.N i ++ C) (sl' := .sp (idx + 1) ⟨.S, r.cs, r.xs.set idx.toNat (putD r.cs (r.xs.getD idx.toNat (Ty.ds0 r.cs)) off n e)⟩) hs2 q1 (fun x hx => by
                  rcases List.mem_append.1 hx with hx | hx
                  · exact .inl hx
                  · exact hnew x hx) (List.nodup_append.2 ⟨hNnd, N1, fun x hx y hy e => hNC x hx (e ▸ hy)⟩) (fun h' e1 hz hs => by
                  subst e1
                  refine .inr ⟨rr0, o0, ⟨row.sz, row.el.set (o0 + idx.toNat) (splice es off bs)⟩, by rw [q1, List.length_set], upd_same _ _ _, q3, by simpa using q4, by omega, by rw [List.length_set]; omega, ?_, ?_⟩
                  · rw [List.length_set, win_set _ _ _ _ hk]
                    have e2 : (idx + 1).toNat = idx.toNat + 1 := by omega
                    rw [e2]
                    have t1 : ∀ {α : Type} (l : List α) (k : Nat) (a : α), k < l.length → (l.set k a).take (k + 1) = l.take k ++ [a] := fun l k a hk => by
                      rw [List.take_add_one, List.take_set_of_le (Nat.le_refl _), List.getElem?_set_self hk]; rfl
                    rw [t1 _ _ _ hk, t1 _ _ _ (by omega)]
                    refine AllF.append (q7.mono fun a b G hG => OwnCs.heap hz _ fun x hx => hs x (List.mem_append_left _ (hG x hx))) ⟨C, [], by simp, OwnCs.heap hz _ (fun x hx => hs x (List.mem_append_right _ hx)) p1, rfl⟩
                  · rw [List.length_set, win_set _ _ _ _ hk]
                    have e2 : (idx + 1).toNat = idx.toNat + 1 := by omega
                    rw [e2, List.drop_set_of_lt (by omega), List.drop_set_of_lt (by omega)]
                    have := (q8.drop 1).mono fun x y => LitCs.up hz r.cs
                    rwa [List.drop_drop, List.drop_drop] at this)
              exact ⟨_, rr0, o0 + idx.toNat, row, es, hav, q2, hrow, by rw [hlen']; exact hcov, S2⟩
          · cases hd
        | ho k fo r =>
          obtain rfl := D1.slotX hsl (fun r e => by cases e) hl2 hs2
          rw [hs2] at hd
          simp only [VSlot.r] at hd
          split at hd
          · rename_i hfc
            simp only [Bool.and_eq_true, Nat.blt_eq] at hfc
            obtain ⟨⟨hm, hf1⟩, hf2⟩ := hfc
            have hf1 := Nat.le_of_ble_eq_true hf1
            simp only [VO.ok.injEq] at hd
            obtain ⟨rfl, rfl, rfl⟩ := hd
            refine ⟨rfl, ?_⟩
            simp only [List.mem_singleton, forall_eq, decide_eq_true_eq] at hc
            subst hc
            obtain ⟨rr, o, row, es, q1, q2, q3, q4, q5, q6, q7, q8, q9⟩ := S1.slot i _ hs2
            rw [q1] at hα1
            cases hα1
            have hk : idx.toNat < r.xs.length := by omega
            have hwl : ((row.el.drop o0).take r.xs.length).length = r.xs.length := by rw [List.length_take, List.length_drop]; omega
            obtain ⟨es2, A, F, C0, g1, g2, g3, g4⟩ := q9.at_ idx.toNat (List.getElem?_set_self hk)
            rw [List.getElem?_set_self (by omega)] at g1
            obtain rfl := Option.some.inj g1
            obtain ⟨F', p1, p2, p3⟩ := putD_ok r.cs g3 O1
            have hmS : NM.S.join m = .S := by cases m <;> simp_all [NM.fits, NM.join]
            rw [hmS, splice_blank bs hf1 (by rw [← hb2.len, hn]; exact hf2)] at p1
            have p1 : OwnCs h M1.Z .S r.cs (putD r.cs (r.xs.getD idx.toNat (Ty.ds0 r.cs)) off n e) (splice es off bs) F' :=
              (congrArg (fun z => OwnCs h M1.Z .S r.cs z (splice es off bs) F') (putD_blank (d := r.xs.getD idx.toNat (Ty.ds0 r.cs)) (e := e) r.cs hf1 hf2 hcov)).mp p1
            have g4 := g4 _ (fun _ _ _ h => h) _ _ F' p1
            rw [List.set_set, List.set_set] at g4
            have hF'nd := p3 (by rw [g2] at hNnd; exact (List.nodup_append.1 (List.nodup_append.1 hNnd).1).2.1) N1 fun x hx => hNC x (by rw [g2]; simp [hx])
            have S2 := S1.elSet (k := idx.toNat) (row := row) (es' := splice es off bs) (F := A ++ F' ++ C0) (sl' := .row ⟨.S, r.cs, r.xs.set idx.toNat (putD r.cs (r.xs.getD idx.toNat (Ty.ds0 r.cs)) off n e)⟩) hs2 q1 (fun x hx => by
                rcases List.mem_append.1 hx with hx | hx
                · rcases List.mem_append.1 hx with hx | hx
                  · exact .inl (by rw [g2]; simp [hx])
                  · rcases p2 x hx with hx | hx
                    · exact .inl (by rw [g2]; simp [hx])
                    · exact hnew x hx
                · exact .inl (by rw [g2]; simp [hx])) (by
                rw [g2] at hNnd hNC
                exact nodup3 hNnd hF'nd p2 hNC) (fun h' e1 hz hs => by
                subst e1
                refine .inr ⟨rr0, o0, ⟨row.sz, row.el.set (o0 + idx.toNat) (splice es off bs)⟩, by rw [q1, List.length_set], upd_same _ _ _, q3, by simpa using q4, ?_⟩
                rw [List.length_set, win_set _ _ _ _ hk]
                exact g4.mono fun a b G hG => OwnCs.heap hz _ fun x hx => hs x (hG x hx))
            exact ⟨_, rr0, o0 + idx.toNat, row, es, hav, q2, q7, by rw [q8]; exact hcov, S2⟩
          · cases hd
      · cases hd

theorem loud_store (S : SRel B M env h s) {an : List (Nat × An)} {dst : Option Tmp} {n : Nat} {a x : Operand} {c : List Bool} {v : TV} {s1 : VS} (hd : vdet an s none dst (.store n a x) = .ok c v s1) (hc : ∀ b ∈ c, b = true) : LoudT B env h (.store n a x) v s1 := by
  simp only [vdet] at hd
  have ha := S.ev (g := none) trivial a
  split at hd
  · rename_i vs hcs
    obtain ⟨bs, hb1, hb2⟩ := S.cells (S.ev (g := none) trivial x) hcs
    have hlen := hb2.len
    split at hd
    · rename_i hn
      split at hd
      · rename_i b off hv
        rw [hv] at ha
        simp only [TVR] at ha
        split at hd
        · rename_i cs hbx
          obtain ⟨as, h1, h2⟩ := S.box b cs hbx
          have hlen2 := h2.len
          split at hd
          · rename_i hoff
            simp only [VO.ok.injEq] at hd
            obtain ⟨_, rfl, rfl⟩ := hd
            have hbn : b < M.nb := ha.1
            have hβlt := (S.bown b hbn).2
            have hbs : b < s.boxes.length := by rw [← S.nb]; exact hbn
            have Hs : TVRs M h (tsplice cs off vs) (splice as off bs) := TVRs.splice _ _ off h2 hb2
            have D : Mono M h M { h with boxes := h.boxes.set (M.β b) (splice as off bs) } := ⟨fun b hb => ⟨hb, rfl⟩, fun j hj => ⟨hj, rfl, fun x hx => ⟨hx, rfl⟩⟩, fun _ _ _ _ => rfl, fun x hx => ⟨hx, rfl⟩⟩
            refine ⟨M, .bad, { h with boxes := h.boxes.set (M.β b) (splice as off bs) }, ?_, ?_, by simp only [TVR]⟩
            · simp only [adet, hb1, ha.2, h1]
              rw [if_pos (by omega), if_pos (by omega)]
            · refine ⟨S.len, fun t v a h1 h2 => (S.env t v a h1 h2).mono D, by simp [S.nb], fun b' cs' hb => ?_, S.binj, fun b' hb' => by have := S.bown b' hb'; simpa using this, S.lv, fun i r hr => SlotRel.heap (h := h) (fun x hx => ⟨hx, rfl⟩) (fun x _ => rfl) (S.slot i r hr), S.dead, S.lt, S.nd, S.dj, S.gd, S.own, S.fr, fun b' hb' => ?_, S.nx, by simpa using S.bx, S.hand, S.zlt, S.zdj, S.zown, S.bz, S.pn, S.pin⟩
              · rw [VS.box?_eq] at hb
                simp only [List.getElem?_set] at hb
                by_cases hbb : b = b'
                · subst hbb
                  simp [hbs] at hb
                  subst hb
                  exact ⟨_, by simp [hβlt], Hs.mono D⟩
                · simp only [hbb, if_false] at hb
                  obtain ⟨as', g1, g2⟩ := S.box b' cs' (VS.box?_eq.2 hb)
                  have hbn' : b' < M.nb := by rw [S.nb]; exact (List.getElem?_eq_some_iff.1 hb).1
                  refine ⟨as', ?_, g2.mono D⟩
                  simp only [List.getElem?_set]
                  rw [if_neg (fun e => hbb (S.binj b b' hbn hbn' e))]; exact g1
              · intro hbs
                simp only [List.getElem?_set]
                rw [if_neg (fun e => by
                  rcases (S.bown b hbn).1 with q | q
                  · omega
                  · exact hbs (e ▸ q))]
                exact S.frb b' hb' hbs
          · cases hd
        · cases hd
      · rename_i i idx off hv
        rw [hv] at ha
        obtain ⟨rfl, M', rr, k, row, es, h1, h2, h3, h4, h5⟩ := storeR_ok S ha hb2 hn.1 hn.2 hd hc
        refine ⟨M', .bad, _, ?_, h5, by simp only [TVR]⟩
        simp only [adet, hb1, h1, h2, h3]
        rw [if_pos (by omega), if_pos h4]
      · cases hd
    · cases hd
  · cases hd
end
end Go.PA
