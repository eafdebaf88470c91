/- Typed values: the operations that make and write. No condition. -/
import Derived.Test.YtnbhalhlodnmpaaV9
namespace Go.PA
section
variable {B : Bg} {M : Mp} {env : List AV} {h : Heap} {s : VS}

/-- What a loud operation comes to. -/
def LoudT (B : Bg) (env : List AV) (h : Heap) (op : AOp) (v : TV) (s1 : VS) : Prop :=
  ∃ M' r h', adet env h op = some (r, h') ∧ SRel B M' env h' s1 ∧ TVR M' h' v r

/-! New boxes. -/
def Mp.addBox (M : Mp) (b : Nat) : Mp := { M with β := fun j => if j = M.nb then b else M.β j, nb := M.nb + 1 }
theorem SRel.newBox (S : SRel B M env h s) {cs : List TV} {as : List AV} (H : TVRs M h cs as) : SRel B (M.addBox h.boxes.length) env { h with boxes := h.boxes ++ [as] } (s.newBox cs).2 ∧ TVR (M.addBox h.boxes.length) { h with boxes := h.boxes ++ [as] } (.box (s.newBox cs).1 0) (.box h.boxes.length 0) := by
  have D : Mono M h (M.addBox h.boxes.length) { h with boxes := h.boxes ++ [as] } := ⟨fun b hb => ⟨by show b < M.nb + 1; omega, by show (if b = M.nb then _ else _) = _; rw [if_neg (by omega)]⟩, fun j hj => ⟨hj, rfl, fun x hx => ⟨hx, rfl⟩⟩⟩
  have hβ : ∀ b, b < M.nb → (M.addBox h.boxes.length).β b = M.β b := fun b hb => (D.box b hb).2
  have hβn : (M.addBox h.boxes.length).β M.nb = h.boxes.length := if_pos rfl
  have hbx : (s.newBox cs).2.boxes = s.boxes ++ [some cs] := rfl
  have hlen : (h.boxes ++ [as]).length = h.boxes.length + 1 := by simp
  refine ⟨⟨S.len, fun t v a h1 h2 => (S.env t v a h1 h2).mono D, ?_, fun b cs' hb => ?_, fun b b' hb hb' e => ?_, fun b hb => ?_, S.lv, fun i r hr => RowRel.heap (h := h) (fun x _ => rfl) (S.row i r hr), S.dead, S.lt, S.nd, S.dj, S.gd, S.own, S.fr, fun b hb => ?_, S.nx, ?_⟩, ?_⟩
  · show M.nb + 1 = (s.boxes ++ [some cs]).length
    rw [S.nb]; simp
  · rw [VS.box?_eq, hbx] at hb
    by_cases hlt : b < s.boxes.length
    · rw [List.getElem?_append_left hlt] at hb
      obtain ⟨as', h1, h2⟩ := S.box b cs' (VS.box?_eq.2 hb)
      have hbn : b < M.nb := by rw [S.nb]; exact hlt
      refine ⟨as', ?_, h2.mono D⟩
      show (h.boxes ++ [as])[(M.addBox h.boxes.length).β b]? = _
      rw [hβ b hbn, List.getElem?_append_left (S.bown b hbn).2]; exact h1
    · have hbe : b = s.boxes.length := by
        have := (List.getElem?_eq_some_iff.1 hb).1
        simp at this; omega
      subst hbe
      simp at hb
      subst hb
      refine ⟨as, ?_, H.mono D⟩
      show (h.boxes ++ [as])[(M.addBox h.boxes.length).β s.boxes.length]? = _
      rw [← S.nb, hβn]; simp
  · have hb : b < M.nb + 1 := hb
    have hb' : b' < M.nb + 1 := hb'
    by_cases h1 : b = M.nb <;> by_cases h2 : b' = M.nb
    · rw [h1, h2]
    · subst h1
      rw [hβn, hβ b' (by omega)] at e
      have := (S.bown b' (by omega)).2; omega
    · subst h2
      rw [hβn, hβ b (by omega)] at e
      have := (S.bown b (by omega)).2; omega
    · rw [hβ b (by omega), hβ b' (by omega)] at e
      exact S.binj b b' (by omega) (by omega) e
  · have hb : b < M.nb + 1 := hb
    show _ ∧ _ < (h.boxes ++ [as]).length
    rw [hlen]
    by_cases h1 : b = M.nb
    · subst h1; rw [hβn]; exact ⟨S.bx, by omega⟩
    · rw [hβ b (by omega)]; have := S.bown b (by omega); exact ⟨this.1, by omega⟩
  · show (h.boxes ++ [as])[b]? = _
    rw [List.getElem?_append_left (Nat.lt_of_lt_of_le hb S.bx)]; exact S.frb b hb
  · show _ ≤ (h.boxes ++ [as]).length
    rw [hlen]; exact Nat.le_succ_of_le S.bx
  · simp only [TVR]
    refine ⟨?_, ?_⟩
    · show s.boxes.length < M.nb + 1
      rw [S.nb]; omega
    · show _ = AV.box ((M.addBox h.boxes.length).β s.boxes.length) 0
      rw [← S.nb, hβn]

theorem loud_alloc (S : SRel B M env h s) {an : List (Nat × An)} {dst : Option Tmp} {zs : List AV} {c : List Bool} {v : TV} {s1 : VS} (hd : vdet an s none dst (.alloc zs) = .ok c v s1) : LoudT B env h (.alloc zs) v s1 := by
  simp only [vdet, VO.ok.injEq] at hd
  obtain ⟨_, rfl, rfl⟩ := hd
  obtain ⟨h1, h2⟩ := S.newBox (ofAVs_ok zs)
  exact ⟨_, _, _, rfl, h1, h2⟩
theorem loud_box (S : SRel B M env h s) {an : List (Nat × An)} {dst : Option Tmp} {x : Operand} {c : List Bool} {v : TV} {s1 : VS} (hd : vdet an s none dst (.box x) = .ok c v s1) : LoudT B env h (.box x) v s1 := by
  simp only [vdet] at hd
  split at hd
  · rename_i cs hcs
    simp only [VO.ok.injEq] at hd
    obtain ⟨_, rfl, rfl⟩ := hd
    obtain ⟨as, h1, h2⟩ := S.cells (S.ev (g := none) trivial x) hcs
    obtain ⟨h3, h4⟩ := S.newBox h2
    exact ⟨_, _, _, by simp only [adet, h1] <;> rfl, h3, h4⟩
  · cases hd

theorem loud_store (S : SRel B M env h s) {an : List (Nat × An)} {dst : Option Tmp} {n : Nat} {a x : Operand} {c : List Bool} {v : TV} {s1 : VS} (hd : vdet an s none dst (.store n a x) = .ok c v s1) : LoudT B env h (.store n a x) v s1 := by
  simp only [vdet] at hd
  have ha := S.ev (g := none) trivial a
  split at hd
  · rename_i vs hcs
    obtain ⟨bs, hb1, hb2⟩ := S.cells (S.ev (g := none) trivial x) hcs
    have hlen := hb2.len
    split at hd
    · rename_i hn
      split at hd
      · rename_i b off hv
        rw [hv] at ha
        simp only [TVR] at ha
        split at hd
        · rename_i cs hbx
          obtain ⟨as, h1, h2⟩ := S.box b cs hbx
          have hlen2 := h2.len
          split at hd
          · rename_i hoff
            simp only [VO.ok.injEq] at hd
            obtain ⟨_, rfl, rfl⟩ := hd
            have hbn : b < M.nb := ha.1
            have hβlt := (S.bown b hbn).2
            have hbs : b < s.boxes.length := by rw [← S.nb]; exact hbn
            have Hs : TVRs M h (tsplice cs off vs) (splice as off bs) := TVRs.splice _ _ off h2 hb2
            have D : Mono M h M { h with boxes := h.boxes.set (M.β b) (splice as off bs) } := ⟨fun b hb => ⟨hb, rfl⟩, fun j hj => ⟨hj, rfl, fun x hx => ⟨hx, rfl⟩⟩⟩
            refine ⟨M, .bad, { h with boxes := h.boxes.set (M.β b) (splice as off bs) }, ?_, ?_, by simp only [TVR]⟩
            · simp only [adet, hb1, ha.2, h1]
              rw [if_pos (by omega), if_pos (by omega)]
            · refine ⟨S.len, fun t v a h1 h2 => (S.env t v a h1 h2).mono D, by simp [S.nb], fun b' cs' hb => ?_, S.binj, fun b' hb' => by have := S.bown b' hb'; simpa using this, S.lv, fun i r hr => RowRel.heap (h := h) (fun x _ => rfl) (S.row i r hr), S.dead, S.lt, S.nd, S.dj, S.gd, S.own, S.fr, fun b' hb' => ?_, S.nx, by simpa using S.bx⟩
              · rw [VS.box?_eq] at hb
                simp only [List.getElem?_set] at hb
                by_cases hbb : b = b'
                · subst hbb
                  simp [hbs] at hb
                  subst hb
                  exact ⟨_, by simp [hβlt], Hs.mono D⟩
                · simp only [hbb, if_false] at hb
                  obtain ⟨as', g1, g2⟩ := S.box b' cs' (VS.box?_eq.2 hb)
                  have hbn' : b' < M.nb := by rw [S.nb]; exact (List.getElem?_eq_some_iff.1 hb).1
                  refine ⟨as', ?_, g2.mono D⟩
                  simp only [List.getElem?_set]
                  rw [if_neg (fun e => hbb (S.binj b b' hbn hbn' e))]; exact g1
              · simp only [List.getElem?_set]
                rw [if_neg (by have := (S.bown b hbn).1; omega)]; exact S.frb b' hb'
          · cases hd
        · cases hd
      · rename_i i idx off hv
        rw [hv] at ha
        split at hd
        · rename_i r hr
          split at hd
          · rename_i d m s2 hput
            split at hd
            · rename_i r1 hr1
              simp only [VO.ok.injEq] at hd
              obtain ⟨_, rfl, rfl⟩ := hd
              simp only [TVR] at ha
              obtain ⟨hlv, rr0, o0, len0, hα0, hi0, hi1, hav⟩ := ha
              have hk : idx.toNat < r.xs.length := by
                rcases S.row i r hr with ⟨e, _, _⟩ | ⟨r2, o2, row, e, _⟩
                · rw [e] at hα0; cases hα0
                · rw [e] at hα0; cases hα0; omega
              obtain ⟨rr, o, row, es, A, F, C, g1, g2, g3, g4, g5, g6, g7, g8, g9, g10⟩ := S.elem hr hk
              rw [g1] at hα0
              cases hα0
              obtain ⟨M', E, F', p1, p2, p3, p4, p5, p6, p7, p8⟩ := putTVs_ok r.cs S hb2 g7 hput
              have hlv' := p1.live hr1
              obtain ⟨_, q2, q3, q4⟩ := p2.keep i hlv'
              have hrr : r1 = r := by rw [hr1, hr] at q4; exact Option.some.inj q4
              subst hrr
              -- the element's part of what row i owns
              have hnd := S.nd i
              unfold fp at hnd
              have hNd := (List.nodup_append.1 hnd).2.1
              rw [g8] at hNd
              have hFE : ∀ x ∈ F, x ∉ E := fun x hx he => (p4 x he).2 i (by unfold fp; rw [q3, g8]; simp [hx])
              have hAE : ∀ x ∈ A, x ∉ E := fun x hx he => (p4 x he).2 i (by unfold fp; rw [q3, g8]; simp [hx])
              have hCE : ∀ x ∈ C, x ∉ E := fun x hx he => (p4 x he).2 i (by unfold fp; rw [q3, g8]; simp [hx])
              have hF'nd := p7 (List.nodup_append.1 (List.nodup_append.1 hNd).1).2.1 hFE
              have hrid : rid (M'.α i) = [rr0] := by rw [q2, g1]; rfl
              have hrr1 : rr0 ∉ M.N i := fun hx => by rw [g1] at hnd; exact (List.nodup_append.1 hnd).2.2 rr0 (by simp [rid]) rr0 hx rfl
              have hrrE : rr0 ∉ E := fun he => (p4 rr0 he).2 i (by unfold fp; rw [hrid]; simp)
              have hF'in : ∀ x ∈ A ++ F' ++ C, x ∈ M.N i ∨ x ∈ E := fun x hx => by
                rcases List.mem_append.1 hx with hx | hx
                · rcases List.mem_append.1 hx with hx | hx
                  · exact .inl (by rw [g8]; simp [hx])
                  · rcases p6 x hx with hx | hx
                    · exact .inl (by rw [g8]; simp [hx])
                    · exact .inr hx
                · exact .inl (by rw [g8]; simp [hx])
              have hNnd : (A ++ F' ++ C).Nodup := by
                obtain ⟨k1, k2, k3⟩ := List.nodup_append.1 hNd
                obtain ⟨k4, k5, k6⟩ := List.nodup_append.1 k1
                refine List.nodup_append.2 ⟨List.nodup_append.2 ⟨k4, hF'nd, fun x hx y hy e => ?_⟩, k2, fun x hx y hy e => ?_⟩
                · subst e
                  rcases p6 x hy with hy | hy
                  · exact k6 x hx x hy rfl
                  · exact hAE x hx hy
                · subst e
                  rcases List.mem_append.1 hx with hx | hx
                  · exact k3 x (List.mem_append_left _ hx) x hy rfl
                  · rcases p6 x hx with hx | hx
                    · exact k3 x (List.mem_append_right _ hx) x hy rfl
                    · exact hCE x hy hx
              have hlenE : off + n ≤ es.length := by
                rcases p8 with h8 | h8
                · rw [h8] at hlen; simp only [List.length_nil] at hlen; omega
                · omega
              let h' : Heap := { h with rows := upd h.rows rr0 (some ⟨row.sz, row.el.set (o0 + idx.toNat) (splice es off bs)⟩) }
              have hwin : (((row.el.set (o0 + idx.toNat) (splice es off bs)).drop o0).take r1.xs.length) = ((row.el.drop o0).take r1.xs.length).set idx.toNat (splice es off bs) := by
                rw [List.drop_set, if_neg (by omega), List.take_set]
                congr 1; omega
              have hrow' : RowRel h' (r1.nm.join m) r1.cs (r1.xs.set idx.toNat d) (M'.α i) (A ++ F' ++ C) := by
                refine .inr ⟨rr0, o0, ⟨row.sz, row.el.set (o0 + idx.toNat) (splice es off bs)⟩, by rw [q2, g1, List.length_set], by simp [h', upd], g3, by simpa using g4, ?_⟩
                rw [List.length_set, hwin]
                have base : AllF (fun x y G => OwnCs h (r1.nm.join m) r1.cs x y G) (r1.xs.set idx.toNat d) (((row.el.drop o0).take r1.xs.length).set idx.toNat (splice es off bs)) (A ++ F' ++ C) := by
                  exact g10 _ (NM.ok_join_l _ _) d _ F' p3
                exact base.mono fun a b G hG => OwnCs.heap r1.cs fun x hx => by
                  have hne : x ≠ rr0 := fun e => by
                    subst e
                    rcases hF'in x (hG x hx) with h1 | h1
                    · exact hrr1 h1
                    · exact hrrE h1
                  simp [h', upd, hne]
              refine ⟨_, .bad, h', ?_, p1.setRow' (i := i) (r0 := r1) hr1 (h' := h') (fun x hx => ?_) rfl rfl (F := A ++ F' ++ C) hrow' ?_ (fun x hx => ?_), by simp only [TVR]⟩
              · simp only [adet, hb1, hav, g2, g5]
                rw [if_pos (by omega)]
                rw [if_pos hlenE]
              · rw [hrid] at hx
                simp at hx
                simp [h', upd, hx]
              · rw [hrid]
                refine List.nodup_append.2 ⟨by simp, hNnd, fun x hx y hy e => ?_⟩
                simp at hx
                subst hx; subst e
                rcases hF'in x hy with h1 | h1
                · exact hrr1 h1
                · exact hrrE h1
              · rcases hF'in x hx with h1 | h1
                · exact .inl (by rw [q3]; exact h1)
                · obtain ⟨⟨j, hj⟩, h2⟩ := p4 x h1
                  exact .inr ⟨h2, S.lt j x hj, S.own j x hj⟩
            · cases hd
          · cases hd
        · cases hd
      · cases hd
    · cases hd
  · cases hd
end
end Go.PA
