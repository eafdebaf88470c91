/- Typed values: rows that are lent to a call. No condition. -/
import Derived.Test.YtaekmccjendfoaaV16
namespace Go.PA
set_option linter.unusedVariables false
set_option linter.unusedSimpArgs false

/-! Values that tell nothing of what some rows' elements own. -/
mutual
def Cln (P : Nat → Bool) : TV → Prop
  | .vw i _ _ _ => P i = false
  | .vptr i l => P i = false ∧ Clns P l
  | .lptr l => Clns P l
  | .st l => Clns P l
  | .tup l => Clns P l
  | .fn _ l => Clns P l
  | .gd _ _ v => Cln P v
  | _ => True
termination_by structural x => x
def Clns (P : Nat → Bool) : List TV → Prop
  | [] => True
  | v :: l => Cln P v ∧ Clns P l
termination_by structural x => x
end
mutual
theorem Cln.no : ∀ v : TV, Cln (fun _ => false) v
  | .vw i o cs xs => by simp only [Cln]
  | .vptr i l => by simp only [Cln]; exact ⟨trivial, Clns.no l⟩
  | .lptr l => by simp only [Cln]; exact Clns.no l
  | .st l => by simp only [Cln]; exact Clns.no l
  | .tup l => by simp only [Cln]; exact Clns.no l
  | .fn f l => by simp only [Cln]; exact Clns.no l
  | .gd t w v => by simp only [Cln]; exact Cln.no v
  | .bad => by simp only [Cln]
  | .nil => by simp only [Cln]
  | .int _ _ => by simp only [Cln]
  | .bool _ => by simp only [Cln]
  | .str _ => by simp only [Cln]
  | .lst _ _ => by simp only [Cln]
  | .ref _ => by simp only [Cln]
  | .sub _ _ _ => by simp only [Cln]
  | .box _ _ => by simp only [Cln]
  | .rptr _ _ _ => by simp only [Cln]
theorem Clns.no : ∀ l : List TV, Clns (fun _ => false) l
  | [] => by simp only [Clns]
  | v :: l => by simp only [Clns]; exact ⟨Cln.no v, Clns.no l⟩
end
mutual
theorem Cln.dim {P : Nat → Bool} {i : Nat} : ∀ v : TV, Cln P v → Cln (fun j => P j || j == i) (v.dim i)
  | .vw j o cs xs, H => by
    simp only [TV.dim]
    split
    · simp only [Cln]
    · rename_i hj; simp only [Cln] at *; simp [H, hj]
  | .vptr j l, H => by
    simp only [TV.dim]
    split
    · simp only [Cln]
    · rename_i hj; simp only [Cln] at *; exact ⟨by simp [H.1, hj], Clns.dim l H.2⟩
  | .lptr l, H => by simp only [TV.dim, Cln] at *; exact Clns.dim l H
  | .st l, H => by simp only [TV.dim, Cln] at *; exact Clns.dim l H
  | .tup l, H => by simp only [TV.dim, Cln] at *; exact Clns.dim l H
  | .fn f l, H => by simp only [TV.dim, Cln] at *; exact Clns.dim l H
  | .gd t w v, H => by simp only [TV.dim, Cln] at *; exact Cln.dim v H
  | .bad, _ => by simp only [TV.dim, Cln]
  | .nil, _ => by simp only [TV.dim, Cln]
  | .int _ _, _ => by simp only [TV.dim, Cln]
  | .bool _, _ => by simp only [TV.dim, Cln]
  | .str _, _ => by simp only [TV.dim, Cln]
  | .lst _ _, _ => by simp only [TV.dim, Cln]
  | .ref _, _ => by simp only [TV.dim, Cln]
  | .sub _ _ _, _ => by simp only [TV.dim, Cln]
  | .box _ _, _ => by simp only [TV.dim, Cln]
  | .rptr _ _ _, _ => by simp only [TV.dim, Cln]
theorem Clns.dim {P : Nat → Bool} {i : Nat} : ∀ l : List TV, Clns P l → Clns (fun j => P j || j == i) (TV.dims i l)
  | [], _ => by simp only [TV.dims, Clns]
  | v :: l, H => by simp only [TV.dims, Clns] at *; exact ⟨Cln.dim v H.1, Clns.dim l H.2⟩
end
/-- What some rows' elements own has changed. -/
structure CD (P : Nat → Bool) (M : Mp) (h : Heap) (M' : Mp) (h' : Heap) : Prop where
  box : ∀ b, b < M.nb → b < M'.nb ∧ M'.β b = M.β b
  row : ∀ j, M.lv j = true → M'.lv j = true ∧ M'.α j = M.α j
  rest : ∀ j, P j = false → M.lv j = true → ∀ x ∈ M.N j, x ∈ M'.N j ∧ h'.rows x = h.rows x
  top : ∀ j, P j = false → M.lv j = true → ∀ x ∈ rid (M.α j), h'.rows x = h.rows x
  z : ZUp h M.Z h' M'.Z
mutual
theorem TVR.cd {P : Nat → Bool} {M M' : Mp} {h h' : Heap} (D : CD P M h M' h') : ∀ (v : TV) {a : AV}, Cln P v → TVR M h v a → TVR M' h' v a
  | .bad, a, _, _ => by simp only [TVR]
  | .nil, a, _, H => by simpa only [TVR] using H
  | .int k n, a, _, H => by simpa only [TVR] using H
  | .bool b, a, _, H => by simpa only [TVR] using H
  | .str s, a, _, H => by simpa only [TVR] using H
  | .lst cs xs, a, _, H => by simp only [TVR] at *; exact LitC.up D.z _ H
  | .ref j, a, _, H => by
    simp only [TVR] at *
    obtain ⟨h1, h2⟩ := D.row j H.1
    exact ⟨h1, by rw [h2]; exact H.2⟩
  | .sub j lo hi, a, _, H => by
    simp only [TVR] at *
    obtain ⟨h1, h2⟩ := D.row j H.1
    rw [h2]
    exact ⟨h1, H.2⟩
  | .vw j o cs xs, a, hj, H => by
    simp only [Cln] at hj
    simp only [TVR] at *
    obtain ⟨h1, h2⟩ := D.row j H.1
    have h3 := D.rest j hj H.1
    obtain ⟨F, g1, g2⟩ := H.2.1
    refine ⟨h1, ⟨F, fun x hx => (h3 x (g1 x hx)).1, OwnC.heap D.z _ (fun r hr => (h3 r (g1 r hr)).2) g2⟩, fun k off e => ?_⟩
    obtain ⟨r0, o0, len, row, es, k1, k2, k3, k4, k5, k6⟩ := H.2.2 k off e
    exact ⟨r0, o0, len, row, es, by rw [h2]; exact k1, k2, k3, by rw [D.top j hj H.1 r0 (by rw [k1]; simp [rid])]; exact k4, k5, k6⟩
  | .st l, a, hl, H => by
    simp only [Cln] at hl
    simp only [TVR] at *
    obtain ⟨as, e, H⟩ := H
    exact ⟨as, e, TVRs.cd D l hl H⟩
  | .tup l, a, hl, H => by
    simp only [Cln] at hl
    simp only [TVR] at *
    obtain ⟨as, e, H⟩ := H
    exact ⟨as, e, TVRs.cd D l hl H⟩
  | .box b off, a, _, H => by
    simp only [TVR] at *
    obtain ⟨h1, h2⟩ := D.box b H.1
    exact ⟨h1, by rw [h2]; exact H.2⟩
  | .rptr j idx off, a, _, H => by
    simp only [TVR] at *
    obtain ⟨h1, h2⟩ := D.row j H.1
    rw [h2]
    exact ⟨h1, H.2⟩
  | .lptr l, a, hl, H => by
    simp only [Cln] at hl
    simp only [TVR] at *
    obtain ⟨as, g, H⟩ := H
    refine ⟨as, TVRs.cd D l hl g, ?_⟩
    rcases H with H | ⟨r, idx, off, row, es, e, g1, g2, g3⟩
    · exact .inl H
    · exact .inr ⟨r, idx, off, row, es, e, (D.z r g1).1, by rw [(D.z r g1).2]; exact g2, g3⟩
  | .vptr j l, a, hl, H => by
    simp only [Cln] at hl
    simp only [TVR] at *
    obtain ⟨h1, h2⟩ := D.row j H.1
    have h3 := D.rest j hl.1 H.1
    obtain ⟨as, g, H⟩ := H.2
    refine ⟨h1, as, TVRs.cd D l hl.2 g, ?_⟩
    rcases H with H | ⟨r, idx, off, row, es, e, g1, g2, g3⟩
    · exact .inl H
    · rcases g1 with g1 | g1
      · exact .inr ⟨r, idx, off, row, es, e, .inl (h3 r g1).1, by rw [(h3 r g1).2]; exact g2, g3⟩
      · exact .inr ⟨r, idx, off, row, es, e, .inr (D.z r g1).1, by rw [(D.z r g1).2]; exact g2, g3⟩
  | .fn f l, a, hl, H => by
    simp only [Cln] at hl
    simp only [TVR] at *
    obtain ⟨as, e, H⟩ := H
    exact ⟨as, e, TVRs.cd D l hl H⟩
  | .gd _ _ _, a, _, H => by simp only [TVR] at H
theorem TVRs.cd {P : Nat → Bool} {M M' : Mp} {h h' : Heap} (D : CD P M h M' h') : ∀ (l : List TV) {as : List AV}, Clns P l → TVRs M h l as → TVRs M' h' l as
  | [], as, _, H => by simpa only [TVRs] using H
  | v :: l, [], _, H => by simp only [TVRs] at H
  | v :: l, a :: as, hl, H => by
    simp only [Clns] at hl
    simp only [TVRs] at *
    exact ⟨TVR.cd D v hl.1 H.1, TVRs.cd D l hl.2 H.2⟩
end
theorem Dims.same (i : Nat) (M : Mp) (h : Heap) : Dims i M h M h := ⟨fun b hb => ⟨hb, rfl⟩, fun j hj => ⟨hj, rfl⟩, fun _ _ _ x hx => ⟨hx, rfl⟩, fun _ _ _ _ _ => rfl, .refl _ _⟩

/-! Rows that are changed at once. -/
def VS.upds : List (Nat × VSlot) → VS → VS
  | [], s => s
  | (i, sl) :: l, s => VS.upds l { s.touch i with rows := s.rows.set i (some sl) }
def memB (i : Nat) : List Nat → Bool
  | [] => false
  | j :: l => j == i || memB i l
theorem memB_iff {i : Nat} : ∀ {l : List Nat}, memB i l = true ↔ i ∈ l
  | [] => by simp [memB]
  | j :: l => by simp only [memB, Bool.or_eq_true, beq_iff_eq, memB_iff, List.mem_cons]; constructor <;> rintro (h | h) <;> simp [h]
/-- What a state's values and boxes are behind it. -/
theorem upds_vals {M : Mp} {env : List AV} {h : Heap} : ∀ (L : List (Nat × VSlot)) (s : VS) (P : Nat → Bool), (∀ (t : Nat) v, s.env[t]? = some v → Cln P v) → (∀ b cs, s.box? b = some cs → Clns P cs) →
    (∀ (t : Nat) v a, s.env[t]? = some v → env[t]? = some a → EVR M h env v a) → (∀ (t g : Nat) w v, s.env[t]? = some (.gd g w v) → (t, g) ∈ s.gds) →
    (VS.upds L s).env.length = s.env.length ∧ (VS.upds L s).boxes.length = s.boxes.length ∧ (VS.upds L s).gds = s.gds ∧ (VS.upds L s).pn = s.pn ∧
    (∀ (t : Nat) v, (VS.upds L s).env[t]? = some v → Cln (fun j => P j || memB j (L.map (·.1))) v) ∧ (∀ b cs, (VS.upds L s).box? b = some cs → Clns (fun j => P j || memB j (L.map (·.1))) cs ∧ ∀ as, (∃ cs0, s.box? b = some cs0 ∧ (TVRs M h cs0 as → TVRs M h cs as)) ∨ False) ∧
    (∀ (t : Nat) v a, (VS.upds L s).env[t]? = some v → env[t]? = some a → EVR M h env v a) ∧ (∀ (t g : Nat) w v, (VS.upds L s).env[t]? = some (.gd g w v) → (t, g) ∈ s.gds)
  | [], s, P, h1, h2, h3, h4 => ⟨rfl, rfl, rfl, rfl, fun t v hv => by simpa [memB] using h1 t v hv, fun b cs hb => ⟨by simpa [memB] using h2 b cs hb, fun as => .inl ⟨cs, hb, fun h => h⟩⟩, h3, h4⟩
  | (i, sl) :: L, s, P, h1, h2, h3, h4 => by
    obtain ⟨t1, t2, t3, t4, t5⟩ := touch_rest s i
    have b0 : ∀ b, VS.box? { s.touch i with rows := s.rows.set i (some sl) } b = (s.box? b).map (TV.dims i) := fun b => touch_box? s i b
    obtain ⟨g1, g2, g3, g4, g5, g6, g7, g8⟩ := upds_vals L { s.touch i with rows := s.rows.set i (some sl) } (fun j => P j || j == i) (fun t v hv => by
        simp only [touch_env, Option.map_eq_some_iff] at hv
        obtain ⟨v', hv, rfl⟩ := hv
        exact Cln.dim v' (h1 t v' hv)) (fun b cs hb => by
        rw [b0, Option.map_eq_some_iff] at hb
        obtain ⟨cs', hb, rfl⟩ := hb
        exact Clns.dim cs' (h2 b cs' hb)) (fun t v a hv ha => by
        simp only [touch_env, Option.map_eq_some_iff] at hv
        obtain ⟨v', hv, rfl⟩ := hv
        exact (h3 t v' a hv ha).dim (.same i M h)) (fun t g w v hv => by
        simp only [touch_env, Option.map_eq_some_iff] at hv
        obtain ⟨v', hv, hd⟩ := hv
        obtain ⟨u', rfl⟩ := dim_gd hd
        simp only [t4]
        exact h4 t g w u' hv)
    have hP : ∀ j, (P j || j == i || memB j (L.map (·.1))) = (P j || memB j (((i, sl) :: L).map (·.1))) := fun j => by
      have e : (j == i) = (i == j) := by
        by_cases h : j = i
        · subst h; rfl
        · rw [beq_false_of_ne h, beq_false_of_ne (Ne.symm h)]
      simp only [List.map_cons, memB, Bool.or_assoc, e]
    refine ⟨g1.trans (by simp [t1]), g2.trans (by simp [t2]), g3.trans t4, g4.trans t5, fun t v hv => ?_, fun b cs hb => ?_, g7, fun t g w v hv => ?_⟩
    · have := g5 t v hv
      simpa only [hP] using this
    · obtain ⟨k1, k2⟩ := g6 b cs hb
      refine ⟨by simpa only [hP] using k1, fun as => ?_⟩
      rcases k2 as with ⟨cs0, k3, k4⟩ | k
      · rw [b0, Option.map_eq_some_iff] at k3
        obtain ⟨cs1, k3, rfl⟩ := k3
        exact .inl ⟨cs1, k3, fun H => k4 (H.dim (.same i M h))⟩
      · exact .inr k
    · have := g8 t g w v hv
      simpa only [t4] using this
theorem upds_slot? : ∀ (L : List (Nat × VSlot)) (s : VS), (L.map (·.1)).Nodup → (∀ p ∈ L, ∃ sl, s.slot? p.1 = some sl) → ∀ j, (∀ sl, (j, sl) ∈ L → (VS.upds L s).slot? j = some sl) ∧ (j ∉ L.map (·.1) → (VS.upds L s).slot? j = s.slot? j)
  | [], s, _, _, j => ⟨fun sl h => by simp at h, fun _ => rfl⟩
  | (i, sl) :: L, s, hn, hl, j => by
    simp only [List.map_cons, List.nodup_cons] at hn
    obtain ⟨sl0, h0⟩ := hl (i, sl) List.mem_cons_self
    have hs : ∀ j, VS.slot? { s.touch i with rows := s.rows.set i (some sl) } j = if j = i then some sl else s.slot? j := fun j => by
      have : VS.slot? { s.touch i with rows := s.rows.set i (some sl) } j = VS.slot? { s with rows := s.rows.set i (some sl) } j := slot?_ext rfl j
      rw [this, rows_slot?]
      simp [slot?_lt h0]
    obtain ⟨g1, g2⟩ := upds_slot? L { s.touch i with rows := s.rows.set i (some sl) } hn.2 (fun p hp => by
      rw [hs]
      split
      · exact ⟨_, rfl⟩
      · exact hl p (List.mem_cons_of_mem _ hp)) j
    refine ⟨fun sl' h => ?_, fun h => ?_⟩
    · rcases List.mem_cons.1 h with h | h
      · cases h
        show (VS.upds L _).slot? _ = _
        rw [g2 hn.1, hs, if_pos rfl]
      · exact g1 sl' h
    · simp only [List.map_cons, List.mem_cons, not_or] at h
      show (VS.upds L _).slot? j = _
      rw [g2 h.2, hs, if_neg h.1]
/-- Rows' new relations; 'G' is all that they own. -/
def UpdRel (h' : Heap) (M : Mp) : List (Nat × VSlot) → List Nat → Prop
  | [], G => G = []
  | (i, sl) :: L, G => ∃ N' G2, G = (rid (M.α i) ++ N') ++ G2 ∧ SlotRel h' M.Z sl (M.α i) N' ∧ UpdRel h' M L G2
section
variable {B : Bg} {M : Mp} {env : List AV} {h : Heap} {s : VS}
theorem UpdRel.pick {h' : Heap} : ∀ {L : List (Nat × VSlot)} {G : List Nat}, UpdRel h' M L G → G.Nodup → (L.map (·.1)).Nodup → ∃ N : Nat → List Nat, (∀ p ∈ L, SlotRel h' M.Z p.2 (M.α p.1) (N p.1) ∧ (rid (M.α p.1) ++ N p.1).Nodup ∧ ∀ x ∈ rid (M.α p.1) ++ N p.1, x ∈ G) ∧
    ∀ p ∈ L, ∀ q ∈ L, ∀ x, x ∈ rid (M.α p.1) ++ N p.1 → x ∈ rid (M.α q.1) ++ N q.1 → p.1 = q.1
  | [], G, H, hG, hn => ⟨fun _ => [], fun p hp => by simp at hp, fun p hp => by simp at hp⟩
  | (i, sl) :: L, G, ⟨N', G2, e, h1, h2⟩, hG, hn => by
    subst e
    simp only [List.map_cons, List.nodup_cons] at hn
    obtain ⟨k1, k2, k3⟩ := List.nodup_append.1 hG
    obtain ⟨N, g1, g2⟩ := UpdRel.pick h2 k2 hn.2
    have hne : ∀ p ∈ L, p.1 ≠ i := fun p hp e => hn.1 (by rw [← e]; exact List.mem_map_of_mem hp)
    refine ⟨fun j => if j = i then N' else N j, fun p hp => ?_, fun p hp q hq x hx hy => ?_⟩
    · rcases List.mem_cons.1 hp with rfl | hp
      · simp only [if_true]
        exact ⟨h1, k1, fun x hx => List.mem_append_left _ hx⟩
      · simp only [hne p hp, if_false]
        obtain ⟨u1, u2, u3⟩ := g1 p hp
        exact ⟨u1, u2, fun x hx => List.mem_append_right _ (u3 x hx)⟩
    · rcases List.mem_cons.1 hp with rfl | hp
      · rcases List.mem_cons.1 hq with rfl | hq
        · rfl
        · simp only [if_true] at hx
          simp only [hne q hq, if_false] at hy
          exact absurd rfl (k3 x hx x ((g1 q hq).2.2 x hy))
      · rcases List.mem_cons.1 hq with rfl | hq
        · simp only [if_true] at hy
          simp only [hne p hp, if_false] at hx
          exact absurd rfl (k3 x hy x ((g1 p hp).2.2 x hx))
        · simp only [hne p hp, if_false] at hx
          simp only [hne q hq, if_false] at hy
          exact g2 p hp q hq x hx hy
/-- Rows changed at once. -/
theorem SRel.upds (S : SRel B M env h s) {L : List (Nat × VSlot)} (hn : (L.map (·.1)).Nodup) (hl : ∀ p ∈ L, ∃ sl, s.slot? p.1 = some sl) {h' : Heap} {F G : List Nat} (D : Fr h F [] h') (hF : ∀ x ∈ F, ∃ p ∈ L, x ∈ fp M p.1) (H : UpdRel h' M L G) (hG : G.Nodup)
    (hGF : ∀ x ∈ G, x < h'.next ∧ ((∃ p ∈ L, x ∈ fp M p.1) ∨ h.next ≤ x)) : ∃ M', SRel B M' env h' (VS.upds L s) := by
  obtain ⟨N, p1, p2⟩ := H.pick hG hn
  have hsl := upds_slot? L s hn hl
  have hP : ∀ j, memB j (L.map (·.1)) = false → j ∉ L.map (·.1) := fun j hj hm => by rw [memB_iff.2 hm] at hj; cases hj
  have hmem : ∀ j, j ∈ L.map (·.1) → ∃ sl, (j, sl) ∈ L := fun j hj => by
    obtain ⟨p, hp, rfl⟩ := List.mem_map.1 hj
    exact ⟨p.2, hp⟩
  have hun : ∀ j, j ∉ L.map (·.1) → ∀ x ∈ fp M j, x ∉ F := fun j hj x hx hf => by
    obtain ⟨p, hp, hx'⟩ := hF x hf
    have := S.dj j p.1 x hx hx'
    exact hj (by rw [this]; exact List.mem_map_of_mem hp)
  have hZ : ZUp h M.Z h' M.Z := fun x hx => ⟨hx, D.rows x (S.zlt x hx) fun hf => by
    obtain ⟨p, _, hx'⟩ := hF x hf
    exact S.zdj x hx p.1 hx'⟩
  have hsame : ∀ j, j ∉ L.map (·.1) → ∀ x ∈ fp M j, h'.rows x = h.rows x := fun j hj x hx => D.rows x (S.lt j x hx) (hun j hj x hx)
  let M' : Mp := { M with N := fun j => if j ∈ L.map (·.1) then N j else M.N j }
  have hfp : ∀ j, fp M' j = if j ∈ L.map (·.1) then rid (M.α j) ++ N j else fp M j := fun j => by
    show rid (M.α j) ++ (if _ then _ else _) = _
    split <;> rfl
  have hlv : ∀ p ∈ L, M.lv p.1 = true := fun p hp => by obtain ⟨sl, h⟩ := hl p hp; exact S.live0 h
  have C : CD (fun j => false || memB j (L.map (·.1))) M h M' h' := ⟨fun b hb => ⟨hb, rfl⟩, fun j hj => ⟨hj, rfl⟩, fun j hj _ x hx => by
      have hj' := hP j (by simpa using hj)
      refine ⟨?_, hsame j hj' x (List.mem_append_right _ hx)⟩
      show x ∈ (if _ then _ else _)
      rw [if_neg hj']; exact hx,
    fun j hj _ x hx => hsame j (hP j (by simpa using hj)) x (List.mem_append_left _ hx), hZ⟩
  obtain ⟨g1, g2, g3, g4, g5, g6, g7, g8⟩ := upds_vals (M := M) (env := env) (h := h) L s (fun _ => false) (fun _ v _ => Cln.no v) (fun _ cs _ => Clns.no cs) S.env S.gd
  have inG : ∀ j, j ∈ L.map (·.1) → ∀ x ∈ fp M' j, x ∈ G := fun j hj x hx => by
    obtain ⟨sl, hm⟩ := hmem j hj
    rw [hfp, if_pos hj] at hx
    exact (p1 _ hm).2.2 x hx
  have hbx : h'.boxes.length ≥ h.boxes.length := D.bx
  refine ⟨M', g1.trans S.len, fun t v a h1 h2 => ?_, by rw [g2]; exact S.nb, fun b cs hb => ?_, S.binj, fun b hb => ⟨(S.bown b hb).1, Nat.lt_of_lt_of_le (S.bown b hb).2 D.bx⟩, fun j => ?_, fun j sl hs => ?_, fun j hj => ?_, fun j x hx => ?_, fun j => ?_, fun j k x h1 h2 => ?_, fun t g w v h1 => by rw [g3]; exact g8 t g w v h1,
    fun j x hx => ?_, fun x h1 h2 => ?_, fun b h1 h2 => ?_, Nat.le_trans S.nx D.nx, Nat.le_trans S.bx D.bx, S.hand, fun x hx => Nat.lt_of_lt_of_le (S.zlt x hx) D.nx, fun x hx j hj => ?_, S.zown, S.bz, g4.trans S.pn, S.pin⟩
  · have hc := g5 t v h1
    have hv := g7 t v a h1 h2
    cases v with
    | gd g w v =>
      simp only [Cln] at hc
      exact ⟨fun e => (hv.1 e).cd C _ hc, hv.2⟩
    | _ => exact .of (TVR.cd C _ hc hv)
  · obtain ⟨k1, k2⟩ := g6 b cs hb
    obtain ⟨cs0, k3, _⟩ := (k2 []).resolve_right id
    obtain ⟨as, u1, u2⟩ := S.box b cs0 k3
    obtain ⟨cs0', k3', k4⟩ := (k2 as).resolve_right id
    rw [k3] at k3'
    cases k3'
    have hlt : b < M.nb := by rw [S.nb]; exact (List.getElem?_eq_some_iff.1 (VS.box?_eq.1 k3)).1
    exact ⟨as, by rw [D.boxes _ (S.bown b hlt).2 (by simp)]; exact u1, TVRs.cd C _ k1 (k4 u2)⟩
  · show M.lv j = _
    by_cases hj : j ∈ L.map (·.1)
    · obtain ⟨sl, hm⟩ := hmem j hj
      rw [(hsl j).1 sl hm, hlv _ hm]; rfl
    · rw [(hsl j).2 hj]; exact S.lv j
  · by_cases hj : j ∈ L.map (·.1)
    · obtain ⟨sl', hm⟩ := hmem j hj
      rw [(hsl j).1 sl' hm] at hs
      cases hs
      show SlotRel h' M.Z sl (M.α j) (if _ then _ else _)
      rw [if_pos hj]
      exact (p1 _ hm).1
    · rw [(hsl j).2 hj] at hs
      show SlotRel h' M.Z sl (M.α j) (if _ then _ else _)
      rw [if_neg hj]
      exact (S.slot j sl hs).heap hZ fun x hx => hsame j hj x hx
  · have hj' : j ∉ L.map (·.1) := fun hm => by
      obtain ⟨sl, hm⟩ := hmem j hm
      have := hlv _ hm
      have hj : M.lv j = false := hj
      rw [hj] at this; cases this
    show M.α j = _ ∧ (if _ then _ else _) = _
    rw [if_neg hj']
    exact S.dead j hj
  · by_cases hj : j ∈ L.map (·.1)
    · exact (hGF x (inG j hj x hx)).1
    · rw [hfp, if_neg hj] at hx
      exact Nat.lt_of_lt_of_le (S.lt j x hx) D.nx
  · rw [hfp]
    split
    · rename_i hj
      obtain ⟨sl, hm⟩ := hmem j hj
      exact (p1 _ hm).2.1
    · exact S.nd j
  · have cross : ∀ j k, j ∈ L.map (·.1) → k ∉ L.map (·.1) → x ∈ fp M' j → x ∉ fp M' k := fun j k hj hk h1 h2 => by
      rw [hfp, if_neg hk] at h2
      rcases (hGF x (inG j hj x h1)).2 with ⟨p, hp, hx⟩ | hx
      · have := S.dj k p.1 x h2 hx
        exact hk (by rw [this]; exact List.mem_map_of_mem hp)
      · have := S.lt k x h2; omega
    by_cases hj : j ∈ L.map (·.1) <;> by_cases hk : k ∈ L.map (·.1)
    · obtain ⟨sl, hm⟩ := hmem j hj
      obtain ⟨sl2, hm2⟩ := hmem k hk
      rw [hfp, if_pos hj] at h1
      rw [hfp, if_pos hk] at h2
      exact p2 _ hm _ hm2 x h1 h2
    · exact absurd h2 (cross j k hj hk h1)
    · exact absurd h1 (cross k j hk hj h2)
    · rw [hfp, if_neg hj] at h1
      rw [hfp, if_neg hk] at h2
      exact S.dj j k x h1 h2
  · by_cases hj : j ∈ L.map (·.1)
    · rcases (hGF x (inG j hj x hx)).2 with ⟨p, hp, hx'⟩ | hx'
      · exact S.own p.1 x hx'
      · exact .inr (Nat.le_trans S.nx hx')
    · rw [hfp, if_neg hj] at hx
      exact S.own j x hx
  · rw [← S.fr x h1 h2]
    refine D.rows x (Nat.lt_of_lt_of_le h1 S.nx) fun hf => ?_
    obtain ⟨p, _, hx'⟩ := hF x hf
    rcases S.own p.1 x hx' with h3 | h3
    · exact h2 h3
    · omega
  · rw [D.boxes b (Nat.lt_of_lt_of_le h1 S.bx) (by simp)]
    exact S.frb b h1 h2
  · by_cases hjm : j ∈ L.map (·.1)
    · rcases (hGF x (inG j hjm x hj)).2 with ⟨p, hp, hx'⟩ | hx'
      · exact S.zdj x hx p.1 hx'
      · have := S.zlt x hx; omega
    · rw [hfp, if_neg hjm] at hj
      exact S.zdj x hx j hj
end
end Go.PA
