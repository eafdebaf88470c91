/- Typed values: the state's relation to plain values and heap; rows given up, rows changed, new rows. No condition. -/
import Derived.Test.YtaekmccjendfoaaV4
namespace Go.PA
set_option linter.unusedVariables false
set_option linter.unusedSimpArgs false

/-- Which plain slice is each row, what its elements own, which plain box is each box. -/
structure Mp where
  α : Nat → AV
  N : Nat → List Nat
  lv : Nat → Bool
  β : Nat → Nat
  nb : Nat
  Z : List Nat

mutual
def TVR (M : Mp) (h : Heap) : TV → AV → Prop
  | .bad, _ => True
  | .nil, a => a = .nils
  | .int k n, a => a = .int k n
  | .bool b, a => a = .bool b
  | .str s, a => a = .str s
  | .lst cs xs, a => LitC h M.Z (.sl cs) xs a
  | .ref i, a => M.lv i = true ∧ a = M.α i
  | .sub i lo hi, a => M.lv i = true ∧ 0 ≤ lo ∧ lo ≤ hi ∧ ((∃ r off len, M.α i = .ref r off len ∧ hi ≤ (len : Int) ∧ ((a = .ref r (off + lo.toNat) (hi.toNat - lo.toNat) ∧ ¬ (lo = hi ∧ lo ≠ 0)) ∨ (lo = hi ∧ lo ≠ 0 ∧ ∃ f, a = .lit f []))) ∨ (M.α i = .nils ∧ lo = 0 ∧ hi = 0 ∧ a = .nils))
  | .vw i o cs xs, a => M.lv i = true ∧ (∃ F, (∀ x ∈ F, x ∈ M.N i) ∧ OwnC h M.Z .A (.sl cs) xs a F) ∧
      ∀ k off, o = some (k, off) → ∃ r0 o0 len row es, M.α i = .ref r0 o0 len ∧ 0 ≤ k ∧ k < (len : Int) ∧ h.rows r0 = some row ∧ row.el[o0 + k.toNat]? = some es ∧ es[off]? = some a
  | .st l, a => ∃ as, a = .agg as ∧ TVRs M h l as
  | .tup l, a => ∃ as, a = .tup as ∧ TVRs M h l as
  | .box b off, a => b < M.nb ∧ a = .box (M.β b) off
  | .rptr i idx off, a => M.lv i = true ∧ ∃ r o len, M.α i = .ref r o len ∧ 0 ≤ idx ∧ idx < (len : Int) ∧ a = .rptr r (o + idx.toNat) off
  | .lptr l, a => ∃ as, TVRs M h l as ∧ (a = .lptr as ∨ ∃ r idx off row es, a = .rptr r idx off ∧ r ∈ M.Z ∧ h.rows r = some row ∧ row.el[idx]? = some es ∧ as = es.drop off)
  | .vptr i l, a => M.lv i = true ∧ ∃ as, TVRs M h l as ∧ (a = .lptr as ∨ ∃ r idx off row es, a = .rptr r idx off ∧ (r ∈ M.N i ∨ r ∈ M.Z) ∧ h.rows r = some row ∧ row.el[idx]? = some es ∧ as = es.drop off)
  | .fn f caps, a => ∃ as, a = .fn f as ∧ TVRs M h caps as
  | .gd _ _ _, _ => False
termination_by structural x => x
def TVRs (M : Mp) (h : Heap) : List TV → List AV → Prop
  | [], as => as = []
  | v :: l, as => match as with
    | [] => False
    | a :: as => TVR M h v a ∧ TVRs M h l as
termination_by structural x => x
end

theorem TVRs.iff {M : Mp} {h : Heap} : ∀ {l : List TV} {as : List AV}, TVRs M h l as ↔ All2 (TVR M h) l as
  | [], [] => by simp [TVRs, All2]
  | [], _ :: _ => by simp [TVRs, All2]
  | _ :: _, [] => by simp [TVRs, All2]
  | v :: l, a :: as => by simp only [TVRs, All2]; rw [TVRs.iff]

/-- What was told stays told. -/
structure Mono (M : Mp) (h : Heap) (M' : Mp) (h' : Heap) : Prop where
  box : ∀ b, b < M.nb → b < M'.nb ∧ M'.β b = M.β b
  row : ∀ j, M.lv j = true → M'.lv j = true ∧ M'.α j = M.α j ∧ ∀ x ∈ M.N j, x ∈ M'.N j ∧ h'.rows x = h.rows x
  top : ∀ j, M.lv j = true → ∀ x ∈ rid (M.α j), h'.rows x = h.rows x
  z : ZUp h M.Z h' M'.Z

theorem Mono.refl (M : Mp) (h : Heap) : Mono M h M h := ⟨fun b hb => ⟨hb, rfl⟩, fun j hj => ⟨hj, rfl, fun x hx => ⟨hx, rfl⟩⟩, fun _ _ _ _ => rfl, .refl _ _⟩
theorem Mono.trans {M1 M2 M3 : Mp} {h1 h2 h3 : Heap} (a : Mono M1 h1 M2 h2) (b : Mono M2 h2 M3 h3) : Mono M1 h1 M3 h3 where
  box j hj := ⟨(b.box j (a.box j hj).1).1, (b.box j (a.box j hj).1).2.trans (a.box j hj).2⟩
  row j hj := by
    obtain ⟨g1, g2, g3⟩ := a.row j hj
    obtain ⟨k1, k2, k3⟩ := b.row j g1
    exact ⟨k1, k2.trans g2, fun x hx => ⟨(k3 x (g3 x hx).1).1, (k3 x (g3 x hx).1).2.trans (g3 x hx).2⟩⟩
  top j hj x hx := by
    obtain ⟨g1, g2, g3⟩ := a.row j hj
    exact (b.top j g1 x (by rw [g2]; exact hx)).trans (a.top j hj x hx)
  z := a.z.trans b.z
mutual
theorem TVR.mono {M M' : Mp} {h h' : Heap} (D : Mono M h M' h') : ∀ (v : TV) {a : AV}, TVR M h v a → TVR M' h' v a
  | .bad, a, _ => by simp only [TVR]
  | .nil, a, H => by simpa only [TVR] using H
  | .int k n, a, H => by simpa only [TVR] using H
  | .bool b, a, H => by simpa only [TVR] using H
  | .str s, a, H => by simpa only [TVR] using H
  | .lst cs xs, a, H => by simp only [TVR] at *; exact LitC.up D.z _ H
  | .ref i, a, H => by
    simp only [TVR] at *
    obtain ⟨h1, h2, _⟩ := D.row i H.1
    exact ⟨h1, by rw [h2]; exact H.2⟩
  | .sub i lo hi, a, H => by
    simp only [TVR] at *
    obtain ⟨h1, h2, _⟩ := D.row i H.1
    rw [h2]
    exact ⟨h1, H.2⟩
  | .vw i o cs xs, a, H => by
    simp only [TVR] at *
    obtain ⟨h1, h2, h3⟩ := D.row i H.1
    obtain ⟨F, g1, g2⟩ := H.2.1
    refine ⟨h1, ⟨F, fun x hx => (h3 x (g1 x hx)).1, OwnC.heap D.z _ (fun r hr => (h3 r (g1 r hr)).2) g2⟩, fun k off e => ?_⟩
    obtain ⟨r0, o0, len, row, es, k1, k2, k3, k4, k5, k6⟩ := H.2.2 k off e
    exact ⟨r0, o0, len, row, es, by rw [h2]; exact k1, k2, k3, by rw [D.top i H.1 r0 (by rw [k1]; simp [rid])]; exact k4, k5, k6⟩
  | .st l, a, H => by
    simp only [TVR] at *
    obtain ⟨as, e, H⟩ := H
    exact ⟨as, e, TVRs.mono D l H⟩
  | .tup l, a, H => by
    simp only [TVR] at *
    obtain ⟨as, e, H⟩ := H
    exact ⟨as, e, TVRs.mono D l H⟩
  | .box b off, a, H => by
    simp only [TVR] at *
    obtain ⟨h1, h2⟩ := D.box b H.1
    exact ⟨h1, by rw [h2]; exact H.2⟩
  | .rptr i idx off, a, H => by
    simp only [TVR] at *
    obtain ⟨h1, h2, _⟩ := D.row i H.1
    rw [h2]
    exact ⟨h1, H.2⟩
  | .lptr l, a, H => by
    simp only [TVR] at *
    obtain ⟨as, g, H⟩ := H
    refine ⟨as, TVRs.mono D l g, ?_⟩
    rcases H with H | ⟨r, idx, off, row, es, e, g1, g2, g3⟩
    · exact .inl H
    · exact .inr ⟨r, idx, off, row, es, e, (D.z r g1).1, by rw [(D.z r g1).2]; exact g2, g3⟩
  | .vptr i l, a, H => by
    simp only [TVR] at *
    obtain ⟨h1, h2, h3⟩ := D.row i H.1
    obtain ⟨as, g, H⟩ := H.2
    refine ⟨h1, as, TVRs.mono D l g, ?_⟩
    rcases H with H | ⟨r, idx, off, row, es, e, g1, g2, g3⟩
    · exact .inl H
    · rcases g1 with g1 | g1
      · exact .inr ⟨r, idx, off, row, es, e, .inl (h3 r g1).1, by rw [(h3 r g1).2]; exact g2, g3⟩
      · exact .inr ⟨r, idx, off, row, es, e, .inr (D.z r g1).1, by rw [(D.z r g1).2]; exact g2, g3⟩
  | .fn f l, a, H => by
    simp only [TVR] at *
    obtain ⟨as, e, H⟩ := H
    exact ⟨as, e, TVRs.mono D l H⟩
  | .gd _ _ _, a, H => by simp only [TVR] at H
theorem TVRs.mono {M M' : Mp} {h h' : Heap} (D : Mono M h M' h') : ∀ (l : List TV) {as : List AV}, TVRs M h l as → TVRs M' h' l as
  | [], as, H => by simpa only [TVRs] using H
  | v :: l, [], H => by simp only [TVRs] at H
  | v :: l, a :: as, H => by
    simp only [TVRs] at *
    exact ⟨TVR.mono D v H.1, TVRs.mono D l H.2⟩
end

/-- Row 'i' is no more. -/
structure Kills (i : Nat) (M : Mp) (h : Heap) (M' : Mp) (h' : Heap) : Prop where
  box : ∀ b, b < M.nb → b < M'.nb ∧ M'.β b = M.β b
  row : ∀ j, j ≠ i → M.lv j = true → M'.lv j = true ∧ M'.α j = M.α j ∧ ∀ x ∈ M.N j, x ∈ M'.N j ∧ h'.rows x = h.rows x
  top : ∀ j, j ≠ i → M.lv j = true → ∀ x ∈ rid (M.α j), h'.rows x = h.rows x
  z : ZUp h M.Z h' M'.Z
mutual
theorem TVR.kill {i : Nat} {M M' : Mp} {h h' : Heap} (D : Kills i M h M' h') : ∀ (v : TV) {a : AV}, TVR M h v a → TVR M' h' (v.kill i) a
  | .bad, a, _ => by simp only [TVR, TV.kill]
  | .nil, a, H => by simpa only [TVR, TV.kill] using H
  | .int k n, a, H => by simpa only [TVR, TV.kill] using H
  | .bool b, a, H => by simpa only [TVR, TV.kill] using H
  | .str s, a, H => by simpa only [TVR, TV.kill] using H
  | .lst cs xs, a, H => by simp only [TVR, TV.kill] at *; exact LitC.up D.z _ H
  | .ref j, a, H => by
    simp only [TV.kill]
    split
    · simp only [TVR]
    · rename_i hj
      simp only [TVR] at *
      obtain ⟨h1, h2, _⟩ := D.row j hj H.1
      exact ⟨h1, by rw [h2]; exact H.2⟩
  | .sub j lo hi, a, H => by
    simp only [TV.kill]
    split
    · simp only [TVR]
    · rename_i hj
      simp only [TVR] at *
      obtain ⟨h1, h2, _⟩ := D.row j hj H.1
      rw [h2]
      exact ⟨h1, H.2⟩
  | .vw j o cs xs, a, H => by
    simp only [TV.kill]
    split
    · simp only [TVR]
    · rename_i hj
      simp only [TVR] at *
      obtain ⟨h1, h2, h3⟩ := D.row j hj H.1
      obtain ⟨F, g1, g2⟩ := H.2.1
      refine ⟨h1, ⟨F, fun x hx => (h3 x (g1 x hx)).1, OwnC.heap D.z _ (fun r hr => (h3 r (g1 r hr)).2) g2⟩, fun k off e => ?_⟩
      obtain ⟨r0, o0, len, row, es, k1, k2, k3, k4, k5, k6⟩ := H.2.2 k off e
      exact ⟨r0, o0, len, row, es, by rw [h2]; exact k1, k2, k3, by rw [D.top j hj H.1 r0 (by rw [k1]; simp [rid])]; exact k4, k5, k6⟩
  | .st l, a, H => by
    simp only [TVR, TV.kill] at *
    obtain ⟨as, e, H⟩ := H
    exact ⟨as, e, TVRs.kill D l H⟩
  | .tup l, a, H => by
    simp only [TVR, TV.kill] at *
    obtain ⟨as, e, H⟩ := H
    exact ⟨as, e, TVRs.kill D l H⟩
  | .box b off, a, H => by
    simp only [TVR, TV.kill] at *
    obtain ⟨h1, h2⟩ := D.box b H.1
    exact ⟨h1, by rw [h2]; exact H.2⟩
  | .rptr j idx off, a, H => by
    simp only [TV.kill]
    split
    · simp only [TVR]
    · rename_i hj
      simp only [TVR] at *
      obtain ⟨h1, h2, _⟩ := D.row j hj H.1
      rw [h2]
      exact ⟨h1, H.2⟩
  | .lptr l, a, H => by
    simp only [TVR, TV.kill] at *
    obtain ⟨as, g, H⟩ := H
    refine ⟨as, TVRs.kill D l g, ?_⟩
    rcases H with H | ⟨r, idx, off, row, es, e, g1, g2, g3⟩
    · exact .inl H
    · exact .inr ⟨r, idx, off, row, es, e, (D.z r g1).1, by rw [(D.z r g1).2]; exact g2, g3⟩
  | .vptr j l, a, H => by
    simp only [TV.kill]
    split
    · simp only [TVR]
    · rename_i hj
      simp only [TVR] at *
      obtain ⟨h1, h2, h3⟩ := D.row j hj H.1
      obtain ⟨as, g, H⟩ := H.2
      refine ⟨h1, as, TVRs.kill D l g, ?_⟩
      rcases H with H | ⟨r, idx, off, row, es, e, g1, g2, g3⟩
      · exact .inl H
      · rcases g1 with g1 | g1
        · exact .inr ⟨r, idx, off, row, es, e, .inl (h3 r g1).1, by rw [(h3 r g1).2]; exact g2, g3⟩
        · exact .inr ⟨r, idx, off, row, es, e, .inr (D.z r g1).1, by rw [(D.z r g1).2]; exact g2, g3⟩
  | .fn f l, a, H => by
    simp only [TVR, TV.kill] at *
    obtain ⟨as, e, H⟩ := H
    exact ⟨as, e, TVRs.kill D l H⟩
  | .gd _ _ _, a, H => by simp only [TVR] at H
theorem TVRs.kill {i : Nat} {M M' : Mp} {h h' : Heap} (D : Kills i M h M' h') : ∀ (l : List TV) {as : List AV}, TVRs M h l as → TVRs M' h' (TV.kills i l) as
  | [], as, H => by simpa only [TVRs, TV.kills] using H
  | v :: l, [], H => by simp only [TVRs] at H
  | v :: l, a :: as, H => by
    simp only [TVRs, TV.kills] at *
    exact ⟨TVR.kill D v H.1, TVRs.kill D l H.2⟩
end

/-- What row 'i's elements own has changed. -/
structure Dims (i : Nat) (M : Mp) (h : Heap) (M' : Mp) (h' : Heap) : Prop where
  box : ∀ b, b < M.nb → b < M'.nb ∧ M'.β b = M.β b
  row : ∀ j, M.lv j = true → M'.lv j = true ∧ M'.α j = M.α j
  rest : ∀ j, j ≠ i → M.lv j = true → ∀ x ∈ M.N j, x ∈ M'.N j ∧ h'.rows x = h.rows x
  top : ∀ j, j ≠ i → M.lv j = true → ∀ x ∈ rid (M.α j), h'.rows x = h.rows x
  z : ZUp h M.Z h' M'.Z
mutual
theorem TVR.dim {i : Nat} {M M' : Mp} {h h' : Heap} (D : Dims i M h M' h') : ∀ (v : TV) {a : AV}, TVR M h v a → TVR M' h' (v.dim i) a
  | .bad, a, _ => by simp only [TVR, TV.dim]
  | .nil, a, H => by simpa only [TVR, TV.dim] using H
  | .int k n, a, H => by simpa only [TVR, TV.dim] using H
  | .bool b, a, H => by simpa only [TVR, TV.dim] using H
  | .str s, a, H => by simpa only [TVR, TV.dim] using H
  | .lst cs xs, a, H => by simp only [TVR, TV.dim] at *; exact LitC.up D.z _ H
  | .ref j, a, H => by
    simp only [TVR, TV.dim] at *
    obtain ⟨h1, h2⟩ := D.row j H.1
    exact ⟨h1, by rw [h2]; exact H.2⟩
  | .sub j lo hi, a, H => by
    simp only [TVR, TV.dim] at *
    obtain ⟨h1, h2⟩ := D.row j H.1
    rw [h2]
    exact ⟨h1, H.2⟩
  | .vw j o cs xs, a, H => by
    simp only [TV.dim]
    split
    · simp only [TVR]
    · rename_i hj
      simp only [TVR] at *
      obtain ⟨h1, h2⟩ := D.row j H.1
      have h3 := D.rest j hj H.1
      obtain ⟨F, g1, g2⟩ := H.2.1
      refine ⟨h1, ⟨F, fun x hx => (h3 x (g1 x hx)).1, OwnC.heap D.z _ (fun r hr => (h3 r (g1 r hr)).2) g2⟩, fun k off e => ?_⟩
      obtain ⟨r0, o0, len, row, es, k1, k2, k3, k4, k5, k6⟩ := H.2.2 k off e
      exact ⟨r0, o0, len, row, es, by rw [h2]; exact k1, k2, k3, by rw [D.top j hj H.1 r0 (by rw [k1]; simp [rid])]; exact k4, k5, k6⟩
  | .st l, a, H => by
    simp only [TVR, TV.dim] at *
    obtain ⟨as, e, H⟩ := H
    exact ⟨as, e, TVRs.dim D l H⟩
  | .tup l, a, H => by
    simp only [TVR, TV.dim] at *
    obtain ⟨as, e, H⟩ := H
    exact ⟨as, e, TVRs.dim D l H⟩
  | .box b off, a, H => by
    simp only [TVR, TV.dim] at *
    obtain ⟨h1, h2⟩ := D.box b H.1
    exact ⟨h1, by rw [h2]; exact H.2⟩
  | .rptr j idx off, a, H => by
    simp only [TVR, TV.dim] at *
    obtain ⟨h1, h2⟩ := D.row j H.1
    rw [h2]
    exact ⟨h1, H.2⟩
  | .lptr l, a, H => by
    simp only [TVR, TV.dim] at *
    obtain ⟨as, g, H⟩ := H
    refine ⟨as, TVRs.dim D l g, ?_⟩
    rcases H with H | ⟨r, idx, off, row, es, e, g1, g2, g3⟩
    · exact .inl H
    · exact .inr ⟨r, idx, off, row, es, e, (D.z r g1).1, by rw [(D.z r g1).2]; exact g2, g3⟩
  | .vptr j l, a, H => by
    simp only [TV.dim]
    split
    · simp only [TVR]
    · rename_i hj
      simp only [TVR] at *
      obtain ⟨h1, h2⟩ := D.row j H.1
      have h3 := D.rest j hj H.1
      obtain ⟨as, g, H⟩ := H.2
      refine ⟨h1, as, TVRs.dim D l g, ?_⟩
      rcases H with H | ⟨r, idx, off, row, es, e, g1, g2, g3⟩
      · exact .inl H
      · rcases g1 with g1 | g1
        · exact .inr ⟨r, idx, off, row, es, e, .inl (h3 r g1).1, by rw [(h3 r g1).2]; exact g2, g3⟩
        · exact .inr ⟨r, idx, off, row, es, e, .inr (D.z r g1).1, by rw [(D.z r g1).2]; exact g2, g3⟩
  | .fn f l, a, H => by
    simp only [TVR, TV.dim] at *
    obtain ⟨as, e, H⟩ := H
    exact ⟨as, e, TVRs.dim D l H⟩
  | .gd _ _ _, a, H => by simp only [TVR] at H
theorem TVRs.dim {i : Nat} {M M' : Mp} {h h' : Heap} (D : Dims i M h M' h') : ∀ (l : List TV) {as : List AV}, TVRs M h l as → TVRs M' h' (TV.dims i l) as
  | [], as, H => by simpa only [TVRs, TV.dims] using H
  | v :: l, [], H => by simp only [TVRs] at H
  | v :: l, a :: as, H => by
    simp only [TVRs, TV.dims] at *
    exact ⟨TVR.dim D v H.1, TVRs.dim D l H.2⟩
end

/-- What row 'i's elements own is written no more. -/
structure Fz (i : Nat) (M : Mp) (h : Heap) (M' : Mp) : Prop where
  box : ∀ b, b < M.nb → b < M'.nb ∧ M'.β b = M.β b
  row : ∀ j, M.lv j = true → M'.lv j = true ∧ M'.α j = M.α j
  rest : ∀ j, j ≠ i → M.lv j = true → ∀ x ∈ M.N j, x ∈ M'.N j
  all : ∀ x ∈ M.N i, x ∈ M'.Z
  z : ∀ x ∈ M.Z, x ∈ M'.Z
mutual
theorem TVR.fz {i : Nat} {M M' : Mp} {h : Heap} (D : Fz i M h M') : ∀ (v : TV) {a : AV}, TVR M h v a → TVR M' h (v.fz i) a
  | .bad, a, _ => by simp only [TVR, TV.fz]
  | .nil, a, H => by simpa only [TVR, TV.fz] using H
  | .int k n, a, H => by simpa only [TVR, TV.fz] using H
  | .bool b, a, H => by simpa only [TVR, TV.fz] using H
  | .str s, a, H => by simpa only [TVR, TV.fz] using H
  | .lst cs xs, a, H => by simp only [TVR, TV.fz] at *; exact LitC.up (fun r hr => ⟨D.z r hr, rfl⟩) _ H
  | .ref j, a, H => by
    simp only [TVR, TV.fz] at *
    obtain ⟨h1, h2⟩ := D.row j H.1
    exact ⟨h1, by rw [h2]; exact H.2⟩
  | .sub j lo hi, a, H => by
    simp only [TVR, TV.fz] at *
    obtain ⟨h1, h2⟩ := D.row j H.1
    rw [h2]
    exact ⟨h1, H.2⟩
  | .vw j o cs xs, a, H => by
    simp only [TV.fz]
    simp only [TVR] at H
    obtain ⟨F, g1, g2⟩ := H.2.1
    split
    · rename_i hj
      subst hj
      simp only [TVR]
      exact OwnC.froz D.z _ (fun r hr => D.all r (g1 r hr)) g2
    · rename_i hj
      simp only [TVR]
      obtain ⟨h1, h2⟩ := D.row j H.1
      refine ⟨h1, ⟨F, fun x hx => D.rest j hj H.1 x (g1 x hx), OwnC.heap (fun r hr => ⟨D.z r hr, rfl⟩) _ (fun _ _ => rfl) g2⟩, fun k off e => ?_⟩
      rw [h2]; exact H.2.2 k off e
  | .st l, a, H => by
    simp only [TVR, TV.fz] at *
    obtain ⟨as, e, H⟩ := H
    exact ⟨as, e, TVRs.fz D l H⟩
  | .tup l, a, H => by
    simp only [TVR, TV.fz] at *
    obtain ⟨as, e, H⟩ := H
    exact ⟨as, e, TVRs.fz D l H⟩
  | .box b off, a, H => by
    simp only [TVR, TV.fz] at *
    obtain ⟨h1, h2⟩ := D.box b H.1
    exact ⟨h1, by rw [h2]; exact H.2⟩
  | .rptr j idx off, a, H => by
    simp only [TVR, TV.fz] at *
    obtain ⟨h1, h2⟩ := D.row j H.1
    rw [h2]
    exact ⟨h1, H.2⟩
  | .lptr l, a, H => by
    simp only [TVR, TV.fz] at *
    obtain ⟨as, g, H⟩ := H
    refine ⟨as, TVRs.fz D l g, ?_⟩
    rcases H with H | ⟨r, idx, off, row, es, e, g1, g2, g3⟩
    · exact .inl H
    · exact .inr ⟨r, idx, off, row, es, e, D.z r g1, g2, g3⟩
  | .vptr j l, a, H => by
    simp only [TV.fz]
    simp only [TVR] at H
    obtain ⟨as, g, H2⟩ := H.2
    split
    · rename_i hj
      subst hj
      simp only [TVR]
      refine ⟨as, TVRs.fz D l g, ?_⟩
      rcases H2 with H2 | ⟨r, idx, off, row, es, e, g1, g2, g3⟩
      · exact .inl H2
      · exact .inr ⟨r, idx, off, row, es, e, g1.elim (D.all r) (D.z r), g2, g3⟩
    · rename_i hj
      simp only [TVR]
      obtain ⟨h1, h2⟩ := D.row j H.1
      refine ⟨h1, as, TVRs.fz D l g, ?_⟩
      rcases H2 with H2 | ⟨r, idx, off, row, es, e, g1, g2, g3⟩
      · exact .inl H2
      · exact .inr ⟨r, idx, off, row, es, e, g1.imp (D.rest j hj H.1 r) (D.z r), g2, g3⟩
  | .fn f l, a, H => by
    simp only [TVR, TV.fz] at *
    obtain ⟨as, e, H⟩ := H
    exact ⟨as, e, TVRs.fz D l H⟩
  | .gd _ _ _, a, H => by simp only [TVR] at H
theorem TVRs.fz {i : Nat} {M M' : Mp} {h : Heap} (D : Fz i M h M') : ∀ (l : List TV) {as : List AV}, TVRs M h l as → TVRs M' h (TV.fzs i l) as
  | [], as, H => by simpa only [TVRs, TV.fzs] using H
  | v :: l, [], H => by simp only [TVRs] at H
  | v :: l, a :: as, H => by
    simp only [TVRs, TV.fzs] at *
    exact ⟨TVR.fz D v H.1, TVRs.fz D l H.2⟩
end
theorem toTV_lit {M : Mp} {h : Heap} {t : Ty} {j : Nat} {x : t.D} {a : AV} (H : LitC h M.Z t x a) : TVR M h (toTV none j t x) a := by
  cases t <;> simp only [toTV, TVR] <;> first | exact H | (simpa only [LitC] using H)
theorem toTVs_lit {M : Mp} {h : Heap} : ∀ (ts : List Ty) {j : Nat} {x : Ty.Ds ts} {as : List AV}, LitCs h M.Z ts x as → TVRs M h (toTVs none j ts x) as
  | [], j, x, as, H => by simpa only [LitCs, toTVs, TVRs] using H
  | t :: ts, j, x, [], H => by simp only [LitCs] at H
  | t :: ts, j, x, a :: as, H => by
    simp only [LitCs] at H
    simp only [toTVs, TVRs]
    exact ⟨toTV_lit H.1, toTVs_lit ts H.2⟩
theorem TVRs.dropn {M : Mp} {h : Heap} : ∀ {l : List TV} {as : List AV} (n : Nat), TVRs M h l as → TVRs M h (l.drop n) (as.drop n)
  | l, as, 0, H => H
  | [], [], n + 1, H => H
  | [], _ :: _, n + 1, H => by simp only [TVRs, reduceCtorEq] at H
  | _ :: _, [], n + 1, H => by simp only [TVRs] at H
  | _ :: l, _ :: as, n + 1, H => by simp only [TVRs] at H; exact TVRs.dropn n H.2
/-- Row 'i', of 'r', is written no more. -/
structure Fa (i : Nat) (r : VRow) (M : Mp) (h : Heap) (M' : Mp) : Prop where
  box : ∀ b, b < M.nb → b < M'.nb ∧ M'.β b = M.β b
  row : ∀ j, j ≠ i → M.lv j = true → M'.lv j = true ∧ M'.α j = M.α j ∧ ∀ x ∈ M.N j, x ∈ M'.N j
  all : ∀ x ∈ M.N i, x ∈ M'.Z
  z : ∀ x ∈ M.Z, x ∈ M'.Z
  top : ∀ x ∈ rid (M.α i), x ∈ M'.Z
  rel : RowRel h M.Z r.nm r.cs r.xs (M.α i) (M.N i)
theorem Fa.lit {i : Nat} {r : VRow} {M M' : Mp} {h : Heap} (D : Fa i r M h M') : LitC h M'.Z (.sl r.cs) r.xs (M.α i) :=
  D.rel.frozA D.z fun x hx => (List.mem_append.1 hx).elim (D.top x) (D.all x)
mutual
theorem TVR.fa {i : Nat} {r : VRow} {M M' : Mp} {h : Heap} (D : Fa i r M h M') : ∀ (v : TV) {a : AV}, TVR M h v a → TVR M' h (v.fa i r) a
  | .bad, a, _ => by simp only [TVR, TV.fa]
  | .nil, a, H => by simpa only [TVR, TV.fa] using H
  | .int k n, a, H => by simpa only [TVR, TV.fa] using H
  | .bool b, a, H => by simpa only [TVR, TV.fa] using H
  | .str s, a, H => by simpa only [TVR, TV.fa] using H
  | .lst cs xs, a, H => by simp only [TVR, TV.fa] at *; exact LitC.up (fun r hr => ⟨D.z r hr, rfl⟩) _ H
  | .ref j, a, H => by
    simp only [TV.fa]
    simp only [TVR] at H
    split
    · rename_i hj
      subst hj
      simp only [TVR]
      rw [H.2]
      exact D.lit
    · rename_i hj
      simp only [TVR]
      obtain ⟨h1, h2, _⟩ := D.row j hj H.1
      exact ⟨h1, by rw [h2]; exact H.2⟩
  | .sub j lo hi, a, H => by
    simp only [TV.fa]
    simp only [TVR] at H
    split
    · rename_i hj
      subst hj
      obtain ⟨_, b1, b2, H⟩ := H
      have L := D.lit
      simp only [TVR]
      simp only [LitC] at L ⊢
      rcases H with ⟨rr, off, len, e1, e2, H⟩ | ⟨e1, rfl, rfl, rfl⟩
      · rcases L with ⟨e, _⟩ | ⟨f, ys, e, _⟩ | ⟨r', off', row, e, g1, g2, g3, g4, g5⟩
        · rw [e1] at e; cases e
        · rw [e1] at e; cases e
        · rw [e1] at e
          cases e
          have hlen : ((r.xs.take hi.toNat).drop lo.toNat).length = hi.toNat - lo.toNat := by rw [List.length_drop, List.length_take]; omega
          rcases H with ⟨rfl, _⟩ | ⟨e3, _, f, rfl⟩
          · refine .inr (.inr ⟨rr, off + lo.toNat, row, by rw [hlen], g1, g2, g3, by rw [hlen]; omega, ?_⟩)
            rw [hlen]
            have : List.take (hi.toNat - lo.toNat) (List.drop (off + lo.toNat) row.el) = List.drop lo.toNat (List.take hi.toNat (List.take r.xs.length (List.drop off row.el))) := by
              rw [List.take_take, Nat.min_eq_left (by omega), List.drop_take, List.drop_drop]
            rw [this]; exact (g5.take _).drop _
          · refine .inr (.inl ⟨f, [], rfl, ?_⟩)
            have : (r.xs.take hi.toNat).drop lo.toNat = [] := List.drop_eq_nil_of_le (by rw [List.length_take]; omega)
            rw [this]; trivial
      · exact .inl ⟨rfl, by simp <;> rfl⟩
    · rename_i hj
      simp only [TVR]
      obtain ⟨h1, h2, _⟩ := D.row j hj H.1
      rw [h2]
      exact ⟨h1, H.2⟩
  | .vw j o cs xs, a, H => by
    simp only [TV.fa]
    simp only [TVR] at H
    obtain ⟨F, g1, g2⟩ := H.2.1
    split
    · rename_i hj
      subst hj
      simp only [TVR]
      exact OwnC.froz D.z _ (fun r hr => D.all r (g1 r hr)) g2
    · rename_i hj
      simp only [TVR]
      obtain ⟨h1, h2, h3⟩ := D.row j hj H.1
      refine ⟨h1, ⟨F, fun x hx => h3 x (g1 x hx), OwnC.heap (fun r hr => ⟨D.z r hr, rfl⟩) _ (fun _ _ => rfl) g2⟩, fun k off e => ?_⟩
      rw [h2]; exact H.2.2 k off e
  | .st l, a, H => by
    simp only [TVR, TV.fa] at *
    obtain ⟨as, e, H⟩ := H
    exact ⟨as, e, TVRs.fa D l H⟩
  | .tup l, a, H => by
    simp only [TVR, TV.fa] at *
    obtain ⟨as, e, H⟩ := H
    exact ⟨as, e, TVRs.fa D l H⟩
  | .box b off, a, H => by
    simp only [TVR, TV.fa] at *
    obtain ⟨h1, h2⟩ := D.box b H.1
    exact ⟨h1, by rw [h2]; exact H.2⟩
  | .rptr j idx off, a, H => by
    simp only [TV.fa]
    simp only [TVR] at H
    split
    · rename_i hj
      subst hj
      obtain ⟨_, rr, o, len, e1, b1, b2, rfl⟩ := H
      have L := D.lit
      simp only [TVR]
      simp only [LitC] at L
      rcases L with ⟨e, _⟩ | ⟨f, ys, e, _⟩ | ⟨r', off', row, e, g1, g2, g3, g4, g5⟩
      · rw [e1] at e; cases e
      · rw [e1] at e; cases e
      · rw [e1] at e
        cases e
        have hk : idx.toNat < r.xs.length := by omega
        have hk2 : idx.toNat < ((row.el.drop o).take r.xs.length).length := by rw [← g5.len]; exact hk
        have hel := g5.get idx.toNat _ _ (List.getElem?_eq_getElem hk) (List.getElem?_eq_getElem hk2)
        have hd' : r.xs.getD idx.toNat (Ty.ds0 r.cs) = r.xs[idx.toNat] := by rw [List.getD_eq_getElem?_getD, List.getElem?_eq_getElem hk]; rfl
        have hes : row.el[o + idx.toNat]? = some ((row.el.drop o).take r.xs.length)[idx.toNat] := by
          rw [← List.getElem?_eq_getElem hk2, List.getElem?_take, if_pos hk, List.getElem?_drop]
        exact ⟨_, TVRs.dropn off (by rw [hd']; exact toTVs_lit r.cs hel), .inr ⟨rr, _, off, row, _, rfl, g1, g2, hes, rfl⟩⟩
    · rename_i hj
      simp only [TVR]
      obtain ⟨h1, h2, _⟩ := D.row j hj H.1
      rw [h2]
      exact ⟨h1, H.2⟩
  | .lptr l, a, H => by
    simp only [TVR, TV.fa] at *
    obtain ⟨as, g, H⟩ := H
    refine ⟨as, TVRs.fa D l g, ?_⟩
    rcases H with H | ⟨r, idx, off, row, es, e, g1, g2, g3⟩
    · exact .inl H
    · exact .inr ⟨r, idx, off, row, es, e, D.z r g1, g2, g3⟩
  | .vptr j l, a, H => by
    simp only [TV.fa]
    simp only [TVR] at H
    obtain ⟨as, g, H2⟩ := H.2
    split
    · rename_i hj
      subst hj
      simp only [TVR]
      refine ⟨as, TVRs.fa D l g, ?_⟩
      rcases H2 with H2 | ⟨r, idx, off, row, es, e, g1, g2, g3⟩
      · exact .inl H2
      · exact .inr ⟨r, idx, off, row, es, e, g1.elim (D.all r) (D.z r), g2, g3⟩
    · rename_i hj
      simp only [TVR]
      obtain ⟨h1, h2, h3⟩ := D.row j hj H.1
      refine ⟨h1, as, TVRs.fa D l g, ?_⟩
      rcases H2 with H2 | ⟨r, idx, off, row, es, e, g1, g2, g3⟩
      · exact .inl H2
      · exact .inr ⟨r, idx, off, row, es, e, g1.imp (h3 r) (D.z r), g2, g3⟩
  | .fn f l, a, H => by
    simp only [TVR, TV.fa] at *
    obtain ⟨as, e, H⟩ := H
    exact ⟨as, e, TVRs.fa D l H⟩
  | .gd _ _ _, a, H => by simp only [TVR] at H
theorem TVRs.fa {i : Nat} {r : VRow} {M M' : Mp} {h : Heap} (D : Fa i r M h M') : ∀ (l : List TV) {as : List AV}, TVRs M h l as → TVRs M' h (TV.fas i r l) as
  | [], as, H => by simpa only [TVRs, TV.fas] using H
  | v :: l, [], H => by simp only [TVRs] at H
  | v :: l, a :: as, H => by
    simp only [TVRs, TV.fas] at *
    exact ⟨TVR.fa D v H.1, TVRs.fa D l H.2⟩
end

/-! A place of the environment: a value, or a value under a guard. -/
def EVR (M : Mp) (h : Heap) (env : List AV) : TV → AV → Prop
  | .gd t w v, a => (env.getD t .bad = .bool w → TVR M h v a) ∧ (env.getD t .bad ≠ .bool w → a = .tup [])
  | v, a => TVR M h v a
theorem EVR.of {M : Mp} {h : Heap} {env : List AV} {v : TV} {a : AV} (H : TVR M h v a) : EVR M h env v a := by
  cases v <;> first | exact H | (simp only [TVR] at H)
def fp (M : Mp) (i : Nat) : List Nat := rid (M.α i) ++ M.N i

/-- Where a function began: the heap, the rows that it was handed. -/
structure Bg where
  h : Heap
  F : List Nat
  bs : List Nat
  np : Nat
  Z : List Nat
  pin : List AV

structure SRel (B : Bg) (M : Mp) (env : List AV) (h : Heap) (s : VS) : Prop where
  len : s.env.length = env.length
  env : ∀ (t : Nat) v a, s.env[t]? = some v → env[t]? = some a → EVR M h env v a
  nb : M.nb = s.boxes.length
  box : ∀ b cs, s.box? b = some cs → ∃ as, h.boxes[M.β b]? = some as ∧ TVRs M h cs as
  binj : ∀ b b', b < M.nb → b' < M.nb → M.β b = M.β b' → b = b'
  bown : ∀ b, b < M.nb → (B.h.boxes.length ≤ M.β b ∨ M.β b ∈ B.bs) ∧ M.β b < h.boxes.length
  lv : ∀ i, M.lv i = (s.slot? i).isSome
  slot : ∀ i r, s.slot? i = some r → SlotRel h M.Z r (M.α i) (M.N i)
  dead : ∀ i, M.lv i = false → M.α i = .nils ∧ M.N i = []
  lt : ∀ i x, x ∈ fp M i → x < h.next
  nd : ∀ i, (fp M i).Nodup
  dj : ∀ i j x, x ∈ fp M i → x ∈ fp M j → i = j
  gd : ∀ (t g : Nat) w v, s.env[t]? = some (.gd g w v) → (t, g) ∈ s.gds
  own : ∀ i x, x ∈ fp M i → x ∈ B.F ∨ B.h.next ≤ x
  fr : ∀ x, x < B.h.next → x ∉ B.F → h.rows x = B.h.rows x
  frb : ∀ b, b < B.h.boxes.length → b ∉ B.bs → h.boxes[b]? = B.h.boxes[b]?
  nx : B.h.next ≤ h.next
  bx : B.h.boxes.length ≤ h.boxes.length
  hand : ∀ j, j < B.np → j < M.nb ∧ B.bs[j]? = some (M.β j)
  zlt : ∀ x ∈ M.Z, x < h.next
  zdj : ∀ x ∈ M.Z, ∀ i, x ∉ fp M i
  zown : ∀ x ∈ M.Z, x ∈ B.Z ∨ x ∈ B.F ∨ B.h.next ≤ x
  bz : ∀ x ∈ B.Z, x ∈ M.Z
  pn : s.pn = B.pin.length
  pin : ∀ i a, B.pin[i]? = some a → M.lv i = true ∧ M.α i = a

theorem kills_get (i : Nat) : ∀ (l : List TV) (t : Nat), (TV.kills i l)[t]? = (l[t]?).map (TV.kill i)
  | [], t => by simp [TV.kills]
  | v :: l, 0 => by simp [TV.kills]
  | v :: l, t + 1 => by simp [TV.kills, kills_get i l t]
theorem kills_len (i : Nat) : ∀ (l : List TV), (TV.kills i l).length = l.length
  | [] => rfl
  | v :: l => by simp [TV.kills, kills_len i l]
theorem dims_get (i : Nat) : ∀ (l : List TV) (t : Nat), (TV.dims i l)[t]? = (l[t]?).map (TV.dim i)
  | [], t => by simp [TV.dims]
  | v :: l, 0 => by simp [TV.dims]
  | v :: l, t + 1 => by simp [TV.dims, dims_get i l t]
theorem dims_len (i : Nat) : ∀ (l : List TV), (TV.dims i l).length = l.length
  | [] => rfl
  | v :: l => by simp [TV.dims, dims_len i l]
theorem killB_get (i : Nat) : ∀ (l : List (Option (List TV))) (t : Nat), (killB i l)[t]? = (l[t]?).map (Option.map (TV.kills i))
  | [], t => by simp [killB]
  | none :: l, 0 => by simp [killB]
  | some v :: l, 0 => by simp [killB]
  | none :: l, t + 1 => by simp [killB, killB_get i l t]
  | some v :: l, t + 1 => by simp [killB, killB_get i l t]
theorem killB_len (i : Nat) : ∀ (l : List (Option (List TV))), (killB i l).length = l.length
  | [] => rfl
  | none :: l => by simp [killB, killB_len i l]
  | some v :: l => by simp [killB, killB_len i l]
theorem dimB_get (i : Nat) : ∀ (l : List (Option (List TV))) (t : Nat), (dimB i l)[t]? = (l[t]?).map (Option.map (TV.dims i))
  | [], t => by simp [dimB]
  | none :: l, 0 => by simp [dimB]
  | some v :: l, 0 => by simp [dimB]
  | none :: l, t + 1 => by simp [dimB, dimB_get i l t]
  | some v :: l, t + 1 => by simp [dimB, dimB_get i l t]
theorem dimB_len (i : Nat) : ∀ (l : List (Option (List TV))), (dimB i l).length = l.length
  | [] => rfl
  | none :: l => by simp [dimB, dimB_len i l]
  | some v :: l => by simp [dimB, dimB_len i l]

theorem VS.slot?_eq {s : VS} {i : Nat} {r : VSlot} : s.slot? i = some r ↔ s.rows[i]? = some (some r) := by
  unfold VS.slot?
  split
  · rename_i r' h; rw [h]; simp
  · rename_i h
    constructor
    · intro h; cases h
    · intro h'; exact absurd h' (h r)
theorem VS.slot_row {s : VS} {i : Nat} {r : VRow} : s.row? i = some r ↔ s.slot? i = some (.row r) := by
  unfold VS.row?
  cases h : s.slot? i with
  | none => simp [VSlot.plain]
  | some o => cases o <;> simp [VSlot.plain]
theorem VS.row?_eq {s : VS} {i : Nat} {r : VRow} : s.row? i = some r ↔ s.rows[i]? = some (some (.row r)) := VS.slot_row.trans VS.slot?_eq
theorem VS.mine_eq {s : VS} {i : Nat} {r : VRow} (h : s.mine i = some r) : s.row? i = some r ∧ s.pn ≤ i := by
  unfold VS.mine at h
  split at h
  · rename_i hs; exact ⟨h, Nat.le_of_ble_eq_true hs⟩
  · cases h
theorem SRel.row {B : Bg} {M : Mp} {env : List AV} {h : Heap} {s : VS} (S : SRel B M env h s) (i : Nat) (r : VRow) (hr : s.row? i = some r) : RowRel h M.Z r.nm r.cs r.xs (M.α i) (M.N i) := S.slot i _ (VS.slot_row.1 hr)
theorem SRel.ge {B : Bg} {M : Mp} {env : List AV} {h : Heap} {s : VS} (S : SRel B M env h s) {i : Nat} {r : VRow} (hr : s.mine i = some r) : B.pin.length ≤ i := by rw [← S.pn]; exact (VS.mine_eq hr).2
theorem VS.box?_eq {s : VS} {i : Nat} {r : List TV} : s.box? i = some r ↔ s.boxes[i]? = some (some r) := by
  unfold VS.box?
  split
  · rename_i r' h; rw [h]; simp
  · rename_i h
    constructor
    · intro h; cases h
    · intro h'; exact absurd h' (h r)

/-- Row 'i' is handed over or given up: nobody names it any more. -/
def Mp.free (M : Mp) (i : Nat) : Mp := { M with α := fun j => if j = i then .nils else M.α j, N := fun j => if j = i then [] else M.N j, lv := fun j => if j = i then false else M.lv j }
theorem Mp.free_kills (M : Mp) (h : Heap) (i : Nat) : Kills i M h (M.free i) h :=
  ⟨fun b hb => ⟨hb, rfl⟩, fun j hj hl => by simp [Mp.free, hj, hl], fun _ _ _ _ _ => rfl, .refl _ _⟩
theorem fp_free (M : Mp) (i j : Nat) : fp (M.free i) j = if j = i then [] else fp M j := by
  unfold fp Mp.free
  by_cases h : j = i <;> simp [h, rid]
theorem rows_slot? (s : VS) (i j : Nat) (o : Option VSlot) : VS.slot? { s with rows := s.rows.set i o } j = if j = i ∧ i < s.rows.length then o else s.slot? j := by
  unfold VS.slot?
  simp only [List.getElem?_set]
  by_cases h : j = i
  · subst h
    by_cases hl : j < s.rows.length
    · simp only [hl, if_true, and_self]; cases o <;> rfl
    · simp [hl]
  · have : i ≠ j := fun e => h e.symm
    simp only [this, if_false, h, false_and]
theorem slot?_lt {s : VS} {i : Nat} {r : VSlot} (h : s.slot? i = some r) : i < s.rows.length := (List.getElem?_eq_some_iff.1 (VS.slot?_eq.1 h)).1
theorem slot?_ext {s s' : VS} (h : s.rows = s'.rows) (j : Nat) : s.slot? j = s'.slot? j := by unfold VS.slot?; rw [h]
theorem free_slot? (s : VS) (i j : Nat) : (s.free i).slot? j = if j = i then none else s.slot? j := by
  have : (s.free i).slot? j = VS.slot? { s with rows := s.rows.set i none } j := slot?_ext rfl j
  rw [this, rows_slot?]
  by_cases h : j = i
  · subst h
    by_cases hl : j < s.rows.length
    · simp [hl]
    · simp only [hl, and_false, if_false, if_true]
      unfold VS.slot?
      rw [List.getElem?_eq_none (by omega)]
  · simp [h]
theorem row?_of (s : VS) (i : Nat) : s.row? i = VSlot.plain (s.slot? i) := rfl
theorem free_row? (s : VS) (i j : Nat) : (s.free i).row? j = if j = i then none else s.row? j := by
  rw [row?_of, free_slot?]
  split <;> rfl
theorem free_box? (s : VS) (i b : Nat) : (s.free i).box? b = (s.box? b).map (TV.kills i) := by
  unfold VS.box? VS.free
  simp only [killB_get]
  cases h : s.boxes[b]? with
  | none => rfl
  | some o => cases o <;> rfl

theorem EVR.kill {i : Nat} {M M' : Mp} {h h' : Heap} (D : Kills i M h M' h') {env : List AV} {v : TV} {a : AV} (H : EVR M h env v a) : EVR M' h' env (v.kill i) a := by
  cases v with
  | gd t w v => exact ⟨fun e => (H.1 e).kill D, H.2⟩
  | _ => exact .of (TVR.kill D _ H)
theorem EVR.dim {i : Nat} {M M' : Mp} {h h' : Heap} (D : Dims i M h M' h') {env : List AV} {v : TV} {a : AV} (H : EVR M h env v a) : EVR M' h' env (v.dim i) a := by
  cases v with
  | gd t w v => exact ⟨fun e => (H.1 e).dim D, H.2⟩
  | _ => exact .of (TVR.dim D _ H)
theorem EVR.mono {M M' : Mp} {h h' : Heap} (D : Mono M h M' h') {env : List AV} {v : TV} {a : AV} (H : EVR M h env v a) : EVR M' h' env v a := by
  cases v with
  | gd t w v => exact ⟨fun e => (H.1 e).mono D, H.2⟩
  | _ => exact .of (TVR.mono D _ H)
theorem EVR.fz {i : Nat} {M M' : Mp} {h : Heap} (D : Fz i M h M') {env : List AV} {v : TV} {a : AV} (H : EVR M h env v a) : EVR M' h env (v.fz i) a := by
  cases v with
  | gd t w v => exact ⟨fun e => (H.1 e).fz D, H.2⟩
  | _ => exact .of (TVR.fz D _ H)
theorem EVR.fa {i : Nat} {r : VRow} {M M' : Mp} {h : Heap} (D : Fa i r M h M') {env : List AV} {v : TV} {a : AV} (H : EVR M h env v a) : EVR M' h env (v.fa i r) a := by
  cases v with
  | gd t w v => exact ⟨fun e => (H.1 e).fa D, H.2⟩
  | _ => exact .of (TVR.fa D _ H)
theorem kill_gd {i : Nat} {v : TV} {g : Nat} {w : Bool} {u : TV} (h : v.kill i = .gd g w u) : ∃ u', v = .gd g w u' := by
  cases v <;> simp only [TV.kill] at h <;> first | (cases h; done) | (split at h <;> cases h; done) | (injection h with h1 h2 h3; exact ⟨_, by rw [h1, h2]⟩)
theorem dim_gd {i : Nat} {v : TV} {g : Nat} {w : Bool} {u : TV} (h : v.dim i = .gd g w u) : ∃ u', v = .gd g w u' := by
  cases v <;> simp only [TV.dim] at h <;> first | (cases h; done) | (split at h <;> cases h; done) | (injection h with h1 h2 h3; exact ⟨_, by rw [h1, h2]⟩)
theorem fz_gd {i : Nat} {v : TV} {g : Nat} {w : Bool} {u : TV} (h : v.fz i = .gd g w u) : ∃ u', v = .gd g w u' := by
  cases v <;> simp only [TV.fz] at h <;> first | (cases h; done) | (split at h <;> cases h; done) | (injection h with h1 h2 h3; exact ⟨_, by rw [h1, h2]⟩)
theorem fa_gd {i : Nat} {r : VRow} {v : TV} {g : Nat} {w : Bool} {u : TV} (h : v.fa i r = .gd g w u) : ∃ u', v = .gd g w u' := by
  cases v <;> simp only [TV.fa] at h <;> first | (cases h; done) | (split at h <;> cases h; done) | (injection h with h1 h2 h3; exact ⟨_, by rw [h1, h2]⟩)

theorem fzs_get (i : Nat) : ∀ (l : List TV) (t : Nat), (TV.fzs i l)[t]? = (l[t]?).map (TV.fz i)
  | [], t => by simp [TV.fzs]
  | v :: l, 0 => by simp [TV.fzs]
  | v :: l, t + 1 => by simp [TV.fzs, fzs_get i l t]
theorem fzs_len (i : Nat) : ∀ (l : List TV), (TV.fzs i l).length = l.length
  | [] => rfl
  | v :: l => by simp [TV.fzs, fzs_len i l]
theorem fas_get (i : Nat) (r : VRow) : ∀ (l : List TV) (t : Nat), (TV.fas i r l)[t]? = (l[t]?).map (TV.fa i r)
  | [], t => by simp [TV.fas]
  | v :: l, 0 => by simp [TV.fas]
  | v :: l, t + 1 => by simp [TV.fas, fas_get i r l t]
theorem fas_len (i : Nat) (r : VRow) : ∀ (l : List TV), (TV.fas i r l).length = l.length
  | [] => rfl
  | v :: l => by simp [TV.fas, fas_len i r l]
theorem fzB_get (i : Nat) : ∀ (l : List (Option (List TV))) (t : Nat), (fzB i l)[t]? = (l[t]?).map (Option.map (TV.fzs i))
  | [], t => by simp [fzB]
  | none :: l, 0 => by simp [fzB]
  | some v :: l, 0 => by simp [fzB]
  | none :: l, t + 1 => by simp [fzB, fzB_get i l t]
  | some v :: l, t + 1 => by simp [fzB, fzB_get i l t]
theorem fzB_len (i : Nat) : ∀ (l : List (Option (List TV))), (fzB i l).length = l.length
  | [] => rfl
  | none :: l => by simp [fzB, fzB_len i l]
  | some v :: l => by simp [fzB, fzB_len i l]
theorem faB_get (i : Nat) (r : VRow) : ∀ (l : List (Option (List TV))) (t : Nat), (faB i r l)[t]? = (l[t]?).map (Option.map (TV.fas i r))
  | [], t => by simp [faB]
  | none :: l, 0 => by simp [faB]
  | some v :: l, 0 => by simp [faB]
  | none :: l, t + 1 => by simp [faB, faB_get i r l t]
  | some v :: l, t + 1 => by simp [faB, faB_get i r l t]
theorem faB_len (i : Nat) (r : VRow) : ∀ (l : List (Option (List TV))), (faB i r l).length = l.length
  | [] => rfl
  | none :: l => by simp [faB, faB_len i r l]
  | some v :: l => by simp [faB, faB_len i r l]
theorem frz_box? (s : VS) (i : Nat) (r : VRow) (b : Nat) : (s.frz i r).box? b = (s.box? b).map (TV.fzs i) := by
  unfold VS.box? VS.frz
  simp only [fzB_get]
  cases h : s.boxes[b]? with
  | none => rfl
  | some o => cases o <;> rfl
theorem frzA_box? (s : VS) (i : Nat) (r : VRow) (b : Nat) : (s.frzA i r).box? b = (s.box? b).map (TV.fas i r) := by
  unfold VS.box? VS.frzA
  simp only [faB_get]
  cases h : s.boxes[b]? with
  | none => rfl
  | some o => cases o <;> rfl
theorem frz_slot? {s : VS} {i : Nat} {sl : VSlot} (hs : s.slot? i = some sl) (r : VRow) (j : Nat) : (s.frz i r).slot? j = if j = i then some (.row ⟨.L, r.cs, r.xs⟩) else s.slot? j := by
  have : (s.frz i r).slot? j = VS.slot? { s with rows := s.rows.set i (some (.row ⟨.L, r.cs, r.xs⟩)) } j := slot?_ext rfl j
  rw [this, rows_slot?]
  simp [slot?_lt hs]
theorem frzA_slot? {s : VS} {i : Nat} {sl : VSlot} (hs : s.slot? i = some sl) (r : VRow) (j : Nat) : (s.frzA i r).slot? j = if j = i then none else s.slot? j := by
  have : (s.frzA i r).slot? j = VS.slot? { s with rows := s.rows.set i none } j := slot?_ext rfl j
  rw [this, rows_slot?]
  simp [slot?_lt hs]

theorem SRel.free {B : Bg} {M : Mp} {env : List AV} {h : Heap} {s : VS} (S : SRel B M env h s) (i : Nat) (hp : B.pin.length ≤ i) : SRel B (M.free i) env h (s.free i) where
  len := by simp [VS.free, kills_len, S.len]
  env t v a h1 h2 := by
    simp only [VS.free, kills_get, Option.map_eq_some_iff] at h1
    obtain ⟨v', h1, rfl⟩ := h1
    exact (S.env t v' a h1 h2).kill (M.free_kills h i)
  nb := by simp [VS.free, killB_len, Mp.free, S.nb]
  box b cs hb := by
    rw [free_box?, Option.map_eq_some_iff] at hb
    obtain ⟨cs', hb, rfl⟩ := hb
    obtain ⟨as, h1, h2⟩ := S.box b cs' hb
    exact ⟨as, h1, h2.kill (M.free_kills h i)⟩
  binj := S.binj
  bown := S.bown
  lv j := by
    rw [free_slot?]
    by_cases hj : j = i
    · simp [Mp.free, hj]
    · simp [Mp.free, hj, S.lv j]
  slot j r hr := by
    rw [free_slot?] at hr
    by_cases hj : j = i
    · simp [hj] at hr
    · rw [if_neg hj] at hr
      simpa [Mp.free, hj] using S.slot j r hr
  dead j hj := by
    by_cases hji : j = i
    · simp [Mp.free, hji]
    · simp only [Mp.free, hji, if_false] at hj ⊢
      exact S.dead j hj
  lt j x hx := by
    rw [fp_free] at hx
    split at hx
    · simp at hx
    · exact S.lt j x hx
  nd j := by
    rw [fp_free]
    split
    · exact List.nodup_nil
    · exact S.nd j
  dj j k x h1 h2 := by
    rw [fp_free] at h1 h2
    split at h1
    · simp at h1
    · split at h2
      · simp at h2
      · exact S.dj j k x h1 h2
  gd t g w v h1 := by
    simp only [VS.free, kills_get, Option.map_eq_some_iff] at h1
    obtain ⟨v', h1, h2⟩ := h1
    obtain ⟨u', rfl⟩ := kill_gd h2
    exact S.gd t g w u' h1
  own j x hx := by
    rw [fp_free] at hx
    split at hx
    · simp at hx
    · exact S.own j x hx
  fr := S.fr
  frb := S.frb
  nx := S.nx
  bx := S.bx
  hand := S.hand
  zlt := S.zlt
  zdj x hx j hj := by
    rw [fp_free] at hj
    split at hj
    · simp at hj
    · exact S.zdj x hx j hj
  zown := S.zown
  bz := S.bz
  pn := S.pn
  pin j a hj := by
    have : j < B.pin.length := (List.getElem?_eq_some_iff.1 hj).1
    have hji : j ≠ i := by omega
    obtain ⟨h1, h2⟩ := S.pin j a hj
    simp only [Mp.free, hji, if_false]
    exact ⟨h1, h2⟩
/-- What row 'i's elements own is written no more. -/
def Mp.frz (M : Mp) (i : Nat) : Mp := { M with N := fun j => if j = i then [] else M.N j, Z := M.N i ++ M.Z }
theorem fp_frz (M : Mp) (i j : Nat) {x : Nat} (hx : x ∈ fp (M.frz i) j) : x ∈ fp M j ∧ (j = i → x ∈ rid (M.α i)) := by
  unfold fp Mp.frz at *
  by_cases hj : j = i
  · subst hj
    simp only [if_true, List.append_nil] at hx
    exact ⟨List.mem_append_left _ hx, fun _ => hx⟩
  · simp only [hj, if_false] at hx
    exact ⟨hx, fun e => absurd e hj⟩
theorem SRel.frz {B : Bg} {M : Mp} {env : List AV} {h : Heap} {s : VS} (S : SRel B M env h s) {i : Nat} {r : VRow} (hr : s.row? i = some r) : SRel B (M.frz i) env h (s.frz i r) := by
  have hsl := VS.slot_row.1 hr
  have hz : ∀ x ∈ M.Z, x ∈ (M.frz i).Z := fun x hx => List.mem_append_right _ hx
  have D : Fz i M h (M.frz i) := ⟨fun b hb => ⟨hb, rfl⟩, fun j hj => ⟨hj, rfl⟩, fun j hj _ x hx => by simpa [Mp.frz, hj] using hx, fun x hx => List.mem_append_left _ hx, hz⟩
  have hN : ∀ x ∈ M.N i, x ∈ fp M i := fun x hx => List.mem_append_right _ hx
  refine ⟨by simp [VS.frz, fzs_len, S.len], fun t v a h1 h2 => ?_, by simp [VS.frz, fzB_len, Mp.frz, S.nb], fun b cs hb => ?_, S.binj, S.bown, fun j => ?_, fun j sl hs => ?_, fun j hj => ?_, fun j x hx => S.lt j x (fp_frz M i j hx).1, fun j => ?_, fun j k x h1 h2 => S.dj j k x (fp_frz M i j h1).1 (fp_frz M i k h2).1,
    fun t g w v h1 => ?_, fun j x hx => S.own j x (fp_frz M i j hx).1, S.fr, S.frb, S.nx, S.bx, S.hand, fun x hx => ?_, fun x hx j hj => ?_, fun x hx => ?_, fun x hx => hz x (S.bz x hx), S.pn, S.pin⟩
  · simp only [VS.frz, fzs_get, Option.map_eq_some_iff] at h1
    obtain ⟨v', h1, rfl⟩ := h1
    exact (S.env t v' a h1 h2).fz D
  · rw [frz_box?, Option.map_eq_some_iff] at hb
    obtain ⟨cs', hb, rfl⟩ := hb
    obtain ⟨as, h1, h2⟩ := S.box b cs' hb
    exact ⟨as, h1, h2.fz D⟩
  · rw [frz_slot? hsl]
    by_cases hj : j = i
    · subst hj
      have := S.lv j
      rw [hsl] at this
      simp [Mp.frz, this]
    · simp [Mp.frz, hj, S.lv j]
  · rw [frz_slot? hsl] at hs
    by_cases hj : j = i
    · subst hj
      simp only [if_true, Option.some.injEq] at hs
      subst hs
      have := (S.row j r hr).froz hz fun x hx => List.mem_append_left _ hx
      simpa [Mp.frz, SlotRel] using this
    · rw [if_neg hj] at hs
      have := (S.slot j sl hs).heap (fun r hr => ⟨hz r hr, rfl⟩) fun _ _ => rfl
      simpa [Mp.frz, hj] using this
  · obtain ⟨h1, h2⟩ := S.dead j hj
    simp only [Mp.frz]
    exact ⟨h1, by split <;> first | rfl | exact h2⟩
  · have hnd := S.nd j
    unfold fp Mp.frz at *
    by_cases hj : j = i
    · subst hj; simpa using (List.nodup_append.1 hnd).1
    · simpa [hj] using hnd
  · simp only [VS.frz, fzs_get, Option.map_eq_some_iff] at h1
    obtain ⟨v', h1, h2⟩ := h1
    obtain ⟨u', rfl⟩ := fz_gd h2
    exact S.gd t g w u' h1
  · rcases List.mem_append.1 hx with hx | hx
    · exact S.lt i x (hN x hx)
    · exact S.zlt x hx
  · obtain ⟨g1, g2⟩ := fp_frz M i j hj
    rcases List.mem_append.1 hx with hx | hx
    · have := S.dj i j x (hN x hx) g1
      subst this
      have hnd := S.nd i
      unfold fp at hnd
      exact (List.nodup_append.1 hnd).2.2 x (g2 rfl) x hx rfl
    · exact S.zdj x hx j g1
  · rcases List.mem_append.1 hx with hx | hx
    · exact .inr (S.own i x (hN x hx))
    · exact S.zown x hx
/-- Row 'i', and what its elements own, is written no more. -/
def Mp.frzA (M : Mp) (i : Nat) : Mp := { M.free i with Z := fp M i ++ M.Z }
theorem SRel.frzA {B : Bg} {M : Mp} {env : List AV} {h : Heap} {s : VS} (S : SRel B M env h s) {i : Nat} {r : VRow} (hr : s.row? i = some r) (hp : B.pin.length ≤ i) : SRel B (M.frzA i) env h (s.frzA i r) := by
  have hsl := VS.slot_row.1 hr
  have hz : ∀ x ∈ M.Z, x ∈ (M.frzA i).Z := fun x hx => List.mem_append_right _ hx
  have D : Fa i r M h (M.frzA i) := ⟨fun b hb => ⟨hb, rfl⟩, fun j hj hl => by simp [Mp.frzA, Mp.free, hj, hl], fun x hx => List.mem_append_left _ (List.mem_append_right _ hx), hz, fun x hx => List.mem_append_left _ (List.mem_append_left _ hx), S.row i r hr⟩
  have hfp : ∀ j, fp (M.frzA i) j = if j = i then [] else fp M j := fun j => by
    have : fp (M.frzA i) j = fp (M.free i) j := rfl
    rw [this, fp_free]
  have Sf := S.free i hp
  refine ⟨by simp [VS.frzA, fas_len, S.len], fun t v a h1 h2 => ?_, by simp [VS.frzA, faB_len, Mp.frzA, Mp.free, S.nb], fun b cs hb => ?_, S.binj, S.bown, fun j => ?_, fun j sl hs => ?_, Sf.dead, fun j x hx => Sf.lt j x hx, Sf.nd, Sf.dj,
    fun t g w v h1 => ?_, Sf.own, S.fr, S.frb, S.nx, S.bx, S.hand, fun x hx => ?_, fun x hx j hj => ?_, fun x hx => ?_, fun x hx => hz x (S.bz x hx), S.pn, Sf.pin⟩
  · simp only [VS.frzA, fas_get, Option.map_eq_some_iff] at h1
    obtain ⟨v', h1, rfl⟩ := h1
    exact (S.env t v' a h1 h2).fa D
  · rw [frzA_box?, Option.map_eq_some_iff] at hb
    obtain ⟨cs', hb, rfl⟩ := hb
    obtain ⟨as, h1, h2⟩ := S.box b cs' hb
    exact ⟨as, h1, h2.fa D⟩
  · rw [frzA_slot? hsl]
    by_cases hj : j = i
    · simp [Mp.frzA, Mp.free, hj]
    · simp [Mp.frzA, Mp.free, hj, S.lv j]
  · rw [frzA_slot? hsl] at hs
    by_cases hj : j = i
    · rw [if_pos hj] at hs; cases hs
    · rw [if_neg hj] at hs
      have := (S.slot j sl hs).heap (fun r hr => ⟨hz r hr, rfl⟩) fun _ _ => rfl
      simpa [Mp.frzA, Mp.free, hj] using this
  · simp only [VS.frzA, fas_get, Option.map_eq_some_iff] at h1
    obtain ⟨v', h1, h2⟩ := h1
    obtain ⟨u', rfl⟩ := fa_gd h2
    exact S.gd t g w u' h1
  · rcases List.mem_append.1 hx with hx | hx
    · exact S.lt i x hx
    · exact S.zlt x hx
  · rw [hfp] at hj
    split at hj
    · simp at hj
    · rename_i hji
      rcases List.mem_append.1 hx with hx | hx
      · exact hji (S.dj j i x hj hx)
      · exact S.zdj x hx j hj
  · rcases List.mem_append.1 hx with hx | hx
    · exact .inr (S.own i x hx)
    · exact S.zown x hx
end Go.PA
