/- Typed values: the state's relation to plain values and heap; rows given up, rows changed, new rows. No condition. -/
import Derived.Test.YtnbhalhlodnmpaaV4
namespace Go.PA

/-- Which plain slice is each row, what its elements own, which plain box is each box. -/
structure Mp where
  α : Nat → AV
  N : Nat → List Nat
  lv : Nat → Bool
  β : Nat → Nat
  nb : Nat

mutual
def TVR (M : Mp) (h : Heap) : TV → AV → Prop
  | .bad, _ => True
  | .nil, a => a = .nils
  | .int k n, a => a = .int k n
  | .bool b, a => a = .bool b
  | .str s, a => a = .str s
  | .lst cs xs, a => LitC (.sl cs) xs a
  | .ref i, a => M.lv i = true ∧ a = M.α i
  | .sub i lo hi, a => M.lv i = true ∧ 0 ≤ lo ∧ lo ≤ hi ∧ ((∃ r off len, M.α i = .ref r off len ∧ hi ≤ (len : Int) ∧ ((a = .ref r (off + lo.toNat) (hi.toNat - lo.toNat) ∧ ¬ (lo = hi ∧ lo ≠ 0)) ∨ (lo = hi ∧ lo ≠ 0 ∧ ∃ f, a = .lit f []))) ∨ (M.α i = .nils ∧ lo = 0 ∧ hi = 0 ∧ a = .nils))
  | .vw i cs xs, a => M.lv i = true ∧ ∃ F, (∀ x ∈ F, x ∈ M.N i) ∧ OwnC h .A (.sl cs) xs a F
  | .st l, a => ∃ as, a = .agg as ∧ TVRs M h l as
  | .tup l, a => ∃ as, a = .tup as ∧ TVRs M h l as
  | .box b off, a => b < M.nb ∧ a = .box (M.β b) off
  | .rptr i idx off, a => M.lv i = true ∧ ∃ r o len, M.α i = .ref r o len ∧ 0 ≤ idx ∧ idx < (len : Int) ∧ a = .rptr r (o + idx.toNat) off
  | .lptr l, a => ∃ as, a = .lptr as ∧ TVRs M h l as
  | .vptr i l, a => M.lv i = true ∧ ∃ as, TVRs M h l as ∧ (a = .lptr as ∨ ∃ r idx off row es, a = .rptr r idx off ∧ r ∈ M.N i ∧ h.rows r = some row ∧ row.el[idx]? = some es ∧ as = es.drop off)
  | .fn f caps, a => ∃ as, a = .fn f as ∧ TVRs M h caps as
  | .gd _ _ _, _ => False
termination_by structural x => x
def TVRs (M : Mp) (h : Heap) : List TV → List AV → Prop
  | [], as => as = []
  | v :: l, as => match as with
    | [] => False
    | a :: as => TVR M h v a ∧ TVRs M h l as
termination_by structural x => x
end

theorem TVRs.iff {M : Mp} {h : Heap} : ∀ {l : List TV} {as : List AV}, TVRs M h l as ↔ All2 (TVR M h) l as
  | [], [] => by simp [TVRs, All2]
  | [], _ :: _ => by simp [TVRs, All2]
  | _ :: _, [] => by simp [TVRs, All2]
  | v :: l, a :: as => by simp only [TVRs, All2]; rw [TVRs.iff]

/-- What was told stays told. -/
structure Mono (M : Mp) (h : Heap) (M' : Mp) (h' : Heap) : Prop where
  box : ∀ b, b < M.nb → b < M'.nb ∧ M'.β b = M.β b
  row : ∀ j, M.lv j = true → M'.lv j = true ∧ M'.α j = M.α j ∧ ∀ x ∈ M.N j, x ∈ M'.N j ∧ h'.rows x = h.rows x

mutual
theorem TVR.mono {M M' : Mp} {h h' : Heap} (D : Mono M h M' h') : ∀ (v : TV) {a : AV}, TVR M h v a → TVR M' h' v a
  | .bad, a, _ => by simp only [TVR]
  | .nil, a, H => by simpa only [TVR] using H
  | .int k n, a, H => by simpa only [TVR] using H
  | .bool b, a, H => by simpa only [TVR] using H
  | .str s, a, H => by simpa only [TVR] using H
  | .lst cs xs, a, H => by simpa only [TVR] using H
  | .ref i, a, H => by
    simp only [TVR] at *
    obtain ⟨h1, h2, _⟩ := D.row i H.1
    exact ⟨h1, by rw [h2]; exact H.2⟩
  | .sub i lo hi, a, H => by
    simp only [TVR] at *
    obtain ⟨h1, h2, _⟩ := D.row i H.1
    rw [h2]
    exact ⟨h1, H.2⟩
  | .vw i cs xs, a, H => by
    simp only [TVR] at *
    obtain ⟨h1, h2, h3⟩ := D.row i H.1
    obtain ⟨F, g1, g2⟩ := H.2
    exact ⟨h1, F, fun x hx => (h3 x (g1 x hx)).1, OwnC.heap _ (fun r hr => (h3 r (g1 r hr)).2) g2⟩
  | .st l, a, H => by
    simp only [TVR] at *
    obtain ⟨as, e, H⟩ := H
    exact ⟨as, e, TVRs.mono D l H⟩
  | .tup l, a, H => by
    simp only [TVR] at *
    obtain ⟨as, e, H⟩ := H
    exact ⟨as, e, TVRs.mono D l H⟩
  | .box b off, a, H => by
    simp only [TVR] at *
    obtain ⟨h1, h2⟩ := D.box b H.1
    exact ⟨h1, by rw [h2]; exact H.2⟩
  | .rptr i idx off, a, H => by
    simp only [TVR] at *
    obtain ⟨h1, h2, _⟩ := D.row i H.1
    rw [h2]
    exact ⟨h1, H.2⟩
  | .lptr l, a, H => by
    simp only [TVR] at *
    obtain ⟨as, e, H⟩ := H
    exact ⟨as, e, TVRs.mono D l H⟩
  | .vptr i l, a, H => by
    simp only [TVR] at *
    obtain ⟨h1, h2, h3⟩ := D.row i H.1
    obtain ⟨as, g, H⟩ := H.2
    refine ⟨h1, as, TVRs.mono D l g, ?_⟩
    rcases H with H | ⟨r, idx, off, row, es, e, g1, g2, g3⟩
    · exact .inl H
    · exact .inr ⟨r, idx, off, row, es, e, (h3 r g1).1, by rw [(h3 r g1).2]; exact g2, g3⟩
  | .fn f l, a, H => by
    simp only [TVR] at *
    obtain ⟨as, e, H⟩ := H
    exact ⟨as, e, TVRs.mono D l H⟩
  | .gd _ _ _, a, H => by simp only [TVR] at H
theorem TVRs.mono {M M' : Mp} {h h' : Heap} (D : Mono M h M' h') : ∀ (l : List TV) {as : List AV}, TVRs M h l as → TVRs M' h' l as
  | [], as, H => by simpa only [TVRs] using H
  | v :: l, [], H => by simp only [TVRs] at H
  | v :: l, a :: as, H => by
    simp only [TVRs] at *
    exact ⟨TVR.mono D v H.1, TVRs.mono D l H.2⟩
end

/-- Row 'i' is no more. -/
structure Kills (i : Nat) (M : Mp) (h : Heap) (M' : Mp) (h' : Heap) : Prop where
  box : ∀ b, b < M.nb → b < M'.nb ∧ M'.β b = M.β b
  row : ∀ j, j ≠ i → M.lv j = true → M'.lv j = true ∧ M'.α j = M.α j ∧ ∀ x ∈ M.N j, x ∈ M'.N j ∧ h'.rows x = h.rows x
mutual
theorem TVR.kill {i : Nat} {M M' : Mp} {h h' : Heap} (D : Kills i M h M' h') : ∀ (v : TV) {a : AV}, TVR M h v a → TVR M' h' (v.kill i) a
  | .bad, a, _ => by simp only [TVR, TV.kill]
  | .nil, a, H => by simpa only [TVR, TV.kill] using H
  | .int k n, a, H => by simpa only [TVR, TV.kill] using H
  | .bool b, a, H => by simpa only [TVR, TV.kill] using H
  | .str s, a, H => by simpa only [TVR, TV.kill] using H
  | .lst cs xs, a, H => by simpa only [TVR, TV.kill] using H
  | .ref j, a, H => by
    simp only [TV.kill]
    split
    · simp only [TVR]
    · rename_i hj
      simp only [TVR] at *
      obtain ⟨h1, h2, _⟩ := D.row j hj H.1
      exact ⟨h1, by rw [h2]; exact H.2⟩
  | .sub j lo hi, a, H => by
    simp only [TV.kill]
    split
    · simp only [TVR]
    · rename_i hj
      simp only [TVR] at *
      obtain ⟨h1, h2, _⟩ := D.row j hj H.1
      rw [h2]
      exact ⟨h1, H.2⟩
  | .vw j cs xs, a, H => by
    simp only [TV.kill]
    split
    · simp only [TVR]
    · rename_i hj
      simp only [TVR] at *
      obtain ⟨h1, h2, h3⟩ := D.row j hj H.1
      obtain ⟨F, g1, g2⟩ := H.2
      exact ⟨h1, F, fun x hx => (h3 x (g1 x hx)).1, OwnC.heap _ (fun r hr => (h3 r (g1 r hr)).2) g2⟩
  | .st l, a, H => by
    simp only [TVR, TV.kill] at *
    obtain ⟨as, e, H⟩ := H
    exact ⟨as, e, TVRs.kill D l H⟩
  | .tup l, a, H => by
    simp only [TVR, TV.kill] at *
    obtain ⟨as, e, H⟩ := H
    exact ⟨as, e, TVRs.kill D l H⟩
  | .box b off, a, H => by
    simp only [TVR, TV.kill] at *
    obtain ⟨h1, h2⟩ := D.box b H.1
    exact ⟨h1, by rw [h2]; exact H.2⟩
  | .rptr j idx off, a, H => by
    simp only [TV.kill]
    split
    · simp only [TVR]
    · rename_i hj
      simp only [TVR] at *
      obtain ⟨h1, h2, _⟩ := D.row j hj H.1
      rw [h2]
      exact ⟨h1, H.2⟩
  | .lptr l, a, H => by
    simp only [TVR, TV.kill] at *
    obtain ⟨as, e, H⟩ := H
    exact ⟨as, e, TVRs.kill D l H⟩
  | .vptr j l, a, H => by
    simp only [TV.kill]
    split
    · simp only [TVR]
    · rename_i hj
      simp only [TVR] at *
      obtain ⟨h1, h2, h3⟩ := D.row j hj H.1
      obtain ⟨as, g, H⟩ := H.2
      refine ⟨h1, as, TVRs.kill D l g, ?_⟩
      rcases H with H | ⟨r, idx, off, row, es, e, g1, g2, g3⟩
      · exact .inl H
      · exact .inr ⟨r, idx, off, row, es, e, (h3 r g1).1, by rw [(h3 r g1).2]; exact g2, g3⟩
  | .fn f l, a, H => by
    simp only [TVR, TV.kill] at *
    obtain ⟨as, e, H⟩ := H
    exact ⟨as, e, TVRs.kill D l H⟩
  | .gd _ _ _, a, H => by simp only [TVR] at H
theorem TVRs.kill {i : Nat} {M M' : Mp} {h h' : Heap} (D : Kills i M h M' h') : ∀ (l : List TV) {as : List AV}, TVRs M h l as → TVRs M' h' (TV.kills i l) as
  | [], as, H => by simpa only [TVRs, TV.kills] using H
  | v :: l, [], H => by simp only [TVRs] at H
  | v :: l, a :: as, H => by
    simp only [TVRs, TV.kills] at *
    exact ⟨TVR.kill D v H.1, TVRs.kill D l H.2⟩
end

/-- What row 'i's elements own has changed. -/
structure Dims (i : Nat) (M : Mp) (h : Heap) (M' : Mp) (h' : Heap) : Prop where
  box : ∀ b, b < M.nb → b < M'.nb ∧ M'.β b = M.β b
  row : ∀ j, M.lv j = true → M'.lv j = true ∧ M'.α j = M.α j
  rest : ∀ j, j ≠ i → M.lv j = true → ∀ x ∈ M.N j, x ∈ M'.N j ∧ h'.rows x = h.rows x
mutual
theorem TVR.dim {i : Nat} {M M' : Mp} {h h' : Heap} (D : Dims i M h M' h') : ∀ (v : TV) {a : AV}, TVR M h v a → TVR M' h' (v.dim i) a
  | .bad, a, _ => by simp only [TVR, TV.dim]
  | .nil, a, H => by simpa only [TVR, TV.dim] using H
  | .int k n, a, H => by simpa only [TVR, TV.dim] using H
  | .bool b, a, H => by simpa only [TVR, TV.dim] using H
  | .str s, a, H => by simpa only [TVR, TV.dim] using H
  | .lst cs xs, a, H => by simpa only [TVR, TV.dim] using H
  | .ref j, a, H => by
    simp only [TVR, TV.dim] at *
    obtain ⟨h1, h2⟩ := D.row j H.1
    exact ⟨h1, by rw [h2]; exact H.2⟩
  | .sub j lo hi, a, H => by
    simp only [TVR, TV.dim] at *
    obtain ⟨h1, h2⟩ := D.row j H.1
    rw [h2]
    exact ⟨h1, H.2⟩
  | .vw j cs xs, a, H => by
    simp only [TV.dim]
    split
    · simp only [TVR]
    · rename_i hj
      simp only [TVR] at *
      obtain ⟨h1, h2⟩ := D.row j H.1
      have h3 := D.rest j hj H.1
      obtain ⟨F, g1, g2⟩ := H.2
      exact ⟨h1, F, fun x hx => (h3 x (g1 x hx)).1, OwnC.heap _ (fun r hr => (h3 r (g1 r hr)).2) g2⟩
  | .st l, a, H => by
    simp only [TVR, TV.dim] at *
    obtain ⟨as, e, H⟩ := H
    exact ⟨as, e, TVRs.dim D l H⟩
  | .tup l, a, H => by
    simp only [TVR, TV.dim] at *
    obtain ⟨as, e, H⟩ := H
    exact ⟨as, e, TVRs.dim D l H⟩
  | .box b off, a, H => by
    simp only [TVR, TV.dim] at *
    obtain ⟨h1, h2⟩ := D.box b H.1
    exact ⟨h1, by rw [h2]; exact H.2⟩
  | .rptr j idx off, a, H => by
    simp only [TVR, TV.dim] at *
    obtain ⟨h1, h2⟩ := D.row j H.1
    rw [h2]
    exact ⟨h1, H.2⟩
  | .lptr l, a, H => by
    simp only [TVR, TV.dim] at *
    obtain ⟨as, e, H⟩ := H
    exact ⟨as, e, TVRs.dim D l H⟩
  | .vptr j l, a, H => by
    simp only [TV.dim]
    split
    · simp only [TVR]
    · rename_i hj
      simp only [TVR] at *
      obtain ⟨h1, h2⟩ := D.row j H.1
      have h3 := D.rest j hj H.1
      obtain ⟨as, g, H⟩ := H.2
      refine ⟨h1, as, TVRs.dim D l g, ?_⟩
      rcases H with H | ⟨r, idx, off, row, es, e, g1, g2, g3⟩
      · exact .inl H
      · exact .inr ⟨r, idx, off, row, es, e, (h3 r g1).1, by rw [(h3 r g1).2]; exact g2, g3⟩
  | .fn f l, a, H => by
    simp only [TVR, TV.dim] at *
    obtain ⟨as, e, H⟩ := H
    exact ⟨as, e, TVRs.dim D l H⟩
  | .gd _ _ _, a, H => by simp only [TVR] at H
theorem TVRs.dim {i : Nat} {M M' : Mp} {h h' : Heap} (D : Dims i M h M' h') : ∀ (l : List TV) {as : List AV}, TVRs M h l as → TVRs M' h' (TV.dims i l) as
  | [], as, H => by simpa only [TVRs, TV.dims] using H
  | v :: l, [], H => by simp only [TVRs] at H
  | v :: l, a :: as, H => by
    simp only [TVRs, TV.dims] at *
    exact ⟨TVR.dim D v H.1, TVRs.dim D l H.2⟩
end

/-! A place of the environment: a value, or a value under a guard. -/
def EVR (M : Mp) (h : Heap) (env : List AV) : TV → AV → Prop
  | .gd t w v, a => (env.getD t .bad = .bool w → TVR M h v a) ∧ (env.getD t .bad ≠ .bool w → a = .tup [])
  | v, a => TVR M h v a
theorem EVR.of {M : Mp} {h : Heap} {env : List AV} {v : TV} {a : AV} (H : TVR M h v a) : EVR M h env v a := by
  cases v <;> first | exact H | (simp only [TVR] at H)
def fp (M : Mp) (i : Nat) : List Nat := rid (M.α i) ++ M.N i

/-- Where a function began: the heap, the rows that it was handed. -/
structure Bg where
  h : Heap
  F : List Nat

structure SRel (B : Bg) (M : Mp) (env : List AV) (h : Heap) (s : VS) : Prop where
  len : s.env.length = env.length
  env : ∀ (t : Nat) v a, s.env[t]? = some v → env[t]? = some a → EVR M h env v a
  nb : M.nb = s.boxes.length
  box : ∀ b cs, s.box? b = some cs → ∃ as, h.boxes[M.β b]? = some as ∧ TVRs M h cs as
  binj : ∀ b b', b < M.nb → b' < M.nb → M.β b = M.β b' → b = b'
  bown : ∀ b, b < M.nb → B.h.boxes.length ≤ M.β b ∧ M.β b < h.boxes.length
  lv : ∀ i, M.lv i = (s.row? i).isSome
  row : ∀ i r, s.row? i = some r → RowRel h r.nm r.cs r.xs (M.α i) (M.N i)
  dead : ∀ i, M.lv i = false → M.α i = .nils ∧ M.N i = []
  lt : ∀ i x, x ∈ fp M i → x < h.next
  nd : ∀ i, (fp M i).Nodup
  dj : ∀ i j x, x ∈ fp M i → x ∈ fp M j → i = j
  gd : ∀ (t g : Nat) w v, s.env[t]? = some (.gd g w v) → (t, g) ∈ s.gds
  own : ∀ i x, x ∈ fp M i → x ∈ B.F ∨ B.h.next ≤ x
  fr : ∀ x, x < B.h.next → x ∉ B.F → h.rows x = B.h.rows x
  frb : ∀ b, b < B.h.boxes.length → h.boxes[b]? = B.h.boxes[b]?
  nx : B.h.next ≤ h.next
  bx : B.h.boxes.length ≤ h.boxes.length

theorem kills_get (i : Nat) : ∀ (l : List TV) (t : Nat), (TV.kills i l)[t]? = (l[t]?).map (TV.kill i)
  | [], t => by simp [TV.kills]
  | v :: l, 0 => by simp [TV.kills]
  | v :: l, t + 1 => by simp [TV.kills, kills_get i l t]
theorem kills_len (i : Nat) : ∀ (l : List TV), (TV.kills i l).length = l.length
  | [] => rfl
  | v :: l => by simp [TV.kills, kills_len i l]
theorem dims_get (i : Nat) : ∀ (l : List TV) (t : Nat), (TV.dims i l)[t]? = (l[t]?).map (TV.dim i)
  | [], t => by simp [TV.dims]
  | v :: l, 0 => by simp [TV.dims]
  | v :: l, t + 1 => by simp [TV.dims, dims_get i l t]
theorem dims_len (i : Nat) : ∀ (l : List TV), (TV.dims i l).length = l.length
  | [] => rfl
  | v :: l => by simp [TV.dims, dims_len i l]
theorem killB_get (i : Nat) : ∀ (l : List (Option (List TV))) (t : Nat), (killB i l)[t]? = (l[t]?).map (Option.map (TV.kills i))
  | [], t => by simp [killB]
  | none :: l, 0 => by simp [killB]
  | some v :: l, 0 => by simp [killB]
  | none :: l, t + 1 => by simp [killB, killB_get i l t]
  | some v :: l, t + 1 => by simp [killB, killB_get i l t]
theorem killB_len (i : Nat) : ∀ (l : List (Option (List TV))), (killB i l).length = l.length
  | [] => rfl
  | none :: l => by simp [killB, killB_len i l]
  | some v :: l => by simp [killB, killB_len i l]
theorem dimB_get (i : Nat) : ∀ (l : List (Option (List TV))) (t : Nat), (dimB i l)[t]? = (l[t]?).map (Option.map (TV.dims i))
  | [], t => by simp [dimB]
  | none :: l, 0 => by simp [dimB]
  | some v :: l, 0 => by simp [dimB]
  | none :: l, t + 1 => by simp [dimB, dimB_get i l t]
  | some v :: l, t + 1 => by simp [dimB, dimB_get i l t]
theorem dimB_len (i : Nat) : ∀ (l : List (Option (List TV))), (dimB i l).length = l.length
  | [] => rfl
  | none :: l => by simp [dimB, dimB_len i l]
  | some v :: l => by simp [dimB, dimB_len i l]

theorem VS.row?_eq {s : VS} {i : Nat} {r : VRow} : s.row? i = some r ↔ s.rows[i]? = some (some r) := by
  unfold VS.row?
  split
  · rename_i r' h; rw [h]; simp
  · rename_i h
    constructor
    · intro h; cases h
    · intro h'; exact absurd h' (h r)
theorem VS.box?_eq {s : VS} {i : Nat} {r : List TV} : s.box? i = some r ↔ s.boxes[i]? = some (some r) := by
  unfold VS.box?
  split
  · rename_i r' h; rw [h]; simp
  · rename_i h
    constructor
    · intro h; cases h
    · intro h'; exact absurd h' (h r)

/-- Row 'i' is handed over or given up: nobody names it any more. -/
def Mp.free (M : Mp) (i : Nat) : Mp := { M with α := fun j => if j = i then .nils else M.α j, N := fun j => if j = i then [] else M.N j, lv := fun j => if j = i then false else M.lv j }
theorem Mp.free_kills (M : Mp) (h : Heap) (i : Nat) : Kills i M h (M.free i) h :=
  ⟨fun b hb => ⟨hb, rfl⟩, fun j hj hl => by simp [Mp.free, hj, hl]⟩
theorem fp_free (M : Mp) (i j : Nat) : fp (M.free i) j = if j = i then [] else fp M j := by
  unfold fp Mp.free
  by_cases h : j = i <;> simp [h, rid]
theorem free_row? (s : VS) (i j : Nat) : (s.free i).row? j = if j = i then none else s.row? j := by
  unfold VS.row? VS.free
  simp only [List.getElem?_set]
  by_cases h : j = i
  · subst h
    simp only [if_true]
    split
    · rename_i r he; split at he <;> simp at he
    · rfl
  · have : i ≠ j := fun e => h e.symm
    simp only [this, if_false, h]
theorem free_box? (s : VS) (i b : Nat) : (s.free i).box? b = (s.box? b).map (TV.kills i) := by
  unfold VS.box? VS.free
  simp only [killB_get]
  cases h : s.boxes[b]? with
  | none => rfl
  | some o => cases o <;> rfl

theorem EVR.kill {i : Nat} {M M' : Mp} {h h' : Heap} (D : Kills i M h M' h') {env : List AV} {v : TV} {a : AV} (H : EVR M h env v a) : EVR M' h' env (v.kill i) a := by
  cases v with
  | gd t w v => exact ⟨fun e => (H.1 e).kill D, H.2⟩
  | _ => exact .of (TVR.kill D _ H)
theorem EVR.dim {i : Nat} {M M' : Mp} {h h' : Heap} (D : Dims i M h M' h') {env : List AV} {v : TV} {a : AV} (H : EVR M h env v a) : EVR M' h' env (v.dim i) a := by
  cases v with
  | gd t w v => exact ⟨fun e => (H.1 e).dim D, H.2⟩
  | _ => exact .of (TVR.dim D _ H)
theorem EVR.mono {M M' : Mp} {h h' : Heap} (D : Mono M h M' h') {env : List AV} {v : TV} {a : AV} (H : EVR M h env v a) : EVR M' h' env v a := by
  cases v with
  | gd t w v => exact ⟨fun e => (H.1 e).mono D, H.2⟩
  | _ => exact .of (TVR.mono D _ H)
theorem kill_gd {i : Nat} {v : TV} {g : Nat} {w : Bool} {u : TV} (h : v.kill i = .gd g w u) : ∃ u', v = .gd g w u' := by
  cases v <;> simp only [TV.kill] at h <;> first | (cases h; done) | (split at h <;> cases h; done) | (injection h with h1 h2 h3; exact ⟨_, by rw [h1, h2]⟩)
theorem dim_gd {i : Nat} {v : TV} {g : Nat} {w : Bool} {u : TV} (h : v.dim i = .gd g w u) : ∃ u', v = .gd g w u' := by
  cases v <;> simp only [TV.dim] at h <;> first | (cases h; done) | (split at h <;> cases h; done) | (injection h with h1 h2 h3; exact ⟨_, by rw [h1, h2]⟩)

theorem SRel.free {B : Bg} {M : Mp} {env : List AV} {h : Heap} {s : VS} (S : SRel B M env h s) (i : Nat) : SRel B (M.free i) env h (s.free i) where
  len := by simp [VS.free, kills_len, S.len]
  env t v a h1 h2 := by
    simp only [VS.free, kills_get, Option.map_eq_some_iff] at h1
    obtain ⟨v', h1, rfl⟩ := h1
    exact (S.env t v' a h1 h2).kill (M.free_kills h i)
  nb := by simp [VS.free, killB_len, Mp.free, S.nb]
  box b cs hb := by
    rw [free_box?, Option.map_eq_some_iff] at hb
    obtain ⟨cs', hb, rfl⟩ := hb
    obtain ⟨as, h1, h2⟩ := S.box b cs' hb
    exact ⟨as, h1, h2.kill (M.free_kills h i)⟩
  binj := S.binj
  bown := S.bown
  lv j := by
    rw [free_row?]
    by_cases hj : j = i
    · simp [Mp.free, hj]
    · simp [Mp.free, hj, S.lv j]
  row j r hr := by
    rw [free_row?] at hr
    by_cases hj : j = i
    · simp [hj] at hr
    · rw [if_neg hj] at hr
      simpa [Mp.free, hj] using S.row j r hr
  dead j hj := by
    by_cases hji : j = i
    · simp [Mp.free, hji]
    · simp only [Mp.free, hji, if_false] at hj ⊢
      exact S.dead j hj
  lt j x hx := by
    rw [fp_free] at hx
    split at hx
    · simp at hx
    · exact S.lt j x hx
  nd j := by
    rw [fp_free]
    split
    · exact List.nodup_nil
    · exact S.nd j
  dj j k x h1 h2 := by
    rw [fp_free] at h1 h2
    split at h1
    · simp at h1
    · split at h2
      · simp at h2
      · exact S.dj j k x h1 h2
  gd t g w v h1 := by
    simp only [VS.free, kills_get, Option.map_eq_some_iff] at h1
    obtain ⟨v', h1, h2⟩ := h1
    obtain ⟨u', rfl⟩ := kill_gd h2
    exact S.gd t g w u' h1
  own j x hx := by
    rw [fp_free] at hx
    split at hx
    · simp at hx
    · exact S.own j x hx
  fr := S.fr
  frb := S.frb
  nx := S.nx
  bx := S.bx
end Go.PA
