/- Typed values: lists made, grown and copied. No condition. -/
import Derived.Test.YtaekmccjendfoaaV10
namespace Go.PA
section
variable {B : Bg} {M : Mp} {env : List AV} {h : Heap} {s : VS}

theorem bytes_empty {s : ByteArray} (h : s.size = 0) : s = ByteArray.empty := by
  cases s with
  | mk d =>
    have : d = #[] := Array.eq_empty_of_size_eq_zero h
    rw [this]; rfl
theorem zeroB_ok {Z : List Nat} : ∀ (t : Ty) {a : AV}, zeroB t a = true → OwnC h Z .Z t t.d0 a []
  | .int k, a, hz => by
    cases a <;> simp only [zeroB, Bool.false_eq_true, Bool.and_eq_true, beq_iff_eq] at hz
    simp only [OwnC, Ty.d0]; exact ⟨by rw [hz.1, hz.2], trivial⟩
  | .bool, a, hz => by
    cases a <;> simp only [zeroB, Bool.false_eq_true, Bool.not_eq_true'] at hz
    simp only [OwnC, Ty.d0]; exact ⟨by rw [hz], trivial⟩
  | .str, a, hz => by
    cases a <;> simp only [zeroB, Bool.false_eq_true, beq_iff_eq] at hz
    simp only [OwnC, Ty.d0]; exact ⟨by rw [bytes_empty hz], trivial⟩
  | .sl cs, a, hz => by
    cases a <;> simp only [zeroB, Bool.false_eq_true] at hz
    simp only [OwnC, Ty.d0]; exact .inl ⟨trivial, rfl, trivial⟩
theorem zeroBs_ok {Z : List Nat} : ∀ (ts : List Ty) {as : List AV}, zeroBs ts as = true → OwnCs h Z .Z ts (Ty.ds0 ts) as []
  | [], [], _ => by simp only [OwnCs]; exact ⟨trivial, trivial⟩
  | [], _ :: _, hz => by simp only [zeroBs, Bool.false_eq_true] at hz
  | _ :: _, [], hz => by simp only [zeroBs, Bool.false_eq_true] at hz
  | t :: ts, a :: as, hz => by
    simp only [zeroBs, Bool.and_eq_true] at hz
    simp only [OwnCs, Ty.ds0]
    exact ⟨[], [], rfl, zeroB_ok t hz.1, zeroBs_ok ts hz.2⟩
theorem zeros_ok {Z : List Nat} {ts : List Ty} {zs : List AV} (hz : zeroBs ts zs = true) : ∀ n : Nat, AllF (fun x y G => OwnCs h Z .Z ts x y G) (List.replicate n (Ty.ds0 ts)) (List.replicate n zs) []
  | 0 => rfl
  | n + 1 => ⟨[], [], rfl, zeroBs_ok ts hz, zeros_ok hz n⟩

/-- Apart from all that the state owns. -/
def Apart (B : Bg) (M : Mp) (h : Heap) (F : List Nat) : Prop := ∀ x ∈ F, (∀ j, x ∉ fp M j) ∧ x < h.next ∧ (x ∈ B.F ∨ B.h.next ≤ x) ∧ x ∉ M.Z
theorem Apart.of_eaten (S : SRel B M env h s) {M' : Mp} {C : List Nat} (H : Eaten M M' C) : Apart B M' h C := fun x hx => by
  obtain ⟨⟨j, hj⟩, h2, h3⟩ := H x hx
  exact ⟨h2, S.lt j x hj, S.own j x hj, h3⟩
theorem Apart.later {M1 : Mp} {s1 : VS} (D : Sub M M1 s s1) {F : List Nat} (H : Apart B M h F) : Apart B M1 h F := fun x hx =>
  ⟨fun j hj => (H x hx).1 j (D.fp hj), (H x hx).2.1, (H x hx).2.2.1, fun hz => (D.znew x hz).elim (H x hx).2.2.2 fun ⟨j, hj⟩ => (H x hx).1 j hj⟩

/-- A row of its own. -/
theorem SRel.newRow (S : SRel B M env h s) {cs : List Ty} {xs : List (Ty.Ds cs)} {els : List (List AV)} {m : NM} {F : List Nat} (H : AllF (fun x y G => OwnCs h M.Z m cs x y G) xs els F) (hF : Apart B M h F) (hnd : F.Nodup) :
    ∃ M', SRel B M' env { h with rows := upd h.rows h.next (some ⟨cs.length, els⟩), next := h.next + 1 } (s.newRow ⟨m, cs, xs⟩).2 ∧ TVR M' { h with rows := upd h.rows h.next (some ⟨cs.length, els⟩), next := h.next + 1 } (.ref (s.newRow ⟨m, cs, xs⟩).1) (.ref h.next 0 xs.length) := by
  obtain ⟨h1, h2⟩ := newRow_slot? s ⟨m, cs, xs⟩
  have hi := S.not_lv h1
  refine ⟨M.add (s.newRow ⟨m, cs, xs⟩).1 (.ref h.next 0 xs.length) F, S.addRow hi (fun j x hx => ?_) (fun x hx => ?_) (fun x hx => ?_) (fun x hx _ => ?_) (fun x hx j hj => ?_) rfl (Nat.le_succ _) ?_ ?_ (fun x hx => ⟨Nat.lt_succ_of_lt (hF x hx).2.1, (hF x hx).1, (hF x hx).2.2.1⟩) (fun x hx => ?_) rfl rfl rfl rfl h2, ?_⟩
  · exact upd_ne _ _ _ _ (by have := S.lt j x hx; omega)
  · exact upd_ne _ _ _ _ (by have := S.zlt x hx; omega)
  · intro hz
    rcases List.mem_append.1 hx with hx | hx
    · simp [rid] at hx
      subst hx
      have := S.zlt _ hz; omega
    · exact (hF x hx).2.2.2 hz
  · exact upd_ne _ _ _ _ (by have := S.nx; omega)
  · simp [rid] at hx
    subst hx
    have := S.lt j _ hj; omega
  · refine .inr ⟨h.next, 0, ⟨cs.length, els⟩, rfl, upd_same _ _ _, rfl, by simp [H.len], ?_⟩
    rw [List.drop_zero, H.len, List.take_length]
    exact H.mono fun a b G hG => OwnCs.heap (fun x hx => ⟨hx, upd_ne _ _ _ _ (by have := S.zlt x hx; omega)⟩) cs fun x hx => upd_ne _ _ _ _ (by have := (hF x (hG x hx)).2.1; omega)
  · refine List.nodup_append.2 ⟨by simp [rid], hnd, fun x hx y hy e => ?_⟩
    simp [rid] at hx
    subst hx; subst e
    have := (hF _ hy).2.1; omega
  · simp [rid] at hx
    subst hx
    exact ⟨Nat.lt_succ_self _, .inr S.nx⟩
  · simp only [TVR, Mp.add, if_true]
    exact ⟨trivial, trivial⟩

theorem fillET_ok : ∀ (l : List (Nat × Operand)) {M : Mp} {s : VS} {cs : List Ty} {xs : List (Ty.Ds cs)} {m : NM} {els : List (List AV)} {F : List Nat} {r : List (Ty.Ds cs)} {m' : NM} {s' : VS}, SRel B M env h s → AllF (fun x y G => OwnCs h M.Z m cs x y G) xs els F → Apart B M h F → F.Nodup →
    fillET s cs xs m none l = some (r, m', s') → ∃ M' els' F', SRel B M' env h s' ∧ fillE cs.length els (l.map fun p => (p.1, aeval env p.2)) = some els' ∧ AllF (fun x y G => OwnCs h M'.Z m' cs x y G) r els' F' ∧ Apart B M' h F' ∧ F'.Nodup ∧ r.length = xs.length
  | [], M, s, cs, xs, m, els, F, r, m', s', S, H, hF, hnd, hf => by
    simp only [fillET, Option.some.injEq, Prod.mk.injEq] at hf
    obtain ⟨rfl, rfl, rfl⟩ := hf
    exact ⟨M, els, F, S, rfl, H, hF, hnd, rfl⟩
  | (i, x) :: l, M, s, cs, xs, m, els, F, r, m', s', S, H, hF, hnd, hf => by
    simp only [fillET] at hf
    split at hf
    · rename_i vs hcs
      obtain ⟨bs, hb1, hb2⟩ := S.cells (S.ev (g := none) trivial x) hcs
      split at hf
      · rename_i d m1 s1 hun
        split at hf
        · rename_i hi
          obtain ⟨M1, C, S1, D1, O1, C1, E1⟩ := unTVs_ok cs S hb2 hun
          have H := H.mono' fun a b G => OwnCs.heap (D1.zup h) cs fun _ _ => rfl
          obtain ⟨b0, A, B0, C0, g1, g2, g3, g4⟩ := H.at_ i (List.getElem?_eq_getElem hi)
          have H' := g4 (fun x y G => OwnCs h M1.Z (m.join m1) cs x y G) (fun a b G => OwnCs.mode (NM.ok_join_l _ _) cs) d bs C (OwnCs.mode (NM.ok_join_r _ _) cs O1)
          have hFC : ∀ x ∈ F, x ∉ C := fun x hx hc => by
            obtain ⟨j, hj⟩ := (E1 x hc).1
            exact (hF x hx).1 j hj
          rw [g2] at hnd hFC
          have hnd' : (A ++ C ++ C0).Nodup := by
            obtain ⟨k1, k2, k3⟩ := List.nodup_append.1 hnd
            obtain ⟨k4, k5, k6⟩ := List.nodup_append.1 k1
            refine List.nodup_append.2 ⟨List.nodup_append.2 ⟨k4, C1, fun x hx y hy e => ?_⟩, k2, fun x hx y hy e => ?_⟩
            · subst e; exact hFC x (by simp [hx]) hy
            · subst e
              rcases List.mem_append.1 hx with hx | hx
              · exact k3 x (List.mem_append_left _ hx) x hy rfl
              · exact hFC x (by simp [hy]) hx
          have hA' : Apart B M1 h (A ++ C ++ C0) := fun x hx => by
            have hF1 := hF.later D1
            rcases List.mem_append.1 hx with hx | hx
            · rcases List.mem_append.1 hx with hx | hx
              · exact hF1 x (by rw [g2]; simp [hx])
              · exact Apart.of_eaten S E1 x hx
            · exact hF1 x (by rw [g2]; simp [hx])
          obtain ⟨M', els', F', p1, p2, p3, p4, p5, p6⟩ := fillET_ok l S1 H' hA' hnd' hf
          refine ⟨M', els', F', p1, ?_, p3, p4, p5, by rw [p6]; simp⟩
          simp only [List.map_cons, fillE, hb1]
          rw [if_pos ⟨OwnCs.len cs O1, by rw [← H.len]; exact hi⟩]
          exact p2
        · cases hf
      · cases hf
    · cases hf

theorem loud_bslice (S : SRel B M env h s) {an : List (Nat × An)} {dst : Option Tmp} {sz n : Nat} {zs : List AV} {parts : List (Nat × Operand)} {c : List Bool} {v : TV} {s1 : VS} (hd : vdet an s none dst (.bslice sz n zs parts) = .ok c v s1) : LoudT B env h (.bslice sz n zs parts) v s1 := by
  simp only [vdet] at hd
  split at hd
  · rename_i cs hty
    split at hd
    · rename_i hz
      simp only [Bool.and_eq_true, beq_iff_eq] at hz
      split at hd
      · rename_i xs m s2 hf
        simp only [VO.ok.injEq] at hd
        obtain ⟨_, rfl, rfl⟩ := hd
        have hsz : cs.length = sz := by rw [← hz.2]; exact (OwnCs.len cs (zeroBs_ok (h := h) (Z := M.Z) cs hz.1)).symm
        obtain ⟨M', els', F', p1, p2, p3, p4, p5, p6⟩ := fillET_ok parts S (zeros_ok hz.1 n) (fun x hx => by simp at hx) List.nodup_nil hf
        obtain ⟨M2, q1, q2⟩ := p1.newRow p3 p4 p5
        obtain ⟨M3, q3, q4, _⟩ := q1.fixA' (s2.newRow ⟨m, cs, xs⟩).1
        have hn : xs.length = n := by rw [p6]; simp
        have q2 := q4 _ _ q2
        rw [hsz] at q3 q2 p2
        rw [hn] at q2
        exact ⟨M3, _, _, by simp only [adet, p2] <;> rfl, q3, q2⟩
      · cases hd
    · cases hd
  · cases hd

theorem loud_mks (S : SRel B M env h s) {an : List (Nat × An)} {dst : Option Tmp} {sz bytes : Nat} {zs : List AV} {x y : Operand} {c : List Bool} {v : TV} {s1 : VS} (hd : vdet an s none dst (.mks sz bytes zs x y) = .ok c v s1) (hc : ∀ b ∈ c, b = true) :
    LoudT B env h (.mks sz bytes zs x y) v s1 := by
  simp only [vdet] at hd
  have hx := S.ev (g := none) trivial x
  have hy := S.ev (g := none) trivial y
  split at hd
  · rename_i n n' h1 h2
    rw [h1] at hx
    rw [h2] at hy
    simp only [TVR] at hx hy
    split at hd
    · rename_i cs hty
      split at hd
      · rename_i hz
        simp only [Bool.and_eq_true, beq_iff_eq] at hz
        simp only [VO.ok.injEq] at hd
        obtain ⟨rfl, rfl, rfl⟩ := hd
        have hsz : cs.length = sz := by rw [← hz.2]; exact (OwnCs.len cs (zeroBs_ok (h := h) (Z := M.Z) cs hz.1)).symm
        have hnn : n = n' := by
          by_cases hs : sameOpd x y = true
          · have : x = y := by
              cases x <;> cases y <;> simp only [sameOpd, Bool.false_eq_true, beq_iff_eq] at hs
              rw [hs]
            subst this
            rw [hx] at hy; cases hy; rfl
          · have := hc (n == n') (by simp [hs])
            simpa using this
        have hb := hc (decide (0 ≤ n ∧ (bytes : Int) * n ≤ 281474976710656 ∧ n ≤ 281474976710656)) (by simp)
        simp only [decide_eq_true_eq] at hb
        obtain ⟨M2, q1, q2⟩ := S.newRow (zeros_ok (h := h) (Z := M.Z) hz.1 n.toNat) (fun x hx => by simp at hx) List.nodup_nil
        rw [hsz] at q1 q2
        rw [List.length_replicate] at q2
        refine ⟨M2, _, _, ?_, q1, q2⟩
        simp only [adet, hx, hy]
        rw [if_pos ⟨hb.1, hnn, hb.2⟩]
      · cases hd
    · cases hd
  · cases hd

theorem take_ok (S : SRel B M env h s) {io : Option Nat} {l : VL} {v : TV} {s1 : VS} {m : NM} (ht : s.take io l v = some (s1, m)) {a : AV} (H : TVR M h v a) (hl : s.list v = some l) :
    ∃ M1 els F, SRel B M1 env h s1 ∧ Sub M M1 s s1 ∧ aels h a = some els ∧ AllF (fun x y G => OwnCs h M1.Z m l.cs x y G) l.xs els F ∧ Apart B M1 h F ∧ F.Nodup := by
  obtain ⟨els, F, h1, h2, h3, h4, h5⟩ := S.list H hl
  unfold VS.take at ht
  have nil_ : (l.nm = .Z ∨ l.nm = .L) → some (s, l.nm) = some (s1, m) → ∃ M1 els F, SRel B M1 env h s1 ∧ Sub M M1 s s1 ∧ aels h a = some els ∧ AllF (fun x y G => OwnCs h M1.Z m l.cs x y G) l.xs els F ∧ Apart B M1 h F ∧ F.Nodup := fun hm e => by
    cases e
    have := h3 hm
    subst this
    exact ⟨M, els, [], S, .refl S, h1, h2, fun x hx => by simp at hx, List.nodup_nil⟩
  split at ht
  · rename_i hm; exact nil_ (.inl hm) (by rw [hm]; exact ht)
  · rename_i hm; exact nil_ (.inr hm) (by rw [hm]; exact ht)
  · split at ht
    · cases ht
    · rename_i j hj
      split at ht
      · cases ht
      · rename_i r hr
        obtain ⟨hr1, hp⟩ := VS.mine_eq hr
        rw [S.pn] at hp
        have frz_ : some (s.frz j r, NM.L) = some (s1, m) → ∃ M1 els F, SRel B M1 env h s1 ∧ Sub M M1 s s1 ∧ aels h a = some els ∧ AllF (fun x y G => OwnCs h M1.Z m l.cs x y G) l.xs els F ∧ Apart B M1 h F ∧ F.Nodup := fun e => by
          cases e
          refine ⟨M.frz j, els, [], S.frz hr1, .frz S hr1, h1, AllF.lits (h2.to_all2 fun a b G hG => OwnCs.froz (Z' := (M.frz j).Z) (fun x hx => List.mem_append_right _ hx) l.cs fun x hx => ?_), fun x hx => by simp at hx, List.nodup_nil⟩
          obtain ⟨j', hj', hx'⟩ := h4 x (hG x hx)
          rw [hj] at hj'
          cases hj'
          exact List.mem_append_left _ hx'
        split at ht
        · split at ht
          · exact frz_ ht
          · cases ht
            refine ⟨M.free j, els, F, S.free j hp, .free S j hp, h1, h2, fun x hx => ?_, h5 fun i o cs xs e => by cases e⟩
            obtain ⟨j', hj', hx'⟩ := h4 x hx
            rw [hj] at hj'
            cases hj'
            exact Apart.of_eaten S (Eaten.free S j) x (List.mem_append_right _ hx')
        · exact frz_ ht

theorem OwnCs.all_len {Z : List Nat} {m : NM} {cs : List Ty} {xs : List (Ty.Ds cs)} {els : List (List AV)} {F : List Nat} (H : AllF (fun x y G => OwnCs h Z m cs x y G) xs els F) : els.all (fun c => c.length == cs.length) = true := by
  rw [List.all_eq_true]
  intro y hy
  obtain ⟨k, hk⟩ := List.getElem?_of_mem hy
  have hkx : k < xs.length := by rw [H.len]; exact (List.getElem?_eq_some_iff.1 hk).1
  obtain ⟨b, A, B0, C, g1, g2, g3, _⟩ := H.at_ k (List.getElem?_eq_getElem hkx)
  rw [hk] at g1; cases g1
  simp [OwnCs.len cs g3]

/-- What is appended to: nothing, or a part of row 'i' from its beginning on. -/
theorem app_core (S : SRel B M env h s) {i : Nat} {sl : VSlot} (hr : s.slot? i = some sl) (hp : B.pin.length ≤ i) {cs : List Ty} {xs ys : List (Ty.Ds cs)} {els : List (List AV)} {Fx Fy : List Nat} {mx my : NM} {x y : Operand} {bytes : Nat}
    (hax : (aeval env x = .nils ∧ xs = [] ∧ Fx = []) ∨ ∃ rr off row, aeval env x = .ref rr off xs.length ∧ h.rows rr = some row ∧ row.sz = cs.length ∧ off + xs.length ≤ row.el.length ∧ AllF (fun x y G => OwnCs h M.Z mx cs x y G) xs ((row.el.drop off).take xs.length) Fx ∧ rr ∈ rid (M.α i))
    (hFx : ∀ x ∈ Fx, x ∈ M.N i) (hay : aels h (aeval env y) = some els) (hy : AllF (fun x y G => OwnCs h M.Z my cs x y G) ys els Fy) (hFy : ∀ x ∈ Fy, x ∈ M.N i ∨ ((∀ j, x ∉ fp M j) ∧ x < h.next ∧ (x ∈ B.F ∨ B.h.next ≤ x) ∧ x ∉ M.Z)) (hFnd : (Fx ++ Fy).Nodup) (hcap : capOk (xs.length + ys.length) bytes = true) :
    LoudT B env h (.app cs.length bytes x y) (.ref i) { s.free i with rows := (s.free i).rows.set i (some (.row ⟨mx.join my, cs, xs ++ ys⟩)) } := by
  have Sf := S.free i hp
  have hnl : (M.free i).lv i = false := by simp [Mp.free]
  have hilt := slot?_lt hr
  have hE := Eaten.free S i
  simp only [capOk, decide_eq_true_eq] at hcap
  have hrow? : ∀ j, VS.slot? { s.free i with rows := (s.free i).rows.set i (some (.row ⟨mx.join my, cs, xs ++ ys⟩)) } j = if j = i then some (.row ⟨mx.join my, cs, xs ++ ys⟩) else (s.free i).slot? j := fun j => by
    rw [rows_slot?]
    simp [VS.free, hilt]
  have hylen := hy.len
  have hall := OwnCs.all_len hy
  have hFap : Apart B (M.free i) h (Fx ++ Fy) := fun x hx => by
    have mine : ∀ x ∈ M.N i, _ := fun x hx => Apart.of_eaten S hE x (List.mem_append_right _ hx)
    rcases List.mem_append.1 hx with hx | hx
    · exact mine x (hFx x hx)
    · rcases hFy x hx with hx | hx
      · exact mine x hx
      · exact ⟨fun j hj => hx.1 j ((Sub.free S i hp).fp hj), hx.2⟩
  -- a new row, in whatever heap keeps what is owned
  have made : ∀ (h' : Heap) (els' : List (List AV)), (∀ x, x ∉ rid (M.α i) → x ≠ h.next → h'.rows x = h.rows x) → h'.rows h.next = some ⟨cs.length, els'⟩ → h'.boxes = h.boxes → h'.next = h.next + 1 → AllF (fun x y G => OwnCs h M.Z (mx.join my) cs x y G) (xs ++ ys) els' (Fx ++ Fy) →
      (∀ x ∈ Fx ++ Fy, x ∉ rid (M.α i)) →
      ∃ M', SRel B M' env h' { s.free i with rows := (s.free i).rows.set i (some (.row ⟨mx.join my, cs, xs ++ ys⟩)) } ∧ TVR M' h' (.ref i) (.ref h.next 0 (xs ++ ys).length) := by
    intro h' els' hs hnew hb hn H hno
    have hzs : ∀ x ∈ M.Z, h'.rows x = h.rows x := fun x hx => hs x (fun he => S.zdj x hx i (List.mem_append_left _ he)) (by have := S.zlt x hx; omega)
    refine ⟨(M.free i).add i (.ref h.next 0 (xs ++ ys).length) (Fx ++ Fy), Sf.addRow hnl (fun j x hx => ?_) (fun x hx => ?_) (fun x hx => ?_) (fun x hx hxB => ?_) (fun x hx j hj => ?_) hb (by omega) ?_ ?_ (fun x hx => ⟨by rw [hn]; exact Nat.lt_succ_of_lt (hFap x hx).2.1, (hFap x hx).1, (hFap x hx).2.2.1⟩) (fun x hx => ?_) rfl rfl rfl rfl hrow?, ?_⟩
    · refine hs x (fun hx2 => ?_) (by have := Sf.lt j x hx; omega)
      rw [fp_free] at hx
      split at hx
      · simp at hx
      · rename_i hji; exact hji (S.dj j i x hx (List.mem_append_left _ hx2))
    · exact hzs x hx
    · intro hz
      rcases List.mem_append.1 hx with hx | hx
      · simp [rid] at hx
        subst hx
        have := S.zlt _ hz; omega
      · exact (hFap x hx).2.2.2 hz
    · refine hs x (fun hx2 => ?_) (by have := S.nx; omega)
      rcases S.own i x (List.mem_append_left _ hx2) with h3 | h3
      · exact hxB h3
      · omega
    · simp [rid] at hx
      subst hx
      have := Sf.lt j _ hj; omega
    · refine .inr ⟨h.next, 0, ⟨cs.length, els'⟩, rfl, hnew, rfl, by simp only [Nat.zero_add]; rw [H.len]; exact Nat.le_refl _, ?_⟩
      simp only [List.drop_zero]
      rw [H.len, List.take_length]
      exact H.mono fun a b G hG => OwnCs.heap (fun x hx => ⟨hx, hzs x hx⟩) cs fun x hx => hs x (hno x (hG x hx)) (by have := (hFap x (hG x hx)).2.1; omega)
    · refine List.nodup_append.2 ⟨by simp [rid], hFnd, fun x hx y hy e => ?_⟩
      simp [rid] at hx
      subst hx; subst e
      have := (hFap _ hy).2.1; omega
    · simp [rid] at hx
      subst hx
      exact ⟨by omega, .inr S.nx⟩
    · simp only [TVR, Mp.add, if_true]
      exact ⟨trivial, trivial⟩
  have hNrid : ∀ x ∈ M.N i, x ∉ rid (M.α i) := fun x hx he => by
    have := S.nd i
    unfold fp at this
    exact (List.nodup_append.1 this).2.2 x he x hx rfl
  have hno : ∀ x ∈ Fx ++ Fy, x ∉ rid (M.α i) := fun x hx => by
    rcases List.mem_append.1 hx with hx | hx
    · exact hNrid x (hFx x hx)
    · rcases hFy x hx with hx | hx
      · exact hNrid x hx
      · exact fun he => hx.1 i (List.mem_append_left _ he)
  have hYm : AllF (fun x y G => OwnCs h M.Z (mx.join my) cs x y G) ys els Fy := hy.mono fun a b G _ => OwnCs.mode (NM.ok_join_r _ _) cs
  rcases hax with ⟨e1, rfl, rfl⟩ | ⟨rr, off, row, e1, e2, e3, e4, e5, e6⟩
  · by_cases hys : els = []
    · subst hys
      have hyz : ys = [] := by cases ys with
        | nil => rfl
        | cons => simp at hylen
      subst hyz
      have hFz : Fy = [] := hy.nil_left.2
      subst hFz
      refine ⟨(M.free i).add i .nils [], .nils, h, by simp only [adet, hay, hall, if_true, e1], Sf.addRow hnl (fun _ _ _ => rfl) (fun _ _ => rfl) (fun x hx => by simp [rid] at hx) (fun _ _ _ => rfl) (fun x hx => by simp [rid] at hx) rfl (Nat.le_refl _) (.inl ⟨rfl, rfl, rfl⟩) (by simp [rid]) (fun x hx => by simp at hx) (fun x hx => by simp [rid] at hx) rfl rfl rfl rfl hrow?, ?_⟩
      simp only [TVR, Mp.add, if_true]
      exact ⟨trivial, trivial⟩
    · obtain ⟨M', p1, p2⟩ := made { h with rows := upd h.rows h.next (some ⟨cs.length, els⟩), next := h.next + 1 } els (fun x _ hx => upd_ne _ _ _ _ hx) (upd_same _ _ _) rfl rfl (by simpa using hYm) hno
      refine ⟨M', .ref h.next 0 els.length, _, ?_, p1, ?_⟩
      · simp only [adet, hay, hall, if_true, e1]
        rw [if_neg hys, if_pos (by simp only [List.length_nil, Nat.zero_add] at hcap; rw [← hylen]; exact hcap)]
      · simpa [hylen] using p2
  · have hXm : AllF (fun x y G => OwnCs h M.Z (mx.join my) cs x y G) xs ((row.el.drop off).take xs.length) Fx := e5.mono fun a b G _ => OwnCs.mode (NM.ok_join_l _ _) cs
    have hrl : rr < h.next := S.lt i rr (List.mem_append_left _ e6)
    have hridrr : rid (M.α i) = [rr] := by
      cases ha : M.α i <;> rw [ha] at e6 <;> simp [rid] at e6
      subst e6; rfl
    obtain ⟨M', p1, p2⟩ := made { h with rows := upd (upd h.rows rr none) h.next (some ⟨cs.length, (row.el.drop off).take xs.length ++ els⟩), next := h.next + 1 } ((row.el.drop off).take xs.length ++ els)
      (fun x hx1 hx2 => by
        rw [hridrr] at hx1
        simp at hx1
        show upd (upd h.rows rr none) h.next _ x = _
        rw [upd_ne _ _ _ _ hx2, upd_ne _ _ _ _ hx1]) (upd_same _ _ _) rfl rfl (hXm.append hYm) hno
    refine ⟨M', .ref h.next 0 (xs.length + els.length), _, ?_, p1, ?_⟩
    · simp only [adet, hay, hall, if_true, e1, e2]
      rw [if_pos ⟨e3, e4, by rw [← hylen]; exact hcap⟩]
    · simpa [hylen] using p2
end
end Go.PA
