/- Typed values: what a reading operation yields is what the plain one yields. No condition. -/
import Derived.Test.YtaekmccjendfoaaV8
namespace Go.PA
set_option linter.unusedVariables false
set_option linter.unusedSimpArgs false
section
variable {B : Bg} {M : Mp} {env : List AV} {h : Heap} {s : VS}

theorem byteAt_eq (t : ByteArray) (k : Int) (hk : k.toNat < t.size) : byteAt t k = ((t[k.toNat]'hk).toNat : Int) := by
  unfold byteAt
  rw [Array.getElem?_eq_getElem (by simpa using hk)]
  rfl

theorem SlotRel.shape {Z : List Nat} {sl : VSlot} {a : AV} {N : List Nat} (H : SlotRel h Z sl a N) : (a = .nils ∧ sl.r.xs = []) ∨ ∃ r off row, a = .ref r off sl.r.xs.length ∧ h.rows r = some row ∧ row.sz = sl.r.cs.length ∧ off + sl.r.xs.length ≤ row.el.length := by
  cases sl with
  | row r => rcases H with ⟨h1, h2, _⟩ | ⟨rr, off, row, h1, h2, h3, h4, _⟩ <;> first | exact .inl ⟨h1, h2⟩ | exact .inr ⟨rr, off, row, h1, h2, h3, h4⟩
  | sp p r => rcases H with ⟨h1, h2, _⟩ | ⟨rr, off, row, h1, h2, h3, h4, _⟩ <;> first | exact .inl ⟨h1, h2⟩ | exact .inr ⟨rr, off, row, h1, h2, h3, h4⟩
  | ho k fo r => obtain ⟨rr, off, row, es, h1, h2, h3, h4, _⟩ := H; exact .inr ⟨rr, off, row, h1, h2, h3, h4⟩
theorem bytes1_ok {Z : List Nat} {m : NM} : ∀ {xs : List (Ty.Ds [.int .u8])} {els : List (List AV)} {F : List Nat}, AllF (fun x y G => OwnCs h Z m [.int .u8] x y G) xs els F → bytes1 els = some (bytesOfD xs)
  | [], els, F, H => by obtain ⟨rfl, _⟩ := H.nil_left; rfl
  | x :: xs, [], F, H => H.elim
  | x :: xs, e :: els, F, ⟨F1, F2, _, h1, h2⟩ => by
    cases e with
    | nil => simp only [OwnCs] at h1
    | cons a as =>
      simp only [OwnCs, OwnC] at h1
      obtain ⟨G1, G2, _, ⟨rfl, _⟩, rfl, _⟩ := h1
      simp only [bytes1, byteOf?, bytes1_ok h2, bytesOfD]

theorem lits_all {Z : List Nat} {cs : List Ty} {xs : List (Ty.Ds cs)} {ys : List (List AV)} {sz : Nat} (H : All2 (fun x y => LitCs h Z cs x y) xs ys) (hsz : (cs.length == sz) = true) : ys.all (fun c => c.length == sz) = true := by
  rw [List.all_eq_true]
  intro y hy
  obtain ⟨k, hk⟩ := List.getElem?_of_mem hy
  have hkx : k < xs.length := by rw [H.len]; exact (List.getElem?_eq_some_iff.1 hk).1
  have := LitCs.len cs (H.get k _ _ (List.getElem?_eq_getElem hkx) hk)
  simp only [beq_iff_eq] at hsz
  simp [this, hsz]

theorem slice_lit (S : SRel B M env h s) {g : Option (Tmp × Bool)} (hg : Met env g) {sz : Nat} {x : Operand} {lo hi : Option Operand} {a b : Int} {cs : List Ty} {xs : List (Ty.Ds cs)} (ha : tbnd s g lo 0 = some a) (hb : tbnd s g hi xs.length = some b) (hsz : (cs.length == sz) = true) (hc : 0 ≤ a ∧ a ≤ b ∧ b ≤ (xs.length : Int)) (H : LitC h M.Z (.sl cs) xs (aeval env x)) :
    ∃ r, adet env h (.sl sz x lo hi) = some (r, h) ∧ LitC h M.Z (.sl cs) ((xs.take b.toNat).drop a.toNat) r := by
  simp only [LitC] at H
  have hsz' : cs.length = sz := by simpa using hsz
  rcases H with ⟨e, rfl⟩ | ⟨f, ys, e, H⟩ | ⟨r, off, row, e, g0, h2, h3, h4, H⟩
  · simp only [List.length_nil, Int.ofNat_eq_zero] at hc
    refine ⟨.nils, ?_, by simp only [LitC]; exact .inl ⟨trivial, by simp <;> rfl⟩⟩
    simp only [adet, e, tbnd_ok S hg ha, tbnd_def (d' := 0) S hg hb (fun _ => rfl)]
    rw [if_pos (by omega)]
  · refine ⟨.lit f ((ys.take b.toNat).drop a.toNat), ?_, by simp only [LitC]; exact .inr (.inl ⟨f, _, rfl, (H.take _).drop _⟩)⟩
    simp only [adet, e, tbnd_ok S hg ha, tbnd_def (d' := (ys.length : Int)) S hg hb (fun _ => by rw [H.len])]
    rw [if_pos ⟨hc.1, hc.2.1, by rw [← H.len]; exact hc.2.2, lits_all H hsz⟩]
  · have hbn : bnd env lo 0 = some a := tbnd_ok S hg ha
    have hbh : bnd env hi xs.length = some b := tbnd_ok S hg hb
    have hlen : ((List.take b.toNat xs).drop a.toNat).length = b.toNat - a.toNat := by rw [List.length_drop, List.length_take]; omega
    by_cases hab : a = b ∧ a ≠ 0
    · refine ⟨.lit true [], ?_, ?_⟩
      · simp only [adet, e, hbn, hbh, h2]
        rw [if_pos ⟨hc.1, hc.2.1, hc.2.2, by rw [h3, hsz']⟩, if_pos hab]
      · have : ((xs.take b.toNat).drop a.toNat) = [] := List.drop_eq_nil_of_le (by rw [List.length_take]; omega)
        rw [this]
        simp only [LitC]
        exact .inr (.inl ⟨true, [], rfl, trivial⟩)
    · refine ⟨.ref r (off + a.toNat) (b.toNat - a.toNat), ?_, ?_⟩
      · simp only [adet, e, hbn, hbh, h2]
        rw [if_pos ⟨hc.1, hc.2.1, hc.2.2, by rw [h3, hsz']⟩, if_neg hab]
      · simp only [LitC]
        refine .inr (.inr ⟨r, off + a.toNat, row, by rw [hlen], g0, h2, h3, by rw [hlen]; omega, ?_⟩)
        rw [hlen]
        have : List.take (b.toNat - a.toNat) (List.drop (off + a.toNat) row.el) = List.drop a.toNat (List.take b.toNat (List.take xs.length (List.drop off row.el))) := by
          rw [List.take_take, Nat.min_eq_left (by omega), List.drop_take, List.drop_drop]
        rw [this]; exact (H.take _).drop _
theorem index_lit (S : SRel B M env h s) {sz : Nat} {x i : Operand} {k : IntKind} {n : Int} {cs : List Ty} {xs : List (Ty.Ds cs)} (hi : aeval env i = .int k n) (hsz : cs.length = sz) (hc : 0 ≤ n ∧ n < (xs.length : Int)) (H : LitC h M.Z (.sl cs) xs (aeval env x)) :
    ∃ r, adet env h (.ia sz x i) = some (r, h) ∧ ∃ as, TVRs M h (toTVs none 0 cs (xs.getD n.toNat (Ty.ds0 cs))) as ∧ (r = .lptr as ∨ ∃ r' idx off row es, r = .rptr r' idx off ∧ r' ∈ M.Z ∧ h.rows r' = some row ∧ row.el[idx]? = some es ∧ as = es.drop off) := by
  have hk : n.toNat < xs.length := by omega
  have hd' : xs.getD n.toNat (Ty.ds0 cs) = xs[n.toNat] := by rw [List.getD_eq_getElem?_getD, List.getElem?_eq_getElem hk]; rfl
  simp only [LitC] at H
  rcases H with ⟨e, rfl⟩ | ⟨f, ys, e, H⟩ | ⟨r, off, row, e, g0, h2, h3, h4, H⟩
  · simp at hk
  · have hk2 : n.toNat < ys.length := by rw [← H.len]; exact hk
    have hel := H.get n.toNat _ _ (List.getElem?_eq_getElem hk) (List.getElem?_eq_getElem hk2)
    refine ⟨.lptr ys[n.toNat], ?_, _, by rw [hd']; exact toTVs_lit cs hel, .inl rfl⟩
    simp only [adet, hi, e]
    rw [if_pos ⟨hc.1, by omega⟩, List.getElem?_eq_getElem hk2]
    simp only
    rw [if_pos (by rw [LitCs.len cs hel, hsz])]
  · have hk2 : n.toNat < ((row.el.drop off).take xs.length).length := by rw [← H.len]; exact hk
    have hel := H.get n.toNat _ _ (List.getElem?_eq_getElem hk) (List.getElem?_eq_getElem hk2)
    have hes : row.el[off + n.toNat]? = some ((row.el.drop off).take xs.length)[n.toNat] := by
      rw [← List.getElem?_eq_getElem hk2, List.getElem?_take, if_pos hk, List.getElem?_drop]
    refine ⟨.rptr r (off + n.toNat) 0, ?_, _, by rw [hd']; exact toTVs_lit cs hel, .inr ⟨r, _, 0, row, _, rfl, g0, h2, hes, by simp⟩⟩
    simp only [adet, hi, e]
    rw [if_pos ⟨hc.1, hc.2⟩, h2]
    simp only
    rw [if_pos (by rw [h3, hsz])]

theorem vdet_quiet (S : SRel B M env h s) {an : List (Nat × An)} {g : Option (Tmp × Bool)} (hg : Met env g) {dst : Option Tmp} {op : AOp} (hq : quietB op = true) {c : List Bool} {v : TV} {s1 : VS} (hd : vdet an s g dst op = .ok c v s1) (hc : ∀ x ∈ c, x = true) :
    s1 = s ∧ ∃ r, adet env h op = some (r, h) ∧ TVR M h v r := by
  cases op <;> simp only [quietB, Bool.false_eq_true] at hq
  case mv x =>
    simp only [vdet, VO.ok.injEq] at hd
    obtain ⟨_, rfl, rfl⟩ := hd
    exact ⟨rfl, _, rfl, S.ev hg x⟩
  case pick c0 a b =>
    simp only [vdet] at hd
    have hc0 := S.ev hg c0
    split at hd
    · rename_i t ct hv
      simp only [VO.ok.injEq] at hd
      obtain ⟨_, rfl, rfl⟩ := hd
      rw [hv] at hc0
      simp only [TVR] at hc0
      refine ⟨rfl, if t then aeval env a else aeval env b, by simp only [adet, hc0], ?_⟩
      have key : TVR M h (s.ev (some (ct, t)) (if t then a else b)) (aeval env (if t then a else b)) := S.ev (g := some (ct, t)) hc0 _
      cases t with
      | true =>
        simp only [if_true] at key ⊢
        generalize s.ev (some (ct, true)) a = u at *
        generalize s.ev (some (ct, false)) b = u' at *
        cases u <;> cases u' <;> simp only [tpick, selB] <;> first | (simp only [TVR]; done) | exact key | (split <;> first | exact key | simp only [TVR])
      | false =>
        simp only [Bool.false_eq_true, if_false] at key ⊢
        generalize s.ev (some (ct, true)) a = u' at *
        generalize s.ev (some (ct, false)) b = u at *
        cases u' <;> cases u <;> simp only [tpick, selB] <;> first | (simp only [TVR]; done) | exact key | (split <;> first | (rename_i hk; subst hk; exact key) | simp only [TVR])
    · cases hd
  case build zs parts =>
    simp only [vdet] at hd
    split at hd
    · rename_i cs hf
      simp only [VO.ok.injEq] at hd
      obtain ⟨_, rfl, rfl⟩ := hd
      obtain ⟨bs, h1, h2⟩ := fillPT_ok S hg parts (ofAVs_ok zs) hf
      refine ⟨rfl, .agg bs, by simp only [adet, h1], by simp only [TVR]; exact ⟨bs, rfl, h2⟩⟩
    · cases hd
  case load agg n a =>
    simp only [vdet] at hd
    split at hd
    · rename_i cs hp
      split at hd
      · rename_i u hl
        simp only [VO.ok.injEq] at hd
        obtain ⟨_, rfl, rfl⟩ := hd
        obtain ⟨as, h1, h2⟩ := S.place (S.ev hg a) hp
        obtain ⟨r, h3, h4⟩ := tload_ok h2 hl
        exact ⟨rfl, r, by simp only [adet, h1, h3], h4⟩
      · cases hd
    · cases hd
  case nilchk x =>
    simp only [vdet] at hd
    have hx := S.ev hg x
    split at hd <;> first | (cases hd; done) | skip
    all_goals
      rename_i hv
      simp only [VO.ok.injEq] at hd
      obtain ⟨_, rfl, rfl⟩ := hd
      rw [hv] at hx
      refine ⟨rfl, aeval env x, ?_, hx⟩
      simp only [TVR] at hx
    · simp only [adet, hx.2]
    · obtain ⟨_, _, _, _, _, _, _, e⟩ := hx; simp only [adet, e]
    · obtain ⟨as, _, e | ⟨_, _, _, _, _, e, _⟩⟩ := hx <;> simp only [adet, e]
    · obtain ⟨_, as, _, e | ⟨_, _, _, _, _, e, _⟩⟩ := hx <;> simp only [adet, e]
    · obtain ⟨_, e, _⟩ := hx; simp only [adet, e]
  case bin op x y =>
    simp only [vdet] at hd
    split at hd
    · rename_i c' v' hb
      simp only [VO.ok.injEq] at hd
      obtain ⟨rfl, rfl, rfl⟩ := hd
      obtain ⟨r, h1, h2⟩ := tbin_ok (S.ev hg x) (S.ev hg y) hb hc
      exact ⟨rfl, r, by simp only [adet, h1], h2⟩
    · cases hd
  case beq neg x y =>
    simp only [vdet] at hd
    have hx := S.ev hg x
    have hy := S.ev hg y
    split at hd
    · rename_i a b h1 h2
      simp only [VO.ok.injEq] at hd
      obtain ⟨_, rfl, rfl⟩ := hd
      rw [h1] at hx
      rw [h2] at hy
      simp only [TVR] at hx hy
      exact ⟨rfl, _, (by simp only [adet, hx, hy] <;> rfl), (by simp only [TVR])⟩
    · cases hd
  case seq neg n x y =>
    simp only [vdet] at hd
    have hx := S.ev hg x
    have hy := S.ev hg y
    split at hd
    · rename_i a b h1 h2
      rw [h1] at hx
      rw [h2] at hy
      simp only [TVR] at hx hy
      obtain ⟨as, e1, g1⟩ := hx
      obtain ⟨bs, e2, g2⟩ := hy
      split at hd
      · rename_i hn
        split at hd
        · rename_i b hb
          simp only [VO.ok.injEq] at hd
          obtain ⟨_, rfl, rfl⟩ := hd
          refine ⟨rfl, .bool (if neg then !b else b), ?_, by simp only [TVR]⟩
          simp only [adet, e1, e2]
          rw [if_pos ⟨by rw [← g1.len]; exact hn.1, by rw [← g2.len]; exact hn.2.1, kindsT_ok g1 hn.2.2⟩, tcseq_ok g1 g2 hb]
        · cases hd
      · cases hd
    · cases hd
  case un op x =>
    simp only [vdet] at hd
    have hx := S.ev hg x
    split at hd
    · rename_i k n hv
      rw [hv] at hx
      simp only [TVR] at hx
      cases op <;> simp only [reduceCtorEq, VO.ok.injEq] at hd
      obtain ⟨_, rfl, rfl⟩ := hd
      exact ⟨rfl, _, (by simp only [adet, hx, aun] <;> rfl), (by simp only [TVR])⟩
    · rename_i b hv
      rw [hv] at hx
      simp only [TVR] at hx
      cases op <;> simp only [reduceCtorEq, VO.ok.injEq] at hd
      obtain ⟨_, rfl, rfl⟩ := hd
      exact ⟨rfl, _, (by simp only [adet, hx, aun] <;> rfl), (by simp only [TVR])⟩
    · cases hd
  case ii k x =>
    simp only [vdet] at hd
    have hx := S.ev hg x
    split at hd
    · rename_i k' n hv
      rw [hv] at hx
      simp only [TVR] at hx
      simp only [VO.ok.injEq] at hd
      obtain ⟨_, rfl, rfl⟩ := hd
      exact ⟨rfl, _, (by simp only [adet, hx] <;> rfl), (by simp only [TVR])⟩
    · cases hd
  case b2s x =>
    simp only [vdet] at hd
    have hx := S.ev hg x
    split at hd
    · rename_i hv
      rw [hv] at hx
      simp only [TVR] at hx
      simp only [VO.ok.injEq] at hd
      obtain ⟨_, rfl, rfl⟩ := hd
      exact ⟨rfl, _, (by simp only [adet, hx, aels, bytes1, strOfInts, List.foldl_nil] <;> rfl), (by simp only [TVR])⟩
    · rename_i u hnn
      split at hd
      · rename_i l hl
        split at hd
        · rename_i xs hcl
          simp only [VO.ok.injEq] at hd
          obtain ⟨_, rfl, rfl⟩ := hd
          obtain ⟨els, F, h1, h2, _⟩ := S.list hx hl
          obtain ⟨cs, xs0, nm, src⟩ := l
          obtain ⟨e, rfl⟩ := castL_ok hcl
          simp only at e h2
          subst e
          exact ⟨rfl, _, (by simp only [adet, h1, bytes1_ok h2] <;> rfl), (by simp only [TVR])⟩
        · cases hd
      · cases hd
  case sl sz x lo hi =>
    simp only [vdet] at hd
    have hx := S.ev hg x
    split at hd
    · rename_i hv
      rw [hv] at hx
      simp only [TVR] at hx
      split at hd
      · rename_i a b ha hb
        simp only [VO.ok.injEq] at hd
        obtain ⟨rfl, rfl, rfl⟩ := hd
        simp only [List.mem_singleton, forall_eq, decide_eq_true_eq] at hc
        refine ⟨rfl, .nils, ?_, by simp only [TVR]⟩
        simp only [adet, hx, tbnd_ok S hg ha, tbnd_ok S hg hb]
        rw [if_pos hc]
      · cases hd
    · rename_i cs xs hv
      rw [hv] at hx
      simp only [TVR] at hx
      split at hd
      · rename_i a b ha hb
        split at hd
        · rename_i hsz
          simp only [VO.ok.injEq] at hd
          obtain ⟨rfl, rfl, rfl⟩ := hd
          simp only [List.mem_singleton, forall_eq, decide_eq_true_eq] at hc
          obtain ⟨r, h1, h2⟩ := slice_lit S hg ha hb hsz hc hx
          exact ⟨rfl, r, h1, by simp only [TVR]; exact h2⟩
        · cases hd
      · cases hd
    · rename_i i o cs xs hv
      rw [hv] at hx
      simp only [TVR, OwnC] at hx
      obtain ⟨hlv, ⟨F, hF, hx⟩, _⟩ := hx
      split at hd
      · rename_i a b ha hb
        split at hd
        · rename_i hsz
          simp only [VO.ok.injEq] at hd
          obtain ⟨rfl, rfl, rfl⟩ := hd
          simp only [List.mem_singleton, forall_eq, decide_eq_true_eq] at hc
          simp only [beq_iff_eq] at hsz
          refine ⟨rfl, ?_⟩
          have non : ∀ (k : Int) (off : Nat), (none : Option (Int × Nat)) = some (k, off) → ∀ {P : Prop}, P := fun k off e => by cases e
          rcases hx with ⟨e, rfl, rfl⟩ | ⟨_, H, rfl⟩ | ⟨_, r, off, row, N, e, h2, h3, h4, h5, rfl⟩
          · simp only [List.length_nil, Int.ofNat_eq_zero] at hc
            have hz : ((List.take b.toNat ([] : List (Ty.Ds cs))).drop a.toNat) = [] := by simp
            refine ⟨.nils, ?_, ?_⟩
            · simp only [adet, e, tbnd_ok S hg ha, tbnd_def (d' := 0) S hg hb (fun _ => rfl)]
              rw [if_pos (by omega)]
            · simp only [TVR, OwnC]
              exact ⟨hlv, ⟨[], by simp, .inl ⟨trivial, hz, rfl⟩⟩, fun k off e => non k off e⟩
          · obtain ⟨r, h1, h2⟩ := slice_lit S hg ha hb (by simpa using hsz) hc H
            refine ⟨r, h1, ?_⟩
            simp only [TVR, OwnC]
            exact ⟨hlv, ⟨[], by simp, .inr (.inl ⟨.inr trivial, h2, rfl⟩)⟩, fun k off e => non k off e⟩
          · obtain ⟨F1, F2, eF, f1, f2⟩ := h5.split b.toNat
            obtain ⟨G1, G2, eG, g1, g2⟩ := f1.split a.toNat
            have hbn : bnd env lo 0 = some a := tbnd_ok S hg ha
            have hbh : bnd env hi xs.length = some b := tbnd_ok S hg hb
            have hlen : ((List.take b.toNat xs).drop a.toNat).length = b.toNat - a.toNat := by rw [List.length_drop, List.length_take]; omega
            by_cases hab : a = b ∧ a ≠ 0
            · refine ⟨.lit true [], ?_, ?_⟩
              · simp only [adet, e, hbn, hbh, h2]
                rw [if_pos ⟨hc.1, hc.2.1, hc.2.2, by rw [h3, hsz]⟩, if_pos hab]
              · simp only [TVR, OwnC]
                refine ⟨hlv, ⟨[], by simp, .inr (.inl ⟨.inr trivial, ?_, rfl⟩)⟩, fun k off e => non k off e⟩
                have : ((xs.take b.toNat).drop a.toNat) = [] := List.drop_eq_nil_of_le (by rw [List.length_take]; omega)
                rw [this]
                simp only [LitC]
                exact .inr (.inl ⟨true, [], rfl, trivial⟩)
            · refine ⟨.ref r (off + a.toNat) (b.toNat - a.toNat), ?_, ?_⟩
              · simp only [adet, e, hbn, hbh, h2]
                rw [if_pos ⟨hc.1, hc.2.1, hc.2.2, by rw [h3, hsz]⟩, if_neg hab]
              · simp only [TVR, OwnC]
                refine ⟨hlv, ⟨r :: G2, fun x hx => ?_, .inr (.inr ⟨.inr trivial, r, off + a.toNat, row, G2, by rw [hlen], h2, h3, by rw [hlen]; omega, ?_, rfl⟩)⟩, fun k off e => non k off e⟩
                · rcases List.mem_cons.1 hx with rfl | hx
                  · exact hF _ List.mem_cons_self
                  · exact hF x (List.mem_cons_of_mem _ (by rw [eF, eG]; simp [hx]))
                · rw [hlen]
                  have : List.take (b.toNat - a.toNat) (List.drop (off + a.toNat) row.el) = List.drop a.toNat (List.take b.toNat (List.take xs.length (List.drop off row.el))) := by
                    rw [List.take_take, Nat.min_eq_left (by omega), List.drop_take, List.drop_drop]
                  rw [this]; exact g2
        · cases hd
      · cases hd
    · rename_i i hv
      rw [hv] at hx
      simp only [TVR] at hx
      obtain ⟨hlv, hx⟩ := hx
      split at hd
      · rename_i r hr
        split at hd
        · rename_i a b ha hb
          split at hd
          · rename_i hsz
            simp only [VO.ok.injEq] at hd
            obtain ⟨rfl, rfl, rfl⟩ := hd
            simp only [List.mem_singleton, forall_eq, decide_eq_true_eq] at hc
            simp only [beq_iff_eq] at hsz
            have hbn : bnd env lo 0 = some a := tbnd_ok S hg ha
            have hbh : bnd env hi r.r.xs.length = some b := tbnd_ok S hg hb
            refine ⟨rfl, ?_⟩
            rcases (S.slot i r hr).shape with ⟨h1, h2⟩ | ⟨rr, off, row, h1, h2, h3, h4⟩
            · rw [h2] at hc
              simp only [List.length_nil, Int.ofNat_eq_zero] at hc
              have hb' := tbnd_def (d' := 0) S hg hb (fun _ => by rw [h2]; rfl)
              refine ⟨.nils, ?_, ?_⟩
              · simp only [adet, hx, h1, hbn, hb']
                rw [if_pos (by omega)]
              · simp only [TVR]
                exact ⟨hlv, by omega, by omega, .inr ⟨h1, by omega, by omega, trivial⟩⟩
            · by_cases hab : a = b ∧ a ≠ 0
              · refine ⟨.lit true [], ?_, ?_⟩
                · simp only [adet, hx, h1, hbn, hbh, h2]
                  rw [if_pos ⟨hc.1, hc.2.1, hc.2.2, by rw [h3, hsz]⟩, if_pos hab]
                · simp only [TVR]
                  exact ⟨hlv, hc.1, hc.2.1, .inl ⟨rr, off, _, h1, hc.2.2, .inr ⟨hab.1, hab.2, true, rfl⟩⟩⟩
              · refine ⟨.ref rr (off + a.toNat) (b.toNat - a.toNat), ?_, ?_⟩
                · simp only [adet, hx, h1, hbn, hbh, h2]
                  rw [if_pos ⟨hc.1, hc.2.1, hc.2.2, by rw [h3, hsz]⟩, if_neg hab]
                · simp only [TVR]
                  exact ⟨hlv, hc.1, hc.2.1, .inl ⟨rr, off, _, h1, hc.2.2, .inl ⟨rfl, hab⟩⟩⟩
          · cases hd
        · cases hd
      · cases hd
    · cases hd
  case slstr x lo hi =>
    simp only [vdet] at hd
    have hx := S.ev hg x
    split at hd
    · rename_i t hv
      rw [hv] at hx
      simp only [TVR] at hx
      split at hd
      · rename_i a b ha hb
        simp only [VO.ok.injEq] at hd
        obtain ⟨rfl, rfl, rfl⟩ := hd
        simp only [List.mem_singleton, forall_eq, decide_eq_true_eq] at hc
        refine ⟨rfl, .str (t.extract a.toNat b.toNat), ?_, by simp only [TVR]⟩
        simp only [adet, hx, tbnd_ok S hg ha, tbnd_ok S hg hb]
        rw [if_pos hc]
      · cases hd
    · cases hd
  case fa off x =>
    simp only [vdet] at hd
    have hx := S.ev hg x
    split at hd
    · rename_i b o hv
      rw [hv] at hx
      simp only [TVR] at hx
      simp only [VO.ok.injEq] at hd
      obtain ⟨_, rfl, rfl⟩ := hd
      exact ⟨rfl, _, (by simp only [adet, hx.2] <;> rfl), by simp only [TVR]; exact ⟨hx.1, trivial⟩⟩
    · rename_i i idx o hv
      rw [hv] at hx
      simp only [TVR] at hx
      simp only [VO.ok.injEq] at hd
      obtain ⟨_, rfl, rfl⟩ := hd
      obtain ⟨h1, rr, o', len, h2, h3, h4, h5⟩ := hx
      exact ⟨rfl, _, (by simp only [adet, h5] <;> rfl), by simp only [TVR]; exact ⟨h1, rr, o', len, h2, h3, h4, rfl⟩⟩
    · rename_i l hv
      rw [hv] at hx
      simp only [TVR] at hx
      simp only [VO.ok.injEq] at hd
      obtain ⟨_, rfl, rfl⟩ := hd
      obtain ⟨as, H, e | ⟨r, idx, o, row, es, e, g1, g2, g3, rfl⟩⟩ := hx
      · exact ⟨rfl, _, (by simp only [adet, e] <;> rfl), by simp only [TVR]; exact ⟨_, H.drop' off, .inl rfl⟩⟩
      · refine ⟨rfl, .rptr r idx (o + off), by simp only [adet, e], ?_⟩
        simp only [TVR]
        exact ⟨_, H.drop' off, .inr ⟨r, idx, o + off, row, es, rfl, g1, g2, g3, by rw [List.drop_drop]⟩⟩
    · rename_i i l hv
      rw [hv] at hx
      simp only [TVR] at hx
      simp only [VO.ok.injEq] at hd
      obtain ⟨_, rfl, rfl⟩ := hd
      obtain ⟨h1, as, H, e | ⟨r, idx, o, row, es, e, g1, g2, g3, rfl⟩⟩ := hx
      · exact ⟨rfl, _, (by simp only [adet, e] <;> rfl), by simp only [TVR]; exact ⟨h1, _, H.drop' off, .inl rfl⟩⟩
      · refine ⟨rfl, .rptr r idx (o + off), by simp only [adet, e], ?_⟩
        simp only [TVR]
        exact ⟨h1, _, H.drop' off, .inr ⟨r, idx, o + off, row, es, rfl, g1, g2, g3, by rw [List.drop_drop]⟩⟩
    · cases hd
  case ia sz x i =>
    simp only [vdet] at hd
    have hx := S.ev hg x
    have hi := S.ev hg i
    split at hd
    · rename_i k n hvi
      rw [hvi] at hi
      simp only [TVR] at hi
      split at hd
      · rename_i cs xs hv
        rw [hv] at hx
        split at hd
        · rename_i hsz
          simp only [VO.ok.injEq] at hd
          obtain ⟨rfl, rfl, rfl⟩ := hd
          simp only [List.mem_singleton, forall_eq, decide_eq_true_eq] at hc
          simp only [beq_iff_eq] at hsz
          simp only [TVR] at hx
          obtain ⟨r, h1, as, h2, h3⟩ := index_lit S hi hsz hc hx
          exact ⟨rfl, r, h1, by simp only [TVR]; exact ⟨as, h2, h3⟩⟩
        · cases hd
      · rename_i j o cs xs hv
        rw [hv] at hx
        split at hd
        · rename_i hsz
          simp only [VO.ok.injEq] at hd
          obtain ⟨rfl, rfl, rfl⟩ := hd
          simp only [List.mem_singleton, forall_eq, decide_eq_true_eq] at hc
          simp only [beq_iff_eq] at hsz
          simp only [TVR, OwnC] at hx
          obtain ⟨hlv, ⟨F, hF, hx⟩, _⟩ := hx
          have hk : n.toNat < xs.length := by omega
          have hd' : xs.getD n.toNat (Ty.ds0 cs) = xs[n.toNat] := by rw [List.getD_eq_getElem?_getD, List.getElem?_eq_getElem hk]; rfl
          rcases hx with ⟨e, rfl, rfl⟩ | ⟨_, H, rfl⟩ | ⟨_, r, off, row, N, e, h2, h3, h4, h5, rfl⟩
          · simp at hk
          · obtain ⟨els, H1, H2⟩ := H.els
            have hk2 : n.toNat < els.length := by rw [← H2.len]; exact hk
            have hel := H2.get n.toNat _ _ (List.getElem?_eq_getElem hk) (List.getElem?_eq_getElem hk2)
            simp only [LitC] at H
            rcases H with ⟨e, rfl⟩ | ⟨f, ys, e, H⟩ | ⟨r, off, row, e, g0, h2, h3, h4, H⟩
            · simp at hk
            · rw [e] at H1
              simp only [aels, Option.some.injEq] at H1
              subst H1
              refine ⟨rfl, .lptr ys[n.toNat], ?_, ?_⟩
              · simp only [adet, hi, e]
                rw [if_pos ⟨hc.1, by omega⟩, List.getElem?_eq_getElem hk2]
                simp only
                rw [if_pos (by rw [LitCs.len cs hel, hsz])]
              · simp only [TVR]
                exact ⟨hlv, _, by rw [hd']; exact toTVs_vw hlv (.none M h j ys[n.toNat]) cs (OwnCs.mode (NM.ok_A _) cs (LitCs.own cs hel)) (fun x hx => by simp at hx) (fun p a h => by simpa using h), .inl rfl⟩
            · rw [e] at H1
              simp only [aels, h2] at H1
              rw [if_pos h4] at H1
              simp only [Option.some.injEq] at H1
              subst H1
              have hes : row.el[off + n.toNat]? = some ((row.el.drop off).take xs.length)[n.toNat] := by
                rw [← List.getElem?_eq_getElem hk2, List.getElem?_take, if_pos hk, List.getElem?_drop]
              refine ⟨rfl, .rptr r (off + n.toNat) 0, ?_, ?_⟩
              · simp only [adet, hi, e]
                rw [if_pos ⟨hc.1, hc.2⟩, h2]
                simp only
                rw [if_pos (by rw [h3, hsz])]
              · simp only [TVR]
                exact ⟨hlv, _, by rw [hd']; exact toTVs_vw hlv (.none M h j _) cs (OwnCs.mode (NM.ok_A _) cs (LitCs.own cs hel)) (fun x hx => by simp at hx) (fun p a h => by simpa using h), .inr ⟨r, _, 0, row, _, rfl, .inr g0, h2, hes, by simp⟩⟩
          · obtain ⟨es, A, G, C, g1, g2, g3, _⟩ := h5.at_ n.toNat (List.getElem?_eq_getElem hk)
            rw [List.getElem?_take, if_pos hk, List.getElem?_drop] at g1
            refine ⟨rfl, .rptr r (off + n.toNat) 0, ?_, ?_⟩
            · simp only [adet, hi, e]
              rw [if_pos ⟨hc.1, hc.2⟩, h2]
              simp only
              rw [if_pos (by rw [h3, hsz])]
            · simp only [TVR]
              exact ⟨hlv, es, by rw [hd']; exact toTVs_vw hlv (.none M h j es) cs g3 (fun x hx => hF x (List.mem_cons_of_mem _ (by rw [g2]; simp [hx]))) (fun p a h => by simpa using h), .inr ⟨r, _, 0, row, es, rfl, .inl (hF r List.mem_cons_self), h2, g1, by simp⟩⟩
        · cases hd
      · rename_i j hv
        rw [hv] at hx
        simp only [TVR] at hx
        split at hd
        · rename_i r hr
          split at hd
          · rename_i hsz
            simp only [VO.ok.injEq] at hd
            obtain ⟨rfl, rfl, rfl⟩ := hd
            simp only [List.mem_singleton, forall_eq, decide_eq_true_eq] at hc
            simp only [beq_iff_eq] at hsz
            rcases (S.slot j r hr).shape with ⟨h1, h2⟩ | ⟨rr, off, row, h1, h2, h3, h4⟩
            · rw [h2] at hc; simp at hc; omega
            · refine ⟨rfl, .rptr rr (off + n.toNat) 0, ?_, ?_⟩
              · simp only [adet, hi, hx.2, h1]
                rw [if_pos ⟨hc.1, hc.2⟩, h2]
                simp only
                rw [if_pos (by rw [h3, hsz])]
              · simp only [TVR]
                exact ⟨hx.1, rr, off, _, h1, hc.1, hc.2, rfl⟩
          · cases hd
        · cases hd
      · rename_i j lo hi' hv
        rw [hv] at hx
        simp only [TVR] at hx
        obtain ⟨hlv, b1, b2, hx⟩ := hx
        split at hd
        · rename_i r hr
          split at hd
          · rename_i hsz
            simp only [VO.ok.injEq] at hd
            obtain ⟨rfl, rfl, rfl⟩ := hd
            simp only [List.mem_singleton, forall_eq, decide_eq_true_eq] at hc
            simp only [beq_iff_eq] at hsz
            rcases hx with ⟨rr, off, len, e1, e2, ⟨e, _⟩ | ⟨_, _, _⟩⟩ | ⟨_, _, _, _⟩
            · rcases (S.slot j r hr).shape with ⟨h1, h2⟩ | ⟨rr', off', row, h1, h2, h3, h4⟩
              · rw [h1] at e1; cases e1
              · rw [h1] at e1
                cases e1
                refine ⟨rfl, .rptr rr (off + lo.toNat + n.toNat) 0, ?_, ?_⟩
                · simp only [adet, hi, e]
                  rw [if_pos ⟨hc.1, by omega⟩, h2]
                  simp only
                  rw [if_pos (by rw [h3, hsz])]
                · simp only [TVR]
                  exact ⟨hlv, rr, off, _, h1, by omega, by omega, by rw [show (lo + n).toNat = lo.toNat + n.toNat by omega, Nat.add_assoc]⟩
            · omega
            · omega
          · cases hd
        · cases hd
      · cases hd
    · cases hd
  case idx ln sz agg n x i =>
    simp only [vdet] at hd
    have hx := S.ev hg x
    have hi := S.ev hg i
    split at hd
    · rename_i cs k n' hv hvi
      rw [hvi] at hi
      rw [hv] at hx
      simp only [TVR] at hi hx
      obtain ⟨as, e, H⟩ := hx
      split at hd
      · rename_i hk
        split at hd
        · rename_i u hl
          simp only [VO.ok.injEq] at hd
          obtain ⟨_, rfl, rfl⟩ := hd
          obtain ⟨r, h3, h4⟩ := tload_ok (H.drop' _) hl
          refine ⟨rfl, r, ?_, h4⟩
          simp only [adet, e, hi]
          rw [if_pos ⟨hk.1, hk.2.1, by rw [← H.len]; exact hk.2.2⟩, h3]
        · cases hd
      · cases hd
    · cases hd
  case idxs x i =>
    simp only [vdet] at hd
    have hx := S.ev hg x
    have hi := S.ev hg i
    split at hd
    · rename_i t k n hv hvi
      rw [hvi] at hi
      rw [hv] at hx
      simp only [TVR] at hi hx
      simp only [VO.ok.injEq] at hd
      obtain ⟨rfl, rfl, rfl⟩ := hd
      simp only [List.mem_singleton, forall_eq, decide_eq_true_eq] at hc
      have hk : 0 ≤ n ∧ n.toNat < t.size := ⟨hc.1, by omega⟩
      refine ⟨rfl, .int .u8 (byteAt t n), ?_, by simp only [TVR]⟩
      simp only [adet, hx, hi]
      rw [dif_pos hk, byteAt_eq t n hk.2]
    · cases hd
  case fld agg off n x =>
    simp only [vdet] at hd
    have hx := S.ev hg x
    split at hd
    · rename_i cs hv
      rw [hv] at hx
      simp only [TVR] at hx
      obtain ⟨as, e, H⟩ := hx
      split at hd
      · rename_i u hl
        simp only [VO.ok.injEq] at hd
        obtain ⟨_, rfl, rfl⟩ := hd
        obtain ⟨r, h3, h4⟩ := tload_ok (H.drop' _) hl
        exact ⟨rfl, r, by simp only [adet, e, h3], h4⟩
      · cases hd
    · cases hd
  case ext x i =>
    simp only [vdet] at hd
    have hx := S.ev hg x
    split at hd
    · rename_i cs hv
      rw [hv] at hx
      simp only [TVR] at hx
      obtain ⟨as, e, H⟩ := hx
      split at hd
      · rename_i u hl
        simp only [VO.ok.injEq] at hd
        obtain ⟨_, rfl, rfl⟩ := hd
        have hil := (List.getElem?_eq_some_iff.1 hl).1
        have h2 := List.getElem?_eq_getElem (l := as) (i := i) (by rw [← H.len]; exact hil)
        exact ⟨rfl, _, by simp only [adet, e, h2], H.get hl h2⟩
      · cases hd
    · cases hd
  case len st x =>
    simp only [vdet] at hd
    have hx := S.ev hg x
    split at hd
    · rename_i t hv
      rw [hv] at hx
      simp only [TVR] at hx
      split at hd
      · rename_i hst
        simp only [VO.ok.injEq] at hd
        obtain ⟨_, rfl, rfl⟩ := hd
        refine ⟨rfl, .int .i64 (t.size : Int), ?_, by simp only [TVR]⟩
        simp only [adet, hx]
        rw [if_pos hst]
      · cases hd
    · rename_i u hns
      split at hd
      · cases hd
      · rename_i hst
        split at hd
        · rename_i n hl
          simp only [VO.ok.injEq] at hd
          obtain ⟨_, rfl, rfl⟩ := hd
          refine ⟨rfl, .int .i64 n, ?_, by simp only [TVR]⟩
          unfold lenT at hl
          split at hl
          · rename_i hv
            rw [hv] at hx
            simp only [TVR] at hx
            simp only [Option.some.injEq] at hl
            subst hl
            simp only [adet, hx]
            rw [if_neg hst]
          · rename_i j hv
            rw [hv] at hx
            simp only [TVR] at hx
            split at hl
            · rename_i sl hsl
              simp only [Option.some.injEq] at hl
              subst hl
              rcases (S.slot j sl hsl).shape with ⟨h1, h2⟩ | ⟨rr, off, row, h1, h2, h3, h4⟩
              · simp only [adet, hx.2, h1]; rw [if_neg hst, h2]; rfl
              · simp only [adet, hx.2, h1]; rw [if_neg hst]
            · cases hl
          · split at hl
            · rename_i l hll
              simp only [Option.some.injEq] at hl
              subst hl
              obtain ⟨els, F, h1, h2, _⟩ := S.list hx hll
              have hlen := h2.len
              cases hax : aeval env x <;> rw [hax] at h1 <;> simp only [aels, reduceCtorEq, Option.some.injEq] at h1
              case nils => subst h1; simp only [adet, hax]; rw [if_neg hst, hlen]; rfl
              case lit f ys => subst h1; simp only [adet, hax]; rw [if_neg hst, hlen]
              case ref r off len =>
                split at h1
                · split at h1
                  · simp only [Option.some.injEq] at h1
                    subst h1
                    simp only [adet, hax]
                    rw [if_neg hst, hlen, List.length_take, List.length_drop, Nat.min_eq_left (by omega)]
                  · cases h1
                · cases h1
            · cases hl
        · cases hd
  case mnx mx x y =>
    simp only [vdet] at hd
    have hx := S.ev hg x
    have hy := S.ev hg y
    split at hd
    · rename_i k a k' b h1 h2
      rw [h1] at hx
      rw [h2] at hy
      simp only [TVR] at hx hy
      split at hd
      · rename_i hk
        simp only [VO.ok.injEq] at hd
        obtain ⟨_, rfl, rfl⟩ := hd
        refine ⟨rfl, .int k (if mx then (if b > a then b else a) else (if b < a then b else a)), ?_, by simp only [TVR]⟩
        simp only [adet, hx, hy]
        rw [if_pos hk]
      · cases hd
    · cases hd
  case mkf f caps =>
    simp only [vdet, VO.ok.injEq] at hd
    obtain ⟨_, rfl, rfl⟩ := hd
    exact ⟨rfl, _, rfl, by simp only [TVR]; exact ⟨_, rfl, S.evs hg caps⟩⟩
  case apps x y => simp only [vdet, reduceCtorEq] at hd
end
end Go.PA
