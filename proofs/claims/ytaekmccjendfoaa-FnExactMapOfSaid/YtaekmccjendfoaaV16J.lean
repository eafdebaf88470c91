/- Typed values: rows that are lent to a call, taken and given back. No condition. -/
import Derived.Test.YtaekmccjendfoaaV16I
namespace Go.PA
set_option linter.unusedVariables false
set_option linter.unusedSimpArgs false

section
variable {h : Heap} {Z Z' : List Nat}
mutual
theorem OwnC.strict : ∀ (t : Ty) {x : t.D} {a : AV} {F : List Nat}, OwnC h Z .S t x a F → OwnC h Z' .S t x a F
  | .int _, x, a, F, H => by simpa only [OwnC] using H
  | .bool, x, a, F, H => by simpa only [OwnC] using H
  | .str, x, a, F, H => by simpa only [OwnC] using H
  | .sl cs, x, a, F, H => by
    simp only [OwnC] at H ⊢
    rcases H with H | ⟨g, H⟩ | ⟨g, r, off, row, N, h1, h2, h3, h4, h5, h6⟩
    · exact .inl H
    · simp at g
    · exact .inr (.inr ⟨g, r, off, row, N, h1, h2, h3, h4, h5.mono fun a b G hG => OwnCs.strict cs, h6⟩)
theorem OwnCs.strict : ∀ (ts : List Ty) {x : Ty.Ds ts} {as : List AV} {F : List Nat}, OwnCs h Z .S ts x as F → OwnCs h Z' .S ts x as F
  | [], x, as, F, H => by simpa only [OwnCs] using H
  | t :: ts, x, [], F, H => by simp only [OwnCs] at H
  | t :: ts, x, a :: as, F, H => by
    simp only [OwnCs] at H ⊢
    obtain ⟨F1, F2, e, h1, h2⟩ := H
    exact ⟨F1, F2, e, OwnC.strict t h1, OwnCs.strict ts h2⟩
end
theorem RowRel.strict {cs : List Ty} {xs : List (Ty.Ds cs)} {a : AV} {N : List Nat} (H : RowRel h Z .S cs xs a N) : RowRel h Z' .S cs xs a N := by
  rcases H with H | ⟨r, off, row, h1, h2, h3, h4, h5⟩
  · exact .inl H
  · exact .inr ⟨r, off, row, h1, h2, h3, h4, h5.mono fun a b G _ => OwnCs.strict cs⟩
theorem OwnC.move {h' : Heap} (t : Ty) {x : t.D} {a : AV} {F : List Nat} (hs : ∀ r ∈ F, h'.rows r = h.rows r) (H : OwnC h Z .S t x a F) : OwnC h' Z' .S t x a F :=
  OwnC.strict t (OwnC.heap (Z := []) (Z' := []) (fun r hr => by simp at hr) t hs (OwnC.strict t H))
theorem OwnCs.move {h' : Heap} (ts : List Ty) {x : Ty.Ds ts} {as : List AV} {F : List Nat} (hs : ∀ r ∈ F, h'.rows r = h.rows r) (H : OwnCs h Z .S ts x as F) : OwnCs h' Z' .S ts x as F :=
  OwnCs.strict ts (OwnCs.heap (Z := []) (Z' := []) (fun r hr => by simp at hr) ts hs (OwnCs.strict ts H))
/-- A list in an element, anew. -/
theorem OwnCs.setL : ∀ (ts : List Ty) {fo : Nat} {d : Ty.Ds ts} {as : List AV} {F : List Nat} {cs : List Ty} {xs : List (Ty.Ds cs)} {j : Nat}, OwnCs h Z .S ts d as F → (toTVs none j ts d)[fo]? = some (.lst cs xs) →
    ∃ a A G C, as[fo]? = some a ∧ F = A ++ G ++ C ∧ OwnC h Z .S (.sl cs) xs a G ∧ ∀ (h' : Heap) (Z' : List Nat) (cs2 : List Ty) (ys : List (Ty.Ds cs2)) (e : Ty.Ds ts) (G' : List Nat), (∀ x ∈ A ++ C, h'.rows x = h.rows x) → setL ts d fo cs2 ys = some e → OwnC h' Z' .S (.sl cs2) ys a G' → OwnCs h' Z' .S ts e as (A ++ G' ++ C)
  | [], fo, d, as, F, cs, xs, j, O, hg => by simp [toTVs] at hg
  | t :: ts, fo, d, [], F, cs, xs, j, O, hg => by simp only [OwnCs] at O
  | t :: ts, 0, d, b :: as, F, cs, xs, j, O, hg => by
    simp only [OwnCs] at O
    obtain ⟨F1, F2, rfl, O1, O2⟩ := O
    simp only [toTVs, List.getElem?_cons_zero, Option.some.injEq] at hg
    cases t with
    | int k => simp only [toTV, reduceCtorEq] at hg
    | bool => simp only [toTV, reduceCtorEq] at hg
    | str => simp only [toTV, reduceCtorEq] at hg
    | sl cs' =>
    have hg : TV.lst cs' d.1 = .lst cs xs := hg
    cases hg
    refine ⟨b, [], F1, F2, rfl, rfl, O1, fun h' Z' cs2 ys e G' hs he Hn => ?_⟩
    replace he : (match castL cs2 cs ys with | some zs => some (zs, d.2) | none => none) = some e := he
    split at he
    · rename_i zs hc
      obtain ⟨e1, e2⟩ := castL_ok hc
      subst e1
      obtain rfl : ys = zs := e2
      cases he
      simp only [OwnCs, List.nil_append]
      exact ⟨G', F2, rfl, Hn, OwnCs.move ts (fun x hx => hs x (by simpa using hx)) O2⟩
    · cases he
  | t :: ts, fo + 1, d, b :: as, F, cs, xs, j, O, hg => by
    simp only [OwnCs] at O
    obtain ⟨F1, F2, rfl, O1, O2⟩ := O
    simp only [toTVs, List.getElem?_cons_succ] at hg
    obtain ⟨a, A, G, C, g1, rfl, g3, g4⟩ := OwnCs.setL ts O2 hg
    refine ⟨a, F1 ++ A, G, C, by simpa using g1, by simp [List.append_assoc], g3, fun h' Z' cs2 ys e G' hs he Hn => ?_⟩
    have he : (match Go.PA.setL ts d.2 fo cs2 ys with | some e => some (d.1, e) | none => none) = some e := by
      rw [← he]; cases t <;> rfl
    split at he
    · rename_i e2 he2
      cases he
      have := g4 h' Z' cs2 ys e2 G' (fun x hx => hs x (by simp only [List.mem_append] at hx ⊢; rcases hx with hx | hx <;> simp [hx])) he2 Hn
      simp only [OwnCs]
      exact ⟨F1, A ++ G' ++ C, by simp [List.append_assoc], OwnC.move t (fun x hx => hs x (by simp [hx])) O1, this⟩
    · cases he
theorem AllF.at3 {α β : Type} {R : α → β → List Nat → Prop} : ∀ {as : List α} {bs : List β} {F} (_ : AllF R as bs F) (i : Nat) {a : α}, as[i]? = some a → ∃ b A B C, bs[i]? = some b ∧ F = A ++ B ++ C ∧ R a b B ∧
    ∀ (S : α → β → List Nat → Prop), (∀ a b G, (∀ x ∈ G, x ∈ A ∨ x ∈ C) → R a b G → S a b G) → ∀ a' b' B', S a' b' B' → AllF S (as.set i a') (bs.set i b') (A ++ B' ++ C)
  | [], [], _, _, i, a, h => by simp at h
  | x :: as, y :: bs, F, ⟨F1, F2, e, h1, h2⟩, 0, a, h => by
    simp at h; subst h
    exact ⟨y, [], F1, F2, rfl, by simpa using e, h1, fun S hS a' b' B' h' => ⟨B', F2, by simp, h', h2.mono fun a b G hG => hS a b G fun x hx => .inr (hG x hx)⟩⟩
  | x :: as, y :: bs, F, ⟨F1, F2, e, h1, h2⟩, i + 1, a, h => by
    obtain ⟨b, A, B, C, g1, g2, g3, g4⟩ := AllF.at3 h2 i (by simpa using h)
    exact ⟨b, F1 ++ A, B, C, by simpa using g1, by rw [e, g2]; simp [List.append_assoc], g3, fun S hS a' b' B' h' => ⟨F1, A ++ B' ++ C, by simp [List.append_assoc], hS _ _ _ (fun x hx => .inl (List.mem_append_left _ hx)) h1,
      g4 S (fun a b G hG => hS a b G fun x hx => (hG x hx).imp_left (List.mem_append_right _)) a' b' B' h'⟩⟩
  | [], _ :: _, _, h, _, _, _ => h.elim
  | _ :: _, [], _, h, _, _, _ => h.elim
theorem CellRel.row {cs : List Ty} {xs : List (Ty.Ds cs)} {a : AV} {F : List Nat} (H : OwnC h Z .S (.sl cs) xs a F) : CellRel h Z' (some .S) (.sl cs) xs a F := by
  simp only [OwnC] at H
  simp only [CellRel]
  rcases H with ⟨rfl, h2, rfl⟩ | ⟨g, _⟩ | ⟨_, r, off, row, N, rfl, h2, h3, h4, h5, rfl⟩
  · exact ⟨[], .inl ⟨rfl, h2, rfl⟩, rfl⟩
  · simp at g
  · exact ⟨N, .inr ⟨r, off, row, rfl, h2, h3, h4, h5.mono fun a b G _ => OwnCs.strict cs⟩, rfl⟩
end

theorem noIo_ok {α : Type} {o : Option α} {d : α} {i : IoT} (h : noIo o = some (d, i)) : o = some d ∧ i = .no := by
  cases o with
  | none => cases h
  | some x => simp only [noIo, Option.some.injEq, Prod.mk.injEq] at h; exact ⟨by rw [h.1], h.2.symm⟩
/-- What lending a list comes to, and what comes back. -/
def IoOk (B : Bg) (M : Mp) (h : Heap) (s : VS) (t : Ty) (d : t.D) (a : AV) (i : IoT) : Prop :=
  ∃ F, CellRel h [] (some .S) t d a F ∧ F.Nodup ∧ (∀ x ∈ F, ∃ k ∈ ioRows [i], x ∈ fp M k) ∧ (∀ k ∈ ioRows [i], ∃ sl, s.slot? k = some sl) ∧
    ∀ (h' : Heap) (Fa F' : List Nat) (y : t.D), (∀ x ∈ F, x ∈ Fa) → (∀ x, x < h.next → x ∉ Fa → h'.rows x = h.rows x) → (∀ k ∈ ioRows [i], ∀ x ∈ fp M k, x ∈ Fa → x ∈ F) → (∀ x ∈ F', x ∈ Fa ∨ h.next ≤ x) → CellRel h' [] (some .S) t y a F' → F'.Nodup →
      ∀ s0 s1 l vs j, (∀ k ∈ ioRows [i], s0.slot? k = s.slot? k) → ioBack s0 (i :: l) (toTV none j t y :: vs) = some s1 →
        ∃ (L : List (Nat × VSlot)) (G : List Nat), ioBack (VS.upds L s0) l vs = some s1 ∧ L.map (·.1) = ioRows [i] ∧ UpdRel h' M L G ∧ G.Nodup ∧ ∀ x ∈ G, x ∈ F' ∨ (x ∉ Fa ∧ ∃ k ∈ ioRows [i], x ∈ fp M k)
section
variable {B : Bg} {M : Mp} {env : List AV} {h : Heap} {s : VS}
theorem ioNo_ok {t : Ty} {d : t.D} {a : AV} (H : ∀ h', CellRel h' [] (some .S) t d a []) : IoOk B M h s t d a .no :=
  ⟨[], H h, List.nodup_nil, fun x hx => by simp at hx, fun k hk => by simp [ioRows] at hk, fun h' Fa F' y _ _ _ _ _ _ s0 s1 l vs j _ hb => ⟨[], [], by simpa only [VS.upds, ioBack] using hb, rfl, rfl, List.nodup_nil, fun x hx => by simp at hx⟩⟩
theorem ioTV_ok (S : SRel B M env h s) {t : Ty} {v : TV} {d : t.D} {i : IoT} {a : AV} (hr : ioTV s t v = some (d, i)) (H : TVR M h v a) : IoOk B M h s t d a i := by
  have sc : ∀ {t : Ty} {d : t.D} (_ : ∀ cs, t ≠ .sl cs), roTV s t v = some d → i = .no → IoOk B M h s t d a i := fun {t d} ht hd he => by
    subst he
    refine ioNo_ok fun h' => ?_
    have := scal_lit ht hd H
    cases t with
    | sl cs => exact absurd rfl (ht cs)
    | _ =>
      have := this []
      simp only [CellRel, LitC] at *
      exact ⟨this, trivial⟩
  cases t with
  | int k =>
    have hr : noIo (roTV s (.int k) v) = some (d, i) := hr
    obtain ⟨h1, h2⟩ := noIo_ok hr
    exact sc (fun cs => by simp) h1 h2
  | bool =>
    have hr : noIo (roTV s .bool v) = some (d, i) := hr
    obtain ⟨h1, h2⟩ := noIo_ok hr
    exact sc (fun cs => by simp) h1 h2
  | str =>
    have hr : noIo (roTV s .str v) = some (d, i) := hr
    obtain ⟨h1, h2⟩ := noIo_ok hr
    exact sc (fun cs => by simp) h1 h2
  | sl cs =>
  replace hr : ioL s cs v = some (d, i) := hr
  unfold ioL at hr
  split at hr
  · cases hr
    simp only [TVR] at H
    subst H
    refine ioNo_ok fun h' => ?_
    simp only [CellRel]
    exact ⟨[], .inl ⟨rfl, rfl, rfl⟩, rfl⟩
  · rename_i k
    split at hr
    · rename_i r hrr
      split at hr
      · rename_i ys hc
        split at hr
        · rename_i hf
          cases hr
          simp only [TVR] at H
          have hsl := VS.slot_row.1 hrr
          have R := S.row k r hrr
          have R : RowRel h M.Z .S r.cs r.xs (M.α k) (M.N k) := R.mode (by
            have : ∀ m : NM, m.fits = true → m.ok .S = true := by intro m; cases m <;> simp [NM.fits, NM.ok]
            exact this _ hf)
          obtain ⟨nm, cs', xs⟩ := r
          obtain ⟨e1, e2⟩ := castL_ok hc
          simp only at e1 e2 R
          subst e1
          obtain rfl := e2
          rw [H.2]
          refine ⟨fp M k, by simp only [CellRel]; exact ⟨M.N k, R.strict, rfl⟩, S.nd k, fun x hx => ⟨k, by simp [ioRows], hx⟩, fun k' hk' => by simp [ioRows] at hk'; subst hk'; exact ⟨_, hsl⟩, fun h' Fa F' y _ _ _ _ hy hn s0 s1 l vs j hs0 hb => ?_⟩
          simp only [CellRel] at hy
          obtain ⟨N', hy, rfl⟩ := hy
          have h0 : s0.row? k = some ⟨nm, cs', xs⟩ := by rw [row?_of, hs0 k (by simp [ioRows]), hsl]; rfl
          have hb : ioBack s0 (.row k :: l) (.lst cs' y :: vs) = some s1 := hb
          simp only [ioBack, h0] at hb
          split at hb
          · rename_i zs hc2
            obtain ⟨_, e3⟩ := castL_ok hc2
            obtain rfl : y = zs := e3
            refine ⟨[(k, .row ⟨if hasSl cs' then .S else .Z, cs', y⟩)], (rid (M.α k) ++ (if hasSl cs' then N' else [])), hb, rfl, ⟨_, [], by rw [List.append_nil], ?_, rfl⟩, ?_, fun x hx => .inl ?_⟩
            · cases hcs : hasSl cs' with
              | true => simp only [if_true]; exact hy.strict
              | false =>
                simp only [Bool.false_eq_true, if_false]
                have := (RowRel.flat hcs .Z hy).2
                exact RowRel.heap (Z := []) (fun r hr => by simp at hr) (fun _ _ => rfl) this
            · cases hcs : hasSl cs' with
              | true => simpa using hn
              | false => simpa using (List.nodup_append.1 hn).1
            · cases hcs : hasSl cs' with
              | true => rw [hcs] at hx; simpa using hx
              | false => rw [hcs] at hx; exact List.mem_append_left _ (by simpa using hx)
          · cases hb
        · cases hr
      · cases hr
    · cases hr
  · rename_i k p off cs0 xs0
    split at hr
    · rename_i r hrr
      split at hr
      · rename_i hnm
        split at hr
        · rename_i cs2 zs hg
          split at hr
          · rename_i ys hc
            cases hr
            obtain ⟨e1, e2⟩ := castL_ok hc
            subst e1
            obtain rfl : zs = d := e2
            simp only [TVR] at H
            obtain ⟨hlv, _, H⟩ := H
            obtain ⟨r0, o0, len, row0, es0, x1, x2, x3, x4, x5, x6⟩ := H p off rfl
            have hsl := VS.slot_row.1 hrr
            have hk : p.toNat < r.xs.length := by
              rcases S.row k r hrr with ⟨e, _, _⟩ | ⟨r2, o2, row, e, _⟩
              · rw [e] at x1; cases x1
              · rw [e] at x1; cases x1; omega
            rcases S.row k r hrr with ⟨_, e, _⟩ | ⟨rr, o, row, g1, g2, g3, g4, g5⟩
            · rw [e] at hk; simp at hk
            · rw [g1] at x1
              cases x1
              rw [g2] at x4
              cases x4
              rw [hnm] at g5
              have hx : r.xs[p.toNat]? = some (r.xs.getD p.toNat (Ty.ds0 r.cs)) := by rw [List.getD_eq_getElem?_getD, List.getElem?_eq_getElem hk]; rfl
              obtain ⟨es, A, F0, C, b1, b2, b3, b4⟩ := g5.at3 p.toNat hx
              rw [List.getElem?_take, if_pos hk, List.getElem?_drop, x5] at b1
              cases b1
              obtain ⟨a', A1, G, C1, c1, rfl, c3, c4⟩ := OwnCs.setL r.cs b3 hg
              rw [x6] at c1
              cases c1
              have hN : (M.N k).Nodup := by
                have := S.nd k
                unfold fp at this
                exact (List.nodup_append.1 this).2.1
              have hndk := S.nd k
              unfold fp at hndk
              have hperm : (A ++ (A1 ++ G ++ C1) ++ C).Perm (G ++ (A ++ (A1 ++ C1) ++ C)) := by
                have e1 : (A1 ++ G ++ C1).Perm (G ++ (A1 ++ C1)) := by
                  rw [List.append_assoc]; exact (List.perm_append_comm_assoc A1 G C1)
                have e2 : (A ++ (A1 ++ G ++ C1)).Perm (G ++ (A ++ (A1 ++ C1))) := (List.Perm.append_left A e1).trans (List.perm_append_comm_assoc A G _)
                have e3 := e2.append_right C
                rwa [List.append_assoc G] at e3
              have hN2 := hN
              rw [b2] at hN2
              obtain ⟨n1, n2, n3⟩ := List.nodup_append.1 (hperm.nodup_iff.1 hN2)
              have hGN : ∀ x ∈ G, x ∈ M.N k := fun x hx => by rw [b2]; simp [hx]
              have hON : ∀ x ∈ A ++ (A1 ++ C1) ++ C, x ∈ M.N k := fun x hx => by
                rw [b2]
                simp only [List.mem_append] at hx ⊢
                rcases hx with (hx | hx | hx) | hx <;> simp [hx]
              refine ⟨G, CellRel.row c3, n1, fun x hx => ⟨k, by simp [ioRows], List.mem_append_right _ (hGN x hx)⟩, fun k' hk' => by simp [ioRows] at hk'; subst hk'; exact ⟨_, hsl⟩, fun h' Fa F' y hFa hsame honly hF' hy hn s0 s1 l vs j hs0 hb => ?_⟩
              have h0 : s0.row? k = some r := by rw [row?_of, hs0 k (by simp [ioRows]), hsl]; rfl
              have hb : ioBack s0 (.el k p off :: l) (.lst cs2 y :: vs) = some s1 := hb
              simp only [ioBack, h0] at hb
              split at hb
              · rename_i e he
                have hO : ∀ x ∈ rid (M.α k) ++ (A ++ (A1 ++ C1) ++ C), x ∉ Fa := fun x hx hf => by
                  have hxk : x ∈ fp M k := by
                    rcases List.mem_append.1 hx with hx | hx
                    · exact List.mem_append_left _ hx
                    · exact List.mem_append_right _ (hON x hx)
                  have hxG := honly k (by simp [ioRows]) x hxk hf
                  rcases List.mem_append.1 hx with hx | hx
                  · exact (List.nodup_append.1 hndk).2.2 x hx x (hGN x hxG) rfl
                  · exact n3 x hxG x hx rfl
                have hOs : ∀ x ∈ rid (M.α k) ++ (A ++ (A1 ++ C1) ++ C), h'.rows x = h.rows x := fun x hx => hsame x (S.lt k x (by
                  rcases List.mem_append.1 hx with hx | hx
                  · exact List.mem_append_left _ hx
                  · exact List.mem_append_right _ (hON x hx))) (hO x hx)
                have helem := c4 h' M.Z cs2 y e F' (fun x hx => hOs x (List.mem_append_right _ (by
                  simp only [List.mem_append] at hx ⊢
                  rcases hx with hx | hx <;> simp [hx]))) he (by
                  have := CellRel.own hy
                  exact OwnC.strict _ this)
                have hall := b4 (fun x y G => OwnCs h' M.Z .S r.cs x y G) (fun a b G hG => OwnCs.move r.cs fun x hx => hOs x (List.mem_append_right _ (by
                  rcases hG x hx with h | h <;> simp [h]))) e _ _ helem
                have hO2 : (rid (M.α k) ++ (A ++ (A1 ++ C1) ++ C)).Nodup := List.nodup_append.2 ⟨(List.nodup_append.1 hndk).1, n2, fun x hx y hy e => (List.nodup_append.1 hndk).2.2 x hx y (hON y hy) e⟩
                have hperm2 : (rid (M.α k) ++ (A ++ (A1 ++ F' ++ C1) ++ C)).Perm (F' ++ (rid (M.α k) ++ (A ++ (A1 ++ C1) ++ C))) := by
                  have e1 : (A1 ++ F' ++ C1).Perm (F' ++ (A1 ++ C1)) := by
                    rw [List.append_assoc]; exact (List.perm_append_comm_assoc A1 F' C1)
                  have e2 : (A ++ (A1 ++ F' ++ C1)).Perm (F' ++ (A ++ (A1 ++ C1))) := (List.Perm.append_left A e1).trans (List.perm_append_comm_assoc A F' _)
                  have e3 := e2.append_right C
                  rw [List.append_assoc F'] at e3
                  exact (List.Perm.append_left _ e3).trans (List.perm_append_comm_assoc _ F' _)
                refine ⟨[(k, .row ⟨.S, r.cs, r.xs.set p.toNat e⟩)], rid (M.α k) ++ (A ++ (A1 ++ F' ++ C1) ++ C), hb, rfl, ⟨_, [], by rw [List.append_nil], ?_, rfl⟩, hperm2.nodup_iff.2 (List.nodup_append.2 ⟨hn, hO2, fun x hx y hy e => ?_⟩), fun x hx => ?_⟩
                · refine .inr ⟨r0, o0, row0, by rw [g1, List.length_set], by rw [hOs r0 (by rw [g1]; simp [rid])]; exact g2, g3, by simpa using g4, ?_⟩
                  rw [List.length_set]
                  have hw : ((row0.el.drop o0).take r.xs.length).set p.toNat es0 = (row0.el.drop o0).take r.xs.length := by
                    refine List.ext_getElem? fun q => ?_
                    rw [List.getElem?_set]
                    split
                    · rename_i e; subst e
                      rw [List.getElem?_take, if_pos hk, List.getElem?_drop, x5]
                      rw [if_pos (by rw [List.length_take, List.length_drop]; omega)]
                    · rfl
                  rw [hw] at hall
                  exact hall
                · subst e
                  rcases hF' x hx with h1 | h1
                  · exact hO x hy h1
                  · have := S.lt k x (by
                      rcases List.mem_append.1 hy with hy | hy
                      · exact List.mem_append_left _ hy
                      · exact List.mem_append_right _ (hON x hy))
                    omega
                · rcases List.mem_append.1 (hperm2.mem_iff.1 hx) with hx | hx
                  · exact .inl hx
                  · refine .inr ⟨hO x hx, k, by simp [ioRows], ?_⟩
                    rcases List.mem_append.1 hx with hx | hx
                    · exact List.mem_append_left _ hx
                    · exact List.mem_append_right _ (hON x hx)
              · cases hb
          · cases hr
        · cases hr
      · cases hr
    · cases hr
  · cases hr
end
end Go.PA
