/- Typed values: the operations that only read. No condition. -/
import Derived.Test.YtaekmccjendfoaaV7
namespace Go.PA
set_option linter.unusedVariables false
set_option linter.unusedSimpArgs false
section
variable {B : Bg} {M : Mp} {env : List AV} {h : Heap} {s : VS}

theorem TVRs.len {l : List TV} {as : List AV} (H : TVRs M h l as) : l.length = as.length := (TVRs.iff.1 H).len
theorem TVRs.drop' {l : List TV} {as : List AV} (n : Nat) (H : TVRs M h l as) : TVRs M h (l.drop n) (as.drop n) := TVRs.iff.2 ((TVRs.iff.1 H).drop n)
theorem TVRs.take' {l : List TV} {as : List AV} (n : Nat) (H : TVRs M h l as) : TVRs M h (l.take n) (as.take n) := TVRs.iff.2 ((TVRs.iff.1 H).take n)
theorem TVRs.get {l : List TV} {as : List AV} (H : TVRs M h l as) {i : Nat} {v : TV} {a : AV} (h1 : l[i]? = some v) (h2 : as[i]? = some a) : TVR M h v a := (TVRs.iff.1 H).get i v a h1 h2
theorem TVRs.splice : ∀ (vs : List TV) (bs : List AV) {l : List TV} {as : List AV} (n : Nat), TVRs M h l as → TVRs M h vs bs → TVRs M h (tsplice l n vs) (splice as n bs)
  | [], bs, l, as, n, H, H2 => by simp only [TVRs] at H2; subst H2; exact H
  | v :: vs, [], l, as, n, H, H2 => by simp only [TVRs] at H2
  | v :: vs, b :: bs, l, as, n, H, H2 => by
    simp only [TVRs] at H2
    simp only [tsplice, Go.PA.splice]
    exact TVRs.splice vs bs (n + 1) (TVRs.iff.2 ((TVRs.iff.1 H).set n H2.1)) H2.2

theorem tload_ok {agg : Bool} {n : Nat} {l : List TV} {as : List AV} {v : TV} (H : TVRs M h l as) (hl : tload agg n l = some v) : ∃ a, aload agg n as = some a ∧ TVR M h v a := by
  have hlen := H.len
  cases agg with
  | true =>
    simp only [tload, aload, if_true] at *
    split at hl
    · rename_i hn
      simp only [Option.some.injEq] at hl
      subst hl
      rw [if_pos (by omega)]
      exact ⟨_, rfl, by simp only [TVR]; exact ⟨_, rfl, H.take' n⟩⟩
    · cases hl
  | false =>
    simp only [tload, aload, Bool.false_eq_true, if_false] at *
    cases l with
    | nil => cases hl
    | cons x l =>
      cases as with
      | nil => simp only [TVRs] at H
      | cons a as =>
        simp only [TVRs] at H
        simp only [List.head?_cons, Option.some.injEq] at hl ⊢
        subst hl
        exact ⟨a, rfl, H.1⟩

theorem LitC.els {Z : List Nat} {cs : List Ty} {xs : List (Ty.Ds cs)} {a : AV} (H : LitC h Z (.sl cs) xs a) : ∃ els, aels h a = some els ∧ All2 (fun x y => LitCs h Z cs x y) xs els := by
  simp only [LitC] at H
  rcases H with ⟨rfl, rfl⟩ | ⟨f, ys, rfl, H⟩ | ⟨r, off, row, rfl, h1, h2, h3, h4, H⟩
  · exact ⟨[], rfl, trivial⟩
  · exact ⟨ys, rfl, H⟩
  · exact ⟨_, by simp only [aels, h2]; rw [if_pos h4], H⟩
/-- An element of a row whose first elements own their lists. -/
theorem SRel.elemSp (S : SRel B M env h s) {i : Nat} {p : Int} {r : VRow} (hr : s.slot? i = some (.sp p r)) {k : Nat} (hk : k < r.xs.length) : ∃ rr off row es F, M.α i = .ref rr off r.xs.length ∧ h.rows rr = some row ∧ row.el[off + k]? = some es ∧ OwnCs h M.Z .A r.cs (r.xs.getD k (Ty.ds0 r.cs)) es F ∧ (∀ x ∈ F, x ∈ M.N i) := by
  rcases S.slot i _ hr with ⟨_, h2, _⟩ | ⟨rr, off, row, h1, h2, h3, h4, h5, h6, h7, h8⟩
  · rw [h2] at hk; simp at hk
  · have hx : r.xs[k]? = some (r.xs.getD k (Ty.ds0 r.cs)) := by rw [List.getD_eq_getElem?_getD, List.getElem?_eq_getElem hk]; rfl
    by_cases hp : k < p.toNat
    · obtain ⟨es, A, F, C, g1, g2, g3, _⟩ := h7.at_ k (a := r.xs.getD k (Ty.ds0 r.cs)) (by rw [List.getElem?_take, if_pos hp]; exact hx)
      rw [List.getElem?_take, if_pos hp, List.getElem?_take, if_pos hk, List.getElem?_drop] at g1
      exact ⟨rr, off, row, es, F, h1, h2, g1, OwnCs.mode rfl _ g3, fun x hx => by rw [g2]; simp [hx]⟩
    · have hlen := h8.len
      rw [List.length_drop, List.length_drop] at hlen
      have hk2 : k < ((row.el.drop off).take r.xs.length).length := by omega
      have hy := List.getElem?_eq_getElem hk2
      have := h8.get (k - p.toNat) (r.xs.getD k (Ty.ds0 r.cs)) _ (by rw [List.getElem?_drop, show p.toNat + (k - p.toNat) = k by omega]; exact hx) (by rw [List.getElem?_drop, show p.toNat + (k - p.toNat) = k by omega]; exact hy)
      rw [List.getElem?_take, if_pos hk, List.getElem?_drop] at hy
      exact ⟨rr, off, row, _, [], h1, h2, hy, OwnCs.mode (NM.ok_A _) _ (LitCs.own _ this), fun x hx => by simp at hx⟩
theorem SRel.place (S : SRel B M env h s) {v : TV} {a : AV} {cs : List TV} (H : TVR M h v a) (hp : s.place v = some cs) : ∃ as, place h a = some as ∧ TVRs M h cs as := by
  cases v <;> simp only [VS.place, reduceCtorEq] at hp
  case box b off =>
    simp only [TVR] at H
    split at hp
    · rename_i cs' hb
      simp only [Option.some.injEq] at hp
      subst hp
      obtain ⟨as, h1, h2⟩ := S.box b cs' hb
      rw [H.2]
      exact ⟨_, by simp only [Go.PA.place, h1], h2.drop' off⟩
    · cases hp
  case rptr i idx off =>
    simp only [TVR] at H
    obtain ⟨hlv, rr, o, len, h1, h2, h3, rfl⟩ := H
    split at hp
    · rename_i r hr
      simp only [Option.some.injEq] at hp
      subst hp
      have hr := VS.slot_row.2 hr
      have hk : idx.toNat < r.xs.length := by
        rcases S.row i r hr with ⟨e, _, _⟩ | ⟨r2, o2, row, e, _⟩
        · rw [e] at h1; cases h1
        · rw [e] at h1; cases h1; omega
      obtain ⟨rr', off', row, es, A, F, C, g1, g2, g3, g4, g5, g6, g7, g8, g9, _⟩ := S.elem hr hk
      rw [g1] at h1
      cases h1
      rw [show ((idx.toNat : Nat) : Int) = idx by omega] at g9
      exact ⟨_, by simp only [Go.PA.place, g2, g5], g9.drop' off⟩
    · rename_i p r hr
      simp only [Option.some.injEq] at hp
      subst hp
      have hk : idx.toNat < r.xs.length := by
        rcases S.slot i _ hr with ⟨e, _⟩ | ⟨r2, o2, row, e, _⟩
        · rw [e] at h1; cases h1
        · rw [e] at h1; cases h1; omega
      obtain ⟨rr', off', row, es, F, g1, g2, g5, g7, g8⟩ := S.elemSp hr hk
      rw [g1] at h1
      cases h1
      exact ⟨_, by simp only [Go.PA.place, g2, g5], (toTVs_vw hlv (.none M h i es) _ g7 g8 fun p a h => by simpa using h).drop' off⟩
    · cases hp
  case lptr l =>
    simp only [TVR] at H
    obtain ⟨as, g, H⟩ := H
    simp only [Option.some.injEq] at hp
    subst hp
    rcases H with rfl | ⟨r, idx, off, row, es, rfl, h1, h2, h3, rfl⟩
    · exact ⟨as, rfl, g⟩
    · exact ⟨_, by simp only [Go.PA.place, h2, h3], g⟩
  case vptr i l =>
    simp only [TVR] at H
    obtain ⟨_, as, g, H⟩ := H
    simp only [Option.some.injEq] at hp
    subst hp
    rcases H with rfl | ⟨r, idx, off, row, es, rfl, h1, h2, h3, rfl⟩
    · exact ⟨as, rfl, g⟩
    · exact ⟨_, by simp only [Go.PA.place, h2, h3], g⟩

theorem LitC.cell {Z : List Nat} {cs : List Ty} {xs : List (Ty.Ds cs)} {a : AV} (H : LitC h Z (.sl cs) xs a) : acells a = some [a] := by
  simp only [LitC] at H
  rcases H with ⟨rfl, _⟩ | ⟨f, ys, rfl, _⟩ | ⟨_, _, _, rfl, _⟩ <;> rfl
theorem RowRel.cell {Z : List Nat} {m : NM} {cs : List Ty} {xs : List (Ty.Ds cs)} {a : AV} {N : List Nat} (H : RowRel h Z m cs xs a N) : acells a = some [a] := by
  rcases H with ⟨rfl, _⟩ | ⟨_, _, _, rfl, _⟩ <;> rfl
theorem SlotRel.cell {Z : List Nat} {sl : VSlot} {a : AV} {N : List Nat} (H : SlotRel h Z sl a N) : acells a = some [a] := by
  cases sl with
  | row r => exact RowRel.cell H
  | sp p r => rcases H with ⟨rfl, _⟩ | ⟨_, _, _, rfl, _⟩ <;> rfl
  | ho k fo r => obtain ⟨_, _, _, _, rfl, _⟩ := H; rfl
theorem SRel.cells (S : SRel B M env h s) {v : TV} {a : AV} {cs : List TV} (H : TVR M h v a) (hc : v.cells = some cs) : ∃ as, acells a = some as ∧ TVRs M h cs as := by
  have one : ∀ (u : TV), TVR M h u a → (acells a = some [a]) → cs = [u] → ∃ as, acells a = some as ∧ TVRs M h cs as := fun u hu ha e => ⟨[a], ha, by subst e; simp only [TVRs]; exact ⟨hu, trivial⟩⟩
  cases v <;> simp only [TV.cells, Option.some.injEq, reduceCtorEq] at hc
  case st l =>
    subst hc
    simp only [TVR] at H
    obtain ⟨as, rfl, H⟩ := H
    exact ⟨as, rfl, H⟩
  case ref i =>
    refine one _ H ?_ hc.symm
    simp only [TVR] at H
    obtain ⟨r, hr⟩ := S.live' H.1
    rw [H.2]
    exact (S.slot i r hr).cell
  case sub i lo hi =>
    refine one _ H ?_ hc.symm
    simp only [TVR] at H
    rcases H.2.2.2 with ⟨r, off, len, _, _, ⟨rfl, _⟩ | ⟨_, _, f, rfl⟩⟩ | ⟨_, _, _, rfl⟩ <;> rfl
  case vw i o cs' xs =>
    refine one _ H ?_ hc.symm
    simp only [TVR, OwnC] at H
    obtain ⟨_, ⟨F, _, ⟨rfl, _⟩ | ⟨_, H, _⟩ | ⟨_, r, off, row, N, rfl, _⟩⟩, _⟩ := H
    · rfl
    · exact H.cell
    · rfl
  case lst cs' xs =>
    refine one _ H ?_ hc.symm
    simp only [TVR] at H
    exact H.cell
  case nil => exact one _ H (by simp only [TVR] at H; subst H; rfl) hc.symm
  case int k n => exact one _ H (by simp only [TVR] at H; subst H; rfl) hc.symm
  case bool b => exact one _ H (by simp only [TVR] at H; subst H; rfl) hc.symm
  case str b => exact one _ H (by simp only [TVR] at H; subst H; rfl) hc.symm
  case box b off => exact one _ H (by simp only [TVR] at H; obtain ⟨_, rfl⟩ := H; rfl) hc.symm
  case rptr i idx off => exact one _ H (by simp only [TVR] at H; obtain ⟨_, _, _, _, _, _, _, rfl⟩ := H; rfl) hc.symm
  case lptr l =>
    refine one _ H ?_ hc.symm
    simp only [TVR] at H
    obtain ⟨as, _, rfl | ⟨_, _, _, _, _, rfl, _⟩⟩ := H <;> rfl
  case vptr i l =>
    refine one _ H ?_ hc.symm
    simp only [TVR] at H
    obtain ⟨_, as, _, rfl | ⟨_, _, _, _, _, rfl, _⟩⟩ := H <;> rfl
  case fn f l => exact one _ H (by simp only [TVR] at H; obtain ⟨_, rfl, _⟩ := H; rfl) hc.symm

theorem fillPT_ok (S : SRel B M env h s) {g : Option (Tmp × Bool)} (hg : Met env g) : ∀ (l : List (Nat × Nat × Operand)) {cs : List TV} {as : List AV} {r : List TV}, TVRs M h cs as → fillPT cs (l.map fun p => (p.1, p.2.1, s.ev g p.2.2)) = some r →
    ∃ bs, fillP as (l.map fun p => (p.1, p.2.1, aeval env p.2.2)) = some bs ∧ TVRs M h r bs
  | [], cs, as, r, H, hf => by simp only [List.map_nil, fillPT, Option.some.injEq] at hf; subst hf; exact ⟨as, rfl, H⟩
  | (off, n, x) :: l, cs, as, r, H, hf => by
    simp only [List.map_cons, fillPT] at hf
    split at hf
    · rename_i vs hc
      obtain ⟨bs, h1, h2⟩ := S.cells (S.ev hg x) hc
      have hl1 := H.len
      have hl2 := h2.len
      split at hf
      · rename_i hn
        obtain ⟨cs', h3, h4⟩ := fillPT_ok S hg l (TVRs.splice _ _ off H h2) hf
        refine ⟨cs', ?_, h4⟩
        simp only [List.map_cons, fillP, h1]
        rw [if_pos (by omega)]; exact h3
      · cases hf
    · cases hf

theorem tceq_ok {u v : TV} {a b : AV} {r : Bool} (h1 : TVR M h u a) (h2 : TVR M h v b) (hr : tceq u v = some r) : ceq a b = some r := by
  cases u <;> cases v <;> simp only [tceq, reduceCtorEq] at hr <;> simp only [TVR] at h1 h2 <;> subst h1 <;> subst h2 <;> simp only [ceq] <;> exact hr
theorem kindsT_ok : ∀ {ks : List Nat} {u : List TV} {a : List AV}, TVRs M h u a → kindsT ks u = true → kindsB ks a = true
  | [], [], a, H, _ => by simp only [TVRs] at H; subst H; rfl
  | [], _ :: _, a, H, hk => by simp [kindsT] at hk
  | _ :: _, [], a, H, hk => by simp [kindsT] at hk
  | k :: ks, v :: u, [], H, hk => by simp only [TVRs] at H
  | k :: ks, v :: u, a :: as, H, hk => by
    simp only [TVRs] at H
    obtain ⟨h1, h2⟩ := H
    unfold kindsT at hk
    split at hk
    · rename_i heq1 heq2; simp only [List.cons.injEq, reduceCtorEq] at heq1
    · rename_i e1 e2
      simp only [List.cons.injEq] at e1 e2
      obtain ⟨rfl, rfl⟩ := e1; obtain ⟨rfl, rfl⟩ := e2
      simp only [TVR] at h1; subst h1
      simp only [kindsB]; exact kindsT_ok h2 hk
    · rename_i e1 e2
      simp only [List.cons.injEq] at e1 e2
      obtain ⟨rfl, rfl⟩ := e1; obtain ⟨rfl, rfl⟩ := e2
      simp only [TVR] at h1; subst h1
      simp only [kindsB]; exact kindsT_ok h2 hk
    · rename_i e1 e2
      simp only [List.cons.injEq] at e1 e2
      obtain ⟨rfl, rfl⟩ := e1; obtain ⟨rfl, rfl⟩ := e2
      simp only [TVR] at h1; subst h1
      simp only [kindsB]; exact kindsT_ok h2 hk
    · cases hk
theorem tcseq_ok : ∀ {u v : List TV} {a b : List AV} {r : Bool}, TVRs M h u a → TVRs M h v b → tcseq u v = some r → cseq a b = some r
  | [], [], a, b, r, h1, h2, hr => by simp only [TVRs] at h1 h2; subst h1; subst h2; exact hr
  | [], _ :: _, a, b, r, h1, h2, hr => by simp only [tcseq, reduceCtorEq] at hr
  | _ :: _, [], a, b, r, h1, h2, hr => by simp only [tcseq, reduceCtorEq] at hr
  | x :: u, y :: v, [], b, r, h1, h2, hr => by simp only [TVRs] at h1
  | x :: u, y :: v, a :: as, [], r, h1, h2, hr => by simp only [TVRs] at h2
  | x :: u, y :: v, a :: as, b :: bs, r, h1, h2, hr => by
    simp only [TVRs] at h1 h2
    simp only [tcseq] at hr
    split at hr
    · rename_i p hp
      split at hr
      · rename_i q hq
        simp only [cseq, tceq_ok h1.1 h2.1 hp, tcseq_ok h1.2 h2.2 hq]; exact hr
      · cases hr
    · cases hr

theorem tbin_ok {op : BinOp} {u v : TV} {a b : AV} {c : List Bool} {w : TV} (h1 : TVR M h u a) (h2 : TVR M h v b) (hr : tbin op u v = some (c, w)) (hc : ∀ x ∈ c, x = true) : ∃ r, abin op a b = some r ∧ TVR M h w r := by
  cases u <;> cases v <;> simp only [tbin, reduceCtorEq] at hr <;> simp only [TVR] at h1 h2 <;> subst h1 <;> subst h2
  · simp only [abin]
    split at hr
    · cases hr
    · rename_i hk
      rw [if_neg hk]
      cases op <;> simp only [Option.some.injEq, Prod.mk.injEq, reduceCtorEq] at hr <;> obtain ⟨rfl, rfl⟩ := hr <;> simp only [TVR]
      case quo => simp only [List.mem_singleton, forall_eq, Bool.not_eq_true', beq_eq_false_iff_ne] at hc; rw [if_neg hc]; exact ⟨_, rfl, rfl⟩
      case rem => simp only [List.mem_singleton, forall_eq, Bool.not_eq_true', beq_eq_false_iff_ne] at hc; rw [if_neg hc]; exact ⟨_, rfl, rfl⟩
      case shl => simp only [List.mem_singleton, forall_eq, decide_eq_true_eq] at hc; rw [if_neg (by omega)]; exact ⟨_, rfl, rfl⟩
      case shr => simp only [List.mem_singleton, forall_eq, decide_eq_true_eq] at hc; rw [if_neg (by omega)]; exact ⟨_, rfl, rfl⟩
      all_goals exact ⟨_, rfl, rfl⟩
  · simp only [abin]
    cases op <;> simp only [Option.some.injEq, Prod.mk.injEq, reduceCtorEq] at hr <;> obtain ⟨rfl, rfl⟩ := hr <;> simp only [TVR]
    case add => simp only [List.mem_singleton, forall_eq, decide_eq_true_eq] at hc; rw [if_pos hc]; exact ⟨_, rfl, rfl⟩
    all_goals exact ⟨_, rfl, rfl⟩

theorem tbnd_ok (S : SRel B M env h s) {g : Option (Tmp × Bool)} (hg : Met env g) {o : Option Operand} {d n : Int} (hb : tbnd s g o d = some n) : bnd env o d = some n := by
  cases o with
  | none => exact hb
  | some x =>
    simp only [tbnd, bnd] at *
    have := S.ev hg x
    cases hv : s.ev g x <;> rw [hv] at hb this <;> simp only [tint, reduceCtorEq] at hb
    simp only [TVR] at this
    rw [this]; exact hb
theorem tbnd_def (S : SRel B M env h s) {g : Option (Tmp × Bool)} (hg : Met env g) {o : Option Operand} {d d' n : Int} (hb : tbnd s g o d = some n) (hd : o = none → d' = d) : bnd env o d' = some n := by
  rw [← tbnd_ok S hg hb]
  cases o with
  | none => simp only [bnd]; rw [hd rfl]
  | some x => rfl

theorem AllF.nil_left {α β : Type} {R : α → β → List Nat → Prop} {bs : List β} {F : List Nat} (H : AllF R [] bs F) : bs = [] ∧ F = [] := by
  cases bs with
  | nil => exact ⟨rfl, H⟩
  | cons => exact H.elim
theorem OwnCs.toZ {Z : List Nat} {m : NM} {cs : List Ty} (hf : hasSl cs = false) {xs : List (Ty.Ds cs)} {bs : List (List AV)} {F : List Nat} (H : AllF (fun x y G => OwnCs h Z m cs x y G) xs bs F) (m' : NM) : F = [] ∧ AllF (fun x y G => OwnCs h Z m' cs x y G) xs bs [] := by
  induction xs generalizing bs F with
  | nil =>
    obtain ⟨rfl, rfl⟩ := H.nil_left
    exact ⟨rfl, rfl⟩
  | cons x xs ih =>
    cases bs with
    | nil => exact H.elim
    | cons b bs =>
      obtain ⟨F1, F2, e, h1, h2⟩ := H
      obtain ⟨rfl, k1⟩ := OwnCs.flat cs hf h1
      obtain ⟨rfl, k2⟩ := ih h2
      exact ⟨by simpa using e, [], [], rfl, k1 h Z m', k2⟩
theorem OwnCs.noF {Z : List Nat} {m : NM} (hm : m = .L ∨ m = .Z) {cs : List Ty} {xs : List (Ty.Ds cs)} {bs : List (List AV)} {F : List Nat} (H : AllF (fun x y G => OwnCs h Z m cs x y G) xs bs F) : F = [] := by
  induction xs generalizing bs F with
  | nil => exact H.nil_left.2
  | cons x xs ih =>
    cases bs with
    | nil => exact H.elim
    | cons b bs =>
      obtain ⟨F1, F2, e, h1, h2⟩ := H
      rw [e, (OwnCs.lit hm cs h1).2, ih h2]; rfl

theorem AllF.lits {Z : List Nat} {cs : List Ty} {xs : List (Ty.Ds cs)} {ys : List (List AV)} (H : All2 (fun x y => LitCs h Z cs x y) xs ys) : AllF (fun x y G => OwnCs h Z .L cs x y G) xs ys [] := .of_all2 (H.mono fun _ _ => LitCs.own cs)

/-- A list's elements. -/
theorem SRel.list (S : SRel B M env h s) {v : TV} {a : AV} {l : VL} (H : TVR M h v a) (hl : s.list v = some l) : ∃ els F, aels h a = some els ∧ AllF (fun x y G => OwnCs h M.Z l.nm l.cs x y G) l.xs els F ∧ ((l.nm = .Z ∨ l.nm = .L) → F = []) ∧
    (∀ x ∈ F, ∃ j, l.src = some j ∧ x ∈ M.N j) ∧ ((∀ i o cs xs, v ≠ .vw i o cs xs) → F.Nodup) := by
  have zap : ∀ {m : NM} {cs : List Ty} {xs : List (Ty.Ds cs)} {els : List (List AV)} {F : List Nat} (src : Option Nat), aels h a = some els → AllF (fun x y G => OwnCs h M.Z m cs x y G) xs els F → (∀ x ∈ F, ∃ j, src = some j ∧ x ∈ M.N j) → ((∀ i o cs xs, v ≠ .vw i o cs xs) → F.Nodup) → l = ⟨cs, xs, if hasSl cs then m else .Z, src⟩ →
      ∃ els F, aels h a = some els ∧ AllF (fun x y G => OwnCs h M.Z l.nm l.cs x y G) l.xs els F ∧ ((l.nm = .Z ∨ l.nm = .L) → F = []) ∧ (∀ x ∈ F, ∃ j, l.src = some j ∧ x ∈ M.N j) ∧ ((∀ i o cs xs, v ≠ .vw i o cs xs) → F.Nodup) := by
    intro m cs xs els F src h1 h2 h3 h4 e
    subst e
    cases hf : hasSl cs with
    | true => exact ⟨els, F, h1, by simpa [hf] using h2, fun hm => OwnCs.noF (by simpa [hf, or_comm] using hm) h2, h3, h4⟩
    | false => exact ⟨els, [], h1, by simpa [hf] using (OwnCs.toZ hf h2 .Z).2, fun _ => rfl, fun x hx => by simp at hx, fun _ => List.nodup_nil⟩
  cases v <;> simp only [VS.list, Option.some.injEq, reduceCtorEq] at hl
  case lst cs xs =>
    simp only [TVR] at H
    obtain ⟨els, h1, h2⟩ := H.els
    exact zap none (m := .L) (els := els) (F := []) h1 (AllF.lits h2) (fun x hx => by simp at hx) (fun _ => List.nodup_nil) hl.symm
  case ref i =>
    split at hl
    · rename_i r hr
      simp only [Option.some.injEq] at hl
      simp only [TVR] at H
      rw [H.2] at zap ⊢
      have hnd := S.nd i
      unfold fp at hnd
      rcases S.row i r hr with ⟨h1, h2, h3⟩ | ⟨rr, off, row, h1, h2, h3, h4, h5⟩
      · refine zap (some i) (m := r.nm) (els := []) (F := []) (by rw [h1]; rfl) (by rw [h2]; rfl) (fun x hx => by simp at hx) (fun _ => List.nodup_nil) hl.symm
      · refine zap (some i) (m := r.nm) (els := (row.el.drop off).take r.xs.length) (F := M.N i) (by rw [h1]; simp only [aels, h2]; rw [if_pos h4]) h5 (fun x hx => ⟨i, rfl, hx⟩) (fun _ => (List.nodup_append.1 hnd).2.1) hl.symm
    · cases hl
  case sub i lo hi =>
    split at hl
    · rename_i r hr
      simp only [Option.some.injEq] at hl
      simp only [TVR] at H
      obtain ⟨_, b1, b2, H⟩ := H
      have hnd := S.nd i
      unfold fp at hnd
      rcases H with ⟨rr, off, len, e1, e2, H⟩ | ⟨e1, rfl, rfl, rfl⟩
      · rcases S.row i r hr with ⟨h1, h2, h3⟩ | ⟨rr', off', row, h1, h2, h3, h4, h5⟩
        · rw [h1] at e1; cases e1
        · rw [h1] at e1
          cases e1
          have hw := h5
          obtain ⟨F1, F2, eF, f1, f2⟩ := hw.split hi.toNat
          obtain ⟨G1, G2, eG, g1, g2⟩ := f1.split lo.toNat
          rcases H with ⟨rfl, _⟩ | ⟨e3, _, f, rfl⟩
          · refine zap (some i) (m := r.nm) (F := G2) ?_ g2 (fun x hx => ⟨i, rfl, by rw [eF, eG]; simp [hx]⟩) ?_ hl.symm
            · simp only [aels, h2]
              rw [if_pos (by omega)]
              congr 1
              rw [List.take_take, Nat.min_eq_left (by omega), List.drop_take, List.drop_drop]
            · intro _
              have := (List.nodup_append.1 hnd).2.1
              rw [eF, eG] at this
              exact (List.nodup_append.1 (List.nodup_append.1 this).1).2.1
          · have : G2 = [] ∧ (List.take hi.toNat r.xs).drop lo.toNat = [] := by
              have hz : (List.take hi.toNat r.xs).drop lo.toNat = [] := by
                apply List.drop_eq_nil_of_le
                rw [List.length_take]; omega
              rw [hz] at g2
              exact ⟨g2.nil_left.2, hz⟩
            refine zap (some i) (m := r.nm) (els := []) (F := []) rfl (by rw [this.2]; rfl) (fun x hx => by simp at hx) (fun _ => List.nodup_nil) hl.symm
      · refine zap (some i) (m := r.nm) (els := []) (F := []) rfl (by simp; rfl) (fun x hx => by simp at hx) (fun _ => List.nodup_nil) hl.symm
    · cases hl
  case vw i o cs xs =>
    simp only [TVR, OwnC] at H
    obtain ⟨_, ⟨F, hF, H⟩, _⟩ := H
    have hnd := S.nd i
    unfold fp at hnd
    rcases H with ⟨rfl, rfl, rfl⟩ | ⟨_, H, rfl⟩ | ⟨_, r, off, row, N, rfl, h2, h3, h4, h5, rfl⟩
    · exact zap (some i) (m := .A) (els := []) (F := []) rfl (show AllF _ ([] : List (Ty.Ds cs)) [] [] from rfl) (fun x hx => by simp at hx) (fun _ => List.nodup_nil) hl.symm
    · obtain ⟨els, h1, h2⟩ := H.els
      exact zap (some i) (m := .A) (els := els) (F := []) h1 ((AllF.lits h2).mono fun a b G _ => OwnCs.mode (NM.ok_A _) cs) (fun x hx => by simp at hx) (fun _ => List.nodup_nil) hl.symm
    · exact zap (some i) (m := .A) (F := N) (by simp only [aels, h2]; rw [if_pos h4]) h5 (fun x hx => ⟨i, rfl, hF x (List.mem_cons_of_mem _ hx)⟩) (fun h => absurd rfl (h i o cs xs)) hl.symm
end
end Go.PA
