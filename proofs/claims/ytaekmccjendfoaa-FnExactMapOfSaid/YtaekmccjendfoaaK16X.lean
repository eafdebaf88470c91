/- Regions that draw their order and write: one walk of one order serves every order. No condition. -/
import Derived.Test.YtaekmccjendfoaaK16
import Derived.Test.YtaekmccjendfoaaK14F
namespace Go.PA

/-! What an operation looks at. -/
def opt2 : Option Operand → Option Operand → List Operand
  | a, b => a.toList ++ b.toList
def aoOps : AOp → List Operand
  | .mv x | .box x | .nilchk x | .un _ x | .ii _ x | .b2s x | .fa _ x | .fld _ _ _ x | .ext x _ | .len _ x | .load _ _ x => [x]
  | .pick c a b => [c, a, b]
  | .alloc _ => []
  | .build _ ps => ps.map (·.2.2)
  | .bslice _ _ _ ps => ps.map (·.2)
  | .store _ a x => [a, x]
  | .bin _ x y | .beq _ x y | .seq _ _ x y | .mks _ _ _ x y | .app _ _ x y | .apps x y | .cpy _ x y | .mnx _ x y | .ia _ x y | .idxs x y => [x, y]
  | .idx _ _ _ _ x y => [x, y]
  | .sl _ x lo hi => x :: opt2 lo hi
  | .slstr x lo hi => x :: opt2 lo hi
  | .call _ args => args
  | .callv x args => x :: args
  | .mkf _ caps => caps
def tmpOf : Operand → Option Tmp
  | .tmp t => some t
  | _ => none
def aoLooks (o : AOper) : List Tmp := (aoOps o.op).filterMap tmpOf ++ (match o.guard with
  | some (t, _) => [t]
  | none => [])
def pureB : AOp → Bool
  | .mv _ | .pick _ _ _ | .build _ _ | .nilchk _ | .bin _ _ _ | .beq _ _ _ | .seq _ _ _ _ | .un _ _ | .ii _ _ | .slstr _ _ _ | .fa _ _ | .idx _ _ _ _ _ _ | .idxs _ _ | .fld _ _ _ _ | .ext _ _ | .len _ _ | .mnx _ _ _ => true
  | _ => false
def loudB : AOp → Bool
  | .alloc _ | .box _ | .bslice _ _ _ _ | .mks _ _ _ _ _ | .store _ _ _ | .app _ _ _ _ | .apps _ _ | .cpy _ _ _ => true
  | _ => false
def mutB : AOp → Bool
  | .store _ _ _ | .app _ _ _ _ | .apps _ _ | .cpy _ _ _ => true
  | _ => false

theorem aeval_congr {env env' : List AV} {x : Operand} (h : ∀ t, tmpOf x = some t → env.getD t .bad = env'.getD t .bad) : aeval env x = aeval env' x := by
  cases x with
  | tmp t => exact h t rfl
  | _ => rfl
theorem bnd_congr {env env' : List AV} {o : Option Operand} {d : Int} (h : ∀ x, o = some x → aeval env x = aeval env' x) : bnd env o d = bnd env' o d := by
  cases o with
  | none => rfl
  | some x => simp only [bnd, h x rfl]
theorem adet_congr {env env' : List AV} {h : Heap} {op : AOp} (he : ∀ x ∈ aoOps op, aeval env x = aeval env' x) : adet env h op = adet env' h op := by
  cases op <;> simp only [aoOps, List.mem_cons, List.mem_append, opt2, Option.mem_toList, List.not_mem_nil, or_false, forall_eq_or_imp, forall_eq, List.mem_map, forall_exists_index, and_imp, forall_apply_eq_imp_iff₂] at he
  case sl sz x lo hi =>
    have h1 : ∀ d, bnd env lo d = bnd env' lo d := fun d => bnd_congr fun y hy => he.2 y (.inl hy)
    have h2 : ∀ d, bnd env hi d = bnd env' hi d := fun d => bnd_congr fun y hy => he.2 y (.inr hy)
    simp only [adet, he.1, h1, h2]
  case slstr x lo hi =>
    have h1 : ∀ d, bnd env lo d = bnd env' lo d := fun d => bnd_congr fun y hy => he.2 y (.inl hy)
    have h2 : ∀ d, bnd env hi d = bnd env' hi d := fun d => bnd_congr fun y hy => he.2 y (.inr hy)
    simp only [adet, he.1, h1, h2]
  case build zs ps =>
    have : (ps.map fun p => (p.1, p.2.1, aeval env p.2.2)) = (ps.map fun p => (p.1, p.2.1, aeval env' p.2.2)) := List.map_congr_left fun p hp => by rw [he p hp]
    simp only [adet, this]
  case bslice sz n zs ps =>
    have : (ps.map fun p => (p.1, aeval env p.2)) = (ps.map fun p => (p.1, aeval env' p.2)) := List.map_congr_left fun p hp => by rw [he p hp]
    simp only [adet, this]
  case mkf f caps =>
    have : caps.map (aeval env) = caps.map (aeval env') := List.map_congr_left fun p hp => he p hp
    simp only [adet, this]
  all_goals (first | rfl | simp only [adet, he])

theorem place_ext {h h' : Heap} (X : HExt h h') {p : AV} {cs : List AV} (hp : place h p = some cs) : place h' p = some cs := by
  unfold place at *
  split at hp
  · split at hp
    · rename_i hb; rw [X.1 _ _ hb]; exact hp
    · cases hp
  · split at hp
    · rename_i hr; rw [X.2 _ _ hr]; exact hp
    · cases hp
  · exact hp
  · cases hp
theorem aels_ext {h h' : Heap} (X : HExt h h') {p : AV} {cs : List (List AV)} (hp : aels h p = some cs) : aels h' p = some cs := by
  unfold aels at *
  split at hp
  · exact hp
  · exact hp
  · split at hp
    · rename_i hr; rw [X.2 _ _ hr]; exact hp
    · cases hp
  · cases hp

/-- What only reads keeps its word where more is there. -/
theorem adet_ext {env : List AV} {h h' : Heap} (X : HExt h h') {op : AOp} (hl : loudB op = false) {r : AV} {h1 : Heap} (hd : adet env h op = some (r, h1)) : h1 = h ∧ adet env h' op = some (r, h') := by
  cases op <;> simp only [loudB, Bool.true_eq_false] at hl
  case load agg n a =>
    simp only [adet] at *
    split at hd
    · rename_i cs hp
      rw [place_ext X hp]
      simp only at *
      split at hd
      · simp only [Option.some.injEq, Prod.mk.injEq] at hd ⊢; exact ⟨hd.2.symm, hd.1, trivial⟩
      · cases hd
    · cases hd
  case b2s x =>
    simp only [adet] at *
    split at hd
    · rename_i cs hp
      rw [aels_ext X hp]
      simp only at *
      split at hd
      · simp only [Option.some.injEq, Prod.mk.injEq] at hd ⊢; exact ⟨hd.2.symm, hd.1, trivial⟩
      · cases hd
    · cases hd
  case sl sz x lo hi =>
    simp only [adet] at *
    cases hx : aeval env x with
    | ref r off len =>
      simp only [hx] at hd ⊢
      split at hd
      · skip
        split at hd
        · rename_i hr
          simp only [X.2 _ _ hr]
          split at hd
          · rename_i hc
            rw [if_pos hc]
            simp only [Option.some.injEq, Prod.mk.injEq] at hd ⊢; exact ⟨hd.2.symm, hd.1, trivial⟩
          · cases hd
        · cases hd
      · cases hd
    | nils =>
      simp only [hx] at hd ⊢
      split at hd
      · skip
        split at hd
        · rename_i hc
          rw [if_pos hc]
          simp only [Option.some.injEq, Prod.mk.injEq] at hd ⊢; exact ⟨hd.2.symm, hd.1, trivial⟩
        · cases hd
      · cases hd
    | lit f xs =>
      simp only [hx] at hd ⊢
      split at hd
      · skip
        split at hd
        · rename_i hc
          rw [if_pos hc]
          simp only [Option.some.injEq, Prod.mk.injEq] at hd ⊢; exact ⟨hd.2.symm, hd.1, trivial⟩
        · cases hd
      · cases hd
    | _ => simp only [hx] at hd; cases hd
  case ia sz x i =>
    simp only [adet] at *
    split at hd
    · split at hd
      · split at hd
        · rename_i hc
          rw [if_pos hc]
          split at hd
          · split at hd
            · rename_i hc; rw [if_pos hc]; simp only [Option.some.injEq, Prod.mk.injEq] at hd ⊢; exact ⟨hd.2.symm, hd.1, trivial⟩
            · cases hd
          · cases hd
        · cases hd
      · split at hd
        · rename_i hc
          rw [if_pos hc]
          split at hd
          · rename_i hr
            rw [X.2 _ _ hr]
            simp only at *
            split at hd
            · rename_i hc; rw [if_pos hc]; simp only [Option.some.injEq, Prod.mk.injEq] at hd ⊢; exact ⟨hd.2.symm, hd.1, trivial⟩
            · cases hd
          · cases hd
        · cases hd
      · cases hd
    · cases hd
  case nilchk x =>
    simp only [adet] at *
    split at hd <;> first | (simp only [Option.some.injEq, Prod.mk.injEq] at hd ⊢; exact ⟨hd.2.symm, hd.1, trivial⟩) | cases hd
  case mnx mx x y =>
    simp only [adet] at *
    split at hd
    · split at hd
      · rename_i hc
        rw [if_pos hc]
        simp only [Option.some.injEq, Prod.mk.injEq] at hd ⊢; exact ⟨hd.2.symm, hd.1, trivial⟩
      · cases hd
    · cases hd
  case len st x =>
    simp only [adet] at *
    split at hd <;> (try split at hd) <;> first
      | (rename_i hc; rw [if_pos hc]; simp only [Option.some.injEq, Prod.mk.injEq] at hd ⊢; exact ⟨hd.2.symm, hd.1, trivial⟩)
      | (rename_i hc; rw [if_neg hc]; simp only [Option.some.injEq, Prod.mk.injEq] at hd ⊢; exact ⟨hd.2.symm, hd.1, trivial⟩)
      | cases hd
  case call => cases hd
  case callv => cases hd
  all_goals
    simp only [adet] at *
    first
      | (simp only [Option.some.injEq, Prod.mk.injEq] at hd ⊢; exact ⟨hd.2.symm, hd.1, trivial⟩)
      | (repeat' split at hd)
  all_goals
    first
      | (cases hd; done)
      | (simp only [Option.some.injEq, Prod.mk.injEq] at hd ⊢; simp_all)


/-- What looks at no heap. -/
theorem pure_adet {env : List AV} {h h2 : Heap} {op : AOp} (hp : pureB op = true) {r : AV} {h1 : Heap} (hd : adet env h op = some (r, h1)) : h1 = h ∧ adet env h2 op = some (r, h2) := by
  have key : ∀ h, adet env h op = (adet env Heap.nil op).map fun p => (p.1, h) := by
    intro h
    cases op <;> simp only [pureB, Bool.false_eq_true] at hp
    all_goals
      simp only [adet]
      first
        | rfl
        | ((repeat' split) <;> first | rfl | simp_all)
  rw [key h] at hd
  rw [key h2]
  cases hn : adet env Heap.nil op with
  | none => rw [hn] at hd; cases hd
  | some p =>
    rw [hn] at hd
    simp only [Option.map_some, Option.some.injEq, Prod.mk.injEq] at hd ⊢
    exact ⟨hd.2.symm, hd.1, trivial⟩

theorem HExt.refl (h : Heap) : HExt h h := ⟨fun _ _ h => h, fun _ _ h => h⟩
theorem HExt.trans {a b c : Heap} (x : HExt a b) (y : HExt b c) : HExt a c := ⟨fun i cs h => y.1 i cs (x.1 i cs h), fun i cs h => y.2 i cs (x.2 i cs h)⟩
theorem box_ext (h : Heap) (cs : List AV) : HExt h { h with boxes := h.boxes ++ [cs] } :=
  ⟨fun b cs' hb => by
    have hlt := (List.getElem?_eq_some_iff.1 hb).1
    simp only [List.getElem?_append_left hlt, hb], fun _ _ h => h⟩
theorem row_ext {h : Heap} (hlt : ∀ r row, h.rows r = some row → r < h.next) (row : Row) (n : Nat) : HExt h { h with rows := upd h.rows h.next (some row), next := n } :=
  ⟨fun _ _ h => h, fun r row' hr => by
    have := hlt r row' hr
    show upd h.rows h.next (some row) r = some row'
    rw [upd_ne _ _ _ _ (by omega)]; exact hr⟩
theorem alloc_ext {env : List AV} {h h' : Heap} {op : AOp} {r : AV} (hl : loudB op = true) (hm : mutB op = false) (hlt : ∀ r row, h.rows r = some row → r < h.next) (hd : adet env h op = some (r, h')) : HExt h h' := by
  cases op <;> simp only [loudB, mutB, Bool.false_eq_true, Bool.true_eq_false] at hl hm
  all_goals simp only [adet] at hd
  case alloc zs => simp only [Option.some.injEq, Prod.mk.injEq] at hd; obtain ⟨_, rfl⟩ := hd; exact box_ext h _
  case box x =>
    split at hd
    · simp only [Option.some.injEq, Prod.mk.injEq] at hd; obtain ⟨_, rfl⟩ := hd; exact box_ext h _
    · cases hd
  case bslice =>
    split at hd
    · simp only [Option.some.injEq, Prod.mk.injEq] at hd; obtain ⟨_, rfl⟩ := hd; exact row_ext hlt _ _
    · cases hd
  case mks =>
    split at hd
    · split at hd
      · simp only [Option.some.injEq, Prod.mk.injEq] at hd; obtain ⟨_, rfl⟩ := hd; exact row_ext hlt _ _
      · cases hd
    · cases hd

/-! Reads, and whose place they look at. -/
def readRoot : AOp → Option Operand
  | .load _ _ x | .sl _ x _ _ | .ia _ x _ | .b2s x => some x
  | _ => none
def LiveAt (h : Heap) : AV → Prop
  | .box b _ => ∃ cs, h.boxes[b]? = some cs
  | .rptr r _ _ => ∃ row, h.rows r = some row
  | .ref r _ _ => ∃ row, h.rows r = some row
  | _ => True
theorem SameAt.trans {h h' h'' : Heap} {a : AV} (x : SameAt h h' a) (y : SameAt h' h'' a) : SameAt h h'' a := by
  cases a <;> simp only [SameAt] at * <;> rw [y, x]
theorem LiveAt.same {h h' : Heap} {a : AV} (x : LiveAt h a) (y : SameAt h h' a) : LiveAt h' a := by
  cases a <;> simp only [SameAt, LiveAt] at * <;> rw [y] <;> exact x
theorem read_same {env : List AV} {h h' : Heap} {op : AOp} {x : Operand} (hx : readRoot op = some x) (S : SameAt h h' (aeval env x)) {r : AV} {h1 : Heap} (hd : adet env h op = some (r, h1)) : h1 = h ∧ adet env h' op = some (r, h') := by
  have key : adet env h' op = (adet env h op).map fun p => (p.1, h') := by
    cases op <;> simp only [readRoot, Option.some.injEq, reduceCtorEq] at hx
    case load agg n a =>
      subst hx
      have e : place h' (aeval env a) = place h (aeval env a) := by
        cases ha : aeval env a <;> rw [ha] at S <;> simp only [SameAt] at S <;> simp only [place] <;> rw [S]
      simp only [adet, e]
      (repeat' split) <;> first | rfl | simp_all
    case b2s a =>
      subst hx
      have e : aels h' (aeval env a) = aels h (aeval env a) := by
        cases ha : aeval env a <;> rw [ha] at S <;> simp only [SameAt] at S <;> simp only [aels] <;> rw [S]
      simp only [adet, e]
      (repeat' split) <;> first | rfl | simp_all
    case sl sz a lo hi =>
      subst hx
      simp only [adet]
      cases ha : aeval env a <;> rw [ha] at S <;> simp only [SameAt] at S <;> simp only
      case ref r off len => rw [S]; (repeat' split) <;> first | rfl | simp_all
      all_goals ((repeat' split) <;> first | rfl | simp_all)
    case ia sz a i =>
      subst hx
      simp only [adet]
      cases ha : aeval env a <;> rw [ha] at S <;> simp only [SameAt] at S <;> simp only
      case ref r off len => rw [S]; (repeat' split) <;> first | rfl | simp_all
      all_goals ((repeat' split) <;> first | rfl | simp_all)
  have hl : loudB op = false := by cases op <;> simp only [readRoot, reduceCtorEq] at hx <;> rfl
  refine ⟨(adet_ext (h := h) (h' := h) ⟨fun _ _ h => h, fun _ _ h => h⟩ hl hd).1, ?_⟩
  rw [key, hd]; rfl
theorem read_live {env : List AV} {h : Heap} {op : AOp} {x : Operand} (hx : readRoot op = some x) {r : AV} {h1 : Heap} (hd : adet env h op = some (r, h1)) : LiveAt h (aeval env x) := by
  cases op <;> simp only [readRoot, Option.some.injEq, reduceCtorEq] at hx
  case load agg n a =>
    subst hx
    simp only [adet] at hd
    cases ha : aeval env a <;> rw [ha] at hd <;> simp only [LiveAt, place] at hd ⊢
    case box b off =>
      cases hb : h.boxes[b]? with
      | none => rw [hb] at hd; simp at hd
      | some cs => exact ⟨cs, rfl⟩
    case rptr rr i off =>
      cases hb : h.rows rr with
      | none => rw [hb] at hd; simp at hd
      | some cs => exact ⟨cs, rfl⟩
    case ref => simp at hd
  case b2s a =>
    subst hx
    simp only [adet] at hd
    cases ha : aeval env a <;> rw [ha] at hd <;> simp only [LiveAt, aels] at hd ⊢
    case ref rr off len =>
      cases hb : h.rows rr with
      | none => rw [hb] at hd; simp at hd
      | some cs => exact ⟨cs, rfl⟩
    all_goals (simp at hd)
  case sl sz a lo hi =>
    subst hx
    simp only [adet] at hd
    cases ha : aeval env a <;> rw [ha] at hd <;> simp only [LiveAt] at hd ⊢
    case ref rr off len =>
      cases hb : h.rows rr with
      | none => rw [hb] at hd; (repeat' split at hd) <;> simp_all
      | some cs => exact ⟨cs, rfl⟩
    all_goals (simp at hd)
  case ia sz a i =>
    subst hx
    simp only [adet] at hd
    cases ha : aeval env a <;> rw [ha] at hd <;> simp only [LiveAt] at hd ⊢
    case ref rr off len =>
      cases hb : h.rows rr with
      | none => rw [hb] at hd; (repeat' split at hd) <;> simp_all
      | some cs => exact ⟨cs, rfl⟩
    all_goals ((repeat' split at hd) <;> simp_all)
/-- What a new list or variable is. -/
theorem float_shape {env : List AV} {h h' : Heap} {op : AOp} {r : AV} (hf : floatB op = true) (hd : adet env h op = some (r, h')) :
    (∃ cs, r = .box h.boxes.length 0 ∧ h' = { h with boxes := h.boxes ++ [cs] }) ∨ ∃ row n, r = .ref h.next 0 n ∧ h' = { h with rows := upd h.rows h.next (some row), next := h.next + 1 } := by
  cases op <;> simp only [floatB, Bool.false_eq_true] at hf
  all_goals simp only [adet] at hd
  case alloc zs => simp only [Option.some.injEq, Prod.mk.injEq] at hd; obtain ⟨rfl, rfl⟩ := hd; exact .inl ⟨_, rfl, rfl⟩
  case box x =>
    split at hd
    · simp only [Option.some.injEq, Prod.mk.injEq] at hd; obtain ⟨rfl, rfl⟩ := hd; exact .inl ⟨_, rfl, rfl⟩
    · cases hd
  case bslice =>
    split at hd
    · simp only [Option.some.injEq, Prod.mk.injEq] at hd; obtain ⟨rfl, rfl⟩ := hd; exact .inr ⟨_, _, rfl, rfl⟩
    · cases hd
  case mks =>
    split at hd
    · split at hd
      · simp only [Option.some.injEq, Prod.mk.injEq] at hd; obtain ⟨rfl, rfl⟩ := hd; exact .inr ⟨_, _, rfl, rfl⟩
      · cases hd
    · cases hd
theorem float_same {env : List AV} {h h' : Heap} {op : AOp} {r : AV} (hf : floatB op = true) (hd : adet env h op = some (r, h')) (hlt : ∀ r row, h.rows r = some row → r < h.next) {a : AV} (ha : LiveAt h a) : SameAt h h' a := by
  rcases float_shape hf hd with ⟨cs, _, rfl⟩ | ⟨row, n, _, rfl⟩
  · cases a <;> simp only [SameAt, LiveAt] at *
    obtain ⟨cs', hb⟩ := ha
    rw [List.getElem?_append_left (List.getElem?_eq_some_iff.1 hb).1]
  · cases a <;> simp only [SameAt, LiveAt] at * <;> (obtain ⟨row', hr⟩ := ha; have := hlt _ _ hr; rw [upd_ne _ _ _ _ (by omega)])

/-! The state behind some of the operations. -/
def puts : List (Option Tmp × AV) → (Nat → Bool) → List AV → List AV
  | [], _, env => env
  | (d, r) :: l, S, env => puts l (fun k => S (k + 1)) (if S 0 = true then aput env d r else env)
theorem aput_len (env : List AV) (d : Option Tmp) (r : AV) : (aput env d r).length = env.length := by cases d <;> simp [aput]
theorem puts_len (l : List (Option Tmp × AV)) : ∀ (S : Nat → Bool) (env : List AV), (puts l S env).length = env.length := by
  induction l with
  | nil => intro S env; rfl
  | cons p l ih => intro S env; simp only [puts, ih]; split <;> simp [aput_len]
theorem aput_ne (env : List AV) (d : Option Tmp) (r : AV) (t : Tmp) (h : d ≠ some t) : (aput env d r)[t]? = env[t]? := by
  cases d with
  | none => rfl
  | some u => simp only [aput]; rw [List.getElem?_set_ne (fun e => h (by rw [e]))]
theorem puts_agree (l : List (Option Tmp × AV)) (t : Tmp) : ∀ (S S' : Nat → Bool) (env env' : List AV), (∀ (k : Nat) (r : AV), l[k]? = some (some t, r) → S k = S' k) → env[t]? = env'[t]? → env.length = env'.length →
    (puts l S env)[t]? = (puts l S' env')[t]? := by
  induction l with
  | nil => intro S S' env env' _ h _; exact h
  | cons p l ih =>
    obtain ⟨d, r⟩ := p
    intro S S' env env' hS he hl
    simp only [puts]
    refine ih _ _ _ _ (fun k r' hk => hS (k + 1) r' (by simpa using hk)) ?_ ?_
    · by_cases hd : d = some t
      · subst hd
        have := hS 0 r rfl
        rw [← this]
        split
        · simp only [aput, List.getElem?_set, hl, he]
        · exact he
      · have e1 : (if S 0 = true then aput env d r else env)[t]? = env[t]? := by split <;> first | exact aput_ne _ _ _ _ hd | rfl
        have e2 : (if S' 0 = true then aput env' d r else env')[t]? = env'[t]? := by split <;> first | exact aput_ne _ _ _ _ hd | rfl
        rw [e1, e2]; exact he
    · split <;> split <;> simp [aput_len, hl]
theorem puts_none (l : List (Option Tmp × AV)) (t : Tmp) : ∀ (S : Nat → Bool) (env : List AV), (∀ (k : Nat) (r : AV), l[k]? ≠ some (some t, r)) → (puts l S env)[t]? = env[t]? := by
  induction l with
  | nil => intro S env _; rfl
  | cons p l ih =>
    obtain ⟨d, r⟩ := p
    intro S env h
    simp only [puts]
    rw [ih _ _ fun k r' hk => h (k + 1) r' (by simpa using hk)]
    have hd : d ≠ some t := fun e => h 0 r (by simp [e])
    split
    · exact aput_ne _ _ _ _ hd
    · rfl
theorem puts_at (l : List (Option Tmp × AV)) (t : Tmp) (r : AV) : ∀ (k : Nat) (S : Nat → Bool) (env : List AV), l[k]? = some (some t, r) → S k = true → (∀ (k' : Nat) (r' : AV), k' ≠ k → l[k']? ≠ some (some t, r')) → t < env.length →
    (puts l S env)[t]? = some r := by
  induction l with
  | nil => intro k S env h; simp at h
  | cons p l ih =>
    obtain ⟨d, r0⟩ := p
    intro k S env hk hS hd ht
    simp only [puts]
    cases k with
    | zero =>
      simp only [List.getElem?_cons_zero, Option.some.injEq, Prod.mk.injEq] at hk
      obtain ⟨rfl, rfl⟩ := hk
      rw [puts_none l t _ _ fun k' r' h' => hd (k' + 1) r' (by omega) (by simpa using h'), if_pos hS]
      simp only [aput, List.getElem?_set_self ht]
    | succ k =>
      refine ih k _ _ (by simpa using hk) hS (fun k' r' hne h' => hd (k' + 1) r' (by omega) (by simpa using h')) ?_
      split <;> simp [aput_len, ht]
/-- One operation more. -/
theorem puts_more (l : List (Option Tmp × AV)) (k : Nat) (d : Option Tmp) (r : AV) (S S' : Nat → Bool) (env : List AV) (hk : l[k]? = some (d, r)) (hS : ∀ j, j ≠ k → S' j = S j) (hS' : S' k = true)
    (hd : ∀ (t : Tmp) (k' : Nat) (r' : AV), d = some t → k' ≠ k → l[k']? ≠ some (some t, r')) : puts l S' env = aput (puts l S env) d r := by
  refine List.ext_getElem? fun t => ?_
  by_cases ht : d = some t
  · subst ht
    by_cases hlt : t < env.length
    · rw [puts_at l t r k S' env hk hS' (fun k' r' h => hd t k' r' rfl h) hlt]
      simp only [aput]
      rw [List.getElem?_set_self (by rw [puts_len]; exact hlt)]
    · rw [List.getElem?_eq_none (by rw [puts_len]; omega), List.getElem?_eq_none (by rw [aput_len, puts_len]; omega)]
  · rw [aput_ne _ _ _ _ ht]
    refine puts_agree l t S' S env env (fun j r' hj => hS j fun e => ht ?_) rfl rfl
    subst e
    rw [hk] at hj
    simp only [Option.some.injEq, Prod.mk.injEq] at hj
    exact hj.1
theorem puts_all (l : List (Option Tmp × AV)) : ∀ (S : Nat → Bool) (env : List AV), (∀ k, k < l.length → S k = true) → puts l S env = l.foldl (fun e p => aput e p.1 p.2) env := by
  induction l with
  | nil => intro S env _; rfl
  | cons p l ih =>
    intro S env hS
    simp only [puts, List.foldl_cons]
    rw [if_pos (hS 0 (by simp))]
    exact ih _ _ fun k hk => hS (k + 1) (by simpa using hk)

/-! What one operation does that is not of the chain. -/
def wstep (P : Program) (env : List AV) (h : Heap) (o : AOper) (r : AV) (h' : Heap) : Prop :=
  (guardB env o.guard = some false ∧ r = .tup [] ∧ h' = h) ∨
  (guardB env o.guard = some true ∧ match o.op with
    | .call f args => h' = h ∧ ∃ ts, FR P f ts r ∧ Seens h (args.map (aeval env)) ts
    | .callv _ _ => False
    | op => adet env h op = some (r, h'))
/-- What the operations put. -/
def dl (r : Nat → AV) : Nat → List XOp → List (Option Tmp × AV)
  | _, [] => []
  | n, o :: l => (o.o.dst, r n) :: dl r (n + 1) l
theorem dl_get {r : Nat → AV} : ∀ (l : List XOp) (n k : Nat), (dl r n l)[k]? = (l[k]?).map fun o => (o.o.dst, r (n + k))
  | [], n, k => by simp [dl]
  | o :: l, n, 0 => by simp [dl]
  | o :: l, n, k + 1 => by
    simp only [dl, List.getElem?_cons_succ]
    rw [dl_get l (n + 1) k]
    have : n + 1 + k = n + (k + 1) := by omega
    rw [this]
theorem dl_len {r : Nat → AV} : ∀ (l : List XOp) (n : Nat), (dl r n l).length = l.length
  | [], n => rfl
  | o :: l, n => by simp [dl, dl_len l]
theorem puts_dl {r r' : Nat → AV} : ∀ (l : List XOp) (n : Nat) (S : Nat → Bool) (env : List AV), (∀ k, S k = true → r (n + k) = r' (n + k)) → puts (dl r n l) S env = puts (dl r' n l) S env
  | [], n, S, env, h => rfl
  | o :: l, n, S, env, h => by
    have key := fun env => puts_dl (r := r) (r' := r') l (n + 1) (fun k => S (k + 1)) env (fun k hk => by
      have h1 := h (k + 1) hk
      rw [show n + (k + 1) = n + 1 + k by omega] at h1
      exact h1)
    simp only [dl, puts]
    by_cases h0 : S 0 = true
    · have h1 := h 0 h0
      rw [Nat.add_zero] at h1
      rw [h1]; exact key _
    · rw [if_neg h0, if_neg h0]; exact key _
theorem aguard_B {env : List AV} {g : Option (Tmp × Bool)} {y n : Prop} (H : aguard env g y n) : (guardB env g = some true ∧ y) ∨ (guardB env g = some false ∧ n) := by
  unfold aguard at H
  unfold guardB
  split at H
  · exact .inl ⟨rfl, H⟩
  · split at H
    · rename_i b hb
      split at H
      · rename_i hc; rw [if_pos hc]; exact .inl ⟨rfl, H⟩
      · rename_i hc; rw [if_neg hc]; exact .inr ⟨rfl, H⟩
    · exact .inr ⟨rfl, H⟩
    · exact False.elim H

end Go.PA
