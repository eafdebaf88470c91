/- Typed values: every loop has a word: what it comes to, if it comes to an end. No condition. -/
import Derived.Test.YtaekmccjendfoaaV19I
namespace Go.PA
set_option linter.unusedVariables false
set_option linter.unusedSimpArgs false

/-- A step that goes on in one place at most. -/
def Lin {X O : Type} (T : (X → Option O) → Option O) : Prop := ∀ f out, T f = some out → (∀ f', T f' = some out) ∨ ∃ y, f y = some out ∧ ∀ f', f' y = some out → T f' = some out
section
variable {X O ρ : Type}
theorem Lin.const (x : Option O) : Lin (fun _ : X → Option O => x) := fun _ _ h => .inl fun _ => h
theorem Lin.at_ (y : X) : Lin (fun f : X → Option O => f y) := fun _ _ h => .inr ⟨y, h, fun _ h => h⟩
theorem Lin.chk {T : (X → Option O) → Option O} (H : Lin T) (b : Bool) : Lin (fun f => Go.PA.chk b (T f)) := by
  cases b with
  | true => exact H
  | false => exact .const none
theorem Lin.chks {T : (X → Option O) → Option O} (H : Lin T) : ∀ l : List Bool, Lin (fun f => Go.PA.chks l (T f))
  | [] => H
  | b :: l => (Lin.chks H l).chk b
theorem Lin.br {T U : (X → Option O) → Option O} (H : Lin T) (H' : Lin U) (b : Bool) : Lin (fun f => Go.PA.br b (T f) (U f)) := by
  cases b with
  | true => exact H
  | false => exact H'
theorem Lin.bind {α : Type} (o : Option α) {T : α → (X → Option O) → Option O} (H : ∀ a, Lin (T a)) : Lin (fun f => o.bind fun a => T a f) := by
  cases o with
  | none => exact .const none
  | some a => exact H a

variable {C : Ctrs} {an : List (Nat × An)}
theorem vcall_lin (s : VS) (c : Ctr) (rows : Bool) (dr : List Nat) (us : List Tmp) (args : List TV) {K : (X → Option O) → TV → VS → Option O} (HK : ∀ v s, Lin (fun f => K f v s)) : Lin (fun f => vcall s c rows dr us args (K f)) := by
  unfold vcall
  split
  · split
    · unfold vcallF
      split
      · split
        · split
          · exact .bind _ fun a => HK _ _
          · exact .const none
        · exact .const none
      · exact .const none
    · exact .const none
  · split
    · unfold vcallI
      split
      · split
        · split
          · refine .bind _ fun a => ?_
            split
            split
            · exact HK _ _
            · exact .const none
          · exact .const none
        · exact .const none
      · exact .const none
    · unfold vcallO
      split
      · split
        · split
          · split
            · exact .bind _ fun a => HK _ _
            · exact .const none
          · exact .const none
        · exact .const none
      · exact .const none
theorem vcallG_lin (s : VS) (c : Ctr) (b : Bool) (args : List TV) {K : (X → Option O) → TV → Option O} (HK : ∀ v, Lin (fun f => K f v)) : Lin (fun f => vcallG s c b args (K f)) := by
  unfold vcallG
  split
  · split
    · split
      · exact Lin.chk (HK _) _
      · exact .const none
    · exact .const none
  · exact .const none
theorem vstep_lin (m : VM) (s : VS) (o : AOper) {K : (X → Option O) → VS → Option O} (HK : ∀ s, Lin (fun f => K f s)) : Lin (fun f => vstep C an m s o (K f)) := by
  unfold vstep
  split
  · split
    · split
      · split
        · refine vcall_lin _ _ _ _ _ _ fun v s => ?_
          split
          · exact HK _
          · exact .const none
        · exact .const none
      · exact .const none
    · split
      · split
        · split
          · exact Lin.chks (HK _) _
          · exact .const none
        · exact .const none
      · exact .const none
  · split
    · exact .const none
    · split
      · split
        · refine vcallG_lin _ _ _ _ fun v => ?_
          split
          · exact HK _
          · exact .const none
        · exact .const none
      · split
        · split
          · split
            · exact Lin.chks (HK _) _
            · exact .const none
          · exact .const none
        · exact .const none
theorem vops_lin (m : VM) : ∀ (l : List AOper) (s : VS) {K : (X → Option O) → VS → Option O} (_ : ∀ s, Lin (fun f => K f s)), Lin (fun f => vops C an m l s (K f))
  | [], s, K, HK => HK _
  | o :: l, s, K, HK => vstep_lin (K := fun f s1 => vops C an m l s1 (K f)) m s o fun s1 => vops_lin m l s1 HK
theorem vxops_lin (cf : Bool) : ∀ (l : List XOp) (s : VS) {K : (X → Option O) → VS → Option O} (_ : ∀ s, Lin (fun f => K f s)), Lin (fun f => vxops C an cf l s (K f))
  | [], s, K, HK => HK _
  | o :: l, s, K, HK => by
    simp only [vxops]
    split
    · exact vstep_lin (K := fun f s1 => vxops C an cf l s1 (K f)) _ s o.o fun s1 => vxops_lin cf l s1 HK
    · exact .const none
theorem outTo_lin : ∀ (l : List (Option Nat × Skel)) (o : Outs l) {E : (X → Option O) → Nat → VS → Option O} {R : (X → Option O) → VS → Option O} (_ : ∀ j s, Lin (fun f => E f j s)) (_ : ∀ s, Lin (fun f => R f s)), Lin (fun f => outTo (E f) (R f) l o)
  | [], o, E, R, HE, HR => nomatch o
  | (e, k) :: l, o, E, R, HE, HR => by
    cases o with
    | inl d => cases e with
      | some j => exact Lin.chks (HE _ _) _
      | none => exact Lin.chks (HR _) _
    | inr y => exact outTo_lin l y HE HR
theorem vcode_lin (c : ACode) : ∀ (L : List LCtr) (s : VS) {K : (X → Option O) → VS → Option O} {E : (X → Option O) → Nat → VS → Option O} {R : (X → Option O) → VS → Option O}, (∀ s, Lin (fun f => K f s)) → (∀ j s, Lin (fun f => E f j s)) → (∀ s, Lin (fun f => R f s)) →
    Lin (fun f => vcode C an L c s (K f) (E f) (R f)) := by
  induction c with
  | skip => intro L s K E R HK HE HR; exact HK s
  | ops l => intro L s K E R HK HE HR; exact vops_lin _ _ _ HK
  | dops l => intro L s K E R HK HE HR; exact .const none
  | xops cf l => intro L s K E R HK HE HR; exact vxops_lin _ _ _ HK
  | seq a b iha ihb => intro L s K E R HK HE HR; exact iha _ _ (K := fun f s1 => vcode C an (L.drop a.loops) b s1 (K f) (E f) (R f)) (fun s1 => ihb _ _ HK HE HR) HE HR
  | cond c a b iha ihb =>
    intro L s K E R HK HE HR
    show Lin (fun f => match s.ev none c with
      | .bool t => Go.PA.br t (vcode C an (L.take a.loops) a s (K f) (E f) (R f)) (vcode C an (L.drop a.loops) b s (K f) (E f) (R f))
      | _ => none)
    split
    · exact Lin.br (iha _ _ HK HE HR) (ihb _ _ HK HE HR) _
    · exact .const none
  | block id a iha =>
    intro L s K E R HK HE HR
    refine iha _ _ (E := fun f j s1 => if j = id then K f s1 else E f j s1) HK (fun j s => ?_) HR
    by_cases hj : j = id
    · simp only [hj, if_true]; exact HK s
    · simp only [hj, if_false]; exact HE j s
  | loop a iha =>
    intro L s K E R HK HE HR
    cases L with
    | nil => exact .const none
    | cons lc Ls =>
      show Lin (fun f => match lc.sk.ext s with
        | some x => (lc.fn x).bind fun out => outTo (E f) (R f) lc.outs out
        | none => none)
      split
      · exact .bind _ fun o => outTo_lin _ _ HE HR
      · exact .const none
  | exit id => intro L s K E R HK HE HR; exact HE _ _
  | ret => intro L s K E R HK HE HR; exact HR _
theorem vround_lin (L : List LCtr) (a : ACode) (sk : Skel) (outs : List (Option Nat × Skel)) (x : Ty.Ds sk.ts) : Lin (vround C an L a sk outs x) := by
  refine vcode_lin (K := fun f s => match sk.ext s with
    | some y => f y
    | none => none) (E := fun _ j s => outOf (some j) s outs) (R := fun _ s => outOf none s outs) a L _ (fun s => ?_) (fun _ _ => .const _) (fun _ => .const _)
  split
  · exact .at_ _
  · exact .const none
end

/-! What a step comes to at last. -/
section
variable {X O : Type}
def iterN (B : X → (X → Option O) → Option O) : Nat → X → Option O
  | 0, _ => none
  | n + 1, x => B x (iterN B n)
open Classical in
/-- What a loop comes to, if it comes to an end. -/
noncomputable def lfp (B : X → (X → Option O) → Option O) (x : X) : Option O := if h : ∃ n o, iterN B n x = some o then iterN B (Classical.choose h) x else none
variable {B : X → (X → Option O) → Option O}
theorem iterN_more (HB : ∀ x, Lin (B x)) : ∀ (n : Nat) {x : X} {o : O}, iterN B n x = some o → iterN B (n + 1) x = some o
  | 0, x, o, h => by cases h
  | n + 1, x, o, h => by
    rcases HB x _ _ h with h1 | ⟨y, h1, h2⟩
    · exact h1 _
    · exact h2 _ (iterN_more HB n h1)
theorem iterN_le (HB : ∀ x, Lin (B x)) {n k : Nat} (hk : n ≤ k) {x : X} {o : O} (h : iterN B n x = some o) : iterN B k x = some o := by
  induction hk with
  | refl => exact h
  | step _ ih => exact iterN_more HB _ ih
theorem lfp_of (HB : ∀ x, Lin (B x)) {n : Nat} {x : X} {o : O} (h : iterN B n x = some o) : lfp B x = some o := by
  have hx : ∃ n o, iterN B n x = some o := ⟨n, o, h⟩
  unfold lfp
  rw [dif_pos hx]
  obtain ⟨o', ho'⟩ := Classical.choose_spec hx
  have h1 := iterN_le HB (Nat.le_max_left n (Classical.choose hx)) h
  have h2 := iterN_le HB (Nat.le_max_right n (Classical.choose hx)) ho'
  rw [ho', ← h2, h1]
theorem lfp_some {x : X} {o : O} (h : lfp B x = some o) : ∃ n, iterN B n x = some o := by
  unfold lfp at h
  split at h
  · exact ⟨_, h⟩
  · cases h
theorem lfp_eq (HB : ∀ x, Lin (B x)) (x : X) : lfp B x = B x (lfp B) := by
  have h1 : ∀ o, lfp B x = some o → B x (lfp B) = some o := fun o h => by
    obtain ⟨n, hn⟩ := lfp_some h
    cases n with
    | zero => cases hn
    | succ n =>
      rcases HB x _ _ hn with h1 | ⟨y, h1, h2⟩
      · exact h1 _
      · exact h2 _ (lfp_of HB h1)
  have h2 : ∀ o, B x (lfp B) = some o → lfp B x = some o := fun o h => by
    rcases HB x _ _ h with h1 | ⟨y, h1, h2⟩
    · exact lfp_of HB (n := 1) (h1 _)
    · obtain ⟨n, hn⟩ := lfp_some h1
      exact lfp_of HB (n := n + 1) (h2 _ hn)
  cases h3 : lfp B x with
  | some o => exact (h1 o h3).symm
  | none =>
    cases h4 : B x (lfp B) with
    | some o => rw [h2 o h4] at h3; cases h3
    | none => rfl
/-- How many rounds. -/
theorem rounds (HB : ∀ x, Lin (B x)) : ∃ m : X → Nat, ∀ x o, lfp B x = some o → B x (fun y => if m y < m x then lfp B y else none) = some o := by
  have least : ∀ x, ∃ m, (∀ o, lfp B x = some o → iterN B m x = some o) ∧ ∀ k o, iterN B k x = some o → m ≤ k := fun x => by
    by_cases hx : ∃ n, ∃ o, iterN B n x = some o
    · obtain ⟨n, ho⟩ := hx
      induction n using Nat.strongRecOn with
      | ind n ih =>
        by_cases hs : ∃ k, k < n ∧ ∃ o, iterN B k x = some o
        · obtain ⟨k, hk, ho'⟩ := hs
          exact ih k hk ho'
        · obtain ⟨o, ho⟩ := ho
          refine ⟨n, fun o' h' => ?_, fun k o' hk => ?_⟩
          · rw [lfp_of HB ho] at h'
            cases h'; exact ho
          · by_cases hkn : k < n
            · exact absurd ⟨k, hkn, o', hk⟩ hs
            · omega
    · exact ⟨0, fun o h => absurd ((lfp_some h).imp fun n hn => ⟨o, hn⟩) hx, fun k o hk => absurd ⟨k, o, hk⟩ hx⟩
  obtain ⟨m, hm⟩ : ∃ m : X → Nat, ∀ x, (∀ o, lfp B x = some o → iterN B (m x) x = some o) ∧ ∀ k o, iterN B k x = some o → m x ≤ k := ⟨fun x => Classical.choose (least x), fun x => Classical.choose_spec (least x)⟩
  refine ⟨m, fun x o h => ?_⟩
  have hn := (hm x).1 o h
  cases hmx : m x with
  | zero => rw [hmx] at hn; cases hn
  | succ n =>
    rw [hmx] at hn
    rcases HB x _ _ hn with g1 | ⟨y, g1, g2⟩
    · exact g1 _
    · refine g2 _ ?_
      have := (hm y).2 n o g1
      rw [if_pos (by omega)]
      exact lfp_of HB g1
end

/-! The loops of a piece of code, each with its word. -/
section
variable (C : Ctrs) (an : List (Nat × An))
def Skel.none : Skel := ⟨[], [], [], 0⟩
noncomputable def mkL : List (Skel × List (Option Nat × Skel)) → ACode → List LCtr
  | S, .seq a b => mkL (S.take a.loops) a ++ mkL (S.drop a.loops) b
  | S, .cond _ a b => mkL (S.take a.loops) a ++ mkL (S.drop a.loops) b
  | S, .block _ a => mkL S a
  | S, .loop a => match S with
    | (sk, outs) :: rest => ⟨sk, outs, lfp (vround C an (mkL rest a) a sk outs)⟩ :: mkL rest a
    | [] => ⟨Skel.none, [], fun _ => Option.none⟩ :: mkL [] a
  | _, _ => []
theorem mkL_len (c : ACode) : ∀ S, (mkL C an S c).length = c.loops := by
  induction c with
  | seq a b iha ihb => intro S; simp [mkL, ACode.loops, iha, ihb]
  | cond c a b iha ihb => intro S; simp [mkL, ACode.loops, iha, ihb]
  | block id a iha => intro S; simp [mkL, ACode.loops, iha]
  | loop a iha => intro S; cases S <;> simp [mkL, ACode.loops, iha]
  | _ => intro S; simp [mkL, ACode.loops]
theorem mkL_ok (c : ACode) : ∀ S, LoopsOk C an (mkL C an S c) c := by
  induction c with
  | seq a b iha ihb =>
    intro S
    simp only [mkL, LoopsOk]
    rw [List.take_left' (mkL_len C an a _), List.drop_left' (mkL_len C an a _)]
    exact ⟨iha _, ihb _⟩
  | cond c a b iha ihb =>
    intro S
    simp only [mkL, LoopsOk]
    rw [List.take_left' (mkL_len C an a _), List.drop_left' (mkL_len C an a _)]
    exact ⟨iha _, ihb _⟩
  | block id a iha => intro S; exact iha S
  | loop a iha =>
    intro S
    cases S with
    | nil =>
      simp only [mkL, LoopsOk]
      exact ⟨⟨fun _ => 0, fun x out h => by cases h⟩, iha _⟩
    | cons p rest =>
      simp only [mkL, LoopsOk]
      exact ⟨rounds fun x => vround_lin _ _ _ _ _, iha _⟩
  | _ => intro S; simp only [LoopsOk]
/-- What a function does, by its typed body. -/
noncomputable def FN (S : List (Skel × List (Option Nat × Skel))) (ac : ACode) (ars : List AR) (k : Nat) (io : Bool) (na : Nat) (ps rs : List PK) (d : Ty.Ds (ps.flatMap (·.cs))) : Option (Ty.Ds (rs.flatMap (·.cs))) := vfun C an (mkL C an S ac) ac ars k io na ps rs d
end

/-! Contracts, one behind the other. -/
def tabC : List (FuncId × Ctr) → Ctrs
  | [], _ => none
  | (g, c) :: l, f => match Nat.beq g f with
    | true => some c
    | false => tabC l f
def AllC (P : Program) (l : List (FuncId × Ctr)) : Prop := ∀ f c, tabC l f = some c → CtrOk P f c
theorem AllC.nil (P : Program) : AllC P [] := fun f c h => by cases h
theorem AllC.cons {P : Program} {g : FuncId} {c : Ctr} {l : List (FuncId × Ctr)} (h : CtrOk P g c) (H : AllC P l) : AllC P ((g, c) :: l) := fun f c' hf => by
  simp only [tabC] at hf
  cases hb : Nat.beq g f with
  | true =>
    rw [hb] at hf
    have := Nat.eq_of_beq_eq_true hb
    subst this
    cases hf
    exact h
  | false =>
    rw [hb] at hf
    exact H f c' hf
theorem AllC.fresh {P : Program} {l : List (FuncId × Ctr)} (H : AllC P l) {an : List (Nat × An)} {S : List (Skel × List (Option Nat × Skel))} {f : FuncId} {ac : ACode} {ars : List AR} {k : Nat} (hg : Good P (f, ac, ars, k)) {ps rs : List PK}
    (hw : (decide (ps.length ≤ k) && decide (Ty.deps (rs.flatMap (·.cs)) ≤ 7) && rs.all (fun p => p.agg || p.cs.length == 1) && (PK.owns ps).all (fun o => o.isNone) && ((PK.owns rs).all (fun o => o == some .S)) && (PK.owns rs).length == (rs.flatMap (·.cs)).length && ps.all (fun p => !p.ptr) && rs.all (fun p => !p.ptr)) = true) :
    AllC P ((f, ⟨true, false, rs.length, ps, rs, FN (tabC l) an S ac ars k false rs.length ps rs⟩) :: l) := H.cons (CtrOk.fresh_of H hg (mkL_ok _ _ ac S) hw fun _ _ h => h)
def LBigB (n : Nat) : List LCtr → Bool
  | [] => true
  | lc :: L => Nat.ble n lc.sk.boxes.length && (lc.outs.all (fun o => Nat.ble n o.2.boxes.length) && LBigB n L)
theorem LBigB_ok {n : Nat} : ∀ {L : List LCtr}, LBigB n L = true → LBig n L
  | [], _ => fun lc h => by simp at h
  | lc :: L, h => by
    simp only [LBigB, Bool.and_eq_true, List.all_eq_true] at h
    intro lc' hl
    rcases List.mem_cons.1 hl with rfl | hl
    · exact ⟨Nat.le_of_ble_eq_true h.1, fun o ho => Nat.le_of_ble_eq_true (h.2.1 o ho)⟩
    · exact LBigB_ok h.2.2 lc' hl
theorem AllC.own {P : Program} {l : List (FuncId × Ctr)} (H : AllC P l) {an : List (Nat × An)} {S : List (Skel × List (Option Nat × Skel))} {f : FuncId} {ac : ACode} {ars : List AR} {k na : Nat} (hg : Good P (f, ac, ars, k)) {ps rs : List PK}
    (hk : (Nat.ble ps.length k && LBigB (nptr ps) (mkL (tabC l) an S ac)) = true) :
    AllC P ((f, ⟨false, false, na, ps, rs, FN (tabC l) an S ac ars k false na ps rs⟩) :: l) := by
  rw [Bool.and_eq_true] at hk
  exact H.cons (CtrOk.own_of H hg (mkL_ok _ _ ac S) (LBigB_ok hk.2) hk.1 fun _ _ h => h)
def ioB (k na : Nat) (ps rs : List PK) : Bool := Nat.ble ps.length k && (!(hasSl ((rs.take na).flatMap (·.cs))) && (Ty.eqs ((rs.drop na).flatMap (·.cs)) (ps.flatMap (·.cs)) && ((PK.owns ps).all (fun o => o == some .S) && (Nat.beq (PK.owns ps).length (ps.flatMap (·.cs)).length && ps.all (fun p => !p.ptr)))))
theorem AllC.io {P : Program} {l : List (FuncId × Ctr)} (H : AllC P l) {an : List (Nat × An)} {S : List (Skel × List (Option Nat × Skel))} {f : FuncId} {ac : ACode} {ars : List AR} {k na : Nat} (hg : Good P (f, ac, ars, k)) {ps rs : List PK}
    (hw : ioB k na ps rs = true) : AllC P ((f, ⟨false, true, na, ps, rs, FN (tabC l) an S ac ars k true na ps rs⟩) :: l) := by
  simp only [ioB, Bool.and_eq_true, Bool.not_eq_true', List.all_eq_true, beq_iff_eq] at hw
  obtain ⟨w1, w2, w3, w4, w5, w6⟩ := hw
  have w5 := Nat.eq_of_beq_eq_true w5
  refine H.cons (CtrOk.io_of H hg (mkL_ok _ _ ac S) (Nat.le_of_ble_eq_true w1) w2 (Ty.eqs_ok _ _ w3) ?_ (fun p hp => by simpa using w6 p hp) fun _ _ h => h)
  refine List.ext_getElem? fun i => ?_
  simp only [strict, List.getElem?_map]
  by_cases hi : i < (PK.owns ps).length
  · rw [List.getElem?_eq_getElem hi, List.getElem?_eq_getElem (by omega), Option.map_some, w4 _ (List.getElem_mem hi)]
  · rw [List.getElem?_eq_none (by omega), List.getElem?_eq_none (by omega)]; rfl
end Go.PA
