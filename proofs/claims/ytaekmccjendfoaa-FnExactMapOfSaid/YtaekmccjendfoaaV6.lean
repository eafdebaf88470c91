/- Typed values: operands, guards, places written, rows made and changed. No condition. -/
import Derived.Test.YtaekmccjendfoaaV5
namespace Go.PA
set_option linter.unusedVariables false
set_option linter.unusedSimpArgs false

section
variable {B : Bg} {M : Mp} {env : List AV} {h : Heap} {s : VS}

theorem SRel.at_ (S : SRel B M env h s) (t : Nat) : EVR M h env (s.get t) (env.getD t .bad) := by
  unfold VS.get
  by_cases ht : t < env.length
  · have h1 : s.env[t]? = some (s.env.getD t .bad) := by rw [List.getD_eq_getElem?_getD, List.getElem?_eq_getElem (by rw [S.len]; exact ht)]; rfl
    have h2 : env[t]? = some (env.getD t .bad) := by rw [List.getD_eq_getElem?_getD, List.getElem?_eq_getElem ht]; rfl
    exact S.env t _ _ h1 h2
  · rw [List.getD_eq_getElem?_getD, List.getElem?_eq_none (by rw [S.len]; omega)]
    show EVR M h env .bad _
    simp only [EVR, TVR]

def Met (env : List AV) : Option (Tmp × Bool) → Prop
  | none => True
  | some (t, w) => env.getD t .bad = .bool w

theorem under_ok (S : SRel B M env h s) : ∀ (n : Nat) (a g : Nat × Bool), s.under n a g = true → env.getD g.1 .bad = .bool g.2 → env.getD a.1 .bad = .bool a.2 := by
  intro n
  induction n with
  | zero => intro a g hu; cases hu
  | succ n ih =>
    intro a g hu hg
    simp only [VS.under, Bool.or_eq_true, Bool.and_eq_true, beq_iff_eq] at hu
    rcases hu with ⟨h1, h2⟩ | hu
    · rw [h1, h2]; exact hg
    · have := S.at_ g.1
      split at hu
      · rename_i t w v hv
        rw [hv] at this
        refine ih a (t, w) hu ?_
        by_cases hc : env.getD t .bad = .bool w
        · exact hc
        · have := this.2 hc
          rw [hg] at this; cases this
      · cases hu

theorem ofV1_ok (v : Value) : TVR M h (ofV1 v) (of1 v) := by
  unfold ofV1 of1
  split <;> simp only [TVR]
theorem ofVC_ok (v : Value) : TVR M h (ofVC v) (ofC v) := by
  cases v with
  | agg cs =>
    simp only [ofVC, ofC]
    split
    · simp only [TVR]
      refine ⟨cs.toList.map of1, rfl, TVRs.iff.2 (.of_get (by simp) fun i a b h1 h2 => ?_)⟩
      rw [List.getElem?_map] at h1 h2
      cases hc : cs.toList[i]? with
      | none => rw [hc] at h1; cases h1
      | some x => rw [hc] at h1 h2; simp at h1 h2; subst h1; subst h2; exact ofV1_ok x
    · simp only [TVR]
  | _ => simp only [ofVC, ofC]; exact ofV1_ok _
theorem ofAV_ok (v : AV) : TVR M h (ofAV v) v := by
  cases v <;> simp only [ofAV, TVR]
theorem ofAVs_ok (l : List AV) : TVRs M h (l.map ofAV) l := by
  refine TVRs.iff.2 (.of_get (by simp) fun i a b h1 h2 => ?_)
  rw [List.getElem?_map, h2] at h1
  simp at h1; subst h1; exact ofAV_ok b

theorem SRel.ev (S : SRel B M env h s) {g : Option (Tmp × Bool)} (hg : Met env g) (x : Operand) : TVR M h (s.ev g x) (aeval env x) := by
  cases x with
  | tmp t =>
    have := S.at_ t
    show TVR M h ((s.get t).under s g) (env.getD t .bad)
    cases hv : s.get t with
    | gd t' w' v =>
      rw [hv] at this
      cases g with
      | none => simp only [TV.under, TVR]
      | some g =>
        simp only [TV.under]
        split
        · rename_i hu; exact this.1 (under_ok S 4 (t', w') g hu hg)
        · simp only [TVR]
    | _ => rw [hv] at this; exact this
  | const v => exact ofVC_ok v
  | func f => simp only [VS.ev, aeval, TVR]; exact ⟨[], rfl, by simp only [TVRs]⟩
  | global g => simp only [VS.ev, aeval, TVR]
theorem SRel.evs (S : SRel B M env h s) {g : Option (Tmp × Bool)} (hg : Met env g) (xs : List Operand) : TVRs M h (xs.map (s.ev g)) (xs.map (aeval env)) := by
  refine TVRs.iff.2 (.of_get (by simp) fun i a b h1 h2 => ?_)
  rw [List.getElem?_map] at h1 h2
  cases hx : xs[i]? with
  | none => rw [hx] at h1; cases h1
  | some x => rw [hx] at h1 h2; simp at h1 h2; subst h1; subst h2; exact S.ev hg x

theorem cond_ok (S : SRel B M env h s) : ∀ (n : Nat) (t : Nat) (w b : Bool), s.cond n (t, w) = some b → guardB env (some (t, w)) = some b ∧ (b = true ↔ env.getD t .bad = .bool w) := by
  intro n
  induction n with
  | zero => intro t w b hc; cases hc
  | succ n ih =>
    intro t w b hc
    have E := S.at_ t
    simp only [VS.cond] at hc
    split at hc
    · rename_i b' hv
      rw [hv] at E
      simp only [EVR, TVR] at E
      simp only [Option.some.injEq] at hc
      subst hc
      simp only [guardB, E]
      cases b' <;> cases w <;> simp
    · rename_i t0 w0 b' hv
      rw [hv] at E
      split at hc
      · rename_i c hc0
        obtain ⟨_, h2⟩ := ih t0 w0 c hc0
        simp only [Option.some.injEq] at hc
        subst hc
        cases hcc : c with
        | true =>
          have e := E.1 (h2.1 hcc)
          simp only [TVR] at e
          simp only [guardB, e]
          cases b' <;> cases w <;> simp
        | false =>
          have : env.getD t0 .bad ≠ .bool w0 := fun e => by rw [h2.2 e] at hcc; cases hcc
          have e := E.2 this
          simp only [guardB, e]
          simp
      · cases hc
    · cases hc

/-! A place of the environment is written. -/
theorem aput_getD (env : List AV) (t u : Nat) (a : AV) (h : u ≠ t) : (env.set t a).getD u .bad = env.getD u .bad := by
  rw [List.getD_eq_getElem?_getD, List.getD_eq_getElem?_getD, List.getElem?_set_ne (fun e => h e.symm)]
theorem EVR.chg {env' : List AV} {v : TV} {a : AV} (he : ∀ g w u, v = .gd g w u → env'.getD g .bad = env.getD g .bad) (H : EVR M h env v a) : EVR M h env' v a := by
  cases v with
  | gd g w u => simp only [EVR, he g w u rfl] at *; exact H
  | _ => exact H

theorem SRel.put (S : SRel B M env h s) {d : Option Tmp} {v : TV} {a : AV} {s' : VS} (hp : s.put d v = some s') (hv : TVR M h v a) : SRel B M (aput env d a) h s' := by
  cases d with
  | none => simp only [VS.put, Option.some.injEq] at hp; subst hp; exact S
  | some t =>
    simp only [VS.put] at hp
    split at hp
    · rename_i hg
      simp only [Option.some.injEq] at hp
      subst hp
      simp only [List.all_eq_true, Bool.not_eq_true', beq_eq_false_iff_ne] at hg
      refine { S with len := by simp [aput, S.len], env := fun u x c h1 h2 => ?_, gd := fun u g w x h1 => ?_ }
      · simp only [aput] at h2
        by_cases hu : u = t
        · subst hu
          have hlt : u < env.length := by have := (List.getElem?_eq_some_iff.1 h2).1; simpa using this
          rw [List.getElem?_set_self hlt] at h2
          rw [List.getElem?_set_self (by rw [S.len]; exact hlt)] at h1
          cases h1; cases h2
          exact .of hv
        · rw [List.getElem?_set_ne (fun e => hu e.symm)] at h1 h2
          exact (S.env u x c h1 h2).chg fun g w y e => aput_getD env t g a fun e2 => by
            have := hg _ (S.gd u g w y (by rw [h1, e]))
            exact this e2
      · by_cases hu : u = t
        · subst hu
          rw [List.getElem?_set] at h1
          simp only [if_true] at h1
          split at h1
          · cases h1; simp only [TVR] at hv
          · cases h1
        · rw [List.getElem?_set_ne (fun e => hu e.symm)] at h1
          simp only [List.mem_filter]
          exact ⟨S.gd u g w x h1, by simpa using hu⟩
    · cases hp
theorem SRel.putG (S : SRel B M env h s) {d : Option Tmp} {g : Tmp × Bool} {v : TV} {a : AV} {s' : VS} (hp : s.putG d g v = some s') (hv : env.getD g.1 .bad = .bool g.2 → TVR M h v a) (hn : env.getD g.1 .bad ≠ .bool g.2 → a = .tup []) :
    SRel B M (aput env d a) h s' := by
  cases d with
  | none => simp only [VS.putG, Option.some.injEq] at hp; subst hp; exact S
  | some t =>
    simp only [VS.putG] at hp
    split at hp
    · rename_i hg
      simp only [Option.some.injEq] at hp
      subst hp
      simp only [Bool.and_eq_true, List.all_eq_true, Bool.not_eq_true', beq_eq_false_iff_ne, bne_iff_ne, ne_eq] at hg
      obtain ⟨hgt, hg⟩ := hg
      refine { S with len := by simp [aput, S.len], env := fun u x c h1 h2 => ?_, gd := fun u g' w x h1 => ?_ }
      · simp only [aput] at h2
        by_cases hu : u = t
        · subst hu
          have hlt : u < env.length := by have := (List.getElem?_eq_some_iff.1 h2).1; simpa using this
          rw [List.getElem?_set_self hlt] at h2
          rw [List.getElem?_set_self (by rw [S.len]; exact hlt)] at h1
          cases h1; cases h2
          have e : (aput env (some u) a).getD g.1 .bad = env.getD g.1 .bad := aput_getD env u g.1 a fun e => hgt e.symm
          simp only [EVR, e]
          exact ⟨hv, hn⟩
        · rw [List.getElem?_set_ne (fun e => hu e.symm)] at h1 h2
          exact (S.env u x c h1 h2).chg fun g w y e => aput_getD env t g a fun e2 => by
            have := hg _ (S.gd u g w y (by rw [h1, e]))
            exact this e2
      · by_cases hu : u = t
        · subst hu
          rw [List.getElem?_set] at h1
          simp only [if_true] at h1
          split at h1
          · cases h1; exact List.mem_cons_self
          · cases h1
        · rw [List.getElem?_set_ne (fun e => hu e.symm)] at h1
          refine List.mem_cons_of_mem _ ?_
          simp only [List.mem_filter]
          exact ⟨S.gd u g' w x h1, by simpa using hu⟩
    · cases hp
theorem foldl_bad : ∀ (l : List (Nat × Nat)) (e : List TV) (t : Nat) (v : TV), (l.foldl (fun e p => e.set p.1 .bad) e)[t]? = some v → (v = .bad) ∨ (e[t]? = some v ∧ ∀ g, (t, g) ∉ l)
  | [], e, t, v, h => .inr ⟨h, fun g => by simp⟩
  | p :: l, e, t, v, h => by
    rcases foldl_bad l (e.set p.1 .bad) t v h with h | ⟨h1, h2⟩
    · exact .inl h
    · by_cases hp : p.1 = t
      · subst hp
        rw [List.getElem?_set] at h1
        simp only [if_true] at h1
        split at h1
        · cases h1; exact .inl rfl
        · cases h1
      · rw [List.getElem?_set_ne hp] at h1
        exact .inr ⟨h1, fun g hg => by
          rcases List.mem_cons.1 hg with e | hg
          · exact hp (by rw [← e])
          · exact h2 g hg⟩
theorem foldl_len : ∀ (l : List (Nat × Nat)) (e : List TV), (l.foldl (fun e p => e.set p.1 .bad) e).length = e.length
  | [], e => rfl
  | p :: l, e => by simp [foldl_len l]
theorem SRel.clean (S : SRel B M env h s) : SRel B M env h s.clean := by
  refine { S with len := by simp only [VS.clean, foldl_len]; exact S.len, env := fun t v a h1 h2 => ?_, gd := fun t g w v h1 => ?_ }
  · simp only [VS.clean] at h1
    rcases foldl_bad _ _ _ _ h1 with rfl | ⟨h1, _⟩
    · simp only [EVR, TVR]
    · exact S.env t v a h1 h2
  · simp only [VS.clean] at h1
    rcases foldl_bad _ _ _ _ h1 with h | ⟨h1, h3⟩
    · cases h
    · exact absurd (S.gd t g w v h1) (h3 g)

/-! New rows. -/
def Mp.add (M : Mp) (i : Nat) (a : AV) (F : List Nat) : Mp := { M with α := fun j => if j = i then a else M.α j, N := fun j => if j = i then F else M.N j, lv := fun j => if j = i then true else M.lv j }
theorem fp_add (M : Mp) (i j : Nat) (a : AV) (F : List Nat) : fp (M.add i a F) j = if j = i then rid a ++ F else fp M j := by
  unfold fp Mp.add
  by_cases h : j = i <;> simp [h]
theorem SRel.mono_add (S : SRel B M env h s) {i : Nat} (hi : M.lv i = false) {h' : Heap} (hs : ∀ j x, x ∈ fp M j → h'.rows x = h.rows x) (hz : ∀ x ∈ M.Z, h'.rows x = h.rows x) (a : AV) (F : List Nat) : Mono M h (M.add i a F) h' :=
  ⟨fun b hb => ⟨hb, rfl⟩, fun j hj => by
    have : j ≠ i := fun e => by rw [e, hi] at hj; cases hj
    simp only [Mp.add, this, if_false]
    refine ⟨hj, trivial, fun x hx => ⟨hx, hs j x (List.mem_append_right _ hx)⟩⟩, fun j _ x hx => hs j x (List.mem_append_left _ hx), fun x hx => ⟨hx, hz x hx⟩⟩
theorem SRel.addRow (S : SRel B M env h s) {i : Nat} (hi : M.lv i = false) {h' : Heap} {a : AV} {F : List Nat} {r : VRow} {s' : VS} (hs' : ∀ j x, x ∈ fp M j → h'.rows x = h.rows x) (hsz : ∀ x ∈ M.Z, h'.rows x = h.rows x) (hnz : ∀ x ∈ rid a ++ F, x ∉ M.Z) (hs2 : ∀ x, x < B.h.next → x ∉ B.F → h'.rows x = h.rows x) (hsn : ∀ x ∈ rid a, ∀ j, x ∉ fp M j)
    (hb : h'.boxes = h.boxes) (hn : h.next ≤ h'.next) (hr : RowRel h' M.Z r.nm r.cs r.xs a F) (hnd : (rid a ++ F).Nodup)
    (hF : ∀ x ∈ F, x < h'.next ∧ (∀ j, x ∉ fp M j) ∧ (x ∈ B.F ∨ B.h.next ≤ x)) (ha : ∀ x ∈ rid a, x < h'.next ∧ (x ∈ B.F ∨ B.h.next ≤ x))
    (he : s'.env = s.env) (hbx : s'.boxes = s.boxes) (hg : s'.gds = s.gds) (hpn : s'.pn = s.pn) (hrow : ∀ j, s'.slot? j = if j = i then some (.row r) else s.slot? j) : SRel B (M.add i a F) env h' s' := by
  have D := S.mono_add hi hs' hsz a F
  have hall : ∀ x ∈ rid a ++ F, ∀ j, x ∉ fp M j := fun x hx => by
    rcases List.mem_append.1 hx with hx | hx
    · exact hsn x hx
    · exact (hF x hx).2.1
  refine ⟨by rw [he]; exact S.len, fun t v c h1 h2 => ?_, by rw [hbx]; exact S.nb, fun b cs hb' => ?_, S.binj, fun b hb' => ?_, fun j => ?_, fun j r' hr' => ?_, fun j hj => ?_, fun j x hx => ?_, fun j => ?_, fun j k x h1 h2 => ?_, fun t g w v h1 => ?_, fun j x hx => ?_, fun x h1 h2 => ?_, fun b hb' => ?_, Nat.le_trans S.nx hn, by rw [hb]; exact S.bx, S.hand, fun x hx => Nat.lt_of_lt_of_le (S.zlt x hx) hn, fun x hx j hj => ?_, S.zown, S.bz, by rw [hpn]; exact S.pn, fun j a' hj => ?_⟩
  · rw [he] at h1
    exact (S.env t v c h1 h2).mono D
  · have : s.box? b = some cs := by rw [VS.box?_eq] at *; rw [← hbx]; exact hb'
    obtain ⟨as, h1, h2⟩ := S.box b cs this
    exact ⟨as, by rw [hb]; exact h1, h2.mono D⟩
  · rw [hb]; exact S.bown b hb'
  · rw [hrow]
    simp only [Mp.add]
    split
    · rfl
    · exact S.lv j
  · rw [hrow] at hr'
    simp only [Mp.add]
    split at hr'
    · rename_i hj
      simp only [hj, if_true]
      cases hr'
      exact hr
    · rename_i hj
      simp only [hj, if_false]
      exact (S.slot j r' hr').heap (fun x hx => ⟨hx, hsz x hx⟩) fun x hx => hs' j x hx
  · simp only [Mp.add] at hj ⊢
    split at hj
    · cases hj
    · rename_i hji
      simp only [hji, if_false]
      exact S.dead j hj
  · rw [fp_add] at hx
    split at hx
    · rcases List.mem_append.1 hx with hx | hx
      · exact (ha x hx).1
      · exact (hF x hx).1
    · exact Nat.lt_of_lt_of_le (S.lt j x hx) hn
  · rw [fp_add]
    split
    · exact hnd
    · exact S.nd j
  · rw [fp_add] at h1 h2
    split at h1
    · rename_i hj
      split at h2
      · rename_i hk; rw [hj, hk]
      · exact absurd h2 (hall x h1 k)
    · split at h2
      · exact absurd h1 (hall x h2 j)
      · exact S.dj j k x h1 h2
  · rw [hg]
    rw [he] at h1
    exact S.gd t g w v h1
  · rw [fp_add] at hx
    split at hx
    · rcases List.mem_append.1 hx with hx | hx
      · exact (ha x hx).2
      · exact (hF x hx).2.2
    · exact S.own j x hx
  · rw [← S.fr x h1 h2]
    exact hs2 x h1 h2
  · rw [hb]; exact S.frb b hb'
  · rw [fp_add] at hj
    split at hj
    · exact hnz x hj hx
    · exact S.zdj x hx j hj
  · obtain ⟨h1, h2⟩ := S.pin j a' hj
    have hji : j ≠ i := fun e => by rw [e, hi] at h1; cases h1
    simp only [Mp.add, hji, if_false]
    exact ⟨h1, h2⟩

theorem firstNone_le {α : Type} : ∀ (l : List (Option α)) (n : Nat), n ≤ firstNone n l ∧ firstNone n l ≤ n + l.length
  | [], n => by simp [firstNone]
  | none :: l, n => by simp [firstNone]
  | some a :: l, n => by
    have := firstNone_le l (n + 1)
    simp only [firstNone, List.length_cons]; omega
theorem firstNone_get {α : Type} : ∀ (l : List (Option α)) (n : Nat), l[firstNone n l - n]? = none ∨ l[firstNone n l - n]? = some none
  | [], n => by simp [firstNone]
  | none :: l, n => by simp [firstNone]
  | some a :: l, n => by
    have h1 := firstNone_le l (n + 1)
    have := firstNone_get l (n + 1)
    simp only [firstNone]
    rw [show firstNone (n + 1) l - n = (firstNone (n + 1) l - (n + 1)) + 1 by omega]
    simpa using this
theorem putAt_get {α : Type} : ∀ (l : List (Option α)) (n : Nat) (a : α) (j : Nat), n ≤ l.length → (putAt l n a)[j]? = if j = n then some (some a) else l[j]?
  | [], n, a, j, h => by
    have : n = 0 := by simpa using h
    subst this
    cases j <;> simp [putAt]
  | x :: l, 0, a, j, _ => by cases j <;> simp [putAt]
  | x :: l, n + 1, a, 0, _ => by simp [putAt]
  | x :: l, n + 1, a, j + 1, h => by simp [putAt, putAt_get l n a j (by simpa using h)]
theorem newRow_slot? (s : VS) (r : VRow) : (s.slot? (s.newRow r).1) = none ∧ ∀ j, (s.newRow r).2.slot? j = if j = (s.newRow r).1 then some (.row r) else s.slot? j := by
  have h1 := firstNone_le s.rows 0
  refine ⟨?_, fun j => ?_⟩
  · have := firstNone_get s.rows 0
    simp only [Nat.sub_zero] at this
    unfold VS.slot? VS.newRow
    rcases this with e | e <;> rw [e]
  · unfold VS.slot? VS.newRow
    simp only
    rw [putAt_get _ _ _ _ (by omega)]
    split <;> rename_i hj
    · split at hj <;> simp_all
    · split at hj <;> simp_all
theorem SRel.not_lv (S : SRel B M env h s) {i : Nat} (hi : s.slot? i = none) : M.lv i = false := by rw [S.lv i, hi]; rfl
end
end Go.PA
