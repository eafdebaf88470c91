/- The quiet operations: what they yield on the machine is what the plain operation yields. No condition. -/
import Derived.Test.YtaekmccjendfoaaK4
namespace Go.PA

/-- What was there is there as it was. -/
def Qw (w w2 : World) : Prop := ∀ b, b < w.heap.size → w2.heap[b]? = w.heap[b]?
theorem Qw.refl (w : World) : Qw w w := fun _ _ => rfl
theorem Qw.cell {w w2 : World} (h : Qw w w2) {a : Addr} {v : Value} (hc : w.cell? a = some v) : w2.cell? a = some v := by
  rw [cell_same (h _ (block_lt hc))]; exact hc

structure ERel (w : World) (m : Maps) (h : Heap) (a : Act) (env : List AV) : Prop where
  defers : a.defers = []
  size : a.tmps.size = env.length
  at_ : ∀ (t : Nat) v c, a.tmps[t]? = some v → env[t]? = some c → VR w m h v c

theorem of1_rel (w : World) (m : Maps) (h : Heap) (v : Value) : VR w m h v (of1 v) := by
  unfold of1
  split
  · exact .int _ _
  · exact .bool _
  · exact .str _
  · exact .nils
  · exact .bad _
theorem ofC_rel (w : World) (m : Maps) (h : Heap) (v : Value) : VR w m h v (ofC v) := by
  unfold ofC
  split
  · rename_i cs
    split
    · rename_i hc
      refine .agg cs _ (by simp) (fun j v hj => ?_) (fun j v c h1 h2 => ?_)
      · exact (Array.all_eq_true_iff_forall_mem.1 hc) v (Array.mem_of_getElem? hj)
      · rw [List.getElem?_map, Array.getElem?_toList, h1] at h2
        simp only [Option.map_some, Option.some.injEq] at h2
        subst h2
        exact of1_rel w m h v
    · exact .bad _
  · exact of1_rel w m h v

theorem ERel.ev {w : World} {m : Maps} {h : Heap} {a : Act} {env : List AV} (E : ERel w m h a env) (x : Operand) : VR w m h (a.eval x) (aeval env x) := by
  cases x with
  | tmp t =>
    show VR w m h (a.tmps.getD t undef) (env.getD t .bad)
    by_cases ht : t < env.length
    · have h1 : a.tmps[t]? = some (a.tmps.getD t undef) := by
        rw [Array.getD_eq_getD_getElem?, Array.getElem?_eq_getElem (by rw [E.size]; exact ht)]; rfl
      have h2 : env[t]? = some (env.getD t .bad) := by rw [List.getD_eq_getElem?_getD, List.getElem?_eq_getElem ht]; rfl
      exact E.at_ t _ _ h1 h2
    · have h2 : env.getD t .bad = .bad := by rw [List.getD_eq_getElem?_getD, List.getElem?_eq_none (Nat.not_lt.mp ht)]; rfl
      rw [h2]; exact .bad _
  | const v => exact ofC_rel w m h v
  | global g => exact .bad _
  | func f => exact .fn f #[] [] rfl (fun j v c h1 _ => by simp at h1)

theorem ERel.put {w : World} {m : Maps} {h : Heap} {a : Act} {env : List AV} (E : ERel w m h a env) (d : Option Tmp) {v : Value} {r : AV} (hv : VR w m h v r) : ERel w m h (a.put d v) (aput env d r) := by
  cases d with
  | none => exact E
  | some t =>
    refine ⟨E.defers, by simp [Act.put, aput, E.size], fun x v' c h1 h2 => ?_⟩
    simp only [Act.put, aput] at h1 h2
    by_cases hx : x = t
    · subst hx
      have hlt : x < env.length := by
        have := (List.getElem?_eq_some_iff.1 h2).1; simpa using this
      rw [List.getElem?_set_self hlt] at h2
      rw [Array.getElem?_setIfInBounds_self_of_lt (by rw [E.size]; exact hlt)] at h1
      cases h1; cases h2; exact hv
    · rw [List.getElem?_set_ne (fun e => hx e.symm)] at h2
      rw [Array.getElem?_setIfInBounds_ne (fun e => hx e.symm)] at h1
      exact E.at_ x _ _ h1 h2

theorem ERel.turn {w w' : World} {m m' : Maps} {h h' : Heap} {a : Act} {env : List AV} (T : Turn w m h w' m' h') (E : ERel w m h a env) : ERel w' m' h' a env :=
  ⟨E.defers, E.size, fun t v c h1 h2 => (E.at_ t v c h1 h2).turn T⟩

theorem cells_rel {w : World} {m : Maps} {h : Heap} {v : Value} {a : AV} {cs : List AV} (hv : VR w m h v a) (hc : acells a = some cs) :
    v.cells.size = cs.length ∧ (∀ (j : Nat) x, v.cells[j]? = some x → cellV x = true) ∧ ∀ (j : Nat) x c, v.cells[j]? = some x → cs[j]? = some c → VR w m h x c := by
  have one : ∀ (x : Value) (b : AV), VR w m h x b → cellV x = true → x.cells = #[x] → cs = [b] → x.cells.size = cs.length ∧ (∀ (j : Nat) y, x.cells[j]? = some y → cellV y = true) ∧ ∀ (j : Nat) y c, x.cells[j]? = some y → cs[j]? = some c → VR w m h y c := by
    intro x b hx hcx he hb
    subst hb
    rw [he]
    refine ⟨rfl, fun j y hj => ?_, fun j y c hj hc => ?_⟩
    · cases j with
      | zero => simp at hj; subst hj; exact hcx
      | succ j => simp at hj
    · cases j with
      | zero => simp at hj hc; subst hj; subst hc; exact hx
      | succ j => simp at hj
  cases hv with
  | agg vs cs' hs hv hr => simp only [acells, Option.some.injEq] at hc; subst hc; exact ⟨hs, hv, hr⟩
  | bad v => simp [acells] at hc
  | tup vs cs' hs hr => simp [acells] at hc
  | int k n => simp only [acells, Option.some.injEq] at hc; exact one _ _ (.int k n) rfl rfl hc.symm
  | bool b => simp only [acells, Option.some.injEq] at hc; exact one _ _ (.bool b) rfl rfl hc.symm
  | str s => simp only [acells, Option.some.injEq] at hc; exact one _ _ (.str s) rfl rfl hc.symm
  | nils => simp only [acells, Option.some.injEq] at hc; exact one _ _ .nils rfl rfl hc.symm
  | lit f a cap sz xs vs h1 h1' h2 h3 h4 h5 => simp only [acells, Option.some.injEq] at hc; exact one _ _ (.lit f a cap sz xs vs h1 h1' h2 h3 h4 h5) rfl rfl hc.symm
  | ref r off len cap h1 hg h2 h3 => simp only [acells, Option.some.injEq] at hc; exact one _ _ (.ref r off len cap h1 hg h2 h3) rfl rfl hc.symm
  | box b off h1 hg => simp only [acells, Option.some.injEq] at hc; exact one _ _ (.box b off h1 hg) rfl rfl hc.symm
  | rptr r i off h1 hg => simp only [acells, Option.some.injEq] at hc; exact one _ _ (.rptr r i off h1 hg) rfl rfl hc.symm
  | lptr ad cs' vs h1 h2 => simp only [acells, Option.some.injEq] at hc; exact one _ _ (.lptr ad cs' vs h1 h2) rfl rfl hc.symm
  | fn f vs cs' h1 h2 => simp only [acells, Option.some.injEq] at hc; exact one _ _ (.fn f vs cs' h1 h2) rfl rfl hc.symm

/-- Quiet: the same value in every world that holds what was there. -/
def Quiet (P : Program) (w : World) (m : Maps) (h : Heap) (s : Sem Value) (r : AV) : Prop :=
  ∃ v, VR w m h v r ∧ ∀ w2, Qw w w2 → s.run P w2 = .ok v w2

section
variable {P : Program} {w : World} {m : Maps} {h : Heap}

theorem q_load1 {t : TypeId} {d : TypeDesc} (ht : P.underlying t = some d) (hd : d.isRow = false) {ad : Addr} {v : Value} {r : AV} (hc : w.cell? ad = some v) (hv : VR w m h v r) :
    Quiet P w m h (Instr.loadAt t (.pointer (some ad))) r := by
  refine ⟨v, hv, fun w2 hq => ?_⟩
  have hc2 := hq.cell hc
  cases d <;> simp_all [TypeDesc.isRow, Instr.loadAt, Instr.sureAddr, loadVar, isAgg, run_underlying, Sem.run_bind, load, Sem.run]

theorem run_loadCells_mid (w2 : World) (ad : Addr) (vs : List Value) (hc : ∀ j v, vs[j]? = some v → w2.cell? (ad.add j) = some v) : (loadCells ad vs.length).run P w2 = .ok vs.toArray w2 :=
  run_loadCells_list (P := P) w2 ad vs hc

theorem q_loadA {t : TypeId} {d : TypeDesc} {i : TypeInfo} (ht : P.underlying t = some d) (hd : d.isRow = true) (hi : P.info? t = some i) {ad : Addr} {vs : List Value} {cs : List AV} (hl : vs.length = i.size) (hl2 : cs.length = i.size)
    (hc : ∀ j v, vs[j]? = some v → w.cell? (ad.add j) = some v) (hcv : ∀ v ∈ vs, cellV v = true) (hv : ∀ (j : Nat) v c, vs[j]? = some v → cs[j]? = some c → VR w m h v c) :
    Quiet P w m h (Instr.loadAt t (.pointer (some ad))) (.agg cs) := by
  refine ⟨.agg vs.toArray, .agg _ _ (by simp [hl, hl2]) (fun j v hj => hcv v (by simpa using Array.mem_of_getElem? hj)) (fun j v c h1 h2 => hv j v c (by simpa using h1) h2), fun w2 hq => ?_⟩
  have hrun := run_loadCells_mid (P := P) w2 ad vs (fun j v hj => hq.cell (hc j v hj))
  have hagg : (isAgg t).run P w2 = .ok true w2 := by
    unfold isAgg
    rw [Sem.run_bind, run_underlying ht w2]
    cases d <;> simp_all [TypeDesc.isRow]
  rw [hl] at hrun
  simp [Instr.loadAt, Instr.sureAddr, loadVar, Sem.run_bind, hagg, sizeOf, typeInfo, hi, hrun]

theorem drop_get {α : Type} (l : List α) (n j : Nat) : (l.drop n)[j]? = l[n + j]? := List.getElem?_drop

/-- The cells at a place. -/
theorem place_rel (H : HRel w m h) {v : Value} {p : AV} {cs : List AV} (hv : VR w m h v p) (hp : place h p = some cs) :
    ∃ (ad : Addr) (vs : List Value), v = .pointer (some ad) ∧ vs.length = cs.length ∧ (∀ (j : Nat) x, vs[j]? = some x → w.cell? (ad.add j) = some x) ∧ (∀ x ∈ vs, cellV x = true) ∧
      ∀ (j : Nat) x c, vs[j]? = some x → cs[j]? = some c → VR w m h x c := by
  cases hv with
  | box b off hb hg =>
    simp only [place] at hp
    cases hbx : h.boxes[b]? with
    | none => rw [hbx] at hp; cases hp
    | some bs =>
      rw [hbx] at hp
      simp only [Option.some.injEq] at hp
      subst hp
      obtain ⟨vs, T, e, hs, hr⟩ := H.boxes b bs hg hbx
      have hcell : ∀ (j : Nat) x, (vs.toList.drop off)[j]? = some x → w.cell? ((⟨m.box b, off, none⟩ : Addr).add j) = some x := fun j x hj => by
        rw [Addr.add_mid, World.cell?]
        simp only [e]
        rw [drop_get, Array.getElem?_toList] at hj
        simpa using hj
      refine ⟨_, vs.toList.drop off, rfl, by simp [hs], hcell, fun x hx => ?_, fun j x c h1 h2 => ?_⟩
      · obtain ⟨j, hj⟩ := List.mem_iff_getElem?.1 (List.mem_of_mem_drop hx)
        rw [Array.getElem?_toList] at hj
        have hlt : j < bs.length := by rw [← hs]; exact (Array.getElem?_eq_some_iff.1 hj).1
        exact (hr j x _ hj (List.getElem?_eq_getElem hlt)).1
      · rw [drop_get, Array.getElem?_toList] at h1
        rw [drop_get] at h2
        exact (hr _ x c h1 h2).2
  | rptr r idx off hr0 hg =>
    simp only [place] at hp
    cases hrx : h.rows r with
    | none => rw [hrx] at hp; cases hp
    | some row =>
      rw [hrx] at hp
      simp only at hp
      cases hex : row.el[idx]? with
      | none => rw [hex] at hp; cases hp
      | some bs =>
        rw [hex] at hp
        simp only [Option.some.injEq] at hp
        subst hp
        obtain ⟨vs, T, e, hs, hsz, hle, hels, hr⟩ := H.rows r row hg hrx
        have hbl : bs.length = row.sz := hels bs (List.mem_of_getElem? hex)
        have get : ∀ j, j < bs.length → ∃ x, vs[(m.row r).start + idx * row.sz + j]? = some x ∧ cellV x = true ∧ VR w m h x (bs[j]?.getD .bad) := fun j hj => by
          have := hr idx j bs _ hex (List.getElem?_eq_getElem hj)
          rw [List.getElem?_eq_getElem hj]; exact this
        let f : Nat → Value := fun j => (vs[(m.row r).start + idx * row.sz + j]?).getD undef
        have hf : ∀ j, j < bs.length → vs[(m.row r).start + idx * row.sz + j]? = some (f j) ∧ cellV (f j) = true ∧ VR w m h (f j) (bs[j]?.getD .bad) := fun j hj => by
          obtain ⟨x, h1, h2, h3⟩ := get j hj
          have : f j = x := by show (vs[_]?).getD undef = x; rw [h1]; rfl
          rw [this]; exact ⟨h1, h2, h3⟩
        refine ⟨_, ((List.range bs.length).map f).drop off, rfl, by simp, fun j x hj => ?_, fun x hx => ?_, fun j x c h1 h2 => ?_⟩
        · rw [drop_get, List.getElem?_map] at hj
          by_cases hlt : off + j < bs.length
          · rw [List.getElem?_range hlt] at hj
            simp only [Option.map_some, Option.some.injEq] at hj
            subst hj
            rw [Addr.add_mid, World.cell?, hsz]
            simp only [e]
            have := (hf _ hlt).1
            rw [← Nat.add_assoc] at this
            simpa using this
          · rw [List.getElem?_eq_none (by simp; omega)] at hj; cases hj
        · have hx2 := List.mem_of_mem_drop hx
          obtain ⟨j, hj, rfl⟩ := List.mem_map.1 hx2
          exact (hf j (List.mem_range.1 hj)).2.1
        · rw [drop_get, List.getElem?_map] at h1
          rw [drop_get] at h2
          have hlt : off + j < bs.length := (List.getElem?_eq_some_iff.1 h2).1
          rw [List.getElem?_range hlt] at h1
          simp only [Option.map_some, Option.some.injEq] at h1
          subst h1
          have := (hf _ hlt).2.2
          rw [h2] at this
          exact this
  | lptr ad cs' vs hr hm =>
    simp only [place, Option.some.injEq] at hp
    subst hp
    refine ⟨ad, (List.range cs'.length).map vs, rfl, by simp, fun j x hj => ?_, fun x hx => ?_, fun j x c h1 h2 => ?_⟩
    · rw [List.getElem?_map] at hj
      by_cases hlt : j < cs'.length
      · rw [List.getElem?_range hlt] at hj
        simp only [Option.map_some, Option.some.injEq] at hj
        subst hj
        exact (hm j _ (List.getElem?_eq_getElem hlt)).2.1
      · rw [List.getElem?_eq_none (by simpa using hlt)] at hj; cases hj
    · obtain ⟨j, hj, rfl⟩ := List.mem_map.1 hx
      exact (hm j _ (List.getElem?_eq_getElem (List.mem_range.1 hj))).2.2
    · rw [List.getElem?_map] at h1
      have hlt : j < cs'.length := (List.getElem?_eq_some_iff.1 h2).1
      rw [List.getElem?_range hlt] at h1
      simp only [Option.map_some, Option.some.injEq] at h1
      subst h1
      exact hr j c h2
  | int k n => simp [place] at hp
  | bool b => simp [place] at hp
  | str s => simp [place] at hp
  | nils => simp [place] at hp
  | lit f a cap sz xs vs h1 h1' h2 h3 h4 h5 => simp [place] at hp
  | ref r off len cap h1 hg h2 h3 => simp [place] at hp
  | agg vs cs' hs hv' hr => simp [place] at hp
  | tup vs cs' hs hr => simp [place] at hp
  | fn f vs cs' hs hr => simp [place] at hp
  | bad v => simp [place] at hp

theorem q_load (H : HRel w m h) {a : Act} {env : List AV} (E : ERel w m h a env) {t : TypeId} {x : Operand} {agg : Bool} {n : Nat} (hT : TrOp P (.load t x) (.load agg n x)) {r : AV} {h' : Heap}
    (hd : adet env h (.load agg n x) = some (r, h')) : h' = h ∧ Quiet P w m h (Instr.loadAt t (a.eval x)) r := by
  simp only [adet] at hd
  cases hp : place h (aeval env x) with
  | none => rw [hp] at hd; cases hd
  | some cs =>
    rw [hp] at hd
    simp only at hd
    cases hal : aload agg n cs with
    | none => rw [hal] at hd; cases hd
    | some v =>
      rw [hal] at hd
      simp only [Option.some.injEq, Prod.mk.injEq] at hd
      obtain ⟨rfl, rfl⟩ := hd
      refine ⟨rfl, ?_⟩
      obtain ⟨ad, vs, e, hl, hc, hcv, hr⟩ := place_rel H (E.ev x) hp
      rw [e]
      cases hT with
      | load1 t d a ht hd =>
        simp only [aload, Bool.false_eq_true, if_false] at hal
        cases cs with
        | nil => simp at hal
        | cons c0 cs0 =>
          simp only [List.head?_cons, Option.some.injEq] at hal
          subst hal
          cases vs with
          | nil => simp at hl
          | cons v0 vs0 =>
            have := hc 0 v0 rfl
            exact q_load1 ht hd (by simpa [Addr.add] using this) (hr 0 v0 c0 rfl rfl)
      | loadA t d i a ht hd hi =>
        simp only [aload, if_true] at hal
        split at hal
        · rename_i hle
          simp only [Option.some.injEq] at hal
          subst hal
          refine q_loadA ht hd hi (vs := vs.take i.size) (by rw [List.length_take]; omega) (by rw [List.length_take]; omega) (fun j v hj => ?_) (fun v hv => hcv v (List.mem_of_mem_take hv)) (fun j v c h1 h2 => ?_)
          · rw [List.getElem?_take] at hj
            split at hj
            · exact hc j v hj
            · cases hj
          · rw [List.getElem?_take] at h1 h2
            split at h1
            · rename_i hlt
              rw [if_pos hlt] at h2
              exact hr j v c h1 h2
            · cases h1
        · cases hal
end

end Go.PA
