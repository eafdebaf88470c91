/- The quiet operations, one by one. No condition. -/
import Derived.Test.YtaekmccjendfoaaK5
import Derived.Laws.BytesString
namespace Go.PA
section
variable {P : Program} {w : World} {m : Maps} {h : Heap}

theorem Quiet.purely {s : Sem Value} {v : Value} {r : AV} (hv : VR w m h v r) (hs : ∀ w2, s.run P w2 = .ok v w2) : Quiet P w m h s r := ⟨v, hv, fun w2 _ => hs w2⟩

theorem q_fa {fs : Array Field} {f : Field} {i : TypeInfo} {t : TypeId} {j : Nat} (ht : P.underlying t = some (.struct fs)) (hf : fs[j]? = some f) (hi : P.info? f.type = some i) (hs : i.size ≠ 0)
    {v : Value} {x r : AV} (hv : VR w m h v x) {env : List AV} {o : Operand} (he : aeval env o = x) {h' : Heap} (hd : adet env h (.fa f.offset o) = some (r, h')) : h' = h ∧ Quiet P w m h (Instr.fieldAt t v j) r := by
  have run : ∀ (ad : Addr) (w2 : World), (Instr.fieldAt t (.pointer (some ad)) j).run P w2 = .ok (.pointer (some (ad.add f.offset))) w2 := fun ad w2 => by
    simp [Instr.fieldAt, Instr.sureAddr, fieldPlace, Sem.run_bind, run_underlying ht, hf, sizeOf, typeInfo, hi, hs]
  simp only [adet, he] at hd
  cases hv with
  | box b off hb hg =>
    simp only [Option.some.injEq, Prod.mk.injEq] at hd; obtain ⟨rfl, rfl⟩ := hd
    refine ⟨rfl, .purely ?_ (run _)⟩
    rw [Addr.add_mid]; exact .box b _ hb hg
  | rptr rr idx off hr hg =>
    simp only [Option.some.injEq, Prod.mk.injEq] at hd; obtain ⟨rfl, rfl⟩ := hd
    refine ⟨rfl, .purely ?_ (run _)⟩
    rw [Addr.add_mid, Nat.add_assoc]; exact .rptr rr idx _ hr hg
  | lptr ad cs vs hr hm =>
    simp only [Option.some.injEq, Prod.mk.injEq] at hd; obtain ⟨rfl, rfl⟩ := hd
    refine ⟨rfl, .purely ?_ (run _)⟩
    refine .lptr _ _ (fun k => vs (f.offset + k)) (fun k c hk => ?_) (fun k c hk => ?_)
    · rw [drop_get] at hk; exact hr _ c hk
    · rw [drop_get] at hk
      rw [add_block, add_add]
      exact hm _ c hk
  | _ => cases hd

theorem q_iaA {t e : TypeId} {n : Nat} {i : TypeInfo} {k : IntKind} {a : Int} (ht : P.underlying t = some (.array n e)) (hi : P.info? e = some i) (hm : 0 ≤ a ∧ a < n)
    {v : Value} {x r : AV} (hv : VR w m h v x) {env : List AV} {o : Operand} (he : aeval env o = x) {h' : Heap} (hd : adet env h (.fa (a.toNat * i.size) o) = some (r, h')) : h' = h ∧ Quiet P w m h (Instr.indexAt t v (.int k a)) r := by
  have run : ∀ (ad : Addr) (w2 : World), (Instr.indexAt t (.pointer (some ad)) (.int k a)).run P w2 = .ok (.pointer (some (ad.add (a.toNat * i.size)))) w2 := fun ad w2 => by
    simp [Instr.indexAt, asIntOf, Instr.sureAddr, Sem.run_bind, run_underlying ht, sizeOf, typeInfo, hi, hm]
  simp only [adet, he] at hd
  cases hv with
  | box b off hb hg =>
    simp only [Option.some.injEq, Prod.mk.injEq] at hd; obtain ⟨rfl, rfl⟩ := hd
    refine ⟨rfl, .purely ?_ (run _)⟩
    rw [Addr.add_mid]; exact .box b _ hb hg
  | rptr rr idx off hr hg =>
    simp only [Option.some.injEq, Prod.mk.injEq] at hd; obtain ⟨rfl, rfl⟩ := hd
    refine ⟨rfl, .purely ?_ (run _)⟩
    rw [Addr.add_mid, Nat.add_assoc]; exact .rptr rr idx _ hr hg
  | lptr ad cs vs hr hm =>
    simp only [Option.some.injEq, Prod.mk.injEq] at hd; obtain ⟨rfl, rfl⟩ := hd
    refine ⟨rfl, .purely ?_ (run _)⟩
    refine .lptr _ _ (fun k => vs (a.toNat * i.size + k)) (fun k c hk => ?_) (fun k c hk => ?_)
    · rw [drop_get] at hk; exact hr _ c hk
    · rw [drop_get] at hk
      rw [add_block, add_add]
      exact hm _ c hk
  | _ => cases hd

theorem q_ia (H : HRel w m h) {e t : TypeId} {i : TypeInfo} (ht : P.underlying t = some (.slice e)) (hi : P.info? e = some i)
    {v u : Value} {x y r : AV} (hv : VR w m h v x) (hu : VR w m h u y) {env : List AV} {o p : Operand} (he : aeval env o = x) (hp : aeval env p = y) {h' : Heap} (hd : adet env h (.ia i.size o p) = some (r, h')) :
    h' = h ∧ Quiet P w m h (Instr.indexAt t v u) r := by
  have run : ∀ (ad : Addr) (len cap : Nat) (k : IntKind) (n : Int) (w2 : World), 0 ≤ n → n < len →
      (Instr.indexAt t (.slice (some ad) len cap) (.int k n)).run P w2 = .ok (.pointer (some (ad.add (n.toNat * i.size)))) w2 := fun ad len cap k n w2 h0 h1 => by
    simp [Instr.indexAt, asIntOf, Sem.run_bind, run_underlying ht, sizeOf, typeInfo, hi, h0, h1]
  simp only [adet, he, hp] at hd
  cases hu with
  | int k n =>
    cases hv with
    | lit f a cap sz xs vs hc ha hsz hr hm hf =>
      simp only at hd
      split at hd
      · rename_i hb
        cases hx : xs[n.toNat]? with
        | none => rw [hx] at hd; cases hd
        | some cs =>
          rw [hx] at hd
          simp only at hd
          split at hd
          · rename_i hcl
            simp only [Option.some.injEq, Prod.mk.injEq] at hd; obtain ⟨rfl, rfl⟩ := hd
            have hszs : sz = i.size := by rw [← hcl, hsz cs (List.mem_of_getElem? hx)]
            subst hszs
            refine ⟨rfl, ?_⟩
            cases a with
            | none => exact absurd rfl (ha (by intro e; rw [e] at hx; simp at hx))
            | some ad =>
              refine .purely (.lptr _ _ (fun k => vs n.toNat k) (fun k c hk => hr _ k _ c hx hk) (fun k c hk => ?_)) (fun w2 => run ad _ cap k n w2 hb.1 hb.2)
              obtain ⟨ad', e1, e2, e3, e4⟩ := hm _ k _ c hx hk
              cases e1
              rw [add_block, add_add]
              exact ⟨e2, e3, e4⟩
          · cases hd
      · cases hd
    | ref rr off len cap h1 hg h2 h3 =>
      simp only at hd
      split at hd
      · rename_i hb
        cases hx : h.rows rr with
        | none => rw [hx] at hd; cases hd
        | some row =>
          rw [hx] at hd
          simp only at hd
          split at hd
          · rename_i hcl
            simp only [Option.some.injEq, Prod.mk.injEq] at hd; obtain ⟨rfl, rfl⟩ := hd
            obtain ⟨_, _, _, _, hz, _⟩ := H.rows rr row hg hx
            refine ⟨rfl, .purely (v := .pointer (some ((⟨(m.row rr).blk, (m.row rr).start + off * (m.row rr).sz, none⟩ : Addr).add (n.toNat * i.size)))) ?_ (fun w2 => run _ _ cap k n w2 hb.1 hb.2)⟩
            rw [Addr.add_mid, ← hcl, ← hz, Nat.add_assoc, ← Nat.add_mul]
            exact .rptr rr (off + n.toNat) 0 h1 hg
          · cases hd
      · cases hd
    | _ => cases hd
  | _ => cases hd


theorem getD_self {α : Type} (o : Option α) (x d : α) (h : o = some x) : o.getD d = x := by rw [h]; rfl

/-- The elements of a slice, on the machine. -/
theorem aels_rel (H : HRel w m h) {v : Value} {x : AV} {xs : List (List AV)} {sz : Nat} (hv : VR w m h v x) (hx : aels h x = some xs) (hsz : ∀ cs ∈ xs, cs.length = sz) :
    ∃ (a : Option Addr) (cap : Nat) (vs : List Value), v = .slice a xs.length cap ∧ xs.length ≤ cap ∧ vs.length = xs.length * sz ∧ (∀ (j : Nat) u, vs[j]? = some u → ∃ ad, a = some ad ∧ w.cell? (ad.add j) = some u) ∧
      (∀ u ∈ vs, cellV u = true) ∧ ∀ (i j : Nat) cs c, xs[i]? = some cs → cs[j]? = some c → ∃ u, vs[i * sz + j]? = some u ∧ VR w m h u c := by
  -- a list of cells out of a function of element and cell
  have build : ∀ (f : Nat → Nat → Value) (a : Option Addr), (∀ (i j : Nat) cs c, xs[i]? = some cs → cs[j]? = some c → VR w m h (f i j) c ∧ ∃ ad, a = some ad ∧ w.cell? (ad.add (i * sz + j)) = some (f i j) ∧ cellV (f i j) = true) →
      ∃ vs : List Value, vs.length = xs.length * sz ∧ (∀ (j : Nat) u, vs[j]? = some u → ∃ ad, a = some ad ∧ w.cell? (ad.add j) = some u) ∧
      (∀ u ∈ vs, cellV u = true) ∧ ∀ (i j : Nat) cs c, xs[i]? = some cs → cs[j]? = some c → ∃ u, vs[i * sz + j]? = some u ∧ VR w m h u c := by
    intro f a hf
    have key : ∀ k, k < xs.length * sz → ∃ cs c, xs[k / sz]? = some cs ∧ cs[k % sz]? = some c ∧ k / sz * sz + k % sz = k := fun k hk => by
      have hs0 : 0 < sz := Nat.pos_of_ne_zero fun e => by subst e; simp at hk
      have h1 : k / sz < xs.length := (Nat.div_lt_iff_lt_mul hs0).2 hk
      have h2 : k % sz < (xs[k / sz]'h1).length := by rw [hsz _ (List.getElem_mem h1)]; exact Nat.mod_lt _ hs0
      exact ⟨_, _, List.getElem?_eq_getElem h1, List.getElem?_eq_getElem h2, Nat.div_add_mod' k sz⟩
    refine ⟨(List.range (xs.length * sz)).map fun k => f (k / sz) (k % sz), by simp, fun j u hj => ?_, fun u hu => ?_, fun i j cs c h1 h2 => ?_⟩
    · have hlt : j < xs.length * sz := by have := (List.getElem?_eq_some_iff.1 hj).1; simpa using this
      rw [List.getElem?_map, List.getElem?_range hlt] at hj
      simp only [Option.map_some, Option.some.injEq] at hj
      subst hj
      obtain ⟨cs, c, e1, e2, e3⟩ := key j hlt
      obtain ⟨_, ad, e4, e5, _⟩ := hf _ _ cs c e1 e2
      rw [e3] at e5
      exact ⟨ad, e4, e5⟩
    · obtain ⟨k, hk, rfl⟩ := List.mem_map.1 hu
      obtain ⟨cs, c, e1, e2, _⟩ := key k (List.mem_range.1 hk)
      exact (hf _ _ cs c e1 e2).2.choose_spec.2.2
    · have hi : i < xs.length := (List.getElem?_eq_some_iff.1 h1).1
      have hj : j < sz := by have := (List.getElem?_eq_some_iff.1 h2).1; rw [hsz cs (List.mem_of_getElem? h1)] at this; exact this
      have hlt : i * sz + j < xs.length * sz := by
        have : (i + 1) * sz ≤ xs.length * sz := Nat.mul_le_mul_right sz hi
        rw [Nat.add_mul] at this; omega
      have hd : (i * sz + j) / sz = i := by
        rw [Nat.mul_comm, Nat.mul_add_div (by omega), Nat.div_eq_of_lt hj]; rfl
      have hmd : (i * sz + j) % sz = j := by
        rw [Nat.mul_comm, Nat.mul_add_mod, Nat.mod_eq_of_lt hj]
      refine ⟨f i j, ?_, (hf i j cs c h1 h2).1⟩
      rw [List.getElem?_map, List.getElem?_range hlt]
      simp only [Option.map_some, hd, hmd]
  cases hv with
  | nils =>
    simp only [aels, Option.some.injEq] at hx; subst hx
    exact ⟨none, 0, [], rfl, Nat.le_refl _, by simp, fun j u hj => by simp at hj, fun u hu => by simp at hu, fun i j cs c h1 _ => by simp at h1⟩
  | lit f a cap s ys vs hc ha hs hr hm hf =>
    simp only [aels, Option.some.injEq] at hx; subst hx
    have es : ys ≠ [] → s = sz := fun hne => by
      cases ys with
      | nil => exact absurd rfl hne
      | cons y ys => rw [← hs y List.mem_cons_self, hsz y List.mem_cons_self]
    obtain ⟨us, h1, h2, h3, h4⟩ := build vs a fun i j cs c e1 e2 => by
      have hne : ys ≠ [] := by intro e; rw [e] at e1; simp at e1
      have := es hne; subst this
      obtain ⟨ad, f1, _, f3, f4⟩ := hm i j cs c e1 e2
      exact ⟨hr i j cs c e1 e2, ad, f1, f3, f4⟩
    exact ⟨a, cap, us, rfl, hc, h1, h2, h3, h4⟩
  | ref r off len cap h1 hg h2 h3 =>
    simp only [aels] at hx
    cases hrx : h.rows r with
    | none => rw [hrx] at hx; cases hx
    | some row =>
      rw [hrx] at hx
      simp only at hx
      split at hx
      · rename_i hle
        simp only [Option.some.injEq] at hx
        subst hx
        obtain ⟨vs, T, e, hs, hz, hl, hels, hr⟩ := H.rows r row hg hrx
        have hlen : ((row.el.drop off).take len).length = len := by rw [List.length_take, List.length_drop]; omega
        have hget : ∀ (i : Nat) cs, ((row.el.drop off).take len)[i]? = some cs → row.el[off + i]? = some cs := fun i cs hi => by
          rw [List.getElem?_take] at hi
          split at hi
          · rw [drop_get] at hi; exact hi
          · cases hi
        have hszr : ((row.el.drop off).take len) ≠ [] → row.sz = sz := fun hne => by
          obtain ⟨cs, hcs⟩ := List.exists_mem_of_ne_nil _ hne
          rw [← hsz cs hcs, hels cs (List.mem_of_mem_drop (List.mem_of_mem_take hcs))]
        obtain ⟨us, g1, g2, g3, g4⟩ := build (fun i j => (vs[(m.row r).start + (off + i) * row.sz + j]?).getD undef) (some ⟨(m.row r).blk, (m.row r).start + off * (m.row r).sz, none⟩) fun i j cs c e1 e2 => by
          have hne : ((row.el.drop off).take len) ≠ [] := by intro e; rw [e] at e1; simp at e1
          have hq := hszr hne
          obtain ⟨u, f1, f2, f3⟩ := hr (off + i) j cs c (hget i cs e1) e2
          rw [getD_self _ u undef f1]
          refine ⟨f3, _, rfl, ?_, f2⟩
          rw [Addr.add_mid, World.cell?, hz]
          simp only [e]
          rw [← hq, Nat.add_assoc (m.row r).start, ← Nat.add_assoc (off * row.sz), ← Nat.add_mul, ← Nat.add_assoc]
          simpa using f1
        rw [hlen] at g1 ⊢
        exact ⟨_, cap, us, rfl, h2, g1, g2, g3, g4⟩
      · cases hx
  | int k n => simp [aels] at hx
  | bool b => simp [aels] at hx
  | str s => simp [aels] at hx
  | box b off hb hg => simp [aels] at hx
  | rptr r idx off hr0 hg => simp [aels] at hx
  | lptr ad cs vs hr hm => simp [aels] at hx
  | agg vs cs' hs hv' hr => simp [aels] at hx
  | tup vs cs' hs hr => simp [aels] at hx
  | fn f vs cs' hs hr => simp [aels] at hx
  | bad v => simp [aels] at hx

end
end Go.PA
