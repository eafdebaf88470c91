/- The quiet operations, the rest: numbers, texts, cuts, parts. No condition. -/
import Derived.Test.YtaekmccjendfoaaK6
import Derived.Laws.StructEq
namespace Go.PA
section
variable {P : Program} {w : World} {m : Maps} {h : Heap}

theorem q_bin {t : TypeId} {op : BinOp} {v u : Value} {x y r : AV} (hv : VR w m h v x) (hu : VR w m h u y) (ox oy : Operand) (hr : abin op x y = some r) :
    Quiet P w m h (do eqGuard op t ox oy v u; binOp op t v u) r := by
  cases hv with
  | int k a =>
    cases hu with
    | int k' b =>
      simp only [abin] at hr
      split at hr
      · cases hr
      · rename_i hk
        have hk' : k = k' := Classical.not_not.mp hk
        subst hk'
        cases op <;> simp only at hr
        case quo =>
          split at hr
          · cases hr
          · rename_i hb
            simp only [Option.some.injEq] at hr; subst hr
            exact .purely (.int _ _) fun w2 => by simp [eqGuard, binOp, Op.intDiv, hb]
        case rem =>
          split at hr
          · cases hr
          · rename_i hb
            simp only [Option.some.injEq] at hr; subst hr
            exact .purely (.int _ _) fun w2 => by simp [eqGuard, binOp, Op.intDiv, hb]
        case shl =>
          split at hr
          · cases hr
          · rename_i hb
            simp only [Option.some.injEq] at hr; subst hr
            exact .purely (.int _ _) fun w2 => by simp [eqGuard, binOp, Op.shift, hb]
        case shr =>
          split at hr
          · cases hr
          · rename_i hb
            simp only [Option.some.injEq] at hr; subst hr
            exact .purely (.int _ _) fun w2 => by simp [eqGuard, binOp, Op.shift, hb]
        case add => simp only [Option.some.injEq] at hr; subst hr; exact .purely (.int _ _) fun w2 => by simp [eqGuard, binOp, Op.intArith]
        case sub => simp only [Option.some.injEq] at hr; subst hr; exact .purely (.int _ _) fun w2 => by simp [eqGuard, binOp, Op.intArith]
        case mul => simp only [Option.some.injEq] at hr; subst hr; exact .purely (.int _ _) fun w2 => by simp [eqGuard, binOp, Op.intArith]
        case xor => simp only [Option.some.injEq] at hr; subst hr; exact .purely (.int _ _) fun w2 => by simp [eqGuard, binOp, Op.intBits, bits]
        case eql => simp only [Option.some.injEq] at hr; subst hr; exact .purely (.bool _) fun w2 => by simp [eqGuard, binOp, Op.intCmp]
        case neq => simp only [Option.some.injEq] at hr; subst hr; exact .purely (.bool _) fun w2 => by simp [eqGuard, binOp, Op.intCmp]
        case lss => simp only [Option.some.injEq] at hr; subst hr; exact .purely (.bool _) fun w2 => by simp [eqGuard, binOp, Op.intCmp]
        case leq => simp only [Option.some.injEq] at hr; subst hr; exact .purely (.bool _) fun w2 => by simp [eqGuard, binOp, Op.intCmp]
        case gtr => simp only [Option.some.injEq] at hr; subst hr; exact .purely (.bool _) fun w2 => by simp [eqGuard, binOp, Op.intCmp]
        case geq => simp only [Option.some.injEq] at hr; subst hr; exact .purely (.bool _) fun w2 => by simp [eqGuard, binOp, Op.intCmp]
        all_goals cases hr
    | _ => simp [abin] at hr
  | str a =>
    cases hu with
    | str b =>
      simp only [abin] at hr
      cases op <;> simp only at hr
      case add =>
        split at hr
        · rename_i hb
          simp only [Option.some.injEq] at hr; subst hr
          have hmax : IntKind.i64.max = 9223372036854775807 := by decide
          have h2 : ¬ ((a.size + b.size : Nat) : Int) > IntKind.i64.max := by rw [hmax]; omega
          exact .purely (.str _) fun w2 => by
            simp only [eqGuard, binOp, Op.stringOp, h2, if_false]; simp
        · cases hr
      case eql => simp only [Option.some.injEq] at hr; subst hr; exact .purely (.bool _) fun w2 => by simp [eqGuard, binOp, Op.stringOp]
      case neq => simp only [Option.some.injEq] at hr; subst hr; exact .purely (.bool _) fun w2 => by simp [eqGuard, binOp, Op.stringOp]
      case lss => simp only [Option.some.injEq] at hr; subst hr; exact .purely (.bool _) fun w2 => by simp [eqGuard, binOp, Op.stringOp]
      case leq => simp only [Option.some.injEq] at hr; subst hr; exact .purely (.bool _) fun w2 => by simp [eqGuard, binOp, Op.stringOp]
      case gtr => simp only [Option.some.injEq] at hr; subst hr; exact .purely (.bool _) fun w2 => by simp [eqGuard, binOp, Op.stringOp]
      case geq => simp only [Option.some.injEq] at hr; subst hr; exact .purely (.bool _) fun w2 => by simp [eqGuard, binOp, Op.stringOp]
      all_goals cases hr
    | _ => simp [abin] at hr
  | _ => simp [abin] at hr

theorem run_equalIn_bool {t : TypeId} (ht : P.underlying t = some .bool) (d : Nat) (a b : Bool) (w2 : World) : (Op.equalIn (d + 1) t (.bool a) (.bool b)).run P w2 = .ok (a == b) w2 := by
  simp only [Op.equalIn, Sem.run_bind, run_underlying ht, Result.andThen_ok]
  rfl
theorem q_beq {t : TypeId} (ht : P.underlying t = some .bool) (neg : Bool) (a b : Bool) (ox oy : Operand) :
    Quiet P w m h (do eqGuard (if neg then .neq else .eql) t ox oy (.bool a) (.bool b); binOp (if neg then .neq else .eql) t (.bool a) (.bool b)) (.bool (if neg then !(a == b) else a == b)) := by
  have hrun : ∀ w2, (Op.equal t (.bool a) (.bool b)).run P w2 = .ok (a == b) w2 := fun w2 => run_equalIn_bool ht 9999 a b w2
  cases neg
  · refine .purely (.bool _) fun w2 => ?_
    show (do eqGuard .eql t ox oy (.bool a) (.bool b); binOp .eql t (.bool a) (.bool b) : Sem Value).run P w2 = _
    have h1 : (eqGuard .eql t ox oy (.bool a) (.bool b)).run P w2 = .ok () w2 := by simp [eqGuard]
    have h2 : (binOp .eql t (.bool a) (.bool b)).run P w2 = .ok (.bool (a == b)) w2 := by
      show (do pure (.bool (← Op.equal t (.bool a) (.bool b))) : Sem Value).run P w2 = _
      rw [Sem.run_bind, hrun]; rfl
    rw [Sem.run_bind, h1]; exact h2
  · refine .purely (.bool _) fun w2 => ?_
    show (do eqGuard .neq t ox oy (.bool a) (.bool b); binOp .neq t (.bool a) (.bool b) : Sem Value).run P w2 = _
    have h1 : (eqGuard .neq t ox oy (.bool a) (.bool b)).run P w2 = .ok () w2 := by simp [eqGuard]
    have h2 : (binOp .neq t (.bool a) (.bool b)).run P w2 = .ok (.bool (!(a == b))) w2 := by
      show (do pure (.bool (!(← Op.equal t (.bool a) (.bool b)))) : Sem Value).run P w2 = _
      rw [Sem.run_bind, hrun]; rfl
    rw [Sem.run_bind, h1]; exact h2

theorem q_un {op : UnOp} {v : Value} {x r : AV} (hv : VR w m h v x) (hr : aun op x = some r) : Quiet P w m h (Op.unary op v) r := by
  cases hv with
  | int k n =>
    cases op <;> simp only [aun] at hr
    case neg => simp only [Option.some.injEq] at hr; subst hr; exact .purely (.int _ _) fun w2 => by simp [Op.unary, Op.intArith]
    all_goals cases hr
  | bool b =>
    cases op <;> simp only [aun] at hr
    case not => simp only [Option.some.injEq] at hr; subst hr; exact .purely (.bool _) fun w2 => by simp [Op.unary]
    all_goals cases hr
  | _ => simp [aun] at hr

theorem q_ii {s t : TypeId} {d : TypeDesc} {k : IntKind} (hs : P.underlying s = some d) (ht : P.underlying t = some (.int k)) (k' : IntKind) (n : Int) :
    Quiet P w m h (convert s t (.int k' n)) (.int k (k.wrap n)) :=
  .purely (.int _ _) fun w2 => by
    simp only [convert, Sem.run_bind, run_underlying hs, run_underlying ht, Result.andThen_ok]
    cases d <;> simp [Conv.intToInt]

theorem byteOf_some {cs : List AV} {n : Int} (hc : byteOf? cs = some n) : cs = [.int .u8 n] := by
  unfold byteOf? at hc
  split at hc
  · simp only [Option.some.injEq] at hc; subst hc; rfl
  · cases hc
theorem bytes1_get (xs : List (List AV)) : ∀ ns : List Int, bytes1 xs = some ns → xs.length = ns.length ∧ ∀ (i : Nat) n, ns[i]? = some n → xs[i]? = some [.int .u8 n] := by
  induction xs with
  | nil => intro ns hb; simp only [bytes1, Option.some.injEq] at hb; subst hb; exact ⟨rfl, fun i n hi => by simp at hi⟩
  | cons cs l ih =>
    intro ns hb
    simp only [bytes1] at hb
    cases hc : byteOf? cs with
    | none => rw [hc] at hb; cases hb
    | some n =>
      rw [hc] at hb
      simp only at hb
      cases hl : bytes1 l with
      | none => rw [hl] at hb; cases hb
      | some ns' =>
        rw [hl] at hb
        simp only [Option.some.injEq] at hb
        subst hb
        obtain ⟨e1, e2⟩ := ih ns' hl
        refine ⟨by simp [e1], fun i k hi => ?_⟩
        cases i with
        | zero => simp at hi; subst hi; simp [byteOf_some hc]
        | succ i => simp at hi; simpa using e2 i k hi

theorem q_b2s (H : HRel w m h) {s t e : TypeId} (hs : P.underlying s = some (.slice e)) (he : P.underlying e = some (.int .u8)) (ht : P.underlying t = some .string)
    {v : Value} {x : AV} {xs : List (List AV)} {ns : List Int} (hv : VR w m h v x) (hx : aels h x = some xs) (hb : bytes1 xs = some ns) :
    Quiet P w m h (convert s t v) (.str (strOfInts ns)) := by
  obtain ⟨hl, hg⟩ := bytes1_get xs ns hb
  have hsz : ∀ cs ∈ xs, cs.length = 1 := fun cs hcs => by
    obtain ⟨i, hi⟩ := List.mem_iff_getElem?.1 hcs
    have hlt : i < ns.length := by rw [← hl]; exact (List.getElem?_eq_some_iff.1 hi).1
    have := hg i _ (List.getElem?_eq_getElem hlt)
    rw [hi] at this
    simp only [Option.some.injEq] at this
    rw [this]; rfl
  obtain ⟨a, cap, vs, rfl, hle, hvl, hc, _, hr⟩ := aels_rel H hv hx hsz
  have hvs : vs = ns.map (Value.int .u8) := by
    apply List.ext_getElem?
    intro i
    by_cases hlt : i < ns.length
    · have h1 := hg i _ (List.getElem?_eq_getElem hlt)
      obtain ⟨u, e1, e2⟩ := hr i 0 _ _ h1 rfl
      rw [Nat.mul_one, Nat.add_zero] at e1
      rw [e1, List.getElem?_map, List.getElem?_eq_getElem hlt]
      cases e2; rfl
    · rw [List.getElem?_eq_none (by omega), List.getElem?_eq_none (by simp; omega)]
  refine .intro _ ⟨.str _, fun w2 hq => ?_⟩
  simp only [convert, Sem.run_bind, run_underlying hs, run_underlying ht, run_underlying he, Result.andThen_ok]
  cases a with
  | none =>
    have : ns = [] := by
      cases ns with
      | nil => rfl
      | cons n ns =>
        have := hc 0 (.int .u8 n) (by rw [hvs]; rfl)
        obtain ⟨ad, e1, _⟩ := this
        cases e1
    subst this
    simp [Conv.bytesToString, strOfInts]
  | some ad =>
    have hcell : ∀ (j : Nat) u, (ns.map (Value.int .u8))[j]? = some u → w2.cell? (ad.add j) = some u := fun j u hj => by
      rw [← hvs] at hj
      obtain ⟨ad', e1, e2⟩ := hc j u hj
      cases e1
      exact hq.cell e2
    have hrun := run_loadCells_list (P := P) w2 ad (ns.map (Value.int .u8)) hcell
    rw [List.length_map, ← hl] at hrun
    exact run_bytesToString w2 ad xs.length cap ns hrun

theorem q_slstr {t : TypeId} (ht : P.underlying t = some .string) {s : ByteArray} {a b : Int} (ha : 0 ≤ a) (hab : a ≤ b) (hb : b ≤ s.size) (lo hi : Option Value)
    (hlo : (lo = none ∧ a = 0) ∨ ∃ k, lo = some (.int k a)) (hhi : (hi = none ∧ b = s.size) ∨ ∃ k, hi = some (.int k b)) :
    Quiet P w m h (Instr.sliceAt t (.string s) lo hi none) (.str (s.extract a.toNat b.toNat)) := by
  refine .purely (.str _) fun w2 => ?_
  have h0 : (0 : Int) ≤ b := by omega
  rcases hlo with ⟨rfl, rfl⟩ | ⟨k, rfl⟩ <;> rcases hhi with ⟨rfl, rfl⟩ | ⟨k', rfl⟩ <;>
    simp [Instr.sliceAt, Instr.slice, Instr.sliceBounds, Instr.sliceBound, asIntOf, Sem.run_bind, run_underlying ht, ha, hb, h0] <;>
    (try simp [hab])
  all_goals (try (have hx : (b.toNat : Int) = b := by omega))
  all_goals (try (have hy : a ≤ (b.toNat : Int) := by omega))
  all_goals (try simp_all)
  all_goals (intro hcon; omega)

theorem q_idxs {t : TypeId} (ht : P.underlying t = some .string) {s : ByteArray} {k : IntKind} {n : Int} (h0 : 0 ≤ n) (h1 : n.toNat < s.size) :
    Quiet P w m h (Instr.index t (.string s) (.int k n)) (.int .u8 ((s[n.toNat]'h1).toNat : Int)) :=
  .purely (.int _ _) fun w2 => by
    have hg : s[n.toNat]? = some (s[n.toNat]'h1) := by simp [h1]
    simp only [Instr.index, asIntOf, Sem.run_bind, run_underlying ht, Sem.run_pure, Result.andThen_ok, h0, if_true, hg]

theorem run_part1 {t : TypeId} {d : TypeDesc} (ht : P.underlying t = some d) (hd : d.isRow = false) (cs : Array Value) (off : Nat) (v : Value) (hc : cs[off]? = some v) (w2 : World) : (part t cs off).run P w2 = .ok v w2 := by
  have hagg : (isAgg t).run P w2 = .ok false w2 := by
    unfold isAgg
    rw [Sem.run_bind, run_underlying ht w2]
    cases d <;> simp_all [TypeDesc.isRow]
  simp [part, Sem.run_bind, hagg, hc]
theorem run_partA {t : TypeId} {d : TypeDesc} {i : TypeInfo} (ht : P.underlying t = some d) (hd : d.isRow = true) (hi : P.info? t = some i) (cs : Array Value) (off : Nat) (w2 : World) : (part t cs off).run P w2 = .ok (.agg (cs.extract off (off + i.size))) w2 := by
  have hagg : (isAgg t).run P w2 = .ok true w2 := by
    unfold isAgg
    rw [Sem.run_bind, run_underlying ht w2]
    cases d <;> simp_all [TypeDesc.isRow]
  simp [part, Sem.run_bind, hagg, sizeOf, typeInfo, hi]

/-- A part of a struct's or an array's value. -/
theorem q_part {t : TypeId} {d : TypeDesc} (ht : P.underlying t = some d) {vs : Array Value} {cs : List AV} (hs : vs.size = cs.length) (hv : ∀ (j : Nat) v, vs[j]? = some v → cellV v = true)
    (hr : ∀ (j : Nat) v c, vs[j]? = some v → cs[j]? = some c → VR w m h v c) (off : Nat) {r : AV} :
    (d.isRow = false → aload false 1 (cs.drop off) = some r → Quiet P w m h (part t vs off) r) ∧
    (∀ i, d.isRow = true → P.info? t = some i → aload true i.size (cs.drop off) = some r → Quiet P w m h (part t vs off) r) := by
  refine ⟨fun hd ha => ?_, fun i hd hi ha => ?_⟩
  · simp only [aload, Bool.false_eq_true, if_false, List.head?_drop] at ha
    have hlt : off < vs.size := by rw [hs]; exact (List.getElem?_eq_some_iff.1 ha).1
    exact .purely (hr off _ r (Array.getElem?_eq_getElem hlt) ha) fun w2 => run_part1 ht hd vs off _ (Array.getElem?_eq_getElem hlt) w2
  · simp only [aload, if_true] at ha
    split at ha
    · rename_i hle
      simp only [Option.some.injEq] at ha; subst ha
      rw [List.length_drop] at hle
      refine .purely (.agg _ _ ?_ (fun j v hj => ?_) (fun j v c h1 h2 => ?_)) fun w2 => run_partA ht hd hi vs off w2
      · rw [Array.size_extract, List.length_take, List.length_drop]; omega
      · rw [Array.getElem?_extract] at hj
        split at hj
        · exact hv _ v hj
        · cases hj
      · rw [Array.getElem?_extract] at h1
        split at h1
        · rw [List.getElem?_take] at h2
          split at h2
          · rw [drop_get] at h2; exact hr _ v c h1 h2
          · cases h2
        · cases h1
    · cases ha

theorem q_idx1 {t e : TypeId} {d : TypeDesc} {i : TypeInfo} {n : Nat} (ht : P.underlying t = some (.array n e)) (hi : P.info? e = some i) (he : P.underlying e = some d) (hd : d.isRow = false) (hsz : i.size = 1)
    {vs : Array Value} {cs : List AV} (hn : cs.length = n) (hs : vs.size = cs.length) (hv : ∀ (j : Nat) v, vs[j]? = some v → cellV v = true) (hr : ∀ (j : Nat) v c, vs[j]? = some v → cs[j]? = some c → VR w m h v c)
    {k : IntKind} {x : Int} (h0 : 0 ≤ x) (h1 : x < cs.length) {r : AV} (ha : aload false 1 (cs.drop x.toNat) = some r) : Quiet P w m h (Instr.index t (.agg vs) (.int k x)) r := by
  obtain ⟨v, hv1, hrun⟩ := (q_part he hs hv hr x.toNat).1 hd ha
  refine ⟨v, hv1, fun w2 hq => ?_⟩
  have h2 : x < (n : Int) := by omega
  have := hrun w2 hq
  simp [Instr.index, asIntOf, Sem.run_bind, run_underlying ht, sizeOf, typeInfo, hi, hsz, h0, h2, this]

theorem q_len {t : TypeId} {st : Bool} (ht : if st then P.underlying t = some .string else ∃ e, P.underlying t = some (.slice e)) {ats : Array TypeId} (ha : ats.toList = [t]) (ty : TypeId) {v : Value} {x : AV} (hv : VR w m h v x) {env : List AV} {o : Operand} (he : aeval env o = x) {r : AV} {h' : Heap}
    (hr : adet env h (.len st o) = some (r, h')) : h' = h ∧ Quiet P w m h (Builtin.len_ ats ty #[v]) r := by
  have ha' : ats = #[t] := Array.ext' (by simpa using ha)
  subst ha'
  simp only [adet, he] at hr
  cases hv with
  | str s =>
    cases st
    · cases hr
    · simp only [if_true] at ht hr
      simp only [Option.some.injEq, Prod.mk.injEq] at hr; obtain ⟨rfl, rfl⟩ := hr
      exact ⟨rfl, .purely (.int _ _) fun w2 => by simp [Builtin.len_, goInt, Sem.run_bind, run_underlying ht]⟩
  | nils =>
    cases st
    · simp only [Bool.false_eq_true, if_false] at ht hr
      simp only [Option.some.injEq, Prod.mk.injEq] at hr; obtain ⟨rfl, rfl⟩ := hr
      obtain ⟨e, ht⟩ := ht
      exact ⟨rfl, .purely (.int _ _) fun w2 => by simp [Builtin.len_, goInt, Sem.run_bind, run_underlying ht]⟩
    · cases hr
  | lit f a cap sz xs vs h1 h2 h3 h4 h5 h6 =>
    cases st
    · simp only [Bool.false_eq_true, if_false] at ht hr
      simp only [Option.some.injEq, Prod.mk.injEq] at hr; obtain ⟨rfl, rfl⟩ := hr
      obtain ⟨e, ht⟩ := ht
      exact ⟨rfl, .purely (.int _ _) fun w2 => by simp [Builtin.len_, goInt, Sem.run_bind, run_underlying ht]⟩
    · cases hr
  | ref rr off len cap h1 hg h2 h3 =>
    cases st
    · simp only [Bool.false_eq_true, if_false] at ht hr
      simp only [Option.some.injEq, Prod.mk.injEq] at hr; obtain ⟨rfl, rfl⟩ := hr
      obtain ⟨e, ht⟩ := ht
      exact ⟨rfl, .purely (.int _ _) fun w2 => by simp [Builtin.len_, goInt, Sem.run_bind, run_underlying ht]⟩
    · cases hr
  | _ => cases hr

theorem eqFields_flat (d : Nat) (w2 : World) : ∀ (fs : List Field) (n : Nat) (ks : List Nat) (xs ys : Array Value) (as bs : List AV) (r : Bool), kindsF P n fs = some ks → kindsB ks as = true → cseq as bs = some r →
    (∀ (j : Nat) c, as[j]? = some c → ∃ v, xs[n + j]? = some v ∧ VR w m h v c) → (∀ (j : Nat) c, bs[j]? = some c → ∃ v, ys[n + j]? = some v ∧ VR w m h v c) → (Op.eqFields (d + 1) xs ys fs).run P w2 = .ok r w2
  | [], n, ks, xs, ys, as, bs, r, hk, hb, hc, _, _ => by
    simp only [kindsF, Option.some.injEq] at hk
    subst hk
    cases as with
    | nil => cases bs with
      | nil => simp only [cseq, Option.some.injEq] at hc; subst hc; rfl
      | cons => simp [cseq] at hc
    | cons => simp [kindsB] at hb
  | f :: fs, n, ks, xs, ys, as, bs, r, hk, hb, hc, hx, hy => by
    simp only [kindsF] at hk
    split at hk
    case isFalse => cases hk
    rename_i hf
    obtain ⟨hf1, hf2⟩ := hf
    cases as with
    | nil => (split at hk) <;> first | (cases hk; done) | (rw [Option.map_eq_some_iff] at hk; obtain ⟨ks', _, rfl⟩ := hk; simp [kindsB] at hb)
    | cons a as =>
      cases bs with
      | nil => simp [cseq] at hc
      | cons b bs =>
        simp only [cseq] at hc
        cases hab : ceq a b with
        | none => rw [hab] at hc; cases hc
        | some x =>
          rw [hab] at hc
          simp only at hc
          cases hcs : cseq as bs with
          | none => rw [hcs] at hc; cases hc
          | some y =>
            rw [hcs] at hc
            simp only [Option.some.injEq] at hc
            subst hc
            obtain ⟨u, hu1, hu2⟩ := hx 0 a rfl
            obtain ⟨v, hv1, hv2⟩ := hy 0 b rfl
            rw [Nat.add_zero] at hu1 hv1
            have rest : ∀ ks', kindsF P (n + 1) fs = some ks' → kindsB ks' as = true → (Op.eqFields (d + 1) xs ys fs).run P w2 = .ok y w2 := fun ks' h1 h2 =>
              eqFields_flat d w2 fs (n + 1) ks' xs ys as bs y h1 h2 hcs (fun j c hj => by
                obtain ⟨v, e, g⟩ := hx (j + 1) c (by simpa using hj)
                exact ⟨v, by rw [Nat.add_assoc, Nat.add_comm 1 j]; exact e, g⟩) (fun j c hj => by
                obtain ⟨v, e, g⟩ := hy (j + 1) c (by simpa using hj)
                exact ⟨v, by rw [Nat.add_assoc, Nat.add_comm 1 j]; exact e, g⟩)
            have go : ∀ dsc, P.underlying f.type = some dsc → dsc.isRow = false → (Op.equalIn (d + 1) f.type u v).run P w2 = .ok x w2 → (Op.eqFields (d + 1) xs ys fs).run P w2 = .ok y w2 → (Op.eqFields (d + 1) xs ys (f :: fs)).run P w2 = .ok (x && y) w2 := fun dsc ht hr h1 h2 => by
              simp only [Op.eqFields]
              rw [if_pos hf1, Sem.run_bind, hf2, run_part1 ht hr xs n u hu1, Result.andThen_ok, Sem.run_bind, run_part1 ht hr ys n v hv1, Result.andThen_ok, Sem.run_bind, h1, Result.andThen_ok]
              cases x with
              | true => simp only [Bool.not_true, Bool.false_eq_true, if_false, Bool.true_and]; exact h2
              | false => rfl
            split at hk
            · rename_i ht
              rw [Option.map_eq_some_iff] at hk
              obtain ⟨ks', hk, rfl⟩ := hk
              cases a <;> simp only [kindsB, Bool.false_eq_true] at hb
              cases b <;> simp only [ceq, reduceCtorEq, Option.some.injEq] at hab
              cases hu2; cases hv2
              subst hab
              exact go _ ht rfl (run_equalIn_bool ht d _ _ w2) (rest ks' hk hb)
            · rename_i k0 ht
              rw [Option.map_eq_some_iff] at hk
              obtain ⟨ks', hk, rfl⟩ := hk
              cases a <;> simp only [kindsB, Bool.false_eq_true] at hb
              cases b <;> simp only [ceq, reduceCtorEq] at hab
              split at hab
              · rename_i hkk
                simp only [Option.some.injEq] at hab
                subst hkk
                cases hu2; cases hv2
                subst hab
                exact go _ ht rfl (run_equalIn_int w2 d f.type _ k0 _ _ ht) (rest ks' hk hb)
              · cases hab
            · rename_i ht
              rw [Option.map_eq_some_iff] at hk
              obtain ⟨ks', hk, rfl⟩ := hk
              cases a <;> simp only [kindsB, Bool.false_eq_true] at hb
              cases b <;> simp only [ceq, reduceCtorEq, Option.some.injEq] at hab
              cases hu2; cases hv2
              subst hab
              exact go _ ht rfl (run_equalIn_string w2 d f.type _ _ ht) (rest ks' hk hb)
            · cases hk
theorem q_seq {t : TypeId} {fs : Array Field} {ks : List Nat} (ht : P.underlying t = some (.struct fs)) (hk : kindsF P 0 fs.toList = some ks) (h1 : P.stoodInHeld t = false) (h2 : P.eqGuardType P.depth t = false)
    {u v : Value} {as bs : List AV} (hu : VR w m h u (.agg as)) (hv : VR w m h v (.agg bs)) (hb : kindsB ks as = true) {r : Bool} (hc : cseq as bs = some r) (neg : Bool) (ox oy : Operand) :
    Quiet P w m h (do eqGuard (if neg then .neq else .eql) t ox oy u v; binOp (if neg then .neq else .eql) t u v) (.bool (if neg then !r else r)) := by
  cases hu with
  | agg xs _ hxs hxc hxr =>
    cases hv with
    | agg ys _ hys hyc hyr =>
      have hfo : P.fieldsOf t = fs := by simp only [Program.fieldsOf, ht]
      have hrun : ∀ w2, (Op.equalIn 10000 t (.agg xs) (.agg ys)).run P w2 = .ok r w2 := fun w2 => by
        rw [run_equalIn_struct w2 9999 t xs ys (by rw [hfo]; exact ht) h1, hfo]
        refine eqFields_flat (w := w) (m := m) (h := h) 9998 w2 fs.toList 0 ks xs ys as bs r hk hb hc (fun j c hj => ?_) (fun j c hj => ?_)
        · have hlt : j < xs.size := by rw [hxs]; exact (List.getElem?_eq_some_iff.1 hj).1
          exact ⟨xs[j], by simp [hlt], hxr j _ c (by simp [hlt]) hj⟩
        · have hlt : j < ys.size := by rw [hys]; exact (List.getElem?_eq_some_iff.1 hj).1
          exact ⟨ys[j], by simp [hlt], hyr j _ c (by simp [hlt]) hj⟩
      cases neg
      · refine .purely (.bool _) fun w2 => ?_
        show (do eqGuard .eql t ox oy (.agg xs) (.agg ys); binOp .eql t (.agg xs) (.agg ys) : Sem Value).run P w2 = _
        rw [Sem.run_bind, run_eqGuard_agg w2 .eql t ox oy xs ys h2, Result.andThen_ok, run_eql_struct, hrun]; rfl
      · refine .purely (.bool _) fun w2 => ?_
        show (do eqGuard .neq t ox oy (.agg xs) (.agg ys); binOp .neq t (.agg xs) (.agg ys) : Sem Value).run P w2 = _
        rw [Sem.run_bind, run_eqGuard_agg w2 .neq t ox oy xs ys h2, Result.andThen_ok, run_neq_struct, hrun]; rfl
theorem q_mnx (mx : Bool) (k : IntKind) (a b : Int) (ats : Array TypeId) (ty : TypeId) :
    Quiet P w m h ((if mx then Builtin.max_ else Builtin.min_) ats ty #[.int k a, .int k b]) (.int k (if mx then (if b > a then b else a) else (if b < a then b else a))) := by
  cases mx
  · exact .purely (.int _ _) fun w2 => by simp [Builtin.min_, Builtin.min2]
  · exact .purely (.int _ _) fun w2 => by simp [Builtin.max_, Builtin.max2]

end
end Go.PA
