/- Typed values: statements. No condition. -/
import Derived.Test.YtaekmccjendfoaaV16K
namespace Go.PA
set_option linter.unusedVariables false
set_option linter.unusedSimpArgs false

theorem chk_some {ρ : Type} {b : Bool} {x : Option ρ} {out : ρ} (h : chk b x = some out) : b = true ∧ x = some out := by
  cases b with
  | true => exact ⟨rfl, h⟩
  | false => cases h
theorem chks_some {ρ : Type} : ∀ {c : List Bool} {x : Option ρ} {out : ρ}, chks c x = some out → (∀ b ∈ c, b = true) ∧ x = some out
  | [], x, out, h => ⟨fun b hb => by simp at hb, h⟩
  | b :: c, x, out, h => by
    obtain ⟨h1, h2⟩ := chk_some h
    obtain ⟨h3, h4⟩ := chks_some h2
    refine ⟨fun b' hb => ?_, h4⟩
    rcases List.mem_cons.1 hb with rfl | hb
    · exact h1
    · exact h3 b' hb

section
variable {P : Program} {ρ : Type} {C : Ctrs} {an : List (Nat × An)}
theorem astep_det {env : List AV} {h h' : Heap} {op : AOp} {r : AV} {K : AV → Heap → Prop} (hd : adet env h op = some (r, h')) (k : K r h') : astep P env h op K := by
  cases op <;> first | (simp only [adet, reduceCtorEq] at hd; done) | (simp only [astep, hd]; exact k)
theorem xstp_det {c : Bool} {env : List AV} {h h' : Heap} {op : AOp} {r : AV} {K : AV → Heap → Prop} (hd : adet env h op = some (r, h')) (k : K r h') : xstp P c env h op K := by
  cases op <;> first | (simp only [adet, reduceCtorEq] at hd; done) | (simp only [xstp, hd]; exact k)
theorem cond_met {B : Bg} {M : Mp} {env : List AV} {h : Heap} {s : VS} (S : SRel B M env h s) {g : Tmp × Bool} {b : Bool} (hc : s.cond 4 g = some b) : guardB env (some g) = some b ∧ (b = true → Met env (some g)) ∧ (b = false → env.getD g.1 .bad ≠ .bool g.2) := by
  obtain ⟨t, w⟩ := g
  obtain ⟨h1, h2⟩ := cond_ok S 4 t w b hc
  exact ⟨h1, fun hb => h2.1 hb, fun hb e => by rw [h2.2 e] at hb; cases hb⟩

/-- A call under a guard. -/
theorem vcallG_ok {B : Bg} {M : Mp} {env : List AV} {h : Heap} {s : VS} (S : SRel B M env h s) {f : FuncId} {c : Ctr} (HC : CtrOk P f c) {g : Tmp × Bool} {b : Bool} {args : List Operand} {K : TV → Option ρ} {out : ρ} (hv : vcallG s c b (args.map (s.ev (some g))) K = some out) :
    ∃ v, K v = some out ∧ (b = true → Met env (some g) → ∃ r ts, FR P f ts r ∧ Seens h (args.map (aeval env)) ts ∧ TVR M h v r) := by
  unfold vcallG at hv
  split at hv
  · rename_i l ha
    split at hv
    · rename_i hf
      split at hv
      · rename_i d hd
        obtain ⟨hb, hv⟩ := chk_some hv
        generalize hgg : giveTVs [] (c.rs.flatMap (·.cs)) ((c.fn d).getD (Ty.ds0 _)) s = q at hv
        obtain ⟨vs, s1⟩ := q
        refine ⟨_, hv, fun hbt hm => ?_⟩
        subst hbt
        simp only [Bool.not_true, Bool.or_false] at hb
        obtain ⟨y, hy⟩ := Option.isSome_iff_exists.1 hb
        rw [hy, Option.getD_some] at hgg
        obtain ⟨ts, tl, g1, g2, g3⟩ := sees S ha hd (S.evs hm args)
        obtain ⟨k1, k2⟩ := fresh_fr HC hf hy g1 g2
        refine ⟨_, ts, k1, g3, ?_⟩
        refine k2 M h vs ?_
        have key : ∀ (ts : List Ty) (x : Ty.Ds ts) (s : VS), TVRs M h (giveTVs [] ts x s).1 (frCs ts x) := by
          intro ts
          induction ts with
          | nil => intro x s; simp only [giveTVs, frCs, TVRs]
          | cons t ts ih =>
            intro x s
            have := ih x.2 s
            cases t <;> simp only [giveTVs, hdO, List.tail_nil, frCs, TVRs] <;> refine ⟨?_, this⟩
            · exact toTV_lit (frC_lit _ _)
            · exact toTV_lit (frC_lit _ _)
            · exact toTV_lit (frC_lit _ _)
            · simp only [TVR]; exact frC_lit _ _
        have := key _ y s
        rw [hgg] at this
        exact this
      · cases hv
    · cases hv
  · cases hv

theorem vstep_o (HC : ∀ f c, C f = some c → CtrOk P f c) {B : Bg} {M : Mp} {env : List AV} {h : Heap} {s : VS} (S : SRel B M env h s) {o : AOper} {K : VS → Option ρ} {out : ρ} (hv : vstep C an .o s o K = some out) {Q : List AV → Heap → Prop}
    (hK : ∀ M' s' env' h', SRel B M' env' h' s' → K s' = some out → Q env' h') : aguard env o.guard (astep P env h o.op fun v h' => Q (aput env o.dst v) h') (Q (aput env o.dst (.tup [])) h) := by
  obtain ⟨dst, op, gd⟩ := o
  unfold vstep at hv
  cases gd with
  | none =>
    simp only at hv
    show astep P env h op _
    have det : ∀ (hv : (if VM.o.op s op then match vdet an s none dst op with
        | .ok c v s1 => match s1.put dst v with
          | some s2 => chks c (K s2)
          | none => none
        | .no => none
        else none) = some out), astep P env h op fun v h' => Q (aput env dst v) h' := fun hv => by
      rw [if_pos (by rfl)] at hv
      split at hv
      · rename_i c v s1 hd
        split at hv
        · rename_i s2 hp
          obtain ⟨hc, hk⟩ := chks_some hv
          obtain ⟨M', r, h', h1, h2, h3⟩ := vdet_ok S hd hc
          exact astep_det h1 (hK _ _ _ _ (h2.put hp h3) hk)
        · cases hv
      · cases hv
    cases op with
    | call f args =>
      simp only at hv
      split at hv
      · rename_i c hcf
        rw [if_pos (by rfl)] at hv
        obtain ⟨R, h1, h2⟩ := vcall_ok S (HC f c hcf) hv
        refine ⟨R, h1, fun r h' hr => ?_⟩
        obtain ⟨M', s', v, k1, k2, k3⟩ := h2 r h' hr
        split at k3
        · rename_i s2 hp
          exact hK _ _ _ _ (k1.put hp k2) k3
        · cases k3
      · cases hv
    | _ => exact det hv
  | some g =>
    simp only at hv
    split at hv
    · cases hv
    · rename_i b hc
      obtain ⟨c1, c2, c3⟩ := cond_met S hc
      have det : ∀ (hv : (if quietB op then match vdet an s (some g) dst op with
          | .ok c v _ => match s.putG dst g v with
            | some s2 => chks (c.map fun x => x || !b) (K s2)
            | none => none
          | .no => none
          else none) = some out), aguard env (some g) (astep P env h op fun v h' => Q (aput env dst v) h') (Q (aput env dst (.tup [])) h) := fun hv => by
        split at hv
        · rename_i hq
          split at hv
          · rename_i c v s1 hd
            split at hv
            · rename_i s2 hp
              obtain ⟨hcs, hk⟩ := chks_some hv
              refine guardB_ok b c1 (fun hb => ?_) (fun hb => ?_)
              · obtain ⟨_, r, h1, h2⟩ := vdet_quiet S (c2 hb) hq hd (fun x hx => by
                  have := hcs (x || !b) (List.mem_map.2 ⟨x, hx, rfl⟩)
                  simpa [hb] using this)
                exact astep_det h1 (hK _ _ _ _ (S.putG hp (fun _ => h2) (fun hn => absurd (c2 hb) hn)) hk)
              · exact hK _ _ _ _ (S.putG hp (fun e => absurd e (c3 hb)) (fun _ => rfl)) hk
            · cases hv
          · cases hv
        · cases hv
      cases op with
      | call f args =>
        simp only at hv
        split at hv
        · rename_i c hcf
          obtain ⟨v, k1, k2⟩ := vcallG_ok S (HC f c hcf) hv
          split at k1
          · rename_i s2 hp
            refine guardB_ok b c1 (fun hb => ?_) (fun hb => ?_)
            · obtain ⟨r, ts, g1, g2, g3⟩ := k2 hb (c2 hb)
              exact ⟨_, g1.lift (g2.ext (HExt.refl h)), fun r' h' ⟨e1, e2⟩ => by subst e1; subst e2; exact hK _ _ _ _ (S.putG hp (fun _ => g3) (fun hn => absurd (c2 hb) hn)) k1⟩
            · exact hK _ _ _ _ (S.putG hp (fun e => absurd e (c3 hb)) (fun _ => rfl)) k1
          · cases k1
        · cases hv
      | _ => exact det hv

theorem vops_o (HC : ∀ f c, C f = some c → CtrOk P f c) {B : Bg} : ∀ (l : List AOper) {M : Mp} {env : List AV} {h : Heap} {s : VS} {K : VS → Option ρ} {out : ρ}, SRel B M env h s → vops C an .o l s K = some out → ∀ {Q : List AV → Heap → Prop},
    (∀ M' s' env' h', SRel B M' env' h' s' → K s' = some out → Q env' h') → aops P l Q env h
  | [], M, env, h, s, K, out, S, hv, Q, hK => hK _ _ _ _ S.clean hv
  | o :: l, M, env, h, s, K, out, S, hv, Q, hK => vstep_o HC S hv fun M' s' env' h' S' hv' => vops_o HC l S' hv' hK

theorem vstep_x (HC : ∀ f c, C f = some c → CtrOk P f c) {cf : Bool} {us : List Tmp} {B : Bg} {M : Mp} {env : List AV} {h : Heap} {s : VS} (S : SRel B M env h s) {o : AOper} {K : VS → Option ρ} {out : ρ} (hl : ∀ t ∈ us, t < env.length) (hv : vstep C an (.x cf us) s o K = some out) {Q : List AV → Heap → Prop}
    (hK : ∀ M' s' env' h', SRel B M' env' h' s' → K s' = some out → Q env' h') : aguard env o.guard (xstp P cf env h o.op fun v h' => (∀ t ∈ us, t < env.length ∧ SameAt h h' (env.getD t .bad)) ∧ Q (aput env o.dst v) h') (Q (aput env o.dst (.tup [])) h) := by
  have rf : ∀ t ∈ us, t < env.length ∧ SameAt h h (env.getD t .bad) := fun t ht => ⟨hl t ht, SameAt.refl _ _⟩
  obtain ⟨dst, op, gd⟩ := o
  unfold vstep at hv
  cases gd with
  | none =>
    simp only at hv
    show xstp P cf env h op fun v h' => (∀ t ∈ us, t < env.length ∧ SameAt h h' (env.getD t .bad)) ∧ Q (aput env dst v) h'
    have det : ∀ (hv : (if (VM.x cf us).op s op then match vdet an s none dst op with
        | .ok c v s1 => match s1.put dst v with
          | some s2 => chks c (K s2)
          | none => none
        | .no => none
        else none) = some out), xstp P cf env h op fun v h' => (∀ t ∈ us, t < env.length ∧ SameAt h h' (env.getD t .bad)) ∧ Q (aput env dst v) h' := fun hv => by
      split at hv
      case isFalse => cases hv
      rename_i hus
      split at hv
      · rename_i c v s1 hd
        split at hv
        · rename_i s2 hp
          obtain ⟨hc, hk⟩ := chks_some hv
          obtain ⟨M', r, h', h1, h2, h3⟩ := vdet_ok S hd hc
          exact xstp_det h1 ⟨fun t ht => ⟨hl t ht, usDet_ok S hus h1 t ht⟩, hK _ _ _ _ (h2.put hp h3) hk⟩
        · cases hv
      · cases hv
    cases op with
    | call f args =>
      simp only at hv
      split at hv
      · rename_i c hcf
        split at hv
        case isFalse => cases hv
        rename_i hctr
        have HCf := HC f c hcf
        unfold vcall at hv
        split at hv
        · rename_i hfr
          have HA := S.evs (g := none) trivial args
          split at hv
          case h_2 => cases hv
          rename_i hus
          cases hrw : VM.rows (.x cf us) an dst
          case true =>
            rw [hrw] at hv hus
            simp only [VM.rows, Bool.and_eq_true] at hrw
            obtain ⟨rfl, _⟩ := hrw
            obtain ⟨R, h1, h2⟩ := vcallF_ok S HCf hv
            refine .inr ⟨rfl, R, h1, fun r h' hr => ?_⟩
            obtain ⟨hF, M', s', v, k1, k2, k3⟩ := h2 r h' hr
            refine ⟨fun t ht => ⟨hl t ht, usBox_ok S (bs := []) (us := us) (by have hu := hus; simp only [Bool.not_true, Bool.false_or] at hu; exact hu) (fun b hb => by simp at hb) (hF rfl) (fun x hx => by simp at hx) t ht⟩, ?_⟩
            split at k3
            · rename_i s2 hp
              exact hK _ _ _ _ (k1.put hp k2) k3
            · cases k3
          rw [hrw] at hv
          unfold vcallF at hv
          split at hv
          · rename_i l ha
            rw [hfr] at hv
            simp only at hv
            split at hv
            · rename_i d hd
              simp only [Option.bind_eq_some_iff] at hv
              obtain ⟨y, hy, hv⟩ := hv
              obtain ⟨ts, tl, g1, g2, g3⟩ := sees S ha hd HA
              obtain ⟨k1, k2⟩ := fresh_fr HCf hfr hy g1 g2
              simp only [Bool.false_eq_true, if_false] at hv
              obtain ⟨M0, S0⟩ := S.frees (anDrop an dst)
              generalize hgg : giveTVs [] (c.rs.flatMap (·.cs)) y (s.frees (anDrop an dst)) = q at hv
              obtain ⟨vs, s1⟩ := q
              obtain ⟨M1, p1, p2, p3⟩ := giveTVs_ok _ S0 (lits_cells _ (frCs_lit _ y)) List.nodup_nil (fun x hx => by simp at hx) hgg
              refine .inl ⟨_, ts, k1, g3, rf, ?_⟩
              simp only at hv
              split at hv
              · rename_i s2 hp
                exact hK _ _ _ _ (p1.put hp (k2 M1 _ vs p3)) hv
              · cases hv
            · cases hv
          · cases hv
        · rename_i hfr
          simp only [VM.ctr, hfr, Bool.false_or, Bool.and_eq_true, Bool.not_eq_true'] at hctr
          obtain ⟨rfl, hio⟩ := hctr
          rw [hio] at hv
          simp only at hv
          obtain ⟨R, h1, h2⟩ := vcallO_ok S HCf hfr hio hv
          refine .inr ⟨rfl, R, h1, fun r h' hr => ?_⟩
          obtain ⟨hs, M', s', v, k1, k2, k3⟩ := h2 r h' hr
          refine ⟨fun t ht => ⟨hl t ht, hs t ht⟩, ?_⟩
          split at k3
          · rename_i s2 hp
            exact hK _ _ _ _ (k1.put hp k2) k3
          · cases k3
      · cases hv
    | _ => exact det hv
  | some g =>
    simp only at hv
    split at hv
    · cases hv
    · rename_i b hc
      obtain ⟨c1, c2, c3⟩ := cond_met S hc
      have det : ∀ (hv : (if quietB op then match vdet an s (some g) dst op with
          | .ok c v _ => match s.putG dst g v with
            | some s2 => chks (c.map fun x => x || !b) (K s2)
            | none => none
          | .no => none
          else none) = some out), aguard env (some g) (xstp P cf env h op fun v h' => (∀ t ∈ us, t < env.length ∧ SameAt h h' (env.getD t .bad)) ∧ Q (aput env dst v) h') (Q (aput env dst (.tup [])) h) := fun hv => by
        split at hv
        · rename_i hq
          split at hv
          · rename_i c v s1 hd
            split at hv
            · rename_i s2 hp
              obtain ⟨hcs, hk⟩ := chks_some hv
              refine guardB_ok b c1 (fun hb => ?_) (fun hb => ?_)
              · obtain ⟨_, r, h1, h2⟩ := vdet_quiet S (c2 hb) hq hd (fun x hx => by
                  have := hcs (x || !b) (List.mem_map.2 ⟨x, hx, rfl⟩)
                  simpa [hb] using this)
                exact xstp_det h1 ⟨rf, hK _ _ _ _ (S.putG hp (fun _ => h2) (fun hn => absurd (c2 hb) hn)) hk⟩
              · exact hK _ _ _ _ (S.putG hp (fun e => absurd e (c3 hb)) (fun _ => rfl)) hk
            · cases hv
          · cases hv
        · cases hv
      cases op with
      | call f args =>
        simp only at hv
        split at hv
        · rename_i c hcf
          obtain ⟨v, k1, k2⟩ := vcallG_ok S (HC f c hcf) hv
          split at k1
          · rename_i s2 hp
            refine guardB_ok b c1 (fun hb => ?_) (fun hb => ?_)
            · obtain ⟨r, ts, g1, g2, g3⟩ := k2 hb (c2 hb)
              exact .inl ⟨r, ts, g1, g2, rf, hK _ _ _ _ (S.putG hp (fun _ => g3) (fun hn => absurd (c2 hb) hn)) k1⟩
            · exact hK _ _ _ _ (S.putG hp (fun e => absurd e (c3 hb)) (fun _ => rfl)) k1
          · cases k1
        · cases hv
      | _ => exact det hv
theorem vxops_ok (HC : ∀ f c, C f = some c → CtrOk P f c) {cf : Bool} {B : Bg} : ∀ (l : List XOp) {M : Mp} {env : List AV} {h : Heap} {s : VS} {K : VS → Option ρ} {out : ρ}, SRel B M env h s → vxops C an cf l s K = some out → ∀ {Q : List AV → Heap → Prop},
    (∀ M' s' env' h', SRel B M' env' h' s' → K s' = some out → Q env' h') → xrun P cf l Q env h
  | [], M, env, h, s, K, out, S, hv, Q, hK => hK _ _ _ _ S.clean hv
  | o :: l, M, env, h, s, K, out, S, hv, Q, hK => by
    simp only [vxops] at hv
    split at hv
    · rename_i hu
      exact vstep_x HC S (fun t ht => by rw [← S.len]; simpa using List.all_eq_true.1 hu t ht) hv fun M' s' env' h' S' hv' => vxops_ok HC l S' hv' hK
    · cases hv

end
end Go.PA
