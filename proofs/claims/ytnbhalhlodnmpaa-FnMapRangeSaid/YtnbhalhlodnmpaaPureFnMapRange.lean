/- The pure statement of FnMapRange: for every drawn disk and block the range is that of the reference, and three blocks in a row lie in three ranges. -/
import Derived.IntWalk
import Derived.Test.YtnbhalhlodnmpaaPFnMapRangex2
namespace Go.Proofs.Ytnbhalhlodnmpaa.Pure
open Go.RowKit Go.Proofs.Ytnbhalhlodnmpaa.PFnMapRange Go.Proofs.YtnbhalhlodnmpaaW.PrintWords Go.Proofs.YtnbhalhlodnmpaaW.PrintLast

theorem xor_i64_nat (a b : Nat) (ha : a < 9223372036854775808) (hb : b < 9223372036854775808) :
    Go.bits .xor .i64 (a : Int) (b : Int) = ((a ^^^ b : Nat) : Int) := by
  have hx : a ^^^ b < 2 ^ 63 := Nat.xor_lt_two_pow (by omega) (by omega)
  have h1 : (BitVec.ofInt 64 (a : Int)).toNat = a := by
    rw [BitVec.ofInt_natCast, BitVec.toNat_ofNat]; exact Nat.mod_eq_of_lt (by omega)
  have h2 : (BitVec.ofInt 64 (b : Int)).toNat = b := by
    rw [BitVec.ofInt_natCast, BitVec.toNat_ofNat]; exact Nat.mod_eq_of_lt (by omega)
  show IntKind.i64.wrap ((BitVec.ofInt 64 (a : Int) ^^^ BitVec.ofInt 64 (b : Int)).toNat : Int) = _
  rw [BitVec.toNat_xor, h1, h2]
  exact IntWalk.i64_in _ ⟨by omega, by omega⟩

theorem w64 (n : Int) (h : -9223372036854775808 ≤ n) (h2 : n ≤ 9223372036854775807) : wrap64 n = n := by unfold wrap64; omega

theorem rd_byte {s : List Int} (hb : ∀ x ∈ s, 0 ≤ x ∧ x < 256) (i : Int) : 0 ≤ rd s i ∧ rd s i < 256 := by
  unfold rd
  by_cases h : i.toNat < s.length
  · have := hb (s[i.toNat]) (List.getElem_mem h)
    rw [List.getD_eq_getElem?_getD, List.getElem?_eq_getElem h]; exact this
  · rw [List.getD_eq_getElem?_getD, List.getElem?_eq_none (by omega)]; simp

theorem mixed (x : Int) (n : Int) (h0 : 0 ≤ x) (h : x < 9223372036854775807) (hn : 1 ≤ n) :
    0 ≤ Int.tmod (Go.bits .xor .i64 x (wrap64 (Int.tdiv x 64))) n ∧ Int.tmod (Go.bits .xor .i64 x (wrap64 (Int.tdiv x 64))) n < n := by
  obtain ⟨a, rfl⟩ := Int.eq_ofNat_of_zero_le h0
  have e : Int.tdiv (a : Int) 64 = ((a / 64 : Nat) : Int) := rfl
  rw [e, w64 _ (by omega) (by omega), xor_i64_nat _ _ (by omega) (by omega)]
  rw [Int.tmod_eq_emod_of_nonneg (by omega)]
  exact ⟨Int.emod_nonneg _ (by omega), Int.emod_lt_of_pos _ (by omega)⟩

theorem tmod_range (x n : Int) (h0 : 0 ≤ x) (hn : 1 ≤ n) : 0 ≤ Int.tmod x n ∧ Int.tmod x n < n := by
  rw [Int.tmod_eq_emod_of_nonneg h0]
  exact ⟨Int.emod_nonneg _ (by omega), Int.emod_lt_of_pos _ (by omega)⟩

theorem pick_some (s : List Int) (p n : Int) (hs : s.length ≤ 2000) (hb : ∀ x ∈ s, 0 ≤ x ∧ x < 256) (hp : 0 ≤ p) (hp2 : p < 1000000)
    (hn : 1 ≤ n) (k : Nat) : ∃ r, spec_l6Rd_pick.f (k + 1) s p n = some (r, p + 1) ∧ 0 ≤ r ∧ r < n := by
  unfold spec_l6Rd_pick.f
  rw [if_neg (by omega), w64 (p + 1) (by omega) (by omega)]
  simp only [spec_l6Rd_pick.j0]
  by_cases h0 : s.length = 0
  · rw [if_pos (by simp [h0])]
    exact ⟨0, rfl, by omega, by omega⟩
  · rw [if_neg (by intro h; exact h0 (by have := eq_of_beq h; omega)), w64 (p + 1 - 1) (by omega) (by omega)]
    have ep : p + 1 - 1 = p := by omega
    rw [ep]
    have hl : (1 : Int) ≤ (s.length : Int) := by omega
    by_cases h1 : p < (s.length : Int)
    · rw [if_pos h1, if_pos hp, if_neg (by omega)]
      have hr := rd_byte hb p
      rw [w64 (rd s p) (by omega) (by omega)]
      exact ⟨_, rfl, tmod_range _ _ hr.1 hn⟩
    · rw [if_neg h1, if_neg (by omega)]
      have t1 := tmod_range p s.length hp hl
      rw [if_pos t1.1, if_pos t1.2, w64 (p * 7) (by omega) (by omega), w64 (p * 7 + 3) (by omega) (by omega)]
      have t2 := tmod_range (p * 7 + 3) s.length (by omega) hl
      rw [if_pos t2.1, if_pos t2.2, if_neg (by omega)]
      have r1 := rd_byte hb (Int.tmod p s.length)
      have r2 := rd_byte hb (Int.tmod (p * 7 + 3) s.length)
      have d0 : 0 ≤ Int.tdiv p s.length := Int.tdiv_nonneg hp (by omega)
      have d1 : Int.tdiv p s.length ≤ p := by
        rw [Int.tdiv_eq_ediv_of_nonneg hp]
        exact Int.ediv_le_self _ hp
      generalize rd s (Int.tmod p s.length) = A at *
      generalize rd s (Int.tmod (p * 7 + 3) s.length) = B at *
      generalize Int.tdiv p s.length = D at *
      rw [w64 A (by omega) (by omega), w64 B (by omega) (by omega), w64 (A * 131) (by omega) (by omega), w64 (B * 1117) (by omega) (by omega),
        w64 (A * 131 + B * 1117) (by omega) (by omega), w64 (p * 29) (by omega) (by omega), w64 (A * 131 + B * 1117 + p * 29) (by omega) (by omega),
        w64 D (by omega) (by omega), w64 (D * 53) (by omega) (by omega), w64 (A * 131 + B * 1117 + p * 29 + D * 53) (by omega) (by omega)]
      exact ⟨_, rfl, mixed _ _ (by omega) (by omega) hn⟩

theorem l72Num_some (s : List Int) (p : Int) (hs : s.length ≤ 2000) (hb : ∀ x ∈ s, 0 ≤ x ∧ x < 256) (hp : 0 ≤ p) (hp2 : p < 100000) (k : Nat) :
    ∃ r, spec_l72Num.f (k + 1) s p = some (r, p + 3) := by
  unfold spec_l72Num.f
  obtain ⟨a, ha, _, _⟩ := pick_some s p 200 hs hb hp (by omega) (by omega) k
  rw [ha]; simp only [Option.bind_some]
  obtain ⟨b, hb', _, _⟩ := pick_some s (p + 1) 30000 hs hb (by omega) (by omega) (by omega) k
  rw [hb']; simp only [Option.bind_some]
  obtain ⟨c, hc, c0, c1⟩ := pick_some s (p + 1 + 1) 10 hs hb (by omega) (by omega) (by omega) k
  rw [hc]; simp only [Option.bind_some]
  rw [if_pos c0, if_pos (by simpa using c1)]
  exact ⟨_, by rw [show p + 1 + 1 + 1 = p + 3 by omega]⟩

theorem draw_some (l : List Int) (hb : ∀ x ∈ l, 0 ≤ x ∧ x < 256) (k : Nat) : ∃ d b, spec_DrawMapRange.f (k + 1) l = some (d, b) := by
  have ho : ∃ s, spec_l6Open.f l = some (s, 0) ∧ s.length ≤ 2000 ∧ ∀ x ∈ s, 0 ≤ x ∧ x < 256 := by
    unfold spec_l6Open.f
    by_cases h : (l.length : Int) > 2000
    · rw [if_pos h, if_pos (by omega)]
      exact ⟨_, rfl, by rw [List.length_take]; omega, fun x hx => hb x (List.mem_of_mem_take hx)⟩
    · rw [if_neg h]
      exact ⟨_, rfl, by omega, hb⟩
  obtain ⟨s, h1, hs, hbs⟩ := ho
  unfold spec_DrawMapRange.f
  rw [h1]; simp only [Option.bind_some]
  obtain ⟨a, ha⟩ := l72Num_some s 0 hs hbs (by omega) (by omega) k
  rw [ha]; simp only [Option.bind_some]
  obtain ⟨b, hb1, _⟩ := pick_some s (0 + 3) 8 hs hbs (by omega) (by omega) (by omega) k
  rw [hb1]; simp only [Option.bind_some]
  obtain ⟨c, hc⟩ := l72Num_some s (0 + 3 + 1) hs hbs (by omega) (by omega) k
  rw [hc]; simp only [Option.bind_some]
  obtain ⟨d, hd, _⟩ := pick_some s (0 + 3 + 1 + 3) 8 hs hbs (by omega) (by omega) (by omega) k
  rw [hd]; simp only [Option.bind_some]
  exact ⟨_, _, rfl⟩

theorem impl_range (a b : Int) : impl_MapRange.f a b = some (if 0 ≤ a ∧ a ≤ 99999 ∧ 0 ≤ b ∧ b ≤ 99999 then (a + b) % 3 else 0) := by
  unfold impl_MapRange.f impl_in.f
  by_cases h1 : a ≥ 0
  · rw [if_pos h1]; simp only [Option.bind_some]
    by_cases h2 : a ≤ 99999
    · rw [if_pos (by simpa using h2)]
      by_cases h3 : b ≥ 0
      · rw [if_pos h3]; simp only [Option.bind_some]
        by_cases h4 : b ≤ 99999
        · rw [if_pos (by simpa using h4), if_pos (by omega), w64 _ (by omega) (by omega), Int.tmod_eq_emod_of_nonneg (by omega)]
        · rw [if_neg (by simpa using h4), if_neg (by omega)]
      · rw [if_neg h3]; simp only [Option.bind_some]
        rw [if_neg (by simp), if_neg (by omega)]
    · rw [if_neg (by simpa using h2), if_neg (by omega)]
  · rw [if_neg h1]; simp only [Option.bind_some]
    rw [if_neg (by simp), if_neg (by omega)]

theorem FnMapRange : laws_FnMapRange.Pure := by
  intro l0 _ _ hw
  have hb : ∀ x ∈ l0, 0 ≤ x ∧ x < 256 := fun x hx => by
    have := hw x hx
    have e1 : IntKind.u8.min = 0 := by decide
    have e2 : IntKind.u8.max = 255 := by decide
    simp [Lit.wf, e1, e2] at this
    omega
  refine ⟨3, ?_⟩
  unfold laws_FnMapRange.f
  by_cases h : (l0.length : Int) > 1048576
  · rw [if_pos h]
  rw [if_neg h]
  obtain ⟨d, b, hd⟩ := draw_some l0 hb 2
  rw [hd]; simp only [Option.bind_some]
  have es : ∀ a b, spec_MapRange.f a b = impl_MapRange.f a b := fun _ _ => rfl
  rw [es, impl_range]; simp only [Option.bind_some, if_true]
  generalize hn : (if 0 ≤ d ∧ d ≤ 99999 ∧ 0 ≤ b ∧ b ≤ 99999 then (d + b) % 3 else 0) = n
  have hn2 : 0 ≤ n ∧ n < 3 := by split at hn <;> omega
  rw [if_neg (by omega)]
  simp only [laws_FnMapRange.j0, laws_FnMapRange.j1, if_true]
  rw [if_neg (by simp; omega)]
  by_cases h1 : d < 0
  · rw [if_pos h1]
  rw [if_neg h1]
  by_cases h2 : d > 99999
  · rw [if_pos h2]
  rw [if_neg h2]
  by_cases h3 : b < 0
  · rw [if_pos h3]
  rw [if_neg h3]
  by_cases h4 : b > 99997
  · rw [if_pos (by simpa using h4)]
  rw [if_neg (by simpa using h4), w64 (b + 1) (by omega) (by omega), w64 (b + 2) (by omega) (by omega), impl_range, impl_range]
  simp only [Option.bind_some]
  rw [if_pos (by omega)] at hn
  rw [if_pos (show 0 ≤ d ∧ d ≤ 99999 ∧ 0 ≤ b + 1 ∧ b + 1 ≤ 99999 by omega), if_pos (show 0 ≤ d ∧ d ≤ 99999 ∧ 0 ≤ b + 2 ∧ b + 2 ≤ 99999 by omega)]
  rw [if_neg (by omega), if_neg (by omega)]
  simp only [Option.some.injEq, bne_iff_ne, ne_eq]
  omega

end Go.Proofs.Ytnbhalhlodnmpaa.Pure
