/- The pure statement of FnExactBoxHomes: for all lists of numbers the program's BoxHomes and the reference's give the same texts, and the texts lie in memory of their own. -/
import Derived.Test.YtnbhalhlodnmpaaPFnExactBoxHomesx4
namespace Go.Proofs.Ytnbhalhlodnmpaa.Pure
open Go.RowKit Go.Proofs.Ytnbhalhlodnmpaa.PFnExactBoxHomes Go.Proofs.YtnbhalhlodnmpaaW.PrintWords Go.Proofs.YtnbhalhlodnmpaaW.PrintLast

theorem bw64 (n : Int) (h : -9223372036854775808 ≤ n) (h2 : n ≤ 9223372036854775807) : wrap64 n = n := by unfold wrap64; omega

def numOk (x : Int) : Bool := decide (-1 ≤ x) && decide (x ≤ 99999)
theorem spec_num (x : Int) : spec_l11Num.f x = some (numOk x) := by
  unfold spec_l11Num.f spec_l6In.f numOk
  by_cases h : x ≥ -1
  · rw [if_pos h]; simp only [Option.bind_some]; rw [decide_eq_true (show -1 ≤ x from h), Bool.true_and]
  · rw [if_neg h]; simp only [Option.bind_some]; rw [decide_eq_false (show ¬ -1 ≤ x from h), Bool.false_and]
theorem impl_num (x : Int) : impl_in.f x (-1) 99999 = some (numOk x) := by
  unfold impl_in.f numOk
  by_cases h : x ≥ -1
  · rw [if_pos h, decide_eq_true (show -1 ≤ x from h), Bool.true_and]
  · rw [if_neg h, decide_eq_false (show ¬ -1 ≤ x from h), Bool.false_and]

theorem rd_get (l : List Int) (i : Nat) (h : i < l.length) : rd l (i : Int) = l[i] := by
  unfold rd; rw [Int.toNat_natCast, List.getD_eq_getElem?_getD, List.getElem?_eq_getElem h]; rfl

theorem spec_check (l : List Int) (hl : l.length ≤ 2000000) (R : List ByteArray × Bool) (hR : Ev (fun k => spec_BoxHomes.l0 k l [] (l.length : Int)) R) (d : Nat) :
    ∀ i : Nat, i + d = l.length → Ev (fun k => spec_BoxHomes.l0 k l [] (i : Int)) (if (l.drop i).all numOk then R else ([], false)) := by
  induction d with
  | zero =>
    intro i hi
    have : i = l.length := by omega
    subst this
    simpa using hR
  | succ d ih =>
    intro i hi
    have hlt : i < l.length := by omega
    have e := List.drop_eq_getElem_cons hlt
    rw [e, List.all_cons]
    cases hn : numOk l[i] with
    | true =>
      rw [Bool.true_and]
      refine Ev.step (fun k => ?_) (ih (i + 1) (by omega))
      simp only [spec_BoxHomes.l0]
      rw [if_pos (by omega), if_pos (by omega), spec_num, rd_get l i hlt, hn]
      simp only [Option.bind_some, if_true]
      rw [bw64 _ (by omega) (by omega)]; rfl
    | false =>
      refine Ev.step (f := fun _ => some ([], false)) (fun k => ?_) (Ev.now _)
      simp only [spec_BoxHomes.l0]
      rw [if_pos (by omega), if_pos (by omega), spec_num, rd_get l i hlt, hn]
      simp

theorem impl_check (l : List Int) (hl : l.length ≤ 2000000) (d : Nat) :
    ∀ i : Nat, i + d = l.length → Ev (fun k => impl_numbersOk.l0 k l (l.length : Int) (i : Int)) ((l.drop i).all numOk) := by
  induction d with
  | zero =>
    intro i hi
    have : i = l.length := by omega
    subst this
    refine Ev.step (f := fun _ => some true) (fun k => ?_) (by simpa using Ev.now true)
    simp only [impl_numbersOk.l0]; rw [if_neg (by omega)]
  | succ d ih =>
    intro i hi
    have hlt : i < l.length := by omega
    have e := List.drop_eq_getElem_cons hlt
    rw [e, List.all_cons]
    cases hn : numOk l[i] with
    | true =>
      rw [Bool.true_and]
      refine Ev.step (fun k => ?_) (ih (i + 1) (by omega))
      simp only [impl_numbersOk.l0]
      rw [if_pos (by omega), if_pos (by omega), if_pos (by omega), impl_num, rd_get l i hlt, hn]
      simp only [Option.bind_some, if_true]
      rw [bw64 _ (by omega) (by omega)]; rfl
    | false =>
      refine Ev.step (f := fun _ => some false) (fun k => ?_) (Ev.now _)
      simp only [impl_numbersOk.l0]
      rw [if_pos (by omega), if_pos (by omega), if_pos (by omega), impl_num, rd_get l i hlt, hn]
      simp

def bnd : Nat → Int
  | 0 => 128
  | f + 1 => 128 * bnd f
def encB : Nat → Int → List Int
  | 0, x => [x % 256]
  | f + 1, x => if x > 127 then (x % 128 + 128) :: encB f (x / 128) else [x % 256]
theorem encB_len (f : Nat) : ∀ x, (encB f x).length ≤ f + 1 := by
  induction f with
  | zero => intro x; simp [encB]
  | succ f ih => intro x; simp only [encB]; split
                 · simp only [List.length_cons]; have := ih (x / 128); omega
                 · simp

theorem spec_enc (l : List Int) (i : Int) (hi : i < 9223372036854775807) (hi0 : 0 ≤ i) (R : List Int) (f : Nat) : ∀ (x : Int) (acc : List Int), 0 ≤ x → x < bnd f → x < 9223372036854775000 → acc.length + f < 100000 →
    Ev (fun k => spec_l11Byte.l0 k l (acc ++ encB f x) (i + 1)) R → Ev (fun k => spec_l11Byte.l1 k l acc i x) R := by
  induction f with
  | zero =>
    intro x acc h0 hx hx2 ha hR
    have hx' : x < 128 := hx
    refine Ev.step (fun k => ?_) hR
    simp only [spec_l11Byte.l1]
    rw [if_neg (by omega), if_pos (by omega), bw64 (i + 1) (by omega) (by omega)]; rfl
  | succ f ih =>
    intro x acc h0 hx hx2 ha hR
    have hx' : x < 128 * bnd f := hx
    by_cases h : x > 127
    · simp only [encB, if_pos h] at hR
      refine Ev.step (fun k => ?_) (ih (x / 128) (acc ++ [x % 128 + 128]) (by omega) (by omega) (by omega) (by simp; omega) (by simpa using hR))
      simp only [spec_l11Byte.l1]
      rw [if_pos h, if_pos (by omega), Int.tmod_eq_emod_of_nonneg h0, Int.tdiv_eq_ediv_of_nonneg h0, bw64 (128 + x % 128) (by omega) (by omega), bw64 (x / 128) (by omega) (by omega)]
      rw [show (128 + x % 128) % 256 = x % 128 + 128 by omega]
    · simp only [encB, if_neg h] at hR
      refine Ev.step (fun k => ?_) hR
      simp only [spec_l11Byte.l1]
      rw [if_neg h, if_pos (by omega), bw64 (i + 1) (by omega) (by omega)]

theorem impl_enc (l : List Int) (n i : Int) (hi : i < 9223372036854775807) (hi0 : 0 ≤ i) (R : List Int) (f : Nat) : ∀ (x : Int) (acc : List Int), 0 ≤ x → x < bnd f → x < 9223372036854775000 → acc.length + f < 100000 →
    Ev (fun k => impl_bytesOf.l0 k (acc ++ encB f x) l n (i + 1)) R → Ev (fun k => impl_bytesOf.l1 k acc x l n i) R := by
  induction f with
  | zero =>
    intro x acc h0 hx hx2 ha hR
    have hx' : x < 128 := hx
    refine Ev.step (fun k => ?_) hR
    simp only [impl_bytesOf.l1]
    rw [if_neg (by omega), if_pos (by omega), bw64 (i + 1) (by omega) (by omega)]; rfl
  | succ f ih =>
    intro x acc h0 hx hx2 ha hR
    have hx' : x < 128 * bnd f := hx
    by_cases h : x > 127
    · simp only [encB, if_pos h] at hR
      refine Ev.step (fun k => ?_) (ih (x / 128) (acc ++ [x % 128 + 128]) (by omega) (by omega) (by omega) (by simp; omega) (by simpa using hR))
      simp only [impl_bytesOf.l1]
      rw [if_pos h, if_pos (by omega), Int.tmod_eq_emod_of_nonneg h0, Int.tdiv_eq_ediv_of_nonneg h0, bw64 (x % 128 + 128) (by omega) (by omega), bw64 (x / 128) (by omega) (by omega)]
      rw [show (x % 128 + 128) % 256 = x % 128 + 128 by omega]
    · simp only [encB, if_neg h] at hR
      refine Ev.step (fun k => ?_) hR
      simp only [impl_bytesOf.l1]
      rw [if_neg h, if_pos (by omega), bw64 (i + 1) (by omega) (by omega)]

def bytesL (l : List Int) : List Int := l.flatMap fun x => encB 2 (x + 1)
theorem bytesL_cons (x : Int) (l : List Int) : bytesL (x :: l) = encB 2 (x + 1) ++ bytesL l := by unfold bytesL; exact List.flatMap_cons
theorem ok_range {x : Int} (h : numOk x = true) : -1 ≤ x ∧ x ≤ 99999 := by simpa [numOk] using h

theorem spec_bytes (l : List Int) (hl : l.length ≤ 3735) (hok : ∀ x ∈ l, numOk x = true) (d : Nat) :
    ∀ (i : Nat) (acc : List Int), i + d = l.length → acc.length ≤ 3 * i → Ev (fun k => spec_l11Byte.l0 k l acc (i : Int)) (acc ++ bytesL (l.drop i)) := by
  induction d with
  | zero =>
    intro i acc hi _
    refine Ev.step (f := fun _ => some acc) (fun k => ?_) ?_
    · simp only [spec_l11Byte.l0]; rw [if_neg (by omega)]
    · rw [List.drop_of_length_le (by omega)]; simpa [bytesL] using Ev.now acc
  | succ d ih =>
    intro i acc hi ha
    have hlt : i < l.length := by omega
    have hr := ok_range (hok l[i] (List.getElem_mem hlt))
    have hle := encB_len 2 (l[i] + 1)
    have hih := ih (i + 1) (acc ++ encB 2 (l[i] + 1)) (by omega) (by simp; omega)
    have hen := spec_enc l i (by omega) (by omega) _ 2 (l[i] + 1) acc (by omega) (by simp [bnd]; omega) (by omega) (by omega) hih
    have e : acc ++ bytesL (l.drop i) = acc ++ encB 2 (l[i] + 1) ++ bytesL (l.drop (i + 1)) := by
      rw [List.drop_eq_getElem_cons hlt, bytesL_cons, List.append_assoc]
    rw [e]
    refine Ev.step (fun k => ?_) hen
    simp only [spec_l11Byte.l0]
    rw [if_pos (by omega), if_pos (by omega), rd_get l i hlt, bw64 (l[i] + 1) (by omega) (by omega)]

theorem impl_bytes (l : List Int) (hl : l.length ≤ 3735) (hok : ∀ x ∈ l, numOk x = true) (d : Nat) :
    ∀ (i : Nat) (acc : List Int), i + d = l.length → acc.length ≤ 3 * i → Ev (fun k => impl_bytesOf.l0 k acc l (l.length : Int) (i : Int)) (acc ++ bytesL (l.drop i)) := by
  induction d with
  | zero =>
    intro i acc hi _
    refine Ev.step (f := fun _ => some acc) (fun k => ?_) ?_
    · simp only [impl_bytesOf.l0]; rw [if_neg (by omega)]
    · rw [List.drop_of_length_le (by omega)]; simpa [bytesL] using Ev.now acc
  | succ d ih =>
    intro i acc hi ha
    have hlt : i < l.length := by omega
    have hr := ok_range (hok l[i] (List.getElem_mem hlt))
    have hle := encB_len 2 (l[i] + 1)
    have hih := ih (i + 1) (acc ++ encB 2 (l[i] + 1)) (by omega) (by simp; omega)
    have hen := impl_enc l l.length i (by omega) (by omega) _ 2 (l[i] + 1) acc (by omega) (by simp [bnd]; omega) (by omega) (by omega) hih
    have e : acc ++ bytesL (l.drop i) = acc ++ encB 2 (l[i] + 1) ++ bytesL (l.drop (i + 1)) := by
      rw [List.drop_eq_getElem_cons hlt, bytesL_cons, List.append_assoc]
    rw [e]
    refine Ev.step (fun k => ?_) hen
    simp only [impl_bytesOf.l0]
    rw [if_pos (by omega), if_pos (by omega), if_pos (by omega), rd_get l i hlt, bw64 (l[i] + 1) (by omega) (by omega)]

/-- The text of home i. -/
def pieceAt (b : List Int) (i : Nat) : ByteArray := strOfNums ((b.take (min b.length ((i - 1) * 15 + 15))).drop (min b.length ((i - 1) * 15)))
def headAt (b : List Int) : ByteArray := strOfNums [(wrap64 ((b.length : Int) / 256)) % 256, (b.length : Int) % 256]
def homesTo (b : List Int) (n : Nat) : List ByteArray := headAt b :: (List.range n).map fun j => pieceAt b (j + 1)
theorem homesTo_succ (b : List Int) (n : Nat) : homesTo b (n + 1) = homesTo b n ++ [pieceAt b (n + 1)] := by simp [homesTo, List.range_succ]
theorem homesTo_len (b : List Int) (n : Nat) : (homesTo b n).length = n + 1 := by simp [homesTo]

theorem spec_homes (b : List Int) (hb : b.length ≤ 3735) (d : Nat) : ∀ i : Nat, i + d = 249 →
    Ev (fun k => spec_BoxHomes.l1 k b (homesTo b i) ((i : Int) + 1)) (homesTo b 249, true) := by
  induction d with
  | zero =>
    intro i hi
    have : i = 249 := by omega
    subst this
    refine Ev.step (f := fun _ => some (homesTo b 249, true)) (fun k => ?_) (Ev.now _)
    simp only [spec_BoxHomes.l1]; rw [if_neg (by omega)]
  | succ d ih =>
    intro i hi
    refine Ev.step (fun k => ?_) (ih (i + 1) (by omega))
    have hle := homesTo_len b i
    simp only [spec_BoxHomes.l1]
    rw [if_pos (by omega), bw64 ((i : Int) + 1 - 1) (by omega) (by omega), bw64 (((i : Int) + 1 - 1) * 15) (by omega) (by omega), bw64 (((i : Int) + 1 - 1) * 15 + 15) (by omega) (by omega),
      bw64 ((i : Int) + 1 + 1) (by omega) (by omega)]
    have e1 : (((i : Int) + 1 - 1) * 15).toNat = i * 15 := by omega
    have e2 : (((i : Int) + 1 - 1) * 15 + 15).toNat = i * 15 + 15 := by omega
    have e3 : ((b.length : Int)).toNat = b.length := by omega
    rw [e1, e2, e3, homesTo_succ]
    by_cases h1 : ((i : Int) + 1 - 1) * 15 > (b.length : Int)
    · rw [if_pos h1, if_pos (by omega), if_pos (by omega), if_pos (by omega), if_pos (by omega)]
      congr 1
      unfold pieceAt
      rw [show min b.length ((i + 1 - 1) * 15 + 15) = b.length by omega, show min b.length ((i + 1 - 1) * 15) = b.length by omega]
    · rw [if_neg h1]
      by_cases h2 : ((i : Int) + 1 - 1) * 15 + 15 > (b.length : Int)
      · rw [if_pos h2, if_pos (by omega), if_pos (by omega), if_pos (by omega), if_pos (by omega)]
        congr 1
        unfold pieceAt
        rw [show min b.length ((i + 1 - 1) * 15 + 15) = b.length by omega, show min b.length ((i + 1 - 1) * 15) = i * 15 by omega]
      · rw [if_neg h2, if_pos (by omega), if_pos (by omega), if_pos (by omega), if_pos (by omega)]
        congr 1
        unfold pieceAt
        rw [show min b.length ((i + 1 - 1) * 15 + 15) = i * 15 + 15 by omega, show min b.length ((i + 1 - 1) * 15) = i * 15 by omega]

def emptyB : ByteArray := ⟨#[]⟩
theorem set_mid {α : Type} (xs : List α) (n : Nat) (e v : α) : (xs ++ List.replicate (n + 1) e).set xs.length v = xs ++ [v] ++ List.replicate n e := by
  rw [List.set_append_right xs.length v (Nat.le_refl _), Nat.sub_self, List.replicate_succ, List.set_cons_zero]; simp

theorem mn_nat (a : Nat) (x : Int) (h0 : 0 ≤ x) : mn (a : Int) x = ((min a x.toNat : Nat) : Int) := by
  unfold mn
  first
  | omega
  | (split <;> omega)

theorem impl_homes (b : List Int) (hb : b.length ≤ 3735) (d : Nat) : ∀ i : Nat, i + d = 249 →
    Ev (fun k => impl_BoxHomes.l0 k b (homesTo b i ++ List.replicate d emptyB) ((i : Int) + 1)) (homesTo b 249, true) := by
  induction d with
  | zero =>
    intro i hi
    have : i = 249 := by omega
    subst this
    refine Ev.step (f := fun _ => some (homesTo b 249, true)) (fun k => ?_) (Ev.now _)
    simp only [impl_BoxHomes.l0]; rw [if_neg (by omega)]; simp
  | succ d ih =>
    intro i hi
    refine Ev.step (fun k => ?_) (ih (i + 1) (by omega))
    have hle := homesTo_len b i
    simp only [impl_BoxHomes.l0]
    rw [if_pos (by omega), bw64 ((i : Int) + 1 - 1) (by omega) (by omega), bw64 (((i : Int) + 1 - 1) * 15) (by omega) (by omega), 
      bw64 ((i : Int) + 1 + 1) (by omega) (by omega), mn_nat _ _ (by omega), bw64 (_ + 15) (by omega) (by omega), mn_nat _ _ (by omega)]
    rw [if_pos (by omega), if_pos (by omega), if_pos (by omega), if_pos (by omega), if_pos (by simp; omega)]
    have e0 : ((i : Int) + 1).toNat = (homesTo b i).length := by omega
    rw [e0, set_mid, homesTo_succ]
    have e1 : ((min b.length (((i : Int) + 1 - 1) * 15).toNat : Nat) : Int).toNat = min b.length (i * 15) := by omega
    have e2 : ((min b.length (((min b.length (((i : Int) + 1 - 1) * 15).toNat : Nat) : Int) + 15).toNat : Nat) : Int).toNat = min b.length (i * 15 + 15) := by omega
    rw [e1, e2]
    rfl

/-- What BoxHomes answers. -/
def boxR (l : List Int) : List ByteArray × Bool :=
  if l.all numOk then (if l.length > 3735 then ([], false) else if (bytesL l).length > 3735 then ([], false) else (homesTo (bytesL l) 249, true)) else ([], false)

theorem spec_box (l : List Int) (hl : l.length ≤ 2000000) : Ev (fun k => spec_BoxHomes.f k l) (boxR l) := by
  unfold spec_BoxHomes.f boxR
  by_cases hok : l.all numOk
  · rw [if_pos hok]
    have := spec_check l hl (if l.length > 3735 then ([], false) else if (bytesL l).length > 3735 then ([], false) else (homesTo (bytesL l) 249, true)) ?_ l.length 0 (by omega)
    · rw [List.drop_zero, if_pos hok] at this; exact this
    · by_cases h1 : l.length > 3735
      · rw [if_pos h1]
        refine Ev.step (f := fun _ => some ([], false)) (fun k => ?_) (Ev.now _)
        simp only [spec_BoxHomes.l0]; rw [if_neg (by omega), if_pos (by omega)]
      · rw [if_neg h1]
        have hby := spec_bytes l (by omega) (List.all_eq_true.mp hok) l.length 0 [] (by omega) (by simp)
        rw [List.nil_append, List.drop_zero] at hby
        have hby' : Ev (fun k => spec_l11Byte.f k l) (bytesL l) := hby
        refine Ev.step (f := fun k => (spec_l11Byte.f k l).bind fun (t117 : List Int) => (if (t117.length : Int) > 3735 then (some ([], false)) else (spec_BoxHomes.l1 k t117 [headAt t117] 1))) (fun k => ?_) (Ev.bind (f := fun k (t117 : List Int) => (if (t117.length : Int) > 3735 then (some ([], false)) else (spec_BoxHomes.l1 k t117 [headAt t117] 1))) (a := bytesL l) hby' ?_)
        · simp only [spec_BoxHomes.l0]; rw [if_neg (by omega), if_neg (by omega)]; rfl
        · by_cases h2 : (bytesL l).length > 3735
          · rw [if_pos h2]
            refine Ev.congr (f := fun _ => some ([], false)) (fun k => ?_) (Ev.now _)
            rw [if_pos (by omega)]
          · rw [if_neg h2]
            refine Ev.congr (fun k => ?_) (spec_homes (bytesL l) (by omega) 249 0 (by omega))
            rw [if_neg (by omega)]; rfl
  · rw [if_neg hok]
    -- the check alone decides
    have key : ∀ d i : Nat, i + d = l.length → (l.drop i).all numOk = false → Ev (fun k => spec_BoxHomes.l0 k l [] (i : Int)) ([], false) := by
      intro d
      induction d with
      | zero => intro i hi h; rw [List.drop_of_length_le (by omega)] at h; simp at h
      | succ d ih =>
        intro i hi h
        have hlt : i < l.length := by omega
        rw [List.drop_eq_getElem_cons hlt, List.all_cons] at h
        cases hn : numOk l[i] with
        | true =>
          rw [hn, Bool.true_and] at h
          refine Ev.step (fun k => ?_) (ih (i + 1) (by omega) h)
          simp only [spec_BoxHomes.l0]
          rw [if_pos (by omega), if_pos (by omega), spec_num, rd_get l i hlt, hn]
          simp only [Option.bind_some, if_true]
          rw [bw64 _ (by omega) (by omega)]; rfl
        | false =>
          refine Ev.step (f := fun _ => some ([], false)) (fun k => ?_) (Ev.now _)
          simp only [spec_BoxHomes.l0]
          rw [if_pos (by omega), if_pos (by omega), spec_num, rd_get l i hlt, hn]
          simp
    exact key l.length 0 (by omega) (by simpa using hok)

set_option maxRecDepth 100000 in
theorem impl_box (l : List Int) (hl : l.length ≤ 2000000) : Ev (fun k => impl_BoxHomes.f k l) (boxR l) := by
  unfold impl_BoxHomes.f boxR
  by_cases h1 : l.length > 3735
  · have e : (if l.all numOk then (if l.length > 3735 then (([] : List ByteArray), false) else if (bytesL l).length > 3735 then ([], false) else (homesTo (bytesL l) 249, true)) else ([], false)) = ([], false) := by
      rw [if_pos h1]; split <;> rfl
    rw [e]
    refine Ev.congr (f := fun k => impl_BoxHomes.j0 k l true) (fun k => by rw [if_pos (by omega)]) ?_
    exact Ev.step (f := fun _ => some ([], false)) (fun k => by simp [impl_BoxHomes.j0]) (Ev.now _)
  · refine Ev.congr (f := fun k => (impl_numbersOk.f k l).bind fun t => impl_BoxHomes.j0 k l (!t)) (fun k => by rw [if_neg (by omega)]) ?_
    have hc := impl_check l hl l.length 0 (by omega)
    rw [List.drop_zero] at hc
    refine Ev.bind (f := fun k t => impl_BoxHomes.j0 k l (!t)) hc ?_
    cases hok : l.all numOk with
    | false =>
      exact Ev.step (f := fun _ => some ([], false)) (fun k => by simp [impl_BoxHomes.j0]) (Ev.now _)
    | true =>
      simp only [if_true]
      rw [if_neg h1]
      have hby := impl_bytes l (by omega) (List.all_eq_true.mp hok) l.length 0 [] (by omega) (by simp)
      rw [List.nil_append, List.drop_zero] at hby
      have hby' : Ev (fun k => impl_bytesOf.f k l) (bytesL l) := hby
      refine Ev.step (f := fun k => (impl_bytesOf.f k l).bind fun (t : List Int) => (if (t.length : Int) > 3735 then (some ([], false)) else (impl_BoxHomes.l0 k t (homesTo t 0 ++ List.replicate 249 emptyB) 1))) (fun k => ?_) (Ev.bind (f := fun k (t : List Int) => (if (t.length : Int) > 3735 then (some ([], false)) else (impl_BoxHomes.l0 k t (homesTo t 0 ++ List.replicate 249 emptyB) 1))) (a := bytesL l) hby' ?_)
      · simp only [impl_BoxHomes.j0]
        rw [if_neg (by simp)]
        congr 1
      · by_cases h2 : (bytesL l).length > 3735
        · rw [if_pos h2]
          refine Ev.congr (f := fun _ => some ([], false)) (fun k => ?_) (Ev.now _)
          rw [if_pos (by omega)]
        · rw [if_neg h2]
          refine Ev.congr (fun k => ?_) (impl_homes (bytesL l) (by omega) 249 0 (by omega))
          rw [if_neg (by omega)]; rfl

theorem boxR_len (l : List Int) : (boxR l).1.length ≤ 250 := by
  unfold boxR; split
  · split
    · simp
    · split
      · simp
      · simp [homesTo_len]
  · simp

theorem toInt_loop (l : List Int) (hl : l.length ≤ 2000000) (d : Nat) : ∀ i : Nat, i + d = l.length →
    Ev (fun k => laws_toIntS.l0 k l (l.take i ++ List.replicate d 0) (i : Int)) l := by
  induction d with
  | zero =>
    intro i hi
    refine Ev.step (f := fun _ => some l) (fun k => ?_) (Ev.now _)
    simp only [laws_toIntS.l0]; rw [if_neg (by omega), List.take_of_length_le (by omega)]; simp
  | succ d ih =>
    intro i hi
    have hlt : i < l.length := by omega
    refine Ev.step (fun k => ?_) (ih (i + 1) (by omega))
    simp only [laws_toIntS.l0]
    rw [if_pos (by omega), if_pos (by omega), if_pos (by simp; omega), bw64 _ (by omega) (by omega), rd_get l i hlt, Int.toNat_natCast]
    have e : i = (l.take i).length := by simp; omega
    have e2 : (l.take i ++ List.replicate (d + 1) 0).set i l[i] = l.take (i + 1) ++ List.replicate d 0 := by
      have := set_mid (l.take i) d 0 l[i]
      rw [← e] at this
      rw [this, List.take_succ_eq_append_getElem hlt]
    rw [e2]; rfl
theorem toInt_some (l : List Int) (hl : l.length ≤ 2000000) : Ev (fun k => laws_toIntS.f k l) l := by
  unfold laws_toIntS.f
  refine Ev.congr (fun k => ?_) (toInt_loop l hl l.length 0 (by omega))
  rw [if_pos (by omega), if_pos (by omega)]; simp

theorem eqS_loop (a : List ByteArray) (ha : a.length ≤ 2000000) (d : Nat) : ∀ i : Nat, i + d = a.length → Ev (fun k => laws_eqStringS.l0 k a a (i : Int)) true := by
  induction d with
  | zero => intro i hi; exact Ev.step (f := fun _ => some true) (fun k => by simp only [laws_eqStringS.l0]; rw [if_neg (by omega)]) (Ev.now _)
  | succ d ih =>
    intro i hi
    refine Ev.step (fun k => ?_) (ih (i + 1) (by omega))
    simp only [laws_eqStringS.l0]
    rw [if_pos (by omega), if_pos (by omega), if_pos (by omega), if_pos trivial, bw64 _ (by omega) (by omega)]; rfl
theorem eqS_some (a : List ByteArray) (ha : a.length ≤ 2000000) : Ev (fun k => laws_eqStringS.f k a a) true := by
  unfold laws_eqStringS.f
  exact Ev.congr (fun k => by rw [if_pos rfl]; rfl) (eqS_loop a ha a.length 0 (by omega))
theorem eqI_loop (a : List Int) (ha : a.length ≤ 2000000) (d : Nat) : ∀ i : Nat, i + d = a.length → Ev (fun k => laws_eqIntS.l0 k a a (i : Int)) true := by
  induction d with
  | zero => intro i hi; exact Ev.step (f := fun _ => some true) (fun k => by simp only [laws_eqIntS.l0]; rw [if_neg (by omega)]) (Ev.now _)
  | succ d ih =>
    intro i hi
    refine Ev.step (fun k => ?_) (ih (i + 1) (by omega))
    simp only [laws_eqIntS.l0]
    rw [if_pos (by omega), if_pos (by omega), if_pos (by omega), if_pos trivial, bw64 _ (by omega) (by omega)]; rfl
theorem eqI_some (a : List Int) (ha : a.length ≤ 2000000) : Ev (fun k => laws_eqIntS.f k a a) true := by
  unfold laws_eqIntS.f
  exact Ev.congr (fun k => by rw [if_pos rfl]; rfl) (eqI_loop a ha a.length 0 (by omega))

theorem markI_loop (d : Nat) : ∀ (a : List Int) (i : Nat) (c : Int), i + d = a.length → a.length ≤ 2000000 → 0 ≤ c → c + d < 10000000 → ∃ a', Ev (fun k => laws_markIntS.l0 k a c (i : Int)) (c + d, a') := by
  induction d with
  | zero => intro a i c hi _ _ _; exact ⟨a, Ev.step (f := fun _ => some (c + 0, a)) (fun k => by simp only [laws_markIntS.l0]; rw [if_neg (by omega)]; simp) (Ev.now _)⟩
  | succ d ih =>
    intro a i c hi ha h0 hc
    obtain ⟨a', h⟩ := ih (a.set i c) (i + 1) (c + 1) (by simp; omega) (by simp; omega) (by omega) (by omega)
    refine ⟨a', Ev.step (fun k => ?_) (by rw [show c + ((d + 1 : Nat) : Int) = c + 1 + (d : Int) by omega]; exact h)⟩
    simp only [laws_markIntS.l0]
    rw [if_pos (by omega), if_pos (by omega), bw64 (c + 1) (by omega) (by omega), bw64 ((i : Int) + 1) (by omega) (by omega), Int.toNat_natCast]; rfl

theorem markText_some (f : Nat) : ∀ (x : Int) (s : ByteArray), 0 ≤ x → x.toNat ≤ f → s.size + f < 1000000000 → ∃ t, Ev (fun k => laws_markText.l0 k x s) t := by
  induction f with
  | zero =>
    intro x s h0 hx hs
    refine ⟨(⟨#[109]⟩ : ByteArray) ++ s, Ev.step (f := fun _ => some _) (fun k => ?_) (Ev.now _)⟩
    simp only [laws_markText.l0]; rw [if_neg (by omega), if_pos (by omega)]
  | succ f ih =>
    intro x s h0 hx hs
    by_cases h : x > 0
    · have hz : ∀ c, (strOfNums [c]).size = 1 := fun c => rfl
      obtain ⟨t, ht⟩ := ih (Int.tdiv x 10) ((strOfNums [(wrap64 (48 + (Int.tmod x 10))) % 256]) ++ s) (by rw [Int.tdiv_eq_ediv_of_nonneg h0]; omega) (by rw [Int.tdiv_eq_ediv_of_nonneg h0]; omega) (by rw [ByteArray.size_append, hz]; omega)
      refine ⟨t, Ev.step (fun k => ?_) ht⟩
      simp only [laws_markText.l0]
      rw [if_pos h]; simp only [Option.bind_some]
      rw [if_pos (by rw [hz]; omega), bw64 (Int.tdiv x 10) (by rw [Int.tdiv_eq_ediv_of_nonneg h0]; omega) (by rw [Int.tdiv_eq_ediv_of_nonneg h0]; omega)]
    · refine ⟨(⟨#[109]⟩ : ByteArray) ++ s, Ev.step (f := fun _ => some _) (fun k => ?_) (Ev.now _)⟩
      simp only [laws_markText.l0]; rw [if_neg h, if_pos (by omega)]
theorem markText_all (x : Int) : ∃ t, 0 ≤ x → x < 100000000 → Ev (fun k => laws_markText.f k x) t := by
  by_cases h : 0 ≤ x ∧ x < 100000000
  · unfold laws_markText.f
    by_cases h1 : x ≤ 0
    · exact ⟨⟨#[109, 48]⟩, fun _ _ => Ev.congr (f := fun _ => some _) (fun k => by rw [if_pos h1]) (Ev.now _)⟩
    · obtain ⟨t, ht⟩ := markText_some x.toNat x ⟨#[]⟩ h.1 (Nat.le_refl _) (by have : (⟨#[]⟩ : ByteArray).size = 0 := rfl
                                                                              omega)
      exact ⟨t, fun _ _ => Ev.congr (fun k => by rw [if_neg h1]) ht⟩
  · exact ⟨⟨#[]⟩, fun h0 h1 => absurd ⟨h0, h1⟩ h⟩
noncomputable def mt (x : Int) : ByteArray := (markText_all x).choose
theorem mt_ev (x : Int) (h0 : 0 ≤ x) (h1 : x < 100000000) : Ev (fun k => laws_markText.f k x) (mt x) := (markText_all x).choose_spec h0 h1
noncomputable def mts (c : Int) (n : Nat) : List ByteArray := (List.range n).map fun (j : Nat) => mt (c + (j : Int))
theorem mts_succ (c : Int) (n : Nat) : mts c (n + 1) = mts c n ++ [mt (c + n)] := by simp [mts, List.range_succ]
theorem mts_len (c : Int) (n : Nat) : (mts c n).length = n := by simp [mts]

theorem markS_loop (a : List ByteArray) (c : Int) (hc : 0 ≤ c) (hc2 : c < 1000000) (ha : a.length ≤ 2000000) (d : Nat) : ∀ i : Nat, i + d = a.length →
    Ev (fun k => laws_markStringS.l0 k (mts c i ++ a.drop i) (c + i) (i : Int)) (c + a.length, mts c a.length) := by
  induction d with
  | zero =>
    intro i hi
    have : i = a.length := by omega
    subst this
    refine Ev.step (f := fun _ => some (c + a.length, mts c a.length)) (fun k => ?_) (Ev.now _)
    simp only [laws_markStringS.l0]; rw [if_neg (by simp [mts_len])]; simp
  | succ d ih =>
    intro i hi
    have hlt : i < a.length := by omega
    have hb := Ev.bind (f := fun k t => laws_markStringS.l0 k ((mts c i ++ a.drop i).set i t) (c + i + 1) ((i : Int) + 1)) (mt_ev (c + i) (by omega) (by omega)) (r := (c + a.length, mts c a.length)) (by
      have h := ih (i + 1) (by omega)
      rw [mts_succ] at h
      have e : (mts c i ++ a.drop i).set i (mt (c + i)) = mts c i ++ [mt (c + i)] ++ a.drop (i + 1) := by
        rw [List.set_append_right i _ (by rw [mts_len]; exact Nat.le_refl _), mts_len, Nat.sub_self, List.drop_eq_getElem_cons hlt, List.set_cons_zero]; simp
      rw [e, show c + (i : Int) + 1 = c + ((i + 1 : Nat) : Int) by omega]
      exact h)
    refine Ev.step (fun k => ?_) hb
    simp only [laws_markStringS.l0]
    rw [if_pos (by simp [mts_len]; omega), bw64 (c + i + 1) (by omega) (by omega), bw64 ((i : Int) + 1) (by omega) (by omega)]
    congr 1
theorem markS_some (a : List ByteArray) (c : Int) (hc : 0 ≤ c) (hc2 : c < 1000000) (ha : a.length ≤ 2000000) : Ev (fun k => laws_markStringS.f k a c) (c + a.length, mts c a.length) := by
  have := markS_loop a c hc hc2 ha a.length 0 (by omega)
  simpa [laws_markStringS.f, mts] using this

theorem rdOf_mts (c : Int) (n i : Nat) (h : i < n) : rdOf ByteArray.empty (mts c n) (i : Int) = mt (c + i) := by
  unfold rdOf mts
  rw [Int.toNat_natCast, List.getD_eq_getElem?_getD, List.getElem?_map, List.getElem?_range h]; rfl
theorem heldS_loop (c : Int) (hc : 0 ≤ c) (hc2 : c < 1000000) (n : Nat) (hn : n ≤ 2000000) (d : Nat) : ∀ i : Nat, i + d = n →
    Ev (fun k => laws_heldStringS.l0 k (mts c n) (c + i) (i : Int)) (c + n) := by
  induction d with
  | zero =>
    intro i hi
    have : i = n := by omega
    subst this
    refine Ev.step (f := fun _ => some _) (fun k => ?_) (Ev.now _)
    simp only [laws_heldStringS.l0]; rw [if_neg (by simp [mts_len])]
  | succ d ih =>
    intro i hi
    have hb := Ev.bind (f := fun k t => (if (rdOf ByteArray.empty (mts c n) (i : Int)).toList = t.toList then (laws_heldStringS.l0 k (mts c n) (c + i + 1) ((i : Int) + 1)) else (some (-1)))) (mt_ev (c + i) (by omega) (by omega)) (r := c + n) (by
      rw [rdOf_mts c n i (by omega)]
      refine Ev.congr (fun k => by rw [if_pos rfl]) ?_
      have h := ih (i + 1) (by omega)
      rw [show c + (i : Int) + 1 = c + ((i + 1 : Nat) : Int) by omega]
      exact h)
    refine Ev.step (fun k => ?_) hb
    simp only [laws_heldStringS.l0]
    rw [if_pos (by simp [mts_len]; omega), if_pos (by omega), bw64 (c + i + 1) (by omega) (by omega), bw64 ((i : Int) + 1) (by omega) (by omega)]
theorem heldS_some (c : Int) (hc : 0 ≤ c) (hc2 : c < 1000000) (n : Nat) (hn : n ≤ 2000000) : Ev (fun k => laws_heldStringS.f k (mts c n) c) (c + n) := by
  have := heldS_loop c hc hc2 n hn n 0 (by omega)
  simpa [laws_heldStringS.f] using this

theorem FnExactBoxHomes : laws_FnExactBoxHomes.Pure := by
  intro l _ _ _
  refine Ev.rounds ?_
  unfold laws_FnExactBoxHomes.f
  by_cases h : (l.length : Int) > 1048576
  · exact Ev.congr (f := fun _ => some true) (fun k => by rw [if_pos h]) (Ev.now _)
  have hl : l.length ≤ 2000000 := by omega
  refine Ev.congr (fun k => by rw [if_neg h]) ?_
  have hR := boxR_len l
  have t1 := toInt_some l hl
  have t2 := spec_box l hl
  have t3 := impl_box l hl
  generalize boxR l = R at t2 t3 hR
  obtain ⟨A, b⟩ := R
  have t4 := eqS_some A (by simp at hR; omega)
  refine Ev.bind (f := fun k t196 => (spec_BoxHomes.f k t196).bind fun bt199 => _) t1 ?_
  refine Ev.bind (f := fun k bt199 => (laws_toIntS.f k l).bind fun t203 => _) t2 ?_
  refine Ev.bind (f := fun k t203 => (impl_BoxHomes.f k t203).bind fun bt206 => _) t1 ?_
  refine Ev.bind (f := fun k bt206 => (laws_eqStringS.f k bt206.1 A).bind fun t210 => _) t3 ?_
  refine Ev.bind (f := fun k t210 => (if t210 = true then _ else _)) t4 ?_
  simp only [if_true, bne_self_eq_false]
  refine Ev.step (f := fun k => (laws_toIntS.f k l).bind fun t211 => ((laws_eqIntS.f k l t211).bind fun t214 => (if t214 = true then ((laws_markIntS.f k l 1).bind fun bt215 => (if bt215.1 < 0 then (laws_FnExactBoxHomes.j1 k l A b A true) else ((laws_eqStringS.f k A A).bind fun t217 => (if t217 = true then (laws_FnExactBoxHomes.j1 k l A b A (b != b)) else (laws_FnExactBoxHomes.j1 k l A b A true))))) else (some false)))) (fun k => by simp only [laws_FnExactBoxHomes.j0]; rw [if_neg (by simp)]) ?_
  refine Ev.bind (f := fun k t211 => (laws_eqIntS.f k l t211).bind fun t214 => _) t1 ?_
  refine Ev.bind (f := fun k t214 => (if t214 = true then _ else _)) (eqI_some l hl) ?_
  simp only [if_true]
  obtain ⟨a', hm⟩ := markI_loop l.length l 0 1 (by omega) hl (by omega) (by omega)
  refine Ev.bind (f := fun k bt215 => (if bt215.1 < 0 then _ else _)) (g := fun k => laws_markIntS.f k l 1) hm ?_
  refine Ev.congr (fun k => by rw [if_neg (by simp; omega)]) ?_
  refine Ev.bind (f := fun k t217 => (if t217 = true then _ else _)) t4 ?_
  simp only [if_true, bne_self_eq_false]
  have hAl : A.length ≤ 250 := hR
  have m1 := markS_some A 1 (by omega) (by omega) (by omega)
  have m2 := heldS_some 1 (by omega) (by omega) A.length (by omega)
  refine Ev.step (f := fun k => (laws_markStringS.f k A 1).bind fun bt218 => ((laws_heldStringS.f k bt218.2 1).bind fun t220 => (if t220 < 0 then (some false) else (if t220 = bt218.1 then ((laws_toIntS.f k l).bind fun t221 => ((impl_BoxHomes.f k t221).bind fun bt224 => ((laws_eqStringS.f k bt224.1 A).bind fun t228 => (if t228 = true then (laws_FnExactBoxHomes.j2 k bt218.2 bt218.1 (bt224.2 != b)) else (laws_FnExactBoxHomes.j2 k bt218.2 bt218.1 true))))) else (some false))))) (fun k => by simp only [laws_FnExactBoxHomes.j1]; rw [if_neg (by simp)]) ?_
  refine Ev.bind (f := fun k bt218 => (laws_heldStringS.f k bt218.2 1).bind fun t220 => _) m1 ?_
  refine Ev.bind (f := fun k t220 => (if t220 < 0 then _ else _)) m2 ?_
  refine Ev.congr (fun k => by rw [if_neg (by omega), if_pos rfl]) ?_
  refine Ev.bind (f := fun k t221 => (impl_BoxHomes.f k t221).bind fun bt224 => _) t1 ?_
  refine Ev.bind (f := fun k bt224 => (laws_eqStringS.f k bt224.1 A).bind fun t228 => _) t3 ?_
  refine Ev.bind (f := fun k t228 => (if t228 = true then _ else _)) t4 ?_
  simp only [if_true, bne_self_eq_false]
  refine Ev.step (f := fun k => (laws_heldStringS.f k (mts 1 A.length) 1).bind fun t229 => (if t229 < 0 then (some false) else (if t229 = 1 + (A.length : Int) then (some true) else (some false)))) (fun k => by simp only [laws_FnExactBoxHomes.j2]; rw [if_neg (by simp)]) ?_
  refine Ev.bind (f := fun k t229 => (if t229 < 0 then _ else _)) m2 ?_
  exact Ev.congr (f := fun _ => some true) (fun k => by rw [if_neg (by omega), if_pos rfl]) (Ev.now _)

end Go.Proofs.Ytnbhalhlodnmpaa.Pure
