import Derived.Test.YtaekmccjendfoaaV21
import Derived.Test.YtaekmccjendfoaaChecked
namespace Go.Proofs.Ytaekmccjendfoaa.MO
open Go.PA
set_option linter.unusedVariables false
abbrev BlkPiece : List Ty := [I, I, I, I]
abbrev DBlkPiece := Int × Int × Int × Int × Unit
abbrev MapView : List Ty := [I, I, I]
abbrev DMapView := Int × Int × Int × Unit
abbrev PanCall : List Ty := [I, I, I, I, I, I, I, I, I, .bool, I, I]
abbrev DPanCall := Int × Int × Int × Int × Int × Int × Int × Int × Int × Bool × Int × Int × Unit
abbrev MapDisk : List Ty := [I, I, I, I, I, I, (.sl [I])]
abbrev DMapDisk := Int × Int × Int × Int × Int × Int × (List (Int × Unit)) × Unit
abbrev HistState : List Ty := [I, I, (.sl MapDisk), (.sl BlkPiece)]
abbrev DHistState := Int × Int × (List (DMapDisk)) × (List (DBlkPiece)) × Unit
abbrev MapState : List Ty := [I, I, I, (.sl MapDisk), (.sl MapView), (.sl BlkPiece)]
abbrev DMapState := Int × Int × Int × (List (DMapDisk)) × (List (DMapView)) × (List (DBlkPiece)) × Unit
noncomputable def T0 : List (FuncId × Ctr) := []
theorem hT0 : AllC Try.prog T0 := AllC.nil _
noncomputable def ac52 : ACode := acOf Try.prog 52
theorem gd52 : Good Try.prog (52, ac52, [.tmp 2], 11) := ⟨_, Try.func52, by kernel_rfl, by kernel_rfl, by kernel_rfl, by kernel_rfl⟩
/- spec.l6Open -/
def an52 : List (Nat × An) := []
def S52 : List (Skel × List (Option Nat × Skel)) := []
def ps52 : List PK := [⟨none, false, [(.sl [(.int .u8)])], false⟩]
def rs52 : List PK := [⟨none, false, [(.sl [(.int .u8)]), I], true⟩]
noncomputable def F52 := FN (tabC T0) an52 S52 ac52 [.tmp 2] 11 false 1 ps52 rs52
noncomputable def T52 : List (FuncId × Ctr) := (52, ⟨false, false, 1, ps52, rs52, F52⟩) :: T0
theorem hT52 : AllC Try.prog T52 := AllC.own (an := an52) (S := S52) (ps := ps52) (rs := rs52) hT0 gd52 (by kernel_rfl)
noncomputable def G52 (a_code : List (Int × Unit)) : Option ((List (Int × Unit)) × Int × Unit) := F52 (a_code, ())
theorem G52_eq (a_code : List (Int × Unit)) : (G52 a_code) = (br (decide (((a_code.length : Nat) : Int) > (2000 : Int))) (chk (decide (0 ≤ (0 : Int) ∧ (0 : Int) ≤ (2000 : Int) ∧ (2000 : Int) ≤ ((a_code.length : Nat) : Int))) (some (((a_code.take 2000).drop 0), (0 : Int), ()))) (some (a_code, (0 : Int), ()))) := by kernel_rfl
noncomputable def ac128 : ACode := acOf Try.prog 128
theorem gd128 : Good Try.prog (128, ac128, [.cell 0 true 4], 2) := ⟨_, Try.func128, by kernel_rfl, by kernel_rfl, by kernel_rfl, by kernel_rfl⟩
/- spec.HistStart -/
def an128 : List (Nat × An) := []
def S128 : List (Skel × List (Option Nat × Skel)) := []
def ps128 : List PK := []
def rs128 : List PK := [⟨some .S, true, HistState, false⟩]
noncomputable def F128 := FN (tabC T52) an128 S128 ac128 [.cell 0 true 4] 2 false 1 ps128 rs128
noncomputable def T128 : List (FuncId × Ctr) := (128, ⟨true, false, 1, ps128, rs128, F128⟩) :: T52
theorem hT128 : AllC Try.prog T128 := AllC.fresh (an := an128) (S := S128) (ps := ps128) (rs := rs128) hT52 gd128 (by kernel_rfl)
noncomputable def G128  : Option (DHistState) := F128 (())
theorem G128_eq  : (G128) = (some ((1 : Int), (3 : Int), [], [], ())) := by kernel_rfl
noncomputable def ac54 : ACode := acOf Try.prog 54
theorem gd54 : Good Try.prog (54, ac54, [.tmp 4], 99) := ⟨_, Try.func54, by kernel_rfl, by kernel_rfl, by kernel_rfl, by kernel_rfl⟩
/- (*spec.l6Rd).pick -/
def an54 : List (Nat × An) := []
def S54 : List (Skel × List (Option Nat × Skel)) := []
def ps54 : List PK := [⟨none, false, [(.sl [(.int .u8)]), I], true⟩, ⟨none, false, [I], false⟩]
def rs54 : List PK := [⟨none, false, [I], false⟩, ⟨none, false, [(.sl [(.int .u8)]), I], true⟩]
noncomputable def F54 := FN (tabC T128) an54 S54 ac54 [.tmp 4] 99 false 1 ps54 rs54
noncomputable def T54 : List (FuncId × Ctr) := (54, ⟨false, false, 1, ps54, rs54, F54⟩) :: T128
theorem hT54 : AllC Try.prog T54 := AllC.own (an := an54) (S := S54) (ps := ps54) (rs := rs54) hT128 gd54 (by kernel_rfl)
noncomputable def G54 (a_r0 : List (Int × Unit)) (a_r1 : Int) (a_n : Int) : Option (Int × (List (Int × Unit)) × Int × Unit) := F54 (a_r0, a_r1, a_n, ())
theorem G54_eq (a_r0 : List (Int × Unit)) (a_r1 : Int) (a_n : Int) : (G54 a_r0 a_r1 a_n) = (br ((decide (a_n < (1 : Int))) || (((a_r0.length : Nat) : Int) == (0 : Int))) (some ((0 : Int), a_r0, (IntKind.i64.wrap (a_r1 + (1 : Int))), ())) (br (decide ((IntKind.i64.wrap ((IntKind.i64.wrap (a_r1 + (1 : Int))) - (1 : Int))) < ((a_r0.length : Nat) : Int))) (chk (decide (0 ≤ (IntKind.i64.wrap ((IntKind.i64.wrap (a_r1 + (1 : Int))) - (1 : Int))) ∧ (IntKind.i64.wrap ((IntKind.i64.wrap (a_r1 + (1 : Int))) - (1 : Int))) < ((a_r0.length : Nat) : Int))) (chk (!(a_n == 0)) (some (((IntKind.i64.wrap (a_r0.getD (IntKind.i64.wrap ((IntKind.i64.wrap (a_r1 + (1 : Int))) - (1 : Int))).toNat ((0 : Int), ())).1).tmod a_n), a_r0, (IntKind.i64.wrap (a_r1 + (1 : Int))), ())))) (chk (!(((a_r0.length : Nat) : Int) == 0)) (chk (decide (0 ≤ ((IntKind.i64.wrap ((IntKind.i64.wrap (a_r1 + (1 : Int))) - (1 : Int))).tmod ((a_r0.length : Nat) : Int)) ∧ ((IntKind.i64.wrap ((IntKind.i64.wrap (a_r1 + (1 : Int))) - (1 : Int))).tmod ((a_r0.length : Nat) : Int)) < ((a_r0.length : Nat) : Int))) (chk (!(((a_r0.length : Nat) : Int) == 0)) (chk (decide (0 ≤ ((IntKind.i64.wrap ((IntKind.i64.wrap ((IntKind.i64.wrap ((IntKind.i64.wrap (a_r1 + (1 : Int))) - (1 : Int))) * (7 : Int))) + (3 : Int))).tmod ((a_r0.length : Nat) : Int)) ∧ ((IntKind.i64.wrap ((IntKind.i64.wrap ((IntKind.i64.wrap ((IntKind.i64.wrap (a_r1 + (1 : Int))) - (1 : Int))) * (7 : Int))) + (3 : Int))).tmod ((a_r0.length : Nat) : Int)) < ((a_r0.length : Nat) : Int))) (chk (!(((a_r0.length : Nat) : Int) == 0)) (chk (!((64 : Int) == 0)) (chk (!(a_n == 0)) (some (((bits .xor .i64 (IntKind.i64.wrap ((IntKind.i64.wrap ((IntKind.i64.wrap ((IntKind.i64.wrap ((IntKind.i64.wrap (a_r0.getD ((IntKind.i64.wrap ((IntKind.i64.wrap (a_r1 + (1 : Int))) - (1 : Int))).tmod ((a_r0.length : Nat) : Int)).toNat ((0 : Int), ())).1) * (131 : Int))) + (IntKind.i64.wrap ((IntKind.i64.wrap (a_r0.getD ((IntKind.i64.wrap ((IntKind.i64.wrap ((IntKind.i64.wrap ((IntKind.i64.wrap (a_r1 + (1 : Int))) - (1 : Int))) * (7 : Int))) + (3 : Int))).tmod ((a_r0.length : Nat) : Int)).toNat ((0 : Int), ())).1) * (1117 : Int))))) + (IntKind.i64.wrap ((IntKind.i64.wrap ((IntKind.i64.wrap (a_r1 + (1 : Int))) - (1 : Int))) * (29 : Int))))) + (IntKind.i64.wrap ((IntKind.i64.wrap ((IntKind.i64.wrap ((IntKind.i64.wrap (a_r1 + (1 : Int))) - (1 : Int))).tdiv ((a_r0.length : Nat) : Int))) * (53 : Int))))) (IntKind.i64.wrap ((IntKind.i64.wrap ((IntKind.i64.wrap ((IntKind.i64.wrap ((IntKind.i64.wrap ((IntKind.i64.wrap (a_r0.getD ((IntKind.i64.wrap ((IntKind.i64.wrap (a_r1 + (1 : Int))) - (1 : Int))).tmod ((a_r0.length : Nat) : Int)).toNat ((0 : Int), ())).1) * (131 : Int))) + (IntKind.i64.wrap ((IntKind.i64.wrap (a_r0.getD ((IntKind.i64.wrap ((IntKind.i64.wrap ((IntKind.i64.wrap ((IntKind.i64.wrap (a_r1 + (1 : Int))) - (1 : Int))) * (7 : Int))) + (3 : Int))).tmod ((a_r0.length : Nat) : Int)).toNat ((0 : Int), ())).1) * (1117 : Int))))) + (IntKind.i64.wrap ((IntKind.i64.wrap ((IntKind.i64.wrap (a_r1 + (1 : Int))) - (1 : Int))) * (29 : Int))))) + (IntKind.i64.wrap ((IntKind.i64.wrap ((IntKind.i64.wrap ((IntKind.i64.wrap (a_r1 + (1 : Int))) - (1 : Int))).tdiv ((a_r0.length : Nat) : Int))) * (53 : Int))))).tdiv (64 : Int)))).tmod a_n), a_r0, (IntKind.i64.wrap (a_r1 + (1 : Int))), ()))))))))))) := by kernel_rfl
noncomputable def ac56 : ACode := acOf Try.prog 56
theorem gd56 : Good Try.prog (56, ac56, [.tmp 6], 15) := ⟨_, Try.func56, by kernel_rfl, by kernel_rfl, by kernel_rfl, by kernel_rfl⟩
/- spec.l6In -/
def an56 : List (Nat × An) := []
def S56 : List (Skel × List (Option Nat × Skel)) := []
def ps56 : List PK := [⟨none, false, [I], false⟩, ⟨none, false, [I], false⟩, ⟨none, false, [I], false⟩]
def rs56 : List PK := [⟨some .S, false, [.bool], false⟩]
noncomputable def F56 := FN (tabC T54) an56 S56 ac56 [.tmp 6] 15 false 1 ps56 rs56
noncomputable def T56 : List (FuncId × Ctr) := (56, ⟨true, false, 1, ps56, rs56, F56⟩) :: T54
theorem hT56 : AllC Try.prog T56 := AllC.fresh (an := an56) (S := S56) (ps := ps56) (rs := rs56) hT54 gd56 (by kernel_rfl)
noncomputable def G56 (a_n : Int) (a_low : Int) (a_high : Int) : Option (Bool × Unit) := F56 (a_n, a_low, a_high, ())
def f56 (a_n : Int) (a_low : Int) (a_high : Int) : Bool := ((decide (a_n ≥ a_low)) && (decide (a_n ≤ a_high)))
theorem G56_eq (a_n : Int) (a_low : Int) (a_high : Int) : (G56 a_n a_low a_high) = some ((f56 a_n a_low a_high), ()) := by kernel_rfl
noncomputable def ac129 : ACode := acOf Try.prog 129
theorem gd129 : Good Try.prog (129, ac129, [.tmp 8], 29) := ⟨_, Try.func129, by kernel_rfl, by kernel_rfl, by kernel_rfl, by kernel_rfl⟩
/- spec.l3Before -/
def an129 : List (Nat × An) := []
def S129 : List (Skel × List (Option Nat × Skel)) := []
def ps129 : List PK := [⟨none, true, BlkPiece, false⟩, ⟨none, false, [I], false⟩, ⟨none, false, [I], false⟩, ⟨none, false, [I], false⟩]
def rs129 : List PK := [⟨some .S, false, [.bool], false⟩]
noncomputable def F129 := FN (tabC T56) an129 S129 ac129 [.tmp 8] 29 false 1 ps129 rs129
noncomputable def T129 : List (FuncId × Ctr) := (129, ⟨true, false, 1, ps129, rs129, F129⟩) :: T56
theorem hT129 : AllC Try.prog T129 := AllC.fresh (an := an129) (S := S129) (ps := ps129) (rs := rs129) hT56 gd129 (by kernel_rfl)
noncomputable def G129 (a_p0 : Int) (a_p1 : Int) (a_p2 : Int) (a_p3 : Int) (a_disk : Int) (a_block : Int) (a_epoch : Int) : Option (Bool × Unit) := F129 (a_p0, a_p1, a_p2, a_p3, a_disk, a_block, a_epoch, ())
theorem G129_eq (a_p0 : Int) (a_p1 : Int) (a_p2 : Int) (a_p3 : Int) (a_disk : Int) (a_block : Int) (a_epoch : Int) : (G129 a_p0 a_p1 a_p2 a_p3 a_disk a_block a_epoch) = (br (a_p0 != a_disk) (some ((decide (a_p0 < a_disk)), ())) (br (a_p1 != a_block) (some ((decide (a_p1 < a_block)), ())) (some ((decide (a_p2 < a_epoch)), ())))) := by kernel_rfl
noncomputable def ac75 : ACode := acOf Try.prog 75
theorem gd75 : Good Try.prog (75, ac75, [.tmp 2], 57) := ⟨_, Try.func75, by kernel_rfl, by kernel_rfl, by kernel_rfl, by kernel_rfl⟩
/- spec.BlkOk -/
def sk75_0 : Skel := ⟨mkE 57 [(0, .lst BlkPiece), (3, .int .i64)], [], [], 0⟩
def ou75_0 : List (Option Nat × Skel) := [(some 0, ⟨mkE 57 [], [], [], 0⟩), (none, ⟨mkE 57 [(2, .bool)], [], [], 0⟩)]
def an75 : List (Nat × An) := []
def S75 : List (Skel × List (Option Nat × Skel)) := [(sk75_0, ou75_0)]
def ps75 : List PK := [⟨none, false, [(.sl BlkPiece)], false⟩]
def rs75 : List PK := [⟨some .S, false, [.bool], false⟩]
noncomputable def F75 := FN (tabC T129) an75 S75 ac75 [.tmp 2] 57 false 1 ps75 rs75
noncomputable def T75 : List (FuncId × Ctr) := (75, ⟨true, false, 1, ps75, rs75, F75⟩) :: T129
theorem hT75 : AllC Try.prog T75 := AllC.fresh (an := an75) (S := S75) (ps := ps75) (rs := rs75) hT129 gd75 (by kernel_rfl)
noncomputable def lf75_0 : (List (DBlkPiece)) × Int × Unit → Option (Outs ou75_0) := lfp (vround (tabC T129) an75 (mkL (tabC T129) an75 [] (ac75.body 0)) (ac75.body 0) sk75_0 ou75_0)
noncomputable def lg75_0 (v_list : List (DBlkPiece)) (v_i : Int) : Option (Sum (Unit) (Sum (Bool × Unit) (Empty))) := lf75_0 (v_list, v_i, ())
theorem lg75_0_eq (v_list : List (DBlkPiece)) (v_i : Int) : (lg75_0 v_list v_i) = (br (decide (v_i < ((v_list.length : Nat) : Int))) (chk (decide (0 ≤ v_i ∧ v_i < ((v_list.length : Nat) : Int))) (let e1 : DBlkPiece := (v_list.getD v_i.toNat ((0 : Int), (0 : Int), (0 : Int), (0 : Int), ())); (br ((((!(f56 e1.1 (1 : Int) (99999 : Int))) || (!(f56 e1.2.1 (0 : Int) (99999 : Int)))) || (!(f56 e1.2.2.1 (1 : Int) (99999 : Int)))) || (!(f56 e1.2.2.2.1 (0 : Int) (99999 : Int)))) (some (.inr (.inl (false, ())))) (chk ((decide (0 ≤ (IntKind.i64.wrap (v_i - (1 : Int))) ∧ (IntKind.i64.wrap (v_i - (1 : Int))) < ((v_list.length : Nat) : Int))) || (!(decide (v_i > (0 : Int))))) (let e2 : DBlkPiece := (v_list.getD (IntKind.i64.wrap (v_i - (1 : Int))).toNat ((0 : Int), (0 : Int), (0 : Int), (0 : Int), ())); (chk ((G129 e2.1 e2.2.1 e2.2.2.1 e2.2.2.2.1 e1.1 e1.2.1 e1.2.2.1).isSome || (!(decide (v_i > (0 : Int))))) (br ((decide (v_i > (0 : Int))) && (!((G129 e2.1 e2.2.1 e2.2.2.1 e2.2.2.2.1 e1.1 e1.2.1 e1.2.2.1).getD (false, ())).1)) (some (.inr (.inl (false, ())))) (lg75_0 v_list (IntKind.i64.wrap (v_i + (1 : Int))))))))))) (some (.inl (())))) :=
  (show lf75_0 (v_list, v_i, ()) = _ from lfp_eq (fun x => vround_lin _ _ _ _ x) _).trans (by kernel_rfl)
noncomputable def G75 (a_list : List (DBlkPiece)) : Option (Bool × Unit) := F75 (a_list, ())
theorem G75_eq (a_list : List (DBlkPiece)) : (G75 a_list) = (br (decide (((a_list.length : Nat) : Int) > (60 : Int))) (some (false, ())) ((lg75_0 a_list (0 : Int)).bind fun o => match o with | .inl (y3 : Unit) => (some (true, ())) | .inr (.inl (y4 : Bool × Unit)) => (some (y4.1, ())))) := by kernel_rfl
noncomputable def ac153 : ACode := acOf Try.prog 153
theorem gd153 : Good Try.prog (153, ac153, [.tmp 4], 18) := ⟨_, Try.func153, by kernel_rfl, by kernel_rfl, by kernel_rfl, by kernel_rfl⟩
/- spec.l22Has -/
def sk153_0 : Skel := ⟨mkE 18 [(0, .lst [I]), (1, .int .i64), (5, .int .i64)], [], [], 0⟩
def ou153_0 : List (Option Nat × Skel) := [(some 0, ⟨mkE 18 [], [], [], 0⟩), (none, ⟨mkE 18 [(4, .bool)], [], [], 0⟩)]
def an153 : List (Nat × An) := []
def S153 : List (Skel × List (Option Nat × Skel)) := [(sk153_0, ou153_0)]
def ps153 : List PK := [⟨none, false, [(.sl [I])], false⟩, ⟨none, false, [I], false⟩]
def rs153 : List PK := [⟨some .S, false, [.bool], false⟩]
noncomputable def F153 := FN (tabC T75) an153 S153 ac153 [.tmp 4] 18 false 1 ps153 rs153
noncomputable def T153 : List (FuncId × Ctr) := (153, ⟨true, false, 1, ps153, rs153, F153⟩) :: T75
theorem hT153 : AllC Try.prog T153 := AllC.fresh (an := an153) (S := S153) (ps := ps153) (rs := rs153) hT75 gd153 (by kernel_rfl)
noncomputable def lf153_0 : (List (Int × Unit)) × Int × Int × Unit → Option (Outs ou153_0) := lfp (vround (tabC T75) an153 (mkL (tabC T75) an153 [] (ac153.body 0)) (ac153.body 0) sk153_0 ou153_0)
noncomputable def lg153_0 (v_list : List (Int × Unit)) (v_n : Int) (v_i : Int) : Option (Sum (Unit) (Sum (Bool × Unit) (Empty))) := lf153_0 (v_list, v_n, v_i, ())
theorem lg153_0_eq (v_list : List (Int × Unit)) (v_n : Int) (v_i : Int) : (lg153_0 v_list v_n v_i) = (br (decide (v_i < ((v_list.length : Nat) : Int))) (chk (decide (0 ≤ v_i ∧ v_i < ((v_list.length : Nat) : Int))) (br ((v_list.getD v_i.toNat ((0 : Int), ())).1 == v_n) (some (.inr (.inl (true, ())))) (lg153_0 v_list v_n (IntKind.i64.wrap (v_i + (1 : Int)))))) (some (.inl (())))) :=
  (show lf153_0 (v_list, v_n, v_i, ()) = _ from lfp_eq (fun x => vround_lin _ _ _ _ x) _).trans (by kernel_rfl)
noncomputable def G153 (a_list : List (Int × Unit)) (a_n : Int) : Option (Bool × Unit) := F153 (a_list, a_n, ())
theorem G153_eq (a_list : List (Int × Unit)) (a_n : Int) : (G153 a_list a_n) = ((lg153_0 a_list a_n (0 : Int)).bind fun o => match o with | .inl (y1 : Unit) => (some (false, ())) | .inr (.inl (y2 : Bool × Unit)) => (some (y2.1, ()))) := by kernel_rfl
noncomputable def ac101 : ACode := acOf Try.prog 101
theorem gd101 : Good Try.prog (101, ac101, [.tmp 4], 90) := ⟨_, Try.func101, by kernel_rfl, by kernel_rfl, by kernel_rfl, by kernel_rfl⟩
/- spec.l31DiskOk -/
def sk101_0 : Skel := ⟨mkE 90 [(3, .box 1 0), (5, .int .i64)], [none, some [.int .i64, .int .i64, .int .i64, .int .i64, .int .i64, .int .i64, .lst [I]]], [], 0⟩
def ou101_0 : List (Option Nat × Skel) := [(some 0, ⟨mkE 90 [], [], [], 0⟩), (none, ⟨mkE 90 [(4, .bool)], [], [], 0⟩)]
def an101 : List (Nat × An) := []
def S101 : List (Skel × List (Option Nat × Skel)) := [(sk101_0, ou101_0)]
def ps101 : List PK := [⟨none, true, MapState, false⟩, ⟨none, true, MapDisk, false⟩]
def rs101 : List PK := [⟨some .S, false, [.bool], false⟩]
noncomputable def F101 := FN (tabC T153) an101 S101 ac101 [.tmp 4] 90 false 1 ps101 rs101
noncomputable def T101 : List (FuncId × Ctr) := (101, ⟨true, false, 1, ps101, rs101, F101⟩) :: T153
theorem hT101 : AllC Try.prog T101 := AllC.fresh (an := an101) (S := S101) (ps := ps101) (rs := rs101) hT153 gd101 (by kernel_rfl)
noncomputable def lf101_0 : Int × Int × Int × Int × Int × Int × Int × (List (Int × Unit)) × Unit → Option (Outs ou101_0) := lfp (vround (tabC T153) an101 (mkL (tabC T153) an101 [] (ac101.body 0)) (ac101.body 0) sk101_0 ou101_0)
noncomputable def lg101_0 (v_i : Int) (v_b1_0 : Int) (v_b1_1 : Int) (v_b1_2 : Int) (v_b1_3 : Int) (v_b1_4 : Int) (v_b1_5 : Int) (v_b1_6 : List (Int × Unit)) : Option (Sum (Unit) (Sum (Bool × Unit) (Empty))) := lf101_0 (v_i, v_b1_0, v_b1_1, v_b1_2, v_b1_3, v_b1_4, v_b1_5, v_b1_6, ())
theorem lg101_0_eq (v_i : Int) (v_b1_0 : Int) (v_b1_1 : Int) (v_b1_2 : Int) (v_b1_3 : Int) (v_b1_4 : Int) (v_b1_5 : Int) (v_b1_6 : List (Int × Unit)) : (lg101_0 v_i v_b1_0 v_b1_1 v_b1_2 v_b1_3 v_b1_4 v_b1_5 v_b1_6) = (br (decide (v_i < ((v_b1_6.length : Nat) : Int))) (chk (decide (0 ≤ v_i ∧ v_i < ((v_b1_6.length : Nat) : Int))) (chk ((decide (0 ≤ (0 : Int) ∧ (0 : Int) ≤ v_i ∧ v_i ≤ ((v_b1_6.length : Nat) : Int))) || (!(!(!(f56 ((v_b1_6.getD v_i.toNat ((0 : Int), ())).1) (0 : Int) (2 : Int)))))) (chk ((decide (0 ≤ v_i ∧ v_i < ((v_b1_6.length : Nat) : Int))) || (!(!(!(f56 ((v_b1_6.getD v_i.toNat ((0 : Int), ())).1) (0 : Int) (2 : Int)))))) (chk ((G153 ((v_b1_6.take v_i.toNat).drop 0) ((v_b1_6.getD v_i.toNat ((0 : Int), ())).1)).isSome || (!(!(!(f56 ((v_b1_6.getD v_i.toNat ((0 : Int), ())).1) (0 : Int) (2 : Int)))))) (br ((!(f56 ((v_b1_6.getD v_i.toNat ((0 : Int), ())).1) (0 : Int) (2 : Int))) || ((G153 ((v_b1_6.take v_i.toNat).drop 0) ((v_b1_6.getD v_i.toNat ((0 : Int), ())).1)).getD (false, ())).1) (some (.inr (.inl (false, ())))) (lg101_0 (IntKind.i64.wrap (v_i + (1 : Int))) v_b1_0 v_b1_1 v_b1_2 v_b1_3 v_b1_4 v_b1_5 v_b1_6)))))) (some (.inl (())))) :=
  (show lf101_0 (v_i, v_b1_0, v_b1_1, v_b1_2, v_b1_3, v_b1_4, v_b1_5, v_b1_6, ()) = _ from lfp_eq (fun x => vround_lin _ _ _ _ x) _).trans (by kernel_rfl)
noncomputable def G101 (a_m0 : Int) (a_m1 : Int) (a_m2 : Int) (a_m3 : List (DMapDisk)) (a_m4 : List (DMapView)) (a_m5 : List (DBlkPiece)) (a_d0 : Int) (a_d1 : Int) (a_d2 : Int) (a_d3 : Int) (a_d4 : Int) (a_d5 : Int) (a_d6 : List (Int × Unit)) : Option (Bool × Unit) := F101 (a_m0, a_m1, a_m2, a_m3, a_m4, a_m5, a_d0, a_d1, a_d2, a_d3, a_d4, a_d5, a_d6, ())
theorem G101_eq (a_m0 : Int) (a_m1 : Int) (a_m2 : Int) (a_m3 : List (DMapDisk)) (a_m4 : List (DMapView)) (a_m5 : List (DBlkPiece)) (a_d0 : Int) (a_d1 : Int) (a_d2 : Int) (a_d3 : Int) (a_d4 : Int) (a_d5 : Int) (a_d6 : List (Int × Unit)) : (G101 a_m0 a_m1 a_m2 a_m3 a_m4 a_m5 a_d0 a_d1 a_d2 a_d3 a_d4 a_d5 a_d6) = (br ((((!(f56 a_d0 (1 : Int) (IntKind.i64.wrap (a_m2 - (1 : Int))))) || (!(f56 a_d1 (1 : Int) (8 : Int)))) || (!(f56 a_d2 (1 : Int) (99999 : Int)))) || (!(f56 a_d3 (0 : Int) (2 : Int)))) (some (false, ())) (br (a_d3 == (0 : Int)) (some ((((a_d4 == (0 : Int)) && (a_d5 == (0 : Int))) && (((a_d6.length : Nat) : Int) == (0 : Int))), ())) (br (((!(f56 a_d4 (0 : Int) (3 : Int))) || (!(f56 a_d5 (1 : Int) (99999 : Int)))) || (decide (((a_d6.length : Nat) : Int) ≥ (3 : Int)))) (some (false, ())) ((lg101_0 (0 : Int) a_d0 a_d1 a_d2 a_d3 a_d4 a_d5 a_d6).bind fun o => match o with | .inl (y1 : Unit) => (some (true, ())) | .inr (.inl (y2 : Bool × Unit)) => (some (y2.1, ())))))) := by kernel_rfl
noncomputable def ac55 : ACode := acOf Try.prog 55
theorem gd55 : Good Try.prog (55, ac55, [.tmp 2], 72) := ⟨_, Try.func55, by kernel_rfl, by kernel_rfl, by kernel_rfl, by kernel_rfl⟩
/- spec.HistStateOk -/
def sk55_0 : Skel := ⟨mkE 72 [(1, .box 0 0), (3, .int .i64)], [some [.int .i64, .int .i64, .lst MapDisk, .lst BlkPiece]], [], 0⟩
def ou55_0 : List (Option Nat × Skel) := [(some 0, ⟨mkE 72 [], [], [], 0⟩), (none, ⟨mkE 72 [(2, .bool)], [], [], 0⟩)]
def an55 : List (Nat × An) := []
def S55 : List (Skel × List (Option Nat × Skel)) := [(sk55_0, ou55_0)]
def ps55 : List PK := [⟨none, true, HistState, false⟩]
def rs55 : List PK := [⟨some .S, false, [.bool], false⟩]
noncomputable def F55 := FN (tabC T101) an55 S55 ac55 [.tmp 2] 72 false 1 ps55 rs55
noncomputable def T55 : List (FuncId × Ctr) := (55, ⟨true, false, 1, ps55, rs55, F55⟩) :: T101
theorem hT55 : AllC Try.prog T55 := AllC.fresh (an := an55) (S := S55) (ps := ps55) (rs := rs55) hT101 gd55 (by kernel_rfl)
noncomputable def lf55_0 : Int × Int × Int × (List (DMapDisk)) × (List (DBlkPiece)) × Unit → Option (Outs ou55_0) := lfp (vround (tabC T101) an55 (mkL (tabC T101) an55 [] (ac55.body 0)) (ac55.body 0) sk55_0 ou55_0)
noncomputable def lg55_0 (v_i : Int) (v_b0_0 : Int) (v_b0_1 : Int) (v_b0_2 : List (DMapDisk)) (v_b0_3 : List (DBlkPiece)) : Option (Sum (Unit) (Sum (Bool × Unit) (Empty))) := lf55_0 (v_i, v_b0_0, v_b0_1, v_b0_2, v_b0_3, ())
theorem lg55_0_eq (v_i : Int) (v_b0_0 : Int) (v_b0_1 : Int) (v_b0_2 : List (DMapDisk)) (v_b0_3 : List (DBlkPiece)) : (lg55_0 v_i v_b0_0 v_b0_1 v_b0_2 v_b0_3) = (br (decide (v_i < ((v_b0_2.length : Nat) : Int))) (chk (decide (0 ≤ v_i ∧ v_i < ((v_b0_2.length : Nat) : Int))) (let e1 : DMapDisk := (v_b0_2.getD v_i.toNat ((0 : Int), (0 : Int), (0 : Int), (0 : Int), (0 : Int), (0 : Int), [], ())); (chk ((decide (0 ≤ v_i ∧ v_i < ((v_b0_2.length : Nat) : Int))) || (!(!(e1.2.2.2.1 != (0 : Int))))) (let e2 : DMapDisk := (v_b0_2.getD v_i.toNat ((0 : Int), (0 : Int), (0 : Int), (0 : Int), (0 : Int), (0 : Int), [], ())); (chk ((G101 (0 : Int) (0 : Int) v_b0_0 [] [] [] e2.1 e2.2.1 e2.2.2.1 e2.2.2.2.1 e2.2.2.2.2.1 e2.2.2.2.2.2.1 e2.2.2.2.2.2.2.1).isSome || (!(!(e1.2.2.2.1 != (0 : Int))))) (chk ((decide (0 ≤ (IntKind.i64.wrap (v_i - (1 : Int))) ∧ (IntKind.i64.wrap (v_i - (1 : Int))) < ((v_b0_2.length : Nat) : Int))) || (!((!((e1.2.2.2.1 != (0 : Int)) || (!((G101 (0 : Int) (0 : Int) v_b0_0 [] [] [] e2.1 e2.2.1 e2.2.2.1 e2.2.2.2.1 e2.2.2.2.2.1 e2.2.2.2.2.2.1 e2.2.2.2.2.2.2.1).getD (false, ())).1))) && (decide (v_i > (0 : Int)))))) (let e3 : DMapDisk := (v_b0_2.getD (IntKind.i64.wrap (v_i - (1 : Int))).toNat ((0 : Int), (0 : Int), (0 : Int), (0 : Int), (0 : Int), (0 : Int), [], ())); (chk ((decide (0 ≤ v_i ∧ v_i < ((v_b0_2.length : Nat) : Int))) || (!((!((e1.2.2.2.1 != (0 : Int)) || (!((G101 (0 : Int) (0 : Int) v_b0_0 [] [] [] e2.1 e2.2.1 e2.2.2.1 e2.2.2.2.1 e2.2.2.2.2.1 e2.2.2.2.2.2.1 e2.2.2.2.2.2.2.1).getD (false, ())).1))) && (decide (v_i > (0 : Int)))))) (let e4 : DMapDisk := (v_b0_2.getD v_i.toNat ((0 : Int), (0 : Int), (0 : Int), (0 : Int), (0 : Int), (0 : Int), [], ())); (br (((e1.2.2.2.1 != (0 : Int)) || (!((G101 (0 : Int) (0 : Int) v_b0_0 [] [] [] e2.1 e2.2.1 e2.2.2.1 e2.2.2.2.1 e2.2.2.2.2.1 e2.2.2.2.2.2.1 e2.2.2.2.2.2.2.1).getD (false, ())).1)) || ((decide (v_i > (0 : Int))) && (decide (e3.1 ≥ e4.1)))) (some (.inr (.inl (false, ())))) (lg55_0 (IntKind.i64.wrap (v_i + (1 : Int))) v_b0_0 v_b0_1 v_b0_2 v_b0_3))))))))))) (some (.inl (())))) :=
  (show lf55_0 (v_i, v_b0_0, v_b0_1, v_b0_2, v_b0_3, ()) = _ from lfp_eq (fun x => vround_lin _ _ _ _ x) _).trans (by kernel_rfl)
noncomputable def G55 (a_s0 : Int) (a_s1 : Int) (a_s2 : List (DMapDisk)) (a_s3 : List (DBlkPiece)) : Option (Bool × Unit) := F55 (a_s0, a_s1, a_s2, a_s3, ())
theorem G55_eq (a_s0 : Int) (a_s1 : Int) (a_s2 : List (DMapDisk)) (a_s3 : List (DBlkPiece)) : (G55 a_s0 a_s1 a_s2 a_s3) = (chk ((G75 a_s3).isSome || (!(!(((!(f56 a_s0 (1 : Int) (5 : Int))) || (!(f56 a_s1 (3 : Int) (5 : Int)))) || (decide (((a_s2.length : Nat) : Int) > (4 : Int))))))) (br ((((!(f56 a_s0 (1 : Int) (5 : Int))) || (!(f56 a_s1 (3 : Int) (5 : Int)))) || (decide (((a_s2.length : Nat) : Int) > (4 : Int)))) || (!((G75 a_s3).getD (false, ())).1)) (some (false, ())) ((lg55_0 (0 : Int) a_s0 a_s1 a_s2 a_s3).bind fun o => match o with | .inl (y5 : Unit) => (some (true, ())) | .inr (.inl (y6 : Bool × Unit)) => (some (y6.1, ()))))) := by kernel_rfl
noncomputable def ac57 : ACode := acOf Try.prog 57
theorem gd57 : Good Try.prog (57, ac57, [.cell 2 true 4], 30) := ⟨_, Try.func57, by kernel_rfl, by kernel_rfl, by kernel_rfl, by kernel_rfl⟩
/- spec.l63Copy -/
def sk57_0 : Skel := ⟨mkE 30 [(1, .box 0 0), (2, .box 1 0), (3, .box 2 0), (4, .int .i64)], [some [.int .i64, .int .i64, .lst MapDisk, .lst BlkPiece], some [.int .i64, .int .i64, .nil, .nil], some [.int .i64, .int .i64, .ref 0, .lst BlkPiece]], [some (.sp, MapDisk)], 0⟩
def ou57_0 : List (Option Nat × Skel) := [(some 0, ⟨mkE 30 [(1, .box 0 0), (2, .box 1 0), (3, .box 2 0)], [some [.int .i64, .int .i64, .lst MapDisk, .lst BlkPiece], some [.int .i64, .int .i64, .nil, .nil], some [.int .i64, .int .i64, .ref 0, .lst BlkPiece]], [some (.sp, MapDisk)], 0⟩)]
def an57 : List (Nat × An) := [(6, .ty MapDisk)]
def S57 : List (Skel × List (Option Nat × Skel)) := [(sk57_0, ou57_0)]
def ps57 : List PK := [⟨none, true, HistState, false⟩]
def rs57 : List PK := [⟨some .S, true, HistState, false⟩]
noncomputable def F57 := FN (tabC T55) an57 S57 ac57 [.cell 2 true 4] 30 false 1 ps57 rs57
noncomputable def T57 : List (FuncId × Ctr) := (57, ⟨true, false, 1, ps57, rs57, F57⟩) :: T55
theorem hT57 : AllC Try.prog T57 := AllC.fresh (an := an57) (S := S57) (ps := ps57) (rs := rs57) hT55 gd57 (by kernel_rfl)
noncomputable def lf57_0 : Int × Int × Int × (List (DMapDisk)) × (List (DBlkPiece)) × Int × Int × Int × Int × (List (DBlkPiece)) × Int × (List (DMapDisk)) × Unit → Option (Outs ou57_0) := lfp (vround (tabC T55) an57 (mkL (tabC T55) an57 [] (ac57.body 0)) (ac57.body 0) sk57_0 ou57_0)
noncomputable def lg57_0 (v_i : Int) (v_b0_0 : Int) (v_b0_1 : Int) (v_b0_2 : List (DMapDisk)) (v_b0_3 : List (DBlkPiece)) (v_b1_0 : Int) (v_b1_1 : Int) (v_b2_0 : Int) (v_b2_1 : Int) (v_b2_3 : List (DBlkPiece)) (v_p0 : Int) (v_r0 : List (DMapDisk)) : Option (Sum (Int × Int × (List (DMapDisk)) × (List (DBlkPiece)) × Int × Int × Int × Int × (List (DBlkPiece)) × Int × (List (DMapDisk)) × Unit) (Empty)) := lf57_0 (v_i, v_b0_0, v_b0_1, v_b0_2, v_b0_3, v_b1_0, v_b1_1, v_b2_0, v_b2_1, v_b2_3, v_p0, v_r0, ())
theorem lg57_0_eq (v_i : Int) (v_b0_0 : Int) (v_b0_1 : Int) (v_b0_2 : List (DMapDisk)) (v_b0_3 : List (DBlkPiece)) (v_b1_0 : Int) (v_b1_1 : Int) (v_b2_0 : Int) (v_b2_1 : Int) (v_b2_3 : List (DBlkPiece)) (v_p0 : Int) (v_r0 : List (DMapDisk)) : (lg57_0 v_i v_b0_0 v_b0_1 v_b0_2 v_b0_3 v_b1_0 v_b1_1 v_b2_0 v_b2_1 v_b2_3 v_p0 v_r0) = (br (decide (v_i < ((v_r0.length : Nat) : Int))) (chk (decide (0 ≤ v_i ∧ v_i < ((v_r0.length : Nat) : Int))) (chk (decide (v_i = v_p0)) (lg57_0 (IntKind.i64.wrap (v_i + (1 : Int))) v_b0_0 v_b0_1 v_b0_2 v_b0_3 v_b1_0 v_b1_1 v_b2_0 v_b2_1 v_b2_3 (v_p0 + 1) (v_r0.set v_i.toNat ((v_r0.getD v_i.toNat ((0 : Int), (0 : Int), (0 : Int), (0 : Int), (0 : Int), (0 : Int), [], ())).1, (v_r0.getD v_i.toNat ((0 : Int), (0 : Int), (0 : Int), (0 : Int), (0 : Int), (0 : Int), [], ())).2.1, (v_r0.getD v_i.toNat ((0 : Int), (0 : Int), (0 : Int), (0 : Int), (0 : Int), (0 : Int), [], ())).2.2.1, (v_r0.getD v_i.toNat ((0 : Int), (0 : Int), (0 : Int), (0 : Int), (0 : Int), (0 : Int), [], ())).2.2.2.1, (v_r0.getD v_i.toNat ((0 : Int), (0 : Int), (0 : Int), (0 : Int), (0 : Int), (0 : Int), [], ())).2.2.2.2.1, (v_r0.getD v_i.toNat ((0 : Int), (0 : Int), (0 : Int), (0 : Int), (0 : Int), (0 : Int), [], ())).2.2.2.2.2.1, [], ()))))) (some (.inl (v_b0_0, v_b0_1, v_b0_2, v_b0_3, v_b1_0, v_b1_1, v_b2_0, v_b2_1, v_b2_3, v_p0, v_r0, ())))) :=
  (show lf57_0 (v_i, v_b0_0, v_b0_1, v_b0_2, v_b0_3, v_b1_0, v_b1_1, v_b2_0, v_b2_1, v_b2_3, v_p0, v_r0, ()) = _ from lfp_eq (fun x => vround_lin _ _ _ _ x) _).trans (by kernel_rfl)
noncomputable def G57 (a_s0 : Int) (a_s1 : Int) (a_s2 : List (DMapDisk)) (a_s3 : List (DBlkPiece)) : Option (DHistState) := F57 (a_s0, a_s1, a_s2, a_s3, ())
theorem G57_eq (a_s0 : Int) (a_s1 : Int) (a_s2 : List (DMapDisk)) (a_s3 : List (DBlkPiece)) : (G57 a_s0 a_s1 a_s2 a_s3) = (chk (capOk ((0) + a_s2.length) 72) ((lg57_0 (0 : Int) a_s0 a_s1 a_s2 a_s3 (0 : Int) (0 : Int) a_s0 a_s1 a_s3 (0 : Int) a_s2).bind fun o => match o with | .inl (y1 : Int × Int × (List (DMapDisk)) × (List (DBlkPiece)) × Int × Int × Int × Int × (List (DBlkPiece)) × Int × (List (DMapDisk)) × Unit) => (chk (decide (y1.2.2.2.2.2.2.2.2.2.1 = ((y1.2.2.2.2.2.2.2.2.2.2.1.length : Nat) : Int))) (chk (capOk ((0) + y1.2.2.2.1.length) 32) (some (y1.2.2.2.2.2.2.1, y1.2.2.2.2.2.2.2.1, y1.2.2.2.2.2.2.2.2.2.2.1, y1.2.2.2.1, ())))))) := by kernel_rfl
noncomputable def ac104 : ACode := acOf Try.prog 104
theorem gd104 : Good Try.prog (104, ac104, [.tmp 4], 22) := ⟨_, Try.func104, by kernel_rfl, by kernel_rfl, by kernel_rfl, by kernel_rfl⟩
/- spec.l31Disk -/
def sk104_0 : Skel := ⟨mkE 22 [(1, .int .i64), (2, .box 0 0), (5, .int .i64)], [some [.int .i64, .int .i64, .int .i64, .lst MapDisk, .lst MapView, .lst BlkPiece]], [], 0⟩
def ou104_0 : List (Option Nat × Skel) := [(some 0, ⟨mkE 22 [], [], [], 0⟩), (none, ⟨mkE 22 [(4, .int .i64)], [], [], 0⟩)]
def an104 : List (Nat × An) := []
def S104 : List (Skel × List (Option Nat × Skel)) := [(sk104_0, ou104_0)]
def ps104 : List PK := [⟨none, true, MapState, false⟩, ⟨none, false, [I], false⟩]
def rs104 : List PK := [⟨some .S, false, [I], false⟩]
noncomputable def F104 := FN (tabC T57) an104 S104 ac104 [.tmp 4] 22 false 1 ps104 rs104
noncomputable def T104 : List (FuncId × Ctr) := (104, ⟨true, false, 1, ps104, rs104, F104⟩) :: T57
theorem hT104 : AllC Try.prog T104 := AllC.fresh (an := an104) (S := S104) (ps := ps104) (rs := rs104) hT57 gd104 (by kernel_rfl)
noncomputable def lf104_0 : Int × Int × Int × Int × Int × (List (DMapDisk)) × (List (DMapView)) × (List (DBlkPiece)) × Unit → Option (Outs ou104_0) := lfp (vround (tabC T57) an104 (mkL (tabC T57) an104 [] (ac104.body 0)) (ac104.body 0) sk104_0 ou104_0)
noncomputable def lg104_0 (v_id : Int) (v_i : Int) (v_b0_0 : Int) (v_b0_1 : Int) (v_b0_2 : Int) (v_b0_3 : List (DMapDisk)) (v_b0_4 : List (DMapView)) (v_b0_5 : List (DBlkPiece)) : Option (Sum (Unit) (Sum (Int × Unit) (Empty))) := lf104_0 (v_id, v_i, v_b0_0, v_b0_1, v_b0_2, v_b0_3, v_b0_4, v_b0_5, ())
theorem lg104_0_eq (v_id : Int) (v_i : Int) (v_b0_0 : Int) (v_b0_1 : Int) (v_b0_2 : Int) (v_b0_3 : List (DMapDisk)) (v_b0_4 : List (DMapView)) (v_b0_5 : List (DBlkPiece)) : (lg104_0 v_id v_i v_b0_0 v_b0_1 v_b0_2 v_b0_3 v_b0_4 v_b0_5) = (br (decide (v_i < ((v_b0_3.length : Nat) : Int))) (chk (decide (0 ≤ v_i ∧ v_i < ((v_b0_3.length : Nat) : Int))) (let e1 : DMapDisk := (v_b0_3.getD v_i.toNat ((0 : Int), (0 : Int), (0 : Int), (0 : Int), (0 : Int), (0 : Int), [], ())); (br (e1.1 == v_id) (some (.inr (.inl (v_i, ())))) (lg104_0 v_id (IntKind.i64.wrap (v_i + (1 : Int))) v_b0_0 v_b0_1 v_b0_2 v_b0_3 v_b0_4 v_b0_5)))) (some (.inl (())))) :=
  (show lf104_0 (v_id, v_i, v_b0_0, v_b0_1, v_b0_2, v_b0_3, v_b0_4, v_b0_5, ()) = _ from lfp_eq (fun x => vround_lin _ _ _ _ x) _).trans (by kernel_rfl)
noncomputable def G104 (a_m0 : Int) (a_m1 : Int) (a_m2 : Int) (a_m3 : List (DMapDisk)) (a_m4 : List (DMapView)) (a_m5 : List (DBlkPiece)) (a_id : Int) : Option (Int × Unit) := F104 (a_m0, a_m1, a_m2, a_m3, a_m4, a_m5, a_id, ())
theorem G104_eq (a_m0 : Int) (a_m1 : Int) (a_m2 : Int) (a_m3 : List (DMapDisk)) (a_m4 : List (DMapView)) (a_m5 : List (DBlkPiece)) (a_id : Int) : (G104 a_m0 a_m1 a_m2 a_m3 a_m4 a_m5 a_id) = ((lg104_0 a_id (0 : Int) a_m0 a_m1 a_m2 a_m3 a_m4 a_m5).bind fun o => match o with | .inl (y2 : Unit) => (some ((-1 : Int), ())) | .inr (.inl (y3 : Int × Unit)) => (some (y3.1, ()))) := by kernel_rfl
noncomputable def ac60 : ACode := acOf Try.prog 60
theorem gd60 : Good Try.prog (60, ac60, [.tmp 4], 10) := ⟨_, Try.func60, by kernel_rfl, by kernel_rfl, by kernel_rfl, by kernel_rfl⟩
/- spec.l63Disk -/
def an60 : List (Nat × An) := []
def S60 : List (Skel × List (Option Nat × Skel)) := []
def ps60 : List PK := [⟨none, true, HistState, false⟩, ⟨none, false, [I], false⟩]
def rs60 : List PK := [⟨some .S, false, [I], false⟩]
noncomputable def F60 := FN (tabC T104) an60 S60 ac60 [.tmp 4] 10 false 1 ps60 rs60
noncomputable def T60 : List (FuncId × Ctr) := (60, ⟨true, false, 1, ps60, rs60, F60⟩) :: T104
theorem hT60 : AllC Try.prog T60 := AllC.fresh (an := an60) (S := S60) (ps := ps60) (rs := rs60) hT104 gd60 (by kernel_rfl)
noncomputable def G60 (a_s0 : Int) (a_s1 : Int) (a_s2 : List (DMapDisk)) (a_s3 : List (DBlkPiece)) (a_id : Int) : Option (Int × Unit) := F60 (a_s0, a_s1, a_s2, a_s3, a_id, ())
theorem G60_eq (a_s0 : Int) (a_s1 : Int) (a_s2 : List (DMapDisk)) (a_s3 : List (DBlkPiece)) (a_id : Int) : (G60 a_s0 a_s1 a_s2 a_s3 a_id) = ((G104 (0 : Int) (0 : Int) (0 : Int) a_s2 [] [] a_id).bind fun (y1 : Int × Unit) => (some (y1.1, ()))) := by kernel_rfl
noncomputable def ac58 : ACode := acOf Try.prog 58
theorem gd58 : Good Try.prog (58, ac58, [.cell 4 true 4, .tmp 5, .tmp 6], 125) := ⟨_, Try.func58, by kernel_rfl, by kernel_rfl, by kernel_rfl, by kernel_rfl⟩
/- spec.l63Admin -/
def an58 : List (Nat × An) := [(47, .ty MapDisk), (111, .ty MapDisk)]
def S58 : List (Skel × List (Option Nat × Skel)) := []
def ps58 : List PK := [⟨some .A, true, HistState, false⟩, ⟨none, true, PanCall, false⟩]
def rs58 : List PK := [⟨some .A, true, HistState, false⟩, ⟨some .A, false, [I], false⟩, ⟨some .A, false, [I], false⟩]
noncomputable def F58 := FN (tabC T60) an58 S58 ac58 [.cell 4 true 4, .tmp 5, .tmp 6] 125 false 3 ps58 rs58
noncomputable def T58 : List (FuncId × Ctr) := (58, ⟨false, false, 3, ps58, rs58, F58⟩) :: T60
theorem hT58 : AllC Try.prog T58 := AllC.own (an := an58) (S := S58) (ps := ps58) (rs := rs58) hT60 gd58 (by kernel_rfl)
noncomputable def G58 (a_s0 : Int) (a_s1 : Int) (a_s2 : List (DMapDisk)) (a_s3 : List (DBlkPiece)) (a_c0 : Int) (a_c1 : Int) (a_c2 : Int) (a_c3 : Int) (a_c4 : Int) (a_c5 : Int) (a_c6 : Int) (a_c7 : Int) (a_c8 : Int) (a_c9 : Bool) (a_c10 : Int) (a_c11 : Int) : Option (Int × Int × (List (DMapDisk)) × (List (DBlkPiece)) × Int × Int × Unit) := F58 (a_s0, a_s1, a_s2, a_s3, a_c0, a_c1, a_c2, a_c3, a_c4, a_c5, a_c6, a_c7, a_c8, a_c9, a_c10, a_c11, ())
theorem G58_eq (a_s0 : Int) (a_s1 : Int) (a_s2 : List (DMapDisk)) (a_s3 : List (DBlkPiece)) (a_c0 : Int) (a_c1 : Int) (a_c2 : Int) (a_c3 : Int) (a_c4 : Int) (a_c5 : Int) (a_c6 : Int) (a_c7 : Int) (a_c8 : Int) (a_c9 : Bool) (a_c10 : Int) (a_c11 : Int) : (G58 a_s0 a_s1 a_s2 a_s3 a_c0 a_c1 a_c2 a_c3 a_c4 a_c5 a_c6 a_c7 a_c8 a_c9 a_c10 a_c11) = ((G60 a_s0 a_s1 a_s2 a_s3 a_c3).bind fun (y1 : Int × Unit) => (let k8 := fun (v2 : Bool) => (br v2 (some (a_s0, a_s1, a_s2, a_s3, (4 : Int), (0 : Int), ())) (br (a_c2 == (3 : Int)) (chk (capOk (a_s2.length + (1)) 72) (some ((IntKind.i64.wrap (a_s0 + (1 : Int))), a_s1, (a_s2 ++ [(a_s0, a_c6, (1 : Int), (0 : Int), (0 : Int), (0 : Int), [], ())]), a_s3, (0 : Int), (IntKind.i64.wrap ((IntKind.i64.wrap (a_s0 + (1 : Int))) - (1 : Int))), ()))) (br (a_c2 == (6 : Int)) (some (a_s0, (IntKind.i64.wrap (a_s1 + (1 : Int))), a_s2, a_s3, (0 : Int), (IntKind.i64.wrap (a_s1 + (1 : Int))), ())) (br (decide (y1.1 < (0 : Int))) (some (a_s0, a_s1, a_s2, a_s3, (1 : Int), (0 : Int), ())) (chk ((decide (0 ≤ y1.1 ∧ y1.1 < ((a_s2.length : Nat) : Int))) || (!(a_c2 == (4 : Int)))) (let e3 : DMapDisk := (a_s2.getD y1.1.toNat ((0 : Int), (0 : Int), (0 : Int), (0 : Int), (0 : Int), (0 : Int), [], ())); (br ((a_c2 == (4 : Int)) && (decide (e3.2.2.1 ≥ (99999 : Int)))) (some (a_s0, a_s1, a_s2, a_s3, (4 : Int), (0 : Int), ())) (br (a_c2 == (4 : Int)) (chk (decide (0 ≤ y1.1 ∧ y1.1 < ((a_s2.length : Nat) : Int))) (let e4 : DMapDisk := (a_s2.getD y1.1.toNat ((0 : Int), (0 : Int), (0 : Int), (0 : Int), (0 : Int), (0 : Int), [], ())); (chk (decide (0 ≤ y1.1 ∧ y1.1 < ((a_s2.length : Nat) : Int))) (let e5 : DMapDisk := (a_s2.getD y1.1.toNat ((0 : Int), (0 : Int), (0 : Int), (0 : Int), (0 : Int), (0 : Int), [], ())); (let e6 : List (DMapDisk) := (a_s2.set y1.1.toNat (e5.1, e5.2.1, (IntKind.i64.wrap (e4.2.2.1 + (1 : Int))), e5.2.2.2.1, e5.2.2.2.2.1, e5.2.2.2.2.2.1, e5.2.2.2.2.2.2.1, ())); (chk (decide (0 ≤ y1.1 ∧ y1.1 < ((e6.length : Nat) : Int))) (let e7 : DMapDisk := (e6.getD y1.1.toNat ((0 : Int), (0 : Int), (0 : Int), (0 : Int), (0 : Int), (0 : Int), [], ())); (some (a_s0, a_s1, e6, a_s3, (0 : Int), (IntKind.i64.wrap (e7.2.2.1 - (1 : Int))), ()))))))))) (chk (decide (0 ≤ (0 : Int) ∧ (0 : Int) ≤ y1.1 ∧ y1.1 ≤ ((a_s2.length : Nat) : Int))) (chk (decide (0 ≤ (IntKind.i64.wrap (y1.1 + (1 : Int))) ∧ (IntKind.i64.wrap (y1.1 + (1 : Int))) ≤ ((a_s2.length : Nat) : Int) ∧ ((a_s2.length : Nat) : Int) ≤ ((a_s2.length : Nat) : Int))) (chk (capOk ((0) + (((a_s2.take y1.1.toNat).drop 0)).length) 72) (chk (capOk ((((a_s2.take y1.1.toNat).drop 0)).length + (((a_s2.take ((a_s2.length : Nat) : Int).toNat).drop (IntKind.i64.wrap (y1.1 + (1 : Int))).toNat)).length) 72) (some (a_s0, a_s1, (((a_s2.take y1.1.toNat).drop 0) ++ ((a_s2.take ((a_s2.length : Nat) : Int).toNat).drop (IntKind.i64.wrap (y1.1 + (1 : Int))).toNat)), a_s3, (0 : Int), (0 : Int), ())))))))))))))); (br ((a_c2 == (3 : Int)) && ((!(f56 a_c6 (1 : Int) (8 : Int))) || (decide (a_s0 > (4 : Int))))) (k8 ((a_c2 == (3 : Int)) && ((!(f56 a_c6 (1 : Int) (8 : Int))) || (decide (a_s0 > (4 : Int)))))) (k8 ((a_c2 == (6 : Int)) && (decide (a_s1 ≥ (5 : Int)))))))) := by kernel_rfl
noncomputable def ac59 : ACode := acOf Try.prog 59
theorem gd59 : Good Try.prog (59, ac59, [.tmp 4], 47) := ⟨_, Try.func59, by kernel_rfl, by kernel_rfl, by kernel_rfl, by kernel_rfl⟩
/- spec.l63Judge -/
def an59 : List (Nat × An) := []
def S59 : List (Skel × List (Option Nat × Skel)) := []
def ps59 : List PK := [⟨none, true, HistState, false⟩, ⟨none, true, PanCall, false⟩]
def rs59 : List PK := [⟨some .S, false, [I], false⟩]
noncomputable def F59 := FN (tabC T58) an59 S59 ac59 [.tmp 4] 47 false 1 ps59 rs59
noncomputable def T59 : List (FuncId × Ctr) := (59, ⟨true, false, 1, ps59, rs59, F59⟩) :: T58
theorem hT59 : AllC Try.prog T59 := AllC.fresh (an := an59) (S := S59) (ps := ps59) (rs := rs59) hT58 gd59 (by kernel_rfl)
noncomputable def G59 (a_s0 : Int) (a_s1 : Int) (a_s2 : List (DMapDisk)) (a_s3 : List (DBlkPiece)) (a_c0 : Int) (a_c1 : Int) (a_c2 : Int) (a_c3 : Int) (a_c4 : Int) (a_c5 : Int) (a_c6 : Int) (a_c7 : Int) (a_c8 : Int) (a_c9 : Bool) (a_c10 : Int) (a_c11 : Int) : Option (Int × Unit) := F59 (a_s0, a_s1, a_s2, a_s3, a_c0, a_c1, a_c2, a_c3, a_c4, a_c5, a_c6, a_c7, a_c8, a_c9, a_c10, a_c11, ())
theorem G59_eq (a_s0 : Int) (a_s1 : Int) (a_s2 : List (DMapDisk)) (a_s3 : List (DBlkPiece)) (a_c0 : Int) (a_c1 : Int) (a_c2 : Int) (a_c3 : Int) (a_c4 : Int) (a_c5 : Int) (a_c6 : Int) (a_c7 : Int) (a_c8 : Int) (a_c9 : Bool) (a_c10 : Int) (a_c11 : Int) : (G59 a_s0 a_s1 a_s2 a_s3 a_c0 a_c1 a_c2 a_c3 a_c4 a_c5 a_c6 a_c7 a_c8 a_c9 a_c10 a_c11) = ((G60 a_s0 a_s1 a_s2 a_s3 a_c3).bind fun (y1 : Int × Unit) => (br (decide (y1.1 < (0 : Int))) (some ((1 : Int), ())) (chk (decide (0 ≤ y1.1 ∧ y1.1 < ((a_s2.length : Nat) : Int))) (let e2 : DMapDisk := (a_s2.getD y1.1.toNat ((0 : Int), (0 : Int), (0 : Int), (0 : Int), (0 : Int), (0 : Int), [], ())); (br (!(f56 a_c4 (0 : Int) (IntKind.i64.wrap (e2.2.1 - (1 : Int))))) (some ((2 : Int), ())) (chk ((decide (0 ≤ y1.1 ∧ y1.1 < ((a_s2.length : Nat) : Int))) || (!((a_c2 == (1 : Int)) && (a_c5 != (0 : Int))))) (let e3 : DMapDisk := (a_s2.getD y1.1.toNat ((0 : Int), (0 : Int), (0 : Int), (0 : Int), (0 : Int), (0 : Int), [], ())); (br (((a_c2 == (1 : Int)) && (a_c5 != (0 : Int))) && (!(f56 a_c5 (1 : Int) (IntKind.i64.wrap (e3.2.2.1 - (1 : Int)))))) (some ((3 : Int), ())) (some ((0 : Int), ())))))))))) := by kernel_rfl
noncomputable def ac61 : ACode := acOf Try.prog 61
theorem gd61 : Good Try.prog (61, ac61, [.tmp 10, .tmp 11], 87) := ⟨_, Try.func61, by kernel_rfl, by kernel_rfl, by kernel_rfl, by kernel_rfl⟩
/- spec.BlkPut -/
def sk61_0 : Skel := ⟨mkE 87 [(0, .lst BlkPiece), (1, .int .i64), (2, .int .i64), (3, .int .i64), (12, .ref 0), (13, .box 0 0), (14, .bool), (15, .int .i64)], [some [.int .i64, .int .i64, .int .i64, .int .i64]], [some (.m .Z, BlkPiece)], 0⟩
def ou61_0 : List (Option Nat × Skel) := [(some 0, ⟨mkE 87 [(0, .lst BlkPiece), (12, .ref 0), (13, .box 0 0), (14, .bool)], [some [.int .i64, .int .i64, .int .i64, .int .i64]], [some (.m .Z, BlkPiece)], 0⟩)]
def an61 : List (Nat × An) := []
def S61 : List (Skel × List (Option Nat × Skel)) := [(sk61_0, ou61_0)]
def ps61 : List PK := [⟨none, false, [(.sl BlkPiece)], false⟩, ⟨none, false, [I], false⟩, ⟨none, false, [I], false⟩, ⟨none, false, [I], false⟩, ⟨none, false, [I], false⟩]
def rs61 : List PK := [⟨some .S, false, [(.sl BlkPiece)], false⟩, ⟨some .S, false, [.bool], false⟩]
noncomputable def F61 := FN (tabC T59) an61 S61 ac61 [.tmp 10, .tmp 11] 87 false 2 ps61 rs61
noncomputable def T61 : List (FuncId × Ctr) := (61, ⟨true, false, 2, ps61, rs61, F61⟩) :: T59
theorem hT61 : AllC Try.prog T61 := AllC.fresh (an := an61) (S := S61) (ps := ps61) (rs := rs61) hT59 gd61 (by kernel_rfl)
noncomputable def lf61_0 : (List (DBlkPiece)) × Int × Int × Int × Bool × Int × Int × Int × Int × Int × (List (DBlkPiece)) × Unit → Option (Outs ou61_0) := lfp (vround (tabC T59) an61 (mkL (tabC T59) an61 [] (ac61.body 0)) (ac61.body 0) sk61_0 ou61_0)
noncomputable def lg61_0 (v_list : List (DBlkPiece)) (v_disk : Int) (v_block : Int) (v_epoch : Int) (v_done : Bool) (v_i : Int) (v_b0_0 : Int) (v_b0_1 : Int) (v_b0_2 : Int) (v_b0_3 : Int) (v_r0 : List (DBlkPiece)) : Option (Sum ((List (DBlkPiece)) × Bool × Int × Int × Int × Int × (List (DBlkPiece)) × Unit) (Empty)) := lf61_0 (v_list, v_disk, v_block, v_epoch, v_done, v_i, v_b0_0, v_b0_1, v_b0_2, v_b0_3, v_r0, ())
theorem lg61_0_eq (v_list : List (DBlkPiece)) (v_disk : Int) (v_block : Int) (v_epoch : Int) (v_done : Bool) (v_i : Int) (v_b0_0 : Int) (v_b0_1 : Int) (v_b0_2 : Int) (v_b0_3 : Int) (v_r0 : List (DBlkPiece)) : (lg61_0 v_list v_disk v_block v_epoch v_done v_i v_b0_0 v_b0_1 v_b0_2 v_b0_3 v_r0) = (br (decide (v_i < ((v_list.length : Nat) : Int))) (chk (decide (0 ≤ v_i ∧ v_i < ((v_list.length : Nat) : Int))) (let e2 : DBlkPiece := (v_list.getD v_i.toNat ((0 : Int), (0 : Int), (0 : Int), (0 : Int), ())); (chk ((G129 e2.1 e2.2.1 e2.2.2.1 e2.2.2.2.1 v_disk v_block v_epoch).isSome || (!(!v_done))) (let k6 := fun (v3 : Bool) (v4 : List (DBlkPiece)) => (br (!(((e2.1 == v_disk) && (e2.2.1 == v_block)) && (e2.2.2.1 == v_epoch))) (chk (capOk (v4.length + (1)) 32) (lg61_0 v_list v_disk v_block v_epoch v3 (IntKind.i64.wrap (v_i + (1 : Int))) v_b0_0 v_b0_1 v_b0_2 v_b0_3 (v4 ++ [(e2.1, e2.2.1, e2.2.2.1, e2.2.2.2.1, ())]))) (lg61_0 v_list v_disk v_block v_epoch v3 (IntKind.i64.wrap (v_i + (1 : Int))) v_b0_0 v_b0_1 v_b0_2 v_b0_3 v4)); (br ((!v_done) && (!((G129 e2.1 e2.2.1 e2.2.2.1 e2.2.2.2.1 v_disk v_block v_epoch).getD (false, ())).1)) (chk (capOk (v_r0.length + (1)) 32) (k6 true (v_r0 ++ [(v_b0_0, v_b0_1, v_b0_2, v_b0_3, ())]))) (k6 v_done v_r0)))))) (some (.inl (v_list, v_done, v_b0_0, v_b0_1, v_b0_2, v_b0_3, v_r0, ())))) :=
  (show lf61_0 (v_list, v_disk, v_block, v_epoch, v_done, v_i, v_b0_0, v_b0_1, v_b0_2, v_b0_3, v_r0, ()) = _ from lfp_eq (fun x => vround_lin _ _ _ _ x) _).trans (by kernel_rfl)
noncomputable def G61 (a_list : List (DBlkPiece)) (a_disk : Int) (a_block : Int) (a_epoch : Int) (a_data : Int) : Option ((List (DBlkPiece)) × Bool × Unit) := F61 (a_list, a_disk, a_block, a_epoch, a_data, ())
theorem G61_eq (a_list : List (DBlkPiece)) (a_disk : Int) (a_block : Int) (a_epoch : Int) (a_data : Int) : (G61 a_list a_disk a_block a_epoch a_data) = ((G75 a_list).bind fun (y1 : Bool × Unit) => (br (!y1.1) (some ([], false, ())) ((lg61_0 a_list a_disk a_block a_epoch false (0 : Int) a_disk a_block a_epoch a_data []).bind fun o => match o with | .inl (y7 : (List (DBlkPiece)) × Bool × Int × Int × Int × Int × (List (DBlkPiece)) × Unit) => (let k10 := fun (v8 : List (DBlkPiece)) => ((G75 v8).bind fun (y9 : Bool × Unit) => (br (!y9.1) (chk (capOk ((0) + y7.1.length) 32) (some (y7.1, false, ()))) (some (v8, true, ())))); (br (!y7.2.1) (chk (capOk (y7.2.2.2.2.2.2.1.length + (1)) 32) (k10 (y7.2.2.2.2.2.2.1 ++ [(y7.2.2.1, y7.2.2.2.1, y7.2.2.2.2.1, y7.2.2.2.2.2.1, ())]))) (k10 y7.2.2.2.2.2.2.1)))))) := by kernel_rfl
noncomputable def ac62 : ACode := acOf Try.prog 62
theorem gd62 : Good Try.prog (62, ac62, [.tmp 8], 52) := ⟨_, Try.func62, by kernel_rfl, by kernel_rfl, by kernel_rfl, by kernel_rfl⟩
/- spec.BlkGet -/
def sk62_0 : Skel := ⟨mkE 52 [(0, .lst BlkPiece), (1, .int .i64), (2, .int .i64), (3, .int .i64), (9, .int .i64), (10, .int .i64)], [], [], 0⟩
def ou62_0 : List (Option Nat × Skel) := [(some 0, ⟨mkE 52 [(9, .int .i64)], [], [], 0⟩)]
def an62 : List (Nat × An) := []
def S62 : List (Skel × List (Option Nat × Skel)) := [(sk62_0, ou62_0)]
def ps62 : List PK := [⟨none, false, [(.sl BlkPiece)], false⟩, ⟨none, false, [I], false⟩, ⟨none, false, [I], false⟩, ⟨none, false, [I], false⟩]
def rs62 : List PK := [⟨some .S, false, [I], false⟩]
noncomputable def F62 := FN (tabC T61) an62 S62 ac62 [.tmp 8] 52 false 1 ps62 rs62
noncomputable def T62 : List (FuncId × Ctr) := (62, ⟨true, false, 1, ps62, rs62, F62⟩) :: T61
theorem hT62 : AllC Try.prog T62 := AllC.fresh (an := an62) (S := S62) (ps := ps62) (rs := rs62) hT61 gd62 (by kernel_rfl)
noncomputable def lf62_0 : (List (DBlkPiece)) × Int × Int × Int × Int × Int × Unit → Option (Outs ou62_0) := lfp (vround (tabC T61) an62 (mkL (tabC T61) an62 [] (ac62.body 0)) (ac62.body 0) sk62_0 ou62_0)
noncomputable def lg62_0 (v_list : List (DBlkPiece)) (v_disk : Int) (v_block : Int) (v_epoch : Int) (v_out : Int) (v_i : Int) : Option (Sum (Int × Unit) (Empty)) := lf62_0 (v_list, v_disk, v_block, v_epoch, v_out, v_i, ())
theorem lg62_0_eq (v_list : List (DBlkPiece)) (v_disk : Int) (v_block : Int) (v_epoch : Int) (v_out : Int) (v_i : Int) : (lg62_0 v_list v_disk v_block v_epoch v_out v_i) = (br (decide (v_i < ((v_list.length : Nat) : Int))) (chk (decide (0 ≤ v_i ∧ v_i < ((v_list.length : Nat) : Int))) (let e2 : DBlkPiece := (v_list.getD v_i.toNat ((0 : Int), (0 : Int), (0 : Int), (0 : Int), ())); (chk ((decide (0 ≤ v_i ∧ v_i < ((v_list.length : Nat) : Int))) || (!(e2.1 == v_disk))) (let e3 : DBlkPiece := (v_list.getD v_i.toNat ((0 : Int), (0 : Int), (0 : Int), (0 : Int), ())); (chk ((decide (0 ≤ v_i ∧ v_i < ((v_list.length : Nat) : Int))) || (!((e2.1 == v_disk) && (e3.2.1 == v_block)))) (let e4 : DBlkPiece := (v_list.getD v_i.toNat ((0 : Int), (0 : Int), (0 : Int), (0 : Int), ())); (br (((e2.1 == v_disk) && (e3.2.1 == v_block)) && (decide (e4.2.2.1 ≤ v_epoch))) (chk (decide (0 ≤ v_i ∧ v_i < ((v_list.length : Nat) : Int))) (let e5 : DBlkPiece := (v_list.getD v_i.toNat ((0 : Int), (0 : Int), (0 : Int), (0 : Int), ())); (lg62_0 v_list v_disk v_block v_epoch e5.2.2.2.1 (IntKind.i64.wrap (v_i + (1 : Int)))))) (lg62_0 v_list v_disk v_block v_epoch v_out (IntKind.i64.wrap (v_i + (1 : Int))))))))))) (some (.inl (v_out, ())))) :=
  (show lf62_0 (v_list, v_disk, v_block, v_epoch, v_out, v_i, ()) = _ from lfp_eq (fun x => vround_lin _ _ _ _ x) _).trans (by kernel_rfl)
noncomputable def G62 (a_list : List (DBlkPiece)) (a_disk : Int) (a_block : Int) (a_epoch : Int) : Option (Int × Unit) := F62 (a_list, a_disk, a_block, a_epoch, ())
theorem G62_eq (a_list : List (DBlkPiece)) (a_disk : Int) (a_block : Int) (a_epoch : Int) : (G62 a_list a_disk a_block a_epoch) = ((G75 a_list).bind fun (y1 : Bool × Unit) => (br (!y1.1) (some ((0 : Int), ())) ((lg62_0 a_list a_disk a_block a_epoch (0 : Int) (0 : Int)).bind fun o => match o with | .inl (y7 : Int × Unit) => (some (y7.1, ()))))) := by kernel_rfl
noncomputable def ac13 : ACode := acOf Try.prog 13
theorem gd13 : Good Try.prog (13, ac13, [.cell 4 true 4, .tmp 5, .tmp 6], 83) := ⟨_, Try.func13, by kernel_rfl, by kernel_rfl, by kernel_rfl, by kernel_rfl⟩
/- spec.HistStep -/
def an13 : List (Nat × An) := [(23, .rows), (62, .rows)]
def S13 : List (Skel × List (Option Nat × Skel)) := []
def ps13 : List PK := [⟨none, true, HistState, false⟩, ⟨none, true, PanCall, false⟩]
def rs13 : List PK := [⟨some .L, true, HistState, false⟩, ⟨some .L, false, [I], false⟩, ⟨some .L, false, [I], false⟩]
noncomputable def F13 := FN (tabC T62) an13 S13 ac13 [.cell 4 true 4, .tmp 5, .tmp 6] 83 false 3 ps13 rs13
noncomputable def T13 : List (FuncId × Ctr) := (13, ⟨false, false, 3, ps13, rs13, F13⟩) :: T62
theorem hT13 : AllC Try.prog T13 := AllC.own (an := an13) (S := S13) (ps := ps13) (rs := rs13) hT62 gd13 (by kernel_rfl)
noncomputable def G13 (a_s0 : Int) (a_s1 : Int) (a_s2 : List (DMapDisk)) (a_s3 : List (DBlkPiece)) (a_c0 : Int) (a_c1 : Int) (a_c2 : Int) (a_c3 : Int) (a_c4 : Int) (a_c5 : Int) (a_c6 : Int) (a_c7 : Int) (a_c8 : Int) (a_c9 : Bool) (a_c10 : Int) (a_c11 : Int) : Option (Int × Int × (List (DMapDisk)) × (List (DBlkPiece)) × Int × Int × Unit) := F13 (a_s0, a_s1, a_s2, a_s3, a_c0, a_c1, a_c2, a_c3, a_c4, a_c5, a_c6, a_c7, a_c8, a_c9, a_c10, a_c11, ())
theorem G13_eq (a_s0 : Int) (a_s1 : Int) (a_s2 : List (DMapDisk)) (a_s3 : List (DBlkPiece)) (a_c0 : Int) (a_c1 : Int) (a_c2 : Int) (a_c3 : Int) (a_c4 : Int) (a_c5 : Int) (a_c6 : Int) (a_c7 : Int) (a_c8 : Int) (a_c9 : Bool) (a_c10 : Int) (a_c11 : Int) : (G13 a_s0 a_s1 a_s2 a_s3 a_c0 a_c1 a_c2 a_c3 a_c4 a_c5 a_c6 a_c7 a_c8 a_c9 a_c10 a_c11) = ((G55 a_s0 a_s1 a_s2 a_s3).bind fun (y1 : Bool × Unit) => (br ((!y1.1) || (!(f56 a_c2 (1 : Int) (6 : Int)))) (some ((0 : Int), (0 : Int), [], [], (5 : Int), (0 : Int), ())) ((G57 a_s0 a_s1 a_s2 a_s3).bind fun (y2 : DHistState) => (br (decide (a_c2 > (2 : Int))) ((G58 y2.1 y2.2.1 y2.2.2.1 y2.2.2.2.1 a_c0 a_c1 a_c2 a_c3 a_c4 a_c5 a_c6 a_c7 a_c8 a_c9 a_c10 a_c11).bind fun (y3 : Int × Int × (List (DMapDisk)) × (List (DBlkPiece)) × Int × Int × Unit) => (some (y3.1, y3.2.1, y3.2.2.1, y3.2.2.2.1, y3.2.2.2.2.1, y3.2.2.2.2.2.1, ()))) ((G59 y2.1 y2.2.1 y2.2.2.1 y2.2.2.2.1 a_c0 a_c1 a_c2 a_c3 a_c4 a_c5 a_c6 a_c7 a_c8 a_c9 a_c10 a_c11).bind fun (y4 : Int × Unit) => (br (y4.1 != (0 : Int)) (some (y2.1, y2.2.1, y2.2.2.1, y2.2.2.2.1, y4.1, (0 : Int), ())) ((G60 y2.1 y2.2.1 y2.2.2.1 y2.2.2.2.1 a_c3).bind fun (y5 : Int × Unit) => (chk (decide (0 ≤ y5.1 ∧ y5.1 < ((y2.2.2.1.length : Nat) : Int))) (let e6 : DMapDisk := (y2.2.2.1.getD y5.1.toNat ((0 : Int), (0 : Int), (0 : Int), (0 : Int), (0 : Int), (0 : Int), [], ())); (br (a_c2 == (2 : Int)) ((G61 y2.2.2.2.1 a_c3 a_c4 e6.2.2.1 a_c6).bind fun (y7 : (List (DBlkPiece)) × Bool × Unit) => (some (y2.1, y2.2.1, y2.2.2.1, y7.1, (0 : Int), (0 : Int), ()))) (let k10 := fun (v8 : Int) => ((G62 y2.2.2.2.1 a_c3 a_c4 v8).bind fun (y9 : Int × Unit) => (some (y2.1, y2.2.1, y2.2.2.1, y2.2.2.2.1, (0 : Int), y9.1, ()))); (br (a_c5 == (0 : Int)) (k10 e6.2.2.1) (k10 a_c5))))))))))))) := by kernel_rfl
noncomputable def ac53 : ACode := acOf Try.prog 53
theorem gd53 : Good Try.prog (53, ac53, [.cell 2 true 4], 82) := ⟨_, Try.func53, by kernel_rfl, by kernel_rfl, by kernel_rfl, by kernel_rfl⟩
/- spec.l73State -/
def sk53_0 : Skel := ⟨mkE 82 [(0, .box 0 0), (2, .box 1 0), (3, .box 2 0), (4, .int .i64)], [some [.lst [(.int .u8)], .int .i64], some [.int .i64, .int .i64, .nil, .nil], some [.int .i64, .int .i64, .ref 0, .ref 1]], [some (.m .L, MapDisk), some (.m .Z, BlkPiece)], 0⟩
def ou53_0 : List (Option Nat × Skel) := [(some 0, ⟨mkE 82 [(0, .box 0 0), (2, .box 1 0), (3, .box 2 0)], [some [.lst [(.int .u8)], .int .i64], some [.int .i64, .int .i64, .nil, .nil], some [.int .i64, .int .i64, .ref 0, .ref 1]], [some (.m .L, MapDisk), some (.m .Z, BlkPiece)], 0⟩)]
def an53 : List (Nat × An) := [(9, .rows)]
def S53 : List (Skel × List (Option Nat × Skel)) := [(sk53_0, ou53_0)]
def ps53 : List PK := [⟨none, false, [(.sl [(.int .u8)]), I], true⟩]
def rs53 : List PK := [⟨none, true, HistState, false⟩, ⟨none, false, [(.sl [(.int .u8)]), I], true⟩]
noncomputable def F53 := FN (tabC T13) an53 S53 ac53 [.cell 2 true 4] 82 false 1 ps53 rs53
noncomputable def T53 : List (FuncId × Ctr) := (53, ⟨false, false, 1, ps53, rs53, F53⟩) :: T13
theorem hT53 : AllC Try.prog T53 := AllC.own (an := an53) (S := S53) (ps := ps53) (rs := rs53) hT13 gd53 (by kernel_rfl)
noncomputable def lf53_0 : Int × (List (Int × Unit)) × Int × Int × Int × Int × Int × (List (DMapDisk)) × (List (DBlkPiece)) × Unit → Option (Outs ou53_0) := lfp (vround (tabC T13) an53 (mkL (tabC T13) an53 [] (ac53.body 0)) (ac53.body 0) sk53_0 ou53_0)
noncomputable def lg53_0 (v_n : Int) (v_b0_0 : List (Int × Unit)) (v_b0_1 : Int) (v_b1_0 : Int) (v_b1_1 : Int) (v_b2_0 : Int) (v_b2_1 : Int) (v_r0 : List (DMapDisk)) (v_r1 : List (DBlkPiece)) : Option (Sum ((List (Int × Unit)) × Int × Int × Int × Int × Int × (List (DMapDisk)) × (List (DBlkPiece)) × Unit) (Empty)) := lf53_0 (v_n, v_b0_0, v_b0_1, v_b1_0, v_b1_1, v_b2_0, v_b2_1, v_r0, v_r1, ())
theorem lg53_0_eq (v_n : Int) (v_b0_0 : List (Int × Unit)) (v_b0_1 : Int) (v_b1_0 : Int) (v_b1_1 : Int) (v_b2_0 : Int) (v_b2_1 : Int) (v_r0 : List (DMapDisk)) (v_r1 : List (DBlkPiece)) : (lg53_0 v_n v_b0_0 v_b0_1 v_b1_0 v_b1_1 v_b2_0 v_b2_1 v_r0 v_r1) = (br (decide (v_n > (0 : Int))) ((G54 v_b0_0 v_b0_1 (8 : Int)).bind fun (y3 : Int × (List (Int × Unit)) × Int × Unit) => (chk (decide (0 ≤ y3.1 ∧ y3.1 < (((8) : Nat) : Int))) ((G54 y3.2.1 y3.2.2.1 (2 : Int)).bind fun (y4 : Int × (List (Int × Unit)) × Int × Unit) => ((G54 y4.2.1 y4.2.2.1 (3 : Int)).bind fun (y5 : Int × (List (Int × Unit)) × Int × Unit) => ((G54 y5.2.1 y5.2.2.1 (9 : Int)).bind fun (y6 : Int × (List (Int × Unit)) × Int × Unit) => ((G13 v_b2_0 v_b2_1 v_r0 v_r1 (0 : Int) (0 : Int) (([((3 : Int), ()), ((3 : Int), ()), ((2 : Int), ()), ((2 : Int), ()), ((2 : Int), ()), ((4 : Int), ()), ((5 : Int), ()), ((6 : Int), ())].getD y3.1.toNat ((0 : Int), ())).1) (IntKind.i64.wrap ((1 : Int) + y4.1)) y5.1 (0 : Int) (IntKind.i64.wrap ((1 : Int) + y6.1)) (0 : Int) (0 : Int) false (0 : Int) (0 : Int)).bind fun (y7 : Int × Int × (List (DMapDisk)) × (List (DBlkPiece)) × Int × Int × Unit) => (lg53_0 (IntKind.i64.wrap (v_n - (1 : Int))) y6.2.1 y6.2.2.1 v_b1_0 v_b1_1 y7.1 y7.2.1 y7.2.2.1 y7.2.2.2.1))))))) (some (.inl (v_b0_0, v_b0_1, v_b1_0, v_b1_1, v_b2_0, v_b2_1, v_r0, v_r1, ())))) :=
  (show lf53_0 (v_n, v_b0_0, v_b0_1, v_b1_0, v_b1_1, v_b2_0, v_b2_1, v_r0, v_r1, ()) = _ from lfp_eq (fun x => vround_lin _ _ _ _ x) _).trans (by kernel_rfl)
noncomputable def G53 (a_r0 : List (Int × Unit)) (a_r1 : Int) : Option (Int × Int × (List (DMapDisk)) × (List (DBlkPiece)) × (List (Int × Unit)) × Int × Unit) := F53 (a_r0, a_r1, ())
theorem G53_eq (a_r0 : List (Int × Unit)) (a_r1 : Int) : (G53 a_r0 a_r1) = ((G128).bind fun (y1 : DHistState) => ((G54 a_r0 a_r1 (9 : Int)).bind fun (y2 : Int × (List (Int × Unit)) × Int × Unit) => ((lg53_0 y2.1 y2.2.1 y2.2.2.1 (0 : Int) (0 : Int) y1.1 y1.2.1 y1.2.2.1 y1.2.2.2.1).bind fun o => match o with | .inl (y8 : (List (Int × Unit)) × Int × Int × Int × Int × Int × (List (DMapDisk)) × (List (DBlkPiece)) × Unit) => ((G54 y8.1 y8.2.1 (14 : Int)).bind fun (y9 : Int × (List (Int × Unit)) × Int × Unit) => (let k36 := fun (v31 : List (Int × Unit)) (v32 : Int) (v33 : Int) (v34 : Int) (v35 : List (DMapDisk)) => (some (v33, v34, v35, y8.2.2.2.2.2.2.2.1, v31, v32, ())); (br (y9.1 == (0 : Int)) ((G54 y9.2.1 y9.2.2.1 (3 : Int)).bind fun (y10 : Int × (List (Int × Unit)) × Int × Unit) => (chk (decide (0 ≤ y10.1 ∧ y10.1 < (((3) : Nat) : Int))) (k36 y10.2.1 y10.2.2.1 (([((0 : Int), ()), ((6 : Int), ()), ((1 : Int), ())].getD y10.1.toNat ((0 : Int), ())).1) y8.2.2.2.2.2.1 y8.2.2.2.2.2.2.1))) (br (y9.1 == (1 : Int)) ((G54 y9.2.1 y9.2.2.1 (2 : Int)).bind fun (y11 : Int × (List (Int × Unit)) × Int × Unit) => (chk (decide (0 ≤ y11.1 ∧ y11.1 < (((2) : Nat) : Int))) (k36 y11.2.1 y11.2.2.1 y8.2.2.2.2.1 (([((2 : Int), ()), ((6 : Int), ())].getD y11.1.toNat ((0 : Int), ())).1) y8.2.2.2.2.2.2.1))) (let k26 := fun (v23 : List (Int × Unit)) (v24 : Int) (v25 : List (DMapDisk)) => (k36 v23 v24 y8.2.2.2.2.1 y8.2.2.2.2.2.1 v25); (br (y9.1 == (2 : Int)) (br (decide (((y8.2.2.2.2.2.2.1.length : Nat) : Int) > (0 : Int))) ((G54 y9.2.1 y9.2.2.1 (3 : Int)).bind fun (y12 : Int × (List (Int × Unit)) × Int × Unit) => (chk (decide (0 ≤ y12.1 ∧ y12.1 < (((3) : Nat) : Int))) (chk (decide (0 ≤ (0 : Int) ∧ (0 : Int) < ((y8.2.2.2.2.2.2.1.length : Nat) : Int))) (let e13 : DMapDisk := (y8.2.2.2.2.2.2.1.getD 0 ((0 : Int), (0 : Int), (0 : Int), (0 : Int), (0 : Int), (0 : Int), [], ())); (let e14 : List (DMapDisk) := (y8.2.2.2.2.2.2.1.set 0 (e13.1, e13.2.1, ([((0 : Int), ()), ((99999 : Int), ()), ((100000 : Int), ())].getD y12.1.toNat ((0 : Int), ())).1, e13.2.2.2.1, e13.2.2.2.2.1, e13.2.2.2.2.2.1, e13.2.2.2.2.2.2.1, ())); (k26 y12.2.1 y12.2.2.1 e14)))))) (k26 y9.2.1 y9.2.2.1 y8.2.2.2.2.2.2.1)) (let k22 := fun (v21 : List (DMapDisk)) => (k26 y9.2.1 y9.2.2.1 v21); (br (y9.1 == (3 : Int)) (br (decide (((y8.2.2.2.2.2.2.1.length : Nat) : Int) > (0 : Int))) (chk (decide (0 ≤ (0 : Int) ∧ (0 : Int) < ((y8.2.2.2.2.2.2.1.length : Nat) : Int))) (let e18 : DMapDisk := (y8.2.2.2.2.2.2.1.getD 0 ((0 : Int), (0 : Int), (0 : Int), (0 : Int), (0 : Int), (0 : Int), [], ())); (let e19 : List (DMapDisk) := (y8.2.2.2.2.2.2.1.set 0 (e18.1, e18.2.1, e18.2.2.1, (1 : Int), e18.2.2.2.2.1, e18.2.2.2.2.2.1, e18.2.2.2.2.2.2.1, ())); (k22 e19)))) (k22 y8.2.2.2.2.2.2.1)) (k22 y8.2.2.2.2.2.2.1)))))))))))) := by kernel_rfl
noncomputable def ac12 : ACode := acOf Try.prog 12
theorem gd12 : Good Try.prog (12, ac12, [.cell 2 true 4, .cell 3 true 12], 45) := ⟨_, Try.func12, by kernel_rfl, by kernel_rfl, by kernel_rfl, by kernel_rfl⟩
/- spec.DrawHistStep -/
def an12 : List (Nat × An) := []
def S12 : List (Skel × List (Option Nat × Skel)) := []
def ps12 : List PK := [⟨none, false, [(.sl [(.int .u8)])], false⟩]
def rs12 : List PK := [⟨none, true, HistState, false⟩, ⟨none, true, PanCall, false⟩]
noncomputable def F12 := FN (tabC T53) an12 S12 ac12 [.cell 2 true 4, .cell 3 true 12] 45 false 2 ps12 rs12
noncomputable def T12 : List (FuncId × Ctr) := (12, ⟨false, false, 2, ps12, rs12, F12⟩) :: T53
theorem hT12 : AllC Try.prog T12 := AllC.own (an := an12) (S := S12) (ps := ps12) (rs := rs12) hT53 gd12 (by kernel_rfl)
noncomputable def G12 (a_code : List (Int × Unit)) : Option (Int × Int × (List (DMapDisk)) × (List (DBlkPiece)) × Int × Int × Int × Int × Int × Int × Int × Int × Int × Bool × Int × Int × Unit) := F12 (a_code, ())
theorem G12_eq (a_code : List (Int × Unit)) : (G12 a_code) = ((G52 a_code).bind fun (y1 : (List (Int × Unit)) × Int × Unit) => ((G53 y1.1 y1.2.1).bind fun (y2 : Int × Int × (List (DMapDisk)) × (List (DBlkPiece)) × (List (Int × Unit)) × Int × Unit) => ((G54 y2.2.2.2.2.1 y2.2.2.2.2.2.1 (6 : Int)).bind fun (y3 : Int × (List (Int × Unit)) × Int × Unit) => ((G54 y3.2.1 y3.2.2.1 (2 : Int)).bind fun (y4 : Int × (List (Int × Unit)) × Int × Unit) => ((G54 y4.2.1 y4.2.2.1 (4 : Int)).bind fun (y5 : Int × (List (Int × Unit)) × Int × Unit) => ((G54 y5.2.1 y5.2.2.1 (12 : Int)).bind fun (y6 : Int × (List (Int × Unit)) × Int × Unit) => (chk (!((11 : Int) == 0)) ((G54 y6.2.1 y6.2.2.1 (2 : Int)).bind fun (y7 : Int × (List (Int × Unit)) × Int × Unit) => ((G54 y7.2.1 y7.2.2.1 (5 : Int)).bind fun (y8 : Int × (List (Int × Unit)) × Int × Unit) => ((G54 y8.2.1 y8.2.2.1 (10 : Int)).bind fun (y9 : Int × (List (Int × Unit)) × Int × Unit) => ((G54 y9.2.1 y9.2.2.1 (12 : Int)).bind fun (y10 : Int × (List (Int × Unit)) × Int × Unit) => (let k13 := fun (v12 : Int) => (some (y2.1, y2.2.1, y2.2.2.1, y2.2.2.2.1, (0 : Int), (0 : Int), v12, (IntKind.i64.wrap ((1 : Int) + y4.1)), (IntKind.i64.wrap (y5.1 - (IntKind.i64.wrap ((IntKind.i64.wrap (y6.1.tdiv (11 : Int))) * (3 : Int))))), (IntKind.i64.wrap (y7.1 * (IntKind.i64.wrap (y8.1 - (1 : Int))))), (IntKind.i64.wrap ((1 : Int) + y9.1)), (0 : Int), (0 : Int), false, (0 : Int), (0 : Int), ())); (br (y10.1 == (0 : Int)) ((G54 y10.2.1 y10.2.2.1 (3 : Int)).bind fun (y11 : Int × (List (Int × Unit)) × Int × Unit) => (chk (decide (0 ≤ y11.1 ∧ y11.1 < (((3) : Nat) : Int))) (k13 (([((0 : Int), ()), ((7 : Int), ()), ((-1 : Int), ())].getD y11.1.toNat ((0 : Int), ())).1)))) (k13 (IntKind.i64.wrap ((1 : Int) + y3.1)))))))))))))))) := by kernel_rfl
noncomputable def ac64 : ACode := acOf Try.prog 64
theorem gd64 : Good Try.prog (64, ac64, [.tmp 6], 15) := ⟨_, Try.func64, by kernel_rfl, by kernel_rfl, by kernel_rfl, by kernel_rfl⟩
/- impl.in -/
def an64 : List (Nat × An) := []
def S64 : List (Skel × List (Option Nat × Skel)) := []
def ps64 : List PK := [⟨none, false, [I], false⟩, ⟨none, false, [I], false⟩, ⟨none, false, [I], false⟩]
def rs64 : List PK := [⟨some .S, false, [.bool], false⟩]
noncomputable def F64 := FN (tabC T12) an64 S64 ac64 [.tmp 6] 15 false 1 ps64 rs64
noncomputable def T64 : List (FuncId × Ctr) := (64, ⟨true, false, 1, ps64, rs64, F64⟩) :: T12
theorem hT64 : AllC Try.prog T64 := AllC.fresh (an := an64) (S := S64) (ps := ps64) (rs := rs64) hT12 gd64 (by kernel_rfl)
noncomputable def G64 (a_n : Int) (a_low : Int) (a_high : Int) : Option (Bool × Unit) := F64 (a_n, a_low, a_high, ())
def f64 (a_n : Int) (a_low : Int) (a_high : Int) : Bool := ((decide (a_n ≥ a_low)) && (decide (a_n ≤ a_high)))
theorem G64_eq (a_n : Int) (a_low : Int) (a_high : Int) : (G64 a_n a_low a_high) = some ((f64 a_n a_low a_high), ()) := by kernel_rfl
noncomputable def ac103 : ACode := acOf Try.prog 103
theorem gd103 : Good Try.prog (103, ac103, [.tmp 2], 5) := ⟨_, Try.func103, by kernel_rfl, by kernel_rfl, by kernel_rfl, by kernel_rfl⟩
/- impl.isRange -/
def an103 : List (Nat × An) := []
def S103 : List (Skel × List (Option Nat × Skel)) := []
def ps103 : List PK := [⟨none, false, [I], false⟩]
def rs103 : List PK := [⟨some .S, false, [.bool], false⟩]
noncomputable def F103 := FN (tabC T64) an103 S103 ac103 [.tmp 2] 5 false 1 ps103 rs103
noncomputable def T103 : List (FuncId × Ctr) := (103, ⟨true, false, 1, ps103, rs103, F103⟩) :: T64
theorem hT103 : AllC Try.prog T103 := AllC.fresh (an := an103) (S := S103) (ps := ps103) (rs := rs103) hT64 gd103 (by kernel_rfl)
noncomputable def G103 (a_r : Int) : Option (Bool × Unit) := F103 (a_r, ())
def f103 (a_r : Int) : Bool := (f64 a_r (0 : Int) (2 : Int))
theorem G103_eq (a_r : Int) : (G103 a_r) = some ((f103 a_r), ()) := by kernel_rfl
noncomputable def ac182 : ACode := acOf Try.prog 182
theorem gd182 : Good Try.prog (182, ac182, [.tmp 4], 17) := ⟨_, Try.func182, by kernel_rfl, by kernel_rfl, by kernel_rfl, by kernel_rfl⟩
/- impl.hasNumber -/
def sk182_0 : Skel := ⟨mkE 17 [(1, .int .i64), (7, .lst [I]), (8, .int .i64), (9, .int .i64)], [], [], 0⟩
def ou182_0 : List (Option Nat × Skel) := [(some 0, ⟨mkE 17 [], [], [], 0⟩), (none, ⟨mkE 17 [(4, .bool)], [], [], 0⟩)]
def an182 : List (Nat × An) := []
def S182 : List (Skel × List (Option Nat × Skel)) := [(sk182_0, ou182_0)]
def ps182 : List PK := [⟨none, false, [(.sl [I])], false⟩, ⟨none, false, [I], false⟩]
def rs182 : List PK := [⟨some .S, false, [.bool], false⟩]
noncomputable def F182 := FN (tabC T103) an182 S182 ac182 [.tmp 4] 17 false 1 ps182 rs182
noncomputable def T182 : List (FuncId × Ctr) := (182, ⟨true, false, 1, ps182, rs182, F182⟩) :: T103
theorem hT182 : AllC Try.prog T182 := AllC.fresh (an := an182) (S := S182) (ps := ps182) (rs := rs182) hT103 gd182 (by kernel_rfl)
noncomputable def lf182_0 : Int × (List (Int × Unit)) × Int × Int × Unit → Option (Outs ou182_0) := lfp (vround (tabC T103) an182 (mkL (tabC T103) an182 [] (ac182.body 0)) (ac182.body 0) sk182_0 ou182_0)
noncomputable def lg182_0 (v_n : Int) (v_t7 : List (Int × Unit)) (v_t8 : Int) (v_t9 : Int) : Option (Sum (Unit) (Sum (Bool × Unit) (Empty))) := lf182_0 (v_n, v_t7, v_t8, v_t9, ())
theorem lg182_0_eq (v_n : Int) (v_t7 : List (Int × Unit)) (v_t8 : Int) (v_t9 : Int) : (lg182_0 v_n v_t7 v_t8 v_t9) = (br (decide (v_t9 < v_t8)) (chk (decide (0 ≤ v_t9 ∧ v_t9 < ((v_t7.length : Nat) : Int))) (br ((v_t7.getD v_t9.toNat ((0 : Int), ())).1 == v_n) (some (.inr (.inl (true, ())))) (lg182_0 v_n v_t7 v_t8 (IntKind.i64.wrap (v_t9 + (1 : Int)))))) (some (.inl (())))) :=
  (show lf182_0 (v_n, v_t7, v_t8, v_t9, ()) = _ from lfp_eq (fun x => vround_lin _ _ _ _ x) _).trans (by kernel_rfl)
noncomputable def G182 (a_list : List (Int × Unit)) (a_n : Int) : Option (Bool × Unit) := F182 (a_list, a_n, ())
theorem G182_eq (a_list : List (Int × Unit)) (a_n : Int) : (G182 a_list a_n) = ((lg182_0 a_n a_list ((a_list.length : Nat) : Int) (0 : Int)).bind fun o => match o with | .inl (y1 : Unit) => (some (false, ())) | .inr (.inl (y2 : Bool × Unit)) => (some (y2.1, ()))) := by kernel_rfl
noncomputable def ac143 : ACode := acOf Try.prog 143
theorem gd143 : Good Try.prog (143, ac143, [.tmp 2], 5) := ⟨_, Try.func143, by kernel_rfl, by kernel_rfl, by kernel_rfl, by kernel_rfl⟩
/- impl.isClient -/
def an143 : List (Nat × An) := []
def S143 : List (Skel × List (Option Nat × Skel)) := []
def ps143 : List PK := [⟨none, false, [I], false⟩]
def rs143 : List PK := [⟨some .S, false, [.bool], false⟩]
noncomputable def F143 := FN (tabC T182) an143 S143 ac143 [.tmp 2] 5 false 1 ps143 rs143
noncomputable def T143 : List (FuncId × Ctr) := (143, ⟨true, false, 1, ps143, rs143, F143⟩) :: T182
theorem hT143 : AllC Try.prog T143 := AllC.fresh (an := an143) (S := S143) (ps := ps143) (rs := rs143) hT182 gd143 (by kernel_rfl)
noncomputable def G143 (a_n : Int) : Option (Bool × Unit) := F143 (a_n, ())
def f143 (a_n : Int) : Bool := (f64 a_n (0 : Int) (3 : Int))
theorem G143_eq (a_n : Int) : (G143 a_n) = some ((f143 a_n), ()) := by kernel_rfl
noncomputable def ac172 : ACode := acOf Try.prog 172
theorem gd172 : Good Try.prog (172, ac172, [.tmp 2], 61) := ⟨_, Try.func172, by kernel_rfl, by kernel_rfl, by kernel_rfl, by kernel_rfl⟩
/- impl.frozenOk -/
def sk172_0 : Skel := ⟨mkE 61 [(1, .box 0 0), (23, .lst [I]), (24, .int .i64), (25, .int .i64)], [some [.int .i64, .int .i64, .int .i64, .int .i64, .int .i64, .int .i64, .lst [I]]], [], 0⟩
def ou172_0 : List (Option Nat × Skel) := [(some 0, ⟨mkE 61 [(1, .box 0 0)], [some [.int .i64, .int .i64, .int .i64, .int .i64, .int .i64, .int .i64, .lst [I]]], [], 0⟩), (none, ⟨mkE 61 [(2, .bool)], [], [], 0⟩)]
def an172 : List (Nat × An) := []
def S172 : List (Skel × List (Option Nat × Skel)) := [(sk172_0, ou172_0)]
def ps172 : List PK := [⟨none, true, MapDisk, false⟩]
def rs172 : List PK := [⟨some .S, false, [.bool], false⟩]
noncomputable def F172 := FN (tabC T143) an172 S172 ac172 [.tmp 2] 61 false 1 ps172 rs172
noncomputable def T172 : List (FuncId × Ctr) := (172, ⟨true, false, 1, ps172, rs172, F172⟩) :: T143
theorem hT172 : AllC Try.prog T172 := AllC.fresh (an := an172) (S := S172) (ps := ps172) (rs := rs172) hT143 gd172 (by kernel_rfl)
noncomputable def lf172_0 : (List (Int × Unit)) × Int × Int × Int × Int × Int × Int × Int × Int × (List (Int × Unit)) × Unit → Option (Outs ou172_0) := lfp (vround (tabC T143) an172 (mkL (tabC T143) an172 [] (ac172.body 0)) (ac172.body 0) sk172_0 ou172_0)
noncomputable def lg172_0 (v_t23 : List (Int × Unit)) (v_t24 : Int) (v_t25 : Int) (v_b0_0 : Int) (v_b0_1 : Int) (v_b0_2 : Int) (v_b0_3 : Int) (v_b0_4 : Int) (v_b0_5 : Int) (v_b0_6 : List (Int × Unit)) : Option (Sum (DMapDisk) (Sum (Bool × Unit) (Empty))) := lf172_0 (v_t23, v_t24, v_t25, v_b0_0, v_b0_1, v_b0_2, v_b0_3, v_b0_4, v_b0_5, v_b0_6, ())
theorem lg172_0_eq (v_t23 : List (Int × Unit)) (v_t24 : Int) (v_t25 : Int) (v_b0_0 : Int) (v_b0_1 : Int) (v_b0_2 : Int) (v_b0_3 : Int) (v_b0_4 : Int) (v_b0_5 : Int) (v_b0_6 : List (Int × Unit)) : (lg172_0 v_t23 v_t24 v_t25 v_b0_0 v_b0_1 v_b0_2 v_b0_3 v_b0_4 v_b0_5 v_b0_6) = (br (decide (v_t25 < v_t24)) (chk (decide (0 ≤ v_t25 ∧ v_t25 < ((v_t23.length : Nat) : Int))) (chk ((decide (0 ≤ (0 : Int) ∧ (0 : Int) ≤ v_t25 ∧ v_t25 ≤ ((v_b0_6.length : Nat) : Int))) || (!(!(!(f103 ((v_t23.getD v_t25.toNat ((0 : Int), ())).1)))))) (chk ((G182 ((v_b0_6.take v_t25.toNat).drop 0) ((v_t23.getD v_t25.toNat ((0 : Int), ())).1)).isSome || (!(!(!(f103 ((v_t23.getD v_t25.toNat ((0 : Int), ())).1)))))) (br ((!(f103 ((v_t23.getD v_t25.toNat ((0 : Int), ())).1))) || ((G182 ((v_b0_6.take v_t25.toNat).drop 0) ((v_t23.getD v_t25.toNat ((0 : Int), ())).1)).getD (false, ())).1) (some (.inr (.inl (false, ())))) (lg172_0 v_t23 v_t24 (IntKind.i64.wrap (v_t25 + (1 : Int))) v_b0_0 v_b0_1 v_b0_2 v_b0_3 v_b0_4 v_b0_5 v_b0_6))))) (some (.inl (v_b0_0, v_b0_1, v_b0_2, v_b0_3, v_b0_4, v_b0_5, v_b0_6, ())))) :=
  (show lf172_0 (v_t23, v_t24, v_t25, v_b0_0, v_b0_1, v_b0_2, v_b0_3, v_b0_4, v_b0_5, v_b0_6, ()) = _ from lfp_eq (fun x => vround_lin _ _ _ _ x) _).trans (by kernel_rfl)
noncomputable def G172 (a_d0 : Int) (a_d1 : Int) (a_d2 : Int) (a_d3 : Int) (a_d4 : Int) (a_d5 : Int) (a_d6 : List (Int × Unit)) : Option (Bool × Unit) := F172 (a_d0, a_d1, a_d2, a_d3, a_d4, a_d5, a_d6, ())
theorem G172_eq (a_d0 : Int) (a_d1 : Int) (a_d2 : Int) (a_d3 : Int) (a_d4 : Int) (a_d5 : Int) (a_d6 : List (Int × Unit)) : (G172 a_d0 a_d1 a_d2 a_d3 a_d4 a_d5 a_d6) = (br (a_d3 == (0 : Int)) (some ((((a_d4 == (0 : Int)) && (a_d5 == (0 : Int))) && (((a_d6.length : Nat) : Int) == (0 : Int))), ())) ((lg172_0 a_d6 ((a_d6.length : Nat) : Int) (0 : Int) a_d0 a_d1 a_d2 a_d3 a_d4 a_d5 a_d6).bind fun o => match o with | .inl (y1 : DMapDisk) => (some (((((f64 y1.2.2.2.1 (1 : Int) (2 : Int)) && (f143 y1.2.2.2.2.1)) && (f64 y1.2.2.2.2.2.1 (1 : Int) (99999 : Int))) && (decide (((y1.2.2.2.2.2.2.1.length : Nat) : Int) < (3 : Int)))), ())) | .inr (.inl (y2 : Bool × Unit)) => (some (y2.1, ())))) := by kernel_rfl
noncomputable def ac130 : ACode := acOf Try.prog 130
theorem gd130 : Good Try.prog (130, ac130, [.tmp 6], 68) := ⟨_, Try.func130, by kernel_rfl, by kernel_rfl, by kernel_rfl, by kernel_rfl⟩
/- impl.disksOk -/
def sk130_0 : Skel := ⟨mkE 68 [(1, .int .i64), (2, .lst MapDisk), (22, .lst MapDisk), (23, .int .i64), (24, .int .i64)], [], [], 0⟩
def ou130_0 : List (Option Nat × Skel) := [(some 0, ⟨mkE 68 [], [], [], 0⟩), (none, ⟨mkE 68 [(6, .bool)], [], [], 0⟩)]
def an130 : List (Nat × An) := []
def S130 : List (Skel × List (Option Nat × Skel)) := [(sk130_0, ou130_0)]
def ps130 : List PK := [⟨none, false, [I], false⟩, ⟨none, false, [I], false⟩, ⟨none, false, [(.sl MapDisk)], false⟩]
def rs130 : List PK := [⟨some .S, false, [.bool], false⟩]
noncomputable def F130 := FN (tabC T172) an130 S130 ac130 [.tmp 6] 68 false 1 ps130 rs130
noncomputable def T130 : List (FuncId × Ctr) := (130, ⟨true, false, 1, ps130, rs130, F130⟩) :: T172
theorem hT130 : AllC Try.prog T130 := AllC.fresh (an := an130) (S := S130) (ps := ps130) (rs := rs130) hT172 gd130 (by kernel_rfl)
noncomputable def lf130_0 : Int × (List (DMapDisk)) × (List (DMapDisk)) × Int × Int × Unit → Option (Outs ou130_0) := lfp (vround (tabC T172) an130 (mkL (tabC T172) an130 [] (ac130.body 0)) (ac130.body 0) sk130_0 ou130_0)
noncomputable def lg130_0 (v_next : Int) (v_list : List (DMapDisk)) (v_t22 : List (DMapDisk)) (v_t23 : Int) (v_t24 : Int) : Option (Sum (Unit) (Sum (Bool × Unit) (Empty))) := lf130_0 (v_next, v_list, v_t22, v_t23, v_t24, ())
theorem lg130_0_eq (v_next : Int) (v_list : List (DMapDisk)) (v_t22 : List (DMapDisk)) (v_t23 : Int) (v_t24 : Int) : (lg130_0 v_next v_list v_t22 v_t23 v_t24) = (br (decide (v_t24 < v_t23)) (chk (decide (0 ≤ v_t24 ∧ v_t24 < ((v_t22.length : Nat) : Int))) (let e1 : DMapDisk := (v_t22.getD v_t24.toNat ((0 : Int), (0 : Int), (0 : Int), (0 : Int), (0 : Int), (0 : Int), [], ())); (chk ((decide (0 ≤ (IntKind.i64.wrap (v_t24 - (1 : Int))) ∧ (IntKind.i64.wrap (v_t24 - (1 : Int))) < ((v_list.length : Nat) : Int))) || (!((!(!(f64 e1.1 (1 : Int) (IntKind.i64.wrap (v_next - (1 : Int)))))) && (decide (v_t24 > (0 : Int)))))) (let e2 : DMapDisk := (v_list.getD (IntKind.i64.wrap (v_t24 - (1 : Int))).toNat ((0 : Int), (0 : Int), (0 : Int), (0 : Int), (0 : Int), (0 : Int), [], ())); (chk ((G172 e1.1 e1.2.1 e1.2.2.1 e1.2.2.2.1 e1.2.2.2.2.1 e1.2.2.2.2.2.1 e1.2.2.2.2.2.2.1).isSome || (!(!((((!(f64 e1.1 (1 : Int) (IntKind.i64.wrap (v_next - (1 : Int))))) || ((decide (v_t24 > (0 : Int))) && (decide (e2.1 ≥ e1.1)))) || (!(f64 e1.2.1 (1 : Int) (8 : Int)))) || (!(f64 e1.2.2.1 (1 : Int) (99999 : Int))))))) (br (((((!(f64 e1.1 (1 : Int) (IntKind.i64.wrap (v_next - (1 : Int))))) || ((decide (v_t24 > (0 : Int))) && (decide (e2.1 ≥ e1.1)))) || (!(f64 e1.2.1 (1 : Int) (8 : Int)))) || (!(f64 e1.2.2.1 (1 : Int) (99999 : Int)))) || (!((G172 e1.1 e1.2.1 e1.2.2.1 e1.2.2.2.1 e1.2.2.2.2.1 e1.2.2.2.2.2.1 e1.2.2.2.2.2.2.1).getD (false, ())).1)) (some (.inr (.inl (false, ())))) (lg130_0 v_next v_list v_t22 v_t23 (IntKind.i64.wrap (v_t24 + (1 : Int)))))))))) (some (.inl (())))) :=
  (show lf130_0 (v_next, v_list, v_t22, v_t23, v_t24, ()) = _ from lfp_eq (fun x => vround_lin _ _ _ _ x) _).trans (by kernel_rfl)
noncomputable def G130 (a_servers : Int) (a_next : Int) (a_list : List (DMapDisk)) : Option (Bool × Unit) := F130 (a_servers, a_next, a_list, ())
theorem G130_eq (a_servers : Int) (a_next : Int) (a_list : List (DMapDisk)) : (G130 a_servers a_next a_list) = (br (((!(f64 a_servers (3 : Int) (5 : Int))) || (!(f64 a_next (1 : Int) (5 : Int)))) || (decide (((a_list.length : Nat) : Int) > (4 : Int)))) (some (false, ())) ((lg130_0 a_next a_list a_list ((a_list.length : Nat) : Int) (0 : Int)).bind fun o => match o with | .inl (y3 : Unit) => (some (true, ())) | .inr (.inl (y4 : Bool × Unit)) => (some (y4.1, ())))) := by kernel_rfl
noncomputable def ac144 : ACode := acOf Try.prog 144
theorem gd144 : Good Try.prog (144, ac144, [.tmp 4], 39) := ⟨_, Try.func144, by kernel_rfl, by kernel_rfl, by kernel_rfl, by kernel_rfl⟩
/- impl.pieceWay -/
def sk144_0 : Skel := ⟨mkE 39 [(22, .ref 0), (23, .int .i64), (24, .int .i64)], [], [some (.m .Z, [I, I])], 0⟩
def ou144_0 : List (Option Nat × Skel) := [(some 0, ⟨mkE 39 [], [], [], 0⟩), (none, ⟨mkE 39 [(4, .int .i64)], [], [], 0⟩)]
def an144 : List (Nat × An) := []
def S144 : List (Skel × List (Option Nat × Skel)) := [(sk144_0, ou144_0)]
def ps144 : List PK := [⟨none, true, BlkPiece, false⟩, ⟨none, true, BlkPiece, false⟩]
def rs144 : List PK := [⟨some .S, false, [I], false⟩]
noncomputable def F144 := FN (tabC T130) an144 S144 ac144 [.tmp 4] 39 false 1 ps144 rs144
noncomputable def T144 : List (FuncId × Ctr) := (144, ⟨true, false, 1, ps144, rs144, F144⟩) :: T130
theorem hT144 : AllC Try.prog T144 := AllC.fresh (an := an144) (S := S144) (ps := ps144) (rs := rs144) hT130 gd144 (by kernel_rfl)
noncomputable def lf144_0 : Int × Int × (List (Int × Int × Unit)) × Unit → Option (Outs ou144_0) := lfp (vround (tabC T130) an144 (mkL (tabC T130) an144 [] (ac144.body 0)) (ac144.body 0) sk144_0 ou144_0)
noncomputable def lg144_0 (v_t23 : Int) (v_t24 : Int) (v_r0 : List (Int × Int × Unit)) : Option (Sum (Unit) (Sum (Int × Unit) (Empty))) := lf144_0 (v_t23, v_t24, v_r0, ())
theorem lg144_0_eq (v_t23 : Int) (v_t24 : Int) (v_r0 : List (Int × Int × Unit)) : (lg144_0 v_t23 v_t24 v_r0) = (br (decide (v_t24 < v_t23)) (chk (decide (0 ≤ v_t24 ∧ v_t24 < ((v_r0.length : Nat) : Int))) (let e1 : Int × Int × Unit := (v_r0.getD v_t24.toNat ((0 : Int), (0 : Int), ())); (br (decide (e1.1 < e1.2.1)) (some (.inr (.inl ((-1 : Int), ())))) (br (decide (e1.1 > e1.2.1)) (some (.inr (.inl ((1 : Int), ())))) (lg144_0 v_t23 (IntKind.i64.wrap (v_t24 + (1 : Int))) v_r0))))) (some (.inl (())))) :=
  (show lf144_0 (v_t23, v_t24, v_r0, ()) = _ from lfp_eq (fun x => vround_lin _ _ _ _ x) _).trans (by kernel_rfl)
noncomputable def G144 (a_a0 : Int) (a_a1 : Int) (a_a2 : Int) (a_a3 : Int) (a_b0 : Int) (a_b1 : Int) (a_b2 : Int) (a_b3 : Int) : Option (Int × Unit) := F144 (a_a0, a_a1, a_a2, a_a3, a_b0, a_b1, a_b2, a_b3, ())
theorem G144_eq (a_a0 : Int) (a_a1 : Int) (a_a2 : Int) (a_a3 : Int) (a_b0 : Int) (a_b1 : Int) (a_b2 : Int) (a_b3 : Int) : (G144 a_a0 a_a1 a_a2 a_a3 a_b0 a_b1 a_b2 a_b3) = ((lg144_0 (((3) : Nat) : Int) (0 : Int) [(a_a0, a_b0, ()), (a_a1, a_b1, ()), (a_a2, a_b2, ())]).bind fun o => match o with | .inl (y2 : Unit) => (some ((0 : Int), ())) | .inr (.inl (y3 : Int × Unit)) => (some (y3.1, ()))) := by kernel_rfl
noncomputable def ac82 : ACode := acOf Try.prog 82
theorem gd82 : Good Try.prog (82, ac82, [.tmp 2], 52) := ⟨_, Try.func82, by kernel_rfl, by kernel_rfl, by kernel_rfl, by kernel_rfl⟩
/- impl.BlkOk -/
def sk82_0 : Skel := ⟨mkE 52 [(0, .lst BlkPiece), (5, .lst BlkPiece), (6, .int .i64), (7, .int .i64)], [], [], 0⟩
def ou82_0 : List (Option Nat × Skel) := [(some 0, ⟨mkE 52 [(0, .lst BlkPiece)], [], [], 0⟩), (none, ⟨mkE 52 [(2, .bool)], [], [], 0⟩)]
def an82 : List (Nat × An) := []
def S82 : List (Skel × List (Option Nat × Skel)) := [(sk82_0, ou82_0)]
def ps82 : List PK := [⟨none, false, [(.sl BlkPiece)], false⟩]
def rs82 : List PK := [⟨some .S, false, [.bool], false⟩]
noncomputable def F82 := FN (tabC T144) an82 S82 ac82 [.tmp 2] 52 false 1 ps82 rs82
noncomputable def T82 : List (FuncId × Ctr) := (82, ⟨true, false, 1, ps82, rs82, F82⟩) :: T144
theorem hT82 : AllC Try.prog T82 := AllC.fresh (an := an82) (S := S82) (ps := ps82) (rs := rs82) hT144 gd82 (by kernel_rfl)
noncomputable def lf82_0 : (List (DBlkPiece)) × (List (DBlkPiece)) × Int × Int × Unit → Option (Outs ou82_0) := lfp (vround (tabC T144) an82 (mkL (tabC T144) an82 [] (ac82.body 0)) (ac82.body 0) sk82_0 ou82_0)
noncomputable def lg82_0 (v_list : List (DBlkPiece)) (v_t5 : List (DBlkPiece)) (v_t6 : Int) (v_t7 : Int) : Option (Sum ((List (DBlkPiece)) × Unit) (Sum (Bool × Unit) (Empty))) := lf82_0 (v_list, v_t5, v_t6, v_t7, ())
theorem lg82_0_eq (v_list : List (DBlkPiece)) (v_t5 : List (DBlkPiece)) (v_t6 : Int) (v_t7 : Int) : (lg82_0 v_list v_t5 v_t6 v_t7) = (br (decide (v_t7 < v_t6)) (chk (decide (0 ≤ v_t7 ∧ v_t7 < ((v_t5.length : Nat) : Int))) (let e1 : DBlkPiece := (v_t5.getD v_t7.toNat ((0 : Int), (0 : Int), (0 : Int), (0 : Int), ())); (chk ((decide (0 ≤ (IntKind.i64.wrap (v_t7 - (1 : Int))) ∧ (IntKind.i64.wrap (v_t7 - (1 : Int))) < ((v_list.length : Nat) : Int))) || (!((!((((!(f64 e1.1 (1 : Int) (99999 : Int))) || (!(f64 e1.2.2.1 (1 : Int) (99999 : Int)))) || (!(f64 e1.2.1 (0 : Int) (99999 : Int)))) || (!(f64 e1.2.2.2.1 (0 : Int) (99999 : Int))))) && (decide (v_t7 > (0 : Int)))))) (let e2 : DBlkPiece := (v_list.getD (IntKind.i64.wrap (v_t7 - (1 : Int))).toNat ((0 : Int), (0 : Int), (0 : Int), (0 : Int), ())); (chk ((G144 e2.1 e2.2.1 e2.2.2.1 e2.2.2.2.1 e1.1 e1.2.1 e1.2.2.1 e1.2.2.2.1).isSome || (!((!((((!(f64 e1.1 (1 : Int) (99999 : Int))) || (!(f64 e1.2.2.1 (1 : Int) (99999 : Int)))) || (!(f64 e1.2.1 (0 : Int) (99999 : Int)))) || (!(f64 e1.2.2.2.1 (0 : Int) (99999 : Int))))) && (decide (v_t7 > (0 : Int)))))) (br (((((!(f64 e1.1 (1 : Int) (99999 : Int))) || (!(f64 e1.2.2.1 (1 : Int) (99999 : Int)))) || (!(f64 e1.2.1 (0 : Int) (99999 : Int)))) || (!(f64 e1.2.2.2.1 (0 : Int) (99999 : Int)))) || ((decide (v_t7 > (0 : Int))) && (decide (((G144 e2.1 e2.2.1 e2.2.2.1 e2.2.2.2.1 e1.1 e1.2.1 e1.2.2.1 e1.2.2.2.1).getD ((0 : Int), ())).1 ≥ (0 : Int))))) (some (.inr (.inl (false, ())))) (lg82_0 v_list v_t5 v_t6 (IntKind.i64.wrap (v_t7 + (1 : Int)))))))))) (some (.inl (v_list, ())))) :=
  (show lf82_0 (v_list, v_t5, v_t6, v_t7, ()) = _ from lfp_eq (fun x => vround_lin _ _ _ _ x) _).trans (by kernel_rfl)
noncomputable def G82 (a_list : List (DBlkPiece)) : Option (Bool × Unit) := F82 (a_list, ())
theorem G82_eq (a_list : List (DBlkPiece)) : (G82 a_list) = ((lg82_0 a_list a_list ((a_list.length : Nat) : Int) (0 : Int)).bind fun o => match o with | .inl (y3 : (List (DBlkPiece)) × Unit) => (some ((decide (((y3.1.length : Nat) : Int) ≤ (60 : Int))), ())) | .inr (.inl (y4 : Bool × Unit)) => (some (y4.1, ()))) := by kernel_rfl
noncomputable def ac63 : ACode := acOf Try.prog 63
theorem gd63 : Good Try.prog (63, ac63, [.tmp 2], 28) := ⟨_, Try.func63, by kernel_rfl, by kernel_rfl, by kernel_rfl, by kernel_rfl⟩
/- impl.HistStateOk -/
def sk63_0 : Skel := ⟨mkE 28 [(1, .box 0 0), (6, .lst MapDisk), (7, .int .i64), (8, .int .i64)], [some [.int .i64, .int .i64, .lst MapDisk, .lst BlkPiece]], [], 0⟩
def ou63_0 : List (Option Nat × Skel) := [(some 0, ⟨mkE 28 [(1, .box 0 0)], [some [.int .i64, .int .i64, .lst MapDisk, .lst BlkPiece]], [], 0⟩), (none, ⟨mkE 28 [(2, .bool)], [], [], 0⟩)]
def an63 : List (Nat × An) := []
def S63 : List (Skel × List (Option Nat × Skel)) := [(sk63_0, ou63_0)]
def ps63 : List PK := [⟨none, true, HistState, false⟩]
def rs63 : List PK := [⟨some .S, false, [.bool], false⟩]
noncomputable def F63 := FN (tabC T82) an63 S63 ac63 [.tmp 2] 28 false 1 ps63 rs63
noncomputable def T63 : List (FuncId × Ctr) := (63, ⟨true, false, 1, ps63, rs63, F63⟩) :: T82
theorem hT63 : AllC Try.prog T63 := AllC.fresh (an := an63) (S := S63) (ps := ps63) (rs := rs63) hT82 gd63 (by kernel_rfl)
noncomputable def lf63_0 : (List (DMapDisk)) × Int × Int × Int × Int × (List (DMapDisk)) × (List (DBlkPiece)) × Unit → Option (Outs ou63_0) := lfp (vround (tabC T82) an63 (mkL (tabC T82) an63 [] (ac63.body 0)) (ac63.body 0) sk63_0 ou63_0)
noncomputable def lg63_0 (v_t6 : List (DMapDisk)) (v_t7 : Int) (v_t8 : Int) (v_b0_0 : Int) (v_b0_1 : Int) (v_b0_2 : List (DMapDisk)) (v_b0_3 : List (DBlkPiece)) : Option (Sum (DHistState) (Sum (Bool × Unit) (Empty))) := lf63_0 (v_t6, v_t7, v_t8, v_b0_0, v_b0_1, v_b0_2, v_b0_3, ())
theorem lg63_0_eq (v_t6 : List (DMapDisk)) (v_t7 : Int) (v_t8 : Int) (v_b0_0 : Int) (v_b0_1 : Int) (v_b0_2 : List (DMapDisk)) (v_b0_3 : List (DBlkPiece)) : (lg63_0 v_t6 v_t7 v_t8 v_b0_0 v_b0_1 v_b0_2 v_b0_3) = (br (decide (v_t8 < v_t7)) (chk (decide (0 ≤ v_t8 ∧ v_t8 < ((v_t6.length : Nat) : Int))) (let e1 : DMapDisk := (v_t6.getD v_t8.toNat ((0 : Int), (0 : Int), (0 : Int), (0 : Int), (0 : Int), (0 : Int), [], ())); (br (e1.2.2.2.1 != (0 : Int)) (some (.inr (.inl (false, ())))) (lg63_0 v_t6 v_t7 (IntKind.i64.wrap (v_t8 + (1 : Int))) v_b0_0 v_b0_1 v_b0_2 v_b0_3)))) (some (.inl (v_b0_0, v_b0_1, v_b0_2, v_b0_3, ())))) :=
  (show lf63_0 (v_t6, v_t7, v_t8, v_b0_0, v_b0_1, v_b0_2, v_b0_3, ()) = _ from lfp_eq (fun x => vround_lin _ _ _ _ x) _).trans (by kernel_rfl)
noncomputable def G63 (a_s0 : Int) (a_s1 : Int) (a_s2 : List (DMapDisk)) (a_s3 : List (DBlkPiece)) : Option (Bool × Unit) := F63 (a_s0, a_s1, a_s2, a_s3, ())
theorem G63_eq (a_s0 : Int) (a_s1 : Int) (a_s2 : List (DMapDisk)) (a_s3 : List (DBlkPiece)) : (G63 a_s0 a_s1 a_s2 a_s3) = ((lg63_0 a_s2 ((a_s2.length : Nat) : Int) (0 : Int) a_s0 a_s1 a_s2 a_s3).bind fun o => match o with | .inl (y2 : DHistState) => ((G130 y2.2.1 y2.1 y2.2.2.1).bind fun (y3 : Bool × Unit) => (chk ((G82 y2.2.2.2.1).isSome || (!y3.1)) (some ((y3.1 && ((G82 y2.2.2.2.1).getD (false, ())).1), ())))) | .inr (.inl (y4 : Bool × Unit)) => (some (y4.1, ()))) := by kernel_rfl
noncomputable def ac175 : ACode := acOf Try.prog 175
theorem gd175 : Good Try.prog (175, ac175, [.tmp 2], 14) := ⟨_, Try.func175, by kernel_rfl, by kernel_rfl, by kernel_rfl, by kernel_rfl⟩
/- impl.copied[impl.MapDisk] -/
def an175 : List (Nat × An) := [(9, .ty MapDisk)]
def S175 : List (Skel × List (Option Nat × Skel)) := []
def ps175 : List PK := [⟨none, false, [(.sl MapDisk)], false⟩]
def rs175 : List PK := [⟨some .L, false, [(.sl MapDisk)], false⟩]
noncomputable def F175 := FN (tabC T63) an175 S175 ac175 [.tmp 2] 14 false 1 ps175 rs175
noncomputable def T175 : List (FuncId × Ctr) := (175, ⟨false, false, 1, ps175, rs175, F175⟩) :: T63
theorem hT175 : AllC Try.prog T175 := AllC.own (an := an175) (S := S175) (ps := ps175) (rs := rs175) hT63 gd175 (by kernel_rfl)
noncomputable def G175 (a_list : List (DMapDisk)) : Option ((List (DMapDisk)) × Unit) := F175 (a_list, ())
theorem G175_eq (a_list : List (DMapDisk)) : (G175 a_list) = (br (((a_list.length : Nat) : Int) == (0 : Int)) (some ([], ())) (chk (decide (0 ≤ ((a_list.length : Nat) : Int) ∧ ((72 : Nat) : Int) * ((a_list.length : Nat) : Int) ≤ 281474976710656 ∧ ((a_list.length : Nat) : Int) ≤ 281474976710656)) (some ((a_list.take (min a_list.length ((List.replicate ((a_list.length : Nat) : Int).toNat (((0 : Int), (0 : Int), (0 : Int), (0 : Int), (0 : Int), (0 : Int), [], ()) : DMapDisk))).length) ++ (List.replicate ((a_list.length : Nat) : Int).toNat (((0 : Int), (0 : Int), (0 : Int), (0 : Int), (0 : Int), (0 : Int), [], ()) : DMapDisk)).drop (min a_list.length ((List.replicate ((a_list.length : Nat) : Int).toNat (((0 : Int), (0 : Int), (0 : Int), (0 : Int), (0 : Int), (0 : Int), [], ()) : DMapDisk))).length)), ())))) := by kernel_rfl
noncomputable def ac176 : ACode := acOf Try.prog 176
theorem gd176 : Good Try.prog (176, ac176, [.tmp 2], 14) := ⟨_, Try.func176, by kernel_rfl, by kernel_rfl, by kernel_rfl, by kernel_rfl⟩
/- impl.copied[int] -/
def an176 : List (Nat × An) := []
def S176 : List (Skel × List (Option Nat × Skel)) := []
def ps176 : List PK := [⟨none, false, [(.sl [I])], false⟩]
def rs176 : List PK := [⟨some .S, false, [(.sl [I])], false⟩]
noncomputable def F176 := FN (tabC T175) an176 S176 ac176 [.tmp 2] 14 false 1 ps176 rs176
noncomputable def T176 : List (FuncId × Ctr) := (176, ⟨true, false, 1, ps176, rs176, F176⟩) :: T175
theorem hT176 : AllC Try.prog T176 := AllC.fresh (an := an176) (S := S176) (ps := ps176) (rs := rs176) hT175 gd176 (by kernel_rfl)
noncomputable def G176 (a_list : List (Int × Unit)) : Option ((List (Int × Unit)) × Unit) := F176 (a_list, ())
theorem G176_eq (a_list : List (Int × Unit)) : (G176 a_list) = (br (((a_list.length : Nat) : Int) == (0 : Int)) (some ([], ())) (chk (decide (0 ≤ ((a_list.length : Nat) : Int) ∧ ((8 : Nat) : Int) * ((a_list.length : Nat) : Int) ≤ 281474976710656 ∧ ((a_list.length : Nat) : Int) ≤ 281474976710656)) (some ((a_list.take (min a_list.length ((List.replicate ((a_list.length : Nat) : Int).toNat (((0 : Int), ()) : Int × Unit))).length) ++ (List.replicate ((a_list.length : Nat) : Int).toNat (((0 : Int), ()) : Int × Unit)).drop (min a_list.length ((List.replicate ((a_list.length : Nat) : Int).toNat (((0 : Int), ()) : Int × Unit))).length)), ())))) := by kernel_rfl
noncomputable def ac133 : ACode := acOf Try.prog 133
theorem gd133 : Good Try.prog (133, ac133, [.tmp 2], 24) := ⟨_, Try.func133, by kernel_rfl, by kernel_rfl, by kernel_rfl, by kernel_rfl⟩
/- impl.disksCopy -/
def sk133_0 : Skel := ⟨mkE 24 [(3, .ref 0), (8, .int .i64), (9, .int .i64)], [], [some (.sp, MapDisk)], 0⟩
def ou133_0 : List (Option Nat × Skel) := [(some 0, ⟨mkE 24 [(3, .ref 0)], [], [some (.sp, MapDisk)], 0⟩)]
def an133 : List (Nat × An) := [(19, .rows)]
def S133 : List (Skel × List (Option Nat × Skel)) := [(sk133_0, ou133_0)]
def ps133 : List PK := [⟨none, false, [(.sl MapDisk)], false⟩]
def rs133 : List PK := [⟨some .S, false, [(.sl MapDisk)], false⟩]
noncomputable def F133 := FN (tabC T176) an133 S133 ac133 [.tmp 2] 24 false 1 ps133 rs133
noncomputable def T133 : List (FuncId × Ctr) := (133, ⟨false, false, 1, ps133, rs133, F133⟩) :: T176
theorem hT133 : AllC Try.prog T133 := AllC.own (an := an133) (S := S133) (ps := ps133) (rs := rs133) hT176 gd133 (by kernel_rfl)
noncomputable def lf133_0 : Int × Int × Int × (List (DMapDisk)) × Unit → Option (Outs ou133_0) := lfp (vround (tabC T176) an133 (mkL (tabC T176) an133 [] (ac133.body 0)) (ac133.body 0) sk133_0 ou133_0)
noncomputable def lg133_0 (v_t8 : Int) (v_t9 : Int) (v_p0 : Int) (v_r0 : List (DMapDisk)) : Option (Sum (Int × (List (DMapDisk)) × Unit) (Empty)) := lf133_0 (v_t8, v_t9, v_p0, v_r0, ())
theorem lg133_0_eq (v_t8 : Int) (v_t9 : Int) (v_p0 : Int) (v_r0 : List (DMapDisk)) : (lg133_0 v_t8 v_t9 v_p0 v_r0) = (br (decide (v_t9 < v_t8)) (chk (decide (0 ≤ v_t9 ∧ v_t9 < ((v_r0.length : Nat) : Int))) (let e2 : DMapDisk := (v_r0.getD v_t9.toNat ((0 : Int), (0 : Int), (0 : Int), (0 : Int), (0 : Int), (0 : Int), [], ())); ((G176 e2.2.2.2.2.2.2.1).bind fun (y3 : (List (Int × Unit)) × Unit) => (chk (decide (0 ≤ v_t9 ∧ v_t9 < ((v_r0.length : Nat) : Int))) (chk (decide (v_t9 = v_p0)) (lg133_0 v_t8 (IntKind.i64.wrap (v_t9 + (1 : Int))) (v_p0 + 1) (v_r0.set v_t9.toNat ((v_r0.getD v_t9.toNat ((0 : Int), (0 : Int), (0 : Int), (0 : Int), (0 : Int), (0 : Int), [], ())).1, (v_r0.getD v_t9.toNat ((0 : Int), (0 : Int), (0 : Int), (0 : Int), (0 : Int), (0 : Int), [], ())).2.1, (v_r0.getD v_t9.toNat ((0 : Int), (0 : Int), (0 : Int), (0 : Int), (0 : Int), (0 : Int), [], ())).2.2.1, (v_r0.getD v_t9.toNat ((0 : Int), (0 : Int), (0 : Int), (0 : Int), (0 : Int), (0 : Int), [], ())).2.2.2.1, (v_r0.getD v_t9.toNat ((0 : Int), (0 : Int), (0 : Int), (0 : Int), (0 : Int), (0 : Int), [], ())).2.2.2.2.1, (v_r0.getD v_t9.toNat ((0 : Int), (0 : Int), (0 : Int), (0 : Int), (0 : Int), (0 : Int), [], ())).2.2.2.2.2.1, y3.1, ())))))))) (some (.inl (v_p0, v_r0, ())))) :=
  (show lf133_0 (v_t8, v_t9, v_p0, v_r0, ()) = _ from lfp_eq (fun x => vround_lin _ _ _ _ x) _).trans (by kernel_rfl)
noncomputable def G133 (a_list : List (DMapDisk)) : Option ((List (DMapDisk)) × Unit) := F133 (a_list, ())
theorem G133_eq (a_list : List (DMapDisk)) : (G133 a_list) = ((G175 a_list).bind fun (y1 : (List (DMapDisk)) × Unit) => ((lg133_0 ((y1.1.length : Nat) : Int) (0 : Int) (0 : Int) y1.1).bind fun o => match o with | .inl (y4 : Int × (List (DMapDisk)) × Unit) => (chk (decide (y4.1 = ((y4.2.1.length : Nat) : Int))) (some (y4.2.1, ()))))) := by kernel_rfl
noncomputable def ac134 : ACode := acOf Try.prog 134
theorem gd134 : Good Try.prog (134, ac134, [.tmp 2], 14) := ⟨_, Try.func134, by kernel_rfl, by kernel_rfl, by kernel_rfl, by kernel_rfl⟩
/- impl.copied[impl.BlkPiece] -/
def an134 : List (Nat × An) := []
def S134 : List (Skel × List (Option Nat × Skel)) := []
def ps134 : List PK := [⟨none, false, [(.sl BlkPiece)], false⟩]
def rs134 : List PK := [⟨some .S, false, [(.sl BlkPiece)], false⟩]
noncomputable def F134 := FN (tabC T133) an134 S134 ac134 [.tmp 2] 14 false 1 ps134 rs134
noncomputable def T134 : List (FuncId × Ctr) := (134, ⟨false, false, 1, ps134, rs134, F134⟩) :: T133
theorem hT134 : AllC Try.prog T134 := AllC.own (an := an134) (S := S134) (ps := ps134) (rs := rs134) hT133 gd134 (by kernel_rfl)
noncomputable def G134 (a_list : List (DBlkPiece)) : Option ((List (DBlkPiece)) × Unit) := F134 (a_list, ())
theorem G134_eq (a_list : List (DBlkPiece)) : (G134 a_list) = (br (((a_list.length : Nat) : Int) == (0 : Int)) (some ([], ())) (chk (decide (0 ≤ ((a_list.length : Nat) : Int) ∧ ((32 : Nat) : Int) * ((a_list.length : Nat) : Int) ≤ 281474976710656 ∧ ((a_list.length : Nat) : Int) ≤ 281474976710656)) (some ((a_list.take (min a_list.length ((List.replicate ((a_list.length : Nat) : Int).toNat (((0 : Int), (0 : Int), (0 : Int), (0 : Int), ()) : DBlkPiece))).length) ++ (List.replicate ((a_list.length : Nat) : Int).toNat (((0 : Int), (0 : Int), (0 : Int), (0 : Int), ()) : DBlkPiece)).drop (min a_list.length ((List.replicate ((a_list.length : Nat) : Int).toNat (((0 : Int), (0 : Int), (0 : Int), (0 : Int), ()) : DBlkPiece))).length)), ())))) := by kernel_rfl
noncomputable def ac66 : ACode := acOf Try.prog 66
theorem gd66 : Good Try.prog (66, ac66, [.cell 2 true 4], 14) := ⟨_, Try.func66, by kernel_rfl, by kernel_rfl, by kernel_rfl, by kernel_rfl⟩
/- impl.histCopy -/
def an66 : List (Nat × An) := []
def S66 : List (Skel × List (Option Nat × Skel)) := []
def ps66 : List PK := [⟨none, true, HistState, false⟩]
def rs66 : List PK := [⟨some .S, true, HistState, false⟩]
noncomputable def F66 := FN (tabC T134) an66 S66 ac66 [.cell 2 true 4] 14 false 1 ps66 rs66
noncomputable def T66 : List (FuncId × Ctr) := (66, ⟨false, false, 1, ps66, rs66, F66⟩) :: T134
theorem hT66 : AllC Try.prog T66 := AllC.own (an := an66) (S := S66) (ps := ps66) (rs := rs66) hT134 gd66 (by kernel_rfl)
noncomputable def G66 (a_s0 : Int) (a_s1 : Int) (a_s2 : List (DMapDisk)) (a_s3 : List (DBlkPiece)) : Option (DHistState) := F66 (a_s0, a_s1, a_s2, a_s3, ())
theorem G66_eq (a_s0 : Int) (a_s1 : Int) (a_s2 : List (DMapDisk)) (a_s3 : List (DBlkPiece)) : (G66 a_s0 a_s1 a_s2 a_s3) = ((G133 a_s2).bind fun (y1 : (List (DMapDisk)) × Unit) => ((G134 a_s3).bind fun (y2 : (List (DBlkPiece)) × Unit) => (some (a_s0, a_s1, y1.1, y2.1, ())))) := by kernel_rfl
noncomputable def ac131 : ACode := acOf Try.prog 131
theorem gd131 : Good Try.prog (131, ac131, [.tmp 4], 20) := ⟨_, Try.func131, by kernel_rfl, by kernel_rfl, by kernel_rfl, by kernel_rfl⟩
/- impl.diskAt -/
def sk131_0 : Skel := ⟨mkE 20 [(1, .int .i64), (7, .lst MapDisk), (8, .int .i64), (9, .int .i64)], [], [], 0⟩
def ou131_0 : List (Option Nat × Skel) := [(some 0, ⟨mkE 20 [], [], [], 0⟩), (none, ⟨mkE 20 [(4, .int .i64)], [], [], 0⟩)]
def an131 : List (Nat × An) := []
def S131 : List (Skel × List (Option Nat × Skel)) := [(sk131_0, ou131_0)]
def ps131 : List PK := [⟨none, false, [(.sl MapDisk)], false⟩, ⟨none, false, [I], false⟩]
def rs131 : List PK := [⟨some .S, false, [I], false⟩]
noncomputable def F131 := FN (tabC T66) an131 S131 ac131 [.tmp 4] 20 false 1 ps131 rs131
noncomputable def T131 : List (FuncId × Ctr) := (131, ⟨true, false, 1, ps131, rs131, F131⟩) :: T66
theorem hT131 : AllC Try.prog T131 := AllC.fresh (an := an131) (S := S131) (ps := ps131) (rs := rs131) hT66 gd131 (by kernel_rfl)
noncomputable def lf131_0 : Int × (List (DMapDisk)) × Int × Int × Unit → Option (Outs ou131_0) := lfp (vround (tabC T66) an131 (mkL (tabC T66) an131 [] (ac131.body 0)) (ac131.body 0) sk131_0 ou131_0)
noncomputable def lg131_0 (v_id : Int) (v_t7 : List (DMapDisk)) (v_t8 : Int) (v_t9 : Int) : Option (Sum (Unit) (Sum (Int × Unit) (Empty))) := lf131_0 (v_id, v_t7, v_t8, v_t9, ())
theorem lg131_0_eq (v_id : Int) (v_t7 : List (DMapDisk)) (v_t8 : Int) (v_t9 : Int) : (lg131_0 v_id v_t7 v_t8 v_t9) = (br (decide (v_t9 < v_t8)) (chk (decide (0 ≤ v_t9 ∧ v_t9 < ((v_t7.length : Nat) : Int))) (let e1 : DMapDisk := (v_t7.getD v_t9.toNat ((0 : Int), (0 : Int), (0 : Int), (0 : Int), (0 : Int), (0 : Int), [], ())); (br (e1.1 == v_id) (some (.inr (.inl (v_t9, ())))) (lg131_0 v_id v_t7 v_t8 (IntKind.i64.wrap (v_t9 + (1 : Int))))))) (some (.inl (())))) :=
  (show lf131_0 (v_id, v_t7, v_t8, v_t9, ()) = _ from lfp_eq (fun x => vround_lin _ _ _ _ x) _).trans (by kernel_rfl)
noncomputable def G131 (a_list : List (DMapDisk)) (a_id : Int) : Option (Int × Unit) := F131 (a_list, a_id, ())
theorem G131_eq (a_list : List (DMapDisk)) (a_id : Int) : (G131 a_list a_id) = ((lg131_0 a_id a_list ((a_list.length : Nat) : Int) (0 : Int)).bind fun o => match o with | .inl (y2 : Unit) => (some ((-1 : Int), ())) | .inr (.inl (y3 : Int × Unit)) => (some (y3.1, ()))) := by kernel_rfl
noncomputable def ac105 : ACode := acOf Try.prog 105
theorem gd105 : Good Try.prog (105, ac105, [.tmp 10], 46) := ⟨_, Try.func105, by kernel_rfl, by kernel_rfl, by kernel_rfl, by kernel_rfl⟩
/- impl.judge -/
def an105 : List (Nat × An) := []
def S105 : List (Skel × List (Option Nat × Skel)) := []
def ps105 : List PK := [⟨none, false, [(.sl MapDisk)], false⟩, ⟨none, false, [I], false⟩, ⟨none, false, [I], false⟩, ⟨none, false, [I], false⟩, ⟨none, false, [.bool], false⟩]
def rs105 : List PK := [⟨some .S, false, [I], false⟩]
noncomputable def F105 := FN (tabC T131) an105 S105 ac105 [.tmp 10] 46 false 1 ps105 rs105
noncomputable def T105 : List (FuncId × Ctr) := (105, ⟨true, false, 1, ps105, rs105, F105⟩) :: T131
theorem hT105 : AllC Try.prog T105 := AllC.fresh (an := an105) (S := S105) (ps := ps105) (rs := rs105) hT131 gd105 (by kernel_rfl)
noncomputable def G105 (a_list : List (DMapDisk)) (a_disk : Int) (a_block : Int) (a_epoch : Int) (a_write : Bool) : Option (Int × Unit) := F105 (a_list, a_disk, a_block, a_epoch, a_write, ())
theorem G105_eq (a_list : List (DMapDisk)) (a_disk : Int) (a_block : Int) (a_epoch : Int) (a_write : Bool) : (G105 a_list a_disk a_block a_epoch a_write) = ((G131 a_list a_disk).bind fun (y1 : Int × Unit) => (br (decide (y1.1 < (0 : Int))) (some ((1 : Int), ())) (chk (decide (0 ≤ y1.1 ∧ y1.1 < ((a_list.length : Nat) : Int))) (let e2 : DMapDisk := (a_list.getD y1.1.toNat ((0 : Int), (0 : Int), (0 : Int), (0 : Int), (0 : Int), (0 : Int), [], ())); (br (!(f64 a_block (0 : Int) (IntKind.i64.wrap (e2.2.1 - (1 : Int))))) (some ((2 : Int), ())) (chk ((decide (0 ≤ y1.1 ∧ y1.1 < ((a_list.length : Nat) : Int))) || (!((!a_write) && (a_epoch != (0 : Int))))) (let e3 : DMapDisk := (a_list.getD y1.1.toNat ((0 : Int), (0 : Int), (0 : Int), (0 : Int), (0 : Int), (0 : Int), [], ())); (br (((!a_write) && (a_epoch != (0 : Int))) && (!(f64 a_epoch (1 : Int) (IntKind.i64.wrap (e3.2.2.1 - (1 : Int)))))) (some ((3 : Int), ())) (some ((0 : Int), ())))))))))) := by kernel_rfl
noncomputable def ac173 : ACode := acOf Try.prog 173
theorem gd173 : Good Try.prog (173, ac173, [.tmp 10, .tmp 11], 65) := ⟨_, Try.func173, by kernel_rfl, by kernel_rfl, by kernel_rfl, by kernel_rfl⟩
/- impl.BlkPut -/
def sk173_0 : Skel := ⟨mkE 65 [(0, .lst BlkPiece), (12, .box 0 0), (13, .ref 1), (14, .bool), (26, .lst BlkPiece), (27, .int .i64), (28, .int .i64)], [some [.int .i64, .int .i64, .int .i64, .int .i64]], [none, some (.m .Z, BlkPiece)], 0⟩
def ou173_0 : List (Option Nat × Skel) := [(some 0, ⟨mkE 65 [(0, .lst BlkPiece), (12, .box 0 0), (13, .ref 1), (14, .bool)], [some [.int .i64, .int .i64, .int .i64, .int .i64]], [none, some (.m .Z, BlkPiece)], 0⟩)]
def an173 : List (Nat × An) := []
def S173 : List (Skel × List (Option Nat × Skel)) := [(sk173_0, ou173_0)]
def ps173 : List PK := [⟨none, false, [(.sl BlkPiece)], false⟩, ⟨none, false, [I], false⟩, ⟨none, false, [I], false⟩, ⟨none, false, [I], false⟩, ⟨none, false, [I], false⟩]
def rs173 : List PK := [⟨some .S, false, [(.sl BlkPiece)], false⟩, ⟨some .S, false, [.bool], false⟩]
noncomputable def F173 := FN (tabC T105) an173 S173 ac173 [.tmp 10, .tmp 11] 65 false 2 ps173 rs173
noncomputable def T173 : List (FuncId × Ctr) := (173, ⟨true, false, 2, ps173, rs173, F173⟩) :: T105
theorem hT173 : AllC Try.prog T173 := AllC.fresh (an := an173) (S := S173) (ps := ps173) (rs := rs173) hT105 gd173 (by kernel_rfl)
noncomputable def lf173_0 : (List (DBlkPiece)) × Bool × (List (DBlkPiece)) × Int × Int × Int × Int × Int × Int × (List (DBlkPiece)) × Unit → Option (Outs ou173_0) := lfp (vround (tabC T105) an173 (mkL (tabC T105) an173 [] (ac173.body 0)) (ac173.body 0) sk173_0 ou173_0)
noncomputable def lg173_0 (v_list : List (DBlkPiece)) (v_put : Bool) (v_t26 : List (DBlkPiece)) (v_t27 : Int) (v_t28 : Int) (v_b0_0 : Int) (v_b0_1 : Int) (v_b0_2 : Int) (v_b0_3 : Int) (v_r1 : List (DBlkPiece)) : Option (Sum ((List (DBlkPiece)) × Bool × Int × Int × Int × Int × (List (DBlkPiece)) × Unit) (Empty)) := lf173_0 (v_list, v_put, v_t26, v_t27, v_t28, v_b0_0, v_b0_1, v_b0_2, v_b0_3, v_r1, ())
theorem lg173_0_eq (v_list : List (DBlkPiece)) (v_put : Bool) (v_t26 : List (DBlkPiece)) (v_t27 : Int) (v_t28 : Int) (v_b0_0 : Int) (v_b0_1 : Int) (v_b0_2 : Int) (v_b0_3 : Int) (v_r1 : List (DBlkPiece)) : (lg173_0 v_list v_put v_t26 v_t27 v_t28 v_b0_0 v_b0_1 v_b0_2 v_b0_3 v_r1) = (br (decide (v_t28 < v_t27)) (chk (decide (0 ≤ v_t28 ∧ v_t28 < ((v_t26.length : Nat) : Int))) (let e2 : DBlkPiece := (v_t26.getD v_t28.toNat ((0 : Int), (0 : Int), (0 : Int), (0 : Int), ())); ((G144 v_b0_0 v_b0_1 v_b0_2 v_b0_3 e2.1 e2.2.1 e2.2.2.1 e2.2.2.2.1).bind fun (y3 : Int × Unit) => (let k7 := fun (v4 : Bool) (v5 : List (DBlkPiece)) => (br (y3.1 != (0 : Int)) (chk (capOk (v5.length + (1)) 32) (lg173_0 v_list v4 v_t26 v_t27 (IntKind.i64.wrap (v_t28 + (1 : Int))) v_b0_0 v_b0_1 v_b0_2 v_b0_3 (v5 ++ [(e2.1, e2.2.1, e2.2.2.1, e2.2.2.2.1, ())]))) (lg173_0 v_list v4 v_t26 v_t27 (IntKind.i64.wrap (v_t28 + (1 : Int))) v_b0_0 v_b0_1 v_b0_2 v_b0_3 v5)); (br ((decide (y3.1 ≤ (0 : Int))) && (!v_put)) (chk (capOk (v_r1.length + (1)) 32) (k7 true (v_r1 ++ [(v_b0_0, v_b0_1, v_b0_2, v_b0_3, ())]))) (k7 v_put v_r1)))))) (some (.inl (v_list, v_put, v_b0_0, v_b0_1, v_b0_2, v_b0_3, v_r1, ())))) :=
  (show lf173_0 (v_list, v_put, v_t26, v_t27, v_t28, v_b0_0, v_b0_1, v_b0_2, v_b0_3, v_r1, ()) = _ from lfp_eq (fun x => vround_lin _ _ _ _ x) _).trans (by kernel_rfl)
noncomputable def G173 (a_list : List (DBlkPiece)) (a_disk : Int) (a_block : Int) (a_epoch : Int) (a_data : Int) : Option ((List (DBlkPiece)) × Bool × Unit) := F173 (a_list, a_disk, a_block, a_epoch, a_data, ())
theorem G173_eq (a_list : List (DBlkPiece)) (a_disk : Int) (a_block : Int) (a_epoch : Int) (a_data : Int) : (G173 a_list a_disk a_block a_epoch a_data) = ((G82 a_list).bind fun (y1 : Bool × Unit) => (br (!y1.1) (some ([], false, ())) ((lg173_0 a_list false a_list ((a_list.length : Nat) : Int) (0 : Int) a_disk a_block a_epoch a_data []).bind fun o => match o with | .inl (y8 : (List (DBlkPiece)) × Bool × Int × Int × Int × Int × (List (DBlkPiece)) × Unit) => (let k13 := fun (v9 : List (DBlkPiece)) => ((G82 v9).bind fun (y10 : Bool × Unit) => (br (!y10.1) ((G134 y8.1).bind fun (y11 : (List (DBlkPiece)) × Unit) => (some (y11.1, false, ()))) ((G134 v9).bind fun (y12 : (List (DBlkPiece)) × Unit) => (some (y12.1, true, ()))))); (br (!y8.2.1) (chk (capOk (y8.2.2.2.2.2.2.1.length + (1)) 32) (k13 (y8.2.2.2.2.2.2.1 ++ [(y8.2.2.1, y8.2.2.2.1, y8.2.2.2.2.1, y8.2.2.2.2.2.1, ())]))) (k13 y8.2.2.2.2.2.2.1)))))) := by kernel_rfl
noncomputable def ac174 : ACode := acOf Try.prog 174
theorem gd174 : Good Try.prog (174, ac174, [.tmp 8], 41) := ⟨_, Try.func174, by kernel_rfl, by kernel_rfl, by kernel_rfl, by kernel_rfl⟩
/- impl.BlkGet -/
def sk174_0 : Skel := ⟨mkE 41 [(1, .int .i64), (2, .int .i64), (3, .int .i64), (9, .int .i64), (15, .lst BlkPiece), (16, .int .i64), (17, .int .i64)], [], [], 0⟩
def ou174_0 : List (Option Nat × Skel) := [(some 0, ⟨mkE 41 [(9, .int .i64)], [], [], 0⟩)]
def an174 : List (Nat × An) := []
def S174 : List (Skel × List (Option Nat × Skel)) := [(sk174_0, ou174_0)]
def ps174 : List PK := [⟨none, false, [(.sl BlkPiece)], false⟩, ⟨none, false, [I], false⟩, ⟨none, false, [I], false⟩, ⟨none, false, [I], false⟩]
def rs174 : List PK := [⟨some .S, false, [I], false⟩]
noncomputable def F174 := FN (tabC T173) an174 S174 ac174 [.tmp 8] 41 false 1 ps174 rs174
noncomputable def T174 : List (FuncId × Ctr) := (174, ⟨true, false, 1, ps174, rs174, F174⟩) :: T173
theorem hT174 : AllC Try.prog T174 := AllC.fresh (an := an174) (S := S174) (ps := ps174) (rs := rs174) hT173 gd174 (by kernel_rfl)
noncomputable def lf174_0 : Int × Int × Int × Int × (List (DBlkPiece)) × Int × Int × Unit → Option (Outs ou174_0) := lfp (vround (tabC T173) an174 (mkL (tabC T173) an174 [] (ac174.body 0)) (ac174.body 0) sk174_0 ou174_0)
noncomputable def lg174_0 (v_disk : Int) (v_block : Int) (v_epoch : Int) (v_out : Int) (v_t15 : List (DBlkPiece)) (v_t16 : Int) (v_t17 : Int) : Option (Sum (Int × Unit) (Empty)) := lf174_0 (v_disk, v_block, v_epoch, v_out, v_t15, v_t16, v_t17, ())
theorem lg174_0_eq (v_disk : Int) (v_block : Int) (v_epoch : Int) (v_out : Int) (v_t15 : List (DBlkPiece)) (v_t16 : Int) (v_t17 : Int) : (lg174_0 v_disk v_block v_epoch v_out v_t15 v_t16 v_t17) = (br (decide (v_t17 < v_t16)) (chk (decide (0 ≤ v_t17 ∧ v_t17 < ((v_t15.length : Nat) : Int))) (let e2 : DBlkPiece := (v_t15.getD v_t17.toNat ((0 : Int), (0 : Int), (0 : Int), (0 : Int), ())); (br (((e2.1 == v_disk) && (e2.2.1 == v_block)) && (decide (e2.2.2.1 ≤ v_epoch))) (lg174_0 v_disk v_block v_epoch e2.2.2.2.1 v_t15 v_t16 (IntKind.i64.wrap (v_t17 + (1 : Int)))) (lg174_0 v_disk v_block v_epoch v_out v_t15 v_t16 (IntKind.i64.wrap (v_t17 + (1 : Int))))))) (some (.inl (v_out, ())))) :=
  (show lf174_0 (v_disk, v_block, v_epoch, v_out, v_t15, v_t16, v_t17, ()) = _ from lfp_eq (fun x => vround_lin _ _ _ _ x) _).trans (by kernel_rfl)
noncomputable def G174 (a_list : List (DBlkPiece)) (a_disk : Int) (a_block : Int) (a_epoch : Int) : Option (Int × Unit) := F174 (a_list, a_disk, a_block, a_epoch, ())
theorem G174_eq (a_list : List (DBlkPiece)) (a_disk : Int) (a_block : Int) (a_epoch : Int) : (G174 a_list a_disk a_block a_epoch) = ((G82 a_list).bind fun (y1 : Bool × Unit) => (br (!y1.1) (some ((0 : Int), ())) ((lg174_0 a_disk a_block a_epoch (0 : Int) a_list ((a_list.length : Nat) : Int) (0 : Int)).bind fun o => match o with | .inl (y4 : Int × Unit) => (some (y4.1, ()))))) := by kernel_rfl
noncomputable def ac132 : ACode := acOf Try.prog 132
theorem gd132 : Good Try.prog (132, ac132, [.cell 4 true 4, .tmp 5, .tmp 6], 67) := ⟨_, Try.func132, by kernel_rfl, by kernel_rfl, by kernel_rfl, by kernel_rfl⟩
/- impl.histBlock -/
def an132 : List (Nat × An) := [(48, .rows)]
def S132 : List (Skel × List (Option Nat × Skel)) := []
def ps132 : List PK := [⟨some .A, true, HistState, false⟩, ⟨none, true, PanCall, false⟩]
def rs132 : List PK := [⟨some .A, true, HistState, false⟩, ⟨some .A, false, [I], false⟩, ⟨some .A, false, [I], false⟩]
noncomputable def F132 := FN (tabC T174) an132 S132 ac132 [.cell 4 true 4, .tmp 5, .tmp 6] 67 false 3 ps132 rs132
noncomputable def T132 : List (FuncId × Ctr) := (132, ⟨false, false, 3, ps132, rs132, F132⟩) :: T174
theorem hT132 : AllC Try.prog T132 := AllC.own (an := an132) (S := S132) (ps := ps132) (rs := rs132) hT174 gd132 (by kernel_rfl)
noncomputable def G132 (a_s0 : Int) (a_s1 : Int) (a_s2 : List (DMapDisk)) (a_s3 : List (DBlkPiece)) (a_c0 : Int) (a_c1 : Int) (a_c2 : Int) (a_c3 : Int) (a_c4 : Int) (a_c5 : Int) (a_c6 : Int) (a_c7 : Int) (a_c8 : Int) (a_c9 : Bool) (a_c10 : Int) (a_c11 : Int) : Option (Int × Int × (List (DMapDisk)) × (List (DBlkPiece)) × Int × Int × Unit) := F132 (a_s0, a_s1, a_s2, a_s3, a_c0, a_c1, a_c2, a_c3, a_c4, a_c5, a_c6, a_c7, a_c8, a_c9, a_c10, a_c11, ())
theorem G132_eq (a_s0 : Int) (a_s1 : Int) (a_s2 : List (DMapDisk)) (a_s3 : List (DBlkPiece)) (a_c0 : Int) (a_c1 : Int) (a_c2 : Int) (a_c3 : Int) (a_c4 : Int) (a_c5 : Int) (a_c6 : Int) (a_c7 : Int) (a_c8 : Int) (a_c9 : Bool) (a_c10 : Int) (a_c11 : Int) : (G132 a_s0 a_s1 a_s2 a_s3 a_c0 a_c1 a_c2 a_c3 a_c4 a_c5 a_c6 a_c7 a_c8 a_c9 a_c10 a_c11) = ((G105 a_s2 a_c3 a_c4 a_c5 (a_c2 == (2 : Int))).bind fun (y1 : Int × Unit) => (br (y1.1 != (0 : Int)) (some (a_s0, a_s1, a_s2, a_s3, y1.1, (0 : Int), ())) ((G131 a_s2 a_c3).bind fun (y2 : Int × Unit) => (chk (decide (0 ≤ y2.1 ∧ y2.1 < ((a_s2.length : Nat) : Int))) (let e3 : DMapDisk := (a_s2.getD y2.1.toNat ((0 : Int), (0 : Int), (0 : Int), (0 : Int), (0 : Int), (0 : Int), [], ())); (br (a_c2 == (2 : Int)) ((G173 a_s3 a_c3 a_c4 e3.2.2.1 a_c6).bind fun (y4 : (List (DBlkPiece)) × Bool × Unit) => (some (a_s0, a_s1, a_s2, y4.1, (0 : Int), (0 : Int), ()))) (br (a_c5 != (0 : Int)) ((G174 a_s3 a_c3 a_c4 a_c5).bind fun (y7 : Int × Unit) => (some (a_s0, a_s1, a_s2, a_s3, (0 : Int), y7.1, ()))) ((G174 a_s3 a_c3 a_c4 e3.2.2.1).bind fun (y8 : Int × Unit) => (some (a_s0, a_s1, a_s2, a_s3, (0 : Int), y8.1, ())))))))))) := by kernel_rfl
noncomputable def ac65 : ACode := acOf Try.prog 65
theorem gd65 : Good Try.prog (65, ac65, [.cell 4 true 4, .tmp 5, .tmp 6], 116) := ⟨_, Try.func65, by kernel_rfl, by kernel_rfl, by kernel_rfl, by kernel_rfl⟩
/- impl.step -/
def an65 : List (Nat × An) := [(50, .ty MapDisk)]
def S65 : List (Skel × List (Option Nat × Skel)) := []
def ps65 : List PK := [⟨some .A, true, HistState, false⟩, ⟨none, true, PanCall, false⟩]
def rs65 : List PK := [⟨some .A, true, HistState, false⟩, ⟨some .A, false, [I], false⟩, ⟨some .A, false, [I], false⟩]
noncomputable def F65 := FN (tabC T132) an65 S65 ac65 [.cell 4 true 4, .tmp 5, .tmp 6] 116 false 3 ps65 rs65
noncomputable def T65 : List (FuncId × Ctr) := (65, ⟨false, false, 3, ps65, rs65, F65⟩) :: T132
theorem hT65 : AllC Try.prog T65 := AllC.own (an := an65) (S := S65) (ps := ps65) (rs := rs65) hT132 gd65 (by kernel_rfl)
noncomputable def G65 (a_s0 : Int) (a_s1 : Int) (a_s2 : List (DMapDisk)) (a_s3 : List (DBlkPiece)) (a_c0 : Int) (a_c1 : Int) (a_c2 : Int) (a_c3 : Int) (a_c4 : Int) (a_c5 : Int) (a_c6 : Int) (a_c7 : Int) (a_c8 : Int) (a_c9 : Bool) (a_c10 : Int) (a_c11 : Int) : Option (Int × Int × (List (DMapDisk)) × (List (DBlkPiece)) × Int × Int × Unit) := F65 (a_s0, a_s1, a_s2, a_s3, a_c0, a_c1, a_c2, a_c3, a_c4, a_c5, a_c6, a_c7, a_c8, a_c9, a_c10, a_c11, ())
theorem G65_eq (a_s0 : Int) (a_s1 : Int) (a_s2 : List (DMapDisk)) (a_s3 : List (DBlkPiece)) (a_c0 : Int) (a_c1 : Int) (a_c2 : Int) (a_c3 : Int) (a_c4 : Int) (a_c5 : Int) (a_c6 : Int) (a_c7 : Int) (a_c8 : Int) (a_c9 : Bool) (a_c10 : Int) (a_c11 : Int) : (G65 a_s0 a_s1 a_s2 a_s3 a_c0 a_c1 a_c2 a_c3 a_c4 a_c5 a_c6 a_c7 a_c8 a_c9 a_c10 a_c11) = ((G131 a_s2 a_c3).bind fun (y1 : Int × Unit) => (br ((a_c2 == (1 : Int)) || (a_c2 == (2 : Int))) ((G132 a_s0 a_s1 a_s2 a_s3 a_c0 a_c1 a_c2 a_c3 a_c4 a_c5 a_c6 a_c7 a_c8 a_c9 a_c10 a_c11).bind fun (y2 : Int × Int × (List (DMapDisk)) × (List (DBlkPiece)) × Int × Int × Unit) => (some (y2.1, y2.2.1, y2.2.2.1, y2.2.2.2.1, y2.2.2.2.2.1, y2.2.2.2.2.2.1, ()))) (br (a_c2 == (3 : Int)) (br ((!(f64 a_c6 (1 : Int) (8 : Int))) || (decide (a_s0 > (4 : Int)))) (some (a_s0, a_s1, a_s2, a_s3, (4 : Int), (0 : Int), ())) (chk (capOk (a_s2.length + (1)) 72) (some ((IntKind.i64.wrap (a_s0 + (1 : Int))), a_s1, (a_s2 ++ [(a_s0, a_c6, (1 : Int), (0 : Int), (0 : Int), (0 : Int), [], ())]), a_s3, (0 : Int), (IntKind.i64.wrap ((IntKind.i64.wrap (a_s0 + (1 : Int))) - (1 : Int))), ())))) (br (a_c2 == (6 : Int)) (br (a_s1 == (5 : Int)) (some (a_s0, a_s1, a_s2, a_s3, (4 : Int), (0 : Int), ())) (some (a_s0, (IntKind.i64.wrap (a_s1 + (1 : Int))), a_s2, a_s3, (0 : Int), (IntKind.i64.wrap (a_s1 + (1 : Int))), ()))) (br (decide (y1.1 < (0 : Int))) (some (a_s0, a_s1, a_s2, a_s3, (1 : Int), (0 : Int), ())) (br (a_c2 == (4 : Int)) (chk (decide (0 ≤ y1.1 ∧ y1.1 < ((a_s2.length : Nat) : Int))) (let e3 : DMapDisk := (a_s2.getD y1.1.toNat ((0 : Int), (0 : Int), (0 : Int), (0 : Int), (0 : Int), (0 : Int), [], ())); (br (e3.2.2.1 == (99999 : Int)) (some (a_s0, a_s1, a_s2, a_s3, (4 : Int), (0 : Int), ())) (chk (decide (0 ≤ y1.1 ∧ y1.1 < ((a_s2.length : Nat) : Int))) (let e4 : DMapDisk := (a_s2.getD y1.1.toNat ((0 : Int), (0 : Int), (0 : Int), (0 : Int), (0 : Int), (0 : Int), [], ())); (chk (decide (0 ≤ y1.1 ∧ y1.1 < ((a_s2.length : Nat) : Int))) (let e5 : DMapDisk := (a_s2.getD y1.1.toNat ((0 : Int), (0 : Int), (0 : Int), (0 : Int), (0 : Int), (0 : Int), [], ())); (let e6 : List (DMapDisk) := (a_s2.set y1.1.toNat (e5.1, e5.2.1, (IntKind.i64.wrap (e4.2.2.1 + (1 : Int))), e5.2.2.2.1, e5.2.2.2.2.1, e5.2.2.2.2.2.1, e5.2.2.2.2.2.2.1, ())); (some (a_s0, a_s1, e6, a_s3, (0 : Int), e3.2.2.1, ())))))))))) (chk (decide (0 ≤ (0 : Int) ∧ (0 : Int) ≤ y1.1 ∧ y1.1 ≤ ((a_s2.length : Nat) : Int))) (chk (decide (0 ≤ (IntKind.i64.wrap (y1.1 + (1 : Int))) ∧ (IntKind.i64.wrap (y1.1 + (1 : Int))) ≤ ((a_s2.length : Nat) : Int) ∧ ((a_s2.length : Nat) : Int) ≤ ((a_s2.length : Nat) : Int))) (chk (decide ((0 : Int) = 0)) (chk (capOk (y1.1.toNat + (((a_s2.take ((a_s2.length : Nat) : Int).toNat).drop (IntKind.i64.wrap (y1.1 + (1 : Int))).toNat)).length) 72) (some (a_s0, a_s1, (a_s2.take y1.1.toNat ++ ((a_s2.take ((a_s2.length : Nat) : Int).toNat).drop (IntKind.i64.wrap (y1.1 + (1 : Int))).toNat)), a_s3, (0 : Int), (0 : Int), ())))))))))))) := by kernel_rfl
noncomputable def ac14 : ACode := acOf Try.prog 14
theorem gd14 : Good Try.prog (14, ac14, [.cell 4 true 4, .tmp 5, .tmp 6], 32) := ⟨_, Try.func14, by kernel_rfl, by kernel_rfl, by kernel_rfl, by kernel_rfl⟩
/- impl.HistStep -/
def an14 : List (Nat × An) := []
def S14 : List (Skel × List (Option Nat × Skel)) := []
def ps14 : List PK := [⟨none, true, HistState, false⟩, ⟨none, true, PanCall, false⟩]
def rs14 : List PK := [⟨some .S, true, HistState, false⟩, ⟨some .S, false, [I], false⟩, ⟨some .S, false, [I], false⟩]
noncomputable def F14 := FN (tabC T65) an14 S14 ac14 [.cell 4 true 4, .tmp 5, .tmp 6] 32 false 3 ps14 rs14
noncomputable def T14 : List (FuncId × Ctr) := (14, ⟨true, false, 3, ps14, rs14, F14⟩) :: T65
theorem hT14 : AllC Try.prog T14 := AllC.fresh (an := an14) (S := S14) (ps := ps14) (rs := rs14) hT65 gd14 (by kernel_rfl)
noncomputable def G14 (a_s0 : Int) (a_s1 : Int) (a_s2 : List (DMapDisk)) (a_s3 : List (DBlkPiece)) (a_c0 : Int) (a_c1 : Int) (a_c2 : Int) (a_c3 : Int) (a_c4 : Int) (a_c5 : Int) (a_c6 : Int) (a_c7 : Int) (a_c8 : Int) (a_c9 : Bool) (a_c10 : Int) (a_c11 : Int) : Option (Int × Int × (List (DMapDisk)) × (List (DBlkPiece)) × Int × Int × Unit) := F14 (a_s0, a_s1, a_s2, a_s3, a_c0, a_c1, a_c2, a_c3, a_c4, a_c5, a_c6, a_c7, a_c8, a_c9, a_c10, a_c11, ())
theorem G14_eq (a_s0 : Int) (a_s1 : Int) (a_s2 : List (DMapDisk)) (a_s3 : List (DBlkPiece)) (a_c0 : Int) (a_c1 : Int) (a_c2 : Int) (a_c3 : Int) (a_c4 : Int) (a_c5 : Int) (a_c6 : Int) (a_c7 : Int) (a_c8 : Int) (a_c9 : Bool) (a_c10 : Int) (a_c11 : Int) : (G14 a_s0 a_s1 a_s2 a_s3 a_c0 a_c1 a_c2 a_c3 a_c4 a_c5 a_c6 a_c7 a_c8 a_c9 a_c10 a_c11) = ((G63 a_s0 a_s1 a_s2 a_s3).bind fun (y1 : Bool × Unit) => (br ((!y1.1) || (!(f64 a_c2 (1 : Int) (6 : Int)))) (some ((0 : Int), (0 : Int), [], [], (5 : Int), (0 : Int), ())) ((G66 a_s0 a_s1 a_s2 a_s3).bind fun (y2 : DHistState) => ((G65 y2.1 y2.2.1 y2.2.2.1 y2.2.2.2.1 a_c0 a_c1 a_c2 a_c3 a_c4 a_c5 a_c6 a_c7 a_c8 a_c9 a_c10 a_c11).bind fun (y3 : Int × Int × (List (DMapDisk)) × (List (DBlkPiece)) × Int × Int × Unit) => ((G66 y3.1 y3.2.1 y3.2.2.1 y3.2.2.2.1).bind fun (y4 : DHistState) => (some (y4.1, y4.2.1, y4.2.2.1, y4.2.2.2.1, y3.2.2.2.2.1, y3.2.2.2.2.2.1, ()))))))) := by kernel_rfl
noncomputable def ac67 : ACode := acOf Try.prog 67
theorem gd67 : Good Try.prog (67, ac67, [.tmp 4], 26) := ⟨_, Try.func67, by kernel_rfl, by kernel_rfl, by kernel_rfl, by kernel_rfl⟩
/- laws.lpPieces -/
def sk67_0 : Skel := ⟨mkE 26 [(0, .lst BlkPiece), (1, .lst BlkPiece), (5, .int .i64)], [], [], 0⟩
def ou67_0 : List (Option Nat × Skel) := [(some 0, ⟨mkE 26 [], [], [], 0⟩), (none, ⟨mkE 26 [(4, .bool)], [], [], 0⟩)]
def an67 : List (Nat × An) := []
def S67 : List (Skel × List (Option Nat × Skel)) := [(sk67_0, ou67_0)]
def ps67 : List PK := [⟨none, false, [(.sl BlkPiece)], false⟩, ⟨none, false, [(.sl BlkPiece)], false⟩]
def rs67 : List PK := [⟨some .S, false, [.bool], false⟩]
noncomputable def F67 := FN (tabC T14) an67 S67 ac67 [.tmp 4] 26 false 1 ps67 rs67
noncomputable def T67 : List (FuncId × Ctr) := (67, ⟨true, false, 1, ps67, rs67, F67⟩) :: T14
theorem hT67 : AllC Try.prog T67 := AllC.fresh (an := an67) (S := S67) (ps := ps67) (rs := rs67) hT14 gd67 (by kernel_rfl)
noncomputable def lf67_0 : (List (DBlkPiece)) × (List (DBlkPiece)) × Int × Unit → Option (Outs ou67_0) := lfp (vround (tabC T14) an67 (mkL (tabC T14) an67 [] (ac67.body 0)) (ac67.body 0) sk67_0 ou67_0)
noncomputable def lg67_0 (v_a : List (DBlkPiece)) (v_b : List (DBlkPiece)) (v_i : Int) : Option (Sum (Unit) (Sum (Bool × Unit) (Empty))) := lf67_0 (v_a, v_b, v_i, ())
theorem lg67_0_eq (v_a : List (DBlkPiece)) (v_b : List (DBlkPiece)) (v_i : Int) : (lg67_0 v_a v_b v_i) = (br (decide (v_i < ((v_a.length : Nat) : Int))) (chk (decide (0 ≤ v_i ∧ v_i < ((v_a.length : Nat) : Int))) (let e1 : DBlkPiece := (v_a.getD v_i.toNat ((0 : Int), (0 : Int), (0 : Int), (0 : Int), ())); (chk (decide (0 ≤ v_i ∧ v_i < ((v_b.length : Nat) : Int))) (let e2 : DBlkPiece := (v_b.getD v_i.toNat ((0 : Int), (0 : Int), (0 : Int), (0 : Int), ())); (br (!((e1.1 == e2.1) && ((e1.2.1 == e2.2.1) && ((e1.2.2.1 == e2.2.2.1) && ((e1.2.2.2.1 == e2.2.2.2.1) && true))))) (some (.inr (.inl (false, ())))) (lg67_0 v_a v_b (IntKind.i64.wrap (v_i + (1 : Int))))))))) (some (.inl (())))) :=
  (show lf67_0 (v_a, v_b, v_i, ()) = _ from lfp_eq (fun x => vround_lin _ _ _ _ x) _).trans (by kernel_rfl)
noncomputable def G67 (a_a : List (DBlkPiece)) (a_b : List (DBlkPiece)) : Option (Bool × Unit) := F67 (a_a, a_b, ())
theorem G67_eq (a_a : List (DBlkPiece)) (a_b : List (DBlkPiece)) : (G67 a_a a_b) = (br (((a_a.length : Nat) : Int) != ((a_b.length : Nat) : Int)) (some (false, ())) ((lg67_0 a_a a_b (0 : Int)).bind fun o => match o with | .inl (y3 : Unit) => (some (true, ())) | .inr (.inl (y4 : Bool × Unit)) => (some (y4.1, ())))) := by kernel_rfl
noncomputable def ac15 : ACode := acOf Try.prog 15
theorem gd15 : Good Try.prog (15, ac15, [.tmp 4], 100) := ⟨_, Try.func15, by kernel_rfl, by kernel_rfl, by kernel_rfl, by kernel_rfl⟩
/- laws.lpState -/
def sk15_0 : Skel := ⟨mkE 100 [(2, .box 0 0), (3, .box 1 0), (5, .int .i64)], [some [.int .i64, .int .i64, .lst MapDisk, .lst BlkPiece], some [.int .i64, .int .i64, .lst MapDisk, .lst BlkPiece]], [], 0⟩
def ou15_0 : List (Option Nat × Skel) := [(some 0, ⟨mkE 100 [], [], [], 0⟩), (none, ⟨mkE 100 [(4, .bool)], [], [], 0⟩)]
def an15 : List (Nat × An) := []
def S15 : List (Skel × List (Option Nat × Skel)) := [(sk15_0, ou15_0)]
def ps15 : List PK := [⟨none, true, HistState, false⟩, ⟨none, true, HistState, false⟩]
def rs15 : List PK := [⟨some .S, false, [.bool], false⟩]
noncomputable def F15 := FN (tabC T67) an15 S15 ac15 [.tmp 4] 100 false 1 ps15 rs15
noncomputable def T15 : List (FuncId × Ctr) := (15, ⟨true, false, 1, ps15, rs15, F15⟩) :: T67
theorem hT15 : AllC Try.prog T15 := AllC.fresh (an := an15) (S := S15) (ps := ps15) (rs := rs15) hT67 gd15 (by kernel_rfl)
noncomputable def lf15_0 : Int × Int × Int × (List (DMapDisk)) × (List (DBlkPiece)) × Int × Int × (List (DMapDisk)) × (List (DBlkPiece)) × Unit → Option (Outs ou15_0) := lfp (vround (tabC T67) an15 (mkL (tabC T67) an15 [] (ac15.body 0)) (ac15.body 0) sk15_0 ou15_0)
noncomputable def lg15_0 (v_i : Int) (v_b0_0 : Int) (v_b0_1 : Int) (v_b0_2 : List (DMapDisk)) (v_b0_3 : List (DBlkPiece)) (v_b1_0 : Int) (v_b1_1 : Int) (v_b1_2 : List (DMapDisk)) (v_b1_3 : List (DBlkPiece)) : Option (Sum (Unit) (Sum (Bool × Unit) (Empty))) := lf15_0 (v_i, v_b0_0, v_b0_1, v_b0_2, v_b0_3, v_b1_0, v_b1_1, v_b1_2, v_b1_3, ())
theorem lg15_0_eq (v_i : Int) (v_b0_0 : Int) (v_b0_1 : Int) (v_b0_2 : List (DMapDisk)) (v_b0_3 : List (DBlkPiece)) (v_b1_0 : Int) (v_b1_1 : Int) (v_b1_2 : List (DMapDisk)) (v_b1_3 : List (DBlkPiece)) : (lg15_0 v_i v_b0_0 v_b0_1 v_b0_2 v_b0_3 v_b1_0 v_b1_1 v_b1_2 v_b1_3) = (br (decide (v_i < ((v_b0_2.length : Nat) : Int))) (chk (decide (0 ≤ v_i ∧ v_i < ((v_b0_2.length : Nat) : Int))) (let e1 : DMapDisk := (v_b0_2.getD v_i.toNat ((0 : Int), (0 : Int), (0 : Int), (0 : Int), (0 : Int), (0 : Int), [], ())); (chk (decide (0 ≤ v_i ∧ v_i < ((v_b1_2.length : Nat) : Int))) (let e2 : DMapDisk := (v_b1_2.getD v_i.toNat ((0 : Int), (0 : Int), (0 : Int), (0 : Int), (0 : Int), (0 : Int), [], ())); (chk ((decide (0 ≤ v_i ∧ v_i < ((v_b0_2.length : Nat) : Int))) || (!(!(e1.1 != e2.1)))) (let e3 : DMapDisk := (v_b0_2.getD v_i.toNat ((0 : Int), (0 : Int), (0 : Int), (0 : Int), (0 : Int), (0 : Int), [], ())); (chk ((decide (0 ≤ v_i ∧ v_i < ((v_b1_2.length : Nat) : Int))) || (!(!(e1.1 != e2.1)))) (let e4 : DMapDisk := (v_b1_2.getD v_i.toNat ((0 : Int), (0 : Int), (0 : Int), (0 : Int), (0 : Int), (0 : Int), [], ())); (chk ((decide (0 ≤ v_i ∧ v_i < ((v_b0_2.length : Nat) : Int))) || (!(!((e1.1 != e2.1) || (e3.2.1 != e4.2.1))))) (let e5 : DMapDisk := (v_b0_2.getD v_i.toNat ((0 : Int), (0 : Int), (0 : Int), (0 : Int), (0 : Int), (0 : Int), [], ())); (chk ((decide (0 ≤ v_i ∧ v_i < ((v_b1_2.length : Nat) : Int))) || (!(!((e1.1 != e2.1) || (e3.2.1 != e4.2.1))))) (let e6 : DMapDisk := (v_b1_2.getD v_i.toNat ((0 : Int), (0 : Int), (0 : Int), (0 : Int), (0 : Int), (0 : Int), [], ())); (chk ((decide (0 ≤ v_i ∧ v_i < ((v_b0_2.length : Nat) : Int))) || (!(!(((e1.1 != e2.1) || (e3.2.1 != e4.2.1)) || (e5.2.2.1 != e6.2.2.1))))) (let e7 : DMapDisk := (v_b0_2.getD v_i.toNat ((0 : Int), (0 : Int), (0 : Int), (0 : Int), (0 : Int), (0 : Int), [], ())); (chk ((decide (0 ≤ v_i ∧ v_i < ((v_b1_2.length : Nat) : Int))) || (!(!(((e1.1 != e2.1) || (e3.2.1 != e4.2.1)) || (e5.2.2.1 != e6.2.2.1))))) (let e8 : DMapDisk := (v_b1_2.getD v_i.toNat ((0 : Int), (0 : Int), (0 : Int), (0 : Int), (0 : Int), (0 : Int), [], ())); (br ((((e1.1 != e2.1) || (e3.2.1 != e4.2.1)) || (e5.2.2.1 != e6.2.2.1)) || (e7.2.2.2.1 != e8.2.2.2.1)) (some (.inr (.inl (false, ())))) (lg15_0 (IntKind.i64.wrap (v_i + (1 : Int))) v_b0_0 v_b0_1 v_b0_2 v_b0_3 v_b1_0 v_b1_1 v_b1_2 v_b1_3)))))))))))))))))) (some (.inl (())))) :=
  (show lf15_0 (v_i, v_b0_0, v_b0_1, v_b0_2, v_b0_3, v_b1_0, v_b1_1, v_b1_2, v_b1_3, ()) = _ from lfp_eq (fun x => vround_lin _ _ _ _ x) _).trans (by kernel_rfl)
noncomputable def G15 (a_a0 : Int) (a_a1 : Int) (a_a2 : List (DMapDisk)) (a_a3 : List (DBlkPiece)) (a_b0 : Int) (a_b1 : Int) (a_b2 : List (DMapDisk)) (a_b3 : List (DBlkPiece)) : Option (Bool × Unit) := F15 (a_a0, a_a1, a_a2, a_a3, a_b0, a_b1, a_b2, a_b3, ())
theorem G15_eq (a_a0 : Int) (a_a1 : Int) (a_a2 : List (DMapDisk)) (a_a3 : List (DBlkPiece)) (a_b0 : Int) (a_b1 : Int) (a_b2 : List (DMapDisk)) (a_b3 : List (DBlkPiece)) : (G15 a_a0 a_a1 a_a2 a_a3 a_b0 a_b1 a_b2 a_b3) = (chk ((G67 a_a3 a_b3).isSome || (!(!(((a_a0 != a_b0) || (a_a1 != a_b1)) || (((a_a2.length : Nat) : Int) != ((a_b2.length : Nat) : Int)))))) (br ((((a_a0 != a_b0) || (a_a1 != a_b1)) || (((a_a2.length : Nat) : Int) != ((a_b2.length : Nat) : Int))) || (!((G67 a_a3 a_b3).getD (false, ())).1)) (some (false, ())) ((lg15_0 (0 : Int) a_a0 a_a1 a_a2 a_a3 a_b0 a_b1 a_b2 a_b3).bind fun o => match o with | .inl (y9 : Unit) => (some (true, ())) | .inr (.inl (y10 : Bool × Unit)) => (some (y10.1, ()))))) := by kernel_rfl
noncomputable def ac4 : ACode := acOf Try.prog 4
theorem gd4 : Good Try.prog (4, ac4, [.tmp 2], 120) := ⟨_, Try.func4, by kernel_rfl, by kernel_rfl, by kernel_rfl, by kernel_rfl⟩
/- laws.FnHistSnap -/
def sk4_0 : Skel := ⟨mkE 120 [(3, .box 0 0), (4, .box 1 0), (8, .box 3 0), (10, .int .i64), (11, .int .i64)], [some [.int .i64, .int .i64, .lst MapDisk, .lst BlkPiece], some [.int .i64, .int .i64, .int .i64, .int .i64, .int .i64, .int .i64, .int .i64, .int .i64, .int .i64, .bool, .int .i64, .int .i64], none, some [.int .i64, .int .i64, .lst MapDisk, .lst BlkPiece]], [], 0⟩
def ou4_0 : List (Option Nat × Skel) := [(some 0, ⟨mkE 120 [], [], [], 0⟩), (none, ⟨mkE 120 [(2, .bool)], [], [], 0⟩)]
def an4 : List (Nat × An) := []
def S4 : List (Skel × List (Option Nat × Skel)) := [(sk4_0, ou4_0)]
def ps4 : List PK := [⟨none, false, [(.sl [(.int .u8)])], false⟩]
def rs4 : List PK := [⟨some .S, false, [.bool], false⟩]
noncomputable def F4 := FN (tabC T15) an4 S4 ac4 [.tmp 2] 120 false 1 ps4 rs4
noncomputable def T4 : List (FuncId × Ctr) := (4, ⟨true, false, 1, ps4, rs4, F4⟩) :: T15
theorem hT4 : AllC Try.prog T4 := AllC.fresh (an := an4) (S := S4) (ps := ps4) (rs := rs4) hT15 gd4 (by kernel_rfl)
noncomputable def lf4_0 : Int × Int × Int × Int × (List (DMapDisk)) × (List (DBlkPiece)) × Int × Int × Int × Int × Int × Int × Int × Int × Int × Bool × Int × Int × Int × Int × (List (DMapDisk)) × (List (DBlkPiece)) × Unit → Option (Outs ou4_0) := lfp (vround (tabC T15) an4 (mkL (tabC T15) an4 [] (ac4.body 0)) (ac4.body 0) sk4_0 ou4_0)
noncomputable def lg4_0 (v_e : Int) (v_b : Int) (v_b0_0 : Int) (v_b0_1 : Int) (v_b0_2 : List (DMapDisk)) (v_b0_3 : List (DBlkPiece)) (v_b1_0 : Int) (v_b1_1 : Int) (v_b1_2 : Int) (v_b1_3 : Int) (v_b1_4 : Int) (v_b1_5 : Int) (v_b1_6 : Int) (v_b1_7 : Int) (v_b1_8 : Int) (v_b1_9 : Bool) (v_b1_10 : Int) (v_b1_11 : Int) (v_b3_0 : Int) (v_b3_1 : Int) (v_b3_2 : List (DMapDisk)) (v_b3_3 : List (DBlkPiece)) : Option (Sum (Unit) (Sum (Bool × Unit) (Empty))) := lf4_0 (v_e, v_b, v_b0_0, v_b0_1, v_b0_2, v_b0_3, v_b1_0, v_b1_1, v_b1_2, v_b1_3, v_b1_4, v_b1_5, v_b1_6, v_b1_7, v_b1_8, v_b1_9, v_b1_10, v_b1_11, v_b3_0, v_b3_1, v_b3_2, v_b3_3, ())
theorem lg4_0_eq (v_e : Int) (v_b : Int) (v_b0_0 : Int) (v_b0_1 : Int) (v_b0_2 : List (DMapDisk)) (v_b0_3 : List (DBlkPiece)) (v_b1_0 : Int) (v_b1_1 : Int) (v_b1_2 : Int) (v_b1_3 : Int) (v_b1_4 : Int) (v_b1_5 : Int) (v_b1_6 : Int) (v_b1_7 : Int) (v_b1_8 : Int) (v_b1_9 : Bool) (v_b1_10 : Int) (v_b1_11 : Int) (v_b3_0 : Int) (v_b3_1 : Int) (v_b3_2 : List (DMapDisk)) (v_b3_3 : List (DBlkPiece)) : (lg4_0 v_e v_b v_b0_0 v_b0_1 v_b0_2 v_b0_3 v_b1_0 v_b1_1 v_b1_2 v_b1_3 v_b1_4 v_b1_5 v_b1_6 v_b1_7 v_b1_8 v_b1_9 v_b1_10 v_b1_11 v_b3_0 v_b3_1 v_b3_2 v_b3_3) = (br (decide (v_b < (8 : Int))) ((G14 v_b3_0 v_b3_1 v_b3_2 v_b3_3 (0 : Int) (0 : Int) (2 : Int) v_b1_3 v_b (0 : Int) (888 : Int) (0 : Int) (0 : Int) false (0 : Int) (0 : Int)).bind fun (y4 : Int × Int × (List (DMapDisk)) × (List (DBlkPiece)) × Int × Int × Unit) => ((G14 v_b0_0 v_b0_1 v_b0_2 v_b0_3 (0 : Int) (0 : Int) (1 : Int) v_b1_3 v_b (0 : Int) (0 : Int) (0 : Int) (0 : Int) false (0 : Int) (0 : Int)).bind fun (y5 : Int × Int × (List (DMapDisk)) × (List (DBlkPiece)) × Int × Int × Unit) => ((G14 y4.1 y4.2.1 y4.2.2.1 y4.2.2.2.1 (0 : Int) (0 : Int) (1 : Int) v_b1_3 v_b v_e (0 : Int) (0 : Int) (0 : Int) false (0 : Int) (0 : Int)).bind fun (y6 : Int × Int × (List (DMapDisk)) × (List (DBlkPiece)) × Int × Int × Unit) => (br ((y5.2.2.2.2.1 != y6.2.2.2.2.1) || (y5.2.2.2.2.2.1 != y6.2.2.2.2.2.1)) (some (.inr (.inl (false, ())))) (lg4_0 v_e (IntKind.i64.wrap (v_b + (1 : Int))) v_b0_0 v_b0_1 v_b0_2 v_b0_3 v_b1_0 v_b1_1 v_b1_2 v_b1_3 v_b1_4 v_b1_5 v_b1_6 v_b1_7 v_b1_8 v_b1_9 v_b1_10 v_b1_11 v_b3_0 v_b3_1 v_b3_2 v_b3_3))))) (some (.inl (())))) :=
  (show lf4_0 (v_e, v_b, v_b0_0, v_b0_1, v_b0_2, v_b0_3, v_b1_0, v_b1_1, v_b1_2, v_b1_3, v_b1_4, v_b1_5, v_b1_6, v_b1_7, v_b1_8, v_b1_9, v_b1_10, v_b1_11, v_b3_0, v_b3_1, v_b3_2, v_b3_3, ()) = _ from lfp_eq (fun x => vround_lin _ _ _ _ x) _).trans (by kernel_rfl)
noncomputable def G4 (a_code : List (Int × Unit)) : Option (Bool × Unit) := F4 (a_code, ())
theorem G4_eq (a_code : List (Int × Unit)) : (G4 a_code) = (br (decide (((a_code.length : Nat) : Int) > (1048576 : Int))) (some (true, ())) ((G12 a_code).bind fun (y1 : Int × Int × (List (DMapDisk)) × (List (DBlkPiece)) × Int × Int × Int × Int × Int × Int × Int × Int × Int × Bool × Int × Int × Unit) => ((G13 y1.1 y1.2.1 y1.2.2.1 y1.2.2.2.1 y1.2.2.2.2.1 y1.2.2.2.2.2.1 (4 : Int) y1.2.2.2.2.2.2.2.1 y1.2.2.2.2.2.2.2.2.1 y1.2.2.2.2.2.2.2.2.2.1 y1.2.2.2.2.2.2.2.2.2.2.1 y1.2.2.2.2.2.2.2.2.2.2.2.1 y1.2.2.2.2.2.2.2.2.2.2.2.2.1 y1.2.2.2.2.2.2.2.2.2.2.2.2.2.1 y1.2.2.2.2.2.2.2.2.2.2.2.2.2.2.1 y1.2.2.2.2.2.2.2.2.2.2.2.2.2.2.2.1).bind fun (y2 : Int × Int × (List (DMapDisk)) × (List (DBlkPiece)) × Int × Int × Unit) => ((G14 y1.1 y1.2.1 y1.2.2.1 y1.2.2.2.1 y1.2.2.2.2.1 y1.2.2.2.2.2.1 (4 : Int) y1.2.2.2.2.2.2.2.1 y1.2.2.2.2.2.2.2.2.1 y1.2.2.2.2.2.2.2.2.2.1 y1.2.2.2.2.2.2.2.2.2.2.1 y1.2.2.2.2.2.2.2.2.2.2.2.1 y1.2.2.2.2.2.2.2.2.2.2.2.2.1 y1.2.2.2.2.2.2.2.2.2.2.2.2.2.1 y1.2.2.2.2.2.2.2.2.2.2.2.2.2.2.1 y1.2.2.2.2.2.2.2.2.2.2.2.2.2.2.2.1).bind fun (y3 : Int × Int × (List (DMapDisk)) × (List (DBlkPiece)) × Int × Int × Unit) => (chk ((G15 y3.1 y3.2.1 y3.2.2.1 y3.2.2.2.1 y2.1 y2.2.1 y2.2.2.1 y2.2.2.2.1).isSome || (!(!((y3.2.2.2.2.1 != y2.2.2.2.2.1) || (y3.2.2.2.2.2.1 != y2.2.2.2.2.2.1))))) (br ((((y3.2.2.2.2.1 != y2.2.2.2.2.1) || (y3.2.2.2.2.2.1 != y2.2.2.2.2.2.1)) || (!((G15 y3.1 y3.2.1 y3.2.2.1 y3.2.2.2.1 y2.1 y2.2.1 y2.2.2.1 y2.2.2.2.1).getD (false, ())).1)) || (y3.2.2.2.2.1 != (0 : Int))) (chk ((G15 y3.1 y3.2.1 y3.2.2.1 y3.2.2.2.1 y2.1 y2.2.1 y2.2.2.1 y2.2.2.2.1).isSome || (!((y3.2.2.2.2.1 == y2.2.2.2.2.1) && (y3.2.2.2.2.2.1 == y2.2.2.2.2.2.1)))) (some ((((y3.2.2.2.2.1 == y2.2.2.2.2.1) && (y3.2.2.2.2.2.1 == y2.2.2.2.2.2.1)) && ((G15 y3.1 y3.2.1 y3.2.2.1 y3.2.2.2.1 y2.1 y2.2.1 y2.2.2.1 y2.2.2.2.1).getD (false, ())).1), ()))) ((lg4_0 y3.2.2.2.2.2.1 (0 : Int) y1.1 y1.2.1 y1.2.2.1 y1.2.2.2.1 y1.2.2.2.2.1 y1.2.2.2.2.2.1 (4 : Int) y1.2.2.2.2.2.2.2.1 y1.2.2.2.2.2.2.2.2.1 y1.2.2.2.2.2.2.2.2.2.1 y1.2.2.2.2.2.2.2.2.2.2.1 y1.2.2.2.2.2.2.2.2.2.2.2.1 y1.2.2.2.2.2.2.2.2.2.2.2.2.1 y1.2.2.2.2.2.2.2.2.2.2.2.2.2.1 y1.2.2.2.2.2.2.2.2.2.2.2.2.2.2.1 y1.2.2.2.2.2.2.2.2.2.2.2.2.2.2.2.1 y3.1 y3.2.1 y3.2.2.1 y3.2.2.2.1).bind fun o => match o with | .inl (y7 : Unit) => (some (true, ())) | .inr (.inl (y8 : Bool × Unit)) => (some (y8.1, ()))))))))) := by kernel_rfl
end Go.Proofs.Ytaekmccjendfoaa.MO
