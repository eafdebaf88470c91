import Derived.Test.YtnbhalhlodnmpaaV21
import Derived.Test.YtnbhalhlodnmpaaChecked
namespace Go.Proofs.Ytnbhalhlodnmpaa.MG
open Go.PA
set_option linter.unusedVariables false
abbrev MapView : List Ty := [I, I, I]
abbrev DMapView := Int × Int × Int × Unit
abbrev MapDone : List Ty := [I, I, I, I]
abbrev DMapDone := Int × Int × Int × Int × Unit
abbrev MapDisk : List Ty := [I, I, I, I, I, I, (.sl [I])]
abbrev DMapDisk := Int × Int × Int × Int × Int × Int × (List (Int × Unit)) × Unit
abbrev MapState : List Ty := [I, I, I, (.sl MapDisk), (.sl MapView), (.sl MapDone)]
abbrev DMapState := Int × Int × Int × (List (DMapDisk)) × (List (DMapView)) × (List (DMapDone)) × Unit
abbrev HistState : List Ty := [I, I, (.sl MapDisk), (.sl MapDone)]
abbrev DHistState := Int × Int × (List (DMapDisk)) × (List (DMapDone)) × Unit
noncomputable def T0 : List (FuncId × Ctr) := []
theorem hT0 : AllC Try.prog T0 := AllC.nil _
noncomputable def ac113 : ACode := acOf Try.prog 113
theorem gd113 : Good Try.prog (113, ac113, [.tmp 4], 12) := ⟨_, Try.func113, by kernel_rfl, by kernel_rfl, by kernel_rfl, by kernel_rfl⟩
/- laws.szIntS -/
def an113 : List (Nat × An) := []
def S113 : List (Skel × List (Option Nat × Skel)) := []
def ps113 : List PK := [⟨none, false, [(.sl [I])]⟩, ⟨none, false, [I]⟩]
def rs113 : List PK := [⟨some .S, false, [I]⟩]
noncomputable def F113 := FN (tabC T0) an113 S113 ac113 [.tmp 4] 12 ps113 rs113
noncomputable def T113 : List (FuncId × Ctr) := (113, ⟨true, ps113, rs113, F113⟩) :: T0
theorem hT113 : AllC Try.prog T113 := AllC.fresh hT0 gd113 (by kernel_rfl)
noncomputable def G113 (a_a : List (Int × Unit)) (a_left : Int) : Option (Int × Unit) := F113 (a_a, a_left, ())
theorem G113_eq (a_a : List (Int × Unit)) (a_left : Int) : (G113 a_a a_left) = (br (decide ((IntKind.i64.wrap (a_left - ((a_a.length : Nat) : Int))) < (0 : Int))) (some ((-1 : Int), ())) (some ((IntKind.i64.wrap (a_left - ((a_a.length : Nat) : Int))), ()))) := by kernel_rfl
noncomputable def ac100 : ACode := acOf Try.prog 100
theorem gd100 : Good Try.prog (100, ac100, [.tmp 4], 12) := ⟨_, Try.func100, by kernel_rfl, by kernel_rfl, by kernel_rfl, by kernel_rfl⟩
/- laws.szMapDisk -/
def an100 : List (Nat × An) := []
def S100 : List (Skel × List (Option Nat × Skel)) := []
def ps100 : List PK := [⟨none, true, MapDisk⟩, ⟨none, false, [I]⟩]
def rs100 : List PK := [⟨some .S, false, [I]⟩]
noncomputable def F100 := FN (tabC T113) an100 S100 ac100 [.tmp 4] 12 ps100 rs100
noncomputable def T100 : List (FuncId × Ctr) := (100, ⟨true, ps100, rs100, F100⟩) :: T113
theorem hT100 : AllC Try.prog T100 := AllC.fresh hT113 gd100 (by kernel_rfl)
noncomputable def G100 (a_a0 : Int) (a_a1 : Int) (a_a2 : Int) (a_a3 : Int) (a_a4 : Int) (a_a5 : Int) (a_a6 : List (Int × Unit)) (a_left : Int) : Option (Int × Unit) := F100 (a_a0, a_a1, a_a2, a_a3, a_a4, a_a5, a_a6, a_left, ())
theorem G100_eq (a_a0 : Int) (a_a1 : Int) (a_a2 : Int) (a_a3 : Int) (a_a4 : Int) (a_a5 : Int) (a_a6 : List (Int × Unit)) (a_left : Int) : (G100 a_a0 a_a1 a_a2 a_a3 a_a4 a_a5 a_a6 a_left) = ((G113 a_a6 a_left).bind fun (y1 : Int × Unit) => (br (decide (y1.1 < (0 : Int))) (some ((-1 : Int), ())) (some (y1.1, ())))) := by kernel_rfl
noncomputable def ac75 : ACode := acOf Try.prog 75
theorem gd75 : Good Try.prog (75, ac75, [.tmp 4], 27) := ⟨_, Try.func75, by kernel_rfl, by kernel_rfl, by kernel_rfl, by kernel_rfl⟩
/- laws.szMapDiskS -/
def sk75_0 : Skel := ⟨mkE 27 [(0, .lst MapDisk), (1, .int .i64), (5, .int .i64)], [], []⟩
def ou75_0 : List (Option Nat × Skel) := [(some 0, ⟨mkE 27 [(1, .int .i64)], [], []⟩), (none, ⟨mkE 27 [(4, .int .i64)], [], []⟩)]
def an75 : List (Nat × An) := []
def S75 : List (Skel × List (Option Nat × Skel)) := [(sk75_0, ou75_0)]
def ps75 : List PK := [⟨none, false, [(.sl MapDisk)]⟩, ⟨none, false, [I]⟩]
def rs75 : List PK := [⟨some .S, false, [I]⟩]
noncomputable def F75 := FN (tabC T100) an75 S75 ac75 [.tmp 4] 27 ps75 rs75
noncomputable def T75 : List (FuncId × Ctr) := (75, ⟨true, ps75, rs75, F75⟩) :: T100
theorem hT75 : AllC Try.prog T75 := AllC.fresh hT100 gd75 (by kernel_rfl)
noncomputable def lf75_0 : (List (DMapDisk)) × Int × Int × Unit → Option (Outs ou75_0) := lfp (vround (tabC T100) an75 (mkL (tabC T100) an75 [] (ac75.body 0)) (ac75.body 0) sk75_0 ou75_0)
noncomputable def lg75_0 (v_a : List (DMapDisk)) (v_left : Int) (v_i : Int) : Option (Sum (Int × Unit) (Sum (Int × Unit) (Empty))) := lf75_0 (v_a, v_left, v_i, ())
theorem lg75_0_eq (v_a : List (DMapDisk)) (v_left : Int) (v_i : Int) : (lg75_0 v_a v_left v_i) = (br (decide (v_i < ((v_a.length : Nat) : Int))) (chk (decide (0 ≤ v_i ∧ v_i < ((v_a.length : Nat) : Int))) (let e1 : DMapDisk := (v_a.getD v_i.toNat ((0 : Int), (0 : Int), (0 : Int), (0 : Int), (0 : Int), (0 : Int), [], ())); ((G100 e1.1 e1.2.1 e1.2.2.1 e1.2.2.2.1 e1.2.2.2.2.1 e1.2.2.2.2.2.1 e1.2.2.2.2.2.2.1 v_left).bind fun (y2 : Int × Unit) => (br (decide (y2.1 < (0 : Int))) (some (.inr (.inl ((-1 : Int), ())))) (lg75_0 v_a y2.1 (IntKind.i64.wrap (v_i + (1 : Int)))))))) (some (.inl (v_left, ())))) :=
  (show lf75_0 (v_a, v_left, v_i, ()) = _ from lfp_eq (fun x => vround_lin _ _ _ _ x) _).trans (by kernel_rfl)
noncomputable def G75 (a_a : List (DMapDisk)) (a_left : Int) : Option (Int × Unit) := F75 (a_a, a_left, ())
theorem G75_eq (a_a : List (DMapDisk)) (a_left : Int) : (G75 a_a a_left) = (br (decide ((IntKind.i64.wrap (a_left - ((a_a.length : Nat) : Int))) < (0 : Int))) (some ((-1 : Int), ())) ((lg75_0 a_a (IntKind.i64.wrap (a_left - ((a_a.length : Nat) : Int))) (0 : Int)).bind fun o => match o with | .inl (y3 : Int × Unit) => (some (y3.1, ())) | .inr (.inl (y4 : Int × Unit)) => (some (y4.1, ())))) := by kernel_rfl
noncomputable def ac83 : ACode := acOf Try.prog 83
theorem gd83 : Good Try.prog (83, ac83, [.tmp 4], 12) := ⟨_, Try.func83, by kernel_rfl, by kernel_rfl, by kernel_rfl, by kernel_rfl⟩
/- laws.szMapViewS -/
def an83 : List (Nat × An) := []
def S83 : List (Skel × List (Option Nat × Skel)) := []
def ps83 : List PK := [⟨none, false, [(.sl MapView)]⟩, ⟨none, false, [I]⟩]
def rs83 : List PK := [⟨some .S, false, [I]⟩]
noncomputable def F83 := FN (tabC T75) an83 S83 ac83 [.tmp 4] 12 ps83 rs83
noncomputable def T83 : List (FuncId × Ctr) := (83, ⟨true, ps83, rs83, F83⟩) :: T75
theorem hT83 : AllC Try.prog T83 := AllC.fresh hT75 gd83 (by kernel_rfl)
noncomputable def G83 (a_a : List (DMapView)) (a_left : Int) : Option (Int × Unit) := F83 (a_a, a_left, ())
theorem G83_eq (a_a : List (DMapView)) (a_left : Int) : (G83 a_a a_left) = (br (decide ((IntKind.i64.wrap (a_left - ((a_a.length : Nat) : Int))) < (0 : Int))) (some ((-1 : Int), ())) (some ((IntKind.i64.wrap (a_left - ((a_a.length : Nat) : Int))), ()))) := by kernel_rfl
noncomputable def ac84 : ACode := acOf Try.prog 84
theorem gd84 : Good Try.prog (84, ac84, [.tmp 4], 12) := ⟨_, Try.func84, by kernel_rfl, by kernel_rfl, by kernel_rfl, by kernel_rfl⟩
/- laws.szMapDoneS -/
def an84 : List (Nat × An) := []
def S84 : List (Skel × List (Option Nat × Skel)) := []
def ps84 : List PK := [⟨none, false, [(.sl MapDone)]⟩, ⟨none, false, [I]⟩]
def rs84 : List PK := [⟨some .S, false, [I]⟩]
noncomputable def F84 := FN (tabC T83) an84 S84 ac84 [.tmp 4] 12 ps84 rs84
noncomputable def T84 : List (FuncId × Ctr) := (84, ⟨true, ps84, rs84, F84⟩) :: T83
theorem hT84 : AllC Try.prog T84 := AllC.fresh hT83 gd84 (by kernel_rfl)
noncomputable def G84 (a_a : List (DMapDone)) (a_left : Int) : Option (Int × Unit) := F84 (a_a, a_left, ())
theorem G84_eq (a_a : List (DMapDone)) (a_left : Int) : (G84 a_a a_left) = (br (decide ((IntKind.i64.wrap (a_left - ((a_a.length : Nat) : Int))) < (0 : Int))) (some ((-1 : Int), ())) (some ((IntKind.i64.wrap (a_left - ((a_a.length : Nat) : Int))), ()))) := by kernel_rfl
noncomputable def ac40 : ACode := acOf Try.prog 40
theorem gd40 : Good Try.prog (40, ac40, [.tmp 4], 24) := ⟨_, Try.func40, by kernel_rfl, by kernel_rfl, by kernel_rfl, by kernel_rfl⟩
/- laws.szMapState -/
def an40 : List (Nat × An) := []
def S40 : List (Skel × List (Option Nat × Skel)) := []
def ps40 : List PK := [⟨none, true, MapState⟩, ⟨none, false, [I]⟩]
def rs40 : List PK := [⟨some .S, false, [I]⟩]
noncomputable def F40 := FN (tabC T84) an40 S40 ac40 [.tmp 4] 24 ps40 rs40
noncomputable def T40 : List (FuncId × Ctr) := (40, ⟨true, ps40, rs40, F40⟩) :: T84
theorem hT40 : AllC Try.prog T40 := AllC.fresh hT84 gd40 (by kernel_rfl)
noncomputable def G40 (a_a0 : Int) (a_a1 : Int) (a_a2 : Int) (a_a3 : List (DMapDisk)) (a_a4 : List (DMapView)) (a_a5 : List (DMapDone)) (a_left : Int) : Option (Int × Unit) := F40 (a_a0, a_a1, a_a2, a_a3, a_a4, a_a5, a_left, ())
theorem G40_eq (a_a0 : Int) (a_a1 : Int) (a_a2 : Int) (a_a3 : List (DMapDisk)) (a_a4 : List (DMapView)) (a_a5 : List (DMapDone)) (a_left : Int) : (G40 a_a0 a_a1 a_a2 a_a3 a_a4 a_a5 a_left) = ((G75 a_a3 a_left).bind fun (y1 : Int × Unit) => (br (decide (y1.1 < (0 : Int))) (some ((-1 : Int), ())) ((G83 a_a4 y1.1).bind fun (y2 : Int × Unit) => (br (decide (y2.1 < (0 : Int))) (some ((-1 : Int), ())) ((G84 a_a5 y2.1).bind fun (y3 : Int × Unit) => (br (decide (y3.1 < (0 : Int))) (some ((-1 : Int), ())) (some (y3.1, ())))))))) := by kernel_rfl
noncomputable def ac19 : ACode := acOf Try.prog 19
theorem gd19 : Good Try.prog (19, ac19, [.tmp 2], 22) := ⟨_, Try.func19, by kernel_rfl, by kernel_rfl, by kernel_rfl, by kernel_rfl⟩
/- laws.toIntS -/
def sk19_0 : Skel := ⟨mkE 22 [(0, .lst [I]), (3, .ref 0), (4, .int .i64)], [], [some (.Z, [I])]⟩
def ou19_0 : List (Option Nat × Skel) := [(some 0, ⟨mkE 22 [(3, .ref 0)], [], [some (.Z, [I])]⟩)]
def an19 : List (Nat × An) := []
def S19 : List (Skel × List (Option Nat × Skel)) := [(sk19_0, ou19_0)]
def ps19 : List PK := [⟨none, false, [(.sl [I])]⟩]
def rs19 : List PK := [⟨some .S, false, [(.sl [I])]⟩]
noncomputable def F19 := FN (tabC T40) an19 S19 ac19 [.tmp 2] 22 ps19 rs19
noncomputable def T19 : List (FuncId × Ctr) := (19, ⟨true, ps19, rs19, F19⟩) :: T40
theorem hT19 : AllC Try.prog T19 := AllC.fresh hT40 gd19 (by kernel_rfl)
noncomputable def lf19_0 : (List (Int × Unit)) × Int × (List (Int × Unit)) × Unit → Option (Outs ou19_0) := lfp (vround (tabC T40) an19 (mkL (tabC T40) an19 [] (ac19.body 0)) (ac19.body 0) sk19_0 ou19_0)
noncomputable def lg19_0 (v_a : List (Int × Unit)) (v_i : Int) (v_r0 : List (Int × Unit)) : Option (Sum ((List (Int × Unit)) × Unit) (Empty)) := lf19_0 (v_a, v_i, v_r0, ())
theorem lg19_0_eq (v_a : List (Int × Unit)) (v_i : Int) (v_r0 : List (Int × Unit)) : (lg19_0 v_a v_i v_r0) = (br (decide (v_i < ((v_a.length : Nat) : Int))) (chk (decide (0 ≤ v_i ∧ v_i < ((v_a.length : Nat) : Int))) (chk (decide (0 ≤ v_i ∧ v_i < ((v_r0.length : Nat) : Int))) (lg19_0 v_a (IntKind.i64.wrap (v_i + (1 : Int))) (v_r0.set v_i.toNat ((v_a.getD v_i.toNat ((0 : Int), ())).1, ()))))) (some (.inl (v_r0, ())))) :=
  (show lf19_0 (v_a, v_i, v_r0, ()) = _ from lfp_eq (fun x => vround_lin _ _ _ _ x) _).trans (by kernel_rfl)
noncomputable def G19 (a_a : List (Int × Unit)) : Option ((List (Int × Unit)) × Unit) := F19 (a_a, ())
theorem G19_eq (a_a : List (Int × Unit)) : (G19 a_a) = (chk (decide (0 ≤ ((a_a.length : Nat) : Int) ∧ ((8 : Nat) : Int) * ((a_a.length : Nat) : Int) ≤ 281474976710656 ∧ ((a_a.length : Nat) : Int) ≤ 281474976710656)) ((lg19_0 a_a (0 : Int) (List.replicate ((a_a.length : Nat) : Int).toNat ((0 : Int), ()))).bind fun o => match o with | .inl (y1 : (List (Int × Unit)) × Unit) => (some (y1.1, ())))) := by kernel_rfl
noncomputable def ac103 : ACode := acOf Try.prog 103
theorem gd103 : Good Try.prog (103, ac103, [.cell 2 true 7], 27) := ⟨_, Try.func103, by kernel_rfl, by kernel_rfl, by kernel_rfl, by kernel_rfl⟩
/- laws.toMapDisk -/
def an103 : List (Nat × An) := [(24, .rows)]
def S103 : List (Skel × List (Option Nat × Skel)) := []
def ps103 : List PK := [⟨none, true, MapDisk⟩]
def rs103 : List PK := [⟨some .S, true, MapDisk⟩]
noncomputable def F103 := FN (tabC T19) an103 S103 ac103 [.cell 2 true 7] 27 ps103 rs103
noncomputable def T103 : List (FuncId × Ctr) := (103, ⟨true, ps103, rs103, F103⟩) :: T19
theorem hT103 : AllC Try.prog T103 := AllC.fresh hT19 gd103 (by kernel_rfl)
noncomputable def G103 (a_a0 : Int) (a_a1 : Int) (a_a2 : Int) (a_a3 : Int) (a_a4 : Int) (a_a5 : Int) (a_a6 : List (Int × Unit)) : Option (DMapDisk) := F103 (a_a0, a_a1, a_a2, a_a3, a_a4, a_a5, a_a6, ())
theorem G103_eq (a_a0 : Int) (a_a1 : Int) (a_a2 : Int) (a_a3 : Int) (a_a4 : Int) (a_a5 : Int) (a_a6 : List (Int × Unit)) : (G103 a_a0 a_a1 a_a2 a_a3 a_a4 a_a5 a_a6) = ((G19 a_a6).bind fun (y1 : (List (Int × Unit)) × Unit) => (some (a_a0, a_a1, a_a2, a_a3, a_a4, a_a5, y1.1, ()))) := by kernel_rfl
noncomputable def ac79 : ACode := acOf Try.prog 79
theorem gd79 : Good Try.prog (79, ac79, [.tmp 2], 23) := ⟨_, Try.func79, by kernel_rfl, by kernel_rfl, by kernel_rfl, by kernel_rfl⟩
/- laws.toMapDiskS -/
def sk79_0 : Skel := ⟨mkE 23 [(0, .lst MapDisk), (3, .ref 0), (4, .int .i64)], [], [some (.S, MapDisk)]⟩
def ou79_0 : List (Option Nat × Skel) := [(some 0, ⟨mkE 23 [(3, .ref 0)], [], [some (.S, MapDisk)]⟩)]
def an79 : List (Nat × An) := [(20, .rows), (7, .ty MapDisk)]
def S79 : List (Skel × List (Option Nat × Skel)) := [(sk79_0, ou79_0)]
def ps79 : List PK := [⟨none, false, [(.sl MapDisk)]⟩]
def rs79 : List PK := [⟨some .S, false, [(.sl MapDisk)]⟩]
noncomputable def F79 := FN (tabC T103) an79 S79 ac79 [.tmp 2] 23 ps79 rs79
noncomputable def T79 : List (FuncId × Ctr) := (79, ⟨true, ps79, rs79, F79⟩) :: T103
theorem hT79 : AllC Try.prog T79 := AllC.fresh hT103 gd79 (by kernel_rfl)
noncomputable def lf79_0 : (List (DMapDisk)) × Int × (List (DMapDisk)) × Unit → Option (Outs ou79_0) := lfp (vround (tabC T103) an79 (mkL (tabC T103) an79 [] (ac79.body 0)) (ac79.body 0) sk79_0 ou79_0)
noncomputable def lg79_0 (v_a : List (DMapDisk)) (v_i : Int) (v_r0 : List (DMapDisk)) : Option (Sum ((List (DMapDisk)) × Unit) (Empty)) := lf79_0 (v_a, v_i, v_r0, ())
theorem lg79_0_eq (v_a : List (DMapDisk)) (v_i : Int) (v_r0 : List (DMapDisk)) : (lg79_0 v_a v_i v_r0) = (br (decide (v_i < ((v_a.length : Nat) : Int))) (chk (decide (0 ≤ v_i ∧ v_i < ((v_a.length : Nat) : Int))) (let e1 : DMapDisk := (v_a.getD v_i.toNat ((0 : Int), (0 : Int), (0 : Int), (0 : Int), (0 : Int), (0 : Int), [], ())); ((G103 e1.1 e1.2.1 e1.2.2.1 e1.2.2.2.1 e1.2.2.2.2.1 e1.2.2.2.2.2.1 e1.2.2.2.2.2.2.1).bind fun (y2 : DMapDisk) => (chk (decide (0 ≤ v_i ∧ v_i < ((v_r0.length : Nat) : Int))) (lg79_0 v_a (IntKind.i64.wrap (v_i + (1 : Int))) (v_r0.set v_i.toNat (y2.1, y2.2.1, y2.2.2.1, y2.2.2.2.1, y2.2.2.2.2.1, y2.2.2.2.2.2.1, y2.2.2.2.2.2.2.1, ()))))))) (some (.inl (v_r0, ())))) :=
  (show lf79_0 (v_a, v_i, v_r0, ()) = _ from lfp_eq (fun x => vround_lin _ _ _ _ x) _).trans (by kernel_rfl)
noncomputable def G79 (a_a : List (DMapDisk)) : Option ((List (DMapDisk)) × Unit) := F79 (a_a, ())
theorem G79_eq (a_a : List (DMapDisk)) : (G79 a_a) = (chk (decide (0 ≤ ((a_a.length : Nat) : Int) ∧ ((72 : Nat) : Int) * ((a_a.length : Nat) : Int) ≤ 281474976710656 ∧ ((a_a.length : Nat) : Int) ≤ 281474976710656)) ((lg79_0 a_a (0 : Int) (List.replicate ((a_a.length : Nat) : Int).toNat ((0 : Int), (0 : Int), (0 : Int), (0 : Int), (0 : Int), (0 : Int), [], ()))).bind fun o => match o with | .inl (y3 : (List (DMapDisk)) × Unit) => (some (y3.1, ())))) := by kernel_rfl
noncomputable def ac107 : ACode := acOf Try.prog 107
theorem gd107 : Good Try.prog (107, ac107, [.cell 2 true 3], 14) := ⟨_, Try.func107, by kernel_rfl, by kernel_rfl, by kernel_rfl, by kernel_rfl⟩
/- laws.toMapView -/
def an107 : List (Nat × An) := []
def S107 : List (Skel × List (Option Nat × Skel)) := []
def ps107 : List PK := [⟨none, true, MapView⟩]
def rs107 : List PK := [⟨some .S, true, MapView⟩]
noncomputable def F107 := FN (tabC T79) an107 S107 ac107 [.cell 2 true 3] 14 ps107 rs107
noncomputable def T107 : List (FuncId × Ctr) := (107, ⟨true, ps107, rs107, F107⟩) :: T79
theorem hT107 : AllC Try.prog T107 := AllC.fresh hT79 gd107 (by kernel_rfl)
noncomputable def G107 (a_a0 : Int) (a_a1 : Int) (a_a2 : Int) : Option (DMapView) := F107 (a_a0, a_a1, a_a2, ())
def f107 (a_a0 : Int) (a_a1 : Int) (a_a2 : Int) : DMapView := (a_a0, a_a1, a_a2, ())
theorem G107_eq (a_a0 : Int) (a_a1 : Int) (a_a2 : Int) : (G107 a_a0 a_a1 a_a2) = some (f107 a_a0 a_a1 a_a2) := by kernel_rfl
noncomputable def ac85 : ACode := acOf Try.prog 85
theorem gd85 : Good Try.prog (85, ac85, [.tmp 2], 23) := ⟨_, Try.func85, by kernel_rfl, by kernel_rfl, by kernel_rfl, by kernel_rfl⟩
/- laws.toMapViewS -/
def sk85_0 : Skel := ⟨mkE 23 [(0, .lst MapView), (3, .ref 0), (4, .int .i64)], [], [some (.Z, MapView)]⟩
def ou85_0 : List (Option Nat × Skel) := [(some 0, ⟨mkE 23 [(3, .ref 0)], [], [some (.Z, MapView)]⟩)]
def an85 : List (Nat × An) := []
def S85 : List (Skel × List (Option Nat × Skel)) := [(sk85_0, ou85_0)]
def ps85 : List PK := [⟨none, false, [(.sl MapView)]⟩]
def rs85 : List PK := [⟨some .S, false, [(.sl MapView)]⟩]
noncomputable def F85 := FN (tabC T107) an85 S85 ac85 [.tmp 2] 23 ps85 rs85
noncomputable def T85 : List (FuncId × Ctr) := (85, ⟨true, ps85, rs85, F85⟩) :: T107
theorem hT85 : AllC Try.prog T85 := AllC.fresh hT107 gd85 (by kernel_rfl)
noncomputable def lf85_0 : (List (DMapView)) × Int × (List (DMapView)) × Unit → Option (Outs ou85_0) := lfp (vround (tabC T107) an85 (mkL (tabC T107) an85 [] (ac85.body 0)) (ac85.body 0) sk85_0 ou85_0)
noncomputable def lg85_0 (v_a : List (DMapView)) (v_i : Int) (v_r0 : List (DMapView)) : Option (Sum ((List (DMapView)) × Unit) (Empty)) := lf85_0 (v_a, v_i, v_r0, ())
theorem lg85_0_eq (v_a : List (DMapView)) (v_i : Int) (v_r0 : List (DMapView)) : (lg85_0 v_a v_i v_r0) = (br (decide (v_i < ((v_a.length : Nat) : Int))) (chk (decide (0 ≤ v_i ∧ v_i < ((v_a.length : Nat) : Int))) (let e1 : DMapView := (v_a.getD v_i.toNat ((0 : Int), (0 : Int), (0 : Int), ())); (chk (decide (0 ≤ v_i ∧ v_i < ((v_r0.length : Nat) : Int))) (lg85_0 v_a (IntKind.i64.wrap (v_i + (1 : Int))) (v_r0.set v_i.toNat ((f107 e1.1 e1.2.1 e1.2.2.1).1, (f107 e1.1 e1.2.1 e1.2.2.1).2.1, (f107 e1.1 e1.2.1 e1.2.2.1).2.2.1, ())))))) (some (.inl (v_r0, ())))) :=
  (show lf85_0 (v_a, v_i, v_r0, ()) = _ from lfp_eq (fun x => vround_lin _ _ _ _ x) _).trans (by kernel_rfl)
noncomputable def G85 (a_a : List (DMapView)) : Option ((List (DMapView)) × Unit) := F85 (a_a, ())
theorem G85_eq (a_a : List (DMapView)) : (G85 a_a) = (chk (decide (0 ≤ ((a_a.length : Nat) : Int) ∧ ((24 : Nat) : Int) * ((a_a.length : Nat) : Int) ≤ 281474976710656 ∧ ((a_a.length : Nat) : Int) ≤ 281474976710656)) ((lg85_0 a_a (0 : Int) (List.replicate ((a_a.length : Nat) : Int).toNat ((0 : Int), (0 : Int), (0 : Int), ()))).bind fun o => match o with | .inl (y2 : (List (DMapView)) × Unit) => (some (y2.1, ())))) := by kernel_rfl
noncomputable def ac108 : ACode := acOf Try.prog 108
theorem gd108 : Good Try.prog (108, ac108, [.cell 2 true 4], 17) := ⟨_, Try.func108, by kernel_rfl, by kernel_rfl, by kernel_rfl, by kernel_rfl⟩
/- laws.toMapDone -/
def an108 : List (Nat × An) := []
def S108 : List (Skel × List (Option Nat × Skel)) := []
def ps108 : List PK := [⟨none, true, MapDone⟩]
def rs108 : List PK := [⟨some .S, true, MapDone⟩]
noncomputable def F108 := FN (tabC T85) an108 S108 ac108 [.cell 2 true 4] 17 ps108 rs108
noncomputable def T108 : List (FuncId × Ctr) := (108, ⟨true, ps108, rs108, F108⟩) :: T85
theorem hT108 : AllC Try.prog T108 := AllC.fresh hT85 gd108 (by kernel_rfl)
noncomputable def G108 (a_a0 : Int) (a_a1 : Int) (a_a2 : Int) (a_a3 : Int) : Option (DMapDone) := F108 (a_a0, a_a1, a_a2, a_a3, ())
def f108 (a_a0 : Int) (a_a1 : Int) (a_a2 : Int) (a_a3 : Int) : DMapDone := (a_a0, a_a1, a_a2, a_a3, ())
theorem G108_eq (a_a0 : Int) (a_a1 : Int) (a_a2 : Int) (a_a3 : Int) : (G108 a_a0 a_a1 a_a2 a_a3) = some (f108 a_a0 a_a1 a_a2 a_a3) := by kernel_rfl
noncomputable def ac86 : ACode := acOf Try.prog 86
theorem gd86 : Good Try.prog (86, ac86, [.tmp 2], 23) := ⟨_, Try.func86, by kernel_rfl, by kernel_rfl, by kernel_rfl, by kernel_rfl⟩
/- laws.toMapDoneS -/
def sk86_0 : Skel := ⟨mkE 23 [(0, .lst MapDone), (3, .ref 0), (4, .int .i64)], [], [some (.Z, MapDone)]⟩
def ou86_0 : List (Option Nat × Skel) := [(some 0, ⟨mkE 23 [(3, .ref 0)], [], [some (.Z, MapDone)]⟩)]
def an86 : List (Nat × An) := []
def S86 : List (Skel × List (Option Nat × Skel)) := [(sk86_0, ou86_0)]
def ps86 : List PK := [⟨none, false, [(.sl MapDone)]⟩]
def rs86 : List PK := [⟨some .S, false, [(.sl MapDone)]⟩]
noncomputable def F86 := FN (tabC T108) an86 S86 ac86 [.tmp 2] 23 ps86 rs86
noncomputable def T86 : List (FuncId × Ctr) := (86, ⟨true, ps86, rs86, F86⟩) :: T108
theorem hT86 : AllC Try.prog T86 := AllC.fresh hT108 gd86 (by kernel_rfl)
noncomputable def lf86_0 : (List (DMapDone)) × Int × (List (DMapDone)) × Unit → Option (Outs ou86_0) := lfp (vround (tabC T108) an86 (mkL (tabC T108) an86 [] (ac86.body 0)) (ac86.body 0) sk86_0 ou86_0)
noncomputable def lg86_0 (v_a : List (DMapDone)) (v_i : Int) (v_r0 : List (DMapDone)) : Option (Sum ((List (DMapDone)) × Unit) (Empty)) := lf86_0 (v_a, v_i, v_r0, ())
theorem lg86_0_eq (v_a : List (DMapDone)) (v_i : Int) (v_r0 : List (DMapDone)) : (lg86_0 v_a v_i v_r0) = (br (decide (v_i < ((v_a.length : Nat) : Int))) (chk (decide (0 ≤ v_i ∧ v_i < ((v_a.length : Nat) : Int))) (let e1 : DMapDone := (v_a.getD v_i.toNat ((0 : Int), (0 : Int), (0 : Int), (0 : Int), ())); (chk (decide (0 ≤ v_i ∧ v_i < ((v_r0.length : Nat) : Int))) (lg86_0 v_a (IntKind.i64.wrap (v_i + (1 : Int))) (v_r0.set v_i.toNat ((f108 e1.1 e1.2.1 e1.2.2.1 e1.2.2.2.1).1, (f108 e1.1 e1.2.1 e1.2.2.1 e1.2.2.2.1).2.1, (f108 e1.1 e1.2.1 e1.2.2.1 e1.2.2.2.1).2.2.1, (f108 e1.1 e1.2.1 e1.2.2.1 e1.2.2.2.1).2.2.2.1, ())))))) (some (.inl (v_r0, ())))) :=
  (show lf86_0 (v_a, v_i, v_r0, ()) = _ from lfp_eq (fun x => vround_lin _ _ _ _ x) _).trans (by kernel_rfl)
noncomputable def G86 (a_a : List (DMapDone)) : Option ((List (DMapDone)) × Unit) := F86 (a_a, ())
theorem G86_eq (a_a : List (DMapDone)) : (G86 a_a) = (chk (decide (0 ≤ ((a_a.length : Nat) : Int) ∧ ((32 : Nat) : Int) * ((a_a.length : Nat) : Int) ≤ 281474976710656 ∧ ((a_a.length : Nat) : Int) ≤ 281474976710656)) ((lg86_0 a_a (0 : Int) (List.replicate ((a_a.length : Nat) : Int).toNat ((0 : Int), (0 : Int), (0 : Int), (0 : Int), ()))).bind fun o => match o with | .inl (y2 : (List (DMapDone)) × Unit) => (some (y2.1, ())))) := by kernel_rfl
noncomputable def ac42 : ACode := acOf Try.prog 42
theorem gd42 : Good Try.prog (42, ac42, [.cell 2 true 6], 26) := ⟨_, Try.func42, by kernel_rfl, by kernel_rfl, by kernel_rfl, by kernel_rfl⟩
/- laws.toMapState -/
def an42 : List (Nat × An) := [(15, .rows), (19, .rows), (23, .rows)]
def S42 : List (Skel × List (Option Nat × Skel)) := []
def ps42 : List PK := [⟨none, true, MapState⟩]
def rs42 : List PK := [⟨some .S, true, MapState⟩]
noncomputable def F42 := FN (tabC T86) an42 S42 ac42 [.cell 2 true 6] 26 ps42 rs42
noncomputable def T42 : List (FuncId × Ctr) := (42, ⟨true, ps42, rs42, F42⟩) :: T86
theorem hT42 : AllC Try.prog T42 := AllC.fresh hT86 gd42 (by kernel_rfl)
noncomputable def G42 (a_a0 : Int) (a_a1 : Int) (a_a2 : Int) (a_a3 : List (DMapDisk)) (a_a4 : List (DMapView)) (a_a5 : List (DMapDone)) : Option (DMapState) := F42 (a_a0, a_a1, a_a2, a_a3, a_a4, a_a5, ())
theorem G42_eq (a_a0 : Int) (a_a1 : Int) (a_a2 : Int) (a_a3 : List (DMapDisk)) (a_a4 : List (DMapView)) (a_a5 : List (DMapDone)) : (G42 a_a0 a_a1 a_a2 a_a3 a_a4 a_a5) = ((G79 a_a3).bind fun (y1 : (List (DMapDisk)) × Unit) => ((G85 a_a4).bind fun (y2 : (List (DMapView)) × Unit) => ((G86 a_a5).bind fun (y3 : (List (DMapDone)) × Unit) => (some (a_a0, a_a1, a_a2, y1.1, y2.1, y3.1, ()))))) := by kernel_rfl
noncomputable def ac52 : ACode := acOf Try.prog 52
theorem gd52 : Good Try.prog (52, ac52, [.tmp 6], 15) := ⟨_, Try.func52, by kernel_rfl, by kernel_rfl, by kernel_rfl, by kernel_rfl⟩
/- spec.l6In -/
def an52 : List (Nat × An) := []
def S52 : List (Skel × List (Option Nat × Skel)) := []
def ps52 : List PK := [⟨none, false, [I]⟩, ⟨none, false, [I]⟩, ⟨none, false, [I]⟩]
def rs52 : List PK := [⟨some .S, false, [.bool]⟩]
noncomputable def F52 := FN (tabC T42) an52 S52 ac52 [.tmp 6] 15 ps52 rs52
noncomputable def T52 : List (FuncId × Ctr) := (52, ⟨true, ps52, rs52, F52⟩) :: T42
theorem hT52 : AllC Try.prog T52 := AllC.fresh hT42 gd52 (by kernel_rfl)
noncomputable def G52 (a_n : Int) (a_low : Int) (a_high : Int) : Option (Bool × Unit) := F52 (a_n, a_low, a_high, ())
def f52 (a_n : Int) (a_low : Int) (a_high : Int) : Bool := ((decide (a_n ≥ a_low)) && (decide (a_n ≤ a_high)))
theorem G52_eq (a_n : Int) (a_low : Int) (a_high : Int) : (G52 a_n a_low a_high) = some ((f52 a_n a_low a_high), ()) := by kernel_rfl
noncomputable def ac102 : ACode := acOf Try.prog 102
theorem gd102 : Good Try.prog (102, ac102, [.tmp 4], 18) := ⟨_, Try.func102, by kernel_rfl, by kernel_rfl, by kernel_rfl, by kernel_rfl⟩
/- spec.l22Has -/
def sk102_0 : Skel := ⟨mkE 18 [(0, .lst [I]), (1, .int .i64), (5, .int .i64)], [], []⟩
def ou102_0 : List (Option Nat × Skel) := [(some 0, ⟨mkE 18 [], [], []⟩), (none, ⟨mkE 18 [(4, .bool)], [], []⟩)]
def an102 : List (Nat × An) := []
def S102 : List (Skel × List (Option Nat × Skel)) := [(sk102_0, ou102_0)]
def ps102 : List PK := [⟨none, false, [(.sl [I])]⟩, ⟨none, false, [I]⟩]
def rs102 : List PK := [⟨some .S, false, [.bool]⟩]
noncomputable def F102 := FN (tabC T52) an102 S102 ac102 [.tmp 4] 18 ps102 rs102
noncomputable def T102 : List (FuncId × Ctr) := (102, ⟨true, ps102, rs102, F102⟩) :: T52
theorem hT102 : AllC Try.prog T102 := AllC.fresh hT52 gd102 (by kernel_rfl)
noncomputable def lf102_0 : (List (Int × Unit)) × Int × Int × Unit → Option (Outs ou102_0) := lfp (vround (tabC T52) an102 (mkL (tabC T52) an102 [] (ac102.body 0)) (ac102.body 0) sk102_0 ou102_0)
noncomputable def lg102_0 (v_list : List (Int × Unit)) (v_n : Int) (v_i : Int) : Option (Sum (Unit) (Sum (Bool × Unit) (Empty))) := lf102_0 (v_list, v_n, v_i, ())
theorem lg102_0_eq (v_list : List (Int × Unit)) (v_n : Int) (v_i : Int) : (lg102_0 v_list v_n v_i) = (br (decide (v_i < ((v_list.length : Nat) : Int))) (chk (decide (0 ≤ v_i ∧ v_i < ((v_list.length : Nat) : Int))) (br ((v_list.getD v_i.toNat ((0 : Int), ())).1 == v_n) (some (.inr (.inl (true, ())))) (lg102_0 v_list v_n (IntKind.i64.wrap (v_i + (1 : Int)))))) (some (.inl (())))) :=
  (show lf102_0 (v_list, v_n, v_i, ()) = _ from lfp_eq (fun x => vround_lin _ _ _ _ x) _).trans (by kernel_rfl)
noncomputable def G102 (a_list : List (Int × Unit)) (a_n : Int) : Option (Bool × Unit) := F102 (a_list, a_n, ())
theorem G102_eq (a_list : List (Int × Unit)) (a_n : Int) : (G102 a_list a_n) = ((lg102_0 a_list a_n (0 : Int)).bind fun o => match o with | .inl (y1 : Unit) => (some (false, ())) | .inr (.inl (y2 : Bool × Unit)) => (some (y2.1, ()))) := by kernel_rfl
noncomputable def ac78 : ACode := acOf Try.prog 78
theorem gd78 : Good Try.prog (78, ac78, [.tmp 4], 90) := ⟨_, Try.func78, by kernel_rfl, by kernel_rfl, by kernel_rfl, by kernel_rfl⟩
/- spec.l31DiskOk -/
def sk78_0 : Skel := ⟨mkE 90 [(3, .box 1 0), (5, .int .i64)], [none, some [.int .i64, .int .i64, .int .i64, .int .i64, .int .i64, .int .i64, .lst [I]]], []⟩
def ou78_0 : List (Option Nat × Skel) := [(some 0, ⟨mkE 90 [], [], []⟩), (none, ⟨mkE 90 [(4, .bool)], [], []⟩)]
def an78 : List (Nat × An) := []
def S78 : List (Skel × List (Option Nat × Skel)) := [(sk78_0, ou78_0)]
def ps78 : List PK := [⟨none, true, MapState⟩, ⟨none, true, MapDisk⟩]
def rs78 : List PK := [⟨some .S, false, [.bool]⟩]
noncomputable def F78 := FN (tabC T102) an78 S78 ac78 [.tmp 4] 90 ps78 rs78
noncomputable def T78 : List (FuncId × Ctr) := (78, ⟨true, ps78, rs78, F78⟩) :: T102
theorem hT78 : AllC Try.prog T78 := AllC.fresh hT102 gd78 (by kernel_rfl)
noncomputable def lf78_0 : Int × Int × Int × Int × Int × Int × Int × (List (Int × Unit)) × Unit → Option (Outs ou78_0) := lfp (vround (tabC T102) an78 (mkL (tabC T102) an78 [] (ac78.body 0)) (ac78.body 0) sk78_0 ou78_0)
noncomputable def lg78_0 (v_i : Int) (v_b1_0 : Int) (v_b1_1 : Int) (v_b1_2 : Int) (v_b1_3 : Int) (v_b1_4 : Int) (v_b1_5 : Int) (v_b1_6 : List (Int × Unit)) : Option (Sum (Unit) (Sum (Bool × Unit) (Empty))) := lf78_0 (v_i, v_b1_0, v_b1_1, v_b1_2, v_b1_3, v_b1_4, v_b1_5, v_b1_6, ())
theorem lg78_0_eq (v_i : Int) (v_b1_0 : Int) (v_b1_1 : Int) (v_b1_2 : Int) (v_b1_3 : Int) (v_b1_4 : Int) (v_b1_5 : Int) (v_b1_6 : List (Int × Unit)) : (lg78_0 v_i v_b1_0 v_b1_1 v_b1_2 v_b1_3 v_b1_4 v_b1_5 v_b1_6) = (br (decide (v_i < ((v_b1_6.length : Nat) : Int))) (chk (decide (0 ≤ v_i ∧ v_i < ((v_b1_6.length : Nat) : Int))) (chk ((decide (0 ≤ (0 : Int) ∧ (0 : Int) ≤ v_i ∧ v_i ≤ ((v_b1_6.length : Nat) : Int))) || (!(!(!(f52 ((v_b1_6.getD v_i.toNat ((0 : Int), ())).1) (0 : Int) (2 : Int)))))) (chk ((decide (0 ≤ v_i ∧ v_i < ((v_b1_6.length : Nat) : Int))) || (!(!(!(f52 ((v_b1_6.getD v_i.toNat ((0 : Int), ())).1) (0 : Int) (2 : Int)))))) (chk ((G102 ((v_b1_6.take v_i.toNat).drop 0) ((v_b1_6.getD v_i.toNat ((0 : Int), ())).1)).isSome || (!(!(!(f52 ((v_b1_6.getD v_i.toNat ((0 : Int), ())).1) (0 : Int) (2 : Int)))))) (br ((!(f52 ((v_b1_6.getD v_i.toNat ((0 : Int), ())).1) (0 : Int) (2 : Int))) || ((G102 ((v_b1_6.take v_i.toNat).drop 0) ((v_b1_6.getD v_i.toNat ((0 : Int), ())).1)).getD (false, ())).1) (some (.inr (.inl (false, ())))) (lg78_0 (IntKind.i64.wrap (v_i + (1 : Int))) v_b1_0 v_b1_1 v_b1_2 v_b1_3 v_b1_4 v_b1_5 v_b1_6)))))) (some (.inl (())))) :=
  (show lf78_0 (v_i, v_b1_0, v_b1_1, v_b1_2, v_b1_3, v_b1_4, v_b1_5, v_b1_6, ()) = _ from lfp_eq (fun x => vround_lin _ _ _ _ x) _).trans (by kernel_rfl)
noncomputable def G78 (a_m0 : Int) (a_m1 : Int) (a_m2 : Int) (a_m3 : List (DMapDisk)) (a_m4 : List (DMapView)) (a_m5 : List (DMapDone)) (a_d0 : Int) (a_d1 : Int) (a_d2 : Int) (a_d3 : Int) (a_d4 : Int) (a_d5 : Int) (a_d6 : List (Int × Unit)) : Option (Bool × Unit) := F78 (a_m0, a_m1, a_m2, a_m3, a_m4, a_m5, a_d0, a_d1, a_d2, a_d3, a_d4, a_d5, a_d6, ())
theorem G78_eq (a_m0 : Int) (a_m1 : Int) (a_m2 : Int) (a_m3 : List (DMapDisk)) (a_m4 : List (DMapView)) (a_m5 : List (DMapDone)) (a_d0 : Int) (a_d1 : Int) (a_d2 : Int) (a_d3 : Int) (a_d4 : Int) (a_d5 : Int) (a_d6 : List (Int × Unit)) : (G78 a_m0 a_m1 a_m2 a_m3 a_m4 a_m5 a_d0 a_d1 a_d2 a_d3 a_d4 a_d5 a_d6) = (br ((((!(f52 a_d0 (1 : Int) (IntKind.i64.wrap (a_m2 - (1 : Int))))) || (!(f52 a_d1 (1 : Int) (8 : Int)))) || (!(f52 a_d2 (1 : Int) (99999 : Int)))) || (!(f52 a_d3 (0 : Int) (2 : Int)))) (some (false, ())) (br (a_d3 == (0 : Int)) (some ((((a_d4 == (0 : Int)) && (a_d5 == (0 : Int))) && (((a_d6.length : Nat) : Int) == (0 : Int))), ())) (br (((!(f52 a_d4 (0 : Int) (3 : Int))) || (!(f52 a_d5 (1 : Int) (99999 : Int)))) || (decide (((a_d6.length : Nat) : Int) ≥ (3 : Int)))) (some (false, ())) ((lg78_0 (0 : Int) a_d0 a_d1 a_d2 a_d3 a_d4 a_d5 a_d6).bind fun o => match o with | .inl (y1 : Unit) => (some (true, ())) | .inr (.inl (y2 : Bool × Unit)) => (some (y2.1, ())))))) := by kernel_rfl
noncomputable def ac57 : ACode := acOf Try.prog 57
theorem gd57 : Good Try.prog (57, ac57, [.tmp 2], 5) := ⟨_, Try.func57, by kernel_rfl, by kernel_rfl, by kernel_rfl, by kernel_rfl⟩
/- spec.l11Num -/
def an57 : List (Nat × An) := []
def S57 : List (Skel × List (Option Nat × Skel)) := []
def ps57 : List PK := [⟨none, false, [I]⟩]
def rs57 : List PK := [⟨some .S, false, [.bool]⟩]
noncomputable def F57 := FN (tabC T78) an57 S57 ac57 [.tmp 2] 5 ps57 rs57
noncomputable def T57 : List (FuncId × Ctr) := (57, ⟨true, ps57, rs57, F57⟩) :: T78
theorem hT57 : AllC Try.prog T57 := AllC.fresh hT78 gd57 (by kernel_rfl)
noncomputable def G57 (a_n : Int) : Option (Bool × Unit) := F57 (a_n, ())
def f57 (a_n : Int) : Bool := (f52 a_n (-1 : Int) (99999 : Int))
theorem G57_eq (a_n : Int) : (G57 a_n) = some ((f57 a_n), ()) := by kernel_rfl
noncomputable def ac41 : ACode := acOf Try.prog 41
theorem gd41 : Good Try.prog (41, ac41, [.tmp 2], 168) := ⟨_, Try.func41, by kernel_rfl, by kernel_rfl, by kernel_rfl, by kernel_rfl⟩
/- spec.MapOk -/
def sk41_0 : Skel := ⟨mkE 168 [(1, .box 0 0), (3, .int .i64)], [some [.int .i64, .int .i64, .int .i64, .lst MapDisk, .lst MapView, .lst MapDone]], []⟩
def ou41_0 : List (Option Nat × Skel) := [(some 0, ⟨mkE 168 [(1, .box 0 0)], [some [.int .i64, .int .i64, .int .i64, .lst MapDisk, .lst MapView, .lst MapDone]], []⟩), (none, ⟨mkE 168 [(2, .bool)], [], []⟩)]
def sk41_1 : Skel := ⟨mkE 168 [(1, .box 0 0), (4, .int .i64)], [some [.int .i64, .int .i64, .int .i64, .lst MapDisk, .lst MapView, .lst MapDone]], []⟩
def ou41_1 : List (Option Nat × Skel) := [(some 2, ⟨mkE 168 [(1, .box 0 0)], [some [.int .i64, .int .i64, .int .i64, .lst MapDisk, .lst MapView, .lst MapDone]], []⟩), (none, ⟨mkE 168 [(2, .bool)], [], []⟩)]
def sk41_2 : Skel := ⟨mkE 168 [(1, .box 0 0), (6, .int .i64)], [some [.int .i64, .int .i64, .int .i64, .lst MapDisk, .lst MapView, .lst MapDone]], []⟩
def ou41_2 : List (Option Nat × Skel) := [(some 4, ⟨mkE 168 [], [], []⟩), (none, ⟨mkE 168 [(2, .bool)], [], []⟩)]
def an41 : List (Nat × An) := []
def S41 : List (Skel × List (Option Nat × Skel)) := [(sk41_0, ou41_0), (sk41_1, ou41_1), (sk41_2, ou41_2)]
def ps41 : List PK := [⟨none, true, MapState⟩]
def rs41 : List PK := [⟨some .S, false, [.bool]⟩]
noncomputable def F41 := FN (tabC T57) an41 S41 ac41 [.tmp 2] 168 ps41 rs41
noncomputable def T41 : List (FuncId × Ctr) := (41, ⟨true, ps41, rs41, F41⟩) :: T57
theorem hT41 : AllC Try.prog T41 := AllC.fresh hT57 gd41 (by kernel_rfl)
noncomputable def lf41_2 : Int × Int × Int × Int × (List (DMapDisk)) × (List (DMapView)) × (List (DMapDone)) × Unit → Option (Outs ou41_2) := lfp (vround (tabC T57) an41 (mkL (tabC T57) an41 [] (ac41.body 2)) (ac41.body 2) sk41_2 ou41_2)
noncomputable def lg41_2 (v_d : Int) (v_b0_0 : Int) (v_b0_1 : Int) (v_b0_2 : Int) (v_b0_3 : List (DMapDisk)) (v_b0_4 : List (DMapView)) (v_b0_5 : List (DMapDone)) : Option (Sum (Unit) (Sum (Bool × Unit) (Empty))) := lf41_2 (v_d, v_b0_0, v_b0_1, v_b0_2, v_b0_3, v_b0_4, v_b0_5, ())
theorem lg41_2_eq (v_d : Int) (v_b0_0 : Int) (v_b0_1 : Int) (v_b0_2 : Int) (v_b0_3 : List (DMapDisk)) (v_b0_4 : List (DMapView)) (v_b0_5 : List (DMapDone)) : (lg41_2 v_d v_b0_0 v_b0_1 v_b0_2 v_b0_3 v_b0_4 v_b0_5) = (br (decide (v_d < ((v_b0_5.length : Nat) : Int))) (chk (decide (0 ≤ v_d ∧ v_d < ((v_b0_5.length : Nat) : Int))) (let e8 : DMapDone := (v_b0_5.getD v_d.toNat ((0 : Int), (0 : Int), (0 : Int), (0 : Int), ())); (chk ((decide (0 ≤ (IntKind.i64.wrap (v_d - (1 : Int))) ∧ (IntKind.i64.wrap (v_d - (1 : Int))) < ((v_b0_5.length : Nat) : Int))) || (!((!((((!(f52 e8.1 (0 : Int) (3 : Int))) || (!(f52 e8.2.1 (1 : Int) (99999 : Int)))) || (!(f52 e8.2.2.1 (0 : Int) (6 : Int)))) || (!(f57 e8.2.2.2.1)))) && (decide (v_d > (0 : Int)))))) (let e9 : DMapDone := (v_b0_5.getD (IntKind.i64.wrap (v_d - (1 : Int))).toNat ((0 : Int), (0 : Int), (0 : Int), (0 : Int), ())); (br (((((!(f52 e8.1 (0 : Int) (3 : Int))) || (!(f52 e8.2.1 (1 : Int) (99999 : Int)))) || (!(f52 e8.2.2.1 (0 : Int) (6 : Int)))) || (!(f57 e8.2.2.2.1))) || ((decide (v_d > (0 : Int))) && (decide (e9.1 ≥ e8.1)))) (some (.inr (.inl (false, ())))) (lg41_2 (IntKind.i64.wrap (v_d + (1 : Int))) v_b0_0 v_b0_1 v_b0_2 v_b0_3 v_b0_4 v_b0_5)))))) (some (.inl (())))) :=
  (show lf41_2 (v_d, v_b0_0, v_b0_1, v_b0_2, v_b0_3, v_b0_4, v_b0_5, ()) = _ from lfp_eq (fun x => vround_lin _ _ _ _ x) _).trans (by kernel_rfl)
noncomputable def lf41_1 : Int × Int × Int × Int × (List (DMapDisk)) × (List (DMapView)) × (List (DMapDone)) × Unit → Option (Outs ou41_1) := lfp (vround (tabC T57) an41 (mkL (tabC T57) an41 [] (ac41.body 1)) (ac41.body 1) sk41_1 ou41_1)
noncomputable def lg41_1 (v_e : Int) (v_b0_0 : Int) (v_b0_1 : Int) (v_b0_2 : Int) (v_b0_3 : List (DMapDisk)) (v_b0_4 : List (DMapView)) (v_b0_5 : List (DMapDone)) : Option (Sum (DMapState) (Sum (Bool × Unit) (Empty))) := lf41_1 (v_e, v_b0_0, v_b0_1, v_b0_2, v_b0_3, v_b0_4, v_b0_5, ())
theorem lg41_1_eq (v_e : Int) (v_b0_0 : Int) (v_b0_1 : Int) (v_b0_2 : Int) (v_b0_3 : List (DMapDisk)) (v_b0_4 : List (DMapView)) (v_b0_5 : List (DMapDone)) : (lg41_1 v_e v_b0_0 v_b0_1 v_b0_2 v_b0_3 v_b0_4 v_b0_5) = (br (decide (v_e < ((v_b0_4.length : Nat) : Int))) (chk (decide (0 ≤ v_e ∧ v_e < ((v_b0_4.length : Nat) : Int))) (let e6 : DMapView := (v_b0_4.getD v_e.toNat ((0 : Int), (0 : Int), (0 : Int), ())); (br ((((!(f52 e6.1 (1 : Int) (99999 : Int))) || (!(f52 e6.2.1 (0 : Int) (IntKind.i64.wrap (v_b0_1 - (1 : Int)))))) || (!(f52 e6.2.2.1 (-1 : Int) (IntKind.i64.wrap (v_b0_1 - (1 : Int)))))) || (e6.2.1 == e6.2.2.1)) (some (.inr (.inl (false, ())))) (lg41_1 (IntKind.i64.wrap (v_e + (1 : Int))) v_b0_0 v_b0_1 v_b0_2 v_b0_3 v_b0_4 v_b0_5)))) (some (.inl (v_b0_0, v_b0_1, v_b0_2, v_b0_3, v_b0_4, v_b0_5, ())))) :=
  (show lf41_1 (v_e, v_b0_0, v_b0_1, v_b0_2, v_b0_3, v_b0_4, v_b0_5, ()) = _ from lfp_eq (fun x => vround_lin _ _ _ _ x) _).trans (by kernel_rfl)
noncomputable def lf41_0 : Int × Int × Int × Int × (List (DMapDisk)) × (List (DMapView)) × (List (DMapDone)) × Unit → Option (Outs ou41_0) := lfp (vround (tabC T57) an41 (mkL (tabC T57) an41 [] (ac41.body 0)) (ac41.body 0) sk41_0 ou41_0)
noncomputable def lg41_0 (v_p : Int) (v_b0_0 : Int) (v_b0_1 : Int) (v_b0_2 : Int) (v_b0_3 : List (DMapDisk)) (v_b0_4 : List (DMapView)) (v_b0_5 : List (DMapDone)) : Option (Sum (DMapState) (Sum (Bool × Unit) (Empty))) := lf41_0 (v_p, v_b0_0, v_b0_1, v_b0_2, v_b0_3, v_b0_4, v_b0_5, ())
theorem lg41_0_eq (v_p : Int) (v_b0_0 : Int) (v_b0_1 : Int) (v_b0_2 : Int) (v_b0_3 : List (DMapDisk)) (v_b0_4 : List (DMapView)) (v_b0_5 : List (DMapDone)) : (lg41_0 v_p v_b0_0 v_b0_1 v_b0_2 v_b0_3 v_b0_4 v_b0_5) = (br (decide (v_p < ((v_b0_3.length : Nat) : Int))) (chk (decide (0 ≤ v_p ∧ v_p < ((v_b0_3.length : Nat) : Int))) (let e1 : DMapDisk := (v_b0_3.getD v_p.toNat ((0 : Int), (0 : Int), (0 : Int), (0 : Int), (0 : Int), (0 : Int), [], ())); ((G78 v_b0_0 v_b0_1 v_b0_2 v_b0_3 v_b0_4 v_b0_5 e1.1 e1.2.1 e1.2.2.1 e1.2.2.2.1 e1.2.2.2.2.1 e1.2.2.2.2.2.1 e1.2.2.2.2.2.2.1).bind fun (y2 : Bool × Unit) => (chk ((decide (0 ≤ (IntKind.i64.wrap (v_p - (1 : Int))) ∧ (IntKind.i64.wrap (v_p - (1 : Int))) < ((v_b0_3.length : Nat) : Int))) || (!((!(!y2.1)) && (decide (v_p > (0 : Int)))))) (let e3 : DMapDisk := (v_b0_3.getD (IntKind.i64.wrap (v_p - (1 : Int))).toNat ((0 : Int), (0 : Int), (0 : Int), (0 : Int), (0 : Int), (0 : Int), [], ())); (chk ((decide (0 ≤ v_p ∧ v_p < ((v_b0_3.length : Nat) : Int))) || (!((!(!y2.1)) && (decide (v_p > (0 : Int)))))) (let e4 : DMapDisk := (v_b0_3.getD v_p.toNat ((0 : Int), (0 : Int), (0 : Int), (0 : Int), (0 : Int), (0 : Int), [], ())); (br ((!y2.1) || ((decide (v_p > (0 : Int))) && (decide (e3.1 ≥ e4.1)))) (some (.inr (.inl (false, ())))) (lg41_0 (IntKind.i64.wrap (v_p + (1 : Int))) v_b0_0 v_b0_1 v_b0_2 v_b0_3 v_b0_4 v_b0_5))))))))) (some (.inl (v_b0_0, v_b0_1, v_b0_2, v_b0_3, v_b0_4, v_b0_5, ())))) :=
  (show lf41_0 (v_p, v_b0_0, v_b0_1, v_b0_2, v_b0_3, v_b0_4, v_b0_5, ()) = _ from lfp_eq (fun x => vround_lin _ _ _ _ x) _).trans (by kernel_rfl)
noncomputable def G41 (a_x0 : Int) (a_x1 : Int) (a_x2 : Int) (a_x3 : List (DMapDisk)) (a_x4 : List (DMapView)) (a_x5 : List (DMapDone)) : Option (Bool × Unit) := F41 (a_x0, a_x1, a_x2, a_x3, a_x4, a_x5, ())
theorem G41_eq (a_x0 : Int) (a_x1 : Int) (a_x2 : Int) (a_x3 : List (DMapDisk)) (a_x4 : List (DMapView)) (a_x5 : List (DMapDone)) : (G41 a_x0 a_x1 a_x2 a_x3 a_x4 a_x5) = (br ((((((!(f52 a_x0 (0 : Int) (60 : Int))) || (!(f52 a_x1 (3 : Int) (5 : Int)))) || (!(f52 a_x2 (1 : Int) (5 : Int)))) || (decide (((a_x3.length : Nat) : Int) > (4 : Int)))) || (((a_x4.length : Nat) : Int) != (3 : Int))) || (decide (((a_x5.length : Nat) : Int) > (4 : Int)))) (some (false, ())) ((lg41_0 (0 : Int) a_x0 a_x1 a_x2 a_x3 a_x4 a_x5).bind fun o => match o with | .inl (y5 : DMapState) => ((lg41_1 (0 : Int) y5.1 y5.2.1 y5.2.2.1 y5.2.2.2.1 y5.2.2.2.2.1 y5.2.2.2.2.2.1).bind fun o => match o with | .inl (y7 : DMapState) => ((lg41_2 (0 : Int) y7.1 y7.2.1 y7.2.2.1 y7.2.2.2.1 y7.2.2.2.2.1 y7.2.2.2.2.2.1).bind fun o => match o with | .inl (y10 : Unit) => (some (true, ())) | .inr (.inl (y11 : Bool × Unit)) => (some (y11.1, ()))) | .inr (.inl (y12 : Bool × Unit)) => (some (y12.1, ()))) | .inr (.inl (y13 : Bool × Unit)) => (some (y13.1, ())))) := by kernel_rfl
noncomputable def ac53 : ACode := acOf Try.prog 53
theorem gd53 : Good Try.prog (53, ac53, [.tmp 6], 15) := ⟨_, Try.func53, by kernel_rfl, by kernel_rfl, by kernel_rfl, by kernel_rfl⟩
/- impl.in -/
def an53 : List (Nat × An) := []
def S53 : List (Skel × List (Option Nat × Skel)) := []
def ps53 : List PK := [⟨none, false, [I]⟩, ⟨none, false, [I]⟩, ⟨none, false, [I]⟩]
def rs53 : List PK := [⟨some .S, false, [.bool]⟩]
noncomputable def F53 := FN (tabC T41) an53 S53 ac53 [.tmp 6] 15 ps53 rs53
noncomputable def T53 : List (FuncId × Ctr) := (53, ⟨true, ps53, rs53, F53⟩) :: T41
theorem hT53 : AllC Try.prog T53 := AllC.fresh hT41 gd53 (by kernel_rfl)
noncomputable def G53 (a_n : Int) (a_low : Int) (a_high : Int) : Option (Bool × Unit) := F53 (a_n, a_low, a_high, ())
def f53 (a_n : Int) (a_low : Int) (a_high : Int) : Bool := ((decide (a_n ≥ a_low)) && (decide (a_n ≤ a_high)))
theorem G53_eq (a_n : Int) (a_low : Int) (a_high : Int) : (G53 a_n a_low a_high) = some ((f53 a_n a_low a_high), ()) := by kernel_rfl
noncomputable def ac88 : ACode := acOf Try.prog 88
theorem gd88 : Good Try.prog (88, ac88, [.tmp 2], 5) := ⟨_, Try.func88, by kernel_rfl, by kernel_rfl, by kernel_rfl, by kernel_rfl⟩
/- impl.isRange -/
def an88 : List (Nat × An) := []
def S88 : List (Skel × List (Option Nat × Skel)) := []
def ps88 : List PK := [⟨none, false, [I]⟩]
def rs88 : List PK := [⟨some .S, false, [.bool]⟩]
noncomputable def F88 := FN (tabC T53) an88 S88 ac88 [.tmp 2] 5 ps88 rs88
noncomputable def T88 : List (FuncId × Ctr) := (88, ⟨true, ps88, rs88, F88⟩) :: T53
theorem hT88 : AllC Try.prog T88 := AllC.fresh hT53 gd88 (by kernel_rfl)
noncomputable def G88 (a_r : Int) : Option (Bool × Unit) := F88 (a_r, ())
def f88 (a_r : Int) : Bool := (f53 a_r (0 : Int) (2 : Int))
theorem G88_eq (a_r : Int) : (G88 a_r) = some ((f88 a_r), ()) := by kernel_rfl
noncomputable def ac114 : ACode := acOf Try.prog 114
theorem gd114 : Good Try.prog (114, ac114, [.tmp 4], 17) := ⟨_, Try.func114, by kernel_rfl, by kernel_rfl, by kernel_rfl, by kernel_rfl⟩
/- impl.hasNumber -/
def sk114_0 : Skel := ⟨mkE 17 [(1, .int .i64), (7, .lst [I]), (8, .int .i64), (9, .int .i64)], [], []⟩
def ou114_0 : List (Option Nat × Skel) := [(some 0, ⟨mkE 17 [], [], []⟩), (none, ⟨mkE 17 [(4, .bool)], [], []⟩)]
def an114 : List (Nat × An) := []
def S114 : List (Skel × List (Option Nat × Skel)) := [(sk114_0, ou114_0)]
def ps114 : List PK := [⟨none, false, [(.sl [I])]⟩, ⟨none, false, [I]⟩]
def rs114 : List PK := [⟨some .S, false, [.bool]⟩]
noncomputable def F114 := FN (tabC T88) an114 S114 ac114 [.tmp 4] 17 ps114 rs114
noncomputable def T114 : List (FuncId × Ctr) := (114, ⟨true, ps114, rs114, F114⟩) :: T88
theorem hT114 : AllC Try.prog T114 := AllC.fresh hT88 gd114 (by kernel_rfl)
noncomputable def lf114_0 : Int × (List (Int × Unit)) × Int × Int × Unit → Option (Outs ou114_0) := lfp (vround (tabC T88) an114 (mkL (tabC T88) an114 [] (ac114.body 0)) (ac114.body 0) sk114_0 ou114_0)
noncomputable def lg114_0 (v_n : Int) (v_t7 : List (Int × Unit)) (v_t8 : Int) (v_t9 : Int) : Option (Sum (Unit) (Sum (Bool × Unit) (Empty))) := lf114_0 (v_n, v_t7, v_t8, v_t9, ())
theorem lg114_0_eq (v_n : Int) (v_t7 : List (Int × Unit)) (v_t8 : Int) (v_t9 : Int) : (lg114_0 v_n v_t7 v_t8 v_t9) = (br (decide (v_t9 < v_t8)) (chk (decide (0 ≤ v_t9 ∧ v_t9 < ((v_t7.length : Nat) : Int))) (br ((v_t7.getD v_t9.toNat ((0 : Int), ())).1 == v_n) (some (.inr (.inl (true, ())))) (lg114_0 v_n v_t7 v_t8 (IntKind.i64.wrap (v_t9 + (1 : Int)))))) (some (.inl (())))) :=
  (show lf114_0 (v_n, v_t7, v_t8, v_t9, ()) = _ from lfp_eq (fun x => vround_lin _ _ _ _ x) _).trans (by kernel_rfl)
noncomputable def G114 (a_list : List (Int × Unit)) (a_n : Int) : Option (Bool × Unit) := F114 (a_list, a_n, ())
theorem G114_eq (a_list : List (Int × Unit)) (a_n : Int) : (G114 a_list a_n) = ((lg114_0 a_n a_list ((a_list.length : Nat) : Int) (0 : Int)).bind fun o => match o with | .inl (y1 : Unit) => (some (false, ())) | .inr (.inl (y2 : Bool × Unit)) => (some (y2.1, ()))) := by kernel_rfl
noncomputable def ac87 : ACode := acOf Try.prog 87
theorem gd87 : Good Try.prog (87, ac87, [.tmp 2], 5) := ⟨_, Try.func87, by kernel_rfl, by kernel_rfl, by kernel_rfl, by kernel_rfl⟩
/- impl.isClient -/
def an87 : List (Nat × An) := []
def S87 : List (Skel × List (Option Nat × Skel)) := []
def ps87 : List PK := [⟨none, false, [I]⟩]
def rs87 : List PK := [⟨some .S, false, [.bool]⟩]
noncomputable def F87 := FN (tabC T114) an87 S87 ac87 [.tmp 2] 5 ps87 rs87
noncomputable def T87 : List (FuncId × Ctr) := (87, ⟨true, ps87, rs87, F87⟩) :: T114
theorem hT87 : AllC Try.prog T87 := AllC.fresh hT114 gd87 (by kernel_rfl)
noncomputable def G87 (a_n : Int) : Option (Bool × Unit) := F87 (a_n, ())
def f87 (a_n : Int) : Bool := (f53 a_n (0 : Int) (3 : Int))
theorem G87_eq (a_n : Int) : (G87 a_n) = some ((f87 a_n), ()) := by kernel_rfl
noncomputable def ac105 : ACode := acOf Try.prog 105
theorem gd105 : Good Try.prog (105, ac105, [.tmp 2], 61) := ⟨_, Try.func105, by kernel_rfl, by kernel_rfl, by kernel_rfl, by kernel_rfl⟩
/- impl.frozenOk -/
def sk105_0 : Skel := ⟨mkE 61 [(1, .box 0 0), (23, .lst [I]), (24, .int .i64), (25, .int .i64)], [some [.int .i64, .int .i64, .int .i64, .int .i64, .int .i64, .int .i64, .lst [I]]], []⟩
def ou105_0 : List (Option Nat × Skel) := [(some 0, ⟨mkE 61 [(1, .box 0 0)], [some [.int .i64, .int .i64, .int .i64, .int .i64, .int .i64, .int .i64, .lst [I]]], []⟩), (none, ⟨mkE 61 [(2, .bool)], [], []⟩)]
def an105 : List (Nat × An) := []
def S105 : List (Skel × List (Option Nat × Skel)) := [(sk105_0, ou105_0)]
def ps105 : List PK := [⟨none, true, MapDisk⟩]
def rs105 : List PK := [⟨some .S, false, [.bool]⟩]
noncomputable def F105 := FN (tabC T87) an105 S105 ac105 [.tmp 2] 61 ps105 rs105
noncomputable def T105 : List (FuncId × Ctr) := (105, ⟨true, ps105, rs105, F105⟩) :: T87
theorem hT105 : AllC Try.prog T105 := AllC.fresh hT87 gd105 (by kernel_rfl)
noncomputable def lf105_0 : (List (Int × Unit)) × Int × Int × Int × Int × Int × Int × Int × Int × (List (Int × Unit)) × Unit → Option (Outs ou105_0) := lfp (vround (tabC T87) an105 (mkL (tabC T87) an105 [] (ac105.body 0)) (ac105.body 0) sk105_0 ou105_0)
noncomputable def lg105_0 (v_t23 : List (Int × Unit)) (v_t24 : Int) (v_t25 : Int) (v_b0_0 : Int) (v_b0_1 : Int) (v_b0_2 : Int) (v_b0_3 : Int) (v_b0_4 : Int) (v_b0_5 : Int) (v_b0_6 : List (Int × Unit)) : Option (Sum (DMapDisk) (Sum (Bool × Unit) (Empty))) := lf105_0 (v_t23, v_t24, v_t25, v_b0_0, v_b0_1, v_b0_2, v_b0_3, v_b0_4, v_b0_5, v_b0_6, ())
theorem lg105_0_eq (v_t23 : List (Int × Unit)) (v_t24 : Int) (v_t25 : Int) (v_b0_0 : Int) (v_b0_1 : Int) (v_b0_2 : Int) (v_b0_3 : Int) (v_b0_4 : Int) (v_b0_5 : Int) (v_b0_6 : List (Int × Unit)) : (lg105_0 v_t23 v_t24 v_t25 v_b0_0 v_b0_1 v_b0_2 v_b0_3 v_b0_4 v_b0_5 v_b0_6) = (br (decide (v_t25 < v_t24)) (chk (decide (0 ≤ v_t25 ∧ v_t25 < ((v_t23.length : Nat) : Int))) (chk ((decide (0 ≤ (0 : Int) ∧ (0 : Int) ≤ v_t25 ∧ v_t25 ≤ ((v_b0_6.length : Nat) : Int))) || (!(!(!(f88 ((v_t23.getD v_t25.toNat ((0 : Int), ())).1)))))) (chk ((G114 ((v_b0_6.take v_t25.toNat).drop 0) ((v_t23.getD v_t25.toNat ((0 : Int), ())).1)).isSome || (!(!(!(f88 ((v_t23.getD v_t25.toNat ((0 : Int), ())).1)))))) (br ((!(f88 ((v_t23.getD v_t25.toNat ((0 : Int), ())).1))) || ((G114 ((v_b0_6.take v_t25.toNat).drop 0) ((v_t23.getD v_t25.toNat ((0 : Int), ())).1)).getD (false, ())).1) (some (.inr (.inl (false, ())))) (lg105_0 v_t23 v_t24 (IntKind.i64.wrap (v_t25 + (1 : Int))) v_b0_0 v_b0_1 v_b0_2 v_b0_3 v_b0_4 v_b0_5 v_b0_6))))) (some (.inl (v_b0_0, v_b0_1, v_b0_2, v_b0_3, v_b0_4, v_b0_5, v_b0_6, ())))) :=
  (show lf105_0 (v_t23, v_t24, v_t25, v_b0_0, v_b0_1, v_b0_2, v_b0_3, v_b0_4, v_b0_5, v_b0_6, ()) = _ from lfp_eq (fun x => vround_lin _ _ _ _ x) _).trans (by kernel_rfl)
noncomputable def G105 (a_d0 : Int) (a_d1 : Int) (a_d2 : Int) (a_d3 : Int) (a_d4 : Int) (a_d5 : Int) (a_d6 : List (Int × Unit)) : Option (Bool × Unit) := F105 (a_d0, a_d1, a_d2, a_d3, a_d4, a_d5, a_d6, ())
theorem G105_eq (a_d0 : Int) (a_d1 : Int) (a_d2 : Int) (a_d3 : Int) (a_d4 : Int) (a_d5 : Int) (a_d6 : List (Int × Unit)) : (G105 a_d0 a_d1 a_d2 a_d3 a_d4 a_d5 a_d6) = (br (a_d3 == (0 : Int)) (some ((((a_d4 == (0 : Int)) && (a_d5 == (0 : Int))) && (((a_d6.length : Nat) : Int) == (0 : Int))), ())) ((lg105_0 a_d6 ((a_d6.length : Nat) : Int) (0 : Int) a_d0 a_d1 a_d2 a_d3 a_d4 a_d5 a_d6).bind fun o => match o with | .inl (y1 : DMapDisk) => (some (((((f53 y1.2.2.2.1 (1 : Int) (2 : Int)) && (f87 y1.2.2.2.2.1)) && (f53 y1.2.2.2.2.2.1 (1 : Int) (99999 : Int))) && (decide (((y1.2.2.2.2.2.2.1.length : Nat) : Int) < (3 : Int)))), ())) | .inr (.inl (y2 : Bool × Unit)) => (some (y2.1, ())))) := by kernel_rfl
noncomputable def ac81 : ACode := acOf Try.prog 81
theorem gd81 : Good Try.prog (81, ac81, [.tmp 6], 68) := ⟨_, Try.func81, by kernel_rfl, by kernel_rfl, by kernel_rfl, by kernel_rfl⟩
/- impl.disksOk -/
def sk81_0 : Skel := ⟨mkE 68 [(1, .int .i64), (2, .lst MapDisk), (22, .lst MapDisk), (23, .int .i64), (24, .int .i64)], [], []⟩
def ou81_0 : List (Option Nat × Skel) := [(some 0, ⟨mkE 68 [], [], []⟩), (none, ⟨mkE 68 [(6, .bool)], [], []⟩)]
def an81 : List (Nat × An) := []
def S81 : List (Skel × List (Option Nat × Skel)) := [(sk81_0, ou81_0)]
def ps81 : List PK := [⟨none, false, [I]⟩, ⟨none, false, [I]⟩, ⟨none, false, [(.sl MapDisk)]⟩]
def rs81 : List PK := [⟨some .S, false, [.bool]⟩]
noncomputable def F81 := FN (tabC T105) an81 S81 ac81 [.tmp 6] 68 ps81 rs81
noncomputable def T81 : List (FuncId × Ctr) := (81, ⟨true, ps81, rs81, F81⟩) :: T105
theorem hT81 : AllC Try.prog T81 := AllC.fresh hT105 gd81 (by kernel_rfl)
noncomputable def lf81_0 : Int × (List (DMapDisk)) × (List (DMapDisk)) × Int × Int × Unit → Option (Outs ou81_0) := lfp (vround (tabC T105) an81 (mkL (tabC T105) an81 [] (ac81.body 0)) (ac81.body 0) sk81_0 ou81_0)
noncomputable def lg81_0 (v_next : Int) (v_list : List (DMapDisk)) (v_t22 : List (DMapDisk)) (v_t23 : Int) (v_t24 : Int) : Option (Sum (Unit) (Sum (Bool × Unit) (Empty))) := lf81_0 (v_next, v_list, v_t22, v_t23, v_t24, ())
theorem lg81_0_eq (v_next : Int) (v_list : List (DMapDisk)) (v_t22 : List (DMapDisk)) (v_t23 : Int) (v_t24 : Int) : (lg81_0 v_next v_list v_t22 v_t23 v_t24) = (br (decide (v_t24 < v_t23)) (chk (decide (0 ≤ v_t24 ∧ v_t24 < ((v_t22.length : Nat) : Int))) (let e1 : DMapDisk := (v_t22.getD v_t24.toNat ((0 : Int), (0 : Int), (0 : Int), (0 : Int), (0 : Int), (0 : Int), [], ())); (chk ((decide (0 ≤ (IntKind.i64.wrap (v_t24 - (1 : Int))) ∧ (IntKind.i64.wrap (v_t24 - (1 : Int))) < ((v_list.length : Nat) : Int))) || (!((!(!(f53 e1.1 (1 : Int) (IntKind.i64.wrap (v_next - (1 : Int)))))) && (decide (v_t24 > (0 : Int)))))) (let e2 : DMapDisk := (v_list.getD (IntKind.i64.wrap (v_t24 - (1 : Int))).toNat ((0 : Int), (0 : Int), (0 : Int), (0 : Int), (0 : Int), (0 : Int), [], ())); (chk ((G105 e1.1 e1.2.1 e1.2.2.1 e1.2.2.2.1 e1.2.2.2.2.1 e1.2.2.2.2.2.1 e1.2.2.2.2.2.2.1).isSome || (!(!((((!(f53 e1.1 (1 : Int) (IntKind.i64.wrap (v_next - (1 : Int))))) || ((decide (v_t24 > (0 : Int))) && (decide (e2.1 ≥ e1.1)))) || (!(f53 e1.2.1 (1 : Int) (8 : Int)))) || (!(f53 e1.2.2.1 (1 : Int) (99999 : Int))))))) (br (((((!(f53 e1.1 (1 : Int) (IntKind.i64.wrap (v_next - (1 : Int))))) || ((decide (v_t24 > (0 : Int))) && (decide (e2.1 ≥ e1.1)))) || (!(f53 e1.2.1 (1 : Int) (8 : Int)))) || (!(f53 e1.2.2.1 (1 : Int) (99999 : Int)))) || (!((G105 e1.1 e1.2.1 e1.2.2.1 e1.2.2.2.1 e1.2.2.2.2.1 e1.2.2.2.2.2.1 e1.2.2.2.2.2.2.1).getD (false, ())).1)) (some (.inr (.inl (false, ())))) (lg81_0 v_next v_list v_t22 v_t23 (IntKind.i64.wrap (v_t24 + (1 : Int)))))))))) (some (.inl (())))) :=
  (show lf81_0 (v_next, v_list, v_t22, v_t23, v_t24, ()) = _ from lfp_eq (fun x => vround_lin _ _ _ _ x) _).trans (by kernel_rfl)
noncomputable def G81 (a_servers : Int) (a_next : Int) (a_list : List (DMapDisk)) : Option (Bool × Unit) := F81 (a_servers, a_next, a_list, ())
theorem G81_eq (a_servers : Int) (a_next : Int) (a_list : List (DMapDisk)) : (G81 a_servers a_next a_list) = (br (((!(f53 a_servers (3 : Int) (5 : Int))) || (!(f53 a_next (1 : Int) (5 : Int)))) || (decide (((a_list.length : Nat) : Int) > (4 : Int)))) (some (false, ())) ((lg81_0 a_next a_list a_list ((a_list.length : Nat) : Int) (0 : Int)).bind fun o => match o with | .inl (y3 : Unit) => (some (true, ())) | .inr (.inl (y4 : Bool × Unit)) => (some (y4.1, ())))) := by kernel_rfl
noncomputable def ac43 : ACode := acOf Try.prog 43
theorem gd43 : Good Try.prog (43, ac43, [.tmp 2], 117) := ⟨_, Try.func43, by kernel_rfl, by kernel_rfl, by kernel_rfl, by kernel_rfl⟩
/- impl.MapOk -/
def sk43_0 : Skel := ⟨mkE 117 [(1, .box 0 0), (34, .lst MapView), (35, .int .i64), (36, .int .i64)], [some [.int .i64, .int .i64, .int .i64, .lst MapDisk, .lst MapView, .lst MapDone]], []⟩
def ou43_0 : List (Option Nat × Skel) := [(some 0, ⟨mkE 117 [(1, .box 0 0)], [some [.int .i64, .int .i64, .int .i64, .lst MapDisk, .lst MapView, .lst MapDone]], []⟩), (none, ⟨mkE 117 [(2, .bool)], [], []⟩)]
def sk43_1 : Skel := ⟨mkE 117 [(1, .box 0 0), (71, .lst MapDone), (72, .int .i64), (73, .int .i64)], [some [.int .i64, .int .i64, .int .i64, .lst MapDisk, .lst MapView, .lst MapDone]], []⟩
def ou43_1 : List (Option Nat × Skel) := [(some 2, ⟨mkE 117 [], [], []⟩), (none, ⟨mkE 117 [(2, .bool)], [], []⟩)]
def an43 : List (Nat × An) := []
def S43 : List (Skel × List (Option Nat × Skel)) := [(sk43_0, ou43_0), (sk43_1, ou43_1)]
def ps43 : List PK := [⟨none, true, MapState⟩]
def rs43 : List PK := [⟨some .S, false, [.bool]⟩]
noncomputable def F43 := FN (tabC T81) an43 S43 ac43 [.tmp 2] 117 ps43 rs43
noncomputable def T43 : List (FuncId × Ctr) := (43, ⟨true, ps43, rs43, F43⟩) :: T81
theorem hT43 : AllC Try.prog T43 := AllC.fresh hT81 gd43 (by kernel_rfl)
noncomputable def lf43_1 : (List (DMapDone)) × Int × Int × Int × Int × Int × (List (DMapDisk)) × (List (DMapView)) × (List (DMapDone)) × Unit → Option (Outs ou43_1) := lfp (vround (tabC T81) an43 (mkL (tabC T81) an43 [] (ac43.body 1)) (ac43.body 1) sk43_1 ou43_1)
noncomputable def lg43_1 (v_t71 : List (DMapDone)) (v_t72 : Int) (v_t73 : Int) (v_b0_0 : Int) (v_b0_1 : Int) (v_b0_2 : Int) (v_b0_3 : List (DMapDisk)) (v_b0_4 : List (DMapView)) (v_b0_5 : List (DMapDone)) : Option (Sum (Unit) (Sum (Bool × Unit) (Empty))) := lf43_1 (v_t71, v_t72, v_t73, v_b0_0, v_b0_1, v_b0_2, v_b0_3, v_b0_4, v_b0_5, ())
theorem lg43_1_eq (v_t71 : List (DMapDone)) (v_t72 : Int) (v_t73 : Int) (v_b0_0 : Int) (v_b0_1 : Int) (v_b0_2 : Int) (v_b0_3 : List (DMapDisk)) (v_b0_4 : List (DMapView)) (v_b0_5 : List (DMapDone)) : (lg43_1 v_t71 v_t72 v_t73 v_b0_0 v_b0_1 v_b0_2 v_b0_3 v_b0_4 v_b0_5) = (br (decide (v_t73 < v_t72)) (chk (decide (0 ≤ v_t73 ∧ v_t73 < ((v_t71.length : Nat) : Int))) (let e3 : DMapDone := (v_t71.getD v_t73.toNat ((0 : Int), (0 : Int), (0 : Int), (0 : Int), ())); (chk ((decide (0 ≤ (IntKind.i64.wrap (v_t73 - (1 : Int))) ∧ (IntKind.i64.wrap (v_t73 - (1 : Int))) < ((v_b0_5.length : Nat) : Int))) || (!((!(!(f87 e3.1))) && (decide (v_t73 > (0 : Int)))))) (let e4 : DMapDone := (v_b0_5.getD (IntKind.i64.wrap (v_t73 - (1 : Int))).toNat ((0 : Int), (0 : Int), (0 : Int), (0 : Int), ())); (br (((((!(f87 e3.1)) || ((decide (v_t73 > (0 : Int))) && (decide (e4.1 ≥ e3.1)))) || (!(f53 e3.2.1 (1 : Int) (99999 : Int)))) || (!(f53 e3.2.2.1 (0 : Int) (6 : Int)))) || (!(f53 e3.2.2.2.1 (-1 : Int) (99999 : Int)))) (some (.inr (.inl (false, ())))) (lg43_1 v_t71 v_t72 (IntKind.i64.wrap (v_t73 + (1 : Int))) v_b0_0 v_b0_1 v_b0_2 v_b0_3 v_b0_4 v_b0_5)))))) (some (.inl (())))) :=
  (show lf43_1 (v_t71, v_t72, v_t73, v_b0_0, v_b0_1, v_b0_2, v_b0_3, v_b0_4, v_b0_5, ()) = _ from lfp_eq (fun x => vround_lin _ _ _ _ x) _).trans (by kernel_rfl)
noncomputable def lf43_0 : (List (DMapView)) × Int × Int × Int × Int × Int × (List (DMapDisk)) × (List (DMapView)) × (List (DMapDone)) × Unit → Option (Outs ou43_0) := lfp (vround (tabC T81) an43 (mkL (tabC T81) an43 [] (ac43.body 0)) (ac43.body 0) sk43_0 ou43_0)
noncomputable def lg43_0 (v_t34 : List (DMapView)) (v_t35 : Int) (v_t36 : Int) (v_b0_0 : Int) (v_b0_1 : Int) (v_b0_2 : Int) (v_b0_3 : List (DMapDisk)) (v_b0_4 : List (DMapView)) (v_b0_5 : List (DMapDone)) : Option (Sum (DMapState) (Sum (Bool × Unit) (Empty))) := lf43_0 (v_t34, v_t35, v_t36, v_b0_0, v_b0_1, v_b0_2, v_b0_3, v_b0_4, v_b0_5, ())
theorem lg43_0_eq (v_t34 : List (DMapView)) (v_t35 : Int) (v_t36 : Int) (v_b0_0 : Int) (v_b0_1 : Int) (v_b0_2 : Int) (v_b0_3 : List (DMapDisk)) (v_b0_4 : List (DMapView)) (v_b0_5 : List (DMapDone)) : (lg43_0 v_t34 v_t35 v_t36 v_b0_0 v_b0_1 v_b0_2 v_b0_3 v_b0_4 v_b0_5) = (br (decide (v_t36 < v_t35)) (chk (decide (0 ≤ v_t36 ∧ v_t36 < ((v_t34.length : Nat) : Int))) (let e1 : DMapView := (v_t34.getD v_t36.toNat ((0 : Int), (0 : Int), (0 : Int), ())); (br ((((!(f53 e1.1 (1 : Int) (99999 : Int))) || (!(f53 e1.2.1 (0 : Int) (IntKind.i64.wrap (v_b0_1 - (1 : Int)))))) || (!(f53 e1.2.2.1 (-1 : Int) (IntKind.i64.wrap (v_b0_1 - (1 : Int)))))) || (e1.2.1 == e1.2.2.1)) (some (.inr (.inl (false, ())))) (lg43_0 v_t34 v_t35 (IntKind.i64.wrap (v_t36 + (1 : Int))) v_b0_0 v_b0_1 v_b0_2 v_b0_3 v_b0_4 v_b0_5)))) (some (.inl (v_b0_0, v_b0_1, v_b0_2, v_b0_3, v_b0_4, v_b0_5, ())))) :=
  (show lf43_0 (v_t34, v_t35, v_t36, v_b0_0, v_b0_1, v_b0_2, v_b0_3, v_b0_4, v_b0_5, ()) = _ from lfp_eq (fun x => vround_lin _ _ _ _ x) _).trans (by kernel_rfl)
noncomputable def G43 (a_m0 : Int) (a_m1 : Int) (a_m2 : Int) (a_m3 : List (DMapDisk)) (a_m4 : List (DMapView)) (a_m5 : List (DMapDone)) : Option (Bool × Unit) := F43 (a_m0, a_m1, a_m2, a_m3, a_m4, a_m5, ())
theorem G43_eq (a_m0 : Int) (a_m1 : Int) (a_m2 : Int) (a_m3 : List (DMapDisk)) (a_m4 : List (DMapView)) (a_m5 : List (DMapDone)) : (G43 a_m0 a_m1 a_m2 a_m3 a_m4 a_m5) = (chk ((G81 a_m1 a_m2 a_m3).isSome || (!(!(!(f53 a_m0 (0 : Int) (60 : Int)))))) (br ((((!(f53 a_m0 (0 : Int) (60 : Int))) || (!((G81 a_m1 a_m2 a_m3).getD (false, ())).1)) || (((a_m4.length : Nat) : Int) != (3 : Int))) || (decide (((a_m5.length : Nat) : Int) > (4 : Int)))) (some (false, ())) ((lg43_0 a_m4 ((a_m4.length : Nat) : Int) (0 : Int) a_m0 a_m1 a_m2 a_m3 a_m4 a_m5).bind fun o => match o with | .inl (y2 : DMapState) => ((lg43_1 y2.2.2.2.2.2.1 ((y2.2.2.2.2.2.1.length : Nat) : Int) (0 : Int) y2.1 y2.2.1 y2.2.2.1 y2.2.2.2.1 y2.2.2.2.2.1 y2.2.2.2.2.2.1).bind fun o => match o with | .inl (y5 : Unit) => (some (true, ())) | .inr (.inl (y6 : Bool × Unit)) => (some (y6.1, ()))) | .inr (.inl (y7 : Bool × Unit)) => (some (y7.1, ()))))) := by kernel_rfl
noncomputable def ac22 : ACode := acOf Try.prog 22
theorem gd22 : Good Try.prog (22, ac22, [.tmp 4], 26) := ⟨_, Try.func22, by kernel_rfl, by kernel_rfl, by kernel_rfl, by kernel_rfl⟩
/- laws.eqIntS -/
def sk22_0 : Skel := ⟨mkE 26 [(0, .lst [I]), (1, .lst [I]), (5, .int .i64)], [], []⟩
def ou22_0 : List (Option Nat × Skel) := [(some 0, ⟨mkE 26 [], [], []⟩), (none, ⟨mkE 26 [(4, .bool)], [], []⟩)]
def an22 : List (Nat × An) := []
def S22 : List (Skel × List (Option Nat × Skel)) := [(sk22_0, ou22_0)]
def ps22 : List PK := [⟨none, false, [(.sl [I])]⟩, ⟨none, false, [(.sl [I])]⟩]
def rs22 : List PK := [⟨some .S, false, [.bool]⟩]
noncomputable def F22 := FN (tabC T43) an22 S22 ac22 [.tmp 4] 26 ps22 rs22
noncomputable def T22 : List (FuncId × Ctr) := (22, ⟨true, ps22, rs22, F22⟩) :: T43
theorem hT22 : AllC Try.prog T22 := AllC.fresh hT43 gd22 (by kernel_rfl)
noncomputable def lf22_0 : (List (Int × Unit)) × (List (Int × Unit)) × Int × Unit → Option (Outs ou22_0) := lfp (vround (tabC T43) an22 (mkL (tabC T43) an22 [] (ac22.body 0)) (ac22.body 0) sk22_0 ou22_0)
noncomputable def lg22_0 (v_a : List (Int × Unit)) (v_b : List (Int × Unit)) (v_i : Int) : Option (Sum (Unit) (Sum (Bool × Unit) (Empty))) := lf22_0 (v_a, v_b, v_i, ())
theorem lg22_0_eq (v_a : List (Int × Unit)) (v_b : List (Int × Unit)) (v_i : Int) : (lg22_0 v_a v_b v_i) = (br (decide (v_i < ((v_a.length : Nat) : Int))) (chk (decide (0 ≤ v_i ∧ v_i < ((v_a.length : Nat) : Int))) (chk (decide (0 ≤ v_i ∧ v_i < ((v_b.length : Nat) : Int))) (br ((v_a.getD v_i.toNat ((0 : Int), ())).1 != (v_b.getD v_i.toNat ((0 : Int), ())).1) (some (.inr (.inl (false, ())))) (lg22_0 v_a v_b (IntKind.i64.wrap (v_i + (1 : Int))))))) (some (.inl (())))) :=
  (show lf22_0 (v_a, v_b, v_i, ()) = _ from lfp_eq (fun x => vround_lin _ _ _ _ x) _).trans (by kernel_rfl)
noncomputable def G22 (a_a : List (Int × Unit)) (a_b : List (Int × Unit)) : Option (Bool × Unit) := F22 (a_a, a_b, ())
theorem G22_eq (a_a : List (Int × Unit)) (a_b : List (Int × Unit)) : (G22 a_a a_b) = (br (((a_a.length : Nat) : Int) != ((a_b.length : Nat) : Int)) (some (false, ())) ((lg22_0 a_a a_b (0 : Int)).bind fun o => match o with | .inl (y1 : Unit) => (some (true, ())) | .inr (.inl (y2 : Bool × Unit)) => (some (y2.1, ())))) := by kernel_rfl
noncomputable def ac92 : ACode := acOf Try.prog 92
theorem gd92 : Good Try.prog (92, ac92, [.tmp 4], 41) := ⟨_, Try.func92, by kernel_rfl, by kernel_rfl, by kernel_rfl, by kernel_rfl⟩
/- laws.eqMapDisk -/
def an92 : List (Nat × An) := []
def S92 : List (Skel × List (Option Nat × Skel)) := []
def ps92 : List PK := [⟨none, true, MapDisk⟩, ⟨none, true, MapDisk⟩]
def rs92 : List PK := [⟨some .S, false, [.bool]⟩]
noncomputable def F92 := FN (tabC T22) an92 S92 ac92 [.tmp 4] 41 ps92 rs92
noncomputable def T92 : List (FuncId × Ctr) := (92, ⟨true, ps92, rs92, F92⟩) :: T22
theorem hT92 : AllC Try.prog T92 := AllC.fresh hT22 gd92 (by kernel_rfl)
noncomputable def G92 (a_a0 : Int) (a_a1 : Int) (a_a2 : Int) (a_a3 : Int) (a_a4 : Int) (a_a5 : Int) (a_a6 : List (Int × Unit)) (a_b0 : Int) (a_b1 : Int) (a_b2 : Int) (a_b3 : Int) (a_b4 : Int) (a_b5 : Int) (a_b6 : List (Int × Unit)) : Option (Bool × Unit) := F92 (a_a0, a_a1, a_a2, a_a3, a_a4, a_a5, a_a6, a_b0, a_b1, a_b2, a_b3, a_b4, a_b5, a_b6, ())
theorem G92_eq (a_a0 : Int) (a_a1 : Int) (a_a2 : Int) (a_a3 : Int) (a_a4 : Int) (a_a5 : Int) (a_a6 : List (Int × Unit)) (a_b0 : Int) (a_b1 : Int) (a_b2 : Int) (a_b3 : Int) (a_b4 : Int) (a_b5 : Int) (a_b6 : List (Int × Unit)) : (G92 a_a0 a_a1 a_a2 a_a3 a_a4 a_a5 a_a6 a_b0 a_b1 a_b2 a_b3 a_b4 a_b5 a_b6) = (br (a_a0 != a_b0) (some (false, ())) (br (a_a1 != a_b1) (some (false, ())) (br (a_a2 != a_b2) (some (false, ())) (br (a_a3 != a_b3) (some (false, ())) (br (a_a4 != a_b4) (some (false, ())) (br (a_a5 != a_b5) (some (false, ())) ((G22 a_a6 a_b6).bind fun (y1 : Bool × Unit) => (br (!y1.1) (some (false, ())) (some (true, ())))))))))) := by kernel_rfl
noncomputable def ac62 : ACode := acOf Try.prog 62
theorem gd62 : Good Try.prog (62, ac62, [.tmp 4], 27) := ⟨_, Try.func62, by kernel_rfl, by kernel_rfl, by kernel_rfl, by kernel_rfl⟩
/- laws.eqMapDiskS -/
def sk62_0 : Skel := ⟨mkE 27 [(0, .lst MapDisk), (1, .lst MapDisk), (5, .int .i64)], [], []⟩
def ou62_0 : List (Option Nat × Skel) := [(some 0, ⟨mkE 27 [], [], []⟩), (none, ⟨mkE 27 [(4, .bool)], [], []⟩)]
def an62 : List (Nat × An) := []
def S62 : List (Skel × List (Option Nat × Skel)) := [(sk62_0, ou62_0)]
def ps62 : List PK := [⟨none, false, [(.sl MapDisk)]⟩, ⟨none, false, [(.sl MapDisk)]⟩]
def rs62 : List PK := [⟨some .S, false, [.bool]⟩]
noncomputable def F62 := FN (tabC T92) an62 S62 ac62 [.tmp 4] 27 ps62 rs62
noncomputable def T62 : List (FuncId × Ctr) := (62, ⟨true, ps62, rs62, F62⟩) :: T92
theorem hT62 : AllC Try.prog T62 := AllC.fresh hT92 gd62 (by kernel_rfl)
noncomputable def lf62_0 : (List (DMapDisk)) × (List (DMapDisk)) × Int × Unit → Option (Outs ou62_0) := lfp (vround (tabC T92) an62 (mkL (tabC T92) an62 [] (ac62.body 0)) (ac62.body 0) sk62_0 ou62_0)
noncomputable def lg62_0 (v_a : List (DMapDisk)) (v_b : List (DMapDisk)) (v_i : Int) : Option (Sum (Unit) (Sum (Bool × Unit) (Empty))) := lf62_0 (v_a, v_b, v_i, ())
theorem lg62_0_eq (v_a : List (DMapDisk)) (v_b : List (DMapDisk)) (v_i : Int) : (lg62_0 v_a v_b v_i) = (br (decide (v_i < ((v_a.length : Nat) : Int))) (chk (decide (0 ≤ v_i ∧ v_i < ((v_a.length : Nat) : Int))) (let e1 : DMapDisk := (v_a.getD v_i.toNat ((0 : Int), (0 : Int), (0 : Int), (0 : Int), (0 : Int), (0 : Int), [], ())); (chk (decide (0 ≤ v_i ∧ v_i < ((v_b.length : Nat) : Int))) (let e2 : DMapDisk := (v_b.getD v_i.toNat ((0 : Int), (0 : Int), (0 : Int), (0 : Int), (0 : Int), (0 : Int), [], ())); ((G92 e1.1 e1.2.1 e1.2.2.1 e1.2.2.2.1 e1.2.2.2.2.1 e1.2.2.2.2.2.1 e1.2.2.2.2.2.2.1 e2.1 e2.2.1 e2.2.2.1 e2.2.2.2.1 e2.2.2.2.2.1 e2.2.2.2.2.2.1 e2.2.2.2.2.2.2.1).bind fun (y3 : Bool × Unit) => (br (!y3.1) (some (.inr (.inl (false, ())))) (lg62_0 v_a v_b (IntKind.i64.wrap (v_i + (1 : Int)))))))))) (some (.inl (())))) :=
  (show lf62_0 (v_a, v_b, v_i, ()) = _ from lfp_eq (fun x => vround_lin _ _ _ _ x) _).trans (by kernel_rfl)
noncomputable def G62 (a_a : List (DMapDisk)) (a_b : List (DMapDisk)) : Option (Bool × Unit) := F62 (a_a, a_b, ())
theorem G62_eq (a_a : List (DMapDisk)) (a_b : List (DMapDisk)) : (G62 a_a a_b) = (br (((a_a.length : Nat) : Int) != ((a_b.length : Nat) : Int)) (some (false, ())) ((lg62_0 a_a a_b (0 : Int)).bind fun o => match o with | .inl (y4 : Unit) => (some (true, ())) | .inr (.inl (y5 : Bool × Unit)) => (some (y5.1, ())))) := by kernel_rfl
noncomputable def ac98 : ACode := acOf Try.prog 98
theorem gd98 : Good Try.prog (98, ac98, [.tmp 4], 20) := ⟨_, Try.func98, by kernel_rfl, by kernel_rfl, by kernel_rfl, by kernel_rfl⟩
/- laws.eqMapView -/
def an98 : List (Nat × An) := []
def S98 : List (Skel × List (Option Nat × Skel)) := []
def ps98 : List PK := [⟨none, true, MapView⟩, ⟨none, true, MapView⟩]
def rs98 : List PK := [⟨some .S, false, [.bool]⟩]
noncomputable def F98 := FN (tabC T62) an98 S98 ac98 [.tmp 4] 20 ps98 rs98
noncomputable def T98 : List (FuncId × Ctr) := (98, ⟨true, ps98, rs98, F98⟩) :: T62
theorem hT98 : AllC Try.prog T98 := AllC.fresh hT62 gd98 (by kernel_rfl)
noncomputable def G98 (a_a0 : Int) (a_a1 : Int) (a_a2 : Int) (a_b0 : Int) (a_b1 : Int) (a_b2 : Int) : Option (Bool × Unit) := F98 (a_a0, a_a1, a_a2, a_b0, a_b1, a_b2, ())
theorem G98_eq (a_a0 : Int) (a_a1 : Int) (a_a2 : Int) (a_b0 : Int) (a_b1 : Int) (a_b2 : Int) : (G98 a_a0 a_a1 a_a2 a_b0 a_b1 a_b2) = (br (a_a0 != a_b0) (some (false, ())) (br (a_a1 != a_b1) (some (false, ())) (br (a_a2 != a_b2) (some (false, ())) (some (true, ()))))) := by kernel_rfl
noncomputable def ac69 : ACode := acOf Try.prog 69
theorem gd69 : Good Try.prog (69, ac69, [.tmp 4], 27) := ⟨_, Try.func69, by kernel_rfl, by kernel_rfl, by kernel_rfl, by kernel_rfl⟩
/- laws.eqMapViewS -/
def sk69_0 : Skel := ⟨mkE 27 [(0, .lst MapView), (1, .lst MapView), (5, .int .i64)], [], []⟩
def ou69_0 : List (Option Nat × Skel) := [(some 0, ⟨mkE 27 [], [], []⟩), (none, ⟨mkE 27 [(4, .bool)], [], []⟩)]
def an69 : List (Nat × An) := []
def S69 : List (Skel × List (Option Nat × Skel)) := [(sk69_0, ou69_0)]
def ps69 : List PK := [⟨none, false, [(.sl MapView)]⟩, ⟨none, false, [(.sl MapView)]⟩]
def rs69 : List PK := [⟨some .S, false, [.bool]⟩]
noncomputable def F69 := FN (tabC T98) an69 S69 ac69 [.tmp 4] 27 ps69 rs69
noncomputable def T69 : List (FuncId × Ctr) := (69, ⟨true, ps69, rs69, F69⟩) :: T98
theorem hT69 : AllC Try.prog T69 := AllC.fresh hT98 gd69 (by kernel_rfl)
noncomputable def lf69_0 : (List (DMapView)) × (List (DMapView)) × Int × Unit → Option (Outs ou69_0) := lfp (vround (tabC T98) an69 (mkL (tabC T98) an69 [] (ac69.body 0)) (ac69.body 0) sk69_0 ou69_0)
noncomputable def lg69_0 (v_a : List (DMapView)) (v_b : List (DMapView)) (v_i : Int) : Option (Sum (Unit) (Sum (Bool × Unit) (Empty))) := lf69_0 (v_a, v_b, v_i, ())
theorem lg69_0_eq (v_a : List (DMapView)) (v_b : List (DMapView)) (v_i : Int) : (lg69_0 v_a v_b v_i) = (br (decide (v_i < ((v_a.length : Nat) : Int))) (chk (decide (0 ≤ v_i ∧ v_i < ((v_a.length : Nat) : Int))) (let e1 : DMapView := (v_a.getD v_i.toNat ((0 : Int), (0 : Int), (0 : Int), ())); (chk (decide (0 ≤ v_i ∧ v_i < ((v_b.length : Nat) : Int))) (let e2 : DMapView := (v_b.getD v_i.toNat ((0 : Int), (0 : Int), (0 : Int), ())); ((G98 e1.1 e1.2.1 e1.2.2.1 e2.1 e2.2.1 e2.2.2.1).bind fun (y3 : Bool × Unit) => (br (!y3.1) (some (.inr (.inl (false, ())))) (lg69_0 v_a v_b (IntKind.i64.wrap (v_i + (1 : Int)))))))))) (some (.inl (())))) :=
  (show lf69_0 (v_a, v_b, v_i, ()) = _ from lfp_eq (fun x => vround_lin _ _ _ _ x) _).trans (by kernel_rfl)
noncomputable def G69 (a_a : List (DMapView)) (a_b : List (DMapView)) : Option (Bool × Unit) := F69 (a_a, a_b, ())
theorem G69_eq (a_a : List (DMapView)) (a_b : List (DMapView)) : (G69 a_a a_b) = (br (((a_a.length : Nat) : Int) != ((a_b.length : Nat) : Int)) (some (false, ())) ((lg69_0 a_a a_b (0 : Int)).bind fun o => match o with | .inl (y4 : Unit) => (some (true, ())) | .inr (.inl (y5 : Bool × Unit)) => (some (y5.1, ())))) := by kernel_rfl
noncomputable def ac99 : ACode := acOf Try.prog 99
theorem gd99 : Good Try.prog (99, ac99, [.tmp 4], 25) := ⟨_, Try.func99, by kernel_rfl, by kernel_rfl, by kernel_rfl, by kernel_rfl⟩
/- laws.eqMapDone -/
def an99 : List (Nat × An) := []
def S99 : List (Skel × List (Option Nat × Skel)) := []
def ps99 : List PK := [⟨none, true, MapDone⟩, ⟨none, true, MapDone⟩]
def rs99 : List PK := [⟨some .S, false, [.bool]⟩]
noncomputable def F99 := FN (tabC T69) an99 S99 ac99 [.tmp 4] 25 ps99 rs99
noncomputable def T99 : List (FuncId × Ctr) := (99, ⟨true, ps99, rs99, F99⟩) :: T69
theorem hT99 : AllC Try.prog T99 := AllC.fresh hT69 gd99 (by kernel_rfl)
noncomputable def G99 (a_a0 : Int) (a_a1 : Int) (a_a2 : Int) (a_a3 : Int) (a_b0 : Int) (a_b1 : Int) (a_b2 : Int) (a_b3 : Int) : Option (Bool × Unit) := F99 (a_a0, a_a1, a_a2, a_a3, a_b0, a_b1, a_b2, a_b3, ())
theorem G99_eq (a_a0 : Int) (a_a1 : Int) (a_a2 : Int) (a_a3 : Int) (a_b0 : Int) (a_b1 : Int) (a_b2 : Int) (a_b3 : Int) : (G99 a_a0 a_a1 a_a2 a_a3 a_b0 a_b1 a_b2 a_b3) = (br (a_a0 != a_b0) (some (false, ())) (br (a_a1 != a_b1) (some (false, ())) (br (a_a2 != a_b2) (some (false, ())) (br (a_a3 != a_b3) (some (false, ())) (some (true, ())))))) := by kernel_rfl
noncomputable def ac70 : ACode := acOf Try.prog 70
theorem gd70 : Good Try.prog (70, ac70, [.tmp 4], 27) := ⟨_, Try.func70, by kernel_rfl, by kernel_rfl, by kernel_rfl, by kernel_rfl⟩
/- laws.eqMapDoneS -/
def sk70_0 : Skel := ⟨mkE 27 [(0, .lst MapDone), (1, .lst MapDone), (5, .int .i64)], [], []⟩
def ou70_0 : List (Option Nat × Skel) := [(some 0, ⟨mkE 27 [], [], []⟩), (none, ⟨mkE 27 [(4, .bool)], [], []⟩)]
def an70 : List (Nat × An) := []
def S70 : List (Skel × List (Option Nat × Skel)) := [(sk70_0, ou70_0)]
def ps70 : List PK := [⟨none, false, [(.sl MapDone)]⟩, ⟨none, false, [(.sl MapDone)]⟩]
def rs70 : List PK := [⟨some .S, false, [.bool]⟩]
noncomputable def F70 := FN (tabC T99) an70 S70 ac70 [.tmp 4] 27 ps70 rs70
noncomputable def T70 : List (FuncId × Ctr) := (70, ⟨true, ps70, rs70, F70⟩) :: T99
theorem hT70 : AllC Try.prog T70 := AllC.fresh hT99 gd70 (by kernel_rfl)
noncomputable def lf70_0 : (List (DMapDone)) × (List (DMapDone)) × Int × Unit → Option (Outs ou70_0) := lfp (vround (tabC T99) an70 (mkL (tabC T99) an70 [] (ac70.body 0)) (ac70.body 0) sk70_0 ou70_0)
noncomputable def lg70_0 (v_a : List (DMapDone)) (v_b : List (DMapDone)) (v_i : Int) : Option (Sum (Unit) (Sum (Bool × Unit) (Empty))) := lf70_0 (v_a, v_b, v_i, ())
theorem lg70_0_eq (v_a : List (DMapDone)) (v_b : List (DMapDone)) (v_i : Int) : (lg70_0 v_a v_b v_i) = (br (decide (v_i < ((v_a.length : Nat) : Int))) (chk (decide (0 ≤ v_i ∧ v_i < ((v_a.length : Nat) : Int))) (let e1 : DMapDone := (v_a.getD v_i.toNat ((0 : Int), (0 : Int), (0 : Int), (0 : Int), ())); (chk (decide (0 ≤ v_i ∧ v_i < ((v_b.length : Nat) : Int))) (let e2 : DMapDone := (v_b.getD v_i.toNat ((0 : Int), (0 : Int), (0 : Int), (0 : Int), ())); ((G99 e1.1 e1.2.1 e1.2.2.1 e1.2.2.2.1 e2.1 e2.2.1 e2.2.2.1 e2.2.2.2.1).bind fun (y3 : Bool × Unit) => (br (!y3.1) (some (.inr (.inl (false, ())))) (lg70_0 v_a v_b (IntKind.i64.wrap (v_i + (1 : Int)))))))))) (some (.inl (())))) :=
  (show lf70_0 (v_a, v_b, v_i, ()) = _ from lfp_eq (fun x => vround_lin _ _ _ _ x) _).trans (by kernel_rfl)
noncomputable def G70 (a_a : List (DMapDone)) (a_b : List (DMapDone)) : Option (Bool × Unit) := F70 (a_a, a_b, ())
theorem G70_eq (a_a : List (DMapDone)) (a_b : List (DMapDone)) : (G70 a_a a_b) = (br (((a_a.length : Nat) : Int) != ((a_b.length : Nat) : Int)) (some (false, ())) ((lg70_0 a_a a_b (0 : Int)).bind fun o => match o with | .inl (y4 : Unit) => (some (true, ())) | .inr (.inl (y5 : Bool × Unit)) => (some (y5.1, ())))) := by kernel_rfl
noncomputable def ac33 : ACode := acOf Try.prog 33
theorem gd33 : Good Try.prog (33, ac33, [.tmp 4], 38) := ⟨_, Try.func33, by kernel_rfl, by kernel_rfl, by kernel_rfl, by kernel_rfl⟩
/- laws.eqMapState -/
def an33 : List (Nat × An) := []
def S33 : List (Skel × List (Option Nat × Skel)) := []
def ps33 : List PK := [⟨none, true, MapState⟩, ⟨none, true, MapState⟩]
def rs33 : List PK := [⟨some .S, false, [.bool]⟩]
noncomputable def F33 := FN (tabC T70) an33 S33 ac33 [.tmp 4] 38 ps33 rs33
noncomputable def T33 : List (FuncId × Ctr) := (33, ⟨true, ps33, rs33, F33⟩) :: T70
theorem hT33 : AllC Try.prog T33 := AllC.fresh hT70 gd33 (by kernel_rfl)
noncomputable def G33 (a_a0 : Int) (a_a1 : Int) (a_a2 : Int) (a_a3 : List (DMapDisk)) (a_a4 : List (DMapView)) (a_a5 : List (DMapDone)) (a_b0 : Int) (a_b1 : Int) (a_b2 : Int) (a_b3 : List (DMapDisk)) (a_b4 : List (DMapView)) (a_b5 : List (DMapDone)) : Option (Bool × Unit) := F33 (a_a0, a_a1, a_a2, a_a3, a_a4, a_a5, a_b0, a_b1, a_b2, a_b3, a_b4, a_b5, ())
theorem G33_eq (a_a0 : Int) (a_a1 : Int) (a_a2 : Int) (a_a3 : List (DMapDisk)) (a_a4 : List (DMapView)) (a_a5 : List (DMapDone)) (a_b0 : Int) (a_b1 : Int) (a_b2 : Int) (a_b3 : List (DMapDisk)) (a_b4 : List (DMapView)) (a_b5 : List (DMapDone)) : (G33 a_a0 a_a1 a_a2 a_a3 a_a4 a_a5 a_b0 a_b1 a_b2 a_b3 a_b4 a_b5) = (br (a_a0 != a_b0) (some (false, ())) (br (a_a1 != a_b1) (some (false, ())) (br (a_a2 != a_b2) (some (false, ())) ((G62 a_a3 a_b3).bind fun (y1 : Bool × Unit) => (br (!y1.1) (some (false, ())) ((G69 a_a4 a_b4).bind fun (y2 : Bool × Unit) => (br (!y2.1) (some (false, ())) ((G70 a_a5 a_b5).bind fun (y3 : Bool × Unit) => (br (!y3.1) (some (false, ())) (some (true, ()))))))))))) := by kernel_rfl
noncomputable def ac9 : ACode := acOf Try.prog 9
theorem gd9 : Good Try.prog (9, ac9, [.tmp 2], 27) := ⟨_, Try.func9, by kernel_rfl, by kernel_rfl, by kernel_rfl, by kernel_rfl⟩
/- laws.FnExactMapOk -/
def an9 : List (Nat × An) := []
def S9 : List (Skel × List (Option Nat × Skel)) := []
def ps9 : List PK := [⟨none, true, MapState⟩]
def rs9 : List PK := [⟨some .S, false, [.bool]⟩]
noncomputable def F9 := FN (tabC T33) an9 S9 ac9 [.tmp 2] 27 ps9 rs9
noncomputable def T9 : List (FuncId × Ctr) := (9, ⟨true, ps9, rs9, F9⟩) :: T33
theorem hT9 : AllC Try.prog T9 := AllC.fresh hT33 gd9 (by kernel_rfl)
noncomputable def G9 (a_aM0 : Int) (a_aM1 : Int) (a_aM2 : Int) (a_aM3 : List (DMapDisk)) (a_aM4 : List (DMapView)) (a_aM5 : List (DMapDone)) : Option (Bool × Unit) := F9 (a_aM0, a_aM1, a_aM2, a_aM3, a_aM4, a_aM5, ())
theorem G9_eq (a_aM0 : Int) (a_aM1 : Int) (a_aM2 : Int) (a_aM3 : List (DMapDisk)) (a_aM4 : List (DMapView)) (a_aM5 : List (DMapDone)) : (G9 a_aM0 a_aM1 a_aM2 a_aM3 a_aM4 a_aM5) = ((G40 a_aM0 a_aM1 a_aM2 a_aM3 a_aM4 a_aM5 (1048576 : Int)).bind fun (y1 : Int × Unit) => (br (decide (y1.1 < (0 : Int))) (some (true, ())) ((G42 a_aM0 a_aM1 a_aM2 a_aM3 a_aM4 a_aM5).bind fun (y2 : DMapState) => ((G41 y2.1 y2.2.1 y2.2.2.1 y2.2.2.2.1 y2.2.2.2.2.1 y2.2.2.2.2.2.1).bind fun (y3 : Bool × Unit) => ((G42 a_aM0 a_aM1 a_aM2 a_aM3 a_aM4 a_aM5).bind fun (y4 : DMapState) => ((G43 y4.1 y4.2.1 y4.2.2.1 y4.2.2.2.1 y4.2.2.2.2.1 y4.2.2.2.2.2.1).bind fun (y5 : Bool × Unit) => (br (!(y5.1 == y3.1)) (some (false, ())) ((G42 a_aM0 a_aM1 a_aM2 a_aM3 a_aM4 a_aM5).bind fun (y6 : DMapState) => ((G33 y4.1 y4.2.1 y4.2.2.1 y4.2.2.2.1 y4.2.2.2.2.1 y4.2.2.2.2.2.1 y6.1 y6.2.1 y6.2.2.1 y6.2.2.2.1 y6.2.2.2.2.1 y6.2.2.2.2.2.1).bind fun (y7 : Bool × Unit) => (br (!y7.1) (some (false, ())) (some (true, ())))))))))))) := by kernel_rfl
noncomputable def ac44 : ACode := acOf Try.prog 44
theorem gd44 : Good Try.prog (44, ac44, [.tmp 4, .tmp 5], 23) := ⟨_, Try.func44, by kernel_rfl, by kernel_rfl, by kernel_rfl, by kernel_rfl⟩
/- spec.MapTarget -/
def an44 : List (Nat × An) := []
def S44 : List (Skel × List (Option Nat × Skel)) := []
def ps44 : List PK := [⟨none, true, MapState⟩, ⟨none, false, [I]⟩]
def rs44 : List PK := [⟨some .S, false, [I]⟩, ⟨some .S, false, [I]⟩]
noncomputable def F44 := FN (tabC T9) an44 S44 ac44 [.tmp 4, .tmp 5] 23 ps44 rs44
noncomputable def T44 : List (FuncId × Ctr) := (44, ⟨true, ps44, rs44, F44⟩) :: T9
theorem hT44 : AllC Try.prog T44 := AllC.fresh hT9 gd44 (by kernel_rfl)
noncomputable def G44 (a_m0 : Int) (a_m1 : Int) (a_m2 : Int) (a_m3 : List (DMapDisk)) (a_m4 : List (DMapView)) (a_m5 : List (DMapDone)) (a_r : Int) : Option (Int × Int × Unit) := F44 (a_m0, a_m1, a_m2, a_m3, a_m4, a_m5, a_r, ())
theorem G44_eq (a_m0 : Int) (a_m1 : Int) (a_m2 : Int) (a_m3 : List (DMapDisk)) (a_m4 : List (DMapView)) (a_m5 : List (DMapDone)) (a_r : Int) : (G44 a_m0 a_m1 a_m2 a_m3 a_m4 a_m5 a_r) = ((G41 a_m0 a_m1 a_m2 a_m3 a_m4 a_m5).bind fun (y1 : Bool × Unit) => (br ((!y1.1) || (!(f52 a_r (0 : Int) (2 : Int)))) (some ((0 : Int), (0 : Int), ())) (chk (!(a_m1 == 0)) (chk (!(a_m1 == 0)) (some ((a_r.tmod a_m1), ((IntKind.i64.wrap (a_r + (1 : Int))).tmod a_m1), ())))))) := by kernel_rfl
noncomputable def ac45 : ACode := acOf Try.prog 45
theorem gd45 : Good Try.prog (45, ac45, [.tmp 4, .tmp 5], 23) := ⟨_, Try.func45, by kernel_rfl, by kernel_rfl, by kernel_rfl, by kernel_rfl⟩
/- impl.MapTarget -/
def an45 : List (Nat × An) := []
def S45 : List (Skel × List (Option Nat × Skel)) := []
def ps45 : List PK := [⟨none, true, MapState⟩, ⟨none, false, [I]⟩]
def rs45 : List PK := [⟨some .S, false, [I]⟩, ⟨some .S, false, [I]⟩]
noncomputable def F45 := FN (tabC T44) an45 S45 ac45 [.tmp 4, .tmp 5] 23 ps45 rs45
noncomputable def T45 : List (FuncId × Ctr) := (45, ⟨true, ps45, rs45, F45⟩) :: T44
theorem hT45 : AllC Try.prog T45 := AllC.fresh hT44 gd45 (by kernel_rfl)
noncomputable def G45 (a_m0 : Int) (a_m1 : Int) (a_m2 : Int) (a_m3 : List (DMapDisk)) (a_m4 : List (DMapView)) (a_m5 : List (DMapDone)) (a_r : Int) : Option (Int × Int × Unit) := F45 (a_m0, a_m1, a_m2, a_m3, a_m4, a_m5, a_r, ())
theorem G45_eq (a_m0 : Int) (a_m1 : Int) (a_m2 : Int) (a_m3 : List (DMapDisk)) (a_m4 : List (DMapView)) (a_m5 : List (DMapDone)) (a_r : Int) : (G45 a_m0 a_m1 a_m2 a_m3 a_m4 a_m5 a_r) = ((G43 a_m0 a_m1 a_m2 a_m3 a_m4 a_m5).bind fun (y1 : Bool × Unit) => (br ((!y1.1) || (!(f88 a_r))) (some ((0 : Int), (0 : Int), ())) (chk (!(a_m1 == 0)) (chk (!(a_m1 == 0)) (some ((a_r.tmod a_m1), ((IntKind.i64.wrap (a_r + (1 : Int))).tmod a_m1), ())))))) := by kernel_rfl
noncomputable def ac10 : ACode := acOf Try.prog 10
theorem gd10 : Good Try.prog (10, ac10, [.tmp 4], 44) := ⟨_, Try.func10, by kernel_rfl, by kernel_rfl, by kernel_rfl, by kernel_rfl⟩
/- laws.FnExactMapTarget -/
def an10 : List (Nat × An) := []
def S10 : List (Skel × List (Option Nat × Skel)) := []
def ps10 : List PK := [⟨none, true, MapState⟩, ⟨none, false, [I]⟩]
def rs10 : List PK := [⟨some .S, false, [.bool]⟩]
noncomputable def F10 := FN (tabC T45) an10 S10 ac10 [.tmp 4] 44 ps10 rs10
noncomputable def T10 : List (FuncId × Ctr) := (10, ⟨true, ps10, rs10, F10⟩) :: T45
theorem hT10 : AllC Try.prog T10 := AllC.fresh hT45 gd10 (by kernel_rfl)
noncomputable def G10 (a_aM0 : Int) (a_aM1 : Int) (a_aM2 : Int) (a_aM3 : List (DMapDisk)) (a_aM4 : List (DMapView)) (a_aM5 : List (DMapDone)) (a_aR : Int) : Option (Bool × Unit) := F10 (a_aM0, a_aM1, a_aM2, a_aM3, a_aM4, a_aM5, a_aR, ())
theorem G10_eq (a_aM0 : Int) (a_aM1 : Int) (a_aM2 : Int) (a_aM3 : List (DMapDisk)) (a_aM4 : List (DMapView)) (a_aM5 : List (DMapDone)) (a_aR : Int) : (G10 a_aM0 a_aM1 a_aM2 a_aM3 a_aM4 a_aM5 a_aR) = ((G40 a_aM0 a_aM1 a_aM2 a_aM3 a_aM4 a_aM5 (1048576 : Int)).bind fun (y1 : Int × Unit) => (br (decide (y1.1 < (0 : Int))) (some (true, ())) ((G42 a_aM0 a_aM1 a_aM2 a_aM3 a_aM4 a_aM5).bind fun (y2 : DMapState) => ((G44 y2.1 y2.2.1 y2.2.2.1 y2.2.2.2.1 y2.2.2.2.2.1 y2.2.2.2.2.2.1 a_aR).bind fun (y3 : Int × Int × Unit) => ((G42 a_aM0 a_aM1 a_aM2 a_aM3 a_aM4 a_aM5).bind fun (y4 : DMapState) => ((G45 y4.1 y4.2.1 y4.2.2.1 y4.2.2.2.1 y4.2.2.2.2.1 y4.2.2.2.2.2.1 a_aR).bind fun (y5 : Int × Int × Unit) => (br ((y5.1 != y3.1) || (y5.2.1 != y3.2.1)) (some (false, ())) ((G42 a_aM0 a_aM1 a_aM2 a_aM3 a_aM4 a_aM5).bind fun (y6 : DMapState) => ((G33 y4.1 y4.2.1 y4.2.2.1 y4.2.2.2.1 y4.2.2.2.2.1 y4.2.2.2.2.2.1 y6.1 y6.2.1 y6.2.2.1 y6.2.2.2.1 y6.2.2.2.2.1 y6.2.2.2.2.2.1).bind fun (y7 : Bool × Unit) => (br (!y7.1) (some (false, ())) (some (true, ())))))))))))) := by kernel_rfl
noncomputable def ac46 : ACode := acOf Try.prog 46
theorem gd46 : Good Try.prog (46, ac46, [.tmp 2], 63) := ⟨_, Try.func46, by kernel_rfl, by kernel_rfl, by kernel_rfl, by kernel_rfl⟩
/- spec.MapSettled -/
def sk46_0 : Skel := ⟨mkE 63 [(1, .box 0 0), (3, .int .i64)], [some [.int .i64, .int .i64, .int .i64, .lst MapDisk, .lst MapView, .lst MapDone]], []⟩
def ou46_0 : List (Option Nat × Skel) := [(some 0, ⟨mkE 63 [(1, .box 0 0)], [some [.int .i64, .int .i64, .int .i64, .lst MapDisk, .lst MapView, .lst MapDone]], []⟩), (none, ⟨mkE 63 [(2, .bool)], [], []⟩)]
def sk46_1 : Skel := ⟨mkE 63 [(1, .box 0 0), (7, .int .i64)], [some [.int .i64, .int .i64, .int .i64, .lst MapDisk, .lst MapView, .lst MapDone]], []⟩
def ou46_1 : List (Option Nat × Skel) := [(some 2, ⟨mkE 63 [], [], []⟩), (none, ⟨mkE 63 [(2, .bool)], [], []⟩)]
def an46 : List (Nat × An) := []
def S46 : List (Skel × List (Option Nat × Skel)) := [(sk46_0, ou46_0), (sk46_1, ou46_1)]
def ps46 : List PK := [⟨none, true, MapState⟩]
def rs46 : List PK := [⟨some .S, false, [.bool]⟩]
noncomputable def F46 := FN (tabC T10) an46 S46 ac46 [.tmp 2] 63 ps46 rs46
noncomputable def T46 : List (FuncId × Ctr) := (46, ⟨true, ps46, rs46, F46⟩) :: T10
theorem hT46 : AllC Try.prog T46 := AllC.fresh hT10 gd46 (by kernel_rfl)
noncomputable def lf46_1 : Int × Int × Int × Int × (List (DMapDisk)) × (List (DMapView)) × (List (DMapDone)) × Unit → Option (Outs ou46_1) := lfp (vround (tabC T10) an46 (mkL (tabC T10) an46 [] (ac46.body 1)) (ac46.body 1) sk46_1 ou46_1)
noncomputable def lg46_1 (v_i : Int) (v_b0_0 : Int) (v_b0_1 : Int) (v_b0_2 : Int) (v_b0_3 : List (DMapDisk)) (v_b0_4 : List (DMapView)) (v_b0_5 : List (DMapDone)) : Option (Sum (Unit) (Sum (Bool × Unit) (Empty))) := lf46_1 (v_i, v_b0_0, v_b0_1, v_b0_2, v_b0_3, v_b0_4, v_b0_5, ())
theorem lg46_1_eq (v_i : Int) (v_b0_0 : Int) (v_b0_1 : Int) (v_b0_2 : Int) (v_b0_3 : List (DMapDisk)) (v_b0_4 : List (DMapView)) (v_b0_5 : List (DMapDone)) : (lg46_1 v_i v_b0_0 v_b0_1 v_b0_2 v_b0_3 v_b0_4 v_b0_5) = (br (decide (v_i < ((v_b0_3.length : Nat) : Int))) (chk (decide (0 ≤ v_i ∧ v_i < ((v_b0_3.length : Nat) : Int))) (let e5 : DMapDisk := (v_b0_3.getD v_i.toNat ((0 : Int), (0 : Int), (0 : Int), (0 : Int), (0 : Int), (0 : Int), [], ())); (br (e5.2.2.2.1 != (0 : Int)) (some (.inr (.inl (false, ())))) (lg46_1 (IntKind.i64.wrap (v_i + (1 : Int))) v_b0_0 v_b0_1 v_b0_2 v_b0_3 v_b0_4 v_b0_5)))) (some (.inl (())))) :=
  (show lf46_1 (v_i, v_b0_0, v_b0_1, v_b0_2, v_b0_3, v_b0_4, v_b0_5, ()) = _ from lfp_eq (fun x => vround_lin _ _ _ _ x) _).trans (by kernel_rfl)
noncomputable def lf46_0 : Int × Int × Int × Int × (List (DMapDisk)) × (List (DMapView)) × (List (DMapDone)) × Unit → Option (Outs ou46_0) := lfp (vround (tabC T10) an46 (mkL (tabC T10) an46 [] (ac46.body 0)) (ac46.body 0) sk46_0 ou46_0)
noncomputable def lg46_0 (v_r : Int) (v_b0_0 : Int) (v_b0_1 : Int) (v_b0_2 : Int) (v_b0_3 : List (DMapDisk)) (v_b0_4 : List (DMapView)) (v_b0_5 : List (DMapDone)) : Option (Sum (DMapState) (Sum (Bool × Unit) (Empty))) := lf46_0 (v_r, v_b0_0, v_b0_1, v_b0_2, v_b0_3, v_b0_4, v_b0_5, ())
theorem lg46_0_eq (v_r : Int) (v_b0_0 : Int) (v_b0_1 : Int) (v_b0_2 : Int) (v_b0_3 : List (DMapDisk)) (v_b0_4 : List (DMapView)) (v_b0_5 : List (DMapDone)) : (lg46_0 v_r v_b0_0 v_b0_1 v_b0_2 v_b0_3 v_b0_4 v_b0_5) = (br (decide (v_r < (3 : Int))) ((G44 v_b0_0 v_b0_1 v_b0_2 v_b0_3 v_b0_4 v_b0_5 v_r).bind fun (y2 : Int × Int × Unit) => (chk (decide (0 ≤ v_r ∧ v_r < ((v_b0_4.length : Nat) : Int))) (let e3 : DMapView := (v_b0_4.getD v_r.toNat ((0 : Int), (0 : Int), (0 : Int), ())); (br (!(((e3.2.1 == y2.1) && (e3.2.2.1 == y2.2.1)) || ((e3.2.1 == y2.2.1) && (e3.2.2.1 == y2.1)))) (some (.inr (.inl (false, ())))) (lg46_0 (IntKind.i64.wrap (v_r + (1 : Int))) v_b0_0 v_b0_1 v_b0_2 v_b0_3 v_b0_4 v_b0_5))))) (some (.inl (v_b0_0, v_b0_1, v_b0_2, v_b0_3, v_b0_4, v_b0_5, ())))) :=
  (show lf46_0 (v_r, v_b0_0, v_b0_1, v_b0_2, v_b0_3, v_b0_4, v_b0_5, ()) = _ from lfp_eq (fun x => vround_lin _ _ _ _ x) _).trans (by kernel_rfl)
noncomputable def G46 (a_m0 : Int) (a_m1 : Int) (a_m2 : Int) (a_m3 : List (DMapDisk)) (a_m4 : List (DMapView)) (a_m5 : List (DMapDone)) : Option (Bool × Unit) := F46 (a_m0, a_m1, a_m2, a_m3, a_m4, a_m5, ())
theorem G46_eq (a_m0 : Int) (a_m1 : Int) (a_m2 : Int) (a_m3 : List (DMapDisk)) (a_m4 : List (DMapView)) (a_m5 : List (DMapDone)) : (G46 a_m0 a_m1 a_m2 a_m3 a_m4 a_m5) = ((G41 a_m0 a_m1 a_m2 a_m3 a_m4 a_m5).bind fun (y1 : Bool × Unit) => (br (!y1.1) (some (false, ())) ((lg46_0 (0 : Int) a_m0 a_m1 a_m2 a_m3 a_m4 a_m5).bind fun o => match o with | .inl (y4 : DMapState) => ((lg46_1 (0 : Int) y4.1 y4.2.1 y4.2.2.1 y4.2.2.2.1 y4.2.2.2.2.1 y4.2.2.2.2.2.1).bind fun o => match o with | .inl (y6 : Unit) => (some (true, ())) | .inr (.inl (y7 : Bool × Unit)) => (some (y7.1, ()))) | .inr (.inl (y8 : Bool × Unit)) => (some (y8.1, ()))))) := by kernel_rfl
noncomputable def ac47 : ACode := acOf Try.prog 47
theorem gd47 : Good Try.prog (47, ac47, [.tmp 2], 60) := ⟨_, Try.func47, by kernel_rfl, by kernel_rfl, by kernel_rfl, by kernel_rfl⟩
/- impl.MapSettled -/
def sk47_0 : Skel := ⟨mkE 60 [(1, .box 0 0), (13, .lst MapDisk), (14, .int .i64), (15, .int .i64)], [some [.int .i64, .int .i64, .int .i64, .lst MapDisk, .lst MapView, .lst MapDone]], []⟩
def ou47_0 : List (Option Nat × Skel) := [(some 0, ⟨mkE 60 [(1, .box 0 0)], [some [.int .i64, .int .i64, .int .i64, .lst MapDisk, .lst MapView, .lst MapDone]], []⟩), (none, ⟨mkE 60 [(2, .bool)], [], []⟩)]
def sk47_1 : Skel := ⟨mkE 60 [(1, .box 0 0), (24, .lst MapView), (25, .int .i64), (26, .int .i64)], [some [.int .i64, .int .i64, .int .i64, .lst MapDisk, .lst MapView, .lst MapDone]], []⟩
def ou47_1 : List (Option Nat × Skel) := [(some 2, ⟨mkE 60 [], [], []⟩), (none, ⟨mkE 60 [(2, .bool)], [], []⟩)]
def an47 : List (Nat × An) := []
def S47 : List (Skel × List (Option Nat × Skel)) := [(sk47_0, ou47_0), (sk47_1, ou47_1)]
def ps47 : List PK := [⟨none, true, MapState⟩]
def rs47 : List PK := [⟨some .S, false, [.bool]⟩]
noncomputable def F47 := FN (tabC T46) an47 S47 ac47 [.tmp 2] 60 ps47 rs47
noncomputable def T47 : List (FuncId × Ctr) := (47, ⟨true, ps47, rs47, F47⟩) :: T46
theorem hT47 : AllC Try.prog T47 := AllC.fresh hT46 gd47 (by kernel_rfl)
noncomputable def lf47_1 : (List (DMapView)) × Int × Int × Int × Int × Int × (List (DMapDisk)) × (List (DMapView)) × (List (DMapDone)) × Unit → Option (Outs ou47_1) := lfp (vround (tabC T46) an47 (mkL (tabC T46) an47 [] (ac47.body 1)) (ac47.body 1) sk47_1 ou47_1)
noncomputable def lg47_1 (v_t24 : List (DMapView)) (v_t25 : Int) (v_t26 : Int) (v_b0_0 : Int) (v_b0_1 : Int) (v_b0_2 : Int) (v_b0_3 : List (DMapDisk)) (v_b0_4 : List (DMapView)) (v_b0_5 : List (DMapDone)) : Option (Sum (Unit) (Sum (Bool × Unit) (Empty))) := lf47_1 (v_t24, v_t25, v_t26, v_b0_0, v_b0_1, v_b0_2, v_b0_3, v_b0_4, v_b0_5, ())
theorem lg47_1_eq (v_t24 : List (DMapView)) (v_t25 : Int) (v_t26 : Int) (v_b0_0 : Int) (v_b0_1 : Int) (v_b0_2 : Int) (v_b0_3 : List (DMapDisk)) (v_b0_4 : List (DMapView)) (v_b0_5 : List (DMapDone)) : (lg47_1 v_t24 v_t25 v_t26 v_b0_0 v_b0_1 v_b0_2 v_b0_3 v_b0_4 v_b0_5) = (br (decide (v_t26 < v_t25)) (chk (decide (0 ≤ v_t26 ∧ v_t26 < ((v_t24.length : Nat) : Int))) (let e4 : DMapView := (v_t24.getD v_t26.toNat ((0 : Int), (0 : Int), (0 : Int), ())); ((G45 v_b0_0 v_b0_1 v_b0_2 v_b0_3 v_b0_4 v_b0_5 v_t26).bind fun (y5 : Int × Int × Unit) => (br (((e4.2.1 != y5.1) || (e4.2.2.1 != y5.2.1)) && ((e4.2.1 != y5.2.1) || (e4.2.2.1 != y5.1))) (some (.inr (.inl (false, ())))) (lg47_1 v_t24 v_t25 (IntKind.i64.wrap (v_t26 + (1 : Int))) v_b0_0 v_b0_1 v_b0_2 v_b0_3 v_b0_4 v_b0_5))))) (some (.inl (())))) :=
  (show lf47_1 (v_t24, v_t25, v_t26, v_b0_0, v_b0_1, v_b0_2, v_b0_3, v_b0_4, v_b0_5, ()) = _ from lfp_eq (fun x => vround_lin _ _ _ _ x) _).trans (by kernel_rfl)
noncomputable def lf47_0 : (List (DMapDisk)) × Int × Int × Int × Int × Int × (List (DMapDisk)) × (List (DMapView)) × (List (DMapDone)) × Unit → Option (Outs ou47_0) := lfp (vround (tabC T46) an47 (mkL (tabC T46) an47 [] (ac47.body 0)) (ac47.body 0) sk47_0 ou47_0)
noncomputable def lg47_0 (v_t13 : List (DMapDisk)) (v_t14 : Int) (v_t15 : Int) (v_b0_0 : Int) (v_b0_1 : Int) (v_b0_2 : Int) (v_b0_3 : List (DMapDisk)) (v_b0_4 : List (DMapView)) (v_b0_5 : List (DMapDone)) : Option (Sum (DMapState) (Sum (Bool × Unit) (Empty))) := lf47_0 (v_t13, v_t14, v_t15, v_b0_0, v_b0_1, v_b0_2, v_b0_3, v_b0_4, v_b0_5, ())
theorem lg47_0_eq (v_t13 : List (DMapDisk)) (v_t14 : Int) (v_t15 : Int) (v_b0_0 : Int) (v_b0_1 : Int) (v_b0_2 : Int) (v_b0_3 : List (DMapDisk)) (v_b0_4 : List (DMapView)) (v_b0_5 : List (DMapDone)) : (lg47_0 v_t13 v_t14 v_t15 v_b0_0 v_b0_1 v_b0_2 v_b0_3 v_b0_4 v_b0_5) = (br (decide (v_t15 < v_t14)) (chk (decide (0 ≤ v_t15 ∧ v_t15 < ((v_t13.length : Nat) : Int))) (let e2 : DMapDisk := (v_t13.getD v_t15.toNat ((0 : Int), (0 : Int), (0 : Int), (0 : Int), (0 : Int), (0 : Int), [], ())); (br (e2.2.2.2.1 != (0 : Int)) (some (.inr (.inl (false, ())))) (lg47_0 v_t13 v_t14 (IntKind.i64.wrap (v_t15 + (1 : Int))) v_b0_0 v_b0_1 v_b0_2 v_b0_3 v_b0_4 v_b0_5)))) (some (.inl (v_b0_0, v_b0_1, v_b0_2, v_b0_3, v_b0_4, v_b0_5, ())))) :=
  (show lf47_0 (v_t13, v_t14, v_t15, v_b0_0, v_b0_1, v_b0_2, v_b0_3, v_b0_4, v_b0_5, ()) = _ from lfp_eq (fun x => vround_lin _ _ _ _ x) _).trans (by kernel_rfl)
noncomputable def G47 (a_m0 : Int) (a_m1 : Int) (a_m2 : Int) (a_m3 : List (DMapDisk)) (a_m4 : List (DMapView)) (a_m5 : List (DMapDone)) : Option (Bool × Unit) := F47 (a_m0, a_m1, a_m2, a_m3, a_m4, a_m5, ())
theorem G47_eq (a_m0 : Int) (a_m1 : Int) (a_m2 : Int) (a_m3 : List (DMapDisk)) (a_m4 : List (DMapView)) (a_m5 : List (DMapDone)) : (G47 a_m0 a_m1 a_m2 a_m3 a_m4 a_m5) = ((G43 a_m0 a_m1 a_m2 a_m3 a_m4 a_m5).bind fun (y1 : Bool × Unit) => (br (!y1.1) (some (false, ())) ((lg47_0 a_m3 ((a_m3.length : Nat) : Int) (0 : Int) a_m0 a_m1 a_m2 a_m3 a_m4 a_m5).bind fun o => match o with | .inl (y3 : DMapState) => ((lg47_1 y3.2.2.2.2.1 ((y3.2.2.2.2.1.length : Nat) : Int) (0 : Int) y3.1 y3.2.1 y3.2.2.1 y3.2.2.2.1 y3.2.2.2.2.1 y3.2.2.2.2.2.1).bind fun o => match o with | .inl (y6 : Unit) => (some (true, ())) | .inr (.inl (y7 : Bool × Unit)) => (some (y7.1, ()))) | .inr (.inl (y8 : Bool × Unit)) => (some (y8.1, ()))))) := by kernel_rfl
noncomputable def ac11 : ACode := acOf Try.prog 11
theorem gd11 : Good Try.prog (11, ac11, [.tmp 2], 27) := ⟨_, Try.func11, by kernel_rfl, by kernel_rfl, by kernel_rfl, by kernel_rfl⟩
/- laws.FnExactMapSettled -/
def an11 : List (Nat × An) := []
def S11 : List (Skel × List (Option Nat × Skel)) := []
def ps11 : List PK := [⟨none, true, MapState⟩]
def rs11 : List PK := [⟨some .S, false, [.bool]⟩]
noncomputable def F11 := FN (tabC T47) an11 S11 ac11 [.tmp 2] 27 ps11 rs11
noncomputable def T11 : List (FuncId × Ctr) := (11, ⟨true, ps11, rs11, F11⟩) :: T47
theorem hT11 : AllC Try.prog T11 := AllC.fresh hT47 gd11 (by kernel_rfl)
noncomputable def G11 (a_aM0 : Int) (a_aM1 : Int) (a_aM2 : Int) (a_aM3 : List (DMapDisk)) (a_aM4 : List (DMapView)) (a_aM5 : List (DMapDone)) : Option (Bool × Unit) := F11 (a_aM0, a_aM1, a_aM2, a_aM3, a_aM4, a_aM5, ())
theorem G11_eq (a_aM0 : Int) (a_aM1 : Int) (a_aM2 : Int) (a_aM3 : List (DMapDisk)) (a_aM4 : List (DMapView)) (a_aM5 : List (DMapDone)) : (G11 a_aM0 a_aM1 a_aM2 a_aM3 a_aM4 a_aM5) = ((G40 a_aM0 a_aM1 a_aM2 a_aM3 a_aM4 a_aM5 (1048576 : Int)).bind fun (y1 : Int × Unit) => (br (decide (y1.1 < (0 : Int))) (some (true, ())) ((G42 a_aM0 a_aM1 a_aM2 a_aM3 a_aM4 a_aM5).bind fun (y2 : DMapState) => ((G46 y2.1 y2.2.1 y2.2.2.1 y2.2.2.2.1 y2.2.2.2.2.1 y2.2.2.2.2.2.1).bind fun (y3 : Bool × Unit) => ((G42 a_aM0 a_aM1 a_aM2 a_aM3 a_aM4 a_aM5).bind fun (y4 : DMapState) => ((G47 y4.1 y4.2.1 y4.2.2.1 y4.2.2.2.1 y4.2.2.2.2.1 y4.2.2.2.2.2.1).bind fun (y5 : Bool × Unit) => (br (!(y5.1 == y3.1)) (some (false, ())) ((G42 a_aM0 a_aM1 a_aM2 a_aM3 a_aM4 a_aM5).bind fun (y6 : DMapState) => ((G33 y4.1 y4.2.1 y4.2.2.1 y4.2.2.2.1 y4.2.2.2.2.1 y4.2.2.2.2.2.1 y6.1 y6.2.1 y6.2.2.1 y6.2.2.2.1 y6.2.2.2.2.1 y6.2.2.2.2.2.1).bind fun (y7 : Bool × Unit) => (br (!y7.1) (some (false, ())) (some (true, ())))))))))))) := by kernel_rfl
noncomputable def ac89 : ACode := acOf Try.prog 89
theorem gd89 : Good Try.prog (89, ac89, [.tmp 4], 22) := ⟨_, Try.func89, by kernel_rfl, by kernel_rfl, by kernel_rfl, by kernel_rfl⟩
/- spec.l31Disk -/
def sk89_0 : Skel := ⟨mkE 22 [(1, .int .i64), (2, .box 0 0), (5, .int .i64)], [some [.int .i64, .int .i64, .int .i64, .lst MapDisk, .lst MapView, .lst MapDone]], []⟩
def ou89_0 : List (Option Nat × Skel) := [(some 0, ⟨mkE 22 [], [], []⟩), (none, ⟨mkE 22 [(4, .int .i64)], [], []⟩)]
def an89 : List (Nat × An) := []
def S89 : List (Skel × List (Option Nat × Skel)) := [(sk89_0, ou89_0)]
def ps89 : List PK := [⟨none, true, MapState⟩, ⟨none, false, [I]⟩]
def rs89 : List PK := [⟨some .S, false, [I]⟩]
noncomputable def F89 := FN (tabC T11) an89 S89 ac89 [.tmp 4] 22 ps89 rs89
noncomputable def T89 : List (FuncId × Ctr) := (89, ⟨true, ps89, rs89, F89⟩) :: T11
theorem hT89 : AllC Try.prog T89 := AllC.fresh hT11 gd89 (by kernel_rfl)
noncomputable def lf89_0 : Int × Int × Int × Int × Int × (List (DMapDisk)) × (List (DMapView)) × (List (DMapDone)) × Unit → Option (Outs ou89_0) := lfp (vround (tabC T11) an89 (mkL (tabC T11) an89 [] (ac89.body 0)) (ac89.body 0) sk89_0 ou89_0)
noncomputable def lg89_0 (v_id : Int) (v_i : Int) (v_b0_0 : Int) (v_b0_1 : Int) (v_b0_2 : Int) (v_b0_3 : List (DMapDisk)) (v_b0_4 : List (DMapView)) (v_b0_5 : List (DMapDone)) : Option (Sum (Unit) (Sum (Int × Unit) (Empty))) := lf89_0 (v_id, v_i, v_b0_0, v_b0_1, v_b0_2, v_b0_3, v_b0_4, v_b0_5, ())
theorem lg89_0_eq (v_id : Int) (v_i : Int) (v_b0_0 : Int) (v_b0_1 : Int) (v_b0_2 : Int) (v_b0_3 : List (DMapDisk)) (v_b0_4 : List (DMapView)) (v_b0_5 : List (DMapDone)) : (lg89_0 v_id v_i v_b0_0 v_b0_1 v_b0_2 v_b0_3 v_b0_4 v_b0_5) = (br (decide (v_i < ((v_b0_3.length : Nat) : Int))) (chk (decide (0 ≤ v_i ∧ v_i < ((v_b0_3.length : Nat) : Int))) (let e1 : DMapDisk := (v_b0_3.getD v_i.toNat ((0 : Int), (0 : Int), (0 : Int), (0 : Int), (0 : Int), (0 : Int), [], ())); (br (e1.1 == v_id) (some (.inr (.inl (v_i, ())))) (lg89_0 v_id (IntKind.i64.wrap (v_i + (1 : Int))) v_b0_0 v_b0_1 v_b0_2 v_b0_3 v_b0_4 v_b0_5)))) (some (.inl (())))) :=
  (show lf89_0 (v_id, v_i, v_b0_0, v_b0_1, v_b0_2, v_b0_3, v_b0_4, v_b0_5, ()) = _ from lfp_eq (fun x => vround_lin _ _ _ _ x) _).trans (by kernel_rfl)
noncomputable def G89 (a_m0 : Int) (a_m1 : Int) (a_m2 : Int) (a_m3 : List (DMapDisk)) (a_m4 : List (DMapView)) (a_m5 : List (DMapDone)) (a_id : Int) : Option (Int × Unit) := F89 (a_m0, a_m1, a_m2, a_m3, a_m4, a_m5, a_id, ())
theorem G89_eq (a_m0 : Int) (a_m1 : Int) (a_m2 : Int) (a_m3 : List (DMapDisk)) (a_m4 : List (DMapView)) (a_m5 : List (DMapDone)) (a_id : Int) : (G89 a_m0 a_m1 a_m2 a_m3 a_m4 a_m5 a_id) = ((lg89_0 a_id (0 : Int) a_m0 a_m1 a_m2 a_m3 a_m4 a_m5).bind fun o => match o with | .inl (y2 : Unit) => (some ((-1 : Int), ())) | .inr (.inl (y3 : Int × Unit)) => (some (y3.1, ()))) := by kernel_rfl
noncomputable def ac48 : ACode := acOf Try.prog 48
theorem gd48 : Good Try.prog (48, ac48, [.tmp 10], 51) := ⟨_, Try.func48, by kernel_rfl, by kernel_rfl, by kernel_rfl, by kernel_rfl⟩
/- spec.MapJudge -/
def an48 : List (Nat × An) := []
def S48 : List (Skel × List (Option Nat × Skel)) := []
def ps48 : List PK := [⟨none, true, MapState⟩, ⟨none, false, [I]⟩, ⟨none, false, [I]⟩, ⟨none, false, [I]⟩, ⟨none, false, [.bool]⟩]
def rs48 : List PK := [⟨some .S, false, [I]⟩]
noncomputable def F48 := FN (tabC T89) an48 S48 ac48 [.tmp 10] 51 ps48 rs48
noncomputable def T48 : List (FuncId × Ctr) := (48, ⟨true, ps48, rs48, F48⟩) :: T89
theorem hT48 : AllC Try.prog T48 := AllC.fresh hT89 gd48 (by kernel_rfl)
noncomputable def G48 (a_m0 : Int) (a_m1 : Int) (a_m2 : Int) (a_m3 : List (DMapDisk)) (a_m4 : List (DMapView)) (a_m5 : List (DMapDone)) (a_disk : Int) (a_block : Int) (a_epoch : Int) (a_write : Bool) : Option (Int × Unit) := F48 (a_m0, a_m1, a_m2, a_m3, a_m4, a_m5, a_disk, a_block, a_epoch, a_write, ())
theorem G48_eq (a_m0 : Int) (a_m1 : Int) (a_m2 : Int) (a_m3 : List (DMapDisk)) (a_m4 : List (DMapView)) (a_m5 : List (DMapDone)) (a_disk : Int) (a_block : Int) (a_epoch : Int) (a_write : Bool) : (G48 a_m0 a_m1 a_m2 a_m3 a_m4 a_m5 a_disk a_block a_epoch a_write) = ((G41 a_m0 a_m1 a_m2 a_m3 a_m4 a_m5).bind fun (y1 : Bool × Unit) => (br (!y1.1) (some ((1 : Int), ())) ((G89 a_m0 a_m1 a_m2 a_m3 a_m4 a_m5 a_disk).bind fun (y2 : Int × Unit) => (br (decide (y2.1 < (0 : Int))) (some ((1 : Int), ())) (chk (decide (0 ≤ y2.1 ∧ y2.1 < ((a_m3.length : Nat) : Int))) (let e3 : DMapDisk := (a_m3.getD y2.1.toNat ((0 : Int), (0 : Int), (0 : Int), (0 : Int), (0 : Int), (0 : Int), [], ())); (br (!(f52 a_block (0 : Int) (IntKind.i64.wrap (e3.2.1 - (1 : Int))))) (some ((2 : Int), ())) (chk ((decide (0 ≤ y2.1 ∧ y2.1 < ((a_m3.length : Nat) : Int))) || (!((!a_write) && (a_epoch != (0 : Int))))) (let e4 : DMapDisk := (a_m3.getD y2.1.toNat ((0 : Int), (0 : Int), (0 : Int), (0 : Int), (0 : Int), (0 : Int), [], ())); (br (((!a_write) && (a_epoch != (0 : Int))) && (!(f52 a_epoch (1 : Int) (IntKind.i64.wrap (e4.2.2.1 - (1 : Int)))))) (some ((3 : Int), ())) (some ((0 : Int), ())))))))))))) := by kernel_rfl
noncomputable def ac109 : ACode := acOf Try.prog 109
theorem gd109 : Good Try.prog (109, ac109, [.tmp 4], 20) := ⟨_, Try.func109, by kernel_rfl, by kernel_rfl, by kernel_rfl, by kernel_rfl⟩
/- impl.diskAt -/
def sk109_0 : Skel := ⟨mkE 20 [(1, .int .i64), (7, .lst MapDisk), (8, .int .i64), (9, .int .i64)], [], []⟩
def ou109_0 : List (Option Nat × Skel) := [(some 0, ⟨mkE 20 [], [], []⟩), (none, ⟨mkE 20 [(4, .int .i64)], [], []⟩)]
def an109 : List (Nat × An) := []
def S109 : List (Skel × List (Option Nat × Skel)) := [(sk109_0, ou109_0)]
def ps109 : List PK := [⟨none, false, [(.sl MapDisk)]⟩, ⟨none, false, [I]⟩]
def rs109 : List PK := [⟨some .S, false, [I]⟩]
noncomputable def F109 := FN (tabC T48) an109 S109 ac109 [.tmp 4] 20 ps109 rs109
noncomputable def T109 : List (FuncId × Ctr) := (109, ⟨true, ps109, rs109, F109⟩) :: T48
theorem hT109 : AllC Try.prog T109 := AllC.fresh hT48 gd109 (by kernel_rfl)
noncomputable def lf109_0 : Int × (List (DMapDisk)) × Int × Int × Unit → Option (Outs ou109_0) := lfp (vround (tabC T48) an109 (mkL (tabC T48) an109 [] (ac109.body 0)) (ac109.body 0) sk109_0 ou109_0)
noncomputable def lg109_0 (v_id : Int) (v_t7 : List (DMapDisk)) (v_t8 : Int) (v_t9 : Int) : Option (Sum (Unit) (Sum (Int × Unit) (Empty))) := lf109_0 (v_id, v_t7, v_t8, v_t9, ())
theorem lg109_0_eq (v_id : Int) (v_t7 : List (DMapDisk)) (v_t8 : Int) (v_t9 : Int) : (lg109_0 v_id v_t7 v_t8 v_t9) = (br (decide (v_t9 < v_t8)) (chk (decide (0 ≤ v_t9 ∧ v_t9 < ((v_t7.length : Nat) : Int))) (let e1 : DMapDisk := (v_t7.getD v_t9.toNat ((0 : Int), (0 : Int), (0 : Int), (0 : Int), (0 : Int), (0 : Int), [], ())); (br (e1.1 == v_id) (some (.inr (.inl (v_t9, ())))) (lg109_0 v_id v_t7 v_t8 (IntKind.i64.wrap (v_t9 + (1 : Int))))))) (some (.inl (())))) :=
  (show lf109_0 (v_id, v_t7, v_t8, v_t9, ()) = _ from lfp_eq (fun x => vround_lin _ _ _ _ x) _).trans (by kernel_rfl)
noncomputable def G109 (a_list : List (DMapDisk)) (a_id : Int) : Option (Int × Unit) := F109 (a_list, a_id, ())
theorem G109_eq (a_list : List (DMapDisk)) (a_id : Int) : (G109 a_list a_id) = ((lg109_0 a_id a_list ((a_list.length : Nat) : Int) (0 : Int)).bind fun o => match o with | .inl (y2 : Unit) => (some ((-1 : Int), ())) | .inr (.inl (y3 : Int × Unit)) => (some (y3.1, ()))) := by kernel_rfl
noncomputable def ac90 : ACode := acOf Try.prog 90
theorem gd90 : Good Try.prog (90, ac90, [.tmp 10], 46) := ⟨_, Try.func90, by kernel_rfl, by kernel_rfl, by kernel_rfl, by kernel_rfl⟩
/- impl.judge -/
def an90 : List (Nat × An) := []
def S90 : List (Skel × List (Option Nat × Skel)) := []
def ps90 : List PK := [⟨none, false, [(.sl MapDisk)]⟩, ⟨none, false, [I]⟩, ⟨none, false, [I]⟩, ⟨none, false, [I]⟩, ⟨none, false, [.bool]⟩]
def rs90 : List PK := [⟨some .S, false, [I]⟩]
noncomputable def F90 := FN (tabC T109) an90 S90 ac90 [.tmp 10] 46 ps90 rs90
noncomputable def T90 : List (FuncId × Ctr) := (90, ⟨true, ps90, rs90, F90⟩) :: T109
theorem hT90 : AllC Try.prog T90 := AllC.fresh hT109 gd90 (by kernel_rfl)
noncomputable def G90 (a_list : List (DMapDisk)) (a_disk : Int) (a_block : Int) (a_epoch : Int) (a_write : Bool) : Option (Int × Unit) := F90 (a_list, a_disk, a_block, a_epoch, a_write, ())
theorem G90_eq (a_list : List (DMapDisk)) (a_disk : Int) (a_block : Int) (a_epoch : Int) (a_write : Bool) : (G90 a_list a_disk a_block a_epoch a_write) = ((G109 a_list a_disk).bind fun (y1 : Int × Unit) => (br (decide (y1.1 < (0 : Int))) (some ((1 : Int), ())) (chk (decide (0 ≤ y1.1 ∧ y1.1 < ((a_list.length : Nat) : Int))) (let e2 : DMapDisk := (a_list.getD y1.1.toNat ((0 : Int), (0 : Int), (0 : Int), (0 : Int), (0 : Int), (0 : Int), [], ())); (br (!(f53 a_block (0 : Int) (IntKind.i64.wrap (e2.2.1 - (1 : Int))))) (some ((2 : Int), ())) (chk ((decide (0 ≤ y1.1 ∧ y1.1 < ((a_list.length : Nat) : Int))) || (!((!a_write) && (a_epoch != (0 : Int))))) (let e3 : DMapDisk := (a_list.getD y1.1.toNat ((0 : Int), (0 : Int), (0 : Int), (0 : Int), (0 : Int), (0 : Int), [], ())); (br (((!a_write) && (a_epoch != (0 : Int))) && (!(f53 a_epoch (1 : Int) (IntKind.i64.wrap (e3.2.2.1 - (1 : Int)))))) (some ((3 : Int), ())) (some ((0 : Int), ())))))))))) := by kernel_rfl
noncomputable def ac49 : ACode := acOf Try.prog 49
theorem gd49 : Good Try.prog (49, ac49, [.tmp 10], 21) := ⟨_, Try.func49, by kernel_rfl, by kernel_rfl, by kernel_rfl, by kernel_rfl⟩
/- impl.MapJudge -/
def an49 : List (Nat × An) := []
def S49 : List (Skel × List (Option Nat × Skel)) := []
def ps49 : List PK := [⟨none, true, MapState⟩, ⟨none, false, [I]⟩, ⟨none, false, [I]⟩, ⟨none, false, [I]⟩, ⟨none, false, [.bool]⟩]
def rs49 : List PK := [⟨some .S, false, [I]⟩]
noncomputable def F49 := FN (tabC T90) an49 S49 ac49 [.tmp 10] 21 ps49 rs49
noncomputable def T49 : List (FuncId × Ctr) := (49, ⟨true, ps49, rs49, F49⟩) :: T90
theorem hT49 : AllC Try.prog T49 := AllC.fresh hT90 gd49 (by kernel_rfl)
noncomputable def G49 (a_m0 : Int) (a_m1 : Int) (a_m2 : Int) (a_m3 : List (DMapDisk)) (a_m4 : List (DMapView)) (a_m5 : List (DMapDone)) (a_disk : Int) (a_block : Int) (a_epoch : Int) (a_write : Bool) : Option (Int × Unit) := F49 (a_m0, a_m1, a_m2, a_m3, a_m4, a_m5, a_disk, a_block, a_epoch, a_write, ())
theorem G49_eq (a_m0 : Int) (a_m1 : Int) (a_m2 : Int) (a_m3 : List (DMapDisk)) (a_m4 : List (DMapView)) (a_m5 : List (DMapDone)) (a_disk : Int) (a_block : Int) (a_epoch : Int) (a_write : Bool) : (G49 a_m0 a_m1 a_m2 a_m3 a_m4 a_m5 a_disk a_block a_epoch a_write) = ((G43 a_m0 a_m1 a_m2 a_m3 a_m4 a_m5).bind fun (y1 : Bool × Unit) => (br (!y1.1) (some ((1 : Int), ())) ((G90 a_m3 a_disk a_block a_epoch a_write).bind fun (y2 : Int × Unit) => (some (y2.1, ()))))) := by kernel_rfl
noncomputable def ac12 : ACode := acOf Try.prog 12
theorem gd12 : Good Try.prog (12, ac12, [.tmp 10], 43) := ⟨_, Try.func12, by kernel_rfl, by kernel_rfl, by kernel_rfl, by kernel_rfl⟩
/- laws.FnExactMapJudge -/
def an12 : List (Nat × An) := []
def S12 : List (Skel × List (Option Nat × Skel)) := []
def ps12 : List PK := [⟨none, true, MapState⟩, ⟨none, false, [I]⟩, ⟨none, false, [I]⟩, ⟨none, false, [I]⟩, ⟨none, false, [.bool]⟩]
def rs12 : List PK := [⟨some .S, false, [.bool]⟩]
noncomputable def F12 := FN (tabC T49) an12 S12 ac12 [.tmp 10] 43 ps12 rs12
noncomputable def T12 : List (FuncId × Ctr) := (12, ⟨true, ps12, rs12, F12⟩) :: T49
theorem hT12 : AllC Try.prog T12 := AllC.fresh hT49 gd12 (by kernel_rfl)
noncomputable def G12 (a_aM0 : Int) (a_aM1 : Int) (a_aM2 : Int) (a_aM3 : List (DMapDisk)) (a_aM4 : List (DMapView)) (a_aM5 : List (DMapDone)) (a_aDisk : Int) (a_aBlock : Int) (a_aEpoch : Int) (a_aWrite : Bool) : Option (Bool × Unit) := F12 (a_aM0, a_aM1, a_aM2, a_aM3, a_aM4, a_aM5, a_aDisk, a_aBlock, a_aEpoch, a_aWrite, ())
theorem G12_eq (a_aM0 : Int) (a_aM1 : Int) (a_aM2 : Int) (a_aM3 : List (DMapDisk)) (a_aM4 : List (DMapView)) (a_aM5 : List (DMapDone)) (a_aDisk : Int) (a_aBlock : Int) (a_aEpoch : Int) (a_aWrite : Bool) : (G12 a_aM0 a_aM1 a_aM2 a_aM3 a_aM4 a_aM5 a_aDisk a_aBlock a_aEpoch a_aWrite) = ((G40 a_aM0 a_aM1 a_aM2 a_aM3 a_aM4 a_aM5 (1048576 : Int)).bind fun (y1 : Int × Unit) => (br (decide (y1.1 < (0 : Int))) (some (true, ())) ((G42 a_aM0 a_aM1 a_aM2 a_aM3 a_aM4 a_aM5).bind fun (y2 : DMapState) => ((G48 y2.1 y2.2.1 y2.2.2.1 y2.2.2.2.1 y2.2.2.2.2.1 y2.2.2.2.2.2.1 a_aDisk a_aBlock a_aEpoch a_aWrite).bind fun (y3 : Int × Unit) => ((G42 a_aM0 a_aM1 a_aM2 a_aM3 a_aM4 a_aM5).bind fun (y4 : DMapState) => ((G49 y4.1 y4.2.1 y4.2.2.1 y4.2.2.2.1 y4.2.2.2.2.1 y4.2.2.2.2.2.1 a_aDisk a_aBlock a_aEpoch a_aWrite).bind fun (y5 : Int × Unit) => (br (y5.1 != y3.1) (some (false, ())) ((G42 a_aM0 a_aM1 a_aM2 a_aM3 a_aM4 a_aM5).bind fun (y6 : DMapState) => ((G33 y4.1 y4.2.1 y4.2.2.1 y4.2.2.2.1 y4.2.2.2.2.1 y4.2.2.2.2.2.1 y6.1 y6.2.1 y6.2.2.1 y6.2.2.2.1 y6.2.2.2.2.1 y6.2.2.2.2.2.1).bind fun (y7 : Bool × Unit) => (br (!y7.1) (some (false, ())) (some (true, ())))))))))))) := by kernel_rfl
noncomputable def ac76 : ACode := acOf Try.prog 76
theorem gd76 : Good Try.prog (76, ac76, [.tmp 4], 12) := ⟨_, Try.func76, by kernel_rfl, by kernel_rfl, by kernel_rfl, by kernel_rfl⟩
/- laws.szBlkPieceS -/
def an76 : List (Nat × An) := []
def S76 : List (Skel × List (Option Nat × Skel)) := []
def ps76 : List PK := [⟨none, false, [(.sl MapDone)]⟩, ⟨none, false, [I]⟩]
def rs76 : List PK := [⟨some .S, false, [I]⟩]
noncomputable def F76 := FN (tabC T12) an76 S76 ac76 [.tmp 4] 12 ps76 rs76
noncomputable def T76 : List (FuncId × Ctr) := (76, ⟨true, ps76, rs76, F76⟩) :: T12
theorem hT76 : AllC Try.prog T76 := AllC.fresh hT12 gd76 (by kernel_rfl)
noncomputable def G76 (a_a : List (DMapDone)) (a_left : Int) : Option (Int × Unit) := F76 (a_a, a_left, ())
theorem G76_eq (a_a : List (DMapDone)) (a_left : Int) : (G76 a_a a_left) = (br (decide ((IntKind.i64.wrap (a_left - ((a_a.length : Nat) : Int))) < (0 : Int))) (some ((-1 : Int), ())) (some ((IntKind.i64.wrap (a_left - ((a_a.length : Nat) : Int))), ()))) := by kernel_rfl
noncomputable def ac36 : ACode := acOf Try.prog 36
theorem gd36 : Good Try.prog (36, ac36, [.tmp 4], 18) := ⟨_, Try.func36, by kernel_rfl, by kernel_rfl, by kernel_rfl, by kernel_rfl⟩
/- laws.szHistState -/
def an36 : List (Nat × An) := []
def S36 : List (Skel × List (Option Nat × Skel)) := []
def ps36 : List PK := [⟨none, true, HistState⟩, ⟨none, false, [I]⟩]
def rs36 : List PK := [⟨some .S, false, [I]⟩]
noncomputable def F36 := FN (tabC T76) an36 S36 ac36 [.tmp 4] 18 ps36 rs36
noncomputable def T36 : List (FuncId × Ctr) := (36, ⟨true, ps36, rs36, F36⟩) :: T76
theorem hT36 : AllC Try.prog T36 := AllC.fresh hT76 gd36 (by kernel_rfl)
noncomputable def G36 (a_a0 : Int) (a_a1 : Int) (a_a2 : List (DMapDisk)) (a_a3 : List (DMapDone)) (a_left : Int) : Option (Int × Unit) := F36 (a_a0, a_a1, a_a2, a_a3, a_left, ())
theorem G36_eq (a_a0 : Int) (a_a1 : Int) (a_a2 : List (DMapDisk)) (a_a3 : List (DMapDone)) (a_left : Int) : (G36 a_a0 a_a1 a_a2 a_a3 a_left) = ((G75 a_a2 a_left).bind fun (y1 : Int × Unit) => (br (decide (y1.1 < (0 : Int))) (some ((-1 : Int), ())) ((G76 a_a3 y1.1).bind fun (y2 : Int × Unit) => (br (decide (y2.1 < (0 : Int))) (some ((-1 : Int), ())) (some (y2.1, ())))))) := by kernel_rfl
noncomputable def ac104 : ACode := acOf Try.prog 104
theorem gd104 : Good Try.prog (104, ac104, [.cell 2 true 4], 17) := ⟨_, Try.func104, by kernel_rfl, by kernel_rfl, by kernel_rfl, by kernel_rfl⟩
/- laws.toBlkPiece -/
def an104 : List (Nat × An) := []
def S104 : List (Skel × List (Option Nat × Skel)) := []
def ps104 : List PK := [⟨none, true, MapDone⟩]
def rs104 : List PK := [⟨some .S, true, MapDone⟩]
noncomputable def F104 := FN (tabC T36) an104 S104 ac104 [.cell 2 true 4] 17 ps104 rs104
noncomputable def T104 : List (FuncId × Ctr) := (104, ⟨true, ps104, rs104, F104⟩) :: T36
theorem hT104 : AllC Try.prog T104 := AllC.fresh hT36 gd104 (by kernel_rfl)
noncomputable def G104 (a_a0 : Int) (a_a1 : Int) (a_a2 : Int) (a_a3 : Int) : Option (DMapDone) := F104 (a_a0, a_a1, a_a2, a_a3, ())
def f104 (a_a0 : Int) (a_a1 : Int) (a_a2 : Int) (a_a3 : Int) : DMapDone := (a_a0, a_a1, a_a2, a_a3, ())
theorem G104_eq (a_a0 : Int) (a_a1 : Int) (a_a2 : Int) (a_a3 : Int) : (G104 a_a0 a_a1 a_a2 a_a3) = some (f104 a_a0 a_a1 a_a2 a_a3) := by kernel_rfl
noncomputable def ac80 : ACode := acOf Try.prog 80
theorem gd80 : Good Try.prog (80, ac80, [.tmp 2], 23) := ⟨_, Try.func80, by kernel_rfl, by kernel_rfl, by kernel_rfl, by kernel_rfl⟩
/- laws.toBlkPieceS -/
def sk80_0 : Skel := ⟨mkE 23 [(0, .lst MapDone), (3, .ref 0), (4, .int .i64)], [], [some (.Z, MapDone)]⟩
def ou80_0 : List (Option Nat × Skel) := [(some 0, ⟨mkE 23 [(3, .ref 0)], [], [some (.Z, MapDone)]⟩)]
def an80 : List (Nat × An) := []
def S80 : List (Skel × List (Option Nat × Skel)) := [(sk80_0, ou80_0)]
def ps80 : List PK := [⟨none, false, [(.sl MapDone)]⟩]
def rs80 : List PK := [⟨some .S, false, [(.sl MapDone)]⟩]
noncomputable def F80 := FN (tabC T104) an80 S80 ac80 [.tmp 2] 23 ps80 rs80
noncomputable def T80 : List (FuncId × Ctr) := (80, ⟨true, ps80, rs80, F80⟩) :: T104
theorem hT80 : AllC Try.prog T80 := AllC.fresh hT104 gd80 (by kernel_rfl)
noncomputable def lf80_0 : (List (DMapDone)) × Int × (List (DMapDone)) × Unit → Option (Outs ou80_0) := lfp (vround (tabC T104) an80 (mkL (tabC T104) an80 [] (ac80.body 0)) (ac80.body 0) sk80_0 ou80_0)
noncomputable def lg80_0 (v_a : List (DMapDone)) (v_i : Int) (v_r0 : List (DMapDone)) : Option (Sum ((List (DMapDone)) × Unit) (Empty)) := lf80_0 (v_a, v_i, v_r0, ())
theorem lg80_0_eq (v_a : List (DMapDone)) (v_i : Int) (v_r0 : List (DMapDone)) : (lg80_0 v_a v_i v_r0) = (br (decide (v_i < ((v_a.length : Nat) : Int))) (chk (decide (0 ≤ v_i ∧ v_i < ((v_a.length : Nat) : Int))) (let e1 : DMapDone := (v_a.getD v_i.toNat ((0 : Int), (0 : Int), (0 : Int), (0 : Int), ())); (chk (decide (0 ≤ v_i ∧ v_i < ((v_r0.length : Nat) : Int))) (lg80_0 v_a (IntKind.i64.wrap (v_i + (1 : Int))) (v_r0.set v_i.toNat ((f104 e1.1 e1.2.1 e1.2.2.1 e1.2.2.2.1).1, (f104 e1.1 e1.2.1 e1.2.2.1 e1.2.2.2.1).2.1, (f104 e1.1 e1.2.1 e1.2.2.1 e1.2.2.2.1).2.2.1, (f104 e1.1 e1.2.1 e1.2.2.1 e1.2.2.2.1).2.2.2.1, ())))))) (some (.inl (v_r0, ())))) :=
  (show lf80_0 (v_a, v_i, v_r0, ()) = _ from lfp_eq (fun x => vround_lin _ _ _ _ x) _).trans (by kernel_rfl)
noncomputable def G80 (a_a : List (DMapDone)) : Option ((List (DMapDone)) × Unit) := F80 (a_a, ())
theorem G80_eq (a_a : List (DMapDone)) : (G80 a_a) = (chk (decide (0 ≤ ((a_a.length : Nat) : Int) ∧ ((32 : Nat) : Int) * ((a_a.length : Nat) : Int) ≤ 281474976710656 ∧ ((a_a.length : Nat) : Int) ≤ 281474976710656)) ((lg80_0 a_a (0 : Int) (List.replicate ((a_a.length : Nat) : Int).toNat ((0 : Int), (0 : Int), (0 : Int), (0 : Int), ()))).bind fun o => match o with | .inl (y2 : (List (DMapDone)) × Unit) => (some (y2.1, ())))) := by kernel_rfl
noncomputable def ac38 : ACode := acOf Try.prog 38
theorem gd38 : Good Try.prog (38, ac38, [.cell 2 true 4], 19) := ⟨_, Try.func38, by kernel_rfl, by kernel_rfl, by kernel_rfl, by kernel_rfl⟩
/- laws.toHistState -/
def an38 : List (Nat × An) := [(12, .rows), (16, .rows)]
def S38 : List (Skel × List (Option Nat × Skel)) := []
def ps38 : List PK := [⟨none, true, HistState⟩]
def rs38 : List PK := [⟨some .S, true, HistState⟩]
noncomputable def F38 := FN (tabC T80) an38 S38 ac38 [.cell 2 true 4] 19 ps38 rs38
noncomputable def T38 : List (FuncId × Ctr) := (38, ⟨true, ps38, rs38, F38⟩) :: T80
theorem hT38 : AllC Try.prog T38 := AllC.fresh hT80 gd38 (by kernel_rfl)
noncomputable def G38 (a_a0 : Int) (a_a1 : Int) (a_a2 : List (DMapDisk)) (a_a3 : List (DMapDone)) : Option (DHistState) := F38 (a_a0, a_a1, a_a2, a_a3, ())
theorem G38_eq (a_a0 : Int) (a_a1 : Int) (a_a2 : List (DMapDisk)) (a_a3 : List (DMapDone)) : (G38 a_a0 a_a1 a_a2 a_a3) = ((G79 a_a2).bind fun (y1 : (List (DMapDisk)) × Unit) => ((G80 a_a3).bind fun (y2 : (List (DMapDone)) × Unit) => (some (a_a0, a_a1, y1.1, y2.1, ())))) := by kernel_rfl
noncomputable def ac101 : ACode := acOf Try.prog 101
theorem gd101 : Good Try.prog (101, ac101, [.tmp 8], 29) := ⟨_, Try.func101, by kernel_rfl, by kernel_rfl, by kernel_rfl, by kernel_rfl⟩
/- spec.l3Before -/
def an101 : List (Nat × An) := []
def S101 : List (Skel × List (Option Nat × Skel)) := []
def ps101 : List PK := [⟨none, true, MapDone⟩, ⟨none, false, [I]⟩, ⟨none, false, [I]⟩, ⟨none, false, [I]⟩]
def rs101 : List PK := [⟨some .S, false, [.bool]⟩]
noncomputable def F101 := FN (tabC T38) an101 S101 ac101 [.tmp 8] 29 ps101 rs101
noncomputable def T101 : List (FuncId × Ctr) := (101, ⟨true, ps101, rs101, F101⟩) :: T38
theorem hT101 : AllC Try.prog T101 := AllC.fresh hT38 gd101 (by kernel_rfl)
noncomputable def G101 (a_p0 : Int) (a_p1 : Int) (a_p2 : Int) (a_p3 : Int) (a_disk : Int) (a_block : Int) (a_epoch : Int) : Option (Bool × Unit) := F101 (a_p0, a_p1, a_p2, a_p3, a_disk, a_block, a_epoch, ())
theorem G101_eq (a_p0 : Int) (a_p1 : Int) (a_p2 : Int) (a_p3 : Int) (a_disk : Int) (a_block : Int) (a_epoch : Int) : (G101 a_p0 a_p1 a_p2 a_p3 a_disk a_block a_epoch) = (br (a_p0 != a_disk) (some ((decide (a_p0 < a_disk)), ())) (br (a_p1 != a_block) (some ((decide (a_p1 < a_block)), ())) (some ((decide (a_p2 < a_epoch)), ())))) := by kernel_rfl
noncomputable def ac77 : ACode := acOf Try.prog 77
theorem gd77 : Good Try.prog (77, ac77, [.tmp 2], 57) := ⟨_, Try.func77, by kernel_rfl, by kernel_rfl, by kernel_rfl, by kernel_rfl⟩
/- spec.BlkOk -/
def sk77_0 : Skel := ⟨mkE 57 [(0, .lst MapDone), (3, .int .i64)], [], []⟩
def ou77_0 : List (Option Nat × Skel) := [(some 0, ⟨mkE 57 [], [], []⟩), (none, ⟨mkE 57 [(2, .bool)], [], []⟩)]
def an77 : List (Nat × An) := []
def S77 : List (Skel × List (Option Nat × Skel)) := [(sk77_0, ou77_0)]
def ps77 : List PK := [⟨none, false, [(.sl MapDone)]⟩]
def rs77 : List PK := [⟨some .S, false, [.bool]⟩]
noncomputable def F77 := FN (tabC T101) an77 S77 ac77 [.tmp 2] 57 ps77 rs77
noncomputable def T77 : List (FuncId × Ctr) := (77, ⟨true, ps77, rs77, F77⟩) :: T101
theorem hT77 : AllC Try.prog T77 := AllC.fresh hT101 gd77 (by kernel_rfl)
noncomputable def lf77_0 : (List (DMapDone)) × Int × Unit → Option (Outs ou77_0) := lfp (vround (tabC T101) an77 (mkL (tabC T101) an77 [] (ac77.body 0)) (ac77.body 0) sk77_0 ou77_0)
noncomputable def lg77_0 (v_list : List (DMapDone)) (v_i : Int) : Option (Sum (Unit) (Sum (Bool × Unit) (Empty))) := lf77_0 (v_list, v_i, ())
theorem lg77_0_eq (v_list : List (DMapDone)) (v_i : Int) : (lg77_0 v_list v_i) = (br (decide (v_i < ((v_list.length : Nat) : Int))) (chk (decide (0 ≤ v_i ∧ v_i < ((v_list.length : Nat) : Int))) (let e1 : DMapDone := (v_list.getD v_i.toNat ((0 : Int), (0 : Int), (0 : Int), (0 : Int), ())); (br ((((!(f52 e1.1 (1 : Int) (99999 : Int))) || (!(f52 e1.2.1 (0 : Int) (99999 : Int)))) || (!(f52 e1.2.2.1 (1 : Int) (99999 : Int)))) || (!(f52 e1.2.2.2.1 (0 : Int) (99999 : Int)))) (some (.inr (.inl (false, ())))) (chk ((decide (0 ≤ (IntKind.i64.wrap (v_i - (1 : Int))) ∧ (IntKind.i64.wrap (v_i - (1 : Int))) < ((v_list.length : Nat) : Int))) || (!(decide (v_i > (0 : Int))))) (let e2 : DMapDone := (v_list.getD (IntKind.i64.wrap (v_i - (1 : Int))).toNat ((0 : Int), (0 : Int), (0 : Int), (0 : Int), ())); (chk ((G101 e2.1 e2.2.1 e2.2.2.1 e2.2.2.2.1 e1.1 e1.2.1 e1.2.2.1).isSome || (!(decide (v_i > (0 : Int))))) (br ((decide (v_i > (0 : Int))) && (!((G101 e2.1 e2.2.1 e2.2.2.1 e2.2.2.2.1 e1.1 e1.2.1 e1.2.2.1).getD (false, ())).1)) (some (.inr (.inl (false, ())))) (lg77_0 v_list (IntKind.i64.wrap (v_i + (1 : Int))))))))))) (some (.inl (())))) :=
  (show lf77_0 (v_list, v_i, ()) = _ from lfp_eq (fun x => vround_lin _ _ _ _ x) _).trans (by kernel_rfl)
noncomputable def G77 (a_list : List (DMapDone)) : Option (Bool × Unit) := F77 (a_list, ())
theorem G77_eq (a_list : List (DMapDone)) : (G77 a_list) = (br (decide (((a_list.length : Nat) : Int) > (60 : Int))) (some (false, ())) ((lg77_0 a_list (0 : Int)).bind fun o => match o with | .inl (y3 : Unit) => (some (true, ())) | .inr (.inl (y4 : Bool × Unit)) => (some (y4.1, ())))) := by kernel_rfl
noncomputable def ac37 : ACode := acOf Try.prog 37
theorem gd37 : Good Try.prog (37, ac37, [.tmp 2], 72) := ⟨_, Try.func37, by kernel_rfl, by kernel_rfl, by kernel_rfl, by kernel_rfl⟩
/- spec.HistStateOk -/
def sk37_0 : Skel := ⟨mkE 72 [(1, .box 0 0), (3, .int .i64)], [some [.int .i64, .int .i64, .lst MapDisk, .lst MapDone]], []⟩
def ou37_0 : List (Option Nat × Skel) := [(some 0, ⟨mkE 72 [], [], []⟩), (none, ⟨mkE 72 [(2, .bool)], [], []⟩)]
def an37 : List (Nat × An) := []
def S37 : List (Skel × List (Option Nat × Skel)) := [(sk37_0, ou37_0)]
def ps37 : List PK := [⟨none, true, HistState⟩]
def rs37 : List PK := [⟨some .S, false, [.bool]⟩]
noncomputable def F37 := FN (tabC T77) an37 S37 ac37 [.tmp 2] 72 ps37 rs37
noncomputable def T37 : List (FuncId × Ctr) := (37, ⟨true, ps37, rs37, F37⟩) :: T77
theorem hT37 : AllC Try.prog T37 := AllC.fresh hT77 gd37 (by kernel_rfl)
noncomputable def lf37_0 : Int × Int × Int × (List (DMapDisk)) × (List (DMapDone)) × Unit → Option (Outs ou37_0) := lfp (vround (tabC T77) an37 (mkL (tabC T77) an37 [] (ac37.body 0)) (ac37.body 0) sk37_0 ou37_0)
noncomputable def lg37_0 (v_i : Int) (v_b0_0 : Int) (v_b0_1 : Int) (v_b0_2 : List (DMapDisk)) (v_b0_3 : List (DMapDone)) : Option (Sum (Unit) (Sum (Bool × Unit) (Empty))) := lf37_0 (v_i, v_b0_0, v_b0_1, v_b0_2, v_b0_3, ())
theorem lg37_0_eq (v_i : Int) (v_b0_0 : Int) (v_b0_1 : Int) (v_b0_2 : List (DMapDisk)) (v_b0_3 : List (DMapDone)) : (lg37_0 v_i v_b0_0 v_b0_1 v_b0_2 v_b0_3) = (br (decide (v_i < ((v_b0_2.length : Nat) : Int))) (chk (decide (0 ≤ v_i ∧ v_i < ((v_b0_2.length : Nat) : Int))) (let e1 : DMapDisk := (v_b0_2.getD v_i.toNat ((0 : Int), (0 : Int), (0 : Int), (0 : Int), (0 : Int), (0 : Int), [], ())); (chk ((decide (0 ≤ v_i ∧ v_i < ((v_b0_2.length : Nat) : Int))) || (!(!(e1.2.2.2.1 != (0 : Int))))) (let e2 : DMapDisk := (v_b0_2.getD v_i.toNat ((0 : Int), (0 : Int), (0 : Int), (0 : Int), (0 : Int), (0 : Int), [], ())); (chk ((G78 (0 : Int) (0 : Int) v_b0_0 [] [] [] e2.1 e2.2.1 e2.2.2.1 e2.2.2.2.1 e2.2.2.2.2.1 e2.2.2.2.2.2.1 e2.2.2.2.2.2.2.1).isSome || (!(!(e1.2.2.2.1 != (0 : Int))))) (chk ((decide (0 ≤ (IntKind.i64.wrap (v_i - (1 : Int))) ∧ (IntKind.i64.wrap (v_i - (1 : Int))) < ((v_b0_2.length : Nat) : Int))) || (!((!((e1.2.2.2.1 != (0 : Int)) || (!((G78 (0 : Int) (0 : Int) v_b0_0 [] [] [] e2.1 e2.2.1 e2.2.2.1 e2.2.2.2.1 e2.2.2.2.2.1 e2.2.2.2.2.2.1 e2.2.2.2.2.2.2.1).getD (false, ())).1))) && (decide (v_i > (0 : Int)))))) (let e3 : DMapDisk := (v_b0_2.getD (IntKind.i64.wrap (v_i - (1 : Int))).toNat ((0 : Int), (0 : Int), (0 : Int), (0 : Int), (0 : Int), (0 : Int), [], ())); (chk ((decide (0 ≤ v_i ∧ v_i < ((v_b0_2.length : Nat) : Int))) || (!((!((e1.2.2.2.1 != (0 : Int)) || (!((G78 (0 : Int) (0 : Int) v_b0_0 [] [] [] e2.1 e2.2.1 e2.2.2.1 e2.2.2.2.1 e2.2.2.2.2.1 e2.2.2.2.2.2.1 e2.2.2.2.2.2.2.1).getD (false, ())).1))) && (decide (v_i > (0 : Int)))))) (let e4 : DMapDisk := (v_b0_2.getD v_i.toNat ((0 : Int), (0 : Int), (0 : Int), (0 : Int), (0 : Int), (0 : Int), [], ())); (br (((e1.2.2.2.1 != (0 : Int)) || (!((G78 (0 : Int) (0 : Int) v_b0_0 [] [] [] e2.1 e2.2.1 e2.2.2.1 e2.2.2.2.1 e2.2.2.2.2.1 e2.2.2.2.2.2.1 e2.2.2.2.2.2.2.1).getD (false, ())).1)) || ((decide (v_i > (0 : Int))) && (decide (e3.1 ≥ e4.1)))) (some (.inr (.inl (false, ())))) (lg37_0 (IntKind.i64.wrap (v_i + (1 : Int))) v_b0_0 v_b0_1 v_b0_2 v_b0_3))))))))))) (some (.inl (())))) :=
  (show lf37_0 (v_i, v_b0_0, v_b0_1, v_b0_2, v_b0_3, ()) = _ from lfp_eq (fun x => vround_lin _ _ _ _ x) _).trans (by kernel_rfl)
noncomputable def G37 (a_s0 : Int) (a_s1 : Int) (a_s2 : List (DMapDisk)) (a_s3 : List (DMapDone)) : Option (Bool × Unit) := F37 (a_s0, a_s1, a_s2, a_s3, ())
theorem G37_eq (a_s0 : Int) (a_s1 : Int) (a_s2 : List (DMapDisk)) (a_s3 : List (DMapDone)) : (G37 a_s0 a_s1 a_s2 a_s3) = (chk ((G77 a_s3).isSome || (!(!(((!(f52 a_s0 (1 : Int) (5 : Int))) || (!(f52 a_s1 (3 : Int) (5 : Int)))) || (decide (((a_s2.length : Nat) : Int) > (4 : Int))))))) (br ((((!(f52 a_s0 (1 : Int) (5 : Int))) || (!(f52 a_s1 (3 : Int) (5 : Int)))) || (decide (((a_s2.length : Nat) : Int) > (4 : Int)))) || (!((G77 a_s3).getD (false, ())).1)) (some (false, ())) ((lg37_0 (0 : Int) a_s0 a_s1 a_s2 a_s3).bind fun o => match o with | .inl (y5 : Unit) => (some (true, ())) | .inr (.inl (y6 : Bool × Unit)) => (some (y6.1, ()))))) := by kernel_rfl
noncomputable def ac106 : ACode := acOf Try.prog 106
theorem gd106 : Good Try.prog (106, ac106, [.tmp 4], 39) := ⟨_, Try.func106, by kernel_rfl, by kernel_rfl, by kernel_rfl, by kernel_rfl⟩
/- impl.pieceWay -/
def sk106_0 : Skel := ⟨mkE 39 [(22, .ref 0), (23, .int .i64), (24, .int .i64)], [], [some (.Z, [I, I])]⟩
def ou106_0 : List (Option Nat × Skel) := [(some 0, ⟨mkE 39 [], [], []⟩), (none, ⟨mkE 39 [(4, .int .i64)], [], []⟩)]
def an106 : List (Nat × An) := []
def S106 : List (Skel × List (Option Nat × Skel)) := [(sk106_0, ou106_0)]
def ps106 : List PK := [⟨none, true, MapDone⟩, ⟨none, true, MapDone⟩]
def rs106 : List PK := [⟨some .S, false, [I]⟩]
noncomputable def F106 := FN (tabC T37) an106 S106 ac106 [.tmp 4] 39 ps106 rs106
noncomputable def T106 : List (FuncId × Ctr) := (106, ⟨true, ps106, rs106, F106⟩) :: T37
theorem hT106 : AllC Try.prog T106 := AllC.fresh hT37 gd106 (by kernel_rfl)
noncomputable def lf106_0 : Int × Int × (List (Int × Int × Unit)) × Unit → Option (Outs ou106_0) := lfp (vround (tabC T37) an106 (mkL (tabC T37) an106 [] (ac106.body 0)) (ac106.body 0) sk106_0 ou106_0)
noncomputable def lg106_0 (v_t23 : Int) (v_t24 : Int) (v_r0 : List (Int × Int × Unit)) : Option (Sum (Unit) (Sum (Int × Unit) (Empty))) := lf106_0 (v_t23, v_t24, v_r0, ())
theorem lg106_0_eq (v_t23 : Int) (v_t24 : Int) (v_r0 : List (Int × Int × Unit)) : (lg106_0 v_t23 v_t24 v_r0) = (br (decide (v_t24 < v_t23)) (chk (decide (0 ≤ v_t24 ∧ v_t24 < ((v_r0.length : Nat) : Int))) (let e1 : Int × Int × Unit := (v_r0.getD v_t24.toNat ((0 : Int), (0 : Int), ())); (br (decide (e1.1 < e1.2.1)) (some (.inr (.inl ((-1 : Int), ())))) (br (decide (e1.1 > e1.2.1)) (some (.inr (.inl ((1 : Int), ())))) (lg106_0 v_t23 (IntKind.i64.wrap (v_t24 + (1 : Int))) v_r0))))) (some (.inl (())))) :=
  (show lf106_0 (v_t23, v_t24, v_r0, ()) = _ from lfp_eq (fun x => vround_lin _ _ _ _ x) _).trans (by kernel_rfl)
noncomputable def G106 (a_a0 : Int) (a_a1 : Int) (a_a2 : Int) (a_a3 : Int) (a_b0 : Int) (a_b1 : Int) (a_b2 : Int) (a_b3 : Int) : Option (Int × Unit) := F106 (a_a0, a_a1, a_a2, a_a3, a_b0, a_b1, a_b2, a_b3, ())
theorem G106_eq (a_a0 : Int) (a_a1 : Int) (a_a2 : Int) (a_a3 : Int) (a_b0 : Int) (a_b1 : Int) (a_b2 : Int) (a_b3 : Int) : (G106 a_a0 a_a1 a_a2 a_a3 a_b0 a_b1 a_b2 a_b3) = ((lg106_0 (((3) : Nat) : Int) (0 : Int) [(a_a0, a_b0, ()), (a_a1, a_b1, ()), (a_a2, a_b2, ())]).bind fun o => match o with | .inl (y2 : Unit) => (some ((0 : Int), ())) | .inr (.inl (y3 : Int × Unit)) => (some (y3.1, ()))) := by kernel_rfl
noncomputable def ac82 : ACode := acOf Try.prog 82
theorem gd82 : Good Try.prog (82, ac82, [.tmp 2], 52) := ⟨_, Try.func82, by kernel_rfl, by kernel_rfl, by kernel_rfl, by kernel_rfl⟩
/- impl.BlkOk -/
def sk82_0 : Skel := ⟨mkE 52 [(0, .lst MapDone), (5, .lst MapDone), (6, .int .i64), (7, .int .i64)], [], []⟩
def ou82_0 : List (Option Nat × Skel) := [(some 0, ⟨mkE 52 [(0, .lst MapDone)], [], []⟩), (none, ⟨mkE 52 [(2, .bool)], [], []⟩)]
def an82 : List (Nat × An) := []
def S82 : List (Skel × List (Option Nat × Skel)) := [(sk82_0, ou82_0)]
def ps82 : List PK := [⟨none, false, [(.sl MapDone)]⟩]
def rs82 : List PK := [⟨some .S, false, [.bool]⟩]
noncomputable def F82 := FN (tabC T106) an82 S82 ac82 [.tmp 2] 52 ps82 rs82
noncomputable def T82 : List (FuncId × Ctr) := (82, ⟨true, ps82, rs82, F82⟩) :: T106
theorem hT82 : AllC Try.prog T82 := AllC.fresh hT106 gd82 (by kernel_rfl)
noncomputable def lf82_0 : (List (DMapDone)) × (List (DMapDone)) × Int × Int × Unit → Option (Outs ou82_0) := lfp (vround (tabC T106) an82 (mkL (tabC T106) an82 [] (ac82.body 0)) (ac82.body 0) sk82_0 ou82_0)
noncomputable def lg82_0 (v_list : List (DMapDone)) (v_t5 : List (DMapDone)) (v_t6 : Int) (v_t7 : Int) : Option (Sum ((List (DMapDone)) × Unit) (Sum (Bool × Unit) (Empty))) := lf82_0 (v_list, v_t5, v_t6, v_t7, ())
theorem lg82_0_eq (v_list : List (DMapDone)) (v_t5 : List (DMapDone)) (v_t6 : Int) (v_t7 : Int) : (lg82_0 v_list v_t5 v_t6 v_t7) = (br (decide (v_t7 < v_t6)) (chk (decide (0 ≤ v_t7 ∧ v_t7 < ((v_t5.length : Nat) : Int))) (let e1 : DMapDone := (v_t5.getD v_t7.toNat ((0 : Int), (0 : Int), (0 : Int), (0 : Int), ())); (chk ((decide (0 ≤ (IntKind.i64.wrap (v_t7 - (1 : Int))) ∧ (IntKind.i64.wrap (v_t7 - (1 : Int))) < ((v_list.length : Nat) : Int))) || (!((!((((!(f53 e1.1 (1 : Int) (99999 : Int))) || (!(f53 e1.2.2.1 (1 : Int) (99999 : Int)))) || (!(f53 e1.2.1 (0 : Int) (99999 : Int)))) || (!(f53 e1.2.2.2.1 (0 : Int) (99999 : Int))))) && (decide (v_t7 > (0 : Int)))))) (let e2 : DMapDone := (v_list.getD (IntKind.i64.wrap (v_t7 - (1 : Int))).toNat ((0 : Int), (0 : Int), (0 : Int), (0 : Int), ())); (chk ((G106 e2.1 e2.2.1 e2.2.2.1 e2.2.2.2.1 e1.1 e1.2.1 e1.2.2.1 e1.2.2.2.1).isSome || (!((!((((!(f53 e1.1 (1 : Int) (99999 : Int))) || (!(f53 e1.2.2.1 (1 : Int) (99999 : Int)))) || (!(f53 e1.2.1 (0 : Int) (99999 : Int)))) || (!(f53 e1.2.2.2.1 (0 : Int) (99999 : Int))))) && (decide (v_t7 > (0 : Int)))))) (br (((((!(f53 e1.1 (1 : Int) (99999 : Int))) || (!(f53 e1.2.2.1 (1 : Int) (99999 : Int)))) || (!(f53 e1.2.1 (0 : Int) (99999 : Int)))) || (!(f53 e1.2.2.2.1 (0 : Int) (99999 : Int)))) || ((decide (v_t7 > (0 : Int))) && (decide (((G106 e2.1 e2.2.1 e2.2.2.1 e2.2.2.2.1 e1.1 e1.2.1 e1.2.2.1 e1.2.2.2.1).getD ((0 : Int), ())).1 ≥ (0 : Int))))) (some (.inr (.inl (false, ())))) (lg82_0 v_list v_t5 v_t6 (IntKind.i64.wrap (v_t7 + (1 : Int)))))))))) (some (.inl (v_list, ())))) :=
  (show lf82_0 (v_list, v_t5, v_t6, v_t7, ()) = _ from lfp_eq (fun x => vround_lin _ _ _ _ x) _).trans (by kernel_rfl)
noncomputable def G82 (a_list : List (DMapDone)) : Option (Bool × Unit) := F82 (a_list, ())
theorem G82_eq (a_list : List (DMapDone)) : (G82 a_list) = ((lg82_0 a_list a_list ((a_list.length : Nat) : Int) (0 : Int)).bind fun o => match o with | .inl (y3 : (List (DMapDone)) × Unit) => (some ((decide (((y3.1.length : Nat) : Int) ≤ (60 : Int))), ())) | .inr (.inl (y4 : Bool × Unit)) => (some (y4.1, ()))) := by kernel_rfl
noncomputable def ac39 : ACode := acOf Try.prog 39
theorem gd39 : Good Try.prog (39, ac39, [.tmp 2], 28) := ⟨_, Try.func39, by kernel_rfl, by kernel_rfl, by kernel_rfl, by kernel_rfl⟩
/- impl.HistStateOk -/
def sk39_0 : Skel := ⟨mkE 28 [(1, .box 0 0), (6, .lst MapDisk), (7, .int .i64), (8, .int .i64)], [some [.int .i64, .int .i64, .lst MapDisk, .lst MapDone]], []⟩
def ou39_0 : List (Option Nat × Skel) := [(some 0, ⟨mkE 28 [(1, .box 0 0)], [some [.int .i64, .int .i64, .lst MapDisk, .lst MapDone]], []⟩), (none, ⟨mkE 28 [(2, .bool)], [], []⟩)]
def an39 : List (Nat × An) := []
def S39 : List (Skel × List (Option Nat × Skel)) := [(sk39_0, ou39_0)]
def ps39 : List PK := [⟨none, true, HistState⟩]
def rs39 : List PK := [⟨some .S, false, [.bool]⟩]
noncomputable def F39 := FN (tabC T82) an39 S39 ac39 [.tmp 2] 28 ps39 rs39
noncomputable def T39 : List (FuncId × Ctr) := (39, ⟨true, ps39, rs39, F39⟩) :: T82
theorem hT39 : AllC Try.prog T39 := AllC.fresh hT82 gd39 (by kernel_rfl)
noncomputable def lf39_0 : (List (DMapDisk)) × Int × Int × Int × Int × (List (DMapDisk)) × (List (DMapDone)) × Unit → Option (Outs ou39_0) := lfp (vround (tabC T82) an39 (mkL (tabC T82) an39 [] (ac39.body 0)) (ac39.body 0) sk39_0 ou39_0)
noncomputable def lg39_0 (v_t6 : List (DMapDisk)) (v_t7 : Int) (v_t8 : Int) (v_b0_0 : Int) (v_b0_1 : Int) (v_b0_2 : List (DMapDisk)) (v_b0_3 : List (DMapDone)) : Option (Sum (DHistState) (Sum (Bool × Unit) (Empty))) := lf39_0 (v_t6, v_t7, v_t8, v_b0_0, v_b0_1, v_b0_2, v_b0_3, ())
theorem lg39_0_eq (v_t6 : List (DMapDisk)) (v_t7 : Int) (v_t8 : Int) (v_b0_0 : Int) (v_b0_1 : Int) (v_b0_2 : List (DMapDisk)) (v_b0_3 : List (DMapDone)) : (lg39_0 v_t6 v_t7 v_t8 v_b0_0 v_b0_1 v_b0_2 v_b0_3) = (br (decide (v_t8 < v_t7)) (chk (decide (0 ≤ v_t8 ∧ v_t8 < ((v_t6.length : Nat) : Int))) (let e1 : DMapDisk := (v_t6.getD v_t8.toNat ((0 : Int), (0 : Int), (0 : Int), (0 : Int), (0 : Int), (0 : Int), [], ())); (br (e1.2.2.2.1 != (0 : Int)) (some (.inr (.inl (false, ())))) (lg39_0 v_t6 v_t7 (IntKind.i64.wrap (v_t8 + (1 : Int))) v_b0_0 v_b0_1 v_b0_2 v_b0_3)))) (some (.inl (v_b0_0, v_b0_1, v_b0_2, v_b0_3, ())))) :=
  (show lf39_0 (v_t6, v_t7, v_t8, v_b0_0, v_b0_1, v_b0_2, v_b0_3, ()) = _ from lfp_eq (fun x => vround_lin _ _ _ _ x) _).trans (by kernel_rfl)
noncomputable def G39 (a_s0 : Int) (a_s1 : Int) (a_s2 : List (DMapDisk)) (a_s3 : List (DMapDone)) : Option (Bool × Unit) := F39 (a_s0, a_s1, a_s2, a_s3, ())
theorem G39_eq (a_s0 : Int) (a_s1 : Int) (a_s2 : List (DMapDisk)) (a_s3 : List (DMapDone)) : (G39 a_s0 a_s1 a_s2 a_s3) = ((lg39_0 a_s2 ((a_s2.length : Nat) : Int) (0 : Int) a_s0 a_s1 a_s2 a_s3).bind fun o => match o with | .inl (y2 : DHistState) => ((G81 y2.2.1 y2.1 y2.2.2.1).bind fun (y3 : Bool × Unit) => (chk ((G82 y2.2.2.2.1).isSome || (!y3.1)) (some ((y3.1 && ((G82 y2.2.2.2.1).getD (false, ())).1), ())))) | .inr (.inl (y4 : Bool × Unit)) => (some (y4.1, ()))) := by kernel_rfl
noncomputable def ac93 : ACode := acOf Try.prog 93
theorem gd93 : Good Try.prog (93, ac93, [.tmp 4], 25) := ⟨_, Try.func93, by kernel_rfl, by kernel_rfl, by kernel_rfl, by kernel_rfl⟩
/- laws.eqBlkPiece -/
def an93 : List (Nat × An) := []
def S93 : List (Skel × List (Option Nat × Skel)) := []
def ps93 : List PK := [⟨none, true, MapDone⟩, ⟨none, true, MapDone⟩]
def rs93 : List PK := [⟨some .S, false, [.bool]⟩]
noncomputable def F93 := FN (tabC T39) an93 S93 ac93 [.tmp 4] 25 ps93 rs93
noncomputable def T93 : List (FuncId × Ctr) := (93, ⟨true, ps93, rs93, F93⟩) :: T39
theorem hT93 : AllC Try.prog T93 := AllC.fresh hT39 gd93 (by kernel_rfl)
noncomputable def G93 (a_a0 : Int) (a_a1 : Int) (a_a2 : Int) (a_a3 : Int) (a_b0 : Int) (a_b1 : Int) (a_b2 : Int) (a_b3 : Int) : Option (Bool × Unit) := F93 (a_a0, a_a1, a_a2, a_a3, a_b0, a_b1, a_b2, a_b3, ())
theorem G93_eq (a_a0 : Int) (a_a1 : Int) (a_a2 : Int) (a_a3 : Int) (a_b0 : Int) (a_b1 : Int) (a_b2 : Int) (a_b3 : Int) : (G93 a_a0 a_a1 a_a2 a_a3 a_b0 a_b1 a_b2 a_b3) = (br (a_a0 != a_b0) (some (false, ())) (br (a_a1 != a_b1) (some (false, ())) (br (a_a2 != a_b2) (some (false, ())) (br (a_a3 != a_b3) (some (false, ())) (some (true, ())))))) := by kernel_rfl
noncomputable def ac63 : ACode := acOf Try.prog 63
theorem gd63 : Good Try.prog (63, ac63, [.tmp 4], 27) := ⟨_, Try.func63, by kernel_rfl, by kernel_rfl, by kernel_rfl, by kernel_rfl⟩
/- laws.eqBlkPieceS -/
def sk63_0 : Skel := ⟨mkE 27 [(0, .lst MapDone), (1, .lst MapDone), (5, .int .i64)], [], []⟩
def ou63_0 : List (Option Nat × Skel) := [(some 0, ⟨mkE 27 [], [], []⟩), (none, ⟨mkE 27 [(4, .bool)], [], []⟩)]
def an63 : List (Nat × An) := []
def S63 : List (Skel × List (Option Nat × Skel)) := [(sk63_0, ou63_0)]
def ps63 : List PK := [⟨none, false, [(.sl MapDone)]⟩, ⟨none, false, [(.sl MapDone)]⟩]
def rs63 : List PK := [⟨some .S, false, [.bool]⟩]
noncomputable def F63 := FN (tabC T93) an63 S63 ac63 [.tmp 4] 27 ps63 rs63
noncomputable def T63 : List (FuncId × Ctr) := (63, ⟨true, ps63, rs63, F63⟩) :: T93
theorem hT63 : AllC Try.prog T63 := AllC.fresh hT93 gd63 (by kernel_rfl)
noncomputable def lf63_0 : (List (DMapDone)) × (List (DMapDone)) × Int × Unit → Option (Outs ou63_0) := lfp (vround (tabC T93) an63 (mkL (tabC T93) an63 [] (ac63.body 0)) (ac63.body 0) sk63_0 ou63_0)
noncomputable def lg63_0 (v_a : List (DMapDone)) (v_b : List (DMapDone)) (v_i : Int) : Option (Sum (Unit) (Sum (Bool × Unit) (Empty))) := lf63_0 (v_a, v_b, v_i, ())
theorem lg63_0_eq (v_a : List (DMapDone)) (v_b : List (DMapDone)) (v_i : Int) : (lg63_0 v_a v_b v_i) = (br (decide (v_i < ((v_a.length : Nat) : Int))) (chk (decide (0 ≤ v_i ∧ v_i < ((v_a.length : Nat) : Int))) (let e1 : DMapDone := (v_a.getD v_i.toNat ((0 : Int), (0 : Int), (0 : Int), (0 : Int), ())); (chk (decide (0 ≤ v_i ∧ v_i < ((v_b.length : Nat) : Int))) (let e2 : DMapDone := (v_b.getD v_i.toNat ((0 : Int), (0 : Int), (0 : Int), (0 : Int), ())); ((G93 e1.1 e1.2.1 e1.2.2.1 e1.2.2.2.1 e2.1 e2.2.1 e2.2.2.1 e2.2.2.2.1).bind fun (y3 : Bool × Unit) => (br (!y3.1) (some (.inr (.inl (false, ())))) (lg63_0 v_a v_b (IntKind.i64.wrap (v_i + (1 : Int)))))))))) (some (.inl (())))) :=
  (show lf63_0 (v_a, v_b, v_i, ()) = _ from lfp_eq (fun x => vround_lin _ _ _ _ x) _).trans (by kernel_rfl)
noncomputable def G63 (a_a : List (DMapDone)) (a_b : List (DMapDone)) : Option (Bool × Unit) := F63 (a_a, a_b, ())
theorem G63_eq (a_a : List (DMapDone)) (a_b : List (DMapDone)) : (G63 a_a a_b) = (br (((a_a.length : Nat) : Int) != ((a_b.length : Nat) : Int)) (some (false, ())) ((lg63_0 a_a a_b (0 : Int)).bind fun o => match o with | .inl (y4 : Unit) => (some (true, ())) | .inr (.inl (y5 : Bool × Unit)) => (some (y5.1, ())))) := by kernel_rfl
noncomputable def ac28 : ACode := acOf Try.prog 28
theorem gd28 : Good Try.prog (28, ac28, [.tmp 4], 27) := ⟨_, Try.func28, by kernel_rfl, by kernel_rfl, by kernel_rfl, by kernel_rfl⟩
/- laws.eqHistState -/
def an28 : List (Nat × An) := []
def S28 : List (Skel × List (Option Nat × Skel)) := []
def ps28 : List PK := [⟨none, true, HistState⟩, ⟨none, true, HistState⟩]
def rs28 : List PK := [⟨some .S, false, [.bool]⟩]
noncomputable def F28 := FN (tabC T63) an28 S28 ac28 [.tmp 4] 27 ps28 rs28
noncomputable def T28 : List (FuncId × Ctr) := (28, ⟨true, ps28, rs28, F28⟩) :: T63
theorem hT28 : AllC Try.prog T28 := AllC.fresh hT63 gd28 (by kernel_rfl)
noncomputable def G28 (a_a0 : Int) (a_a1 : Int) (a_a2 : List (DMapDisk)) (a_a3 : List (DMapDone)) (a_b0 : Int) (a_b1 : Int) (a_b2 : List (DMapDisk)) (a_b3 : List (DMapDone)) : Option (Bool × Unit) := F28 (a_a0, a_a1, a_a2, a_a3, a_b0, a_b1, a_b2, a_b3, ())
theorem G28_eq (a_a0 : Int) (a_a1 : Int) (a_a2 : List (DMapDisk)) (a_a3 : List (DMapDone)) (a_b0 : Int) (a_b1 : Int) (a_b2 : List (DMapDisk)) (a_b3 : List (DMapDone)) : (G28 a_a0 a_a1 a_a2 a_a3 a_b0 a_b1 a_b2 a_b3) = (br (a_a0 != a_b0) (some (false, ())) (br (a_a1 != a_b1) (some (false, ())) ((G62 a_a2 a_b2).bind fun (y1 : Bool × Unit) => (br (!y1.1) (some (false, ())) ((G63 a_a3 a_b3).bind fun (y2 : Bool × Unit) => (br (!y2.1) (some (false, ())) (some (true, ())))))))) := by kernel_rfl
noncomputable def ac8 : ACode := acOf Try.prog 8
theorem gd8 : Good Try.prog (8, ac8, [.tmp 2], 27) := ⟨_, Try.func8, by kernel_rfl, by kernel_rfl, by kernel_rfl, by kernel_rfl⟩
/- laws.FnExactHistStateOk -/
def an8 : List (Nat × An) := []
def S8 : List (Skel × List (Option Nat × Skel)) := []
def ps8 : List PK := [⟨none, true, HistState⟩]
def rs8 : List PK := [⟨some .S, false, [.bool]⟩]
noncomputable def F8 := FN (tabC T28) an8 S8 ac8 [.tmp 2] 27 ps8 rs8
noncomputable def T8 : List (FuncId × Ctr) := (8, ⟨true, ps8, rs8, F8⟩) :: T28
theorem hT8 : AllC Try.prog T8 := AllC.fresh hT28 gd8 (by kernel_rfl)
noncomputable def G8 (a_aS0 : Int) (a_aS1 : Int) (a_aS2 : List (DMapDisk)) (a_aS3 : List (DMapDone)) : Option (Bool × Unit) := F8 (a_aS0, a_aS1, a_aS2, a_aS3, ())
theorem G8_eq (a_aS0 : Int) (a_aS1 : Int) (a_aS2 : List (DMapDisk)) (a_aS3 : List (DMapDone)) : (G8 a_aS0 a_aS1 a_aS2 a_aS3) = ((G36 a_aS0 a_aS1 a_aS2 a_aS3 (1048576 : Int)).bind fun (y1 : Int × Unit) => (br (decide (y1.1 < (0 : Int))) (some (true, ())) ((G38 a_aS0 a_aS1 a_aS2 a_aS3).bind fun (y2 : DHistState) => ((G37 y2.1 y2.2.1 y2.2.2.1 y2.2.2.2.1).bind fun (y3 : Bool × Unit) => ((G38 a_aS0 a_aS1 a_aS2 a_aS3).bind fun (y4 : DHistState) => ((G39 y4.1 y4.2.1 y4.2.2.1 y4.2.2.2.1).bind fun (y5 : Bool × Unit) => (br (!(y5.1 == y3.1)) (some (false, ())) ((G38 a_aS0 a_aS1 a_aS2 a_aS3).bind fun (y6 : DHistState) => ((G28 y4.1 y4.2.1 y4.2.2.1 y4.2.2.2.1 y6.1 y6.2.1 y6.2.2.1 y6.2.2.2.1).bind fun (y7 : Bool × Unit) => (br (!y7.1) (some (false, ())) (some (true, ())))))))))))) := by kernel_rfl
end Go.Proofs.Ytnbhalhlodnmpaa.MG
