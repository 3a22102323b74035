/-
Plain functions that the functions of the program are shown to come to, printed by a program of the prover; each with its proof.
Conditions: none.
-/
import Derived.Test.YtjehpceomlnicaaProg
import Derived.Test.YtjehpceomlnicaaEngY
import Derived.KernelRfl
set_option linter.unusedVariables false
set_option linter.unusedSimpArgs false
namespace Go.Proofs.Ytjehpceomlnicaa.Eng
def TT : Types := [(70, ⟨.arr 128 61, 128, 1024, .vec (.int .u64) 128 (Sch.zero (.arr 128 (.int .u64))), some (.arr 128 (.int .u64)), true⟩),
  (4, ⟨.bool, 1, 1, .bool false, some (.bool), false⟩),
  (61, ⟨.int .u64, 1, 8, .int .u64 0, some (.int .u64), false⟩),
  (31, ⟨.int .u32, 1, 4, .int .u32 0, some (.int .u32), false⟩),
  (3, ⟨.int .i64, 1, 8, .int .i64 0, some (.int .i64), false⟩),
  (139, ⟨.int .u64, 1, 8, .int .u64 0, some (.int .u64), false⟩),
  (71, ⟨.slice 70, 1, 24, .nils, some (.sl (.arr 128 (.int .u64))), false⟩),
  (54, ⟨.slice 4, 1, 24, .nils, some (.sl (.bool)), false⟩),
  (153, ⟨.arr 16 3, 16, 128, .vec (.int .i64) 16 (Sch.zero (.arr 16 (.int .i64))), some (.arr 16 (.int .i64)), true⟩),
  (62, ⟨.arr 16 61, 16, 128, .vec (.int .u64) 16 (Sch.zero (.arr 16 (.int .u64))), some (.arr 16 (.int .u64)), true⟩),
  (150, ⟨.arr 8 104, 32, 256, .vec (.arr 4 (.int .i64)) 8 (Sch.zero (.arr 8 (.arr 4 (.int .i64)))), some (.arr 8 (.arr 4 (.int .i64))), true⟩),
  (104, ⟨.arr 4 3, 4, 32, .vec (.int .i64) 4 (Sch.zero (.arr 4 (.int .i64))), some (.arr 4 (.int .i64)), true⟩)]
theorem tyok : TyOk Try.prog TT := TyOk.of (by kernel_rfl)
theorem mixed : Try.prog.follows .mixedOrders = true := by kernel_rfl
def QQ : FuncId → Bool := fun f => memN [37, 38, 40, 43, 44, 46, 89, 90, 93, 94, 95] f
def LN : FuncId → Bool := fun f => memN [94] f
def ap_89 : List Pat := [.int .u64, .int .u64]
def hp_89 : List (Option (Pat × Nat)) := []
def p_89 {R : Type} (N : Nat) (x : (Int × Int × Unit) × (Unit)) (κ0 : Int → Option R) : Option R :=
let i8 : Int := x.1.1
let i9 : Int := x.1.2.1
let i10 : Int := addA .u64 i8 i9
let i11 : Int := IntKind.wrap .u32 i8
let i12 : Int := IntKind.wrap .u64 i11
let i13 : Int := mulA .u64 2 i12
let i14 : Int := IntKind.wrap .u32 i9
let i15 : Int := IntKind.wrap .u64 i14
let i16 : Int := mulA .u64 i13 i15
let i17 : Int := addA .u64 i10 i16
κ0 i17

def Q_89 {R : Type} (x : (Int × Int × Unit) × (Unit)) (κ0 : Int → Option R) : Option R :=
let i8 : Int := x.1.1
let i9 : Int := x.1.2.1
let i10 : Int := addA .u64 i8 i9
let i11 : Int := IntKind.wrap .u32 i8
let i12 : Int := IntKind.wrap .u64 i11
let i13 : Int := mulA .u64 2 i12
let i14 : Int := IntKind.wrap .u32 i9
let i15 : Int := IntKind.wrap .u64 i14
let i16 : Int := mulA .u64 i13 i15
let i17 : Int := addA .u64 i10 i16
κ0 i17
def EG_89 {R : Type} : Env R := Env.base QQ LN
def LG_89 {R : Type} : Loops R := Loops.none
def E_89 {R : Type} (N : Nat) : Env R := EG_89
theorem eok_89 {R : Type} (N : Nat) : EK Try.prog (E_89 (R := R) N) := ek_base _ _
def L_89 {R : Type} (N : Nat) : Loops R := LG_89
theorem lok_89 {R : Type} (N : Nat) : LOK 0 TT (E_89 (R := R) N) (drawOk TT QQ) (L_89 N) (bodyOf Try.f89) := loops_nil (by kernel_rfl)
theorem grun_89 {R : Type} (x : aden ap_89 × hden hp_89) (k : KF R) : fnrun TT (EG_89) (drawOk TT QQ) (LG_89) true Try.f89 (instA ap_89 x.1) (instH hp_89 x.2) k = Q_89 x (fun y => k (Pat.inst (.int .u64) y) (instH hp_89 x.2)) := by kernel_rfl
theorem run_89 {R : Type} (N : Nat) (x : aden ap_89 × hden hp_89) (k : KF R) : fnrun TT (E_89 (R := R) N) (drawOk TT QQ) (L_89 N) true Try.f89 (instA ap_89 x.1) (instH hp_89 x.2) k = p_89 N x (fun y => k (Pat.inst (.int .u64) y) (instH hp_89 x.2)) := (grun_89 x k).trans (by kernel_rfl)
theorem good_89 {R : Type} (N : Nat) : GD (X := R) Try.prog QQ 89 ap_89 hp_89 (fun (x : aden ap_89 × hden hp_89) k => p_89 N x (fun y => k (Pat.inst (.int .u64) y) (instH hp_89 x.2))) :=
  gd_quiet (E := E_89 N) (p := fun (x : aden ap_89 × hden hp_89) κ => p_89 N x (fun y => κ (Pat.inst (.int .u64) y))) mixed tyok (eok_89 N) Try.func89 (by kernel_rfl) (by kernel_rfl) (lok_89 N) (fun x k => run_89 N x k)

def ap_90 : List Pat := [.int .u64, .int .i64]
def hp_90 : List (Option (Pat × Nat)) := []
def p_90 {R : Type} (N : Nat) (x : (Int × Int × Unit) × (Unit)) (κ0 : Int → Option R) : Option R :=
let i21 : Int := x.1.1
let i22 : Int := x.1.2.1
let i23 : Int := IntKind.wrap .u64 i22
let i24 : Int := remA .u64 i23 64
bif decide (i24 < 0) then none else (
let i25 : Int := shrA .u64 i21 i24
let i26 : Int := subA .u64 64 i24
bif decide (i26 < 0) then none else (
let i27 : Int := shlA .u64 i21 i26
let i28 : Int := orA .u64 i25 i27
κ0 i28))

def Q_90 {R : Type} (x : (Int × Int × Unit) × (Unit)) (κ0 : Int → Option R) : Option R :=
let i21 : Int := x.1.1
let i22 : Int := x.1.2.1
let i23 : Int := IntKind.wrap .u64 i22
let i24 : Int := remA .u64 i23 64
bif decide (i24 < 0) then none else (
let i25 : Int := shrA .u64 i21 i24
let i26 : Int := subA .u64 64 i24
bif decide (i26 < 0) then none else (
let i27 : Int := shlA .u64 i21 i26
let i28 : Int := orA .u64 i25 i27
κ0 i28))
def EG_90 {R : Type} : Env R := Env.base QQ LN
def LG_90 {R : Type} : Loops R := Loops.none
def E_90 {R : Type} (N : Nat) : Env R := EG_90
theorem eok_90 {R : Type} (N : Nat) : EK Try.prog (E_90 (R := R) N) := ek_base _ _
def L_90 {R : Type} (N : Nat) : Loops R := LG_90
theorem lok_90 {R : Type} (N : Nat) : LOK 0 TT (E_90 (R := R) N) (drawOk TT QQ) (L_90 N) (bodyOf Try.f90) := loops_nil (by kernel_rfl)
theorem grun_90 {R : Type} (x : aden ap_90 × hden hp_90) (k : KF R) : fnrun TT (EG_90) (drawOk TT QQ) (LG_90) true Try.f90 (instA ap_90 x.1) (instH hp_90 x.2) k = Q_90 x (fun y => k (Pat.inst (.int .u64) y) (instH hp_90 x.2)) := by kernel_rfl
theorem run_90 {R : Type} (N : Nat) (x : aden ap_90 × hden hp_90) (k : KF R) : fnrun TT (E_90 (R := R) N) (drawOk TT QQ) (L_90 N) true Try.f90 (instA ap_90 x.1) (instH hp_90 x.2) k = p_90 N x (fun y => k (Pat.inst (.int .u64) y) (instH hp_90 x.2)) := (grun_90 x k).trans (by kernel_rfl)
theorem good_90 {R : Type} (N : Nat) : GD (X := R) Try.prog QQ 90 ap_90 hp_90 (fun (x : aden ap_90 × hden hp_90) k => p_90 N x (fun y => k (Pat.inst (.int .u64) y) (instH hp_90 x.2))) :=
  gd_quiet (E := E_90 N) (p := fun (x : aden ap_90 × hden hp_90) κ => p_90 N x (fun y => κ (Pat.inst (.int .u64) y))) mixed tyok (eok_90 N) Try.func90 (by kernel_rfl) (by kernel_rfl) (lok_90 N) (fun x k => run_90 N x k)

def ap_38 : List Pat := [.int .u64, .int .u64, .int .u64, .int .u64]
def hp_38 : List (Option (Pat × Nat)) := []
def p_38 {R : Type} (N : Nat) (x : (Int × Int × Int × Int × Unit) × (Unit)) (κ0 : (Int × (Int × (Int × (Int × Unit)))) → Option R) : Option R :=
let i4 : Int := x.1.1
let i5 : Int := x.1.2.1
let i6 : Int := x.1.2.2.1
let i7 : Int := x.1.2.2.2.1
p_89 N ((i4, i5, ()), ()) (fun y18 =>
let i19 : Int := y18
let i20 : Int := xorA .u64 i7 i19
p_90 N ((i20, 32, ()), ()) (fun y29 =>
let i30 : Int := y29
p_89 N ((i6, i30, ()), ()) (fun y31 =>
let i32 : Int := y31
let i33 : Int := xorA .u64 i5 i32
p_90 N ((i33, 24, ()), ()) (fun y34 =>
let i35 : Int := y34
p_89 N ((i19, i35, ()), ()) (fun y36 =>
let i37 : Int := y36
let i38 : Int := xorA .u64 i30 i37
p_90 N ((i38, 16, ()), ()) (fun y39 =>
let i40 : Int := y39
p_89 N ((i32, i40, ()), ()) (fun y41 =>
let i42 : Int := y41
let i43 : Int := xorA .u64 i35 i42
p_90 N ((i43, 63, ()), ()) (fun y44 =>
let i45 : Int := y44
κ0 ((i37, (i45, (i42, (i40, ())))))))))))))

def Q_38 {R : Type} (q_89 : (Int × Int × Unit) × (Unit) → (Int → Option R) → Option R) (q_90 : (Int × Int × Unit) × (Unit) → (Int → Option R) → Option R) (x : (Int × Int × Int × Int × Unit) × (Unit)) (κ0 : (Int × (Int × (Int × (Int × Unit)))) → Option R) : Option R :=
let i4 : Int := x.1.1
let i5 : Int := x.1.2.1
let i6 : Int := x.1.2.2.1
let i7 : Int := x.1.2.2.2.1
q_89 ((i4, i5, ()), ()) (fun y18 =>
let i19 : Int := y18
let i20 : Int := xorA .u64 i7 i19
q_90 ((i20, 32, ()), ()) (fun y29 =>
let i30 : Int := y29
q_89 ((i6, i30, ()), ()) (fun y31 =>
let i32 : Int := y31
let i33 : Int := xorA .u64 i5 i32
q_90 ((i33, 24, ()), ()) (fun y34 =>
let i35 : Int := y34
q_89 ((i19, i35, ()), ()) (fun y36 =>
let i37 : Int := y36
let i38 : Int := xorA .u64 i30 i37
q_90 ((i38, 16, ()), ()) (fun y39 =>
let i40 : Int := y39
q_89 ((i32, i40, ()), ()) (fun y41 =>
let i42 : Int := y41
let i43 : Int := xorA .u64 i35 i42
q_90 ((i43, 63, ()), ()) (fun y44 =>
let i45 : Int := y44
κ0 ((i37, (i45, (i42, (i40, ())))))))))))))
def EG_38 {R : Type} (q_89 : (Int × Int × Unit) × (Unit) → (Int → Option R) → Option R) (q_90 : (Int × Int × Unit) × (Unit) → (Int → Option R) → Option R) : Env R := ((Env.base QQ LN).add 89 ap_89 hp_89 (fun (x : aden ap_89 × hden hp_89) k => q_89 x (fun y => k (Pat.inst (.int .u64) y) (instH hp_89 x.2)))).add 90 ap_90 hp_90 (fun (x : aden ap_90 × hden hp_90) k => q_90 x (fun y => k (Pat.inst (.int .u64) y) (instH hp_90 x.2)))
def LG_38 {R : Type} : Loops R := Loops.none
def E_38 {R : Type} (N : Nat) : Env R := EG_38 (p_89 N) (p_90 N)
theorem eok_38 {R : Type} (N : Nat) : EK Try.prog (E_38 (R := R) N) := ek_add (ek_add (ek_base _ _) (good_89 N)) (good_90 N)
def L_38 {R : Type} (N : Nat) : Loops R := LG_38
theorem lok_38 {R : Type} (N : Nat) : LOK 0 TT (E_38 (R := R) N) (drawOk TT QQ) (L_38 N) (bodyOf Try.f38) := loops_nil (by kernel_rfl)
theorem grun_38 {R : Type} (q_89 : (Int × Int × Unit) × (Unit) → (Int → Option R) → Option R) (q_90 : (Int × Int × Unit) × (Unit) → (Int → Option R) → Option R) (x : aden ap_38 × hden hp_38) (k : KF R) : fnrun TT (EG_38 q_89 q_90) (drawOk TT QQ) (LG_38) true Try.f38 (instA ap_38 x.1) (instH hp_38 x.2) k = Q_38 q_89 q_90 x (fun y => k (Pat.inst (.tup (.fcons (.int .u64) (.fcons (.int .u64) (.fcons (.int .u64) (.fcons (.int .u64) (.fnil)))))) y) (instH hp_38 x.2)) := by kernel_rfl
theorem run_38 {R : Type} (N : Nat) (x : aden ap_38 × hden hp_38) (k : KF R) : fnrun TT (E_38 (R := R) N) (drawOk TT QQ) (L_38 N) true Try.f38 (instA ap_38 x.1) (instH hp_38 x.2) k = p_38 N x (fun y => k (Pat.inst (.tup (.fcons (.int .u64) (.fcons (.int .u64) (.fcons (.int .u64) (.fcons (.int .u64) (.fnil)))))) y) (instH hp_38 x.2)) := (grun_38 (p_89 N) (p_90 N) x k).trans (by kernel_rfl)
theorem good_38 {R : Type} (N : Nat) : GD (X := R) Try.prog QQ 38 ap_38 hp_38 (fun (x : aden ap_38 × hden hp_38) k => p_38 N x (fun y => k (Pat.inst (.tup (.fcons (.int .u64) (.fcons (.int .u64) (.fcons (.int .u64) (.fcons (.int .u64) (.fnil)))))) y) (instH hp_38 x.2))) :=
  gd_quiet (E := E_38 N) (p := fun (x : aden ap_38 × hden hp_38) κ => p_38 N x (fun y => κ (Pat.inst (.tup (.fcons (.int .u64) (.fcons (.int .u64) (.fcons (.int .u64) (.fcons (.int .u64) (.fnil)))))) y))) mixed tyok (eok_38 N) Try.func38 (by kernel_rfl) (by kernel_rfl) (lok_38 N) (fun x k => run_38 N x k)

def lv_94_6 : Live := [(2, none), (3, none), (8, none), (9, none), (10, none), (14, none), (15, none)]
def pt_94_6 : SPat := ⟨[(2, .ptr 0 []), (3, .ptr 1 []), (8, .ros (.arr 128 (.int .u64))), (9, .int .i64), (10, .int .i64), (14, .vec (.int .u64) 128), (15, .int .i64)], [some (.vec (.int .u64) 128, 70), some (.vec (.int .u64) 128, 70)]⟩
def px_94_6_0 : SPat := ⟨[(2, .ptr 0 []), (3, .ptr 1 []), (8, .ros (.arr 128 (.int .u64))), (9, .int .i64), (10, .int .i64)], [some (.vec (.int .u64) 128, 70), some (.vec (.int .u64) 128, 70)]⟩
def lo_94_6 : Exit → Live
  | .exit 2 => [(2, none), (3, none), (8, none), (9, none), (10, none)]
  | _ => []
def B_94_6 {R : Type} (N : Nat) (rec : ((Unit × Unit × (List (Nat → Int)) × Int × Int × (Nat → Int) × Int × Unit) × ((Nat → Int) × (Nat → Int) × Unit)) → Option R) (x : ((Unit × Unit × (List (Nat → Int)) × Int × Int × (Nat → Int) × Int × Unit) × ((Nat → Int) × (Nat → Int) × Unit))) (κ0 : ((Unit × Unit × (List (Nat → Int)) × Int × Int × Unit) × ((Nat → Int) × (Nat → Int) × Unit)) → Option R) : Option R :=
let l62 : (List (Nat → Int)) := x.1.2.2.1
let i63 : Int := x.1.2.2.2.1
let i64 : Int := x.1.2.2.2.2.1
let a65 : (Nat → Int) := x.1.2.2.2.2.2.1
let i66 : Int := x.1.2.2.2.2.2.2.1
let a67 : (Nat → Int) := x.2.1
let a68 : (Nat → Int) := x.2.2.1
bif (decide (i66 < 128)) then (
bif decide (0 ≤ i66) then (
bif decide (i66 < (128 : Int)) then (
let i69 : Int := (a65 ((Int.toNat i66)))
bif decide (0 ≤ i66) then (
bif decide (i66 < (128 : Int)) then (
let i70 : Int := (a68 ((Int.toNat i66)))
let i71 : Int := xorA .u64 i70 i69
bif decide (0 ≤ i66) then (
bif decide (i66 < (128 : Int)) then (
let a72 : (Nat → Int) := (upd a68 ((Int.toNat i66)) i71)
let i73 : Int := addA .i64 i66 1
rec (((), (), l62, i63, i64, a65, i73, ()), (a67, a72, ()))) else none) else none) else none) else none) else none) else none) else (
κ0 (((), (), l62, i63, i64, ()), (a67, a68, ())))
def l_94_6 {R : Type} (N : Nat) : Nat → ((Unit × Unit × (List (Nat → Int)) × Int × Int × (Nat → Int) × Int × Unit) × ((Nat → Int) × (Nat → Int) × Unit)) → (((Unit × Unit × (List (Nat → Int)) × Int × Int × Unit) × ((Nat → Int) × (Nat → Int) × Unit)) → Option R) → Option R
  | 0, _, _ => none
  | n + 1, x, κ0 => B_94_6 N (fun y => l_94_6 N n y κ0) x κ0
def lv_94_3 : Live := [(2, none), (3, none), (8, none), (9, none), (10, none)]
def pt_94_3 : SPat := ⟨[(2, .ptr 0 []), (3, .ptr 1 []), (8, .ros (.arr 128 (.int .u64))), (9, .int .i64), (10, .int .i64)], [some (.vec (.int .u64) 128, 70), some (.vec (.int .u64) 128, 70)]⟩
def px_94_3_0 : SPat := ⟨[(2, .ptr 0 []), (3, .ptr 1 [])], [some (.vec (.int .u64) 128, 70), some (.vec (.int .u64) 128, 70)]⟩
def lo_94_3 : Exit → Live
  | .exit 0 => [(2, none), (3, none)]
  | _ => []
def B_94_3 {R : Type} (N : Nat) (rec : ((Unit × Unit × (List (Nat → Int)) × Int × Int × Unit) × ((Nat → Int) × (Nat → Int) × Unit)) → Option R) (x : ((Unit × Unit × (List (Nat → Int)) × Int × Int × Unit) × ((Nat → Int) × (Nat → Int) × Unit))) (κ0 : ((Unit × Unit × Unit) × ((Nat → Int) × (Nat → Int) × Unit)) → Option R) : Option R :=
let l56 : (List (Nat → Int)) := x.1.2.2.1
let i57 : Int := x.1.2.2.2.1
let i58 : Int := x.1.2.2.2.2.1
let a59 : (Nat → Int) := x.2.1
let a60 : (Nat → Int) := x.2.2.1
bif (decide (i58 < i57)) then (
bif decide (0 ≤ i58) then (
bif decide (i58 < ((List.length l56) : Int)) then (
let p61 : (Nat → Int) := (List.getD l56 ((Int.toNat i58)) (Sch.zero (.arr 128 (.int .u64))))
l_94_6 N N (((), (), l56, i57, i58, p61, 0, ()), (a59, a60, ())) (fun y74 =>
let l75 : (List (Nat → Int)) := y74.1.2.2.1
let i76 : Int := y74.1.2.2.2.1
let i77 : Int := y74.1.2.2.2.2.1
let a78 : (Nat → Int) := y74.2.1
let a79 : (Nat → Int) := y74.2.2.1
let i80 : Int := addA .i64 i77 1
rec (((), (), l75, i76, i80, ()), (a78, a79, ())))) else none) else none) else (
κ0 (((), (), ()), (a59, a60, ())))
def l_94_3 {R : Type} (N : Nat) : Nat → ((Unit × Unit × (List (Nat → Int)) × Int × Int × Unit) × ((Nat → Int) × (Nat → Int) × Unit)) → (((Unit × Unit × Unit) × ((Nat → Int) × (Nat → Int) × Unit)) → Option R) → Option R
  | 0, _, _ => none
  | n + 1, x, κ0 => B_94_3 N (fun y => l_94_3 N n y κ0) x κ0
def ap_94 : List Pat := [.ros (.arr 128 (.int .u64))]
def hp_94 : List (Option (Pat × Nat)) := []
def p_94 {R : Type} (N : Nat) (x : ((List (Nat → Int)) × Unit) × (Unit)) (κ0 : (Nat → Int) → Option R) : Option R :=
let l54 : (List (Nat → Int)) := x.1.1
let i55 : Int := (((List.length l54) : Nat) : Int)
l_94_3 N N (((), (), l54, i55, 0, ()), ((Sch.zero (.arr 128 (.int .u64))), (Sch.zero (.arr 128 (.int .u64))), ())) (fun y81 =>
let a82 : (Nat → Int) := y81.2.1
let a83 : (Nat → Int) := y81.2.2.1
κ0 a83)

def Q_94 {R : Type} (m_94_6 : ((Unit × Unit × (List (Nat → Int)) × Int × Int × (Nat → Int) × Int × Unit) × ((Nat → Int) × (Nat → Int) × Unit)) → (((Unit × Unit × (List (Nat → Int)) × Int × Int × Unit) × ((Nat → Int) × (Nat → Int) × Unit)) → Option R) → Option R) (m_94_3 : ((Unit × Unit × (List (Nat → Int)) × Int × Int × Unit) × ((Nat → Int) × (Nat → Int) × Unit)) → (((Unit × Unit × Unit) × ((Nat → Int) × (Nat → Int) × Unit)) → Option R) → Option R) (x : ((List (Nat → Int)) × Unit) × (Unit)) (κ0 : (Nat → Int) → Option R) : Option R :=
let l54 : (List (Nat → Int)) := x.1.1
let i55 : Int := (((List.length l54) : Nat) : Int)
m_94_3 (((), (), l54, i55, 0, ()), ((Sch.zero (.arr 128 (.int .u64))), (Sch.zero (.arr 128 (.int .u64))), ())) (fun y81 =>
let a82 : (Nat → Int) := y81.2.1
let a83 : (Nat → Int) := y81.2.2.1
κ0 a83)
def C_94_6 {R : Type} (m_94_6 : ((Unit × Unit × (List (Nat → Int)) × Int × Int × (Nat → Int) × Int × Unit) × ((Nat → Int) × (Nat → Int) × Unit)) → (((Unit × Unit × (List (Nat → Int)) × Int × Int × Unit) × ((Nat → Int) × (Nat → Int) × Unit)) → Option R) → Option R) (m_94_3 : ((Unit × Unit × (List (Nat → Int)) × Int × Int × Unit) × ((Nat → Int) × (Nat → Int) × Unit)) → (((Unit × Unit × Unit) × ((Nat → Int) × (Nat → Int) × Unit)) → Option R) → Option R) (rec : ((Unit × Unit × (List (Nat → Int)) × Int × Int × (Nat → Int) × Int × Unit) × ((Nat → Int) × (Nat → Int) × Unit)) → Option R) (x : ((Unit × Unit × (List (Nat → Int)) × Int × Int × (Nat → Int) × Int × Unit) × ((Nat → Int) × (Nat → Int) × Unit))) (κ0 : ((Unit × Unit × (List (Nat → Int)) × Int × Int × Unit) × ((Nat → Int) × (Nat → Int) × Unit)) → Option R) : Option R :=
let l62 : (List (Nat → Int)) := x.1.2.2.1
let i63 : Int := x.1.2.2.2.1
let i64 : Int := x.1.2.2.2.2.1
let a65 : (Nat → Int) := x.1.2.2.2.2.2.1
let i66 : Int := x.1.2.2.2.2.2.2.1
let a67 : (Nat → Int) := x.2.1
let a68 : (Nat → Int) := x.2.2.1
bif (decide (i66 < 128)) then (
bif decide (0 ≤ i66) then (
bif decide (i66 < (128 : Int)) then (
let i69 : Int := (a65 ((Int.toNat i66)))
bif decide (0 ≤ i66) then (
bif decide (i66 < (128 : Int)) then (
let i70 : Int := (a68 ((Int.toNat i66)))
let i71 : Int := xorA .u64 i70 i69
bif decide (0 ≤ i66) then (
bif decide (i66 < (128 : Int)) then (
let a72 : (Nat → Int) := (upd a68 ((Int.toNat i66)) i71)
let i73 : Int := addA .i64 i66 1
rec (((), (), l62, i63, i64, a65, i73, ()), (a67, a72, ()))) else none) else none) else none) else none) else none) else none) else (
κ0 (((), (), l62, i63, i64, ()), (a67, a68, ())))
def C_94_3 {R : Type} (m_94_6 : ((Unit × Unit × (List (Nat → Int)) × Int × Int × (Nat → Int) × Int × Unit) × ((Nat → Int) × (Nat → Int) × Unit)) → (((Unit × Unit × (List (Nat → Int)) × Int × Int × Unit) × ((Nat → Int) × (Nat → Int) × Unit)) → Option R) → Option R) (m_94_3 : ((Unit × Unit × (List (Nat → Int)) × Int × Int × Unit) × ((Nat → Int) × (Nat → Int) × Unit)) → (((Unit × Unit × Unit) × ((Nat → Int) × (Nat → Int) × Unit)) → Option R) → Option R) (rec : ((Unit × Unit × (List (Nat → Int)) × Int × Int × Unit) × ((Nat → Int) × (Nat → Int) × Unit)) → Option R) (x : ((Unit × Unit × (List (Nat → Int)) × Int × Int × Unit) × ((Nat → Int) × (Nat → Int) × Unit))) (κ0 : ((Unit × Unit × Unit) × ((Nat → Int) × (Nat → Int) × Unit)) → Option R) : Option R :=
let l56 : (List (Nat → Int)) := x.1.2.2.1
let i57 : Int := x.1.2.2.2.1
let i58 : Int := x.1.2.2.2.2.1
let a59 : (Nat → Int) := x.2.1
let a60 : (Nat → Int) := x.2.2.1
bif (decide (i58 < i57)) then (
bif decide (0 ≤ i58) then (
bif decide (i58 < ((List.length l56) : Int)) then (
let p61 : (Nat → Int) := (List.getD l56 ((Int.toNat i58)) (Sch.zero (.arr 128 (.int .u64))))
m_94_6 (((), (), l56, i57, i58, p61, 0, ()), (a59, a60, ())) (fun y74 =>
let l75 : (List (Nat → Int)) := y74.1.2.2.1
let i76 : Int := y74.1.2.2.2.1
let i77 : Int := y74.1.2.2.2.2.1
let a78 : (Nat → Int) := y74.2.1
let a79 : (Nat → Int) := y74.2.2.1
let i80 : Int := addA .i64 i77 1
rec (((), (), l75, i76, i80, ()), (a78, a79, ())))) else none) else none) else (
κ0 (((), (), ()), (a59, a60, ())))
def EG_94 {R : Type} : Env R := Env.base QQ LN
def LG_94 {R : Type} (m_94_6 : ((Unit × Unit × (List (Nat → Int)) × Int × Int × (Nat → Int) × Int × Unit) × ((Nat → Int) × (Nat → Int) × Unit)) → (((Unit × Unit × (List (Nat → Int)) × Int × Int × Unit) × ((Nat → Int) × (Nat → Int) × Unit)) → Option R) → Option R) (m_94_3 : ((Unit × Unit × (List (Nat → Int)) × Int × Int × Unit) × ((Nat → Int) × (Nat → Int) × Unit)) → (((Unit × Unit × Unit) × ((Nat → Int) × (Nat → Int) × Unit)) → Option R) → Option R) : Loops R := ((Loops.none).add 6 (loopBy 0 lv_94_6 pt_94_6 (fun x k => m_94_6 x (fun y => k (.exit 2) (px_94_6_0.inst y))))).add 3 (loopBy 0 lv_94_3 pt_94_3 (fun x k => m_94_3 x (fun y => k (.exit 0) (px_94_3_0.inst y))))
def E_94 {R : Type} (N : Nat) : Env R := EG_94
theorem eok_94 {R : Type} (N : Nat) : EK Try.prog (E_94 (R := R) N) := ek_base _ _
def L_94 {R : Type} (N : Nat) : Loops R := LG_94 (l_94_6 N N) (l_94_3 N N)
theorem gstep_94_6 {R : Type} (m_94_6 : ((Unit × Unit × (List (Nat → Int)) × Int × Int × (Nat → Int) × Int × Unit) × ((Nat → Int) × (Nat → Int) × Unit)) → (((Unit × Unit × (List (Nat → Int)) × Int × Int × Unit) × ((Nat → Int) × (Nat → Int) × Unit)) → Option R) → Option R) (m_94_3 : ((Unit × Unit × (List (Nat → Int)) × Int × Int × Unit) × ((Nat → Int) × (Nat → Int) × Unit)) → (((Unit × Unit × Unit) × ((Nat → Int) × (Nat → Int) × Unit)) → Option R) → Option R) (n : Nat) (x : pt_94_6.den) (k : Exit → St → Option R) : iter 0 lv_94_6 lo_94_6 (aexec TT (EG_94) (drawOk TT QQ) (LG_94 m_94_6 m_94_3) (loopAt 6 (bodyOf Try.f94))) (n + 1) (pt_94_6.inst x) k = C_94_6 m_94_6 m_94_3 (fun y => iter 0 lv_94_6 lo_94_6 (aexec TT (EG_94) (drawOk TT QQ) (LG_94 m_94_6 m_94_3) (loopAt 6 (bodyOf Try.f94))) n (pt_94_6.inst y) k) x (fun y => k (.exit 2) (px_94_6_0.inst y)) := by kernel_rfl
theorem step_94_6 {R : Type} (N n : Nat) (x : pt_94_6.den) (k : Exit → St → Option R) : iter 0 lv_94_6 lo_94_6 (aexec TT (E_94 (R := R) N) (drawOk TT QQ) (L_94 N) (loopAt 6 (bodyOf Try.f94))) (n + 1) (pt_94_6.inst x) k = B_94_6 N (fun y => iter 0 lv_94_6 lo_94_6 (aexec TT (E_94 (R := R) N) (drawOk TT QQ) (L_94 N) (loopAt 6 (bodyOf Try.f94))) n (pt_94_6.inst y) k) x (fun y => k (.exit 2) (px_94_6_0.inst y)) := (gstep_94_6 (l_94_6 N N) (l_94_3 N N) n x k).trans (by kernel_rfl)
theorem eq_94_6 {R : Type} (N : Nat) : ∀ (n : Nat) (x : pt_94_6.den) (k : Exit → St → Option R), iter 0 lv_94_6 lo_94_6 (aexec TT (E_94 (R := R) N) (drawOk TT QQ) (L_94 N) (loopAt 6 (bodyOf Try.f94))) n (pt_94_6.inst x) k = l_94_6 N n x (fun y => k (.exit 2) (px_94_6_0.inst y)) :=
  iter_eq (K := Exit → St → Option R) (ks := fun k => k) (l := fun n (x : pt_94_6.den) k => l_94_6 N n x (fun y => k (.exit 2) (px_94_6_0.inst y))) (B := fun (rec : pt_94_6.den → Option R) (x : pt_94_6.den) k => B_94_6 N rec x (fun y => k (.exit 2) (px_94_6_0.inst y))) (fun _ _ => rfl) (fun _ _ _ => rfl) (fun n x k => step_94_6 N n x k)
theorem rounds_94_6 {R : Type} (N : Nat) : Rounds 0 TT (E_94 (R := R) N) (drawOk TT QQ) (L_94 N) 6 (loopAt 6 (bodyOf Try.f94)) :=
  rounds_of (p := pt_94_6) (l := fun (x : pt_94_6.den) k => l_94_6 N N x (fun y => k (.exit 2) (px_94_6_0.inst y))) (fun s k => rfl) (fun x k => eq_94_6 N N x k)
theorem gstep_94_3 {R : Type} (m_94_6 : ((Unit × Unit × (List (Nat → Int)) × Int × Int × (Nat → Int) × Int × Unit) × ((Nat → Int) × (Nat → Int) × Unit)) → (((Unit × Unit × (List (Nat → Int)) × Int × Int × Unit) × ((Nat → Int) × (Nat → Int) × Unit)) → Option R) → Option R) (m_94_3 : ((Unit × Unit × (List (Nat → Int)) × Int × Int × Unit) × ((Nat → Int) × (Nat → Int) × Unit)) → (((Unit × Unit × Unit) × ((Nat → Int) × (Nat → Int) × Unit)) → Option R) → Option R) (n : Nat) (x : pt_94_3.den) (k : Exit → St → Option R) : iter 0 lv_94_3 lo_94_3 (aexec TT (EG_94) (drawOk TT QQ) (LG_94 m_94_6 m_94_3) (loopAt 3 (bodyOf Try.f94))) (n + 1) (pt_94_3.inst x) k = C_94_3 m_94_6 m_94_3 (fun y => iter 0 lv_94_3 lo_94_3 (aexec TT (EG_94) (drawOk TT QQ) (LG_94 m_94_6 m_94_3) (loopAt 3 (bodyOf Try.f94))) n (pt_94_3.inst y) k) x (fun y => k (.exit 0) (px_94_3_0.inst y)) := by kernel_rfl
theorem step_94_3 {R : Type} (N n : Nat) (x : pt_94_3.den) (k : Exit → St → Option R) : iter 0 lv_94_3 lo_94_3 (aexec TT (E_94 (R := R) N) (drawOk TT QQ) (L_94 N) (loopAt 3 (bodyOf Try.f94))) (n + 1) (pt_94_3.inst x) k = B_94_3 N (fun y => iter 0 lv_94_3 lo_94_3 (aexec TT (E_94 (R := R) N) (drawOk TT QQ) (L_94 N) (loopAt 3 (bodyOf Try.f94))) n (pt_94_3.inst y) k) x (fun y => k (.exit 0) (px_94_3_0.inst y)) := (gstep_94_3 (l_94_6 N N) (l_94_3 N N) n x k).trans (by kernel_rfl)
theorem eq_94_3 {R : Type} (N : Nat) : ∀ (n : Nat) (x : pt_94_3.den) (k : Exit → St → Option R), iter 0 lv_94_3 lo_94_3 (aexec TT (E_94 (R := R) N) (drawOk TT QQ) (L_94 N) (loopAt 3 (bodyOf Try.f94))) n (pt_94_3.inst x) k = l_94_3 N n x (fun y => k (.exit 0) (px_94_3_0.inst y)) :=
  iter_eq (K := Exit → St → Option R) (ks := fun k => k) (l := fun n (x : pt_94_3.den) k => l_94_3 N n x (fun y => k (.exit 0) (px_94_3_0.inst y))) (B := fun (rec : pt_94_3.den → Option R) (x : pt_94_3.den) k => B_94_3 N rec x (fun y => k (.exit 0) (px_94_3_0.inst y))) (fun _ _ => rfl) (fun _ _ _ => rfl) (fun n x k => step_94_3 N n x k)
theorem rounds_94_3 {R : Type} (N : Nat) : Rounds 0 TT (E_94 (R := R) N) (drawOk TT QQ) (L_94 N) 3 (loopAt 3 (bodyOf Try.f94)) :=
  rounds_of (p := pt_94_3) (l := fun (x : pt_94_3.den) k => l_94_3 N N x (fun y => k (.exit 0) (px_94_3_0.inst y))) (fun s k => rfl) (fun x k => eq_94_3 N N x k)
theorem loops_94 : loopsIn (bodyOf Try.f94) = [(3, loopAt 3 (bodyOf Try.f94)), (6, loopAt 6 (bodyOf Try.f94))] := by kernel_rfl
theorem lok_94 {R : Type} (N : Nat) : LOK 0 TT (E_94 (R := R) N) (drawOk TT QQ) (L_94 N) (bodyOf Try.f94) := loops_all loops_94 (by
  simp only [List.forall_mem_cons, List.not_mem_nil, false_implies, implies_true, and_true]
  exact ⟨rounds_94_3 N, rounds_94_6 N⟩)
theorem grun_94 {R : Type} (m_94_6 : ((Unit × Unit × (List (Nat → Int)) × Int × Int × (Nat → Int) × Int × Unit) × ((Nat → Int) × (Nat → Int) × Unit)) → (((Unit × Unit × (List (Nat → Int)) × Int × Int × Unit) × ((Nat → Int) × (Nat → Int) × Unit)) → Option R) → Option R) (m_94_3 : ((Unit × Unit × (List (Nat → Int)) × Int × Int × Unit) × ((Nat → Int) × (Nat → Int) × Unit)) → (((Unit × Unit × Unit) × ((Nat → Int) × (Nat → Int) × Unit)) → Option R) → Option R) (x : aden ap_94 × hden hp_94) (k : KF R) : fnrun TT (EG_94) (drawOk TT QQ) (LG_94 m_94_6 m_94_3) true Try.f94 (instA ap_94 x.1) (instH hp_94 x.2) k = Q_94 m_94_6 m_94_3 x (fun y => k (Pat.inst (.vec (.int .u64) 128) y) (instH hp_94 x.2)) := by kernel_rfl
theorem run_94 {R : Type} (N : Nat) (x : aden ap_94 × hden hp_94) (k : KF R) : fnrun TT (E_94 (R := R) N) (drawOk TT QQ) (L_94 N) true Try.f94 (instA ap_94 x.1) (instH hp_94 x.2) k = p_94 N x (fun y => k (Pat.inst (.vec (.int .u64) 128) y) (instH hp_94 x.2)) := (grun_94 (l_94_6 N N) (l_94_3 N N) x k).trans (by kernel_rfl)
theorem good_94 {R : Type} (N : Nat) : GD (X := R) Try.prog QQ 94 ap_94 hp_94 (fun (x : aden ap_94 × hden hp_94) k => p_94 N x (fun y => k (Pat.inst (.vec (.int .u64) 128) y) (instH hp_94 x.2))) :=
  gd_quiet (E := E_94 N) (p := fun (x : aden ap_94 × hden hp_94) κ => p_94 N x (fun y => κ (Pat.inst (.vec (.int .u64) 128) y))) mixed tyok (eok_94 N) Try.func94 (by kernel_rfl) (by kernel_rfl) (lok_94 N) (fun x k => run_94 N x k)

def lv_95_3 : Live := [(0, none), (1, none), (4, none), (5, none), (7, none)]
def pt_95_3 : SPat := ⟨[(0, .int .i64), (1, .bool), (4, .ptr 0 []), (5, .ptr 1 []), (7, .int .i64)], [some (.vec (.int .i64) 16, 153), some (.vec (.int .i64) 16, 153)]⟩
def px_95_3_0 : SPat := ⟨[(4, .ptr 0 []), (5, .ptr 1 [])], [some (.vec (.int .i64) 16, 153), some (.vec (.int .i64) 16, 153)]⟩
def lo_95_3 : Exit → Live
  | .exit 0 => [(4, none), (5, none)]
  | _ => []
def B_95_3 {R : Type} (N : Nat) (rec : ((Int × Bool × Unit × Unit × Int × Unit) × ((Nat → Int) × (Nat → Int) × Unit)) → Option R) (x : ((Int × Bool × Unit × Unit × Int × Unit) × ((Nat → Int) × (Nat → Int) × Unit))) (κ0 : ((Unit × Unit × Unit) × ((Nat → Int) × (Nat → Int) × Unit)) → Option R) : Option R :=
let i104 : Int := x.1.1
let b105 : Bool := x.1.2.1
let i106 : Int := x.1.2.2.2.2.1
let a107 : (Nat → Int) := x.2.1
let a108 : (Nat → Int) := x.2.2.1
bif (decide (i106 < 16)) then (
bif b105 then (
let i109 : Int := mulA .i64 2 i104
let i110 : Int := remA .i64 i106 2
let i111 : Int := addA .i64 i109 i110
let i112 : Int := quoA .i64 i106 2
let i113 : Int := mulA .i64 16 i112
let i114 : Int := addA .i64 i111 i113
bif decide (0 ≤ i106) then (
bif decide (i106 < (16 : Int)) then (
let a115 : (Nat → Int) := (upd a108 ((Int.toNat i106)) i114)
let i116 : Int := addA .i64 i106 1
rec ((i104, b105, (), (), i116, ()), (a107, a115, ()))) else none) else none) else (
let i117 : Int := mulA .i64 16 i104
let i118 : Int := addA .i64 i117 i106
bif decide (0 ≤ i106) then (
bif decide (i106 < (16 : Int)) then (
let a119 : (Nat → Int) := (upd a108 ((Int.toNat i106)) i118)
let i120 : Int := addA .i64 i106 1
rec ((i104, b105, (), (), i120, ()), (a107, a119, ()))) else none) else none)) else (
κ0 (((), (), ()), (a107, a108, ())))
def l_95_3 {R : Type} (N : Nat) : Nat → ((Int × Bool × Unit × Unit × Int × Unit) × ((Nat → Int) × (Nat → Int) × Unit)) → (((Unit × Unit × Unit) × ((Nat → Int) × (Nat → Int) × Unit)) → Option R) → Option R
  | 0, _, _ => none
  | n + 1, x, κ0 => B_95_3 N (fun y => l_95_3 N n y κ0) x κ0
def ap_95 : List Pat := [.int .i64, .bool]
def hp_95 : List (Option (Pat × Nat)) := []
def p_95 {R : Type} (N : Nat) (x : (Int × Bool × Unit) × (Unit)) (κ0 : (Nat → Int) → Option R) : Option R :=
let i102 : Int := x.1.1
let b103 : Bool := x.1.2.1
l_95_3 N N ((i102, b103, (), (), 0, ()), ((Sch.zero (.arr 16 (.int .i64))), (Sch.zero (.arr 16 (.int .i64))), ())) (fun y121 =>
let a122 : (Nat → Int) := y121.2.1
let a123 : (Nat → Int) := y121.2.2.1
κ0 a123)

def Q_95 {R : Type} (m_95_3 : ((Int × Bool × Unit × Unit × Int × Unit) × ((Nat → Int) × (Nat → Int) × Unit)) → (((Unit × Unit × Unit) × ((Nat → Int) × (Nat → Int) × Unit)) → Option R) → Option R) (x : (Int × Bool × Unit) × (Unit)) (κ0 : (Nat → Int) → Option R) : Option R :=
let i102 : Int := x.1.1
let b103 : Bool := x.1.2.1
m_95_3 ((i102, b103, (), (), 0, ()), ((Sch.zero (.arr 16 (.int .i64))), (Sch.zero (.arr 16 (.int .i64))), ())) (fun y121 =>
let a122 : (Nat → Int) := y121.2.1
let a123 : (Nat → Int) := y121.2.2.1
κ0 a123)
def C_95_3 {R : Type} (m_95_3 : ((Int × Bool × Unit × Unit × Int × Unit) × ((Nat → Int) × (Nat → Int) × Unit)) → (((Unit × Unit × Unit) × ((Nat → Int) × (Nat → Int) × Unit)) → Option R) → Option R) (rec : ((Int × Bool × Unit × Unit × Int × Unit) × ((Nat → Int) × (Nat → Int) × Unit)) → Option R) (x : ((Int × Bool × Unit × Unit × Int × Unit) × ((Nat → Int) × (Nat → Int) × Unit))) (κ0 : ((Unit × Unit × Unit) × ((Nat → Int) × (Nat → Int) × Unit)) → Option R) : Option R :=
let i104 : Int := x.1.1
let b105 : Bool := x.1.2.1
let i106 : Int := x.1.2.2.2.2.1
let a107 : (Nat → Int) := x.2.1
let a108 : (Nat → Int) := x.2.2.1
bif (decide (i106 < 16)) then (
bif b105 then (
let i109 : Int := mulA .i64 2 i104
let i110 : Int := remA .i64 i106 2
let i111 : Int := addA .i64 i109 i110
let i112 : Int := quoA .i64 i106 2
let i113 : Int := mulA .i64 16 i112
let i114 : Int := addA .i64 i111 i113
bif decide (0 ≤ i106) then (
bif decide (i106 < (16 : Int)) then (
let a115 : (Nat → Int) := (upd a108 ((Int.toNat i106)) i114)
let i116 : Int := addA .i64 i106 1
rec ((i104, b105, (), (), i116, ()), (a107, a115, ()))) else none) else none) else (
let i117 : Int := mulA .i64 16 i104
let i118 : Int := addA .i64 i117 i106
bif decide (0 ≤ i106) then (
bif decide (i106 < (16 : Int)) then (
let a119 : (Nat → Int) := (upd a108 ((Int.toNat i106)) i118)
let i120 : Int := addA .i64 i106 1
rec ((i104, b105, (), (), i120, ()), (a107, a119, ()))) else none) else none)) else (
κ0 (((), (), ()), (a107, a108, ())))
def EG_95 {R : Type} : Env R := Env.base QQ LN
def LG_95 {R : Type} (m_95_3 : ((Int × Bool × Unit × Unit × Int × Unit) × ((Nat → Int) × (Nat → Int) × Unit)) → (((Unit × Unit × Unit) × ((Nat → Int) × (Nat → Int) × Unit)) → Option R) → Option R) : Loops R := (Loops.none).add 3 (loopBy 0 lv_95_3 pt_95_3 (fun x k => m_95_3 x (fun y => k (.exit 0) (px_95_3_0.inst y))))
def E_95 {R : Type} (N : Nat) : Env R := EG_95
theorem eok_95 {R : Type} (N : Nat) : EK Try.prog (E_95 (R := R) N) := ek_base _ _
def L_95 {R : Type} (N : Nat) : Loops R := LG_95 (l_95_3 N N)
theorem gstep_95_3 {R : Type} (m_95_3 : ((Int × Bool × Unit × Unit × Int × Unit) × ((Nat → Int) × (Nat → Int) × Unit)) → (((Unit × Unit × Unit) × ((Nat → Int) × (Nat → Int) × Unit)) → Option R) → Option R) (n : Nat) (x : pt_95_3.den) (k : Exit → St → Option R) : iter 0 lv_95_3 lo_95_3 (aexec TT (EG_95) (drawOk TT QQ) (LG_95 m_95_3) (loopAt 3 (bodyOf Try.f95))) (n + 1) (pt_95_3.inst x) k = C_95_3 m_95_3 (fun y => iter 0 lv_95_3 lo_95_3 (aexec TT (EG_95) (drawOk TT QQ) (LG_95 m_95_3) (loopAt 3 (bodyOf Try.f95))) n (pt_95_3.inst y) k) x (fun y => k (.exit 0) (px_95_3_0.inst y)) := by kernel_rfl
theorem step_95_3 {R : Type} (N n : Nat) (x : pt_95_3.den) (k : Exit → St → Option R) : iter 0 lv_95_3 lo_95_3 (aexec TT (E_95 (R := R) N) (drawOk TT QQ) (L_95 N) (loopAt 3 (bodyOf Try.f95))) (n + 1) (pt_95_3.inst x) k = B_95_3 N (fun y => iter 0 lv_95_3 lo_95_3 (aexec TT (E_95 (R := R) N) (drawOk TT QQ) (L_95 N) (loopAt 3 (bodyOf Try.f95))) n (pt_95_3.inst y) k) x (fun y => k (.exit 0) (px_95_3_0.inst y)) := (gstep_95_3 (l_95_3 N N) n x k).trans (by kernel_rfl)
theorem eq_95_3 {R : Type} (N : Nat) : ∀ (n : Nat) (x : pt_95_3.den) (k : Exit → St → Option R), iter 0 lv_95_3 lo_95_3 (aexec TT (E_95 (R := R) N) (drawOk TT QQ) (L_95 N) (loopAt 3 (bodyOf Try.f95))) n (pt_95_3.inst x) k = l_95_3 N n x (fun y => k (.exit 0) (px_95_3_0.inst y)) :=
  iter_eq (K := Exit → St → Option R) (ks := fun k => k) (l := fun n (x : pt_95_3.den) k => l_95_3 N n x (fun y => k (.exit 0) (px_95_3_0.inst y))) (B := fun (rec : pt_95_3.den → Option R) (x : pt_95_3.den) k => B_95_3 N rec x (fun y => k (.exit 0) (px_95_3_0.inst y))) (fun _ _ => rfl) (fun _ _ _ => rfl) (fun n x k => step_95_3 N n x k)
theorem rounds_95_3 {R : Type} (N : Nat) : Rounds 0 TT (E_95 (R := R) N) (drawOk TT QQ) (L_95 N) 3 (loopAt 3 (bodyOf Try.f95)) :=
  rounds_of (p := pt_95_3) (l := fun (x : pt_95_3.den) k => l_95_3 N N x (fun y => k (.exit 0) (px_95_3_0.inst y))) (fun s k => rfl) (fun x k => eq_95_3 N N x k)
theorem loops_95 : loopsIn (bodyOf Try.f95) = [(3, loopAt 3 (bodyOf Try.f95))] := by kernel_rfl
theorem lok_95 {R : Type} (N : Nat) : LOK 0 TT (E_95 (R := R) N) (drawOk TT QQ) (L_95 N) (bodyOf Try.f95) := loops_all loops_95 (by
  simp only [List.forall_mem_cons, List.not_mem_nil, false_implies, implies_true, and_true]
  exact rounds_95_3 N)
theorem grun_95 {R : Type} (m_95_3 : ((Int × Bool × Unit × Unit × Int × Unit) × ((Nat → Int) × (Nat → Int) × Unit)) → (((Unit × Unit × Unit) × ((Nat → Int) × (Nat → Int) × Unit)) → Option R) → Option R) (x : aden ap_95 × hden hp_95) (k : KF R) : fnrun TT (EG_95) (drawOk TT QQ) (LG_95 m_95_3) true Try.f95 (instA ap_95 x.1) (instH hp_95 x.2) k = Q_95 m_95_3 x (fun y => k (Pat.inst (.vec (.int .i64) 16) y) (instH hp_95 x.2)) := by kernel_rfl
theorem run_95 {R : Type} (N : Nat) (x : aden ap_95 × hden hp_95) (k : KF R) : fnrun TT (E_95 (R := R) N) (drawOk TT QQ) (L_95 N) true Try.f95 (instA ap_95 x.1) (instH hp_95 x.2) k = p_95 N x (fun y => k (Pat.inst (.vec (.int .i64) 16) y) (instH hp_95 x.2)) := (grun_95 (l_95_3 N N) x k).trans (by kernel_rfl)
theorem good_95 {R : Type} (N : Nat) : GD (X := R) Try.prog QQ 95 ap_95 hp_95 (fun (x : aden ap_95 × hden hp_95) k => p_95 N x (fun y => k (Pat.inst (.vec (.int .i64) 16) y) (instH hp_95 x.2))) :=
  gd_quiet (E := E_95 N) (p := fun (x : aden ap_95 × hden hp_95) κ => p_95 N x (fun y => κ (Pat.inst (.vec (.int .i64) 16) y))) mixed tyok (eok_95 N) Try.func95 (by kernel_rfl) (by kernel_rfl) (lok_95 N) (fun x k => run_95 N x k)

def ap_93 : List Pat := []
def hp_93 : List (Option (Pat × Nat)) := []
def p_93 {R : Type} (N : Nat) (x : (Unit) × (Unit)) (κ0 : (Nat → (Nat → Int)) → Option R) : Option R :=
let a152 : (Nat → Int) := (upd ((upd ((upd ((upd ((Sch.zero (.arr 4 (.int .i64)))) 0 0)) 1 4)) 2 8)) 3 12)
let a153 : (Nat → Int) := (upd ((upd ((upd ((upd ((Sch.zero (.arr 4 (.int .i64)))) 0 1)) 1 5)) 2 9)) 3 13)
let a154 : (Nat → Int) := (upd ((upd ((upd ((upd ((Sch.zero (.arr 4 (.int .i64)))) 0 2)) 1 6)) 2 10)) 3 14)
let a155 : (Nat → Int) := (upd ((upd ((upd ((upd ((Sch.zero (.arr 4 (.int .i64)))) 0 3)) 1 7)) 2 11)) 3 15)
let a156 : (Nat → Int) := (upd ((upd ((upd ((upd ((Sch.zero (.arr 4 (.int .i64)))) 0 0)) 1 5)) 2 10)) 3 15)
let a157 : (Nat → Int) := (upd ((upd ((upd ((upd ((Sch.zero (.arr 4 (.int .i64)))) 0 1)) 1 6)) 2 11)) 3 12)
let a158 : (Nat → Int) := (upd ((upd ((upd ((upd ((Sch.zero (.arr 4 (.int .i64)))) 0 2)) 1 7)) 2 8)) 3 13)
let a159 : (Nat → Int) := (upd ((upd ((upd ((upd ((Sch.zero (.arr 4 (.int .i64)))) 0 3)) 1 4)) 2 9)) 3 14)
let a160 : (Nat → (Nat → Int)) := (upd ((upd ((upd ((upd ((upd ((upd ((upd ((upd ((Sch.zero (.arr 8 (.arr 4 (.int .i64))))) 0 a152)) 1 a153)) 2 a154)) 3 a155)) 4 a156)) 5 a157)) 6 a158)) 7 a159)
κ0 a160

def Q_93 {R : Type} (x : (Unit) × (Unit)) (κ0 : (Nat → (Nat → Int)) → Option R) : Option R :=
let a152 : (Nat → Int) := (upd ((upd ((upd ((upd ((Sch.zero (.arr 4 (.int .i64)))) 0 0)) 1 4)) 2 8)) 3 12)
let a153 : (Nat → Int) := (upd ((upd ((upd ((upd ((Sch.zero (.arr 4 (.int .i64)))) 0 1)) 1 5)) 2 9)) 3 13)
let a154 : (Nat → Int) := (upd ((upd ((upd ((upd ((Sch.zero (.arr 4 (.int .i64)))) 0 2)) 1 6)) 2 10)) 3 14)
let a155 : (Nat → Int) := (upd ((upd ((upd ((upd ((Sch.zero (.arr 4 (.int .i64)))) 0 3)) 1 7)) 2 11)) 3 15)
let a156 : (Nat → Int) := (upd ((upd ((upd ((upd ((Sch.zero (.arr 4 (.int .i64)))) 0 0)) 1 5)) 2 10)) 3 15)
let a157 : (Nat → Int) := (upd ((upd ((upd ((upd ((Sch.zero (.arr 4 (.int .i64)))) 0 1)) 1 6)) 2 11)) 3 12)
let a158 : (Nat → Int) := (upd ((upd ((upd ((upd ((Sch.zero (.arr 4 (.int .i64)))) 0 2)) 1 7)) 2 8)) 3 13)
let a159 : (Nat → Int) := (upd ((upd ((upd ((upd ((Sch.zero (.arr 4 (.int .i64)))) 0 3)) 1 4)) 2 9)) 3 14)
let a160 : (Nat → (Nat → Int)) := (upd ((upd ((upd ((upd ((upd ((upd ((upd ((upd ((Sch.zero (.arr 8 (.arr 4 (.int .i64))))) 0 a152)) 1 a153)) 2 a154)) 3 a155)) 4 a156)) 5 a157)) 6 a158)) 7 a159)
κ0 a160
def EG_93 {R : Type} : Env R := Env.base QQ LN
def LG_93 {R : Type} : Loops R := Loops.none
def E_93 {R : Type} (N : Nat) : Env R := EG_93
theorem eok_93 {R : Type} (N : Nat) : EK Try.prog (E_93 (R := R) N) := ek_base _ _
def L_93 {R : Type} (N : Nat) : Loops R := LG_93
theorem lok_93 {R : Type} (N : Nat) : LOK 0 TT (E_93 (R := R) N) (drawOk TT QQ) (L_93 N) (bodyOf Try.f93) := loops_nil (by kernel_rfl)
theorem grun_93 {R : Type} (x : aden ap_93 × hden hp_93) (k : KF R) : fnrun TT (EG_93) (drawOk TT QQ) (LG_93) true Try.f93 (instA ap_93 x.1) (instH hp_93 x.2) k = Q_93 x (fun y => k (Pat.inst (.vec (.arr 4 (.int .i64)) 8) y) (instH hp_93 x.2)) := by kernel_rfl
theorem run_93 {R : Type} (N : Nat) (x : aden ap_93 × hden hp_93) (k : KF R) : fnrun TT (E_93 (R := R) N) (drawOk TT QQ) (L_93 N) true Try.f93 (instA ap_93 x.1) (instH hp_93 x.2) k = p_93 N x (fun y => k (Pat.inst (.vec (.arr 4 (.int .i64)) 8) y) (instH hp_93 x.2)) := (grun_93 x k).trans (by kernel_rfl)
theorem good_93 {R : Type} (N : Nat) : GD (X := R) Try.prog QQ 93 ap_93 hp_93 (fun (x : aden ap_93 × hden hp_93) k => p_93 N x (fun y => k (Pat.inst (.vec (.arr 4 (.int .i64)) 8) y) (instH hp_93 x.2))) :=
  gd_quiet (E := E_93 N) (p := fun (x : aden ap_93 × hden hp_93) κ => p_93 N x (fun y => κ (Pat.inst (.vec (.arr 4 (.int .i64)) 8) y))) mixed tyok (eok_93 N) Try.func93 (by kernel_rfl) (by kernel_rfl) (lok_93 N) (fun x k => run_93 N x k)

def lv_40_2 : Live := [(1, none), (2, none), (9, none), (10, none)]
def pt_40_2 : SPat := ⟨[(1, .ptr 0 []), (2, .ptr 1 []), (9, .vec (.arr 4 (.int .i64)) 8), (10, .int .i64)], [some (.vec (.int .u64) 16, 62), some (.vec (.int .u64) 16, 62)]⟩
def px_40_2_0 : SPat := ⟨[(1, .ptr 0 []), (2, .ptr 1 [])], [some (.vec (.int .u64) 16, 62), some (.vec (.int .u64) 16, 62)]⟩
def lo_40_2 : Exit → Live
  | .exit 0 => [(1, none), (2, none)]
  | _ => []
def B_40_2 {R : Type} (N : Nat) (rec : ((Unit × Unit × (Nat → (Nat → Int)) × Int × Unit) × ((Nat → Int) × (Nat → Int) × Unit)) → Option R) (x : ((Unit × Unit × (Nat → (Nat → Int)) × Int × Unit) × ((Nat → Int) × (Nat → Int) × Unit))) (κ0 : ((Unit × Unit × Unit) × ((Nat → Int) × (Nat → Int) × Unit)) → Option R) : Option R :=
let a163 : (Nat → (Nat → Int)) := x.1.2.2.1
let i164 : Int := x.1.2.2.2.1
let a165 : (Nat → Int) := x.2.1
let a166 : (Nat → Int) := x.2.2.1
bif (decide (i164 < 8)) then (
bif decide (0 ≤ i164) then (
bif decide (i164 < (8 : Int)) then (
let a167 : (Nat → Int) := (a163 ((Int.toNat i164)))
let i168 : Int := (a167 0)
let i169 : Int := (a167 1)
let i170 : Int := (a167 2)
let i171 : Int := (a167 3)
bif decide (0 ≤ i168) then (
bif decide (i168 < (16 : Int)) then (
let i172 : Int := (a165 ((Int.toNat i168)))
bif decide (0 ≤ i169) then (
bif decide (i169 < (16 : Int)) then (
let i173 : Int := (a165 ((Int.toNat i169)))
bif decide (0 ≤ i170) then (
bif decide (i170 < (16 : Int)) then (
let i174 : Int := (a165 ((Int.toNat i170)))
bif decide (0 ≤ i171) then (
bif decide (i171 < (16 : Int)) then (
let i175 : Int := (a165 ((Int.toNat i171)))
p_38 N ((i172, i173, i174, i175, ()), ()) (fun y176 =>
let i177 : Int := y176.1
let i178 : Int := y176.2.1
let i179 : Int := y176.2.2.1
let i180 : Int := y176.2.2.2.1
bif decide (0 ≤ i168) then (
bif decide (i168 < (16 : Int)) then (
let a181 : (Nat → Int) := (upd a165 ((Int.toNat i168)) i177)
bif decide (0 ≤ i169) then (
bif decide (i169 < (16 : Int)) then (
let a182 : (Nat → Int) := (upd a181 ((Int.toNat i169)) i178)
bif decide (0 ≤ i170) then (
bif decide (i170 < (16 : Int)) then (
let a183 : (Nat → Int) := (upd a182 ((Int.toNat i170)) i179)
bif decide (0 ≤ i171) then (
bif decide (i171 < (16 : Int)) then (
let a184 : (Nat → Int) := (upd a183 ((Int.toNat i171)) i180)
let i185 : Int := addA .i64 i164 1
rec (((), (), a163, i185, ()), (a184, a166, ()))) else none) else none) else none) else none) else none) else none) else none) else none)) else none) else none) else none) else none) else none) else none) else none) else none) else none) else none) else (
κ0 (((), (), ()), (a165, a166, ())))
def l_40_2 {R : Type} (N : Nat) : Nat → ((Unit × Unit × (Nat → (Nat → Int)) × Int × Unit) × ((Nat → Int) × (Nat → Int) × Unit)) → (((Unit × Unit × Unit) × ((Nat → Int) × (Nat → Int) × Unit)) → Option R) → Option R
  | 0, _, _ => none
  | n + 1, x, κ0 => B_40_2 N (fun y => l_40_2 N n y κ0) x κ0
def ap_40 : List Pat := [.vec (.int .u64) 16]
def hp_40 : List (Option (Pat × Nat)) := []
def p_40 {R : Type} (N : Nat) (x : ((Nat → Int) × Unit) × (Unit)) (κ0 : (Nat → Int) → Option R) : Option R :=
let a151 : (Nat → Int) := x.1.1
p_93 N ((), ()) (fun y161 =>
let a162 : (Nat → (Nat → Int)) := y161
l_40_2 N N (((), (), a162, 0, ()), (a151, (Sch.zero (.arr 16 (.int .u64))), ())) (fun y186 =>
let a187 : (Nat → Int) := y186.2.1
let a188 : (Nat → Int) := y186.2.2.1
κ0 a187))

def Q_40 {R : Type} (q_93 : (Unit) × (Unit) → ((Nat → (Nat → Int)) → Option R) → Option R) (q_38 : (Int × Int × Int × Int × Unit) × (Unit) → ((Int × (Int × (Int × (Int × Unit)))) → Option R) → Option R) (m_40_2 : ((Unit × Unit × (Nat → (Nat → Int)) × Int × Unit) × ((Nat → Int) × (Nat → Int) × Unit)) → (((Unit × Unit × Unit) × ((Nat → Int) × (Nat → Int) × Unit)) → Option R) → Option R) (x : ((Nat → Int) × Unit) × (Unit)) (κ0 : (Nat → Int) → Option R) : Option R :=
let a151 : (Nat → Int) := x.1.1
q_93 ((), ()) (fun y161 =>
let a162 : (Nat → (Nat → Int)) := y161
m_40_2 (((), (), a162, 0, ()), (a151, (Sch.zero (.arr 16 (.int .u64))), ())) (fun y186 =>
let a187 : (Nat → Int) := y186.2.1
let a188 : (Nat → Int) := y186.2.2.1
κ0 a187))
def C_40_2 {R : Type} (q_93 : (Unit) × (Unit) → ((Nat → (Nat → Int)) → Option R) → Option R) (q_38 : (Int × Int × Int × Int × Unit) × (Unit) → ((Int × (Int × (Int × (Int × Unit)))) → Option R) → Option R) (m_40_2 : ((Unit × Unit × (Nat → (Nat → Int)) × Int × Unit) × ((Nat → Int) × (Nat → Int) × Unit)) → (((Unit × Unit × Unit) × ((Nat → Int) × (Nat → Int) × Unit)) → Option R) → Option R) (rec : ((Unit × Unit × (Nat → (Nat → Int)) × Int × Unit) × ((Nat → Int) × (Nat → Int) × Unit)) → Option R) (x : ((Unit × Unit × (Nat → (Nat → Int)) × Int × Unit) × ((Nat → Int) × (Nat → Int) × Unit))) (κ0 : ((Unit × Unit × Unit) × ((Nat → Int) × (Nat → Int) × Unit)) → Option R) : Option R :=
let a163 : (Nat → (Nat → Int)) := x.1.2.2.1
let i164 : Int := x.1.2.2.2.1
let a165 : (Nat → Int) := x.2.1
let a166 : (Nat → Int) := x.2.2.1
bif (decide (i164 < 8)) then (
bif decide (0 ≤ i164) then (
bif decide (i164 < (8 : Int)) then (
let a167 : (Nat → Int) := (a163 ((Int.toNat i164)))
let i168 : Int := (a167 0)
let i169 : Int := (a167 1)
let i170 : Int := (a167 2)
let i171 : Int := (a167 3)
bif decide (0 ≤ i168) then (
bif decide (i168 < (16 : Int)) then (
let i172 : Int := (a165 ((Int.toNat i168)))
bif decide (0 ≤ i169) then (
bif decide (i169 < (16 : Int)) then (
let i173 : Int := (a165 ((Int.toNat i169)))
bif decide (0 ≤ i170) then (
bif decide (i170 < (16 : Int)) then (
let i174 : Int := (a165 ((Int.toNat i170)))
bif decide (0 ≤ i171) then (
bif decide (i171 < (16 : Int)) then (
let i175 : Int := (a165 ((Int.toNat i171)))
q_38 ((i172, i173, i174, i175, ()), ()) (fun y176 =>
let i177 : Int := y176.1
let i178 : Int := y176.2.1
let i179 : Int := y176.2.2.1
let i180 : Int := y176.2.2.2.1
bif decide (0 ≤ i168) then (
bif decide (i168 < (16 : Int)) then (
let a181 : (Nat → Int) := (upd a165 ((Int.toNat i168)) i177)
bif decide (0 ≤ i169) then (
bif decide (i169 < (16 : Int)) then (
let a182 : (Nat → Int) := (upd a181 ((Int.toNat i169)) i178)
bif decide (0 ≤ i170) then (
bif decide (i170 < (16 : Int)) then (
let a183 : (Nat → Int) := (upd a182 ((Int.toNat i170)) i179)
bif decide (0 ≤ i171) then (
bif decide (i171 < (16 : Int)) then (
let a184 : (Nat → Int) := (upd a183 ((Int.toNat i171)) i180)
let i185 : Int := addA .i64 i164 1
rec (((), (), a163, i185, ()), (a184, a166, ()))) else none) else none) else none) else none) else none) else none) else none) else none)) else none) else none) else none) else none) else none) else none) else none) else none) else none) else none) else (
κ0 (((), (), ()), (a165, a166, ())))
def EG_40 {R : Type} (q_93 : (Unit) × (Unit) → ((Nat → (Nat → Int)) → Option R) → Option R) (q_38 : (Int × Int × Int × Int × Unit) × (Unit) → ((Int × (Int × (Int × (Int × Unit)))) → Option R) → Option R) : Env R := ((Env.base QQ LN).add 93 ap_93 hp_93 (fun (x : aden ap_93 × hden hp_93) k => q_93 x (fun y => k (Pat.inst (.vec (.arr 4 (.int .i64)) 8) y) (instH hp_93 x.2)))).add 38 ap_38 hp_38 (fun (x : aden ap_38 × hden hp_38) k => q_38 x (fun y => k (Pat.inst (.tup (.fcons (.int .u64) (.fcons (.int .u64) (.fcons (.int .u64) (.fcons (.int .u64) (.fnil)))))) y) (instH hp_38 x.2)))
def LG_40 {R : Type} (m_40_2 : ((Unit × Unit × (Nat → (Nat → Int)) × Int × Unit) × ((Nat → Int) × (Nat → Int) × Unit)) → (((Unit × Unit × Unit) × ((Nat → Int) × (Nat → Int) × Unit)) → Option R) → Option R) : Loops R := (Loops.none).add 2 (loopBy 0 lv_40_2 pt_40_2 (fun x k => m_40_2 x (fun y => k (.exit 0) (px_40_2_0.inst y))))
def E_40 {R : Type} (N : Nat) : Env R := EG_40 (p_93 N) (p_38 N)
theorem eok_40 {R : Type} (N : Nat) : EK Try.prog (E_40 (R := R) N) := ek_add (ek_add (ek_base _ _) (good_93 N)) (good_38 N)
def L_40 {R : Type} (N : Nat) : Loops R := LG_40 (l_40_2 N N)
theorem gstep_40_2 {R : Type} (q_93 : (Unit) × (Unit) → ((Nat → (Nat → Int)) → Option R) → Option R) (q_38 : (Int × Int × Int × Int × Unit) × (Unit) → ((Int × (Int × (Int × (Int × Unit)))) → Option R) → Option R) (m_40_2 : ((Unit × Unit × (Nat → (Nat → Int)) × Int × Unit) × ((Nat → Int) × (Nat → Int) × Unit)) → (((Unit × Unit × Unit) × ((Nat → Int) × (Nat → Int) × Unit)) → Option R) → Option R) (n : Nat) (x : pt_40_2.den) (k : Exit → St → Option R) : iter 0 lv_40_2 lo_40_2 (aexec TT (EG_40 q_93 q_38) (drawOk TT QQ) (LG_40 m_40_2) (loopAt 2 (bodyOf Try.f40))) (n + 1) (pt_40_2.inst x) k = C_40_2 q_93 q_38 m_40_2 (fun y => iter 0 lv_40_2 lo_40_2 (aexec TT (EG_40 q_93 q_38) (drawOk TT QQ) (LG_40 m_40_2) (loopAt 2 (bodyOf Try.f40))) n (pt_40_2.inst y) k) x (fun y => k (.exit 0) (px_40_2_0.inst y)) := by kernel_rfl
theorem step_40_2 {R : Type} (N n : Nat) (x : pt_40_2.den) (k : Exit → St → Option R) : iter 0 lv_40_2 lo_40_2 (aexec TT (E_40 (R := R) N) (drawOk TT QQ) (L_40 N) (loopAt 2 (bodyOf Try.f40))) (n + 1) (pt_40_2.inst x) k = B_40_2 N (fun y => iter 0 lv_40_2 lo_40_2 (aexec TT (E_40 (R := R) N) (drawOk TT QQ) (L_40 N) (loopAt 2 (bodyOf Try.f40))) n (pt_40_2.inst y) k) x (fun y => k (.exit 0) (px_40_2_0.inst y)) := (gstep_40_2 (p_93 N) (p_38 N) (l_40_2 N N) n x k).trans (by kernel_rfl)
theorem eq_40_2 {R : Type} (N : Nat) : ∀ (n : Nat) (x : pt_40_2.den) (k : Exit → St → Option R), iter 0 lv_40_2 lo_40_2 (aexec TT (E_40 (R := R) N) (drawOk TT QQ) (L_40 N) (loopAt 2 (bodyOf Try.f40))) n (pt_40_2.inst x) k = l_40_2 N n x (fun y => k (.exit 0) (px_40_2_0.inst y)) :=
  iter_eq (K := Exit → St → Option R) (ks := fun k => k) (l := fun n (x : pt_40_2.den) k => l_40_2 N n x (fun y => k (.exit 0) (px_40_2_0.inst y))) (B := fun (rec : pt_40_2.den → Option R) (x : pt_40_2.den) k => B_40_2 N rec x (fun y => k (.exit 0) (px_40_2_0.inst y))) (fun _ _ => rfl) (fun _ _ _ => rfl) (fun n x k => step_40_2 N n x k)
theorem rounds_40_2 {R : Type} (N : Nat) : Rounds 0 TT (E_40 (R := R) N) (drawOk TT QQ) (L_40 N) 2 (loopAt 2 (bodyOf Try.f40)) :=
  rounds_of (p := pt_40_2) (l := fun (x : pt_40_2.den) k => l_40_2 N N x (fun y => k (.exit 0) (px_40_2_0.inst y))) (fun s k => rfl) (fun x k => eq_40_2 N N x k)
theorem loops_40 : loopsIn (bodyOf Try.f40) = [(2, loopAt 2 (bodyOf Try.f40))] := by kernel_rfl
theorem lok_40 {R : Type} (N : Nat) : LOK 0 TT (E_40 (R := R) N) (drawOk TT QQ) (L_40 N) (bodyOf Try.f40) := loops_all loops_40 (by
  simp only [List.forall_mem_cons, List.not_mem_nil, false_implies, implies_true, and_true]
  exact rounds_40_2 N)
theorem grun_40 {R : Type} (q_93 : (Unit) × (Unit) → ((Nat → (Nat → Int)) → Option R) → Option R) (q_38 : (Int × Int × Int × Int × Unit) × (Unit) → ((Int × (Int × (Int × (Int × Unit)))) → Option R) → Option R) (m_40_2 : ((Unit × Unit × (Nat → (Nat → Int)) × Int × Unit) × ((Nat → Int) × (Nat → Int) × Unit)) → (((Unit × Unit × Unit) × ((Nat → Int) × (Nat → Int) × Unit)) → Option R) → Option R) (x : aden ap_40 × hden hp_40) (k : KF R) : fnrun TT (EG_40 q_93 q_38) (drawOk TT QQ) (LG_40 m_40_2) true Try.f40 (instA ap_40 x.1) (instH hp_40 x.2) k = Q_40 q_93 q_38 m_40_2 x (fun y => k (Pat.inst (.vec (.int .u64) 16) y) (instH hp_40 x.2)) := by kernel_rfl
theorem run_40 {R : Type} (N : Nat) (x : aden ap_40 × hden hp_40) (k : KF R) : fnrun TT (E_40 (R := R) N) (drawOk TT QQ) (L_40 N) true Try.f40 (instA ap_40 x.1) (instH hp_40 x.2) k = p_40 N x (fun y => k (Pat.inst (.vec (.int .u64) 16) y) (instH hp_40 x.2)) := (grun_40 (p_93 N) (p_38 N) (l_40_2 N N) x k).trans (by kernel_rfl)
theorem good_40 {R : Type} (N : Nat) : GD (X := R) Try.prog QQ 40 ap_40 hp_40 (fun (x : aden ap_40 × hden hp_40) k => p_40 N x (fun y => k (Pat.inst (.vec (.int .u64) 16) y) (instH hp_40 x.2))) :=
  gd_quiet (E := E_40 N) (p := fun (x : aden ap_40 × hden hp_40) κ => p_40 N x (fun y => κ (Pat.inst (.vec (.int .u64) 16) y))) mixed tyok (eok_40 N) Try.func40 (by kernel_rfl) (by kernel_rfl) (lok_40 N) (fun x k => run_40 N x k)

def lv_44_10 : Live := [(1, none), (2, none), (4, none), (6, none), (7, none), (12, none), (13, none), (14, none), (18, none), (24, none), (25, none)]
def pt_44_10 : SPat := ⟨[(1, .ptr 0 []), (2, .ptr 1 []), (4, .bool), (6, .ptr 2 []), (7, .ptr 3 []), (12, .sl 4), (13, .int .i64), (14, .int .i64), (18, .int .i64), (24, .vec (.int .i64) 16), (25, .int .i64)], [some (.vec (.int .u64) 128, 70), some (.vec (.int .u64) 128, 70), some (.vec (.int .i64) 16, 153), some (.vec (.int .u64) 16, 62), some (.lst (.bool), 4)]⟩
def px_44_10_0 : SPat := ⟨[(1, .ptr 0 []), (2, .ptr 1 []), (4, .bool), (6, .ptr 2 []), (7, .ptr 3 []), (12, .sl 4), (13, .int .i64), (14, .int .i64), (18, .int .i64)], [some (.vec (.int .u64) 128, 70), some (.vec (.int .u64) 128, 70), some (.vec (.int .i64) 16, 153), some (.vec (.int .u64) 16, 62), some (.lst (.bool), 4)]⟩
def lo_44_10 : Exit → Live
  | .exit 4 => [(1, none), (2, none), (4, none), (6, none), (7, none), (12, none), (13, none), (14, none), (18, none)]
  | _ => []
def B_44_10 {R : Type} (N : Nat) (rec : ((Unit × Unit × Bool × Unit × Unit × Unit × Int × Int × Int × (Nat → Int) × Int × Unit) × ((Nat → Int) × (Nat → Int) × (Nat → Int) × (Nat → Int) × (List Bool) × Unit)) → Option R) (x : ((Unit × Unit × Bool × Unit × Unit × Unit × Int × Int × Int × (Nat → Int) × Int × Unit) × ((Nat → Int) × (Nat → Int) × (Nat → Int) × (Nat → Int) × (List Bool) × Unit))) (κ0 : ((Unit × Unit × Bool × Unit × Unit × Unit × Int × Int × Int × Unit) × ((Nat → Int) × (Nat → Int) × (Nat → Int) × (Nat → Int) × (List Bool) × Unit)) → Option R) : Option R :=
let b126 : Bool := x.1.2.2.1
let i127 : Int := x.1.2.2.2.2.2.2.1
let i128 : Int := x.1.2.2.2.2.2.2.2.1
let i129 : Int := x.1.2.2.2.2.2.2.2.2.1
let a130 : (Nat → Int) := x.1.2.2.2.2.2.2.2.2.2.1
let i131 : Int := x.1.2.2.2.2.2.2.2.2.2.2.1
let a132 : (Nat → Int) := x.2.1
let a133 : (Nat → Int) := x.2.2.1
let a134 : (Nat → Int) := x.2.2.2.1
let a135 : (Nat → Int) := x.2.2.2.2.1
let l136 : (List Bool) := x.2.2.2.2.2.1
bif (decide (i131 < 16)) then (
bif decide (0 ≤ i131) then (
bif decide (i131 < (16 : Int)) then (
let i137 : Int := (a130 ((Int.toNat i131)))
bif decide (0 ≤ i137) then (
bif decide (i137 < (128 : Int)) then (
let i138 : Int := (a132 ((Int.toNat i137)))
bif decide (0 ≤ i131) then (
bif decide (i131 < (16 : Int)) then (
let a139 : (Nat → Int) := (upd a135 ((Int.toNat i131)) i138)
let i140 : Int := addA .i64 i131 1
rec (((), (), b126, (), (), (), i127, i128, i129, a130, i140, ()), (a132, a133, a134, a139, l136, ()))) else none) else none) else none) else none) else none) else none) else (
κ0 (((), (), b126, (), (), (), i127, i128, i129, ()), (a132, a133, a134, a135, l136, ())))
def l_44_10 {R : Type} (N : Nat) : Nat → ((Unit × Unit × Bool × Unit × Unit × Unit × Int × Int × Int × (Nat → Int) × Int × Unit) × ((Nat → Int) × (Nat → Int) × (Nat → Int) × (Nat → Int) × (List Bool) × Unit)) → (((Unit × Unit × Bool × Unit × Unit × Unit × Int × Int × Int × Unit) × ((Nat → Int) × (Nat → Int) × (Nat → Int) × (Nat → Int) × (List Bool) × Unit)) → Option R) → Option R
  | 0, _, _ => none
  | n + 1, x, κ0 => B_44_10 N (fun y => l_44_10 N n y κ0) x κ0
def lv_44_16 : Live := [(1, none), (2, none), (4, none), (7, none), (12, none), (13, none), (14, none), (18, none), (37, none), (38, none)]
def pt_44_16 : SPat := ⟨[(1, .ptr 0 []), (2, .ptr 1 []), (4, .bool), (7, .ptr 2 []), (12, .sl 3), (13, .int .i64), (14, .int .i64), (18, .int .i64), (37, .vec (.int .i64) 16), (38, .int .i64)], [some (.vec (.int .u64) 128, 70), some (.vec (.int .u64) 128, 70), some (.vec (.int .u64) 16, 62), some (.lst (.bool), 4)]⟩
def px_44_16_0 : SPat := ⟨[(1, .ptr 0 []), (2, .ptr 1 []), (4, .bool), (12, .sl 2), (13, .int .i64), (14, .int .i64), (18, .int .i64)], [some (.vec (.int .u64) 128, 70), some (.vec (.int .u64) 128, 70), some (.lst (.bool), 4)]⟩
def lo_44_16 : Exit → Live
  | .exit 6 => [(1, none), (2, none), (4, none), (12, none), (13, none), (14, none), (18, none)]
  | _ => []
def B_44_16 {R : Type} (N : Nat) (rec : ((Unit × Unit × Bool × Unit × Unit × Int × Int × Int × (Nat → Int) × Int × Unit) × ((Nat → Int) × (Nat → Int) × (Nat → Int) × (List Bool) × Unit)) → Option R) (x : ((Unit × Unit × Bool × Unit × Unit × Int × Int × Int × (Nat → Int) × Int × Unit) × ((Nat → Int) × (Nat → Int) × (Nat → Int) × (List Bool) × Unit))) (κ0 : ((Unit × Unit × Bool × Unit × Int × Int × Int × Unit) × ((Nat → Int) × (Nat → Int) × (List Bool) × Unit)) → Option R) : Option R :=
let b191 : Bool := x.1.2.2.1
let i192 : Int := x.1.2.2.2.2.2.1
let i193 : Int := x.1.2.2.2.2.2.2.1
let i194 : Int := x.1.2.2.2.2.2.2.2.1
let a195 : (Nat → Int) := x.1.2.2.2.2.2.2.2.2.1
let i196 : Int := x.1.2.2.2.2.2.2.2.2.2.1
let a197 : (Nat → Int) := x.2.1
let a198 : (Nat → Int) := x.2.2.1
let a199 : (Nat → Int) := x.2.2.2.1
let l200 : (List Bool) := x.2.2.2.2.1
bif (decide (i196 < 16)) then (
bif decide (0 ≤ i196) then (
bif decide (i196 < (16 : Int)) then (
let i201 : Int := (a195 ((Int.toNat i196)))
bif decide (0 ≤ i196) then (
bif decide (i196 < (16 : Int)) then (
let i202 : Int := (a199 ((Int.toNat i196)))
bif decide (0 ≤ i201) then (
bif decide (i201 < (128 : Int)) then (
let a203 : (Nat → Int) := (upd a197 ((Int.toNat i201)) i202)
let i204 : Int := addA .i64 i196 1
rec (((), (), b191, (), (), i192, i193, i194, a195, i204, ()), (a203, a198, a199, l200, ()))) else none) else none) else none) else none) else none) else none) else (
κ0 (((), (), b191, (), i192, i193, i194, ()), (a197, a198, l200, ())))
def l_44_16 {R : Type} (N : Nat) : Nat → ((Unit × Unit × Bool × Unit × Unit × Int × Int × Int × (Nat → Int) × Int × Unit) × ((Nat → Int) × (Nat → Int) × (Nat → Int) × (List Bool) × Unit)) → (((Unit × Unit × Bool × Unit × Int × Int × Int × Unit) × ((Nat → Int) × (Nat → Int) × (List Bool) × Unit)) → Option R) → Option R
  | 0, _, _ => none
  | n + 1, x, κ0 => B_44_16 N (fun y => l_44_16 N n y κ0) x κ0
def lv_44_5 : Live := [(1, none), (2, none), (4, none), (12, none), (13, none), (14, none), (18, none)]
def pt_44_5 : SPat := ⟨[(1, .ptr 0 []), (2, .ptr 1 []), (4, .bool), (12, .sl 2), (13, .int .i64), (14, .int .i64), (18, .int .i64)], [some (.vec (.int .u64) 128, 70), some (.vec (.int .u64) 128, 70), some (.lst (.bool), 4)]⟩
def px_44_5_0 : SPat := ⟨[(1, .ptr 0 []), (2, .ptr 1 []), (12, .sl 2), (13, .int .i64), (14, .int .i64)], [some (.vec (.int .u64) 128, 70), some (.vec (.int .u64) 128, 70), some (.lst (.bool), 4)]⟩
def lo_44_5 : Exit → Live
  | .exit 2 => [(1, none), (2, none), (12, none), (13, none), (14, none)]
  | _ => []
def B_44_5 {R : Type} (N : Nat) (rec : ((Unit × Unit × Bool × Unit × Int × Int × Int × Unit) × ((Nat → Int) × (Nat → Int) × (List Bool) × Unit)) → Option R) (x : ((Unit × Unit × Bool × Unit × Int × Int × Int × Unit) × ((Nat → Int) × (Nat → Int) × (List Bool) × Unit))) (κ0 : ((Unit × Unit × Unit × Int × Int × Unit) × ((Nat → Int) × (Nat → Int) × (List Bool) × Unit)) → Option R) : Option R :=
let b95 : Bool := x.1.2.2.1
let i96 : Int := x.1.2.2.2.2.1
let i97 : Int := x.1.2.2.2.2.2.1
let i98 : Int := x.1.2.2.2.2.2.2.1
let a99 : (Nat → Int) := x.2.1
let a100 : (Nat → Int) := x.2.2.1
let l101 : (List Bool) := x.2.2.2.1
bif (decide (i98 < 8)) then (
p_95 N ((i98, b95, ()), ()) (fun y124 =>
let a125 : (Nat → Int) := y124
l_44_10 N N (((), (), b95, (), (), (), i96, i97, i98, a125, 0, ()), (a99, a100, a125, (Sch.zero (.arr 16 (.int .u64))), l101, ())) (fun y141 =>
let b142 : Bool := y141.1.2.2.1
let i143 : Int := y141.1.2.2.2.2.2.2.1
let i144 : Int := y141.1.2.2.2.2.2.2.2.1
let i145 : Int := y141.1.2.2.2.2.2.2.2.2.1
let a146 : (Nat → Int) := y141.2.1
let a147 : (Nat → Int) := y141.2.2.1
let a148 : (Nat → Int) := y141.2.2.2.1
let a149 : (Nat → Int) := y141.2.2.2.2.1
let l150 : (List Bool) := y141.2.2.2.2.2.1
p_40 N ((a149, ()), ()) (fun y189 =>
let a190 : (Nat → Int) := y189
l_44_16 N N (((), (), b142, (), (), i143, i144, i145, a148, 0, ()), (a146, a147, a190, l150, ())) (fun y205 =>
let b206 : Bool := y205.1.2.2.1
let i207 : Int := y205.1.2.2.2.2.1
let i208 : Int := y205.1.2.2.2.2.2.1
let i209 : Int := y205.1.2.2.2.2.2.2.1
let a210 : (Nat → Int) := y205.2.1
let a211 : (Nat → Int) := y205.2.2.1
let l212 : (List Bool) := y205.2.2.2.1
let i213 : Int := addA .i64 i209 1
rec (((), (), b206, (), i207, i208, i213, ()), (a210, a211, l212, ()))))))) else (
κ0 (((), (), (), i96, i97, ()), (a99, a100, l101, ())))
def l_44_5 {R : Type} (N : Nat) : Nat → ((Unit × Unit × Bool × Unit × Int × Int × Int × Unit) × ((Nat → Int) × (Nat → Int) × (List Bool) × Unit)) → (((Unit × Unit × Unit × Int × Int × Unit) × ((Nat → Int) × (Nat → Int) × (List Bool) × Unit)) → Option R) → Option R
  | 0, _, _ => none
  | n + 1, x, κ0 => B_44_5 N (fun y => l_44_5 N n y κ0) x κ0
def lv_44_2 : Live := [(1, none), (2, none), (12, none), (13, none), (14, none)]
def pt_44_2 : SPat := ⟨[(1, .ptr 0 []), (2, .ptr 1 []), (12, .sl 2), (13, .int .i64), (14, .int .i64)], [some (.vec (.int .u64) 128, 70), some (.vec (.int .u64) 128, 70), some (.lst (.bool), 4)]⟩
def px_44_2_0 : SPat := ⟨[(1, .ptr 0 []), (2, .ptr 1 [])], [some (.vec (.int .u64) 128, 70), some (.vec (.int .u64) 128, 70)]⟩
def lo_44_2 : Exit → Live
  | .exit 0 => [(1, none), (2, none)]
  | _ => []
def B_44_2 {R : Type} (N : Nat) (rec : ((Unit × Unit × Unit × Int × Int × Unit) × ((Nat → Int) × (Nat → Int) × (List Bool) × Unit)) → Option R) (x : ((Unit × Unit × Unit × Int × Int × Unit) × ((Nat → Int) × (Nat → Int) × (List Bool) × Unit))) (κ0 : ((Unit × Unit × Unit) × ((Nat → Int) × (Nat → Int) × Unit)) → Option R) : Option R :=
let i89 : Int := x.1.2.2.2.1
let i90 : Int := x.1.2.2.2.2.1
let a91 : (Nat → Int) := x.2.1
let a92 : (Nat → Int) := x.2.2.1
let l93 : (List Bool) := x.2.2.2.1
bif (decide (i90 < i89)) then (
bif decide (0 ≤ i90) then (
bif decide (i90 < ((List.length l93) : Int)) then (
let b94 : Bool := (List.getD l93 ((Int.toNat i90)) (Sch.zero (.bool)))
l_44_5 N N (((), (), b94, (), i89, i90, 0, ()), (a91, a92, l93, ())) (fun y214 =>
let i215 : Int := y214.1.2.2.2.1
let i216 : Int := y214.1.2.2.2.2.1
let a217 : (Nat → Int) := y214.2.1
let a218 : (Nat → Int) := y214.2.2.1
let l219 : (List Bool) := y214.2.2.2.1
let i220 : Int := addA .i64 i216 1
rec (((), (), (), i215, i220, ()), (a217, a218, l219, ())))) else none) else none) else (
κ0 (((), (), ()), (a91, a92, ())))
def l_44_2 {R : Type} (N : Nat) : Nat → ((Unit × Unit × Unit × Int × Int × Unit) × ((Nat → Int) × (Nat → Int) × (List Bool) × Unit)) → (((Unit × Unit × Unit) × ((Nat → Int) × (Nat → Int) × Unit)) → Option R) → Option R
  | 0, _, _ => none
  | n + 1, x, κ0 => B_44_2 N (fun y => l_44_2 N n y κ0) x κ0
def ap_44 : List Pat := [.vec (.int .u64) 128]
def hp_44 : List (Option (Pat × Nat)) := []
def p_44 {R : Type} (N : Nat) (x : ((Nat → Int) × Unit) × (Unit)) (κ0 : (Nat → Int) → Option R) : Option R :=
let a86 : (Nat → Int) := x.1.1
let l87 : (List Bool) := [false, true]
let i88 : Int := (((List.length l87) : Nat) : Int)
l_44_2 N N (((), (), (), i88, 0, ()), (a86, (Sch.zero (.arr 128 (.int .u64))), l87, ())) (fun y221 =>
let a222 : (Nat → Int) := y221.2.1
let a223 : (Nat → Int) := y221.2.2.1
κ0 a222)

def Q_44 {R : Type} (q_95 : (Int × Bool × Unit) × (Unit) → ((Nat → Int) → Option R) → Option R) (q_40 : ((Nat → Int) × Unit) × (Unit) → ((Nat → Int) → Option R) → Option R) (m_44_10 : ((Unit × Unit × Bool × Unit × Unit × Unit × Int × Int × Int × (Nat → Int) × Int × Unit) × ((Nat → Int) × (Nat → Int) × (Nat → Int) × (Nat → Int) × (List Bool) × Unit)) → (((Unit × Unit × Bool × Unit × Unit × Unit × Int × Int × Int × Unit) × ((Nat → Int) × (Nat → Int) × (Nat → Int) × (Nat → Int) × (List Bool) × Unit)) → Option R) → Option R) (m_44_16 : ((Unit × Unit × Bool × Unit × Unit × Int × Int × Int × (Nat → Int) × Int × Unit) × ((Nat → Int) × (Nat → Int) × (Nat → Int) × (List Bool) × Unit)) → (((Unit × Unit × Bool × Unit × Int × Int × Int × Unit) × ((Nat → Int) × (Nat → Int) × (List Bool) × Unit)) → Option R) → Option R) (m_44_5 : ((Unit × Unit × Bool × Unit × Int × Int × Int × Unit) × ((Nat → Int) × (Nat → Int) × (List Bool) × Unit)) → (((Unit × Unit × Unit × Int × Int × Unit) × ((Nat → Int) × (Nat → Int) × (List Bool) × Unit)) → Option R) → Option R) (m_44_2 : ((Unit × Unit × Unit × Int × Int × Unit) × ((Nat → Int) × (Nat → Int) × (List Bool) × Unit)) → (((Unit × Unit × Unit) × ((Nat → Int) × (Nat → Int) × Unit)) → Option R) → Option R) (x : ((Nat → Int) × Unit) × (Unit)) (κ0 : (Nat → Int) → Option R) : Option R :=
let a86 : (Nat → Int) := x.1.1
let l87 : (List Bool) := [false, true]
let i88 : Int := (((List.length l87) : Nat) : Int)
m_44_2 (((), (), (), i88, 0, ()), (a86, (Sch.zero (.arr 128 (.int .u64))), l87, ())) (fun y221 =>
let a222 : (Nat → Int) := y221.2.1
let a223 : (Nat → Int) := y221.2.2.1
κ0 a222)
def C_44_10 {R : Type} (q_95 : (Int × Bool × Unit) × (Unit) → ((Nat → Int) → Option R) → Option R) (q_40 : ((Nat → Int) × Unit) × (Unit) → ((Nat → Int) → Option R) → Option R) (m_44_10 : ((Unit × Unit × Bool × Unit × Unit × Unit × Int × Int × Int × (Nat → Int) × Int × Unit) × ((Nat → Int) × (Nat → Int) × (Nat → Int) × (Nat → Int) × (List Bool) × Unit)) → (((Unit × Unit × Bool × Unit × Unit × Unit × Int × Int × Int × Unit) × ((Nat → Int) × (Nat → Int) × (Nat → Int) × (Nat → Int) × (List Bool) × Unit)) → Option R) → Option R) (m_44_16 : ((Unit × Unit × Bool × Unit × Unit × Int × Int × Int × (Nat → Int) × Int × Unit) × ((Nat → Int) × (Nat → Int) × (Nat → Int) × (List Bool) × Unit)) → (((Unit × Unit × Bool × Unit × Int × Int × Int × Unit) × ((Nat → Int) × (Nat → Int) × (List Bool) × Unit)) → Option R) → Option R) (m_44_5 : ((Unit × Unit × Bool × Unit × Int × Int × Int × Unit) × ((Nat → Int) × (Nat → Int) × (List Bool) × Unit)) → (((Unit × Unit × Unit × Int × Int × Unit) × ((Nat → Int) × (Nat → Int) × (List Bool) × Unit)) → Option R) → Option R) (m_44_2 : ((Unit × Unit × Unit × Int × Int × Unit) × ((Nat → Int) × (Nat → Int) × (List Bool) × Unit)) → (((Unit × Unit × Unit) × ((Nat → Int) × (Nat → Int) × Unit)) → Option R) → Option R) (rec : ((Unit × Unit × Bool × Unit × Unit × Unit × Int × Int × Int × (Nat → Int) × Int × Unit) × ((Nat → Int) × (Nat → Int) × (Nat → Int) × (Nat → Int) × (List Bool) × Unit)) → Option R) (x : ((Unit × Unit × Bool × Unit × Unit × Unit × Int × Int × Int × (Nat → Int) × Int × Unit) × ((Nat → Int) × (Nat → Int) × (Nat → Int) × (Nat → Int) × (List Bool) × Unit))) (κ0 : ((Unit × Unit × Bool × Unit × Unit × Unit × Int × Int × Int × Unit) × ((Nat → Int) × (Nat → Int) × (Nat → Int) × (Nat → Int) × (List Bool) × Unit)) → Option R) : Option R :=
let b126 : Bool := x.1.2.2.1
let i127 : Int := x.1.2.2.2.2.2.2.1
let i128 : Int := x.1.2.2.2.2.2.2.2.1
let i129 : Int := x.1.2.2.2.2.2.2.2.2.1
let a130 : (Nat → Int) := x.1.2.2.2.2.2.2.2.2.2.1
let i131 : Int := x.1.2.2.2.2.2.2.2.2.2.2.1
let a132 : (Nat → Int) := x.2.1
let a133 : (Nat → Int) := x.2.2.1
let a134 : (Nat → Int) := x.2.2.2.1
let a135 : (Nat → Int) := x.2.2.2.2.1
let l136 : (List Bool) := x.2.2.2.2.2.1
bif (decide (i131 < 16)) then (
bif decide (0 ≤ i131) then (
bif decide (i131 < (16 : Int)) then (
let i137 : Int := (a130 ((Int.toNat i131)))
bif decide (0 ≤ i137) then (
bif decide (i137 < (128 : Int)) then (
let i138 : Int := (a132 ((Int.toNat i137)))
bif decide (0 ≤ i131) then (
bif decide (i131 < (16 : Int)) then (
let a139 : (Nat → Int) := (upd a135 ((Int.toNat i131)) i138)
let i140 : Int := addA .i64 i131 1
rec (((), (), b126, (), (), (), i127, i128, i129, a130, i140, ()), (a132, a133, a134, a139, l136, ()))) else none) else none) else none) else none) else none) else none) else (
κ0 (((), (), b126, (), (), (), i127, i128, i129, ()), (a132, a133, a134, a135, l136, ())))
def C_44_16 {R : Type} (q_95 : (Int × Bool × Unit) × (Unit) → ((Nat → Int) → Option R) → Option R) (q_40 : ((Nat → Int) × Unit) × (Unit) → ((Nat → Int) → Option R) → Option R) (m_44_10 : ((Unit × Unit × Bool × Unit × Unit × Unit × Int × Int × Int × (Nat → Int) × Int × Unit) × ((Nat → Int) × (Nat → Int) × (Nat → Int) × (Nat → Int) × (List Bool) × Unit)) → (((Unit × Unit × Bool × Unit × Unit × Unit × Int × Int × Int × Unit) × ((Nat → Int) × (Nat → Int) × (Nat → Int) × (Nat → Int) × (List Bool) × Unit)) → Option R) → Option R) (m_44_16 : ((Unit × Unit × Bool × Unit × Unit × Int × Int × Int × (Nat → Int) × Int × Unit) × ((Nat → Int) × (Nat → Int) × (Nat → Int) × (List Bool) × Unit)) → (((Unit × Unit × Bool × Unit × Int × Int × Int × Unit) × ((Nat → Int) × (Nat → Int) × (List Bool) × Unit)) → Option R) → Option R) (m_44_5 : ((Unit × Unit × Bool × Unit × Int × Int × Int × Unit) × ((Nat → Int) × (Nat → Int) × (List Bool) × Unit)) → (((Unit × Unit × Unit × Int × Int × Unit) × ((Nat → Int) × (Nat → Int) × (List Bool) × Unit)) → Option R) → Option R) (m_44_2 : ((Unit × Unit × Unit × Int × Int × Unit) × ((Nat → Int) × (Nat → Int) × (List Bool) × Unit)) → (((Unit × Unit × Unit) × ((Nat → Int) × (Nat → Int) × Unit)) → Option R) → Option R) (rec : ((Unit × Unit × Bool × Unit × Unit × Int × Int × Int × (Nat → Int) × Int × Unit) × ((Nat → Int) × (Nat → Int) × (Nat → Int) × (List Bool) × Unit)) → Option R) (x : ((Unit × Unit × Bool × Unit × Unit × Int × Int × Int × (Nat → Int) × Int × Unit) × ((Nat → Int) × (Nat → Int) × (Nat → Int) × (List Bool) × Unit))) (κ0 : ((Unit × Unit × Bool × Unit × Int × Int × Int × Unit) × ((Nat → Int) × (Nat → Int) × (List Bool) × Unit)) → Option R) : Option R :=
let b191 : Bool := x.1.2.2.1
let i192 : Int := x.1.2.2.2.2.2.1
let i193 : Int := x.1.2.2.2.2.2.2.1
let i194 : Int := x.1.2.2.2.2.2.2.2.1
let a195 : (Nat → Int) := x.1.2.2.2.2.2.2.2.2.1
let i196 : Int := x.1.2.2.2.2.2.2.2.2.2.1
let a197 : (Nat → Int) := x.2.1
let a198 : (Nat → Int) := x.2.2.1
let a199 : (Nat → Int) := x.2.2.2.1
let l200 : (List Bool) := x.2.2.2.2.1
bif (decide (i196 < 16)) then (
bif decide (0 ≤ i196) then (
bif decide (i196 < (16 : Int)) then (
let i201 : Int := (a195 ((Int.toNat i196)))
bif decide (0 ≤ i196) then (
bif decide (i196 < (16 : Int)) then (
let i202 : Int := (a199 ((Int.toNat i196)))
bif decide (0 ≤ i201) then (
bif decide (i201 < (128 : Int)) then (
let a203 : (Nat → Int) := (upd a197 ((Int.toNat i201)) i202)
let i204 : Int := addA .i64 i196 1
rec (((), (), b191, (), (), i192, i193, i194, a195, i204, ()), (a203, a198, a199, l200, ()))) else none) else none) else none) else none) else none) else none) else (
κ0 (((), (), b191, (), i192, i193, i194, ()), (a197, a198, l200, ())))
def C_44_5 {R : Type} (q_95 : (Int × Bool × Unit) × (Unit) → ((Nat → Int) → Option R) → Option R) (q_40 : ((Nat → Int) × Unit) × (Unit) → ((Nat → Int) → Option R) → Option R) (m_44_10 : ((Unit × Unit × Bool × Unit × Unit × Unit × Int × Int × Int × (Nat → Int) × Int × Unit) × ((Nat → Int) × (Nat → Int) × (Nat → Int) × (Nat → Int) × (List Bool) × Unit)) → (((Unit × Unit × Bool × Unit × Unit × Unit × Int × Int × Int × Unit) × ((Nat → Int) × (Nat → Int) × (Nat → Int) × (Nat → Int) × (List Bool) × Unit)) → Option R) → Option R) (m_44_16 : ((Unit × Unit × Bool × Unit × Unit × Int × Int × Int × (Nat → Int) × Int × Unit) × ((Nat → Int) × (Nat → Int) × (Nat → Int) × (List Bool) × Unit)) → (((Unit × Unit × Bool × Unit × Int × Int × Int × Unit) × ((Nat → Int) × (Nat → Int) × (List Bool) × Unit)) → Option R) → Option R) (m_44_5 : ((Unit × Unit × Bool × Unit × Int × Int × Int × Unit) × ((Nat → Int) × (Nat → Int) × (List Bool) × Unit)) → (((Unit × Unit × Unit × Int × Int × Unit) × ((Nat → Int) × (Nat → Int) × (List Bool) × Unit)) → Option R) → Option R) (m_44_2 : ((Unit × Unit × Unit × Int × Int × Unit) × ((Nat → Int) × (Nat → Int) × (List Bool) × Unit)) → (((Unit × Unit × Unit) × ((Nat → Int) × (Nat → Int) × Unit)) → Option R) → Option R) (rec : ((Unit × Unit × Bool × Unit × Int × Int × Int × Unit) × ((Nat → Int) × (Nat → Int) × (List Bool) × Unit)) → Option R) (x : ((Unit × Unit × Bool × Unit × Int × Int × Int × Unit) × ((Nat → Int) × (Nat → Int) × (List Bool) × Unit))) (κ0 : ((Unit × Unit × Unit × Int × Int × Unit) × ((Nat → Int) × (Nat → Int) × (List Bool) × Unit)) → Option R) : Option R :=
let b95 : Bool := x.1.2.2.1
let i96 : Int := x.1.2.2.2.2.1
let i97 : Int := x.1.2.2.2.2.2.1
let i98 : Int := x.1.2.2.2.2.2.2.1
let a99 : (Nat → Int) := x.2.1
let a100 : (Nat → Int) := x.2.2.1
let l101 : (List Bool) := x.2.2.2.1
bif (decide (i98 < 8)) then (
q_95 ((i98, b95, ()), ()) (fun y124 =>
let a125 : (Nat → Int) := y124
m_44_10 (((), (), b95, (), (), (), i96, i97, i98, a125, 0, ()), (a99, a100, a125, (Sch.zero (.arr 16 (.int .u64))), l101, ())) (fun y141 =>
let b142 : Bool := y141.1.2.2.1
let i143 : Int := y141.1.2.2.2.2.2.2.1
let i144 : Int := y141.1.2.2.2.2.2.2.2.1
let i145 : Int := y141.1.2.2.2.2.2.2.2.2.1
let a146 : (Nat → Int) := y141.2.1
let a147 : (Nat → Int) := y141.2.2.1
let a148 : (Nat → Int) := y141.2.2.2.1
let a149 : (Nat → Int) := y141.2.2.2.2.1
let l150 : (List Bool) := y141.2.2.2.2.2.1
q_40 ((a149, ()), ()) (fun y189 =>
let a190 : (Nat → Int) := y189
m_44_16 (((), (), b142, (), (), i143, i144, i145, a148, 0, ()), (a146, a147, a190, l150, ())) (fun y205 =>
let b206 : Bool := y205.1.2.2.1
let i207 : Int := y205.1.2.2.2.2.1
let i208 : Int := y205.1.2.2.2.2.2.1
let i209 : Int := y205.1.2.2.2.2.2.2.1
let a210 : (Nat → Int) := y205.2.1
let a211 : (Nat → Int) := y205.2.2.1
let l212 : (List Bool) := y205.2.2.2.1
let i213 : Int := addA .i64 i209 1
rec (((), (), b206, (), i207, i208, i213, ()), (a210, a211, l212, ()))))))) else (
κ0 (((), (), (), i96, i97, ()), (a99, a100, l101, ())))
def C_44_2 {R : Type} (q_95 : (Int × Bool × Unit) × (Unit) → ((Nat → Int) → Option R) → Option R) (q_40 : ((Nat → Int) × Unit) × (Unit) → ((Nat → Int) → Option R) → Option R) (m_44_10 : ((Unit × Unit × Bool × Unit × Unit × Unit × Int × Int × Int × (Nat → Int) × Int × Unit) × ((Nat → Int) × (Nat → Int) × (Nat → Int) × (Nat → Int) × (List Bool) × Unit)) → (((Unit × Unit × Bool × Unit × Unit × Unit × Int × Int × Int × Unit) × ((Nat → Int) × (Nat → Int) × (Nat → Int) × (Nat → Int) × (List Bool) × Unit)) → Option R) → Option R) (m_44_16 : ((Unit × Unit × Bool × Unit × Unit × Int × Int × Int × (Nat → Int) × Int × Unit) × ((Nat → Int) × (Nat → Int) × (Nat → Int) × (List Bool) × Unit)) → (((Unit × Unit × Bool × Unit × Int × Int × Int × Unit) × ((Nat → Int) × (Nat → Int) × (List Bool) × Unit)) → Option R) → Option R) (m_44_5 : ((Unit × Unit × Bool × Unit × Int × Int × Int × Unit) × ((Nat → Int) × (Nat → Int) × (List Bool) × Unit)) → (((Unit × Unit × Unit × Int × Int × Unit) × ((Nat → Int) × (Nat → Int) × (List Bool) × Unit)) → Option R) → Option R) (m_44_2 : ((Unit × Unit × Unit × Int × Int × Unit) × ((Nat → Int) × (Nat → Int) × (List Bool) × Unit)) → (((Unit × Unit × Unit) × ((Nat → Int) × (Nat → Int) × Unit)) → Option R) → Option R) (rec : ((Unit × Unit × Unit × Int × Int × Unit) × ((Nat → Int) × (Nat → Int) × (List Bool) × Unit)) → Option R) (x : ((Unit × Unit × Unit × Int × Int × Unit) × ((Nat → Int) × (Nat → Int) × (List Bool) × Unit))) (κ0 : ((Unit × Unit × Unit) × ((Nat → Int) × (Nat → Int) × Unit)) → Option R) : Option R :=
let i89 : Int := x.1.2.2.2.1
let i90 : Int := x.1.2.2.2.2.1
let a91 : (Nat → Int) := x.2.1
let a92 : (Nat → Int) := x.2.2.1
let l93 : (List Bool) := x.2.2.2.1
bif (decide (i90 < i89)) then (
bif decide (0 ≤ i90) then (
bif decide (i90 < ((List.length l93) : Int)) then (
let b94 : Bool := (List.getD l93 ((Int.toNat i90)) (Sch.zero (.bool)))
m_44_5 (((), (), b94, (), i89, i90, 0, ()), (a91, a92, l93, ())) (fun y214 =>
let i215 : Int := y214.1.2.2.2.1
let i216 : Int := y214.1.2.2.2.2.1
let a217 : (Nat → Int) := y214.2.1
let a218 : (Nat → Int) := y214.2.2.1
let l219 : (List Bool) := y214.2.2.2.1
let i220 : Int := addA .i64 i216 1
rec (((), (), (), i215, i220, ()), (a217, a218, l219, ())))) else none) else none) else (
κ0 (((), (), ()), (a91, a92, ())))
def EG_44 {R : Type} (q_95 : (Int × Bool × Unit) × (Unit) → ((Nat → Int) → Option R) → Option R) (q_40 : ((Nat → Int) × Unit) × (Unit) → ((Nat → Int) → Option R) → Option R) : Env R := ((Env.base QQ LN).add 95 ap_95 hp_95 (fun (x : aden ap_95 × hden hp_95) k => q_95 x (fun y => k (Pat.inst (.vec (.int .i64) 16) y) (instH hp_95 x.2)))).add 40 ap_40 hp_40 (fun (x : aden ap_40 × hden hp_40) k => q_40 x (fun y => k (Pat.inst (.vec (.int .u64) 16) y) (instH hp_40 x.2)))
def LG_44 {R : Type} (m_44_10 : ((Unit × Unit × Bool × Unit × Unit × Unit × Int × Int × Int × (Nat → Int) × Int × Unit) × ((Nat → Int) × (Nat → Int) × (Nat → Int) × (Nat → Int) × (List Bool) × Unit)) → (((Unit × Unit × Bool × Unit × Unit × Unit × Int × Int × Int × Unit) × ((Nat → Int) × (Nat → Int) × (Nat → Int) × (Nat → Int) × (List Bool) × Unit)) → Option R) → Option R) (m_44_16 : ((Unit × Unit × Bool × Unit × Unit × Int × Int × Int × (Nat → Int) × Int × Unit) × ((Nat → Int) × (Nat → Int) × (Nat → Int) × (List Bool) × Unit)) → (((Unit × Unit × Bool × Unit × Int × Int × Int × Unit) × ((Nat → Int) × (Nat → Int) × (List Bool) × Unit)) → Option R) → Option R) (m_44_5 : ((Unit × Unit × Bool × Unit × Int × Int × Int × Unit) × ((Nat → Int) × (Nat → Int) × (List Bool) × Unit)) → (((Unit × Unit × Unit × Int × Int × Unit) × ((Nat → Int) × (Nat → Int) × (List Bool) × Unit)) → Option R) → Option R) (m_44_2 : ((Unit × Unit × Unit × Int × Int × Unit) × ((Nat → Int) × (Nat → Int) × (List Bool) × Unit)) → (((Unit × Unit × Unit) × ((Nat → Int) × (Nat → Int) × Unit)) → Option R) → Option R) : Loops R := ((((Loops.none).add 10 (loopBy 0 lv_44_10 pt_44_10 (fun x k => m_44_10 x (fun y => k (.exit 4) (px_44_10_0.inst y))))).add 16 (loopBy 0 lv_44_16 pt_44_16 (fun x k => m_44_16 x (fun y => k (.exit 6) (px_44_16_0.inst y))))).add 5 (loopBy 0 lv_44_5 pt_44_5 (fun x k => m_44_5 x (fun y => k (.exit 2) (px_44_5_0.inst y))))).add 2 (loopBy 0 lv_44_2 pt_44_2 (fun x k => m_44_2 x (fun y => k (.exit 0) (px_44_2_0.inst y))))
def E_44 {R : Type} (N : Nat) : Env R := EG_44 (p_95 N) (p_40 N)
theorem eok_44 {R : Type} (N : Nat) : EK Try.prog (E_44 (R := R) N) := ek_add (ek_add (ek_base _ _) (good_95 N)) (good_40 N)
def L_44 {R : Type} (N : Nat) : Loops R := LG_44 (l_44_10 N N) (l_44_16 N N) (l_44_5 N N) (l_44_2 N N)
theorem gstep_44_10 {R : Type} (q_95 : (Int × Bool × Unit) × (Unit) → ((Nat → Int) → Option R) → Option R) (q_40 : ((Nat → Int) × Unit) × (Unit) → ((Nat → Int) → Option R) → Option R) (m_44_10 : ((Unit × Unit × Bool × Unit × Unit × Unit × Int × Int × Int × (Nat → Int) × Int × Unit) × ((Nat → Int) × (Nat → Int) × (Nat → Int) × (Nat → Int) × (List Bool) × Unit)) → (((Unit × Unit × Bool × Unit × Unit × Unit × Int × Int × Int × Unit) × ((Nat → Int) × (Nat → Int) × (Nat → Int) × (Nat → Int) × (List Bool) × Unit)) → Option R) → Option R) (m_44_16 : ((Unit × Unit × Bool × Unit × Unit × Int × Int × Int × (Nat → Int) × Int × Unit) × ((Nat → Int) × (Nat → Int) × (Nat → Int) × (List Bool) × Unit)) → (((Unit × Unit × Bool × Unit × Int × Int × Int × Unit) × ((Nat → Int) × (Nat → Int) × (List Bool) × Unit)) → Option R) → Option R) (m_44_5 : ((Unit × Unit × Bool × Unit × Int × Int × Int × Unit) × ((Nat → Int) × (Nat → Int) × (List Bool) × Unit)) → (((Unit × Unit × Unit × Int × Int × Unit) × ((Nat → Int) × (Nat → Int) × (List Bool) × Unit)) → Option R) → Option R) (m_44_2 : ((Unit × Unit × Unit × Int × Int × Unit) × ((Nat → Int) × (Nat → Int) × (List Bool) × Unit)) → (((Unit × Unit × Unit) × ((Nat → Int) × (Nat → Int) × Unit)) → Option R) → Option R) (n : Nat) (x : pt_44_10.den) (k : Exit → St → Option R) : iter 0 lv_44_10 lo_44_10 (aexec TT (EG_44 q_95 q_40) (drawOk TT QQ) (LG_44 m_44_10 m_44_16 m_44_5 m_44_2) (loopAt 10 (bodyOf Try.f44))) (n + 1) (pt_44_10.inst x) k = C_44_10 q_95 q_40 m_44_10 m_44_16 m_44_5 m_44_2 (fun y => iter 0 lv_44_10 lo_44_10 (aexec TT (EG_44 q_95 q_40) (drawOk TT QQ) (LG_44 m_44_10 m_44_16 m_44_5 m_44_2) (loopAt 10 (bodyOf Try.f44))) n (pt_44_10.inst y) k) x (fun y => k (.exit 4) (px_44_10_0.inst y)) := by kernel_rfl
theorem step_44_10 {R : Type} (N n : Nat) (x : pt_44_10.den) (k : Exit → St → Option R) : iter 0 lv_44_10 lo_44_10 (aexec TT (E_44 (R := R) N) (drawOk TT QQ) (L_44 N) (loopAt 10 (bodyOf Try.f44))) (n + 1) (pt_44_10.inst x) k = B_44_10 N (fun y => iter 0 lv_44_10 lo_44_10 (aexec TT (E_44 (R := R) N) (drawOk TT QQ) (L_44 N) (loopAt 10 (bodyOf Try.f44))) n (pt_44_10.inst y) k) x (fun y => k (.exit 4) (px_44_10_0.inst y)) := (gstep_44_10 (p_95 N) (p_40 N) (l_44_10 N N) (l_44_16 N N) (l_44_5 N N) (l_44_2 N N) n x k).trans (by kernel_rfl)
theorem eq_44_10 {R : Type} (N : Nat) : ∀ (n : Nat) (x : pt_44_10.den) (k : Exit → St → Option R), iter 0 lv_44_10 lo_44_10 (aexec TT (E_44 (R := R) N) (drawOk TT QQ) (L_44 N) (loopAt 10 (bodyOf Try.f44))) n (pt_44_10.inst x) k = l_44_10 N n x (fun y => k (.exit 4) (px_44_10_0.inst y)) :=
  iter_eq (K := Exit → St → Option R) (ks := fun k => k) (l := fun n (x : pt_44_10.den) k => l_44_10 N n x (fun y => k (.exit 4) (px_44_10_0.inst y))) (B := fun (rec : pt_44_10.den → Option R) (x : pt_44_10.den) k => B_44_10 N rec x (fun y => k (.exit 4) (px_44_10_0.inst y))) (fun _ _ => rfl) (fun _ _ _ => rfl) (fun n x k => step_44_10 N n x k)
theorem rounds_44_10 {R : Type} (N : Nat) : Rounds 0 TT (E_44 (R := R) N) (drawOk TT QQ) (L_44 N) 10 (loopAt 10 (bodyOf Try.f44)) :=
  rounds_of (p := pt_44_10) (l := fun (x : pt_44_10.den) k => l_44_10 N N x (fun y => k (.exit 4) (px_44_10_0.inst y))) (fun s k => rfl) (fun x k => eq_44_10 N N x k)
theorem gstep_44_16 {R : Type} (q_95 : (Int × Bool × Unit) × (Unit) → ((Nat → Int) → Option R) → Option R) (q_40 : ((Nat → Int) × Unit) × (Unit) → ((Nat → Int) → Option R) → Option R) (m_44_10 : ((Unit × Unit × Bool × Unit × Unit × Unit × Int × Int × Int × (Nat → Int) × Int × Unit) × ((Nat → Int) × (Nat → Int) × (Nat → Int) × (Nat → Int) × (List Bool) × Unit)) → (((Unit × Unit × Bool × Unit × Unit × Unit × Int × Int × Int × Unit) × ((Nat → Int) × (Nat → Int) × (Nat → Int) × (Nat → Int) × (List Bool) × Unit)) → Option R) → Option R) (m_44_16 : ((Unit × Unit × Bool × Unit × Unit × Int × Int × Int × (Nat → Int) × Int × Unit) × ((Nat → Int) × (Nat → Int) × (Nat → Int) × (List Bool) × Unit)) → (((Unit × Unit × Bool × Unit × Int × Int × Int × Unit) × ((Nat → Int) × (Nat → Int) × (List Bool) × Unit)) → Option R) → Option R) (m_44_5 : ((Unit × Unit × Bool × Unit × Int × Int × Int × Unit) × ((Nat → Int) × (Nat → Int) × (List Bool) × Unit)) → (((Unit × Unit × Unit × Int × Int × Unit) × ((Nat → Int) × (Nat → Int) × (List Bool) × Unit)) → Option R) → Option R) (m_44_2 : ((Unit × Unit × Unit × Int × Int × Unit) × ((Nat → Int) × (Nat → Int) × (List Bool) × Unit)) → (((Unit × Unit × Unit) × ((Nat → Int) × (Nat → Int) × Unit)) → Option R) → Option R) (n : Nat) (x : pt_44_16.den) (k : Exit → St → Option R) : iter 0 lv_44_16 lo_44_16 (aexec TT (EG_44 q_95 q_40) (drawOk TT QQ) (LG_44 m_44_10 m_44_16 m_44_5 m_44_2) (loopAt 16 (bodyOf Try.f44))) (n + 1) (pt_44_16.inst x) k = C_44_16 q_95 q_40 m_44_10 m_44_16 m_44_5 m_44_2 (fun y => iter 0 lv_44_16 lo_44_16 (aexec TT (EG_44 q_95 q_40) (drawOk TT QQ) (LG_44 m_44_10 m_44_16 m_44_5 m_44_2) (loopAt 16 (bodyOf Try.f44))) n (pt_44_16.inst y) k) x (fun y => k (.exit 6) (px_44_16_0.inst y)) := by kernel_rfl
theorem step_44_16 {R : Type} (N n : Nat) (x : pt_44_16.den) (k : Exit → St → Option R) : iter 0 lv_44_16 lo_44_16 (aexec TT (E_44 (R := R) N) (drawOk TT QQ) (L_44 N) (loopAt 16 (bodyOf Try.f44))) (n + 1) (pt_44_16.inst x) k = B_44_16 N (fun y => iter 0 lv_44_16 lo_44_16 (aexec TT (E_44 (R := R) N) (drawOk TT QQ) (L_44 N) (loopAt 16 (bodyOf Try.f44))) n (pt_44_16.inst y) k) x (fun y => k (.exit 6) (px_44_16_0.inst y)) := (gstep_44_16 (p_95 N) (p_40 N) (l_44_10 N N) (l_44_16 N N) (l_44_5 N N) (l_44_2 N N) n x k).trans (by kernel_rfl)
theorem eq_44_16 {R : Type} (N : Nat) : ∀ (n : Nat) (x : pt_44_16.den) (k : Exit → St → Option R), iter 0 lv_44_16 lo_44_16 (aexec TT (E_44 (R := R) N) (drawOk TT QQ) (L_44 N) (loopAt 16 (bodyOf Try.f44))) n (pt_44_16.inst x) k = l_44_16 N n x (fun y => k (.exit 6) (px_44_16_0.inst y)) :=
  iter_eq (K := Exit → St → Option R) (ks := fun k => k) (l := fun n (x : pt_44_16.den) k => l_44_16 N n x (fun y => k (.exit 6) (px_44_16_0.inst y))) (B := fun (rec : pt_44_16.den → Option R) (x : pt_44_16.den) k => B_44_16 N rec x (fun y => k (.exit 6) (px_44_16_0.inst y))) (fun _ _ => rfl) (fun _ _ _ => rfl) (fun n x k => step_44_16 N n x k)
theorem rounds_44_16 {R : Type} (N : Nat) : Rounds 0 TT (E_44 (R := R) N) (drawOk TT QQ) (L_44 N) 16 (loopAt 16 (bodyOf Try.f44)) :=
  rounds_of (p := pt_44_16) (l := fun (x : pt_44_16.den) k => l_44_16 N N x (fun y => k (.exit 6) (px_44_16_0.inst y))) (fun s k => rfl) (fun x k => eq_44_16 N N x k)
theorem gstep_44_5 {R : Type} (q_95 : (Int × Bool × Unit) × (Unit) → ((Nat → Int) → Option R) → Option R) (q_40 : ((Nat → Int) × Unit) × (Unit) → ((Nat → Int) → Option R) → Option R) (m_44_10 : ((Unit × Unit × Bool × Unit × Unit × Unit × Int × Int × Int × (Nat → Int) × Int × Unit) × ((Nat → Int) × (Nat → Int) × (Nat → Int) × (Nat → Int) × (List Bool) × Unit)) → (((Unit × Unit × Bool × Unit × Unit × Unit × Int × Int × Int × Unit) × ((Nat → Int) × (Nat → Int) × (Nat → Int) × (Nat → Int) × (List Bool) × Unit)) → Option R) → Option R) (m_44_16 : ((Unit × Unit × Bool × Unit × Unit × Int × Int × Int × (Nat → Int) × Int × Unit) × ((Nat → Int) × (Nat → Int) × (Nat → Int) × (List Bool) × Unit)) → (((Unit × Unit × Bool × Unit × Int × Int × Int × Unit) × ((Nat → Int) × (Nat → Int) × (List Bool) × Unit)) → Option R) → Option R) (m_44_5 : ((Unit × Unit × Bool × Unit × Int × Int × Int × Unit) × ((Nat → Int) × (Nat → Int) × (List Bool) × Unit)) → (((Unit × Unit × Unit × Int × Int × Unit) × ((Nat → Int) × (Nat → Int) × (List Bool) × Unit)) → Option R) → Option R) (m_44_2 : ((Unit × Unit × Unit × Int × Int × Unit) × ((Nat → Int) × (Nat → Int) × (List Bool) × Unit)) → (((Unit × Unit × Unit) × ((Nat → Int) × (Nat → Int) × Unit)) → Option R) → Option R) (n : Nat) (x : pt_44_5.den) (k : Exit → St → Option R) : iter 0 lv_44_5 lo_44_5 (aexec TT (EG_44 q_95 q_40) (drawOk TT QQ) (LG_44 m_44_10 m_44_16 m_44_5 m_44_2) (loopAt 5 (bodyOf Try.f44))) (n + 1) (pt_44_5.inst x) k = C_44_5 q_95 q_40 m_44_10 m_44_16 m_44_5 m_44_2 (fun y => iter 0 lv_44_5 lo_44_5 (aexec TT (EG_44 q_95 q_40) (drawOk TT QQ) (LG_44 m_44_10 m_44_16 m_44_5 m_44_2) (loopAt 5 (bodyOf Try.f44))) n (pt_44_5.inst y) k) x (fun y => k (.exit 2) (px_44_5_0.inst y)) := by kernel_rfl
theorem step_44_5 {R : Type} (N n : Nat) (x : pt_44_5.den) (k : Exit → St → Option R) : iter 0 lv_44_5 lo_44_5 (aexec TT (E_44 (R := R) N) (drawOk TT QQ) (L_44 N) (loopAt 5 (bodyOf Try.f44))) (n + 1) (pt_44_5.inst x) k = B_44_5 N (fun y => iter 0 lv_44_5 lo_44_5 (aexec TT (E_44 (R := R) N) (drawOk TT QQ) (L_44 N) (loopAt 5 (bodyOf Try.f44))) n (pt_44_5.inst y) k) x (fun y => k (.exit 2) (px_44_5_0.inst y)) := (gstep_44_5 (p_95 N) (p_40 N) (l_44_10 N N) (l_44_16 N N) (l_44_5 N N) (l_44_2 N N) n x k).trans (by kernel_rfl)
theorem eq_44_5 {R : Type} (N : Nat) : ∀ (n : Nat) (x : pt_44_5.den) (k : Exit → St → Option R), iter 0 lv_44_5 lo_44_5 (aexec TT (E_44 (R := R) N) (drawOk TT QQ) (L_44 N) (loopAt 5 (bodyOf Try.f44))) n (pt_44_5.inst x) k = l_44_5 N n x (fun y => k (.exit 2) (px_44_5_0.inst y)) :=
  iter_eq (K := Exit → St → Option R) (ks := fun k => k) (l := fun n (x : pt_44_5.den) k => l_44_5 N n x (fun y => k (.exit 2) (px_44_5_0.inst y))) (B := fun (rec : pt_44_5.den → Option R) (x : pt_44_5.den) k => B_44_5 N rec x (fun y => k (.exit 2) (px_44_5_0.inst y))) (fun _ _ => rfl) (fun _ _ _ => rfl) (fun n x k => step_44_5 N n x k)
theorem rounds_44_5 {R : Type} (N : Nat) : Rounds 0 TT (E_44 (R := R) N) (drawOk TT QQ) (L_44 N) 5 (loopAt 5 (bodyOf Try.f44)) :=
  rounds_of (p := pt_44_5) (l := fun (x : pt_44_5.den) k => l_44_5 N N x (fun y => k (.exit 2) (px_44_5_0.inst y))) (fun s k => rfl) (fun x k => eq_44_5 N N x k)
theorem gstep_44_2 {R : Type} (q_95 : (Int × Bool × Unit) × (Unit) → ((Nat → Int) → Option R) → Option R) (q_40 : ((Nat → Int) × Unit) × (Unit) → ((Nat → Int) → Option R) → Option R) (m_44_10 : ((Unit × Unit × Bool × Unit × Unit × Unit × Int × Int × Int × (Nat → Int) × Int × Unit) × ((Nat → Int) × (Nat → Int) × (Nat → Int) × (Nat → Int) × (List Bool) × Unit)) → (((Unit × Unit × Bool × Unit × Unit × Unit × Int × Int × Int × Unit) × ((Nat → Int) × (Nat → Int) × (Nat → Int) × (Nat → Int) × (List Bool) × Unit)) → Option R) → Option R) (m_44_16 : ((Unit × Unit × Bool × Unit × Unit × Int × Int × Int × (Nat → Int) × Int × Unit) × ((Nat → Int) × (Nat → Int) × (Nat → Int) × (List Bool) × Unit)) → (((Unit × Unit × Bool × Unit × Int × Int × Int × Unit) × ((Nat → Int) × (Nat → Int) × (List Bool) × Unit)) → Option R) → Option R) (m_44_5 : ((Unit × Unit × Bool × Unit × Int × Int × Int × Unit) × ((Nat → Int) × (Nat → Int) × (List Bool) × Unit)) → (((Unit × Unit × Unit × Int × Int × Unit) × ((Nat → Int) × (Nat → Int) × (List Bool) × Unit)) → Option R) → Option R) (m_44_2 : ((Unit × Unit × Unit × Int × Int × Unit) × ((Nat → Int) × (Nat → Int) × (List Bool) × Unit)) → (((Unit × Unit × Unit) × ((Nat → Int) × (Nat → Int) × Unit)) → Option R) → Option R) (n : Nat) (x : pt_44_2.den) (k : Exit → St → Option R) : iter 0 lv_44_2 lo_44_2 (aexec TT (EG_44 q_95 q_40) (drawOk TT QQ) (LG_44 m_44_10 m_44_16 m_44_5 m_44_2) (loopAt 2 (bodyOf Try.f44))) (n + 1) (pt_44_2.inst x) k = C_44_2 q_95 q_40 m_44_10 m_44_16 m_44_5 m_44_2 (fun y => iter 0 lv_44_2 lo_44_2 (aexec TT (EG_44 q_95 q_40) (drawOk TT QQ) (LG_44 m_44_10 m_44_16 m_44_5 m_44_2) (loopAt 2 (bodyOf Try.f44))) n (pt_44_2.inst y) k) x (fun y => k (.exit 0) (px_44_2_0.inst y)) := by kernel_rfl
theorem step_44_2 {R : Type} (N n : Nat) (x : pt_44_2.den) (k : Exit → St → Option R) : iter 0 lv_44_2 lo_44_2 (aexec TT (E_44 (R := R) N) (drawOk TT QQ) (L_44 N) (loopAt 2 (bodyOf Try.f44))) (n + 1) (pt_44_2.inst x) k = B_44_2 N (fun y => iter 0 lv_44_2 lo_44_2 (aexec TT (E_44 (R := R) N) (drawOk TT QQ) (L_44 N) (loopAt 2 (bodyOf Try.f44))) n (pt_44_2.inst y) k) x (fun y => k (.exit 0) (px_44_2_0.inst y)) := (gstep_44_2 (p_95 N) (p_40 N) (l_44_10 N N) (l_44_16 N N) (l_44_5 N N) (l_44_2 N N) n x k).trans (by kernel_rfl)
theorem eq_44_2 {R : Type} (N : Nat) : ∀ (n : Nat) (x : pt_44_2.den) (k : Exit → St → Option R), iter 0 lv_44_2 lo_44_2 (aexec TT (E_44 (R := R) N) (drawOk TT QQ) (L_44 N) (loopAt 2 (bodyOf Try.f44))) n (pt_44_2.inst x) k = l_44_2 N n x (fun y => k (.exit 0) (px_44_2_0.inst y)) :=
  iter_eq (K := Exit → St → Option R) (ks := fun k => k) (l := fun n (x : pt_44_2.den) k => l_44_2 N n x (fun y => k (.exit 0) (px_44_2_0.inst y))) (B := fun (rec : pt_44_2.den → Option R) (x : pt_44_2.den) k => B_44_2 N rec x (fun y => k (.exit 0) (px_44_2_0.inst y))) (fun _ _ => rfl) (fun _ _ _ => rfl) (fun n x k => step_44_2 N n x k)
theorem rounds_44_2 {R : Type} (N : Nat) : Rounds 0 TT (E_44 (R := R) N) (drawOk TT QQ) (L_44 N) 2 (loopAt 2 (bodyOf Try.f44)) :=
  rounds_of (p := pt_44_2) (l := fun (x : pt_44_2.den) k => l_44_2 N N x (fun y => k (.exit 0) (px_44_2_0.inst y))) (fun s k => rfl) (fun x k => eq_44_2 N N x k)
theorem loops_44 : loopsIn (bodyOf Try.f44) = [(2, loopAt 2 (bodyOf Try.f44)), (5, loopAt 5 (bodyOf Try.f44)), (10, loopAt 10 (bodyOf Try.f44)), (16, loopAt 16 (bodyOf Try.f44))] := by kernel_rfl
theorem lok_44 {R : Type} (N : Nat) : LOK 0 TT (E_44 (R := R) N) (drawOk TT QQ) (L_44 N) (bodyOf Try.f44) := loops_all loops_44 (by
  simp only [List.forall_mem_cons, List.not_mem_nil, false_implies, implies_true, and_true]
  exact ⟨rounds_44_2 N, rounds_44_5 N, rounds_44_10 N, rounds_44_16 N⟩)
theorem grun_44 {R : Type} (q_95 : (Int × Bool × Unit) × (Unit) → ((Nat → Int) → Option R) → Option R) (q_40 : ((Nat → Int) × Unit) × (Unit) → ((Nat → Int) → Option R) → Option R) (m_44_10 : ((Unit × Unit × Bool × Unit × Unit × Unit × Int × Int × Int × (Nat → Int) × Int × Unit) × ((Nat → Int) × (Nat → Int) × (Nat → Int) × (Nat → Int) × (List Bool) × Unit)) → (((Unit × Unit × Bool × Unit × Unit × Unit × Int × Int × Int × Unit) × ((Nat → Int) × (Nat → Int) × (Nat → Int) × (Nat → Int) × (List Bool) × Unit)) → Option R) → Option R) (m_44_16 : ((Unit × Unit × Bool × Unit × Unit × Int × Int × Int × (Nat → Int) × Int × Unit) × ((Nat → Int) × (Nat → Int) × (Nat → Int) × (List Bool) × Unit)) → (((Unit × Unit × Bool × Unit × Int × Int × Int × Unit) × ((Nat → Int) × (Nat → Int) × (List Bool) × Unit)) → Option R) → Option R) (m_44_5 : ((Unit × Unit × Bool × Unit × Int × Int × Int × Unit) × ((Nat → Int) × (Nat → Int) × (List Bool) × Unit)) → (((Unit × Unit × Unit × Int × Int × Unit) × ((Nat → Int) × (Nat → Int) × (List Bool) × Unit)) → Option R) → Option R) (m_44_2 : ((Unit × Unit × Unit × Int × Int × Unit) × ((Nat → Int) × (Nat → Int) × (List Bool) × Unit)) → (((Unit × Unit × Unit) × ((Nat → Int) × (Nat → Int) × Unit)) → Option R) → Option R) (x : aden ap_44 × hden hp_44) (k : KF R) : fnrun TT (EG_44 q_95 q_40) (drawOk TT QQ) (LG_44 m_44_10 m_44_16 m_44_5 m_44_2) true Try.f44 (instA ap_44 x.1) (instH hp_44 x.2) k = Q_44 q_95 q_40 m_44_10 m_44_16 m_44_5 m_44_2 x (fun y => k (Pat.inst (.vec (.int .u64) 128) y) (instH hp_44 x.2)) := by kernel_rfl
theorem run_44 {R : Type} (N : Nat) (x : aden ap_44 × hden hp_44) (k : KF R) : fnrun TT (E_44 (R := R) N) (drawOk TT QQ) (L_44 N) true Try.f44 (instA ap_44 x.1) (instH hp_44 x.2) k = p_44 N x (fun y => k (Pat.inst (.vec (.int .u64) 128) y) (instH hp_44 x.2)) := (grun_44 (p_95 N) (p_40 N) (l_44_10 N N) (l_44_16 N N) (l_44_5 N N) (l_44_2 N N) x k).trans (by kernel_rfl)
theorem good_44 {R : Type} (N : Nat) : GD (X := R) Try.prog QQ 44 ap_44 hp_44 (fun (x : aden ap_44 × hden hp_44) k => p_44 N x (fun y => k (Pat.inst (.vec (.int .u64) 128) y) (instH hp_44 x.2))) :=
  gd_quiet (E := E_44 N) (p := fun (x : aden ap_44 × hden hp_44) κ => p_44 N x (fun y => κ (Pat.inst (.vec (.int .u64) 128) y))) mixed tyok (eok_44 N) Try.func44 (by kernel_rfl) (by kernel_rfl) (lok_44 N) (fun x k => run_44 N x k)

def ap_43 : List Pat := [.vec (.int .u64) 128, .vec (.int .u64) 128]
def hp_43 : List (Option (Pat × Nat)) := []
def p_43 {R : Type} (N : Nat) (x : ((Nat → Int) × (Nat → Int) × Unit) × (Unit)) (κ0 : (Nat → Int) → Option R) : Option R :=
let a51 : (Nat → Int) := x.1.1
let a52 : (Nat → Int) := x.1.2.1
let l53 : (List (Nat → Int)) := [a51, a52]
p_94 N ((l53, ()), ()) (fun y84 =>
let a85 : (Nat → Int) := y84
p_44 N ((a85, ()), ()) (fun y224 =>
let a225 : (Nat → Int) := y224
let l226 : (List (Nat → Int)) := [a85, a225]
p_94 N ((l226, ()), ()) (fun y227 =>
let a228 : (Nat → Int) := y227
κ0 a228)))

def Q_43 {R : Type} (q_94 : ((List (Nat → Int)) × Unit) × (Unit) → ((Nat → Int) → Option R) → Option R) (q_44 : ((Nat → Int) × Unit) × (Unit) → ((Nat → Int) → Option R) → Option R) (x : ((Nat → Int) × (Nat → Int) × Unit) × (Unit)) (κ0 : (Nat → Int) → Option R) : Option R :=
let a51 : (Nat → Int) := x.1.1
let a52 : (Nat → Int) := x.1.2.1
let l53 : (List (Nat → Int)) := [a51, a52]
q_94 ((l53, ()), ()) (fun y84 =>
let a85 : (Nat → Int) := y84
q_44 ((a85, ()), ()) (fun y224 =>
let a225 : (Nat → Int) := y224
let l226 : (List (Nat → Int)) := [a85, a225]
q_94 ((l226, ()), ()) (fun y227 =>
let a228 : (Nat → Int) := y227
κ0 a228)))
def EG_43 {R : Type} (q_94 : ((List (Nat → Int)) × Unit) × (Unit) → ((Nat → Int) → Option R) → Option R) (q_44 : ((Nat → Int) × Unit) × (Unit) → ((Nat → Int) → Option R) → Option R) : Env R := ((Env.base QQ LN).add 94 ap_94 hp_94 (fun (x : aden ap_94 × hden hp_94) k => q_94 x (fun y => k (Pat.inst (.vec (.int .u64) 128) y) (instH hp_94 x.2)))).add 44 ap_44 hp_44 (fun (x : aden ap_44 × hden hp_44) k => q_44 x (fun y => k (Pat.inst (.vec (.int .u64) 128) y) (instH hp_44 x.2)))
def LG_43 {R : Type} : Loops R := Loops.none
def E_43 {R : Type} (N : Nat) : Env R := EG_43 (p_94 N) (p_44 N)
theorem eok_43 {R : Type} (N : Nat) : EK Try.prog (E_43 (R := R) N) := ek_add (ek_add (ek_base _ _) (good_94 N)) (good_44 N)
def L_43 {R : Type} (N : Nat) : Loops R := LG_43
theorem lok_43 {R : Type} (N : Nat) : LOK 0 TT (E_43 (R := R) N) (drawOk TT QQ) (L_43 N) (bodyOf Try.f43) := loops_nil (by kernel_rfl)
theorem grun_43 {R : Type} (q_94 : ((List (Nat → Int)) × Unit) × (Unit) → ((Nat → Int) → Option R) → Option R) (q_44 : ((Nat → Int) × Unit) × (Unit) → ((Nat → Int) → Option R) → Option R) (x : aden ap_43 × hden hp_43) (k : KF R) : fnrun TT (EG_43 q_94 q_44) (drawOk TT QQ) (LG_43) true Try.f43 (instA ap_43 x.1) (instH hp_43 x.2) k = Q_43 q_94 q_44 x (fun y => k (Pat.inst (.vec (.int .u64) 128) y) (instH hp_43 x.2)) := by kernel_rfl
theorem run_43 {R : Type} (N : Nat) (x : aden ap_43 × hden hp_43) (k : KF R) : fnrun TT (E_43 (R := R) N) (drawOk TT QQ) (L_43 N) true Try.f43 (instA ap_43 x.1) (instH hp_43 x.2) k = p_43 N x (fun y => k (Pat.inst (.vec (.int .u64) 128) y) (instH hp_43 x.2)) := (grun_43 (p_94 N) (p_44 N) x k).trans (by kernel_rfl)
theorem good_43 {R : Type} (N : Nat) : GD (X := R) Try.prog QQ 43 ap_43 hp_43 (fun (x : aden ap_43 × hden hp_43) k => p_43 N x (fun y => k (Pat.inst (.vec (.int .u64) 128) y) (instH hp_43 x.2))) :=
  gd_quiet (E := E_43 N) (p := fun (x : aden ap_43 × hden hp_43) κ => p_43 N x (fun y => κ (Pat.inst (.vec (.int .u64) 128) y))) mixed tyok (eok_43 N) Try.func43 (by kernel_rfl) (by kernel_rfl) (lok_43 N) (fun x k => run_43 N x k)

def ap_37 : List Pat := []
def hp_37 : List (Option (Pat × Nat)) := []
def p_37 {R : Type} (N : Nat) (x : (Unit) × (Unit)) (κ0 : Bool → Option R) : Option R :=
let a3 : (Nat → Int) := (upd ((upd ((upd ((Sch.zero (.arr 128 (.int .u64)))) 0 1)) 1 2)) 2 3)
p_38 N ((1, 0, 0, 0, ()), ()) (fun y46 =>
let i47 : Int := y46.1
let i48 : Int := y46.2.1
let i49 : Int := y46.2.2.1
let i50 : Int := y46.2.2.2.1
p_43 N ((a3, a3, ()), ()) (fun y229 =>
let a230 : (Nat → Int) := y229
let a231 : (Nat → Int) := (Sch.zero (.arr 128 (.int .u64)))
bif (schEq (.arr 128 (.int .u64)) a230 a231) then (
let a232 : (Nat → Int) := (Sch.zero (.arr 128 (.int .u64)))
p_43 N ((a3, a232, ()), ()) (fun y233 =>
let a234 : (Nat → Int) := y233
let a235 : (Nat → Int) := (Sch.zero (.arr 128 (.int .u64)))
bif (!(schEq (.arr 128 (.int .u64)) a234 a235)) then (
κ0 ((decide (i47 > 1)))) else (
κ0 false))) else (
κ0 false)))

def Q_37 {R : Type} (q_38 : (Int × Int × Int × Int × Unit) × (Unit) → ((Int × (Int × (Int × (Int × Unit)))) → Option R) → Option R) (q_43 : ((Nat → Int) × (Nat → Int) × Unit) × (Unit) → ((Nat → Int) → Option R) → Option R) (x : (Unit) × (Unit)) (κ0 : Bool → Option R) : Option R :=
let a3 : (Nat → Int) := (upd ((upd ((upd ((Sch.zero (.arr 128 (.int .u64)))) 0 1)) 1 2)) 2 3)
q_38 ((1, 0, 0, 0, ()), ()) (fun y46 =>
let i47 : Int := y46.1
let i48 : Int := y46.2.1
let i49 : Int := y46.2.2.1
let i50 : Int := y46.2.2.2.1
q_43 ((a3, a3, ()), ()) (fun y229 =>
let a230 : (Nat → Int) := y229
let a231 : (Nat → Int) := (Sch.zero (.arr 128 (.int .u64)))
bif (schEq (.arr 128 (.int .u64)) a230 a231) then (
let a232 : (Nat → Int) := (Sch.zero (.arr 128 (.int .u64)))
q_43 ((a3, a232, ()), ()) (fun y233 =>
let a234 : (Nat → Int) := y233
let a235 : (Nat → Int) := (Sch.zero (.arr 128 (.int .u64)))
bif (!(schEq (.arr 128 (.int .u64)) a234 a235)) then (
κ0 ((decide (i47 > 1)))) else (
κ0 false))) else (
κ0 false)))
def EG_37 {R : Type} (q_38 : (Int × Int × Int × Int × Unit) × (Unit) → ((Int × (Int × (Int × (Int × Unit)))) → Option R) → Option R) (q_43 : ((Nat → Int) × (Nat → Int) × Unit) × (Unit) → ((Nat → Int) → Option R) → Option R) : Env R := ((Env.base QQ LN).add 38 ap_38 hp_38 (fun (x : aden ap_38 × hden hp_38) k => q_38 x (fun y => k (Pat.inst (.tup (.fcons (.int .u64) (.fcons (.int .u64) (.fcons (.int .u64) (.fcons (.int .u64) (.fnil)))))) y) (instH hp_38 x.2)))).add 43 ap_43 hp_43 (fun (x : aden ap_43 × hden hp_43) k => q_43 x (fun y => k (Pat.inst (.vec (.int .u64) 128) y) (instH hp_43 x.2)))
def LG_37 {R : Type} : Loops R := Loops.none
def E_37 {R : Type} (N : Nat) : Env R := EG_37 (p_38 N) (p_43 N)
theorem eok_37 {R : Type} (N : Nat) : EK Try.prog (E_37 (R := R) N) := ek_add (ek_add (ek_base _ _) (good_38 N)) (good_43 N)
def L_37 {R : Type} (N : Nat) : Loops R := LG_37
theorem lok_37 {R : Type} (N : Nat) : LOK 0 TT (E_37 (R := R) N) (drawOk TT QQ) (L_37 N) (bodyOf Try.f37) := loops_nil (by kernel_rfl)
theorem grun_37 {R : Type} (q_38 : (Int × Int × Int × Int × Unit) × (Unit) → ((Int × (Int × (Int × (Int × Unit)))) → Option R) → Option R) (q_43 : ((Nat → Int) × (Nat → Int) × Unit) × (Unit) → ((Nat → Int) → Option R) → Option R) (x : aden ap_37 × hden hp_37) (k : KF R) : fnrun TT (EG_37 q_38 q_43) (drawOk TT QQ) (LG_37) true Try.f37 (instA ap_37 x.1) (instH hp_37 x.2) k = Q_37 q_38 q_43 x (fun y => k (Pat.inst (.bool) y) (instH hp_37 x.2)) := by kernel_rfl
theorem run_37 {R : Type} (N : Nat) (x : aden ap_37 × hden hp_37) (k : KF R) : fnrun TT (E_37 (R := R) N) (drawOk TT QQ) (L_37 N) true Try.f37 (instA ap_37 x.1) (instH hp_37 x.2) k = p_37 N x (fun y => k (Pat.inst (.bool) y) (instH hp_37 x.2)) := (grun_37 (p_38 N) (p_43 N) x k).trans (by kernel_rfl)
theorem good_37 {R : Type} (N : Nat) : GD (X := R) Try.prog QQ 37 ap_37 hp_37 (fun (x : aden ap_37 × hden hp_37) k => p_37 N x (fun y => k (Pat.inst (.bool) y) (instH hp_37 x.2))) :=
  gd_quiet (E := E_37 N) (p := fun (x : aden ap_37 × hden hp_37) κ => p_37 N x (fun y => κ (Pat.inst (.bool) y))) mixed tyok (eok_37 N) Try.func37 (by kernel_rfl) (by kernel_rfl) (lok_37 N) (fun x k => run_37 N x k)

def ap_46 : List Pat := [.vec (.int .u64) 128, .vec (.int .u64) 128, .nils]
def hp_46 : List (Option (Pat × Nat)) := []
def p_46 {R : Type} (N : Nat) (x : ((Nat → Int) × (Nat → Int) × Unit × Unit) × (Unit)) (κ0 : (Nat → Int) → Option R) : Option R :=
let a245 : (Nat → Int) := x.1.1
let a246 : (Nat → Int) := x.1.2.1
p_43 N ((a245, a246, ()), ()) (fun y247 =>
let a248 : (Nat → Int) := y247
let l249 : (List (Nat → Int)) := [a248]
bif (decide ((List.length l249 + List.length (([] : List (Nat → Int)))) * 1024 ≤ 140737488355328) && true) then (
let l250 : (List (Nat → Int)) := (l249 ++ ([] : List (Nat → Int)))
p_94 N ((l250, ()), ()) (fun y251 =>
let a252 : (Nat → Int) := y251
κ0 a252)) else none)

def Q_46 {R : Type} (q_43 : ((Nat → Int) × (Nat → Int) × Unit) × (Unit) → ((Nat → Int) → Option R) → Option R) (q_94 : ((List (Nat → Int)) × Unit) × (Unit) → ((Nat → Int) → Option R) → Option R) (x : ((Nat → Int) × (Nat → Int) × Unit × Unit) × (Unit)) (κ0 : (Nat → Int) → Option R) : Option R :=
let a245 : (Nat → Int) := x.1.1
let a246 : (Nat → Int) := x.1.2.1
q_43 ((a245, a246, ()), ()) (fun y247 =>
let a248 : (Nat → Int) := y247
let l249 : (List (Nat → Int)) := [a248]
bif (decide ((List.length l249 + List.length (([] : List (Nat → Int)))) * 1024 ≤ 140737488355328) && true) then (
let l250 : (List (Nat → Int)) := (l249 ++ ([] : List (Nat → Int)))
q_94 ((l250, ()), ()) (fun y251 =>
let a252 : (Nat → Int) := y251
κ0 a252)) else none)
def EG_46 {R : Type} (q_43 : ((Nat → Int) × (Nat → Int) × Unit) × (Unit) → ((Nat → Int) → Option R) → Option R) (q_94 : ((List (Nat → Int)) × Unit) × (Unit) → ((Nat → Int) → Option R) → Option R) : Env R := ((Env.base QQ LN).add 43 ap_43 hp_43 (fun (x : aden ap_43 × hden hp_43) k => q_43 x (fun y => k (Pat.inst (.vec (.int .u64) 128) y) (instH hp_43 x.2)))).add 94 ap_94 hp_94 (fun (x : aden ap_94 × hden hp_94) k => q_94 x (fun y => k (Pat.inst (.vec (.int .u64) 128) y) (instH hp_94 x.2)))
def LG_46 {R : Type} : Loops R := Loops.none
def E_46 {R : Type} (N : Nat) : Env R := EG_46 (p_43 N) (p_94 N)
theorem eok_46 {R : Type} (N : Nat) : EK Try.prog (E_46 (R := R) N) := ek_add (ek_add (ek_base _ _) (good_43 N)) (good_94 N)
def L_46 {R : Type} (N : Nat) : Loops R := LG_46
theorem lok_46 {R : Type} (N : Nat) : LOK 0 TT (E_46 (R := R) N) (drawOk TT QQ) (L_46 N) (bodyOf Try.f46) := loops_nil (by kernel_rfl)
theorem grun_46 {R : Type} (q_43 : ((Nat → Int) × (Nat → Int) × Unit) × (Unit) → ((Nat → Int) → Option R) → Option R) (q_94 : ((List (Nat → Int)) × Unit) × (Unit) → ((Nat → Int) → Option R) → Option R) (x : aden ap_46 × hden hp_46) (k : KF R) : fnrun TT (EG_46 q_43 q_94) (drawOk TT QQ) (LG_46) true Try.f46 (instA ap_46 x.1) (instH hp_46 x.2) k = Q_46 q_43 q_94 x (fun y => k (Pat.inst (.vec (.int .u64) 128) y) (instH hp_46 x.2)) := by kernel_rfl
theorem run_46 {R : Type} (N : Nat) (x : aden ap_46 × hden hp_46) (k : KF R) : fnrun TT (E_46 (R := R) N) (drawOk TT QQ) (L_46 N) true Try.f46 (instA ap_46 x.1) (instH hp_46 x.2) k = p_46 N x (fun y => k (Pat.inst (.vec (.int .u64) 128) y) (instH hp_46 x.2)) := (grun_46 (p_43 N) (p_94 N) x k).trans (by kernel_rfl)
theorem good_46 {R : Type} (N : Nat) : GD (X := R) Try.prog QQ 46 ap_46 hp_46 (fun (x : aden ap_46 × hden hp_46) k => p_46 N x (fun y => k (Pat.inst (.vec (.int .u64) 128) y) (instH hp_46 x.2))) :=
  gd_quiet (E := E_46 N) (p := fun (x : aden ap_46 × hden hp_46) κ => p_46 N x (fun y => κ (Pat.inst (.vec (.int .u64) 128) y))) mixed tyok (eok_46 N) Try.func46 (by kernel_rfl) (by kernel_rfl) (lok_46 N) (fun x k => run_46 N x k)

def ap_10 : List Pat := [.vec (.int .u64) 128, .vec (.int .u64) 128]
def hp_10 : List (Option (Pat × Nat)) := []
def p_10 {R : Type} (N : Nat) (x : ((Nat → Int) × (Nat → Int) × Unit) × (Unit)) (κ0 : (Bool × (Unit)) → Option R) : Option R :=
let a1 : (Nat → Int) := x.1.1
let a2 : (Nat → Int) := x.1.2.1
p_37 N ((), ()) (fun y236 =>
let b237 : Bool := y236
bif (!b237) then (
κ0 (false, ())) else (
p_43 N ((a1, a2, ()), ()) (fun y238 =>
let a239 : (Nat → Int) := y238
p_43 N ((a2, a1, ()), ()) (fun y240 =>
let a241 : (Nat → Int) := y240
bif (schEq (.arr 128 (.int .u64)) a239 a241) then (
p_43 N ((a1, a1, ()), ()) (fun y242 =>
let a243 : (Nat → Int) := y242
let a244 : (Nat → Int) := (Sch.zero (.arr 128 (.int .u64)))
bif (schEq (.arr 128 (.int .u64)) a243 a244) then (
p_46 N ((a1, a2, (), ()), ()) (fun y253 =>
let a254 : (Nat → Int) := y253
p_43 N ((a1, a2, ()), ()) (fun y255 =>
let a256 : (Nat → Int) := y255
κ0 ((schEq (.arr 128 (.int .u64)) a254 a256), ())))) else (
κ0 (false, ())))) else (
κ0 (false, ()))))))

def Q_10 {R : Type} (q_37 : (Unit) × (Unit) → (Bool → Option R) → Option R) (q_43 : ((Nat → Int) × (Nat → Int) × Unit) × (Unit) → ((Nat → Int) → Option R) → Option R) (q_46 : ((Nat → Int) × (Nat → Int) × Unit × Unit) × (Unit) → ((Nat → Int) → Option R) → Option R) (x : ((Nat → Int) × (Nat → Int) × Unit) × (Unit)) (κ0 : (Bool × (Unit)) → Option R) : Option R :=
let a1 : (Nat → Int) := x.1.1
let a2 : (Nat → Int) := x.1.2.1
q_37 ((), ()) (fun y236 =>
let b237 : Bool := y236
bif (!b237) then (
κ0 (false, ())) else (
q_43 ((a1, a2, ()), ()) (fun y238 =>
let a239 : (Nat → Int) := y238
q_43 ((a2, a1, ()), ()) (fun y240 =>
let a241 : (Nat → Int) := y240
bif (schEq (.arr 128 (.int .u64)) a239 a241) then (
q_43 ((a1, a1, ()), ()) (fun y242 =>
let a243 : (Nat → Int) := y242
let a244 : (Nat → Int) := (Sch.zero (.arr 128 (.int .u64)))
bif (schEq (.arr 128 (.int .u64)) a243 a244) then (
q_46 ((a1, a2, (), ()), ()) (fun y253 =>
let a254 : (Nat → Int) := y253
q_43 ((a1, a2, ()), ()) (fun y255 =>
let a256 : (Nat → Int) := y255
κ0 ((schEq (.arr 128 (.int .u64)) a254 a256), ())))) else (
κ0 (false, ())))) else (
κ0 (false, ()))))))
def EG_10 {R : Type} (q_37 : (Unit) × (Unit) → (Bool → Option R) → Option R) (q_43 : ((Nat → Int) × (Nat → Int) × Unit) × (Unit) → ((Nat → Int) → Option R) → Option R) (q_46 : ((Nat → Int) × (Nat → Int) × Unit × Unit) × (Unit) → ((Nat → Int) → Option R) → Option R) : Env R := (((Env.base QQ LN).add 37 ap_37 hp_37 (fun (x : aden ap_37 × hden hp_37) k => q_37 x (fun y => k (Pat.inst (.bool) y) (instH hp_37 x.2)))).add 43 ap_43 hp_43 (fun (x : aden ap_43 × hden hp_43) k => q_43 x (fun y => k (Pat.inst (.vec (.int .u64) 128) y) (instH hp_43 x.2)))).add 46 ap_46 hp_46 (fun (x : aden ap_46 × hden hp_46) k => q_46 x (fun y => k (Pat.inst (.vec (.int .u64) 128) y) (instH hp_46 x.2)))
def LG_10 {R : Type} : Loops R := Loops.none
def E_10 {R : Type} (N : Nat) : Env R := EG_10 (p_37 N) (p_43 N) (p_46 N)
theorem eok_10 {R : Type} (N : Nat) : EK Try.prog (E_10 (R := R) N) := ek_add (ek_add (ek_add (ek_base _ _) (good_37 N)) (good_43 N)) (good_46 N)
def L_10 {R : Type} (N : Nat) : Loops R := LG_10
theorem lok_10 {R : Type} (N : Nat) : LOK 0 TT (E_10 (R := R) N) (drawOk TT QQ) (L_10 N) (bodyOf Try.f10) := loops_nil (by kernel_rfl)
theorem grun_10 {R : Type} (q_37 : (Unit) × (Unit) → (Bool → Option R) → Option R) (q_43 : ((Nat → Int) × (Nat → Int) × Unit) × (Unit) → ((Nat → Int) → Option R) → Option R) (q_46 : ((Nat → Int) × (Nat → Int) × Unit × Unit) × (Unit) → ((Nat → Int) → Option R) → Option R) (x : aden ap_10 × hden hp_10) (k : KF R) : fnrun TT (EG_10 q_37 q_43 q_46) (drawOk TT QQ) (LG_10) true Try.f10 (instA ap_10 x.1) (instH hp_10 x.2) k = Q_10 q_37 q_43 q_46 x (fun y => k (Pat.inst (.bool) y.1) (instH [] y.2)) := by kernel_rfl
theorem run_10 {R : Type} (N : Nat) (x : aden ap_10 × hden hp_10) (k : KF R) : fnrun TT (E_10 (R := R) N) (drawOk TT QQ) (L_10 N) true Try.f10 (instA ap_10 x.1) (instH hp_10 x.2) k = p_10 N x (fun y => k (Pat.inst (.bool) y.1) (instH [] y.2)) := (grun_10 (p_37 N) (p_43 N) (p_46 N) x k).trans (by kernel_rfl)
theorem good_10 {R : Type} (N : Nat) : GD (X := R) Try.prog QQ 10 ap_10 hp_10 (fun (x : aden ap_10 × hden hp_10) k => p_10 N x (fun y => k (Pat.inst (.bool) y.1) (instH [] y.2))) :=
  gd_loud (E := E_10 N) (p := fun (x : aden ap_10 × hden hp_10) k => p_10 N x (fun y => k (Pat.inst (.bool) y.1) (instH [] y.2))) mixed tyok (eok_10 N) Try.func10 (by kernel_rfl) (by kernel_rfl) (by kernel_rfl) (lok_10 N) (fun x k => run_10 N x k)


/-! ### blocks put together -/
def W (x : Int) : Prop := 0 ≤ x ∧ x < 18446744073709551616
theorem W_wrap (x : Int) : W (IntKind.wrap .u64 x) := by rw [wrapU64]; unfold W; omega
theorem W_xor (a b : Int) : W (xorA .u64 a b) := W_wrap _
theorem W_or (a b : Int) : W (orA .u64 a b) := W_wrap _
theorem W_add (a b : Int) : W (addA .u64 a b) := W_wrap _
theorem W_zero : W 0 := by unfold W; omega
theorem xor_comm (a b : Int) : xorA .u64 a b = xorA .u64 b a := by unfold xorA; rw [BitVec.xor_comm]
theorem xor_assoc (a b c : Int) (ha : W a) (hb : W b) (hc : W c) : xorA .u64 (xorA .u64 a b) c = xorA .u64 a (xorA .u64 b c) := by
  have key : ∀ x : BitVec 64, BitVec.ofInt 64 (IntKind.wrap .u64 (x.toNat : Int)) = x := by
    intro x
    rw [wrapU64]
    apply BitVec.eq_of_toNat_eq
    rw [BitVec.toNat_ofInt]
    have := x.isLt
    omega
  unfold xorA
  show IntKind.wrap .u64 (((BitVec.ofInt 64 (IntKind.wrap .u64 ((BitVec.ofInt 64 a ^^^ BitVec.ofInt 64 b).toNat : Int))) ^^^ BitVec.ofInt 64 c).toNat : Int) = IntKind.wrap .u64 ((BitVec.ofInt 64 a ^^^ BitVec.ofInt 64 (IntKind.wrap .u64 ((BitVec.ofInt 64 b ^^^ BitVec.ofInt 64 c).toNat : Int))).toNat : Int)
  rw [key, key, BitVec.xor_assoc]
theorem xor_self (a : Int) : xorA .u64 a a = 0 := by
  unfold xorA
  rw [BitVec.xor_self]
  rfl
theorem zero_xor {a : Int} (h : W a) : xorA .u64 0 a = a := by
  unfold xorA
  rw [wrapU64, BitVec.toNat_xor]
  have q1 : (BitVec.ofInt IntKind.u64.bits a).toNat = a.toNat := by
    show (BitVec.ofInt 64 a).toNat = a.toNat
    rw [BitVec.toNat_ofInt]; have := h.1; have := h.2; omega
  have q2 : (BitVec.ofInt IntKind.u64.bits 0).toNat = 0 := by decide
  rw [q1, q2, Nat.zero_xor]
  have := h.1
  have := h.2
  omega
theorem upd_same {α : Type} (f : Nat → α) (i : Nat) (x : α) : upd f i x i = x := by simp [upd]
theorem upd_other {α : Type} (f : Nat → α) {i j : Nat} (x : α) (h : j ≠ i) : upd f i x j = f j := by
  show (bif Nat.beq j i then x else f j) = f j
  cases hq : Nat.beq j i with
  | false => rfl
  | true => exact absurd (Nat.eq_of_beq_eq_true hq) h
theorem upd_if {α : Type} (f : Nat → α) (i j : Nat) (x : α) : upd f i x j = if j = i then x else f j := by
  by_cases h : j = i
  · subst h; rw [upd_same, if_pos rfl]
  · rw [upd_other f x h, if_neg h]
abbrev Bl := Nat → Int
def nulB : Bl := fun _ => 0
/-- The words from k on, put together. -/
def xorFrom (k : Nat) (o b : Bl) : Bl := fun j => if k ≤ j ∧ j < 128 then xorA .u64 (o j) (b j) else o j
def xorL (l : List Bl) : Bl := l.foldl (xorFrom 0) nulB
theorem l94i {R : Type} (N : Nat) (l : List Bl) (u v : Int) (b z : Bl) (κ) : ∀ (n m k : Nat) (o : Bl), k + m = 128 → m < n →
    l_94_6 (R := R) N n (((), (), l, u, v, b, (k : Int), ()), (z, o, ())) κ = κ (((), (), l, u, v, ()), (z, xorFrom k o b, ()))
  | 0, m, k, o, h1, h2 => by omega
  | n + 1, m, k, o, h1, h2 => by
    unfold l_94_6 B_94_6
    try dsimp only
    by_cases hk : k < 128
    · have e3 : addA .i64 (k : Int) 1 = ((k + 1 : Nat) : Int) := by rw [add64 (by omega) (by omega)]; simp
      rw [bif_t (dT (show (k : Int) < 128 by omega)), bif_t (dT (show (0 : Int) ≤ (k : Int) by omega)), bif_t (dT (show (k : Int) < 128 by omega)), bif_t (dT (show (0 : Int) ≤ (k : Int) by omega)), bif_t (dT (show (k : Int) < 128 by omega)), bif_t (dT (show (0 : Int) ≤ (k : Int) by omega)), bif_t (dT (show (k : Int) < 128 by omega)), e3, Int.toNat_natCast]
      rw [l94i N l u v b z κ n (m - 1) (k + 1) _ (by omega) (by omega)]
      congr 4
      funext j
      unfold xorFrom
      by_cases hj : j = k
      · subst hj; rw [if_neg (by omega), if_pos ⟨by omega, hk⟩, upd_same]
      · rw [upd_other _ _ hj]
        by_cases h3 : k + 1 ≤ j ∧ j < 128
        · rw [if_pos h3, if_pos ⟨by omega, h3.2⟩]
        · rw [if_neg h3, if_neg (by omega)]
    · rw [bif_f (dF (show ¬ (k : Int) < 128 by omega))]
      have e : xorFrom k o b = o := by funext j; unfold xorFrom; rw [if_neg (by omega)]
      rw [e]
theorem l94o {R : Type} (N : Nat) (hN : 1000 < N) (l : List Bl) (hl : l.length ≤ 1000) (z : Bl) (κ) : ∀ (n i : Nat) (o : Bl), i ≤ l.length → l.length - i < n →
    l_94_3 (R := R) N n (((), (), l, (l.length : Int), (i : Int), ()), (z, o, ())) κ = κ (((), (), ()), (z, (l.drop i).foldl (xorFrom 0) o, ()))
  | 0, i, o, h1, h2 => by omega
  | n + 1, i, o, h1, h2 => by
    unfold l_94_3 B_94_3
    try dsimp only
    by_cases hi : i < l.length
    · have hd : l.drop i = l[i] :: l.drop (i + 1) := List.drop_eq_getElem_cons hi
      have hg : List.getD l i (Sch.zero (.arr 128 (.int .u64))) = l[i] := by simp [hi]
      have e3 : addA .i64 (i : Int) 1 = ((i + 1 : Nat) : Int) := by rw [add64 (by omega) (by omega)]; simp
      rw [bif_t (dT (show (i : Int) < (l.length : Int) by omega)), bif_t (dT (show (0 : Int) ≤ (i : Int) by omega)), bif_t (dT (show (i : Int) < (l.length : Int) by omega)), Int.toNat_natCast, hg, hd]
      refine (l94i N l (l.length : Int) (i : Int) l[i] z _ N 128 0 o (by omega) (by omega)).trans ?_
      try dsimp only
      rw [e3]
      exact l94o N hN l hl z κ n (i + 1) _ (by omega) (by omega)
    · rw [bif_f (dF (by omega)), List.drop_eq_nil_of_le (by omega)]
      rfl
theorem p94 {R : Type} (N : Nat) (hN : 1000 < N) (l : List Bl) (hl : l.length ≤ 1000) (κ) : p_94 (R := R) N ((l, ()), ()) κ = κ (xorL l) := by
  unfold p_94
  try dsimp only
  refine (l94o N hN l hl _ _ N 0 _ (by omega) (by omega)).trans ?_
  rfl
def WB (b : Bl) : Prop := ∀ j, j < 128 → W (b j)
def OutB (b : Bl) : Prop := ∀ j, 128 ≤ j → b j = 0
theorem foldl_out : ∀ (l : List Bl) (o : Bl), OutB o → OutB (l.foldl (xorFrom 0) o)
  | [], o, h => h
  | b :: l, o, h => foldl_out l _ fun j hj => by unfold xorFrom; rw [if_neg (by omega)]; exact h j hj
theorem foldl_W : ∀ (l : List Bl) (o : Bl), (∀ j, W (o j)) → ∀ j, W (l.foldl (xorFrom 0) o j)
  | [], o, h => h
  | b :: l, o, h => foldl_W l _ fun j => by unfold xorFrom; split; exact W_xor _ _; exact h j
theorem xorL_W (l : List Bl) (j : Nat) : W (xorL l j) := foldl_W l nulB (fun _ => W_zero) j
theorem xorL_out (l : List Bl) : OutB (xorL l) := foldl_out l nulB (fun _ _ => rfl)
theorem xorL_two (x y : Bl) (j : Nat) : xorL [x, y] j = if j < 128 then xorA .u64 (xorA .u64 0 (x j)) (y j) else 0 := by
  simp only [xorL, List.foldl_cons, List.foldl_nil, xorFrom, nulB]
  by_cases h : j < 128 <;> simp [h]
theorem xorL_one (x : Bl) (h1 : ∀ j, W (x j)) (h2 : OutB x) : xorL [x] = x := by
  funext j
  simp only [xorL, List.foldl_cons, List.foldl_nil, xorFrom, nulB]
  by_cases h : j < 128
  · simp [h, zero_xor (h1 j)]
  · simp [h, h2 j (by omega)]
theorem xorL_comm (x y : Bl) (hx : WB x) (hy : WB y) : xorL [x, y] = xorL [y, x] := by
  funext j
  rw [xorL_two, xorL_two]
  by_cases h : j < 128
  · rw [if_pos h, if_pos h, zero_xor (hx j h), zero_xor (hy j h), xor_comm]
  · rw [if_neg h, if_neg h]
theorem xorL_same (x : Bl) (hx : WB x) : xorL [x, x] = nulB := by
  funext j
  rw [xorL_two]
  by_cases h : j < 128
  · rw [if_pos h, zero_xor (hx j h), xor_self]; rfl
  · rw [if_neg h]; rfl
theorem schEq128 {x y : Bl} (h : ∀ j, j < 128 → x j = y j) : schEq (.arr 128 (.int .u64)) x y = true := by
  show (List.range 128).all (fun i => x i == y i) = true
  rw [List.all_eq_true]
  intro j hj
  rw [List.mem_range] at hj
  rw [h j hj]
  exact beq_self_eq_true _
theorem zero128 : (Sch.zero (.arr 128 (.int .u64)) : Nat → Int) = nulB := rfl

/-! ### four words mixed -/
def prodF (a b : Int) : Int := addA .u64 (addA .u64 a b) (mulA .u64 (mulA .u64 2 (IntKind.wrap .u64 (IntKind.wrap .u32 a))) (IntKind.wrap .u64 (IntKind.wrap .u32 b)))
def rotF (x n : Int) : Int := orA .u64 (shrA .u64 x n) (shlA .u64 x (64 - n))
abbrev Q4 := Int × (Int × (Int × (Int × Unit)))
def qF (a b c d : Int) : Q4 :=
  let a1 := prodF a b
  let d1 := rotF (xorA .u64 d a1) 32
  let c1 := prodF c d1
  let b1 := rotF (xorA .u64 b c1) 24
  let a2 := prodF a1 b1
  let d2 := rotF (xorA .u64 d1 a2) 16
  let c2 := prodF c1 d2
  let b2 := rotF (xorA .u64 b1 c2) 63
  (a2, (b2, (c2, (d2, ()))))
theorem p38 {R : Type} (N : Nat) (a b c d : Int) (κ) : p_38 (R := R) N ((a, b, c, d, ()), ()) κ = κ (qF a b c d) := by kernel_rfl
def stF (v : Bl) (i j k l : Nat) : Bl :=
  let q := qF (v i) (v j) (v k) (v l)
  upd (upd (upd (upd v i q.1) j q.2.1) k q.2.2.1) l q.2.2.2.1
def permF (v : Bl) : Bl := stF (stF (stF (stF (stF (stF (stF (stF v 0 4 8 12) 1 5 9 13) 2 6 10 14) 3 7 11 15) 0 5 10 15) 1 6 11 12) 2 7 8 13) 3 4 9 14
theorem p40 {R : Type} (N : Nat) (hN : N = 1001) (v : Bl) (κ) : p_40 (R := R) N ((v, ()), ()) κ = κ (permF v) := by subst hN; kernel_rfl
theorem qF_W (a b c d : Int) : W (qF a b c d).1 ∧ W (qF a b c d).2.1 ∧ W (qF a b c d).2.2.1 ∧ W (qF a b c d).2.2.2.1 := ⟨W_add _ _, W_or _ _, W_add _ _, W_or _ _⟩
theorem upd_W {v : Bl} (h : ∀ j, W (v j)) (i : Nat) {x : Int} (hx : W x) : ∀ j, W (upd v i x j) := fun j => by rw [upd_if]; split; exact hx; exact h j
theorem stF_W {v : Bl} (h : ∀ j, W (v j)) (i j k l : Nat) : ∀ m, W (stF v i j k l m) := by
  obtain ⟨q1, q2, q3, q4⟩ := qF_W (v i) (v j) (v k) (v l)
  exact upd_W (upd_W (upd_W (upd_W h i q1) j q2) k q3) l q4
theorem permF_W {v : Bl} (h : ∀ j, W (v j)) : ∀ m, W (permF v m) :=
  stF_W (stF_W (stF_W (stF_W (stF_W (stF_W (stF_W (stF_W h _ _ _ _) _ _ _ _) _ _ _ _) _ _ _ _) _ _ _ _) _ _ _ _) _ _ _ _) _ _ _ _

/-! ### rows and columns -/
def gath (at_ b : Bl) : Nat → Nat → Bl → Bl
  | 0, _, v => v
  | n + 1, k, v => gath at_ b n (k + 1) (upd v k (b (at_ k).toNat))
def scat (at_ w : Bl) : Nat → Nat → Bl → Bl
  | 0, _, b => b
  | n + 1, k, b => scat at_ w n (k + 1) (upd b (at_ k).toNat (w k))
def chainA (f : Nat → Int) : Nat → Bl
  | 0 => nulB
  | n + 1 => upd (chainA f n) n (f n)
theorem chainA_get (f : Nat → Int) : ∀ (n k : Nat), k < n → chainA f n k = f k
  | n + 1, k, h => by
    show upd (chainA f n) n (f n) k = f k
    rw [upd_if]
    split
    · subst k; rfl
    · exact chainA_get f n k (by omega)
def atRow (i : Int) : Bl := chainA (fun k => addA .i64 (mulA .i64 16 i) (k : Int)) 16
def atCol (i : Int) : Bl := chainA (fun k => addA .i64 (addA .i64 (mulA .i64 2 i) (remA .i64 (k : Int) 2)) (mulA .i64 16 (quoA .i64 (k : Int) 2))) 16
def at_ (c : Bool) (i : Int) : Bl := bif c then atCol i else atRow i
theorem atRow_get {i : Int} (hi : 0 ≤ i ∧ i < 8) {k : Nat} (hk : k < 16) : atRow i k = 16 * i + k := by
  unfold atRow
  rw [chainA_get _ _ _ hk, mul64 (by omega) (by omega), add64 (by omega) (by omega)]
theorem atCol_get {i : Int} (hi : 0 ≤ i ∧ i < 8) {k : Nat} (hk : k < 16) : atCol i k = 2 * i + ((k % 2 : Nat) : Int) + 16 * ((k / 2 : Nat) : Int) := by
  unfold atCol
  rw [chainA_get _ _ _ hk, mul64 (a := 2) (by omega) (by omega), rem64 (by omega), quo64 (by omega) (by omega) (by omega), add64 (a := 2 * i) (by omega) (by omega), mul64 (a := 16) (by omega) (by omega), add64 (by omega) (by omega)]
  omega
theorem at_in (c : Bool) {i : Int} (hi : 0 ≤ i ∧ i < 8) {k : Nat} (hk : k < 16) : 0 ≤ at_ c i k ∧ at_ c i k < 128 := by
  cases c with
  | false => show 0 ≤ atRow i k ∧ atRow i k < 128; rw [atRow_get hi hk]; omega
  | true => show 0 ≤ atCol i k ∧ atCol i k < 128; rw [atCol_get hi hk]; omega
theorem p95 {R : Type} (N : Nat) (hN : N = 1001) (i : Int) (c : Bool) (κ) : p_95 (R := R) N ((i, c, ()), ()) κ = κ (at_ c i) := by
  subst hN
  cases c with
  | false => kernel_rfl
  | true => kernel_rfl
section
variable {R : Type} (N : Nat)
theorem l44g (b : Bool) (u v w : Int) (at_ : Bl) (hat : ∀ k, k < 16 → 0 ≤ at_ k ∧ at_ k < 128) (a a2 a3 : Bl) (l : List Bool) (κ) : ∀ (n m k : Nat) (o : Bl), k + m = 16 → m < n →
    l_44_10 (R := R) N n (((), (), b, (), (), (), u, v, w, at_, (k : Int), ()), (a, a2, a3, o, l, ())) κ = κ (((), (), b, (), (), (), u, v, w, ()), (a, a2, a3, gath at_ a m k o, l, ()))
  | 0, m, k, o, h1, h2 => by omega
  | n + 1, m, k, o, h1, h2 => by
    unfold l_44_10 B_44_10
    try dsimp only
    cases m with
    | zero => rw [bif_f (dF (show ¬ (k : Int) < 16 by omega))]; rfl
    | succ m =>
      have hk : k < 16 := by omega
      obtain ⟨g1, g2⟩ := hat k hk
      have e3 : addA .i64 (k : Int) 1 = ((k + 1 : Nat) : Int) := by rw [add64 (by omega) (by omega)]; simp
      rw [bif_t (dT (show (k : Int) < 16 by omega)), bif_t (dT (show (0 : Int) ≤ (k : Int) by omega)), bif_t (dT (show (k : Int) < 16 by omega)), Int.toNat_natCast, bif_t (dT g1), bif_t (dT g2), bif_t (dT (show (0 : Int) ≤ (k : Int) by omega)), bif_t (dT (show (k : Int) < 16 by omega)), e3]
      exact l44g b u v w at_ hat a a2 a3 l κ n m (k + 1) _ (by omega) (by omega)
theorem l44s (b : Bool) (u v w : Int) (at_ : Bl) (hat : ∀ k, k < 16 → 0 ≤ at_ k ∧ at_ k < 128) (a2 x : Bl) (l : List Bool) (κ) : ∀ (n m k : Nat) (a : Bl), k + m = 16 → m < n →
    l_44_16 (R := R) N n (((), (), b, (), (), u, v, w, at_, (k : Int), ()), (a, a2, x, l, ())) κ = κ (((), (), b, (), u, v, w, ()), (scat at_ x m k a, a2, l, ()))
  | 0, m, k, a, h1, h2 => by omega
  | n + 1, m, k, a, h1, h2 => by
    unfold l_44_16 B_44_16
    try dsimp only
    cases m with
    | zero => rw [bif_f (dF (show ¬ (k : Int) < 16 by omega))]; rfl
    | succ m =>
      have hk : k < 16 := by omega
      obtain ⟨g1, g2⟩ := hat k hk
      have e3 : addA .i64 (k : Int) 1 = ((k + 1 : Nat) : Int) := by rw [add64 (by omega) (by omega)]; simp
      rw [bif_t (dT (show (k : Int) < 16 by omega)), bif_t (dT (show (0 : Int) ≤ (k : Int) by omega)), bif_t (dT (show (k : Int) < 16 by omega)), Int.toNat_natCast, bif_t (dT (show (0 : Int) ≤ (k : Int) by omega)), bif_t (dT (show (k : Int) < 16 by omega)), bif_t (dT g1), bif_t (dT g2), e3]
      exact l44s b u v w at_ hat a2 x l κ n m (k + 1) _ (by omega) (by omega)
end
def wStep (c : Bool) (i : Int) (a : Bl) : Bl := scat (at_ c i) (permF (gath (at_ c i) a 16 0 nulB)) 16 0 a
def wRun (c : Bool) : Nat → Nat → Bl → Bl
  | 0, _, a => a
  | n + 1, i, a => wRun c n (i + 1) (wStep c (i : Int) a)
def wholeF (a : Bl) : Bl := wRun true 8 0 (wRun false 8 0 a)
theorem l44i {R : Type} (N : Nat) (hN : N = 1001) (c : Bool) (u v : Int) (a2 : Bl) (l : List Bool) (κ) : ∀ (n m i : Nat) (a : Bl), i + m = 8 → m < n →
    l_44_5 (R := R) N n (((), (), c, (), u, v, (i : Int), ()), (a, a2, l, ())) κ = κ (((), (), (), u, v, ()), (wRun c m i a, a2, l, ()))
  | 0, m, i, a, h1, h2 => by omega
  | n + 1, m, i, a, h1, h2 => by
    unfold l_44_5 B_44_5
    try dsimp only
    cases m with
    | zero => rw [bif_f (dF (show ¬ (i : Int) < 8 by omega))]; rfl
    | succ m =>
      have hi : (0 : Int) ≤ (i : Int) ∧ (i : Int) < 8 := by omega
      have e3 : addA .i64 (i : Int) 1 = ((i + 1 : Nat) : Int) := by rw [add64 (by omega) (by omega)]; simp
      rw [bif_t (dT (show (i : Int) < 8 by omega)), p95 N hN]
      refine (l44g N c u v (i : Int) (at_ c i) (fun k hk => at_in c hi hk) a a2 _ l _ N 16 0 _ (by omega) (by omega)).trans ?_
      try dsimp only
      rw [p40 N hN]
      refine (l44s N c u v (i : Int) (at_ c i) (fun k hk => at_in c hi hk) a2 _ l _ N 16 0 a (by omega) (by omega)).trans ?_
      try dsimp only
      rw [e3]
      exact l44i N hN c u v a2 l κ n m (i + 1) _ (by omega) (by omega)
theorem p44 {R : Type} (N : Nat) (hN : N = 1001) (a : Bl) (κ) : p_44 (R := R) N ((a, ()), ()) κ = κ (wholeF a) := by
  unfold p_44
  try dsimp only
  have step : ∀ (n : Nat) (c : Bool) (i : Nat) (a a2 : Bl) (κ), i < 2 → [false, true].getD i false = c →
      l_44_2 (R := R) N (n + 1) (((), (), (), 2, (i : Int), ()), (a, a2, [false, true], ())) κ = l_44_2 N n (((), (), (), 2, ((i + 1 : Nat) : Int), ()), (wRun c 8 0 a, a2, [false, true], ())) κ := by
    intro n c i a a2 κ hi hc
    conv => lhs; unfold l_44_2 B_44_2
    dsimp only [List.length_cons, List.length_nil]
    rw [bif_t (dT (by omega)), bif_t (dT (by omega)), bif_t (dT (by show (i : Int) < ((0 + 1 + 1 : Nat) : Int); omega)), Int.toNat_natCast]
    show l_44_5 N N (((), (), [false, true].getD i false, (), 2, (i : Int), ((0 : Nat) : Int), ()), (a, a2, [false, true], ())) _ = _
    rw [hc]
    refine (l44i N hN c 2 (i : Int) a2 [false, true] _ N 8 0 a (by omega) (by omega)).trans ?_
    try dsimp only
    rw [show addA .i64 (i : Int) 1 = ((i + 1 : Nat) : Int) by rw [add64 (by omega) (by omega)]; simp]
  obtain ⟨n, rfl⟩ : ∃ n, N = n + 3 := ⟨N - 3, by omega⟩
  refine (step (n + 2) false 0 a _ _ (by omega) rfl).trans ?_
  refine (step (n + 1) true 1 _ _ _ (by omega) rfl).trans ?_
  rfl
def mixF (x y : Bl) : Bl := xorL [xorL [x, y], wholeF (xorL [x, y])]
theorem p43 {R : Type} (N : Nat) (hN : N = 1001) (x y : Bl) (κ) : p_43 (R := R) N ((x, y, ()), ()) κ = κ (mixF x y) := by
  unfold p_43
  try dsimp only
  rw [p94 N (by omega) [x, y] (by simp)]
  try dsimp only
  rw [p44 N hN]
  try dsimp only
  rw [p94 N (by omega) _ (by simp)]
  rfl
theorem mixF_W (x y : Bl) (j : Nat) : W (mixF x y j) := xorL_W _ j
theorem mixF_out (x y : Bl) : OutB (mixF x y) := xorL_out _
theorem mixF_comm (x y : Bl) (hx : WB x) (hy : WB y) : mixF x y = mixF y x := by unfold mixF; rw [xorL_comm x y hx hy]
/-- A block without a word mixed with itself. -/
theorem whole_zero : wholeF nulB = nulB := by
  have p0 : prodF 0 0 = 0 := by decide
  have r0 : ∀ n : Int, 0 ≤ n → rotF 0 n = 0 := by
    intro n hn
    unfold rotF
    have e1 : shrA .u64 0 n = 0 := by unfold shrA; simp
    have e2 : shlA .u64 0 (64 - n) = 0 := by unfold shlA; simp; rfl
    rw [e1, e2]; rfl
  have x0 : xorA .u64 0 0 = 0 := by decide
  have q0 : qF 0 0 0 0 = (0, (0, (0, (0, ())))) := by
    unfold qF
    simp only [p0, x0, r0 32 (by omega), r0 24 (by omega), r0 16 (by omega), r0 63 (by omega)]
  have u0 : ∀ i, upd nulB i 0 = nulB := fun i => by funext j; rw [upd_if]; split <;> rfl
  have s0 : ∀ i j k l, stF nulB i j k l = nulB := by
    intro i j k l
    unfold stF
    show (let q := qF 0 0 0 0; upd (upd (upd (upd nulB i q.1) j q.2.1) k q.2.2.1) l q.2.2.2.1) = nulB
    simp only [q0, u0]
  have pm : permF nulB = nulB := by unfold permF; simp only [s0]
  have g0 : ∀ (at_ : Bl) (n k : Nat), gath at_ nulB n k nulB = nulB := by
    intro at_ n
    induction n with
    | zero => intro k; rfl
    | succ n ih => intro k; show gath at_ nulB n (k + 1) (upd nulB k 0) = nulB; rw [u0]; exact ih (k + 1)
  have c0 : ∀ (at_ : Bl) (n k : Nat), scat at_ nulB n k nulB = nulB := by
    intro at_ n
    induction n with
    | zero => intro k; rfl
    | succ n ih => intro k; show scat at_ nulB n (k + 1) (upd nulB _ 0) = nulB; rw [u0]; exact ih (k + 1)
  have w0 : ∀ c i, wStep c i nulB = nulB := fun c i => by unfold wStep; rw [g0, pm, c0]
  have t0 : ∀ (c : Bool) (n i : Nat), wRun c n i nulB = nulB := by
    intro c n
    induction n with
    | zero => intro i; rfl
    | succ n ih => intro i; show wRun c n (i + 1) (wStep c _ nulB) = nulB; rw [w0]; exact ih (i + 1)
  unfold wholeF
  rw [t0, t0]
theorem mixF_same (x : Bl) (hx : WB x) : mixF x x = nulB := by
  unfold mixF
  rw [xorL_same x hx, whole_zero, xorL_same nulB (fun _ _ => W_zero)]
theorem p37 {R : Type} (N : Nat) (hN : N = 1001) (κ) : p_37 (R := R) N ((), ()) κ = κ true := by subst hN; kernel_rfl

theorem p46 {R : Type} (N : Nat) (hN : N = 1001) (x y : Bl) (κ) : p_46 (R := R) N ((x, y, (), ()), ()) κ = κ (mixF x y) := by
  unfold p_46
  try dsimp only
  rw [p43 N hN]
  try dsimp only
  rw [bif_t (by simp)]
  rw [p94 N (by omega) _ (by simp)]
  rw [List.append_nil, xorL_one _ (mixF_W x y) (mixF_out x y)]
theorem p10 (N : Nat) (hN : N = 1001) (x y : Bl) (hx : WB x) (hy : WB y) (κ) : p_10 (R := AV) N ((x, y, ()), ()) κ = κ (true, ()) := by
  unfold p_10
  try dsimp only
  rw [p37 N hN]
  simp only [Bool.not_true, cond_false]
  rw [p43 N hN]
  try dsimp only
  rw [p43 N hN]
  try dsimp only
  rw [mixF_comm y x hy hx, schEq128 (fun _ _ => rfl)]
  rw [bif_t rfl, p43 N hN]
  try dsimp only
  rw [mixF_same x hx, zero128, schEq128 (fun _ _ => rfl), bif_t rfl, p46 N hN]
  try dsimp only
  rw [p43 N hN, schEq128 (fun _ _ => rfl)]
theorem law_all (y0 : Bl) (wf0 : WF (.arr 128 (.int .u64)) y0) (y1 : Bl) (wf1 : WF (.arr 128 (.int .u64)) y1) :
    ∃ H', ACalls Try.prog 10 [toAV (.arr 128 (.int .u64)) y0, toAV (.arr 128 (.int .u64)) y1] [] (.bool true) H' :=
  gd_law (good_10 1001) (x := (y0, y1, ())) (p10 1001 rfl y0 y1 (fun j hj => wf_u64 (wf0 j hj)) (fun j hj => wf_u64 (wf1 j hj)) _)
end Go.Proofs.Ytjehpceomlnicaa.Eng
