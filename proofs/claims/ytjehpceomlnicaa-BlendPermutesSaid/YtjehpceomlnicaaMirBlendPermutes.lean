/-
Plain functions that the functions of the program are shown to come to, printed by a program of the prover; each with its proof.
Conditions: none.
-/
import Derived.Test.YtjehpceomlnicaaProg
import Derived.Test.YtjehpceomlnicaaEngY
import Derived.KernelRfl
set_option linter.unusedVariables false
set_option linter.unusedSimpArgs false
namespace Go.Proofs.Ytjehpceomlnicaa.Eng
def TT : Types := [(62, ⟨.arr 16 61, 16, 128, .vec (.int .u64) 16 (Sch.zero (.arr 16 (.int .u64))), some (.arr 16 (.int .u64)), true⟩),
  (4, ⟨.bool, 1, 1, .bool false, some (.bool), false⟩),
  (70, ⟨.arr 128 61, 128, 1024, .vec (.int .u64) 128 (Sch.zero (.arr 128 (.int .u64))), some (.arr 128 (.int .u64)), true⟩),
  (61, ⟨.int .u64, 1, 8, .int .u64 0, some (.int .u64), false⟩),
  (31, ⟨.int .u32, 1, 4, .int .u32 0, some (.int .u32), false⟩),
  (3, ⟨.int .i64, 1, 8, .int .i64 0, some (.int .i64), false⟩),
  (139, ⟨.int .u64, 1, 8, .int .u64 0, some (.int .u64), false⟩),
  (71, ⟨.slice 70, 1, 24, .nils, some (.sl (.arr 128 (.int .u64))), false⟩),
  (54, ⟨.slice 4, 1, 24, .nils, some (.sl (.bool)), false⟩),
  (153, ⟨.arr 16 3, 16, 128, .vec (.int .i64) 16 (Sch.zero (.arr 16 (.int .i64))), some (.arr 16 (.int .i64)), true⟩),
  (150, ⟨.arr 8 104, 32, 256, .vec (.arr 4 (.int .i64)) 8 (Sch.zero (.arr 8 (.arr 4 (.int .i64)))), some (.arr 8 (.arr 4 (.int .i64))), true⟩),
  (104, ⟨.arr 4 3, 4, 32, .vec (.int .i64) 4 (Sch.zero (.arr 4 (.int .i64))), some (.arr 4 (.int .i64)), true⟩),
  (65, ⟨.arr 4 61, 4, 32, .vec (.int .u64) 4 (Sch.zero (.arr 4 (.int .u64))), some (.arr 4 (.int .u64)), true⟩)]
theorem tyok : TyOk Try.prog TT := TyOk.of (by kernel_rfl)
theorem mixed : Try.prog.follows .mixedOrders = true := by kernel_rfl
def QQ : FuncId → Bool := fun f => memN [37, 38, 39, 40, 41, 43, 44, 89, 90, 91, 92, 93, 94, 95] f
def LN : FuncId → Bool := fun f => memN [94] f
def ap_89 : List Pat := [.int .u64, .int .u64]
def hp_89 : List (Option (Pat × Nat)) := []
def p_89 {R : Type} (N : Nat) (x : (Int × Int × Unit) × (Unit)) (κ0 : Int → Option R) : Option R :=
let i7 : Int := x.1.1
let i8 : Int := x.1.2.1
let i9 : Int := addA .u64 i7 i8
let i10 : Int := IntKind.wrap .u32 i7
let i11 : Int := IntKind.wrap .u64 i10
let i12 : Int := mulA .u64 2 i11
let i13 : Int := IntKind.wrap .u32 i8
let i14 : Int := IntKind.wrap .u64 i13
let i15 : Int := mulA .u64 i12 i14
let i16 : Int := addA .u64 i9 i15
κ0 i16

def Q_89 {R : Type} (x : (Int × Int × Unit) × (Unit)) (κ0 : Int → Option R) : Option R :=
let i7 : Int := x.1.1
let i8 : Int := x.1.2.1
let i9 : Int := addA .u64 i7 i8
let i10 : Int := IntKind.wrap .u32 i7
let i11 : Int := IntKind.wrap .u64 i10
let i12 : Int := mulA .u64 2 i11
let i13 : Int := IntKind.wrap .u32 i8
let i14 : Int := IntKind.wrap .u64 i13
let i15 : Int := mulA .u64 i12 i14
let i16 : Int := addA .u64 i9 i15
κ0 i16
def EG_89 {R : Type} : Env R := Env.base QQ LN
def LG_89 {R : Type} : Loops R := Loops.none
def E_89 {R : Type} (N : Nat) : Env R := EG_89
theorem eok_89 {R : Type} (N : Nat) : EK Try.prog (E_89 (R := R) N) := ek_base _ _
def L_89 {R : Type} (N : Nat) : Loops R := LG_89
theorem lok_89 {R : Type} (N : Nat) : LOK 0 TT (E_89 (R := R) N) (drawOk TT QQ) (L_89 N) (bodyOf Try.f89) := loops_nil (by kernel_rfl)
theorem grun_89 {R : Type} (x : aden ap_89 × hden hp_89) (k : KF R) : fnrun TT (EG_89) (drawOk TT QQ) (LG_89) true Try.f89 (instA ap_89 x.1) (instH hp_89 x.2) k = Q_89 x (fun y => k (Pat.inst (.int .u64) y) (instH hp_89 x.2)) := by kernel_rfl
theorem run_89 {R : Type} (N : Nat) (x : aden ap_89 × hden hp_89) (k : KF R) : fnrun TT (E_89 (R := R) N) (drawOk TT QQ) (L_89 N) true Try.f89 (instA ap_89 x.1) (instH hp_89 x.2) k = p_89 N x (fun y => k (Pat.inst (.int .u64) y) (instH hp_89 x.2)) := (grun_89 x k).trans (by kernel_rfl)
theorem good_89 {R : Type} (N : Nat) : GD (X := R) Try.prog QQ 89 ap_89 hp_89 (fun (x : aden ap_89 × hden hp_89) k => p_89 N x (fun y => k (Pat.inst (.int .u64) y) (instH hp_89 x.2))) :=
  gd_quiet (E := E_89 N) (p := fun (x : aden ap_89 × hden hp_89) κ => p_89 N x (fun y => κ (Pat.inst (.int .u64) y))) mixed tyok (eok_89 N) Try.func89 (by kernel_rfl) (by kernel_rfl) (lok_89 N) (fun x k => run_89 N x k)

def ap_90 : List Pat := [.int .u64, .int .i64]
def hp_90 : List (Option (Pat × Nat)) := []
def p_90 {R : Type} (N : Nat) (x : (Int × Int × Unit) × (Unit)) (κ0 : Int → Option R) : Option R :=
let i20 : Int := x.1.1
let i21 : Int := x.1.2.1
let i22 : Int := IntKind.wrap .u64 i21
let i23 : Int := remA .u64 i22 64
bif decide (i23 < 0) then none else (
let i24 : Int := shrA .u64 i20 i23
let i25 : Int := subA .u64 64 i23
bif decide (i25 < 0) then none else (
let i26 : Int := shlA .u64 i20 i25
let i27 : Int := orA .u64 i24 i26
κ0 i27))

def Q_90 {R : Type} (x : (Int × Int × Unit) × (Unit)) (κ0 : Int → Option R) : Option R :=
let i20 : Int := x.1.1
let i21 : Int := x.1.2.1
let i22 : Int := IntKind.wrap .u64 i21
let i23 : Int := remA .u64 i22 64
bif decide (i23 < 0) then none else (
let i24 : Int := shrA .u64 i20 i23
let i25 : Int := subA .u64 64 i23
bif decide (i25 < 0) then none else (
let i26 : Int := shlA .u64 i20 i25
let i27 : Int := orA .u64 i24 i26
κ0 i27))
def EG_90 {R : Type} : Env R := Env.base QQ LN
def LG_90 {R : Type} : Loops R := Loops.none
def E_90 {R : Type} (N : Nat) : Env R := EG_90
theorem eok_90 {R : Type} (N : Nat) : EK Try.prog (E_90 (R := R) N) := ek_base _ _
def L_90 {R : Type} (N : Nat) : Loops R := LG_90
theorem lok_90 {R : Type} (N : Nat) : LOK 0 TT (E_90 (R := R) N) (drawOk TT QQ) (L_90 N) (bodyOf Try.f90) := loops_nil (by kernel_rfl)
theorem grun_90 {R : Type} (x : aden ap_90 × hden hp_90) (k : KF R) : fnrun TT (EG_90) (drawOk TT QQ) (LG_90) true Try.f90 (instA ap_90 x.1) (instH hp_90 x.2) k = Q_90 x (fun y => k (Pat.inst (.int .u64) y) (instH hp_90 x.2)) := by kernel_rfl
theorem run_90 {R : Type} (N : Nat) (x : aden ap_90 × hden hp_90) (k : KF R) : fnrun TT (E_90 (R := R) N) (drawOk TT QQ) (L_90 N) true Try.f90 (instA ap_90 x.1) (instH hp_90 x.2) k = p_90 N x (fun y => k (Pat.inst (.int .u64) y) (instH hp_90 x.2)) := (grun_90 x k).trans (by kernel_rfl)
theorem good_90 {R : Type} (N : Nat) : GD (X := R) Try.prog QQ 90 ap_90 hp_90 (fun (x : aden ap_90 × hden hp_90) k => p_90 N x (fun y => k (Pat.inst (.int .u64) y) (instH hp_90 x.2))) :=
  gd_quiet (E := E_90 N) (p := fun (x : aden ap_90 × hden hp_90) κ => p_90 N x (fun y => κ (Pat.inst (.int .u64) y))) mixed tyok (eok_90 N) Try.func90 (by kernel_rfl) (by kernel_rfl) (lok_90 N) (fun x k => run_90 N x k)

def ap_38 : List Pat := [.int .u64, .int .u64, .int .u64, .int .u64]
def hp_38 : List (Option (Pat × Nat)) := []
def p_38 {R : Type} (N : Nat) (x : (Int × Int × Int × Int × Unit) × (Unit)) (κ0 : (Int × (Int × (Int × (Int × Unit)))) → Option R) : Option R :=
let i3 : Int := x.1.1
let i4 : Int := x.1.2.1
let i5 : Int := x.1.2.2.1
let i6 : Int := x.1.2.2.2.1
p_89 N ((i3, i4, ()), ()) (fun y17 =>
let i18 : Int := y17
let i19 : Int := xorA .u64 i6 i18
p_90 N ((i19, 32, ()), ()) (fun y28 =>
let i29 : Int := y28
p_89 N ((i5, i29, ()), ()) (fun y30 =>
let i31 : Int := y30
let i32 : Int := xorA .u64 i4 i31
p_90 N ((i32, 24, ()), ()) (fun y33 =>
let i34 : Int := y33
p_89 N ((i18, i34, ()), ()) (fun y35 =>
let i36 : Int := y35
let i37 : Int := xorA .u64 i29 i36
p_90 N ((i37, 16, ()), ()) (fun y38 =>
let i39 : Int := y38
p_89 N ((i31, i39, ()), ()) (fun y40 =>
let i41 : Int := y40
let i42 : Int := xorA .u64 i34 i41
p_90 N ((i42, 63, ()), ()) (fun y43 =>
let i44 : Int := y43
κ0 ((i36, (i44, (i41, (i39, ())))))))))))))

def Q_38 {R : Type} (q_89 : (Int × Int × Unit) × (Unit) → (Int → Option R) → Option R) (q_90 : (Int × Int × Unit) × (Unit) → (Int → Option R) → Option R) (x : (Int × Int × Int × Int × Unit) × (Unit)) (κ0 : (Int × (Int × (Int × (Int × Unit)))) → Option R) : Option R :=
let i3 : Int := x.1.1
let i4 : Int := x.1.2.1
let i5 : Int := x.1.2.2.1
let i6 : Int := x.1.2.2.2.1
q_89 ((i3, i4, ()), ()) (fun y17 =>
let i18 : Int := y17
let i19 : Int := xorA .u64 i6 i18
q_90 ((i19, 32, ()), ()) (fun y28 =>
let i29 : Int := y28
q_89 ((i5, i29, ()), ()) (fun y30 =>
let i31 : Int := y30
let i32 : Int := xorA .u64 i4 i31
q_90 ((i32, 24, ()), ()) (fun y33 =>
let i34 : Int := y33
q_89 ((i18, i34, ()), ()) (fun y35 =>
let i36 : Int := y35
let i37 : Int := xorA .u64 i29 i36
q_90 ((i37, 16, ()), ()) (fun y38 =>
let i39 : Int := y38
q_89 ((i31, i39, ()), ()) (fun y40 =>
let i41 : Int := y40
let i42 : Int := xorA .u64 i34 i41
q_90 ((i42, 63, ()), ()) (fun y43 =>
let i44 : Int := y43
κ0 ((i36, (i44, (i41, (i39, ())))))))))))))
def EG_38 {R : Type} (q_89 : (Int × Int × Unit) × (Unit) → (Int → Option R) → Option R) (q_90 : (Int × Int × Unit) × (Unit) → (Int → Option R) → Option R) : Env R := ((Env.base QQ LN).add 89 ap_89 hp_89 (fun (x : aden ap_89 × hden hp_89) k => q_89 x (fun y => k (Pat.inst (.int .u64) y) (instH hp_89 x.2)))).add 90 ap_90 hp_90 (fun (x : aden ap_90 × hden hp_90) k => q_90 x (fun y => k (Pat.inst (.int .u64) y) (instH hp_90 x.2)))
def LG_38 {R : Type} : Loops R := Loops.none
def E_38 {R : Type} (N : Nat) : Env R := EG_38 (p_89 N) (p_90 N)
theorem eok_38 {R : Type} (N : Nat) : EK Try.prog (E_38 (R := R) N) := ek_add (ek_add (ek_base _ _) (good_89 N)) (good_90 N)
def L_38 {R : Type} (N : Nat) : Loops R := LG_38
theorem lok_38 {R : Type} (N : Nat) : LOK 0 TT (E_38 (R := R) N) (drawOk TT QQ) (L_38 N) (bodyOf Try.f38) := loops_nil (by kernel_rfl)
theorem grun_38 {R : Type} (q_89 : (Int × Int × Unit) × (Unit) → (Int → Option R) → Option R) (q_90 : (Int × Int × Unit) × (Unit) → (Int → Option R) → Option R) (x : aden ap_38 × hden hp_38) (k : KF R) : fnrun TT (EG_38 q_89 q_90) (drawOk TT QQ) (LG_38) true Try.f38 (instA ap_38 x.1) (instH hp_38 x.2) k = Q_38 q_89 q_90 x (fun y => k (Pat.inst (.tup (.fcons (.int .u64) (.fcons (.int .u64) (.fcons (.int .u64) (.fcons (.int .u64) (.fnil)))))) y) (instH hp_38 x.2)) := by kernel_rfl
theorem run_38 {R : Type} (N : Nat) (x : aden ap_38 × hden hp_38) (k : KF R) : fnrun TT (E_38 (R := R) N) (drawOk TT QQ) (L_38 N) true Try.f38 (instA ap_38 x.1) (instH hp_38 x.2) k = p_38 N x (fun y => k (Pat.inst (.tup (.fcons (.int .u64) (.fcons (.int .u64) (.fcons (.int .u64) (.fcons (.int .u64) (.fnil)))))) y) (instH hp_38 x.2)) := (grun_38 (p_89 N) (p_90 N) x k).trans (by kernel_rfl)
theorem good_38 {R : Type} (N : Nat) : GD (X := R) Try.prog QQ 38 ap_38 hp_38 (fun (x : aden ap_38 × hden hp_38) k => p_38 N x (fun y => k (Pat.inst (.tup (.fcons (.int .u64) (.fcons (.int .u64) (.fcons (.int .u64) (.fcons (.int .u64) (.fnil)))))) y) (instH hp_38 x.2))) :=
  gd_quiet (E := E_38 N) (p := fun (x : aden ap_38 × hden hp_38) κ => p_38 N x (fun y => κ (Pat.inst (.tup (.fcons (.int .u64) (.fcons (.int .u64) (.fcons (.int .u64) (.fcons (.int .u64) (.fnil)))))) y))) mixed tyok (eok_38 N) Try.func38 (by kernel_rfl) (by kernel_rfl) (lok_38 N) (fun x k => run_38 N x k)

def lv_94_6 : Live := [(2, none), (3, none), (8, none), (9, none), (10, none), (14, none), (15, none)]
def pt_94_6 : SPat := ⟨[(2, .ptr 0 []), (3, .ptr 1 []), (8, .ros (.arr 128 (.int .u64))), (9, .int .i64), (10, .int .i64), (14, .vec (.int .u64) 128), (15, .int .i64)], [some (.vec (.int .u64) 128, 70), some (.vec (.int .u64) 128, 70)]⟩
def px_94_6_0 : SPat := ⟨[(2, .ptr 0 []), (3, .ptr 1 []), (8, .ros (.arr 128 (.int .u64))), (9, .int .i64), (10, .int .i64)], [some (.vec (.int .u64) 128, 70), some (.vec (.int .u64) 128, 70)]⟩
def lo_94_6 : Exit → Live
  | .exit 2 => [(2, none), (3, none), (8, none), (9, none), (10, none)]
  | _ => []
def B_94_6 {R : Type} (N : Nat) (rec : ((Unit × Unit × (List (Nat → Int)) × Int × Int × (Nat → Int) × Int × Unit) × ((Nat → Int) × (Nat → Int) × Unit)) → Option R) (x : ((Unit × Unit × (List (Nat → Int)) × Int × Int × (Nat → Int) × Int × Unit) × ((Nat → Int) × (Nat → Int) × Unit))) (κ0 : ((Unit × Unit × (List (Nat → Int)) × Int × Int × Unit) × ((Nat → Int) × (Nat → Int) × Unit)) → Option R) : Option R :=
let l61 : (List (Nat → Int)) := x.1.2.2.1
let i62 : Int := x.1.2.2.2.1
let i63 : Int := x.1.2.2.2.2.1
let a64 : (Nat → Int) := x.1.2.2.2.2.2.1
let i65 : Int := x.1.2.2.2.2.2.2.1
let a66 : (Nat → Int) := x.2.1
let a67 : (Nat → Int) := x.2.2.1
bif (decide (i65 < 128)) then (
bif decide (0 ≤ i65) then (
bif decide (i65 < (128 : Int)) then (
let i68 : Int := (a64 ((Int.toNat i65)))
bif decide (0 ≤ i65) then (
bif decide (i65 < (128 : Int)) then (
let i69 : Int := (a67 ((Int.toNat i65)))
let i70 : Int := xorA .u64 i69 i68
bif decide (0 ≤ i65) then (
bif decide (i65 < (128 : Int)) then (
let a71 : (Nat → Int) := (upd a67 ((Int.toNat i65)) i70)
let i72 : Int := addA .i64 i65 1
rec (((), (), l61, i62, i63, a64, i72, ()), (a66, a71, ()))) else none) else none) else none) else none) else none) else none) else (
κ0 (((), (), l61, i62, i63, ()), (a66, a67, ())))
def l_94_6 {R : Type} (N : Nat) : Nat → ((Unit × Unit × (List (Nat → Int)) × Int × Int × (Nat → Int) × Int × Unit) × ((Nat → Int) × (Nat → Int) × Unit)) → (((Unit × Unit × (List (Nat → Int)) × Int × Int × Unit) × ((Nat → Int) × (Nat → Int) × Unit)) → Option R) → Option R
  | 0, _, _ => none
  | n + 1, x, κ0 => B_94_6 N (fun y => l_94_6 N n y κ0) x κ0
def lv_94_3 : Live := [(2, none), (3, none), (8, none), (9, none), (10, none)]
def pt_94_3 : SPat := ⟨[(2, .ptr 0 []), (3, .ptr 1 []), (8, .ros (.arr 128 (.int .u64))), (9, .int .i64), (10, .int .i64)], [some (.vec (.int .u64) 128, 70), some (.vec (.int .u64) 128, 70)]⟩
def px_94_3_0 : SPat := ⟨[(2, .ptr 0 []), (3, .ptr 1 [])], [some (.vec (.int .u64) 128, 70), some (.vec (.int .u64) 128, 70)]⟩
def lo_94_3 : Exit → Live
  | .exit 0 => [(2, none), (3, none)]
  | _ => []
def B_94_3 {R : Type} (N : Nat) (rec : ((Unit × Unit × (List (Nat → Int)) × Int × Int × Unit) × ((Nat → Int) × (Nat → Int) × Unit)) → Option R) (x : ((Unit × Unit × (List (Nat → Int)) × Int × Int × Unit) × ((Nat → Int) × (Nat → Int) × Unit))) (κ0 : ((Unit × Unit × Unit) × ((Nat → Int) × (Nat → Int) × Unit)) → Option R) : Option R :=
let l55 : (List (Nat → Int)) := x.1.2.2.1
let i56 : Int := x.1.2.2.2.1
let i57 : Int := x.1.2.2.2.2.1
let a58 : (Nat → Int) := x.2.1
let a59 : (Nat → Int) := x.2.2.1
bif (decide (i57 < i56)) then (
bif decide (0 ≤ i57) then (
bif decide (i57 < ((List.length l55) : Int)) then (
let p60 : (Nat → Int) := (List.getD l55 ((Int.toNat i57)) (Sch.zero (.arr 128 (.int .u64))))
l_94_6 N N (((), (), l55, i56, i57, p60, 0, ()), (a58, a59, ())) (fun y73 =>
let l74 : (List (Nat → Int)) := y73.1.2.2.1
let i75 : Int := y73.1.2.2.2.1
let i76 : Int := y73.1.2.2.2.2.1
let a77 : (Nat → Int) := y73.2.1
let a78 : (Nat → Int) := y73.2.2.1
let i79 : Int := addA .i64 i76 1
rec (((), (), l74, i75, i79, ()), (a77, a78, ())))) else none) else none) else (
κ0 (((), (), ()), (a58, a59, ())))
def l_94_3 {R : Type} (N : Nat) : Nat → ((Unit × Unit × (List (Nat → Int)) × Int × Int × Unit) × ((Nat → Int) × (Nat → Int) × Unit)) → (((Unit × Unit × Unit) × ((Nat → Int) × (Nat → Int) × Unit)) → Option R) → Option R
  | 0, _, _ => none
  | n + 1, x, κ0 => B_94_3 N (fun y => l_94_3 N n y κ0) x κ0
def ap_94 : List Pat := [.ros (.arr 128 (.int .u64))]
def hp_94 : List (Option (Pat × Nat)) := []
def p_94 {R : Type} (N : Nat) (x : ((List (Nat → Int)) × Unit) × (Unit)) (κ0 : (Nat → Int) → Option R) : Option R :=
let l53 : (List (Nat → Int)) := x.1.1
let i54 : Int := (((List.length l53) : Nat) : Int)
l_94_3 N N (((), (), l53, i54, 0, ()), ((Sch.zero (.arr 128 (.int .u64))), (Sch.zero (.arr 128 (.int .u64))), ())) (fun y80 =>
let a81 : (Nat → Int) := y80.2.1
let a82 : (Nat → Int) := y80.2.2.1
κ0 a82)

def Q_94 {R : Type} (m_94_6 : ((Unit × Unit × (List (Nat → Int)) × Int × Int × (Nat → Int) × Int × Unit) × ((Nat → Int) × (Nat → Int) × Unit)) → (((Unit × Unit × (List (Nat → Int)) × Int × Int × Unit) × ((Nat → Int) × (Nat → Int) × Unit)) → Option R) → Option R) (m_94_3 : ((Unit × Unit × (List (Nat → Int)) × Int × Int × Unit) × ((Nat → Int) × (Nat → Int) × Unit)) → (((Unit × Unit × Unit) × ((Nat → Int) × (Nat → Int) × Unit)) → Option R) → Option R) (x : ((List (Nat → Int)) × Unit) × (Unit)) (κ0 : (Nat → Int) → Option R) : Option R :=
let l53 : (List (Nat → Int)) := x.1.1
let i54 : Int := (((List.length l53) : Nat) : Int)
m_94_3 (((), (), l53, i54, 0, ()), ((Sch.zero (.arr 128 (.int .u64))), (Sch.zero (.arr 128 (.int .u64))), ())) (fun y80 =>
let a81 : (Nat → Int) := y80.2.1
let a82 : (Nat → Int) := y80.2.2.1
κ0 a82)
def C_94_6 {R : Type} (m_94_6 : ((Unit × Unit × (List (Nat → Int)) × Int × Int × (Nat → Int) × Int × Unit) × ((Nat → Int) × (Nat → Int) × Unit)) → (((Unit × Unit × (List (Nat → Int)) × Int × Int × Unit) × ((Nat → Int) × (Nat → Int) × Unit)) → Option R) → Option R) (m_94_3 : ((Unit × Unit × (List (Nat → Int)) × Int × Int × Unit) × ((Nat → Int) × (Nat → Int) × Unit)) → (((Unit × Unit × Unit) × ((Nat → Int) × (Nat → Int) × Unit)) → Option R) → Option R) (rec : ((Unit × Unit × (List (Nat → Int)) × Int × Int × (Nat → Int) × Int × Unit) × ((Nat → Int) × (Nat → Int) × Unit)) → Option R) (x : ((Unit × Unit × (List (Nat → Int)) × Int × Int × (Nat → Int) × Int × Unit) × ((Nat → Int) × (Nat → Int) × Unit))) (κ0 : ((Unit × Unit × (List (Nat → Int)) × Int × Int × Unit) × ((Nat → Int) × (Nat → Int) × Unit)) → Option R) : Option R :=
let l61 : (List (Nat → Int)) := x.1.2.2.1
let i62 : Int := x.1.2.2.2.1
let i63 : Int := x.1.2.2.2.2.1
let a64 : (Nat → Int) := x.1.2.2.2.2.2.1
let i65 : Int := x.1.2.2.2.2.2.2.1
let a66 : (Nat → Int) := x.2.1
let a67 : (Nat → Int) := x.2.2.1
bif (decide (i65 < 128)) then (
bif decide (0 ≤ i65) then (
bif decide (i65 < (128 : Int)) then (
let i68 : Int := (a64 ((Int.toNat i65)))
bif decide (0 ≤ i65) then (
bif decide (i65 < (128 : Int)) then (
let i69 : Int := (a67 ((Int.toNat i65)))
let i70 : Int := xorA .u64 i69 i68
bif decide (0 ≤ i65) then (
bif decide (i65 < (128 : Int)) then (
let a71 : (Nat → Int) := (upd a67 ((Int.toNat i65)) i70)
let i72 : Int := addA .i64 i65 1
rec (((), (), l61, i62, i63, a64, i72, ()), (a66, a71, ()))) else none) else none) else none) else none) else none) else none) else (
κ0 (((), (), l61, i62, i63, ()), (a66, a67, ())))
def C_94_3 {R : Type} (m_94_6 : ((Unit × Unit × (List (Nat → Int)) × Int × Int × (Nat → Int) × Int × Unit) × ((Nat → Int) × (Nat → Int) × Unit)) → (((Unit × Unit × (List (Nat → Int)) × Int × Int × Unit) × ((Nat → Int) × (Nat → Int) × Unit)) → Option R) → Option R) (m_94_3 : ((Unit × Unit × (List (Nat → Int)) × Int × Int × Unit) × ((Nat → Int) × (Nat → Int) × Unit)) → (((Unit × Unit × Unit) × ((Nat → Int) × (Nat → Int) × Unit)) → Option R) → Option R) (rec : ((Unit × Unit × (List (Nat → Int)) × Int × Int × Unit) × ((Nat → Int) × (Nat → Int) × Unit)) → Option R) (x : ((Unit × Unit × (List (Nat → Int)) × Int × Int × Unit) × ((Nat → Int) × (Nat → Int) × Unit))) (κ0 : ((Unit × Unit × Unit) × ((Nat → Int) × (Nat → Int) × Unit)) → Option R) : Option R :=
let l55 : (List (Nat → Int)) := x.1.2.2.1
let i56 : Int := x.1.2.2.2.1
let i57 : Int := x.1.2.2.2.2.1
let a58 : (Nat → Int) := x.2.1
let a59 : (Nat → Int) := x.2.2.1
bif (decide (i57 < i56)) then (
bif decide (0 ≤ i57) then (
bif decide (i57 < ((List.length l55) : Int)) then (
let p60 : (Nat → Int) := (List.getD l55 ((Int.toNat i57)) (Sch.zero (.arr 128 (.int .u64))))
m_94_6 (((), (), l55, i56, i57, p60, 0, ()), (a58, a59, ())) (fun y73 =>
let l74 : (List (Nat → Int)) := y73.1.2.2.1
let i75 : Int := y73.1.2.2.2.1
let i76 : Int := y73.1.2.2.2.2.1
let a77 : (Nat → Int) := y73.2.1
let a78 : (Nat → Int) := y73.2.2.1
let i79 : Int := addA .i64 i76 1
rec (((), (), l74, i75, i79, ()), (a77, a78, ())))) else none) else none) else (
κ0 (((), (), ()), (a58, a59, ())))
def EG_94 {R : Type} : Env R := Env.base QQ LN
def LG_94 {R : Type} (m_94_6 : ((Unit × Unit × (List (Nat → Int)) × Int × Int × (Nat → Int) × Int × Unit) × ((Nat → Int) × (Nat → Int) × Unit)) → (((Unit × Unit × (List (Nat → Int)) × Int × Int × Unit) × ((Nat → Int) × (Nat → Int) × Unit)) → Option R) → Option R) (m_94_3 : ((Unit × Unit × (List (Nat → Int)) × Int × Int × Unit) × ((Nat → Int) × (Nat → Int) × Unit)) → (((Unit × Unit × Unit) × ((Nat → Int) × (Nat → Int) × Unit)) → Option R) → Option R) : Loops R := ((Loops.none).add 6 (loopBy 0 lv_94_6 pt_94_6 (fun x k => m_94_6 x (fun y => k (.exit 2) (px_94_6_0.inst y))))).add 3 (loopBy 0 lv_94_3 pt_94_3 (fun x k => m_94_3 x (fun y => k (.exit 0) (px_94_3_0.inst y))))
def E_94 {R : Type} (N : Nat) : Env R := EG_94
theorem eok_94 {R : Type} (N : Nat) : EK Try.prog (E_94 (R := R) N) := ek_base _ _
def L_94 {R : Type} (N : Nat) : Loops R := LG_94 (l_94_6 N N) (l_94_3 N N)
theorem gstep_94_6 {R : Type} (m_94_6 : ((Unit × Unit × (List (Nat → Int)) × Int × Int × (Nat → Int) × Int × Unit) × ((Nat → Int) × (Nat → Int) × Unit)) → (((Unit × Unit × (List (Nat → Int)) × Int × Int × Unit) × ((Nat → Int) × (Nat → Int) × Unit)) → Option R) → Option R) (m_94_3 : ((Unit × Unit × (List (Nat → Int)) × Int × Int × Unit) × ((Nat → Int) × (Nat → Int) × Unit)) → (((Unit × Unit × Unit) × ((Nat → Int) × (Nat → Int) × Unit)) → Option R) → Option R) (n : Nat) (x : pt_94_6.den) (k : Exit → St → Option R) : iter 0 lv_94_6 lo_94_6 (aexec TT (EG_94) (drawOk TT QQ) (LG_94 m_94_6 m_94_3) (loopAt 6 (bodyOf Try.f94))) (n + 1) (pt_94_6.inst x) k = C_94_6 m_94_6 m_94_3 (fun y => iter 0 lv_94_6 lo_94_6 (aexec TT (EG_94) (drawOk TT QQ) (LG_94 m_94_6 m_94_3) (loopAt 6 (bodyOf Try.f94))) n (pt_94_6.inst y) k) x (fun y => k (.exit 2) (px_94_6_0.inst y)) := by kernel_rfl
theorem step_94_6 {R : Type} (N n : Nat) (x : pt_94_6.den) (k : Exit → St → Option R) : iter 0 lv_94_6 lo_94_6 (aexec TT (E_94 (R := R) N) (drawOk TT QQ) (L_94 N) (loopAt 6 (bodyOf Try.f94))) (n + 1) (pt_94_6.inst x) k = B_94_6 N (fun y => iter 0 lv_94_6 lo_94_6 (aexec TT (E_94 (R := R) N) (drawOk TT QQ) (L_94 N) (loopAt 6 (bodyOf Try.f94))) n (pt_94_6.inst y) k) x (fun y => k (.exit 2) (px_94_6_0.inst y)) := (gstep_94_6 (l_94_6 N N) (l_94_3 N N) n x k).trans (by kernel_rfl)
theorem eq_94_6 {R : Type} (N : Nat) : ∀ (n : Nat) (x : pt_94_6.den) (k : Exit → St → Option R), iter 0 lv_94_6 lo_94_6 (aexec TT (E_94 (R := R) N) (drawOk TT QQ) (L_94 N) (loopAt 6 (bodyOf Try.f94))) n (pt_94_6.inst x) k = l_94_6 N n x (fun y => k (.exit 2) (px_94_6_0.inst y)) :=
  iter_eq (K := Exit → St → Option R) (ks := fun k => k) (l := fun n (x : pt_94_6.den) k => l_94_6 N n x (fun y => k (.exit 2) (px_94_6_0.inst y))) (B := fun (rec : pt_94_6.den → Option R) (x : pt_94_6.den) k => B_94_6 N rec x (fun y => k (.exit 2) (px_94_6_0.inst y))) (fun _ _ => rfl) (fun _ _ _ => rfl) (fun n x k => step_94_6 N n x k)
theorem rounds_94_6 {R : Type} (N : Nat) : Rounds 0 TT (E_94 (R := R) N) (drawOk TT QQ) (L_94 N) 6 (loopAt 6 (bodyOf Try.f94)) :=
  rounds_of (p := pt_94_6) (l := fun (x : pt_94_6.den) k => l_94_6 N N x (fun y => k (.exit 2) (px_94_6_0.inst y))) (fun s k => rfl) (fun x k => eq_94_6 N N x k)
theorem gstep_94_3 {R : Type} (m_94_6 : ((Unit × Unit × (List (Nat → Int)) × Int × Int × (Nat → Int) × Int × Unit) × ((Nat → Int) × (Nat → Int) × Unit)) → (((Unit × Unit × (List (Nat → Int)) × Int × Int × Unit) × ((Nat → Int) × (Nat → Int) × Unit)) → Option R) → Option R) (m_94_3 : ((Unit × Unit × (List (Nat → Int)) × Int × Int × Unit) × ((Nat → Int) × (Nat → Int) × Unit)) → (((Unit × Unit × Unit) × ((Nat → Int) × (Nat → Int) × Unit)) → Option R) → Option R) (n : Nat) (x : pt_94_3.den) (k : Exit → St → Option R) : iter 0 lv_94_3 lo_94_3 (aexec TT (EG_94) (drawOk TT QQ) (LG_94 m_94_6 m_94_3) (loopAt 3 (bodyOf Try.f94))) (n + 1) (pt_94_3.inst x) k = C_94_3 m_94_6 m_94_3 (fun y => iter 0 lv_94_3 lo_94_3 (aexec TT (EG_94) (drawOk TT QQ) (LG_94 m_94_6 m_94_3) (loopAt 3 (bodyOf Try.f94))) n (pt_94_3.inst y) k) x (fun y => k (.exit 0) (px_94_3_0.inst y)) := by kernel_rfl
theorem step_94_3 {R : Type} (N n : Nat) (x : pt_94_3.den) (k : Exit → St → Option R) : iter 0 lv_94_3 lo_94_3 (aexec TT (E_94 (R := R) N) (drawOk TT QQ) (L_94 N) (loopAt 3 (bodyOf Try.f94))) (n + 1) (pt_94_3.inst x) k = B_94_3 N (fun y => iter 0 lv_94_3 lo_94_3 (aexec TT (E_94 (R := R) N) (drawOk TT QQ) (L_94 N) (loopAt 3 (bodyOf Try.f94))) n (pt_94_3.inst y) k) x (fun y => k (.exit 0) (px_94_3_0.inst y)) := (gstep_94_3 (l_94_6 N N) (l_94_3 N N) n x k).trans (by kernel_rfl)
theorem eq_94_3 {R : Type} (N : Nat) : ∀ (n : Nat) (x : pt_94_3.den) (k : Exit → St → Option R), iter 0 lv_94_3 lo_94_3 (aexec TT (E_94 (R := R) N) (drawOk TT QQ) (L_94 N) (loopAt 3 (bodyOf Try.f94))) n (pt_94_3.inst x) k = l_94_3 N n x (fun y => k (.exit 0) (px_94_3_0.inst y)) :=
  iter_eq (K := Exit → St → Option R) (ks := fun k => k) (l := fun n (x : pt_94_3.den) k => l_94_3 N n x (fun y => k (.exit 0) (px_94_3_0.inst y))) (B := fun (rec : pt_94_3.den → Option R) (x : pt_94_3.den) k => B_94_3 N rec x (fun y => k (.exit 0) (px_94_3_0.inst y))) (fun _ _ => rfl) (fun _ _ _ => rfl) (fun n x k => step_94_3 N n x k)
theorem rounds_94_3 {R : Type} (N : Nat) : Rounds 0 TT (E_94 (R := R) N) (drawOk TT QQ) (L_94 N) 3 (loopAt 3 (bodyOf Try.f94)) :=
  rounds_of (p := pt_94_3) (l := fun (x : pt_94_3.den) k => l_94_3 N N x (fun y => k (.exit 0) (px_94_3_0.inst y))) (fun s k => rfl) (fun x k => eq_94_3 N N x k)
theorem loops_94 : loopsIn (bodyOf Try.f94) = [(3, loopAt 3 (bodyOf Try.f94)), (6, loopAt 6 (bodyOf Try.f94))] := by kernel_rfl
theorem lok_94 {R : Type} (N : Nat) : LOK 0 TT (E_94 (R := R) N) (drawOk TT QQ) (L_94 N) (bodyOf Try.f94) := loops_all loops_94 (by
  simp only [List.forall_mem_cons, List.not_mem_nil, false_implies, implies_true, and_true]
  exact ⟨rounds_94_3 N, rounds_94_6 N⟩)
theorem grun_94 {R : Type} (m_94_6 : ((Unit × Unit × (List (Nat → Int)) × Int × Int × (Nat → Int) × Int × Unit) × ((Nat → Int) × (Nat → Int) × Unit)) → (((Unit × Unit × (List (Nat → Int)) × Int × Int × Unit) × ((Nat → Int) × (Nat → Int) × Unit)) → Option R) → Option R) (m_94_3 : ((Unit × Unit × (List (Nat → Int)) × Int × Int × Unit) × ((Nat → Int) × (Nat → Int) × Unit)) → (((Unit × Unit × Unit) × ((Nat → Int) × (Nat → Int) × Unit)) → Option R) → Option R) (x : aden ap_94 × hden hp_94) (k : KF R) : fnrun TT (EG_94) (drawOk TT QQ) (LG_94 m_94_6 m_94_3) true Try.f94 (instA ap_94 x.1) (instH hp_94 x.2) k = Q_94 m_94_6 m_94_3 x (fun y => k (Pat.inst (.vec (.int .u64) 128) y) (instH hp_94 x.2)) := by kernel_rfl
theorem run_94 {R : Type} (N : Nat) (x : aden ap_94 × hden hp_94) (k : KF R) : fnrun TT (E_94 (R := R) N) (drawOk TT QQ) (L_94 N) true Try.f94 (instA ap_94 x.1) (instH hp_94 x.2) k = p_94 N x (fun y => k (Pat.inst (.vec (.int .u64) 128) y) (instH hp_94 x.2)) := (grun_94 (l_94_6 N N) (l_94_3 N N) x k).trans (by kernel_rfl)
theorem good_94 {R : Type} (N : Nat) : GD (X := R) Try.prog QQ 94 ap_94 hp_94 (fun (x : aden ap_94 × hden hp_94) k => p_94 N x (fun y => k (Pat.inst (.vec (.int .u64) 128) y) (instH hp_94 x.2))) :=
  gd_quiet (E := E_94 N) (p := fun (x : aden ap_94 × hden hp_94) κ => p_94 N x (fun y => κ (Pat.inst (.vec (.int .u64) 128) y))) mixed tyok (eok_94 N) Try.func94 (by kernel_rfl) (by kernel_rfl) (lok_94 N) (fun x k => run_94 N x k)

def lv_95_3 : Live := [(0, none), (1, none), (4, none), (5, none), (7, none)]
def pt_95_3 : SPat := ⟨[(0, .int .i64), (1, .bool), (4, .ptr 0 []), (5, .ptr 1 []), (7, .int .i64)], [some (.vec (.int .i64) 16, 153), some (.vec (.int .i64) 16, 153)]⟩
def px_95_3_0 : SPat := ⟨[(4, .ptr 0 []), (5, .ptr 1 [])], [some (.vec (.int .i64) 16, 153), some (.vec (.int .i64) 16, 153)]⟩
def lo_95_3 : Exit → Live
  | .exit 0 => [(4, none), (5, none)]
  | _ => []
def B_95_3 {R : Type} (N : Nat) (rec : ((Int × Bool × Unit × Unit × Int × Unit) × ((Nat → Int) × (Nat → Int) × Unit)) → Option R) (x : ((Int × Bool × Unit × Unit × Int × Unit) × ((Nat → Int) × (Nat → Int) × Unit))) (κ0 : ((Unit × Unit × Unit) × ((Nat → Int) × (Nat → Int) × Unit)) → Option R) : Option R :=
let i103 : Int := x.1.1
let b104 : Bool := x.1.2.1
let i105 : Int := x.1.2.2.2.2.1
let a106 : (Nat → Int) := x.2.1
let a107 : (Nat → Int) := x.2.2.1
bif (decide (i105 < 16)) then (
bif b104 then (
let i108 : Int := mulA .i64 2 i103
let i109 : Int := remA .i64 i105 2
let i110 : Int := addA .i64 i108 i109
let i111 : Int := quoA .i64 i105 2
let i112 : Int := mulA .i64 16 i111
let i113 : Int := addA .i64 i110 i112
bif decide (0 ≤ i105) then (
bif decide (i105 < (16 : Int)) then (
let a114 : (Nat → Int) := (upd a107 ((Int.toNat i105)) i113)
let i115 : Int := addA .i64 i105 1
rec ((i103, b104, (), (), i115, ()), (a106, a114, ()))) else none) else none) else (
let i116 : Int := mulA .i64 16 i103
let i117 : Int := addA .i64 i116 i105
bif decide (0 ≤ i105) then (
bif decide (i105 < (16 : Int)) then (
let a118 : (Nat → Int) := (upd a107 ((Int.toNat i105)) i117)
let i119 : Int := addA .i64 i105 1
rec ((i103, b104, (), (), i119, ()), (a106, a118, ()))) else none) else none)) else (
κ0 (((), (), ()), (a106, a107, ())))
def l_95_3 {R : Type} (N : Nat) : Nat → ((Int × Bool × Unit × Unit × Int × Unit) × ((Nat → Int) × (Nat → Int) × Unit)) → (((Unit × Unit × Unit) × ((Nat → Int) × (Nat → Int) × Unit)) → Option R) → Option R
  | 0, _, _ => none
  | n + 1, x, κ0 => B_95_3 N (fun y => l_95_3 N n y κ0) x κ0
def ap_95 : List Pat := [.int .i64, .bool]
def hp_95 : List (Option (Pat × Nat)) := []
def p_95 {R : Type} (N : Nat) (x : (Int × Bool × Unit) × (Unit)) (κ0 : (Nat → Int) → Option R) : Option R :=
let i101 : Int := x.1.1
let b102 : Bool := x.1.2.1
l_95_3 N N ((i101, b102, (), (), 0, ()), ((Sch.zero (.arr 16 (.int .i64))), (Sch.zero (.arr 16 (.int .i64))), ())) (fun y120 =>
let a121 : (Nat → Int) := y120.2.1
let a122 : (Nat → Int) := y120.2.2.1
κ0 a122)

def Q_95 {R : Type} (m_95_3 : ((Int × Bool × Unit × Unit × Int × Unit) × ((Nat → Int) × (Nat → Int) × Unit)) → (((Unit × Unit × Unit) × ((Nat → Int) × (Nat → Int) × Unit)) → Option R) → Option R) (x : (Int × Bool × Unit) × (Unit)) (κ0 : (Nat → Int) → Option R) : Option R :=
let i101 : Int := x.1.1
let b102 : Bool := x.1.2.1
m_95_3 ((i101, b102, (), (), 0, ()), ((Sch.zero (.arr 16 (.int .i64))), (Sch.zero (.arr 16 (.int .i64))), ())) (fun y120 =>
let a121 : (Nat → Int) := y120.2.1
let a122 : (Nat → Int) := y120.2.2.1
κ0 a122)
def C_95_3 {R : Type} (m_95_3 : ((Int × Bool × Unit × Unit × Int × Unit) × ((Nat → Int) × (Nat → Int) × Unit)) → (((Unit × Unit × Unit) × ((Nat → Int) × (Nat → Int) × Unit)) → Option R) → Option R) (rec : ((Int × Bool × Unit × Unit × Int × Unit) × ((Nat → Int) × (Nat → Int) × Unit)) → Option R) (x : ((Int × Bool × Unit × Unit × Int × Unit) × ((Nat → Int) × (Nat → Int) × Unit))) (κ0 : ((Unit × Unit × Unit) × ((Nat → Int) × (Nat → Int) × Unit)) → Option R) : Option R :=
let i103 : Int := x.1.1
let b104 : Bool := x.1.2.1
let i105 : Int := x.1.2.2.2.2.1
let a106 : (Nat → Int) := x.2.1
let a107 : (Nat → Int) := x.2.2.1
bif (decide (i105 < 16)) then (
bif b104 then (
let i108 : Int := mulA .i64 2 i103
let i109 : Int := remA .i64 i105 2
let i110 : Int := addA .i64 i108 i109
let i111 : Int := quoA .i64 i105 2
let i112 : Int := mulA .i64 16 i111
let i113 : Int := addA .i64 i110 i112
bif decide (0 ≤ i105) then (
bif decide (i105 < (16 : Int)) then (
let a114 : (Nat → Int) := (upd a107 ((Int.toNat i105)) i113)
let i115 : Int := addA .i64 i105 1
rec ((i103, b104, (), (), i115, ()), (a106, a114, ()))) else none) else none) else (
let i116 : Int := mulA .i64 16 i103
let i117 : Int := addA .i64 i116 i105
bif decide (0 ≤ i105) then (
bif decide (i105 < (16 : Int)) then (
let a118 : (Nat → Int) := (upd a107 ((Int.toNat i105)) i117)
let i119 : Int := addA .i64 i105 1
rec ((i103, b104, (), (), i119, ()), (a106, a118, ()))) else none) else none)) else (
κ0 (((), (), ()), (a106, a107, ())))
def EG_95 {R : Type} : Env R := Env.base QQ LN
def LG_95 {R : Type} (m_95_3 : ((Int × Bool × Unit × Unit × Int × Unit) × ((Nat → Int) × (Nat → Int) × Unit)) → (((Unit × Unit × Unit) × ((Nat → Int) × (Nat → Int) × Unit)) → Option R) → Option R) : Loops R := (Loops.none).add 3 (loopBy 0 lv_95_3 pt_95_3 (fun x k => m_95_3 x (fun y => k (.exit 0) (px_95_3_0.inst y))))
def E_95 {R : Type} (N : Nat) : Env R := EG_95
theorem eok_95 {R : Type} (N : Nat) : EK Try.prog (E_95 (R := R) N) := ek_base _ _
def L_95 {R : Type} (N : Nat) : Loops R := LG_95 (l_95_3 N N)
theorem gstep_95_3 {R : Type} (m_95_3 : ((Int × Bool × Unit × Unit × Int × Unit) × ((Nat → Int) × (Nat → Int) × Unit)) → (((Unit × Unit × Unit) × ((Nat → Int) × (Nat → Int) × Unit)) → Option R) → Option R) (n : Nat) (x : pt_95_3.den) (k : Exit → St → Option R) : iter 0 lv_95_3 lo_95_3 (aexec TT (EG_95) (drawOk TT QQ) (LG_95 m_95_3) (loopAt 3 (bodyOf Try.f95))) (n + 1) (pt_95_3.inst x) k = C_95_3 m_95_3 (fun y => iter 0 lv_95_3 lo_95_3 (aexec TT (EG_95) (drawOk TT QQ) (LG_95 m_95_3) (loopAt 3 (bodyOf Try.f95))) n (pt_95_3.inst y) k) x (fun y => k (.exit 0) (px_95_3_0.inst y)) := by kernel_rfl
theorem step_95_3 {R : Type} (N n : Nat) (x : pt_95_3.den) (k : Exit → St → Option R) : iter 0 lv_95_3 lo_95_3 (aexec TT (E_95 (R := R) N) (drawOk TT QQ) (L_95 N) (loopAt 3 (bodyOf Try.f95))) (n + 1) (pt_95_3.inst x) k = B_95_3 N (fun y => iter 0 lv_95_3 lo_95_3 (aexec TT (E_95 (R := R) N) (drawOk TT QQ) (L_95 N) (loopAt 3 (bodyOf Try.f95))) n (pt_95_3.inst y) k) x (fun y => k (.exit 0) (px_95_3_0.inst y)) := (gstep_95_3 (l_95_3 N N) n x k).trans (by kernel_rfl)
theorem eq_95_3 {R : Type} (N : Nat) : ∀ (n : Nat) (x : pt_95_3.den) (k : Exit → St → Option R), iter 0 lv_95_3 lo_95_3 (aexec TT (E_95 (R := R) N) (drawOk TT QQ) (L_95 N) (loopAt 3 (bodyOf Try.f95))) n (pt_95_3.inst x) k = l_95_3 N n x (fun y => k (.exit 0) (px_95_3_0.inst y)) :=
  iter_eq (K := Exit → St → Option R) (ks := fun k => k) (l := fun n (x : pt_95_3.den) k => l_95_3 N n x (fun y => k (.exit 0) (px_95_3_0.inst y))) (B := fun (rec : pt_95_3.den → Option R) (x : pt_95_3.den) k => B_95_3 N rec x (fun y => k (.exit 0) (px_95_3_0.inst y))) (fun _ _ => rfl) (fun _ _ _ => rfl) (fun n x k => step_95_3 N n x k)
theorem rounds_95_3 {R : Type} (N : Nat) : Rounds 0 TT (E_95 (R := R) N) (drawOk TT QQ) (L_95 N) 3 (loopAt 3 (bodyOf Try.f95)) :=
  rounds_of (p := pt_95_3) (l := fun (x : pt_95_3.den) k => l_95_3 N N x (fun y => k (.exit 0) (px_95_3_0.inst y))) (fun s k => rfl) (fun x k => eq_95_3 N N x k)
theorem loops_95 : loopsIn (bodyOf Try.f95) = [(3, loopAt 3 (bodyOf Try.f95))] := by kernel_rfl
theorem lok_95 {R : Type} (N : Nat) : LOK 0 TT (E_95 (R := R) N) (drawOk TT QQ) (L_95 N) (bodyOf Try.f95) := loops_all loops_95 (by
  simp only [List.forall_mem_cons, List.not_mem_nil, false_implies, implies_true, and_true]
  exact rounds_95_3 N)
theorem grun_95 {R : Type} (m_95_3 : ((Int × Bool × Unit × Unit × Int × Unit) × ((Nat → Int) × (Nat → Int) × Unit)) → (((Unit × Unit × Unit) × ((Nat → Int) × (Nat → Int) × Unit)) → Option R) → Option R) (x : aden ap_95 × hden hp_95) (k : KF R) : fnrun TT (EG_95) (drawOk TT QQ) (LG_95 m_95_3) true Try.f95 (instA ap_95 x.1) (instH hp_95 x.2) k = Q_95 m_95_3 x (fun y => k (Pat.inst (.vec (.int .i64) 16) y) (instH hp_95 x.2)) := by kernel_rfl
theorem run_95 {R : Type} (N : Nat) (x : aden ap_95 × hden hp_95) (k : KF R) : fnrun TT (E_95 (R := R) N) (drawOk TT QQ) (L_95 N) true Try.f95 (instA ap_95 x.1) (instH hp_95 x.2) k = p_95 N x (fun y => k (Pat.inst (.vec (.int .i64) 16) y) (instH hp_95 x.2)) := (grun_95 (l_95_3 N N) x k).trans (by kernel_rfl)
theorem good_95 {R : Type} (N : Nat) : GD (X := R) Try.prog QQ 95 ap_95 hp_95 (fun (x : aden ap_95 × hden hp_95) k => p_95 N x (fun y => k (Pat.inst (.vec (.int .i64) 16) y) (instH hp_95 x.2))) :=
  gd_quiet (E := E_95 N) (p := fun (x : aden ap_95 × hden hp_95) κ => p_95 N x (fun y => κ (Pat.inst (.vec (.int .i64) 16) y))) mixed tyok (eok_95 N) Try.func95 (by kernel_rfl) (by kernel_rfl) (lok_95 N) (fun x k => run_95 N x k)

def ap_93 : List Pat := []
def hp_93 : List (Option (Pat × Nat)) := []
def p_93 {R : Type} (N : Nat) (x : (Unit) × (Unit)) (κ0 : (Nat → (Nat → Int)) → Option R) : Option R :=
let a151 : (Nat → Int) := (upd ((upd ((upd ((upd ((Sch.zero (.arr 4 (.int .i64)))) 0 0)) 1 4)) 2 8)) 3 12)
let a152 : (Nat → Int) := (upd ((upd ((upd ((upd ((Sch.zero (.arr 4 (.int .i64)))) 0 1)) 1 5)) 2 9)) 3 13)
let a153 : (Nat → Int) := (upd ((upd ((upd ((upd ((Sch.zero (.arr 4 (.int .i64)))) 0 2)) 1 6)) 2 10)) 3 14)
let a154 : (Nat → Int) := (upd ((upd ((upd ((upd ((Sch.zero (.arr 4 (.int .i64)))) 0 3)) 1 7)) 2 11)) 3 15)
let a155 : (Nat → Int) := (upd ((upd ((upd ((upd ((Sch.zero (.arr 4 (.int .i64)))) 0 0)) 1 5)) 2 10)) 3 15)
let a156 : (Nat → Int) := (upd ((upd ((upd ((upd ((Sch.zero (.arr 4 (.int .i64)))) 0 1)) 1 6)) 2 11)) 3 12)
let a157 : (Nat → Int) := (upd ((upd ((upd ((upd ((Sch.zero (.arr 4 (.int .i64)))) 0 2)) 1 7)) 2 8)) 3 13)
let a158 : (Nat → Int) := (upd ((upd ((upd ((upd ((Sch.zero (.arr 4 (.int .i64)))) 0 3)) 1 4)) 2 9)) 3 14)
let a159 : (Nat → (Nat → Int)) := (upd ((upd ((upd ((upd ((upd ((upd ((upd ((upd ((Sch.zero (.arr 8 (.arr 4 (.int .i64))))) 0 a151)) 1 a152)) 2 a153)) 3 a154)) 4 a155)) 5 a156)) 6 a157)) 7 a158)
κ0 a159

def Q_93 {R : Type} (x : (Unit) × (Unit)) (κ0 : (Nat → (Nat → Int)) → Option R) : Option R :=
let a151 : (Nat → Int) := (upd ((upd ((upd ((upd ((Sch.zero (.arr 4 (.int .i64)))) 0 0)) 1 4)) 2 8)) 3 12)
let a152 : (Nat → Int) := (upd ((upd ((upd ((upd ((Sch.zero (.arr 4 (.int .i64)))) 0 1)) 1 5)) 2 9)) 3 13)
let a153 : (Nat → Int) := (upd ((upd ((upd ((upd ((Sch.zero (.arr 4 (.int .i64)))) 0 2)) 1 6)) 2 10)) 3 14)
let a154 : (Nat → Int) := (upd ((upd ((upd ((upd ((Sch.zero (.arr 4 (.int .i64)))) 0 3)) 1 7)) 2 11)) 3 15)
let a155 : (Nat → Int) := (upd ((upd ((upd ((upd ((Sch.zero (.arr 4 (.int .i64)))) 0 0)) 1 5)) 2 10)) 3 15)
let a156 : (Nat → Int) := (upd ((upd ((upd ((upd ((Sch.zero (.arr 4 (.int .i64)))) 0 1)) 1 6)) 2 11)) 3 12)
let a157 : (Nat → Int) := (upd ((upd ((upd ((upd ((Sch.zero (.arr 4 (.int .i64)))) 0 2)) 1 7)) 2 8)) 3 13)
let a158 : (Nat → Int) := (upd ((upd ((upd ((upd ((Sch.zero (.arr 4 (.int .i64)))) 0 3)) 1 4)) 2 9)) 3 14)
let a159 : (Nat → (Nat → Int)) := (upd ((upd ((upd ((upd ((upd ((upd ((upd ((upd ((Sch.zero (.arr 8 (.arr 4 (.int .i64))))) 0 a151)) 1 a152)) 2 a153)) 3 a154)) 4 a155)) 5 a156)) 6 a157)) 7 a158)
κ0 a159
def EG_93 {R : Type} : Env R := Env.base QQ LN
def LG_93 {R : Type} : Loops R := Loops.none
def E_93 {R : Type} (N : Nat) : Env R := EG_93
theorem eok_93 {R : Type} (N : Nat) : EK Try.prog (E_93 (R := R) N) := ek_base _ _
def L_93 {R : Type} (N : Nat) : Loops R := LG_93
theorem lok_93 {R : Type} (N : Nat) : LOK 0 TT (E_93 (R := R) N) (drawOk TT QQ) (L_93 N) (bodyOf Try.f93) := loops_nil (by kernel_rfl)
theorem grun_93 {R : Type} (x : aden ap_93 × hden hp_93) (k : KF R) : fnrun TT (EG_93) (drawOk TT QQ) (LG_93) true Try.f93 (instA ap_93 x.1) (instH hp_93 x.2) k = Q_93 x (fun y => k (Pat.inst (.vec (.arr 4 (.int .i64)) 8) y) (instH hp_93 x.2)) := by kernel_rfl
theorem run_93 {R : Type} (N : Nat) (x : aden ap_93 × hden hp_93) (k : KF R) : fnrun TT (E_93 (R := R) N) (drawOk TT QQ) (L_93 N) true Try.f93 (instA ap_93 x.1) (instH hp_93 x.2) k = p_93 N x (fun y => k (Pat.inst (.vec (.arr 4 (.int .i64)) 8) y) (instH hp_93 x.2)) := (grun_93 x k).trans (by kernel_rfl)
theorem good_93 {R : Type} (N : Nat) : GD (X := R) Try.prog QQ 93 ap_93 hp_93 (fun (x : aden ap_93 × hden hp_93) k => p_93 N x (fun y => k (Pat.inst (.vec (.arr 4 (.int .i64)) 8) y) (instH hp_93 x.2))) :=
  gd_quiet (E := E_93 N) (p := fun (x : aden ap_93 × hden hp_93) κ => p_93 N x (fun y => κ (Pat.inst (.vec (.arr 4 (.int .i64)) 8) y))) mixed tyok (eok_93 N) Try.func93 (by kernel_rfl) (by kernel_rfl) (lok_93 N) (fun x k => run_93 N x k)

def lv_40_2 : Live := [(1, none), (2, none), (9, none), (10, none)]
def pt_40_2 : SPat := ⟨[(1, .ptr 0 []), (2, .ptr 1 []), (9, .vec (.arr 4 (.int .i64)) 8), (10, .int .i64)], [some (.vec (.int .u64) 16, 62), some (.vec (.int .u64) 16, 62)]⟩
def px_40_2_0 : SPat := ⟨[(1, .ptr 0 []), (2, .ptr 1 [])], [some (.vec (.int .u64) 16, 62), some (.vec (.int .u64) 16, 62)]⟩
def lo_40_2 : Exit → Live
  | .exit 0 => [(1, none), (2, none)]
  | _ => []
def B_40_2 {R : Type} (N : Nat) (rec : ((Unit × Unit × (Nat → (Nat → Int)) × Int × Unit) × ((Nat → Int) × (Nat → Int) × Unit)) → Option R) (x : ((Unit × Unit × (Nat → (Nat → Int)) × Int × Unit) × ((Nat → Int) × (Nat → Int) × Unit))) (κ0 : ((Unit × Unit × Unit) × ((Nat → Int) × (Nat → Int) × Unit)) → Option R) : Option R :=
let a162 : (Nat → (Nat → Int)) := x.1.2.2.1
let i163 : Int := x.1.2.2.2.1
let a164 : (Nat → Int) := x.2.1
let a165 : (Nat → Int) := x.2.2.1
bif (decide (i163 < 8)) then (
bif decide (0 ≤ i163) then (
bif decide (i163 < (8 : Int)) then (
let a166 : (Nat → Int) := (a162 ((Int.toNat i163)))
let i167 : Int := (a166 0)
let i168 : Int := (a166 1)
let i169 : Int := (a166 2)
let i170 : Int := (a166 3)
bif decide (0 ≤ i167) then (
bif decide (i167 < (16 : Int)) then (
let i171 : Int := (a164 ((Int.toNat i167)))
bif decide (0 ≤ i168) then (
bif decide (i168 < (16 : Int)) then (
let i172 : Int := (a164 ((Int.toNat i168)))
bif decide (0 ≤ i169) then (
bif decide (i169 < (16 : Int)) then (
let i173 : Int := (a164 ((Int.toNat i169)))
bif decide (0 ≤ i170) then (
bif decide (i170 < (16 : Int)) then (
let i174 : Int := (a164 ((Int.toNat i170)))
p_38 N ((i171, i172, i173, i174, ()), ()) (fun y175 =>
let i176 : Int := y175.1
let i177 : Int := y175.2.1
let i178 : Int := y175.2.2.1
let i179 : Int := y175.2.2.2.1
bif decide (0 ≤ i167) then (
bif decide (i167 < (16 : Int)) then (
let a180 : (Nat → Int) := (upd a164 ((Int.toNat i167)) i176)
bif decide (0 ≤ i168) then (
bif decide (i168 < (16 : Int)) then (
let a181 : (Nat → Int) := (upd a180 ((Int.toNat i168)) i177)
bif decide (0 ≤ i169) then (
bif decide (i169 < (16 : Int)) then (
let a182 : (Nat → Int) := (upd a181 ((Int.toNat i169)) i178)
bif decide (0 ≤ i170) then (
bif decide (i170 < (16 : Int)) then (
let a183 : (Nat → Int) := (upd a182 ((Int.toNat i170)) i179)
let i184 : Int := addA .i64 i163 1
rec (((), (), a162, i184, ()), (a183, a165, ()))) else none) else none) else none) else none) else none) else none) else none) else none)) else none) else none) else none) else none) else none) else none) else none) else none) else none) else none) else (
κ0 (((), (), ()), (a164, a165, ())))
def l_40_2 {R : Type} (N : Nat) : Nat → ((Unit × Unit × (Nat → (Nat → Int)) × Int × Unit) × ((Nat → Int) × (Nat → Int) × Unit)) → (((Unit × Unit × Unit) × ((Nat → Int) × (Nat → Int) × Unit)) → Option R) → Option R
  | 0, _, _ => none
  | n + 1, x, κ0 => B_40_2 N (fun y => l_40_2 N n y κ0) x κ0
def ap_40 : List Pat := [.vec (.int .u64) 16]
def hp_40 : List (Option (Pat × Nat)) := []
def p_40 {R : Type} (N : Nat) (x : ((Nat → Int) × Unit) × (Unit)) (κ0 : (Nat → Int) → Option R) : Option R :=
let a150 : (Nat → Int) := x.1.1
p_93 N ((), ()) (fun y160 =>
let a161 : (Nat → (Nat → Int)) := y160
l_40_2 N N (((), (), a161, 0, ()), (a150, (Sch.zero (.arr 16 (.int .u64))), ())) (fun y185 =>
let a186 : (Nat → Int) := y185.2.1
let a187 : (Nat → Int) := y185.2.2.1
κ0 a186))

def Q_40 {R : Type} (q_93 : (Unit) × (Unit) → ((Nat → (Nat → Int)) → Option R) → Option R) (q_38 : (Int × Int × Int × Int × Unit) × (Unit) → ((Int × (Int × (Int × (Int × Unit)))) → Option R) → Option R) (m_40_2 : ((Unit × Unit × (Nat → (Nat → Int)) × Int × Unit) × ((Nat → Int) × (Nat → Int) × Unit)) → (((Unit × Unit × Unit) × ((Nat → Int) × (Nat → Int) × Unit)) → Option R) → Option R) (x : ((Nat → Int) × Unit) × (Unit)) (κ0 : (Nat → Int) → Option R) : Option R :=
let a150 : (Nat → Int) := x.1.1
q_93 ((), ()) (fun y160 =>
let a161 : (Nat → (Nat → Int)) := y160
m_40_2 (((), (), a161, 0, ()), (a150, (Sch.zero (.arr 16 (.int .u64))), ())) (fun y185 =>
let a186 : (Nat → Int) := y185.2.1
let a187 : (Nat → Int) := y185.2.2.1
κ0 a186))
def C_40_2 {R : Type} (q_93 : (Unit) × (Unit) → ((Nat → (Nat → Int)) → Option R) → Option R) (q_38 : (Int × Int × Int × Int × Unit) × (Unit) → ((Int × (Int × (Int × (Int × Unit)))) → Option R) → Option R) (m_40_2 : ((Unit × Unit × (Nat → (Nat → Int)) × Int × Unit) × ((Nat → Int) × (Nat → Int) × Unit)) → (((Unit × Unit × Unit) × ((Nat → Int) × (Nat → Int) × Unit)) → Option R) → Option R) (rec : ((Unit × Unit × (Nat → (Nat → Int)) × Int × Unit) × ((Nat → Int) × (Nat → Int) × Unit)) → Option R) (x : ((Unit × Unit × (Nat → (Nat → Int)) × Int × Unit) × ((Nat → Int) × (Nat → Int) × Unit))) (κ0 : ((Unit × Unit × Unit) × ((Nat → Int) × (Nat → Int) × Unit)) → Option R) : Option R :=
let a162 : (Nat → (Nat → Int)) := x.1.2.2.1
let i163 : Int := x.1.2.2.2.1
let a164 : (Nat → Int) := x.2.1
let a165 : (Nat → Int) := x.2.2.1
bif (decide (i163 < 8)) then (
bif decide (0 ≤ i163) then (
bif decide (i163 < (8 : Int)) then (
let a166 : (Nat → Int) := (a162 ((Int.toNat i163)))
let i167 : Int := (a166 0)
let i168 : Int := (a166 1)
let i169 : Int := (a166 2)
let i170 : Int := (a166 3)
bif decide (0 ≤ i167) then (
bif decide (i167 < (16 : Int)) then (
let i171 : Int := (a164 ((Int.toNat i167)))
bif decide (0 ≤ i168) then (
bif decide (i168 < (16 : Int)) then (
let i172 : Int := (a164 ((Int.toNat i168)))
bif decide (0 ≤ i169) then (
bif decide (i169 < (16 : Int)) then (
let i173 : Int := (a164 ((Int.toNat i169)))
bif decide (0 ≤ i170) then (
bif decide (i170 < (16 : Int)) then (
let i174 : Int := (a164 ((Int.toNat i170)))
q_38 ((i171, i172, i173, i174, ()), ()) (fun y175 =>
let i176 : Int := y175.1
let i177 : Int := y175.2.1
let i178 : Int := y175.2.2.1
let i179 : Int := y175.2.2.2.1
bif decide (0 ≤ i167) then (
bif decide (i167 < (16 : Int)) then (
let a180 : (Nat → Int) := (upd a164 ((Int.toNat i167)) i176)
bif decide (0 ≤ i168) then (
bif decide (i168 < (16 : Int)) then (
let a181 : (Nat → Int) := (upd a180 ((Int.toNat i168)) i177)
bif decide (0 ≤ i169) then (
bif decide (i169 < (16 : Int)) then (
let a182 : (Nat → Int) := (upd a181 ((Int.toNat i169)) i178)
bif decide (0 ≤ i170) then (
bif decide (i170 < (16 : Int)) then (
let a183 : (Nat → Int) := (upd a182 ((Int.toNat i170)) i179)
let i184 : Int := addA .i64 i163 1
rec (((), (), a162, i184, ()), (a183, a165, ()))) else none) else none) else none) else none) else none) else none) else none) else none)) else none) else none) else none) else none) else none) else none) else none) else none) else none) else none) else (
κ0 (((), (), ()), (a164, a165, ())))
def EG_40 {R : Type} (q_93 : (Unit) × (Unit) → ((Nat → (Nat → Int)) → Option R) → Option R) (q_38 : (Int × Int × Int × Int × Unit) × (Unit) → ((Int × (Int × (Int × (Int × Unit)))) → Option R) → Option R) : Env R := ((Env.base QQ LN).add 93 ap_93 hp_93 (fun (x : aden ap_93 × hden hp_93) k => q_93 x (fun y => k (Pat.inst (.vec (.arr 4 (.int .i64)) 8) y) (instH hp_93 x.2)))).add 38 ap_38 hp_38 (fun (x : aden ap_38 × hden hp_38) k => q_38 x (fun y => k (Pat.inst (.tup (.fcons (.int .u64) (.fcons (.int .u64) (.fcons (.int .u64) (.fcons (.int .u64) (.fnil)))))) y) (instH hp_38 x.2)))
def LG_40 {R : Type} (m_40_2 : ((Unit × Unit × (Nat → (Nat → Int)) × Int × Unit) × ((Nat → Int) × (Nat → Int) × Unit)) → (((Unit × Unit × Unit) × ((Nat → Int) × (Nat → Int) × Unit)) → Option R) → Option R) : Loops R := (Loops.none).add 2 (loopBy 0 lv_40_2 pt_40_2 (fun x k => m_40_2 x (fun y => k (.exit 0) (px_40_2_0.inst y))))
def E_40 {R : Type} (N : Nat) : Env R := EG_40 (p_93 N) (p_38 N)
theorem eok_40 {R : Type} (N : Nat) : EK Try.prog (E_40 (R := R) N) := ek_add (ek_add (ek_base _ _) (good_93 N)) (good_38 N)
def L_40 {R : Type} (N : Nat) : Loops R := LG_40 (l_40_2 N N)
theorem gstep_40_2 {R : Type} (q_93 : (Unit) × (Unit) → ((Nat → (Nat → Int)) → Option R) → Option R) (q_38 : (Int × Int × Int × Int × Unit) × (Unit) → ((Int × (Int × (Int × (Int × Unit)))) → Option R) → Option R) (m_40_2 : ((Unit × Unit × (Nat → (Nat → Int)) × Int × Unit) × ((Nat → Int) × (Nat → Int) × Unit)) → (((Unit × Unit × Unit) × ((Nat → Int) × (Nat → Int) × Unit)) → Option R) → Option R) (n : Nat) (x : pt_40_2.den) (k : Exit → St → Option R) : iter 0 lv_40_2 lo_40_2 (aexec TT (EG_40 q_93 q_38) (drawOk TT QQ) (LG_40 m_40_2) (loopAt 2 (bodyOf Try.f40))) (n + 1) (pt_40_2.inst x) k = C_40_2 q_93 q_38 m_40_2 (fun y => iter 0 lv_40_2 lo_40_2 (aexec TT (EG_40 q_93 q_38) (drawOk TT QQ) (LG_40 m_40_2) (loopAt 2 (bodyOf Try.f40))) n (pt_40_2.inst y) k) x (fun y => k (.exit 0) (px_40_2_0.inst y)) := by kernel_rfl
theorem step_40_2 {R : Type} (N n : Nat) (x : pt_40_2.den) (k : Exit → St → Option R) : iter 0 lv_40_2 lo_40_2 (aexec TT (E_40 (R := R) N) (drawOk TT QQ) (L_40 N) (loopAt 2 (bodyOf Try.f40))) (n + 1) (pt_40_2.inst x) k = B_40_2 N (fun y => iter 0 lv_40_2 lo_40_2 (aexec TT (E_40 (R := R) N) (drawOk TT QQ) (L_40 N) (loopAt 2 (bodyOf Try.f40))) n (pt_40_2.inst y) k) x (fun y => k (.exit 0) (px_40_2_0.inst y)) := (gstep_40_2 (p_93 N) (p_38 N) (l_40_2 N N) n x k).trans (by kernel_rfl)
theorem eq_40_2 {R : Type} (N : Nat) : ∀ (n : Nat) (x : pt_40_2.den) (k : Exit → St → Option R), iter 0 lv_40_2 lo_40_2 (aexec TT (E_40 (R := R) N) (drawOk TT QQ) (L_40 N) (loopAt 2 (bodyOf Try.f40))) n (pt_40_2.inst x) k = l_40_2 N n x (fun y => k (.exit 0) (px_40_2_0.inst y)) :=
  iter_eq (K := Exit → St → Option R) (ks := fun k => k) (l := fun n (x : pt_40_2.den) k => l_40_2 N n x (fun y => k (.exit 0) (px_40_2_0.inst y))) (B := fun (rec : pt_40_2.den → Option R) (x : pt_40_2.den) k => B_40_2 N rec x (fun y => k (.exit 0) (px_40_2_0.inst y))) (fun _ _ => rfl) (fun _ _ _ => rfl) (fun n x k => step_40_2 N n x k)
theorem rounds_40_2 {R : Type} (N : Nat) : Rounds 0 TT (E_40 (R := R) N) (drawOk TT QQ) (L_40 N) 2 (loopAt 2 (bodyOf Try.f40)) :=
  rounds_of (p := pt_40_2) (l := fun (x : pt_40_2.den) k => l_40_2 N N x (fun y => k (.exit 0) (px_40_2_0.inst y))) (fun s k => rfl) (fun x k => eq_40_2 N N x k)
theorem loops_40 : loopsIn (bodyOf Try.f40) = [(2, loopAt 2 (bodyOf Try.f40))] := by kernel_rfl
theorem lok_40 {R : Type} (N : Nat) : LOK 0 TT (E_40 (R := R) N) (drawOk TT QQ) (L_40 N) (bodyOf Try.f40) := loops_all loops_40 (by
  simp only [List.forall_mem_cons, List.not_mem_nil, false_implies, implies_true, and_true]
  exact rounds_40_2 N)
theorem grun_40 {R : Type} (q_93 : (Unit) × (Unit) → ((Nat → (Nat → Int)) → Option R) → Option R) (q_38 : (Int × Int × Int × Int × Unit) × (Unit) → ((Int × (Int × (Int × (Int × Unit)))) → Option R) → Option R) (m_40_2 : ((Unit × Unit × (Nat → (Nat → Int)) × Int × Unit) × ((Nat → Int) × (Nat → Int) × Unit)) → (((Unit × Unit × Unit) × ((Nat → Int) × (Nat → Int) × Unit)) → Option R) → Option R) (x : aden ap_40 × hden hp_40) (k : KF R) : fnrun TT (EG_40 q_93 q_38) (drawOk TT QQ) (LG_40 m_40_2) true Try.f40 (instA ap_40 x.1) (instH hp_40 x.2) k = Q_40 q_93 q_38 m_40_2 x (fun y => k (Pat.inst (.vec (.int .u64) 16) y) (instH hp_40 x.2)) := by kernel_rfl
theorem run_40 {R : Type} (N : Nat) (x : aden ap_40 × hden hp_40) (k : KF R) : fnrun TT (E_40 (R := R) N) (drawOk TT QQ) (L_40 N) true Try.f40 (instA ap_40 x.1) (instH hp_40 x.2) k = p_40 N x (fun y => k (Pat.inst (.vec (.int .u64) 16) y) (instH hp_40 x.2)) := (grun_40 (p_93 N) (p_38 N) (l_40_2 N N) x k).trans (by kernel_rfl)
theorem good_40 {R : Type} (N : Nat) : GD (X := R) Try.prog QQ 40 ap_40 hp_40 (fun (x : aden ap_40 × hden hp_40) k => p_40 N x (fun y => k (Pat.inst (.vec (.int .u64) 16) y) (instH hp_40 x.2))) :=
  gd_quiet (E := E_40 N) (p := fun (x : aden ap_40 × hden hp_40) κ => p_40 N x (fun y => κ (Pat.inst (.vec (.int .u64) 16) y))) mixed tyok (eok_40 N) Try.func40 (by kernel_rfl) (by kernel_rfl) (lok_40 N) (fun x k => run_40 N x k)

def lv_44_10 : Live := [(1, none), (2, none), (4, none), (6, none), (7, none), (12, none), (13, none), (14, none), (18, none), (24, none), (25, none)]
def pt_44_10 : SPat := ⟨[(1, .ptr 0 []), (2, .ptr 1 []), (4, .bool), (6, .ptr 2 []), (7, .ptr 3 []), (12, .sl 4), (13, .int .i64), (14, .int .i64), (18, .int .i64), (24, .vec (.int .i64) 16), (25, .int .i64)], [some (.vec (.int .u64) 128, 70), some (.vec (.int .u64) 128, 70), some (.vec (.int .i64) 16, 153), some (.vec (.int .u64) 16, 62), some (.lst (.bool), 4)]⟩
def px_44_10_0 : SPat := ⟨[(1, .ptr 0 []), (2, .ptr 1 []), (4, .bool), (6, .ptr 2 []), (7, .ptr 3 []), (12, .sl 4), (13, .int .i64), (14, .int .i64), (18, .int .i64)], [some (.vec (.int .u64) 128, 70), some (.vec (.int .u64) 128, 70), some (.vec (.int .i64) 16, 153), some (.vec (.int .u64) 16, 62), some (.lst (.bool), 4)]⟩
def lo_44_10 : Exit → Live
  | .exit 4 => [(1, none), (2, none), (4, none), (6, none), (7, none), (12, none), (13, none), (14, none), (18, none)]
  | _ => []
def B_44_10 {R : Type} (N : Nat) (rec : ((Unit × Unit × Bool × Unit × Unit × Unit × Int × Int × Int × (Nat → Int) × Int × Unit) × ((Nat → Int) × (Nat → Int) × (Nat → Int) × (Nat → Int) × (List Bool) × Unit)) → Option R) (x : ((Unit × Unit × Bool × Unit × Unit × Unit × Int × Int × Int × (Nat → Int) × Int × Unit) × ((Nat → Int) × (Nat → Int) × (Nat → Int) × (Nat → Int) × (List Bool) × Unit))) (κ0 : ((Unit × Unit × Bool × Unit × Unit × Unit × Int × Int × Int × Unit) × ((Nat → Int) × (Nat → Int) × (Nat → Int) × (Nat → Int) × (List Bool) × Unit)) → Option R) : Option R :=
let b125 : Bool := x.1.2.2.1
let i126 : Int := x.1.2.2.2.2.2.2.1
let i127 : Int := x.1.2.2.2.2.2.2.2.1
let i128 : Int := x.1.2.2.2.2.2.2.2.2.1
let a129 : (Nat → Int) := x.1.2.2.2.2.2.2.2.2.2.1
let i130 : Int := x.1.2.2.2.2.2.2.2.2.2.2.1
let a131 : (Nat → Int) := x.2.1
let a132 : (Nat → Int) := x.2.2.1
let a133 : (Nat → Int) := x.2.2.2.1
let a134 : (Nat → Int) := x.2.2.2.2.1
let l135 : (List Bool) := x.2.2.2.2.2.1
bif (decide (i130 < 16)) then (
bif decide (0 ≤ i130) then (
bif decide (i130 < (16 : Int)) then (
let i136 : Int := (a129 ((Int.toNat i130)))
bif decide (0 ≤ i136) then (
bif decide (i136 < (128 : Int)) then (
let i137 : Int := (a131 ((Int.toNat i136)))
bif decide (0 ≤ i130) then (
bif decide (i130 < (16 : Int)) then (
let a138 : (Nat → Int) := (upd a134 ((Int.toNat i130)) i137)
let i139 : Int := addA .i64 i130 1
rec (((), (), b125, (), (), (), i126, i127, i128, a129, i139, ()), (a131, a132, a133, a138, l135, ()))) else none) else none) else none) else none) else none) else none) else (
κ0 (((), (), b125, (), (), (), i126, i127, i128, ()), (a131, a132, a133, a134, l135, ())))
def l_44_10 {R : Type} (N : Nat) : Nat → ((Unit × Unit × Bool × Unit × Unit × Unit × Int × Int × Int × (Nat → Int) × Int × Unit) × ((Nat → Int) × (Nat → Int) × (Nat → Int) × (Nat → Int) × (List Bool) × Unit)) → (((Unit × Unit × Bool × Unit × Unit × Unit × Int × Int × Int × Unit) × ((Nat → Int) × (Nat → Int) × (Nat → Int) × (Nat → Int) × (List Bool) × Unit)) → Option R) → Option R
  | 0, _, _ => none
  | n + 1, x, κ0 => B_44_10 N (fun y => l_44_10 N n y κ0) x κ0
def lv_44_16 : Live := [(1, none), (2, none), (4, none), (7, none), (12, none), (13, none), (14, none), (18, none), (37, none), (38, none)]
def pt_44_16 : SPat := ⟨[(1, .ptr 0 []), (2, .ptr 1 []), (4, .bool), (7, .ptr 2 []), (12, .sl 3), (13, .int .i64), (14, .int .i64), (18, .int .i64), (37, .vec (.int .i64) 16), (38, .int .i64)], [some (.vec (.int .u64) 128, 70), some (.vec (.int .u64) 128, 70), some (.vec (.int .u64) 16, 62), some (.lst (.bool), 4)]⟩
def px_44_16_0 : SPat := ⟨[(1, .ptr 0 []), (2, .ptr 1 []), (4, .bool), (12, .sl 2), (13, .int .i64), (14, .int .i64), (18, .int .i64)], [some (.vec (.int .u64) 128, 70), some (.vec (.int .u64) 128, 70), some (.lst (.bool), 4)]⟩
def lo_44_16 : Exit → Live
  | .exit 6 => [(1, none), (2, none), (4, none), (12, none), (13, none), (14, none), (18, none)]
  | _ => []
def B_44_16 {R : Type} (N : Nat) (rec : ((Unit × Unit × Bool × Unit × Unit × Int × Int × Int × (Nat → Int) × Int × Unit) × ((Nat → Int) × (Nat → Int) × (Nat → Int) × (List Bool) × Unit)) → Option R) (x : ((Unit × Unit × Bool × Unit × Unit × Int × Int × Int × (Nat → Int) × Int × Unit) × ((Nat → Int) × (Nat → Int) × (Nat → Int) × (List Bool) × Unit))) (κ0 : ((Unit × Unit × Bool × Unit × Int × Int × Int × Unit) × ((Nat → Int) × (Nat → Int) × (List Bool) × Unit)) → Option R) : Option R :=
let b190 : Bool := x.1.2.2.1
let i191 : Int := x.1.2.2.2.2.2.1
let i192 : Int := x.1.2.2.2.2.2.2.1
let i193 : Int := x.1.2.2.2.2.2.2.2.1
let a194 : (Nat → Int) := x.1.2.2.2.2.2.2.2.2.1
let i195 : Int := x.1.2.2.2.2.2.2.2.2.2.1
let a196 : (Nat → Int) := x.2.1
let a197 : (Nat → Int) := x.2.2.1
let a198 : (Nat → Int) := x.2.2.2.1
let l199 : (List Bool) := x.2.2.2.2.1
bif (decide (i195 < 16)) then (
bif decide (0 ≤ i195) then (
bif decide (i195 < (16 : Int)) then (
let i200 : Int := (a194 ((Int.toNat i195)))
bif decide (0 ≤ i195) then (
bif decide (i195 < (16 : Int)) then (
let i201 : Int := (a198 ((Int.toNat i195)))
bif decide (0 ≤ i200) then (
bif decide (i200 < (128 : Int)) then (
let a202 : (Nat → Int) := (upd a196 ((Int.toNat i200)) i201)
let i203 : Int := addA .i64 i195 1
rec (((), (), b190, (), (), i191, i192, i193, a194, i203, ()), (a202, a197, a198, l199, ()))) else none) else none) else none) else none) else none) else none) else (
κ0 (((), (), b190, (), i191, i192, i193, ()), (a196, a197, l199, ())))
def l_44_16 {R : Type} (N : Nat) : Nat → ((Unit × Unit × Bool × Unit × Unit × Int × Int × Int × (Nat → Int) × Int × Unit) × ((Nat → Int) × (Nat → Int) × (Nat → Int) × (List Bool) × Unit)) → (((Unit × Unit × Bool × Unit × Int × Int × Int × Unit) × ((Nat → Int) × (Nat → Int) × (List Bool) × Unit)) → Option R) → Option R
  | 0, _, _ => none
  | n + 1, x, κ0 => B_44_16 N (fun y => l_44_16 N n y κ0) x κ0
def lv_44_5 : Live := [(1, none), (2, none), (4, none), (12, none), (13, none), (14, none), (18, none)]
def pt_44_5 : SPat := ⟨[(1, .ptr 0 []), (2, .ptr 1 []), (4, .bool), (12, .sl 2), (13, .int .i64), (14, .int .i64), (18, .int .i64)], [some (.vec (.int .u64) 128, 70), some (.vec (.int .u64) 128, 70), some (.lst (.bool), 4)]⟩
def px_44_5_0 : SPat := ⟨[(1, .ptr 0 []), (2, .ptr 1 []), (12, .sl 2), (13, .int .i64), (14, .int .i64)], [some (.vec (.int .u64) 128, 70), some (.vec (.int .u64) 128, 70), some (.lst (.bool), 4)]⟩
def lo_44_5 : Exit → Live
  | .exit 2 => [(1, none), (2, none), (12, none), (13, none), (14, none)]
  | _ => []
def B_44_5 {R : Type} (N : Nat) (rec : ((Unit × Unit × Bool × Unit × Int × Int × Int × Unit) × ((Nat → Int) × (Nat → Int) × (List Bool) × Unit)) → Option R) (x : ((Unit × Unit × Bool × Unit × Int × Int × Int × Unit) × ((Nat → Int) × (Nat → Int) × (List Bool) × Unit))) (κ0 : ((Unit × Unit × Unit × Int × Int × Unit) × ((Nat → Int) × (Nat → Int) × (List Bool) × Unit)) → Option R) : Option R :=
let b94 : Bool := x.1.2.2.1
let i95 : Int := x.1.2.2.2.2.1
let i96 : Int := x.1.2.2.2.2.2.1
let i97 : Int := x.1.2.2.2.2.2.2.1
let a98 : (Nat → Int) := x.2.1
let a99 : (Nat → Int) := x.2.2.1
let l100 : (List Bool) := x.2.2.2.1
bif (decide (i97 < 8)) then (
p_95 N ((i97, b94, ()), ()) (fun y123 =>
let a124 : (Nat → Int) := y123
l_44_10 N N (((), (), b94, (), (), (), i95, i96, i97, a124, 0, ()), (a98, a99, a124, (Sch.zero (.arr 16 (.int .u64))), l100, ())) (fun y140 =>
let b141 : Bool := y140.1.2.2.1
let i142 : Int := y140.1.2.2.2.2.2.2.1
let i143 : Int := y140.1.2.2.2.2.2.2.2.1
let i144 : Int := y140.1.2.2.2.2.2.2.2.2.1
let a145 : (Nat → Int) := y140.2.1
let a146 : (Nat → Int) := y140.2.2.1
let a147 : (Nat → Int) := y140.2.2.2.1
let a148 : (Nat → Int) := y140.2.2.2.2.1
let l149 : (List Bool) := y140.2.2.2.2.2.1
p_40 N ((a148, ()), ()) (fun y188 =>
let a189 : (Nat → Int) := y188
l_44_16 N N (((), (), b141, (), (), i142, i143, i144, a147, 0, ()), (a145, a146, a189, l149, ())) (fun y204 =>
let b205 : Bool := y204.1.2.2.1
let i206 : Int := y204.1.2.2.2.2.1
let i207 : Int := y204.1.2.2.2.2.2.1
let i208 : Int := y204.1.2.2.2.2.2.2.1
let a209 : (Nat → Int) := y204.2.1
let a210 : (Nat → Int) := y204.2.2.1
let l211 : (List Bool) := y204.2.2.2.1
let i212 : Int := addA .i64 i208 1
rec (((), (), b205, (), i206, i207, i212, ()), (a209, a210, l211, ()))))))) else (
κ0 (((), (), (), i95, i96, ()), (a98, a99, l100, ())))
def l_44_5 {R : Type} (N : Nat) : Nat → ((Unit × Unit × Bool × Unit × Int × Int × Int × Unit) × ((Nat → Int) × (Nat → Int) × (List Bool) × Unit)) → (((Unit × Unit × Unit × Int × Int × Unit) × ((Nat → Int) × (Nat → Int) × (List Bool) × Unit)) → Option R) → Option R
  | 0, _, _ => none
  | n + 1, x, κ0 => B_44_5 N (fun y => l_44_5 N n y κ0) x κ0
def lv_44_2 : Live := [(1, none), (2, none), (12, none), (13, none), (14, none)]
def pt_44_2 : SPat := ⟨[(1, .ptr 0 []), (2, .ptr 1 []), (12, .sl 2), (13, .int .i64), (14, .int .i64)], [some (.vec (.int .u64) 128, 70), some (.vec (.int .u64) 128, 70), some (.lst (.bool), 4)]⟩
def px_44_2_0 : SPat := ⟨[(1, .ptr 0 []), (2, .ptr 1 [])], [some (.vec (.int .u64) 128, 70), some (.vec (.int .u64) 128, 70)]⟩
def lo_44_2 : Exit → Live
  | .exit 0 => [(1, none), (2, none)]
  | _ => []
def B_44_2 {R : Type} (N : Nat) (rec : ((Unit × Unit × Unit × Int × Int × Unit) × ((Nat → Int) × (Nat → Int) × (List Bool) × Unit)) → Option R) (x : ((Unit × Unit × Unit × Int × Int × Unit) × ((Nat → Int) × (Nat → Int) × (List Bool) × Unit))) (κ0 : ((Unit × Unit × Unit) × ((Nat → Int) × (Nat → Int) × Unit)) → Option R) : Option R :=
let i88 : Int := x.1.2.2.2.1
let i89 : Int := x.1.2.2.2.2.1
let a90 : (Nat → Int) := x.2.1
let a91 : (Nat → Int) := x.2.2.1
let l92 : (List Bool) := x.2.2.2.1
bif (decide (i89 < i88)) then (
bif decide (0 ≤ i89) then (
bif decide (i89 < ((List.length l92) : Int)) then (
let b93 : Bool := (List.getD l92 ((Int.toNat i89)) (Sch.zero (.bool)))
l_44_5 N N (((), (), b93, (), i88, i89, 0, ()), (a90, a91, l92, ())) (fun y213 =>
let i214 : Int := y213.1.2.2.2.1
let i215 : Int := y213.1.2.2.2.2.1
let a216 : (Nat → Int) := y213.2.1
let a217 : (Nat → Int) := y213.2.2.1
let l218 : (List Bool) := y213.2.2.2.1
let i219 : Int := addA .i64 i215 1
rec (((), (), (), i214, i219, ()), (a216, a217, l218, ())))) else none) else none) else (
κ0 (((), (), ()), (a90, a91, ())))
def l_44_2 {R : Type} (N : Nat) : Nat → ((Unit × Unit × Unit × Int × Int × Unit) × ((Nat → Int) × (Nat → Int) × (List Bool) × Unit)) → (((Unit × Unit × Unit) × ((Nat → Int) × (Nat → Int) × Unit)) → Option R) → Option R
  | 0, _, _ => none
  | n + 1, x, κ0 => B_44_2 N (fun y => l_44_2 N n y κ0) x κ0
def ap_44 : List Pat := [.vec (.int .u64) 128]
def hp_44 : List (Option (Pat × Nat)) := []
def p_44 {R : Type} (N : Nat) (x : ((Nat → Int) × Unit) × (Unit)) (κ0 : (Nat → Int) → Option R) : Option R :=
let a85 : (Nat → Int) := x.1.1
let l86 : (List Bool) := [false, true]
let i87 : Int := (((List.length l86) : Nat) : Int)
l_44_2 N N (((), (), (), i87, 0, ()), (a85, (Sch.zero (.arr 128 (.int .u64))), l86, ())) (fun y220 =>
let a221 : (Nat → Int) := y220.2.1
let a222 : (Nat → Int) := y220.2.2.1
κ0 a221)

def Q_44 {R : Type} (q_95 : (Int × Bool × Unit) × (Unit) → ((Nat → Int) → Option R) → Option R) (q_40 : ((Nat → Int) × Unit) × (Unit) → ((Nat → Int) → Option R) → Option R) (m_44_10 : ((Unit × Unit × Bool × Unit × Unit × Unit × Int × Int × Int × (Nat → Int) × Int × Unit) × ((Nat → Int) × (Nat → Int) × (Nat → Int) × (Nat → Int) × (List Bool) × Unit)) → (((Unit × Unit × Bool × Unit × Unit × Unit × Int × Int × Int × Unit) × ((Nat → Int) × (Nat → Int) × (Nat → Int) × (Nat → Int) × (List Bool) × Unit)) → Option R) → Option R) (m_44_16 : ((Unit × Unit × Bool × Unit × Unit × Int × Int × Int × (Nat → Int) × Int × Unit) × ((Nat → Int) × (Nat → Int) × (Nat → Int) × (List Bool) × Unit)) → (((Unit × Unit × Bool × Unit × Int × Int × Int × Unit) × ((Nat → Int) × (Nat → Int) × (List Bool) × Unit)) → Option R) → Option R) (m_44_5 : ((Unit × Unit × Bool × Unit × Int × Int × Int × Unit) × ((Nat → Int) × (Nat → Int) × (List Bool) × Unit)) → (((Unit × Unit × Unit × Int × Int × Unit) × ((Nat → Int) × (Nat → Int) × (List Bool) × Unit)) → Option R) → Option R) (m_44_2 : ((Unit × Unit × Unit × Int × Int × Unit) × ((Nat → Int) × (Nat → Int) × (List Bool) × Unit)) → (((Unit × Unit × Unit) × ((Nat → Int) × (Nat → Int) × Unit)) → Option R) → Option R) (x : ((Nat → Int) × Unit) × (Unit)) (κ0 : (Nat → Int) → Option R) : Option R :=
let a85 : (Nat → Int) := x.1.1
let l86 : (List Bool) := [false, true]
let i87 : Int := (((List.length l86) : Nat) : Int)
m_44_2 (((), (), (), i87, 0, ()), (a85, (Sch.zero (.arr 128 (.int .u64))), l86, ())) (fun y220 =>
let a221 : (Nat → Int) := y220.2.1
let a222 : (Nat → Int) := y220.2.2.1
κ0 a221)
def C_44_10 {R : Type} (q_95 : (Int × Bool × Unit) × (Unit) → ((Nat → Int) → Option R) → Option R) (q_40 : ((Nat → Int) × Unit) × (Unit) → ((Nat → Int) → Option R) → Option R) (m_44_10 : ((Unit × Unit × Bool × Unit × Unit × Unit × Int × Int × Int × (Nat → Int) × Int × Unit) × ((Nat → Int) × (Nat → Int) × (Nat → Int) × (Nat → Int) × (List Bool) × Unit)) → (((Unit × Unit × Bool × Unit × Unit × Unit × Int × Int × Int × Unit) × ((Nat → Int) × (Nat → Int) × (Nat → Int) × (Nat → Int) × (List Bool) × Unit)) → Option R) → Option R) (m_44_16 : ((Unit × Unit × Bool × Unit × Unit × Int × Int × Int × (Nat → Int) × Int × Unit) × ((Nat → Int) × (Nat → Int) × (Nat → Int) × (List Bool) × Unit)) → (((Unit × Unit × Bool × Unit × Int × Int × Int × Unit) × ((Nat → Int) × (Nat → Int) × (List Bool) × Unit)) → Option R) → Option R) (m_44_5 : ((Unit × Unit × Bool × Unit × Int × Int × Int × Unit) × ((Nat → Int) × (Nat → Int) × (List Bool) × Unit)) → (((Unit × Unit × Unit × Int × Int × Unit) × ((Nat → Int) × (Nat → Int) × (List Bool) × Unit)) → Option R) → Option R) (m_44_2 : ((Unit × Unit × Unit × Int × Int × Unit) × ((Nat → Int) × (Nat → Int) × (List Bool) × Unit)) → (((Unit × Unit × Unit) × ((Nat → Int) × (Nat → Int) × Unit)) → Option R) → Option R) (rec : ((Unit × Unit × Bool × Unit × Unit × Unit × Int × Int × Int × (Nat → Int) × Int × Unit) × ((Nat → Int) × (Nat → Int) × (Nat → Int) × (Nat → Int) × (List Bool) × Unit)) → Option R) (x : ((Unit × Unit × Bool × Unit × Unit × Unit × Int × Int × Int × (Nat → Int) × Int × Unit) × ((Nat → Int) × (Nat → Int) × (Nat → Int) × (Nat → Int) × (List Bool) × Unit))) (κ0 : ((Unit × Unit × Bool × Unit × Unit × Unit × Int × Int × Int × Unit) × ((Nat → Int) × (Nat → Int) × (Nat → Int) × (Nat → Int) × (List Bool) × Unit)) → Option R) : Option R :=
let b125 : Bool := x.1.2.2.1
let i126 : Int := x.1.2.2.2.2.2.2.1
let i127 : Int := x.1.2.2.2.2.2.2.2.1
let i128 : Int := x.1.2.2.2.2.2.2.2.2.1
let a129 : (Nat → Int) := x.1.2.2.2.2.2.2.2.2.2.1
let i130 : Int := x.1.2.2.2.2.2.2.2.2.2.2.1
let a131 : (Nat → Int) := x.2.1
let a132 : (Nat → Int) := x.2.2.1
let a133 : (Nat → Int) := x.2.2.2.1
let a134 : (Nat → Int) := x.2.2.2.2.1
let l135 : (List Bool) := x.2.2.2.2.2.1
bif (decide (i130 < 16)) then (
bif decide (0 ≤ i130) then (
bif decide (i130 < (16 : Int)) then (
let i136 : Int := (a129 ((Int.toNat i130)))
bif decide (0 ≤ i136) then (
bif decide (i136 < (128 : Int)) then (
let i137 : Int := (a131 ((Int.toNat i136)))
bif decide (0 ≤ i130) then (
bif decide (i130 < (16 : Int)) then (
let a138 : (Nat → Int) := (upd a134 ((Int.toNat i130)) i137)
let i139 : Int := addA .i64 i130 1
rec (((), (), b125, (), (), (), i126, i127, i128, a129, i139, ()), (a131, a132, a133, a138, l135, ()))) else none) else none) else none) else none) else none) else none) else (
κ0 (((), (), b125, (), (), (), i126, i127, i128, ()), (a131, a132, a133, a134, l135, ())))
def C_44_16 {R : Type} (q_95 : (Int × Bool × Unit) × (Unit) → ((Nat → Int) → Option R) → Option R) (q_40 : ((Nat → Int) × Unit) × (Unit) → ((Nat → Int) → Option R) → Option R) (m_44_10 : ((Unit × Unit × Bool × Unit × Unit × Unit × Int × Int × Int × (Nat → Int) × Int × Unit) × ((Nat → Int) × (Nat → Int) × (Nat → Int) × (Nat → Int) × (List Bool) × Unit)) → (((Unit × Unit × Bool × Unit × Unit × Unit × Int × Int × Int × Unit) × ((Nat → Int) × (Nat → Int) × (Nat → Int) × (Nat → Int) × (List Bool) × Unit)) → Option R) → Option R) (m_44_16 : ((Unit × Unit × Bool × Unit × Unit × Int × Int × Int × (Nat → Int) × Int × Unit) × ((Nat → Int) × (Nat → Int) × (Nat → Int) × (List Bool) × Unit)) → (((Unit × Unit × Bool × Unit × Int × Int × Int × Unit) × ((Nat → Int) × (Nat → Int) × (List Bool) × Unit)) → Option R) → Option R) (m_44_5 : ((Unit × Unit × Bool × Unit × Int × Int × Int × Unit) × ((Nat → Int) × (Nat → Int) × (List Bool) × Unit)) → (((Unit × Unit × Unit × Int × Int × Unit) × ((Nat → Int) × (Nat → Int) × (List Bool) × Unit)) → Option R) → Option R) (m_44_2 : ((Unit × Unit × Unit × Int × Int × Unit) × ((Nat → Int) × (Nat → Int) × (List Bool) × Unit)) → (((Unit × Unit × Unit) × ((Nat → Int) × (Nat → Int) × Unit)) → Option R) → Option R) (rec : ((Unit × Unit × Bool × Unit × Unit × Int × Int × Int × (Nat → Int) × Int × Unit) × ((Nat → Int) × (Nat → Int) × (Nat → Int) × (List Bool) × Unit)) → Option R) (x : ((Unit × Unit × Bool × Unit × Unit × Int × Int × Int × (Nat → Int) × Int × Unit) × ((Nat → Int) × (Nat → Int) × (Nat → Int) × (List Bool) × Unit))) (κ0 : ((Unit × Unit × Bool × Unit × Int × Int × Int × Unit) × ((Nat → Int) × (Nat → Int) × (List Bool) × Unit)) → Option R) : Option R :=
let b190 : Bool := x.1.2.2.1
let i191 : Int := x.1.2.2.2.2.2.1
let i192 : Int := x.1.2.2.2.2.2.2.1
let i193 : Int := x.1.2.2.2.2.2.2.2.1
let a194 : (Nat → Int) := x.1.2.2.2.2.2.2.2.2.1
let i195 : Int := x.1.2.2.2.2.2.2.2.2.2.1
let a196 : (Nat → Int) := x.2.1
let a197 : (Nat → Int) := x.2.2.1
let a198 : (Nat → Int) := x.2.2.2.1
let l199 : (List Bool) := x.2.2.2.2.1
bif (decide (i195 < 16)) then (
bif decide (0 ≤ i195) then (
bif decide (i195 < (16 : Int)) then (
let i200 : Int := (a194 ((Int.toNat i195)))
bif decide (0 ≤ i195) then (
bif decide (i195 < (16 : Int)) then (
let i201 : Int := (a198 ((Int.toNat i195)))
bif decide (0 ≤ i200) then (
bif decide (i200 < (128 : Int)) then (
let a202 : (Nat → Int) := (upd a196 ((Int.toNat i200)) i201)
let i203 : Int := addA .i64 i195 1
rec (((), (), b190, (), (), i191, i192, i193, a194, i203, ()), (a202, a197, a198, l199, ()))) else none) else none) else none) else none) else none) else none) else (
κ0 (((), (), b190, (), i191, i192, i193, ()), (a196, a197, l199, ())))
def C_44_5 {R : Type} (q_95 : (Int × Bool × Unit) × (Unit) → ((Nat → Int) → Option R) → Option R) (q_40 : ((Nat → Int) × Unit) × (Unit) → ((Nat → Int) → Option R) → Option R) (m_44_10 : ((Unit × Unit × Bool × Unit × Unit × Unit × Int × Int × Int × (Nat → Int) × Int × Unit) × ((Nat → Int) × (Nat → Int) × (Nat → Int) × (Nat → Int) × (List Bool) × Unit)) → (((Unit × Unit × Bool × Unit × Unit × Unit × Int × Int × Int × Unit) × ((Nat → Int) × (Nat → Int) × (Nat → Int) × (Nat → Int) × (List Bool) × Unit)) → Option R) → Option R) (m_44_16 : ((Unit × Unit × Bool × Unit × Unit × Int × Int × Int × (Nat → Int) × Int × Unit) × ((Nat → Int) × (Nat → Int) × (Nat → Int) × (List Bool) × Unit)) → (((Unit × Unit × Bool × Unit × Int × Int × Int × Unit) × ((Nat → Int) × (Nat → Int) × (List Bool) × Unit)) → Option R) → Option R) (m_44_5 : ((Unit × Unit × Bool × Unit × Int × Int × Int × Unit) × ((Nat → Int) × (Nat → Int) × (List Bool) × Unit)) → (((Unit × Unit × Unit × Int × Int × Unit) × ((Nat → Int) × (Nat → Int) × (List Bool) × Unit)) → Option R) → Option R) (m_44_2 : ((Unit × Unit × Unit × Int × Int × Unit) × ((Nat → Int) × (Nat → Int) × (List Bool) × Unit)) → (((Unit × Unit × Unit) × ((Nat → Int) × (Nat → Int) × Unit)) → Option R) → Option R) (rec : ((Unit × Unit × Bool × Unit × Int × Int × Int × Unit) × ((Nat → Int) × (Nat → Int) × (List Bool) × Unit)) → Option R) (x : ((Unit × Unit × Bool × Unit × Int × Int × Int × Unit) × ((Nat → Int) × (Nat → Int) × (List Bool) × Unit))) (κ0 : ((Unit × Unit × Unit × Int × Int × Unit) × ((Nat → Int) × (Nat → Int) × (List Bool) × Unit)) → Option R) : Option R :=
let b94 : Bool := x.1.2.2.1
let i95 : Int := x.1.2.2.2.2.1
let i96 : Int := x.1.2.2.2.2.2.1
let i97 : Int := x.1.2.2.2.2.2.2.1
let a98 : (Nat → Int) := x.2.1
let a99 : (Nat → Int) := x.2.2.1
let l100 : (List Bool) := x.2.2.2.1
bif (decide (i97 < 8)) then (
q_95 ((i97, b94, ()), ()) (fun y123 =>
let a124 : (Nat → Int) := y123
m_44_10 (((), (), b94, (), (), (), i95, i96, i97, a124, 0, ()), (a98, a99, a124, (Sch.zero (.arr 16 (.int .u64))), l100, ())) (fun y140 =>
let b141 : Bool := y140.1.2.2.1
let i142 : Int := y140.1.2.2.2.2.2.2.1
let i143 : Int := y140.1.2.2.2.2.2.2.2.1
let i144 : Int := y140.1.2.2.2.2.2.2.2.2.1
let a145 : (Nat → Int) := y140.2.1
let a146 : (Nat → Int) := y140.2.2.1
let a147 : (Nat → Int) := y140.2.2.2.1
let a148 : (Nat → Int) := y140.2.2.2.2.1
let l149 : (List Bool) := y140.2.2.2.2.2.1
q_40 ((a148, ()), ()) (fun y188 =>
let a189 : (Nat → Int) := y188
m_44_16 (((), (), b141, (), (), i142, i143, i144, a147, 0, ()), (a145, a146, a189, l149, ())) (fun y204 =>
let b205 : Bool := y204.1.2.2.1
let i206 : Int := y204.1.2.2.2.2.1
let i207 : Int := y204.1.2.2.2.2.2.1
let i208 : Int := y204.1.2.2.2.2.2.2.1
let a209 : (Nat → Int) := y204.2.1
let a210 : (Nat → Int) := y204.2.2.1
let l211 : (List Bool) := y204.2.2.2.1
let i212 : Int := addA .i64 i208 1
rec (((), (), b205, (), i206, i207, i212, ()), (a209, a210, l211, ()))))))) else (
κ0 (((), (), (), i95, i96, ()), (a98, a99, l100, ())))
def C_44_2 {R : Type} (q_95 : (Int × Bool × Unit) × (Unit) → ((Nat → Int) → Option R) → Option R) (q_40 : ((Nat → Int) × Unit) × (Unit) → ((Nat → Int) → Option R) → Option R) (m_44_10 : ((Unit × Unit × Bool × Unit × Unit × Unit × Int × Int × Int × (Nat → Int) × Int × Unit) × ((Nat → Int) × (Nat → Int) × (Nat → Int) × (Nat → Int) × (List Bool) × Unit)) → (((Unit × Unit × Bool × Unit × Unit × Unit × Int × Int × Int × Unit) × ((Nat → Int) × (Nat → Int) × (Nat → Int) × (Nat → Int) × (List Bool) × Unit)) → Option R) → Option R) (m_44_16 : ((Unit × Unit × Bool × Unit × Unit × Int × Int × Int × (Nat → Int) × Int × Unit) × ((Nat → Int) × (Nat → Int) × (Nat → Int) × (List Bool) × Unit)) → (((Unit × Unit × Bool × Unit × Int × Int × Int × Unit) × ((Nat → Int) × (Nat → Int) × (List Bool) × Unit)) → Option R) → Option R) (m_44_5 : ((Unit × Unit × Bool × Unit × Int × Int × Int × Unit) × ((Nat → Int) × (Nat → Int) × (List Bool) × Unit)) → (((Unit × Unit × Unit × Int × Int × Unit) × ((Nat → Int) × (Nat → Int) × (List Bool) × Unit)) → Option R) → Option R) (m_44_2 : ((Unit × Unit × Unit × Int × Int × Unit) × ((Nat → Int) × (Nat → Int) × (List Bool) × Unit)) → (((Unit × Unit × Unit) × ((Nat → Int) × (Nat → Int) × Unit)) → Option R) → Option R) (rec : ((Unit × Unit × Unit × Int × Int × Unit) × ((Nat → Int) × (Nat → Int) × (List Bool) × Unit)) → Option R) (x : ((Unit × Unit × Unit × Int × Int × Unit) × ((Nat → Int) × (Nat → Int) × (List Bool) × Unit))) (κ0 : ((Unit × Unit × Unit) × ((Nat → Int) × (Nat → Int) × Unit)) → Option R) : Option R :=
let i88 : Int := x.1.2.2.2.1
let i89 : Int := x.1.2.2.2.2.1
let a90 : (Nat → Int) := x.2.1
let a91 : (Nat → Int) := x.2.2.1
let l92 : (List Bool) := x.2.2.2.1
bif (decide (i89 < i88)) then (
bif decide (0 ≤ i89) then (
bif decide (i89 < ((List.length l92) : Int)) then (
let b93 : Bool := (List.getD l92 ((Int.toNat i89)) (Sch.zero (.bool)))
m_44_5 (((), (), b93, (), i88, i89, 0, ()), (a90, a91, l92, ())) (fun y213 =>
let i214 : Int := y213.1.2.2.2.1
let i215 : Int := y213.1.2.2.2.2.1
let a216 : (Nat → Int) := y213.2.1
let a217 : (Nat → Int) := y213.2.2.1
let l218 : (List Bool) := y213.2.2.2.1
let i219 : Int := addA .i64 i215 1
rec (((), (), (), i214, i219, ()), (a216, a217, l218, ())))) else none) else none) else (
κ0 (((), (), ()), (a90, a91, ())))
def EG_44 {R : Type} (q_95 : (Int × Bool × Unit) × (Unit) → ((Nat → Int) → Option R) → Option R) (q_40 : ((Nat → Int) × Unit) × (Unit) → ((Nat → Int) → Option R) → Option R) : Env R := ((Env.base QQ LN).add 95 ap_95 hp_95 (fun (x : aden ap_95 × hden hp_95) k => q_95 x (fun y => k (Pat.inst (.vec (.int .i64) 16) y) (instH hp_95 x.2)))).add 40 ap_40 hp_40 (fun (x : aden ap_40 × hden hp_40) k => q_40 x (fun y => k (Pat.inst (.vec (.int .u64) 16) y) (instH hp_40 x.2)))
def LG_44 {R : Type} (m_44_10 : ((Unit × Unit × Bool × Unit × Unit × Unit × Int × Int × Int × (Nat → Int) × Int × Unit) × ((Nat → Int) × (Nat → Int) × (Nat → Int) × (Nat → Int) × (List Bool) × Unit)) → (((Unit × Unit × Bool × Unit × Unit × Unit × Int × Int × Int × Unit) × ((Nat → Int) × (Nat → Int) × (Nat → Int) × (Nat → Int) × (List Bool) × Unit)) → Option R) → Option R) (m_44_16 : ((Unit × Unit × Bool × Unit × Unit × Int × Int × Int × (Nat → Int) × Int × Unit) × ((Nat → Int) × (Nat → Int) × (Nat → Int) × (List Bool) × Unit)) → (((Unit × Unit × Bool × Unit × Int × Int × Int × Unit) × ((Nat → Int) × (Nat → Int) × (List Bool) × Unit)) → Option R) → Option R) (m_44_5 : ((Unit × Unit × Bool × Unit × Int × Int × Int × Unit) × ((Nat → Int) × (Nat → Int) × (List Bool) × Unit)) → (((Unit × Unit × Unit × Int × Int × Unit) × ((Nat → Int) × (Nat → Int) × (List Bool) × Unit)) → Option R) → Option R) (m_44_2 : ((Unit × Unit × Unit × Int × Int × Unit) × ((Nat → Int) × (Nat → Int) × (List Bool) × Unit)) → (((Unit × Unit × Unit) × ((Nat → Int) × (Nat → Int) × Unit)) → Option R) → Option R) : Loops R := ((((Loops.none).add 10 (loopBy 0 lv_44_10 pt_44_10 (fun x k => m_44_10 x (fun y => k (.exit 4) (px_44_10_0.inst y))))).add 16 (loopBy 0 lv_44_16 pt_44_16 (fun x k => m_44_16 x (fun y => k (.exit 6) (px_44_16_0.inst y))))).add 5 (loopBy 0 lv_44_5 pt_44_5 (fun x k => m_44_5 x (fun y => k (.exit 2) (px_44_5_0.inst y))))).add 2 (loopBy 0 lv_44_2 pt_44_2 (fun x k => m_44_2 x (fun y => k (.exit 0) (px_44_2_0.inst y))))
def E_44 {R : Type} (N : Nat) : Env R := EG_44 (p_95 N) (p_40 N)
theorem eok_44 {R : Type} (N : Nat) : EK Try.prog (E_44 (R := R) N) := ek_add (ek_add (ek_base _ _) (good_95 N)) (good_40 N)
def L_44 {R : Type} (N : Nat) : Loops R := LG_44 (l_44_10 N N) (l_44_16 N N) (l_44_5 N N) (l_44_2 N N)
theorem gstep_44_10 {R : Type} (q_95 : (Int × Bool × Unit) × (Unit) → ((Nat → Int) → Option R) → Option R) (q_40 : ((Nat → Int) × Unit) × (Unit) → ((Nat → Int) → Option R) → Option R) (m_44_10 : ((Unit × Unit × Bool × Unit × Unit × Unit × Int × Int × Int × (Nat → Int) × Int × Unit) × ((Nat → Int) × (Nat → Int) × (Nat → Int) × (Nat → Int) × (List Bool) × Unit)) → (((Unit × Unit × Bool × Unit × Unit × Unit × Int × Int × Int × Unit) × ((Nat → Int) × (Nat → Int) × (Nat → Int) × (Nat → Int) × (List Bool) × Unit)) → Option R) → Option R) (m_44_16 : ((Unit × Unit × Bool × Unit × Unit × Int × Int × Int × (Nat → Int) × Int × Unit) × ((Nat → Int) × (Nat → Int) × (Nat → Int) × (List Bool) × Unit)) → (((Unit × Unit × Bool × Unit × Int × Int × Int × Unit) × ((Nat → Int) × (Nat → Int) × (List Bool) × Unit)) → Option R) → Option R) (m_44_5 : ((Unit × Unit × Bool × Unit × Int × Int × Int × Unit) × ((Nat → Int) × (Nat → Int) × (List Bool) × Unit)) → (((Unit × Unit × Unit × Int × Int × Unit) × ((Nat → Int) × (Nat → Int) × (List Bool) × Unit)) → Option R) → Option R) (m_44_2 : ((Unit × Unit × Unit × Int × Int × Unit) × ((Nat → Int) × (Nat → Int) × (List Bool) × Unit)) → (((Unit × Unit × Unit) × ((Nat → Int) × (Nat → Int) × Unit)) → Option R) → Option R) (n : Nat) (x : pt_44_10.den) (k : Exit → St → Option R) : iter 0 lv_44_10 lo_44_10 (aexec TT (EG_44 q_95 q_40) (drawOk TT QQ) (LG_44 m_44_10 m_44_16 m_44_5 m_44_2) (loopAt 10 (bodyOf Try.f44))) (n + 1) (pt_44_10.inst x) k = C_44_10 q_95 q_40 m_44_10 m_44_16 m_44_5 m_44_2 (fun y => iter 0 lv_44_10 lo_44_10 (aexec TT (EG_44 q_95 q_40) (drawOk TT QQ) (LG_44 m_44_10 m_44_16 m_44_5 m_44_2) (loopAt 10 (bodyOf Try.f44))) n (pt_44_10.inst y) k) x (fun y => k (.exit 4) (px_44_10_0.inst y)) := by kernel_rfl
theorem step_44_10 {R : Type} (N n : Nat) (x : pt_44_10.den) (k : Exit → St → Option R) : iter 0 lv_44_10 lo_44_10 (aexec TT (E_44 (R := R) N) (drawOk TT QQ) (L_44 N) (loopAt 10 (bodyOf Try.f44))) (n + 1) (pt_44_10.inst x) k = B_44_10 N (fun y => iter 0 lv_44_10 lo_44_10 (aexec TT (E_44 (R := R) N) (drawOk TT QQ) (L_44 N) (loopAt 10 (bodyOf Try.f44))) n (pt_44_10.inst y) k) x (fun y => k (.exit 4) (px_44_10_0.inst y)) := (gstep_44_10 (p_95 N) (p_40 N) (l_44_10 N N) (l_44_16 N N) (l_44_5 N N) (l_44_2 N N) n x k).trans (by kernel_rfl)
theorem eq_44_10 {R : Type} (N : Nat) : ∀ (n : Nat) (x : pt_44_10.den) (k : Exit → St → Option R), iter 0 lv_44_10 lo_44_10 (aexec TT (E_44 (R := R) N) (drawOk TT QQ) (L_44 N) (loopAt 10 (bodyOf Try.f44))) n (pt_44_10.inst x) k = l_44_10 N n x (fun y => k (.exit 4) (px_44_10_0.inst y)) :=
  iter_eq (K := Exit → St → Option R) (ks := fun k => k) (l := fun n (x : pt_44_10.den) k => l_44_10 N n x (fun y => k (.exit 4) (px_44_10_0.inst y))) (B := fun (rec : pt_44_10.den → Option R) (x : pt_44_10.den) k => B_44_10 N rec x (fun y => k (.exit 4) (px_44_10_0.inst y))) (fun _ _ => rfl) (fun _ _ _ => rfl) (fun n x k => step_44_10 N n x k)
theorem rounds_44_10 {R : Type} (N : Nat) : Rounds 0 TT (E_44 (R := R) N) (drawOk TT QQ) (L_44 N) 10 (loopAt 10 (bodyOf Try.f44)) :=
  rounds_of (p := pt_44_10) (l := fun (x : pt_44_10.den) k => l_44_10 N N x (fun y => k (.exit 4) (px_44_10_0.inst y))) (fun s k => rfl) (fun x k => eq_44_10 N N x k)
theorem gstep_44_16 {R : Type} (q_95 : (Int × Bool × Unit) × (Unit) → ((Nat → Int) → Option R) → Option R) (q_40 : ((Nat → Int) × Unit) × (Unit) → ((Nat → Int) → Option R) → Option R) (m_44_10 : ((Unit × Unit × Bool × Unit × Unit × Unit × Int × Int × Int × (Nat → Int) × Int × Unit) × ((Nat → Int) × (Nat → Int) × (Nat → Int) × (Nat → Int) × (List Bool) × Unit)) → (((Unit × Unit × Bool × Unit × Unit × Unit × Int × Int × Int × Unit) × ((Nat → Int) × (Nat → Int) × (Nat → Int) × (Nat → Int) × (List Bool) × Unit)) → Option R) → Option R) (m_44_16 : ((Unit × Unit × Bool × Unit × Unit × Int × Int × Int × (Nat → Int) × Int × Unit) × ((Nat → Int) × (Nat → Int) × (Nat → Int) × (List Bool) × Unit)) → (((Unit × Unit × Bool × Unit × Int × Int × Int × Unit) × ((Nat → Int) × (Nat → Int) × (List Bool) × Unit)) → Option R) → Option R) (m_44_5 : ((Unit × Unit × Bool × Unit × Int × Int × Int × Unit) × ((Nat → Int) × (Nat → Int) × (List Bool) × Unit)) → (((Unit × Unit × Unit × Int × Int × Unit) × ((Nat → Int) × (Nat → Int) × (List Bool) × Unit)) → Option R) → Option R) (m_44_2 : ((Unit × Unit × Unit × Int × Int × Unit) × ((Nat → Int) × (Nat → Int) × (List Bool) × Unit)) → (((Unit × Unit × Unit) × ((Nat → Int) × (Nat → Int) × Unit)) → Option R) → Option R) (n : Nat) (x : pt_44_16.den) (k : Exit → St → Option R) : iter 0 lv_44_16 lo_44_16 (aexec TT (EG_44 q_95 q_40) (drawOk TT QQ) (LG_44 m_44_10 m_44_16 m_44_5 m_44_2) (loopAt 16 (bodyOf Try.f44))) (n + 1) (pt_44_16.inst x) k = C_44_16 q_95 q_40 m_44_10 m_44_16 m_44_5 m_44_2 (fun y => iter 0 lv_44_16 lo_44_16 (aexec TT (EG_44 q_95 q_40) (drawOk TT QQ) (LG_44 m_44_10 m_44_16 m_44_5 m_44_2) (loopAt 16 (bodyOf Try.f44))) n (pt_44_16.inst y) k) x (fun y => k (.exit 6) (px_44_16_0.inst y)) := by kernel_rfl
theorem step_44_16 {R : Type} (N n : Nat) (x : pt_44_16.den) (k : Exit → St → Option R) : iter 0 lv_44_16 lo_44_16 (aexec TT (E_44 (R := R) N) (drawOk TT QQ) (L_44 N) (loopAt 16 (bodyOf Try.f44))) (n + 1) (pt_44_16.inst x) k = B_44_16 N (fun y => iter 0 lv_44_16 lo_44_16 (aexec TT (E_44 (R := R) N) (drawOk TT QQ) (L_44 N) (loopAt 16 (bodyOf Try.f44))) n (pt_44_16.inst y) k) x (fun y => k (.exit 6) (px_44_16_0.inst y)) := (gstep_44_16 (p_95 N) (p_40 N) (l_44_10 N N) (l_44_16 N N) (l_44_5 N N) (l_44_2 N N) n x k).trans (by kernel_rfl)
theorem eq_44_16 {R : Type} (N : Nat) : ∀ (n : Nat) (x : pt_44_16.den) (k : Exit → St → Option R), iter 0 lv_44_16 lo_44_16 (aexec TT (E_44 (R := R) N) (drawOk TT QQ) (L_44 N) (loopAt 16 (bodyOf Try.f44))) n (pt_44_16.inst x) k = l_44_16 N n x (fun y => k (.exit 6) (px_44_16_0.inst y)) :=
  iter_eq (K := Exit → St → Option R) (ks := fun k => k) (l := fun n (x : pt_44_16.den) k => l_44_16 N n x (fun y => k (.exit 6) (px_44_16_0.inst y))) (B := fun (rec : pt_44_16.den → Option R) (x : pt_44_16.den) k => B_44_16 N rec x (fun y => k (.exit 6) (px_44_16_0.inst y))) (fun _ _ => rfl) (fun _ _ _ => rfl) (fun n x k => step_44_16 N n x k)
theorem rounds_44_16 {R : Type} (N : Nat) : Rounds 0 TT (E_44 (R := R) N) (drawOk TT QQ) (L_44 N) 16 (loopAt 16 (bodyOf Try.f44)) :=
  rounds_of (p := pt_44_16) (l := fun (x : pt_44_16.den) k => l_44_16 N N x (fun y => k (.exit 6) (px_44_16_0.inst y))) (fun s k => rfl) (fun x k => eq_44_16 N N x k)
theorem gstep_44_5 {R : Type} (q_95 : (Int × Bool × Unit) × (Unit) → ((Nat → Int) → Option R) → Option R) (q_40 : ((Nat → Int) × Unit) × (Unit) → ((Nat → Int) → Option R) → Option R) (m_44_10 : ((Unit × Unit × Bool × Unit × Unit × Unit × Int × Int × Int × (Nat → Int) × Int × Unit) × ((Nat → Int) × (Nat → Int) × (Nat → Int) × (Nat → Int) × (List Bool) × Unit)) → (((Unit × Unit × Bool × Unit × Unit × Unit × Int × Int × Int × Unit) × ((Nat → Int) × (Nat → Int) × (Nat → Int) × (Nat → Int) × (List Bool) × Unit)) → Option R) → Option R) (m_44_16 : ((Unit × Unit × Bool × Unit × Unit × Int × Int × Int × (Nat → Int) × Int × Unit) × ((Nat → Int) × (Nat → Int) × (Nat → Int) × (List Bool) × Unit)) → (((Unit × Unit × Bool × Unit × Int × Int × Int × Unit) × ((Nat → Int) × (Nat → Int) × (List Bool) × Unit)) → Option R) → Option R) (m_44_5 : ((Unit × Unit × Bool × Unit × Int × Int × Int × Unit) × ((Nat → Int) × (Nat → Int) × (List Bool) × Unit)) → (((Unit × Unit × Unit × Int × Int × Unit) × ((Nat → Int) × (Nat → Int) × (List Bool) × Unit)) → Option R) → Option R) (m_44_2 : ((Unit × Unit × Unit × Int × Int × Unit) × ((Nat → Int) × (Nat → Int) × (List Bool) × Unit)) → (((Unit × Unit × Unit) × ((Nat → Int) × (Nat → Int) × Unit)) → Option R) → Option R) (n : Nat) (x : pt_44_5.den) (k : Exit → St → Option R) : iter 0 lv_44_5 lo_44_5 (aexec TT (EG_44 q_95 q_40) (drawOk TT QQ) (LG_44 m_44_10 m_44_16 m_44_5 m_44_2) (loopAt 5 (bodyOf Try.f44))) (n + 1) (pt_44_5.inst x) k = C_44_5 q_95 q_40 m_44_10 m_44_16 m_44_5 m_44_2 (fun y => iter 0 lv_44_5 lo_44_5 (aexec TT (EG_44 q_95 q_40) (drawOk TT QQ) (LG_44 m_44_10 m_44_16 m_44_5 m_44_2) (loopAt 5 (bodyOf Try.f44))) n (pt_44_5.inst y) k) x (fun y => k (.exit 2) (px_44_5_0.inst y)) := by kernel_rfl
theorem step_44_5 {R : Type} (N n : Nat) (x : pt_44_5.den) (k : Exit → St → Option R) : iter 0 lv_44_5 lo_44_5 (aexec TT (E_44 (R := R) N) (drawOk TT QQ) (L_44 N) (loopAt 5 (bodyOf Try.f44))) (n + 1) (pt_44_5.inst x) k = B_44_5 N (fun y => iter 0 lv_44_5 lo_44_5 (aexec TT (E_44 (R := R) N) (drawOk TT QQ) (L_44 N) (loopAt 5 (bodyOf Try.f44))) n (pt_44_5.inst y) k) x (fun y => k (.exit 2) (px_44_5_0.inst y)) := (gstep_44_5 (p_95 N) (p_40 N) (l_44_10 N N) (l_44_16 N N) (l_44_5 N N) (l_44_2 N N) n x k).trans (by kernel_rfl)
theorem eq_44_5 {R : Type} (N : Nat) : ∀ (n : Nat) (x : pt_44_5.den) (k : Exit → St → Option R), iter 0 lv_44_5 lo_44_5 (aexec TT (E_44 (R := R) N) (drawOk TT QQ) (L_44 N) (loopAt 5 (bodyOf Try.f44))) n (pt_44_5.inst x) k = l_44_5 N n x (fun y => k (.exit 2) (px_44_5_0.inst y)) :=
  iter_eq (K := Exit → St → Option R) (ks := fun k => k) (l := fun n (x : pt_44_5.den) k => l_44_5 N n x (fun y => k (.exit 2) (px_44_5_0.inst y))) (B := fun (rec : pt_44_5.den → Option R) (x : pt_44_5.den) k => B_44_5 N rec x (fun y => k (.exit 2) (px_44_5_0.inst y))) (fun _ _ => rfl) (fun _ _ _ => rfl) (fun n x k => step_44_5 N n x k)
theorem rounds_44_5 {R : Type} (N : Nat) : Rounds 0 TT (E_44 (R := R) N) (drawOk TT QQ) (L_44 N) 5 (loopAt 5 (bodyOf Try.f44)) :=
  rounds_of (p := pt_44_5) (l := fun (x : pt_44_5.den) k => l_44_5 N N x (fun y => k (.exit 2) (px_44_5_0.inst y))) (fun s k => rfl) (fun x k => eq_44_5 N N x k)
theorem gstep_44_2 {R : Type} (q_95 : (Int × Bool × Unit) × (Unit) → ((Nat → Int) → Option R) → Option R) (q_40 : ((Nat → Int) × Unit) × (Unit) → ((Nat → Int) → Option R) → Option R) (m_44_10 : ((Unit × Unit × Bool × Unit × Unit × Unit × Int × Int × Int × (Nat → Int) × Int × Unit) × ((Nat → Int) × (Nat → Int) × (Nat → Int) × (Nat → Int) × (List Bool) × Unit)) → (((Unit × Unit × Bool × Unit × Unit × Unit × Int × Int × Int × Unit) × ((Nat → Int) × (Nat → Int) × (Nat → Int) × (Nat → Int) × (List Bool) × Unit)) → Option R) → Option R) (m_44_16 : ((Unit × Unit × Bool × Unit × Unit × Int × Int × Int × (Nat → Int) × Int × Unit) × ((Nat → Int) × (Nat → Int) × (Nat → Int) × (List Bool) × Unit)) → (((Unit × Unit × Bool × Unit × Int × Int × Int × Unit) × ((Nat → Int) × (Nat → Int) × (List Bool) × Unit)) → Option R) → Option R) (m_44_5 : ((Unit × Unit × Bool × Unit × Int × Int × Int × Unit) × ((Nat → Int) × (Nat → Int) × (List Bool) × Unit)) → (((Unit × Unit × Unit × Int × Int × Unit) × ((Nat → Int) × (Nat → Int) × (List Bool) × Unit)) → Option R) → Option R) (m_44_2 : ((Unit × Unit × Unit × Int × Int × Unit) × ((Nat → Int) × (Nat → Int) × (List Bool) × Unit)) → (((Unit × Unit × Unit) × ((Nat → Int) × (Nat → Int) × Unit)) → Option R) → Option R) (n : Nat) (x : pt_44_2.den) (k : Exit → St → Option R) : iter 0 lv_44_2 lo_44_2 (aexec TT (EG_44 q_95 q_40) (drawOk TT QQ) (LG_44 m_44_10 m_44_16 m_44_5 m_44_2) (loopAt 2 (bodyOf Try.f44))) (n + 1) (pt_44_2.inst x) k = C_44_2 q_95 q_40 m_44_10 m_44_16 m_44_5 m_44_2 (fun y => iter 0 lv_44_2 lo_44_2 (aexec TT (EG_44 q_95 q_40) (drawOk TT QQ) (LG_44 m_44_10 m_44_16 m_44_5 m_44_2) (loopAt 2 (bodyOf Try.f44))) n (pt_44_2.inst y) k) x (fun y => k (.exit 0) (px_44_2_0.inst y)) := by kernel_rfl
theorem step_44_2 {R : Type} (N n : Nat) (x : pt_44_2.den) (k : Exit → St → Option R) : iter 0 lv_44_2 lo_44_2 (aexec TT (E_44 (R := R) N) (drawOk TT QQ) (L_44 N) (loopAt 2 (bodyOf Try.f44))) (n + 1) (pt_44_2.inst x) k = B_44_2 N (fun y => iter 0 lv_44_2 lo_44_2 (aexec TT (E_44 (R := R) N) (drawOk TT QQ) (L_44 N) (loopAt 2 (bodyOf Try.f44))) n (pt_44_2.inst y) k) x (fun y => k (.exit 0) (px_44_2_0.inst y)) := (gstep_44_2 (p_95 N) (p_40 N) (l_44_10 N N) (l_44_16 N N) (l_44_5 N N) (l_44_2 N N) n x k).trans (by kernel_rfl)
theorem eq_44_2 {R : Type} (N : Nat) : ∀ (n : Nat) (x : pt_44_2.den) (k : Exit → St → Option R), iter 0 lv_44_2 lo_44_2 (aexec TT (E_44 (R := R) N) (drawOk TT QQ) (L_44 N) (loopAt 2 (bodyOf Try.f44))) n (pt_44_2.inst x) k = l_44_2 N n x (fun y => k (.exit 0) (px_44_2_0.inst y)) :=
  iter_eq (K := Exit → St → Option R) (ks := fun k => k) (l := fun n (x : pt_44_2.den) k => l_44_2 N n x (fun y => k (.exit 0) (px_44_2_0.inst y))) (B := fun (rec : pt_44_2.den → Option R) (x : pt_44_2.den) k => B_44_2 N rec x (fun y => k (.exit 0) (px_44_2_0.inst y))) (fun _ _ => rfl) (fun _ _ _ => rfl) (fun n x k => step_44_2 N n x k)
theorem rounds_44_2 {R : Type} (N : Nat) : Rounds 0 TT (E_44 (R := R) N) (drawOk TT QQ) (L_44 N) 2 (loopAt 2 (bodyOf Try.f44)) :=
  rounds_of (p := pt_44_2) (l := fun (x : pt_44_2.den) k => l_44_2 N N x (fun y => k (.exit 0) (px_44_2_0.inst y))) (fun s k => rfl) (fun x k => eq_44_2 N N x k)
theorem loops_44 : loopsIn (bodyOf Try.f44) = [(2, loopAt 2 (bodyOf Try.f44)), (5, loopAt 5 (bodyOf Try.f44)), (10, loopAt 10 (bodyOf Try.f44)), (16, loopAt 16 (bodyOf Try.f44))] := by kernel_rfl
theorem lok_44 {R : Type} (N : Nat) : LOK 0 TT (E_44 (R := R) N) (drawOk TT QQ) (L_44 N) (bodyOf Try.f44) := loops_all loops_44 (by
  simp only [List.forall_mem_cons, List.not_mem_nil, false_implies, implies_true, and_true]
  exact ⟨rounds_44_2 N, rounds_44_5 N, rounds_44_10 N, rounds_44_16 N⟩)
theorem grun_44 {R : Type} (q_95 : (Int × Bool × Unit) × (Unit) → ((Nat → Int) → Option R) → Option R) (q_40 : ((Nat → Int) × Unit) × (Unit) → ((Nat → Int) → Option R) → Option R) (m_44_10 : ((Unit × Unit × Bool × Unit × Unit × Unit × Int × Int × Int × (Nat → Int) × Int × Unit) × ((Nat → Int) × (Nat → Int) × (Nat → Int) × (Nat → Int) × (List Bool) × Unit)) → (((Unit × Unit × Bool × Unit × Unit × Unit × Int × Int × Int × Unit) × ((Nat → Int) × (Nat → Int) × (Nat → Int) × (Nat → Int) × (List Bool) × Unit)) → Option R) → Option R) (m_44_16 : ((Unit × Unit × Bool × Unit × Unit × Int × Int × Int × (Nat → Int) × Int × Unit) × ((Nat → Int) × (Nat → Int) × (Nat → Int) × (List Bool) × Unit)) → (((Unit × Unit × Bool × Unit × Int × Int × Int × Unit) × ((Nat → Int) × (Nat → Int) × (List Bool) × Unit)) → Option R) → Option R) (m_44_5 : ((Unit × Unit × Bool × Unit × Int × Int × Int × Unit) × ((Nat → Int) × (Nat → Int) × (List Bool) × Unit)) → (((Unit × Unit × Unit × Int × Int × Unit) × ((Nat → Int) × (Nat → Int) × (List Bool) × Unit)) → Option R) → Option R) (m_44_2 : ((Unit × Unit × Unit × Int × Int × Unit) × ((Nat → Int) × (Nat → Int) × (List Bool) × Unit)) → (((Unit × Unit × Unit) × ((Nat → Int) × (Nat → Int) × Unit)) → Option R) → Option R) (x : aden ap_44 × hden hp_44) (k : KF R) : fnrun TT (EG_44 q_95 q_40) (drawOk TT QQ) (LG_44 m_44_10 m_44_16 m_44_5 m_44_2) true Try.f44 (instA ap_44 x.1) (instH hp_44 x.2) k = Q_44 q_95 q_40 m_44_10 m_44_16 m_44_5 m_44_2 x (fun y => k (Pat.inst (.vec (.int .u64) 128) y) (instH hp_44 x.2)) := by kernel_rfl
theorem run_44 {R : Type} (N : Nat) (x : aden ap_44 × hden hp_44) (k : KF R) : fnrun TT (E_44 (R := R) N) (drawOk TT QQ) (L_44 N) true Try.f44 (instA ap_44 x.1) (instH hp_44 x.2) k = p_44 N x (fun y => k (Pat.inst (.vec (.int .u64) 128) y) (instH hp_44 x.2)) := (grun_44 (p_95 N) (p_40 N) (l_44_10 N N) (l_44_16 N N) (l_44_5 N N) (l_44_2 N N) x k).trans (by kernel_rfl)
theorem good_44 {R : Type} (N : Nat) : GD (X := R) Try.prog QQ 44 ap_44 hp_44 (fun (x : aden ap_44 × hden hp_44) k => p_44 N x (fun y => k (Pat.inst (.vec (.int .u64) 128) y) (instH hp_44 x.2))) :=
  gd_quiet (E := E_44 N) (p := fun (x : aden ap_44 × hden hp_44) κ => p_44 N x (fun y => κ (Pat.inst (.vec (.int .u64) 128) y))) mixed tyok (eok_44 N) Try.func44 (by kernel_rfl) (by kernel_rfl) (lok_44 N) (fun x k => run_44 N x k)

def ap_43 : List Pat := [.vec (.int .u64) 128, .vec (.int .u64) 128]
def hp_43 : List (Option (Pat × Nat)) := []
def p_43 {R : Type} (N : Nat) (x : ((Nat → Int) × (Nat → Int) × Unit) × (Unit)) (κ0 : (Nat → Int) → Option R) : Option R :=
let a50 : (Nat → Int) := x.1.1
let a51 : (Nat → Int) := x.1.2.1
let l52 : (List (Nat → Int)) := [a50, a51]
p_94 N ((l52, ()), ()) (fun y83 =>
let a84 : (Nat → Int) := y83
p_44 N ((a84, ()), ()) (fun y223 =>
let a224 : (Nat → Int) := y223
let l225 : (List (Nat → Int)) := [a84, a224]
p_94 N ((l225, ()), ()) (fun y226 =>
let a227 : (Nat → Int) := y226
κ0 a227)))

def Q_43 {R : Type} (q_94 : ((List (Nat → Int)) × Unit) × (Unit) → ((Nat → Int) → Option R) → Option R) (q_44 : ((Nat → Int) × Unit) × (Unit) → ((Nat → Int) → Option R) → Option R) (x : ((Nat → Int) × (Nat → Int) × Unit) × (Unit)) (κ0 : (Nat → Int) → Option R) : Option R :=
let a50 : (Nat → Int) := x.1.1
let a51 : (Nat → Int) := x.1.2.1
let l52 : (List (Nat → Int)) := [a50, a51]
q_94 ((l52, ()), ()) (fun y83 =>
let a84 : (Nat → Int) := y83
q_44 ((a84, ()), ()) (fun y223 =>
let a224 : (Nat → Int) := y223
let l225 : (List (Nat → Int)) := [a84, a224]
q_94 ((l225, ()), ()) (fun y226 =>
let a227 : (Nat → Int) := y226
κ0 a227)))
def EG_43 {R : Type} (q_94 : ((List (Nat → Int)) × Unit) × (Unit) → ((Nat → Int) → Option R) → Option R) (q_44 : ((Nat → Int) × Unit) × (Unit) → ((Nat → Int) → Option R) → Option R) : Env R := ((Env.base QQ LN).add 94 ap_94 hp_94 (fun (x : aden ap_94 × hden hp_94) k => q_94 x (fun y => k (Pat.inst (.vec (.int .u64) 128) y) (instH hp_94 x.2)))).add 44 ap_44 hp_44 (fun (x : aden ap_44 × hden hp_44) k => q_44 x (fun y => k (Pat.inst (.vec (.int .u64) 128) y) (instH hp_44 x.2)))
def LG_43 {R : Type} : Loops R := Loops.none
def E_43 {R : Type} (N : Nat) : Env R := EG_43 (p_94 N) (p_44 N)
theorem eok_43 {R : Type} (N : Nat) : EK Try.prog (E_43 (R := R) N) := ek_add (ek_add (ek_base _ _) (good_94 N)) (good_44 N)
def L_43 {R : Type} (N : Nat) : Loops R := LG_43
theorem lok_43 {R : Type} (N : Nat) : LOK 0 TT (E_43 (R := R) N) (drawOk TT QQ) (L_43 N) (bodyOf Try.f43) := loops_nil (by kernel_rfl)
theorem grun_43 {R : Type} (q_94 : ((List (Nat → Int)) × Unit) × (Unit) → ((Nat → Int) → Option R) → Option R) (q_44 : ((Nat → Int) × Unit) × (Unit) → ((Nat → Int) → Option R) → Option R) (x : aden ap_43 × hden hp_43) (k : KF R) : fnrun TT (EG_43 q_94 q_44) (drawOk TT QQ) (LG_43) true Try.f43 (instA ap_43 x.1) (instH hp_43 x.2) k = Q_43 q_94 q_44 x (fun y => k (Pat.inst (.vec (.int .u64) 128) y) (instH hp_43 x.2)) := by kernel_rfl
theorem run_43 {R : Type} (N : Nat) (x : aden ap_43 × hden hp_43) (k : KF R) : fnrun TT (E_43 (R := R) N) (drawOk TT QQ) (L_43 N) true Try.f43 (instA ap_43 x.1) (instH hp_43 x.2) k = p_43 N x (fun y => k (Pat.inst (.vec (.int .u64) 128) y) (instH hp_43 x.2)) := (grun_43 (p_94 N) (p_44 N) x k).trans (by kernel_rfl)
theorem good_43 {R : Type} (N : Nat) : GD (X := R) Try.prog QQ 43 ap_43 hp_43 (fun (x : aden ap_43 × hden hp_43) k => p_43 N x (fun y => k (Pat.inst (.vec (.int .u64) 128) y) (instH hp_43 x.2))) :=
  gd_quiet (E := E_43 N) (p := fun (x : aden ap_43 × hden hp_43) κ => p_43 N x (fun y => κ (Pat.inst (.vec (.int .u64) 128) y))) mixed tyok (eok_43 N) Try.func43 (by kernel_rfl) (by kernel_rfl) (lok_43 N) (fun x k => run_43 N x k)

def ap_37 : List Pat := []
def hp_37 : List (Option (Pat × Nat)) := []
def p_37 {R : Type} (N : Nat) (x : (Unit) × (Unit)) (κ0 : Bool → Option R) : Option R :=
let a2 : (Nat → Int) := (upd ((upd ((upd ((Sch.zero (.arr 128 (.int .u64)))) 0 1)) 1 2)) 2 3)
p_38 N ((1, 0, 0, 0, ()), ()) (fun y45 =>
let i46 : Int := y45.1
let i47 : Int := y45.2.1
let i48 : Int := y45.2.2.1
let i49 : Int := y45.2.2.2.1
p_43 N ((a2, a2, ()), ()) (fun y228 =>
let a229 : (Nat → Int) := y228
let a230 : (Nat → Int) := (Sch.zero (.arr 128 (.int .u64)))
bif (schEq (.arr 128 (.int .u64)) a229 a230) then (
let a231 : (Nat → Int) := (Sch.zero (.arr 128 (.int .u64)))
p_43 N ((a2, a231, ()), ()) (fun y232 =>
let a233 : (Nat → Int) := y232
let a234 : (Nat → Int) := (Sch.zero (.arr 128 (.int .u64)))
bif (!(schEq (.arr 128 (.int .u64)) a233 a234)) then (
κ0 ((decide (i46 > 1)))) else (
κ0 false))) else (
κ0 false)))

def Q_37 {R : Type} (q_38 : (Int × Int × Int × Int × Unit) × (Unit) → ((Int × (Int × (Int × (Int × Unit)))) → Option R) → Option R) (q_43 : ((Nat → Int) × (Nat → Int) × Unit) × (Unit) → ((Nat → Int) → Option R) → Option R) (x : (Unit) × (Unit)) (κ0 : Bool → Option R) : Option R :=
let a2 : (Nat → Int) := (upd ((upd ((upd ((Sch.zero (.arr 128 (.int .u64)))) 0 1)) 1 2)) 2 3)
q_38 ((1, 0, 0, 0, ()), ()) (fun y45 =>
let i46 : Int := y45.1
let i47 : Int := y45.2.1
let i48 : Int := y45.2.2.1
let i49 : Int := y45.2.2.2.1
q_43 ((a2, a2, ()), ()) (fun y228 =>
let a229 : (Nat → Int) := y228
let a230 : (Nat → Int) := (Sch.zero (.arr 128 (.int .u64)))
bif (schEq (.arr 128 (.int .u64)) a229 a230) then (
let a231 : (Nat → Int) := (Sch.zero (.arr 128 (.int .u64)))
q_43 ((a2, a231, ()), ()) (fun y232 =>
let a233 : (Nat → Int) := y232
let a234 : (Nat → Int) := (Sch.zero (.arr 128 (.int .u64)))
bif (!(schEq (.arr 128 (.int .u64)) a233 a234)) then (
κ0 ((decide (i46 > 1)))) else (
κ0 false))) else (
κ0 false)))
def EG_37 {R : Type} (q_38 : (Int × Int × Int × Int × Unit) × (Unit) → ((Int × (Int × (Int × (Int × Unit)))) → Option R) → Option R) (q_43 : ((Nat → Int) × (Nat → Int) × Unit) × (Unit) → ((Nat → Int) → Option R) → Option R) : Env R := ((Env.base QQ LN).add 38 ap_38 hp_38 (fun (x : aden ap_38 × hden hp_38) k => q_38 x (fun y => k (Pat.inst (.tup (.fcons (.int .u64) (.fcons (.int .u64) (.fcons (.int .u64) (.fcons (.int .u64) (.fnil)))))) y) (instH hp_38 x.2)))).add 43 ap_43 hp_43 (fun (x : aden ap_43 × hden hp_43) k => q_43 x (fun y => k (Pat.inst (.vec (.int .u64) 128) y) (instH hp_43 x.2)))
def LG_37 {R : Type} : Loops R := Loops.none
def E_37 {R : Type} (N : Nat) : Env R := EG_37 (p_38 N) (p_43 N)
theorem eok_37 {R : Type} (N : Nat) : EK Try.prog (E_37 (R := R) N) := ek_add (ek_add (ek_base _ _) (good_38 N)) (good_43 N)
def L_37 {R : Type} (N : Nat) : Loops R := LG_37
theorem lok_37 {R : Type} (N : Nat) : LOK 0 TT (E_37 (R := R) N) (drawOk TT QQ) (L_37 N) (bodyOf Try.f37) := loops_nil (by kernel_rfl)
theorem grun_37 {R : Type} (q_38 : (Int × Int × Int × Int × Unit) × (Unit) → ((Int × (Int × (Int × (Int × Unit)))) → Option R) → Option R) (q_43 : ((Nat → Int) × (Nat → Int) × Unit) × (Unit) → ((Nat → Int) → Option R) → Option R) (x : aden ap_37 × hden hp_37) (k : KF R) : fnrun TT (EG_37 q_38 q_43) (drawOk TT QQ) (LG_37) true Try.f37 (instA ap_37 x.1) (instH hp_37 x.2) k = Q_37 q_38 q_43 x (fun y => k (Pat.inst (.bool) y) (instH hp_37 x.2)) := by kernel_rfl
theorem run_37 {R : Type} (N : Nat) (x : aden ap_37 × hden hp_37) (k : KF R) : fnrun TT (E_37 (R := R) N) (drawOk TT QQ) (L_37 N) true Try.f37 (instA ap_37 x.1) (instH hp_37 x.2) k = p_37 N x (fun y => k (Pat.inst (.bool) y) (instH hp_37 x.2)) := (grun_37 (p_38 N) (p_43 N) x k).trans (by kernel_rfl)
theorem good_37 {R : Type} (N : Nat) : GD (X := R) Try.prog QQ 37 ap_37 hp_37 (fun (x : aden ap_37 × hden hp_37) k => p_37 N x (fun y => k (Pat.inst (.bool) y) (instH hp_37 x.2))) :=
  gd_quiet (E := E_37 N) (p := fun (x : aden ap_37 × hden hp_37) κ => p_37 N x (fun y => κ (Pat.inst (.bool) y))) mixed tyok (eok_37 N) Try.func37 (by kernel_rfl) (by kernel_rfl) (lok_37 N) (fun x k => run_37 N x k)

def ap_91 : List Pat := [.int .u64, .int .u64]
def hp_91 : List (Option (Pat × Nat)) := []
def p_91 {R : Type} (N : Nat) (x : (Int × Int × Unit) × (Unit)) (κ0 : Int → Option R) : Option R :=
let i255 : Int := x.1.1
let i256 : Int := x.1.2.1
let i257 : Int := addA .u64 i255 i256
let i258 : Int := remA .u64 i255 4294967296
let i259 : Int := mulA .u64 2 i258
let i260 : Int := remA .u64 i256 4294967296
let i261 : Int := mulA .u64 i259 i260
let i262 : Int := addA .u64 i257 i261
κ0 i262

def Q_91 {R : Type} (x : (Int × Int × Unit) × (Unit)) (κ0 : Int → Option R) : Option R :=
let i255 : Int := x.1.1
let i256 : Int := x.1.2.1
let i257 : Int := addA .u64 i255 i256
let i258 : Int := remA .u64 i255 4294967296
let i259 : Int := mulA .u64 2 i258
let i260 : Int := remA .u64 i256 4294967296
let i261 : Int := mulA .u64 i259 i260
let i262 : Int := addA .u64 i257 i261
κ0 i262
def EG_91 {R : Type} : Env R := Env.base QQ LN
def LG_91 {R : Type} : Loops R := Loops.none
def E_91 {R : Type} (N : Nat) : Env R := EG_91
theorem eok_91 {R : Type} (N : Nat) : EK Try.prog (E_91 (R := R) N) := ek_base _ _
def L_91 {R : Type} (N : Nat) : Loops R := LG_91
theorem lok_91 {R : Type} (N : Nat) : LOK 0 TT (E_91 (R := R) N) (drawOk TT QQ) (L_91 N) (bodyOf Try.f91) := loops_nil (by kernel_rfl)
theorem grun_91 {R : Type} (x : aden ap_91 × hden hp_91) (k : KF R) : fnrun TT (EG_91) (drawOk TT QQ) (LG_91) true Try.f91 (instA ap_91 x.1) (instH hp_91 x.2) k = Q_91 x (fun y => k (Pat.inst (.int .u64) y) (instH hp_91 x.2)) := by kernel_rfl
theorem run_91 {R : Type} (N : Nat) (x : aden ap_91 × hden hp_91) (k : KF R) : fnrun TT (E_91 (R := R) N) (drawOk TT QQ) (L_91 N) true Try.f91 (instA ap_91 x.1) (instH hp_91 x.2) k = p_91 N x (fun y => k (Pat.inst (.int .u64) y) (instH hp_91 x.2)) := (grun_91 x k).trans (by kernel_rfl)
theorem good_91 {R : Type} (N : Nat) : GD (X := R) Try.prog QQ 91 ap_91 hp_91 (fun (x : aden ap_91 × hden hp_91) k => p_91 N x (fun y => k (Pat.inst (.int .u64) y) (instH hp_91 x.2))) :=
  gd_quiet (E := E_91 N) (p := fun (x : aden ap_91 × hden hp_91) κ => p_91 N x (fun y => κ (Pat.inst (.int .u64) y))) mixed tyok (eok_91 N) Try.func91 (by kernel_rfl) (by kernel_rfl) (lok_91 N) (fun x k => run_91 N x k)

def ap_92 : List Pat := [.int .u64, .int .u64, .int .u64]
def hp_92 : List (Option (Pat × Nat)) := []
def p_92 {R : Type} (N : Nat) (x : (Int × Int × Int × Unit) × (Unit)) (κ0 : Int → Option R) : Option R :=
let i269 : Int := x.1.1
let i270 : Int := x.1.2.1
let i271 : Int := x.1.2.2.1
bif decide (i270 = 0) then none else (
let i272 : Int := quoA .u64 i269 i270
bif decide (i270 = 0) then none else (
let i273 : Int := remA .u64 i269 i270
let i274 : Int := mulA .u64 i273 i271
let i275 : Int := addA .u64 i272 i274
κ0 i275))

def Q_92 {R : Type} (x : (Int × Int × Int × Unit) × (Unit)) (κ0 : Int → Option R) : Option R :=
let i269 : Int := x.1.1
let i270 : Int := x.1.2.1
let i271 : Int := x.1.2.2.1
bif decide (i270 = 0) then none else (
let i272 : Int := quoA .u64 i269 i270
bif decide (i270 = 0) then none else (
let i273 : Int := remA .u64 i269 i270
let i274 : Int := mulA .u64 i273 i271
let i275 : Int := addA .u64 i272 i274
κ0 i275))
def EG_92 {R : Type} : Env R := Env.base QQ LN
def LG_92 {R : Type} : Loops R := Loops.none
def E_92 {R : Type} (N : Nat) : Env R := EG_92
theorem eok_92 {R : Type} (N : Nat) : EK Try.prog (E_92 (R := R) N) := ek_base _ _
def L_92 {R : Type} (N : Nat) : Loops R := LG_92
theorem lok_92 {R : Type} (N : Nat) : LOK 0 TT (E_92 (R := R) N) (drawOk TT QQ) (L_92 N) (bodyOf Try.f92) := loops_nil (by kernel_rfl)
theorem grun_92 {R : Type} (x : aden ap_92 × hden hp_92) (k : KF R) : fnrun TT (EG_92) (drawOk TT QQ) (LG_92) true Try.f92 (instA ap_92 x.1) (instH hp_92 x.2) k = Q_92 x (fun y => k (Pat.inst (.int .u64) y) (instH hp_92 x.2)) := by kernel_rfl
theorem run_92 {R : Type} (N : Nat) (x : aden ap_92 × hden hp_92) (k : KF R) : fnrun TT (E_92 (R := R) N) (drawOk TT QQ) (L_92 N) true Try.f92 (instA ap_92 x.1) (instH hp_92 x.2) k = p_92 N x (fun y => k (Pat.inst (.int .u64) y) (instH hp_92 x.2)) := (grun_92 x k).trans (by kernel_rfl)
theorem good_92 {R : Type} (N : Nat) : GD (X := R) Try.prog QQ 92 ap_92 hp_92 (fun (x : aden ap_92 × hden hp_92) k => p_92 N x (fun y => k (Pat.inst (.int .u64) y) (instH hp_92 x.2))) :=
  gd_quiet (E := E_92 N) (p := fun (x : aden ap_92 × hden hp_92) κ => p_92 N x (fun y => κ (Pat.inst (.int .u64) y))) mixed tyok (eok_92 N) Try.func92 (by kernel_rfl) (by kernel_rfl) (lok_92 N) (fun x k => run_92 N x k)

def ap_39 : List Pat := [.vec (.int .u64) 4]
def hp_39 : List (Option (Pat × Nat)) := []
def p_39 {R : Type} (N : Nat) (x : ((Nat → Int) × Unit) × (Unit)) (κ0 : (Nat → Int) → Option R) : Option R :=
let a252 : (Nat → Int) := x.1.1
let i253 : Int := (a252 0)
let i254 : Int := (a252 1)
p_91 N ((i253, i254, ()), ()) (fun y263 =>
let i264 : Int := y263
let a265 : (Nat → Int) := (upd a252 0 i264)
let i266 : Int := (a265 3)
let i267 : Int := (a265 0)
let i268 : Int := xorA .u64 i266 i267
p_92 N ((i268, 4294967296, 4294967296, ()), ()) (fun y276 =>
let i277 : Int := y276
let a278 : (Nat → Int) := (upd a265 3 i277)
let i279 : Int := (a278 2)
let i280 : Int := (a278 3)
p_91 N ((i279, i280, ()), ()) (fun y281 =>
let i282 : Int := y281
let a283 : (Nat → Int) := (upd a278 2 i282)
let i284 : Int := (a283 1)
let i285 : Int := (a283 2)
let i286 : Int := xorA .u64 i284 i285
p_92 N ((i286, 16777216, 1099511627776, ()), ()) (fun y287 =>
let i288 : Int := y287
let a289 : (Nat → Int) := (upd a283 1 i288)
let i290 : Int := (a289 0)
let i291 : Int := (a289 1)
p_91 N ((i290, i291, ()), ()) (fun y292 =>
let i293 : Int := y292
let a294 : (Nat → Int) := (upd a289 0 i293)
let i295 : Int := (a294 3)
let i296 : Int := (a294 0)
let i297 : Int := xorA .u64 i295 i296
p_92 N ((i297, 65536, 281474976710656, ()), ()) (fun y298 =>
let i299 : Int := y298
let a300 : (Nat → Int) := (upd a294 3 i299)
let i301 : Int := (a300 2)
let i302 : Int := (a300 3)
p_91 N ((i301, i302, ()), ()) (fun y303 =>
let i304 : Int := y303
let a305 : (Nat → Int) := (upd a300 2 i304)
let i306 : Int := (a305 1)
let i307 : Int := (a305 2)
let i308 : Int := xorA .u64 i306 i307
p_92 N ((i308, 9223372036854775808, 2, ()), ()) (fun y309 =>
let i310 : Int := y309
let a311 : (Nat → Int) := (upd a305 1 i310)
κ0 a311))))))))

def Q_39 {R : Type} (q_91 : (Int × Int × Unit) × (Unit) → (Int → Option R) → Option R) (q_92 : (Int × Int × Int × Unit) × (Unit) → (Int → Option R) → Option R) (x : ((Nat → Int) × Unit) × (Unit)) (κ0 : (Nat → Int) → Option R) : Option R :=
let a252 : (Nat → Int) := x.1.1
let i253 : Int := (a252 0)
let i254 : Int := (a252 1)
q_91 ((i253, i254, ()), ()) (fun y263 =>
let i264 : Int := y263
let a265 : (Nat → Int) := (upd a252 0 i264)
let i266 : Int := (a265 3)
let i267 : Int := (a265 0)
let i268 : Int := xorA .u64 i266 i267
q_92 ((i268, 4294967296, 4294967296, ()), ()) (fun y276 =>
let i277 : Int := y276
let a278 : (Nat → Int) := (upd a265 3 i277)
let i279 : Int := (a278 2)
let i280 : Int := (a278 3)
q_91 ((i279, i280, ()), ()) (fun y281 =>
let i282 : Int := y281
let a283 : (Nat → Int) := (upd a278 2 i282)
let i284 : Int := (a283 1)
let i285 : Int := (a283 2)
let i286 : Int := xorA .u64 i284 i285
q_92 ((i286, 16777216, 1099511627776, ()), ()) (fun y287 =>
let i288 : Int := y287
let a289 : (Nat → Int) := (upd a283 1 i288)
let i290 : Int := (a289 0)
let i291 : Int := (a289 1)
q_91 ((i290, i291, ()), ()) (fun y292 =>
let i293 : Int := y292
let a294 : (Nat → Int) := (upd a289 0 i293)
let i295 : Int := (a294 3)
let i296 : Int := (a294 0)
let i297 : Int := xorA .u64 i295 i296
q_92 ((i297, 65536, 281474976710656, ()), ()) (fun y298 =>
let i299 : Int := y298
let a300 : (Nat → Int) := (upd a294 3 i299)
let i301 : Int := (a300 2)
let i302 : Int := (a300 3)
q_91 ((i301, i302, ()), ()) (fun y303 =>
let i304 : Int := y303
let a305 : (Nat → Int) := (upd a300 2 i304)
let i306 : Int := (a305 1)
let i307 : Int := (a305 2)
let i308 : Int := xorA .u64 i306 i307
q_92 ((i308, 9223372036854775808, 2, ()), ()) (fun y309 =>
let i310 : Int := y309
let a311 : (Nat → Int) := (upd a305 1 i310)
κ0 a311))))))))
def EG_39 {R : Type} (q_91 : (Int × Int × Unit) × (Unit) → (Int → Option R) → Option R) (q_92 : (Int × Int × Int × Unit) × (Unit) → (Int → Option R) → Option R) : Env R := ((Env.base QQ LN).add 91 ap_91 hp_91 (fun (x : aden ap_91 × hden hp_91) k => q_91 x (fun y => k (Pat.inst (.int .u64) y) (instH hp_91 x.2)))).add 92 ap_92 hp_92 (fun (x : aden ap_92 × hden hp_92) k => q_92 x (fun y => k (Pat.inst (.int .u64) y) (instH hp_92 x.2)))
def LG_39 {R : Type} : Loops R := Loops.none
def E_39 {R : Type} (N : Nat) : Env R := EG_39 (p_91 N) (p_92 N)
theorem eok_39 {R : Type} (N : Nat) : EK Try.prog (E_39 (R := R) N) := ek_add (ek_add (ek_base _ _) (good_91 N)) (good_92 N)
def L_39 {R : Type} (N : Nat) : Loops R := LG_39
theorem lok_39 {R : Type} (N : Nat) : LOK 0 TT (E_39 (R := R) N) (drawOk TT QQ) (L_39 N) (bodyOf Try.f39) := loops_nil (by kernel_rfl)
theorem grun_39 {R : Type} (q_91 : (Int × Int × Unit) × (Unit) → (Int → Option R) → Option R) (q_92 : (Int × Int × Int × Unit) × (Unit) → (Int → Option R) → Option R) (x : aden ap_39 × hden hp_39) (k : KF R) : fnrun TT (EG_39 q_91 q_92) (drawOk TT QQ) (LG_39) true Try.f39 (instA ap_39 x.1) (instH hp_39 x.2) k = Q_39 q_91 q_92 x (fun y => k (Pat.inst (.vec (.int .u64) 4) y) (instH hp_39 x.2)) := by kernel_rfl
theorem run_39 {R : Type} (N : Nat) (x : aden ap_39 × hden hp_39) (k : KF R) : fnrun TT (E_39 (R := R) N) (drawOk TT QQ) (L_39 N) true Try.f39 (instA ap_39 x.1) (instH hp_39 x.2) k = p_39 N x (fun y => k (Pat.inst (.vec (.int .u64) 4) y) (instH hp_39 x.2)) := (grun_39 (p_91 N) (p_92 N) x k).trans (by kernel_rfl)
theorem good_39 {R : Type} (N : Nat) : GD (X := R) Try.prog QQ 39 ap_39 hp_39 (fun (x : aden ap_39 × hden hp_39) k => p_39 N x (fun y => k (Pat.inst (.vec (.int .u64) 4) y) (instH hp_39 x.2))) :=
  gd_quiet (E := E_39 N) (p := fun (x : aden ap_39 × hden hp_39) κ => p_39 N x (fun y => κ (Pat.inst (.vec (.int .u64) 4) y))) mixed tyok (eok_39 N) Try.func39 (by kernel_rfl) (by kernel_rfl) (lok_39 N) (fun x k => run_39 N x k)

def lv_41_7 : Live := [(1, none), (2, none), (3, none), (4, none), (5, none), (6, none)]
def pt_41_7 : SPat := ⟨[(1, .ptr 0 []), (2, .ptr 1 []), (3, .int .i64), (4, .ptr 2 []), (5, .ptr 3 []), (6, .int .i64)], [some (.vec (.int .u64) 16, 62), some (.vec (.int .u64) 16, 62), some (.vec (.int .i64) 4, 104), some (.vec (.int .u64) 4, 65)]⟩
def px_41_7_0 : SPat := ⟨[(1, .ptr 0 []), (2, .ptr 1 []), (3, .int .i64), (4, .ptr 2 []), (5, .ptr 3 [])], [some (.vec (.int .u64) 16, 62), some (.vec (.int .u64) 16, 62), some (.vec (.int .i64) 4, 104), some (.vec (.int .u64) 4, 65)]⟩
def lo_41_7 : Exit → Live
  | .exit 2 => [(1, none), (2, none), (3, none), (4, none), (5, none)]
  | _ => []
def B_41_7 {R : Type} (N : Nat) (rec : ((Unit × Unit × Int × Unit × Unit × Int × Unit) × ((Nat → Int) × (Nat → Int) × (Nat → Int) × (Nat → Int) × Unit)) → Option R) (x : ((Unit × Unit × Int × Unit × Unit × Int × Unit) × ((Nat → Int) × (Nat → Int) × (Nat → Int) × (Nat → Int) × Unit))) (κ0 : ((Unit × Unit × Int × Unit × Unit × Unit) × ((Nat → Int) × (Nat → Int) × (Nat → Int) × (Nat → Int) × Unit)) → Option R) : Option R :=
let i320 : Int := x.1.2.2.1
let i321 : Int := x.1.2.2.2.2.2.1
let a322 : (Nat → Int) := x.2.1
let a323 : (Nat → Int) := x.2.2.1
let a324 : (Nat → Int) := x.2.2.2.1
let a325 : (Nat → Int) := x.2.2.2.2.1
bif (decide (i321 < 4)) then (
let i326 : Int := mulA .i64 4 i321
let i327 : Int := remA .i64 i320 4
let i328 : Int := addA .i64 i326 i327
bif decide (0 ≤ i321) then (
bif decide (i321 < (4 : Int)) then (
let a329 : (Nat → Int) := (upd a324 ((Int.toNat i321)) i328)
bif (decide (i320 ≥ 4)) then (
let i330 : Int := mulA .i64 4 i321
let i331 : Int := addA .i64 i320 i321
let i332 : Int := remA .i64 i331 4
let i333 : Int := addA .i64 i330 i332
bif decide (0 ≤ i321) then (
bif decide (i321 < (4 : Int)) then (
let a334 : (Nat → Int) := (upd a329 ((Int.toNat i321)) i333)
bif decide (0 ≤ i321) then (
bif decide (i321 < (4 : Int)) then (
let i335 : Int := (a334 ((Int.toNat i321)))
bif decide (0 ≤ i335) then (
bif decide (i335 < (16 : Int)) then (
let i336 : Int := (a322 ((Int.toNat i335)))
bif decide (0 ≤ i321) then (
bif decide (i321 < (4 : Int)) then (
let a337 : (Nat → Int) := (upd a325 ((Int.toNat i321)) i336)
let i338 : Int := addA .i64 i321 1
rec (((), (), i320, (), (), i338, ()), (a322, a323, a334, a337, ()))) else none) else none) else none) else none) else none) else none) else none) else none) else (
bif decide (0 ≤ i321) then (
bif decide (i321 < (4 : Int)) then (
let i339 : Int := (a329 ((Int.toNat i321)))
bif decide (0 ≤ i339) then (
bif decide (i339 < (16 : Int)) then (
let i340 : Int := (a322 ((Int.toNat i339)))
bif decide (0 ≤ i321) then (
bif decide (i321 < (4 : Int)) then (
let a341 : (Nat → Int) := (upd a325 ((Int.toNat i321)) i340)
let i342 : Int := addA .i64 i321 1
rec (((), (), i320, (), (), i342, ()), (a322, a323, a329, a341, ()))) else none) else none) else none) else none) else none) else none)) else none) else none) else (
κ0 (((), (), i320, (), (), ()), (a322, a323, a324, a325, ())))
def l_41_7 {R : Type} (N : Nat) : Nat → ((Unit × Unit × Int × Unit × Unit × Int × Unit) × ((Nat → Int) × (Nat → Int) × (Nat → Int) × (Nat → Int) × Unit)) → (((Unit × Unit × Int × Unit × Unit × Unit) × ((Nat → Int) × (Nat → Int) × (Nat → Int) × (Nat → Int) × Unit)) → Option R) → Option R
  | 0, _, _ => none
  | n + 1, x, κ0 => B_41_7 N (fun y => l_41_7 N n y κ0) x κ0
def lv_41_15 : Live := [(1, none), (2, none), (3, none), (4, none), (5, none), (7, none)]
def pt_41_15 : SPat := ⟨[(1, .ptr 0 []), (2, .ptr 1 []), (3, .int .i64), (4, .ptr 2 []), (5, .ptr 3 []), (7, .int .i64)], [some (.vec (.int .u64) 16, 62), some (.vec (.int .u64) 16, 62), some (.vec (.int .i64) 4, 104), some (.vec (.int .u64) 4, 65)]⟩
def px_41_15_0 : SPat := ⟨[(1, .ptr 0 []), (2, .ptr 1 []), (3, .int .i64)], [some (.vec (.int .u64) 16, 62), some (.vec (.int .u64) 16, 62)]⟩
def lo_41_15 : Exit → Live
  | .exit 4 => [(1, none), (2, none), (3, none)]
  | _ => []
def B_41_15 {R : Type} (N : Nat) (rec : ((Unit × Unit × Int × Unit × Unit × Int × Unit) × ((Nat → Int) × (Nat → Int) × (Nat → Int) × (Nat → Int) × Unit)) → Option R) (x : ((Unit × Unit × Int × Unit × Unit × Int × Unit) × ((Nat → Int) × (Nat → Int) × (Nat → Int) × (Nat → Int) × Unit))) (κ0 : ((Unit × Unit × Int × Unit) × ((Nat → Int) × (Nat → Int) × Unit)) → Option R) : Option R :=
let i351 : Int := x.1.2.2.1
let i352 : Int := x.1.2.2.2.2.2.1
let a353 : (Nat → Int) := x.2.1
let a354 : (Nat → Int) := x.2.2.1
let a355 : (Nat → Int) := x.2.2.2.1
let a356 : (Nat → Int) := x.2.2.2.2.1
bif (decide (i352 < 4)) then (
bif decide (0 ≤ i352) then (
bif decide (i352 < (4 : Int)) then (
let i357 : Int := (a355 ((Int.toNat i352)))
bif decide (0 ≤ i352) then (
bif decide (i352 < (4 : Int)) then (
let i358 : Int := (a356 ((Int.toNat i352)))
bif decide (0 ≤ i357) then (
bif decide (i357 < (16 : Int)) then (
let a359 : (Nat → Int) := (upd a353 ((Int.toNat i357)) i358)
let i360 : Int := addA .i64 i352 1
rec (((), (), i351, (), (), i360, ()), (a359, a354, a355, a356, ()))) else none) else none) else none) else none) else none) else none) else (
κ0 (((), (), i351, ()), (a353, a354, ())))
def l_41_15 {R : Type} (N : Nat) : Nat → ((Unit × Unit × Int × Unit × Unit × Int × Unit) × ((Nat → Int) × (Nat → Int) × (Nat → Int) × (Nat → Int) × Unit)) → (((Unit × Unit × Int × Unit) × ((Nat → Int) × (Nat → Int) × Unit)) → Option R) → Option R
  | 0, _, _ => none
  | n + 1, x, κ0 => B_41_15 N (fun y => l_41_15 N n y κ0) x κ0
def lv_41_2 : Live := [(1, none), (2, none), (3, none)]
def pt_41_2 : SPat := ⟨[(1, .ptr 0 []), (2, .ptr 1 []), (3, .int .i64)], [some (.vec (.int .u64) 16, 62), some (.vec (.int .u64) 16, 62)]⟩
def px_41_2_0 : SPat := ⟨[(1, .ptr 0 []), (2, .ptr 1 [])], [some (.vec (.int .u64) 16, 62), some (.vec (.int .u64) 16, 62)]⟩
def lo_41_2 : Exit → Live
  | .exit 0 => [(1, none), (2, none)]
  | _ => []
def B_41_2 {R : Type} (N : Nat) (rec : ((Unit × Unit × Int × Unit) × ((Nat → Int) × (Nat → Int) × Unit)) → Option R) (x : ((Unit × Unit × Int × Unit) × ((Nat → Int) × (Nat → Int) × Unit))) (κ0 : ((Unit × Unit × Unit) × ((Nat → Int) × (Nat → Int) × Unit)) → Option R) : Option R :=
let i317 : Int := x.1.2.2.1
let a318 : (Nat → Int) := x.2.1
let a319 : (Nat → Int) := x.2.2.1
bif (decide (i317 < 8)) then (
l_41_7 N N (((), (), i317, (), (), 0, ()), (a318, a319, (Sch.zero (.arr 4 (.int .i64))), (Sch.zero (.arr 4 (.int .u64))), ())) (fun y343 =>
let i344 : Int := y343.1.2.2.1
let a345 : (Nat → Int) := y343.2.1
let a346 : (Nat → Int) := y343.2.2.1
let a347 : (Nat → Int) := y343.2.2.2.1
let a348 : (Nat → Int) := y343.2.2.2.2.1
p_39 N ((a348, ()), ()) (fun y349 =>
let a350 : (Nat → Int) := y349
l_41_15 N N (((), (), i344, (), (), 0, ()), (a345, a346, a347, a350, ())) (fun y361 =>
let i362 : Int := y361.1.2.2.1
let a363 : (Nat → Int) := y361.2.1
let a364 : (Nat → Int) := y361.2.2.1
let i365 : Int := addA .i64 i362 1
rec (((), (), i365, ()), (a363, a364, ())))))) else (
κ0 (((), (), ()), (a318, a319, ())))
def l_41_2 {R : Type} (N : Nat) : Nat → ((Unit × Unit × Int × Unit) × ((Nat → Int) × (Nat → Int) × Unit)) → (((Unit × Unit × Unit) × ((Nat → Int) × (Nat → Int) × Unit)) → Option R) → Option R
  | 0, _, _ => none
  | n + 1, x, κ0 => B_41_2 N (fun y => l_41_2 N n y κ0) x κ0
def ap_41 : List Pat := [.vec (.int .u64) 16]
def hp_41 : List (Option (Pat × Nat)) := []
def p_41 {R : Type} (N : Nat) (x : ((Nat → Int) × Unit) × (Unit)) (κ0 : (Nat → Int) → Option R) : Option R :=
let a316 : (Nat → Int) := x.1.1
l_41_2 N N (((), (), 0, ()), (a316, (Sch.zero (.arr 16 (.int .u64))), ())) (fun y366 =>
let a367 : (Nat → Int) := y366.2.1
let a368 : (Nat → Int) := y366.2.2.1
κ0 a367)

def Q_41 {R : Type} (q_39 : ((Nat → Int) × Unit) × (Unit) → ((Nat → Int) → Option R) → Option R) (m_41_7 : ((Unit × Unit × Int × Unit × Unit × Int × Unit) × ((Nat → Int) × (Nat → Int) × (Nat → Int) × (Nat → Int) × Unit)) → (((Unit × Unit × Int × Unit × Unit × Unit) × ((Nat → Int) × (Nat → Int) × (Nat → Int) × (Nat → Int) × Unit)) → Option R) → Option R) (m_41_15 : ((Unit × Unit × Int × Unit × Unit × Int × Unit) × ((Nat → Int) × (Nat → Int) × (Nat → Int) × (Nat → Int) × Unit)) → (((Unit × Unit × Int × Unit) × ((Nat → Int) × (Nat → Int) × Unit)) → Option R) → Option R) (m_41_2 : ((Unit × Unit × Int × Unit) × ((Nat → Int) × (Nat → Int) × Unit)) → (((Unit × Unit × Unit) × ((Nat → Int) × (Nat → Int) × Unit)) → Option R) → Option R) (x : ((Nat → Int) × Unit) × (Unit)) (κ0 : (Nat → Int) → Option R) : Option R :=
let a316 : (Nat → Int) := x.1.1
m_41_2 (((), (), 0, ()), (a316, (Sch.zero (.arr 16 (.int .u64))), ())) (fun y366 =>
let a367 : (Nat → Int) := y366.2.1
let a368 : (Nat → Int) := y366.2.2.1
κ0 a367)
def C_41_7 {R : Type} (q_39 : ((Nat → Int) × Unit) × (Unit) → ((Nat → Int) → Option R) → Option R) (m_41_7 : ((Unit × Unit × Int × Unit × Unit × Int × Unit) × ((Nat → Int) × (Nat → Int) × (Nat → Int) × (Nat → Int) × Unit)) → (((Unit × Unit × Int × Unit × Unit × Unit) × ((Nat → Int) × (Nat → Int) × (Nat → Int) × (Nat → Int) × Unit)) → Option R) → Option R) (m_41_15 : ((Unit × Unit × Int × Unit × Unit × Int × Unit) × ((Nat → Int) × (Nat → Int) × (Nat → Int) × (Nat → Int) × Unit)) → (((Unit × Unit × Int × Unit) × ((Nat → Int) × (Nat → Int) × Unit)) → Option R) → Option R) (m_41_2 : ((Unit × Unit × Int × Unit) × ((Nat → Int) × (Nat → Int) × Unit)) → (((Unit × Unit × Unit) × ((Nat → Int) × (Nat → Int) × Unit)) → Option R) → Option R) (rec : ((Unit × Unit × Int × Unit × Unit × Int × Unit) × ((Nat → Int) × (Nat → Int) × (Nat → Int) × (Nat → Int) × Unit)) → Option R) (x : ((Unit × Unit × Int × Unit × Unit × Int × Unit) × ((Nat → Int) × (Nat → Int) × (Nat → Int) × (Nat → Int) × Unit))) (κ0 : ((Unit × Unit × Int × Unit × Unit × Unit) × ((Nat → Int) × (Nat → Int) × (Nat → Int) × (Nat → Int) × Unit)) → Option R) : Option R :=
let i320 : Int := x.1.2.2.1
let i321 : Int := x.1.2.2.2.2.2.1
let a322 : (Nat → Int) := x.2.1
let a323 : (Nat → Int) := x.2.2.1
let a324 : (Nat → Int) := x.2.2.2.1
let a325 : (Nat → Int) := x.2.2.2.2.1
bif (decide (i321 < 4)) then (
let i326 : Int := mulA .i64 4 i321
let i327 : Int := remA .i64 i320 4
let i328 : Int := addA .i64 i326 i327
bif decide (0 ≤ i321) then (
bif decide (i321 < (4 : Int)) then (
let a329 : (Nat → Int) := (upd a324 ((Int.toNat i321)) i328)
bif (decide (i320 ≥ 4)) then (
let i330 : Int := mulA .i64 4 i321
let i331 : Int := addA .i64 i320 i321
let i332 : Int := remA .i64 i331 4
let i333 : Int := addA .i64 i330 i332
bif decide (0 ≤ i321) then (
bif decide (i321 < (4 : Int)) then (
let a334 : (Nat → Int) := (upd a329 ((Int.toNat i321)) i333)
bif decide (0 ≤ i321) then (
bif decide (i321 < (4 : Int)) then (
let i335 : Int := (a334 ((Int.toNat i321)))
bif decide (0 ≤ i335) then (
bif decide (i335 < (16 : Int)) then (
let i336 : Int := (a322 ((Int.toNat i335)))
bif decide (0 ≤ i321) then (
bif decide (i321 < (4 : Int)) then (
let a337 : (Nat → Int) := (upd a325 ((Int.toNat i321)) i336)
let i338 : Int := addA .i64 i321 1
rec (((), (), i320, (), (), i338, ()), (a322, a323, a334, a337, ()))) else none) else none) else none) else none) else none) else none) else none) else none) else (
bif decide (0 ≤ i321) then (
bif decide (i321 < (4 : Int)) then (
let i339 : Int := (a329 ((Int.toNat i321)))
bif decide (0 ≤ i339) then (
bif decide (i339 < (16 : Int)) then (
let i340 : Int := (a322 ((Int.toNat i339)))
bif decide (0 ≤ i321) then (
bif decide (i321 < (4 : Int)) then (
let a341 : (Nat → Int) := (upd a325 ((Int.toNat i321)) i340)
let i342 : Int := addA .i64 i321 1
rec (((), (), i320, (), (), i342, ()), (a322, a323, a329, a341, ()))) else none) else none) else none) else none) else none) else none)) else none) else none) else (
κ0 (((), (), i320, (), (), ()), (a322, a323, a324, a325, ())))
def C_41_15 {R : Type} (q_39 : ((Nat → Int) × Unit) × (Unit) → ((Nat → Int) → Option R) → Option R) (m_41_7 : ((Unit × Unit × Int × Unit × Unit × Int × Unit) × ((Nat → Int) × (Nat → Int) × (Nat → Int) × (Nat → Int) × Unit)) → (((Unit × Unit × Int × Unit × Unit × Unit) × ((Nat → Int) × (Nat → Int) × (Nat → Int) × (Nat → Int) × Unit)) → Option R) → Option R) (m_41_15 : ((Unit × Unit × Int × Unit × Unit × Int × Unit) × ((Nat → Int) × (Nat → Int) × (Nat → Int) × (Nat → Int) × Unit)) → (((Unit × Unit × Int × Unit) × ((Nat → Int) × (Nat → Int) × Unit)) → Option R) → Option R) (m_41_2 : ((Unit × Unit × Int × Unit) × ((Nat → Int) × (Nat → Int) × Unit)) → (((Unit × Unit × Unit) × ((Nat → Int) × (Nat → Int) × Unit)) → Option R) → Option R) (rec : ((Unit × Unit × Int × Unit × Unit × Int × Unit) × ((Nat → Int) × (Nat → Int) × (Nat → Int) × (Nat → Int) × Unit)) → Option R) (x : ((Unit × Unit × Int × Unit × Unit × Int × Unit) × ((Nat → Int) × (Nat → Int) × (Nat → Int) × (Nat → Int) × Unit))) (κ0 : ((Unit × Unit × Int × Unit) × ((Nat → Int) × (Nat → Int) × Unit)) → Option R) : Option R :=
let i351 : Int := x.1.2.2.1
let i352 : Int := x.1.2.2.2.2.2.1
let a353 : (Nat → Int) := x.2.1
let a354 : (Nat → Int) := x.2.2.1
let a355 : (Nat → Int) := x.2.2.2.1
let a356 : (Nat → Int) := x.2.2.2.2.1
bif (decide (i352 < 4)) then (
bif decide (0 ≤ i352) then (
bif decide (i352 < (4 : Int)) then (
let i357 : Int := (a355 ((Int.toNat i352)))
bif decide (0 ≤ i352) then (
bif decide (i352 < (4 : Int)) then (
let i358 : Int := (a356 ((Int.toNat i352)))
bif decide (0 ≤ i357) then (
bif decide (i357 < (16 : Int)) then (
let a359 : (Nat → Int) := (upd a353 ((Int.toNat i357)) i358)
let i360 : Int := addA .i64 i352 1
rec (((), (), i351, (), (), i360, ()), (a359, a354, a355, a356, ()))) else none) else none) else none) else none) else none) else none) else (
κ0 (((), (), i351, ()), (a353, a354, ())))
def C_41_2 {R : Type} (q_39 : ((Nat → Int) × Unit) × (Unit) → ((Nat → Int) → Option R) → Option R) (m_41_7 : ((Unit × Unit × Int × Unit × Unit × Int × Unit) × ((Nat → Int) × (Nat → Int) × (Nat → Int) × (Nat → Int) × Unit)) → (((Unit × Unit × Int × Unit × Unit × Unit) × ((Nat → Int) × (Nat → Int) × (Nat → Int) × (Nat → Int) × Unit)) → Option R) → Option R) (m_41_15 : ((Unit × Unit × Int × Unit × Unit × Int × Unit) × ((Nat → Int) × (Nat → Int) × (Nat → Int) × (Nat → Int) × Unit)) → (((Unit × Unit × Int × Unit) × ((Nat → Int) × (Nat → Int) × Unit)) → Option R) → Option R) (m_41_2 : ((Unit × Unit × Int × Unit) × ((Nat → Int) × (Nat → Int) × Unit)) → (((Unit × Unit × Unit) × ((Nat → Int) × (Nat → Int) × Unit)) → Option R) → Option R) (rec : ((Unit × Unit × Int × Unit) × ((Nat → Int) × (Nat → Int) × Unit)) → Option R) (x : ((Unit × Unit × Int × Unit) × ((Nat → Int) × (Nat → Int) × Unit))) (κ0 : ((Unit × Unit × Unit) × ((Nat → Int) × (Nat → Int) × Unit)) → Option R) : Option R :=
let i317 : Int := x.1.2.2.1
let a318 : (Nat → Int) := x.2.1
let a319 : (Nat → Int) := x.2.2.1
bif (decide (i317 < 8)) then (
m_41_7 (((), (), i317, (), (), 0, ()), (a318, a319, (Sch.zero (.arr 4 (.int .i64))), (Sch.zero (.arr 4 (.int .u64))), ())) (fun y343 =>
let i344 : Int := y343.1.2.2.1
let a345 : (Nat → Int) := y343.2.1
let a346 : (Nat → Int) := y343.2.2.1
let a347 : (Nat → Int) := y343.2.2.2.1
let a348 : (Nat → Int) := y343.2.2.2.2.1
q_39 ((a348, ()), ()) (fun y349 =>
let a350 : (Nat → Int) := y349
m_41_15 (((), (), i344, (), (), 0, ()), (a345, a346, a347, a350, ())) (fun y361 =>
let i362 : Int := y361.1.2.2.1
let a363 : (Nat → Int) := y361.2.1
let a364 : (Nat → Int) := y361.2.2.1
let i365 : Int := addA .i64 i362 1
rec (((), (), i365, ()), (a363, a364, ())))))) else (
κ0 (((), (), ()), (a318, a319, ())))
def EG_41 {R : Type} (q_39 : ((Nat → Int) × Unit) × (Unit) → ((Nat → Int) → Option R) → Option R) : Env R := (Env.base QQ LN).add 39 ap_39 hp_39 (fun (x : aden ap_39 × hden hp_39) k => q_39 x (fun y => k (Pat.inst (.vec (.int .u64) 4) y) (instH hp_39 x.2)))
def LG_41 {R : Type} (m_41_7 : ((Unit × Unit × Int × Unit × Unit × Int × Unit) × ((Nat → Int) × (Nat → Int) × (Nat → Int) × (Nat → Int) × Unit)) → (((Unit × Unit × Int × Unit × Unit × Unit) × ((Nat → Int) × (Nat → Int) × (Nat → Int) × (Nat → Int) × Unit)) → Option R) → Option R) (m_41_15 : ((Unit × Unit × Int × Unit × Unit × Int × Unit) × ((Nat → Int) × (Nat → Int) × (Nat → Int) × (Nat → Int) × Unit)) → (((Unit × Unit × Int × Unit) × ((Nat → Int) × (Nat → Int) × Unit)) → Option R) → Option R) (m_41_2 : ((Unit × Unit × Int × Unit) × ((Nat → Int) × (Nat → Int) × Unit)) → (((Unit × Unit × Unit) × ((Nat → Int) × (Nat → Int) × Unit)) → Option R) → Option R) : Loops R := (((Loops.none).add 7 (loopBy 0 lv_41_7 pt_41_7 (fun x k => m_41_7 x (fun y => k (.exit 2) (px_41_7_0.inst y))))).add 15 (loopBy 0 lv_41_15 pt_41_15 (fun x k => m_41_15 x (fun y => k (.exit 4) (px_41_15_0.inst y))))).add 2 (loopBy 0 lv_41_2 pt_41_2 (fun x k => m_41_2 x (fun y => k (.exit 0) (px_41_2_0.inst y))))
def E_41 {R : Type} (N : Nat) : Env R := EG_41 (p_39 N)
theorem eok_41 {R : Type} (N : Nat) : EK Try.prog (E_41 (R := R) N) := ek_add (ek_base _ _) (good_39 N)
def L_41 {R : Type} (N : Nat) : Loops R := LG_41 (l_41_7 N N) (l_41_15 N N) (l_41_2 N N)
theorem gstep_41_7 {R : Type} (q_39 : ((Nat → Int) × Unit) × (Unit) → ((Nat → Int) → Option R) → Option R) (m_41_7 : ((Unit × Unit × Int × Unit × Unit × Int × Unit) × ((Nat → Int) × (Nat → Int) × (Nat → Int) × (Nat → Int) × Unit)) → (((Unit × Unit × Int × Unit × Unit × Unit) × ((Nat → Int) × (Nat → Int) × (Nat → Int) × (Nat → Int) × Unit)) → Option R) → Option R) (m_41_15 : ((Unit × Unit × Int × Unit × Unit × Int × Unit) × ((Nat → Int) × (Nat → Int) × (Nat → Int) × (Nat → Int) × Unit)) → (((Unit × Unit × Int × Unit) × ((Nat → Int) × (Nat → Int) × Unit)) → Option R) → Option R) (m_41_2 : ((Unit × Unit × Int × Unit) × ((Nat → Int) × (Nat → Int) × Unit)) → (((Unit × Unit × Unit) × ((Nat → Int) × (Nat → Int) × Unit)) → Option R) → Option R) (n : Nat) (x : pt_41_7.den) (k : Exit → St → Option R) : iter 0 lv_41_7 lo_41_7 (aexec TT (EG_41 q_39) (drawOk TT QQ) (LG_41 m_41_7 m_41_15 m_41_2) (loopAt 7 (bodyOf Try.f41))) (n + 1) (pt_41_7.inst x) k = C_41_7 q_39 m_41_7 m_41_15 m_41_2 (fun y => iter 0 lv_41_7 lo_41_7 (aexec TT (EG_41 q_39) (drawOk TT QQ) (LG_41 m_41_7 m_41_15 m_41_2) (loopAt 7 (bodyOf Try.f41))) n (pt_41_7.inst y) k) x (fun y => k (.exit 2) (px_41_7_0.inst y)) := by kernel_rfl
theorem step_41_7 {R : Type} (N n : Nat) (x : pt_41_7.den) (k : Exit → St → Option R) : iter 0 lv_41_7 lo_41_7 (aexec TT (E_41 (R := R) N) (drawOk TT QQ) (L_41 N) (loopAt 7 (bodyOf Try.f41))) (n + 1) (pt_41_7.inst x) k = B_41_7 N (fun y => iter 0 lv_41_7 lo_41_7 (aexec TT (E_41 (R := R) N) (drawOk TT QQ) (L_41 N) (loopAt 7 (bodyOf Try.f41))) n (pt_41_7.inst y) k) x (fun y => k (.exit 2) (px_41_7_0.inst y)) := (gstep_41_7 (p_39 N) (l_41_7 N N) (l_41_15 N N) (l_41_2 N N) n x k).trans (by kernel_rfl)
theorem eq_41_7 {R : Type} (N : Nat) : ∀ (n : Nat) (x : pt_41_7.den) (k : Exit → St → Option R), iter 0 lv_41_7 lo_41_7 (aexec TT (E_41 (R := R) N) (drawOk TT QQ) (L_41 N) (loopAt 7 (bodyOf Try.f41))) n (pt_41_7.inst x) k = l_41_7 N n x (fun y => k (.exit 2) (px_41_7_0.inst y)) :=
  iter_eq (K := Exit → St → Option R) (ks := fun k => k) (l := fun n (x : pt_41_7.den) k => l_41_7 N n x (fun y => k (.exit 2) (px_41_7_0.inst y))) (B := fun (rec : pt_41_7.den → Option R) (x : pt_41_7.den) k => B_41_7 N rec x (fun y => k (.exit 2) (px_41_7_0.inst y))) (fun _ _ => rfl) (fun _ _ _ => rfl) (fun n x k => step_41_7 N n x k)
theorem rounds_41_7 {R : Type} (N : Nat) : Rounds 0 TT (E_41 (R := R) N) (drawOk TT QQ) (L_41 N) 7 (loopAt 7 (bodyOf Try.f41)) :=
  rounds_of (p := pt_41_7) (l := fun (x : pt_41_7.den) k => l_41_7 N N x (fun y => k (.exit 2) (px_41_7_0.inst y))) (fun s k => rfl) (fun x k => eq_41_7 N N x k)
theorem gstep_41_15 {R : Type} (q_39 : ((Nat → Int) × Unit) × (Unit) → ((Nat → Int) → Option R) → Option R) (m_41_7 : ((Unit × Unit × Int × Unit × Unit × Int × Unit) × ((Nat → Int) × (Nat → Int) × (Nat → Int) × (Nat → Int) × Unit)) → (((Unit × Unit × Int × Unit × Unit × Unit) × ((Nat → Int) × (Nat → Int) × (Nat → Int) × (Nat → Int) × Unit)) → Option R) → Option R) (m_41_15 : ((Unit × Unit × Int × Unit × Unit × Int × Unit) × ((Nat → Int) × (Nat → Int) × (Nat → Int) × (Nat → Int) × Unit)) → (((Unit × Unit × Int × Unit) × ((Nat → Int) × (Nat → Int) × Unit)) → Option R) → Option R) (m_41_2 : ((Unit × Unit × Int × Unit) × ((Nat → Int) × (Nat → Int) × Unit)) → (((Unit × Unit × Unit) × ((Nat → Int) × (Nat → Int) × Unit)) → Option R) → Option R) (n : Nat) (x : pt_41_15.den) (k : Exit → St → Option R) : iter 0 lv_41_15 lo_41_15 (aexec TT (EG_41 q_39) (drawOk TT QQ) (LG_41 m_41_7 m_41_15 m_41_2) (loopAt 15 (bodyOf Try.f41))) (n + 1) (pt_41_15.inst x) k = C_41_15 q_39 m_41_7 m_41_15 m_41_2 (fun y => iter 0 lv_41_15 lo_41_15 (aexec TT (EG_41 q_39) (drawOk TT QQ) (LG_41 m_41_7 m_41_15 m_41_2) (loopAt 15 (bodyOf Try.f41))) n (pt_41_15.inst y) k) x (fun y => k (.exit 4) (px_41_15_0.inst y)) := by kernel_rfl
theorem step_41_15 {R : Type} (N n : Nat) (x : pt_41_15.den) (k : Exit → St → Option R) : iter 0 lv_41_15 lo_41_15 (aexec TT (E_41 (R := R) N) (drawOk TT QQ) (L_41 N) (loopAt 15 (bodyOf Try.f41))) (n + 1) (pt_41_15.inst x) k = B_41_15 N (fun y => iter 0 lv_41_15 lo_41_15 (aexec TT (E_41 (R := R) N) (drawOk TT QQ) (L_41 N) (loopAt 15 (bodyOf Try.f41))) n (pt_41_15.inst y) k) x (fun y => k (.exit 4) (px_41_15_0.inst y)) := (gstep_41_15 (p_39 N) (l_41_7 N N) (l_41_15 N N) (l_41_2 N N) n x k).trans (by kernel_rfl)
theorem eq_41_15 {R : Type} (N : Nat) : ∀ (n : Nat) (x : pt_41_15.den) (k : Exit → St → Option R), iter 0 lv_41_15 lo_41_15 (aexec TT (E_41 (R := R) N) (drawOk TT QQ) (L_41 N) (loopAt 15 (bodyOf Try.f41))) n (pt_41_15.inst x) k = l_41_15 N n x (fun y => k (.exit 4) (px_41_15_0.inst y)) :=
  iter_eq (K := Exit → St → Option R) (ks := fun k => k) (l := fun n (x : pt_41_15.den) k => l_41_15 N n x (fun y => k (.exit 4) (px_41_15_0.inst y))) (B := fun (rec : pt_41_15.den → Option R) (x : pt_41_15.den) k => B_41_15 N rec x (fun y => k (.exit 4) (px_41_15_0.inst y))) (fun _ _ => rfl) (fun _ _ _ => rfl) (fun n x k => step_41_15 N n x k)
theorem rounds_41_15 {R : Type} (N : Nat) : Rounds 0 TT (E_41 (R := R) N) (drawOk TT QQ) (L_41 N) 15 (loopAt 15 (bodyOf Try.f41)) :=
  rounds_of (p := pt_41_15) (l := fun (x : pt_41_15.den) k => l_41_15 N N x (fun y => k (.exit 4) (px_41_15_0.inst y))) (fun s k => rfl) (fun x k => eq_41_15 N N x k)
theorem gstep_41_2 {R : Type} (q_39 : ((Nat → Int) × Unit) × (Unit) → ((Nat → Int) → Option R) → Option R) (m_41_7 : ((Unit × Unit × Int × Unit × Unit × Int × Unit) × ((Nat → Int) × (Nat → Int) × (Nat → Int) × (Nat → Int) × Unit)) → (((Unit × Unit × Int × Unit × Unit × Unit) × ((Nat → Int) × (Nat → Int) × (Nat → Int) × (Nat → Int) × Unit)) → Option R) → Option R) (m_41_15 : ((Unit × Unit × Int × Unit × Unit × Int × Unit) × ((Nat → Int) × (Nat → Int) × (Nat → Int) × (Nat → Int) × Unit)) → (((Unit × Unit × Int × Unit) × ((Nat → Int) × (Nat → Int) × Unit)) → Option R) → Option R) (m_41_2 : ((Unit × Unit × Int × Unit) × ((Nat → Int) × (Nat → Int) × Unit)) → (((Unit × Unit × Unit) × ((Nat → Int) × (Nat → Int) × Unit)) → Option R) → Option R) (n : Nat) (x : pt_41_2.den) (k : Exit → St → Option R) : iter 0 lv_41_2 lo_41_2 (aexec TT (EG_41 q_39) (drawOk TT QQ) (LG_41 m_41_7 m_41_15 m_41_2) (loopAt 2 (bodyOf Try.f41))) (n + 1) (pt_41_2.inst x) k = C_41_2 q_39 m_41_7 m_41_15 m_41_2 (fun y => iter 0 lv_41_2 lo_41_2 (aexec TT (EG_41 q_39) (drawOk TT QQ) (LG_41 m_41_7 m_41_15 m_41_2) (loopAt 2 (bodyOf Try.f41))) n (pt_41_2.inst y) k) x (fun y => k (.exit 0) (px_41_2_0.inst y)) := by kernel_rfl
theorem step_41_2 {R : Type} (N n : Nat) (x : pt_41_2.den) (k : Exit → St → Option R) : iter 0 lv_41_2 lo_41_2 (aexec TT (E_41 (R := R) N) (drawOk TT QQ) (L_41 N) (loopAt 2 (bodyOf Try.f41))) (n + 1) (pt_41_2.inst x) k = B_41_2 N (fun y => iter 0 lv_41_2 lo_41_2 (aexec TT (E_41 (R := R) N) (drawOk TT QQ) (L_41 N) (loopAt 2 (bodyOf Try.f41))) n (pt_41_2.inst y) k) x (fun y => k (.exit 0) (px_41_2_0.inst y)) := (gstep_41_2 (p_39 N) (l_41_7 N N) (l_41_15 N N) (l_41_2 N N) n x k).trans (by kernel_rfl)
theorem eq_41_2 {R : Type} (N : Nat) : ∀ (n : Nat) (x : pt_41_2.den) (k : Exit → St → Option R), iter 0 lv_41_2 lo_41_2 (aexec TT (E_41 (R := R) N) (drawOk TT QQ) (L_41 N) (loopAt 2 (bodyOf Try.f41))) n (pt_41_2.inst x) k = l_41_2 N n x (fun y => k (.exit 0) (px_41_2_0.inst y)) :=
  iter_eq (K := Exit → St → Option R) (ks := fun k => k) (l := fun n (x : pt_41_2.den) k => l_41_2 N n x (fun y => k (.exit 0) (px_41_2_0.inst y))) (B := fun (rec : pt_41_2.den → Option R) (x : pt_41_2.den) k => B_41_2 N rec x (fun y => k (.exit 0) (px_41_2_0.inst y))) (fun _ _ => rfl) (fun _ _ _ => rfl) (fun n x k => step_41_2 N n x k)
theorem rounds_41_2 {R : Type} (N : Nat) : Rounds 0 TT (E_41 (R := R) N) (drawOk TT QQ) (L_41 N) 2 (loopAt 2 (bodyOf Try.f41)) :=
  rounds_of (p := pt_41_2) (l := fun (x : pt_41_2.den) k => l_41_2 N N x (fun y => k (.exit 0) (px_41_2_0.inst y))) (fun s k => rfl) (fun x k => eq_41_2 N N x k)
theorem loops_41 : loopsIn (bodyOf Try.f41) = [(2, loopAt 2 (bodyOf Try.f41)), (7, loopAt 7 (bodyOf Try.f41)), (15, loopAt 15 (bodyOf Try.f41))] := by kernel_rfl
theorem lok_41 {R : Type} (N : Nat) : LOK 0 TT (E_41 (R := R) N) (drawOk TT QQ) (L_41 N) (bodyOf Try.f41) := loops_all loops_41 (by
  simp only [List.forall_mem_cons, List.not_mem_nil, false_implies, implies_true, and_true]
  exact ⟨rounds_41_2 N, rounds_41_7 N, rounds_41_15 N⟩)
theorem grun_41 {R : Type} (q_39 : ((Nat → Int) × Unit) × (Unit) → ((Nat → Int) → Option R) → Option R) (m_41_7 : ((Unit × Unit × Int × Unit × Unit × Int × Unit) × ((Nat → Int) × (Nat → Int) × (Nat → Int) × (Nat → Int) × Unit)) → (((Unit × Unit × Int × Unit × Unit × Unit) × ((Nat → Int) × (Nat → Int) × (Nat → Int) × (Nat → Int) × Unit)) → Option R) → Option R) (m_41_15 : ((Unit × Unit × Int × Unit × Unit × Int × Unit) × ((Nat → Int) × (Nat → Int) × (Nat → Int) × (Nat → Int) × Unit)) → (((Unit × Unit × Int × Unit) × ((Nat → Int) × (Nat → Int) × Unit)) → Option R) → Option R) (m_41_2 : ((Unit × Unit × Int × Unit) × ((Nat → Int) × (Nat → Int) × Unit)) → (((Unit × Unit × Unit) × ((Nat → Int) × (Nat → Int) × Unit)) → Option R) → Option R) (x : aden ap_41 × hden hp_41) (k : KF R) : fnrun TT (EG_41 q_39) (drawOk TT QQ) (LG_41 m_41_7 m_41_15 m_41_2) true Try.f41 (instA ap_41 x.1) (instH hp_41 x.2) k = Q_41 q_39 m_41_7 m_41_15 m_41_2 x (fun y => k (Pat.inst (.vec (.int .u64) 16) y) (instH hp_41 x.2)) := by kernel_rfl
theorem run_41 {R : Type} (N : Nat) (x : aden ap_41 × hden hp_41) (k : KF R) : fnrun TT (E_41 (R := R) N) (drawOk TT QQ) (L_41 N) true Try.f41 (instA ap_41 x.1) (instH hp_41 x.2) k = p_41 N x (fun y => k (Pat.inst (.vec (.int .u64) 16) y) (instH hp_41 x.2)) := (grun_41 (p_39 N) (l_41_7 N N) (l_41_15 N N) (l_41_2 N N) x k).trans (by kernel_rfl)
theorem good_41 {R : Type} (N : Nat) : GD (X := R) Try.prog QQ 41 ap_41 hp_41 (fun (x : aden ap_41 × hden hp_41) k => p_41 N x (fun y => k (Pat.inst (.vec (.int .u64) 16) y) (instH hp_41 x.2))) :=
  gd_quiet (E := E_41 N) (p := fun (x : aden ap_41 × hden hp_41) κ => p_41 N x (fun y => κ (Pat.inst (.vec (.int .u64) 16) y))) mixed tyok (eok_41 N) Try.func41 (by kernel_rfl) (by kernel_rfl) (lok_41 N) (fun x k => run_41 N x k)

def ap_8 : List Pat := [.vec (.int .u64) 16]
def hp_8 : List (Option (Pat × Nat)) := []
def p_8 {R : Type} (N : Nat) (x : ((Nat → Int) × Unit) × (Unit)) (κ0 : (Bool × (Unit)) → Option R) : Option R :=
let a1 : (Nat → Int) := x.1.1
p_37 N ((), ()) (fun y235 =>
let b236 : Bool := y235
bif (!b236) then (
κ0 (false, ())) else (
let i237 : Int := (a1 0)
let i238 : Int := (a1 1)
let i239 : Int := (a1 2)
let i240 : Int := (a1 3)
p_38 N ((i237, i238, i239, i240, ()), ()) (fun y241 =>
let i242 : Int := y241.1
let i243 : Int := y241.2.1
let i244 : Int := y241.2.2.1
let i245 : Int := y241.2.2.2.1
let a246 : (Nat → Int) := (upd ((upd ((upd ((upd ((Sch.zero (.arr 4 (.int .u64)))) 0 i242)) 1 i243)) 2 i244)) 3 i245)
let i247 : Int := (a1 0)
let i248 : Int := (a1 1)
let i249 : Int := (a1 2)
let i250 : Int := (a1 3)
let a251 : (Nat → Int) := (upd ((upd ((upd ((upd ((Sch.zero (.arr 4 (.int .u64)))) 0 i247)) 1 i248)) 2 i249)) 3 i250)
p_39 N ((a251, ()), ()) (fun y312 =>
let a313 : (Nat → Int) := y312
bif (schEq (.arr 4 (.int .u64)) a246 a313) then (
p_40 N ((a1, ()), ()) (fun y314 =>
let a315 : (Nat → Int) := y314
p_41 N ((a1, ()), ()) (fun y369 =>
let a370 : (Nat → Int) := y369
κ0 ((schEq (.arr 16 (.int .u64)) a315 a370), ())))) else (
κ0 (false, ()))))))

def Q_8 {R : Type} (q_37 : (Unit) × (Unit) → (Bool → Option R) → Option R) (q_38 : (Int × Int × Int × Int × Unit) × (Unit) → ((Int × (Int × (Int × (Int × Unit)))) → Option R) → Option R) (q_39 : ((Nat → Int) × Unit) × (Unit) → ((Nat → Int) → Option R) → Option R) (q_40 : ((Nat → Int) × Unit) × (Unit) → ((Nat → Int) → Option R) → Option R) (q_41 : ((Nat → Int) × Unit) × (Unit) → ((Nat → Int) → Option R) → Option R) (x : ((Nat → Int) × Unit) × (Unit)) (κ0 : (Bool × (Unit)) → Option R) : Option R :=
let a1 : (Nat → Int) := x.1.1
q_37 ((), ()) (fun y235 =>
let b236 : Bool := y235
bif (!b236) then (
κ0 (false, ())) else (
let i237 : Int := (a1 0)
let i238 : Int := (a1 1)
let i239 : Int := (a1 2)
let i240 : Int := (a1 3)
q_38 ((i237, i238, i239, i240, ()), ()) (fun y241 =>
let i242 : Int := y241.1
let i243 : Int := y241.2.1
let i244 : Int := y241.2.2.1
let i245 : Int := y241.2.2.2.1
let a246 : (Nat → Int) := (upd ((upd ((upd ((upd ((Sch.zero (.arr 4 (.int .u64)))) 0 i242)) 1 i243)) 2 i244)) 3 i245)
let i247 : Int := (a1 0)
let i248 : Int := (a1 1)
let i249 : Int := (a1 2)
let i250 : Int := (a1 3)
let a251 : (Nat → Int) := (upd ((upd ((upd ((upd ((Sch.zero (.arr 4 (.int .u64)))) 0 i247)) 1 i248)) 2 i249)) 3 i250)
q_39 ((a251, ()), ()) (fun y312 =>
let a313 : (Nat → Int) := y312
bif (schEq (.arr 4 (.int .u64)) a246 a313) then (
q_40 ((a1, ()), ()) (fun y314 =>
let a315 : (Nat → Int) := y314
q_41 ((a1, ()), ()) (fun y369 =>
let a370 : (Nat → Int) := y369
κ0 ((schEq (.arr 16 (.int .u64)) a315 a370), ())))) else (
κ0 (false, ()))))))
def EG_8 {R : Type} (q_37 : (Unit) × (Unit) → (Bool → Option R) → Option R) (q_38 : (Int × Int × Int × Int × Unit) × (Unit) → ((Int × (Int × (Int × (Int × Unit)))) → Option R) → Option R) (q_39 : ((Nat → Int) × Unit) × (Unit) → ((Nat → Int) → Option R) → Option R) (q_40 : ((Nat → Int) × Unit) × (Unit) → ((Nat → Int) → Option R) → Option R) (q_41 : ((Nat → Int) × Unit) × (Unit) → ((Nat → Int) → Option R) → Option R) : Env R := (((((Env.base QQ LN).add 37 ap_37 hp_37 (fun (x : aden ap_37 × hden hp_37) k => q_37 x (fun y => k (Pat.inst (.bool) y) (instH hp_37 x.2)))).add 38 ap_38 hp_38 (fun (x : aden ap_38 × hden hp_38) k => q_38 x (fun y => k (Pat.inst (.tup (.fcons (.int .u64) (.fcons (.int .u64) (.fcons (.int .u64) (.fcons (.int .u64) (.fnil)))))) y) (instH hp_38 x.2)))).add 39 ap_39 hp_39 (fun (x : aden ap_39 × hden hp_39) k => q_39 x (fun y => k (Pat.inst (.vec (.int .u64) 4) y) (instH hp_39 x.2)))).add 40 ap_40 hp_40 (fun (x : aden ap_40 × hden hp_40) k => q_40 x (fun y => k (Pat.inst (.vec (.int .u64) 16) y) (instH hp_40 x.2)))).add 41 ap_41 hp_41 (fun (x : aden ap_41 × hden hp_41) k => q_41 x (fun y => k (Pat.inst (.vec (.int .u64) 16) y) (instH hp_41 x.2)))
def LG_8 {R : Type} : Loops R := Loops.none
def E_8 {R : Type} (N : Nat) : Env R := EG_8 (p_37 N) (p_38 N) (p_39 N) (p_40 N) (p_41 N)
theorem eok_8 {R : Type} (N : Nat) : EK Try.prog (E_8 (R := R) N) := ek_add (ek_add (ek_add (ek_add (ek_add (ek_base _ _) (good_37 N)) (good_38 N)) (good_39 N)) (good_40 N)) (good_41 N)
def L_8 {R : Type} (N : Nat) : Loops R := LG_8
theorem lok_8 {R : Type} (N : Nat) : LOK 0 TT (E_8 (R := R) N) (drawOk TT QQ) (L_8 N) (bodyOf Try.f8) := loops_nil (by kernel_rfl)
theorem grun_8 {R : Type} (q_37 : (Unit) × (Unit) → (Bool → Option R) → Option R) (q_38 : (Int × Int × Int × Int × Unit) × (Unit) → ((Int × (Int × (Int × (Int × Unit)))) → Option R) → Option R) (q_39 : ((Nat → Int) × Unit) × (Unit) → ((Nat → Int) → Option R) → Option R) (q_40 : ((Nat → Int) × Unit) × (Unit) → ((Nat → Int) → Option R) → Option R) (q_41 : ((Nat → Int) × Unit) × (Unit) → ((Nat → Int) → Option R) → Option R) (x : aden ap_8 × hden hp_8) (k : KF R) : fnrun TT (EG_8 q_37 q_38 q_39 q_40 q_41) (drawOk TT QQ) (LG_8) true Try.f8 (instA ap_8 x.1) (instH hp_8 x.2) k = Q_8 q_37 q_38 q_39 q_40 q_41 x (fun y => k (Pat.inst (.bool) y.1) (instH [] y.2)) := by kernel_rfl
theorem run_8 {R : Type} (N : Nat) (x : aden ap_8 × hden hp_8) (k : KF R) : fnrun TT (E_8 (R := R) N) (drawOk TT QQ) (L_8 N) true Try.f8 (instA ap_8 x.1) (instH hp_8 x.2) k = p_8 N x (fun y => k (Pat.inst (.bool) y.1) (instH [] y.2)) := (grun_8 (p_37 N) (p_38 N) (p_39 N) (p_40 N) (p_41 N) x k).trans (by kernel_rfl)
theorem good_8 {R : Type} (N : Nat) : GD (X := R) Try.prog QQ 8 ap_8 hp_8 (fun (x : aden ap_8 × hden hp_8) k => p_8 N x (fun y => k (Pat.inst (.bool) y.1) (instH [] y.2))) :=
  gd_loud (E := E_8 N) (p := fun (x : aden ap_8 × hden hp_8) k => p_8 N x (fun y => k (Pat.inst (.bool) y.1) (instH [] y.2))) mixed tyok (eok_8 N) Try.func8 (by kernel_rfl) (by kernel_rfl) (by kernel_rfl) (lok_8 N) (fun x k => run_8 N x k)


/-! ### blocks put together -/
def W (x : Int) : Prop := 0 ≤ x ∧ x < 18446744073709551616
theorem W_wrap (x : Int) : W (IntKind.wrap .u64 x) := by rw [wrapU64]; unfold W; omega
theorem W_xor (a b : Int) : W (xorA .u64 a b) := W_wrap _
theorem W_or (a b : Int) : W (orA .u64 a b) := W_wrap _
theorem W_add (a b : Int) : W (addA .u64 a b) := W_wrap _
theorem W_zero : W 0 := by unfold W; omega
theorem xor_comm (a b : Int) : xorA .u64 a b = xorA .u64 b a := by unfold xorA; rw [BitVec.xor_comm]
theorem xor_assoc (a b c : Int) (ha : W a) (hb : W b) (hc : W c) : xorA .u64 (xorA .u64 a b) c = xorA .u64 a (xorA .u64 b c) := by
  have key : ∀ x : BitVec 64, BitVec.ofInt 64 (IntKind.wrap .u64 (x.toNat : Int)) = x := by
    intro x
    rw [wrapU64]
    apply BitVec.eq_of_toNat_eq
    rw [BitVec.toNat_ofInt]
    have := x.isLt
    omega
  unfold xorA
  show IntKind.wrap .u64 (((BitVec.ofInt 64 (IntKind.wrap .u64 ((BitVec.ofInt 64 a ^^^ BitVec.ofInt 64 b).toNat : Int))) ^^^ BitVec.ofInt 64 c).toNat : Int) = IntKind.wrap .u64 ((BitVec.ofInt 64 a ^^^ BitVec.ofInt 64 (IntKind.wrap .u64 ((BitVec.ofInt 64 b ^^^ BitVec.ofInt 64 c).toNat : Int))).toNat : Int)
  rw [key, key, BitVec.xor_assoc]
theorem xor_self (a : Int) : xorA .u64 a a = 0 := by
  unfold xorA
  rw [BitVec.xor_self]
  rfl
theorem zero_xor {a : Int} (h : W a) : xorA .u64 0 a = a := by
  unfold xorA
  rw [wrapU64, BitVec.toNat_xor]
  have q1 : (BitVec.ofInt IntKind.u64.bits a).toNat = a.toNat := by
    show (BitVec.ofInt 64 a).toNat = a.toNat
    rw [BitVec.toNat_ofInt]; have := h.1; have := h.2; omega
  have q2 : (BitVec.ofInt IntKind.u64.bits 0).toNat = 0 := by decide
  rw [q1, q2, Nat.zero_xor]
  have := h.1
  have := h.2
  omega
theorem upd_same {α : Type} (f : Nat → α) (i : Nat) (x : α) : upd f i x i = x := by simp [upd]
theorem upd_other {α : Type} (f : Nat → α) {i j : Nat} (x : α) (h : j ≠ i) : upd f i x j = f j := by
  show (bif Nat.beq j i then x else f j) = f j
  cases hq : Nat.beq j i with
  | false => rfl
  | true => exact absurd (Nat.eq_of_beq_eq_true hq) h
theorem upd_if {α : Type} (f : Nat → α) (i j : Nat) (x : α) : upd f i x j = if j = i then x else f j := by
  by_cases h : j = i
  · subst h; rw [upd_same, if_pos rfl]
  · rw [upd_other f x h, if_neg h]
abbrev Bl := Nat → Int
def nulB : Bl := fun _ => 0
/-- The words from k on, put together. -/
def xorFrom (k : Nat) (o b : Bl) : Bl := fun j => if k ≤ j ∧ j < 128 then xorA .u64 (o j) (b j) else o j
def xorL (l : List Bl) : Bl := l.foldl (xorFrom 0) nulB
theorem l94i {R : Type} (N : Nat) (l : List Bl) (u v : Int) (b z : Bl) (κ) : ∀ (n m k : Nat) (o : Bl), k + m = 128 → m < n →
    l_94_6 (R := R) N n (((), (), l, u, v, b, (k : Int), ()), (z, o, ())) κ = κ (((), (), l, u, v, ()), (z, xorFrom k o b, ()))
  | 0, m, k, o, h1, h2 => by omega
  | n + 1, m, k, o, h1, h2 => by
    unfold l_94_6 B_94_6
    try dsimp only
    by_cases hk : k < 128
    · have e3 : addA .i64 (k : Int) 1 = ((k + 1 : Nat) : Int) := by rw [add64 (by omega) (by omega)]; simp
      rw [bif_t (dT (show (k : Int) < 128 by omega)), bif_t (dT (show (0 : Int) ≤ (k : Int) by omega)), bif_t (dT (show (k : Int) < 128 by omega)), bif_t (dT (show (0 : Int) ≤ (k : Int) by omega)), bif_t (dT (show (k : Int) < 128 by omega)), bif_t (dT (show (0 : Int) ≤ (k : Int) by omega)), bif_t (dT (show (k : Int) < 128 by omega)), e3, Int.toNat_natCast]
      rw [l94i N l u v b z κ n (m - 1) (k + 1) _ (by omega) (by omega)]
      congr 4
      funext j
      unfold xorFrom
      by_cases hj : j = k
      · subst hj; rw [if_neg (by omega), if_pos ⟨by omega, hk⟩, upd_same]
      · rw [upd_other _ _ hj]
        by_cases h3 : k + 1 ≤ j ∧ j < 128
        · rw [if_pos h3, if_pos ⟨by omega, h3.2⟩]
        · rw [if_neg h3, if_neg (by omega)]
    · rw [bif_f (dF (show ¬ (k : Int) < 128 by omega))]
      have e : xorFrom k o b = o := by funext j; unfold xorFrom; rw [if_neg (by omega)]
      rw [e]
theorem l94o {R : Type} (N : Nat) (hN : 1000 < N) (l : List Bl) (hl : l.length ≤ 1000) (z : Bl) (κ) : ∀ (n i : Nat) (o : Bl), i ≤ l.length → l.length - i < n →
    l_94_3 (R := R) N n (((), (), l, (l.length : Int), (i : Int), ()), (z, o, ())) κ = κ (((), (), ()), (z, (l.drop i).foldl (xorFrom 0) o, ()))
  | 0, i, o, h1, h2 => by omega
  | n + 1, i, o, h1, h2 => by
    unfold l_94_3 B_94_3
    try dsimp only
    by_cases hi : i < l.length
    · have hd : l.drop i = l[i] :: l.drop (i + 1) := List.drop_eq_getElem_cons hi
      have hg : List.getD l i (Sch.zero (.arr 128 (.int .u64))) = l[i] := by simp [hi]
      have e3 : addA .i64 (i : Int) 1 = ((i + 1 : Nat) : Int) := by rw [add64 (by omega) (by omega)]; simp
      rw [bif_t (dT (show (i : Int) < (l.length : Int) by omega)), bif_t (dT (show (0 : Int) ≤ (i : Int) by omega)), bif_t (dT (show (i : Int) < (l.length : Int) by omega)), Int.toNat_natCast, hg, hd]
      refine (l94i N l (l.length : Int) (i : Int) l[i] z _ N 128 0 o (by omega) (by omega)).trans ?_
      try dsimp only
      rw [e3]
      exact l94o N hN l hl z κ n (i + 1) _ (by omega) (by omega)
    · rw [bif_f (dF (by omega)), List.drop_eq_nil_of_le (by omega)]
      rfl
theorem p94 {R : Type} (N : Nat) (hN : 1000 < N) (l : List Bl) (hl : l.length ≤ 1000) (κ) : p_94 (R := R) N ((l, ()), ()) κ = κ (xorL l) := by
  unfold p_94
  try dsimp only
  refine (l94o N hN l hl _ _ N 0 _ (by omega) (by omega)).trans ?_
  rfl
def WB (b : Bl) : Prop := ∀ j, j < 128 → W (b j)
def OutB (b : Bl) : Prop := ∀ j, 128 ≤ j → b j = 0
theorem foldl_out : ∀ (l : List Bl) (o : Bl), OutB o → OutB (l.foldl (xorFrom 0) o)
  | [], o, h => h
  | b :: l, o, h => foldl_out l _ fun j hj => by unfold xorFrom; rw [if_neg (by omega)]; exact h j hj
theorem foldl_W : ∀ (l : List Bl) (o : Bl), (∀ j, W (o j)) → ∀ j, W (l.foldl (xorFrom 0) o j)
  | [], o, h => h
  | b :: l, o, h => foldl_W l _ fun j => by unfold xorFrom; split; exact W_xor _ _; exact h j
theorem xorL_W (l : List Bl) (j : Nat) : W (xorL l j) := foldl_W l nulB (fun _ => W_zero) j
theorem xorL_out (l : List Bl) : OutB (xorL l) := foldl_out l nulB (fun _ _ => rfl)
theorem xorL_two (x y : Bl) (j : Nat) : xorL [x, y] j = if j < 128 then xorA .u64 (xorA .u64 0 (x j)) (y j) else 0 := by
  simp only [xorL, List.foldl_cons, List.foldl_nil, xorFrom, nulB]
  by_cases h : j < 128 <;> simp [h]
theorem xorL_one (x : Bl) (h1 : ∀ j, W (x j)) (h2 : OutB x) : xorL [x] = x := by
  funext j
  simp only [xorL, List.foldl_cons, List.foldl_nil, xorFrom, nulB]
  by_cases h : j < 128
  · simp [h, zero_xor (h1 j)]
  · simp [h, h2 j (by omega)]
theorem xorL_comm (x y : Bl) (hx : WB x) (hy : WB y) : xorL [x, y] = xorL [y, x] := by
  funext j
  rw [xorL_two, xorL_two]
  by_cases h : j < 128
  · rw [if_pos h, if_pos h, zero_xor (hx j h), zero_xor (hy j h), xor_comm]
  · rw [if_neg h, if_neg h]
theorem xorL_same (x : Bl) (hx : WB x) : xorL [x, x] = nulB := by
  funext j
  rw [xorL_two]
  by_cases h : j < 128
  · rw [if_pos h, zero_xor (hx j h), xor_self]; rfl
  · rw [if_neg h]; rfl
theorem schEq128 {x y : Bl} (h : ∀ j, j < 128 → x j = y j) : schEq (.arr 128 (.int .u64)) x y = true := by
  show (List.range 128).all (fun i => x i == y i) = true
  rw [List.all_eq_true]
  intro j hj
  rw [List.mem_range] at hj
  rw [h j hj]
  exact beq_self_eq_true _
theorem zero128 : (Sch.zero (.arr 128 (.int .u64)) : Nat → Int) = nulB := rfl

/-! ### four words mixed -/
def prodF (a b : Int) : Int := addA .u64 (addA .u64 a b) (mulA .u64 (mulA .u64 2 (IntKind.wrap .u64 (IntKind.wrap .u32 a))) (IntKind.wrap .u64 (IntKind.wrap .u32 b)))
def rotF (x n : Int) : Int := orA .u64 (shrA .u64 x n) (shlA .u64 x (64 - n))
abbrev Q4 := Int × (Int × (Int × (Int × Unit)))
def qF (a b c d : Int) : Q4 :=
  let a1 := prodF a b
  let d1 := rotF (xorA .u64 d a1) 32
  let c1 := prodF c d1
  let b1 := rotF (xorA .u64 b c1) 24
  let a2 := prodF a1 b1
  let d2 := rotF (xorA .u64 d1 a2) 16
  let c2 := prodF c1 d2
  let b2 := rotF (xorA .u64 b1 c2) 63
  (a2, (b2, (c2, (d2, ()))))
theorem p38 {R : Type} (N : Nat) (a b c d : Int) (κ) : p_38 (R := R) N ((a, b, c, d, ()), ()) κ = κ (qF a b c d) := by kernel_rfl
def stF (v : Bl) (i j k l : Nat) : Bl :=
  let q := qF (v i) (v j) (v k) (v l)
  upd (upd (upd (upd v i q.1) j q.2.1) k q.2.2.1) l q.2.2.2.1
def permF (v : Bl) : Bl := stF (stF (stF (stF (stF (stF (stF (stF v 0 4 8 12) 1 5 9 13) 2 6 10 14) 3 7 11 15) 0 5 10 15) 1 6 11 12) 2 7 8 13) 3 4 9 14
theorem p40 {R : Type} (N : Nat) (hN : N = 1001) (v : Bl) (κ) : p_40 (R := R) N ((v, ()), ()) κ = κ (permF v) := by subst hN; kernel_rfl
theorem qF_W (a b c d : Int) : W (qF a b c d).1 ∧ W (qF a b c d).2.1 ∧ W (qF a b c d).2.2.1 ∧ W (qF a b c d).2.2.2.1 := ⟨W_add _ _, W_or _ _, W_add _ _, W_or _ _⟩
theorem upd_W {v : Bl} (h : ∀ j, W (v j)) (i : Nat) {x : Int} (hx : W x) : ∀ j, W (upd v i x j) := fun j => by rw [upd_if]; split; exact hx; exact h j
theorem stF_W {v : Bl} (h : ∀ j, W (v j)) (i j k l : Nat) : ∀ m, W (stF v i j k l m) := by
  obtain ⟨q1, q2, q3, q4⟩ := qF_W (v i) (v j) (v k) (v l)
  exact upd_W (upd_W (upd_W (upd_W h i q1) j q2) k q3) l q4
theorem permF_W {v : Bl} (h : ∀ j, W (v j)) : ∀ m, W (permF v m) :=
  stF_W (stF_W (stF_W (stF_W (stF_W (stF_W (stF_W (stF_W h _ _ _ _) _ _ _ _) _ _ _ _) _ _ _ _) _ _ _ _) _ _ _ _) _ _ _ _) _ _ _ _

/-! ### rows and columns -/
def gath (at_ b : Bl) : Nat → Nat → Bl → Bl
  | 0, _, v => v
  | n + 1, k, v => gath at_ b n (k + 1) (upd v k (b (at_ k).toNat))
def scat (at_ w : Bl) : Nat → Nat → Bl → Bl
  | 0, _, b => b
  | n + 1, k, b => scat at_ w n (k + 1) (upd b (at_ k).toNat (w k))
def chainA (f : Nat → Int) : Nat → Bl
  | 0 => nulB
  | n + 1 => upd (chainA f n) n (f n)
theorem chainA_get (f : Nat → Int) : ∀ (n k : Nat), k < n → chainA f n k = f k
  | n + 1, k, h => by
    show upd (chainA f n) n (f n) k = f k
    rw [upd_if]
    split
    · subst k; rfl
    · exact chainA_get f n k (by omega)
def atRow (i : Int) : Bl := chainA (fun k => addA .i64 (mulA .i64 16 i) (k : Int)) 16
def atCol (i : Int) : Bl := chainA (fun k => addA .i64 (addA .i64 (mulA .i64 2 i) (remA .i64 (k : Int) 2)) (mulA .i64 16 (quoA .i64 (k : Int) 2))) 16
def at_ (c : Bool) (i : Int) : Bl := bif c then atCol i else atRow i
theorem atRow_get {i : Int} (hi : 0 ≤ i ∧ i < 8) {k : Nat} (hk : k < 16) : atRow i k = 16 * i + k := by
  unfold atRow
  rw [chainA_get _ _ _ hk, mul64 (by omega) (by omega), add64 (by omega) (by omega)]
theorem atCol_get {i : Int} (hi : 0 ≤ i ∧ i < 8) {k : Nat} (hk : k < 16) : atCol i k = 2 * i + ((k % 2 : Nat) : Int) + 16 * ((k / 2 : Nat) : Int) := by
  unfold atCol
  rw [chainA_get _ _ _ hk, mul64 (a := 2) (by omega) (by omega), rem64 (by omega), quo64 (by omega) (by omega) (by omega), add64 (a := 2 * i) (by omega) (by omega), mul64 (a := 16) (by omega) (by omega), add64 (by omega) (by omega)]
  omega
theorem at_in (c : Bool) {i : Int} (hi : 0 ≤ i ∧ i < 8) {k : Nat} (hk : k < 16) : 0 ≤ at_ c i k ∧ at_ c i k < 128 := by
  cases c with
  | false => show 0 ≤ atRow i k ∧ atRow i k < 128; rw [atRow_get hi hk]; omega
  | true => show 0 ≤ atCol i k ∧ atCol i k < 128; rw [atCol_get hi hk]; omega
theorem p95 {R : Type} (N : Nat) (hN : N = 1001) (i : Int) (c : Bool) (κ) : p_95 (R := R) N ((i, c, ()), ()) κ = κ (at_ c i) := by
  subst hN
  cases c with
  | false => kernel_rfl
  | true => kernel_rfl
section
variable {R : Type} (N : Nat)
theorem l44g (b : Bool) (u v w : Int) (at_ : Bl) (hat : ∀ k, k < 16 → 0 ≤ at_ k ∧ at_ k < 128) (a a2 a3 : Bl) (l : List Bool) (κ) : ∀ (n m k : Nat) (o : Bl), k + m = 16 → m < n →
    l_44_10 (R := R) N n (((), (), b, (), (), (), u, v, w, at_, (k : Int), ()), (a, a2, a3, o, l, ())) κ = κ (((), (), b, (), (), (), u, v, w, ()), (a, a2, a3, gath at_ a m k o, l, ()))
  | 0, m, k, o, h1, h2 => by omega
  | n + 1, m, k, o, h1, h2 => by
    unfold l_44_10 B_44_10
    try dsimp only
    cases m with
    | zero => rw [bif_f (dF (show ¬ (k : Int) < 16 by omega))]; rfl
    | succ m =>
      have hk : k < 16 := by omega
      obtain ⟨g1, g2⟩ := hat k hk
      have e3 : addA .i64 (k : Int) 1 = ((k + 1 : Nat) : Int) := by rw [add64 (by omega) (by omega)]; simp
      rw [bif_t (dT (show (k : Int) < 16 by omega)), bif_t (dT (show (0 : Int) ≤ (k : Int) by omega)), bif_t (dT (show (k : Int) < 16 by omega)), Int.toNat_natCast, bif_t (dT g1), bif_t (dT g2), bif_t (dT (show (0 : Int) ≤ (k : Int) by omega)), bif_t (dT (show (k : Int) < 16 by omega)), e3]
      exact l44g b u v w at_ hat a a2 a3 l κ n m (k + 1) _ (by omega) (by omega)
theorem l44s (b : Bool) (u v w : Int) (at_ : Bl) (hat : ∀ k, k < 16 → 0 ≤ at_ k ∧ at_ k < 128) (a2 x : Bl) (l : List Bool) (κ) : ∀ (n m k : Nat) (a : Bl), k + m = 16 → m < n →
    l_44_16 (R := R) N n (((), (), b, (), (), u, v, w, at_, (k : Int), ()), (a, a2, x, l, ())) κ = κ (((), (), b, (), u, v, w, ()), (scat at_ x m k a, a2, l, ()))
  | 0, m, k, a, h1, h2 => by omega
  | n + 1, m, k, a, h1, h2 => by
    unfold l_44_16 B_44_16
    try dsimp only
    cases m with
    | zero => rw [bif_f (dF (show ¬ (k : Int) < 16 by omega))]; rfl
    | succ m =>
      have hk : k < 16 := by omega
      obtain ⟨g1, g2⟩ := hat k hk
      have e3 : addA .i64 (k : Int) 1 = ((k + 1 : Nat) : Int) := by rw [add64 (by omega) (by omega)]; simp
      rw [bif_t (dT (show (k : Int) < 16 by omega)), bif_t (dT (show (0 : Int) ≤ (k : Int) by omega)), bif_t (dT (show (k : Int) < 16 by omega)), Int.toNat_natCast, bif_t (dT (show (0 : Int) ≤ (k : Int) by omega)), bif_t (dT (show (k : Int) < 16 by omega)), bif_t (dT g1), bif_t (dT g2), e3]
      exact l44s b u v w at_ hat a2 x l κ n m (k + 1) _ (by omega) (by omega)
end
def wStep (c : Bool) (i : Int) (a : Bl) : Bl := scat (at_ c i) (permF (gath (at_ c i) a 16 0 nulB)) 16 0 a
def wRun (c : Bool) : Nat → Nat → Bl → Bl
  | 0, _, a => a
  | n + 1, i, a => wRun c n (i + 1) (wStep c (i : Int) a)
def wholeF (a : Bl) : Bl := wRun true 8 0 (wRun false 8 0 a)
theorem l44i {R : Type} (N : Nat) (hN : N = 1001) (c : Bool) (u v : Int) (a2 : Bl) (l : List Bool) (κ) : ∀ (n m i : Nat) (a : Bl), i + m = 8 → m < n →
    l_44_5 (R := R) N n (((), (), c, (), u, v, (i : Int), ()), (a, a2, l, ())) κ = κ (((), (), (), u, v, ()), (wRun c m i a, a2, l, ()))
  | 0, m, i, a, h1, h2 => by omega
  | n + 1, m, i, a, h1, h2 => by
    unfold l_44_5 B_44_5
    try dsimp only
    cases m with
    | zero => rw [bif_f (dF (show ¬ (i : Int) < 8 by omega))]; rfl
    | succ m =>
      have hi : (0 : Int) ≤ (i : Int) ∧ (i : Int) < 8 := by omega
      have e3 : addA .i64 (i : Int) 1 = ((i + 1 : Nat) : Int) := by rw [add64 (by omega) (by omega)]; simp
      rw [bif_t (dT (show (i : Int) < 8 by omega)), p95 N hN]
      refine (l44g N c u v (i : Int) (at_ c i) (fun k hk => at_in c hi hk) a a2 _ l _ N 16 0 _ (by omega) (by omega)).trans ?_
      try dsimp only
      rw [p40 N hN]
      refine (l44s N c u v (i : Int) (at_ c i) (fun k hk => at_in c hi hk) a2 _ l _ N 16 0 a (by omega) (by omega)).trans ?_
      try dsimp only
      rw [e3]
      exact l44i N hN c u v a2 l κ n m (i + 1) _ (by omega) (by omega)
theorem p44 {R : Type} (N : Nat) (hN : N = 1001) (a : Bl) (κ) : p_44 (R := R) N ((a, ()), ()) κ = κ (wholeF a) := by
  unfold p_44
  try dsimp only
  have step : ∀ (n : Nat) (c : Bool) (i : Nat) (a a2 : Bl) (κ), i < 2 → [false, true].getD i false = c →
      l_44_2 (R := R) N (n + 1) (((), (), (), 2, (i : Int), ()), (a, a2, [false, true], ())) κ = l_44_2 N n (((), (), (), 2, ((i + 1 : Nat) : Int), ()), (wRun c 8 0 a, a2, [false, true], ())) κ := by
    intro n c i a a2 κ hi hc
    conv => lhs; unfold l_44_2 B_44_2
    dsimp only [List.length_cons, List.length_nil]
    rw [bif_t (dT (by omega)), bif_t (dT (by omega)), bif_t (dT (by show (i : Int) < ((0 + 1 + 1 : Nat) : Int); omega)), Int.toNat_natCast]
    show l_44_5 N N (((), (), [false, true].getD i false, (), 2, (i : Int), ((0 : Nat) : Int), ()), (a, a2, [false, true], ())) _ = _
    rw [hc]
    refine (l44i N hN c 2 (i : Int) a2 [false, true] _ N 8 0 a (by omega) (by omega)).trans ?_
    try dsimp only
    rw [show addA .i64 (i : Int) 1 = ((i + 1 : Nat) : Int) by rw [add64 (by omega) (by omega)]; simp]
  obtain ⟨n, rfl⟩ : ∃ n, N = n + 3 := ⟨N - 3, by omega⟩
  refine (step (n + 2) false 0 a _ _ (by omega) rfl).trans ?_
  refine (step (n + 1) true 1 _ _ _ (by omega) rfl).trans ?_
  rfl
def mixF (x y : Bl) : Bl := xorL [xorL [x, y], wholeF (xorL [x, y])]
theorem p43 {R : Type} (N : Nat) (hN : N = 1001) (x y : Bl) (κ) : p_43 (R := R) N ((x, y, ()), ()) κ = κ (mixF x y) := by
  unfold p_43
  try dsimp only
  rw [p94 N (by omega) [x, y] (by simp)]
  try dsimp only
  rw [p44 N hN]
  try dsimp only
  rw [p94 N (by omega) _ (by simp)]
  rfl
theorem mixF_W (x y : Bl) (j : Nat) : W (mixF x y j) := xorL_W _ j
theorem mixF_out (x y : Bl) : OutB (mixF x y) := xorL_out _
theorem mixF_comm (x y : Bl) (hx : WB x) (hy : WB y) : mixF x y = mixF y x := by unfold mixF; rw [xorL_comm x y hx hy]
/-- A block without a word mixed with itself. -/
theorem whole_zero : wholeF nulB = nulB := by
  have p0 : prodF 0 0 = 0 := by decide
  have r0 : ∀ n : Int, 0 ≤ n → rotF 0 n = 0 := by
    intro n hn
    unfold rotF
    have e1 : shrA .u64 0 n = 0 := by unfold shrA; simp
    have e2 : shlA .u64 0 (64 - n) = 0 := by unfold shlA; simp; rfl
    rw [e1, e2]; rfl
  have x0 : xorA .u64 0 0 = 0 := by decide
  have q0 : qF 0 0 0 0 = (0, (0, (0, (0, ())))) := by
    unfold qF
    simp only [p0, x0, r0 32 (by omega), r0 24 (by omega), r0 16 (by omega), r0 63 (by omega)]
  have u0 : ∀ i, upd nulB i 0 = nulB := fun i => by funext j; rw [upd_if]; split <;> rfl
  have s0 : ∀ i j k l, stF nulB i j k l = nulB := by
    intro i j k l
    unfold stF
    show (let q := qF 0 0 0 0; upd (upd (upd (upd nulB i q.1) j q.2.1) k q.2.2.1) l q.2.2.2.1) = nulB
    simp only [q0, u0]
  have pm : permF nulB = nulB := by unfold permF; simp only [s0]
  have g0 : ∀ (at_ : Bl) (n k : Nat), gath at_ nulB n k nulB = nulB := by
    intro at_ n
    induction n with
    | zero => intro k; rfl
    | succ n ih => intro k; show gath at_ nulB n (k + 1) (upd nulB k 0) = nulB; rw [u0]; exact ih (k + 1)
  have c0 : ∀ (at_ : Bl) (n k : Nat), scat at_ nulB n k nulB = nulB := by
    intro at_ n
    induction n with
    | zero => intro k; rfl
    | succ n ih => intro k; show scat at_ nulB n (k + 1) (upd nulB _ 0) = nulB; rw [u0]; exact ih (k + 1)
  have w0 : ∀ c i, wStep c i nulB = nulB := fun c i => by unfold wStep; rw [g0, pm, c0]
  have t0 : ∀ (c : Bool) (n i : Nat), wRun c n i nulB = nulB := by
    intro c n
    induction n with
    | zero => intro i; rfl
    | succ n ih => intro i; show wRun c n (i + 1) (wStep c _ nulB) = nulB; rw [w0]; exact ih (i + 1)
  unfold wholeF
  rw [t0, t0]
theorem mixF_same (x : Bl) (hx : WB x) : mixF x x = nulB := by
  unfold mixF
  rw [xorL_same x hx, whole_zero, xorL_same nulB (fun _ _ => W_zero)]
theorem p37 {R : Type} (N : Nat) (hN : N = 1001) (κ) : p_37 (R := R) N ((), ()) κ = κ true := by subst hN; kernel_rfl

/-! ### the document's -/
def prodR (a b : Int) : Int := addA .u64 (addA .u64 a b) (mulA .u64 (mulA .u64 2 (remA .u64 a 4294967296)) (remA .u64 b 4294967296))
def roundR (x lo hi : Int) : Int := addA .u64 (quoA .u64 x lo) (mulA .u64 (remA .u64 x lo) hi)
theorem prod_eq {a b : Int} (ha : W a) (hb : W b) : prodR a b = prodF a b := by
  unfold prodR prodF remA W at *
  rw [Int.tmod_eq_emod_of_nonneg ha.1, Int.tmod_eq_emod_of_nonneg hb.1, wrapU32, wrapU32, wrapU64 (a % 4294967296), wrapU64 (b % 4294967296), Int.emod_eq_of_lt (by omega) (by omega : a % 4294967296 < 18446744073709551616), Int.emod_eq_of_lt (by omega) (by omega : b % 4294967296 < 18446744073709551616)]
theorem or_disj {a b : Nat} {n : Nat} (ha : a < 2 ^ n) : a ||| (b * 2 ^ n) = b * 2 ^ n + a := by
  rw [Nat.or_comm, Nat.mul_comm b, Nat.two_pow_add_eq_or_of_lt ha]
theorem nat_mod {B : Nat} (h : B < 2 ^ 64) : ((B : Nat) : Int) % 18446744073709551616 = B := by omega
/-- A word turned to the right by n places, n + m = 64. -/
theorem rot_eq {x : Int} (hx : W x) (n m : Nat) (hnm : n + m = 64) (hn : 0 < n) (hm : 0 < m) : roundR x (2 ^ n) (2 ^ m) = rotF x n := by
  obtain ⟨h1, h2⟩ := hx
  obtain ⟨y, rfl⟩ := Int.eq_ofNat_of_zero_le h1
  have hy : y < 2 ^ 64 := by omega
  unfold roundR rotF quoA remA
  have pn : ((2 : Int) ^ n) = ((2 ^ n : Nat) : Int) := by simp
  have pm : ((2 : Int) ^ m) = ((2 ^ m : Nat) : Int) := by simp
  have e64 : 2 ^ n * 2 ^ m = 2 ^ 64 := by rw [← Nat.pow_add, hnm]
  have d1 : y / 2 ^ n < 2 ^ m := by rw [Nat.div_lt_iff_lt_mul (Nat.two_pow_pos n), Nat.mul_comm, e64]; exact hy
  have m1 : y % 2 ^ n < 2 ^ n := Nat.mod_lt _ (Nat.two_pow_pos n)
  have p1 : y % 2 ^ n * 2 ^ m + y / 2 ^ n < 2 ^ 64 := by
    have : (y % 2 ^ n + 1) * 2 ^ m ≤ 2 ^ n * 2 ^ m := Nat.mul_le_mul_right _ m1
    rw [Nat.add_mul, e64] at this
    omega
  have p2 : y % 2 ^ n * 2 ^ m < 2 ^ 64 := Nat.lt_of_le_of_lt (Nat.le_add_right _ _) p1
  have p3 : y / 2 ^ n < 2 ^ 64 := Nat.lt_of_le_of_lt (Nat.le_add_left _ _) p1
  rw [pn, pm, Int.tdiv_eq_ediv_of_nonneg (by omega), Int.tmod_eq_emod_of_nonneg (by omega)]
  have e1 : ((y : Int) / ((2 ^ n : Nat) : Int)) = ((y / 2 ^ n : Nat) : Int) := by simp
  have e2 : ((y : Int) % ((2 ^ n : Nat) : Int)) = ((y % 2 ^ n : Nat) : Int) := by simp
  rw [e1, e2]
  have w1 : IntKind.wrap .u64 ((y / 2 ^ n : Nat) : Int) = ((y / 2 ^ n : Nat) : Int) := by rw [wrapU64, nat_mod p3]
  have q1 : mulA .u64 ((y % 2 ^ n : Nat) : Int) ((2 ^ m : Nat) : Int) = ((y % 2 ^ n * 2 ^ m : Nat) : Int) := by
    unfold mulA
    rw [wrapU64, ← Int.natCast_mul, nat_mod p2]
  rw [w1, q1]
  have l1 : addA .u64 ((y / 2 ^ n : Nat) : Int) ((y % 2 ^ n * 2 ^ m : Nat) : Int) = ((y % 2 ^ n * 2 ^ m + y / 2 ^ n : Nat) : Int) := by
    unfold addA
    rw [wrapU64, ← Int.natCast_add, Nat.add_comm, nat_mod p1]
  rw [l1]
  have s1 : shrA .u64 (y : Int) (n : Int) = ((y / 2 ^ n : Nat) : Int) := by
    rw [shrU64 (by omega) (by omega), pn, e1]
  have s2 : shlA .u64 (y : Int) (64 - (n : Int)) = ((y % 2 ^ n * 2 ^ m : Nat) : Int) := by
    unfold shlA
    have : (64 - (n : Int)).toNat = m := by omega
    rw [this, show min m IntKind.u64.bits = m from Nat.min_eq_left (by show m ≤ 64; omega), pm, wrapU64, ← Int.natCast_mul]
    have : y * 2 ^ m % 2 ^ 64 = y % 2 ^ n * 2 ^ m := by
      rw [← e64, Nat.mul_mod_mul_right]
    rw [← this]
    omega
  rw [s1, s2]
  unfold orA
  rw [wrapU64, BitVec.toNat_or]
  have b1 : (BitVec.ofInt IntKind.u64.bits ((y / 2 ^ n : Nat) : Int)).toNat = y / 2 ^ n := by
    show (BitVec.ofInt 64 _).toNat = _
    rw [BitVec.toNat_ofInt]; show (((y / 2 ^ n : Nat) : Int) % 18446744073709551616).toNat = _; rw [nat_mod p3]; rfl
  have b2 : (BitVec.ofInt IntKind.u64.bits ((y % 2 ^ n * 2 ^ m : Nat) : Int)).toNat = y % 2 ^ n * 2 ^ m := by
    show (BitVec.ofInt 64 _).toNat = _
    rw [BitVec.toNat_ofInt]; show (((y % 2 ^ n * 2 ^ m : Nat) : Int) % 18446744073709551616).toNat = _; rw [nat_mod p2]; rfl
  rw [b1, b2, or_disj d1, nat_mod p1]
theorem W_rot (x n : Int) : W (rotF x n) := W_or _ _
theorem W_prod (a b : Int) : W (prodF a b) := W_add _ _
/-- The array of four words, mixed in place. -/
def qR (q : Bl) : Bl :=
  let q1 := upd q 0 (prodR (q 0) (q 1))
  let q2 := upd q1 3 (roundR (xorA .u64 (q1 3) (q1 0)) 4294967296 4294967296)
  let q3 := upd q2 2 (prodR (q2 2) (q2 3))
  let q4 := upd q3 1 (roundR (xorA .u64 (q3 1) (q3 2)) 16777216 1099511627776)
  let q5 := upd q4 0 (prodR (q4 0) (q4 1))
  let q6 := upd q5 3 (roundR (xorA .u64 (q5 3) (q5 0)) 65536 281474976710656)
  let q7 := upd q6 2 (prodR (q6 2) (q6 3))
  upd q7 1 (roundR (xorA .u64 (q7 1) (q7 2)) 9223372036854775808 2)
theorem p39 {R : Type} (N : Nat) (hN : N = 1001) (q : Bl) (κ) : p_39 (R := R) N ((q, ()), ()) κ = κ (qR q) := by subst hN; kernel_rfl
theorem qR_eq (q : Bl) (h0 : W (q 0)) (h1 : W (q 1)) (h2 : W (q 2)) (h3 : W (q 3)) :
    qR q 0 = (qF (q 0) (q 1) (q 2) (q 3)).1 ∧ qR q 1 = (qF (q 0) (q 1) (q 2) (q 3)).2.1 ∧ qR q 2 = (qF (q 0) (q 1) (q 2) (q 3)).2.2.1 ∧ qR q 3 = (qF (q 0) (q 1) (q 2) (q 3)).2.2.2.1 := by
  have r1 : ∀ {x}, W x → roundR x 4294967296 4294967296 = rotF x 32 := fun h => rot_eq h 32 32 rfl (by omega) (by omega)
  have r2 : ∀ {x}, W x → roundR x 16777216 1099511627776 = rotF x 24 := fun h => rot_eq h 24 40 rfl (by omega) (by omega)
  have r3 : ∀ {x}, W x → roundR x 65536 281474976710656 = rotF x 16 := fun h => rot_eq h 16 48 rfl (by omega) (by omega)
  have r4 : ∀ {x}, W x → roundR x 9223372036854775808 2 = rotF x 63 := fun h => rot_eq h 63 1 rfl (by omega) (by omega)
  unfold qR qF
  simp only [upd_if]
  simp only [reduceIte, show ¬ (1 : Nat) = 0 by omega, show ¬ (2 : Nat) = 0 by omega, show ¬ (3 : Nat) = 0 by omega, show ¬ (0 : Nat) = 1 by omega, show ¬ (2 : Nat) = 1 by omega, show ¬ (3 : Nat) = 1 by omega, show ¬ (0 : Nat) = 2 by omega, show ¬ (1 : Nat) = 2 by omega, show ¬ (3 : Nat) = 2 by omega, show ¬ (0 : Nat) = 3 by omega, show ¬ (1 : Nat) = 3 by omega, show ¬ (2 : Nat) = 3 by omega, if_false]
  simp only [r1 (W_xor _ _), r2 (W_xor _ _), r3 (W_xor _ _), r4 (W_xor _ _), prod_eq h0 h1, prod_eq h2 (W_rot _ _), prod_eq (W_prod _ _) (W_rot _ _), and_self]
def stR (v : Bl) (i j k l : Nat) : Bl :=
  let q := qR (upd (upd (upd (upd nulB 0 (v i)) 1 (v j)) 2 (v k)) 3 (v l))
  upd (upd (upd (upd v i (q 0)) j (q 1)) k (q 2)) l (q 3)
def permR (v : Bl) : Bl := stR (stR (stR (stR (stR (stR (stR (stR v 0 4 8 12) 1 5 9 13) 2 6 10 14) 3 7 11 15) 0 5 10 15) 1 6 11 12) 2 7 8 13) 3 4 9 14
theorem p41 {R : Type} (N : Nat) (hN : N = 1001) (v : Bl) (κ) : p_41 (R := R) N ((v, ()), ()) κ = κ (permR v) := by subst hN; kernel_rfl
theorem stR_eq {v : Bl} (h : ∀ j, W (v j)) (i j k l : Nat) : stR v i j k l = stF v i j k l := by
  unfold stR stF
  generalize hq : upd (upd (upd (upd nulB 0 (v i)) 1 (v j)) 2 (v k)) 3 (v l) = q
  have e0 : q 0 = v i := by subst hq; simp [upd_if]
  have e1 : q 1 = v j := by subst hq; simp [upd_if]
  have e2 : q 2 = v k := by subst hq; simp [upd_if]
  have e3 : q 3 = v l := by subst hq; simp [upd_if]
  obtain ⟨g0, g1, g2, g3⟩ := qR_eq q (e0 ▸ h i) (e1 ▸ h j) (e2 ▸ h k) (e3 ▸ h l)
  rw [e0, e1, e2, e3] at g0 g1 g2 g3
  simp only [g0, g1, g2, g3]
theorem permR_eq {v : Bl} (h : ∀ j, W (v j)) : permR v = permF v := by
  unfold permR permF
  have h1 := stF_W h 0 4 8 12
  have h2 := stF_W h1 1 5 9 13
  have h3 := stF_W h2 2 6 10 14
  have h4 := stF_W h3 3 7 11 15
  have h5 := stF_W h4 0 5 10 15
  have h6 := stF_W h5 1 6 11 12
  have h7 := stF_W h6 2 7 8 13
  rw [stR_eq h, stR_eq h1, stR_eq h2, stR_eq h3, stR_eq h4, stR_eq h5, stR_eq h6, stR_eq h7]
theorem W_ext {v : Bl} (h : ∀ j, j < 16 → W (v j)) : ∀ j, W ((fun j => if j < 16 then v j else 0) j) := fun j => by
  show W (if j < 16 then v j else 0)
  split
  · exact h j (by omega)
  · exact W_zero

/-- The sixteen words alone decide. -/
theorem stF_cong {v w : Bl} (h : ∀ j, j < 16 → v j = w j) {i j k l : Nat} (hi : i < 16) (hj : j < 16) (hk : k < 16) (hl : l < 16) : ∀ m, m < 16 → stF v i j k l m = stF w i j k l m := by
  intro m hm
  unfold stF
  rw [h i hi, h j hj, h k hk, h l hl]
  simp only [upd_if]
  rw [h m hm]
theorem permF_cong {v w : Bl} (h : ∀ j, j < 16 → v j = w j) : ∀ m, m < 16 → permF v m = permF w m := by
  unfold permF
  refine stF_cong ?_ (by omega) (by omega) (by omega) (by omega)
  refine stF_cong ?_ (by omega) (by omega) (by omega) (by omega)
  refine stF_cong ?_ (by omega) (by omega) (by omega) (by omega)
  refine stF_cong ?_ (by omega) (by omega) (by omega) (by omega)
  refine stF_cong ?_ (by omega) (by omega) (by omega) (by omega)
  refine stF_cong ?_ (by omega) (by omega) (by omega) (by omega)
  refine stF_cong ?_ (by omega) (by omega) (by omega) (by omega)
  exact stF_cong h (by omega) (by omega) (by omega) (by omega)
theorem stR_cong {v w : Bl} (h : ∀ j, j < 16 → v j = w j) {i j k l : Nat} (hi : i < 16) (hj : j < 16) (hk : k < 16) (hl : l < 16) : ∀ m, m < 16 → stR v i j k l m = stR w i j k l m := by
  intro m hm
  unfold stR
  rw [h i hi, h j hj, h k hk, h l hl]
  simp only [upd_if]
  rw [h m hm]
theorem permR_cong {v w : Bl} (h : ∀ j, j < 16 → v j = w j) : ∀ m, m < 16 → permR v m = permR w m := by
  unfold permR
  refine stR_cong ?_ (by omega) (by omega) (by omega) (by omega)
  refine stR_cong ?_ (by omega) (by omega) (by omega) (by omega)
  refine stR_cong ?_ (by omega) (by omega) (by omega) (by omega)
  refine stR_cong ?_ (by omega) (by omega) (by omega) (by omega)
  refine stR_cong ?_ (by omega) (by omega) (by omega) (by omega)
  refine stR_cong ?_ (by omega) (by omega) (by omega) (by omega)
  refine stR_cong ?_ (by omega) (by omega) (by omega) (by omega)
  exact stR_cong h (by omega) (by omega) (by omega) (by omega)
theorem schEqArr {n : Nat} {x y : Bl} (h : ∀ j, j < n → x j = y j) : schEq (.arr n (.int .u64)) x y = true := by
  show (List.range n).all (fun i => x i == y i) = true
  rw [List.all_eq_true]
  intro j hj
  rw [List.mem_range] at hj
  rw [h j hj]
  exact beq_self_eq_true _
theorem p8 (N : Nat) (hN : N = 1001) (v : Bl) (hv : ∀ j, j < 16 → W (v j)) (κ) : p_8 (R := AV) N ((v, ()), ()) κ = κ (true, ()) := by
  unfold p_8
  try dsimp only
  rw [p37 N hN]
  simp only [Bool.not_true, cond_false]
  rw [p38]
  try dsimp only
  rw [p39 N hN]
  try dsimp only
  have hq : ∀ j, j < 4 → upd (upd (upd (upd (Sch.zero (.arr 4 (.int .u64)) : Bl) 0 (qF (v 0) (v 1) (v 2) (v 3)).1) 1 (qF (v 0) (v 1) (v 2) (v 3)).2.1) 2 (qF (v 0) (v 1) (v 2) (v 3)).2.2.1) 3 (qF (v 0) (v 1) (v 2) (v 3)).2.2.2.1 j =
      qR (upd (upd (upd (upd (Sch.zero (.arr 4 (.int .u64)) : Bl) 0 (v 0)) 1 (v 1)) 2 (v 2)) 3 (v 3)) j := by
    intro j hj
    generalize hQ : upd (upd (upd (upd (Sch.zero (.arr 4 (.int .u64)) : Bl) 0 (v 0)) 1 (v 1)) 2 (v 2)) 3 (v 3) = Q
    have e0 : Q 0 = v 0 := by subst hQ; simp [upd_if]
    have e1 : Q 1 = v 1 := by subst hQ; simp [upd_if]
    have e2 : Q 2 = v 2 := by subst hQ; simp [upd_if]
    have e3 : Q 3 = v 3 := by subst hQ; simp [upd_if]
    obtain ⟨g0, g1, g2, g3⟩ := qR_eq Q (e0 ▸ hv 0 (by omega)) (e1 ▸ hv 1 (by omega)) (e2 ▸ hv 2 (by omega)) (e3 ▸ hv 3 (by omega))
    rw [e0, e1, e2, e3] at g0 g1 g2 g3
    have hc : j = 0 ∨ j = 1 ∨ j = 2 ∨ j = 3 := by omega
    rcases hc with rfl | rfl | rfl | rfl <;> simp [upd_if, g0, g1, g2, g3]
  rw [schEqArr hq, bif_t rfl, p40 N hN]
  try dsimp only
  rw [p41 N hN]
  try dsimp only
  have he : ∀ j, j < 16 → permF v j = permR v j := by
    intro j hj
    have ext : ∀ j, j < 16 → v j = (fun j => if j < 16 then v j else 0) j := fun j hj => (if_pos hj).symm
    rw [permF_cong ext j hj, permR_cong ext j hj, permR_eq (W_ext hv)]
  rw [schEqArr he]
theorem law_all (y0 : Bl) (wf0 : WF (.arr 16 (.int .u64)) y0) :
    ∃ H', ACalls Try.prog 8 [toAV (.arr 16 (.int .u64)) y0] [] (.bool true) H' :=
  gd_law (good_8 1001) (x := (y0, ())) (p8 1001 rfl y0 (fun j hj => wf_u64 (wf0 j hj)) _)
end Go.Proofs.Ytjehpceomlnicaa.Eng
