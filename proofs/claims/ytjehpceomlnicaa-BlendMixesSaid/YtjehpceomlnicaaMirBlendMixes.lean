/-
Plain functions that the functions of the program are shown to come to, printed by a program of the prover; each with its proof.
Conditions: none.
-/
import Derived.Test.YtjehpceomlnicaaProg
import Derived.Test.YtjehpceomlnicaaEngY
import Derived.KernelRfl
set_option linter.unusedVariables false
set_option linter.unusedSimpArgs false
namespace Go.Proofs.Ytjehpceomlnicaa.Eng
def TT : Types := [(70, ⟨.arr 128 61, 128, 1024, .vec (.int .u64) 128 (Sch.zero (.arr 128 (.int .u64))), some (.arr 128 (.int .u64)), true⟩),
  (71, ⟨.slice 70, 1, 24, .nils, some (.sl (.arr 128 (.int .u64))), false⟩),
  (4, ⟨.bool, 1, 1, .bool false, some (.bool), false⟩),
  (61, ⟨.int .u64, 1, 8, .int .u64 0, some (.int .u64), false⟩),
  (31, ⟨.int .u32, 1, 4, .int .u32 0, some (.int .u32), false⟩),
  (3, ⟨.int .i64, 1, 8, .int .i64 0, some (.int .i64), false⟩),
  (139, ⟨.int .u64, 1, 8, .int .u64 0, some (.int .u64), false⟩),
  (54, ⟨.slice 4, 1, 24, .nils, some (.sl (.bool)), false⟩),
  (153, ⟨.arr 16 3, 16, 128, .vec (.int .i64) 16 (Sch.zero (.arr 16 (.int .i64))), some (.arr 16 (.int .i64)), true⟩),
  (62, ⟨.arr 16 61, 16, 128, .vec (.int .u64) 16 (Sch.zero (.arr 16 (.int .u64))), some (.arr 16 (.int .u64)), true⟩),
  (150, ⟨.arr 8 104, 32, 256, .vec (.arr 4 (.int .i64)) 8 (Sch.zero (.arr 8 (.arr 4 (.int .i64)))), some (.arr 8 (.arr 4 (.int .i64))), true⟩),
  (104, ⟨.arr 4 3, 4, 32, .vec (.int .i64) 4 (Sch.zero (.arr 4 (.int .i64))), some (.arr 4 (.int .i64)), true⟩),
  (65, ⟨.arr 4 61, 4, 32, .vec (.int .u64) 4 (Sch.zero (.arr 4 (.int .u64))), some (.arr 4 (.int .u64)), true⟩)]
theorem tyok : TyOk Try.prog TT := TyOk.of (by kernel_rfl)
theorem mixed : Try.prog.follows .mixedOrders = true := by kernel_rfl
def QQ : FuncId → Bool := fun f => memN [37, 38, 39, 40, 41, 42, 43, 44, 45, 46, 47, 89, 90, 91, 92, 93, 94, 95] f
def LN : FuncId → Bool := fun f => memN [47, 94] f
def ap_89 : List Pat := [.int .u64, .int .u64]
def hp_89 : List (Option (Pat × Nat)) := []
def p_89 {R : Type} (N : Nat) (x : (Int × Int × Unit) × (Unit)) (κ0 : Int → Option R) : Option R :=
let i9 : Int := x.1.1
let i10 : Int := x.1.2.1
let i11 : Int := addA .u64 i9 i10
let i12 : Int := IntKind.wrap .u32 i9
let i13 : Int := IntKind.wrap .u64 i12
let i14 : Int := mulA .u64 2 i13
let i15 : Int := IntKind.wrap .u32 i10
let i16 : Int := IntKind.wrap .u64 i15
let i17 : Int := mulA .u64 i14 i16
let i18 : Int := addA .u64 i11 i17
κ0 i18

def Q_89 {R : Type} (x : (Int × Int × Unit) × (Unit)) (κ0 : Int → Option R) : Option R :=
let i9 : Int := x.1.1
let i10 : Int := x.1.2.1
let i11 : Int := addA .u64 i9 i10
let i12 : Int := IntKind.wrap .u32 i9
let i13 : Int := IntKind.wrap .u64 i12
let i14 : Int := mulA .u64 2 i13
let i15 : Int := IntKind.wrap .u32 i10
let i16 : Int := IntKind.wrap .u64 i15
let i17 : Int := mulA .u64 i14 i16
let i18 : Int := addA .u64 i11 i17
κ0 i18
def EG_89 {R : Type} : Env R := Env.base QQ LN
def LG_89 {R : Type} : Loops R := Loops.none
def E_89 {R : Type} (N : Nat) : Env R := EG_89
theorem eok_89 {R : Type} (N : Nat) : EK Try.prog (E_89 (R := R) N) := ek_base _ _
def L_89 {R : Type} (N : Nat) : Loops R := LG_89
theorem lok_89 {R : Type} (N : Nat) : LOK 0 TT (E_89 (R := R) N) (drawOk TT QQ) (L_89 N) (bodyOf Try.f89) := loops_nil (by kernel_rfl)
theorem grun_89 {R : Type} (x : aden ap_89 × hden hp_89) (k : KF R) : fnrun TT (EG_89) (drawOk TT QQ) (LG_89) true Try.f89 (instA ap_89 x.1) (instH hp_89 x.2) k = Q_89 x (fun y => k (Pat.inst (.int .u64) y) (instH hp_89 x.2)) := by kernel_rfl
theorem run_89 {R : Type} (N : Nat) (x : aden ap_89 × hden hp_89) (k : KF R) : fnrun TT (E_89 (R := R) N) (drawOk TT QQ) (L_89 N) true Try.f89 (instA ap_89 x.1) (instH hp_89 x.2) k = p_89 N x (fun y => k (Pat.inst (.int .u64) y) (instH hp_89 x.2)) := (grun_89 x k).trans (by kernel_rfl)
theorem good_89 {R : Type} (N : Nat) : GD (X := R) Try.prog QQ 89 ap_89 hp_89 (fun (x : aden ap_89 × hden hp_89) k => p_89 N x (fun y => k (Pat.inst (.int .u64) y) (instH hp_89 x.2))) :=
  gd_quiet (E := E_89 N) (p := fun (x : aden ap_89 × hden hp_89) κ => p_89 N x (fun y => κ (Pat.inst (.int .u64) y))) mixed tyok (eok_89 N) Try.func89 (by kernel_rfl) (by kernel_rfl) (lok_89 N) (fun x k => run_89 N x k)

def ap_90 : List Pat := [.int .u64, .int .i64]
def hp_90 : List (Option (Pat × Nat)) := []
def p_90 {R : Type} (N : Nat) (x : (Int × Int × Unit) × (Unit)) (κ0 : Int → Option R) : Option R :=
let i22 : Int := x.1.1
let i23 : Int := x.1.2.1
let i24 : Int := IntKind.wrap .u64 i23
let i25 : Int := remA .u64 i24 64
bif decide (i25 < 0) then none else (
let i26 : Int := shrA .u64 i22 i25
let i27 : Int := subA .u64 64 i25
bif decide (i27 < 0) then none else (
let i28 : Int := shlA .u64 i22 i27
let i29 : Int := orA .u64 i26 i28
κ0 i29))

def Q_90 {R : Type} (x : (Int × Int × Unit) × (Unit)) (κ0 : Int → Option R) : Option R :=
let i22 : Int := x.1.1
let i23 : Int := x.1.2.1
let i24 : Int := IntKind.wrap .u64 i23
let i25 : Int := remA .u64 i24 64
bif decide (i25 < 0) then none else (
let i26 : Int := shrA .u64 i22 i25
let i27 : Int := subA .u64 64 i25
bif decide (i27 < 0) then none else (
let i28 : Int := shlA .u64 i22 i27
let i29 : Int := orA .u64 i26 i28
κ0 i29))
def EG_90 {R : Type} : Env R := Env.base QQ LN
def LG_90 {R : Type} : Loops R := Loops.none
def E_90 {R : Type} (N : Nat) : Env R := EG_90
theorem eok_90 {R : Type} (N : Nat) : EK Try.prog (E_90 (R := R) N) := ek_base _ _
def L_90 {R : Type} (N : Nat) : Loops R := LG_90
theorem lok_90 {R : Type} (N : Nat) : LOK 0 TT (E_90 (R := R) N) (drawOk TT QQ) (L_90 N) (bodyOf Try.f90) := loops_nil (by kernel_rfl)
theorem grun_90 {R : Type} (x : aden ap_90 × hden hp_90) (k : KF R) : fnrun TT (EG_90) (drawOk TT QQ) (LG_90) true Try.f90 (instA ap_90 x.1) (instH hp_90 x.2) k = Q_90 x (fun y => k (Pat.inst (.int .u64) y) (instH hp_90 x.2)) := by kernel_rfl
theorem run_90 {R : Type} (N : Nat) (x : aden ap_90 × hden hp_90) (k : KF R) : fnrun TT (E_90 (R := R) N) (drawOk TT QQ) (L_90 N) true Try.f90 (instA ap_90 x.1) (instH hp_90 x.2) k = p_90 N x (fun y => k (Pat.inst (.int .u64) y) (instH hp_90 x.2)) := (grun_90 x k).trans (by kernel_rfl)
theorem good_90 {R : Type} (N : Nat) : GD (X := R) Try.prog QQ 90 ap_90 hp_90 (fun (x : aden ap_90 × hden hp_90) k => p_90 N x (fun y => k (Pat.inst (.int .u64) y) (instH hp_90 x.2))) :=
  gd_quiet (E := E_90 N) (p := fun (x : aden ap_90 × hden hp_90) κ => p_90 N x (fun y => κ (Pat.inst (.int .u64) y))) mixed tyok (eok_90 N) Try.func90 (by kernel_rfl) (by kernel_rfl) (lok_90 N) (fun x k => run_90 N x k)

def ap_38 : List Pat := [.int .u64, .int .u64, .int .u64, .int .u64]
def hp_38 : List (Option (Pat × Nat)) := []
def p_38 {R : Type} (N : Nat) (x : (Int × Int × Int × Int × Unit) × (Unit)) (κ0 : (Int × (Int × (Int × (Int × Unit)))) → Option R) : Option R :=
let i5 : Int := x.1.1
let i6 : Int := x.1.2.1
let i7 : Int := x.1.2.2.1
let i8 : Int := x.1.2.2.2.1
p_89 N ((i5, i6, ()), ()) (fun y19 =>
let i20 : Int := y19
let i21 : Int := xorA .u64 i8 i20
p_90 N ((i21, 32, ()), ()) (fun y30 =>
let i31 : Int := y30
p_89 N ((i7, i31, ()), ()) (fun y32 =>
let i33 : Int := y32
let i34 : Int := xorA .u64 i6 i33
p_90 N ((i34, 24, ()), ()) (fun y35 =>
let i36 : Int := y35
p_89 N ((i20, i36, ()), ()) (fun y37 =>
let i38 : Int := y37
let i39 : Int := xorA .u64 i31 i38
p_90 N ((i39, 16, ()), ()) (fun y40 =>
let i41 : Int := y40
p_89 N ((i33, i41, ()), ()) (fun y42 =>
let i43 : Int := y42
let i44 : Int := xorA .u64 i36 i43
p_90 N ((i44, 63, ()), ()) (fun y45 =>
let i46 : Int := y45
κ0 ((i38, (i46, (i43, (i41, ())))))))))))))

def Q_38 {R : Type} (q_89 : (Int × Int × Unit) × (Unit) → (Int → Option R) → Option R) (q_90 : (Int × Int × Unit) × (Unit) → (Int → Option R) → Option R) (x : (Int × Int × Int × Int × Unit) × (Unit)) (κ0 : (Int × (Int × (Int × (Int × Unit)))) → Option R) : Option R :=
let i5 : Int := x.1.1
let i6 : Int := x.1.2.1
let i7 : Int := x.1.2.2.1
let i8 : Int := x.1.2.2.2.1
q_89 ((i5, i6, ()), ()) (fun y19 =>
let i20 : Int := y19
let i21 : Int := xorA .u64 i8 i20
q_90 ((i21, 32, ()), ()) (fun y30 =>
let i31 : Int := y30
q_89 ((i7, i31, ()), ()) (fun y32 =>
let i33 : Int := y32
let i34 : Int := xorA .u64 i6 i33
q_90 ((i34, 24, ()), ()) (fun y35 =>
let i36 : Int := y35
q_89 ((i20, i36, ()), ()) (fun y37 =>
let i38 : Int := y37
let i39 : Int := xorA .u64 i31 i38
q_90 ((i39, 16, ()), ()) (fun y40 =>
let i41 : Int := y40
q_89 ((i33, i41, ()), ()) (fun y42 =>
let i43 : Int := y42
let i44 : Int := xorA .u64 i36 i43
q_90 ((i44, 63, ()), ()) (fun y45 =>
let i46 : Int := y45
κ0 ((i38, (i46, (i43, (i41, ())))))))))))))
def EG_38 {R : Type} (q_89 : (Int × Int × Unit) × (Unit) → (Int → Option R) → Option R) (q_90 : (Int × Int × Unit) × (Unit) → (Int → Option R) → Option R) : Env R := ((Env.base QQ LN).add 89 ap_89 hp_89 (fun (x : aden ap_89 × hden hp_89) k => q_89 x (fun y => k (Pat.inst (.int .u64) y) (instH hp_89 x.2)))).add 90 ap_90 hp_90 (fun (x : aden ap_90 × hden hp_90) k => q_90 x (fun y => k (Pat.inst (.int .u64) y) (instH hp_90 x.2)))
def LG_38 {R : Type} : Loops R := Loops.none
def E_38 {R : Type} (N : Nat) : Env R := EG_38 (p_89 N) (p_90 N)
theorem eok_38 {R : Type} (N : Nat) : EK Try.prog (E_38 (R := R) N) := ek_add (ek_add (ek_base _ _) (good_89 N)) (good_90 N)
def L_38 {R : Type} (N : Nat) : Loops R := LG_38
theorem lok_38 {R : Type} (N : Nat) : LOK 0 TT (E_38 (R := R) N) (drawOk TT QQ) (L_38 N) (bodyOf Try.f38) := loops_nil (by kernel_rfl)
theorem grun_38 {R : Type} (q_89 : (Int × Int × Unit) × (Unit) → (Int → Option R) → Option R) (q_90 : (Int × Int × Unit) × (Unit) → (Int → Option R) → Option R) (x : aden ap_38 × hden hp_38) (k : KF R) : fnrun TT (EG_38 q_89 q_90) (drawOk TT QQ) (LG_38) true Try.f38 (instA ap_38 x.1) (instH hp_38 x.2) k = Q_38 q_89 q_90 x (fun y => k (Pat.inst (.tup (.fcons (.int .u64) (.fcons (.int .u64) (.fcons (.int .u64) (.fcons (.int .u64) (.fnil)))))) y) (instH hp_38 x.2)) := by kernel_rfl
theorem run_38 {R : Type} (N : Nat) (x : aden ap_38 × hden hp_38) (k : KF R) : fnrun TT (E_38 (R := R) N) (drawOk TT QQ) (L_38 N) true Try.f38 (instA ap_38 x.1) (instH hp_38 x.2) k = p_38 N x (fun y => k (Pat.inst (.tup (.fcons (.int .u64) (.fcons (.int .u64) (.fcons (.int .u64) (.fcons (.int .u64) (.fnil)))))) y) (instH hp_38 x.2)) := (grun_38 (p_89 N) (p_90 N) x k).trans (by kernel_rfl)
theorem good_38 {R : Type} (N : Nat) : GD (X := R) Try.prog QQ 38 ap_38 hp_38 (fun (x : aden ap_38 × hden hp_38) k => p_38 N x (fun y => k (Pat.inst (.tup (.fcons (.int .u64) (.fcons (.int .u64) (.fcons (.int .u64) (.fcons (.int .u64) (.fnil)))))) y) (instH hp_38 x.2))) :=
  gd_quiet (E := E_38 N) (p := fun (x : aden ap_38 × hden hp_38) κ => p_38 N x (fun y => κ (Pat.inst (.tup (.fcons (.int .u64) (.fcons (.int .u64) (.fcons (.int .u64) (.fcons (.int .u64) (.fnil)))))) y))) mixed tyok (eok_38 N) Try.func38 (by kernel_rfl) (by kernel_rfl) (lok_38 N) (fun x k => run_38 N x k)

def lv_94_6 : Live := [(2, none), (3, none), (8, none), (9, none), (10, none), (14, none), (15, none)]
def pt_94_6 : SPat := ⟨[(2, .ptr 0 []), (3, .ptr 1 []), (8, .ros (.arr 128 (.int .u64))), (9, .int .i64), (10, .int .i64), (14, .vec (.int .u64) 128), (15, .int .i64)], [some (.vec (.int .u64) 128, 70), some (.vec (.int .u64) 128, 70)]⟩
def px_94_6_0 : SPat := ⟨[(2, .ptr 0 []), (3, .ptr 1 []), (8, .ros (.arr 128 (.int .u64))), (9, .int .i64), (10, .int .i64)], [some (.vec (.int .u64) 128, 70), some (.vec (.int .u64) 128, 70)]⟩
def lo_94_6 : Exit → Live
  | .exit 2 => [(2, none), (3, none), (8, none), (9, none), (10, none)]
  | _ => []
def B_94_6 {R : Type} (N : Nat) (rec : ((Unit × Unit × (List (Nat → Int)) × Int × Int × (Nat → Int) × Int × Unit) × ((Nat → Int) × (Nat → Int) × Unit)) → Option R) (x : ((Unit × Unit × (List (Nat → Int)) × Int × Int × (Nat → Int) × Int × Unit) × ((Nat → Int) × (Nat → Int) × Unit))) (κ0 : ((Unit × Unit × (List (Nat → Int)) × Int × Int × Unit) × ((Nat → Int) × (Nat → Int) × Unit)) → Option R) : Option R :=
let l63 : (List (Nat → Int)) := x.1.2.2.1
let i64 : Int := x.1.2.2.2.1
let i65 : Int := x.1.2.2.2.2.1
let a66 : (Nat → Int) := x.1.2.2.2.2.2.1
let i67 : Int := x.1.2.2.2.2.2.2.1
let a68 : (Nat → Int) := x.2.1
let a69 : (Nat → Int) := x.2.2.1
bif (decide (i67 < 128)) then (
bif decide (0 ≤ i67) then (
bif decide (i67 < (128 : Int)) then (
let i70 : Int := (a66 ((Int.toNat i67)))
bif decide (0 ≤ i67) then (
bif decide (i67 < (128 : Int)) then (
let i71 : Int := (a69 ((Int.toNat i67)))
let i72 : Int := xorA .u64 i71 i70
bif decide (0 ≤ i67) then (
bif decide (i67 < (128 : Int)) then (
let a73 : (Nat → Int) := (upd a69 ((Int.toNat i67)) i72)
let i74 : Int := addA .i64 i67 1
rec (((), (), l63, i64, i65, a66, i74, ()), (a68, a73, ()))) else none) else none) else none) else none) else none) else none) else (
κ0 (((), (), l63, i64, i65, ()), (a68, a69, ())))
def l_94_6 {R : Type} (N : Nat) : Nat → ((Unit × Unit × (List (Nat → Int)) × Int × Int × (Nat → Int) × Int × Unit) × ((Nat → Int) × (Nat → Int) × Unit)) → (((Unit × Unit × (List (Nat → Int)) × Int × Int × Unit) × ((Nat → Int) × (Nat → Int) × Unit)) → Option R) → Option R
  | 0, _, _ => none
  | n + 1, x, κ0 => B_94_6 N (fun y => l_94_6 N n y κ0) x κ0
def lv_94_3 : Live := [(2, none), (3, none), (8, none), (9, none), (10, none)]
def pt_94_3 : SPat := ⟨[(2, .ptr 0 []), (3, .ptr 1 []), (8, .ros (.arr 128 (.int .u64))), (9, .int .i64), (10, .int .i64)], [some (.vec (.int .u64) 128, 70), some (.vec (.int .u64) 128, 70)]⟩
def px_94_3_0 : SPat := ⟨[(2, .ptr 0 []), (3, .ptr 1 [])], [some (.vec (.int .u64) 128, 70), some (.vec (.int .u64) 128, 70)]⟩
def lo_94_3 : Exit → Live
  | .exit 0 => [(2, none), (3, none)]
  | _ => []
def B_94_3 {R : Type} (N : Nat) (rec : ((Unit × Unit × (List (Nat → Int)) × Int × Int × Unit) × ((Nat → Int) × (Nat → Int) × Unit)) → Option R) (x : ((Unit × Unit × (List (Nat → Int)) × Int × Int × Unit) × ((Nat → Int) × (Nat → Int) × Unit))) (κ0 : ((Unit × Unit × Unit) × ((Nat → Int) × (Nat → Int) × Unit)) → Option R) : Option R :=
let l57 : (List (Nat → Int)) := x.1.2.2.1
let i58 : Int := x.1.2.2.2.1
let i59 : Int := x.1.2.2.2.2.1
let a60 : (Nat → Int) := x.2.1
let a61 : (Nat → Int) := x.2.2.1
bif (decide (i59 < i58)) then (
bif decide (0 ≤ i59) then (
bif decide (i59 < ((List.length l57) : Int)) then (
let p62 : (Nat → Int) := (List.getD l57 ((Int.toNat i59)) (Sch.zero (.arr 128 (.int .u64))))
l_94_6 N N (((), (), l57, i58, i59, p62, 0, ()), (a60, a61, ())) (fun y75 =>
let l76 : (List (Nat → Int)) := y75.1.2.2.1
let i77 : Int := y75.1.2.2.2.1
let i78 : Int := y75.1.2.2.2.2.1
let a79 : (Nat → Int) := y75.2.1
let a80 : (Nat → Int) := y75.2.2.1
let i81 : Int := addA .i64 i78 1
rec (((), (), l76, i77, i81, ()), (a79, a80, ())))) else none) else none) else (
κ0 (((), (), ()), (a60, a61, ())))
def l_94_3 {R : Type} (N : Nat) : Nat → ((Unit × Unit × (List (Nat → Int)) × Int × Int × Unit) × ((Nat → Int) × (Nat → Int) × Unit)) → (((Unit × Unit × Unit) × ((Nat → Int) × (Nat → Int) × Unit)) → Option R) → Option R
  | 0, _, _ => none
  | n + 1, x, κ0 => B_94_3 N (fun y => l_94_3 N n y κ0) x κ0
def ap_94 : List Pat := [.ros (.arr 128 (.int .u64))]
def hp_94 : List (Option (Pat × Nat)) := []
def p_94 {R : Type} (N : Nat) (x : ((List (Nat → Int)) × Unit) × (Unit)) (κ0 : (Nat → Int) → Option R) : Option R :=
let l55 : (List (Nat → Int)) := x.1.1
let i56 : Int := (((List.length l55) : Nat) : Int)
l_94_3 N N (((), (), l55, i56, 0, ()), ((Sch.zero (.arr 128 (.int .u64))), (Sch.zero (.arr 128 (.int .u64))), ())) (fun y82 =>
let a83 : (Nat → Int) := y82.2.1
let a84 : (Nat → Int) := y82.2.2.1
κ0 a84)

def Q_94 {R : Type} (m_94_6 : ((Unit × Unit × (List (Nat → Int)) × Int × Int × (Nat → Int) × Int × Unit) × ((Nat → Int) × (Nat → Int) × Unit)) → (((Unit × Unit × (List (Nat → Int)) × Int × Int × Unit) × ((Nat → Int) × (Nat → Int) × Unit)) → Option R) → Option R) (m_94_3 : ((Unit × Unit × (List (Nat → Int)) × Int × Int × Unit) × ((Nat → Int) × (Nat → Int) × Unit)) → (((Unit × Unit × Unit) × ((Nat → Int) × (Nat → Int) × Unit)) → Option R) → Option R) (x : ((List (Nat → Int)) × Unit) × (Unit)) (κ0 : (Nat → Int) → Option R) : Option R :=
let l55 : (List (Nat → Int)) := x.1.1
let i56 : Int := (((List.length l55) : Nat) : Int)
m_94_3 (((), (), l55, i56, 0, ()), ((Sch.zero (.arr 128 (.int .u64))), (Sch.zero (.arr 128 (.int .u64))), ())) (fun y82 =>
let a83 : (Nat → Int) := y82.2.1
let a84 : (Nat → Int) := y82.2.2.1
κ0 a84)
def C_94_6 {R : Type} (m_94_6 : ((Unit × Unit × (List (Nat → Int)) × Int × Int × (Nat → Int) × Int × Unit) × ((Nat → Int) × (Nat → Int) × Unit)) → (((Unit × Unit × (List (Nat → Int)) × Int × Int × Unit) × ((Nat → Int) × (Nat → Int) × Unit)) → Option R) → Option R) (m_94_3 : ((Unit × Unit × (List (Nat → Int)) × Int × Int × Unit) × ((Nat → Int) × (Nat → Int) × Unit)) → (((Unit × Unit × Unit) × ((Nat → Int) × (Nat → Int) × Unit)) → Option R) → Option R) (rec : ((Unit × Unit × (List (Nat → Int)) × Int × Int × (Nat → Int) × Int × Unit) × ((Nat → Int) × (Nat → Int) × Unit)) → Option R) (x : ((Unit × Unit × (List (Nat → Int)) × Int × Int × (Nat → Int) × Int × Unit) × ((Nat → Int) × (Nat → Int) × Unit))) (κ0 : ((Unit × Unit × (List (Nat → Int)) × Int × Int × Unit) × ((Nat → Int) × (Nat → Int) × Unit)) → Option R) : Option R :=
let l63 : (List (Nat → Int)) := x.1.2.2.1
let i64 : Int := x.1.2.2.2.1
let i65 : Int := x.1.2.2.2.2.1
let a66 : (Nat → Int) := x.1.2.2.2.2.2.1
let i67 : Int := x.1.2.2.2.2.2.2.1
let a68 : (Nat → Int) := x.2.1
let a69 : (Nat → Int) := x.2.2.1
bif (decide (i67 < 128)) then (
bif decide (0 ≤ i67) then (
bif decide (i67 < (128 : Int)) then (
let i70 : Int := (a66 ((Int.toNat i67)))
bif decide (0 ≤ i67) then (
bif decide (i67 < (128 : Int)) then (
let i71 : Int := (a69 ((Int.toNat i67)))
let i72 : Int := xorA .u64 i71 i70
bif decide (0 ≤ i67) then (
bif decide (i67 < (128 : Int)) then (
let a73 : (Nat → Int) := (upd a69 ((Int.toNat i67)) i72)
let i74 : Int := addA .i64 i67 1
rec (((), (), l63, i64, i65, a66, i74, ()), (a68, a73, ()))) else none) else none) else none) else none) else none) else none) else (
κ0 (((), (), l63, i64, i65, ()), (a68, a69, ())))
def C_94_3 {R : Type} (m_94_6 : ((Unit × Unit × (List (Nat → Int)) × Int × Int × (Nat → Int) × Int × Unit) × ((Nat → Int) × (Nat → Int) × Unit)) → (((Unit × Unit × (List (Nat → Int)) × Int × Int × Unit) × ((Nat → Int) × (Nat → Int) × Unit)) → Option R) → Option R) (m_94_3 : ((Unit × Unit × (List (Nat → Int)) × Int × Int × Unit) × ((Nat → Int) × (Nat → Int) × Unit)) → (((Unit × Unit × Unit) × ((Nat → Int) × (Nat → Int) × Unit)) → Option R) → Option R) (rec : ((Unit × Unit × (List (Nat → Int)) × Int × Int × Unit) × ((Nat → Int) × (Nat → Int) × Unit)) → Option R) (x : ((Unit × Unit × (List (Nat → Int)) × Int × Int × Unit) × ((Nat → Int) × (Nat → Int) × Unit))) (κ0 : ((Unit × Unit × Unit) × ((Nat → Int) × (Nat → Int) × Unit)) → Option R) : Option R :=
let l57 : (List (Nat → Int)) := x.1.2.2.1
let i58 : Int := x.1.2.2.2.1
let i59 : Int := x.1.2.2.2.2.1
let a60 : (Nat → Int) := x.2.1
let a61 : (Nat → Int) := x.2.2.1
bif (decide (i59 < i58)) then (
bif decide (0 ≤ i59) then (
bif decide (i59 < ((List.length l57) : Int)) then (
let p62 : (Nat → Int) := (List.getD l57 ((Int.toNat i59)) (Sch.zero (.arr 128 (.int .u64))))
m_94_6 (((), (), l57, i58, i59, p62, 0, ()), (a60, a61, ())) (fun y75 =>
let l76 : (List (Nat → Int)) := y75.1.2.2.1
let i77 : Int := y75.1.2.2.2.1
let i78 : Int := y75.1.2.2.2.2.1
let a79 : (Nat → Int) := y75.2.1
let a80 : (Nat → Int) := y75.2.2.1
let i81 : Int := addA .i64 i78 1
rec (((), (), l76, i77, i81, ()), (a79, a80, ())))) else none) else none) else (
κ0 (((), (), ()), (a60, a61, ())))
def EG_94 {R : Type} : Env R := Env.base QQ LN
def LG_94 {R : Type} (m_94_6 : ((Unit × Unit × (List (Nat → Int)) × Int × Int × (Nat → Int) × Int × Unit) × ((Nat → Int) × (Nat → Int) × Unit)) → (((Unit × Unit × (List (Nat → Int)) × Int × Int × Unit) × ((Nat → Int) × (Nat → Int) × Unit)) → Option R) → Option R) (m_94_3 : ((Unit × Unit × (List (Nat → Int)) × Int × Int × Unit) × ((Nat → Int) × (Nat → Int) × Unit)) → (((Unit × Unit × Unit) × ((Nat → Int) × (Nat → Int) × Unit)) → Option R) → Option R) : Loops R := ((Loops.none).add 6 (loopBy 0 lv_94_6 pt_94_6 (fun x k => m_94_6 x (fun y => k (.exit 2) (px_94_6_0.inst y))))).add 3 (loopBy 0 lv_94_3 pt_94_3 (fun x k => m_94_3 x (fun y => k (.exit 0) (px_94_3_0.inst y))))
def E_94 {R : Type} (N : Nat) : Env R := EG_94
theorem eok_94 {R : Type} (N : Nat) : EK Try.prog (E_94 (R := R) N) := ek_base _ _
def L_94 {R : Type} (N : Nat) : Loops R := LG_94 (l_94_6 N N) (l_94_3 N N)
theorem gstep_94_6 {R : Type} (m_94_6 : ((Unit × Unit × (List (Nat → Int)) × Int × Int × (Nat → Int) × Int × Unit) × ((Nat → Int) × (Nat → Int) × Unit)) → (((Unit × Unit × (List (Nat → Int)) × Int × Int × Unit) × ((Nat → Int) × (Nat → Int) × Unit)) → Option R) → Option R) (m_94_3 : ((Unit × Unit × (List (Nat → Int)) × Int × Int × Unit) × ((Nat → Int) × (Nat → Int) × Unit)) → (((Unit × Unit × Unit) × ((Nat → Int) × (Nat → Int) × Unit)) → Option R) → Option R) (n : Nat) (x : pt_94_6.den) (k : Exit → St → Option R) : iter 0 lv_94_6 lo_94_6 (aexec TT (EG_94) (drawOk TT QQ) (LG_94 m_94_6 m_94_3) (loopAt 6 (bodyOf Try.f94))) (n + 1) (pt_94_6.inst x) k = C_94_6 m_94_6 m_94_3 (fun y => iter 0 lv_94_6 lo_94_6 (aexec TT (EG_94) (drawOk TT QQ) (LG_94 m_94_6 m_94_3) (loopAt 6 (bodyOf Try.f94))) n (pt_94_6.inst y) k) x (fun y => k (.exit 2) (px_94_6_0.inst y)) := by kernel_rfl
theorem step_94_6 {R : Type} (N n : Nat) (x : pt_94_6.den) (k : Exit → St → Option R) : iter 0 lv_94_6 lo_94_6 (aexec TT (E_94 (R := R) N) (drawOk TT QQ) (L_94 N) (loopAt 6 (bodyOf Try.f94))) (n + 1) (pt_94_6.inst x) k = B_94_6 N (fun y => iter 0 lv_94_6 lo_94_6 (aexec TT (E_94 (R := R) N) (drawOk TT QQ) (L_94 N) (loopAt 6 (bodyOf Try.f94))) n (pt_94_6.inst y) k) x (fun y => k (.exit 2) (px_94_6_0.inst y)) := (gstep_94_6 (l_94_6 N N) (l_94_3 N N) n x k).trans (by kernel_rfl)
theorem eq_94_6 {R : Type} (N : Nat) : ∀ (n : Nat) (x : pt_94_6.den) (k : Exit → St → Option R), iter 0 lv_94_6 lo_94_6 (aexec TT (E_94 (R := R) N) (drawOk TT QQ) (L_94 N) (loopAt 6 (bodyOf Try.f94))) n (pt_94_6.inst x) k = l_94_6 N n x (fun y => k (.exit 2) (px_94_6_0.inst y)) :=
  iter_eq (K := Exit → St → Option R) (ks := fun k => k) (l := fun n (x : pt_94_6.den) k => l_94_6 N n x (fun y => k (.exit 2) (px_94_6_0.inst y))) (B := fun (rec : pt_94_6.den → Option R) (x : pt_94_6.den) k => B_94_6 N rec x (fun y => k (.exit 2) (px_94_6_0.inst y))) (fun _ _ => rfl) (fun _ _ _ => rfl) (fun n x k => step_94_6 N n x k)
theorem rounds_94_6 {R : Type} (N : Nat) : Rounds 0 TT (E_94 (R := R) N) (drawOk TT QQ) (L_94 N) 6 (loopAt 6 (bodyOf Try.f94)) :=
  rounds_of (p := pt_94_6) (l := fun (x : pt_94_6.den) k => l_94_6 N N x (fun y => k (.exit 2) (px_94_6_0.inst y))) (fun s k => rfl) (fun x k => eq_94_6 N N x k)
theorem gstep_94_3 {R : Type} (m_94_6 : ((Unit × Unit × (List (Nat → Int)) × Int × Int × (Nat → Int) × Int × Unit) × ((Nat → Int) × (Nat → Int) × Unit)) → (((Unit × Unit × (List (Nat → Int)) × Int × Int × Unit) × ((Nat → Int) × (Nat → Int) × Unit)) → Option R) → Option R) (m_94_3 : ((Unit × Unit × (List (Nat → Int)) × Int × Int × Unit) × ((Nat → Int) × (Nat → Int) × Unit)) → (((Unit × Unit × Unit) × ((Nat → Int) × (Nat → Int) × Unit)) → Option R) → Option R) (n : Nat) (x : pt_94_3.den) (k : Exit → St → Option R) : iter 0 lv_94_3 lo_94_3 (aexec TT (EG_94) (drawOk TT QQ) (LG_94 m_94_6 m_94_3) (loopAt 3 (bodyOf Try.f94))) (n + 1) (pt_94_3.inst x) k = C_94_3 m_94_6 m_94_3 (fun y => iter 0 lv_94_3 lo_94_3 (aexec TT (EG_94) (drawOk TT QQ) (LG_94 m_94_6 m_94_3) (loopAt 3 (bodyOf Try.f94))) n (pt_94_3.inst y) k) x (fun y => k (.exit 0) (px_94_3_0.inst y)) := by kernel_rfl
theorem step_94_3 {R : Type} (N n : Nat) (x : pt_94_3.den) (k : Exit → St → Option R) : iter 0 lv_94_3 lo_94_3 (aexec TT (E_94 (R := R) N) (drawOk TT QQ) (L_94 N) (loopAt 3 (bodyOf Try.f94))) (n + 1) (pt_94_3.inst x) k = B_94_3 N (fun y => iter 0 lv_94_3 lo_94_3 (aexec TT (E_94 (R := R) N) (drawOk TT QQ) (L_94 N) (loopAt 3 (bodyOf Try.f94))) n (pt_94_3.inst y) k) x (fun y => k (.exit 0) (px_94_3_0.inst y)) := (gstep_94_3 (l_94_6 N N) (l_94_3 N N) n x k).trans (by kernel_rfl)
theorem eq_94_3 {R : Type} (N : Nat) : ∀ (n : Nat) (x : pt_94_3.den) (k : Exit → St → Option R), iter 0 lv_94_3 lo_94_3 (aexec TT (E_94 (R := R) N) (drawOk TT QQ) (L_94 N) (loopAt 3 (bodyOf Try.f94))) n (pt_94_3.inst x) k = l_94_3 N n x (fun y => k (.exit 0) (px_94_3_0.inst y)) :=
  iter_eq (K := Exit → St → Option R) (ks := fun k => k) (l := fun n (x : pt_94_3.den) k => l_94_3 N n x (fun y => k (.exit 0) (px_94_3_0.inst y))) (B := fun (rec : pt_94_3.den → Option R) (x : pt_94_3.den) k => B_94_3 N rec x (fun y => k (.exit 0) (px_94_3_0.inst y))) (fun _ _ => rfl) (fun _ _ _ => rfl) (fun n x k => step_94_3 N n x k)
theorem rounds_94_3 {R : Type} (N : Nat) : Rounds 0 TT (E_94 (R := R) N) (drawOk TT QQ) (L_94 N) 3 (loopAt 3 (bodyOf Try.f94)) :=
  rounds_of (p := pt_94_3) (l := fun (x : pt_94_3.den) k => l_94_3 N N x (fun y => k (.exit 0) (px_94_3_0.inst y))) (fun s k => rfl) (fun x k => eq_94_3 N N x k)
theorem loops_94 : loopsIn (bodyOf Try.f94) = [(3, loopAt 3 (bodyOf Try.f94)), (6, loopAt 6 (bodyOf Try.f94))] := by kernel_rfl
theorem lok_94 {R : Type} (N : Nat) : LOK 0 TT (E_94 (R := R) N) (drawOk TT QQ) (L_94 N) (bodyOf Try.f94) := loops_all loops_94 (by
  simp only [List.forall_mem_cons, List.not_mem_nil, false_implies, implies_true, and_true]
  exact ⟨rounds_94_3 N, rounds_94_6 N⟩)
theorem grun_94 {R : Type} (m_94_6 : ((Unit × Unit × (List (Nat → Int)) × Int × Int × (Nat → Int) × Int × Unit) × ((Nat → Int) × (Nat → Int) × Unit)) → (((Unit × Unit × (List (Nat → Int)) × Int × Int × Unit) × ((Nat → Int) × (Nat → Int) × Unit)) → Option R) → Option R) (m_94_3 : ((Unit × Unit × (List (Nat → Int)) × Int × Int × Unit) × ((Nat → Int) × (Nat → Int) × Unit)) → (((Unit × Unit × Unit) × ((Nat → Int) × (Nat → Int) × Unit)) → Option R) → Option R) (x : aden ap_94 × hden hp_94) (k : KF R) : fnrun TT (EG_94) (drawOk TT QQ) (LG_94 m_94_6 m_94_3) true Try.f94 (instA ap_94 x.1) (instH hp_94 x.2) k = Q_94 m_94_6 m_94_3 x (fun y => k (Pat.inst (.vec (.int .u64) 128) y) (instH hp_94 x.2)) := by kernel_rfl
theorem run_94 {R : Type} (N : Nat) (x : aden ap_94 × hden hp_94) (k : KF R) : fnrun TT (E_94 (R := R) N) (drawOk TT QQ) (L_94 N) true Try.f94 (instA ap_94 x.1) (instH hp_94 x.2) k = p_94 N x (fun y => k (Pat.inst (.vec (.int .u64) 128) y) (instH hp_94 x.2)) := (grun_94 (l_94_6 N N) (l_94_3 N N) x k).trans (by kernel_rfl)
theorem good_94 {R : Type} (N : Nat) : GD (X := R) Try.prog QQ 94 ap_94 hp_94 (fun (x : aden ap_94 × hden hp_94) k => p_94 N x (fun y => k (Pat.inst (.vec (.int .u64) 128) y) (instH hp_94 x.2))) :=
  gd_quiet (E := E_94 N) (p := fun (x : aden ap_94 × hden hp_94) κ => p_94 N x (fun y => κ (Pat.inst (.vec (.int .u64) 128) y))) mixed tyok (eok_94 N) Try.func94 (by kernel_rfl) (by kernel_rfl) (lok_94 N) (fun x k => run_94 N x k)

def lv_95_3 : Live := [(0, none), (1, none), (4, none), (5, none), (7, none)]
def pt_95_3 : SPat := ⟨[(0, .int .i64), (1, .bool), (4, .ptr 0 []), (5, .ptr 1 []), (7, .int .i64)], [some (.vec (.int .i64) 16, 153), some (.vec (.int .i64) 16, 153)]⟩
def px_95_3_0 : SPat := ⟨[(4, .ptr 0 []), (5, .ptr 1 [])], [some (.vec (.int .i64) 16, 153), some (.vec (.int .i64) 16, 153)]⟩
def lo_95_3 : Exit → Live
  | .exit 0 => [(4, none), (5, none)]
  | _ => []
def B_95_3 {R : Type} (N : Nat) (rec : ((Int × Bool × Unit × Unit × Int × Unit) × ((Nat → Int) × (Nat → Int) × Unit)) → Option R) (x : ((Int × Bool × Unit × Unit × Int × Unit) × ((Nat → Int) × (Nat → Int) × Unit))) (κ0 : ((Unit × Unit × Unit) × ((Nat → Int) × (Nat → Int) × Unit)) → Option R) : Option R :=
let i105 : Int := x.1.1
let b106 : Bool := x.1.2.1
let i107 : Int := x.1.2.2.2.2.1
let a108 : (Nat → Int) := x.2.1
let a109 : (Nat → Int) := x.2.2.1
bif (decide (i107 < 16)) then (
bif b106 then (
let i110 : Int := mulA .i64 2 i105
let i111 : Int := remA .i64 i107 2
let i112 : Int := addA .i64 i110 i111
let i113 : Int := quoA .i64 i107 2
let i114 : Int := mulA .i64 16 i113
let i115 : Int := addA .i64 i112 i114
bif decide (0 ≤ i107) then (
bif decide (i107 < (16 : Int)) then (
let a116 : (Nat → Int) := (upd a109 ((Int.toNat i107)) i115)
let i117 : Int := addA .i64 i107 1
rec ((i105, b106, (), (), i117, ()), (a108, a116, ()))) else none) else none) else (
let i118 : Int := mulA .i64 16 i105
let i119 : Int := addA .i64 i118 i107
bif decide (0 ≤ i107) then (
bif decide (i107 < (16 : Int)) then (
let a120 : (Nat → Int) := (upd a109 ((Int.toNat i107)) i119)
let i121 : Int := addA .i64 i107 1
rec ((i105, b106, (), (), i121, ()), (a108, a120, ()))) else none) else none)) else (
κ0 (((), (), ()), (a108, a109, ())))
def l_95_3 {R : Type} (N : Nat) : Nat → ((Int × Bool × Unit × Unit × Int × Unit) × ((Nat → Int) × (Nat → Int) × Unit)) → (((Unit × Unit × Unit) × ((Nat → Int) × (Nat → Int) × Unit)) → Option R) → Option R
  | 0, _, _ => none
  | n + 1, x, κ0 => B_95_3 N (fun y => l_95_3 N n y κ0) x κ0
def ap_95 : List Pat := [.int .i64, .bool]
def hp_95 : List (Option (Pat × Nat)) := []
def p_95 {R : Type} (N : Nat) (x : (Int × Bool × Unit) × (Unit)) (κ0 : (Nat → Int) → Option R) : Option R :=
let i103 : Int := x.1.1
let b104 : Bool := x.1.2.1
l_95_3 N N ((i103, b104, (), (), 0, ()), ((Sch.zero (.arr 16 (.int .i64))), (Sch.zero (.arr 16 (.int .i64))), ())) (fun y122 =>
let a123 : (Nat → Int) := y122.2.1
let a124 : (Nat → Int) := y122.2.2.1
κ0 a124)

def Q_95 {R : Type} (m_95_3 : ((Int × Bool × Unit × Unit × Int × Unit) × ((Nat → Int) × (Nat → Int) × Unit)) → (((Unit × Unit × Unit) × ((Nat → Int) × (Nat → Int) × Unit)) → Option R) → Option R) (x : (Int × Bool × Unit) × (Unit)) (κ0 : (Nat → Int) → Option R) : Option R :=
let i103 : Int := x.1.1
let b104 : Bool := x.1.2.1
m_95_3 ((i103, b104, (), (), 0, ()), ((Sch.zero (.arr 16 (.int .i64))), (Sch.zero (.arr 16 (.int .i64))), ())) (fun y122 =>
let a123 : (Nat → Int) := y122.2.1
let a124 : (Nat → Int) := y122.2.2.1
κ0 a124)
def C_95_3 {R : Type} (m_95_3 : ((Int × Bool × Unit × Unit × Int × Unit) × ((Nat → Int) × (Nat → Int) × Unit)) → (((Unit × Unit × Unit) × ((Nat → Int) × (Nat → Int) × Unit)) → Option R) → Option R) (rec : ((Int × Bool × Unit × Unit × Int × Unit) × ((Nat → Int) × (Nat → Int) × Unit)) → Option R) (x : ((Int × Bool × Unit × Unit × Int × Unit) × ((Nat → Int) × (Nat → Int) × Unit))) (κ0 : ((Unit × Unit × Unit) × ((Nat → Int) × (Nat → Int) × Unit)) → Option R) : Option R :=
let i105 : Int := x.1.1
let b106 : Bool := x.1.2.1
let i107 : Int := x.1.2.2.2.2.1
let a108 : (Nat → Int) := x.2.1
let a109 : (Nat → Int) := x.2.2.1
bif (decide (i107 < 16)) then (
bif b106 then (
let i110 : Int := mulA .i64 2 i105
let i111 : Int := remA .i64 i107 2
let i112 : Int := addA .i64 i110 i111
let i113 : Int := quoA .i64 i107 2
let i114 : Int := mulA .i64 16 i113
let i115 : Int := addA .i64 i112 i114
bif decide (0 ≤ i107) then (
bif decide (i107 < (16 : Int)) then (
let a116 : (Nat → Int) := (upd a109 ((Int.toNat i107)) i115)
let i117 : Int := addA .i64 i107 1
rec ((i105, b106, (), (), i117, ()), (a108, a116, ()))) else none) else none) else (
let i118 : Int := mulA .i64 16 i105
let i119 : Int := addA .i64 i118 i107
bif decide (0 ≤ i107) then (
bif decide (i107 < (16 : Int)) then (
let a120 : (Nat → Int) := (upd a109 ((Int.toNat i107)) i119)
let i121 : Int := addA .i64 i107 1
rec ((i105, b106, (), (), i121, ()), (a108, a120, ()))) else none) else none)) else (
κ0 (((), (), ()), (a108, a109, ())))
def EG_95 {R : Type} : Env R := Env.base QQ LN
def LG_95 {R : Type} (m_95_3 : ((Int × Bool × Unit × Unit × Int × Unit) × ((Nat → Int) × (Nat → Int) × Unit)) → (((Unit × Unit × Unit) × ((Nat → Int) × (Nat → Int) × Unit)) → Option R) → Option R) : Loops R := (Loops.none).add 3 (loopBy 0 lv_95_3 pt_95_3 (fun x k => m_95_3 x (fun y => k (.exit 0) (px_95_3_0.inst y))))
def E_95 {R : Type} (N : Nat) : Env R := EG_95
theorem eok_95 {R : Type} (N : Nat) : EK Try.prog (E_95 (R := R) N) := ek_base _ _
def L_95 {R : Type} (N : Nat) : Loops R := LG_95 (l_95_3 N N)
theorem gstep_95_3 {R : Type} (m_95_3 : ((Int × Bool × Unit × Unit × Int × Unit) × ((Nat → Int) × (Nat → Int) × Unit)) → (((Unit × Unit × Unit) × ((Nat → Int) × (Nat → Int) × Unit)) → Option R) → Option R) (n : Nat) (x : pt_95_3.den) (k : Exit → St → Option R) : iter 0 lv_95_3 lo_95_3 (aexec TT (EG_95) (drawOk TT QQ) (LG_95 m_95_3) (loopAt 3 (bodyOf Try.f95))) (n + 1) (pt_95_3.inst x) k = C_95_3 m_95_3 (fun y => iter 0 lv_95_3 lo_95_3 (aexec TT (EG_95) (drawOk TT QQ) (LG_95 m_95_3) (loopAt 3 (bodyOf Try.f95))) n (pt_95_3.inst y) k) x (fun y => k (.exit 0) (px_95_3_0.inst y)) := by kernel_rfl
theorem step_95_3 {R : Type} (N n : Nat) (x : pt_95_3.den) (k : Exit → St → Option R) : iter 0 lv_95_3 lo_95_3 (aexec TT (E_95 (R := R) N) (drawOk TT QQ) (L_95 N) (loopAt 3 (bodyOf Try.f95))) (n + 1) (pt_95_3.inst x) k = B_95_3 N (fun y => iter 0 lv_95_3 lo_95_3 (aexec TT (E_95 (R := R) N) (drawOk TT QQ) (L_95 N) (loopAt 3 (bodyOf Try.f95))) n (pt_95_3.inst y) k) x (fun y => k (.exit 0) (px_95_3_0.inst y)) := (gstep_95_3 (l_95_3 N N) n x k).trans (by kernel_rfl)
theorem eq_95_3 {R : Type} (N : Nat) : ∀ (n : Nat) (x : pt_95_3.den) (k : Exit → St → Option R), iter 0 lv_95_3 lo_95_3 (aexec TT (E_95 (R := R) N) (drawOk TT QQ) (L_95 N) (loopAt 3 (bodyOf Try.f95))) n (pt_95_3.inst x) k = l_95_3 N n x (fun y => k (.exit 0) (px_95_3_0.inst y)) :=
  iter_eq (K := Exit → St → Option R) (ks := fun k => k) (l := fun n (x : pt_95_3.den) k => l_95_3 N n x (fun y => k (.exit 0) (px_95_3_0.inst y))) (B := fun (rec : pt_95_3.den → Option R) (x : pt_95_3.den) k => B_95_3 N rec x (fun y => k (.exit 0) (px_95_3_0.inst y))) (fun _ _ => rfl) (fun _ _ _ => rfl) (fun n x k => step_95_3 N n x k)
theorem rounds_95_3 {R : Type} (N : Nat) : Rounds 0 TT (E_95 (R := R) N) (drawOk TT QQ) (L_95 N) 3 (loopAt 3 (bodyOf Try.f95)) :=
  rounds_of (p := pt_95_3) (l := fun (x : pt_95_3.den) k => l_95_3 N N x (fun y => k (.exit 0) (px_95_3_0.inst y))) (fun s k => rfl) (fun x k => eq_95_3 N N x k)
theorem loops_95 : loopsIn (bodyOf Try.f95) = [(3, loopAt 3 (bodyOf Try.f95))] := by kernel_rfl
theorem lok_95 {R : Type} (N : Nat) : LOK 0 TT (E_95 (R := R) N) (drawOk TT QQ) (L_95 N) (bodyOf Try.f95) := loops_all loops_95 (by
  simp only [List.forall_mem_cons, List.not_mem_nil, false_implies, implies_true, and_true]
  exact rounds_95_3 N)
theorem grun_95 {R : Type} (m_95_3 : ((Int × Bool × Unit × Unit × Int × Unit) × ((Nat → Int) × (Nat → Int) × Unit)) → (((Unit × Unit × Unit) × ((Nat → Int) × (Nat → Int) × Unit)) → Option R) → Option R) (x : aden ap_95 × hden hp_95) (k : KF R) : fnrun TT (EG_95) (drawOk TT QQ) (LG_95 m_95_3) true Try.f95 (instA ap_95 x.1) (instH hp_95 x.2) k = Q_95 m_95_3 x (fun y => k (Pat.inst (.vec (.int .i64) 16) y) (instH hp_95 x.2)) := by kernel_rfl
theorem run_95 {R : Type} (N : Nat) (x : aden ap_95 × hden hp_95) (k : KF R) : fnrun TT (E_95 (R := R) N) (drawOk TT QQ) (L_95 N) true Try.f95 (instA ap_95 x.1) (instH hp_95 x.2) k = p_95 N x (fun y => k (Pat.inst (.vec (.int .i64) 16) y) (instH hp_95 x.2)) := (grun_95 (l_95_3 N N) x k).trans (by kernel_rfl)
theorem good_95 {R : Type} (N : Nat) : GD (X := R) Try.prog QQ 95 ap_95 hp_95 (fun (x : aden ap_95 × hden hp_95) k => p_95 N x (fun y => k (Pat.inst (.vec (.int .i64) 16) y) (instH hp_95 x.2))) :=
  gd_quiet (E := E_95 N) (p := fun (x : aden ap_95 × hden hp_95) κ => p_95 N x (fun y => κ (Pat.inst (.vec (.int .i64) 16) y))) mixed tyok (eok_95 N) Try.func95 (by kernel_rfl) (by kernel_rfl) (lok_95 N) (fun x k => run_95 N x k)

def ap_93 : List Pat := []
def hp_93 : List (Option (Pat × Nat)) := []
def p_93 {R : Type} (N : Nat) (x : (Unit) × (Unit)) (κ0 : (Nat → (Nat → Int)) → Option R) : Option R :=
let a153 : (Nat → Int) := (upd ((upd ((upd ((upd ((Sch.zero (.arr 4 (.int .i64)))) 0 0)) 1 4)) 2 8)) 3 12)
let a154 : (Nat → Int) := (upd ((upd ((upd ((upd ((Sch.zero (.arr 4 (.int .i64)))) 0 1)) 1 5)) 2 9)) 3 13)
let a155 : (Nat → Int) := (upd ((upd ((upd ((upd ((Sch.zero (.arr 4 (.int .i64)))) 0 2)) 1 6)) 2 10)) 3 14)
let a156 : (Nat → Int) := (upd ((upd ((upd ((upd ((Sch.zero (.arr 4 (.int .i64)))) 0 3)) 1 7)) 2 11)) 3 15)
let a157 : (Nat → Int) := (upd ((upd ((upd ((upd ((Sch.zero (.arr 4 (.int .i64)))) 0 0)) 1 5)) 2 10)) 3 15)
let a158 : (Nat → Int) := (upd ((upd ((upd ((upd ((Sch.zero (.arr 4 (.int .i64)))) 0 1)) 1 6)) 2 11)) 3 12)
let a159 : (Nat → Int) := (upd ((upd ((upd ((upd ((Sch.zero (.arr 4 (.int .i64)))) 0 2)) 1 7)) 2 8)) 3 13)
let a160 : (Nat → Int) := (upd ((upd ((upd ((upd ((Sch.zero (.arr 4 (.int .i64)))) 0 3)) 1 4)) 2 9)) 3 14)
let a161 : (Nat → (Nat → Int)) := (upd ((upd ((upd ((upd ((upd ((upd ((upd ((upd ((Sch.zero (.arr 8 (.arr 4 (.int .i64))))) 0 a153)) 1 a154)) 2 a155)) 3 a156)) 4 a157)) 5 a158)) 6 a159)) 7 a160)
κ0 a161

def Q_93 {R : Type} (x : (Unit) × (Unit)) (κ0 : (Nat → (Nat → Int)) → Option R) : Option R :=
let a153 : (Nat → Int) := (upd ((upd ((upd ((upd ((Sch.zero (.arr 4 (.int .i64)))) 0 0)) 1 4)) 2 8)) 3 12)
let a154 : (Nat → Int) := (upd ((upd ((upd ((upd ((Sch.zero (.arr 4 (.int .i64)))) 0 1)) 1 5)) 2 9)) 3 13)
let a155 : (Nat → Int) := (upd ((upd ((upd ((upd ((Sch.zero (.arr 4 (.int .i64)))) 0 2)) 1 6)) 2 10)) 3 14)
let a156 : (Nat → Int) := (upd ((upd ((upd ((upd ((Sch.zero (.arr 4 (.int .i64)))) 0 3)) 1 7)) 2 11)) 3 15)
let a157 : (Nat → Int) := (upd ((upd ((upd ((upd ((Sch.zero (.arr 4 (.int .i64)))) 0 0)) 1 5)) 2 10)) 3 15)
let a158 : (Nat → Int) := (upd ((upd ((upd ((upd ((Sch.zero (.arr 4 (.int .i64)))) 0 1)) 1 6)) 2 11)) 3 12)
let a159 : (Nat → Int) := (upd ((upd ((upd ((upd ((Sch.zero (.arr 4 (.int .i64)))) 0 2)) 1 7)) 2 8)) 3 13)
let a160 : (Nat → Int) := (upd ((upd ((upd ((upd ((Sch.zero (.arr 4 (.int .i64)))) 0 3)) 1 4)) 2 9)) 3 14)
let a161 : (Nat → (Nat → Int)) := (upd ((upd ((upd ((upd ((upd ((upd ((upd ((upd ((Sch.zero (.arr 8 (.arr 4 (.int .i64))))) 0 a153)) 1 a154)) 2 a155)) 3 a156)) 4 a157)) 5 a158)) 6 a159)) 7 a160)
κ0 a161
def EG_93 {R : Type} : Env R := Env.base QQ LN
def LG_93 {R : Type} : Loops R := Loops.none
def E_93 {R : Type} (N : Nat) : Env R := EG_93
theorem eok_93 {R : Type} (N : Nat) : EK Try.prog (E_93 (R := R) N) := ek_base _ _
def L_93 {R : Type} (N : Nat) : Loops R := LG_93
theorem lok_93 {R : Type} (N : Nat) : LOK 0 TT (E_93 (R := R) N) (drawOk TT QQ) (L_93 N) (bodyOf Try.f93) := loops_nil (by kernel_rfl)
theorem grun_93 {R : Type} (x : aden ap_93 × hden hp_93) (k : KF R) : fnrun TT (EG_93) (drawOk TT QQ) (LG_93) true Try.f93 (instA ap_93 x.1) (instH hp_93 x.2) k = Q_93 x (fun y => k (Pat.inst (.vec (.arr 4 (.int .i64)) 8) y) (instH hp_93 x.2)) := by kernel_rfl
theorem run_93 {R : Type} (N : Nat) (x : aden ap_93 × hden hp_93) (k : KF R) : fnrun TT (E_93 (R := R) N) (drawOk TT QQ) (L_93 N) true Try.f93 (instA ap_93 x.1) (instH hp_93 x.2) k = p_93 N x (fun y => k (Pat.inst (.vec (.arr 4 (.int .i64)) 8) y) (instH hp_93 x.2)) := (grun_93 x k).trans (by kernel_rfl)
theorem good_93 {R : Type} (N : Nat) : GD (X := R) Try.prog QQ 93 ap_93 hp_93 (fun (x : aden ap_93 × hden hp_93) k => p_93 N x (fun y => k (Pat.inst (.vec (.arr 4 (.int .i64)) 8) y) (instH hp_93 x.2))) :=
  gd_quiet (E := E_93 N) (p := fun (x : aden ap_93 × hden hp_93) κ => p_93 N x (fun y => κ (Pat.inst (.vec (.arr 4 (.int .i64)) 8) y))) mixed tyok (eok_93 N) Try.func93 (by kernel_rfl) (by kernel_rfl) (lok_93 N) (fun x k => run_93 N x k)

def lv_40_2 : Live := [(1, none), (2, none), (9, none), (10, none)]
def pt_40_2 : SPat := ⟨[(1, .ptr 0 []), (2, .ptr 1 []), (9, .vec (.arr 4 (.int .i64)) 8), (10, .int .i64)], [some (.vec (.int .u64) 16, 62), some (.vec (.int .u64) 16, 62)]⟩
def px_40_2_0 : SPat := ⟨[(1, .ptr 0 []), (2, .ptr 1 [])], [some (.vec (.int .u64) 16, 62), some (.vec (.int .u64) 16, 62)]⟩
def lo_40_2 : Exit → Live
  | .exit 0 => [(1, none), (2, none)]
  | _ => []
def B_40_2 {R : Type} (N : Nat) (rec : ((Unit × Unit × (Nat → (Nat → Int)) × Int × Unit) × ((Nat → Int) × (Nat → Int) × Unit)) → Option R) (x : ((Unit × Unit × (Nat → (Nat → Int)) × Int × Unit) × ((Nat → Int) × (Nat → Int) × Unit))) (κ0 : ((Unit × Unit × Unit) × ((Nat → Int) × (Nat → Int) × Unit)) → Option R) : Option R :=
let a164 : (Nat → (Nat → Int)) := x.1.2.2.1
let i165 : Int := x.1.2.2.2.1
let a166 : (Nat → Int) := x.2.1
let a167 : (Nat → Int) := x.2.2.1
bif (decide (i165 < 8)) then (
bif decide (0 ≤ i165) then (
bif decide (i165 < (8 : Int)) then (
let a168 : (Nat → Int) := (a164 ((Int.toNat i165)))
let i169 : Int := (a168 0)
let i170 : Int := (a168 1)
let i171 : Int := (a168 2)
let i172 : Int := (a168 3)
bif decide (0 ≤ i169) then (
bif decide (i169 < (16 : Int)) then (
let i173 : Int := (a166 ((Int.toNat i169)))
bif decide (0 ≤ i170) then (
bif decide (i170 < (16 : Int)) then (
let i174 : Int := (a166 ((Int.toNat i170)))
bif decide (0 ≤ i171) then (
bif decide (i171 < (16 : Int)) then (
let i175 : Int := (a166 ((Int.toNat i171)))
bif decide (0 ≤ i172) then (
bif decide (i172 < (16 : Int)) then (
let i176 : Int := (a166 ((Int.toNat i172)))
p_38 N ((i173, i174, i175, i176, ()), ()) (fun y177 =>
let i178 : Int := y177.1
let i179 : Int := y177.2.1
let i180 : Int := y177.2.2.1
let i181 : Int := y177.2.2.2.1
bif decide (0 ≤ i169) then (
bif decide (i169 < (16 : Int)) then (
let a182 : (Nat → Int) := (upd a166 ((Int.toNat i169)) i178)
bif decide (0 ≤ i170) then (
bif decide (i170 < (16 : Int)) then (
let a183 : (Nat → Int) := (upd a182 ((Int.toNat i170)) i179)
bif decide (0 ≤ i171) then (
bif decide (i171 < (16 : Int)) then (
let a184 : (Nat → Int) := (upd a183 ((Int.toNat i171)) i180)
bif decide (0 ≤ i172) then (
bif decide (i172 < (16 : Int)) then (
let a185 : (Nat → Int) := (upd a184 ((Int.toNat i172)) i181)
let i186 : Int := addA .i64 i165 1
rec (((), (), a164, i186, ()), (a185, a167, ()))) else none) else none) else none) else none) else none) else none) else none) else none)) else none) else none) else none) else none) else none) else none) else none) else none) else none) else none) else (
κ0 (((), (), ()), (a166, a167, ())))
def l_40_2 {R : Type} (N : Nat) : Nat → ((Unit × Unit × (Nat → (Nat → Int)) × Int × Unit) × ((Nat → Int) × (Nat → Int) × Unit)) → (((Unit × Unit × Unit) × ((Nat → Int) × (Nat → Int) × Unit)) → Option R) → Option R
  | 0, _, _ => none
  | n + 1, x, κ0 => B_40_2 N (fun y => l_40_2 N n y κ0) x κ0
def ap_40 : List Pat := [.vec (.int .u64) 16]
def hp_40 : List (Option (Pat × Nat)) := []
def p_40 {R : Type} (N : Nat) (x : ((Nat → Int) × Unit) × (Unit)) (κ0 : (Nat → Int) → Option R) : Option R :=
let a152 : (Nat → Int) := x.1.1
p_93 N ((), ()) (fun y162 =>
let a163 : (Nat → (Nat → Int)) := y162
l_40_2 N N (((), (), a163, 0, ()), (a152, (Sch.zero (.arr 16 (.int .u64))), ())) (fun y187 =>
let a188 : (Nat → Int) := y187.2.1
let a189 : (Nat → Int) := y187.2.2.1
κ0 a188))

def Q_40 {R : Type} (q_93 : (Unit) × (Unit) → ((Nat → (Nat → Int)) → Option R) → Option R) (q_38 : (Int × Int × Int × Int × Unit) × (Unit) → ((Int × (Int × (Int × (Int × Unit)))) → Option R) → Option R) (m_40_2 : ((Unit × Unit × (Nat → (Nat → Int)) × Int × Unit) × ((Nat → Int) × (Nat → Int) × Unit)) → (((Unit × Unit × Unit) × ((Nat → Int) × (Nat → Int) × Unit)) → Option R) → Option R) (x : ((Nat → Int) × Unit) × (Unit)) (κ0 : (Nat → Int) → Option R) : Option R :=
let a152 : (Nat → Int) := x.1.1
q_93 ((), ()) (fun y162 =>
let a163 : (Nat → (Nat → Int)) := y162
m_40_2 (((), (), a163, 0, ()), (a152, (Sch.zero (.arr 16 (.int .u64))), ())) (fun y187 =>
let a188 : (Nat → Int) := y187.2.1
let a189 : (Nat → Int) := y187.2.2.1
κ0 a188))
def C_40_2 {R : Type} (q_93 : (Unit) × (Unit) → ((Nat → (Nat → Int)) → Option R) → Option R) (q_38 : (Int × Int × Int × Int × Unit) × (Unit) → ((Int × (Int × (Int × (Int × Unit)))) → Option R) → Option R) (m_40_2 : ((Unit × Unit × (Nat → (Nat → Int)) × Int × Unit) × ((Nat → Int) × (Nat → Int) × Unit)) → (((Unit × Unit × Unit) × ((Nat → Int) × (Nat → Int) × Unit)) → Option R) → Option R) (rec : ((Unit × Unit × (Nat → (Nat → Int)) × Int × Unit) × ((Nat → Int) × (Nat → Int) × Unit)) → Option R) (x : ((Unit × Unit × (Nat → (Nat → Int)) × Int × Unit) × ((Nat → Int) × (Nat → Int) × Unit))) (κ0 : ((Unit × Unit × Unit) × ((Nat → Int) × (Nat → Int) × Unit)) → Option R) : Option R :=
let a164 : (Nat → (Nat → Int)) := x.1.2.2.1
let i165 : Int := x.1.2.2.2.1
let a166 : (Nat → Int) := x.2.1
let a167 : (Nat → Int) := x.2.2.1
bif (decide (i165 < 8)) then (
bif decide (0 ≤ i165) then (
bif decide (i165 < (8 : Int)) then (
let a168 : (Nat → Int) := (a164 ((Int.toNat i165)))
let i169 : Int := (a168 0)
let i170 : Int := (a168 1)
let i171 : Int := (a168 2)
let i172 : Int := (a168 3)
bif decide (0 ≤ i169) then (
bif decide (i169 < (16 : Int)) then (
let i173 : Int := (a166 ((Int.toNat i169)))
bif decide (0 ≤ i170) then (
bif decide (i170 < (16 : Int)) then (
let i174 : Int := (a166 ((Int.toNat i170)))
bif decide (0 ≤ i171) then (
bif decide (i171 < (16 : Int)) then (
let i175 : Int := (a166 ((Int.toNat i171)))
bif decide (0 ≤ i172) then (
bif decide (i172 < (16 : Int)) then (
let i176 : Int := (a166 ((Int.toNat i172)))
q_38 ((i173, i174, i175, i176, ()), ()) (fun y177 =>
let i178 : Int := y177.1
let i179 : Int := y177.2.1
let i180 : Int := y177.2.2.1
let i181 : Int := y177.2.2.2.1
bif decide (0 ≤ i169) then (
bif decide (i169 < (16 : Int)) then (
let a182 : (Nat → Int) := (upd a166 ((Int.toNat i169)) i178)
bif decide (0 ≤ i170) then (
bif decide (i170 < (16 : Int)) then (
let a183 : (Nat → Int) := (upd a182 ((Int.toNat i170)) i179)
bif decide (0 ≤ i171) then (
bif decide (i171 < (16 : Int)) then (
let a184 : (Nat → Int) := (upd a183 ((Int.toNat i171)) i180)
bif decide (0 ≤ i172) then (
bif decide (i172 < (16 : Int)) then (
let a185 : (Nat → Int) := (upd a184 ((Int.toNat i172)) i181)
let i186 : Int := addA .i64 i165 1
rec (((), (), a164, i186, ()), (a185, a167, ()))) else none) else none) else none) else none) else none) else none) else none) else none)) else none) else none) else none) else none) else none) else none) else none) else none) else none) else none) else (
κ0 (((), (), ()), (a166, a167, ())))
def EG_40 {R : Type} (q_93 : (Unit) × (Unit) → ((Nat → (Nat → Int)) → Option R) → Option R) (q_38 : (Int × Int × Int × Int × Unit) × (Unit) → ((Int × (Int × (Int × (Int × Unit)))) → Option R) → Option R) : Env R := ((Env.base QQ LN).add 93 ap_93 hp_93 (fun (x : aden ap_93 × hden hp_93) k => q_93 x (fun y => k (Pat.inst (.vec (.arr 4 (.int .i64)) 8) y) (instH hp_93 x.2)))).add 38 ap_38 hp_38 (fun (x : aden ap_38 × hden hp_38) k => q_38 x (fun y => k (Pat.inst (.tup (.fcons (.int .u64) (.fcons (.int .u64) (.fcons (.int .u64) (.fcons (.int .u64) (.fnil)))))) y) (instH hp_38 x.2)))
def LG_40 {R : Type} (m_40_2 : ((Unit × Unit × (Nat → (Nat → Int)) × Int × Unit) × ((Nat → Int) × (Nat → Int) × Unit)) → (((Unit × Unit × Unit) × ((Nat → Int) × (Nat → Int) × Unit)) → Option R) → Option R) : Loops R := (Loops.none).add 2 (loopBy 0 lv_40_2 pt_40_2 (fun x k => m_40_2 x (fun y => k (.exit 0) (px_40_2_0.inst y))))
def E_40 {R : Type} (N : Nat) : Env R := EG_40 (p_93 N) (p_38 N)
theorem eok_40 {R : Type} (N : Nat) : EK Try.prog (E_40 (R := R) N) := ek_add (ek_add (ek_base _ _) (good_93 N)) (good_38 N)
def L_40 {R : Type} (N : Nat) : Loops R := LG_40 (l_40_2 N N)
theorem gstep_40_2 {R : Type} (q_93 : (Unit) × (Unit) → ((Nat → (Nat → Int)) → Option R) → Option R) (q_38 : (Int × Int × Int × Int × Unit) × (Unit) → ((Int × (Int × (Int × (Int × Unit)))) → Option R) → Option R) (m_40_2 : ((Unit × Unit × (Nat → (Nat → Int)) × Int × Unit) × ((Nat → Int) × (Nat → Int) × Unit)) → (((Unit × Unit × Unit) × ((Nat → Int) × (Nat → Int) × Unit)) → Option R) → Option R) (n : Nat) (x : pt_40_2.den) (k : Exit → St → Option R) : iter 0 lv_40_2 lo_40_2 (aexec TT (EG_40 q_93 q_38) (drawOk TT QQ) (LG_40 m_40_2) (loopAt 2 (bodyOf Try.f40))) (n + 1) (pt_40_2.inst x) k = C_40_2 q_93 q_38 m_40_2 (fun y => iter 0 lv_40_2 lo_40_2 (aexec TT (EG_40 q_93 q_38) (drawOk TT QQ) (LG_40 m_40_2) (loopAt 2 (bodyOf Try.f40))) n (pt_40_2.inst y) k) x (fun y => k (.exit 0) (px_40_2_0.inst y)) := by kernel_rfl
theorem step_40_2 {R : Type} (N n : Nat) (x : pt_40_2.den) (k : Exit → St → Option R) : iter 0 lv_40_2 lo_40_2 (aexec TT (E_40 (R := R) N) (drawOk TT QQ) (L_40 N) (loopAt 2 (bodyOf Try.f40))) (n + 1) (pt_40_2.inst x) k = B_40_2 N (fun y => iter 0 lv_40_2 lo_40_2 (aexec TT (E_40 (R := R) N) (drawOk TT QQ) (L_40 N) (loopAt 2 (bodyOf Try.f40))) n (pt_40_2.inst y) k) x (fun y => k (.exit 0) (px_40_2_0.inst y)) := (gstep_40_2 (p_93 N) (p_38 N) (l_40_2 N N) n x k).trans (by kernel_rfl)
theorem eq_40_2 {R : Type} (N : Nat) : ∀ (n : Nat) (x : pt_40_2.den) (k : Exit → St → Option R), iter 0 lv_40_2 lo_40_2 (aexec TT (E_40 (R := R) N) (drawOk TT QQ) (L_40 N) (loopAt 2 (bodyOf Try.f40))) n (pt_40_2.inst x) k = l_40_2 N n x (fun y => k (.exit 0) (px_40_2_0.inst y)) :=
  iter_eq (K := Exit → St → Option R) (ks := fun k => k) (l := fun n (x : pt_40_2.den) k => l_40_2 N n x (fun y => k (.exit 0) (px_40_2_0.inst y))) (B := fun (rec : pt_40_2.den → Option R) (x : pt_40_2.den) k => B_40_2 N rec x (fun y => k (.exit 0) (px_40_2_0.inst y))) (fun _ _ => rfl) (fun _ _ _ => rfl) (fun n x k => step_40_2 N n x k)
theorem rounds_40_2 {R : Type} (N : Nat) : Rounds 0 TT (E_40 (R := R) N) (drawOk TT QQ) (L_40 N) 2 (loopAt 2 (bodyOf Try.f40)) :=
  rounds_of (p := pt_40_2) (l := fun (x : pt_40_2.den) k => l_40_2 N N x (fun y => k (.exit 0) (px_40_2_0.inst y))) (fun s k => rfl) (fun x k => eq_40_2 N N x k)
theorem loops_40 : loopsIn (bodyOf Try.f40) = [(2, loopAt 2 (bodyOf Try.f40))] := by kernel_rfl
theorem lok_40 {R : Type} (N : Nat) : LOK 0 TT (E_40 (R := R) N) (drawOk TT QQ) (L_40 N) (bodyOf Try.f40) := loops_all loops_40 (by
  simp only [List.forall_mem_cons, List.not_mem_nil, false_implies, implies_true, and_true]
  exact rounds_40_2 N)
theorem grun_40 {R : Type} (q_93 : (Unit) × (Unit) → ((Nat → (Nat → Int)) → Option R) → Option R) (q_38 : (Int × Int × Int × Int × Unit) × (Unit) → ((Int × (Int × (Int × (Int × Unit)))) → Option R) → Option R) (m_40_2 : ((Unit × Unit × (Nat → (Nat → Int)) × Int × Unit) × ((Nat → Int) × (Nat → Int) × Unit)) → (((Unit × Unit × Unit) × ((Nat → Int) × (Nat → Int) × Unit)) → Option R) → Option R) (x : aden ap_40 × hden hp_40) (k : KF R) : fnrun TT (EG_40 q_93 q_38) (drawOk TT QQ) (LG_40 m_40_2) true Try.f40 (instA ap_40 x.1) (instH hp_40 x.2) k = Q_40 q_93 q_38 m_40_2 x (fun y => k (Pat.inst (.vec (.int .u64) 16) y) (instH hp_40 x.2)) := by kernel_rfl
theorem run_40 {R : Type} (N : Nat) (x : aden ap_40 × hden hp_40) (k : KF R) : fnrun TT (E_40 (R := R) N) (drawOk TT QQ) (L_40 N) true Try.f40 (instA ap_40 x.1) (instH hp_40 x.2) k = p_40 N x (fun y => k (Pat.inst (.vec (.int .u64) 16) y) (instH hp_40 x.2)) := (grun_40 (p_93 N) (p_38 N) (l_40_2 N N) x k).trans (by kernel_rfl)
theorem good_40 {R : Type} (N : Nat) : GD (X := R) Try.prog QQ 40 ap_40 hp_40 (fun (x : aden ap_40 × hden hp_40) k => p_40 N x (fun y => k (Pat.inst (.vec (.int .u64) 16) y) (instH hp_40 x.2))) :=
  gd_quiet (E := E_40 N) (p := fun (x : aden ap_40 × hden hp_40) κ => p_40 N x (fun y => κ (Pat.inst (.vec (.int .u64) 16) y))) mixed tyok (eok_40 N) Try.func40 (by kernel_rfl) (by kernel_rfl) (lok_40 N) (fun x k => run_40 N x k)

def lv_44_10 : Live := [(1, none), (2, none), (4, none), (6, none), (7, none), (12, none), (13, none), (14, none), (18, none), (24, none), (25, none)]
def pt_44_10 : SPat := ⟨[(1, .ptr 0 []), (2, .ptr 1 []), (4, .bool), (6, .ptr 2 []), (7, .ptr 3 []), (12, .sl 4), (13, .int .i64), (14, .int .i64), (18, .int .i64), (24, .vec (.int .i64) 16), (25, .int .i64)], [some (.vec (.int .u64) 128, 70), some (.vec (.int .u64) 128, 70), some (.vec (.int .i64) 16, 153), some (.vec (.int .u64) 16, 62), some (.lst (.bool), 4)]⟩
def px_44_10_0 : SPat := ⟨[(1, .ptr 0 []), (2, .ptr 1 []), (4, .bool), (6, .ptr 2 []), (7, .ptr 3 []), (12, .sl 4), (13, .int .i64), (14, .int .i64), (18, .int .i64)], [some (.vec (.int .u64) 128, 70), some (.vec (.int .u64) 128, 70), some (.vec (.int .i64) 16, 153), some (.vec (.int .u64) 16, 62), some (.lst (.bool), 4)]⟩
def lo_44_10 : Exit → Live
  | .exit 4 => [(1, none), (2, none), (4, none), (6, none), (7, none), (12, none), (13, none), (14, none), (18, none)]
  | _ => []
def B_44_10 {R : Type} (N : Nat) (rec : ((Unit × Unit × Bool × Unit × Unit × Unit × Int × Int × Int × (Nat → Int) × Int × Unit) × ((Nat → Int) × (Nat → Int) × (Nat → Int) × (Nat → Int) × (List Bool) × Unit)) → Option R) (x : ((Unit × Unit × Bool × Unit × Unit × Unit × Int × Int × Int × (Nat → Int) × Int × Unit) × ((Nat → Int) × (Nat → Int) × (Nat → Int) × (Nat → Int) × (List Bool) × Unit))) (κ0 : ((Unit × Unit × Bool × Unit × Unit × Unit × Int × Int × Int × Unit) × ((Nat → Int) × (Nat → Int) × (Nat → Int) × (Nat → Int) × (List Bool) × Unit)) → Option R) : Option R :=
let b127 : Bool := x.1.2.2.1
let i128 : Int := x.1.2.2.2.2.2.2.1
let i129 : Int := x.1.2.2.2.2.2.2.2.1
let i130 : Int := x.1.2.2.2.2.2.2.2.2.1
let a131 : (Nat → Int) := x.1.2.2.2.2.2.2.2.2.2.1
let i132 : Int := x.1.2.2.2.2.2.2.2.2.2.2.1
let a133 : (Nat → Int) := x.2.1
let a134 : (Nat → Int) := x.2.2.1
let a135 : (Nat → Int) := x.2.2.2.1
let a136 : (Nat → Int) := x.2.2.2.2.1
let l137 : (List Bool) := x.2.2.2.2.2.1
bif (decide (i132 < 16)) then (
bif decide (0 ≤ i132) then (
bif decide (i132 < (16 : Int)) then (
let i138 : Int := (a131 ((Int.toNat i132)))
bif decide (0 ≤ i138) then (
bif decide (i138 < (128 : Int)) then (
let i139 : Int := (a133 ((Int.toNat i138)))
bif decide (0 ≤ i132) then (
bif decide (i132 < (16 : Int)) then (
let a140 : (Nat → Int) := (upd a136 ((Int.toNat i132)) i139)
let i141 : Int := addA .i64 i132 1
rec (((), (), b127, (), (), (), i128, i129, i130, a131, i141, ()), (a133, a134, a135, a140, l137, ()))) else none) else none) else none) else none) else none) else none) else (
κ0 (((), (), b127, (), (), (), i128, i129, i130, ()), (a133, a134, a135, a136, l137, ())))
def l_44_10 {R : Type} (N : Nat) : Nat → ((Unit × Unit × Bool × Unit × Unit × Unit × Int × Int × Int × (Nat → Int) × Int × Unit) × ((Nat → Int) × (Nat → Int) × (Nat → Int) × (Nat → Int) × (List Bool) × Unit)) → (((Unit × Unit × Bool × Unit × Unit × Unit × Int × Int × Int × Unit) × ((Nat → Int) × (Nat → Int) × (Nat → Int) × (Nat → Int) × (List Bool) × Unit)) → Option R) → Option R
  | 0, _, _ => none
  | n + 1, x, κ0 => B_44_10 N (fun y => l_44_10 N n y κ0) x κ0
def lv_44_16 : Live := [(1, none), (2, none), (4, none), (7, none), (12, none), (13, none), (14, none), (18, none), (37, none), (38, none)]
def pt_44_16 : SPat := ⟨[(1, .ptr 0 []), (2, .ptr 1 []), (4, .bool), (7, .ptr 2 []), (12, .sl 3), (13, .int .i64), (14, .int .i64), (18, .int .i64), (37, .vec (.int .i64) 16), (38, .int .i64)], [some (.vec (.int .u64) 128, 70), some (.vec (.int .u64) 128, 70), some (.vec (.int .u64) 16, 62), some (.lst (.bool), 4)]⟩
def px_44_16_0 : SPat := ⟨[(1, .ptr 0 []), (2, .ptr 1 []), (4, .bool), (12, .sl 2), (13, .int .i64), (14, .int .i64), (18, .int .i64)], [some (.vec (.int .u64) 128, 70), some (.vec (.int .u64) 128, 70), some (.lst (.bool), 4)]⟩
def lo_44_16 : Exit → Live
  | .exit 6 => [(1, none), (2, none), (4, none), (12, none), (13, none), (14, none), (18, none)]
  | _ => []
def B_44_16 {R : Type} (N : Nat) (rec : ((Unit × Unit × Bool × Unit × Unit × Int × Int × Int × (Nat → Int) × Int × Unit) × ((Nat → Int) × (Nat → Int) × (Nat → Int) × (List Bool) × Unit)) → Option R) (x : ((Unit × Unit × Bool × Unit × Unit × Int × Int × Int × (Nat → Int) × Int × Unit) × ((Nat → Int) × (Nat → Int) × (Nat → Int) × (List Bool) × Unit))) (κ0 : ((Unit × Unit × Bool × Unit × Int × Int × Int × Unit) × ((Nat → Int) × (Nat → Int) × (List Bool) × Unit)) → Option R) : Option R :=
let b192 : Bool := x.1.2.2.1
let i193 : Int := x.1.2.2.2.2.2.1
let i194 : Int := x.1.2.2.2.2.2.2.1
let i195 : Int := x.1.2.2.2.2.2.2.2.1
let a196 : (Nat → Int) := x.1.2.2.2.2.2.2.2.2.1
let i197 : Int := x.1.2.2.2.2.2.2.2.2.2.1
let a198 : (Nat → Int) := x.2.1
let a199 : (Nat → Int) := x.2.2.1
let a200 : (Nat → Int) := x.2.2.2.1
let l201 : (List Bool) := x.2.2.2.2.1
bif (decide (i197 < 16)) then (
bif decide (0 ≤ i197) then (
bif decide (i197 < (16 : Int)) then (
let i202 : Int := (a196 ((Int.toNat i197)))
bif decide (0 ≤ i197) then (
bif decide (i197 < (16 : Int)) then (
let i203 : Int := (a200 ((Int.toNat i197)))
bif decide (0 ≤ i202) then (
bif decide (i202 < (128 : Int)) then (
let a204 : (Nat → Int) := (upd a198 ((Int.toNat i202)) i203)
let i205 : Int := addA .i64 i197 1
rec (((), (), b192, (), (), i193, i194, i195, a196, i205, ()), (a204, a199, a200, l201, ()))) else none) else none) else none) else none) else none) else none) else (
κ0 (((), (), b192, (), i193, i194, i195, ()), (a198, a199, l201, ())))
def l_44_16 {R : Type} (N : Nat) : Nat → ((Unit × Unit × Bool × Unit × Unit × Int × Int × Int × (Nat → Int) × Int × Unit) × ((Nat → Int) × (Nat → Int) × (Nat → Int) × (List Bool) × Unit)) → (((Unit × Unit × Bool × Unit × Int × Int × Int × Unit) × ((Nat → Int) × (Nat → Int) × (List Bool) × Unit)) → Option R) → Option R
  | 0, _, _ => none
  | n + 1, x, κ0 => B_44_16 N (fun y => l_44_16 N n y κ0) x κ0
def lv_44_5 : Live := [(1, none), (2, none), (4, none), (12, none), (13, none), (14, none), (18, none)]
def pt_44_5 : SPat := ⟨[(1, .ptr 0 []), (2, .ptr 1 []), (4, .bool), (12, .sl 2), (13, .int .i64), (14, .int .i64), (18, .int .i64)], [some (.vec (.int .u64) 128, 70), some (.vec (.int .u64) 128, 70), some (.lst (.bool), 4)]⟩
def px_44_5_0 : SPat := ⟨[(1, .ptr 0 []), (2, .ptr 1 []), (12, .sl 2), (13, .int .i64), (14, .int .i64)], [some (.vec (.int .u64) 128, 70), some (.vec (.int .u64) 128, 70), some (.lst (.bool), 4)]⟩
def lo_44_5 : Exit → Live
  | .exit 2 => [(1, none), (2, none), (12, none), (13, none), (14, none)]
  | _ => []
def B_44_5 {R : Type} (N : Nat) (rec : ((Unit × Unit × Bool × Unit × Int × Int × Int × Unit) × ((Nat → Int) × (Nat → Int) × (List Bool) × Unit)) → Option R) (x : ((Unit × Unit × Bool × Unit × Int × Int × Int × Unit) × ((Nat → Int) × (Nat → Int) × (List Bool) × Unit))) (κ0 : ((Unit × Unit × Unit × Int × Int × Unit) × ((Nat → Int) × (Nat → Int) × (List Bool) × Unit)) → Option R) : Option R :=
let b96 : Bool := x.1.2.2.1
let i97 : Int := x.1.2.2.2.2.1
let i98 : Int := x.1.2.2.2.2.2.1
let i99 : Int := x.1.2.2.2.2.2.2.1
let a100 : (Nat → Int) := x.2.1
let a101 : (Nat → Int) := x.2.2.1
let l102 : (List Bool) := x.2.2.2.1
bif (decide (i99 < 8)) then (
p_95 N ((i99, b96, ()), ()) (fun y125 =>
let a126 : (Nat → Int) := y125
l_44_10 N N (((), (), b96, (), (), (), i97, i98, i99, a126, 0, ()), (a100, a101, a126, (Sch.zero (.arr 16 (.int .u64))), l102, ())) (fun y142 =>
let b143 : Bool := y142.1.2.2.1
let i144 : Int := y142.1.2.2.2.2.2.2.1
let i145 : Int := y142.1.2.2.2.2.2.2.2.1
let i146 : Int := y142.1.2.2.2.2.2.2.2.2.1
let a147 : (Nat → Int) := y142.2.1
let a148 : (Nat → Int) := y142.2.2.1
let a149 : (Nat → Int) := y142.2.2.2.1
let a150 : (Nat → Int) := y142.2.2.2.2.1
let l151 : (List Bool) := y142.2.2.2.2.2.1
p_40 N ((a150, ()), ()) (fun y190 =>
let a191 : (Nat → Int) := y190
l_44_16 N N (((), (), b143, (), (), i144, i145, i146, a149, 0, ()), (a147, a148, a191, l151, ())) (fun y206 =>
let b207 : Bool := y206.1.2.2.1
let i208 : Int := y206.1.2.2.2.2.1
let i209 : Int := y206.1.2.2.2.2.2.1
let i210 : Int := y206.1.2.2.2.2.2.2.1
let a211 : (Nat → Int) := y206.2.1
let a212 : (Nat → Int) := y206.2.2.1
let l213 : (List Bool) := y206.2.2.2.1
let i214 : Int := addA .i64 i210 1
rec (((), (), b207, (), i208, i209, i214, ()), (a211, a212, l213, ()))))))) else (
κ0 (((), (), (), i97, i98, ()), (a100, a101, l102, ())))
def l_44_5 {R : Type} (N : Nat) : Nat → ((Unit × Unit × Bool × Unit × Int × Int × Int × Unit) × ((Nat → Int) × (Nat → Int) × (List Bool) × Unit)) → (((Unit × Unit × Unit × Int × Int × Unit) × ((Nat → Int) × (Nat → Int) × (List Bool) × Unit)) → Option R) → Option R
  | 0, _, _ => none
  | n + 1, x, κ0 => B_44_5 N (fun y => l_44_5 N n y κ0) x κ0
def lv_44_2 : Live := [(1, none), (2, none), (12, none), (13, none), (14, none)]
def pt_44_2 : SPat := ⟨[(1, .ptr 0 []), (2, .ptr 1 []), (12, .sl 2), (13, .int .i64), (14, .int .i64)], [some (.vec (.int .u64) 128, 70), some (.vec (.int .u64) 128, 70), some (.lst (.bool), 4)]⟩
def px_44_2_0 : SPat := ⟨[(1, .ptr 0 []), (2, .ptr 1 [])], [some (.vec (.int .u64) 128, 70), some (.vec (.int .u64) 128, 70)]⟩
def lo_44_2 : Exit → Live
  | .exit 0 => [(1, none), (2, none)]
  | _ => []
def B_44_2 {R : Type} (N : Nat) (rec : ((Unit × Unit × Unit × Int × Int × Unit) × ((Nat → Int) × (Nat → Int) × (List Bool) × Unit)) → Option R) (x : ((Unit × Unit × Unit × Int × Int × Unit) × ((Nat → Int) × (Nat → Int) × (List Bool) × Unit))) (κ0 : ((Unit × Unit × Unit) × ((Nat → Int) × (Nat → Int) × Unit)) → Option R) : Option R :=
let i90 : Int := x.1.2.2.2.1
let i91 : Int := x.1.2.2.2.2.1
let a92 : (Nat → Int) := x.2.1
let a93 : (Nat → Int) := x.2.2.1
let l94 : (List Bool) := x.2.2.2.1
bif (decide (i91 < i90)) then (
bif decide (0 ≤ i91) then (
bif decide (i91 < ((List.length l94) : Int)) then (
let b95 : Bool := (List.getD l94 ((Int.toNat i91)) (Sch.zero (.bool)))
l_44_5 N N (((), (), b95, (), i90, i91, 0, ()), (a92, a93, l94, ())) (fun y215 =>
let i216 : Int := y215.1.2.2.2.1
let i217 : Int := y215.1.2.2.2.2.1
let a218 : (Nat → Int) := y215.2.1
let a219 : (Nat → Int) := y215.2.2.1
let l220 : (List Bool) := y215.2.2.2.1
let i221 : Int := addA .i64 i217 1
rec (((), (), (), i216, i221, ()), (a218, a219, l220, ())))) else none) else none) else (
κ0 (((), (), ()), (a92, a93, ())))
def l_44_2 {R : Type} (N : Nat) : Nat → ((Unit × Unit × Unit × Int × Int × Unit) × ((Nat → Int) × (Nat → Int) × (List Bool) × Unit)) → (((Unit × Unit × Unit) × ((Nat → Int) × (Nat → Int) × Unit)) → Option R) → Option R
  | 0, _, _ => none
  | n + 1, x, κ0 => B_44_2 N (fun y => l_44_2 N n y κ0) x κ0
def ap_44 : List Pat := [.vec (.int .u64) 128]
def hp_44 : List (Option (Pat × Nat)) := []
def p_44 {R : Type} (N : Nat) (x : ((Nat → Int) × Unit) × (Unit)) (κ0 : (Nat → Int) → Option R) : Option R :=
let a87 : (Nat → Int) := x.1.1
let l88 : (List Bool) := [false, true]
let i89 : Int := (((List.length l88) : Nat) : Int)
l_44_2 N N (((), (), (), i89, 0, ()), (a87, (Sch.zero (.arr 128 (.int .u64))), l88, ())) (fun y222 =>
let a223 : (Nat → Int) := y222.2.1
let a224 : (Nat → Int) := y222.2.2.1
κ0 a223)

def Q_44 {R : Type} (q_95 : (Int × Bool × Unit) × (Unit) → ((Nat → Int) → Option R) → Option R) (q_40 : ((Nat → Int) × Unit) × (Unit) → ((Nat → Int) → Option R) → Option R) (m_44_10 : ((Unit × Unit × Bool × Unit × Unit × Unit × Int × Int × Int × (Nat → Int) × Int × Unit) × ((Nat → Int) × (Nat → Int) × (Nat → Int) × (Nat → Int) × (List Bool) × Unit)) → (((Unit × Unit × Bool × Unit × Unit × Unit × Int × Int × Int × Unit) × ((Nat → Int) × (Nat → Int) × (Nat → Int) × (Nat → Int) × (List Bool) × Unit)) → Option R) → Option R) (m_44_16 : ((Unit × Unit × Bool × Unit × Unit × Int × Int × Int × (Nat → Int) × Int × Unit) × ((Nat → Int) × (Nat → Int) × (Nat → Int) × (List Bool) × Unit)) → (((Unit × Unit × Bool × Unit × Int × Int × Int × Unit) × ((Nat → Int) × (Nat → Int) × (List Bool) × Unit)) → Option R) → Option R) (m_44_5 : ((Unit × Unit × Bool × Unit × Int × Int × Int × Unit) × ((Nat → Int) × (Nat → Int) × (List Bool) × Unit)) → (((Unit × Unit × Unit × Int × Int × Unit) × ((Nat → Int) × (Nat → Int) × (List Bool) × Unit)) → Option R) → Option R) (m_44_2 : ((Unit × Unit × Unit × Int × Int × Unit) × ((Nat → Int) × (Nat → Int) × (List Bool) × Unit)) → (((Unit × Unit × Unit) × ((Nat → Int) × (Nat → Int) × Unit)) → Option R) → Option R) (x : ((Nat → Int) × Unit) × (Unit)) (κ0 : (Nat → Int) → Option R) : Option R :=
let a87 : (Nat → Int) := x.1.1
let l88 : (List Bool) := [false, true]
let i89 : Int := (((List.length l88) : Nat) : Int)
m_44_2 (((), (), (), i89, 0, ()), (a87, (Sch.zero (.arr 128 (.int .u64))), l88, ())) (fun y222 =>
let a223 : (Nat → Int) := y222.2.1
let a224 : (Nat → Int) := y222.2.2.1
κ0 a223)
def C_44_10 {R : Type} (q_95 : (Int × Bool × Unit) × (Unit) → ((Nat → Int) → Option R) → Option R) (q_40 : ((Nat → Int) × Unit) × (Unit) → ((Nat → Int) → Option R) → Option R) (m_44_10 : ((Unit × Unit × Bool × Unit × Unit × Unit × Int × Int × Int × (Nat → Int) × Int × Unit) × ((Nat → Int) × (Nat → Int) × (Nat → Int) × (Nat → Int) × (List Bool) × Unit)) → (((Unit × Unit × Bool × Unit × Unit × Unit × Int × Int × Int × Unit) × ((Nat → Int) × (Nat → Int) × (Nat → Int) × (Nat → Int) × (List Bool) × Unit)) → Option R) → Option R) (m_44_16 : ((Unit × Unit × Bool × Unit × Unit × Int × Int × Int × (Nat → Int) × Int × Unit) × ((Nat → Int) × (Nat → Int) × (Nat → Int) × (List Bool) × Unit)) → (((Unit × Unit × Bool × Unit × Int × Int × Int × Unit) × ((Nat → Int) × (Nat → Int) × (List Bool) × Unit)) → Option R) → Option R) (m_44_5 : ((Unit × Unit × Bool × Unit × Int × Int × Int × Unit) × ((Nat → Int) × (Nat → Int) × (List Bool) × Unit)) → (((Unit × Unit × Unit × Int × Int × Unit) × ((Nat → Int) × (Nat → Int) × (List Bool) × Unit)) → Option R) → Option R) (m_44_2 : ((Unit × Unit × Unit × Int × Int × Unit) × ((Nat → Int) × (Nat → Int) × (List Bool) × Unit)) → (((Unit × Unit × Unit) × ((Nat → Int) × (Nat → Int) × Unit)) → Option R) → Option R) (rec : ((Unit × Unit × Bool × Unit × Unit × Unit × Int × Int × Int × (Nat → Int) × Int × Unit) × ((Nat → Int) × (Nat → Int) × (Nat → Int) × (Nat → Int) × (List Bool) × Unit)) → Option R) (x : ((Unit × Unit × Bool × Unit × Unit × Unit × Int × Int × Int × (Nat → Int) × Int × Unit) × ((Nat → Int) × (Nat → Int) × (Nat → Int) × (Nat → Int) × (List Bool) × Unit))) (κ0 : ((Unit × Unit × Bool × Unit × Unit × Unit × Int × Int × Int × Unit) × ((Nat → Int) × (Nat → Int) × (Nat → Int) × (Nat → Int) × (List Bool) × Unit)) → Option R) : Option R :=
let b127 : Bool := x.1.2.2.1
let i128 : Int := x.1.2.2.2.2.2.2.1
let i129 : Int := x.1.2.2.2.2.2.2.2.1
let i130 : Int := x.1.2.2.2.2.2.2.2.2.1
let a131 : (Nat → Int) := x.1.2.2.2.2.2.2.2.2.2.1
let i132 : Int := x.1.2.2.2.2.2.2.2.2.2.2.1
let a133 : (Nat → Int) := x.2.1
let a134 : (Nat → Int) := x.2.2.1
let a135 : (Nat → Int) := x.2.2.2.1
let a136 : (Nat → Int) := x.2.2.2.2.1
let l137 : (List Bool) := x.2.2.2.2.2.1
bif (decide (i132 < 16)) then (
bif decide (0 ≤ i132) then (
bif decide (i132 < (16 : Int)) then (
let i138 : Int := (a131 ((Int.toNat i132)))
bif decide (0 ≤ i138) then (
bif decide (i138 < (128 : Int)) then (
let i139 : Int := (a133 ((Int.toNat i138)))
bif decide (0 ≤ i132) then (
bif decide (i132 < (16 : Int)) then (
let a140 : (Nat → Int) := (upd a136 ((Int.toNat i132)) i139)
let i141 : Int := addA .i64 i132 1
rec (((), (), b127, (), (), (), i128, i129, i130, a131, i141, ()), (a133, a134, a135, a140, l137, ()))) else none) else none) else none) else none) else none) else none) else (
κ0 (((), (), b127, (), (), (), i128, i129, i130, ()), (a133, a134, a135, a136, l137, ())))
def C_44_16 {R : Type} (q_95 : (Int × Bool × Unit) × (Unit) → ((Nat → Int) → Option R) → Option R) (q_40 : ((Nat → Int) × Unit) × (Unit) → ((Nat → Int) → Option R) → Option R) (m_44_10 : ((Unit × Unit × Bool × Unit × Unit × Unit × Int × Int × Int × (Nat → Int) × Int × Unit) × ((Nat → Int) × (Nat → Int) × (Nat → Int) × (Nat → Int) × (List Bool) × Unit)) → (((Unit × Unit × Bool × Unit × Unit × Unit × Int × Int × Int × Unit) × ((Nat → Int) × (Nat → Int) × (Nat → Int) × (Nat → Int) × (List Bool) × Unit)) → Option R) → Option R) (m_44_16 : ((Unit × Unit × Bool × Unit × Unit × Int × Int × Int × (Nat → Int) × Int × Unit) × ((Nat → Int) × (Nat → Int) × (Nat → Int) × (List Bool) × Unit)) → (((Unit × Unit × Bool × Unit × Int × Int × Int × Unit) × ((Nat → Int) × (Nat → Int) × (List Bool) × Unit)) → Option R) → Option R) (m_44_5 : ((Unit × Unit × Bool × Unit × Int × Int × Int × Unit) × ((Nat → Int) × (Nat → Int) × (List Bool) × Unit)) → (((Unit × Unit × Unit × Int × Int × Unit) × ((Nat → Int) × (Nat → Int) × (List Bool) × Unit)) → Option R) → Option R) (m_44_2 : ((Unit × Unit × Unit × Int × Int × Unit) × ((Nat → Int) × (Nat → Int) × (List Bool) × Unit)) → (((Unit × Unit × Unit) × ((Nat → Int) × (Nat → Int) × Unit)) → Option R) → Option R) (rec : ((Unit × Unit × Bool × Unit × Unit × Int × Int × Int × (Nat → Int) × Int × Unit) × ((Nat → Int) × (Nat → Int) × (Nat → Int) × (List Bool) × Unit)) → Option R) (x : ((Unit × Unit × Bool × Unit × Unit × Int × Int × Int × (Nat → Int) × Int × Unit) × ((Nat → Int) × (Nat → Int) × (Nat → Int) × (List Bool) × Unit))) (κ0 : ((Unit × Unit × Bool × Unit × Int × Int × Int × Unit) × ((Nat → Int) × (Nat → Int) × (List Bool) × Unit)) → Option R) : Option R :=
let b192 : Bool := x.1.2.2.1
let i193 : Int := x.1.2.2.2.2.2.1
let i194 : Int := x.1.2.2.2.2.2.2.1
let i195 : Int := x.1.2.2.2.2.2.2.2.1
let a196 : (Nat → Int) := x.1.2.2.2.2.2.2.2.2.1
let i197 : Int := x.1.2.2.2.2.2.2.2.2.2.1
let a198 : (Nat → Int) := x.2.1
let a199 : (Nat → Int) := x.2.2.1
let a200 : (Nat → Int) := x.2.2.2.1
let l201 : (List Bool) := x.2.2.2.2.1
bif (decide (i197 < 16)) then (
bif decide (0 ≤ i197) then (
bif decide (i197 < (16 : Int)) then (
let i202 : Int := (a196 ((Int.toNat i197)))
bif decide (0 ≤ i197) then (
bif decide (i197 < (16 : Int)) then (
let i203 : Int := (a200 ((Int.toNat i197)))
bif decide (0 ≤ i202) then (
bif decide (i202 < (128 : Int)) then (
let a204 : (Nat → Int) := (upd a198 ((Int.toNat i202)) i203)
let i205 : Int := addA .i64 i197 1
rec (((), (), b192, (), (), i193, i194, i195, a196, i205, ()), (a204, a199, a200, l201, ()))) else none) else none) else none) else none) else none) else none) else (
κ0 (((), (), b192, (), i193, i194, i195, ()), (a198, a199, l201, ())))
def C_44_5 {R : Type} (q_95 : (Int × Bool × Unit) × (Unit) → ((Nat → Int) → Option R) → Option R) (q_40 : ((Nat → Int) × Unit) × (Unit) → ((Nat → Int) → Option R) → Option R) (m_44_10 : ((Unit × Unit × Bool × Unit × Unit × Unit × Int × Int × Int × (Nat → Int) × Int × Unit) × ((Nat → Int) × (Nat → Int) × (Nat → Int) × (Nat → Int) × (List Bool) × Unit)) → (((Unit × Unit × Bool × Unit × Unit × Unit × Int × Int × Int × Unit) × ((Nat → Int) × (Nat → Int) × (Nat → Int) × (Nat → Int) × (List Bool) × Unit)) → Option R) → Option R) (m_44_16 : ((Unit × Unit × Bool × Unit × Unit × Int × Int × Int × (Nat → Int) × Int × Unit) × ((Nat → Int) × (Nat → Int) × (Nat → Int) × (List Bool) × Unit)) → (((Unit × Unit × Bool × Unit × Int × Int × Int × Unit) × ((Nat → Int) × (Nat → Int) × (List Bool) × Unit)) → Option R) → Option R) (m_44_5 : ((Unit × Unit × Bool × Unit × Int × Int × Int × Unit) × ((Nat → Int) × (Nat → Int) × (List Bool) × Unit)) → (((Unit × Unit × Unit × Int × Int × Unit) × ((Nat → Int) × (Nat → Int) × (List Bool) × Unit)) → Option R) → Option R) (m_44_2 : ((Unit × Unit × Unit × Int × Int × Unit) × ((Nat → Int) × (Nat → Int) × (List Bool) × Unit)) → (((Unit × Unit × Unit) × ((Nat → Int) × (Nat → Int) × Unit)) → Option R) → Option R) (rec : ((Unit × Unit × Bool × Unit × Int × Int × Int × Unit) × ((Nat → Int) × (Nat → Int) × (List Bool) × Unit)) → Option R) (x : ((Unit × Unit × Bool × Unit × Int × Int × Int × Unit) × ((Nat → Int) × (Nat → Int) × (List Bool) × Unit))) (κ0 : ((Unit × Unit × Unit × Int × Int × Unit) × ((Nat → Int) × (Nat → Int) × (List Bool) × Unit)) → Option R) : Option R :=
let b96 : Bool := x.1.2.2.1
let i97 : Int := x.1.2.2.2.2.1
let i98 : Int := x.1.2.2.2.2.2.1
let i99 : Int := x.1.2.2.2.2.2.2.1
let a100 : (Nat → Int) := x.2.1
let a101 : (Nat → Int) := x.2.2.1
let l102 : (List Bool) := x.2.2.2.1
bif (decide (i99 < 8)) then (
q_95 ((i99, b96, ()), ()) (fun y125 =>
let a126 : (Nat → Int) := y125
m_44_10 (((), (), b96, (), (), (), i97, i98, i99, a126, 0, ()), (a100, a101, a126, (Sch.zero (.arr 16 (.int .u64))), l102, ())) (fun y142 =>
let b143 : Bool := y142.1.2.2.1
let i144 : Int := y142.1.2.2.2.2.2.2.1
let i145 : Int := y142.1.2.2.2.2.2.2.2.1
let i146 : Int := y142.1.2.2.2.2.2.2.2.2.1
let a147 : (Nat → Int) := y142.2.1
let a148 : (Nat → Int) := y142.2.2.1
let a149 : (Nat → Int) := y142.2.2.2.1
let a150 : (Nat → Int) := y142.2.2.2.2.1
let l151 : (List Bool) := y142.2.2.2.2.2.1
q_40 ((a150, ()), ()) (fun y190 =>
let a191 : (Nat → Int) := y190
m_44_16 (((), (), b143, (), (), i144, i145, i146, a149, 0, ()), (a147, a148, a191, l151, ())) (fun y206 =>
let b207 : Bool := y206.1.2.2.1
let i208 : Int := y206.1.2.2.2.2.1
let i209 : Int := y206.1.2.2.2.2.2.1
let i210 : Int := y206.1.2.2.2.2.2.2.1
let a211 : (Nat → Int) := y206.2.1
let a212 : (Nat → Int) := y206.2.2.1
let l213 : (List Bool) := y206.2.2.2.1
let i214 : Int := addA .i64 i210 1
rec (((), (), b207, (), i208, i209, i214, ()), (a211, a212, l213, ()))))))) else (
κ0 (((), (), (), i97, i98, ()), (a100, a101, l102, ())))
def C_44_2 {R : Type} (q_95 : (Int × Bool × Unit) × (Unit) → ((Nat → Int) → Option R) → Option R) (q_40 : ((Nat → Int) × Unit) × (Unit) → ((Nat → Int) → Option R) → Option R) (m_44_10 : ((Unit × Unit × Bool × Unit × Unit × Unit × Int × Int × Int × (Nat → Int) × Int × Unit) × ((Nat → Int) × (Nat → Int) × (Nat → Int) × (Nat → Int) × (List Bool) × Unit)) → (((Unit × Unit × Bool × Unit × Unit × Unit × Int × Int × Int × Unit) × ((Nat → Int) × (Nat → Int) × (Nat → Int) × (Nat → Int) × (List Bool) × Unit)) → Option R) → Option R) (m_44_16 : ((Unit × Unit × Bool × Unit × Unit × Int × Int × Int × (Nat → Int) × Int × Unit) × ((Nat → Int) × (Nat → Int) × (Nat → Int) × (List Bool) × Unit)) → (((Unit × Unit × Bool × Unit × Int × Int × Int × Unit) × ((Nat → Int) × (Nat → Int) × (List Bool) × Unit)) → Option R) → Option R) (m_44_5 : ((Unit × Unit × Bool × Unit × Int × Int × Int × Unit) × ((Nat → Int) × (Nat → Int) × (List Bool) × Unit)) → (((Unit × Unit × Unit × Int × Int × Unit) × ((Nat → Int) × (Nat → Int) × (List Bool) × Unit)) → Option R) → Option R) (m_44_2 : ((Unit × Unit × Unit × Int × Int × Unit) × ((Nat → Int) × (Nat → Int) × (List Bool) × Unit)) → (((Unit × Unit × Unit) × ((Nat → Int) × (Nat → Int) × Unit)) → Option R) → Option R) (rec : ((Unit × Unit × Unit × Int × Int × Unit) × ((Nat → Int) × (Nat → Int) × (List Bool) × Unit)) → Option R) (x : ((Unit × Unit × Unit × Int × Int × Unit) × ((Nat → Int) × (Nat → Int) × (List Bool) × Unit))) (κ0 : ((Unit × Unit × Unit) × ((Nat → Int) × (Nat → Int) × Unit)) → Option R) : Option R :=
let i90 : Int := x.1.2.2.2.1
let i91 : Int := x.1.2.2.2.2.1
let a92 : (Nat → Int) := x.2.1
let a93 : (Nat → Int) := x.2.2.1
let l94 : (List Bool) := x.2.2.2.1
bif (decide (i91 < i90)) then (
bif decide (0 ≤ i91) then (
bif decide (i91 < ((List.length l94) : Int)) then (
let b95 : Bool := (List.getD l94 ((Int.toNat i91)) (Sch.zero (.bool)))
m_44_5 (((), (), b95, (), i90, i91, 0, ()), (a92, a93, l94, ())) (fun y215 =>
let i216 : Int := y215.1.2.2.2.1
let i217 : Int := y215.1.2.2.2.2.1
let a218 : (Nat → Int) := y215.2.1
let a219 : (Nat → Int) := y215.2.2.1
let l220 : (List Bool) := y215.2.2.2.1
let i221 : Int := addA .i64 i217 1
rec (((), (), (), i216, i221, ()), (a218, a219, l220, ())))) else none) else none) else (
κ0 (((), (), ()), (a92, a93, ())))
def EG_44 {R : Type} (q_95 : (Int × Bool × Unit) × (Unit) → ((Nat → Int) → Option R) → Option R) (q_40 : ((Nat → Int) × Unit) × (Unit) → ((Nat → Int) → Option R) → Option R) : Env R := ((Env.base QQ LN).add 95 ap_95 hp_95 (fun (x : aden ap_95 × hden hp_95) k => q_95 x (fun y => k (Pat.inst (.vec (.int .i64) 16) y) (instH hp_95 x.2)))).add 40 ap_40 hp_40 (fun (x : aden ap_40 × hden hp_40) k => q_40 x (fun y => k (Pat.inst (.vec (.int .u64) 16) y) (instH hp_40 x.2)))
def LG_44 {R : Type} (m_44_10 : ((Unit × Unit × Bool × Unit × Unit × Unit × Int × Int × Int × (Nat → Int) × Int × Unit) × ((Nat → Int) × (Nat → Int) × (Nat → Int) × (Nat → Int) × (List Bool) × Unit)) → (((Unit × Unit × Bool × Unit × Unit × Unit × Int × Int × Int × Unit) × ((Nat → Int) × (Nat → Int) × (Nat → Int) × (Nat → Int) × (List Bool) × Unit)) → Option R) → Option R) (m_44_16 : ((Unit × Unit × Bool × Unit × Unit × Int × Int × Int × (Nat → Int) × Int × Unit) × ((Nat → Int) × (Nat → Int) × (Nat → Int) × (List Bool) × Unit)) → (((Unit × Unit × Bool × Unit × Int × Int × Int × Unit) × ((Nat → Int) × (Nat → Int) × (List Bool) × Unit)) → Option R) → Option R) (m_44_5 : ((Unit × Unit × Bool × Unit × Int × Int × Int × Unit) × ((Nat → Int) × (Nat → Int) × (List Bool) × Unit)) → (((Unit × Unit × Unit × Int × Int × Unit) × ((Nat → Int) × (Nat → Int) × (List Bool) × Unit)) → Option R) → Option R) (m_44_2 : ((Unit × Unit × Unit × Int × Int × Unit) × ((Nat → Int) × (Nat → Int) × (List Bool) × Unit)) → (((Unit × Unit × Unit) × ((Nat → Int) × (Nat → Int) × Unit)) → Option R) → Option R) : Loops R := ((((Loops.none).add 10 (loopBy 0 lv_44_10 pt_44_10 (fun x k => m_44_10 x (fun y => k (.exit 4) (px_44_10_0.inst y))))).add 16 (loopBy 0 lv_44_16 pt_44_16 (fun x k => m_44_16 x (fun y => k (.exit 6) (px_44_16_0.inst y))))).add 5 (loopBy 0 lv_44_5 pt_44_5 (fun x k => m_44_5 x (fun y => k (.exit 2) (px_44_5_0.inst y))))).add 2 (loopBy 0 lv_44_2 pt_44_2 (fun x k => m_44_2 x (fun y => k (.exit 0) (px_44_2_0.inst y))))
def E_44 {R : Type} (N : Nat) : Env R := EG_44 (p_95 N) (p_40 N)
theorem eok_44 {R : Type} (N : Nat) : EK Try.prog (E_44 (R := R) N) := ek_add (ek_add (ek_base _ _) (good_95 N)) (good_40 N)
def L_44 {R : Type} (N : Nat) : Loops R := LG_44 (l_44_10 N N) (l_44_16 N N) (l_44_5 N N) (l_44_2 N N)
theorem gstep_44_10 {R : Type} (q_95 : (Int × Bool × Unit) × (Unit) → ((Nat → Int) → Option R) → Option R) (q_40 : ((Nat → Int) × Unit) × (Unit) → ((Nat → Int) → Option R) → Option R) (m_44_10 : ((Unit × Unit × Bool × Unit × Unit × Unit × Int × Int × Int × (Nat → Int) × Int × Unit) × ((Nat → Int) × (Nat → Int) × (Nat → Int) × (Nat → Int) × (List Bool) × Unit)) → (((Unit × Unit × Bool × Unit × Unit × Unit × Int × Int × Int × Unit) × ((Nat → Int) × (Nat → Int) × (Nat → Int) × (Nat → Int) × (List Bool) × Unit)) → Option R) → Option R) (m_44_16 : ((Unit × Unit × Bool × Unit × Unit × Int × Int × Int × (Nat → Int) × Int × Unit) × ((Nat → Int) × (Nat → Int) × (Nat → Int) × (List Bool) × Unit)) → (((Unit × Unit × Bool × Unit × Int × Int × Int × Unit) × ((Nat → Int) × (Nat → Int) × (List Bool) × Unit)) → Option R) → Option R) (m_44_5 : ((Unit × Unit × Bool × Unit × Int × Int × Int × Unit) × ((Nat → Int) × (Nat → Int) × (List Bool) × Unit)) → (((Unit × Unit × Unit × Int × Int × Unit) × ((Nat → Int) × (Nat → Int) × (List Bool) × Unit)) → Option R) → Option R) (m_44_2 : ((Unit × Unit × Unit × Int × Int × Unit) × ((Nat → Int) × (Nat → Int) × (List Bool) × Unit)) → (((Unit × Unit × Unit) × ((Nat → Int) × (Nat → Int) × Unit)) → Option R) → Option R) (n : Nat) (x : pt_44_10.den) (k : Exit → St → Option R) : iter 0 lv_44_10 lo_44_10 (aexec TT (EG_44 q_95 q_40) (drawOk TT QQ) (LG_44 m_44_10 m_44_16 m_44_5 m_44_2) (loopAt 10 (bodyOf Try.f44))) (n + 1) (pt_44_10.inst x) k = C_44_10 q_95 q_40 m_44_10 m_44_16 m_44_5 m_44_2 (fun y => iter 0 lv_44_10 lo_44_10 (aexec TT (EG_44 q_95 q_40) (drawOk TT QQ) (LG_44 m_44_10 m_44_16 m_44_5 m_44_2) (loopAt 10 (bodyOf Try.f44))) n (pt_44_10.inst y) k) x (fun y => k (.exit 4) (px_44_10_0.inst y)) := by kernel_rfl
theorem step_44_10 {R : Type} (N n : Nat) (x : pt_44_10.den) (k : Exit → St → Option R) : iter 0 lv_44_10 lo_44_10 (aexec TT (E_44 (R := R) N) (drawOk TT QQ) (L_44 N) (loopAt 10 (bodyOf Try.f44))) (n + 1) (pt_44_10.inst x) k = B_44_10 N (fun y => iter 0 lv_44_10 lo_44_10 (aexec TT (E_44 (R := R) N) (drawOk TT QQ) (L_44 N) (loopAt 10 (bodyOf Try.f44))) n (pt_44_10.inst y) k) x (fun y => k (.exit 4) (px_44_10_0.inst y)) := (gstep_44_10 (p_95 N) (p_40 N) (l_44_10 N N) (l_44_16 N N) (l_44_5 N N) (l_44_2 N N) n x k).trans (by kernel_rfl)
theorem eq_44_10 {R : Type} (N : Nat) : ∀ (n : Nat) (x : pt_44_10.den) (k : Exit → St → Option R), iter 0 lv_44_10 lo_44_10 (aexec TT (E_44 (R := R) N) (drawOk TT QQ) (L_44 N) (loopAt 10 (bodyOf Try.f44))) n (pt_44_10.inst x) k = l_44_10 N n x (fun y => k (.exit 4) (px_44_10_0.inst y)) :=
  iter_eq (K := Exit → St → Option R) (ks := fun k => k) (l := fun n (x : pt_44_10.den) k => l_44_10 N n x (fun y => k (.exit 4) (px_44_10_0.inst y))) (B := fun (rec : pt_44_10.den → Option R) (x : pt_44_10.den) k => B_44_10 N rec x (fun y => k (.exit 4) (px_44_10_0.inst y))) (fun _ _ => rfl) (fun _ _ _ => rfl) (fun n x k => step_44_10 N n x k)
theorem rounds_44_10 {R : Type} (N : Nat) : Rounds 0 TT (E_44 (R := R) N) (drawOk TT QQ) (L_44 N) 10 (loopAt 10 (bodyOf Try.f44)) :=
  rounds_of (p := pt_44_10) (l := fun (x : pt_44_10.den) k => l_44_10 N N x (fun y => k (.exit 4) (px_44_10_0.inst y))) (fun s k => rfl) (fun x k => eq_44_10 N N x k)
theorem gstep_44_16 {R : Type} (q_95 : (Int × Bool × Unit) × (Unit) → ((Nat → Int) → Option R) → Option R) (q_40 : ((Nat → Int) × Unit) × (Unit) → ((Nat → Int) → Option R) → Option R) (m_44_10 : ((Unit × Unit × Bool × Unit × Unit × Unit × Int × Int × Int × (Nat → Int) × Int × Unit) × ((Nat → Int) × (Nat → Int) × (Nat → Int) × (Nat → Int) × (List Bool) × Unit)) → (((Unit × Unit × Bool × Unit × Unit × Unit × Int × Int × Int × Unit) × ((Nat → Int) × (Nat → Int) × (Nat → Int) × (Nat → Int) × (List Bool) × Unit)) → Option R) → Option R) (m_44_16 : ((Unit × Unit × Bool × Unit × Unit × Int × Int × Int × (Nat → Int) × Int × Unit) × ((Nat → Int) × (Nat → Int) × (Nat → Int) × (List Bool) × Unit)) → (((Unit × Unit × Bool × Unit × Int × Int × Int × Unit) × ((Nat → Int) × (Nat → Int) × (List Bool) × Unit)) → Option R) → Option R) (m_44_5 : ((Unit × Unit × Bool × Unit × Int × Int × Int × Unit) × ((Nat → Int) × (Nat → Int) × (List Bool) × Unit)) → (((Unit × Unit × Unit × Int × Int × Unit) × ((Nat → Int) × (Nat → Int) × (List Bool) × Unit)) → Option R) → Option R) (m_44_2 : ((Unit × Unit × Unit × Int × Int × Unit) × ((Nat → Int) × (Nat → Int) × (List Bool) × Unit)) → (((Unit × Unit × Unit) × ((Nat → Int) × (Nat → Int) × Unit)) → Option R) → Option R) (n : Nat) (x : pt_44_16.den) (k : Exit → St → Option R) : iter 0 lv_44_16 lo_44_16 (aexec TT (EG_44 q_95 q_40) (drawOk TT QQ) (LG_44 m_44_10 m_44_16 m_44_5 m_44_2) (loopAt 16 (bodyOf Try.f44))) (n + 1) (pt_44_16.inst x) k = C_44_16 q_95 q_40 m_44_10 m_44_16 m_44_5 m_44_2 (fun y => iter 0 lv_44_16 lo_44_16 (aexec TT (EG_44 q_95 q_40) (drawOk TT QQ) (LG_44 m_44_10 m_44_16 m_44_5 m_44_2) (loopAt 16 (bodyOf Try.f44))) n (pt_44_16.inst y) k) x (fun y => k (.exit 6) (px_44_16_0.inst y)) := by kernel_rfl
theorem step_44_16 {R : Type} (N n : Nat) (x : pt_44_16.den) (k : Exit → St → Option R) : iter 0 lv_44_16 lo_44_16 (aexec TT (E_44 (R := R) N) (drawOk TT QQ) (L_44 N) (loopAt 16 (bodyOf Try.f44))) (n + 1) (pt_44_16.inst x) k = B_44_16 N (fun y => iter 0 lv_44_16 lo_44_16 (aexec TT (E_44 (R := R) N) (drawOk TT QQ) (L_44 N) (loopAt 16 (bodyOf Try.f44))) n (pt_44_16.inst y) k) x (fun y => k (.exit 6) (px_44_16_0.inst y)) := (gstep_44_16 (p_95 N) (p_40 N) (l_44_10 N N) (l_44_16 N N) (l_44_5 N N) (l_44_2 N N) n x k).trans (by kernel_rfl)
theorem eq_44_16 {R : Type} (N : Nat) : ∀ (n : Nat) (x : pt_44_16.den) (k : Exit → St → Option R), iter 0 lv_44_16 lo_44_16 (aexec TT (E_44 (R := R) N) (drawOk TT QQ) (L_44 N) (loopAt 16 (bodyOf Try.f44))) n (pt_44_16.inst x) k = l_44_16 N n x (fun y => k (.exit 6) (px_44_16_0.inst y)) :=
  iter_eq (K := Exit → St → Option R) (ks := fun k => k) (l := fun n (x : pt_44_16.den) k => l_44_16 N n x (fun y => k (.exit 6) (px_44_16_0.inst y))) (B := fun (rec : pt_44_16.den → Option R) (x : pt_44_16.den) k => B_44_16 N rec x (fun y => k (.exit 6) (px_44_16_0.inst y))) (fun _ _ => rfl) (fun _ _ _ => rfl) (fun n x k => step_44_16 N n x k)
theorem rounds_44_16 {R : Type} (N : Nat) : Rounds 0 TT (E_44 (R := R) N) (drawOk TT QQ) (L_44 N) 16 (loopAt 16 (bodyOf Try.f44)) :=
  rounds_of (p := pt_44_16) (l := fun (x : pt_44_16.den) k => l_44_16 N N x (fun y => k (.exit 6) (px_44_16_0.inst y))) (fun s k => rfl) (fun x k => eq_44_16 N N x k)
theorem gstep_44_5 {R : Type} (q_95 : (Int × Bool × Unit) × (Unit) → ((Nat → Int) → Option R) → Option R) (q_40 : ((Nat → Int) × Unit) × (Unit) → ((Nat → Int) → Option R) → Option R) (m_44_10 : ((Unit × Unit × Bool × Unit × Unit × Unit × Int × Int × Int × (Nat → Int) × Int × Unit) × ((Nat → Int) × (Nat → Int) × (Nat → Int) × (Nat → Int) × (List Bool) × Unit)) → (((Unit × Unit × Bool × Unit × Unit × Unit × Int × Int × Int × Unit) × ((Nat → Int) × (Nat → Int) × (Nat → Int) × (Nat → Int) × (List Bool) × Unit)) → Option R) → Option R) (m_44_16 : ((Unit × Unit × Bool × Unit × Unit × Int × Int × Int × (Nat → Int) × Int × Unit) × ((Nat → Int) × (Nat → Int) × (Nat → Int) × (List Bool) × Unit)) → (((Unit × Unit × Bool × Unit × Int × Int × Int × Unit) × ((Nat → Int) × (Nat → Int) × (List Bool) × Unit)) → Option R) → Option R) (m_44_5 : ((Unit × Unit × Bool × Unit × Int × Int × Int × Unit) × ((Nat → Int) × (Nat → Int) × (List Bool) × Unit)) → (((Unit × Unit × Unit × Int × Int × Unit) × ((Nat → Int) × (Nat → Int) × (List Bool) × Unit)) → Option R) → Option R) (m_44_2 : ((Unit × Unit × Unit × Int × Int × Unit) × ((Nat → Int) × (Nat → Int) × (List Bool) × Unit)) → (((Unit × Unit × Unit) × ((Nat → Int) × (Nat → Int) × Unit)) → Option R) → Option R) (n : Nat) (x : pt_44_5.den) (k : Exit → St → Option R) : iter 0 lv_44_5 lo_44_5 (aexec TT (EG_44 q_95 q_40) (drawOk TT QQ) (LG_44 m_44_10 m_44_16 m_44_5 m_44_2) (loopAt 5 (bodyOf Try.f44))) (n + 1) (pt_44_5.inst x) k = C_44_5 q_95 q_40 m_44_10 m_44_16 m_44_5 m_44_2 (fun y => iter 0 lv_44_5 lo_44_5 (aexec TT (EG_44 q_95 q_40) (drawOk TT QQ) (LG_44 m_44_10 m_44_16 m_44_5 m_44_2) (loopAt 5 (bodyOf Try.f44))) n (pt_44_5.inst y) k) x (fun y => k (.exit 2) (px_44_5_0.inst y)) := by kernel_rfl
theorem step_44_5 {R : Type} (N n : Nat) (x : pt_44_5.den) (k : Exit → St → Option R) : iter 0 lv_44_5 lo_44_5 (aexec TT (E_44 (R := R) N) (drawOk TT QQ) (L_44 N) (loopAt 5 (bodyOf Try.f44))) (n + 1) (pt_44_5.inst x) k = B_44_5 N (fun y => iter 0 lv_44_5 lo_44_5 (aexec TT (E_44 (R := R) N) (drawOk TT QQ) (L_44 N) (loopAt 5 (bodyOf Try.f44))) n (pt_44_5.inst y) k) x (fun y => k (.exit 2) (px_44_5_0.inst y)) := (gstep_44_5 (p_95 N) (p_40 N) (l_44_10 N N) (l_44_16 N N) (l_44_5 N N) (l_44_2 N N) n x k).trans (by kernel_rfl)
theorem eq_44_5 {R : Type} (N : Nat) : ∀ (n : Nat) (x : pt_44_5.den) (k : Exit → St → Option R), iter 0 lv_44_5 lo_44_5 (aexec TT (E_44 (R := R) N) (drawOk TT QQ) (L_44 N) (loopAt 5 (bodyOf Try.f44))) n (pt_44_5.inst x) k = l_44_5 N n x (fun y => k (.exit 2) (px_44_5_0.inst y)) :=
  iter_eq (K := Exit → St → Option R) (ks := fun k => k) (l := fun n (x : pt_44_5.den) k => l_44_5 N n x (fun y => k (.exit 2) (px_44_5_0.inst y))) (B := fun (rec : pt_44_5.den → Option R) (x : pt_44_5.den) k => B_44_5 N rec x (fun y => k (.exit 2) (px_44_5_0.inst y))) (fun _ _ => rfl) (fun _ _ _ => rfl) (fun n x k => step_44_5 N n x k)
theorem rounds_44_5 {R : Type} (N : Nat) : Rounds 0 TT (E_44 (R := R) N) (drawOk TT QQ) (L_44 N) 5 (loopAt 5 (bodyOf Try.f44)) :=
  rounds_of (p := pt_44_5) (l := fun (x : pt_44_5.den) k => l_44_5 N N x (fun y => k (.exit 2) (px_44_5_0.inst y))) (fun s k => rfl) (fun x k => eq_44_5 N N x k)
theorem gstep_44_2 {R : Type} (q_95 : (Int × Bool × Unit) × (Unit) → ((Nat → Int) → Option R) → Option R) (q_40 : ((Nat → Int) × Unit) × (Unit) → ((Nat → Int) → Option R) → Option R) (m_44_10 : ((Unit × Unit × Bool × Unit × Unit × Unit × Int × Int × Int × (Nat → Int) × Int × Unit) × ((Nat → Int) × (Nat → Int) × (Nat → Int) × (Nat → Int) × (List Bool) × Unit)) → (((Unit × Unit × Bool × Unit × Unit × Unit × Int × Int × Int × Unit) × ((Nat → Int) × (Nat → Int) × (Nat → Int) × (Nat → Int) × (List Bool) × Unit)) → Option R) → Option R) (m_44_16 : ((Unit × Unit × Bool × Unit × Unit × Int × Int × Int × (Nat → Int) × Int × Unit) × ((Nat → Int) × (Nat → Int) × (Nat → Int) × (List Bool) × Unit)) → (((Unit × Unit × Bool × Unit × Int × Int × Int × Unit) × ((Nat → Int) × (Nat → Int) × (List Bool) × Unit)) → Option R) → Option R) (m_44_5 : ((Unit × Unit × Bool × Unit × Int × Int × Int × Unit) × ((Nat → Int) × (Nat → Int) × (List Bool) × Unit)) → (((Unit × Unit × Unit × Int × Int × Unit) × ((Nat → Int) × (Nat → Int) × (List Bool) × Unit)) → Option R) → Option R) (m_44_2 : ((Unit × Unit × Unit × Int × Int × Unit) × ((Nat → Int) × (Nat → Int) × (List Bool) × Unit)) → (((Unit × Unit × Unit) × ((Nat → Int) × (Nat → Int) × Unit)) → Option R) → Option R) (n : Nat) (x : pt_44_2.den) (k : Exit → St → Option R) : iter 0 lv_44_2 lo_44_2 (aexec TT (EG_44 q_95 q_40) (drawOk TT QQ) (LG_44 m_44_10 m_44_16 m_44_5 m_44_2) (loopAt 2 (bodyOf Try.f44))) (n + 1) (pt_44_2.inst x) k = C_44_2 q_95 q_40 m_44_10 m_44_16 m_44_5 m_44_2 (fun y => iter 0 lv_44_2 lo_44_2 (aexec TT (EG_44 q_95 q_40) (drawOk TT QQ) (LG_44 m_44_10 m_44_16 m_44_5 m_44_2) (loopAt 2 (bodyOf Try.f44))) n (pt_44_2.inst y) k) x (fun y => k (.exit 0) (px_44_2_0.inst y)) := by kernel_rfl
theorem step_44_2 {R : Type} (N n : Nat) (x : pt_44_2.den) (k : Exit → St → Option R) : iter 0 lv_44_2 lo_44_2 (aexec TT (E_44 (R := R) N) (drawOk TT QQ) (L_44 N) (loopAt 2 (bodyOf Try.f44))) (n + 1) (pt_44_2.inst x) k = B_44_2 N (fun y => iter 0 lv_44_2 lo_44_2 (aexec TT (E_44 (R := R) N) (drawOk TT QQ) (L_44 N) (loopAt 2 (bodyOf Try.f44))) n (pt_44_2.inst y) k) x (fun y => k (.exit 0) (px_44_2_0.inst y)) := (gstep_44_2 (p_95 N) (p_40 N) (l_44_10 N N) (l_44_16 N N) (l_44_5 N N) (l_44_2 N N) n x k).trans (by kernel_rfl)
theorem eq_44_2 {R : Type} (N : Nat) : ∀ (n : Nat) (x : pt_44_2.den) (k : Exit → St → Option R), iter 0 lv_44_2 lo_44_2 (aexec TT (E_44 (R := R) N) (drawOk TT QQ) (L_44 N) (loopAt 2 (bodyOf Try.f44))) n (pt_44_2.inst x) k = l_44_2 N n x (fun y => k (.exit 0) (px_44_2_0.inst y)) :=
  iter_eq (K := Exit → St → Option R) (ks := fun k => k) (l := fun n (x : pt_44_2.den) k => l_44_2 N n x (fun y => k (.exit 0) (px_44_2_0.inst y))) (B := fun (rec : pt_44_2.den → Option R) (x : pt_44_2.den) k => B_44_2 N rec x (fun y => k (.exit 0) (px_44_2_0.inst y))) (fun _ _ => rfl) (fun _ _ _ => rfl) (fun n x k => step_44_2 N n x k)
theorem rounds_44_2 {R : Type} (N : Nat) : Rounds 0 TT (E_44 (R := R) N) (drawOk TT QQ) (L_44 N) 2 (loopAt 2 (bodyOf Try.f44)) :=
  rounds_of (p := pt_44_2) (l := fun (x : pt_44_2.den) k => l_44_2 N N x (fun y => k (.exit 0) (px_44_2_0.inst y))) (fun s k => rfl) (fun x k => eq_44_2 N N x k)
theorem loops_44 : loopsIn (bodyOf Try.f44) = [(2, loopAt 2 (bodyOf Try.f44)), (5, loopAt 5 (bodyOf Try.f44)), (10, loopAt 10 (bodyOf Try.f44)), (16, loopAt 16 (bodyOf Try.f44))] := by kernel_rfl
theorem lok_44 {R : Type} (N : Nat) : LOK 0 TT (E_44 (R := R) N) (drawOk TT QQ) (L_44 N) (bodyOf Try.f44) := loops_all loops_44 (by
  simp only [List.forall_mem_cons, List.not_mem_nil, false_implies, implies_true, and_true]
  exact ⟨rounds_44_2 N, rounds_44_5 N, rounds_44_10 N, rounds_44_16 N⟩)
theorem grun_44 {R : Type} (q_95 : (Int × Bool × Unit) × (Unit) → ((Nat → Int) → Option R) → Option R) (q_40 : ((Nat → Int) × Unit) × (Unit) → ((Nat → Int) → Option R) → Option R) (m_44_10 : ((Unit × Unit × Bool × Unit × Unit × Unit × Int × Int × Int × (Nat → Int) × Int × Unit) × ((Nat → Int) × (Nat → Int) × (Nat → Int) × (Nat → Int) × (List Bool) × Unit)) → (((Unit × Unit × Bool × Unit × Unit × Unit × Int × Int × Int × Unit) × ((Nat → Int) × (Nat → Int) × (Nat → Int) × (Nat → Int) × (List Bool) × Unit)) → Option R) → Option R) (m_44_16 : ((Unit × Unit × Bool × Unit × Unit × Int × Int × Int × (Nat → Int) × Int × Unit) × ((Nat → Int) × (Nat → Int) × (Nat → Int) × (List Bool) × Unit)) → (((Unit × Unit × Bool × Unit × Int × Int × Int × Unit) × ((Nat → Int) × (Nat → Int) × (List Bool) × Unit)) → Option R) → Option R) (m_44_5 : ((Unit × Unit × Bool × Unit × Int × Int × Int × Unit) × ((Nat → Int) × (Nat → Int) × (List Bool) × Unit)) → (((Unit × Unit × Unit × Int × Int × Unit) × ((Nat → Int) × (Nat → Int) × (List Bool) × Unit)) → Option R) → Option R) (m_44_2 : ((Unit × Unit × Unit × Int × Int × Unit) × ((Nat → Int) × (Nat → Int) × (List Bool) × Unit)) → (((Unit × Unit × Unit) × ((Nat → Int) × (Nat → Int) × Unit)) → Option R) → Option R) (x : aden ap_44 × hden hp_44) (k : KF R) : fnrun TT (EG_44 q_95 q_40) (drawOk TT QQ) (LG_44 m_44_10 m_44_16 m_44_5 m_44_2) true Try.f44 (instA ap_44 x.1) (instH hp_44 x.2) k = Q_44 q_95 q_40 m_44_10 m_44_16 m_44_5 m_44_2 x (fun y => k (Pat.inst (.vec (.int .u64) 128) y) (instH hp_44 x.2)) := by kernel_rfl
theorem run_44 {R : Type} (N : Nat) (x : aden ap_44 × hden hp_44) (k : KF R) : fnrun TT (E_44 (R := R) N) (drawOk TT QQ) (L_44 N) true Try.f44 (instA ap_44 x.1) (instH hp_44 x.2) k = p_44 N x (fun y => k (Pat.inst (.vec (.int .u64) 128) y) (instH hp_44 x.2)) := (grun_44 (p_95 N) (p_40 N) (l_44_10 N N) (l_44_16 N N) (l_44_5 N N) (l_44_2 N N) x k).trans (by kernel_rfl)
theorem good_44 {R : Type} (N : Nat) : GD (X := R) Try.prog QQ 44 ap_44 hp_44 (fun (x : aden ap_44 × hden hp_44) k => p_44 N x (fun y => k (Pat.inst (.vec (.int .u64) 128) y) (instH hp_44 x.2))) :=
  gd_quiet (E := E_44 N) (p := fun (x : aden ap_44 × hden hp_44) κ => p_44 N x (fun y => κ (Pat.inst (.vec (.int .u64) 128) y))) mixed tyok (eok_44 N) Try.func44 (by kernel_rfl) (by kernel_rfl) (lok_44 N) (fun x k => run_44 N x k)

def ap_43 : List Pat := [.vec (.int .u64) 128, .vec (.int .u64) 128]
def hp_43 : List (Option (Pat × Nat)) := []
def p_43 {R : Type} (N : Nat) (x : ((Nat → Int) × (Nat → Int) × Unit) × (Unit)) (κ0 : (Nat → Int) → Option R) : Option R :=
let a52 : (Nat → Int) := x.1.1
let a53 : (Nat → Int) := x.1.2.1
let l54 : (List (Nat → Int)) := [a52, a53]
p_94 N ((l54, ()), ()) (fun y85 =>
let a86 : (Nat → Int) := y85
p_44 N ((a86, ()), ()) (fun y225 =>
let a226 : (Nat → Int) := y225
let l227 : (List (Nat → Int)) := [a86, a226]
p_94 N ((l227, ()), ()) (fun y228 =>
let a229 : (Nat → Int) := y228
κ0 a229)))

def Q_43 {R : Type} (q_94 : ((List (Nat → Int)) × Unit) × (Unit) → ((Nat → Int) → Option R) → Option R) (q_44 : ((Nat → Int) × Unit) × (Unit) → ((Nat → Int) → Option R) → Option R) (x : ((Nat → Int) × (Nat → Int) × Unit) × (Unit)) (κ0 : (Nat → Int) → Option R) : Option R :=
let a52 : (Nat → Int) := x.1.1
let a53 : (Nat → Int) := x.1.2.1
let l54 : (List (Nat → Int)) := [a52, a53]
q_94 ((l54, ()), ()) (fun y85 =>
let a86 : (Nat → Int) := y85
q_44 ((a86, ()), ()) (fun y225 =>
let a226 : (Nat → Int) := y225
let l227 : (List (Nat → Int)) := [a86, a226]
q_94 ((l227, ()), ()) (fun y228 =>
let a229 : (Nat → Int) := y228
κ0 a229)))
def EG_43 {R : Type} (q_94 : ((List (Nat → Int)) × Unit) × (Unit) → ((Nat → Int) → Option R) → Option R) (q_44 : ((Nat → Int) × Unit) × (Unit) → ((Nat → Int) → Option R) → Option R) : Env R := ((Env.base QQ LN).add 94 ap_94 hp_94 (fun (x : aden ap_94 × hden hp_94) k => q_94 x (fun y => k (Pat.inst (.vec (.int .u64) 128) y) (instH hp_94 x.2)))).add 44 ap_44 hp_44 (fun (x : aden ap_44 × hden hp_44) k => q_44 x (fun y => k (Pat.inst (.vec (.int .u64) 128) y) (instH hp_44 x.2)))
def LG_43 {R : Type} : Loops R := Loops.none
def E_43 {R : Type} (N : Nat) : Env R := EG_43 (p_94 N) (p_44 N)
theorem eok_43 {R : Type} (N : Nat) : EK Try.prog (E_43 (R := R) N) := ek_add (ek_add (ek_base _ _) (good_94 N)) (good_44 N)
def L_43 {R : Type} (N : Nat) : Loops R := LG_43
theorem lok_43 {R : Type} (N : Nat) : LOK 0 TT (E_43 (R := R) N) (drawOk TT QQ) (L_43 N) (bodyOf Try.f43) := loops_nil (by kernel_rfl)
theorem grun_43 {R : Type} (q_94 : ((List (Nat → Int)) × Unit) × (Unit) → ((Nat → Int) → Option R) → Option R) (q_44 : ((Nat → Int) × Unit) × (Unit) → ((Nat → Int) → Option R) → Option R) (x : aden ap_43 × hden hp_43) (k : KF R) : fnrun TT (EG_43 q_94 q_44) (drawOk TT QQ) (LG_43) true Try.f43 (instA ap_43 x.1) (instH hp_43 x.2) k = Q_43 q_94 q_44 x (fun y => k (Pat.inst (.vec (.int .u64) 128) y) (instH hp_43 x.2)) := by kernel_rfl
theorem run_43 {R : Type} (N : Nat) (x : aden ap_43 × hden hp_43) (k : KF R) : fnrun TT (E_43 (R := R) N) (drawOk TT QQ) (L_43 N) true Try.f43 (instA ap_43 x.1) (instH hp_43 x.2) k = p_43 N x (fun y => k (Pat.inst (.vec (.int .u64) 128) y) (instH hp_43 x.2)) := (grun_43 (p_94 N) (p_44 N) x k).trans (by kernel_rfl)
theorem good_43 {R : Type} (N : Nat) : GD (X := R) Try.prog QQ 43 ap_43 hp_43 (fun (x : aden ap_43 × hden hp_43) k => p_43 N x (fun y => k (Pat.inst (.vec (.int .u64) 128) y) (instH hp_43 x.2))) :=
  gd_quiet (E := E_43 N) (p := fun (x : aden ap_43 × hden hp_43) κ => p_43 N x (fun y => κ (Pat.inst (.vec (.int .u64) 128) y))) mixed tyok (eok_43 N) Try.func43 (by kernel_rfl) (by kernel_rfl) (lok_43 N) (fun x k => run_43 N x k)

def ap_37 : List Pat := []
def hp_37 : List (Option (Pat × Nat)) := []
def p_37 {R : Type} (N : Nat) (x : (Unit) × (Unit)) (κ0 : Bool → Option R) : Option R :=
let a4 : (Nat → Int) := (upd ((upd ((upd ((Sch.zero (.arr 128 (.int .u64)))) 0 1)) 1 2)) 2 3)
p_38 N ((1, 0, 0, 0, ()), ()) (fun y47 =>
let i48 : Int := y47.1
let i49 : Int := y47.2.1
let i50 : Int := y47.2.2.1
let i51 : Int := y47.2.2.2.1
p_43 N ((a4, a4, ()), ()) (fun y230 =>
let a231 : (Nat → Int) := y230
let a232 : (Nat → Int) := (Sch.zero (.arr 128 (.int .u64)))
bif (schEq (.arr 128 (.int .u64)) a231 a232) then (
let a233 : (Nat → Int) := (Sch.zero (.arr 128 (.int .u64)))
p_43 N ((a4, a233, ()), ()) (fun y234 =>
let a235 : (Nat → Int) := y234
let a236 : (Nat → Int) := (Sch.zero (.arr 128 (.int .u64)))
bif (!(schEq (.arr 128 (.int .u64)) a235 a236)) then (
κ0 ((decide (i48 > 1)))) else (
κ0 false))) else (
κ0 false)))

def Q_37 {R : Type} (q_38 : (Int × Int × Int × Int × Unit) × (Unit) → ((Int × (Int × (Int × (Int × Unit)))) → Option R) → Option R) (q_43 : ((Nat → Int) × (Nat → Int) × Unit) × (Unit) → ((Nat → Int) → Option R) → Option R) (x : (Unit) × (Unit)) (κ0 : Bool → Option R) : Option R :=
let a4 : (Nat → Int) := (upd ((upd ((upd ((Sch.zero (.arr 128 (.int .u64)))) 0 1)) 1 2)) 2 3)
q_38 ((1, 0, 0, 0, ()), ()) (fun y47 =>
let i48 : Int := y47.1
let i49 : Int := y47.2.1
let i50 : Int := y47.2.2.1
let i51 : Int := y47.2.2.2.1
q_43 ((a4, a4, ()), ()) (fun y230 =>
let a231 : (Nat → Int) := y230
let a232 : (Nat → Int) := (Sch.zero (.arr 128 (.int .u64)))
bif (schEq (.arr 128 (.int .u64)) a231 a232) then (
let a233 : (Nat → Int) := (Sch.zero (.arr 128 (.int .u64)))
q_43 ((a4, a233, ()), ()) (fun y234 =>
let a235 : (Nat → Int) := y234
let a236 : (Nat → Int) := (Sch.zero (.arr 128 (.int .u64)))
bif (!(schEq (.arr 128 (.int .u64)) a235 a236)) then (
κ0 ((decide (i48 > 1)))) else (
κ0 false))) else (
κ0 false)))
def EG_37 {R : Type} (q_38 : (Int × Int × Int × Int × Unit) × (Unit) → ((Int × (Int × (Int × (Int × Unit)))) → Option R) → Option R) (q_43 : ((Nat → Int) × (Nat → Int) × Unit) × (Unit) → ((Nat → Int) → Option R) → Option R) : Env R := ((Env.base QQ LN).add 38 ap_38 hp_38 (fun (x : aden ap_38 × hden hp_38) k => q_38 x (fun y => k (Pat.inst (.tup (.fcons (.int .u64) (.fcons (.int .u64) (.fcons (.int .u64) (.fcons (.int .u64) (.fnil)))))) y) (instH hp_38 x.2)))).add 43 ap_43 hp_43 (fun (x : aden ap_43 × hden hp_43) k => q_43 x (fun y => k (Pat.inst (.vec (.int .u64) 128) y) (instH hp_43 x.2)))
def LG_37 {R : Type} : Loops R := Loops.none
def E_37 {R : Type} (N : Nat) : Env R := EG_37 (p_38 N) (p_43 N)
theorem eok_37 {R : Type} (N : Nat) : EK Try.prog (E_37 (R := R) N) := ek_add (ek_add (ek_base _ _) (good_38 N)) (good_43 N)
def L_37 {R : Type} (N : Nat) : Loops R := LG_37
theorem lok_37 {R : Type} (N : Nat) : LOK 0 TT (E_37 (R := R) N) (drawOk TT QQ) (L_37 N) (bodyOf Try.f37) := loops_nil (by kernel_rfl)
theorem grun_37 {R : Type} (q_38 : (Int × Int × Int × Int × Unit) × (Unit) → ((Int × (Int × (Int × (Int × Unit)))) → Option R) → Option R) (q_43 : ((Nat → Int) × (Nat → Int) × Unit) × (Unit) → ((Nat → Int) → Option R) → Option R) (x : aden ap_37 × hden hp_37) (k : KF R) : fnrun TT (EG_37 q_38 q_43) (drawOk TT QQ) (LG_37) true Try.f37 (instA ap_37 x.1) (instH hp_37 x.2) k = Q_37 q_38 q_43 x (fun y => k (Pat.inst (.bool) y) (instH hp_37 x.2)) := by kernel_rfl
theorem run_37 {R : Type} (N : Nat) (x : aden ap_37 × hden hp_37) (k : KF R) : fnrun TT (E_37 (R := R) N) (drawOk TT QQ) (L_37 N) true Try.f37 (instA ap_37 x.1) (instH hp_37 x.2) k = p_37 N x (fun y => k (Pat.inst (.bool) y) (instH hp_37 x.2)) := (grun_37 (p_38 N) (p_43 N) x k).trans (by kernel_rfl)
theorem good_37 {R : Type} (N : Nat) : GD (X := R) Try.prog QQ 37 ap_37 hp_37 (fun (x : aden ap_37 × hden hp_37) k => p_37 N x (fun y => k (Pat.inst (.bool) y) (instH hp_37 x.2))) :=
  gd_quiet (E := E_37 N) (p := fun (x : aden ap_37 × hden hp_37) κ => p_37 N x (fun y => κ (Pat.inst (.bool) y))) mixed tyok (eok_37 N) Try.func37 (by kernel_rfl) (by kernel_rfl) (lok_37 N) (fun x k => run_37 N x k)

def lv_47_6 : Live := [(0, none), (2, none), (3, none), (4, none), (5, none)]
def pt_47_6 : SPat := ⟨[(0, .ros (.arr 128 (.int .u64))), (2, .ptr 0 []), (3, .ptr 1 []), (4, .int .i64), (5, .int .i64)], [some (.vec (.int .u64) 128, 70), some (.vec (.int .u64) 128, 70)]⟩
def px_47_6_0 : SPat := ⟨[(0, .ros (.arr 128 (.int .u64))), (2, .ptr 0 []), (3, .ptr 1 []), (4, .int .i64)], [some (.vec (.int .u64) 128, 70), some (.vec (.int .u64) 128, 70)]⟩
def lo_47_6 : Exit → Live
  | .exit 2 => [(0, none), (2, none), (3, none), (4, none)]
  | _ => []
def B_47_6 {R : Type} (N : Nat) (rec : (((List (Nat → Int)) × Unit × Unit × Int × Int × Unit) × ((Nat → Int) × (Nat → Int) × Unit)) → Option R) (x : (((List (Nat → Int)) × Unit × Unit × Int × Int × Unit) × ((Nat → Int) × (Nat → Int) × Unit))) (κ0 : (((List (Nat → Int)) × Unit × Unit × Int × Unit) × ((Nat → Int) × (Nat → Int) × Unit)) → Option R) : Option R :=
let l248 : (List (Nat → Int)) := x.1.1
let i249 : Int := x.1.2.2.2.1
let i250 : Int := x.1.2.2.2.2.1
let a251 : (Nat → Int) := x.2.1
let a252 : (Nat → Int) := x.2.2.1
let i253 : Int := (((List.length l248) : Nat) : Int)
bif (decide (i250 < i253)) then (
bif decide (0 ≤ i249) then (
bif decide (i249 < (128 : Int)) then (
let i254 : Int := (a252 ((Int.toNat i249)))
bif decide (0 ≤ i250) then (
bif decide (i250 < ((List.length l248) : Int)) then (
let p255 : (Nat → Int) := (List.getD l248 ((Int.toNat i250)) (Sch.zero (.arr 128 (.int .u64))))
bif decide (0 ≤ i249) then (
bif decide (i249 < (128 : Int)) then (
let i256 : Int := (p255 ((Int.toNat i249)))
let i257 : Int := xorA .u64 i254 i256
bif decide (0 ≤ i249) then (
bif decide (i249 < (128 : Int)) then (
let a258 : (Nat → Int) := (upd a252 ((Int.toNat i249)) i257)
let i259 : Int := addA .i64 i250 1
rec ((l248, (), (), i249, i259, ()), (a251, a258, ()))) else none) else none) else none) else none) else none) else none) else none) else none) else (
κ0 ((l248, (), (), i249, ()), (a251, a252, ())))
def l_47_6 {R : Type} (N : Nat) : Nat → (((List (Nat → Int)) × Unit × Unit × Int × Int × Unit) × ((Nat → Int) × (Nat → Int) × Unit)) → ((((List (Nat → Int)) × Unit × Unit × Int × Unit) × ((Nat → Int) × (Nat → Int) × Unit)) → Option R) → Option R
  | 0, _, _ => none
  | n + 1, x, κ0 => B_47_6 N (fun y => l_47_6 N n y κ0) x κ0
def lv_47_3 : Live := [(0, none), (2, none), (3, none), (4, none)]
def pt_47_3 : SPat := ⟨[(0, .ros (.arr 128 (.int .u64))), (2, .ptr 0 []), (3, .ptr 1 []), (4, .int .i64)], [some (.vec (.int .u64) 128, 70), some (.vec (.int .u64) 128, 70)]⟩
def px_47_3_0 : SPat := ⟨[(2, .ptr 0 []), (3, .ptr 1 [])], [some (.vec (.int .u64) 128, 70), some (.vec (.int .u64) 128, 70)]⟩
def lo_47_3 : Exit → Live
  | .exit 0 => [(2, none), (3, none)]
  | _ => []
def B_47_3 {R : Type} (N : Nat) (rec : (((List (Nat → Int)) × Unit × Unit × Int × Unit) × ((Nat → Int) × (Nat → Int) × Unit)) → Option R) (x : (((List (Nat → Int)) × Unit × Unit × Int × Unit) × ((Nat → Int) × (Nat → Int) × Unit))) (κ0 : ((Unit × Unit × Unit) × ((Nat → Int) × (Nat → Int) × Unit)) → Option R) : Option R :=
let l244 : (List (Nat → Int)) := x.1.1
let i245 : Int := x.1.2.2.2.1
let a246 : (Nat → Int) := x.2.1
let a247 : (Nat → Int) := x.2.2.1
bif (decide (i245 < 128)) then (
l_47_6 N N ((l244, (), (), i245, 0, ()), (a246, a247, ())) (fun y260 =>
let l261 : (List (Nat → Int)) := y260.1.1
let i262 : Int := y260.1.2.2.2.1
let a263 : (Nat → Int) := y260.2.1
let a264 : (Nat → Int) := y260.2.2.1
let i265 : Int := addA .i64 i262 1
rec ((l261, (), (), i265, ()), (a263, a264, ())))) else (
κ0 (((), (), ()), (a246, a247, ())))
def l_47_3 {R : Type} (N : Nat) : Nat → (((List (Nat → Int)) × Unit × Unit × Int × Unit) × ((Nat → Int) × (Nat → Int) × Unit)) → (((Unit × Unit × Unit) × ((Nat → Int) × (Nat → Int) × Unit)) → Option R) → Option R
  | 0, _, _ => none
  | n + 1, x, κ0 => B_47_3 N (fun y => l_47_3 N n y κ0) x κ0
def ap_47 : List Pat := [.ros (.arr 128 (.int .u64))]
def hp_47 : List (Option (Pat × Nat)) := []
def p_47 {R : Type} (N : Nat) (x : ((List (Nat → Int)) × Unit) × (Unit)) (κ0 : (Nat → Int) → Option R) : Option R :=
let l243 : (List (Nat → Int)) := x.1.1
l_47_3 N N ((l243, (), (), 0, ()), ((Sch.zero (.arr 128 (.int .u64))), (Sch.zero (.arr 128 (.int .u64))), ())) (fun y266 =>
let a267 : (Nat → Int) := y266.2.1
let a268 : (Nat → Int) := y266.2.2.1
κ0 a268)

def Q_47 {R : Type} (m_47_6 : (((List (Nat → Int)) × Unit × Unit × Int × Int × Unit) × ((Nat → Int) × (Nat → Int) × Unit)) → ((((List (Nat → Int)) × Unit × Unit × Int × Unit) × ((Nat → Int) × (Nat → Int) × Unit)) → Option R) → Option R) (m_47_3 : (((List (Nat → Int)) × Unit × Unit × Int × Unit) × ((Nat → Int) × (Nat → Int) × Unit)) → (((Unit × Unit × Unit) × ((Nat → Int) × (Nat → Int) × Unit)) → Option R) → Option R) (x : ((List (Nat → Int)) × Unit) × (Unit)) (κ0 : (Nat → Int) → Option R) : Option R :=
let l243 : (List (Nat → Int)) := x.1.1
m_47_3 ((l243, (), (), 0, ()), ((Sch.zero (.arr 128 (.int .u64))), (Sch.zero (.arr 128 (.int .u64))), ())) (fun y266 =>
let a267 : (Nat → Int) := y266.2.1
let a268 : (Nat → Int) := y266.2.2.1
κ0 a268)
def C_47_6 {R : Type} (m_47_6 : (((List (Nat → Int)) × Unit × Unit × Int × Int × Unit) × ((Nat → Int) × (Nat → Int) × Unit)) → ((((List (Nat → Int)) × Unit × Unit × Int × Unit) × ((Nat → Int) × (Nat → Int) × Unit)) → Option R) → Option R) (m_47_3 : (((List (Nat → Int)) × Unit × Unit × Int × Unit) × ((Nat → Int) × (Nat → Int) × Unit)) → (((Unit × Unit × Unit) × ((Nat → Int) × (Nat → Int) × Unit)) → Option R) → Option R) (rec : (((List (Nat → Int)) × Unit × Unit × Int × Int × Unit) × ((Nat → Int) × (Nat → Int) × Unit)) → Option R) (x : (((List (Nat → Int)) × Unit × Unit × Int × Int × Unit) × ((Nat → Int) × (Nat → Int) × Unit))) (κ0 : (((List (Nat → Int)) × Unit × Unit × Int × Unit) × ((Nat → Int) × (Nat → Int) × Unit)) → Option R) : Option R :=
let l248 : (List (Nat → Int)) := x.1.1
let i249 : Int := x.1.2.2.2.1
let i250 : Int := x.1.2.2.2.2.1
let a251 : (Nat → Int) := x.2.1
let a252 : (Nat → Int) := x.2.2.1
let i253 : Int := (((List.length l248) : Nat) : Int)
bif (decide (i250 < i253)) then (
bif decide (0 ≤ i249) then (
bif decide (i249 < (128 : Int)) then (
let i254 : Int := (a252 ((Int.toNat i249)))
bif decide (0 ≤ i250) then (
bif decide (i250 < ((List.length l248) : Int)) then (
let p255 : (Nat → Int) := (List.getD l248 ((Int.toNat i250)) (Sch.zero (.arr 128 (.int .u64))))
bif decide (0 ≤ i249) then (
bif decide (i249 < (128 : Int)) then (
let i256 : Int := (p255 ((Int.toNat i249)))
let i257 : Int := xorA .u64 i254 i256
bif decide (0 ≤ i249) then (
bif decide (i249 < (128 : Int)) then (
let a258 : (Nat → Int) := (upd a252 ((Int.toNat i249)) i257)
let i259 : Int := addA .i64 i250 1
rec ((l248, (), (), i249, i259, ()), (a251, a258, ()))) else none) else none) else none) else none) else none) else none) else none) else none) else (
κ0 ((l248, (), (), i249, ()), (a251, a252, ())))
def C_47_3 {R : Type} (m_47_6 : (((List (Nat → Int)) × Unit × Unit × Int × Int × Unit) × ((Nat → Int) × (Nat → Int) × Unit)) → ((((List (Nat → Int)) × Unit × Unit × Int × Unit) × ((Nat → Int) × (Nat → Int) × Unit)) → Option R) → Option R) (m_47_3 : (((List (Nat → Int)) × Unit × Unit × Int × Unit) × ((Nat → Int) × (Nat → Int) × Unit)) → (((Unit × Unit × Unit) × ((Nat → Int) × (Nat → Int) × Unit)) → Option R) → Option R) (rec : (((List (Nat → Int)) × Unit × Unit × Int × Unit) × ((Nat → Int) × (Nat → Int) × Unit)) → Option R) (x : (((List (Nat → Int)) × Unit × Unit × Int × Unit) × ((Nat → Int) × (Nat → Int) × Unit))) (κ0 : ((Unit × Unit × Unit) × ((Nat → Int) × (Nat → Int) × Unit)) → Option R) : Option R :=
let l244 : (List (Nat → Int)) := x.1.1
let i245 : Int := x.1.2.2.2.1
let a246 : (Nat → Int) := x.2.1
let a247 : (Nat → Int) := x.2.2.1
bif (decide (i245 < 128)) then (
m_47_6 ((l244, (), (), i245, 0, ()), (a246, a247, ())) (fun y260 =>
let l261 : (List (Nat → Int)) := y260.1.1
let i262 : Int := y260.1.2.2.2.1
let a263 : (Nat → Int) := y260.2.1
let a264 : (Nat → Int) := y260.2.2.1
let i265 : Int := addA .i64 i262 1
rec ((l261, (), (), i265, ()), (a263, a264, ())))) else (
κ0 (((), (), ()), (a246, a247, ())))
def EG_47 {R : Type} : Env R := Env.base QQ LN
def LG_47 {R : Type} (m_47_6 : (((List (Nat → Int)) × Unit × Unit × Int × Int × Unit) × ((Nat → Int) × (Nat → Int) × Unit)) → ((((List (Nat → Int)) × Unit × Unit × Int × Unit) × ((Nat → Int) × (Nat → Int) × Unit)) → Option R) → Option R) (m_47_3 : (((List (Nat → Int)) × Unit × Unit × Int × Unit) × ((Nat → Int) × (Nat → Int) × Unit)) → (((Unit × Unit × Unit) × ((Nat → Int) × (Nat → Int) × Unit)) → Option R) → Option R) : Loops R := ((Loops.none).add 6 (loopBy 0 lv_47_6 pt_47_6 (fun x k => m_47_6 x (fun y => k (.exit 2) (px_47_6_0.inst y))))).add 3 (loopBy 0 lv_47_3 pt_47_3 (fun x k => m_47_3 x (fun y => k (.exit 0) (px_47_3_0.inst y))))
def E_47 {R : Type} (N : Nat) : Env R := EG_47
theorem eok_47 {R : Type} (N : Nat) : EK Try.prog (E_47 (R := R) N) := ek_base _ _
def L_47 {R : Type} (N : Nat) : Loops R := LG_47 (l_47_6 N N) (l_47_3 N N)
theorem gstep_47_6 {R : Type} (m_47_6 : (((List (Nat → Int)) × Unit × Unit × Int × Int × Unit) × ((Nat → Int) × (Nat → Int) × Unit)) → ((((List (Nat → Int)) × Unit × Unit × Int × Unit) × ((Nat → Int) × (Nat → Int) × Unit)) → Option R) → Option R) (m_47_3 : (((List (Nat → Int)) × Unit × Unit × Int × Unit) × ((Nat → Int) × (Nat → Int) × Unit)) → (((Unit × Unit × Unit) × ((Nat → Int) × (Nat → Int) × Unit)) → Option R) → Option R) (n : Nat) (x : pt_47_6.den) (k : Exit → St → Option R) : iter 0 lv_47_6 lo_47_6 (aexec TT (EG_47) (drawOk TT QQ) (LG_47 m_47_6 m_47_3) (loopAt 6 (bodyOf Try.f47))) (n + 1) (pt_47_6.inst x) k = C_47_6 m_47_6 m_47_3 (fun y => iter 0 lv_47_6 lo_47_6 (aexec TT (EG_47) (drawOk TT QQ) (LG_47 m_47_6 m_47_3) (loopAt 6 (bodyOf Try.f47))) n (pt_47_6.inst y) k) x (fun y => k (.exit 2) (px_47_6_0.inst y)) := by kernel_rfl
theorem step_47_6 {R : Type} (N n : Nat) (x : pt_47_6.den) (k : Exit → St → Option R) : iter 0 lv_47_6 lo_47_6 (aexec TT (E_47 (R := R) N) (drawOk TT QQ) (L_47 N) (loopAt 6 (bodyOf Try.f47))) (n + 1) (pt_47_6.inst x) k = B_47_6 N (fun y => iter 0 lv_47_6 lo_47_6 (aexec TT (E_47 (R := R) N) (drawOk TT QQ) (L_47 N) (loopAt 6 (bodyOf Try.f47))) n (pt_47_6.inst y) k) x (fun y => k (.exit 2) (px_47_6_0.inst y)) := (gstep_47_6 (l_47_6 N N) (l_47_3 N N) n x k).trans (by kernel_rfl)
theorem eq_47_6 {R : Type} (N : Nat) : ∀ (n : Nat) (x : pt_47_6.den) (k : Exit → St → Option R), iter 0 lv_47_6 lo_47_6 (aexec TT (E_47 (R := R) N) (drawOk TT QQ) (L_47 N) (loopAt 6 (bodyOf Try.f47))) n (pt_47_6.inst x) k = l_47_6 N n x (fun y => k (.exit 2) (px_47_6_0.inst y)) :=
  iter_eq (K := Exit → St → Option R) (ks := fun k => k) (l := fun n (x : pt_47_6.den) k => l_47_6 N n x (fun y => k (.exit 2) (px_47_6_0.inst y))) (B := fun (rec : pt_47_6.den → Option R) (x : pt_47_6.den) k => B_47_6 N rec x (fun y => k (.exit 2) (px_47_6_0.inst y))) (fun _ _ => rfl) (fun _ _ _ => rfl) (fun n x k => step_47_6 N n x k)
theorem rounds_47_6 {R : Type} (N : Nat) : Rounds 0 TT (E_47 (R := R) N) (drawOk TT QQ) (L_47 N) 6 (loopAt 6 (bodyOf Try.f47)) :=
  rounds_of (p := pt_47_6) (l := fun (x : pt_47_6.den) k => l_47_6 N N x (fun y => k (.exit 2) (px_47_6_0.inst y))) (fun s k => rfl) (fun x k => eq_47_6 N N x k)
theorem gstep_47_3 {R : Type} (m_47_6 : (((List (Nat → Int)) × Unit × Unit × Int × Int × Unit) × ((Nat → Int) × (Nat → Int) × Unit)) → ((((List (Nat → Int)) × Unit × Unit × Int × Unit) × ((Nat → Int) × (Nat → Int) × Unit)) → Option R) → Option R) (m_47_3 : (((List (Nat → Int)) × Unit × Unit × Int × Unit) × ((Nat → Int) × (Nat → Int) × Unit)) → (((Unit × Unit × Unit) × ((Nat → Int) × (Nat → Int) × Unit)) → Option R) → Option R) (n : Nat) (x : pt_47_3.den) (k : Exit → St → Option R) : iter 0 lv_47_3 lo_47_3 (aexec TT (EG_47) (drawOk TT QQ) (LG_47 m_47_6 m_47_3) (loopAt 3 (bodyOf Try.f47))) (n + 1) (pt_47_3.inst x) k = C_47_3 m_47_6 m_47_3 (fun y => iter 0 lv_47_3 lo_47_3 (aexec TT (EG_47) (drawOk TT QQ) (LG_47 m_47_6 m_47_3) (loopAt 3 (bodyOf Try.f47))) n (pt_47_3.inst y) k) x (fun y => k (.exit 0) (px_47_3_0.inst y)) := by kernel_rfl
theorem step_47_3 {R : Type} (N n : Nat) (x : pt_47_3.den) (k : Exit → St → Option R) : iter 0 lv_47_3 lo_47_3 (aexec TT (E_47 (R := R) N) (drawOk TT QQ) (L_47 N) (loopAt 3 (bodyOf Try.f47))) (n + 1) (pt_47_3.inst x) k = B_47_3 N (fun y => iter 0 lv_47_3 lo_47_3 (aexec TT (E_47 (R := R) N) (drawOk TT QQ) (L_47 N) (loopAt 3 (bodyOf Try.f47))) n (pt_47_3.inst y) k) x (fun y => k (.exit 0) (px_47_3_0.inst y)) := (gstep_47_3 (l_47_6 N N) (l_47_3 N N) n x k).trans (by kernel_rfl)
theorem eq_47_3 {R : Type} (N : Nat) : ∀ (n : Nat) (x : pt_47_3.den) (k : Exit → St → Option R), iter 0 lv_47_3 lo_47_3 (aexec TT (E_47 (R := R) N) (drawOk TT QQ) (L_47 N) (loopAt 3 (bodyOf Try.f47))) n (pt_47_3.inst x) k = l_47_3 N n x (fun y => k (.exit 0) (px_47_3_0.inst y)) :=
  iter_eq (K := Exit → St → Option R) (ks := fun k => k) (l := fun n (x : pt_47_3.den) k => l_47_3 N n x (fun y => k (.exit 0) (px_47_3_0.inst y))) (B := fun (rec : pt_47_3.den → Option R) (x : pt_47_3.den) k => B_47_3 N rec x (fun y => k (.exit 0) (px_47_3_0.inst y))) (fun _ _ => rfl) (fun _ _ _ => rfl) (fun n x k => step_47_3 N n x k)
theorem rounds_47_3 {R : Type} (N : Nat) : Rounds 0 TT (E_47 (R := R) N) (drawOk TT QQ) (L_47 N) 3 (loopAt 3 (bodyOf Try.f47)) :=
  rounds_of (p := pt_47_3) (l := fun (x : pt_47_3.den) k => l_47_3 N N x (fun y => k (.exit 0) (px_47_3_0.inst y))) (fun s k => rfl) (fun x k => eq_47_3 N N x k)
theorem loops_47 : loopsIn (bodyOf Try.f47) = [(3, loopAt 3 (bodyOf Try.f47)), (6, loopAt 6 (bodyOf Try.f47))] := by kernel_rfl
theorem lok_47 {R : Type} (N : Nat) : LOK 0 TT (E_47 (R := R) N) (drawOk TT QQ) (L_47 N) (bodyOf Try.f47) := loops_all loops_47 (by
  simp only [List.forall_mem_cons, List.not_mem_nil, false_implies, implies_true, and_true]
  exact ⟨rounds_47_3 N, rounds_47_6 N⟩)
theorem grun_47 {R : Type} (m_47_6 : (((List (Nat → Int)) × Unit × Unit × Int × Int × Unit) × ((Nat → Int) × (Nat → Int) × Unit)) → ((((List (Nat → Int)) × Unit × Unit × Int × Unit) × ((Nat → Int) × (Nat → Int) × Unit)) → Option R) → Option R) (m_47_3 : (((List (Nat → Int)) × Unit × Unit × Int × Unit) × ((Nat → Int) × (Nat → Int) × Unit)) → (((Unit × Unit × Unit) × ((Nat → Int) × (Nat → Int) × Unit)) → Option R) → Option R) (x : aden ap_47 × hden hp_47) (k : KF R) : fnrun TT (EG_47) (drawOk TT QQ) (LG_47 m_47_6 m_47_3) true Try.f47 (instA ap_47 x.1) (instH hp_47 x.2) k = Q_47 m_47_6 m_47_3 x (fun y => k (Pat.inst (.vec (.int .u64) 128) y) (instH hp_47 x.2)) := by kernel_rfl
theorem run_47 {R : Type} (N : Nat) (x : aden ap_47 × hden hp_47) (k : KF R) : fnrun TT (E_47 (R := R) N) (drawOk TT QQ) (L_47 N) true Try.f47 (instA ap_47 x.1) (instH hp_47 x.2) k = p_47 N x (fun y => k (Pat.inst (.vec (.int .u64) 128) y) (instH hp_47 x.2)) := (grun_47 (l_47_6 N N) (l_47_3 N N) x k).trans (by kernel_rfl)
theorem good_47 {R : Type} (N : Nat) : GD (X := R) Try.prog QQ 47 ap_47 hp_47 (fun (x : aden ap_47 × hden hp_47) k => p_47 N x (fun y => k (Pat.inst (.vec (.int .u64) 128) y) (instH hp_47 x.2))) :=
  gd_quiet (E := E_47 N) (p := fun (x : aden ap_47 × hden hp_47) κ => p_47 N x (fun y => κ (Pat.inst (.vec (.int .u64) 128) y))) mixed tyok (eok_47 N) Try.func47 (by kernel_rfl) (by kernel_rfl) (lok_47 N) (fun x k => run_47 N x k)

def ap_91 : List Pat := [.int .u64, .int .u64]
def hp_91 : List (Option (Pat × Nat)) := []
def p_91 {R : Type} (N : Nat) (x : (Int × Int × Unit) × (Unit)) (κ0 : Int → Option R) : Option R :=
let i345 : Int := x.1.1
let i346 : Int := x.1.2.1
let i347 : Int := addA .u64 i345 i346
let i348 : Int := remA .u64 i345 4294967296
let i349 : Int := mulA .u64 2 i348
let i350 : Int := remA .u64 i346 4294967296
let i351 : Int := mulA .u64 i349 i350
let i352 : Int := addA .u64 i347 i351
κ0 i352

def Q_91 {R : Type} (x : (Int × Int × Unit) × (Unit)) (κ0 : Int → Option R) : Option R :=
let i345 : Int := x.1.1
let i346 : Int := x.1.2.1
let i347 : Int := addA .u64 i345 i346
let i348 : Int := remA .u64 i345 4294967296
let i349 : Int := mulA .u64 2 i348
let i350 : Int := remA .u64 i346 4294967296
let i351 : Int := mulA .u64 i349 i350
let i352 : Int := addA .u64 i347 i351
κ0 i352
def EG_91 {R : Type} : Env R := Env.base QQ LN
def LG_91 {R : Type} : Loops R := Loops.none
def E_91 {R : Type} (N : Nat) : Env R := EG_91
theorem eok_91 {R : Type} (N : Nat) : EK Try.prog (E_91 (R := R) N) := ek_base _ _
def L_91 {R : Type} (N : Nat) : Loops R := LG_91
theorem lok_91 {R : Type} (N : Nat) : LOK 0 TT (E_91 (R := R) N) (drawOk TT QQ) (L_91 N) (bodyOf Try.f91) := loops_nil (by kernel_rfl)
theorem grun_91 {R : Type} (x : aden ap_91 × hden hp_91) (k : KF R) : fnrun TT (EG_91) (drawOk TT QQ) (LG_91) true Try.f91 (instA ap_91 x.1) (instH hp_91 x.2) k = Q_91 x (fun y => k (Pat.inst (.int .u64) y) (instH hp_91 x.2)) := by kernel_rfl
theorem run_91 {R : Type} (N : Nat) (x : aden ap_91 × hden hp_91) (k : KF R) : fnrun TT (E_91 (R := R) N) (drawOk TT QQ) (L_91 N) true Try.f91 (instA ap_91 x.1) (instH hp_91 x.2) k = p_91 N x (fun y => k (Pat.inst (.int .u64) y) (instH hp_91 x.2)) := (grun_91 x k).trans (by kernel_rfl)
theorem good_91 {R : Type} (N : Nat) : GD (X := R) Try.prog QQ 91 ap_91 hp_91 (fun (x : aden ap_91 × hden hp_91) k => p_91 N x (fun y => k (Pat.inst (.int .u64) y) (instH hp_91 x.2))) :=
  gd_quiet (E := E_91 N) (p := fun (x : aden ap_91 × hden hp_91) κ => p_91 N x (fun y => κ (Pat.inst (.int .u64) y))) mixed tyok (eok_91 N) Try.func91 (by kernel_rfl) (by kernel_rfl) (lok_91 N) (fun x k => run_91 N x k)

def ap_92 : List Pat := [.int .u64, .int .u64, .int .u64]
def hp_92 : List (Option (Pat × Nat)) := []
def p_92 {R : Type} (N : Nat) (x : (Int × Int × Int × Unit) × (Unit)) (κ0 : Int → Option R) : Option R :=
let i359 : Int := x.1.1
let i360 : Int := x.1.2.1
let i361 : Int := x.1.2.2.1
bif decide (i360 = 0) then none else (
let i362 : Int := quoA .u64 i359 i360
bif decide (i360 = 0) then none else (
let i363 : Int := remA .u64 i359 i360
let i364 : Int := mulA .u64 i363 i361
let i365 : Int := addA .u64 i362 i364
κ0 i365))

def Q_92 {R : Type} (x : (Int × Int × Int × Unit) × (Unit)) (κ0 : Int → Option R) : Option R :=
let i359 : Int := x.1.1
let i360 : Int := x.1.2.1
let i361 : Int := x.1.2.2.1
bif decide (i360 = 0) then none else (
let i362 : Int := quoA .u64 i359 i360
bif decide (i360 = 0) then none else (
let i363 : Int := remA .u64 i359 i360
let i364 : Int := mulA .u64 i363 i361
let i365 : Int := addA .u64 i362 i364
κ0 i365))
def EG_92 {R : Type} : Env R := Env.base QQ LN
def LG_92 {R : Type} : Loops R := Loops.none
def E_92 {R : Type} (N : Nat) : Env R := EG_92
theorem eok_92 {R : Type} (N : Nat) : EK Try.prog (E_92 (R := R) N) := ek_base _ _
def L_92 {R : Type} (N : Nat) : Loops R := LG_92
theorem lok_92 {R : Type} (N : Nat) : LOK 0 TT (E_92 (R := R) N) (drawOk TT QQ) (L_92 N) (bodyOf Try.f92) := loops_nil (by kernel_rfl)
theorem grun_92 {R : Type} (x : aden ap_92 × hden hp_92) (k : KF R) : fnrun TT (EG_92) (drawOk TT QQ) (LG_92) true Try.f92 (instA ap_92 x.1) (instH hp_92 x.2) k = Q_92 x (fun y => k (Pat.inst (.int .u64) y) (instH hp_92 x.2)) := by kernel_rfl
theorem run_92 {R : Type} (N : Nat) (x : aden ap_92 × hden hp_92) (k : KF R) : fnrun TT (E_92 (R := R) N) (drawOk TT QQ) (L_92 N) true Try.f92 (instA ap_92 x.1) (instH hp_92 x.2) k = p_92 N x (fun y => k (Pat.inst (.int .u64) y) (instH hp_92 x.2)) := (grun_92 x k).trans (by kernel_rfl)
theorem good_92 {R : Type} (N : Nat) : GD (X := R) Try.prog QQ 92 ap_92 hp_92 (fun (x : aden ap_92 × hden hp_92) k => p_92 N x (fun y => k (Pat.inst (.int .u64) y) (instH hp_92 x.2))) :=
  gd_quiet (E := E_92 N) (p := fun (x : aden ap_92 × hden hp_92) κ => p_92 N x (fun y => κ (Pat.inst (.int .u64) y))) mixed tyok (eok_92 N) Try.func92 (by kernel_rfl) (by kernel_rfl) (lok_92 N) (fun x k => run_92 N x k)

def ap_39 : List Pat := [.vec (.int .u64) 4]
def hp_39 : List (Option (Pat × Nat)) := []
def p_39 {R : Type} (N : Nat) (x : ((Nat → Int) × Unit) × (Unit)) (κ0 : (Nat → Int) → Option R) : Option R :=
let a342 : (Nat → Int) := x.1.1
let i343 : Int := (a342 0)
let i344 : Int := (a342 1)
p_91 N ((i343, i344, ()), ()) (fun y353 =>
let i354 : Int := y353
let a355 : (Nat → Int) := (upd a342 0 i354)
let i356 : Int := (a355 3)
let i357 : Int := (a355 0)
let i358 : Int := xorA .u64 i356 i357
p_92 N ((i358, 4294967296, 4294967296, ()), ()) (fun y366 =>
let i367 : Int := y366
let a368 : (Nat → Int) := (upd a355 3 i367)
let i369 : Int := (a368 2)
let i370 : Int := (a368 3)
p_91 N ((i369, i370, ()), ()) (fun y371 =>
let i372 : Int := y371
let a373 : (Nat → Int) := (upd a368 2 i372)
let i374 : Int := (a373 1)
let i375 : Int := (a373 2)
let i376 : Int := xorA .u64 i374 i375
p_92 N ((i376, 16777216, 1099511627776, ()), ()) (fun y377 =>
let i378 : Int := y377
let a379 : (Nat → Int) := (upd a373 1 i378)
let i380 : Int := (a379 0)
let i381 : Int := (a379 1)
p_91 N ((i380, i381, ()), ()) (fun y382 =>
let i383 : Int := y382
let a384 : (Nat → Int) := (upd a379 0 i383)
let i385 : Int := (a384 3)
let i386 : Int := (a384 0)
let i387 : Int := xorA .u64 i385 i386
p_92 N ((i387, 65536, 281474976710656, ()), ()) (fun y388 =>
let i389 : Int := y388
let a390 : (Nat → Int) := (upd a384 3 i389)
let i391 : Int := (a390 2)
let i392 : Int := (a390 3)
p_91 N ((i391, i392, ()), ()) (fun y393 =>
let i394 : Int := y393
let a395 : (Nat → Int) := (upd a390 2 i394)
let i396 : Int := (a395 1)
let i397 : Int := (a395 2)
let i398 : Int := xorA .u64 i396 i397
p_92 N ((i398, 9223372036854775808, 2, ()), ()) (fun y399 =>
let i400 : Int := y399
let a401 : (Nat → Int) := (upd a395 1 i400)
κ0 a401))))))))

def Q_39 {R : Type} (q_91 : (Int × Int × Unit) × (Unit) → (Int → Option R) → Option R) (q_92 : (Int × Int × Int × Unit) × (Unit) → (Int → Option R) → Option R) (x : ((Nat → Int) × Unit) × (Unit)) (κ0 : (Nat → Int) → Option R) : Option R :=
let a342 : (Nat → Int) := x.1.1
let i343 : Int := (a342 0)
let i344 : Int := (a342 1)
q_91 ((i343, i344, ()), ()) (fun y353 =>
let i354 : Int := y353
let a355 : (Nat → Int) := (upd a342 0 i354)
let i356 : Int := (a355 3)
let i357 : Int := (a355 0)
let i358 : Int := xorA .u64 i356 i357
q_92 ((i358, 4294967296, 4294967296, ()), ()) (fun y366 =>
let i367 : Int := y366
let a368 : (Nat → Int) := (upd a355 3 i367)
let i369 : Int := (a368 2)
let i370 : Int := (a368 3)
q_91 ((i369, i370, ()), ()) (fun y371 =>
let i372 : Int := y371
let a373 : (Nat → Int) := (upd a368 2 i372)
let i374 : Int := (a373 1)
let i375 : Int := (a373 2)
let i376 : Int := xorA .u64 i374 i375
q_92 ((i376, 16777216, 1099511627776, ()), ()) (fun y377 =>
let i378 : Int := y377
let a379 : (Nat → Int) := (upd a373 1 i378)
let i380 : Int := (a379 0)
let i381 : Int := (a379 1)
q_91 ((i380, i381, ()), ()) (fun y382 =>
let i383 : Int := y382
let a384 : (Nat → Int) := (upd a379 0 i383)
let i385 : Int := (a384 3)
let i386 : Int := (a384 0)
let i387 : Int := xorA .u64 i385 i386
q_92 ((i387, 65536, 281474976710656, ()), ()) (fun y388 =>
let i389 : Int := y388
let a390 : (Nat → Int) := (upd a384 3 i389)
let i391 : Int := (a390 2)
let i392 : Int := (a390 3)
q_91 ((i391, i392, ()), ()) (fun y393 =>
let i394 : Int := y393
let a395 : (Nat → Int) := (upd a390 2 i394)
let i396 : Int := (a395 1)
let i397 : Int := (a395 2)
let i398 : Int := xorA .u64 i396 i397
q_92 ((i398, 9223372036854775808, 2, ()), ()) (fun y399 =>
let i400 : Int := y399
let a401 : (Nat → Int) := (upd a395 1 i400)
κ0 a401))))))))
def EG_39 {R : Type} (q_91 : (Int × Int × Unit) × (Unit) → (Int → Option R) → Option R) (q_92 : (Int × Int × Int × Unit) × (Unit) → (Int → Option R) → Option R) : Env R := ((Env.base QQ LN).add 91 ap_91 hp_91 (fun (x : aden ap_91 × hden hp_91) k => q_91 x (fun y => k (Pat.inst (.int .u64) y) (instH hp_91 x.2)))).add 92 ap_92 hp_92 (fun (x : aden ap_92 × hden hp_92) k => q_92 x (fun y => k (Pat.inst (.int .u64) y) (instH hp_92 x.2)))
def LG_39 {R : Type} : Loops R := Loops.none
def E_39 {R : Type} (N : Nat) : Env R := EG_39 (p_91 N) (p_92 N)
theorem eok_39 {R : Type} (N : Nat) : EK Try.prog (E_39 (R := R) N) := ek_add (ek_add (ek_base _ _) (good_91 N)) (good_92 N)
def L_39 {R : Type} (N : Nat) : Loops R := LG_39
theorem lok_39 {R : Type} (N : Nat) : LOK 0 TT (E_39 (R := R) N) (drawOk TT QQ) (L_39 N) (bodyOf Try.f39) := loops_nil (by kernel_rfl)
theorem grun_39 {R : Type} (q_91 : (Int × Int × Unit) × (Unit) → (Int → Option R) → Option R) (q_92 : (Int × Int × Int × Unit) × (Unit) → (Int → Option R) → Option R) (x : aden ap_39 × hden hp_39) (k : KF R) : fnrun TT (EG_39 q_91 q_92) (drawOk TT QQ) (LG_39) true Try.f39 (instA ap_39 x.1) (instH hp_39 x.2) k = Q_39 q_91 q_92 x (fun y => k (Pat.inst (.vec (.int .u64) 4) y) (instH hp_39 x.2)) := by kernel_rfl
theorem run_39 {R : Type} (N : Nat) (x : aden ap_39 × hden hp_39) (k : KF R) : fnrun TT (E_39 (R := R) N) (drawOk TT QQ) (L_39 N) true Try.f39 (instA ap_39 x.1) (instH hp_39 x.2) k = p_39 N x (fun y => k (Pat.inst (.vec (.int .u64) 4) y) (instH hp_39 x.2)) := (grun_39 (p_91 N) (p_92 N) x k).trans (by kernel_rfl)
theorem good_39 {R : Type} (N : Nat) : GD (X := R) Try.prog QQ 39 ap_39 hp_39 (fun (x : aden ap_39 × hden hp_39) k => p_39 N x (fun y => k (Pat.inst (.vec (.int .u64) 4) y) (instH hp_39 x.2))) :=
  gd_quiet (E := E_39 N) (p := fun (x : aden ap_39 × hden hp_39) κ => p_39 N x (fun y => κ (Pat.inst (.vec (.int .u64) 4) y))) mixed tyok (eok_39 N) Try.func39 (by kernel_rfl) (by kernel_rfl) (lok_39 N) (fun x k => run_39 N x k)

def lv_41_7 : Live := [(1, none), (2, none), (3, none), (4, none), (5, none), (6, none)]
def pt_41_7 : SPat := ⟨[(1, .ptr 0 []), (2, .ptr 1 []), (3, .int .i64), (4, .ptr 2 []), (5, .ptr 3 []), (6, .int .i64)], [some (.vec (.int .u64) 16, 62), some (.vec (.int .u64) 16, 62), some (.vec (.int .i64) 4, 104), some (.vec (.int .u64) 4, 65)]⟩
def px_41_7_0 : SPat := ⟨[(1, .ptr 0 []), (2, .ptr 1 []), (3, .int .i64), (4, .ptr 2 []), (5, .ptr 3 [])], [some (.vec (.int .u64) 16, 62), some (.vec (.int .u64) 16, 62), some (.vec (.int .i64) 4, 104), some (.vec (.int .u64) 4, 65)]⟩
def lo_41_7 : Exit → Live
  | .exit 2 => [(1, none), (2, none), (3, none), (4, none), (5, none)]
  | _ => []
def B_41_7 {R : Type} (N : Nat) (rec : ((Unit × Unit × Int × Unit × Unit × Int × Unit) × ((Nat → Int) × (Nat → Int) × (Nat → Int) × (Nat → Int) × Unit)) → Option R) (x : ((Unit × Unit × Int × Unit × Unit × Int × Unit) × ((Nat → Int) × (Nat → Int) × (Nat → Int) × (Nat → Int) × Unit))) (κ0 : ((Unit × Unit × Int × Unit × Unit × Unit) × ((Nat → Int) × (Nat → Int) × (Nat → Int) × (Nat → Int) × Unit)) → Option R) : Option R :=
let i313 : Int := x.1.2.2.1
let i314 : Int := x.1.2.2.2.2.2.1
let a315 : (Nat → Int) := x.2.1
let a316 : (Nat → Int) := x.2.2.1
let a317 : (Nat → Int) := x.2.2.2.1
let a318 : (Nat → Int) := x.2.2.2.2.1
bif (decide (i314 < 4)) then (
let i319 : Int := mulA .i64 4 i314
let i320 : Int := remA .i64 i313 4
let i321 : Int := addA .i64 i319 i320
bif decide (0 ≤ i314) then (
bif decide (i314 < (4 : Int)) then (
let a322 : (Nat → Int) := (upd a317 ((Int.toNat i314)) i321)
bif (decide (i313 ≥ 4)) then (
let i323 : Int := mulA .i64 4 i314
let i324 : Int := addA .i64 i313 i314
let i325 : Int := remA .i64 i324 4
let i326 : Int := addA .i64 i323 i325
bif decide (0 ≤ i314) then (
bif decide (i314 < (4 : Int)) then (
let a327 : (Nat → Int) := (upd a322 ((Int.toNat i314)) i326)
bif decide (0 ≤ i314) then (
bif decide (i314 < (4 : Int)) then (
let i328 : Int := (a327 ((Int.toNat i314)))
bif decide (0 ≤ i328) then (
bif decide (i328 < (16 : Int)) then (
let i329 : Int := (a315 ((Int.toNat i328)))
bif decide (0 ≤ i314) then (
bif decide (i314 < (4 : Int)) then (
let a330 : (Nat → Int) := (upd a318 ((Int.toNat i314)) i329)
let i331 : Int := addA .i64 i314 1
rec (((), (), i313, (), (), i331, ()), (a315, a316, a327, a330, ()))) else none) else none) else none) else none) else none) else none) else none) else none) else (
bif decide (0 ≤ i314) then (
bif decide (i314 < (4 : Int)) then (
let i332 : Int := (a322 ((Int.toNat i314)))
bif decide (0 ≤ i332) then (
bif decide (i332 < (16 : Int)) then (
let i333 : Int := (a315 ((Int.toNat i332)))
bif decide (0 ≤ i314) then (
bif decide (i314 < (4 : Int)) then (
let a334 : (Nat → Int) := (upd a318 ((Int.toNat i314)) i333)
let i335 : Int := addA .i64 i314 1
rec (((), (), i313, (), (), i335, ()), (a315, a316, a322, a334, ()))) else none) else none) else none) else none) else none) else none)) else none) else none) else (
κ0 (((), (), i313, (), (), ()), (a315, a316, a317, a318, ())))
def l_41_7 {R : Type} (N : Nat) : Nat → ((Unit × Unit × Int × Unit × Unit × Int × Unit) × ((Nat → Int) × (Nat → Int) × (Nat → Int) × (Nat → Int) × Unit)) → (((Unit × Unit × Int × Unit × Unit × Unit) × ((Nat → Int) × (Nat → Int) × (Nat → Int) × (Nat → Int) × Unit)) → Option R) → Option R
  | 0, _, _ => none
  | n + 1, x, κ0 => B_41_7 N (fun y => l_41_7 N n y κ0) x κ0
def lv_41_15 : Live := [(1, none), (2, none), (3, none), (4, none), (5, none), (7, none)]
def pt_41_15 : SPat := ⟨[(1, .ptr 0 []), (2, .ptr 1 []), (3, .int .i64), (4, .ptr 2 []), (5, .ptr 3 []), (7, .int .i64)], [some (.vec (.int .u64) 16, 62), some (.vec (.int .u64) 16, 62), some (.vec (.int .i64) 4, 104), some (.vec (.int .u64) 4, 65)]⟩
def px_41_15_0 : SPat := ⟨[(1, .ptr 0 []), (2, .ptr 1 []), (3, .int .i64)], [some (.vec (.int .u64) 16, 62), some (.vec (.int .u64) 16, 62)]⟩
def lo_41_15 : Exit → Live
  | .exit 4 => [(1, none), (2, none), (3, none)]
  | _ => []
def B_41_15 {R : Type} (N : Nat) (rec : ((Unit × Unit × Int × Unit × Unit × Int × Unit) × ((Nat → Int) × (Nat → Int) × (Nat → Int) × (Nat → Int) × Unit)) → Option R) (x : ((Unit × Unit × Int × Unit × Unit × Int × Unit) × ((Nat → Int) × (Nat → Int) × (Nat → Int) × (Nat → Int) × Unit))) (κ0 : ((Unit × Unit × Int × Unit) × ((Nat → Int) × (Nat → Int) × Unit)) → Option R) : Option R :=
let i404 : Int := x.1.2.2.1
let i405 : Int := x.1.2.2.2.2.2.1
let a406 : (Nat → Int) := x.2.1
let a407 : (Nat → Int) := x.2.2.1
let a408 : (Nat → Int) := x.2.2.2.1
let a409 : (Nat → Int) := x.2.2.2.2.1
bif (decide (i405 < 4)) then (
bif decide (0 ≤ i405) then (
bif decide (i405 < (4 : Int)) then (
let i410 : Int := (a408 ((Int.toNat i405)))
bif decide (0 ≤ i405) then (
bif decide (i405 < (4 : Int)) then (
let i411 : Int := (a409 ((Int.toNat i405)))
bif decide (0 ≤ i410) then (
bif decide (i410 < (16 : Int)) then (
let a412 : (Nat → Int) := (upd a406 ((Int.toNat i410)) i411)
let i413 : Int := addA .i64 i405 1
rec (((), (), i404, (), (), i413, ()), (a412, a407, a408, a409, ()))) else none) else none) else none) else none) else none) else none) else (
κ0 (((), (), i404, ()), (a406, a407, ())))
def l_41_15 {R : Type} (N : Nat) : Nat → ((Unit × Unit × Int × Unit × Unit × Int × Unit) × ((Nat → Int) × (Nat → Int) × (Nat → Int) × (Nat → Int) × Unit)) → (((Unit × Unit × Int × Unit) × ((Nat → Int) × (Nat → Int) × Unit)) → Option R) → Option R
  | 0, _, _ => none
  | n + 1, x, κ0 => B_41_15 N (fun y => l_41_15 N n y κ0) x κ0
def lv_41_2 : Live := [(1, none), (2, none), (3, none)]
def pt_41_2 : SPat := ⟨[(1, .ptr 0 []), (2, .ptr 1 []), (3, .int .i64)], [some (.vec (.int .u64) 16, 62), some (.vec (.int .u64) 16, 62)]⟩
def px_41_2_0 : SPat := ⟨[(1, .ptr 0 []), (2, .ptr 1 [])], [some (.vec (.int .u64) 16, 62), some (.vec (.int .u64) 16, 62)]⟩
def lo_41_2 : Exit → Live
  | .exit 0 => [(1, none), (2, none)]
  | _ => []
def B_41_2 {R : Type} (N : Nat) (rec : ((Unit × Unit × Int × Unit) × ((Nat → Int) × (Nat → Int) × Unit)) → Option R) (x : ((Unit × Unit × Int × Unit) × ((Nat → Int) × (Nat → Int) × Unit))) (κ0 : ((Unit × Unit × Unit) × ((Nat → Int) × (Nat → Int) × Unit)) → Option R) : Option R :=
let i310 : Int := x.1.2.2.1
let a311 : (Nat → Int) := x.2.1
let a312 : (Nat → Int) := x.2.2.1
bif (decide (i310 < 8)) then (
l_41_7 N N (((), (), i310, (), (), 0, ()), (a311, a312, (Sch.zero (.arr 4 (.int .i64))), (Sch.zero (.arr 4 (.int .u64))), ())) (fun y336 =>
let i337 : Int := y336.1.2.2.1
let a338 : (Nat → Int) := y336.2.1
let a339 : (Nat → Int) := y336.2.2.1
let a340 : (Nat → Int) := y336.2.2.2.1
let a341 : (Nat → Int) := y336.2.2.2.2.1
p_39 N ((a341, ()), ()) (fun y402 =>
let a403 : (Nat → Int) := y402
l_41_15 N N (((), (), i337, (), (), 0, ()), (a338, a339, a340, a403, ())) (fun y414 =>
let i415 : Int := y414.1.2.2.1
let a416 : (Nat → Int) := y414.2.1
let a417 : (Nat → Int) := y414.2.2.1
let i418 : Int := addA .i64 i415 1
rec (((), (), i418, ()), (a416, a417, ())))))) else (
κ0 (((), (), ()), (a311, a312, ())))
def l_41_2 {R : Type} (N : Nat) : Nat → ((Unit × Unit × Int × Unit) × ((Nat → Int) × (Nat → Int) × Unit)) → (((Unit × Unit × Unit) × ((Nat → Int) × (Nat → Int) × Unit)) → Option R) → Option R
  | 0, _, _ => none
  | n + 1, x, κ0 => B_41_2 N (fun y => l_41_2 N n y κ0) x κ0
def ap_41 : List Pat := [.vec (.int .u64) 16]
def hp_41 : List (Option (Pat × Nat)) := []
def p_41 {R : Type} (N : Nat) (x : ((Nat → Int) × Unit) × (Unit)) (κ0 : (Nat → Int) → Option R) : Option R :=
let a309 : (Nat → Int) := x.1.1
l_41_2 N N (((), (), 0, ()), (a309, (Sch.zero (.arr 16 (.int .u64))), ())) (fun y419 =>
let a420 : (Nat → Int) := y419.2.1
let a421 : (Nat → Int) := y419.2.2.1
κ0 a420)

def Q_41 {R : Type} (q_39 : ((Nat → Int) × Unit) × (Unit) → ((Nat → Int) → Option R) → Option R) (m_41_7 : ((Unit × Unit × Int × Unit × Unit × Int × Unit) × ((Nat → Int) × (Nat → Int) × (Nat → Int) × (Nat → Int) × Unit)) → (((Unit × Unit × Int × Unit × Unit × Unit) × ((Nat → Int) × (Nat → Int) × (Nat → Int) × (Nat → Int) × Unit)) → Option R) → Option R) (m_41_15 : ((Unit × Unit × Int × Unit × Unit × Int × Unit) × ((Nat → Int) × (Nat → Int) × (Nat → Int) × (Nat → Int) × Unit)) → (((Unit × Unit × Int × Unit) × ((Nat → Int) × (Nat → Int) × Unit)) → Option R) → Option R) (m_41_2 : ((Unit × Unit × Int × Unit) × ((Nat → Int) × (Nat → Int) × Unit)) → (((Unit × Unit × Unit) × ((Nat → Int) × (Nat → Int) × Unit)) → Option R) → Option R) (x : ((Nat → Int) × Unit) × (Unit)) (κ0 : (Nat → Int) → Option R) : Option R :=
let a309 : (Nat → Int) := x.1.1
m_41_2 (((), (), 0, ()), (a309, (Sch.zero (.arr 16 (.int .u64))), ())) (fun y419 =>
let a420 : (Nat → Int) := y419.2.1
let a421 : (Nat → Int) := y419.2.2.1
κ0 a420)
def C_41_7 {R : Type} (q_39 : ((Nat → Int) × Unit) × (Unit) → ((Nat → Int) → Option R) → Option R) (m_41_7 : ((Unit × Unit × Int × Unit × Unit × Int × Unit) × ((Nat → Int) × (Nat → Int) × (Nat → Int) × (Nat → Int) × Unit)) → (((Unit × Unit × Int × Unit × Unit × Unit) × ((Nat → Int) × (Nat → Int) × (Nat → Int) × (Nat → Int) × Unit)) → Option R) → Option R) (m_41_15 : ((Unit × Unit × Int × Unit × Unit × Int × Unit) × ((Nat → Int) × (Nat → Int) × (Nat → Int) × (Nat → Int) × Unit)) → (((Unit × Unit × Int × Unit) × ((Nat → Int) × (Nat → Int) × Unit)) → Option R) → Option R) (m_41_2 : ((Unit × Unit × Int × Unit) × ((Nat → Int) × (Nat → Int) × Unit)) → (((Unit × Unit × Unit) × ((Nat → Int) × (Nat → Int) × Unit)) → Option R) → Option R) (rec : ((Unit × Unit × Int × Unit × Unit × Int × Unit) × ((Nat → Int) × (Nat → Int) × (Nat → Int) × (Nat → Int) × Unit)) → Option R) (x : ((Unit × Unit × Int × Unit × Unit × Int × Unit) × ((Nat → Int) × (Nat → Int) × (Nat → Int) × (Nat → Int) × Unit))) (κ0 : ((Unit × Unit × Int × Unit × Unit × Unit) × ((Nat → Int) × (Nat → Int) × (Nat → Int) × (Nat → Int) × Unit)) → Option R) : Option R :=
let i313 : Int := x.1.2.2.1
let i314 : Int := x.1.2.2.2.2.2.1
let a315 : (Nat → Int) := x.2.1
let a316 : (Nat → Int) := x.2.2.1
let a317 : (Nat → Int) := x.2.2.2.1
let a318 : (Nat → Int) := x.2.2.2.2.1
bif (decide (i314 < 4)) then (
let i319 : Int := mulA .i64 4 i314
let i320 : Int := remA .i64 i313 4
let i321 : Int := addA .i64 i319 i320
bif decide (0 ≤ i314) then (
bif decide (i314 < (4 : Int)) then (
let a322 : (Nat → Int) := (upd a317 ((Int.toNat i314)) i321)
bif (decide (i313 ≥ 4)) then (
let i323 : Int := mulA .i64 4 i314
let i324 : Int := addA .i64 i313 i314
let i325 : Int := remA .i64 i324 4
let i326 : Int := addA .i64 i323 i325
bif decide (0 ≤ i314) then (
bif decide (i314 < (4 : Int)) then (
let a327 : (Nat → Int) := (upd a322 ((Int.toNat i314)) i326)
bif decide (0 ≤ i314) then (
bif decide (i314 < (4 : Int)) then (
let i328 : Int := (a327 ((Int.toNat i314)))
bif decide (0 ≤ i328) then (
bif decide (i328 < (16 : Int)) then (
let i329 : Int := (a315 ((Int.toNat i328)))
bif decide (0 ≤ i314) then (
bif decide (i314 < (4 : Int)) then (
let a330 : (Nat → Int) := (upd a318 ((Int.toNat i314)) i329)
let i331 : Int := addA .i64 i314 1
rec (((), (), i313, (), (), i331, ()), (a315, a316, a327, a330, ()))) else none) else none) else none) else none) else none) else none) else none) else none) else (
bif decide (0 ≤ i314) then (
bif decide (i314 < (4 : Int)) then (
let i332 : Int := (a322 ((Int.toNat i314)))
bif decide (0 ≤ i332) then (
bif decide (i332 < (16 : Int)) then (
let i333 : Int := (a315 ((Int.toNat i332)))
bif decide (0 ≤ i314) then (
bif decide (i314 < (4 : Int)) then (
let a334 : (Nat → Int) := (upd a318 ((Int.toNat i314)) i333)
let i335 : Int := addA .i64 i314 1
rec (((), (), i313, (), (), i335, ()), (a315, a316, a322, a334, ()))) else none) else none) else none) else none) else none) else none)) else none) else none) else (
κ0 (((), (), i313, (), (), ()), (a315, a316, a317, a318, ())))
def C_41_15 {R : Type} (q_39 : ((Nat → Int) × Unit) × (Unit) → ((Nat → Int) → Option R) → Option R) (m_41_7 : ((Unit × Unit × Int × Unit × Unit × Int × Unit) × ((Nat → Int) × (Nat → Int) × (Nat → Int) × (Nat → Int) × Unit)) → (((Unit × Unit × Int × Unit × Unit × Unit) × ((Nat → Int) × (Nat → Int) × (Nat → Int) × (Nat → Int) × Unit)) → Option R) → Option R) (m_41_15 : ((Unit × Unit × Int × Unit × Unit × Int × Unit) × ((Nat → Int) × (Nat → Int) × (Nat → Int) × (Nat → Int) × Unit)) → (((Unit × Unit × Int × Unit) × ((Nat → Int) × (Nat → Int) × Unit)) → Option R) → Option R) (m_41_2 : ((Unit × Unit × Int × Unit) × ((Nat → Int) × (Nat → Int) × Unit)) → (((Unit × Unit × Unit) × ((Nat → Int) × (Nat → Int) × Unit)) → Option R) → Option R) (rec : ((Unit × Unit × Int × Unit × Unit × Int × Unit) × ((Nat → Int) × (Nat → Int) × (Nat → Int) × (Nat → Int) × Unit)) → Option R) (x : ((Unit × Unit × Int × Unit × Unit × Int × Unit) × ((Nat → Int) × (Nat → Int) × (Nat → Int) × (Nat → Int) × Unit))) (κ0 : ((Unit × Unit × Int × Unit) × ((Nat → Int) × (Nat → Int) × Unit)) → Option R) : Option R :=
let i404 : Int := x.1.2.2.1
let i405 : Int := x.1.2.2.2.2.2.1
let a406 : (Nat → Int) := x.2.1
let a407 : (Nat → Int) := x.2.2.1
let a408 : (Nat → Int) := x.2.2.2.1
let a409 : (Nat → Int) := x.2.2.2.2.1
bif (decide (i405 < 4)) then (
bif decide (0 ≤ i405) then (
bif decide (i405 < (4 : Int)) then (
let i410 : Int := (a408 ((Int.toNat i405)))
bif decide (0 ≤ i405) then (
bif decide (i405 < (4 : Int)) then (
let i411 : Int := (a409 ((Int.toNat i405)))
bif decide (0 ≤ i410) then (
bif decide (i410 < (16 : Int)) then (
let a412 : (Nat → Int) := (upd a406 ((Int.toNat i410)) i411)
let i413 : Int := addA .i64 i405 1
rec (((), (), i404, (), (), i413, ()), (a412, a407, a408, a409, ()))) else none) else none) else none) else none) else none) else none) else (
κ0 (((), (), i404, ()), (a406, a407, ())))
def C_41_2 {R : Type} (q_39 : ((Nat → Int) × Unit) × (Unit) → ((Nat → Int) → Option R) → Option R) (m_41_7 : ((Unit × Unit × Int × Unit × Unit × Int × Unit) × ((Nat → Int) × (Nat → Int) × (Nat → Int) × (Nat → Int) × Unit)) → (((Unit × Unit × Int × Unit × Unit × Unit) × ((Nat → Int) × (Nat → Int) × (Nat → Int) × (Nat → Int) × Unit)) → Option R) → Option R) (m_41_15 : ((Unit × Unit × Int × Unit × Unit × Int × Unit) × ((Nat → Int) × (Nat → Int) × (Nat → Int) × (Nat → Int) × Unit)) → (((Unit × Unit × Int × Unit) × ((Nat → Int) × (Nat → Int) × Unit)) → Option R) → Option R) (m_41_2 : ((Unit × Unit × Int × Unit) × ((Nat → Int) × (Nat → Int) × Unit)) → (((Unit × Unit × Unit) × ((Nat → Int) × (Nat → Int) × Unit)) → Option R) → Option R) (rec : ((Unit × Unit × Int × Unit) × ((Nat → Int) × (Nat → Int) × Unit)) → Option R) (x : ((Unit × Unit × Int × Unit) × ((Nat → Int) × (Nat → Int) × Unit))) (κ0 : ((Unit × Unit × Unit) × ((Nat → Int) × (Nat → Int) × Unit)) → Option R) : Option R :=
let i310 : Int := x.1.2.2.1
let a311 : (Nat → Int) := x.2.1
let a312 : (Nat → Int) := x.2.2.1
bif (decide (i310 < 8)) then (
m_41_7 (((), (), i310, (), (), 0, ()), (a311, a312, (Sch.zero (.arr 4 (.int .i64))), (Sch.zero (.arr 4 (.int .u64))), ())) (fun y336 =>
let i337 : Int := y336.1.2.2.1
let a338 : (Nat → Int) := y336.2.1
let a339 : (Nat → Int) := y336.2.2.1
let a340 : (Nat → Int) := y336.2.2.2.1
let a341 : (Nat → Int) := y336.2.2.2.2.1
q_39 ((a341, ()), ()) (fun y402 =>
let a403 : (Nat → Int) := y402
m_41_15 (((), (), i337, (), (), 0, ()), (a338, a339, a340, a403, ())) (fun y414 =>
let i415 : Int := y414.1.2.2.1
let a416 : (Nat → Int) := y414.2.1
let a417 : (Nat → Int) := y414.2.2.1
let i418 : Int := addA .i64 i415 1
rec (((), (), i418, ()), (a416, a417, ())))))) else (
κ0 (((), (), ()), (a311, a312, ())))
def EG_41 {R : Type} (q_39 : ((Nat → Int) × Unit) × (Unit) → ((Nat → Int) → Option R) → Option R) : Env R := (Env.base QQ LN).add 39 ap_39 hp_39 (fun (x : aden ap_39 × hden hp_39) k => q_39 x (fun y => k (Pat.inst (.vec (.int .u64) 4) y) (instH hp_39 x.2)))
def LG_41 {R : Type} (m_41_7 : ((Unit × Unit × Int × Unit × Unit × Int × Unit) × ((Nat → Int) × (Nat → Int) × (Nat → Int) × (Nat → Int) × Unit)) → (((Unit × Unit × Int × Unit × Unit × Unit) × ((Nat → Int) × (Nat → Int) × (Nat → Int) × (Nat → Int) × Unit)) → Option R) → Option R) (m_41_15 : ((Unit × Unit × Int × Unit × Unit × Int × Unit) × ((Nat → Int) × (Nat → Int) × (Nat → Int) × (Nat → Int) × Unit)) → (((Unit × Unit × Int × Unit) × ((Nat → Int) × (Nat → Int) × Unit)) → Option R) → Option R) (m_41_2 : ((Unit × Unit × Int × Unit) × ((Nat → Int) × (Nat → Int) × Unit)) → (((Unit × Unit × Unit) × ((Nat → Int) × (Nat → Int) × Unit)) → Option R) → Option R) : Loops R := (((Loops.none).add 7 (loopBy 0 lv_41_7 pt_41_7 (fun x k => m_41_7 x (fun y => k (.exit 2) (px_41_7_0.inst y))))).add 15 (loopBy 0 lv_41_15 pt_41_15 (fun x k => m_41_15 x (fun y => k (.exit 4) (px_41_15_0.inst y))))).add 2 (loopBy 0 lv_41_2 pt_41_2 (fun x k => m_41_2 x (fun y => k (.exit 0) (px_41_2_0.inst y))))
def E_41 {R : Type} (N : Nat) : Env R := EG_41 (p_39 N)
theorem eok_41 {R : Type} (N : Nat) : EK Try.prog (E_41 (R := R) N) := ek_add (ek_base _ _) (good_39 N)
def L_41 {R : Type} (N : Nat) : Loops R := LG_41 (l_41_7 N N) (l_41_15 N N) (l_41_2 N N)
theorem gstep_41_7 {R : Type} (q_39 : ((Nat → Int) × Unit) × (Unit) → ((Nat → Int) → Option R) → Option R) (m_41_7 : ((Unit × Unit × Int × Unit × Unit × Int × Unit) × ((Nat → Int) × (Nat → Int) × (Nat → Int) × (Nat → Int) × Unit)) → (((Unit × Unit × Int × Unit × Unit × Unit) × ((Nat → Int) × (Nat → Int) × (Nat → Int) × (Nat → Int) × Unit)) → Option R) → Option R) (m_41_15 : ((Unit × Unit × Int × Unit × Unit × Int × Unit) × ((Nat → Int) × (Nat → Int) × (Nat → Int) × (Nat → Int) × Unit)) → (((Unit × Unit × Int × Unit) × ((Nat → Int) × (Nat → Int) × Unit)) → Option R) → Option R) (m_41_2 : ((Unit × Unit × Int × Unit) × ((Nat → Int) × (Nat → Int) × Unit)) → (((Unit × Unit × Unit) × ((Nat → Int) × (Nat → Int) × Unit)) → Option R) → Option R) (n : Nat) (x : pt_41_7.den) (k : Exit → St → Option R) : iter 0 lv_41_7 lo_41_7 (aexec TT (EG_41 q_39) (drawOk TT QQ) (LG_41 m_41_7 m_41_15 m_41_2) (loopAt 7 (bodyOf Try.f41))) (n + 1) (pt_41_7.inst x) k = C_41_7 q_39 m_41_7 m_41_15 m_41_2 (fun y => iter 0 lv_41_7 lo_41_7 (aexec TT (EG_41 q_39) (drawOk TT QQ) (LG_41 m_41_7 m_41_15 m_41_2) (loopAt 7 (bodyOf Try.f41))) n (pt_41_7.inst y) k) x (fun y => k (.exit 2) (px_41_7_0.inst y)) := by kernel_rfl
theorem step_41_7 {R : Type} (N n : Nat) (x : pt_41_7.den) (k : Exit → St → Option R) : iter 0 lv_41_7 lo_41_7 (aexec TT (E_41 (R := R) N) (drawOk TT QQ) (L_41 N) (loopAt 7 (bodyOf Try.f41))) (n + 1) (pt_41_7.inst x) k = B_41_7 N (fun y => iter 0 lv_41_7 lo_41_7 (aexec TT (E_41 (R := R) N) (drawOk TT QQ) (L_41 N) (loopAt 7 (bodyOf Try.f41))) n (pt_41_7.inst y) k) x (fun y => k (.exit 2) (px_41_7_0.inst y)) := (gstep_41_7 (p_39 N) (l_41_7 N N) (l_41_15 N N) (l_41_2 N N) n x k).trans (by kernel_rfl)
theorem eq_41_7 {R : Type} (N : Nat) : ∀ (n : Nat) (x : pt_41_7.den) (k : Exit → St → Option R), iter 0 lv_41_7 lo_41_7 (aexec TT (E_41 (R := R) N) (drawOk TT QQ) (L_41 N) (loopAt 7 (bodyOf Try.f41))) n (pt_41_7.inst x) k = l_41_7 N n x (fun y => k (.exit 2) (px_41_7_0.inst y)) :=
  iter_eq (K := Exit → St → Option R) (ks := fun k => k) (l := fun n (x : pt_41_7.den) k => l_41_7 N n x (fun y => k (.exit 2) (px_41_7_0.inst y))) (B := fun (rec : pt_41_7.den → Option R) (x : pt_41_7.den) k => B_41_7 N rec x (fun y => k (.exit 2) (px_41_7_0.inst y))) (fun _ _ => rfl) (fun _ _ _ => rfl) (fun n x k => step_41_7 N n x k)
theorem rounds_41_7 {R : Type} (N : Nat) : Rounds 0 TT (E_41 (R := R) N) (drawOk TT QQ) (L_41 N) 7 (loopAt 7 (bodyOf Try.f41)) :=
  rounds_of (p := pt_41_7) (l := fun (x : pt_41_7.den) k => l_41_7 N N x (fun y => k (.exit 2) (px_41_7_0.inst y))) (fun s k => rfl) (fun x k => eq_41_7 N N x k)
theorem gstep_41_15 {R : Type} (q_39 : ((Nat → Int) × Unit) × (Unit) → ((Nat → Int) → Option R) → Option R) (m_41_7 : ((Unit × Unit × Int × Unit × Unit × Int × Unit) × ((Nat → Int) × (Nat → Int) × (Nat → Int) × (Nat → Int) × Unit)) → (((Unit × Unit × Int × Unit × Unit × Unit) × ((Nat → Int) × (Nat → Int) × (Nat → Int) × (Nat → Int) × Unit)) → Option R) → Option R) (m_41_15 : ((Unit × Unit × Int × Unit × Unit × Int × Unit) × ((Nat → Int) × (Nat → Int) × (Nat → Int) × (Nat → Int) × Unit)) → (((Unit × Unit × Int × Unit) × ((Nat → Int) × (Nat → Int) × Unit)) → Option R) → Option R) (m_41_2 : ((Unit × Unit × Int × Unit) × ((Nat → Int) × (Nat → Int) × Unit)) → (((Unit × Unit × Unit) × ((Nat → Int) × (Nat → Int) × Unit)) → Option R) → Option R) (n : Nat) (x : pt_41_15.den) (k : Exit → St → Option R) : iter 0 lv_41_15 lo_41_15 (aexec TT (EG_41 q_39) (drawOk TT QQ) (LG_41 m_41_7 m_41_15 m_41_2) (loopAt 15 (bodyOf Try.f41))) (n + 1) (pt_41_15.inst x) k = C_41_15 q_39 m_41_7 m_41_15 m_41_2 (fun y => iter 0 lv_41_15 lo_41_15 (aexec TT (EG_41 q_39) (drawOk TT QQ) (LG_41 m_41_7 m_41_15 m_41_2) (loopAt 15 (bodyOf Try.f41))) n (pt_41_15.inst y) k) x (fun y => k (.exit 4) (px_41_15_0.inst y)) := by kernel_rfl
theorem step_41_15 {R : Type} (N n : Nat) (x : pt_41_15.den) (k : Exit → St → Option R) : iter 0 lv_41_15 lo_41_15 (aexec TT (E_41 (R := R) N) (drawOk TT QQ) (L_41 N) (loopAt 15 (bodyOf Try.f41))) (n + 1) (pt_41_15.inst x) k = B_41_15 N (fun y => iter 0 lv_41_15 lo_41_15 (aexec TT (E_41 (R := R) N) (drawOk TT QQ) (L_41 N) (loopAt 15 (bodyOf Try.f41))) n (pt_41_15.inst y) k) x (fun y => k (.exit 4) (px_41_15_0.inst y)) := (gstep_41_15 (p_39 N) (l_41_7 N N) (l_41_15 N N) (l_41_2 N N) n x k).trans (by kernel_rfl)
theorem eq_41_15 {R : Type} (N : Nat) : ∀ (n : Nat) (x : pt_41_15.den) (k : Exit → St → Option R), iter 0 lv_41_15 lo_41_15 (aexec TT (E_41 (R := R) N) (drawOk TT QQ) (L_41 N) (loopAt 15 (bodyOf Try.f41))) n (pt_41_15.inst x) k = l_41_15 N n x (fun y => k (.exit 4) (px_41_15_0.inst y)) :=
  iter_eq (K := Exit → St → Option R) (ks := fun k => k) (l := fun n (x : pt_41_15.den) k => l_41_15 N n x (fun y => k (.exit 4) (px_41_15_0.inst y))) (B := fun (rec : pt_41_15.den → Option R) (x : pt_41_15.den) k => B_41_15 N rec x (fun y => k (.exit 4) (px_41_15_0.inst y))) (fun _ _ => rfl) (fun _ _ _ => rfl) (fun n x k => step_41_15 N n x k)
theorem rounds_41_15 {R : Type} (N : Nat) : Rounds 0 TT (E_41 (R := R) N) (drawOk TT QQ) (L_41 N) 15 (loopAt 15 (bodyOf Try.f41)) :=
  rounds_of (p := pt_41_15) (l := fun (x : pt_41_15.den) k => l_41_15 N N x (fun y => k (.exit 4) (px_41_15_0.inst y))) (fun s k => rfl) (fun x k => eq_41_15 N N x k)
theorem gstep_41_2 {R : Type} (q_39 : ((Nat → Int) × Unit) × (Unit) → ((Nat → Int) → Option R) → Option R) (m_41_7 : ((Unit × Unit × Int × Unit × Unit × Int × Unit) × ((Nat → Int) × (Nat → Int) × (Nat → Int) × (Nat → Int) × Unit)) → (((Unit × Unit × Int × Unit × Unit × Unit) × ((Nat → Int) × (Nat → Int) × (Nat → Int) × (Nat → Int) × Unit)) → Option R) → Option R) (m_41_15 : ((Unit × Unit × Int × Unit × Unit × Int × Unit) × ((Nat → Int) × (Nat → Int) × (Nat → Int) × (Nat → Int) × Unit)) → (((Unit × Unit × Int × Unit) × ((Nat → Int) × (Nat → Int) × Unit)) → Option R) → Option R) (m_41_2 : ((Unit × Unit × Int × Unit) × ((Nat → Int) × (Nat → Int) × Unit)) → (((Unit × Unit × Unit) × ((Nat → Int) × (Nat → Int) × Unit)) → Option R) → Option R) (n : Nat) (x : pt_41_2.den) (k : Exit → St → Option R) : iter 0 lv_41_2 lo_41_2 (aexec TT (EG_41 q_39) (drawOk TT QQ) (LG_41 m_41_7 m_41_15 m_41_2) (loopAt 2 (bodyOf Try.f41))) (n + 1) (pt_41_2.inst x) k = C_41_2 q_39 m_41_7 m_41_15 m_41_2 (fun y => iter 0 lv_41_2 lo_41_2 (aexec TT (EG_41 q_39) (drawOk TT QQ) (LG_41 m_41_7 m_41_15 m_41_2) (loopAt 2 (bodyOf Try.f41))) n (pt_41_2.inst y) k) x (fun y => k (.exit 0) (px_41_2_0.inst y)) := by kernel_rfl
theorem step_41_2 {R : Type} (N n : Nat) (x : pt_41_2.den) (k : Exit → St → Option R) : iter 0 lv_41_2 lo_41_2 (aexec TT (E_41 (R := R) N) (drawOk TT QQ) (L_41 N) (loopAt 2 (bodyOf Try.f41))) (n + 1) (pt_41_2.inst x) k = B_41_2 N (fun y => iter 0 lv_41_2 lo_41_2 (aexec TT (E_41 (R := R) N) (drawOk TT QQ) (L_41 N) (loopAt 2 (bodyOf Try.f41))) n (pt_41_2.inst y) k) x (fun y => k (.exit 0) (px_41_2_0.inst y)) := (gstep_41_2 (p_39 N) (l_41_7 N N) (l_41_15 N N) (l_41_2 N N) n x k).trans (by kernel_rfl)
theorem eq_41_2 {R : Type} (N : Nat) : ∀ (n : Nat) (x : pt_41_2.den) (k : Exit → St → Option R), iter 0 lv_41_2 lo_41_2 (aexec TT (E_41 (R := R) N) (drawOk TT QQ) (L_41 N) (loopAt 2 (bodyOf Try.f41))) n (pt_41_2.inst x) k = l_41_2 N n x (fun y => k (.exit 0) (px_41_2_0.inst y)) :=
  iter_eq (K := Exit → St → Option R) (ks := fun k => k) (l := fun n (x : pt_41_2.den) k => l_41_2 N n x (fun y => k (.exit 0) (px_41_2_0.inst y))) (B := fun (rec : pt_41_2.den → Option R) (x : pt_41_2.den) k => B_41_2 N rec x (fun y => k (.exit 0) (px_41_2_0.inst y))) (fun _ _ => rfl) (fun _ _ _ => rfl) (fun n x k => step_41_2 N n x k)
theorem rounds_41_2 {R : Type} (N : Nat) : Rounds 0 TT (E_41 (R := R) N) (drawOk TT QQ) (L_41 N) 2 (loopAt 2 (bodyOf Try.f41)) :=
  rounds_of (p := pt_41_2) (l := fun (x : pt_41_2.den) k => l_41_2 N N x (fun y => k (.exit 0) (px_41_2_0.inst y))) (fun s k => rfl) (fun x k => eq_41_2 N N x k)
theorem loops_41 : loopsIn (bodyOf Try.f41) = [(2, loopAt 2 (bodyOf Try.f41)), (7, loopAt 7 (bodyOf Try.f41)), (15, loopAt 15 (bodyOf Try.f41))] := by kernel_rfl
theorem lok_41 {R : Type} (N : Nat) : LOK 0 TT (E_41 (R := R) N) (drawOk TT QQ) (L_41 N) (bodyOf Try.f41) := loops_all loops_41 (by
  simp only [List.forall_mem_cons, List.not_mem_nil, false_implies, implies_true, and_true]
  exact ⟨rounds_41_2 N, rounds_41_7 N, rounds_41_15 N⟩)
theorem grun_41 {R : Type} (q_39 : ((Nat → Int) × Unit) × (Unit) → ((Nat → Int) → Option R) → Option R) (m_41_7 : ((Unit × Unit × Int × Unit × Unit × Int × Unit) × ((Nat → Int) × (Nat → Int) × (Nat → Int) × (Nat → Int) × Unit)) → (((Unit × Unit × Int × Unit × Unit × Unit) × ((Nat → Int) × (Nat → Int) × (Nat → Int) × (Nat → Int) × Unit)) → Option R) → Option R) (m_41_15 : ((Unit × Unit × Int × Unit × Unit × Int × Unit) × ((Nat → Int) × (Nat → Int) × (Nat → Int) × (Nat → Int) × Unit)) → (((Unit × Unit × Int × Unit) × ((Nat → Int) × (Nat → Int) × Unit)) → Option R) → Option R) (m_41_2 : ((Unit × Unit × Int × Unit) × ((Nat → Int) × (Nat → Int) × Unit)) → (((Unit × Unit × Unit) × ((Nat → Int) × (Nat → Int) × Unit)) → Option R) → Option R) (x : aden ap_41 × hden hp_41) (k : KF R) : fnrun TT (EG_41 q_39) (drawOk TT QQ) (LG_41 m_41_7 m_41_15 m_41_2) true Try.f41 (instA ap_41 x.1) (instH hp_41 x.2) k = Q_41 q_39 m_41_7 m_41_15 m_41_2 x (fun y => k (Pat.inst (.vec (.int .u64) 16) y) (instH hp_41 x.2)) := by kernel_rfl
theorem run_41 {R : Type} (N : Nat) (x : aden ap_41 × hden hp_41) (k : KF R) : fnrun TT (E_41 (R := R) N) (drawOk TT QQ) (L_41 N) true Try.f41 (instA ap_41 x.1) (instH hp_41 x.2) k = p_41 N x (fun y => k (Pat.inst (.vec (.int .u64) 16) y) (instH hp_41 x.2)) := (grun_41 (p_39 N) (l_41_7 N N) (l_41_15 N N) (l_41_2 N N) x k).trans (by kernel_rfl)
theorem good_41 {R : Type} (N : Nat) : GD (X := R) Try.prog QQ 41 ap_41 hp_41 (fun (x : aden ap_41 × hden hp_41) k => p_41 N x (fun y => k (Pat.inst (.vec (.int .u64) 16) y) (instH hp_41 x.2))) :=
  gd_quiet (E := E_41 N) (p := fun (x : aden ap_41 × hden hp_41) κ => p_41 N x (fun y => κ (Pat.inst (.vec (.int .u64) 16) y))) mixed tyok (eok_41 N) Try.func41 (by kernel_rfl) (by kernel_rfl) (lok_41 N) (fun x k => run_41 N x k)

def lv_45_9 : Live := [(1, none), (2, none), (3, none), (4, none), (5, none), (6, none)]
def pt_45_9 : SPat := ⟨[(1, .ptr 0 []), (2, .ptr 1 []), (3, .int .i64), (4, .int .i64), (5, .ptr 2 []), (6, .int .i64)], [some (.vec (.int .u64) 128, 70), some (.vec (.int .u64) 128, 70), some (.vec (.int .u64) 16, 62)]⟩
def px_45_9_0 : SPat := ⟨[(1, .ptr 0 []), (2, .ptr 1 []), (3, .int .i64), (4, .int .i64), (5, .ptr 2 [])], [some (.vec (.int .u64) 128, 70), some (.vec (.int .u64) 128, 70), some (.vec (.int .u64) 16, 62)]⟩
def lo_45_9 : Exit → Live
  | .exit 4 => [(1, none), (2, none), (3, none), (4, none), (5, none)]
  | _ => []
def B_45_9 {R : Type} (N : Nat) (rec : ((Unit × Unit × Int × Int × Unit × Int × Unit) × ((Nat → Int) × (Nat → Int) × (Nat → Int) × Unit)) → Option R) (x : ((Unit × Unit × Int × Int × Unit × Int × Unit) × ((Nat → Int) × (Nat → Int) × (Nat → Int) × Unit))) (κ0 : ((Unit × Unit × Int × Int × Unit × Unit) × ((Nat → Int) × (Nat → Int) × (Nat → Int) × Unit)) → Option R) : Option R :=
let i279 : Int := x.1.2.2.1
let i280 : Int := x.1.2.2.2.1
let i281 : Int := x.1.2.2.2.2.2.1
let a282 : (Nat → Int) := x.2.1
let a283 : (Nat → Int) := x.2.2.1
let a284 : (Nat → Int) := x.2.2.2.1
bif (decide (i281 < 16)) then (
let i285 : Int := quoA .i64 i281 2
bif (i279 == 1) then (
let i286 : Int := quoA .i64 i281 2
let i287 : Int := mulA .i64 16 i286
let i288 : Int := mulA .i64 2 i280
let i289 : Int := addA .i64 i287 i288
let i290 : Int := remA .i64 i281 2
let i291 : Int := addA .i64 i289 i290
bif decide (0 ≤ i291) then (
bif decide (i291 < (128 : Int)) then (
let i292 : Int := (a282 ((Int.toNat i291)))
bif decide (0 ≤ i281) then (
bif decide (i281 < (16 : Int)) then (
let a293 : (Nat → Int) := (upd a284 ((Int.toNat i281)) i292)
let i294 : Int := addA .i64 i281 1
rec (((), (), i279, i280, (), i294, ()), (a282, a283, a293, ()))) else none) else none) else none) else none) else (
let i295 : Int := mulA .i64 16 i280
let i296 : Int := mulA .i64 2 i285
let i297 : Int := addA .i64 i295 i296
let i298 : Int := remA .i64 i281 2
let i299 : Int := addA .i64 i297 i298
bif decide (0 ≤ i299) then (
bif decide (i299 < (128 : Int)) then (
let i300 : Int := (a282 ((Int.toNat i299)))
bif decide (0 ≤ i281) then (
bif decide (i281 < (16 : Int)) then (
let a301 : (Nat → Int) := (upd a284 ((Int.toNat i281)) i300)
let i302 : Int := addA .i64 i281 1
rec (((), (), i279, i280, (), i302, ()), (a282, a283, a301, ()))) else none) else none) else none) else none)) else (
κ0 (((), (), i279, i280, (), ()), (a282, a283, a284, ())))
def l_45_9 {R : Type} (N : Nat) : Nat → ((Unit × Unit × Int × Int × Unit × Int × Unit) × ((Nat → Int) × (Nat → Int) × (Nat → Int) × Unit)) → (((Unit × Unit × Int × Int × Unit × Unit) × ((Nat → Int) × (Nat → Int) × (Nat → Int) × Unit)) → Option R) → Option R
  | 0, _, _ => none
  | n + 1, x, κ0 => B_45_9 N (fun y => l_45_9 N n y κ0) x κ0
def lv_45_19 : Live := [(1, none), (2, none), (3, none), (4, none), (5, none), (9, none)]
def pt_45_19 : SPat := ⟨[(1, .ptr 0 []), (2, .ptr 1 []), (3, .int .i64), (4, .int .i64), (5, .ptr 2 []), (9, .int .i64)], [some (.vec (.int .u64) 128, 70), some (.vec (.int .u64) 128, 70), some (.vec (.int .u64) 16, 62)]⟩
def px_45_19_0 : SPat := ⟨[(1, .ptr 0 []), (2, .ptr 1 []), (3, .int .i64), (4, .int .i64)], [some (.vec (.int .u64) 128, 70), some (.vec (.int .u64) 128, 70)]⟩
def lo_45_19 : Exit → Live
  | .exit 6 => [(1, none), (2, none), (3, none), (4, none)]
  | _ => []
def B_45_19 {R : Type} (N : Nat) (rec : ((Unit × Unit × Int × Int × Unit × Int × Unit) × ((Nat → Int) × (Nat → Int) × (Nat → Int) × Unit)) → Option R) (x : ((Unit × Unit × Int × Int × Unit × Int × Unit) × ((Nat → Int) × (Nat → Int) × (Nat → Int) × Unit))) (κ0 : ((Unit × Unit × Int × Int × Unit) × ((Nat → Int) × (Nat → Int) × Unit)) → Option R) : Option R :=
let i424 : Int := x.1.2.2.1
let i425 : Int := x.1.2.2.2.1
let i426 : Int := x.1.2.2.2.2.2.1
let a427 : (Nat → Int) := x.2.1
let a428 : (Nat → Int) := x.2.2.1
let a429 : (Nat → Int) := x.2.2.2.1
bif (decide (i426 < 16)) then (
let i430 : Int := quoA .i64 i426 2
bif (i424 == 1) then (
let i431 : Int := quoA .i64 i426 2
let i432 : Int := mulA .i64 16 i431
let i433 : Int := mulA .i64 2 i425
let i434 : Int := addA .i64 i432 i433
let i435 : Int := remA .i64 i426 2
let i436 : Int := addA .i64 i434 i435
bif decide (0 ≤ i426) then (
bif decide (i426 < (16 : Int)) then (
let i437 : Int := (a429 ((Int.toNat i426)))
bif decide (0 ≤ i436) then (
bif decide (i436 < (128 : Int)) then (
let a438 : (Nat → Int) := (upd a427 ((Int.toNat i436)) i437)
let i439 : Int := addA .i64 i426 1
rec (((), (), i424, i425, (), i439, ()), (a438, a428, a429, ()))) else none) else none) else none) else none) else (
let i440 : Int := mulA .i64 16 i425
let i441 : Int := mulA .i64 2 i430
let i442 : Int := addA .i64 i440 i441
let i443 : Int := remA .i64 i426 2
let i444 : Int := addA .i64 i442 i443
bif decide (0 ≤ i426) then (
bif decide (i426 < (16 : Int)) then (
let i445 : Int := (a429 ((Int.toNat i426)))
bif decide (0 ≤ i444) then (
bif decide (i444 < (128 : Int)) then (
let a446 : (Nat → Int) := (upd a427 ((Int.toNat i444)) i445)
let i447 : Int := addA .i64 i426 1
rec (((), (), i424, i425, (), i447, ()), (a446, a428, a429, ()))) else none) else none) else none) else none)) else (
κ0 (((), (), i424, i425, ()), (a427, a428, ())))
def l_45_19 {R : Type} (N : Nat) : Nat → ((Unit × Unit × Int × Int × Unit × Int × Unit) × ((Nat → Int) × (Nat → Int) × (Nat → Int) × Unit)) → (((Unit × Unit × Int × Int × Unit) × ((Nat → Int) × (Nat → Int) × Unit)) → Option R) → Option R
  | 0, _, _ => none
  | n + 1, x, κ0 => B_45_19 N (fun y => l_45_19 N n y κ0) x κ0
def lv_45_5 : Live := [(1, none), (2, none), (3, none), (4, none)]
def pt_45_5 : SPat := ⟨[(1, .ptr 0 []), (2, .ptr 1 []), (3, .int .i64), (4, .int .i64)], [some (.vec (.int .u64) 128, 70), some (.vec (.int .u64) 128, 70)]⟩
def px_45_5_0 : SPat := ⟨[(1, .ptr 0 []), (2, .ptr 1 []), (3, .int .i64)], [some (.vec (.int .u64) 128, 70), some (.vec (.int .u64) 128, 70)]⟩
def lo_45_5 : Exit → Live
  | .exit 2 => [(1, none), (2, none), (3, none)]
  | _ => []
def B_45_5 {R : Type} (N : Nat) (rec : ((Unit × Unit × Int × Int × Unit) × ((Nat → Int) × (Nat → Int) × Unit)) → Option R) (x : ((Unit × Unit × Int × Int × Unit) × ((Nat → Int) × (Nat → Int) × Unit))) (κ0 : ((Unit × Unit × Int × Unit) × ((Nat → Int) × (Nat → Int) × Unit)) → Option R) : Option R :=
let i275 : Int := x.1.2.2.1
let i276 : Int := x.1.2.2.2.1
let a277 : (Nat → Int) := x.2.1
let a278 : (Nat → Int) := x.2.2.1
bif (decide (i276 < 8)) then (
l_45_9 N N (((), (), i275, i276, (), 0, ()), (a277, a278, (Sch.zero (.arr 16 (.int .u64))), ())) (fun y303 =>
let i304 : Int := y303.1.2.2.1
let i305 : Int := y303.1.2.2.2.1
let a306 : (Nat → Int) := y303.2.1
let a307 : (Nat → Int) := y303.2.2.1
let a308 : (Nat → Int) := y303.2.2.2.1
p_41 N ((a308, ()), ()) (fun y422 =>
let a423 : (Nat → Int) := y422
l_45_19 N N (((), (), i304, i305, (), 0, ()), (a306, a307, a423, ())) (fun y448 =>
let i449 : Int := y448.1.2.2.1
let i450 : Int := y448.1.2.2.2.1
let a451 : (Nat → Int) := y448.2.1
let a452 : (Nat → Int) := y448.2.2.1
let i453 : Int := addA .i64 i450 1
rec (((), (), i449, i453, ()), (a451, a452, ())))))) else (
κ0 (((), (), i275, ()), (a277, a278, ())))
def l_45_5 {R : Type} (N : Nat) : Nat → ((Unit × Unit × Int × Int × Unit) × ((Nat → Int) × (Nat → Int) × Unit)) → (((Unit × Unit × Int × Unit) × ((Nat → Int) × (Nat → Int) × Unit)) → Option R) → Option R
  | 0, _, _ => none
  | n + 1, x, κ0 => B_45_5 N (fun y => l_45_5 N n y κ0) x κ0
def lv_45_2 : Live := [(1, none), (2, none), (3, none)]
def pt_45_2 : SPat := ⟨[(1, .ptr 0 []), (2, .ptr 1 []), (3, .int .i64)], [some (.vec (.int .u64) 128, 70), some (.vec (.int .u64) 128, 70)]⟩
def px_45_2_0 : SPat := ⟨[(1, .ptr 0 []), (2, .ptr 1 [])], [some (.vec (.int .u64) 128, 70), some (.vec (.int .u64) 128, 70)]⟩
def lo_45_2 : Exit → Live
  | .exit 0 => [(1, none), (2, none)]
  | _ => []
def B_45_2 {R : Type} (N : Nat) (rec : ((Unit × Unit × Int × Unit) × ((Nat → Int) × (Nat → Int) × Unit)) → Option R) (x : ((Unit × Unit × Int × Unit) × ((Nat → Int) × (Nat → Int) × Unit))) (κ0 : ((Unit × Unit × Unit) × ((Nat → Int) × (Nat → Int) × Unit)) → Option R) : Option R :=
let i272 : Int := x.1.2.2.1
let a273 : (Nat → Int) := x.2.1
let a274 : (Nat → Int) := x.2.2.1
bif (decide (i272 < 2)) then (
l_45_5 N N (((), (), i272, 0, ()), (a273, a274, ())) (fun y454 =>
let i455 : Int := y454.1.2.2.1
let a456 : (Nat → Int) := y454.2.1
let a457 : (Nat → Int) := y454.2.2.1
let i458 : Int := addA .i64 i455 1
rec (((), (), i458, ()), (a456, a457, ())))) else (
κ0 (((), (), ()), (a273, a274, ())))
def l_45_2 {R : Type} (N : Nat) : Nat → ((Unit × Unit × Int × Unit) × ((Nat → Int) × (Nat → Int) × Unit)) → (((Unit × Unit × Unit) × ((Nat → Int) × (Nat → Int) × Unit)) → Option R) → Option R
  | 0, _, _ => none
  | n + 1, x, κ0 => B_45_2 N (fun y => l_45_2 N n y κ0) x κ0
def ap_45 : List Pat := [.vec (.int .u64) 128]
def hp_45 : List (Option (Pat × Nat)) := []
def p_45 {R : Type} (N : Nat) (x : ((Nat → Int) × Unit) × (Unit)) (κ0 : (Nat → Int) → Option R) : Option R :=
let a271 : (Nat → Int) := x.1.1
l_45_2 N N (((), (), 0, ()), (a271, (Sch.zero (.arr 128 (.int .u64))), ())) (fun y459 =>
let a460 : (Nat → Int) := y459.2.1
let a461 : (Nat → Int) := y459.2.2.1
κ0 a460)

def Q_45 {R : Type} (q_41 : ((Nat → Int) × Unit) × (Unit) → ((Nat → Int) → Option R) → Option R) (m_45_9 : ((Unit × Unit × Int × Int × Unit × Int × Unit) × ((Nat → Int) × (Nat → Int) × (Nat → Int) × Unit)) → (((Unit × Unit × Int × Int × Unit × Unit) × ((Nat → Int) × (Nat → Int) × (Nat → Int) × Unit)) → Option R) → Option R) (m_45_19 : ((Unit × Unit × Int × Int × Unit × Int × Unit) × ((Nat → Int) × (Nat → Int) × (Nat → Int) × Unit)) → (((Unit × Unit × Int × Int × Unit) × ((Nat → Int) × (Nat → Int) × Unit)) → Option R) → Option R) (m_45_5 : ((Unit × Unit × Int × Int × Unit) × ((Nat → Int) × (Nat → Int) × Unit)) → (((Unit × Unit × Int × Unit) × ((Nat → Int) × (Nat → Int) × Unit)) → Option R) → Option R) (m_45_2 : ((Unit × Unit × Int × Unit) × ((Nat → Int) × (Nat → Int) × Unit)) → (((Unit × Unit × Unit) × ((Nat → Int) × (Nat → Int) × Unit)) → Option R) → Option R) (x : ((Nat → Int) × Unit) × (Unit)) (κ0 : (Nat → Int) → Option R) : Option R :=
let a271 : (Nat → Int) := x.1.1
m_45_2 (((), (), 0, ()), (a271, (Sch.zero (.arr 128 (.int .u64))), ())) (fun y459 =>
let a460 : (Nat → Int) := y459.2.1
let a461 : (Nat → Int) := y459.2.2.1
κ0 a460)
def C_45_9 {R : Type} (q_41 : ((Nat → Int) × Unit) × (Unit) → ((Nat → Int) → Option R) → Option R) (m_45_9 : ((Unit × Unit × Int × Int × Unit × Int × Unit) × ((Nat → Int) × (Nat → Int) × (Nat → Int) × Unit)) → (((Unit × Unit × Int × Int × Unit × Unit) × ((Nat → Int) × (Nat → Int) × (Nat → Int) × Unit)) → Option R) → Option R) (m_45_19 : ((Unit × Unit × Int × Int × Unit × Int × Unit) × ((Nat → Int) × (Nat → Int) × (Nat → Int) × Unit)) → (((Unit × Unit × Int × Int × Unit) × ((Nat → Int) × (Nat → Int) × Unit)) → Option R) → Option R) (m_45_5 : ((Unit × Unit × Int × Int × Unit) × ((Nat → Int) × (Nat → Int) × Unit)) → (((Unit × Unit × Int × Unit) × ((Nat → Int) × (Nat → Int) × Unit)) → Option R) → Option R) (m_45_2 : ((Unit × Unit × Int × Unit) × ((Nat → Int) × (Nat → Int) × Unit)) → (((Unit × Unit × Unit) × ((Nat → Int) × (Nat → Int) × Unit)) → Option R) → Option R) (rec : ((Unit × Unit × Int × Int × Unit × Int × Unit) × ((Nat → Int) × (Nat → Int) × (Nat → Int) × Unit)) → Option R) (x : ((Unit × Unit × Int × Int × Unit × Int × Unit) × ((Nat → Int) × (Nat → Int) × (Nat → Int) × Unit))) (κ0 : ((Unit × Unit × Int × Int × Unit × Unit) × ((Nat → Int) × (Nat → Int) × (Nat → Int) × Unit)) → Option R) : Option R :=
let i279 : Int := x.1.2.2.1
let i280 : Int := x.1.2.2.2.1
let i281 : Int := x.1.2.2.2.2.2.1
let a282 : (Nat → Int) := x.2.1
let a283 : (Nat → Int) := x.2.2.1
let a284 : (Nat → Int) := x.2.2.2.1
bif (decide (i281 < 16)) then (
let i285 : Int := quoA .i64 i281 2
bif (i279 == 1) then (
let i286 : Int := quoA .i64 i281 2
let i287 : Int := mulA .i64 16 i286
let i288 : Int := mulA .i64 2 i280
let i289 : Int := addA .i64 i287 i288
let i290 : Int := remA .i64 i281 2
let i291 : Int := addA .i64 i289 i290
bif decide (0 ≤ i291) then (
bif decide (i291 < (128 : Int)) then (
let i292 : Int := (a282 ((Int.toNat i291)))
bif decide (0 ≤ i281) then (
bif decide (i281 < (16 : Int)) then (
let a293 : (Nat → Int) := (upd a284 ((Int.toNat i281)) i292)
let i294 : Int := addA .i64 i281 1
rec (((), (), i279, i280, (), i294, ()), (a282, a283, a293, ()))) else none) else none) else none) else none) else (
let i295 : Int := mulA .i64 16 i280
let i296 : Int := mulA .i64 2 i285
let i297 : Int := addA .i64 i295 i296
let i298 : Int := remA .i64 i281 2
let i299 : Int := addA .i64 i297 i298
bif decide (0 ≤ i299) then (
bif decide (i299 < (128 : Int)) then (
let i300 : Int := (a282 ((Int.toNat i299)))
bif decide (0 ≤ i281) then (
bif decide (i281 < (16 : Int)) then (
let a301 : (Nat → Int) := (upd a284 ((Int.toNat i281)) i300)
let i302 : Int := addA .i64 i281 1
rec (((), (), i279, i280, (), i302, ()), (a282, a283, a301, ()))) else none) else none) else none) else none)) else (
κ0 (((), (), i279, i280, (), ()), (a282, a283, a284, ())))
def C_45_19 {R : Type} (q_41 : ((Nat → Int) × Unit) × (Unit) → ((Nat → Int) → Option R) → Option R) (m_45_9 : ((Unit × Unit × Int × Int × Unit × Int × Unit) × ((Nat → Int) × (Nat → Int) × (Nat → Int) × Unit)) → (((Unit × Unit × Int × Int × Unit × Unit) × ((Nat → Int) × (Nat → Int) × (Nat → Int) × Unit)) → Option R) → Option R) (m_45_19 : ((Unit × Unit × Int × Int × Unit × Int × Unit) × ((Nat → Int) × (Nat → Int) × (Nat → Int) × Unit)) → (((Unit × Unit × Int × Int × Unit) × ((Nat → Int) × (Nat → Int) × Unit)) → Option R) → Option R) (m_45_5 : ((Unit × Unit × Int × Int × Unit) × ((Nat → Int) × (Nat → Int) × Unit)) → (((Unit × Unit × Int × Unit) × ((Nat → Int) × (Nat → Int) × Unit)) → Option R) → Option R) (m_45_2 : ((Unit × Unit × Int × Unit) × ((Nat → Int) × (Nat → Int) × Unit)) → (((Unit × Unit × Unit) × ((Nat → Int) × (Nat → Int) × Unit)) → Option R) → Option R) (rec : ((Unit × Unit × Int × Int × Unit × Int × Unit) × ((Nat → Int) × (Nat → Int) × (Nat → Int) × Unit)) → Option R) (x : ((Unit × Unit × Int × Int × Unit × Int × Unit) × ((Nat → Int) × (Nat → Int) × (Nat → Int) × Unit))) (κ0 : ((Unit × Unit × Int × Int × Unit) × ((Nat → Int) × (Nat → Int) × Unit)) → Option R) : Option R :=
let i424 : Int := x.1.2.2.1
let i425 : Int := x.1.2.2.2.1
let i426 : Int := x.1.2.2.2.2.2.1
let a427 : (Nat → Int) := x.2.1
let a428 : (Nat → Int) := x.2.2.1
let a429 : (Nat → Int) := x.2.2.2.1
bif (decide (i426 < 16)) then (
let i430 : Int := quoA .i64 i426 2
bif (i424 == 1) then (
let i431 : Int := quoA .i64 i426 2
let i432 : Int := mulA .i64 16 i431
let i433 : Int := mulA .i64 2 i425
let i434 : Int := addA .i64 i432 i433
let i435 : Int := remA .i64 i426 2
let i436 : Int := addA .i64 i434 i435
bif decide (0 ≤ i426) then (
bif decide (i426 < (16 : Int)) then (
let i437 : Int := (a429 ((Int.toNat i426)))
bif decide (0 ≤ i436) then (
bif decide (i436 < (128 : Int)) then (
let a438 : (Nat → Int) := (upd a427 ((Int.toNat i436)) i437)
let i439 : Int := addA .i64 i426 1
rec (((), (), i424, i425, (), i439, ()), (a438, a428, a429, ()))) else none) else none) else none) else none) else (
let i440 : Int := mulA .i64 16 i425
let i441 : Int := mulA .i64 2 i430
let i442 : Int := addA .i64 i440 i441
let i443 : Int := remA .i64 i426 2
let i444 : Int := addA .i64 i442 i443
bif decide (0 ≤ i426) then (
bif decide (i426 < (16 : Int)) then (
let i445 : Int := (a429 ((Int.toNat i426)))
bif decide (0 ≤ i444) then (
bif decide (i444 < (128 : Int)) then (
let a446 : (Nat → Int) := (upd a427 ((Int.toNat i444)) i445)
let i447 : Int := addA .i64 i426 1
rec (((), (), i424, i425, (), i447, ()), (a446, a428, a429, ()))) else none) else none) else none) else none)) else (
κ0 (((), (), i424, i425, ()), (a427, a428, ())))
def C_45_5 {R : Type} (q_41 : ((Nat → Int) × Unit) × (Unit) → ((Nat → Int) → Option R) → Option R) (m_45_9 : ((Unit × Unit × Int × Int × Unit × Int × Unit) × ((Nat → Int) × (Nat → Int) × (Nat → Int) × Unit)) → (((Unit × Unit × Int × Int × Unit × Unit) × ((Nat → Int) × (Nat → Int) × (Nat → Int) × Unit)) → Option R) → Option R) (m_45_19 : ((Unit × Unit × Int × Int × Unit × Int × Unit) × ((Nat → Int) × (Nat → Int) × (Nat → Int) × Unit)) → (((Unit × Unit × Int × Int × Unit) × ((Nat → Int) × (Nat → Int) × Unit)) → Option R) → Option R) (m_45_5 : ((Unit × Unit × Int × Int × Unit) × ((Nat → Int) × (Nat → Int) × Unit)) → (((Unit × Unit × Int × Unit) × ((Nat → Int) × (Nat → Int) × Unit)) → Option R) → Option R) (m_45_2 : ((Unit × Unit × Int × Unit) × ((Nat → Int) × (Nat → Int) × Unit)) → (((Unit × Unit × Unit) × ((Nat → Int) × (Nat → Int) × Unit)) → Option R) → Option R) (rec : ((Unit × Unit × Int × Int × Unit) × ((Nat → Int) × (Nat → Int) × Unit)) → Option R) (x : ((Unit × Unit × Int × Int × Unit) × ((Nat → Int) × (Nat → Int) × Unit))) (κ0 : ((Unit × Unit × Int × Unit) × ((Nat → Int) × (Nat → Int) × Unit)) → Option R) : Option R :=
let i275 : Int := x.1.2.2.1
let i276 : Int := x.1.2.2.2.1
let a277 : (Nat → Int) := x.2.1
let a278 : (Nat → Int) := x.2.2.1
bif (decide (i276 < 8)) then (
m_45_9 (((), (), i275, i276, (), 0, ()), (a277, a278, (Sch.zero (.arr 16 (.int .u64))), ())) (fun y303 =>
let i304 : Int := y303.1.2.2.1
let i305 : Int := y303.1.2.2.2.1
let a306 : (Nat → Int) := y303.2.1
let a307 : (Nat → Int) := y303.2.2.1
let a308 : (Nat → Int) := y303.2.2.2.1
q_41 ((a308, ()), ()) (fun y422 =>
let a423 : (Nat → Int) := y422
m_45_19 (((), (), i304, i305, (), 0, ()), (a306, a307, a423, ())) (fun y448 =>
let i449 : Int := y448.1.2.2.1
let i450 : Int := y448.1.2.2.2.1
let a451 : (Nat → Int) := y448.2.1
let a452 : (Nat → Int) := y448.2.2.1
let i453 : Int := addA .i64 i450 1
rec (((), (), i449, i453, ()), (a451, a452, ())))))) else (
κ0 (((), (), i275, ()), (a277, a278, ())))
def C_45_2 {R : Type} (q_41 : ((Nat → Int) × Unit) × (Unit) → ((Nat → Int) → Option R) → Option R) (m_45_9 : ((Unit × Unit × Int × Int × Unit × Int × Unit) × ((Nat → Int) × (Nat → Int) × (Nat → Int) × Unit)) → (((Unit × Unit × Int × Int × Unit × Unit) × ((Nat → Int) × (Nat → Int) × (Nat → Int) × Unit)) → Option R) → Option R) (m_45_19 : ((Unit × Unit × Int × Int × Unit × Int × Unit) × ((Nat → Int) × (Nat → Int) × (Nat → Int) × Unit)) → (((Unit × Unit × Int × Int × Unit) × ((Nat → Int) × (Nat → Int) × Unit)) → Option R) → Option R) (m_45_5 : ((Unit × Unit × Int × Int × Unit) × ((Nat → Int) × (Nat → Int) × Unit)) → (((Unit × Unit × Int × Unit) × ((Nat → Int) × (Nat → Int) × Unit)) → Option R) → Option R) (m_45_2 : ((Unit × Unit × Int × Unit) × ((Nat → Int) × (Nat → Int) × Unit)) → (((Unit × Unit × Unit) × ((Nat → Int) × (Nat → Int) × Unit)) → Option R) → Option R) (rec : ((Unit × Unit × Int × Unit) × ((Nat → Int) × (Nat → Int) × Unit)) → Option R) (x : ((Unit × Unit × Int × Unit) × ((Nat → Int) × (Nat → Int) × Unit))) (κ0 : ((Unit × Unit × Unit) × ((Nat → Int) × (Nat → Int) × Unit)) → Option R) : Option R :=
let i272 : Int := x.1.2.2.1
let a273 : (Nat → Int) := x.2.1
let a274 : (Nat → Int) := x.2.2.1
bif (decide (i272 < 2)) then (
m_45_5 (((), (), i272, 0, ()), (a273, a274, ())) (fun y454 =>
let i455 : Int := y454.1.2.2.1
let a456 : (Nat → Int) := y454.2.1
let a457 : (Nat → Int) := y454.2.2.1
let i458 : Int := addA .i64 i455 1
rec (((), (), i458, ()), (a456, a457, ())))) else (
κ0 (((), (), ()), (a273, a274, ())))
def EG_45 {R : Type} (q_41 : ((Nat → Int) × Unit) × (Unit) → ((Nat → Int) → Option R) → Option R) : Env R := (Env.base QQ LN).add 41 ap_41 hp_41 (fun (x : aden ap_41 × hden hp_41) k => q_41 x (fun y => k (Pat.inst (.vec (.int .u64) 16) y) (instH hp_41 x.2)))
def LG_45 {R : Type} (m_45_9 : ((Unit × Unit × Int × Int × Unit × Int × Unit) × ((Nat → Int) × (Nat → Int) × (Nat → Int) × Unit)) → (((Unit × Unit × Int × Int × Unit × Unit) × ((Nat → Int) × (Nat → Int) × (Nat → Int) × Unit)) → Option R) → Option R) (m_45_19 : ((Unit × Unit × Int × Int × Unit × Int × Unit) × ((Nat → Int) × (Nat → Int) × (Nat → Int) × Unit)) → (((Unit × Unit × Int × Int × Unit) × ((Nat → Int) × (Nat → Int) × Unit)) → Option R) → Option R) (m_45_5 : ((Unit × Unit × Int × Int × Unit) × ((Nat → Int) × (Nat → Int) × Unit)) → (((Unit × Unit × Int × Unit) × ((Nat → Int) × (Nat → Int) × Unit)) → Option R) → Option R) (m_45_2 : ((Unit × Unit × Int × Unit) × ((Nat → Int) × (Nat → Int) × Unit)) → (((Unit × Unit × Unit) × ((Nat → Int) × (Nat → Int) × Unit)) → Option R) → Option R) : Loops R := ((((Loops.none).add 9 (loopBy 0 lv_45_9 pt_45_9 (fun x k => m_45_9 x (fun y => k (.exit 4) (px_45_9_0.inst y))))).add 19 (loopBy 0 lv_45_19 pt_45_19 (fun x k => m_45_19 x (fun y => k (.exit 6) (px_45_19_0.inst y))))).add 5 (loopBy 0 lv_45_5 pt_45_5 (fun x k => m_45_5 x (fun y => k (.exit 2) (px_45_5_0.inst y))))).add 2 (loopBy 0 lv_45_2 pt_45_2 (fun x k => m_45_2 x (fun y => k (.exit 0) (px_45_2_0.inst y))))
def E_45 {R : Type} (N : Nat) : Env R := EG_45 (p_41 N)
theorem eok_45 {R : Type} (N : Nat) : EK Try.prog (E_45 (R := R) N) := ek_add (ek_base _ _) (good_41 N)
def L_45 {R : Type} (N : Nat) : Loops R := LG_45 (l_45_9 N N) (l_45_19 N N) (l_45_5 N N) (l_45_2 N N)
theorem gstep_45_9 {R : Type} (q_41 : ((Nat → Int) × Unit) × (Unit) → ((Nat → Int) → Option R) → Option R) (m_45_9 : ((Unit × Unit × Int × Int × Unit × Int × Unit) × ((Nat → Int) × (Nat → Int) × (Nat → Int) × Unit)) → (((Unit × Unit × Int × Int × Unit × Unit) × ((Nat → Int) × (Nat → Int) × (Nat → Int) × Unit)) → Option R) → Option R) (m_45_19 : ((Unit × Unit × Int × Int × Unit × Int × Unit) × ((Nat → Int) × (Nat → Int) × (Nat → Int) × Unit)) → (((Unit × Unit × Int × Int × Unit) × ((Nat → Int) × (Nat → Int) × Unit)) → Option R) → Option R) (m_45_5 : ((Unit × Unit × Int × Int × Unit) × ((Nat → Int) × (Nat → Int) × Unit)) → (((Unit × Unit × Int × Unit) × ((Nat → Int) × (Nat → Int) × Unit)) → Option R) → Option R) (m_45_2 : ((Unit × Unit × Int × Unit) × ((Nat → Int) × (Nat → Int) × Unit)) → (((Unit × Unit × Unit) × ((Nat → Int) × (Nat → Int) × Unit)) → Option R) → Option R) (n : Nat) (x : pt_45_9.den) (k : Exit → St → Option R) : iter 0 lv_45_9 lo_45_9 (aexec TT (EG_45 q_41) (drawOk TT QQ) (LG_45 m_45_9 m_45_19 m_45_5 m_45_2) (loopAt 9 (bodyOf Try.f45))) (n + 1) (pt_45_9.inst x) k = C_45_9 q_41 m_45_9 m_45_19 m_45_5 m_45_2 (fun y => iter 0 lv_45_9 lo_45_9 (aexec TT (EG_45 q_41) (drawOk TT QQ) (LG_45 m_45_9 m_45_19 m_45_5 m_45_2) (loopAt 9 (bodyOf Try.f45))) n (pt_45_9.inst y) k) x (fun y => k (.exit 4) (px_45_9_0.inst y)) := by kernel_rfl
theorem step_45_9 {R : Type} (N n : Nat) (x : pt_45_9.den) (k : Exit → St → Option R) : iter 0 lv_45_9 lo_45_9 (aexec TT (E_45 (R := R) N) (drawOk TT QQ) (L_45 N) (loopAt 9 (bodyOf Try.f45))) (n + 1) (pt_45_9.inst x) k = B_45_9 N (fun y => iter 0 lv_45_9 lo_45_9 (aexec TT (E_45 (R := R) N) (drawOk TT QQ) (L_45 N) (loopAt 9 (bodyOf Try.f45))) n (pt_45_9.inst y) k) x (fun y => k (.exit 4) (px_45_9_0.inst y)) := (gstep_45_9 (p_41 N) (l_45_9 N N) (l_45_19 N N) (l_45_5 N N) (l_45_2 N N) n x k).trans (by kernel_rfl)
theorem eq_45_9 {R : Type} (N : Nat) : ∀ (n : Nat) (x : pt_45_9.den) (k : Exit → St → Option R), iter 0 lv_45_9 lo_45_9 (aexec TT (E_45 (R := R) N) (drawOk TT QQ) (L_45 N) (loopAt 9 (bodyOf Try.f45))) n (pt_45_9.inst x) k = l_45_9 N n x (fun y => k (.exit 4) (px_45_9_0.inst y)) :=
  iter_eq (K := Exit → St → Option R) (ks := fun k => k) (l := fun n (x : pt_45_9.den) k => l_45_9 N n x (fun y => k (.exit 4) (px_45_9_0.inst y))) (B := fun (rec : pt_45_9.den → Option R) (x : pt_45_9.den) k => B_45_9 N rec x (fun y => k (.exit 4) (px_45_9_0.inst y))) (fun _ _ => rfl) (fun _ _ _ => rfl) (fun n x k => step_45_9 N n x k)
theorem rounds_45_9 {R : Type} (N : Nat) : Rounds 0 TT (E_45 (R := R) N) (drawOk TT QQ) (L_45 N) 9 (loopAt 9 (bodyOf Try.f45)) :=
  rounds_of (p := pt_45_9) (l := fun (x : pt_45_9.den) k => l_45_9 N N x (fun y => k (.exit 4) (px_45_9_0.inst y))) (fun s k => rfl) (fun x k => eq_45_9 N N x k)
theorem gstep_45_19 {R : Type} (q_41 : ((Nat → Int) × Unit) × (Unit) → ((Nat → Int) → Option R) → Option R) (m_45_9 : ((Unit × Unit × Int × Int × Unit × Int × Unit) × ((Nat → Int) × (Nat → Int) × (Nat → Int) × Unit)) → (((Unit × Unit × Int × Int × Unit × Unit) × ((Nat → Int) × (Nat → Int) × (Nat → Int) × Unit)) → Option R) → Option R) (m_45_19 : ((Unit × Unit × Int × Int × Unit × Int × Unit) × ((Nat → Int) × (Nat → Int) × (Nat → Int) × Unit)) → (((Unit × Unit × Int × Int × Unit) × ((Nat → Int) × (Nat → Int) × Unit)) → Option R) → Option R) (m_45_5 : ((Unit × Unit × Int × Int × Unit) × ((Nat → Int) × (Nat → Int) × Unit)) → (((Unit × Unit × Int × Unit) × ((Nat → Int) × (Nat → Int) × Unit)) → Option R) → Option R) (m_45_2 : ((Unit × Unit × Int × Unit) × ((Nat → Int) × (Nat → Int) × Unit)) → (((Unit × Unit × Unit) × ((Nat → Int) × (Nat → Int) × Unit)) → Option R) → Option R) (n : Nat) (x : pt_45_19.den) (k : Exit → St → Option R) : iter 0 lv_45_19 lo_45_19 (aexec TT (EG_45 q_41) (drawOk TT QQ) (LG_45 m_45_9 m_45_19 m_45_5 m_45_2) (loopAt 19 (bodyOf Try.f45))) (n + 1) (pt_45_19.inst x) k = C_45_19 q_41 m_45_9 m_45_19 m_45_5 m_45_2 (fun y => iter 0 lv_45_19 lo_45_19 (aexec TT (EG_45 q_41) (drawOk TT QQ) (LG_45 m_45_9 m_45_19 m_45_5 m_45_2) (loopAt 19 (bodyOf Try.f45))) n (pt_45_19.inst y) k) x (fun y => k (.exit 6) (px_45_19_0.inst y)) := by kernel_rfl
theorem step_45_19 {R : Type} (N n : Nat) (x : pt_45_19.den) (k : Exit → St → Option R) : iter 0 lv_45_19 lo_45_19 (aexec TT (E_45 (R := R) N) (drawOk TT QQ) (L_45 N) (loopAt 19 (bodyOf Try.f45))) (n + 1) (pt_45_19.inst x) k = B_45_19 N (fun y => iter 0 lv_45_19 lo_45_19 (aexec TT (E_45 (R := R) N) (drawOk TT QQ) (L_45 N) (loopAt 19 (bodyOf Try.f45))) n (pt_45_19.inst y) k) x (fun y => k (.exit 6) (px_45_19_0.inst y)) := (gstep_45_19 (p_41 N) (l_45_9 N N) (l_45_19 N N) (l_45_5 N N) (l_45_2 N N) n x k).trans (by kernel_rfl)
theorem eq_45_19 {R : Type} (N : Nat) : ∀ (n : Nat) (x : pt_45_19.den) (k : Exit → St → Option R), iter 0 lv_45_19 lo_45_19 (aexec TT (E_45 (R := R) N) (drawOk TT QQ) (L_45 N) (loopAt 19 (bodyOf Try.f45))) n (pt_45_19.inst x) k = l_45_19 N n x (fun y => k (.exit 6) (px_45_19_0.inst y)) :=
  iter_eq (K := Exit → St → Option R) (ks := fun k => k) (l := fun n (x : pt_45_19.den) k => l_45_19 N n x (fun y => k (.exit 6) (px_45_19_0.inst y))) (B := fun (rec : pt_45_19.den → Option R) (x : pt_45_19.den) k => B_45_19 N rec x (fun y => k (.exit 6) (px_45_19_0.inst y))) (fun _ _ => rfl) (fun _ _ _ => rfl) (fun n x k => step_45_19 N n x k)
theorem rounds_45_19 {R : Type} (N : Nat) : Rounds 0 TT (E_45 (R := R) N) (drawOk TT QQ) (L_45 N) 19 (loopAt 19 (bodyOf Try.f45)) :=
  rounds_of (p := pt_45_19) (l := fun (x : pt_45_19.den) k => l_45_19 N N x (fun y => k (.exit 6) (px_45_19_0.inst y))) (fun s k => rfl) (fun x k => eq_45_19 N N x k)
theorem gstep_45_5 {R : Type} (q_41 : ((Nat → Int) × Unit) × (Unit) → ((Nat → Int) → Option R) → Option R) (m_45_9 : ((Unit × Unit × Int × Int × Unit × Int × Unit) × ((Nat → Int) × (Nat → Int) × (Nat → Int) × Unit)) → (((Unit × Unit × Int × Int × Unit × Unit) × ((Nat → Int) × (Nat → Int) × (Nat → Int) × Unit)) → Option R) → Option R) (m_45_19 : ((Unit × Unit × Int × Int × Unit × Int × Unit) × ((Nat → Int) × (Nat → Int) × (Nat → Int) × Unit)) → (((Unit × Unit × Int × Int × Unit) × ((Nat → Int) × (Nat → Int) × Unit)) → Option R) → Option R) (m_45_5 : ((Unit × Unit × Int × Int × Unit) × ((Nat → Int) × (Nat → Int) × Unit)) → (((Unit × Unit × Int × Unit) × ((Nat → Int) × (Nat → Int) × Unit)) → Option R) → Option R) (m_45_2 : ((Unit × Unit × Int × Unit) × ((Nat → Int) × (Nat → Int) × Unit)) → (((Unit × Unit × Unit) × ((Nat → Int) × (Nat → Int) × Unit)) → Option R) → Option R) (n : Nat) (x : pt_45_5.den) (k : Exit → St → Option R) : iter 0 lv_45_5 lo_45_5 (aexec TT (EG_45 q_41) (drawOk TT QQ) (LG_45 m_45_9 m_45_19 m_45_5 m_45_2) (loopAt 5 (bodyOf Try.f45))) (n + 1) (pt_45_5.inst x) k = C_45_5 q_41 m_45_9 m_45_19 m_45_5 m_45_2 (fun y => iter 0 lv_45_5 lo_45_5 (aexec TT (EG_45 q_41) (drawOk TT QQ) (LG_45 m_45_9 m_45_19 m_45_5 m_45_2) (loopAt 5 (bodyOf Try.f45))) n (pt_45_5.inst y) k) x (fun y => k (.exit 2) (px_45_5_0.inst y)) := by kernel_rfl
theorem step_45_5 {R : Type} (N n : Nat) (x : pt_45_5.den) (k : Exit → St → Option R) : iter 0 lv_45_5 lo_45_5 (aexec TT (E_45 (R := R) N) (drawOk TT QQ) (L_45 N) (loopAt 5 (bodyOf Try.f45))) (n + 1) (pt_45_5.inst x) k = B_45_5 N (fun y => iter 0 lv_45_5 lo_45_5 (aexec TT (E_45 (R := R) N) (drawOk TT QQ) (L_45 N) (loopAt 5 (bodyOf Try.f45))) n (pt_45_5.inst y) k) x (fun y => k (.exit 2) (px_45_5_0.inst y)) := (gstep_45_5 (p_41 N) (l_45_9 N N) (l_45_19 N N) (l_45_5 N N) (l_45_2 N N) n x k).trans (by kernel_rfl)
theorem eq_45_5 {R : Type} (N : Nat) : ∀ (n : Nat) (x : pt_45_5.den) (k : Exit → St → Option R), iter 0 lv_45_5 lo_45_5 (aexec TT (E_45 (R := R) N) (drawOk TT QQ) (L_45 N) (loopAt 5 (bodyOf Try.f45))) n (pt_45_5.inst x) k = l_45_5 N n x (fun y => k (.exit 2) (px_45_5_0.inst y)) :=
  iter_eq (K := Exit → St → Option R) (ks := fun k => k) (l := fun n (x : pt_45_5.den) k => l_45_5 N n x (fun y => k (.exit 2) (px_45_5_0.inst y))) (B := fun (rec : pt_45_5.den → Option R) (x : pt_45_5.den) k => B_45_5 N rec x (fun y => k (.exit 2) (px_45_5_0.inst y))) (fun _ _ => rfl) (fun _ _ _ => rfl) (fun n x k => step_45_5 N n x k)
theorem rounds_45_5 {R : Type} (N : Nat) : Rounds 0 TT (E_45 (R := R) N) (drawOk TT QQ) (L_45 N) 5 (loopAt 5 (bodyOf Try.f45)) :=
  rounds_of (p := pt_45_5) (l := fun (x : pt_45_5.den) k => l_45_5 N N x (fun y => k (.exit 2) (px_45_5_0.inst y))) (fun s k => rfl) (fun x k => eq_45_5 N N x k)
theorem gstep_45_2 {R : Type} (q_41 : ((Nat → Int) × Unit) × (Unit) → ((Nat → Int) → Option R) → Option R) (m_45_9 : ((Unit × Unit × Int × Int × Unit × Int × Unit) × ((Nat → Int) × (Nat → Int) × (Nat → Int) × Unit)) → (((Unit × Unit × Int × Int × Unit × Unit) × ((Nat → Int) × (Nat → Int) × (Nat → Int) × Unit)) → Option R) → Option R) (m_45_19 : ((Unit × Unit × Int × Int × Unit × Int × Unit) × ((Nat → Int) × (Nat → Int) × (Nat → Int) × Unit)) → (((Unit × Unit × Int × Int × Unit) × ((Nat → Int) × (Nat → Int) × Unit)) → Option R) → Option R) (m_45_5 : ((Unit × Unit × Int × Int × Unit) × ((Nat → Int) × (Nat → Int) × Unit)) → (((Unit × Unit × Int × Unit) × ((Nat → Int) × (Nat → Int) × Unit)) → Option R) → Option R) (m_45_2 : ((Unit × Unit × Int × Unit) × ((Nat → Int) × (Nat → Int) × Unit)) → (((Unit × Unit × Unit) × ((Nat → Int) × (Nat → Int) × Unit)) → Option R) → Option R) (n : Nat) (x : pt_45_2.den) (k : Exit → St → Option R) : iter 0 lv_45_2 lo_45_2 (aexec TT (EG_45 q_41) (drawOk TT QQ) (LG_45 m_45_9 m_45_19 m_45_5 m_45_2) (loopAt 2 (bodyOf Try.f45))) (n + 1) (pt_45_2.inst x) k = C_45_2 q_41 m_45_9 m_45_19 m_45_5 m_45_2 (fun y => iter 0 lv_45_2 lo_45_2 (aexec TT (EG_45 q_41) (drawOk TT QQ) (LG_45 m_45_9 m_45_19 m_45_5 m_45_2) (loopAt 2 (bodyOf Try.f45))) n (pt_45_2.inst y) k) x (fun y => k (.exit 0) (px_45_2_0.inst y)) := by kernel_rfl
theorem step_45_2 {R : Type} (N n : Nat) (x : pt_45_2.den) (k : Exit → St → Option R) : iter 0 lv_45_2 lo_45_2 (aexec TT (E_45 (R := R) N) (drawOk TT QQ) (L_45 N) (loopAt 2 (bodyOf Try.f45))) (n + 1) (pt_45_2.inst x) k = B_45_2 N (fun y => iter 0 lv_45_2 lo_45_2 (aexec TT (E_45 (R := R) N) (drawOk TT QQ) (L_45 N) (loopAt 2 (bodyOf Try.f45))) n (pt_45_2.inst y) k) x (fun y => k (.exit 0) (px_45_2_0.inst y)) := (gstep_45_2 (p_41 N) (l_45_9 N N) (l_45_19 N N) (l_45_5 N N) (l_45_2 N N) n x k).trans (by kernel_rfl)
theorem eq_45_2 {R : Type} (N : Nat) : ∀ (n : Nat) (x : pt_45_2.den) (k : Exit → St → Option R), iter 0 lv_45_2 lo_45_2 (aexec TT (E_45 (R := R) N) (drawOk TT QQ) (L_45 N) (loopAt 2 (bodyOf Try.f45))) n (pt_45_2.inst x) k = l_45_2 N n x (fun y => k (.exit 0) (px_45_2_0.inst y)) :=
  iter_eq (K := Exit → St → Option R) (ks := fun k => k) (l := fun n (x : pt_45_2.den) k => l_45_2 N n x (fun y => k (.exit 0) (px_45_2_0.inst y))) (B := fun (rec : pt_45_2.den → Option R) (x : pt_45_2.den) k => B_45_2 N rec x (fun y => k (.exit 0) (px_45_2_0.inst y))) (fun _ _ => rfl) (fun _ _ _ => rfl) (fun n x k => step_45_2 N n x k)
theorem rounds_45_2 {R : Type} (N : Nat) : Rounds 0 TT (E_45 (R := R) N) (drawOk TT QQ) (L_45 N) 2 (loopAt 2 (bodyOf Try.f45)) :=
  rounds_of (p := pt_45_2) (l := fun (x : pt_45_2.den) k => l_45_2 N N x (fun y => k (.exit 0) (px_45_2_0.inst y))) (fun s k => rfl) (fun x k => eq_45_2 N N x k)
theorem loops_45 : loopsIn (bodyOf Try.f45) = [(2, loopAt 2 (bodyOf Try.f45)), (5, loopAt 5 (bodyOf Try.f45)), (9, loopAt 9 (bodyOf Try.f45)), (19, loopAt 19 (bodyOf Try.f45))] := by kernel_rfl
theorem lok_45 {R : Type} (N : Nat) : LOK 0 TT (E_45 (R := R) N) (drawOk TT QQ) (L_45 N) (bodyOf Try.f45) := loops_all loops_45 (by
  simp only [List.forall_mem_cons, List.not_mem_nil, false_implies, implies_true, and_true]
  exact ⟨rounds_45_2 N, rounds_45_5 N, rounds_45_9 N, rounds_45_19 N⟩)
theorem grun_45 {R : Type} (q_41 : ((Nat → Int) × Unit) × (Unit) → ((Nat → Int) → Option R) → Option R) (m_45_9 : ((Unit × Unit × Int × Int × Unit × Int × Unit) × ((Nat → Int) × (Nat → Int) × (Nat → Int) × Unit)) → (((Unit × Unit × Int × Int × Unit × Unit) × ((Nat → Int) × (Nat → Int) × (Nat → Int) × Unit)) → Option R) → Option R) (m_45_19 : ((Unit × Unit × Int × Int × Unit × Int × Unit) × ((Nat → Int) × (Nat → Int) × (Nat → Int) × Unit)) → (((Unit × Unit × Int × Int × Unit) × ((Nat → Int) × (Nat → Int) × Unit)) → Option R) → Option R) (m_45_5 : ((Unit × Unit × Int × Int × Unit) × ((Nat → Int) × (Nat → Int) × Unit)) → (((Unit × Unit × Int × Unit) × ((Nat → Int) × (Nat → Int) × Unit)) → Option R) → Option R) (m_45_2 : ((Unit × Unit × Int × Unit) × ((Nat → Int) × (Nat → Int) × Unit)) → (((Unit × Unit × Unit) × ((Nat → Int) × (Nat → Int) × Unit)) → Option R) → Option R) (x : aden ap_45 × hden hp_45) (k : KF R) : fnrun TT (EG_45 q_41) (drawOk TT QQ) (LG_45 m_45_9 m_45_19 m_45_5 m_45_2) true Try.f45 (instA ap_45 x.1) (instH hp_45 x.2) k = Q_45 q_41 m_45_9 m_45_19 m_45_5 m_45_2 x (fun y => k (Pat.inst (.vec (.int .u64) 128) y) (instH hp_45 x.2)) := by kernel_rfl
theorem run_45 {R : Type} (N : Nat) (x : aden ap_45 × hden hp_45) (k : KF R) : fnrun TT (E_45 (R := R) N) (drawOk TT QQ) (L_45 N) true Try.f45 (instA ap_45 x.1) (instH hp_45 x.2) k = p_45 N x (fun y => k (Pat.inst (.vec (.int .u64) 128) y) (instH hp_45 x.2)) := (grun_45 (p_41 N) (l_45_9 N N) (l_45_19 N N) (l_45_5 N N) (l_45_2 N N) x k).trans (by kernel_rfl)
theorem good_45 {R : Type} (N : Nat) : GD (X := R) Try.prog QQ 45 ap_45 hp_45 (fun (x : aden ap_45 × hden hp_45) k => p_45 N x (fun y => k (Pat.inst (.vec (.int .u64) 128) y) (instH hp_45 x.2))) :=
  gd_quiet (E := E_45 N) (p := fun (x : aden ap_45 × hden hp_45) κ => p_45 N x (fun y => κ (Pat.inst (.vec (.int .u64) 128) y))) mixed tyok (eok_45 N) Try.func45 (by kernel_rfl) (by kernel_rfl) (lok_45 N) (fun x k => run_45 N x k)

def ap_42 : List Pat := [.vec (.int .u64) 128, .vec (.int .u64) 128]
def hp_42 : List (Option (Pat × Nat)) := []
def p_42 {R : Type} (N : Nat) (x : ((Nat → Int) × (Nat → Int) × Unit) × (Unit)) (κ0 : (Nat → Int) → Option R) : Option R :=
let a240 : (Nat → Int) := x.1.1
let a241 : (Nat → Int) := x.1.2.1
let l242 : (List (Nat → Int)) := [a240, a241]
p_47 N ((l242, ()), ()) (fun y269 =>
let a270 : (Nat → Int) := y269
p_45 N ((a270, ()), ()) (fun y462 =>
let a463 : (Nat → Int) := y462
let l464 : (List (Nat → Int)) := [a270, a463]
p_47 N ((l464, ()), ()) (fun y465 =>
let a466 : (Nat → Int) := y465
κ0 a466)))

def Q_42 {R : Type} (q_47 : ((List (Nat → Int)) × Unit) × (Unit) → ((Nat → Int) → Option R) → Option R) (q_45 : ((Nat → Int) × Unit) × (Unit) → ((Nat → Int) → Option R) → Option R) (x : ((Nat → Int) × (Nat → Int) × Unit) × (Unit)) (κ0 : (Nat → Int) → Option R) : Option R :=
let a240 : (Nat → Int) := x.1.1
let a241 : (Nat → Int) := x.1.2.1
let l242 : (List (Nat → Int)) := [a240, a241]
q_47 ((l242, ()), ()) (fun y269 =>
let a270 : (Nat → Int) := y269
q_45 ((a270, ()), ()) (fun y462 =>
let a463 : (Nat → Int) := y462
let l464 : (List (Nat → Int)) := [a270, a463]
q_47 ((l464, ()), ()) (fun y465 =>
let a466 : (Nat → Int) := y465
κ0 a466)))
def EG_42 {R : Type} (q_47 : ((List (Nat → Int)) × Unit) × (Unit) → ((Nat → Int) → Option R) → Option R) (q_45 : ((Nat → Int) × Unit) × (Unit) → ((Nat → Int) → Option R) → Option R) : Env R := ((Env.base QQ LN).add 47 ap_47 hp_47 (fun (x : aden ap_47 × hden hp_47) k => q_47 x (fun y => k (Pat.inst (.vec (.int .u64) 128) y) (instH hp_47 x.2)))).add 45 ap_45 hp_45 (fun (x : aden ap_45 × hden hp_45) k => q_45 x (fun y => k (Pat.inst (.vec (.int .u64) 128) y) (instH hp_45 x.2)))
def LG_42 {R : Type} : Loops R := Loops.none
def E_42 {R : Type} (N : Nat) : Env R := EG_42 (p_47 N) (p_45 N)
theorem eok_42 {R : Type} (N : Nat) : EK Try.prog (E_42 (R := R) N) := ek_add (ek_add (ek_base _ _) (good_47 N)) (good_45 N)
def L_42 {R : Type} (N : Nat) : Loops R := LG_42
theorem lok_42 {R : Type} (N : Nat) : LOK 0 TT (E_42 (R := R) N) (drawOk TT QQ) (L_42 N) (bodyOf Try.f42) := loops_nil (by kernel_rfl)
theorem grun_42 {R : Type} (q_47 : ((List (Nat → Int)) × Unit) × (Unit) → ((Nat → Int) → Option R) → Option R) (q_45 : ((Nat → Int) × Unit) × (Unit) → ((Nat → Int) → Option R) → Option R) (x : aden ap_42 × hden hp_42) (k : KF R) : fnrun TT (EG_42 q_47 q_45) (drawOk TT QQ) (LG_42) true Try.f42 (instA ap_42 x.1) (instH hp_42 x.2) k = Q_42 q_47 q_45 x (fun y => k (Pat.inst (.vec (.int .u64) 128) y) (instH hp_42 x.2)) := by kernel_rfl
theorem run_42 {R : Type} (N : Nat) (x : aden ap_42 × hden hp_42) (k : KF R) : fnrun TT (E_42 (R := R) N) (drawOk TT QQ) (L_42 N) true Try.f42 (instA ap_42 x.1) (instH hp_42 x.2) k = p_42 N x (fun y => k (Pat.inst (.vec (.int .u64) 128) y) (instH hp_42 x.2)) := (grun_42 (p_47 N) (p_45 N) x k).trans (by kernel_rfl)
theorem good_42 {R : Type} (N : Nat) : GD (X := R) Try.prog QQ 42 ap_42 hp_42 (fun (x : aden ap_42 × hden hp_42) k => p_42 N x (fun y => k (Pat.inst (.vec (.int .u64) 128) y) (instH hp_42 x.2))) :=
  gd_quiet (E := E_42 N) (p := fun (x : aden ap_42 × hden hp_42) κ => p_42 N x (fun y => κ (Pat.inst (.vec (.int .u64) 128) y))) mixed tyok (eok_42 N) Try.func42 (by kernel_rfl) (by kernel_rfl) (lok_42 N) (fun x k => run_42 N x k)

def ap_46 : List Pat := [.vec (.int .u64) 128, .vec (.int .u64) 128, .ros (.arr 128 (.int .u64))]
def hp_46 : List (Option (Pat × Nat)) := []
def p_46 {R : Type} (N : Nat) (x : ((Nat → Int) × (Nat → Int) × (List (Nat → Int)) × Unit) × (Unit)) (κ0 : (Nat → Int) → Option R) : Option R :=
let a475 : (Nat → Int) := x.1.1
let a476 : (Nat → Int) := x.1.2.1
let l477 : (List (Nat → Int)) := x.1.2.2.1
p_43 N ((a475, a476, ()), ()) (fun y478 =>
let a479 : (Nat → Int) := y478
let l480 : (List (Nat → Int)) := [a479]
bif (decide ((List.length l480 + List.length l477) * 1024 ≤ 140737488355328) && true) then (
let l481 : (List (Nat → Int)) := (l480 ++ l477)
p_94 N ((l481, ()), ()) (fun y482 =>
let a483 : (Nat → Int) := y482
κ0 a483)) else none)

def Q_46 {R : Type} (q_43 : ((Nat → Int) × (Nat → Int) × Unit) × (Unit) → ((Nat → Int) → Option R) → Option R) (q_94 : ((List (Nat → Int)) × Unit) × (Unit) → ((Nat → Int) → Option R) → Option R) (x : ((Nat → Int) × (Nat → Int) × (List (Nat → Int)) × Unit) × (Unit)) (κ0 : (Nat → Int) → Option R) : Option R :=
let a475 : (Nat → Int) := x.1.1
let a476 : (Nat → Int) := x.1.2.1
let l477 : (List (Nat → Int)) := x.1.2.2.1
q_43 ((a475, a476, ()), ()) (fun y478 =>
let a479 : (Nat → Int) := y478
let l480 : (List (Nat → Int)) := [a479]
bif (decide ((List.length l480 + List.length l477) * 1024 ≤ 140737488355328) && true) then (
let l481 : (List (Nat → Int)) := (l480 ++ l477)
q_94 ((l481, ()), ()) (fun y482 =>
let a483 : (Nat → Int) := y482
κ0 a483)) else none)
def EG_46 {R : Type} (q_43 : ((Nat → Int) × (Nat → Int) × Unit) × (Unit) → ((Nat → Int) → Option R) → Option R) (q_94 : ((List (Nat → Int)) × Unit) × (Unit) → ((Nat → Int) → Option R) → Option R) : Env R := ((Env.base QQ LN).add 43 ap_43 hp_43 (fun (x : aden ap_43 × hden hp_43) k => q_43 x (fun y => k (Pat.inst (.vec (.int .u64) 128) y) (instH hp_43 x.2)))).add 94 ap_94 hp_94 (fun (x : aden ap_94 × hden hp_94) k => q_94 x (fun y => k (Pat.inst (.vec (.int .u64) 128) y) (instH hp_94 x.2)))
def LG_46 {R : Type} : Loops R := Loops.none
def E_46 {R : Type} (N : Nat) : Env R := EG_46 (p_43 N) (p_94 N)
theorem eok_46 {R : Type} (N : Nat) : EK Try.prog (E_46 (R := R) N) := ek_add (ek_add (ek_base _ _) (good_43 N)) (good_94 N)
def L_46 {R : Type} (N : Nat) : Loops R := LG_46
theorem lok_46 {R : Type} (N : Nat) : LOK 0 TT (E_46 (R := R) N) (drawOk TT QQ) (L_46 N) (bodyOf Try.f46) := loops_nil (by kernel_rfl)
theorem grun_46 {R : Type} (q_43 : ((Nat → Int) × (Nat → Int) × Unit) × (Unit) → ((Nat → Int) → Option R) → Option R) (q_94 : ((List (Nat → Int)) × Unit) × (Unit) → ((Nat → Int) → Option R) → Option R) (x : aden ap_46 × hden hp_46) (k : KF R) : fnrun TT (EG_46 q_43 q_94) (drawOk TT QQ) (LG_46) true Try.f46 (instA ap_46 x.1) (instH hp_46 x.2) k = Q_46 q_43 q_94 x (fun y => k (Pat.inst (.vec (.int .u64) 128) y) (instH hp_46 x.2)) := by kernel_rfl
theorem run_46 {R : Type} (N : Nat) (x : aden ap_46 × hden hp_46) (k : KF R) : fnrun TT (E_46 (R := R) N) (drawOk TT QQ) (L_46 N) true Try.f46 (instA ap_46 x.1) (instH hp_46 x.2) k = p_46 N x (fun y => k (Pat.inst (.vec (.int .u64) 128) y) (instH hp_46 x.2)) := (grun_46 (p_43 N) (p_94 N) x k).trans (by kernel_rfl)
theorem good_46 {R : Type} (N : Nat) : GD (X := R) Try.prog QQ 46 ap_46 hp_46 (fun (x : aden ap_46 × hden hp_46) k => p_46 N x (fun y => k (Pat.inst (.vec (.int .u64) 128) y) (instH hp_46 x.2))) :=
  gd_quiet (E := E_46 N) (p := fun (x : aden ap_46 × hden hp_46) κ => p_46 N x (fun y => κ (Pat.inst (.vec (.int .u64) 128) y))) mixed tyok (eok_46 N) Try.func46 (by kernel_rfl) (by kernel_rfl) (lok_46 N) (fun x k => run_46 N x k)

def ap_9 : List Pat := [.vec (.int .u64) 128, .vec (.int .u64) 128, .ros (.arr 128 (.int .u64))]
def hp_9 : List (Option (Pat × Nat)) := []
def p_9 {R : Type} (N : Nat) (x : ((Nat → Int) × (Nat → Int) × (List (Nat → Int)) × Unit) × (Unit)) (κ0 : (Bool × (Unit)) → Option R) : Option R :=
let a1 : (Nat → Int) := x.1.1
let a2 : (Nat → Int) := x.1.2.1
let l3 : (List (Nat → Int)) := x.1.2.2.1
p_37 N ((), ()) (fun y237 =>
let b238 : Bool := y237
bif (!b238) then (
κ0 (false, ())) else (
let i239 : Int := (((List.length l3) : Nat) : Int)
bif (decide (i239 > 10)) then (
κ0 (true, ())) else (
p_42 N ((a1, a2, ()), ()) (fun y467 =>
let a468 : (Nat → Int) := y467
p_43 N ((a1, a2, ()), ()) (fun y469 =>
let a470 : (Nat → Int) := y469
bif (schEq (.arr 128 (.int .u64)) a470 a468) then (
p_44 N ((a1, ()), ()) (fun y471 =>
let a472 : (Nat → Int) := y471
p_45 N ((a1, ()), ()) (fun y473 =>
let a474 : (Nat → Int) := y473
bif (schEq (.arr 128 (.int .u64)) a472 a474) then (
p_46 N ((a1, a2, l3, ()), ()) (fun y484 =>
let a485 : (Nat → Int) := y484
let l486 : (List (Nat → Int)) := [a468]
bif (decide ((List.length l486 + List.length l3) * 1024 ≤ 140737488355328) && true) then (
let l487 : (List (Nat → Int)) := (l486 ++ l3)
p_47 N ((l487, ()), ()) (fun y488 =>
let a489 : (Nat → Int) := y488
κ0 ((schEq (.arr 128 (.int .u64)) a485 a489), ()))) else none)) else (
κ0 (false, ()))))) else (
κ0 (false, ())))))))

def Q_9 {R : Type} (q_37 : (Unit) × (Unit) → (Bool → Option R) → Option R) (q_42 : ((Nat → Int) × (Nat → Int) × Unit) × (Unit) → ((Nat → Int) → Option R) → Option R) (q_43 : ((Nat → Int) × (Nat → Int) × Unit) × (Unit) → ((Nat → Int) → Option R) → Option R) (q_44 : ((Nat → Int) × Unit) × (Unit) → ((Nat → Int) → Option R) → Option R) (q_45 : ((Nat → Int) × Unit) × (Unit) → ((Nat → Int) → Option R) → Option R) (q_46 : ((Nat → Int) × (Nat → Int) × (List (Nat → Int)) × Unit) × (Unit) → ((Nat → Int) → Option R) → Option R) (q_47 : ((List (Nat → Int)) × Unit) × (Unit) → ((Nat → Int) → Option R) → Option R) (x : ((Nat → Int) × (Nat → Int) × (List (Nat → Int)) × Unit) × (Unit)) (κ0 : (Bool × (Unit)) → Option R) : Option R :=
let a1 : (Nat → Int) := x.1.1
let a2 : (Nat → Int) := x.1.2.1
let l3 : (List (Nat → Int)) := x.1.2.2.1
q_37 ((), ()) (fun y237 =>
let b238 : Bool := y237
bif (!b238) then (
κ0 (false, ())) else (
let i239 : Int := (((List.length l3) : Nat) : Int)
bif (decide (i239 > 10)) then (
κ0 (true, ())) else (
q_42 ((a1, a2, ()), ()) (fun y467 =>
let a468 : (Nat → Int) := y467
q_43 ((a1, a2, ()), ()) (fun y469 =>
let a470 : (Nat → Int) := y469
bif (schEq (.arr 128 (.int .u64)) a470 a468) then (
q_44 ((a1, ()), ()) (fun y471 =>
let a472 : (Nat → Int) := y471
q_45 ((a1, ()), ()) (fun y473 =>
let a474 : (Nat → Int) := y473
bif (schEq (.arr 128 (.int .u64)) a472 a474) then (
q_46 ((a1, a2, l3, ()), ()) (fun y484 =>
let a485 : (Nat → Int) := y484
let l486 : (List (Nat → Int)) := [a468]
bif (decide ((List.length l486 + List.length l3) * 1024 ≤ 140737488355328) && true) then (
let l487 : (List (Nat → Int)) := (l486 ++ l3)
q_47 ((l487, ()), ()) (fun y488 =>
let a489 : (Nat → Int) := y488
κ0 ((schEq (.arr 128 (.int .u64)) a485 a489), ()))) else none)) else (
κ0 (false, ()))))) else (
κ0 (false, ())))))))
def EG_9 {R : Type} (q_37 : (Unit) × (Unit) → (Bool → Option R) → Option R) (q_42 : ((Nat → Int) × (Nat → Int) × Unit) × (Unit) → ((Nat → Int) → Option R) → Option R) (q_43 : ((Nat → Int) × (Nat → Int) × Unit) × (Unit) → ((Nat → Int) → Option R) → Option R) (q_44 : ((Nat → Int) × Unit) × (Unit) → ((Nat → Int) → Option R) → Option R) (q_45 : ((Nat → Int) × Unit) × (Unit) → ((Nat → Int) → Option R) → Option R) (q_46 : ((Nat → Int) × (Nat → Int) × (List (Nat → Int)) × Unit) × (Unit) → ((Nat → Int) → Option R) → Option R) (q_47 : ((List (Nat → Int)) × Unit) × (Unit) → ((Nat → Int) → Option R) → Option R) : Env R := (((((((Env.base QQ LN).add 37 ap_37 hp_37 (fun (x : aden ap_37 × hden hp_37) k => q_37 x (fun y => k (Pat.inst (.bool) y) (instH hp_37 x.2)))).add 42 ap_42 hp_42 (fun (x : aden ap_42 × hden hp_42) k => q_42 x (fun y => k (Pat.inst (.vec (.int .u64) 128) y) (instH hp_42 x.2)))).add 43 ap_43 hp_43 (fun (x : aden ap_43 × hden hp_43) k => q_43 x (fun y => k (Pat.inst (.vec (.int .u64) 128) y) (instH hp_43 x.2)))).add 44 ap_44 hp_44 (fun (x : aden ap_44 × hden hp_44) k => q_44 x (fun y => k (Pat.inst (.vec (.int .u64) 128) y) (instH hp_44 x.2)))).add 45 ap_45 hp_45 (fun (x : aden ap_45 × hden hp_45) k => q_45 x (fun y => k (Pat.inst (.vec (.int .u64) 128) y) (instH hp_45 x.2)))).add 46 ap_46 hp_46 (fun (x : aden ap_46 × hden hp_46) k => q_46 x (fun y => k (Pat.inst (.vec (.int .u64) 128) y) (instH hp_46 x.2)))).add 47 ap_47 hp_47 (fun (x : aden ap_47 × hden hp_47) k => q_47 x (fun y => k (Pat.inst (.vec (.int .u64) 128) y) (instH hp_47 x.2)))
def LG_9 {R : Type} : Loops R := Loops.none
def E_9 {R : Type} (N : Nat) : Env R := EG_9 (p_37 N) (p_42 N) (p_43 N) (p_44 N) (p_45 N) (p_46 N) (p_47 N)
theorem eok_9 {R : Type} (N : Nat) : EK Try.prog (E_9 (R := R) N) := ek_add (ek_add (ek_add (ek_add (ek_add (ek_add (ek_add (ek_base _ _) (good_37 N)) (good_42 N)) (good_43 N)) (good_44 N)) (good_45 N)) (good_46 N)) (good_47 N)
def L_9 {R : Type} (N : Nat) : Loops R := LG_9
theorem lok_9 {R : Type} (N : Nat) : LOK 0 TT (E_9 (R := R) N) (drawOk TT QQ) (L_9 N) (bodyOf Try.f9) := loops_nil (by kernel_rfl)
theorem grun_9 {R : Type} (q_37 : (Unit) × (Unit) → (Bool → Option R) → Option R) (q_42 : ((Nat → Int) × (Nat → Int) × Unit) × (Unit) → ((Nat → Int) → Option R) → Option R) (q_43 : ((Nat → Int) × (Nat → Int) × Unit) × (Unit) → ((Nat → Int) → Option R) → Option R) (q_44 : ((Nat → Int) × Unit) × (Unit) → ((Nat → Int) → Option R) → Option R) (q_45 : ((Nat → Int) × Unit) × (Unit) → ((Nat → Int) → Option R) → Option R) (q_46 : ((Nat → Int) × (Nat → Int) × (List (Nat → Int)) × Unit) × (Unit) → ((Nat → Int) → Option R) → Option R) (q_47 : ((List (Nat → Int)) × Unit) × (Unit) → ((Nat → Int) → Option R) → Option R) (x : aden ap_9 × hden hp_9) (k : KF R) : fnrun TT (EG_9 q_37 q_42 q_43 q_44 q_45 q_46 q_47) (drawOk TT QQ) (LG_9) true Try.f9 (instA ap_9 x.1) (instH hp_9 x.2) k = Q_9 q_37 q_42 q_43 q_44 q_45 q_46 q_47 x (fun y => k (Pat.inst (.bool) y.1) (instH [] y.2)) := by kernel_rfl
theorem run_9 {R : Type} (N : Nat) (x : aden ap_9 × hden hp_9) (k : KF R) : fnrun TT (E_9 (R := R) N) (drawOk TT QQ) (L_9 N) true Try.f9 (instA ap_9 x.1) (instH hp_9 x.2) k = p_9 N x (fun y => k (Pat.inst (.bool) y.1) (instH [] y.2)) := (grun_9 (p_37 N) (p_42 N) (p_43 N) (p_44 N) (p_45 N) (p_46 N) (p_47 N) x k).trans (by kernel_rfl)
theorem good_9 {R : Type} (N : Nat) : GD (X := R) Try.prog QQ 9 ap_9 hp_9 (fun (x : aden ap_9 × hden hp_9) k => p_9 N x (fun y => k (Pat.inst (.bool) y.1) (instH [] y.2))) :=
  gd_loud (E := E_9 N) (p := fun (x : aden ap_9 × hden hp_9) k => p_9 N x (fun y => k (Pat.inst (.bool) y.1) (instH [] y.2))) mixed tyok (eok_9 N) Try.func9 (by kernel_rfl) (by kernel_rfl) (by kernel_rfl) (lok_9 N) (fun x k => run_9 N x k)


/-! ### blocks put together -/
def W (x : Int) : Prop := 0 ≤ x ∧ x < 18446744073709551616
theorem W_wrap (x : Int) : W (IntKind.wrap .u64 x) := by rw [wrapU64]; unfold W; omega
theorem W_xor (a b : Int) : W (xorA .u64 a b) := W_wrap _
theorem W_or (a b : Int) : W (orA .u64 a b) := W_wrap _
theorem W_add (a b : Int) : W (addA .u64 a b) := W_wrap _
theorem W_zero : W 0 := by unfold W; omega
theorem xor_comm (a b : Int) : xorA .u64 a b = xorA .u64 b a := by unfold xorA; rw [BitVec.xor_comm]
theorem xor_assoc (a b c : Int) (ha : W a) (hb : W b) (hc : W c) : xorA .u64 (xorA .u64 a b) c = xorA .u64 a (xorA .u64 b c) := by
  have key : ∀ x : BitVec 64, BitVec.ofInt 64 (IntKind.wrap .u64 (x.toNat : Int)) = x := by
    intro x
    rw [wrapU64]
    apply BitVec.eq_of_toNat_eq
    rw [BitVec.toNat_ofInt]
    have := x.isLt
    omega
  unfold xorA
  show IntKind.wrap .u64 (((BitVec.ofInt 64 (IntKind.wrap .u64 ((BitVec.ofInt 64 a ^^^ BitVec.ofInt 64 b).toNat : Int))) ^^^ BitVec.ofInt 64 c).toNat : Int) = IntKind.wrap .u64 ((BitVec.ofInt 64 a ^^^ BitVec.ofInt 64 (IntKind.wrap .u64 ((BitVec.ofInt 64 b ^^^ BitVec.ofInt 64 c).toNat : Int))).toNat : Int)
  rw [key, key, BitVec.xor_assoc]
theorem xor_self (a : Int) : xorA .u64 a a = 0 := by
  unfold xorA
  rw [BitVec.xor_self]
  rfl
theorem zero_xor {a : Int} (h : W a) : xorA .u64 0 a = a := by
  unfold xorA
  rw [wrapU64, BitVec.toNat_xor]
  have q1 : (BitVec.ofInt IntKind.u64.bits a).toNat = a.toNat := by
    show (BitVec.ofInt 64 a).toNat = a.toNat
    rw [BitVec.toNat_ofInt]; have := h.1; have := h.2; omega
  have q2 : (BitVec.ofInt IntKind.u64.bits 0).toNat = 0 := by decide
  rw [q1, q2, Nat.zero_xor]
  have := h.1
  have := h.2
  omega
theorem upd_same {α : Type} (f : Nat → α) (i : Nat) (x : α) : upd f i x i = x := by simp [upd]
theorem upd_other {α : Type} (f : Nat → α) {i j : Nat} (x : α) (h : j ≠ i) : upd f i x j = f j := by
  show (bif Nat.beq j i then x else f j) = f j
  cases hq : Nat.beq j i with
  | false => rfl
  | true => exact absurd (Nat.eq_of_beq_eq_true hq) h
theorem upd_if {α : Type} (f : Nat → α) (i j : Nat) (x : α) : upd f i x j = if j = i then x else f j := by
  by_cases h : j = i
  · subst h; rw [upd_same, if_pos rfl]
  · rw [upd_other f x h, if_neg h]
abbrev Bl := Nat → Int
def nulB : Bl := fun _ => 0
/-- The words from k on, put together. -/
def xorFrom (k : Nat) (o b : Bl) : Bl := fun j => if k ≤ j ∧ j < 128 then xorA .u64 (o j) (b j) else o j
def xorL (l : List Bl) : Bl := l.foldl (xorFrom 0) nulB
theorem l94i {R : Type} (N : Nat) (l : List Bl) (u v : Int) (b z : Bl) (κ) : ∀ (n m k : Nat) (o : Bl), k + m = 128 → m < n →
    l_94_6 (R := R) N n (((), (), l, u, v, b, (k : Int), ()), (z, o, ())) κ = κ (((), (), l, u, v, ()), (z, xorFrom k o b, ()))
  | 0, m, k, o, h1, h2 => by omega
  | n + 1, m, k, o, h1, h2 => by
    unfold l_94_6 B_94_6
    try dsimp only
    by_cases hk : k < 128
    · have e3 : addA .i64 (k : Int) 1 = ((k + 1 : Nat) : Int) := by rw [add64 (by omega) (by omega)]; simp
      rw [bif_t (dT (show (k : Int) < 128 by omega)), bif_t (dT (show (0 : Int) ≤ (k : Int) by omega)), bif_t (dT (show (k : Int) < 128 by omega)), bif_t (dT (show (0 : Int) ≤ (k : Int) by omega)), bif_t (dT (show (k : Int) < 128 by omega)), bif_t (dT (show (0 : Int) ≤ (k : Int) by omega)), bif_t (dT (show (k : Int) < 128 by omega)), e3, Int.toNat_natCast]
      rw [l94i N l u v b z κ n (m - 1) (k + 1) _ (by omega) (by omega)]
      congr 4
      funext j
      unfold xorFrom
      by_cases hj : j = k
      · subst hj; rw [if_neg (by omega), if_pos ⟨by omega, hk⟩, upd_same]
      · rw [upd_other _ _ hj]
        by_cases h3 : k + 1 ≤ j ∧ j < 128
        · rw [if_pos h3, if_pos ⟨by omega, h3.2⟩]
        · rw [if_neg h3, if_neg (by omega)]
    · rw [bif_f (dF (show ¬ (k : Int) < 128 by omega))]
      have e : xorFrom k o b = o := by funext j; unfold xorFrom; rw [if_neg (by omega)]
      rw [e]
theorem l94o {R : Type} (N : Nat) (hN : 1000 < N) (l : List Bl) (hl : l.length ≤ 1000) (z : Bl) (κ) : ∀ (n i : Nat) (o : Bl), i ≤ l.length → l.length - i < n →
    l_94_3 (R := R) N n (((), (), l, (l.length : Int), (i : Int), ()), (z, o, ())) κ = κ (((), (), ()), (z, (l.drop i).foldl (xorFrom 0) o, ()))
  | 0, i, o, h1, h2 => by omega
  | n + 1, i, o, h1, h2 => by
    unfold l_94_3 B_94_3
    try dsimp only
    by_cases hi : i < l.length
    · have hd : l.drop i = l[i] :: l.drop (i + 1) := List.drop_eq_getElem_cons hi
      have hg : List.getD l i (Sch.zero (.arr 128 (.int .u64))) = l[i] := by simp [hi]
      have e3 : addA .i64 (i : Int) 1 = ((i + 1 : Nat) : Int) := by rw [add64 (by omega) (by omega)]; simp
      rw [bif_t (dT (show (i : Int) < (l.length : Int) by omega)), bif_t (dT (show (0 : Int) ≤ (i : Int) by omega)), bif_t (dT (show (i : Int) < (l.length : Int) by omega)), Int.toNat_natCast, hg, hd]
      refine (l94i N l (l.length : Int) (i : Int) l[i] z _ N 128 0 o (by omega) (by omega)).trans ?_
      try dsimp only
      rw [e3]
      exact l94o N hN l hl z κ n (i + 1) _ (by omega) (by omega)
    · rw [bif_f (dF (by omega)), List.drop_eq_nil_of_le (by omega)]
      rfl
theorem p94 {R : Type} (N : Nat) (hN : 1000 < N) (l : List Bl) (hl : l.length ≤ 1000) (κ) : p_94 (R := R) N ((l, ()), ()) κ = κ (xorL l) := by
  unfold p_94
  try dsimp only
  refine (l94o N hN l hl _ _ N 0 _ (by omega) (by omega)).trans ?_
  rfl
def WB (b : Bl) : Prop := ∀ j, j < 128 → W (b j)
def OutB (b : Bl) : Prop := ∀ j, 128 ≤ j → b j = 0
theorem foldl_out : ∀ (l : List Bl) (o : Bl), OutB o → OutB (l.foldl (xorFrom 0) o)
  | [], o, h => h
  | b :: l, o, h => foldl_out l _ fun j hj => by unfold xorFrom; rw [if_neg (by omega)]; exact h j hj
theorem foldl_W : ∀ (l : List Bl) (o : Bl), (∀ j, W (o j)) → ∀ j, W (l.foldl (xorFrom 0) o j)
  | [], o, h => h
  | b :: l, o, h => foldl_W l _ fun j => by unfold xorFrom; split; exact W_xor _ _; exact h j
theorem xorL_W (l : List Bl) (j : Nat) : W (xorL l j) := foldl_W l nulB (fun _ => W_zero) j
theorem xorL_out (l : List Bl) : OutB (xorL l) := foldl_out l nulB (fun _ _ => rfl)
theorem xorL_two (x y : Bl) (j : Nat) : xorL [x, y] j = if j < 128 then xorA .u64 (xorA .u64 0 (x j)) (y j) else 0 := by
  simp only [xorL, List.foldl_cons, List.foldl_nil, xorFrom, nulB]
  by_cases h : j < 128 <;> simp [h]
theorem xorL_one (x : Bl) (h1 : ∀ j, W (x j)) (h2 : OutB x) : xorL [x] = x := by
  funext j
  simp only [xorL, List.foldl_cons, List.foldl_nil, xorFrom, nulB]
  by_cases h : j < 128
  · simp [h, zero_xor (h1 j)]
  · simp [h, h2 j (by omega)]
theorem xorL_comm (x y : Bl) (hx : WB x) (hy : WB y) : xorL [x, y] = xorL [y, x] := by
  funext j
  rw [xorL_two, xorL_two]
  by_cases h : j < 128
  · rw [if_pos h, if_pos h, zero_xor (hx j h), zero_xor (hy j h), xor_comm]
  · rw [if_neg h, if_neg h]
theorem xorL_same (x : Bl) (hx : WB x) : xorL [x, x] = nulB := by
  funext j
  rw [xorL_two]
  by_cases h : j < 128
  · rw [if_pos h, zero_xor (hx j h), xor_self]; rfl
  · rw [if_neg h]; rfl
theorem schEq128 {x y : Bl} (h : ∀ j, j < 128 → x j = y j) : schEq (.arr 128 (.int .u64)) x y = true := by
  show (List.range 128).all (fun i => x i == y i) = true
  rw [List.all_eq_true]
  intro j hj
  rw [List.mem_range] at hj
  rw [h j hj]
  exact beq_self_eq_true _
theorem zero128 : (Sch.zero (.arr 128 (.int .u64)) : Nat → Int) = nulB := rfl

/-! ### four words mixed -/
def prodF (a b : Int) : Int := addA .u64 (addA .u64 a b) (mulA .u64 (mulA .u64 2 (IntKind.wrap .u64 (IntKind.wrap .u32 a))) (IntKind.wrap .u64 (IntKind.wrap .u32 b)))
def rotF (x n : Int) : Int := orA .u64 (shrA .u64 x n) (shlA .u64 x (64 - n))
abbrev Q4 := Int × (Int × (Int × (Int × Unit)))
def qF (a b c d : Int) : Q4 :=
  let a1 := prodF a b
  let d1 := rotF (xorA .u64 d a1) 32
  let c1 := prodF c d1
  let b1 := rotF (xorA .u64 b c1) 24
  let a2 := prodF a1 b1
  let d2 := rotF (xorA .u64 d1 a2) 16
  let c2 := prodF c1 d2
  let b2 := rotF (xorA .u64 b1 c2) 63
  (a2, (b2, (c2, (d2, ()))))
theorem p38 {R : Type} (N : Nat) (a b c d : Int) (κ) : p_38 (R := R) N ((a, b, c, d, ()), ()) κ = κ (qF a b c d) := by kernel_rfl
def stF (v : Bl) (i j k l : Nat) : Bl :=
  let q := qF (v i) (v j) (v k) (v l)
  upd (upd (upd (upd v i q.1) j q.2.1) k q.2.2.1) l q.2.2.2.1
def permF (v : Bl) : Bl := stF (stF (stF (stF (stF (stF (stF (stF v 0 4 8 12) 1 5 9 13) 2 6 10 14) 3 7 11 15) 0 5 10 15) 1 6 11 12) 2 7 8 13) 3 4 9 14
theorem p40 {R : Type} (N : Nat) (hN : N = 1001) (v : Bl) (κ) : p_40 (R := R) N ((v, ()), ()) κ = κ (permF v) := by subst hN; kernel_rfl
theorem qF_W (a b c d : Int) : W (qF a b c d).1 ∧ W (qF a b c d).2.1 ∧ W (qF a b c d).2.2.1 ∧ W (qF a b c d).2.2.2.1 := ⟨W_add _ _, W_or _ _, W_add _ _, W_or _ _⟩
theorem upd_W {v : Bl} (h : ∀ j, W (v j)) (i : Nat) {x : Int} (hx : W x) : ∀ j, W (upd v i x j) := fun j => by rw [upd_if]; split; exact hx; exact h j
theorem stF_W {v : Bl} (h : ∀ j, W (v j)) (i j k l : Nat) : ∀ m, W (stF v i j k l m) := by
  obtain ⟨q1, q2, q3, q4⟩ := qF_W (v i) (v j) (v k) (v l)
  exact upd_W (upd_W (upd_W (upd_W h i q1) j q2) k q3) l q4
theorem permF_W {v : Bl} (h : ∀ j, W (v j)) : ∀ m, W (permF v m) :=
  stF_W (stF_W (stF_W (stF_W (stF_W (stF_W (stF_W (stF_W h _ _ _ _) _ _ _ _) _ _ _ _) _ _ _ _) _ _ _ _) _ _ _ _) _ _ _ _) _ _ _ _

/-! ### rows and columns -/
def gath (at_ b : Bl) : Nat → Nat → Bl → Bl
  | 0, _, v => v
  | n + 1, k, v => gath at_ b n (k + 1) (upd v k (b (at_ k).toNat))
def scat (at_ w : Bl) : Nat → Nat → Bl → Bl
  | 0, _, b => b
  | n + 1, k, b => scat at_ w n (k + 1) (upd b (at_ k).toNat (w k))
def chainA (f : Nat → Int) : Nat → Bl
  | 0 => nulB
  | n + 1 => upd (chainA f n) n (f n)
theorem chainA_get (f : Nat → Int) : ∀ (n k : Nat), k < n → chainA f n k = f k
  | n + 1, k, h => by
    show upd (chainA f n) n (f n) k = f k
    rw [upd_if]
    split
    · subst k; rfl
    · exact chainA_get f n k (by omega)
def atRow (i : Int) : Bl := chainA (fun k => addA .i64 (mulA .i64 16 i) (k : Int)) 16
def atCol (i : Int) : Bl := chainA (fun k => addA .i64 (addA .i64 (mulA .i64 2 i) (remA .i64 (k : Int) 2)) (mulA .i64 16 (quoA .i64 (k : Int) 2))) 16
def at_ (c : Bool) (i : Int) : Bl := bif c then atCol i else atRow i
theorem atRow_get {i : Int} (hi : 0 ≤ i ∧ i < 8) {k : Nat} (hk : k < 16) : atRow i k = 16 * i + k := by
  unfold atRow
  rw [chainA_get _ _ _ hk, mul64 (by omega) (by omega), add64 (by omega) (by omega)]
theorem atCol_get {i : Int} (hi : 0 ≤ i ∧ i < 8) {k : Nat} (hk : k < 16) : atCol i k = 2 * i + ((k % 2 : Nat) : Int) + 16 * ((k / 2 : Nat) : Int) := by
  unfold atCol
  rw [chainA_get _ _ _ hk, mul64 (a := 2) (by omega) (by omega), rem64 (by omega), quo64 (by omega) (by omega) (by omega), add64 (a := 2 * i) (by omega) (by omega), mul64 (a := 16) (by omega) (by omega), add64 (by omega) (by omega)]
  omega
theorem at_in (c : Bool) {i : Int} (hi : 0 ≤ i ∧ i < 8) {k : Nat} (hk : k < 16) : 0 ≤ at_ c i k ∧ at_ c i k < 128 := by
  cases c with
  | false => show 0 ≤ atRow i k ∧ atRow i k < 128; rw [atRow_get hi hk]; omega
  | true => show 0 ≤ atCol i k ∧ atCol i k < 128; rw [atCol_get hi hk]; omega
theorem p95 {R : Type} (N : Nat) (hN : N = 1001) (i : Int) (c : Bool) (κ) : p_95 (R := R) N ((i, c, ()), ()) κ = κ (at_ c i) := by
  subst hN
  cases c with
  | false => kernel_rfl
  | true => kernel_rfl
section
variable {R : Type} (N : Nat)
theorem l44g (b : Bool) (u v w : Int) (at_ : Bl) (hat : ∀ k, k < 16 → 0 ≤ at_ k ∧ at_ k < 128) (a a2 a3 : Bl) (l : List Bool) (κ) : ∀ (n m k : Nat) (o : Bl), k + m = 16 → m < n →
    l_44_10 (R := R) N n (((), (), b, (), (), (), u, v, w, at_, (k : Int), ()), (a, a2, a3, o, l, ())) κ = κ (((), (), b, (), (), (), u, v, w, ()), (a, a2, a3, gath at_ a m k o, l, ()))
  | 0, m, k, o, h1, h2 => by omega
  | n + 1, m, k, o, h1, h2 => by
    unfold l_44_10 B_44_10
    try dsimp only
    cases m with
    | zero => rw [bif_f (dF (show ¬ (k : Int) < 16 by omega))]; rfl
    | succ m =>
      have hk : k < 16 := by omega
      obtain ⟨g1, g2⟩ := hat k hk
      have e3 : addA .i64 (k : Int) 1 = ((k + 1 : Nat) : Int) := by rw [add64 (by omega) (by omega)]; simp
      rw [bif_t (dT (show (k : Int) < 16 by omega)), bif_t (dT (show (0 : Int) ≤ (k : Int) by omega)), bif_t (dT (show (k : Int) < 16 by omega)), Int.toNat_natCast, bif_t (dT g1), bif_t (dT g2), bif_t (dT (show (0 : Int) ≤ (k : Int) by omega)), bif_t (dT (show (k : Int) < 16 by omega)), e3]
      exact l44g b u v w at_ hat a a2 a3 l κ n m (k + 1) _ (by omega) (by omega)
theorem l44s (b : Bool) (u v w : Int) (at_ : Bl) (hat : ∀ k, k < 16 → 0 ≤ at_ k ∧ at_ k < 128) (a2 x : Bl) (l : List Bool) (κ) : ∀ (n m k : Nat) (a : Bl), k + m = 16 → m < n →
    l_44_16 (R := R) N n (((), (), b, (), (), u, v, w, at_, (k : Int), ()), (a, a2, x, l, ())) κ = κ (((), (), b, (), u, v, w, ()), (scat at_ x m k a, a2, l, ()))
  | 0, m, k, a, h1, h2 => by omega
  | n + 1, m, k, a, h1, h2 => by
    unfold l_44_16 B_44_16
    try dsimp only
    cases m with
    | zero => rw [bif_f (dF (show ¬ (k : Int) < 16 by omega))]; rfl
    | succ m =>
      have hk : k < 16 := by omega
      obtain ⟨g1, g2⟩ := hat k hk
      have e3 : addA .i64 (k : Int) 1 = ((k + 1 : Nat) : Int) := by rw [add64 (by omega) (by omega)]; simp
      rw [bif_t (dT (show (k : Int) < 16 by omega)), bif_t (dT (show (0 : Int) ≤ (k : Int) by omega)), bif_t (dT (show (k : Int) < 16 by omega)), Int.toNat_natCast, bif_t (dT (show (0 : Int) ≤ (k : Int) by omega)), bif_t (dT (show (k : Int) < 16 by omega)), bif_t (dT g1), bif_t (dT g2), e3]
      exact l44s b u v w at_ hat a2 x l κ n m (k + 1) _ (by omega) (by omega)
end
def wStep (c : Bool) (i : Int) (a : Bl) : Bl := scat (at_ c i) (permF (gath (at_ c i) a 16 0 nulB)) 16 0 a
def wRun (c : Bool) : Nat → Nat → Bl → Bl
  | 0, _, a => a
  | n + 1, i, a => wRun c n (i + 1) (wStep c (i : Int) a)
def wholeF (a : Bl) : Bl := wRun true 8 0 (wRun false 8 0 a)
theorem l44i {R : Type} (N : Nat) (hN : N = 1001) (c : Bool) (u v : Int) (a2 : Bl) (l : List Bool) (κ) : ∀ (n m i : Nat) (a : Bl), i + m = 8 → m < n →
    l_44_5 (R := R) N n (((), (), c, (), u, v, (i : Int), ()), (a, a2, l, ())) κ = κ (((), (), (), u, v, ()), (wRun c m i a, a2, l, ()))
  | 0, m, i, a, h1, h2 => by omega
  | n + 1, m, i, a, h1, h2 => by
    unfold l_44_5 B_44_5
    try dsimp only
    cases m with
    | zero => rw [bif_f (dF (show ¬ (i : Int) < 8 by omega))]; rfl
    | succ m =>
      have hi : (0 : Int) ≤ (i : Int) ∧ (i : Int) < 8 := by omega
      have e3 : addA .i64 (i : Int) 1 = ((i + 1 : Nat) : Int) := by rw [add64 (by omega) (by omega)]; simp
      rw [bif_t (dT (show (i : Int) < 8 by omega)), p95 N hN]
      refine (l44g N c u v (i : Int) (at_ c i) (fun k hk => at_in c hi hk) a a2 _ l _ N 16 0 _ (by omega) (by omega)).trans ?_
      try dsimp only
      rw [p40 N hN]
      refine (l44s N c u v (i : Int) (at_ c i) (fun k hk => at_in c hi hk) a2 _ l _ N 16 0 a (by omega) (by omega)).trans ?_
      try dsimp only
      rw [e3]
      exact l44i N hN c u v a2 l κ n m (i + 1) _ (by omega) (by omega)
theorem p44 {R : Type} (N : Nat) (hN : N = 1001) (a : Bl) (κ) : p_44 (R := R) N ((a, ()), ()) κ = κ (wholeF a) := by
  unfold p_44
  try dsimp only
  have step : ∀ (n : Nat) (c : Bool) (i : Nat) (a a2 : Bl) (κ), i < 2 → [false, true].getD i false = c →
      l_44_2 (R := R) N (n + 1) (((), (), (), 2, (i : Int), ()), (a, a2, [false, true], ())) κ = l_44_2 N n (((), (), (), 2, ((i + 1 : Nat) : Int), ()), (wRun c 8 0 a, a2, [false, true], ())) κ := by
    intro n c i a a2 κ hi hc
    conv => lhs; unfold l_44_2 B_44_2
    dsimp only [List.length_cons, List.length_nil]
    rw [bif_t (dT (by omega)), bif_t (dT (by omega)), bif_t (dT (by show (i : Int) < ((0 + 1 + 1 : Nat) : Int); omega)), Int.toNat_natCast]
    show l_44_5 N N (((), (), [false, true].getD i false, (), 2, (i : Int), ((0 : Nat) : Int), ()), (a, a2, [false, true], ())) _ = _
    rw [hc]
    refine (l44i N hN c 2 (i : Int) a2 [false, true] _ N 8 0 a (by omega) (by omega)).trans ?_
    try dsimp only
    rw [show addA .i64 (i : Int) 1 = ((i + 1 : Nat) : Int) by rw [add64 (by omega) (by omega)]; simp]
  obtain ⟨n, rfl⟩ : ∃ n, N = n + 3 := ⟨N - 3, by omega⟩
  refine (step (n + 2) false 0 a _ _ (by omega) rfl).trans ?_
  refine (step (n + 1) true 1 _ _ _ (by omega) rfl).trans ?_
  rfl
def mixF (x y : Bl) : Bl := xorL [xorL [x, y], wholeF (xorL [x, y])]
theorem p43 {R : Type} (N : Nat) (hN : N = 1001) (x y : Bl) (κ) : p_43 (R := R) N ((x, y, ()), ()) κ = κ (mixF x y) := by
  unfold p_43
  try dsimp only
  rw [p94 N (by omega) [x, y] (by simp)]
  try dsimp only
  rw [p44 N hN]
  try dsimp only
  rw [p94 N (by omega) _ (by simp)]
  rfl
theorem mixF_W (x y : Bl) (j : Nat) : W (mixF x y j) := xorL_W _ j
theorem mixF_out (x y : Bl) : OutB (mixF x y) := xorL_out _
theorem mixF_comm (x y : Bl) (hx : WB x) (hy : WB y) : mixF x y = mixF y x := by unfold mixF; rw [xorL_comm x y hx hy]
/-- A block without a word mixed with itself. -/
theorem whole_zero : wholeF nulB = nulB := by
  have p0 : prodF 0 0 = 0 := by decide
  have r0 : ∀ n : Int, 0 ≤ n → rotF 0 n = 0 := by
    intro n hn
    unfold rotF
    have e1 : shrA .u64 0 n = 0 := by unfold shrA; simp
    have e2 : shlA .u64 0 (64 - n) = 0 := by unfold shlA; simp; rfl
    rw [e1, e2]; rfl
  have x0 : xorA .u64 0 0 = 0 := by decide
  have q0 : qF 0 0 0 0 = (0, (0, (0, (0, ())))) := by
    unfold qF
    simp only [p0, x0, r0 32 (by omega), r0 24 (by omega), r0 16 (by omega), r0 63 (by omega)]
  have u0 : ∀ i, upd nulB i 0 = nulB := fun i => by funext j; rw [upd_if]; split <;> rfl
  have s0 : ∀ i j k l, stF nulB i j k l = nulB := by
    intro i j k l
    unfold stF
    show (let q := qF 0 0 0 0; upd (upd (upd (upd nulB i q.1) j q.2.1) k q.2.2.1) l q.2.2.2.1) = nulB
    simp only [q0, u0]
  have pm : permF nulB = nulB := by unfold permF; simp only [s0]
  have g0 : ∀ (at_ : Bl) (n k : Nat), gath at_ nulB n k nulB = nulB := by
    intro at_ n
    induction n with
    | zero => intro k; rfl
    | succ n ih => intro k; show gath at_ nulB n (k + 1) (upd nulB k 0) = nulB; rw [u0]; exact ih (k + 1)
  have c0 : ∀ (at_ : Bl) (n k : Nat), scat at_ nulB n k nulB = nulB := by
    intro at_ n
    induction n with
    | zero => intro k; rfl
    | succ n ih => intro k; show scat at_ nulB n (k + 1) (upd nulB _ 0) = nulB; rw [u0]; exact ih (k + 1)
  have w0 : ∀ c i, wStep c i nulB = nulB := fun c i => by unfold wStep; rw [g0, pm, c0]
  have t0 : ∀ (c : Bool) (n i : Nat), wRun c n i nulB = nulB := by
    intro c n
    induction n with
    | zero => intro i; rfl
    | succ n ih => intro i; show wRun c n (i + 1) (wStep c _ nulB) = nulB; rw [w0]; exact ih (i + 1)
  unfold wholeF
  rw [t0, t0]
theorem mixF_same (x : Bl) (hx : WB x) : mixF x x = nulB := by
  unfold mixF
  rw [xorL_same x hx, whole_zero, xorL_same nulB (fun _ _ => W_zero)]
theorem p37 {R : Type} (N : Nat) (hN : N = 1001) (κ) : p_37 (R := R) N ((), ()) κ = κ true := by subst hN; kernel_rfl

/-! ### the document's -/
def prodR (a b : Int) : Int := addA .u64 (addA .u64 a b) (mulA .u64 (mulA .u64 2 (remA .u64 a 4294967296)) (remA .u64 b 4294967296))
def roundR (x lo hi : Int) : Int := addA .u64 (quoA .u64 x lo) (mulA .u64 (remA .u64 x lo) hi)
theorem prod_eq {a b : Int} (ha : W a) (hb : W b) : prodR a b = prodF a b := by
  unfold prodR prodF remA W at *
  rw [Int.tmod_eq_emod_of_nonneg ha.1, Int.tmod_eq_emod_of_nonneg hb.1, wrapU32, wrapU32, wrapU64 (a % 4294967296), wrapU64 (b % 4294967296), Int.emod_eq_of_lt (by omega) (by omega : a % 4294967296 < 18446744073709551616), Int.emod_eq_of_lt (by omega) (by omega : b % 4294967296 < 18446744073709551616)]
theorem or_disj {a b : Nat} {n : Nat} (ha : a < 2 ^ n) : a ||| (b * 2 ^ n) = b * 2 ^ n + a := by
  rw [Nat.or_comm, Nat.mul_comm b, Nat.two_pow_add_eq_or_of_lt ha]
theorem nat_mod {B : Nat} (h : B < 2 ^ 64) : ((B : Nat) : Int) % 18446744073709551616 = B := by omega
/-- A word turned to the right by n places, n + m = 64. -/
theorem rot_eq {x : Int} (hx : W x) (n m : Nat) (hnm : n + m = 64) (hn : 0 < n) (hm : 0 < m) : roundR x (2 ^ n) (2 ^ m) = rotF x n := by
  obtain ⟨h1, h2⟩ := hx
  obtain ⟨y, rfl⟩ := Int.eq_ofNat_of_zero_le h1
  have hy : y < 2 ^ 64 := by omega
  unfold roundR rotF quoA remA
  have pn : ((2 : Int) ^ n) = ((2 ^ n : Nat) : Int) := by simp
  have pm : ((2 : Int) ^ m) = ((2 ^ m : Nat) : Int) := by simp
  have e64 : 2 ^ n * 2 ^ m = 2 ^ 64 := by rw [← Nat.pow_add, hnm]
  have d1 : y / 2 ^ n < 2 ^ m := by rw [Nat.div_lt_iff_lt_mul (Nat.two_pow_pos n), Nat.mul_comm, e64]; exact hy
  have m1 : y % 2 ^ n < 2 ^ n := Nat.mod_lt _ (Nat.two_pow_pos n)
  have p1 : y % 2 ^ n * 2 ^ m + y / 2 ^ n < 2 ^ 64 := by
    have : (y % 2 ^ n + 1) * 2 ^ m ≤ 2 ^ n * 2 ^ m := Nat.mul_le_mul_right _ m1
    rw [Nat.add_mul, e64] at this
    omega
  have p2 : y % 2 ^ n * 2 ^ m < 2 ^ 64 := Nat.lt_of_le_of_lt (Nat.le_add_right _ _) p1
  have p3 : y / 2 ^ n < 2 ^ 64 := Nat.lt_of_le_of_lt (Nat.le_add_left _ _) p1
  rw [pn, pm, Int.tdiv_eq_ediv_of_nonneg (by omega), Int.tmod_eq_emod_of_nonneg (by omega)]
  have e1 : ((y : Int) / ((2 ^ n : Nat) : Int)) = ((y / 2 ^ n : Nat) : Int) := by simp
  have e2 : ((y : Int) % ((2 ^ n : Nat) : Int)) = ((y % 2 ^ n : Nat) : Int) := by simp
  rw [e1, e2]
  have w1 : IntKind.wrap .u64 ((y / 2 ^ n : Nat) : Int) = ((y / 2 ^ n : Nat) : Int) := by rw [wrapU64, nat_mod p3]
  have q1 : mulA .u64 ((y % 2 ^ n : Nat) : Int) ((2 ^ m : Nat) : Int) = ((y % 2 ^ n * 2 ^ m : Nat) : Int) := by
    unfold mulA
    rw [wrapU64, ← Int.natCast_mul, nat_mod p2]
  rw [w1, q1]
  have l1 : addA .u64 ((y / 2 ^ n : Nat) : Int) ((y % 2 ^ n * 2 ^ m : Nat) : Int) = ((y % 2 ^ n * 2 ^ m + y / 2 ^ n : Nat) : Int) := by
    unfold addA
    rw [wrapU64, ← Int.natCast_add, Nat.add_comm, nat_mod p1]
  rw [l1]
  have s1 : shrA .u64 (y : Int) (n : Int) = ((y / 2 ^ n : Nat) : Int) := by
    rw [shrU64 (by omega) (by omega), pn, e1]
  have s2 : shlA .u64 (y : Int) (64 - (n : Int)) = ((y % 2 ^ n * 2 ^ m : Nat) : Int) := by
    unfold shlA
    have : (64 - (n : Int)).toNat = m := by omega
    rw [this, show min m IntKind.u64.bits = m from Nat.min_eq_left (by show m ≤ 64; omega), pm, wrapU64, ← Int.natCast_mul]
    have : y * 2 ^ m % 2 ^ 64 = y % 2 ^ n * 2 ^ m := by
      rw [← e64, Nat.mul_mod_mul_right]
    rw [← this]
    omega
  rw [s1, s2]
  unfold orA
  rw [wrapU64, BitVec.toNat_or]
  have b1 : (BitVec.ofInt IntKind.u64.bits ((y / 2 ^ n : Nat) : Int)).toNat = y / 2 ^ n := by
    show (BitVec.ofInt 64 _).toNat = _
    rw [BitVec.toNat_ofInt]; show (((y / 2 ^ n : Nat) : Int) % 18446744073709551616).toNat = _; rw [nat_mod p3]; rfl
  have b2 : (BitVec.ofInt IntKind.u64.bits ((y % 2 ^ n * 2 ^ m : Nat) : Int)).toNat = y % 2 ^ n * 2 ^ m := by
    show (BitVec.ofInt 64 _).toNat = _
    rw [BitVec.toNat_ofInt]; show (((y % 2 ^ n * 2 ^ m : Nat) : Int) % 18446744073709551616).toNat = _; rw [nat_mod p2]; rfl
  rw [b1, b2, or_disj d1, nat_mod p1]
theorem W_rot (x n : Int) : W (rotF x n) := W_or _ _
theorem W_prod (a b : Int) : W (prodF a b) := W_add _ _
/-- The array of four words, mixed in place. -/
def qR (q : Bl) : Bl :=
  let q1 := upd q 0 (prodR (q 0) (q 1))
  let q2 := upd q1 3 (roundR (xorA .u64 (q1 3) (q1 0)) 4294967296 4294967296)
  let q3 := upd q2 2 (prodR (q2 2) (q2 3))
  let q4 := upd q3 1 (roundR (xorA .u64 (q3 1) (q3 2)) 16777216 1099511627776)
  let q5 := upd q4 0 (prodR (q4 0) (q4 1))
  let q6 := upd q5 3 (roundR (xorA .u64 (q5 3) (q5 0)) 65536 281474976710656)
  let q7 := upd q6 2 (prodR (q6 2) (q6 3))
  upd q7 1 (roundR (xorA .u64 (q7 1) (q7 2)) 9223372036854775808 2)
theorem p39 {R : Type} (N : Nat) (hN : N = 1001) (q : Bl) (κ) : p_39 (R := R) N ((q, ()), ()) κ = κ (qR q) := by subst hN; kernel_rfl
theorem qR_eq (q : Bl) (h0 : W (q 0)) (h1 : W (q 1)) (h2 : W (q 2)) (h3 : W (q 3)) :
    qR q 0 = (qF (q 0) (q 1) (q 2) (q 3)).1 ∧ qR q 1 = (qF (q 0) (q 1) (q 2) (q 3)).2.1 ∧ qR q 2 = (qF (q 0) (q 1) (q 2) (q 3)).2.2.1 ∧ qR q 3 = (qF (q 0) (q 1) (q 2) (q 3)).2.2.2.1 := by
  have r1 : ∀ {x}, W x → roundR x 4294967296 4294967296 = rotF x 32 := fun h => rot_eq h 32 32 rfl (by omega) (by omega)
  have r2 : ∀ {x}, W x → roundR x 16777216 1099511627776 = rotF x 24 := fun h => rot_eq h 24 40 rfl (by omega) (by omega)
  have r3 : ∀ {x}, W x → roundR x 65536 281474976710656 = rotF x 16 := fun h => rot_eq h 16 48 rfl (by omega) (by omega)
  have r4 : ∀ {x}, W x → roundR x 9223372036854775808 2 = rotF x 63 := fun h => rot_eq h 63 1 rfl (by omega) (by omega)
  unfold qR qF
  simp only [upd_if]
  simp only [reduceIte, show ¬ (1 : Nat) = 0 by omega, show ¬ (2 : Nat) = 0 by omega, show ¬ (3 : Nat) = 0 by omega, show ¬ (0 : Nat) = 1 by omega, show ¬ (2 : Nat) = 1 by omega, show ¬ (3 : Nat) = 1 by omega, show ¬ (0 : Nat) = 2 by omega, show ¬ (1 : Nat) = 2 by omega, show ¬ (3 : Nat) = 2 by omega, show ¬ (0 : Nat) = 3 by omega, show ¬ (1 : Nat) = 3 by omega, show ¬ (2 : Nat) = 3 by omega, if_false]
  simp only [r1 (W_xor _ _), r2 (W_xor _ _), r3 (W_xor _ _), r4 (W_xor _ _), prod_eq h0 h1, prod_eq h2 (W_rot _ _), prod_eq (W_prod _ _) (W_rot _ _), and_self]
def stR (v : Bl) (i j k l : Nat) : Bl :=
  let q := qR (upd (upd (upd (upd nulB 0 (v i)) 1 (v j)) 2 (v k)) 3 (v l))
  upd (upd (upd (upd v i (q 0)) j (q 1)) k (q 2)) l (q 3)
def permR (v : Bl) : Bl := stR (stR (stR (stR (stR (stR (stR (stR v 0 4 8 12) 1 5 9 13) 2 6 10 14) 3 7 11 15) 0 5 10 15) 1 6 11 12) 2 7 8 13) 3 4 9 14
theorem p41 {R : Type} (N : Nat) (hN : N = 1001) (v : Bl) (κ) : p_41 (R := R) N ((v, ()), ()) κ = κ (permR v) := by subst hN; kernel_rfl
theorem stR_eq {v : Bl} (h : ∀ j, W (v j)) (i j k l : Nat) : stR v i j k l = stF v i j k l := by
  unfold stR stF
  generalize hq : upd (upd (upd (upd nulB 0 (v i)) 1 (v j)) 2 (v k)) 3 (v l) = q
  have e0 : q 0 = v i := by subst hq; simp [upd_if]
  have e1 : q 1 = v j := by subst hq; simp [upd_if]
  have e2 : q 2 = v k := by subst hq; simp [upd_if]
  have e3 : q 3 = v l := by subst hq; simp [upd_if]
  obtain ⟨g0, g1, g2, g3⟩ := qR_eq q (e0 ▸ h i) (e1 ▸ h j) (e2 ▸ h k) (e3 ▸ h l)
  rw [e0, e1, e2, e3] at g0 g1 g2 g3
  simp only [g0, g1, g2, g3]
theorem permR_eq {v : Bl} (h : ∀ j, W (v j)) : permR v = permF v := by
  unfold permR permF
  have h1 := stF_W h 0 4 8 12
  have h2 := stF_W h1 1 5 9 13
  have h3 := stF_W h2 2 6 10 14
  have h4 := stF_W h3 3 7 11 15
  have h5 := stF_W h4 0 5 10 15
  have h6 := stF_W h5 1 6 11 12
  have h7 := stF_W h6 2 7 8 13
  rw [stR_eq h, stR_eq h1, stR_eq h2, stR_eq h3, stR_eq h4, stR_eq h5, stR_eq h6, stR_eq h7]
theorem W_ext {v : Bl} (h : ∀ j, j < 16 → W (v j)) : ∀ j, W ((fun j => if j < 16 then v j else 0) j) := fun j => by
  show W (if j < 16 then v j else 0)
  split
  · exact h j (by omega)
  · exact W_zero

/-! ### the document's blocks -/
theorem foldl_at (j : Nat) (hj : j < 128) : ∀ (l : List Bl) (o : Bl), l.foldl (xorFrom 0) o j = l.foldl (fun a b => xorA .u64 a (b j)) (o j)
  | [], o => rfl
  | b :: l, o => by
    show l.foldl (xorFrom 0) (xorFrom 0 o b) j = l.foldl _ (xorA .u64 (o j) (b j))
    rw [foldl_at j hj l]
    congr 1
    unfold xorFrom
    rw [if_pos ⟨Nat.zero_le _, hj⟩]
theorem l47i {R : Type} (N : Nat) (l : List Bl) (hl : l.length ≤ 1000) (w : Nat) (hw : w < 128) (z : Bl) (κ) : ∀ (n i : Nat) (o : Bl), i ≤ l.length → l.length - i < n →
    l_47_6 (R := R) N n ((l, (), (), (w : Int), (i : Int), ()), (z, o, ())) κ = κ ((l, (), (), (w : Int), ()), (z, upd o w ((l.drop i).foldl (fun a b => xorA .u64 a (b w)) (o w)), ()))
  | 0, i, o, h1, h2 => by omega
  | n + 1, i, o, h1, h2 => by
    unfold l_47_6 B_47_6
    try dsimp only
    by_cases hi : i < l.length
    · have hd : l.drop i = l[i] :: l.drop (i + 1) := List.drop_eq_getElem_cons hi
      have hg : List.getD l i (Sch.zero (.arr 128 (.int .u64))) = l[i] := by simp [hi]
      have e3 : addA .i64 (i : Int) 1 = ((i + 1 : Nat) : Int) := by rw [add64 (by omega) (by omega)]; simp
      have w1 : decide ((0 : Int) ≤ (w : Int)) = true := dT (by omega)
      have w2 : decide ((w : Int) < 128) = true := dT (by omega)
      rw [bif_t (dT (show (i : Int) < (l.length : Int) by omega)), bif_t w1, bif_t w2, bif_t (dT (show (0 : Int) ≤ (i : Int) by omega)), bif_t (dT (show (i : Int) < (l.length : Int) by omega)), bif_t w1, bif_t w2, bif_t w1, bif_t w2, Int.toNat_natCast, Int.toNat_natCast, hg, hd, e3]
      refine (l47i N l hl w hw z κ n (i + 1) _ (by omega) (by omega)).trans ?_
      have uu : ∀ (p q : Int), upd (upd o w p) w q = upd o w q := by
        intro p q
        funext j
        by_cases hj : j = w
        · subst hj; rw [upd_same, upd_same]
        · rw [upd_other _ _ hj, upd_other _ _ hj, upd_other _ _ hj]
      rw [upd_same, uu]
      rfl
    · rw [bif_f (dF (by omega)), List.drop_eq_nil_of_le (by omega)]
      have e : upd o w ((([] : List Bl)).foldl (fun a b => xorA .u64 a (b w)) (o w)) = o := by
        funext j; rw [upd_if]; split
        · subst j; rfl
        · rfl
      rw [e]
theorem l47o {R : Type} (N : Nat) (hN : 1001 ≤ N) (l : List Bl) (hl : l.length ≤ 1000) (z : Bl) (κ) : ∀ (n m w : Nat) (o : Bl), w + m = 128 → m < n →
    l_47_3 (R := R) N n ((l, (), (), (w : Int), ()), (z, o, ())) κ = κ (((), (), ()), (z, (fun j => if w ≤ j ∧ j < 128 then l.foldl (fun a b => xorA .u64 a (b j)) (o j) else o j), ()))
  | 0, m, w, o, h1, h2 => by omega
  | n + 1, m, w, o, h1, h2 => by
    unfold l_47_3 B_47_3
    try dsimp only
    by_cases hw : w < 128
    · have e3 : addA .i64 (w : Int) 1 = ((w + 1 : Nat) : Int) := by rw [add64 (by omega) (by omega)]; simp
      rw [bif_t (dT (show (w : Int) < 128 by omega))]
      refine (l47i N l hl w hw z _ N 0 o (by omega) (by omega)).trans ?_
      try dsimp only
      rw [e3, l47o N hN l hl z κ n (m - 1) (w + 1) _ (by omega) (by omega), List.drop_zero]
      congr 4
      funext j
      rw [upd_if]
      by_cases hj : j = w
      · subst hj; rw [if_neg (by omega), if_pos rfl, if_pos ⟨by omega, hw⟩]
      · rw [if_neg hj]
        by_cases h3 : w + 1 ≤ j ∧ j < 128
        · rw [if_pos h3, if_pos ⟨by omega, h3.2⟩]
        · rw [if_neg h3, if_neg (by omega)]
    · rw [bif_f (dF (show ¬ (w : Int) < 128 by omega))]
      congr 4
      funext j
      rw [if_neg (by omega)]
theorem p47 {R : Type} (N : Nat) (hN : 1001 ≤ N) (l : List Bl) (hl : l.length ≤ 1000) (κ) : p_47 (R := R) N ((l, ()), ()) κ = κ (xorL l) := by
  unfold p_47
  try dsimp only
  refine (l47o N hN l hl _ _ N 128 0 _ (by omega) (by omega)).trans ?_
  try dsimp only
  congr 1
  funext j
  by_cases hj : j < 128
  · rw [if_pos ⟨by omega, hj⟩]
    unfold xorL
    rw [foldl_at j hj]
    rfl
  · rw [if_neg (by omega), xorL_out l j (by omega)]
    rfl
def tI (c : Bool) : Int := bif c then 1 else 0
section
variable {R : Type} (N : Nat)
theorem idx_row (c : Bool) {i : Int} (hi : 0 ≤ i ∧ i < 8) {k : Nat} (hk : k < 16) :
    (c = true → addA .i64 (addA .i64 (mulA .i64 16 (quoA .i64 (k : Int) 2)) (mulA .i64 2 i)) (remA .i64 (k : Int) 2) = at_ c i k) ∧
    (c = false → addA .i64 (addA .i64 (mulA .i64 16 i) (mulA .i64 2 (quoA .i64 (k : Int) 2))) (remA .i64 (k : Int) 2) = at_ c i k) := by
  rw [quo64 (by omega) (by omega) (by omega), rem64 (by omega), mul64 (a := 16) (by omega) (by omega), mul64 (a := 2) (by omega) (by omega), mul64 (a := 16) (b := i) (by omega) (by omega), mul64 (a := 2) (by omega) (by omega), add64 (a := 16 * ((k : Int) / 2)) (by omega) (by omega), add64 (a := 16 * i) (by omega) (by omega), add64 (by omega) (by omega), add64 (by omega) (by omega)]
  constructor
  · rintro rfl
    show _ = atCol i k
    rw [atCol_get hi hk]
    omega
  · rintro rfl
    show _ = atRow i k
    rw [atRow_get hi hk]
    omega
theorem l45g (c : Bool) (i : Int) (hi : 0 ≤ i ∧ i < 8) (a a2 : Bl) (κ) : ∀ (n m k : Nat) (o : Bl), k + m = 16 → m < n →
    l_45_9 (R := R) N n (((), (), tI c, i, (), (k : Int), ()), (a, a2, o, ())) κ = κ (((), (), tI c, i, (), ()), (a, a2, gath (at_ c i) a m k o, ()))
  | 0, m, k, o, h1, h2 => by omega
  | n + 1, m, k, o, h1, h2 => by
    unfold l_45_9 B_45_9
    try dsimp only
    cases m with
    | zero => rw [bif_f (dF (show ¬ (k : Int) < 16 by omega))]; rfl
    | succ m =>
      have hk : k < 16 := by omega
      obtain ⟨x1, x2⟩ := idx_row c hi hk
      obtain ⟨g1, g2⟩ := at_in c hi hk
      have e3 : addA .i64 (k : Int) 1 = ((k + 1 : Nat) : Int) := by rw [add64 (by omega) (by omega)]; simp
      rw [bif_t (dT (show (k : Int) < 16 by omega)), e3, Int.toNat_natCast]
      cases c with
      | true =>
        rw [bif_t (show (tI true == 1) = true from rfl), x1 rfl, bif_t (dT g1), bif_t (dT g2), bif_t (dT (show (0 : Int) ≤ (k : Int) by omega)), bif_t (dT (show (k : Int) < 16 by omega))]
        exact l45g true i hi a a2 κ n m (k + 1) _ (by omega) (by omega)
      | false =>
        rw [bif_f (show (tI false == 1) = false from rfl), x2 rfl, bif_t (dT g1), bif_t (dT g2), bif_t (dT (show (0 : Int) ≤ (k : Int) by omega)), bif_t (dT (show (k : Int) < 16 by omega))]
        exact l45g false i hi a a2 κ n m (k + 1) _ (by omega) (by omega)
theorem l45s (c : Bool) (i : Int) (hi : 0 ≤ i ∧ i < 8) (a2 x : Bl) (κ) : ∀ (n m k : Nat) (a : Bl), k + m = 16 → m < n →
    l_45_19 (R := R) N n (((), (), tI c, i, (), (k : Int), ()), (a, a2, x, ())) κ = κ (((), (), tI c, i, ()), (scat (at_ c i) x m k a, a2, ()))
  | 0, m, k, a, h1, h2 => by omega
  | n + 1, m, k, a, h1, h2 => by
    unfold l_45_19 B_45_19
    try dsimp only
    cases m with
    | zero => rw [bif_f (dF (show ¬ (k : Int) < 16 by omega))]; rfl
    | succ m =>
      have hk : k < 16 := by omega
      obtain ⟨x1, x2⟩ := idx_row c hi hk
      obtain ⟨g1, g2⟩ := at_in c hi hk
      have e3 : addA .i64 (k : Int) 1 = ((k + 1 : Nat) : Int) := by rw [add64 (by omega) (by omega)]; simp
      rw [bif_t (dT (show (k : Int) < 16 by omega)), e3, Int.toNat_natCast]
      cases c with
      | true =>
        rw [bif_t (show (tI true == 1) = true from rfl), x1 rfl, bif_t (dT (show (0 : Int) ≤ (k : Int) by omega)), bif_t (dT (show (k : Int) < 16 by omega)), bif_t (dT g1), bif_t (dT g2)]
        exact l45s true i hi a2 x κ n m (k + 1) _ (by omega) (by omega)
      | false =>
        rw [bif_f (show (tI false == 1) = false from rfl), x2 rfl, bif_t (dT (show (0 : Int) ≤ (k : Int) by omega)), bif_t (dT (show (k : Int) < 16 by omega)), bif_t (dT g1), bif_t (dT g2)]
        exact l45s false i hi a2 x κ n m (k + 1) _ (by omega) (by omega)
end
theorem gath_W {c : Bool} {i : Int} (hi : 0 ≤ i ∧ i < 8) {a : Bl} (ha : WB a) : ∀ (n k : Nat) (v : Bl), k + n = 16 → (∀ j, W (v j)) → ∀ j, W (gath (at_ c i) a n k v j)
  | 0, k, v, h, hv => hv
  | n + 1, k, v, h, hv => by
    obtain ⟨g1, g2⟩ := at_in c hi (show k < 16 by omega)
    exact gath_W hi ha n (k + 1) _ (by omega) (upd_W hv k (ha _ (by omega)))
theorem scat_W {at_ w : Bl} (hw : ∀ j, W (w j)) : ∀ (n k : Nat) (a : Bl), WB a → WB (scat at_ w n k a)
  | 0, k, a, h => h
  | n + 1, k, a, h => scat_W hw n (k + 1) _ fun j hj => by
    rw [upd_if]; split
    · exact hw k
    · exact h j hj
theorem wStep_W {c : Bool} {i : Int} (hi : 0 ≤ i ∧ i < 8) {a : Bl} (ha : WB a) : WB (wStep c i a) := scat_W (permF_W (gath_W hi ha 16 0 nulB rfl (fun _ => W_zero))) 16 0 a ha
theorem wRun_W (c : Bool) : ∀ (n i : Nat) (a : Bl), i + n = 8 → WB a → WB (wRun c n i a)
  | 0, i, a, h, ha => ha
  | n + 1, i, a, h, ha => wRun_W c n (i + 1) _ (by omega) (wStep_W (by omega) ha)
theorem l45i {R : Type} (N : Nat) (hN : N = 1001) (c : Bool) (a2 : Bl) (κ) : ∀ (n m i : Nat) (a : Bl), i + m = 8 → m < n → WB a →
    l_45_5 (R := R) N n (((), (), tI c, (i : Int), ()), (a, a2, ())) κ = κ (((), (), tI c, ()), (wRun c m i a, a2, ()))
  | 0, m, i, a, h1, h2, ha => by omega
  | n + 1, m, i, a, h1, h2, ha => by
    unfold l_45_5 B_45_5
    try dsimp only
    cases m with
    | zero => rw [bif_f (dF (show ¬ (i : Int) < 8 by omega))]; rfl
    | succ m =>
      have hi : (0 : Int) ≤ (i : Int) ∧ (i : Int) < 8 := by omega
      have e3 : addA .i64 (i : Int) 1 = ((i + 1 : Nat) : Int) := by rw [add64 (by omega) (by omega)]; simp
      rw [bif_t (dT (show (i : Int) < 8 by omega))]
      refine (l45g N c (i : Int) hi a a2 _ N 16 0 _ (by omega) (by omega)).trans ?_
      try dsimp only
      rw [p41 N hN]
      refine (l45s N c (i : Int) hi a2 _ _ N 16 0 a (by omega) (by omega)).trans ?_
      try dsimp only
      rw [e3]
      have hp : permR (gath (at_ c (i : Int)) a 16 0 (Sch.zero (.arr 16 (.int .u64)))) = permF (gath (at_ c (i : Int)) a 16 0 nulB) := permR_eq (gath_W hi ha 16 0 nulB rfl (fun _ => W_zero))
      rw [hp]
      exact l45i N hN c a2 κ n m (i + 1) _ (by omega) (by omega) (wStep_W hi ha)
theorem p45 {R : Type} (N : Nat) (hN : N = 1001) (a : Bl) (ha : WB a) (κ) : p_45 (R := R) N ((a, ()), ()) κ = κ (wholeF a) := by
  unfold p_45
  try dsimp only
  have step : ∀ (n : Nat) (c : Bool) (a a2 : Bl) (κ), WB a → l_45_2 (R := R) N (n + 1) (((), (), tI c, ()), (a, a2, ())) κ = l_45_2 N n (((), (), addA .i64 (tI c) 1, ()), (wRun c 8 0 a, a2, ())) κ := by
    intro n c a a2 κ ha
    conv => lhs; unfold l_45_2 B_45_2
    try dsimp only
    rw [bif_t (show decide (tI c < 2) = true by cases c <;> rfl)]
    exact (l45i N hN c a2 _ N 8 0 a (by omega) (by omega) ha).trans rfl
  obtain ⟨n, rfl⟩ : ∃ n, N = n + 3 := ⟨N - 3, by omega⟩
  refine (step (n + 2) false a _ _ ha).trans ?_
  refine (step (n + 1) true _ _ _ (wRun_W false 8 0 a rfl ha)).trans ?_
  rfl
theorem p42 {R : Type} (N : Nat) (hN : N = 1001) (x y : Bl) (κ) : p_42 (R := R) N ((x, y, ()), ()) κ = κ (mixF x y) := by
  unfold p_42
  try dsimp only
  rw [p47 N (by omega) [x, y] (by simp)]
  try dsimp only
  rw [p45 N hN _ (fun j _ => xorL_W _ j)]
  try dsimp only
  rw [p47 N (by omega) _ (by simp)]
  rfl

theorem p46 {R : Type} (N : Nat) (hN : N = 1001) (x y : Bl) (l : List Bl) (hl : l.length ≤ 10) (κ) : p_46 (R := R) N ((x, y, l, ()), ()) κ = κ (xorL (mixF x y :: l)) := by
  unfold p_46
  try dsimp only
  rw [p43 N hN]
  try dsimp only
  rw [bif_t (by simp; omega)]
  rw [p94 N (by omega) _ (by simp; omega)]
  rfl
theorem p9 (N : Nat) (hN : N = 1001) (x y : Bl) (hx : WB x) (l : List Bl) (κ) : p_9 (R := AV) N ((x, y, l, ()), ()) κ = κ (true, ()) := by
  unfold p_9
  try dsimp only
  rw [p37 N hN]
  simp only [Bool.not_true, cond_false]
  by_cases hl : (l.length : Int) > 10
  · rw [bif_t (dT hl)]
  rw [bif_f (dF hl), p42 N hN]
  try dsimp only
  rw [p43 N hN]
  try dsimp only
  rw [schEq128 (fun _ _ => rfl), bif_t rfl, p44 N hN]
  try dsimp only
  rw [p45 N hN x hx]
  try dsimp only
  rw [schEq128 (fun _ _ => rfl), bif_t rfl, p46 N hN x y l (by omega)]
  try dsimp only
  rw [bif_t (by simp; omega), p47 N (by omega) _ (by simp; omega)]
  try dsimp only
  rw [show [mixF x y] ++ l = mixF x y :: l from rfl, schEq128 (fun _ _ => rfl)]
theorem law_all (y0 : Bl) (wf0 : WF (.arr 128 (.int .u64)) y0) (y1 : Bl) (wf1 : WF (.arr 128 (.int .u64)) y1) (y2 : List Bl) {P2 : Prop} (wf2 : P2) :
    ∃ H', ACalls Try.prog 9 [toAV (.arr 128 (.int .u64)) y0, toAV (.arr 128 (.int .u64)) y1, toAV (.sl (.arr 128 (.int .u64))) y2] [] (.bool true) H' :=
  gd_law (good_9 1001) (x := (y0, y1, y2, ())) (p9 1001 rfl y0 y1 (fun j hj => wf_u64 (wf0 j hj)) y2 _)
end Go.Proofs.Ytjehpceomlnicaa.Eng
