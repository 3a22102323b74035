/-
Plain functions that the functions of the program are shown to come to, printed by a program of the prover; each with its proof.
Conditions: none.
-/
import Derived.Test.YtjehpceomlnicaaProg
import Derived.Test.YtjehpceomlnicaaEngY
import Derived.KernelRfl
set_option linter.unusedVariables false
set_option linter.unusedSimpArgs false
namespace Go.Proofs.Ytjehpceomlnicaa.Eng
def TT : Types := [(35, ⟨.stru [(3, 0), (3, 1), (3, 2), (3, 3), (3, 4)], 5, 40, .node (.fcons (.int .i64 0) (.fcons (.int .i64 0) (.fcons (.int .i64 0) (.fcons (.int .i64 0) (.fcons (.int .i64 0) (.fnil)))))), some (.stru (.fcons (.int .i64) (.fcons (.int .i64) (.fcons (.int .i64) (.fcons (.int .i64) (.fcons (.int .i64) (.fnil))))))), true⟩),
  (79, ⟨.stru [(3, 0), (3, 1)], 2, 16, .node (.fcons (.int .i64 0) (.fcons (.int .i64 0) (.fnil))), some (.stru (.fcons (.int .i64) (.fcons (.int .i64) (.fnil)))), true⟩),
  (3, ⟨.int .i64, 1, 8, .int .i64 0, some (.int .i64), false⟩),
  (31, ⟨.int .u32, 1, 4, .int .u32 0, some (.int .u32), false⟩),
  (4, ⟨.bool, 1, 1, .bool false, some (.bool), false⟩),
  (61, ⟨.int .u64, 1, 8, .int .u64 0, some (.int .u64), false⟩),
  (37, ⟨.stru [(3, 0), (3, 1), (3, 2), (3, 3), (3, 4), (3, 5), (3, 6), (3, 7)], 8, 64, .node (.fcons (.int .i64 0) (.fcons (.int .i64 0) (.fcons (.int .i64 0) (.fcons (.int .i64 0) (.fcons (.int .i64 0) (.fcons (.int .i64 0) (.fcons (.int .i64 0) (.fcons (.int .i64 0) (.fnil))))))))), some (.stru (.fcons (.int .i64) (.fcons (.int .i64) (.fcons (.int .i64) (.fcons (.int .i64) (.fcons (.int .i64) (.fcons (.int .i64) (.fcons (.int .i64) (.fcons (.int .i64) (.fnil)))))))))), true⟩),
  (38, ⟨.int .i64, 1, 8, .int .i64 0, some (.int .i64), false⟩),
  (86, ⟨.stru [(3, 0), (3, 1), (3, 2), (3, 3), (3, 4), (3, 5), (3, 6), (3, 7)], 8, 64, .node (.fcons (.int .i64 0) (.fcons (.int .i64 0) (.fcons (.int .i64 0) (.fcons (.int .i64 0) (.fcons (.int .i64 0) (.fcons (.int .i64 0) (.fcons (.int .i64 0) (.fcons (.int .i64 0) (.fnil))))))))), some (.stru (.fcons (.int .i64) (.fcons (.int .i64) (.fcons (.int .i64) (.fcons (.int .i64) (.fcons (.int .i64) (.fcons (.int .i64) (.fcons (.int .i64) (.fcons (.int .i64) (.fnil)))))))))), true⟩),
  (88, ⟨.stru [(3, 0), (3, 1)], 2, 16, .node (.fcons (.int .i64 0) (.fcons (.int .i64 0) (.fnil))), some (.stru (.fcons (.int .i64) (.fcons (.int .i64) (.fnil)))), true⟩),
  (49, ⟨.slice 3, 1, 24, .nils, some (.sl (.int .i64)), false⟩)]
theorem tyok : TyOk Try.prog TT := TyOk.of (by kernel_rfl)
theorem mixed : Try.prog.follows .mixedOrders = true := by kernel_rfl
def QQ : FuncId → Bool := fun f => memN [23, 24, 50, 55, 56, 57, 58, 87] f
def LN : FuncId → Bool := fun f => memN [] f
def ap_86 : List Pat := [.int .u64, .int .u64]
def hp_86 : List (Option (Pat × Nat)) := []
def p_86 {R : Type} (N : Nat) (x : (Int × Int × Unit) × (Unit)) (κ0 : ((Int × (Int × Unit)) × (Unit)) → Option R) : Option R :=
let i19 : Int := x.1.1
let i20 : Int := x.1.2.1
let i21 : Int := andA .u64 i19 4294967295
let i22 : Int := shrA .u64 i19 32
let i23 : Int := andA .u64 i20 4294967295
let i24 : Int := shrA .u64 i20 32
let i25 : Int := mulA .u64 i21 i23
let i26 : Int := mulA .u64 i22 i23
let i27 : Int := shrA .u64 i25 32
let i28 : Int := addA .u64 i26 i27
let i29 : Int := andA .u64 i28 4294967295
let i30 : Int := shrA .u64 i28 32
let i31 : Int := mulA .u64 i21 i24
let i32 : Int := addA .u64 i29 i31
let i33 : Int := mulA .u64 i22 i24
let i34 : Int := addA .u64 i33 i30
let i35 : Int := shrA .u64 i32 32
let i36 : Int := addA .u64 i34 i35
let i37 : Int := mulA .u64 i19 i20
κ0 ((i36, (i37, ())), ())

def Q_86 {R : Type} (x : (Int × Int × Unit) × (Unit)) (κ0 : ((Int × (Int × Unit)) × (Unit)) → Option R) : Option R :=
let i19 : Int := x.1.1
let i20 : Int := x.1.2.1
let i21 : Int := andA .u64 i19 4294967295
let i22 : Int := shrA .u64 i19 32
let i23 : Int := andA .u64 i20 4294967295
let i24 : Int := shrA .u64 i20 32
let i25 : Int := mulA .u64 i21 i23
let i26 : Int := mulA .u64 i22 i23
let i27 : Int := shrA .u64 i25 32
let i28 : Int := addA .u64 i26 i27
let i29 : Int := andA .u64 i28 4294967295
let i30 : Int := shrA .u64 i28 32
let i31 : Int := mulA .u64 i21 i24
let i32 : Int := addA .u64 i29 i31
let i33 : Int := mulA .u64 i22 i24
let i34 : Int := addA .u64 i33 i30
let i35 : Int := shrA .u64 i32 32
let i36 : Int := addA .u64 i34 i35
let i37 : Int := mulA .u64 i19 i20
κ0 ((i36, (i37, ())), ())
def EG_86 {R : Type} : Env R := Env.base QQ LN
def LG_86 {R : Type} : Loops R := Loops.none
def E_86 {R : Type} (N : Nat) : Env R := EG_86
theorem eok_86 {R : Type} (N : Nat) : EK Try.prog (E_86 (R := R) N) := ek_base _ _
def L_86 {R : Type} (N : Nat) : Loops R := LG_86
theorem lok_86 {R : Type} (N : Nat) : LOK 0 TT (E_86 (R := R) N) (drawOk TT QQ) (L_86 N) (bodyOf Try.f86) := loops_nil (by kernel_rfl)
theorem grun_86 {R : Type} (x : aden ap_86 × hden hp_86) (k : KF R) : fnrun TT (EG_86) (drawOk TT QQ) (LG_86) true Try.f86 (instA ap_86 x.1) (instH hp_86 x.2) k = Q_86 x (fun y => k (Pat.inst (.tup (.fcons (.int .u64) (.fcons (.int .u64) (.fnil)))) y.1) (instH [] y.2)) := by kernel_rfl
theorem run_86 {R : Type} (N : Nat) (x : aden ap_86 × hden hp_86) (k : KF R) : fnrun TT (E_86 (R := R) N) (drawOk TT QQ) (L_86 N) true Try.f86 (instA ap_86 x.1) (instH hp_86 x.2) k = p_86 N x (fun y => k (Pat.inst (.tup (.fcons (.int .u64) (.fcons (.int .u64) (.fnil)))) y.1) (instH [] y.2)) := (grun_86 x k).trans (by kernel_rfl)
theorem good_86 {R : Type} (N : Nat) : GD (X := R) Try.prog QQ 86 ap_86 hp_86 (fun (x : aden ap_86 × hden hp_86) k => p_86 N x (fun y => k (Pat.inst (.tup (.fcons (.int .u64) (.fcons (.int .u64) (.fnil)))) y.1) (instH [] y.2))) :=
  gd_loud (E := E_86 N) (p := fun (x : aden ap_86 × hden hp_86) k => p_86 N x (fun y => k (Pat.inst (.tup (.fcons (.int .u64) (.fcons (.int .u64) (.fnil)))) y.1) (instH [] y.2))) mixed tyok (eok_86 N) Try.func86 (by kernel_rfl) (by kernel_rfl) (by kernel_rfl) (lok_86 N) (fun x k => run_86 N x k)

def ap_23 : List Pat := [.int .i64, .int .u32]
def hp_23 : List (Option (Pat × Nat)) := []
def p_23 {R : Type} (N : Nat) (x : (Int × Int × Unit) × (Unit)) (κ0 : Int → Option R) : Option R :=
let i12 : Int := x.1.1
let i13 : Int := x.1.2.1
bif (decide (i12 < 1)) then (
κ0 0) else (
let i14 : Int := IntKind.wrap .u64 i13
let i15 : Int := IntKind.wrap .u64 i13
let i16 : Int := mulA .u64 i14 i15
let i17 : Int := shrA .u64 i16 32
let i18 : Int := IntKind.wrap .u64 i12
p_86 N ((i18, i17, ()), ()) (fun y38 =>
let i39 : Int := y38.1.1
let i40 : Int := y38.1.2.1
let i41 : Int := shlA .u64 i39 32
let i42 : Int := shrA .u64 i40 32
let i43 : Int := orA .u64 i41 i42
let i44 : Int := subA .i64 i12 1
let i45 : Int := IntKind.wrap .i64 i43
let i46 : Int := subA .i64 i44 i45
κ0 i46))

def Q_23 {R : Type} (q_86 : (Int × Int × Unit) × (Unit) → (((Int × (Int × Unit)) × (Unit)) → Option R) → Option R) (x : (Int × Int × Unit) × (Unit)) (κ0 : Int → Option R) : Option R :=
let i12 : Int := x.1.1
let i13 : Int := x.1.2.1
bif (decide (i12 < 1)) then (
κ0 0) else (
let i14 : Int := IntKind.wrap .u64 i13
let i15 : Int := IntKind.wrap .u64 i13
let i16 : Int := mulA .u64 i14 i15
let i17 : Int := shrA .u64 i16 32
let i18 : Int := IntKind.wrap .u64 i12
q_86 ((i18, i17, ()), ()) (fun y38 =>
let i39 : Int := y38.1.1
let i40 : Int := y38.1.2.1
let i41 : Int := shlA .u64 i39 32
let i42 : Int := shrA .u64 i40 32
let i43 : Int := orA .u64 i41 i42
let i44 : Int := subA .i64 i12 1
let i45 : Int := IntKind.wrap .i64 i43
let i46 : Int := subA .i64 i44 i45
κ0 i46))
def EG_23 {R : Type} (q_86 : (Int × Int × Unit) × (Unit) → (((Int × (Int × Unit)) × (Unit)) → Option R) → Option R) : Env R := (Env.base QQ LN).add 86 ap_86 hp_86 (fun (x : aden ap_86 × hden hp_86) k => q_86 x (fun y => k (Pat.inst (.tup (.fcons (.int .u64) (.fcons (.int .u64) (.fnil)))) y.1) (instH [] y.2)))
def LG_23 {R : Type} : Loops R := Loops.none
def E_23 {R : Type} (N : Nat) : Env R := EG_23 (p_86 N)
theorem eok_23 {R : Type} (N : Nat) : EK Try.prog (E_23 (R := R) N) := ek_add (ek_base _ _) (good_86 N)
def L_23 {R : Type} (N : Nat) : Loops R := LG_23
theorem lok_23 {R : Type} (N : Nat) : LOK 0 TT (E_23 (R := R) N) (drawOk TT QQ) (L_23 N) (bodyOf Try.f23) := loops_nil (by kernel_rfl)
theorem grun_23 {R : Type} (q_86 : (Int × Int × Unit) × (Unit) → (((Int × (Int × Unit)) × (Unit)) → Option R) → Option R) (x : aden ap_23 × hden hp_23) (k : KF R) : fnrun TT (EG_23 q_86) (drawOk TT QQ) (LG_23) true Try.f23 (instA ap_23 x.1) (instH hp_23 x.2) k = Q_23 q_86 x (fun y => k (Pat.inst (.int .i64) y) (instH hp_23 x.2)) := by kernel_rfl
theorem run_23 {R : Type} (N : Nat) (x : aden ap_23 × hden hp_23) (k : KF R) : fnrun TT (E_23 (R := R) N) (drawOk TT QQ) (L_23 N) true Try.f23 (instA ap_23 x.1) (instH hp_23 x.2) k = p_23 N x (fun y => k (Pat.inst (.int .i64) y) (instH hp_23 x.2)) := (grun_23 (p_86 N) x k).trans (by kernel_rfl)
theorem good_23 {R : Type} (N : Nat) : GD (X := R) Try.prog QQ 23 ap_23 hp_23 (fun (x : aden ap_23 × hden hp_23) k => p_23 N x (fun y => k (Pat.inst (.int .i64) y) (instH hp_23 x.2))) :=
  gd_quiet (E := E_23 N) (p := fun (x : aden ap_23 × hden hp_23) κ => p_23 N x (fun y => κ (Pat.inst (.int .i64) y))) mixed tyok (eok_23 N) Try.func23 (by kernel_rfl) (by kernel_rfl) (lok_23 N) (fun x k => run_23 N x k)

def ap_22 : List Pat := []
def hp_22 : List (Option (Pat × Nat)) := []
def p_22 {R : Type} (N : Nat) (x : (Unit) × (Unit)) (κ0 : (Bool × (Unit)) → Option R) : Option R :=
p_23 N ((10, 0, ()), ()) (fun y47 =>
let i48 : Int := y47
bif (i48 == 9) then (
p_23 N ((10, 4294967295, ()), ()) (fun y49 =>
let i50 : Int := y49
κ0 ((i50 == 0), ()))) else (
κ0 (false, ())))

def Q_22 {R : Type} (q_23 : (Int × Int × Unit) × (Unit) → (Int → Option R) → Option R) (x : (Unit) × (Unit)) (κ0 : (Bool × (Unit)) → Option R) : Option R :=
q_23 ((10, 0, ()), ()) (fun y47 =>
let i48 : Int := y47
bif (i48 == 9) then (
q_23 ((10, 4294967295, ()), ()) (fun y49 =>
let i50 : Int := y49
κ0 ((i50 == 0), ()))) else (
κ0 (false, ())))
def EG_22 {R : Type} (q_23 : (Int × Int × Unit) × (Unit) → (Int → Option R) → Option R) : Env R := (Env.base QQ LN).add 23 ap_23 hp_23 (fun (x : aden ap_23 × hden hp_23) k => q_23 x (fun y => k (Pat.inst (.int .i64) y) (instH hp_23 x.2)))
def LG_22 {R : Type} : Loops R := Loops.none
def E_22 {R : Type} (N : Nat) : Env R := EG_22 (p_23 N)
theorem eok_22 {R : Type} (N : Nat) : EK Try.prog (E_22 (R := R) N) := ek_add (ek_base _ _) (good_23 N)
def L_22 {R : Type} (N : Nat) : Loops R := LG_22
theorem lok_22 {R : Type} (N : Nat) : LOK 0 TT (E_22 (R := R) N) (drawOk TT QQ) (L_22 N) (bodyOf Try.f22) := loops_nil (by kernel_rfl)
theorem grun_22 {R : Type} (q_23 : (Int × Int × Unit) × (Unit) → (Int → Option R) → Option R) (x : aden ap_22 × hden hp_22) (k : KF R) : fnrun TT (EG_22 q_23) (drawOk TT QQ) (LG_22) true Try.f22 (instA ap_22 x.1) (instH hp_22 x.2) k = Q_22 q_23 x (fun y => k (Pat.inst (.bool) y.1) (instH [] y.2)) := by kernel_rfl
theorem run_22 {R : Type} (N : Nat) (x : aden ap_22 × hden hp_22) (k : KF R) : fnrun TT (E_22 (R := R) N) (drawOk TT QQ) (L_22 N) true Try.f22 (instA ap_22 x.1) (instH hp_22 x.2) k = p_22 N x (fun y => k (Pat.inst (.bool) y.1) (instH [] y.2)) := (grun_22 (p_23 N) x k).trans (by kernel_rfl)
theorem good_22 {R : Type} (N : Nat) : GD (X := R) Try.prog QQ 22 ap_22 hp_22 (fun (x : aden ap_22 × hden hp_22) k => p_22 N x (fun y => k (Pat.inst (.bool) y.1) (instH [] y.2))) :=
  gd_loud (E := E_22 N) (p := fun (x : aden ap_22 × hden hp_22) k => p_22 N x (fun y => k (Pat.inst (.bool) y.1) (instH [] y.2))) mixed tyok (eok_22 N) Try.func22 (by kernel_rfl) (by kernel_rfl) (by kernel_rfl) (lok_22 N) (fun x k => run_22 N x k)

def ap_87 : List Pat := [.int .i64, .int .i64, .int .i64]
def hp_87 : List (Option (Pat × Nat)) := []
def p_87 {R : Type} (N : Nat) (x : (Int × Int × Int × Unit) × (Unit)) (κ0 : Bool → Option R) : Option R :=
let i58 : Int := x.1.1
let i59 : Int := x.1.2.1
let i60 : Int := x.1.2.2.1
bif (decide (i58 ≥ i59)) then (
κ0 ((decide (i58 ≤ i60)))) else (
κ0 false)

def Q_87 {R : Type} (x : (Int × Int × Int × Unit) × (Unit)) (κ0 : Bool → Option R) : Option R :=
let i58 : Int := x.1.1
let i59 : Int := x.1.2.1
let i60 : Int := x.1.2.2.1
bif (decide (i58 ≥ i59)) then (
κ0 ((decide (i58 ≤ i60)))) else (
κ0 false)
def EG_87 {R : Type} : Env R := Env.base QQ LN
def LG_87 {R : Type} : Loops R := Loops.none
def E_87 {R : Type} (N : Nat) : Env R := EG_87
theorem eok_87 {R : Type} (N : Nat) : EK Try.prog (E_87 (R := R) N) := ek_base _ _
def L_87 {R : Type} (N : Nat) : Loops R := LG_87
theorem lok_87 {R : Type} (N : Nat) : LOK 0 TT (E_87 (R := R) N) (drawOk TT QQ) (L_87 N) (bodyOf Try.f87) := loops_nil (by kernel_rfl)
theorem grun_87 {R : Type} (x : aden ap_87 × hden hp_87) (k : KF R) : fnrun TT (EG_87) (drawOk TT QQ) (LG_87) true Try.f87 (instA ap_87 x.1) (instH hp_87 x.2) k = Q_87 x (fun y => k (Pat.inst (.bool) y) (instH hp_87 x.2)) := by kernel_rfl
theorem run_87 {R : Type} (N : Nat) (x : aden ap_87 × hden hp_87) (k : KF R) : fnrun TT (E_87 (R := R) N) (drawOk TT QQ) (L_87 N) true Try.f87 (instA ap_87 x.1) (instH hp_87 x.2) k = p_87 N x (fun y => k (Pat.inst (.bool) y) (instH hp_87 x.2)) := (grun_87 x k).trans (by kernel_rfl)
theorem good_87 {R : Type} (N : Nat) : GD (X := R) Try.prog QQ 87 ap_87 hp_87 (fun (x : aden ap_87 × hden hp_87) k => p_87 N x (fun y => k (Pat.inst (.bool) y) (instH hp_87 x.2))) :=
  gd_quiet (E := E_87 N) (p := fun (x : aden ap_87 × hden hp_87) κ => p_87 N x (fun y => κ (Pat.inst (.bool) y))) mixed tyok (eok_87 N) Try.func87 (by kernel_rfl) (by kernel_rfl) (lok_87 N) (fun x k => run_87 N x k)

def ap_116 : List Pat := [.int .i64]
def hp_116 : List (Option (Pat × Nat)) := []
def p_116 {R : Type} (N : Nat) (x : (Int × Unit) × (Unit)) (κ0 : (Bool × (Unit)) → Option R) : Option R :=
let i75 : Int := x.1.1
bif (decide (i75 ≥ 0)) then (
κ0 ((decide (i75 ≤ 4611686018427387904)), ())) else (
κ0 (false, ()))

def Q_116 {R : Type} (x : (Int × Unit) × (Unit)) (κ0 : (Bool × (Unit)) → Option R) : Option R :=
let i75 : Int := x.1.1
bif (decide (i75 ≥ 0)) then (
κ0 ((decide (i75 ≤ 4611686018427387904)), ())) else (
κ0 (false, ()))
def EG_116 {R : Type} : Env R := Env.base QQ LN
def LG_116 {R : Type} : Loops R := Loops.none
def E_116 {R : Type} (N : Nat) : Env R := EG_116
theorem eok_116 {R : Type} (N : Nat) : EK Try.prog (E_116 (R := R) N) := ek_base _ _
def L_116 {R : Type} (N : Nat) : Loops R := LG_116
theorem lok_116 {R : Type} (N : Nat) : LOK 0 TT (E_116 (R := R) N) (drawOk TT QQ) (L_116 N) (bodyOf Try.f116) := loops_nil (by kernel_rfl)
theorem grun_116 {R : Type} (x : aden ap_116 × hden hp_116) (k : KF R) : fnrun TT (EG_116) (drawOk TT QQ) (LG_116) true Try.f116 (instA ap_116 x.1) (instH hp_116 x.2) k = Q_116 x (fun y => k (Pat.inst (.bool) y.1) (instH [] y.2)) := by kernel_rfl
theorem run_116 {R : Type} (N : Nat) (x : aden ap_116 × hden hp_116) (k : KF R) : fnrun TT (E_116 (R := R) N) (drawOk TT QQ) (L_116 N) true Try.f116 (instA ap_116 x.1) (instH hp_116 x.2) k = p_116 N x (fun y => k (Pat.inst (.bool) y.1) (instH [] y.2)) := (grun_116 x k).trans (by kernel_rfl)
theorem good_116 {R : Type} (N : Nat) : GD (X := R) Try.prog QQ 116 ap_116 hp_116 (fun (x : aden ap_116 × hden hp_116) k => p_116 N x (fun y => k (Pat.inst (.bool) y.1) (instH [] y.2))) :=
  gd_loud (E := E_116 N) (p := fun (x : aden ap_116 × hden hp_116) k => p_116 N x (fun y => k (Pat.inst (.bool) y.1) (instH [] y.2))) mixed tyok (eok_116 N) Try.func116 (by kernel_rfl) (by kernel_rfl) (by kernel_rfl) (lok_116 N) (fun x k => run_116 N x k)

def ap_88 : List Pat := [.int .i64, .int .i64]
def hp_88 : List (Option (Pat × Nat)) := []
def p_88 {R : Type} (N : Nat) (x : (Int × Int × Unit) × (Unit)) (κ0 : ((Int × (Int × Unit)) × (Unit)) → Option R) : Option R :=
let i73 : Int := x.1.1
let i74 : Int := x.1.2.1
p_116 N ((i73, ()), ()) (fun y76 =>
let b77 : Bool := y76.1
bif (!b77) then (
κ0 ((0, (1, ())), ())) else (
bif (decide (i74 < 1)) then (
κ0 ((0, (1, ())), ())) else (
bif decide (i74 = 0) then none else (
let i78 : Int := remA .i64 i73 i74
let i79 : Int := subA .i64 i73 i78
κ0 ((i79, (0, ())), ())))))

def Q_88 {R : Type} (q_116 : (Int × Unit) × (Unit) → ((Bool × (Unit)) → Option R) → Option R) (x : (Int × Int × Unit) × (Unit)) (κ0 : ((Int × (Int × Unit)) × (Unit)) → Option R) : Option R :=
let i73 : Int := x.1.1
let i74 : Int := x.1.2.1
q_116 ((i73, ()), ()) (fun y76 =>
let b77 : Bool := y76.1
bif (!b77) then (
κ0 ((0, (1, ())), ())) else (
bif (decide (i74 < 1)) then (
κ0 ((0, (1, ())), ())) else (
bif decide (i74 = 0) then none else (
let i78 : Int := remA .i64 i73 i74
let i79 : Int := subA .i64 i73 i78
κ0 ((i79, (0, ())), ())))))
def EG_88 {R : Type} (q_116 : (Int × Unit) × (Unit) → ((Bool × (Unit)) → Option R) → Option R) : Env R := (Env.base QQ LN).add 116 ap_116 hp_116 (fun (x : aden ap_116 × hden hp_116) k => q_116 x (fun y => k (Pat.inst (.bool) y.1) (instH [] y.2)))
def LG_88 {R : Type} : Loops R := Loops.none
def E_88 {R : Type} (N : Nat) : Env R := EG_88 (p_116 N)
theorem eok_88 {R : Type} (N : Nat) : EK Try.prog (E_88 (R := R) N) := ek_add (ek_base _ _) (good_116 N)
def L_88 {R : Type} (N : Nat) : Loops R := LG_88
theorem lok_88 {R : Type} (N : Nat) : LOK 0 TT (E_88 (R := R) N) (drawOk TT QQ) (L_88 N) (bodyOf Try.f88) := loops_nil (by kernel_rfl)
theorem grun_88 {R : Type} (q_116 : (Int × Unit) × (Unit) → ((Bool × (Unit)) → Option R) → Option R) (x : aden ap_88 × hden hp_88) (k : KF R) : fnrun TT (EG_88 q_116) (drawOk TT QQ) (LG_88) true Try.f88 (instA ap_88 x.1) (instH hp_88 x.2) k = Q_88 q_116 x (fun y => k (Pat.inst (.tup (.fcons (.int .i64) (.fcons (.int .i64) (.fnil)))) y.1) (instH [] y.2)) := by kernel_rfl
theorem run_88 {R : Type} (N : Nat) (x : aden ap_88 × hden hp_88) (k : KF R) : fnrun TT (E_88 (R := R) N) (drawOk TT QQ) (L_88 N) true Try.f88 (instA ap_88 x.1) (instH hp_88 x.2) k = p_88 N x (fun y => k (Pat.inst (.tup (.fcons (.int .i64) (.fcons (.int .i64) (.fnil)))) y.1) (instH [] y.2)) := (grun_88 (p_116 N) x k).trans (by kernel_rfl)
theorem good_88 {R : Type} (N : Nat) : GD (X := R) Try.prog QQ 88 ap_88 hp_88 (fun (x : aden ap_88 × hden hp_88) k => p_88 N x (fun y => k (Pat.inst (.tup (.fcons (.int .i64) (.fcons (.int .i64) (.fnil)))) y.1) (instH [] y.2))) :=
  gd_loud (E := E_88 N) (p := fun (x : aden ap_88 × hden hp_88) k => p_88 N x (fun y => k (Pat.inst (.tup (.fcons (.int .i64) (.fcons (.int .i64) (.fnil)))) y.1) (instH [] y.2))) mixed tyok (eok_88 N) Try.func88 (by kernel_rfl) (by kernel_rfl) (by kernel_rfl) (lok_88 N) (fun x k => run_88 N x k)

def ap_26 : List Pat := [.node (.fcons (.int .i64) (.fcons (.int .i64) (.fcons (.int .i64) (.fcons (.int .i64) (.fcons (.int .i64) (.fnil))))))]
def hp_26 : List (Option (Pat × Nat)) := []
def p_26 {R : Type} (N : Nat) (x : ((Int × (Int × (Int × (Int × (Int × Unit))))) × Unit) × (Unit)) (κ0 : (((Int × (Int × (Int × (Int × (Int × (Int × (Int × (Int × Unit)))))))) × (Int × Unit)) × (Unit)) → Option R) : Option R :=
let i53 : Int := x.1.1.1
let i54 : Int := x.1.1.2.1
let i55 : Int := x.1.1.2.2.1
let i56 : Int := x.1.1.2.2.2.1
let i57 : Int := x.1.1.2.2.2.2.1
p_87 N ((i53, 1, 3, ()), ()) (fun y61 =>
let b62 : Bool := y61
bif b62 then (
p_87 N ((i54, 1, 4294967295, ()), ()) (fun y63 =>
let b64 : Bool := y63
bif b64 then (
p_87 N ((i56, 1, 16777215, ()), ()) (fun y65 =>
let b66 : Bool := y65
bif b66 then (
p_87 N ((i55, 1, 4294967295, ()), ()) (fun y67 =>
let b68 : Bool := y67
bif b68 then (
let i69 : Int := quoA .i64 i55 8
bif (decide (i69 ≥ i56)) then (
p_87 N ((i57, 4, 1024, ()), ()) (fun y70 =>
let b71 : Bool := y70
bif (!b71) then (
κ0 (((0, (0, (0, (0, (0, (0, (0, (0, ())))))))), (2, ())), ())) else (
let i72 : Int := mulA .i64 4 i56
p_88 N ((i55, i72, ()), ()) (fun y80 =>
let i81 : Int := y80.1.1
let i82 : Int := y80.1.2.1
bif decide (i56 = 0) then none else (
let i83 : Int := quoA .i64 i81 i56
let i84 : Int := quoA .i64 i83 4
κ0 (((i53, (i54, (i56, (i55, (i81, (i83, (i84, (i57, ())))))))), (0, ())), ())))))) else (
κ0 (((0, (0, (0, (0, (0, (0, (0, (0, ())))))))), (2, ())), ()))) else (
κ0 (((0, (0, (0, (0, (0, (0, (0, (0, ())))))))), (2, ())), ())))) else (
κ0 (((0, (0, (0, (0, (0, (0, (0, (0, ())))))))), (2, ())), ())))) else (
κ0 (((0, (0, (0, (0, (0, (0, (0, (0, ())))))))), (2, ())), ())))) else (
κ0 (((0, (0, (0, (0, (0, (0, (0, (0, ())))))))), (2, ())), ())))

def Q_26 {R : Type} (q_87 : (Int × Int × Int × Unit) × (Unit) → (Bool → Option R) → Option R) (q_88 : (Int × Int × Unit) × (Unit) → (((Int × (Int × Unit)) × (Unit)) → Option R) → Option R) (x : ((Int × (Int × (Int × (Int × (Int × Unit))))) × Unit) × (Unit)) (κ0 : (((Int × (Int × (Int × (Int × (Int × (Int × (Int × (Int × Unit)))))))) × (Int × Unit)) × (Unit)) → Option R) : Option R :=
let i53 : Int := x.1.1.1
let i54 : Int := x.1.1.2.1
let i55 : Int := x.1.1.2.2.1
let i56 : Int := x.1.1.2.2.2.1
let i57 : Int := x.1.1.2.2.2.2.1
q_87 ((i53, 1, 3, ()), ()) (fun y61 =>
let b62 : Bool := y61
bif b62 then (
q_87 ((i54, 1, 4294967295, ()), ()) (fun y63 =>
let b64 : Bool := y63
bif b64 then (
q_87 ((i56, 1, 16777215, ()), ()) (fun y65 =>
let b66 : Bool := y65
bif b66 then (
q_87 ((i55, 1, 4294967295, ()), ()) (fun y67 =>
let b68 : Bool := y67
bif b68 then (
let i69 : Int := quoA .i64 i55 8
bif (decide (i69 ≥ i56)) then (
q_87 ((i57, 4, 1024, ()), ()) (fun y70 =>
let b71 : Bool := y70
bif (!b71) then (
κ0 (((0, (0, (0, (0, (0, (0, (0, (0, ())))))))), (2, ())), ())) else (
let i72 : Int := mulA .i64 4 i56
q_88 ((i55, i72, ()), ()) (fun y80 =>
let i81 : Int := y80.1.1
let i82 : Int := y80.1.2.1
bif decide (i56 = 0) then none else (
let i83 : Int := quoA .i64 i81 i56
let i84 : Int := quoA .i64 i83 4
κ0 (((i53, (i54, (i56, (i55, (i81, (i83, (i84, (i57, ())))))))), (0, ())), ())))))) else (
κ0 (((0, (0, (0, (0, (0, (0, (0, (0, ())))))))), (2, ())), ()))) else (
κ0 (((0, (0, (0, (0, (0, (0, (0, (0, ())))))))), (2, ())), ())))) else (
κ0 (((0, (0, (0, (0, (0, (0, (0, (0, ())))))))), (2, ())), ())))) else (
κ0 (((0, (0, (0, (0, (0, (0, (0, (0, ())))))))), (2, ())), ())))) else (
κ0 (((0, (0, (0, (0, (0, (0, (0, (0, ())))))))), (2, ())), ())))
def EG_26 {R : Type} (q_87 : (Int × Int × Int × Unit) × (Unit) → (Bool → Option R) → Option R) (q_88 : (Int × Int × Unit) × (Unit) → (((Int × (Int × Unit)) × (Unit)) → Option R) → Option R) : Env R := ((Env.base QQ LN).add 87 ap_87 hp_87 (fun (x : aden ap_87 × hden hp_87) k => q_87 x (fun y => k (Pat.inst (.bool) y) (instH hp_87 x.2)))).add 88 ap_88 hp_88 (fun (x : aden ap_88 × hden hp_88) k => q_88 x (fun y => k (Pat.inst (.tup (.fcons (.int .i64) (.fcons (.int .i64) (.fnil)))) y.1) (instH [] y.2)))
def LG_26 {R : Type} : Loops R := Loops.none
def E_26 {R : Type} (N : Nat) : Env R := EG_26 (p_87 N) (p_88 N)
theorem eok_26 {R : Type} (N : Nat) : EK Try.prog (E_26 (R := R) N) := ek_add (ek_add (ek_base _ _) (good_87 N)) (good_88 N)
def L_26 {R : Type} (N : Nat) : Loops R := LG_26
theorem lok_26 {R : Type} (N : Nat) : LOK 0 TT (E_26 (R := R) N) (drawOk TT QQ) (L_26 N) (bodyOf Try.f26) := loops_nil (by kernel_rfl)
theorem grun_26 {R : Type} (q_87 : (Int × Int × Int × Unit) × (Unit) → (Bool → Option R) → Option R) (q_88 : (Int × Int × Unit) × (Unit) → (((Int × (Int × Unit)) × (Unit)) → Option R) → Option R) (x : aden ap_26 × hden hp_26) (k : KF R) : fnrun TT (EG_26 q_87 q_88) (drawOk TT QQ) (LG_26) true Try.f26 (instA ap_26 x.1) (instH hp_26 x.2) k = Q_26 q_87 q_88 x (fun y => k (Pat.inst (.tup (.fcons (.node (.fcons (.int .i64) (.fcons (.int .i64) (.fcons (.int .i64) (.fcons (.int .i64) (.fcons (.int .i64) (.fcons (.int .i64) (.fcons (.int .i64) (.fcons (.int .i64) (.fnil)))))))))) (.fcons (.int .i64) (.fnil)))) y.1) (instH [] y.2)) := by kernel_rfl
theorem run_26 {R : Type} (N : Nat) (x : aden ap_26 × hden hp_26) (k : KF R) : fnrun TT (E_26 (R := R) N) (drawOk TT QQ) (L_26 N) true Try.f26 (instA ap_26 x.1) (instH hp_26 x.2) k = p_26 N x (fun y => k (Pat.inst (.tup (.fcons (.node (.fcons (.int .i64) (.fcons (.int .i64) (.fcons (.int .i64) (.fcons (.int .i64) (.fcons (.int .i64) (.fcons (.int .i64) (.fcons (.int .i64) (.fcons (.int .i64) (.fnil)))))))))) (.fcons (.int .i64) (.fnil)))) y.1) (instH [] y.2)) := (grun_26 (p_87 N) (p_88 N) x k).trans (by kernel_rfl)
theorem good_26 {R : Type} (N : Nat) : GD (X := R) Try.prog QQ 26 ap_26 hp_26 (fun (x : aden ap_26 × hden hp_26) k => p_26 N x (fun y => k (Pat.inst (.tup (.fcons (.node (.fcons (.int .i64) (.fcons (.int .i64) (.fcons (.int .i64) (.fcons (.int .i64) (.fcons (.int .i64) (.fcons (.int .i64) (.fcons (.int .i64) (.fcons (.int .i64) (.fnil)))))))))) (.fcons (.int .i64) (.fnil)))) y.1) (instH [] y.2))) :=
  gd_loud (E := E_26 N) (p := fun (x : aden ap_26 × hden hp_26) k => p_26 N x (fun y => k (Pat.inst (.tup (.fcons (.node (.fcons (.int .i64) (.fcons (.int .i64) (.fcons (.int .i64) (.fcons (.int .i64) (.fcons (.int .i64) (.fcons (.int .i64) (.fcons (.int .i64) (.fcons (.int .i64) (.fnil)))))))))) (.fcons (.int .i64) (.fnil)))) y.1) (instH [] y.2))) mixed tyok (eok_26 N) Try.func26 (by kernel_rfl) (by kernel_rfl) (by kernel_rfl) (lok_26 N) (fun x k => run_26 N x k)

def ap_49 : List Pat := [.node (.fcons (.int .i64) (.fcons (.int .i64) (.fcons (.int .i64) (.fcons (.int .i64) (.fcons (.int .i64) (.fcons (.int .i64) (.fcons (.int .i64) (.fcons (.int .i64) (.fnil))))))))), .node (.fcons (.int .i64) (.fcons (.int .i64) (.fnil)))]
def hp_49 : List (Option (Pat × Nat)) := []
def p_49 {R : Type} (N : Nat) (x : ((Int × (Int × (Int × (Int × (Int × (Int × (Int × (Int × Unit)))))))) × (Int × (Int × Unit)) × Unit) × (Unit)) (κ0 : (Bool × (Unit)) → Option R) : Option R :=
let i109 : Int := x.1.1.1
let i110 : Int := x.1.1.2.1
let i111 : Int := x.1.1.2.2.1
let i112 : Int := x.1.1.2.2.2.1
let i113 : Int := x.1.1.2.2.2.2.1
let i114 : Int := x.1.1.2.2.2.2.2.1
let i115 : Int := x.1.1.2.2.2.2.2.2.1
let i116 : Int := x.1.1.2.2.2.2.2.2.2.1
let i117 : Int := x.1.2.1.1
let i118 : Int := x.1.2.1.2.1
let i119 : Int := subA .i64 i110 1
p_87 N ((i117, 0, i119, ()), ()) (fun y120 =>
let b121 : Bool := y120
bif b121 then (
p_87 N ((i118, 0, 3, ()), ()) (fun y122 =>
let b123 : Bool := y122
κ0 (b123, ()))) else (
κ0 (false, ())))

def Q_49 {R : Type} (q_87 : (Int × Int × Int × Unit) × (Unit) → (Bool → Option R) → Option R) (x : ((Int × (Int × (Int × (Int × (Int × (Int × (Int × (Int × Unit)))))))) × (Int × (Int × Unit)) × Unit) × (Unit)) (κ0 : (Bool × (Unit)) → Option R) : Option R :=
let i109 : Int := x.1.1.1
let i110 : Int := x.1.1.2.1
let i111 : Int := x.1.1.2.2.1
let i112 : Int := x.1.1.2.2.2.1
let i113 : Int := x.1.1.2.2.2.2.1
let i114 : Int := x.1.1.2.2.2.2.2.1
let i115 : Int := x.1.1.2.2.2.2.2.2.1
let i116 : Int := x.1.1.2.2.2.2.2.2.2.1
let i117 : Int := x.1.2.1.1
let i118 : Int := x.1.2.1.2.1
let i119 : Int := subA .i64 i110 1
q_87 ((i117, 0, i119, ()), ()) (fun y120 =>
let b121 : Bool := y120
bif b121 then (
q_87 ((i118, 0, 3, ()), ()) (fun y122 =>
let b123 : Bool := y122
κ0 (b123, ()))) else (
κ0 (false, ())))
def EG_49 {R : Type} (q_87 : (Int × Int × Int × Unit) × (Unit) → (Bool → Option R) → Option R) : Env R := (Env.base QQ LN).add 87 ap_87 hp_87 (fun (x : aden ap_87 × hden hp_87) k => q_87 x (fun y => k (Pat.inst (.bool) y) (instH hp_87 x.2)))
def LG_49 {R : Type} : Loops R := Loops.none
def E_49 {R : Type} (N : Nat) : Env R := EG_49 (p_87 N)
theorem eok_49 {R : Type} (N : Nat) : EK Try.prog (E_49 (R := R) N) := ek_add (ek_base _ _) (good_87 N)
def L_49 {R : Type} (N : Nat) : Loops R := LG_49
theorem lok_49 {R : Type} (N : Nat) : LOK 0 TT (E_49 (R := R) N) (drawOk TT QQ) (L_49 N) (bodyOf Try.f49) := loops_nil (by kernel_rfl)
theorem grun_49 {R : Type} (q_87 : (Int × Int × Int × Unit) × (Unit) → (Bool → Option R) → Option R) (x : aden ap_49 × hden hp_49) (k : KF R) : fnrun TT (EG_49 q_87) (drawOk TT QQ) (LG_49) true Try.f49 (instA ap_49 x.1) (instH hp_49 x.2) k = Q_49 q_87 x (fun y => k (Pat.inst (.bool) y.1) (instH [] y.2)) := by kernel_rfl
theorem run_49 {R : Type} (N : Nat) (x : aden ap_49 × hden hp_49) (k : KF R) : fnrun TT (E_49 (R := R) N) (drawOk TT QQ) (L_49 N) true Try.f49 (instA ap_49 x.1) (instH hp_49 x.2) k = p_49 N x (fun y => k (Pat.inst (.bool) y.1) (instH [] y.2)) := (grun_49 (p_87 N) x k).trans (by kernel_rfl)
theorem good_49 {R : Type} (N : Nat) : GD (X := R) Try.prog QQ 49 ap_49 hp_49 (fun (x : aden ap_49 × hden hp_49) k => p_49 N x (fun y => k (Pat.inst (.bool) y.1) (instH [] y.2))) :=
  gd_loud (E := E_49 N) (p := fun (x : aden ap_49 × hden hp_49) k => p_49 N x (fun y => k (Pat.inst (.bool) y.1) (instH [] y.2))) mixed tyok (eok_49 N) Try.func49 (by kernel_rfl) (by kernel_rfl) (by kernel_rfl) (lok_49 N) (fun x k => run_49 N x k)

def ap_50 : List Pat := [.node (.fcons (.int .i64) (.fcons (.int .i64) (.fcons (.int .i64) (.fcons (.int .i64) (.fcons (.int .i64) (.fcons (.int .i64) (.fcons (.int .i64) (.fcons (.int .i64) (.fnil))))))))), .int .i64, .int .i64]
def hp_50 : List (Option (Pat × Nat)) := []
def p_50 {R : Type} (N : Nat) (x : ((Int × (Int × (Int × (Int × (Int × (Int × (Int × (Int × Unit)))))))) × Int × Int × Unit) × (Unit)) (κ0 : Int → Option R) : Option R :=
let i129 : Int := x.1.1.1
let i130 : Int := x.1.1.2.1
let i131 : Int := x.1.1.2.2.1
let i132 : Int := x.1.1.2.2.2.1
let i133 : Int := x.1.1.2.2.2.2.1
let i134 : Int := x.1.1.2.2.2.2.2.1
let i135 : Int := x.1.1.2.2.2.2.2.2.1
let i136 : Int := x.1.1.2.2.2.2.2.2.2.1
let i137 : Int := x.1.2.1
let i138 : Int := x.1.2.2.1
bif (i137 == 0) then (
bif (i138 == 0) then (
κ0 2) else (
κ0 0)) else (
κ0 0)

def Q_50 {R : Type} (x : ((Int × (Int × (Int × (Int × (Int × (Int × (Int × (Int × Unit)))))))) × Int × Int × Unit) × (Unit)) (κ0 : Int → Option R) : Option R :=
let i129 : Int := x.1.1.1
let i130 : Int := x.1.1.2.1
let i131 : Int := x.1.1.2.2.1
let i132 : Int := x.1.1.2.2.2.1
let i133 : Int := x.1.1.2.2.2.2.1
let i134 : Int := x.1.1.2.2.2.2.2.1
let i135 : Int := x.1.1.2.2.2.2.2.2.1
let i136 : Int := x.1.1.2.2.2.2.2.2.2.1
let i137 : Int := x.1.2.1
let i138 : Int := x.1.2.2.1
bif (i137 == 0) then (
bif (i138 == 0) then (
κ0 2) else (
κ0 0)) else (
κ0 0)
def EG_50 {R : Type} : Env R := Env.base QQ LN
def LG_50 {R : Type} : Loops R := Loops.none
def E_50 {R : Type} (N : Nat) : Env R := EG_50
theorem eok_50 {R : Type} (N : Nat) : EK Try.prog (E_50 (R := R) N) := ek_base _ _
def L_50 {R : Type} (N : Nat) : Loops R := LG_50
theorem lok_50 {R : Type} (N : Nat) : LOK 0 TT (E_50 (R := R) N) (drawOk TT QQ) (L_50 N) (bodyOf Try.f50) := loops_nil (by kernel_rfl)
theorem grun_50 {R : Type} (x : aden ap_50 × hden hp_50) (k : KF R) : fnrun TT (EG_50) (drawOk TT QQ) (LG_50) true Try.f50 (instA ap_50 x.1) (instH hp_50 x.2) k = Q_50 x (fun y => k (Pat.inst (.int .i64) y) (instH hp_50 x.2)) := by kernel_rfl
theorem run_50 {R : Type} (N : Nat) (x : aden ap_50 × hden hp_50) (k : KF R) : fnrun TT (E_50 (R := R) N) (drawOk TT QQ) (L_50 N) true Try.f50 (instA ap_50 x.1) (instH hp_50 x.2) k = p_50 N x (fun y => k (Pat.inst (.int .i64) y) (instH hp_50 x.2)) := (grun_50 x k).trans (by kernel_rfl)
theorem good_50 {R : Type} (N : Nat) : GD (X := R) Try.prog QQ 50 ap_50 hp_50 (fun (x : aden ap_50 × hden hp_50) k => p_50 N x (fun y => k (Pat.inst (.int .i64) y) (instH hp_50 x.2))) :=
  gd_quiet (E := E_50 N) (p := fun (x : aden ap_50 × hden hp_50) κ => p_50 N x (fun y => κ (Pat.inst (.int .i64) y))) mixed tyok (eok_50 N) Try.func50 (by kernel_rfl) (by kernel_rfl) (lok_50 N) (fun x k => run_50 N x k)

def ap_57 : List Pat := [.node (.fcons (.int .i64) (.fcons (.int .i64) (.fcons (.int .i64) (.fcons (.int .i64) (.fcons (.int .i64) (.fcons (.int .i64) (.fcons (.int .i64) (.fcons (.int .i64) (.fnil))))))))), .node (.fcons (.int .i64) (.fcons (.int .i64) (.fnil))), .int .i64, .int .u32]
def hp_57 : List (Option (Pat × Nat)) := []
def p_57 {R : Type} (N : Nat) (x : ((Int × (Int × (Int × (Int × (Int × (Int × (Int × (Int × Unit)))))))) × (Int × (Int × Unit)) × Int × Int × Unit) × (Unit)) (κ0 : Int → Option R) : Option R :=
let i144 : Int := x.1.1.1
let i145 : Int := x.1.1.2.1
let i146 : Int := x.1.1.2.2.1
let i147 : Int := x.1.1.2.2.2.1
let i148 : Int := x.1.1.2.2.2.2.1
let i149 : Int := x.1.1.2.2.2.2.2.1
let i150 : Int := x.1.1.2.2.2.2.2.2.1
let i151 : Int := x.1.1.2.2.2.2.2.2.2.1
let i152 : Int := x.1.2.1.1
let i153 : Int := x.1.2.1.2.1
let i154 : Int := x.1.2.2.1
let i155 : Int := x.1.2.2.2.1
bif (i152 == 0) then (
bif (i153 == 0) then (
κ0 i154) else (
let i156 : Int := IntKind.wrap .u64 i155
let i157 : Int := IntKind.wrap .u64 i146
bif decide (i157 = 0) then none else (
let i158 : Int := remA .u64 i156 i157
let i159 : Int := IntKind.wrap .i64 i158
κ0 i159))) else (
let i160 : Int := IntKind.wrap .u64 i155
let i161 : Int := IntKind.wrap .u64 i146
bif decide (i161 = 0) then none else (
let i162 : Int := remA .u64 i160 i161
let i163 : Int := IntKind.wrap .i64 i162
κ0 i163))

def Q_57 {R : Type} (x : ((Int × (Int × (Int × (Int × (Int × (Int × (Int × (Int × Unit)))))))) × (Int × (Int × Unit)) × Int × Int × Unit) × (Unit)) (κ0 : Int → Option R) : Option R :=
let i144 : Int := x.1.1.1
let i145 : Int := x.1.1.2.1
let i146 : Int := x.1.1.2.2.1
let i147 : Int := x.1.1.2.2.2.1
let i148 : Int := x.1.1.2.2.2.2.1
let i149 : Int := x.1.1.2.2.2.2.2.1
let i150 : Int := x.1.1.2.2.2.2.2.2.1
let i151 : Int := x.1.1.2.2.2.2.2.2.2.1
let i152 : Int := x.1.2.1.1
let i153 : Int := x.1.2.1.2.1
let i154 : Int := x.1.2.2.1
let i155 : Int := x.1.2.2.2.1
bif (i152 == 0) then (
bif (i153 == 0) then (
κ0 i154) else (
let i156 : Int := IntKind.wrap .u64 i155
let i157 : Int := IntKind.wrap .u64 i146
bif decide (i157 = 0) then none else (
let i158 : Int := remA .u64 i156 i157
let i159 : Int := IntKind.wrap .i64 i158
κ0 i159))) else (
let i160 : Int := IntKind.wrap .u64 i155
let i161 : Int := IntKind.wrap .u64 i146
bif decide (i161 = 0) then none else (
let i162 : Int := remA .u64 i160 i161
let i163 : Int := IntKind.wrap .i64 i162
κ0 i163))
def EG_57 {R : Type} : Env R := Env.base QQ LN
def LG_57 {R : Type} : Loops R := Loops.none
def E_57 {R : Type} (N : Nat) : Env R := EG_57
theorem eok_57 {R : Type} (N : Nat) : EK Try.prog (E_57 (R := R) N) := ek_base _ _
def L_57 {R : Type} (N : Nat) : Loops R := LG_57
theorem lok_57 {R : Type} (N : Nat) : LOK 0 TT (E_57 (R := R) N) (drawOk TT QQ) (L_57 N) (bodyOf Try.f57) := loops_nil (by kernel_rfl)
theorem grun_57 {R : Type} (x : aden ap_57 × hden hp_57) (k : KF R) : fnrun TT (EG_57) (drawOk TT QQ) (LG_57) true Try.f57 (instA ap_57 x.1) (instH hp_57 x.2) k = Q_57 x (fun y => k (Pat.inst (.int .i64) y) (instH hp_57 x.2)) := by kernel_rfl
theorem run_57 {R : Type} (N : Nat) (x : aden ap_57 × hden hp_57) (k : KF R) : fnrun TT (E_57 (R := R) N) (drawOk TT QQ) (L_57 N) true Try.f57 (instA ap_57 x.1) (instH hp_57 x.2) k = p_57 N x (fun y => k (Pat.inst (.int .i64) y) (instH hp_57 x.2)) := (grun_57 x k).trans (by kernel_rfl)
theorem good_57 {R : Type} (N : Nat) : GD (X := R) Try.prog QQ 57 ap_57 hp_57 (fun (x : aden ap_57 × hden hp_57) k => p_57 N x (fun y => k (Pat.inst (.int .i64) y) (instH hp_57 x.2))) :=
  gd_quiet (E := E_57 N) (p := fun (x : aden ap_57 × hden hp_57) κ => p_57 N x (fun y => κ (Pat.inst (.int .i64) y))) mixed tyok (eok_57 N) Try.func57 (by kernel_rfl) (by kernel_rfl) (lok_57 N) (fun x k => run_57 N x k)

def ap_56 : List Pat := [.node (.fcons (.int .i64) (.fcons (.int .i64) (.fcons (.int .i64) (.fcons (.int .i64) (.fcons (.int .i64) (.fcons (.int .i64) (.fcons (.int .i64) (.fcons (.int .i64) (.fnil))))))))), .node (.fcons (.int .i64) (.fcons (.int .i64) (.fnil))), .int .i64, .bool]
def hp_56 : List (Option (Pat × Nat)) := []
def p_56 {R : Type} (N : Nat) (x : ((Int × (Int × (Int × (Int × (Int × (Int × (Int × (Int × Unit)))))))) × (Int × (Int × Unit)) × Int × Bool × Unit) × (Unit)) (κ0 : Int → Option R) : Option R :=
let i166 : Int := x.1.1.1
let i167 : Int := x.1.1.2.1
let i168 : Int := x.1.1.2.2.1
let i169 : Int := x.1.1.2.2.2.1
let i170 : Int := x.1.1.2.2.2.2.1
let i171 : Int := x.1.1.2.2.2.2.2.1
let i172 : Int := x.1.1.2.2.2.2.2.2.1
let i173 : Int := x.1.1.2.2.2.2.2.2.2.1
let i174 : Int := x.1.2.1.1
let i175 : Int := x.1.2.1.2.1
let i176 : Int := x.1.2.2.1
let b177 : Bool := x.1.2.2.2.1
let i178 : Int := mulA .i64 i175 i172
bif (decide (i174 > 0)) then (
let i179 : Int := subA .i64 i171 i172
bif b177 then (
let i180 : Int := addA .i64 i179 i176
let i181 : Int := subA .i64 i180 1
κ0 i181) else (
bif (i176 == 0) then (
let i182 : Int := subA .i64 i179 1
κ0 i182) else (
κ0 i179))) else (
bif b177 then (
let i183 : Int := addA .i64 i178 i176
let i184 : Int := subA .i64 i183 1
κ0 i184) else (
bif (i176 == 0) then (
let i185 : Int := subA .i64 i178 1
κ0 i185) else (
κ0 i178)))

def Q_56 {R : Type} (x : ((Int × (Int × (Int × (Int × (Int × (Int × (Int × (Int × Unit)))))))) × (Int × (Int × Unit)) × Int × Bool × Unit) × (Unit)) (κ0 : Int → Option R) : Option R :=
let i166 : Int := x.1.1.1
let i167 : Int := x.1.1.2.1
let i168 : Int := x.1.1.2.2.1
let i169 : Int := x.1.1.2.2.2.1
let i170 : Int := x.1.1.2.2.2.2.1
let i171 : Int := x.1.1.2.2.2.2.2.1
let i172 : Int := x.1.1.2.2.2.2.2.2.1
let i173 : Int := x.1.1.2.2.2.2.2.2.2.1
let i174 : Int := x.1.2.1.1
let i175 : Int := x.1.2.1.2.1
let i176 : Int := x.1.2.2.1
let b177 : Bool := x.1.2.2.2.1
let i178 : Int := mulA .i64 i175 i172
bif (decide (i174 > 0)) then (
let i179 : Int := subA .i64 i171 i172
bif b177 then (
let i180 : Int := addA .i64 i179 i176
let i181 : Int := subA .i64 i180 1
κ0 i181) else (
bif (i176 == 0) then (
let i182 : Int := subA .i64 i179 1
κ0 i182) else (
κ0 i179))) else (
bif b177 then (
let i183 : Int := addA .i64 i178 i176
let i184 : Int := subA .i64 i183 1
κ0 i184) else (
bif (i176 == 0) then (
let i185 : Int := subA .i64 i178 1
κ0 i185) else (
κ0 i178)))
def EG_56 {R : Type} : Env R := Env.base QQ LN
def LG_56 {R : Type} : Loops R := Loops.none
def E_56 {R : Type} (N : Nat) : Env R := EG_56
theorem eok_56 {R : Type} (N : Nat) : EK Try.prog (E_56 (R := R) N) := ek_base _ _
def L_56 {R : Type} (N : Nat) : Loops R := LG_56
theorem lok_56 {R : Type} (N : Nat) : LOK 0 TT (E_56 (R := R) N) (drawOk TT QQ) (L_56 N) (bodyOf Try.f56) := loops_nil (by kernel_rfl)
theorem grun_56 {R : Type} (x : aden ap_56 × hden hp_56) (k : KF R) : fnrun TT (EG_56) (drawOk TT QQ) (LG_56) true Try.f56 (instA ap_56 x.1) (instH hp_56 x.2) k = Q_56 x (fun y => k (Pat.inst (.int .i64) y) (instH hp_56 x.2)) := by kernel_rfl
theorem run_56 {R : Type} (N : Nat) (x : aden ap_56 × hden hp_56) (k : KF R) : fnrun TT (E_56 (R := R) N) (drawOk TT QQ) (L_56 N) true Try.f56 (instA ap_56 x.1) (instH hp_56 x.2) k = p_56 N x (fun y => k (Pat.inst (.int .i64) y) (instH hp_56 x.2)) := (grun_56 x k).trans (by kernel_rfl)
theorem good_56 {R : Type} (N : Nat) : GD (X := R) Try.prog QQ 56 ap_56 hp_56 (fun (x : aden ap_56 × hden hp_56) k => p_56 N x (fun y => k (Pat.inst (.int .i64) y) (instH hp_56 x.2))) :=
  gd_quiet (E := E_56 N) (p := fun (x : aden ap_56 × hden hp_56) κ => p_56 N x (fun y => κ (Pat.inst (.int .i64) y))) mixed tyok (eok_56 N) Try.func56 (by kernel_rfl) (by kernel_rfl) (lok_56 N) (fun x k => run_56 N x k)

def ap_58 : List Pat := [.node (.fcons (.int .i64) (.fcons (.int .i64) (.fcons (.int .i64) (.fcons (.int .i64) (.fcons (.int .i64) (.fcons (.int .i64) (.fcons (.int .i64) (.fcons (.int .i64) (.fnil))))))))), .node (.fcons (.int .i64) (.fcons (.int .i64) (.fnil)))]
def hp_58 : List (Option (Pat × Nat)) := []
def p_58 {R : Type} (N : Nat) (x : ((Int × (Int × (Int × (Int × (Int × (Int × (Int × (Int × Unit)))))))) × (Int × (Int × Unit)) × Unit) × (Unit)) (κ0 : Int → Option R) : Option R :=
let i188 : Int := x.1.1.1
let i189 : Int := x.1.1.2.1
let i190 : Int := x.1.1.2.2.1
let i191 : Int := x.1.1.2.2.2.1
let i192 : Int := x.1.1.2.2.2.2.1
let i193 : Int := x.1.1.2.2.2.2.2.1
let i194 : Int := x.1.1.2.2.2.2.2.2.1
let i195 : Int := x.1.1.2.2.2.2.2.2.2.1
let i196 : Int := x.1.2.1.1
let i197 : Int := x.1.2.1.2.1
bif (i196 == 0) then (
κ0 0) else (
bif (i197 == 3) then (
κ0 0) else (
let i198 : Int := addA .i64 i197 1
let i199 : Int := mulA .i64 i198 i194
κ0 i199))

def Q_58 {R : Type} (x : ((Int × (Int × (Int × (Int × (Int × (Int × (Int × (Int × Unit)))))))) × (Int × (Int × Unit)) × Unit) × (Unit)) (κ0 : Int → Option R) : Option R :=
let i188 : Int := x.1.1.1
let i189 : Int := x.1.1.2.1
let i190 : Int := x.1.1.2.2.1
let i191 : Int := x.1.1.2.2.2.1
let i192 : Int := x.1.1.2.2.2.2.1
let i193 : Int := x.1.1.2.2.2.2.2.1
let i194 : Int := x.1.1.2.2.2.2.2.2.1
let i195 : Int := x.1.1.2.2.2.2.2.2.2.1
let i196 : Int := x.1.2.1.1
let i197 : Int := x.1.2.1.2.1
bif (i196 == 0) then (
κ0 0) else (
bif (i197 == 3) then (
κ0 0) else (
let i198 : Int := addA .i64 i197 1
let i199 : Int := mulA .i64 i198 i194
κ0 i199))
def EG_58 {R : Type} : Env R := Env.base QQ LN
def LG_58 {R : Type} : Loops R := Loops.none
def E_58 {R : Type} (N : Nat) : Env R := EG_58
theorem eok_58 {R : Type} (N : Nat) : EK Try.prog (E_58 (R := R) N) := ek_base _ _
def L_58 {R : Type} (N : Nat) : Loops R := LG_58
theorem lok_58 {R : Type} (N : Nat) : LOK 0 TT (E_58 (R := R) N) (drawOk TT QQ) (L_58 N) (bodyOf Try.f58) := loops_nil (by kernel_rfl)
theorem grun_58 {R : Type} (x : aden ap_58 × hden hp_58) (k : KF R) : fnrun TT (EG_58) (drawOk TT QQ) (LG_58) true Try.f58 (instA ap_58 x.1) (instH hp_58 x.2) k = Q_58 x (fun y => k (Pat.inst (.int .i64) y) (instH hp_58 x.2)) := by kernel_rfl
theorem run_58 {R : Type} (N : Nat) (x : aden ap_58 × hden hp_58) (k : KF R) : fnrun TT (E_58 (R := R) N) (drawOk TT QQ) (L_58 N) true Try.f58 (instA ap_58 x.1) (instH hp_58 x.2) k = p_58 N x (fun y => k (Pat.inst (.int .i64) y) (instH hp_58 x.2)) := (grun_58 x k).trans (by kernel_rfl)
theorem good_58 {R : Type} (N : Nat) : GD (X := R) Try.prog QQ 58 ap_58 hp_58 (fun (x : aden ap_58 × hden hp_58) k => p_58 N x (fun y => k (Pat.inst (.int .i64) y) (instH hp_58 x.2))) :=
  gd_quiet (E := E_58 N) (p := fun (x : aden ap_58 × hden hp_58) κ => p_58 N x (fun y => κ (Pat.inst (.int .i64) y))) mixed tyok (eok_58 N) Try.func58 (by kernel_rfl) (by kernel_rfl) (lok_58 N) (fun x k => run_58 N x k)

def ap_52 : List Pat := [.node (.fcons (.int .i64) (.fcons (.int .i64) (.fcons (.int .i64) (.fcons (.int .i64) (.fcons (.int .i64) (.fcons (.int .i64) (.fcons (.int .i64) (.fcons (.int .i64) (.fnil))))))))), .node (.fcons (.int .i64) (.fcons (.int .i64) (.fnil))), .int .i64, .int .i64, .int .u32, .int .u32]
def hp_52 : List (Option (Pat × Nat)) := []
def p_52 {R : Type} (N : Nat) (x : ((Int × (Int × (Int × (Int × (Int × (Int × (Int × (Int × Unit)))))))) × (Int × (Int × Unit)) × Int × Int × Int × Int × Unit) × (Unit)) (κ0 : (((Int × (Int × Unit)) × (Int × Unit)) × (Unit)) → Option R) : Option R :=
let i95 : Int := x.1.1.1
let i96 : Int := x.1.1.2.1
let i97 : Int := x.1.1.2.2.1
let i98 : Int := x.1.1.2.2.2.1
let i99 : Int := x.1.1.2.2.2.2.1
let i100 : Int := x.1.1.2.2.2.2.2.1
let i101 : Int := x.1.1.2.2.2.2.2.2.1
let i102 : Int := x.1.1.2.2.2.2.2.2.2.1
let i103 : Int := x.1.2.1.1
let i104 : Int := x.1.2.1.2.1
let i105 : Int := x.1.2.2.1
let i106 : Int := x.1.2.2.2.1
let i107 : Int := x.1.2.2.2.2.1
let i108 : Int := x.1.2.2.2.2.2.1
bif (decide (i97 > 0)) then (
p_49 N (((i95, (i96, (i97, (i98, (i99, (i100, (i101, (i102, ())))))))), (i103, (i104, ())), ()), ()) (fun y124 =>
let b125 : Bool := y124.1
bif b125 then (
let i126 : Int := subA .i64 i97 1
p_87 N ((i105, 0, i126, ()), ()) (fun y127 =>
let b128 : Bool := y127
bif (!b128) then (
κ0 (((0, (0, ())), (11, ())), ())) else (
p_50 N (((i95, (i96, (i97, (i98, (i99, (i100, (i101, (i102, ())))))))), i103, i104, ()), ()) (fun y139 =>
let i140 : Int := y139
let i141 : Int := subA .i64 i101 1
p_87 N ((i106, i140, i141, ()), ()) (fun y142 =>
let b143 : Bool := y142
bif (!b143) then (
κ0 (((0, (0, ())), (11, ())), ())) else (
p_57 N (((i95, (i96, (i97, (i98, (i99, (i100, (i101, (i102, ())))))))), (i103, (i104, ())), i105, i108, ()), ()) (fun y164 =>
let i165 : Int := y164
p_56 N (((i95, (i96, (i97, (i98, (i99, (i100, (i101, (i102, ())))))))), (i103, (i104, ())), i106, (i165 == i105), ()), ()) (fun y186 =>
let i187 : Int := y186
p_58 N (((i95, (i96, (i97, (i98, (i99, (i100, (i101, (i102, ())))))))), (i103, (i104, ())), ()), ()) (fun y200 =>
let i201 : Int := y200
p_23 N ((i187, i107, ()), ()) (fun y202 =>
let i203 : Int := y202
let i204 : Int := addA .i64 i201 i203
bif decide (i100 = 0) then none else (
let i205 : Int := remA .i64 i204 i100
κ0 (((i165, (i205, ())), (0, ())), ())))))))))))) else (
κ0 (((0, (0, ())), (11, ())), ())))) else (
κ0 (((0, (0, ())), (11, ())), ()))

def Q_52 {R : Type} (q_49 : ((Int × (Int × (Int × (Int × (Int × (Int × (Int × (Int × Unit)))))))) × (Int × (Int × Unit)) × Unit) × (Unit) → ((Bool × (Unit)) → Option R) → Option R) (q_87 : (Int × Int × Int × Unit) × (Unit) → (Bool → Option R) → Option R) (q_50 : ((Int × (Int × (Int × (Int × (Int × (Int × (Int × (Int × Unit)))))))) × Int × Int × Unit) × (Unit) → (Int → Option R) → Option R) (q_57 : ((Int × (Int × (Int × (Int × (Int × (Int × (Int × (Int × Unit)))))))) × (Int × (Int × Unit)) × Int × Int × Unit) × (Unit) → (Int → Option R) → Option R) (q_56 : ((Int × (Int × (Int × (Int × (Int × (Int × (Int × (Int × Unit)))))))) × (Int × (Int × Unit)) × Int × Bool × Unit) × (Unit) → (Int → Option R) → Option R) (q_58 : ((Int × (Int × (Int × (Int × (Int × (Int × (Int × (Int × Unit)))))))) × (Int × (Int × Unit)) × Unit) × (Unit) → (Int → Option R) → Option R) (q_23 : (Int × Int × Unit) × (Unit) → (Int → Option R) → Option R) (x : ((Int × (Int × (Int × (Int × (Int × (Int × (Int × (Int × Unit)))))))) × (Int × (Int × Unit)) × Int × Int × Int × Int × Unit) × (Unit)) (κ0 : (((Int × (Int × Unit)) × (Int × Unit)) × (Unit)) → Option R) : Option R :=
let i95 : Int := x.1.1.1
let i96 : Int := x.1.1.2.1
let i97 : Int := x.1.1.2.2.1
let i98 : Int := x.1.1.2.2.2.1
let i99 : Int := x.1.1.2.2.2.2.1
let i100 : Int := x.1.1.2.2.2.2.2.1
let i101 : Int := x.1.1.2.2.2.2.2.2.1
let i102 : Int := x.1.1.2.2.2.2.2.2.2.1
let i103 : Int := x.1.2.1.1
let i104 : Int := x.1.2.1.2.1
let i105 : Int := x.1.2.2.1
let i106 : Int := x.1.2.2.2.1
let i107 : Int := x.1.2.2.2.2.1
let i108 : Int := x.1.2.2.2.2.2.1
bif (decide (i97 > 0)) then (
q_49 (((i95, (i96, (i97, (i98, (i99, (i100, (i101, (i102, ())))))))), (i103, (i104, ())), ()), ()) (fun y124 =>
let b125 : Bool := y124.1
bif b125 then (
let i126 : Int := subA .i64 i97 1
q_87 ((i105, 0, i126, ()), ()) (fun y127 =>
let b128 : Bool := y127
bif (!b128) then (
κ0 (((0, (0, ())), (11, ())), ())) else (
q_50 (((i95, (i96, (i97, (i98, (i99, (i100, (i101, (i102, ())))))))), i103, i104, ()), ()) (fun y139 =>
let i140 : Int := y139
let i141 : Int := subA .i64 i101 1
q_87 ((i106, i140, i141, ()), ()) (fun y142 =>
let b143 : Bool := y142
bif (!b143) then (
κ0 (((0, (0, ())), (11, ())), ())) else (
q_57 (((i95, (i96, (i97, (i98, (i99, (i100, (i101, (i102, ())))))))), (i103, (i104, ())), i105, i108, ()), ()) (fun y164 =>
let i165 : Int := y164
q_56 (((i95, (i96, (i97, (i98, (i99, (i100, (i101, (i102, ())))))))), (i103, (i104, ())), i106, (i165 == i105), ()), ()) (fun y186 =>
let i187 : Int := y186
q_58 (((i95, (i96, (i97, (i98, (i99, (i100, (i101, (i102, ())))))))), (i103, (i104, ())), ()), ()) (fun y200 =>
let i201 : Int := y200
q_23 ((i187, i107, ()), ()) (fun y202 =>
let i203 : Int := y202
let i204 : Int := addA .i64 i201 i203
bif decide (i100 = 0) then none else (
let i205 : Int := remA .i64 i204 i100
κ0 (((i165, (i205, ())), (0, ())), ())))))))))))) else (
κ0 (((0, (0, ())), (11, ())), ())))) else (
κ0 (((0, (0, ())), (11, ())), ()))
def EG_52 {R : Type} (q_49 : ((Int × (Int × (Int × (Int × (Int × (Int × (Int × (Int × Unit)))))))) × (Int × (Int × Unit)) × Unit) × (Unit) → ((Bool × (Unit)) → Option R) → Option R) (q_87 : (Int × Int × Int × Unit) × (Unit) → (Bool → Option R) → Option R) (q_50 : ((Int × (Int × (Int × (Int × (Int × (Int × (Int × (Int × Unit)))))))) × Int × Int × Unit) × (Unit) → (Int → Option R) → Option R) (q_57 : ((Int × (Int × (Int × (Int × (Int × (Int × (Int × (Int × Unit)))))))) × (Int × (Int × Unit)) × Int × Int × Unit) × (Unit) → (Int → Option R) → Option R) (q_56 : ((Int × (Int × (Int × (Int × (Int × (Int × (Int × (Int × Unit)))))))) × (Int × (Int × Unit)) × Int × Bool × Unit) × (Unit) → (Int → Option R) → Option R) (q_58 : ((Int × (Int × (Int × (Int × (Int × (Int × (Int × (Int × Unit)))))))) × (Int × (Int × Unit)) × Unit) × (Unit) → (Int → Option R) → Option R) (q_23 : (Int × Int × Unit) × (Unit) → (Int → Option R) → Option R) : Env R := (((((((Env.base QQ LN).add 49 ap_49 hp_49 (fun (x : aden ap_49 × hden hp_49) k => q_49 x (fun y => k (Pat.inst (.bool) y.1) (instH [] y.2)))).add 87 ap_87 hp_87 (fun (x : aden ap_87 × hden hp_87) k => q_87 x (fun y => k (Pat.inst (.bool) y) (instH hp_87 x.2)))).add 50 ap_50 hp_50 (fun (x : aden ap_50 × hden hp_50) k => q_50 x (fun y => k (Pat.inst (.int .i64) y) (instH hp_50 x.2)))).add 57 ap_57 hp_57 (fun (x : aden ap_57 × hden hp_57) k => q_57 x (fun y => k (Pat.inst (.int .i64) y) (instH hp_57 x.2)))).add 56 ap_56 hp_56 (fun (x : aden ap_56 × hden hp_56) k => q_56 x (fun y => k (Pat.inst (.int .i64) y) (instH hp_56 x.2)))).add 58 ap_58 hp_58 (fun (x : aden ap_58 × hden hp_58) k => q_58 x (fun y => k (Pat.inst (.int .i64) y) (instH hp_58 x.2)))).add 23 ap_23 hp_23 (fun (x : aden ap_23 × hden hp_23) k => q_23 x (fun y => k (Pat.inst (.int .i64) y) (instH hp_23 x.2)))
def LG_52 {R : Type} : Loops R := Loops.none
def E_52 {R : Type} (N : Nat) : Env R := EG_52 (p_49 N) (p_87 N) (p_50 N) (p_57 N) (p_56 N) (p_58 N) (p_23 N)
theorem eok_52 {R : Type} (N : Nat) : EK Try.prog (E_52 (R := R) N) := ek_add (ek_add (ek_add (ek_add (ek_add (ek_add (ek_add (ek_base _ _) (good_49 N)) (good_87 N)) (good_50 N)) (good_57 N)) (good_56 N)) (good_58 N)) (good_23 N)
def L_52 {R : Type} (N : Nat) : Loops R := LG_52
theorem lok_52 {R : Type} (N : Nat) : LOK 0 TT (E_52 (R := R) N) (drawOk TT QQ) (L_52 N) (bodyOf Try.f52) := loops_nil (by kernel_rfl)
theorem grun_52 {R : Type} (q_49 : ((Int × (Int × (Int × (Int × (Int × (Int × (Int × (Int × Unit)))))))) × (Int × (Int × Unit)) × Unit) × (Unit) → ((Bool × (Unit)) → Option R) → Option R) (q_87 : (Int × Int × Int × Unit) × (Unit) → (Bool → Option R) → Option R) (q_50 : ((Int × (Int × (Int × (Int × (Int × (Int × (Int × (Int × Unit)))))))) × Int × Int × Unit) × (Unit) → (Int → Option R) → Option R) (q_57 : ((Int × (Int × (Int × (Int × (Int × (Int × (Int × (Int × Unit)))))))) × (Int × (Int × Unit)) × Int × Int × Unit) × (Unit) → (Int → Option R) → Option R) (q_56 : ((Int × (Int × (Int × (Int × (Int × (Int × (Int × (Int × Unit)))))))) × (Int × (Int × Unit)) × Int × Bool × Unit) × (Unit) → (Int → Option R) → Option R) (q_58 : ((Int × (Int × (Int × (Int × (Int × (Int × (Int × (Int × Unit)))))))) × (Int × (Int × Unit)) × Unit) × (Unit) → (Int → Option R) → Option R) (q_23 : (Int × Int × Unit) × (Unit) → (Int → Option R) → Option R) (x : aden ap_52 × hden hp_52) (k : KF R) : fnrun TT (EG_52 q_49 q_87 q_50 q_57 q_56 q_58 q_23) (drawOk TT QQ) (LG_52) true Try.f52 (instA ap_52 x.1) (instH hp_52 x.2) k = Q_52 q_49 q_87 q_50 q_57 q_56 q_58 q_23 x (fun y => k (Pat.inst (.tup (.fcons (.node (.fcons (.int .i64) (.fcons (.int .i64) (.fnil)))) (.fcons (.int .i64) (.fnil)))) y.1) (instH [] y.2)) := by kernel_rfl
theorem run_52 {R : Type} (N : Nat) (x : aden ap_52 × hden hp_52) (k : KF R) : fnrun TT (E_52 (R := R) N) (drawOk TT QQ) (L_52 N) true Try.f52 (instA ap_52 x.1) (instH hp_52 x.2) k = p_52 N x (fun y => k (Pat.inst (.tup (.fcons (.node (.fcons (.int .i64) (.fcons (.int .i64) (.fnil)))) (.fcons (.int .i64) (.fnil)))) y.1) (instH [] y.2)) := (grun_52 (p_49 N) (p_87 N) (p_50 N) (p_57 N) (p_56 N) (p_58 N) (p_23 N) x k).trans (by kernel_rfl)
theorem good_52 {R : Type} (N : Nat) : GD (X := R) Try.prog QQ 52 ap_52 hp_52 (fun (x : aden ap_52 × hden hp_52) k => p_52 N x (fun y => k (Pat.inst (.tup (.fcons (.node (.fcons (.int .i64) (.fcons (.int .i64) (.fnil)))) (.fcons (.int .i64) (.fnil)))) y.1) (instH [] y.2))) :=
  gd_loud (E := E_52 N) (p := fun (x : aden ap_52 × hden hp_52) k => p_52 N x (fun y => k (Pat.inst (.tup (.fcons (.node (.fcons (.int .i64) (.fcons (.int .i64) (.fnil)))) (.fcons (.int .i64) (.fnil)))) y.1) (instH [] y.2))) mixed tyok (eok_52 N) Try.func52 (by kernel_rfl) (by kernel_rfl) (by kernel_rfl) (lok_52 N) (fun x k => run_52 N x k)

def ap_97 : List Pat := [.int .i64, .int .i64]
def hp_97 : List (Option (Pat × Nat)) := []
def p_97 {R : Type} (N : Nat) (x : (Int × Int × Unit) × (Unit)) (κ0 : (Int × (Unit)) → Option R) : Option R :=
let i222 : Int := x.1.1
let i223 : Int := x.1.2.1
bif (i222 == 0) then (
bif (i223 == 0) then (
κ0 (2, ())) else (
κ0 (0, ()))) else (
κ0 (0, ()))

def Q_97 {R : Type} (x : (Int × Int × Unit) × (Unit)) (κ0 : (Int × (Unit)) → Option R) : Option R :=
let i222 : Int := x.1.1
let i223 : Int := x.1.2.1
bif (i222 == 0) then (
bif (i223 == 0) then (
κ0 (2, ())) else (
κ0 (0, ()))) else (
κ0 (0, ()))
def EG_97 {R : Type} : Env R := Env.base QQ LN
def LG_97 {R : Type} : Loops R := Loops.none
def E_97 {R : Type} (N : Nat) : Env R := EG_97
theorem eok_97 {R : Type} (N : Nat) : EK Try.prog (E_97 (R := R) N) := ek_base _ _
def L_97 {R : Type} (N : Nat) : Loops R := LG_97
theorem lok_97 {R : Type} (N : Nat) : LOK 0 TT (E_97 (R := R) N) (drawOk TT QQ) (L_97 N) (bodyOf Try.f97) := loops_nil (by kernel_rfl)
theorem grun_97 {R : Type} (x : aden ap_97 × hden hp_97) (k : KF R) : fnrun TT (EG_97) (drawOk TT QQ) (LG_97) true Try.f97 (instA ap_97 x.1) (instH hp_97 x.2) k = Q_97 x (fun y => k (Pat.inst (.int .i64) y.1) (instH [] y.2)) := by kernel_rfl
theorem run_97 {R : Type} (N : Nat) (x : aden ap_97 × hden hp_97) (k : KF R) : fnrun TT (E_97 (R := R) N) (drawOk TT QQ) (L_97 N) true Try.f97 (instA ap_97 x.1) (instH hp_97 x.2) k = p_97 N x (fun y => k (Pat.inst (.int .i64) y.1) (instH [] y.2)) := (grun_97 x k).trans (by kernel_rfl)
theorem good_97 {R : Type} (N : Nat) : GD (X := R) Try.prog QQ 97 ap_97 hp_97 (fun (x : aden ap_97 × hden hp_97) k => p_97 N x (fun y => k (Pat.inst (.int .i64) y.1) (instH [] y.2))) :=
  gd_loud (E := E_97 N) (p := fun (x : aden ap_97 × hden hp_97) k => p_97 N x (fun y => k (Pat.inst (.int .i64) y.1) (instH [] y.2))) mixed tyok (eok_97 N) Try.func97 (by kernel_rfl) (by kernel_rfl) (by kernel_rfl) (lok_97 N) (fun x k => run_97 N x k)

def ap_53 : List Pat := [.node (.fcons (.int .i64) (.fcons (.int .i64) (.fcons (.int .i64) (.fcons (.int .i64) (.fcons (.int .i64) (.fcons (.int .i64) (.fcons (.int .i64) (.fcons (.int .i64) (.fnil))))))))), .int .i64, .int .i64, .int .i64, .int .i64]
def hp_53 : List (Option (Pat × Nat)) := []
def p_53 {R : Type} (N : Nat) (x : ((Int × (Int × (Int × (Int × (Int × (Int × (Int × (Int × Unit)))))))) × Int × Int × Int × Int × Unit) × (Unit)) (κ0 : (Bool × (Unit)) → Option R) : Option R :=
let i210 : Int := x.1.1.1
let i211 : Int := x.1.1.2.1
let i212 : Int := x.1.1.2.2.1
let i213 : Int := x.1.1.2.2.2.1
let i214 : Int := x.1.1.2.2.2.2.1
let i215 : Int := x.1.1.2.2.2.2.2.1
let i216 : Int := x.1.1.2.2.2.2.2.2.1
let i217 : Int := x.1.1.2.2.2.2.2.2.2.1
let i218 : Int := x.1.2.1
let i219 : Int := x.1.2.2.1
let i220 : Int := x.1.2.2.2.1
let i221 : Int := x.1.2.2.2.2.1
bif (decide (i212 < 1)) then (
κ0 (false, ())) else (
bif (decide (i218 < 0)) then (
κ0 (false, ())) else (
bif (decide (i218 ≥ i211)) then (
κ0 (false, ())) else (
bif (decide (i219 < 0)) then (
κ0 (false, ())) else (
bif (decide (i219 > 3)) then (
κ0 (false, ())) else (
bif (decide (i220 < 0)) then (
κ0 (false, ())) else (
bif (decide (i220 ≥ i212)) then (
κ0 (false, ())) else (
p_97 N ((i218, i219, ()), ()) (fun y224 =>
let i225 : Int := y224.1
bif (decide (i221 ≥ i225)) then (
κ0 ((decide (i221 < i216)), ())) else (
κ0 (false, ()))))))))))

def Q_53 {R : Type} (q_97 : (Int × Int × Unit) × (Unit) → ((Int × (Unit)) → Option R) → Option R) (x : ((Int × (Int × (Int × (Int × (Int × (Int × (Int × (Int × Unit)))))))) × Int × Int × Int × Int × Unit) × (Unit)) (κ0 : (Bool × (Unit)) → Option R) : Option R :=
let i210 : Int := x.1.1.1
let i211 : Int := x.1.1.2.1
let i212 : Int := x.1.1.2.2.1
let i213 : Int := x.1.1.2.2.2.1
let i214 : Int := x.1.1.2.2.2.2.1
let i215 : Int := x.1.1.2.2.2.2.2.1
let i216 : Int := x.1.1.2.2.2.2.2.2.1
let i217 : Int := x.1.1.2.2.2.2.2.2.2.1
let i218 : Int := x.1.2.1
let i219 : Int := x.1.2.2.1
let i220 : Int := x.1.2.2.2.1
let i221 : Int := x.1.2.2.2.2.1
bif (decide (i212 < 1)) then (
κ0 (false, ())) else (
bif (decide (i218 < 0)) then (
κ0 (false, ())) else (
bif (decide (i218 ≥ i211)) then (
κ0 (false, ())) else (
bif (decide (i219 < 0)) then (
κ0 (false, ())) else (
bif (decide (i219 > 3)) then (
κ0 (false, ())) else (
bif (decide (i220 < 0)) then (
κ0 (false, ())) else (
bif (decide (i220 ≥ i212)) then (
κ0 (false, ())) else (
q_97 ((i218, i219, ()), ()) (fun y224 =>
let i225 : Int := y224.1
bif (decide (i221 ≥ i225)) then (
κ0 ((decide (i221 < i216)), ())) else (
κ0 (false, ()))))))))))
def EG_53 {R : Type} (q_97 : (Int × Int × Unit) × (Unit) → ((Int × (Unit)) → Option R) → Option R) : Env R := (Env.base QQ LN).add 97 ap_97 hp_97 (fun (x : aden ap_97 × hden hp_97) k => q_97 x (fun y => k (Pat.inst (.int .i64) y.1) (instH [] y.2)))
def LG_53 {R : Type} : Loops R := Loops.none
def E_53 {R : Type} (N : Nat) : Env R := EG_53 (p_97 N)
theorem eok_53 {R : Type} (N : Nat) : EK Try.prog (E_53 (R := R) N) := ek_add (ek_base _ _) (good_97 N)
def L_53 {R : Type} (N : Nat) : Loops R := LG_53
theorem lok_53 {R : Type} (N : Nat) : LOK 0 TT (E_53 (R := R) N) (drawOk TT QQ) (L_53 N) (bodyOf Try.f53) := loops_nil (by kernel_rfl)
theorem grun_53 {R : Type} (q_97 : (Int × Int × Unit) × (Unit) → ((Int × (Unit)) → Option R) → Option R) (x : aden ap_53 × hden hp_53) (k : KF R) : fnrun TT (EG_53 q_97) (drawOk TT QQ) (LG_53) true Try.f53 (instA ap_53 x.1) (instH hp_53 x.2) k = Q_53 q_97 x (fun y => k (Pat.inst (.bool) y.1) (instH [] y.2)) := by kernel_rfl
theorem run_53 {R : Type} (N : Nat) (x : aden ap_53 × hden hp_53) (k : KF R) : fnrun TT (E_53 (R := R) N) (drawOk TT QQ) (L_53 N) true Try.f53 (instA ap_53 x.1) (instH hp_53 x.2) k = p_53 N x (fun y => k (Pat.inst (.bool) y.1) (instH [] y.2)) := (grun_53 (p_97 N) x k).trans (by kernel_rfl)
theorem good_53 {R : Type} (N : Nat) : GD (X := R) Try.prog QQ 53 ap_53 hp_53 (fun (x : aden ap_53 × hden hp_53) k => p_53 N x (fun y => k (Pat.inst (.bool) y.1) (instH [] y.2))) :=
  gd_loud (E := E_53 N) (p := fun (x : aden ap_53 × hden hp_53) k => p_53 N x (fun y => k (Pat.inst (.bool) y.1) (instH [] y.2))) mixed tyok (eok_53 N) Try.func53 (by kernel_rfl) (by kernel_rfl) (by kernel_rfl) (lok_53 N) (fun x k => run_53 N x k)

def lv_55_5 : Live := [(3, none), (4, none), (5, none), (11, none), (12, some (.int .i64, 3)), (13, none)]
def pt_55_5 : SPat := ⟨[(3, .int .i64), (4, .bool), (5, .ptr 0 []), (11, .int .i64), (12, .sl 1), (13, .int .i64)], [some (.node (.fcons (.int .i64) (.fcons (.int .i64) (.fcons (.int .i64) (.fcons (.int .i64) (.fcons (.int .i64) (.fcons (.int .i64) (.fcons (.int .i64) (.fcons (.int .i64) (.fnil))))))))), 86), some (.lst (.int .i64), 3)]⟩
def px_55_5_0 : SPat := ⟨[(3, .int .i64), (4, .bool), (11, .int .i64), (12, .sl 0)], [some (.lst (.int .i64), 3)]⟩
def lo_55_5 : Exit → Live
  | .exit 0 => [(3, none), (4, none), (11, none), (12, none)]
  | _ => []
def B_55_5 {R : Type} (N : Nat) (rec : ((Int × Bool × Unit × Int × Unit × Int × Unit) × ((Int × (Int × (Int × (Int × (Int × (Int × (Int × (Int × Unit)))))))) × (List Int) × Unit)) → Option R) (x : ((Int × Bool × Unit × Int × Unit × Int × Unit) × ((Int × (Int × (Int × (Int × (Int × (Int × (Int × (Int × Unit)))))))) × (List Int) × Unit))) (κ0 : ((Int × Bool × Int × Unit × Unit) × ((List Int) × Unit)) → Option R) : Option R :=
let i275 : Int := x.1.1
let b276 : Bool := x.1.2.1
let i277 : Int := x.1.2.2.2.1
let i278 : Int := x.1.2.2.2.2.2.1
let i279 : Int := x.2.1.1
let i280 : Int := x.2.1.2.1
let i281 : Int := x.2.1.2.2.1
let i282 : Int := x.2.1.2.2.2.1
let i283 : Int := x.2.1.2.2.2.2.1
let i284 : Int := x.2.1.2.2.2.2.2.1
let i285 : Int := x.2.1.2.2.2.2.2.2.1
let i286 : Int := x.2.1.2.2.2.2.2.2.2.1
let l287 : (List Int) := x.2.2.1
let i288 : Int := subA .i64 i284 i285
bif (decide (i278 < i288)) then (
let i289 : Int := addA .i64 i277 i285
let i290 : Int := addA .i64 i289 i278
bif decide (i284 = 0) then none else (
let i291 : Int := remA .i64 i290 i284
let l292 : (List Int) := [i291]
bif (decide ((List.length l287 + List.length l292) * 8 ≤ 140737488355328) && true) then (
let l293 : (List Int) := (l287 ++ l292)
let i294 : Int := addA .i64 i278 1
rec ((i275, b276, (), i277, (), i294, ()), ((i279, (i280, (i281, (i282, (i283, (i284, (i285, (i286, ())))))))), l293, ()))) else none)) else (
κ0 ((i275, b276, i277, (), ()), (l287, ())))
def l_55_5 {R : Type} (N : Nat) : Nat → ((Int × Bool × Unit × Int × Unit × Int × Unit) × ((Int × (Int × (Int × (Int × (Int × (Int × (Int × (Int × Unit)))))))) × (List Int) × Unit)) → (((Int × Bool × Int × Unit × Unit) × ((List Int) × Unit)) → Option R) → Option R
  | 0, _, _ => none
  | n + 1, x, κ0 => B_55_5 N (fun y => l_55_5 N n y κ0) x κ0
def lv_55_9 : Live := [(3, none), (4, none), (11, none), (12, some (.int .i64, 3)), (14, none)]
def pt_55_9 : SPat := ⟨[(3, .int .i64), (4, .bool), (11, .int .i64), (12, .sl 0), (14, .int .i64)], [some (.lst (.int .i64), 3)]⟩
def px_55_9_0 : SPat := ⟨[(3, .int .i64), (4, .bool), (11, .int .i64), (12, .sl 0)], [some (.lst (.int .i64), 3)]⟩
def lo_55_9 : Exit → Live
  | .exit 2 => [(3, none), (4, none), (11, none), (12, none)]
  | _ => []
def B_55_9 {R : Type} (N : Nat) (rec : ((Int × Bool × Int × Unit × Int × Unit) × ((List Int) × Unit)) → Option R) (x : ((Int × Bool × Int × Unit × Int × Unit) × ((List Int) × Unit))) (κ0 : ((Int × Bool × Int × Unit × Unit) × ((List Int) × Unit)) → Option R) : Option R :=
let i327 : Int := x.1.1
let b328 : Bool := x.1.2.1
let i329 : Int := x.1.2.2.1
let i330 : Int := x.1.2.2.2.2.1
let l331 : (List Int) := x.2.1
bif (decide (i330 < i329)) then (
let l332 : (List Int) := [i330]
bif (decide ((List.length l331 + List.length l332) * 8 ≤ 140737488355328) && true) then (
let l333 : (List Int) := (l331 ++ l332)
let i334 : Int := addA .i64 i330 1
rec ((i327, b328, i329, (), i334, ()), (l333, ()))) else none) else (
κ0 ((i327, b328, i329, (), ()), (l331, ())))
def l_55_9 {R : Type} (N : Nat) : Nat → ((Int × Bool × Int × Unit × Int × Unit) × ((List Int) × Unit)) → (((Int × Bool × Int × Unit × Unit) × ((List Int) × Unit)) → Option R) → Option R
  | 0, _, _ => none
  | n + 1, x, κ0 => B_55_9 N (fun y => l_55_9 N n y κ0) x κ0
def lv_55_14 : Live := [(3, none), (4, none), (11, none), (12, none), (15, none)]
def pt_55_14 : SPat := ⟨[(3, .int .i64), (4, .bool), (11, .int .i64), (12, .sl 0), (15, .int .i64)], [some (.lst (.int .i64), 3)]⟩
def px_55_14_0 : SPat := ⟨[(3, .int .i64), (4, .bool), (12, .sl 0)], [some (.lst (.int .i64), 3)]⟩
def lo_55_14 : Exit → Live
  | .exit 4 => [(3, none), (4, none), (12, none)]
  | _ => []
def B_55_14 {R : Type} (N : Nat) (rec : ((Int × Bool × Int × Unit × Int × Unit) × ((List Int) × Unit)) → Option R) (x : ((Int × Bool × Int × Unit × Int × Unit) × ((List Int) × Unit))) (κ0 : ((Int × Bool × Unit × Unit) × ((List Int) × Unit)) → Option R) : Option R :=
let i340 : Int := x.1.1
let b341 : Bool := x.1.2.1
let i342 : Int := x.1.2.2.1
let i343 : Int := x.1.2.2.2.2.1
let l344 : (List Int) := x.2.1
bif (decide (i343 < i340)) then (
let i345 : Int := addA .i64 i342 i343
let l346 : (List Int) := [i345]
bif (decide ((List.length l344 + List.length l346) * 8 ≤ 140737488355328) && true) then (
let l347 : (List Int) := (l344 ++ l346)
let i348 : Int := addA .i64 i343 1
rec ((i340, b341, i342, (), i348, ()), (l347, ()))) else none) else (
κ0 ((i340, b341, (), ()), (l344, ())))
def l_55_14 {R : Type} (N : Nat) : Nat → ((Int × Bool × Int × Unit × Int × Unit) × ((List Int) × Unit)) → (((Int × Bool × Unit × Unit) × ((List Int) × Unit)) → Option R) → Option R
  | 0, _, _ => none
  | n + 1, x, κ0 => B_55_14 N (fun y => l_55_14 N n y κ0) x κ0
def ap_55 : List Pat := [.node (.fcons (.int .i64) (.fcons (.int .i64) (.fcons (.int .i64) (.fcons (.int .i64) (.fcons (.int .i64) (.fcons (.int .i64) (.fcons (.int .i64) (.fcons (.int .i64) (.fnil))))))))), .int .i64, .int .i64, .int .i64, .bool]
def hp_55 : List (Option (Pat × Nat)) := []
def p_55 {R : Type} (N : Nat) (x : ((Int × (Int × (Int × (Int × (Int × (Int × (Int × (Int × Unit)))))))) × Int × Int × Int × Bool × Unit) × (Unit)) (κ0 : (List Int) → Option R) : Option R :=
let i244 : Int := x.1.1.1
let i245 : Int := x.1.1.2.1
let i246 : Int := x.1.1.2.2.1
let i247 : Int := x.1.1.2.2.2.1
let i248 : Int := x.1.1.2.2.2.2.1
let i249 : Int := x.1.1.2.2.2.2.2.1
let i250 : Int := x.1.1.2.2.2.2.2.2.1
let i251 : Int := x.1.1.2.2.2.2.2.2.2.1
let i252 : Int := x.1.2.1
let i253 : Int := x.1.2.2.1
let i254 : Int := x.1.2.2.2.1
let b255 : Bool := x.1.2.2.2.2.1
let i256 : Int := mulA .i64 i253 i250
bif (decide (i252 > 0)) then (
l_55_5 N N ((i254, b255, (), i256, (), 0, ()), ((i244, (i245, (i246, (i247, (i248, (i249, (i250, (i251, ())))))))), [], ())) (fun y295 =>
let i296 : Int := y295.1.1
let b297 : Bool := y295.1.2.1
let i298 : Int := y295.1.2.2.1
let l299 : (List Int) := y295.2.1
bif b297 then (
l_55_14 N N ((i296, b297, i298, (), 0, ()), (l299, ())) (fun y309 =>
let i310 : Int := y309.1.1
let b311 : Bool := y309.1.2.1
let l312 : (List Int) := y309.2.1
bif b311 then (
let i313 : Int := (((List.length l312) : Nat) : Int)
let i314 : Int := subA .i64 i313 1
bif decide (0 ≤ i314) then (
bif decide (i314 ≤ (((List.length l312) : Nat) : Int)) then (
bif decide (0 ≤ i314) then (
κ0 ((List.take (((Int.toNat i314) - 0)) (List.drop 0 l312)))) else none) else none) else none) else (
bif (i310 == 0) then (
let i315 : Int := (((List.length l312) : Nat) : Int)
let i316 : Int := subA .i64 i315 1
bif decide (0 ≤ i316) then (
bif decide (i316 ≤ (((List.length l312) : Nat) : Int)) then (
bif decide (0 ≤ i316) then (
κ0 ((List.take (((Int.toNat i316) - 0)) (List.drop 0 l312)))) else none) else none) else none) else (
κ0 l312)))) else (
bif b297 then (
let i317 : Int := (((List.length l299) : Nat) : Int)
let i318 : Int := subA .i64 i317 1
bif decide (0 ≤ i318) then (
bif decide (i318 ≤ (((List.length l299) : Nat) : Int)) then (
bif decide (0 ≤ i318) then (
κ0 ((List.take (((Int.toNat i318) - 0)) (List.drop 0 l299)))) else none) else none) else none) else (
bif (i296 == 0) then (
let i319 : Int := (((List.length l299) : Nat) : Int)
let i320 : Int := subA .i64 i319 1
bif decide (0 ≤ i320) then (
bif decide (i320 ≤ (((List.length l299) : Nat) : Int)) then (
bif decide (0 ≤ i320) then (
κ0 ((List.take (((Int.toNat i320) - 0)) (List.drop 0 l299)))) else none) else none) else none) else (
κ0 l299))))) else (
l_55_9 N N ((i254, b255, i256, (), 0, ()), ([], ())) (fun y335 =>
let i336 : Int := y335.1.1
let b337 : Bool := y335.1.2.1
let i338 : Int := y335.1.2.2.1
let l339 : (List Int) := y335.2.1
bif b337 then (
l_55_14 N N ((i336, b337, i338, (), 0, ()), (l339, ())) (fun y349 =>
let i350 : Int := y349.1.1
let b351 : Bool := y349.1.2.1
let l352 : (List Int) := y349.2.1
bif b351 then (
let i353 : Int := (((List.length l352) : Nat) : Int)
let i354 : Int := subA .i64 i353 1
bif decide (0 ≤ i354) then (
bif decide (i354 ≤ (((List.length l352) : Nat) : Int)) then (
bif decide (0 ≤ i354) then (
κ0 ((List.take (((Int.toNat i354) - 0)) (List.drop 0 l352)))) else none) else none) else none) else (
bif (i350 == 0) then (
let i355 : Int := (((List.length l352) : Nat) : Int)
let i356 : Int := subA .i64 i355 1
bif decide (0 ≤ i356) then (
bif decide (i356 ≤ (((List.length l352) : Nat) : Int)) then (
bif decide (0 ≤ i356) then (
κ0 ((List.take (((Int.toNat i356) - 0)) (List.drop 0 l352)))) else none) else none) else none) else (
κ0 l352)))) else (
bif b337 then (
let i357 : Int := (((List.length l339) : Nat) : Int)
let i358 : Int := subA .i64 i357 1
bif decide (0 ≤ i358) then (
bif decide (i358 ≤ (((List.length l339) : Nat) : Int)) then (
bif decide (0 ≤ i358) then (
κ0 ((List.take (((Int.toNat i358) - 0)) (List.drop 0 l339)))) else none) else none) else none) else (
bif (i336 == 0) then (
let i359 : Int := (((List.length l339) : Nat) : Int)
let i360 : Int := subA .i64 i359 1
bif decide (0 ≤ i360) then (
bif decide (i360 ≤ (((List.length l339) : Nat) : Int)) then (
bif decide (0 ≤ i360) then (
κ0 ((List.take (((Int.toNat i360) - 0)) (List.drop 0 l339)))) else none) else none) else none) else (
κ0 l339)))))

def Q_55 {R : Type} (m_55_5 : ((Int × Bool × Unit × Int × Unit × Int × Unit) × ((Int × (Int × (Int × (Int × (Int × (Int × (Int × (Int × Unit)))))))) × (List Int) × Unit)) → (((Int × Bool × Int × Unit × Unit) × ((List Int) × Unit)) → Option R) → Option R) (m_55_14 : ((Int × Bool × Int × Unit × Int × Unit) × ((List Int) × Unit)) → (((Int × Bool × Unit × Unit) × ((List Int) × Unit)) → Option R) → Option R) (m_55_9 : ((Int × Bool × Int × Unit × Int × Unit) × ((List Int) × Unit)) → (((Int × Bool × Int × Unit × Unit) × ((List Int) × Unit)) → Option R) → Option R) (x : ((Int × (Int × (Int × (Int × (Int × (Int × (Int × (Int × Unit)))))))) × Int × Int × Int × Bool × Unit) × (Unit)) (κ0 : (List Int) → Option R) : Option R :=
let i244 : Int := x.1.1.1
let i245 : Int := x.1.1.2.1
let i246 : Int := x.1.1.2.2.1
let i247 : Int := x.1.1.2.2.2.1
let i248 : Int := x.1.1.2.2.2.2.1
let i249 : Int := x.1.1.2.2.2.2.2.1
let i250 : Int := x.1.1.2.2.2.2.2.2.1
let i251 : Int := x.1.1.2.2.2.2.2.2.2.1
let i252 : Int := x.1.2.1
let i253 : Int := x.1.2.2.1
let i254 : Int := x.1.2.2.2.1
let b255 : Bool := x.1.2.2.2.2.1
let i256 : Int := mulA .i64 i253 i250
bif (decide (i252 > 0)) then (
m_55_5 ((i254, b255, (), i256, (), 0, ()), ((i244, (i245, (i246, (i247, (i248, (i249, (i250, (i251, ())))))))), [], ())) (fun y295 =>
let i296 : Int := y295.1.1
let b297 : Bool := y295.1.2.1
let i298 : Int := y295.1.2.2.1
let l299 : (List Int) := y295.2.1
bif b297 then (
m_55_14 ((i296, b297, i298, (), 0, ()), (l299, ())) (fun y309 =>
let i310 : Int := y309.1.1
let b311 : Bool := y309.1.2.1
let l312 : (List Int) := y309.2.1
bif b311 then (
let i313 : Int := (((List.length l312) : Nat) : Int)
let i314 : Int := subA .i64 i313 1
bif decide (0 ≤ i314) then (
bif decide (i314 ≤ (((List.length l312) : Nat) : Int)) then (
bif decide (0 ≤ i314) then (
κ0 ((List.take (((Int.toNat i314) - 0)) (List.drop 0 l312)))) else none) else none) else none) else (
bif (i310 == 0) then (
let i315 : Int := (((List.length l312) : Nat) : Int)
let i316 : Int := subA .i64 i315 1
bif decide (0 ≤ i316) then (
bif decide (i316 ≤ (((List.length l312) : Nat) : Int)) then (
bif decide (0 ≤ i316) then (
κ0 ((List.take (((Int.toNat i316) - 0)) (List.drop 0 l312)))) else none) else none) else none) else (
κ0 l312)))) else (
bif b297 then (
let i317 : Int := (((List.length l299) : Nat) : Int)
let i318 : Int := subA .i64 i317 1
bif decide (0 ≤ i318) then (
bif decide (i318 ≤ (((List.length l299) : Nat) : Int)) then (
bif decide (0 ≤ i318) then (
κ0 ((List.take (((Int.toNat i318) - 0)) (List.drop 0 l299)))) else none) else none) else none) else (
bif (i296 == 0) then (
let i319 : Int := (((List.length l299) : Nat) : Int)
let i320 : Int := subA .i64 i319 1
bif decide (0 ≤ i320) then (
bif decide (i320 ≤ (((List.length l299) : Nat) : Int)) then (
bif decide (0 ≤ i320) then (
κ0 ((List.take (((Int.toNat i320) - 0)) (List.drop 0 l299)))) else none) else none) else none) else (
κ0 l299))))) else (
m_55_9 ((i254, b255, i256, (), 0, ()), ([], ())) (fun y335 =>
let i336 : Int := y335.1.1
let b337 : Bool := y335.1.2.1
let i338 : Int := y335.1.2.2.1
let l339 : (List Int) := y335.2.1
bif b337 then (
m_55_14 ((i336, b337, i338, (), 0, ()), (l339, ())) (fun y349 =>
let i350 : Int := y349.1.1
let b351 : Bool := y349.1.2.1
let l352 : (List Int) := y349.2.1
bif b351 then (
let i353 : Int := (((List.length l352) : Nat) : Int)
let i354 : Int := subA .i64 i353 1
bif decide (0 ≤ i354) then (
bif decide (i354 ≤ (((List.length l352) : Nat) : Int)) then (
bif decide (0 ≤ i354) then (
κ0 ((List.take (((Int.toNat i354) - 0)) (List.drop 0 l352)))) else none) else none) else none) else (
bif (i350 == 0) then (
let i355 : Int := (((List.length l352) : Nat) : Int)
let i356 : Int := subA .i64 i355 1
bif decide (0 ≤ i356) then (
bif decide (i356 ≤ (((List.length l352) : Nat) : Int)) then (
bif decide (0 ≤ i356) then (
κ0 ((List.take (((Int.toNat i356) - 0)) (List.drop 0 l352)))) else none) else none) else none) else (
κ0 l352)))) else (
bif b337 then (
let i357 : Int := (((List.length l339) : Nat) : Int)
let i358 : Int := subA .i64 i357 1
bif decide (0 ≤ i358) then (
bif decide (i358 ≤ (((List.length l339) : Nat) : Int)) then (
bif decide (0 ≤ i358) then (
κ0 ((List.take (((Int.toNat i358) - 0)) (List.drop 0 l339)))) else none) else none) else none) else (
bif (i336 == 0) then (
let i359 : Int := (((List.length l339) : Nat) : Int)
let i360 : Int := subA .i64 i359 1
bif decide (0 ≤ i360) then (
bif decide (i360 ≤ (((List.length l339) : Nat) : Int)) then (
bif decide (0 ≤ i360) then (
κ0 ((List.take (((Int.toNat i360) - 0)) (List.drop 0 l339)))) else none) else none) else none) else (
κ0 l339)))))
def C_55_5 {R : Type} (m_55_5 : ((Int × Bool × Unit × Int × Unit × Int × Unit) × ((Int × (Int × (Int × (Int × (Int × (Int × (Int × (Int × Unit)))))))) × (List Int) × Unit)) → (((Int × Bool × Int × Unit × Unit) × ((List Int) × Unit)) → Option R) → Option R) (m_55_14 : ((Int × Bool × Int × Unit × Int × Unit) × ((List Int) × Unit)) → (((Int × Bool × Unit × Unit) × ((List Int) × Unit)) → Option R) → Option R) (m_55_9 : ((Int × Bool × Int × Unit × Int × Unit) × ((List Int) × Unit)) → (((Int × Bool × Int × Unit × Unit) × ((List Int) × Unit)) → Option R) → Option R) (rec : ((Int × Bool × Unit × Int × Unit × Int × Unit) × ((Int × (Int × (Int × (Int × (Int × (Int × (Int × (Int × Unit)))))))) × (List Int) × Unit)) → Option R) (x : ((Int × Bool × Unit × Int × Unit × Int × Unit) × ((Int × (Int × (Int × (Int × (Int × (Int × (Int × (Int × Unit)))))))) × (List Int) × Unit))) (κ0 : ((Int × Bool × Int × Unit × Unit) × ((List Int) × Unit)) → Option R) : Option R :=
let i275 : Int := x.1.1
let b276 : Bool := x.1.2.1
let i277 : Int := x.1.2.2.2.1
let i278 : Int := x.1.2.2.2.2.2.1
let i279 : Int := x.2.1.1
let i280 : Int := x.2.1.2.1
let i281 : Int := x.2.1.2.2.1
let i282 : Int := x.2.1.2.2.2.1
let i283 : Int := x.2.1.2.2.2.2.1
let i284 : Int := x.2.1.2.2.2.2.2.1
let i285 : Int := x.2.1.2.2.2.2.2.2.1
let i286 : Int := x.2.1.2.2.2.2.2.2.2.1
let l287 : (List Int) := x.2.2.1
let i288 : Int := subA .i64 i284 i285
bif (decide (i278 < i288)) then (
let i289 : Int := addA .i64 i277 i285
let i290 : Int := addA .i64 i289 i278
bif decide (i284 = 0) then none else (
let i291 : Int := remA .i64 i290 i284
let l292 : (List Int) := [i291]
bif (decide ((List.length l287 + List.length l292) * 8 ≤ 140737488355328) && true) then (
let l293 : (List Int) := (l287 ++ l292)
let i294 : Int := addA .i64 i278 1
rec ((i275, b276, (), i277, (), i294, ()), ((i279, (i280, (i281, (i282, (i283, (i284, (i285, (i286, ())))))))), l293, ()))) else none)) else (
κ0 ((i275, b276, i277, (), ()), (l287, ())))
def C_55_14 {R : Type} (m_55_5 : ((Int × Bool × Unit × Int × Unit × Int × Unit) × ((Int × (Int × (Int × (Int × (Int × (Int × (Int × (Int × Unit)))))))) × (List Int) × Unit)) → (((Int × Bool × Int × Unit × Unit) × ((List Int) × Unit)) → Option R) → Option R) (m_55_14 : ((Int × Bool × Int × Unit × Int × Unit) × ((List Int) × Unit)) → (((Int × Bool × Unit × Unit) × ((List Int) × Unit)) → Option R) → Option R) (m_55_9 : ((Int × Bool × Int × Unit × Int × Unit) × ((List Int) × Unit)) → (((Int × Bool × Int × Unit × Unit) × ((List Int) × Unit)) → Option R) → Option R) (rec : ((Int × Bool × Int × Unit × Int × Unit) × ((List Int) × Unit)) → Option R) (x : ((Int × Bool × Int × Unit × Int × Unit) × ((List Int) × Unit))) (κ0 : ((Int × Bool × Unit × Unit) × ((List Int) × Unit)) → Option R) : Option R :=
let i340 : Int := x.1.1
let b341 : Bool := x.1.2.1
let i342 : Int := x.1.2.2.1
let i343 : Int := x.1.2.2.2.2.1
let l344 : (List Int) := x.2.1
bif (decide (i343 < i340)) then (
let i345 : Int := addA .i64 i342 i343
let l346 : (List Int) := [i345]
bif (decide ((List.length l344 + List.length l346) * 8 ≤ 140737488355328) && true) then (
let l347 : (List Int) := (l344 ++ l346)
let i348 : Int := addA .i64 i343 1
rec ((i340, b341, i342, (), i348, ()), (l347, ()))) else none) else (
κ0 ((i340, b341, (), ()), (l344, ())))
def C_55_9 {R : Type} (m_55_5 : ((Int × Bool × Unit × Int × Unit × Int × Unit) × ((Int × (Int × (Int × (Int × (Int × (Int × (Int × (Int × Unit)))))))) × (List Int) × Unit)) → (((Int × Bool × Int × Unit × Unit) × ((List Int) × Unit)) → Option R) → Option R) (m_55_14 : ((Int × Bool × Int × Unit × Int × Unit) × ((List Int) × Unit)) → (((Int × Bool × Unit × Unit) × ((List Int) × Unit)) → Option R) → Option R) (m_55_9 : ((Int × Bool × Int × Unit × Int × Unit) × ((List Int) × Unit)) → (((Int × Bool × Int × Unit × Unit) × ((List Int) × Unit)) → Option R) → Option R) (rec : ((Int × Bool × Int × Unit × Int × Unit) × ((List Int) × Unit)) → Option R) (x : ((Int × Bool × Int × Unit × Int × Unit) × ((List Int) × Unit))) (κ0 : ((Int × Bool × Int × Unit × Unit) × ((List Int) × Unit)) → Option R) : Option R :=
let i327 : Int := x.1.1
let b328 : Bool := x.1.2.1
let i329 : Int := x.1.2.2.1
let i330 : Int := x.1.2.2.2.2.1
let l331 : (List Int) := x.2.1
bif (decide (i330 < i329)) then (
let l332 : (List Int) := [i330]
bif (decide ((List.length l331 + List.length l332) * 8 ≤ 140737488355328) && true) then (
let l333 : (List Int) := (l331 ++ l332)
let i334 : Int := addA .i64 i330 1
rec ((i327, b328, i329, (), i334, ()), (l333, ()))) else none) else (
κ0 ((i327, b328, i329, (), ()), (l331, ())))
def EG_55 {R : Type} : Env R := Env.base QQ LN
def LG_55 {R : Type} (m_55_5 : ((Int × Bool × Unit × Int × Unit × Int × Unit) × ((Int × (Int × (Int × (Int × (Int × (Int × (Int × (Int × Unit)))))))) × (List Int) × Unit)) → (((Int × Bool × Int × Unit × Unit) × ((List Int) × Unit)) → Option R) → Option R) (m_55_14 : ((Int × Bool × Int × Unit × Int × Unit) × ((List Int) × Unit)) → (((Int × Bool × Unit × Unit) × ((List Int) × Unit)) → Option R) → Option R) (m_55_9 : ((Int × Bool × Int × Unit × Int × Unit) × ((List Int) × Unit)) → (((Int × Bool × Int × Unit × Unit) × ((List Int) × Unit)) → Option R) → Option R) : Loops R := (((Loops.none).add 5 (loopBy 0 lv_55_5 pt_55_5 (fun x k => m_55_5 x (fun y => k (.exit 0) (px_55_5_0.inst y))))).add 14 (loopBy 0 lv_55_14 pt_55_14 (fun x k => m_55_14 x (fun y => k (.exit 4) (px_55_14_0.inst y))))).add 9 (loopBy 0 lv_55_9 pt_55_9 (fun x k => m_55_9 x (fun y => k (.exit 2) (px_55_9_0.inst y))))
def E_55 {R : Type} (N : Nat) : Env R := EG_55
theorem eok_55 {R : Type} (N : Nat) : EK Try.prog (E_55 (R := R) N) := ek_base _ _
def L_55 {R : Type} (N : Nat) : Loops R := LG_55 (l_55_5 N N) (l_55_14 N N) (l_55_9 N N)
theorem gstep_55_5 {R : Type} (m_55_5 : ((Int × Bool × Unit × Int × Unit × Int × Unit) × ((Int × (Int × (Int × (Int × (Int × (Int × (Int × (Int × Unit)))))))) × (List Int) × Unit)) → (((Int × Bool × Int × Unit × Unit) × ((List Int) × Unit)) → Option R) → Option R) (m_55_14 : ((Int × Bool × Int × Unit × Int × Unit) × ((List Int) × Unit)) → (((Int × Bool × Unit × Unit) × ((List Int) × Unit)) → Option R) → Option R) (m_55_9 : ((Int × Bool × Int × Unit × Int × Unit) × ((List Int) × Unit)) → (((Int × Bool × Int × Unit × Unit) × ((List Int) × Unit)) → Option R) → Option R) (n : Nat) (x : pt_55_5.den) (k : Exit → St → Option R) : iter 0 lv_55_5 lo_55_5 (aexec TT (EG_55) (drawOk TT QQ) (LG_55 m_55_5 m_55_14 m_55_9) (loopAt 5 (bodyOf Try.f55))) (n + 1) (pt_55_5.inst x) k = C_55_5 m_55_5 m_55_14 m_55_9 (fun y => iter 0 lv_55_5 lo_55_5 (aexec TT (EG_55) (drawOk TT QQ) (LG_55 m_55_5 m_55_14 m_55_9) (loopAt 5 (bodyOf Try.f55))) n (pt_55_5.inst y) k) x (fun y => k (.exit 0) (px_55_5_0.inst y)) := by kernel_rfl
theorem step_55_5 {R : Type} (N n : Nat) (x : pt_55_5.den) (k : Exit → St → Option R) : iter 0 lv_55_5 lo_55_5 (aexec TT (E_55 (R := R) N) (drawOk TT QQ) (L_55 N) (loopAt 5 (bodyOf Try.f55))) (n + 1) (pt_55_5.inst x) k = B_55_5 N (fun y => iter 0 lv_55_5 lo_55_5 (aexec TT (E_55 (R := R) N) (drawOk TT QQ) (L_55 N) (loopAt 5 (bodyOf Try.f55))) n (pt_55_5.inst y) k) x (fun y => k (.exit 0) (px_55_5_0.inst y)) := (gstep_55_5 (l_55_5 N N) (l_55_14 N N) (l_55_9 N N) n x k).trans (by kernel_rfl)
theorem eq_55_5 {R : Type} (N : Nat) : ∀ (n : Nat) (x : pt_55_5.den) (k : Exit → St → Option R), iter 0 lv_55_5 lo_55_5 (aexec TT (E_55 (R := R) N) (drawOk TT QQ) (L_55 N) (loopAt 5 (bodyOf Try.f55))) n (pt_55_5.inst x) k = l_55_5 N n x (fun y => k (.exit 0) (px_55_5_0.inst y)) :=
  iter_eq (K := Exit → St → Option R) (ks := fun k => k) (l := fun n (x : pt_55_5.den) k => l_55_5 N n x (fun y => k (.exit 0) (px_55_5_0.inst y))) (B := fun (rec : pt_55_5.den → Option R) (x : pt_55_5.den) k => B_55_5 N rec x (fun y => k (.exit 0) (px_55_5_0.inst y))) (fun _ _ => rfl) (fun _ _ _ => rfl) (fun n x k => step_55_5 N n x k)
theorem rounds_55_5 {R : Type} (N : Nat) : Rounds 0 TT (E_55 (R := R) N) (drawOk TT QQ) (L_55 N) 5 (loopAt 5 (bodyOf Try.f55)) :=
  rounds_of (p := pt_55_5) (l := fun (x : pt_55_5.den) k => l_55_5 N N x (fun y => k (.exit 0) (px_55_5_0.inst y))) (fun s k => rfl) (fun x k => eq_55_5 N N x k)
theorem gstep_55_14 {R : Type} (m_55_5 : ((Int × Bool × Unit × Int × Unit × Int × Unit) × ((Int × (Int × (Int × (Int × (Int × (Int × (Int × (Int × Unit)))))))) × (List Int) × Unit)) → (((Int × Bool × Int × Unit × Unit) × ((List Int) × Unit)) → Option R) → Option R) (m_55_14 : ((Int × Bool × Int × Unit × Int × Unit) × ((List Int) × Unit)) → (((Int × Bool × Unit × Unit) × ((List Int) × Unit)) → Option R) → Option R) (m_55_9 : ((Int × Bool × Int × Unit × Int × Unit) × ((List Int) × Unit)) → (((Int × Bool × Int × Unit × Unit) × ((List Int) × Unit)) → Option R) → Option R) (n : Nat) (x : pt_55_14.den) (k : Exit → St → Option R) : iter 0 lv_55_14 lo_55_14 (aexec TT (EG_55) (drawOk TT QQ) (LG_55 m_55_5 m_55_14 m_55_9) (loopAt 14 (bodyOf Try.f55))) (n + 1) (pt_55_14.inst x) k = C_55_14 m_55_5 m_55_14 m_55_9 (fun y => iter 0 lv_55_14 lo_55_14 (aexec TT (EG_55) (drawOk TT QQ) (LG_55 m_55_5 m_55_14 m_55_9) (loopAt 14 (bodyOf Try.f55))) n (pt_55_14.inst y) k) x (fun y => k (.exit 4) (px_55_14_0.inst y)) := by kernel_rfl
theorem step_55_14 {R : Type} (N n : Nat) (x : pt_55_14.den) (k : Exit → St → Option R) : iter 0 lv_55_14 lo_55_14 (aexec TT (E_55 (R := R) N) (drawOk TT QQ) (L_55 N) (loopAt 14 (bodyOf Try.f55))) (n + 1) (pt_55_14.inst x) k = B_55_14 N (fun y => iter 0 lv_55_14 lo_55_14 (aexec TT (E_55 (R := R) N) (drawOk TT QQ) (L_55 N) (loopAt 14 (bodyOf Try.f55))) n (pt_55_14.inst y) k) x (fun y => k (.exit 4) (px_55_14_0.inst y)) := (gstep_55_14 (l_55_5 N N) (l_55_14 N N) (l_55_9 N N) n x k).trans (by kernel_rfl)
theorem eq_55_14 {R : Type} (N : Nat) : ∀ (n : Nat) (x : pt_55_14.den) (k : Exit → St → Option R), iter 0 lv_55_14 lo_55_14 (aexec TT (E_55 (R := R) N) (drawOk TT QQ) (L_55 N) (loopAt 14 (bodyOf Try.f55))) n (pt_55_14.inst x) k = l_55_14 N n x (fun y => k (.exit 4) (px_55_14_0.inst y)) :=
  iter_eq (K := Exit → St → Option R) (ks := fun k => k) (l := fun n (x : pt_55_14.den) k => l_55_14 N n x (fun y => k (.exit 4) (px_55_14_0.inst y))) (B := fun (rec : pt_55_14.den → Option R) (x : pt_55_14.den) k => B_55_14 N rec x (fun y => k (.exit 4) (px_55_14_0.inst y))) (fun _ _ => rfl) (fun _ _ _ => rfl) (fun n x k => step_55_14 N n x k)
theorem rounds_55_14 {R : Type} (N : Nat) : Rounds 0 TT (E_55 (R := R) N) (drawOk TT QQ) (L_55 N) 14 (loopAt 14 (bodyOf Try.f55)) :=
  rounds_of (p := pt_55_14) (l := fun (x : pt_55_14.den) k => l_55_14 N N x (fun y => k (.exit 4) (px_55_14_0.inst y))) (fun s k => rfl) (fun x k => eq_55_14 N N x k)
theorem gstep_55_9 {R : Type} (m_55_5 : ((Int × Bool × Unit × Int × Unit × Int × Unit) × ((Int × (Int × (Int × (Int × (Int × (Int × (Int × (Int × Unit)))))))) × (List Int) × Unit)) → (((Int × Bool × Int × Unit × Unit) × ((List Int) × Unit)) → Option R) → Option R) (m_55_14 : ((Int × Bool × Int × Unit × Int × Unit) × ((List Int) × Unit)) → (((Int × Bool × Unit × Unit) × ((List Int) × Unit)) → Option R) → Option R) (m_55_9 : ((Int × Bool × Int × Unit × Int × Unit) × ((List Int) × Unit)) → (((Int × Bool × Int × Unit × Unit) × ((List Int) × Unit)) → Option R) → Option R) (n : Nat) (x : pt_55_9.den) (k : Exit → St → Option R) : iter 0 lv_55_9 lo_55_9 (aexec TT (EG_55) (drawOk TT QQ) (LG_55 m_55_5 m_55_14 m_55_9) (loopAt 9 (bodyOf Try.f55))) (n + 1) (pt_55_9.inst x) k = C_55_9 m_55_5 m_55_14 m_55_9 (fun y => iter 0 lv_55_9 lo_55_9 (aexec TT (EG_55) (drawOk TT QQ) (LG_55 m_55_5 m_55_14 m_55_9) (loopAt 9 (bodyOf Try.f55))) n (pt_55_9.inst y) k) x (fun y => k (.exit 2) (px_55_9_0.inst y)) := by kernel_rfl
theorem step_55_9 {R : Type} (N n : Nat) (x : pt_55_9.den) (k : Exit → St → Option R) : iter 0 lv_55_9 lo_55_9 (aexec TT (E_55 (R := R) N) (drawOk TT QQ) (L_55 N) (loopAt 9 (bodyOf Try.f55))) (n + 1) (pt_55_9.inst x) k = B_55_9 N (fun y => iter 0 lv_55_9 lo_55_9 (aexec TT (E_55 (R := R) N) (drawOk TT QQ) (L_55 N) (loopAt 9 (bodyOf Try.f55))) n (pt_55_9.inst y) k) x (fun y => k (.exit 2) (px_55_9_0.inst y)) := (gstep_55_9 (l_55_5 N N) (l_55_14 N N) (l_55_9 N N) n x k).trans (by kernel_rfl)
theorem eq_55_9 {R : Type} (N : Nat) : ∀ (n : Nat) (x : pt_55_9.den) (k : Exit → St → Option R), iter 0 lv_55_9 lo_55_9 (aexec TT (E_55 (R := R) N) (drawOk TT QQ) (L_55 N) (loopAt 9 (bodyOf Try.f55))) n (pt_55_9.inst x) k = l_55_9 N n x (fun y => k (.exit 2) (px_55_9_0.inst y)) :=
  iter_eq (K := Exit → St → Option R) (ks := fun k => k) (l := fun n (x : pt_55_9.den) k => l_55_9 N n x (fun y => k (.exit 2) (px_55_9_0.inst y))) (B := fun (rec : pt_55_9.den → Option R) (x : pt_55_9.den) k => B_55_9 N rec x (fun y => k (.exit 2) (px_55_9_0.inst y))) (fun _ _ => rfl) (fun _ _ _ => rfl) (fun n x k => step_55_9 N n x k)
theorem rounds_55_9 {R : Type} (N : Nat) : Rounds 0 TT (E_55 (R := R) N) (drawOk TT QQ) (L_55 N) 9 (loopAt 9 (bodyOf Try.f55)) :=
  rounds_of (p := pt_55_9) (l := fun (x : pt_55_9.den) k => l_55_9 N N x (fun y => k (.exit 2) (px_55_9_0.inst y))) (fun s k => rfl) (fun x k => eq_55_9 N N x k)
theorem loops_55 : loopsIn (bodyOf Try.f55) = [(5, loopAt 5 (bodyOf Try.f55)), (9, loopAt 9 (bodyOf Try.f55)), (14, loopAt 14 (bodyOf Try.f55))] := by kernel_rfl
theorem lok_55 {R : Type} (N : Nat) : LOK 0 TT (E_55 (R := R) N) (drawOk TT QQ) (L_55 N) (bodyOf Try.f55) := loops_all loops_55 (by
  simp only [List.forall_mem_cons, List.not_mem_nil, false_implies, implies_true, and_true]
  exact ⟨rounds_55_5 N, rounds_55_9 N, rounds_55_14 N⟩)
theorem grun_55 {R : Type} (m_55_5 : ((Int × Bool × Unit × Int × Unit × Int × Unit) × ((Int × (Int × (Int × (Int × (Int × (Int × (Int × (Int × Unit)))))))) × (List Int) × Unit)) → (((Int × Bool × Int × Unit × Unit) × ((List Int) × Unit)) → Option R) → Option R) (m_55_14 : ((Int × Bool × Int × Unit × Int × Unit) × ((List Int) × Unit)) → (((Int × Bool × Unit × Unit) × ((List Int) × Unit)) → Option R) → Option R) (m_55_9 : ((Int × Bool × Int × Unit × Int × Unit) × ((List Int) × Unit)) → (((Int × Bool × Int × Unit × Unit) × ((List Int) × Unit)) → Option R) → Option R) (x : aden ap_55 × hden hp_55) (k : KF R) : fnrun TT (EG_55) (drawOk TT QQ) (LG_55 m_55_5 m_55_14 m_55_9) true Try.f55 (instA ap_55 x.1) (instH hp_55 x.2) k = Q_55 m_55_5 m_55_14 m_55_9 x (fun y => k (Pat.inst (.ros (.int .i64)) y) (instH hp_55 x.2)) := by kernel_rfl
theorem run_55 {R : Type} (N : Nat) (x : aden ap_55 × hden hp_55) (k : KF R) : fnrun TT (E_55 (R := R) N) (drawOk TT QQ) (L_55 N) true Try.f55 (instA ap_55 x.1) (instH hp_55 x.2) k = p_55 N x (fun y => k (Pat.inst (.ros (.int .i64)) y) (instH hp_55 x.2)) := (grun_55 (l_55_5 N N) (l_55_14 N N) (l_55_9 N N) x k).trans (by kernel_rfl)
theorem good_55 {R : Type} (N : Nat) : GD (X := R) Try.prog QQ 55 ap_55 hp_55 (fun (x : aden ap_55 × hden hp_55) k => p_55 N x (fun y => k (Pat.inst (.ros (.int .i64)) y) (instH hp_55 x.2))) :=
  gd_quiet (E := E_55 N) (p := fun (x : aden ap_55 × hden hp_55) κ => p_55 N x (fun y => κ (Pat.inst (.ros (.int .i64)) y))) mixed tyok (eok_55 N) Try.func55 (by kernel_rfl) (by kernel_rfl) (lok_55 N) (fun x k => run_55 N x k)

def ap_24 : List Pat := [.int .i64, .int .u32]
def hp_24 : List (Option (Pat × Nat)) := []
def p_24 {R : Type} (N : Nat) (x : (Int × Int × Unit) × (Unit)) (κ0 : Int → Option R) : Option R :=
let i364 : Int := x.1.1
let i365 : Int := x.1.2.1
let i366 : Int := IntKind.wrap .u64 i365
let i367 : Int := IntKind.wrap .u64 i365
let i368 : Int := mulA .u64 i366 i367
let i369 : Int := quoA .u64 i368 4294967296
let i370 : Int := IntKind.wrap .u64 i364
let i371 : Int := mulA .u64 i370 i369
let i372 : Int := quoA .u64 i371 4294967296
let i373 : Int := subA .i64 i364 1
let i374 : Int := IntKind.wrap .i64 i372
let i375 : Int := subA .i64 i373 i374
κ0 i375

def Q_24 {R : Type} (x : (Int × Int × Unit) × (Unit)) (κ0 : Int → Option R) : Option R :=
let i364 : Int := x.1.1
let i365 : Int := x.1.2.1
let i366 : Int := IntKind.wrap .u64 i365
let i367 : Int := IntKind.wrap .u64 i365
let i368 : Int := mulA .u64 i366 i367
let i369 : Int := quoA .u64 i368 4294967296
let i370 : Int := IntKind.wrap .u64 i364
let i371 : Int := mulA .u64 i370 i369
let i372 : Int := quoA .u64 i371 4294967296
let i373 : Int := subA .i64 i364 1
let i374 : Int := IntKind.wrap .i64 i372
let i375 : Int := subA .i64 i373 i374
κ0 i375
def EG_24 {R : Type} : Env R := Env.base QQ LN
def LG_24 {R : Type} : Loops R := Loops.none
def E_24 {R : Type} (N : Nat) : Env R := EG_24
theorem eok_24 {R : Type} (N : Nat) : EK Try.prog (E_24 (R := R) N) := ek_base _ _
def L_24 {R : Type} (N : Nat) : Loops R := LG_24
theorem lok_24 {R : Type} (N : Nat) : LOK 0 TT (E_24 (R := R) N) (drawOk TT QQ) (L_24 N) (bodyOf Try.f24) := loops_nil (by kernel_rfl)
theorem grun_24 {R : Type} (x : aden ap_24 × hden hp_24) (k : KF R) : fnrun TT (EG_24) (drawOk TT QQ) (LG_24) true Try.f24 (instA ap_24 x.1) (instH hp_24 x.2) k = Q_24 x (fun y => k (Pat.inst (.int .i64) y) (instH hp_24 x.2)) := by kernel_rfl
theorem run_24 {R : Type} (N : Nat) (x : aden ap_24 × hden hp_24) (k : KF R) : fnrun TT (E_24 (R := R) N) (drawOk TT QQ) (L_24 N) true Try.f24 (instA ap_24 x.1) (instH hp_24 x.2) k = p_24 N x (fun y => k (Pat.inst (.int .i64) y) (instH hp_24 x.2)) := (grun_24 x k).trans (by kernel_rfl)
theorem good_24 {R : Type} (N : Nat) : GD (X := R) Try.prog QQ 24 ap_24 hp_24 (fun (x : aden ap_24 × hden hp_24) k => p_24 N x (fun y => k (Pat.inst (.int .i64) y) (instH hp_24 x.2))) :=
  gd_quiet (E := E_24 N) (p := fun (x : aden ap_24 × hden hp_24) κ => p_24 N x (fun y => κ (Pat.inst (.int .i64) y))) mixed tyok (eok_24 N) Try.func24 (by kernel_rfl) (by kernel_rfl) (lok_24 N) (fun x k => run_24 N x k)

def ap_54 : List Pat := [.node (.fcons (.int .i64) (.fcons (.int .i64) (.fcons (.int .i64) (.fcons (.int .i64) (.fcons (.int .i64) (.fcons (.int .i64) (.fcons (.int .i64) (.fcons (.int .i64) (.fnil))))))))), .int .i64, .int .i64, .int .i64, .int .i64, .int .u32, .int .u32]
def hp_54 : List (Option (Pat × Nat)) := []
def p_54 {R : Type} (N : Nat) (x : ((Int × (Int × (Int × (Int × (Int × (Int × (Int × (Int × Unit)))))))) × Int × Int × Int × Int × Int × Int × Unit) × (Unit)) (κ0 : ((Int × (Int × Unit)) × (Unit)) → Option R) : Option R :=
let i228 : Int := x.1.1.1
let i229 : Int := x.1.1.2.1
let i230 : Int := x.1.1.2.2.1
let i231 : Int := x.1.1.2.2.2.1
let i232 : Int := x.1.1.2.2.2.2.1
let i233 : Int := x.1.1.2.2.2.2.2.1
let i234 : Int := x.1.1.2.2.2.2.2.2.1
let i235 : Int := x.1.1.2.2.2.2.2.2.2.1
let i236 : Int := x.1.2.1
let i237 : Int := x.1.2.2.1
let i238 : Int := x.1.2.2.2.1
let i239 : Int := x.1.2.2.2.2.1
let i240 : Int := x.1.2.2.2.2.2.1
let i241 : Int := x.1.2.2.2.2.2.2.1
let i242 : Int := IntKind.wrap .i64 i241
bif decide (i230 = 0) then none else (
let i243 : Int := remA .i64 i242 i230
bif (i236 == 0) then (
bif (i237 == 0) then (
p_55 N (((i228, (i229, (i230, (i231, (i232, (i233, (i234, (i235, ())))))))), i236, i237, i239, (i238 == i238), ()), ()) (fun y361 =>
let l362 : (List Int) := y361
let i363 : Int := (((List.length l362) : Nat) : Int)
p_24 N ((i363, i240, ()), ()) (fun y376 =>
let i377 : Int := y376
bif decide (0 ≤ i377) then (
bif decide (i377 < ((List.length l362) : Int)) then (
let p378 : Int := (List.getD l362 ((Int.toNat i377)) (Sch.zero (.int .i64)))
κ0 ((i238, (p378, ())), ())) else none) else none))) else (
p_55 N (((i228, (i229, (i230, (i231, (i232, (i233, (i234, (i235, ())))))))), i236, i237, i239, (i243 == i238), ()), ()) (fun y379 =>
let l380 : (List Int) := y379
let i381 : Int := (((List.length l380) : Nat) : Int)
p_24 N ((i381, i240, ()), ()) (fun y382 =>
let i383 : Int := y382
bif decide (0 ≤ i383) then (
bif decide (i383 < ((List.length l380) : Int)) then (
let p384 : Int := (List.getD l380 ((Int.toNat i383)) (Sch.zero (.int .i64)))
κ0 ((i243, (p384, ())), ())) else none) else none)))) else (
p_55 N (((i228, (i229, (i230, (i231, (i232, (i233, (i234, (i235, ())))))))), i236, i237, i239, (i243 == i238), ()), ()) (fun y385 =>
let l386 : (List Int) := y385
let i387 : Int := (((List.length l386) : Nat) : Int)
p_24 N ((i387, i240, ()), ()) (fun y388 =>
let i389 : Int := y388
bif decide (0 ≤ i389) then (
bif decide (i389 < ((List.length l386) : Int)) then (
let p390 : Int := (List.getD l386 ((Int.toNat i389)) (Sch.zero (.int .i64)))
κ0 ((i243, (p390, ())), ())) else none) else none))))

def Q_54 {R : Type} (q_55 : ((Int × (Int × (Int × (Int × (Int × (Int × (Int × (Int × Unit)))))))) × Int × Int × Int × Bool × Unit) × (Unit) → ((List Int) → Option R) → Option R) (q_24 : (Int × Int × Unit) × (Unit) → (Int → Option R) → Option R) (x : ((Int × (Int × (Int × (Int × (Int × (Int × (Int × (Int × Unit)))))))) × Int × Int × Int × Int × Int × Int × Unit) × (Unit)) (κ0 : ((Int × (Int × Unit)) × (Unit)) → Option R) : Option R :=
let i228 : Int := x.1.1.1
let i229 : Int := x.1.1.2.1
let i230 : Int := x.1.1.2.2.1
let i231 : Int := x.1.1.2.2.2.1
let i232 : Int := x.1.1.2.2.2.2.1
let i233 : Int := x.1.1.2.2.2.2.2.1
let i234 : Int := x.1.1.2.2.2.2.2.2.1
let i235 : Int := x.1.1.2.2.2.2.2.2.2.1
let i236 : Int := x.1.2.1
let i237 : Int := x.1.2.2.1
let i238 : Int := x.1.2.2.2.1
let i239 : Int := x.1.2.2.2.2.1
let i240 : Int := x.1.2.2.2.2.2.1
let i241 : Int := x.1.2.2.2.2.2.2.1
let i242 : Int := IntKind.wrap .i64 i241
bif decide (i230 = 0) then none else (
let i243 : Int := remA .i64 i242 i230
bif (i236 == 0) then (
bif (i237 == 0) then (
q_55 (((i228, (i229, (i230, (i231, (i232, (i233, (i234, (i235, ())))))))), i236, i237, i239, (i238 == i238), ()), ()) (fun y361 =>
let l362 : (List Int) := y361
let i363 : Int := (((List.length l362) : Nat) : Int)
q_24 ((i363, i240, ()), ()) (fun y376 =>
let i377 : Int := y376
bif decide (0 ≤ i377) then (
bif decide (i377 < ((List.length l362) : Int)) then (
let p378 : Int := (List.getD l362 ((Int.toNat i377)) (Sch.zero (.int .i64)))
κ0 ((i238, (p378, ())), ())) else none) else none))) else (
q_55 (((i228, (i229, (i230, (i231, (i232, (i233, (i234, (i235, ())))))))), i236, i237, i239, (i243 == i238), ()), ()) (fun y379 =>
let l380 : (List Int) := y379
let i381 : Int := (((List.length l380) : Nat) : Int)
q_24 ((i381, i240, ()), ()) (fun y382 =>
let i383 : Int := y382
bif decide (0 ≤ i383) then (
bif decide (i383 < ((List.length l380) : Int)) then (
let p384 : Int := (List.getD l380 ((Int.toNat i383)) (Sch.zero (.int .i64)))
κ0 ((i243, (p384, ())), ())) else none) else none)))) else (
q_55 (((i228, (i229, (i230, (i231, (i232, (i233, (i234, (i235, ())))))))), i236, i237, i239, (i243 == i238), ()), ()) (fun y385 =>
let l386 : (List Int) := y385
let i387 : Int := (((List.length l386) : Nat) : Int)
q_24 ((i387, i240, ()), ()) (fun y388 =>
let i389 : Int := y388
bif decide (0 ≤ i389) then (
bif decide (i389 < ((List.length l386) : Int)) then (
let p390 : Int := (List.getD l386 ((Int.toNat i389)) (Sch.zero (.int .i64)))
κ0 ((i243, (p390, ())), ())) else none) else none))))
def EG_54 {R : Type} (q_55 : ((Int × (Int × (Int × (Int × (Int × (Int × (Int × (Int × Unit)))))))) × Int × Int × Int × Bool × Unit) × (Unit) → ((List Int) → Option R) → Option R) (q_24 : (Int × Int × Unit) × (Unit) → (Int → Option R) → Option R) : Env R := ((Env.base QQ LN).add 55 ap_55 hp_55 (fun (x : aden ap_55 × hden hp_55) k => q_55 x (fun y => k (Pat.inst (.ros (.int .i64)) y) (instH hp_55 x.2)))).add 24 ap_24 hp_24 (fun (x : aden ap_24 × hden hp_24) k => q_24 x (fun y => k (Pat.inst (.int .i64) y) (instH hp_24 x.2)))
def LG_54 {R : Type} : Loops R := Loops.none
def E_54 {R : Type} (N : Nat) : Env R := EG_54 (p_55 N) (p_24 N)
theorem eok_54 {R : Type} (N : Nat) : EK Try.prog (E_54 (R := R) N) := ek_add (ek_add (ek_base _ _) (good_55 N)) (good_24 N)
def L_54 {R : Type} (N : Nat) : Loops R := LG_54
theorem lok_54 {R : Type} (N : Nat) : LOK 0 TT (E_54 (R := R) N) (drawOk TT QQ) (L_54 N) (bodyOf Try.f54) := loops_nil (by kernel_rfl)
theorem grun_54 {R : Type} (q_55 : ((Int × (Int × (Int × (Int × (Int × (Int × (Int × (Int × Unit)))))))) × Int × Int × Int × Bool × Unit) × (Unit) → ((List Int) → Option R) → Option R) (q_24 : (Int × Int × Unit) × (Unit) → (Int → Option R) → Option R) (x : aden ap_54 × hden hp_54) (k : KF R) : fnrun TT (EG_54 q_55 q_24) (drawOk TT QQ) (LG_54) true Try.f54 (instA ap_54 x.1) (instH hp_54 x.2) k = Q_54 q_55 q_24 x (fun y => k (Pat.inst (.tup (.fcons (.int .i64) (.fcons (.int .i64) (.fnil)))) y.1) (instH [] y.2)) := by kernel_rfl
theorem run_54 {R : Type} (N : Nat) (x : aden ap_54 × hden hp_54) (k : KF R) : fnrun TT (E_54 (R := R) N) (drawOk TT QQ) (L_54 N) true Try.f54 (instA ap_54 x.1) (instH hp_54 x.2) k = p_54 N x (fun y => k (Pat.inst (.tup (.fcons (.int .i64) (.fcons (.int .i64) (.fnil)))) y.1) (instH [] y.2)) := (grun_54 (p_55 N) (p_24 N) x k).trans (by kernel_rfl)
theorem good_54 {R : Type} (N : Nat) : GD (X := R) Try.prog QQ 54 ap_54 hp_54 (fun (x : aden ap_54 × hden hp_54) k => p_54 N x (fun y => k (Pat.inst (.tup (.fcons (.int .i64) (.fcons (.int .i64) (.fnil)))) y.1) (instH [] y.2))) :=
  gd_loud (E := E_54 N) (p := fun (x : aden ap_54 × hden hp_54) k => p_54 N x (fun y => k (Pat.inst (.tup (.fcons (.int .i64) (.fcons (.int .i64) (.fnil)))) y.1) (instH [] y.2))) mixed tyok (eok_54 N) Try.func54 (by kernel_rfl) (by kernel_rfl) (by kernel_rfl) (lok_54 N) (fun x k => run_54 N x k)

def ap_12 : List Pat := [.node (.fcons (.int .i64) (.fcons (.int .i64) (.fcons (.int .i64) (.fcons (.int .i64) (.fcons (.int .i64) (.fnil)))))), .node (.fcons (.int .i64) (.fcons (.int .i64) (.fnil))), .int .i64, .int .i64, .int .u32, .int .u32]
def hp_12 : List (Option (Pat × Nat)) := []
def p_12 {R : Type} (N : Nat) (x : ((Int × (Int × (Int × (Int × (Int × Unit))))) × (Int × (Int × Unit)) × Int × Int × Int × Int × Unit) × (Unit)) (κ0 : (Bool × (Unit)) → Option R) : Option R :=
let i1 : Int := x.1.1.1
let i2 : Int := x.1.1.2.1
let i3 : Int := x.1.1.2.2.1
let i4 : Int := x.1.1.2.2.2.1
let i5 : Int := x.1.1.2.2.2.2.1
let i6 : Int := x.1.2.1.1
let i7 : Int := x.1.2.1.2.1
let i8 : Int := x.1.2.2.1
let i9 : Int := x.1.2.2.2.1
let i10 : Int := x.1.2.2.2.2.1
let i11 : Int := x.1.2.2.2.2.2.1
p_22 N ((), ()) (fun y51 =>
let b52 : Bool := y51.1
bif (!b52) then (
κ0 (false, ())) else (
p_26 N (((i1, (i2, (i3, (i4, (i5, ()))))), ()), ()) (fun y85 =>
let i86 : Int := y85.1.1.1
let i87 : Int := y85.1.1.2.1
let i88 : Int := y85.1.1.2.2.1
let i89 : Int := y85.1.1.2.2.2.1
let i90 : Int := y85.1.1.2.2.2.2.1
let i91 : Int := y85.1.1.2.2.2.2.2.1
let i92 : Int := y85.1.1.2.2.2.2.2.2.1
let i93 : Int := y85.1.1.2.2.2.2.2.2.2.1
let i94 : Int := y85.1.2.1
bif (decide (i91 > 400)) then (
κ0 (true, ())) else (
p_52 N (((i86, (i87, (i88, (i89, (i90, (i91, (i92, (i93, ())))))))), (i6, (i7, ())), i8, i9, i10, i11, ()), ()) (fun y206 =>
let i207 : Int := y206.1.1.1
let i208 : Int := y206.1.1.2.1
let i209 : Int := y206.1.2.1
p_53 N (((i86, (i87, (i88, (i89, (i90, (i91, (i92, (i93, ())))))))), i6, i7, i8, i9, ()), ()) (fun y226 =>
let b227 : Bool := y226.1
bif (!b227) then (
bif (i209 == 11) then (
κ0 ((schEq (.stru (.fcons (.int .i64) (.fcons (.int .i64) (.fnil)))) ((i207, (i208, ()))) ((0, (0, ())))), ())) else (
κ0 (false, ()))) else (
p_54 N (((i86, (i87, (i88, (i89, (i90, (i91, (i92, (i93, ())))))))), i6, i7, i8, i9, i10, i11, ()), ()) (fun y391 =>
let i392 : Int := y391.1.1
let i393 : Int := y391.1.2.1
p_55 N (((i86, (i87, (i88, (i89, (i90, (i91, (i92, (i93, ())))))))), i6, i7, i9, true, ()), ()) (fun y394 =>
let l395 : (List Int) := y394
let i396 : Int := (((List.length l395) : Nat) : Int)
p_55 N (((i86, (i87, (i88, (i89, (i90, (i91, (i92, (i93, ())))))))), i6, i7, i9, false, ()), ()) (fun y397 =>
let l398 : (List Int) := y397
let i399 : Int := (((List.length l398) : Nat) : Int)
p_56 N (((i86, (i87, (i88, (i89, (i90, (i91, (i92, (i93, ())))))))), (i6, (i7, ())), i9, true, ()), ()) (fun y400 =>
let i401 : Int := y400
bif (i401 != i396) then (
κ0 (false, ())) else (
p_57 N (((i86, (i87, (i88, (i89, (i90, (i91, (i92, (i93, ())))))))), (i6, (i7, ())), i8, i11, ()), ()) (fun y402 =>
let i403 : Int := y402
bif (i403 != i392) then (
κ0 (false, ())) else (
p_58 N (((i86, (i87, (i88, (i89, (i90, (i91, (i92, (i93, ())))))))), (i6, (i7, ())), ()), ()) (fun y404 =>
let i405 : Int := y404
p_55 N (((i86, (i87, (i88, (i89, (i90, (i91, (i92, (i93, ())))))))), i6, i7, i9, true, ()), ()) (fun y406 =>
let l407 : (List Int) := y406
bif decide (0 < ((List.length l407) : Int)) then (
let p408 : Int := (List.getD l407 0 (Sch.zero (.int .i64)))
bif (i405 != p408) then (
κ0 (false, ())) else (
bif (i6 == 0) then (
bif (i209 == 0) then (
bif (schEq (.stru (.fcons (.int .i64) (.fcons (.int .i64) (.fnil)))) ((i207, (i208, ()))) ((i392, (i393, ())))) then (
bif (i7 == 0) then (
κ0 (true, ())) else (
p_56 N (((i86, (i87, (i88, (i89, (i90, (i91, (i92, (i93, ())))))))), (i6, (i7, ())), i9, false, ()), ()) (fun y409 =>
let i410 : Int := y409
κ0 ((i410 == i399), ())))) else (
κ0 (false, ()))) else (
κ0 (false, ()))) else (
bif (i209 == 0) then (
bif (schEq (.stru (.fcons (.int .i64) (.fcons (.int .i64) (.fnil)))) ((i207, (i208, ()))) ((i392, (i393, ())))) then (
p_56 N (((i86, (i87, (i88, (i89, (i90, (i91, (i92, (i93, ())))))))), (i6, (i7, ())), i9, false, ()), ()) (fun y411 =>
let i412 : Int := y411
κ0 ((i412 == i399), ()))) else (
κ0 (false, ()))) else (
κ0 (false, ()))))) else none))))))))))))))))

def Q_12 {R : Type} (q_22 : (Unit) × (Unit) → ((Bool × (Unit)) → Option R) → Option R) (q_26 : ((Int × (Int × (Int × (Int × (Int × Unit))))) × Unit) × (Unit) → ((((Int × (Int × (Int × (Int × (Int × (Int × (Int × (Int × Unit)))))))) × (Int × Unit)) × (Unit)) → Option R) → Option R) (q_52 : ((Int × (Int × (Int × (Int × (Int × (Int × (Int × (Int × Unit)))))))) × (Int × (Int × Unit)) × Int × Int × Int × Int × Unit) × (Unit) → ((((Int × (Int × Unit)) × (Int × Unit)) × (Unit)) → Option R) → Option R) (q_53 : ((Int × (Int × (Int × (Int × (Int × (Int × (Int × (Int × Unit)))))))) × Int × Int × Int × Int × Unit) × (Unit) → ((Bool × (Unit)) → Option R) → Option R) (q_54 : ((Int × (Int × (Int × (Int × (Int × (Int × (Int × (Int × Unit)))))))) × Int × Int × Int × Int × Int × Int × Unit) × (Unit) → (((Int × (Int × Unit)) × (Unit)) → Option R) → Option R) (q_55 : ((Int × (Int × (Int × (Int × (Int × (Int × (Int × (Int × Unit)))))))) × Int × Int × Int × Bool × Unit) × (Unit) → ((List Int) → Option R) → Option R) (q_56 : ((Int × (Int × (Int × (Int × (Int × (Int × (Int × (Int × Unit)))))))) × (Int × (Int × Unit)) × Int × Bool × Unit) × (Unit) → (Int → Option R) → Option R) (q_57 : ((Int × (Int × (Int × (Int × (Int × (Int × (Int × (Int × Unit)))))))) × (Int × (Int × Unit)) × Int × Int × Unit) × (Unit) → (Int → Option R) → Option R) (q_58 : ((Int × (Int × (Int × (Int × (Int × (Int × (Int × (Int × Unit)))))))) × (Int × (Int × Unit)) × Unit) × (Unit) → (Int → Option R) → Option R) (x : ((Int × (Int × (Int × (Int × (Int × Unit))))) × (Int × (Int × Unit)) × Int × Int × Int × Int × Unit) × (Unit)) (κ0 : (Bool × (Unit)) → Option R) : Option R :=
let i1 : Int := x.1.1.1
let i2 : Int := x.1.1.2.1
let i3 : Int := x.1.1.2.2.1
let i4 : Int := x.1.1.2.2.2.1
let i5 : Int := x.1.1.2.2.2.2.1
let i6 : Int := x.1.2.1.1
let i7 : Int := x.1.2.1.2.1
let i8 : Int := x.1.2.2.1
let i9 : Int := x.1.2.2.2.1
let i10 : Int := x.1.2.2.2.2.1
let i11 : Int := x.1.2.2.2.2.2.1
q_22 ((), ()) (fun y51 =>
let b52 : Bool := y51.1
bif (!b52) then (
κ0 (false, ())) else (
q_26 (((i1, (i2, (i3, (i4, (i5, ()))))), ()), ()) (fun y85 =>
let i86 : Int := y85.1.1.1
let i87 : Int := y85.1.1.2.1
let i88 : Int := y85.1.1.2.2.1
let i89 : Int := y85.1.1.2.2.2.1
let i90 : Int := y85.1.1.2.2.2.2.1
let i91 : Int := y85.1.1.2.2.2.2.2.1
let i92 : Int := y85.1.1.2.2.2.2.2.2.1
let i93 : Int := y85.1.1.2.2.2.2.2.2.2.1
let i94 : Int := y85.1.2.1
bif (decide (i91 > 400)) then (
κ0 (true, ())) else (
q_52 (((i86, (i87, (i88, (i89, (i90, (i91, (i92, (i93, ())))))))), (i6, (i7, ())), i8, i9, i10, i11, ()), ()) (fun y206 =>
let i207 : Int := y206.1.1.1
let i208 : Int := y206.1.1.2.1
let i209 : Int := y206.1.2.1
q_53 (((i86, (i87, (i88, (i89, (i90, (i91, (i92, (i93, ())))))))), i6, i7, i8, i9, ()), ()) (fun y226 =>
let b227 : Bool := y226.1
bif (!b227) then (
bif (i209 == 11) then (
κ0 ((schEq (.stru (.fcons (.int .i64) (.fcons (.int .i64) (.fnil)))) ((i207, (i208, ()))) ((0, (0, ())))), ())) else (
κ0 (false, ()))) else (
q_54 (((i86, (i87, (i88, (i89, (i90, (i91, (i92, (i93, ())))))))), i6, i7, i8, i9, i10, i11, ()), ()) (fun y391 =>
let i392 : Int := y391.1.1
let i393 : Int := y391.1.2.1
q_55 (((i86, (i87, (i88, (i89, (i90, (i91, (i92, (i93, ())))))))), i6, i7, i9, true, ()), ()) (fun y394 =>
let l395 : (List Int) := y394
let i396 : Int := (((List.length l395) : Nat) : Int)
q_55 (((i86, (i87, (i88, (i89, (i90, (i91, (i92, (i93, ())))))))), i6, i7, i9, false, ()), ()) (fun y397 =>
let l398 : (List Int) := y397
let i399 : Int := (((List.length l398) : Nat) : Int)
q_56 (((i86, (i87, (i88, (i89, (i90, (i91, (i92, (i93, ())))))))), (i6, (i7, ())), i9, true, ()), ()) (fun y400 =>
let i401 : Int := y400
bif (i401 != i396) then (
κ0 (false, ())) else (
q_57 (((i86, (i87, (i88, (i89, (i90, (i91, (i92, (i93, ())))))))), (i6, (i7, ())), i8, i11, ()), ()) (fun y402 =>
let i403 : Int := y402
bif (i403 != i392) then (
κ0 (false, ())) else (
q_58 (((i86, (i87, (i88, (i89, (i90, (i91, (i92, (i93, ())))))))), (i6, (i7, ())), ()), ()) (fun y404 =>
let i405 : Int := y404
q_55 (((i86, (i87, (i88, (i89, (i90, (i91, (i92, (i93, ())))))))), i6, i7, i9, true, ()), ()) (fun y406 =>
let l407 : (List Int) := y406
bif decide (0 < ((List.length l407) : Int)) then (
let p408 : Int := (List.getD l407 0 (Sch.zero (.int .i64)))
bif (i405 != p408) then (
κ0 (false, ())) else (
bif (i6 == 0) then (
bif (i209 == 0) then (
bif (schEq (.stru (.fcons (.int .i64) (.fcons (.int .i64) (.fnil)))) ((i207, (i208, ()))) ((i392, (i393, ())))) then (
bif (i7 == 0) then (
κ0 (true, ())) else (
q_56 (((i86, (i87, (i88, (i89, (i90, (i91, (i92, (i93, ())))))))), (i6, (i7, ())), i9, false, ()), ()) (fun y409 =>
let i410 : Int := y409
κ0 ((i410 == i399), ())))) else (
κ0 (false, ()))) else (
κ0 (false, ()))) else (
bif (i209 == 0) then (
bif (schEq (.stru (.fcons (.int .i64) (.fcons (.int .i64) (.fnil)))) ((i207, (i208, ()))) ((i392, (i393, ())))) then (
q_56 (((i86, (i87, (i88, (i89, (i90, (i91, (i92, (i93, ())))))))), (i6, (i7, ())), i9, false, ()), ()) (fun y411 =>
let i412 : Int := y411
κ0 ((i412 == i399), ()))) else (
κ0 (false, ()))) else (
κ0 (false, ()))))) else none))))))))))))))))
def EG_12 {R : Type} (q_22 : (Unit) × (Unit) → ((Bool × (Unit)) → Option R) → Option R) (q_26 : ((Int × (Int × (Int × (Int × (Int × Unit))))) × Unit) × (Unit) → ((((Int × (Int × (Int × (Int × (Int × (Int × (Int × (Int × Unit)))))))) × (Int × Unit)) × (Unit)) → Option R) → Option R) (q_52 : ((Int × (Int × (Int × (Int × (Int × (Int × (Int × (Int × Unit)))))))) × (Int × (Int × Unit)) × Int × Int × Int × Int × Unit) × (Unit) → ((((Int × (Int × Unit)) × (Int × Unit)) × (Unit)) → Option R) → Option R) (q_53 : ((Int × (Int × (Int × (Int × (Int × (Int × (Int × (Int × Unit)))))))) × Int × Int × Int × Int × Unit) × (Unit) → ((Bool × (Unit)) → Option R) → Option R) (q_54 : ((Int × (Int × (Int × (Int × (Int × (Int × (Int × (Int × Unit)))))))) × Int × Int × Int × Int × Int × Int × Unit) × (Unit) → (((Int × (Int × Unit)) × (Unit)) → Option R) → Option R) (q_55 : ((Int × (Int × (Int × (Int × (Int × (Int × (Int × (Int × Unit)))))))) × Int × Int × Int × Bool × Unit) × (Unit) → ((List Int) → Option R) → Option R) (q_56 : ((Int × (Int × (Int × (Int × (Int × (Int × (Int × (Int × Unit)))))))) × (Int × (Int × Unit)) × Int × Bool × Unit) × (Unit) → (Int → Option R) → Option R) (q_57 : ((Int × (Int × (Int × (Int × (Int × (Int × (Int × (Int × Unit)))))))) × (Int × (Int × Unit)) × Int × Int × Unit) × (Unit) → (Int → Option R) → Option R) (q_58 : ((Int × (Int × (Int × (Int × (Int × (Int × (Int × (Int × Unit)))))))) × (Int × (Int × Unit)) × Unit) × (Unit) → (Int → Option R) → Option R) : Env R := (((((((((Env.base QQ LN).add 22 ap_22 hp_22 (fun (x : aden ap_22 × hden hp_22) k => q_22 x (fun y => k (Pat.inst (.bool) y.1) (instH [] y.2)))).add 26 ap_26 hp_26 (fun (x : aden ap_26 × hden hp_26) k => q_26 x (fun y => k (Pat.inst (.tup (.fcons (.node (.fcons (.int .i64) (.fcons (.int .i64) (.fcons (.int .i64) (.fcons (.int .i64) (.fcons (.int .i64) (.fcons (.int .i64) (.fcons (.int .i64) (.fcons (.int .i64) (.fnil)))))))))) (.fcons (.int .i64) (.fnil)))) y.1) (instH [] y.2)))).add 52 ap_52 hp_52 (fun (x : aden ap_52 × hden hp_52) k => q_52 x (fun y => k (Pat.inst (.tup (.fcons (.node (.fcons (.int .i64) (.fcons (.int .i64) (.fnil)))) (.fcons (.int .i64) (.fnil)))) y.1) (instH [] y.2)))).add 53 ap_53 hp_53 (fun (x : aden ap_53 × hden hp_53) k => q_53 x (fun y => k (Pat.inst (.bool) y.1) (instH [] y.2)))).add 54 ap_54 hp_54 (fun (x : aden ap_54 × hden hp_54) k => q_54 x (fun y => k (Pat.inst (.tup (.fcons (.int .i64) (.fcons (.int .i64) (.fnil)))) y.1) (instH [] y.2)))).add 55 ap_55 hp_55 (fun (x : aden ap_55 × hden hp_55) k => q_55 x (fun y => k (Pat.inst (.ros (.int .i64)) y) (instH hp_55 x.2)))).add 56 ap_56 hp_56 (fun (x : aden ap_56 × hden hp_56) k => q_56 x (fun y => k (Pat.inst (.int .i64) y) (instH hp_56 x.2)))).add 57 ap_57 hp_57 (fun (x : aden ap_57 × hden hp_57) k => q_57 x (fun y => k (Pat.inst (.int .i64) y) (instH hp_57 x.2)))).add 58 ap_58 hp_58 (fun (x : aden ap_58 × hden hp_58) k => q_58 x (fun y => k (Pat.inst (.int .i64) y) (instH hp_58 x.2)))
def LG_12 {R : Type} : Loops R := Loops.none
def E_12 {R : Type} (N : Nat) : Env R := EG_12 (p_22 N) (p_26 N) (p_52 N) (p_53 N) (p_54 N) (p_55 N) (p_56 N) (p_57 N) (p_58 N)
theorem eok_12 {R : Type} (N : Nat) : EK Try.prog (E_12 (R := R) N) := ek_add (ek_add (ek_add (ek_add (ek_add (ek_add (ek_add (ek_add (ek_add (ek_base _ _) (good_22 N)) (good_26 N)) (good_52 N)) (good_53 N)) (good_54 N)) (good_55 N)) (good_56 N)) (good_57 N)) (good_58 N)
def L_12 {R : Type} (N : Nat) : Loops R := LG_12
theorem lok_12 {R : Type} (N : Nat) : LOK 0 TT (E_12 (R := R) N) (drawOk TT QQ) (L_12 N) (bodyOf Try.f12) := loops_nil (by kernel_rfl)
theorem grun_12 {R : Type} (q_22 : (Unit) × (Unit) → ((Bool × (Unit)) → Option R) → Option R) (q_26 : ((Int × (Int × (Int × (Int × (Int × Unit))))) × Unit) × (Unit) → ((((Int × (Int × (Int × (Int × (Int × (Int × (Int × (Int × Unit)))))))) × (Int × Unit)) × (Unit)) → Option R) → Option R) (q_52 : ((Int × (Int × (Int × (Int × (Int × (Int × (Int × (Int × Unit)))))))) × (Int × (Int × Unit)) × Int × Int × Int × Int × Unit) × (Unit) → ((((Int × (Int × Unit)) × (Int × Unit)) × (Unit)) → Option R) → Option R) (q_53 : ((Int × (Int × (Int × (Int × (Int × (Int × (Int × (Int × Unit)))))))) × Int × Int × Int × Int × Unit) × (Unit) → ((Bool × (Unit)) → Option R) → Option R) (q_54 : ((Int × (Int × (Int × (Int × (Int × (Int × (Int × (Int × Unit)))))))) × Int × Int × Int × Int × Int × Int × Unit) × (Unit) → (((Int × (Int × Unit)) × (Unit)) → Option R) → Option R) (q_55 : ((Int × (Int × (Int × (Int × (Int × (Int × (Int × (Int × Unit)))))))) × Int × Int × Int × Bool × Unit) × (Unit) → ((List Int) → Option R) → Option R) (q_56 : ((Int × (Int × (Int × (Int × (Int × (Int × (Int × (Int × Unit)))))))) × (Int × (Int × Unit)) × Int × Bool × Unit) × (Unit) → (Int → Option R) → Option R) (q_57 : ((Int × (Int × (Int × (Int × (Int × (Int × (Int × (Int × Unit)))))))) × (Int × (Int × Unit)) × Int × Int × Unit) × (Unit) → (Int → Option R) → Option R) (q_58 : ((Int × (Int × (Int × (Int × (Int × (Int × (Int × (Int × Unit)))))))) × (Int × (Int × Unit)) × Unit) × (Unit) → (Int → Option R) → Option R) (x : aden ap_12 × hden hp_12) (k : KF R) : fnrun TT (EG_12 q_22 q_26 q_52 q_53 q_54 q_55 q_56 q_57 q_58) (drawOk TT QQ) (LG_12) true Try.f12 (instA ap_12 x.1) (instH hp_12 x.2) k = Q_12 q_22 q_26 q_52 q_53 q_54 q_55 q_56 q_57 q_58 x (fun y => k (Pat.inst (.bool) y.1) (instH [] y.2)) := by kernel_rfl
theorem run_12 {R : Type} (N : Nat) (x : aden ap_12 × hden hp_12) (k : KF R) : fnrun TT (E_12 (R := R) N) (drawOk TT QQ) (L_12 N) true Try.f12 (instA ap_12 x.1) (instH hp_12 x.2) k = p_12 N x (fun y => k (Pat.inst (.bool) y.1) (instH [] y.2)) := (grun_12 (p_22 N) (p_26 N) (p_52 N) (p_53 N) (p_54 N) (p_55 N) (p_56 N) (p_57 N) (p_58 N) x k).trans (by kernel_rfl)
theorem good_12 {R : Type} (N : Nat) : GD (X := R) Try.prog QQ 12 ap_12 hp_12 (fun (x : aden ap_12 × hden hp_12) k => p_12 N x (fun y => k (Pat.inst (.bool) y.1) (instH [] y.2))) :=
  gd_loud (E := E_12 N) (p := fun (x : aden ap_12 × hden hp_12) k => p_12 N x (fun y => k (Pat.inst (.bool) y.1) (instH [] y.2))) mixed tyok (eok_12 N) Try.func12 (by kernel_rfl) (by kernel_rfl) (by kernel_rfl) (lok_12 N) (fun x k => run_12 N x k)

/-! ### the plain law -/
/-- Parameters that may be. -/
def Fit (a t m l s : Int) : Prop := (1 ≤ a ∧ a ≤ 3) ∧ (1 ≤ t ∧ t ≤ 4294967295) ∧ (1 ≤ l ∧ l ≤ 16777215) ∧ (1 ≤ m ∧ m ≤ 4294967295) ∧ l ≤ m / 8 ∧ 4 ≤ s ∧ s ≤ 1024
instance (a t m l s : Int) : Decidable (Fit a t m l s) := by unfold Fit; exact inferInstance
theorem p87 {R : Type} (N : Nat) (a b c : Int) (κ) : p_87 (R := R) N ((a, b, c, ()), ()) κ = κ (decide (b ≤ a ∧ a ≤ c)) := by
  unfold p_87
  dsimp only
  by_cases h1 : b ≤ a
  · by_cases h2 : a ≤ c <;> simp [h1, h2]
  · simp [h1]
theorem p88 {R : Type} (N : Nat) (a b : Int) (h1 : 0 ≤ a) (h2 : a ≤ 4611686018427387904) (h3 : 1 ≤ b) (κ) : p_88 (R := R) N ((a, b, ()), ()) κ = κ ((a - a % b, (0, ())), ()) := by
  unfold p_88 p_116
  dsimp only
  have e1 : 0 ≤ a % b := Int.emod_nonneg a (by omega)
  have e2 : a % b ≤ a := mod_le h1 (by omega)
  rw [rem64 h1, sub64 (by omega) (by omega)]
  simp [h1, h2, show ¬ b < 1 by omega, show ¬ b = 0 by omega]
theorem p26 {R : Type} (N : Nat) (a t m l s : Int) (κ) : p_26 (R := R) N (((a, (t, (m, (l, (s, ()))))), ()), ()) κ =
    (bif decide (Fit a t m l s) then κ (((a, (t, (l, (m, (4 * l * (m / (4 * l)), (4 * (m / (4 * l)), (m / (4 * l), (s, ())))))))), (0, ())), ()) else κ (((0, (0, (0, (0, (0, (0, (0, (0, ())))))))), (2, ())), ())) := by
  by_cases h : Fit a t m l s
  · obtain ⟨⟨h1, h2⟩, ⟨h3, h4⟩, ⟨h5, h6⟩, ⟨h7, h8⟩, h9, h10, h11⟩ := id h
    unfold p_26
    dsimp only
    have e1 : quoA .i64 m 8 = m / 8 := quo64 (by omega) (by omega) (by omega)
    have e2 : mulA .i64 4 l = 4 * l := mul64 (by omega) (by omega)
    have e3 : m - m % (4 * l) = 4 * l * (m / (4 * l)) := by have := Int.mul_ediv_add_emod m (4 * l); omega
    have q0 : 0 ≤ m / (4 * l) := Int.ediv_nonneg (by omega) (by omega)
    have q1 : 0 ≤ m % (4 * l) := Int.emod_nonneg _ (by omega)
    have e4 : quoA .i64 (4 * l * (m / (4 * l))) l = 4 * (m / (4 * l)) := by
      rw [quo64 (by rw [← e3]; have := mod_le (b := 4 * l) (show 0 ≤ m by omega) (by omega); omega) (by omega) (by omega)]
      rw [show 4 * l * (m / (4 * l)) = l * (4 * (m / (4 * l))) by rw [Int.mul_comm 4 l, Int.mul_assoc]]
      exact Int.mul_ediv_cancel_left _ (by omega)
    have q2 : m / (4 * l) ≤ m := Int.ediv_le_self _ (by omega)
    have e5 : quoA .i64 (4 * (m / (4 * l))) 4 = m / (4 * l) := by
      rw [quo64 (by omega) (by omega) (by omega)]
      exact Int.mul_ediv_cancel_left _ (by omega)
    simp only [p87, e1, e2]
    rw [p88 N m (4 * l) (by omega) (by omega) (by omega)]
    simp only [e3, e4, e5]
    simp [h, h1, h2, h3, h4, h5, h6, h7, h8, h9, h10, h11, show ¬ l = 0 by omega]
  · rw [dF h]
    unfold p_26
    dsimp only
    simp only [p87, cond_false]
    by_cases g1 : 1 ≤ a ∧ a ≤ 3
    · rw [dT g1]
      by_cases g2 : 1 ≤ t ∧ t ≤ 4294967295
      · rw [dT g2]
        by_cases g3 : 1 ≤ l ∧ l ≤ 16777215
        · rw [dT g3]
          by_cases g4 : 1 ≤ m ∧ m ≤ 4294967295
          · rw [dT g4, quo64 (by omega) (by omega) (by omega)]
            by_cases g5 : m / 8 ≥ l
            · rw [dT g5]
              by_cases g6 : 4 ≤ s ∧ s ≤ 1024
              · exact absurd ⟨g1, g2, g3, g4, g5, g6⟩ h
              · rw [dF g6]; rfl
            · rw [dF g5]; rfl
          · rw [dF g4]; rfl
        · rw [dF g3]; rfl
      · rw [dF g2]; rfl
    · rw [dF g1]; rfl

/-! ### a product of two words -/
theorem p86 {R : Type} (N : Nat) {x y : Int} (x1 : 0 ≤ x) (x2 : x < 18446744073709551616) (y1 : 0 ≤ y) (y2 : y < 18446744073709551616) (κ) : p_86 (R := R) N ((x, y, ()), ()) κ = κ ((x * y / 18446744073709551616, (x * y % 18446744073709551616, ())), ()) := by
  unfold p_86
  dsimp only
  rw [high64 x1 x2 y1 y2]
  unfold mulA
  rw [wrapU64 (x * y)]

/-! ### places -/
theorem or_zero64 {z : Int} (h1 : 0 ≤ z) (h2 : z < 18446744073709551616) : orA .u64 0 z = z := by
  unfold orA
  rw [wrapU64, BitVec.toNat_or]
  have q1 : (BitVec.ofInt IntKind.u64.bits z).toNat = z.toNat := by
    show (BitVec.ofInt 64 z).toNat = z.toNat
    rw [BitVec.toNat_ofInt]; omega
  have q2 : (BitVec.ofInt IntKind.u64.bits 0).toNat = 0 := by decide
  rw [q1, q2, Nat.zero_or]
  omega
def pickOf (area j : Int) : Int := area - 1 - area * (j * j / 4294967296) / 4294967296
theorem pick_in {area j : Int} (h1 : 1 ≤ area) (j1 : 0 ≤ j) (j2 : j < 4294967296) : 0 ≤ pickOf area j ∧ pickOf area j ≤ area - 1 := by
  unfold pickOf
  have b1 : j * j ≤ 4294967295 * 4294967295 := Int.mul_le_mul (by omega) (by omega) j1 (by omega)
  have b0 : 0 ≤ j * j := Int.mul_nonneg j1 j1
  generalize hx : j * j / 4294967296 = x
  have x0 : 0 ≤ x ∧ x ≤ 4294967295 := by omega
  have c0 : 0 ≤ area * x := Int.mul_nonneg (by omega) x0.1
  have c1 : area * x ≤ area * 4294967295 := Int.mul_le_mul_of_nonneg_left x0.2 (by omega)
  omega
theorem p23 {R : Type} (N : Nat) (area j : Int) (h2 : area ≤ 4294967296) (j1 : 0 ≤ j) (j2 : j < 4294967296) (κ) : p_23 (R := R) N ((area, j, ()), ()) κ = if area < 1 then κ 0 else κ (pickOf area j) := by
  unfold p_23
  try dsimp only
  by_cases h1 : area < 1
  · rw [bif_t (dT h1), if_pos h1]
  rw [bif_f (dF h1), if_neg h1, wrapU64, wrapU64, Int.emod_eq_of_lt j1 (by omega), Int.emod_eq_of_lt (by omega) (by omega)]
  have b1 : j * j ≤ 4294967295 * 4294967295 := Int.mul_le_mul (by omega) (by omega) j1 (by omega)
  have b0 : 0 ≤ j * j := Int.mul_nonneg j1 j1
  have pin := pick_in (area := area) (by omega) j1 j2
  unfold pickOf at *
  rw [mulU64 b0 (by omega), shr32 b0]
  generalize hx : j * j / 4294967296 = x at *
  have x0 : 0 ≤ x ∧ x ≤ 4294967295 := by omega
  rw [p86 N (by omega) (by omega) x0.1 (by omega)]
  have c0 : 0 ≤ area * x := Int.mul_nonneg (by omega) x0.1
  have c1 : area * x ≤ 4294967296 * 4294967295 := Int.mul_le_mul h2 x0.2 x0.1 (by omega)
  generalize area * x = z at *
  have e1 : z / 18446744073709551616 = 0 := by omega
  have e2 : z % 18446744073709551616 = z := by omega
  rw [e1, e2]
  try dsimp only
  rw [shr32 c0, show shlA .u64 0 32 = 0 from rfl, or_zero64 (by omega) (by omega), sub64 (a := area) (by omega) (by omega), wrap64 (by omega) (by omega), sub64 (by omega) (by omega)]
theorem p22 {R : Type} (N : Nat) (κ) : p_22 (R := R) N ((), ()) κ = κ (true, ()) := by
  unfold p_22
  rw [p23 N 10 0 (by omega) (by omega) (by omega), if_neg (by omega)]
  try dsimp only
  rw [p23 N 10 4294967295 (by omega) (by omega) (by omega), if_neg (by omega)]
  rfl
abbrev Shp8 := Int × (Int × (Int × (Int × (Int × (Int × (Int × (Int × Unit)))))))
def laneOf (pass slice lane j L : Int) : Int := if pass = 0 ∧ slice = 0 then lane else j % L
def doneOf (pass slice q : Int) : Int := if pass > 0 then 3 * q else slice * q
def areaOf (pass slice q index : Int) (own : Bool) : Int := if own = true then doneOf pass slice q + index - 1 else if index = 0 then doneOf pass slice q - 1 else doneOf pass slice q
def fromOf (pass slice q : Int) : Int := if pass = 0 ∨ slice = 3 then 0 else (slice + 1) * q
theorem p50 {R : Type} (N : Nat) (s : Shp8) (a b : Int) (κ) : p_50 (R := R) N ((s, a, b, ()), ()) κ = κ (if a = 0 ∧ b = 0 then 2 else 0) := by
  unfold p_50
  try dsimp only
  by_cases h1 : a = 0
  · by_cases h2 : b = 0
    · simp [h1, h2]
    · simp [h1, h2, show (b == 0) = false from beq_eq_false_iff_ne.2 h2]
  · simp [h1, show (a == 0) = false from beq_eq_false_iff_ne.2 h1]
theorem p49 {R : Type} (N : Nat) (s0 t s2 s3 s4 s5 s6 s7 a b : Int) (ht : 1 ≤ t ∧ t ≤ 4294967295) (κ) : p_49 (R := R) N (((s0, (t, (s2, (s3, (s4, (s5, (s6, (s7, ())))))))), (a, (b, ())), ()), ()) κ = κ (decide ((0 ≤ a ∧ a ≤ t - 1) ∧ 0 ≤ b ∧ b ≤ 3), ()) := by
  unfold p_49
  try dsimp only
  rw [sub64 (by omega) (by omega), p87]
  by_cases h1 : 0 ≤ a ∧ a ≤ t - 1
  · rw [dT h1, bif_t rfl, p87]
    by_cases h2 : 0 ≤ b ∧ b ≤ 3
    · rw [dT h2, dT ⟨h1, h2⟩]
    · rw [dF h2, dF (fun h => h2 h.2)]
  · rw [dF h1, bif_f rfl, dF (fun h => h1 h.1)]
section
variable {R : Type} (N : Nat) (s0 t L s3 s4 q s7 : Int)
theorem p57 (hL : 1 ≤ L ∧ L ≤ 16777215) (pass slice lane j : Int) (j1 : 0 ≤ j) (j2 : j < 4294967296) (s5 : Int) (κ : Int → Option R) :
    p_57 (R := R) N (((s0, (t, (L, (s3, (s4, (s5, (q, (s7, ())))))))), (pass, (slice, ())), lane, j, ()), ()) κ = κ (laneOf pass slice lane j L) := by
  unfold p_57 laneOf
  try dsimp only
  have e1 : IntKind.wrap .i64 (remA .u64 (IntKind.wrap .u64 j) (IntKind.wrap .u64 L)) = j % L := by
    rw [wrapU64, wrapU64, Int.emod_eq_of_lt j1 (by omega), Int.emod_eq_of_lt (by omega) (by omega)]
    unfold remA
    rw [Int.tmod_eq_emod_of_nonneg j1]
    have := Int.emod_nonneg j (show L ≠ 0 by omega)
    have := Int.emod_lt_of_pos j (show 0 < L by omega)
    exact wrap64 (by omega) (by omega)
  have e2 : ¬ IntKind.wrap .u64 L = 0 := by rw [wrapU64]; omega
  rw [e1, dF e2]
  by_cases h1 : pass = 0
  · by_cases h2 : slice = 0
    · simp [h1, h2]
    · simp [h1, h2, show (slice == 0) = false from beq_eq_false_iff_ne.2 h2]
  · simp [h1, show (pass == 0) = false from beq_eq_false_iff_ne.2 h1]
theorem p56 (hq : 2 ≤ q ∧ 4 * q ≤ 4294967295) (pass slice index : Int) (own : Bool) (h1 : 0 ≤ pass) (h2 : 0 ≤ slice ∧ slice ≤ 3) (h3 : 0 ≤ index ∧ index < q) (κ : Int → Option R) :
    p_56 (R := R) N (((s0, (t, (L, (s3, (s4, (4 * q, (q, (s7, ())))))))), (pass, (slice, ())), index, own, ()), ()) κ = κ (areaOf pass slice q index own) := by
  unfold p_56 areaOf doneOf
  try dsimp only
  have b1 : slice * q ≤ 3 * q := Int.mul_le_mul_of_nonneg_right h2.2 (by omega)
  have b0 : 0 ≤ slice * q := Int.mul_nonneg h2.1 (by omega)
  rw [mul64 (by omega) (by omega), sub64 (a := 4 * q) (by omega) (by omega), show 4 * q - q = 3 * q by omega]
  by_cases g1 : pass > 0
  · rw [bif_t (dT g1)]
    simp only [if_pos g1]
    cases own with
    | true => rw [bif_t rfl, if_pos rfl, add64 (a := 3 * q) (by omega) (by omega), sub64 (by omega) (by omega)]
    | false =>
      rw [bif_f rfl, if_neg (by simp)]
      by_cases g2 : index = 0
      · rw [bif_t (beq_iff_eq.2 g2), if_pos g2, sub64 (by omega) (by omega)]
      · rw [bif_f (beq_eq_false_iff_ne.2 g2), if_neg g2]
  · rw [bif_f (dF g1)]
    simp only [if_neg g1]
    cases own with
    | true => rw [bif_t rfl, if_pos rfl, add64 (a := slice * q) (by omega) (by omega), sub64 (by omega) (by omega)]
    | false =>
      rw [bif_f rfl, if_neg (by simp)]
      by_cases g2 : index = 0
      · rw [bif_t (beq_iff_eq.2 g2), if_pos g2, sub64 (by omega) (by omega)]
      · rw [bif_f (beq_eq_false_iff_ne.2 g2), if_neg g2]
theorem p58 (hq : 2 ≤ q ∧ 4 * q ≤ 4294967295) (pass slice : Int) (h2 : 0 ≤ slice ∧ slice ≤ 3) (s5 : Int) (κ : Int → Option R) :
    p_58 (R := R) N (((s0, (t, (L, (s3, (s4, (s5, (q, (s7, ())))))))), (pass, (slice, ())), ()), ()) κ = κ (fromOf pass slice q) := by
  unfold p_58 fromOf
  try dsimp only
  by_cases g1 : pass = 0
  · rw [bif_t (beq_iff_eq.2 g1), if_pos (.inl g1)]
  rw [bif_f (beq_eq_false_iff_ne.2 g1)]
  by_cases g2 : slice = 3
  · rw [bif_t (beq_iff_eq.2 g2), if_pos (.inr g2)]
  rw [bif_f (beq_eq_false_iff_ne.2 g2), if_neg (fun h => h.elim g1 g2), add64 (by omega) (by omega)]
  have b1 : (slice + 1) * q ≤ 4 * q := Int.mul_le_mul_of_nonneg_right (by omega) (by omega)
  have b0 : 0 ≤ (slice + 1) * q := Int.mul_nonneg (by omega) (by omega)
  rw [mul64 (by omega) (by omega)]
/-- Is there such a block that is filled? -/
def There (t L q pass slice lane index : Int) : Prop := ((0 ≤ pass ∧ pass ≤ t - 1) ∧ 0 ≤ slice ∧ slice ≤ 3) ∧ (0 ≤ lane ∧ lane ≤ L - 1) ∧ (if pass = 0 ∧ slice = 0 then 2 else 0) ≤ index ∧ index ≤ q - 1
theorem area_in (hq : 2 ≤ q) (pass slice lane index : Int) (own : Bool) (h : There t L q pass slice lane index) (ho : pass = 0 → slice = 0 → own = true) : 1 ≤ areaOf pass slice q index own ∧ areaOf pass slice q index own ≤ 4 * q := by
  obtain ⟨⟨⟨h1, h2⟩, h3, h4⟩, ⟨h5, h6⟩, h7, h8⟩ := h
  unfold areaOf doneOf
  have b1 : slice * q ≤ 3 * q := Int.mul_le_mul_of_nonneg_right h4 (by omega)
  have b0 : 0 ≤ slice * q := Int.mul_nonneg h3 (by omega)
  by_cases g1 : pass > 0
  · simp only [if_pos g1]
    rw [if_neg (by omega)] at h7
    split
    · omega
    · split <;> omega
  · simp only [if_neg g1]
    by_cases g2 : slice = 0
    · subst g2
      rw [if_pos ⟨by omega, rfl⟩] at h7
      rw [if_pos (ho (by omega) rfl)]
      omega
    · have b2 : 1 * q ≤ slice * q := Int.mul_le_mul_of_nonneg_right (by omega) (by omega)
      rw [if_neg (fun hh => g2 hh.2)] at h7
      split
      · omega
      · split <;> omega
def colOf (pass slice index j q : Int) (own : Bool) : Int := (fromOf pass slice q + pickOf (areaOf pass slice q index own) j) % (4 * q)
open Classical in
theorem p52 (ht : 1 ≤ t ∧ t ≤ 4294967295) (hL : 1 ≤ L ∧ L ≤ 16777215) (hq : 2 ≤ q ∧ 4 * q ≤ 4294967295) (pass slice lane index ja jb : Int) (ja1 : 0 ≤ ja) (ja2 : ja < 4294967296) (jb1 : 0 ≤ jb) (jb2 : jb < 4294967296) (κ : ((Int × (Int × Unit)) × (Int × Unit)) × Unit → Option R) :
    p_52 (R := R) N (((s0, (t, (L, (s3, (s4, (4 * q, (q, (s7, ())))))))), (pass, (slice, ())), lane, index, ja, jb, ()), ()) κ =
      if There t L q pass slice lane index then κ (((laneOf pass slice lane jb L, (colOf pass slice index ja q (laneOf pass slice lane jb L == lane), ())), (0, ())), ()) else κ (((0, (0, ())), (11, ())), ()) := by
  unfold p_52
  try dsimp only
  rw [bif_t (dT (show L > 0 by omega)), p49 N _ _ _ _ _ _ _ _ _ _ ht]
  by_cases h1 : (0 ≤ pass ∧ pass ≤ t - 1) ∧ 0 ≤ slice ∧ slice ≤ 3
  · rw [dT h1]
    try dsimp only
    rw [bif_t rfl, sub64 (a := L) (by omega) (by omega), p87]
    by_cases h2 : 0 ≤ lane ∧ lane ≤ L - 1
    · rw [dT h2]
      simp only [Bool.not_true, cond_false]
      rw [p50, sub64 (a := q) (by omega) (by omega), p87]
      by_cases h3 : (if pass = 0 ∧ slice = 0 then (2 : Int) else 0) ≤ index ∧ index ≤ q - 1
      · have hth : There t L q pass slice lane index := ⟨h1, h2, h3⟩
        rw [dT h3, if_pos hth]
        simp only [Bool.not_true, cond_false]
        have hi : 0 ≤ index ∧ index < q := by
          have := h3.1
          split at this <;> omega
        rw [p57 N s0 t L s3 s4 q s7 hL pass slice lane jb jb1 jb2]
        try dsimp only
        rw [p56 N s0 t L s3 s4 q s7 hq pass slice index _ h1.1.1 h1.2 hi]
        try dsimp only
        rw [p58 N s0 t L s3 s4 q s7 hq pass slice h1.2]
        obtain ⟨a1, a2⟩ := area_in t L q hq.1 pass slice lane index (laneOf pass slice lane jb L == lane) hth (fun e1 e2 => by unfold laneOf; rw [if_pos ⟨e1, e2⟩]; simp)
        rw [p23 N _ ja (by omega) ja1 ja2, if_neg (by omega), bif_f (dF (by omega))]
        have pin := pick_in a1 ja1 ja2
        have f0 : 0 ≤ fromOf pass slice q ∧ fromOf pass slice q ≤ 4 * q := by
          unfold fromOf
          have b1 : (slice + 1) * q ≤ 4 * q := Int.mul_le_mul_of_nonneg_right (by omega) (by omega)
          have b0 : 0 ≤ (slice + 1) * q := Int.mul_nonneg (by omega) (by omega)
          split <;> omega
        rw [add64 (by omega) (by omega), rem64 (by omega)]
        rfl
      · rw [dF h3, if_neg (fun hh => h3 hh.2.2)]
        rfl
    · rw [dF h2, if_neg (fun hh => h2 hh.2.1)]
      rfl
  · rw [dF h1, if_neg (fun hh => h1 hh.1)]
    rfl
end
theorem pair_s (x y : Sch.den (.stru (.fcons (.int .i64) (.fcons (.int .i64) .fnil)))) : schEq (.stru (.fcons (.int .i64) (.fcons (.int .i64) .fnil))) x y = (fun (a b c d : Int) => decide (a = c ∧ b = d)) x.1 x.2.1 y.1 y.2.1 := by
  obtain ⟨a, b, _⟩ := x
  obtain ⟨c, d, _⟩ := y
  show schEq (.stru (.fcons (.int .i64) (.fcons (.int .i64) .fnil))) ((a : Int), ((b : Int), ())) ((c : Int), ((d : Int), ())) = decide ((a : Int) = c ∧ (b : Int) = d)
  by_cases h1 : (a : Int) = c
  · by_cases h2 : (b : Int) = d
    · rw [dT ⟨h1, h2⟩]; subst h1 h2; simp [schEq]
    · rw [dF (fun h => h2 h.2)]; simp [schEq]; exact fun _ => h2
  · rw [dF (fun h => h1 h.1)]; simp [schEq]; exact fun h => absurd h h1

theorem p97 {R : Type} (N : Nat) (a b : Int) (κ) : p_97 (R := R) N ((a, b, ()), ()) κ = κ (if a = 0 ∧ b = 0 then 2 else 0, ()) := by
  unfold p_97
  try dsimp only
  by_cases h1 : a = 0
  · by_cases h2 : b = 0
    · simp [h1, h2]
    · simp [h1, h2, show (b == 0) = false from beq_eq_false_iff_ne.2 h2]
  · simp [h1, show (a == 0) = false from beq_eq_false_iff_ne.2 h1]
theorem p24 {R : Type} (N : Nat) (area j : Int) (h1 : 1 ≤ area) (h2 : area ≤ 4294967296) (j1 : 0 ≤ j) (j2 : j < 4294967296) (κ) : p_24 (R := R) N ((area, j, ()), ()) κ = κ (pickOf area j) := by
  unfold p_24
  try dsimp only
  rw [wrapU64, wrapU64, Int.emod_eq_of_lt j1 (by omega), Int.emod_eq_of_lt (by omega) (by omega)]
  have b1 : j * j ≤ 4294967295 * 4294967295 := Int.mul_le_mul (by omega) (by omega) j1 (by omega)
  have b0 : 0 ≤ j * j := Int.mul_nonneg j1 j1
  have pin := pick_in h1 j1 j2
  have q0 : ∀ {z : Int}, 0 ≤ z → z < 18446744073709551616 → quoA .u64 z 4294967296 = z / 4294967296 := by
    intro z z0 z1
    unfold quoA
    rw [Int.tdiv_eq_ediv_of_nonneg z0, wrapU64]
    omega
  unfold pickOf at *
  rw [mulU64 b0 (by omega), q0 b0 (by omega)]
  generalize hx : j * j / 4294967296 = x at *
  have x0 : 0 ≤ x ∧ x ≤ 4294967295 := by omega
  have c0 : 0 ≤ area * x := Int.mul_nonneg (by omega) x0.1
  have c1 : area * x ≤ 4294967296 * 4294967295 := Int.mul_le_mul h2 x0.2 x0.1 (by omega)
  rw [mulU64 c0 (by omega), q0 c0 (by omega)]
  generalize area * x = z at *
  rw [sub64 (a := area) (by omega) (by omega), wrap64 (by omega) (by omega), sub64 (by omega) (by omega)]
section
variable {R : Type} (N : Nat) (s0 t L s3 s4 q s7 : Int)
open Classical in
theorem p53 (pass slice lane index : Int) (hL : 1 ≤ L) (s5 : Int) (κ : Bool × Unit → Option R) :
    p_53 (R := R) N (((s0, (t, (L, (s3, (s4, (s5, (q, (s7, ())))))))), pass, slice, lane, index, ()), ()) κ = κ (decide (There t L q pass slice lane index), ()) := by
  unfold p_53
  try dsimp only
  rw [bif_f (dF (by omega))]
  have no : ∀ h : ¬ There t L q pass slice lane index, κ (false, ()) = κ (decide (There t L q pass slice lane index), ()) := fun h => by rw [dF h]
  by_cases h1 : pass < 0
  · rw [bif_t (dT h1)]; exact no fun h => by have := h.1.1; omega
  by_cases h2 : pass ≥ t
  · rw [bif_f (dF h1), bif_t (dT h2)]; exact no fun h => by have := h.1.1; omega
  by_cases h3 : slice < 0
  · rw [bif_f (dF h1), bif_f (dF h2), bif_t (dT h3)]; exact no fun h => by have := h.1.2; omega
  by_cases h4 : slice > 3
  · rw [bif_f (dF h1), bif_f (dF h2), bif_f (dF h3), bif_t (dT h4)]; exact no fun h => by have := h.1.2; omega
  by_cases h5 : lane < 0
  · rw [bif_f (dF h1), bif_f (dF h2), bif_f (dF h3), bif_f (dF h4), bif_t (dT h5)]; exact no fun h => by have := h.2.1; omega
  by_cases h6 : lane ≥ L
  · rw [bif_f (dF h1), bif_f (dF h2), bif_f (dF h3), bif_f (dF h4), bif_f (dF h5), bif_t (dT h6)]; exact no fun h => by have := h.2.1; omega
  rw [bif_f (dF h1), bif_f (dF h2), bif_f (dF h3), bif_f (dF h4), bif_f (dF h5), bif_f (dF h6), p97]
  try dsimp only
  by_cases h7 : index ≥ (if pass = 0 ∧ slice = 0 then (2 : Int) else 0)
  · rw [bif_t (dT h7)]
    by_cases h8 : index < q
    · rw [dT h8, dT (show There t L q pass slice lane index from ⟨⟨⟨by omega, by omega⟩, by omega, by omega⟩, ⟨by omega, by omega⟩, h7, by omega⟩)]
    · rw [dF h8]; exact no fun h => by have := h.2.2.2; omega
  · rw [bif_f (dF h7)]; exact no fun h => h7 h.2.2.1
/-- The k-th column of those that may be referred to. -/
def colK (F q : Int) (k : Nat) : Int := (F + k) % (4 * q)
def colsTo (F q : Int) (n : Nat) : List Int := (List.range n).map (colK F q)
theorem colsTo_len (F q : Int) (n : Nat) : (colsTo F q n).length = n := by simp [colsTo]
theorem colsTo_succ (F q : Int) (n : Nat) {v : Int} (hv : v = colK F q n) : colsTo F q n ++ [v] = colsTo F q (n + 1) := by
  subst hv
  simp [colsTo, List.range_succ]
theorem colsTo_take (F q : Int) (n m : Nat) (h : m ≤ n) : List.take m (colsTo F q n) = colsTo F q m := by
  simp [colsTo, ← List.map_take, List.take_range, Nat.min_eq_left h]
theorem colsTo_get (F q : Int) (n k : Nat) (h : k < n) (z : Int) : List.getD (colsTo F q n) k z = colK F q k := by
  simp [colsTo, h]
theorem l55a (F : Int) (hq : 2 ≤ q ∧ 4 * q ≤ 400) (index w : Int) (own : Bool) (hw : 0 ≤ w ∧ w ≤ 3 * q) (hF : ∀ i : Nat, (w + q + i) % (4 * q) = (F + i) % (4 * q)) (D : Nat) (hD : (D : Int) = 3 * q) (κ) : ∀ (n i : Nat), i ≤ D → D - i < n →
    l_55_5 (R := R) N n ((index, own, (), w, (), (i : Int), ()), ((s0, (t, (L, (s3, (s4, (4 * q, (q, (s7, ())))))))), colsTo F q i, ())) κ = κ ((index, own, w, (), ()), (colsTo F q D, ()))
  | 0, i, h1, h2 => by omega
  | n + 1, i, h1, h2 => by
    unfold l_55_5 B_55_5
    try dsimp only
    rw [sub64 (a := 4 * q) (by omega) (by omega), show 4 * q - q = 3 * q by omega]
    by_cases hi : i < D
    · rw [bif_t (dT (show (i : Int) < 3 * q by omega)), bif_f (dF (by omega)), add64 (a := w) (by omega) (by omega), add64 (a := w + q) (by omega) (by omega), rem64 (by omega), colsTo_len, dT (by simp; omega)]
      simp only [Bool.and_true, cond_true]
      rw [colsTo_succ F q i (hF i), show addA .i64 (i : Int) 1 = ((i + 1 : Nat) : Int) by rw [add64 (by omega) (by omega)]; simp]
      exact l55a F hq index w own hw hF D hD κ n (i + 1) (by omega) (by omega)
    · rw [bif_f (dF (show ¬ (i : Int) < 3 * q by omega)), show i = D by omega]
theorem l55b (hq : 2 ≤ q ∧ 4 * q ≤ 400) (index : Int) (own : Bool) (D : Nat) (hD : (D : Int) ≤ 3 * q) (κ) : ∀ (n i : Nat), i ≤ D → D - i < n →
    l_55_9 (R := R) N n ((index, own, (D : Int), (), (i : Int), ()), (colsTo 0 q i, ())) κ = κ ((index, own, (D : Int), (), ()), (colsTo 0 q D, ()))
  | 0, i, h1, h2 => by omega
  | n + 1, i, h1, h2 => by
    unfold l_55_9 B_55_9
    try dsimp only
    by_cases hi : i < D
    · rw [bif_t (dT (show (i : Int) < (D : Int) by omega)), colsTo_len, dT (by simp; omega)]
      simp only [Bool.and_true, cond_true]
      rw [colsTo_succ 0 q i (v := (i : Int)) (by unfold colK; rw [Int.zero_add, Int.emod_eq_of_lt (by omega) (by omega)]), show addA .i64 (i : Int) 1 = ((i + 1 : Nat) : Int) by rw [add64 (by omega) (by omega)]; simp]
      exact l55b hq index own D hD κ n (i + 1) (by omega) (by omega)
    · rw [bif_f (dF (show ¬ (i : Int) < (D : Int) by omega)), show i = D by omega]
theorem l55c (F : Int) (hq : 2 ≤ q ∧ 4 * q ≤ 400) (w : Int) (own : Bool) (D I : Nat) (hD : (D : Int) ≤ 3 * q) (hI : (I : Int) < q) (hw : 0 ≤ w ∧ w ≤ 3 * q) (hF : ∀ i : Nat, i < I → (F + (D + i : Nat)) % (4 * q) = w + i) (κ) : ∀ (n i : Nat), i ≤ I → I - i < n →
    l_55_14 (R := R) N n (((I : Int), own, w, (), (i : Int), ()), (colsTo F q (D + i), ())) κ = κ (((I : Int), own, (), ()), (colsTo F q (D + I), ()))
  | 0, i, h1, h2 => by omega
  | n + 1, i, h1, h2 => by
    unfold l_55_14 B_55_14
    try dsimp only
    by_cases hi : i < I
    · rw [bif_t (dT (show (i : Int) < (I : Int) by omega)), add64 (a := w) (by omega) (by omega), colsTo_len, dT (by simp; omega)]
      simp only [Bool.and_true, cond_true]
      rw [colsTo_succ F q (D + i) (hF i hi).symm, show addA .i64 (i : Int) 1 = ((i + 1 : Nat) : Int) by rw [add64 (by omega) (by omega)]; simp]
      exact l55c F hq w own D I hD hI hw hF κ n (i + 1) (by omega) (by omega)
    · rw [bif_f (dF (show ¬ (i : Int) < (I : Int) by omega)), show i = I by omega]
theorem cut_last (F : Int) (n : Nat) (hn : 1 ≤ n) (hn2 : n ≤ 1000) (κ : List Int → Option R) :
    (bif decide (0 ≤ subA .i64 (((colsTo F q n).length : Nat) : Int) 1) then (bif decide (subA .i64 (((colsTo F q n).length : Nat) : Int) 1 ≤ (((colsTo F q n).length : Nat) : Int)) then (bif decide (0 ≤ subA .i64 (((colsTo F q n).length : Nat) : Int) 1) then κ (List.take ((Int.toNat (subA .i64 (((colsTo F q n).length : Nat) : Int) 1)) - 0) (List.drop 0 (colsTo F q n))) else none) else none) else none) = κ (colsTo F q (n - 1)) := by
  rw [colsTo_len, sub64 (by omega) (by omega), bif_t (dT (by omega)), bif_t (dT (by omega)), bif_t (dT (by omega)), List.drop_zero, colsTo_take F q n _ (by omega), show (((n : Nat) : Int) - 1).toNat - 0 = n - 1 by omega]
theorem p55 (hN : 1000 < N) (hq : 2 ≤ q ∧ 4 * q ≤ 400) (pass slice lane index : Int) (own : Bool) (h : There t L q pass slice lane index) (κ : List Int → Option R) :
    p_55 (R := R) N (((s0, (t, (L, (s3, (s4, (4 * q, (q, (s7, ())))))))), pass, slice, index, own, ()), ()) κ = κ (colsTo (fromOf pass slice q) q (areaOf pass slice q index own).toNat) := by
  obtain ⟨⟨⟨h1, h2⟩, h3, h4⟩, ⟨h5, h6⟩, h7, h8⟩ := h
  have idx : 0 ≤ index := by split at h7 <;> omega
  have b1 : slice * q ≤ 3 * q := Int.mul_le_mul_of_nonneg_right h4 (by omega)
  have b0 : 0 ≤ slice * q := Int.mul_nonneg h3 (by omega)
  obtain ⟨I, rfl⟩ := Int.eq_ofNat_of_zero_le idx
  obtain ⟨W, hW⟩ := Int.eq_ofNat_of_zero_le b0
  have big : ∀ i : Int, (i + 4 * q) % (4 * q) = i % (4 * q) := fun i => Int.add_emod_right ..
  unfold p_55
  try dsimp only
  rw [mul64 (a := slice) (by omega) (by omega)]
  by_cases g1 : pass > 0
  · rw [bif_t (dT g1)]
    have hF : ∀ i : Nat, (slice * q + q + i) % (4 * q) = (fromOf pass slice q + i) % (4 * q) := by
      intro i
      unfold fromOf
      by_cases e : slice = 3
      · rw [if_pos (.inr e), e, show 3 * q + q + (i : Int) = (0 + i) + 4 * q by omega, big]
      · rw [if_neg (fun hh => hh.elim (by omega) e), Int.add_mul, Int.one_mul]
    have hF2 : ∀ i : Nat, i < I → (fromOf pass slice q + ((3 * q).toNat + i : Nat)) % (4 * q) = slice * q + i := by
      intro i hi
      have := hF (3 * q).toNat
      rw [show (((3 * q).toNat + i : Nat) : Int) = ((3 * q).toNat : Int) + i by omega, show ((3 * q).toNat : Int) = 3 * q by omega]
      have e1 : fromOf pass slice q + (3 * q + (i : Int)) = fromOf pass slice q + (((3 * q).toNat + i : Nat) : Int) := by omega
      rw [e1, ← hF, show slice * q + q + (((3 * q).toNat + i : Nat) : Int) = (slice * q + i) + 4 * q by omega, big, Int.emod_eq_of_lt (by omega) (by omega)]
    have h30 : ((3 * q).toNat : Int) = 3 * q := by omega
    refine (l55a N s0 t L s3 s4 q s7 (fromOf pass slice q) hq I (slice * q) own ⟨b0, b1⟩ hF (3 * q).toNat h30 _ N 0 (by omega) (by omega)).trans ?_
    try dsimp only
    unfold areaOf doneOf
    rw [if_pos g1]
    cases own with
    | true =>
      rw [bif_t rfl, if_pos rfl]
      refine (l55c N q (fromOf pass slice q) hq (slice * q) true (3 * q).toNat I (by omega) (by omega) ⟨b0, b1⟩ hF2 _ N 0 (by omega) (by omega)).trans ?_
      try dsimp only
      rw [bif_t rfl]
      refine (cut_last q (fromOf pass slice q) _ (by omega) (by omega) κ).trans ?_
      congr 2; omega
    | false =>
      rw [bif_f rfl, bif_f rfl, if_neg (by simp)]
      by_cases e : (I : Int) = 0
      · rw [bif_t (beq_iff_eq.2 e), if_pos e]
        refine (cut_last q (fromOf pass slice q) _ (by omega) (by omega) κ).trans ?_
        congr 2; omega
      · rw [bif_f (beq_eq_false_iff_ne.2 e), if_neg e]
  · rw [bif_f (dF g1)]
    have hF0 : fromOf pass slice q = 0 := by unfold fromOf; rw [if_pos (.inl (by omega))]
    rw [hF0]
    have hF2 : ∀ i : Nat, i < I → ((0 : Int) + (W + i : Nat)) % (4 * q) = (W : Int) + i := by
      intro i hi
      rw [Int.zero_add, Int.emod_eq_of_lt (by omega) (by omega)]; omega
    rw [hW]
    refine (l55b N q hq I own W (by omega) _ N 0 (by omega) (by omega)).trans ?_
    try dsimp only
    unfold areaOf doneOf
    rw [if_neg g1, hW]
    have nz : slice ≠ 0 → 2 ≤ W := by
      intro e
      have : 1 * q ≤ slice * q := Int.mul_le_mul_of_nonneg_right (by omega) (by omega)
      omega
    have first : slice = 0 → 2 ≤ I := by
      intro e
      rw [if_pos ⟨by omega, e⟩] at h7
      omega
    cases own with
    | true =>
      rw [bif_t rfl, if_pos rfl]
      refine (l55c N q 0 hq W true W I (by omega) (by omega) (by omega) hF2 _ N 0 (by omega) (by omega)).trans ?_
      try dsimp only
      rw [bif_t rfl]
      have : 1 ≤ W + I := by
        by_cases e : slice = 0
        · have := first e; omega
        · have := nz e; omega
      refine (cut_last q 0 _ this (by omega) κ).trans ?_
      congr 2; omega
    | false =>
      rw [bif_f rfl, bif_f rfl, if_neg (by simp)]
      by_cases e : (I : Int) = 0
      · rw [bif_t (beq_iff_eq.2 e), if_pos e]
        have : 1 ≤ W := by
          by_cases e2 : slice = 0
          · have := first e2; omega
          · have := nz e2; omega
        refine (cut_last q 0 _ this (by omega) κ).trans ?_
        congr 2; omega
      · rw [bif_f (beq_eq_false_iff_ne.2 e), if_neg e]
        simp
theorem p54 (hN : 1000 < N) (hL : 1 ≤ L ∧ L ≤ 16777215) (hq : 2 ≤ q ∧ 4 * q ≤ 400) (pass slice lane index ja jb : Int) (ja1 : 0 ≤ ja) (ja2 : ja < 4294967296) (jb1 : 0 ≤ jb) (jb2 : jb < 4294967296) (h : There t L q pass slice lane index) (κ : (Int × (Int × Unit)) × Unit → Option R) :
    p_54 (R := R) N (((s0, (t, (L, (s3, (s4, (4 * q, (q, (s7, ())))))))), pass, slice, lane, index, ja, jb, ()), ()) κ = κ ((laneOf pass slice lane jb L, (colOf pass slice index ja q (laneOf pass slice lane jb L == lane), ())), ()) := by
  have col : ∀ (own : Bool), (pass = 0 → slice = 0 → own = true) → ∀ κ' : Int → Option R,
      (p_24 N (((((colsTo (fromOf pass slice q) q (areaOf pass slice q index own).toNat).length : Nat) : Int), ja, ()), ()) fun y => bif decide (0 ≤ y) then (bif decide (y < ((colsTo (fromOf pass slice q) q (areaOf pass slice q index own).toNat).length : Int)) then κ' (List.getD (colsTo (fromOf pass slice q) q (areaOf pass slice q index own).toNat) (Int.toNat y) (Sch.zero (.int .i64))) else none) else none) = κ' (colOf pass slice index ja q own) := by
    intro own ho κ'
    obtain ⟨a1, a2⟩ := area_in t L q hq.1 pass slice lane index own h ho
    obtain ⟨p1, p2⟩ := pick_in a1 ja1 ja2
    have e0 : (((areaOf pass slice q index own).toNat : Nat) : Int) = areaOf pass slice q index own := by omega
    rw [colsTo_len, e0, p24 N _ ja a1 (by omega) ja1 ja2, bif_t (dT p1), bif_t (dT (by omega)), colsTo_get _ _ _ _ (by omega)]
    unfold colK colOf
    congr 3; omega
  unfold p_54
  try dsimp only
  rw [wrap64 (by omega) (by omega), bif_f (dF (by omega)), rem64 jb1]
  by_cases h1 : pass = 0
  · rw [bif_t (beq_iff_eq.2 h1)]
    by_cases h2 : slice = 0
    · rw [bif_t (beq_iff_eq.2 h2), p55 N s0 t L s3 s4 q s7 hN hq pass slice lane index _ h]
      have e : laneOf pass slice lane jb L = lane := by unfold laneOf; rw [if_pos ⟨h1, h2⟩]
      rw [e]
      exact col _ (fun _ _ => by simp) (fun c => κ ((lane, (c, ())), ()))
    · rw [bif_f (beq_eq_false_iff_ne.2 h2), p55 N s0 t L s3 s4 q s7 hN hq pass slice lane index _ h]
      have e : laneOf pass slice lane jb L = jb % L := by unfold laneOf; rw [if_neg (fun hh => h2 hh.2)]
      rw [e]
      exact col _ (fun _ e2 => absurd e2 h2) (fun c => κ ((jb % L, (c, ())), ()))
  · rw [bif_f (beq_eq_false_iff_ne.2 h1), p55 N s0 t L s3 s4 q s7 hN hq pass slice lane index _ h]
    have e : laneOf pass slice lane jb L = jb % L := by unfold laneOf; rw [if_neg (fun hh => h1 hh.1)]
    rw [e]
    exact col _ (fun e1 _ => absurd e1 h1) (fun c => κ ((jb % L, (c, ())), ()))
end
open Classical in
theorem p12 (N : Nat) (hN : 1000 < N) (a t m l s pass slice lane index ja jb : Int) (ja1 : 0 ≤ ja) (ja2 : ja < 4294967296) (jb1 : 0 ≤ jb) (jb2 : jb < 4294967296) (κ) :
    p_12 (R := AV) N (((a, (t, (m, (l, (s, ()))))), (pass, (slice, ())), lane, index, ja, jb, ()), ()) κ = κ (true, ()) := by
  unfold p_12
  try dsimp only
  rw [p22]
  simp only [Bool.not_true, cond_false]
  rw [p26]
  by_cases h : Fit a t m l s
  · rw [dT h]
    obtain ⟨⟨h1, h2⟩, ⟨h3, h4⟩, ⟨h5, h6⟩, ⟨h7, h8⟩, h9, h10, h11⟩ := h
    simp only [cond_true]
    generalize hq : m / (4 * l) = q
    have q0 : 4 * l * q ≤ m := by rw [← hq]; exact Int.mul_ediv_self_le (by omega)
    have q1 : 2 ≤ q := by rw [← hq]; exact (Int.le_ediv_iff_mul_le (by omega)).2 (by omega)
    by_cases g : 4 * q > 400
    · rw [bif_t (dT g)]
    rw [bif_f (dF g)]
    have hq2 : 2 ≤ q ∧ 4 * q ≤ 4294967295 := by omega
    have hq3 : 2 ≤ q ∧ 4 * q ≤ 400 := by omega
    rw [p52 N a t l m (4 * l * q) q s ⟨h3, h4⟩ ⟨h5, h6⟩ hq2 pass slice lane index ja jb ja1 ja2 jb1 jb2]
    by_cases hth : There t l q pass slice lane index
    · rw [if_pos hth]
      try dsimp only
      rw [p53 N a t l m (4 * l * q) q s pass slice lane index h5, dT hth]
      simp only [Bool.not_true, cond_false]
      rw [p54 N a t l m (4 * l * q) q s hN ⟨h5, h6⟩ hq3 pass slice lane index ja jb ja1 ja2 jb1 jb2 hth]
      try dsimp only
      rw [p55 N a t l m (4 * l * q) q s hN hq3 pass slice lane index true hth]
      try dsimp only
      rw [p55 N a t l m (4 * l * q) q s hN hq3 pass slice lane index false hth]
      try dsimp only
      obtain ⟨⟨⟨k1, k2⟩, k3, k4⟩, ⟨k5, k6⟩, k7, k8⟩ := id hth
      have idx : 0 ≤ index ∧ index < q := by split at k7 <;> omega
      obtain ⟨a1, a2⟩ := area_in t l q q1 pass slice lane index true hth (fun _ _ => rfl)
      have ef : ((colsTo (fromOf pass slice q) q (areaOf pass slice q index false).toNat).length : Int) = areaOf pass slice q index false := by
        rw [colsTo_len]
        have : 0 ≤ areaOf pass slice q index false := by
          by_cases hf : pass = 0 ∧ slice = 0
          · rw [if_pos hf] at k7
            unfold areaOf doneOf
            rw [if_neg (by simp), if_neg (by omega), if_neg (by omega), hf.2]
            omega
          · exact Int.le_trans (by omega) (area_in t l q q1 pass slice lane index false hth (fun e1 e2 => absurd ⟨e1, e2⟩ hf)).1
        omega
      have et : ((colsTo (fromOf pass slice q) q (areaOf pass slice q index true).toNat).length : Int) = areaOf pass slice q index true := by rw [colsTo_len]; omega
      rw [p56 N a t l m (4 * l * q) q s hq2 pass slice index true k1 ⟨k3, k4⟩ idx, et, ef]
      simp only [bne_self_eq_false, cond_false]
      rw [p57 N a t l m (4 * l * q) q s ⟨h5, h6⟩ pass slice lane jb jb1 jb2]
      simp only [bne_self_eq_false, cond_false]
      rw [p58 N a t l m (4 * l * q) q s hq2 pass slice ⟨k3, k4⟩, p55 N a t l m (4 * l * q) q s hN hq3 pass slice lane index true hth]
      try dsimp only
      have f0 : 0 ≤ fromOf pass slice q ∧ fromOf pass slice q < 4 * q := by
        unfold fromOf
        by_cases e : pass = 0 ∨ slice = 3
        · rw [if_pos e]; omega
        · rw [if_neg e]
          have b1 : (slice + 1) * q ≤ 3 * q := Int.mul_le_mul_of_nonneg_right (by omega) (by omega)
          have b0 : 0 ≤ (slice + 1) * q := Int.mul_nonneg (by omega) (by omega)
          omega
      rw [et, bif_t (dT (by omega)), colsTo_get _ _ _ _ (by omega)]
      have eh : colK (fromOf pass slice q) q 0 = fromOf pass slice q := by
        unfold colK
        rw [show ((0 : Nat) : Int) = 0 from rfl, Int.add_zero, Int.emod_eq_of_lt f0.1 f0.2]
      rw [eh]
      simp only [bne_self_eq_false, cond_false, beq_self_eq_true, cond_true, pair_s, and_self, decide_true]
      rw [p56 N a t l m (4 * l * q) q s hq2 pass slice index false k1 ⟨k3, k4⟩ idx]
      simp
    · rw [if_neg hth]
      try dsimp only
      rw [p53 N a t l m (4 * l * q) q s pass slice lane index h5, dF hth]
      simp [pair_s]
  · rw [dF h]
    rfl
theorem law_all (y0 : Sch.den (.stru (.fcons (.int .i64) (.fcons (.int .i64) (.fcons (.int .i64) (.fcons (.int .i64) (.fcons (.int .i64) .fnil))))))) {P0 : Prop} (wf0 : P0) (y1 : Sch.den (.stru (.fcons (.int .i64) (.fcons (.int .i64) .fnil)))) {P1 : Prop} (wf1 : P1) (y2 : Int) {P2 : Prop} (wf2 : P2) (y3 : Int) {P3 : Prop} (wf3 : P3)
    (y4 : Int) (wf4 : WF (.int .u32) y4) (y5 : Int) (wf5 : WF (.int .u32) y5) :
    ∃ H', ACalls Try.prog 12 [toAV (.stru (.fcons (.int .i64) (.fcons (.int .i64) (.fcons (.int .i64) (.fcons (.int .i64) (.fcons (.int .i64) .fnil)))))) y0, toAV (.stru (.fcons (.int .i64) (.fcons (.int .i64) .fnil))) y1, toAV (.int .i64) y2, toAV (.int .i64) y3, toAV (.int .u32) y4, toAV (.int .u32) y5] [] (.bool true) H' :=
  gd_law (good_12 1001) (x := (y0, y1, y2, y3, y4, y5, ())) (by
    obtain ⟨a, t, m, l, s, u⟩ := y0
    obtain ⟨p, i, v⟩ := y1
    exact p12 1001 (by omega) a t m l s p i y2 y3 y4 y5 (wf_u32 wf4).1 (wf_u32 wf4).2 (wf_u32 wf5).1 (wf_u32 wf5).2 _)
end Go.Proofs.Ytjehpceomlnicaa.Eng
