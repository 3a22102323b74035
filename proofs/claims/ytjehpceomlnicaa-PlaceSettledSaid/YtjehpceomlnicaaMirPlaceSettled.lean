/-
Plain functions that the functions of the program are shown to come to, printed by a program of the prover; each with its proof.
Conditions: none.
-/
import Derived.Test.YtjehpceomlnicaaProg
import Derived.Test.YtjehpceomlnicaaEngY
import Derived.KernelRfl
set_option linter.unusedVariables false
set_option linter.unusedSimpArgs false
namespace Go.Proofs.Ytjehpceomlnicaa.Eng
def TT : Types := [(35, ⟨.stru [(3, 0), (3, 1), (3, 2), (3, 3), (3, 4)], 5, 40, .node (.fcons (.int .i64 0) (.fcons (.int .i64 0) (.fcons (.int .i64 0) (.fcons (.int .i64 0) (.fcons (.int .i64 0) (.fnil)))))), some (.stru (.fcons (.int .i64) (.fcons (.int .i64) (.fcons (.int .i64) (.fcons (.int .i64) (.fcons (.int .i64) (.fnil))))))), true⟩),
  (79, ⟨.stru [(3, 0), (3, 1)], 2, 16, .node (.fcons (.int .i64 0) (.fcons (.int .i64 0) (.fnil))), some (.stru (.fcons (.int .i64) (.fcons (.int .i64) (.fnil)))), true⟩),
  (3, ⟨.int .i64, 1, 8, .int .i64 0, some (.int .i64), false⟩),
  (31, ⟨.int .u32, 1, 4, .int .u32 0, some (.int .u32), false⟩),
  (4, ⟨.bool, 1, 1, .bool false, some (.bool), false⟩),
  (61, ⟨.int .u64, 1, 8, .int .u64 0, some (.int .u64), false⟩),
  (37, ⟨.stru [(3, 0), (3, 1), (3, 2), (3, 3), (3, 4), (3, 5), (3, 6), (3, 7)], 8, 64, .node (.fcons (.int .i64 0) (.fcons (.int .i64 0) (.fcons (.int .i64 0) (.fcons (.int .i64 0) (.fcons (.int .i64 0) (.fcons (.int .i64 0) (.fcons (.int .i64 0) (.fcons (.int .i64 0) (.fnil))))))))), some (.stru (.fcons (.int .i64) (.fcons (.int .i64) (.fcons (.int .i64) (.fcons (.int .i64) (.fcons (.int .i64) (.fcons (.int .i64) (.fcons (.int .i64) (.fcons (.int .i64) (.fnil)))))))))), true⟩),
  (38, ⟨.int .i64, 1, 8, .int .i64 0, some (.int .i64), false⟩),
  (88, ⟨.stru [(3, 0), (3, 1)], 2, 16, .node (.fcons (.int .i64 0) (.fcons (.int .i64 0) (.fnil))), some (.stru (.fcons (.int .i64) (.fcons (.int .i64) (.fnil)))), true⟩),
  (158, ⟨.slice 88, 1, 24, .nils, some (.sl (.stru (.fcons (.int .i64) (.fcons (.int .i64) (.fnil))))), false⟩)]
theorem tyok : TyOk Try.prog TT := TyOk.of (by kernel_rfl)
theorem mixed : Try.prog.follows .mixedOrders = true := by kernel_rfl
def QQ : FuncId → Bool := fun f => memN [23, 50, 58, 64, 87] f
def LN : FuncId → Bool := fun f => memN [64] f
def ap_86 : List Pat := [.int .u64, .int .u64]
def hp_86 : List (Option (Pat × Nat)) := []
def p_86 {R : Type} (N : Nat) (x : (Int × Int × Unit) × (Unit)) (κ0 : ((Int × (Int × Unit)) × (Unit)) → Option R) : Option R :=
let i19 : Int := x.1.1
let i20 : Int := x.1.2.1
let i21 : Int := andA .u64 i19 4294967295
let i22 : Int := shrA .u64 i19 32
let i23 : Int := andA .u64 i20 4294967295
let i24 : Int := shrA .u64 i20 32
let i25 : Int := mulA .u64 i21 i23
let i26 : Int := mulA .u64 i22 i23
let i27 : Int := shrA .u64 i25 32
let i28 : Int := addA .u64 i26 i27
let i29 : Int := andA .u64 i28 4294967295
let i30 : Int := shrA .u64 i28 32
let i31 : Int := mulA .u64 i21 i24
let i32 : Int := addA .u64 i29 i31
let i33 : Int := mulA .u64 i22 i24
let i34 : Int := addA .u64 i33 i30
let i35 : Int := shrA .u64 i32 32
let i36 : Int := addA .u64 i34 i35
let i37 : Int := mulA .u64 i19 i20
κ0 ((i36, (i37, ())), ())

def Q_86 {R : Type} (x : (Int × Int × Unit) × (Unit)) (κ0 : ((Int × (Int × Unit)) × (Unit)) → Option R) : Option R :=
let i19 : Int := x.1.1
let i20 : Int := x.1.2.1
let i21 : Int := andA .u64 i19 4294967295
let i22 : Int := shrA .u64 i19 32
let i23 : Int := andA .u64 i20 4294967295
let i24 : Int := shrA .u64 i20 32
let i25 : Int := mulA .u64 i21 i23
let i26 : Int := mulA .u64 i22 i23
let i27 : Int := shrA .u64 i25 32
let i28 : Int := addA .u64 i26 i27
let i29 : Int := andA .u64 i28 4294967295
let i30 : Int := shrA .u64 i28 32
let i31 : Int := mulA .u64 i21 i24
let i32 : Int := addA .u64 i29 i31
let i33 : Int := mulA .u64 i22 i24
let i34 : Int := addA .u64 i33 i30
let i35 : Int := shrA .u64 i32 32
let i36 : Int := addA .u64 i34 i35
let i37 : Int := mulA .u64 i19 i20
κ0 ((i36, (i37, ())), ())
def EG_86 {R : Type} : Env R := Env.base QQ LN
def LG_86 {R : Type} : Loops R := Loops.none
def E_86 {R : Type} (N : Nat) : Env R := EG_86
theorem eok_86 {R : Type} (N : Nat) : EK Try.prog (E_86 (R := R) N) := ek_base _ _
def L_86 {R : Type} (N : Nat) : Loops R := LG_86
theorem lok_86 {R : Type} (N : Nat) : LOK 0 TT (E_86 (R := R) N) (drawOk TT QQ) (L_86 N) (bodyOf Try.f86) := loops_nil (by kernel_rfl)
theorem grun_86 {R : Type} (x : aden ap_86 × hden hp_86) (k : KF R) : fnrun TT (EG_86) (drawOk TT QQ) (LG_86) true Try.f86 (instA ap_86 x.1) (instH hp_86 x.2) k = Q_86 x (fun y => k (Pat.inst (.tup (.fcons (.int .u64) (.fcons (.int .u64) (.fnil)))) y.1) (instH [] y.2)) := by kernel_rfl
theorem run_86 {R : Type} (N : Nat) (x : aden ap_86 × hden hp_86) (k : KF R) : fnrun TT (E_86 (R := R) N) (drawOk TT QQ) (L_86 N) true Try.f86 (instA ap_86 x.1) (instH hp_86 x.2) k = p_86 N x (fun y => k (Pat.inst (.tup (.fcons (.int .u64) (.fcons (.int .u64) (.fnil)))) y.1) (instH [] y.2)) := (grun_86 x k).trans (by kernel_rfl)
theorem good_86 {R : Type} (N : Nat) : GD (X := R) Try.prog QQ 86 ap_86 hp_86 (fun (x : aden ap_86 × hden hp_86) k => p_86 N x (fun y => k (Pat.inst (.tup (.fcons (.int .u64) (.fcons (.int .u64) (.fnil)))) y.1) (instH [] y.2))) :=
  gd_loud (E := E_86 N) (p := fun (x : aden ap_86 × hden hp_86) k => p_86 N x (fun y => k (Pat.inst (.tup (.fcons (.int .u64) (.fcons (.int .u64) (.fnil)))) y.1) (instH [] y.2))) mixed tyok (eok_86 N) Try.func86 (by kernel_rfl) (by kernel_rfl) (by kernel_rfl) (lok_86 N) (fun x k => run_86 N x k)

def ap_23 : List Pat := [.int .i64, .int .u32]
def hp_23 : List (Option (Pat × Nat)) := []
def p_23 {R : Type} (N : Nat) (x : (Int × Int × Unit) × (Unit)) (κ0 : Int → Option R) : Option R :=
let i12 : Int := x.1.1
let i13 : Int := x.1.2.1
bif (decide (i12 < 1)) then (
κ0 0) else (
let i14 : Int := IntKind.wrap .u64 i13
let i15 : Int := IntKind.wrap .u64 i13
let i16 : Int := mulA .u64 i14 i15
let i17 : Int := shrA .u64 i16 32
let i18 : Int := IntKind.wrap .u64 i12
p_86 N ((i18, i17, ()), ()) (fun y38 =>
let i39 : Int := y38.1.1
let i40 : Int := y38.1.2.1
let i41 : Int := shlA .u64 i39 32
let i42 : Int := shrA .u64 i40 32
let i43 : Int := orA .u64 i41 i42
let i44 : Int := subA .i64 i12 1
let i45 : Int := IntKind.wrap .i64 i43
let i46 : Int := subA .i64 i44 i45
κ0 i46))

def Q_23 {R : Type} (q_86 : (Int × Int × Unit) × (Unit) → (((Int × (Int × Unit)) × (Unit)) → Option R) → Option R) (x : (Int × Int × Unit) × (Unit)) (κ0 : Int → Option R) : Option R :=
let i12 : Int := x.1.1
let i13 : Int := x.1.2.1
bif (decide (i12 < 1)) then (
κ0 0) else (
let i14 : Int := IntKind.wrap .u64 i13
let i15 : Int := IntKind.wrap .u64 i13
let i16 : Int := mulA .u64 i14 i15
let i17 : Int := shrA .u64 i16 32
let i18 : Int := IntKind.wrap .u64 i12
q_86 ((i18, i17, ()), ()) (fun y38 =>
let i39 : Int := y38.1.1
let i40 : Int := y38.1.2.1
let i41 : Int := shlA .u64 i39 32
let i42 : Int := shrA .u64 i40 32
let i43 : Int := orA .u64 i41 i42
let i44 : Int := subA .i64 i12 1
let i45 : Int := IntKind.wrap .i64 i43
let i46 : Int := subA .i64 i44 i45
κ0 i46))
def EG_23 {R : Type} (q_86 : (Int × Int × Unit) × (Unit) → (((Int × (Int × Unit)) × (Unit)) → Option R) → Option R) : Env R := (Env.base QQ LN).add 86 ap_86 hp_86 (fun (x : aden ap_86 × hden hp_86) k => q_86 x (fun y => k (Pat.inst (.tup (.fcons (.int .u64) (.fcons (.int .u64) (.fnil)))) y.1) (instH [] y.2)))
def LG_23 {R : Type} : Loops R := Loops.none
def E_23 {R : Type} (N : Nat) : Env R := EG_23 (p_86 N)
theorem eok_23 {R : Type} (N : Nat) : EK Try.prog (E_23 (R := R) N) := ek_add (ek_base _ _) (good_86 N)
def L_23 {R : Type} (N : Nat) : Loops R := LG_23
theorem lok_23 {R : Type} (N : Nat) : LOK 0 TT (E_23 (R := R) N) (drawOk TT QQ) (L_23 N) (bodyOf Try.f23) := loops_nil (by kernel_rfl)
theorem grun_23 {R : Type} (q_86 : (Int × Int × Unit) × (Unit) → (((Int × (Int × Unit)) × (Unit)) → Option R) → Option R) (x : aden ap_23 × hden hp_23) (k : KF R) : fnrun TT (EG_23 q_86) (drawOk TT QQ) (LG_23) true Try.f23 (instA ap_23 x.1) (instH hp_23 x.2) k = Q_23 q_86 x (fun y => k (Pat.inst (.int .i64) y) (instH hp_23 x.2)) := by kernel_rfl
theorem run_23 {R : Type} (N : Nat) (x : aden ap_23 × hden hp_23) (k : KF R) : fnrun TT (E_23 (R := R) N) (drawOk TT QQ) (L_23 N) true Try.f23 (instA ap_23 x.1) (instH hp_23 x.2) k = p_23 N x (fun y => k (Pat.inst (.int .i64) y) (instH hp_23 x.2)) := (grun_23 (p_86 N) x k).trans (by kernel_rfl)
theorem good_23 {R : Type} (N : Nat) : GD (X := R) Try.prog QQ 23 ap_23 hp_23 (fun (x : aden ap_23 × hden hp_23) k => p_23 N x (fun y => k (Pat.inst (.int .i64) y) (instH hp_23 x.2))) :=
  gd_quiet (E := E_23 N) (p := fun (x : aden ap_23 × hden hp_23) κ => p_23 N x (fun y => κ (Pat.inst (.int .i64) y))) mixed tyok (eok_23 N) Try.func23 (by kernel_rfl) (by kernel_rfl) (lok_23 N) (fun x k => run_23 N x k)

def ap_22 : List Pat := []
def hp_22 : List (Option (Pat × Nat)) := []
def p_22 {R : Type} (N : Nat) (x : (Unit) × (Unit)) (κ0 : (Bool × (Unit)) → Option R) : Option R :=
p_23 N ((10, 0, ()), ()) (fun y47 =>
let i48 : Int := y47
bif (i48 == 9) then (
p_23 N ((10, 4294967295, ()), ()) (fun y49 =>
let i50 : Int := y49
κ0 ((i50 == 0), ()))) else (
κ0 (false, ())))

def Q_22 {R : Type} (q_23 : (Int × Int × Unit) × (Unit) → (Int → Option R) → Option R) (x : (Unit) × (Unit)) (κ0 : (Bool × (Unit)) → Option R) : Option R :=
q_23 ((10, 0, ()), ()) (fun y47 =>
let i48 : Int := y47
bif (i48 == 9) then (
q_23 ((10, 4294967295, ()), ()) (fun y49 =>
let i50 : Int := y49
κ0 ((i50 == 0), ()))) else (
κ0 (false, ())))
def EG_22 {R : Type} (q_23 : (Int × Int × Unit) × (Unit) → (Int → Option R) → Option R) : Env R := (Env.base QQ LN).add 23 ap_23 hp_23 (fun (x : aden ap_23 × hden hp_23) k => q_23 x (fun y => k (Pat.inst (.int .i64) y) (instH hp_23 x.2)))
def LG_22 {R : Type} : Loops R := Loops.none
def E_22 {R : Type} (N : Nat) : Env R := EG_22 (p_23 N)
theorem eok_22 {R : Type} (N : Nat) : EK Try.prog (E_22 (R := R) N) := ek_add (ek_base _ _) (good_23 N)
def L_22 {R : Type} (N : Nat) : Loops R := LG_22
theorem lok_22 {R : Type} (N : Nat) : LOK 0 TT (E_22 (R := R) N) (drawOk TT QQ) (L_22 N) (bodyOf Try.f22) := loops_nil (by kernel_rfl)
theorem grun_22 {R : Type} (q_23 : (Int × Int × Unit) × (Unit) → (Int → Option R) → Option R) (x : aden ap_22 × hden hp_22) (k : KF R) : fnrun TT (EG_22 q_23) (drawOk TT QQ) (LG_22) true Try.f22 (instA ap_22 x.1) (instH hp_22 x.2) k = Q_22 q_23 x (fun y => k (Pat.inst (.bool) y.1) (instH [] y.2)) := by kernel_rfl
theorem run_22 {R : Type} (N : Nat) (x : aden ap_22 × hden hp_22) (k : KF R) : fnrun TT (E_22 (R := R) N) (drawOk TT QQ) (L_22 N) true Try.f22 (instA ap_22 x.1) (instH hp_22 x.2) k = p_22 N x (fun y => k (Pat.inst (.bool) y.1) (instH [] y.2)) := (grun_22 (p_23 N) x k).trans (by kernel_rfl)
theorem good_22 {R : Type} (N : Nat) : GD (X := R) Try.prog QQ 22 ap_22 hp_22 (fun (x : aden ap_22 × hden hp_22) k => p_22 N x (fun y => k (Pat.inst (.bool) y.1) (instH [] y.2))) :=
  gd_loud (E := E_22 N) (p := fun (x : aden ap_22 × hden hp_22) k => p_22 N x (fun y => k (Pat.inst (.bool) y.1) (instH [] y.2))) mixed tyok (eok_22 N) Try.func22 (by kernel_rfl) (by kernel_rfl) (by kernel_rfl) (lok_22 N) (fun x k => run_22 N x k)

def ap_87 : List Pat := [.int .i64, .int .i64, .int .i64]
def hp_87 : List (Option (Pat × Nat)) := []
def p_87 {R : Type} (N : Nat) (x : (Int × Int × Int × Unit) × (Unit)) (κ0 : Bool → Option R) : Option R :=
let i58 : Int := x.1.1
let i59 : Int := x.1.2.1
let i60 : Int := x.1.2.2.1
bif (decide (i58 ≥ i59)) then (
κ0 ((decide (i58 ≤ i60)))) else (
κ0 false)

def Q_87 {R : Type} (x : (Int × Int × Int × Unit) × (Unit)) (κ0 : Bool → Option R) : Option R :=
let i58 : Int := x.1.1
let i59 : Int := x.1.2.1
let i60 : Int := x.1.2.2.1
bif (decide (i58 ≥ i59)) then (
κ0 ((decide (i58 ≤ i60)))) else (
κ0 false)
def EG_87 {R : Type} : Env R := Env.base QQ LN
def LG_87 {R : Type} : Loops R := Loops.none
def E_87 {R : Type} (N : Nat) : Env R := EG_87
theorem eok_87 {R : Type} (N : Nat) : EK Try.prog (E_87 (R := R) N) := ek_base _ _
def L_87 {R : Type} (N : Nat) : Loops R := LG_87
theorem lok_87 {R : Type} (N : Nat) : LOK 0 TT (E_87 (R := R) N) (drawOk TT QQ) (L_87 N) (bodyOf Try.f87) := loops_nil (by kernel_rfl)
theorem grun_87 {R : Type} (x : aden ap_87 × hden hp_87) (k : KF R) : fnrun TT (EG_87) (drawOk TT QQ) (LG_87) true Try.f87 (instA ap_87 x.1) (instH hp_87 x.2) k = Q_87 x (fun y => k (Pat.inst (.bool) y) (instH hp_87 x.2)) := by kernel_rfl
theorem run_87 {R : Type} (N : Nat) (x : aden ap_87 × hden hp_87) (k : KF R) : fnrun TT (E_87 (R := R) N) (drawOk TT QQ) (L_87 N) true Try.f87 (instA ap_87 x.1) (instH hp_87 x.2) k = p_87 N x (fun y => k (Pat.inst (.bool) y) (instH hp_87 x.2)) := (grun_87 x k).trans (by kernel_rfl)
theorem good_87 {R : Type} (N : Nat) : GD (X := R) Try.prog QQ 87 ap_87 hp_87 (fun (x : aden ap_87 × hden hp_87) k => p_87 N x (fun y => k (Pat.inst (.bool) y) (instH hp_87 x.2))) :=
  gd_quiet (E := E_87 N) (p := fun (x : aden ap_87 × hden hp_87) κ => p_87 N x (fun y => κ (Pat.inst (.bool) y))) mixed tyok (eok_87 N) Try.func87 (by kernel_rfl) (by kernel_rfl) (lok_87 N) (fun x k => run_87 N x k)

def ap_116 : List Pat := [.int .i64]
def hp_116 : List (Option (Pat × Nat)) := []
def p_116 {R : Type} (N : Nat) (x : (Int × Unit) × (Unit)) (κ0 : (Bool × (Unit)) → Option R) : Option R :=
let i75 : Int := x.1.1
bif (decide (i75 ≥ 0)) then (
κ0 ((decide (i75 ≤ 4611686018427387904)), ())) else (
κ0 (false, ()))

def Q_116 {R : Type} (x : (Int × Unit) × (Unit)) (κ0 : (Bool × (Unit)) → Option R) : Option R :=
let i75 : Int := x.1.1
bif (decide (i75 ≥ 0)) then (
κ0 ((decide (i75 ≤ 4611686018427387904)), ())) else (
κ0 (false, ()))
def EG_116 {R : Type} : Env R := Env.base QQ LN
def LG_116 {R : Type} : Loops R := Loops.none
def E_116 {R : Type} (N : Nat) : Env R := EG_116
theorem eok_116 {R : Type} (N : Nat) : EK Try.prog (E_116 (R := R) N) := ek_base _ _
def L_116 {R : Type} (N : Nat) : Loops R := LG_116
theorem lok_116 {R : Type} (N : Nat) : LOK 0 TT (E_116 (R := R) N) (drawOk TT QQ) (L_116 N) (bodyOf Try.f116) := loops_nil (by kernel_rfl)
theorem grun_116 {R : Type} (x : aden ap_116 × hden hp_116) (k : KF R) : fnrun TT (EG_116) (drawOk TT QQ) (LG_116) true Try.f116 (instA ap_116 x.1) (instH hp_116 x.2) k = Q_116 x (fun y => k (Pat.inst (.bool) y.1) (instH [] y.2)) := by kernel_rfl
theorem run_116 {R : Type} (N : Nat) (x : aden ap_116 × hden hp_116) (k : KF R) : fnrun TT (E_116 (R := R) N) (drawOk TT QQ) (L_116 N) true Try.f116 (instA ap_116 x.1) (instH hp_116 x.2) k = p_116 N x (fun y => k (Pat.inst (.bool) y.1) (instH [] y.2)) := (grun_116 x k).trans (by kernel_rfl)
theorem good_116 {R : Type} (N : Nat) : GD (X := R) Try.prog QQ 116 ap_116 hp_116 (fun (x : aden ap_116 × hden hp_116) k => p_116 N x (fun y => k (Pat.inst (.bool) y.1) (instH [] y.2))) :=
  gd_loud (E := E_116 N) (p := fun (x : aden ap_116 × hden hp_116) k => p_116 N x (fun y => k (Pat.inst (.bool) y.1) (instH [] y.2))) mixed tyok (eok_116 N) Try.func116 (by kernel_rfl) (by kernel_rfl) (by kernel_rfl) (lok_116 N) (fun x k => run_116 N x k)

def ap_88 : List Pat := [.int .i64, .int .i64]
def hp_88 : List (Option (Pat × Nat)) := []
def p_88 {R : Type} (N : Nat) (x : (Int × Int × Unit) × (Unit)) (κ0 : ((Int × (Int × Unit)) × (Unit)) → Option R) : Option R :=
let i73 : Int := x.1.1
let i74 : Int := x.1.2.1
p_116 N ((i73, ()), ()) (fun y76 =>
let b77 : Bool := y76.1
bif (!b77) then (
κ0 ((0, (1, ())), ())) else (
bif (decide (i74 < 1)) then (
κ0 ((0, (1, ())), ())) else (
bif decide (i74 = 0) then none else (
let i78 : Int := remA .i64 i73 i74
let i79 : Int := subA .i64 i73 i78
κ0 ((i79, (0, ())), ())))))

def Q_88 {R : Type} (q_116 : (Int × Unit) × (Unit) → ((Bool × (Unit)) → Option R) → Option R) (x : (Int × Int × Unit) × (Unit)) (κ0 : ((Int × (Int × Unit)) × (Unit)) → Option R) : Option R :=
let i73 : Int := x.1.1
let i74 : Int := x.1.2.1
q_116 ((i73, ()), ()) (fun y76 =>
let b77 : Bool := y76.1
bif (!b77) then (
κ0 ((0, (1, ())), ())) else (
bif (decide (i74 < 1)) then (
κ0 ((0, (1, ())), ())) else (
bif decide (i74 = 0) then none else (
let i78 : Int := remA .i64 i73 i74
let i79 : Int := subA .i64 i73 i78
κ0 ((i79, (0, ())), ())))))
def EG_88 {R : Type} (q_116 : (Int × Unit) × (Unit) → ((Bool × (Unit)) → Option R) → Option R) : Env R := (Env.base QQ LN).add 116 ap_116 hp_116 (fun (x : aden ap_116 × hden hp_116) k => q_116 x (fun y => k (Pat.inst (.bool) y.1) (instH [] y.2)))
def LG_88 {R : Type} : Loops R := Loops.none
def E_88 {R : Type} (N : Nat) : Env R := EG_88 (p_116 N)
theorem eok_88 {R : Type} (N : Nat) : EK Try.prog (E_88 (R := R) N) := ek_add (ek_base _ _) (good_116 N)
def L_88 {R : Type} (N : Nat) : Loops R := LG_88
theorem lok_88 {R : Type} (N : Nat) : LOK 0 TT (E_88 (R := R) N) (drawOk TT QQ) (L_88 N) (bodyOf Try.f88) := loops_nil (by kernel_rfl)
theorem grun_88 {R : Type} (q_116 : (Int × Unit) × (Unit) → ((Bool × (Unit)) → Option R) → Option R) (x : aden ap_88 × hden hp_88) (k : KF R) : fnrun TT (EG_88 q_116) (drawOk TT QQ) (LG_88) true Try.f88 (instA ap_88 x.1) (instH hp_88 x.2) k = Q_88 q_116 x (fun y => k (Pat.inst (.tup (.fcons (.int .i64) (.fcons (.int .i64) (.fnil)))) y.1) (instH [] y.2)) := by kernel_rfl
theorem run_88 {R : Type} (N : Nat) (x : aden ap_88 × hden hp_88) (k : KF R) : fnrun TT (E_88 (R := R) N) (drawOk TT QQ) (L_88 N) true Try.f88 (instA ap_88 x.1) (instH hp_88 x.2) k = p_88 N x (fun y => k (Pat.inst (.tup (.fcons (.int .i64) (.fcons (.int .i64) (.fnil)))) y.1) (instH [] y.2)) := (grun_88 (p_116 N) x k).trans (by kernel_rfl)
theorem good_88 {R : Type} (N : Nat) : GD (X := R) Try.prog QQ 88 ap_88 hp_88 (fun (x : aden ap_88 × hden hp_88) k => p_88 N x (fun y => k (Pat.inst (.tup (.fcons (.int .i64) (.fcons (.int .i64) (.fnil)))) y.1) (instH [] y.2))) :=
  gd_loud (E := E_88 N) (p := fun (x : aden ap_88 × hden hp_88) k => p_88 N x (fun y => k (Pat.inst (.tup (.fcons (.int .i64) (.fcons (.int .i64) (.fnil)))) y.1) (instH [] y.2))) mixed tyok (eok_88 N) Try.func88 (by kernel_rfl) (by kernel_rfl) (by kernel_rfl) (lok_88 N) (fun x k => run_88 N x k)

def ap_26 : List Pat := [.node (.fcons (.int .i64) (.fcons (.int .i64) (.fcons (.int .i64) (.fcons (.int .i64) (.fcons (.int .i64) (.fnil))))))]
def hp_26 : List (Option (Pat × Nat)) := []
def p_26 {R : Type} (N : Nat) (x : ((Int × (Int × (Int × (Int × (Int × Unit))))) × Unit) × (Unit)) (κ0 : (((Int × (Int × (Int × (Int × (Int × (Int × (Int × (Int × Unit)))))))) × (Int × Unit)) × (Unit)) → Option R) : Option R :=
let i53 : Int := x.1.1.1
let i54 : Int := x.1.1.2.1
let i55 : Int := x.1.1.2.2.1
let i56 : Int := x.1.1.2.2.2.1
let i57 : Int := x.1.1.2.2.2.2.1
p_87 N ((i53, 1, 3, ()), ()) (fun y61 =>
let b62 : Bool := y61
bif b62 then (
p_87 N ((i54, 1, 4294967295, ()), ()) (fun y63 =>
let b64 : Bool := y63
bif b64 then (
p_87 N ((i56, 1, 16777215, ()), ()) (fun y65 =>
let b66 : Bool := y65
bif b66 then (
p_87 N ((i55, 1, 4294967295, ()), ()) (fun y67 =>
let b68 : Bool := y67
bif b68 then (
let i69 : Int := quoA .i64 i55 8
bif (decide (i69 ≥ i56)) then (
p_87 N ((i57, 4, 1024, ()), ()) (fun y70 =>
let b71 : Bool := y70
bif (!b71) then (
κ0 (((0, (0, (0, (0, (0, (0, (0, (0, ())))))))), (2, ())), ())) else (
let i72 : Int := mulA .i64 4 i56
p_88 N ((i55, i72, ()), ()) (fun y80 =>
let i81 : Int := y80.1.1
let i82 : Int := y80.1.2.1
bif decide (i56 = 0) then none else (
let i83 : Int := quoA .i64 i81 i56
let i84 : Int := quoA .i64 i83 4
κ0 (((i53, (i54, (i56, (i55, (i81, (i83, (i84, (i57, ())))))))), (0, ())), ())))))) else (
κ0 (((0, (0, (0, (0, (0, (0, (0, (0, ())))))))), (2, ())), ()))) else (
κ0 (((0, (0, (0, (0, (0, (0, (0, (0, ())))))))), (2, ())), ())))) else (
κ0 (((0, (0, (0, (0, (0, (0, (0, (0, ())))))))), (2, ())), ())))) else (
κ0 (((0, (0, (0, (0, (0, (0, (0, (0, ())))))))), (2, ())), ())))) else (
κ0 (((0, (0, (0, (0, (0, (0, (0, (0, ())))))))), (2, ())), ())))

def Q_26 {R : Type} (q_87 : (Int × Int × Int × Unit) × (Unit) → (Bool → Option R) → Option R) (q_88 : (Int × Int × Unit) × (Unit) → (((Int × (Int × Unit)) × (Unit)) → Option R) → Option R) (x : ((Int × (Int × (Int × (Int × (Int × Unit))))) × Unit) × (Unit)) (κ0 : (((Int × (Int × (Int × (Int × (Int × (Int × (Int × (Int × Unit)))))))) × (Int × Unit)) × (Unit)) → Option R) : Option R :=
let i53 : Int := x.1.1.1
let i54 : Int := x.1.1.2.1
let i55 : Int := x.1.1.2.2.1
let i56 : Int := x.1.1.2.2.2.1
let i57 : Int := x.1.1.2.2.2.2.1
q_87 ((i53, 1, 3, ()), ()) (fun y61 =>
let b62 : Bool := y61
bif b62 then (
q_87 ((i54, 1, 4294967295, ()), ()) (fun y63 =>
let b64 : Bool := y63
bif b64 then (
q_87 ((i56, 1, 16777215, ()), ()) (fun y65 =>
let b66 : Bool := y65
bif b66 then (
q_87 ((i55, 1, 4294967295, ()), ()) (fun y67 =>
let b68 : Bool := y67
bif b68 then (
let i69 : Int := quoA .i64 i55 8
bif (decide (i69 ≥ i56)) then (
q_87 ((i57, 4, 1024, ()), ()) (fun y70 =>
let b71 : Bool := y70
bif (!b71) then (
κ0 (((0, (0, (0, (0, (0, (0, (0, (0, ())))))))), (2, ())), ())) else (
let i72 : Int := mulA .i64 4 i56
q_88 ((i55, i72, ()), ()) (fun y80 =>
let i81 : Int := y80.1.1
let i82 : Int := y80.1.2.1
bif decide (i56 = 0) then none else (
let i83 : Int := quoA .i64 i81 i56
let i84 : Int := quoA .i64 i83 4
κ0 (((i53, (i54, (i56, (i55, (i81, (i83, (i84, (i57, ())))))))), (0, ())), ())))))) else (
κ0 (((0, (0, (0, (0, (0, (0, (0, (0, ())))))))), (2, ())), ()))) else (
κ0 (((0, (0, (0, (0, (0, (0, (0, (0, ())))))))), (2, ())), ())))) else (
κ0 (((0, (0, (0, (0, (0, (0, (0, (0, ())))))))), (2, ())), ())))) else (
κ0 (((0, (0, (0, (0, (0, (0, (0, (0, ())))))))), (2, ())), ())))) else (
κ0 (((0, (0, (0, (0, (0, (0, (0, (0, ())))))))), (2, ())), ())))
def EG_26 {R : Type} (q_87 : (Int × Int × Int × Unit) × (Unit) → (Bool → Option R) → Option R) (q_88 : (Int × Int × Unit) × (Unit) → (((Int × (Int × Unit)) × (Unit)) → Option R) → Option R) : Env R := ((Env.base QQ LN).add 87 ap_87 hp_87 (fun (x : aden ap_87 × hden hp_87) k => q_87 x (fun y => k (Pat.inst (.bool) y) (instH hp_87 x.2)))).add 88 ap_88 hp_88 (fun (x : aden ap_88 × hden hp_88) k => q_88 x (fun y => k (Pat.inst (.tup (.fcons (.int .i64) (.fcons (.int .i64) (.fnil)))) y.1) (instH [] y.2)))
def LG_26 {R : Type} : Loops R := Loops.none
def E_26 {R : Type} (N : Nat) : Env R := EG_26 (p_87 N) (p_88 N)
theorem eok_26 {R : Type} (N : Nat) : EK Try.prog (E_26 (R := R) N) := ek_add (ek_add (ek_base _ _) (good_87 N)) (good_88 N)
def L_26 {R : Type} (N : Nat) : Loops R := LG_26
theorem lok_26 {R : Type} (N : Nat) : LOK 0 TT (E_26 (R := R) N) (drawOk TT QQ) (L_26 N) (bodyOf Try.f26) := loops_nil (by kernel_rfl)
theorem grun_26 {R : Type} (q_87 : (Int × Int × Int × Unit) × (Unit) → (Bool → Option R) → Option R) (q_88 : (Int × Int × Unit) × (Unit) → (((Int × (Int × Unit)) × (Unit)) → Option R) → Option R) (x : aden ap_26 × hden hp_26) (k : KF R) : fnrun TT (EG_26 q_87 q_88) (drawOk TT QQ) (LG_26) true Try.f26 (instA ap_26 x.1) (instH hp_26 x.2) k = Q_26 q_87 q_88 x (fun y => k (Pat.inst (.tup (.fcons (.node (.fcons (.int .i64) (.fcons (.int .i64) (.fcons (.int .i64) (.fcons (.int .i64) (.fcons (.int .i64) (.fcons (.int .i64) (.fcons (.int .i64) (.fcons (.int .i64) (.fnil)))))))))) (.fcons (.int .i64) (.fnil)))) y.1) (instH [] y.2)) := by kernel_rfl
theorem run_26 {R : Type} (N : Nat) (x : aden ap_26 × hden hp_26) (k : KF R) : fnrun TT (E_26 (R := R) N) (drawOk TT QQ) (L_26 N) true Try.f26 (instA ap_26 x.1) (instH hp_26 x.2) k = p_26 N x (fun y => k (Pat.inst (.tup (.fcons (.node (.fcons (.int .i64) (.fcons (.int .i64) (.fcons (.int .i64) (.fcons (.int .i64) (.fcons (.int .i64) (.fcons (.int .i64) (.fcons (.int .i64) (.fcons (.int .i64) (.fnil)))))))))) (.fcons (.int .i64) (.fnil)))) y.1) (instH [] y.2)) := (grun_26 (p_87 N) (p_88 N) x k).trans (by kernel_rfl)
theorem good_26 {R : Type} (N : Nat) : GD (X := R) Try.prog QQ 26 ap_26 hp_26 (fun (x : aden ap_26 × hden hp_26) k => p_26 N x (fun y => k (Pat.inst (.tup (.fcons (.node (.fcons (.int .i64) (.fcons (.int .i64) (.fcons (.int .i64) (.fcons (.int .i64) (.fcons (.int .i64) (.fcons (.int .i64) (.fcons (.int .i64) (.fcons (.int .i64) (.fnil)))))))))) (.fcons (.int .i64) (.fnil)))) y.1) (instH [] y.2))) :=
  gd_loud (E := E_26 N) (p := fun (x : aden ap_26 × hden hp_26) k => p_26 N x (fun y => k (Pat.inst (.tup (.fcons (.node (.fcons (.int .i64) (.fcons (.int .i64) (.fcons (.int .i64) (.fcons (.int .i64) (.fcons (.int .i64) (.fcons (.int .i64) (.fcons (.int .i64) (.fcons (.int .i64) (.fnil)))))))))) (.fcons (.int .i64) (.fnil)))) y.1) (instH [] y.2))) mixed tyok (eok_26 N) Try.func26 (by kernel_rfl) (by kernel_rfl) (by kernel_rfl) (lok_26 N) (fun x k => run_26 N x k)

def ap_49 : List Pat := [.node (.fcons (.int .i64) (.fcons (.int .i64) (.fcons (.int .i64) (.fcons (.int .i64) (.fcons (.int .i64) (.fcons (.int .i64) (.fcons (.int .i64) (.fcons (.int .i64) (.fnil))))))))), .node (.fcons (.int .i64) (.fcons (.int .i64) (.fnil)))]
def hp_49 : List (Option (Pat × Nat)) := []
def p_49 {R : Type} (N : Nat) (x : ((Int × (Int × (Int × (Int × (Int × (Int × (Int × (Int × Unit)))))))) × (Int × (Int × Unit)) × Unit) × (Unit)) (κ0 : (Bool × (Unit)) → Option R) : Option R :=
let i109 : Int := x.1.1.1
let i110 : Int := x.1.1.2.1
let i111 : Int := x.1.1.2.2.1
let i112 : Int := x.1.1.2.2.2.1
let i113 : Int := x.1.1.2.2.2.2.1
let i114 : Int := x.1.1.2.2.2.2.2.1
let i115 : Int := x.1.1.2.2.2.2.2.2.1
let i116 : Int := x.1.1.2.2.2.2.2.2.2.1
let i117 : Int := x.1.2.1.1
let i118 : Int := x.1.2.1.2.1
let i119 : Int := subA .i64 i110 1
p_87 N ((i117, 0, i119, ()), ()) (fun y120 =>
let b121 : Bool := y120
bif b121 then (
p_87 N ((i118, 0, 3, ()), ()) (fun y122 =>
let b123 : Bool := y122
κ0 (b123, ()))) else (
κ0 (false, ())))

def Q_49 {R : Type} (q_87 : (Int × Int × Int × Unit) × (Unit) → (Bool → Option R) → Option R) (x : ((Int × (Int × (Int × (Int × (Int × (Int × (Int × (Int × Unit)))))))) × (Int × (Int × Unit)) × Unit) × (Unit)) (κ0 : (Bool × (Unit)) → Option R) : Option R :=
let i109 : Int := x.1.1.1
let i110 : Int := x.1.1.2.1
let i111 : Int := x.1.1.2.2.1
let i112 : Int := x.1.1.2.2.2.1
let i113 : Int := x.1.1.2.2.2.2.1
let i114 : Int := x.1.1.2.2.2.2.2.1
let i115 : Int := x.1.1.2.2.2.2.2.2.1
let i116 : Int := x.1.1.2.2.2.2.2.2.2.1
let i117 : Int := x.1.2.1.1
let i118 : Int := x.1.2.1.2.1
let i119 : Int := subA .i64 i110 1
q_87 ((i117, 0, i119, ()), ()) (fun y120 =>
let b121 : Bool := y120
bif b121 then (
q_87 ((i118, 0, 3, ()), ()) (fun y122 =>
let b123 : Bool := y122
κ0 (b123, ()))) else (
κ0 (false, ())))
def EG_49 {R : Type} (q_87 : (Int × Int × Int × Unit) × (Unit) → (Bool → Option R) → Option R) : Env R := (Env.base QQ LN).add 87 ap_87 hp_87 (fun (x : aden ap_87 × hden hp_87) k => q_87 x (fun y => k (Pat.inst (.bool) y) (instH hp_87 x.2)))
def LG_49 {R : Type} : Loops R := Loops.none
def E_49 {R : Type} (N : Nat) : Env R := EG_49 (p_87 N)
theorem eok_49 {R : Type} (N : Nat) : EK Try.prog (E_49 (R := R) N) := ek_add (ek_base _ _) (good_87 N)
def L_49 {R : Type} (N : Nat) : Loops R := LG_49
theorem lok_49 {R : Type} (N : Nat) : LOK 0 TT (E_49 (R := R) N) (drawOk TT QQ) (L_49 N) (bodyOf Try.f49) := loops_nil (by kernel_rfl)
theorem grun_49 {R : Type} (q_87 : (Int × Int × Int × Unit) × (Unit) → (Bool → Option R) → Option R) (x : aden ap_49 × hden hp_49) (k : KF R) : fnrun TT (EG_49 q_87) (drawOk TT QQ) (LG_49) true Try.f49 (instA ap_49 x.1) (instH hp_49 x.2) k = Q_49 q_87 x (fun y => k (Pat.inst (.bool) y.1) (instH [] y.2)) := by kernel_rfl
theorem run_49 {R : Type} (N : Nat) (x : aden ap_49 × hden hp_49) (k : KF R) : fnrun TT (E_49 (R := R) N) (drawOk TT QQ) (L_49 N) true Try.f49 (instA ap_49 x.1) (instH hp_49 x.2) k = p_49 N x (fun y => k (Pat.inst (.bool) y.1) (instH [] y.2)) := (grun_49 (p_87 N) x k).trans (by kernel_rfl)
theorem good_49 {R : Type} (N : Nat) : GD (X := R) Try.prog QQ 49 ap_49 hp_49 (fun (x : aden ap_49 × hden hp_49) k => p_49 N x (fun y => k (Pat.inst (.bool) y.1) (instH [] y.2))) :=
  gd_loud (E := E_49 N) (p := fun (x : aden ap_49 × hden hp_49) k => p_49 N x (fun y => k (Pat.inst (.bool) y.1) (instH [] y.2))) mixed tyok (eok_49 N) Try.func49 (by kernel_rfl) (by kernel_rfl) (by kernel_rfl) (lok_49 N) (fun x k => run_49 N x k)

def ap_50 : List Pat := [.node (.fcons (.int .i64) (.fcons (.int .i64) (.fcons (.int .i64) (.fcons (.int .i64) (.fcons (.int .i64) (.fcons (.int .i64) (.fcons (.int .i64) (.fcons (.int .i64) (.fnil))))))))), .int .i64, .int .i64]
def hp_50 : List (Option (Pat × Nat)) := []
def p_50 {R : Type} (N : Nat) (x : ((Int × (Int × (Int × (Int × (Int × (Int × (Int × (Int × Unit)))))))) × Int × Int × Unit) × (Unit)) (κ0 : Int → Option R) : Option R :=
let i129 : Int := x.1.1.1
let i130 : Int := x.1.1.2.1
let i131 : Int := x.1.1.2.2.1
let i132 : Int := x.1.1.2.2.2.1
let i133 : Int := x.1.1.2.2.2.2.1
let i134 : Int := x.1.1.2.2.2.2.2.1
let i135 : Int := x.1.1.2.2.2.2.2.2.1
let i136 : Int := x.1.1.2.2.2.2.2.2.2.1
let i137 : Int := x.1.2.1
let i138 : Int := x.1.2.2.1
bif (i137 == 0) then (
bif (i138 == 0) then (
κ0 2) else (
κ0 0)) else (
κ0 0)

def Q_50 {R : Type} (x : ((Int × (Int × (Int × (Int × (Int × (Int × (Int × (Int × Unit)))))))) × Int × Int × Unit) × (Unit)) (κ0 : Int → Option R) : Option R :=
let i129 : Int := x.1.1.1
let i130 : Int := x.1.1.2.1
let i131 : Int := x.1.1.2.2.1
let i132 : Int := x.1.1.2.2.2.1
let i133 : Int := x.1.1.2.2.2.2.1
let i134 : Int := x.1.1.2.2.2.2.2.1
let i135 : Int := x.1.1.2.2.2.2.2.2.1
let i136 : Int := x.1.1.2.2.2.2.2.2.2.1
let i137 : Int := x.1.2.1
let i138 : Int := x.1.2.2.1
bif (i137 == 0) then (
bif (i138 == 0) then (
κ0 2) else (
κ0 0)) else (
κ0 0)
def EG_50 {R : Type} : Env R := Env.base QQ LN
def LG_50 {R : Type} : Loops R := Loops.none
def E_50 {R : Type} (N : Nat) : Env R := EG_50
theorem eok_50 {R : Type} (N : Nat) : EK Try.prog (E_50 (R := R) N) := ek_base _ _
def L_50 {R : Type} (N : Nat) : Loops R := LG_50
theorem lok_50 {R : Type} (N : Nat) : LOK 0 TT (E_50 (R := R) N) (drawOk TT QQ) (L_50 N) (bodyOf Try.f50) := loops_nil (by kernel_rfl)
theorem grun_50 {R : Type} (x : aden ap_50 × hden hp_50) (k : KF R) : fnrun TT (EG_50) (drawOk TT QQ) (LG_50) true Try.f50 (instA ap_50 x.1) (instH hp_50 x.2) k = Q_50 x (fun y => k (Pat.inst (.int .i64) y) (instH hp_50 x.2)) := by kernel_rfl
theorem run_50 {R : Type} (N : Nat) (x : aden ap_50 × hden hp_50) (k : KF R) : fnrun TT (E_50 (R := R) N) (drawOk TT QQ) (L_50 N) true Try.f50 (instA ap_50 x.1) (instH hp_50 x.2) k = p_50 N x (fun y => k (Pat.inst (.int .i64) y) (instH hp_50 x.2)) := (grun_50 x k).trans (by kernel_rfl)
theorem good_50 {R : Type} (N : Nat) : GD (X := R) Try.prog QQ 50 ap_50 hp_50 (fun (x : aden ap_50 × hden hp_50) k => p_50 N x (fun y => k (Pat.inst (.int .i64) y) (instH hp_50 x.2))) :=
  gd_quiet (E := E_50 N) (p := fun (x : aden ap_50 × hden hp_50) κ => p_50 N x (fun y => κ (Pat.inst (.int .i64) y))) mixed tyok (eok_50 N) Try.func50 (by kernel_rfl) (by kernel_rfl) (lok_50 N) (fun x k => run_50 N x k)

def ap_57 : List Pat := [.node (.fcons (.int .i64) (.fcons (.int .i64) (.fcons (.int .i64) (.fcons (.int .i64) (.fcons (.int .i64) (.fcons (.int .i64) (.fcons (.int .i64) (.fcons (.int .i64) (.fnil))))))))), .node (.fcons (.int .i64) (.fcons (.int .i64) (.fnil))), .int .i64, .int .u32]
def hp_57 : List (Option (Pat × Nat)) := []
def p_57 {R : Type} (N : Nat) (x : ((Int × (Int × (Int × (Int × (Int × (Int × (Int × (Int × Unit)))))))) × (Int × (Int × Unit)) × Int × Int × Unit) × (Unit)) (κ0 : (Int × (Unit)) → Option R) : Option R :=
let i144 : Int := x.1.1.1
let i145 : Int := x.1.1.2.1
let i146 : Int := x.1.1.2.2.1
let i147 : Int := x.1.1.2.2.2.1
let i148 : Int := x.1.1.2.2.2.2.1
let i149 : Int := x.1.1.2.2.2.2.2.1
let i150 : Int := x.1.1.2.2.2.2.2.2.1
let i151 : Int := x.1.1.2.2.2.2.2.2.2.1
let i152 : Int := x.1.2.1.1
let i153 : Int := x.1.2.1.2.1
let i154 : Int := x.1.2.2.1
let i155 : Int := x.1.2.2.2.1
bif (i152 == 0) then (
bif (i153 == 0) then (
κ0 (i154, ())) else (
let i156 : Int := IntKind.wrap .u64 i155
let i157 : Int := IntKind.wrap .u64 i146
bif decide (i157 = 0) then none else (
let i158 : Int := remA .u64 i156 i157
let i159 : Int := IntKind.wrap .i64 i158
κ0 (i159, ())))) else (
let i160 : Int := IntKind.wrap .u64 i155
let i161 : Int := IntKind.wrap .u64 i146
bif decide (i161 = 0) then none else (
let i162 : Int := remA .u64 i160 i161
let i163 : Int := IntKind.wrap .i64 i162
κ0 (i163, ())))

def Q_57 {R : Type} (x : ((Int × (Int × (Int × (Int × (Int × (Int × (Int × (Int × Unit)))))))) × (Int × (Int × Unit)) × Int × Int × Unit) × (Unit)) (κ0 : (Int × (Unit)) → Option R) : Option R :=
let i144 : Int := x.1.1.1
let i145 : Int := x.1.1.2.1
let i146 : Int := x.1.1.2.2.1
let i147 : Int := x.1.1.2.2.2.1
let i148 : Int := x.1.1.2.2.2.2.1
let i149 : Int := x.1.1.2.2.2.2.2.1
let i150 : Int := x.1.1.2.2.2.2.2.2.1
let i151 : Int := x.1.1.2.2.2.2.2.2.2.1
let i152 : Int := x.1.2.1.1
let i153 : Int := x.1.2.1.2.1
let i154 : Int := x.1.2.2.1
let i155 : Int := x.1.2.2.2.1
bif (i152 == 0) then (
bif (i153 == 0) then (
κ0 (i154, ())) else (
let i156 : Int := IntKind.wrap .u64 i155
let i157 : Int := IntKind.wrap .u64 i146
bif decide (i157 = 0) then none else (
let i158 : Int := remA .u64 i156 i157
let i159 : Int := IntKind.wrap .i64 i158
κ0 (i159, ())))) else (
let i160 : Int := IntKind.wrap .u64 i155
let i161 : Int := IntKind.wrap .u64 i146
bif decide (i161 = 0) then none else (
let i162 : Int := remA .u64 i160 i161
let i163 : Int := IntKind.wrap .i64 i162
κ0 (i163, ())))
def EG_57 {R : Type} : Env R := Env.base QQ LN
def LG_57 {R : Type} : Loops R := Loops.none
def E_57 {R : Type} (N : Nat) : Env R := EG_57
theorem eok_57 {R : Type} (N : Nat) : EK Try.prog (E_57 (R := R) N) := ek_base _ _
def L_57 {R : Type} (N : Nat) : Loops R := LG_57
theorem lok_57 {R : Type} (N : Nat) : LOK 0 TT (E_57 (R := R) N) (drawOk TT QQ) (L_57 N) (bodyOf Try.f57) := loops_nil (by kernel_rfl)
theorem grun_57 {R : Type} (x : aden ap_57 × hden hp_57) (k : KF R) : fnrun TT (EG_57) (drawOk TT QQ) (LG_57) true Try.f57 (instA ap_57 x.1) (instH hp_57 x.2) k = Q_57 x (fun y => k (Pat.inst (.int .i64) y.1) (instH [] y.2)) := by kernel_rfl
theorem run_57 {R : Type} (N : Nat) (x : aden ap_57 × hden hp_57) (k : KF R) : fnrun TT (E_57 (R := R) N) (drawOk TT QQ) (L_57 N) true Try.f57 (instA ap_57 x.1) (instH hp_57 x.2) k = p_57 N x (fun y => k (Pat.inst (.int .i64) y.1) (instH [] y.2)) := (grun_57 x k).trans (by kernel_rfl)
theorem good_57 {R : Type} (N : Nat) : GD (X := R) Try.prog QQ 57 ap_57 hp_57 (fun (x : aden ap_57 × hden hp_57) k => p_57 N x (fun y => k (Pat.inst (.int .i64) y.1) (instH [] y.2))) :=
  gd_loud (E := E_57 N) (p := fun (x : aden ap_57 × hden hp_57) k => p_57 N x (fun y => k (Pat.inst (.int .i64) y.1) (instH [] y.2))) mixed tyok (eok_57 N) Try.func57 (by kernel_rfl) (by kernel_rfl) (by kernel_rfl) (lok_57 N) (fun x k => run_57 N x k)

def ap_56 : List Pat := [.node (.fcons (.int .i64) (.fcons (.int .i64) (.fcons (.int .i64) (.fcons (.int .i64) (.fcons (.int .i64) (.fcons (.int .i64) (.fcons (.int .i64) (.fcons (.int .i64) (.fnil))))))))), .node (.fcons (.int .i64) (.fcons (.int .i64) (.fnil))), .int .i64, .bool]
def hp_56 : List (Option (Pat × Nat)) := []
def p_56 {R : Type} (N : Nat) (x : ((Int × (Int × (Int × (Int × (Int × (Int × (Int × (Int × Unit)))))))) × (Int × (Int × Unit)) × Int × Bool × Unit) × (Unit)) (κ0 : (Int × (Unit)) → Option R) : Option R :=
let i166 : Int := x.1.1.1
let i167 : Int := x.1.1.2.1
let i168 : Int := x.1.1.2.2.1
let i169 : Int := x.1.1.2.2.2.1
let i170 : Int := x.1.1.2.2.2.2.1
let i171 : Int := x.1.1.2.2.2.2.2.1
let i172 : Int := x.1.1.2.2.2.2.2.2.1
let i173 : Int := x.1.1.2.2.2.2.2.2.2.1
let i174 : Int := x.1.2.1.1
let i175 : Int := x.1.2.1.2.1
let i176 : Int := x.1.2.2.1
let b177 : Bool := x.1.2.2.2.1
let i178 : Int := mulA .i64 i175 i172
bif (decide (i174 > 0)) then (
let i179 : Int := subA .i64 i171 i172
bif b177 then (
let i180 : Int := addA .i64 i179 i176
let i181 : Int := subA .i64 i180 1
κ0 (i181, ())) else (
bif (i176 == 0) then (
let i182 : Int := subA .i64 i179 1
κ0 (i182, ())) else (
κ0 (i179, ())))) else (
bif b177 then (
let i183 : Int := addA .i64 i178 i176
let i184 : Int := subA .i64 i183 1
κ0 (i184, ())) else (
bif (i176 == 0) then (
let i185 : Int := subA .i64 i178 1
κ0 (i185, ())) else (
κ0 (i178, ()))))

def Q_56 {R : Type} (x : ((Int × (Int × (Int × (Int × (Int × (Int × (Int × (Int × Unit)))))))) × (Int × (Int × Unit)) × Int × Bool × Unit) × (Unit)) (κ0 : (Int × (Unit)) → Option R) : Option R :=
let i166 : Int := x.1.1.1
let i167 : Int := x.1.1.2.1
let i168 : Int := x.1.1.2.2.1
let i169 : Int := x.1.1.2.2.2.1
let i170 : Int := x.1.1.2.2.2.2.1
let i171 : Int := x.1.1.2.2.2.2.2.1
let i172 : Int := x.1.1.2.2.2.2.2.2.1
let i173 : Int := x.1.1.2.2.2.2.2.2.2.1
let i174 : Int := x.1.2.1.1
let i175 : Int := x.1.2.1.2.1
let i176 : Int := x.1.2.2.1
let b177 : Bool := x.1.2.2.2.1
let i178 : Int := mulA .i64 i175 i172
bif (decide (i174 > 0)) then (
let i179 : Int := subA .i64 i171 i172
bif b177 then (
let i180 : Int := addA .i64 i179 i176
let i181 : Int := subA .i64 i180 1
κ0 (i181, ())) else (
bif (i176 == 0) then (
let i182 : Int := subA .i64 i179 1
κ0 (i182, ())) else (
κ0 (i179, ())))) else (
bif b177 then (
let i183 : Int := addA .i64 i178 i176
let i184 : Int := subA .i64 i183 1
κ0 (i184, ())) else (
bif (i176 == 0) then (
let i185 : Int := subA .i64 i178 1
κ0 (i185, ())) else (
κ0 (i178, ()))))
def EG_56 {R : Type} : Env R := Env.base QQ LN
def LG_56 {R : Type} : Loops R := Loops.none
def E_56 {R : Type} (N : Nat) : Env R := EG_56
theorem eok_56 {R : Type} (N : Nat) : EK Try.prog (E_56 (R := R) N) := ek_base _ _
def L_56 {R : Type} (N : Nat) : Loops R := LG_56
theorem lok_56 {R : Type} (N : Nat) : LOK 0 TT (E_56 (R := R) N) (drawOk TT QQ) (L_56 N) (bodyOf Try.f56) := loops_nil (by kernel_rfl)
theorem grun_56 {R : Type} (x : aden ap_56 × hden hp_56) (k : KF R) : fnrun TT (EG_56) (drawOk TT QQ) (LG_56) true Try.f56 (instA ap_56 x.1) (instH hp_56 x.2) k = Q_56 x (fun y => k (Pat.inst (.int .i64) y.1) (instH [] y.2)) := by kernel_rfl
theorem run_56 {R : Type} (N : Nat) (x : aden ap_56 × hden hp_56) (k : KF R) : fnrun TT (E_56 (R := R) N) (drawOk TT QQ) (L_56 N) true Try.f56 (instA ap_56 x.1) (instH hp_56 x.2) k = p_56 N x (fun y => k (Pat.inst (.int .i64) y.1) (instH [] y.2)) := (grun_56 x k).trans (by kernel_rfl)
theorem good_56 {R : Type} (N : Nat) : GD (X := R) Try.prog QQ 56 ap_56 hp_56 (fun (x : aden ap_56 × hden hp_56) k => p_56 N x (fun y => k (Pat.inst (.int .i64) y.1) (instH [] y.2))) :=
  gd_loud (E := E_56 N) (p := fun (x : aden ap_56 × hden hp_56) k => p_56 N x (fun y => k (Pat.inst (.int .i64) y.1) (instH [] y.2))) mixed tyok (eok_56 N) Try.func56 (by kernel_rfl) (by kernel_rfl) (by kernel_rfl) (lok_56 N) (fun x k => run_56 N x k)

def ap_58 : List Pat := [.node (.fcons (.int .i64) (.fcons (.int .i64) (.fcons (.int .i64) (.fcons (.int .i64) (.fcons (.int .i64) (.fcons (.int .i64) (.fcons (.int .i64) (.fcons (.int .i64) (.fnil))))))))), .node (.fcons (.int .i64) (.fcons (.int .i64) (.fnil)))]
def hp_58 : List (Option (Pat × Nat)) := []
def p_58 {R : Type} (N : Nat) (x : ((Int × (Int × (Int × (Int × (Int × (Int × (Int × (Int × Unit)))))))) × (Int × (Int × Unit)) × Unit) × (Unit)) (κ0 : Int → Option R) : Option R :=
let i188 : Int := x.1.1.1
let i189 : Int := x.1.1.2.1
let i190 : Int := x.1.1.2.2.1
let i191 : Int := x.1.1.2.2.2.1
let i192 : Int := x.1.1.2.2.2.2.1
let i193 : Int := x.1.1.2.2.2.2.2.1
let i194 : Int := x.1.1.2.2.2.2.2.2.1
let i195 : Int := x.1.1.2.2.2.2.2.2.2.1
let i196 : Int := x.1.2.1.1
let i197 : Int := x.1.2.1.2.1
bif (i196 == 0) then (
κ0 0) else (
bif (i197 == 3) then (
κ0 0) else (
let i198 : Int := addA .i64 i197 1
let i199 : Int := mulA .i64 i198 i194
κ0 i199))

def Q_58 {R : Type} (x : ((Int × (Int × (Int × (Int × (Int × (Int × (Int × (Int × Unit)))))))) × (Int × (Int × Unit)) × Unit) × (Unit)) (κ0 : Int → Option R) : Option R :=
let i188 : Int := x.1.1.1
let i189 : Int := x.1.1.2.1
let i190 : Int := x.1.1.2.2.1
let i191 : Int := x.1.1.2.2.2.1
let i192 : Int := x.1.1.2.2.2.2.1
let i193 : Int := x.1.1.2.2.2.2.2.1
let i194 : Int := x.1.1.2.2.2.2.2.2.1
let i195 : Int := x.1.1.2.2.2.2.2.2.2.1
let i196 : Int := x.1.2.1.1
let i197 : Int := x.1.2.1.2.1
bif (i196 == 0) then (
κ0 0) else (
bif (i197 == 3) then (
κ0 0) else (
let i198 : Int := addA .i64 i197 1
let i199 : Int := mulA .i64 i198 i194
κ0 i199))
def EG_58 {R : Type} : Env R := Env.base QQ LN
def LG_58 {R : Type} : Loops R := Loops.none
def E_58 {R : Type} (N : Nat) : Env R := EG_58
theorem eok_58 {R : Type} (N : Nat) : EK Try.prog (E_58 (R := R) N) := ek_base _ _
def L_58 {R : Type} (N : Nat) : Loops R := LG_58
theorem lok_58 {R : Type} (N : Nat) : LOK 0 TT (E_58 (R := R) N) (drawOk TT QQ) (L_58 N) (bodyOf Try.f58) := loops_nil (by kernel_rfl)
theorem grun_58 {R : Type} (x : aden ap_58 × hden hp_58) (k : KF R) : fnrun TT (EG_58) (drawOk TT QQ) (LG_58) true Try.f58 (instA ap_58 x.1) (instH hp_58 x.2) k = Q_58 x (fun y => k (Pat.inst (.int .i64) y) (instH hp_58 x.2)) := by kernel_rfl
theorem run_58 {R : Type} (N : Nat) (x : aden ap_58 × hden hp_58) (k : KF R) : fnrun TT (E_58 (R := R) N) (drawOk TT QQ) (L_58 N) true Try.f58 (instA ap_58 x.1) (instH hp_58 x.2) k = p_58 N x (fun y => k (Pat.inst (.int .i64) y) (instH hp_58 x.2)) := (grun_58 x k).trans (by kernel_rfl)
theorem good_58 {R : Type} (N : Nat) : GD (X := R) Try.prog QQ 58 ap_58 hp_58 (fun (x : aden ap_58 × hden hp_58) k => p_58 N x (fun y => k (Pat.inst (.int .i64) y) (instH hp_58 x.2))) :=
  gd_quiet (E := E_58 N) (p := fun (x : aden ap_58 × hden hp_58) κ => p_58 N x (fun y => κ (Pat.inst (.int .i64) y))) mixed tyok (eok_58 N) Try.func58 (by kernel_rfl) (by kernel_rfl) (lok_58 N) (fun x k => run_58 N x k)

def ap_52 : List Pat := [.node (.fcons (.int .i64) (.fcons (.int .i64) (.fcons (.int .i64) (.fcons (.int .i64) (.fcons (.int .i64) (.fcons (.int .i64) (.fcons (.int .i64) (.fcons (.int .i64) (.fnil))))))))), .node (.fcons (.int .i64) (.fcons (.int .i64) (.fnil))), .int .i64, .int .i64, .int .u32, .int .u32]
def hp_52 : List (Option (Pat × Nat)) := []
def p_52 {R : Type} (N : Nat) (x : ((Int × (Int × (Int × (Int × (Int × (Int × (Int × (Int × Unit)))))))) × (Int × (Int × Unit)) × Int × Int × Int × Int × Unit) × (Unit)) (κ0 : (((Int × (Int × Unit)) × (Int × Unit)) × (Unit)) → Option R) : Option R :=
let i95 : Int := x.1.1.1
let i96 : Int := x.1.1.2.1
let i97 : Int := x.1.1.2.2.1
let i98 : Int := x.1.1.2.2.2.1
let i99 : Int := x.1.1.2.2.2.2.1
let i100 : Int := x.1.1.2.2.2.2.2.1
let i101 : Int := x.1.1.2.2.2.2.2.2.1
let i102 : Int := x.1.1.2.2.2.2.2.2.2.1
let i103 : Int := x.1.2.1.1
let i104 : Int := x.1.2.1.2.1
let i105 : Int := x.1.2.2.1
let i106 : Int := x.1.2.2.2.1
let i107 : Int := x.1.2.2.2.2.1
let i108 : Int := x.1.2.2.2.2.2.1
bif (decide (i97 > 0)) then (
p_49 N (((i95, (i96, (i97, (i98, (i99, (i100, (i101, (i102, ())))))))), (i103, (i104, ())), ()), ()) (fun y124 =>
let b125 : Bool := y124.1
bif b125 then (
let i126 : Int := subA .i64 i97 1
p_87 N ((i105, 0, i126, ()), ()) (fun y127 =>
let b128 : Bool := y127
bif (!b128) then (
κ0 (((0, (0, ())), (11, ())), ())) else (
p_50 N (((i95, (i96, (i97, (i98, (i99, (i100, (i101, (i102, ())))))))), i103, i104, ()), ()) (fun y139 =>
let i140 : Int := y139
let i141 : Int := subA .i64 i101 1
p_87 N ((i106, i140, i141, ()), ()) (fun y142 =>
let b143 : Bool := y142
bif (!b143) then (
κ0 (((0, (0, ())), (11, ())), ())) else (
p_57 N (((i95, (i96, (i97, (i98, (i99, (i100, (i101, (i102, ())))))))), (i103, (i104, ())), i105, i108, ()), ()) (fun y164 =>
let i165 : Int := y164.1
p_56 N (((i95, (i96, (i97, (i98, (i99, (i100, (i101, (i102, ())))))))), (i103, (i104, ())), i106, (i165 == i105), ()), ()) (fun y186 =>
let i187 : Int := y186.1
p_58 N (((i95, (i96, (i97, (i98, (i99, (i100, (i101, (i102, ())))))))), (i103, (i104, ())), ()), ()) (fun y200 =>
let i201 : Int := y200
p_23 N ((i187, i107, ()), ()) (fun y202 =>
let i203 : Int := y202
let i204 : Int := addA .i64 i201 i203
bif decide (i100 = 0) then none else (
let i205 : Int := remA .i64 i204 i100
κ0 (((i165, (i205, ())), (0, ())), ())))))))))))) else (
κ0 (((0, (0, ())), (11, ())), ())))) else (
κ0 (((0, (0, ())), (11, ())), ()))

def Q_52 {R : Type} (q_49 : ((Int × (Int × (Int × (Int × (Int × (Int × (Int × (Int × Unit)))))))) × (Int × (Int × Unit)) × Unit) × (Unit) → ((Bool × (Unit)) → Option R) → Option R) (q_87 : (Int × Int × Int × Unit) × (Unit) → (Bool → Option R) → Option R) (q_50 : ((Int × (Int × (Int × (Int × (Int × (Int × (Int × (Int × Unit)))))))) × Int × Int × Unit) × (Unit) → (Int → Option R) → Option R) (q_57 : ((Int × (Int × (Int × (Int × (Int × (Int × (Int × (Int × Unit)))))))) × (Int × (Int × Unit)) × Int × Int × Unit) × (Unit) → ((Int × (Unit)) → Option R) → Option R) (q_56 : ((Int × (Int × (Int × (Int × (Int × (Int × (Int × (Int × Unit)))))))) × (Int × (Int × Unit)) × Int × Bool × Unit) × (Unit) → ((Int × (Unit)) → Option R) → Option R) (q_58 : ((Int × (Int × (Int × (Int × (Int × (Int × (Int × (Int × Unit)))))))) × (Int × (Int × Unit)) × Unit) × (Unit) → (Int → Option R) → Option R) (q_23 : (Int × Int × Unit) × (Unit) → (Int → Option R) → Option R) (x : ((Int × (Int × (Int × (Int × (Int × (Int × (Int × (Int × Unit)))))))) × (Int × (Int × Unit)) × Int × Int × Int × Int × Unit) × (Unit)) (κ0 : (((Int × (Int × Unit)) × (Int × Unit)) × (Unit)) → Option R) : Option R :=
let i95 : Int := x.1.1.1
let i96 : Int := x.1.1.2.1
let i97 : Int := x.1.1.2.2.1
let i98 : Int := x.1.1.2.2.2.1
let i99 : Int := x.1.1.2.2.2.2.1
let i100 : Int := x.1.1.2.2.2.2.2.1
let i101 : Int := x.1.1.2.2.2.2.2.2.1
let i102 : Int := x.1.1.2.2.2.2.2.2.2.1
let i103 : Int := x.1.2.1.1
let i104 : Int := x.1.2.1.2.1
let i105 : Int := x.1.2.2.1
let i106 : Int := x.1.2.2.2.1
let i107 : Int := x.1.2.2.2.2.1
let i108 : Int := x.1.2.2.2.2.2.1
bif (decide (i97 > 0)) then (
q_49 (((i95, (i96, (i97, (i98, (i99, (i100, (i101, (i102, ())))))))), (i103, (i104, ())), ()), ()) (fun y124 =>
let b125 : Bool := y124.1
bif b125 then (
let i126 : Int := subA .i64 i97 1
q_87 ((i105, 0, i126, ()), ()) (fun y127 =>
let b128 : Bool := y127
bif (!b128) then (
κ0 (((0, (0, ())), (11, ())), ())) else (
q_50 (((i95, (i96, (i97, (i98, (i99, (i100, (i101, (i102, ())))))))), i103, i104, ()), ()) (fun y139 =>
let i140 : Int := y139
let i141 : Int := subA .i64 i101 1
q_87 ((i106, i140, i141, ()), ()) (fun y142 =>
let b143 : Bool := y142
bif (!b143) then (
κ0 (((0, (0, ())), (11, ())), ())) else (
q_57 (((i95, (i96, (i97, (i98, (i99, (i100, (i101, (i102, ())))))))), (i103, (i104, ())), i105, i108, ()), ()) (fun y164 =>
let i165 : Int := y164.1
q_56 (((i95, (i96, (i97, (i98, (i99, (i100, (i101, (i102, ())))))))), (i103, (i104, ())), i106, (i165 == i105), ()), ()) (fun y186 =>
let i187 : Int := y186.1
q_58 (((i95, (i96, (i97, (i98, (i99, (i100, (i101, (i102, ())))))))), (i103, (i104, ())), ()), ()) (fun y200 =>
let i201 : Int := y200
q_23 ((i187, i107, ()), ()) (fun y202 =>
let i203 : Int := y202
let i204 : Int := addA .i64 i201 i203
bif decide (i100 = 0) then none else (
let i205 : Int := remA .i64 i204 i100
κ0 (((i165, (i205, ())), (0, ())), ())))))))))))) else (
κ0 (((0, (0, ())), (11, ())), ())))) else (
κ0 (((0, (0, ())), (11, ())), ()))
def EG_52 {R : Type} (q_49 : ((Int × (Int × (Int × (Int × (Int × (Int × (Int × (Int × Unit)))))))) × (Int × (Int × Unit)) × Unit) × (Unit) → ((Bool × (Unit)) → Option R) → Option R) (q_87 : (Int × Int × Int × Unit) × (Unit) → (Bool → Option R) → Option R) (q_50 : ((Int × (Int × (Int × (Int × (Int × (Int × (Int × (Int × Unit)))))))) × Int × Int × Unit) × (Unit) → (Int → Option R) → Option R) (q_57 : ((Int × (Int × (Int × (Int × (Int × (Int × (Int × (Int × Unit)))))))) × (Int × (Int × Unit)) × Int × Int × Unit) × (Unit) → ((Int × (Unit)) → Option R) → Option R) (q_56 : ((Int × (Int × (Int × (Int × (Int × (Int × (Int × (Int × Unit)))))))) × (Int × (Int × Unit)) × Int × Bool × Unit) × (Unit) → ((Int × (Unit)) → Option R) → Option R) (q_58 : ((Int × (Int × (Int × (Int × (Int × (Int × (Int × (Int × Unit)))))))) × (Int × (Int × Unit)) × Unit) × (Unit) → (Int → Option R) → Option R) (q_23 : (Int × Int × Unit) × (Unit) → (Int → Option R) → Option R) : Env R := (((((((Env.base QQ LN).add 49 ap_49 hp_49 (fun (x : aden ap_49 × hden hp_49) k => q_49 x (fun y => k (Pat.inst (.bool) y.1) (instH [] y.2)))).add 87 ap_87 hp_87 (fun (x : aden ap_87 × hden hp_87) k => q_87 x (fun y => k (Pat.inst (.bool) y) (instH hp_87 x.2)))).add 50 ap_50 hp_50 (fun (x : aden ap_50 × hden hp_50) k => q_50 x (fun y => k (Pat.inst (.int .i64) y) (instH hp_50 x.2)))).add 57 ap_57 hp_57 (fun (x : aden ap_57 × hden hp_57) k => q_57 x (fun y => k (Pat.inst (.int .i64) y.1) (instH [] y.2)))).add 56 ap_56 hp_56 (fun (x : aden ap_56 × hden hp_56) k => q_56 x (fun y => k (Pat.inst (.int .i64) y.1) (instH [] y.2)))).add 58 ap_58 hp_58 (fun (x : aden ap_58 × hden hp_58) k => q_58 x (fun y => k (Pat.inst (.int .i64) y) (instH hp_58 x.2)))).add 23 ap_23 hp_23 (fun (x : aden ap_23 × hden hp_23) k => q_23 x (fun y => k (Pat.inst (.int .i64) y) (instH hp_23 x.2)))
def LG_52 {R : Type} : Loops R := Loops.none
def E_52 {R : Type} (N : Nat) : Env R := EG_52 (p_49 N) (p_87 N) (p_50 N) (p_57 N) (p_56 N) (p_58 N) (p_23 N)
theorem eok_52 {R : Type} (N : Nat) : EK Try.prog (E_52 (R := R) N) := ek_add (ek_add (ek_add (ek_add (ek_add (ek_add (ek_add (ek_base _ _) (good_49 N)) (good_87 N)) (good_50 N)) (good_57 N)) (good_56 N)) (good_58 N)) (good_23 N)
def L_52 {R : Type} (N : Nat) : Loops R := LG_52
theorem lok_52 {R : Type} (N : Nat) : LOK 0 TT (E_52 (R := R) N) (drawOk TT QQ) (L_52 N) (bodyOf Try.f52) := loops_nil (by kernel_rfl)
theorem grun_52 {R : Type} (q_49 : ((Int × (Int × (Int × (Int × (Int × (Int × (Int × (Int × Unit)))))))) × (Int × (Int × Unit)) × Unit) × (Unit) → ((Bool × (Unit)) → Option R) → Option R) (q_87 : (Int × Int × Int × Unit) × (Unit) → (Bool → Option R) → Option R) (q_50 : ((Int × (Int × (Int × (Int × (Int × (Int × (Int × (Int × Unit)))))))) × Int × Int × Unit) × (Unit) → (Int → Option R) → Option R) (q_57 : ((Int × (Int × (Int × (Int × (Int × (Int × (Int × (Int × Unit)))))))) × (Int × (Int × Unit)) × Int × Int × Unit) × (Unit) → ((Int × (Unit)) → Option R) → Option R) (q_56 : ((Int × (Int × (Int × (Int × (Int × (Int × (Int × (Int × Unit)))))))) × (Int × (Int × Unit)) × Int × Bool × Unit) × (Unit) → ((Int × (Unit)) → Option R) → Option R) (q_58 : ((Int × (Int × (Int × (Int × (Int × (Int × (Int × (Int × Unit)))))))) × (Int × (Int × Unit)) × Unit) × (Unit) → (Int → Option R) → Option R) (q_23 : (Int × Int × Unit) × (Unit) → (Int → Option R) → Option R) (x : aden ap_52 × hden hp_52) (k : KF R) : fnrun TT (EG_52 q_49 q_87 q_50 q_57 q_56 q_58 q_23) (drawOk TT QQ) (LG_52) true Try.f52 (instA ap_52 x.1) (instH hp_52 x.2) k = Q_52 q_49 q_87 q_50 q_57 q_56 q_58 q_23 x (fun y => k (Pat.inst (.tup (.fcons (.node (.fcons (.int .i64) (.fcons (.int .i64) (.fnil)))) (.fcons (.int .i64) (.fnil)))) y.1) (instH [] y.2)) := by kernel_rfl
theorem run_52 {R : Type} (N : Nat) (x : aden ap_52 × hden hp_52) (k : KF R) : fnrun TT (E_52 (R := R) N) (drawOk TT QQ) (L_52 N) true Try.f52 (instA ap_52 x.1) (instH hp_52 x.2) k = p_52 N x (fun y => k (Pat.inst (.tup (.fcons (.node (.fcons (.int .i64) (.fcons (.int .i64) (.fnil)))) (.fcons (.int .i64) (.fnil)))) y.1) (instH [] y.2)) := (grun_52 (p_49 N) (p_87 N) (p_50 N) (p_57 N) (p_56 N) (p_58 N) (p_23 N) x k).trans (by kernel_rfl)
theorem good_52 {R : Type} (N : Nat) : GD (X := R) Try.prog QQ 52 ap_52 hp_52 (fun (x : aden ap_52 × hden hp_52) k => p_52 N x (fun y => k (Pat.inst (.tup (.fcons (.node (.fcons (.int .i64) (.fcons (.int .i64) (.fnil)))) (.fcons (.int .i64) (.fnil)))) y.1) (instH [] y.2))) :=
  gd_loud (E := E_52 N) (p := fun (x : aden ap_52 × hden hp_52) k => p_52 N x (fun y => k (Pat.inst (.tup (.fcons (.node (.fcons (.int .i64) (.fcons (.int .i64) (.fnil)))) (.fcons (.int .i64) (.fnil)))) y.1) (instH [] y.2))) mixed tyok (eok_52 N) Try.func52 (by kernel_rfl) (by kernel_rfl) (by kernel_rfl) (lok_52 N) (fun x k => run_52 N x k)

def ap_29 : List Pat := [.node (.fcons (.int .i64) (.fcons (.int .i64) (.fcons (.int .i64) (.fcons (.int .i64) (.fcons (.int .i64) (.fcons (.int .i64) (.fcons (.int .i64) (.fcons (.int .i64) (.fnil))))))))), .int .i64, .int .i64]
def hp_29 : List (Option (Pat × Nat)) := []
def p_29 {R : Type} (N : Nat) (x : ((Int × (Int × (Int × (Int × (Int × (Int × (Int × (Int × Unit)))))))) × Int × Int × Unit) × (Unit)) (κ0 : (Int × (Unit)) → Option R) : Option R :=
let i210 : Int := x.1.1.1
let i211 : Int := x.1.1.2.1
let i212 : Int := x.1.1.2.2.1
let i213 : Int := x.1.1.2.2.2.1
let i214 : Int := x.1.1.2.2.2.2.1
let i215 : Int := x.1.1.2.2.2.2.2.1
let i216 : Int := x.1.1.2.2.2.2.2.2.1
let i217 : Int := x.1.1.2.2.2.2.2.2.2.1
let i218 : Int := x.1.2.1
let i219 : Int := x.1.2.2.1
let i220 : Int := mulA .i64 i218 i216
let i221 : Int := addA .i64 i220 i219
κ0 (i221, ())

def Q_29 {R : Type} (x : ((Int × (Int × (Int × (Int × (Int × (Int × (Int × (Int × Unit)))))))) × Int × Int × Unit) × (Unit)) (κ0 : (Int × (Unit)) → Option R) : Option R :=
let i210 : Int := x.1.1.1
let i211 : Int := x.1.1.2.1
let i212 : Int := x.1.1.2.2.1
let i213 : Int := x.1.1.2.2.2.1
let i214 : Int := x.1.1.2.2.2.2.1
let i215 : Int := x.1.1.2.2.2.2.2.1
let i216 : Int := x.1.1.2.2.2.2.2.2.1
let i217 : Int := x.1.1.2.2.2.2.2.2.2.1
let i218 : Int := x.1.2.1
let i219 : Int := x.1.2.2.1
let i220 : Int := mulA .i64 i218 i216
let i221 : Int := addA .i64 i220 i219
κ0 (i221, ())
def EG_29 {R : Type} : Env R := Env.base QQ LN
def LG_29 {R : Type} : Loops R := Loops.none
def E_29 {R : Type} (N : Nat) : Env R := EG_29
theorem eok_29 {R : Type} (N : Nat) : EK Try.prog (E_29 (R := R) N) := ek_base _ _
def L_29 {R : Type} (N : Nat) : Loops R := LG_29
theorem lok_29 {R : Type} (N : Nat) : LOK 0 TT (E_29 (R := R) N) (drawOk TT QQ) (L_29 N) (bodyOf Try.f29) := loops_nil (by kernel_rfl)
theorem grun_29 {R : Type} (x : aden ap_29 × hden hp_29) (k : KF R) : fnrun TT (EG_29) (drawOk TT QQ) (LG_29) true Try.f29 (instA ap_29 x.1) (instH hp_29 x.2) k = Q_29 x (fun y => k (Pat.inst (.int .i64) y.1) (instH [] y.2)) := by kernel_rfl
theorem run_29 {R : Type} (N : Nat) (x : aden ap_29 × hden hp_29) (k : KF R) : fnrun TT (E_29 (R := R) N) (drawOk TT QQ) (L_29 N) true Try.f29 (instA ap_29 x.1) (instH hp_29 x.2) k = p_29 N x (fun y => k (Pat.inst (.int .i64) y.1) (instH [] y.2)) := (grun_29 x k).trans (by kernel_rfl)
theorem good_29 {R : Type} (N : Nat) : GD (X := R) Try.prog QQ 29 ap_29 hp_29 (fun (x : aden ap_29 × hden hp_29) k => p_29 N x (fun y => k (Pat.inst (.int .i64) y.1) (instH [] y.2))) :=
  gd_loud (E := E_29 N) (p := fun (x : aden ap_29 × hden hp_29) k => p_29 N x (fun y => k (Pat.inst (.int .i64) y.1) (instH [] y.2))) mixed tyok (eok_29 N) Try.func29 (by kernel_rfl) (by kernel_rfl) (by kernel_rfl) (lok_29 N) (fun x k => run_29 N x k)

def lv_64_2 : Live := [(2, none), (4, none), (5, none), (11, none), (12, none), (13, none)]
def pt_64_2 : SPat := ⟨[(2, .int .i64), (4, .ptr 0 []), (5, .ptr 1 []), (11, .ros (.stru (.fcons (.int .i64) (.fcons (.int .i64) (.fnil))))), (12, .int .i64), (13, .int .i64)], [some (.node (.fcons (.int .i64) (.fcons (.int .i64) (.fcons (.int .i64) (.fcons (.int .i64) (.fcons (.int .i64) (.fcons (.int .i64) (.fcons (.int .i64) (.fcons (.int .i64) (.fnil))))))))), 37), some (.node (.fcons (.int .i64) (.fcons (.int .i64) (.fnil))), 79)]⟩
def px_64_2_0 : SPat := ⟨[(8, .bool)], []⟩
def px_64_2_1 : SPat := ⟨[], []⟩
def lo_64_2 : Exit → Live
  | .ret => [(8, none)]
  | .exit 0 => []
  | _ => []
def B_64_2 {R : Type} (N : Nat) (rec : ((Int × Unit × Unit × (List (Int × (Int × Unit))) × Int × Int × Unit) × ((Int × (Int × (Int × (Int × (Int × (Int × (Int × (Int × Unit)))))))) × (Int × (Int × Unit)) × Unit)) → Option R) (x : ((Int × Unit × Unit × (List (Int × (Int × Unit))) × Int × Int × Unit) × ((Int × (Int × (Int × (Int × (Int × (Int × (Int × (Int × Unit)))))))) × (Int × (Int × Unit)) × Unit))) (κ0 : ((Bool × Unit) × (Unit)) → Option R) (κ1 : ((Unit) × (Unit)) → Option R) : Option R :=
let i238 : Int := x.1.1
let l239 : (List (Int × (Int × Unit))) := x.1.2.2.2.1
let i240 : Int := x.1.2.2.2.2.1
let i241 : Int := x.1.2.2.2.2.2.1
let i242 : Int := x.2.1.1
let i243 : Int := x.2.1.2.1
let i244 : Int := x.2.1.2.2.1
let i245 : Int := x.2.1.2.2.2.1
let i246 : Int := x.2.1.2.2.2.2.1
let i247 : Int := x.2.1.2.2.2.2.2.1
let i248 : Int := x.2.1.2.2.2.2.2.2.1
let i249 : Int := x.2.1.2.2.2.2.2.2.2.1
let i250 : Int := x.2.2.1.1
let i251 : Int := x.2.2.1.2.1
bif (decide (i241 < i240)) then (
bif decide (0 ≤ i241) then (
bif decide (i241 < ((List.length l239) : Int)) then (
let p252 : (Int × (Int × Unit)) := (List.getD l239 ((Int.toNat i241)) (Sch.zero (.stru (.fcons (.int .i64) (.fcons (.int .i64) (.fnil))))))
bif (p252.1 != i238) then (
bif decide (i248 = 0) then none else (
let i253 : Int := quoA .i64 p252.2.1 i248
bif (i253 == i251) then (
κ0 ((false, ()), ())) else (
let i254 : Int := addA .i64 i241 1
rec ((i238, (), (), l239, i240, i254, ()), ((i242, (i243, (i244, (i245, (i246, (i247, (i248, (i249, ())))))))), (i250, (i251, ())), ()))))) else (
let i255 : Int := addA .i64 i241 1
rec ((i238, (), (), l239, i240, i255, ()), ((i242, (i243, (i244, (i245, (i246, (i247, (i248, (i249, ())))))))), (i250, (i251, ())), ())))) else none) else none) else (
κ1 ((), ()))
def l_64_2 {R : Type} (N : Nat) : Nat → ((Int × Unit × Unit × (List (Int × (Int × Unit))) × Int × Int × Unit) × ((Int × (Int × (Int × (Int × (Int × (Int × (Int × (Int × Unit)))))))) × (Int × (Int × Unit)) × Unit)) → (((Bool × Unit) × (Unit)) → Option R) → (((Unit) × (Unit)) → Option R) → Option R
  | 0, _, _, _ => none
  | n + 1, x, κ0, κ1 => B_64_2 N (fun y => l_64_2 N n y κ0 κ1) x κ0 κ1
def ap_64 : List Pat := [.node (.fcons (.int .i64) (.fcons (.int .i64) (.fcons (.int .i64) (.fcons (.int .i64) (.fcons (.int .i64) (.fcons (.int .i64) (.fcons (.int .i64) (.fcons (.int .i64) (.fnil))))))))), .node (.fcons (.int .i64) (.fcons (.int .i64) (.fnil))), .int .i64, .ros (.stru (.fcons (.int .i64) (.fcons (.int .i64) (.fnil))))]
def hp_64 : List (Option (Pat × Nat)) := []
def p_64 {R : Type} (N : Nat) (x : ((Int × (Int × (Int × (Int × (Int × (Int × (Int × (Int × Unit)))))))) × (Int × (Int × Unit)) × Int × (List (Int × (Int × Unit))) × Unit) × (Unit)) (κ0 : Bool → Option R) : Option R :=
let i225 : Int := x.1.1.1
let i226 : Int := x.1.1.2.1
let i227 : Int := x.1.1.2.2.1
let i228 : Int := x.1.1.2.2.2.1
let i229 : Int := x.1.1.2.2.2.2.1
let i230 : Int := x.1.1.2.2.2.2.2.1
let i231 : Int := x.1.1.2.2.2.2.2.2.1
let i232 : Int := x.1.1.2.2.2.2.2.2.2.1
let i233 : Int := x.1.2.1.1
let i234 : Int := x.1.2.1.2.1
let i235 : Int := x.1.2.2.1
let l236 : (List (Int × (Int × Unit))) := x.1.2.2.2.1
let i237 : Int := (((List.length l236) : Nat) : Int)
l_64_2 N N ((i235, (), (), l236, i237, 0, ()), ((i225, (i226, (i227, (i228, (i229, (i230, (i231, (i232, ())))))))), (i233, (i234, ())), ())) (fun y256 =>
let b257 : Bool := y256.1.1
κ0 b257) (fun _ =>
κ0 true)

def Q_64 {R : Type} (m_64_2 : ((Int × Unit × Unit × (List (Int × (Int × Unit))) × Int × Int × Unit) × ((Int × (Int × (Int × (Int × (Int × (Int × (Int × (Int × Unit)))))))) × (Int × (Int × Unit)) × Unit)) → (((Bool × Unit) × (Unit)) → Option R) → (((Unit) × (Unit)) → Option R) → Option R) (x : ((Int × (Int × (Int × (Int × (Int × (Int × (Int × (Int × Unit)))))))) × (Int × (Int × Unit)) × Int × (List (Int × (Int × Unit))) × Unit) × (Unit)) (κ0 : Bool → Option R) : Option R :=
let i225 : Int := x.1.1.1
let i226 : Int := x.1.1.2.1
let i227 : Int := x.1.1.2.2.1
let i228 : Int := x.1.1.2.2.2.1
let i229 : Int := x.1.1.2.2.2.2.1
let i230 : Int := x.1.1.2.2.2.2.2.1
let i231 : Int := x.1.1.2.2.2.2.2.2.1
let i232 : Int := x.1.1.2.2.2.2.2.2.2.1
let i233 : Int := x.1.2.1.1
let i234 : Int := x.1.2.1.2.1
let i235 : Int := x.1.2.2.1
let l236 : (List (Int × (Int × Unit))) := x.1.2.2.2.1
let i237 : Int := (((List.length l236) : Nat) : Int)
m_64_2 ((i235, (), (), l236, i237, 0, ()), ((i225, (i226, (i227, (i228, (i229, (i230, (i231, (i232, ())))))))), (i233, (i234, ())), ())) (fun y256 =>
let b257 : Bool := y256.1.1
κ0 b257) (fun _ =>
κ0 true)
def C_64_2 {R : Type} (m_64_2 : ((Int × Unit × Unit × (List (Int × (Int × Unit))) × Int × Int × Unit) × ((Int × (Int × (Int × (Int × (Int × (Int × (Int × (Int × Unit)))))))) × (Int × (Int × Unit)) × Unit)) → (((Bool × Unit) × (Unit)) → Option R) → (((Unit) × (Unit)) → Option R) → Option R) (rec : ((Int × Unit × Unit × (List (Int × (Int × Unit))) × Int × Int × Unit) × ((Int × (Int × (Int × (Int × (Int × (Int × (Int × (Int × Unit)))))))) × (Int × (Int × Unit)) × Unit)) → Option R) (x : ((Int × Unit × Unit × (List (Int × (Int × Unit))) × Int × Int × Unit) × ((Int × (Int × (Int × (Int × (Int × (Int × (Int × (Int × Unit)))))))) × (Int × (Int × Unit)) × Unit))) (κ0 : ((Bool × Unit) × (Unit)) → Option R) (κ1 : ((Unit) × (Unit)) → Option R) : Option R :=
let i238 : Int := x.1.1
let l239 : (List (Int × (Int × Unit))) := x.1.2.2.2.1
let i240 : Int := x.1.2.2.2.2.1
let i241 : Int := x.1.2.2.2.2.2.1
let i242 : Int := x.2.1.1
let i243 : Int := x.2.1.2.1
let i244 : Int := x.2.1.2.2.1
let i245 : Int := x.2.1.2.2.2.1
let i246 : Int := x.2.1.2.2.2.2.1
let i247 : Int := x.2.1.2.2.2.2.2.1
let i248 : Int := x.2.1.2.2.2.2.2.2.1
let i249 : Int := x.2.1.2.2.2.2.2.2.2.1
let i250 : Int := x.2.2.1.1
let i251 : Int := x.2.2.1.2.1
bif (decide (i241 < i240)) then (
bif decide (0 ≤ i241) then (
bif decide (i241 < ((List.length l239) : Int)) then (
let p252 : (Int × (Int × Unit)) := (List.getD l239 ((Int.toNat i241)) (Sch.zero (.stru (.fcons (.int .i64) (.fcons (.int .i64) (.fnil))))))
bif (p252.1 != i238) then (
bif decide (i248 = 0) then none else (
let i253 : Int := quoA .i64 p252.2.1 i248
bif (i253 == i251) then (
κ0 ((false, ()), ())) else (
let i254 : Int := addA .i64 i241 1
rec ((i238, (), (), l239, i240, i254, ()), ((i242, (i243, (i244, (i245, (i246, (i247, (i248, (i249, ())))))))), (i250, (i251, ())), ()))))) else (
let i255 : Int := addA .i64 i241 1
rec ((i238, (), (), l239, i240, i255, ()), ((i242, (i243, (i244, (i245, (i246, (i247, (i248, (i249, ())))))))), (i250, (i251, ())), ())))) else none) else none) else (
κ1 ((), ()))
def EG_64 {R : Type} : Env R := Env.base QQ LN
def LG_64 {R : Type} (m_64_2 : ((Int × Unit × Unit × (List (Int × (Int × Unit))) × Int × Int × Unit) × ((Int × (Int × (Int × (Int × (Int × (Int × (Int × (Int × Unit)))))))) × (Int × (Int × Unit)) × Unit)) → (((Bool × Unit) × (Unit)) → Option R) → (((Unit) × (Unit)) → Option R) → Option R) : Loops R := (Loops.none).add 2 (loopBy 0 lv_64_2 pt_64_2 (fun x k => m_64_2 x (fun y => k .ret (px_64_2_0.inst y)) (fun y => k (.exit 0) (px_64_2_1.inst y))))
def E_64 {R : Type} (N : Nat) : Env R := EG_64
theorem eok_64 {R : Type} (N : Nat) : EK Try.prog (E_64 (R := R) N) := ek_base _ _
def L_64 {R : Type} (N : Nat) : Loops R := LG_64 (l_64_2 N N)
theorem gstep_64_2 {R : Type} (m_64_2 : ((Int × Unit × Unit × (List (Int × (Int × Unit))) × Int × Int × Unit) × ((Int × (Int × (Int × (Int × (Int × (Int × (Int × (Int × Unit)))))))) × (Int × (Int × Unit)) × Unit)) → (((Bool × Unit) × (Unit)) → Option R) → (((Unit) × (Unit)) → Option R) → Option R) (n : Nat) (x : pt_64_2.den) (k : Exit → St → Option R) : iter 0 lv_64_2 lo_64_2 (aexec TT (EG_64) (drawOk TT QQ) (LG_64 m_64_2) (loopAt 2 (bodyOf Try.f64))) (n + 1) (pt_64_2.inst x) k = C_64_2 m_64_2 (fun y => iter 0 lv_64_2 lo_64_2 (aexec TT (EG_64) (drawOk TT QQ) (LG_64 m_64_2) (loopAt 2 (bodyOf Try.f64))) n (pt_64_2.inst y) k) x (fun y => k .ret (px_64_2_0.inst y)) (fun y => k (.exit 0) (px_64_2_1.inst y)) := by kernel_rfl
theorem step_64_2 {R : Type} (N n : Nat) (x : pt_64_2.den) (k : Exit → St → Option R) : iter 0 lv_64_2 lo_64_2 (aexec TT (E_64 (R := R) N) (drawOk TT QQ) (L_64 N) (loopAt 2 (bodyOf Try.f64))) (n + 1) (pt_64_2.inst x) k = B_64_2 N (fun y => iter 0 lv_64_2 lo_64_2 (aexec TT (E_64 (R := R) N) (drawOk TT QQ) (L_64 N) (loopAt 2 (bodyOf Try.f64))) n (pt_64_2.inst y) k) x (fun y => k .ret (px_64_2_0.inst y)) (fun y => k (.exit 0) (px_64_2_1.inst y)) := (gstep_64_2 (l_64_2 N N) n x k).trans (by kernel_rfl)
theorem eq_64_2 {R : Type} (N : Nat) : ∀ (n : Nat) (x : pt_64_2.den) (k : Exit → St → Option R), iter 0 lv_64_2 lo_64_2 (aexec TT (E_64 (R := R) N) (drawOk TT QQ) (L_64 N) (loopAt 2 (bodyOf Try.f64))) n (pt_64_2.inst x) k = l_64_2 N n x (fun y => k .ret (px_64_2_0.inst y)) (fun y => k (.exit 0) (px_64_2_1.inst y)) :=
  iter_eq (K := Exit → St → Option R) (ks := fun k => k) (l := fun n (x : pt_64_2.den) k => l_64_2 N n x (fun y => k .ret (px_64_2_0.inst y)) (fun y => k (.exit 0) (px_64_2_1.inst y))) (B := fun (rec : pt_64_2.den → Option R) (x : pt_64_2.den) k => B_64_2 N rec x (fun y => k .ret (px_64_2_0.inst y)) (fun y => k (.exit 0) (px_64_2_1.inst y))) (fun _ _ => rfl) (fun _ _ _ => rfl) (fun n x k => step_64_2 N n x k)
theorem rounds_64_2 {R : Type} (N : Nat) : Rounds 0 TT (E_64 (R := R) N) (drawOk TT QQ) (L_64 N) 2 (loopAt 2 (bodyOf Try.f64)) :=
  rounds_of (p := pt_64_2) (l := fun (x : pt_64_2.den) k => l_64_2 N N x (fun y => k .ret (px_64_2_0.inst y)) (fun y => k (.exit 0) (px_64_2_1.inst y))) (fun s k => rfl) (fun x k => eq_64_2 N N x k)
theorem loops_64 : loopsIn (bodyOf Try.f64) = [(2, loopAt 2 (bodyOf Try.f64))] := by kernel_rfl
theorem lok_64 {R : Type} (N : Nat) : LOK 0 TT (E_64 (R := R) N) (drawOk TT QQ) (L_64 N) (bodyOf Try.f64) := loops_all loops_64 (by
  simp only [List.forall_mem_cons, List.not_mem_nil, false_implies, implies_true, and_true]
  exact rounds_64_2 N)
theorem grun_64 {R : Type} (m_64_2 : ((Int × Unit × Unit × (List (Int × (Int × Unit))) × Int × Int × Unit) × ((Int × (Int × (Int × (Int × (Int × (Int × (Int × (Int × Unit)))))))) × (Int × (Int × Unit)) × Unit)) → (((Bool × Unit) × (Unit)) → Option R) → (((Unit) × (Unit)) → Option R) → Option R) (x : aden ap_64 × hden hp_64) (k : KF R) : fnrun TT (EG_64) (drawOk TT QQ) (LG_64 m_64_2) true Try.f64 (instA ap_64 x.1) (instH hp_64 x.2) k = Q_64 m_64_2 x (fun y => k (Pat.inst (.bool) y) (instH hp_64 x.2)) := by kernel_rfl
theorem run_64 {R : Type} (N : Nat) (x : aden ap_64 × hden hp_64) (k : KF R) : fnrun TT (E_64 (R := R) N) (drawOk TT QQ) (L_64 N) true Try.f64 (instA ap_64 x.1) (instH hp_64 x.2) k = p_64 N x (fun y => k (Pat.inst (.bool) y) (instH hp_64 x.2)) := (grun_64 (l_64_2 N N) x k).trans (by kernel_rfl)
theorem good_64 {R : Type} (N : Nat) : GD (X := R) Try.prog QQ 64 ap_64 hp_64 (fun (x : aden ap_64 × hden hp_64) k => p_64 N x (fun y => k (Pat.inst (.bool) y) (instH hp_64 x.2))) :=
  gd_quiet (E := E_64 N) (p := fun (x : aden ap_64 × hden hp_64) κ => p_64 N x (fun y => κ (Pat.inst (.bool) y))) mixed tyok (eok_64 N) Try.func64 (by kernel_rfl) (by kernel_rfl) (lok_64 N) (fun x k => run_64 N x k)

def ap_14 : List Pat := [.node (.fcons (.int .i64) (.fcons (.int .i64) (.fcons (.int .i64) (.fcons (.int .i64) (.fcons (.int .i64) (.fnil)))))), .node (.fcons (.int .i64) (.fcons (.int .i64) (.fnil))), .int .i64, .int .i64, .int .u32, .int .u32]
def hp_14 : List (Option (Pat × Nat)) := []
def p_14 {R : Type} (N : Nat) (x : ((Int × (Int × (Int × (Int × (Int × Unit))))) × (Int × (Int × Unit)) × Int × Int × Int × Int × Unit) × (Unit)) (κ0 : (Bool × (Unit)) → Option R) : Option R :=
let i1 : Int := x.1.1.1
let i2 : Int := x.1.1.2.1
let i3 : Int := x.1.1.2.2.1
let i4 : Int := x.1.1.2.2.2.1
let i5 : Int := x.1.1.2.2.2.2.1
let i6 : Int := x.1.2.1.1
let i7 : Int := x.1.2.1.2.1
let i8 : Int := x.1.2.2.1
let i9 : Int := x.1.2.2.2.1
let i10 : Int := x.1.2.2.2.2.1
let i11 : Int := x.1.2.2.2.2.2.1
p_22 N ((), ()) (fun y51 =>
let b52 : Bool := y51.1
bif (!b52) then (
κ0 (false, ())) else (
p_26 N (((i1, (i2, (i3, (i4, (i5, ()))))), ()), ()) (fun y85 =>
let i86 : Int := y85.1.1.1
let i87 : Int := y85.1.1.2.1
let i88 : Int := y85.1.1.2.2.1
let i89 : Int := y85.1.1.2.2.2.1
let i90 : Int := y85.1.1.2.2.2.2.1
let i91 : Int := y85.1.1.2.2.2.2.2.1
let i92 : Int := y85.1.1.2.2.2.2.2.2.1
let i93 : Int := y85.1.1.2.2.2.2.2.2.2.1
let i94 : Int := y85.1.2.1
p_52 N (((i86, (i87, (i88, (i89, (i90, (i91, (i92, (i93, ())))))))), (i6, (i7, ())), i8, i9, i10, i11, ()), ()) (fun y206 =>
let i207 : Int := y206.1.1.1
let i208 : Int := y206.1.1.2.1
let i209 : Int := y206.1.2.1
bif (i209 != 0) then (
κ0 ((schEq (.stru (.fcons (.int .i64) (.fcons (.int .i64) (.fnil)))) ((i207, (i208, ()))) ((0, (0, ())))), ())) else (
p_29 N (((i86, (i87, (i88, (i89, (i90, (i91, (i92, (i93, ())))))))), i7, i9, ()), ()) (fun y222 =>
let i223 : Int := y222.1
bif (decide (i207 < 0)) then (
κ0 (false, ())) else (
bif (decide (i207 ≥ i88)) then (
κ0 (false, ())) else (
bif (decide (i208 < 0)) then (
κ0 (false, ())) else (
bif (decide (i208 ≥ i91)) then (
κ0 (false, ())) else (
bif (schEq (.stru (.fcons (.int .i64) (.fcons (.int .i64) (.fnil)))) ((i207, (i208, ()))) ((i8, (i223, ())))) then (
κ0 (false, ())) else (
let l224 : (List (Int × (Int × Unit))) := [(i207, (i208, ()))]
p_64 N (((i86, (i87, (i88, (i89, (i90, (i91, (i92, (i93, ())))))))), (i6, (i7, ())), i8, l224, ()), ()) (fun y259 =>
let b260 : Bool := y259
bif (!b260) then (
κ0 (false, ())) else (
bif (i207 != i8) then (
bif decide (i92 = 0) then none else (
let i261 : Int := quoA .i64 i208 i92
bif (i261 == i7) then (
κ0 (false, ())) else (
bif (decide (i6 > 0)) then (
κ0 (true, ())) else (
bif (decide (i208 < i223)) then (
κ0 (true, ())) else (
bif (i207 != i8) then (
let i262 : Int := mulA .i64 i7 i92
κ0 ((decide (i208 < i262)), ())) else (
κ0 (false, ()))))))) else (
bif (decide (i6 > 0)) then (
κ0 (true, ())) else (
bif (decide (i208 < i223)) then (
κ0 (true, ())) else (
bif (i207 != i8) then (
let i263 : Int := mulA .i64 i7 i92
κ0 ((decide (i208 < i263)), ())) else (
κ0 (false, ()))))))))))))))))))

def Q_14 {R : Type} (q_22 : (Unit) × (Unit) → ((Bool × (Unit)) → Option R) → Option R) (q_26 : ((Int × (Int × (Int × (Int × (Int × Unit))))) × Unit) × (Unit) → ((((Int × (Int × (Int × (Int × (Int × (Int × (Int × (Int × Unit)))))))) × (Int × Unit)) × (Unit)) → Option R) → Option R) (q_52 : ((Int × (Int × (Int × (Int × (Int × (Int × (Int × (Int × Unit)))))))) × (Int × (Int × Unit)) × Int × Int × Int × Int × Unit) × (Unit) → ((((Int × (Int × Unit)) × (Int × Unit)) × (Unit)) → Option R) → Option R) (q_29 : ((Int × (Int × (Int × (Int × (Int × (Int × (Int × (Int × Unit)))))))) × Int × Int × Unit) × (Unit) → ((Int × (Unit)) → Option R) → Option R) (q_64 : ((Int × (Int × (Int × (Int × (Int × (Int × (Int × (Int × Unit)))))))) × (Int × (Int × Unit)) × Int × (List (Int × (Int × Unit))) × Unit) × (Unit) → (Bool → Option R) → Option R) (x : ((Int × (Int × (Int × (Int × (Int × Unit))))) × (Int × (Int × Unit)) × Int × Int × Int × Int × Unit) × (Unit)) (κ0 : (Bool × (Unit)) → Option R) : Option R :=
let i1 : Int := x.1.1.1
let i2 : Int := x.1.1.2.1
let i3 : Int := x.1.1.2.2.1
let i4 : Int := x.1.1.2.2.2.1
let i5 : Int := x.1.1.2.2.2.2.1
let i6 : Int := x.1.2.1.1
let i7 : Int := x.1.2.1.2.1
let i8 : Int := x.1.2.2.1
let i9 : Int := x.1.2.2.2.1
let i10 : Int := x.1.2.2.2.2.1
let i11 : Int := x.1.2.2.2.2.2.1
q_22 ((), ()) (fun y51 =>
let b52 : Bool := y51.1
bif (!b52) then (
κ0 (false, ())) else (
q_26 (((i1, (i2, (i3, (i4, (i5, ()))))), ()), ()) (fun y85 =>
let i86 : Int := y85.1.1.1
let i87 : Int := y85.1.1.2.1
let i88 : Int := y85.1.1.2.2.1
let i89 : Int := y85.1.1.2.2.2.1
let i90 : Int := y85.1.1.2.2.2.2.1
let i91 : Int := y85.1.1.2.2.2.2.2.1
let i92 : Int := y85.1.1.2.2.2.2.2.2.1
let i93 : Int := y85.1.1.2.2.2.2.2.2.2.1
let i94 : Int := y85.1.2.1
q_52 (((i86, (i87, (i88, (i89, (i90, (i91, (i92, (i93, ())))))))), (i6, (i7, ())), i8, i9, i10, i11, ()), ()) (fun y206 =>
let i207 : Int := y206.1.1.1
let i208 : Int := y206.1.1.2.1
let i209 : Int := y206.1.2.1
bif (i209 != 0) then (
κ0 ((schEq (.stru (.fcons (.int .i64) (.fcons (.int .i64) (.fnil)))) ((i207, (i208, ()))) ((0, (0, ())))), ())) else (
q_29 (((i86, (i87, (i88, (i89, (i90, (i91, (i92, (i93, ())))))))), i7, i9, ()), ()) (fun y222 =>
let i223 : Int := y222.1
bif (decide (i207 < 0)) then (
κ0 (false, ())) else (
bif (decide (i207 ≥ i88)) then (
κ0 (false, ())) else (
bif (decide (i208 < 0)) then (
κ0 (false, ())) else (
bif (decide (i208 ≥ i91)) then (
κ0 (false, ())) else (
bif (schEq (.stru (.fcons (.int .i64) (.fcons (.int .i64) (.fnil)))) ((i207, (i208, ()))) ((i8, (i223, ())))) then (
κ0 (false, ())) else (
let l224 : (List (Int × (Int × Unit))) := [(i207, (i208, ()))]
q_64 (((i86, (i87, (i88, (i89, (i90, (i91, (i92, (i93, ())))))))), (i6, (i7, ())), i8, l224, ()), ()) (fun y259 =>
let b260 : Bool := y259
bif (!b260) then (
κ0 (false, ())) else (
bif (i207 != i8) then (
bif decide (i92 = 0) then none else (
let i261 : Int := quoA .i64 i208 i92
bif (i261 == i7) then (
κ0 (false, ())) else (
bif (decide (i6 > 0)) then (
κ0 (true, ())) else (
bif (decide (i208 < i223)) then (
κ0 (true, ())) else (
bif (i207 != i8) then (
let i262 : Int := mulA .i64 i7 i92
κ0 ((decide (i208 < i262)), ())) else (
κ0 (false, ()))))))) else (
bif (decide (i6 > 0)) then (
κ0 (true, ())) else (
bif (decide (i208 < i223)) then (
κ0 (true, ())) else (
bif (i207 != i8) then (
let i263 : Int := mulA .i64 i7 i92
κ0 ((decide (i208 < i263)), ())) else (
κ0 (false, ()))))))))))))))))))
def EG_14 {R : Type} (q_22 : (Unit) × (Unit) → ((Bool × (Unit)) → Option R) → Option R) (q_26 : ((Int × (Int × (Int × (Int × (Int × Unit))))) × Unit) × (Unit) → ((((Int × (Int × (Int × (Int × (Int × (Int × (Int × (Int × Unit)))))))) × (Int × Unit)) × (Unit)) → Option R) → Option R) (q_52 : ((Int × (Int × (Int × (Int × (Int × (Int × (Int × (Int × Unit)))))))) × (Int × (Int × Unit)) × Int × Int × Int × Int × Unit) × (Unit) → ((((Int × (Int × Unit)) × (Int × Unit)) × (Unit)) → Option R) → Option R) (q_29 : ((Int × (Int × (Int × (Int × (Int × (Int × (Int × (Int × Unit)))))))) × Int × Int × Unit) × (Unit) → ((Int × (Unit)) → Option R) → Option R) (q_64 : ((Int × (Int × (Int × (Int × (Int × (Int × (Int × (Int × Unit)))))))) × (Int × (Int × Unit)) × Int × (List (Int × (Int × Unit))) × Unit) × (Unit) → (Bool → Option R) → Option R) : Env R := (((((Env.base QQ LN).add 22 ap_22 hp_22 (fun (x : aden ap_22 × hden hp_22) k => q_22 x (fun y => k (Pat.inst (.bool) y.1) (instH [] y.2)))).add 26 ap_26 hp_26 (fun (x : aden ap_26 × hden hp_26) k => q_26 x (fun y => k (Pat.inst (.tup (.fcons (.node (.fcons (.int .i64) (.fcons (.int .i64) (.fcons (.int .i64) (.fcons (.int .i64) (.fcons (.int .i64) (.fcons (.int .i64) (.fcons (.int .i64) (.fcons (.int .i64) (.fnil)))))))))) (.fcons (.int .i64) (.fnil)))) y.1) (instH [] y.2)))).add 52 ap_52 hp_52 (fun (x : aden ap_52 × hden hp_52) k => q_52 x (fun y => k (Pat.inst (.tup (.fcons (.node (.fcons (.int .i64) (.fcons (.int .i64) (.fnil)))) (.fcons (.int .i64) (.fnil)))) y.1) (instH [] y.2)))).add 29 ap_29 hp_29 (fun (x : aden ap_29 × hden hp_29) k => q_29 x (fun y => k (Pat.inst (.int .i64) y.1) (instH [] y.2)))).add 64 ap_64 hp_64 (fun (x : aden ap_64 × hden hp_64) k => q_64 x (fun y => k (Pat.inst (.bool) y) (instH hp_64 x.2)))
def LG_14 {R : Type} : Loops R := Loops.none
def E_14 {R : Type} (N : Nat) : Env R := EG_14 (p_22 N) (p_26 N) (p_52 N) (p_29 N) (p_64 N)
theorem eok_14 {R : Type} (N : Nat) : EK Try.prog (E_14 (R := R) N) := ek_add (ek_add (ek_add (ek_add (ek_add (ek_base _ _) (good_22 N)) (good_26 N)) (good_52 N)) (good_29 N)) (good_64 N)
def L_14 {R : Type} (N : Nat) : Loops R := LG_14
theorem lok_14 {R : Type} (N : Nat) : LOK 0 TT (E_14 (R := R) N) (drawOk TT QQ) (L_14 N) (bodyOf Try.f14) := loops_nil (by kernel_rfl)
theorem grun_14 {R : Type} (q_22 : (Unit) × (Unit) → ((Bool × (Unit)) → Option R) → Option R) (q_26 : ((Int × (Int × (Int × (Int × (Int × Unit))))) × Unit) × (Unit) → ((((Int × (Int × (Int × (Int × (Int × (Int × (Int × (Int × Unit)))))))) × (Int × Unit)) × (Unit)) → Option R) → Option R) (q_52 : ((Int × (Int × (Int × (Int × (Int × (Int × (Int × (Int × Unit)))))))) × (Int × (Int × Unit)) × Int × Int × Int × Int × Unit) × (Unit) → ((((Int × (Int × Unit)) × (Int × Unit)) × (Unit)) → Option R) → Option R) (q_29 : ((Int × (Int × (Int × (Int × (Int × (Int × (Int × (Int × Unit)))))))) × Int × Int × Unit) × (Unit) → ((Int × (Unit)) → Option R) → Option R) (q_64 : ((Int × (Int × (Int × (Int × (Int × (Int × (Int × (Int × Unit)))))))) × (Int × (Int × Unit)) × Int × (List (Int × (Int × Unit))) × Unit) × (Unit) → (Bool → Option R) → Option R) (x : aden ap_14 × hden hp_14) (k : KF R) : fnrun TT (EG_14 q_22 q_26 q_52 q_29 q_64) (drawOk TT QQ) (LG_14) true Try.f14 (instA ap_14 x.1) (instH hp_14 x.2) k = Q_14 q_22 q_26 q_52 q_29 q_64 x (fun y => k (Pat.inst (.bool) y.1) (instH [] y.2)) := by kernel_rfl
theorem run_14 {R : Type} (N : Nat) (x : aden ap_14 × hden hp_14) (k : KF R) : fnrun TT (E_14 (R := R) N) (drawOk TT QQ) (L_14 N) true Try.f14 (instA ap_14 x.1) (instH hp_14 x.2) k = p_14 N x (fun y => k (Pat.inst (.bool) y.1) (instH [] y.2)) := (grun_14 (p_22 N) (p_26 N) (p_52 N) (p_29 N) (p_64 N) x k).trans (by kernel_rfl)
theorem good_14 {R : Type} (N : Nat) : GD (X := R) Try.prog QQ 14 ap_14 hp_14 (fun (x : aden ap_14 × hden hp_14) k => p_14 N x (fun y => k (Pat.inst (.bool) y.1) (instH [] y.2))) :=
  gd_loud (E := E_14 N) (p := fun (x : aden ap_14 × hden hp_14) k => p_14 N x (fun y => k (Pat.inst (.bool) y.1) (instH [] y.2))) mixed tyok (eok_14 N) Try.func14 (by kernel_rfl) (by kernel_rfl) (by kernel_rfl) (lok_14 N) (fun x k => run_14 N x k)

/-! ### the plain law -/
/-- Parameters that may be. -/
def Fit (a t m l s : Int) : Prop := (1 ≤ a ∧ a ≤ 3) ∧ (1 ≤ t ∧ t ≤ 4294967295) ∧ (1 ≤ l ∧ l ≤ 16777215) ∧ (1 ≤ m ∧ m ≤ 4294967295) ∧ l ≤ m / 8 ∧ 4 ≤ s ∧ s ≤ 1024
instance (a t m l s : Int) : Decidable (Fit a t m l s) := by unfold Fit; exact inferInstance
theorem p87 {R : Type} (N : Nat) (a b c : Int) (κ) : p_87 (R := R) N ((a, b, c, ()), ()) κ = κ (decide (b ≤ a ∧ a ≤ c)) := by
  unfold p_87
  dsimp only
  by_cases h1 : b ≤ a
  · by_cases h2 : a ≤ c <;> simp [h1, h2]
  · simp [h1]
theorem p88 {R : Type} (N : Nat) (a b : Int) (h1 : 0 ≤ a) (h2 : a ≤ 4611686018427387904) (h3 : 1 ≤ b) (κ) : p_88 (R := R) N ((a, b, ()), ()) κ = κ ((a - a % b, (0, ())), ()) := by
  unfold p_88 p_116
  dsimp only
  have e1 : 0 ≤ a % b := Int.emod_nonneg a (by omega)
  have e2 : a % b ≤ a := mod_le h1 (by omega)
  rw [rem64 h1, sub64 (by omega) (by omega)]
  simp [h1, h2, show ¬ b < 1 by omega, show ¬ b = 0 by omega]
theorem p26 {R : Type} (N : Nat) (a t m l s : Int) (κ) : p_26 (R := R) N (((a, (t, (m, (l, (s, ()))))), ()), ()) κ =
    (bif decide (Fit a t m l s) then κ (((a, (t, (l, (m, (4 * l * (m / (4 * l)), (4 * (m / (4 * l)), (m / (4 * l), (s, ())))))))), (0, ())), ()) else κ (((0, (0, (0, (0, (0, (0, (0, (0, ())))))))), (2, ())), ())) := by
  by_cases h : Fit a t m l s
  · obtain ⟨⟨h1, h2⟩, ⟨h3, h4⟩, ⟨h5, h6⟩, ⟨h7, h8⟩, h9, h10, h11⟩ := id h
    unfold p_26
    dsimp only
    have e1 : quoA .i64 m 8 = m / 8 := quo64 (by omega) (by omega) (by omega)
    have e2 : mulA .i64 4 l = 4 * l := mul64 (by omega) (by omega)
    have e3 : m - m % (4 * l) = 4 * l * (m / (4 * l)) := by have := Int.mul_ediv_add_emod m (4 * l); omega
    have q0 : 0 ≤ m / (4 * l) := Int.ediv_nonneg (by omega) (by omega)
    have q1 : 0 ≤ m % (4 * l) := Int.emod_nonneg _ (by omega)
    have e4 : quoA .i64 (4 * l * (m / (4 * l))) l = 4 * (m / (4 * l)) := by
      rw [quo64 (by rw [← e3]; have := mod_le (b := 4 * l) (show 0 ≤ m by omega) (by omega); omega) (by omega) (by omega)]
      rw [show 4 * l * (m / (4 * l)) = l * (4 * (m / (4 * l))) by rw [Int.mul_comm 4 l, Int.mul_assoc]]
      exact Int.mul_ediv_cancel_left _ (by omega)
    have q2 : m / (4 * l) ≤ m := Int.ediv_le_self _ (by omega)
    have e5 : quoA .i64 (4 * (m / (4 * l))) 4 = m / (4 * l) := by
      rw [quo64 (by omega) (by omega) (by omega)]
      exact Int.mul_ediv_cancel_left _ (by omega)
    simp only [p87, e1, e2]
    rw [p88 N m (4 * l) (by omega) (by omega) (by omega)]
    simp only [e3, e4, e5]
    simp [h, h1, h2, h3, h4, h5, h6, h7, h8, h9, h10, h11, show ¬ l = 0 by omega]
  · rw [dF h]
    unfold p_26
    dsimp only
    simp only [p87, cond_false]
    by_cases g1 : 1 ≤ a ∧ a ≤ 3
    · rw [dT g1]
      by_cases g2 : 1 ≤ t ∧ t ≤ 4294967295
      · rw [dT g2]
        by_cases g3 : 1 ≤ l ∧ l ≤ 16777215
        · rw [dT g3]
          by_cases g4 : 1 ≤ m ∧ m ≤ 4294967295
          · rw [dT g4, quo64 (by omega) (by omega) (by omega)]
            by_cases g5 : m / 8 ≥ l
            · rw [dT g5]
              by_cases g6 : 4 ≤ s ∧ s ≤ 1024
              · exact absurd ⟨g1, g2, g3, g4, g5, g6⟩ h
              · rw [dF g6]; rfl
            · rw [dF g5]; rfl
          · rw [dF g4]; rfl
        · rw [dF g3]; rfl
      · rw [dF g2]; rfl
    · rw [dF g1]; rfl

/-! ### a product of two words -/
theorem p86 {R : Type} (N : Nat) {x y : Int} (x1 : 0 ≤ x) (x2 : x < 18446744073709551616) (y1 : 0 ≤ y) (y2 : y < 18446744073709551616) (κ) : p_86 (R := R) N ((x, y, ()), ()) κ = κ ((x * y / 18446744073709551616, (x * y % 18446744073709551616, ())), ()) := by
  unfold p_86
  dsimp only
  rw [high64 x1 x2 y1 y2]
  unfold mulA
  rw [wrapU64 (x * y)]

/-! ### places -/
theorem or_zero64 {z : Int} (h1 : 0 ≤ z) (h2 : z < 18446744073709551616) : orA .u64 0 z = z := by
  unfold orA
  rw [wrapU64, BitVec.toNat_or]
  have q1 : (BitVec.ofInt IntKind.u64.bits z).toNat = z.toNat := by
    show (BitVec.ofInt 64 z).toNat = z.toNat
    rw [BitVec.toNat_ofInt]; omega
  have q2 : (BitVec.ofInt IntKind.u64.bits 0).toNat = 0 := by decide
  rw [q1, q2, Nat.zero_or]
  omega
def pickOf (area j : Int) : Int := area - 1 - area * (j * j / 4294967296) / 4294967296
theorem pick_in {area j : Int} (h1 : 1 ≤ area) (j1 : 0 ≤ j) (j2 : j < 4294967296) : 0 ≤ pickOf area j ∧ pickOf area j ≤ area - 1 := by
  unfold pickOf
  have b1 : j * j ≤ 4294967295 * 4294967295 := Int.mul_le_mul (by omega) (by omega) j1 (by omega)
  have b0 : 0 ≤ j * j := Int.mul_nonneg j1 j1
  generalize hx : j * j / 4294967296 = x
  have x0 : 0 ≤ x ∧ x ≤ 4294967295 := by omega
  have c0 : 0 ≤ area * x := Int.mul_nonneg (by omega) x0.1
  have c1 : area * x ≤ area * 4294967295 := Int.mul_le_mul_of_nonneg_left x0.2 (by omega)
  omega
theorem p23 {R : Type} (N : Nat) (area j : Int) (h2 : area ≤ 4294967296) (j1 : 0 ≤ j) (j2 : j < 4294967296) (κ) : p_23 (R := R) N ((area, j, ()), ()) κ = if area < 1 then κ 0 else κ (pickOf area j) := by
  unfold p_23
  dsimp only
  by_cases h1 : area < 1
  · rw [bif_t (dT h1), if_pos h1]
  rw [bif_f (dF h1), if_neg h1, wrapU64, wrapU64, Int.emod_eq_of_lt j1 (by omega), Int.emod_eq_of_lt (by omega) (by omega)]
  have b1 : j * j ≤ 4294967295 * 4294967295 := Int.mul_le_mul (by omega) (by omega) j1 (by omega)
  have b0 : 0 ≤ j * j := Int.mul_nonneg j1 j1
  have pin := pick_in (area := area) (by omega) j1 j2
  unfold pickOf at *
  rw [mulU64 b0 (by omega), shr32 b0]
  generalize hx : j * j / 4294967296 = x at *
  have x0 : 0 ≤ x ∧ x ≤ 4294967295 := by omega
  rw [p86 N (by omega) (by omega) x0.1 (by omega)]
  have c0 : 0 ≤ area * x := Int.mul_nonneg (by omega) x0.1
  have c1 : area * x ≤ 4294967296 * 4294967295 := Int.mul_le_mul h2 x0.2 x0.1 (by omega)
  generalize area * x = z at *
  have e1 : z / 18446744073709551616 = 0 := by omega
  have e2 : z % 18446744073709551616 = z := by omega
  rw [e1, e2]
  dsimp only
  rw [shr32 c0, show shlA .u64 0 32 = 0 from rfl, or_zero64 (by omega) (by omega), sub64 (a := area) (by omega) (by omega), wrap64 (by omega) (by omega), sub64 (by omega) (by omega)]
theorem p22 {R : Type} (N : Nat) (κ) : p_22 (R := R) N ((), ()) κ = κ (true, ()) := by
  unfold p_22
  rw [p23 N 10 0 (by omega) (by omega) (by omega), if_neg (by omega)]
  try dsimp only
  rw [p23 N 10 4294967295 (by omega) (by omega) (by omega), if_neg (by omega)]
  rfl
abbrev Shp8 := Int × (Int × (Int × (Int × (Int × (Int × (Int × (Int × Unit)))))))
def laneOf (pass slice lane j L : Int) : Int := if pass = 0 ∧ slice = 0 then lane else j % L
def doneOf (pass slice q : Int) : Int := if pass > 0 then 3 * q else slice * q
def areaOf (pass slice q index : Int) (own : Bool) : Int := if own = true then doneOf pass slice q + index - 1 else if index = 0 then doneOf pass slice q - 1 else doneOf pass slice q
def fromOf (pass slice q : Int) : Int := if pass = 0 ∨ slice = 3 then 0 else (slice + 1) * q
theorem p50 {R : Type} (N : Nat) (s : Shp8) (a b : Int) (κ) : p_50 (R := R) N ((s, a, b, ()), ()) κ = κ (if a = 0 ∧ b = 0 then 2 else 0) := by
  unfold p_50
  dsimp only
  by_cases h1 : a = 0
  · by_cases h2 : b = 0
    · simp [h1, h2]
    · simp [h1, h2, show (b == 0) = false from beq_eq_false_iff_ne.2 h2]
  · simp [h1, show (a == 0) = false from beq_eq_false_iff_ne.2 h1]
theorem p49 {R : Type} (N : Nat) (s0 t s2 s3 s4 s5 s6 s7 a b : Int) (ht : 1 ≤ t ∧ t ≤ 4294967295) (κ) : p_49 (R := R) N (((s0, (t, (s2, (s3, (s4, (s5, (s6, (s7, ())))))))), (a, (b, ())), ()), ()) κ = κ (decide ((0 ≤ a ∧ a ≤ t - 1) ∧ 0 ≤ b ∧ b ≤ 3), ()) := by
  unfold p_49
  dsimp only
  rw [sub64 (by omega) (by omega), p87]
  by_cases h1 : 0 ≤ a ∧ a ≤ t - 1
  · rw [dT h1, bif_t rfl, p87]
    by_cases h2 : 0 ≤ b ∧ b ≤ 3
    · rw [dT h2, dT ⟨h1, h2⟩]
    · rw [dF h2, dF (fun h => h2 h.2)]
  · rw [dF h1, bif_f rfl, dF (fun h => h1 h.1)]
section
variable {R : Type} (N : Nat) (s0 t L s3 s4 q s7 : Int)
theorem p57 (hL : 1 ≤ L ∧ L ≤ 16777215) (pass slice lane j : Int) (j1 : 0 ≤ j) (j2 : j < 4294967296) (s5 : Int) (κ : Int × Unit → Option R) :
    p_57 (R := R) N (((s0, (t, (L, (s3, (s4, (s5, (q, (s7, ())))))))), (pass, (slice, ())), lane, j, ()), ()) κ = κ (laneOf pass slice lane j L, ()) := by
  unfold p_57 laneOf
  dsimp only
  have e1 : IntKind.wrap .i64 (remA .u64 (IntKind.wrap .u64 j) (IntKind.wrap .u64 L)) = j % L := by
    rw [wrapU64, wrapU64, Int.emod_eq_of_lt j1 (by omega), Int.emod_eq_of_lt (by omega) (by omega)]
    unfold remA
    rw [Int.tmod_eq_emod_of_nonneg j1]
    have := Int.emod_nonneg j (show L ≠ 0 by omega)
    have := Int.emod_lt_of_pos j (show 0 < L by omega)
    exact wrap64 (by omega) (by omega)
  have e2 : ¬ IntKind.wrap .u64 L = 0 := by rw [wrapU64]; omega
  rw [e1, dF e2]
  by_cases h1 : pass = 0
  · by_cases h2 : slice = 0
    · simp [h1, h2]
    · simp [h1, h2, show (slice == 0) = false from beq_eq_false_iff_ne.2 h2]
  · simp [h1, show (pass == 0) = false from beq_eq_false_iff_ne.2 h1]
theorem p56 (hq : 2 ≤ q ∧ 4 * q ≤ 4294967295) (pass slice index : Int) (own : Bool) (h1 : 0 ≤ pass) (h2 : 0 ≤ slice ∧ slice ≤ 3) (h3 : 0 ≤ index ∧ index < q) (κ : Int × Unit → Option R) :
    p_56 (R := R) N (((s0, (t, (L, (s3, (s4, (4 * q, (q, (s7, ())))))))), (pass, (slice, ())), index, own, ()), ()) κ = κ (areaOf pass slice q index own, ()) := by
  unfold p_56 areaOf doneOf
  dsimp only
  have b1 : slice * q ≤ 3 * q := Int.mul_le_mul_of_nonneg_right h2.2 (by omega)
  have b0 : 0 ≤ slice * q := Int.mul_nonneg h2.1 (by omega)
  rw [mul64 (by omega) (by omega), sub64 (a := 4 * q) (by omega) (by omega), show 4 * q - q = 3 * q by omega]
  by_cases g1 : pass > 0
  · rw [bif_t (dT g1)]
    simp only [if_pos g1]
    cases own with
    | true => rw [bif_t rfl, if_pos rfl, add64 (a := 3 * q) (by omega) (by omega), sub64 (by omega) (by omega)]
    | false =>
      rw [bif_f rfl, if_neg (by simp)]
      by_cases g2 : index = 0
      · rw [bif_t (beq_iff_eq.2 g2), if_pos g2, sub64 (by omega) (by omega)]
      · rw [bif_f (beq_eq_false_iff_ne.2 g2), if_neg g2]
  · rw [bif_f (dF g1)]
    simp only [if_neg g1]
    cases own with
    | true => rw [bif_t rfl, if_pos rfl, add64 (a := slice * q) (by omega) (by omega), sub64 (by omega) (by omega)]
    | false =>
      rw [bif_f rfl, if_neg (by simp)]
      by_cases g2 : index = 0
      · rw [bif_t (beq_iff_eq.2 g2), if_pos g2, sub64 (by omega) (by omega)]
      · rw [bif_f (beq_eq_false_iff_ne.2 g2), if_neg g2]
theorem p58 (hq : 2 ≤ q ∧ 4 * q ≤ 4294967295) (pass slice : Int) (h2 : 0 ≤ slice ∧ slice ≤ 3) (s5 : Int) (κ : Int → Option R) :
    p_58 (R := R) N (((s0, (t, (L, (s3, (s4, (s5, (q, (s7, ())))))))), (pass, (slice, ())), ()), ()) κ = κ (fromOf pass slice q) := by
  unfold p_58 fromOf
  dsimp only
  by_cases g1 : pass = 0
  · rw [bif_t (beq_iff_eq.2 g1), if_pos (.inl g1)]
  rw [bif_f (beq_eq_false_iff_ne.2 g1)]
  by_cases g2 : slice = 3
  · rw [bif_t (beq_iff_eq.2 g2), if_pos (.inr g2)]
  rw [bif_f (beq_eq_false_iff_ne.2 g2), if_neg (fun h => h.elim g1 g2), add64 (by omega) (by omega)]
  have b1 : (slice + 1) * q ≤ 4 * q := Int.mul_le_mul_of_nonneg_right (by omega) (by omega)
  have b0 : 0 ≤ (slice + 1) * q := Int.mul_nonneg (by omega) (by omega)
  rw [mul64 (by omega) (by omega)]
/-- Is there such a block that is filled? -/
def There (t L q pass slice lane index : Int) : Prop := ((0 ≤ pass ∧ pass ≤ t - 1) ∧ 0 ≤ slice ∧ slice ≤ 3) ∧ (0 ≤ lane ∧ lane ≤ L - 1) ∧ (if pass = 0 ∧ slice = 0 then 2 else 0) ≤ index ∧ index ≤ q - 1
theorem area_in (hq : 2 ≤ q) (pass slice lane index : Int) (own : Bool) (h : There t L q pass slice lane index) (ho : pass = 0 → slice = 0 → own = true) : 1 ≤ areaOf pass slice q index own ∧ areaOf pass slice q index own ≤ 4 * q := by
  obtain ⟨⟨⟨h1, h2⟩, h3, h4⟩, ⟨h5, h6⟩, h7, h8⟩ := h
  unfold areaOf doneOf
  have b1 : slice * q ≤ 3 * q := Int.mul_le_mul_of_nonneg_right h4 (by omega)
  have b0 : 0 ≤ slice * q := Int.mul_nonneg h3 (by omega)
  by_cases g1 : pass > 0
  · simp only [if_pos g1]
    rw [if_neg (by omega)] at h7
    split
    · omega
    · split <;> omega
  · simp only [if_neg g1]
    by_cases g2 : slice = 0
    · subst g2
      rw [if_pos ⟨by omega, rfl⟩] at h7
      rw [if_pos (ho (by omega) rfl)]
      omega
    · have b2 : 1 * q ≤ slice * q := Int.mul_le_mul_of_nonneg_right (by omega) (by omega)
      rw [if_neg (fun hh => g2 hh.2)] at h7
      split
      · omega
      · split <;> omega
def colOf (pass slice index j q : Int) (own : Bool) : Int := (fromOf pass slice q + pickOf (areaOf pass slice q index own) j) % (4 * q)
open Classical in
theorem p52 (ht : 1 ≤ t ∧ t ≤ 4294967295) (hL : 1 ≤ L ∧ L ≤ 16777215) (hq : 2 ≤ q ∧ 4 * q ≤ 4294967295) (pass slice lane index ja jb : Int) (ja1 : 0 ≤ ja) (ja2 : ja < 4294967296) (jb1 : 0 ≤ jb) (jb2 : jb < 4294967296) (κ : ((Int × (Int × Unit)) × (Int × Unit)) × Unit → Option R) :
    p_52 (R := R) N (((s0, (t, (L, (s3, (s4, (4 * q, (q, (s7, ())))))))), (pass, (slice, ())), lane, index, ja, jb, ()), ()) κ =
      if There t L q pass slice lane index then κ (((laneOf pass slice lane jb L, (colOf pass slice index ja q (laneOf pass slice lane jb L == lane), ())), (0, ())), ()) else κ (((0, (0, ())), (11, ())), ()) := by
  unfold p_52
  dsimp only
  rw [bif_t (dT (show L > 0 by omega)), p49 N _ _ _ _ _ _ _ _ _ _ ht]
  by_cases h1 : (0 ≤ pass ∧ pass ≤ t - 1) ∧ 0 ≤ slice ∧ slice ≤ 3
  · rw [dT h1]
    dsimp only
    rw [bif_t rfl, sub64 (a := L) (by omega) (by omega), p87]
    by_cases h2 : 0 ≤ lane ∧ lane ≤ L - 1
    · rw [dT h2]
      simp only [Bool.not_true, cond_false]
      rw [p50, sub64 (a := q) (by omega) (by omega), p87]
      by_cases h3 : (if pass = 0 ∧ slice = 0 then (2 : Int) else 0) ≤ index ∧ index ≤ q - 1
      · have hth : There t L q pass slice lane index := ⟨h1, h2, h3⟩
        rw [dT h3, if_pos hth]
        simp only [Bool.not_true, cond_false]
        have hi : 0 ≤ index ∧ index < q := by
          have := h3.1
          split at this <;> omega
        rw [p57 N s0 t L s3 s4 q s7 hL pass slice lane jb jb1 jb2]
        dsimp only
        rw [p56 N s0 t L s3 s4 q s7 hq pass slice index _ h1.1.1 h1.2 hi]
        dsimp only
        rw [p58 N s0 t L s3 s4 q s7 hq pass slice h1.2]
        obtain ⟨a1, a2⟩ := area_in t L q hq.1 pass slice lane index (laneOf pass slice lane jb L == lane) hth (fun e1 e2 => by unfold laneOf; rw [if_pos ⟨e1, e2⟩]; simp)
        rw [p23 N _ ja (by omega) ja1 ja2, if_neg (by omega), bif_f (dF (by omega))]
        have pin := pick_in a1 ja1 ja2
        have f0 : 0 ≤ fromOf pass slice q ∧ fromOf pass slice q ≤ 4 * q := by
          unfold fromOf
          have b1 : (slice + 1) * q ≤ 4 * q := Int.mul_le_mul_of_nonneg_right (by omega) (by omega)
          have b0 : 0 ≤ (slice + 1) * q := Int.mul_nonneg (by omega) (by omega)
          split <;> omega
        rw [add64 (by omega) (by omega), rem64 (by omega)]
        rfl
      · rw [dF h3, if_neg (fun hh => h3 hh.2.2)]
        rfl
    · rw [dF h2, if_neg (fun hh => h2 hh.2.1)]
      rfl
  · rw [dF h1, if_neg (fun hh => h1 hh.1)]
    rfl
end
theorem pair_s (x y : Sch.den (.stru (.fcons (.int .i64) (.fcons (.int .i64) .fnil)))) : schEq (.stru (.fcons (.int .i64) (.fcons (.int .i64) .fnil))) x y = (fun (a b c d : Int) => decide (a = c ∧ b = d)) x.1 x.2.1 y.1 y.2.1 := by
  obtain ⟨a, b, _⟩ := x
  obtain ⟨c, d, _⟩ := y
  show schEq (.stru (.fcons (.int .i64) (.fcons (.int .i64) .fnil))) ((a : Int), ((b : Int), ())) ((c : Int), ((d : Int), ())) = decide ((a : Int) = c ∧ (b : Int) = d)
  by_cases h1 : (a : Int) = c
  · by_cases h2 : (b : Int) = d
    · rw [dT ⟨h1, h2⟩]; subst h1 h2; simp [schEq]
    · rw [dF (fun h => h2 h.2)]; simp [schEq]; exact fun _ => h2
  · rw [dF (fun h => h1 h.1)]; simp [schEq]; exact fun h => absurd h h1

theorem mod_twice {v c : Int} (h0 : 0 ≤ v) (h1 : v < 2 * c) : v % c = if v < c then v else v - c := by
  by_cases h : v < c
  · rw [if_pos h, Int.emod_eq_of_lt h0 h]
  · rw [if_neg h, show v = (v - c) + c by omega, Int.add_emod_right, Int.emod_eq_of_lt (by omega) (by omega)]
    omega
theorem div_at {c q k : Int} (hq : 0 < q) (h : c / q = k) : k * q ≤ c ∧ c < k * q + q := by
  have h1 := Int.mul_ediv_add_emod c q
  have h2 := Int.emod_nonneg c (show q ≠ 0 by omega)
  have h3 := Int.emod_lt_of_pos c hq
  rw [h, Int.mul_comm] at h1
  omega
theorem p64 {R : Type} (N : Nat) (hN : 10 < N) (s0 s1 s2 s3 s4 s5 q s7 pass slice lane a b : Int) (hq : 2 ≤ q) (hb : 0 ≤ b ∧ b ≤ 4294967296) (hs : a ≠ lane → b / q ≠ slice) (κ) :
    p_64 (R := R) N (((s0, (s1, (s2, (s3, (s4, (s5, (q, (s7, ())))))))), (pass, (slice, ())), lane, [(a, (b, ()))], ()), ()) κ = κ true := by
  unfold p_64
  dsimp only
  obtain ⟨n, rfl⟩ : ∃ m, N = m + 2 := ⟨N - 2, by omega⟩
  have last : ∀ (κ0 κ1) (st : (Int × (Int × (Int × (Int × (Int × (Int × (Int × (Int × Unit)))))))) × (Int × (Int × Unit)) × Unit), l_64_2 (R := R) (n + 2) (n + 1) ((lane, (), (), [(a, (b, ()))], 1, 1, ()), st) κ0 κ1 = κ1 ((), ()) := fun κ0 κ1 st => rfl
  conv => lhs; unfold l_64_2 B_64_2
  dsimp only [List.length_cons, List.length_nil]
  rw [bif_t (dT (by decide)), bif_t (dT (by decide)), bif_t (dT (by decide))]
  show (bif (a != lane) then _ else _) = _
  have e3 : addA .i64 0 1 = 1 := rfl
  by_cases h1 : a = lane
  · rw [bif_f (by simp [h1])]
    exact last _ _ _
  · rw [bif_t (by simp [h1]), bif_f (dF (by omega))]
    show (bif (quoA .i64 b q == slice) then _ else _) = _
    rw [quo64 (by omega) (by omega) (by omega), bif_f (beq_eq_false_iff_ne.2 (hs h1))]
    exact last _ _ _
theorem settled {q pass slice lane index j jb L : Int} (hq : 2 ≤ q ∧ 4 * q ≤ 4294967295) (hL : 1 ≤ L) {t : Int} (h : There t L q pass slice lane index) (j1 : 0 ≤ j) (j2 : j < 4294967296) (jb1 : 0 ≤ jb) {l c : Int} (hl : laneOf pass slice lane jb L = l) (hc : colOf pass slice index j q (l == lane) = c) :
    (0 ≤ l ∧ l < L) ∧ (0 ≤ c ∧ c < 4 * q) ∧ ¬ (l = lane ∧ c = slice * q + index) ∧ (l ≠ lane → c / q ≠ slice) ∧ (pass > 0 ∨ c < slice * q + index ∨ (l ≠ lane ∧ c < slice * q)) := by
  obtain ⟨a1, a2⟩ := area_in t L q hq.1 pass slice lane index (l == lane) h (fun e1 e2 => by unfold laneOf at hl; rw [if_pos ⟨e1, e2⟩] at hl; simp [hl])
  have pin := pick_in a1 j1 j2
  generalize hr : pickOf (areaOf pass slice q index (l == lane)) j = r at *
  have hc0 : 0 ≤ c ∧ c < 4 * q := by
    rw [← hc]
    exact ⟨Int.emod_nonneg _ (by omega), Int.emod_lt_of_pos _ (by omega)⟩
  obtain ⟨⟨⟨h1, h2⟩, h3, h4⟩, ⟨h5, h6⟩, h7, h8⟩ := h
  have hl0 : 0 ≤ l ∧ l < L := by
    rw [← hl]
    unfold laneOf
    split
    · omega
    · exact ⟨Int.emod_nonneg _ (by omega), Int.emod_lt_of_pos _ (by omega)⟩
  have idx : 0 ≤ index := by split at h7 <;> omega
  unfold colOf at hc
  rw [hr] at hc
  unfold areaOf doneOf at pin a1 a2
  have hown : ((l == lane) = true) = (l = lane) := by simp
  simp only [hown] at pin a1 a2
  refine ⟨hl0, hc0, ?_⟩
  by_cases g1 : pass > 0
  · -- a later pass
    simp only [if_pos g1] at pin a1 a2
    unfold fromOf at hc
    have key : ∀ {f : Int}, 0 ≤ f → f ≤ 3 * q → (f + r) % (4 * q) = c → (r ≤ 3 * q + index - 2 ∧ (l ≠ lane → r ≤ 3 * q - 1)) → (c = f + r ∨ c = f + r - 4 * q) := by
      intro f f0 f1 e1 e2
      rw [mod_twice (by omega) (by omega)] at e1
      split at e1 <;> omega
    have bd : r ≤ 3 * q + index - 2 ∧ (l ≠ lane → r ≤ 3 * q - 1) := by
      by_cases e : l = lane
      · rw [if_pos e] at pin; exact ⟨by omega, fun h => absurd e h⟩
      · rw [if_neg e] at pin
        by_cases e2 : index = 0
        · rw [if_pos e2] at pin; exact ⟨by omega, fun _ => by omega⟩
        · rw [if_neg e2] at pin; exact ⟨by omega, fun _ => by omega⟩
    have hs : slice = 0 ∨ slice = 1 ∨ slice = 2 ∨ slice = 3 := by omega
    have main : ∀ k : Int, slice = k → (k = 0 ∨ k = 1 ∨ k = 2 ∨ k = 3) → ¬ (l = lane ∧ c = slice * q + index) ∧ (l ≠ lane → c / q ≠ slice) := by
      intro k e hk
      rw [e] at hc ⊢
      have hcc : c = (k + 1) * q + r ∨ c = (k + 1) * q + r - 4 * q ∨ c = r ∧ k = 3 := by
        by_cases e3 : k = 3
        · rw [if_pos (.inr e3)] at hc
          rcases key (f := 0) (by omega) (by omega) hc bd with h | h
          · exact .inr (.inr ⟨by omega, e3⟩)
          · subst e3; exfalso; omega
        · rw [if_neg (fun h => h.elim (by omega) e3)] at hc
          have b1 : (k + 1) * q ≤ 3 * q := Int.mul_le_mul_of_nonneg_right (by omega) (by omega)
          have b0 : 0 ≤ (k + 1) * q := Int.mul_nonneg (by omega) (by omega)
          rcases key b0 b1 hc bd with h | h
          · exact .inl h
          · exact .inr (.inl h)
      refine ⟨fun hh => ?_, fun hh hd => ?_⟩
      · rcases hk with rfl | rfl | rfl | rfl <;> omega
      · have := div_at (by omega) hd
        have bb := bd.2 hh
        rcases hk with rfl | rfl | rfl | rfl <;> omega
    obtain ⟨m1, m2⟩ := main slice rfl hs
    exact ⟨m1, m2, .inl g1⟩
  · -- the first pass
    simp only [if_neg g1] at pin a1 a2
    unfold fromOf at hc
    rw [if_pos (.inl (by omega)), Int.zero_add] at hc
    have b1 : slice * q ≤ 3 * q := Int.mul_le_mul_of_nonneg_right h4 (by omega)
    have b0 : 0 ≤ slice * q := Int.mul_nonneg h3 (by omega)
    by_cases e : l = lane
    · rw [if_pos e] at pin a1 a2
      rw [Int.emod_eq_of_lt pin.1 (by omega)] at hc
      exact ⟨fun hh => by omega, fun hh => absurd e hh, .inr (.inl (by omega))⟩
    · rw [if_neg e] at pin a1 a2
      have rb : r ≤ slice * q - 1 := by
        by_cases e2 : index = 0
        · rw [if_pos e2] at pin; omega
        · rw [if_neg e2] at pin; omega
      rw [Int.emod_eq_of_lt pin.1 (by omega)] at hc
      refine ⟨fun hh => e hh.1, fun hh hd => ?_, .inr (.inr ⟨e, by omega⟩)⟩
      have := div_at (by omega) hd
      omega
open Classical in
theorem p14 (N : Nat) (hN : 10 < N) (a t m l s pass slice lane index ja jb : Int) (ja1 : 0 ≤ ja) (ja2 : ja < 4294967296) (jb1 : 0 ≤ jb) (jb2 : jb < 4294967296) (κ) :
    p_14 (R := AV) N (((a, (t, (m, (l, (s, ()))))), (pass, (slice, ())), lane, index, ja, jb, ()), ()) κ = κ (true, ()) := by
  unfold p_14
  dsimp only
  rw [p22]
  simp only [Bool.not_true, cond_false]
  rw [p26]
  by_cases h : Fit a t m l s
  · rw [dT h]
    obtain ⟨⟨h1, h2⟩, ⟨h3, h4⟩, ⟨h5, h6⟩, ⟨h7, h8⟩, h9, h10, h11⟩ := h
    simp only [cond_true]
    generalize hq : m / (4 * l) = q
    have q0 : 4 * l * q ≤ m := by rw [← hq]; exact Int.mul_ediv_self_le (by omega)
    have q1 : 2 ≤ q := by rw [← hq]; exact (Int.le_ediv_iff_mul_le (by omega)).2 (by omega)
    have w0 : 4 * l * q = 4 * (q * l) := by rw [Int.mul_assoc, Int.mul_comm l q]
    have w1 : q * 1 ≤ q * l := Int.mul_le_mul_of_nonneg_left h5 (by omega)
    have hq2 : 2 ≤ q ∧ 4 * q ≤ 4294967295 := by omega
    rw [p52 N a t l m (4 * l * q) q s ⟨h3, h4⟩ ⟨h5, h6⟩ hq2 pass slice lane index ja jb ja1 ja2 jb1 jb2]
    by_cases hth : There t l q pass slice lane index
    · rw [if_pos hth]
      obtain ⟨s1, s2, s3, s4, s5⟩ := settled hq2 h5 hth ja1 ja2 jb1 rfl rfl
      obtain ⟨⟨⟨k1, k2⟩, k3, k4⟩, ⟨k5, k6⟩, k7, k8⟩ := hth
      have idx : 0 ≤ index := by split at k7 <;> omega
      dsimp only
      generalize hl : laneOf pass slice lane jb l = L at *
      generalize hc : colOf pass slice index ja q (L == lane) = c at *
      have b1 : slice * q ≤ 3 * q := Int.mul_le_mul_of_nonneg_right k4 (by omega)
      have b0 : 0 ≤ slice * q := Int.mul_nonneg k3 (by omega)
      simp only [bne_self_eq_false, cond_false]
      unfold p_29
      dsimp only
      rw [mul64 (by omega) (by omega), add64 (by omega) (by omega), bif_f (dF (by omega)), bif_f (dF (by omega)), bif_f (dF (by omega)), bif_f (dF (by omega)), pair_s]
      dsimp only
      rw [bif_f (dF s3), p64 N hN _ _ _ _ _ _ _ _ _ _ _ _ _ q1 (by omega) s4]
      simp only [Bool.not_true, cond_false]
      have fin : (bif decide (pass > 0) then κ (true, ()) else bif decide (c < slice * q + index) then κ (true, ()) else bif L != lane then κ (decide (c < slice * q), ()) else κ (false, ())) = κ (true, ()) := by
        by_cases e1 : pass > 0
        · rw [bif_t (dT e1)]
        rw [bif_f (dF e1)]
        by_cases e2 : c < slice * q + index
        · rw [bif_t (dT e2)]
        rw [bif_f (dF e2)]
        obtain ⟨e3, e4⟩ := (s5.resolve_left e1).resolve_left e2
        rw [bif_t (by simp [e3]), dT e4]
      rw [fin]
      by_cases e1 : L = lane
      · rw [bif_f (by simp [e1])]
      · rw [bif_t (by simp [e1]), bif_f (dF (by omega)), quo64 (by omega) (by omega) (by omega), bif_f (beq_eq_false_iff_ne.2 (s4 e1))]
    · rw [if_neg hth]
      rfl
  · rw [dF h]
    rfl
theorem law_all (y0 : Sch.den (.stru (.fcons (.int .i64) (.fcons (.int .i64) (.fcons (.int .i64) (.fcons (.int .i64) (.fcons (.int .i64) .fnil))))))) {P0 : Prop} (wf0 : P0) (y1 : Sch.den (.stru (.fcons (.int .i64) (.fcons (.int .i64) .fnil)))) {P1 : Prop} (wf1 : P1) (y2 : Int) {P2 : Prop} (wf2 : P2) (y3 : Int) {P3 : Prop} (wf3 : P3)
    (y4 : Int) (wf4 : WF (.int .u32) y4) (y5 : Int) (wf5 : WF (.int .u32) y5) :
    ∃ H', ACalls Try.prog 14 [toAV (.stru (.fcons (.int .i64) (.fcons (.int .i64) (.fcons (.int .i64) (.fcons (.int .i64) (.fcons (.int .i64) .fnil)))))) y0, toAV (.stru (.fcons (.int .i64) (.fcons (.int .i64) .fnil))) y1, toAV (.int .i64) y2, toAV (.int .i64) y3, toAV (.int .u32) y4, toAV (.int .u32) y5] [] (.bool true) H' :=
  gd_law (good_14 11) (x := (y0, y1, y2, y3, y4, y5, ())) (by
    obtain ⟨a, t, m, l, s, u⟩ := y0
    obtain ⟨p, i, v⟩ := y1
    exact p14 11 (by omega) a t m l s p i y2 y3 y4 y5 (wf_u32 wf4).1 (wf_u32 wf4).2 (wf_u32 wf5).1 (wf_u32 wf5).2 _)
end Go.Proofs.Ytjehpceomlnicaa.Eng
