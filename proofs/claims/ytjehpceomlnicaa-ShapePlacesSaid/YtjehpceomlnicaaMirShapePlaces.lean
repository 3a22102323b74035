/-
Plain functions that the functions of the program are shown to come to, printed by a program of the prover; each with its proof.
Conditions: none.
-/
import Derived.Test.YtjehpceomlnicaaProg
import Derived.Test.YtjehpceomlnicaaEngY
import Derived.KernelRfl
set_option linter.unusedVariables false
set_option linter.unusedSimpArgs false
namespace Go.Proofs.Ytjehpceomlnicaa.Eng
def TT : Types := [(35, ⟨.stru [(3, 0), (3, 1), (3, 2), (3, 3), (3, 4)], 5, 40, .node (.fcons (.int .i64 0) (.fcons (.int .i64 0) (.fcons (.int .i64 0) (.fcons (.int .i64 0) (.fcons (.int .i64 0) (.fnil)))))), some (.stru (.fcons (.int .i64) (.fcons (.int .i64) (.fcons (.int .i64) (.fcons (.int .i64) (.fcons (.int .i64) (.fnil))))))), true⟩),
  (3, ⟨.int .i64, 1, 8, .int .i64 0, some (.int .i64), false⟩),
  (4, ⟨.bool, 1, 1, .bool false, some (.bool), false⟩),
  (37, ⟨.stru [(3, 0), (3, 1), (3, 2), (3, 3), (3, 4), (3, 5), (3, 6), (3, 7)], 8, 64, .node (.fcons (.int .i64 0) (.fcons (.int .i64 0) (.fcons (.int .i64 0) (.fcons (.int .i64 0) (.fcons (.int .i64 0) (.fcons (.int .i64 0) (.fcons (.int .i64 0) (.fcons (.int .i64 0) (.fnil))))))))), some (.stru (.fcons (.int .i64) (.fcons (.int .i64) (.fcons (.int .i64) (.fcons (.int .i64) (.fcons (.int .i64) (.fcons (.int .i64) (.fcons (.int .i64) (.fcons (.int .i64) (.fnil)))))))))), true⟩),
  (38, ⟨.int .i64, 1, 8, .int .i64 0, some (.int .i64), false⟩)]
theorem tyok : TyOk Try.prog TT := TyOk.of (by kernel_rfl)
theorem mixed : Try.prog.follows .mixedOrders = true := by kernel_rfl
def E0 {R : Type} (N : Nat) : Env R := Env.base (fun f => memN [29] f) (fun f => memN [] f)
theorem eok0 {R : Type} (N : Nat) : EOK Try.prog (E0 (R := R) N) := EOK.base _ _
def ap_87 : List Pat := [.int .i64, .int .i64, .int .i64]
def hp_87 : List (Option (Pat × Nat)) := []
def p_87 {R : Type} (N : Nat) (x : (Int × Int × Int × Unit) × (Unit)) (κ0 : (Bool × (Unit)) → Option R) : Option R :=
let i13 : Int := x.1.1
let i14 : Int := x.1.2.1
let i15 : Int := x.1.2.2.1
bif (decide (i13 ≥ i14)) then (
κ0 ((decide (i13 ≤ i15)), ())) else (
κ0 (false, ()))

def L_87 {R : Type} (N : Nat) : Loops R := Loops.none
theorem lok_87 {R : Type} (N : Nat) : LOK 0 TT (E0 (R := R) N) (drawOk TT (E0 (R := R) N).q) (L_87 N) (bodyOf Try.f87) := loops_nil (by kernel_rfl)
theorem run_87 {R : Type} (N : Nat) (x : aden ap_87 × hden hp_87) (k : KF R) : fnrun TT (E0 (R := R) N) (drawOk TT (E0 (R := R) N).q) (L_87 N) true Try.f87 (instA ap_87 x.1) (instH hp_87 x.2) k = p_87 N x (fun y => k (Pat.inst (.bool) y.1) (instH [] y.2)) := by kernel_rfl
theorem good_87 {R : Type} (N : Nat) : Good (X := R) Try.prog (E0 (R := R) N).q 87 ap_87 hp_87 (fun (x : aden ap_87 × hden hp_87) k => p_87 N x (fun y => k (Pat.inst (.bool) y.1) (instH [] y.2))) :=
  good_loud (p := fun (x : aden ap_87 × hden hp_87) k => p_87 N x (fun y => k (Pat.inst (.bool) y.1) (instH [] y.2))) mixed tyok (eok0 N) Try.func87 (by kernel_rfl) (by kernel_rfl) (by kernel_rfl) (lok_87 N) (fun x k => run_87 N x k)
def E1 {R : Type} (N : Nat) : Env R := (E0 N).add 87 ap_87 hp_87 (fun (x : aden ap_87 × hden hp_87) k => p_87 N x (fun y => k (Pat.inst (.bool) y.1) (instH [] y.2)))
theorem eok1 {R : Type} (N : Nat) : EOK Try.prog (E1 (R := R) N) := EOK.add (eok0 N) (good_87 N)

def ap_116 : List Pat := [.int .i64]
def hp_116 : List (Option (Pat × Nat)) := []
def p_116 {R : Type} (N : Nat) (x : (Int × Unit) × (Unit)) (κ0 : (Bool × (Unit)) → Option R) : Option R :=
let i30 : Int := x.1.1
bif (decide (i30 ≥ 0)) then (
κ0 ((decide (i30 ≤ 4611686018427387904)), ())) else (
κ0 (false, ()))

def L_116 {R : Type} (N : Nat) : Loops R := Loops.none
theorem lok_116 {R : Type} (N : Nat) : LOK 0 TT (E1 (R := R) N) (drawOk TT (E1 (R := R) N).q) (L_116 N) (bodyOf Try.f116) := loops_nil (by kernel_rfl)
theorem run_116 {R : Type} (N : Nat) (x : aden ap_116 × hden hp_116) (k : KF R) : fnrun TT (E1 (R := R) N) (drawOk TT (E1 (R := R) N).q) (L_116 N) true Try.f116 (instA ap_116 x.1) (instH hp_116 x.2) k = p_116 N x (fun y => k (Pat.inst (.bool) y.1) (instH [] y.2)) := by kernel_rfl
theorem good_116 {R : Type} (N : Nat) : Good (X := R) Try.prog (E1 (R := R) N).q 116 ap_116 hp_116 (fun (x : aden ap_116 × hden hp_116) k => p_116 N x (fun y => k (Pat.inst (.bool) y.1) (instH [] y.2))) :=
  good_loud (p := fun (x : aden ap_116 × hden hp_116) k => p_116 N x (fun y => k (Pat.inst (.bool) y.1) (instH [] y.2))) mixed tyok (eok1 N) Try.func116 (by kernel_rfl) (by kernel_rfl) (by kernel_rfl) (lok_116 N) (fun x k => run_116 N x k)
def E2 {R : Type} (N : Nat) : Env R := (E1 N).add 116 ap_116 hp_116 (fun (x : aden ap_116 × hden hp_116) k => p_116 N x (fun y => k (Pat.inst (.bool) y.1) (instH [] y.2)))
theorem eok2 {R : Type} (N : Nat) : EOK Try.prog (E2 (R := R) N) := EOK.add (eok1 N) (good_116 N)

def ap_88 : List Pat := [.int .i64, .int .i64]
def hp_88 : List (Option (Pat × Nat)) := []
def p_88 {R : Type} (N : Nat) (x : (Int × Int × Unit) × (Unit)) (κ0 : ((Int × (Int × Unit)) × (Unit)) → Option R) : Option R :=
let i28 : Int := x.1.1
let i29 : Int := x.1.2.1
p_116 N ((i28, ()), ()) (fun y31 =>
let b32 : Bool := y31.1
bif (!b32) then (
κ0 ((0, (1, ())), ())) else (
bif (decide (i29 < 1)) then (
κ0 ((0, (1, ())), ())) else (
bif decide (i29 = 0) then none else (
let i33 : Int := remA .i64 i28 i29
let i34 : Int := subA .i64 i28 i33
κ0 ((i34, (0, ())), ())))))

def L_88 {R : Type} (N : Nat) : Loops R := Loops.none
theorem lok_88 {R : Type} (N : Nat) : LOK 0 TT (E2 (R := R) N) (drawOk TT (E2 (R := R) N).q) (L_88 N) (bodyOf Try.f88) := loops_nil (by kernel_rfl)
theorem run_88 {R : Type} (N : Nat) (x : aden ap_88 × hden hp_88) (k : KF R) : fnrun TT (E2 (R := R) N) (drawOk TT (E2 (R := R) N).q) (L_88 N) true Try.f88 (instA ap_88 x.1) (instH hp_88 x.2) k = p_88 N x (fun y => k (Pat.inst (.tup (.fcons (.int .i64) (.fcons (.int .i64) (.fnil)))) y.1) (instH [] y.2)) := by kernel_rfl
theorem good_88 {R : Type} (N : Nat) : Good (X := R) Try.prog (E2 (R := R) N).q 88 ap_88 hp_88 (fun (x : aden ap_88 × hden hp_88) k => p_88 N x (fun y => k (Pat.inst (.tup (.fcons (.int .i64) (.fcons (.int .i64) (.fnil)))) y.1) (instH [] y.2))) :=
  good_loud (p := fun (x : aden ap_88 × hden hp_88) k => p_88 N x (fun y => k (Pat.inst (.tup (.fcons (.int .i64) (.fcons (.int .i64) (.fnil)))) y.1) (instH [] y.2))) mixed tyok (eok2 N) Try.func88 (by kernel_rfl) (by kernel_rfl) (by kernel_rfl) (lok_88 N) (fun x k => run_88 N x k)
def E3 {R : Type} (N : Nat) : Env R := (E2 N).add 88 ap_88 hp_88 (fun (x : aden ap_88 × hden hp_88) k => p_88 N x (fun y => k (Pat.inst (.tup (.fcons (.int .i64) (.fcons (.int .i64) (.fnil)))) y.1) (instH [] y.2)))
theorem eok3 {R : Type} (N : Nat) : EOK Try.prog (E3 (R := R) N) := EOK.add (eok2 N) (good_88 N)

def ap_26 : List Pat := [.node (.fcons (.int .i64) (.fcons (.int .i64) (.fcons (.int .i64) (.fcons (.int .i64) (.fcons (.int .i64) (.fnil))))))]
def hp_26 : List (Option (Pat × Nat)) := []
def p_26 {R : Type} (N : Nat) (x : ((Int × (Int × (Int × (Int × (Int × Unit))))) × Unit) × (Unit)) (κ0 : (((Int × (Int × (Int × (Int × (Int × (Int × (Int × (Int × Unit)))))))) × (Int × Unit)) × (Unit)) → Option R) : Option R :=
let i8 : Int := x.1.1.1
let i9 : Int := x.1.1.2.1
let i10 : Int := x.1.1.2.2.1
let i11 : Int := x.1.1.2.2.2.1
let i12 : Int := x.1.1.2.2.2.2.1
p_87 N ((i8, 1, 3, ()), ()) (fun y16 =>
let b17 : Bool := y16.1
bif b17 then (
p_87 N ((i9, 1, 4294967295, ()), ()) (fun y18 =>
let b19 : Bool := y18.1
bif b19 then (
p_87 N ((i11, 1, 16777215, ()), ()) (fun y20 =>
let b21 : Bool := y20.1
bif b21 then (
p_87 N ((i10, 1, 4294967295, ()), ()) (fun y22 =>
let b23 : Bool := y22.1
bif b23 then (
let i24 : Int := quoA .i64 i10 8
bif (decide (i24 ≥ i11)) then (
p_87 N ((i12, 4, 1024, ()), ()) (fun y25 =>
let b26 : Bool := y25.1
bif (!b26) then (
κ0 (((0, (0, (0, (0, (0, (0, (0, (0, ())))))))), (2, ())), ())) else (
let i27 : Int := mulA .i64 4 i11
p_88 N ((i10, i27, ()), ()) (fun y35 =>
let i36 : Int := y35.1.1
let i37 : Int := y35.1.2.1
bif decide (i11 = 0) then none else (
let i38 : Int := quoA .i64 i36 i11
let i39 : Int := quoA .i64 i38 4
κ0 (((i8, (i9, (i11, (i10, (i36, (i38, (i39, (i12, ())))))))), (0, ())), ())))))) else (
κ0 (((0, (0, (0, (0, (0, (0, (0, (0, ())))))))), (2, ())), ()))) else (
κ0 (((0, (0, (0, (0, (0, (0, (0, (0, ())))))))), (2, ())), ())))) else (
κ0 (((0, (0, (0, (0, (0, (0, (0, (0, ())))))))), (2, ())), ())))) else (
κ0 (((0, (0, (0, (0, (0, (0, (0, (0, ())))))))), (2, ())), ())))) else (
κ0 (((0, (0, (0, (0, (0, (0, (0, (0, ())))))))), (2, ())), ())))

def L_26 {R : Type} (N : Nat) : Loops R := Loops.none
theorem lok_26 {R : Type} (N : Nat) : LOK 0 TT (E3 (R := R) N) (drawOk TT (E3 (R := R) N).q) (L_26 N) (bodyOf Try.f26) := loops_nil (by kernel_rfl)
theorem run_26 {R : Type} (N : Nat) (x : aden ap_26 × hden hp_26) (k : KF R) : fnrun TT (E3 (R := R) N) (drawOk TT (E3 (R := R) N).q) (L_26 N) true Try.f26 (instA ap_26 x.1) (instH hp_26 x.2) k = p_26 N x (fun y => k (Pat.inst (.tup (.fcons (.node (.fcons (.int .i64) (.fcons (.int .i64) (.fcons (.int .i64) (.fcons (.int .i64) (.fcons (.int .i64) (.fcons (.int .i64) (.fcons (.int .i64) (.fcons (.int .i64) (.fnil)))))))))) (.fcons (.int .i64) (.fnil)))) y.1) (instH [] y.2)) := by kernel_rfl
theorem good_26 {R : Type} (N : Nat) : Good (X := R) Try.prog (E3 (R := R) N).q 26 ap_26 hp_26 (fun (x : aden ap_26 × hden hp_26) k => p_26 N x (fun y => k (Pat.inst (.tup (.fcons (.node (.fcons (.int .i64) (.fcons (.int .i64) (.fcons (.int .i64) (.fcons (.int .i64) (.fcons (.int .i64) (.fcons (.int .i64) (.fcons (.int .i64) (.fcons (.int .i64) (.fnil)))))))))) (.fcons (.int .i64) (.fnil)))) y.1) (instH [] y.2))) :=
  good_loud (p := fun (x : aden ap_26 × hden hp_26) k => p_26 N x (fun y => k (Pat.inst (.tup (.fcons (.node (.fcons (.int .i64) (.fcons (.int .i64) (.fcons (.int .i64) (.fcons (.int .i64) (.fcons (.int .i64) (.fcons (.int .i64) (.fcons (.int .i64) (.fcons (.int .i64) (.fnil)))))))))) (.fcons (.int .i64) (.fnil)))) y.1) (instH [] y.2))) mixed tyok (eok3 N) Try.func26 (by kernel_rfl) (by kernel_rfl) (by kernel_rfl) (lok_26 N) (fun x k => run_26 N x k)
def E4 {R : Type} (N : Nat) : Env R := (E3 N).add 26 ap_26 hp_26 (fun (x : aden ap_26 × hden hp_26) k => p_26 N x (fun y => k (Pat.inst (.tup (.fcons (.node (.fcons (.int .i64) (.fcons (.int .i64) (.fcons (.int .i64) (.fcons (.int .i64) (.fcons (.int .i64) (.fcons (.int .i64) (.fcons (.int .i64) (.fcons (.int .i64) (.fnil)))))))))) (.fcons (.int .i64) (.fnil)))) y.1) (instH [] y.2)))
theorem eok4 {R : Type} (N : Nat) : EOK Try.prog (E4 (R := R) N) := EOK.add (eok3 N) (good_26 N)

def ap_25 : List Pat := []
def hp_25 : List (Option (Pat × Nat)) := []
def p_25 {R : Type} (N : Nat) (x : (Unit) × (Unit)) (κ0 : (Bool × (Unit)) → Option R) : Option R :=
p_26 N (((3, (1, (37, (2, (32, ()))))), ()), ()) (fun y40 =>
let i41 : Int := y40.1.1.1
let i42 : Int := y40.1.1.2.1
let i43 : Int := y40.1.1.2.2.1
let i44 : Int := y40.1.1.2.2.2.1
let i45 : Int := y40.1.1.2.2.2.2.1
let i46 : Int := y40.1.1.2.2.2.2.2.1
let i47 : Int := y40.1.1.2.2.2.2.2.2.1
let i48 : Int := y40.1.1.2.2.2.2.2.2.2.1
let i49 : Int := y40.1.2.1
bif (i49 == 0) then (
bif (i45 == 32) then (
bif (i46 == 16) then (
κ0 ((i47 == 4), ())) else (
κ0 (false, ()))) else (
κ0 (false, ()))) else (
κ0 (false, ())))

def L_25 {R : Type} (N : Nat) : Loops R := Loops.none
theorem lok_25 {R : Type} (N : Nat) : LOK 0 TT (E4 (R := R) N) (drawOk TT (E4 (R := R) N).q) (L_25 N) (bodyOf Try.f25) := loops_nil (by kernel_rfl)
theorem run_25 {R : Type} (N : Nat) (x : aden ap_25 × hden hp_25) (k : KF R) : fnrun TT (E4 (R := R) N) (drawOk TT (E4 (R := R) N).q) (L_25 N) true Try.f25 (instA ap_25 x.1) (instH hp_25 x.2) k = p_25 N x (fun y => k (Pat.inst (.bool) y.1) (instH [] y.2)) := by kernel_rfl
theorem good_25 {R : Type} (N : Nat) : Good (X := R) Try.prog (E4 (R := R) N).q 25 ap_25 hp_25 (fun (x : aden ap_25 × hden hp_25) k => p_25 N x (fun y => k (Pat.inst (.bool) y.1) (instH [] y.2))) :=
  good_loud (p := fun (x : aden ap_25 × hden hp_25) k => p_25 N x (fun y => k (Pat.inst (.bool) y.1) (instH [] y.2))) mixed tyok (eok4 N) Try.func25 (by kernel_rfl) (by kernel_rfl) (by kernel_rfl) (lok_25 N) (fun x k => run_25 N x k)
def E5 {R : Type} (N : Nat) : Env R := (E4 N).add 25 ap_25 hp_25 (fun (x : aden ap_25 × hden hp_25) k => p_25 N x (fun y => k (Pat.inst (.bool) y.1) (instH [] y.2)))
theorem eok5 {R : Type} (N : Nat) : EOK Try.prog (E5 (R := R) N) := EOK.add (eok4 N) (good_25 N)

def ap_27 : List Pat := [.node (.fcons (.int .i64) (.fcons (.int .i64) (.fcons (.int .i64) (.fcons (.int .i64) (.fcons (.int .i64) (.fcons (.int .i64) (.fcons (.int .i64) (.fcons (.int .i64) (.fnil))))))))), .int .i64, .int .i64]
def hp_27 : List (Option (Pat × Nat)) := []
def p_27 {R : Type} (N : Nat) (x : ((Int × (Int × (Int × (Int × (Int × (Int × (Int × (Int × Unit)))))))) × Int × Int × Unit) × (Unit)) (κ0 : (Int × (Unit)) → Option R) : Option R :=
let i62 : Int := x.1.1.1
let i63 : Int := x.1.1.2.1
let i64 : Int := x.1.1.2.2.1
let i65 : Int := x.1.1.2.2.2.1
let i66 : Int := x.1.1.2.2.2.2.1
let i67 : Int := x.1.1.2.2.2.2.2.1
let i68 : Int := x.1.1.2.2.2.2.2.2.1
let i69 : Int := x.1.1.2.2.2.2.2.2.2.1
let i70 : Int := x.1.2.1
let i71 : Int := x.1.2.2.1
let i72 : Int := mulA .i64 i70 i67
let i73 : Int := addA .i64 i72 i71
κ0 (i73, ())

def L_27 {R : Type} (N : Nat) : Loops R := Loops.none
theorem lok_27 {R : Type} (N : Nat) : LOK 0 TT (E5 (R := R) N) (drawOk TT (E5 (R := R) N).q) (L_27 N) (bodyOf Try.f27) := loops_nil (by kernel_rfl)
theorem run_27 {R : Type} (N : Nat) (x : aden ap_27 × hden hp_27) (k : KF R) : fnrun TT (E5 (R := R) N) (drawOk TT (E5 (R := R) N).q) (L_27 N) true Try.f27 (instA ap_27 x.1) (instH hp_27 x.2) k = p_27 N x (fun y => k (Pat.inst (.int .i64) y.1) (instH [] y.2)) := by kernel_rfl
theorem good_27 {R : Type} (N : Nat) : Good (X := R) Try.prog (E5 (R := R) N).q 27 ap_27 hp_27 (fun (x : aden ap_27 × hden hp_27) k => p_27 N x (fun y => k (Pat.inst (.int .i64) y.1) (instH [] y.2))) :=
  good_loud (p := fun (x : aden ap_27 × hden hp_27) k => p_27 N x (fun y => k (Pat.inst (.int .i64) y.1) (instH [] y.2))) mixed tyok (eok5 N) Try.func27 (by kernel_rfl) (by kernel_rfl) (by kernel_rfl) (lok_27 N) (fun x k => run_27 N x k)
def E6 {R : Type} (N : Nat) : Env R := (E5 N).add 27 ap_27 hp_27 (fun (x : aden ap_27 × hden hp_27) k => p_27 N x (fun y => k (Pat.inst (.int .i64) y.1) (instH [] y.2)))
theorem eok6 {R : Type} (N : Nat) : EOK Try.prog (E6 (R := R) N) := EOK.add (eok5 N) (good_27 N)

def ap_28 : List Pat := [.node (.fcons (.int .i64) (.fcons (.int .i64) (.fcons (.int .i64) (.fcons (.int .i64) (.fcons (.int .i64) (.fcons (.int .i64) (.fcons (.int .i64) (.fcons (.int .i64) (.fnil))))))))), .int .i64]
def hp_28 : List (Option (Pat × Nat)) := []
def p_28 {R : Type} (N : Nat) (x : ((Int × (Int × (Int × (Int × (Int × (Int × (Int × (Int × Unit)))))))) × Int × Unit) × (Unit)) (κ0 : (Int × (Unit)) → Option R) : Option R :=
let i76 : Int := x.1.1.1
let i77 : Int := x.1.1.2.1
let i78 : Int := x.1.1.2.2.1
let i79 : Int := x.1.1.2.2.2.1
let i80 : Int := x.1.1.2.2.2.2.1
let i81 : Int := x.1.1.2.2.2.2.2.1
let i82 : Int := x.1.1.2.2.2.2.2.2.1
let i83 : Int := x.1.1.2.2.2.2.2.2.2.1
let i84 : Int := x.1.2.1
bif (i84 == 0) then (
let i85 : Int := subA .i64 i81 1
κ0 (i85, ())) else (
let i86 : Int := subA .i64 i84 1
κ0 (i86, ()))

def L_28 {R : Type} (N : Nat) : Loops R := Loops.none
theorem lok_28 {R : Type} (N : Nat) : LOK 0 TT (E6 (R := R) N) (drawOk TT (E6 (R := R) N).q) (L_28 N) (bodyOf Try.f28) := loops_nil (by kernel_rfl)
theorem run_28 {R : Type} (N : Nat) (x : aden ap_28 × hden hp_28) (k : KF R) : fnrun TT (E6 (R := R) N) (drawOk TT (E6 (R := R) N).q) (L_28 N) true Try.f28 (instA ap_28 x.1) (instH hp_28 x.2) k = p_28 N x (fun y => k (Pat.inst (.int .i64) y.1) (instH [] y.2)) := by kernel_rfl
theorem good_28 {R : Type} (N : Nat) : Good (X := R) Try.prog (E6 (R := R) N).q 28 ap_28 hp_28 (fun (x : aden ap_28 × hden hp_28) k => p_28 N x (fun y => k (Pat.inst (.int .i64) y.1) (instH [] y.2))) :=
  good_loud (p := fun (x : aden ap_28 × hden hp_28) k => p_28 N x (fun y => k (Pat.inst (.int .i64) y.1) (instH [] y.2))) mixed tyok (eok6 N) Try.func28 (by kernel_rfl) (by kernel_rfl) (by kernel_rfl) (lok_28 N) (fun x k => run_28 N x k)
def E7 {R : Type} (N : Nat) : Env R := (E6 N).add 28 ap_28 hp_28 (fun (x : aden ap_28 × hden hp_28) k => p_28 N x (fun y => k (Pat.inst (.int .i64) y.1) (instH [] y.2)))
theorem eok7 {R : Type} (N : Nat) : EOK Try.prog (E7 (R := R) N) := EOK.add (eok6 N) (good_28 N)

def ap_29 : List Pat := [.node (.fcons (.int .i64) (.fcons (.int .i64) (.fcons (.int .i64) (.fcons (.int .i64) (.fcons (.int .i64) (.fcons (.int .i64) (.fcons (.int .i64) (.fcons (.int .i64) (.fnil))))))))), .int .i64, .int .i64]
def hp_29 : List (Option (Pat × Nat)) := []
def p_29 {R : Type} (N : Nat) (x : ((Int × (Int × (Int × (Int × (Int × (Int × (Int × (Int × Unit)))))))) × Int × Int × Unit) × (Unit)) (κ0 : Int → Option R) : Option R :=
let i95 : Int := x.1.1.1
let i96 : Int := x.1.1.2.1
let i97 : Int := x.1.1.2.2.1
let i98 : Int := x.1.1.2.2.2.1
let i99 : Int := x.1.1.2.2.2.2.1
let i100 : Int := x.1.1.2.2.2.2.2.1
let i101 : Int := x.1.1.2.2.2.2.2.2.1
let i102 : Int := x.1.1.2.2.2.2.2.2.2.1
let i103 : Int := x.1.2.1
let i104 : Int := x.1.2.2.1
let i105 : Int := mulA .i64 i103 i101
let i106 : Int := addA .i64 i105 i104
κ0 i106

def L_29 {R : Type} (N : Nat) : Loops R := Loops.none
theorem lok_29 {R : Type} (N : Nat) : LOK 0 TT (E7 (R := R) N) (drawOk TT (E7 (R := R) N).q) (L_29 N) (bodyOf Try.f29) := loops_nil (by kernel_rfl)
theorem run_29 {R : Type} (N : Nat) (x : aden ap_29 × hden hp_29) (k : KF R) : fnrun TT (E7 (R := R) N) (drawOk TT (E7 (R := R) N).q) (L_29 N) true Try.f29 (instA ap_29 x.1) (instH hp_29 x.2) k = p_29 N x (fun y => k (Pat.inst (.int .i64) y) (instH hp_29 x.2)) := by kernel_rfl
theorem good_29 {R : Type} (N : Nat) : Good (X := R) Try.prog (E7 (R := R) N).q 29 ap_29 hp_29 (fun (x : aden ap_29 × hden hp_29) k => p_29 N x (fun y => k (Pat.inst (.int .i64) y) (instH hp_29 x.2))) :=
  good_quiet (p := fun (x : aden ap_29 × hden hp_29) κ => p_29 N x (fun y => κ (Pat.inst (.int .i64) y))) mixed tyok (eok7 N) Try.func29 (by kernel_rfl) (by kernel_rfl) (lok_29 N) (fun x k => run_29 N x k)
def E8 {R : Type} (N : Nat) : Env R := (E7 N).add 29 ap_29 hp_29 (fun (x : aden ap_29 × hden hp_29) k => p_29 N x (fun y => k (Pat.inst (.int .i64) y) (instH hp_29 x.2)))
theorem eok8 {R : Type} (N : Nat) : EOK Try.prog (E8 (R := R) N) := EOK.add (eok7 N) (good_29 N)

def ap_5 : List Pat := [.node (.fcons (.int .i64) (.fcons (.int .i64) (.fcons (.int .i64) (.fcons (.int .i64) (.fcons (.int .i64) (.fnil)))))), .int .i64, .int .i64]
def hp_5 : List (Option (Pat × Nat)) := []
def p_5 {R : Type} (N : Nat) (x : ((Int × (Int × (Int × (Int × (Int × Unit))))) × Int × Int × Unit) × (Unit)) (κ0 : (Bool × (Unit)) → Option R) : Option R :=
let i1 : Int := x.1.1.1
let i2 : Int := x.1.1.2.1
let i3 : Int := x.1.1.2.2.1
let i4 : Int := x.1.1.2.2.2.1
let i5 : Int := x.1.1.2.2.2.2.1
let i6 : Int := x.1.2.1
let i7 : Int := x.1.2.2.1
p_25 N ((), ()) (fun y50 =>
let b51 : Bool := y50.1
bif (!b51) then (
κ0 (false, ())) else (
p_26 N (((i1, (i2, (i3, (i4, (i5, ()))))), ()), ()) (fun y52 =>
let i53 : Int := y52.1.1.1
let i54 : Int := y52.1.1.2.1
let i55 : Int := y52.1.1.2.2.1
let i56 : Int := y52.1.1.2.2.2.1
let i57 : Int := y52.1.1.2.2.2.2.1
let i58 : Int := y52.1.1.2.2.2.2.2.1
let i59 : Int := y52.1.1.2.2.2.2.2.2.1
let i60 : Int := y52.1.1.2.2.2.2.2.2.2.1
let i61 : Int := y52.1.2.1
bif (i61 != 0) then (
κ0 (true, ())) else (
bif (decide (i6 < 0)) then (
κ0 (true, ())) else (
bif (decide (i6 ≥ i55)) then (
κ0 (true, ())) else (
bif (decide (i7 < 0)) then (
κ0 (true, ())) else (
bif (decide (i7 ≥ i58)) then (
κ0 (true, ())) else (
p_27 N (((i53, (i54, (i55, (i56, (i57, (i58, (i59, (i60, ())))))))), i6, i7, ()), ()) (fun y74 =>
let i75 : Int := y74.1
p_28 N (((i53, (i54, (i55, (i56, (i57, (i58, (i59, (i60, ())))))))), i7, ()), ()) (fun y87 =>
let i88 : Int := y87.1
bif (decide (i75 ≥ 0)) then (
bif (decide (i75 < i57)) then (
bif decide (i58 = 0) then none else (
let i89 : Int := quoA .i64 i75 i58
bif (i89 == i6) then (
bif decide (i58 = 0) then none else (
let i90 : Int := remA .i64 i75 i58
bif (i90 == i7) then (
let i91 : Int := addA .i64 i88 1
bif decide (i58 = 0) then none else (
let i92 : Int := remA .i64 i91 i58
bif (i92 == i7) then (
bif (decide (i88 ≥ 0)) then (
bif decide (i59 = 0) then none else (
let i93 : Int := quoA .i64 i7 i59
bif decide (i59 = 0) then none else (
let i94 : Int := remA .i64 i7 i59
p_29 N (((i53, (i54, (i55, (i56, (i57, (i58, (i59, (i60, ())))))))), i93, i94, ()), ()) (fun y107 =>
let i108 : Int := y107
κ0 ((i108 == i7), ()))))) else (
κ0 (false, ()))) else (
κ0 (false, ())))) else (
κ0 (false, ())))) else (
κ0 (false, ())))) else (
κ0 (false, ()))) else (
κ0 (false, ()))))))))))))

def L_5 {R : Type} (N : Nat) : Loops R := Loops.none
theorem lok_5 {R : Type} (N : Nat) : LOK 0 TT (E8 (R := R) N) (drawOk TT (E8 (R := R) N).q) (L_5 N) (bodyOf Try.f5) := loops_nil (by kernel_rfl)
theorem run_5 {R : Type} (N : Nat) (x : aden ap_5 × hden hp_5) (k : KF R) : fnrun TT (E8 (R := R) N) (drawOk TT (E8 (R := R) N).q) (L_5 N) true Try.f5 (instA ap_5 x.1) (instH hp_5 x.2) k = p_5 N x (fun y => k (Pat.inst (.bool) y.1) (instH [] y.2)) := by kernel_rfl
theorem good_5 {R : Type} (N : Nat) : Good (X := R) Try.prog (E8 (R := R) N).q 5 ap_5 hp_5 (fun (x : aden ap_5 × hden hp_5) k => p_5 N x (fun y => k (Pat.inst (.bool) y.1) (instH [] y.2))) :=
  good_loud (p := fun (x : aden ap_5 × hden hp_5) k => p_5 N x (fun y => k (Pat.inst (.bool) y.1) (instH [] y.2))) mixed tyok (eok8 N) Try.func5 (by kernel_rfl) (by kernel_rfl) (by kernel_rfl) (lok_5 N) (fun x k => run_5 N x k)
def E9 {R : Type} (N : Nat) : Env R := (E8 N).add 5 ap_5 hp_5 (fun (x : aden ap_5 × hden hp_5) k => p_5 N x (fun y => k (Pat.inst (.bool) y.1) (instH [] y.2)))
theorem eok9 {R : Type} (N : Nat) : EOK Try.prog (E9 (R := R) N) := EOK.add (eok8 N) (good_5 N)

/-! ### the plain law -/
/-- Parameters that may be. -/
def Fit (a t m l s : Int) : Prop := (1 ≤ a ∧ a ≤ 3) ∧ (1 ≤ t ∧ t ≤ 4294967295) ∧ (1 ≤ l ∧ l ≤ 16777215) ∧ (1 ≤ m ∧ m ≤ 4294967295) ∧ l ≤ m / 8 ∧ 4 ≤ s ∧ s ≤ 1024
instance (a t m l s : Int) : Decidable (Fit a t m l s) := by unfold Fit; exact inferInstance
theorem p87 {R : Type} (N : Nat) (a b c : Int) (κ) : p_87 (R := R) N ((a, b, c, ()), ()) κ = κ (decide (b ≤ a ∧ a ≤ c), ()) := by
  unfold p_87
  dsimp only
  by_cases h1 : b ≤ a
  · by_cases h2 : a ≤ c <;> simp [h1, h2]
  · simp [h1]
theorem p88 {R : Type} (N : Nat) (a b : Int) (h1 : 0 ≤ a) (h2 : a ≤ 4611686018427387904) (h3 : 1 ≤ b) (κ) : p_88 (R := R) N ((a, b, ()), ()) κ = κ ((a - a % b, (0, ())), ()) := by
  unfold p_88 p_116
  dsimp only
  have e1 : 0 ≤ a % b := Int.emod_nonneg a (by omega)
  have e2 : a % b ≤ a := mod_le h1 (by omega)
  rw [rem64 h1, sub64 (by omega) (by omega)]
  simp [h1, h2, show ¬ b < 1 by omega, show ¬ b = 0 by omega]
theorem p26 {R : Type} (N : Nat) (a t m l s : Int) (κ) : p_26 (R := R) N (((a, (t, (m, (l, (s, ()))))), ()), ()) κ =
    (bif decide (Fit a t m l s) then κ (((a, (t, (l, (m, (4 * l * (m / (4 * l)), (4 * (m / (4 * l)), (m / (4 * l), (s, ())))))))), (0, ())), ()) else κ (((0, (0, (0, (0, (0, (0, (0, (0, ())))))))), (2, ())), ())) := by
  by_cases h : Fit a t m l s
  · obtain ⟨⟨h1, h2⟩, ⟨h3, h4⟩, ⟨h5, h6⟩, ⟨h7, h8⟩, h9, h10, h11⟩ := id h
    unfold p_26
    dsimp only
    have e1 : quoA .i64 m 8 = m / 8 := quo64 (by omega) (by omega) (by omega)
    have e2 : mulA .i64 4 l = 4 * l := mul64 (by omega) (by omega)
    have e3 : m - m % (4 * l) = 4 * l * (m / (4 * l)) := by have := Int.mul_ediv_add_emod m (4 * l); omega
    have q0 : 0 ≤ m / (4 * l) := Int.ediv_nonneg (by omega) (by omega)
    have q1 : 0 ≤ m % (4 * l) := Int.emod_nonneg _ (by omega)
    have e4 : quoA .i64 (4 * l * (m / (4 * l))) l = 4 * (m / (4 * l)) := by
      rw [quo64 (by rw [← e3]; have := mod_le (b := 4 * l) (show 0 ≤ m by omega) (by omega); omega) (by omega) (by omega)]
      rw [show 4 * l * (m / (4 * l)) = l * (4 * (m / (4 * l))) by rw [Int.mul_comm 4 l, Int.mul_assoc]]
      exact Int.mul_ediv_cancel_left _ (by omega)
    have q2 : m / (4 * l) ≤ m := Int.ediv_le_self _ (by omega)
    have e5 : quoA .i64 (4 * (m / (4 * l))) 4 = m / (4 * l) := by
      rw [quo64 (by omega) (by omega) (by omega)]
      exact Int.mul_ediv_cancel_left _ (by omega)
    simp only [p87, e1, e2]
    rw [p88 N m (4 * l) (by omega) (by omega) (by omega)]
    simp only [e3, e4, e5]
    simp [h, h1, h2, h3, h4, h5, h6, h7, h8, h9, h10, h11, show ¬ l = 0 by omega]
  · rw [dF h]
    unfold p_26
    dsimp only
    simp only [p87, cond_false]
    by_cases g1 : 1 ≤ a ∧ a ≤ 3
    · rw [dT g1]
      by_cases g2 : 1 ≤ t ∧ t ≤ 4294967295
      · rw [dT g2]
        by_cases g3 : 1 ≤ l ∧ l ≤ 16777215
        · rw [dT g3]
          by_cases g4 : 1 ≤ m ∧ m ≤ 4294967295
          · rw [dT g4, quo64 (by omega) (by omega) (by omega)]
            by_cases g5 : m / 8 ≥ l
            · rw [dT g5]
              by_cases g6 : 4 ≤ s ∧ s ≤ 1024
              · exact absurd ⟨g1, g2, g3, g4, g5, g6⟩ h
              · rw [dF g6]; rfl
            · rw [dF g5]; rfl
          · rw [dF g4]; rfl
        · rw [dF g3]; rfl
      · rw [dF g2]; rfl
    · rw [dF g1]; rfl
theorem p25 {R : Type} (N : Nat) (κ) : p_25 (R := R) N ((), ()) κ = κ (true, ()) := by
  unfold p_25
  dsimp only
  rw [p26, dT (by unfold Fit; omega)]
  rfl
theorem p5 (N : Nat) (a t m l s lane col : Int) (κ) : p_5 (R := AV) N (((a, (t, (m, (l, (s, ()))))), lane, col, ()), ()) κ = κ (true, ()) := by
  unfold p_5
  dsimp only
  rw [p25]
  simp only [Bool.not_true, cond_false, p26]
  by_cases h : Fit a t m l s
  · rw [dT h]
    obtain ⟨⟨h1, h2⟩, ⟨h3, h4⟩, ⟨h5, h6⟩, ⟨h7, h8⟩, h9, h10, h11⟩ := h
    simp only [cond_true, bne_self_eq_false, cond_false]
    generalize hq : m / (4 * l) = q
    have q0 : 4 * l * q ≤ m := by rw [← hq]; exact Int.mul_ediv_self_le (by omega)
    have q1 : 1 ≤ q := by rw [← hq]; exact (Int.le_ediv_iff_mul_le (by omega)).2 (by omega)
    by_cases g1 : lane < 0
    · rw [dT g1]; rfl
    rw [dF g1]
    by_cases g2 : lane ≥ l
    · rw [dT g2]; rfl
    rw [dF g2]
    by_cases g3 : col < 0
    · rw [dT g3]; rfl
    rw [dF g3]
    by_cases g4 : col ≥ 4 * q
    · rw [dT g4]; rfl
    rw [dF g4]
    simp only [cond_false]
    have b0 : lane * (4 * q) ≤ (l - 1) * (4 * q) := Int.mul_le_mul_of_nonneg_right (by omega) (by omega)
    have b1 : (l - 1) * (4 * q) = 4 * l * q - 4 * q := by rw [Int.sub_mul, Int.mul_left_comm, ← Int.mul_assoc]; omega
    have b2 : 0 ≤ lane * (4 * q) := Int.mul_nonneg (by omega) (by omega)
    have e1 : mulA .i64 lane (4 * q) = lane * (4 * q) := mul64 (by omega) (by omega)
    have e2 : addA .i64 (lane * (4 * q)) col = lane * (4 * q) + col := add64 (by omega) (by omega)
    have e3 : quoA .i64 (lane * (4 * q) + col) (4 * q) = lane := by
      rw [quo64 (by omega) (by omega) (by omega), Int.add_comm, Int.add_mul_ediv_right _ _ (by omega), Int.ediv_eq_zero_of_lt (by omega) (by omega)]; omega
    have e4 : remA .i64 (lane * (4 * q) + col) (4 * q) = col := by
      rw [rem64 (by omega), Int.add_comm, Int.add_mul_emod_self_right, Int.emod_eq_of_lt (by omega) (by omega)]
    unfold p_27 p_28 p_29
    dsimp only
    rw [e1, e2, e3, e4]
    have e5 : quoA .i64 col q = col / q := quo64 (by omega) (by omega) (by omega)
    have e6 : remA .i64 col q = col % q := rem64 (by omega)
    have e7 : col / q * q + col % q = col := by rw [Int.mul_comm]; exact Int.mul_ediv_add_emod col q
    have e8 : 0 ≤ col / q := Int.ediv_nonneg (by omega) (by omega)
    have e9 : 0 ≤ col % q := Int.emod_nonneg _ (by omega)
    have e11 : 0 ≤ col / q * q := Int.mul_nonneg e8 (by omega)
    have e10 : mulA .i64 (col / q) q = col / q * q := mul64 (by omega) (by omega)
    have e12 : addA .i64 (col / q * q) (col % q) = col := (add64 (by omega) (by omega)).trans e7
    rw [e5, e6, e10, e12]
    by_cases hc : col = 0
    · subst hc
      have s1 : subA .i64 (4 * q) 1 = 4 * q - 1 := sub64 (by omega) (by omega)
      have s2 : addA .i64 (4 * q - 1) 1 = 4 * q := (add64 (by omega) (by omega)).trans (by omega)
      have s3 : remA .i64 (4 * q) (4 * q) = 0 := (rem64 (by omega)).trans Int.emod_self
      simp [s1, s2, s3, show ¬ q = 0 by omega, show ¬ 4 * q = 0 by omega, show 1 ≤ 4 * q by omega, show lane * (4 * q) < 4 * l * q by omega, b2]
    · have s1 : subA .i64 col 1 = col - 1 := sub64 (by omega) (by omega)
      have s2 : addA .i64 (col - 1) 1 = col := (add64 (by omega) (by omega)).trans (by omega)
      have s3 : remA .i64 col (4 * q) = col := (rem64 (by omega)).trans (Int.emod_eq_of_lt (by omega) (by omega))
      simp [s1, s2, s3, show (col == 0) = false from beq_eq_false_iff_ne.2 hc, show ¬ q = 0 by omega, show ¬ 4 * q = 0 by omega, show 1 ≤ col by omega, show 0 ≤ col - 1 by omega, show lane * (4 * q) + col < 4 * l * q by omega, show 0 ≤ lane * (4 * q) + col by omega]
  · rw [dF h]; rfl
open Go.ChangeShapes in
theorem law_all (y0 : Sch.den (.stru (.fcons (.int .i64) (.fcons (.int .i64) (.fcons (.int .i64) (.fcons (.int .i64) (.fcons (.int .i64) .fnil))))))) {P0 : Prop} (wf0 : P0) (y1 : Int) {P1 : Prop} (wf1 : P1) (y2 : Int) {P2 : Prop} (wf2 : P2) :
    ∃ H', ACalls Try.prog 5 [toAV (.stru (.fcons (.int .i64) (.fcons (.int .i64) (.fcons (.int .i64) (.fcons (.int .i64) (.fcons (.int .i64) .fnil)))))) y0, toAV (.int .i64) y1, toAV (.int .i64) y2] [] (.bool true) H' :=
  good_law_loud (good_5 1) (x := (y0, y1, y2, ())) (by
    obtain ⟨a, t, m, l, s, u⟩ := y0
    exact p5 1 a t m l s y1 y2 _)
end Go.Proofs.Ytjehpceomlnicaa.Eng
