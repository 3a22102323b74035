/-
Plain functions that the functions of the program are shown to come to, printed by a program of the prover; each with its proof.
Conditions: none.
-/
import Derived.Test.YtjehpceomlnicaaProg
import Derived.Test.YtjehpceomlnicaaEngY
import Derived.KernelRfl
set_option linter.unusedVariables false
set_option linter.unusedSimpArgs false
namespace Go.Proofs.Ytjehpceomlnicaa.Eng
def TT : Types := [(35, ⟨.stru [(3, 0), (3, 1), (3, 2), (3, 3), (3, 4)], 5, 40, .node (.fcons (.int .i64 0) (.fcons (.int .i64 0) (.fcons (.int .i64 0) (.fcons (.int .i64 0) (.fcons (.int .i64 0) (.fnil)))))), some (.stru (.fcons (.int .i64) (.fcons (.int .i64) (.fcons (.int .i64) (.fcons (.int .i64) (.fcons (.int .i64) (.fnil))))))), true⟩),
  (49, ⟨.slice 3, 1, 24, .nils, some (.sl (.int .i64)), false⟩),
  (4, ⟨.bool, 1, 1, .bool false, some (.bool), false⟩),
  (3, ⟨.int .i64, 1, 8, .int .i64 0, some (.int .i64), false⟩),
  (37, ⟨.stru [(3, 0), (3, 1), (3, 2), (3, 3), (3, 4), (3, 5), (3, 6), (3, 7)], 8, 64, .node (.fcons (.int .i64 0) (.fcons (.int .i64 0) (.fcons (.int .i64 0) (.fcons (.int .i64 0) (.fcons (.int .i64 0) (.fcons (.int .i64 0) (.fcons (.int .i64 0) (.fcons (.int .i64 0) (.fnil))))))))), some (.stru (.fcons (.int .i64) (.fcons (.int .i64) (.fcons (.int .i64) (.fcons (.int .i64) (.fcons (.int .i64) (.fcons (.int .i64) (.fcons (.int .i64) (.fcons (.int .i64) (.fnil)))))))))), true⟩),
  (38, ⟨.int .i64, 1, 8, .int .i64 0, some (.int .i64), false⟩),
  (100, ⟨.stru [(3, 0), (3, 1), (3, 2)], 3, 24, .node (.fcons (.int .i64 0) (.fcons (.int .i64 0) (.fcons (.int .i64 0) (.fnil)))), some (.stru (.fcons (.int .i64) (.fcons (.int .i64) (.fcons (.int .i64) (.fnil))))), true⟩),
  (61, ⟨.int .u64, 1, 8, .int .u64 0, some (.int .u64), false⟩),
  (102, ⟨.slice 157, 1, 24, .nils, some (.sl (.stru (.fcons (.int .i64) (.fcons (.int .i64) (.fcons (.stru (.fcons (.int .i64) (.fcons (.int .i64) (.fnil)))) (.fcons (.stru (.fcons (.int .i64) (.fcons (.int .i64) (.fnil)))) (.fcons (.stru (.fcons (.int .i64) (.fcons (.int .i64) (.fnil)))) (.fnil)))))))), false⟩),
  (157, ⟨.stru [(3, 0), (3, 1), (79, 2), (88, 4), (88, 6)], 8, 64, .node (.fcons (.int .i64 0) (.fcons (.int .i64 0) (.fcons (.node (.fcons (.int .i64 0) (.fcons (.int .i64 0) (.fnil)))) (.fcons (.node (.fcons (.int .i64 0) (.fcons (.int .i64 0) (.fnil)))) (.fcons (.node (.fcons (.int .i64 0) (.fcons (.int .i64 0) (.fnil)))) (.fnil)))))), some (.stru (.fcons (.int .i64) (.fcons (.int .i64) (.fcons (.stru (.fcons (.int .i64) (.fcons (.int .i64) (.fnil)))) (.fcons (.stru (.fcons (.int .i64) (.fcons (.int .i64) (.fnil)))) (.fcons (.stru (.fcons (.int .i64) (.fcons (.int .i64) (.fnil)))) (.fnil))))))), true⟩),
  (88, ⟨.stru [(3, 0), (3, 1)], 2, 16, .node (.fcons (.int .i64 0) (.fcons (.int .i64 0) (.fnil))), some (.stru (.fcons (.int .i64) (.fcons (.int .i64) (.fnil)))), true⟩),
  (79, ⟨.stru [(3, 0), (3, 1)], 2, 16, .node (.fcons (.int .i64 0) (.fcons (.int .i64 0) (.fnil))), some (.stru (.fcons (.int .i64) (.fcons (.int .i64) (.fnil)))), true⟩),
  (104, ⟨.arr 4 3, 4, 32, .vec (.int .i64) 4 (Sch.zero (.arr 4 (.int .i64))), some (.arr 4 (.int .i64)), true⟩)]
theorem tyok : TyOk Try.prog TT := TyOk.of (by kernel_rfl)
theorem mixed : Try.prog.follows .mixedOrders = true := by kernel_rfl
def QQ : FuncId → Bool := fun f => memN [] f
def LN : FuncId → Bool := fun f => memN [] f
def ap_87 : List Pat := [.int .i64, .int .i64, .int .i64]
def hp_87 : List (Option (Pat × Nat)) := []
def p_87 {R : Type} (N : Nat) (x : (Int × Int × Int × Unit) × (Unit)) (κ0 : (Bool × (Unit)) → Option R) : Option R :=
let i13 : Int := x.1.1
let i14 : Int := x.1.2.1
let i15 : Int := x.1.2.2.1
bif (decide (i13 ≥ i14)) then (
κ0 ((decide (i13 ≤ i15)), ())) else (
κ0 (false, ()))

def Q_87 {R : Type} (x : (Int × Int × Int × Unit) × (Unit)) (κ0 : (Bool × (Unit)) → Option R) : Option R :=
let i13 : Int := x.1.1
let i14 : Int := x.1.2.1
let i15 : Int := x.1.2.2.1
bif (decide (i13 ≥ i14)) then (
κ0 ((decide (i13 ≤ i15)), ())) else (
κ0 (false, ()))
def EG_87 {R : Type} : Env R := Env.base QQ LN
def LG_87 {R : Type} : Loops R := Loops.none
def E_87 {R : Type} (N : Nat) : Env R := EG_87
theorem eok_87 {R : Type} (N : Nat) : EK Try.prog (E_87 (R := R) N) := ek_base _ _
def L_87 {R : Type} (N : Nat) : Loops R := LG_87
theorem lok_87 {R : Type} (N : Nat) : LOK 0 TT (E_87 (R := R) N) (drawOk TT QQ) (L_87 N) (bodyOf Try.f87) := loops_nil (by kernel_rfl)
theorem grun_87 {R : Type} (x : aden ap_87 × hden hp_87) (k : KF R) : fnrun TT (EG_87) (drawOk TT QQ) (LG_87) true Try.f87 (instA ap_87 x.1) (instH hp_87 x.2) k = Q_87 x (fun y => k (Pat.inst (.bool) y.1) (instH [] y.2)) := by kernel_rfl
theorem run_87 {R : Type} (N : Nat) (x : aden ap_87 × hden hp_87) (k : KF R) : fnrun TT (E_87 (R := R) N) (drawOk TT QQ) (L_87 N) true Try.f87 (instA ap_87 x.1) (instH hp_87 x.2) k = p_87 N x (fun y => k (Pat.inst (.bool) y.1) (instH [] y.2)) := (grun_87 x k).trans (by kernel_rfl)
theorem good_87 {R : Type} (N : Nat) : GD (X := R) Try.prog QQ 87 ap_87 hp_87 (fun (x : aden ap_87 × hden hp_87) k => p_87 N x (fun y => k (Pat.inst (.bool) y.1) (instH [] y.2))) :=
  gd_loud (E := E_87 N) (p := fun (x : aden ap_87 × hden hp_87) k => p_87 N x (fun y => k (Pat.inst (.bool) y.1) (instH [] y.2))) mixed tyok (eok_87 N) Try.func87 (by kernel_rfl) (by kernel_rfl) (by kernel_rfl) (lok_87 N) (fun x k => run_87 N x k)

def ap_116 : List Pat := [.int .i64]
def hp_116 : List (Option (Pat × Nat)) := []
def p_116 {R : Type} (N : Nat) (x : (Int × Unit) × (Unit)) (κ0 : (Bool × (Unit)) → Option R) : Option R :=
let i30 : Int := x.1.1
bif (decide (i30 ≥ 0)) then (
κ0 ((decide (i30 ≤ 4611686018427387904)), ())) else (
κ0 (false, ()))

def Q_116 {R : Type} (x : (Int × Unit) × (Unit)) (κ0 : (Bool × (Unit)) → Option R) : Option R :=
let i30 : Int := x.1.1
bif (decide (i30 ≥ 0)) then (
κ0 ((decide (i30 ≤ 4611686018427387904)), ())) else (
κ0 (false, ()))
def EG_116 {R : Type} : Env R := Env.base QQ LN
def LG_116 {R : Type} : Loops R := Loops.none
def E_116 {R : Type} (N : Nat) : Env R := EG_116
theorem eok_116 {R : Type} (N : Nat) : EK Try.prog (E_116 (R := R) N) := ek_base _ _
def L_116 {R : Type} (N : Nat) : Loops R := LG_116
theorem lok_116 {R : Type} (N : Nat) : LOK 0 TT (E_116 (R := R) N) (drawOk TT QQ) (L_116 N) (bodyOf Try.f116) := loops_nil (by kernel_rfl)
theorem grun_116 {R : Type} (x : aden ap_116 × hden hp_116) (k : KF R) : fnrun TT (EG_116) (drawOk TT QQ) (LG_116) true Try.f116 (instA ap_116 x.1) (instH hp_116 x.2) k = Q_116 x (fun y => k (Pat.inst (.bool) y.1) (instH [] y.2)) := by kernel_rfl
theorem run_116 {R : Type} (N : Nat) (x : aden ap_116 × hden hp_116) (k : KF R) : fnrun TT (E_116 (R := R) N) (drawOk TT QQ) (L_116 N) true Try.f116 (instA ap_116 x.1) (instH hp_116 x.2) k = p_116 N x (fun y => k (Pat.inst (.bool) y.1) (instH [] y.2)) := (grun_116 x k).trans (by kernel_rfl)
theorem good_116 {R : Type} (N : Nat) : GD (X := R) Try.prog QQ 116 ap_116 hp_116 (fun (x : aden ap_116 × hden hp_116) k => p_116 N x (fun y => k (Pat.inst (.bool) y.1) (instH [] y.2))) :=
  gd_loud (E := E_116 N) (p := fun (x : aden ap_116 × hden hp_116) k => p_116 N x (fun y => k (Pat.inst (.bool) y.1) (instH [] y.2))) mixed tyok (eok_116 N) Try.func116 (by kernel_rfl) (by kernel_rfl) (by kernel_rfl) (lok_116 N) (fun x k => run_116 N x k)

def ap_88 : List Pat := [.int .i64, .int .i64]
def hp_88 : List (Option (Pat × Nat)) := []
def p_88 {R : Type} (N : Nat) (x : (Int × Int × Unit) × (Unit)) (κ0 : ((Int × (Int × Unit)) × (Unit)) → Option R) : Option R :=
let i28 : Int := x.1.1
let i29 : Int := x.1.2.1
p_116 N ((i28, ()), ()) (fun y31 =>
let b32 : Bool := y31.1
bif (!b32) then (
κ0 ((0, (1, ())), ())) else (
bif (decide (i29 < 1)) then (
κ0 ((0, (1, ())), ())) else (
bif decide (i29 = 0) then none else (
let i33 : Int := remA .i64 i28 i29
let i34 : Int := subA .i64 i28 i33
κ0 ((i34, (0, ())), ())))))

def Q_88 {R : Type} (q_116 : (Int × Unit) × (Unit) → ((Bool × (Unit)) → Option R) → Option R) (x : (Int × Int × Unit) × (Unit)) (κ0 : ((Int × (Int × Unit)) × (Unit)) → Option R) : Option R :=
let i28 : Int := x.1.1
let i29 : Int := x.1.2.1
q_116 ((i28, ()), ()) (fun y31 =>
let b32 : Bool := y31.1
bif (!b32) then (
κ0 ((0, (1, ())), ())) else (
bif (decide (i29 < 1)) then (
κ0 ((0, (1, ())), ())) else (
bif decide (i29 = 0) then none else (
let i33 : Int := remA .i64 i28 i29
let i34 : Int := subA .i64 i28 i33
κ0 ((i34, (0, ())), ())))))
def EG_88 {R : Type} (q_116 : (Int × Unit) × (Unit) → ((Bool × (Unit)) → Option R) → Option R) : Env R := (Env.base QQ LN).add 116 ap_116 hp_116 (fun (x : aden ap_116 × hden hp_116) k => q_116 x (fun y => k (Pat.inst (.bool) y.1) (instH [] y.2)))
def LG_88 {R : Type} : Loops R := Loops.none
def E_88 {R : Type} (N : Nat) : Env R := EG_88 (p_116 N)
theorem eok_88 {R : Type} (N : Nat) : EK Try.prog (E_88 (R := R) N) := ek_add (ek_base _ _) (good_116 N)
def L_88 {R : Type} (N : Nat) : Loops R := LG_88
theorem lok_88 {R : Type} (N : Nat) : LOK 0 TT (E_88 (R := R) N) (drawOk TT QQ) (L_88 N) (bodyOf Try.f88) := loops_nil (by kernel_rfl)
theorem grun_88 {R : Type} (q_116 : (Int × Unit) × (Unit) → ((Bool × (Unit)) → Option R) → Option R) (x : aden ap_88 × hden hp_88) (k : KF R) : fnrun TT (EG_88 q_116) (drawOk TT QQ) (LG_88) true Try.f88 (instA ap_88 x.1) (instH hp_88 x.2) k = Q_88 q_116 x (fun y => k (Pat.inst (.tup (.fcons (.int .i64) (.fcons (.int .i64) (.fnil)))) y.1) (instH [] y.2)) := by kernel_rfl
theorem run_88 {R : Type} (N : Nat) (x : aden ap_88 × hden hp_88) (k : KF R) : fnrun TT (E_88 (R := R) N) (drawOk TT QQ) (L_88 N) true Try.f88 (instA ap_88 x.1) (instH hp_88 x.2) k = p_88 N x (fun y => k (Pat.inst (.tup (.fcons (.int .i64) (.fcons (.int .i64) (.fnil)))) y.1) (instH [] y.2)) := (grun_88 (p_116 N) x k).trans (by kernel_rfl)
theorem good_88 {R : Type} (N : Nat) : GD (X := R) Try.prog QQ 88 ap_88 hp_88 (fun (x : aden ap_88 × hden hp_88) k => p_88 N x (fun y => k (Pat.inst (.tup (.fcons (.int .i64) (.fcons (.int .i64) (.fnil)))) y.1) (instH [] y.2))) :=
  gd_loud (E := E_88 N) (p := fun (x : aden ap_88 × hden hp_88) k => p_88 N x (fun y => k (Pat.inst (.tup (.fcons (.int .i64) (.fcons (.int .i64) (.fnil)))) y.1) (instH [] y.2))) mixed tyok (eok_88 N) Try.func88 (by kernel_rfl) (by kernel_rfl) (by kernel_rfl) (lok_88 N) (fun x k => run_88 N x k)

def ap_26 : List Pat := [.node (.fcons (.int .i64) (.fcons (.int .i64) (.fcons (.int .i64) (.fcons (.int .i64) (.fcons (.int .i64) (.fnil))))))]
def hp_26 : List (Option (Pat × Nat)) := []
def p_26 {R : Type} (N : Nat) (x : ((Int × (Int × (Int × (Int × (Int × Unit))))) × Unit) × (Unit)) (κ0 : (((Int × (Int × (Int × (Int × (Int × (Int × (Int × (Int × Unit)))))))) × (Int × Unit)) × (Unit)) → Option R) : Option R :=
let i8 : Int := x.1.1.1
let i9 : Int := x.1.1.2.1
let i10 : Int := x.1.1.2.2.1
let i11 : Int := x.1.1.2.2.2.1
let i12 : Int := x.1.1.2.2.2.2.1
p_87 N ((i8, 1, 3, ()), ()) (fun y16 =>
let b17 : Bool := y16.1
bif b17 then (
p_87 N ((i9, 1, 4294967295, ()), ()) (fun y18 =>
let b19 : Bool := y18.1
bif b19 then (
p_87 N ((i11, 1, 16777215, ()), ()) (fun y20 =>
let b21 : Bool := y20.1
bif b21 then (
p_87 N ((i10, 1, 4294967295, ()), ()) (fun y22 =>
let b23 : Bool := y22.1
bif b23 then (
let i24 : Int := quoA .i64 i10 8
bif (decide (i24 ≥ i11)) then (
p_87 N ((i12, 4, 1024, ()), ()) (fun y25 =>
let b26 : Bool := y25.1
bif (!b26) then (
κ0 (((0, (0, (0, (0, (0, (0, (0, (0, ())))))))), (2, ())), ())) else (
let i27 : Int := mulA .i64 4 i11
p_88 N ((i10, i27, ()), ()) (fun y35 =>
let i36 : Int := y35.1.1
let i37 : Int := y35.1.2.1
bif decide (i11 = 0) then none else (
let i38 : Int := quoA .i64 i36 i11
let i39 : Int := quoA .i64 i38 4
κ0 (((i8, (i9, (i11, (i10, (i36, (i38, (i39, (i12, ())))))))), (0, ())), ())))))) else (
κ0 (((0, (0, (0, (0, (0, (0, (0, (0, ())))))))), (2, ())), ()))) else (
κ0 (((0, (0, (0, (0, (0, (0, (0, (0, ())))))))), (2, ())), ())))) else (
κ0 (((0, (0, (0, (0, (0, (0, (0, (0, ())))))))), (2, ())), ())))) else (
κ0 (((0, (0, (0, (0, (0, (0, (0, (0, ())))))))), (2, ())), ())))) else (
κ0 (((0, (0, (0, (0, (0, (0, (0, (0, ())))))))), (2, ())), ())))

def Q_26 {R : Type} (q_87 : (Int × Int × Int × Unit) × (Unit) → ((Bool × (Unit)) → Option R) → Option R) (q_88 : (Int × Int × Unit) × (Unit) → (((Int × (Int × Unit)) × (Unit)) → Option R) → Option R) (x : ((Int × (Int × (Int × (Int × (Int × Unit))))) × Unit) × (Unit)) (κ0 : (((Int × (Int × (Int × (Int × (Int × (Int × (Int × (Int × Unit)))))))) × (Int × Unit)) × (Unit)) → Option R) : Option R :=
let i8 : Int := x.1.1.1
let i9 : Int := x.1.1.2.1
let i10 : Int := x.1.1.2.2.1
let i11 : Int := x.1.1.2.2.2.1
let i12 : Int := x.1.1.2.2.2.2.1
q_87 ((i8, 1, 3, ()), ()) (fun y16 =>
let b17 : Bool := y16.1
bif b17 then (
q_87 ((i9, 1, 4294967295, ()), ()) (fun y18 =>
let b19 : Bool := y18.1
bif b19 then (
q_87 ((i11, 1, 16777215, ()), ()) (fun y20 =>
let b21 : Bool := y20.1
bif b21 then (
q_87 ((i10, 1, 4294967295, ()), ()) (fun y22 =>
let b23 : Bool := y22.1
bif b23 then (
let i24 : Int := quoA .i64 i10 8
bif (decide (i24 ≥ i11)) then (
q_87 ((i12, 4, 1024, ()), ()) (fun y25 =>
let b26 : Bool := y25.1
bif (!b26) then (
κ0 (((0, (0, (0, (0, (0, (0, (0, (0, ())))))))), (2, ())), ())) else (
let i27 : Int := mulA .i64 4 i11
q_88 ((i10, i27, ()), ()) (fun y35 =>
let i36 : Int := y35.1.1
let i37 : Int := y35.1.2.1
bif decide (i11 = 0) then none else (
let i38 : Int := quoA .i64 i36 i11
let i39 : Int := quoA .i64 i38 4
κ0 (((i8, (i9, (i11, (i10, (i36, (i38, (i39, (i12, ())))))))), (0, ())), ())))))) else (
κ0 (((0, (0, (0, (0, (0, (0, (0, (0, ())))))))), (2, ())), ()))) else (
κ0 (((0, (0, (0, (0, (0, (0, (0, (0, ())))))))), (2, ())), ())))) else (
κ0 (((0, (0, (0, (0, (0, (0, (0, (0, ())))))))), (2, ())), ())))) else (
κ0 (((0, (0, (0, (0, (0, (0, (0, (0, ())))))))), (2, ())), ())))) else (
κ0 (((0, (0, (0, (0, (0, (0, (0, (0, ())))))))), (2, ())), ())))
def EG_26 {R : Type} (q_87 : (Int × Int × Int × Unit) × (Unit) → ((Bool × (Unit)) → Option R) → Option R) (q_88 : (Int × Int × Unit) × (Unit) → (((Int × (Int × Unit)) × (Unit)) → Option R) → Option R) : Env R := ((Env.base QQ LN).add 87 ap_87 hp_87 (fun (x : aden ap_87 × hden hp_87) k => q_87 x (fun y => k (Pat.inst (.bool) y.1) (instH [] y.2)))).add 88 ap_88 hp_88 (fun (x : aden ap_88 × hden hp_88) k => q_88 x (fun y => k (Pat.inst (.tup (.fcons (.int .i64) (.fcons (.int .i64) (.fnil)))) y.1) (instH [] y.2)))
def LG_26 {R : Type} : Loops R := Loops.none
def E_26 {R : Type} (N : Nat) : Env R := EG_26 (p_87 N) (p_88 N)
theorem eok_26 {R : Type} (N : Nat) : EK Try.prog (E_26 (R := R) N) := ek_add (ek_add (ek_base _ _) (good_87 N)) (good_88 N)
def L_26 {R : Type} (N : Nat) : Loops R := LG_26
theorem lok_26 {R : Type} (N : Nat) : LOK 0 TT (E_26 (R := R) N) (drawOk TT QQ) (L_26 N) (bodyOf Try.f26) := loops_nil (by kernel_rfl)
theorem grun_26 {R : Type} (q_87 : (Int × Int × Int × Unit) × (Unit) → ((Bool × (Unit)) → Option R) → Option R) (q_88 : (Int × Int × Unit) × (Unit) → (((Int × (Int × Unit)) × (Unit)) → Option R) → Option R) (x : aden ap_26 × hden hp_26) (k : KF R) : fnrun TT (EG_26 q_87 q_88) (drawOk TT QQ) (LG_26) true Try.f26 (instA ap_26 x.1) (instH hp_26 x.2) k = Q_26 q_87 q_88 x (fun y => k (Pat.inst (.tup (.fcons (.node (.fcons (.int .i64) (.fcons (.int .i64) (.fcons (.int .i64) (.fcons (.int .i64) (.fcons (.int .i64) (.fcons (.int .i64) (.fcons (.int .i64) (.fcons (.int .i64) (.fnil)))))))))) (.fcons (.int .i64) (.fnil)))) y.1) (instH [] y.2)) := by kernel_rfl
theorem run_26 {R : Type} (N : Nat) (x : aden ap_26 × hden hp_26) (k : KF R) : fnrun TT (E_26 (R := R) N) (drawOk TT QQ) (L_26 N) true Try.f26 (instA ap_26 x.1) (instH hp_26 x.2) k = p_26 N x (fun y => k (Pat.inst (.tup (.fcons (.node (.fcons (.int .i64) (.fcons (.int .i64) (.fcons (.int .i64) (.fcons (.int .i64) (.fcons (.int .i64) (.fcons (.int .i64) (.fcons (.int .i64) (.fcons (.int .i64) (.fnil)))))))))) (.fcons (.int .i64) (.fnil)))) y.1) (instH [] y.2)) := (grun_26 (p_87 N) (p_88 N) x k).trans (by kernel_rfl)
theorem good_26 {R : Type} (N : Nat) : GD (X := R) Try.prog QQ 26 ap_26 hp_26 (fun (x : aden ap_26 × hden hp_26) k => p_26 N x (fun y => k (Pat.inst (.tup (.fcons (.node (.fcons (.int .i64) (.fcons (.int .i64) (.fcons (.int .i64) (.fcons (.int .i64) (.fcons (.int .i64) (.fcons (.int .i64) (.fcons (.int .i64) (.fcons (.int .i64) (.fnil)))))))))) (.fcons (.int .i64) (.fnil)))) y.1) (instH [] y.2))) :=
  gd_loud (E := E_26 N) (p := fun (x : aden ap_26 × hden hp_26) k => p_26 N x (fun y => k (Pat.inst (.tup (.fcons (.node (.fcons (.int .i64) (.fcons (.int .i64) (.fcons (.int .i64) (.fcons (.int .i64) (.fcons (.int .i64) (.fcons (.int .i64) (.fcons (.int .i64) (.fcons (.int .i64) (.fnil)))))))))) (.fcons (.int .i64) (.fnil)))) y.1) (instH [] y.2))) mixed tyok (eok_26 N) Try.func26 (by kernel_rfl) (by kernel_rfl) (by kernel_rfl) (lok_26 N) (fun x k => run_26 N x k)

def ap_86 : List Pat := [.int .u64, .int .u64]
def hp_86 : List (Option (Pat × Nat)) := []
def p_86 {R : Type} (N : Nat) (x : (Int × Int × Unit) × (Unit)) (κ0 : ((Int × (Int × Unit)) × (Unit)) → Option R) : Option R :=
let i95 : Int := x.1.1
let i96 : Int := x.1.2.1
let i97 : Int := andA .u64 i95 4294967295
let i98 : Int := shrA .u64 i95 32
let i99 : Int := andA .u64 i96 4294967295
let i100 : Int := shrA .u64 i96 32
let i101 : Int := mulA .u64 i97 i99
let i102 : Int := mulA .u64 i98 i99
let i103 : Int := shrA .u64 i101 32
let i104 : Int := addA .u64 i102 i103
let i105 : Int := andA .u64 i104 4294967295
let i106 : Int := shrA .u64 i104 32
let i107 : Int := mulA .u64 i97 i100
let i108 : Int := addA .u64 i105 i107
let i109 : Int := mulA .u64 i98 i100
let i110 : Int := addA .u64 i109 i106
let i111 : Int := shrA .u64 i108 32
let i112 : Int := addA .u64 i110 i111
let i113 : Int := mulA .u64 i95 i96
κ0 ((i112, (i113, ())), ())

def Q_86 {R : Type} (x : (Int × Int × Unit) × (Unit)) (κ0 : ((Int × (Int × Unit)) × (Unit)) → Option R) : Option R :=
let i95 : Int := x.1.1
let i96 : Int := x.1.2.1
let i97 : Int := andA .u64 i95 4294967295
let i98 : Int := shrA .u64 i95 32
let i99 : Int := andA .u64 i96 4294967295
let i100 : Int := shrA .u64 i96 32
let i101 : Int := mulA .u64 i97 i99
let i102 : Int := mulA .u64 i98 i99
let i103 : Int := shrA .u64 i101 32
let i104 : Int := addA .u64 i102 i103
let i105 : Int := andA .u64 i104 4294967295
let i106 : Int := shrA .u64 i104 32
let i107 : Int := mulA .u64 i97 i100
let i108 : Int := addA .u64 i105 i107
let i109 : Int := mulA .u64 i98 i100
let i110 : Int := addA .u64 i109 i106
let i111 : Int := shrA .u64 i108 32
let i112 : Int := addA .u64 i110 i111
let i113 : Int := mulA .u64 i95 i96
κ0 ((i112, (i113, ())), ())
def EG_86 {R : Type} : Env R := Env.base QQ LN
def LG_86 {R : Type} : Loops R := Loops.none
def E_86 {R : Type} (N : Nat) : Env R := EG_86
theorem eok_86 {R : Type} (N : Nat) : EK Try.prog (E_86 (R := R) N) := ek_base _ _
def L_86 {R : Type} (N : Nat) : Loops R := LG_86
theorem lok_86 {R : Type} (N : Nat) : LOK 0 TT (E_86 (R := R) N) (drawOk TT QQ) (L_86 N) (bodyOf Try.f86) := loops_nil (by kernel_rfl)
theorem grun_86 {R : Type} (x : aden ap_86 × hden hp_86) (k : KF R) : fnrun TT (EG_86) (drawOk TT QQ) (LG_86) true Try.f86 (instA ap_86 x.1) (instH hp_86 x.2) k = Q_86 x (fun y => k (Pat.inst (.tup (.fcons (.int .u64) (.fcons (.int .u64) (.fnil)))) y.1) (instH [] y.2)) := by kernel_rfl
theorem run_86 {R : Type} (N : Nat) (x : aden ap_86 × hden hp_86) (k : KF R) : fnrun TT (E_86 (R := R) N) (drawOk TT QQ) (L_86 N) true Try.f86 (instA ap_86 x.1) (instH hp_86 x.2) k = p_86 N x (fun y => k (Pat.inst (.tup (.fcons (.int .u64) (.fcons (.int .u64) (.fnil)))) y.1) (instH [] y.2)) := (grun_86 x k).trans (by kernel_rfl)
theorem good_86 {R : Type} (N : Nat) : GD (X := R) Try.prog QQ 86 ap_86 hp_86 (fun (x : aden ap_86 × hden hp_86) k => p_86 N x (fun y => k (Pat.inst (.tup (.fcons (.int .u64) (.fcons (.int .u64) (.fnil)))) y.1) (instH [] y.2))) :=
  gd_loud (E := E_86 N) (p := fun (x : aden ap_86 × hden hp_86) k => p_86 N x (fun y => k (Pat.inst (.tup (.fcons (.int .u64) (.fcons (.int .u64) (.fnil)))) y.1) (instH [] y.2))) mixed tyok (eok_86 N) Try.func86 (by kernel_rfl) (by kernel_rfl) (by kernel_rfl) (lok_86 N) (fun x k => run_86 N x k)

def lv_96_3 : Live := [(0, none), (4, none), (5, none), (12, none), (13, none), (14, none)]
def pt_96_3 : SPat := ⟨[(0, .sl 0), (4, .int .i64), (5, .bool), (12, .sl 0), (13, .int .i64), (14, .int .i64)], [some (.lst (.int .i64), 3)]⟩
def px_96_3_0 : SPat := ⟨[(2, .int .i64), (3, .int .i64)], [some (.lst (.int .i64), 3)]⟩
def px_96_3_1 : SPat := ⟨[(0, .sl 0), (4, .int .i64), (5, .bool)], [some (.lst (.int .i64), 3)]⟩
def lo_96_3 : Exit → Live
  | .ret => [(2, none), (3, none)]
  | .exit 0 => [(0, none), (4, none), (5, none)]
  | _ => []
def B_96_3 {R : Type} (N : Nat) (rec : ((Unit × Int × Bool × Unit × Int × Int × Unit) × ((List Int) × Unit)) → Option R) (x : ((Unit × Int × Bool × Unit × Int × Int × Unit) × ((List Int) × Unit))) (κ0 : ((Int × Int × Unit) × ((List Int) × Unit)) → Option R) (κ1 : ((Unit × Int × Bool × Unit) × ((List Int) × Unit)) → Option R) : Option R :=
let i69 : Int := x.1.2.1
let b70 : Bool := x.1.2.2.1
let i71 : Int := x.1.2.2.2.2.1
let i72 : Int := x.1.2.2.2.2.2.1
let l73 : (List Int) := x.2.1
bif (decide (i72 < i71)) then (
bif decide (0 ≤ i72) then (
bif decide (i72 < ((List.length l73) : Int)) then (
let i74 : Int := (List.getD l73 ((Int.toNat i72)) (Sch.zero (.int .i64)))
p_116 N ((i74, ()), ()) (fun y75 =>
let b76 : Bool := y75.1
bif (!b76) then (
κ0 ((0, 1, ()), (l73, ()))) else (
bif b70 then (
let i77 : Int := addA .i64 i72 1
rec (((), i69, true, (), i71, i77, ()), (l73, ()))) else (
let i78 : Int := addA .i64 i72 1
rec (((), i69, (i74 == 0), (), i71, i78, ()), (l73, ())))))) else none) else none) else (
κ1 (((), i69, b70, ()), (l73, ())))
def l_96_3 {R : Type} (N : Nat) : Nat → ((Unit × Int × Bool × Unit × Int × Int × Unit) × ((List Int) × Unit)) → (((Int × Int × Unit) × ((List Int) × Unit)) → Option R) → (((Unit × Int × Bool × Unit) × ((List Int) × Unit)) → Option R) → Option R
  | 0, _, _, _ => none
  | n + 1, x, κ0, κ1 => B_96_3 N (fun y => l_96_3 N n y κ0 κ1) x κ0 κ1
def lv_96_12 : Live := [(4, none), (28, none), (29, none), (30, none)]
def pt_96_12 : SPat := ⟨[(4, .int .i64), (28, .sl 0), (29, .int .i64), (30, .int .i64)], [some (.lst (.int .i64), 3)]⟩
def px_96_12_0 : SPat := ⟨[(2, .int .i64), (3, .int .i64)], [some (.lst (.int .i64), 3)]⟩
def px_96_12_1 : SPat := ⟨[(4, .int .i64)], [some (.lst (.int .i64), 3)]⟩
def lo_96_12 : Exit → Live
  | .ret => [(2, none), (3, none)]
  | .exit 2 => [(4, none)]
  | _ => []
def B_96_12 {R : Type} (N : Nat) (rec : ((Int × Unit × Int × Int × Unit) × ((List Int) × Unit)) → Option R) (x : ((Int × Unit × Int × Int × Unit) × ((List Int) × Unit))) (κ0 : ((Int × Int × Unit) × ((List Int) × Unit)) → Option R) (κ1 : ((Int × Unit) × ((List Int) × Unit)) → Option R) : Option R :=
let i88 : Int := x.1.1
let i89 : Int := x.1.2.2.1
let i90 : Int := x.1.2.2.2.1
let l91 : (List Int) := x.2.1
bif (decide (i90 < i89)) then (
bif decide (0 ≤ i90) then (
bif decide (i90 < ((List.length l91) : Int)) then (
let i92 : Int := (List.getD l91 ((Int.toNat i90)) (Sch.zero (.int .i64)))
let i93 : Int := IntKind.wrap .u64 i88
let i94 : Int := IntKind.wrap .u64 i92
p_86 N ((i93, i94, ()), ()) (fun y114 =>
let i115 : Int := y114.1.1
let i116 : Int := y114.1.2.1
bif (decide (i115 > 0)) then (
κ0 ((0, 10, ()), (l91, ()))) else (
bif (decide (i116 > 4611686018427387904)) then (
κ0 ((0, 10, ()), (l91, ()))) else (
let i117 : Int := IntKind.wrap .i64 i116
let i118 : Int := addA .i64 i90 1
rec ((i117, (), i89, i118, ()), (l91, ())))))) else none) else none) else (
κ1 ((i88, ()), (l91, ())))
def l_96_12 {R : Type} (N : Nat) : Nat → ((Int × Unit × Int × Int × Unit) × ((List Int) × Unit)) → (((Int × Int × Unit) × ((List Int) × Unit)) → Option R) → (((Int × Unit) × ((List Int) × Unit)) → Option R) → Option R
  | 0, _, _, _ => none
  | n + 1, x, κ0, κ1 => B_96_12 N (fun y => l_96_12 N n y κ0 κ1) x κ0 κ1
def ap_96 : List Pat := [.sl 0]
def hp_96 : List (Option (Pat × Nat)) := [some (.lst (.int .i64), 3)]
def p_96 {R : Type} (N : Nat) (x : (Unit × Unit) × ((List Int) × Unit)) (κ0 : ((Int × (Int × Unit)) × ((List Int) × Unit)) → Option R) : Option R :=
let l67 : (List Int) := x.2.1
let i68 : Int := (((List.length l67) : Nat) : Int)
l_96_3 N N (((), 1, false, (), i68, 0, ()), (l67, ())) (fun y79 =>
let i80 : Int := y79.1.1
let i81 : Int := y79.1.2.1
let l82 : (List Int) := y79.2.1
κ0 ((i80, (i81, ())), (l82, ()))) (fun y83 =>
let i84 : Int := y83.1.2.1
let b85 : Bool := y83.1.2.2.1
let l86 : (List Int) := y83.2.1
bif b85 then (
κ0 ((0, (0, ())), (l86, ()))) else (
let i87 : Int := (((List.length l86) : Nat) : Int)
l_96_12 N N ((i84, (), i87, 0, ()), (l86, ())) (fun y119 =>
let i120 : Int := y119.1.1
let i121 : Int := y119.1.2.1
let l122 : (List Int) := y119.2.1
κ0 ((i120, (i121, ())), (l122, ()))) (fun y123 =>
let i124 : Int := y123.1.1
let l125 : (List Int) := y123.2.1
κ0 ((i124, (0, ())), (l125, ())))))

def Q_96 {R : Type} (q_116 : (Int × Unit) × (Unit) → ((Bool × (Unit)) → Option R) → Option R) (q_86 : (Int × Int × Unit) × (Unit) → (((Int × (Int × Unit)) × (Unit)) → Option R) → Option R) (m_96_3 : ((Unit × Int × Bool × Unit × Int × Int × Unit) × ((List Int) × Unit)) → (((Int × Int × Unit) × ((List Int) × Unit)) → Option R) → (((Unit × Int × Bool × Unit) × ((List Int) × Unit)) → Option R) → Option R) (m_96_12 : ((Int × Unit × Int × Int × Unit) × ((List Int) × Unit)) → (((Int × Int × Unit) × ((List Int) × Unit)) → Option R) → (((Int × Unit) × ((List Int) × Unit)) → Option R) → Option R) (x : (Unit × Unit) × ((List Int) × Unit)) (κ0 : ((Int × (Int × Unit)) × ((List Int) × Unit)) → Option R) : Option R :=
let l67 : (List Int) := x.2.1
let i68 : Int := (((List.length l67) : Nat) : Int)
m_96_3 (((), 1, false, (), i68, 0, ()), (l67, ())) (fun y79 =>
let i80 : Int := y79.1.1
let i81 : Int := y79.1.2.1
let l82 : (List Int) := y79.2.1
κ0 ((i80, (i81, ())), (l82, ()))) (fun y83 =>
let i84 : Int := y83.1.2.1
let b85 : Bool := y83.1.2.2.1
let l86 : (List Int) := y83.2.1
bif b85 then (
κ0 ((0, (0, ())), (l86, ()))) else (
let i87 : Int := (((List.length l86) : Nat) : Int)
m_96_12 ((i84, (), i87, 0, ()), (l86, ())) (fun y119 =>
let i120 : Int := y119.1.1
let i121 : Int := y119.1.2.1
let l122 : (List Int) := y119.2.1
κ0 ((i120, (i121, ())), (l122, ()))) (fun y123 =>
let i124 : Int := y123.1.1
let l125 : (List Int) := y123.2.1
κ0 ((i124, (0, ())), (l125, ())))))
def C_96_3 {R : Type} (q_116 : (Int × Unit) × (Unit) → ((Bool × (Unit)) → Option R) → Option R) (q_86 : (Int × Int × Unit) × (Unit) → (((Int × (Int × Unit)) × (Unit)) → Option R) → Option R) (m_96_3 : ((Unit × Int × Bool × Unit × Int × Int × Unit) × ((List Int) × Unit)) → (((Int × Int × Unit) × ((List Int) × Unit)) → Option R) → (((Unit × Int × Bool × Unit) × ((List Int) × Unit)) → Option R) → Option R) (m_96_12 : ((Int × Unit × Int × Int × Unit) × ((List Int) × Unit)) → (((Int × Int × Unit) × ((List Int) × Unit)) → Option R) → (((Int × Unit) × ((List Int) × Unit)) → Option R) → Option R) (rec : ((Unit × Int × Bool × Unit × Int × Int × Unit) × ((List Int) × Unit)) → Option R) (x : ((Unit × Int × Bool × Unit × Int × Int × Unit) × ((List Int) × Unit))) (κ0 : ((Int × Int × Unit) × ((List Int) × Unit)) → Option R) (κ1 : ((Unit × Int × Bool × Unit) × ((List Int) × Unit)) → Option R) : Option R :=
let i69 : Int := x.1.2.1
let b70 : Bool := x.1.2.2.1
let i71 : Int := x.1.2.2.2.2.1
let i72 : Int := x.1.2.2.2.2.2.1
let l73 : (List Int) := x.2.1
bif (decide (i72 < i71)) then (
bif decide (0 ≤ i72) then (
bif decide (i72 < ((List.length l73) : Int)) then (
let i74 : Int := (List.getD l73 ((Int.toNat i72)) (Sch.zero (.int .i64)))
q_116 ((i74, ()), ()) (fun y75 =>
let b76 : Bool := y75.1
bif (!b76) then (
κ0 ((0, 1, ()), (l73, ()))) else (
bif b70 then (
let i77 : Int := addA .i64 i72 1
rec (((), i69, true, (), i71, i77, ()), (l73, ()))) else (
let i78 : Int := addA .i64 i72 1
rec (((), i69, (i74 == 0), (), i71, i78, ()), (l73, ())))))) else none) else none) else (
κ1 (((), i69, b70, ()), (l73, ())))
def C_96_12 {R : Type} (q_116 : (Int × Unit) × (Unit) → ((Bool × (Unit)) → Option R) → Option R) (q_86 : (Int × Int × Unit) × (Unit) → (((Int × (Int × Unit)) × (Unit)) → Option R) → Option R) (m_96_3 : ((Unit × Int × Bool × Unit × Int × Int × Unit) × ((List Int) × Unit)) → (((Int × Int × Unit) × ((List Int) × Unit)) → Option R) → (((Unit × Int × Bool × Unit) × ((List Int) × Unit)) → Option R) → Option R) (m_96_12 : ((Int × Unit × Int × Int × Unit) × ((List Int) × Unit)) → (((Int × Int × Unit) × ((List Int) × Unit)) → Option R) → (((Int × Unit) × ((List Int) × Unit)) → Option R) → Option R) (rec : ((Int × Unit × Int × Int × Unit) × ((List Int) × Unit)) → Option R) (x : ((Int × Unit × Int × Int × Unit) × ((List Int) × Unit))) (κ0 : ((Int × Int × Unit) × ((List Int) × Unit)) → Option R) (κ1 : ((Int × Unit) × ((List Int) × Unit)) → Option R) : Option R :=
let i88 : Int := x.1.1
let i89 : Int := x.1.2.2.1
let i90 : Int := x.1.2.2.2.1
let l91 : (List Int) := x.2.1
bif (decide (i90 < i89)) then (
bif decide (0 ≤ i90) then (
bif decide (i90 < ((List.length l91) : Int)) then (
let i92 : Int := (List.getD l91 ((Int.toNat i90)) (Sch.zero (.int .i64)))
let i93 : Int := IntKind.wrap .u64 i88
let i94 : Int := IntKind.wrap .u64 i92
q_86 ((i93, i94, ()), ()) (fun y114 =>
let i115 : Int := y114.1.1
let i116 : Int := y114.1.2.1
bif (decide (i115 > 0)) then (
κ0 ((0, 10, ()), (l91, ()))) else (
bif (decide (i116 > 4611686018427387904)) then (
κ0 ((0, 10, ()), (l91, ()))) else (
let i117 : Int := IntKind.wrap .i64 i116
let i118 : Int := addA .i64 i90 1
rec ((i117, (), i89, i118, ()), (l91, ())))))) else none) else none) else (
κ1 ((i88, ()), (l91, ())))
def EG_96 {R : Type} (q_116 : (Int × Unit) × (Unit) → ((Bool × (Unit)) → Option R) → Option R) (q_86 : (Int × Int × Unit) × (Unit) → (((Int × (Int × Unit)) × (Unit)) → Option R) → Option R) : Env R := ((Env.base QQ LN).add 116 ap_116 hp_116 (fun (x : aden ap_116 × hden hp_116) k => q_116 x (fun y => k (Pat.inst (.bool) y.1) (instH [] y.2)))).add 86 ap_86 hp_86 (fun (x : aden ap_86 × hden hp_86) k => q_86 x (fun y => k (Pat.inst (.tup (.fcons (.int .u64) (.fcons (.int .u64) (.fnil)))) y.1) (instH [] y.2)))
def LG_96 {R : Type} (m_96_3 : ((Unit × Int × Bool × Unit × Int × Int × Unit) × ((List Int) × Unit)) → (((Int × Int × Unit) × ((List Int) × Unit)) → Option R) → (((Unit × Int × Bool × Unit) × ((List Int) × Unit)) → Option R) → Option R) (m_96_12 : ((Int × Unit × Int × Int × Unit) × ((List Int) × Unit)) → (((Int × Int × Unit) × ((List Int) × Unit)) → Option R) → (((Int × Unit) × ((List Int) × Unit)) → Option R) → Option R) : Loops R := ((Loops.none).add 3 (loopBy 1 lv_96_3 pt_96_3 (fun x k => m_96_3 x (fun y => k .ret (px_96_3_0.inst y)) (fun y => k (.exit 0) (px_96_3_1.inst y))))).add 12 (loopBy 1 lv_96_12 pt_96_12 (fun x k => m_96_12 x (fun y => k .ret (px_96_12_0.inst y)) (fun y => k (.exit 2) (px_96_12_1.inst y))))
def E_96 {R : Type} (N : Nat) : Env R := EG_96 (p_116 N) (p_86 N)
theorem eok_96 {R : Type} (N : Nat) : EK Try.prog (E_96 (R := R) N) := ek_add (ek_add (ek_base _ _) (good_116 N)) (good_86 N)
def L_96 {R : Type} (N : Nat) : Loops R := LG_96 (l_96_3 N N) (l_96_12 N N)
theorem gstep_96_3 {R : Type} (q_116 : (Int × Unit) × (Unit) → ((Bool × (Unit)) → Option R) → Option R) (q_86 : (Int × Int × Unit) × (Unit) → (((Int × (Int × Unit)) × (Unit)) → Option R) → Option R) (m_96_3 : ((Unit × Int × Bool × Unit × Int × Int × Unit) × ((List Int) × Unit)) → (((Int × Int × Unit) × ((List Int) × Unit)) → Option R) → (((Unit × Int × Bool × Unit) × ((List Int) × Unit)) → Option R) → Option R) (m_96_12 : ((Int × Unit × Int × Int × Unit) × ((List Int) × Unit)) → (((Int × Int × Unit) × ((List Int) × Unit)) → Option R) → (((Int × Unit) × ((List Int) × Unit)) → Option R) → Option R) (n : Nat) (x : pt_96_3.den) (k : Exit → St → Option R) : iter 1 lv_96_3 lo_96_3 (aexec TT (EG_96 q_116 q_86) (drawOk TT QQ) (LG_96 m_96_3 m_96_12) (loopAt 3 (bodyOf Try.f96))) (n + 1) (pt_96_3.inst x) k = C_96_3 q_116 q_86 m_96_3 m_96_12 (fun y => iter 1 lv_96_3 lo_96_3 (aexec TT (EG_96 q_116 q_86) (drawOk TT QQ) (LG_96 m_96_3 m_96_12) (loopAt 3 (bodyOf Try.f96))) n (pt_96_3.inst y) k) x (fun y => k .ret (px_96_3_0.inst y)) (fun y => k (.exit 0) (px_96_3_1.inst y)) := by kernel_rfl
theorem step_96_3 {R : Type} (N n : Nat) (x : pt_96_3.den) (k : Exit → St → Option R) : iter 1 lv_96_3 lo_96_3 (aexec TT (E_96 (R := R) N) (drawOk TT QQ) (L_96 N) (loopAt 3 (bodyOf Try.f96))) (n + 1) (pt_96_3.inst x) k = B_96_3 N (fun y => iter 1 lv_96_3 lo_96_3 (aexec TT (E_96 (R := R) N) (drawOk TT QQ) (L_96 N) (loopAt 3 (bodyOf Try.f96))) n (pt_96_3.inst y) k) x (fun y => k .ret (px_96_3_0.inst y)) (fun y => k (.exit 0) (px_96_3_1.inst y)) := (gstep_96_3 (p_116 N) (p_86 N) (l_96_3 N N) (l_96_12 N N) n x k).trans (by kernel_rfl)
theorem eq_96_3 {R : Type} (N : Nat) : ∀ (n : Nat) (x : pt_96_3.den) (k : Exit → St → Option R), iter 1 lv_96_3 lo_96_3 (aexec TT (E_96 (R := R) N) (drawOk TT QQ) (L_96 N) (loopAt 3 (bodyOf Try.f96))) n (pt_96_3.inst x) k = l_96_3 N n x (fun y => k .ret (px_96_3_0.inst y)) (fun y => k (.exit 0) (px_96_3_1.inst y)) :=
  iter_eq (K := Exit → St → Option R) (ks := fun k => k) (l := fun n (x : pt_96_3.den) k => l_96_3 N n x (fun y => k .ret (px_96_3_0.inst y)) (fun y => k (.exit 0) (px_96_3_1.inst y))) (B := fun (rec : pt_96_3.den → Option R) (x : pt_96_3.den) k => B_96_3 N rec x (fun y => k .ret (px_96_3_0.inst y)) (fun y => k (.exit 0) (px_96_3_1.inst y))) (fun _ _ => rfl) (fun _ _ _ => rfl) (fun n x k => step_96_3 N n x k)
theorem rounds_96_3 {R : Type} (N : Nat) : Rounds 1 TT (E_96 (R := R) N) (drawOk TT QQ) (L_96 N) 3 (loopAt 3 (bodyOf Try.f96)) :=
  rounds_of (p := pt_96_3) (l := fun (x : pt_96_3.den) k => l_96_3 N N x (fun y => k .ret (px_96_3_0.inst y)) (fun y => k (.exit 0) (px_96_3_1.inst y))) (fun s k => rfl) (fun x k => eq_96_3 N N x k)
theorem gstep_96_12 {R : Type} (q_116 : (Int × Unit) × (Unit) → ((Bool × (Unit)) → Option R) → Option R) (q_86 : (Int × Int × Unit) × (Unit) → (((Int × (Int × Unit)) × (Unit)) → Option R) → Option R) (m_96_3 : ((Unit × Int × Bool × Unit × Int × Int × Unit) × ((List Int) × Unit)) → (((Int × Int × Unit) × ((List Int) × Unit)) → Option R) → (((Unit × Int × Bool × Unit) × ((List Int) × Unit)) → Option R) → Option R) (m_96_12 : ((Int × Unit × Int × Int × Unit) × ((List Int) × Unit)) → (((Int × Int × Unit) × ((List Int) × Unit)) → Option R) → (((Int × Unit) × ((List Int) × Unit)) → Option R) → Option R) (n : Nat) (x : pt_96_12.den) (k : Exit → St → Option R) : iter 1 lv_96_12 lo_96_12 (aexec TT (EG_96 q_116 q_86) (drawOk TT QQ) (LG_96 m_96_3 m_96_12) (loopAt 12 (bodyOf Try.f96))) (n + 1) (pt_96_12.inst x) k = C_96_12 q_116 q_86 m_96_3 m_96_12 (fun y => iter 1 lv_96_12 lo_96_12 (aexec TT (EG_96 q_116 q_86) (drawOk TT QQ) (LG_96 m_96_3 m_96_12) (loopAt 12 (bodyOf Try.f96))) n (pt_96_12.inst y) k) x (fun y => k .ret (px_96_12_0.inst y)) (fun y => k (.exit 2) (px_96_12_1.inst y)) := by kernel_rfl
theorem step_96_12 {R : Type} (N n : Nat) (x : pt_96_12.den) (k : Exit → St → Option R) : iter 1 lv_96_12 lo_96_12 (aexec TT (E_96 (R := R) N) (drawOk TT QQ) (L_96 N) (loopAt 12 (bodyOf Try.f96))) (n + 1) (pt_96_12.inst x) k = B_96_12 N (fun y => iter 1 lv_96_12 lo_96_12 (aexec TT (E_96 (R := R) N) (drawOk TT QQ) (L_96 N) (loopAt 12 (bodyOf Try.f96))) n (pt_96_12.inst y) k) x (fun y => k .ret (px_96_12_0.inst y)) (fun y => k (.exit 2) (px_96_12_1.inst y)) := (gstep_96_12 (p_116 N) (p_86 N) (l_96_3 N N) (l_96_12 N N) n x k).trans (by kernel_rfl)
theorem eq_96_12 {R : Type} (N : Nat) : ∀ (n : Nat) (x : pt_96_12.den) (k : Exit → St → Option R), iter 1 lv_96_12 lo_96_12 (aexec TT (E_96 (R := R) N) (drawOk TT QQ) (L_96 N) (loopAt 12 (bodyOf Try.f96))) n (pt_96_12.inst x) k = l_96_12 N n x (fun y => k .ret (px_96_12_0.inst y)) (fun y => k (.exit 2) (px_96_12_1.inst y)) :=
  iter_eq (K := Exit → St → Option R) (ks := fun k => k) (l := fun n (x : pt_96_12.den) k => l_96_12 N n x (fun y => k .ret (px_96_12_0.inst y)) (fun y => k (.exit 2) (px_96_12_1.inst y))) (B := fun (rec : pt_96_12.den → Option R) (x : pt_96_12.den) k => B_96_12 N rec x (fun y => k .ret (px_96_12_0.inst y)) (fun y => k (.exit 2) (px_96_12_1.inst y))) (fun _ _ => rfl) (fun _ _ _ => rfl) (fun n x k => step_96_12 N n x k)
theorem rounds_96_12 {R : Type} (N : Nat) : Rounds 1 TT (E_96 (R := R) N) (drawOk TT QQ) (L_96 N) 12 (loopAt 12 (bodyOf Try.f96)) :=
  rounds_of (p := pt_96_12) (l := fun (x : pt_96_12.den) k => l_96_12 N N x (fun y => k .ret (px_96_12_0.inst y)) (fun y => k (.exit 2) (px_96_12_1.inst y))) (fun s k => rfl) (fun x k => eq_96_12 N N x k)
theorem loops_96 : loopsIn (bodyOf Try.f96) = [(3, loopAt 3 (bodyOf Try.f96)), (12, loopAt 12 (bodyOf Try.f96))] := by kernel_rfl
theorem lok_96 {R : Type} (N : Nat) : LOK 1 TT (E_96 (R := R) N) (drawOk TT QQ) (L_96 N) (bodyOf Try.f96) := loops_all loops_96 (by
  simp only [List.forall_mem_cons, List.not_mem_nil, false_implies, implies_true, and_true]
  exact ⟨rounds_96_3 N, rounds_96_12 N⟩)
theorem grun_96 {R : Type} (q_116 : (Int × Unit) × (Unit) → ((Bool × (Unit)) → Option R) → Option R) (q_86 : (Int × Int × Unit) × (Unit) → (((Int × (Int × Unit)) × (Unit)) → Option R) → Option R) (m_96_3 : ((Unit × Int × Bool × Unit × Int × Int × Unit) × ((List Int) × Unit)) → (((Int × Int × Unit) × ((List Int) × Unit)) → Option R) → (((Unit × Int × Bool × Unit) × ((List Int) × Unit)) → Option R) → Option R) (m_96_12 : ((Int × Unit × Int × Int × Unit) × ((List Int) × Unit)) → (((Int × Int × Unit) × ((List Int) × Unit)) → Option R) → (((Int × Unit) × ((List Int) × Unit)) → Option R) → Option R) (x : aden ap_96 × hden hp_96) (k : KF R) : fnrun TT (EG_96 q_116 q_86) (drawOk TT QQ) (LG_96 m_96_3 m_96_12) true Try.f96 (instA ap_96 x.1) (instH hp_96 x.2) k = Q_96 q_116 q_86 m_96_3 m_96_12 x (fun y => k (Pat.inst (.tup (.fcons (.int .i64) (.fcons (.int .i64) (.fnil)))) y.1) (instH [some (.lst (.int .i64), 3)] y.2)) := by kernel_rfl
theorem run_96 {R : Type} (N : Nat) (x : aden ap_96 × hden hp_96) (k : KF R) : fnrun TT (E_96 (R := R) N) (drawOk TT QQ) (L_96 N) true Try.f96 (instA ap_96 x.1) (instH hp_96 x.2) k = p_96 N x (fun y => k (Pat.inst (.tup (.fcons (.int .i64) (.fcons (.int .i64) (.fnil)))) y.1) (instH [some (.lst (.int .i64), 3)] y.2)) := (grun_96 (p_116 N) (p_86 N) (l_96_3 N N) (l_96_12 N N) x k).trans (by kernel_rfl)
theorem good_96 {R : Type} (N : Nat) : GD (X := R) Try.prog QQ 96 ap_96 hp_96 (fun (x : aden ap_96 × hden hp_96) k => p_96 N x (fun y => k (Pat.inst (.tup (.fcons (.int .i64) (.fcons (.int .i64) (.fnil)))) y.1) (instH [some (.lst (.int .i64), 3)] y.2))) :=
  gd_loud (E := E_96 N) (p := fun (x : aden ap_96 × hden hp_96) k => p_96 N x (fun y => k (Pat.inst (.tup (.fcons (.int .i64) (.fcons (.int .i64) (.fnil)))) y.1) (instH [some (.lst (.int .i64), 3)] y.2))) mixed tyok (eok_96 N) Try.func96 (by kernel_rfl) (by kernel_rfl) (by kernel_rfl) (lok_96 N) (fun x k => run_96 N x k)

def ap_51 : List Pat := [.node (.fcons (.int .i64) (.fcons (.int .i64) (.fcons (.int .i64) (.fcons (.int .i64) (.fcons (.int .i64) (.fcons (.int .i64) (.fcons (.int .i64) (.fcons (.int .i64) (.fnil)))))))))]
def hp_51 : List (Option (Pat × Nat)) := []
def p_51 {R : Type} (N : Nat) (x : ((Int × (Int × (Int × (Int × (Int × (Int × (Int × (Int × Unit)))))))) × Unit) × (Unit)) (κ0 : ((Int × (Int × Unit)) × (Unit)) → Option R) : Option R :=
let i58 : Int := x.1.1.1
let i59 : Int := x.1.1.2.1
let i60 : Int := x.1.1.2.2.1
let i61 : Int := x.1.1.2.2.2.1
let i62 : Int := x.1.1.2.2.2.2.1
let i63 : Int := x.1.1.2.2.2.2.2.1
let i64 : Int := x.1.1.2.2.2.2.2.2.1
let i65 : Int := x.1.1.2.2.2.2.2.2.2.1
let l66 : (List Int) := [i59, i62]
p_96 N (((), ()), (l66, ())) (fun y126 =>
let i127 : Int := y126.1.1
let i128 : Int := y126.1.2.1
let l129 : (List Int) := y126.2.1
bif (i128 != 0) then (
κ0 ((0, (i128, ())), ())) else (
let i130 : Int := mulA .i64 2 i60
let i131 : Int := subA .i64 i127 i130
κ0 ((i131, (0, ())), ())))

def Q_51 {R : Type} (q_96 : (Unit × Unit) × ((List Int) × Unit) → (((Int × (Int × Unit)) × ((List Int) × Unit)) → Option R) → Option R) (x : ((Int × (Int × (Int × (Int × (Int × (Int × (Int × (Int × Unit)))))))) × Unit) × (Unit)) (κ0 : ((Int × (Int × Unit)) × (Unit)) → Option R) : Option R :=
let i58 : Int := x.1.1.1
let i59 : Int := x.1.1.2.1
let i60 : Int := x.1.1.2.2.1
let i61 : Int := x.1.1.2.2.2.1
let i62 : Int := x.1.1.2.2.2.2.1
let i63 : Int := x.1.1.2.2.2.2.2.1
let i64 : Int := x.1.1.2.2.2.2.2.2.1
let i65 : Int := x.1.1.2.2.2.2.2.2.2.1
let l66 : (List Int) := [i59, i62]
q_96 (((), ()), (l66, ())) (fun y126 =>
let i127 : Int := y126.1.1
let i128 : Int := y126.1.2.1
let l129 : (List Int) := y126.2.1
bif (i128 != 0) then (
κ0 ((0, (i128, ())), ())) else (
let i130 : Int := mulA .i64 2 i60
let i131 : Int := subA .i64 i127 i130
κ0 ((i131, (0, ())), ())))
def EG_51 {R : Type} (q_96 : (Unit × Unit) × ((List Int) × Unit) → (((Int × (Int × Unit)) × ((List Int) × Unit)) → Option R) → Option R) : Env R := (Env.base QQ LN).add 96 ap_96 hp_96 (fun (x : aden ap_96 × hden hp_96) k => q_96 x (fun y => k (Pat.inst (.tup (.fcons (.int .i64) (.fcons (.int .i64) (.fnil)))) y.1) (instH [some (.lst (.int .i64), 3)] y.2)))
def LG_51 {R : Type} : Loops R := Loops.none
def E_51 {R : Type} (N : Nat) : Env R := EG_51 (p_96 N)
theorem eok_51 {R : Type} (N : Nat) : EK Try.prog (E_51 (R := R) N) := ek_add (ek_base _ _) (good_96 N)
def L_51 {R : Type} (N : Nat) : Loops R := LG_51
theorem lok_51 {R : Type} (N : Nat) : LOK 0 TT (E_51 (R := R) N) (drawOk TT QQ) (L_51 N) (bodyOf Try.f51) := loops_nil (by kernel_rfl)
theorem grun_51 {R : Type} (q_96 : (Unit × Unit) × ((List Int) × Unit) → (((Int × (Int × Unit)) × ((List Int) × Unit)) → Option R) → Option R) (x : aden ap_51 × hden hp_51) (k : KF R) : fnrun TT (EG_51 q_96) (drawOk TT QQ) (LG_51) true Try.f51 (instA ap_51 x.1) (instH hp_51 x.2) k = Q_51 q_96 x (fun y => k (Pat.inst (.tup (.fcons (.int .i64) (.fcons (.int .i64) (.fnil)))) y.1) (instH [] y.2)) := by kernel_rfl
theorem run_51 {R : Type} (N : Nat) (x : aden ap_51 × hden hp_51) (k : KF R) : fnrun TT (E_51 (R := R) N) (drawOk TT QQ) (L_51 N) true Try.f51 (instA ap_51 x.1) (instH hp_51 x.2) k = p_51 N x (fun y => k (Pat.inst (.tup (.fcons (.int .i64) (.fcons (.int .i64) (.fnil)))) y.1) (instH [] y.2)) := (grun_51 (p_96 N) x k).trans (by kernel_rfl)
theorem good_51 {R : Type} (N : Nat) : GD (X := R) Try.prog QQ 51 ap_51 hp_51 (fun (x : aden ap_51 × hden hp_51) k => p_51 N x (fun y => k (Pat.inst (.tup (.fcons (.int .i64) (.fcons (.int .i64) (.fnil)))) y.1) (instH [] y.2))) :=
  gd_loud (E := E_51 N) (p := fun (x : aden ap_51 × hden hp_51) k => p_51 N x (fun y => k (Pat.inst (.tup (.fcons (.int .i64) (.fcons (.int .i64) (.fnil)))) y.1) (instH [] y.2))) mixed tyok (eok_51 N) Try.func51 (by kernel_rfl) (by kernel_rfl) (by kernel_rfl) (lok_51 N) (fun x k => run_51 N x k)

def ap_63 : List Pat := [.node (.fcons (.int .i64) (.fcons (.int .i64) (.fcons (.int .i64) (.fcons (.int .i64) (.fcons (.int .i64) (.fcons (.int .i64) (.fcons (.int .i64) (.fcons (.int .i64) (.fnil)))))))))]
def hp_63 : List (Option (Pat × Nat)) := []
def p_63 {R : Type} (N : Nat) (x : ((Int × (Int × (Int × (Int × (Int × (Int × (Int × (Int × Unit)))))))) × Unit) × (Unit)) (κ0 : (((Int × (Int × (Int × Unit))) × (Int × Unit)) × (Unit)) → Option R) : Option R :=
let i50 : Int := x.1.1.1
let i51 : Int := x.1.1.2.1
let i52 : Int := x.1.1.2.2.1
let i53 : Int := x.1.1.2.2.2.1
let i54 : Int := x.1.1.2.2.2.2.1
let i55 : Int := x.1.1.2.2.2.2.2.1
let i56 : Int := x.1.1.2.2.2.2.2.2.1
let i57 : Int := x.1.1.2.2.2.2.2.2.2.1
bif (decide (i52 < 1)) then (
κ0 (((0, (0, (0, ()))), (1, ())), ())) else (
p_51 N (((i50, (i51, (i52, (i53, (i54, (i55, (i56, (i57, ())))))))), ()), ()) (fun y132 =>
let i133 : Int := y132.1.1
let i134 : Int := y132.1.2.1
bif (i134 != 0) then (
κ0 (((0, (0, (0, ()))), (i134, ())), ())) else (
let l135 : (List Int) := [i51, 4, i52]
p_96 N (((), ()), (l135, ())) (fun y136 =>
let i137 : Int := y136.1.1
let i138 : Int := y136.1.2.1
let l139 : (List Int) := y136.2.1
bif (i138 != 0) then (
κ0 (((0, (0, (0, ()))), (i138, ())), ())) else (
κ0 (((i133, (i133, (i137, ()))), (0, ())), ()))))))

def Q_63 {R : Type} (q_51 : ((Int × (Int × (Int × (Int × (Int × (Int × (Int × (Int × Unit)))))))) × Unit) × (Unit) → (((Int × (Int × Unit)) × (Unit)) → Option R) → Option R) (q_96 : (Unit × Unit) × ((List Int) × Unit) → (((Int × (Int × Unit)) × ((List Int) × Unit)) → Option R) → Option R) (x : ((Int × (Int × (Int × (Int × (Int × (Int × (Int × (Int × Unit)))))))) × Unit) × (Unit)) (κ0 : (((Int × (Int × (Int × Unit))) × (Int × Unit)) × (Unit)) → Option R) : Option R :=
let i50 : Int := x.1.1.1
let i51 : Int := x.1.1.2.1
let i52 : Int := x.1.1.2.2.1
let i53 : Int := x.1.1.2.2.2.1
let i54 : Int := x.1.1.2.2.2.2.1
let i55 : Int := x.1.1.2.2.2.2.2.1
let i56 : Int := x.1.1.2.2.2.2.2.2.1
let i57 : Int := x.1.1.2.2.2.2.2.2.2.1
bif (decide (i52 < 1)) then (
κ0 (((0, (0, (0, ()))), (1, ())), ())) else (
q_51 (((i50, (i51, (i52, (i53, (i54, (i55, (i56, (i57, ())))))))), ()), ()) (fun y132 =>
let i133 : Int := y132.1.1
let i134 : Int := y132.1.2.1
bif (i134 != 0) then (
κ0 (((0, (0, (0, ()))), (i134, ())), ())) else (
let l135 : (List Int) := [i51, 4, i52]
q_96 (((), ()), (l135, ())) (fun y136 =>
let i137 : Int := y136.1.1
let i138 : Int := y136.1.2.1
let l139 : (List Int) := y136.2.1
bif (i138 != 0) then (
κ0 (((0, (0, (0, ()))), (i138, ())), ())) else (
κ0 (((i133, (i133, (i137, ()))), (0, ())), ()))))))
def EG_63 {R : Type} (q_51 : ((Int × (Int × (Int × (Int × (Int × (Int × (Int × (Int × Unit)))))))) × Unit) × (Unit) → (((Int × (Int × Unit)) × (Unit)) → Option R) → Option R) (q_96 : (Unit × Unit) × ((List Int) × Unit) → (((Int × (Int × Unit)) × ((List Int) × Unit)) → Option R) → Option R) : Env R := ((Env.base QQ LN).add 51 ap_51 hp_51 (fun (x : aden ap_51 × hden hp_51) k => q_51 x (fun y => k (Pat.inst (.tup (.fcons (.int .i64) (.fcons (.int .i64) (.fnil)))) y.1) (instH [] y.2)))).add 96 ap_96 hp_96 (fun (x : aden ap_96 × hden hp_96) k => q_96 x (fun y => k (Pat.inst (.tup (.fcons (.int .i64) (.fcons (.int .i64) (.fnil)))) y.1) (instH [some (.lst (.int .i64), 3)] y.2)))
def LG_63 {R : Type} : Loops R := Loops.none
def E_63 {R : Type} (N : Nat) : Env R := EG_63 (p_51 N) (p_96 N)
theorem eok_63 {R : Type} (N : Nat) : EK Try.prog (E_63 (R := R) N) := ek_add (ek_add (ek_base _ _) (good_51 N)) (good_96 N)
def L_63 {R : Type} (N : Nat) : Loops R := LG_63
theorem lok_63 {R : Type} (N : Nat) : LOK 0 TT (E_63 (R := R) N) (drawOk TT QQ) (L_63 N) (bodyOf Try.f63) := loops_nil (by kernel_rfl)
theorem grun_63 {R : Type} (q_51 : ((Int × (Int × (Int × (Int × (Int × (Int × (Int × (Int × Unit)))))))) × Unit) × (Unit) → (((Int × (Int × Unit)) × (Unit)) → Option R) → Option R) (q_96 : (Unit × Unit) × ((List Int) × Unit) → (((Int × (Int × Unit)) × ((List Int) × Unit)) → Option R) → Option R) (x : aden ap_63 × hden hp_63) (k : KF R) : fnrun TT (EG_63 q_51 q_96) (drawOk TT QQ) (LG_63) true Try.f63 (instA ap_63 x.1) (instH hp_63 x.2) k = Q_63 q_51 q_96 x (fun y => k (Pat.inst (.tup (.fcons (.node (.fcons (.int .i64) (.fcons (.int .i64) (.fcons (.int .i64) (.fnil))))) (.fcons (.int .i64) (.fnil)))) y.1) (instH [] y.2)) := by kernel_rfl
theorem run_63 {R : Type} (N : Nat) (x : aden ap_63 × hden hp_63) (k : KF R) : fnrun TT (E_63 (R := R) N) (drawOk TT QQ) (L_63 N) true Try.f63 (instA ap_63 x.1) (instH hp_63 x.2) k = p_63 N x (fun y => k (Pat.inst (.tup (.fcons (.node (.fcons (.int .i64) (.fcons (.int .i64) (.fcons (.int .i64) (.fnil))))) (.fcons (.int .i64) (.fnil)))) y.1) (instH [] y.2)) := (grun_63 (p_51 N) (p_96 N) x k).trans (by kernel_rfl)
theorem good_63 {R : Type} (N : Nat) : GD (X := R) Try.prog QQ 63 ap_63 hp_63 (fun (x : aden ap_63 × hden hp_63) k => p_63 N x (fun y => k (Pat.inst (.tup (.fcons (.node (.fcons (.int .i64) (.fcons (.int .i64) (.fcons (.int .i64) (.fnil))))) (.fcons (.int .i64) (.fnil)))) y.1) (instH [] y.2))) :=
  gd_loud (E := E_63 N) (p := fun (x : aden ap_63 × hden hp_63) k => p_63 N x (fun y => k (Pat.inst (.tup (.fcons (.node (.fcons (.int .i64) (.fcons (.int .i64) (.fcons (.int .i64) (.fnil))))) (.fcons (.int .i64) (.fnil)))) y.1) (instH [] y.2))) mixed tyok (eok_63 N) Try.func63 (by kernel_rfl) (by kernel_rfl) (by kernel_rfl) (lok_63 N) (fun x k => run_63 N x k)

def ap_59 : List Pat := []
def hp_59 : List (Option (Pat × Nat)) := []
def p_59 {R : Type} (N : Nat) (x : (Unit) × (Unit)) (κ0 : (Bool × (Unit)) → Option R) : Option R :=
p_26 N (((1, (1, (32, (2, (32, ()))))), ()), ()) (fun y40 =>
let i41 : Int := y40.1.1.1
let i42 : Int := y40.1.1.2.1
let i43 : Int := y40.1.1.2.2.1
let i44 : Int := y40.1.1.2.2.2.1
let i45 : Int := y40.1.1.2.2.2.2.1
let i46 : Int := y40.1.1.2.2.2.2.2.1
let i47 : Int := y40.1.1.2.2.2.2.2.2.1
let i48 : Int := y40.1.1.2.2.2.2.2.2.2.1
let i49 : Int := y40.1.2.1
p_63 N (((i41, (i42, (i43, (i44, (i45, (i46, (i47, (i48, ())))))))), ()), ()) (fun y140 =>
let i141 : Int := y140.1.1.1
let i142 : Int := y140.1.1.2.1
let i143 : Int := y140.1.1.2.2.1
let i144 : Int := y140.1.2.1
bif (i144 == 0) then (
κ0 ((schEq (.stru (.fcons (.int .i64) (.fcons (.int .i64) (.fcons (.int .i64) (.fnil))))) ((i141, (i142, (i143, ())))) ((28, (28, (8, ()))))), ())) else (
κ0 (false, ()))))

def Q_59 {R : Type} (q_26 : ((Int × (Int × (Int × (Int × (Int × Unit))))) × Unit) × (Unit) → ((((Int × (Int × (Int × (Int × (Int × (Int × (Int × (Int × Unit)))))))) × (Int × Unit)) × (Unit)) → Option R) → Option R) (q_63 : ((Int × (Int × (Int × (Int × (Int × (Int × (Int × (Int × Unit)))))))) × Unit) × (Unit) → ((((Int × (Int × (Int × Unit))) × (Int × Unit)) × (Unit)) → Option R) → Option R) (x : (Unit) × (Unit)) (κ0 : (Bool × (Unit)) → Option R) : Option R :=
q_26 (((1, (1, (32, (2, (32, ()))))), ()), ()) (fun y40 =>
let i41 : Int := y40.1.1.1
let i42 : Int := y40.1.1.2.1
let i43 : Int := y40.1.1.2.2.1
let i44 : Int := y40.1.1.2.2.2.1
let i45 : Int := y40.1.1.2.2.2.2.1
let i46 : Int := y40.1.1.2.2.2.2.2.1
let i47 : Int := y40.1.1.2.2.2.2.2.2.1
let i48 : Int := y40.1.1.2.2.2.2.2.2.2.1
let i49 : Int := y40.1.2.1
q_63 (((i41, (i42, (i43, (i44, (i45, (i46, (i47, (i48, ())))))))), ()), ()) (fun y140 =>
let i141 : Int := y140.1.1.1
let i142 : Int := y140.1.1.2.1
let i143 : Int := y140.1.1.2.2.1
let i144 : Int := y140.1.2.1
bif (i144 == 0) then (
κ0 ((schEq (.stru (.fcons (.int .i64) (.fcons (.int .i64) (.fcons (.int .i64) (.fnil))))) ((i141, (i142, (i143, ())))) ((28, (28, (8, ()))))), ())) else (
κ0 (false, ()))))
def EG_59 {R : Type} (q_26 : ((Int × (Int × (Int × (Int × (Int × Unit))))) × Unit) × (Unit) → ((((Int × (Int × (Int × (Int × (Int × (Int × (Int × (Int × Unit)))))))) × (Int × Unit)) × (Unit)) → Option R) → Option R) (q_63 : ((Int × (Int × (Int × (Int × (Int × (Int × (Int × (Int × Unit)))))))) × Unit) × (Unit) → ((((Int × (Int × (Int × Unit))) × (Int × Unit)) × (Unit)) → Option R) → Option R) : Env R := ((Env.base QQ LN).add 26 ap_26 hp_26 (fun (x : aden ap_26 × hden hp_26) k => q_26 x (fun y => k (Pat.inst (.tup (.fcons (.node (.fcons (.int .i64) (.fcons (.int .i64) (.fcons (.int .i64) (.fcons (.int .i64) (.fcons (.int .i64) (.fcons (.int .i64) (.fcons (.int .i64) (.fcons (.int .i64) (.fnil)))))))))) (.fcons (.int .i64) (.fnil)))) y.1) (instH [] y.2)))).add 63 ap_63 hp_63 (fun (x : aden ap_63 × hden hp_63) k => q_63 x (fun y => k (Pat.inst (.tup (.fcons (.node (.fcons (.int .i64) (.fcons (.int .i64) (.fcons (.int .i64) (.fnil))))) (.fcons (.int .i64) (.fnil)))) y.1) (instH [] y.2)))
def LG_59 {R : Type} : Loops R := Loops.none
def E_59 {R : Type} (N : Nat) : Env R := EG_59 (p_26 N) (p_63 N)
theorem eok_59 {R : Type} (N : Nat) : EK Try.prog (E_59 (R := R) N) := ek_add (ek_add (ek_base _ _) (good_26 N)) (good_63 N)
def L_59 {R : Type} (N : Nat) : Loops R := LG_59
theorem lok_59 {R : Type} (N : Nat) : LOK 0 TT (E_59 (R := R) N) (drawOk TT QQ) (L_59 N) (bodyOf Try.f59) := loops_nil (by kernel_rfl)
theorem grun_59 {R : Type} (q_26 : ((Int × (Int × (Int × (Int × (Int × Unit))))) × Unit) × (Unit) → ((((Int × (Int × (Int × (Int × (Int × (Int × (Int × (Int × Unit)))))))) × (Int × Unit)) × (Unit)) → Option R) → Option R) (q_63 : ((Int × (Int × (Int × (Int × (Int × (Int × (Int × (Int × Unit)))))))) × Unit) × (Unit) → ((((Int × (Int × (Int × Unit))) × (Int × Unit)) × (Unit)) → Option R) → Option R) (x : aden ap_59 × hden hp_59) (k : KF R) : fnrun TT (EG_59 q_26 q_63) (drawOk TT QQ) (LG_59) true Try.f59 (instA ap_59 x.1) (instH hp_59 x.2) k = Q_59 q_26 q_63 x (fun y => k (Pat.inst (.bool) y.1) (instH [] y.2)) := by kernel_rfl
theorem run_59 {R : Type} (N : Nat) (x : aden ap_59 × hden hp_59) (k : KF R) : fnrun TT (E_59 (R := R) N) (drawOk TT QQ) (L_59 N) true Try.f59 (instA ap_59 x.1) (instH hp_59 x.2) k = p_59 N x (fun y => k (Pat.inst (.bool) y.1) (instH [] y.2)) := (grun_59 (p_26 N) (p_63 N) x k).trans (by kernel_rfl)
theorem good_59 {R : Type} (N : Nat) : GD (X := R) Try.prog QQ 59 ap_59 hp_59 (fun (x : aden ap_59 × hden hp_59) k => p_59 N x (fun y => k (Pat.inst (.bool) y.1) (instH [] y.2))) :=
  gd_loud (E := E_59 N) (p := fun (x : aden ap_59 × hden hp_59) k => p_59 N x (fun y => k (Pat.inst (.bool) y.1) (instH [] y.2))) mixed tyok (eok_59 N) Try.func59 (by kernel_rfl) (by kernel_rfl) (by kernel_rfl) (lok_59 N) (fun x k => run_59 N x k)

def lv_61_3 : Live := [(3, some (.stru (.fcons (.int .i64) (.fcons (.int .i64) (.fcons (.stru (.fcons (.int .i64) (.fcons (.int .i64) (.fnil)))) (.fcons (.stru (.fcons (.int .i64) (.fcons (.int .i64) (.fnil)))) (.fcons (.stru (.fcons (.int .i64) (.fcons (.int .i64) (.fnil)))) (.fnil)))))), 157)), (6, none), (7, none), (8, none)]
def pt_61_3 : SPat := ⟨[(3, .sl 0), (6, .ros (.int .i64)), (7, .int .i64), (8, .int .i64)], [some (.lst (.stru (.fcons (.int .i64) (.fcons (.int .i64) (.fcons (.stru (.fcons (.int .i64) (.fcons (.int .i64) (.fnil)))) (.fcons (.stru (.fcons (.int .i64) (.fcons (.int .i64) (.fnil)))) (.fcons (.stru (.fcons (.int .i64) (.fcons (.int .i64) (.fnil)))) (.fnil))))))), 157)]⟩
def px_61_3_0 : SPat := ⟨[(3, .sl 0)], [some (.lst (.stru (.fcons (.int .i64) (.fcons (.int .i64) (.fcons (.stru (.fcons (.int .i64) (.fcons (.int .i64) (.fnil)))) (.fcons (.stru (.fcons (.int .i64) (.fcons (.int .i64) (.fnil)))) (.fcons (.stru (.fcons (.int .i64) (.fcons (.int .i64) (.fnil)))) (.fnil))))))), 157)]⟩
def lo_61_3 : Exit → Live
  | .exit 0 => [(3, none)]
  | _ => []
def B_61_3 {R : Type} (N : Nat) (rec : ((Unit × (List Int) × Int × Int × Unit) × ((List (Int × (Int × ((Int × (Int × Unit)) × ((Int × (Int × Unit)) × ((Int × (Int × Unit)) × Unit)))))) × Unit)) → Option R) (x : ((Unit × (List Int) × Int × Int × Unit) × ((List (Int × (Int × ((Int × (Int × Unit)) × ((Int × (Int × Unit)) × ((Int × (Int × Unit)) × Unit)))))) × Unit))) (κ0 : ((Unit × Unit) × ((List (Int × (Int × ((Int × (Int × Unit)) × ((Int × (Int × Unit)) × ((Int × (Int × Unit)) × Unit)))))) × Unit)) → Option R) : Option R :=
let l167 : (List Int) := x.1.2.1
let i168 : Int := x.1.2.2.1
let i169 : Int := x.1.2.2.2.1
let l170 : (List (Int × (Int × ((Int × (Int × Unit)) × ((Int × (Int × Unit)) × ((Int × (Int × Unit)) × Unit)))))) := x.2.1
bif (decide (i169 < i168)) then (
bif decide (0 ≤ i169) then (
bif decide (i169 < ((List.length l167) : Int)) then (
let p171 : Int := (List.getD l167 ((Int.toNat i169)) (Sch.zero (.int .i64)))
let l172 : (List (Int × (Int × ((Int × (Int × Unit)) × ((Int × (Int × Unit)) × ((Int × (Int × Unit)) × Unit)))))) := [(p171, (0, ((0, (0, ())), ((0, (0, ())), ((0, (0, ())), ())))))]
bif (decide ((List.length l170 + List.length l172) * 64 ≤ 140737488355328) && true) then (
let l173 : (List (Int × (Int × ((Int × (Int × Unit)) × ((Int × (Int × Unit)) × ((Int × (Int × Unit)) × Unit)))))) := (l170 ++ l172)
let i174 : Int := addA .i64 i169 1
rec (((), l167, i168, i174, ()), (l173, ()))) else none) else none) else none) else (
κ0 (((), ()), (l170, ())))
def l_61_3 {R : Type} (N : Nat) : Nat → ((Unit × (List Int) × Int × Int × Unit) × ((List (Int × (Int × ((Int × (Int × Unit)) × ((Int × (Int × Unit)) × ((Int × (Int × Unit)) × Unit)))))) × Unit)) → (((Unit × Unit) × ((List (Int × (Int × ((Int × (Int × Unit)) × ((Int × (Int × Unit)) × ((Int × (Int × Unit)) × Unit)))))) × Unit)) → Option R) → Option R
  | 0, _, _ => none
  | n + 1, x, κ0 => B_61_3 N (fun y => l_61_3 N n y κ0) x κ0
def ap_61 : List Pat := [.ros (.int .i64)]
def hp_61 : List (Option (Pat × Nat)) := []
def p_61 {R : Type} (N : Nat) (x : ((List Int) × Unit) × (Unit)) (κ0 : ((List (Int × (Int × ((Int × (Int × Unit)) × ((Int × (Int × Unit)) × ((Int × (Int × Unit)) × Unit)))))) × (Unit)) → Option R) : Option R :=
let l159 : (List Int) := x.1.1
let i160 : Int := (((List.length l159) : Nat) : Int)
l_61_3 N N (((), l159, i160, 0, ()), ([], ())) (fun y175 =>
let l176 : (List (Int × (Int × ((Int × (Int × Unit)) × ((Int × (Int × Unit)) × ((Int × (Int × Unit)) × Unit)))))) := y175.2.1
κ0 (l176, ()))

def Q_61 {R : Type} (m_61_3 : ((Unit × (List Int) × Int × Int × Unit) × ((List (Int × (Int × ((Int × (Int × Unit)) × ((Int × (Int × Unit)) × ((Int × (Int × Unit)) × Unit)))))) × Unit)) → (((Unit × Unit) × ((List (Int × (Int × ((Int × (Int × Unit)) × ((Int × (Int × Unit)) × ((Int × (Int × Unit)) × Unit)))))) × Unit)) → Option R) → Option R) (x : ((List Int) × Unit) × (Unit)) (κ0 : ((List (Int × (Int × ((Int × (Int × Unit)) × ((Int × (Int × Unit)) × ((Int × (Int × Unit)) × Unit)))))) × (Unit)) → Option R) : Option R :=
let l159 : (List Int) := x.1.1
let i160 : Int := (((List.length l159) : Nat) : Int)
m_61_3 (((), l159, i160, 0, ()), ([], ())) (fun y175 =>
let l176 : (List (Int × (Int × ((Int × (Int × Unit)) × ((Int × (Int × Unit)) × ((Int × (Int × Unit)) × Unit)))))) := y175.2.1
κ0 (l176, ()))
def C_61_3 {R : Type} (m_61_3 : ((Unit × (List Int) × Int × Int × Unit) × ((List (Int × (Int × ((Int × (Int × Unit)) × ((Int × (Int × Unit)) × ((Int × (Int × Unit)) × Unit)))))) × Unit)) → (((Unit × Unit) × ((List (Int × (Int × ((Int × (Int × Unit)) × ((Int × (Int × Unit)) × ((Int × (Int × Unit)) × Unit)))))) × Unit)) → Option R) → Option R) (rec : ((Unit × (List Int) × Int × Int × Unit) × ((List (Int × (Int × ((Int × (Int × Unit)) × ((Int × (Int × Unit)) × ((Int × (Int × Unit)) × Unit)))))) × Unit)) → Option R) (x : ((Unit × (List Int) × Int × Int × Unit) × ((List (Int × (Int × ((Int × (Int × Unit)) × ((Int × (Int × Unit)) × ((Int × (Int × Unit)) × Unit)))))) × Unit))) (κ0 : ((Unit × Unit) × ((List (Int × (Int × ((Int × (Int × Unit)) × ((Int × (Int × Unit)) × ((Int × (Int × Unit)) × Unit)))))) × Unit)) → Option R) : Option R :=
let l167 : (List Int) := x.1.2.1
let i168 : Int := x.1.2.2.1
let i169 : Int := x.1.2.2.2.1
let l170 : (List (Int × (Int × ((Int × (Int × Unit)) × ((Int × (Int × Unit)) × ((Int × (Int × Unit)) × Unit)))))) := x.2.1
bif (decide (i169 < i168)) then (
bif decide (0 ≤ i169) then (
bif decide (i169 < ((List.length l167) : Int)) then (
let p171 : Int := (List.getD l167 ((Int.toNat i169)) (Sch.zero (.int .i64)))
let l172 : (List (Int × (Int × ((Int × (Int × Unit)) × ((Int × (Int × Unit)) × ((Int × (Int × Unit)) × Unit)))))) := [(p171, (0, ((0, (0, ())), ((0, (0, ())), ((0, (0, ())), ())))))]
bif (decide ((List.length l170 + List.length l172) * 64 ≤ 140737488355328) && true) then (
let l173 : (List (Int × (Int × ((Int × (Int × Unit)) × ((Int × (Int × Unit)) × ((Int × (Int × Unit)) × Unit)))))) := (l170 ++ l172)
let i174 : Int := addA .i64 i169 1
rec (((), l167, i168, i174, ()), (l173, ()))) else none) else none) else none) else (
κ0 (((), ()), (l170, ())))
def EG_61 {R : Type} : Env R := Env.base QQ LN
def LG_61 {R : Type} (m_61_3 : ((Unit × (List Int) × Int × Int × Unit) × ((List (Int × (Int × ((Int × (Int × Unit)) × ((Int × (Int × Unit)) × ((Int × (Int × Unit)) × Unit)))))) × Unit)) → (((Unit × Unit) × ((List (Int × (Int × ((Int × (Int × Unit)) × ((Int × (Int × Unit)) × ((Int × (Int × Unit)) × Unit)))))) × Unit)) → Option R) → Option R) : Loops R := (Loops.none).add 3 (loopBy 0 lv_61_3 pt_61_3 (fun x k => m_61_3 x (fun y => k (.exit 0) (px_61_3_0.inst y))))
def E_61 {R : Type} (N : Nat) : Env R := EG_61
theorem eok_61 {R : Type} (N : Nat) : EK Try.prog (E_61 (R := R) N) := ek_base _ _
def L_61 {R : Type} (N : Nat) : Loops R := LG_61 (l_61_3 N N)
theorem gstep_61_3 {R : Type} (m_61_3 : ((Unit × (List Int) × Int × Int × Unit) × ((List (Int × (Int × ((Int × (Int × Unit)) × ((Int × (Int × Unit)) × ((Int × (Int × Unit)) × Unit)))))) × Unit)) → (((Unit × Unit) × ((List (Int × (Int × ((Int × (Int × Unit)) × ((Int × (Int × Unit)) × ((Int × (Int × Unit)) × Unit)))))) × Unit)) → Option R) → Option R) (n : Nat) (x : pt_61_3.den) (k : Exit → St → Option R) : iter 0 lv_61_3 lo_61_3 (aexec TT (EG_61) (drawOk TT QQ) (LG_61 m_61_3) (loopAt 3 (bodyOf Try.f61))) (n + 1) (pt_61_3.inst x) k = C_61_3 m_61_3 (fun y => iter 0 lv_61_3 lo_61_3 (aexec TT (EG_61) (drawOk TT QQ) (LG_61 m_61_3) (loopAt 3 (bodyOf Try.f61))) n (pt_61_3.inst y) k) x (fun y => k (.exit 0) (px_61_3_0.inst y)) := by kernel_rfl
theorem step_61_3 {R : Type} (N n : Nat) (x : pt_61_3.den) (k : Exit → St → Option R) : iter 0 lv_61_3 lo_61_3 (aexec TT (E_61 (R := R) N) (drawOk TT QQ) (L_61 N) (loopAt 3 (bodyOf Try.f61))) (n + 1) (pt_61_3.inst x) k = B_61_3 N (fun y => iter 0 lv_61_3 lo_61_3 (aexec TT (E_61 (R := R) N) (drawOk TT QQ) (L_61 N) (loopAt 3 (bodyOf Try.f61))) n (pt_61_3.inst y) k) x (fun y => k (.exit 0) (px_61_3_0.inst y)) := (gstep_61_3 (l_61_3 N N) n x k).trans (by kernel_rfl)
theorem eq_61_3 {R : Type} (N : Nat) : ∀ (n : Nat) (x : pt_61_3.den) (k : Exit → St → Option R), iter 0 lv_61_3 lo_61_3 (aexec TT (E_61 (R := R) N) (drawOk TT QQ) (L_61 N) (loopAt 3 (bodyOf Try.f61))) n (pt_61_3.inst x) k = l_61_3 N n x (fun y => k (.exit 0) (px_61_3_0.inst y)) :=
  iter_eq (K := Exit → St → Option R) (ks := fun k => k) (l := fun n (x : pt_61_3.den) k => l_61_3 N n x (fun y => k (.exit 0) (px_61_3_0.inst y))) (B := fun (rec : pt_61_3.den → Option R) (x : pt_61_3.den) k => B_61_3 N rec x (fun y => k (.exit 0) (px_61_3_0.inst y))) (fun _ _ => rfl) (fun _ _ _ => rfl) (fun n x k => step_61_3 N n x k)
theorem rounds_61_3 {R : Type} (N : Nat) : Rounds 0 TT (E_61 (R := R) N) (drawOk TT QQ) (L_61 N) 3 (loopAt 3 (bodyOf Try.f61)) :=
  rounds_of (p := pt_61_3) (l := fun (x : pt_61_3.den) k => l_61_3 N N x (fun y => k (.exit 0) (px_61_3_0.inst y))) (fun s k => rfl) (fun x k => eq_61_3 N N x k)
theorem loops_61 : loopsIn (bodyOf Try.f61) = [(3, loopAt 3 (bodyOf Try.f61))] := by kernel_rfl
theorem lok_61 {R : Type} (N : Nat) : LOK 0 TT (E_61 (R := R) N) (drawOk TT QQ) (L_61 N) (bodyOf Try.f61) := loops_all loops_61 (by
  simp only [List.forall_mem_cons, List.not_mem_nil, false_implies, implies_true, and_true]
  exact rounds_61_3 N)
theorem grun_61 {R : Type} (m_61_3 : ((Unit × (List Int) × Int × Int × Unit) × ((List (Int × (Int × ((Int × (Int × Unit)) × ((Int × (Int × Unit)) × ((Int × (Int × Unit)) × Unit)))))) × Unit)) → (((Unit × Unit) × ((List (Int × (Int × ((Int × (Int × Unit)) × ((Int × (Int × Unit)) × ((Int × (Int × Unit)) × Unit)))))) × Unit)) → Option R) → Option R) (x : aden ap_61 × hden hp_61) (k : KF R) : fnrun TT (EG_61) (drawOk TT QQ) (LG_61 m_61_3) true Try.f61 (instA ap_61 x.1) (instH hp_61 x.2) k = Q_61 m_61_3 x (fun y => k (Pat.inst (.ros (.stru (.fcons (.int .i64) (.fcons (.int .i64) (.fcons (.stru (.fcons (.int .i64) (.fcons (.int .i64) (.fnil)))) (.fcons (.stru (.fcons (.int .i64) (.fcons (.int .i64) (.fnil)))) (.fcons (.stru (.fcons (.int .i64) (.fcons (.int .i64) (.fnil)))) (.fnil)))))))) y.1) (instH [] y.2)) := by kernel_rfl
theorem run_61 {R : Type} (N : Nat) (x : aden ap_61 × hden hp_61) (k : KF R) : fnrun TT (E_61 (R := R) N) (drawOk TT QQ) (L_61 N) true Try.f61 (instA ap_61 x.1) (instH hp_61 x.2) k = p_61 N x (fun y => k (Pat.inst (.ros (.stru (.fcons (.int .i64) (.fcons (.int .i64) (.fcons (.stru (.fcons (.int .i64) (.fcons (.int .i64) (.fnil)))) (.fcons (.stru (.fcons (.int .i64) (.fcons (.int .i64) (.fnil)))) (.fcons (.stru (.fcons (.int .i64) (.fcons (.int .i64) (.fnil)))) (.fnil)))))))) y.1) (instH [] y.2)) := (grun_61 (l_61_3 N N) x k).trans (by kernel_rfl)
theorem good_61 {R : Type} (N : Nat) : GD (X := R) Try.prog QQ 61 ap_61 hp_61 (fun (x : aden ap_61 × hden hp_61) k => p_61 N x (fun y => k (Pat.inst (.ros (.stru (.fcons (.int .i64) (.fcons (.int .i64) (.fcons (.stru (.fcons (.int .i64) (.fcons (.int .i64) (.fnil)))) (.fcons (.stru (.fcons (.int .i64) (.fcons (.int .i64) (.fnil)))) (.fcons (.stru (.fcons (.int .i64) (.fcons (.int .i64) (.fnil)))) (.fnil)))))))) y.1) (instH [] y.2))) :=
  gd_loud (E := E_61 N) (p := fun (x : aden ap_61 × hden hp_61) k => p_61 N x (fun y => k (Pat.inst (.ros (.stru (.fcons (.int .i64) (.fcons (.int .i64) (.fcons (.stru (.fcons (.int .i64) (.fcons (.int .i64) (.fnil)))) (.fcons (.stru (.fcons (.int .i64) (.fcons (.int .i64) (.fnil)))) (.fcons (.stru (.fcons (.int .i64) (.fcons (.int .i64) (.fnil)))) (.fnil)))))))) y.1) (instH [] y.2))) mixed tyok (eok_61 N) Try.func61 (by kernel_rfl) (by kernel_rfl) (by kernel_rfl) (lok_61 N) (fun x k => run_61 N x k)

def lv_60_3 : Live := [(2, none), (3, none), (6, none), (7, none), (8, none)]
def pt_60_3 : SPat := ⟨[(2, .ptr 0 []), (3, .ptr 1 []), (6, .ros (.stru (.fcons (.int .i64) (.fcons (.int .i64) (.fcons (.stru (.fcons (.int .i64) (.fcons (.int .i64) (.fnil)))) (.fcons (.stru (.fcons (.int .i64) (.fcons (.int .i64) (.fnil)))) (.fcons (.stru (.fcons (.int .i64) (.fcons (.int .i64) (.fnil)))) (.fnil)))))))), (7, .int .i64), (8, .int .i64)], [some (.node (.fcons (.int .i64) (.fcons (.int .i64) (.fcons (.int .i64) (.fnil)))), 100), some (.node (.fcons (.int .i64) (.fcons (.int .i64) (.fcons (.int .i64) (.fnil)))), 100)]⟩
def px_60_3_0 : SPat := ⟨[(2, .ptr 0 []), (3, .ptr 1 [])], [some (.node (.fcons (.int .i64) (.fcons (.int .i64) (.fcons (.int .i64) (.fnil)))), 100), some (.node (.fcons (.int .i64) (.fcons (.int .i64) (.fcons (.int .i64) (.fnil)))), 100)]⟩
def lo_60_3 : Exit → Live
  | .exit 0 => [(2, none), (3, none)]
  | _ => []
def B_60_3 {R : Type} (N : Nat) (rec : ((Unit × Unit × (List (Int × (Int × ((Int × (Int × Unit)) × ((Int × (Int × Unit)) × ((Int × (Int × Unit)) × Unit)))))) × Int × Int × Unit) × ((Int × (Int × (Int × Unit))) × (Int × (Int × (Int × Unit))) × Unit)) → Option R) (x : ((Unit × Unit × (List (Int × (Int × ((Int × (Int × Unit)) × ((Int × (Int × Unit)) × ((Int × (Int × Unit)) × Unit)))))) × Int × Int × Unit) × ((Int × (Int × (Int × Unit))) × (Int × (Int × (Int × Unit))) × Unit))) (κ0 : ((Unit × Unit × Unit) × ((Int × (Int × (Int × Unit))) × (Int × (Int × (Int × Unit))) × Unit)) → Option R) : Option R :=
let l181 : (List (Int × (Int × ((Int × (Int × Unit)) × ((Int × (Int × Unit)) × ((Int × (Int × Unit)) × Unit)))))) := x.1.2.2.1
let i182 : Int := x.1.2.2.2.1
let i183 : Int := x.1.2.2.2.2.1
let i184 : Int := x.2.1.1
let i185 : Int := x.2.1.2.1
let i186 : Int := x.2.1.2.2.1
let i187 : Int := x.2.2.1.1
let i188 : Int := x.2.2.1.2.1
let i189 : Int := x.2.2.1.2.2.1
bif (decide (i183 < i182)) then (
bif decide (0 ≤ i183) then (
bif decide (i183 < ((List.length l181) : Int)) then (
let p190 : (Int × (Int × ((Int × (Int × Unit)) × ((Int × (Int × Unit)) × ((Int × (Int × Unit)) × Unit))))) := (List.getD l181 ((Int.toNat i183)) (Sch.zero (.stru (.fcons (.int .i64) (.fcons (.int .i64) (.fcons (.stru (.fcons (.int .i64) (.fcons (.int .i64) (.fnil)))) (.fcons (.stru (.fcons (.int .i64) (.fcons (.int .i64) (.fnil)))) (.fcons (.stru (.fcons (.int .i64) (.fcons (.int .i64) (.fnil)))) (.fnil)))))))))
bif (p190.1 == 1) then (
let i191 : Int := addA .i64 i187 1
let i192 : Int := addA .i64 i183 1
rec (((), (), l181, i182, i192, ()), ((i184, (i185, (i186, ()))), (i191, (i188, (i189, ()))), ()))) else (
bif (p190.1 == 2) then (
let i193 : Int := addA .i64 i188 1
let i194 : Int := addA .i64 i183 1
rec (((), (), l181, i182, i194, ()), ((i184, (i185, (i186, ()))), (i187, (i193, (i189, ()))), ()))) else (
bif (p190.1 == 3) then (
let i195 : Int := addA .i64 i189 1
let i196 : Int := addA .i64 i183 1
rec (((), (), l181, i182, i196, ()), ((i184, (i185, (i186, ()))), (i187, (i188, (i195, ()))), ()))) else (
let i197 : Int := addA .i64 i183 1
rec (((), (), l181, i182, i197, ()), ((i184, (i185, (i186, ()))), (i187, (i188, (i189, ()))), ())))))) else none) else none) else (
κ0 (((), (), ()), ((i184, (i185, (i186, ()))), (i187, (i188, (i189, ()))), ())))
def l_60_3 {R : Type} (N : Nat) : Nat → ((Unit × Unit × (List (Int × (Int × ((Int × (Int × Unit)) × ((Int × (Int × Unit)) × ((Int × (Int × Unit)) × Unit)))))) × Int × Int × Unit) × ((Int × (Int × (Int × Unit))) × (Int × (Int × (Int × Unit))) × Unit)) → (((Unit × Unit × Unit) × ((Int × (Int × (Int × Unit))) × (Int × (Int × (Int × Unit))) × Unit)) → Option R) → Option R
  | 0, _, _ => none
  | n + 1, x, κ0 => B_60_3 N (fun y => l_60_3 N n y κ0) x κ0
def ap_60 : List Pat := [.ros (.stru (.fcons (.int .i64) (.fcons (.int .i64) (.fcons (.stru (.fcons (.int .i64) (.fcons (.int .i64) (.fnil)))) (.fcons (.stru (.fcons (.int .i64) (.fcons (.int .i64) (.fnil)))) (.fcons (.stru (.fcons (.int .i64) (.fcons (.int .i64) (.fnil)))) (.fnil)))))))]
def hp_60 : List (Option (Pat × Nat)) := []
def p_60 {R : Type} (N : Nat) (x : ((List (Int × (Int × ((Int × (Int × Unit)) × ((Int × (Int × Unit)) × ((Int × (Int × Unit)) × Unit)))))) × Unit) × (Unit)) (κ0 : ((Int × (Int × (Int × Unit))) × (Unit)) → Option R) : Option R :=
let l179 : (List (Int × (Int × ((Int × (Int × Unit)) × ((Int × (Int × Unit)) × ((Int × (Int × Unit)) × Unit)))))) := x.1.1
let i180 : Int := (((List.length l179) : Nat) : Int)
l_60_3 N N (((), (), l179, i180, 0, ()), ((0, (0, (0, ()))), (0, (0, (0, ()))), ())) (fun y198 =>
let i199 : Int := y198.2.1.1
let i200 : Int := y198.2.1.2.1
let i201 : Int := y198.2.1.2.2.1
let i202 : Int := y198.2.2.1.1
let i203 : Int := y198.2.2.1.2.1
let i204 : Int := y198.2.2.1.2.2.1
κ0 ((i202, (i203, (i204, ()))), ()))

def Q_60 {R : Type} (m_60_3 : ((Unit × Unit × (List (Int × (Int × ((Int × (Int × Unit)) × ((Int × (Int × Unit)) × ((Int × (Int × Unit)) × Unit)))))) × Int × Int × Unit) × ((Int × (Int × (Int × Unit))) × (Int × (Int × (Int × Unit))) × Unit)) → (((Unit × Unit × Unit) × ((Int × (Int × (Int × Unit))) × (Int × (Int × (Int × Unit))) × Unit)) → Option R) → Option R) (x : ((List (Int × (Int × ((Int × (Int × Unit)) × ((Int × (Int × Unit)) × ((Int × (Int × Unit)) × Unit)))))) × Unit) × (Unit)) (κ0 : ((Int × (Int × (Int × Unit))) × (Unit)) → Option R) : Option R :=
let l179 : (List (Int × (Int × ((Int × (Int × Unit)) × ((Int × (Int × Unit)) × ((Int × (Int × Unit)) × Unit)))))) := x.1.1
let i180 : Int := (((List.length l179) : Nat) : Int)
m_60_3 (((), (), l179, i180, 0, ()), ((0, (0, (0, ()))), (0, (0, (0, ()))), ())) (fun y198 =>
let i199 : Int := y198.2.1.1
let i200 : Int := y198.2.1.2.1
let i201 : Int := y198.2.1.2.2.1
let i202 : Int := y198.2.2.1.1
let i203 : Int := y198.2.2.1.2.1
let i204 : Int := y198.2.2.1.2.2.1
κ0 ((i202, (i203, (i204, ()))), ()))
def C_60_3 {R : Type} (m_60_3 : ((Unit × Unit × (List (Int × (Int × ((Int × (Int × Unit)) × ((Int × (Int × Unit)) × ((Int × (Int × Unit)) × Unit)))))) × Int × Int × Unit) × ((Int × (Int × (Int × Unit))) × (Int × (Int × (Int × Unit))) × Unit)) → (((Unit × Unit × Unit) × ((Int × (Int × (Int × Unit))) × (Int × (Int × (Int × Unit))) × Unit)) → Option R) → Option R) (rec : ((Unit × Unit × (List (Int × (Int × ((Int × (Int × Unit)) × ((Int × (Int × Unit)) × ((Int × (Int × Unit)) × Unit)))))) × Int × Int × Unit) × ((Int × (Int × (Int × Unit))) × (Int × (Int × (Int × Unit))) × Unit)) → Option R) (x : ((Unit × Unit × (List (Int × (Int × ((Int × (Int × Unit)) × ((Int × (Int × Unit)) × ((Int × (Int × Unit)) × Unit)))))) × Int × Int × Unit) × ((Int × (Int × (Int × Unit))) × (Int × (Int × (Int × Unit))) × Unit))) (κ0 : ((Unit × Unit × Unit) × ((Int × (Int × (Int × Unit))) × (Int × (Int × (Int × Unit))) × Unit)) → Option R) : Option R :=
let l181 : (List (Int × (Int × ((Int × (Int × Unit)) × ((Int × (Int × Unit)) × ((Int × (Int × Unit)) × Unit)))))) := x.1.2.2.1
let i182 : Int := x.1.2.2.2.1
let i183 : Int := x.1.2.2.2.2.1
let i184 : Int := x.2.1.1
let i185 : Int := x.2.1.2.1
let i186 : Int := x.2.1.2.2.1
let i187 : Int := x.2.2.1.1
let i188 : Int := x.2.2.1.2.1
let i189 : Int := x.2.2.1.2.2.1
bif (decide (i183 < i182)) then (
bif decide (0 ≤ i183) then (
bif decide (i183 < ((List.length l181) : Int)) then (
let p190 : (Int × (Int × ((Int × (Int × Unit)) × ((Int × (Int × Unit)) × ((Int × (Int × Unit)) × Unit))))) := (List.getD l181 ((Int.toNat i183)) (Sch.zero (.stru (.fcons (.int .i64) (.fcons (.int .i64) (.fcons (.stru (.fcons (.int .i64) (.fcons (.int .i64) (.fnil)))) (.fcons (.stru (.fcons (.int .i64) (.fcons (.int .i64) (.fnil)))) (.fcons (.stru (.fcons (.int .i64) (.fcons (.int .i64) (.fnil)))) (.fnil)))))))))
bif (p190.1 == 1) then (
let i191 : Int := addA .i64 i187 1
let i192 : Int := addA .i64 i183 1
rec (((), (), l181, i182, i192, ()), ((i184, (i185, (i186, ()))), (i191, (i188, (i189, ()))), ()))) else (
bif (p190.1 == 2) then (
let i193 : Int := addA .i64 i188 1
let i194 : Int := addA .i64 i183 1
rec (((), (), l181, i182, i194, ()), ((i184, (i185, (i186, ()))), (i187, (i193, (i189, ()))), ()))) else (
bif (p190.1 == 3) then (
let i195 : Int := addA .i64 i189 1
let i196 : Int := addA .i64 i183 1
rec (((), (), l181, i182, i196, ()), ((i184, (i185, (i186, ()))), (i187, (i188, (i195, ()))), ()))) else (
let i197 : Int := addA .i64 i183 1
rec (((), (), l181, i182, i197, ()), ((i184, (i185, (i186, ()))), (i187, (i188, (i189, ()))), ())))))) else none) else none) else (
κ0 (((), (), ()), ((i184, (i185, (i186, ()))), (i187, (i188, (i189, ()))), ())))
def EG_60 {R : Type} : Env R := Env.base QQ LN
def LG_60 {R : Type} (m_60_3 : ((Unit × Unit × (List (Int × (Int × ((Int × (Int × Unit)) × ((Int × (Int × Unit)) × ((Int × (Int × Unit)) × Unit)))))) × Int × Int × Unit) × ((Int × (Int × (Int × Unit))) × (Int × (Int × (Int × Unit))) × Unit)) → (((Unit × Unit × Unit) × ((Int × (Int × (Int × Unit))) × (Int × (Int × (Int × Unit))) × Unit)) → Option R) → Option R) : Loops R := (Loops.none).add 3 (loopBy 0 lv_60_3 pt_60_3 (fun x k => m_60_3 x (fun y => k (.exit 0) (px_60_3_0.inst y))))
def E_60 {R : Type} (N : Nat) : Env R := EG_60
theorem eok_60 {R : Type} (N : Nat) : EK Try.prog (E_60 (R := R) N) := ek_base _ _
def L_60 {R : Type} (N : Nat) : Loops R := LG_60 (l_60_3 N N)
theorem gstep_60_3 {R : Type} (m_60_3 : ((Unit × Unit × (List (Int × (Int × ((Int × (Int × Unit)) × ((Int × (Int × Unit)) × ((Int × (Int × Unit)) × Unit)))))) × Int × Int × Unit) × ((Int × (Int × (Int × Unit))) × (Int × (Int × (Int × Unit))) × Unit)) → (((Unit × Unit × Unit) × ((Int × (Int × (Int × Unit))) × (Int × (Int × (Int × Unit))) × Unit)) → Option R) → Option R) (n : Nat) (x : pt_60_3.den) (k : Exit → St → Option R) : iter 0 lv_60_3 lo_60_3 (aexec TT (EG_60) (drawOk TT QQ) (LG_60 m_60_3) (loopAt 3 (bodyOf Try.f60))) (n + 1) (pt_60_3.inst x) k = C_60_3 m_60_3 (fun y => iter 0 lv_60_3 lo_60_3 (aexec TT (EG_60) (drawOk TT QQ) (LG_60 m_60_3) (loopAt 3 (bodyOf Try.f60))) n (pt_60_3.inst y) k) x (fun y => k (.exit 0) (px_60_3_0.inst y)) := by kernel_rfl
theorem step_60_3 {R : Type} (N n : Nat) (x : pt_60_3.den) (k : Exit → St → Option R) : iter 0 lv_60_3 lo_60_3 (aexec TT (E_60 (R := R) N) (drawOk TT QQ) (L_60 N) (loopAt 3 (bodyOf Try.f60))) (n + 1) (pt_60_3.inst x) k = B_60_3 N (fun y => iter 0 lv_60_3 lo_60_3 (aexec TT (E_60 (R := R) N) (drawOk TT QQ) (L_60 N) (loopAt 3 (bodyOf Try.f60))) n (pt_60_3.inst y) k) x (fun y => k (.exit 0) (px_60_3_0.inst y)) := (gstep_60_3 (l_60_3 N N) n x k).trans (by kernel_rfl)
theorem eq_60_3 {R : Type} (N : Nat) : ∀ (n : Nat) (x : pt_60_3.den) (k : Exit → St → Option R), iter 0 lv_60_3 lo_60_3 (aexec TT (E_60 (R := R) N) (drawOk TT QQ) (L_60 N) (loopAt 3 (bodyOf Try.f60))) n (pt_60_3.inst x) k = l_60_3 N n x (fun y => k (.exit 0) (px_60_3_0.inst y)) :=
  iter_eq (K := Exit → St → Option R) (ks := fun k => k) (l := fun n (x : pt_60_3.den) k => l_60_3 N n x (fun y => k (.exit 0) (px_60_3_0.inst y))) (B := fun (rec : pt_60_3.den → Option R) (x : pt_60_3.den) k => B_60_3 N rec x (fun y => k (.exit 0) (px_60_3_0.inst y))) (fun _ _ => rfl) (fun _ _ _ => rfl) (fun n x k => step_60_3 N n x k)
theorem rounds_60_3 {R : Type} (N : Nat) : Rounds 0 TT (E_60 (R := R) N) (drawOk TT QQ) (L_60 N) 3 (loopAt 3 (bodyOf Try.f60)) :=
  rounds_of (p := pt_60_3) (l := fun (x : pt_60_3.den) k => l_60_3 N N x (fun y => k (.exit 0) (px_60_3_0.inst y))) (fun s k => rfl) (fun x k => eq_60_3 N N x k)
theorem loops_60 : loopsIn (bodyOf Try.f60) = [(3, loopAt 3 (bodyOf Try.f60))] := by kernel_rfl
theorem lok_60 {R : Type} (N : Nat) : LOK 0 TT (E_60 (R := R) N) (drawOk TT QQ) (L_60 N) (bodyOf Try.f60) := loops_all loops_60 (by
  simp only [List.forall_mem_cons, List.not_mem_nil, false_implies, implies_true, and_true]
  exact rounds_60_3 N)
theorem grun_60 {R : Type} (m_60_3 : ((Unit × Unit × (List (Int × (Int × ((Int × (Int × Unit)) × ((Int × (Int × Unit)) × ((Int × (Int × Unit)) × Unit)))))) × Int × Int × Unit) × ((Int × (Int × (Int × Unit))) × (Int × (Int × (Int × Unit))) × Unit)) → (((Unit × Unit × Unit) × ((Int × (Int × (Int × Unit))) × (Int × (Int × (Int × Unit))) × Unit)) → Option R) → Option R) (x : aden ap_60 × hden hp_60) (k : KF R) : fnrun TT (EG_60) (drawOk TT QQ) (LG_60 m_60_3) true Try.f60 (instA ap_60 x.1) (instH hp_60 x.2) k = Q_60 m_60_3 x (fun y => k (Pat.inst (.node (.fcons (.int .i64) (.fcons (.int .i64) (.fcons (.int .i64) (.fnil))))) y.1) (instH [] y.2)) := by kernel_rfl
theorem run_60 {R : Type} (N : Nat) (x : aden ap_60 × hden hp_60) (k : KF R) : fnrun TT (E_60 (R := R) N) (drawOk TT QQ) (L_60 N) true Try.f60 (instA ap_60 x.1) (instH hp_60 x.2) k = p_60 N x (fun y => k (Pat.inst (.node (.fcons (.int .i64) (.fcons (.int .i64) (.fcons (.int .i64) (.fnil))))) y.1) (instH [] y.2)) := (grun_60 (l_60_3 N N) x k).trans (by kernel_rfl)
theorem good_60 {R : Type} (N : Nat) : GD (X := R) Try.prog QQ 60 ap_60 hp_60 (fun (x : aden ap_60 × hden hp_60) k => p_60 N x (fun y => k (Pat.inst (.node (.fcons (.int .i64) (.fcons (.int .i64) (.fcons (.int .i64) (.fnil))))) y.1) (instH [] y.2))) :=
  gd_loud (E := E_60 N) (p := fun (x : aden ap_60 × hden hp_60) k => p_60 N x (fun y => k (Pat.inst (.node (.fcons (.int .i64) (.fcons (.int .i64) (.fcons (.int .i64) (.fnil))))) y.1) (instH [] y.2))) mixed tyok (eok_60 N) Try.func60 (by kernel_rfl) (by kernel_rfl) (by kernel_rfl) (lok_60 N) (fun x k => run_60 N x k)

def ap_62 : List Pat := [.node (.fcons (.int .i64) (.fcons (.int .i64) (.fcons (.int .i64) (.fnil)))), .node (.fcons (.int .i64) (.fcons (.int .i64) (.fcons (.int .i64) (.fnil))))]
def hp_62 : List (Option (Pat × Nat)) := []
def p_62 {R : Type} (N : Nat) (x : ((Int × (Int × (Int × Unit))) × (Int × (Int × (Int × Unit))) × Unit) × (Unit)) (κ0 : (((Int × (Int × (Int × Unit))) × (Bool × Unit)) × (Unit)) → Option R) : Option R :=
let i260 : Int := x.1.1.1
let i261 : Int := x.1.1.2.1
let i262 : Int := x.1.1.2.2.1
let i263 : Int := x.1.2.1.1
let i264 : Int := x.1.2.1.2.1
let i265 : Int := x.1.2.1.2.2.1
let i266 : Int := subA .i64 i260 i263
let i267 : Int := subA .i64 i261 i264
let i268 : Int := subA .i64 i262 i265
bif (decide (i266 < 0)) then (
κ0 (((0, (0, (0, ()))), (false, ())), ())) else (
bif (decide (i267 < 0)) then (
κ0 (((0, (0, (0, ()))), (false, ())), ())) else (
bif (decide (i268 < 0)) then (
κ0 (((0, (0, (0, ()))), (false, ())), ())) else (
κ0 (((i266, (i267, (i268, ()))), (true, ())), ()))))

def Q_62 {R : Type} (x : ((Int × (Int × (Int × Unit))) × (Int × (Int × (Int × Unit))) × Unit) × (Unit)) (κ0 : (((Int × (Int × (Int × Unit))) × (Bool × Unit)) × (Unit)) → Option R) : Option R :=
let i260 : Int := x.1.1.1
let i261 : Int := x.1.1.2.1
let i262 : Int := x.1.1.2.2.1
let i263 : Int := x.1.2.1.1
let i264 : Int := x.1.2.1.2.1
let i265 : Int := x.1.2.1.2.2.1
let i266 : Int := subA .i64 i260 i263
let i267 : Int := subA .i64 i261 i264
let i268 : Int := subA .i64 i262 i265
bif (decide (i266 < 0)) then (
κ0 (((0, (0, (0, ()))), (false, ())), ())) else (
bif (decide (i267 < 0)) then (
κ0 (((0, (0, (0, ()))), (false, ())), ())) else (
bif (decide (i268 < 0)) then (
κ0 (((0, (0, (0, ()))), (false, ())), ())) else (
κ0 (((i266, (i267, (i268, ()))), (true, ())), ()))))
def EG_62 {R : Type} : Env R := Env.base QQ LN
def LG_62 {R : Type} : Loops R := Loops.none
def E_62 {R : Type} (N : Nat) : Env R := EG_62
theorem eok_62 {R : Type} (N : Nat) : EK Try.prog (E_62 (R := R) N) := ek_base _ _
def L_62 {R : Type} (N : Nat) : Loops R := LG_62
theorem lok_62 {R : Type} (N : Nat) : LOK 0 TT (E_62 (R := R) N) (drawOk TT QQ) (L_62 N) (bodyOf Try.f62) := loops_nil (by kernel_rfl)
theorem grun_62 {R : Type} (x : aden ap_62 × hden hp_62) (k : KF R) : fnrun TT (EG_62) (drawOk TT QQ) (LG_62) true Try.f62 (instA ap_62 x.1) (instH hp_62 x.2) k = Q_62 x (fun y => k (Pat.inst (.tup (.fcons (.node (.fcons (.int .i64) (.fcons (.int .i64) (.fcons (.int .i64) (.fnil))))) (.fcons (.bool) (.fnil)))) y.1) (instH [] y.2)) := by kernel_rfl
theorem run_62 {R : Type} (N : Nat) (x : aden ap_62 × hden hp_62) (k : KF R) : fnrun TT (E_62 (R := R) N) (drawOk TT QQ) (L_62 N) true Try.f62 (instA ap_62 x.1) (instH hp_62 x.2) k = p_62 N x (fun y => k (Pat.inst (.tup (.fcons (.node (.fcons (.int .i64) (.fcons (.int .i64) (.fcons (.int .i64) (.fnil))))) (.fcons (.bool) (.fnil)))) y.1) (instH [] y.2)) := (grun_62 x k).trans (by kernel_rfl)
theorem good_62 {R : Type} (N : Nat) : GD (X := R) Try.prog QQ 62 ap_62 hp_62 (fun (x : aden ap_62 × hden hp_62) k => p_62 N x (fun y => k (Pat.inst (.tup (.fcons (.node (.fcons (.int .i64) (.fcons (.int .i64) (.fcons (.int .i64) (.fnil))))) (.fcons (.bool) (.fnil)))) y.1) (instH [] y.2))) :=
  gd_loud (E := E_62 N) (p := fun (x : aden ap_62 × hden hp_62) k => p_62 N x (fun y => k (Pat.inst (.tup (.fcons (.node (.fcons (.int .i64) (.fcons (.int .i64) (.fcons (.int .i64) (.fnil))))) (.fcons (.bool) (.fnil)))) y.1) (instH [] y.2))) mixed tyok (eok_62 N) Try.func62 (by kernel_rfl) (by kernel_rfl) (by kernel_rfl) (lok_62 N) (fun x k => run_62 N x k)

def lv_13_10 : Live := [(7, none), (9, none), (10, none), (11, none), (45, none), (46, none), (47, none)]
def pt_13_10 : SPat := ⟨[(7, .ptr 0 []), (9, .ptr 1 []), (10, .ptr 2 []), (11, .ptr 3 []), (45, .ros (.int .i64)), (46, .int .i64), (47, .int .i64)], [some (.node (.fcons (.int .i64) (.fcons (.int .i64) (.fcons (.int .i64) (.fcons (.int .i64) (.fcons (.int .i64) (.fcons (.int .i64) (.fcons (.int .i64) (.fcons (.int .i64) (.fnil))))))))), 37), some (.node (.fcons (.int .i64) (.fcons (.int .i64) (.fcons (.int .i64) (.fnil)))), 100), some (.node (.fcons (.int .i64) (.fcons (.int .i64) (.fcons (.int .i64) (.fnil)))), 100), some (.vec (.int .i64) 4, 104)]⟩
def px_13_10_0 : SPat := ⟨[(7, .ptr 0 []), (9, .ptr 1 []), (10, .ptr 2 []), (11, .ptr 3 [])], [some (.node (.fcons (.int .i64) (.fcons (.int .i64) (.fcons (.int .i64) (.fcons (.int .i64) (.fcons (.int .i64) (.fcons (.int .i64) (.fcons (.int .i64) (.fcons (.int .i64) (.fnil))))))))), 37), some (.node (.fcons (.int .i64) (.fcons (.int .i64) (.fcons (.int .i64) (.fnil)))), 100), some (.node (.fcons (.int .i64) (.fcons (.int .i64) (.fcons (.int .i64) (.fnil)))), 100), some (.vec (.int .i64) 4, 104)]⟩
def lo_13_10 : Exit → Live
  | .exit 0 => [(7, none), (9, none), (10, none), (11, none)]
  | _ => []
def B_13_10 {R : Type} (N : Nat) (rec : ((Unit × Unit × Unit × Unit × (List Int) × Int × Int × Unit) × ((Int × (Int × (Int × (Int × (Int × (Int × (Int × (Int × Unit)))))))) × (Int × (Int × (Int × Unit))) × (Int × (Int × (Int × Unit))) × (Nat → Int) × Unit)) → Option R) (x : ((Unit × Unit × Unit × Unit × (List Int) × Int × Int × Unit) × ((Int × (Int × (Int × (Int × (Int × (Int × (Int × (Int × Unit)))))))) × (Int × (Int × (Int × Unit))) × (Int × (Int × (Int × Unit))) × (Nat → Int) × Unit))) (κ0 : ((Unit × Unit × Unit × Unit × Unit) × ((Int × (Int × (Int × (Int × (Int × (Int × (Int × (Int × Unit)))))))) × (Int × (Int × (Int × Unit))) × (Int × (Int × (Int × Unit))) × (Nat → Int) × Unit)) → Option R) : Option R :=
let l216 : (List Int) := x.1.2.2.2.2.1
let i217 : Int := x.1.2.2.2.2.2.1
let i218 : Int := x.1.2.2.2.2.2.2.1
let i219 : Int := x.2.1.1
let i220 : Int := x.2.1.2.1
let i221 : Int := x.2.1.2.2.1
let i222 : Int := x.2.1.2.2.2.1
let i223 : Int := x.2.1.2.2.2.2.1
let i224 : Int := x.2.1.2.2.2.2.2.1
let i225 : Int := x.2.1.2.2.2.2.2.2.1
let i226 : Int := x.2.1.2.2.2.2.2.2.2.1
let i227 : Int := x.2.2.1.1
let i228 : Int := x.2.2.1.2.1
let i229 : Int := x.2.2.1.2.2.1
let i230 : Int := x.2.2.2.1.1
let i231 : Int := x.2.2.2.1.2.1
let i232 : Int := x.2.2.2.1.2.2.1
let a233 : (Nat → Int) := x.2.2.2.2.1
bif (decide (i218 < i217)) then (
bif decide (0 ≤ i218) then (
bif decide (i218 < ((List.length l216) : Int)) then (
let p234 : Int := (List.getD l216 ((Int.toNat i218)) (Sch.zero (.int .i64)))
bif (decide (p234 ≥ 1)) then (
bif (decide (p234 ≤ 3)) then (
bif decide (0 ≤ p234) then (
bif decide (p234 < (4 : Int)) then (
let i235 : Int := (a233 ((Int.toNat p234)))
let i236 : Int := addA .i64 i235 1
bif decide (0 ≤ p234) then (
bif decide (p234 < (4 : Int)) then (
let a237 : (Nat → Int) := (upd a233 ((Int.toNat p234)) i236)
let i238 : Int := addA .i64 i218 1
rec (((), (), (), (), l216, i217, i238, ()), ((i219, (i220, (i221, (i222, (i223, (i224, (i225, (i226, ())))))))), (i227, (i228, (i229, ()))), (i230, (i231, (i232, ()))), a237, ()))) else none) else none) else none) else none) else (
let i239 : Int := addA .i64 i218 1
rec (((), (), (), (), l216, i217, i239, ()), ((i219, (i220, (i221, (i222, (i223, (i224, (i225, (i226, ())))))))), (i227, (i228, (i229, ()))), (i230, (i231, (i232, ()))), a233, ())))) else (
let i240 : Int := addA .i64 i218 1
rec (((), (), (), (), l216, i217, i240, ()), ((i219, (i220, (i221, (i222, (i223, (i224, (i225, (i226, ())))))))), (i227, (i228, (i229, ()))), (i230, (i231, (i232, ()))), a233, ())))) else none) else none) else (
κ0 (((), (), (), (), ()), ((i219, (i220, (i221, (i222, (i223, (i224, (i225, (i226, ())))))))), (i227, (i228, (i229, ()))), (i230, (i231, (i232, ()))), a233, ())))
def l_13_10 {R : Type} (N : Nat) : Nat → ((Unit × Unit × Unit × Unit × (List Int) × Int × Int × Unit) × ((Int × (Int × (Int × (Int × (Int × (Int × (Int × (Int × Unit)))))))) × (Int × (Int × (Int × Unit))) × (Int × (Int × (Int × Unit))) × (Nat → Int) × Unit)) → (((Unit × Unit × Unit × Unit × Unit) × ((Int × (Int × (Int × (Int × (Int × (Int × (Int × (Int × Unit)))))))) × (Int × (Int × (Int × Unit))) × (Int × (Int × (Int × Unit))) × (Nat → Int) × Unit)) → Option R) → Option R
  | 0, _, _ => none
  | n + 1, x, κ0 => B_13_10 N (fun y => l_13_10 N n y κ0) x κ0
def ap_13 : List Pat := [.node (.fcons (.int .i64) (.fcons (.int .i64) (.fcons (.int .i64) (.fcons (.int .i64) (.fcons (.int .i64) (.fnil)))))), .ros (.int .i64), .ros (.int .i64)]
def hp_13 : List (Option (Pat × Nat)) := []
def p_13 {R : Type} (N : Nat) (x : ((Int × (Int × (Int × (Int × (Int × Unit))))) × (List Int) × (List Int) × Unit) × (Unit)) (κ0 : (Bool × (Unit)) → Option R) : Option R :=
let i1 : Int := x.1.1.1
let i2 : Int := x.1.1.2.1
let i3 : Int := x.1.1.2.2.1
let i4 : Int := x.1.1.2.2.2.1
let i5 : Int := x.1.1.2.2.2.2.1
let l6 : (List Int) := x.1.2.1
let l7 : (List Int) := x.1.2.2.1
p_59 N ((), ()) (fun y145 =>
let b146 : Bool := y145.1
bif (!b146) then (
κ0 (false, ())) else (
p_26 N (((i1, (i2, (i3, (i4, (i5, ()))))), ()), ()) (fun y147 =>
let i148 : Int := y147.1.1.1
let i149 : Int := y147.1.1.2.1
let i150 : Int := y147.1.1.2.2.1
let i151 : Int := y147.1.1.2.2.2.1
let i152 : Int := y147.1.1.2.2.2.2.1
let i153 : Int := y147.1.1.2.2.2.2.2.1
let i154 : Int := y147.1.1.2.2.2.2.2.2.1
let i155 : Int := y147.1.1.2.2.2.2.2.2.2.1
let i156 : Int := y147.1.2.1
bif (i156 != 0) then (
κ0 (true, ())) else (
let i157 : Int := (((List.length l6) : Nat) : Int)
bif (decide (i157 > 200)) then (
κ0 (true, ())) else (
let i158 : Int := (((List.length l7) : Nat) : Int)
bif (decide (i158 > 200)) then (
κ0 (true, ())) else (
p_61 N ((l6, ()), ()) (fun y177 =>
let l178 : (List (Int × (Int × ((Int × (Int × Unit)) × ((Int × (Int × Unit)) × ((Int × (Int × Unit)) × Unit)))))) := y177.1
p_60 N ((l178, ()), ()) (fun y205 =>
let i206 : Int := y205.1.1
let i207 : Int := y205.1.2.1
let i208 : Int := y205.1.2.2.1
p_61 N ((l7, ()), ()) (fun y209 =>
let l210 : (List (Int × (Int × ((Int × (Int × Unit)) × ((Int × (Int × Unit)) × ((Int × (Int × Unit)) × Unit)))))) := y209.1
p_60 N ((l210, ()), ()) (fun y211 =>
let i212 : Int := y211.1.1
let i213 : Int := y211.1.2.1
let i214 : Int := y211.1.2.2.1
let i215 : Int := (((List.length l6) : Nat) : Int)
l_13_10 N N (((), (), (), (), l6, i215, 0, ()), ((i148, (i149, (i150, (i151, (i152, (i153, (i154, (i155, ())))))))), (i206, (i207, (i208, ()))), (i212, (i213, (i214, ()))), (Sch.zero (.arr 4 (.int .i64))), ())) (fun y241 =>
let i242 : Int := y241.2.1.1
let i243 : Int := y241.2.1.2.1
let i244 : Int := y241.2.1.2.2.1
let i245 : Int := y241.2.1.2.2.2.1
let i246 : Int := y241.2.1.2.2.2.2.1
let i247 : Int := y241.2.1.2.2.2.2.2.1
let i248 : Int := y241.2.1.2.2.2.2.2.2.1
let i249 : Int := y241.2.1.2.2.2.2.2.2.2.1
let i250 : Int := y241.2.2.1.1
let i251 : Int := y241.2.2.1.2.1
let i252 : Int := y241.2.2.1.2.2.1
let i253 : Int := y241.2.2.2.1.1
let i254 : Int := y241.2.2.2.1.2.1
let i255 : Int := y241.2.2.2.1.2.2.1
let a256 : (Nat → Int) := y241.2.2.2.2.1
let i257 : Int := (a256 1)
let i258 : Int := (a256 2)
let i259 : Int := (a256 3)
bif (!(schEq (.stru (.fcons (.int .i64) (.fcons (.int .i64) (.fcons (.int .i64) (.fnil))))) ((i250, (i251, (i252, ())))) ((i257, (i258, (i259, ())))))) then (
κ0 (false, ())) else (
p_62 N (((i250, (i251, (i252, ()))), (i253, (i254, (i255, ()))), ()), ()) (fun y269 =>
let i270 : Int := y269.1.1.1
let i271 : Int := y269.1.1.2.1
let i272 : Int := y269.1.1.2.2.1
let b273 : Bool := y269.1.2.1
bif (decide (i250 ≥ i253)) then (
bif (decide (i251 ≥ i254)) then (
bif (!(b273 == (decide (i252 ≥ i255)))) then (
κ0 (false, ())) else (
bif (!b273) then (
bif (!(schEq (.stru (.fcons (.int .i64) (.fcons (.int .i64) (.fcons (.int .i64) (.fnil))))) ((i270, (i271, (i272, ())))) ((0, (0, (0, ())))))) then (
κ0 (false, ())) else (
bif b273 then (
let i274 : Int := subA .i64 i250 i253
let i275 : Int := subA .i64 i251 i254
let i276 : Int := subA .i64 i252 i255
bif (!(schEq (.stru (.fcons (.int .i64) (.fcons (.int .i64) (.fcons (.int .i64) (.fnil))))) ((i270, (i271, (i272, ())))) ((i274, (i275, (i276, ())))))) then (
κ0 (false, ())) else (
p_63 N (((i242, (i243, (i244, (i245, (i246, (i247, (i248, (i249, ())))))))), ()), ()) (fun y277 =>
let i278 : Int := y277.1.1.1
let i279 : Int := y277.1.1.2.1
let i280 : Int := y277.1.1.2.2.1
let i281 : Int := y277.1.2.1
p_62 N (((i278, (i279, (i280, ()))), (i278, (i279, (i280, ()))), ()), ()) (fun y282 =>
let i283 : Int := y282.1.1.1
let i284 : Int := y282.1.1.2.1
let i285 : Int := y282.1.1.2.2.1
let b286 : Bool := y282.1.2.1
bif (i281 != 0) then (
κ0 (true, ())) else (
bif b286 then (
κ0 ((schEq (.stru (.fcons (.int .i64) (.fcons (.int .i64) (.fcons (.int .i64) (.fnil))))) ((i283, (i284, (i285, ())))) ((0, (0, (0, ()))))), ())) else (
κ0 (false, ()))))))) else (
p_63 N (((i242, (i243, (i244, (i245, (i246, (i247, (i248, (i249, ())))))))), ()), ()) (fun y287 =>
let i288 : Int := y287.1.1.1
let i289 : Int := y287.1.1.2.1
let i290 : Int := y287.1.1.2.2.1
let i291 : Int := y287.1.2.1
p_62 N (((i288, (i289, (i290, ()))), (i288, (i289, (i290, ()))), ()), ()) (fun y292 =>
let i293 : Int := y292.1.1.1
let i294 : Int := y292.1.1.2.1
let i295 : Int := y292.1.1.2.2.1
let b296 : Bool := y292.1.2.1
bif (i291 != 0) then (
κ0 (true, ())) else (
bif b296 then (
κ0 ((schEq (.stru (.fcons (.int .i64) (.fcons (.int .i64) (.fcons (.int .i64) (.fnil))))) ((i293, (i294, (i295, ())))) ((0, (0, (0, ()))))), ())) else (
κ0 (false, ())))))))) else (
bif b273 then (
let i297 : Int := subA .i64 i250 i253
let i298 : Int := subA .i64 i251 i254
let i299 : Int := subA .i64 i252 i255
bif (!(schEq (.stru (.fcons (.int .i64) (.fcons (.int .i64) (.fcons (.int .i64) (.fnil))))) ((i270, (i271, (i272, ())))) ((i297, (i298, (i299, ())))))) then (
κ0 (false, ())) else (
p_63 N (((i242, (i243, (i244, (i245, (i246, (i247, (i248, (i249, ())))))))), ()), ()) (fun y300 =>
let i301 : Int := y300.1.1.1
let i302 : Int := y300.1.1.2.1
let i303 : Int := y300.1.1.2.2.1
let i304 : Int := y300.1.2.1
p_62 N (((i301, (i302, (i303, ()))), (i301, (i302, (i303, ()))), ()), ()) (fun y305 =>
let i306 : Int := y305.1.1.1
let i307 : Int := y305.1.1.2.1
let i308 : Int := y305.1.1.2.2.1
let b309 : Bool := y305.1.2.1
bif (i304 != 0) then (
κ0 (true, ())) else (
bif b309 then (
κ0 ((schEq (.stru (.fcons (.int .i64) (.fcons (.int .i64) (.fcons (.int .i64) (.fnil))))) ((i306, (i307, (i308, ())))) ((0, (0, (0, ()))))), ())) else (
κ0 (false, ()))))))) else (
p_63 N (((i242, (i243, (i244, (i245, (i246, (i247, (i248, (i249, ())))))))), ()), ()) (fun y310 =>
let i311 : Int := y310.1.1.1
let i312 : Int := y310.1.1.2.1
let i313 : Int := y310.1.1.2.2.1
let i314 : Int := y310.1.2.1
p_62 N (((i311, (i312, (i313, ()))), (i311, (i312, (i313, ()))), ()), ()) (fun y315 =>
let i316 : Int := y315.1.1.1
let i317 : Int := y315.1.1.2.1
let i318 : Int := y315.1.1.2.2.1
let b319 : Bool := y315.1.2.1
bif (i314 != 0) then (
κ0 (true, ())) else (
bif b319 then (
κ0 ((schEq (.stru (.fcons (.int .i64) (.fcons (.int .i64) (.fcons (.int .i64) (.fnil))))) ((i316, (i317, (i318, ())))) ((0, (0, (0, ()))))), ())) else (
κ0 (false, ()))))))))) else (
bif (!(b273 == false)) then (
κ0 (false, ())) else (
bif (!b273) then (
bif (!(schEq (.stru (.fcons (.int .i64) (.fcons (.int .i64) (.fcons (.int .i64) (.fnil))))) ((i270, (i271, (i272, ())))) ((0, (0, (0, ())))))) then (
κ0 (false, ())) else (
bif b273 then (
let i320 : Int := subA .i64 i250 i253
let i321 : Int := subA .i64 i251 i254
let i322 : Int := subA .i64 i252 i255
bif (!(schEq (.stru (.fcons (.int .i64) (.fcons (.int .i64) (.fcons (.int .i64) (.fnil))))) ((i270, (i271, (i272, ())))) ((i320, (i321, (i322, ())))))) then (
κ0 (false, ())) else (
p_63 N (((i242, (i243, (i244, (i245, (i246, (i247, (i248, (i249, ())))))))), ()), ()) (fun y323 =>
let i324 : Int := y323.1.1.1
let i325 : Int := y323.1.1.2.1
let i326 : Int := y323.1.1.2.2.1
let i327 : Int := y323.1.2.1
p_62 N (((i324, (i325, (i326, ()))), (i324, (i325, (i326, ()))), ()), ()) (fun y328 =>
let i329 : Int := y328.1.1.1
let i330 : Int := y328.1.1.2.1
let i331 : Int := y328.1.1.2.2.1
let b332 : Bool := y328.1.2.1
bif (i327 != 0) then (
κ0 (true, ())) else (
bif b332 then (
κ0 ((schEq (.stru (.fcons (.int .i64) (.fcons (.int .i64) (.fcons (.int .i64) (.fnil))))) ((i329, (i330, (i331, ())))) ((0, (0, (0, ()))))), ())) else (
κ0 (false, ()))))))) else (
p_63 N (((i242, (i243, (i244, (i245, (i246, (i247, (i248, (i249, ())))))))), ()), ()) (fun y333 =>
let i334 : Int := y333.1.1.1
let i335 : Int := y333.1.1.2.1
let i336 : Int := y333.1.1.2.2.1
let i337 : Int := y333.1.2.1
p_62 N (((i334, (i335, (i336, ()))), (i334, (i335, (i336, ()))), ()), ()) (fun y338 =>
let i339 : Int := y338.1.1.1
let i340 : Int := y338.1.1.2.1
let i341 : Int := y338.1.1.2.2.1
let b342 : Bool := y338.1.2.1
bif (i337 != 0) then (
κ0 (true, ())) else (
bif b342 then (
κ0 ((schEq (.stru (.fcons (.int .i64) (.fcons (.int .i64) (.fcons (.int .i64) (.fnil))))) ((i339, (i340, (i341, ())))) ((0, (0, (0, ()))))), ())) else (
κ0 (false, ())))))))) else (
bif b273 then (
let i343 : Int := subA .i64 i250 i253
let i344 : Int := subA .i64 i251 i254
let i345 : Int := subA .i64 i252 i255
bif (!(schEq (.stru (.fcons (.int .i64) (.fcons (.int .i64) (.fcons (.int .i64) (.fnil))))) ((i270, (i271, (i272, ())))) ((i343, (i344, (i345, ())))))) then (
κ0 (false, ())) else (
p_63 N (((i242, (i243, (i244, (i245, (i246, (i247, (i248, (i249, ())))))))), ()), ()) (fun y346 =>
let i347 : Int := y346.1.1.1
let i348 : Int := y346.1.1.2.1
let i349 : Int := y346.1.1.2.2.1
let i350 : Int := y346.1.2.1
p_62 N (((i347, (i348, (i349, ()))), (i347, (i348, (i349, ()))), ()), ()) (fun y351 =>
let i352 : Int := y351.1.1.1
let i353 : Int := y351.1.1.2.1
let i354 : Int := y351.1.1.2.2.1
let b355 : Bool := y351.1.2.1
bif (i350 != 0) then (
κ0 (true, ())) else (
bif b355 then (
κ0 ((schEq (.stru (.fcons (.int .i64) (.fcons (.int .i64) (.fcons (.int .i64) (.fnil))))) ((i352, (i353, (i354, ())))) ((0, (0, (0, ()))))), ())) else (
κ0 (false, ()))))))) else (
p_63 N (((i242, (i243, (i244, (i245, (i246, (i247, (i248, (i249, ())))))))), ()), ()) (fun y356 =>
let i357 : Int := y356.1.1.1
let i358 : Int := y356.1.1.2.1
let i359 : Int := y356.1.1.2.2.1
let i360 : Int := y356.1.2.1
p_62 N (((i357, (i358, (i359, ()))), (i357, (i358, (i359, ()))), ()), ()) (fun y361 =>
let i362 : Int := y361.1.1.1
let i363 : Int := y361.1.1.2.1
let i364 : Int := y361.1.1.2.2.1
let b365 : Bool := y361.1.2.1
bif (i360 != 0) then (
κ0 (true, ())) else (
bif b365 then (
κ0 ((schEq (.stru (.fcons (.int .i64) (.fcons (.int .i64) (.fcons (.int .i64) (.fnil))))) ((i362, (i363, (i364, ())))) ((0, (0, (0, ()))))), ())) else (
κ0 (false, ())))))))))) else (
bif (!(b273 == false)) then (
κ0 (false, ())) else (
bif (!b273) then (
bif (!(schEq (.stru (.fcons (.int .i64) (.fcons (.int .i64) (.fcons (.int .i64) (.fnil))))) ((i270, (i271, (i272, ())))) ((0, (0, (0, ())))))) then (
κ0 (false, ())) else (
bif b273 then (
let i366 : Int := subA .i64 i250 i253
let i367 : Int := subA .i64 i251 i254
let i368 : Int := subA .i64 i252 i255
bif (!(schEq (.stru (.fcons (.int .i64) (.fcons (.int .i64) (.fcons (.int .i64) (.fnil))))) ((i270, (i271, (i272, ())))) ((i366, (i367, (i368, ())))))) then (
κ0 (false, ())) else (
p_63 N (((i242, (i243, (i244, (i245, (i246, (i247, (i248, (i249, ())))))))), ()), ()) (fun y369 =>
let i370 : Int := y369.1.1.1
let i371 : Int := y369.1.1.2.1
let i372 : Int := y369.1.1.2.2.1
let i373 : Int := y369.1.2.1
p_62 N (((i370, (i371, (i372, ()))), (i370, (i371, (i372, ()))), ()), ()) (fun y374 =>
let i375 : Int := y374.1.1.1
let i376 : Int := y374.1.1.2.1
let i377 : Int := y374.1.1.2.2.1
let b378 : Bool := y374.1.2.1
bif (i373 != 0) then (
κ0 (true, ())) else (
bif b378 then (
κ0 ((schEq (.stru (.fcons (.int .i64) (.fcons (.int .i64) (.fcons (.int .i64) (.fnil))))) ((i375, (i376, (i377, ())))) ((0, (0, (0, ()))))), ())) else (
κ0 (false, ()))))))) else (
p_63 N (((i242, (i243, (i244, (i245, (i246, (i247, (i248, (i249, ())))))))), ()), ()) (fun y379 =>
let i380 : Int := y379.1.1.1
let i381 : Int := y379.1.1.2.1
let i382 : Int := y379.1.1.2.2.1
let i383 : Int := y379.1.2.1
p_62 N (((i380, (i381, (i382, ()))), (i380, (i381, (i382, ()))), ()), ()) (fun y384 =>
let i385 : Int := y384.1.1.1
let i386 : Int := y384.1.1.2.1
let i387 : Int := y384.1.1.2.2.1
let b388 : Bool := y384.1.2.1
bif (i383 != 0) then (
κ0 (true, ())) else (
bif b388 then (
κ0 ((schEq (.stru (.fcons (.int .i64) (.fcons (.int .i64) (.fcons (.int .i64) (.fnil))))) ((i385, (i386, (i387, ())))) ((0, (0, (0, ()))))), ())) else (
κ0 (false, ())))))))) else (
bif b273 then (
let i389 : Int := subA .i64 i250 i253
let i390 : Int := subA .i64 i251 i254
let i391 : Int := subA .i64 i252 i255
bif (!(schEq (.stru (.fcons (.int .i64) (.fcons (.int .i64) (.fcons (.int .i64) (.fnil))))) ((i270, (i271, (i272, ())))) ((i389, (i390, (i391, ())))))) then (
κ0 (false, ())) else (
p_63 N (((i242, (i243, (i244, (i245, (i246, (i247, (i248, (i249, ())))))))), ()), ()) (fun y392 =>
let i393 : Int := y392.1.1.1
let i394 : Int := y392.1.1.2.1
let i395 : Int := y392.1.1.2.2.1
let i396 : Int := y392.1.2.1
p_62 N (((i393, (i394, (i395, ()))), (i393, (i394, (i395, ()))), ()), ()) (fun y397 =>
let i398 : Int := y397.1.1.1
let i399 : Int := y397.1.1.2.1
let i400 : Int := y397.1.1.2.2.1
let b401 : Bool := y397.1.2.1
bif (i396 != 0) then (
κ0 (true, ())) else (
bif b401 then (
κ0 ((schEq (.stru (.fcons (.int .i64) (.fcons (.int .i64) (.fcons (.int .i64) (.fnil))))) ((i398, (i399, (i400, ())))) ((0, (0, (0, ()))))), ())) else (
κ0 (false, ()))))))) else (
p_63 N (((i242, (i243, (i244, (i245, (i246, (i247, (i248, (i249, ())))))))), ()), ()) (fun y402 =>
let i403 : Int := y402.1.1.1
let i404 : Int := y402.1.1.2.1
let i405 : Int := y402.1.1.2.2.1
let i406 : Int := y402.1.2.1
p_62 N (((i403, (i404, (i405, ()))), (i403, (i404, (i405, ()))), ()), ()) (fun y407 =>
let i408 : Int := y407.1.1.1
let i409 : Int := y407.1.1.2.1
let i410 : Int := y407.1.1.2.2.1
let b411 : Bool := y407.1.2.1
bif (i406 != 0) then (
κ0 (true, ())) else (
bif b411 then (
κ0 ((schEq (.stru (.fcons (.int .i64) (.fcons (.int .i64) (.fcons (.int .i64) (.fnil))))) ((i408, (i409, (i410, ())))) ((0, (0, (0, ()))))), ())) else (
κ0 (false, ()))))))))))))))))))))))

def Q_13 {R : Type} (q_59 : (Unit) × (Unit) → ((Bool × (Unit)) → Option R) → Option R) (q_26 : ((Int × (Int × (Int × (Int × (Int × Unit))))) × Unit) × (Unit) → ((((Int × (Int × (Int × (Int × (Int × (Int × (Int × (Int × Unit)))))))) × (Int × Unit)) × (Unit)) → Option R) → Option R) (q_61 : ((List Int) × Unit) × (Unit) → (((List (Int × (Int × ((Int × (Int × Unit)) × ((Int × (Int × Unit)) × ((Int × (Int × Unit)) × Unit)))))) × (Unit)) → Option R) → Option R) (q_60 : ((List (Int × (Int × ((Int × (Int × Unit)) × ((Int × (Int × Unit)) × ((Int × (Int × Unit)) × Unit)))))) × Unit) × (Unit) → (((Int × (Int × (Int × Unit))) × (Unit)) → Option R) → Option R) (q_62 : ((Int × (Int × (Int × Unit))) × (Int × (Int × (Int × Unit))) × Unit) × (Unit) → ((((Int × (Int × (Int × Unit))) × (Bool × Unit)) × (Unit)) → Option R) → Option R) (q_63 : ((Int × (Int × (Int × (Int × (Int × (Int × (Int × (Int × Unit)))))))) × Unit) × (Unit) → ((((Int × (Int × (Int × Unit))) × (Int × Unit)) × (Unit)) → Option R) → Option R) (m_13_10 : ((Unit × Unit × Unit × Unit × (List Int) × Int × Int × Unit) × ((Int × (Int × (Int × (Int × (Int × (Int × (Int × (Int × Unit)))))))) × (Int × (Int × (Int × Unit))) × (Int × (Int × (Int × Unit))) × (Nat → Int) × Unit)) → (((Unit × Unit × Unit × Unit × Unit) × ((Int × (Int × (Int × (Int × (Int × (Int × (Int × (Int × Unit)))))))) × (Int × (Int × (Int × Unit))) × (Int × (Int × (Int × Unit))) × (Nat → Int) × Unit)) → Option R) → Option R) (x : ((Int × (Int × (Int × (Int × (Int × Unit))))) × (List Int) × (List Int) × Unit) × (Unit)) (κ0 : (Bool × (Unit)) → Option R) : Option R :=
let i1 : Int := x.1.1.1
let i2 : Int := x.1.1.2.1
let i3 : Int := x.1.1.2.2.1
let i4 : Int := x.1.1.2.2.2.1
let i5 : Int := x.1.1.2.2.2.2.1
let l6 : (List Int) := x.1.2.1
let l7 : (List Int) := x.1.2.2.1
q_59 ((), ()) (fun y145 =>
let b146 : Bool := y145.1
bif (!b146) then (
κ0 (false, ())) else (
q_26 (((i1, (i2, (i3, (i4, (i5, ()))))), ()), ()) (fun y147 =>
let i148 : Int := y147.1.1.1
let i149 : Int := y147.1.1.2.1
let i150 : Int := y147.1.1.2.2.1
let i151 : Int := y147.1.1.2.2.2.1
let i152 : Int := y147.1.1.2.2.2.2.1
let i153 : Int := y147.1.1.2.2.2.2.2.1
let i154 : Int := y147.1.1.2.2.2.2.2.2.1
let i155 : Int := y147.1.1.2.2.2.2.2.2.2.1
let i156 : Int := y147.1.2.1
bif (i156 != 0) then (
κ0 (true, ())) else (
let i157 : Int := (((List.length l6) : Nat) : Int)
bif (decide (i157 > 200)) then (
κ0 (true, ())) else (
let i158 : Int := (((List.length l7) : Nat) : Int)
bif (decide (i158 > 200)) then (
κ0 (true, ())) else (
q_61 ((l6, ()), ()) (fun y177 =>
let l178 : (List (Int × (Int × ((Int × (Int × Unit)) × ((Int × (Int × Unit)) × ((Int × (Int × Unit)) × Unit)))))) := y177.1
q_60 ((l178, ()), ()) (fun y205 =>
let i206 : Int := y205.1.1
let i207 : Int := y205.1.2.1
let i208 : Int := y205.1.2.2.1
q_61 ((l7, ()), ()) (fun y209 =>
let l210 : (List (Int × (Int × ((Int × (Int × Unit)) × ((Int × (Int × Unit)) × ((Int × (Int × Unit)) × Unit)))))) := y209.1
q_60 ((l210, ()), ()) (fun y211 =>
let i212 : Int := y211.1.1
let i213 : Int := y211.1.2.1
let i214 : Int := y211.1.2.2.1
let i215 : Int := (((List.length l6) : Nat) : Int)
m_13_10 (((), (), (), (), l6, i215, 0, ()), ((i148, (i149, (i150, (i151, (i152, (i153, (i154, (i155, ())))))))), (i206, (i207, (i208, ()))), (i212, (i213, (i214, ()))), (Sch.zero (.arr 4 (.int .i64))), ())) (fun y241 =>
let i242 : Int := y241.2.1.1
let i243 : Int := y241.2.1.2.1
let i244 : Int := y241.2.1.2.2.1
let i245 : Int := y241.2.1.2.2.2.1
let i246 : Int := y241.2.1.2.2.2.2.1
let i247 : Int := y241.2.1.2.2.2.2.2.1
let i248 : Int := y241.2.1.2.2.2.2.2.2.1
let i249 : Int := y241.2.1.2.2.2.2.2.2.2.1
let i250 : Int := y241.2.2.1.1
let i251 : Int := y241.2.2.1.2.1
let i252 : Int := y241.2.2.1.2.2.1
let i253 : Int := y241.2.2.2.1.1
let i254 : Int := y241.2.2.2.1.2.1
let i255 : Int := y241.2.2.2.1.2.2.1
let a256 : (Nat → Int) := y241.2.2.2.2.1
let i257 : Int := (a256 1)
let i258 : Int := (a256 2)
let i259 : Int := (a256 3)
bif (!(schEq (.stru (.fcons (.int .i64) (.fcons (.int .i64) (.fcons (.int .i64) (.fnil))))) ((i250, (i251, (i252, ())))) ((i257, (i258, (i259, ())))))) then (
κ0 (false, ())) else (
q_62 (((i250, (i251, (i252, ()))), (i253, (i254, (i255, ()))), ()), ()) (fun y269 =>
let i270 : Int := y269.1.1.1
let i271 : Int := y269.1.1.2.1
let i272 : Int := y269.1.1.2.2.1
let b273 : Bool := y269.1.2.1
bif (decide (i250 ≥ i253)) then (
bif (decide (i251 ≥ i254)) then (
bif (!(b273 == (decide (i252 ≥ i255)))) then (
κ0 (false, ())) else (
bif (!b273) then (
bif (!(schEq (.stru (.fcons (.int .i64) (.fcons (.int .i64) (.fcons (.int .i64) (.fnil))))) ((i270, (i271, (i272, ())))) ((0, (0, (0, ())))))) then (
κ0 (false, ())) else (
bif b273 then (
let i274 : Int := subA .i64 i250 i253
let i275 : Int := subA .i64 i251 i254
let i276 : Int := subA .i64 i252 i255
bif (!(schEq (.stru (.fcons (.int .i64) (.fcons (.int .i64) (.fcons (.int .i64) (.fnil))))) ((i270, (i271, (i272, ())))) ((i274, (i275, (i276, ())))))) then (
κ0 (false, ())) else (
q_63 (((i242, (i243, (i244, (i245, (i246, (i247, (i248, (i249, ())))))))), ()), ()) (fun y277 =>
let i278 : Int := y277.1.1.1
let i279 : Int := y277.1.1.2.1
let i280 : Int := y277.1.1.2.2.1
let i281 : Int := y277.1.2.1
q_62 (((i278, (i279, (i280, ()))), (i278, (i279, (i280, ()))), ()), ()) (fun y282 =>
let i283 : Int := y282.1.1.1
let i284 : Int := y282.1.1.2.1
let i285 : Int := y282.1.1.2.2.1
let b286 : Bool := y282.1.2.1
bif (i281 != 0) then (
κ0 (true, ())) else (
bif b286 then (
κ0 ((schEq (.stru (.fcons (.int .i64) (.fcons (.int .i64) (.fcons (.int .i64) (.fnil))))) ((i283, (i284, (i285, ())))) ((0, (0, (0, ()))))), ())) else (
κ0 (false, ()))))))) else (
q_63 (((i242, (i243, (i244, (i245, (i246, (i247, (i248, (i249, ())))))))), ()), ()) (fun y287 =>
let i288 : Int := y287.1.1.1
let i289 : Int := y287.1.1.2.1
let i290 : Int := y287.1.1.2.2.1
let i291 : Int := y287.1.2.1
q_62 (((i288, (i289, (i290, ()))), (i288, (i289, (i290, ()))), ()), ()) (fun y292 =>
let i293 : Int := y292.1.1.1
let i294 : Int := y292.1.1.2.1
let i295 : Int := y292.1.1.2.2.1
let b296 : Bool := y292.1.2.1
bif (i291 != 0) then (
κ0 (true, ())) else (
bif b296 then (
κ0 ((schEq (.stru (.fcons (.int .i64) (.fcons (.int .i64) (.fcons (.int .i64) (.fnil))))) ((i293, (i294, (i295, ())))) ((0, (0, (0, ()))))), ())) else (
κ0 (false, ())))))))) else (
bif b273 then (
let i297 : Int := subA .i64 i250 i253
let i298 : Int := subA .i64 i251 i254
let i299 : Int := subA .i64 i252 i255
bif (!(schEq (.stru (.fcons (.int .i64) (.fcons (.int .i64) (.fcons (.int .i64) (.fnil))))) ((i270, (i271, (i272, ())))) ((i297, (i298, (i299, ())))))) then (
κ0 (false, ())) else (
q_63 (((i242, (i243, (i244, (i245, (i246, (i247, (i248, (i249, ())))))))), ()), ()) (fun y300 =>
let i301 : Int := y300.1.1.1
let i302 : Int := y300.1.1.2.1
let i303 : Int := y300.1.1.2.2.1
let i304 : Int := y300.1.2.1
q_62 (((i301, (i302, (i303, ()))), (i301, (i302, (i303, ()))), ()), ()) (fun y305 =>
let i306 : Int := y305.1.1.1
let i307 : Int := y305.1.1.2.1
let i308 : Int := y305.1.1.2.2.1
let b309 : Bool := y305.1.2.1
bif (i304 != 0) then (
κ0 (true, ())) else (
bif b309 then (
κ0 ((schEq (.stru (.fcons (.int .i64) (.fcons (.int .i64) (.fcons (.int .i64) (.fnil))))) ((i306, (i307, (i308, ())))) ((0, (0, (0, ()))))), ())) else (
κ0 (false, ()))))))) else (
q_63 (((i242, (i243, (i244, (i245, (i246, (i247, (i248, (i249, ())))))))), ()), ()) (fun y310 =>
let i311 : Int := y310.1.1.1
let i312 : Int := y310.1.1.2.1
let i313 : Int := y310.1.1.2.2.1
let i314 : Int := y310.1.2.1
q_62 (((i311, (i312, (i313, ()))), (i311, (i312, (i313, ()))), ()), ()) (fun y315 =>
let i316 : Int := y315.1.1.1
let i317 : Int := y315.1.1.2.1
let i318 : Int := y315.1.1.2.2.1
let b319 : Bool := y315.1.2.1
bif (i314 != 0) then (
κ0 (true, ())) else (
bif b319 then (
κ0 ((schEq (.stru (.fcons (.int .i64) (.fcons (.int .i64) (.fcons (.int .i64) (.fnil))))) ((i316, (i317, (i318, ())))) ((0, (0, (0, ()))))), ())) else (
κ0 (false, ()))))))))) else (
bif (!(b273 == false)) then (
κ0 (false, ())) else (
bif (!b273) then (
bif (!(schEq (.stru (.fcons (.int .i64) (.fcons (.int .i64) (.fcons (.int .i64) (.fnil))))) ((i270, (i271, (i272, ())))) ((0, (0, (0, ())))))) then (
κ0 (false, ())) else (
bif b273 then (
let i320 : Int := subA .i64 i250 i253
let i321 : Int := subA .i64 i251 i254
let i322 : Int := subA .i64 i252 i255
bif (!(schEq (.stru (.fcons (.int .i64) (.fcons (.int .i64) (.fcons (.int .i64) (.fnil))))) ((i270, (i271, (i272, ())))) ((i320, (i321, (i322, ())))))) then (
κ0 (false, ())) else (
q_63 (((i242, (i243, (i244, (i245, (i246, (i247, (i248, (i249, ())))))))), ()), ()) (fun y323 =>
let i324 : Int := y323.1.1.1
let i325 : Int := y323.1.1.2.1
let i326 : Int := y323.1.1.2.2.1
let i327 : Int := y323.1.2.1
q_62 (((i324, (i325, (i326, ()))), (i324, (i325, (i326, ()))), ()), ()) (fun y328 =>
let i329 : Int := y328.1.1.1
let i330 : Int := y328.1.1.2.1
let i331 : Int := y328.1.1.2.2.1
let b332 : Bool := y328.1.2.1
bif (i327 != 0) then (
κ0 (true, ())) else (
bif b332 then (
κ0 ((schEq (.stru (.fcons (.int .i64) (.fcons (.int .i64) (.fcons (.int .i64) (.fnil))))) ((i329, (i330, (i331, ())))) ((0, (0, (0, ()))))), ())) else (
κ0 (false, ()))))))) else (
q_63 (((i242, (i243, (i244, (i245, (i246, (i247, (i248, (i249, ())))))))), ()), ()) (fun y333 =>
let i334 : Int := y333.1.1.1
let i335 : Int := y333.1.1.2.1
let i336 : Int := y333.1.1.2.2.1
let i337 : Int := y333.1.2.1
q_62 (((i334, (i335, (i336, ()))), (i334, (i335, (i336, ()))), ()), ()) (fun y338 =>
let i339 : Int := y338.1.1.1
let i340 : Int := y338.1.1.2.1
let i341 : Int := y338.1.1.2.2.1
let b342 : Bool := y338.1.2.1
bif (i337 != 0) then (
κ0 (true, ())) else (
bif b342 then (
κ0 ((schEq (.stru (.fcons (.int .i64) (.fcons (.int .i64) (.fcons (.int .i64) (.fnil))))) ((i339, (i340, (i341, ())))) ((0, (0, (0, ()))))), ())) else (
κ0 (false, ())))))))) else (
bif b273 then (
let i343 : Int := subA .i64 i250 i253
let i344 : Int := subA .i64 i251 i254
let i345 : Int := subA .i64 i252 i255
bif (!(schEq (.stru (.fcons (.int .i64) (.fcons (.int .i64) (.fcons (.int .i64) (.fnil))))) ((i270, (i271, (i272, ())))) ((i343, (i344, (i345, ())))))) then (
κ0 (false, ())) else (
q_63 (((i242, (i243, (i244, (i245, (i246, (i247, (i248, (i249, ())))))))), ()), ()) (fun y346 =>
let i347 : Int := y346.1.1.1
let i348 : Int := y346.1.1.2.1
let i349 : Int := y346.1.1.2.2.1
let i350 : Int := y346.1.2.1
q_62 (((i347, (i348, (i349, ()))), (i347, (i348, (i349, ()))), ()), ()) (fun y351 =>
let i352 : Int := y351.1.1.1
let i353 : Int := y351.1.1.2.1
let i354 : Int := y351.1.1.2.2.1
let b355 : Bool := y351.1.2.1
bif (i350 != 0) then (
κ0 (true, ())) else (
bif b355 then (
κ0 ((schEq (.stru (.fcons (.int .i64) (.fcons (.int .i64) (.fcons (.int .i64) (.fnil))))) ((i352, (i353, (i354, ())))) ((0, (0, (0, ()))))), ())) else (
κ0 (false, ()))))))) else (
q_63 (((i242, (i243, (i244, (i245, (i246, (i247, (i248, (i249, ())))))))), ()), ()) (fun y356 =>
let i357 : Int := y356.1.1.1
let i358 : Int := y356.1.1.2.1
let i359 : Int := y356.1.1.2.2.1
let i360 : Int := y356.1.2.1
q_62 (((i357, (i358, (i359, ()))), (i357, (i358, (i359, ()))), ()), ()) (fun y361 =>
let i362 : Int := y361.1.1.1
let i363 : Int := y361.1.1.2.1
let i364 : Int := y361.1.1.2.2.1
let b365 : Bool := y361.1.2.1
bif (i360 != 0) then (
κ0 (true, ())) else (
bif b365 then (
κ0 ((schEq (.stru (.fcons (.int .i64) (.fcons (.int .i64) (.fcons (.int .i64) (.fnil))))) ((i362, (i363, (i364, ())))) ((0, (0, (0, ()))))), ())) else (
κ0 (false, ())))))))))) else (
bif (!(b273 == false)) then (
κ0 (false, ())) else (
bif (!b273) then (
bif (!(schEq (.stru (.fcons (.int .i64) (.fcons (.int .i64) (.fcons (.int .i64) (.fnil))))) ((i270, (i271, (i272, ())))) ((0, (0, (0, ())))))) then (
κ0 (false, ())) else (
bif b273 then (
let i366 : Int := subA .i64 i250 i253
let i367 : Int := subA .i64 i251 i254
let i368 : Int := subA .i64 i252 i255
bif (!(schEq (.stru (.fcons (.int .i64) (.fcons (.int .i64) (.fcons (.int .i64) (.fnil))))) ((i270, (i271, (i272, ())))) ((i366, (i367, (i368, ())))))) then (
κ0 (false, ())) else (
q_63 (((i242, (i243, (i244, (i245, (i246, (i247, (i248, (i249, ())))))))), ()), ()) (fun y369 =>
let i370 : Int := y369.1.1.1
let i371 : Int := y369.1.1.2.1
let i372 : Int := y369.1.1.2.2.1
let i373 : Int := y369.1.2.1
q_62 (((i370, (i371, (i372, ()))), (i370, (i371, (i372, ()))), ()), ()) (fun y374 =>
let i375 : Int := y374.1.1.1
let i376 : Int := y374.1.1.2.1
let i377 : Int := y374.1.1.2.2.1
let b378 : Bool := y374.1.2.1
bif (i373 != 0) then (
κ0 (true, ())) else (
bif b378 then (
κ0 ((schEq (.stru (.fcons (.int .i64) (.fcons (.int .i64) (.fcons (.int .i64) (.fnil))))) ((i375, (i376, (i377, ())))) ((0, (0, (0, ()))))), ())) else (
κ0 (false, ()))))))) else (
q_63 (((i242, (i243, (i244, (i245, (i246, (i247, (i248, (i249, ())))))))), ()), ()) (fun y379 =>
let i380 : Int := y379.1.1.1
let i381 : Int := y379.1.1.2.1
let i382 : Int := y379.1.1.2.2.1
let i383 : Int := y379.1.2.1
q_62 (((i380, (i381, (i382, ()))), (i380, (i381, (i382, ()))), ()), ()) (fun y384 =>
let i385 : Int := y384.1.1.1
let i386 : Int := y384.1.1.2.1
let i387 : Int := y384.1.1.2.2.1
let b388 : Bool := y384.1.2.1
bif (i383 != 0) then (
κ0 (true, ())) else (
bif b388 then (
κ0 ((schEq (.stru (.fcons (.int .i64) (.fcons (.int .i64) (.fcons (.int .i64) (.fnil))))) ((i385, (i386, (i387, ())))) ((0, (0, (0, ()))))), ())) else (
κ0 (false, ())))))))) else (
bif b273 then (
let i389 : Int := subA .i64 i250 i253
let i390 : Int := subA .i64 i251 i254
let i391 : Int := subA .i64 i252 i255
bif (!(schEq (.stru (.fcons (.int .i64) (.fcons (.int .i64) (.fcons (.int .i64) (.fnil))))) ((i270, (i271, (i272, ())))) ((i389, (i390, (i391, ())))))) then (
κ0 (false, ())) else (
q_63 (((i242, (i243, (i244, (i245, (i246, (i247, (i248, (i249, ())))))))), ()), ()) (fun y392 =>
let i393 : Int := y392.1.1.1
let i394 : Int := y392.1.1.2.1
let i395 : Int := y392.1.1.2.2.1
let i396 : Int := y392.1.2.1
q_62 (((i393, (i394, (i395, ()))), (i393, (i394, (i395, ()))), ()), ()) (fun y397 =>
let i398 : Int := y397.1.1.1
let i399 : Int := y397.1.1.2.1
let i400 : Int := y397.1.1.2.2.1
let b401 : Bool := y397.1.2.1
bif (i396 != 0) then (
κ0 (true, ())) else (
bif b401 then (
κ0 ((schEq (.stru (.fcons (.int .i64) (.fcons (.int .i64) (.fcons (.int .i64) (.fnil))))) ((i398, (i399, (i400, ())))) ((0, (0, (0, ()))))), ())) else (
κ0 (false, ()))))))) else (
q_63 (((i242, (i243, (i244, (i245, (i246, (i247, (i248, (i249, ())))))))), ()), ()) (fun y402 =>
let i403 : Int := y402.1.1.1
let i404 : Int := y402.1.1.2.1
let i405 : Int := y402.1.1.2.2.1
let i406 : Int := y402.1.2.1
q_62 (((i403, (i404, (i405, ()))), (i403, (i404, (i405, ()))), ()), ()) (fun y407 =>
let i408 : Int := y407.1.1.1
let i409 : Int := y407.1.1.2.1
let i410 : Int := y407.1.1.2.2.1
let b411 : Bool := y407.1.2.1
bif (i406 != 0) then (
κ0 (true, ())) else (
bif b411 then (
κ0 ((schEq (.stru (.fcons (.int .i64) (.fcons (.int .i64) (.fcons (.int .i64) (.fnil))))) ((i408, (i409, (i410, ())))) ((0, (0, (0, ()))))), ())) else (
κ0 (false, ()))))))))))))))))))))))
def C_13_10 {R : Type} (q_59 : (Unit) × (Unit) → ((Bool × (Unit)) → Option R) → Option R) (q_26 : ((Int × (Int × (Int × (Int × (Int × Unit))))) × Unit) × (Unit) → ((((Int × (Int × (Int × (Int × (Int × (Int × (Int × (Int × Unit)))))))) × (Int × Unit)) × (Unit)) → Option R) → Option R) (q_61 : ((List Int) × Unit) × (Unit) → (((List (Int × (Int × ((Int × (Int × Unit)) × ((Int × (Int × Unit)) × ((Int × (Int × Unit)) × Unit)))))) × (Unit)) → Option R) → Option R) (q_60 : ((List (Int × (Int × ((Int × (Int × Unit)) × ((Int × (Int × Unit)) × ((Int × (Int × Unit)) × Unit)))))) × Unit) × (Unit) → (((Int × (Int × (Int × Unit))) × (Unit)) → Option R) → Option R) (q_62 : ((Int × (Int × (Int × Unit))) × (Int × (Int × (Int × Unit))) × Unit) × (Unit) → ((((Int × (Int × (Int × Unit))) × (Bool × Unit)) × (Unit)) → Option R) → Option R) (q_63 : ((Int × (Int × (Int × (Int × (Int × (Int × (Int × (Int × Unit)))))))) × Unit) × (Unit) → ((((Int × (Int × (Int × Unit))) × (Int × Unit)) × (Unit)) → Option R) → Option R) (m_13_10 : ((Unit × Unit × Unit × Unit × (List Int) × Int × Int × Unit) × ((Int × (Int × (Int × (Int × (Int × (Int × (Int × (Int × Unit)))))))) × (Int × (Int × (Int × Unit))) × (Int × (Int × (Int × Unit))) × (Nat → Int) × Unit)) → (((Unit × Unit × Unit × Unit × Unit) × ((Int × (Int × (Int × (Int × (Int × (Int × (Int × (Int × Unit)))))))) × (Int × (Int × (Int × Unit))) × (Int × (Int × (Int × Unit))) × (Nat → Int) × Unit)) → Option R) → Option R) (rec : ((Unit × Unit × Unit × Unit × (List Int) × Int × Int × Unit) × ((Int × (Int × (Int × (Int × (Int × (Int × (Int × (Int × Unit)))))))) × (Int × (Int × (Int × Unit))) × (Int × (Int × (Int × Unit))) × (Nat → Int) × Unit)) → Option R) (x : ((Unit × Unit × Unit × Unit × (List Int) × Int × Int × Unit) × ((Int × (Int × (Int × (Int × (Int × (Int × (Int × (Int × Unit)))))))) × (Int × (Int × (Int × Unit))) × (Int × (Int × (Int × Unit))) × (Nat → Int) × Unit))) (κ0 : ((Unit × Unit × Unit × Unit × Unit) × ((Int × (Int × (Int × (Int × (Int × (Int × (Int × (Int × Unit)))))))) × (Int × (Int × (Int × Unit))) × (Int × (Int × (Int × Unit))) × (Nat → Int) × Unit)) → Option R) : Option R :=
let l216 : (List Int) := x.1.2.2.2.2.1
let i217 : Int := x.1.2.2.2.2.2.1
let i218 : Int := x.1.2.2.2.2.2.2.1
let i219 : Int := x.2.1.1
let i220 : Int := x.2.1.2.1
let i221 : Int := x.2.1.2.2.1
let i222 : Int := x.2.1.2.2.2.1
let i223 : Int := x.2.1.2.2.2.2.1
let i224 : Int := x.2.1.2.2.2.2.2.1
let i225 : Int := x.2.1.2.2.2.2.2.2.1
let i226 : Int := x.2.1.2.2.2.2.2.2.2.1
let i227 : Int := x.2.2.1.1
let i228 : Int := x.2.2.1.2.1
let i229 : Int := x.2.2.1.2.2.1
let i230 : Int := x.2.2.2.1.1
let i231 : Int := x.2.2.2.1.2.1
let i232 : Int := x.2.2.2.1.2.2.1
let a233 : (Nat → Int) := x.2.2.2.2.1
bif (decide (i218 < i217)) then (
bif decide (0 ≤ i218) then (
bif decide (i218 < ((List.length l216) : Int)) then (
let p234 : Int := (List.getD l216 ((Int.toNat i218)) (Sch.zero (.int .i64)))
bif (decide (p234 ≥ 1)) then (
bif (decide (p234 ≤ 3)) then (
bif decide (0 ≤ p234) then (
bif decide (p234 < (4 : Int)) then (
let i235 : Int := (a233 ((Int.toNat p234)))
let i236 : Int := addA .i64 i235 1
bif decide (0 ≤ p234) then (
bif decide (p234 < (4 : Int)) then (
let a237 : (Nat → Int) := (upd a233 ((Int.toNat p234)) i236)
let i238 : Int := addA .i64 i218 1
rec (((), (), (), (), l216, i217, i238, ()), ((i219, (i220, (i221, (i222, (i223, (i224, (i225, (i226, ())))))))), (i227, (i228, (i229, ()))), (i230, (i231, (i232, ()))), a237, ()))) else none) else none) else none) else none) else (
let i239 : Int := addA .i64 i218 1
rec (((), (), (), (), l216, i217, i239, ()), ((i219, (i220, (i221, (i222, (i223, (i224, (i225, (i226, ())))))))), (i227, (i228, (i229, ()))), (i230, (i231, (i232, ()))), a233, ())))) else (
let i240 : Int := addA .i64 i218 1
rec (((), (), (), (), l216, i217, i240, ()), ((i219, (i220, (i221, (i222, (i223, (i224, (i225, (i226, ())))))))), (i227, (i228, (i229, ()))), (i230, (i231, (i232, ()))), a233, ())))) else none) else none) else (
κ0 (((), (), (), (), ()), ((i219, (i220, (i221, (i222, (i223, (i224, (i225, (i226, ())))))))), (i227, (i228, (i229, ()))), (i230, (i231, (i232, ()))), a233, ())))
def EG_13 {R : Type} (q_59 : (Unit) × (Unit) → ((Bool × (Unit)) → Option R) → Option R) (q_26 : ((Int × (Int × (Int × (Int × (Int × Unit))))) × Unit) × (Unit) → ((((Int × (Int × (Int × (Int × (Int × (Int × (Int × (Int × Unit)))))))) × (Int × Unit)) × (Unit)) → Option R) → Option R) (q_61 : ((List Int) × Unit) × (Unit) → (((List (Int × (Int × ((Int × (Int × Unit)) × ((Int × (Int × Unit)) × ((Int × (Int × Unit)) × Unit)))))) × (Unit)) → Option R) → Option R) (q_60 : ((List (Int × (Int × ((Int × (Int × Unit)) × ((Int × (Int × Unit)) × ((Int × (Int × Unit)) × Unit)))))) × Unit) × (Unit) → (((Int × (Int × (Int × Unit))) × (Unit)) → Option R) → Option R) (q_62 : ((Int × (Int × (Int × Unit))) × (Int × (Int × (Int × Unit))) × Unit) × (Unit) → ((((Int × (Int × (Int × Unit))) × (Bool × Unit)) × (Unit)) → Option R) → Option R) (q_63 : ((Int × (Int × (Int × (Int × (Int × (Int × (Int × (Int × Unit)))))))) × Unit) × (Unit) → ((((Int × (Int × (Int × Unit))) × (Int × Unit)) × (Unit)) → Option R) → Option R) : Env R := ((((((Env.base QQ LN).add 59 ap_59 hp_59 (fun (x : aden ap_59 × hden hp_59) k => q_59 x (fun y => k (Pat.inst (.bool) y.1) (instH [] y.2)))).add 26 ap_26 hp_26 (fun (x : aden ap_26 × hden hp_26) k => q_26 x (fun y => k (Pat.inst (.tup (.fcons (.node (.fcons (.int .i64) (.fcons (.int .i64) (.fcons (.int .i64) (.fcons (.int .i64) (.fcons (.int .i64) (.fcons (.int .i64) (.fcons (.int .i64) (.fcons (.int .i64) (.fnil)))))))))) (.fcons (.int .i64) (.fnil)))) y.1) (instH [] y.2)))).add 61 ap_61 hp_61 (fun (x : aden ap_61 × hden hp_61) k => q_61 x (fun y => k (Pat.inst (.ros (.stru (.fcons (.int .i64) (.fcons (.int .i64) (.fcons (.stru (.fcons (.int .i64) (.fcons (.int .i64) (.fnil)))) (.fcons (.stru (.fcons (.int .i64) (.fcons (.int .i64) (.fnil)))) (.fcons (.stru (.fcons (.int .i64) (.fcons (.int .i64) (.fnil)))) (.fnil)))))))) y.1) (instH [] y.2)))).add 60 ap_60 hp_60 (fun (x : aden ap_60 × hden hp_60) k => q_60 x (fun y => k (Pat.inst (.node (.fcons (.int .i64) (.fcons (.int .i64) (.fcons (.int .i64) (.fnil))))) y.1) (instH [] y.2)))).add 62 ap_62 hp_62 (fun (x : aden ap_62 × hden hp_62) k => q_62 x (fun y => k (Pat.inst (.tup (.fcons (.node (.fcons (.int .i64) (.fcons (.int .i64) (.fcons (.int .i64) (.fnil))))) (.fcons (.bool) (.fnil)))) y.1) (instH [] y.2)))).add 63 ap_63 hp_63 (fun (x : aden ap_63 × hden hp_63) k => q_63 x (fun y => k (Pat.inst (.tup (.fcons (.node (.fcons (.int .i64) (.fcons (.int .i64) (.fcons (.int .i64) (.fnil))))) (.fcons (.int .i64) (.fnil)))) y.1) (instH [] y.2)))
def LG_13 {R : Type} (m_13_10 : ((Unit × Unit × Unit × Unit × (List Int) × Int × Int × Unit) × ((Int × (Int × (Int × (Int × (Int × (Int × (Int × (Int × Unit)))))))) × (Int × (Int × (Int × Unit))) × (Int × (Int × (Int × Unit))) × (Nat → Int) × Unit)) → (((Unit × Unit × Unit × Unit × Unit) × ((Int × (Int × (Int × (Int × (Int × (Int × (Int × (Int × Unit)))))))) × (Int × (Int × (Int × Unit))) × (Int × (Int × (Int × Unit))) × (Nat → Int) × Unit)) → Option R) → Option R) : Loops R := (Loops.none).add 10 (loopBy 0 lv_13_10 pt_13_10 (fun x k => m_13_10 x (fun y => k (.exit 0) (px_13_10_0.inst y))))
def E_13 {R : Type} (N : Nat) : Env R := EG_13 (p_59 N) (p_26 N) (p_61 N) (p_60 N) (p_62 N) (p_63 N)
theorem eok_13 {R : Type} (N : Nat) : EK Try.prog (E_13 (R := R) N) := ek_add (ek_add (ek_add (ek_add (ek_add (ek_add (ek_base _ _) (good_59 N)) (good_26 N)) (good_61 N)) (good_60 N)) (good_62 N)) (good_63 N)
def L_13 {R : Type} (N : Nat) : Loops R := LG_13 (l_13_10 N N)
theorem gstep_13_10 {R : Type} (q_59 : (Unit) × (Unit) → ((Bool × (Unit)) → Option R) → Option R) (q_26 : ((Int × (Int × (Int × (Int × (Int × Unit))))) × Unit) × (Unit) → ((((Int × (Int × (Int × (Int × (Int × (Int × (Int × (Int × Unit)))))))) × (Int × Unit)) × (Unit)) → Option R) → Option R) (q_61 : ((List Int) × Unit) × (Unit) → (((List (Int × (Int × ((Int × (Int × Unit)) × ((Int × (Int × Unit)) × ((Int × (Int × Unit)) × Unit)))))) × (Unit)) → Option R) → Option R) (q_60 : ((List (Int × (Int × ((Int × (Int × Unit)) × ((Int × (Int × Unit)) × ((Int × (Int × Unit)) × Unit)))))) × Unit) × (Unit) → (((Int × (Int × (Int × Unit))) × (Unit)) → Option R) → Option R) (q_62 : ((Int × (Int × (Int × Unit))) × (Int × (Int × (Int × Unit))) × Unit) × (Unit) → ((((Int × (Int × (Int × Unit))) × (Bool × Unit)) × (Unit)) → Option R) → Option R) (q_63 : ((Int × (Int × (Int × (Int × (Int × (Int × (Int × (Int × Unit)))))))) × Unit) × (Unit) → ((((Int × (Int × (Int × Unit))) × (Int × Unit)) × (Unit)) → Option R) → Option R) (m_13_10 : ((Unit × Unit × Unit × Unit × (List Int) × Int × Int × Unit) × ((Int × (Int × (Int × (Int × (Int × (Int × (Int × (Int × Unit)))))))) × (Int × (Int × (Int × Unit))) × (Int × (Int × (Int × Unit))) × (Nat → Int) × Unit)) → (((Unit × Unit × Unit × Unit × Unit) × ((Int × (Int × (Int × (Int × (Int × (Int × (Int × (Int × Unit)))))))) × (Int × (Int × (Int × Unit))) × (Int × (Int × (Int × Unit))) × (Nat → Int) × Unit)) → Option R) → Option R) (n : Nat) (x : pt_13_10.den) (k : Exit → St → Option R) : iter 0 lv_13_10 lo_13_10 (aexec TT (EG_13 q_59 q_26 q_61 q_60 q_62 q_63) (drawOk TT QQ) (LG_13 m_13_10) (loopAt 10 (bodyOf Try.f13))) (n + 1) (pt_13_10.inst x) k = C_13_10 q_59 q_26 q_61 q_60 q_62 q_63 m_13_10 (fun y => iter 0 lv_13_10 lo_13_10 (aexec TT (EG_13 q_59 q_26 q_61 q_60 q_62 q_63) (drawOk TT QQ) (LG_13 m_13_10) (loopAt 10 (bodyOf Try.f13))) n (pt_13_10.inst y) k) x (fun y => k (.exit 0) (px_13_10_0.inst y)) := by kernel_rfl
theorem step_13_10 {R : Type} (N n : Nat) (x : pt_13_10.den) (k : Exit → St → Option R) : iter 0 lv_13_10 lo_13_10 (aexec TT (E_13 (R := R) N) (drawOk TT QQ) (L_13 N) (loopAt 10 (bodyOf Try.f13))) (n + 1) (pt_13_10.inst x) k = B_13_10 N (fun y => iter 0 lv_13_10 lo_13_10 (aexec TT (E_13 (R := R) N) (drawOk TT QQ) (L_13 N) (loopAt 10 (bodyOf Try.f13))) n (pt_13_10.inst y) k) x (fun y => k (.exit 0) (px_13_10_0.inst y)) := (gstep_13_10 (p_59 N) (p_26 N) (p_61 N) (p_60 N) (p_62 N) (p_63 N) (l_13_10 N N) n x k).trans (by kernel_rfl)
theorem eq_13_10 {R : Type} (N : Nat) : ∀ (n : Nat) (x : pt_13_10.den) (k : Exit → St → Option R), iter 0 lv_13_10 lo_13_10 (aexec TT (E_13 (R := R) N) (drawOk TT QQ) (L_13 N) (loopAt 10 (bodyOf Try.f13))) n (pt_13_10.inst x) k = l_13_10 N n x (fun y => k (.exit 0) (px_13_10_0.inst y)) :=
  iter_eq (K := Exit → St → Option R) (ks := fun k => k) (l := fun n (x : pt_13_10.den) k => l_13_10 N n x (fun y => k (.exit 0) (px_13_10_0.inst y))) (B := fun (rec : pt_13_10.den → Option R) (x : pt_13_10.den) k => B_13_10 N rec x (fun y => k (.exit 0) (px_13_10_0.inst y))) (fun _ _ => rfl) (fun _ _ _ => rfl) (fun n x k => step_13_10 N n x k)
theorem rounds_13_10 {R : Type} (N : Nat) : Rounds 0 TT (E_13 (R := R) N) (drawOk TT QQ) (L_13 N) 10 (loopAt 10 (bodyOf Try.f13)) :=
  rounds_of (p := pt_13_10) (l := fun (x : pt_13_10.den) k => l_13_10 N N x (fun y => k (.exit 0) (px_13_10_0.inst y))) (fun s k => rfl) (fun x k => eq_13_10 N N x k)
theorem loops_13 : loopsIn (bodyOf Try.f13) = [(10, loopAt 10 (bodyOf Try.f13))] := by kernel_rfl
theorem lok_13 {R : Type} (N : Nat) : LOK 0 TT (E_13 (R := R) N) (drawOk TT QQ) (L_13 N) (bodyOf Try.f13) := loops_all loops_13 (by
  simp only [List.forall_mem_cons, List.not_mem_nil, false_implies, implies_true, and_true]
  exact rounds_13_10 N)
theorem grun_13 {R : Type} (q_59 : (Unit) × (Unit) → ((Bool × (Unit)) → Option R) → Option R) (q_26 : ((Int × (Int × (Int × (Int × (Int × Unit))))) × Unit) × (Unit) → ((((Int × (Int × (Int × (Int × (Int × (Int × (Int × (Int × Unit)))))))) × (Int × Unit)) × (Unit)) → Option R) → Option R) (q_61 : ((List Int) × Unit) × (Unit) → (((List (Int × (Int × ((Int × (Int × Unit)) × ((Int × (Int × Unit)) × ((Int × (Int × Unit)) × Unit)))))) × (Unit)) → Option R) → Option R) (q_60 : ((List (Int × (Int × ((Int × (Int × Unit)) × ((Int × (Int × Unit)) × ((Int × (Int × Unit)) × Unit)))))) × Unit) × (Unit) → (((Int × (Int × (Int × Unit))) × (Unit)) → Option R) → Option R) (q_62 : ((Int × (Int × (Int × Unit))) × (Int × (Int × (Int × Unit))) × Unit) × (Unit) → ((((Int × (Int × (Int × Unit))) × (Bool × Unit)) × (Unit)) → Option R) → Option R) (q_63 : ((Int × (Int × (Int × (Int × (Int × (Int × (Int × (Int × Unit)))))))) × Unit) × (Unit) → ((((Int × (Int × (Int × Unit))) × (Int × Unit)) × (Unit)) → Option R) → Option R) (m_13_10 : ((Unit × Unit × Unit × Unit × (List Int) × Int × Int × Unit) × ((Int × (Int × (Int × (Int × (Int × (Int × (Int × (Int × Unit)))))))) × (Int × (Int × (Int × Unit))) × (Int × (Int × (Int × Unit))) × (Nat → Int) × Unit)) → (((Unit × Unit × Unit × Unit × Unit) × ((Int × (Int × (Int × (Int × (Int × (Int × (Int × (Int × Unit)))))))) × (Int × (Int × (Int × Unit))) × (Int × (Int × (Int × Unit))) × (Nat → Int) × Unit)) → Option R) → Option R) (x : aden ap_13 × hden hp_13) (k : KF R) : fnrun TT (EG_13 q_59 q_26 q_61 q_60 q_62 q_63) (drawOk TT QQ) (LG_13 m_13_10) true Try.f13 (instA ap_13 x.1) (instH hp_13 x.2) k = Q_13 q_59 q_26 q_61 q_60 q_62 q_63 m_13_10 x (fun y => k (Pat.inst (.bool) y.1) (instH [] y.2)) := by kernel_rfl
theorem run_13 {R : Type} (N : Nat) (x : aden ap_13 × hden hp_13) (k : KF R) : fnrun TT (E_13 (R := R) N) (drawOk TT QQ) (L_13 N) true Try.f13 (instA ap_13 x.1) (instH hp_13 x.2) k = p_13 N x (fun y => k (Pat.inst (.bool) y.1) (instH [] y.2)) := (grun_13 (p_59 N) (p_26 N) (p_61 N) (p_60 N) (p_62 N) (p_63 N) (l_13_10 N N) x k).trans (by kernel_rfl)
theorem good_13 {R : Type} (N : Nat) : GD (X := R) Try.prog QQ 13 ap_13 hp_13 (fun (x : aden ap_13 × hden hp_13) k => p_13 N x (fun y => k (Pat.inst (.bool) y.1) (instH [] y.2))) :=
  gd_loud (E := E_13 N) (p := fun (x : aden ap_13 × hden hp_13) k => p_13 N x (fun y => k (Pat.inst (.bool) y.1) (instH [] y.2))) mixed tyok (eok_13 N) Try.func13 (by kernel_rfl) (by kernel_rfl) (by kernel_rfl) (lok_13 N) (fun x k => run_13 N x k)

/-! ### the plain law -/
/-- Parameters that may be. -/
def Fit (a t m l s : Int) : Prop := (1 ≤ a ∧ a ≤ 3) ∧ (1 ≤ t ∧ t ≤ 4294967295) ∧ (1 ≤ l ∧ l ≤ 16777215) ∧ (1 ≤ m ∧ m ≤ 4294967295) ∧ l ≤ m / 8 ∧ 4 ≤ s ∧ s ≤ 1024
instance (a t m l s : Int) : Decidable (Fit a t m l s) := by unfold Fit; exact inferInstance
theorem p87 {R : Type} (N : Nat) (a b c : Int) (κ) : p_87 (R := R) N ((a, b, c, ()), ()) κ = κ (decide (b ≤ a ∧ a ≤ c), ()) := by
  unfold p_87
  dsimp only
  by_cases h1 : b ≤ a
  · by_cases h2 : a ≤ c <;> simp [h1, h2]
  · simp [h1]
theorem p88 {R : Type} (N : Nat) (a b : Int) (h1 : 0 ≤ a) (h2 : a ≤ 4611686018427387904) (h3 : 1 ≤ b) (κ) : p_88 (R := R) N ((a, b, ()), ()) κ = κ ((a - a % b, (0, ())), ()) := by
  unfold p_88 p_116
  dsimp only
  have e1 : 0 ≤ a % b := Int.emod_nonneg a (by omega)
  have e2 : a % b ≤ a := mod_le h1 (by omega)
  rw [rem64 h1, sub64 (by omega) (by omega)]
  simp [h1, h2, show ¬ b < 1 by omega, show ¬ b = 0 by omega]
theorem p26 {R : Type} (N : Nat) (a t m l s : Int) (κ) : p_26 (R := R) N (((a, (t, (m, (l, (s, ()))))), ()), ()) κ =
    (bif decide (Fit a t m l s) then κ (((a, (t, (l, (m, (4 * l * (m / (4 * l)), (4 * (m / (4 * l)), (m / (4 * l), (s, ())))))))), (0, ())), ()) else κ (((0, (0, (0, (0, (0, (0, (0, (0, ())))))))), (2, ())), ())) := by
  by_cases h : Fit a t m l s
  · obtain ⟨⟨h1, h2⟩, ⟨h3, h4⟩, ⟨h5, h6⟩, ⟨h7, h8⟩, h9, h10, h11⟩ := id h
    unfold p_26
    dsimp only
    have e1 : quoA .i64 m 8 = m / 8 := quo64 (by omega) (by omega) (by omega)
    have e2 : mulA .i64 4 l = 4 * l := mul64 (by omega) (by omega)
    have e3 : m - m % (4 * l) = 4 * l * (m / (4 * l)) := by have := Int.mul_ediv_add_emod m (4 * l); omega
    have q0 : 0 ≤ m / (4 * l) := Int.ediv_nonneg (by omega) (by omega)
    have q1 : 0 ≤ m % (4 * l) := Int.emod_nonneg _ (by omega)
    have e4 : quoA .i64 (4 * l * (m / (4 * l))) l = 4 * (m / (4 * l)) := by
      rw [quo64 (by rw [← e3]; have := mod_le (b := 4 * l) (show 0 ≤ m by omega) (by omega); omega) (by omega) (by omega)]
      rw [show 4 * l * (m / (4 * l)) = l * (4 * (m / (4 * l))) by rw [Int.mul_comm 4 l, Int.mul_assoc]]
      exact Int.mul_ediv_cancel_left _ (by omega)
    have q2 : m / (4 * l) ≤ m := Int.ediv_le_self _ (by omega)
    have e5 : quoA .i64 (4 * (m / (4 * l))) 4 = m / (4 * l) := by
      rw [quo64 (by omega) (by omega) (by omega)]
      exact Int.mul_ediv_cancel_left _ (by omega)
    simp only [p87, e1, e2]
    rw [p88 N m (4 * l) (by omega) (by omega) (by omega)]
    simp only [e3, e4, e5]
    simp [h, h1, h2, h3, h4, h5, h6, h7, h8, h9, h10, h11, show ¬ l = 0 by omega]
  · rw [dF h]
    unfold p_26
    dsimp only
    simp only [p87, cond_false]
    by_cases g1 : 1 ≤ a ∧ a ≤ 3
    · rw [dT g1]
      by_cases g2 : 1 ≤ t ∧ t ≤ 4294967295
      · rw [dT g2]
        by_cases g3 : 1 ≤ l ∧ l ≤ 16777215
        · rw [dT g3]
          by_cases g4 : 1 ≤ m ∧ m ≤ 4294967295
          · rw [dT g4, quo64 (by omega) (by omega) (by omega)]
            by_cases g5 : m / 8 ≥ l
            · rw [dT g5]
              by_cases g6 : 4 ≤ s ∧ s ≤ 1024
              · exact absurd ⟨g1, g2, g3, g4, g5, g6⟩ h
              · rw [dF g6]; rfl
            · rw [dF g5]; rfl
          · rw [dF g4]; rfl
        · rw [dF g3]; rfl
      · rw [dF g2]; rfl
    · rw [dF g1]; rfl

/-! ### size.Mul -/
theorem p116 {R : Type} (N : Nat) (a : Int) (κ) : p_116 (R := R) N ((a, ()), ()) κ = κ (decide (0 ≤ a ∧ a ≤ 4611686018427387904), ()) := by
  unfold p_116
  dsimp only
  by_cases h1 : 0 ≤ a
  · by_cases h2 : a ≤ 4611686018427387904 <;> simp [h1, h2]
  · simp [h1]
theorem p86 {R : Type} (N : Nat) {x y : Int} (x1 : 0 ≤ x) (x2 : x < 18446744073709551616) (y1 : 0 ≤ y) (y2 : y < 18446744073709551616) (κ) : p_86 (R := R) N ((x, y, ()), ()) κ = κ ((x * y / 18446744073709551616, (x * y % 18446744073709551616, ())), ()) := by
  unfold p_86
  dsimp only
  rw [high64 x1 x2 y1 y2]
  unfold mulA
  rw [wrapU64 (x * y)]
/-- The product so far, times those that are left; none: it is too great. -/
def mulGo : List Int → Int → Option Int
  | [], o => some o
  | a :: l, o => if o * a ≤ 4611686018427387904 then mulGo l (o * a) else none
def held (a : Int) : Bool := decide (0 ≤ a ∧ a ≤ 4611686018427387904)
theorem l96b {R : Type} (N : Nat) (l : List Int) (hl : l.length ≤ 1000) (hh : ∀ a ∈ l, 0 ≤ a ∧ a ≤ 4611686018427387904) (κ0 κ1) : ∀ (n i : Nat) (o : Int), i ≤ l.length → l.length - i < n → 0 ≤ o → o ≤ 4611686018427387904 →
    l_96_12 (R := R) N n ((o, (), (l.length : Int), (i : Int), ()), (l, ())) κ0 κ1 = (match mulGo (l.drop i) o with | none => κ0 ((0, 10, ()), (l, ())) | some r => κ1 ((r, ()), (l, ())))
  | 0, i, o, h1, h2, h3, h4 => by omega
  | n + 1, i, o, h1, h2, h3, h4 => by
    unfold l_96_12 B_96_12
    dsimp only
    by_cases hi : i < l.length
    · have hd : l.drop i = l[i] :: l.drop (i + 1) := List.drop_eq_getElem_cons hi
      have hg : List.getD l i (Sch.zero (.int .i64)) = l[i] := by simp [hi]
      obtain ⟨g1, g2⟩ := hh l[i] (List.getElem_mem hi)
      have e3 : addA .i64 (i : Int) 1 = ((i + 1 : Nat) : Int) := by rw [add64 (by omega) (by omega)]; simp
      rw [bif_t (dT (show (i : Int) < (l.length : Int) by omega)), bif_t (dT (show (0 : Int) ≤ (i : Int) by omega)), bif_t (dT (show (i : Int) < (l.length : Int) by omega)), Int.toNat_natCast, hg, e3, hd]
      rw [wrapU64, wrapU64, Int.emod_eq_of_lt h3 (by omega), Int.emod_eq_of_lt g1 (by omega), p86 N h3 (by omega) g1 (by omega)]
      have b1 : 0 ≤ o * l[i] := Int.mul_nonneg h3 g1
      have b2 : o * l[i] ≤ 4611686018427387904 * 4611686018427387904 := Int.mul_le_mul h4 g2 g1 (by decide)
      simp only [mulGo]
      generalize o * l[i] = z at *
      by_cases hz : z ≤ 4611686018427387904
      · have z1 : z / 18446744073709551616 = 0 := by omega
        have z2 : z % 18446744073709551616 = z := by omega
        simp only [z1, z2]
        rw [bif_f (dF (by omega)), bif_f (dF (by omega)), wrap64 (by omega) (by omega), if_pos hz]
        exact l96b N l hl hh κ0 κ1 n (i + 1) z (by omega) (by omega) (by omega) hz
      · rw [if_neg hz]
        by_cases hq : z / 18446744073709551616 > 0
        · rw [bif_t (dT hq)]
        · rw [bif_f (dF hq), bif_t (dT (by omega))]
    · rw [bif_f (dF (by omega)), List.drop_eq_nil_of_le (by omega)]
      rfl
theorem l96a {R : Type} (N : Nat) (l : List Int) (hl : l.length ≤ 1000) (κ0 κ1) : ∀ (n i : Nat) (o : Int) (b : Bool), i ≤ l.length → l.length - i < n →
    l_96_3 (R := R) N n (((), o, b, (), (l.length : Int), (i : Int), ()), (l, ())) κ0 κ1 = bif (l.drop i).all held then κ1 (((), o, b || (l.drop i).any (· == 0), ()), (l, ())) else κ0 ((0, 1, ()), (l, ()))
  | 0, i, o, b, h1, h2 => by omega
  | n + 1, i, o, b, h1, h2 => by
    unfold l_96_3 B_96_3
    dsimp only
    by_cases hi : i < l.length
    · have hd : l.drop i = l[i] :: l.drop (i + 1) := List.drop_eq_getElem_cons hi
      have hg : List.getD l i (Sch.zero (.int .i64)) = l[i] := by simp [hi]
      have e3 : addA .i64 (i : Int) 1 = ((i + 1 : Nat) : Int) := by rw [add64 (by omega) (by omega)]; simp
      rw [bif_t (dT (show (i : Int) < (l.length : Int) by omega)), bif_t (dT (show (0 : Int) ≤ (i : Int) by omega)), bif_t (dT (show (i : Int) < (l.length : Int) by omega)), Int.toNat_natCast, hg, e3, hd, p116]
      simp only [List.all_cons, List.any_cons]
      by_cases hh : 0 ≤ l[i] ∧ l[i] ≤ 4611686018427387904
      · rw [dT hh, show held l[i] = true from dT hh]
        simp only [Bool.not_true, cond_false, Bool.true_and]
        cases b with
        | true =>
          rw [bif_t rfl, l96a N l hl κ0 κ1 n (i + 1) o true (by omega) (by omega)]
          simp
        | false =>
          rw [bif_f rfl, l96a N l hl κ0 κ1 n (i + 1) o _ (by omega) (by omega)]
          simp
      · rw [dF hh, show held l[i] = false from dF hh]
        simp
    · rw [bif_f (dF (by omega)), List.drop_eq_nil_of_le (by omega)]
      simp
/-- The product of all: none, and the error's number, or it. -/
def mulAll (l : List Int) : Int × Int :=
  bif l.all held then (bif l.any (· == 0) then (0, 0) else match mulGo l 1 with | none => (0, 10) | some r => (r, 0)) else (0, 1)
theorem p96 {R : Type} (N : Nat) (l : List Int) (hl : l.length ≤ 1000) (hN : 1000 < N) (κ) : p_96 (R := R) N (((), ()), (l, ())) κ = κ (((mulAll l).1, ((mulAll l).2, ())), (l, ())) := by
  unfold p_96
  dsimp only
  refine (l96a N l hl _ _ N 0 1 false (by omega) (by omega)).trans ?_
  simp only [List.drop_zero, Bool.false_or]
  unfold mulAll
  cases ha : l.all held with
  | false => simp
  | true =>
    simp only [cond_true]
    cases hz : l.any (· == 0) with
    | true => simp
    | false =>
      have hh : ∀ a ∈ l, 0 ≤ a ∧ a ≤ 4611686018427387904 := fun a hm => of_decide_eq_true (List.all_eq_true.1 ha a hm)
      rw [bif_f rfl]
      refine (l96b N l hl hh _ _ N 0 1 (by omega) (by omega) (by omega) (by omega)).trans ?_
      simp only [List.drop_zero]
      cases mulGo l 1 <;> simp

/-! ### steps, tallied -/
abbrev Ev := Int × (Int × ((Int × (Int × Unit)) × ((Int × (Int × Unit)) × ((Int × (Int × Unit)) × Unit))))
def ev (k : Int) : Ev := (k, (0, ((0, (0, ())), ((0, (0, ())), ((0, (0, ())), ())))))
def cnt (j : Int) (l : List Int) : Int := ((l.filter (· == j)).length : Nat)
theorem cnt_cons (j a : Int) (l : List Int) : cnt j (a :: l) = (if a = j then 1 else 0) + cnt j l := by
  unfold cnt
  by_cases h : a = j
  · rw [List.filter_cons_of_pos (by simp [h]), if_pos h]; simp; omega
  · rw [List.filter_cons_of_neg (by simp [h]), if_neg h]; omega
theorem cnt_le (j : Int) (l : List Int) : 0 ≤ cnt j l ∧ cnt j l ≤ l.length := by
  unfold cnt
  have := List.length_filter_le (· == j) l
  omega
theorem l61 {R : Type} (N : Nat) (l : List Int) (hl : l.length ≤ 200) (κ) : ∀ (n i : Nat) (acc : List Ev), i ≤ l.length → l.length - i < n → acc.length ≤ i →
    l_61_3 (R := R) N n (((), l, (l.length : Int), (i : Int), ()), (acc, ())) κ = κ (((), ()), (acc ++ (l.drop i).map ev, ()))
  | 0, i, acc, h1, h2, h3 => by omega
  | n + 1, i, acc, h1, h2, h3 => by
    unfold l_61_3 B_61_3
    dsimp only
    by_cases hi : i < l.length
    · have hd : l.drop i = l[i] :: l.drop (i + 1) := List.drop_eq_getElem_cons hi
      have hg : List.getD l i (Sch.zero (.int .i64)) = l[i] := by simp [hi]
      have e3 : addA .i64 (i : Int) 1 = ((i + 1 : Nat) : Int) := by rw [add64 (by omega) (by omega)]; simp
      rw [bif_t (dT (show (i : Int) < (l.length : Int) by omega)), bif_t (dT (show (0 : Int) ≤ (i : Int) by omega)), bif_t (dT (show (i : Int) < (l.length : Int) by omega)), Int.toNat_natCast, hg, e3, hd]
      rw [dT (by simp; omega)]
      simp only [Bool.and_true, cond_true]
      refine (l61 N l hl κ n (i + 1) (acc ++ [ev l[i]]) (by omega) (by omega) (by simp; omega)).trans ?_
      rw [List.map_cons, List.append_assoc]; rfl
    · rw [bif_f (dF (by omega)), List.drop_eq_nil_of_le (by omega)]
      simp
theorem p61 {R : Type} (N : Nat) (hN : 1000 < N) (l : List Int) (hl : l.length ≤ 200) (κ) : p_61 (R := R) N ((l, ()), ()) κ = κ (l.map ev, ()) := by
  unfold p_61
  dsimp only
  refine (l61 N l hl _ N 0 [] (by omega) (by omega) (by simp)).trans ?_
  simp
theorem l60 {R : Type} (N : Nat) (l : List Int) (hl : l.length ≤ 200) (z : Int × (Int × (Int × Unit))) (κ) : ∀ (n i : Nat) (a b c : Int), i ≤ l.length → l.length - i < n → (0 ≤ a ∧ a ≤ i) → (0 ≤ b ∧ b ≤ i) → (0 ≤ c ∧ c ≤ i) →
    l_60_3 (R := R) N n (((), (), l.map ev, (l.length : Int), (i : Int), ()), (z, (a, (b, (c, ()))), ())) κ = κ (((), (), ()), (z, (a + cnt 1 (l.drop i), (b + cnt 2 (l.drop i), (c + cnt 3 (l.drop i), ()))), ()))
  | 0, i, a, b, c, h1, h2, h3, h4, h5 => by omega
  | n + 1, i, a, b, c, h1, h2, h3, h4, h5 => by
    unfold l_60_3 B_60_3
    obtain ⟨z0, z1, z2, zu⟩ := z
    dsimp only
    by_cases hi : i < l.length
    · have hd : l.drop i = l[i] :: l.drop (i + 1) := List.drop_eq_getElem_cons hi
      have hg : List.getD (l.map ev) i (Sch.zero (.stru (.fcons (.int .i64) (.fcons (.int .i64) (.fcons (.stru (.fcons (.int .i64) (.fcons (.int .i64) (.fnil)))) (.fcons (.stru (.fcons (.int .i64) (.fcons (.int .i64) (.fnil)))) (.fcons (.stru (.fcons (.int .i64) (.fcons (.int .i64) (.fnil)))) (.fnil)))))))) = ev l[i] := by simp [hi]
      have e3 : addA .i64 (i : Int) 1 = ((i + 1 : Nat) : Int) := by rw [add64 (by omega) (by omega)]; simp
      rw [bif_t (dT (show (i : Int) < (l.length : Int) by omega)), bif_t (dT (show (0 : Int) ≤ (i : Int) by omega)), bif_t (dT (show (i : Int) < ((l.map ev).length : Int) by rw [List.length_map]; omega)), Int.toNat_natCast, hg, e3, hd, cnt_cons, cnt_cons, cnt_cons]
      rw [add64 (a := a) (by omega) (by omega), add64 (a := b) (by omega) (by omega), add64 (a := c) (by omega) (by omega)]
      show (bif l[i] == 1 then _ else bif l[i] == 2 then _ else bif l[i] == 3 then _ else _) = _
      by_cases c1 : l[i] = 1
      · rw [bif_t (beq_iff_eq.2 c1), if_pos c1, if_neg (by omega), if_neg (by omega)]
        refine (l60 N l hl (z0, (z1, (z2, zu))) κ n (i + 1) (a + 1) b c (by omega) (by omega) (by omega) (by omega) (by omega)).trans ?_
        rw [Int.zero_add, Int.zero_add, ← Int.add_assoc]
      · rw [bif_f (beq_eq_false_iff_ne.2 c1), if_neg c1]
        by_cases c2 : l[i] = 2
        · rw [bif_t (beq_iff_eq.2 c2), if_pos c2, if_neg (by omega)]
          refine (l60 N l hl (z0, (z1, (z2, zu))) κ n (i + 1) a (b + 1) c (by omega) (by omega) (by omega) (by omega) (by omega)).trans ?_
          rw [Int.zero_add, Int.zero_add, ← Int.add_assoc]
        · rw [bif_f (beq_eq_false_iff_ne.2 c2), if_neg c2]
          by_cases c3 : l[i] = 3
          · rw [bif_t (beq_iff_eq.2 c3), if_pos c3]
            refine (l60 N l hl (z0, (z1, (z2, zu))) κ n (i + 1) a b (c + 1) (by omega) (by omega) (by omega) (by omega) (by omega)).trans ?_
            rw [Int.zero_add, Int.zero_add, ← Int.add_assoc]
          · rw [bif_f (beq_eq_false_iff_ne.2 c3), if_neg c3]
            refine (l60 N l hl (z0, (z1, (z2, zu))) κ n (i + 1) a b c (by omega) (by omega) (by omega) (by omega) (by omega)).trans ?_
            rw [Int.zero_add, Int.zero_add, Int.zero_add]
    · rw [bif_f (dF (by omega)), List.drop_eq_nil_of_le (by omega)]
      simp [cnt]
theorem p60 {R : Type} (N : Nat) (hN : 1000 < N) (l : List Int) (hl : l.length ≤ 200) (κ) : p_60 (R := R) N ((l.map ev, ()), ()) κ = κ ((cnt 1 l, (cnt 2 l, (cnt 3 l, ()))), ()) := by
  unfold p_60
  dsimp only
  rw [List.length_map]
  refine (l60 N l hl _ _ N 0 0 0 0 (by omega) (by omega) (by omega) (by omega) (by omega)).trans ?_
  simp
theorem upd_same {α : Type} (f : Nat → α) (i : Nat) (x : α) : upd f i x i = x := by simp [upd]
theorem upd_other {α : Type} (f : Nat → α) {i j : Nat} (x : α) (h : j ≠ i) : upd f i x j = f j := by
  show (bif Nat.beq j i then x else f j) = f j
  cases hq : Nat.beq j i with
  | false => rfl
  | true => exact absurd (Nat.eq_of_beq_eq_true hq) h
theorem l13 {R : Type} (N : Nat) (l : List Int) (hl : l.length ≤ 200) (s : Int × (Int × (Int × (Int × (Int × (Int × (Int × (Int × Unit)))))))) (u v : Int × (Int × (Int × Unit))) (κ) : ∀ (n i : Nat) (f : Nat → Int), i ≤ l.length → l.length - i < n → (∀ j, 0 ≤ f j ∧ f j ≤ i) →
    ∃ f' : Nat → Int, (f' 1 = f 1 + cnt 1 (l.drop i) ∧ f' 2 = f 2 + cnt 2 (l.drop i) ∧ f' 3 = f 3 + cnt 3 (l.drop i)) ∧ l_13_10 (R := R) N n (((), (), (), (), l, (l.length : Int), (i : Int), ()), (s, u, v, f, ())) κ = κ (((), (), (), (), ()), (s, u, v, f', ()))
  | 0, i, f, h1, h2, h3 => by omega
  | n + 1, i, f, h1, h2, h3 => by
    unfold l_13_10 B_13_10
    obtain ⟨s0, s1, s2, s3, s4, s5, s6, s7, su⟩ := s
    obtain ⟨u0, u1, u2, uu⟩ := u
    obtain ⟨v0, v1, v2, vu⟩ := v
    dsimp only
    by_cases hi : i < l.length
    · have hd : l.drop i = l[i] :: l.drop (i + 1) := List.drop_eq_getElem_cons hi
      have hg : List.getD l i (Sch.zero (.int .i64)) = l[i] := by simp [hi]
      have e3 : addA .i64 (i : Int) 1 = ((i + 1 : Nat) : Int) := by rw [add64 (by omega) (by omega)]; simp
      rw [bif_t (dT (show (i : Int) < (l.length : Int) by omega)), bif_t (dT (show (0 : Int) ≤ (i : Int) by omega)), bif_t (dT (show (i : Int) < (l.length : Int) by omega)), Int.toNat_natCast, hg, e3, hd]
      simp only [cnt_cons]
      by_cases c1 : 1 ≤ l[i]
      · rw [bif_t (dT (show l[i] ≥ 1 from c1))]
        by_cases c2 : l[i] ≤ 3
        · rw [bif_t (dT c2), bif_t (dT (show 0 ≤ l[i] by omega)), bif_t (dT (show l[i] < 4 by omega)), bif_t (dT (show 0 ≤ l[i] by omega)), bif_t (dT (show l[i] < 4 by omega))]
          have hf := h3 l[i].toNat
          rw [add64 (a := f l[i].toNat) (by omega) (by omega)]
          obtain ⟨f', ⟨g1, g2, g3⟩, g4⟩ := l13 N l hl (s0, (s1, (s2, (s3, (s4, (s5, (s6, (s7, su)))))))) (u0, (u1, (u2, uu))) (v0, (v1, (v2, vu))) κ n (i + 1) (upd f l[i].toNat (f l[i].toNat + 1)) (by omega) (by omega) (fun j => by
            by_cases hj : j = l[i].toNat
            · subst hj; rw [upd_same]; omega
            · rw [upd_other _ _ hj]; have := h3 j; omega)
          refine ⟨f', ⟨?_, ?_, ?_⟩, g4⟩
          · rw [g1]
            by_cases e : l[i] = 1
            · rw [if_pos e, e, show (1 : Int).toNat = 1 from rfl, upd_same]; omega
            · rw [if_neg e, upd_other _ _ (by omega)]; omega
          · rw [g2]
            by_cases e : l[i] = 2
            · rw [if_pos e, e, show (2 : Int).toNat = 2 from rfl, upd_same]; omega
            · rw [if_neg e, upd_other _ _ (by omega)]; omega
          · rw [g3]
            by_cases e : l[i] = 3
            · rw [if_pos e, e, show (3 : Int).toNat = 3 from rfl, upd_same]; omega
            · rw [if_neg e, upd_other _ _ (by omega)]; omega
        · rw [bif_f (dF c2), if_neg (by omega), if_neg (by omega), if_neg (by omega)]
          simp only [Int.zero_add]
          exact l13 N l hl (s0, (s1, (s2, (s3, (s4, (s5, (s6, (s7, su)))))))) (u0, (u1, (u2, uu))) (v0, (v1, (v2, vu))) κ n (i + 1) f (by omega) (by omega) (fun j => by have := h3 j; omega)
      · rw [bif_f (dF c1), if_neg (by omega), if_neg (by omega), if_neg (by omega)]
        simp only [Int.zero_add]
        exact l13 N l hl (s0, (s1, (s2, (s3, (s4, (s5, (s6, (s7, su)))))))) (u0, (u1, (u2, uu))) (v0, (v1, (v2, vu))) κ n (i + 1) f (by omega) (by omega) (fun j => by have := h3 j; omega)
    · rw [bif_f (dF (by omega)), List.drop_eq_nil_of_le (by omega)]
      exact ⟨f, by simp [cnt], rfl⟩
theorem triple_eq (a b c d e f : Int) : schEq (.stru (.fcons (.int .i64) (.fcons (.int .i64) (.fcons (.int .i64) .fnil)))) (a, (b, (c, ()))) (d, (e, (f, ()))) = decide (a = d ∧ b = e ∧ c = f) := by
  by_cases h1 : a = d
  · by_cases h2 : b = e
    · by_cases h3 : c = f <;> simp [schEq, h1, h2, h3]
    · simp [schEq, h1, h2]
  · simp [schEq, h1]
theorem triple_s (x y : Sch.den (.stru (.fcons (.int .i64) (.fcons (.int .i64) (.fcons (.int .i64) .fnil))))) : schEq (.stru (.fcons (.int .i64) (.fcons (.int .i64) (.fcons (.int .i64) .fnil)))) x y =
    (fun (a b c d e f : Int) => decide (a = d ∧ b = e ∧ c = f)) x.1 x.2.1 x.2.2.1 y.1 y.2.1 y.2.2.1 := triple_eq x.1 x.2.1 x.2.2.1 y.1 y.2.1 y.2.2.1
theorem p62 {R : Type} (N : Nat) (a b c d e f : Int) (h1 : 0 ≤ a ∧ a ≤ 200) (h2 : 0 ≤ b ∧ b ≤ 200) (h3 : 0 ≤ c ∧ c ≤ 200) (h4 : 0 ≤ d ∧ d ≤ 200) (h5 : 0 ≤ e ∧ e ≤ 200) (h6 : 0 ≤ f ∧ f ≤ 200) (κ) : p_62 (R := R) N (((a, (b, (c, ()))), (d, (e, (f, ()))), ()), ()) κ =
    bif decide (a ≥ d) && decide (b ≥ e) && decide (c ≥ f) then κ (((a - d, (b - e, (c - f, ()))), (true, ())), ()) else κ (((0, (0, (0, ()))), (false, ())), ()) := by
  unfold p_62
  dsimp only
  rw [sub64 (a := a) (by omega) (by omega), sub64 (a := b) (by omega) (by omega), sub64 (a := c) (by omega) (by omega)]
  by_cases g1 : a ≥ d
  · rw [bif_f (dF (by omega)), dT g1]
    by_cases g2 : b ≥ e
    · rw [bif_f (dF (by omega)), dT g2]
      by_cases g3 : c ≥ f
      · rw [bif_f (dF (by omega)), dT g3]; rfl
      · rw [bif_t (dT (by omega)), dF g3]; rfl
    · rw [bif_t (dT (by omega)), dF g2]; rfl
  · rw [bif_t (dT (by omega)), dF g1]; rfl
theorem sub_self64 (a : Int) : subA .i64 a a = 0 := by
  unfold subA
  rw [Int.sub_self]; rfl
theorem p62s {R : Type} (N : Nat) (a b c : Int) (κ) : p_62 (R := R) N (((a, (b, (c, ()))), (a, (b, (c, ()))), ()), ()) κ = κ (((0, (0, (0, ()))), (true, ())), ()) := by
  unfold p_62
  dsimp only
  rw [sub_self64, sub_self64, sub_self64]
  rfl
/-- How many steps of each kind a shape has, and the error's number. -/
def stepsOf (t l b : Int) : Int × Int × Int :=
  bif decide (l < 1) then (0, 0, 1) else
    bif (mulAll [t, b]).2 != 0 then (0, 0, (mulAll [t, b]).2) else
      bif (mulAll [t, 4, l]).2 != 0 then (0, 0, (mulAll [t, 4, l]).2) else (subA .i64 (mulAll [t, b]).1 (mulA .i64 2 l), (mulAll [t, 4, l]).1, 0)
theorem p63 {R : Type} (N : Nat) (hN : 1000 < N) (s0 t l s3 b s5 s6 s7 : Int) (κ) : p_63 (R := R) N (((s0, (t, (l, (s3, (b, (s5, (s6, (s7, ())))))))), ()), ()) κ =
    κ ((((stepsOf t l b).1, ((stepsOf t l b).1, ((stepsOf t l b).2.1, ()))), ((stepsOf t l b).2.2, ())), ()) := by
  unfold p_63 p_51 stepsOf
  dsimp only
  cases h1 : decide (l < 1) with
  | true => rfl
  | false =>
    simp only [cond_false]
    rw [p96 N [t, b] (by simp) hN]
    dsimp only
    cases h2 : ((mulAll [t, b]).2 != 0) with
    | true => simp only [cond_true, h2]
    | false =>
      simp only [cond_false, bne_self_eq_false]
      rw [p96 N [t, 4, l] (by simp) hN]
      dsimp only
      cases h3 : ((mulAll [t, 4, l]).2 != 0) with
      | true => simp only [cond_true]
      | false => simp only [cond_false]
theorem p59 {R : Type} (N : Nat) (hN : 1000 < N) (κ) : p_59 (R := R) N ((), ()) κ = κ (true, ()) := by
  unfold p_59
  dsimp only
  rw [p26, dT (by unfold Fit; omega)]
  simp only [cond_true]
  rw [p63 N hN]
  rfl
theorem p13 (N : Nat) (hN : 1000 < N) (a t m l s : Int) (x y : List Int) (κ) : p_13 (R := AV) N (((a, (t, (m, (l, (s, ()))))), x, y, ()), ()) κ = κ (true, ()) := by
  unfold p_13
  dsimp only
  rw [p59 N hN]
  simp only [Bool.not_true, cond_false]
  rw [p26]
  by_cases h : Fit a t m l s
  · rw [dT h]
    simp only [cond_true, bne_self_eq_false, cond_false]
    by_cases hx : (x.length : Int) > 200
    · rw [bif_t (dT hx)]
    rw [bif_f (dF hx)]
    by_cases hy : (y.length : Int) > 200
    · rw [bif_t (dT hy)]
    rw [bif_f (dF hy), p61 N hN x (by omega)]
    simp only []
    rw [p60 N hN x (by omega)]
    simp only []
    rw [p61 N hN y (by omega)]
    simp only []
    rw [p60 N hN y (by omega)]
    simp only []
    have hf0 : ∀ j, 0 ≤ (Sch.zero (.arr 4 (.int .i64)) : Nat → Int) j ∧ (Sch.zero (.arr 4 (.int .i64)) : Nat → Int) j ≤ (0 : Nat) := fun j => by simp [Sch.zero]
    have c1 := cnt_le 1 x
    have c2 := cnt_le 2 x
    have c3 := cnt_le 3 x
    have d1 := cnt_le 1 y
    have d2 := cnt_le 2 y
    have d3 := cnt_le 3 y
    generalize hK : (fun y241 : (Unit × Unit × Unit × Unit × Unit) × ((Int × (Int × (Int × (Int × (Int × (Int × (Int × (Int × Unit)))))))) × (Int × (Int × (Int × Unit))) × (Int × (Int × (Int × Unit))) × (Nat → Int) × Unit) => _) = K
    obtain ⟨f', ⟨g1, g2, g3⟩, g4⟩ := l13 (R := AV) N x (by omega) _ _ _ K N 0 _ (by omega) (by omega) hf0
    refine Eq.trans g4 ?_
    clear g4
    subst hK
    simp only [List.drop_zero, Sch.zero, Int.zero_add] at g1 g2 g3
    simp only [g1, g2, g3, triple_s, and_self, decide_true, Bool.not_true, cond_false]
    rw [p62 N _ _ _ _ _ _ (by omega) (by omega) (by omega) (by omega) (by omega) (by omega)]
    simp only [p63 N hN, p62s, triple_s, and_self, decide_true, cond_true]
    rw [sub64 (a := cnt 1 x) (by omega) (by omega), sub64 (a := cnt 2 x) (by omega) (by omega), sub64 (a := cnt 3 x) (by omega) (by omega)]
    cases decide (cnt 1 x ≥ cnt 1 y) <;> cases decide (cnt 2 x ≥ cnt 2 y) <;> cases decide (cnt 3 x ≥ cnt 3 y) <;> simp [triple_s]
  · rw [dF h]; rfl
theorem law_all (y0 : Sch.den (.stru (.fcons (.int .i64) (.fcons (.int .i64) (.fcons (.int .i64) (.fcons (.int .i64) (.fcons (.int .i64) .fnil))))))) {P0 : Prop} (wf0 : P0) (y1 : List Int) {P1 : Prop} (wf1 : P1) (y2 : List Int) {P2 : Prop} (wf2 : P2) :
    ∃ H', ACalls Try.prog 13 [toAV (.stru (.fcons (.int .i64) (.fcons (.int .i64) (.fcons (.int .i64) (.fcons (.int .i64) (.fcons (.int .i64) .fnil)))))) y0, toAV (.sl (.int .i64)) y1, toAV (.sl (.int .i64)) y2] [] (.bool true) H' :=
  gd_law (good_13 1001) (x := (y0, y1, y2, ())) (by
    obtain ⟨a, t, m, l, s, u⟩ := y0
    exact p13 1001 (by omega) a t m l s y1 y2 _)
end Go.Proofs.Ytjehpceomlnicaa.Eng
