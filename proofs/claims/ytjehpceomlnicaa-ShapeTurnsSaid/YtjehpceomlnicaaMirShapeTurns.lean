/-
Plain functions that the functions of the program are shown to come to, printed by a program of the prover; each with its proof.
Conditions: none.
-/
import Derived.Test.YtjehpceomlnicaaProg
import Derived.Test.YtjehpceomlnicaaEngY
import Derived.KernelRfl
set_option linter.unusedVariables false
set_option linter.unusedSimpArgs false
namespace Go.Proofs.Ytjehpceomlnicaa.Eng
def TT : Types := [(35, ⟨.stru [(3, 0), (3, 1), (3, 2), (3, 3), (3, 4)], 5, 40, .node (.fcons (.int .i64 0) (.fcons (.int .i64 0) (.fcons (.int .i64 0) (.fcons (.int .i64 0) (.fcons (.int .i64 0) (.fnil)))))), some (.stru (.fcons (.int .i64) (.fcons (.int .i64) (.fcons (.int .i64) (.fcons (.int .i64) (.fcons (.int .i64) (.fnil))))))), true⟩),
  (4, ⟨.bool, 1, 1, .bool false, some (.bool), false⟩),
  (3, ⟨.int .i64, 1, 8, .int .i64 0, some (.int .i64), false⟩),
  (37, ⟨.stru [(3, 0), (3, 1), (3, 2), (3, 3), (3, 4), (3, 5), (3, 6), (3, 7)], 8, 64, .node (.fcons (.int .i64 0) (.fcons (.int .i64 0) (.fcons (.int .i64 0) (.fcons (.int .i64 0) (.fcons (.int .i64 0) (.fcons (.int .i64 0) (.fcons (.int .i64 0) (.fcons (.int .i64 0) (.fnil))))))))), some (.stru (.fcons (.int .i64) (.fcons (.int .i64) (.fcons (.int .i64) (.fcons (.int .i64) (.fcons (.int .i64) (.fcons (.int .i64) (.fcons (.int .i64) (.fcons (.int .i64) (.fnil)))))))))), true⟩),
  (38, ⟨.int .i64, 1, 8, .int .i64 0, some (.int .i64), false⟩),
  (79, ⟨.stru [(3, 0), (3, 1)], 2, 16, .node (.fcons (.int .i64 0) (.fcons (.int .i64 0) (.fnil))), some (.stru (.fcons (.int .i64) (.fcons (.int .i64) (.fnil)))), true⟩),
  (49, ⟨.slice 3, 1, 24, .nils, some (.sl (.int .i64)), false⟩),
  (61, ⟨.int .u64, 1, 8, .int .u64 0, some (.int .u64), false⟩)]
theorem tyok : TyOk Try.prog TT := TyOk.of (by kernel_rfl)
theorem mixed : Try.prog.follows .mixedOrders = true := by kernel_rfl
def QQ : FuncId → Bool := fun f => memN [50] f
def LN : FuncId → Bool := fun f => memN [] f
def ap_87 : List Pat := [.int .i64, .int .i64, .int .i64]
def hp_87 : List (Option (Pat × Nat)) := []
def p_87 {R : Type} (N : Nat) (x : (Int × Int × Int × Unit) × (Unit)) (κ0 : (Bool × (Unit)) → Option R) : Option R :=
let i11 : Int := x.1.1
let i12 : Int := x.1.2.1
let i13 : Int := x.1.2.2.1
bif (decide (i11 ≥ i12)) then (
κ0 ((decide (i11 ≤ i13)), ())) else (
κ0 (false, ()))

def Q_87 {R : Type} (x : (Int × Int × Int × Unit) × (Unit)) (κ0 : (Bool × (Unit)) → Option R) : Option R :=
let i11 : Int := x.1.1
let i12 : Int := x.1.2.1
let i13 : Int := x.1.2.2.1
bif (decide (i11 ≥ i12)) then (
κ0 ((decide (i11 ≤ i13)), ())) else (
κ0 (false, ()))
def EG_87 {R : Type} : Env R := Env.base QQ LN
def LG_87 {R : Type} : Loops R := Loops.none
def E_87 {R : Type} (N : Nat) : Env R := EG_87
theorem eok_87 {R : Type} (N : Nat) : EK Try.prog (E_87 (R := R) N) := ek_base _ _
def L_87 {R : Type} (N : Nat) : Loops R := LG_87
theorem lok_87 {R : Type} (N : Nat) : LOK 0 TT (E_87 (R := R) N) (drawOk TT QQ) (L_87 N) (bodyOf Try.f87) := loops_nil (by kernel_rfl)
theorem grun_87 {R : Type} (x : aden ap_87 × hden hp_87) (k : KF R) : fnrun TT (EG_87) (drawOk TT QQ) (LG_87) true Try.f87 (instA ap_87 x.1) (instH hp_87 x.2) k = Q_87 x (fun y => k (Pat.inst (.bool) y.1) (instH [] y.2)) := by kernel_rfl
theorem run_87 {R : Type} (N : Nat) (x : aden ap_87 × hden hp_87) (k : KF R) : fnrun TT (E_87 (R := R) N) (drawOk TT QQ) (L_87 N) true Try.f87 (instA ap_87 x.1) (instH hp_87 x.2) k = p_87 N x (fun y => k (Pat.inst (.bool) y.1) (instH [] y.2)) := (grun_87 x k).trans (by kernel_rfl)
theorem good_87 {R : Type} (N : Nat) : GD (X := R) Try.prog QQ 87 ap_87 hp_87 (fun (x : aden ap_87 × hden hp_87) k => p_87 N x (fun y => k (Pat.inst (.bool) y.1) (instH [] y.2))) :=
  gd_loud (E := E_87 N) (p := fun (x : aden ap_87 × hden hp_87) k => p_87 N x (fun y => k (Pat.inst (.bool) y.1) (instH [] y.2))) mixed tyok (eok_87 N) Try.func87 (by kernel_rfl) (by kernel_rfl) (by kernel_rfl) (lok_87 N) (fun x k => run_87 N x k)

def ap_116 : List Pat := [.int .i64]
def hp_116 : List (Option (Pat × Nat)) := []
def p_116 {R : Type} (N : Nat) (x : (Int × Unit) × (Unit)) (κ0 : (Bool × (Unit)) → Option R) : Option R :=
let i28 : Int := x.1.1
bif (decide (i28 ≥ 0)) then (
κ0 ((decide (i28 ≤ 4611686018427387904)), ())) else (
κ0 (false, ()))

def Q_116 {R : Type} (x : (Int × Unit) × (Unit)) (κ0 : (Bool × (Unit)) → Option R) : Option R :=
let i28 : Int := x.1.1
bif (decide (i28 ≥ 0)) then (
κ0 ((decide (i28 ≤ 4611686018427387904)), ())) else (
κ0 (false, ()))
def EG_116 {R : Type} : Env R := Env.base QQ LN
def LG_116 {R : Type} : Loops R := Loops.none
def E_116 {R : Type} (N : Nat) : Env R := EG_116
theorem eok_116 {R : Type} (N : Nat) : EK Try.prog (E_116 (R := R) N) := ek_base _ _
def L_116 {R : Type} (N : Nat) : Loops R := LG_116
theorem lok_116 {R : Type} (N : Nat) : LOK 0 TT (E_116 (R := R) N) (drawOk TT QQ) (L_116 N) (bodyOf Try.f116) := loops_nil (by kernel_rfl)
theorem grun_116 {R : Type} (x : aden ap_116 × hden hp_116) (k : KF R) : fnrun TT (EG_116) (drawOk TT QQ) (LG_116) true Try.f116 (instA ap_116 x.1) (instH hp_116 x.2) k = Q_116 x (fun y => k (Pat.inst (.bool) y.1) (instH [] y.2)) := by kernel_rfl
theorem run_116 {R : Type} (N : Nat) (x : aden ap_116 × hden hp_116) (k : KF R) : fnrun TT (E_116 (R := R) N) (drawOk TT QQ) (L_116 N) true Try.f116 (instA ap_116 x.1) (instH hp_116 x.2) k = p_116 N x (fun y => k (Pat.inst (.bool) y.1) (instH [] y.2)) := (grun_116 x k).trans (by kernel_rfl)
theorem good_116 {R : Type} (N : Nat) : GD (X := R) Try.prog QQ 116 ap_116 hp_116 (fun (x : aden ap_116 × hden hp_116) k => p_116 N x (fun y => k (Pat.inst (.bool) y.1) (instH [] y.2))) :=
  gd_loud (E := E_116 N) (p := fun (x : aden ap_116 × hden hp_116) k => p_116 N x (fun y => k (Pat.inst (.bool) y.1) (instH [] y.2))) mixed tyok (eok_116 N) Try.func116 (by kernel_rfl) (by kernel_rfl) (by kernel_rfl) (lok_116 N) (fun x k => run_116 N x k)

def ap_88 : List Pat := [.int .i64, .int .i64]
def hp_88 : List (Option (Pat × Nat)) := []
def p_88 {R : Type} (N : Nat) (x : (Int × Int × Unit) × (Unit)) (κ0 : ((Int × (Int × Unit)) × (Unit)) → Option R) : Option R :=
let i26 : Int := x.1.1
let i27 : Int := x.1.2.1
p_116 N ((i26, ()), ()) (fun y29 =>
let b30 : Bool := y29.1
bif (!b30) then (
κ0 ((0, (1, ())), ())) else (
bif (decide (i27 < 1)) then (
κ0 ((0, (1, ())), ())) else (
bif decide (i27 = 0) then none else (
let i31 : Int := remA .i64 i26 i27
let i32 : Int := subA .i64 i26 i31
κ0 ((i32, (0, ())), ())))))

def Q_88 {R : Type} (q_116 : (Int × Unit) × (Unit) → ((Bool × (Unit)) → Option R) → Option R) (x : (Int × Int × Unit) × (Unit)) (κ0 : ((Int × (Int × Unit)) × (Unit)) → Option R) : Option R :=
let i26 : Int := x.1.1
let i27 : Int := x.1.2.1
q_116 ((i26, ()), ()) (fun y29 =>
let b30 : Bool := y29.1
bif (!b30) then (
κ0 ((0, (1, ())), ())) else (
bif (decide (i27 < 1)) then (
κ0 ((0, (1, ())), ())) else (
bif decide (i27 = 0) then none else (
let i31 : Int := remA .i64 i26 i27
let i32 : Int := subA .i64 i26 i31
κ0 ((i32, (0, ())), ())))))
def EG_88 {R : Type} (q_116 : (Int × Unit) × (Unit) → ((Bool × (Unit)) → Option R) → Option R) : Env R := (Env.base QQ LN).add 116 ap_116 hp_116 (fun (x : aden ap_116 × hden hp_116) k => q_116 x (fun y => k (Pat.inst (.bool) y.1) (instH [] y.2)))
def LG_88 {R : Type} : Loops R := Loops.none
def E_88 {R : Type} (N : Nat) : Env R := EG_88 (p_116 N)
theorem eok_88 {R : Type} (N : Nat) : EK Try.prog (E_88 (R := R) N) := ek_add (ek_base _ _) (good_116 N)
def L_88 {R : Type} (N : Nat) : Loops R := LG_88
theorem lok_88 {R : Type} (N : Nat) : LOK 0 TT (E_88 (R := R) N) (drawOk TT QQ) (L_88 N) (bodyOf Try.f88) := loops_nil (by kernel_rfl)
theorem grun_88 {R : Type} (q_116 : (Int × Unit) × (Unit) → ((Bool × (Unit)) → Option R) → Option R) (x : aden ap_88 × hden hp_88) (k : KF R) : fnrun TT (EG_88 q_116) (drawOk TT QQ) (LG_88) true Try.f88 (instA ap_88 x.1) (instH hp_88 x.2) k = Q_88 q_116 x (fun y => k (Pat.inst (.tup (.fcons (.int .i64) (.fcons (.int .i64) (.fnil)))) y.1) (instH [] y.2)) := by kernel_rfl
theorem run_88 {R : Type} (N : Nat) (x : aden ap_88 × hden hp_88) (k : KF R) : fnrun TT (E_88 (R := R) N) (drawOk TT QQ) (L_88 N) true Try.f88 (instA ap_88 x.1) (instH hp_88 x.2) k = p_88 N x (fun y => k (Pat.inst (.tup (.fcons (.int .i64) (.fcons (.int .i64) (.fnil)))) y.1) (instH [] y.2)) := (grun_88 (p_116 N) x k).trans (by kernel_rfl)
theorem good_88 {R : Type} (N : Nat) : GD (X := R) Try.prog QQ 88 ap_88 hp_88 (fun (x : aden ap_88 × hden hp_88) k => p_88 N x (fun y => k (Pat.inst (.tup (.fcons (.int .i64) (.fcons (.int .i64) (.fnil)))) y.1) (instH [] y.2))) :=
  gd_loud (E := E_88 N) (p := fun (x : aden ap_88 × hden hp_88) k => p_88 N x (fun y => k (Pat.inst (.tup (.fcons (.int .i64) (.fcons (.int .i64) (.fnil)))) y.1) (instH [] y.2))) mixed tyok (eok_88 N) Try.func88 (by kernel_rfl) (by kernel_rfl) (by kernel_rfl) (lok_88 N) (fun x k => run_88 N x k)

def ap_26 : List Pat := [.node (.fcons (.int .i64) (.fcons (.int .i64) (.fcons (.int .i64) (.fcons (.int .i64) (.fcons (.int .i64) (.fnil))))))]
def hp_26 : List (Option (Pat × Nat)) := []
def p_26 {R : Type} (N : Nat) (x : ((Int × (Int × (Int × (Int × (Int × Unit))))) × Unit) × (Unit)) (κ0 : (((Int × (Int × (Int × (Int × (Int × (Int × (Int × (Int × Unit)))))))) × (Int × Unit)) × (Unit)) → Option R) : Option R :=
let i6 : Int := x.1.1.1
let i7 : Int := x.1.1.2.1
let i8 : Int := x.1.1.2.2.1
let i9 : Int := x.1.1.2.2.2.1
let i10 : Int := x.1.1.2.2.2.2.1
p_87 N ((i6, 1, 3, ()), ()) (fun y14 =>
let b15 : Bool := y14.1
bif b15 then (
p_87 N ((i7, 1, 4294967295, ()), ()) (fun y16 =>
let b17 : Bool := y16.1
bif b17 then (
p_87 N ((i9, 1, 16777215, ()), ()) (fun y18 =>
let b19 : Bool := y18.1
bif b19 then (
p_87 N ((i8, 1, 4294967295, ()), ()) (fun y20 =>
let b21 : Bool := y20.1
bif b21 then (
let i22 : Int := quoA .i64 i8 8
bif (decide (i22 ≥ i9)) then (
p_87 N ((i10, 4, 1024, ()), ()) (fun y23 =>
let b24 : Bool := y23.1
bif (!b24) then (
κ0 (((0, (0, (0, (0, (0, (0, (0, (0, ())))))))), (2, ())), ())) else (
let i25 : Int := mulA .i64 4 i9
p_88 N ((i8, i25, ()), ()) (fun y33 =>
let i34 : Int := y33.1.1
let i35 : Int := y33.1.2.1
bif decide (i9 = 0) then none else (
let i36 : Int := quoA .i64 i34 i9
let i37 : Int := quoA .i64 i36 4
κ0 (((i6, (i7, (i9, (i8, (i34, (i36, (i37, (i10, ())))))))), (0, ())), ())))))) else (
κ0 (((0, (0, (0, (0, (0, (0, (0, (0, ())))))))), (2, ())), ()))) else (
κ0 (((0, (0, (0, (0, (0, (0, (0, (0, ())))))))), (2, ())), ())))) else (
κ0 (((0, (0, (0, (0, (0, (0, (0, (0, ())))))))), (2, ())), ())))) else (
κ0 (((0, (0, (0, (0, (0, (0, (0, (0, ())))))))), (2, ())), ())))) else (
κ0 (((0, (0, (0, (0, (0, (0, (0, (0, ())))))))), (2, ())), ())))

def Q_26 {R : Type} (q_87 : (Int × Int × Int × Unit) × (Unit) → ((Bool × (Unit)) → Option R) → Option R) (q_88 : (Int × Int × Unit) × (Unit) → (((Int × (Int × Unit)) × (Unit)) → Option R) → Option R) (x : ((Int × (Int × (Int × (Int × (Int × Unit))))) × Unit) × (Unit)) (κ0 : (((Int × (Int × (Int × (Int × (Int × (Int × (Int × (Int × Unit)))))))) × (Int × Unit)) × (Unit)) → Option R) : Option R :=
let i6 : Int := x.1.1.1
let i7 : Int := x.1.1.2.1
let i8 : Int := x.1.1.2.2.1
let i9 : Int := x.1.1.2.2.2.1
let i10 : Int := x.1.1.2.2.2.2.1
q_87 ((i6, 1, 3, ()), ()) (fun y14 =>
let b15 : Bool := y14.1
bif b15 then (
q_87 ((i7, 1, 4294967295, ()), ()) (fun y16 =>
let b17 : Bool := y16.1
bif b17 then (
q_87 ((i9, 1, 16777215, ()), ()) (fun y18 =>
let b19 : Bool := y18.1
bif b19 then (
q_87 ((i8, 1, 4294967295, ()), ()) (fun y20 =>
let b21 : Bool := y20.1
bif b21 then (
let i22 : Int := quoA .i64 i8 8
bif (decide (i22 ≥ i9)) then (
q_87 ((i10, 4, 1024, ()), ()) (fun y23 =>
let b24 : Bool := y23.1
bif (!b24) then (
κ0 (((0, (0, (0, (0, (0, (0, (0, (0, ())))))))), (2, ())), ())) else (
let i25 : Int := mulA .i64 4 i9
q_88 ((i8, i25, ()), ()) (fun y33 =>
let i34 : Int := y33.1.1
let i35 : Int := y33.1.2.1
bif decide (i9 = 0) then none else (
let i36 : Int := quoA .i64 i34 i9
let i37 : Int := quoA .i64 i36 4
κ0 (((i6, (i7, (i9, (i8, (i34, (i36, (i37, (i10, ())))))))), (0, ())), ())))))) else (
κ0 (((0, (0, (0, (0, (0, (0, (0, (0, ())))))))), (2, ())), ()))) else (
κ0 (((0, (0, (0, (0, (0, (0, (0, (0, ())))))))), (2, ())), ())))) else (
κ0 (((0, (0, (0, (0, (0, (0, (0, (0, ())))))))), (2, ())), ())))) else (
κ0 (((0, (0, (0, (0, (0, (0, (0, (0, ())))))))), (2, ())), ())))) else (
κ0 (((0, (0, (0, (0, (0, (0, (0, (0, ())))))))), (2, ())), ())))
def EG_26 {R : Type} (q_87 : (Int × Int × Int × Unit) × (Unit) → ((Bool × (Unit)) → Option R) → Option R) (q_88 : (Int × Int × Unit) × (Unit) → (((Int × (Int × Unit)) × (Unit)) → Option R) → Option R) : Env R := ((Env.base QQ LN).add 87 ap_87 hp_87 (fun (x : aden ap_87 × hden hp_87) k => q_87 x (fun y => k (Pat.inst (.bool) y.1) (instH [] y.2)))).add 88 ap_88 hp_88 (fun (x : aden ap_88 × hden hp_88) k => q_88 x (fun y => k (Pat.inst (.tup (.fcons (.int .i64) (.fcons (.int .i64) (.fnil)))) y.1) (instH [] y.2)))
def LG_26 {R : Type} : Loops R := Loops.none
def E_26 {R : Type} (N : Nat) : Env R := EG_26 (p_87 N) (p_88 N)
theorem eok_26 {R : Type} (N : Nat) : EK Try.prog (E_26 (R := R) N) := ek_add (ek_add (ek_base _ _) (good_87 N)) (good_88 N)
def L_26 {R : Type} (N : Nat) : Loops R := LG_26
theorem lok_26 {R : Type} (N : Nat) : LOK 0 TT (E_26 (R := R) N) (drawOk TT QQ) (L_26 N) (bodyOf Try.f26) := loops_nil (by kernel_rfl)
theorem grun_26 {R : Type} (q_87 : (Int × Int × Int × Unit) × (Unit) → ((Bool × (Unit)) → Option R) → Option R) (q_88 : (Int × Int × Unit) × (Unit) → (((Int × (Int × Unit)) × (Unit)) → Option R) → Option R) (x : aden ap_26 × hden hp_26) (k : KF R) : fnrun TT (EG_26 q_87 q_88) (drawOk TT QQ) (LG_26) true Try.f26 (instA ap_26 x.1) (instH hp_26 x.2) k = Q_26 q_87 q_88 x (fun y => k (Pat.inst (.tup (.fcons (.node (.fcons (.int .i64) (.fcons (.int .i64) (.fcons (.int .i64) (.fcons (.int .i64) (.fcons (.int .i64) (.fcons (.int .i64) (.fcons (.int .i64) (.fcons (.int .i64) (.fnil)))))))))) (.fcons (.int .i64) (.fnil)))) y.1) (instH [] y.2)) := by kernel_rfl
theorem run_26 {R : Type} (N : Nat) (x : aden ap_26 × hden hp_26) (k : KF R) : fnrun TT (E_26 (R := R) N) (drawOk TT QQ) (L_26 N) true Try.f26 (instA ap_26 x.1) (instH hp_26 x.2) k = p_26 N x (fun y => k (Pat.inst (.tup (.fcons (.node (.fcons (.int .i64) (.fcons (.int .i64) (.fcons (.int .i64) (.fcons (.int .i64) (.fcons (.int .i64) (.fcons (.int .i64) (.fcons (.int .i64) (.fcons (.int .i64) (.fnil)))))))))) (.fcons (.int .i64) (.fnil)))) y.1) (instH [] y.2)) := (grun_26 (p_87 N) (p_88 N) x k).trans (by kernel_rfl)
theorem good_26 {R : Type} (N : Nat) : GD (X := R) Try.prog QQ 26 ap_26 hp_26 (fun (x : aden ap_26 × hden hp_26) k => p_26 N x (fun y => k (Pat.inst (.tup (.fcons (.node (.fcons (.int .i64) (.fcons (.int .i64) (.fcons (.int .i64) (.fcons (.int .i64) (.fcons (.int .i64) (.fcons (.int .i64) (.fcons (.int .i64) (.fcons (.int .i64) (.fnil)))))))))) (.fcons (.int .i64) (.fnil)))) y.1) (instH [] y.2))) :=
  gd_loud (E := E_26 N) (p := fun (x : aden ap_26 × hden hp_26) k => p_26 N x (fun y => k (Pat.inst (.tup (.fcons (.node (.fcons (.int .i64) (.fcons (.int .i64) (.fcons (.int .i64) (.fcons (.int .i64) (.fcons (.int .i64) (.fcons (.int .i64) (.fcons (.int .i64) (.fcons (.int .i64) (.fnil)))))))))) (.fcons (.int .i64) (.fnil)))) y.1) (instH [] y.2))) mixed tyok (eok_26 N) Try.func26 (by kernel_rfl) (by kernel_rfl) (by kernel_rfl) (lok_26 N) (fun x k => run_26 N x k)

def ap_25 : List Pat := []
def hp_25 : List (Option (Pat × Nat)) := []
def p_25 {R : Type} (N : Nat) (x : (Unit) × (Unit)) (κ0 : (Bool × (Unit)) → Option R) : Option R :=
p_26 N (((3, (1, (37, (2, (32, ()))))), ()), ()) (fun y38 =>
let i39 : Int := y38.1.1.1
let i40 : Int := y38.1.1.2.1
let i41 : Int := y38.1.1.2.2.1
let i42 : Int := y38.1.1.2.2.2.1
let i43 : Int := y38.1.1.2.2.2.2.1
let i44 : Int := y38.1.1.2.2.2.2.2.1
let i45 : Int := y38.1.1.2.2.2.2.2.2.1
let i46 : Int := y38.1.1.2.2.2.2.2.2.2.1
let i47 : Int := y38.1.2.1
bif (i47 == 0) then (
bif (i43 == 32) then (
bif (i44 == 16) then (
κ0 ((i45 == 4), ())) else (
κ0 (false, ()))) else (
κ0 (false, ()))) else (
κ0 (false, ())))

def Q_25 {R : Type} (q_26 : ((Int × (Int × (Int × (Int × (Int × Unit))))) × Unit) × (Unit) → ((((Int × (Int × (Int × (Int × (Int × (Int × (Int × (Int × Unit)))))))) × (Int × Unit)) × (Unit)) → Option R) → Option R) (x : (Unit) × (Unit)) (κ0 : (Bool × (Unit)) → Option R) : Option R :=
q_26 (((3, (1, (37, (2, (32, ()))))), ()), ()) (fun y38 =>
let i39 : Int := y38.1.1.1
let i40 : Int := y38.1.1.2.1
let i41 : Int := y38.1.1.2.2.1
let i42 : Int := y38.1.1.2.2.2.1
let i43 : Int := y38.1.1.2.2.2.2.1
let i44 : Int := y38.1.1.2.2.2.2.2.1
let i45 : Int := y38.1.1.2.2.2.2.2.2.1
let i46 : Int := y38.1.1.2.2.2.2.2.2.2.1
let i47 : Int := y38.1.2.1
bif (i47 == 0) then (
bif (i43 == 32) then (
bif (i44 == 16) then (
κ0 ((i45 == 4), ())) else (
κ0 (false, ()))) else (
κ0 (false, ()))) else (
κ0 (false, ())))
def EG_25 {R : Type} (q_26 : ((Int × (Int × (Int × (Int × (Int × Unit))))) × Unit) × (Unit) → ((((Int × (Int × (Int × (Int × (Int × (Int × (Int × (Int × Unit)))))))) × (Int × Unit)) × (Unit)) → Option R) → Option R) : Env R := (Env.base QQ LN).add 26 ap_26 hp_26 (fun (x : aden ap_26 × hden hp_26) k => q_26 x (fun y => k (Pat.inst (.tup (.fcons (.node (.fcons (.int .i64) (.fcons (.int .i64) (.fcons (.int .i64) (.fcons (.int .i64) (.fcons (.int .i64) (.fcons (.int .i64) (.fcons (.int .i64) (.fcons (.int .i64) (.fnil)))))))))) (.fcons (.int .i64) (.fnil)))) y.1) (instH [] y.2)))
def LG_25 {R : Type} : Loops R := Loops.none
def E_25 {R : Type} (N : Nat) : Env R := EG_25 (p_26 N)
theorem eok_25 {R : Type} (N : Nat) : EK Try.prog (E_25 (R := R) N) := ek_add (ek_base _ _) (good_26 N)
def L_25 {R : Type} (N : Nat) : Loops R := LG_25
theorem lok_25 {R : Type} (N : Nat) : LOK 0 TT (E_25 (R := R) N) (drawOk TT QQ) (L_25 N) (bodyOf Try.f25) := loops_nil (by kernel_rfl)
theorem grun_25 {R : Type} (q_26 : ((Int × (Int × (Int × (Int × (Int × Unit))))) × Unit) × (Unit) → ((((Int × (Int × (Int × (Int × (Int × (Int × (Int × (Int × Unit)))))))) × (Int × Unit)) × (Unit)) → Option R) → Option R) (x : aden ap_25 × hden hp_25) (k : KF R) : fnrun TT (EG_25 q_26) (drawOk TT QQ) (LG_25) true Try.f25 (instA ap_25 x.1) (instH hp_25 x.2) k = Q_25 q_26 x (fun y => k (Pat.inst (.bool) y.1) (instH [] y.2)) := by kernel_rfl
theorem run_25 {R : Type} (N : Nat) (x : aden ap_25 × hden hp_25) (k : KF R) : fnrun TT (E_25 (R := R) N) (drawOk TT QQ) (L_25 N) true Try.f25 (instA ap_25 x.1) (instH hp_25 x.2) k = p_25 N x (fun y => k (Pat.inst (.bool) y.1) (instH [] y.2)) := (grun_25 (p_26 N) x k).trans (by kernel_rfl)
theorem good_25 {R : Type} (N : Nat) : GD (X := R) Try.prog QQ 25 ap_25 hp_25 (fun (x : aden ap_25 × hden hp_25) k => p_25 N x (fun y => k (Pat.inst (.bool) y.1) (instH [] y.2))) :=
  gd_loud (E := E_25 N) (p := fun (x : aden ap_25 × hden hp_25) k => p_25 N x (fun y => k (Pat.inst (.bool) y.1) (instH [] y.2))) mixed tyok (eok_25 N) Try.func25 (by kernel_rfl) (by kernel_rfl) (by kernel_rfl) (lok_25 N) (fun x k => run_25 N x k)

def ap_49 : List Pat := [.node (.fcons (.int .i64) (.fcons (.int .i64) (.fcons (.int .i64) (.fcons (.int .i64) (.fcons (.int .i64) (.fcons (.int .i64) (.fcons (.int .i64) (.fcons (.int .i64) (.fnil))))))))), .node (.fcons (.int .i64) (.fcons (.int .i64) (.fnil)))]
def hp_49 : List (Option (Pat × Nat)) := []
def p_49 {R : Type} (N : Nat) (x : ((Int × (Int × (Int × (Int × (Int × (Int × (Int × (Int × Unit)))))))) × (Int × (Int × Unit)) × Unit) × (Unit)) (κ0 : (Bool × (Unit)) → Option R) : Option R :=
let i80 : Int := x.1.1.1
let i81 : Int := x.1.1.2.1
let i82 : Int := x.1.1.2.2.1
let i83 : Int := x.1.1.2.2.2.1
let i84 : Int := x.1.1.2.2.2.2.1
let i85 : Int := x.1.1.2.2.2.2.2.1
let i86 : Int := x.1.1.2.2.2.2.2.2.1
let i87 : Int := x.1.1.2.2.2.2.2.2.2.1
let i88 : Int := x.1.2.1.1
let i89 : Int := x.1.2.1.2.1
let i90 : Int := subA .i64 i81 1
p_87 N ((i88, 0, i90, ()), ()) (fun y91 =>
let b92 : Bool := y91.1
bif b92 then (
p_87 N ((i89, 0, 3, ()), ()) (fun y93 =>
let b94 : Bool := y93.1
κ0 (b94, ()))) else (
κ0 (false, ())))

def Q_49 {R : Type} (q_87 : (Int × Int × Int × Unit) × (Unit) → ((Bool × (Unit)) → Option R) → Option R) (x : ((Int × (Int × (Int × (Int × (Int × (Int × (Int × (Int × Unit)))))))) × (Int × (Int × Unit)) × Unit) × (Unit)) (κ0 : (Bool × (Unit)) → Option R) : Option R :=
let i80 : Int := x.1.1.1
let i81 : Int := x.1.1.2.1
let i82 : Int := x.1.1.2.2.1
let i83 : Int := x.1.1.2.2.2.1
let i84 : Int := x.1.1.2.2.2.2.1
let i85 : Int := x.1.1.2.2.2.2.2.1
let i86 : Int := x.1.1.2.2.2.2.2.2.1
let i87 : Int := x.1.1.2.2.2.2.2.2.2.1
let i88 : Int := x.1.2.1.1
let i89 : Int := x.1.2.1.2.1
let i90 : Int := subA .i64 i81 1
q_87 ((i88, 0, i90, ()), ()) (fun y91 =>
let b92 : Bool := y91.1
bif b92 then (
q_87 ((i89, 0, 3, ()), ()) (fun y93 =>
let b94 : Bool := y93.1
κ0 (b94, ()))) else (
κ0 (false, ())))
def EG_49 {R : Type} (q_87 : (Int × Int × Int × Unit) × (Unit) → ((Bool × (Unit)) → Option R) → Option R) : Env R := (Env.base QQ LN).add 87 ap_87 hp_87 (fun (x : aden ap_87 × hden hp_87) k => q_87 x (fun y => k (Pat.inst (.bool) y.1) (instH [] y.2)))
def LG_49 {R : Type} : Loops R := Loops.none
def E_49 {R : Type} (N : Nat) : Env R := EG_49 (p_87 N)
theorem eok_49 {R : Type} (N : Nat) : EK Try.prog (E_49 (R := R) N) := ek_add (ek_base _ _) (good_87 N)
def L_49 {R : Type} (N : Nat) : Loops R := LG_49
theorem lok_49 {R : Type} (N : Nat) : LOK 0 TT (E_49 (R := R) N) (drawOk TT QQ) (L_49 N) (bodyOf Try.f49) := loops_nil (by kernel_rfl)
theorem grun_49 {R : Type} (q_87 : (Int × Int × Int × Unit) × (Unit) → ((Bool × (Unit)) → Option R) → Option R) (x : aden ap_49 × hden hp_49) (k : KF R) : fnrun TT (EG_49 q_87) (drawOk TT QQ) (LG_49) true Try.f49 (instA ap_49 x.1) (instH hp_49 x.2) k = Q_49 q_87 x (fun y => k (Pat.inst (.bool) y.1) (instH [] y.2)) := by kernel_rfl
theorem run_49 {R : Type} (N : Nat) (x : aden ap_49 × hden hp_49) (k : KF R) : fnrun TT (E_49 (R := R) N) (drawOk TT QQ) (L_49 N) true Try.f49 (instA ap_49 x.1) (instH hp_49 x.2) k = p_49 N x (fun y => k (Pat.inst (.bool) y.1) (instH [] y.2)) := (grun_49 (p_87 N) x k).trans (by kernel_rfl)
theorem good_49 {R : Type} (N : Nat) : GD (X := R) Try.prog QQ 49 ap_49 hp_49 (fun (x : aden ap_49 × hden hp_49) k => p_49 N x (fun y => k (Pat.inst (.bool) y.1) (instH [] y.2))) :=
  gd_loud (E := E_49 N) (p := fun (x : aden ap_49 × hden hp_49) k => p_49 N x (fun y => k (Pat.inst (.bool) y.1) (instH [] y.2))) mixed tyok (eok_49 N) Try.func49 (by kernel_rfl) (by kernel_rfl) (by kernel_rfl) (lok_49 N) (fun x k => run_49 N x k)

def ap_50 : List Pat := [.node (.fcons (.int .i64) (.fcons (.int .i64) (.fcons (.int .i64) (.fcons (.int .i64) (.fcons (.int .i64) (.fcons (.int .i64) (.fcons (.int .i64) (.fcons (.int .i64) (.fnil))))))))), .int .i64, .int .i64]
def hp_50 : List (Option (Pat × Nat)) := []
def p_50 {R : Type} (N : Nat) (x : ((Int × (Int × (Int × (Int × (Int × (Int × (Int × (Int × Unit)))))))) × Int × Int × Unit) × (Unit)) (κ0 : Int → Option R) : Option R :=
let i98 : Int := x.1.1.1
let i99 : Int := x.1.1.2.1
let i100 : Int := x.1.1.2.2.1
let i101 : Int := x.1.1.2.2.2.1
let i102 : Int := x.1.1.2.2.2.2.1
let i103 : Int := x.1.1.2.2.2.2.2.1
let i104 : Int := x.1.1.2.2.2.2.2.2.1
let i105 : Int := x.1.1.2.2.2.2.2.2.2.1
let i106 : Int := x.1.2.1
let i107 : Int := x.1.2.2.1
bif (i106 == 0) then (
bif (i107 == 0) then (
κ0 2) else (
κ0 0)) else (
κ0 0)

def Q_50 {R : Type} (x : ((Int × (Int × (Int × (Int × (Int × (Int × (Int × (Int × Unit)))))))) × Int × Int × Unit) × (Unit)) (κ0 : Int → Option R) : Option R :=
let i98 : Int := x.1.1.1
let i99 : Int := x.1.1.2.1
let i100 : Int := x.1.1.2.2.1
let i101 : Int := x.1.1.2.2.2.1
let i102 : Int := x.1.1.2.2.2.2.1
let i103 : Int := x.1.1.2.2.2.2.2.1
let i104 : Int := x.1.1.2.2.2.2.2.2.1
let i105 : Int := x.1.1.2.2.2.2.2.2.2.1
let i106 : Int := x.1.2.1
let i107 : Int := x.1.2.2.1
bif (i106 == 0) then (
bif (i107 == 0) then (
κ0 2) else (
κ0 0)) else (
κ0 0)
def EG_50 {R : Type} : Env R := Env.base QQ LN
def LG_50 {R : Type} : Loops R := Loops.none
def E_50 {R : Type} (N : Nat) : Env R := EG_50
theorem eok_50 {R : Type} (N : Nat) : EK Try.prog (E_50 (R := R) N) := ek_base _ _
def L_50 {R : Type} (N : Nat) : Loops R := LG_50
theorem lok_50 {R : Type} (N : Nat) : LOK 0 TT (E_50 (R := R) N) (drawOk TT QQ) (L_50 N) (bodyOf Try.f50) := loops_nil (by kernel_rfl)
theorem grun_50 {R : Type} (x : aden ap_50 × hden hp_50) (k : KF R) : fnrun TT (EG_50) (drawOk TT QQ) (LG_50) true Try.f50 (instA ap_50 x.1) (instH hp_50 x.2) k = Q_50 x (fun y => k (Pat.inst (.int .i64) y) (instH hp_50 x.2)) := by kernel_rfl
theorem run_50 {R : Type} (N : Nat) (x : aden ap_50 × hden hp_50) (k : KF R) : fnrun TT (E_50 (R := R) N) (drawOk TT QQ) (L_50 N) true Try.f50 (instA ap_50 x.1) (instH hp_50 x.2) k = p_50 N x (fun y => k (Pat.inst (.int .i64) y) (instH hp_50 x.2)) := (grun_50 x k).trans (by kernel_rfl)
theorem good_50 {R : Type} (N : Nat) : GD (X := R) Try.prog QQ 50 ap_50 hp_50 (fun (x : aden ap_50 × hden hp_50) k => p_50 N x (fun y => k (Pat.inst (.int .i64) y) (instH hp_50 x.2))) :=
  gd_quiet (E := E_50 N) (p := fun (x : aden ap_50 × hden hp_50) κ => p_50 N x (fun y => κ (Pat.inst (.int .i64) y))) mixed tyok (eok_50 N) Try.func50 (by kernel_rfl) (by kernel_rfl) (lok_50 N) (fun x k => run_50 N x k)

def ap_48 : List Pat := [.node (.fcons (.int .i64) (.fcons (.int .i64) (.fcons (.int .i64) (.fcons (.int .i64) (.fcons (.int .i64) (.fcons (.int .i64) (.fcons (.int .i64) (.fcons (.int .i64) (.fnil))))))))), .node (.fcons (.int .i64) (.fcons (.int .i64) (.fnil)))]
def hp_48 : List (Option (Pat × Nat)) := []
def p_48 {R : Type} (N : Nat) (x : ((Int × (Int × (Int × (Int × (Int × (Int × (Int × (Int × Unit)))))))) × (Int × (Int × Unit)) × Unit) × (Unit)) (κ0 : (((Int × (Int × Unit)) × (Bool × Unit)) × (Unit)) → Option R) : Option R :=
let i114 : Int := x.1.1.1
let i115 : Int := x.1.1.2.1
let i116 : Int := x.1.1.2.2.1
let i117 : Int := x.1.1.2.2.2.1
let i118 : Int := x.1.1.2.2.2.2.1
let i119 : Int := x.1.1.2.2.2.2.2.1
let i120 : Int := x.1.1.2.2.2.2.2.2.1
let i121 : Int := x.1.1.2.2.2.2.2.2.2.1
let i122 : Int := x.1.2.1.1
let i123 : Int := x.1.2.1.2.1
let i124 : Int := addA .i64 i123 1
bif (decide (i124 < 4)) then (
let i125 : Int := addA .i64 i123 1
κ0 (((i122, (i125, ())), (true, ())), ())) else (
let i126 : Int := subA .i64 i115 1
bif (decide (i122 < i126)) then (
let i127 : Int := addA .i64 i122 1
κ0 (((i127, (0, ())), (true, ())), ())) else (
κ0 (((0, (0, ())), (false, ())), ())))

def Q_48 {R : Type} (x : ((Int × (Int × (Int × (Int × (Int × (Int × (Int × (Int × Unit)))))))) × (Int × (Int × Unit)) × Unit) × (Unit)) (κ0 : (((Int × (Int × Unit)) × (Bool × Unit)) × (Unit)) → Option R) : Option R :=
let i114 : Int := x.1.1.1
let i115 : Int := x.1.1.2.1
let i116 : Int := x.1.1.2.2.1
let i117 : Int := x.1.1.2.2.2.1
let i118 : Int := x.1.1.2.2.2.2.1
let i119 : Int := x.1.1.2.2.2.2.2.1
let i120 : Int := x.1.1.2.2.2.2.2.2.1
let i121 : Int := x.1.1.2.2.2.2.2.2.2.1
let i122 : Int := x.1.2.1.1
let i123 : Int := x.1.2.1.2.1
let i124 : Int := addA .i64 i123 1
bif (decide (i124 < 4)) then (
let i125 : Int := addA .i64 i123 1
κ0 (((i122, (i125, ())), (true, ())), ())) else (
let i126 : Int := subA .i64 i115 1
bif (decide (i122 < i126)) then (
let i127 : Int := addA .i64 i122 1
κ0 (((i127, (0, ())), (true, ())), ())) else (
κ0 (((0, (0, ())), (false, ())), ())))
def EG_48 {R : Type} : Env R := Env.base QQ LN
def LG_48 {R : Type} : Loops R := Loops.none
def E_48 {R : Type} (N : Nat) : Env R := EG_48
theorem eok_48 {R : Type} (N : Nat) : EK Try.prog (E_48 (R := R) N) := ek_base _ _
def L_48 {R : Type} (N : Nat) : Loops R := LG_48
theorem lok_48 {R : Type} (N : Nat) : LOK 0 TT (E_48 (R := R) N) (drawOk TT QQ) (L_48 N) (bodyOf Try.f48) := loops_nil (by kernel_rfl)
theorem grun_48 {R : Type} (x : aden ap_48 × hden hp_48) (k : KF R) : fnrun TT (EG_48) (drawOk TT QQ) (LG_48) true Try.f48 (instA ap_48 x.1) (instH hp_48 x.2) k = Q_48 x (fun y => k (Pat.inst (.tup (.fcons (.node (.fcons (.int .i64) (.fcons (.int .i64) (.fnil)))) (.fcons (.bool) (.fnil)))) y.1) (instH [] y.2)) := by kernel_rfl
theorem run_48 {R : Type} (N : Nat) (x : aden ap_48 × hden hp_48) (k : KF R) : fnrun TT (E_48 (R := R) N) (drawOk TT QQ) (L_48 N) true Try.f48 (instA ap_48 x.1) (instH hp_48 x.2) k = p_48 N x (fun y => k (Pat.inst (.tup (.fcons (.node (.fcons (.int .i64) (.fcons (.int .i64) (.fnil)))) (.fcons (.bool) (.fnil)))) y.1) (instH [] y.2)) := (grun_48 x k).trans (by kernel_rfl)
theorem good_48 {R : Type} (N : Nat) : GD (X := R) Try.prog QQ 48 ap_48 hp_48 (fun (x : aden ap_48 × hden hp_48) k => p_48 N x (fun y => k (Pat.inst (.tup (.fcons (.node (.fcons (.int .i64) (.fcons (.int .i64) (.fnil)))) (.fcons (.bool) (.fnil)))) y.1) (instH [] y.2))) :=
  gd_loud (E := E_48 N) (p := fun (x : aden ap_48 × hden hp_48) k => p_48 N x (fun y => k (Pat.inst (.tup (.fcons (.node (.fcons (.int .i64) (.fcons (.int .i64) (.fnil)))) (.fcons (.bool) (.fnil)))) y.1) (instH [] y.2))) mixed tyok (eok_48 N) Try.func48 (by kernel_rfl) (by kernel_rfl) (by kernel_rfl) (lok_48 N) (fun x k => run_48 N x k)

def ap_86 : List Pat := [.int .u64, .int .u64]
def hp_86 : List (Option (Pat × Nat)) := []
def p_86 {R : Type} (N : Nat) (x : (Int × Int × Unit) × (Unit)) (κ0 : ((Int × (Int × Unit)) × (Unit)) → Option R) : Option R :=
let i187 : Int := x.1.1
let i188 : Int := x.1.2.1
let i189 : Int := andA .u64 i187 4294967295
let i190 : Int := shrA .u64 i187 32
let i191 : Int := andA .u64 i188 4294967295
let i192 : Int := shrA .u64 i188 32
let i193 : Int := mulA .u64 i189 i191
let i194 : Int := mulA .u64 i190 i191
let i195 : Int := shrA .u64 i193 32
let i196 : Int := addA .u64 i194 i195
let i197 : Int := andA .u64 i196 4294967295
let i198 : Int := shrA .u64 i196 32
let i199 : Int := mulA .u64 i189 i192
let i200 : Int := addA .u64 i197 i199
let i201 : Int := mulA .u64 i190 i192
let i202 : Int := addA .u64 i201 i198
let i203 : Int := shrA .u64 i200 32
let i204 : Int := addA .u64 i202 i203
let i205 : Int := mulA .u64 i187 i188
κ0 ((i204, (i205, ())), ())

def Q_86 {R : Type} (x : (Int × Int × Unit) × (Unit)) (κ0 : ((Int × (Int × Unit)) × (Unit)) → Option R) : Option R :=
let i187 : Int := x.1.1
let i188 : Int := x.1.2.1
let i189 : Int := andA .u64 i187 4294967295
let i190 : Int := shrA .u64 i187 32
let i191 : Int := andA .u64 i188 4294967295
let i192 : Int := shrA .u64 i188 32
let i193 : Int := mulA .u64 i189 i191
let i194 : Int := mulA .u64 i190 i191
let i195 : Int := shrA .u64 i193 32
let i196 : Int := addA .u64 i194 i195
let i197 : Int := andA .u64 i196 4294967295
let i198 : Int := shrA .u64 i196 32
let i199 : Int := mulA .u64 i189 i192
let i200 : Int := addA .u64 i197 i199
let i201 : Int := mulA .u64 i190 i192
let i202 : Int := addA .u64 i201 i198
let i203 : Int := shrA .u64 i200 32
let i204 : Int := addA .u64 i202 i203
let i205 : Int := mulA .u64 i187 i188
κ0 ((i204, (i205, ())), ())
def EG_86 {R : Type} : Env R := Env.base QQ LN
def LG_86 {R : Type} : Loops R := Loops.none
def E_86 {R : Type} (N : Nat) : Env R := EG_86
theorem eok_86 {R : Type} (N : Nat) : EK Try.prog (E_86 (R := R) N) := ek_base _ _
def L_86 {R : Type} (N : Nat) : Loops R := LG_86
theorem lok_86 {R : Type} (N : Nat) : LOK 0 TT (E_86 (R := R) N) (drawOk TT QQ) (L_86 N) (bodyOf Try.f86) := loops_nil (by kernel_rfl)
theorem grun_86 {R : Type} (x : aden ap_86 × hden hp_86) (k : KF R) : fnrun TT (EG_86) (drawOk TT QQ) (LG_86) true Try.f86 (instA ap_86 x.1) (instH hp_86 x.2) k = Q_86 x (fun y => k (Pat.inst (.tup (.fcons (.int .u64) (.fcons (.int .u64) (.fnil)))) y.1) (instH [] y.2)) := by kernel_rfl
theorem run_86 {R : Type} (N : Nat) (x : aden ap_86 × hden hp_86) (k : KF R) : fnrun TT (E_86 (R := R) N) (drawOk TT QQ) (L_86 N) true Try.f86 (instA ap_86 x.1) (instH hp_86 x.2) k = p_86 N x (fun y => k (Pat.inst (.tup (.fcons (.int .u64) (.fcons (.int .u64) (.fnil)))) y.1) (instH [] y.2)) := (grun_86 x k).trans (by kernel_rfl)
theorem good_86 {R : Type} (N : Nat) : GD (X := R) Try.prog QQ 86 ap_86 hp_86 (fun (x : aden ap_86 × hden hp_86) k => p_86 N x (fun y => k (Pat.inst (.tup (.fcons (.int .u64) (.fcons (.int .u64) (.fnil)))) y.1) (instH [] y.2))) :=
  gd_loud (E := E_86 N) (p := fun (x : aden ap_86 × hden hp_86) k => p_86 N x (fun y => k (Pat.inst (.tup (.fcons (.int .u64) (.fcons (.int .u64) (.fnil)))) y.1) (instH [] y.2))) mixed tyok (eok_86 N) Try.func86 (by kernel_rfl) (by kernel_rfl) (by kernel_rfl) (lok_86 N) (fun x k => run_86 N x k)

def lv_96_3 : Live := [(0, none), (4, none), (5, none), (12, none), (13, none), (14, none)]
def pt_96_3 : SPat := ⟨[(0, .sl 0), (4, .int .i64), (5, .bool), (12, .sl 0), (13, .int .i64), (14, .int .i64)], [some (.lst (.int .i64), 3)]⟩
def px_96_3_0 : SPat := ⟨[(2, .int .i64), (3, .int .i64)], [some (.lst (.int .i64), 3)]⟩
def px_96_3_1 : SPat := ⟨[(0, .sl 0), (4, .int .i64), (5, .bool)], [some (.lst (.int .i64), 3)]⟩
def lo_96_3 : Exit → Live
  | .ret => [(2, none), (3, none)]
  | .exit 0 => [(0, none), (4, none), (5, none)]
  | _ => []
def B_96_3 {R : Type} (N : Nat) (rec : ((Unit × Int × Bool × Unit × Int × Int × Unit) × ((List Int) × Unit)) → Option R) (x : ((Unit × Int × Bool × Unit × Int × Int × Unit) × ((List Int) × Unit))) (κ0 : ((Int × Int × Unit) × ((List Int) × Unit)) → Option R) (κ1 : ((Unit × Int × Bool × Unit) × ((List Int) × Unit)) → Option R) : Option R :=
let i161 : Int := x.1.2.1
let b162 : Bool := x.1.2.2.1
let i163 : Int := x.1.2.2.2.2.1
let i164 : Int := x.1.2.2.2.2.2.1
let l165 : (List Int) := x.2.1
bif (decide (i164 < i163)) then (
bif decide (0 ≤ i164) then (
bif decide (i164 < ((List.length l165) : Int)) then (
let i166 : Int := (List.getD l165 ((Int.toNat i164)) (Sch.zero (.int .i64)))
p_116 N ((i166, ()), ()) (fun y167 =>
let b168 : Bool := y167.1
bif (!b168) then (
κ0 ((0, 1, ()), (l165, ()))) else (
bif b162 then (
let i169 : Int := addA .i64 i164 1
rec (((), i161, true, (), i163, i169, ()), (l165, ()))) else (
let i170 : Int := addA .i64 i164 1
rec (((), i161, (i166 == 0), (), i163, i170, ()), (l165, ())))))) else none) else none) else (
κ1 (((), i161, b162, ()), (l165, ())))
def l_96_3 {R : Type} (N : Nat) : Nat → ((Unit × Int × Bool × Unit × Int × Int × Unit) × ((List Int) × Unit)) → (((Int × Int × Unit) × ((List Int) × Unit)) → Option R) → (((Unit × Int × Bool × Unit) × ((List Int) × Unit)) → Option R) → Option R
  | 0, _, _, _ => none
  | n + 1, x, κ0, κ1 => B_96_3 N (fun y => l_96_3 N n y κ0 κ1) x κ0 κ1
def lv_96_12 : Live := [(4, none), (28, none), (29, none), (30, none)]
def pt_96_12 : SPat := ⟨[(4, .int .i64), (28, .sl 0), (29, .int .i64), (30, .int .i64)], [some (.lst (.int .i64), 3)]⟩
def px_96_12_0 : SPat := ⟨[(2, .int .i64), (3, .int .i64)], [some (.lst (.int .i64), 3)]⟩
def px_96_12_1 : SPat := ⟨[(4, .int .i64)], [some (.lst (.int .i64), 3)]⟩
def lo_96_12 : Exit → Live
  | .ret => [(2, none), (3, none)]
  | .exit 2 => [(4, none)]
  | _ => []
def B_96_12 {R : Type} (N : Nat) (rec : ((Int × Unit × Int × Int × Unit) × ((List Int) × Unit)) → Option R) (x : ((Int × Unit × Int × Int × Unit) × ((List Int) × Unit))) (κ0 : ((Int × Int × Unit) × ((List Int) × Unit)) → Option R) (κ1 : ((Int × Unit) × ((List Int) × Unit)) → Option R) : Option R :=
let i180 : Int := x.1.1
let i181 : Int := x.1.2.2.1
let i182 : Int := x.1.2.2.2.1
let l183 : (List Int) := x.2.1
bif (decide (i182 < i181)) then (
bif decide (0 ≤ i182) then (
bif decide (i182 < ((List.length l183) : Int)) then (
let i184 : Int := (List.getD l183 ((Int.toNat i182)) (Sch.zero (.int .i64)))
let i185 : Int := IntKind.wrap .u64 i180
let i186 : Int := IntKind.wrap .u64 i184
p_86 N ((i185, i186, ()), ()) (fun y206 =>
let i207 : Int := y206.1.1
let i208 : Int := y206.1.2.1
bif (decide (i207 > 0)) then (
κ0 ((0, 10, ()), (l183, ()))) else (
bif (decide (i208 > 4611686018427387904)) then (
κ0 ((0, 10, ()), (l183, ()))) else (
let i209 : Int := IntKind.wrap .i64 i208
let i210 : Int := addA .i64 i182 1
rec ((i209, (), i181, i210, ()), (l183, ())))))) else none) else none) else (
κ1 ((i180, ()), (l183, ())))
def l_96_12 {R : Type} (N : Nat) : Nat → ((Int × Unit × Int × Int × Unit) × ((List Int) × Unit)) → (((Int × Int × Unit) × ((List Int) × Unit)) → Option R) → (((Int × Unit) × ((List Int) × Unit)) → Option R) → Option R
  | 0, _, _, _ => none
  | n + 1, x, κ0, κ1 => B_96_12 N (fun y => l_96_12 N n y κ0 κ1) x κ0 κ1
def ap_96 : List Pat := [.sl 0]
def hp_96 : List (Option (Pat × Nat)) := [some (.lst (.int .i64), 3)]
def p_96 {R : Type} (N : Nat) (x : (Unit × Unit) × ((List Int) × Unit)) (κ0 : ((Int × (Int × Unit)) × ((List Int) × Unit)) → Option R) : Option R :=
let l159 : (List Int) := x.2.1
let i160 : Int := (((List.length l159) : Nat) : Int)
l_96_3 N N (((), 1, false, (), i160, 0, ()), (l159, ())) (fun y171 =>
let i172 : Int := y171.1.1
let i173 : Int := y171.1.2.1
let l174 : (List Int) := y171.2.1
κ0 ((i172, (i173, ())), (l174, ()))) (fun y175 =>
let i176 : Int := y175.1.2.1
let b177 : Bool := y175.1.2.2.1
let l178 : (List Int) := y175.2.1
bif b177 then (
κ0 ((0, (0, ())), (l178, ()))) else (
let i179 : Int := (((List.length l178) : Nat) : Int)
l_96_12 N N ((i176, (), i179, 0, ()), (l178, ())) (fun y211 =>
let i212 : Int := y211.1.1
let i213 : Int := y211.1.2.1
let l214 : (List Int) := y211.2.1
κ0 ((i212, (i213, ())), (l214, ()))) (fun y215 =>
let i216 : Int := y215.1.1
let l217 : (List Int) := y215.2.1
κ0 ((i216, (0, ())), (l217, ())))))

def Q_96 {R : Type} (q_116 : (Int × Unit) × (Unit) → ((Bool × (Unit)) → Option R) → Option R) (q_86 : (Int × Int × Unit) × (Unit) → (((Int × (Int × Unit)) × (Unit)) → Option R) → Option R) (m_96_3 : ((Unit × Int × Bool × Unit × Int × Int × Unit) × ((List Int) × Unit)) → (((Int × Int × Unit) × ((List Int) × Unit)) → Option R) → (((Unit × Int × Bool × Unit) × ((List Int) × Unit)) → Option R) → Option R) (m_96_12 : ((Int × Unit × Int × Int × Unit) × ((List Int) × Unit)) → (((Int × Int × Unit) × ((List Int) × Unit)) → Option R) → (((Int × Unit) × ((List Int) × Unit)) → Option R) → Option R) (x : (Unit × Unit) × ((List Int) × Unit)) (κ0 : ((Int × (Int × Unit)) × ((List Int) × Unit)) → Option R) : Option R :=
let l159 : (List Int) := x.2.1
let i160 : Int := (((List.length l159) : Nat) : Int)
m_96_3 (((), 1, false, (), i160, 0, ()), (l159, ())) (fun y171 =>
let i172 : Int := y171.1.1
let i173 : Int := y171.1.2.1
let l174 : (List Int) := y171.2.1
κ0 ((i172, (i173, ())), (l174, ()))) (fun y175 =>
let i176 : Int := y175.1.2.1
let b177 : Bool := y175.1.2.2.1
let l178 : (List Int) := y175.2.1
bif b177 then (
κ0 ((0, (0, ())), (l178, ()))) else (
let i179 : Int := (((List.length l178) : Nat) : Int)
m_96_12 ((i176, (), i179, 0, ()), (l178, ())) (fun y211 =>
let i212 : Int := y211.1.1
let i213 : Int := y211.1.2.1
let l214 : (List Int) := y211.2.1
κ0 ((i212, (i213, ())), (l214, ()))) (fun y215 =>
let i216 : Int := y215.1.1
let l217 : (List Int) := y215.2.1
κ0 ((i216, (0, ())), (l217, ())))))
def C_96_3 {R : Type} (q_116 : (Int × Unit) × (Unit) → ((Bool × (Unit)) → Option R) → Option R) (q_86 : (Int × Int × Unit) × (Unit) → (((Int × (Int × Unit)) × (Unit)) → Option R) → Option R) (m_96_3 : ((Unit × Int × Bool × Unit × Int × Int × Unit) × ((List Int) × Unit)) → (((Int × Int × Unit) × ((List Int) × Unit)) → Option R) → (((Unit × Int × Bool × Unit) × ((List Int) × Unit)) → Option R) → Option R) (m_96_12 : ((Int × Unit × Int × Int × Unit) × ((List Int) × Unit)) → (((Int × Int × Unit) × ((List Int) × Unit)) → Option R) → (((Int × Unit) × ((List Int) × Unit)) → Option R) → Option R) (rec : ((Unit × Int × Bool × Unit × Int × Int × Unit) × ((List Int) × Unit)) → Option R) (x : ((Unit × Int × Bool × Unit × Int × Int × Unit) × ((List Int) × Unit))) (κ0 : ((Int × Int × Unit) × ((List Int) × Unit)) → Option R) (κ1 : ((Unit × Int × Bool × Unit) × ((List Int) × Unit)) → Option R) : Option R :=
let i161 : Int := x.1.2.1
let b162 : Bool := x.1.2.2.1
let i163 : Int := x.1.2.2.2.2.1
let i164 : Int := x.1.2.2.2.2.2.1
let l165 : (List Int) := x.2.1
bif (decide (i164 < i163)) then (
bif decide (0 ≤ i164) then (
bif decide (i164 < ((List.length l165) : Int)) then (
let i166 : Int := (List.getD l165 ((Int.toNat i164)) (Sch.zero (.int .i64)))
q_116 ((i166, ()), ()) (fun y167 =>
let b168 : Bool := y167.1
bif (!b168) then (
κ0 ((0, 1, ()), (l165, ()))) else (
bif b162 then (
let i169 : Int := addA .i64 i164 1
rec (((), i161, true, (), i163, i169, ()), (l165, ()))) else (
let i170 : Int := addA .i64 i164 1
rec (((), i161, (i166 == 0), (), i163, i170, ()), (l165, ())))))) else none) else none) else (
κ1 (((), i161, b162, ()), (l165, ())))
def C_96_12 {R : Type} (q_116 : (Int × Unit) × (Unit) → ((Bool × (Unit)) → Option R) → Option R) (q_86 : (Int × Int × Unit) × (Unit) → (((Int × (Int × Unit)) × (Unit)) → Option R) → Option R) (m_96_3 : ((Unit × Int × Bool × Unit × Int × Int × Unit) × ((List Int) × Unit)) → (((Int × Int × Unit) × ((List Int) × Unit)) → Option R) → (((Unit × Int × Bool × Unit) × ((List Int) × Unit)) → Option R) → Option R) (m_96_12 : ((Int × Unit × Int × Int × Unit) × ((List Int) × Unit)) → (((Int × Int × Unit) × ((List Int) × Unit)) → Option R) → (((Int × Unit) × ((List Int) × Unit)) → Option R) → Option R) (rec : ((Int × Unit × Int × Int × Unit) × ((List Int) × Unit)) → Option R) (x : ((Int × Unit × Int × Int × Unit) × ((List Int) × Unit))) (κ0 : ((Int × Int × Unit) × ((List Int) × Unit)) → Option R) (κ1 : ((Int × Unit) × ((List Int) × Unit)) → Option R) : Option R :=
let i180 : Int := x.1.1
let i181 : Int := x.1.2.2.1
let i182 : Int := x.1.2.2.2.1
let l183 : (List Int) := x.2.1
bif (decide (i182 < i181)) then (
bif decide (0 ≤ i182) then (
bif decide (i182 < ((List.length l183) : Int)) then (
let i184 : Int := (List.getD l183 ((Int.toNat i182)) (Sch.zero (.int .i64)))
let i185 : Int := IntKind.wrap .u64 i180
let i186 : Int := IntKind.wrap .u64 i184
q_86 ((i185, i186, ()), ()) (fun y206 =>
let i207 : Int := y206.1.1
let i208 : Int := y206.1.2.1
bif (decide (i207 > 0)) then (
κ0 ((0, 10, ()), (l183, ()))) else (
bif (decide (i208 > 4611686018427387904)) then (
κ0 ((0, 10, ()), (l183, ()))) else (
let i209 : Int := IntKind.wrap .i64 i208
let i210 : Int := addA .i64 i182 1
rec ((i209, (), i181, i210, ()), (l183, ())))))) else none) else none) else (
κ1 ((i180, ()), (l183, ())))
def EG_96 {R : Type} (q_116 : (Int × Unit) × (Unit) → ((Bool × (Unit)) → Option R) → Option R) (q_86 : (Int × Int × Unit) × (Unit) → (((Int × (Int × Unit)) × (Unit)) → Option R) → Option R) : Env R := ((Env.base QQ LN).add 116 ap_116 hp_116 (fun (x : aden ap_116 × hden hp_116) k => q_116 x (fun y => k (Pat.inst (.bool) y.1) (instH [] y.2)))).add 86 ap_86 hp_86 (fun (x : aden ap_86 × hden hp_86) k => q_86 x (fun y => k (Pat.inst (.tup (.fcons (.int .u64) (.fcons (.int .u64) (.fnil)))) y.1) (instH [] y.2)))
def LG_96 {R : Type} (m_96_3 : ((Unit × Int × Bool × Unit × Int × Int × Unit) × ((List Int) × Unit)) → (((Int × Int × Unit) × ((List Int) × Unit)) → Option R) → (((Unit × Int × Bool × Unit) × ((List Int) × Unit)) → Option R) → Option R) (m_96_12 : ((Int × Unit × Int × Int × Unit) × ((List Int) × Unit)) → (((Int × Int × Unit) × ((List Int) × Unit)) → Option R) → (((Int × Unit) × ((List Int) × Unit)) → Option R) → Option R) : Loops R := ((Loops.none).add 3 (loopBy 1 lv_96_3 pt_96_3 (fun x k => m_96_3 x (fun y => k .ret (px_96_3_0.inst y)) (fun y => k (.exit 0) (px_96_3_1.inst y))))).add 12 (loopBy 1 lv_96_12 pt_96_12 (fun x k => m_96_12 x (fun y => k .ret (px_96_12_0.inst y)) (fun y => k (.exit 2) (px_96_12_1.inst y))))
def E_96 {R : Type} (N : Nat) : Env R := EG_96 (p_116 N) (p_86 N)
theorem eok_96 {R : Type} (N : Nat) : EK Try.prog (E_96 (R := R) N) := ek_add (ek_add (ek_base _ _) (good_116 N)) (good_86 N)
def L_96 {R : Type} (N : Nat) : Loops R := LG_96 (l_96_3 N N) (l_96_12 N N)
theorem gstep_96_3 {R : Type} (q_116 : (Int × Unit) × (Unit) → ((Bool × (Unit)) → Option R) → Option R) (q_86 : (Int × Int × Unit) × (Unit) → (((Int × (Int × Unit)) × (Unit)) → Option R) → Option R) (m_96_3 : ((Unit × Int × Bool × Unit × Int × Int × Unit) × ((List Int) × Unit)) → (((Int × Int × Unit) × ((List Int) × Unit)) → Option R) → (((Unit × Int × Bool × Unit) × ((List Int) × Unit)) → Option R) → Option R) (m_96_12 : ((Int × Unit × Int × Int × Unit) × ((List Int) × Unit)) → (((Int × Int × Unit) × ((List Int) × Unit)) → Option R) → (((Int × Unit) × ((List Int) × Unit)) → Option R) → Option R) (n : Nat) (x : pt_96_3.den) (k : Exit → St → Option R) : iter 1 lv_96_3 lo_96_3 (aexec TT (EG_96 q_116 q_86) (drawOk TT QQ) (LG_96 m_96_3 m_96_12) (loopAt 3 (bodyOf Try.f96))) (n + 1) (pt_96_3.inst x) k = C_96_3 q_116 q_86 m_96_3 m_96_12 (fun y => iter 1 lv_96_3 lo_96_3 (aexec TT (EG_96 q_116 q_86) (drawOk TT QQ) (LG_96 m_96_3 m_96_12) (loopAt 3 (bodyOf Try.f96))) n (pt_96_3.inst y) k) x (fun y => k .ret (px_96_3_0.inst y)) (fun y => k (.exit 0) (px_96_3_1.inst y)) := by kernel_rfl
theorem step_96_3 {R : Type} (N n : Nat) (x : pt_96_3.den) (k : Exit → St → Option R) : iter 1 lv_96_3 lo_96_3 (aexec TT (E_96 (R := R) N) (drawOk TT QQ) (L_96 N) (loopAt 3 (bodyOf Try.f96))) (n + 1) (pt_96_3.inst x) k = B_96_3 N (fun y => iter 1 lv_96_3 lo_96_3 (aexec TT (E_96 (R := R) N) (drawOk TT QQ) (L_96 N) (loopAt 3 (bodyOf Try.f96))) n (pt_96_3.inst y) k) x (fun y => k .ret (px_96_3_0.inst y)) (fun y => k (.exit 0) (px_96_3_1.inst y)) := (gstep_96_3 (p_116 N) (p_86 N) (l_96_3 N N) (l_96_12 N N) n x k).trans (by kernel_rfl)
theorem eq_96_3 {R : Type} (N : Nat) : ∀ (n : Nat) (x : pt_96_3.den) (k : Exit → St → Option R), iter 1 lv_96_3 lo_96_3 (aexec TT (E_96 (R := R) N) (drawOk TT QQ) (L_96 N) (loopAt 3 (bodyOf Try.f96))) n (pt_96_3.inst x) k = l_96_3 N n x (fun y => k .ret (px_96_3_0.inst y)) (fun y => k (.exit 0) (px_96_3_1.inst y)) :=
  iter_eq (K := Exit → St → Option R) (ks := fun k => k) (l := fun n (x : pt_96_3.den) k => l_96_3 N n x (fun y => k .ret (px_96_3_0.inst y)) (fun y => k (.exit 0) (px_96_3_1.inst y))) (B := fun (rec : pt_96_3.den → Option R) (x : pt_96_3.den) k => B_96_3 N rec x (fun y => k .ret (px_96_3_0.inst y)) (fun y => k (.exit 0) (px_96_3_1.inst y))) (fun _ _ => rfl) (fun _ _ _ => rfl) (fun n x k => step_96_3 N n x k)
theorem rounds_96_3 {R : Type} (N : Nat) : Rounds 1 TT (E_96 (R := R) N) (drawOk TT QQ) (L_96 N) 3 (loopAt 3 (bodyOf Try.f96)) :=
  rounds_of (p := pt_96_3) (l := fun (x : pt_96_3.den) k => l_96_3 N N x (fun y => k .ret (px_96_3_0.inst y)) (fun y => k (.exit 0) (px_96_3_1.inst y))) (fun s k => rfl) (fun x k => eq_96_3 N N x k)
theorem gstep_96_12 {R : Type} (q_116 : (Int × Unit) × (Unit) → ((Bool × (Unit)) → Option R) → Option R) (q_86 : (Int × Int × Unit) × (Unit) → (((Int × (Int × Unit)) × (Unit)) → Option R) → Option R) (m_96_3 : ((Unit × Int × Bool × Unit × Int × Int × Unit) × ((List Int) × Unit)) → (((Int × Int × Unit) × ((List Int) × Unit)) → Option R) → (((Unit × Int × Bool × Unit) × ((List Int) × Unit)) → Option R) → Option R) (m_96_12 : ((Int × Unit × Int × Int × Unit) × ((List Int) × Unit)) → (((Int × Int × Unit) × ((List Int) × Unit)) → Option R) → (((Int × Unit) × ((List Int) × Unit)) → Option R) → Option R) (n : Nat) (x : pt_96_12.den) (k : Exit → St → Option R) : iter 1 lv_96_12 lo_96_12 (aexec TT (EG_96 q_116 q_86) (drawOk TT QQ) (LG_96 m_96_3 m_96_12) (loopAt 12 (bodyOf Try.f96))) (n + 1) (pt_96_12.inst x) k = C_96_12 q_116 q_86 m_96_3 m_96_12 (fun y => iter 1 lv_96_12 lo_96_12 (aexec TT (EG_96 q_116 q_86) (drawOk TT QQ) (LG_96 m_96_3 m_96_12) (loopAt 12 (bodyOf Try.f96))) n (pt_96_12.inst y) k) x (fun y => k .ret (px_96_12_0.inst y)) (fun y => k (.exit 2) (px_96_12_1.inst y)) := by kernel_rfl
theorem step_96_12 {R : Type} (N n : Nat) (x : pt_96_12.den) (k : Exit → St → Option R) : iter 1 lv_96_12 lo_96_12 (aexec TT (E_96 (R := R) N) (drawOk TT QQ) (L_96 N) (loopAt 12 (bodyOf Try.f96))) (n + 1) (pt_96_12.inst x) k = B_96_12 N (fun y => iter 1 lv_96_12 lo_96_12 (aexec TT (E_96 (R := R) N) (drawOk TT QQ) (L_96 N) (loopAt 12 (bodyOf Try.f96))) n (pt_96_12.inst y) k) x (fun y => k .ret (px_96_12_0.inst y)) (fun y => k (.exit 2) (px_96_12_1.inst y)) := (gstep_96_12 (p_116 N) (p_86 N) (l_96_3 N N) (l_96_12 N N) n x k).trans (by kernel_rfl)
theorem eq_96_12 {R : Type} (N : Nat) : ∀ (n : Nat) (x : pt_96_12.den) (k : Exit → St → Option R), iter 1 lv_96_12 lo_96_12 (aexec TT (E_96 (R := R) N) (drawOk TT QQ) (L_96 N) (loopAt 12 (bodyOf Try.f96))) n (pt_96_12.inst x) k = l_96_12 N n x (fun y => k .ret (px_96_12_0.inst y)) (fun y => k (.exit 2) (px_96_12_1.inst y)) :=
  iter_eq (K := Exit → St → Option R) (ks := fun k => k) (l := fun n (x : pt_96_12.den) k => l_96_12 N n x (fun y => k .ret (px_96_12_0.inst y)) (fun y => k (.exit 2) (px_96_12_1.inst y))) (B := fun (rec : pt_96_12.den → Option R) (x : pt_96_12.den) k => B_96_12 N rec x (fun y => k .ret (px_96_12_0.inst y)) (fun y => k (.exit 2) (px_96_12_1.inst y))) (fun _ _ => rfl) (fun _ _ _ => rfl) (fun n x k => step_96_12 N n x k)
theorem rounds_96_12 {R : Type} (N : Nat) : Rounds 1 TT (E_96 (R := R) N) (drawOk TT QQ) (L_96 N) 12 (loopAt 12 (bodyOf Try.f96)) :=
  rounds_of (p := pt_96_12) (l := fun (x : pt_96_12.den) k => l_96_12 N N x (fun y => k .ret (px_96_12_0.inst y)) (fun y => k (.exit 2) (px_96_12_1.inst y))) (fun s k => rfl) (fun x k => eq_96_12 N N x k)
theorem loops_96 : loopsIn (bodyOf Try.f96) = [(3, loopAt 3 (bodyOf Try.f96)), (12, loopAt 12 (bodyOf Try.f96))] := by kernel_rfl
theorem lok_96 {R : Type} (N : Nat) : LOK 1 TT (E_96 (R := R) N) (drawOk TT QQ) (L_96 N) (bodyOf Try.f96) := loops_all loops_96 (by
  simp only [List.forall_mem_cons, List.not_mem_nil, false_implies, implies_true, and_true]
  exact ⟨rounds_96_3 N, rounds_96_12 N⟩)
theorem grun_96 {R : Type} (q_116 : (Int × Unit) × (Unit) → ((Bool × (Unit)) → Option R) → Option R) (q_86 : (Int × Int × Unit) × (Unit) → (((Int × (Int × Unit)) × (Unit)) → Option R) → Option R) (m_96_3 : ((Unit × Int × Bool × Unit × Int × Int × Unit) × ((List Int) × Unit)) → (((Int × Int × Unit) × ((List Int) × Unit)) → Option R) → (((Unit × Int × Bool × Unit) × ((List Int) × Unit)) → Option R) → Option R) (m_96_12 : ((Int × Unit × Int × Int × Unit) × ((List Int) × Unit)) → (((Int × Int × Unit) × ((List Int) × Unit)) → Option R) → (((Int × Unit) × ((List Int) × Unit)) → Option R) → Option R) (x : aden ap_96 × hden hp_96) (k : KF R) : fnrun TT (EG_96 q_116 q_86) (drawOk TT QQ) (LG_96 m_96_3 m_96_12) true Try.f96 (instA ap_96 x.1) (instH hp_96 x.2) k = Q_96 q_116 q_86 m_96_3 m_96_12 x (fun y => k (Pat.inst (.tup (.fcons (.int .i64) (.fcons (.int .i64) (.fnil)))) y.1) (instH [some (.lst (.int .i64), 3)] y.2)) := by kernel_rfl
theorem run_96 {R : Type} (N : Nat) (x : aden ap_96 × hden hp_96) (k : KF R) : fnrun TT (E_96 (R := R) N) (drawOk TT QQ) (L_96 N) true Try.f96 (instA ap_96 x.1) (instH hp_96 x.2) k = p_96 N x (fun y => k (Pat.inst (.tup (.fcons (.int .i64) (.fcons (.int .i64) (.fnil)))) y.1) (instH [some (.lst (.int .i64), 3)] y.2)) := (grun_96 (p_116 N) (p_86 N) (l_96_3 N N) (l_96_12 N N) x k).trans (by kernel_rfl)
theorem good_96 {R : Type} (N : Nat) : GD (X := R) Try.prog QQ 96 ap_96 hp_96 (fun (x : aden ap_96 × hden hp_96) k => p_96 N x (fun y => k (Pat.inst (.tup (.fcons (.int .i64) (.fcons (.int .i64) (.fnil)))) y.1) (instH [some (.lst (.int .i64), 3)] y.2))) :=
  gd_loud (E := E_96 N) (p := fun (x : aden ap_96 × hden hp_96) k => p_96 N x (fun y => k (Pat.inst (.tup (.fcons (.int .i64) (.fcons (.int .i64) (.fnil)))) y.1) (instH [some (.lst (.int .i64), 3)] y.2))) mixed tyok (eok_96 N) Try.func96 (by kernel_rfl) (by kernel_rfl) (by kernel_rfl) (lok_96 N) (fun x k => run_96 N x k)

def ap_51 : List Pat := [.node (.fcons (.int .i64) (.fcons (.int .i64) (.fcons (.int .i64) (.fcons (.int .i64) (.fcons (.int .i64) (.fcons (.int .i64) (.fcons (.int .i64) (.fcons (.int .i64) (.fnil)))))))))]
def hp_51 : List (Option (Pat × Nat)) := []
def p_51 {R : Type} (N : Nat) (x : ((Int × (Int × (Int × (Int × (Int × (Int × (Int × (Int × Unit)))))))) × Unit) × (Unit)) (κ0 : ((Int × (Int × Unit)) × (Unit)) → Option R) : Option R :=
let i150 : Int := x.1.1.1
let i151 : Int := x.1.1.2.1
let i152 : Int := x.1.1.2.2.1
let i153 : Int := x.1.1.2.2.2.1
let i154 : Int := x.1.1.2.2.2.2.1
let i155 : Int := x.1.1.2.2.2.2.2.1
let i156 : Int := x.1.1.2.2.2.2.2.2.1
let i157 : Int := x.1.1.2.2.2.2.2.2.2.1
let l158 : (List Int) := [i151, i154]
p_96 N (((), ()), (l158, ())) (fun y218 =>
let i219 : Int := y218.1.1
let i220 : Int := y218.1.2.1
let l221 : (List Int) := y218.2.1
bif (i220 != 0) then (
κ0 ((0, (i220, ())), ())) else (
let i222 : Int := mulA .i64 2 i152
let i223 : Int := subA .i64 i219 i222
κ0 ((i223, (0, ())), ())))

def Q_51 {R : Type} (q_96 : (Unit × Unit) × ((List Int) × Unit) → (((Int × (Int × Unit)) × ((List Int) × Unit)) → Option R) → Option R) (x : ((Int × (Int × (Int × (Int × (Int × (Int × (Int × (Int × Unit)))))))) × Unit) × (Unit)) (κ0 : ((Int × (Int × Unit)) × (Unit)) → Option R) : Option R :=
let i150 : Int := x.1.1.1
let i151 : Int := x.1.1.2.1
let i152 : Int := x.1.1.2.2.1
let i153 : Int := x.1.1.2.2.2.1
let i154 : Int := x.1.1.2.2.2.2.1
let i155 : Int := x.1.1.2.2.2.2.2.1
let i156 : Int := x.1.1.2.2.2.2.2.2.1
let i157 : Int := x.1.1.2.2.2.2.2.2.2.1
let l158 : (List Int) := [i151, i154]
q_96 (((), ()), (l158, ())) (fun y218 =>
let i219 : Int := y218.1.1
let i220 : Int := y218.1.2.1
let l221 : (List Int) := y218.2.1
bif (i220 != 0) then (
κ0 ((0, (i220, ())), ())) else (
let i222 : Int := mulA .i64 2 i152
let i223 : Int := subA .i64 i219 i222
κ0 ((i223, (0, ())), ())))
def EG_51 {R : Type} (q_96 : (Unit × Unit) × ((List Int) × Unit) → (((Int × (Int × Unit)) × ((List Int) × Unit)) → Option R) → Option R) : Env R := (Env.base QQ LN).add 96 ap_96 hp_96 (fun (x : aden ap_96 × hden hp_96) k => q_96 x (fun y => k (Pat.inst (.tup (.fcons (.int .i64) (.fcons (.int .i64) (.fnil)))) y.1) (instH [some (.lst (.int .i64), 3)] y.2)))
def LG_51 {R : Type} : Loops R := Loops.none
def E_51 {R : Type} (N : Nat) : Env R := EG_51 (p_96 N)
theorem eok_51 {R : Type} (N : Nat) : EK Try.prog (E_51 (R := R) N) := ek_add (ek_base _ _) (good_96 N)
def L_51 {R : Type} (N : Nat) : Loops R := LG_51
theorem lok_51 {R : Type} (N : Nat) : LOK 0 TT (E_51 (R := R) N) (drawOk TT QQ) (L_51 N) (bodyOf Try.f51) := loops_nil (by kernel_rfl)
theorem grun_51 {R : Type} (q_96 : (Unit × Unit) × ((List Int) × Unit) → (((Int × (Int × Unit)) × ((List Int) × Unit)) → Option R) → Option R) (x : aden ap_51 × hden hp_51) (k : KF R) : fnrun TT (EG_51 q_96) (drawOk TT QQ) (LG_51) true Try.f51 (instA ap_51 x.1) (instH hp_51 x.2) k = Q_51 q_96 x (fun y => k (Pat.inst (.tup (.fcons (.int .i64) (.fcons (.int .i64) (.fnil)))) y.1) (instH [] y.2)) := by kernel_rfl
theorem run_51 {R : Type} (N : Nat) (x : aden ap_51 × hden hp_51) (k : KF R) : fnrun TT (E_51 (R := R) N) (drawOk TT QQ) (L_51 N) true Try.f51 (instA ap_51 x.1) (instH hp_51 x.2) k = p_51 N x (fun y => k (Pat.inst (.tup (.fcons (.int .i64) (.fcons (.int .i64) (.fnil)))) y.1) (instH [] y.2)) := (grun_51 (p_96 N) x k).trans (by kernel_rfl)
theorem good_51 {R : Type} (N : Nat) : GD (X := R) Try.prog QQ 51 ap_51 hp_51 (fun (x : aden ap_51 × hden hp_51) k => p_51 N x (fun y => k (Pat.inst (.tup (.fcons (.int .i64) (.fcons (.int .i64) (.fnil)))) y.1) (instH [] y.2))) :=
  gd_loud (E := E_51 N) (p := fun (x : aden ap_51 × hden hp_51) k => p_51 N x (fun y => k (Pat.inst (.tup (.fcons (.int .i64) (.fcons (.int .i64) (.fnil)))) y.1) (instH [] y.2))) mixed tyok (eok_51 N) Try.func51 (by kernel_rfl) (by kernel_rfl) (by kernel_rfl) (lok_51 N) (fun x k => run_51 N x k)

def lv_11_8 : Live := [(1, none), (3, none), (5, none), (6, none), (7, none), (8, none)]
def pt_11_8 : SPat := ⟨[(1, .ptr 0 []), (3, .ptr 1 []), (5, .int .i64), (6, .int .i64), (7, .ptr 2 []), (8, .bool)], [some (.node (.fcons (.int .i64) (.fcons (.int .i64) (.fcons (.int .i64) (.fcons (.int .i64) (.fcons (.int .i64) (.fnil)))))), 35), some (.node (.fcons (.int .i64) (.fcons (.int .i64) (.fcons (.int .i64) (.fcons (.int .i64) (.fcons (.int .i64) (.fcons (.int .i64) (.fcons (.int .i64) (.fcons (.int .i64) (.fnil))))))))), 37), some (.node (.fcons (.int .i64) (.fcons (.int .i64) (.fnil))), 79)]⟩
def px_11_8_0 : SPat := ⟨[(2, .bool)], []⟩
def px_11_8_1 : SPat := ⟨[(1, .ptr 0 []), (3, .ptr 1 []), (5, .int .i64), (6, .int .i64)], [some (.node (.fcons (.int .i64) (.fcons (.int .i64) (.fcons (.int .i64) (.fcons (.int .i64) (.fcons (.int .i64) (.fnil)))))), 35), some (.node (.fcons (.int .i64) (.fcons (.int .i64) (.fcons (.int .i64) (.fcons (.int .i64) (.fcons (.int .i64) (.fcons (.int .i64) (.fcons (.int .i64) (.fcons (.int .i64) (.fnil))))))))), 37)]⟩
def lo_11_8 : Exit → Live
  | .ret => [(2, none)]
  | .exit 0 => [(1, none), (3, none), (5, none), (6, none)]
  | _ => []
def B_11_8 {R : Type} (N : Nat) (rec : ((Unit × Unit × Int × Int × Unit × Bool × Unit) × ((Int × (Int × (Int × (Int × (Int × Unit))))) × (Int × (Int × (Int × (Int × (Int × (Int × (Int × (Int × Unit)))))))) × (Int × (Int × Unit)) × Unit)) → Option R) (x : ((Unit × Unit × Int × Int × Unit × Bool × Unit) × ((Int × (Int × (Int × (Int × (Int × Unit))))) × (Int × (Int × (Int × (Int × (Int × (Int × (Int × (Int × Unit)))))))) × (Int × (Int × Unit)) × Unit))) (κ0 : ((Bool × Unit) × (Unit)) → Option R) (κ1 : ((Unit × Unit × Int × Int × Unit) × ((Int × (Int × (Int × (Int × (Int × Unit))))) × (Int × (Int × (Int × (Int × (Int × (Int × (Int × (Int × Unit)))))))) × Unit)) → Option R) : Option R :=
let i60 : Int := x.1.2.2.1
let i61 : Int := x.1.2.2.2.1
let b62 : Bool := x.1.2.2.2.2.2.1
let i63 : Int := x.2.1.1
let i64 : Int := x.2.1.2.1
let i65 : Int := x.2.1.2.2.1
let i66 : Int := x.2.1.2.2.2.1
let i67 : Int := x.2.1.2.2.2.2.1
let i68 : Int := x.2.2.1.1
let i69 : Int := x.2.2.1.2.1
let i70 : Int := x.2.2.1.2.2.1
let i71 : Int := x.2.2.1.2.2.2.1
let i72 : Int := x.2.2.1.2.2.2.2.1
let i73 : Int := x.2.2.1.2.2.2.2.2.1
let i74 : Int := x.2.2.1.2.2.2.2.2.2.1
let i75 : Int := x.2.2.1.2.2.2.2.2.2.2.1
let i76 : Int := x.2.2.2.1.1
let i77 : Int := x.2.2.2.1.2.1
bif b62 then (
let i78 : Int := quoA .i64 i60 4
let i79 : Int := remA .i64 i60 4
bif (!(schEq (.stru (.fcons (.int .i64) (.fcons (.int .i64) (.fnil)))) ((i76, (i77, ()))) ((i78, (i79, ()))))) then (
κ0 ((false, ()), ())) else (
p_49 N (((i68, (i69, (i70, (i71, (i72, (i73, (i74, (i75, ())))))))), (i76, (i77, ())), ()), ()) (fun y95 =>
let b96 : Bool := y95.1
bif (!b96) then (
κ0 ((false, ()), ())) else (
let i97 : Int := mulA .i64 4 i64
bif (decide (i60 > i97)) then (
κ0 ((false, ()), ())) else (
p_50 N (((i68, (i69, (i70, (i71, (i72, (i73, (i74, (i75, ())))))))), i76, i77, ()), ()) (fun y108 =>
let i109 : Int := y108
let i110 : Int := subA .i64 i74 i109
let i111 : Int := mulA .i64 i110 i70
let i112 : Int := addA .i64 i61 i111
let i113 : Int := addA .i64 i60 1
p_48 N (((i68, (i69, (i70, (i71, (i72, (i73, (i74, (i75, ())))))))), (i76, (i77, ())), ()), ()) (fun y128 =>
let i129 : Int := y128.1.1.1
let i130 : Int := y128.1.1.2.1
let b131 : Bool := y128.1.2.1
rec (((), (), i113, i112, (), b131, ()), ((i63, (i64, (i65, (i66, (i67, ()))))), (i68, (i69, (i70, (i71, (i72, (i73, (i74, (i75, ())))))))), (i129, (i130, ())), ()))))))))) else (
κ1 (((), (), i60, i61, ()), ((i63, (i64, (i65, (i66, (i67, ()))))), (i68, (i69, (i70, (i71, (i72, (i73, (i74, (i75, ())))))))), ())))
def l_11_8 {R : Type} (N : Nat) : Nat → ((Unit × Unit × Int × Int × Unit × Bool × Unit) × ((Int × (Int × (Int × (Int × (Int × Unit))))) × (Int × (Int × (Int × (Int × (Int × (Int × (Int × (Int × Unit)))))))) × (Int × (Int × Unit)) × Unit)) → (((Bool × Unit) × (Unit)) → Option R) → (((Unit × Unit × Int × Int × Unit) × ((Int × (Int × (Int × (Int × (Int × Unit))))) × (Int × (Int × (Int × (Int × (Int × (Int × (Int × (Int × Unit)))))))) × Unit)) → Option R) → Option R
  | 0, _, _, _ => none
  | n + 1, x, κ0, κ1 => B_11_8 N (fun y => l_11_8 N n y κ0 κ1) x κ0 κ1
def ap_11 : List Pat := [.node (.fcons (.int .i64) (.fcons (.int .i64) (.fcons (.int .i64) (.fcons (.int .i64) (.fcons (.int .i64) (.fnil))))))]
def hp_11 : List (Option (Pat × Nat)) := []
def p_11 {R : Type} (N : Nat) (x : ((Int × (Int × (Int × (Int × (Int × Unit))))) × Unit) × (Unit)) (κ0 : (Bool × (Unit)) → Option R) : Option R :=
let i1 : Int := x.1.1.1
let i2 : Int := x.1.1.2.1
let i3 : Int := x.1.1.2.2.1
let i4 : Int := x.1.1.2.2.2.1
let i5 : Int := x.1.1.2.2.2.2.1
p_25 N ((), ()) (fun y48 =>
let b49 : Bool := y48.1
bif (!b49) then (
κ0 (false, ())) else (
p_26 N (((i1, (i2, (i3, (i4, (i5, ()))))), ()), ()) (fun y50 =>
let i51 : Int := y50.1.1.1
let i52 : Int := y50.1.1.2.1
let i53 : Int := y50.1.1.2.2.1
let i54 : Int := y50.1.1.2.2.2.1
let i55 : Int := y50.1.1.2.2.2.2.1
let i56 : Int := y50.1.1.2.2.2.2.2.1
let i57 : Int := y50.1.1.2.2.2.2.2.2.1
let i58 : Int := y50.1.1.2.2.2.2.2.2.2.1
let i59 : Int := y50.1.2.1
bif (i59 != 0) then (
κ0 (true, ())) else (
bif (decide (i2 > 50)) then (
κ0 (true, ())) else (
l_11_8 N N (((), (), 0, 0, (), true, ()), ((i1, (i2, (i3, (i4, (i5, ()))))), (i51, (i52, (i53, (i54, (i55, (i56, (i57, (i58, ())))))))), (0, (0, ())), ())) (fun y132 =>
let b133 : Bool := y132.1.1
κ0 (b133, ())) (fun y134 =>
let i135 : Int := y134.1.2.2.1
let i136 : Int := y134.1.2.2.2.1
let i137 : Int := y134.2.1.1
let i138 : Int := y134.2.1.2.1
let i139 : Int := y134.2.1.2.2.1
let i140 : Int := y134.2.1.2.2.2.1
let i141 : Int := y134.2.1.2.2.2.2.1
let i142 : Int := y134.2.2.1.1
let i143 : Int := y134.2.2.1.2.1
let i144 : Int := y134.2.2.1.2.2.1
let i145 : Int := y134.2.2.1.2.2.2.1
let i146 : Int := y134.2.2.1.2.2.2.2.1
let i147 : Int := y134.2.2.1.2.2.2.2.2.1
let i148 : Int := y134.2.2.1.2.2.2.2.2.2.1
let i149 : Int := y134.2.2.1.2.2.2.2.2.2.2.1
p_51 N (((i142, (i143, (i144, (i145, (i146, (i147, (i148, (i149, ())))))))), ()), ()) (fun y224 =>
let i225 : Int := y224.1.1
let i226 : Int := y224.1.2.1
let i227 : Int := subA .i64 i138 1
p_48 N (((i142, (i143, (i144, (i145, (i146, (i147, (i148, (i149, ())))))))), (i227, (3, ())), ()), ()) (fun y228 =>
let i229 : Int := y228.1.1.1
let i230 : Int := y228.1.1.2.1
let b231 : Bool := y228.1.2.1
let i232 : Int := mulA .i64 4 i138
bif (i135 == i232) then (
bif (i226 == 0) then (
bif (i136 == i225) then (
bif (!b231) then (
bif (schEq (.stru (.fcons (.int .i64) (.fcons (.int .i64) (.fnil)))) ((i229, (i230, ()))) ((0, (0, ())))) then (
p_49 N (((i142, (i143, (i144, (i145, (i146, (i147, (i148, (i149, ())))))))), (i138, (0, ())), ()), ()) (fun y233 =>
let b234 : Bool := y233.1
bif (!b234) then (
p_49 N (((i142, (i143, (i144, (i145, (i146, (i147, (i148, (i149, ())))))))), (0, (4, ())), ()), ()) (fun y235 =>
let b236 : Bool := y235.1
bif (!b236) then (
p_49 N (((i142, (i143, (i144, (i145, (i146, (i147, (i148, (i149, ())))))))), ((-1), (0, ())), ()), ()) (fun y237 =>
let b238 : Bool := y237.1
κ0 ((!b238), ()))) else (
κ0 (false, ())))) else (
κ0 (false, ())))) else (
κ0 (false, ()))) else (
κ0 (false, ()))) else (
κ0 (false, ()))) else (
κ0 (false, ()))) else (
κ0 (false, ()))))))))))

def Q_11 {R : Type} (q_25 : (Unit) × (Unit) → ((Bool × (Unit)) → Option R) → Option R) (q_26 : ((Int × (Int × (Int × (Int × (Int × Unit))))) × Unit) × (Unit) → ((((Int × (Int × (Int × (Int × (Int × (Int × (Int × (Int × Unit)))))))) × (Int × Unit)) × (Unit)) → Option R) → Option R) (q_51 : ((Int × (Int × (Int × (Int × (Int × (Int × (Int × (Int × Unit)))))))) × Unit) × (Unit) → (((Int × (Int × Unit)) × (Unit)) → Option R) → Option R) (q_48 : ((Int × (Int × (Int × (Int × (Int × (Int × (Int × (Int × Unit)))))))) × (Int × (Int × Unit)) × Unit) × (Unit) → ((((Int × (Int × Unit)) × (Bool × Unit)) × (Unit)) → Option R) → Option R) (q_49 : ((Int × (Int × (Int × (Int × (Int × (Int × (Int × (Int × Unit)))))))) × (Int × (Int × Unit)) × Unit) × (Unit) → ((Bool × (Unit)) → Option R) → Option R) (q_50 : ((Int × (Int × (Int × (Int × (Int × (Int × (Int × (Int × Unit)))))))) × Int × Int × Unit) × (Unit) → (Int → Option R) → Option R) (m_11_8 : ((Unit × Unit × Int × Int × Unit × Bool × Unit) × ((Int × (Int × (Int × (Int × (Int × Unit))))) × (Int × (Int × (Int × (Int × (Int × (Int × (Int × (Int × Unit)))))))) × (Int × (Int × Unit)) × Unit)) → (((Bool × Unit) × (Unit)) → Option R) → (((Unit × Unit × Int × Int × Unit) × ((Int × (Int × (Int × (Int × (Int × Unit))))) × (Int × (Int × (Int × (Int × (Int × (Int × (Int × (Int × Unit)))))))) × Unit)) → Option R) → Option R) (x : ((Int × (Int × (Int × (Int × (Int × Unit))))) × Unit) × (Unit)) (κ0 : (Bool × (Unit)) → Option R) : Option R :=
let i1 : Int := x.1.1.1
let i2 : Int := x.1.1.2.1
let i3 : Int := x.1.1.2.2.1
let i4 : Int := x.1.1.2.2.2.1
let i5 : Int := x.1.1.2.2.2.2.1
q_25 ((), ()) (fun y48 =>
let b49 : Bool := y48.1
bif (!b49) then (
κ0 (false, ())) else (
q_26 (((i1, (i2, (i3, (i4, (i5, ()))))), ()), ()) (fun y50 =>
let i51 : Int := y50.1.1.1
let i52 : Int := y50.1.1.2.1
let i53 : Int := y50.1.1.2.2.1
let i54 : Int := y50.1.1.2.2.2.1
let i55 : Int := y50.1.1.2.2.2.2.1
let i56 : Int := y50.1.1.2.2.2.2.2.1
let i57 : Int := y50.1.1.2.2.2.2.2.2.1
let i58 : Int := y50.1.1.2.2.2.2.2.2.2.1
let i59 : Int := y50.1.2.1
bif (i59 != 0) then (
κ0 (true, ())) else (
bif (decide (i2 > 50)) then (
κ0 (true, ())) else (
m_11_8 (((), (), 0, 0, (), true, ()), ((i1, (i2, (i3, (i4, (i5, ()))))), (i51, (i52, (i53, (i54, (i55, (i56, (i57, (i58, ())))))))), (0, (0, ())), ())) (fun y132 =>
let b133 : Bool := y132.1.1
κ0 (b133, ())) (fun y134 =>
let i135 : Int := y134.1.2.2.1
let i136 : Int := y134.1.2.2.2.1
let i137 : Int := y134.2.1.1
let i138 : Int := y134.2.1.2.1
let i139 : Int := y134.2.1.2.2.1
let i140 : Int := y134.2.1.2.2.2.1
let i141 : Int := y134.2.1.2.2.2.2.1
let i142 : Int := y134.2.2.1.1
let i143 : Int := y134.2.2.1.2.1
let i144 : Int := y134.2.2.1.2.2.1
let i145 : Int := y134.2.2.1.2.2.2.1
let i146 : Int := y134.2.2.1.2.2.2.2.1
let i147 : Int := y134.2.2.1.2.2.2.2.2.1
let i148 : Int := y134.2.2.1.2.2.2.2.2.2.1
let i149 : Int := y134.2.2.1.2.2.2.2.2.2.2.1
q_51 (((i142, (i143, (i144, (i145, (i146, (i147, (i148, (i149, ())))))))), ()), ()) (fun y224 =>
let i225 : Int := y224.1.1
let i226 : Int := y224.1.2.1
let i227 : Int := subA .i64 i138 1
q_48 (((i142, (i143, (i144, (i145, (i146, (i147, (i148, (i149, ())))))))), (i227, (3, ())), ()), ()) (fun y228 =>
let i229 : Int := y228.1.1.1
let i230 : Int := y228.1.1.2.1
let b231 : Bool := y228.1.2.1
let i232 : Int := mulA .i64 4 i138
bif (i135 == i232) then (
bif (i226 == 0) then (
bif (i136 == i225) then (
bif (!b231) then (
bif (schEq (.stru (.fcons (.int .i64) (.fcons (.int .i64) (.fnil)))) ((i229, (i230, ()))) ((0, (0, ())))) then (
q_49 (((i142, (i143, (i144, (i145, (i146, (i147, (i148, (i149, ())))))))), (i138, (0, ())), ()), ()) (fun y233 =>
let b234 : Bool := y233.1
bif (!b234) then (
q_49 (((i142, (i143, (i144, (i145, (i146, (i147, (i148, (i149, ())))))))), (0, (4, ())), ()), ()) (fun y235 =>
let b236 : Bool := y235.1
bif (!b236) then (
q_49 (((i142, (i143, (i144, (i145, (i146, (i147, (i148, (i149, ())))))))), ((-1), (0, ())), ()), ()) (fun y237 =>
let b238 : Bool := y237.1
κ0 ((!b238), ()))) else (
κ0 (false, ())))) else (
κ0 (false, ())))) else (
κ0 (false, ()))) else (
κ0 (false, ()))) else (
κ0 (false, ()))) else (
κ0 (false, ()))) else (
κ0 (false, ()))))))))))
def C_11_8 {R : Type} (q_25 : (Unit) × (Unit) → ((Bool × (Unit)) → Option R) → Option R) (q_26 : ((Int × (Int × (Int × (Int × (Int × Unit))))) × Unit) × (Unit) → ((((Int × (Int × (Int × (Int × (Int × (Int × (Int × (Int × Unit)))))))) × (Int × Unit)) × (Unit)) → Option R) → Option R) (q_51 : ((Int × (Int × (Int × (Int × (Int × (Int × (Int × (Int × Unit)))))))) × Unit) × (Unit) → (((Int × (Int × Unit)) × (Unit)) → Option R) → Option R) (q_48 : ((Int × (Int × (Int × (Int × (Int × (Int × (Int × (Int × Unit)))))))) × (Int × (Int × Unit)) × Unit) × (Unit) → ((((Int × (Int × Unit)) × (Bool × Unit)) × (Unit)) → Option R) → Option R) (q_49 : ((Int × (Int × (Int × (Int × (Int × (Int × (Int × (Int × Unit)))))))) × (Int × (Int × Unit)) × Unit) × (Unit) → ((Bool × (Unit)) → Option R) → Option R) (q_50 : ((Int × (Int × (Int × (Int × (Int × (Int × (Int × (Int × Unit)))))))) × Int × Int × Unit) × (Unit) → (Int → Option R) → Option R) (m_11_8 : ((Unit × Unit × Int × Int × Unit × Bool × Unit) × ((Int × (Int × (Int × (Int × (Int × Unit))))) × (Int × (Int × (Int × (Int × (Int × (Int × (Int × (Int × Unit)))))))) × (Int × (Int × Unit)) × Unit)) → (((Bool × Unit) × (Unit)) → Option R) → (((Unit × Unit × Int × Int × Unit) × ((Int × (Int × (Int × (Int × (Int × Unit))))) × (Int × (Int × (Int × (Int × (Int × (Int × (Int × (Int × Unit)))))))) × Unit)) → Option R) → Option R) (rec : ((Unit × Unit × Int × Int × Unit × Bool × Unit) × ((Int × (Int × (Int × (Int × (Int × Unit))))) × (Int × (Int × (Int × (Int × (Int × (Int × (Int × (Int × Unit)))))))) × (Int × (Int × Unit)) × Unit)) → Option R) (x : ((Unit × Unit × Int × Int × Unit × Bool × Unit) × ((Int × (Int × (Int × (Int × (Int × Unit))))) × (Int × (Int × (Int × (Int × (Int × (Int × (Int × (Int × Unit)))))))) × (Int × (Int × Unit)) × Unit))) (κ0 : ((Bool × Unit) × (Unit)) → Option R) (κ1 : ((Unit × Unit × Int × Int × Unit) × ((Int × (Int × (Int × (Int × (Int × Unit))))) × (Int × (Int × (Int × (Int × (Int × (Int × (Int × (Int × Unit)))))))) × Unit)) → Option R) : Option R :=
let i60 : Int := x.1.2.2.1
let i61 : Int := x.1.2.2.2.1
let b62 : Bool := x.1.2.2.2.2.2.1
let i63 : Int := x.2.1.1
let i64 : Int := x.2.1.2.1
let i65 : Int := x.2.1.2.2.1
let i66 : Int := x.2.1.2.2.2.1
let i67 : Int := x.2.1.2.2.2.2.1
let i68 : Int := x.2.2.1.1
let i69 : Int := x.2.2.1.2.1
let i70 : Int := x.2.2.1.2.2.1
let i71 : Int := x.2.2.1.2.2.2.1
let i72 : Int := x.2.2.1.2.2.2.2.1
let i73 : Int := x.2.2.1.2.2.2.2.2.1
let i74 : Int := x.2.2.1.2.2.2.2.2.2.1
let i75 : Int := x.2.2.1.2.2.2.2.2.2.2.1
let i76 : Int := x.2.2.2.1.1
let i77 : Int := x.2.2.2.1.2.1
bif b62 then (
let i78 : Int := quoA .i64 i60 4
let i79 : Int := remA .i64 i60 4
bif (!(schEq (.stru (.fcons (.int .i64) (.fcons (.int .i64) (.fnil)))) ((i76, (i77, ()))) ((i78, (i79, ()))))) then (
κ0 ((false, ()), ())) else (
q_49 (((i68, (i69, (i70, (i71, (i72, (i73, (i74, (i75, ())))))))), (i76, (i77, ())), ()), ()) (fun y95 =>
let b96 : Bool := y95.1
bif (!b96) then (
κ0 ((false, ()), ())) else (
let i97 : Int := mulA .i64 4 i64
bif (decide (i60 > i97)) then (
κ0 ((false, ()), ())) else (
q_50 (((i68, (i69, (i70, (i71, (i72, (i73, (i74, (i75, ())))))))), i76, i77, ()), ()) (fun y108 =>
let i109 : Int := y108
let i110 : Int := subA .i64 i74 i109
let i111 : Int := mulA .i64 i110 i70
let i112 : Int := addA .i64 i61 i111
let i113 : Int := addA .i64 i60 1
q_48 (((i68, (i69, (i70, (i71, (i72, (i73, (i74, (i75, ())))))))), (i76, (i77, ())), ()), ()) (fun y128 =>
let i129 : Int := y128.1.1.1
let i130 : Int := y128.1.1.2.1
let b131 : Bool := y128.1.2.1
rec (((), (), i113, i112, (), b131, ()), ((i63, (i64, (i65, (i66, (i67, ()))))), (i68, (i69, (i70, (i71, (i72, (i73, (i74, (i75, ())))))))), (i129, (i130, ())), ()))))))))) else (
κ1 (((), (), i60, i61, ()), ((i63, (i64, (i65, (i66, (i67, ()))))), (i68, (i69, (i70, (i71, (i72, (i73, (i74, (i75, ())))))))), ())))
def EG_11 {R : Type} (q_25 : (Unit) × (Unit) → ((Bool × (Unit)) → Option R) → Option R) (q_26 : ((Int × (Int × (Int × (Int × (Int × Unit))))) × Unit) × (Unit) → ((((Int × (Int × (Int × (Int × (Int × (Int × (Int × (Int × Unit)))))))) × (Int × Unit)) × (Unit)) → Option R) → Option R) (q_51 : ((Int × (Int × (Int × (Int × (Int × (Int × (Int × (Int × Unit)))))))) × Unit) × (Unit) → (((Int × (Int × Unit)) × (Unit)) → Option R) → Option R) (q_48 : ((Int × (Int × (Int × (Int × (Int × (Int × (Int × (Int × Unit)))))))) × (Int × (Int × Unit)) × Unit) × (Unit) → ((((Int × (Int × Unit)) × (Bool × Unit)) × (Unit)) → Option R) → Option R) (q_49 : ((Int × (Int × (Int × (Int × (Int × (Int × (Int × (Int × Unit)))))))) × (Int × (Int × Unit)) × Unit) × (Unit) → ((Bool × (Unit)) → Option R) → Option R) (q_50 : ((Int × (Int × (Int × (Int × (Int × (Int × (Int × (Int × Unit)))))))) × Int × Int × Unit) × (Unit) → (Int → Option R) → Option R) : Env R := ((((((Env.base QQ LN).add 25 ap_25 hp_25 (fun (x : aden ap_25 × hden hp_25) k => q_25 x (fun y => k (Pat.inst (.bool) y.1) (instH [] y.2)))).add 26 ap_26 hp_26 (fun (x : aden ap_26 × hden hp_26) k => q_26 x (fun y => k (Pat.inst (.tup (.fcons (.node (.fcons (.int .i64) (.fcons (.int .i64) (.fcons (.int .i64) (.fcons (.int .i64) (.fcons (.int .i64) (.fcons (.int .i64) (.fcons (.int .i64) (.fcons (.int .i64) (.fnil)))))))))) (.fcons (.int .i64) (.fnil)))) y.1) (instH [] y.2)))).add 51 ap_51 hp_51 (fun (x : aden ap_51 × hden hp_51) k => q_51 x (fun y => k (Pat.inst (.tup (.fcons (.int .i64) (.fcons (.int .i64) (.fnil)))) y.1) (instH [] y.2)))).add 48 ap_48 hp_48 (fun (x : aden ap_48 × hden hp_48) k => q_48 x (fun y => k (Pat.inst (.tup (.fcons (.node (.fcons (.int .i64) (.fcons (.int .i64) (.fnil)))) (.fcons (.bool) (.fnil)))) y.1) (instH [] y.2)))).add 49 ap_49 hp_49 (fun (x : aden ap_49 × hden hp_49) k => q_49 x (fun y => k (Pat.inst (.bool) y.1) (instH [] y.2)))).add 50 ap_50 hp_50 (fun (x : aden ap_50 × hden hp_50) k => q_50 x (fun y => k (Pat.inst (.int .i64) y) (instH hp_50 x.2)))
def LG_11 {R : Type} (m_11_8 : ((Unit × Unit × Int × Int × Unit × Bool × Unit) × ((Int × (Int × (Int × (Int × (Int × Unit))))) × (Int × (Int × (Int × (Int × (Int × (Int × (Int × (Int × Unit)))))))) × (Int × (Int × Unit)) × Unit)) → (((Bool × Unit) × (Unit)) → Option R) → (((Unit × Unit × Int × Int × Unit) × ((Int × (Int × (Int × (Int × (Int × Unit))))) × (Int × (Int × (Int × (Int × (Int × (Int × (Int × (Int × Unit)))))))) × Unit)) → Option R) → Option R) : Loops R := (Loops.none).add 8 (loopBy 0 lv_11_8 pt_11_8 (fun x k => m_11_8 x (fun y => k .ret (px_11_8_0.inst y)) (fun y => k (.exit 0) (px_11_8_1.inst y))))
def E_11 {R : Type} (N : Nat) : Env R := EG_11 (p_25 N) (p_26 N) (p_51 N) (p_48 N) (p_49 N) (p_50 N)
theorem eok_11 {R : Type} (N : Nat) : EK Try.prog (E_11 (R := R) N) := ek_add (ek_add (ek_add (ek_add (ek_add (ek_add (ek_base _ _) (good_25 N)) (good_26 N)) (good_51 N)) (good_48 N)) (good_49 N)) (good_50 N)
def L_11 {R : Type} (N : Nat) : Loops R := LG_11 (l_11_8 N N)
theorem gstep_11_8 {R : Type} (q_25 : (Unit) × (Unit) → ((Bool × (Unit)) → Option R) → Option R) (q_26 : ((Int × (Int × (Int × (Int × (Int × Unit))))) × Unit) × (Unit) → ((((Int × (Int × (Int × (Int × (Int × (Int × (Int × (Int × Unit)))))))) × (Int × Unit)) × (Unit)) → Option R) → Option R) (q_51 : ((Int × (Int × (Int × (Int × (Int × (Int × (Int × (Int × Unit)))))))) × Unit) × (Unit) → (((Int × (Int × Unit)) × (Unit)) → Option R) → Option R) (q_48 : ((Int × (Int × (Int × (Int × (Int × (Int × (Int × (Int × Unit)))))))) × (Int × (Int × Unit)) × Unit) × (Unit) → ((((Int × (Int × Unit)) × (Bool × Unit)) × (Unit)) → Option R) → Option R) (q_49 : ((Int × (Int × (Int × (Int × (Int × (Int × (Int × (Int × Unit)))))))) × (Int × (Int × Unit)) × Unit) × (Unit) → ((Bool × (Unit)) → Option R) → Option R) (q_50 : ((Int × (Int × (Int × (Int × (Int × (Int × (Int × (Int × Unit)))))))) × Int × Int × Unit) × (Unit) → (Int → Option R) → Option R) (m_11_8 : ((Unit × Unit × Int × Int × Unit × Bool × Unit) × ((Int × (Int × (Int × (Int × (Int × Unit))))) × (Int × (Int × (Int × (Int × (Int × (Int × (Int × (Int × Unit)))))))) × (Int × (Int × Unit)) × Unit)) → (((Bool × Unit) × (Unit)) → Option R) → (((Unit × Unit × Int × Int × Unit) × ((Int × (Int × (Int × (Int × (Int × Unit))))) × (Int × (Int × (Int × (Int × (Int × (Int × (Int × (Int × Unit)))))))) × Unit)) → Option R) → Option R) (n : Nat) (x : pt_11_8.den) (k : Exit → St → Option R) : iter 0 lv_11_8 lo_11_8 (aexec TT (EG_11 q_25 q_26 q_51 q_48 q_49 q_50) (drawOk TT QQ) (LG_11 m_11_8) (loopAt 8 (bodyOf Try.f11))) (n + 1) (pt_11_8.inst x) k = C_11_8 q_25 q_26 q_51 q_48 q_49 q_50 m_11_8 (fun y => iter 0 lv_11_8 lo_11_8 (aexec TT (EG_11 q_25 q_26 q_51 q_48 q_49 q_50) (drawOk TT QQ) (LG_11 m_11_8) (loopAt 8 (bodyOf Try.f11))) n (pt_11_8.inst y) k) x (fun y => k .ret (px_11_8_0.inst y)) (fun y => k (.exit 0) (px_11_8_1.inst y)) := by kernel_rfl
theorem step_11_8 {R : Type} (N n : Nat) (x : pt_11_8.den) (k : Exit → St → Option R) : iter 0 lv_11_8 lo_11_8 (aexec TT (E_11 (R := R) N) (drawOk TT QQ) (L_11 N) (loopAt 8 (bodyOf Try.f11))) (n + 1) (pt_11_8.inst x) k = B_11_8 N (fun y => iter 0 lv_11_8 lo_11_8 (aexec TT (E_11 (R := R) N) (drawOk TT QQ) (L_11 N) (loopAt 8 (bodyOf Try.f11))) n (pt_11_8.inst y) k) x (fun y => k .ret (px_11_8_0.inst y)) (fun y => k (.exit 0) (px_11_8_1.inst y)) := (gstep_11_8 (p_25 N) (p_26 N) (p_51 N) (p_48 N) (p_49 N) (p_50 N) (l_11_8 N N) n x k).trans (by kernel_rfl)
theorem eq_11_8 {R : Type} (N : Nat) : ∀ (n : Nat) (x : pt_11_8.den) (k : Exit → St → Option R), iter 0 lv_11_8 lo_11_8 (aexec TT (E_11 (R := R) N) (drawOk TT QQ) (L_11 N) (loopAt 8 (bodyOf Try.f11))) n (pt_11_8.inst x) k = l_11_8 N n x (fun y => k .ret (px_11_8_0.inst y)) (fun y => k (.exit 0) (px_11_8_1.inst y)) :=
  iter_eq (K := Exit → St → Option R) (ks := fun k => k) (l := fun n (x : pt_11_8.den) k => l_11_8 N n x (fun y => k .ret (px_11_8_0.inst y)) (fun y => k (.exit 0) (px_11_8_1.inst y))) (B := fun (rec : pt_11_8.den → Option R) (x : pt_11_8.den) k => B_11_8 N rec x (fun y => k .ret (px_11_8_0.inst y)) (fun y => k (.exit 0) (px_11_8_1.inst y))) (fun _ _ => rfl) (fun _ _ _ => rfl) (fun n x k => step_11_8 N n x k)
theorem rounds_11_8 {R : Type} (N : Nat) : Rounds 0 TT (E_11 (R := R) N) (drawOk TT QQ) (L_11 N) 8 (loopAt 8 (bodyOf Try.f11)) :=
  rounds_of (p := pt_11_8) (l := fun (x : pt_11_8.den) k => l_11_8 N N x (fun y => k .ret (px_11_8_0.inst y)) (fun y => k (.exit 0) (px_11_8_1.inst y))) (fun s k => rfl) (fun x k => eq_11_8 N N x k)
theorem loops_11 : loopsIn (bodyOf Try.f11) = [(8, loopAt 8 (bodyOf Try.f11))] := by kernel_rfl
theorem lok_11 {R : Type} (N : Nat) : LOK 0 TT (E_11 (R := R) N) (drawOk TT QQ) (L_11 N) (bodyOf Try.f11) := loops_all loops_11 (by
  simp only [List.forall_mem_cons, List.not_mem_nil, false_implies, implies_true, and_true]
  exact rounds_11_8 N)
theorem grun_11 {R : Type} (q_25 : (Unit) × (Unit) → ((Bool × (Unit)) → Option R) → Option R) (q_26 : ((Int × (Int × (Int × (Int × (Int × Unit))))) × Unit) × (Unit) → ((((Int × (Int × (Int × (Int × (Int × (Int × (Int × (Int × Unit)))))))) × (Int × Unit)) × (Unit)) → Option R) → Option R) (q_51 : ((Int × (Int × (Int × (Int × (Int × (Int × (Int × (Int × Unit)))))))) × Unit) × (Unit) → (((Int × (Int × Unit)) × (Unit)) → Option R) → Option R) (q_48 : ((Int × (Int × (Int × (Int × (Int × (Int × (Int × (Int × Unit)))))))) × (Int × (Int × Unit)) × Unit) × (Unit) → ((((Int × (Int × Unit)) × (Bool × Unit)) × (Unit)) → Option R) → Option R) (q_49 : ((Int × (Int × (Int × (Int × (Int × (Int × (Int × (Int × Unit)))))))) × (Int × (Int × Unit)) × Unit) × (Unit) → ((Bool × (Unit)) → Option R) → Option R) (q_50 : ((Int × (Int × (Int × (Int × (Int × (Int × (Int × (Int × Unit)))))))) × Int × Int × Unit) × (Unit) → (Int → Option R) → Option R) (m_11_8 : ((Unit × Unit × Int × Int × Unit × Bool × Unit) × ((Int × (Int × (Int × (Int × (Int × Unit))))) × (Int × (Int × (Int × (Int × (Int × (Int × (Int × (Int × Unit)))))))) × (Int × (Int × Unit)) × Unit)) → (((Bool × Unit) × (Unit)) → Option R) → (((Unit × Unit × Int × Int × Unit) × ((Int × (Int × (Int × (Int × (Int × Unit))))) × (Int × (Int × (Int × (Int × (Int × (Int × (Int × (Int × Unit)))))))) × Unit)) → Option R) → Option R) (x : aden ap_11 × hden hp_11) (k : KF R) : fnrun TT (EG_11 q_25 q_26 q_51 q_48 q_49 q_50) (drawOk TT QQ) (LG_11 m_11_8) true Try.f11 (instA ap_11 x.1) (instH hp_11 x.2) k = Q_11 q_25 q_26 q_51 q_48 q_49 q_50 m_11_8 x (fun y => k (Pat.inst (.bool) y.1) (instH [] y.2)) := by kernel_rfl
theorem run_11 {R : Type} (N : Nat) (x : aden ap_11 × hden hp_11) (k : KF R) : fnrun TT (E_11 (R := R) N) (drawOk TT QQ) (L_11 N) true Try.f11 (instA ap_11 x.1) (instH hp_11 x.2) k = p_11 N x (fun y => k (Pat.inst (.bool) y.1) (instH [] y.2)) := (grun_11 (p_25 N) (p_26 N) (p_51 N) (p_48 N) (p_49 N) (p_50 N) (l_11_8 N N) x k).trans (by kernel_rfl)
theorem good_11 {R : Type} (N : Nat) : GD (X := R) Try.prog QQ 11 ap_11 hp_11 (fun (x : aden ap_11 × hden hp_11) k => p_11 N x (fun y => k (Pat.inst (.bool) y.1) (instH [] y.2))) :=
  gd_loud (E := E_11 N) (p := fun (x : aden ap_11 × hden hp_11) k => p_11 N x (fun y => k (Pat.inst (.bool) y.1) (instH [] y.2))) mixed tyok (eok_11 N) Try.func11 (by kernel_rfl) (by kernel_rfl) (by kernel_rfl) (lok_11 N) (fun x k => run_11 N x k)

/-! ### the plain law -/
/-- Parameters that may be. -/
def Fit (a t m l s : Int) : Prop := (1 ≤ a ∧ a ≤ 3) ∧ (1 ≤ t ∧ t ≤ 4294967295) ∧ (1 ≤ l ∧ l ≤ 16777215) ∧ (1 ≤ m ∧ m ≤ 4294967295) ∧ l ≤ m / 8 ∧ 4 ≤ s ∧ s ≤ 1024
instance (a t m l s : Int) : Decidable (Fit a t m l s) := by unfold Fit; exact inferInstance
theorem p87 {R : Type} (N : Nat) (a b c : Int) (κ) : p_87 (R := R) N ((a, b, c, ()), ()) κ = κ (decide (b ≤ a ∧ a ≤ c), ()) := by
  unfold p_87
  dsimp only
  by_cases h1 : b ≤ a
  · by_cases h2 : a ≤ c <;> simp [h1, h2]
  · simp [h1]
theorem p88 {R : Type} (N : Nat) (a b : Int) (h1 : 0 ≤ a) (h2 : a ≤ 4611686018427387904) (h3 : 1 ≤ b) (κ) : p_88 (R := R) N ((a, b, ()), ()) κ = κ ((a - a % b, (0, ())), ()) := by
  unfold p_88 p_116
  dsimp only
  have e1 : 0 ≤ a % b := Int.emod_nonneg a (by omega)
  have e2 : a % b ≤ a := mod_le h1 (by omega)
  rw [rem64 h1, sub64 (by omega) (by omega)]
  simp [h1, h2, show ¬ b < 1 by omega, show ¬ b = 0 by omega]
theorem p26 {R : Type} (N : Nat) (a t m l s : Int) (κ) : p_26 (R := R) N (((a, (t, (m, (l, (s, ()))))), ()), ()) κ =
    (bif decide (Fit a t m l s) then κ (((a, (t, (l, (m, (4 * l * (m / (4 * l)), (4 * (m / (4 * l)), (m / (4 * l), (s, ())))))))), (0, ())), ()) else κ (((0, (0, (0, (0, (0, (0, (0, (0, ())))))))), (2, ())), ())) := by
  by_cases h : Fit a t m l s
  · obtain ⟨⟨h1, h2⟩, ⟨h3, h4⟩, ⟨h5, h6⟩, ⟨h7, h8⟩, h9, h10, h11⟩ := id h
    unfold p_26
    dsimp only
    have e1 : quoA .i64 m 8 = m / 8 := quo64 (by omega) (by omega) (by omega)
    have e2 : mulA .i64 4 l = 4 * l := mul64 (by omega) (by omega)
    have e3 : m - m % (4 * l) = 4 * l * (m / (4 * l)) := by have := Int.mul_ediv_add_emod m (4 * l); omega
    have q0 : 0 ≤ m / (4 * l) := Int.ediv_nonneg (by omega) (by omega)
    have q1 : 0 ≤ m % (4 * l) := Int.emod_nonneg _ (by omega)
    have e4 : quoA .i64 (4 * l * (m / (4 * l))) l = 4 * (m / (4 * l)) := by
      rw [quo64 (by rw [← e3]; have := mod_le (b := 4 * l) (show 0 ≤ m by omega) (by omega); omega) (by omega) (by omega)]
      rw [show 4 * l * (m / (4 * l)) = l * (4 * (m / (4 * l))) by rw [Int.mul_comm 4 l, Int.mul_assoc]]
      exact Int.mul_ediv_cancel_left _ (by omega)
    have q2 : m / (4 * l) ≤ m := Int.ediv_le_self _ (by omega)
    have e5 : quoA .i64 (4 * (m / (4 * l))) 4 = m / (4 * l) := by
      rw [quo64 (by omega) (by omega) (by omega)]
      exact Int.mul_ediv_cancel_left _ (by omega)
    simp only [p87, e1, e2]
    rw [p88 N m (4 * l) (by omega) (by omega) (by omega)]
    simp only [e3, e4, e5]
    simp [h, h1, h2, h3, h4, h5, h6, h7, h8, h9, h10, h11, show ¬ l = 0 by omega]
  · rw [dF h]
    unfold p_26
    dsimp only
    simp only [p87, cond_false]
    by_cases g1 : 1 ≤ a ∧ a ≤ 3
    · rw [dT g1]
      by_cases g2 : 1 ≤ t ∧ t ≤ 4294967295
      · rw [dT g2]
        by_cases g3 : 1 ≤ l ∧ l ≤ 16777215
        · rw [dT g3]
          by_cases g4 : 1 ≤ m ∧ m ≤ 4294967295
          · rw [dT g4, quo64 (by omega) (by omega) (by omega)]
            by_cases g5 : m / 8 ≥ l
            · rw [dT g5]
              by_cases g6 : 4 ≤ s ∧ s ≤ 1024
              · exact absurd ⟨g1, g2, g3, g4, g5, g6⟩ h
              · rw [dF g6]; rfl
            · rw [dF g5]; rfl
          · rw [dF g4]; rfl
        · rw [dF g3]; rfl
      · rw [dF g2]; rfl
    · rw [dF g1]; rfl
theorem p25 {R : Type} (N : Nat) (κ) : p_25 (R := R) N ((), ()) κ = κ (true, ()) := by
  unfold p_25
  dsimp only
  rw [p26, dT (by unfold Fit; omega)]
  rfl

/-! ### size.Mul -/
theorem p116 {R : Type} (N : Nat) (a : Int) (κ) : p_116 (R := R) N ((a, ()), ()) κ = κ (decide (0 ≤ a ∧ a ≤ 4611686018427387904), ()) := by
  unfold p_116
  dsimp only
  by_cases h1 : 0 ≤ a
  · by_cases h2 : a ≤ 4611686018427387904 <;> simp [h1, h2]
  · simp [h1]
theorem p86 {R : Type} (N : Nat) {x y : Int} (x1 : 0 ≤ x) (x2 : x < 18446744073709551616) (y1 : 0 ≤ y) (y2 : y < 18446744073709551616) (κ) : p_86 (R := R) N ((x, y, ()), ()) κ = κ ((x * y / 18446744073709551616, (x * y % 18446744073709551616, ())), ()) := by
  unfold p_86
  dsimp only
  rw [high64 x1 x2 y1 y2]
  unfold mulA
  rw [wrapU64 (x * y)]
/-- The product so far, times those that are left; none: it is too great. -/
def mulGo : List Int → Int → Option Int
  | [], o => some o
  | a :: l, o => if o * a ≤ 4611686018427387904 then mulGo l (o * a) else none
def held (a : Int) : Bool := decide (0 ≤ a ∧ a ≤ 4611686018427387904)
theorem l96b {R : Type} (N : Nat) (l : List Int) (hl : l.length ≤ 1000) (hh : ∀ a ∈ l, 0 ≤ a ∧ a ≤ 4611686018427387904) (κ0 κ1) : ∀ (n i : Nat) (o : Int), i ≤ l.length → l.length - i < n → 0 ≤ o → o ≤ 4611686018427387904 →
    l_96_12 (R := R) N n ((o, (), (l.length : Int), (i : Int), ()), (l, ())) κ0 κ1 = (match mulGo (l.drop i) o with | none => κ0 ((0, 10, ()), (l, ())) | some r => κ1 ((r, ()), (l, ())))
  | 0, i, o, h1, h2, h3, h4 => by omega
  | n + 1, i, o, h1, h2, h3, h4 => by
    unfold l_96_12 B_96_12
    dsimp only
    by_cases hi : i < l.length
    · have hd : l.drop i = l[i] :: l.drop (i + 1) := List.drop_eq_getElem_cons hi
      have hg : List.getD l i (Sch.zero (.int .i64)) = l[i] := by simp [hi]
      obtain ⟨g1, g2⟩ := hh l[i] (List.getElem_mem hi)
      have e3 : addA .i64 (i : Int) 1 = ((i + 1 : Nat) : Int) := by rw [add64 (by omega) (by omega)]; simp
      rw [bif_t (dT (show (i : Int) < (l.length : Int) by omega)), bif_t (dT (show (0 : Int) ≤ (i : Int) by omega)), bif_t (dT (show (i : Int) < (l.length : Int) by omega)), Int.toNat_natCast, hg, e3, hd]
      rw [wrapU64, wrapU64, Int.emod_eq_of_lt h3 (by omega), Int.emod_eq_of_lt g1 (by omega), p86 N h3 (by omega) g1 (by omega)]
      have b1 : 0 ≤ o * l[i] := Int.mul_nonneg h3 g1
      have b2 : o * l[i] ≤ 4611686018427387904 * 4611686018427387904 := Int.mul_le_mul h4 g2 g1 (by decide)
      simp only [mulGo]
      generalize o * l[i] = z at *
      by_cases hz : z ≤ 4611686018427387904
      · have z1 : z / 18446744073709551616 = 0 := by omega
        have z2 : z % 18446744073709551616 = z := by omega
        simp only [z1, z2]
        rw [bif_f (dF (by omega)), bif_f (dF (by omega)), wrap64 (by omega) (by omega), if_pos hz]
        exact l96b N l hl hh κ0 κ1 n (i + 1) z (by omega) (by omega) (by omega) hz
      · rw [if_neg hz]
        by_cases hq : z / 18446744073709551616 > 0
        · rw [bif_t (dT hq)]
        · rw [bif_f (dF hq), bif_t (dT (by omega))]
    · rw [bif_f (dF (by omega)), List.drop_eq_nil_of_le (by omega)]
      rfl
theorem l96a {R : Type} (N : Nat) (l : List Int) (hl : l.length ≤ 1000) (κ0 κ1) : ∀ (n i : Nat) (o : Int) (b : Bool), i ≤ l.length → l.length - i < n →
    l_96_3 (R := R) N n (((), o, b, (), (l.length : Int), (i : Int), ()), (l, ())) κ0 κ1 = bif (l.drop i).all held then κ1 (((), o, b || (l.drop i).any (· == 0), ()), (l, ())) else κ0 ((0, 1, ()), (l, ()))
  | 0, i, o, b, h1, h2 => by omega
  | n + 1, i, o, b, h1, h2 => by
    unfold l_96_3 B_96_3
    dsimp only
    by_cases hi : i < l.length
    · have hd : l.drop i = l[i] :: l.drop (i + 1) := List.drop_eq_getElem_cons hi
      have hg : List.getD l i (Sch.zero (.int .i64)) = l[i] := by simp [hi]
      have e3 : addA .i64 (i : Int) 1 = ((i + 1 : Nat) : Int) := by rw [add64 (by omega) (by omega)]; simp
      rw [bif_t (dT (show (i : Int) < (l.length : Int) by omega)), bif_t (dT (show (0 : Int) ≤ (i : Int) by omega)), bif_t (dT (show (i : Int) < (l.length : Int) by omega)), Int.toNat_natCast, hg, e3, hd, p116]
      simp only [List.all_cons, List.any_cons]
      by_cases hh : 0 ≤ l[i] ∧ l[i] ≤ 4611686018427387904
      · rw [dT hh, show held l[i] = true from dT hh]
        simp only [Bool.not_true, cond_false, Bool.true_and]
        cases b with
        | true =>
          rw [bif_t rfl, l96a N l hl κ0 κ1 n (i + 1) o true (by omega) (by omega)]
          simp
        | false =>
          rw [bif_f rfl, l96a N l hl κ0 κ1 n (i + 1) o _ (by omega) (by omega)]
          simp
      · rw [dF hh, show held l[i] = false from dF hh]
        simp
    · rw [bif_f (dF (by omega)), List.drop_eq_nil_of_le (by omega)]
      simp
/-- The product of all: none, and the error's number, or it. -/
def mulAll (l : List Int) : Int × Int :=
  bif l.all held then (bif l.any (· == 0) then (0, 0) else match mulGo l 1 with | none => (0, 10) | some r => (r, 0)) else (0, 1)
theorem p96 {R : Type} (N : Nat) (l : List Int) (hl : l.length ≤ 1000) (hN : 1000 < N) (κ) : p_96 (R := R) N (((), ()), (l, ())) κ = κ (((mulAll l).1, ((mulAll l).2, ())), (l, ())) := by
  unfold p_96
  dsimp only
  refine (l96a N l hl _ _ N 0 1 false (by omega) (by omega)).trans ?_
  simp only [List.drop_zero, Bool.false_or]
  unfold mulAll
  cases ha : l.all held with
  | false => simp
  | true =>
    simp only [cond_true]
    cases hz : l.any (· == 0) with
    | true => simp
    | false =>
      have hh : ∀ a ∈ l, 0 ≤ a ∧ a ≤ 4611686018427387904 := fun a hm => of_decide_eq_true (List.all_eq_true.1 ha a hm)
      rw [bif_f rfl]
      refine (l96b N l hl hh _ _ N 0 1 (by omega) (by omega) (by omega) (by omega)).trans ?_
      simp only [List.drop_zero]
      cases mulGo l 1 <;> simp

/-! ### turns -/
theorem p50 {R : Type} (N : Nat) (s : Int × (Int × (Int × (Int × (Int × (Int × (Int × (Int × Unit)))))))) (a b : Int) (κ) : p_50 (R := R) N ((s, a, b, ()), ()) κ = κ (if a = 0 ∧ b = 0 then 2 else 0) := by
  unfold p_50
  dsimp only
  by_cases h1 : a = 0
  · by_cases h2 : b = 0
    · simp [h1, h2]
    · simp [h1, h2, show (b == 0) = false from beq_eq_false_iff_ne.2 h2]
  · simp [h1, show (a == 0) = false from beq_eq_false_iff_ne.2 h1]
theorem p49 {R : Type} (N : Nat) (s0 t s2 s3 s4 s5 s6 s7 a b : Int) (ht : 1 ≤ t ∧ t ≤ 4294967295) (κ) : p_49 (R := R) N (((s0, (t, (s2, (s3, (s4, (s5, (s6, (s7, ())))))))), (a, (b, ())), ()), ()) κ = κ (decide ((0 ≤ a ∧ a ≤ t - 1) ∧ 0 ≤ b ∧ b ≤ 3), ()) := by
  unfold p_49
  dsimp only
  rw [sub64 (by omega) (by omega), p87]
  by_cases h1 : 0 ≤ a ∧ a ≤ t - 1
  · rw [dT h1, bif_t rfl, p87]
    by_cases h2 : 0 ≤ b ∧ b ≤ 3
    · rw [dT h2, dT ⟨h1, h2⟩]
    · rw [dF h2, dF (fun h => h2 h.2)]
  · rw [dF h1, bif_f rfl, dF (fun h => h1 h.1)]
theorem p48 {R : Type} (N : Nat) (s0 t s2 s3 s4 s5 s6 s7 a b : Int) (ht : 1 ≤ t ∧ t ≤ 4294967295) (ha : 0 ≤ a ∧ a ≤ 4294967295) (hb : 0 ≤ b ∧ b ≤ 3) (κ) :
    p_48 (R := R) N (((s0, (t, (s2, (s3, (s4, (s5, (s6, (s7, ())))))))), (a, (b, ())), ()), ()) κ =
      if b < 3 then κ (((a, (b + 1, ())), (true, ())), ()) else if a < t - 1 then κ (((a + 1, (0, ())), (true, ())), ()) else κ (((0, (0, ())), (false, ())), ()) := by
  unfold p_48
  dsimp only
  rw [add64 (by omega) (by omega)]
  by_cases h1 : b < 3
  · rw [bif_t (dT (by omega)), if_pos h1]
  · rw [bif_f (dF (by omega)), if_neg h1, sub64 (by omega) (by omega)]
    by_cases h2 : a < t - 1
    · rw [bif_t (dT h2), if_pos h2, add64 (by omega) (by omega)]
    · rw [bif_f (dF h2), if_neg h2]
theorem pair_eq (a b c d : Int) : schEq (.stru (.fcons (.int .i64) (.fcons (.int .i64) .fnil))) (a, (b, ())) (c, (d, ())) = decide (a = c ∧ b = d) := by
  by_cases h1 : a = c
  · by_cases h2 : b = d <;> simp [schEq, h1, h2]
  · simp [schEq, h1]
/-- How many blocks the first k turns fill, by w = blocks of one turn. -/
def filled (l w k : Int) : Int := if k = 0 then 0 else k * w - 2 * l
theorem turns {R : Type} (N : Nat) (p : Int × (Int × (Int × (Int × (Int × Unit))))) (t : Int) (hp : p.2.1 = t) (ht : 1 ≤ t ∧ t ≤ 50) (s0 l s3 s4 s5 q s7 : Int) (hl : 1 ≤ l) (hq : 2 ≤ q) (hw : q * l ≤ 4294967295) (κ0 κ1) :
    ∀ (n : Nat) (k : Int), 0 ≤ k → k < 4 * t → 4 * t - k < n →
      l_11_8 (R := R) N n (((), (), k, filled l (q * l) k, (), true, ()), (p, (s0, (t, (l, (s3, (s4, (s5, (q, (s7, ())))))))), (k / 4, (k % 4, ())), ())) κ0 κ1 =
        κ1 (((), (), 4 * t, 4 * t * (q * l) - 2 * l, ()), (p, (s0, (t, (l, (s3, (s4, (s5, (q, (s7, ())))))))), ()))
  | 0, k, h1, h2, h3 => by omega
  | n + 1, k, h1, h2, h3 => by
    unfold l_11_8 B_11_8
    obtain ⟨p0, p1, p2, p3, p4, pu⟩ := p
    have hp' : p1 = t := hp
    subst hp'
    dsimp only
    have e1 : quoA .i64 k 4 = k / 4 := quo64 h1 (by omega) (by omega)
    have e2 : remA .i64 k 4 = k % 4 := rem64 h1
    have w1 : 2 * l ≤ q * l := Int.mul_le_mul_of_nonneg_right hq (by omega)
    have k1 : k * (q * l) ≤ 200 * (q * l) := Int.mul_le_mul_of_nonneg_right (by omega) (by omega)
    have k0 : 0 ≤ k * (q * l) := Int.mul_nonneg h1 (by omega)
    rw [bif_t rfl, e1, e2, pair_eq, dT ⟨rfl, rfl⟩]
    simp only [Bool.not_true, cond_false]
    rw [p49 N _ _ _ _ _ _ _ _ _ _ (by omega), dT (by omega)]
    simp only [Bool.not_true, cond_false]
    rw [mul64 (a := 4) (b := p1) (by omega) (by omega), bif_f (dF (by omega)), p50]
    have f1 : (if k / 4 = 0 ∧ k % 4 = 0 then (2 : Int) else 0) = if k = 0 then 2 else 0 := by
      by_cases hk : k = 0
      · subst hk; rfl
      · rw [if_neg (by omega), if_neg hk]
    rw [f1]
    have fl : filled l (q * l) k + (q - if k = 0 then 2 else 0) * l = filled l (q * l) (k + 1) := by
      unfold filled
      rw [if_neg (show ¬ k + 1 = 0 by omega), Int.add_mul, Int.one_mul]
      by_cases hk : k = 0
      · subst hk; simp [Int.sub_mul]
      · rw [if_neg hk, if_neg hk, Int.sub_zero]; omega
    have fb : 0 ≤ filled l (q * l) k ∧ filled l (q * l) k ≤ 200 * (q * l) := by
      unfold filled
      by_cases hk : k = 0
      · rw [if_pos hk]; omega
      · rw [if_neg hk]
        have : 1 * (q * l) ≤ k * (q * l) := Int.mul_le_mul_of_nonneg_right (by omega) (by omega)
        omega
    have q1 : q * 1 ≤ q * l := Int.mul_le_mul_of_nonneg_left hl (by omega)
    generalize hF : (if k = 0 then (2 : Int) else 0) = F at *
    have F0 : 0 ≤ F ∧ F ≤ 2 := by rw [← hF]; split <;> omega
    have g0 : 0 ≤ (q - F) * l := Int.mul_nonneg (by omega) (by omega)
    have g1 : (q - F) * l ≤ q * l := Int.mul_le_mul_of_nonneg_right (by omega) (by omega)
    rw [sub64 (a := q) (b := F) (by omega) (by omega), mul64 (a := q - F) (b := l) (by omega) (by omega), add64 (a := filled l (q * l) k) (by omega) (by omega), fl, add64 (a := k) (by omega) (by omega), p48 N _ _ _ _ _ _ _ _ _ _ (by omega) (by omega) (by omega)]
    by_cases c1 : k % 4 < 3
    · rw [if_pos c1]
      dsimp only
      rw [show k / 4 = (k + 1) / 4 by omega, show k % 4 + 1 = (k + 1) % 4 by omega]
      exact turns N _ p1 rfl ht s0 l s3 s4 s5 q s7 hl hq hw κ0 κ1 n (k + 1) (by omega) (by omega) (by omega)
    · rw [if_neg c1]
      by_cases c2 : k / 4 < p1 - 1
      · rw [if_pos c2]
        dsimp only
        rw [show k / 4 + 1 = (k + 1) / 4 by omega, show (0 : Int) = (k + 1) % 4 by omega]
        exact turns N _ p1 rfl ht s0 l s3 s4 s5 q s7 hl hq hw κ0 κ1 n (k + 1) (by omega) (by omega) (by omega)
      · rw [if_neg c2]
        dsimp only
        obtain ⟨n, rfl⟩ : ∃ m, n = m + 1 := ⟨n - 1, by omega⟩
        unfold l_11_8 B_11_8
        dsimp only
        rw [bif_f rfl, show k + 1 = 4 * p1 by omega]
        unfold filled
        rw [if_neg (by omega)]
theorem p51 {R : Type} (N : Nat) (hN : 1000 < N) (s0 t l s3 b s5 s6 s7 : Int) (ht : 1 ≤ t ∧ t ≤ 50) (hb : 1 ≤ b ∧ b ≤ 4294967295) (hl : 1 ≤ l ∧ l ≤ 16777215) (κ) : p_51 (R := R) N (((s0, (t, (l, (s3, (b, (s5, (s6, (s7, ())))))))), ()), ()) κ = κ ((t * b - 2 * l, (0, ())), ()) := by
  unfold p_51
  dsimp only
  have b1 : t * b ≤ 50 * 4294967295 := Int.mul_le_mul ht.2 hb.2 (by omega) (by omega)
  have b0 : 0 ≤ t * b := Int.mul_nonneg (by omega) (by omega)
  have hm : mulAll [t, b] = (t * b, 0) := by
    have h1 : held t = true := dT (by omega)
    have h2 : held b = true := dT (by omega)
    simp only [mulAll, List.all_cons, List.all_nil, List.any_cons, List.any_nil, h1, h2, mulGo, beq_eq_false_iff_ne.2 (show t ≠ 0 by omega), beq_eq_false_iff_ne.2 (show b ≠ 0 by omega), Bool.or_self, Bool.and_self, cond_true, cond_false, Int.one_mul]
    rw [if_pos (by omega), if_pos (by omega)]
  rw [p96 N [t, b] (by simp) hN, hm]
  dsimp only
  simp only [bne_self_eq_false, cond_false]
  rw [mul64 (a := 2) (b := l) (by omega) (by omega), sub64 (by omega) (by omega)]
theorem p11 (N : Nat) (hN : 1000 < N) (a t m l s : Int) (κ) : p_11 (R := AV) N (((a, (t, (m, (l, (s, ()))))), ()), ()) κ = κ (true, ()) := by
  unfold p_11
  dsimp only
  rw [p25]
  dsimp only
  simp only [Bool.not_true, cond_false]
  rw [p26]
  by_cases h : Fit a t m l s
  · rw [dT h]
    obtain ⟨⟨h1, h2⟩, ⟨h3, h4⟩, ⟨h5, h6⟩, ⟨h7, h8⟩, h9, h10, h11⟩ := h
    dsimp only
    simp only [cond_true, bne_self_eq_false, cond_false]
    generalize hq : m / (4 * l) = q
    have q0 : 4 * l * q ≤ m := by rw [← hq]; exact Int.mul_ediv_self_le (by omega)
    have q1 : 2 ≤ q := by rw [← hq]; exact (Int.le_ediv_iff_mul_le (by omega)).2 (by omega)
    have w0 : 4 * l * q = 4 * (q * l) := by rw [Int.mul_assoc, Int.mul_comm l q]
    have w1 : 2 * l ≤ q * l := Int.mul_le_mul_of_nonneg_right q1 (by omega)
    by_cases g1 : t > 50
    · rw [bif_t (dT g1)]
    rw [bif_f (dF g1)]
    refine (turns N (a, (t, (m, (l, (s, ()))))) t rfl (by omega) a l m (4 * l * q) (4 * q) q s h5 q1 (by omega) _ _ N 0 (by omega) (by omega) (by omega)).trans ?_
    dsimp only
    rw [p51 N hN _ _ _ _ _ _ _ _ (by omega) (by omega) (by omega)]
    dsimp only
    rw [sub64 (a := t) (by omega) (by omega), p48 N _ _ _ _ _ _ _ _ _ _ (by omega) (by omega) (by omega), if_neg (by omega), if_neg (by omega)]
    dsimp only
    have e1 : t * (4 * l * q) = 4 * t * (q * l) := by rw [w0, Int.mul_left_comm, Int.mul_assoc]
    rw [mul64 (a := 4) (b := t) (by omega) (by omega), e1, p49 N _ _ _ _ _ _ _ _ _ _ (by omega), dF (by omega)]
    simp only [beq_self_eq_true, Bool.not_false, cond_true, pair_eq, and_self, decide_true]
    rw [p49 N _ _ _ _ _ _ _ _ _ _ (by omega), dF (by omega)]
    simp only [Bool.not_false, cond_true]
    rw [p49 N _ _ _ _ _ _ _ _ _ _ (by omega), dF (by omega)]
    rfl
  · rw [dF h]; rfl
theorem law_all (y0 : Sch.den (.stru (.fcons (.int .i64) (.fcons (.int .i64) (.fcons (.int .i64) (.fcons (.int .i64) (.fcons (.int .i64) .fnil))))))) {P0 : Prop} (wf0 : P0) :
    ∃ H', ACalls Try.prog 11 [toAV (.stru (.fcons (.int .i64) (.fcons (.int .i64) (.fcons (.int .i64) (.fcons (.int .i64) (.fcons (.int .i64) .fnil)))))) y0] [] (.bool true) H' :=
  gd_law (good_11 1001) (x := (y0, ())) (by
    obtain ⟨a, t, m, l, s, u⟩ := y0
    exact p11 1001 (by omega) a t m l s _)
end Go.Proofs.Ytjehpceomlnicaa.Eng
