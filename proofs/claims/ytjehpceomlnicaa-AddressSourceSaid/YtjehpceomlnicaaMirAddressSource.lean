/-
Plain functions that the functions of the program are shown to come to, printed by a program of the prover; each with its proof.
Conditions: none.
-/
import Derived.Test.YtjehpceomlnicaaProg
import Derived.Test.YtjehpceomlnicaaEngY
import Derived.KernelRfl
set_option linter.unusedVariables false
namespace Go.Proofs.Ytjehpceomlnicaa.Eng
def TT : Types := [(35, ⟨.stru [(3, 0), (3, 1), (3, 2), (3, 3), (3, 4)], 5, 40, .node (.fcons (.int .i64 0) (.fcons (.int .i64 0) (.fcons (.int .i64 0) (.fcons (.int .i64 0) (.fcons (.int .i64 0) (.fnil)))))), some (.stru (.fcons (.int .i64) (.fcons (.int .i64) (.fcons (.int .i64) (.fcons (.int .i64) (.fcons (.int .i64) (.fnil))))))), true⟩),
  (79, ⟨.stru [(3, 0), (3, 1)], 2, 16, .node (.fcons (.int .i64 0) (.fcons (.int .i64 0) (.fnil))), some (.stru (.fcons (.int .i64) (.fcons (.int .i64) (.fnil)))), true⟩),
  (3, ⟨.int .i64, 1, 8, .int .i64 0, some (.int .i64), false⟩),
  (49, ⟨.slice 3, 1, 24, .nils, some (.sl (.int .i64)), false⟩),
  (4, ⟨.bool, 1, 1, .bool false, some (.bool), false⟩),
  (37, ⟨.stru [(3, 0), (3, 1), (3, 2), (3, 3), (3, 4), (3, 5), (3, 6), (3, 7)], 8, 64, .node (.fcons (.int .i64 0) (.fcons (.int .i64 0) (.fcons (.int .i64 0) (.fcons (.int .i64 0) (.fcons (.int .i64 0) (.fcons (.int .i64 0) (.fcons (.int .i64 0) (.fcons (.int .i64 0) (.fnil))))))))), some (.stru (.fcons (.int .i64) (.fcons (.int .i64) (.fcons (.int .i64) (.fcons (.int .i64) (.fcons (.int .i64) (.fcons (.int .i64) (.fcons (.int .i64) (.fcons (.int .i64) (.fnil)))))))))), true⟩),
  (38, ⟨.int .i64, 1, 8, .int .i64 0, some (.int .i64), false⟩),
  (123, ⟨.ptr 169, 1, 8, .nilp, none, false⟩),
  (31, ⟨.int .u32, 1, 4, .int .u32 0, some (.int .u32), false⟩),
  (169, ⟨.stru [(37, 0), (79, 8), (3, 10), (3, 11), (70, 12)], 140, 1120, .node (.fcons (.node (.fcons (.int .i64 0) (.fcons (.int .i64 0) (.fcons (.int .i64 0) (.fcons (.int .i64 0) (.fcons (.int .i64 0) (.fcons (.int .i64 0) (.fcons (.int .i64 0) (.fcons (.int .i64 0) (.fnil)))))))))) (.fcons (.node (.fcons (.int .i64 0) (.fcons (.int .i64 0) (.fnil)))) (.fcons (.int .i64 0) (.fcons (.int .i64 0) (.fcons (.vec (.int .u64) 128 (Sch.zero (.arr 128 (.int .u64)))) (.fnil)))))), some (.stru (.fcons (.stru (.fcons (.int .i64) (.fcons (.int .i64) (.fcons (.int .i64) (.fcons (.int .i64) (.fcons (.int .i64) (.fcons (.int .i64) (.fcons (.int .i64) (.fcons (.int .i64) (.fnil)))))))))) (.fcons (.stru (.fcons (.int .i64) (.fcons (.int .i64) (.fnil)))) (.fcons (.int .i64) (.fcons (.int .i64) (.fcons (.arr 128 (.int .u64)) (.fnil))))))), true⟩),
  (70, ⟨.arr 128 61, 128, 1024, .vec (.int .u64) 128 (Sch.zero (.arr 128 (.int .u64))), some (.arr 128 (.int .u64)), true⟩),
  (167, ⟨.arr 7 3, 7, 56, .vec (.int .i64) 7 (Sch.zero (.arr 7 (.int .i64))), some (.arr 7 (.int .i64)), true⟩),
  (61, ⟨.int .u64, 1, 8, .int .u64 0, some (.int .u64), false⟩),
  (71, ⟨.slice 70, 1, 24, .nils, some (.sl (.arr 128 (.int .u64))), false⟩),
  (54, ⟨.slice 4, 1, 24, .nils, some (.sl (.bool)), false⟩),
  (153, ⟨.arr 16 3, 16, 128, .vec (.int .i64) 16 (Sch.zero (.arr 16 (.int .i64))), some (.arr 16 (.int .i64)), true⟩),
  (62, ⟨.arr 16 61, 16, 128, .vec (.int .u64) 16 (Sch.zero (.arr 16 (.int .u64))), some (.arr 16 (.int .u64)), true⟩),
  (150, ⟨.arr 8 104, 32, 256, .vec (.arr 4 (.int .i64)) 8 (Sch.zero (.arr 8 (.arr 4 (.int .i64)))), some (.arr 8 (.arr 4 (.int .i64))), true⟩),
  (104, ⟨.arr 4 3, 4, 32, .vec (.int .i64) 4 (Sch.zero (.arr 4 (.int .i64))), some (.arr 4 (.int .i64)), true⟩),
  (139, ⟨.int .u64, 1, 8, .int .u64 0, some (.int .u64), false⟩),
  (86, ⟨.stru [(3, 0), (3, 1), (3, 2), (3, 3), (3, 4), (3, 5), (3, 6), (3, 7)], 8, 64, .node (.fcons (.int .i64 0) (.fcons (.int .i64 0) (.fcons (.int .i64 0) (.fcons (.int .i64 0) (.fcons (.int .i64 0) (.fcons (.int .i64 0) (.fcons (.int .i64 0) (.fcons (.int .i64 0) (.fnil))))))))), some (.stru (.fcons (.int .i64) (.fcons (.int .i64) (.fcons (.int .i64) (.fcons (.int .i64) (.fcons (.int .i64) (.fcons (.int .i64) (.fcons (.int .i64) (.fcons (.int .i64) (.fnil)))))))))), true⟩),
  (65, ⟨.arr 4 61, 4, 32, .vec (.int .u64) 4 (Sch.zero (.arr 4 (.int .u64))), some (.arr 4 (.int .u64)), true⟩)]
theorem tyok : TyOk Try.prog TT := TyOk.of (by kernel_rfl)
theorem mixed : Try.prog.follows .mixedOrders = true := by kernel_rfl
def QQ : FuncId → Bool := fun f => memN [26, 38, 39, 40, 41, 42, 43, 44, 45, 47, 49, 69, 70, 71, 72, 73, 76, 78, 79, 87, 88, 89, 90, 91, 92, 93, 94, 95, 104, 116] f
def LN : FuncId → Bool := fun f => memN [47, 94] f
def ap_87 : List Pat := [.int .i64, .int .i64, .int .i64]
def hp_87 : List (Option (Pat × Nat)) := []
def p_87 {R : Type} (N : Nat) (x : (Int × Int × Int × Unit) × (Unit)) (κ0 : Bool → Option R) : Option R :=
let i15 : Int := x.1.1
let i16 : Int := x.1.2.1
let i17 : Int := x.1.2.2.1
bif (decide (i15 ≥ i16)) then (
κ0 ((decide (i15 ≤ i17)))) else (
κ0 false)

abbrev Tp_87 (R : Type) : Type := (Int × Int × Int × Unit) × (Unit) → (Bool → Option R) → Option R
def Q_87 {R : Type} (x : (Int × Int × Int × Unit) × (Unit)) (κ0 : Bool → Option R) : Option R :=
let i15 : Int := x.1.1
let i16 : Int := x.1.2.1
let i17 : Int := x.1.2.2.1
bif (decide (i15 ≥ i16)) then (
κ0 ((decide (i15 ≤ i17)))) else (
κ0 false)
def EG_87 {R : Type} : Env R := Env.base QQ LN
def LG_87 {R : Type} : Loops R := Loops.none
def E_87 {R : Type} (N : Nat) : Env R := EG_87
theorem eok_87 {R : Type} (N : Nat) : EK Try.prog (E_87 (R := R) N) := ek_base _ _
def L_87 {R : Type} (N : Nat) : Loops R := LG_87
theorem lok_87 {R : Type} (N : Nat) : LOK 0 TT (E_87 (R := R) N) (drawOk TT QQ) (L_87 N) (bodyOf Try.f87) := loops_nil (by kernel_rfl)
theorem grun_87 {R : Type} (x : aden ap_87 × hden hp_87) (k : KF R) : fnrun TT (EG_87) (drawOk TT QQ) (LG_87) true Try.f87 (instA ap_87 x.1) (instH hp_87 x.2) k = Q_87 x (fun y => k (Pat.inst (.bool) y) (instH hp_87 x.2)) := by kernel_rfl
theorem run_87 {R : Type} (N : Nat) (x : aden ap_87 × hden hp_87) (k : KF R) : fnrun TT (E_87 (R := R) N) (drawOk TT QQ) (L_87 N) true Try.f87 (instA ap_87 x.1) (instH hp_87 x.2) k = p_87 N x (fun y => k (Pat.inst (.bool) y) (instH hp_87 x.2)) := (grun_87 x k).trans (by kernel_rfl)
theorem good_87 {R : Type} (N : Nat) : GD (X := R) Try.prog QQ 87 ap_87 hp_87 (fun (x : aden ap_87 × hden hp_87) k => p_87 N x (fun y => k (Pat.inst (.bool) y) (instH hp_87 x.2))) :=
  gd_quiet (E := E_87 N) (p := fun (x : aden ap_87 × hden hp_87) κ => p_87 N x (fun y => κ (Pat.inst (.bool) y))) mixed tyok (eok_87 N) Try.func87 (by kernel_rfl) (by kernel_rfl) (lok_87 N) (fun x k => run_87 N x k)

def ap_116 : List Pat := [.int .i64]
def hp_116 : List (Option (Pat × Nat)) := []
def p_116 {R : Type} (N : Nat) (x : (Int × Unit) × (Unit)) (κ0 : Bool → Option R) : Option R :=
let i32 : Int := x.1.1
bif (decide (i32 ≥ 0)) then (
κ0 ((decide (i32 ≤ 4611686018427387904)))) else (
κ0 false)

abbrev Tp_116 (R : Type) : Type := (Int × Unit) × (Unit) → (Bool → Option R) → Option R
def Q_116 {R : Type} (x : (Int × Unit) × (Unit)) (κ0 : Bool → Option R) : Option R :=
let i32 : Int := x.1.1
bif (decide (i32 ≥ 0)) then (
κ0 ((decide (i32 ≤ 4611686018427387904)))) else (
κ0 false)
def EG_116 {R : Type} : Env R := Env.base QQ LN
def LG_116 {R : Type} : Loops R := Loops.none
def E_116 {R : Type} (N : Nat) : Env R := EG_116
theorem eok_116 {R : Type} (N : Nat) : EK Try.prog (E_116 (R := R) N) := ek_base _ _
def L_116 {R : Type} (N : Nat) : Loops R := LG_116
theorem lok_116 {R : Type} (N : Nat) : LOK 0 TT (E_116 (R := R) N) (drawOk TT QQ) (L_116 N) (bodyOf Try.f116) := loops_nil (by kernel_rfl)
theorem grun_116 {R : Type} (x : aden ap_116 × hden hp_116) (k : KF R) : fnrun TT (EG_116) (drawOk TT QQ) (LG_116) true Try.f116 (instA ap_116 x.1) (instH hp_116 x.2) k = Q_116 x (fun y => k (Pat.inst (.bool) y) (instH hp_116 x.2)) := by kernel_rfl
theorem run_116 {R : Type} (N : Nat) (x : aden ap_116 × hden hp_116) (k : KF R) : fnrun TT (E_116 (R := R) N) (drawOk TT QQ) (L_116 N) true Try.f116 (instA ap_116 x.1) (instH hp_116 x.2) k = p_116 N x (fun y => k (Pat.inst (.bool) y) (instH hp_116 x.2)) := (grun_116 x k).trans (by kernel_rfl)
theorem good_116 {R : Type} (N : Nat) : GD (X := R) Try.prog QQ 116 ap_116 hp_116 (fun (x : aden ap_116 × hden hp_116) k => p_116 N x (fun y => k (Pat.inst (.bool) y) (instH hp_116 x.2))) :=
  gd_quiet (E := E_116 N) (p := fun (x : aden ap_116 × hden hp_116) κ => p_116 N x (fun y => κ (Pat.inst (.bool) y))) mixed tyok (eok_116 N) Try.func116 (by kernel_rfl) (by kernel_rfl) (lok_116 N) (fun x k => run_116 N x k)

def ap_88 : List Pat := [.int .i64, .int .i64]
def hp_88 : List (Option (Pat × Nat)) := []
def p_88 {R : Type} (N : Nat) (x : (Int × Int × Unit) × (Unit)) (κ0 : (Int × (Int × Unit)) → Option R) : Option R :=
let i30 : Int := x.1.1
let i31 : Int := x.1.2.1
p_116 N ((i30, ()), ()) (fun y33 =>
let b34 : Bool := y33
bif (!b34) then (
κ0 ((0, (1, ())))) else (
bif (decide (i31 < 1)) then (
κ0 ((0, (1, ())))) else (
bif decide (i31 = 0) then none else (
let i35 : Int := remA .i64 i30 i31
let i36 : Int := subA .i64 i30 i35
κ0 ((i36, (0, ())))))))

abbrev Tp_88 (R : Type) : Type := (Int × Int × Unit) × (Unit) → ((Int × (Int × Unit)) → Option R) → Option R
def Q_88 {R : Type} (q_116 : Tp_116 R) (x : (Int × Int × Unit) × (Unit)) (κ0 : (Int × (Int × Unit)) → Option R) : Option R :=
let i30 : Int := x.1.1
let i31 : Int := x.1.2.1
q_116 ((i30, ()), ()) (fun y33 =>
let b34 : Bool := y33
bif (!b34) then (
κ0 ((0, (1, ())))) else (
bif (decide (i31 < 1)) then (
κ0 ((0, (1, ())))) else (
bif decide (i31 = 0) then none else (
let i35 : Int := remA .i64 i30 i31
let i36 : Int := subA .i64 i30 i35
κ0 ((i36, (0, ())))))))
def EG_88 {R : Type} (q_116 : Tp_116 R) : Env R := (Env.base QQ LN).add 116 ap_116 hp_116 (fun (x : aden ap_116 × hden hp_116) k => q_116 x (fun y => k (Pat.inst (.bool) y) (instH hp_116 x.2)))
def LG_88 {R : Type} : Loops R := Loops.none
def E_88 {R : Type} (N : Nat) : Env R := EG_88 (p_116 N)
theorem eok_88 {R : Type} (N : Nat) : EK Try.prog (E_88 (R := R) N) := ek_add (ek_base _ _) (good_116 N)
def L_88 {R : Type} (N : Nat) : Loops R := LG_88
theorem lok_88 {R : Type} (N : Nat) : LOK 0 TT (E_88 (R := R) N) (drawOk TT QQ) (L_88 N) (bodyOf Try.f88) := loops_nil (by kernel_rfl)
theorem grun_88 {R : Type} (q_116 : Tp_116 R) (x : aden ap_88 × hden hp_88) (k : KF R) : fnrun TT (EG_88 q_116) (drawOk TT QQ) (LG_88) true Try.f88 (instA ap_88 x.1) (instH hp_88 x.2) k = Q_88 q_116 x (fun y => k (Pat.inst (.tup (.fcons (.int .i64) (.fcons (.int .i64) (.fnil)))) y) (instH hp_88 x.2)) := by kernel_rfl
theorem run_88 {R : Type} (N : Nat) (x : aden ap_88 × hden hp_88) (k : KF R) : fnrun TT (E_88 (R := R) N) (drawOk TT QQ) (L_88 N) true Try.f88 (instA ap_88 x.1) (instH hp_88 x.2) k = p_88 N x (fun y => k (Pat.inst (.tup (.fcons (.int .i64) (.fcons (.int .i64) (.fnil)))) y) (instH hp_88 x.2)) := (grun_88 (p_116 N) x k).trans (by kernel_rfl)
theorem good_88 {R : Type} (N : Nat) : GD (X := R) Try.prog QQ 88 ap_88 hp_88 (fun (x : aden ap_88 × hden hp_88) k => p_88 N x (fun y => k (Pat.inst (.tup (.fcons (.int .i64) (.fcons (.int .i64) (.fnil)))) y) (instH hp_88 x.2))) :=
  gd_quiet (E := E_88 N) (p := fun (x : aden ap_88 × hden hp_88) κ => p_88 N x (fun y => κ (Pat.inst (.tup (.fcons (.int .i64) (.fcons (.int .i64) (.fnil)))) y))) mixed tyok (eok_88 N) Try.func88 (by kernel_rfl) (by kernel_rfl) (lok_88 N) (fun x k => run_88 N x k)

def ap_26 : List Pat := [.node (.fcons (.int .i64) (.fcons (.int .i64) (.fcons (.int .i64) (.fcons (.int .i64) (.fcons (.int .i64) (.fnil))))))]
def hp_26 : List (Option (Pat × Nat)) := []
def p_26 {R : Type} (N : Nat) (x : ((Int × (Int × (Int × (Int × (Int × Unit))))) × Unit) × (Unit)) (κ0 : ((Int × (Int × (Int × (Int × (Int × (Int × (Int × (Int × Unit)))))))) × (Int × Unit)) → Option R) : Option R :=
let i10 : Int := x.1.1.1
let i11 : Int := x.1.1.2.1
let i12 : Int := x.1.1.2.2.1
let i13 : Int := x.1.1.2.2.2.1
let i14 : Int := x.1.1.2.2.2.2.1
p_87 N ((i10, 1, 3, ()), ()) (fun y18 =>
let b19 : Bool := y18
bif b19 then (
p_87 N ((i11, 1, 4294967295, ()), ()) (fun y20 =>
let b21 : Bool := y20
bif b21 then (
p_87 N ((i13, 1, 16777215, ()), ()) (fun y22 =>
let b23 : Bool := y22
bif b23 then (
p_87 N ((i12, 1, 4294967295, ()), ()) (fun y24 =>
let b25 : Bool := y24
bif b25 then (
let i26 : Int := quoA .i64 i12 8
bif (decide (i26 ≥ i13)) then (
p_87 N ((i14, 4, 1024, ()), ()) (fun y27 =>
let b28 : Bool := y27
bif (!b28) then (
κ0 (((0, (0, (0, (0, (0, (0, (0, (0, ())))))))), (2, ())))) else (
let i29 : Int := mulA .i64 4 i13
p_88 N ((i12, i29, ()), ()) (fun y37 =>
let i38 : Int := y37.1
let i39 : Int := y37.2.1
bif decide (i13 = 0) then none else (
let i40 : Int := quoA .i64 i38 i13
let i41 : Int := quoA .i64 i40 4
κ0 (((i10, (i11, (i13, (i12, (i38, (i40, (i41, (i14, ())))))))), (0, ())))))))) else (
κ0 (((0, (0, (0, (0, (0, (0, (0, (0, ())))))))), (2, ()))))) else (
κ0 (((0, (0, (0, (0, (0, (0, (0, (0, ())))))))), (2, ())))))) else (
κ0 (((0, (0, (0, (0, (0, (0, (0, (0, ())))))))), (2, ())))))) else (
κ0 (((0, (0, (0, (0, (0, (0, (0, (0, ())))))))), (2, ())))))) else (
κ0 (((0, (0, (0, (0, (0, (0, (0, (0, ())))))))), (2, ())))))

abbrev Tp_26 (R : Type) : Type := ((Int × (Int × (Int × (Int × (Int × Unit))))) × Unit) × (Unit) → (((Int × (Int × (Int × (Int × (Int × (Int × (Int × (Int × Unit)))))))) × (Int × Unit)) → Option R) → Option R
def Q_26 {R : Type} (q_87 : Tp_87 R) (q_88 : Tp_88 R) (x : ((Int × (Int × (Int × (Int × (Int × Unit))))) × Unit) × (Unit)) (κ0 : ((Int × (Int × (Int × (Int × (Int × (Int × (Int × (Int × Unit)))))))) × (Int × Unit)) → Option R) : Option R :=
let i10 : Int := x.1.1.1
let i11 : Int := x.1.1.2.1
let i12 : Int := x.1.1.2.2.1
let i13 : Int := x.1.1.2.2.2.1
let i14 : Int := x.1.1.2.2.2.2.1
q_87 ((i10, 1, 3, ()), ()) (fun y18 =>
let b19 : Bool := y18
bif b19 then (
q_87 ((i11, 1, 4294967295, ()), ()) (fun y20 =>
let b21 : Bool := y20
bif b21 then (
q_87 ((i13, 1, 16777215, ()), ()) (fun y22 =>
let b23 : Bool := y22
bif b23 then (
q_87 ((i12, 1, 4294967295, ()), ()) (fun y24 =>
let b25 : Bool := y24
bif b25 then (
let i26 : Int := quoA .i64 i12 8
bif (decide (i26 ≥ i13)) then (
q_87 ((i14, 4, 1024, ()), ()) (fun y27 =>
let b28 : Bool := y27
bif (!b28) then (
κ0 (((0, (0, (0, (0, (0, (0, (0, (0, ())))))))), (2, ())))) else (
let i29 : Int := mulA .i64 4 i13
q_88 ((i12, i29, ()), ()) (fun y37 =>
let i38 : Int := y37.1
let i39 : Int := y37.2.1
bif decide (i13 = 0) then none else (
let i40 : Int := quoA .i64 i38 i13
let i41 : Int := quoA .i64 i40 4
κ0 (((i10, (i11, (i13, (i12, (i38, (i40, (i41, (i14, ())))))))), (0, ())))))))) else (
κ0 (((0, (0, (0, (0, (0, (0, (0, (0, ())))))))), (2, ()))))) else (
κ0 (((0, (0, (0, (0, (0, (0, (0, (0, ())))))))), (2, ())))))) else (
κ0 (((0, (0, (0, (0, (0, (0, (0, (0, ())))))))), (2, ())))))) else (
κ0 (((0, (0, (0, (0, (0, (0, (0, (0, ())))))))), (2, ())))))) else (
κ0 (((0, (0, (0, (0, (0, (0, (0, (0, ())))))))), (2, ())))))
def EG_26 {R : Type} (q_87 : Tp_87 R) (q_88 : Tp_88 R) : Env R := ((Env.base QQ LN).add 87 ap_87 hp_87 (fun (x : aden ap_87 × hden hp_87) k => q_87 x (fun y => k (Pat.inst (.bool) y) (instH hp_87 x.2)))).add 88 ap_88 hp_88 (fun (x : aden ap_88 × hden hp_88) k => q_88 x (fun y => k (Pat.inst (.tup (.fcons (.int .i64) (.fcons (.int .i64) (.fnil)))) y) (instH hp_88 x.2)))
def LG_26 {R : Type} : Loops R := Loops.none
def E_26 {R : Type} (N : Nat) : Env R := EG_26 (p_87 N) (p_88 N)
theorem eok_26 {R : Type} (N : Nat) : EK Try.prog (E_26 (R := R) N) := ek_add (ek_add (ek_base _ _) (good_87 N)) (good_88 N)
def L_26 {R : Type} (N : Nat) : Loops R := LG_26
theorem lok_26 {R : Type} (N : Nat) : LOK 0 TT (E_26 (R := R) N) (drawOk TT QQ) (L_26 N) (bodyOf Try.f26) := loops_nil (by kernel_rfl)
theorem grun_26 {R : Type} (q_87 : Tp_87 R) (q_88 : Tp_88 R) (x : aden ap_26 × hden hp_26) (k : KF R) : fnrun TT (EG_26 q_87 q_88) (drawOk TT QQ) (LG_26) true Try.f26 (instA ap_26 x.1) (instH hp_26 x.2) k = Q_26 q_87 q_88 x (fun y => k (Pat.inst (.tup (.fcons (.node (.fcons (.int .i64) (.fcons (.int .i64) (.fcons (.int .i64) (.fcons (.int .i64) (.fcons (.int .i64) (.fcons (.int .i64) (.fcons (.int .i64) (.fcons (.int .i64) (.fnil)))))))))) (.fcons (.int .i64) (.fnil)))) y) (instH hp_26 x.2)) := by kernel_rfl
theorem run_26 {R : Type} (N : Nat) (x : aden ap_26 × hden hp_26) (k : KF R) : fnrun TT (E_26 (R := R) N) (drawOk TT QQ) (L_26 N) true Try.f26 (instA ap_26 x.1) (instH hp_26 x.2) k = p_26 N x (fun y => k (Pat.inst (.tup (.fcons (.node (.fcons (.int .i64) (.fcons (.int .i64) (.fcons (.int .i64) (.fcons (.int .i64) (.fcons (.int .i64) (.fcons (.int .i64) (.fcons (.int .i64) (.fcons (.int .i64) (.fnil)))))))))) (.fcons (.int .i64) (.fnil)))) y) (instH hp_26 x.2)) := (grun_26 (p_87 N) (p_88 N) x k).trans (by kernel_rfl)
theorem good_26 {R : Type} (N : Nat) : GD (X := R) Try.prog QQ 26 ap_26 hp_26 (fun (x : aden ap_26 × hden hp_26) k => p_26 N x (fun y => k (Pat.inst (.tup (.fcons (.node (.fcons (.int .i64) (.fcons (.int .i64) (.fcons (.int .i64) (.fcons (.int .i64) (.fcons (.int .i64) (.fcons (.int .i64) (.fcons (.int .i64) (.fcons (.int .i64) (.fnil)))))))))) (.fcons (.int .i64) (.fnil)))) y) (instH hp_26 x.2))) :=
  gd_quiet (E := E_26 N) (p := fun (x : aden ap_26 × hden hp_26) κ => p_26 N x (fun y => κ (Pat.inst (.tup (.fcons (.node (.fcons (.int .i64) (.fcons (.int .i64) (.fcons (.int .i64) (.fcons (.int .i64) (.fcons (.int .i64) (.fcons (.int .i64) (.fcons (.int .i64) (.fcons (.int .i64) (.fnil)))))))))) (.fcons (.int .i64) (.fnil)))) y))) mixed tyok (eok_26 N) Try.func26 (by kernel_rfl) (by kernel_rfl) (lok_26 N) (fun x k => run_26 N x k)

def ap_73 : List Pat := [.node (.fcons (.int .i64) (.fcons (.int .i64) (.fcons (.int .i64) (.fcons (.int .i64) (.fcons (.int .i64) (.fcons (.int .i64) (.fcons (.int .i64) (.fcons (.int .i64) (.fnil))))))))), .node (.fcons (.int .i64) (.fcons (.int .i64) (.fnil)))]
def hp_73 : List (Option (Pat × Nat)) := []
def p_73 {R : Type} (N : Nat) (x : ((Int × (Int × (Int × (Int × (Int × (Int × (Int × (Int × Unit)))))))) × (Int × (Int × Unit)) × Unit) × (Unit)) (κ0 : Bool → Option R) : Option R :=
let i52 : Int := x.1.1.1
let i53 : Int := x.1.1.2.1
let i54 : Int := x.1.1.2.2.1
let i55 : Int := x.1.1.2.2.2.1
let i56 : Int := x.1.1.2.2.2.2.1
let i57 : Int := x.1.1.2.2.2.2.2.1
let i58 : Int := x.1.1.2.2.2.2.2.2.1
let i59 : Int := x.1.1.2.2.2.2.2.2.2.1
let i60 : Int := x.1.2.1.1
let i61 : Int := x.1.2.1.2.1
bif (i52 == 2) then (
κ0 true) else (
bif (i52 == 3) then (
bif (i60 == 0) then (
κ0 ((decide (i61 < 2)))) else (
κ0 false)) else (
κ0 false))

abbrev Tp_73 (R : Type) : Type := ((Int × (Int × (Int × (Int × (Int × (Int × (Int × (Int × Unit)))))))) × (Int × (Int × Unit)) × Unit) × (Unit) → (Bool → Option R) → Option R
def Q_73 {R : Type} (x : ((Int × (Int × (Int × (Int × (Int × (Int × (Int × (Int × Unit)))))))) × (Int × (Int × Unit)) × Unit) × (Unit)) (κ0 : Bool → Option R) : Option R :=
let i52 : Int := x.1.1.1
let i53 : Int := x.1.1.2.1
let i54 : Int := x.1.1.2.2.1
let i55 : Int := x.1.1.2.2.2.1
let i56 : Int := x.1.1.2.2.2.2.1
let i57 : Int := x.1.1.2.2.2.2.2.1
let i58 : Int := x.1.1.2.2.2.2.2.2.1
let i59 : Int := x.1.1.2.2.2.2.2.2.2.1
let i60 : Int := x.1.2.1.1
let i61 : Int := x.1.2.1.2.1
bif (i52 == 2) then (
κ0 true) else (
bif (i52 == 3) then (
bif (i60 == 0) then (
κ0 ((decide (i61 < 2)))) else (
κ0 false)) else (
κ0 false))
def EG_73 {R : Type} : Env R := Env.base QQ LN
def LG_73 {R : Type} : Loops R := Loops.none
def E_73 {R : Type} (N : Nat) : Env R := EG_73
theorem eok_73 {R : Type} (N : Nat) : EK Try.prog (E_73 (R := R) N) := ek_base _ _
def L_73 {R : Type} (N : Nat) : Loops R := LG_73
theorem lok_73 {R : Type} (N : Nat) : LOK 0 TT (E_73 (R := R) N) (drawOk TT QQ) (L_73 N) (bodyOf Try.f73) := loops_nil (by kernel_rfl)
theorem grun_73 {R : Type} (x : aden ap_73 × hden hp_73) (k : KF R) : fnrun TT (EG_73) (drawOk TT QQ) (LG_73) true Try.f73 (instA ap_73 x.1) (instH hp_73 x.2) k = Q_73 x (fun y => k (Pat.inst (.bool) y) (instH hp_73 x.2)) := by kernel_rfl
theorem run_73 {R : Type} (N : Nat) (x : aden ap_73 × hden hp_73) (k : KF R) : fnrun TT (E_73 (R := R) N) (drawOk TT QQ) (L_73 N) true Try.f73 (instA ap_73 x.1) (instH hp_73 x.2) k = p_73 N x (fun y => k (Pat.inst (.bool) y) (instH hp_73 x.2)) := (grun_73 x k).trans (by kernel_rfl)
theorem good_73 {R : Type} (N : Nat) : GD (X := R) Try.prog QQ 73 ap_73 hp_73 (fun (x : aden ap_73 × hden hp_73) k => p_73 N x (fun y => k (Pat.inst (.bool) y) (instH hp_73 x.2))) :=
  gd_quiet (E := E_73 N) (p := fun (x : aden ap_73 × hden hp_73) κ => p_73 N x (fun y => κ (Pat.inst (.bool) y))) mixed tyok (eok_73 N) Try.func73 (by kernel_rfl) (by kernel_rfl) (lok_73 N) (fun x k => run_73 N x k)

def ap_69 : List Pat := []
def hp_69 : List (Option (Pat × Nat)) := []
def p_69 {R : Type} (N : Nat) (x : (Unit) × (Unit)) (κ0 : Bool → Option R) : Option R :=
p_26 N (((3, (2, (8, (1, (32, ()))))), ()), ()) (fun y42 =>
let i43 : Int := y42.1.1
let i44 : Int := y42.1.2.1
let i45 : Int := y42.1.2.2.1
let i46 : Int := y42.1.2.2.2.1
let i47 : Int := y42.1.2.2.2.2.1
let i48 : Int := y42.1.2.2.2.2.2.1
let i49 : Int := y42.1.2.2.2.2.2.2.1
let i50 : Int := y42.1.2.2.2.2.2.2.2.1
let i51 : Int := y42.2.1
bif (i51 == 0) then (
p_73 N (((i43, (i44, (i45, (i46, (i47, (i48, (i49, (i50, ())))))))), (0, (1, ())), ()), ()) (fun y62 =>
let b63 : Bool := y62
bif b63 then (
p_73 N (((i43, (i44, (i45, (i46, (i47, (i48, (i49, (i50, ())))))))), (1, (0, ())), ()), ()) (fun y64 =>
let b65 : Bool := y64
κ0 ((bif (!b65) then true else false)))) else (
κ0 false))) else (
κ0 false))

abbrev Tp_69 (R : Type) : Type := (Unit) × (Unit) → (Bool → Option R) → Option R
def Q_69 {R : Type} (q_26 : Tp_26 R) (q_73 : Tp_73 R) (x : (Unit) × (Unit)) (κ0 : Bool → Option R) : Option R :=
q_26 (((3, (2, (8, (1, (32, ()))))), ()), ()) (fun y42 =>
let i43 : Int := y42.1.1
let i44 : Int := y42.1.2.1
let i45 : Int := y42.1.2.2.1
let i46 : Int := y42.1.2.2.2.1
let i47 : Int := y42.1.2.2.2.2.1
let i48 : Int := y42.1.2.2.2.2.2.1
let i49 : Int := y42.1.2.2.2.2.2.2.1
let i50 : Int := y42.1.2.2.2.2.2.2.2.1
let i51 : Int := y42.2.1
bif (i51 == 0) then (
q_73 (((i43, (i44, (i45, (i46, (i47, (i48, (i49, (i50, ())))))))), (0, (1, ())), ()), ()) (fun y62 =>
let b63 : Bool := y62
bif b63 then (
q_73 (((i43, (i44, (i45, (i46, (i47, (i48, (i49, (i50, ())))))))), (1, (0, ())), ()), ()) (fun y64 =>
let b65 : Bool := y64
κ0 ((bif (!b65) then true else false)))) else (
κ0 false))) else (
κ0 false))
def EG_69 {R : Type} (q_26 : Tp_26 R) (q_73 : Tp_73 R) : Env R := ((Env.base QQ LN).add 26 ap_26 hp_26 (fun (x : aden ap_26 × hden hp_26) k => q_26 x (fun y => k (Pat.inst (.tup (.fcons (.node (.fcons (.int .i64) (.fcons (.int .i64) (.fcons (.int .i64) (.fcons (.int .i64) (.fcons (.int .i64) (.fcons (.int .i64) (.fcons (.int .i64) (.fcons (.int .i64) (.fnil)))))))))) (.fcons (.int .i64) (.fnil)))) y) (instH hp_26 x.2)))).add 73 ap_73 hp_73 (fun (x : aden ap_73 × hden hp_73) k => q_73 x (fun y => k (Pat.inst (.bool) y) (instH hp_73 x.2)))
def LG_69 {R : Type} : Loops R := Loops.none
def E_69 {R : Type} (N : Nat) : Env R := EG_69 (p_26 N) (p_73 N)
theorem eok_69 {R : Type} (N : Nat) : EK Try.prog (E_69 (R := R) N) := ek_add (ek_add (ek_base _ _) (good_26 N)) (good_73 N)
def L_69 {R : Type} (N : Nat) : Loops R := LG_69
theorem lok_69 {R : Type} (N : Nat) : LOK 0 TT (E_69 (R := R) N) (drawOk TT QQ) (L_69 N) (bodyOf Try.f69) := loops_nil (by kernel_rfl)
theorem grun_69 {R : Type} (q_26 : Tp_26 R) (q_73 : Tp_73 R) (x : aden ap_69 × hden hp_69) (k : KF R) : fnrun TT (EG_69 q_26 q_73) (drawOk TT QQ) (LG_69) true Try.f69 (instA ap_69 x.1) (instH hp_69 x.2) k = Q_69 q_26 q_73 x (fun y => k (Pat.inst (.bool) y) (instH hp_69 x.2)) := by kernel_rfl
theorem run_69 {R : Type} (N : Nat) (x : aden ap_69 × hden hp_69) (k : KF R) : fnrun TT (E_69 (R := R) N) (drawOk TT QQ) (L_69 N) true Try.f69 (instA ap_69 x.1) (instH hp_69 x.2) k = p_69 N x (fun y => k (Pat.inst (.bool) y) (instH hp_69 x.2)) := (grun_69 (p_26 N) (p_73 N) x k).trans (by kernel_rfl)
theorem good_69 {R : Type} (N : Nat) : GD (X := R) Try.prog QQ 69 ap_69 hp_69 (fun (x : aden ap_69 × hden hp_69) k => p_69 N x (fun y => k (Pat.inst (.bool) y) (instH hp_69 x.2))) :=
  gd_quiet (E := E_69 N) (p := fun (x : aden ap_69 × hden hp_69) κ => p_69 N x (fun y => κ (Pat.inst (.bool) y))) mixed tyok (eok_69 N) Try.func69 (by kernel_rfl) (by kernel_rfl) (lok_69 N) (fun x k => run_69 N x k)

def ap_75 : List Pat := [.nilp, .int .i64]
def hp_75 : List (Option (Pat × Nat)) := []
def p_75 {R : Type} (N : Nat) (x : (Unit × Int × Unit) × (Unit)) (κ0 : ((Int × (Int × Unit)) × (Unit)) → Option R) : Option R :=
let i68 : Int := x.1.2.1
κ0 ((0, (0, ())), ())

abbrev Tp_75 (R : Type) : Type := (Unit × Int × Unit) × (Unit) → (((Int × (Int × Unit)) × (Unit)) → Option R) → Option R
def Q_75 {R : Type} (x : (Unit × Int × Unit) × (Unit)) (κ0 : ((Int × (Int × Unit)) × (Unit)) → Option R) : Option R :=
let i68 : Int := x.1.2.1
κ0 ((0, (0, ())), ())
def EG_75 {R : Type} : Env R := Env.base QQ LN
def LG_75 {R : Type} : Loops R := Loops.none
def E_75 {R : Type} (N : Nat) : Env R := EG_75
theorem eok_75 {R : Type} (N : Nat) : EK Try.prog (E_75 (R := R) N) := ek_base _ _
def L_75 {R : Type} (N : Nat) : Loops R := LG_75
theorem lok_75 {R : Type} (N : Nat) : LOK 0 TT (E_75 (R := R) N) (drawOk TT QQ) (L_75 N) (bodyOf Try.f75) := loops_nil (by kernel_rfl)
theorem grun_75 {R : Type} (x : aden ap_75 × hden hp_75) (k : KF R) : fnrun TT (EG_75) (drawOk TT QQ) (LG_75) true Try.f75 (instA ap_75 x.1) (instH hp_75 x.2) k = Q_75 x (fun y => k (Pat.inst (.tup (.fcons (.int .u32) (.fcons (.int .u32) (.fnil)))) y.1) (instH [] y.2)) := by kernel_rfl
theorem run_75 {R : Type} (N : Nat) (x : aden ap_75 × hden hp_75) (k : KF R) : fnrun TT (E_75 (R := R) N) (drawOk TT QQ) (L_75 N) true Try.f75 (instA ap_75 x.1) (instH hp_75 x.2) k = p_75 N x (fun y => k (Pat.inst (.tup (.fcons (.int .u32) (.fcons (.int .u32) (.fnil)))) y.1) (instH [] y.2)) := (grun_75 x k).trans (by kernel_rfl)
theorem good_75 {R : Type} (N : Nat) : GD (X := R) Try.prog QQ 75 ap_75 hp_75 (fun (x : aden ap_75 × hden hp_75) k => p_75 N x (fun y => k (Pat.inst (.tup (.fcons (.int .u32) (.fcons (.int .u32) (.fnil)))) y.1) (instH [] y.2))) :=
  gd_loud (E := E_75 N) (p := fun (x : aden ap_75 × hden hp_75) k => p_75 N x (fun y => k (Pat.inst (.tup (.fcons (.int .u32) (.fcons (.int .u32) (.fnil)))) y.1) (instH [] y.2))) mixed tyok (eok_75 N) Try.func75 (by kernel_rfl) (by kernel_rfl) (by kernel_rfl) (lok_75 N) (fun x k => run_75 N x k)

def ap_76 : List Pat := [.nilp]
def hp_76 : List (Option (Pat × Nat)) := []
def p_76 {R : Type} (N : Nat) (x : (Unit × Unit) × (Unit)) (κ0 : Int → Option R) : Option R :=
κ0 0

abbrev Tp_76 (R : Type) : Type := (Unit × Unit) × (Unit) → (Int → Option R) → Option R
def Q_76 {R : Type} (x : (Unit × Unit) × (Unit)) (κ0 : Int → Option R) : Option R :=
κ0 0
def EG_76 {R : Type} : Env R := Env.base QQ LN
def LG_76 {R : Type} : Loops R := Loops.none
def E_76 {R : Type} (N : Nat) : Env R := EG_76
theorem eok_76 {R : Type} (N : Nat) : EK Try.prog (E_76 (R := R) N) := ek_base _ _
def L_76 {R : Type} (N : Nat) : Loops R := LG_76
theorem lok_76 {R : Type} (N : Nat) : LOK 0 TT (E_76 (R := R) N) (drawOk TT QQ) (L_76 N) (bodyOf Try.f76) := loops_nil (by kernel_rfl)
theorem grun_76 {R : Type} (x : aden ap_76 × hden hp_76) (k : KF R) : fnrun TT (EG_76) (drawOk TT QQ) (LG_76) true Try.f76 (instA ap_76 x.1) (instH hp_76 x.2) k = Q_76 x (fun y => k (Pat.inst (.int .i64) y) (instH hp_76 x.2)) := by kernel_rfl
theorem run_76 {R : Type} (N : Nat) (x : aden ap_76 × hden hp_76) (k : KF R) : fnrun TT (E_76 (R := R) N) (drawOk TT QQ) (L_76 N) true Try.f76 (instA ap_76 x.1) (instH hp_76 x.2) k = p_76 N x (fun y => k (Pat.inst (.int .i64) y) (instH hp_76 x.2)) := (grun_76 x k).trans (by kernel_rfl)
theorem good_76 {R : Type} (N : Nat) : GD (X := R) Try.prog QQ 76 ap_76 hp_76 (fun (x : aden ap_76 × hden hp_76) k => p_76 N x (fun y => k (Pat.inst (.int .i64) y) (instH hp_76 x.2))) :=
  gd_quiet (E := E_76 N) (p := fun (x : aden ap_76 × hden hp_76) κ => p_76 N x (fun y => κ (Pat.inst (.int .i64) y))) mixed tyok (eok_76 N) Try.func76 (by kernel_rfl) (by kernel_rfl) (lok_76 N) (fun x k => run_76 N x k)

def ap_49 : List Pat := [.node (.fcons (.int .i64) (.fcons (.int .i64) (.fcons (.int .i64) (.fcons (.int .i64) (.fcons (.int .i64) (.fcons (.int .i64) (.fcons (.int .i64) (.fcons (.int .i64) (.fnil))))))))), .node (.fcons (.int .i64) (.fcons (.int .i64) (.fnil)))]
def hp_49 : List (Option (Pat × Nat)) := []
def p_49 {R : Type} (N : Nat) (x : ((Int × (Int × (Int × (Int × (Int × (Int × (Int × (Int × Unit)))))))) × (Int × (Int × Unit)) × Unit) × (Unit)) (κ0 : Bool → Option R) : Option R :=
let i84 : Int := x.1.1.1
let i85 : Int := x.1.1.2.1
let i86 : Int := x.1.1.2.2.1
let i87 : Int := x.1.1.2.2.2.1
let i88 : Int := x.1.1.2.2.2.2.1
let i89 : Int := x.1.1.2.2.2.2.2.1
let i90 : Int := x.1.1.2.2.2.2.2.2.1
let i91 : Int := x.1.1.2.2.2.2.2.2.2.1
let i92 : Int := x.1.2.1.1
let i93 : Int := x.1.2.1.2.1
let i94 : Int := subA .i64 i85 1
p_87 N ((i92, 0, i94, ()), ()) (fun y95 =>
let b96 : Bool := y95
bif b96 then (
p_87 N ((i93, 0, 3, ()), ()) (fun y97 =>
let b98 : Bool := y97
κ0 b98)) else (
κ0 false))

abbrev Tp_49 (R : Type) : Type := ((Int × (Int × (Int × (Int × (Int × (Int × (Int × (Int × Unit)))))))) × (Int × (Int × Unit)) × Unit) × (Unit) → (Bool → Option R) → Option R
def Q_49 {R : Type} (q_87 : Tp_87 R) (x : ((Int × (Int × (Int × (Int × (Int × (Int × (Int × (Int × Unit)))))))) × (Int × (Int × Unit)) × Unit) × (Unit)) (κ0 : Bool → Option R) : Option R :=
let i84 : Int := x.1.1.1
let i85 : Int := x.1.1.2.1
let i86 : Int := x.1.1.2.2.1
let i87 : Int := x.1.1.2.2.2.1
let i88 : Int := x.1.1.2.2.2.2.1
let i89 : Int := x.1.1.2.2.2.2.2.1
let i90 : Int := x.1.1.2.2.2.2.2.2.1
let i91 : Int := x.1.1.2.2.2.2.2.2.2.1
let i92 : Int := x.1.2.1.1
let i93 : Int := x.1.2.1.2.1
let i94 : Int := subA .i64 i85 1
q_87 ((i92, 0, i94, ()), ()) (fun y95 =>
let b96 : Bool := y95
bif b96 then (
q_87 ((i93, 0, 3, ()), ()) (fun y97 =>
let b98 : Bool := y97
κ0 b98)) else (
κ0 false))
def EG_49 {R : Type} (q_87 : Tp_87 R) : Env R := (Env.base QQ LN).add 87 ap_87 hp_87 (fun (x : aden ap_87 × hden hp_87) k => q_87 x (fun y => k (Pat.inst (.bool) y) (instH hp_87 x.2)))
def LG_49 {R : Type} : Loops R := Loops.none
def E_49 {R : Type} (N : Nat) : Env R := EG_49 (p_87 N)
theorem eok_49 {R : Type} (N : Nat) : EK Try.prog (E_49 (R := R) N) := ek_add (ek_base _ _) (good_87 N)
def L_49 {R : Type} (N : Nat) : Loops R := LG_49
theorem lok_49 {R : Type} (N : Nat) : LOK 0 TT (E_49 (R := R) N) (drawOk TT QQ) (L_49 N) (bodyOf Try.f49) := loops_nil (by kernel_rfl)
theorem grun_49 {R : Type} (q_87 : Tp_87 R) (x : aden ap_49 × hden hp_49) (k : KF R) : fnrun TT (EG_49 q_87) (drawOk TT QQ) (LG_49) true Try.f49 (instA ap_49 x.1) (instH hp_49 x.2) k = Q_49 q_87 x (fun y => k (Pat.inst (.bool) y) (instH hp_49 x.2)) := by kernel_rfl
theorem run_49 {R : Type} (N : Nat) (x : aden ap_49 × hden hp_49) (k : KF R) : fnrun TT (E_49 (R := R) N) (drawOk TT QQ) (L_49 N) true Try.f49 (instA ap_49 x.1) (instH hp_49 x.2) k = p_49 N x (fun y => k (Pat.inst (.bool) y) (instH hp_49 x.2)) := (grun_49 (p_87 N) x k).trans (by kernel_rfl)
theorem good_49 {R : Type} (N : Nat) : GD (X := R) Try.prog QQ 49 ap_49 hp_49 (fun (x : aden ap_49 × hden hp_49) k => p_49 N x (fun y => k (Pat.inst (.bool) y) (instH hp_49 x.2))) :=
  gd_quiet (E := E_49 N) (p := fun (x : aden ap_49 × hden hp_49) κ => p_49 N x (fun y => κ (Pat.inst (.bool) y))) mixed tyok (eok_49 N) Try.func49 (by kernel_rfl) (by kernel_rfl) (lok_49 N) (fun x k => run_49 N x k)

def ap_77 : List Pat := [.node (.fcons (.int .i64) (.fcons (.int .i64) (.fcons (.int .i64) (.fcons (.int .i64) (.fcons (.int .i64) (.fcons (.int .i64) (.fcons (.int .i64) (.fcons (.int .i64) (.fnil))))))))), .node (.fcons (.int .i64) (.fcons (.int .i64) (.fnil))), .int .i64]
def hp_77 : List (Option (Pat × Nat)) := []
def p_77 {R : Type} (N : Nat) (x : ((Int × (Int × (Int × (Int × (Int × (Int × (Int × (Int × Unit)))))))) × (Int × (Int × Unit)) × Int × Unit) × (Unit)) (κ0 : (Unit × (((Int × (Int × (Int × (Int × (Int × (Int × (Int × (Int × Unit)))))))) × ((Int × (Int × Unit)) × (Int × (Int × ((Nat → Int) × Unit))))) × Unit)) → Option R) : Option R :=
let i102 : Int := x.1.1.1
let i103 : Int := x.1.1.2.1
let i104 : Int := x.1.1.2.2.1
let i105 : Int := x.1.1.2.2.2.1
let i106 : Int := x.1.1.2.2.2.2.1
let i107 : Int := x.1.1.2.2.2.2.2.1
let i108 : Int := x.1.1.2.2.2.2.2.2.1
let i109 : Int := x.1.1.2.2.2.2.2.2.2.1
let i110 : Int := x.1.2.1.1
let i111 : Int := x.1.2.1.2.1
let i112 : Int := x.1.2.2.1
κ0 ((), (((i102, (i103, (i104, (i105, (i106, (i107, (i108, (i109, ())))))))), ((i110, (i111, ())), (i112, (0, ((Sch.zero (.arr 128 (.int .u64))), ()))))), ()))

abbrev Tp_77 (R : Type) : Type := ((Int × (Int × (Int × (Int × (Int × (Int × (Int × (Int × Unit)))))))) × (Int × (Int × Unit)) × Int × Unit) × (Unit) → ((Unit × (((Int × (Int × (Int × (Int × (Int × (Int × (Int × (Int × Unit)))))))) × ((Int × (Int × Unit)) × (Int × (Int × ((Nat → Int) × Unit))))) × Unit)) → Option R) → Option R
def Q_77 {R : Type} (x : ((Int × (Int × (Int × (Int × (Int × (Int × (Int × (Int × Unit)))))))) × (Int × (Int × Unit)) × Int × Unit) × (Unit)) (κ0 : (Unit × (((Int × (Int × (Int × (Int × (Int × (Int × (Int × (Int × Unit)))))))) × ((Int × (Int × Unit)) × (Int × (Int × ((Nat → Int) × Unit))))) × Unit)) → Option R) : Option R :=
let i102 : Int := x.1.1.1
let i103 : Int := x.1.1.2.1
let i104 : Int := x.1.1.2.2.1
let i105 : Int := x.1.1.2.2.2.1
let i106 : Int := x.1.1.2.2.2.2.1
let i107 : Int := x.1.1.2.2.2.2.2.1
let i108 : Int := x.1.1.2.2.2.2.2.2.1
let i109 : Int := x.1.1.2.2.2.2.2.2.2.1
let i110 : Int := x.1.2.1.1
let i111 : Int := x.1.2.1.2.1
let i112 : Int := x.1.2.2.1
κ0 ((), (((i102, (i103, (i104, (i105, (i106, (i107, (i108, (i109, ())))))))), ((i110, (i111, ())), (i112, (0, ((Sch.zero (.arr 128 (.int .u64))), ()))))), ()))
def EG_77 {R : Type} : Env R := Env.base QQ LN
def LG_77 {R : Type} : Loops R := Loops.none
def E_77 {R : Type} (N : Nat) : Env R := EG_77
theorem eok_77 {R : Type} (N : Nat) : EK Try.prog (E_77 (R := R) N) := ek_base _ _
def L_77 {R : Type} (N : Nat) : Loops R := LG_77
theorem lok_77 {R : Type} (N : Nat) : LOK 0 TT (E_77 (R := R) N) (drawOk TT QQ) (L_77 N) (bodyOf Try.f77) := loops_nil (by kernel_rfl)
theorem grun_77 {R : Type} (x : aden ap_77 × hden hp_77) (k : KF R) : fnrun TT (EG_77) (drawOk TT QQ) (LG_77) true Try.f77 (instA ap_77 x.1) (instH hp_77 x.2) k = Q_77 x (fun y => k (Pat.inst (.ptr 0 []) y.1) (instH [some (.node (.fcons (.node (.fcons (.int .i64) (.fcons (.int .i64) (.fcons (.int .i64) (.fcons (.int .i64) (.fcons (.int .i64) (.fcons (.int .i64) (.fcons (.int .i64) (.fcons (.int .i64) (.fnil)))))))))) (.fcons (.node (.fcons (.int .i64) (.fcons (.int .i64) (.fnil)))) (.fcons (.int .i64) (.fcons (.int .i64) (.fcons (.vec (.int .u64) 128) (.fnil)))))), 169)] y.2)) := by kernel_rfl
theorem run_77 {R : Type} (N : Nat) (x : aden ap_77 × hden hp_77) (k : KF R) : fnrun TT (E_77 (R := R) N) (drawOk TT QQ) (L_77 N) true Try.f77 (instA ap_77 x.1) (instH hp_77 x.2) k = p_77 N x (fun y => k (Pat.inst (.ptr 0 []) y.1) (instH [some (.node (.fcons (.node (.fcons (.int .i64) (.fcons (.int .i64) (.fcons (.int .i64) (.fcons (.int .i64) (.fcons (.int .i64) (.fcons (.int .i64) (.fcons (.int .i64) (.fcons (.int .i64) (.fnil)))))))))) (.fcons (.node (.fcons (.int .i64) (.fcons (.int .i64) (.fnil)))) (.fcons (.int .i64) (.fcons (.int .i64) (.fcons (.vec (.int .u64) 128) (.fnil)))))), 169)] y.2)) := (grun_77 x k).trans (by kernel_rfl)
theorem good_77 {R : Type} (N : Nat) : GD (X := R) Try.prog QQ 77 ap_77 hp_77 (fun (x : aden ap_77 × hden hp_77) k => p_77 N x (fun y => k (Pat.inst (.ptr 0 []) y.1) (instH [some (.node (.fcons (.node (.fcons (.int .i64) (.fcons (.int .i64) (.fcons (.int .i64) (.fcons (.int .i64) (.fcons (.int .i64) (.fcons (.int .i64) (.fcons (.int .i64) (.fcons (.int .i64) (.fnil)))))))))) (.fcons (.node (.fcons (.int .i64) (.fcons (.int .i64) (.fnil)))) (.fcons (.int .i64) (.fcons (.int .i64) (.fcons (.vec (.int .u64) 128) (.fnil)))))), 169)] y.2))) :=
  gd_loud (E := E_77 N) (p := fun (x : aden ap_77 × hden hp_77) k => p_77 N x (fun y => k (Pat.inst (.ptr 0 []) y.1) (instH [some (.node (.fcons (.node (.fcons (.int .i64) (.fcons (.int .i64) (.fcons (.int .i64) (.fcons (.int .i64) (.fcons (.int .i64) (.fcons (.int .i64) (.fcons (.int .i64) (.fcons (.int .i64) (.fnil)))))))))) (.fcons (.node (.fcons (.int .i64) (.fcons (.int .i64) (.fnil)))) (.fcons (.int .i64) (.fcons (.int .i64) (.fcons (.vec (.int .u64) 128) (.fnil)))))), 169)] y.2))) mixed tyok (eok_77 N) Try.func77 (by kernel_rfl) (by kernel_rfl) (by kernel_rfl) (lok_77 N) (fun x k => run_77 N x k)

def ap_104 : List Pat := [.node (.fcons (.int .i64) (.fcons (.int .i64) (.fcons (.int .i64) (.fcons (.int .i64) (.fcons (.int .i64) (.fcons (.int .i64) (.fcons (.int .i64) (.fcons (.int .i64) (.fnil)))))))))]
def hp_104 : List (Option (Pat × Nat)) := []
def p_104 {R : Type} (N : Nat) (x : ((Int × (Int × (Int × (Int × (Int × (Int × (Int × (Int × Unit)))))))) × Unit) × (Unit)) (κ0 : Int → Option R) : Option R :=
let i199 : Int := x.1.1.1
let i200 : Int := x.1.1.2.1
let i201 : Int := x.1.1.2.2.1
let i202 : Int := x.1.1.2.2.2.1
let i203 : Int := x.1.1.2.2.2.2.1
let i204 : Int := x.1.1.2.2.2.2.2.1
let i205 : Int := x.1.1.2.2.2.2.2.2.1
let i206 : Int := x.1.1.2.2.2.2.2.2.2.1
let i207 : Int := subA .i64 i199 1
κ0 i207

abbrev Tp_104 (R : Type) : Type := ((Int × (Int × (Int × (Int × (Int × (Int × (Int × (Int × Unit)))))))) × Unit) × (Unit) → (Int → Option R) → Option R
def Q_104 {R : Type} (x : ((Int × (Int × (Int × (Int × (Int × (Int × (Int × (Int × Unit)))))))) × Unit) × (Unit)) (κ0 : Int → Option R) : Option R :=
let i199 : Int := x.1.1.1
let i200 : Int := x.1.1.2.1
let i201 : Int := x.1.1.2.2.1
let i202 : Int := x.1.1.2.2.2.1
let i203 : Int := x.1.1.2.2.2.2.1
let i204 : Int := x.1.1.2.2.2.2.2.1
let i205 : Int := x.1.1.2.2.2.2.2.2.1
let i206 : Int := x.1.1.2.2.2.2.2.2.2.1
let i207 : Int := subA .i64 i199 1
κ0 i207
def EG_104 {R : Type} : Env R := Env.base QQ LN
def LG_104 {R : Type} : Loops R := Loops.none
def E_104 {R : Type} (N : Nat) : Env R := EG_104
theorem eok_104 {R : Type} (N : Nat) : EK Try.prog (E_104 (R := R) N) := ek_base _ _
def L_104 {R : Type} (N : Nat) : Loops R := LG_104
theorem lok_104 {R : Type} (N : Nat) : LOK 0 TT (E_104 (R := R) N) (drawOk TT QQ) (L_104 N) (bodyOf Try.f104) := loops_nil (by kernel_rfl)
theorem grun_104 {R : Type} (x : aden ap_104 × hden hp_104) (k : KF R) : fnrun TT (EG_104) (drawOk TT QQ) (LG_104) true Try.f104 (instA ap_104 x.1) (instH hp_104 x.2) k = Q_104 x (fun y => k (Pat.inst (.int .i64) y) (instH hp_104 x.2)) := by kernel_rfl
theorem run_104 {R : Type} (N : Nat) (x : aden ap_104 × hden hp_104) (k : KF R) : fnrun TT (E_104 (R := R) N) (drawOk TT QQ) (L_104 N) true Try.f104 (instA ap_104 x.1) (instH hp_104 x.2) k = p_104 N x (fun y => k (Pat.inst (.int .i64) y) (instH hp_104 x.2)) := (grun_104 x k).trans (by kernel_rfl)
theorem good_104 {R : Type} (N : Nat) : GD (X := R) Try.prog QQ 104 ap_104 hp_104 (fun (x : aden ap_104 × hden hp_104) k => p_104 N x (fun y => k (Pat.inst (.int .i64) y) (instH hp_104 x.2))) :=
  gd_quiet (E := E_104 N) (p := fun (x : aden ap_104 × hden hp_104) κ => p_104 N x (fun y => κ (Pat.inst (.int .i64) y))) mixed tyok (eok_104 N) Try.func104 (by kernel_rfl) (by kernel_rfl) (lok_104 N) (fun x k => run_104 N x k)

def lv_70_4 : Live := [(8, none), (10, none), (26, none), (27, none)]
def pt_70_4 : SPat := ⟨[(8, .ptr 0 []), (10, .ptr 1 []), (26, .vec (.int .i64) 7), (27, .int .i64)], [some (.vec (.int .u64) 128, 70), some (.vec (.int .u64) 128, 70)]⟩
def px_70_4_0 : SPat := ⟨[(8, .ptr 0 []), (10, .ptr 1 [])], [some (.vec (.int .u64) 128, 70), some (.vec (.int .u64) 128, 70)]⟩
def lo_70_4 : Exit → Live
  | .exit 0 => [(8, none), (10, none)]
  | _ => []
def B_70_4 {R : Type} (N : Nat) (rec : ((Unit × Unit × (Nat → Int) × Int × Unit) × ((Nat → Int) × (Nat → Int) × Unit)) → Option R) (x : ((Unit × Unit × (Nat → Int) × Int × Unit) × ((Nat → Int) × (Nat → Int) × Unit))) (κ0 : ((Unit × Unit × Unit) × ((Nat → Int) × (Nat → Int) × Unit)) → Option R) : Option R :=
let a211 : (Nat → Int) := x.1.2.2.1
let i212 : Int := x.1.2.2.2.1
let a213 : (Nat → Int) := x.2.1
let a214 : (Nat → Int) := x.2.2.1
bif (decide (i212 < 7)) then (
bif decide (0 ≤ i212) then (
bif decide (i212 < (7 : Int)) then (
let i215 : Int := (a211 ((Int.toNat i212)))
let i216 : Int := IntKind.wrap .u64 i215
bif decide (0 ≤ i212) then (
bif decide (i212 < (128 : Int)) then (
let a217 : (Nat → Int) := (upd a214 ((Int.toNat i212)) i216)
let i218 : Int := addA .i64 i212 1
rec (((), (), a211, i218, ()), (a213, a217, ()))) else none) else none) else none) else none) else (
κ0 (((), (), ()), (a213, a214, ())))
def l_70_4 {R : Type} (N : Nat) : Nat → ((Unit × Unit × (Nat → Int) × Int × Unit) × ((Nat → Int) × (Nat → Int) × Unit)) → (((Unit × Unit × Unit) × ((Nat → Int) × (Nat → Int) × Unit)) → Option R) → Option R
  | 0, _, _ => none
  | n + 1, x, κ0 => B_70_4 N (fun y => l_70_4 N n y κ0) x κ0
def ap_70 : List Pat := [.node (.fcons (.int .i64) (.fcons (.int .i64) (.fcons (.int .i64) (.fcons (.int .i64) (.fcons (.int .i64) (.fcons (.int .i64) (.fcons (.int .i64) (.fcons (.int .i64) (.fnil))))))))), .node (.fcons (.int .i64) (.fcons (.int .i64) (.fnil))), .int .i64, .int .i64]
def hp_70 : List (Option (Pat × Nat)) := []
def p_70 {R : Type} (N : Nat) (x : ((Int × (Int × (Int × (Int × (Int × (Int × (Int × (Int × Unit)))))))) × (Int × (Int × Unit)) × Int × Int × Unit) × (Unit)) (κ0 : (Nat → Int) → Option R) : Option R :=
let i187 : Int := x.1.1.1
let i188 : Int := x.1.1.2.1
let i189 : Int := x.1.1.2.2.1
let i190 : Int := x.1.1.2.2.2.1
let i191 : Int := x.1.1.2.2.2.2.1
let i192 : Int := x.1.1.2.2.2.2.2.1
let i193 : Int := x.1.1.2.2.2.2.2.2.1
let i194 : Int := x.1.1.2.2.2.2.2.2.2.1
let i195 : Int := x.1.2.1.1
let i196 : Int := x.1.2.1.2.1
let i197 : Int := x.1.2.2.1
let i198 : Int := x.1.2.2.2.1
p_104 N (((i187, (i188, (i189, (i190, (i191, (i192, (i193, (i194, ())))))))), ()), ()) (fun y208 =>
let i209 : Int := y208
let a210 : (Nat → Int) := (upd ((upd ((upd ((upd ((upd ((upd ((upd ((Sch.zero (.arr 7 (.int .i64)))) 0 i195)) 1 i197)) 2 i196)) 3 i191)) 4 i188)) 5 i209)) 6 i198)
l_70_4 N N (((), (), a210, 0, ()), ((Sch.zero (.arr 128 (.int .u64))), (Sch.zero (.arr 128 (.int .u64))), ())) (fun y219 =>
let a220 : (Nat → Int) := y219.2.1
let a221 : (Nat → Int) := y219.2.2.1
κ0 a221))

abbrev Tl_70_4 (R : Type) : Type := ((Unit × Unit × (Nat → Int) × Int × Unit) × ((Nat → Int) × (Nat → Int) × Unit)) → (((Unit × Unit × Unit) × ((Nat → Int) × (Nat → Int) × Unit)) → Option R) → Option R
abbrev Tp_70 (R : Type) : Type := ((Int × (Int × (Int × (Int × (Int × (Int × (Int × (Int × Unit)))))))) × (Int × (Int × Unit)) × Int × Int × Unit) × (Unit) → ((Nat → Int) → Option R) → Option R
def Q_70 {R : Type} (q_104 : Tp_104 R) (m_70_4 : Tl_70_4 R) (x : ((Int × (Int × (Int × (Int × (Int × (Int × (Int × (Int × Unit)))))))) × (Int × (Int × Unit)) × Int × Int × Unit) × (Unit)) (κ0 : (Nat → Int) → Option R) : Option R :=
let i187 : Int := x.1.1.1
let i188 : Int := x.1.1.2.1
let i189 : Int := x.1.1.2.2.1
let i190 : Int := x.1.1.2.2.2.1
let i191 : Int := x.1.1.2.2.2.2.1
let i192 : Int := x.1.1.2.2.2.2.2.1
let i193 : Int := x.1.1.2.2.2.2.2.2.1
let i194 : Int := x.1.1.2.2.2.2.2.2.2.1
let i195 : Int := x.1.2.1.1
let i196 : Int := x.1.2.1.2.1
let i197 : Int := x.1.2.2.1
let i198 : Int := x.1.2.2.2.1
q_104 (((i187, (i188, (i189, (i190, (i191, (i192, (i193, (i194, ())))))))), ()), ()) (fun y208 =>
let i209 : Int := y208
let a210 : (Nat → Int) := (upd ((upd ((upd ((upd ((upd ((upd ((upd ((Sch.zero (.arr 7 (.int .i64)))) 0 i195)) 1 i197)) 2 i196)) 3 i191)) 4 i188)) 5 i209)) 6 i198)
m_70_4 (((), (), a210, 0, ()), ((Sch.zero (.arr 128 (.int .u64))), (Sch.zero (.arr 128 (.int .u64))), ())) (fun y219 =>
let a220 : (Nat → Int) := y219.2.1
let a221 : (Nat → Int) := y219.2.2.1
κ0 a221))
def C_70_4 {R : Type} (q_104 : Tp_104 R) (m_70_4 : Tl_70_4 R) (rec : ((Unit × Unit × (Nat → Int) × Int × Unit) × ((Nat → Int) × (Nat → Int) × Unit)) → Option R) (x : ((Unit × Unit × (Nat → Int) × Int × Unit) × ((Nat → Int) × (Nat → Int) × Unit))) (κ0 : ((Unit × Unit × Unit) × ((Nat → Int) × (Nat → Int) × Unit)) → Option R) : Option R :=
let a211 : (Nat → Int) := x.1.2.2.1
let i212 : Int := x.1.2.2.2.1
let a213 : (Nat → Int) := x.2.1
let a214 : (Nat → Int) := x.2.2.1
bif (decide (i212 < 7)) then (
bif decide (0 ≤ i212) then (
bif decide (i212 < (7 : Int)) then (
let i215 : Int := (a211 ((Int.toNat i212)))
let i216 : Int := IntKind.wrap .u64 i215
bif decide (0 ≤ i212) then (
bif decide (i212 < (128 : Int)) then (
let a217 : (Nat → Int) := (upd a214 ((Int.toNat i212)) i216)
let i218 : Int := addA .i64 i212 1
rec (((), (), a211, i218, ()), (a213, a217, ()))) else none) else none) else none) else none) else (
κ0 (((), (), ()), (a213, a214, ())))
def EG_70 {R : Type} (q_104 : Tp_104 R) : Env R := (Env.base QQ LN).add 104 ap_104 hp_104 (fun (x : aden ap_104 × hden hp_104) k => q_104 x (fun y => k (Pat.inst (.int .i64) y) (instH hp_104 x.2)))
def LG_70 {R : Type} (m_70_4 : Tl_70_4 R) : Loops R := (Loops.none).add 4 (loopBy 0 lv_70_4 pt_70_4 (fun x k => m_70_4 x (fun y => k (.exit 0) (px_70_4_0.inst y))))
def E_70 {R : Type} (N : Nat) : Env R := EG_70 (p_104 N)
theorem eok_70 {R : Type} (N : Nat) : EK Try.prog (E_70 (R := R) N) := ek_add (ek_base _ _) (good_104 N)
def L_70 {R : Type} (N : Nat) : Loops R := LG_70 (l_70_4 N N)
theorem gstep_70_4 {R : Type} (q_104 : Tp_104 R) (m_70_4 : Tl_70_4 R) (n : Nat) (x : pt_70_4.den) (k : Exit → St → Option R) : iter 0 lv_70_4 lo_70_4 (aexec TT (EG_70 q_104) (drawOk TT QQ) (LG_70 m_70_4) (loopAt 4 (bodyOf Try.f70))) (n + 1) (pt_70_4.inst x) k = C_70_4 q_104 m_70_4 (fun y => iter 0 lv_70_4 lo_70_4 (aexec TT (EG_70 q_104) (drawOk TT QQ) (LG_70 m_70_4) (loopAt 4 (bodyOf Try.f70))) n (pt_70_4.inst y) k) x (fun y => k (.exit 0) (px_70_4_0.inst y)) := by kernel_rfl
theorem step_70_4 {R : Type} (N n : Nat) (x : pt_70_4.den) (k : Exit → St → Option R) : iter 0 lv_70_4 lo_70_4 (aexec TT (E_70 (R := R) N) (drawOk TT QQ) (L_70 N) (loopAt 4 (bodyOf Try.f70))) (n + 1) (pt_70_4.inst x) k = B_70_4 N (fun y => iter 0 lv_70_4 lo_70_4 (aexec TT (E_70 (R := R) N) (drawOk TT QQ) (L_70 N) (loopAt 4 (bodyOf Try.f70))) n (pt_70_4.inst y) k) x (fun y => k (.exit 0) (px_70_4_0.inst y)) := (gstep_70_4 (p_104 N) (l_70_4 N N) n x k).trans (by kernel_rfl)
theorem eq_70_4 {R : Type} (N : Nat) : ∀ (n : Nat) (x : pt_70_4.den) (k : Exit → St → Option R), iter 0 lv_70_4 lo_70_4 (aexec TT (E_70 (R := R) N) (drawOk TT QQ) (L_70 N) (loopAt 4 (bodyOf Try.f70))) n (pt_70_4.inst x) k = l_70_4 N n x (fun y => k (.exit 0) (px_70_4_0.inst y)) :=
  iter_eq (K := Exit → St → Option R) (ks := fun k => k) (l := fun n (x : pt_70_4.den) k => l_70_4 N n x (fun y => k (.exit 0) (px_70_4_0.inst y))) (B := fun (rec : pt_70_4.den → Option R) (x : pt_70_4.den) k => B_70_4 N rec x (fun y => k (.exit 0) (px_70_4_0.inst y))) (fun _ _ => rfl) (fun _ _ _ => rfl) (fun n x k => step_70_4 N n x k)
theorem rounds_70_4 {R : Type} (N : Nat) : Rounds 0 TT (E_70 (R := R) N) (drawOk TT QQ) (L_70 N) 4 (loopAt 4 (bodyOf Try.f70)) :=
  rounds_of (p := pt_70_4) (l := fun (x : pt_70_4.den) k => l_70_4 N N x (fun y => k (.exit 0) (px_70_4_0.inst y))) (fun s k => rfl) (fun x k => eq_70_4 N N x k)
theorem loops_70 : loopsIn (bodyOf Try.f70) = [(4, loopAt 4 (bodyOf Try.f70))] := by kernel_rfl
theorem lok_70 {R : Type} (N : Nat) : LOK 0 TT (E_70 (R := R) N) (drawOk TT QQ) (L_70 N) (bodyOf Try.f70) := loops_all loops_70 (by
  simp only [List.forall_mem_cons, List.not_mem_nil, false_implies, implies_true, and_true]
  exact rounds_70_4 N)
theorem grun_70 {R : Type} (q_104 : Tp_104 R) (m_70_4 : Tl_70_4 R) (x : aden ap_70 × hden hp_70) (k : KF R) : fnrun TT (EG_70 q_104) (drawOk TT QQ) (LG_70 m_70_4) true Try.f70 (instA ap_70 x.1) (instH hp_70 x.2) k = Q_70 q_104 m_70_4 x (fun y => k (Pat.inst (.vec (.int .u64) 128) y) (instH hp_70 x.2)) := by kernel_rfl
theorem run_70 {R : Type} (N : Nat) (x : aden ap_70 × hden hp_70) (k : KF R) : fnrun TT (E_70 (R := R) N) (drawOk TT QQ) (L_70 N) true Try.f70 (instA ap_70 x.1) (instH hp_70 x.2) k = p_70 N x (fun y => k (Pat.inst (.vec (.int .u64) 128) y) (instH hp_70 x.2)) := (grun_70 (p_104 N) (l_70_4 N N) x k).trans (by kernel_rfl)
theorem good_70 {R : Type} (N : Nat) : GD (X := R) Try.prog QQ 70 ap_70 hp_70 (fun (x : aden ap_70 × hden hp_70) k => p_70 N x (fun y => k (Pat.inst (.vec (.int .u64) 128) y) (instH hp_70 x.2))) :=
  gd_quiet (E := E_70 N) (p := fun (x : aden ap_70 × hden hp_70) κ => p_70 N x (fun y => κ (Pat.inst (.vec (.int .u64) 128) y))) mixed tyok (eok_70 N) Try.func70 (by kernel_rfl) (by kernel_rfl) (lok_70 N) (fun x k => run_70 N x k)

def lv_94_6 : Live := [(2, none), (3, none), (8, none), (9, none), (10, none), (14, none), (15, none)]
def pt_94_6 : SPat := ⟨[(2, .ptr 0 []), (3, .ptr 1 []), (8, .ros (.arr 128 (.int .u64))), (9, .int .i64), (10, .int .i64), (14, .vec (.int .u64) 128), (15, .int .i64)], [some (.vec (.int .u64) 128, 70), some (.vec (.int .u64) 128, 70)]⟩
def px_94_6_0 : SPat := ⟨[(2, .ptr 0 []), (3, .ptr 1 []), (8, .ros (.arr 128 (.int .u64))), (9, .int .i64), (10, .int .i64)], [some (.vec (.int .u64) 128, 70), some (.vec (.int .u64) 128, 70)]⟩
def lo_94_6 : Exit → Live
  | .exit 2 => [(2, none), (3, none), (8, none), (9, none), (10, none)]
  | _ => []
def B_94_6 {R : Type} (N : Nat) (rec : ((Unit × Unit × (List (Nat → Int)) × Int × Int × (Nat → Int) × Int × Unit) × ((Nat → Int) × (Nat → Int) × Unit)) → Option R) (x : ((Unit × Unit × (List (Nat → Int)) × Int × Int × (Nat → Int) × Int × Unit) × ((Nat → Int) × (Nat → Int) × Unit))) (κ0 : ((Unit × Unit × (List (Nat → Int)) × Int × Int × Unit) × ((Nat → Int) × (Nat → Int) × Unit)) → Option R) : Option R :=
let l235 : (List (Nat → Int)) := x.1.2.2.1
let i236 : Int := x.1.2.2.2.1
let i237 : Int := x.1.2.2.2.2.1
let a238 : (Nat → Int) := x.1.2.2.2.2.2.1
let i239 : Int := x.1.2.2.2.2.2.2.1
let a240 : (Nat → Int) := x.2.1
let a241 : (Nat → Int) := x.2.2.1
bif (decide (i239 < 128)) then (
bif decide (0 ≤ i239) then (
bif decide (i239 < (128 : Int)) then (
let i242 : Int := (a238 ((Int.toNat i239)))
bif decide (0 ≤ i239) then (
bif decide (i239 < (128 : Int)) then (
let i243 : Int := (a241 ((Int.toNat i239)))
let i244 : Int := xorA .u64 i243 i242
bif decide (0 ≤ i239) then (
bif decide (i239 < (128 : Int)) then (
let a245 : (Nat → Int) := (upd a241 ((Int.toNat i239)) i244)
let i246 : Int := addA .i64 i239 1
rec (((), (), l235, i236, i237, a238, i246, ()), (a240, a245, ()))) else none) else none) else none) else none) else none) else none) else (
κ0 (((), (), l235, i236, i237, ()), (a240, a241, ())))
def l_94_6 {R : Type} (N : Nat) : Nat → ((Unit × Unit × (List (Nat → Int)) × Int × Int × (Nat → Int) × Int × Unit) × ((Nat → Int) × (Nat → Int) × Unit)) → (((Unit × Unit × (List (Nat → Int)) × Int × Int × Unit) × ((Nat → Int) × (Nat → Int) × Unit)) → Option R) → Option R
  | 0, _, _ => none
  | n + 1, x, κ0 => B_94_6 N (fun y => l_94_6 N n y κ0) x κ0
def lv_94_3 : Live := [(2, none), (3, none), (8, none), (9, none), (10, none)]
def pt_94_3 : SPat := ⟨[(2, .ptr 0 []), (3, .ptr 1 []), (8, .ros (.arr 128 (.int .u64))), (9, .int .i64), (10, .int .i64)], [some (.vec (.int .u64) 128, 70), some (.vec (.int .u64) 128, 70)]⟩
def px_94_3_0 : SPat := ⟨[(2, .ptr 0 []), (3, .ptr 1 [])], [some (.vec (.int .u64) 128, 70), some (.vec (.int .u64) 128, 70)]⟩
def lo_94_3 : Exit → Live
  | .exit 0 => [(2, none), (3, none)]
  | _ => []
def B_94_3 {R : Type} (N : Nat) (rec : ((Unit × Unit × (List (Nat → Int)) × Int × Int × Unit) × ((Nat → Int) × (Nat → Int) × Unit)) → Option R) (x : ((Unit × Unit × (List (Nat → Int)) × Int × Int × Unit) × ((Nat → Int) × (Nat → Int) × Unit))) (κ0 : ((Unit × Unit × Unit) × ((Nat → Int) × (Nat → Int) × Unit)) → Option R) : Option R :=
let l229 : (List (Nat → Int)) := x.1.2.2.1
let i230 : Int := x.1.2.2.2.1
let i231 : Int := x.1.2.2.2.2.1
let a232 : (Nat → Int) := x.2.1
let a233 : (Nat → Int) := x.2.2.1
bif (decide (i231 < i230)) then (
bif decide (0 ≤ i231) then (
bif decide (i231 < ((List.length l229) : Int)) then (
let p234 : (Nat → Int) := (List.getD l229 ((Int.toNat i231)) (Sch.zero (.arr 128 (.int .u64))))
l_94_6 N N (((), (), l229, i230, i231, p234, 0, ()), (a232, a233, ())) (fun y247 =>
let l248 : (List (Nat → Int)) := y247.1.2.2.1
let i249 : Int := y247.1.2.2.2.1
let i250 : Int := y247.1.2.2.2.2.1
let a251 : (Nat → Int) := y247.2.1
let a252 : (Nat → Int) := y247.2.2.1
let i253 : Int := addA .i64 i250 1
rec (((), (), l248, i249, i253, ()), (a251, a252, ())))) else none) else none) else (
κ0 (((), (), ()), (a232, a233, ())))
def l_94_3 {R : Type} (N : Nat) : Nat → ((Unit × Unit × (List (Nat → Int)) × Int × Int × Unit) × ((Nat → Int) × (Nat → Int) × Unit)) → (((Unit × Unit × Unit) × ((Nat → Int) × (Nat → Int) × Unit)) → Option R) → Option R
  | 0, _, _ => none
  | n + 1, x, κ0 => B_94_3 N (fun y => l_94_3 N n y κ0) x κ0
def ap_94 : List Pat := [.ros (.arr 128 (.int .u64))]
def hp_94 : List (Option (Pat × Nat)) := []
def p_94 {R : Type} (N : Nat) (x : ((List (Nat → Int)) × Unit) × (Unit)) (κ0 : (Nat → Int) → Option R) : Option R :=
let l227 : (List (Nat → Int)) := x.1.1
let i228 : Int := (((List.length l227) : Nat) : Int)
l_94_3 N N (((), (), l227, i228, 0, ()), ((Sch.zero (.arr 128 (.int .u64))), (Sch.zero (.arr 128 (.int .u64))), ())) (fun y254 =>
let a255 : (Nat → Int) := y254.2.1
let a256 : (Nat → Int) := y254.2.2.1
κ0 a256)

abbrev Tl_94_6 (R : Type) : Type := ((Unit × Unit × (List (Nat → Int)) × Int × Int × (Nat → Int) × Int × Unit) × ((Nat → Int) × (Nat → Int) × Unit)) → (((Unit × Unit × (List (Nat → Int)) × Int × Int × Unit) × ((Nat → Int) × (Nat → Int) × Unit)) → Option R) → Option R
abbrev Tl_94_3 (R : Type) : Type := ((Unit × Unit × (List (Nat → Int)) × Int × Int × Unit) × ((Nat → Int) × (Nat → Int) × Unit)) → (((Unit × Unit × Unit) × ((Nat → Int) × (Nat → Int) × Unit)) → Option R) → Option R
abbrev Tp_94 (R : Type) : Type := ((List (Nat → Int)) × Unit) × (Unit) → ((Nat → Int) → Option R) → Option R
def Q_94 {R : Type} (m_94_6 : Tl_94_6 R) (m_94_3 : Tl_94_3 R) (x : ((List (Nat → Int)) × Unit) × (Unit)) (κ0 : (Nat → Int) → Option R) : Option R :=
let l227 : (List (Nat → Int)) := x.1.1
let i228 : Int := (((List.length l227) : Nat) : Int)
m_94_3 (((), (), l227, i228, 0, ()), ((Sch.zero (.arr 128 (.int .u64))), (Sch.zero (.arr 128 (.int .u64))), ())) (fun y254 =>
let a255 : (Nat → Int) := y254.2.1
let a256 : (Nat → Int) := y254.2.2.1
κ0 a256)
def C_94_6 {R : Type} (m_94_6 : Tl_94_6 R) (m_94_3 : Tl_94_3 R) (rec : ((Unit × Unit × (List (Nat → Int)) × Int × Int × (Nat → Int) × Int × Unit) × ((Nat → Int) × (Nat → Int) × Unit)) → Option R) (x : ((Unit × Unit × (List (Nat → Int)) × Int × Int × (Nat → Int) × Int × Unit) × ((Nat → Int) × (Nat → Int) × Unit))) (κ0 : ((Unit × Unit × (List (Nat → Int)) × Int × Int × Unit) × ((Nat → Int) × (Nat → Int) × Unit)) → Option R) : Option R :=
let l235 : (List (Nat → Int)) := x.1.2.2.1
let i236 : Int := x.1.2.2.2.1
let i237 : Int := x.1.2.2.2.2.1
let a238 : (Nat → Int) := x.1.2.2.2.2.2.1
let i239 : Int := x.1.2.2.2.2.2.2.1
let a240 : (Nat → Int) := x.2.1
let a241 : (Nat → Int) := x.2.2.1
bif (decide (i239 < 128)) then (
bif decide (0 ≤ i239) then (
bif decide (i239 < (128 : Int)) then (
let i242 : Int := (a238 ((Int.toNat i239)))
bif decide (0 ≤ i239) then (
bif decide (i239 < (128 : Int)) then (
let i243 : Int := (a241 ((Int.toNat i239)))
let i244 : Int := xorA .u64 i243 i242
bif decide (0 ≤ i239) then (
bif decide (i239 < (128 : Int)) then (
let a245 : (Nat → Int) := (upd a241 ((Int.toNat i239)) i244)
let i246 : Int := addA .i64 i239 1
rec (((), (), l235, i236, i237, a238, i246, ()), (a240, a245, ()))) else none) else none) else none) else none) else none) else none) else (
κ0 (((), (), l235, i236, i237, ()), (a240, a241, ())))
def C_94_3 {R : Type} (m_94_6 : Tl_94_6 R) (m_94_3 : Tl_94_3 R) (rec : ((Unit × Unit × (List (Nat → Int)) × Int × Int × Unit) × ((Nat → Int) × (Nat → Int) × Unit)) → Option R) (x : ((Unit × Unit × (List (Nat → Int)) × Int × Int × Unit) × ((Nat → Int) × (Nat → Int) × Unit))) (κ0 : ((Unit × Unit × Unit) × ((Nat → Int) × (Nat → Int) × Unit)) → Option R) : Option R :=
let l229 : (List (Nat → Int)) := x.1.2.2.1
let i230 : Int := x.1.2.2.2.1
let i231 : Int := x.1.2.2.2.2.1
let a232 : (Nat → Int) := x.2.1
let a233 : (Nat → Int) := x.2.2.1
bif (decide (i231 < i230)) then (
bif decide (0 ≤ i231) then (
bif decide (i231 < ((List.length l229) : Int)) then (
let p234 : (Nat → Int) := (List.getD l229 ((Int.toNat i231)) (Sch.zero (.arr 128 (.int .u64))))
m_94_6 (((), (), l229, i230, i231, p234, 0, ()), (a232, a233, ())) (fun y247 =>
let l248 : (List (Nat → Int)) := y247.1.2.2.1
let i249 : Int := y247.1.2.2.2.1
let i250 : Int := y247.1.2.2.2.2.1
let a251 : (Nat → Int) := y247.2.1
let a252 : (Nat → Int) := y247.2.2.1
let i253 : Int := addA .i64 i250 1
rec (((), (), l248, i249, i253, ()), (a251, a252, ())))) else none) else none) else (
κ0 (((), (), ()), (a232, a233, ())))
def EG_94 {R : Type} : Env R := Env.base QQ LN
def LG_94 {R : Type} (m_94_6 : Tl_94_6 R) (m_94_3 : Tl_94_3 R) : Loops R := ((Loops.none).add 6 (loopBy 0 lv_94_6 pt_94_6 (fun x k => m_94_6 x (fun y => k (.exit 2) (px_94_6_0.inst y))))).add 3 (loopBy 0 lv_94_3 pt_94_3 (fun x k => m_94_3 x (fun y => k (.exit 0) (px_94_3_0.inst y))))
def E_94 {R : Type} (N : Nat) : Env R := EG_94
theorem eok_94 {R : Type} (N : Nat) : EK Try.prog (E_94 (R := R) N) := ek_base _ _
def L_94 {R : Type} (N : Nat) : Loops R := LG_94 (l_94_6 N N) (l_94_3 N N)
theorem gstep_94_6 {R : Type} (m_94_6 : Tl_94_6 R) (m_94_3 : Tl_94_3 R) (n : Nat) (x : pt_94_6.den) (k : Exit → St → Option R) : iter 0 lv_94_6 lo_94_6 (aexec TT (EG_94) (drawOk TT QQ) (LG_94 m_94_6 m_94_3) (loopAt 6 (bodyOf Try.f94))) (n + 1) (pt_94_6.inst x) k = C_94_6 m_94_6 m_94_3 (fun y => iter 0 lv_94_6 lo_94_6 (aexec TT (EG_94) (drawOk TT QQ) (LG_94 m_94_6 m_94_3) (loopAt 6 (bodyOf Try.f94))) n (pt_94_6.inst y) k) x (fun y => k (.exit 2) (px_94_6_0.inst y)) := by kernel_rfl
theorem step_94_6 {R : Type} (N n : Nat) (x : pt_94_6.den) (k : Exit → St → Option R) : iter 0 lv_94_6 lo_94_6 (aexec TT (E_94 (R := R) N) (drawOk TT QQ) (L_94 N) (loopAt 6 (bodyOf Try.f94))) (n + 1) (pt_94_6.inst x) k = B_94_6 N (fun y => iter 0 lv_94_6 lo_94_6 (aexec TT (E_94 (R := R) N) (drawOk TT QQ) (L_94 N) (loopAt 6 (bodyOf Try.f94))) n (pt_94_6.inst y) k) x (fun y => k (.exit 2) (px_94_6_0.inst y)) := (gstep_94_6 (l_94_6 N N) (l_94_3 N N) n x k).trans (by kernel_rfl)
theorem eq_94_6 {R : Type} (N : Nat) : ∀ (n : Nat) (x : pt_94_6.den) (k : Exit → St → Option R), iter 0 lv_94_6 lo_94_6 (aexec TT (E_94 (R := R) N) (drawOk TT QQ) (L_94 N) (loopAt 6 (bodyOf Try.f94))) n (pt_94_6.inst x) k = l_94_6 N n x (fun y => k (.exit 2) (px_94_6_0.inst y)) :=
  iter_eq (K := Exit → St → Option R) (ks := fun k => k) (l := fun n (x : pt_94_6.den) k => l_94_6 N n x (fun y => k (.exit 2) (px_94_6_0.inst y))) (B := fun (rec : pt_94_6.den → Option R) (x : pt_94_6.den) k => B_94_6 N rec x (fun y => k (.exit 2) (px_94_6_0.inst y))) (fun _ _ => rfl) (fun _ _ _ => rfl) (fun n x k => step_94_6 N n x k)
theorem rounds_94_6 {R : Type} (N : Nat) : Rounds 0 TT (E_94 (R := R) N) (drawOk TT QQ) (L_94 N) 6 (loopAt 6 (bodyOf Try.f94)) :=
  rounds_of (p := pt_94_6) (l := fun (x : pt_94_6.den) k => l_94_6 N N x (fun y => k (.exit 2) (px_94_6_0.inst y))) (fun s k => rfl) (fun x k => eq_94_6 N N x k)
theorem gstep_94_3 {R : Type} (m_94_6 : Tl_94_6 R) (m_94_3 : Tl_94_3 R) (n : Nat) (x : pt_94_3.den) (k : Exit → St → Option R) : iter 0 lv_94_3 lo_94_3 (aexec TT (EG_94) (drawOk TT QQ) (LG_94 m_94_6 m_94_3) (loopAt 3 (bodyOf Try.f94))) (n + 1) (pt_94_3.inst x) k = C_94_3 m_94_6 m_94_3 (fun y => iter 0 lv_94_3 lo_94_3 (aexec TT (EG_94) (drawOk TT QQ) (LG_94 m_94_6 m_94_3) (loopAt 3 (bodyOf Try.f94))) n (pt_94_3.inst y) k) x (fun y => k (.exit 0) (px_94_3_0.inst y)) := by kernel_rfl
theorem step_94_3 {R : Type} (N n : Nat) (x : pt_94_3.den) (k : Exit → St → Option R) : iter 0 lv_94_3 lo_94_3 (aexec TT (E_94 (R := R) N) (drawOk TT QQ) (L_94 N) (loopAt 3 (bodyOf Try.f94))) (n + 1) (pt_94_3.inst x) k = B_94_3 N (fun y => iter 0 lv_94_3 lo_94_3 (aexec TT (E_94 (R := R) N) (drawOk TT QQ) (L_94 N) (loopAt 3 (bodyOf Try.f94))) n (pt_94_3.inst y) k) x (fun y => k (.exit 0) (px_94_3_0.inst y)) := (gstep_94_3 (l_94_6 N N) (l_94_3 N N) n x k).trans (by kernel_rfl)
theorem eq_94_3 {R : Type} (N : Nat) : ∀ (n : Nat) (x : pt_94_3.den) (k : Exit → St → Option R), iter 0 lv_94_3 lo_94_3 (aexec TT (E_94 (R := R) N) (drawOk TT QQ) (L_94 N) (loopAt 3 (bodyOf Try.f94))) n (pt_94_3.inst x) k = l_94_3 N n x (fun y => k (.exit 0) (px_94_3_0.inst y)) :=
  iter_eq (K := Exit → St → Option R) (ks := fun k => k) (l := fun n (x : pt_94_3.den) k => l_94_3 N n x (fun y => k (.exit 0) (px_94_3_0.inst y))) (B := fun (rec : pt_94_3.den → Option R) (x : pt_94_3.den) k => B_94_3 N rec x (fun y => k (.exit 0) (px_94_3_0.inst y))) (fun _ _ => rfl) (fun _ _ _ => rfl) (fun n x k => step_94_3 N n x k)
theorem rounds_94_3 {R : Type} (N : Nat) : Rounds 0 TT (E_94 (R := R) N) (drawOk TT QQ) (L_94 N) 3 (loopAt 3 (bodyOf Try.f94)) :=
  rounds_of (p := pt_94_3) (l := fun (x : pt_94_3.den) k => l_94_3 N N x (fun y => k (.exit 0) (px_94_3_0.inst y))) (fun s k => rfl) (fun x k => eq_94_3 N N x k)
theorem loops_94 : loopsIn (bodyOf Try.f94) = [(3, loopAt 3 (bodyOf Try.f94)), (6, loopAt 6 (bodyOf Try.f94))] := by kernel_rfl
theorem lok_94 {R : Type} (N : Nat) : LOK 0 TT (E_94 (R := R) N) (drawOk TT QQ) (L_94 N) (bodyOf Try.f94) := loops_all loops_94 (by
  simp only [List.forall_mem_cons, List.not_mem_nil, false_implies, implies_true, and_true]
  exact ⟨rounds_94_3 N, rounds_94_6 N⟩)
theorem grun_94 {R : Type} (m_94_6 : Tl_94_6 R) (m_94_3 : Tl_94_3 R) (x : aden ap_94 × hden hp_94) (k : KF R) : fnrun TT (EG_94) (drawOk TT QQ) (LG_94 m_94_6 m_94_3) true Try.f94 (instA ap_94 x.1) (instH hp_94 x.2) k = Q_94 m_94_6 m_94_3 x (fun y => k (Pat.inst (.vec (.int .u64) 128) y) (instH hp_94 x.2)) := by kernel_rfl
theorem run_94 {R : Type} (N : Nat) (x : aden ap_94 × hden hp_94) (k : KF R) : fnrun TT (E_94 (R := R) N) (drawOk TT QQ) (L_94 N) true Try.f94 (instA ap_94 x.1) (instH hp_94 x.2) k = p_94 N x (fun y => k (Pat.inst (.vec (.int .u64) 128) y) (instH hp_94 x.2)) := (grun_94 (l_94_6 N N) (l_94_3 N N) x k).trans (by kernel_rfl)
theorem good_94 {R : Type} (N : Nat) : GD (X := R) Try.prog QQ 94 ap_94 hp_94 (fun (x : aden ap_94 × hden hp_94) k => p_94 N x (fun y => k (Pat.inst (.vec (.int .u64) 128) y) (instH hp_94 x.2))) :=
  gd_quiet (E := E_94 N) (p := fun (x : aden ap_94 × hden hp_94) κ => p_94 N x (fun y => κ (Pat.inst (.vec (.int .u64) 128) y))) mixed tyok (eok_94 N) Try.func94 (by kernel_rfl) (by kernel_rfl) (lok_94 N) (fun x k => run_94 N x k)

def lv_95_3 : Live := [(0, none), (1, none), (4, none), (5, none), (7, none)]
def pt_95_3 : SPat := ⟨[(0, .int .i64), (1, .bool), (4, .ptr 0 []), (5, .ptr 1 []), (7, .int .i64)], [some (.vec (.int .i64) 16, 153), some (.vec (.int .i64) 16, 153)]⟩
def px_95_3_0 : SPat := ⟨[(4, .ptr 0 []), (5, .ptr 1 [])], [some (.vec (.int .i64) 16, 153), some (.vec (.int .i64) 16, 153)]⟩
def lo_95_3 : Exit → Live
  | .exit 0 => [(4, none), (5, none)]
  | _ => []
def B_95_3 {R : Type} (N : Nat) (rec : ((Int × Bool × Unit × Unit × Int × Unit) × ((Nat → Int) × (Nat → Int) × Unit)) → Option R) (x : ((Int × Bool × Unit × Unit × Int × Unit) × ((Nat → Int) × (Nat → Int) × Unit))) (κ0 : ((Unit × Unit × Unit) × ((Nat → Int) × (Nat → Int) × Unit)) → Option R) : Option R :=
let i277 : Int := x.1.1
let b278 : Bool := x.1.2.1
let i279 : Int := x.1.2.2.2.2.1
let a280 : (Nat → Int) := x.2.1
let a281 : (Nat → Int) := x.2.2.1
bif (decide (i279 < 16)) then (
bif b278 then (
let i282 : Int := mulA .i64 2 i277
let i283 : Int := remA .i64 i279 2
let i284 : Int := addA .i64 i282 i283
let i285 : Int := quoA .i64 i279 2
let i286 : Int := mulA .i64 16 i285
let i287 : Int := addA .i64 i284 i286
bif decide (0 ≤ i279) then (
bif decide (i279 < (16 : Int)) then (
let a288 : (Nat → Int) := (upd a281 ((Int.toNat i279)) i287)
let i289 : Int := addA .i64 i279 1
rec ((i277, b278, (), (), i289, ()), (a280, a288, ()))) else none) else none) else (
let i290 : Int := mulA .i64 16 i277
let i291 : Int := addA .i64 i290 i279
bif decide (0 ≤ i279) then (
bif decide (i279 < (16 : Int)) then (
let a292 : (Nat → Int) := (upd a281 ((Int.toNat i279)) i291)
let i293 : Int := addA .i64 i279 1
rec ((i277, b278, (), (), i293, ()), (a280, a292, ()))) else none) else none)) else (
κ0 (((), (), ()), (a280, a281, ())))
def l_95_3 {R : Type} (N : Nat) : Nat → ((Int × Bool × Unit × Unit × Int × Unit) × ((Nat → Int) × (Nat → Int) × Unit)) → (((Unit × Unit × Unit) × ((Nat → Int) × (Nat → Int) × Unit)) → Option R) → Option R
  | 0, _, _ => none
  | n + 1, x, κ0 => B_95_3 N (fun y => l_95_3 N n y κ0) x κ0
def ap_95 : List Pat := [.int .i64, .bool]
def hp_95 : List (Option (Pat × Nat)) := []
def p_95 {R : Type} (N : Nat) (x : (Int × Bool × Unit) × (Unit)) (κ0 : (Nat → Int) → Option R) : Option R :=
let i275 : Int := x.1.1
let b276 : Bool := x.1.2.1
l_95_3 N N ((i275, b276, (), (), 0, ()), ((Sch.zero (.arr 16 (.int .i64))), (Sch.zero (.arr 16 (.int .i64))), ())) (fun y294 =>
let a295 : (Nat → Int) := y294.2.1
let a296 : (Nat → Int) := y294.2.2.1
κ0 a296)

abbrev Tl_95_3 (R : Type) : Type := ((Int × Bool × Unit × Unit × Int × Unit) × ((Nat → Int) × (Nat → Int) × Unit)) → (((Unit × Unit × Unit) × ((Nat → Int) × (Nat → Int) × Unit)) → Option R) → Option R
abbrev Tp_95 (R : Type) : Type := (Int × Bool × Unit) × (Unit) → ((Nat → Int) → Option R) → Option R
def Q_95 {R : Type} (m_95_3 : Tl_95_3 R) (x : (Int × Bool × Unit) × (Unit)) (κ0 : (Nat → Int) → Option R) : Option R :=
let i275 : Int := x.1.1
let b276 : Bool := x.1.2.1
m_95_3 ((i275, b276, (), (), 0, ()), ((Sch.zero (.arr 16 (.int .i64))), (Sch.zero (.arr 16 (.int .i64))), ())) (fun y294 =>
let a295 : (Nat → Int) := y294.2.1
let a296 : (Nat → Int) := y294.2.2.1
κ0 a296)
def C_95_3 {R : Type} (m_95_3 : Tl_95_3 R) (rec : ((Int × Bool × Unit × Unit × Int × Unit) × ((Nat → Int) × (Nat → Int) × Unit)) → Option R) (x : ((Int × Bool × Unit × Unit × Int × Unit) × ((Nat → Int) × (Nat → Int) × Unit))) (κ0 : ((Unit × Unit × Unit) × ((Nat → Int) × (Nat → Int) × Unit)) → Option R) : Option R :=
let i277 : Int := x.1.1
let b278 : Bool := x.1.2.1
let i279 : Int := x.1.2.2.2.2.1
let a280 : (Nat → Int) := x.2.1
let a281 : (Nat → Int) := x.2.2.1
bif (decide (i279 < 16)) then (
bif b278 then (
let i282 : Int := mulA .i64 2 i277
let i283 : Int := remA .i64 i279 2
let i284 : Int := addA .i64 i282 i283
let i285 : Int := quoA .i64 i279 2
let i286 : Int := mulA .i64 16 i285
let i287 : Int := addA .i64 i284 i286
bif decide (0 ≤ i279) then (
bif decide (i279 < (16 : Int)) then (
let a288 : (Nat → Int) := (upd a281 ((Int.toNat i279)) i287)
let i289 : Int := addA .i64 i279 1
rec ((i277, b278, (), (), i289, ()), (a280, a288, ()))) else none) else none) else (
let i290 : Int := mulA .i64 16 i277
let i291 : Int := addA .i64 i290 i279
bif decide (0 ≤ i279) then (
bif decide (i279 < (16 : Int)) then (
let a292 : (Nat → Int) := (upd a281 ((Int.toNat i279)) i291)
let i293 : Int := addA .i64 i279 1
rec ((i277, b278, (), (), i293, ()), (a280, a292, ()))) else none) else none)) else (
κ0 (((), (), ()), (a280, a281, ())))
def EG_95 {R : Type} : Env R := Env.base QQ LN
def LG_95 {R : Type} (m_95_3 : Tl_95_3 R) : Loops R := (Loops.none).add 3 (loopBy 0 lv_95_3 pt_95_3 (fun x k => m_95_3 x (fun y => k (.exit 0) (px_95_3_0.inst y))))
def E_95 {R : Type} (N : Nat) : Env R := EG_95
theorem eok_95 {R : Type} (N : Nat) : EK Try.prog (E_95 (R := R) N) := ek_base _ _
def L_95 {R : Type} (N : Nat) : Loops R := LG_95 (l_95_3 N N)
theorem gstep_95_3 {R : Type} (m_95_3 : Tl_95_3 R) (n : Nat) (x : pt_95_3.den) (k : Exit → St → Option R) : iter 0 lv_95_3 lo_95_3 (aexec TT (EG_95) (drawOk TT QQ) (LG_95 m_95_3) (loopAt 3 (bodyOf Try.f95))) (n + 1) (pt_95_3.inst x) k = C_95_3 m_95_3 (fun y => iter 0 lv_95_3 lo_95_3 (aexec TT (EG_95) (drawOk TT QQ) (LG_95 m_95_3) (loopAt 3 (bodyOf Try.f95))) n (pt_95_3.inst y) k) x (fun y => k (.exit 0) (px_95_3_0.inst y)) := by kernel_rfl
theorem step_95_3 {R : Type} (N n : Nat) (x : pt_95_3.den) (k : Exit → St → Option R) : iter 0 lv_95_3 lo_95_3 (aexec TT (E_95 (R := R) N) (drawOk TT QQ) (L_95 N) (loopAt 3 (bodyOf Try.f95))) (n + 1) (pt_95_3.inst x) k = B_95_3 N (fun y => iter 0 lv_95_3 lo_95_3 (aexec TT (E_95 (R := R) N) (drawOk TT QQ) (L_95 N) (loopAt 3 (bodyOf Try.f95))) n (pt_95_3.inst y) k) x (fun y => k (.exit 0) (px_95_3_0.inst y)) := (gstep_95_3 (l_95_3 N N) n x k).trans (by kernel_rfl)
theorem eq_95_3 {R : Type} (N : Nat) : ∀ (n : Nat) (x : pt_95_3.den) (k : Exit → St → Option R), iter 0 lv_95_3 lo_95_3 (aexec TT (E_95 (R := R) N) (drawOk TT QQ) (L_95 N) (loopAt 3 (bodyOf Try.f95))) n (pt_95_3.inst x) k = l_95_3 N n x (fun y => k (.exit 0) (px_95_3_0.inst y)) :=
  iter_eq (K := Exit → St → Option R) (ks := fun k => k) (l := fun n (x : pt_95_3.den) k => l_95_3 N n x (fun y => k (.exit 0) (px_95_3_0.inst y))) (B := fun (rec : pt_95_3.den → Option R) (x : pt_95_3.den) k => B_95_3 N rec x (fun y => k (.exit 0) (px_95_3_0.inst y))) (fun _ _ => rfl) (fun _ _ _ => rfl) (fun n x k => step_95_3 N n x k)
theorem rounds_95_3 {R : Type} (N : Nat) : Rounds 0 TT (E_95 (R := R) N) (drawOk TT QQ) (L_95 N) 3 (loopAt 3 (bodyOf Try.f95)) :=
  rounds_of (p := pt_95_3) (l := fun (x : pt_95_3.den) k => l_95_3 N N x (fun y => k (.exit 0) (px_95_3_0.inst y))) (fun s k => rfl) (fun x k => eq_95_3 N N x k)
theorem loops_95 : loopsIn (bodyOf Try.f95) = [(3, loopAt 3 (bodyOf Try.f95))] := by kernel_rfl
theorem lok_95 {R : Type} (N : Nat) : LOK 0 TT (E_95 (R := R) N) (drawOk TT QQ) (L_95 N) (bodyOf Try.f95) := loops_all loops_95 (by
  simp only [List.forall_mem_cons, List.not_mem_nil, false_implies, implies_true, and_true]
  exact rounds_95_3 N)
theorem grun_95 {R : Type} (m_95_3 : Tl_95_3 R) (x : aden ap_95 × hden hp_95) (k : KF R) : fnrun TT (EG_95) (drawOk TT QQ) (LG_95 m_95_3) true Try.f95 (instA ap_95 x.1) (instH hp_95 x.2) k = Q_95 m_95_3 x (fun y => k (Pat.inst (.vec (.int .i64) 16) y) (instH hp_95 x.2)) := by kernel_rfl
theorem run_95 {R : Type} (N : Nat) (x : aden ap_95 × hden hp_95) (k : KF R) : fnrun TT (E_95 (R := R) N) (drawOk TT QQ) (L_95 N) true Try.f95 (instA ap_95 x.1) (instH hp_95 x.2) k = p_95 N x (fun y => k (Pat.inst (.vec (.int .i64) 16) y) (instH hp_95 x.2)) := (grun_95 (l_95_3 N N) x k).trans (by kernel_rfl)
theorem good_95 {R : Type} (N : Nat) : GD (X := R) Try.prog QQ 95 ap_95 hp_95 (fun (x : aden ap_95 × hden hp_95) k => p_95 N x (fun y => k (Pat.inst (.vec (.int .i64) 16) y) (instH hp_95 x.2))) :=
  gd_quiet (E := E_95 N) (p := fun (x : aden ap_95 × hden hp_95) κ => p_95 N x (fun y => κ (Pat.inst (.vec (.int .i64) 16) y))) mixed tyok (eok_95 N) Try.func95 (by kernel_rfl) (by kernel_rfl) (lok_95 N) (fun x k => run_95 N x k)

def ap_93 : List Pat := []
def hp_93 : List (Option (Pat × Nat)) := []
def p_93 {R : Type} (N : Nat) (x : (Unit) × (Unit)) (κ0 : (Nat → (Nat → Int)) → Option R) : Option R :=
let a325 : (Nat → Int) := (upd ((upd ((upd ((upd ((Sch.zero (.arr 4 (.int .i64)))) 0 0)) 1 4)) 2 8)) 3 12)
let a326 : (Nat → Int) := (upd ((upd ((upd ((upd ((Sch.zero (.arr 4 (.int .i64)))) 0 1)) 1 5)) 2 9)) 3 13)
let a327 : (Nat → Int) := (upd ((upd ((upd ((upd ((Sch.zero (.arr 4 (.int .i64)))) 0 2)) 1 6)) 2 10)) 3 14)
let a328 : (Nat → Int) := (upd ((upd ((upd ((upd ((Sch.zero (.arr 4 (.int .i64)))) 0 3)) 1 7)) 2 11)) 3 15)
let a329 : (Nat → Int) := (upd ((upd ((upd ((upd ((Sch.zero (.arr 4 (.int .i64)))) 0 0)) 1 5)) 2 10)) 3 15)
let a330 : (Nat → Int) := (upd ((upd ((upd ((upd ((Sch.zero (.arr 4 (.int .i64)))) 0 1)) 1 6)) 2 11)) 3 12)
let a331 : (Nat → Int) := (upd ((upd ((upd ((upd ((Sch.zero (.arr 4 (.int .i64)))) 0 2)) 1 7)) 2 8)) 3 13)
let a332 : (Nat → Int) := (upd ((upd ((upd ((upd ((Sch.zero (.arr 4 (.int .i64)))) 0 3)) 1 4)) 2 9)) 3 14)
let a333 : (Nat → (Nat → Int)) := (upd ((upd ((upd ((upd ((upd ((upd ((upd ((upd ((Sch.zero (.arr 8 (.arr 4 (.int .i64))))) 0 a325)) 1 a326)) 2 a327)) 3 a328)) 4 a329)) 5 a330)) 6 a331)) 7 a332)
κ0 a333

abbrev Tp_93 (R : Type) : Type := (Unit) × (Unit) → ((Nat → (Nat → Int)) → Option R) → Option R
def Q_93 {R : Type} (x : (Unit) × (Unit)) (κ0 : (Nat → (Nat → Int)) → Option R) : Option R :=
let a325 : (Nat → Int) := (upd ((upd ((upd ((upd ((Sch.zero (.arr 4 (.int .i64)))) 0 0)) 1 4)) 2 8)) 3 12)
let a326 : (Nat → Int) := (upd ((upd ((upd ((upd ((Sch.zero (.arr 4 (.int .i64)))) 0 1)) 1 5)) 2 9)) 3 13)
let a327 : (Nat → Int) := (upd ((upd ((upd ((upd ((Sch.zero (.arr 4 (.int .i64)))) 0 2)) 1 6)) 2 10)) 3 14)
let a328 : (Nat → Int) := (upd ((upd ((upd ((upd ((Sch.zero (.arr 4 (.int .i64)))) 0 3)) 1 7)) 2 11)) 3 15)
let a329 : (Nat → Int) := (upd ((upd ((upd ((upd ((Sch.zero (.arr 4 (.int .i64)))) 0 0)) 1 5)) 2 10)) 3 15)
let a330 : (Nat → Int) := (upd ((upd ((upd ((upd ((Sch.zero (.arr 4 (.int .i64)))) 0 1)) 1 6)) 2 11)) 3 12)
let a331 : (Nat → Int) := (upd ((upd ((upd ((upd ((Sch.zero (.arr 4 (.int .i64)))) 0 2)) 1 7)) 2 8)) 3 13)
let a332 : (Nat → Int) := (upd ((upd ((upd ((upd ((Sch.zero (.arr 4 (.int .i64)))) 0 3)) 1 4)) 2 9)) 3 14)
let a333 : (Nat → (Nat → Int)) := (upd ((upd ((upd ((upd ((upd ((upd ((upd ((upd ((Sch.zero (.arr 8 (.arr 4 (.int .i64))))) 0 a325)) 1 a326)) 2 a327)) 3 a328)) 4 a329)) 5 a330)) 6 a331)) 7 a332)
κ0 a333
def EG_93 {R : Type} : Env R := Env.base QQ LN
def LG_93 {R : Type} : Loops R := Loops.none
def E_93 {R : Type} (N : Nat) : Env R := EG_93
theorem eok_93 {R : Type} (N : Nat) : EK Try.prog (E_93 (R := R) N) := ek_base _ _
def L_93 {R : Type} (N : Nat) : Loops R := LG_93
theorem lok_93 {R : Type} (N : Nat) : LOK 0 TT (E_93 (R := R) N) (drawOk TT QQ) (L_93 N) (bodyOf Try.f93) := loops_nil (by kernel_rfl)
theorem grun_93 {R : Type} (x : aden ap_93 × hden hp_93) (k : KF R) : fnrun TT (EG_93) (drawOk TT QQ) (LG_93) true Try.f93 (instA ap_93 x.1) (instH hp_93 x.2) k = Q_93 x (fun y => k (Pat.inst (.vec (.arr 4 (.int .i64)) 8) y) (instH hp_93 x.2)) := by kernel_rfl
theorem run_93 {R : Type} (N : Nat) (x : aden ap_93 × hden hp_93) (k : KF R) : fnrun TT (E_93 (R := R) N) (drawOk TT QQ) (L_93 N) true Try.f93 (instA ap_93 x.1) (instH hp_93 x.2) k = p_93 N x (fun y => k (Pat.inst (.vec (.arr 4 (.int .i64)) 8) y) (instH hp_93 x.2)) := (grun_93 x k).trans (by kernel_rfl)
theorem good_93 {R : Type} (N : Nat) : GD (X := R) Try.prog QQ 93 ap_93 hp_93 (fun (x : aden ap_93 × hden hp_93) k => p_93 N x (fun y => k (Pat.inst (.vec (.arr 4 (.int .i64)) 8) y) (instH hp_93 x.2))) :=
  gd_quiet (E := E_93 N) (p := fun (x : aden ap_93 × hden hp_93) κ => p_93 N x (fun y => κ (Pat.inst (.vec (.arr 4 (.int .i64)) 8) y))) mixed tyok (eok_93 N) Try.func93 (by kernel_rfl) (by kernel_rfl) (lok_93 N) (fun x k => run_93 N x k)

def ap_89 : List Pat := [.int .u64, .int .u64]
def hp_89 : List (Option (Pat × Nat)) := []
def p_89 {R : Type} (N : Nat) (x : (Int × Int × Unit) × (Unit)) (κ0 : Int → Option R) : Option R :=
let i353 : Int := x.1.1
let i354 : Int := x.1.2.1
let i355 : Int := addA .u64 i353 i354
let i356 : Int := IntKind.wrap .u32 i353
let i357 : Int := IntKind.wrap .u64 i356
let i358 : Int := mulA .u64 2 i357
let i359 : Int := IntKind.wrap .u32 i354
let i360 : Int := IntKind.wrap .u64 i359
let i361 : Int := mulA .u64 i358 i360
let i362 : Int := addA .u64 i355 i361
κ0 i362

abbrev Tp_89 (R : Type) : Type := (Int × Int × Unit) × (Unit) → (Int → Option R) → Option R
def Q_89 {R : Type} (x : (Int × Int × Unit) × (Unit)) (κ0 : Int → Option R) : Option R :=
let i353 : Int := x.1.1
let i354 : Int := x.1.2.1
let i355 : Int := addA .u64 i353 i354
let i356 : Int := IntKind.wrap .u32 i353
let i357 : Int := IntKind.wrap .u64 i356
let i358 : Int := mulA .u64 2 i357
let i359 : Int := IntKind.wrap .u32 i354
let i360 : Int := IntKind.wrap .u64 i359
let i361 : Int := mulA .u64 i358 i360
let i362 : Int := addA .u64 i355 i361
κ0 i362
def EG_89 {R : Type} : Env R := Env.base QQ LN
def LG_89 {R : Type} : Loops R := Loops.none
def E_89 {R : Type} (N : Nat) : Env R := EG_89
theorem eok_89 {R : Type} (N : Nat) : EK Try.prog (E_89 (R := R) N) := ek_base _ _
def L_89 {R : Type} (N : Nat) : Loops R := LG_89
theorem lok_89 {R : Type} (N : Nat) : LOK 0 TT (E_89 (R := R) N) (drawOk TT QQ) (L_89 N) (bodyOf Try.f89) := loops_nil (by kernel_rfl)
theorem grun_89 {R : Type} (x : aden ap_89 × hden hp_89) (k : KF R) : fnrun TT (EG_89) (drawOk TT QQ) (LG_89) true Try.f89 (instA ap_89 x.1) (instH hp_89 x.2) k = Q_89 x (fun y => k (Pat.inst (.int .u64) y) (instH hp_89 x.2)) := by kernel_rfl
theorem run_89 {R : Type} (N : Nat) (x : aden ap_89 × hden hp_89) (k : KF R) : fnrun TT (E_89 (R := R) N) (drawOk TT QQ) (L_89 N) true Try.f89 (instA ap_89 x.1) (instH hp_89 x.2) k = p_89 N x (fun y => k (Pat.inst (.int .u64) y) (instH hp_89 x.2)) := (grun_89 x k).trans (by kernel_rfl)
theorem good_89 {R : Type} (N : Nat) : GD (X := R) Try.prog QQ 89 ap_89 hp_89 (fun (x : aden ap_89 × hden hp_89) k => p_89 N x (fun y => k (Pat.inst (.int .u64) y) (instH hp_89 x.2))) :=
  gd_quiet (E := E_89 N) (p := fun (x : aden ap_89 × hden hp_89) κ => p_89 N x (fun y => κ (Pat.inst (.int .u64) y))) mixed tyok (eok_89 N) Try.func89 (by kernel_rfl) (by kernel_rfl) (lok_89 N) (fun x k => run_89 N x k)

def ap_90 : List Pat := [.int .u64, .int .i64]
def hp_90 : List (Option (Pat × Nat)) := []
def p_90 {R : Type} (N : Nat) (x : (Int × Int × Unit) × (Unit)) (κ0 : Int → Option R) : Option R :=
let i366 : Int := x.1.1
let i367 : Int := x.1.2.1
let i368 : Int := IntKind.wrap .u64 i367
let i369 : Int := remA .u64 i368 64
bif decide (i369 < 0) then none else (
let i370 : Int := shrA .u64 i366 i369
let i371 : Int := subA .u64 64 i369
bif decide (i371 < 0) then none else (
let i372 : Int := shlA .u64 i366 i371
let i373 : Int := orA .u64 i370 i372
κ0 i373))

abbrev Tp_90 (R : Type) : Type := (Int × Int × Unit) × (Unit) → (Int → Option R) → Option R
def Q_90 {R : Type} (x : (Int × Int × Unit) × (Unit)) (κ0 : Int → Option R) : Option R :=
let i366 : Int := x.1.1
let i367 : Int := x.1.2.1
let i368 : Int := IntKind.wrap .u64 i367
let i369 : Int := remA .u64 i368 64
bif decide (i369 < 0) then none else (
let i370 : Int := shrA .u64 i366 i369
let i371 : Int := subA .u64 64 i369
bif decide (i371 < 0) then none else (
let i372 : Int := shlA .u64 i366 i371
let i373 : Int := orA .u64 i370 i372
κ0 i373))
def EG_90 {R : Type} : Env R := Env.base QQ LN
def LG_90 {R : Type} : Loops R := Loops.none
def E_90 {R : Type} (N : Nat) : Env R := EG_90
theorem eok_90 {R : Type} (N : Nat) : EK Try.prog (E_90 (R := R) N) := ek_base _ _
def L_90 {R : Type} (N : Nat) : Loops R := LG_90
theorem lok_90 {R : Type} (N : Nat) : LOK 0 TT (E_90 (R := R) N) (drawOk TT QQ) (L_90 N) (bodyOf Try.f90) := loops_nil (by kernel_rfl)
theorem grun_90 {R : Type} (x : aden ap_90 × hden hp_90) (k : KF R) : fnrun TT (EG_90) (drawOk TT QQ) (LG_90) true Try.f90 (instA ap_90 x.1) (instH hp_90 x.2) k = Q_90 x (fun y => k (Pat.inst (.int .u64) y) (instH hp_90 x.2)) := by kernel_rfl
theorem run_90 {R : Type} (N : Nat) (x : aden ap_90 × hden hp_90) (k : KF R) : fnrun TT (E_90 (R := R) N) (drawOk TT QQ) (L_90 N) true Try.f90 (instA ap_90 x.1) (instH hp_90 x.2) k = p_90 N x (fun y => k (Pat.inst (.int .u64) y) (instH hp_90 x.2)) := (grun_90 x k).trans (by kernel_rfl)
theorem good_90 {R : Type} (N : Nat) : GD (X := R) Try.prog QQ 90 ap_90 hp_90 (fun (x : aden ap_90 × hden hp_90) k => p_90 N x (fun y => k (Pat.inst (.int .u64) y) (instH hp_90 x.2))) :=
  gd_quiet (E := E_90 N) (p := fun (x : aden ap_90 × hden hp_90) κ => p_90 N x (fun y => κ (Pat.inst (.int .u64) y))) mixed tyok (eok_90 N) Try.func90 (by kernel_rfl) (by kernel_rfl) (lok_90 N) (fun x k => run_90 N x k)

def ap_38 : List Pat := [.int .u64, .int .u64, .int .u64, .int .u64]
def hp_38 : List (Option (Pat × Nat)) := []
def p_38 {R : Type} (N : Nat) (x : (Int × Int × Int × Int × Unit) × (Unit)) (κ0 : (Int × (Int × (Int × (Int × Unit)))) → Option R) : Option R :=
let i349 : Int := x.1.1
let i350 : Int := x.1.2.1
let i351 : Int := x.1.2.2.1
let i352 : Int := x.1.2.2.2.1
p_89 N ((i349, i350, ()), ()) (fun y363 =>
let i364 : Int := y363
let i365 : Int := xorA .u64 i352 i364
p_90 N ((i365, 32, ()), ()) (fun y374 =>
let i375 : Int := y374
p_89 N ((i351, i375, ()), ()) (fun y376 =>
let i377 : Int := y376
let i378 : Int := xorA .u64 i350 i377
p_90 N ((i378, 24, ()), ()) (fun y379 =>
let i380 : Int := y379
p_89 N ((i364, i380, ()), ()) (fun y381 =>
let i382 : Int := y381
let i383 : Int := xorA .u64 i375 i382
p_90 N ((i383, 16, ()), ()) (fun y384 =>
let i385 : Int := y384
p_89 N ((i377, i385, ()), ()) (fun y386 =>
let i387 : Int := y386
let i388 : Int := xorA .u64 i380 i387
p_90 N ((i388, 63, ()), ()) (fun y389 =>
let i390 : Int := y389
κ0 ((i382, (i390, (i387, (i385, ())))))))))))))

abbrev Tp_38 (R : Type) : Type := (Int × Int × Int × Int × Unit) × (Unit) → ((Int × (Int × (Int × (Int × Unit)))) → Option R) → Option R
def Q_38 {R : Type} (q_89 : Tp_89 R) (q_90 : Tp_90 R) (x : (Int × Int × Int × Int × Unit) × (Unit)) (κ0 : (Int × (Int × (Int × (Int × Unit)))) → Option R) : Option R :=
let i349 : Int := x.1.1
let i350 : Int := x.1.2.1
let i351 : Int := x.1.2.2.1
let i352 : Int := x.1.2.2.2.1
q_89 ((i349, i350, ()), ()) (fun y363 =>
let i364 : Int := y363
let i365 : Int := xorA .u64 i352 i364
q_90 ((i365, 32, ()), ()) (fun y374 =>
let i375 : Int := y374
q_89 ((i351, i375, ()), ()) (fun y376 =>
let i377 : Int := y376
let i378 : Int := xorA .u64 i350 i377
q_90 ((i378, 24, ()), ()) (fun y379 =>
let i380 : Int := y379
q_89 ((i364, i380, ()), ()) (fun y381 =>
let i382 : Int := y381
let i383 : Int := xorA .u64 i375 i382
q_90 ((i383, 16, ()), ()) (fun y384 =>
let i385 : Int := y384
q_89 ((i377, i385, ()), ()) (fun y386 =>
let i387 : Int := y386
let i388 : Int := xorA .u64 i380 i387
q_90 ((i388, 63, ()), ()) (fun y389 =>
let i390 : Int := y389
κ0 ((i382, (i390, (i387, (i385, ())))))))))))))
def EG_38 {R : Type} (q_89 : Tp_89 R) (q_90 : Tp_90 R) : Env R := ((Env.base QQ LN).add 89 ap_89 hp_89 (fun (x : aden ap_89 × hden hp_89) k => q_89 x (fun y => k (Pat.inst (.int .u64) y) (instH hp_89 x.2)))).add 90 ap_90 hp_90 (fun (x : aden ap_90 × hden hp_90) k => q_90 x (fun y => k (Pat.inst (.int .u64) y) (instH hp_90 x.2)))
def LG_38 {R : Type} : Loops R := Loops.none
def E_38 {R : Type} (N : Nat) : Env R := EG_38 (p_89 N) (p_90 N)
theorem eok_38 {R : Type} (N : Nat) : EK Try.prog (E_38 (R := R) N) := ek_add (ek_add (ek_base _ _) (good_89 N)) (good_90 N)
def L_38 {R : Type} (N : Nat) : Loops R := LG_38
theorem lok_38 {R : Type} (N : Nat) : LOK 0 TT (E_38 (R := R) N) (drawOk TT QQ) (L_38 N) (bodyOf Try.f38) := loops_nil (by kernel_rfl)
theorem grun_38 {R : Type} (q_89 : Tp_89 R) (q_90 : Tp_90 R) (x : aden ap_38 × hden hp_38) (k : KF R) : fnrun TT (EG_38 q_89 q_90) (drawOk TT QQ) (LG_38) true Try.f38 (instA ap_38 x.1) (instH hp_38 x.2) k = Q_38 q_89 q_90 x (fun y => k (Pat.inst (.tup (.fcons (.int .u64) (.fcons (.int .u64) (.fcons (.int .u64) (.fcons (.int .u64) (.fnil)))))) y) (instH hp_38 x.2)) := by kernel_rfl
theorem run_38 {R : Type} (N : Nat) (x : aden ap_38 × hden hp_38) (k : KF R) : fnrun TT (E_38 (R := R) N) (drawOk TT QQ) (L_38 N) true Try.f38 (instA ap_38 x.1) (instH hp_38 x.2) k = p_38 N x (fun y => k (Pat.inst (.tup (.fcons (.int .u64) (.fcons (.int .u64) (.fcons (.int .u64) (.fcons (.int .u64) (.fnil)))))) y) (instH hp_38 x.2)) := (grun_38 (p_89 N) (p_90 N) x k).trans (by kernel_rfl)
theorem good_38 {R : Type} (N : Nat) : GD (X := R) Try.prog QQ 38 ap_38 hp_38 (fun (x : aden ap_38 × hden hp_38) k => p_38 N x (fun y => k (Pat.inst (.tup (.fcons (.int .u64) (.fcons (.int .u64) (.fcons (.int .u64) (.fcons (.int .u64) (.fnil)))))) y) (instH hp_38 x.2))) :=
  gd_quiet (E := E_38 N) (p := fun (x : aden ap_38 × hden hp_38) κ => p_38 N x (fun y => κ (Pat.inst (.tup (.fcons (.int .u64) (.fcons (.int .u64) (.fcons (.int .u64) (.fcons (.int .u64) (.fnil)))))) y))) mixed tyok (eok_38 N) Try.func38 (by kernel_rfl) (by kernel_rfl) (lok_38 N) (fun x k => run_38 N x k)

def lv_40_2 : Live := [(1, none), (2, none), (9, none), (10, none)]
def pt_40_2 : SPat := ⟨[(1, .ptr 0 []), (2, .ptr 1 []), (9, .vec (.arr 4 (.int .i64)) 8), (10, .int .i64)], [some (.vec (.int .u64) 16, 62), some (.vec (.int .u64) 16, 62)]⟩
def px_40_2_0 : SPat := ⟨[(1, .ptr 0 []), (2, .ptr 1 [])], [some (.vec (.int .u64) 16, 62), some (.vec (.int .u64) 16, 62)]⟩
def lo_40_2 : Exit → Live
  | .exit 0 => [(1, none), (2, none)]
  | _ => []
def B_40_2 {R : Type} (N : Nat) (rec : ((Unit × Unit × (Nat → (Nat → Int)) × Int × Unit) × ((Nat → Int) × (Nat → Int) × Unit)) → Option R) (x : ((Unit × Unit × (Nat → (Nat → Int)) × Int × Unit) × ((Nat → Int) × (Nat → Int) × Unit))) (κ0 : ((Unit × Unit × Unit) × ((Nat → Int) × (Nat → Int) × Unit)) → Option R) : Option R :=
let a336 : (Nat → (Nat → Int)) := x.1.2.2.1
let i337 : Int := x.1.2.2.2.1
let a338 : (Nat → Int) := x.2.1
let a339 : (Nat → Int) := x.2.2.1
bif (decide (i337 < 8)) then (
bif decide (0 ≤ i337) then (
bif decide (i337 < (8 : Int)) then (
let a340 : (Nat → Int) := (a336 ((Int.toNat i337)))
let i341 : Int := (a340 0)
let i342 : Int := (a340 1)
let i343 : Int := (a340 2)
let i344 : Int := (a340 3)
bif decide (0 ≤ i341) then (
bif decide (i341 < (16 : Int)) then (
let i345 : Int := (a338 ((Int.toNat i341)))
bif decide (0 ≤ i342) then (
bif decide (i342 < (16 : Int)) then (
let i346 : Int := (a338 ((Int.toNat i342)))
bif decide (0 ≤ i343) then (
bif decide (i343 < (16 : Int)) then (
let i347 : Int := (a338 ((Int.toNat i343)))
bif decide (0 ≤ i344) then (
bif decide (i344 < (16 : Int)) then (
let i348 : Int := (a338 ((Int.toNat i344)))
p_38 N ((i345, i346, i347, i348, ()), ()) (fun y391 =>
let i392 : Int := y391.1
let i393 : Int := y391.2.1
let i394 : Int := y391.2.2.1
let i395 : Int := y391.2.2.2.1
bif decide (0 ≤ i341) then (
bif decide (i341 < (16 : Int)) then (
let a396 : (Nat → Int) := (upd a338 ((Int.toNat i341)) i392)
bif decide (0 ≤ i342) then (
bif decide (i342 < (16 : Int)) then (
let a397 : (Nat → Int) := (upd a396 ((Int.toNat i342)) i393)
bif decide (0 ≤ i343) then (
bif decide (i343 < (16 : Int)) then (
let a398 : (Nat → Int) := (upd a397 ((Int.toNat i343)) i394)
bif decide (0 ≤ i344) then (
bif decide (i344 < (16 : Int)) then (
let a399 : (Nat → Int) := (upd a398 ((Int.toNat i344)) i395)
let i400 : Int := addA .i64 i337 1
rec (((), (), a336, i400, ()), (a399, a339, ()))) else none) else none) else none) else none) else none) else none) else none) else none)) else none) else none) else none) else none) else none) else none) else none) else none) else none) else none) else (
κ0 (((), (), ()), (a338, a339, ())))
def l_40_2 {R : Type} (N : Nat) : Nat → ((Unit × Unit × (Nat → (Nat → Int)) × Int × Unit) × ((Nat → Int) × (Nat → Int) × Unit)) → (((Unit × Unit × Unit) × ((Nat → Int) × (Nat → Int) × Unit)) → Option R) → Option R
  | 0, _, _ => none
  | n + 1, x, κ0 => B_40_2 N (fun y => l_40_2 N n y κ0) x κ0
def ap_40 : List Pat := [.vec (.int .u64) 16]
def hp_40 : List (Option (Pat × Nat)) := []
def p_40 {R : Type} (N : Nat) (x : ((Nat → Int) × Unit) × (Unit)) (κ0 : (Nat → Int) → Option R) : Option R :=
let a324 : (Nat → Int) := x.1.1
p_93 N ((), ()) (fun y334 =>
let a335 : (Nat → (Nat → Int)) := y334
l_40_2 N N (((), (), a335, 0, ()), (a324, (Sch.zero (.arr 16 (.int .u64))), ())) (fun y401 =>
let a402 : (Nat → Int) := y401.2.1
let a403 : (Nat → Int) := y401.2.2.1
κ0 a402))

abbrev Tl_40_2 (R : Type) : Type := ((Unit × Unit × (Nat → (Nat → Int)) × Int × Unit) × ((Nat → Int) × (Nat → Int) × Unit)) → (((Unit × Unit × Unit) × ((Nat → Int) × (Nat → Int) × Unit)) → Option R) → Option R
abbrev Tp_40 (R : Type) : Type := ((Nat → Int) × Unit) × (Unit) → ((Nat → Int) → Option R) → Option R
def Q_40 {R : Type} (q_93 : Tp_93 R) (q_38 : Tp_38 R) (m_40_2 : Tl_40_2 R) (x : ((Nat → Int) × Unit) × (Unit)) (κ0 : (Nat → Int) → Option R) : Option R :=
let a324 : (Nat → Int) := x.1.1
q_93 ((), ()) (fun y334 =>
let a335 : (Nat → (Nat → Int)) := y334
m_40_2 (((), (), a335, 0, ()), (a324, (Sch.zero (.arr 16 (.int .u64))), ())) (fun y401 =>
let a402 : (Nat → Int) := y401.2.1
let a403 : (Nat → Int) := y401.2.2.1
κ0 a402))
def C_40_2 {R : Type} (q_93 : Tp_93 R) (q_38 : Tp_38 R) (m_40_2 : Tl_40_2 R) (rec : ((Unit × Unit × (Nat → (Nat → Int)) × Int × Unit) × ((Nat → Int) × (Nat → Int) × Unit)) → Option R) (x : ((Unit × Unit × (Nat → (Nat → Int)) × Int × Unit) × ((Nat → Int) × (Nat → Int) × Unit))) (κ0 : ((Unit × Unit × Unit) × ((Nat → Int) × (Nat → Int) × Unit)) → Option R) : Option R :=
let a336 : (Nat → (Nat → Int)) := x.1.2.2.1
let i337 : Int := x.1.2.2.2.1
let a338 : (Nat → Int) := x.2.1
let a339 : (Nat → Int) := x.2.2.1
bif (decide (i337 < 8)) then (
bif decide (0 ≤ i337) then (
bif decide (i337 < (8 : Int)) then (
let a340 : (Nat → Int) := (a336 ((Int.toNat i337)))
let i341 : Int := (a340 0)
let i342 : Int := (a340 1)
let i343 : Int := (a340 2)
let i344 : Int := (a340 3)
bif decide (0 ≤ i341) then (
bif decide (i341 < (16 : Int)) then (
let i345 : Int := (a338 ((Int.toNat i341)))
bif decide (0 ≤ i342) then (
bif decide (i342 < (16 : Int)) then (
let i346 : Int := (a338 ((Int.toNat i342)))
bif decide (0 ≤ i343) then (
bif decide (i343 < (16 : Int)) then (
let i347 : Int := (a338 ((Int.toNat i343)))
bif decide (0 ≤ i344) then (
bif decide (i344 < (16 : Int)) then (
let i348 : Int := (a338 ((Int.toNat i344)))
q_38 ((i345, i346, i347, i348, ()), ()) (fun y391 =>
let i392 : Int := y391.1
let i393 : Int := y391.2.1
let i394 : Int := y391.2.2.1
let i395 : Int := y391.2.2.2.1
bif decide (0 ≤ i341) then (
bif decide (i341 < (16 : Int)) then (
let a396 : (Nat → Int) := (upd a338 ((Int.toNat i341)) i392)
bif decide (0 ≤ i342) then (
bif decide (i342 < (16 : Int)) then (
let a397 : (Nat → Int) := (upd a396 ((Int.toNat i342)) i393)
bif decide (0 ≤ i343) then (
bif decide (i343 < (16 : Int)) then (
let a398 : (Nat → Int) := (upd a397 ((Int.toNat i343)) i394)
bif decide (0 ≤ i344) then (
bif decide (i344 < (16 : Int)) then (
let a399 : (Nat → Int) := (upd a398 ((Int.toNat i344)) i395)
let i400 : Int := addA .i64 i337 1
rec (((), (), a336, i400, ()), (a399, a339, ()))) else none) else none) else none) else none) else none) else none) else none) else none)) else none) else none) else none) else none) else none) else none) else none) else none) else none) else none) else (
κ0 (((), (), ()), (a338, a339, ())))
def EG_40 {R : Type} (q_93 : Tp_93 R) (q_38 : Tp_38 R) : Env R := ((Env.base QQ LN).add 93 ap_93 hp_93 (fun (x : aden ap_93 × hden hp_93) k => q_93 x (fun y => k (Pat.inst (.vec (.arr 4 (.int .i64)) 8) y) (instH hp_93 x.2)))).add 38 ap_38 hp_38 (fun (x : aden ap_38 × hden hp_38) k => q_38 x (fun y => k (Pat.inst (.tup (.fcons (.int .u64) (.fcons (.int .u64) (.fcons (.int .u64) (.fcons (.int .u64) (.fnil)))))) y) (instH hp_38 x.2)))
def LG_40 {R : Type} (m_40_2 : Tl_40_2 R) : Loops R := (Loops.none).add 2 (loopBy 0 lv_40_2 pt_40_2 (fun x k => m_40_2 x (fun y => k (.exit 0) (px_40_2_0.inst y))))
def E_40 {R : Type} (N : Nat) : Env R := EG_40 (p_93 N) (p_38 N)
theorem eok_40 {R : Type} (N : Nat) : EK Try.prog (E_40 (R := R) N) := ek_add (ek_add (ek_base _ _) (good_93 N)) (good_38 N)
def L_40 {R : Type} (N : Nat) : Loops R := LG_40 (l_40_2 N N)
theorem gstep_40_2 {R : Type} (q_93 : Tp_93 R) (q_38 : Tp_38 R) (m_40_2 : Tl_40_2 R) (n : Nat) (x : pt_40_2.den) (k : Exit → St → Option R) : iter 0 lv_40_2 lo_40_2 (aexec TT (EG_40 q_93 q_38) (drawOk TT QQ) (LG_40 m_40_2) (loopAt 2 (bodyOf Try.f40))) (n + 1) (pt_40_2.inst x) k = C_40_2 q_93 q_38 m_40_2 (fun y => iter 0 lv_40_2 lo_40_2 (aexec TT (EG_40 q_93 q_38) (drawOk TT QQ) (LG_40 m_40_2) (loopAt 2 (bodyOf Try.f40))) n (pt_40_2.inst y) k) x (fun y => k (.exit 0) (px_40_2_0.inst y)) := by kernel_rfl
theorem step_40_2 {R : Type} (N n : Nat) (x : pt_40_2.den) (k : Exit → St → Option R) : iter 0 lv_40_2 lo_40_2 (aexec TT (E_40 (R := R) N) (drawOk TT QQ) (L_40 N) (loopAt 2 (bodyOf Try.f40))) (n + 1) (pt_40_2.inst x) k = B_40_2 N (fun y => iter 0 lv_40_2 lo_40_2 (aexec TT (E_40 (R := R) N) (drawOk TT QQ) (L_40 N) (loopAt 2 (bodyOf Try.f40))) n (pt_40_2.inst y) k) x (fun y => k (.exit 0) (px_40_2_0.inst y)) := (gstep_40_2 (p_93 N) (p_38 N) (l_40_2 N N) n x k).trans (by kernel_rfl)
theorem eq_40_2 {R : Type} (N : Nat) : ∀ (n : Nat) (x : pt_40_2.den) (k : Exit → St → Option R), iter 0 lv_40_2 lo_40_2 (aexec TT (E_40 (R := R) N) (drawOk TT QQ) (L_40 N) (loopAt 2 (bodyOf Try.f40))) n (pt_40_2.inst x) k = l_40_2 N n x (fun y => k (.exit 0) (px_40_2_0.inst y)) :=
  iter_eq (K := Exit → St → Option R) (ks := fun k => k) (l := fun n (x : pt_40_2.den) k => l_40_2 N n x (fun y => k (.exit 0) (px_40_2_0.inst y))) (B := fun (rec : pt_40_2.den → Option R) (x : pt_40_2.den) k => B_40_2 N rec x (fun y => k (.exit 0) (px_40_2_0.inst y))) (fun _ _ => rfl) (fun _ _ _ => rfl) (fun n x k => step_40_2 N n x k)
theorem rounds_40_2 {R : Type} (N : Nat) : Rounds 0 TT (E_40 (R := R) N) (drawOk TT QQ) (L_40 N) 2 (loopAt 2 (bodyOf Try.f40)) :=
  rounds_of (p := pt_40_2) (l := fun (x : pt_40_2.den) k => l_40_2 N N x (fun y => k (.exit 0) (px_40_2_0.inst y))) (fun s k => rfl) (fun x k => eq_40_2 N N x k)
theorem loops_40 : loopsIn (bodyOf Try.f40) = [(2, loopAt 2 (bodyOf Try.f40))] := by kernel_rfl
theorem lok_40 {R : Type} (N : Nat) : LOK 0 TT (E_40 (R := R) N) (drawOk TT QQ) (L_40 N) (bodyOf Try.f40) := loops_all loops_40 (by
  simp only [List.forall_mem_cons, List.not_mem_nil, false_implies, implies_true, and_true]
  exact rounds_40_2 N)
theorem grun_40 {R : Type} (q_93 : Tp_93 R) (q_38 : Tp_38 R) (m_40_2 : Tl_40_2 R) (x : aden ap_40 × hden hp_40) (k : KF R) : fnrun TT (EG_40 q_93 q_38) (drawOk TT QQ) (LG_40 m_40_2) true Try.f40 (instA ap_40 x.1) (instH hp_40 x.2) k = Q_40 q_93 q_38 m_40_2 x (fun y => k (Pat.inst (.vec (.int .u64) 16) y) (instH hp_40 x.2)) := by kernel_rfl
theorem run_40 {R : Type} (N : Nat) (x : aden ap_40 × hden hp_40) (k : KF R) : fnrun TT (E_40 (R := R) N) (drawOk TT QQ) (L_40 N) true Try.f40 (instA ap_40 x.1) (instH hp_40 x.2) k = p_40 N x (fun y => k (Pat.inst (.vec (.int .u64) 16) y) (instH hp_40 x.2)) := (grun_40 (p_93 N) (p_38 N) (l_40_2 N N) x k).trans (by kernel_rfl)
theorem good_40 {R : Type} (N : Nat) : GD (X := R) Try.prog QQ 40 ap_40 hp_40 (fun (x : aden ap_40 × hden hp_40) k => p_40 N x (fun y => k (Pat.inst (.vec (.int .u64) 16) y) (instH hp_40 x.2))) :=
  gd_quiet (E := E_40 N) (p := fun (x : aden ap_40 × hden hp_40) κ => p_40 N x (fun y => κ (Pat.inst (.vec (.int .u64) 16) y))) mixed tyok (eok_40 N) Try.func40 (by kernel_rfl) (by kernel_rfl) (lok_40 N) (fun x k => run_40 N x k)

def lv_44_10 : Live := [(1, none), (2, none), (4, none), (6, none), (7, none), (12, none), (13, none), (14, none), (18, none), (24, none), (25, none)]
def pt_44_10 : SPat := ⟨[(1, .ptr 0 []), (2, .ptr 1 []), (4, .bool), (6, .ptr 2 []), (7, .ptr 3 []), (12, .sl 4), (13, .int .i64), (14, .int .i64), (18, .int .i64), (24, .vec (.int .i64) 16), (25, .int .i64)], [some (.vec (.int .u64) 128, 70), some (.vec (.int .u64) 128, 70), some (.vec (.int .i64) 16, 153), some (.vec (.int .u64) 16, 62), some (.lst (.bool), 4)]⟩
def px_44_10_0 : SPat := ⟨[(1, .ptr 0 []), (2, .ptr 1 []), (4, .bool), (6, .ptr 2 []), (7, .ptr 3 []), (12, .sl 4), (13, .int .i64), (14, .int .i64), (18, .int .i64)], [some (.vec (.int .u64) 128, 70), some (.vec (.int .u64) 128, 70), some (.vec (.int .i64) 16, 153), some (.vec (.int .u64) 16, 62), some (.lst (.bool), 4)]⟩
def lo_44_10 : Exit → Live
  | .exit 4 => [(1, none), (2, none), (4, none), (6, none), (7, none), (12, none), (13, none), (14, none), (18, none)]
  | _ => []
def B_44_10 {R : Type} (N : Nat) (rec : ((Unit × Unit × Bool × Unit × Unit × Unit × Int × Int × Int × (Nat → Int) × Int × Unit) × ((Nat → Int) × (Nat → Int) × (Nat → Int) × (Nat → Int) × (List Bool) × Unit)) → Option R) (x : ((Unit × Unit × Bool × Unit × Unit × Unit × Int × Int × Int × (Nat → Int) × Int × Unit) × ((Nat → Int) × (Nat → Int) × (Nat → Int) × (Nat → Int) × (List Bool) × Unit))) (κ0 : ((Unit × Unit × Bool × Unit × Unit × Unit × Int × Int × Int × Unit) × ((Nat → Int) × (Nat → Int) × (Nat → Int) × (Nat → Int) × (List Bool) × Unit)) → Option R) : Option R :=
let b299 : Bool := x.1.2.2.1
let i300 : Int := x.1.2.2.2.2.2.2.1
let i301 : Int := x.1.2.2.2.2.2.2.2.1
let i302 : Int := x.1.2.2.2.2.2.2.2.2.1
let a303 : (Nat → Int) := x.1.2.2.2.2.2.2.2.2.2.1
let i304 : Int := x.1.2.2.2.2.2.2.2.2.2.2.1
let a305 : (Nat → Int) := x.2.1
let a306 : (Nat → Int) := x.2.2.1
let a307 : (Nat → Int) := x.2.2.2.1
let a308 : (Nat → Int) := x.2.2.2.2.1
let l309 : (List Bool) := x.2.2.2.2.2.1
bif (decide (i304 < 16)) then (
bif decide (0 ≤ i304) then (
bif decide (i304 < (16 : Int)) then (
let i310 : Int := (a303 ((Int.toNat i304)))
bif decide (0 ≤ i310) then (
bif decide (i310 < (128 : Int)) then (
let i311 : Int := (a305 ((Int.toNat i310)))
bif decide (0 ≤ i304) then (
bif decide (i304 < (16 : Int)) then (
let a312 : (Nat → Int) := (upd a308 ((Int.toNat i304)) i311)
let i313 : Int := addA .i64 i304 1
rec (((), (), b299, (), (), (), i300, i301, i302, a303, i313, ()), (a305, a306, a307, a312, l309, ()))) else none) else none) else none) else none) else none) else none) else (
κ0 (((), (), b299, (), (), (), i300, i301, i302, ()), (a305, a306, a307, a308, l309, ())))
def l_44_10 {R : Type} (N : Nat) : Nat → ((Unit × Unit × Bool × Unit × Unit × Unit × Int × Int × Int × (Nat → Int) × Int × Unit) × ((Nat → Int) × (Nat → Int) × (Nat → Int) × (Nat → Int) × (List Bool) × Unit)) → (((Unit × Unit × Bool × Unit × Unit × Unit × Int × Int × Int × Unit) × ((Nat → Int) × (Nat → Int) × (Nat → Int) × (Nat → Int) × (List Bool) × Unit)) → Option R) → Option R
  | 0, _, _ => none
  | n + 1, x, κ0 => B_44_10 N (fun y => l_44_10 N n y κ0) x κ0
def lv_44_16 : Live := [(1, none), (2, none), (4, none), (7, none), (12, none), (13, none), (14, none), (18, none), (37, none), (38, none)]
def pt_44_16 : SPat := ⟨[(1, .ptr 0 []), (2, .ptr 1 []), (4, .bool), (7, .ptr 2 []), (12, .sl 3), (13, .int .i64), (14, .int .i64), (18, .int .i64), (37, .vec (.int .i64) 16), (38, .int .i64)], [some (.vec (.int .u64) 128, 70), some (.vec (.int .u64) 128, 70), some (.vec (.int .u64) 16, 62), some (.lst (.bool), 4)]⟩
def px_44_16_0 : SPat := ⟨[(1, .ptr 0 []), (2, .ptr 1 []), (4, .bool), (12, .sl 2), (13, .int .i64), (14, .int .i64), (18, .int .i64)], [some (.vec (.int .u64) 128, 70), some (.vec (.int .u64) 128, 70), some (.lst (.bool), 4)]⟩
def lo_44_16 : Exit → Live
  | .exit 6 => [(1, none), (2, none), (4, none), (12, none), (13, none), (14, none), (18, none)]
  | _ => []
def B_44_16 {R : Type} (N : Nat) (rec : ((Unit × Unit × Bool × Unit × Unit × Int × Int × Int × (Nat → Int) × Int × Unit) × ((Nat → Int) × (Nat → Int) × (Nat → Int) × (List Bool) × Unit)) → Option R) (x : ((Unit × Unit × Bool × Unit × Unit × Int × Int × Int × (Nat → Int) × Int × Unit) × ((Nat → Int) × (Nat → Int) × (Nat → Int) × (List Bool) × Unit))) (κ0 : ((Unit × Unit × Bool × Unit × Int × Int × Int × Unit) × ((Nat → Int) × (Nat → Int) × (List Bool) × Unit)) → Option R) : Option R :=
let b406 : Bool := x.1.2.2.1
let i407 : Int := x.1.2.2.2.2.2.1
let i408 : Int := x.1.2.2.2.2.2.2.1
let i409 : Int := x.1.2.2.2.2.2.2.2.1
let a410 : (Nat → Int) := x.1.2.2.2.2.2.2.2.2.1
let i411 : Int := x.1.2.2.2.2.2.2.2.2.2.1
let a412 : (Nat → Int) := x.2.1
let a413 : (Nat → Int) := x.2.2.1
let a414 : (Nat → Int) := x.2.2.2.1
let l415 : (List Bool) := x.2.2.2.2.1
bif (decide (i411 < 16)) then (
bif decide (0 ≤ i411) then (
bif decide (i411 < (16 : Int)) then (
let i416 : Int := (a410 ((Int.toNat i411)))
bif decide (0 ≤ i411) then (
bif decide (i411 < (16 : Int)) then (
let i417 : Int := (a414 ((Int.toNat i411)))
bif decide (0 ≤ i416) then (
bif decide (i416 < (128 : Int)) then (
let a418 : (Nat → Int) := (upd a412 ((Int.toNat i416)) i417)
let i419 : Int := addA .i64 i411 1
rec (((), (), b406, (), (), i407, i408, i409, a410, i419, ()), (a418, a413, a414, l415, ()))) else none) else none) else none) else none) else none) else none) else (
κ0 (((), (), b406, (), i407, i408, i409, ()), (a412, a413, l415, ())))
def l_44_16 {R : Type} (N : Nat) : Nat → ((Unit × Unit × Bool × Unit × Unit × Int × Int × Int × (Nat → Int) × Int × Unit) × ((Nat → Int) × (Nat → Int) × (Nat → Int) × (List Bool) × Unit)) → (((Unit × Unit × Bool × Unit × Int × Int × Int × Unit) × ((Nat → Int) × (Nat → Int) × (List Bool) × Unit)) → Option R) → Option R
  | 0, _, _ => none
  | n + 1, x, κ0 => B_44_16 N (fun y => l_44_16 N n y κ0) x κ0
def lv_44_5 : Live := [(1, none), (2, none), (4, none), (12, none), (13, none), (14, none), (18, none)]
def pt_44_5 : SPat := ⟨[(1, .ptr 0 []), (2, .ptr 1 []), (4, .bool), (12, .sl 2), (13, .int .i64), (14, .int .i64), (18, .int .i64)], [some (.vec (.int .u64) 128, 70), some (.vec (.int .u64) 128, 70), some (.lst (.bool), 4)]⟩
def px_44_5_0 : SPat := ⟨[(1, .ptr 0 []), (2, .ptr 1 []), (12, .sl 2), (13, .int .i64), (14, .int .i64)], [some (.vec (.int .u64) 128, 70), some (.vec (.int .u64) 128, 70), some (.lst (.bool), 4)]⟩
def lo_44_5 : Exit → Live
  | .exit 2 => [(1, none), (2, none), (12, none), (13, none), (14, none)]
  | _ => []
def B_44_5 {R : Type} (N : Nat) (rec : ((Unit × Unit × Bool × Unit × Int × Int × Int × Unit) × ((Nat → Int) × (Nat → Int) × (List Bool) × Unit)) → Option R) (x : ((Unit × Unit × Bool × Unit × Int × Int × Int × Unit) × ((Nat → Int) × (Nat → Int) × (List Bool) × Unit))) (κ0 : ((Unit × Unit × Unit × Int × Int × Unit) × ((Nat → Int) × (Nat → Int) × (List Bool) × Unit)) → Option R) : Option R :=
let b268 : Bool := x.1.2.2.1
let i269 : Int := x.1.2.2.2.2.1
let i270 : Int := x.1.2.2.2.2.2.1
let i271 : Int := x.1.2.2.2.2.2.2.1
let a272 : (Nat → Int) := x.2.1
let a273 : (Nat → Int) := x.2.2.1
let l274 : (List Bool) := x.2.2.2.1
bif (decide (i271 < 8)) then (
p_95 N ((i271, b268, ()), ()) (fun y297 =>
let a298 : (Nat → Int) := y297
l_44_10 N N (((), (), b268, (), (), (), i269, i270, i271, a298, 0, ()), (a272, a273, a298, (Sch.zero (.arr 16 (.int .u64))), l274, ())) (fun y314 =>
let b315 : Bool := y314.1.2.2.1
let i316 : Int := y314.1.2.2.2.2.2.2.1
let i317 : Int := y314.1.2.2.2.2.2.2.2.1
let i318 : Int := y314.1.2.2.2.2.2.2.2.2.1
let a319 : (Nat → Int) := y314.2.1
let a320 : (Nat → Int) := y314.2.2.1
let a321 : (Nat → Int) := y314.2.2.2.1
let a322 : (Nat → Int) := y314.2.2.2.2.1
let l323 : (List Bool) := y314.2.2.2.2.2.1
p_40 N ((a322, ()), ()) (fun y404 =>
let a405 : (Nat → Int) := y404
l_44_16 N N (((), (), b315, (), (), i316, i317, i318, a321, 0, ()), (a319, a320, a405, l323, ())) (fun y420 =>
let b421 : Bool := y420.1.2.2.1
let i422 : Int := y420.1.2.2.2.2.1
let i423 : Int := y420.1.2.2.2.2.2.1
let i424 : Int := y420.1.2.2.2.2.2.2.1
let a425 : (Nat → Int) := y420.2.1
let a426 : (Nat → Int) := y420.2.2.1
let l427 : (List Bool) := y420.2.2.2.1
let i428 : Int := addA .i64 i424 1
rec (((), (), b421, (), i422, i423, i428, ()), (a425, a426, l427, ()))))))) else (
κ0 (((), (), (), i269, i270, ()), (a272, a273, l274, ())))
def l_44_5 {R : Type} (N : Nat) : Nat → ((Unit × Unit × Bool × Unit × Int × Int × Int × Unit) × ((Nat → Int) × (Nat → Int) × (List Bool) × Unit)) → (((Unit × Unit × Unit × Int × Int × Unit) × ((Nat → Int) × (Nat → Int) × (List Bool) × Unit)) → Option R) → Option R
  | 0, _, _ => none
  | n + 1, x, κ0 => B_44_5 N (fun y => l_44_5 N n y κ0) x κ0
def lv_44_2 : Live := [(1, none), (2, none), (12, none), (13, none), (14, none)]
def pt_44_2 : SPat := ⟨[(1, .ptr 0 []), (2, .ptr 1 []), (12, .sl 2), (13, .int .i64), (14, .int .i64)], [some (.vec (.int .u64) 128, 70), some (.vec (.int .u64) 128, 70), some (.lst (.bool), 4)]⟩
def px_44_2_0 : SPat := ⟨[(1, .ptr 0 []), (2, .ptr 1 [])], [some (.vec (.int .u64) 128, 70), some (.vec (.int .u64) 128, 70)]⟩
def lo_44_2 : Exit → Live
  | .exit 0 => [(1, none), (2, none)]
  | _ => []
def B_44_2 {R : Type} (N : Nat) (rec : ((Unit × Unit × Unit × Int × Int × Unit) × ((Nat → Int) × (Nat → Int) × (List Bool) × Unit)) → Option R) (x : ((Unit × Unit × Unit × Int × Int × Unit) × ((Nat → Int) × (Nat → Int) × (List Bool) × Unit))) (κ0 : ((Unit × Unit × Unit) × ((Nat → Int) × (Nat → Int) × Unit)) → Option R) : Option R :=
let i262 : Int := x.1.2.2.2.1
let i263 : Int := x.1.2.2.2.2.1
let a264 : (Nat → Int) := x.2.1
let a265 : (Nat → Int) := x.2.2.1
let l266 : (List Bool) := x.2.2.2.1
bif (decide (i263 < i262)) then (
bif decide (0 ≤ i263) then (
bif decide (i263 < ((List.length l266) : Int)) then (
let b267 : Bool := (List.getD l266 ((Int.toNat i263)) (Sch.zero (.bool)))
l_44_5 N N (((), (), b267, (), i262, i263, 0, ()), (a264, a265, l266, ())) (fun y429 =>
let i430 : Int := y429.1.2.2.2.1
let i431 : Int := y429.1.2.2.2.2.1
let a432 : (Nat → Int) := y429.2.1
let a433 : (Nat → Int) := y429.2.2.1
let l434 : (List Bool) := y429.2.2.2.1
let i435 : Int := addA .i64 i431 1
rec (((), (), (), i430, i435, ()), (a432, a433, l434, ())))) else none) else none) else (
κ0 (((), (), ()), (a264, a265, ())))
def l_44_2 {R : Type} (N : Nat) : Nat → ((Unit × Unit × Unit × Int × Int × Unit) × ((Nat → Int) × (Nat → Int) × (List Bool) × Unit)) → (((Unit × Unit × Unit) × ((Nat → Int) × (Nat → Int) × Unit)) → Option R) → Option R
  | 0, _, _ => none
  | n + 1, x, κ0 => B_44_2 N (fun y => l_44_2 N n y κ0) x κ0
def ap_44 : List Pat := [.vec (.int .u64) 128]
def hp_44 : List (Option (Pat × Nat)) := []
def p_44 {R : Type} (N : Nat) (x : ((Nat → Int) × Unit) × (Unit)) (κ0 : (Nat → Int) → Option R) : Option R :=
let a259 : (Nat → Int) := x.1.1
let l260 : (List Bool) := [false, true]
let i261 : Int := (((List.length l260) : Nat) : Int)
l_44_2 N N (((), (), (), i261, 0, ()), (a259, (Sch.zero (.arr 128 (.int .u64))), l260, ())) (fun y436 =>
let a437 : (Nat → Int) := y436.2.1
let a438 : (Nat → Int) := y436.2.2.1
κ0 a437)

abbrev Tl_44_10 (R : Type) : Type := ((Unit × Unit × Bool × Unit × Unit × Unit × Int × Int × Int × (Nat → Int) × Int × Unit) × ((Nat → Int) × (Nat → Int) × (Nat → Int) × (Nat → Int) × (List Bool) × Unit)) → (((Unit × Unit × Bool × Unit × Unit × Unit × Int × Int × Int × Unit) × ((Nat → Int) × (Nat → Int) × (Nat → Int) × (Nat → Int) × (List Bool) × Unit)) → Option R) → Option R
abbrev Tl_44_16 (R : Type) : Type := ((Unit × Unit × Bool × Unit × Unit × Int × Int × Int × (Nat → Int) × Int × Unit) × ((Nat → Int) × (Nat → Int) × (Nat → Int) × (List Bool) × Unit)) → (((Unit × Unit × Bool × Unit × Int × Int × Int × Unit) × ((Nat → Int) × (Nat → Int) × (List Bool) × Unit)) → Option R) → Option R
abbrev Tl_44_5 (R : Type) : Type := ((Unit × Unit × Bool × Unit × Int × Int × Int × Unit) × ((Nat → Int) × (Nat → Int) × (List Bool) × Unit)) → (((Unit × Unit × Unit × Int × Int × Unit) × ((Nat → Int) × (Nat → Int) × (List Bool) × Unit)) → Option R) → Option R
abbrev Tl_44_2 (R : Type) : Type := ((Unit × Unit × Unit × Int × Int × Unit) × ((Nat → Int) × (Nat → Int) × (List Bool) × Unit)) → (((Unit × Unit × Unit) × ((Nat → Int) × (Nat → Int) × Unit)) → Option R) → Option R
abbrev Tp_44 (R : Type) : Type := ((Nat → Int) × Unit) × (Unit) → ((Nat → Int) → Option R) → Option R
def Q_44 {R : Type} (q_95 : Tp_95 R) (q_40 : Tp_40 R) (m_44_10 : Tl_44_10 R) (m_44_16 : Tl_44_16 R) (m_44_5 : Tl_44_5 R) (m_44_2 : Tl_44_2 R) (x : ((Nat → Int) × Unit) × (Unit)) (κ0 : (Nat → Int) → Option R) : Option R :=
let a259 : (Nat → Int) := x.1.1
let l260 : (List Bool) := [false, true]
let i261 : Int := (((List.length l260) : Nat) : Int)
m_44_2 (((), (), (), i261, 0, ()), (a259, (Sch.zero (.arr 128 (.int .u64))), l260, ())) (fun y436 =>
let a437 : (Nat → Int) := y436.2.1
let a438 : (Nat → Int) := y436.2.2.1
κ0 a437)
def C_44_10 {R : Type} (q_95 : Tp_95 R) (q_40 : Tp_40 R) (m_44_10 : Tl_44_10 R) (m_44_16 : Tl_44_16 R) (m_44_5 : Tl_44_5 R) (m_44_2 : Tl_44_2 R) (rec : ((Unit × Unit × Bool × Unit × Unit × Unit × Int × Int × Int × (Nat → Int) × Int × Unit) × ((Nat → Int) × (Nat → Int) × (Nat → Int) × (Nat → Int) × (List Bool) × Unit)) → Option R) (x : ((Unit × Unit × Bool × Unit × Unit × Unit × Int × Int × Int × (Nat → Int) × Int × Unit) × ((Nat → Int) × (Nat → Int) × (Nat → Int) × (Nat → Int) × (List Bool) × Unit))) (κ0 : ((Unit × Unit × Bool × Unit × Unit × Unit × Int × Int × Int × Unit) × ((Nat → Int) × (Nat → Int) × (Nat → Int) × (Nat → Int) × (List Bool) × Unit)) → Option R) : Option R :=
let b299 : Bool := x.1.2.2.1
let i300 : Int := x.1.2.2.2.2.2.2.1
let i301 : Int := x.1.2.2.2.2.2.2.2.1
let i302 : Int := x.1.2.2.2.2.2.2.2.2.1
let a303 : (Nat → Int) := x.1.2.2.2.2.2.2.2.2.2.1
let i304 : Int := x.1.2.2.2.2.2.2.2.2.2.2.1
let a305 : (Nat → Int) := x.2.1
let a306 : (Nat → Int) := x.2.2.1
let a307 : (Nat → Int) := x.2.2.2.1
let a308 : (Nat → Int) := x.2.2.2.2.1
let l309 : (List Bool) := x.2.2.2.2.2.1
bif (decide (i304 < 16)) then (
bif decide (0 ≤ i304) then (
bif decide (i304 < (16 : Int)) then (
let i310 : Int := (a303 ((Int.toNat i304)))
bif decide (0 ≤ i310) then (
bif decide (i310 < (128 : Int)) then (
let i311 : Int := (a305 ((Int.toNat i310)))
bif decide (0 ≤ i304) then (
bif decide (i304 < (16 : Int)) then (
let a312 : (Nat → Int) := (upd a308 ((Int.toNat i304)) i311)
let i313 : Int := addA .i64 i304 1
rec (((), (), b299, (), (), (), i300, i301, i302, a303, i313, ()), (a305, a306, a307, a312, l309, ()))) else none) else none) else none) else none) else none) else none) else (
κ0 (((), (), b299, (), (), (), i300, i301, i302, ()), (a305, a306, a307, a308, l309, ())))
def C_44_16 {R : Type} (q_95 : Tp_95 R) (q_40 : Tp_40 R) (m_44_10 : Tl_44_10 R) (m_44_16 : Tl_44_16 R) (m_44_5 : Tl_44_5 R) (m_44_2 : Tl_44_2 R) (rec : ((Unit × Unit × Bool × Unit × Unit × Int × Int × Int × (Nat → Int) × Int × Unit) × ((Nat → Int) × (Nat → Int) × (Nat → Int) × (List Bool) × Unit)) → Option R) (x : ((Unit × Unit × Bool × Unit × Unit × Int × Int × Int × (Nat → Int) × Int × Unit) × ((Nat → Int) × (Nat → Int) × (Nat → Int) × (List Bool) × Unit))) (κ0 : ((Unit × Unit × Bool × Unit × Int × Int × Int × Unit) × ((Nat → Int) × (Nat → Int) × (List Bool) × Unit)) → Option R) : Option R :=
let b406 : Bool := x.1.2.2.1
let i407 : Int := x.1.2.2.2.2.2.1
let i408 : Int := x.1.2.2.2.2.2.2.1
let i409 : Int := x.1.2.2.2.2.2.2.2.1
let a410 : (Nat → Int) := x.1.2.2.2.2.2.2.2.2.1
let i411 : Int := x.1.2.2.2.2.2.2.2.2.2.1
let a412 : (Nat → Int) := x.2.1
let a413 : (Nat → Int) := x.2.2.1
let a414 : (Nat → Int) := x.2.2.2.1
let l415 : (List Bool) := x.2.2.2.2.1
bif (decide (i411 < 16)) then (
bif decide (0 ≤ i411) then (
bif decide (i411 < (16 : Int)) then (
let i416 : Int := (a410 ((Int.toNat i411)))
bif decide (0 ≤ i411) then (
bif decide (i411 < (16 : Int)) then (
let i417 : Int := (a414 ((Int.toNat i411)))
bif decide (0 ≤ i416) then (
bif decide (i416 < (128 : Int)) then (
let a418 : (Nat → Int) := (upd a412 ((Int.toNat i416)) i417)
let i419 : Int := addA .i64 i411 1
rec (((), (), b406, (), (), i407, i408, i409, a410, i419, ()), (a418, a413, a414, l415, ()))) else none) else none) else none) else none) else none) else none) else (
κ0 (((), (), b406, (), i407, i408, i409, ()), (a412, a413, l415, ())))
def C_44_5 {R : Type} (q_95 : Tp_95 R) (q_40 : Tp_40 R) (m_44_10 : Tl_44_10 R) (m_44_16 : Tl_44_16 R) (m_44_5 : Tl_44_5 R) (m_44_2 : Tl_44_2 R) (rec : ((Unit × Unit × Bool × Unit × Int × Int × Int × Unit) × ((Nat → Int) × (Nat → Int) × (List Bool) × Unit)) → Option R) (x : ((Unit × Unit × Bool × Unit × Int × Int × Int × Unit) × ((Nat → Int) × (Nat → Int) × (List Bool) × Unit))) (κ0 : ((Unit × Unit × Unit × Int × Int × Unit) × ((Nat → Int) × (Nat → Int) × (List Bool) × Unit)) → Option R) : Option R :=
let b268 : Bool := x.1.2.2.1
let i269 : Int := x.1.2.2.2.2.1
let i270 : Int := x.1.2.2.2.2.2.1
let i271 : Int := x.1.2.2.2.2.2.2.1
let a272 : (Nat → Int) := x.2.1
let a273 : (Nat → Int) := x.2.2.1
let l274 : (List Bool) := x.2.2.2.1
bif (decide (i271 < 8)) then (
q_95 ((i271, b268, ()), ()) (fun y297 =>
let a298 : (Nat → Int) := y297
m_44_10 (((), (), b268, (), (), (), i269, i270, i271, a298, 0, ()), (a272, a273, a298, (Sch.zero (.arr 16 (.int .u64))), l274, ())) (fun y314 =>
let b315 : Bool := y314.1.2.2.1
let i316 : Int := y314.1.2.2.2.2.2.2.1
let i317 : Int := y314.1.2.2.2.2.2.2.2.1
let i318 : Int := y314.1.2.2.2.2.2.2.2.2.1
let a319 : (Nat → Int) := y314.2.1
let a320 : (Nat → Int) := y314.2.2.1
let a321 : (Nat → Int) := y314.2.2.2.1
let a322 : (Nat → Int) := y314.2.2.2.2.1
let l323 : (List Bool) := y314.2.2.2.2.2.1
q_40 ((a322, ()), ()) (fun y404 =>
let a405 : (Nat → Int) := y404
m_44_16 (((), (), b315, (), (), i316, i317, i318, a321, 0, ()), (a319, a320, a405, l323, ())) (fun y420 =>
let b421 : Bool := y420.1.2.2.1
let i422 : Int := y420.1.2.2.2.2.1
let i423 : Int := y420.1.2.2.2.2.2.1
let i424 : Int := y420.1.2.2.2.2.2.2.1
let a425 : (Nat → Int) := y420.2.1
let a426 : (Nat → Int) := y420.2.2.1
let l427 : (List Bool) := y420.2.2.2.1
let i428 : Int := addA .i64 i424 1
rec (((), (), b421, (), i422, i423, i428, ()), (a425, a426, l427, ()))))))) else (
κ0 (((), (), (), i269, i270, ()), (a272, a273, l274, ())))
def C_44_2 {R : Type} (q_95 : Tp_95 R) (q_40 : Tp_40 R) (m_44_10 : Tl_44_10 R) (m_44_16 : Tl_44_16 R) (m_44_5 : Tl_44_5 R) (m_44_2 : Tl_44_2 R) (rec : ((Unit × Unit × Unit × Int × Int × Unit) × ((Nat → Int) × (Nat → Int) × (List Bool) × Unit)) → Option R) (x : ((Unit × Unit × Unit × Int × Int × Unit) × ((Nat → Int) × (Nat → Int) × (List Bool) × Unit))) (κ0 : ((Unit × Unit × Unit) × ((Nat → Int) × (Nat → Int) × Unit)) → Option R) : Option R :=
let i262 : Int := x.1.2.2.2.1
let i263 : Int := x.1.2.2.2.2.1
let a264 : (Nat → Int) := x.2.1
let a265 : (Nat → Int) := x.2.2.1
let l266 : (List Bool) := x.2.2.2.1
bif (decide (i263 < i262)) then (
bif decide (0 ≤ i263) then (
bif decide (i263 < ((List.length l266) : Int)) then (
let b267 : Bool := (List.getD l266 ((Int.toNat i263)) (Sch.zero (.bool)))
m_44_5 (((), (), b267, (), i262, i263, 0, ()), (a264, a265, l266, ())) (fun y429 =>
let i430 : Int := y429.1.2.2.2.1
let i431 : Int := y429.1.2.2.2.2.1
let a432 : (Nat → Int) := y429.2.1
let a433 : (Nat → Int) := y429.2.2.1
let l434 : (List Bool) := y429.2.2.2.1
let i435 : Int := addA .i64 i431 1
rec (((), (), (), i430, i435, ()), (a432, a433, l434, ())))) else none) else none) else (
κ0 (((), (), ()), (a264, a265, ())))
def EG_44 {R : Type} (q_95 : Tp_95 R) (q_40 : Tp_40 R) : Env R := ((Env.base QQ LN).add 95 ap_95 hp_95 (fun (x : aden ap_95 × hden hp_95) k => q_95 x (fun y => k (Pat.inst (.vec (.int .i64) 16) y) (instH hp_95 x.2)))).add 40 ap_40 hp_40 (fun (x : aden ap_40 × hden hp_40) k => q_40 x (fun y => k (Pat.inst (.vec (.int .u64) 16) y) (instH hp_40 x.2)))
def LG_44 {R : Type} (m_44_10 : Tl_44_10 R) (m_44_16 : Tl_44_16 R) (m_44_5 : Tl_44_5 R) (m_44_2 : Tl_44_2 R) : Loops R := ((((Loops.none).add 10 (loopBy 0 lv_44_10 pt_44_10 (fun x k => m_44_10 x (fun y => k (.exit 4) (px_44_10_0.inst y))))).add 16 (loopBy 0 lv_44_16 pt_44_16 (fun x k => m_44_16 x (fun y => k (.exit 6) (px_44_16_0.inst y))))).add 5 (loopBy 0 lv_44_5 pt_44_5 (fun x k => m_44_5 x (fun y => k (.exit 2) (px_44_5_0.inst y))))).add 2 (loopBy 0 lv_44_2 pt_44_2 (fun x k => m_44_2 x (fun y => k (.exit 0) (px_44_2_0.inst y))))
def E_44 {R : Type} (N : Nat) : Env R := EG_44 (p_95 N) (p_40 N)
theorem eok_44 {R : Type} (N : Nat) : EK Try.prog (E_44 (R := R) N) := ek_add (ek_add (ek_base _ _) (good_95 N)) (good_40 N)
def L_44 {R : Type} (N : Nat) : Loops R := LG_44 (l_44_10 N N) (l_44_16 N N) (l_44_5 N N) (l_44_2 N N)
theorem gstep_44_10 {R : Type} (q_95 : Tp_95 R) (q_40 : Tp_40 R) (m_44_10 : Tl_44_10 R) (m_44_16 : Tl_44_16 R) (m_44_5 : Tl_44_5 R) (m_44_2 : Tl_44_2 R) (n : Nat) (x : pt_44_10.den) (k : Exit → St → Option R) : iter 0 lv_44_10 lo_44_10 (aexec TT (EG_44 q_95 q_40) (drawOk TT QQ) (LG_44 m_44_10 m_44_16 m_44_5 m_44_2) (loopAt 10 (bodyOf Try.f44))) (n + 1) (pt_44_10.inst x) k = C_44_10 q_95 q_40 m_44_10 m_44_16 m_44_5 m_44_2 (fun y => iter 0 lv_44_10 lo_44_10 (aexec TT (EG_44 q_95 q_40) (drawOk TT QQ) (LG_44 m_44_10 m_44_16 m_44_5 m_44_2) (loopAt 10 (bodyOf Try.f44))) n (pt_44_10.inst y) k) x (fun y => k (.exit 4) (px_44_10_0.inst y)) := by kernel_rfl
theorem step_44_10 {R : Type} (N n : Nat) (x : pt_44_10.den) (k : Exit → St → Option R) : iter 0 lv_44_10 lo_44_10 (aexec TT (E_44 (R := R) N) (drawOk TT QQ) (L_44 N) (loopAt 10 (bodyOf Try.f44))) (n + 1) (pt_44_10.inst x) k = B_44_10 N (fun y => iter 0 lv_44_10 lo_44_10 (aexec TT (E_44 (R := R) N) (drawOk TT QQ) (L_44 N) (loopAt 10 (bodyOf Try.f44))) n (pt_44_10.inst y) k) x (fun y => k (.exit 4) (px_44_10_0.inst y)) := (gstep_44_10 (p_95 N) (p_40 N) (l_44_10 N N) (l_44_16 N N) (l_44_5 N N) (l_44_2 N N) n x k).trans (by kernel_rfl)
theorem eq_44_10 {R : Type} (N : Nat) : ∀ (n : Nat) (x : pt_44_10.den) (k : Exit → St → Option R), iter 0 lv_44_10 lo_44_10 (aexec TT (E_44 (R := R) N) (drawOk TT QQ) (L_44 N) (loopAt 10 (bodyOf Try.f44))) n (pt_44_10.inst x) k = l_44_10 N n x (fun y => k (.exit 4) (px_44_10_0.inst y)) :=
  iter_eq (K := Exit → St → Option R) (ks := fun k => k) (l := fun n (x : pt_44_10.den) k => l_44_10 N n x (fun y => k (.exit 4) (px_44_10_0.inst y))) (B := fun (rec : pt_44_10.den → Option R) (x : pt_44_10.den) k => B_44_10 N rec x (fun y => k (.exit 4) (px_44_10_0.inst y))) (fun _ _ => rfl) (fun _ _ _ => rfl) (fun n x k => step_44_10 N n x k)
theorem rounds_44_10 {R : Type} (N : Nat) : Rounds 0 TT (E_44 (R := R) N) (drawOk TT QQ) (L_44 N) 10 (loopAt 10 (bodyOf Try.f44)) :=
  rounds_of (p := pt_44_10) (l := fun (x : pt_44_10.den) k => l_44_10 N N x (fun y => k (.exit 4) (px_44_10_0.inst y))) (fun s k => rfl) (fun x k => eq_44_10 N N x k)
theorem gstep_44_16 {R : Type} (q_95 : Tp_95 R) (q_40 : Tp_40 R) (m_44_10 : Tl_44_10 R) (m_44_16 : Tl_44_16 R) (m_44_5 : Tl_44_5 R) (m_44_2 : Tl_44_2 R) (n : Nat) (x : pt_44_16.den) (k : Exit → St → Option R) : iter 0 lv_44_16 lo_44_16 (aexec TT (EG_44 q_95 q_40) (drawOk TT QQ) (LG_44 m_44_10 m_44_16 m_44_5 m_44_2) (loopAt 16 (bodyOf Try.f44))) (n + 1) (pt_44_16.inst x) k = C_44_16 q_95 q_40 m_44_10 m_44_16 m_44_5 m_44_2 (fun y => iter 0 lv_44_16 lo_44_16 (aexec TT (EG_44 q_95 q_40) (drawOk TT QQ) (LG_44 m_44_10 m_44_16 m_44_5 m_44_2) (loopAt 16 (bodyOf Try.f44))) n (pt_44_16.inst y) k) x (fun y => k (.exit 6) (px_44_16_0.inst y)) := by kernel_rfl
theorem step_44_16 {R : Type} (N n : Nat) (x : pt_44_16.den) (k : Exit → St → Option R) : iter 0 lv_44_16 lo_44_16 (aexec TT (E_44 (R := R) N) (drawOk TT QQ) (L_44 N) (loopAt 16 (bodyOf Try.f44))) (n + 1) (pt_44_16.inst x) k = B_44_16 N (fun y => iter 0 lv_44_16 lo_44_16 (aexec TT (E_44 (R := R) N) (drawOk TT QQ) (L_44 N) (loopAt 16 (bodyOf Try.f44))) n (pt_44_16.inst y) k) x (fun y => k (.exit 6) (px_44_16_0.inst y)) := (gstep_44_16 (p_95 N) (p_40 N) (l_44_10 N N) (l_44_16 N N) (l_44_5 N N) (l_44_2 N N) n x k).trans (by kernel_rfl)
theorem eq_44_16 {R : Type} (N : Nat) : ∀ (n : Nat) (x : pt_44_16.den) (k : Exit → St → Option R), iter 0 lv_44_16 lo_44_16 (aexec TT (E_44 (R := R) N) (drawOk TT QQ) (L_44 N) (loopAt 16 (bodyOf Try.f44))) n (pt_44_16.inst x) k = l_44_16 N n x (fun y => k (.exit 6) (px_44_16_0.inst y)) :=
  iter_eq (K := Exit → St → Option R) (ks := fun k => k) (l := fun n (x : pt_44_16.den) k => l_44_16 N n x (fun y => k (.exit 6) (px_44_16_0.inst y))) (B := fun (rec : pt_44_16.den → Option R) (x : pt_44_16.den) k => B_44_16 N rec x (fun y => k (.exit 6) (px_44_16_0.inst y))) (fun _ _ => rfl) (fun _ _ _ => rfl) (fun n x k => step_44_16 N n x k)
theorem rounds_44_16 {R : Type} (N : Nat) : Rounds 0 TT (E_44 (R := R) N) (drawOk TT QQ) (L_44 N) 16 (loopAt 16 (bodyOf Try.f44)) :=
  rounds_of (p := pt_44_16) (l := fun (x : pt_44_16.den) k => l_44_16 N N x (fun y => k (.exit 6) (px_44_16_0.inst y))) (fun s k => rfl) (fun x k => eq_44_16 N N x k)
theorem gstep_44_5 {R : Type} (q_95 : Tp_95 R) (q_40 : Tp_40 R) (m_44_10 : Tl_44_10 R) (m_44_16 : Tl_44_16 R) (m_44_5 : Tl_44_5 R) (m_44_2 : Tl_44_2 R) (n : Nat) (x : pt_44_5.den) (k : Exit → St → Option R) : iter 0 lv_44_5 lo_44_5 (aexec TT (EG_44 q_95 q_40) (drawOk TT QQ) (LG_44 m_44_10 m_44_16 m_44_5 m_44_2) (loopAt 5 (bodyOf Try.f44))) (n + 1) (pt_44_5.inst x) k = C_44_5 q_95 q_40 m_44_10 m_44_16 m_44_5 m_44_2 (fun y => iter 0 lv_44_5 lo_44_5 (aexec TT (EG_44 q_95 q_40) (drawOk TT QQ) (LG_44 m_44_10 m_44_16 m_44_5 m_44_2) (loopAt 5 (bodyOf Try.f44))) n (pt_44_5.inst y) k) x (fun y => k (.exit 2) (px_44_5_0.inst y)) := by kernel_rfl
theorem step_44_5 {R : Type} (N n : Nat) (x : pt_44_5.den) (k : Exit → St → Option R) : iter 0 lv_44_5 lo_44_5 (aexec TT (E_44 (R := R) N) (drawOk TT QQ) (L_44 N) (loopAt 5 (bodyOf Try.f44))) (n + 1) (pt_44_5.inst x) k = B_44_5 N (fun y => iter 0 lv_44_5 lo_44_5 (aexec TT (E_44 (R := R) N) (drawOk TT QQ) (L_44 N) (loopAt 5 (bodyOf Try.f44))) n (pt_44_5.inst y) k) x (fun y => k (.exit 2) (px_44_5_0.inst y)) := (gstep_44_5 (p_95 N) (p_40 N) (l_44_10 N N) (l_44_16 N N) (l_44_5 N N) (l_44_2 N N) n x k).trans (by kernel_rfl)
theorem eq_44_5 {R : Type} (N : Nat) : ∀ (n : Nat) (x : pt_44_5.den) (k : Exit → St → Option R), iter 0 lv_44_5 lo_44_5 (aexec TT (E_44 (R := R) N) (drawOk TT QQ) (L_44 N) (loopAt 5 (bodyOf Try.f44))) n (pt_44_5.inst x) k = l_44_5 N n x (fun y => k (.exit 2) (px_44_5_0.inst y)) :=
  iter_eq (K := Exit → St → Option R) (ks := fun k => k) (l := fun n (x : pt_44_5.den) k => l_44_5 N n x (fun y => k (.exit 2) (px_44_5_0.inst y))) (B := fun (rec : pt_44_5.den → Option R) (x : pt_44_5.den) k => B_44_5 N rec x (fun y => k (.exit 2) (px_44_5_0.inst y))) (fun _ _ => rfl) (fun _ _ _ => rfl) (fun n x k => step_44_5 N n x k)
theorem rounds_44_5 {R : Type} (N : Nat) : Rounds 0 TT (E_44 (R := R) N) (drawOk TT QQ) (L_44 N) 5 (loopAt 5 (bodyOf Try.f44)) :=
  rounds_of (p := pt_44_5) (l := fun (x : pt_44_5.den) k => l_44_5 N N x (fun y => k (.exit 2) (px_44_5_0.inst y))) (fun s k => rfl) (fun x k => eq_44_5 N N x k)
theorem gstep_44_2 {R : Type} (q_95 : Tp_95 R) (q_40 : Tp_40 R) (m_44_10 : Tl_44_10 R) (m_44_16 : Tl_44_16 R) (m_44_5 : Tl_44_5 R) (m_44_2 : Tl_44_2 R) (n : Nat) (x : pt_44_2.den) (k : Exit → St → Option R) : iter 0 lv_44_2 lo_44_2 (aexec TT (EG_44 q_95 q_40) (drawOk TT QQ) (LG_44 m_44_10 m_44_16 m_44_5 m_44_2) (loopAt 2 (bodyOf Try.f44))) (n + 1) (pt_44_2.inst x) k = C_44_2 q_95 q_40 m_44_10 m_44_16 m_44_5 m_44_2 (fun y => iter 0 lv_44_2 lo_44_2 (aexec TT (EG_44 q_95 q_40) (drawOk TT QQ) (LG_44 m_44_10 m_44_16 m_44_5 m_44_2) (loopAt 2 (bodyOf Try.f44))) n (pt_44_2.inst y) k) x (fun y => k (.exit 0) (px_44_2_0.inst y)) := by kernel_rfl
theorem step_44_2 {R : Type} (N n : Nat) (x : pt_44_2.den) (k : Exit → St → Option R) : iter 0 lv_44_2 lo_44_2 (aexec TT (E_44 (R := R) N) (drawOk TT QQ) (L_44 N) (loopAt 2 (bodyOf Try.f44))) (n + 1) (pt_44_2.inst x) k = B_44_2 N (fun y => iter 0 lv_44_2 lo_44_2 (aexec TT (E_44 (R := R) N) (drawOk TT QQ) (L_44 N) (loopAt 2 (bodyOf Try.f44))) n (pt_44_2.inst y) k) x (fun y => k (.exit 0) (px_44_2_0.inst y)) := (gstep_44_2 (p_95 N) (p_40 N) (l_44_10 N N) (l_44_16 N N) (l_44_5 N N) (l_44_2 N N) n x k).trans (by kernel_rfl)
theorem eq_44_2 {R : Type} (N : Nat) : ∀ (n : Nat) (x : pt_44_2.den) (k : Exit → St → Option R), iter 0 lv_44_2 lo_44_2 (aexec TT (E_44 (R := R) N) (drawOk TT QQ) (L_44 N) (loopAt 2 (bodyOf Try.f44))) n (pt_44_2.inst x) k = l_44_2 N n x (fun y => k (.exit 0) (px_44_2_0.inst y)) :=
  iter_eq (K := Exit → St → Option R) (ks := fun k => k) (l := fun n (x : pt_44_2.den) k => l_44_2 N n x (fun y => k (.exit 0) (px_44_2_0.inst y))) (B := fun (rec : pt_44_2.den → Option R) (x : pt_44_2.den) k => B_44_2 N rec x (fun y => k (.exit 0) (px_44_2_0.inst y))) (fun _ _ => rfl) (fun _ _ _ => rfl) (fun n x k => step_44_2 N n x k)
theorem rounds_44_2 {R : Type} (N : Nat) : Rounds 0 TT (E_44 (R := R) N) (drawOk TT QQ) (L_44 N) 2 (loopAt 2 (bodyOf Try.f44)) :=
  rounds_of (p := pt_44_2) (l := fun (x : pt_44_2.den) k => l_44_2 N N x (fun y => k (.exit 0) (px_44_2_0.inst y))) (fun s k => rfl) (fun x k => eq_44_2 N N x k)
theorem loops_44 : loopsIn (bodyOf Try.f44) = [(2, loopAt 2 (bodyOf Try.f44)), (5, loopAt 5 (bodyOf Try.f44)), (10, loopAt 10 (bodyOf Try.f44)), (16, loopAt 16 (bodyOf Try.f44))] := by kernel_rfl
theorem lok_44 {R : Type} (N : Nat) : LOK 0 TT (E_44 (R := R) N) (drawOk TT QQ) (L_44 N) (bodyOf Try.f44) := loops_all loops_44 (by
  simp only [List.forall_mem_cons, List.not_mem_nil, false_implies, implies_true, and_true]
  exact ⟨rounds_44_2 N, rounds_44_5 N, rounds_44_10 N, rounds_44_16 N⟩)
theorem grun_44 {R : Type} (q_95 : Tp_95 R) (q_40 : Tp_40 R) (m_44_10 : Tl_44_10 R) (m_44_16 : Tl_44_16 R) (m_44_5 : Tl_44_5 R) (m_44_2 : Tl_44_2 R) (x : aden ap_44 × hden hp_44) (k : KF R) : fnrun TT (EG_44 q_95 q_40) (drawOk TT QQ) (LG_44 m_44_10 m_44_16 m_44_5 m_44_2) true Try.f44 (instA ap_44 x.1) (instH hp_44 x.2) k = Q_44 q_95 q_40 m_44_10 m_44_16 m_44_5 m_44_2 x (fun y => k (Pat.inst (.vec (.int .u64) 128) y) (instH hp_44 x.2)) := by kernel_rfl
theorem run_44 {R : Type} (N : Nat) (x : aden ap_44 × hden hp_44) (k : KF R) : fnrun TT (E_44 (R := R) N) (drawOk TT QQ) (L_44 N) true Try.f44 (instA ap_44 x.1) (instH hp_44 x.2) k = p_44 N x (fun y => k (Pat.inst (.vec (.int .u64) 128) y) (instH hp_44 x.2)) := (grun_44 (p_95 N) (p_40 N) (l_44_10 N N) (l_44_16 N N) (l_44_5 N N) (l_44_2 N N) x k).trans (by kernel_rfl)
theorem good_44 {R : Type} (N : Nat) : GD (X := R) Try.prog QQ 44 ap_44 hp_44 (fun (x : aden ap_44 × hden hp_44) k => p_44 N x (fun y => k (Pat.inst (.vec (.int .u64) 128) y) (instH hp_44 x.2))) :=
  gd_quiet (E := E_44 N) (p := fun (x : aden ap_44 × hden hp_44) κ => p_44 N x (fun y => κ (Pat.inst (.vec (.int .u64) 128) y))) mixed tyok (eok_44 N) Try.func44 (by kernel_rfl) (by kernel_rfl) (lok_44 N) (fun x k => run_44 N x k)

def ap_43 : List Pat := [.vec (.int .u64) 128, .vec (.int .u64) 128]
def hp_43 : List (Option (Pat × Nat)) := []
def p_43 {R : Type} (N : Nat) (x : ((Nat → Int) × (Nat → Int) × Unit) × (Unit)) (κ0 : (Nat → Int) → Option R) : Option R :=
let a224 : (Nat → Int) := x.1.1
let a225 : (Nat → Int) := x.1.2.1
let l226 : (List (Nat → Int)) := [a224, a225]
p_94 N ((l226, ()), ()) (fun y257 =>
let a258 : (Nat → Int) := y257
p_44 N ((a258, ()), ()) (fun y439 =>
let a440 : (Nat → Int) := y439
let l441 : (List (Nat → Int)) := [a258, a440]
p_94 N ((l441, ()), ()) (fun y442 =>
let a443 : (Nat → Int) := y442
κ0 a443)))

abbrev Tp_43 (R : Type) : Type := ((Nat → Int) × (Nat → Int) × Unit) × (Unit) → ((Nat → Int) → Option R) → Option R
def Q_43 {R : Type} (q_94 : Tp_94 R) (q_44 : Tp_44 R) (x : ((Nat → Int) × (Nat → Int) × Unit) × (Unit)) (κ0 : (Nat → Int) → Option R) : Option R :=
let a224 : (Nat → Int) := x.1.1
let a225 : (Nat → Int) := x.1.2.1
let l226 : (List (Nat → Int)) := [a224, a225]
q_94 ((l226, ()), ()) (fun y257 =>
let a258 : (Nat → Int) := y257
q_44 ((a258, ()), ()) (fun y439 =>
let a440 : (Nat → Int) := y439
let l441 : (List (Nat → Int)) := [a258, a440]
q_94 ((l441, ()), ()) (fun y442 =>
let a443 : (Nat → Int) := y442
κ0 a443)))
def EG_43 {R : Type} (q_94 : Tp_94 R) (q_44 : Tp_44 R) : Env R := ((Env.base QQ LN).add 94 ap_94 hp_94 (fun (x : aden ap_94 × hden hp_94) k => q_94 x (fun y => k (Pat.inst (.vec (.int .u64) 128) y) (instH hp_94 x.2)))).add 44 ap_44 hp_44 (fun (x : aden ap_44 × hden hp_44) k => q_44 x (fun y => k (Pat.inst (.vec (.int .u64) 128) y) (instH hp_44 x.2)))
def LG_43 {R : Type} : Loops R := Loops.none
def E_43 {R : Type} (N : Nat) : Env R := EG_43 (p_94 N) (p_44 N)
theorem eok_43 {R : Type} (N : Nat) : EK Try.prog (E_43 (R := R) N) := ek_add (ek_add (ek_base _ _) (good_94 N)) (good_44 N)
def L_43 {R : Type} (N : Nat) : Loops R := LG_43
theorem lok_43 {R : Type} (N : Nat) : LOK 0 TT (E_43 (R := R) N) (drawOk TT QQ) (L_43 N) (bodyOf Try.f43) := loops_nil (by kernel_rfl)
theorem grun_43 {R : Type} (q_94 : Tp_94 R) (q_44 : Tp_44 R) (x : aden ap_43 × hden hp_43) (k : KF R) : fnrun TT (EG_43 q_94 q_44) (drawOk TT QQ) (LG_43) true Try.f43 (instA ap_43 x.1) (instH hp_43 x.2) k = Q_43 q_94 q_44 x (fun y => k (Pat.inst (.vec (.int .u64) 128) y) (instH hp_43 x.2)) := by kernel_rfl
theorem run_43 {R : Type} (N : Nat) (x : aden ap_43 × hden hp_43) (k : KF R) : fnrun TT (E_43 (R := R) N) (drawOk TT QQ) (L_43 N) true Try.f43 (instA ap_43 x.1) (instH hp_43 x.2) k = p_43 N x (fun y => k (Pat.inst (.vec (.int .u64) 128) y) (instH hp_43 x.2)) := (grun_43 (p_94 N) (p_44 N) x k).trans (by kernel_rfl)
theorem good_43 {R : Type} (N : Nat) : GD (X := R) Try.prog QQ 43 ap_43 hp_43 (fun (x : aden ap_43 × hden hp_43) k => p_43 N x (fun y => k (Pat.inst (.vec (.int .u64) 128) y) (instH hp_43 x.2))) :=
  gd_quiet (E := E_43 N) (p := fun (x : aden ap_43 × hden hp_43) κ => p_43 N x (fun y => κ (Pat.inst (.vec (.int .u64) 128) y))) mixed tyok (eok_43 N) Try.func43 (by kernel_rfl) (by kernel_rfl) (lok_43 N) (fun x k => run_43 N x k)

def ap_71 : List Pat := [.node (.fcons (.int .i64) (.fcons (.int .i64) (.fcons (.int .i64) (.fcons (.int .i64) (.fcons (.int .i64) (.fcons (.int .i64) (.fcons (.int .i64) (.fcons (.int .i64) (.fnil))))))))), .node (.fcons (.int .i64) (.fcons (.int .i64) (.fnil))), .int .i64, .int .i64]
def hp_71 : List (Option (Pat × Nat)) := []
def p_71 {R : Type} (N : Nat) (x : ((Int × (Int × (Int × (Int × (Int × (Int × (Int × (Int × Unit)))))))) × (Int × (Int × Unit)) × Int × Int × Unit) × (Unit)) (κ0 : (Nat → Int) → Option R) : Option R :=
let i173 : Int := x.1.1.1
let i174 : Int := x.1.1.2.1
let i175 : Int := x.1.1.2.2.1
let i176 : Int := x.1.1.2.2.2.1
let i177 : Int := x.1.1.2.2.2.2.1
let i178 : Int := x.1.1.2.2.2.2.2.1
let i179 : Int := x.1.1.2.2.2.2.2.2.1
let i180 : Int := x.1.1.2.2.2.2.2.2.2.1
let i181 : Int := x.1.2.1.1
let i182 : Int := x.1.2.1.2.1
let i183 : Int := x.1.2.2.1
let i184 : Int := x.1.2.2.2.1
let a185 : (Nat → Int) := (Sch.zero (.arr 128 (.int .u64)))
let a186 : (Nat → Int) := (Sch.zero (.arr 128 (.int .u64)))
p_70 N (((i173, (i174, (i175, (i176, (i177, (i178, (i179, (i180, ())))))))), (i181, (i182, ())), i183, i184, ()), ()) (fun y222 =>
let a223 : (Nat → Int) := y222
p_43 N ((a186, a223, ()), ()) (fun y444 =>
let a445 : (Nat → Int) := y444
p_43 N ((a185, a445, ()), ()) (fun y446 =>
let a447 : (Nat → Int) := y446
κ0 a447)))

abbrev Tp_71 (R : Type) : Type := ((Int × (Int × (Int × (Int × (Int × (Int × (Int × (Int × Unit)))))))) × (Int × (Int × Unit)) × Int × Int × Unit) × (Unit) → ((Nat → Int) → Option R) → Option R
def Q_71 {R : Type} (q_70 : Tp_70 R) (q_43 : Tp_43 R) (x : ((Int × (Int × (Int × (Int × (Int × (Int × (Int × (Int × Unit)))))))) × (Int × (Int × Unit)) × Int × Int × Unit) × (Unit)) (κ0 : (Nat → Int) → Option R) : Option R :=
let i173 : Int := x.1.1.1
let i174 : Int := x.1.1.2.1
let i175 : Int := x.1.1.2.2.1
let i176 : Int := x.1.1.2.2.2.1
let i177 : Int := x.1.1.2.2.2.2.1
let i178 : Int := x.1.1.2.2.2.2.2.1
let i179 : Int := x.1.1.2.2.2.2.2.2.1
let i180 : Int := x.1.1.2.2.2.2.2.2.2.1
let i181 : Int := x.1.2.1.1
let i182 : Int := x.1.2.1.2.1
let i183 : Int := x.1.2.2.1
let i184 : Int := x.1.2.2.2.1
let a185 : (Nat → Int) := (Sch.zero (.arr 128 (.int .u64)))
let a186 : (Nat → Int) := (Sch.zero (.arr 128 (.int .u64)))
q_70 (((i173, (i174, (i175, (i176, (i177, (i178, (i179, (i180, ())))))))), (i181, (i182, ())), i183, i184, ()), ()) (fun y222 =>
let a223 : (Nat → Int) := y222
q_43 ((a186, a223, ()), ()) (fun y444 =>
let a445 : (Nat → Int) := y444
q_43 ((a185, a445, ()), ()) (fun y446 =>
let a447 : (Nat → Int) := y446
κ0 a447)))
def EG_71 {R : Type} (q_70 : Tp_70 R) (q_43 : Tp_43 R) : Env R := ((Env.base QQ LN).add 70 ap_70 hp_70 (fun (x : aden ap_70 × hden hp_70) k => q_70 x (fun y => k (Pat.inst (.vec (.int .u64) 128) y) (instH hp_70 x.2)))).add 43 ap_43 hp_43 (fun (x : aden ap_43 × hden hp_43) k => q_43 x (fun y => k (Pat.inst (.vec (.int .u64) 128) y) (instH hp_43 x.2)))
def LG_71 {R : Type} : Loops R := Loops.none
def E_71 {R : Type} (N : Nat) : Env R := EG_71 (p_70 N) (p_43 N)
theorem eok_71 {R : Type} (N : Nat) : EK Try.prog (E_71 (R := R) N) := ek_add (ek_add (ek_base _ _) (good_70 N)) (good_43 N)
def L_71 {R : Type} (N : Nat) : Loops R := LG_71
theorem lok_71 {R : Type} (N : Nat) : LOK 0 TT (E_71 (R := R) N) (drawOk TT QQ) (L_71 N) (bodyOf Try.f71) := loops_nil (by kernel_rfl)
theorem grun_71 {R : Type} (q_70 : Tp_70 R) (q_43 : Tp_43 R) (x : aden ap_71 × hden hp_71) (k : KF R) : fnrun TT (EG_71 q_70 q_43) (drawOk TT QQ) (LG_71) true Try.f71 (instA ap_71 x.1) (instH hp_71 x.2) k = Q_71 q_70 q_43 x (fun y => k (Pat.inst (.vec (.int .u64) 128) y) (instH hp_71 x.2)) := by kernel_rfl
theorem run_71 {R : Type} (N : Nat) (x : aden ap_71 × hden hp_71) (k : KF R) : fnrun TT (E_71 (R := R) N) (drawOk TT QQ) (L_71 N) true Try.f71 (instA ap_71 x.1) (instH hp_71 x.2) k = p_71 N x (fun y => k (Pat.inst (.vec (.int .u64) 128) y) (instH hp_71 x.2)) := (grun_71 (p_70 N) (p_43 N) x k).trans (by kernel_rfl)
theorem good_71 {R : Type} (N : Nat) : GD (X := R) Try.prog QQ 71 ap_71 hp_71 (fun (x : aden ap_71 × hden hp_71) k => p_71 N x (fun y => k (Pat.inst (.vec (.int .u64) 128) y) (instH hp_71 x.2))) :=
  gd_quiet (E := E_71 N) (p := fun (x : aden ap_71 × hden hp_71) κ => p_71 N x (fun y => κ (Pat.inst (.vec (.int .u64) 128) y))) mixed tyok (eok_71 N) Try.func71 (by kernel_rfl) (by kernel_rfl) (lok_71 N) (fun x k => run_71 N x k)

def ap_79 : List Pat := [.int .u64]
def hp_79 : List (Option (Pat × Nat)) := []
def p_79 {R : Type} (N : Nat) (x : (Int × Unit) × (Unit)) (κ0 : (Int × (Int × Unit)) → Option R) : Option R :=
let i452 : Int := x.1.1
let i453 : Int := IntKind.wrap .u32 i452
let i454 : Int := shrA .u64 i452 32
let i455 : Int := IntKind.wrap .u32 i454
κ0 ((i453, (i455, ())))

abbrev Tp_79 (R : Type) : Type := (Int × Unit) × (Unit) → ((Int × (Int × Unit)) → Option R) → Option R
def Q_79 {R : Type} (x : (Int × Unit) × (Unit)) (κ0 : (Int × (Int × Unit)) → Option R) : Option R :=
let i452 : Int := x.1.1
let i453 : Int := IntKind.wrap .u32 i452
let i454 : Int := shrA .u64 i452 32
let i455 : Int := IntKind.wrap .u32 i454
κ0 ((i453, (i455, ())))
def EG_79 {R : Type} : Env R := Env.base QQ LN
def LG_79 {R : Type} : Loops R := Loops.none
def E_79 {R : Type} (N : Nat) : Env R := EG_79
theorem eok_79 {R : Type} (N : Nat) : EK Try.prog (E_79 (R := R) N) := ek_base _ _
def L_79 {R : Type} (N : Nat) : Loops R := LG_79
theorem lok_79 {R : Type} (N : Nat) : LOK 0 TT (E_79 (R := R) N) (drawOk TT QQ) (L_79 N) (bodyOf Try.f79) := loops_nil (by kernel_rfl)
theorem grun_79 {R : Type} (x : aden ap_79 × hden hp_79) (k : KF R) : fnrun TT (EG_79) (drawOk TT QQ) (LG_79) true Try.f79 (instA ap_79 x.1) (instH hp_79 x.2) k = Q_79 x (fun y => k (Pat.inst (.tup (.fcons (.int .u32) (.fcons (.int .u32) (.fnil)))) y) (instH hp_79 x.2)) := by kernel_rfl
theorem run_79 {R : Type} (N : Nat) (x : aden ap_79 × hden hp_79) (k : KF R) : fnrun TT (E_79 (R := R) N) (drawOk TT QQ) (L_79 N) true Try.f79 (instA ap_79 x.1) (instH hp_79 x.2) k = p_79 N x (fun y => k (Pat.inst (.tup (.fcons (.int .u32) (.fcons (.int .u32) (.fnil)))) y) (instH hp_79 x.2)) := (grun_79 x k).trans (by kernel_rfl)
theorem good_79 {R : Type} (N : Nat) : GD (X := R) Try.prog QQ 79 ap_79 hp_79 (fun (x : aden ap_79 × hden hp_79) k => p_79 N x (fun y => k (Pat.inst (.tup (.fcons (.int .u32) (.fcons (.int .u32) (.fnil)))) y) (instH hp_79 x.2))) :=
  gd_quiet (E := E_79 N) (p := fun (x : aden ap_79 × hden hp_79) κ => p_79 N x (fun y => κ (Pat.inst (.tup (.fcons (.int .u32) (.fcons (.int .u32) (.fnil)))) y))) mixed tyok (eok_79 N) Try.func79 (by kernel_rfl) (by kernel_rfl) (lok_79 N) (fun x k => run_79 N x k)

def ap_75_v1 : List Pat := [.ptr 0 [], .int .i64]
def hp_75_v1 : List (Option (Pat × Nat)) := [some (.node (.fcons (.node (.fcons (.int .i64) (.fcons (.int .i64) (.fcons (.int .i64) (.fcons (.int .i64) (.fcons (.int .i64) (.fcons (.int .i64) (.fcons (.int .i64) (.fcons (.int .i64) (.fnil)))))))))) (.fcons (.node (.fcons (.int .i64) (.fcons (.int .i64) (.fnil)))) (.fcons (.int .i64) (.fcons (.int .i64) (.fcons (.vec (.int .u64) 128) (.fnil)))))), 169)]
def p_75_v1 {R : Type} (N : Nat) (x : (Unit × Int × Unit) × (((Int × (Int × (Int × (Int × (Int × (Int × (Int × (Int × Unit)))))))) × ((Int × (Int × Unit)) × (Int × (Int × ((Nat → Int) × Unit))))) × Unit)) (κ0 : ((Int × (Int × Unit)) × (((Int × (Int × (Int × (Int × (Int × (Int × (Int × (Int × Unit)))))))) × ((Int × (Int × Unit)) × (Int × (Int × ((Nat → Int) × Unit))))) × Unit)) → Option R) : Option R :=
let i157 : Int := x.1.2.1
let i158 : Int := x.2.1.1.1
let i159 : Int := x.2.1.1.2.1
let i160 : Int := x.2.1.1.2.2.1
let i161 : Int := x.2.1.1.2.2.2.1
let i162 : Int := x.2.1.1.2.2.2.2.1
let i163 : Int := x.2.1.1.2.2.2.2.2.1
let i164 : Int := x.2.1.1.2.2.2.2.2.2.1
let i165 : Int := x.2.1.1.2.2.2.2.2.2.2.1
let i166 : Int := x.2.1.2.1.1
let i167 : Int := x.2.1.2.1.2.1
let i168 : Int := x.2.1.2.2.1
let i169 : Int := x.2.1.2.2.2.1
let a170 : (Nat → Int) := x.2.1.2.2.2.2.1
bif (decide (i157 < 0)) then (
κ0 ((0, (0, ())), (((i158, (i159, (i160, (i161, (i162, (i163, (i164, (i165, ())))))))), ((i166, (i167, ())), (i168, (i169, (a170, ()))))), ()))) else (
let i171 : Int := quoA .i64 i157 128
let i172 : Int := addA .i64 i171 1
bif (i172 != i169) then (
p_71 N (((i158, (i159, (i160, (i161, (i162, (i163, (i164, (i165, ())))))))), (i166, (i167, ())), i168, i172, ()), ()) (fun y448 =>
let a449 : (Nat → Int) := y448
let i450 : Int := remA .i64 i157 128
bif decide (0 ≤ i450) then (
bif decide (i450 < (128 : Int)) then (
let i451 : Int := (a449 ((Int.toNat i450)))
p_79 N ((i451, ()), ()) (fun y456 =>
let i457 : Int := y456.1
let i458 : Int := y456.2.1
κ0 ((i457, (i458, ())), (((i158, (i159, (i160, (i161, (i162, (i163, (i164, (i165, ())))))))), ((i166, (i167, ())), (i168, (i172, (a449, ()))))), ())))) else none) else none)) else (
let i459 : Int := remA .i64 i157 128
bif decide (0 ≤ i459) then (
bif decide (i459 < (128 : Int)) then (
let i460 : Int := (a170 ((Int.toNat i459)))
p_79 N ((i460, ()), ()) (fun y461 =>
let i462 : Int := y461.1
let i463 : Int := y461.2.1
κ0 ((i462, (i463, ())), (((i158, (i159, (i160, (i161, (i162, (i163, (i164, (i165, ())))))))), ((i166, (i167, ())), (i168, (i169, (a170, ()))))), ())))) else none) else none))

abbrev Tp_75_v1 (R : Type) : Type := (Unit × Int × Unit) × (((Int × (Int × (Int × (Int × (Int × (Int × (Int × (Int × Unit)))))))) × ((Int × (Int × Unit)) × (Int × (Int × ((Nat → Int) × Unit))))) × Unit) → (((Int × (Int × Unit)) × (((Int × (Int × (Int × (Int × (Int × (Int × (Int × (Int × Unit)))))))) × ((Int × (Int × Unit)) × (Int × (Int × ((Nat → Int) × Unit))))) × Unit)) → Option R) → Option R
def Q_75_v1 {R : Type} (q_71 : Tp_71 R) (q_79 : Tp_79 R) (x : (Unit × Int × Unit) × (((Int × (Int × (Int × (Int × (Int × (Int × (Int × (Int × Unit)))))))) × ((Int × (Int × Unit)) × (Int × (Int × ((Nat → Int) × Unit))))) × Unit)) (κ0 : ((Int × (Int × Unit)) × (((Int × (Int × (Int × (Int × (Int × (Int × (Int × (Int × Unit)))))))) × ((Int × (Int × Unit)) × (Int × (Int × ((Nat → Int) × Unit))))) × Unit)) → Option R) : Option R :=
let i157 : Int := x.1.2.1
let i158 : Int := x.2.1.1.1
let i159 : Int := x.2.1.1.2.1
let i160 : Int := x.2.1.1.2.2.1
let i161 : Int := x.2.1.1.2.2.2.1
let i162 : Int := x.2.1.1.2.2.2.2.1
let i163 : Int := x.2.1.1.2.2.2.2.2.1
let i164 : Int := x.2.1.1.2.2.2.2.2.2.1
let i165 : Int := x.2.1.1.2.2.2.2.2.2.2.1
let i166 : Int := x.2.1.2.1.1
let i167 : Int := x.2.1.2.1.2.1
let i168 : Int := x.2.1.2.2.1
let i169 : Int := x.2.1.2.2.2.1
let a170 : (Nat → Int) := x.2.1.2.2.2.2.1
bif (decide (i157 < 0)) then (
κ0 ((0, (0, ())), (((i158, (i159, (i160, (i161, (i162, (i163, (i164, (i165, ())))))))), ((i166, (i167, ())), (i168, (i169, (a170, ()))))), ()))) else (
let i171 : Int := quoA .i64 i157 128
let i172 : Int := addA .i64 i171 1
bif (i172 != i169) then (
q_71 (((i158, (i159, (i160, (i161, (i162, (i163, (i164, (i165, ())))))))), (i166, (i167, ())), i168, i172, ()), ()) (fun y448 =>
let a449 : (Nat → Int) := y448
let i450 : Int := remA .i64 i157 128
bif decide (0 ≤ i450) then (
bif decide (i450 < (128 : Int)) then (
let i451 : Int := (a449 ((Int.toNat i450)))
q_79 ((i451, ()), ()) (fun y456 =>
let i457 : Int := y456.1
let i458 : Int := y456.2.1
κ0 ((i457, (i458, ())), (((i158, (i159, (i160, (i161, (i162, (i163, (i164, (i165, ())))))))), ((i166, (i167, ())), (i168, (i172, (a449, ()))))), ())))) else none) else none)) else (
let i459 : Int := remA .i64 i157 128
bif decide (0 ≤ i459) then (
bif decide (i459 < (128 : Int)) then (
let i460 : Int := (a170 ((Int.toNat i459)))
q_79 ((i460, ()), ()) (fun y461 =>
let i462 : Int := y461.1
let i463 : Int := y461.2.1
κ0 ((i462, (i463, ())), (((i158, (i159, (i160, (i161, (i162, (i163, (i164, (i165, ())))))))), ((i166, (i167, ())), (i168, (i169, (a170, ()))))), ())))) else none) else none))
def EG_75_v1 {R : Type} (q_71 : Tp_71 R) (q_79 : Tp_79 R) : Env R := ((Env.base QQ LN).add 71 ap_71 hp_71 (fun (x : aden ap_71 × hden hp_71) k => q_71 x (fun y => k (Pat.inst (.vec (.int .u64) 128) y) (instH hp_71 x.2)))).add 79 ap_79 hp_79 (fun (x : aden ap_79 × hden hp_79) k => q_79 x (fun y => k (Pat.inst (.tup (.fcons (.int .u32) (.fcons (.int .u32) (.fnil)))) y) (instH hp_79 x.2)))
def LG_75_v1 {R : Type} : Loops R := Loops.none
def E_75_v1 {R : Type} (N : Nat) : Env R := EG_75_v1 (p_71 N) (p_79 N)
theorem eok_75_v1 {R : Type} (N : Nat) : EK Try.prog (E_75_v1 (R := R) N) := ek_add (ek_add (ek_base _ _) (good_71 N)) (good_79 N)
def L_75_v1 {R : Type} (N : Nat) : Loops R := LG_75_v1
theorem lok_75_v1 {R : Type} (N : Nat) : LOK 1 TT (E_75_v1 (R := R) N) (drawOk TT QQ) (L_75_v1 N) (bodyOf Try.f75) := loops_nil (by kernel_rfl)
theorem grun_75_v1 {R : Type} (q_71 : Tp_71 R) (q_79 : Tp_79 R) (x : aden ap_75_v1 × hden hp_75_v1) (k : KF R) : fnrun TT (EG_75_v1 q_71 q_79) (drawOk TT QQ) (LG_75_v1) true Try.f75 (instA ap_75_v1 x.1) (instH hp_75_v1 x.2) k = Q_75_v1 q_71 q_79 x (fun y => k (Pat.inst (.tup (.fcons (.int .u32) (.fcons (.int .u32) (.fnil)))) y.1) (instH [some (.node (.fcons (.node (.fcons (.int .i64) (.fcons (.int .i64) (.fcons (.int .i64) (.fcons (.int .i64) (.fcons (.int .i64) (.fcons (.int .i64) (.fcons (.int .i64) (.fcons (.int .i64) (.fnil)))))))))) (.fcons (.node (.fcons (.int .i64) (.fcons (.int .i64) (.fnil)))) (.fcons (.int .i64) (.fcons (.int .i64) (.fcons (.vec (.int .u64) 128) (.fnil)))))), 169)] y.2)) := by kernel_rfl
theorem run_75_v1 {R : Type} (N : Nat) (x : aden ap_75_v1 × hden hp_75_v1) (k : KF R) : fnrun TT (E_75_v1 (R := R) N) (drawOk TT QQ) (L_75_v1 N) true Try.f75 (instA ap_75_v1 x.1) (instH hp_75_v1 x.2) k = p_75_v1 N x (fun y => k (Pat.inst (.tup (.fcons (.int .u32) (.fcons (.int .u32) (.fnil)))) y.1) (instH [some (.node (.fcons (.node (.fcons (.int .i64) (.fcons (.int .i64) (.fcons (.int .i64) (.fcons (.int .i64) (.fcons (.int .i64) (.fcons (.int .i64) (.fcons (.int .i64) (.fcons (.int .i64) (.fnil)))))))))) (.fcons (.node (.fcons (.int .i64) (.fcons (.int .i64) (.fnil)))) (.fcons (.int .i64) (.fcons (.int .i64) (.fcons (.vec (.int .u64) 128) (.fnil)))))), 169)] y.2)) := (grun_75_v1 (p_71 N) (p_79 N) x k).trans (by kernel_rfl)
theorem good_75_v1 {R : Type} (N : Nat) : GD (X := R) Try.prog QQ 75 ap_75_v1 hp_75_v1 (fun (x : aden ap_75_v1 × hden hp_75_v1) k => p_75_v1 N x (fun y => k (Pat.inst (.tup (.fcons (.int .u32) (.fcons (.int .u32) (.fnil)))) y.1) (instH [some (.node (.fcons (.node (.fcons (.int .i64) (.fcons (.int .i64) (.fcons (.int .i64) (.fcons (.int .i64) (.fcons (.int .i64) (.fcons (.int .i64) (.fcons (.int .i64) (.fcons (.int .i64) (.fnil)))))))))) (.fcons (.node (.fcons (.int .i64) (.fcons (.int .i64) (.fnil)))) (.fcons (.int .i64) (.fcons (.int .i64) (.fcons (.vec (.int .u64) 128) (.fnil)))))), 169)] y.2))) :=
  gd_loud (E := E_75_v1 N) (p := fun (x : aden ap_75_v1 × hden hp_75_v1) k => p_75_v1 N x (fun y => k (Pat.inst (.tup (.fcons (.int .u32) (.fcons (.int .u32) (.fnil)))) y.1) (instH [some (.node (.fcons (.node (.fcons (.int .i64) (.fcons (.int .i64) (.fcons (.int .i64) (.fcons (.int .i64) (.fcons (.int .i64) (.fcons (.int .i64) (.fcons (.int .i64) (.fcons (.int .i64) (.fnil)))))))))) (.fcons (.node (.fcons (.int .i64) (.fcons (.int .i64) (.fnil)))) (.fcons (.int .i64) (.fcons (.int .i64) (.fcons (.vec (.int .u64) 128) (.fnil)))))), 169)] y.2))) mixed tyok (eok_75_v1 N) Try.func75 (by kernel_rfl) (by kernel_rfl) (by kernel_rfl) (lok_75_v1 N) (fun x k => run_75_v1 N x k)

def ap_76_v1 : List Pat := [.ptr 0 []]
def hp_76_v1 : List (Option (Pat × Nat)) := [some (.node (.fcons (.node (.fcons (.int .i64) (.fcons (.int .i64) (.fcons (.int .i64) (.fcons (.int .i64) (.fcons (.int .i64) (.fcons (.int .i64) (.fcons (.int .i64) (.fcons (.int .i64) (.fnil)))))))))) (.fcons (.node (.fcons (.int .i64) (.fcons (.int .i64) (.fnil)))) (.fcons (.int .i64) (.fcons (.int .i64) (.fcons (.vec (.int .u64) 128) (.fnil)))))), 169)]
def p_76_v1 {R : Type} (N : Nat) (x : (Unit × Unit) × (((Int × (Int × (Int × (Int × (Int × (Int × (Int × (Int × Unit)))))))) × ((Int × (Int × Unit)) × (Int × (Int × ((Nat → Int) × Unit))))) × Unit)) (κ0 : Int → Option R) : Option R :=
let i480 : Int := x.2.1.1.1
let i481 : Int := x.2.1.1.2.1
let i482 : Int := x.2.1.1.2.2.1
let i483 : Int := x.2.1.1.2.2.2.1
let i484 : Int := x.2.1.1.2.2.2.2.1
let i485 : Int := x.2.1.1.2.2.2.2.2.1
let i486 : Int := x.2.1.1.2.2.2.2.2.2.1
let i487 : Int := x.2.1.1.2.2.2.2.2.2.2.1
let i488 : Int := x.2.1.2.1.1
let i489 : Int := x.2.1.2.1.2.1
let i490 : Int := x.2.1.2.2.1
let i491 : Int := x.2.1.2.2.2.1
let a492 : (Nat → Int) := x.2.1.2.2.2.2.1
κ0 i491

abbrev Tp_76_v1 (R : Type) : Type := (Unit × Unit) × (((Int × (Int × (Int × (Int × (Int × (Int × (Int × (Int × Unit)))))))) × ((Int × (Int × Unit)) × (Int × (Int × ((Nat → Int) × Unit))))) × Unit) → (Int → Option R) → Option R
def Q_76_v1 {R : Type} (x : (Unit × Unit) × (((Int × (Int × (Int × (Int × (Int × (Int × (Int × (Int × Unit)))))))) × ((Int × (Int × Unit)) × (Int × (Int × ((Nat → Int) × Unit))))) × Unit)) (κ0 : Int → Option R) : Option R :=
let i480 : Int := x.2.1.1.1
let i481 : Int := x.2.1.1.2.1
let i482 : Int := x.2.1.1.2.2.1
let i483 : Int := x.2.1.1.2.2.2.1
let i484 : Int := x.2.1.1.2.2.2.2.1
let i485 : Int := x.2.1.1.2.2.2.2.2.1
let i486 : Int := x.2.1.1.2.2.2.2.2.2.1
let i487 : Int := x.2.1.1.2.2.2.2.2.2.2.1
let i488 : Int := x.2.1.2.1.1
let i489 : Int := x.2.1.2.1.2.1
let i490 : Int := x.2.1.2.2.1
let i491 : Int := x.2.1.2.2.2.1
let a492 : (Nat → Int) := x.2.1.2.2.2.2.1
κ0 i491
def EG_76_v1 {R : Type} : Env R := Env.base QQ LN
def LG_76_v1 {R : Type} : Loops R := Loops.none
def E_76_v1 {R : Type} (N : Nat) : Env R := EG_76_v1
theorem eok_76_v1 {R : Type} (N : Nat) : EK Try.prog (E_76_v1 (R := R) N) := ek_base _ _
def L_76_v1 {R : Type} (N : Nat) : Loops R := LG_76_v1
theorem lok_76_v1 {R : Type} (N : Nat) : LOK 1 TT (E_76_v1 (R := R) N) (drawOk TT QQ) (L_76_v1 N) (bodyOf Try.f76) := loops_nil (by kernel_rfl)
theorem grun_76_v1 {R : Type} (x : aden ap_76_v1 × hden hp_76_v1) (k : KF R) : fnrun TT (EG_76_v1) (drawOk TT QQ) (LG_76_v1) true Try.f76 (instA ap_76_v1 x.1) (instH hp_76_v1 x.2) k = Q_76_v1 x (fun y => k (Pat.inst (.int .i64) y) (instH hp_76_v1 x.2)) := by kernel_rfl
theorem run_76_v1 {R : Type} (N : Nat) (x : aden ap_76_v1 × hden hp_76_v1) (k : KF R) : fnrun TT (E_76_v1 (R := R) N) (drawOk TT QQ) (L_76_v1 N) true Try.f76 (instA ap_76_v1 x.1) (instH hp_76_v1 x.2) k = p_76_v1 N x (fun y => k (Pat.inst (.int .i64) y) (instH hp_76_v1 x.2)) := (grun_76_v1 x k).trans (by kernel_rfl)
theorem good_76_v1 {R : Type} (N : Nat) : GD (X := R) Try.prog QQ 76 ap_76_v1 hp_76_v1 (fun (x : aden ap_76_v1 × hden hp_76_v1) k => p_76_v1 N x (fun y => k (Pat.inst (.int .i64) y) (instH hp_76_v1 x.2))) :=
  gd_quiet (E := E_76_v1 N) (p := fun (x : aden ap_76_v1 × hden hp_76_v1) κ => p_76_v1 N x (fun y => κ (Pat.inst (.int .i64) y))) mixed tyok (eok_76_v1 N) Try.func76 (by kernel_rfl) (by kernel_rfl) (lok_76_v1 N) (fun x k => run_76_v1 N x k)

def lv_47_6 : Live := [(0, none), (2, none), (3, none), (4, none), (5, none)]
def pt_47_6 : SPat := ⟨[(0, .ros (.arr 128 (.int .u64))), (2, .ptr 0 []), (3, .ptr 1 []), (4, .int .i64), (5, .int .i64)], [some (.vec (.int .u64) 128, 70), some (.vec (.int .u64) 128, 70)]⟩
def px_47_6_0 : SPat := ⟨[(0, .ros (.arr 128 (.int .u64))), (2, .ptr 0 []), (3, .ptr 1 []), (4, .int .i64)], [some (.vec (.int .u64) 128, 70), some (.vec (.int .u64) 128, 70)]⟩
def lo_47_6 : Exit → Live
  | .exit 2 => [(0, none), (2, none), (3, none), (4, none)]
  | _ => []
def B_47_6 {R : Type} (N : Nat) (rec : (((List (Nat → Int)) × Unit × Unit × Int × Int × Unit) × ((Nat → Int) × (Nat → Int) × Unit)) → Option R) (x : (((List (Nat → Int)) × Unit × Unit × Int × Int × Unit) × ((Nat → Int) × (Nat → Int) × Unit))) (κ0 : (((List (Nat → Int)) × Unit × Unit × Int × Unit) × ((Nat → Int) × (Nat → Int) × Unit)) → Option R) : Option R :=
let l547 : (List (Nat → Int)) := x.1.1
let i548 : Int := x.1.2.2.2.1
let i549 : Int := x.1.2.2.2.2.1
let a550 : (Nat → Int) := x.2.1
let a551 : (Nat → Int) := x.2.2.1
let i552 : Int := (((List.length l547) : Nat) : Int)
bif (decide (i549 < i552)) then (
bif decide (0 ≤ i548) then (
bif decide (i548 < (128 : Int)) then (
let i553 : Int := (a551 ((Int.toNat i548)))
bif decide (0 ≤ i549) then (
bif decide (i549 < ((List.length l547) : Int)) then (
let p554 : (Nat → Int) := (List.getD l547 ((Int.toNat i549)) (Sch.zero (.arr 128 (.int .u64))))
bif decide (0 ≤ i548) then (
bif decide (i548 < (128 : Int)) then (
let i555 : Int := (p554 ((Int.toNat i548)))
let i556 : Int := xorA .u64 i553 i555
bif decide (0 ≤ i548) then (
bif decide (i548 < (128 : Int)) then (
let a557 : (Nat → Int) := (upd a551 ((Int.toNat i548)) i556)
let i558 : Int := addA .i64 i549 1
rec ((l547, (), (), i548, i558, ()), (a550, a557, ()))) else none) else none) else none) else none) else none) else none) else none) else none) else (
κ0 ((l547, (), (), i548, ()), (a550, a551, ())))
def l_47_6 {R : Type} (N : Nat) : Nat → (((List (Nat → Int)) × Unit × Unit × Int × Int × Unit) × ((Nat → Int) × (Nat → Int) × Unit)) → ((((List (Nat → Int)) × Unit × Unit × Int × Unit) × ((Nat → Int) × (Nat → Int) × Unit)) → Option R) → Option R
  | 0, _, _ => none
  | n + 1, x, κ0 => B_47_6 N (fun y => l_47_6 N n y κ0) x κ0
def lv_47_3 : Live := [(0, none), (2, none), (3, none), (4, none)]
def pt_47_3 : SPat := ⟨[(0, .ros (.arr 128 (.int .u64))), (2, .ptr 0 []), (3, .ptr 1 []), (4, .int .i64)], [some (.vec (.int .u64) 128, 70), some (.vec (.int .u64) 128, 70)]⟩
def px_47_3_0 : SPat := ⟨[(2, .ptr 0 []), (3, .ptr 1 [])], [some (.vec (.int .u64) 128, 70), some (.vec (.int .u64) 128, 70)]⟩
def lo_47_3 : Exit → Live
  | .exit 0 => [(2, none), (3, none)]
  | _ => []
def B_47_3 {R : Type} (N : Nat) (rec : (((List (Nat → Int)) × Unit × Unit × Int × Unit) × ((Nat → Int) × (Nat → Int) × Unit)) → Option R) (x : (((List (Nat → Int)) × Unit × Unit × Int × Unit) × ((Nat → Int) × (Nat → Int) × Unit))) (κ0 : ((Unit × Unit × Unit) × ((Nat → Int) × (Nat → Int) × Unit)) → Option R) : Option R :=
let l543 : (List (Nat → Int)) := x.1.1
let i544 : Int := x.1.2.2.2.1
let a545 : (Nat → Int) := x.2.1
let a546 : (Nat → Int) := x.2.2.1
bif (decide (i544 < 128)) then (
l_47_6 N N ((l543, (), (), i544, 0, ()), (a545, a546, ())) (fun y559 =>
let l560 : (List (Nat → Int)) := y559.1.1
let i561 : Int := y559.1.2.2.2.1
let a562 : (Nat → Int) := y559.2.1
let a563 : (Nat → Int) := y559.2.2.1
let i564 : Int := addA .i64 i561 1
rec ((l560, (), (), i564, ()), (a562, a563, ())))) else (
κ0 (((), (), ()), (a545, a546, ())))
def l_47_3 {R : Type} (N : Nat) : Nat → (((List (Nat → Int)) × Unit × Unit × Int × Unit) × ((Nat → Int) × (Nat → Int) × Unit)) → (((Unit × Unit × Unit) × ((Nat → Int) × (Nat → Int) × Unit)) → Option R) → Option R
  | 0, _, _ => none
  | n + 1, x, κ0 => B_47_3 N (fun y => l_47_3 N n y κ0) x κ0
def ap_47 : List Pat := [.ros (.arr 128 (.int .u64))]
def hp_47 : List (Option (Pat × Nat)) := []
def p_47 {R : Type} (N : Nat) (x : ((List (Nat → Int)) × Unit) × (Unit)) (κ0 : (Nat → Int) → Option R) : Option R :=
let l542 : (List (Nat → Int)) := x.1.1
l_47_3 N N ((l542, (), (), 0, ()), ((Sch.zero (.arr 128 (.int .u64))), (Sch.zero (.arr 128 (.int .u64))), ())) (fun y565 =>
let a566 : (Nat → Int) := y565.2.1
let a567 : (Nat → Int) := y565.2.2.1
κ0 a567)

abbrev Tl_47_6 (R : Type) : Type := (((List (Nat → Int)) × Unit × Unit × Int × Int × Unit) × ((Nat → Int) × (Nat → Int) × Unit)) → ((((List (Nat → Int)) × Unit × Unit × Int × Unit) × ((Nat → Int) × (Nat → Int) × Unit)) → Option R) → Option R
abbrev Tl_47_3 (R : Type) : Type := (((List (Nat → Int)) × Unit × Unit × Int × Unit) × ((Nat → Int) × (Nat → Int) × Unit)) → (((Unit × Unit × Unit) × ((Nat → Int) × (Nat → Int) × Unit)) → Option R) → Option R
abbrev Tp_47 (R : Type) : Type := ((List (Nat → Int)) × Unit) × (Unit) → ((Nat → Int) → Option R) → Option R
def Q_47 {R : Type} (m_47_6 : Tl_47_6 R) (m_47_3 : Tl_47_3 R) (x : ((List (Nat → Int)) × Unit) × (Unit)) (κ0 : (Nat → Int) → Option R) : Option R :=
let l542 : (List (Nat → Int)) := x.1.1
m_47_3 ((l542, (), (), 0, ()), ((Sch.zero (.arr 128 (.int .u64))), (Sch.zero (.arr 128 (.int .u64))), ())) (fun y565 =>
let a566 : (Nat → Int) := y565.2.1
let a567 : (Nat → Int) := y565.2.2.1
κ0 a567)
def C_47_6 {R : Type} (m_47_6 : Tl_47_6 R) (m_47_3 : Tl_47_3 R) (rec : (((List (Nat → Int)) × Unit × Unit × Int × Int × Unit) × ((Nat → Int) × (Nat → Int) × Unit)) → Option R) (x : (((List (Nat → Int)) × Unit × Unit × Int × Int × Unit) × ((Nat → Int) × (Nat → Int) × Unit))) (κ0 : (((List (Nat → Int)) × Unit × Unit × Int × Unit) × ((Nat → Int) × (Nat → Int) × Unit)) → Option R) : Option R :=
let l547 : (List (Nat → Int)) := x.1.1
let i548 : Int := x.1.2.2.2.1
let i549 : Int := x.1.2.2.2.2.1
let a550 : (Nat → Int) := x.2.1
let a551 : (Nat → Int) := x.2.2.1
let i552 : Int := (((List.length l547) : Nat) : Int)
bif (decide (i549 < i552)) then (
bif decide (0 ≤ i548) then (
bif decide (i548 < (128 : Int)) then (
let i553 : Int := (a551 ((Int.toNat i548)))
bif decide (0 ≤ i549) then (
bif decide (i549 < ((List.length l547) : Int)) then (
let p554 : (Nat → Int) := (List.getD l547 ((Int.toNat i549)) (Sch.zero (.arr 128 (.int .u64))))
bif decide (0 ≤ i548) then (
bif decide (i548 < (128 : Int)) then (
let i555 : Int := (p554 ((Int.toNat i548)))
let i556 : Int := xorA .u64 i553 i555
bif decide (0 ≤ i548) then (
bif decide (i548 < (128 : Int)) then (
let a557 : (Nat → Int) := (upd a551 ((Int.toNat i548)) i556)
let i558 : Int := addA .i64 i549 1
rec ((l547, (), (), i548, i558, ()), (a550, a557, ()))) else none) else none) else none) else none) else none) else none) else none) else none) else (
κ0 ((l547, (), (), i548, ()), (a550, a551, ())))
def C_47_3 {R : Type} (m_47_6 : Tl_47_6 R) (m_47_3 : Tl_47_3 R) (rec : (((List (Nat → Int)) × Unit × Unit × Int × Unit) × ((Nat → Int) × (Nat → Int) × Unit)) → Option R) (x : (((List (Nat → Int)) × Unit × Unit × Int × Unit) × ((Nat → Int) × (Nat → Int) × Unit))) (κ0 : ((Unit × Unit × Unit) × ((Nat → Int) × (Nat → Int) × Unit)) → Option R) : Option R :=
let l543 : (List (Nat → Int)) := x.1.1
let i544 : Int := x.1.2.2.2.1
let a545 : (Nat → Int) := x.2.1
let a546 : (Nat → Int) := x.2.2.1
bif (decide (i544 < 128)) then (
m_47_6 ((l543, (), (), i544, 0, ()), (a545, a546, ())) (fun y559 =>
let l560 : (List (Nat → Int)) := y559.1.1
let i561 : Int := y559.1.2.2.2.1
let a562 : (Nat → Int) := y559.2.1
let a563 : (Nat → Int) := y559.2.2.1
let i564 : Int := addA .i64 i561 1
rec ((l560, (), (), i564, ()), (a562, a563, ())))) else (
κ0 (((), (), ()), (a545, a546, ())))
def EG_47 {R : Type} : Env R := Env.base QQ LN
def LG_47 {R : Type} (m_47_6 : Tl_47_6 R) (m_47_3 : Tl_47_3 R) : Loops R := ((Loops.none).add 6 (loopBy 0 lv_47_6 pt_47_6 (fun x k => m_47_6 x (fun y => k (.exit 2) (px_47_6_0.inst y))))).add 3 (loopBy 0 lv_47_3 pt_47_3 (fun x k => m_47_3 x (fun y => k (.exit 0) (px_47_3_0.inst y))))
def E_47 {R : Type} (N : Nat) : Env R := EG_47
theorem eok_47 {R : Type} (N : Nat) : EK Try.prog (E_47 (R := R) N) := ek_base _ _
def L_47 {R : Type} (N : Nat) : Loops R := LG_47 (l_47_6 N N) (l_47_3 N N)
theorem gstep_47_6 {R : Type} (m_47_6 : Tl_47_6 R) (m_47_3 : Tl_47_3 R) (n : Nat) (x : pt_47_6.den) (k : Exit → St → Option R) : iter 0 lv_47_6 lo_47_6 (aexec TT (EG_47) (drawOk TT QQ) (LG_47 m_47_6 m_47_3) (loopAt 6 (bodyOf Try.f47))) (n + 1) (pt_47_6.inst x) k = C_47_6 m_47_6 m_47_3 (fun y => iter 0 lv_47_6 lo_47_6 (aexec TT (EG_47) (drawOk TT QQ) (LG_47 m_47_6 m_47_3) (loopAt 6 (bodyOf Try.f47))) n (pt_47_6.inst y) k) x (fun y => k (.exit 2) (px_47_6_0.inst y)) := by kernel_rfl
theorem step_47_6 {R : Type} (N n : Nat) (x : pt_47_6.den) (k : Exit → St → Option R) : iter 0 lv_47_6 lo_47_6 (aexec TT (E_47 (R := R) N) (drawOk TT QQ) (L_47 N) (loopAt 6 (bodyOf Try.f47))) (n + 1) (pt_47_6.inst x) k = B_47_6 N (fun y => iter 0 lv_47_6 lo_47_6 (aexec TT (E_47 (R := R) N) (drawOk TT QQ) (L_47 N) (loopAt 6 (bodyOf Try.f47))) n (pt_47_6.inst y) k) x (fun y => k (.exit 2) (px_47_6_0.inst y)) := (gstep_47_6 (l_47_6 N N) (l_47_3 N N) n x k).trans (by kernel_rfl)
theorem eq_47_6 {R : Type} (N : Nat) : ∀ (n : Nat) (x : pt_47_6.den) (k : Exit → St → Option R), iter 0 lv_47_6 lo_47_6 (aexec TT (E_47 (R := R) N) (drawOk TT QQ) (L_47 N) (loopAt 6 (bodyOf Try.f47))) n (pt_47_6.inst x) k = l_47_6 N n x (fun y => k (.exit 2) (px_47_6_0.inst y)) :=
  iter_eq (K := Exit → St → Option R) (ks := fun k => k) (l := fun n (x : pt_47_6.den) k => l_47_6 N n x (fun y => k (.exit 2) (px_47_6_0.inst y))) (B := fun (rec : pt_47_6.den → Option R) (x : pt_47_6.den) k => B_47_6 N rec x (fun y => k (.exit 2) (px_47_6_0.inst y))) (fun _ _ => rfl) (fun _ _ _ => rfl) (fun n x k => step_47_6 N n x k)
theorem rounds_47_6 {R : Type} (N : Nat) : Rounds 0 TT (E_47 (R := R) N) (drawOk TT QQ) (L_47 N) 6 (loopAt 6 (bodyOf Try.f47)) :=
  rounds_of (p := pt_47_6) (l := fun (x : pt_47_6.den) k => l_47_6 N N x (fun y => k (.exit 2) (px_47_6_0.inst y))) (fun s k => rfl) (fun x k => eq_47_6 N N x k)
theorem gstep_47_3 {R : Type} (m_47_6 : Tl_47_6 R) (m_47_3 : Tl_47_3 R) (n : Nat) (x : pt_47_3.den) (k : Exit → St → Option R) : iter 0 lv_47_3 lo_47_3 (aexec TT (EG_47) (drawOk TT QQ) (LG_47 m_47_6 m_47_3) (loopAt 3 (bodyOf Try.f47))) (n + 1) (pt_47_3.inst x) k = C_47_3 m_47_6 m_47_3 (fun y => iter 0 lv_47_3 lo_47_3 (aexec TT (EG_47) (drawOk TT QQ) (LG_47 m_47_6 m_47_3) (loopAt 3 (bodyOf Try.f47))) n (pt_47_3.inst y) k) x (fun y => k (.exit 0) (px_47_3_0.inst y)) := by kernel_rfl
theorem step_47_3 {R : Type} (N n : Nat) (x : pt_47_3.den) (k : Exit → St → Option R) : iter 0 lv_47_3 lo_47_3 (aexec TT (E_47 (R := R) N) (drawOk TT QQ) (L_47 N) (loopAt 3 (bodyOf Try.f47))) (n + 1) (pt_47_3.inst x) k = B_47_3 N (fun y => iter 0 lv_47_3 lo_47_3 (aexec TT (E_47 (R := R) N) (drawOk TT QQ) (L_47 N) (loopAt 3 (bodyOf Try.f47))) n (pt_47_3.inst y) k) x (fun y => k (.exit 0) (px_47_3_0.inst y)) := (gstep_47_3 (l_47_6 N N) (l_47_3 N N) n x k).trans (by kernel_rfl)
theorem eq_47_3 {R : Type} (N : Nat) : ∀ (n : Nat) (x : pt_47_3.den) (k : Exit → St → Option R), iter 0 lv_47_3 lo_47_3 (aexec TT (E_47 (R := R) N) (drawOk TT QQ) (L_47 N) (loopAt 3 (bodyOf Try.f47))) n (pt_47_3.inst x) k = l_47_3 N n x (fun y => k (.exit 0) (px_47_3_0.inst y)) :=
  iter_eq (K := Exit → St → Option R) (ks := fun k => k) (l := fun n (x : pt_47_3.den) k => l_47_3 N n x (fun y => k (.exit 0) (px_47_3_0.inst y))) (B := fun (rec : pt_47_3.den → Option R) (x : pt_47_3.den) k => B_47_3 N rec x (fun y => k (.exit 0) (px_47_3_0.inst y))) (fun _ _ => rfl) (fun _ _ _ => rfl) (fun n x k => step_47_3 N n x k)
theorem rounds_47_3 {R : Type} (N : Nat) : Rounds 0 TT (E_47 (R := R) N) (drawOk TT QQ) (L_47 N) 3 (loopAt 3 (bodyOf Try.f47)) :=
  rounds_of (p := pt_47_3) (l := fun (x : pt_47_3.den) k => l_47_3 N N x (fun y => k (.exit 0) (px_47_3_0.inst y))) (fun s k => rfl) (fun x k => eq_47_3 N N x k)
theorem loops_47 : loopsIn (bodyOf Try.f47) = [(3, loopAt 3 (bodyOf Try.f47)), (6, loopAt 6 (bodyOf Try.f47))] := by kernel_rfl
theorem lok_47 {R : Type} (N : Nat) : LOK 0 TT (E_47 (R := R) N) (drawOk TT QQ) (L_47 N) (bodyOf Try.f47) := loops_all loops_47 (by
  simp only [List.forall_mem_cons, List.not_mem_nil, false_implies, implies_true, and_true]
  exact ⟨rounds_47_3 N, rounds_47_6 N⟩)
theorem grun_47 {R : Type} (m_47_6 : Tl_47_6 R) (m_47_3 : Tl_47_3 R) (x : aden ap_47 × hden hp_47) (k : KF R) : fnrun TT (EG_47) (drawOk TT QQ) (LG_47 m_47_6 m_47_3) true Try.f47 (instA ap_47 x.1) (instH hp_47 x.2) k = Q_47 m_47_6 m_47_3 x (fun y => k (Pat.inst (.vec (.int .u64) 128) y) (instH hp_47 x.2)) := by kernel_rfl
theorem run_47 {R : Type} (N : Nat) (x : aden ap_47 × hden hp_47) (k : KF R) : fnrun TT (E_47 (R := R) N) (drawOk TT QQ) (L_47 N) true Try.f47 (instA ap_47 x.1) (instH hp_47 x.2) k = p_47 N x (fun y => k (Pat.inst (.vec (.int .u64) 128) y) (instH hp_47 x.2)) := (grun_47 (l_47_6 N N) (l_47_3 N N) x k).trans (by kernel_rfl)
theorem good_47 {R : Type} (N : Nat) : GD (X := R) Try.prog QQ 47 ap_47 hp_47 (fun (x : aden ap_47 × hden hp_47) k => p_47 N x (fun y => k (Pat.inst (.vec (.int .u64) 128) y) (instH hp_47 x.2))) :=
  gd_quiet (E := E_47 N) (p := fun (x : aden ap_47 × hden hp_47) κ => p_47 N x (fun y => κ (Pat.inst (.vec (.int .u64) 128) y))) mixed tyok (eok_47 N) Try.func47 (by kernel_rfl) (by kernel_rfl) (lok_47 N) (fun x k => run_47 N x k)

def ap_91 : List Pat := [.int .u64, .int .u64]
def hp_91 : List (Option (Pat × Nat)) := []
def p_91 {R : Type} (N : Nat) (x : (Int × Int × Unit) × (Unit)) (κ0 : Int → Option R) : Option R :=
let i644 : Int := x.1.1
let i645 : Int := x.1.2.1
let i646 : Int := addA .u64 i644 i645
let i647 : Int := remA .u64 i644 4294967296
let i648 : Int := mulA .u64 2 i647
let i649 : Int := remA .u64 i645 4294967296
let i650 : Int := mulA .u64 i648 i649
let i651 : Int := addA .u64 i646 i650
κ0 i651

abbrev Tp_91 (R : Type) : Type := (Int × Int × Unit) × (Unit) → (Int → Option R) → Option R
def Q_91 {R : Type} (x : (Int × Int × Unit) × (Unit)) (κ0 : Int → Option R) : Option R :=
let i644 : Int := x.1.1
let i645 : Int := x.1.2.1
let i646 : Int := addA .u64 i644 i645
let i647 : Int := remA .u64 i644 4294967296
let i648 : Int := mulA .u64 2 i647
let i649 : Int := remA .u64 i645 4294967296
let i650 : Int := mulA .u64 i648 i649
let i651 : Int := addA .u64 i646 i650
κ0 i651
def EG_91 {R : Type} : Env R := Env.base QQ LN
def LG_91 {R : Type} : Loops R := Loops.none
def E_91 {R : Type} (N : Nat) : Env R := EG_91
theorem eok_91 {R : Type} (N : Nat) : EK Try.prog (E_91 (R := R) N) := ek_base _ _
def L_91 {R : Type} (N : Nat) : Loops R := LG_91
theorem lok_91 {R : Type} (N : Nat) : LOK 0 TT (E_91 (R := R) N) (drawOk TT QQ) (L_91 N) (bodyOf Try.f91) := loops_nil (by kernel_rfl)
theorem grun_91 {R : Type} (x : aden ap_91 × hden hp_91) (k : KF R) : fnrun TT (EG_91) (drawOk TT QQ) (LG_91) true Try.f91 (instA ap_91 x.1) (instH hp_91 x.2) k = Q_91 x (fun y => k (Pat.inst (.int .u64) y) (instH hp_91 x.2)) := by kernel_rfl
theorem run_91 {R : Type} (N : Nat) (x : aden ap_91 × hden hp_91) (k : KF R) : fnrun TT (E_91 (R := R) N) (drawOk TT QQ) (L_91 N) true Try.f91 (instA ap_91 x.1) (instH hp_91 x.2) k = p_91 N x (fun y => k (Pat.inst (.int .u64) y) (instH hp_91 x.2)) := (grun_91 x k).trans (by kernel_rfl)
theorem good_91 {R : Type} (N : Nat) : GD (X := R) Try.prog QQ 91 ap_91 hp_91 (fun (x : aden ap_91 × hden hp_91) k => p_91 N x (fun y => k (Pat.inst (.int .u64) y) (instH hp_91 x.2))) :=
  gd_quiet (E := E_91 N) (p := fun (x : aden ap_91 × hden hp_91) κ => p_91 N x (fun y => κ (Pat.inst (.int .u64) y))) mixed tyok (eok_91 N) Try.func91 (by kernel_rfl) (by kernel_rfl) (lok_91 N) (fun x k => run_91 N x k)

def ap_92 : List Pat := [.int .u64, .int .u64, .int .u64]
def hp_92 : List (Option (Pat × Nat)) := []
def p_92 {R : Type} (N : Nat) (x : (Int × Int × Int × Unit) × (Unit)) (κ0 : Int → Option R) : Option R :=
let i658 : Int := x.1.1
let i659 : Int := x.1.2.1
let i660 : Int := x.1.2.2.1
bif decide (i659 = 0) then none else (
let i661 : Int := quoA .u64 i658 i659
bif decide (i659 = 0) then none else (
let i662 : Int := remA .u64 i658 i659
let i663 : Int := mulA .u64 i662 i660
let i664 : Int := addA .u64 i661 i663
κ0 i664))

abbrev Tp_92 (R : Type) : Type := (Int × Int × Int × Unit) × (Unit) → (Int → Option R) → Option R
def Q_92 {R : Type} (x : (Int × Int × Int × Unit) × (Unit)) (κ0 : Int → Option R) : Option R :=
let i658 : Int := x.1.1
let i659 : Int := x.1.2.1
let i660 : Int := x.1.2.2.1
bif decide (i659 = 0) then none else (
let i661 : Int := quoA .u64 i658 i659
bif decide (i659 = 0) then none else (
let i662 : Int := remA .u64 i658 i659
let i663 : Int := mulA .u64 i662 i660
let i664 : Int := addA .u64 i661 i663
κ0 i664))
def EG_92 {R : Type} : Env R := Env.base QQ LN
def LG_92 {R : Type} : Loops R := Loops.none
def E_92 {R : Type} (N : Nat) : Env R := EG_92
theorem eok_92 {R : Type} (N : Nat) : EK Try.prog (E_92 (R := R) N) := ek_base _ _
def L_92 {R : Type} (N : Nat) : Loops R := LG_92
theorem lok_92 {R : Type} (N : Nat) : LOK 0 TT (E_92 (R := R) N) (drawOk TT QQ) (L_92 N) (bodyOf Try.f92) := loops_nil (by kernel_rfl)
theorem grun_92 {R : Type} (x : aden ap_92 × hden hp_92) (k : KF R) : fnrun TT (EG_92) (drawOk TT QQ) (LG_92) true Try.f92 (instA ap_92 x.1) (instH hp_92 x.2) k = Q_92 x (fun y => k (Pat.inst (.int .u64) y) (instH hp_92 x.2)) := by kernel_rfl
theorem run_92 {R : Type} (N : Nat) (x : aden ap_92 × hden hp_92) (k : KF R) : fnrun TT (E_92 (R := R) N) (drawOk TT QQ) (L_92 N) true Try.f92 (instA ap_92 x.1) (instH hp_92 x.2) k = p_92 N x (fun y => k (Pat.inst (.int .u64) y) (instH hp_92 x.2)) := (grun_92 x k).trans (by kernel_rfl)
theorem good_92 {R : Type} (N : Nat) : GD (X := R) Try.prog QQ 92 ap_92 hp_92 (fun (x : aden ap_92 × hden hp_92) k => p_92 N x (fun y => k (Pat.inst (.int .u64) y) (instH hp_92 x.2))) :=
  gd_quiet (E := E_92 N) (p := fun (x : aden ap_92 × hden hp_92) κ => p_92 N x (fun y => κ (Pat.inst (.int .u64) y))) mixed tyok (eok_92 N) Try.func92 (by kernel_rfl) (by kernel_rfl) (lok_92 N) (fun x k => run_92 N x k)

def ap_39 : List Pat := [.vec (.int .u64) 4]
def hp_39 : List (Option (Pat × Nat)) := []
def p_39 {R : Type} (N : Nat) (x : ((Nat → Int) × Unit) × (Unit)) (κ0 : (Nat → Int) → Option R) : Option R :=
let a641 : (Nat → Int) := x.1.1
let i642 : Int := (a641 0)
let i643 : Int := (a641 1)
p_91 N ((i642, i643, ()), ()) (fun y652 =>
let i653 : Int := y652
let a654 : (Nat → Int) := (upd a641 0 i653)
let i655 : Int := (a654 3)
let i656 : Int := (a654 0)
let i657 : Int := xorA .u64 i655 i656
p_92 N ((i657, 4294967296, 4294967296, ()), ()) (fun y665 =>
let i666 : Int := y665
let a667 : (Nat → Int) := (upd a654 3 i666)
let i668 : Int := (a667 2)
let i669 : Int := (a667 3)
p_91 N ((i668, i669, ()), ()) (fun y670 =>
let i671 : Int := y670
let a672 : (Nat → Int) := (upd a667 2 i671)
let i673 : Int := (a672 1)
let i674 : Int := (a672 2)
let i675 : Int := xorA .u64 i673 i674
p_92 N ((i675, 16777216, 1099511627776, ()), ()) (fun y676 =>
let i677 : Int := y676
let a678 : (Nat → Int) := (upd a672 1 i677)
let i679 : Int := (a678 0)
let i680 : Int := (a678 1)
p_91 N ((i679, i680, ()), ()) (fun y681 =>
let i682 : Int := y681
let a683 : (Nat → Int) := (upd a678 0 i682)
let i684 : Int := (a683 3)
let i685 : Int := (a683 0)
let i686 : Int := xorA .u64 i684 i685
p_92 N ((i686, 65536, 281474976710656, ()), ()) (fun y687 =>
let i688 : Int := y687
let a689 : (Nat → Int) := (upd a683 3 i688)
let i690 : Int := (a689 2)
let i691 : Int := (a689 3)
p_91 N ((i690, i691, ()), ()) (fun y692 =>
let i693 : Int := y692
let a694 : (Nat → Int) := (upd a689 2 i693)
let i695 : Int := (a694 1)
let i696 : Int := (a694 2)
let i697 : Int := xorA .u64 i695 i696
p_92 N ((i697, 9223372036854775808, 2, ()), ()) (fun y698 =>
let i699 : Int := y698
let a700 : (Nat → Int) := (upd a694 1 i699)
κ0 a700))))))))

abbrev Tp_39 (R : Type) : Type := ((Nat → Int) × Unit) × (Unit) → ((Nat → Int) → Option R) → Option R
def Q_39 {R : Type} (q_91 : Tp_91 R) (q_92 : Tp_92 R) (x : ((Nat → Int) × Unit) × (Unit)) (κ0 : (Nat → Int) → Option R) : Option R :=
let a641 : (Nat → Int) := x.1.1
let i642 : Int := (a641 0)
let i643 : Int := (a641 1)
q_91 ((i642, i643, ()), ()) (fun y652 =>
let i653 : Int := y652
let a654 : (Nat → Int) := (upd a641 0 i653)
let i655 : Int := (a654 3)
let i656 : Int := (a654 0)
let i657 : Int := xorA .u64 i655 i656
q_92 ((i657, 4294967296, 4294967296, ()), ()) (fun y665 =>
let i666 : Int := y665
let a667 : (Nat → Int) := (upd a654 3 i666)
let i668 : Int := (a667 2)
let i669 : Int := (a667 3)
q_91 ((i668, i669, ()), ()) (fun y670 =>
let i671 : Int := y670
let a672 : (Nat → Int) := (upd a667 2 i671)
let i673 : Int := (a672 1)
let i674 : Int := (a672 2)
let i675 : Int := xorA .u64 i673 i674
q_92 ((i675, 16777216, 1099511627776, ()), ()) (fun y676 =>
let i677 : Int := y676
let a678 : (Nat → Int) := (upd a672 1 i677)
let i679 : Int := (a678 0)
let i680 : Int := (a678 1)
q_91 ((i679, i680, ()), ()) (fun y681 =>
let i682 : Int := y681
let a683 : (Nat → Int) := (upd a678 0 i682)
let i684 : Int := (a683 3)
let i685 : Int := (a683 0)
let i686 : Int := xorA .u64 i684 i685
q_92 ((i686, 65536, 281474976710656, ()), ()) (fun y687 =>
let i688 : Int := y687
let a689 : (Nat → Int) := (upd a683 3 i688)
let i690 : Int := (a689 2)
let i691 : Int := (a689 3)
q_91 ((i690, i691, ()), ()) (fun y692 =>
let i693 : Int := y692
let a694 : (Nat → Int) := (upd a689 2 i693)
let i695 : Int := (a694 1)
let i696 : Int := (a694 2)
let i697 : Int := xorA .u64 i695 i696
q_92 ((i697, 9223372036854775808, 2, ()), ()) (fun y698 =>
let i699 : Int := y698
let a700 : (Nat → Int) := (upd a694 1 i699)
κ0 a700))))))))
def EG_39 {R : Type} (q_91 : Tp_91 R) (q_92 : Tp_92 R) : Env R := ((Env.base QQ LN).add 91 ap_91 hp_91 (fun (x : aden ap_91 × hden hp_91) k => q_91 x (fun y => k (Pat.inst (.int .u64) y) (instH hp_91 x.2)))).add 92 ap_92 hp_92 (fun (x : aden ap_92 × hden hp_92) k => q_92 x (fun y => k (Pat.inst (.int .u64) y) (instH hp_92 x.2)))
def LG_39 {R : Type} : Loops R := Loops.none
def E_39 {R : Type} (N : Nat) : Env R := EG_39 (p_91 N) (p_92 N)
theorem eok_39 {R : Type} (N : Nat) : EK Try.prog (E_39 (R := R) N) := ek_add (ek_add (ek_base _ _) (good_91 N)) (good_92 N)
def L_39 {R : Type} (N : Nat) : Loops R := LG_39
theorem lok_39 {R : Type} (N : Nat) : LOK 0 TT (E_39 (R := R) N) (drawOk TT QQ) (L_39 N) (bodyOf Try.f39) := loops_nil (by kernel_rfl)
theorem grun_39 {R : Type} (q_91 : Tp_91 R) (q_92 : Tp_92 R) (x : aden ap_39 × hden hp_39) (k : KF R) : fnrun TT (EG_39 q_91 q_92) (drawOk TT QQ) (LG_39) true Try.f39 (instA ap_39 x.1) (instH hp_39 x.2) k = Q_39 q_91 q_92 x (fun y => k (Pat.inst (.vec (.int .u64) 4) y) (instH hp_39 x.2)) := by kernel_rfl
theorem run_39 {R : Type} (N : Nat) (x : aden ap_39 × hden hp_39) (k : KF R) : fnrun TT (E_39 (R := R) N) (drawOk TT QQ) (L_39 N) true Try.f39 (instA ap_39 x.1) (instH hp_39 x.2) k = p_39 N x (fun y => k (Pat.inst (.vec (.int .u64) 4) y) (instH hp_39 x.2)) := (grun_39 (p_91 N) (p_92 N) x k).trans (by kernel_rfl)
theorem good_39 {R : Type} (N : Nat) : GD (X := R) Try.prog QQ 39 ap_39 hp_39 (fun (x : aden ap_39 × hden hp_39) k => p_39 N x (fun y => k (Pat.inst (.vec (.int .u64) 4) y) (instH hp_39 x.2))) :=
  gd_quiet (E := E_39 N) (p := fun (x : aden ap_39 × hden hp_39) κ => p_39 N x (fun y => κ (Pat.inst (.vec (.int .u64) 4) y))) mixed tyok (eok_39 N) Try.func39 (by kernel_rfl) (by kernel_rfl) (lok_39 N) (fun x k => run_39 N x k)

def lv_41_7 : Live := [(1, none), (2, none), (3, none), (4, none), (5, none), (6, none)]
def pt_41_7 : SPat := ⟨[(1, .ptr 0 []), (2, .ptr 1 []), (3, .int .i64), (4, .ptr 2 []), (5, .ptr 3 []), (6, .int .i64)], [some (.vec (.int .u64) 16, 62), some (.vec (.int .u64) 16, 62), some (.vec (.int .i64) 4, 104), some (.vec (.int .u64) 4, 65)]⟩
def px_41_7_0 : SPat := ⟨[(1, .ptr 0 []), (2, .ptr 1 []), (3, .int .i64), (4, .ptr 2 []), (5, .ptr 3 [])], [some (.vec (.int .u64) 16, 62), some (.vec (.int .u64) 16, 62), some (.vec (.int .i64) 4, 104), some (.vec (.int .u64) 4, 65)]⟩
def lo_41_7 : Exit → Live
  | .exit 2 => [(1, none), (2, none), (3, none), (4, none), (5, none)]
  | _ => []
def B_41_7 {R : Type} (N : Nat) (rec : ((Unit × Unit × Int × Unit × Unit × Int × Unit) × ((Nat → Int) × (Nat → Int) × (Nat → Int) × (Nat → Int) × Unit)) → Option R) (x : ((Unit × Unit × Int × Unit × Unit × Int × Unit) × ((Nat → Int) × (Nat → Int) × (Nat → Int) × (Nat → Int) × Unit))) (κ0 : ((Unit × Unit × Int × Unit × Unit × Unit) × ((Nat → Int) × (Nat → Int) × (Nat → Int) × (Nat → Int) × Unit)) → Option R) : Option R :=
let i612 : Int := x.1.2.2.1
let i613 : Int := x.1.2.2.2.2.2.1
let a614 : (Nat → Int) := x.2.1
let a615 : (Nat → Int) := x.2.2.1
let a616 : (Nat → Int) := x.2.2.2.1
let a617 : (Nat → Int) := x.2.2.2.2.1
bif (decide (i613 < 4)) then (
let i618 : Int := mulA .i64 4 i613
let i619 : Int := remA .i64 i612 4
let i620 : Int := addA .i64 i618 i619
bif decide (0 ≤ i613) then (
bif decide (i613 < (4 : Int)) then (
let a621 : (Nat → Int) := (upd a616 ((Int.toNat i613)) i620)
bif (decide (i612 ≥ 4)) then (
let i622 : Int := mulA .i64 4 i613
let i623 : Int := addA .i64 i612 i613
let i624 : Int := remA .i64 i623 4
let i625 : Int := addA .i64 i622 i624
bif decide (0 ≤ i613) then (
bif decide (i613 < (4 : Int)) then (
let a626 : (Nat → Int) := (upd a621 ((Int.toNat i613)) i625)
bif decide (0 ≤ i613) then (
bif decide (i613 < (4 : Int)) then (
let i627 : Int := (a626 ((Int.toNat i613)))
bif decide (0 ≤ i627) then (
bif decide (i627 < (16 : Int)) then (
let i628 : Int := (a614 ((Int.toNat i627)))
bif decide (0 ≤ i613) then (
bif decide (i613 < (4 : Int)) then (
let a629 : (Nat → Int) := (upd a617 ((Int.toNat i613)) i628)
let i630 : Int := addA .i64 i613 1
rec (((), (), i612, (), (), i630, ()), (a614, a615, a626, a629, ()))) else none) else none) else none) else none) else none) else none) else none) else none) else (
bif decide (0 ≤ i613) then (
bif decide (i613 < (4 : Int)) then (
let i631 : Int := (a621 ((Int.toNat i613)))
bif decide (0 ≤ i631) then (
bif decide (i631 < (16 : Int)) then (
let i632 : Int := (a614 ((Int.toNat i631)))
bif decide (0 ≤ i613) then (
bif decide (i613 < (4 : Int)) then (
let a633 : (Nat → Int) := (upd a617 ((Int.toNat i613)) i632)
let i634 : Int := addA .i64 i613 1
rec (((), (), i612, (), (), i634, ()), (a614, a615, a621, a633, ()))) else none) else none) else none) else none) else none) else none)) else none) else none) else (
κ0 (((), (), i612, (), (), ()), (a614, a615, a616, a617, ())))
def l_41_7 {R : Type} (N : Nat) : Nat → ((Unit × Unit × Int × Unit × Unit × Int × Unit) × ((Nat → Int) × (Nat → Int) × (Nat → Int) × (Nat → Int) × Unit)) → (((Unit × Unit × Int × Unit × Unit × Unit) × ((Nat → Int) × (Nat → Int) × (Nat → Int) × (Nat → Int) × Unit)) → Option R) → Option R
  | 0, _, _ => none
  | n + 1, x, κ0 => B_41_7 N (fun y => l_41_7 N n y κ0) x κ0
def lv_41_15 : Live := [(1, none), (2, none), (3, none), (4, none), (5, none), (7, none)]
def pt_41_15 : SPat := ⟨[(1, .ptr 0 []), (2, .ptr 1 []), (3, .int .i64), (4, .ptr 2 []), (5, .ptr 3 []), (7, .int .i64)], [some (.vec (.int .u64) 16, 62), some (.vec (.int .u64) 16, 62), some (.vec (.int .i64) 4, 104), some (.vec (.int .u64) 4, 65)]⟩
def px_41_15_0 : SPat := ⟨[(1, .ptr 0 []), (2, .ptr 1 []), (3, .int .i64)], [some (.vec (.int .u64) 16, 62), some (.vec (.int .u64) 16, 62)]⟩
def lo_41_15 : Exit → Live
  | .exit 4 => [(1, none), (2, none), (3, none)]
  | _ => []
def B_41_15 {R : Type} (N : Nat) (rec : ((Unit × Unit × Int × Unit × Unit × Int × Unit) × ((Nat → Int) × (Nat → Int) × (Nat → Int) × (Nat → Int) × Unit)) → Option R) (x : ((Unit × Unit × Int × Unit × Unit × Int × Unit) × ((Nat → Int) × (Nat → Int) × (Nat → Int) × (Nat → Int) × Unit))) (κ0 : ((Unit × Unit × Int × Unit) × ((Nat → Int) × (Nat → Int) × Unit)) → Option R) : Option R :=
let i703 : Int := x.1.2.2.1
let i704 : Int := x.1.2.2.2.2.2.1
let a705 : (Nat → Int) := x.2.1
let a706 : (Nat → Int) := x.2.2.1
let a707 : (Nat → Int) := x.2.2.2.1
let a708 : (Nat → Int) := x.2.2.2.2.1
bif (decide (i704 < 4)) then (
bif decide (0 ≤ i704) then (
bif decide (i704 < (4 : Int)) then (
let i709 : Int := (a707 ((Int.toNat i704)))
bif decide (0 ≤ i704) then (
bif decide (i704 < (4 : Int)) then (
let i710 : Int := (a708 ((Int.toNat i704)))
bif decide (0 ≤ i709) then (
bif decide (i709 < (16 : Int)) then (
let a711 : (Nat → Int) := (upd a705 ((Int.toNat i709)) i710)
let i712 : Int := addA .i64 i704 1
rec (((), (), i703, (), (), i712, ()), (a711, a706, a707, a708, ()))) else none) else none) else none) else none) else none) else none) else (
κ0 (((), (), i703, ()), (a705, a706, ())))
def l_41_15 {R : Type} (N : Nat) : Nat → ((Unit × Unit × Int × Unit × Unit × Int × Unit) × ((Nat → Int) × (Nat → Int) × (Nat → Int) × (Nat → Int) × Unit)) → (((Unit × Unit × Int × Unit) × ((Nat → Int) × (Nat → Int) × Unit)) → Option R) → Option R
  | 0, _, _ => none
  | n + 1, x, κ0 => B_41_15 N (fun y => l_41_15 N n y κ0) x κ0
def lv_41_2 : Live := [(1, none), (2, none), (3, none)]
def pt_41_2 : SPat := ⟨[(1, .ptr 0 []), (2, .ptr 1 []), (3, .int .i64)], [some (.vec (.int .u64) 16, 62), some (.vec (.int .u64) 16, 62)]⟩
def px_41_2_0 : SPat := ⟨[(1, .ptr 0 []), (2, .ptr 1 [])], [some (.vec (.int .u64) 16, 62), some (.vec (.int .u64) 16, 62)]⟩
def lo_41_2 : Exit → Live
  | .exit 0 => [(1, none), (2, none)]
  | _ => []
def B_41_2 {R : Type} (N : Nat) (rec : ((Unit × Unit × Int × Unit) × ((Nat → Int) × (Nat → Int) × Unit)) → Option R) (x : ((Unit × Unit × Int × Unit) × ((Nat → Int) × (Nat → Int) × Unit))) (κ0 : ((Unit × Unit × Unit) × ((Nat → Int) × (Nat → Int) × Unit)) → Option R) : Option R :=
let i609 : Int := x.1.2.2.1
let a610 : (Nat → Int) := x.2.1
let a611 : (Nat → Int) := x.2.2.1
bif (decide (i609 < 8)) then (
l_41_7 N N (((), (), i609, (), (), 0, ()), (a610, a611, (Sch.zero (.arr 4 (.int .i64))), (Sch.zero (.arr 4 (.int .u64))), ())) (fun y635 =>
let i636 : Int := y635.1.2.2.1
let a637 : (Nat → Int) := y635.2.1
let a638 : (Nat → Int) := y635.2.2.1
let a639 : (Nat → Int) := y635.2.2.2.1
let a640 : (Nat → Int) := y635.2.2.2.2.1
p_39 N ((a640, ()), ()) (fun y701 =>
let a702 : (Nat → Int) := y701
l_41_15 N N (((), (), i636, (), (), 0, ()), (a637, a638, a639, a702, ())) (fun y713 =>
let i714 : Int := y713.1.2.2.1
let a715 : (Nat → Int) := y713.2.1
let a716 : (Nat → Int) := y713.2.2.1
let i717 : Int := addA .i64 i714 1
rec (((), (), i717, ()), (a715, a716, ())))))) else (
κ0 (((), (), ()), (a610, a611, ())))
def l_41_2 {R : Type} (N : Nat) : Nat → ((Unit × Unit × Int × Unit) × ((Nat → Int) × (Nat → Int) × Unit)) → (((Unit × Unit × Unit) × ((Nat → Int) × (Nat → Int) × Unit)) → Option R) → Option R
  | 0, _, _ => none
  | n + 1, x, κ0 => B_41_2 N (fun y => l_41_2 N n y κ0) x κ0
def ap_41 : List Pat := [.vec (.int .u64) 16]
def hp_41 : List (Option (Pat × Nat)) := []
def p_41 {R : Type} (N : Nat) (x : ((Nat → Int) × Unit) × (Unit)) (κ0 : (Nat → Int) → Option R) : Option R :=
let a608 : (Nat → Int) := x.1.1
l_41_2 N N (((), (), 0, ()), (a608, (Sch.zero (.arr 16 (.int .u64))), ())) (fun y718 =>
let a719 : (Nat → Int) := y718.2.1
let a720 : (Nat → Int) := y718.2.2.1
κ0 a719)

abbrev Tl_41_7 (R : Type) : Type := ((Unit × Unit × Int × Unit × Unit × Int × Unit) × ((Nat → Int) × (Nat → Int) × (Nat → Int) × (Nat → Int) × Unit)) → (((Unit × Unit × Int × Unit × Unit × Unit) × ((Nat → Int) × (Nat → Int) × (Nat → Int) × (Nat → Int) × Unit)) → Option R) → Option R
abbrev Tl_41_15 (R : Type) : Type := ((Unit × Unit × Int × Unit × Unit × Int × Unit) × ((Nat → Int) × (Nat → Int) × (Nat → Int) × (Nat → Int) × Unit)) → (((Unit × Unit × Int × Unit) × ((Nat → Int) × (Nat → Int) × Unit)) → Option R) → Option R
abbrev Tl_41_2 (R : Type) : Type := ((Unit × Unit × Int × Unit) × ((Nat → Int) × (Nat → Int) × Unit)) → (((Unit × Unit × Unit) × ((Nat → Int) × (Nat → Int) × Unit)) → Option R) → Option R
abbrev Tp_41 (R : Type) : Type := ((Nat → Int) × Unit) × (Unit) → ((Nat → Int) → Option R) → Option R
def Q_41 {R : Type} (q_39 : Tp_39 R) (m_41_7 : Tl_41_7 R) (m_41_15 : Tl_41_15 R) (m_41_2 : Tl_41_2 R) (x : ((Nat → Int) × Unit) × (Unit)) (κ0 : (Nat → Int) → Option R) : Option R :=
let a608 : (Nat → Int) := x.1.1
m_41_2 (((), (), 0, ()), (a608, (Sch.zero (.arr 16 (.int .u64))), ())) (fun y718 =>
let a719 : (Nat → Int) := y718.2.1
let a720 : (Nat → Int) := y718.2.2.1
κ0 a719)
def C_41_7 {R : Type} (q_39 : Tp_39 R) (m_41_7 : Tl_41_7 R) (m_41_15 : Tl_41_15 R) (m_41_2 : Tl_41_2 R) (rec : ((Unit × Unit × Int × Unit × Unit × Int × Unit) × ((Nat → Int) × (Nat → Int) × (Nat → Int) × (Nat → Int) × Unit)) → Option R) (x : ((Unit × Unit × Int × Unit × Unit × Int × Unit) × ((Nat → Int) × (Nat → Int) × (Nat → Int) × (Nat → Int) × Unit))) (κ0 : ((Unit × Unit × Int × Unit × Unit × Unit) × ((Nat → Int) × (Nat → Int) × (Nat → Int) × (Nat → Int) × Unit)) → Option R) : Option R :=
let i612 : Int := x.1.2.2.1
let i613 : Int := x.1.2.2.2.2.2.1
let a614 : (Nat → Int) := x.2.1
let a615 : (Nat → Int) := x.2.2.1
let a616 : (Nat → Int) := x.2.2.2.1
let a617 : (Nat → Int) := x.2.2.2.2.1
bif (decide (i613 < 4)) then (
let i618 : Int := mulA .i64 4 i613
let i619 : Int := remA .i64 i612 4
let i620 : Int := addA .i64 i618 i619
bif decide (0 ≤ i613) then (
bif decide (i613 < (4 : Int)) then (
let a621 : (Nat → Int) := (upd a616 ((Int.toNat i613)) i620)
bif (decide (i612 ≥ 4)) then (
let i622 : Int := mulA .i64 4 i613
let i623 : Int := addA .i64 i612 i613
let i624 : Int := remA .i64 i623 4
let i625 : Int := addA .i64 i622 i624
bif decide (0 ≤ i613) then (
bif decide (i613 < (4 : Int)) then (
let a626 : (Nat → Int) := (upd a621 ((Int.toNat i613)) i625)
bif decide (0 ≤ i613) then (
bif decide (i613 < (4 : Int)) then (
let i627 : Int := (a626 ((Int.toNat i613)))
bif decide (0 ≤ i627) then (
bif decide (i627 < (16 : Int)) then (
let i628 : Int := (a614 ((Int.toNat i627)))
bif decide (0 ≤ i613) then (
bif decide (i613 < (4 : Int)) then (
let a629 : (Nat → Int) := (upd a617 ((Int.toNat i613)) i628)
let i630 : Int := addA .i64 i613 1
rec (((), (), i612, (), (), i630, ()), (a614, a615, a626, a629, ()))) else none) else none) else none) else none) else none) else none) else none) else none) else (
bif decide (0 ≤ i613) then (
bif decide (i613 < (4 : Int)) then (
let i631 : Int := (a621 ((Int.toNat i613)))
bif decide (0 ≤ i631) then (
bif decide (i631 < (16 : Int)) then (
let i632 : Int := (a614 ((Int.toNat i631)))
bif decide (0 ≤ i613) then (
bif decide (i613 < (4 : Int)) then (
let a633 : (Nat → Int) := (upd a617 ((Int.toNat i613)) i632)
let i634 : Int := addA .i64 i613 1
rec (((), (), i612, (), (), i634, ()), (a614, a615, a621, a633, ()))) else none) else none) else none) else none) else none) else none)) else none) else none) else (
κ0 (((), (), i612, (), (), ()), (a614, a615, a616, a617, ())))
def C_41_15 {R : Type} (q_39 : Tp_39 R) (m_41_7 : Tl_41_7 R) (m_41_15 : Tl_41_15 R) (m_41_2 : Tl_41_2 R) (rec : ((Unit × Unit × Int × Unit × Unit × Int × Unit) × ((Nat → Int) × (Nat → Int) × (Nat → Int) × (Nat → Int) × Unit)) → Option R) (x : ((Unit × Unit × Int × Unit × Unit × Int × Unit) × ((Nat → Int) × (Nat → Int) × (Nat → Int) × (Nat → Int) × Unit))) (κ0 : ((Unit × Unit × Int × Unit) × ((Nat → Int) × (Nat → Int) × Unit)) → Option R) : Option R :=
let i703 : Int := x.1.2.2.1
let i704 : Int := x.1.2.2.2.2.2.1
let a705 : (Nat → Int) := x.2.1
let a706 : (Nat → Int) := x.2.2.1
let a707 : (Nat → Int) := x.2.2.2.1
let a708 : (Nat → Int) := x.2.2.2.2.1
bif (decide (i704 < 4)) then (
bif decide (0 ≤ i704) then (
bif decide (i704 < (4 : Int)) then (
let i709 : Int := (a707 ((Int.toNat i704)))
bif decide (0 ≤ i704) then (
bif decide (i704 < (4 : Int)) then (
let i710 : Int := (a708 ((Int.toNat i704)))
bif decide (0 ≤ i709) then (
bif decide (i709 < (16 : Int)) then (
let a711 : (Nat → Int) := (upd a705 ((Int.toNat i709)) i710)
let i712 : Int := addA .i64 i704 1
rec (((), (), i703, (), (), i712, ()), (a711, a706, a707, a708, ()))) else none) else none) else none) else none) else none) else none) else (
κ0 (((), (), i703, ()), (a705, a706, ())))
def C_41_2 {R : Type} (q_39 : Tp_39 R) (m_41_7 : Tl_41_7 R) (m_41_15 : Tl_41_15 R) (m_41_2 : Tl_41_2 R) (rec : ((Unit × Unit × Int × Unit) × ((Nat → Int) × (Nat → Int) × Unit)) → Option R) (x : ((Unit × Unit × Int × Unit) × ((Nat → Int) × (Nat → Int) × Unit))) (κ0 : ((Unit × Unit × Unit) × ((Nat → Int) × (Nat → Int) × Unit)) → Option R) : Option R :=
let i609 : Int := x.1.2.2.1
let a610 : (Nat → Int) := x.2.1
let a611 : (Nat → Int) := x.2.2.1
bif (decide (i609 < 8)) then (
m_41_7 (((), (), i609, (), (), 0, ()), (a610, a611, (Sch.zero (.arr 4 (.int .i64))), (Sch.zero (.arr 4 (.int .u64))), ())) (fun y635 =>
let i636 : Int := y635.1.2.2.1
let a637 : (Nat → Int) := y635.2.1
let a638 : (Nat → Int) := y635.2.2.1
let a639 : (Nat → Int) := y635.2.2.2.1
let a640 : (Nat → Int) := y635.2.2.2.2.1
q_39 ((a640, ()), ()) (fun y701 =>
let a702 : (Nat → Int) := y701
m_41_15 (((), (), i636, (), (), 0, ()), (a637, a638, a639, a702, ())) (fun y713 =>
let i714 : Int := y713.1.2.2.1
let a715 : (Nat → Int) := y713.2.1
let a716 : (Nat → Int) := y713.2.2.1
let i717 : Int := addA .i64 i714 1
rec (((), (), i717, ()), (a715, a716, ())))))) else (
κ0 (((), (), ()), (a610, a611, ())))
def EG_41 {R : Type} (q_39 : Tp_39 R) : Env R := (Env.base QQ LN).add 39 ap_39 hp_39 (fun (x : aden ap_39 × hden hp_39) k => q_39 x (fun y => k (Pat.inst (.vec (.int .u64) 4) y) (instH hp_39 x.2)))
def LG_41 {R : Type} (m_41_7 : Tl_41_7 R) (m_41_15 : Tl_41_15 R) (m_41_2 : Tl_41_2 R) : Loops R := (((Loops.none).add 7 (loopBy 0 lv_41_7 pt_41_7 (fun x k => m_41_7 x (fun y => k (.exit 2) (px_41_7_0.inst y))))).add 15 (loopBy 0 lv_41_15 pt_41_15 (fun x k => m_41_15 x (fun y => k (.exit 4) (px_41_15_0.inst y))))).add 2 (loopBy 0 lv_41_2 pt_41_2 (fun x k => m_41_2 x (fun y => k (.exit 0) (px_41_2_0.inst y))))
def E_41 {R : Type} (N : Nat) : Env R := EG_41 (p_39 N)
theorem eok_41 {R : Type} (N : Nat) : EK Try.prog (E_41 (R := R) N) := ek_add (ek_base _ _) (good_39 N)
def L_41 {R : Type} (N : Nat) : Loops R := LG_41 (l_41_7 N N) (l_41_15 N N) (l_41_2 N N)
theorem gstep_41_7 {R : Type} (q_39 : Tp_39 R) (m_41_7 : Tl_41_7 R) (m_41_15 : Tl_41_15 R) (m_41_2 : Tl_41_2 R) (n : Nat) (x : pt_41_7.den) (k : Exit → St → Option R) : iter 0 lv_41_7 lo_41_7 (aexec TT (EG_41 q_39) (drawOk TT QQ) (LG_41 m_41_7 m_41_15 m_41_2) (loopAt 7 (bodyOf Try.f41))) (n + 1) (pt_41_7.inst x) k = C_41_7 q_39 m_41_7 m_41_15 m_41_2 (fun y => iter 0 lv_41_7 lo_41_7 (aexec TT (EG_41 q_39) (drawOk TT QQ) (LG_41 m_41_7 m_41_15 m_41_2) (loopAt 7 (bodyOf Try.f41))) n (pt_41_7.inst y) k) x (fun y => k (.exit 2) (px_41_7_0.inst y)) := by kernel_rfl
theorem step_41_7 {R : Type} (N n : Nat) (x : pt_41_7.den) (k : Exit → St → Option R) : iter 0 lv_41_7 lo_41_7 (aexec TT (E_41 (R := R) N) (drawOk TT QQ) (L_41 N) (loopAt 7 (bodyOf Try.f41))) (n + 1) (pt_41_7.inst x) k = B_41_7 N (fun y => iter 0 lv_41_7 lo_41_7 (aexec TT (E_41 (R := R) N) (drawOk TT QQ) (L_41 N) (loopAt 7 (bodyOf Try.f41))) n (pt_41_7.inst y) k) x (fun y => k (.exit 2) (px_41_7_0.inst y)) := (gstep_41_7 (p_39 N) (l_41_7 N N) (l_41_15 N N) (l_41_2 N N) n x k).trans (by kernel_rfl)
theorem eq_41_7 {R : Type} (N : Nat) : ∀ (n : Nat) (x : pt_41_7.den) (k : Exit → St → Option R), iter 0 lv_41_7 lo_41_7 (aexec TT (E_41 (R := R) N) (drawOk TT QQ) (L_41 N) (loopAt 7 (bodyOf Try.f41))) n (pt_41_7.inst x) k = l_41_7 N n x (fun y => k (.exit 2) (px_41_7_0.inst y)) :=
  iter_eq (K := Exit → St → Option R) (ks := fun k => k) (l := fun n (x : pt_41_7.den) k => l_41_7 N n x (fun y => k (.exit 2) (px_41_7_0.inst y))) (B := fun (rec : pt_41_7.den → Option R) (x : pt_41_7.den) k => B_41_7 N rec x (fun y => k (.exit 2) (px_41_7_0.inst y))) (fun _ _ => rfl) (fun _ _ _ => rfl) (fun n x k => step_41_7 N n x k)
theorem rounds_41_7 {R : Type} (N : Nat) : Rounds 0 TT (E_41 (R := R) N) (drawOk TT QQ) (L_41 N) 7 (loopAt 7 (bodyOf Try.f41)) :=
  rounds_of (p := pt_41_7) (l := fun (x : pt_41_7.den) k => l_41_7 N N x (fun y => k (.exit 2) (px_41_7_0.inst y))) (fun s k => rfl) (fun x k => eq_41_7 N N x k)
theorem gstep_41_15 {R : Type} (q_39 : Tp_39 R) (m_41_7 : Tl_41_7 R) (m_41_15 : Tl_41_15 R) (m_41_2 : Tl_41_2 R) (n : Nat) (x : pt_41_15.den) (k : Exit → St → Option R) : iter 0 lv_41_15 lo_41_15 (aexec TT (EG_41 q_39) (drawOk TT QQ) (LG_41 m_41_7 m_41_15 m_41_2) (loopAt 15 (bodyOf Try.f41))) (n + 1) (pt_41_15.inst x) k = C_41_15 q_39 m_41_7 m_41_15 m_41_2 (fun y => iter 0 lv_41_15 lo_41_15 (aexec TT (EG_41 q_39) (drawOk TT QQ) (LG_41 m_41_7 m_41_15 m_41_2) (loopAt 15 (bodyOf Try.f41))) n (pt_41_15.inst y) k) x (fun y => k (.exit 4) (px_41_15_0.inst y)) := by kernel_rfl
theorem step_41_15 {R : Type} (N n : Nat) (x : pt_41_15.den) (k : Exit → St → Option R) : iter 0 lv_41_15 lo_41_15 (aexec TT (E_41 (R := R) N) (drawOk TT QQ) (L_41 N) (loopAt 15 (bodyOf Try.f41))) (n + 1) (pt_41_15.inst x) k = B_41_15 N (fun y => iter 0 lv_41_15 lo_41_15 (aexec TT (E_41 (R := R) N) (drawOk TT QQ) (L_41 N) (loopAt 15 (bodyOf Try.f41))) n (pt_41_15.inst y) k) x (fun y => k (.exit 4) (px_41_15_0.inst y)) := (gstep_41_15 (p_39 N) (l_41_7 N N) (l_41_15 N N) (l_41_2 N N) n x k).trans (by kernel_rfl)
theorem eq_41_15 {R : Type} (N : Nat) : ∀ (n : Nat) (x : pt_41_15.den) (k : Exit → St → Option R), iter 0 lv_41_15 lo_41_15 (aexec TT (E_41 (R := R) N) (drawOk TT QQ) (L_41 N) (loopAt 15 (bodyOf Try.f41))) n (pt_41_15.inst x) k = l_41_15 N n x (fun y => k (.exit 4) (px_41_15_0.inst y)) :=
  iter_eq (K := Exit → St → Option R) (ks := fun k => k) (l := fun n (x : pt_41_15.den) k => l_41_15 N n x (fun y => k (.exit 4) (px_41_15_0.inst y))) (B := fun (rec : pt_41_15.den → Option R) (x : pt_41_15.den) k => B_41_15 N rec x (fun y => k (.exit 4) (px_41_15_0.inst y))) (fun _ _ => rfl) (fun _ _ _ => rfl) (fun n x k => step_41_15 N n x k)
theorem rounds_41_15 {R : Type} (N : Nat) : Rounds 0 TT (E_41 (R := R) N) (drawOk TT QQ) (L_41 N) 15 (loopAt 15 (bodyOf Try.f41)) :=
  rounds_of (p := pt_41_15) (l := fun (x : pt_41_15.den) k => l_41_15 N N x (fun y => k (.exit 4) (px_41_15_0.inst y))) (fun s k => rfl) (fun x k => eq_41_15 N N x k)
theorem gstep_41_2 {R : Type} (q_39 : Tp_39 R) (m_41_7 : Tl_41_7 R) (m_41_15 : Tl_41_15 R) (m_41_2 : Tl_41_2 R) (n : Nat) (x : pt_41_2.den) (k : Exit → St → Option R) : iter 0 lv_41_2 lo_41_2 (aexec TT (EG_41 q_39) (drawOk TT QQ) (LG_41 m_41_7 m_41_15 m_41_2) (loopAt 2 (bodyOf Try.f41))) (n + 1) (pt_41_2.inst x) k = C_41_2 q_39 m_41_7 m_41_15 m_41_2 (fun y => iter 0 lv_41_2 lo_41_2 (aexec TT (EG_41 q_39) (drawOk TT QQ) (LG_41 m_41_7 m_41_15 m_41_2) (loopAt 2 (bodyOf Try.f41))) n (pt_41_2.inst y) k) x (fun y => k (.exit 0) (px_41_2_0.inst y)) := by kernel_rfl
theorem step_41_2 {R : Type} (N n : Nat) (x : pt_41_2.den) (k : Exit → St → Option R) : iter 0 lv_41_2 lo_41_2 (aexec TT (E_41 (R := R) N) (drawOk TT QQ) (L_41 N) (loopAt 2 (bodyOf Try.f41))) (n + 1) (pt_41_2.inst x) k = B_41_2 N (fun y => iter 0 lv_41_2 lo_41_2 (aexec TT (E_41 (R := R) N) (drawOk TT QQ) (L_41 N) (loopAt 2 (bodyOf Try.f41))) n (pt_41_2.inst y) k) x (fun y => k (.exit 0) (px_41_2_0.inst y)) := (gstep_41_2 (p_39 N) (l_41_7 N N) (l_41_15 N N) (l_41_2 N N) n x k).trans (by kernel_rfl)
theorem eq_41_2 {R : Type} (N : Nat) : ∀ (n : Nat) (x : pt_41_2.den) (k : Exit → St → Option R), iter 0 lv_41_2 lo_41_2 (aexec TT (E_41 (R := R) N) (drawOk TT QQ) (L_41 N) (loopAt 2 (bodyOf Try.f41))) n (pt_41_2.inst x) k = l_41_2 N n x (fun y => k (.exit 0) (px_41_2_0.inst y)) :=
  iter_eq (K := Exit → St → Option R) (ks := fun k => k) (l := fun n (x : pt_41_2.den) k => l_41_2 N n x (fun y => k (.exit 0) (px_41_2_0.inst y))) (B := fun (rec : pt_41_2.den → Option R) (x : pt_41_2.den) k => B_41_2 N rec x (fun y => k (.exit 0) (px_41_2_0.inst y))) (fun _ _ => rfl) (fun _ _ _ => rfl) (fun n x k => step_41_2 N n x k)
theorem rounds_41_2 {R : Type} (N : Nat) : Rounds 0 TT (E_41 (R := R) N) (drawOk TT QQ) (L_41 N) 2 (loopAt 2 (bodyOf Try.f41)) :=
  rounds_of (p := pt_41_2) (l := fun (x : pt_41_2.den) k => l_41_2 N N x (fun y => k (.exit 0) (px_41_2_0.inst y))) (fun s k => rfl) (fun x k => eq_41_2 N N x k)
theorem loops_41 : loopsIn (bodyOf Try.f41) = [(2, loopAt 2 (bodyOf Try.f41)), (7, loopAt 7 (bodyOf Try.f41)), (15, loopAt 15 (bodyOf Try.f41))] := by kernel_rfl
theorem lok_41 {R : Type} (N : Nat) : LOK 0 TT (E_41 (R := R) N) (drawOk TT QQ) (L_41 N) (bodyOf Try.f41) := loops_all loops_41 (by
  simp only [List.forall_mem_cons, List.not_mem_nil, false_implies, implies_true, and_true]
  exact ⟨rounds_41_2 N, rounds_41_7 N, rounds_41_15 N⟩)
theorem grun_41 {R : Type} (q_39 : Tp_39 R) (m_41_7 : Tl_41_7 R) (m_41_15 : Tl_41_15 R) (m_41_2 : Tl_41_2 R) (x : aden ap_41 × hden hp_41) (k : KF R) : fnrun TT (EG_41 q_39) (drawOk TT QQ) (LG_41 m_41_7 m_41_15 m_41_2) true Try.f41 (instA ap_41 x.1) (instH hp_41 x.2) k = Q_41 q_39 m_41_7 m_41_15 m_41_2 x (fun y => k (Pat.inst (.vec (.int .u64) 16) y) (instH hp_41 x.2)) := by kernel_rfl
theorem run_41 {R : Type} (N : Nat) (x : aden ap_41 × hden hp_41) (k : KF R) : fnrun TT (E_41 (R := R) N) (drawOk TT QQ) (L_41 N) true Try.f41 (instA ap_41 x.1) (instH hp_41 x.2) k = p_41 N x (fun y => k (Pat.inst (.vec (.int .u64) 16) y) (instH hp_41 x.2)) := (grun_41 (p_39 N) (l_41_7 N N) (l_41_15 N N) (l_41_2 N N) x k).trans (by kernel_rfl)
theorem good_41 {R : Type} (N : Nat) : GD (X := R) Try.prog QQ 41 ap_41 hp_41 (fun (x : aden ap_41 × hden hp_41) k => p_41 N x (fun y => k (Pat.inst (.vec (.int .u64) 16) y) (instH hp_41 x.2))) :=
  gd_quiet (E := E_41 N) (p := fun (x : aden ap_41 × hden hp_41) κ => p_41 N x (fun y => κ (Pat.inst (.vec (.int .u64) 16) y))) mixed tyok (eok_41 N) Try.func41 (by kernel_rfl) (by kernel_rfl) (lok_41 N) (fun x k => run_41 N x k)

def lv_45_9 : Live := [(1, none), (2, none), (3, none), (4, none), (5, none), (6, none)]
def pt_45_9 : SPat := ⟨[(1, .ptr 0 []), (2, .ptr 1 []), (3, .int .i64), (4, .int .i64), (5, .ptr 2 []), (6, .int .i64)], [some (.vec (.int .u64) 128, 70), some (.vec (.int .u64) 128, 70), some (.vec (.int .u64) 16, 62)]⟩
def px_45_9_0 : SPat := ⟨[(1, .ptr 0 []), (2, .ptr 1 []), (3, .int .i64), (4, .int .i64), (5, .ptr 2 [])], [some (.vec (.int .u64) 128, 70), some (.vec (.int .u64) 128, 70), some (.vec (.int .u64) 16, 62)]⟩
def lo_45_9 : Exit → Live
  | .exit 4 => [(1, none), (2, none), (3, none), (4, none), (5, none)]
  | _ => []
def B_45_9 {R : Type} (N : Nat) (rec : ((Unit × Unit × Int × Int × Unit × Int × Unit) × ((Nat → Int) × (Nat → Int) × (Nat → Int) × Unit)) → Option R) (x : ((Unit × Unit × Int × Int × Unit × Int × Unit) × ((Nat → Int) × (Nat → Int) × (Nat → Int) × Unit))) (κ0 : ((Unit × Unit × Int × Int × Unit × Unit) × ((Nat → Int) × (Nat → Int) × (Nat → Int) × Unit)) → Option R) : Option R :=
let i578 : Int := x.1.2.2.1
let i579 : Int := x.1.2.2.2.1
let i580 : Int := x.1.2.2.2.2.2.1
let a581 : (Nat → Int) := x.2.1
let a582 : (Nat → Int) := x.2.2.1
let a583 : (Nat → Int) := x.2.2.2.1
bif (decide (i580 < 16)) then (
let i584 : Int := quoA .i64 i580 2
bif (i578 == 1) then (
let i585 : Int := quoA .i64 i580 2
let i586 : Int := mulA .i64 16 i585
let i587 : Int := mulA .i64 2 i579
let i588 : Int := addA .i64 i586 i587
let i589 : Int := remA .i64 i580 2
let i590 : Int := addA .i64 i588 i589
bif decide (0 ≤ i590) then (
bif decide (i590 < (128 : Int)) then (
let i591 : Int := (a581 ((Int.toNat i590)))
bif decide (0 ≤ i580) then (
bif decide (i580 < (16 : Int)) then (
let a592 : (Nat → Int) := (upd a583 ((Int.toNat i580)) i591)
let i593 : Int := addA .i64 i580 1
rec (((), (), i578, i579, (), i593, ()), (a581, a582, a592, ()))) else none) else none) else none) else none) else (
let i594 : Int := mulA .i64 16 i579
let i595 : Int := mulA .i64 2 i584
let i596 : Int := addA .i64 i594 i595
let i597 : Int := remA .i64 i580 2
let i598 : Int := addA .i64 i596 i597
bif decide (0 ≤ i598) then (
bif decide (i598 < (128 : Int)) then (
let i599 : Int := (a581 ((Int.toNat i598)))
bif decide (0 ≤ i580) then (
bif decide (i580 < (16 : Int)) then (
let a600 : (Nat → Int) := (upd a583 ((Int.toNat i580)) i599)
let i601 : Int := addA .i64 i580 1
rec (((), (), i578, i579, (), i601, ()), (a581, a582, a600, ()))) else none) else none) else none) else none)) else (
κ0 (((), (), i578, i579, (), ()), (a581, a582, a583, ())))
def l_45_9 {R : Type} (N : Nat) : Nat → ((Unit × Unit × Int × Int × Unit × Int × Unit) × ((Nat → Int) × (Nat → Int) × (Nat → Int) × Unit)) → (((Unit × Unit × Int × Int × Unit × Unit) × ((Nat → Int) × (Nat → Int) × (Nat → Int) × Unit)) → Option R) → Option R
  | 0, _, _ => none
  | n + 1, x, κ0 => B_45_9 N (fun y => l_45_9 N n y κ0) x κ0
def lv_45_19 : Live := [(1, none), (2, none), (3, none), (4, none), (5, none), (9, none)]
def pt_45_19 : SPat := ⟨[(1, .ptr 0 []), (2, .ptr 1 []), (3, .int .i64), (4, .int .i64), (5, .ptr 2 []), (9, .int .i64)], [some (.vec (.int .u64) 128, 70), some (.vec (.int .u64) 128, 70), some (.vec (.int .u64) 16, 62)]⟩
def px_45_19_0 : SPat := ⟨[(1, .ptr 0 []), (2, .ptr 1 []), (3, .int .i64), (4, .int .i64)], [some (.vec (.int .u64) 128, 70), some (.vec (.int .u64) 128, 70)]⟩
def lo_45_19 : Exit → Live
  | .exit 6 => [(1, none), (2, none), (3, none), (4, none)]
  | _ => []
def B_45_19 {R : Type} (N : Nat) (rec : ((Unit × Unit × Int × Int × Unit × Int × Unit) × ((Nat → Int) × (Nat → Int) × (Nat → Int) × Unit)) → Option R) (x : ((Unit × Unit × Int × Int × Unit × Int × Unit) × ((Nat → Int) × (Nat → Int) × (Nat → Int) × Unit))) (κ0 : ((Unit × Unit × Int × Int × Unit) × ((Nat → Int) × (Nat → Int) × Unit)) → Option R) : Option R :=
let i723 : Int := x.1.2.2.1
let i724 : Int := x.1.2.2.2.1
let i725 : Int := x.1.2.2.2.2.2.1
let a726 : (Nat → Int) := x.2.1
let a727 : (Nat → Int) := x.2.2.1
let a728 : (Nat → Int) := x.2.2.2.1
bif (decide (i725 < 16)) then (
let i729 : Int := quoA .i64 i725 2
bif (i723 == 1) then (
let i730 : Int := quoA .i64 i725 2
let i731 : Int := mulA .i64 16 i730
let i732 : Int := mulA .i64 2 i724
let i733 : Int := addA .i64 i731 i732
let i734 : Int := remA .i64 i725 2
let i735 : Int := addA .i64 i733 i734
bif decide (0 ≤ i725) then (
bif decide (i725 < (16 : Int)) then (
let i736 : Int := (a728 ((Int.toNat i725)))
bif decide (0 ≤ i735) then (
bif decide (i735 < (128 : Int)) then (
let a737 : (Nat → Int) := (upd a726 ((Int.toNat i735)) i736)
let i738 : Int := addA .i64 i725 1
rec (((), (), i723, i724, (), i738, ()), (a737, a727, a728, ()))) else none) else none) else none) else none) else (
let i739 : Int := mulA .i64 16 i724
let i740 : Int := mulA .i64 2 i729
let i741 : Int := addA .i64 i739 i740
let i742 : Int := remA .i64 i725 2
let i743 : Int := addA .i64 i741 i742
bif decide (0 ≤ i725) then (
bif decide (i725 < (16 : Int)) then (
let i744 : Int := (a728 ((Int.toNat i725)))
bif decide (0 ≤ i743) then (
bif decide (i743 < (128 : Int)) then (
let a745 : (Nat → Int) := (upd a726 ((Int.toNat i743)) i744)
let i746 : Int := addA .i64 i725 1
rec (((), (), i723, i724, (), i746, ()), (a745, a727, a728, ()))) else none) else none) else none) else none)) else (
κ0 (((), (), i723, i724, ()), (a726, a727, ())))
def l_45_19 {R : Type} (N : Nat) : Nat → ((Unit × Unit × Int × Int × Unit × Int × Unit) × ((Nat → Int) × (Nat → Int) × (Nat → Int) × Unit)) → (((Unit × Unit × Int × Int × Unit) × ((Nat → Int) × (Nat → Int) × Unit)) → Option R) → Option R
  | 0, _, _ => none
  | n + 1, x, κ0 => B_45_19 N (fun y => l_45_19 N n y κ0) x κ0
def lv_45_5 : Live := [(1, none), (2, none), (3, none), (4, none)]
def pt_45_5 : SPat := ⟨[(1, .ptr 0 []), (2, .ptr 1 []), (3, .int .i64), (4, .int .i64)], [some (.vec (.int .u64) 128, 70), some (.vec (.int .u64) 128, 70)]⟩
def px_45_5_0 : SPat := ⟨[(1, .ptr 0 []), (2, .ptr 1 []), (3, .int .i64)], [some (.vec (.int .u64) 128, 70), some (.vec (.int .u64) 128, 70)]⟩
def lo_45_5 : Exit → Live
  | .exit 2 => [(1, none), (2, none), (3, none)]
  | _ => []
def B_45_5 {R : Type} (N : Nat) (rec : ((Unit × Unit × Int × Int × Unit) × ((Nat → Int) × (Nat → Int) × Unit)) → Option R) (x : ((Unit × Unit × Int × Int × Unit) × ((Nat → Int) × (Nat → Int) × Unit))) (κ0 : ((Unit × Unit × Int × Unit) × ((Nat → Int) × (Nat → Int) × Unit)) → Option R) : Option R :=
let i574 : Int := x.1.2.2.1
let i575 : Int := x.1.2.2.2.1
let a576 : (Nat → Int) := x.2.1
let a577 : (Nat → Int) := x.2.2.1
bif (decide (i575 < 8)) then (
l_45_9 N N (((), (), i574, i575, (), 0, ()), (a576, a577, (Sch.zero (.arr 16 (.int .u64))), ())) (fun y602 =>
let i603 : Int := y602.1.2.2.1
let i604 : Int := y602.1.2.2.2.1
let a605 : (Nat → Int) := y602.2.1
let a606 : (Nat → Int) := y602.2.2.1
let a607 : (Nat → Int) := y602.2.2.2.1
p_41 N ((a607, ()), ()) (fun y721 =>
let a722 : (Nat → Int) := y721
l_45_19 N N (((), (), i603, i604, (), 0, ()), (a605, a606, a722, ())) (fun y747 =>
let i748 : Int := y747.1.2.2.1
let i749 : Int := y747.1.2.2.2.1
let a750 : (Nat → Int) := y747.2.1
let a751 : (Nat → Int) := y747.2.2.1
let i752 : Int := addA .i64 i749 1
rec (((), (), i748, i752, ()), (a750, a751, ())))))) else (
κ0 (((), (), i574, ()), (a576, a577, ())))
def l_45_5 {R : Type} (N : Nat) : Nat → ((Unit × Unit × Int × Int × Unit) × ((Nat → Int) × (Nat → Int) × Unit)) → (((Unit × Unit × Int × Unit) × ((Nat → Int) × (Nat → Int) × Unit)) → Option R) → Option R
  | 0, _, _ => none
  | n + 1, x, κ0 => B_45_5 N (fun y => l_45_5 N n y κ0) x κ0
def lv_45_2 : Live := [(1, none), (2, none), (3, none)]
def pt_45_2 : SPat := ⟨[(1, .ptr 0 []), (2, .ptr 1 []), (3, .int .i64)], [some (.vec (.int .u64) 128, 70), some (.vec (.int .u64) 128, 70)]⟩
def px_45_2_0 : SPat := ⟨[(1, .ptr 0 []), (2, .ptr 1 [])], [some (.vec (.int .u64) 128, 70), some (.vec (.int .u64) 128, 70)]⟩
def lo_45_2 : Exit → Live
  | .exit 0 => [(1, none), (2, none)]
  | _ => []
def B_45_2 {R : Type} (N : Nat) (rec : ((Unit × Unit × Int × Unit) × ((Nat → Int) × (Nat → Int) × Unit)) → Option R) (x : ((Unit × Unit × Int × Unit) × ((Nat → Int) × (Nat → Int) × Unit))) (κ0 : ((Unit × Unit × Unit) × ((Nat → Int) × (Nat → Int) × Unit)) → Option R) : Option R :=
let i571 : Int := x.1.2.2.1
let a572 : (Nat → Int) := x.2.1
let a573 : (Nat → Int) := x.2.2.1
bif (decide (i571 < 2)) then (
l_45_5 N N (((), (), i571, 0, ()), (a572, a573, ())) (fun y753 =>
let i754 : Int := y753.1.2.2.1
let a755 : (Nat → Int) := y753.2.1
let a756 : (Nat → Int) := y753.2.2.1
let i757 : Int := addA .i64 i754 1
rec (((), (), i757, ()), (a755, a756, ())))) else (
κ0 (((), (), ()), (a572, a573, ())))
def l_45_2 {R : Type} (N : Nat) : Nat → ((Unit × Unit × Int × Unit) × ((Nat → Int) × (Nat → Int) × Unit)) → (((Unit × Unit × Unit) × ((Nat → Int) × (Nat → Int) × Unit)) → Option R) → Option R
  | 0, _, _ => none
  | n + 1, x, κ0 => B_45_2 N (fun y => l_45_2 N n y κ0) x κ0
def ap_45 : List Pat := [.vec (.int .u64) 128]
def hp_45 : List (Option (Pat × Nat)) := []
def p_45 {R : Type} (N : Nat) (x : ((Nat → Int) × Unit) × (Unit)) (κ0 : (Nat → Int) → Option R) : Option R :=
let a570 : (Nat → Int) := x.1.1
l_45_2 N N (((), (), 0, ()), (a570, (Sch.zero (.arr 128 (.int .u64))), ())) (fun y758 =>
let a759 : (Nat → Int) := y758.2.1
let a760 : (Nat → Int) := y758.2.2.1
κ0 a759)

abbrev Tl_45_9 (R : Type) : Type := ((Unit × Unit × Int × Int × Unit × Int × Unit) × ((Nat → Int) × (Nat → Int) × (Nat → Int) × Unit)) → (((Unit × Unit × Int × Int × Unit × Unit) × ((Nat → Int) × (Nat → Int) × (Nat → Int) × Unit)) → Option R) → Option R
abbrev Tl_45_19 (R : Type) : Type := ((Unit × Unit × Int × Int × Unit × Int × Unit) × ((Nat → Int) × (Nat → Int) × (Nat → Int) × Unit)) → (((Unit × Unit × Int × Int × Unit) × ((Nat → Int) × (Nat → Int) × Unit)) → Option R) → Option R
abbrev Tl_45_5 (R : Type) : Type := ((Unit × Unit × Int × Int × Unit) × ((Nat → Int) × (Nat → Int) × Unit)) → (((Unit × Unit × Int × Unit) × ((Nat → Int) × (Nat → Int) × Unit)) → Option R) → Option R
abbrev Tl_45_2 (R : Type) : Type := ((Unit × Unit × Int × Unit) × ((Nat → Int) × (Nat → Int) × Unit)) → (((Unit × Unit × Unit) × ((Nat → Int) × (Nat → Int) × Unit)) → Option R) → Option R
abbrev Tp_45 (R : Type) : Type := ((Nat → Int) × Unit) × (Unit) → ((Nat → Int) → Option R) → Option R
def Q_45 {R : Type} (q_41 : Tp_41 R) (m_45_9 : Tl_45_9 R) (m_45_19 : Tl_45_19 R) (m_45_5 : Tl_45_5 R) (m_45_2 : Tl_45_2 R) (x : ((Nat → Int) × Unit) × (Unit)) (κ0 : (Nat → Int) → Option R) : Option R :=
let a570 : (Nat → Int) := x.1.1
m_45_2 (((), (), 0, ()), (a570, (Sch.zero (.arr 128 (.int .u64))), ())) (fun y758 =>
let a759 : (Nat → Int) := y758.2.1
let a760 : (Nat → Int) := y758.2.2.1
κ0 a759)
def C_45_9 {R : Type} (q_41 : Tp_41 R) (m_45_9 : Tl_45_9 R) (m_45_19 : Tl_45_19 R) (m_45_5 : Tl_45_5 R) (m_45_2 : Tl_45_2 R) (rec : ((Unit × Unit × Int × Int × Unit × Int × Unit) × ((Nat → Int) × (Nat → Int) × (Nat → Int) × Unit)) → Option R) (x : ((Unit × Unit × Int × Int × Unit × Int × Unit) × ((Nat → Int) × (Nat → Int) × (Nat → Int) × Unit))) (κ0 : ((Unit × Unit × Int × Int × Unit × Unit) × ((Nat → Int) × (Nat → Int) × (Nat → Int) × Unit)) → Option R) : Option R :=
let i578 : Int := x.1.2.2.1
let i579 : Int := x.1.2.2.2.1
let i580 : Int := x.1.2.2.2.2.2.1
let a581 : (Nat → Int) := x.2.1
let a582 : (Nat → Int) := x.2.2.1
let a583 : (Nat → Int) := x.2.2.2.1
bif (decide (i580 < 16)) then (
let i584 : Int := quoA .i64 i580 2
bif (i578 == 1) then (
let i585 : Int := quoA .i64 i580 2
let i586 : Int := mulA .i64 16 i585
let i587 : Int := mulA .i64 2 i579
let i588 : Int := addA .i64 i586 i587
let i589 : Int := remA .i64 i580 2
let i590 : Int := addA .i64 i588 i589
bif decide (0 ≤ i590) then (
bif decide (i590 < (128 : Int)) then (
let i591 : Int := (a581 ((Int.toNat i590)))
bif decide (0 ≤ i580) then (
bif decide (i580 < (16 : Int)) then (
let a592 : (Nat → Int) := (upd a583 ((Int.toNat i580)) i591)
let i593 : Int := addA .i64 i580 1
rec (((), (), i578, i579, (), i593, ()), (a581, a582, a592, ()))) else none) else none) else none) else none) else (
let i594 : Int := mulA .i64 16 i579
let i595 : Int := mulA .i64 2 i584
let i596 : Int := addA .i64 i594 i595
let i597 : Int := remA .i64 i580 2
let i598 : Int := addA .i64 i596 i597
bif decide (0 ≤ i598) then (
bif decide (i598 < (128 : Int)) then (
let i599 : Int := (a581 ((Int.toNat i598)))
bif decide (0 ≤ i580) then (
bif decide (i580 < (16 : Int)) then (
let a600 : (Nat → Int) := (upd a583 ((Int.toNat i580)) i599)
let i601 : Int := addA .i64 i580 1
rec (((), (), i578, i579, (), i601, ()), (a581, a582, a600, ()))) else none) else none) else none) else none)) else (
κ0 (((), (), i578, i579, (), ()), (a581, a582, a583, ())))
def C_45_19 {R : Type} (q_41 : Tp_41 R) (m_45_9 : Tl_45_9 R) (m_45_19 : Tl_45_19 R) (m_45_5 : Tl_45_5 R) (m_45_2 : Tl_45_2 R) (rec : ((Unit × Unit × Int × Int × Unit × Int × Unit) × ((Nat → Int) × (Nat → Int) × (Nat → Int) × Unit)) → Option R) (x : ((Unit × Unit × Int × Int × Unit × Int × Unit) × ((Nat → Int) × (Nat → Int) × (Nat → Int) × Unit))) (κ0 : ((Unit × Unit × Int × Int × Unit) × ((Nat → Int) × (Nat → Int) × Unit)) → Option R) : Option R :=
let i723 : Int := x.1.2.2.1
let i724 : Int := x.1.2.2.2.1
let i725 : Int := x.1.2.2.2.2.2.1
let a726 : (Nat → Int) := x.2.1
let a727 : (Nat → Int) := x.2.2.1
let a728 : (Nat → Int) := x.2.2.2.1
bif (decide (i725 < 16)) then (
let i729 : Int := quoA .i64 i725 2
bif (i723 == 1) then (
let i730 : Int := quoA .i64 i725 2
let i731 : Int := mulA .i64 16 i730
let i732 : Int := mulA .i64 2 i724
let i733 : Int := addA .i64 i731 i732
let i734 : Int := remA .i64 i725 2
let i735 : Int := addA .i64 i733 i734
bif decide (0 ≤ i725) then (
bif decide (i725 < (16 : Int)) then (
let i736 : Int := (a728 ((Int.toNat i725)))
bif decide (0 ≤ i735) then (
bif decide (i735 < (128 : Int)) then (
let a737 : (Nat → Int) := (upd a726 ((Int.toNat i735)) i736)
let i738 : Int := addA .i64 i725 1
rec (((), (), i723, i724, (), i738, ()), (a737, a727, a728, ()))) else none) else none) else none) else none) else (
let i739 : Int := mulA .i64 16 i724
let i740 : Int := mulA .i64 2 i729
let i741 : Int := addA .i64 i739 i740
let i742 : Int := remA .i64 i725 2
let i743 : Int := addA .i64 i741 i742
bif decide (0 ≤ i725) then (
bif decide (i725 < (16 : Int)) then (
let i744 : Int := (a728 ((Int.toNat i725)))
bif decide (0 ≤ i743) then (
bif decide (i743 < (128 : Int)) then (
let a745 : (Nat → Int) := (upd a726 ((Int.toNat i743)) i744)
let i746 : Int := addA .i64 i725 1
rec (((), (), i723, i724, (), i746, ()), (a745, a727, a728, ()))) else none) else none) else none) else none)) else (
κ0 (((), (), i723, i724, ()), (a726, a727, ())))
def C_45_5 {R : Type} (q_41 : Tp_41 R) (m_45_9 : Tl_45_9 R) (m_45_19 : Tl_45_19 R) (m_45_5 : Tl_45_5 R) (m_45_2 : Tl_45_2 R) (rec : ((Unit × Unit × Int × Int × Unit) × ((Nat → Int) × (Nat → Int) × Unit)) → Option R) (x : ((Unit × Unit × Int × Int × Unit) × ((Nat → Int) × (Nat → Int) × Unit))) (κ0 : ((Unit × Unit × Int × Unit) × ((Nat → Int) × (Nat → Int) × Unit)) → Option R) : Option R :=
let i574 : Int := x.1.2.2.1
let i575 : Int := x.1.2.2.2.1
let a576 : (Nat → Int) := x.2.1
let a577 : (Nat → Int) := x.2.2.1
bif (decide (i575 < 8)) then (
m_45_9 (((), (), i574, i575, (), 0, ()), (a576, a577, (Sch.zero (.arr 16 (.int .u64))), ())) (fun y602 =>
let i603 : Int := y602.1.2.2.1
let i604 : Int := y602.1.2.2.2.1
let a605 : (Nat → Int) := y602.2.1
let a606 : (Nat → Int) := y602.2.2.1
let a607 : (Nat → Int) := y602.2.2.2.1
q_41 ((a607, ()), ()) (fun y721 =>
let a722 : (Nat → Int) := y721
m_45_19 (((), (), i603, i604, (), 0, ()), (a605, a606, a722, ())) (fun y747 =>
let i748 : Int := y747.1.2.2.1
let i749 : Int := y747.1.2.2.2.1
let a750 : (Nat → Int) := y747.2.1
let a751 : (Nat → Int) := y747.2.2.1
let i752 : Int := addA .i64 i749 1
rec (((), (), i748, i752, ()), (a750, a751, ())))))) else (
κ0 (((), (), i574, ()), (a576, a577, ())))
def C_45_2 {R : Type} (q_41 : Tp_41 R) (m_45_9 : Tl_45_9 R) (m_45_19 : Tl_45_19 R) (m_45_5 : Tl_45_5 R) (m_45_2 : Tl_45_2 R) (rec : ((Unit × Unit × Int × Unit) × ((Nat → Int) × (Nat → Int) × Unit)) → Option R) (x : ((Unit × Unit × Int × Unit) × ((Nat → Int) × (Nat → Int) × Unit))) (κ0 : ((Unit × Unit × Unit) × ((Nat → Int) × (Nat → Int) × Unit)) → Option R) : Option R :=
let i571 : Int := x.1.2.2.1
let a572 : (Nat → Int) := x.2.1
let a573 : (Nat → Int) := x.2.2.1
bif (decide (i571 < 2)) then (
m_45_5 (((), (), i571, 0, ()), (a572, a573, ())) (fun y753 =>
let i754 : Int := y753.1.2.2.1
let a755 : (Nat → Int) := y753.2.1
let a756 : (Nat → Int) := y753.2.2.1
let i757 : Int := addA .i64 i754 1
rec (((), (), i757, ()), (a755, a756, ())))) else (
κ0 (((), (), ()), (a572, a573, ())))
def EG_45 {R : Type} (q_41 : Tp_41 R) : Env R := (Env.base QQ LN).add 41 ap_41 hp_41 (fun (x : aden ap_41 × hden hp_41) k => q_41 x (fun y => k (Pat.inst (.vec (.int .u64) 16) y) (instH hp_41 x.2)))
def LG_45 {R : Type} (m_45_9 : Tl_45_9 R) (m_45_19 : Tl_45_19 R) (m_45_5 : Tl_45_5 R) (m_45_2 : Tl_45_2 R) : Loops R := ((((Loops.none).add 9 (loopBy 0 lv_45_9 pt_45_9 (fun x k => m_45_9 x (fun y => k (.exit 4) (px_45_9_0.inst y))))).add 19 (loopBy 0 lv_45_19 pt_45_19 (fun x k => m_45_19 x (fun y => k (.exit 6) (px_45_19_0.inst y))))).add 5 (loopBy 0 lv_45_5 pt_45_5 (fun x k => m_45_5 x (fun y => k (.exit 2) (px_45_5_0.inst y))))).add 2 (loopBy 0 lv_45_2 pt_45_2 (fun x k => m_45_2 x (fun y => k (.exit 0) (px_45_2_0.inst y))))
def E_45 {R : Type} (N : Nat) : Env R := EG_45 (p_41 N)
theorem eok_45 {R : Type} (N : Nat) : EK Try.prog (E_45 (R := R) N) := ek_add (ek_base _ _) (good_41 N)
def L_45 {R : Type} (N : Nat) : Loops R := LG_45 (l_45_9 N N) (l_45_19 N N) (l_45_5 N N) (l_45_2 N N)
theorem gstep_45_9 {R : Type} (q_41 : Tp_41 R) (m_45_9 : Tl_45_9 R) (m_45_19 : Tl_45_19 R) (m_45_5 : Tl_45_5 R) (m_45_2 : Tl_45_2 R) (n : Nat) (x : pt_45_9.den) (k : Exit → St → Option R) : iter 0 lv_45_9 lo_45_9 (aexec TT (EG_45 q_41) (drawOk TT QQ) (LG_45 m_45_9 m_45_19 m_45_5 m_45_2) (loopAt 9 (bodyOf Try.f45))) (n + 1) (pt_45_9.inst x) k = C_45_9 q_41 m_45_9 m_45_19 m_45_5 m_45_2 (fun y => iter 0 lv_45_9 lo_45_9 (aexec TT (EG_45 q_41) (drawOk TT QQ) (LG_45 m_45_9 m_45_19 m_45_5 m_45_2) (loopAt 9 (bodyOf Try.f45))) n (pt_45_9.inst y) k) x (fun y => k (.exit 4) (px_45_9_0.inst y)) := by kernel_rfl
theorem step_45_9 {R : Type} (N n : Nat) (x : pt_45_9.den) (k : Exit → St → Option R) : iter 0 lv_45_9 lo_45_9 (aexec TT (E_45 (R := R) N) (drawOk TT QQ) (L_45 N) (loopAt 9 (bodyOf Try.f45))) (n + 1) (pt_45_9.inst x) k = B_45_9 N (fun y => iter 0 lv_45_9 lo_45_9 (aexec TT (E_45 (R := R) N) (drawOk TT QQ) (L_45 N) (loopAt 9 (bodyOf Try.f45))) n (pt_45_9.inst y) k) x (fun y => k (.exit 4) (px_45_9_0.inst y)) := (gstep_45_9 (p_41 N) (l_45_9 N N) (l_45_19 N N) (l_45_5 N N) (l_45_2 N N) n x k).trans (by kernel_rfl)
theorem eq_45_9 {R : Type} (N : Nat) : ∀ (n : Nat) (x : pt_45_9.den) (k : Exit → St → Option R), iter 0 lv_45_9 lo_45_9 (aexec TT (E_45 (R := R) N) (drawOk TT QQ) (L_45 N) (loopAt 9 (bodyOf Try.f45))) n (pt_45_9.inst x) k = l_45_9 N n x (fun y => k (.exit 4) (px_45_9_0.inst y)) :=
  iter_eq (K := Exit → St → Option R) (ks := fun k => k) (l := fun n (x : pt_45_9.den) k => l_45_9 N n x (fun y => k (.exit 4) (px_45_9_0.inst y))) (B := fun (rec : pt_45_9.den → Option R) (x : pt_45_9.den) k => B_45_9 N rec x (fun y => k (.exit 4) (px_45_9_0.inst y))) (fun _ _ => rfl) (fun _ _ _ => rfl) (fun n x k => step_45_9 N n x k)
theorem rounds_45_9 {R : Type} (N : Nat) : Rounds 0 TT (E_45 (R := R) N) (drawOk TT QQ) (L_45 N) 9 (loopAt 9 (bodyOf Try.f45)) :=
  rounds_of (p := pt_45_9) (l := fun (x : pt_45_9.den) k => l_45_9 N N x (fun y => k (.exit 4) (px_45_9_0.inst y))) (fun s k => rfl) (fun x k => eq_45_9 N N x k)
theorem gstep_45_19 {R : Type} (q_41 : Tp_41 R) (m_45_9 : Tl_45_9 R) (m_45_19 : Tl_45_19 R) (m_45_5 : Tl_45_5 R) (m_45_2 : Tl_45_2 R) (n : Nat) (x : pt_45_19.den) (k : Exit → St → Option R) : iter 0 lv_45_19 lo_45_19 (aexec TT (EG_45 q_41) (drawOk TT QQ) (LG_45 m_45_9 m_45_19 m_45_5 m_45_2) (loopAt 19 (bodyOf Try.f45))) (n + 1) (pt_45_19.inst x) k = C_45_19 q_41 m_45_9 m_45_19 m_45_5 m_45_2 (fun y => iter 0 lv_45_19 lo_45_19 (aexec TT (EG_45 q_41) (drawOk TT QQ) (LG_45 m_45_9 m_45_19 m_45_5 m_45_2) (loopAt 19 (bodyOf Try.f45))) n (pt_45_19.inst y) k) x (fun y => k (.exit 6) (px_45_19_0.inst y)) := by kernel_rfl
theorem step_45_19 {R : Type} (N n : Nat) (x : pt_45_19.den) (k : Exit → St → Option R) : iter 0 lv_45_19 lo_45_19 (aexec TT (E_45 (R := R) N) (drawOk TT QQ) (L_45 N) (loopAt 19 (bodyOf Try.f45))) (n + 1) (pt_45_19.inst x) k = B_45_19 N (fun y => iter 0 lv_45_19 lo_45_19 (aexec TT (E_45 (R := R) N) (drawOk TT QQ) (L_45 N) (loopAt 19 (bodyOf Try.f45))) n (pt_45_19.inst y) k) x (fun y => k (.exit 6) (px_45_19_0.inst y)) := (gstep_45_19 (p_41 N) (l_45_9 N N) (l_45_19 N N) (l_45_5 N N) (l_45_2 N N) n x k).trans (by kernel_rfl)
theorem eq_45_19 {R : Type} (N : Nat) : ∀ (n : Nat) (x : pt_45_19.den) (k : Exit → St → Option R), iter 0 lv_45_19 lo_45_19 (aexec TT (E_45 (R := R) N) (drawOk TT QQ) (L_45 N) (loopAt 19 (bodyOf Try.f45))) n (pt_45_19.inst x) k = l_45_19 N n x (fun y => k (.exit 6) (px_45_19_0.inst y)) :=
  iter_eq (K := Exit → St → Option R) (ks := fun k => k) (l := fun n (x : pt_45_19.den) k => l_45_19 N n x (fun y => k (.exit 6) (px_45_19_0.inst y))) (B := fun (rec : pt_45_19.den → Option R) (x : pt_45_19.den) k => B_45_19 N rec x (fun y => k (.exit 6) (px_45_19_0.inst y))) (fun _ _ => rfl) (fun _ _ _ => rfl) (fun n x k => step_45_19 N n x k)
theorem rounds_45_19 {R : Type} (N : Nat) : Rounds 0 TT (E_45 (R := R) N) (drawOk TT QQ) (L_45 N) 19 (loopAt 19 (bodyOf Try.f45)) :=
  rounds_of (p := pt_45_19) (l := fun (x : pt_45_19.den) k => l_45_19 N N x (fun y => k (.exit 6) (px_45_19_0.inst y))) (fun s k => rfl) (fun x k => eq_45_19 N N x k)
theorem gstep_45_5 {R : Type} (q_41 : Tp_41 R) (m_45_9 : Tl_45_9 R) (m_45_19 : Tl_45_19 R) (m_45_5 : Tl_45_5 R) (m_45_2 : Tl_45_2 R) (n : Nat) (x : pt_45_5.den) (k : Exit → St → Option R) : iter 0 lv_45_5 lo_45_5 (aexec TT (EG_45 q_41) (drawOk TT QQ) (LG_45 m_45_9 m_45_19 m_45_5 m_45_2) (loopAt 5 (bodyOf Try.f45))) (n + 1) (pt_45_5.inst x) k = C_45_5 q_41 m_45_9 m_45_19 m_45_5 m_45_2 (fun y => iter 0 lv_45_5 lo_45_5 (aexec TT (EG_45 q_41) (drawOk TT QQ) (LG_45 m_45_9 m_45_19 m_45_5 m_45_2) (loopAt 5 (bodyOf Try.f45))) n (pt_45_5.inst y) k) x (fun y => k (.exit 2) (px_45_5_0.inst y)) := by kernel_rfl
theorem step_45_5 {R : Type} (N n : Nat) (x : pt_45_5.den) (k : Exit → St → Option R) : iter 0 lv_45_5 lo_45_5 (aexec TT (E_45 (R := R) N) (drawOk TT QQ) (L_45 N) (loopAt 5 (bodyOf Try.f45))) (n + 1) (pt_45_5.inst x) k = B_45_5 N (fun y => iter 0 lv_45_5 lo_45_5 (aexec TT (E_45 (R := R) N) (drawOk TT QQ) (L_45 N) (loopAt 5 (bodyOf Try.f45))) n (pt_45_5.inst y) k) x (fun y => k (.exit 2) (px_45_5_0.inst y)) := (gstep_45_5 (p_41 N) (l_45_9 N N) (l_45_19 N N) (l_45_5 N N) (l_45_2 N N) n x k).trans (by kernel_rfl)
theorem eq_45_5 {R : Type} (N : Nat) : ∀ (n : Nat) (x : pt_45_5.den) (k : Exit → St → Option R), iter 0 lv_45_5 lo_45_5 (aexec TT (E_45 (R := R) N) (drawOk TT QQ) (L_45 N) (loopAt 5 (bodyOf Try.f45))) n (pt_45_5.inst x) k = l_45_5 N n x (fun y => k (.exit 2) (px_45_5_0.inst y)) :=
  iter_eq (K := Exit → St → Option R) (ks := fun k => k) (l := fun n (x : pt_45_5.den) k => l_45_5 N n x (fun y => k (.exit 2) (px_45_5_0.inst y))) (B := fun (rec : pt_45_5.den → Option R) (x : pt_45_5.den) k => B_45_5 N rec x (fun y => k (.exit 2) (px_45_5_0.inst y))) (fun _ _ => rfl) (fun _ _ _ => rfl) (fun n x k => step_45_5 N n x k)
theorem rounds_45_5 {R : Type} (N : Nat) : Rounds 0 TT (E_45 (R := R) N) (drawOk TT QQ) (L_45 N) 5 (loopAt 5 (bodyOf Try.f45)) :=
  rounds_of (p := pt_45_5) (l := fun (x : pt_45_5.den) k => l_45_5 N N x (fun y => k (.exit 2) (px_45_5_0.inst y))) (fun s k => rfl) (fun x k => eq_45_5 N N x k)
theorem gstep_45_2 {R : Type} (q_41 : Tp_41 R) (m_45_9 : Tl_45_9 R) (m_45_19 : Tl_45_19 R) (m_45_5 : Tl_45_5 R) (m_45_2 : Tl_45_2 R) (n : Nat) (x : pt_45_2.den) (k : Exit → St → Option R) : iter 0 lv_45_2 lo_45_2 (aexec TT (EG_45 q_41) (drawOk TT QQ) (LG_45 m_45_9 m_45_19 m_45_5 m_45_2) (loopAt 2 (bodyOf Try.f45))) (n + 1) (pt_45_2.inst x) k = C_45_2 q_41 m_45_9 m_45_19 m_45_5 m_45_2 (fun y => iter 0 lv_45_2 lo_45_2 (aexec TT (EG_45 q_41) (drawOk TT QQ) (LG_45 m_45_9 m_45_19 m_45_5 m_45_2) (loopAt 2 (bodyOf Try.f45))) n (pt_45_2.inst y) k) x (fun y => k (.exit 0) (px_45_2_0.inst y)) := by kernel_rfl
theorem step_45_2 {R : Type} (N n : Nat) (x : pt_45_2.den) (k : Exit → St → Option R) : iter 0 lv_45_2 lo_45_2 (aexec TT (E_45 (R := R) N) (drawOk TT QQ) (L_45 N) (loopAt 2 (bodyOf Try.f45))) (n + 1) (pt_45_2.inst x) k = B_45_2 N (fun y => iter 0 lv_45_2 lo_45_2 (aexec TT (E_45 (R := R) N) (drawOk TT QQ) (L_45 N) (loopAt 2 (bodyOf Try.f45))) n (pt_45_2.inst y) k) x (fun y => k (.exit 0) (px_45_2_0.inst y)) := (gstep_45_2 (p_41 N) (l_45_9 N N) (l_45_19 N N) (l_45_5 N N) (l_45_2 N N) n x k).trans (by kernel_rfl)
theorem eq_45_2 {R : Type} (N : Nat) : ∀ (n : Nat) (x : pt_45_2.den) (k : Exit → St → Option R), iter 0 lv_45_2 lo_45_2 (aexec TT (E_45 (R := R) N) (drawOk TT QQ) (L_45 N) (loopAt 2 (bodyOf Try.f45))) n (pt_45_2.inst x) k = l_45_2 N n x (fun y => k (.exit 0) (px_45_2_0.inst y)) :=
  iter_eq (K := Exit → St → Option R) (ks := fun k => k) (l := fun n (x : pt_45_2.den) k => l_45_2 N n x (fun y => k (.exit 0) (px_45_2_0.inst y))) (B := fun (rec : pt_45_2.den → Option R) (x : pt_45_2.den) k => B_45_2 N rec x (fun y => k (.exit 0) (px_45_2_0.inst y))) (fun _ _ => rfl) (fun _ _ _ => rfl) (fun n x k => step_45_2 N n x k)
theorem rounds_45_2 {R : Type} (N : Nat) : Rounds 0 TT (E_45 (R := R) N) (drawOk TT QQ) (L_45 N) 2 (loopAt 2 (bodyOf Try.f45)) :=
  rounds_of (p := pt_45_2) (l := fun (x : pt_45_2.den) k => l_45_2 N N x (fun y => k (.exit 0) (px_45_2_0.inst y))) (fun s k => rfl) (fun x k => eq_45_2 N N x k)
theorem loops_45 : loopsIn (bodyOf Try.f45) = [(2, loopAt 2 (bodyOf Try.f45)), (5, loopAt 5 (bodyOf Try.f45)), (9, loopAt 9 (bodyOf Try.f45)), (19, loopAt 19 (bodyOf Try.f45))] := by kernel_rfl
theorem lok_45 {R : Type} (N : Nat) : LOK 0 TT (E_45 (R := R) N) (drawOk TT QQ) (L_45 N) (bodyOf Try.f45) := loops_all loops_45 (by
  simp only [List.forall_mem_cons, List.not_mem_nil, false_implies, implies_true, and_true]
  exact ⟨rounds_45_2 N, rounds_45_5 N, rounds_45_9 N, rounds_45_19 N⟩)
theorem grun_45 {R : Type} (q_41 : Tp_41 R) (m_45_9 : Tl_45_9 R) (m_45_19 : Tl_45_19 R) (m_45_5 : Tl_45_5 R) (m_45_2 : Tl_45_2 R) (x : aden ap_45 × hden hp_45) (k : KF R) : fnrun TT (EG_45 q_41) (drawOk TT QQ) (LG_45 m_45_9 m_45_19 m_45_5 m_45_2) true Try.f45 (instA ap_45 x.1) (instH hp_45 x.2) k = Q_45 q_41 m_45_9 m_45_19 m_45_5 m_45_2 x (fun y => k (Pat.inst (.vec (.int .u64) 128) y) (instH hp_45 x.2)) := by kernel_rfl
theorem run_45 {R : Type} (N : Nat) (x : aden ap_45 × hden hp_45) (k : KF R) : fnrun TT (E_45 (R := R) N) (drawOk TT QQ) (L_45 N) true Try.f45 (instA ap_45 x.1) (instH hp_45 x.2) k = p_45 N x (fun y => k (Pat.inst (.vec (.int .u64) 128) y) (instH hp_45 x.2)) := (grun_45 (p_41 N) (l_45_9 N N) (l_45_19 N N) (l_45_5 N N) (l_45_2 N N) x k).trans (by kernel_rfl)
theorem good_45 {R : Type} (N : Nat) : GD (X := R) Try.prog QQ 45 ap_45 hp_45 (fun (x : aden ap_45 × hden hp_45) k => p_45 N x (fun y => k (Pat.inst (.vec (.int .u64) 128) y) (instH hp_45 x.2))) :=
  gd_quiet (E := E_45 N) (p := fun (x : aden ap_45 × hden hp_45) κ => p_45 N x (fun y => κ (Pat.inst (.vec (.int .u64) 128) y))) mixed tyok (eok_45 N) Try.func45 (by kernel_rfl) (by kernel_rfl) (lok_45 N) (fun x k => run_45 N x k)

def ap_42 : List Pat := [.vec (.int .u64) 128, .vec (.int .u64) 128]
def hp_42 : List (Option (Pat × Nat)) := []
def p_42 {R : Type} (N : Nat) (x : ((Nat → Int) × (Nat → Int) × Unit) × (Unit)) (κ0 : (Nat → Int) → Option R) : Option R :=
let a539 : (Nat → Int) := x.1.1
let a540 : (Nat → Int) := x.1.2.1
let l541 : (List (Nat → Int)) := [a539, a540]
p_47 N ((l541, ()), ()) (fun y568 =>
let a569 : (Nat → Int) := y568
p_45 N ((a569, ()), ()) (fun y761 =>
let a762 : (Nat → Int) := y761
let l763 : (List (Nat → Int)) := [a569, a762]
p_47 N ((l763, ()), ()) (fun y764 =>
let a765 : (Nat → Int) := y764
κ0 a765)))

abbrev Tp_42 (R : Type) : Type := ((Nat → Int) × (Nat → Int) × Unit) × (Unit) → ((Nat → Int) → Option R) → Option R
def Q_42 {R : Type} (q_47 : Tp_47 R) (q_45 : Tp_45 R) (x : ((Nat → Int) × (Nat → Int) × Unit) × (Unit)) (κ0 : (Nat → Int) → Option R) : Option R :=
let a539 : (Nat → Int) := x.1.1
let a540 : (Nat → Int) := x.1.2.1
let l541 : (List (Nat → Int)) := [a539, a540]
q_47 ((l541, ()), ()) (fun y568 =>
let a569 : (Nat → Int) := y568
q_45 ((a569, ()), ()) (fun y761 =>
let a762 : (Nat → Int) := y761
let l763 : (List (Nat → Int)) := [a569, a762]
q_47 ((l763, ()), ()) (fun y764 =>
let a765 : (Nat → Int) := y764
κ0 a765)))
def EG_42 {R : Type} (q_47 : Tp_47 R) (q_45 : Tp_45 R) : Env R := ((Env.base QQ LN).add 47 ap_47 hp_47 (fun (x : aden ap_47 × hden hp_47) k => q_47 x (fun y => k (Pat.inst (.vec (.int .u64) 128) y) (instH hp_47 x.2)))).add 45 ap_45 hp_45 (fun (x : aden ap_45 × hden hp_45) k => q_45 x (fun y => k (Pat.inst (.vec (.int .u64) 128) y) (instH hp_45 x.2)))
def LG_42 {R : Type} : Loops R := Loops.none
def E_42 {R : Type} (N : Nat) : Env R := EG_42 (p_47 N) (p_45 N)
theorem eok_42 {R : Type} (N : Nat) : EK Try.prog (E_42 (R := R) N) := ek_add (ek_add (ek_base _ _) (good_47 N)) (good_45 N)
def L_42 {R : Type} (N : Nat) : Loops R := LG_42
theorem lok_42 {R : Type} (N : Nat) : LOK 0 TT (E_42 (R := R) N) (drawOk TT QQ) (L_42 N) (bodyOf Try.f42) := loops_nil (by kernel_rfl)
theorem grun_42 {R : Type} (q_47 : Tp_47 R) (q_45 : Tp_45 R) (x : aden ap_42 × hden hp_42) (k : KF R) : fnrun TT (EG_42 q_47 q_45) (drawOk TT QQ) (LG_42) true Try.f42 (instA ap_42 x.1) (instH hp_42 x.2) k = Q_42 q_47 q_45 x (fun y => k (Pat.inst (.vec (.int .u64) 128) y) (instH hp_42 x.2)) := by kernel_rfl
theorem run_42 {R : Type} (N : Nat) (x : aden ap_42 × hden hp_42) (k : KF R) : fnrun TT (E_42 (R := R) N) (drawOk TT QQ) (L_42 N) true Try.f42 (instA ap_42 x.1) (instH hp_42 x.2) k = p_42 N x (fun y => k (Pat.inst (.vec (.int .u64) 128) y) (instH hp_42 x.2)) := (grun_42 (p_47 N) (p_45 N) x k).trans (by kernel_rfl)
theorem good_42 {R : Type} (N : Nat) : GD (X := R) Try.prog QQ 42 ap_42 hp_42 (fun (x : aden ap_42 × hden hp_42) k => p_42 N x (fun y => k (Pat.inst (.vec (.int .u64) 128) y) (instH hp_42 x.2))) :=
  gd_quiet (E := E_42 N) (p := fun (x : aden ap_42 × hden hp_42) κ => p_42 N x (fun y => κ (Pat.inst (.vec (.int .u64) 128) y))) mixed tyok (eok_42 N) Try.func42 (by kernel_rfl) (by kernel_rfl) (lok_42 N) (fun x k => run_42 N x k)

def ap_72 : List Pat := [.node (.fcons (.int .i64) (.fcons (.int .i64) (.fcons (.int .i64) (.fcons (.int .i64) (.fcons (.int .i64) (.fcons (.int .i64) (.fcons (.int .i64) (.fcons (.int .i64) (.fnil))))))))), .int .i64, .int .i64, .int .i64, .int .i64]
def hp_72 : List (Option (Pat × Nat)) := []
def p_72 {R : Type} (N : Nat) (x : ((Int × (Int × (Int × (Int × (Int × (Int × (Int × (Int × Unit)))))))) × Int × Int × Int × Int × Unit) × (Unit)) (κ0 : (Nat → Int) → Option R) : Option R :=
let i510 : Int := x.1.1.1
let i511 : Int := x.1.1.2.1
let i512 : Int := x.1.1.2.2.1
let i513 : Int := x.1.1.2.2.2.1
let i514 : Int := x.1.1.2.2.2.2.1
let i515 : Int := x.1.1.2.2.2.2.2.1
let i516 : Int := x.1.1.2.2.2.2.2.2.1
let i517 : Int := x.1.1.2.2.2.2.2.2.2.1
let i518 : Int := x.1.2.1
let i519 : Int := x.1.2.2.1
let i520 : Int := x.1.2.2.2.1
let i521 : Int := x.1.2.2.2.2.1
let i522 : Int := IntKind.wrap .u64 i518
let a523 : (Nat → Int) := (upd ((Sch.zero (.arr 128 (.int .u64)))) 0 i522)
let i524 : Int := IntKind.wrap .u64 i520
let a525 : (Nat → Int) := (upd a523 1 i524)
let i526 : Int := IntKind.wrap .u64 i519
let a527 : (Nat → Int) := (upd a525 2 i526)
let i528 : Int := IntKind.wrap .u64 i514
let a529 : (Nat → Int) := (upd a527 3 i528)
let i530 : Int := IntKind.wrap .u64 i511
let a531 : (Nat → Int) := (upd a529 4 i530)
let i532 : Int := subA .i64 i510 1
let i533 : Int := IntKind.wrap .u64 i532
let a534 : (Nat → Int) := (upd a531 5 i533)
let i535 : Int := IntKind.wrap .u64 i521
let a536 : (Nat → Int) := (upd a534 6 i535)
let a537 : (Nat → Int) := (Sch.zero (.arr 128 (.int .u64)))
let a538 : (Nat → Int) := (Sch.zero (.arr 128 (.int .u64)))
p_42 N ((a538, a536, ()), ()) (fun y766 =>
let a767 : (Nat → Int) := y766
p_42 N ((a537, a767, ()), ()) (fun y768 =>
let a769 : (Nat → Int) := y768
κ0 a769))

abbrev Tp_72 (R : Type) : Type := ((Int × (Int × (Int × (Int × (Int × (Int × (Int × (Int × Unit)))))))) × Int × Int × Int × Int × Unit) × (Unit) → ((Nat → Int) → Option R) → Option R
def Q_72 {R : Type} (q_42 : Tp_42 R) (x : ((Int × (Int × (Int × (Int × (Int × (Int × (Int × (Int × Unit)))))))) × Int × Int × Int × Int × Unit) × (Unit)) (κ0 : (Nat → Int) → Option R) : Option R :=
let i510 : Int := x.1.1.1
let i511 : Int := x.1.1.2.1
let i512 : Int := x.1.1.2.2.1
let i513 : Int := x.1.1.2.2.2.1
let i514 : Int := x.1.1.2.2.2.2.1
let i515 : Int := x.1.1.2.2.2.2.2.1
let i516 : Int := x.1.1.2.2.2.2.2.2.1
let i517 : Int := x.1.1.2.2.2.2.2.2.2.1
let i518 : Int := x.1.2.1
let i519 : Int := x.1.2.2.1
let i520 : Int := x.1.2.2.2.1
let i521 : Int := x.1.2.2.2.2.1
let i522 : Int := IntKind.wrap .u64 i518
let a523 : (Nat → Int) := (upd ((Sch.zero (.arr 128 (.int .u64)))) 0 i522)
let i524 : Int := IntKind.wrap .u64 i520
let a525 : (Nat → Int) := (upd a523 1 i524)
let i526 : Int := IntKind.wrap .u64 i519
let a527 : (Nat → Int) := (upd a525 2 i526)
let i528 : Int := IntKind.wrap .u64 i514
let a529 : (Nat → Int) := (upd a527 3 i528)
let i530 : Int := IntKind.wrap .u64 i511
let a531 : (Nat → Int) := (upd a529 4 i530)
let i532 : Int := subA .i64 i510 1
let i533 : Int := IntKind.wrap .u64 i532
let a534 : (Nat → Int) := (upd a531 5 i533)
let i535 : Int := IntKind.wrap .u64 i521
let a536 : (Nat → Int) := (upd a534 6 i535)
let a537 : (Nat → Int) := (Sch.zero (.arr 128 (.int .u64)))
let a538 : (Nat → Int) := (Sch.zero (.arr 128 (.int .u64)))
q_42 ((a538, a536, ()), ()) (fun y766 =>
let a767 : (Nat → Int) := y766
q_42 ((a537, a767, ()), ()) (fun y768 =>
let a769 : (Nat → Int) := y768
κ0 a769))
def EG_72 {R : Type} (q_42 : Tp_42 R) : Env R := (Env.base QQ LN).add 42 ap_42 hp_42 (fun (x : aden ap_42 × hden hp_42) k => q_42 x (fun y => k (Pat.inst (.vec (.int .u64) 128) y) (instH hp_42 x.2)))
def LG_72 {R : Type} : Loops R := Loops.none
def E_72 {R : Type} (N : Nat) : Env R := EG_72 (p_42 N)
theorem eok_72 {R : Type} (N : Nat) : EK Try.prog (E_72 (R := R) N) := ek_add (ek_base _ _) (good_42 N)
def L_72 {R : Type} (N : Nat) : Loops R := LG_72
theorem lok_72 {R : Type} (N : Nat) : LOK 0 TT (E_72 (R := R) N) (drawOk TT QQ) (L_72 N) (bodyOf Try.f72) := loops_nil (by kernel_rfl)
theorem grun_72 {R : Type} (q_42 : Tp_42 R) (x : aden ap_72 × hden hp_72) (k : KF R) : fnrun TT (EG_72 q_42) (drawOk TT QQ) (LG_72) true Try.f72 (instA ap_72 x.1) (instH hp_72 x.2) k = Q_72 q_42 x (fun y => k (Pat.inst (.vec (.int .u64) 128) y) (instH hp_72 x.2)) := by kernel_rfl
theorem run_72 {R : Type} (N : Nat) (x : aden ap_72 × hden hp_72) (k : KF R) : fnrun TT (E_72 (R := R) N) (drawOk TT QQ) (L_72 N) true Try.f72 (instA ap_72 x.1) (instH hp_72 x.2) k = p_72 N x (fun y => k (Pat.inst (.vec (.int .u64) 128) y) (instH hp_72 x.2)) := (grun_72 (p_42 N) x k).trans (by kernel_rfl)
theorem good_72 {R : Type} (N : Nat) : GD (X := R) Try.prog QQ 72 ap_72 hp_72 (fun (x : aden ap_72 × hden hp_72) k => p_72 N x (fun y => k (Pat.inst (.vec (.int .u64) 128) y) (instH hp_72 x.2))) :=
  gd_quiet (E := E_72 N) (p := fun (x : aden ap_72 × hden hp_72) κ => p_72 N x (fun y => κ (Pat.inst (.vec (.int .u64) 128) y))) mixed tyok (eok_72 N) Try.func72 (by kernel_rfl) (by kernel_rfl) (lok_72 N) (fun x k => run_72 N x k)

def ap_78 : List Pat := [.node (.fcons (.int .i64) (.fcons (.int .i64) (.fcons (.int .i64) (.fcons (.int .i64) (.fcons (.int .i64) (.fcons (.int .i64) (.fcons (.int .i64) (.fcons (.int .i64) (.fnil))))))))), .int .i64, .int .i64, .int .i64, .int .i64]
def hp_78 : List (Option (Pat × Nat)) := []
def p_78 {R : Type} (N : Nat) (x : ((Int × (Int × (Int × (Int × (Int × (Int × (Int × (Int × Unit)))))))) × Int × Int × Int × Int × Unit) × (Unit)) (κ0 : Int → Option R) : Option R :=
let i496 : Int := x.1.1.1
let i497 : Int := x.1.1.2.1
let i498 : Int := x.1.1.2.2.1
let i499 : Int := x.1.1.2.2.2.1
let i500 : Int := x.1.1.2.2.2.2.1
let i501 : Int := x.1.1.2.2.2.2.2.1
let i502 : Int := x.1.1.2.2.2.2.2.2.1
let i503 : Int := x.1.1.2.2.2.2.2.2.2.1
let i504 : Int := x.1.2.1
let i505 : Int := x.1.2.2.1
let i506 : Int := x.1.2.2.2.1
let i507 : Int := x.1.2.2.2.2.1
let i508 : Int := quoA .i64 i507 128
let i509 : Int := addA .i64 i508 1
p_72 N (((i496, (i497, (i498, (i499, (i500, (i501, (i502, (i503, ())))))))), i504, i505, i506, i509, ()), ()) (fun y770 =>
let a771 : (Nat → Int) := y770
let i772 : Int := remA .i64 i507 128
bif decide (0 ≤ i772) then (
bif decide (i772 < (128 : Int)) then (
let i773 : Int := (a771 ((Int.toNat i772)))
κ0 i773) else none) else none)

abbrev Tp_78 (R : Type) : Type := ((Int × (Int × (Int × (Int × (Int × (Int × (Int × (Int × Unit)))))))) × Int × Int × Int × Int × Unit) × (Unit) → (Int → Option R) → Option R
def Q_78 {R : Type} (q_72 : Tp_72 R) (x : ((Int × (Int × (Int × (Int × (Int × (Int × (Int × (Int × Unit)))))))) × Int × Int × Int × Int × Unit) × (Unit)) (κ0 : Int → Option R) : Option R :=
let i496 : Int := x.1.1.1
let i497 : Int := x.1.1.2.1
let i498 : Int := x.1.1.2.2.1
let i499 : Int := x.1.1.2.2.2.1
let i500 : Int := x.1.1.2.2.2.2.1
let i501 : Int := x.1.1.2.2.2.2.2.1
let i502 : Int := x.1.1.2.2.2.2.2.2.1
let i503 : Int := x.1.1.2.2.2.2.2.2.2.1
let i504 : Int := x.1.2.1
let i505 : Int := x.1.2.2.1
let i506 : Int := x.1.2.2.2.1
let i507 : Int := x.1.2.2.2.2.1
let i508 : Int := quoA .i64 i507 128
let i509 : Int := addA .i64 i508 1
q_72 (((i496, (i497, (i498, (i499, (i500, (i501, (i502, (i503, ())))))))), i504, i505, i506, i509, ()), ()) (fun y770 =>
let a771 : (Nat → Int) := y770
let i772 : Int := remA .i64 i507 128
bif decide (0 ≤ i772) then (
bif decide (i772 < (128 : Int)) then (
let i773 : Int := (a771 ((Int.toNat i772)))
κ0 i773) else none) else none)
def EG_78 {R : Type} (q_72 : Tp_72 R) : Env R := (Env.base QQ LN).add 72 ap_72 hp_72 (fun (x : aden ap_72 × hden hp_72) k => q_72 x (fun y => k (Pat.inst (.vec (.int .u64) 128) y) (instH hp_72 x.2)))
def LG_78 {R : Type} : Loops R := Loops.none
def E_78 {R : Type} (N : Nat) : Env R := EG_78 (p_72 N)
theorem eok_78 {R : Type} (N : Nat) : EK Try.prog (E_78 (R := R) N) := ek_add (ek_base _ _) (good_72 N)
def L_78 {R : Type} (N : Nat) : Loops R := LG_78
theorem lok_78 {R : Type} (N : Nat) : LOK 0 TT (E_78 (R := R) N) (drawOk TT QQ) (L_78 N) (bodyOf Try.f78) := loops_nil (by kernel_rfl)
theorem grun_78 {R : Type} (q_72 : Tp_72 R) (x : aden ap_78 × hden hp_78) (k : KF R) : fnrun TT (EG_78 q_72) (drawOk TT QQ) (LG_78) true Try.f78 (instA ap_78 x.1) (instH hp_78 x.2) k = Q_78 q_72 x (fun y => k (Pat.inst (.int .u64) y) (instH hp_78 x.2)) := by kernel_rfl
theorem run_78 {R : Type} (N : Nat) (x : aden ap_78 × hden hp_78) (k : KF R) : fnrun TT (E_78 (R := R) N) (drawOk TT QQ) (L_78 N) true Try.f78 (instA ap_78 x.1) (instH hp_78 x.2) k = p_78 N x (fun y => k (Pat.inst (.int .u64) y) (instH hp_78 x.2)) := (grun_78 (p_72 N) x k).trans (by kernel_rfl)
theorem good_78 {R : Type} (N : Nat) : GD (X := R) Try.prog QQ 78 ap_78 hp_78 (fun (x : aden ap_78 × hden hp_78) k => p_78 N x (fun y => k (Pat.inst (.int .u64) y) (instH hp_78 x.2))) :=
  gd_quiet (E := E_78 N) (p := fun (x : aden ap_78 × hden hp_78) κ => p_78 N x (fun y => κ (Pat.inst (.int .u64) y))) mixed tyok (eok_78 N) Try.func78 (by kernel_rfl) (by kernel_rfl) (lok_78 N) (fun x k => run_78 N x k)

def lv_17_13 : Live := [(2, none), (5, none), (12, none), (14, none), (15, none), (73, none), (74, none), (75, none)]
def pt_17_13 : SPat := ⟨[(2, .int .i64), (5, .ptr 0 []), (12, .ptr 1 []), (14, .ptr 2 []), (15, .int .i64), (73, .ros (.int .i64)), (74, .int .i64), (75, .int .i64)], [some (.node (.fcons (.int .i64) (.fcons (.int .i64) (.fnil))), 79), some (.node (.fcons (.int .i64) (.fcons (.int .i64) (.fcons (.int .i64) (.fcons (.int .i64) (.fcons (.int .i64) (.fcons (.int .i64) (.fcons (.int .i64) (.fcons (.int .i64) (.fnil))))))))), 37), some (.node (.fcons (.node (.fcons (.int .i64) (.fcons (.int .i64) (.fcons (.int .i64) (.fcons (.int .i64) (.fcons (.int .i64) (.fcons (.int .i64) (.fcons (.int .i64) (.fcons (.int .i64) (.fnil)))))))))) (.fcons (.node (.fcons (.int .i64) (.fcons (.int .i64) (.fnil)))) (.fcons (.int .i64) (.fcons (.int .i64) (.fcons (.vec (.int .u64) 128) (.fnil)))))), 169)]⟩
def px_17_13_0 : SPat := ⟨[(8, .bool)], []⟩
def px_17_13_1 : SPat := ⟨[], []⟩
def lo_17_13 : Exit → Live
  | .ret => [(8, none)]
  | .exit 0 => []
  | _ => []
def B_17_13 {R : Type} (N : Nat) (rec : ((Int × Unit × Unit × Unit × Int × (List Int) × Int × Int × Unit) × ((Int × (Int × Unit)) × (Int × (Int × (Int × (Int × (Int × (Int × (Int × (Int × Unit)))))))) × ((Int × (Int × (Int × (Int × (Int × (Int × (Int × (Int × Unit)))))))) × ((Int × (Int × Unit)) × (Int × (Int × ((Nat → Int) × Unit))))) × Unit)) → Option R) (x : ((Int × Unit × Unit × Unit × Int × (List Int) × Int × Int × Unit) × ((Int × (Int × Unit)) × (Int × (Int × (Int × (Int × (Int × (Int × (Int × (Int × Unit)))))))) × ((Int × (Int × (Int × (Int × (Int × (Int × (Int × (Int × Unit)))))))) × ((Int × (Int × Unit)) × (Int × (Int × ((Nat → Int) × Unit))))) × Unit))) (κ0 : ((Bool × Unit) × (Unit)) → Option R) (κ1 : ((Unit) × (Unit)) → Option R) : Option R :=
let i128 : Int := x.1.1
let i129 : Int := x.1.2.2.2.2.1
let l130 : (List Int) := x.1.2.2.2.2.2.1
let i131 : Int := x.1.2.2.2.2.2.2.1
let i132 : Int := x.1.2.2.2.2.2.2.2.1
let i133 : Int := x.2.1.1
let i134 : Int := x.2.1.2.1
let i135 : Int := x.2.2.1.1
let i136 : Int := x.2.2.1.2.1
let i137 : Int := x.2.2.1.2.2.1
let i138 : Int := x.2.2.1.2.2.2.1
let i139 : Int := x.2.2.1.2.2.2.2.1
let i140 : Int := x.2.2.1.2.2.2.2.2.1
let i141 : Int := x.2.2.1.2.2.2.2.2.2.1
let i142 : Int := x.2.2.1.2.2.2.2.2.2.2.1
let i143 : Int := x.2.2.2.1.1.1
let i144 : Int := x.2.2.2.1.1.2.1
let i145 : Int := x.2.2.2.1.1.2.2.1
let i146 : Int := x.2.2.2.1.1.2.2.2.1
let i147 : Int := x.2.2.2.1.1.2.2.2.2.1
let i148 : Int := x.2.2.2.1.1.2.2.2.2.2.1
let i149 : Int := x.2.2.2.1.1.2.2.2.2.2.2.1
let i150 : Int := x.2.2.2.1.1.2.2.2.2.2.2.2.1
let i151 : Int := x.2.2.2.1.2.1.1
let i152 : Int := x.2.2.2.1.2.1.2.1
let i153 : Int := x.2.2.2.1.2.2.1
let i154 : Int := x.2.2.2.1.2.2.2.1
let a155 : (Nat → Int) := x.2.2.2.1.2.2.2.2.1
bif (decide (i132 < i131)) then (
bif decide (0 ≤ i132) then (
bif decide (i132 < ((List.length l130) : Int)) then (
let p156 : Int := (List.getD l130 ((Int.toNat i132)) (Sch.zero (.int .i64)))
bif (decide (p156 > 1099511627776)) then (
κ0 ((true, ()), ())) else (
p_75_v1 N (((), p156, ()), (((i143, (i144, (i145, (i146, (i147, (i148, (i149, (i150, ())))))))), ((i151, (i152, ())), (i153, (i154, (a155, ()))))), ())) (fun y464 =>
let i465 : Int := y464.1.1
let i466 : Int := y464.1.2.1
let i467 : Int := y464.2.1.1.1
let i468 : Int := y464.2.1.1.2.1
let i469 : Int := y464.2.1.1.2.2.1
let i470 : Int := y464.2.1.1.2.2.2.1
let i471 : Int := y464.2.1.1.2.2.2.2.1
let i472 : Int := y464.2.1.1.2.2.2.2.2.1
let i473 : Int := y464.2.1.1.2.2.2.2.2.2.1
let i474 : Int := y464.2.1.1.2.2.2.2.2.2.2.1
let i475 : Int := y464.2.1.2.1.1
let i476 : Int := y464.2.1.2.1.2.1
let i477 : Int := y464.2.1.2.2.1
let i478 : Int := y464.2.1.2.2.2.1
let a479 : (Nat → Int) := y464.2.1.2.2.2.2.1
bif (decide (p156 < 0)) then (
bif (i465 != 0) then (
κ0 ((false, ()), ())) else (
bif (i466 != 0) then (
κ0 ((false, ()), ())) else (
p_76_v1 N (((), ()), (((i467, (i468, (i469, (i470, (i471, (i472, (i473, (i474, ())))))))), ((i475, (i476, ())), (i477, (i478, (a479, ()))))), ())) (fun y493 =>
let i494 : Int := y493
bif (i494 != i129) then (
κ0 ((false, ()), ())) else (
let i495 : Int := addA .i64 i132 1
rec ((i128, (), (), (), i129, l130, i131, i495, ()), ((i133, (i134, ())), (i135, (i136, (i137, (i138, (i139, (i140, (i141, (i142, ())))))))), ((i467, (i468, (i469, (i470, (i471, (i472, (i473, (i474, ())))))))), ((i475, (i476, ())), (i477, (i478, (a479, ()))))), ()))))))) else (
p_78 N (((i135, (i136, (i137, (i138, (i139, (i140, (i141, (i142, ())))))))), i133, i134, i128, p156, ()), ()) (fun y774 =>
let i775 : Int := y774
let i776 : Int := quoA .i64 p156 128
let i777 : Int := addA .i64 i776 1
p_79 N ((i775, ()), ()) (fun y778 =>
let i779 : Int := y778.1
let i780 : Int := y778.2.1
let i781 : Int := remA .u64 i775 4294967296
let i782 : Int := IntKind.wrap .u32 i781
bif (i465 != i782) then (
κ0 ((false, ()), ())) else (
let i783 : Int := quoA .u64 i775 4294967296
let i784 : Int := IntKind.wrap .u32 i783
bif (i466 != i784) then (
κ0 ((false, ()), ())) else (
bif (i779 != i465) then (
κ0 ((false, ()), ())) else (
bif (i780 != i466) then (
κ0 ((false, ()), ())) else (
p_76_v1 N (((), ()), (((i467, (i468, (i469, (i470, (i471, (i472, (i473, (i474, ())))))))), ((i475, (i476, ())), (i477, (i478, (a479, ()))))), ())) (fun y785 =>
let i786 : Int := y785
bif (i786 != i777) then (
κ0 ((false, ()), ())) else (
let i787 : Int := addA .i64 i132 1
rec ((i128, (), (), (), i777, l130, i131, i787, ()), ((i133, (i134, ())), (i135, (i136, (i137, (i138, (i139, (i140, (i141, (i142, ())))))))), ((i467, (i468, (i469, (i470, (i471, (i472, (i473, (i474, ())))))))), ((i475, (i476, ())), (i477, (i478, (a479, ()))))), ())))))))))))))) else none) else none) else (
κ1 ((), ()))
def l_17_13 {R : Type} (N : Nat) : Nat → ((Int × Unit × Unit × Unit × Int × (List Int) × Int × Int × Unit) × ((Int × (Int × Unit)) × (Int × (Int × (Int × (Int × (Int × (Int × (Int × (Int × Unit)))))))) × ((Int × (Int × (Int × (Int × (Int × (Int × (Int × (Int × Unit)))))))) × ((Int × (Int × Unit)) × (Int × (Int × ((Nat → Int) × Unit))))) × Unit)) → (((Bool × Unit) × (Unit)) → Option R) → (((Unit) × (Unit)) → Option R) → Option R
  | 0, _, _, _ => none
  | n + 1, x, κ0, κ1 => B_17_13 N (fun y => l_17_13 N n y κ0 κ1) x κ0 κ1
def ap_17 : List Pat := [.node (.fcons (.int .i64) (.fcons (.int .i64) (.fcons (.int .i64) (.fcons (.int .i64) (.fcons (.int .i64) (.fnil)))))), .node (.fcons (.int .i64) (.fcons (.int .i64) (.fnil))), .int .i64, .ros (.int .i64)]
def hp_17 : List (Option (Pat × Nat)) := []
def p_17 {R : Type} (N : Nat) (x : ((Int × (Int × (Int × (Int × (Int × Unit))))) × (Int × (Int × Unit)) × Int × (List Int) × Unit) × (Unit)) (κ0 : (Bool × (Unit)) → Option R) : Option R :=
let i1 : Int := x.1.1.1
let i2 : Int := x.1.1.2.1
let i3 : Int := x.1.1.2.2.1
let i4 : Int := x.1.1.2.2.2.1
let i5 : Int := x.1.1.2.2.2.2.1
let i6 : Int := x.1.2.1.1
let i7 : Int := x.1.2.1.2.1
let i8 : Int := x.1.2.2.1
let l9 : (List Int) := x.1.2.2.2.1
p_69 N ((), ()) (fun y66 =>
let b67 : Bool := y66
bif (!b67) then (
κ0 (false, ())) else (
p_75 N (((), 1, ()), ()) (fun y69 =>
let i70 : Int := y69.1.1
let i71 : Int := y69.1.2.1
bif (i70 != 0) then (
κ0 (false, ())) else (
bif (i71 != 0) then (
κ0 (false, ())) else (
p_76 N (((), ()), ()) (fun y72 =>
let i73 : Int := y72
bif (i73 != 0) then (
κ0 (false, ())) else (
p_26 N (((i1, (i2, (i3, (i4, (i5, ()))))), ()), ()) (fun y74 =>
let i75 : Int := y74.1.1
let i76 : Int := y74.1.2.1
let i77 : Int := y74.1.2.2.1
let i78 : Int := y74.1.2.2.2.1
let i79 : Int := y74.1.2.2.2.2.1
let i80 : Int := y74.1.2.2.2.2.2.1
let i81 : Int := y74.1.2.2.2.2.2.2.1
let i82 : Int := y74.1.2.2.2.2.2.2.2.1
let i83 : Int := y74.2.1
bif (i83 != 0) then (
κ0 (true, ())) else (
p_49 N (((i75, (i76, (i77, (i78, (i79, (i80, (i81, (i82, ())))))))), (i6, (i7, ())), ()), ()) (fun y99 =>
let b100 : Bool := y99
bif (!b100) then (
κ0 (true, ())) else (
bif (decide (i8 < 0)) then (
κ0 (true, ())) else (
bif (decide (i8 ≥ i77)) then (
κ0 (true, ())) else (
let i101 : Int := (((List.length l9) : Nat) : Int)
bif (decide (i101 > 20)) then (
κ0 (true, ())) else (
p_77 N (((i75, (i76, (i77, (i78, (i79, (i80, (i81, (i82, ())))))))), (i6, (i7, ())), i8, ()), ()) (fun y113 =>
let i114 : Int := y113.2.1.1.1
let i115 : Int := y113.2.1.1.2.1
let i116 : Int := y113.2.1.1.2.2.1
let i117 : Int := y113.2.1.1.2.2.2.1
let i118 : Int := y113.2.1.1.2.2.2.2.1
let i119 : Int := y113.2.1.1.2.2.2.2.2.1
let i120 : Int := y113.2.1.1.2.2.2.2.2.2.1
let i121 : Int := y113.2.1.1.2.2.2.2.2.2.2.1
let i122 : Int := y113.2.1.2.1.1
let i123 : Int := y113.2.1.2.1.2.1
let i124 : Int := y113.2.1.2.2.1
let i125 : Int := y113.2.1.2.2.2.1
let a126 : (Nat → Int) := y113.2.1.2.2.2.2.1
let i127 : Int := (((List.length l9) : Nat) : Int)
l_17_13 N N ((i8, (), (), (), 0, l9, i127, 0, ()), ((i6, (i7, ())), (i75, (i76, (i77, (i78, (i79, (i80, (i81, (i82, ())))))))), ((i114, (i115, (i116, (i117, (i118, (i119, (i120, (i121, ())))))))), ((i122, (i123, ())), (i124, (i125, (a126, ()))))), ())) (fun y788 =>
let b789 : Bool := y788.1.1
κ0 (b789, ())) (fun _ =>
κ0 (true, ())))))))))))))))))

abbrev Tl_17_13 (R : Type) : Type := ((Int × Unit × Unit × Unit × Int × (List Int) × Int × Int × Unit) × ((Int × (Int × Unit)) × (Int × (Int × (Int × (Int × (Int × (Int × (Int × (Int × Unit)))))))) × ((Int × (Int × (Int × (Int × (Int × (Int × (Int × (Int × Unit)))))))) × ((Int × (Int × Unit)) × (Int × (Int × ((Nat → Int) × Unit))))) × Unit)) → (((Bool × Unit) × (Unit)) → Option R) → (((Unit) × (Unit)) → Option R) → Option R
abbrev Tp_17 (R : Type) : Type := ((Int × (Int × (Int × (Int × (Int × Unit))))) × (Int × (Int × Unit)) × Int × (List Int) × Unit) × (Unit) → ((Bool × (Unit)) → Option R) → Option R
def Q_17 {R : Type} (q_69 : Tp_69 R) (q_75 : Tp_75 R) (q_76 : Tp_76 R) (q_26 : Tp_26 R) (q_49 : Tp_49 R) (q_77 : Tp_77 R) (q_75_v1 : Tp_75_v1 R) (q_76_v1 : Tp_76_v1 R) (q_78 : Tp_78 R) (q_79 : Tp_79 R) (m_17_13 : Tl_17_13 R) (x : ((Int × (Int × (Int × (Int × (Int × Unit))))) × (Int × (Int × Unit)) × Int × (List Int) × Unit) × (Unit)) (κ0 : (Bool × (Unit)) → Option R) : Option R :=
let i1 : Int := x.1.1.1
let i2 : Int := x.1.1.2.1
let i3 : Int := x.1.1.2.2.1
let i4 : Int := x.1.1.2.2.2.1
let i5 : Int := x.1.1.2.2.2.2.1
let i6 : Int := x.1.2.1.1
let i7 : Int := x.1.2.1.2.1
let i8 : Int := x.1.2.2.1
let l9 : (List Int) := x.1.2.2.2.1
q_69 ((), ()) (fun y66 =>
let b67 : Bool := y66
bif (!b67) then (
κ0 (false, ())) else (
q_75 (((), 1, ()), ()) (fun y69 =>
let i70 : Int := y69.1.1
let i71 : Int := y69.1.2.1
bif (i70 != 0) then (
κ0 (false, ())) else (
bif (i71 != 0) then (
κ0 (false, ())) else (
q_76 (((), ()), ()) (fun y72 =>
let i73 : Int := y72
bif (i73 != 0) then (
κ0 (false, ())) else (
q_26 (((i1, (i2, (i3, (i4, (i5, ()))))), ()), ()) (fun y74 =>
let i75 : Int := y74.1.1
let i76 : Int := y74.1.2.1
let i77 : Int := y74.1.2.2.1
let i78 : Int := y74.1.2.2.2.1
let i79 : Int := y74.1.2.2.2.2.1
let i80 : Int := y74.1.2.2.2.2.2.1
let i81 : Int := y74.1.2.2.2.2.2.2.1
let i82 : Int := y74.1.2.2.2.2.2.2.2.1
let i83 : Int := y74.2.1
bif (i83 != 0) then (
κ0 (true, ())) else (
q_49 (((i75, (i76, (i77, (i78, (i79, (i80, (i81, (i82, ())))))))), (i6, (i7, ())), ()), ()) (fun y99 =>
let b100 : Bool := y99
bif (!b100) then (
κ0 (true, ())) else (
bif (decide (i8 < 0)) then (
κ0 (true, ())) else (
bif (decide (i8 ≥ i77)) then (
κ0 (true, ())) else (
let i101 : Int := (((List.length l9) : Nat) : Int)
bif (decide (i101 > 20)) then (
κ0 (true, ())) else (
q_77 (((i75, (i76, (i77, (i78, (i79, (i80, (i81, (i82, ())))))))), (i6, (i7, ())), i8, ()), ()) (fun y113 =>
let i114 : Int := y113.2.1.1.1
let i115 : Int := y113.2.1.1.2.1
let i116 : Int := y113.2.1.1.2.2.1
let i117 : Int := y113.2.1.1.2.2.2.1
let i118 : Int := y113.2.1.1.2.2.2.2.1
let i119 : Int := y113.2.1.1.2.2.2.2.2.1
let i120 : Int := y113.2.1.1.2.2.2.2.2.2.1
let i121 : Int := y113.2.1.1.2.2.2.2.2.2.2.1
let i122 : Int := y113.2.1.2.1.1
let i123 : Int := y113.2.1.2.1.2.1
let i124 : Int := y113.2.1.2.2.1
let i125 : Int := y113.2.1.2.2.2.1
let a126 : (Nat → Int) := y113.2.1.2.2.2.2.1
let i127 : Int := (((List.length l9) : Nat) : Int)
m_17_13 ((i8, (), (), (), 0, l9, i127, 0, ()), ((i6, (i7, ())), (i75, (i76, (i77, (i78, (i79, (i80, (i81, (i82, ())))))))), ((i114, (i115, (i116, (i117, (i118, (i119, (i120, (i121, ())))))))), ((i122, (i123, ())), (i124, (i125, (a126, ()))))), ())) (fun y788 =>
let b789 : Bool := y788.1.1
κ0 (b789, ())) (fun _ =>
κ0 (true, ())))))))))))))))))
def C_17_13 {R : Type} (q_69 : Tp_69 R) (q_75 : Tp_75 R) (q_76 : Tp_76 R) (q_26 : Tp_26 R) (q_49 : Tp_49 R) (q_77 : Tp_77 R) (q_75_v1 : Tp_75_v1 R) (q_76_v1 : Tp_76_v1 R) (q_78 : Tp_78 R) (q_79 : Tp_79 R) (m_17_13 : Tl_17_13 R) (rec : ((Int × Unit × Unit × Unit × Int × (List Int) × Int × Int × Unit) × ((Int × (Int × Unit)) × (Int × (Int × (Int × (Int × (Int × (Int × (Int × (Int × Unit)))))))) × ((Int × (Int × (Int × (Int × (Int × (Int × (Int × (Int × Unit)))))))) × ((Int × (Int × Unit)) × (Int × (Int × ((Nat → Int) × Unit))))) × Unit)) → Option R) (x : ((Int × Unit × Unit × Unit × Int × (List Int) × Int × Int × Unit) × ((Int × (Int × Unit)) × (Int × (Int × (Int × (Int × (Int × (Int × (Int × (Int × Unit)))))))) × ((Int × (Int × (Int × (Int × (Int × (Int × (Int × (Int × Unit)))))))) × ((Int × (Int × Unit)) × (Int × (Int × ((Nat → Int) × Unit))))) × Unit))) (κ0 : ((Bool × Unit) × (Unit)) → Option R) (κ1 : ((Unit) × (Unit)) → Option R) : Option R :=
let i128 : Int := x.1.1
let i129 : Int := x.1.2.2.2.2.1
let l130 : (List Int) := x.1.2.2.2.2.2.1
let i131 : Int := x.1.2.2.2.2.2.2.1
let i132 : Int := x.1.2.2.2.2.2.2.2.1
let i133 : Int := x.2.1.1
let i134 : Int := x.2.1.2.1
let i135 : Int := x.2.2.1.1
let i136 : Int := x.2.2.1.2.1
let i137 : Int := x.2.2.1.2.2.1
let i138 : Int := x.2.2.1.2.2.2.1
let i139 : Int := x.2.2.1.2.2.2.2.1
let i140 : Int := x.2.2.1.2.2.2.2.2.1
let i141 : Int := x.2.2.1.2.2.2.2.2.2.1
let i142 : Int := x.2.2.1.2.2.2.2.2.2.2.1
let i143 : Int := x.2.2.2.1.1.1
let i144 : Int := x.2.2.2.1.1.2.1
let i145 : Int := x.2.2.2.1.1.2.2.1
let i146 : Int := x.2.2.2.1.1.2.2.2.1
let i147 : Int := x.2.2.2.1.1.2.2.2.2.1
let i148 : Int := x.2.2.2.1.1.2.2.2.2.2.1
let i149 : Int := x.2.2.2.1.1.2.2.2.2.2.2.1
let i150 : Int := x.2.2.2.1.1.2.2.2.2.2.2.2.1
let i151 : Int := x.2.2.2.1.2.1.1
let i152 : Int := x.2.2.2.1.2.1.2.1
let i153 : Int := x.2.2.2.1.2.2.1
let i154 : Int := x.2.2.2.1.2.2.2.1
let a155 : (Nat → Int) := x.2.2.2.1.2.2.2.2.1
bif (decide (i132 < i131)) then (
bif decide (0 ≤ i132) then (
bif decide (i132 < ((List.length l130) : Int)) then (
let p156 : Int := (List.getD l130 ((Int.toNat i132)) (Sch.zero (.int .i64)))
bif (decide (p156 > 1099511627776)) then (
κ0 ((true, ()), ())) else (
q_75_v1 (((), p156, ()), (((i143, (i144, (i145, (i146, (i147, (i148, (i149, (i150, ())))))))), ((i151, (i152, ())), (i153, (i154, (a155, ()))))), ())) (fun y464 =>
let i465 : Int := y464.1.1
let i466 : Int := y464.1.2.1
let i467 : Int := y464.2.1.1.1
let i468 : Int := y464.2.1.1.2.1
let i469 : Int := y464.2.1.1.2.2.1
let i470 : Int := y464.2.1.1.2.2.2.1
let i471 : Int := y464.2.1.1.2.2.2.2.1
let i472 : Int := y464.2.1.1.2.2.2.2.2.1
let i473 : Int := y464.2.1.1.2.2.2.2.2.2.1
let i474 : Int := y464.2.1.1.2.2.2.2.2.2.2.1
let i475 : Int := y464.2.1.2.1.1
let i476 : Int := y464.2.1.2.1.2.1
let i477 : Int := y464.2.1.2.2.1
let i478 : Int := y464.2.1.2.2.2.1
let a479 : (Nat → Int) := y464.2.1.2.2.2.2.1
bif (decide (p156 < 0)) then (
bif (i465 != 0) then (
κ0 ((false, ()), ())) else (
bif (i466 != 0) then (
κ0 ((false, ()), ())) else (
q_76_v1 (((), ()), (((i467, (i468, (i469, (i470, (i471, (i472, (i473, (i474, ())))))))), ((i475, (i476, ())), (i477, (i478, (a479, ()))))), ())) (fun y493 =>
let i494 : Int := y493
bif (i494 != i129) then (
κ0 ((false, ()), ())) else (
let i495 : Int := addA .i64 i132 1
rec ((i128, (), (), (), i129, l130, i131, i495, ()), ((i133, (i134, ())), (i135, (i136, (i137, (i138, (i139, (i140, (i141, (i142, ())))))))), ((i467, (i468, (i469, (i470, (i471, (i472, (i473, (i474, ())))))))), ((i475, (i476, ())), (i477, (i478, (a479, ()))))), ()))))))) else (
q_78 (((i135, (i136, (i137, (i138, (i139, (i140, (i141, (i142, ())))))))), i133, i134, i128, p156, ()), ()) (fun y774 =>
let i775 : Int := y774
let i776 : Int := quoA .i64 p156 128
let i777 : Int := addA .i64 i776 1
q_79 ((i775, ()), ()) (fun y778 =>
let i779 : Int := y778.1
let i780 : Int := y778.2.1
let i781 : Int := remA .u64 i775 4294967296
let i782 : Int := IntKind.wrap .u32 i781
bif (i465 != i782) then (
κ0 ((false, ()), ())) else (
let i783 : Int := quoA .u64 i775 4294967296
let i784 : Int := IntKind.wrap .u32 i783
bif (i466 != i784) then (
κ0 ((false, ()), ())) else (
bif (i779 != i465) then (
κ0 ((false, ()), ())) else (
bif (i780 != i466) then (
κ0 ((false, ()), ())) else (
q_76_v1 (((), ()), (((i467, (i468, (i469, (i470, (i471, (i472, (i473, (i474, ())))))))), ((i475, (i476, ())), (i477, (i478, (a479, ()))))), ())) (fun y785 =>
let i786 : Int := y785
bif (i786 != i777) then (
κ0 ((false, ()), ())) else (
let i787 : Int := addA .i64 i132 1
rec ((i128, (), (), (), i777, l130, i131, i787, ()), ((i133, (i134, ())), (i135, (i136, (i137, (i138, (i139, (i140, (i141, (i142, ())))))))), ((i467, (i468, (i469, (i470, (i471, (i472, (i473, (i474, ())))))))), ((i475, (i476, ())), (i477, (i478, (a479, ()))))), ())))))))))))))) else none) else none) else (
κ1 ((), ()))
def EG_17 {R : Type} (q_69 : Tp_69 R) (q_75 : Tp_75 R) (q_76 : Tp_76 R) (q_26 : Tp_26 R) (q_49 : Tp_49 R) (q_77 : Tp_77 R) (q_75_v1 : Tp_75_v1 R) (q_76_v1 : Tp_76_v1 R) (q_78 : Tp_78 R) (q_79 : Tp_79 R) : Env R := ((((((((((Env.base QQ LN).add 69 ap_69 hp_69 (fun (x : aden ap_69 × hden hp_69) k => q_69 x (fun y => k (Pat.inst (.bool) y) (instH hp_69 x.2)))).add 75 ap_75 hp_75 (fun (x : aden ap_75 × hden hp_75) k => q_75 x (fun y => k (Pat.inst (.tup (.fcons (.int .u32) (.fcons (.int .u32) (.fnil)))) y.1) (instH [] y.2)))).add 76 ap_76 hp_76 (fun (x : aden ap_76 × hden hp_76) k => q_76 x (fun y => k (Pat.inst (.int .i64) y) (instH hp_76 x.2)))).add 26 ap_26 hp_26 (fun (x : aden ap_26 × hden hp_26) k => q_26 x (fun y => k (Pat.inst (.tup (.fcons (.node (.fcons (.int .i64) (.fcons (.int .i64) (.fcons (.int .i64) (.fcons (.int .i64) (.fcons (.int .i64) (.fcons (.int .i64) (.fcons (.int .i64) (.fcons (.int .i64) (.fnil)))))))))) (.fcons (.int .i64) (.fnil)))) y) (instH hp_26 x.2)))).add 49 ap_49 hp_49 (fun (x : aden ap_49 × hden hp_49) k => q_49 x (fun y => k (Pat.inst (.bool) y) (instH hp_49 x.2)))).add 77 ap_77 hp_77 (fun (x : aden ap_77 × hden hp_77) k => q_77 x (fun y => k (Pat.inst (.ptr 0 []) y.1) (instH [some (.node (.fcons (.node (.fcons (.int .i64) (.fcons (.int .i64) (.fcons (.int .i64) (.fcons (.int .i64) (.fcons (.int .i64) (.fcons (.int .i64) (.fcons (.int .i64) (.fcons (.int .i64) (.fnil)))))))))) (.fcons (.node (.fcons (.int .i64) (.fcons (.int .i64) (.fnil)))) (.fcons (.int .i64) (.fcons (.int .i64) (.fcons (.vec (.int .u64) 128) (.fnil)))))), 169)] y.2)))).add 75 ap_75_v1 hp_75_v1 (fun (x : aden ap_75_v1 × hden hp_75_v1) k => q_75_v1 x (fun y => k (Pat.inst (.tup (.fcons (.int .u32) (.fcons (.int .u32) (.fnil)))) y.1) (instH [some (.node (.fcons (.node (.fcons (.int .i64) (.fcons (.int .i64) (.fcons (.int .i64) (.fcons (.int .i64) (.fcons (.int .i64) (.fcons (.int .i64) (.fcons (.int .i64) (.fcons (.int .i64) (.fnil)))))))))) (.fcons (.node (.fcons (.int .i64) (.fcons (.int .i64) (.fnil)))) (.fcons (.int .i64) (.fcons (.int .i64) (.fcons (.vec (.int .u64) 128) (.fnil)))))), 169)] y.2)))).add 76 ap_76_v1 hp_76_v1 (fun (x : aden ap_76_v1 × hden hp_76_v1) k => q_76_v1 x (fun y => k (Pat.inst (.int .i64) y) (instH hp_76_v1 x.2)))).add 78 ap_78 hp_78 (fun (x : aden ap_78 × hden hp_78) k => q_78 x (fun y => k (Pat.inst (.int .u64) y) (instH hp_78 x.2)))).add 79 ap_79 hp_79 (fun (x : aden ap_79 × hden hp_79) k => q_79 x (fun y => k (Pat.inst (.tup (.fcons (.int .u32) (.fcons (.int .u32) (.fnil)))) y) (instH hp_79 x.2)))
def LG_17 {R : Type} (m_17_13 : Tl_17_13 R) : Loops R := (Loops.none).add 13 (loopBy 0 lv_17_13 pt_17_13 (fun x k => m_17_13 x (fun y => k .ret (px_17_13_0.inst y)) (fun y => k (.exit 0) (px_17_13_1.inst y))))
def E_17 {R : Type} (N : Nat) : Env R := EG_17 (p_69 N) (p_75 N) (p_76 N) (p_26 N) (p_49 N) (p_77 N) (p_75_v1 N) (p_76_v1 N) (p_78 N) (p_79 N)
theorem eok_17 {R : Type} (N : Nat) : EK Try.prog (E_17 (R := R) N) := ek_add (ek_add (ek_add (ek_add (ek_add (ek_add (ek_add (ek_add (ek_add (ek_add (ek_base _ _) (good_69 N)) (good_75 N)) (good_76 N)) (good_26 N)) (good_49 N)) (good_77 N)) (good_75_v1 N)) (good_76_v1 N)) (good_78 N)) (good_79 N)
def L_17 {R : Type} (N : Nat) : Loops R := LG_17 (l_17_13 N N)
theorem gstep_17_13 {R : Type} (q_69 : Tp_69 R) (q_75 : Tp_75 R) (q_76 : Tp_76 R) (q_26 : Tp_26 R) (q_49 : Tp_49 R) (q_77 : Tp_77 R) (q_75_v1 : Tp_75_v1 R) (q_76_v1 : Tp_76_v1 R) (q_78 : Tp_78 R) (q_79 : Tp_79 R) (m_17_13 : Tl_17_13 R) (n : Nat) (x : pt_17_13.den) (k : Exit → St → Option R) : iter 0 lv_17_13 lo_17_13 (aexec TT (EG_17 q_69 q_75 q_76 q_26 q_49 q_77 q_75_v1 q_76_v1 q_78 q_79) (drawOk TT QQ) (LG_17 m_17_13) (loopAt 13 (bodyOf Try.f17))) (n + 1) (pt_17_13.inst x) k = C_17_13 q_69 q_75 q_76 q_26 q_49 q_77 q_75_v1 q_76_v1 q_78 q_79 m_17_13 (fun y => iter 0 lv_17_13 lo_17_13 (aexec TT (EG_17 q_69 q_75 q_76 q_26 q_49 q_77 q_75_v1 q_76_v1 q_78 q_79) (drawOk TT QQ) (LG_17 m_17_13) (loopAt 13 (bodyOf Try.f17))) n (pt_17_13.inst y) k) x (fun y => k .ret (px_17_13_0.inst y)) (fun y => k (.exit 0) (px_17_13_1.inst y)) := by kernel_rfl
theorem step_17_13 {R : Type} (N n : Nat) (x : pt_17_13.den) (k : Exit → St → Option R) : iter 0 lv_17_13 lo_17_13 (aexec TT (E_17 (R := R) N) (drawOk TT QQ) (L_17 N) (loopAt 13 (bodyOf Try.f17))) (n + 1) (pt_17_13.inst x) k = B_17_13 N (fun y => iter 0 lv_17_13 lo_17_13 (aexec TT (E_17 (R := R) N) (drawOk TT QQ) (L_17 N) (loopAt 13 (bodyOf Try.f17))) n (pt_17_13.inst y) k) x (fun y => k .ret (px_17_13_0.inst y)) (fun y => k (.exit 0) (px_17_13_1.inst y)) := (gstep_17_13 (p_69 N) (p_75 N) (p_76 N) (p_26 N) (p_49 N) (p_77 N) (p_75_v1 N) (p_76_v1 N) (p_78 N) (p_79 N) (l_17_13 N N) n x k).trans (by kernel_rfl)
theorem eq_17_13 {R : Type} (N : Nat) : ∀ (n : Nat) (x : pt_17_13.den) (k : Exit → St → Option R), iter 0 lv_17_13 lo_17_13 (aexec TT (E_17 (R := R) N) (drawOk TT QQ) (L_17 N) (loopAt 13 (bodyOf Try.f17))) n (pt_17_13.inst x) k = l_17_13 N n x (fun y => k .ret (px_17_13_0.inst y)) (fun y => k (.exit 0) (px_17_13_1.inst y)) :=
  iter_eq (K := Exit → St → Option R) (ks := fun k => k) (l := fun n (x : pt_17_13.den) k => l_17_13 N n x (fun y => k .ret (px_17_13_0.inst y)) (fun y => k (.exit 0) (px_17_13_1.inst y))) (B := fun (rec : pt_17_13.den → Option R) (x : pt_17_13.den) k => B_17_13 N rec x (fun y => k .ret (px_17_13_0.inst y)) (fun y => k (.exit 0) (px_17_13_1.inst y))) (fun _ _ => rfl) (fun _ _ _ => rfl) (fun n x k => step_17_13 N n x k)
theorem rounds_17_13 {R : Type} (N : Nat) : Rounds 0 TT (E_17 (R := R) N) (drawOk TT QQ) (L_17 N) 13 (loopAt 13 (bodyOf Try.f17)) :=
  rounds_of (p := pt_17_13) (l := fun (x : pt_17_13.den) k => l_17_13 N N x (fun y => k .ret (px_17_13_0.inst y)) (fun y => k (.exit 0) (px_17_13_1.inst y))) (fun s k => rfl) (fun x k => eq_17_13 N N x k)
theorem loops_17 : loopsIn (bodyOf Try.f17) = [(13, loopAt 13 (bodyOf Try.f17))] := by kernel_rfl
theorem lok_17 {R : Type} (N : Nat) : LOK 0 TT (E_17 (R := R) N) (drawOk TT QQ) (L_17 N) (bodyOf Try.f17) := loops_all loops_17 (by
  simp only [List.forall_mem_cons, List.not_mem_nil, false_implies, implies_true, and_true]
  exact rounds_17_13 N)
theorem grun_17 {R : Type} (q_69 : Tp_69 R) (q_75 : Tp_75 R) (q_76 : Tp_76 R) (q_26 : Tp_26 R) (q_49 : Tp_49 R) (q_77 : Tp_77 R) (q_75_v1 : Tp_75_v1 R) (q_76_v1 : Tp_76_v1 R) (q_78 : Tp_78 R) (q_79 : Tp_79 R) (m_17_13 : Tl_17_13 R) (x : aden ap_17 × hden hp_17) (k : KF R) : fnrun TT (EG_17 q_69 q_75 q_76 q_26 q_49 q_77 q_75_v1 q_76_v1 q_78 q_79) (drawOk TT QQ) (LG_17 m_17_13) true Try.f17 (instA ap_17 x.1) (instH hp_17 x.2) k = Q_17 q_69 q_75 q_76 q_26 q_49 q_77 q_75_v1 q_76_v1 q_78 q_79 m_17_13 x (fun y => k (Pat.inst (.bool) y.1) (instH [] y.2)) := by kernel_rfl
theorem run_17 {R : Type} (N : Nat) (x : aden ap_17 × hden hp_17) (k : KF R) : fnrun TT (E_17 (R := R) N) (drawOk TT QQ) (L_17 N) true Try.f17 (instA ap_17 x.1) (instH hp_17 x.2) k = p_17 N x (fun y => k (Pat.inst (.bool) y.1) (instH [] y.2)) := (grun_17 (p_69 N) (p_75 N) (p_76 N) (p_26 N) (p_49 N) (p_77 N) (p_75_v1 N) (p_76_v1 N) (p_78 N) (p_79 N) (l_17_13 N N) x k).trans (by kernel_rfl)
theorem good_17 {R : Type} (N : Nat) : GD (X := R) Try.prog QQ 17 ap_17 hp_17 (fun (x : aden ap_17 × hden hp_17) k => p_17 N x (fun y => k (Pat.inst (.bool) y.1) (instH [] y.2))) :=
  gd_loud (E := E_17 N) (p := fun (x : aden ap_17 × hden hp_17) k => p_17 N x (fun y => k (Pat.inst (.bool) y.1) (instH [] y.2))) mixed tyok (eok_17 N) Try.func17 (by kernel_rfl) (by kernel_rfl) (by kernel_rfl) (lok_17 N) (fun x k => run_17 N x k)

end Go.Proofs.Ytjehpceomlnicaa.Eng
