/-
Plain functions that the functions of the program are shown to come to, printed by a program of the prover; each with its proof.
Conditions: none.
-/
import Derived.Test.YtjehpceomlnicaaProg
import Derived.Test.YtjehpceomlnicaaEngY
import Derived.KernelRfl
set_option linter.unusedVariables false
namespace Go.Proofs.Ytjehpceomlnicaa.Eng
def TT : Types := [(35, ⟨.stru [(3, 0), (3, 1), (3, 2), (3, 3), (3, 4)], 5, 40, .node (.fcons (.int .i64 0) (.fcons (.int .i64 0) (.fcons (.int .i64 0) (.fcons (.int .i64 0) (.fcons (.int .i64 0) (.fnil)))))), some (.stru (.fcons (.int .i64) (.fcons (.int .i64) (.fcons (.int .i64) (.fcons (.int .i64) (.fcons (.int .i64) (.fnil))))))), true⟩),
  (79, ⟨.stru [(3, 0), (3, 1)], 2, 16, .node (.fcons (.int .i64 0) (.fcons (.int .i64 0) (.fnil))), some (.stru (.fcons (.int .i64) (.fcons (.int .i64) (.fnil)))), true⟩),
  (3, ⟨.int .i64, 1, 8, .int .i64 0, some (.int .i64), false⟩),
  (4, ⟨.bool, 1, 1, .bool false, some (.bool), false⟩),
  (37, ⟨.stru [(3, 0), (3, 1), (3, 2), (3, 3), (3, 4), (3, 5), (3, 6), (3, 7)], 8, 64, .node (.fcons (.int .i64 0) (.fcons (.int .i64 0) (.fcons (.int .i64 0) (.fcons (.int .i64 0) (.fcons (.int .i64 0) (.fcons (.int .i64 0) (.fcons (.int .i64 0) (.fcons (.int .i64 0) (.fnil))))))))), some (.stru (.fcons (.int .i64) (.fcons (.int .i64) (.fcons (.int .i64) (.fcons (.int .i64) (.fcons (.int .i64) (.fcons (.int .i64) (.fcons (.int .i64) (.fcons (.int .i64) (.fnil)))))))))), true⟩),
  (38, ⟨.int .i64, 1, 8, .int .i64 0, some (.int .i64), false⟩),
  (86, ⟨.stru [(3, 0), (3, 1), (3, 2), (3, 3), (3, 4), (3, 5), (3, 6), (3, 7)], 8, 64, .node (.fcons (.int .i64 0) (.fcons (.int .i64 0) (.fcons (.int .i64 0) (.fcons (.int .i64 0) (.fcons (.int .i64 0) (.fcons (.int .i64 0) (.fcons (.int .i64 0) (.fcons (.int .i64 0) (.fnil))))))))), some (.stru (.fcons (.int .i64) (.fcons (.int .i64) (.fcons (.int .i64) (.fcons (.int .i64) (.fcons (.int .i64) (.fcons (.int .i64) (.fcons (.int .i64) (.fcons (.int .i64) (.fnil)))))))))), true⟩),
  (61, ⟨.int .u64, 1, 8, .int .u64 0, some (.int .u64), false⟩),
  (70, ⟨.arr 128 61, 128, 1024, .vec (.int .u64) 128 (Sch.zero (.arr 128 (.int .u64))), some (.arr 128 (.int .u64)), true⟩),
  (167, ⟨.arr 7 3, 7, 56, .vec (.int .i64) 7 (Sch.zero (.arr 7 (.int .i64))), some (.arr 7 (.int .i64)), true⟩),
  (71, ⟨.slice 70, 1, 24, .nils, some (.sl (.arr 128 (.int .u64))), false⟩),
  (54, ⟨.slice 4, 1, 24, .nils, some (.sl (.bool)), false⟩),
  (153, ⟨.arr 16 3, 16, 128, .vec (.int .i64) 16 (Sch.zero (.arr 16 (.int .i64))), some (.arr 16 (.int .i64)), true⟩),
  (62, ⟨.arr 16 61, 16, 128, .vec (.int .u64) 16 (Sch.zero (.arr 16 (.int .u64))), some (.arr 16 (.int .u64)), true⟩),
  (150, ⟨.arr 8 104, 32, 256, .vec (.arr 4 (.int .i64)) 8 (Sch.zero (.arr 8 (.arr 4 (.int .i64)))), some (.arr 8 (.arr 4 (.int .i64))), true⟩),
  (104, ⟨.arr 4 3, 4, 32, .vec (.int .i64) 4 (Sch.zero (.arr 4 (.int .i64))), some (.arr 4 (.int .i64)), true⟩),
  (31, ⟨.int .u32, 1, 4, .int .u32 0, some (.int .u32), false⟩),
  (139, ⟨.int .u64, 1, 8, .int .u64 0, some (.int .u64), false⟩),
  (65, ⟨.arr 4 61, 4, 32, .vec (.int .u64) 4 (Sch.zero (.arr 4 (.int .u64))), some (.arr 4 (.int .u64)), true⟩)]
theorem tyok : TyOk Try.prog TT := TyOk.of (by kernel_rfl)
theorem mixed : Try.prog.follows .mixedOrders = true := by kernel_rfl
def QQ : FuncId → Bool := fun f => memN [26, 38, 39, 40, 41, 42, 43, 44, 45, 47, 49, 69, 70, 71, 72, 73, 74, 87, 88, 89, 90, 91, 92, 93, 94, 95, 104, 116] f
def LN : FuncId → Bool := fun f => memN [47, 94] f
def ap_87 : List Pat := [.int .i64, .int .i64, .int .i64]
def hp_87 : List (Option (Pat × Nat)) := []
def p_87 {R : Type} (N : Nat) (x : (Int × Int × Int × Unit) × (Unit)) (κ0 : Bool → Option R) : Option R :=
let i15 : Int := x.1.1
let i16 : Int := x.1.2.1
let i17 : Int := x.1.2.2.1
bif (decide (i15 ≥ i16)) then (
κ0 ((decide (i15 ≤ i17)))) else (
κ0 false)

abbrev Tp_87 (R : Type) : Type := (Int × Int × Int × Unit) × (Unit) → (Bool → Option R) → Option R
def Q_87 {R : Type} (x : (Int × Int × Int × Unit) × (Unit)) (κ0 : Bool → Option R) : Option R :=
let i15 : Int := x.1.1
let i16 : Int := x.1.2.1
let i17 : Int := x.1.2.2.1
bif (decide (i15 ≥ i16)) then (
κ0 ((decide (i15 ≤ i17)))) else (
κ0 false)
def EG_87 {R : Type} : Env R := Env.base QQ LN
def LG_87 {R : Type} : Loops R := Loops.none
def E_87 {R : Type} (N : Nat) : Env R := EG_87
theorem eok_87 {R : Type} (N : Nat) : EK Try.prog (E_87 (R := R) N) := ek_base _ _
def L_87 {R : Type} (N : Nat) : Loops R := LG_87
theorem lok_87 {R : Type} (N : Nat) : LOK 0 TT (E_87 (R := R) N) (drawOk TT QQ) (L_87 N) (bodyOf Try.f87) := loops_nil (by kernel_rfl)
theorem grun_87 {R : Type} (x : aden ap_87 × hden hp_87) (k : KF R) : fnrun TT (EG_87) (drawOk TT QQ) (LG_87) true Try.f87 (instA ap_87 x.1) (instH hp_87 x.2) k = Q_87 x (fun y => k (Pat.inst (.bool) y) (instH hp_87 x.2)) := by kernel_rfl
theorem run_87 {R : Type} (N : Nat) (x : aden ap_87 × hden hp_87) (k : KF R) : fnrun TT (E_87 (R := R) N) (drawOk TT QQ) (L_87 N) true Try.f87 (instA ap_87 x.1) (instH hp_87 x.2) k = p_87 N x (fun y => k (Pat.inst (.bool) y) (instH hp_87 x.2)) := (grun_87 x k).trans (by kernel_rfl)
theorem good_87 {R : Type} (N : Nat) : GD (X := R) Try.prog QQ 87 ap_87 hp_87 (fun (x : aden ap_87 × hden hp_87) k => p_87 N x (fun y => k (Pat.inst (.bool) y) (instH hp_87 x.2))) :=
  gd_quiet (E := E_87 N) (p := fun (x : aden ap_87 × hden hp_87) κ => p_87 N x (fun y => κ (Pat.inst (.bool) y))) mixed tyok (eok_87 N) Try.func87 (by kernel_rfl) (by kernel_rfl) (lok_87 N) (fun x k => run_87 N x k)

def ap_116 : List Pat := [.int .i64]
def hp_116 : List (Option (Pat × Nat)) := []
def p_116 {R : Type} (N : Nat) (x : (Int × Unit) × (Unit)) (κ0 : Bool → Option R) : Option R :=
let i32 : Int := x.1.1
bif (decide (i32 ≥ 0)) then (
κ0 ((decide (i32 ≤ 4611686018427387904)))) else (
κ0 false)

abbrev Tp_116 (R : Type) : Type := (Int × Unit) × (Unit) → (Bool → Option R) → Option R
def Q_116 {R : Type} (x : (Int × Unit) × (Unit)) (κ0 : Bool → Option R) : Option R :=
let i32 : Int := x.1.1
bif (decide (i32 ≥ 0)) then (
κ0 ((decide (i32 ≤ 4611686018427387904)))) else (
κ0 false)
def EG_116 {R : Type} : Env R := Env.base QQ LN
def LG_116 {R : Type} : Loops R := Loops.none
def E_116 {R : Type} (N : Nat) : Env R := EG_116
theorem eok_116 {R : Type} (N : Nat) : EK Try.prog (E_116 (R := R) N) := ek_base _ _
def L_116 {R : Type} (N : Nat) : Loops R := LG_116
theorem lok_116 {R : Type} (N : Nat) : LOK 0 TT (E_116 (R := R) N) (drawOk TT QQ) (L_116 N) (bodyOf Try.f116) := loops_nil (by kernel_rfl)
theorem grun_116 {R : Type} (x : aden ap_116 × hden hp_116) (k : KF R) : fnrun TT (EG_116) (drawOk TT QQ) (LG_116) true Try.f116 (instA ap_116 x.1) (instH hp_116 x.2) k = Q_116 x (fun y => k (Pat.inst (.bool) y) (instH hp_116 x.2)) := by kernel_rfl
theorem run_116 {R : Type} (N : Nat) (x : aden ap_116 × hden hp_116) (k : KF R) : fnrun TT (E_116 (R := R) N) (drawOk TT QQ) (L_116 N) true Try.f116 (instA ap_116 x.1) (instH hp_116 x.2) k = p_116 N x (fun y => k (Pat.inst (.bool) y) (instH hp_116 x.2)) := (grun_116 x k).trans (by kernel_rfl)
theorem good_116 {R : Type} (N : Nat) : GD (X := R) Try.prog QQ 116 ap_116 hp_116 (fun (x : aden ap_116 × hden hp_116) k => p_116 N x (fun y => k (Pat.inst (.bool) y) (instH hp_116 x.2))) :=
  gd_quiet (E := E_116 N) (p := fun (x : aden ap_116 × hden hp_116) κ => p_116 N x (fun y => κ (Pat.inst (.bool) y))) mixed tyok (eok_116 N) Try.func116 (by kernel_rfl) (by kernel_rfl) (lok_116 N) (fun x k => run_116 N x k)

def ap_88 : List Pat := [.int .i64, .int .i64]
def hp_88 : List (Option (Pat × Nat)) := []
def p_88 {R : Type} (N : Nat) (x : (Int × Int × Unit) × (Unit)) (κ0 : (Int × (Int × Unit)) → Option R) : Option R :=
let i30 : Int := x.1.1
let i31 : Int := x.1.2.1
p_116 N ((i30, ()), ()) (fun y33 =>
let b34 : Bool := y33
bif (!b34) then (
κ0 ((0, (1, ())))) else (
bif (decide (i31 < 1)) then (
κ0 ((0, (1, ())))) else (
bif decide (i31 = 0) then none else (
let i35 : Int := remA .i64 i30 i31
let i36 : Int := subA .i64 i30 i35
κ0 ((i36, (0, ())))))))

abbrev Tp_88 (R : Type) : Type := (Int × Int × Unit) × (Unit) → ((Int × (Int × Unit)) → Option R) → Option R
def Q_88 {R : Type} (q_116 : Tp_116 R) (x : (Int × Int × Unit) × (Unit)) (κ0 : (Int × (Int × Unit)) → Option R) : Option R :=
let i30 : Int := x.1.1
let i31 : Int := x.1.2.1
q_116 ((i30, ()), ()) (fun y33 =>
let b34 : Bool := y33
bif (!b34) then (
κ0 ((0, (1, ())))) else (
bif (decide (i31 < 1)) then (
κ0 ((0, (1, ())))) else (
bif decide (i31 = 0) then none else (
let i35 : Int := remA .i64 i30 i31
let i36 : Int := subA .i64 i30 i35
κ0 ((i36, (0, ())))))))
def EG_88 {R : Type} (q_116 : Tp_116 R) : Env R := (Env.base QQ LN).add 116 ap_116 hp_116 (fun (x : aden ap_116 × hden hp_116) k => q_116 x (fun y => k (Pat.inst (.bool) y) (instH hp_116 x.2)))
def LG_88 {R : Type} : Loops R := Loops.none
def E_88 {R : Type} (N : Nat) : Env R := EG_88 (p_116 N)
theorem eok_88 {R : Type} (N : Nat) : EK Try.prog (E_88 (R := R) N) := ek_add (ek_base _ _) (good_116 N)
def L_88 {R : Type} (N : Nat) : Loops R := LG_88
theorem lok_88 {R : Type} (N : Nat) : LOK 0 TT (E_88 (R := R) N) (drawOk TT QQ) (L_88 N) (bodyOf Try.f88) := loops_nil (by kernel_rfl)
theorem grun_88 {R : Type} (q_116 : Tp_116 R) (x : aden ap_88 × hden hp_88) (k : KF R) : fnrun TT (EG_88 q_116) (drawOk TT QQ) (LG_88) true Try.f88 (instA ap_88 x.1) (instH hp_88 x.2) k = Q_88 q_116 x (fun y => k (Pat.inst (.tup (.fcons (.int .i64) (.fcons (.int .i64) (.fnil)))) y) (instH hp_88 x.2)) := by kernel_rfl
theorem run_88 {R : Type} (N : Nat) (x : aden ap_88 × hden hp_88) (k : KF R) : fnrun TT (E_88 (R := R) N) (drawOk TT QQ) (L_88 N) true Try.f88 (instA ap_88 x.1) (instH hp_88 x.2) k = p_88 N x (fun y => k (Pat.inst (.tup (.fcons (.int .i64) (.fcons (.int .i64) (.fnil)))) y) (instH hp_88 x.2)) := (grun_88 (p_116 N) x k).trans (by kernel_rfl)
theorem good_88 {R : Type} (N : Nat) : GD (X := R) Try.prog QQ 88 ap_88 hp_88 (fun (x : aden ap_88 × hden hp_88) k => p_88 N x (fun y => k (Pat.inst (.tup (.fcons (.int .i64) (.fcons (.int .i64) (.fnil)))) y) (instH hp_88 x.2))) :=
  gd_quiet (E := E_88 N) (p := fun (x : aden ap_88 × hden hp_88) κ => p_88 N x (fun y => κ (Pat.inst (.tup (.fcons (.int .i64) (.fcons (.int .i64) (.fnil)))) y))) mixed tyok (eok_88 N) Try.func88 (by kernel_rfl) (by kernel_rfl) (lok_88 N) (fun x k => run_88 N x k)

def ap_26 : List Pat := [.node (.fcons (.int .i64) (.fcons (.int .i64) (.fcons (.int .i64) (.fcons (.int .i64) (.fcons (.int .i64) (.fnil))))))]
def hp_26 : List (Option (Pat × Nat)) := []
def p_26 {R : Type} (N : Nat) (x : ((Int × (Int × (Int × (Int × (Int × Unit))))) × Unit) × (Unit)) (κ0 : ((Int × (Int × (Int × (Int × (Int × (Int × (Int × (Int × Unit)))))))) × (Int × Unit)) → Option R) : Option R :=
let i10 : Int := x.1.1.1
let i11 : Int := x.1.1.2.1
let i12 : Int := x.1.1.2.2.1
let i13 : Int := x.1.1.2.2.2.1
let i14 : Int := x.1.1.2.2.2.2.1
p_87 N ((i10, 1, 3, ()), ()) (fun y18 =>
let b19 : Bool := y18
bif b19 then (
p_87 N ((i11, 1, 4294967295, ()), ()) (fun y20 =>
let b21 : Bool := y20
bif b21 then (
p_87 N ((i13, 1, 16777215, ()), ()) (fun y22 =>
let b23 : Bool := y22
bif b23 then (
p_87 N ((i12, 1, 4294967295, ()), ()) (fun y24 =>
let b25 : Bool := y24
bif b25 then (
let i26 : Int := quoA .i64 i12 8
bif (decide (i26 ≥ i13)) then (
p_87 N ((i14, 4, 1024, ()), ()) (fun y27 =>
let b28 : Bool := y27
bif (!b28) then (
κ0 (((0, (0, (0, (0, (0, (0, (0, (0, ())))))))), (2, ())))) else (
let i29 : Int := mulA .i64 4 i13
p_88 N ((i12, i29, ()), ()) (fun y37 =>
let i38 : Int := y37.1
let i39 : Int := y37.2.1
bif decide (i13 = 0) then none else (
let i40 : Int := quoA .i64 i38 i13
let i41 : Int := quoA .i64 i40 4
κ0 (((i10, (i11, (i13, (i12, (i38, (i40, (i41, (i14, ())))))))), (0, ())))))))) else (
κ0 (((0, (0, (0, (0, (0, (0, (0, (0, ())))))))), (2, ()))))) else (
κ0 (((0, (0, (0, (0, (0, (0, (0, (0, ())))))))), (2, ())))))) else (
κ0 (((0, (0, (0, (0, (0, (0, (0, (0, ())))))))), (2, ())))))) else (
κ0 (((0, (0, (0, (0, (0, (0, (0, (0, ())))))))), (2, ())))))) else (
κ0 (((0, (0, (0, (0, (0, (0, (0, (0, ())))))))), (2, ())))))

abbrev Tp_26 (R : Type) : Type := ((Int × (Int × (Int × (Int × (Int × Unit))))) × Unit) × (Unit) → (((Int × (Int × (Int × (Int × (Int × (Int × (Int × (Int × Unit)))))))) × (Int × Unit)) → Option R) → Option R
def Q_26 {R : Type} (q_87 : Tp_87 R) (q_88 : Tp_88 R) (x : ((Int × (Int × (Int × (Int × (Int × Unit))))) × Unit) × (Unit)) (κ0 : ((Int × (Int × (Int × (Int × (Int × (Int × (Int × (Int × Unit)))))))) × (Int × Unit)) → Option R) : Option R :=
let i10 : Int := x.1.1.1
let i11 : Int := x.1.1.2.1
let i12 : Int := x.1.1.2.2.1
let i13 : Int := x.1.1.2.2.2.1
let i14 : Int := x.1.1.2.2.2.2.1
q_87 ((i10, 1, 3, ()), ()) (fun y18 =>
let b19 : Bool := y18
bif b19 then (
q_87 ((i11, 1, 4294967295, ()), ()) (fun y20 =>
let b21 : Bool := y20
bif b21 then (
q_87 ((i13, 1, 16777215, ()), ()) (fun y22 =>
let b23 : Bool := y22
bif b23 then (
q_87 ((i12, 1, 4294967295, ()), ()) (fun y24 =>
let b25 : Bool := y24
bif b25 then (
let i26 : Int := quoA .i64 i12 8
bif (decide (i26 ≥ i13)) then (
q_87 ((i14, 4, 1024, ()), ()) (fun y27 =>
let b28 : Bool := y27
bif (!b28) then (
κ0 (((0, (0, (0, (0, (0, (0, (0, (0, ())))))))), (2, ())))) else (
let i29 : Int := mulA .i64 4 i13
q_88 ((i12, i29, ()), ()) (fun y37 =>
let i38 : Int := y37.1
let i39 : Int := y37.2.1
bif decide (i13 = 0) then none else (
let i40 : Int := quoA .i64 i38 i13
let i41 : Int := quoA .i64 i40 4
κ0 (((i10, (i11, (i13, (i12, (i38, (i40, (i41, (i14, ())))))))), (0, ())))))))) else (
κ0 (((0, (0, (0, (0, (0, (0, (0, (0, ())))))))), (2, ()))))) else (
κ0 (((0, (0, (0, (0, (0, (0, (0, (0, ())))))))), (2, ())))))) else (
κ0 (((0, (0, (0, (0, (0, (0, (0, (0, ())))))))), (2, ())))))) else (
κ0 (((0, (0, (0, (0, (0, (0, (0, (0, ())))))))), (2, ())))))) else (
κ0 (((0, (0, (0, (0, (0, (0, (0, (0, ())))))))), (2, ())))))
def EG_26 {R : Type} (q_87 : Tp_87 R) (q_88 : Tp_88 R) : Env R := ((Env.base QQ LN).add 87 ap_87 hp_87 (fun (x : aden ap_87 × hden hp_87) k => q_87 x (fun y => k (Pat.inst (.bool) y) (instH hp_87 x.2)))).add 88 ap_88 hp_88 (fun (x : aden ap_88 × hden hp_88) k => q_88 x (fun y => k (Pat.inst (.tup (.fcons (.int .i64) (.fcons (.int .i64) (.fnil)))) y) (instH hp_88 x.2)))
def LG_26 {R : Type} : Loops R := Loops.none
def E_26 {R : Type} (N : Nat) : Env R := EG_26 (p_87 N) (p_88 N)
theorem eok_26 {R : Type} (N : Nat) : EK Try.prog (E_26 (R := R) N) := ek_add (ek_add (ek_base _ _) (good_87 N)) (good_88 N)
def L_26 {R : Type} (N : Nat) : Loops R := LG_26
theorem lok_26 {R : Type} (N : Nat) : LOK 0 TT (E_26 (R := R) N) (drawOk TT QQ) (L_26 N) (bodyOf Try.f26) := loops_nil (by kernel_rfl)
theorem grun_26 {R : Type} (q_87 : Tp_87 R) (q_88 : Tp_88 R) (x : aden ap_26 × hden hp_26) (k : KF R) : fnrun TT (EG_26 q_87 q_88) (drawOk TT QQ) (LG_26) true Try.f26 (instA ap_26 x.1) (instH hp_26 x.2) k = Q_26 q_87 q_88 x (fun y => k (Pat.inst (.tup (.fcons (.node (.fcons (.int .i64) (.fcons (.int .i64) (.fcons (.int .i64) (.fcons (.int .i64) (.fcons (.int .i64) (.fcons (.int .i64) (.fcons (.int .i64) (.fcons (.int .i64) (.fnil)))))))))) (.fcons (.int .i64) (.fnil)))) y) (instH hp_26 x.2)) := by kernel_rfl
theorem run_26 {R : Type} (N : Nat) (x : aden ap_26 × hden hp_26) (k : KF R) : fnrun TT (E_26 (R := R) N) (drawOk TT QQ) (L_26 N) true Try.f26 (instA ap_26 x.1) (instH hp_26 x.2) k = p_26 N x (fun y => k (Pat.inst (.tup (.fcons (.node (.fcons (.int .i64) (.fcons (.int .i64) (.fcons (.int .i64) (.fcons (.int .i64) (.fcons (.int .i64) (.fcons (.int .i64) (.fcons (.int .i64) (.fcons (.int .i64) (.fnil)))))))))) (.fcons (.int .i64) (.fnil)))) y) (instH hp_26 x.2)) := (grun_26 (p_87 N) (p_88 N) x k).trans (by kernel_rfl)
theorem good_26 {R : Type} (N : Nat) : GD (X := R) Try.prog QQ 26 ap_26 hp_26 (fun (x : aden ap_26 × hden hp_26) k => p_26 N x (fun y => k (Pat.inst (.tup (.fcons (.node (.fcons (.int .i64) (.fcons (.int .i64) (.fcons (.int .i64) (.fcons (.int .i64) (.fcons (.int .i64) (.fcons (.int .i64) (.fcons (.int .i64) (.fcons (.int .i64) (.fnil)))))))))) (.fcons (.int .i64) (.fnil)))) y) (instH hp_26 x.2))) :=
  gd_quiet (E := E_26 N) (p := fun (x : aden ap_26 × hden hp_26) κ => p_26 N x (fun y => κ (Pat.inst (.tup (.fcons (.node (.fcons (.int .i64) (.fcons (.int .i64) (.fcons (.int .i64) (.fcons (.int .i64) (.fcons (.int .i64) (.fcons (.int .i64) (.fcons (.int .i64) (.fcons (.int .i64) (.fnil)))))))))) (.fcons (.int .i64) (.fnil)))) y))) mixed tyok (eok_26 N) Try.func26 (by kernel_rfl) (by kernel_rfl) (lok_26 N) (fun x k => run_26 N x k)

def ap_73 : List Pat := [.node (.fcons (.int .i64) (.fcons (.int .i64) (.fcons (.int .i64) (.fcons (.int .i64) (.fcons (.int .i64) (.fcons (.int .i64) (.fcons (.int .i64) (.fcons (.int .i64) (.fnil))))))))), .node (.fcons (.int .i64) (.fcons (.int .i64) (.fnil)))]
def hp_73 : List (Option (Pat × Nat)) := []
def p_73 {R : Type} (N : Nat) (x : ((Int × (Int × (Int × (Int × (Int × (Int × (Int × (Int × Unit)))))))) × (Int × (Int × Unit)) × Unit) × (Unit)) (κ0 : Bool → Option R) : Option R :=
let i52 : Int := x.1.1.1
let i53 : Int := x.1.1.2.1
let i54 : Int := x.1.1.2.2.1
let i55 : Int := x.1.1.2.2.2.1
let i56 : Int := x.1.1.2.2.2.2.1
let i57 : Int := x.1.1.2.2.2.2.2.1
let i58 : Int := x.1.1.2.2.2.2.2.2.1
let i59 : Int := x.1.1.2.2.2.2.2.2.2.1
let i60 : Int := x.1.2.1.1
let i61 : Int := x.1.2.1.2.1
bif (i52 == 2) then (
κ0 true) else (
bif (i52 == 3) then (
bif (i60 == 0) then (
κ0 ((decide (i61 < 2)))) else (
κ0 false)) else (
κ0 false))

abbrev Tp_73 (R : Type) : Type := ((Int × (Int × (Int × (Int × (Int × (Int × (Int × (Int × Unit)))))))) × (Int × (Int × Unit)) × Unit) × (Unit) → (Bool → Option R) → Option R
def Q_73 {R : Type} (x : ((Int × (Int × (Int × (Int × (Int × (Int × (Int × (Int × Unit)))))))) × (Int × (Int × Unit)) × Unit) × (Unit)) (κ0 : Bool → Option R) : Option R :=
let i52 : Int := x.1.1.1
let i53 : Int := x.1.1.2.1
let i54 : Int := x.1.1.2.2.1
let i55 : Int := x.1.1.2.2.2.1
let i56 : Int := x.1.1.2.2.2.2.1
let i57 : Int := x.1.1.2.2.2.2.2.1
let i58 : Int := x.1.1.2.2.2.2.2.2.1
let i59 : Int := x.1.1.2.2.2.2.2.2.2.1
let i60 : Int := x.1.2.1.1
let i61 : Int := x.1.2.1.2.1
bif (i52 == 2) then (
κ0 true) else (
bif (i52 == 3) then (
bif (i60 == 0) then (
κ0 ((decide (i61 < 2)))) else (
κ0 false)) else (
κ0 false))
def EG_73 {R : Type} : Env R := Env.base QQ LN
def LG_73 {R : Type} : Loops R := Loops.none
def E_73 {R : Type} (N : Nat) : Env R := EG_73
theorem eok_73 {R : Type} (N : Nat) : EK Try.prog (E_73 (R := R) N) := ek_base _ _
def L_73 {R : Type} (N : Nat) : Loops R := LG_73
theorem lok_73 {R : Type} (N : Nat) : LOK 0 TT (E_73 (R := R) N) (drawOk TT QQ) (L_73 N) (bodyOf Try.f73) := loops_nil (by kernel_rfl)
theorem grun_73 {R : Type} (x : aden ap_73 × hden hp_73) (k : KF R) : fnrun TT (EG_73) (drawOk TT QQ) (LG_73) true Try.f73 (instA ap_73 x.1) (instH hp_73 x.2) k = Q_73 x (fun y => k (Pat.inst (.bool) y) (instH hp_73 x.2)) := by kernel_rfl
theorem run_73 {R : Type} (N : Nat) (x : aden ap_73 × hden hp_73) (k : KF R) : fnrun TT (E_73 (R := R) N) (drawOk TT QQ) (L_73 N) true Try.f73 (instA ap_73 x.1) (instH hp_73 x.2) k = p_73 N x (fun y => k (Pat.inst (.bool) y) (instH hp_73 x.2)) := (grun_73 x k).trans (by kernel_rfl)
theorem good_73 {R : Type} (N : Nat) : GD (X := R) Try.prog QQ 73 ap_73 hp_73 (fun (x : aden ap_73 × hden hp_73) k => p_73 N x (fun y => k (Pat.inst (.bool) y) (instH hp_73 x.2))) :=
  gd_quiet (E := E_73 N) (p := fun (x : aden ap_73 × hden hp_73) κ => p_73 N x (fun y => κ (Pat.inst (.bool) y))) mixed tyok (eok_73 N) Try.func73 (by kernel_rfl) (by kernel_rfl) (lok_73 N) (fun x k => run_73 N x k)

def ap_69 : List Pat := []
def hp_69 : List (Option (Pat × Nat)) := []
def p_69 {R : Type} (N : Nat) (x : (Unit) × (Unit)) (κ0 : Bool → Option R) : Option R :=
p_26 N (((3, (2, (8, (1, (32, ()))))), ()), ()) (fun y42 =>
let i43 : Int := y42.1.1
let i44 : Int := y42.1.2.1
let i45 : Int := y42.1.2.2.1
let i46 : Int := y42.1.2.2.2.1
let i47 : Int := y42.1.2.2.2.2.1
let i48 : Int := y42.1.2.2.2.2.2.1
let i49 : Int := y42.1.2.2.2.2.2.2.1
let i50 : Int := y42.1.2.2.2.2.2.2.2.1
let i51 : Int := y42.2.1
bif (i51 == 0) then (
p_73 N (((i43, (i44, (i45, (i46, (i47, (i48, (i49, (i50, ())))))))), (0, (1, ())), ()), ()) (fun y62 =>
let b63 : Bool := y62
bif b63 then (
p_73 N (((i43, (i44, (i45, (i46, (i47, (i48, (i49, (i50, ())))))))), (1, (0, ())), ()), ()) (fun y64 =>
let b65 : Bool := y64
κ0 ((bif (!b65) then true else false)))) else (
κ0 false))) else (
κ0 false))

abbrev Tp_69 (R : Type) : Type := (Unit) × (Unit) → (Bool → Option R) → Option R
def Q_69 {R : Type} (q_26 : Tp_26 R) (q_73 : Tp_73 R) (x : (Unit) × (Unit)) (κ0 : Bool → Option R) : Option R :=
q_26 (((3, (2, (8, (1, (32, ()))))), ()), ()) (fun y42 =>
let i43 : Int := y42.1.1
let i44 : Int := y42.1.2.1
let i45 : Int := y42.1.2.2.1
let i46 : Int := y42.1.2.2.2.1
let i47 : Int := y42.1.2.2.2.2.1
let i48 : Int := y42.1.2.2.2.2.2.1
let i49 : Int := y42.1.2.2.2.2.2.2.1
let i50 : Int := y42.1.2.2.2.2.2.2.2.1
let i51 : Int := y42.2.1
bif (i51 == 0) then (
q_73 (((i43, (i44, (i45, (i46, (i47, (i48, (i49, (i50, ())))))))), (0, (1, ())), ()), ()) (fun y62 =>
let b63 : Bool := y62
bif b63 then (
q_73 (((i43, (i44, (i45, (i46, (i47, (i48, (i49, (i50, ())))))))), (1, (0, ())), ()), ()) (fun y64 =>
let b65 : Bool := y64
κ0 ((bif (!b65) then true else false)))) else (
κ0 false))) else (
κ0 false))
def EG_69 {R : Type} (q_26 : Tp_26 R) (q_73 : Tp_73 R) : Env R := ((Env.base QQ LN).add 26 ap_26 hp_26 (fun (x : aden ap_26 × hden hp_26) k => q_26 x (fun y => k (Pat.inst (.tup (.fcons (.node (.fcons (.int .i64) (.fcons (.int .i64) (.fcons (.int .i64) (.fcons (.int .i64) (.fcons (.int .i64) (.fcons (.int .i64) (.fcons (.int .i64) (.fcons (.int .i64) (.fnil)))))))))) (.fcons (.int .i64) (.fnil)))) y) (instH hp_26 x.2)))).add 73 ap_73 hp_73 (fun (x : aden ap_73 × hden hp_73) k => q_73 x (fun y => k (Pat.inst (.bool) y) (instH hp_73 x.2)))
def LG_69 {R : Type} : Loops R := Loops.none
def E_69 {R : Type} (N : Nat) : Env R := EG_69 (p_26 N) (p_73 N)
theorem eok_69 {R : Type} (N : Nat) : EK Try.prog (E_69 (R := R) N) := ek_add (ek_add (ek_base _ _) (good_26 N)) (good_73 N)
def L_69 {R : Type} (N : Nat) : Loops R := LG_69
theorem lok_69 {R : Type} (N : Nat) : LOK 0 TT (E_69 (R := R) N) (drawOk TT QQ) (L_69 N) (bodyOf Try.f69) := loops_nil (by kernel_rfl)
theorem grun_69 {R : Type} (q_26 : Tp_26 R) (q_73 : Tp_73 R) (x : aden ap_69 × hden hp_69) (k : KF R) : fnrun TT (EG_69 q_26 q_73) (drawOk TT QQ) (LG_69) true Try.f69 (instA ap_69 x.1) (instH hp_69 x.2) k = Q_69 q_26 q_73 x (fun y => k (Pat.inst (.bool) y) (instH hp_69 x.2)) := by kernel_rfl
theorem run_69 {R : Type} (N : Nat) (x : aden ap_69 × hden hp_69) (k : KF R) : fnrun TT (E_69 (R := R) N) (drawOk TT QQ) (L_69 N) true Try.f69 (instA ap_69 x.1) (instH hp_69 x.2) k = p_69 N x (fun y => k (Pat.inst (.bool) y) (instH hp_69 x.2)) := (grun_69 (p_26 N) (p_73 N) x k).trans (by kernel_rfl)
theorem good_69 {R : Type} (N : Nat) : GD (X := R) Try.prog QQ 69 ap_69 hp_69 (fun (x : aden ap_69 × hden hp_69) k => p_69 N x (fun y => k (Pat.inst (.bool) y) (instH hp_69 x.2))) :=
  gd_quiet (E := E_69 N) (p := fun (x : aden ap_69 × hden hp_69) κ => p_69 N x (fun y => κ (Pat.inst (.bool) y))) mixed tyok (eok_69 N) Try.func69 (by kernel_rfl) (by kernel_rfl) (lok_69 N) (fun x k => run_69 N x k)

def ap_49 : List Pat := [.node (.fcons (.int .i64) (.fcons (.int .i64) (.fcons (.int .i64) (.fcons (.int .i64) (.fcons (.int .i64) (.fcons (.int .i64) (.fcons (.int .i64) (.fcons (.int .i64) (.fnil))))))))), .node (.fcons (.int .i64) (.fcons (.int .i64) (.fnil)))]
def hp_49 : List (Option (Pat × Nat)) := []
def p_49 {R : Type} (N : Nat) (x : ((Int × (Int × (Int × (Int × (Int × (Int × (Int × (Int × Unit)))))))) × (Int × (Int × Unit)) × Unit) × (Unit)) (κ0 : Bool → Option R) : Option R :=
let i78 : Int := x.1.1.1
let i79 : Int := x.1.1.2.1
let i80 : Int := x.1.1.2.2.1
let i81 : Int := x.1.1.2.2.2.1
let i82 : Int := x.1.1.2.2.2.2.1
let i83 : Int := x.1.1.2.2.2.2.2.1
let i84 : Int := x.1.1.2.2.2.2.2.2.1
let i85 : Int := x.1.1.2.2.2.2.2.2.2.1
let i86 : Int := x.1.2.1.1
let i87 : Int := x.1.2.1.2.1
let i88 : Int := subA .i64 i79 1
p_87 N ((i86, 0, i88, ()), ()) (fun y89 =>
let b90 : Bool := y89
bif b90 then (
p_87 N ((i87, 0, 3, ()), ()) (fun y91 =>
let b92 : Bool := y91
κ0 b92)) else (
κ0 false))

abbrev Tp_49 (R : Type) : Type := ((Int × (Int × (Int × (Int × (Int × (Int × (Int × (Int × Unit)))))))) × (Int × (Int × Unit)) × Unit) × (Unit) → (Bool → Option R) → Option R
def Q_49 {R : Type} (q_87 : Tp_87 R) (x : ((Int × (Int × (Int × (Int × (Int × (Int × (Int × (Int × Unit)))))))) × (Int × (Int × Unit)) × Unit) × (Unit)) (κ0 : Bool → Option R) : Option R :=
let i78 : Int := x.1.1.1
let i79 : Int := x.1.1.2.1
let i80 : Int := x.1.1.2.2.1
let i81 : Int := x.1.1.2.2.2.1
let i82 : Int := x.1.1.2.2.2.2.1
let i83 : Int := x.1.1.2.2.2.2.2.1
let i84 : Int := x.1.1.2.2.2.2.2.2.1
let i85 : Int := x.1.1.2.2.2.2.2.2.2.1
let i86 : Int := x.1.2.1.1
let i87 : Int := x.1.2.1.2.1
let i88 : Int := subA .i64 i79 1
q_87 ((i86, 0, i88, ()), ()) (fun y89 =>
let b90 : Bool := y89
bif b90 then (
q_87 ((i87, 0, 3, ()), ()) (fun y91 =>
let b92 : Bool := y91
κ0 b92)) else (
κ0 false))
def EG_49 {R : Type} (q_87 : Tp_87 R) : Env R := (Env.base QQ LN).add 87 ap_87 hp_87 (fun (x : aden ap_87 × hden hp_87) k => q_87 x (fun y => k (Pat.inst (.bool) y) (instH hp_87 x.2)))
def LG_49 {R : Type} : Loops R := Loops.none
def E_49 {R : Type} (N : Nat) : Env R := EG_49 (p_87 N)
theorem eok_49 {R : Type} (N : Nat) : EK Try.prog (E_49 (R := R) N) := ek_add (ek_base _ _) (good_87 N)
def L_49 {R : Type} (N : Nat) : Loops R := LG_49
theorem lok_49 {R : Type} (N : Nat) : LOK 0 TT (E_49 (R := R) N) (drawOk TT QQ) (L_49 N) (bodyOf Try.f49) := loops_nil (by kernel_rfl)
theorem grun_49 {R : Type} (q_87 : Tp_87 R) (x : aden ap_49 × hden hp_49) (k : KF R) : fnrun TT (EG_49 q_87) (drawOk TT QQ) (LG_49) true Try.f49 (instA ap_49 x.1) (instH hp_49 x.2) k = Q_49 q_87 x (fun y => k (Pat.inst (.bool) y) (instH hp_49 x.2)) := by kernel_rfl
theorem run_49 {R : Type} (N : Nat) (x : aden ap_49 × hden hp_49) (k : KF R) : fnrun TT (E_49 (R := R) N) (drawOk TT QQ) (L_49 N) true Try.f49 (instA ap_49 x.1) (instH hp_49 x.2) k = p_49 N x (fun y => k (Pat.inst (.bool) y) (instH hp_49 x.2)) := (grun_49 (p_87 N) x k).trans (by kernel_rfl)
theorem good_49 {R : Type} (N : Nat) : GD (X := R) Try.prog QQ 49 ap_49 hp_49 (fun (x : aden ap_49 × hden hp_49) k => p_49 N x (fun y => k (Pat.inst (.bool) y) (instH hp_49 x.2))) :=
  gd_quiet (E := E_49 N) (p := fun (x : aden ap_49 × hden hp_49) κ => p_49 N x (fun y => κ (Pat.inst (.bool) y))) mixed tyok (eok_49 N) Try.func49 (by kernel_rfl) (by kernel_rfl) (lok_49 N) (fun x k => run_49 N x k)

def ap_104 : List Pat := [.node (.fcons (.int .i64) (.fcons (.int .i64) (.fcons (.int .i64) (.fcons (.int .i64) (.fcons (.int .i64) (.fcons (.int .i64) (.fcons (.int .i64) (.fcons (.int .i64) (.fnil)))))))))]
def hp_104 : List (Option (Pat × Nat)) := []
def p_104 {R : Type} (N : Nat) (x : ((Int × (Int × (Int × (Int × (Int × (Int × (Int × (Int × Unit)))))))) × Unit) × (Unit)) (κ0 : Int → Option R) : Option R :=
let i116 : Int := x.1.1.1
let i117 : Int := x.1.1.2.1
let i118 : Int := x.1.1.2.2.1
let i119 : Int := x.1.1.2.2.2.1
let i120 : Int := x.1.1.2.2.2.2.1
let i121 : Int := x.1.1.2.2.2.2.2.1
let i122 : Int := x.1.1.2.2.2.2.2.2.1
let i123 : Int := x.1.1.2.2.2.2.2.2.2.1
let i124 : Int := subA .i64 i116 1
κ0 i124

abbrev Tp_104 (R : Type) : Type := ((Int × (Int × (Int × (Int × (Int × (Int × (Int × (Int × Unit)))))))) × Unit) × (Unit) → (Int → Option R) → Option R
def Q_104 {R : Type} (x : ((Int × (Int × (Int × (Int × (Int × (Int × (Int × (Int × Unit)))))))) × Unit) × (Unit)) (κ0 : Int → Option R) : Option R :=
let i116 : Int := x.1.1.1
let i117 : Int := x.1.1.2.1
let i118 : Int := x.1.1.2.2.1
let i119 : Int := x.1.1.2.2.2.1
let i120 : Int := x.1.1.2.2.2.2.1
let i121 : Int := x.1.1.2.2.2.2.2.1
let i122 : Int := x.1.1.2.2.2.2.2.2.1
let i123 : Int := x.1.1.2.2.2.2.2.2.2.1
let i124 : Int := subA .i64 i116 1
κ0 i124
def EG_104 {R : Type} : Env R := Env.base QQ LN
def LG_104 {R : Type} : Loops R := Loops.none
def E_104 {R : Type} (N : Nat) : Env R := EG_104
theorem eok_104 {R : Type} (N : Nat) : EK Try.prog (E_104 (R := R) N) := ek_base _ _
def L_104 {R : Type} (N : Nat) : Loops R := LG_104
theorem lok_104 {R : Type} (N : Nat) : LOK 0 TT (E_104 (R := R) N) (drawOk TT QQ) (L_104 N) (bodyOf Try.f104) := loops_nil (by kernel_rfl)
theorem grun_104 {R : Type} (x : aden ap_104 × hden hp_104) (k : KF R) : fnrun TT (EG_104) (drawOk TT QQ) (LG_104) true Try.f104 (instA ap_104 x.1) (instH hp_104 x.2) k = Q_104 x (fun y => k (Pat.inst (.int .i64) y) (instH hp_104 x.2)) := by kernel_rfl
theorem run_104 {R : Type} (N : Nat) (x : aden ap_104 × hden hp_104) (k : KF R) : fnrun TT (E_104 (R := R) N) (drawOk TT QQ) (L_104 N) true Try.f104 (instA ap_104 x.1) (instH hp_104 x.2) k = p_104 N x (fun y => k (Pat.inst (.int .i64) y) (instH hp_104 x.2)) := (grun_104 x k).trans (by kernel_rfl)
theorem good_104 {R : Type} (N : Nat) : GD (X := R) Try.prog QQ 104 ap_104 hp_104 (fun (x : aden ap_104 × hden hp_104) k => p_104 N x (fun y => k (Pat.inst (.int .i64) y) (instH hp_104 x.2))) :=
  gd_quiet (E := E_104 N) (p := fun (x : aden ap_104 × hden hp_104) κ => p_104 N x (fun y => κ (Pat.inst (.int .i64) y))) mixed tyok (eok_104 N) Try.func104 (by kernel_rfl) (by kernel_rfl) (lok_104 N) (fun x k => run_104 N x k)

def lv_70_4 : Live := [(8, none), (10, none), (26, none), (27, none)]
def pt_70_4 : SPat := ⟨[(8, .ptr 0 []), (10, .ptr 1 []), (26, .vec (.int .i64) 7), (27, .int .i64)], [some (.vec (.int .u64) 128, 70), some (.vec (.int .u64) 128, 70)]⟩
def px_70_4_0 : SPat := ⟨[(8, .ptr 0 []), (10, .ptr 1 [])], [some (.vec (.int .u64) 128, 70), some (.vec (.int .u64) 128, 70)]⟩
def lo_70_4 : Exit → Live
  | .exit 0 => [(8, none), (10, none)]
  | _ => []
def B_70_4 {R : Type} (N : Nat) (rec : ((Unit × Unit × (Nat → Int) × Int × Unit) × ((Nat → Int) × (Nat → Int) × Unit)) → Option R) (x : ((Unit × Unit × (Nat → Int) × Int × Unit) × ((Nat → Int) × (Nat → Int) × Unit))) (κ0 : ((Unit × Unit × Unit) × ((Nat → Int) × (Nat → Int) × Unit)) → Option R) : Option R :=
let a128 : (Nat → Int) := x.1.2.2.1
let i129 : Int := x.1.2.2.2.1
let a130 : (Nat → Int) := x.2.1
let a131 : (Nat → Int) := x.2.2.1
bif (decide (i129 < 7)) then (
bif decide (0 ≤ i129) then (
bif decide (i129 < (7 : Int)) then (
let i132 : Int := (a128 ((Int.toNat i129)))
let i133 : Int := IntKind.wrap .u64 i132
bif decide (0 ≤ i129) then (
bif decide (i129 < (128 : Int)) then (
let a134 : (Nat → Int) := (upd a131 ((Int.toNat i129)) i133)
let i135 : Int := addA .i64 i129 1
rec (((), (), a128, i135, ()), (a130, a134, ()))) else none) else none) else none) else none) else (
κ0 (((), (), ()), (a130, a131, ())))
def l_70_4 {R : Type} (N : Nat) : Nat → ((Unit × Unit × (Nat → Int) × Int × Unit) × ((Nat → Int) × (Nat → Int) × Unit)) → (((Unit × Unit × Unit) × ((Nat → Int) × (Nat → Int) × Unit)) → Option R) → Option R
  | 0, _, _ => none
  | n + 1, x, κ0 => B_70_4 N (fun y => l_70_4 N n y κ0) x κ0
def ap_70 : List Pat := [.node (.fcons (.int .i64) (.fcons (.int .i64) (.fcons (.int .i64) (.fcons (.int .i64) (.fcons (.int .i64) (.fcons (.int .i64) (.fcons (.int .i64) (.fcons (.int .i64) (.fnil))))))))), .node (.fcons (.int .i64) (.fcons (.int .i64) (.fnil))), .int .i64, .int .i64]
def hp_70 : List (Option (Pat × Nat)) := []
def p_70 {R : Type} (N : Nat) (x : ((Int × (Int × (Int × (Int × (Int × (Int × (Int × (Int × Unit)))))))) × (Int × (Int × Unit)) × Int × Int × Unit) × (Unit)) (κ0 : (Nat → Int) → Option R) : Option R :=
let i104 : Int := x.1.1.1
let i105 : Int := x.1.1.2.1
let i106 : Int := x.1.1.2.2.1
let i107 : Int := x.1.1.2.2.2.1
let i108 : Int := x.1.1.2.2.2.2.1
let i109 : Int := x.1.1.2.2.2.2.2.1
let i110 : Int := x.1.1.2.2.2.2.2.2.1
let i111 : Int := x.1.1.2.2.2.2.2.2.2.1
let i112 : Int := x.1.2.1.1
let i113 : Int := x.1.2.1.2.1
let i114 : Int := x.1.2.2.1
let i115 : Int := x.1.2.2.2.1
p_104 N (((i104, (i105, (i106, (i107, (i108, (i109, (i110, (i111, ())))))))), ()), ()) (fun y125 =>
let i126 : Int := y125
let a127 : (Nat → Int) := (upd ((upd ((upd ((upd ((upd ((upd ((upd ((Sch.zero (.arr 7 (.int .i64)))) 0 i112)) 1 i114)) 2 i113)) 3 i108)) 4 i105)) 5 i126)) 6 i115)
l_70_4 N N (((), (), a127, 0, ()), ((Sch.zero (.arr 128 (.int .u64))), (Sch.zero (.arr 128 (.int .u64))), ())) (fun y136 =>
let a137 : (Nat → Int) := y136.2.1
let a138 : (Nat → Int) := y136.2.2.1
κ0 a138))

abbrev Tl_70_4 (R : Type) : Type := ((Unit × Unit × (Nat → Int) × Int × Unit) × ((Nat → Int) × (Nat → Int) × Unit)) → (((Unit × Unit × Unit) × ((Nat → Int) × (Nat → Int) × Unit)) → Option R) → Option R
abbrev Tp_70 (R : Type) : Type := ((Int × (Int × (Int × (Int × (Int × (Int × (Int × (Int × Unit)))))))) × (Int × (Int × Unit)) × Int × Int × Unit) × (Unit) → ((Nat → Int) → Option R) → Option R
def Q_70 {R : Type} (q_104 : Tp_104 R) (m_70_4 : Tl_70_4 R) (x : ((Int × (Int × (Int × (Int × (Int × (Int × (Int × (Int × Unit)))))))) × (Int × (Int × Unit)) × Int × Int × Unit) × (Unit)) (κ0 : (Nat → Int) → Option R) : Option R :=
let i104 : Int := x.1.1.1
let i105 : Int := x.1.1.2.1
let i106 : Int := x.1.1.2.2.1
let i107 : Int := x.1.1.2.2.2.1
let i108 : Int := x.1.1.2.2.2.2.1
let i109 : Int := x.1.1.2.2.2.2.2.1
let i110 : Int := x.1.1.2.2.2.2.2.2.1
let i111 : Int := x.1.1.2.2.2.2.2.2.2.1
let i112 : Int := x.1.2.1.1
let i113 : Int := x.1.2.1.2.1
let i114 : Int := x.1.2.2.1
let i115 : Int := x.1.2.2.2.1
q_104 (((i104, (i105, (i106, (i107, (i108, (i109, (i110, (i111, ())))))))), ()), ()) (fun y125 =>
let i126 : Int := y125
let a127 : (Nat → Int) := (upd ((upd ((upd ((upd ((upd ((upd ((upd ((Sch.zero (.arr 7 (.int .i64)))) 0 i112)) 1 i114)) 2 i113)) 3 i108)) 4 i105)) 5 i126)) 6 i115)
m_70_4 (((), (), a127, 0, ()), ((Sch.zero (.arr 128 (.int .u64))), (Sch.zero (.arr 128 (.int .u64))), ())) (fun y136 =>
let a137 : (Nat → Int) := y136.2.1
let a138 : (Nat → Int) := y136.2.2.1
κ0 a138))
def C_70_4 {R : Type} (q_104 : Tp_104 R) (m_70_4 : Tl_70_4 R) (rec : ((Unit × Unit × (Nat → Int) × Int × Unit) × ((Nat → Int) × (Nat → Int) × Unit)) → Option R) (x : ((Unit × Unit × (Nat → Int) × Int × Unit) × ((Nat → Int) × (Nat → Int) × Unit))) (κ0 : ((Unit × Unit × Unit) × ((Nat → Int) × (Nat → Int) × Unit)) → Option R) : Option R :=
let a128 : (Nat → Int) := x.1.2.2.1
let i129 : Int := x.1.2.2.2.1
let a130 : (Nat → Int) := x.2.1
let a131 : (Nat → Int) := x.2.2.1
bif (decide (i129 < 7)) then (
bif decide (0 ≤ i129) then (
bif decide (i129 < (7 : Int)) then (
let i132 : Int := (a128 ((Int.toNat i129)))
let i133 : Int := IntKind.wrap .u64 i132
bif decide (0 ≤ i129) then (
bif decide (i129 < (128 : Int)) then (
let a134 : (Nat → Int) := (upd a131 ((Int.toNat i129)) i133)
let i135 : Int := addA .i64 i129 1
rec (((), (), a128, i135, ()), (a130, a134, ()))) else none) else none) else none) else none) else (
κ0 (((), (), ()), (a130, a131, ())))
def EG_70 {R : Type} (q_104 : Tp_104 R) : Env R := (Env.base QQ LN).add 104 ap_104 hp_104 (fun (x : aden ap_104 × hden hp_104) k => q_104 x (fun y => k (Pat.inst (.int .i64) y) (instH hp_104 x.2)))
def LG_70 {R : Type} (m_70_4 : Tl_70_4 R) : Loops R := (Loops.none).add 4 (loopBy 0 lv_70_4 pt_70_4 (fun x k => m_70_4 x (fun y => k (.exit 0) (px_70_4_0.inst y))))
def E_70 {R : Type} (N : Nat) : Env R := EG_70 (p_104 N)
theorem eok_70 {R : Type} (N : Nat) : EK Try.prog (E_70 (R := R) N) := ek_add (ek_base _ _) (good_104 N)
def L_70 {R : Type} (N : Nat) : Loops R := LG_70 (l_70_4 N N)
theorem gstep_70_4 {R : Type} (q_104 : Tp_104 R) (m_70_4 : Tl_70_4 R) (n : Nat) (x : pt_70_4.den) (k : Exit → St → Option R) : iter 0 lv_70_4 lo_70_4 (aexec TT (EG_70 q_104) (drawOk TT QQ) (LG_70 m_70_4) (loopAt 4 (bodyOf Try.f70))) (n + 1) (pt_70_4.inst x) k = C_70_4 q_104 m_70_4 (fun y => iter 0 lv_70_4 lo_70_4 (aexec TT (EG_70 q_104) (drawOk TT QQ) (LG_70 m_70_4) (loopAt 4 (bodyOf Try.f70))) n (pt_70_4.inst y) k) x (fun y => k (.exit 0) (px_70_4_0.inst y)) := by kernel_rfl
theorem step_70_4 {R : Type} (N n : Nat) (x : pt_70_4.den) (k : Exit → St → Option R) : iter 0 lv_70_4 lo_70_4 (aexec TT (E_70 (R := R) N) (drawOk TT QQ) (L_70 N) (loopAt 4 (bodyOf Try.f70))) (n + 1) (pt_70_4.inst x) k = B_70_4 N (fun y => iter 0 lv_70_4 lo_70_4 (aexec TT (E_70 (R := R) N) (drawOk TT QQ) (L_70 N) (loopAt 4 (bodyOf Try.f70))) n (pt_70_4.inst y) k) x (fun y => k (.exit 0) (px_70_4_0.inst y)) := (gstep_70_4 (p_104 N) (l_70_4 N N) n x k).trans (by kernel_rfl)
theorem eq_70_4 {R : Type} (N : Nat) : ∀ (n : Nat) (x : pt_70_4.den) (k : Exit → St → Option R), iter 0 lv_70_4 lo_70_4 (aexec TT (E_70 (R := R) N) (drawOk TT QQ) (L_70 N) (loopAt 4 (bodyOf Try.f70))) n (pt_70_4.inst x) k = l_70_4 N n x (fun y => k (.exit 0) (px_70_4_0.inst y)) :=
  iter_eq (K := Exit → St → Option R) (ks := fun k => k) (l := fun n (x : pt_70_4.den) k => l_70_4 N n x (fun y => k (.exit 0) (px_70_4_0.inst y))) (B := fun (rec : pt_70_4.den → Option R) (x : pt_70_4.den) k => B_70_4 N rec x (fun y => k (.exit 0) (px_70_4_0.inst y))) (fun _ _ => rfl) (fun _ _ _ => rfl) (fun n x k => step_70_4 N n x k)
theorem rounds_70_4 {R : Type} (N : Nat) : Rounds 0 TT (E_70 (R := R) N) (drawOk TT QQ) (L_70 N) 4 (loopAt 4 (bodyOf Try.f70)) :=
  rounds_of (p := pt_70_4) (l := fun (x : pt_70_4.den) k => l_70_4 N N x (fun y => k (.exit 0) (px_70_4_0.inst y))) (fun s k => rfl) (fun x k => eq_70_4 N N x k)
theorem loops_70 : loopsIn (bodyOf Try.f70) = [(4, loopAt 4 (bodyOf Try.f70))] := by kernel_rfl
theorem lok_70 {R : Type} (N : Nat) : LOK 0 TT (E_70 (R := R) N) (drawOk TT QQ) (L_70 N) (bodyOf Try.f70) := loops_all loops_70 (by
  simp only [List.forall_mem_cons, List.not_mem_nil, false_implies, implies_true, and_true]
  exact rounds_70_4 N)
theorem grun_70 {R : Type} (q_104 : Tp_104 R) (m_70_4 : Tl_70_4 R) (x : aden ap_70 × hden hp_70) (k : KF R) : fnrun TT (EG_70 q_104) (drawOk TT QQ) (LG_70 m_70_4) true Try.f70 (instA ap_70 x.1) (instH hp_70 x.2) k = Q_70 q_104 m_70_4 x (fun y => k (Pat.inst (.vec (.int .u64) 128) y) (instH hp_70 x.2)) := by kernel_rfl
theorem run_70 {R : Type} (N : Nat) (x : aden ap_70 × hden hp_70) (k : KF R) : fnrun TT (E_70 (R := R) N) (drawOk TT QQ) (L_70 N) true Try.f70 (instA ap_70 x.1) (instH hp_70 x.2) k = p_70 N x (fun y => k (Pat.inst (.vec (.int .u64) 128) y) (instH hp_70 x.2)) := (grun_70 (p_104 N) (l_70_4 N N) x k).trans (by kernel_rfl)
theorem good_70 {R : Type} (N : Nat) : GD (X := R) Try.prog QQ 70 ap_70 hp_70 (fun (x : aden ap_70 × hden hp_70) k => p_70 N x (fun y => k (Pat.inst (.vec (.int .u64) 128) y) (instH hp_70 x.2))) :=
  gd_quiet (E := E_70 N) (p := fun (x : aden ap_70 × hden hp_70) κ => p_70 N x (fun y => κ (Pat.inst (.vec (.int .u64) 128) y))) mixed tyok (eok_70 N) Try.func70 (by kernel_rfl) (by kernel_rfl) (lok_70 N) (fun x k => run_70 N x k)

def lv_94_6 : Live := [(2, none), (3, none), (8, none), (9, none), (10, none), (14, none), (15, none)]
def pt_94_6 : SPat := ⟨[(2, .ptr 0 []), (3, .ptr 1 []), (8, .ros (.arr 128 (.int .u64))), (9, .int .i64), (10, .int .i64), (14, .vec (.int .u64) 128), (15, .int .i64)], [some (.vec (.int .u64) 128, 70), some (.vec (.int .u64) 128, 70)]⟩
def px_94_6_0 : SPat := ⟨[(2, .ptr 0 []), (3, .ptr 1 []), (8, .ros (.arr 128 (.int .u64))), (9, .int .i64), (10, .int .i64)], [some (.vec (.int .u64) 128, 70), some (.vec (.int .u64) 128, 70)]⟩
def lo_94_6 : Exit → Live
  | .exit 2 => [(2, none), (3, none), (8, none), (9, none), (10, none)]
  | _ => []
def B_94_6 {R : Type} (N : Nat) (rec : ((Unit × Unit × (List (Nat → Int)) × Int × Int × (Nat → Int) × Int × Unit) × ((Nat → Int) × (Nat → Int) × Unit)) → Option R) (x : ((Unit × Unit × (List (Nat → Int)) × Int × Int × (Nat → Int) × Int × Unit) × ((Nat → Int) × (Nat → Int) × Unit))) (κ0 : ((Unit × Unit × (List (Nat → Int)) × Int × Int × Unit) × ((Nat → Int) × (Nat → Int) × Unit)) → Option R) : Option R :=
let l168 : (List (Nat → Int)) := x.1.2.2.1
let i169 : Int := x.1.2.2.2.1
let i170 : Int := x.1.2.2.2.2.1
let a171 : (Nat → Int) := x.1.2.2.2.2.2.1
let i172 : Int := x.1.2.2.2.2.2.2.1
let a173 : (Nat → Int) := x.2.1
let a174 : (Nat → Int) := x.2.2.1
bif (decide (i172 < 128)) then (
bif decide (0 ≤ i172) then (
bif decide (i172 < (128 : Int)) then (
let i175 : Int := (a171 ((Int.toNat i172)))
bif decide (0 ≤ i172) then (
bif decide (i172 < (128 : Int)) then (
let i176 : Int := (a174 ((Int.toNat i172)))
let i177 : Int := xorA .u64 i176 i175
bif decide (0 ≤ i172) then (
bif decide (i172 < (128 : Int)) then (
let a178 : (Nat → Int) := (upd a174 ((Int.toNat i172)) i177)
let i179 : Int := addA .i64 i172 1
rec (((), (), l168, i169, i170, a171, i179, ()), (a173, a178, ()))) else none) else none) else none) else none) else none) else none) else (
κ0 (((), (), l168, i169, i170, ()), (a173, a174, ())))
def l_94_6 {R : Type} (N : Nat) : Nat → ((Unit × Unit × (List (Nat → Int)) × Int × Int × (Nat → Int) × Int × Unit) × ((Nat → Int) × (Nat → Int) × Unit)) → (((Unit × Unit × (List (Nat → Int)) × Int × Int × Unit) × ((Nat → Int) × (Nat → Int) × Unit)) → Option R) → Option R
  | 0, _, _ => none
  | n + 1, x, κ0 => B_94_6 N (fun y => l_94_6 N n y κ0) x κ0
def lv_94_3 : Live := [(2, none), (3, none), (8, none), (9, none), (10, none)]
def pt_94_3 : SPat := ⟨[(2, .ptr 0 []), (3, .ptr 1 []), (8, .ros (.arr 128 (.int .u64))), (9, .int .i64), (10, .int .i64)], [some (.vec (.int .u64) 128, 70), some (.vec (.int .u64) 128, 70)]⟩
def px_94_3_0 : SPat := ⟨[(2, .ptr 0 []), (3, .ptr 1 [])], [some (.vec (.int .u64) 128, 70), some (.vec (.int .u64) 128, 70)]⟩
def lo_94_3 : Exit → Live
  | .exit 0 => [(2, none), (3, none)]
  | _ => []
def B_94_3 {R : Type} (N : Nat) (rec : ((Unit × Unit × (List (Nat → Int)) × Int × Int × Unit) × ((Nat → Int) × (Nat → Int) × Unit)) → Option R) (x : ((Unit × Unit × (List (Nat → Int)) × Int × Int × Unit) × ((Nat → Int) × (Nat → Int) × Unit))) (κ0 : ((Unit × Unit × Unit) × ((Nat → Int) × (Nat → Int) × Unit)) → Option R) : Option R :=
let l162 : (List (Nat → Int)) := x.1.2.2.1
let i163 : Int := x.1.2.2.2.1
let i164 : Int := x.1.2.2.2.2.1
let a165 : (Nat → Int) := x.2.1
let a166 : (Nat → Int) := x.2.2.1
bif (decide (i164 < i163)) then (
bif decide (0 ≤ i164) then (
bif decide (i164 < ((List.length l162) : Int)) then (
let p167 : (Nat → Int) := (List.getD l162 ((Int.toNat i164)) (Sch.zero (.arr 128 (.int .u64))))
l_94_6 N N (((), (), l162, i163, i164, p167, 0, ()), (a165, a166, ())) (fun y180 =>
let l181 : (List (Nat → Int)) := y180.1.2.2.1
let i182 : Int := y180.1.2.2.2.1
let i183 : Int := y180.1.2.2.2.2.1
let a184 : (Nat → Int) := y180.2.1
let a185 : (Nat → Int) := y180.2.2.1
let i186 : Int := addA .i64 i183 1
rec (((), (), l181, i182, i186, ()), (a184, a185, ())))) else none) else none) else (
κ0 (((), (), ()), (a165, a166, ())))
def l_94_3 {R : Type} (N : Nat) : Nat → ((Unit × Unit × (List (Nat → Int)) × Int × Int × Unit) × ((Nat → Int) × (Nat → Int) × Unit)) → (((Unit × Unit × Unit) × ((Nat → Int) × (Nat → Int) × Unit)) → Option R) → Option R
  | 0, _, _ => none
  | n + 1, x, κ0 => B_94_3 N (fun y => l_94_3 N n y κ0) x κ0
def ap_94 : List Pat := [.ros (.arr 128 (.int .u64))]
def hp_94 : List (Option (Pat × Nat)) := []
def p_94 {R : Type} (N : Nat) (x : ((List (Nat → Int)) × Unit) × (Unit)) (κ0 : (Nat → Int) → Option R) : Option R :=
let l160 : (List (Nat → Int)) := x.1.1
let i161 : Int := (((List.length l160) : Nat) : Int)
l_94_3 N N (((), (), l160, i161, 0, ()), ((Sch.zero (.arr 128 (.int .u64))), (Sch.zero (.arr 128 (.int .u64))), ())) (fun y187 =>
let a188 : (Nat → Int) := y187.2.1
let a189 : (Nat → Int) := y187.2.2.1
κ0 a189)

abbrev Tl_94_6 (R : Type) : Type := ((Unit × Unit × (List (Nat → Int)) × Int × Int × (Nat → Int) × Int × Unit) × ((Nat → Int) × (Nat → Int) × Unit)) → (((Unit × Unit × (List (Nat → Int)) × Int × Int × Unit) × ((Nat → Int) × (Nat → Int) × Unit)) → Option R) → Option R
abbrev Tl_94_3 (R : Type) : Type := ((Unit × Unit × (List (Nat → Int)) × Int × Int × Unit) × ((Nat → Int) × (Nat → Int) × Unit)) → (((Unit × Unit × Unit) × ((Nat → Int) × (Nat → Int) × Unit)) → Option R) → Option R
abbrev Tp_94 (R : Type) : Type := ((List (Nat → Int)) × Unit) × (Unit) → ((Nat → Int) → Option R) → Option R
def Q_94 {R : Type} (m_94_6 : Tl_94_6 R) (m_94_3 : Tl_94_3 R) (x : ((List (Nat → Int)) × Unit) × (Unit)) (κ0 : (Nat → Int) → Option R) : Option R :=
let l160 : (List (Nat → Int)) := x.1.1
let i161 : Int := (((List.length l160) : Nat) : Int)
m_94_3 (((), (), l160, i161, 0, ()), ((Sch.zero (.arr 128 (.int .u64))), (Sch.zero (.arr 128 (.int .u64))), ())) (fun y187 =>
let a188 : (Nat → Int) := y187.2.1
let a189 : (Nat → Int) := y187.2.2.1
κ0 a189)
def C_94_6 {R : Type} (m_94_6 : Tl_94_6 R) (m_94_3 : Tl_94_3 R) (rec : ((Unit × Unit × (List (Nat → Int)) × Int × Int × (Nat → Int) × Int × Unit) × ((Nat → Int) × (Nat → Int) × Unit)) → Option R) (x : ((Unit × Unit × (List (Nat → Int)) × Int × Int × (Nat → Int) × Int × Unit) × ((Nat → Int) × (Nat → Int) × Unit))) (κ0 : ((Unit × Unit × (List (Nat → Int)) × Int × Int × Unit) × ((Nat → Int) × (Nat → Int) × Unit)) → Option R) : Option R :=
let l168 : (List (Nat → Int)) := x.1.2.2.1
let i169 : Int := x.1.2.2.2.1
let i170 : Int := x.1.2.2.2.2.1
let a171 : (Nat → Int) := x.1.2.2.2.2.2.1
let i172 : Int := x.1.2.2.2.2.2.2.1
let a173 : (Nat → Int) := x.2.1
let a174 : (Nat → Int) := x.2.2.1
bif (decide (i172 < 128)) then (
bif decide (0 ≤ i172) then (
bif decide (i172 < (128 : Int)) then (
let i175 : Int := (a171 ((Int.toNat i172)))
bif decide (0 ≤ i172) then (
bif decide (i172 < (128 : Int)) then (
let i176 : Int := (a174 ((Int.toNat i172)))
let i177 : Int := xorA .u64 i176 i175
bif decide (0 ≤ i172) then (
bif decide (i172 < (128 : Int)) then (
let a178 : (Nat → Int) := (upd a174 ((Int.toNat i172)) i177)
let i179 : Int := addA .i64 i172 1
rec (((), (), l168, i169, i170, a171, i179, ()), (a173, a178, ()))) else none) else none) else none) else none) else none) else none) else (
κ0 (((), (), l168, i169, i170, ()), (a173, a174, ())))
def C_94_3 {R : Type} (m_94_6 : Tl_94_6 R) (m_94_3 : Tl_94_3 R) (rec : ((Unit × Unit × (List (Nat → Int)) × Int × Int × Unit) × ((Nat → Int) × (Nat → Int) × Unit)) → Option R) (x : ((Unit × Unit × (List (Nat → Int)) × Int × Int × Unit) × ((Nat → Int) × (Nat → Int) × Unit))) (κ0 : ((Unit × Unit × Unit) × ((Nat → Int) × (Nat → Int) × Unit)) → Option R) : Option R :=
let l162 : (List (Nat → Int)) := x.1.2.2.1
let i163 : Int := x.1.2.2.2.1
let i164 : Int := x.1.2.2.2.2.1
let a165 : (Nat → Int) := x.2.1
let a166 : (Nat → Int) := x.2.2.1
bif (decide (i164 < i163)) then (
bif decide (0 ≤ i164) then (
bif decide (i164 < ((List.length l162) : Int)) then (
let p167 : (Nat → Int) := (List.getD l162 ((Int.toNat i164)) (Sch.zero (.arr 128 (.int .u64))))
m_94_6 (((), (), l162, i163, i164, p167, 0, ()), (a165, a166, ())) (fun y180 =>
let l181 : (List (Nat → Int)) := y180.1.2.2.1
let i182 : Int := y180.1.2.2.2.1
let i183 : Int := y180.1.2.2.2.2.1
let a184 : (Nat → Int) := y180.2.1
let a185 : (Nat → Int) := y180.2.2.1
let i186 : Int := addA .i64 i183 1
rec (((), (), l181, i182, i186, ()), (a184, a185, ())))) else none) else none) else (
κ0 (((), (), ()), (a165, a166, ())))
def EG_94 {R : Type} : Env R := Env.base QQ LN
def LG_94 {R : Type} (m_94_6 : Tl_94_6 R) (m_94_3 : Tl_94_3 R) : Loops R := ((Loops.none).add 6 (loopBy 0 lv_94_6 pt_94_6 (fun x k => m_94_6 x (fun y => k (.exit 2) (px_94_6_0.inst y))))).add 3 (loopBy 0 lv_94_3 pt_94_3 (fun x k => m_94_3 x (fun y => k (.exit 0) (px_94_3_0.inst y))))
def E_94 {R : Type} (N : Nat) : Env R := EG_94
theorem eok_94 {R : Type} (N : Nat) : EK Try.prog (E_94 (R := R) N) := ek_base _ _
def L_94 {R : Type} (N : Nat) : Loops R := LG_94 (l_94_6 N N) (l_94_3 N N)
theorem gstep_94_6 {R : Type} (m_94_6 : Tl_94_6 R) (m_94_3 : Tl_94_3 R) (n : Nat) (x : pt_94_6.den) (k : Exit → St → Option R) : iter 0 lv_94_6 lo_94_6 (aexec TT (EG_94) (drawOk TT QQ) (LG_94 m_94_6 m_94_3) (loopAt 6 (bodyOf Try.f94))) (n + 1) (pt_94_6.inst x) k = C_94_6 m_94_6 m_94_3 (fun y => iter 0 lv_94_6 lo_94_6 (aexec TT (EG_94) (drawOk TT QQ) (LG_94 m_94_6 m_94_3) (loopAt 6 (bodyOf Try.f94))) n (pt_94_6.inst y) k) x (fun y => k (.exit 2) (px_94_6_0.inst y)) := by kernel_rfl
theorem step_94_6 {R : Type} (N n : Nat) (x : pt_94_6.den) (k : Exit → St → Option R) : iter 0 lv_94_6 lo_94_6 (aexec TT (E_94 (R := R) N) (drawOk TT QQ) (L_94 N) (loopAt 6 (bodyOf Try.f94))) (n + 1) (pt_94_6.inst x) k = B_94_6 N (fun y => iter 0 lv_94_6 lo_94_6 (aexec TT (E_94 (R := R) N) (drawOk TT QQ) (L_94 N) (loopAt 6 (bodyOf Try.f94))) n (pt_94_6.inst y) k) x (fun y => k (.exit 2) (px_94_6_0.inst y)) := (gstep_94_6 (l_94_6 N N) (l_94_3 N N) n x k).trans (by kernel_rfl)
theorem eq_94_6 {R : Type} (N : Nat) : ∀ (n : Nat) (x : pt_94_6.den) (k : Exit → St → Option R), iter 0 lv_94_6 lo_94_6 (aexec TT (E_94 (R := R) N) (drawOk TT QQ) (L_94 N) (loopAt 6 (bodyOf Try.f94))) n (pt_94_6.inst x) k = l_94_6 N n x (fun y => k (.exit 2) (px_94_6_0.inst y)) :=
  iter_eq (K := Exit → St → Option R) (ks := fun k => k) (l := fun n (x : pt_94_6.den) k => l_94_6 N n x (fun y => k (.exit 2) (px_94_6_0.inst y))) (B := fun (rec : pt_94_6.den → Option R) (x : pt_94_6.den) k => B_94_6 N rec x (fun y => k (.exit 2) (px_94_6_0.inst y))) (fun _ _ => rfl) (fun _ _ _ => rfl) (fun n x k => step_94_6 N n x k)
theorem rounds_94_6 {R : Type} (N : Nat) : Rounds 0 TT (E_94 (R := R) N) (drawOk TT QQ) (L_94 N) 6 (loopAt 6 (bodyOf Try.f94)) :=
  rounds_of (p := pt_94_6) (l := fun (x : pt_94_6.den) k => l_94_6 N N x (fun y => k (.exit 2) (px_94_6_0.inst y))) (fun s k => rfl) (fun x k => eq_94_6 N N x k)
theorem gstep_94_3 {R : Type} (m_94_6 : Tl_94_6 R) (m_94_3 : Tl_94_3 R) (n : Nat) (x : pt_94_3.den) (k : Exit → St → Option R) : iter 0 lv_94_3 lo_94_3 (aexec TT (EG_94) (drawOk TT QQ) (LG_94 m_94_6 m_94_3) (loopAt 3 (bodyOf Try.f94))) (n + 1) (pt_94_3.inst x) k = C_94_3 m_94_6 m_94_3 (fun y => iter 0 lv_94_3 lo_94_3 (aexec TT (EG_94) (drawOk TT QQ) (LG_94 m_94_6 m_94_3) (loopAt 3 (bodyOf Try.f94))) n (pt_94_3.inst y) k) x (fun y => k (.exit 0) (px_94_3_0.inst y)) := by kernel_rfl
theorem step_94_3 {R : Type} (N n : Nat) (x : pt_94_3.den) (k : Exit → St → Option R) : iter 0 lv_94_3 lo_94_3 (aexec TT (E_94 (R := R) N) (drawOk TT QQ) (L_94 N) (loopAt 3 (bodyOf Try.f94))) (n + 1) (pt_94_3.inst x) k = B_94_3 N (fun y => iter 0 lv_94_3 lo_94_3 (aexec TT (E_94 (R := R) N) (drawOk TT QQ) (L_94 N) (loopAt 3 (bodyOf Try.f94))) n (pt_94_3.inst y) k) x (fun y => k (.exit 0) (px_94_3_0.inst y)) := (gstep_94_3 (l_94_6 N N) (l_94_3 N N) n x k).trans (by kernel_rfl)
theorem eq_94_3 {R : Type} (N : Nat) : ∀ (n : Nat) (x : pt_94_3.den) (k : Exit → St → Option R), iter 0 lv_94_3 lo_94_3 (aexec TT (E_94 (R := R) N) (drawOk TT QQ) (L_94 N) (loopAt 3 (bodyOf Try.f94))) n (pt_94_3.inst x) k = l_94_3 N n x (fun y => k (.exit 0) (px_94_3_0.inst y)) :=
  iter_eq (K := Exit → St → Option R) (ks := fun k => k) (l := fun n (x : pt_94_3.den) k => l_94_3 N n x (fun y => k (.exit 0) (px_94_3_0.inst y))) (B := fun (rec : pt_94_3.den → Option R) (x : pt_94_3.den) k => B_94_3 N rec x (fun y => k (.exit 0) (px_94_3_0.inst y))) (fun _ _ => rfl) (fun _ _ _ => rfl) (fun n x k => step_94_3 N n x k)
theorem rounds_94_3 {R : Type} (N : Nat) : Rounds 0 TT (E_94 (R := R) N) (drawOk TT QQ) (L_94 N) 3 (loopAt 3 (bodyOf Try.f94)) :=
  rounds_of (p := pt_94_3) (l := fun (x : pt_94_3.den) k => l_94_3 N N x (fun y => k (.exit 0) (px_94_3_0.inst y))) (fun s k => rfl) (fun x k => eq_94_3 N N x k)
theorem loops_94 : loopsIn (bodyOf Try.f94) = [(3, loopAt 3 (bodyOf Try.f94)), (6, loopAt 6 (bodyOf Try.f94))] := by kernel_rfl
theorem lok_94 {R : Type} (N : Nat) : LOK 0 TT (E_94 (R := R) N) (drawOk TT QQ) (L_94 N) (bodyOf Try.f94) := loops_all loops_94 (by
  simp only [List.forall_mem_cons, List.not_mem_nil, false_implies, implies_true, and_true]
  exact ⟨rounds_94_3 N, rounds_94_6 N⟩)
theorem grun_94 {R : Type} (m_94_6 : Tl_94_6 R) (m_94_3 : Tl_94_3 R) (x : aden ap_94 × hden hp_94) (k : KF R) : fnrun TT (EG_94) (drawOk TT QQ) (LG_94 m_94_6 m_94_3) true Try.f94 (instA ap_94 x.1) (instH hp_94 x.2) k = Q_94 m_94_6 m_94_3 x (fun y => k (Pat.inst (.vec (.int .u64) 128) y) (instH hp_94 x.2)) := by kernel_rfl
theorem run_94 {R : Type} (N : Nat) (x : aden ap_94 × hden hp_94) (k : KF R) : fnrun TT (E_94 (R := R) N) (drawOk TT QQ) (L_94 N) true Try.f94 (instA ap_94 x.1) (instH hp_94 x.2) k = p_94 N x (fun y => k (Pat.inst (.vec (.int .u64) 128) y) (instH hp_94 x.2)) := (grun_94 (l_94_6 N N) (l_94_3 N N) x k).trans (by kernel_rfl)
theorem good_94 {R : Type} (N : Nat) : GD (X := R) Try.prog QQ 94 ap_94 hp_94 (fun (x : aden ap_94 × hden hp_94) k => p_94 N x (fun y => k (Pat.inst (.vec (.int .u64) 128) y) (instH hp_94 x.2))) :=
  gd_quiet (E := E_94 N) (p := fun (x : aden ap_94 × hden hp_94) κ => p_94 N x (fun y => κ (Pat.inst (.vec (.int .u64) 128) y))) mixed tyok (eok_94 N) Try.func94 (by kernel_rfl) (by kernel_rfl) (lok_94 N) (fun x k => run_94 N x k)

def lv_95_3 : Live := [(0, none), (1, none), (4, none), (5, none), (7, none)]
def pt_95_3 : SPat := ⟨[(0, .int .i64), (1, .bool), (4, .ptr 0 []), (5, .ptr 1 []), (7, .int .i64)], [some (.vec (.int .i64) 16, 153), some (.vec (.int .i64) 16, 153)]⟩
def px_95_3_0 : SPat := ⟨[(4, .ptr 0 []), (5, .ptr 1 [])], [some (.vec (.int .i64) 16, 153), some (.vec (.int .i64) 16, 153)]⟩
def lo_95_3 : Exit → Live
  | .exit 0 => [(4, none), (5, none)]
  | _ => []
def B_95_3 {R : Type} (N : Nat) (rec : ((Int × Bool × Unit × Unit × Int × Unit) × ((Nat → Int) × (Nat → Int) × Unit)) → Option R) (x : ((Int × Bool × Unit × Unit × Int × Unit) × ((Nat → Int) × (Nat → Int) × Unit))) (κ0 : ((Unit × Unit × Unit) × ((Nat → Int) × (Nat → Int) × Unit)) → Option R) : Option R :=
let i210 : Int := x.1.1
let b211 : Bool := x.1.2.1
let i212 : Int := x.1.2.2.2.2.1
let a213 : (Nat → Int) := x.2.1
let a214 : (Nat → Int) := x.2.2.1
bif (decide (i212 < 16)) then (
bif b211 then (
let i215 : Int := mulA .i64 2 i210
let i216 : Int := remA .i64 i212 2
let i217 : Int := addA .i64 i215 i216
let i218 : Int := quoA .i64 i212 2
let i219 : Int := mulA .i64 16 i218
let i220 : Int := addA .i64 i217 i219
bif decide (0 ≤ i212) then (
bif decide (i212 < (16 : Int)) then (
let a221 : (Nat → Int) := (upd a214 ((Int.toNat i212)) i220)
let i222 : Int := addA .i64 i212 1
rec ((i210, b211, (), (), i222, ()), (a213, a221, ()))) else none) else none) else (
let i223 : Int := mulA .i64 16 i210
let i224 : Int := addA .i64 i223 i212
bif decide (0 ≤ i212) then (
bif decide (i212 < (16 : Int)) then (
let a225 : (Nat → Int) := (upd a214 ((Int.toNat i212)) i224)
let i226 : Int := addA .i64 i212 1
rec ((i210, b211, (), (), i226, ()), (a213, a225, ()))) else none) else none)) else (
κ0 (((), (), ()), (a213, a214, ())))
def l_95_3 {R : Type} (N : Nat) : Nat → ((Int × Bool × Unit × Unit × Int × Unit) × ((Nat → Int) × (Nat → Int) × Unit)) → (((Unit × Unit × Unit) × ((Nat → Int) × (Nat → Int) × Unit)) → Option R) → Option R
  | 0, _, _ => none
  | n + 1, x, κ0 => B_95_3 N (fun y => l_95_3 N n y κ0) x κ0
def ap_95 : List Pat := [.int .i64, .bool]
def hp_95 : List (Option (Pat × Nat)) := []
def p_95 {R : Type} (N : Nat) (x : (Int × Bool × Unit) × (Unit)) (κ0 : (Nat → Int) → Option R) : Option R :=
let i208 : Int := x.1.1
let b209 : Bool := x.1.2.1
l_95_3 N N ((i208, b209, (), (), 0, ()), ((Sch.zero (.arr 16 (.int .i64))), (Sch.zero (.arr 16 (.int .i64))), ())) (fun y227 =>
let a228 : (Nat → Int) := y227.2.1
let a229 : (Nat → Int) := y227.2.2.1
κ0 a229)

abbrev Tl_95_3 (R : Type) : Type := ((Int × Bool × Unit × Unit × Int × Unit) × ((Nat → Int) × (Nat → Int) × Unit)) → (((Unit × Unit × Unit) × ((Nat → Int) × (Nat → Int) × Unit)) → Option R) → Option R
abbrev Tp_95 (R : Type) : Type := (Int × Bool × Unit) × (Unit) → ((Nat → Int) → Option R) → Option R
def Q_95 {R : Type} (m_95_3 : Tl_95_3 R) (x : (Int × Bool × Unit) × (Unit)) (κ0 : (Nat → Int) → Option R) : Option R :=
let i208 : Int := x.1.1
let b209 : Bool := x.1.2.1
m_95_3 ((i208, b209, (), (), 0, ()), ((Sch.zero (.arr 16 (.int .i64))), (Sch.zero (.arr 16 (.int .i64))), ())) (fun y227 =>
let a228 : (Nat → Int) := y227.2.1
let a229 : (Nat → Int) := y227.2.2.1
κ0 a229)
def C_95_3 {R : Type} (m_95_3 : Tl_95_3 R) (rec : ((Int × Bool × Unit × Unit × Int × Unit) × ((Nat → Int) × (Nat → Int) × Unit)) → Option R) (x : ((Int × Bool × Unit × Unit × Int × Unit) × ((Nat → Int) × (Nat → Int) × Unit))) (κ0 : ((Unit × Unit × Unit) × ((Nat → Int) × (Nat → Int) × Unit)) → Option R) : Option R :=
let i210 : Int := x.1.1
let b211 : Bool := x.1.2.1
let i212 : Int := x.1.2.2.2.2.1
let a213 : (Nat → Int) := x.2.1
let a214 : (Nat → Int) := x.2.2.1
bif (decide (i212 < 16)) then (
bif b211 then (
let i215 : Int := mulA .i64 2 i210
let i216 : Int := remA .i64 i212 2
let i217 : Int := addA .i64 i215 i216
let i218 : Int := quoA .i64 i212 2
let i219 : Int := mulA .i64 16 i218
let i220 : Int := addA .i64 i217 i219
bif decide (0 ≤ i212) then (
bif decide (i212 < (16 : Int)) then (
let a221 : (Nat → Int) := (upd a214 ((Int.toNat i212)) i220)
let i222 : Int := addA .i64 i212 1
rec ((i210, b211, (), (), i222, ()), (a213, a221, ()))) else none) else none) else (
let i223 : Int := mulA .i64 16 i210
let i224 : Int := addA .i64 i223 i212
bif decide (0 ≤ i212) then (
bif decide (i212 < (16 : Int)) then (
let a225 : (Nat → Int) := (upd a214 ((Int.toNat i212)) i224)
let i226 : Int := addA .i64 i212 1
rec ((i210, b211, (), (), i226, ()), (a213, a225, ()))) else none) else none)) else (
κ0 (((), (), ()), (a213, a214, ())))
def EG_95 {R : Type} : Env R := Env.base QQ LN
def LG_95 {R : Type} (m_95_3 : Tl_95_3 R) : Loops R := (Loops.none).add 3 (loopBy 0 lv_95_3 pt_95_3 (fun x k => m_95_3 x (fun y => k (.exit 0) (px_95_3_0.inst y))))
def E_95 {R : Type} (N : Nat) : Env R := EG_95
theorem eok_95 {R : Type} (N : Nat) : EK Try.prog (E_95 (R := R) N) := ek_base _ _
def L_95 {R : Type} (N : Nat) : Loops R := LG_95 (l_95_3 N N)
theorem gstep_95_3 {R : Type} (m_95_3 : Tl_95_3 R) (n : Nat) (x : pt_95_3.den) (k : Exit → St → Option R) : iter 0 lv_95_3 lo_95_3 (aexec TT (EG_95) (drawOk TT QQ) (LG_95 m_95_3) (loopAt 3 (bodyOf Try.f95))) (n + 1) (pt_95_3.inst x) k = C_95_3 m_95_3 (fun y => iter 0 lv_95_3 lo_95_3 (aexec TT (EG_95) (drawOk TT QQ) (LG_95 m_95_3) (loopAt 3 (bodyOf Try.f95))) n (pt_95_3.inst y) k) x (fun y => k (.exit 0) (px_95_3_0.inst y)) := by kernel_rfl
theorem step_95_3 {R : Type} (N n : Nat) (x : pt_95_3.den) (k : Exit → St → Option R) : iter 0 lv_95_3 lo_95_3 (aexec TT (E_95 (R := R) N) (drawOk TT QQ) (L_95 N) (loopAt 3 (bodyOf Try.f95))) (n + 1) (pt_95_3.inst x) k = B_95_3 N (fun y => iter 0 lv_95_3 lo_95_3 (aexec TT (E_95 (R := R) N) (drawOk TT QQ) (L_95 N) (loopAt 3 (bodyOf Try.f95))) n (pt_95_3.inst y) k) x (fun y => k (.exit 0) (px_95_3_0.inst y)) := (gstep_95_3 (l_95_3 N N) n x k).trans (by kernel_rfl)
theorem eq_95_3 {R : Type} (N : Nat) : ∀ (n : Nat) (x : pt_95_3.den) (k : Exit → St → Option R), iter 0 lv_95_3 lo_95_3 (aexec TT (E_95 (R := R) N) (drawOk TT QQ) (L_95 N) (loopAt 3 (bodyOf Try.f95))) n (pt_95_3.inst x) k = l_95_3 N n x (fun y => k (.exit 0) (px_95_3_0.inst y)) :=
  iter_eq (K := Exit → St → Option R) (ks := fun k => k) (l := fun n (x : pt_95_3.den) k => l_95_3 N n x (fun y => k (.exit 0) (px_95_3_0.inst y))) (B := fun (rec : pt_95_3.den → Option R) (x : pt_95_3.den) k => B_95_3 N rec x (fun y => k (.exit 0) (px_95_3_0.inst y))) (fun _ _ => rfl) (fun _ _ _ => rfl) (fun n x k => step_95_3 N n x k)
theorem rounds_95_3 {R : Type} (N : Nat) : Rounds 0 TT (E_95 (R := R) N) (drawOk TT QQ) (L_95 N) 3 (loopAt 3 (bodyOf Try.f95)) :=
  rounds_of (p := pt_95_3) (l := fun (x : pt_95_3.den) k => l_95_3 N N x (fun y => k (.exit 0) (px_95_3_0.inst y))) (fun s k => rfl) (fun x k => eq_95_3 N N x k)
theorem loops_95 : loopsIn (bodyOf Try.f95) = [(3, loopAt 3 (bodyOf Try.f95))] := by kernel_rfl
theorem lok_95 {R : Type} (N : Nat) : LOK 0 TT (E_95 (R := R) N) (drawOk TT QQ) (L_95 N) (bodyOf Try.f95) := loops_all loops_95 (by
  simp only [List.forall_mem_cons, List.not_mem_nil, false_implies, implies_true, and_true]
  exact rounds_95_3 N)
theorem grun_95 {R : Type} (m_95_3 : Tl_95_3 R) (x : aden ap_95 × hden hp_95) (k : KF R) : fnrun TT (EG_95) (drawOk TT QQ) (LG_95 m_95_3) true Try.f95 (instA ap_95 x.1) (instH hp_95 x.2) k = Q_95 m_95_3 x (fun y => k (Pat.inst (.vec (.int .i64) 16) y) (instH hp_95 x.2)) := by kernel_rfl
theorem run_95 {R : Type} (N : Nat) (x : aden ap_95 × hden hp_95) (k : KF R) : fnrun TT (E_95 (R := R) N) (drawOk TT QQ) (L_95 N) true Try.f95 (instA ap_95 x.1) (instH hp_95 x.2) k = p_95 N x (fun y => k (Pat.inst (.vec (.int .i64) 16) y) (instH hp_95 x.2)) := (grun_95 (l_95_3 N N) x k).trans (by kernel_rfl)
theorem good_95 {R : Type} (N : Nat) : GD (X := R) Try.prog QQ 95 ap_95 hp_95 (fun (x : aden ap_95 × hden hp_95) k => p_95 N x (fun y => k (Pat.inst (.vec (.int .i64) 16) y) (instH hp_95 x.2))) :=
  gd_quiet (E := E_95 N) (p := fun (x : aden ap_95 × hden hp_95) κ => p_95 N x (fun y => κ (Pat.inst (.vec (.int .i64) 16) y))) mixed tyok (eok_95 N) Try.func95 (by kernel_rfl) (by kernel_rfl) (lok_95 N) (fun x k => run_95 N x k)

def ap_93 : List Pat := []
def hp_93 : List (Option (Pat × Nat)) := []
def p_93 {R : Type} (N : Nat) (x : (Unit) × (Unit)) (κ0 : (Nat → (Nat → Int)) → Option R) : Option R :=
let a258 : (Nat → Int) := (upd ((upd ((upd ((upd ((Sch.zero (.arr 4 (.int .i64)))) 0 0)) 1 4)) 2 8)) 3 12)
let a259 : (Nat → Int) := (upd ((upd ((upd ((upd ((Sch.zero (.arr 4 (.int .i64)))) 0 1)) 1 5)) 2 9)) 3 13)
let a260 : (Nat → Int) := (upd ((upd ((upd ((upd ((Sch.zero (.arr 4 (.int .i64)))) 0 2)) 1 6)) 2 10)) 3 14)
let a261 : (Nat → Int) := (upd ((upd ((upd ((upd ((Sch.zero (.arr 4 (.int .i64)))) 0 3)) 1 7)) 2 11)) 3 15)
let a262 : (Nat → Int) := (upd ((upd ((upd ((upd ((Sch.zero (.arr 4 (.int .i64)))) 0 0)) 1 5)) 2 10)) 3 15)
let a263 : (Nat → Int) := (upd ((upd ((upd ((upd ((Sch.zero (.arr 4 (.int .i64)))) 0 1)) 1 6)) 2 11)) 3 12)
let a264 : (Nat → Int) := (upd ((upd ((upd ((upd ((Sch.zero (.arr 4 (.int .i64)))) 0 2)) 1 7)) 2 8)) 3 13)
let a265 : (Nat → Int) := (upd ((upd ((upd ((upd ((Sch.zero (.arr 4 (.int .i64)))) 0 3)) 1 4)) 2 9)) 3 14)
let a266 : (Nat → (Nat → Int)) := (upd ((upd ((upd ((upd ((upd ((upd ((upd ((upd ((Sch.zero (.arr 8 (.arr 4 (.int .i64))))) 0 a258)) 1 a259)) 2 a260)) 3 a261)) 4 a262)) 5 a263)) 6 a264)) 7 a265)
κ0 a266

abbrev Tp_93 (R : Type) : Type := (Unit) × (Unit) → ((Nat → (Nat → Int)) → Option R) → Option R
def Q_93 {R : Type} (x : (Unit) × (Unit)) (κ0 : (Nat → (Nat → Int)) → Option R) : Option R :=
let a258 : (Nat → Int) := (upd ((upd ((upd ((upd ((Sch.zero (.arr 4 (.int .i64)))) 0 0)) 1 4)) 2 8)) 3 12)
let a259 : (Nat → Int) := (upd ((upd ((upd ((upd ((Sch.zero (.arr 4 (.int .i64)))) 0 1)) 1 5)) 2 9)) 3 13)
let a260 : (Nat → Int) := (upd ((upd ((upd ((upd ((Sch.zero (.arr 4 (.int .i64)))) 0 2)) 1 6)) 2 10)) 3 14)
let a261 : (Nat → Int) := (upd ((upd ((upd ((upd ((Sch.zero (.arr 4 (.int .i64)))) 0 3)) 1 7)) 2 11)) 3 15)
let a262 : (Nat → Int) := (upd ((upd ((upd ((upd ((Sch.zero (.arr 4 (.int .i64)))) 0 0)) 1 5)) 2 10)) 3 15)
let a263 : (Nat → Int) := (upd ((upd ((upd ((upd ((Sch.zero (.arr 4 (.int .i64)))) 0 1)) 1 6)) 2 11)) 3 12)
let a264 : (Nat → Int) := (upd ((upd ((upd ((upd ((Sch.zero (.arr 4 (.int .i64)))) 0 2)) 1 7)) 2 8)) 3 13)
let a265 : (Nat → Int) := (upd ((upd ((upd ((upd ((Sch.zero (.arr 4 (.int .i64)))) 0 3)) 1 4)) 2 9)) 3 14)
let a266 : (Nat → (Nat → Int)) := (upd ((upd ((upd ((upd ((upd ((upd ((upd ((upd ((Sch.zero (.arr 8 (.arr 4 (.int .i64))))) 0 a258)) 1 a259)) 2 a260)) 3 a261)) 4 a262)) 5 a263)) 6 a264)) 7 a265)
κ0 a266
def EG_93 {R : Type} : Env R := Env.base QQ LN
def LG_93 {R : Type} : Loops R := Loops.none
def E_93 {R : Type} (N : Nat) : Env R := EG_93
theorem eok_93 {R : Type} (N : Nat) : EK Try.prog (E_93 (R := R) N) := ek_base _ _
def L_93 {R : Type} (N : Nat) : Loops R := LG_93
theorem lok_93 {R : Type} (N : Nat) : LOK 0 TT (E_93 (R := R) N) (drawOk TT QQ) (L_93 N) (bodyOf Try.f93) := loops_nil (by kernel_rfl)
theorem grun_93 {R : Type} (x : aden ap_93 × hden hp_93) (k : KF R) : fnrun TT (EG_93) (drawOk TT QQ) (LG_93) true Try.f93 (instA ap_93 x.1) (instH hp_93 x.2) k = Q_93 x (fun y => k (Pat.inst (.vec (.arr 4 (.int .i64)) 8) y) (instH hp_93 x.2)) := by kernel_rfl
theorem run_93 {R : Type} (N : Nat) (x : aden ap_93 × hden hp_93) (k : KF R) : fnrun TT (E_93 (R := R) N) (drawOk TT QQ) (L_93 N) true Try.f93 (instA ap_93 x.1) (instH hp_93 x.2) k = p_93 N x (fun y => k (Pat.inst (.vec (.arr 4 (.int .i64)) 8) y) (instH hp_93 x.2)) := (grun_93 x k).trans (by kernel_rfl)
theorem good_93 {R : Type} (N : Nat) : GD (X := R) Try.prog QQ 93 ap_93 hp_93 (fun (x : aden ap_93 × hden hp_93) k => p_93 N x (fun y => k (Pat.inst (.vec (.arr 4 (.int .i64)) 8) y) (instH hp_93 x.2))) :=
  gd_quiet (E := E_93 N) (p := fun (x : aden ap_93 × hden hp_93) κ => p_93 N x (fun y => κ (Pat.inst (.vec (.arr 4 (.int .i64)) 8) y))) mixed tyok (eok_93 N) Try.func93 (by kernel_rfl) (by kernel_rfl) (lok_93 N) (fun x k => run_93 N x k)

def ap_89 : List Pat := [.int .u64, .int .u64]
def hp_89 : List (Option (Pat × Nat)) := []
def p_89 {R : Type} (N : Nat) (x : (Int × Int × Unit) × (Unit)) (κ0 : Int → Option R) : Option R :=
let i286 : Int := x.1.1
let i287 : Int := x.1.2.1
let i288 : Int := addA .u64 i286 i287
let i289 : Int := IntKind.wrap .u32 i286
let i290 : Int := IntKind.wrap .u64 i289
let i291 : Int := mulA .u64 2 i290
let i292 : Int := IntKind.wrap .u32 i287
let i293 : Int := IntKind.wrap .u64 i292
let i294 : Int := mulA .u64 i291 i293
let i295 : Int := addA .u64 i288 i294
κ0 i295

abbrev Tp_89 (R : Type) : Type := (Int × Int × Unit) × (Unit) → (Int → Option R) → Option R
def Q_89 {R : Type} (x : (Int × Int × Unit) × (Unit)) (κ0 : Int → Option R) : Option R :=
let i286 : Int := x.1.1
let i287 : Int := x.1.2.1
let i288 : Int := addA .u64 i286 i287
let i289 : Int := IntKind.wrap .u32 i286
let i290 : Int := IntKind.wrap .u64 i289
let i291 : Int := mulA .u64 2 i290
let i292 : Int := IntKind.wrap .u32 i287
let i293 : Int := IntKind.wrap .u64 i292
let i294 : Int := mulA .u64 i291 i293
let i295 : Int := addA .u64 i288 i294
κ0 i295
def EG_89 {R : Type} : Env R := Env.base QQ LN
def LG_89 {R : Type} : Loops R := Loops.none
def E_89 {R : Type} (N : Nat) : Env R := EG_89
theorem eok_89 {R : Type} (N : Nat) : EK Try.prog (E_89 (R := R) N) := ek_base _ _
def L_89 {R : Type} (N : Nat) : Loops R := LG_89
theorem lok_89 {R : Type} (N : Nat) : LOK 0 TT (E_89 (R := R) N) (drawOk TT QQ) (L_89 N) (bodyOf Try.f89) := loops_nil (by kernel_rfl)
theorem grun_89 {R : Type} (x : aden ap_89 × hden hp_89) (k : KF R) : fnrun TT (EG_89) (drawOk TT QQ) (LG_89) true Try.f89 (instA ap_89 x.1) (instH hp_89 x.2) k = Q_89 x (fun y => k (Pat.inst (.int .u64) y) (instH hp_89 x.2)) := by kernel_rfl
theorem run_89 {R : Type} (N : Nat) (x : aden ap_89 × hden hp_89) (k : KF R) : fnrun TT (E_89 (R := R) N) (drawOk TT QQ) (L_89 N) true Try.f89 (instA ap_89 x.1) (instH hp_89 x.2) k = p_89 N x (fun y => k (Pat.inst (.int .u64) y) (instH hp_89 x.2)) := (grun_89 x k).trans (by kernel_rfl)
theorem good_89 {R : Type} (N : Nat) : GD (X := R) Try.prog QQ 89 ap_89 hp_89 (fun (x : aden ap_89 × hden hp_89) k => p_89 N x (fun y => k (Pat.inst (.int .u64) y) (instH hp_89 x.2))) :=
  gd_quiet (E := E_89 N) (p := fun (x : aden ap_89 × hden hp_89) κ => p_89 N x (fun y => κ (Pat.inst (.int .u64) y))) mixed tyok (eok_89 N) Try.func89 (by kernel_rfl) (by kernel_rfl) (lok_89 N) (fun x k => run_89 N x k)

def ap_90 : List Pat := [.int .u64, .int .i64]
def hp_90 : List (Option (Pat × Nat)) := []
def p_90 {R : Type} (N : Nat) (x : (Int × Int × Unit) × (Unit)) (κ0 : Int → Option R) : Option R :=
let i299 : Int := x.1.1
let i300 : Int := x.1.2.1
let i301 : Int := IntKind.wrap .u64 i300
let i302 : Int := remA .u64 i301 64
bif decide (i302 < 0) then none else (
let i303 : Int := shrA .u64 i299 i302
let i304 : Int := subA .u64 64 i302
bif decide (i304 < 0) then none else (
let i305 : Int := shlA .u64 i299 i304
let i306 : Int := orA .u64 i303 i305
κ0 i306))

abbrev Tp_90 (R : Type) : Type := (Int × Int × Unit) × (Unit) → (Int → Option R) → Option R
def Q_90 {R : Type} (x : (Int × Int × Unit) × (Unit)) (κ0 : Int → Option R) : Option R :=
let i299 : Int := x.1.1
let i300 : Int := x.1.2.1
let i301 : Int := IntKind.wrap .u64 i300
let i302 : Int := remA .u64 i301 64
bif decide (i302 < 0) then none else (
let i303 : Int := shrA .u64 i299 i302
let i304 : Int := subA .u64 64 i302
bif decide (i304 < 0) then none else (
let i305 : Int := shlA .u64 i299 i304
let i306 : Int := orA .u64 i303 i305
κ0 i306))
def EG_90 {R : Type} : Env R := Env.base QQ LN
def LG_90 {R : Type} : Loops R := Loops.none
def E_90 {R : Type} (N : Nat) : Env R := EG_90
theorem eok_90 {R : Type} (N : Nat) : EK Try.prog (E_90 (R := R) N) := ek_base _ _
def L_90 {R : Type} (N : Nat) : Loops R := LG_90
theorem lok_90 {R : Type} (N : Nat) : LOK 0 TT (E_90 (R := R) N) (drawOk TT QQ) (L_90 N) (bodyOf Try.f90) := loops_nil (by kernel_rfl)
theorem grun_90 {R : Type} (x : aden ap_90 × hden hp_90) (k : KF R) : fnrun TT (EG_90) (drawOk TT QQ) (LG_90) true Try.f90 (instA ap_90 x.1) (instH hp_90 x.2) k = Q_90 x (fun y => k (Pat.inst (.int .u64) y) (instH hp_90 x.2)) := by kernel_rfl
theorem run_90 {R : Type} (N : Nat) (x : aden ap_90 × hden hp_90) (k : KF R) : fnrun TT (E_90 (R := R) N) (drawOk TT QQ) (L_90 N) true Try.f90 (instA ap_90 x.1) (instH hp_90 x.2) k = p_90 N x (fun y => k (Pat.inst (.int .u64) y) (instH hp_90 x.2)) := (grun_90 x k).trans (by kernel_rfl)
theorem good_90 {R : Type} (N : Nat) : GD (X := R) Try.prog QQ 90 ap_90 hp_90 (fun (x : aden ap_90 × hden hp_90) k => p_90 N x (fun y => k (Pat.inst (.int .u64) y) (instH hp_90 x.2))) :=
  gd_quiet (E := E_90 N) (p := fun (x : aden ap_90 × hden hp_90) κ => p_90 N x (fun y => κ (Pat.inst (.int .u64) y))) mixed tyok (eok_90 N) Try.func90 (by kernel_rfl) (by kernel_rfl) (lok_90 N) (fun x k => run_90 N x k)

def ap_38 : List Pat := [.int .u64, .int .u64, .int .u64, .int .u64]
def hp_38 : List (Option (Pat × Nat)) := []
def p_38 {R : Type} (N : Nat) (x : (Int × Int × Int × Int × Unit) × (Unit)) (κ0 : (Int × (Int × (Int × (Int × Unit)))) → Option R) : Option R :=
let i282 : Int := x.1.1
let i283 : Int := x.1.2.1
let i284 : Int := x.1.2.2.1
let i285 : Int := x.1.2.2.2.1
p_89 N ((i282, i283, ()), ()) (fun y296 =>
let i297 : Int := y296
let i298 : Int := xorA .u64 i285 i297
p_90 N ((i298, 32, ()), ()) (fun y307 =>
let i308 : Int := y307
p_89 N ((i284, i308, ()), ()) (fun y309 =>
let i310 : Int := y309
let i311 : Int := xorA .u64 i283 i310
p_90 N ((i311, 24, ()), ()) (fun y312 =>
let i313 : Int := y312
p_89 N ((i297, i313, ()), ()) (fun y314 =>
let i315 : Int := y314
let i316 : Int := xorA .u64 i308 i315
p_90 N ((i316, 16, ()), ()) (fun y317 =>
let i318 : Int := y317
p_89 N ((i310, i318, ()), ()) (fun y319 =>
let i320 : Int := y319
let i321 : Int := xorA .u64 i313 i320
p_90 N ((i321, 63, ()), ()) (fun y322 =>
let i323 : Int := y322
κ0 ((i315, (i323, (i320, (i318, ())))))))))))))

abbrev Tp_38 (R : Type) : Type := (Int × Int × Int × Int × Unit) × (Unit) → ((Int × (Int × (Int × (Int × Unit)))) → Option R) → Option R
def Q_38 {R : Type} (q_89 : Tp_89 R) (q_90 : Tp_90 R) (x : (Int × Int × Int × Int × Unit) × (Unit)) (κ0 : (Int × (Int × (Int × (Int × Unit)))) → Option R) : Option R :=
let i282 : Int := x.1.1
let i283 : Int := x.1.2.1
let i284 : Int := x.1.2.2.1
let i285 : Int := x.1.2.2.2.1
q_89 ((i282, i283, ()), ()) (fun y296 =>
let i297 : Int := y296
let i298 : Int := xorA .u64 i285 i297
q_90 ((i298, 32, ()), ()) (fun y307 =>
let i308 : Int := y307
q_89 ((i284, i308, ()), ()) (fun y309 =>
let i310 : Int := y309
let i311 : Int := xorA .u64 i283 i310
q_90 ((i311, 24, ()), ()) (fun y312 =>
let i313 : Int := y312
q_89 ((i297, i313, ()), ()) (fun y314 =>
let i315 : Int := y314
let i316 : Int := xorA .u64 i308 i315
q_90 ((i316, 16, ()), ()) (fun y317 =>
let i318 : Int := y317
q_89 ((i310, i318, ()), ()) (fun y319 =>
let i320 : Int := y319
let i321 : Int := xorA .u64 i313 i320
q_90 ((i321, 63, ()), ()) (fun y322 =>
let i323 : Int := y322
κ0 ((i315, (i323, (i320, (i318, ())))))))))))))
def EG_38 {R : Type} (q_89 : Tp_89 R) (q_90 : Tp_90 R) : Env R := ((Env.base QQ LN).add 89 ap_89 hp_89 (fun (x : aden ap_89 × hden hp_89) k => q_89 x (fun y => k (Pat.inst (.int .u64) y) (instH hp_89 x.2)))).add 90 ap_90 hp_90 (fun (x : aden ap_90 × hden hp_90) k => q_90 x (fun y => k (Pat.inst (.int .u64) y) (instH hp_90 x.2)))
def LG_38 {R : Type} : Loops R := Loops.none
def E_38 {R : Type} (N : Nat) : Env R := EG_38 (p_89 N) (p_90 N)
theorem eok_38 {R : Type} (N : Nat) : EK Try.prog (E_38 (R := R) N) := ek_add (ek_add (ek_base _ _) (good_89 N)) (good_90 N)
def L_38 {R : Type} (N : Nat) : Loops R := LG_38
theorem lok_38 {R : Type} (N : Nat) : LOK 0 TT (E_38 (R := R) N) (drawOk TT QQ) (L_38 N) (bodyOf Try.f38) := loops_nil (by kernel_rfl)
theorem grun_38 {R : Type} (q_89 : Tp_89 R) (q_90 : Tp_90 R) (x : aden ap_38 × hden hp_38) (k : KF R) : fnrun TT (EG_38 q_89 q_90) (drawOk TT QQ) (LG_38) true Try.f38 (instA ap_38 x.1) (instH hp_38 x.2) k = Q_38 q_89 q_90 x (fun y => k (Pat.inst (.tup (.fcons (.int .u64) (.fcons (.int .u64) (.fcons (.int .u64) (.fcons (.int .u64) (.fnil)))))) y) (instH hp_38 x.2)) := by kernel_rfl
theorem run_38 {R : Type} (N : Nat) (x : aden ap_38 × hden hp_38) (k : KF R) : fnrun TT (E_38 (R := R) N) (drawOk TT QQ) (L_38 N) true Try.f38 (instA ap_38 x.1) (instH hp_38 x.2) k = p_38 N x (fun y => k (Pat.inst (.tup (.fcons (.int .u64) (.fcons (.int .u64) (.fcons (.int .u64) (.fcons (.int .u64) (.fnil)))))) y) (instH hp_38 x.2)) := (grun_38 (p_89 N) (p_90 N) x k).trans (by kernel_rfl)
theorem good_38 {R : Type} (N : Nat) : GD (X := R) Try.prog QQ 38 ap_38 hp_38 (fun (x : aden ap_38 × hden hp_38) k => p_38 N x (fun y => k (Pat.inst (.tup (.fcons (.int .u64) (.fcons (.int .u64) (.fcons (.int .u64) (.fcons (.int .u64) (.fnil)))))) y) (instH hp_38 x.2))) :=
  gd_quiet (E := E_38 N) (p := fun (x : aden ap_38 × hden hp_38) κ => p_38 N x (fun y => κ (Pat.inst (.tup (.fcons (.int .u64) (.fcons (.int .u64) (.fcons (.int .u64) (.fcons (.int .u64) (.fnil)))))) y))) mixed tyok (eok_38 N) Try.func38 (by kernel_rfl) (by kernel_rfl) (lok_38 N) (fun x k => run_38 N x k)

def lv_40_2 : Live := [(1, none), (2, none), (9, none), (10, none)]
def pt_40_2 : SPat := ⟨[(1, .ptr 0 []), (2, .ptr 1 []), (9, .vec (.arr 4 (.int .i64)) 8), (10, .int .i64)], [some (.vec (.int .u64) 16, 62), some (.vec (.int .u64) 16, 62)]⟩
def px_40_2_0 : SPat := ⟨[(1, .ptr 0 []), (2, .ptr 1 [])], [some (.vec (.int .u64) 16, 62), some (.vec (.int .u64) 16, 62)]⟩
def lo_40_2 : Exit → Live
  | .exit 0 => [(1, none), (2, none)]
  | _ => []
def B_40_2 {R : Type} (N : Nat) (rec : ((Unit × Unit × (Nat → (Nat → Int)) × Int × Unit) × ((Nat → Int) × (Nat → Int) × Unit)) → Option R) (x : ((Unit × Unit × (Nat → (Nat → Int)) × Int × Unit) × ((Nat → Int) × (Nat → Int) × Unit))) (κ0 : ((Unit × Unit × Unit) × ((Nat → Int) × (Nat → Int) × Unit)) → Option R) : Option R :=
let a269 : (Nat → (Nat → Int)) := x.1.2.2.1
let i270 : Int := x.1.2.2.2.1
let a271 : (Nat → Int) := x.2.1
let a272 : (Nat → Int) := x.2.2.1
bif (decide (i270 < 8)) then (
bif decide (0 ≤ i270) then (
bif decide (i270 < (8 : Int)) then (
let a273 : (Nat → Int) := (a269 ((Int.toNat i270)))
let i274 : Int := (a273 0)
let i275 : Int := (a273 1)
let i276 : Int := (a273 2)
let i277 : Int := (a273 3)
bif decide (0 ≤ i274) then (
bif decide (i274 < (16 : Int)) then (
let i278 : Int := (a271 ((Int.toNat i274)))
bif decide (0 ≤ i275) then (
bif decide (i275 < (16 : Int)) then (
let i279 : Int := (a271 ((Int.toNat i275)))
bif decide (0 ≤ i276) then (
bif decide (i276 < (16 : Int)) then (
let i280 : Int := (a271 ((Int.toNat i276)))
bif decide (0 ≤ i277) then (
bif decide (i277 < (16 : Int)) then (
let i281 : Int := (a271 ((Int.toNat i277)))
p_38 N ((i278, i279, i280, i281, ()), ()) (fun y324 =>
let i325 : Int := y324.1
let i326 : Int := y324.2.1
let i327 : Int := y324.2.2.1
let i328 : Int := y324.2.2.2.1
bif decide (0 ≤ i274) then (
bif decide (i274 < (16 : Int)) then (
let a329 : (Nat → Int) := (upd a271 ((Int.toNat i274)) i325)
bif decide (0 ≤ i275) then (
bif decide (i275 < (16 : Int)) then (
let a330 : (Nat → Int) := (upd a329 ((Int.toNat i275)) i326)
bif decide (0 ≤ i276) then (
bif decide (i276 < (16 : Int)) then (
let a331 : (Nat → Int) := (upd a330 ((Int.toNat i276)) i327)
bif decide (0 ≤ i277) then (
bif decide (i277 < (16 : Int)) then (
let a332 : (Nat → Int) := (upd a331 ((Int.toNat i277)) i328)
let i333 : Int := addA .i64 i270 1
rec (((), (), a269, i333, ()), (a332, a272, ()))) else none) else none) else none) else none) else none) else none) else none) else none)) else none) else none) else none) else none) else none) else none) else none) else none) else none) else none) else (
κ0 (((), (), ()), (a271, a272, ())))
def l_40_2 {R : Type} (N : Nat) : Nat → ((Unit × Unit × (Nat → (Nat → Int)) × Int × Unit) × ((Nat → Int) × (Nat → Int) × Unit)) → (((Unit × Unit × Unit) × ((Nat → Int) × (Nat → Int) × Unit)) → Option R) → Option R
  | 0, _, _ => none
  | n + 1, x, κ0 => B_40_2 N (fun y => l_40_2 N n y κ0) x κ0
def ap_40 : List Pat := [.vec (.int .u64) 16]
def hp_40 : List (Option (Pat × Nat)) := []
def p_40 {R : Type} (N : Nat) (x : ((Nat → Int) × Unit) × (Unit)) (κ0 : (Nat → Int) → Option R) : Option R :=
let a257 : (Nat → Int) := x.1.1
p_93 N ((), ()) (fun y267 =>
let a268 : (Nat → (Nat → Int)) := y267
l_40_2 N N (((), (), a268, 0, ()), (a257, (Sch.zero (.arr 16 (.int .u64))), ())) (fun y334 =>
let a335 : (Nat → Int) := y334.2.1
let a336 : (Nat → Int) := y334.2.2.1
κ0 a335))

abbrev Tl_40_2 (R : Type) : Type := ((Unit × Unit × (Nat → (Nat → Int)) × Int × Unit) × ((Nat → Int) × (Nat → Int) × Unit)) → (((Unit × Unit × Unit) × ((Nat → Int) × (Nat → Int) × Unit)) → Option R) → Option R
abbrev Tp_40 (R : Type) : Type := ((Nat → Int) × Unit) × (Unit) → ((Nat → Int) → Option R) → Option R
def Q_40 {R : Type} (q_93 : Tp_93 R) (q_38 : Tp_38 R) (m_40_2 : Tl_40_2 R) (x : ((Nat → Int) × Unit) × (Unit)) (κ0 : (Nat → Int) → Option R) : Option R :=
let a257 : (Nat → Int) := x.1.1
q_93 ((), ()) (fun y267 =>
let a268 : (Nat → (Nat → Int)) := y267
m_40_2 (((), (), a268, 0, ()), (a257, (Sch.zero (.arr 16 (.int .u64))), ())) (fun y334 =>
let a335 : (Nat → Int) := y334.2.1
let a336 : (Nat → Int) := y334.2.2.1
κ0 a335))
def C_40_2 {R : Type} (q_93 : Tp_93 R) (q_38 : Tp_38 R) (m_40_2 : Tl_40_2 R) (rec : ((Unit × Unit × (Nat → (Nat → Int)) × Int × Unit) × ((Nat → Int) × (Nat → Int) × Unit)) → Option R) (x : ((Unit × Unit × (Nat → (Nat → Int)) × Int × Unit) × ((Nat → Int) × (Nat → Int) × Unit))) (κ0 : ((Unit × Unit × Unit) × ((Nat → Int) × (Nat → Int) × Unit)) → Option R) : Option R :=
let a269 : (Nat → (Nat → Int)) := x.1.2.2.1
let i270 : Int := x.1.2.2.2.1
let a271 : (Nat → Int) := x.2.1
let a272 : (Nat → Int) := x.2.2.1
bif (decide (i270 < 8)) then (
bif decide (0 ≤ i270) then (
bif decide (i270 < (8 : Int)) then (
let a273 : (Nat → Int) := (a269 ((Int.toNat i270)))
let i274 : Int := (a273 0)
let i275 : Int := (a273 1)
let i276 : Int := (a273 2)
let i277 : Int := (a273 3)
bif decide (0 ≤ i274) then (
bif decide (i274 < (16 : Int)) then (
let i278 : Int := (a271 ((Int.toNat i274)))
bif decide (0 ≤ i275) then (
bif decide (i275 < (16 : Int)) then (
let i279 : Int := (a271 ((Int.toNat i275)))
bif decide (0 ≤ i276) then (
bif decide (i276 < (16 : Int)) then (
let i280 : Int := (a271 ((Int.toNat i276)))
bif decide (0 ≤ i277) then (
bif decide (i277 < (16 : Int)) then (
let i281 : Int := (a271 ((Int.toNat i277)))
q_38 ((i278, i279, i280, i281, ()), ()) (fun y324 =>
let i325 : Int := y324.1
let i326 : Int := y324.2.1
let i327 : Int := y324.2.2.1
let i328 : Int := y324.2.2.2.1
bif decide (0 ≤ i274) then (
bif decide (i274 < (16 : Int)) then (
let a329 : (Nat → Int) := (upd a271 ((Int.toNat i274)) i325)
bif decide (0 ≤ i275) then (
bif decide (i275 < (16 : Int)) then (
let a330 : (Nat → Int) := (upd a329 ((Int.toNat i275)) i326)
bif decide (0 ≤ i276) then (
bif decide (i276 < (16 : Int)) then (
let a331 : (Nat → Int) := (upd a330 ((Int.toNat i276)) i327)
bif decide (0 ≤ i277) then (
bif decide (i277 < (16 : Int)) then (
let a332 : (Nat → Int) := (upd a331 ((Int.toNat i277)) i328)
let i333 : Int := addA .i64 i270 1
rec (((), (), a269, i333, ()), (a332, a272, ()))) else none) else none) else none) else none) else none) else none) else none) else none)) else none) else none) else none) else none) else none) else none) else none) else none) else none) else none) else (
κ0 (((), (), ()), (a271, a272, ())))
def EG_40 {R : Type} (q_93 : Tp_93 R) (q_38 : Tp_38 R) : Env R := ((Env.base QQ LN).add 93 ap_93 hp_93 (fun (x : aden ap_93 × hden hp_93) k => q_93 x (fun y => k (Pat.inst (.vec (.arr 4 (.int .i64)) 8) y) (instH hp_93 x.2)))).add 38 ap_38 hp_38 (fun (x : aden ap_38 × hden hp_38) k => q_38 x (fun y => k (Pat.inst (.tup (.fcons (.int .u64) (.fcons (.int .u64) (.fcons (.int .u64) (.fcons (.int .u64) (.fnil)))))) y) (instH hp_38 x.2)))
def LG_40 {R : Type} (m_40_2 : Tl_40_2 R) : Loops R := (Loops.none).add 2 (loopBy 0 lv_40_2 pt_40_2 (fun x k => m_40_2 x (fun y => k (.exit 0) (px_40_2_0.inst y))))
def E_40 {R : Type} (N : Nat) : Env R := EG_40 (p_93 N) (p_38 N)
theorem eok_40 {R : Type} (N : Nat) : EK Try.prog (E_40 (R := R) N) := ek_add (ek_add (ek_base _ _) (good_93 N)) (good_38 N)
def L_40 {R : Type} (N : Nat) : Loops R := LG_40 (l_40_2 N N)
theorem gstep_40_2 {R : Type} (q_93 : Tp_93 R) (q_38 : Tp_38 R) (m_40_2 : Tl_40_2 R) (n : Nat) (x : pt_40_2.den) (k : Exit → St → Option R) : iter 0 lv_40_2 lo_40_2 (aexec TT (EG_40 q_93 q_38) (drawOk TT QQ) (LG_40 m_40_2) (loopAt 2 (bodyOf Try.f40))) (n + 1) (pt_40_2.inst x) k = C_40_2 q_93 q_38 m_40_2 (fun y => iter 0 lv_40_2 lo_40_2 (aexec TT (EG_40 q_93 q_38) (drawOk TT QQ) (LG_40 m_40_2) (loopAt 2 (bodyOf Try.f40))) n (pt_40_2.inst y) k) x (fun y => k (.exit 0) (px_40_2_0.inst y)) := by kernel_rfl
theorem step_40_2 {R : Type} (N n : Nat) (x : pt_40_2.den) (k : Exit → St → Option R) : iter 0 lv_40_2 lo_40_2 (aexec TT (E_40 (R := R) N) (drawOk TT QQ) (L_40 N) (loopAt 2 (bodyOf Try.f40))) (n + 1) (pt_40_2.inst x) k = B_40_2 N (fun y => iter 0 lv_40_2 lo_40_2 (aexec TT (E_40 (R := R) N) (drawOk TT QQ) (L_40 N) (loopAt 2 (bodyOf Try.f40))) n (pt_40_2.inst y) k) x (fun y => k (.exit 0) (px_40_2_0.inst y)) := (gstep_40_2 (p_93 N) (p_38 N) (l_40_2 N N) n x k).trans (by kernel_rfl)
theorem eq_40_2 {R : Type} (N : Nat) : ∀ (n : Nat) (x : pt_40_2.den) (k : Exit → St → Option R), iter 0 lv_40_2 lo_40_2 (aexec TT (E_40 (R := R) N) (drawOk TT QQ) (L_40 N) (loopAt 2 (bodyOf Try.f40))) n (pt_40_2.inst x) k = l_40_2 N n x (fun y => k (.exit 0) (px_40_2_0.inst y)) :=
  iter_eq (K := Exit → St → Option R) (ks := fun k => k) (l := fun n (x : pt_40_2.den) k => l_40_2 N n x (fun y => k (.exit 0) (px_40_2_0.inst y))) (B := fun (rec : pt_40_2.den → Option R) (x : pt_40_2.den) k => B_40_2 N rec x (fun y => k (.exit 0) (px_40_2_0.inst y))) (fun _ _ => rfl) (fun _ _ _ => rfl) (fun n x k => step_40_2 N n x k)
theorem rounds_40_2 {R : Type} (N : Nat) : Rounds 0 TT (E_40 (R := R) N) (drawOk TT QQ) (L_40 N) 2 (loopAt 2 (bodyOf Try.f40)) :=
  rounds_of (p := pt_40_2) (l := fun (x : pt_40_2.den) k => l_40_2 N N x (fun y => k (.exit 0) (px_40_2_0.inst y))) (fun s k => rfl) (fun x k => eq_40_2 N N x k)
theorem loops_40 : loopsIn (bodyOf Try.f40) = [(2, loopAt 2 (bodyOf Try.f40))] := by kernel_rfl
theorem lok_40 {R : Type} (N : Nat) : LOK 0 TT (E_40 (R := R) N) (drawOk TT QQ) (L_40 N) (bodyOf Try.f40) := loops_all loops_40 (by
  simp only [List.forall_mem_cons, List.not_mem_nil, false_implies, implies_true, and_true]
  exact rounds_40_2 N)
theorem grun_40 {R : Type} (q_93 : Tp_93 R) (q_38 : Tp_38 R) (m_40_2 : Tl_40_2 R) (x : aden ap_40 × hden hp_40) (k : KF R) : fnrun TT (EG_40 q_93 q_38) (drawOk TT QQ) (LG_40 m_40_2) true Try.f40 (instA ap_40 x.1) (instH hp_40 x.2) k = Q_40 q_93 q_38 m_40_2 x (fun y => k (Pat.inst (.vec (.int .u64) 16) y) (instH hp_40 x.2)) := by kernel_rfl
theorem run_40 {R : Type} (N : Nat) (x : aden ap_40 × hden hp_40) (k : KF R) : fnrun TT (E_40 (R := R) N) (drawOk TT QQ) (L_40 N) true Try.f40 (instA ap_40 x.1) (instH hp_40 x.2) k = p_40 N x (fun y => k (Pat.inst (.vec (.int .u64) 16) y) (instH hp_40 x.2)) := (grun_40 (p_93 N) (p_38 N) (l_40_2 N N) x k).trans (by kernel_rfl)
theorem good_40 {R : Type} (N : Nat) : GD (X := R) Try.prog QQ 40 ap_40 hp_40 (fun (x : aden ap_40 × hden hp_40) k => p_40 N x (fun y => k (Pat.inst (.vec (.int .u64) 16) y) (instH hp_40 x.2))) :=
  gd_quiet (E := E_40 N) (p := fun (x : aden ap_40 × hden hp_40) κ => p_40 N x (fun y => κ (Pat.inst (.vec (.int .u64) 16) y))) mixed tyok (eok_40 N) Try.func40 (by kernel_rfl) (by kernel_rfl) (lok_40 N) (fun x k => run_40 N x k)

def lv_44_10 : Live := [(1, none), (2, none), (4, none), (6, none), (7, none), (12, none), (13, none), (14, none), (18, none), (24, none), (25, none)]
def pt_44_10 : SPat := ⟨[(1, .ptr 0 []), (2, .ptr 1 []), (4, .bool), (6, .ptr 2 []), (7, .ptr 3 []), (12, .sl 4), (13, .int .i64), (14, .int .i64), (18, .int .i64), (24, .vec (.int .i64) 16), (25, .int .i64)], [some (.vec (.int .u64) 128, 70), some (.vec (.int .u64) 128, 70), some (.vec (.int .i64) 16, 153), some (.vec (.int .u64) 16, 62), some (.lst (.bool), 4)]⟩
def px_44_10_0 : SPat := ⟨[(1, .ptr 0 []), (2, .ptr 1 []), (4, .bool), (6, .ptr 2 []), (7, .ptr 3 []), (12, .sl 4), (13, .int .i64), (14, .int .i64), (18, .int .i64)], [some (.vec (.int .u64) 128, 70), some (.vec (.int .u64) 128, 70), some (.vec (.int .i64) 16, 153), some (.vec (.int .u64) 16, 62), some (.lst (.bool), 4)]⟩
def lo_44_10 : Exit → Live
  | .exit 4 => [(1, none), (2, none), (4, none), (6, none), (7, none), (12, none), (13, none), (14, none), (18, none)]
  | _ => []
def B_44_10 {R : Type} (N : Nat) (rec : ((Unit × Unit × Bool × Unit × Unit × Unit × Int × Int × Int × (Nat → Int) × Int × Unit) × ((Nat → Int) × (Nat → Int) × (Nat → Int) × (Nat → Int) × (List Bool) × Unit)) → Option R) (x : ((Unit × Unit × Bool × Unit × Unit × Unit × Int × Int × Int × (Nat → Int) × Int × Unit) × ((Nat → Int) × (Nat → Int) × (Nat → Int) × (Nat → Int) × (List Bool) × Unit))) (κ0 : ((Unit × Unit × Bool × Unit × Unit × Unit × Int × Int × Int × Unit) × ((Nat → Int) × (Nat → Int) × (Nat → Int) × (Nat → Int) × (List Bool) × Unit)) → Option R) : Option R :=
let b232 : Bool := x.1.2.2.1
let i233 : Int := x.1.2.2.2.2.2.2.1
let i234 : Int := x.1.2.2.2.2.2.2.2.1
let i235 : Int := x.1.2.2.2.2.2.2.2.2.1
let a236 : (Nat → Int) := x.1.2.2.2.2.2.2.2.2.2.1
let i237 : Int := x.1.2.2.2.2.2.2.2.2.2.2.1
let a238 : (Nat → Int) := x.2.1
let a239 : (Nat → Int) := x.2.2.1
let a240 : (Nat → Int) := x.2.2.2.1
let a241 : (Nat → Int) := x.2.2.2.2.1
let l242 : (List Bool) := x.2.2.2.2.2.1
bif (decide (i237 < 16)) then (
bif decide (0 ≤ i237) then (
bif decide (i237 < (16 : Int)) then (
let i243 : Int := (a236 ((Int.toNat i237)))
bif decide (0 ≤ i243) then (
bif decide (i243 < (128 : Int)) then (
let i244 : Int := (a238 ((Int.toNat i243)))
bif decide (0 ≤ i237) then (
bif decide (i237 < (16 : Int)) then (
let a245 : (Nat → Int) := (upd a241 ((Int.toNat i237)) i244)
let i246 : Int := addA .i64 i237 1
rec (((), (), b232, (), (), (), i233, i234, i235, a236, i246, ()), (a238, a239, a240, a245, l242, ()))) else none) else none) else none) else none) else none) else none) else (
κ0 (((), (), b232, (), (), (), i233, i234, i235, ()), (a238, a239, a240, a241, l242, ())))
def l_44_10 {R : Type} (N : Nat) : Nat → ((Unit × Unit × Bool × Unit × Unit × Unit × Int × Int × Int × (Nat → Int) × Int × Unit) × ((Nat → Int) × (Nat → Int) × (Nat → Int) × (Nat → Int) × (List Bool) × Unit)) → (((Unit × Unit × Bool × Unit × Unit × Unit × Int × Int × Int × Unit) × ((Nat → Int) × (Nat → Int) × (Nat → Int) × (Nat → Int) × (List Bool) × Unit)) → Option R) → Option R
  | 0, _, _ => none
  | n + 1, x, κ0 => B_44_10 N (fun y => l_44_10 N n y κ0) x κ0
def lv_44_16 : Live := [(1, none), (2, none), (4, none), (7, none), (12, none), (13, none), (14, none), (18, none), (37, none), (38, none)]
def pt_44_16 : SPat := ⟨[(1, .ptr 0 []), (2, .ptr 1 []), (4, .bool), (7, .ptr 2 []), (12, .sl 3), (13, .int .i64), (14, .int .i64), (18, .int .i64), (37, .vec (.int .i64) 16), (38, .int .i64)], [some (.vec (.int .u64) 128, 70), some (.vec (.int .u64) 128, 70), some (.vec (.int .u64) 16, 62), some (.lst (.bool), 4)]⟩
def px_44_16_0 : SPat := ⟨[(1, .ptr 0 []), (2, .ptr 1 []), (4, .bool), (12, .sl 2), (13, .int .i64), (14, .int .i64), (18, .int .i64)], [some (.vec (.int .u64) 128, 70), some (.vec (.int .u64) 128, 70), some (.lst (.bool), 4)]⟩
def lo_44_16 : Exit → Live
  | .exit 6 => [(1, none), (2, none), (4, none), (12, none), (13, none), (14, none), (18, none)]
  | _ => []
def B_44_16 {R : Type} (N : Nat) (rec : ((Unit × Unit × Bool × Unit × Unit × Int × Int × Int × (Nat → Int) × Int × Unit) × ((Nat → Int) × (Nat → Int) × (Nat → Int) × (List Bool) × Unit)) → Option R) (x : ((Unit × Unit × Bool × Unit × Unit × Int × Int × Int × (Nat → Int) × Int × Unit) × ((Nat → Int) × (Nat → Int) × (Nat → Int) × (List Bool) × Unit))) (κ0 : ((Unit × Unit × Bool × Unit × Int × Int × Int × Unit) × ((Nat → Int) × (Nat → Int) × (List Bool) × Unit)) → Option R) : Option R :=
let b339 : Bool := x.1.2.2.1
let i340 : Int := x.1.2.2.2.2.2.1
let i341 : Int := x.1.2.2.2.2.2.2.1
let i342 : Int := x.1.2.2.2.2.2.2.2.1
let a343 : (Nat → Int) := x.1.2.2.2.2.2.2.2.2.1
let i344 : Int := x.1.2.2.2.2.2.2.2.2.2.1
let a345 : (Nat → Int) := x.2.1
let a346 : (Nat → Int) := x.2.2.1
let a347 : (Nat → Int) := x.2.2.2.1
let l348 : (List Bool) := x.2.2.2.2.1
bif (decide (i344 < 16)) then (
bif decide (0 ≤ i344) then (
bif decide (i344 < (16 : Int)) then (
let i349 : Int := (a343 ((Int.toNat i344)))
bif decide (0 ≤ i344) then (
bif decide (i344 < (16 : Int)) then (
let i350 : Int := (a347 ((Int.toNat i344)))
bif decide (0 ≤ i349) then (
bif decide (i349 < (128 : Int)) then (
let a351 : (Nat → Int) := (upd a345 ((Int.toNat i349)) i350)
let i352 : Int := addA .i64 i344 1
rec (((), (), b339, (), (), i340, i341, i342, a343, i352, ()), (a351, a346, a347, l348, ()))) else none) else none) else none) else none) else none) else none) else (
κ0 (((), (), b339, (), i340, i341, i342, ()), (a345, a346, l348, ())))
def l_44_16 {R : Type} (N : Nat) : Nat → ((Unit × Unit × Bool × Unit × Unit × Int × Int × Int × (Nat → Int) × Int × Unit) × ((Nat → Int) × (Nat → Int) × (Nat → Int) × (List Bool) × Unit)) → (((Unit × Unit × Bool × Unit × Int × Int × Int × Unit) × ((Nat → Int) × (Nat → Int) × (List Bool) × Unit)) → Option R) → Option R
  | 0, _, _ => none
  | n + 1, x, κ0 => B_44_16 N (fun y => l_44_16 N n y κ0) x κ0
def lv_44_5 : Live := [(1, none), (2, none), (4, none), (12, none), (13, none), (14, none), (18, none)]
def pt_44_5 : SPat := ⟨[(1, .ptr 0 []), (2, .ptr 1 []), (4, .bool), (12, .sl 2), (13, .int .i64), (14, .int .i64), (18, .int .i64)], [some (.vec (.int .u64) 128, 70), some (.vec (.int .u64) 128, 70), some (.lst (.bool), 4)]⟩
def px_44_5_0 : SPat := ⟨[(1, .ptr 0 []), (2, .ptr 1 []), (12, .sl 2), (13, .int .i64), (14, .int .i64)], [some (.vec (.int .u64) 128, 70), some (.vec (.int .u64) 128, 70), some (.lst (.bool), 4)]⟩
def lo_44_5 : Exit → Live
  | .exit 2 => [(1, none), (2, none), (12, none), (13, none), (14, none)]
  | _ => []
def B_44_5 {R : Type} (N : Nat) (rec : ((Unit × Unit × Bool × Unit × Int × Int × Int × Unit) × ((Nat → Int) × (Nat → Int) × (List Bool) × Unit)) → Option R) (x : ((Unit × Unit × Bool × Unit × Int × Int × Int × Unit) × ((Nat → Int) × (Nat → Int) × (List Bool) × Unit))) (κ0 : ((Unit × Unit × Unit × Int × Int × Unit) × ((Nat → Int) × (Nat → Int) × (List Bool) × Unit)) → Option R) : Option R :=
let b201 : Bool := x.1.2.2.1
let i202 : Int := x.1.2.2.2.2.1
let i203 : Int := x.1.2.2.2.2.2.1
let i204 : Int := x.1.2.2.2.2.2.2.1
let a205 : (Nat → Int) := x.2.1
let a206 : (Nat → Int) := x.2.2.1
let l207 : (List Bool) := x.2.2.2.1
bif (decide (i204 < 8)) then (
p_95 N ((i204, b201, ()), ()) (fun y230 =>
let a231 : (Nat → Int) := y230
l_44_10 N N (((), (), b201, (), (), (), i202, i203, i204, a231, 0, ()), (a205, a206, a231, (Sch.zero (.arr 16 (.int .u64))), l207, ())) (fun y247 =>
let b248 : Bool := y247.1.2.2.1
let i249 : Int := y247.1.2.2.2.2.2.2.1
let i250 : Int := y247.1.2.2.2.2.2.2.2.1
let i251 : Int := y247.1.2.2.2.2.2.2.2.2.1
let a252 : (Nat → Int) := y247.2.1
let a253 : (Nat → Int) := y247.2.2.1
let a254 : (Nat → Int) := y247.2.2.2.1
let a255 : (Nat → Int) := y247.2.2.2.2.1
let l256 : (List Bool) := y247.2.2.2.2.2.1
p_40 N ((a255, ()), ()) (fun y337 =>
let a338 : (Nat → Int) := y337
l_44_16 N N (((), (), b248, (), (), i249, i250, i251, a254, 0, ()), (a252, a253, a338, l256, ())) (fun y353 =>
let b354 : Bool := y353.1.2.2.1
let i355 : Int := y353.1.2.2.2.2.1
let i356 : Int := y353.1.2.2.2.2.2.1
let i357 : Int := y353.1.2.2.2.2.2.2.1
let a358 : (Nat → Int) := y353.2.1
let a359 : (Nat → Int) := y353.2.2.1
let l360 : (List Bool) := y353.2.2.2.1
let i361 : Int := addA .i64 i357 1
rec (((), (), b354, (), i355, i356, i361, ()), (a358, a359, l360, ()))))))) else (
κ0 (((), (), (), i202, i203, ()), (a205, a206, l207, ())))
def l_44_5 {R : Type} (N : Nat) : Nat → ((Unit × Unit × Bool × Unit × Int × Int × Int × Unit) × ((Nat → Int) × (Nat → Int) × (List Bool) × Unit)) → (((Unit × Unit × Unit × Int × Int × Unit) × ((Nat → Int) × (Nat → Int) × (List Bool) × Unit)) → Option R) → Option R
  | 0, _, _ => none
  | n + 1, x, κ0 => B_44_5 N (fun y => l_44_5 N n y κ0) x κ0
def lv_44_2 : Live := [(1, none), (2, none), (12, none), (13, none), (14, none)]
def pt_44_2 : SPat := ⟨[(1, .ptr 0 []), (2, .ptr 1 []), (12, .sl 2), (13, .int .i64), (14, .int .i64)], [some (.vec (.int .u64) 128, 70), some (.vec (.int .u64) 128, 70), some (.lst (.bool), 4)]⟩
def px_44_2_0 : SPat := ⟨[(1, .ptr 0 []), (2, .ptr 1 [])], [some (.vec (.int .u64) 128, 70), some (.vec (.int .u64) 128, 70)]⟩
def lo_44_2 : Exit → Live
  | .exit 0 => [(1, none), (2, none)]
  | _ => []
def B_44_2 {R : Type} (N : Nat) (rec : ((Unit × Unit × Unit × Int × Int × Unit) × ((Nat → Int) × (Nat → Int) × (List Bool) × Unit)) → Option R) (x : ((Unit × Unit × Unit × Int × Int × Unit) × ((Nat → Int) × (Nat → Int) × (List Bool) × Unit))) (κ0 : ((Unit × Unit × Unit) × ((Nat → Int) × (Nat → Int) × Unit)) → Option R) : Option R :=
let i195 : Int := x.1.2.2.2.1
let i196 : Int := x.1.2.2.2.2.1
let a197 : (Nat → Int) := x.2.1
let a198 : (Nat → Int) := x.2.2.1
let l199 : (List Bool) := x.2.2.2.1
bif (decide (i196 < i195)) then (
bif decide (0 ≤ i196) then (
bif decide (i196 < ((List.length l199) : Int)) then (
let b200 : Bool := (List.getD l199 ((Int.toNat i196)) (Sch.zero (.bool)))
l_44_5 N N (((), (), b200, (), i195, i196, 0, ()), (a197, a198, l199, ())) (fun y362 =>
let i363 : Int := y362.1.2.2.2.1
let i364 : Int := y362.1.2.2.2.2.1
let a365 : (Nat → Int) := y362.2.1
let a366 : (Nat → Int) := y362.2.2.1
let l367 : (List Bool) := y362.2.2.2.1
let i368 : Int := addA .i64 i364 1
rec (((), (), (), i363, i368, ()), (a365, a366, l367, ())))) else none) else none) else (
κ0 (((), (), ()), (a197, a198, ())))
def l_44_2 {R : Type} (N : Nat) : Nat → ((Unit × Unit × Unit × Int × Int × Unit) × ((Nat → Int) × (Nat → Int) × (List Bool) × Unit)) → (((Unit × Unit × Unit) × ((Nat → Int) × (Nat → Int) × Unit)) → Option R) → Option R
  | 0, _, _ => none
  | n + 1, x, κ0 => B_44_2 N (fun y => l_44_2 N n y κ0) x κ0
def ap_44 : List Pat := [.vec (.int .u64) 128]
def hp_44 : List (Option (Pat × Nat)) := []
def p_44 {R : Type} (N : Nat) (x : ((Nat → Int) × Unit) × (Unit)) (κ0 : (Nat → Int) → Option R) : Option R :=
let a192 : (Nat → Int) := x.1.1
let l193 : (List Bool) := [false, true]
let i194 : Int := (((List.length l193) : Nat) : Int)
l_44_2 N N (((), (), (), i194, 0, ()), (a192, (Sch.zero (.arr 128 (.int .u64))), l193, ())) (fun y369 =>
let a370 : (Nat → Int) := y369.2.1
let a371 : (Nat → Int) := y369.2.2.1
κ0 a370)

abbrev Tl_44_10 (R : Type) : Type := ((Unit × Unit × Bool × Unit × Unit × Unit × Int × Int × Int × (Nat → Int) × Int × Unit) × ((Nat → Int) × (Nat → Int) × (Nat → Int) × (Nat → Int) × (List Bool) × Unit)) → (((Unit × Unit × Bool × Unit × Unit × Unit × Int × Int × Int × Unit) × ((Nat → Int) × (Nat → Int) × (Nat → Int) × (Nat → Int) × (List Bool) × Unit)) → Option R) → Option R
abbrev Tl_44_16 (R : Type) : Type := ((Unit × Unit × Bool × Unit × Unit × Int × Int × Int × (Nat → Int) × Int × Unit) × ((Nat → Int) × (Nat → Int) × (Nat → Int) × (List Bool) × Unit)) → (((Unit × Unit × Bool × Unit × Int × Int × Int × Unit) × ((Nat → Int) × (Nat → Int) × (List Bool) × Unit)) → Option R) → Option R
abbrev Tl_44_5 (R : Type) : Type := ((Unit × Unit × Bool × Unit × Int × Int × Int × Unit) × ((Nat → Int) × (Nat → Int) × (List Bool) × Unit)) → (((Unit × Unit × Unit × Int × Int × Unit) × ((Nat → Int) × (Nat → Int) × (List Bool) × Unit)) → Option R) → Option R
abbrev Tl_44_2 (R : Type) : Type := ((Unit × Unit × Unit × Int × Int × Unit) × ((Nat → Int) × (Nat → Int) × (List Bool) × Unit)) → (((Unit × Unit × Unit) × ((Nat → Int) × (Nat → Int) × Unit)) → Option R) → Option R
abbrev Tp_44 (R : Type) : Type := ((Nat → Int) × Unit) × (Unit) → ((Nat → Int) → Option R) → Option R
def Q_44 {R : Type} (q_95 : Tp_95 R) (q_40 : Tp_40 R) (m_44_10 : Tl_44_10 R) (m_44_16 : Tl_44_16 R) (m_44_5 : Tl_44_5 R) (m_44_2 : Tl_44_2 R) (x : ((Nat → Int) × Unit) × (Unit)) (κ0 : (Nat → Int) → Option R) : Option R :=
let a192 : (Nat → Int) := x.1.1
let l193 : (List Bool) := [false, true]
let i194 : Int := (((List.length l193) : Nat) : Int)
m_44_2 (((), (), (), i194, 0, ()), (a192, (Sch.zero (.arr 128 (.int .u64))), l193, ())) (fun y369 =>
let a370 : (Nat → Int) := y369.2.1
let a371 : (Nat → Int) := y369.2.2.1
κ0 a370)
def C_44_10 {R : Type} (q_95 : Tp_95 R) (q_40 : Tp_40 R) (m_44_10 : Tl_44_10 R) (m_44_16 : Tl_44_16 R) (m_44_5 : Tl_44_5 R) (m_44_2 : Tl_44_2 R) (rec : ((Unit × Unit × Bool × Unit × Unit × Unit × Int × Int × Int × (Nat → Int) × Int × Unit) × ((Nat → Int) × (Nat → Int) × (Nat → Int) × (Nat → Int) × (List Bool) × Unit)) → Option R) (x : ((Unit × Unit × Bool × Unit × Unit × Unit × Int × Int × Int × (Nat → Int) × Int × Unit) × ((Nat → Int) × (Nat → Int) × (Nat → Int) × (Nat → Int) × (List Bool) × Unit))) (κ0 : ((Unit × Unit × Bool × Unit × Unit × Unit × Int × Int × Int × Unit) × ((Nat → Int) × (Nat → Int) × (Nat → Int) × (Nat → Int) × (List Bool) × Unit)) → Option R) : Option R :=
let b232 : Bool := x.1.2.2.1
let i233 : Int := x.1.2.2.2.2.2.2.1
let i234 : Int := x.1.2.2.2.2.2.2.2.1
let i235 : Int := x.1.2.2.2.2.2.2.2.2.1
let a236 : (Nat → Int) := x.1.2.2.2.2.2.2.2.2.2.1
let i237 : Int := x.1.2.2.2.2.2.2.2.2.2.2.1
let a238 : (Nat → Int) := x.2.1
let a239 : (Nat → Int) := x.2.2.1
let a240 : (Nat → Int) := x.2.2.2.1
let a241 : (Nat → Int) := x.2.2.2.2.1
let l242 : (List Bool) := x.2.2.2.2.2.1
bif (decide (i237 < 16)) then (
bif decide (0 ≤ i237) then (
bif decide (i237 < (16 : Int)) then (
let i243 : Int := (a236 ((Int.toNat i237)))
bif decide (0 ≤ i243) then (
bif decide (i243 < (128 : Int)) then (
let i244 : Int := (a238 ((Int.toNat i243)))
bif decide (0 ≤ i237) then (
bif decide (i237 < (16 : Int)) then (
let a245 : (Nat → Int) := (upd a241 ((Int.toNat i237)) i244)
let i246 : Int := addA .i64 i237 1
rec (((), (), b232, (), (), (), i233, i234, i235, a236, i246, ()), (a238, a239, a240, a245, l242, ()))) else none) else none) else none) else none) else none) else none) else (
κ0 (((), (), b232, (), (), (), i233, i234, i235, ()), (a238, a239, a240, a241, l242, ())))
def C_44_16 {R : Type} (q_95 : Tp_95 R) (q_40 : Tp_40 R) (m_44_10 : Tl_44_10 R) (m_44_16 : Tl_44_16 R) (m_44_5 : Tl_44_5 R) (m_44_2 : Tl_44_2 R) (rec : ((Unit × Unit × Bool × Unit × Unit × Int × Int × Int × (Nat → Int) × Int × Unit) × ((Nat → Int) × (Nat → Int) × (Nat → Int) × (List Bool) × Unit)) → Option R) (x : ((Unit × Unit × Bool × Unit × Unit × Int × Int × Int × (Nat → Int) × Int × Unit) × ((Nat → Int) × (Nat → Int) × (Nat → Int) × (List Bool) × Unit))) (κ0 : ((Unit × Unit × Bool × Unit × Int × Int × Int × Unit) × ((Nat → Int) × (Nat → Int) × (List Bool) × Unit)) → Option R) : Option R :=
let b339 : Bool := x.1.2.2.1
let i340 : Int := x.1.2.2.2.2.2.1
let i341 : Int := x.1.2.2.2.2.2.2.1
let i342 : Int := x.1.2.2.2.2.2.2.2.1
let a343 : (Nat → Int) := x.1.2.2.2.2.2.2.2.2.1
let i344 : Int := x.1.2.2.2.2.2.2.2.2.2.1
let a345 : (Nat → Int) := x.2.1
let a346 : (Nat → Int) := x.2.2.1
let a347 : (Nat → Int) := x.2.2.2.1
let l348 : (List Bool) := x.2.2.2.2.1
bif (decide (i344 < 16)) then (
bif decide (0 ≤ i344) then (
bif decide (i344 < (16 : Int)) then (
let i349 : Int := (a343 ((Int.toNat i344)))
bif decide (0 ≤ i344) then (
bif decide (i344 < (16 : Int)) then (
let i350 : Int := (a347 ((Int.toNat i344)))
bif decide (0 ≤ i349) then (
bif decide (i349 < (128 : Int)) then (
let a351 : (Nat → Int) := (upd a345 ((Int.toNat i349)) i350)
let i352 : Int := addA .i64 i344 1
rec (((), (), b339, (), (), i340, i341, i342, a343, i352, ()), (a351, a346, a347, l348, ()))) else none) else none) else none) else none) else none) else none) else (
κ0 (((), (), b339, (), i340, i341, i342, ()), (a345, a346, l348, ())))
def C_44_5 {R : Type} (q_95 : Tp_95 R) (q_40 : Tp_40 R) (m_44_10 : Tl_44_10 R) (m_44_16 : Tl_44_16 R) (m_44_5 : Tl_44_5 R) (m_44_2 : Tl_44_2 R) (rec : ((Unit × Unit × Bool × Unit × Int × Int × Int × Unit) × ((Nat → Int) × (Nat → Int) × (List Bool) × Unit)) → Option R) (x : ((Unit × Unit × Bool × Unit × Int × Int × Int × Unit) × ((Nat → Int) × (Nat → Int) × (List Bool) × Unit))) (κ0 : ((Unit × Unit × Unit × Int × Int × Unit) × ((Nat → Int) × (Nat → Int) × (List Bool) × Unit)) → Option R) : Option R :=
let b201 : Bool := x.1.2.2.1
let i202 : Int := x.1.2.2.2.2.1
let i203 : Int := x.1.2.2.2.2.2.1
let i204 : Int := x.1.2.2.2.2.2.2.1
let a205 : (Nat → Int) := x.2.1
let a206 : (Nat → Int) := x.2.2.1
let l207 : (List Bool) := x.2.2.2.1
bif (decide (i204 < 8)) then (
q_95 ((i204, b201, ()), ()) (fun y230 =>
let a231 : (Nat → Int) := y230
m_44_10 (((), (), b201, (), (), (), i202, i203, i204, a231, 0, ()), (a205, a206, a231, (Sch.zero (.arr 16 (.int .u64))), l207, ())) (fun y247 =>
let b248 : Bool := y247.1.2.2.1
let i249 : Int := y247.1.2.2.2.2.2.2.1
let i250 : Int := y247.1.2.2.2.2.2.2.2.1
let i251 : Int := y247.1.2.2.2.2.2.2.2.2.1
let a252 : (Nat → Int) := y247.2.1
let a253 : (Nat → Int) := y247.2.2.1
let a254 : (Nat → Int) := y247.2.2.2.1
let a255 : (Nat → Int) := y247.2.2.2.2.1
let l256 : (List Bool) := y247.2.2.2.2.2.1
q_40 ((a255, ()), ()) (fun y337 =>
let a338 : (Nat → Int) := y337
m_44_16 (((), (), b248, (), (), i249, i250, i251, a254, 0, ()), (a252, a253, a338, l256, ())) (fun y353 =>
let b354 : Bool := y353.1.2.2.1
let i355 : Int := y353.1.2.2.2.2.1
let i356 : Int := y353.1.2.2.2.2.2.1
let i357 : Int := y353.1.2.2.2.2.2.2.1
let a358 : (Nat → Int) := y353.2.1
let a359 : (Nat → Int) := y353.2.2.1
let l360 : (List Bool) := y353.2.2.2.1
let i361 : Int := addA .i64 i357 1
rec (((), (), b354, (), i355, i356, i361, ()), (a358, a359, l360, ()))))))) else (
κ0 (((), (), (), i202, i203, ()), (a205, a206, l207, ())))
def C_44_2 {R : Type} (q_95 : Tp_95 R) (q_40 : Tp_40 R) (m_44_10 : Tl_44_10 R) (m_44_16 : Tl_44_16 R) (m_44_5 : Tl_44_5 R) (m_44_2 : Tl_44_2 R) (rec : ((Unit × Unit × Unit × Int × Int × Unit) × ((Nat → Int) × (Nat → Int) × (List Bool) × Unit)) → Option R) (x : ((Unit × Unit × Unit × Int × Int × Unit) × ((Nat → Int) × (Nat → Int) × (List Bool) × Unit))) (κ0 : ((Unit × Unit × Unit) × ((Nat → Int) × (Nat → Int) × Unit)) → Option R) : Option R :=
let i195 : Int := x.1.2.2.2.1
let i196 : Int := x.1.2.2.2.2.1
let a197 : (Nat → Int) := x.2.1
let a198 : (Nat → Int) := x.2.2.1
let l199 : (List Bool) := x.2.2.2.1
bif (decide (i196 < i195)) then (
bif decide (0 ≤ i196) then (
bif decide (i196 < ((List.length l199) : Int)) then (
let b200 : Bool := (List.getD l199 ((Int.toNat i196)) (Sch.zero (.bool)))
m_44_5 (((), (), b200, (), i195, i196, 0, ()), (a197, a198, l199, ())) (fun y362 =>
let i363 : Int := y362.1.2.2.2.1
let i364 : Int := y362.1.2.2.2.2.1
let a365 : (Nat → Int) := y362.2.1
let a366 : (Nat → Int) := y362.2.2.1
let l367 : (List Bool) := y362.2.2.2.1
let i368 : Int := addA .i64 i364 1
rec (((), (), (), i363, i368, ()), (a365, a366, l367, ())))) else none) else none) else (
κ0 (((), (), ()), (a197, a198, ())))
def EG_44 {R : Type} (q_95 : Tp_95 R) (q_40 : Tp_40 R) : Env R := ((Env.base QQ LN).add 95 ap_95 hp_95 (fun (x : aden ap_95 × hden hp_95) k => q_95 x (fun y => k (Pat.inst (.vec (.int .i64) 16) y) (instH hp_95 x.2)))).add 40 ap_40 hp_40 (fun (x : aden ap_40 × hden hp_40) k => q_40 x (fun y => k (Pat.inst (.vec (.int .u64) 16) y) (instH hp_40 x.2)))
def LG_44 {R : Type} (m_44_10 : Tl_44_10 R) (m_44_16 : Tl_44_16 R) (m_44_5 : Tl_44_5 R) (m_44_2 : Tl_44_2 R) : Loops R := ((((Loops.none).add 10 (loopBy 0 lv_44_10 pt_44_10 (fun x k => m_44_10 x (fun y => k (.exit 4) (px_44_10_0.inst y))))).add 16 (loopBy 0 lv_44_16 pt_44_16 (fun x k => m_44_16 x (fun y => k (.exit 6) (px_44_16_0.inst y))))).add 5 (loopBy 0 lv_44_5 pt_44_5 (fun x k => m_44_5 x (fun y => k (.exit 2) (px_44_5_0.inst y))))).add 2 (loopBy 0 lv_44_2 pt_44_2 (fun x k => m_44_2 x (fun y => k (.exit 0) (px_44_2_0.inst y))))
def E_44 {R : Type} (N : Nat) : Env R := EG_44 (p_95 N) (p_40 N)
theorem eok_44 {R : Type} (N : Nat) : EK Try.prog (E_44 (R := R) N) := ek_add (ek_add (ek_base _ _) (good_95 N)) (good_40 N)
def L_44 {R : Type} (N : Nat) : Loops R := LG_44 (l_44_10 N N) (l_44_16 N N) (l_44_5 N N) (l_44_2 N N)
theorem gstep_44_10 {R : Type} (q_95 : Tp_95 R) (q_40 : Tp_40 R) (m_44_10 : Tl_44_10 R) (m_44_16 : Tl_44_16 R) (m_44_5 : Tl_44_5 R) (m_44_2 : Tl_44_2 R) (n : Nat) (x : pt_44_10.den) (k : Exit → St → Option R) : iter 0 lv_44_10 lo_44_10 (aexec TT (EG_44 q_95 q_40) (drawOk TT QQ) (LG_44 m_44_10 m_44_16 m_44_5 m_44_2) (loopAt 10 (bodyOf Try.f44))) (n + 1) (pt_44_10.inst x) k = C_44_10 q_95 q_40 m_44_10 m_44_16 m_44_5 m_44_2 (fun y => iter 0 lv_44_10 lo_44_10 (aexec TT (EG_44 q_95 q_40) (drawOk TT QQ) (LG_44 m_44_10 m_44_16 m_44_5 m_44_2) (loopAt 10 (bodyOf Try.f44))) n (pt_44_10.inst y) k) x (fun y => k (.exit 4) (px_44_10_0.inst y)) := by kernel_rfl
theorem step_44_10 {R : Type} (N n : Nat) (x : pt_44_10.den) (k : Exit → St → Option R) : iter 0 lv_44_10 lo_44_10 (aexec TT (E_44 (R := R) N) (drawOk TT QQ) (L_44 N) (loopAt 10 (bodyOf Try.f44))) (n + 1) (pt_44_10.inst x) k = B_44_10 N (fun y => iter 0 lv_44_10 lo_44_10 (aexec TT (E_44 (R := R) N) (drawOk TT QQ) (L_44 N) (loopAt 10 (bodyOf Try.f44))) n (pt_44_10.inst y) k) x (fun y => k (.exit 4) (px_44_10_0.inst y)) := (gstep_44_10 (p_95 N) (p_40 N) (l_44_10 N N) (l_44_16 N N) (l_44_5 N N) (l_44_2 N N) n x k).trans (by kernel_rfl)
theorem eq_44_10 {R : Type} (N : Nat) : ∀ (n : Nat) (x : pt_44_10.den) (k : Exit → St → Option R), iter 0 lv_44_10 lo_44_10 (aexec TT (E_44 (R := R) N) (drawOk TT QQ) (L_44 N) (loopAt 10 (bodyOf Try.f44))) n (pt_44_10.inst x) k = l_44_10 N n x (fun y => k (.exit 4) (px_44_10_0.inst y)) :=
  iter_eq (K := Exit → St → Option R) (ks := fun k => k) (l := fun n (x : pt_44_10.den) k => l_44_10 N n x (fun y => k (.exit 4) (px_44_10_0.inst y))) (B := fun (rec : pt_44_10.den → Option R) (x : pt_44_10.den) k => B_44_10 N rec x (fun y => k (.exit 4) (px_44_10_0.inst y))) (fun _ _ => rfl) (fun _ _ _ => rfl) (fun n x k => step_44_10 N n x k)
theorem rounds_44_10 {R : Type} (N : Nat) : Rounds 0 TT (E_44 (R := R) N) (drawOk TT QQ) (L_44 N) 10 (loopAt 10 (bodyOf Try.f44)) :=
  rounds_of (p := pt_44_10) (l := fun (x : pt_44_10.den) k => l_44_10 N N x (fun y => k (.exit 4) (px_44_10_0.inst y))) (fun s k => rfl) (fun x k => eq_44_10 N N x k)
theorem gstep_44_16 {R : Type} (q_95 : Tp_95 R) (q_40 : Tp_40 R) (m_44_10 : Tl_44_10 R) (m_44_16 : Tl_44_16 R) (m_44_5 : Tl_44_5 R) (m_44_2 : Tl_44_2 R) (n : Nat) (x : pt_44_16.den) (k : Exit → St → Option R) : iter 0 lv_44_16 lo_44_16 (aexec TT (EG_44 q_95 q_40) (drawOk TT QQ) (LG_44 m_44_10 m_44_16 m_44_5 m_44_2) (loopAt 16 (bodyOf Try.f44))) (n + 1) (pt_44_16.inst x) k = C_44_16 q_95 q_40 m_44_10 m_44_16 m_44_5 m_44_2 (fun y => iter 0 lv_44_16 lo_44_16 (aexec TT (EG_44 q_95 q_40) (drawOk TT QQ) (LG_44 m_44_10 m_44_16 m_44_5 m_44_2) (loopAt 16 (bodyOf Try.f44))) n (pt_44_16.inst y) k) x (fun y => k (.exit 6) (px_44_16_0.inst y)) := by kernel_rfl
theorem step_44_16 {R : Type} (N n : Nat) (x : pt_44_16.den) (k : Exit → St → Option R) : iter 0 lv_44_16 lo_44_16 (aexec TT (E_44 (R := R) N) (drawOk TT QQ) (L_44 N) (loopAt 16 (bodyOf Try.f44))) (n + 1) (pt_44_16.inst x) k = B_44_16 N (fun y => iter 0 lv_44_16 lo_44_16 (aexec TT (E_44 (R := R) N) (drawOk TT QQ) (L_44 N) (loopAt 16 (bodyOf Try.f44))) n (pt_44_16.inst y) k) x (fun y => k (.exit 6) (px_44_16_0.inst y)) := (gstep_44_16 (p_95 N) (p_40 N) (l_44_10 N N) (l_44_16 N N) (l_44_5 N N) (l_44_2 N N) n x k).trans (by kernel_rfl)
theorem eq_44_16 {R : Type} (N : Nat) : ∀ (n : Nat) (x : pt_44_16.den) (k : Exit → St → Option R), iter 0 lv_44_16 lo_44_16 (aexec TT (E_44 (R := R) N) (drawOk TT QQ) (L_44 N) (loopAt 16 (bodyOf Try.f44))) n (pt_44_16.inst x) k = l_44_16 N n x (fun y => k (.exit 6) (px_44_16_0.inst y)) :=
  iter_eq (K := Exit → St → Option R) (ks := fun k => k) (l := fun n (x : pt_44_16.den) k => l_44_16 N n x (fun y => k (.exit 6) (px_44_16_0.inst y))) (B := fun (rec : pt_44_16.den → Option R) (x : pt_44_16.den) k => B_44_16 N rec x (fun y => k (.exit 6) (px_44_16_0.inst y))) (fun _ _ => rfl) (fun _ _ _ => rfl) (fun n x k => step_44_16 N n x k)
theorem rounds_44_16 {R : Type} (N : Nat) : Rounds 0 TT (E_44 (R := R) N) (drawOk TT QQ) (L_44 N) 16 (loopAt 16 (bodyOf Try.f44)) :=
  rounds_of (p := pt_44_16) (l := fun (x : pt_44_16.den) k => l_44_16 N N x (fun y => k (.exit 6) (px_44_16_0.inst y))) (fun s k => rfl) (fun x k => eq_44_16 N N x k)
theorem gstep_44_5 {R : Type} (q_95 : Tp_95 R) (q_40 : Tp_40 R) (m_44_10 : Tl_44_10 R) (m_44_16 : Tl_44_16 R) (m_44_5 : Tl_44_5 R) (m_44_2 : Tl_44_2 R) (n : Nat) (x : pt_44_5.den) (k : Exit → St → Option R) : iter 0 lv_44_5 lo_44_5 (aexec TT (EG_44 q_95 q_40) (drawOk TT QQ) (LG_44 m_44_10 m_44_16 m_44_5 m_44_2) (loopAt 5 (bodyOf Try.f44))) (n + 1) (pt_44_5.inst x) k = C_44_5 q_95 q_40 m_44_10 m_44_16 m_44_5 m_44_2 (fun y => iter 0 lv_44_5 lo_44_5 (aexec TT (EG_44 q_95 q_40) (drawOk TT QQ) (LG_44 m_44_10 m_44_16 m_44_5 m_44_2) (loopAt 5 (bodyOf Try.f44))) n (pt_44_5.inst y) k) x (fun y => k (.exit 2) (px_44_5_0.inst y)) := by kernel_rfl
theorem step_44_5 {R : Type} (N n : Nat) (x : pt_44_5.den) (k : Exit → St → Option R) : iter 0 lv_44_5 lo_44_5 (aexec TT (E_44 (R := R) N) (drawOk TT QQ) (L_44 N) (loopAt 5 (bodyOf Try.f44))) (n + 1) (pt_44_5.inst x) k = B_44_5 N (fun y => iter 0 lv_44_5 lo_44_5 (aexec TT (E_44 (R := R) N) (drawOk TT QQ) (L_44 N) (loopAt 5 (bodyOf Try.f44))) n (pt_44_5.inst y) k) x (fun y => k (.exit 2) (px_44_5_0.inst y)) := (gstep_44_5 (p_95 N) (p_40 N) (l_44_10 N N) (l_44_16 N N) (l_44_5 N N) (l_44_2 N N) n x k).trans (by kernel_rfl)
theorem eq_44_5 {R : Type} (N : Nat) : ∀ (n : Nat) (x : pt_44_5.den) (k : Exit → St → Option R), iter 0 lv_44_5 lo_44_5 (aexec TT (E_44 (R := R) N) (drawOk TT QQ) (L_44 N) (loopAt 5 (bodyOf Try.f44))) n (pt_44_5.inst x) k = l_44_5 N n x (fun y => k (.exit 2) (px_44_5_0.inst y)) :=
  iter_eq (K := Exit → St → Option R) (ks := fun k => k) (l := fun n (x : pt_44_5.den) k => l_44_5 N n x (fun y => k (.exit 2) (px_44_5_0.inst y))) (B := fun (rec : pt_44_5.den → Option R) (x : pt_44_5.den) k => B_44_5 N rec x (fun y => k (.exit 2) (px_44_5_0.inst y))) (fun _ _ => rfl) (fun _ _ _ => rfl) (fun n x k => step_44_5 N n x k)
theorem rounds_44_5 {R : Type} (N : Nat) : Rounds 0 TT (E_44 (R := R) N) (drawOk TT QQ) (L_44 N) 5 (loopAt 5 (bodyOf Try.f44)) :=
  rounds_of (p := pt_44_5) (l := fun (x : pt_44_5.den) k => l_44_5 N N x (fun y => k (.exit 2) (px_44_5_0.inst y))) (fun s k => rfl) (fun x k => eq_44_5 N N x k)
theorem gstep_44_2 {R : Type} (q_95 : Tp_95 R) (q_40 : Tp_40 R) (m_44_10 : Tl_44_10 R) (m_44_16 : Tl_44_16 R) (m_44_5 : Tl_44_5 R) (m_44_2 : Tl_44_2 R) (n : Nat) (x : pt_44_2.den) (k : Exit → St → Option R) : iter 0 lv_44_2 lo_44_2 (aexec TT (EG_44 q_95 q_40) (drawOk TT QQ) (LG_44 m_44_10 m_44_16 m_44_5 m_44_2) (loopAt 2 (bodyOf Try.f44))) (n + 1) (pt_44_2.inst x) k = C_44_2 q_95 q_40 m_44_10 m_44_16 m_44_5 m_44_2 (fun y => iter 0 lv_44_2 lo_44_2 (aexec TT (EG_44 q_95 q_40) (drawOk TT QQ) (LG_44 m_44_10 m_44_16 m_44_5 m_44_2) (loopAt 2 (bodyOf Try.f44))) n (pt_44_2.inst y) k) x (fun y => k (.exit 0) (px_44_2_0.inst y)) := by kernel_rfl
theorem step_44_2 {R : Type} (N n : Nat) (x : pt_44_2.den) (k : Exit → St → Option R) : iter 0 lv_44_2 lo_44_2 (aexec TT (E_44 (R := R) N) (drawOk TT QQ) (L_44 N) (loopAt 2 (bodyOf Try.f44))) (n + 1) (pt_44_2.inst x) k = B_44_2 N (fun y => iter 0 lv_44_2 lo_44_2 (aexec TT (E_44 (R := R) N) (drawOk TT QQ) (L_44 N) (loopAt 2 (bodyOf Try.f44))) n (pt_44_2.inst y) k) x (fun y => k (.exit 0) (px_44_2_0.inst y)) := (gstep_44_2 (p_95 N) (p_40 N) (l_44_10 N N) (l_44_16 N N) (l_44_5 N N) (l_44_2 N N) n x k).trans (by kernel_rfl)
theorem eq_44_2 {R : Type} (N : Nat) : ∀ (n : Nat) (x : pt_44_2.den) (k : Exit → St → Option R), iter 0 lv_44_2 lo_44_2 (aexec TT (E_44 (R := R) N) (drawOk TT QQ) (L_44 N) (loopAt 2 (bodyOf Try.f44))) n (pt_44_2.inst x) k = l_44_2 N n x (fun y => k (.exit 0) (px_44_2_0.inst y)) :=
  iter_eq (K := Exit → St → Option R) (ks := fun k => k) (l := fun n (x : pt_44_2.den) k => l_44_2 N n x (fun y => k (.exit 0) (px_44_2_0.inst y))) (B := fun (rec : pt_44_2.den → Option R) (x : pt_44_2.den) k => B_44_2 N rec x (fun y => k (.exit 0) (px_44_2_0.inst y))) (fun _ _ => rfl) (fun _ _ _ => rfl) (fun n x k => step_44_2 N n x k)
theorem rounds_44_2 {R : Type} (N : Nat) : Rounds 0 TT (E_44 (R := R) N) (drawOk TT QQ) (L_44 N) 2 (loopAt 2 (bodyOf Try.f44)) :=
  rounds_of (p := pt_44_2) (l := fun (x : pt_44_2.den) k => l_44_2 N N x (fun y => k (.exit 0) (px_44_2_0.inst y))) (fun s k => rfl) (fun x k => eq_44_2 N N x k)
theorem loops_44 : loopsIn (bodyOf Try.f44) = [(2, loopAt 2 (bodyOf Try.f44)), (5, loopAt 5 (bodyOf Try.f44)), (10, loopAt 10 (bodyOf Try.f44)), (16, loopAt 16 (bodyOf Try.f44))] := by kernel_rfl
theorem lok_44 {R : Type} (N : Nat) : LOK 0 TT (E_44 (R := R) N) (drawOk TT QQ) (L_44 N) (bodyOf Try.f44) := loops_all loops_44 (by
  simp only [List.forall_mem_cons, List.not_mem_nil, false_implies, implies_true, and_true]
  exact ⟨rounds_44_2 N, rounds_44_5 N, rounds_44_10 N, rounds_44_16 N⟩)
theorem grun_44 {R : Type} (q_95 : Tp_95 R) (q_40 : Tp_40 R) (m_44_10 : Tl_44_10 R) (m_44_16 : Tl_44_16 R) (m_44_5 : Tl_44_5 R) (m_44_2 : Tl_44_2 R) (x : aden ap_44 × hden hp_44) (k : KF R) : fnrun TT (EG_44 q_95 q_40) (drawOk TT QQ) (LG_44 m_44_10 m_44_16 m_44_5 m_44_2) true Try.f44 (instA ap_44 x.1) (instH hp_44 x.2) k = Q_44 q_95 q_40 m_44_10 m_44_16 m_44_5 m_44_2 x (fun y => k (Pat.inst (.vec (.int .u64) 128) y) (instH hp_44 x.2)) := by kernel_rfl
theorem run_44 {R : Type} (N : Nat) (x : aden ap_44 × hden hp_44) (k : KF R) : fnrun TT (E_44 (R := R) N) (drawOk TT QQ) (L_44 N) true Try.f44 (instA ap_44 x.1) (instH hp_44 x.2) k = p_44 N x (fun y => k (Pat.inst (.vec (.int .u64) 128) y) (instH hp_44 x.2)) := (grun_44 (p_95 N) (p_40 N) (l_44_10 N N) (l_44_16 N N) (l_44_5 N N) (l_44_2 N N) x k).trans (by kernel_rfl)
theorem good_44 {R : Type} (N : Nat) : GD (X := R) Try.prog QQ 44 ap_44 hp_44 (fun (x : aden ap_44 × hden hp_44) k => p_44 N x (fun y => k (Pat.inst (.vec (.int .u64) 128) y) (instH hp_44 x.2))) :=
  gd_quiet (E := E_44 N) (p := fun (x : aden ap_44 × hden hp_44) κ => p_44 N x (fun y => κ (Pat.inst (.vec (.int .u64) 128) y))) mixed tyok (eok_44 N) Try.func44 (by kernel_rfl) (by kernel_rfl) (lok_44 N) (fun x k => run_44 N x k)

def ap_43 : List Pat := [.vec (.int .u64) 128, .vec (.int .u64) 128]
def hp_43 : List (Option (Pat × Nat)) := []
def p_43 {R : Type} (N : Nat) (x : ((Nat → Int) × (Nat → Int) × Unit) × (Unit)) (κ0 : (Nat → Int) → Option R) : Option R :=
let a157 : (Nat → Int) := x.1.1
let a158 : (Nat → Int) := x.1.2.1
let l159 : (List (Nat → Int)) := [a157, a158]
p_94 N ((l159, ()), ()) (fun y190 =>
let a191 : (Nat → Int) := y190
p_44 N ((a191, ()), ()) (fun y372 =>
let a373 : (Nat → Int) := y372
let l374 : (List (Nat → Int)) := [a191, a373]
p_94 N ((l374, ()), ()) (fun y375 =>
let a376 : (Nat → Int) := y375
κ0 a376)))

abbrev Tp_43 (R : Type) : Type := ((Nat → Int) × (Nat → Int) × Unit) × (Unit) → ((Nat → Int) → Option R) → Option R
def Q_43 {R : Type} (q_94 : Tp_94 R) (q_44 : Tp_44 R) (x : ((Nat → Int) × (Nat → Int) × Unit) × (Unit)) (κ0 : (Nat → Int) → Option R) : Option R :=
let a157 : (Nat → Int) := x.1.1
let a158 : (Nat → Int) := x.1.2.1
let l159 : (List (Nat → Int)) := [a157, a158]
q_94 ((l159, ()), ()) (fun y190 =>
let a191 : (Nat → Int) := y190
q_44 ((a191, ()), ()) (fun y372 =>
let a373 : (Nat → Int) := y372
let l374 : (List (Nat → Int)) := [a191, a373]
q_94 ((l374, ()), ()) (fun y375 =>
let a376 : (Nat → Int) := y375
κ0 a376)))
def EG_43 {R : Type} (q_94 : Tp_94 R) (q_44 : Tp_44 R) : Env R := ((Env.base QQ LN).add 94 ap_94 hp_94 (fun (x : aden ap_94 × hden hp_94) k => q_94 x (fun y => k (Pat.inst (.vec (.int .u64) 128) y) (instH hp_94 x.2)))).add 44 ap_44 hp_44 (fun (x : aden ap_44 × hden hp_44) k => q_44 x (fun y => k (Pat.inst (.vec (.int .u64) 128) y) (instH hp_44 x.2)))
def LG_43 {R : Type} : Loops R := Loops.none
def E_43 {R : Type} (N : Nat) : Env R := EG_43 (p_94 N) (p_44 N)
theorem eok_43 {R : Type} (N : Nat) : EK Try.prog (E_43 (R := R) N) := ek_add (ek_add (ek_base _ _) (good_94 N)) (good_44 N)
def L_43 {R : Type} (N : Nat) : Loops R := LG_43
theorem lok_43 {R : Type} (N : Nat) : LOK 0 TT (E_43 (R := R) N) (drawOk TT QQ) (L_43 N) (bodyOf Try.f43) := loops_nil (by kernel_rfl)
theorem grun_43 {R : Type} (q_94 : Tp_94 R) (q_44 : Tp_44 R) (x : aden ap_43 × hden hp_43) (k : KF R) : fnrun TT (EG_43 q_94 q_44) (drawOk TT QQ) (LG_43) true Try.f43 (instA ap_43 x.1) (instH hp_43 x.2) k = Q_43 q_94 q_44 x (fun y => k (Pat.inst (.vec (.int .u64) 128) y) (instH hp_43 x.2)) := by kernel_rfl
theorem run_43 {R : Type} (N : Nat) (x : aden ap_43 × hden hp_43) (k : KF R) : fnrun TT (E_43 (R := R) N) (drawOk TT QQ) (L_43 N) true Try.f43 (instA ap_43 x.1) (instH hp_43 x.2) k = p_43 N x (fun y => k (Pat.inst (.vec (.int .u64) 128) y) (instH hp_43 x.2)) := (grun_43 (p_94 N) (p_44 N) x k).trans (by kernel_rfl)
theorem good_43 {R : Type} (N : Nat) : GD (X := R) Try.prog QQ 43 ap_43 hp_43 (fun (x : aden ap_43 × hden hp_43) k => p_43 N x (fun y => k (Pat.inst (.vec (.int .u64) 128) y) (instH hp_43 x.2))) :=
  gd_quiet (E := E_43 N) (p := fun (x : aden ap_43 × hden hp_43) κ => p_43 N x (fun y => κ (Pat.inst (.vec (.int .u64) 128) y))) mixed tyok (eok_43 N) Try.func43 (by kernel_rfl) (by kernel_rfl) (lok_43 N) (fun x k => run_43 N x k)

def ap_71 : List Pat := [.node (.fcons (.int .i64) (.fcons (.int .i64) (.fcons (.int .i64) (.fcons (.int .i64) (.fcons (.int .i64) (.fcons (.int .i64) (.fcons (.int .i64) (.fcons (.int .i64) (.fnil))))))))), .node (.fcons (.int .i64) (.fcons (.int .i64) (.fnil))), .int .i64, .int .i64]
def hp_71 : List (Option (Pat × Nat)) := []
def p_71 {R : Type} (N : Nat) (x : ((Int × (Int × (Int × (Int × (Int × (Int × (Int × (Int × Unit)))))))) × (Int × (Int × Unit)) × Int × Int × Unit) × (Unit)) (κ0 : (Nat → Int) → Option R) : Option R :=
let i141 : Int := x.1.1.1
let i142 : Int := x.1.1.2.1
let i143 : Int := x.1.1.2.2.1
let i144 : Int := x.1.1.2.2.2.1
let i145 : Int := x.1.1.2.2.2.2.1
let i146 : Int := x.1.1.2.2.2.2.2.1
let i147 : Int := x.1.1.2.2.2.2.2.2.1
let i148 : Int := x.1.1.2.2.2.2.2.2.2.1
let i149 : Int := x.1.2.1.1
let i150 : Int := x.1.2.1.2.1
let i151 : Int := x.1.2.2.1
let i152 : Int := x.1.2.2.2.1
let a153 : (Nat → Int) := (Sch.zero (.arr 128 (.int .u64)))
let a154 : (Nat → Int) := (Sch.zero (.arr 128 (.int .u64)))
p_70 N (((i141, (i142, (i143, (i144, (i145, (i146, (i147, (i148, ())))))))), (i149, (i150, ())), i151, i152, ()), ()) (fun y155 =>
let a156 : (Nat → Int) := y155
p_43 N ((a154, a156, ()), ()) (fun y377 =>
let a378 : (Nat → Int) := y377
p_43 N ((a153, a378, ()), ()) (fun y379 =>
let a380 : (Nat → Int) := y379
κ0 a380)))

abbrev Tp_71 (R : Type) : Type := ((Int × (Int × (Int × (Int × (Int × (Int × (Int × (Int × Unit)))))))) × (Int × (Int × Unit)) × Int × Int × Unit) × (Unit) → ((Nat → Int) → Option R) → Option R
def Q_71 {R : Type} (q_70 : Tp_70 R) (q_43 : Tp_43 R) (x : ((Int × (Int × (Int × (Int × (Int × (Int × (Int × (Int × Unit)))))))) × (Int × (Int × Unit)) × Int × Int × Unit) × (Unit)) (κ0 : (Nat → Int) → Option R) : Option R :=
let i141 : Int := x.1.1.1
let i142 : Int := x.1.1.2.1
let i143 : Int := x.1.1.2.2.1
let i144 : Int := x.1.1.2.2.2.1
let i145 : Int := x.1.1.2.2.2.2.1
let i146 : Int := x.1.1.2.2.2.2.2.1
let i147 : Int := x.1.1.2.2.2.2.2.2.1
let i148 : Int := x.1.1.2.2.2.2.2.2.2.1
let i149 : Int := x.1.2.1.1
let i150 : Int := x.1.2.1.2.1
let i151 : Int := x.1.2.2.1
let i152 : Int := x.1.2.2.2.1
let a153 : (Nat → Int) := (Sch.zero (.arr 128 (.int .u64)))
let a154 : (Nat → Int) := (Sch.zero (.arr 128 (.int .u64)))
q_70 (((i141, (i142, (i143, (i144, (i145, (i146, (i147, (i148, ())))))))), (i149, (i150, ())), i151, i152, ()), ()) (fun y155 =>
let a156 : (Nat → Int) := y155
q_43 ((a154, a156, ()), ()) (fun y377 =>
let a378 : (Nat → Int) := y377
q_43 ((a153, a378, ()), ()) (fun y379 =>
let a380 : (Nat → Int) := y379
κ0 a380)))
def EG_71 {R : Type} (q_70 : Tp_70 R) (q_43 : Tp_43 R) : Env R := ((Env.base QQ LN).add 70 ap_70 hp_70 (fun (x : aden ap_70 × hden hp_70) k => q_70 x (fun y => k (Pat.inst (.vec (.int .u64) 128) y) (instH hp_70 x.2)))).add 43 ap_43 hp_43 (fun (x : aden ap_43 × hden hp_43) k => q_43 x (fun y => k (Pat.inst (.vec (.int .u64) 128) y) (instH hp_43 x.2)))
def LG_71 {R : Type} : Loops R := Loops.none
def E_71 {R : Type} (N : Nat) : Env R := EG_71 (p_70 N) (p_43 N)
theorem eok_71 {R : Type} (N : Nat) : EK Try.prog (E_71 (R := R) N) := ek_add (ek_add (ek_base _ _) (good_70 N)) (good_43 N)
def L_71 {R : Type} (N : Nat) : Loops R := LG_71
theorem lok_71 {R : Type} (N : Nat) : LOK 0 TT (E_71 (R := R) N) (drawOk TT QQ) (L_71 N) (bodyOf Try.f71) := loops_nil (by kernel_rfl)
theorem grun_71 {R : Type} (q_70 : Tp_70 R) (q_43 : Tp_43 R) (x : aden ap_71 × hden hp_71) (k : KF R) : fnrun TT (EG_71 q_70 q_43) (drawOk TT QQ) (LG_71) true Try.f71 (instA ap_71 x.1) (instH hp_71 x.2) k = Q_71 q_70 q_43 x (fun y => k (Pat.inst (.vec (.int .u64) 128) y) (instH hp_71 x.2)) := by kernel_rfl
theorem run_71 {R : Type} (N : Nat) (x : aden ap_71 × hden hp_71) (k : KF R) : fnrun TT (E_71 (R := R) N) (drawOk TT QQ) (L_71 N) true Try.f71 (instA ap_71 x.1) (instH hp_71 x.2) k = p_71 N x (fun y => k (Pat.inst (.vec (.int .u64) 128) y) (instH hp_71 x.2)) := (grun_71 (p_70 N) (p_43 N) x k).trans (by kernel_rfl)
theorem good_71 {R : Type} (N : Nat) : GD (X := R) Try.prog QQ 71 ap_71 hp_71 (fun (x : aden ap_71 × hden hp_71) k => p_71 N x (fun y => k (Pat.inst (.vec (.int .u64) 128) y) (instH hp_71 x.2))) :=
  gd_quiet (E := E_71 N) (p := fun (x : aden ap_71 × hden hp_71) κ => p_71 N x (fun y => κ (Pat.inst (.vec (.int .u64) 128) y))) mixed tyok (eok_71 N) Try.func71 (by kernel_rfl) (by kernel_rfl) (lok_71 N) (fun x k => run_71 N x k)

def lv_47_6 : Live := [(0, none), (2, none), (3, none), (4, none), (5, none)]
def pt_47_6 : SPat := ⟨[(0, .ros (.arr 128 (.int .u64))), (2, .ptr 0 []), (3, .ptr 1 []), (4, .int .i64), (5, .int .i64)], [some (.vec (.int .u64) 128, 70), some (.vec (.int .u64) 128, 70)]⟩
def px_47_6_0 : SPat := ⟨[(0, .ros (.arr 128 (.int .u64))), (2, .ptr 0 []), (3, .ptr 1 []), (4, .int .i64)], [some (.vec (.int .u64) 128, 70), some (.vec (.int .u64) 128, 70)]⟩
def lo_47_6 : Exit → Live
  | .exit 2 => [(0, none), (2, none), (3, none), (4, none)]
  | _ => []
def B_47_6 {R : Type} (N : Nat) (rec : (((List (Nat → Int)) × Unit × Unit × Int × Int × Unit) × ((Nat → Int) × (Nat → Int) × Unit)) → Option R) (x : (((List (Nat → Int)) × Unit × Unit × Int × Int × Unit) × ((Nat → Int) × (Nat → Int) × Unit))) (κ0 : (((List (Nat → Int)) × Unit × Unit × Int × Unit) × ((Nat → Int) × (Nat → Int) × Unit)) → Option R) : Option R :=
let l420 : (List (Nat → Int)) := x.1.1
let i421 : Int := x.1.2.2.2.1
let i422 : Int := x.1.2.2.2.2.1
let a423 : (Nat → Int) := x.2.1
let a424 : (Nat → Int) := x.2.2.1
let i425 : Int := (((List.length l420) : Nat) : Int)
bif (decide (i422 < i425)) then (
bif decide (0 ≤ i421) then (
bif decide (i421 < (128 : Int)) then (
let i426 : Int := (a424 ((Int.toNat i421)))
bif decide (0 ≤ i422) then (
bif decide (i422 < ((List.length l420) : Int)) then (
let p427 : (Nat → Int) := (List.getD l420 ((Int.toNat i422)) (Sch.zero (.arr 128 (.int .u64))))
bif decide (0 ≤ i421) then (
bif decide (i421 < (128 : Int)) then (
let i428 : Int := (p427 ((Int.toNat i421)))
let i429 : Int := xorA .u64 i426 i428
bif decide (0 ≤ i421) then (
bif decide (i421 < (128 : Int)) then (
let a430 : (Nat → Int) := (upd a424 ((Int.toNat i421)) i429)
let i431 : Int := addA .i64 i422 1
rec ((l420, (), (), i421, i431, ()), (a423, a430, ()))) else none) else none) else none) else none) else none) else none) else none) else none) else (
κ0 ((l420, (), (), i421, ()), (a423, a424, ())))
def l_47_6 {R : Type} (N : Nat) : Nat → (((List (Nat → Int)) × Unit × Unit × Int × Int × Unit) × ((Nat → Int) × (Nat → Int) × Unit)) → ((((List (Nat → Int)) × Unit × Unit × Int × Unit) × ((Nat → Int) × (Nat → Int) × Unit)) → Option R) → Option R
  | 0, _, _ => none
  | n + 1, x, κ0 => B_47_6 N (fun y => l_47_6 N n y κ0) x κ0
def lv_47_3 : Live := [(0, none), (2, none), (3, none), (4, none)]
def pt_47_3 : SPat := ⟨[(0, .ros (.arr 128 (.int .u64))), (2, .ptr 0 []), (3, .ptr 1 []), (4, .int .i64)], [some (.vec (.int .u64) 128, 70), some (.vec (.int .u64) 128, 70)]⟩
def px_47_3_0 : SPat := ⟨[(2, .ptr 0 []), (3, .ptr 1 [])], [some (.vec (.int .u64) 128, 70), some (.vec (.int .u64) 128, 70)]⟩
def lo_47_3 : Exit → Live
  | .exit 0 => [(2, none), (3, none)]
  | _ => []
def B_47_3 {R : Type} (N : Nat) (rec : (((List (Nat → Int)) × Unit × Unit × Int × Unit) × ((Nat → Int) × (Nat → Int) × Unit)) → Option R) (x : (((List (Nat → Int)) × Unit × Unit × Int × Unit) × ((Nat → Int) × (Nat → Int) × Unit))) (κ0 : ((Unit × Unit × Unit) × ((Nat → Int) × (Nat → Int) × Unit)) → Option R) : Option R :=
let l416 : (List (Nat → Int)) := x.1.1
let i417 : Int := x.1.2.2.2.1
let a418 : (Nat → Int) := x.2.1
let a419 : (Nat → Int) := x.2.2.1
bif (decide (i417 < 128)) then (
l_47_6 N N ((l416, (), (), i417, 0, ()), (a418, a419, ())) (fun y432 =>
let l433 : (List (Nat → Int)) := y432.1.1
let i434 : Int := y432.1.2.2.2.1
let a435 : (Nat → Int) := y432.2.1
let a436 : (Nat → Int) := y432.2.2.1
let i437 : Int := addA .i64 i434 1
rec ((l433, (), (), i437, ()), (a435, a436, ())))) else (
κ0 (((), (), ()), (a418, a419, ())))
def l_47_3 {R : Type} (N : Nat) : Nat → (((List (Nat → Int)) × Unit × Unit × Int × Unit) × ((Nat → Int) × (Nat → Int) × Unit)) → (((Unit × Unit × Unit) × ((Nat → Int) × (Nat → Int) × Unit)) → Option R) → Option R
  | 0, _, _ => none
  | n + 1, x, κ0 => B_47_3 N (fun y => l_47_3 N n y κ0) x κ0
def ap_47 : List Pat := [.ros (.arr 128 (.int .u64))]
def hp_47 : List (Option (Pat × Nat)) := []
def p_47 {R : Type} (N : Nat) (x : ((List (Nat → Int)) × Unit) × (Unit)) (κ0 : (Nat → Int) → Option R) : Option R :=
let l415 : (List (Nat → Int)) := x.1.1
l_47_3 N N ((l415, (), (), 0, ()), ((Sch.zero (.arr 128 (.int .u64))), (Sch.zero (.arr 128 (.int .u64))), ())) (fun y438 =>
let a439 : (Nat → Int) := y438.2.1
let a440 : (Nat → Int) := y438.2.2.1
κ0 a440)

abbrev Tl_47_6 (R : Type) : Type := (((List (Nat → Int)) × Unit × Unit × Int × Int × Unit) × ((Nat → Int) × (Nat → Int) × Unit)) → ((((List (Nat → Int)) × Unit × Unit × Int × Unit) × ((Nat → Int) × (Nat → Int) × Unit)) → Option R) → Option R
abbrev Tl_47_3 (R : Type) : Type := (((List (Nat → Int)) × Unit × Unit × Int × Unit) × ((Nat → Int) × (Nat → Int) × Unit)) → (((Unit × Unit × Unit) × ((Nat → Int) × (Nat → Int) × Unit)) → Option R) → Option R
abbrev Tp_47 (R : Type) : Type := ((List (Nat → Int)) × Unit) × (Unit) → ((Nat → Int) → Option R) → Option R
def Q_47 {R : Type} (m_47_6 : Tl_47_6 R) (m_47_3 : Tl_47_3 R) (x : ((List (Nat → Int)) × Unit) × (Unit)) (κ0 : (Nat → Int) → Option R) : Option R :=
let l415 : (List (Nat → Int)) := x.1.1
m_47_3 ((l415, (), (), 0, ()), ((Sch.zero (.arr 128 (.int .u64))), (Sch.zero (.arr 128 (.int .u64))), ())) (fun y438 =>
let a439 : (Nat → Int) := y438.2.1
let a440 : (Nat → Int) := y438.2.2.1
κ0 a440)
def C_47_6 {R : Type} (m_47_6 : Tl_47_6 R) (m_47_3 : Tl_47_3 R) (rec : (((List (Nat → Int)) × Unit × Unit × Int × Int × Unit) × ((Nat → Int) × (Nat → Int) × Unit)) → Option R) (x : (((List (Nat → Int)) × Unit × Unit × Int × Int × Unit) × ((Nat → Int) × (Nat → Int) × Unit))) (κ0 : (((List (Nat → Int)) × Unit × Unit × Int × Unit) × ((Nat → Int) × (Nat → Int) × Unit)) → Option R) : Option R :=
let l420 : (List (Nat → Int)) := x.1.1
let i421 : Int := x.1.2.2.2.1
let i422 : Int := x.1.2.2.2.2.1
let a423 : (Nat → Int) := x.2.1
let a424 : (Nat → Int) := x.2.2.1
let i425 : Int := (((List.length l420) : Nat) : Int)
bif (decide (i422 < i425)) then (
bif decide (0 ≤ i421) then (
bif decide (i421 < (128 : Int)) then (
let i426 : Int := (a424 ((Int.toNat i421)))
bif decide (0 ≤ i422) then (
bif decide (i422 < ((List.length l420) : Int)) then (
let p427 : (Nat → Int) := (List.getD l420 ((Int.toNat i422)) (Sch.zero (.arr 128 (.int .u64))))
bif decide (0 ≤ i421) then (
bif decide (i421 < (128 : Int)) then (
let i428 : Int := (p427 ((Int.toNat i421)))
let i429 : Int := xorA .u64 i426 i428
bif decide (0 ≤ i421) then (
bif decide (i421 < (128 : Int)) then (
let a430 : (Nat → Int) := (upd a424 ((Int.toNat i421)) i429)
let i431 : Int := addA .i64 i422 1
rec ((l420, (), (), i421, i431, ()), (a423, a430, ()))) else none) else none) else none) else none) else none) else none) else none) else none) else (
κ0 ((l420, (), (), i421, ()), (a423, a424, ())))
def C_47_3 {R : Type} (m_47_6 : Tl_47_6 R) (m_47_3 : Tl_47_3 R) (rec : (((List (Nat → Int)) × Unit × Unit × Int × Unit) × ((Nat → Int) × (Nat → Int) × Unit)) → Option R) (x : (((List (Nat → Int)) × Unit × Unit × Int × Unit) × ((Nat → Int) × (Nat → Int) × Unit))) (κ0 : ((Unit × Unit × Unit) × ((Nat → Int) × (Nat → Int) × Unit)) → Option R) : Option R :=
let l416 : (List (Nat → Int)) := x.1.1
let i417 : Int := x.1.2.2.2.1
let a418 : (Nat → Int) := x.2.1
let a419 : (Nat → Int) := x.2.2.1
bif (decide (i417 < 128)) then (
m_47_6 ((l416, (), (), i417, 0, ()), (a418, a419, ())) (fun y432 =>
let l433 : (List (Nat → Int)) := y432.1.1
let i434 : Int := y432.1.2.2.2.1
let a435 : (Nat → Int) := y432.2.1
let a436 : (Nat → Int) := y432.2.2.1
let i437 : Int := addA .i64 i434 1
rec ((l433, (), (), i437, ()), (a435, a436, ())))) else (
κ0 (((), (), ()), (a418, a419, ())))
def EG_47 {R : Type} : Env R := Env.base QQ LN
def LG_47 {R : Type} (m_47_6 : Tl_47_6 R) (m_47_3 : Tl_47_3 R) : Loops R := ((Loops.none).add 6 (loopBy 0 lv_47_6 pt_47_6 (fun x k => m_47_6 x (fun y => k (.exit 2) (px_47_6_0.inst y))))).add 3 (loopBy 0 lv_47_3 pt_47_3 (fun x k => m_47_3 x (fun y => k (.exit 0) (px_47_3_0.inst y))))
def E_47 {R : Type} (N : Nat) : Env R := EG_47
theorem eok_47 {R : Type} (N : Nat) : EK Try.prog (E_47 (R := R) N) := ek_base _ _
def L_47 {R : Type} (N : Nat) : Loops R := LG_47 (l_47_6 N N) (l_47_3 N N)
theorem gstep_47_6 {R : Type} (m_47_6 : Tl_47_6 R) (m_47_3 : Tl_47_3 R) (n : Nat) (x : pt_47_6.den) (k : Exit → St → Option R) : iter 0 lv_47_6 lo_47_6 (aexec TT (EG_47) (drawOk TT QQ) (LG_47 m_47_6 m_47_3) (loopAt 6 (bodyOf Try.f47))) (n + 1) (pt_47_6.inst x) k = C_47_6 m_47_6 m_47_3 (fun y => iter 0 lv_47_6 lo_47_6 (aexec TT (EG_47) (drawOk TT QQ) (LG_47 m_47_6 m_47_3) (loopAt 6 (bodyOf Try.f47))) n (pt_47_6.inst y) k) x (fun y => k (.exit 2) (px_47_6_0.inst y)) := by kernel_rfl
theorem step_47_6 {R : Type} (N n : Nat) (x : pt_47_6.den) (k : Exit → St → Option R) : iter 0 lv_47_6 lo_47_6 (aexec TT (E_47 (R := R) N) (drawOk TT QQ) (L_47 N) (loopAt 6 (bodyOf Try.f47))) (n + 1) (pt_47_6.inst x) k = B_47_6 N (fun y => iter 0 lv_47_6 lo_47_6 (aexec TT (E_47 (R := R) N) (drawOk TT QQ) (L_47 N) (loopAt 6 (bodyOf Try.f47))) n (pt_47_6.inst y) k) x (fun y => k (.exit 2) (px_47_6_0.inst y)) := (gstep_47_6 (l_47_6 N N) (l_47_3 N N) n x k).trans (by kernel_rfl)
theorem eq_47_6 {R : Type} (N : Nat) : ∀ (n : Nat) (x : pt_47_6.den) (k : Exit → St → Option R), iter 0 lv_47_6 lo_47_6 (aexec TT (E_47 (R := R) N) (drawOk TT QQ) (L_47 N) (loopAt 6 (bodyOf Try.f47))) n (pt_47_6.inst x) k = l_47_6 N n x (fun y => k (.exit 2) (px_47_6_0.inst y)) :=
  iter_eq (K := Exit → St → Option R) (ks := fun k => k) (l := fun n (x : pt_47_6.den) k => l_47_6 N n x (fun y => k (.exit 2) (px_47_6_0.inst y))) (B := fun (rec : pt_47_6.den → Option R) (x : pt_47_6.den) k => B_47_6 N rec x (fun y => k (.exit 2) (px_47_6_0.inst y))) (fun _ _ => rfl) (fun _ _ _ => rfl) (fun n x k => step_47_6 N n x k)
theorem rounds_47_6 {R : Type} (N : Nat) : Rounds 0 TT (E_47 (R := R) N) (drawOk TT QQ) (L_47 N) 6 (loopAt 6 (bodyOf Try.f47)) :=
  rounds_of (p := pt_47_6) (l := fun (x : pt_47_6.den) k => l_47_6 N N x (fun y => k (.exit 2) (px_47_6_0.inst y))) (fun s k => rfl) (fun x k => eq_47_6 N N x k)
theorem gstep_47_3 {R : Type} (m_47_6 : Tl_47_6 R) (m_47_3 : Tl_47_3 R) (n : Nat) (x : pt_47_3.den) (k : Exit → St → Option R) : iter 0 lv_47_3 lo_47_3 (aexec TT (EG_47) (drawOk TT QQ) (LG_47 m_47_6 m_47_3) (loopAt 3 (bodyOf Try.f47))) (n + 1) (pt_47_3.inst x) k = C_47_3 m_47_6 m_47_3 (fun y => iter 0 lv_47_3 lo_47_3 (aexec TT (EG_47) (drawOk TT QQ) (LG_47 m_47_6 m_47_3) (loopAt 3 (bodyOf Try.f47))) n (pt_47_3.inst y) k) x (fun y => k (.exit 0) (px_47_3_0.inst y)) := by kernel_rfl
theorem step_47_3 {R : Type} (N n : Nat) (x : pt_47_3.den) (k : Exit → St → Option R) : iter 0 lv_47_3 lo_47_3 (aexec TT (E_47 (R := R) N) (drawOk TT QQ) (L_47 N) (loopAt 3 (bodyOf Try.f47))) (n + 1) (pt_47_3.inst x) k = B_47_3 N (fun y => iter 0 lv_47_3 lo_47_3 (aexec TT (E_47 (R := R) N) (drawOk TT QQ) (L_47 N) (loopAt 3 (bodyOf Try.f47))) n (pt_47_3.inst y) k) x (fun y => k (.exit 0) (px_47_3_0.inst y)) := (gstep_47_3 (l_47_6 N N) (l_47_3 N N) n x k).trans (by kernel_rfl)
theorem eq_47_3 {R : Type} (N : Nat) : ∀ (n : Nat) (x : pt_47_3.den) (k : Exit → St → Option R), iter 0 lv_47_3 lo_47_3 (aexec TT (E_47 (R := R) N) (drawOk TT QQ) (L_47 N) (loopAt 3 (bodyOf Try.f47))) n (pt_47_3.inst x) k = l_47_3 N n x (fun y => k (.exit 0) (px_47_3_0.inst y)) :=
  iter_eq (K := Exit → St → Option R) (ks := fun k => k) (l := fun n (x : pt_47_3.den) k => l_47_3 N n x (fun y => k (.exit 0) (px_47_3_0.inst y))) (B := fun (rec : pt_47_3.den → Option R) (x : pt_47_3.den) k => B_47_3 N rec x (fun y => k (.exit 0) (px_47_3_0.inst y))) (fun _ _ => rfl) (fun _ _ _ => rfl) (fun n x k => step_47_3 N n x k)
theorem rounds_47_3 {R : Type} (N : Nat) : Rounds 0 TT (E_47 (R := R) N) (drawOk TT QQ) (L_47 N) 3 (loopAt 3 (bodyOf Try.f47)) :=
  rounds_of (p := pt_47_3) (l := fun (x : pt_47_3.den) k => l_47_3 N N x (fun y => k (.exit 0) (px_47_3_0.inst y))) (fun s k => rfl) (fun x k => eq_47_3 N N x k)
theorem loops_47 : loopsIn (bodyOf Try.f47) = [(3, loopAt 3 (bodyOf Try.f47)), (6, loopAt 6 (bodyOf Try.f47))] := by kernel_rfl
theorem lok_47 {R : Type} (N : Nat) : LOK 0 TT (E_47 (R := R) N) (drawOk TT QQ) (L_47 N) (bodyOf Try.f47) := loops_all loops_47 (by
  simp only [List.forall_mem_cons, List.not_mem_nil, false_implies, implies_true, and_true]
  exact ⟨rounds_47_3 N, rounds_47_6 N⟩)
theorem grun_47 {R : Type} (m_47_6 : Tl_47_6 R) (m_47_3 : Tl_47_3 R) (x : aden ap_47 × hden hp_47) (k : KF R) : fnrun TT (EG_47) (drawOk TT QQ) (LG_47 m_47_6 m_47_3) true Try.f47 (instA ap_47 x.1) (instH hp_47 x.2) k = Q_47 m_47_6 m_47_3 x (fun y => k (Pat.inst (.vec (.int .u64) 128) y) (instH hp_47 x.2)) := by kernel_rfl
theorem run_47 {R : Type} (N : Nat) (x : aden ap_47 × hden hp_47) (k : KF R) : fnrun TT (E_47 (R := R) N) (drawOk TT QQ) (L_47 N) true Try.f47 (instA ap_47 x.1) (instH hp_47 x.2) k = p_47 N x (fun y => k (Pat.inst (.vec (.int .u64) 128) y) (instH hp_47 x.2)) := (grun_47 (l_47_6 N N) (l_47_3 N N) x k).trans (by kernel_rfl)
theorem good_47 {R : Type} (N : Nat) : GD (X := R) Try.prog QQ 47 ap_47 hp_47 (fun (x : aden ap_47 × hden hp_47) k => p_47 N x (fun y => k (Pat.inst (.vec (.int .u64) 128) y) (instH hp_47 x.2))) :=
  gd_quiet (E := E_47 N) (p := fun (x : aden ap_47 × hden hp_47) κ => p_47 N x (fun y => κ (Pat.inst (.vec (.int .u64) 128) y))) mixed tyok (eok_47 N) Try.func47 (by kernel_rfl) (by kernel_rfl) (lok_47 N) (fun x k => run_47 N x k)

def ap_91 : List Pat := [.int .u64, .int .u64]
def hp_91 : List (Option (Pat × Nat)) := []
def p_91 {R : Type} (N : Nat) (x : (Int × Int × Unit) × (Unit)) (κ0 : Int → Option R) : Option R :=
let i517 : Int := x.1.1
let i518 : Int := x.1.2.1
let i519 : Int := addA .u64 i517 i518
let i520 : Int := remA .u64 i517 4294967296
let i521 : Int := mulA .u64 2 i520
let i522 : Int := remA .u64 i518 4294967296
let i523 : Int := mulA .u64 i521 i522
let i524 : Int := addA .u64 i519 i523
κ0 i524

abbrev Tp_91 (R : Type) : Type := (Int × Int × Unit) × (Unit) → (Int → Option R) → Option R
def Q_91 {R : Type} (x : (Int × Int × Unit) × (Unit)) (κ0 : Int → Option R) : Option R :=
let i517 : Int := x.1.1
let i518 : Int := x.1.2.1
let i519 : Int := addA .u64 i517 i518
let i520 : Int := remA .u64 i517 4294967296
let i521 : Int := mulA .u64 2 i520
let i522 : Int := remA .u64 i518 4294967296
let i523 : Int := mulA .u64 i521 i522
let i524 : Int := addA .u64 i519 i523
κ0 i524
def EG_91 {R : Type} : Env R := Env.base QQ LN
def LG_91 {R : Type} : Loops R := Loops.none
def E_91 {R : Type} (N : Nat) : Env R := EG_91
theorem eok_91 {R : Type} (N : Nat) : EK Try.prog (E_91 (R := R) N) := ek_base _ _
def L_91 {R : Type} (N : Nat) : Loops R := LG_91
theorem lok_91 {R : Type} (N : Nat) : LOK 0 TT (E_91 (R := R) N) (drawOk TT QQ) (L_91 N) (bodyOf Try.f91) := loops_nil (by kernel_rfl)
theorem grun_91 {R : Type} (x : aden ap_91 × hden hp_91) (k : KF R) : fnrun TT (EG_91) (drawOk TT QQ) (LG_91) true Try.f91 (instA ap_91 x.1) (instH hp_91 x.2) k = Q_91 x (fun y => k (Pat.inst (.int .u64) y) (instH hp_91 x.2)) := by kernel_rfl
theorem run_91 {R : Type} (N : Nat) (x : aden ap_91 × hden hp_91) (k : KF R) : fnrun TT (E_91 (R := R) N) (drawOk TT QQ) (L_91 N) true Try.f91 (instA ap_91 x.1) (instH hp_91 x.2) k = p_91 N x (fun y => k (Pat.inst (.int .u64) y) (instH hp_91 x.2)) := (grun_91 x k).trans (by kernel_rfl)
theorem good_91 {R : Type} (N : Nat) : GD (X := R) Try.prog QQ 91 ap_91 hp_91 (fun (x : aden ap_91 × hden hp_91) k => p_91 N x (fun y => k (Pat.inst (.int .u64) y) (instH hp_91 x.2))) :=
  gd_quiet (E := E_91 N) (p := fun (x : aden ap_91 × hden hp_91) κ => p_91 N x (fun y => κ (Pat.inst (.int .u64) y))) mixed tyok (eok_91 N) Try.func91 (by kernel_rfl) (by kernel_rfl) (lok_91 N) (fun x k => run_91 N x k)

def ap_92 : List Pat := [.int .u64, .int .u64, .int .u64]
def hp_92 : List (Option (Pat × Nat)) := []
def p_92 {R : Type} (N : Nat) (x : (Int × Int × Int × Unit) × (Unit)) (κ0 : Int → Option R) : Option R :=
let i531 : Int := x.1.1
let i532 : Int := x.1.2.1
let i533 : Int := x.1.2.2.1
bif decide (i532 = 0) then none else (
let i534 : Int := quoA .u64 i531 i532
bif decide (i532 = 0) then none else (
let i535 : Int := remA .u64 i531 i532
let i536 : Int := mulA .u64 i535 i533
let i537 : Int := addA .u64 i534 i536
κ0 i537))

abbrev Tp_92 (R : Type) : Type := (Int × Int × Int × Unit) × (Unit) → (Int → Option R) → Option R
def Q_92 {R : Type} (x : (Int × Int × Int × Unit) × (Unit)) (κ0 : Int → Option R) : Option R :=
let i531 : Int := x.1.1
let i532 : Int := x.1.2.1
let i533 : Int := x.1.2.2.1
bif decide (i532 = 0) then none else (
let i534 : Int := quoA .u64 i531 i532
bif decide (i532 = 0) then none else (
let i535 : Int := remA .u64 i531 i532
let i536 : Int := mulA .u64 i535 i533
let i537 : Int := addA .u64 i534 i536
κ0 i537))
def EG_92 {R : Type} : Env R := Env.base QQ LN
def LG_92 {R : Type} : Loops R := Loops.none
def E_92 {R : Type} (N : Nat) : Env R := EG_92
theorem eok_92 {R : Type} (N : Nat) : EK Try.prog (E_92 (R := R) N) := ek_base _ _
def L_92 {R : Type} (N : Nat) : Loops R := LG_92
theorem lok_92 {R : Type} (N : Nat) : LOK 0 TT (E_92 (R := R) N) (drawOk TT QQ) (L_92 N) (bodyOf Try.f92) := loops_nil (by kernel_rfl)
theorem grun_92 {R : Type} (x : aden ap_92 × hden hp_92) (k : KF R) : fnrun TT (EG_92) (drawOk TT QQ) (LG_92) true Try.f92 (instA ap_92 x.1) (instH hp_92 x.2) k = Q_92 x (fun y => k (Pat.inst (.int .u64) y) (instH hp_92 x.2)) := by kernel_rfl
theorem run_92 {R : Type} (N : Nat) (x : aden ap_92 × hden hp_92) (k : KF R) : fnrun TT (E_92 (R := R) N) (drawOk TT QQ) (L_92 N) true Try.f92 (instA ap_92 x.1) (instH hp_92 x.2) k = p_92 N x (fun y => k (Pat.inst (.int .u64) y) (instH hp_92 x.2)) := (grun_92 x k).trans (by kernel_rfl)
theorem good_92 {R : Type} (N : Nat) : GD (X := R) Try.prog QQ 92 ap_92 hp_92 (fun (x : aden ap_92 × hden hp_92) k => p_92 N x (fun y => k (Pat.inst (.int .u64) y) (instH hp_92 x.2))) :=
  gd_quiet (E := E_92 N) (p := fun (x : aden ap_92 × hden hp_92) κ => p_92 N x (fun y => κ (Pat.inst (.int .u64) y))) mixed tyok (eok_92 N) Try.func92 (by kernel_rfl) (by kernel_rfl) (lok_92 N) (fun x k => run_92 N x k)

def ap_39 : List Pat := [.vec (.int .u64) 4]
def hp_39 : List (Option (Pat × Nat)) := []
def p_39 {R : Type} (N : Nat) (x : ((Nat → Int) × Unit) × (Unit)) (κ0 : (Nat → Int) → Option R) : Option R :=
let a514 : (Nat → Int) := x.1.1
let i515 : Int := (a514 0)
let i516 : Int := (a514 1)
p_91 N ((i515, i516, ()), ()) (fun y525 =>
let i526 : Int := y525
let a527 : (Nat → Int) := (upd a514 0 i526)
let i528 : Int := (a527 3)
let i529 : Int := (a527 0)
let i530 : Int := xorA .u64 i528 i529
p_92 N ((i530, 4294967296, 4294967296, ()), ()) (fun y538 =>
let i539 : Int := y538
let a540 : (Nat → Int) := (upd a527 3 i539)
let i541 : Int := (a540 2)
let i542 : Int := (a540 3)
p_91 N ((i541, i542, ()), ()) (fun y543 =>
let i544 : Int := y543
let a545 : (Nat → Int) := (upd a540 2 i544)
let i546 : Int := (a545 1)
let i547 : Int := (a545 2)
let i548 : Int := xorA .u64 i546 i547
p_92 N ((i548, 16777216, 1099511627776, ()), ()) (fun y549 =>
let i550 : Int := y549
let a551 : (Nat → Int) := (upd a545 1 i550)
let i552 : Int := (a551 0)
let i553 : Int := (a551 1)
p_91 N ((i552, i553, ()), ()) (fun y554 =>
let i555 : Int := y554
let a556 : (Nat → Int) := (upd a551 0 i555)
let i557 : Int := (a556 3)
let i558 : Int := (a556 0)
let i559 : Int := xorA .u64 i557 i558
p_92 N ((i559, 65536, 281474976710656, ()), ()) (fun y560 =>
let i561 : Int := y560
let a562 : (Nat → Int) := (upd a556 3 i561)
let i563 : Int := (a562 2)
let i564 : Int := (a562 3)
p_91 N ((i563, i564, ()), ()) (fun y565 =>
let i566 : Int := y565
let a567 : (Nat → Int) := (upd a562 2 i566)
let i568 : Int := (a567 1)
let i569 : Int := (a567 2)
let i570 : Int := xorA .u64 i568 i569
p_92 N ((i570, 9223372036854775808, 2, ()), ()) (fun y571 =>
let i572 : Int := y571
let a573 : (Nat → Int) := (upd a567 1 i572)
κ0 a573))))))))

abbrev Tp_39 (R : Type) : Type := ((Nat → Int) × Unit) × (Unit) → ((Nat → Int) → Option R) → Option R
def Q_39 {R : Type} (q_91 : Tp_91 R) (q_92 : Tp_92 R) (x : ((Nat → Int) × Unit) × (Unit)) (κ0 : (Nat → Int) → Option R) : Option R :=
let a514 : (Nat → Int) := x.1.1
let i515 : Int := (a514 0)
let i516 : Int := (a514 1)
q_91 ((i515, i516, ()), ()) (fun y525 =>
let i526 : Int := y525
let a527 : (Nat → Int) := (upd a514 0 i526)
let i528 : Int := (a527 3)
let i529 : Int := (a527 0)
let i530 : Int := xorA .u64 i528 i529
q_92 ((i530, 4294967296, 4294967296, ()), ()) (fun y538 =>
let i539 : Int := y538
let a540 : (Nat → Int) := (upd a527 3 i539)
let i541 : Int := (a540 2)
let i542 : Int := (a540 3)
q_91 ((i541, i542, ()), ()) (fun y543 =>
let i544 : Int := y543
let a545 : (Nat → Int) := (upd a540 2 i544)
let i546 : Int := (a545 1)
let i547 : Int := (a545 2)
let i548 : Int := xorA .u64 i546 i547
q_92 ((i548, 16777216, 1099511627776, ()), ()) (fun y549 =>
let i550 : Int := y549
let a551 : (Nat → Int) := (upd a545 1 i550)
let i552 : Int := (a551 0)
let i553 : Int := (a551 1)
q_91 ((i552, i553, ()), ()) (fun y554 =>
let i555 : Int := y554
let a556 : (Nat → Int) := (upd a551 0 i555)
let i557 : Int := (a556 3)
let i558 : Int := (a556 0)
let i559 : Int := xorA .u64 i557 i558
q_92 ((i559, 65536, 281474976710656, ()), ()) (fun y560 =>
let i561 : Int := y560
let a562 : (Nat → Int) := (upd a556 3 i561)
let i563 : Int := (a562 2)
let i564 : Int := (a562 3)
q_91 ((i563, i564, ()), ()) (fun y565 =>
let i566 : Int := y565
let a567 : (Nat → Int) := (upd a562 2 i566)
let i568 : Int := (a567 1)
let i569 : Int := (a567 2)
let i570 : Int := xorA .u64 i568 i569
q_92 ((i570, 9223372036854775808, 2, ()), ()) (fun y571 =>
let i572 : Int := y571
let a573 : (Nat → Int) := (upd a567 1 i572)
κ0 a573))))))))
def EG_39 {R : Type} (q_91 : Tp_91 R) (q_92 : Tp_92 R) : Env R := ((Env.base QQ LN).add 91 ap_91 hp_91 (fun (x : aden ap_91 × hden hp_91) k => q_91 x (fun y => k (Pat.inst (.int .u64) y) (instH hp_91 x.2)))).add 92 ap_92 hp_92 (fun (x : aden ap_92 × hden hp_92) k => q_92 x (fun y => k (Pat.inst (.int .u64) y) (instH hp_92 x.2)))
def LG_39 {R : Type} : Loops R := Loops.none
def E_39 {R : Type} (N : Nat) : Env R := EG_39 (p_91 N) (p_92 N)
theorem eok_39 {R : Type} (N : Nat) : EK Try.prog (E_39 (R := R) N) := ek_add (ek_add (ek_base _ _) (good_91 N)) (good_92 N)
def L_39 {R : Type} (N : Nat) : Loops R := LG_39
theorem lok_39 {R : Type} (N : Nat) : LOK 0 TT (E_39 (R := R) N) (drawOk TT QQ) (L_39 N) (bodyOf Try.f39) := loops_nil (by kernel_rfl)
theorem grun_39 {R : Type} (q_91 : Tp_91 R) (q_92 : Tp_92 R) (x : aden ap_39 × hden hp_39) (k : KF R) : fnrun TT (EG_39 q_91 q_92) (drawOk TT QQ) (LG_39) true Try.f39 (instA ap_39 x.1) (instH hp_39 x.2) k = Q_39 q_91 q_92 x (fun y => k (Pat.inst (.vec (.int .u64) 4) y) (instH hp_39 x.2)) := by kernel_rfl
theorem run_39 {R : Type} (N : Nat) (x : aden ap_39 × hden hp_39) (k : KF R) : fnrun TT (E_39 (R := R) N) (drawOk TT QQ) (L_39 N) true Try.f39 (instA ap_39 x.1) (instH hp_39 x.2) k = p_39 N x (fun y => k (Pat.inst (.vec (.int .u64) 4) y) (instH hp_39 x.2)) := (grun_39 (p_91 N) (p_92 N) x k).trans (by kernel_rfl)
theorem good_39 {R : Type} (N : Nat) : GD (X := R) Try.prog QQ 39 ap_39 hp_39 (fun (x : aden ap_39 × hden hp_39) k => p_39 N x (fun y => k (Pat.inst (.vec (.int .u64) 4) y) (instH hp_39 x.2))) :=
  gd_quiet (E := E_39 N) (p := fun (x : aden ap_39 × hden hp_39) κ => p_39 N x (fun y => κ (Pat.inst (.vec (.int .u64) 4) y))) mixed tyok (eok_39 N) Try.func39 (by kernel_rfl) (by kernel_rfl) (lok_39 N) (fun x k => run_39 N x k)

def lv_41_7 : Live := [(1, none), (2, none), (3, none), (4, none), (5, none), (6, none)]
def pt_41_7 : SPat := ⟨[(1, .ptr 0 []), (2, .ptr 1 []), (3, .int .i64), (4, .ptr 2 []), (5, .ptr 3 []), (6, .int .i64)], [some (.vec (.int .u64) 16, 62), some (.vec (.int .u64) 16, 62), some (.vec (.int .i64) 4, 104), some (.vec (.int .u64) 4, 65)]⟩
def px_41_7_0 : SPat := ⟨[(1, .ptr 0 []), (2, .ptr 1 []), (3, .int .i64), (4, .ptr 2 []), (5, .ptr 3 [])], [some (.vec (.int .u64) 16, 62), some (.vec (.int .u64) 16, 62), some (.vec (.int .i64) 4, 104), some (.vec (.int .u64) 4, 65)]⟩
def lo_41_7 : Exit → Live
  | .exit 2 => [(1, none), (2, none), (3, none), (4, none), (5, none)]
  | _ => []
def B_41_7 {R : Type} (N : Nat) (rec : ((Unit × Unit × Int × Unit × Unit × Int × Unit) × ((Nat → Int) × (Nat → Int) × (Nat → Int) × (Nat → Int) × Unit)) → Option R) (x : ((Unit × Unit × Int × Unit × Unit × Int × Unit) × ((Nat → Int) × (Nat → Int) × (Nat → Int) × (Nat → Int) × Unit))) (κ0 : ((Unit × Unit × Int × Unit × Unit × Unit) × ((Nat → Int) × (Nat → Int) × (Nat → Int) × (Nat → Int) × Unit)) → Option R) : Option R :=
let i485 : Int := x.1.2.2.1
let i486 : Int := x.1.2.2.2.2.2.1
let a487 : (Nat → Int) := x.2.1
let a488 : (Nat → Int) := x.2.2.1
let a489 : (Nat → Int) := x.2.2.2.1
let a490 : (Nat → Int) := x.2.2.2.2.1
bif (decide (i486 < 4)) then (
let i491 : Int := mulA .i64 4 i486
let i492 : Int := remA .i64 i485 4
let i493 : Int := addA .i64 i491 i492
bif decide (0 ≤ i486) then (
bif decide (i486 < (4 : Int)) then (
let a494 : (Nat → Int) := (upd a489 ((Int.toNat i486)) i493)
bif (decide (i485 ≥ 4)) then (
let i495 : Int := mulA .i64 4 i486
let i496 : Int := addA .i64 i485 i486
let i497 : Int := remA .i64 i496 4
let i498 : Int := addA .i64 i495 i497
bif decide (0 ≤ i486) then (
bif decide (i486 < (4 : Int)) then (
let a499 : (Nat → Int) := (upd a494 ((Int.toNat i486)) i498)
bif decide (0 ≤ i486) then (
bif decide (i486 < (4 : Int)) then (
let i500 : Int := (a499 ((Int.toNat i486)))
bif decide (0 ≤ i500) then (
bif decide (i500 < (16 : Int)) then (
let i501 : Int := (a487 ((Int.toNat i500)))
bif decide (0 ≤ i486) then (
bif decide (i486 < (4 : Int)) then (
let a502 : (Nat → Int) := (upd a490 ((Int.toNat i486)) i501)
let i503 : Int := addA .i64 i486 1
rec (((), (), i485, (), (), i503, ()), (a487, a488, a499, a502, ()))) else none) else none) else none) else none) else none) else none) else none) else none) else (
bif decide (0 ≤ i486) then (
bif decide (i486 < (4 : Int)) then (
let i504 : Int := (a494 ((Int.toNat i486)))
bif decide (0 ≤ i504) then (
bif decide (i504 < (16 : Int)) then (
let i505 : Int := (a487 ((Int.toNat i504)))
bif decide (0 ≤ i486) then (
bif decide (i486 < (4 : Int)) then (
let a506 : (Nat → Int) := (upd a490 ((Int.toNat i486)) i505)
let i507 : Int := addA .i64 i486 1
rec (((), (), i485, (), (), i507, ()), (a487, a488, a494, a506, ()))) else none) else none) else none) else none) else none) else none)) else none) else none) else (
κ0 (((), (), i485, (), (), ()), (a487, a488, a489, a490, ())))
def l_41_7 {R : Type} (N : Nat) : Nat → ((Unit × Unit × Int × Unit × Unit × Int × Unit) × ((Nat → Int) × (Nat → Int) × (Nat → Int) × (Nat → Int) × Unit)) → (((Unit × Unit × Int × Unit × Unit × Unit) × ((Nat → Int) × (Nat → Int) × (Nat → Int) × (Nat → Int) × Unit)) → Option R) → Option R
  | 0, _, _ => none
  | n + 1, x, κ0 => B_41_7 N (fun y => l_41_7 N n y κ0) x κ0
def lv_41_15 : Live := [(1, none), (2, none), (3, none), (4, none), (5, none), (7, none)]
def pt_41_15 : SPat := ⟨[(1, .ptr 0 []), (2, .ptr 1 []), (3, .int .i64), (4, .ptr 2 []), (5, .ptr 3 []), (7, .int .i64)], [some (.vec (.int .u64) 16, 62), some (.vec (.int .u64) 16, 62), some (.vec (.int .i64) 4, 104), some (.vec (.int .u64) 4, 65)]⟩
def px_41_15_0 : SPat := ⟨[(1, .ptr 0 []), (2, .ptr 1 []), (3, .int .i64)], [some (.vec (.int .u64) 16, 62), some (.vec (.int .u64) 16, 62)]⟩
def lo_41_15 : Exit → Live
  | .exit 4 => [(1, none), (2, none), (3, none)]
  | _ => []
def B_41_15 {R : Type} (N : Nat) (rec : ((Unit × Unit × Int × Unit × Unit × Int × Unit) × ((Nat → Int) × (Nat → Int) × (Nat → Int) × (Nat → Int) × Unit)) → Option R) (x : ((Unit × Unit × Int × Unit × Unit × Int × Unit) × ((Nat → Int) × (Nat → Int) × (Nat → Int) × (Nat → Int) × Unit))) (κ0 : ((Unit × Unit × Int × Unit) × ((Nat → Int) × (Nat → Int) × Unit)) → Option R) : Option R :=
let i576 : Int := x.1.2.2.1
let i577 : Int := x.1.2.2.2.2.2.1
let a578 : (Nat → Int) := x.2.1
let a579 : (Nat → Int) := x.2.2.1
let a580 : (Nat → Int) := x.2.2.2.1
let a581 : (Nat → Int) := x.2.2.2.2.1
bif (decide (i577 < 4)) then (
bif decide (0 ≤ i577) then (
bif decide (i577 < (4 : Int)) then (
let i582 : Int := (a580 ((Int.toNat i577)))
bif decide (0 ≤ i577) then (
bif decide (i577 < (4 : Int)) then (
let i583 : Int := (a581 ((Int.toNat i577)))
bif decide (0 ≤ i582) then (
bif decide (i582 < (16 : Int)) then (
let a584 : (Nat → Int) := (upd a578 ((Int.toNat i582)) i583)
let i585 : Int := addA .i64 i577 1
rec (((), (), i576, (), (), i585, ()), (a584, a579, a580, a581, ()))) else none) else none) else none) else none) else none) else none) else (
κ0 (((), (), i576, ()), (a578, a579, ())))
def l_41_15 {R : Type} (N : Nat) : Nat → ((Unit × Unit × Int × Unit × Unit × Int × Unit) × ((Nat → Int) × (Nat → Int) × (Nat → Int) × (Nat → Int) × Unit)) → (((Unit × Unit × Int × Unit) × ((Nat → Int) × (Nat → Int) × Unit)) → Option R) → Option R
  | 0, _, _ => none
  | n + 1, x, κ0 => B_41_15 N (fun y => l_41_15 N n y κ0) x κ0
def lv_41_2 : Live := [(1, none), (2, none), (3, none)]
def pt_41_2 : SPat := ⟨[(1, .ptr 0 []), (2, .ptr 1 []), (3, .int .i64)], [some (.vec (.int .u64) 16, 62), some (.vec (.int .u64) 16, 62)]⟩
def px_41_2_0 : SPat := ⟨[(1, .ptr 0 []), (2, .ptr 1 [])], [some (.vec (.int .u64) 16, 62), some (.vec (.int .u64) 16, 62)]⟩
def lo_41_2 : Exit → Live
  | .exit 0 => [(1, none), (2, none)]
  | _ => []
def B_41_2 {R : Type} (N : Nat) (rec : ((Unit × Unit × Int × Unit) × ((Nat → Int) × (Nat → Int) × Unit)) → Option R) (x : ((Unit × Unit × Int × Unit) × ((Nat → Int) × (Nat → Int) × Unit))) (κ0 : ((Unit × Unit × Unit) × ((Nat → Int) × (Nat → Int) × Unit)) → Option R) : Option R :=
let i482 : Int := x.1.2.2.1
let a483 : (Nat → Int) := x.2.1
let a484 : (Nat → Int) := x.2.2.1
bif (decide (i482 < 8)) then (
l_41_7 N N (((), (), i482, (), (), 0, ()), (a483, a484, (Sch.zero (.arr 4 (.int .i64))), (Sch.zero (.arr 4 (.int .u64))), ())) (fun y508 =>
let i509 : Int := y508.1.2.2.1
let a510 : (Nat → Int) := y508.2.1
let a511 : (Nat → Int) := y508.2.2.1
let a512 : (Nat → Int) := y508.2.2.2.1
let a513 : (Nat → Int) := y508.2.2.2.2.1
p_39 N ((a513, ()), ()) (fun y574 =>
let a575 : (Nat → Int) := y574
l_41_15 N N (((), (), i509, (), (), 0, ()), (a510, a511, a512, a575, ())) (fun y586 =>
let i587 : Int := y586.1.2.2.1
let a588 : (Nat → Int) := y586.2.1
let a589 : (Nat → Int) := y586.2.2.1
let i590 : Int := addA .i64 i587 1
rec (((), (), i590, ()), (a588, a589, ())))))) else (
κ0 (((), (), ()), (a483, a484, ())))
def l_41_2 {R : Type} (N : Nat) : Nat → ((Unit × Unit × Int × Unit) × ((Nat → Int) × (Nat → Int) × Unit)) → (((Unit × Unit × Unit) × ((Nat → Int) × (Nat → Int) × Unit)) → Option R) → Option R
  | 0, _, _ => none
  | n + 1, x, κ0 => B_41_2 N (fun y => l_41_2 N n y κ0) x κ0
def ap_41 : List Pat := [.vec (.int .u64) 16]
def hp_41 : List (Option (Pat × Nat)) := []
def p_41 {R : Type} (N : Nat) (x : ((Nat → Int) × Unit) × (Unit)) (κ0 : (Nat → Int) → Option R) : Option R :=
let a481 : (Nat → Int) := x.1.1
l_41_2 N N (((), (), 0, ()), (a481, (Sch.zero (.arr 16 (.int .u64))), ())) (fun y591 =>
let a592 : (Nat → Int) := y591.2.1
let a593 : (Nat → Int) := y591.2.2.1
κ0 a592)

abbrev Tl_41_7 (R : Type) : Type := ((Unit × Unit × Int × Unit × Unit × Int × Unit) × ((Nat → Int) × (Nat → Int) × (Nat → Int) × (Nat → Int) × Unit)) → (((Unit × Unit × Int × Unit × Unit × Unit) × ((Nat → Int) × (Nat → Int) × (Nat → Int) × (Nat → Int) × Unit)) → Option R) → Option R
abbrev Tl_41_15 (R : Type) : Type := ((Unit × Unit × Int × Unit × Unit × Int × Unit) × ((Nat → Int) × (Nat → Int) × (Nat → Int) × (Nat → Int) × Unit)) → (((Unit × Unit × Int × Unit) × ((Nat → Int) × (Nat → Int) × Unit)) → Option R) → Option R
abbrev Tl_41_2 (R : Type) : Type := ((Unit × Unit × Int × Unit) × ((Nat → Int) × (Nat → Int) × Unit)) → (((Unit × Unit × Unit) × ((Nat → Int) × (Nat → Int) × Unit)) → Option R) → Option R
abbrev Tp_41 (R : Type) : Type := ((Nat → Int) × Unit) × (Unit) → ((Nat → Int) → Option R) → Option R
def Q_41 {R : Type} (q_39 : Tp_39 R) (m_41_7 : Tl_41_7 R) (m_41_15 : Tl_41_15 R) (m_41_2 : Tl_41_2 R) (x : ((Nat → Int) × Unit) × (Unit)) (κ0 : (Nat → Int) → Option R) : Option R :=
let a481 : (Nat → Int) := x.1.1
m_41_2 (((), (), 0, ()), (a481, (Sch.zero (.arr 16 (.int .u64))), ())) (fun y591 =>
let a592 : (Nat → Int) := y591.2.1
let a593 : (Nat → Int) := y591.2.2.1
κ0 a592)
def C_41_7 {R : Type} (q_39 : Tp_39 R) (m_41_7 : Tl_41_7 R) (m_41_15 : Tl_41_15 R) (m_41_2 : Tl_41_2 R) (rec : ((Unit × Unit × Int × Unit × Unit × Int × Unit) × ((Nat → Int) × (Nat → Int) × (Nat → Int) × (Nat → Int) × Unit)) → Option R) (x : ((Unit × Unit × Int × Unit × Unit × Int × Unit) × ((Nat → Int) × (Nat → Int) × (Nat → Int) × (Nat → Int) × Unit))) (κ0 : ((Unit × Unit × Int × Unit × Unit × Unit) × ((Nat → Int) × (Nat → Int) × (Nat → Int) × (Nat → Int) × Unit)) → Option R) : Option R :=
let i485 : Int := x.1.2.2.1
let i486 : Int := x.1.2.2.2.2.2.1
let a487 : (Nat → Int) := x.2.1
let a488 : (Nat → Int) := x.2.2.1
let a489 : (Nat → Int) := x.2.2.2.1
let a490 : (Nat → Int) := x.2.2.2.2.1
bif (decide (i486 < 4)) then (
let i491 : Int := mulA .i64 4 i486
let i492 : Int := remA .i64 i485 4
let i493 : Int := addA .i64 i491 i492
bif decide (0 ≤ i486) then (
bif decide (i486 < (4 : Int)) then (
let a494 : (Nat → Int) := (upd a489 ((Int.toNat i486)) i493)
bif (decide (i485 ≥ 4)) then (
let i495 : Int := mulA .i64 4 i486
let i496 : Int := addA .i64 i485 i486
let i497 : Int := remA .i64 i496 4
let i498 : Int := addA .i64 i495 i497
bif decide (0 ≤ i486) then (
bif decide (i486 < (4 : Int)) then (
let a499 : (Nat → Int) := (upd a494 ((Int.toNat i486)) i498)
bif decide (0 ≤ i486) then (
bif decide (i486 < (4 : Int)) then (
let i500 : Int := (a499 ((Int.toNat i486)))
bif decide (0 ≤ i500) then (
bif decide (i500 < (16 : Int)) then (
let i501 : Int := (a487 ((Int.toNat i500)))
bif decide (0 ≤ i486) then (
bif decide (i486 < (4 : Int)) then (
let a502 : (Nat → Int) := (upd a490 ((Int.toNat i486)) i501)
let i503 : Int := addA .i64 i486 1
rec (((), (), i485, (), (), i503, ()), (a487, a488, a499, a502, ()))) else none) else none) else none) else none) else none) else none) else none) else none) else (
bif decide (0 ≤ i486) then (
bif decide (i486 < (4 : Int)) then (
let i504 : Int := (a494 ((Int.toNat i486)))
bif decide (0 ≤ i504) then (
bif decide (i504 < (16 : Int)) then (
let i505 : Int := (a487 ((Int.toNat i504)))
bif decide (0 ≤ i486) then (
bif decide (i486 < (4 : Int)) then (
let a506 : (Nat → Int) := (upd a490 ((Int.toNat i486)) i505)
let i507 : Int := addA .i64 i486 1
rec (((), (), i485, (), (), i507, ()), (a487, a488, a494, a506, ()))) else none) else none) else none) else none) else none) else none)) else none) else none) else (
κ0 (((), (), i485, (), (), ()), (a487, a488, a489, a490, ())))
def C_41_15 {R : Type} (q_39 : Tp_39 R) (m_41_7 : Tl_41_7 R) (m_41_15 : Tl_41_15 R) (m_41_2 : Tl_41_2 R) (rec : ((Unit × Unit × Int × Unit × Unit × Int × Unit) × ((Nat → Int) × (Nat → Int) × (Nat → Int) × (Nat → Int) × Unit)) → Option R) (x : ((Unit × Unit × Int × Unit × Unit × Int × Unit) × ((Nat → Int) × (Nat → Int) × (Nat → Int) × (Nat → Int) × Unit))) (κ0 : ((Unit × Unit × Int × Unit) × ((Nat → Int) × (Nat → Int) × Unit)) → Option R) : Option R :=
let i576 : Int := x.1.2.2.1
let i577 : Int := x.1.2.2.2.2.2.1
let a578 : (Nat → Int) := x.2.1
let a579 : (Nat → Int) := x.2.2.1
let a580 : (Nat → Int) := x.2.2.2.1
let a581 : (Nat → Int) := x.2.2.2.2.1
bif (decide (i577 < 4)) then (
bif decide (0 ≤ i577) then (
bif decide (i577 < (4 : Int)) then (
let i582 : Int := (a580 ((Int.toNat i577)))
bif decide (0 ≤ i577) then (
bif decide (i577 < (4 : Int)) then (
let i583 : Int := (a581 ((Int.toNat i577)))
bif decide (0 ≤ i582) then (
bif decide (i582 < (16 : Int)) then (
let a584 : (Nat → Int) := (upd a578 ((Int.toNat i582)) i583)
let i585 : Int := addA .i64 i577 1
rec (((), (), i576, (), (), i585, ()), (a584, a579, a580, a581, ()))) else none) else none) else none) else none) else none) else none) else (
κ0 (((), (), i576, ()), (a578, a579, ())))
def C_41_2 {R : Type} (q_39 : Tp_39 R) (m_41_7 : Tl_41_7 R) (m_41_15 : Tl_41_15 R) (m_41_2 : Tl_41_2 R) (rec : ((Unit × Unit × Int × Unit) × ((Nat → Int) × (Nat → Int) × Unit)) → Option R) (x : ((Unit × Unit × Int × Unit) × ((Nat → Int) × (Nat → Int) × Unit))) (κ0 : ((Unit × Unit × Unit) × ((Nat → Int) × (Nat → Int) × Unit)) → Option R) : Option R :=
let i482 : Int := x.1.2.2.1
let a483 : (Nat → Int) := x.2.1
let a484 : (Nat → Int) := x.2.2.1
bif (decide (i482 < 8)) then (
m_41_7 (((), (), i482, (), (), 0, ()), (a483, a484, (Sch.zero (.arr 4 (.int .i64))), (Sch.zero (.arr 4 (.int .u64))), ())) (fun y508 =>
let i509 : Int := y508.1.2.2.1
let a510 : (Nat → Int) := y508.2.1
let a511 : (Nat → Int) := y508.2.2.1
let a512 : (Nat → Int) := y508.2.2.2.1
let a513 : (Nat → Int) := y508.2.2.2.2.1
q_39 ((a513, ()), ()) (fun y574 =>
let a575 : (Nat → Int) := y574
m_41_15 (((), (), i509, (), (), 0, ()), (a510, a511, a512, a575, ())) (fun y586 =>
let i587 : Int := y586.1.2.2.1
let a588 : (Nat → Int) := y586.2.1
let a589 : (Nat → Int) := y586.2.2.1
let i590 : Int := addA .i64 i587 1
rec (((), (), i590, ()), (a588, a589, ())))))) else (
κ0 (((), (), ()), (a483, a484, ())))
def EG_41 {R : Type} (q_39 : Tp_39 R) : Env R := (Env.base QQ LN).add 39 ap_39 hp_39 (fun (x : aden ap_39 × hden hp_39) k => q_39 x (fun y => k (Pat.inst (.vec (.int .u64) 4) y) (instH hp_39 x.2)))
def LG_41 {R : Type} (m_41_7 : Tl_41_7 R) (m_41_15 : Tl_41_15 R) (m_41_2 : Tl_41_2 R) : Loops R := (((Loops.none).add 7 (loopBy 0 lv_41_7 pt_41_7 (fun x k => m_41_7 x (fun y => k (.exit 2) (px_41_7_0.inst y))))).add 15 (loopBy 0 lv_41_15 pt_41_15 (fun x k => m_41_15 x (fun y => k (.exit 4) (px_41_15_0.inst y))))).add 2 (loopBy 0 lv_41_2 pt_41_2 (fun x k => m_41_2 x (fun y => k (.exit 0) (px_41_2_0.inst y))))
def E_41 {R : Type} (N : Nat) : Env R := EG_41 (p_39 N)
theorem eok_41 {R : Type} (N : Nat) : EK Try.prog (E_41 (R := R) N) := ek_add (ek_base _ _) (good_39 N)
def L_41 {R : Type} (N : Nat) : Loops R := LG_41 (l_41_7 N N) (l_41_15 N N) (l_41_2 N N)
theorem gstep_41_7 {R : Type} (q_39 : Tp_39 R) (m_41_7 : Tl_41_7 R) (m_41_15 : Tl_41_15 R) (m_41_2 : Tl_41_2 R) (n : Nat) (x : pt_41_7.den) (k : Exit → St → Option R) : iter 0 lv_41_7 lo_41_7 (aexec TT (EG_41 q_39) (drawOk TT QQ) (LG_41 m_41_7 m_41_15 m_41_2) (loopAt 7 (bodyOf Try.f41))) (n + 1) (pt_41_7.inst x) k = C_41_7 q_39 m_41_7 m_41_15 m_41_2 (fun y => iter 0 lv_41_7 lo_41_7 (aexec TT (EG_41 q_39) (drawOk TT QQ) (LG_41 m_41_7 m_41_15 m_41_2) (loopAt 7 (bodyOf Try.f41))) n (pt_41_7.inst y) k) x (fun y => k (.exit 2) (px_41_7_0.inst y)) := by kernel_rfl
theorem step_41_7 {R : Type} (N n : Nat) (x : pt_41_7.den) (k : Exit → St → Option R) : iter 0 lv_41_7 lo_41_7 (aexec TT (E_41 (R := R) N) (drawOk TT QQ) (L_41 N) (loopAt 7 (bodyOf Try.f41))) (n + 1) (pt_41_7.inst x) k = B_41_7 N (fun y => iter 0 lv_41_7 lo_41_7 (aexec TT (E_41 (R := R) N) (drawOk TT QQ) (L_41 N) (loopAt 7 (bodyOf Try.f41))) n (pt_41_7.inst y) k) x (fun y => k (.exit 2) (px_41_7_0.inst y)) := (gstep_41_7 (p_39 N) (l_41_7 N N) (l_41_15 N N) (l_41_2 N N) n x k).trans (by kernel_rfl)
theorem eq_41_7 {R : Type} (N : Nat) : ∀ (n : Nat) (x : pt_41_7.den) (k : Exit → St → Option R), iter 0 lv_41_7 lo_41_7 (aexec TT (E_41 (R := R) N) (drawOk TT QQ) (L_41 N) (loopAt 7 (bodyOf Try.f41))) n (pt_41_7.inst x) k = l_41_7 N n x (fun y => k (.exit 2) (px_41_7_0.inst y)) :=
  iter_eq (K := Exit → St → Option R) (ks := fun k => k) (l := fun n (x : pt_41_7.den) k => l_41_7 N n x (fun y => k (.exit 2) (px_41_7_0.inst y))) (B := fun (rec : pt_41_7.den → Option R) (x : pt_41_7.den) k => B_41_7 N rec x (fun y => k (.exit 2) (px_41_7_0.inst y))) (fun _ _ => rfl) (fun _ _ _ => rfl) (fun n x k => step_41_7 N n x k)
theorem rounds_41_7 {R : Type} (N : Nat) : Rounds 0 TT (E_41 (R := R) N) (drawOk TT QQ) (L_41 N) 7 (loopAt 7 (bodyOf Try.f41)) :=
  rounds_of (p := pt_41_7) (l := fun (x : pt_41_7.den) k => l_41_7 N N x (fun y => k (.exit 2) (px_41_7_0.inst y))) (fun s k => rfl) (fun x k => eq_41_7 N N x k)
theorem gstep_41_15 {R : Type} (q_39 : Tp_39 R) (m_41_7 : Tl_41_7 R) (m_41_15 : Tl_41_15 R) (m_41_2 : Tl_41_2 R) (n : Nat) (x : pt_41_15.den) (k : Exit → St → Option R) : iter 0 lv_41_15 lo_41_15 (aexec TT (EG_41 q_39) (drawOk TT QQ) (LG_41 m_41_7 m_41_15 m_41_2) (loopAt 15 (bodyOf Try.f41))) (n + 1) (pt_41_15.inst x) k = C_41_15 q_39 m_41_7 m_41_15 m_41_2 (fun y => iter 0 lv_41_15 lo_41_15 (aexec TT (EG_41 q_39) (drawOk TT QQ) (LG_41 m_41_7 m_41_15 m_41_2) (loopAt 15 (bodyOf Try.f41))) n (pt_41_15.inst y) k) x (fun y => k (.exit 4) (px_41_15_0.inst y)) := by kernel_rfl
theorem step_41_15 {R : Type} (N n : Nat) (x : pt_41_15.den) (k : Exit → St → Option R) : iter 0 lv_41_15 lo_41_15 (aexec TT (E_41 (R := R) N) (drawOk TT QQ) (L_41 N) (loopAt 15 (bodyOf Try.f41))) (n + 1) (pt_41_15.inst x) k = B_41_15 N (fun y => iter 0 lv_41_15 lo_41_15 (aexec TT (E_41 (R := R) N) (drawOk TT QQ) (L_41 N) (loopAt 15 (bodyOf Try.f41))) n (pt_41_15.inst y) k) x (fun y => k (.exit 4) (px_41_15_0.inst y)) := (gstep_41_15 (p_39 N) (l_41_7 N N) (l_41_15 N N) (l_41_2 N N) n x k).trans (by kernel_rfl)
theorem eq_41_15 {R : Type} (N : Nat) : ∀ (n : Nat) (x : pt_41_15.den) (k : Exit → St → Option R), iter 0 lv_41_15 lo_41_15 (aexec TT (E_41 (R := R) N) (drawOk TT QQ) (L_41 N) (loopAt 15 (bodyOf Try.f41))) n (pt_41_15.inst x) k = l_41_15 N n x (fun y => k (.exit 4) (px_41_15_0.inst y)) :=
  iter_eq (K := Exit → St → Option R) (ks := fun k => k) (l := fun n (x : pt_41_15.den) k => l_41_15 N n x (fun y => k (.exit 4) (px_41_15_0.inst y))) (B := fun (rec : pt_41_15.den → Option R) (x : pt_41_15.den) k => B_41_15 N rec x (fun y => k (.exit 4) (px_41_15_0.inst y))) (fun _ _ => rfl) (fun _ _ _ => rfl) (fun n x k => step_41_15 N n x k)
theorem rounds_41_15 {R : Type} (N : Nat) : Rounds 0 TT (E_41 (R := R) N) (drawOk TT QQ) (L_41 N) 15 (loopAt 15 (bodyOf Try.f41)) :=
  rounds_of (p := pt_41_15) (l := fun (x : pt_41_15.den) k => l_41_15 N N x (fun y => k (.exit 4) (px_41_15_0.inst y))) (fun s k => rfl) (fun x k => eq_41_15 N N x k)
theorem gstep_41_2 {R : Type} (q_39 : Tp_39 R) (m_41_7 : Tl_41_7 R) (m_41_15 : Tl_41_15 R) (m_41_2 : Tl_41_2 R) (n : Nat) (x : pt_41_2.den) (k : Exit → St → Option R) : iter 0 lv_41_2 lo_41_2 (aexec TT (EG_41 q_39) (drawOk TT QQ) (LG_41 m_41_7 m_41_15 m_41_2) (loopAt 2 (bodyOf Try.f41))) (n + 1) (pt_41_2.inst x) k = C_41_2 q_39 m_41_7 m_41_15 m_41_2 (fun y => iter 0 lv_41_2 lo_41_2 (aexec TT (EG_41 q_39) (drawOk TT QQ) (LG_41 m_41_7 m_41_15 m_41_2) (loopAt 2 (bodyOf Try.f41))) n (pt_41_2.inst y) k) x (fun y => k (.exit 0) (px_41_2_0.inst y)) := by kernel_rfl
theorem step_41_2 {R : Type} (N n : Nat) (x : pt_41_2.den) (k : Exit → St → Option R) : iter 0 lv_41_2 lo_41_2 (aexec TT (E_41 (R := R) N) (drawOk TT QQ) (L_41 N) (loopAt 2 (bodyOf Try.f41))) (n + 1) (pt_41_2.inst x) k = B_41_2 N (fun y => iter 0 lv_41_2 lo_41_2 (aexec TT (E_41 (R := R) N) (drawOk TT QQ) (L_41 N) (loopAt 2 (bodyOf Try.f41))) n (pt_41_2.inst y) k) x (fun y => k (.exit 0) (px_41_2_0.inst y)) := (gstep_41_2 (p_39 N) (l_41_7 N N) (l_41_15 N N) (l_41_2 N N) n x k).trans (by kernel_rfl)
theorem eq_41_2 {R : Type} (N : Nat) : ∀ (n : Nat) (x : pt_41_2.den) (k : Exit → St → Option R), iter 0 lv_41_2 lo_41_2 (aexec TT (E_41 (R := R) N) (drawOk TT QQ) (L_41 N) (loopAt 2 (bodyOf Try.f41))) n (pt_41_2.inst x) k = l_41_2 N n x (fun y => k (.exit 0) (px_41_2_0.inst y)) :=
  iter_eq (K := Exit → St → Option R) (ks := fun k => k) (l := fun n (x : pt_41_2.den) k => l_41_2 N n x (fun y => k (.exit 0) (px_41_2_0.inst y))) (B := fun (rec : pt_41_2.den → Option R) (x : pt_41_2.den) k => B_41_2 N rec x (fun y => k (.exit 0) (px_41_2_0.inst y))) (fun _ _ => rfl) (fun _ _ _ => rfl) (fun n x k => step_41_2 N n x k)
theorem rounds_41_2 {R : Type} (N : Nat) : Rounds 0 TT (E_41 (R := R) N) (drawOk TT QQ) (L_41 N) 2 (loopAt 2 (bodyOf Try.f41)) :=
  rounds_of (p := pt_41_2) (l := fun (x : pt_41_2.den) k => l_41_2 N N x (fun y => k (.exit 0) (px_41_2_0.inst y))) (fun s k => rfl) (fun x k => eq_41_2 N N x k)
theorem loops_41 : loopsIn (bodyOf Try.f41) = [(2, loopAt 2 (bodyOf Try.f41)), (7, loopAt 7 (bodyOf Try.f41)), (15, loopAt 15 (bodyOf Try.f41))] := by kernel_rfl
theorem lok_41 {R : Type} (N : Nat) : LOK 0 TT (E_41 (R := R) N) (drawOk TT QQ) (L_41 N) (bodyOf Try.f41) := loops_all loops_41 (by
  simp only [List.forall_mem_cons, List.not_mem_nil, false_implies, implies_true, and_true]
  exact ⟨rounds_41_2 N, rounds_41_7 N, rounds_41_15 N⟩)
theorem grun_41 {R : Type} (q_39 : Tp_39 R) (m_41_7 : Tl_41_7 R) (m_41_15 : Tl_41_15 R) (m_41_2 : Tl_41_2 R) (x : aden ap_41 × hden hp_41) (k : KF R) : fnrun TT (EG_41 q_39) (drawOk TT QQ) (LG_41 m_41_7 m_41_15 m_41_2) true Try.f41 (instA ap_41 x.1) (instH hp_41 x.2) k = Q_41 q_39 m_41_7 m_41_15 m_41_2 x (fun y => k (Pat.inst (.vec (.int .u64) 16) y) (instH hp_41 x.2)) := by kernel_rfl
theorem run_41 {R : Type} (N : Nat) (x : aden ap_41 × hden hp_41) (k : KF R) : fnrun TT (E_41 (R := R) N) (drawOk TT QQ) (L_41 N) true Try.f41 (instA ap_41 x.1) (instH hp_41 x.2) k = p_41 N x (fun y => k (Pat.inst (.vec (.int .u64) 16) y) (instH hp_41 x.2)) := (grun_41 (p_39 N) (l_41_7 N N) (l_41_15 N N) (l_41_2 N N) x k).trans (by kernel_rfl)
theorem good_41 {R : Type} (N : Nat) : GD (X := R) Try.prog QQ 41 ap_41 hp_41 (fun (x : aden ap_41 × hden hp_41) k => p_41 N x (fun y => k (Pat.inst (.vec (.int .u64) 16) y) (instH hp_41 x.2))) :=
  gd_quiet (E := E_41 N) (p := fun (x : aden ap_41 × hden hp_41) κ => p_41 N x (fun y => κ (Pat.inst (.vec (.int .u64) 16) y))) mixed tyok (eok_41 N) Try.func41 (by kernel_rfl) (by kernel_rfl) (lok_41 N) (fun x k => run_41 N x k)

def lv_45_9 : Live := [(1, none), (2, none), (3, none), (4, none), (5, none), (6, none)]
def pt_45_9 : SPat := ⟨[(1, .ptr 0 []), (2, .ptr 1 []), (3, .int .i64), (4, .int .i64), (5, .ptr 2 []), (6, .int .i64)], [some (.vec (.int .u64) 128, 70), some (.vec (.int .u64) 128, 70), some (.vec (.int .u64) 16, 62)]⟩
def px_45_9_0 : SPat := ⟨[(1, .ptr 0 []), (2, .ptr 1 []), (3, .int .i64), (4, .int .i64), (5, .ptr 2 [])], [some (.vec (.int .u64) 128, 70), some (.vec (.int .u64) 128, 70), some (.vec (.int .u64) 16, 62)]⟩
def lo_45_9 : Exit → Live
  | .exit 4 => [(1, none), (2, none), (3, none), (4, none), (5, none)]
  | _ => []
def B_45_9 {R : Type} (N : Nat) (rec : ((Unit × Unit × Int × Int × Unit × Int × Unit) × ((Nat → Int) × (Nat → Int) × (Nat → Int) × Unit)) → Option R) (x : ((Unit × Unit × Int × Int × Unit × Int × Unit) × ((Nat → Int) × (Nat → Int) × (Nat → Int) × Unit))) (κ0 : ((Unit × Unit × Int × Int × Unit × Unit) × ((Nat → Int) × (Nat → Int) × (Nat → Int) × Unit)) → Option R) : Option R :=
let i451 : Int := x.1.2.2.1
let i452 : Int := x.1.2.2.2.1
let i453 : Int := x.1.2.2.2.2.2.1
let a454 : (Nat → Int) := x.2.1
let a455 : (Nat → Int) := x.2.2.1
let a456 : (Nat → Int) := x.2.2.2.1
bif (decide (i453 < 16)) then (
let i457 : Int := quoA .i64 i453 2
bif (i451 == 1) then (
let i458 : Int := quoA .i64 i453 2
let i459 : Int := mulA .i64 16 i458
let i460 : Int := mulA .i64 2 i452
let i461 : Int := addA .i64 i459 i460
let i462 : Int := remA .i64 i453 2
let i463 : Int := addA .i64 i461 i462
bif decide (0 ≤ i463) then (
bif decide (i463 < (128 : Int)) then (
let i464 : Int := (a454 ((Int.toNat i463)))
bif decide (0 ≤ i453) then (
bif decide (i453 < (16 : Int)) then (
let a465 : (Nat → Int) := (upd a456 ((Int.toNat i453)) i464)
let i466 : Int := addA .i64 i453 1
rec (((), (), i451, i452, (), i466, ()), (a454, a455, a465, ()))) else none) else none) else none) else none) else (
let i467 : Int := mulA .i64 16 i452
let i468 : Int := mulA .i64 2 i457
let i469 : Int := addA .i64 i467 i468
let i470 : Int := remA .i64 i453 2
let i471 : Int := addA .i64 i469 i470
bif decide (0 ≤ i471) then (
bif decide (i471 < (128 : Int)) then (
let i472 : Int := (a454 ((Int.toNat i471)))
bif decide (0 ≤ i453) then (
bif decide (i453 < (16 : Int)) then (
let a473 : (Nat → Int) := (upd a456 ((Int.toNat i453)) i472)
let i474 : Int := addA .i64 i453 1
rec (((), (), i451, i452, (), i474, ()), (a454, a455, a473, ()))) else none) else none) else none) else none)) else (
κ0 (((), (), i451, i452, (), ()), (a454, a455, a456, ())))
def l_45_9 {R : Type} (N : Nat) : Nat → ((Unit × Unit × Int × Int × Unit × Int × Unit) × ((Nat → Int) × (Nat → Int) × (Nat → Int) × Unit)) → (((Unit × Unit × Int × Int × Unit × Unit) × ((Nat → Int) × (Nat → Int) × (Nat → Int) × Unit)) → Option R) → Option R
  | 0, _, _ => none
  | n + 1, x, κ0 => B_45_9 N (fun y => l_45_9 N n y κ0) x κ0
def lv_45_19 : Live := [(1, none), (2, none), (3, none), (4, none), (5, none), (9, none)]
def pt_45_19 : SPat := ⟨[(1, .ptr 0 []), (2, .ptr 1 []), (3, .int .i64), (4, .int .i64), (5, .ptr 2 []), (9, .int .i64)], [some (.vec (.int .u64) 128, 70), some (.vec (.int .u64) 128, 70), some (.vec (.int .u64) 16, 62)]⟩
def px_45_19_0 : SPat := ⟨[(1, .ptr 0 []), (2, .ptr 1 []), (3, .int .i64), (4, .int .i64)], [some (.vec (.int .u64) 128, 70), some (.vec (.int .u64) 128, 70)]⟩
def lo_45_19 : Exit → Live
  | .exit 6 => [(1, none), (2, none), (3, none), (4, none)]
  | _ => []
def B_45_19 {R : Type} (N : Nat) (rec : ((Unit × Unit × Int × Int × Unit × Int × Unit) × ((Nat → Int) × (Nat → Int) × (Nat → Int) × Unit)) → Option R) (x : ((Unit × Unit × Int × Int × Unit × Int × Unit) × ((Nat → Int) × (Nat → Int) × (Nat → Int) × Unit))) (κ0 : ((Unit × Unit × Int × Int × Unit) × ((Nat → Int) × (Nat → Int) × Unit)) → Option R) : Option R :=
let i596 : Int := x.1.2.2.1
let i597 : Int := x.1.2.2.2.1
let i598 : Int := x.1.2.2.2.2.2.1
let a599 : (Nat → Int) := x.2.1
let a600 : (Nat → Int) := x.2.2.1
let a601 : (Nat → Int) := x.2.2.2.1
bif (decide (i598 < 16)) then (
let i602 : Int := quoA .i64 i598 2
bif (i596 == 1) then (
let i603 : Int := quoA .i64 i598 2
let i604 : Int := mulA .i64 16 i603
let i605 : Int := mulA .i64 2 i597
let i606 : Int := addA .i64 i604 i605
let i607 : Int := remA .i64 i598 2
let i608 : Int := addA .i64 i606 i607
bif decide (0 ≤ i598) then (
bif decide (i598 < (16 : Int)) then (
let i609 : Int := (a601 ((Int.toNat i598)))
bif decide (0 ≤ i608) then (
bif decide (i608 < (128 : Int)) then (
let a610 : (Nat → Int) := (upd a599 ((Int.toNat i608)) i609)
let i611 : Int := addA .i64 i598 1
rec (((), (), i596, i597, (), i611, ()), (a610, a600, a601, ()))) else none) else none) else none) else none) else (
let i612 : Int := mulA .i64 16 i597
let i613 : Int := mulA .i64 2 i602
let i614 : Int := addA .i64 i612 i613
let i615 : Int := remA .i64 i598 2
let i616 : Int := addA .i64 i614 i615
bif decide (0 ≤ i598) then (
bif decide (i598 < (16 : Int)) then (
let i617 : Int := (a601 ((Int.toNat i598)))
bif decide (0 ≤ i616) then (
bif decide (i616 < (128 : Int)) then (
let a618 : (Nat → Int) := (upd a599 ((Int.toNat i616)) i617)
let i619 : Int := addA .i64 i598 1
rec (((), (), i596, i597, (), i619, ()), (a618, a600, a601, ()))) else none) else none) else none) else none)) else (
κ0 (((), (), i596, i597, ()), (a599, a600, ())))
def l_45_19 {R : Type} (N : Nat) : Nat → ((Unit × Unit × Int × Int × Unit × Int × Unit) × ((Nat → Int) × (Nat → Int) × (Nat → Int) × Unit)) → (((Unit × Unit × Int × Int × Unit) × ((Nat → Int) × (Nat → Int) × Unit)) → Option R) → Option R
  | 0, _, _ => none
  | n + 1, x, κ0 => B_45_19 N (fun y => l_45_19 N n y κ0) x κ0
def lv_45_5 : Live := [(1, none), (2, none), (3, none), (4, none)]
def pt_45_5 : SPat := ⟨[(1, .ptr 0 []), (2, .ptr 1 []), (3, .int .i64), (4, .int .i64)], [some (.vec (.int .u64) 128, 70), some (.vec (.int .u64) 128, 70)]⟩
def px_45_5_0 : SPat := ⟨[(1, .ptr 0 []), (2, .ptr 1 []), (3, .int .i64)], [some (.vec (.int .u64) 128, 70), some (.vec (.int .u64) 128, 70)]⟩
def lo_45_5 : Exit → Live
  | .exit 2 => [(1, none), (2, none), (3, none)]
  | _ => []
def B_45_5 {R : Type} (N : Nat) (rec : ((Unit × Unit × Int × Int × Unit) × ((Nat → Int) × (Nat → Int) × Unit)) → Option R) (x : ((Unit × Unit × Int × Int × Unit) × ((Nat → Int) × (Nat → Int) × Unit))) (κ0 : ((Unit × Unit × Int × Unit) × ((Nat → Int) × (Nat → Int) × Unit)) → Option R) : Option R :=
let i447 : Int := x.1.2.2.1
let i448 : Int := x.1.2.2.2.1
let a449 : (Nat → Int) := x.2.1
let a450 : (Nat → Int) := x.2.2.1
bif (decide (i448 < 8)) then (
l_45_9 N N (((), (), i447, i448, (), 0, ()), (a449, a450, (Sch.zero (.arr 16 (.int .u64))), ())) (fun y475 =>
let i476 : Int := y475.1.2.2.1
let i477 : Int := y475.1.2.2.2.1
let a478 : (Nat → Int) := y475.2.1
let a479 : (Nat → Int) := y475.2.2.1
let a480 : (Nat → Int) := y475.2.2.2.1
p_41 N ((a480, ()), ()) (fun y594 =>
let a595 : (Nat → Int) := y594
l_45_19 N N (((), (), i476, i477, (), 0, ()), (a478, a479, a595, ())) (fun y620 =>
let i621 : Int := y620.1.2.2.1
let i622 : Int := y620.1.2.2.2.1
let a623 : (Nat → Int) := y620.2.1
let a624 : (Nat → Int) := y620.2.2.1
let i625 : Int := addA .i64 i622 1
rec (((), (), i621, i625, ()), (a623, a624, ())))))) else (
κ0 (((), (), i447, ()), (a449, a450, ())))
def l_45_5 {R : Type} (N : Nat) : Nat → ((Unit × Unit × Int × Int × Unit) × ((Nat → Int) × (Nat → Int) × Unit)) → (((Unit × Unit × Int × Unit) × ((Nat → Int) × (Nat → Int) × Unit)) → Option R) → Option R
  | 0, _, _ => none
  | n + 1, x, κ0 => B_45_5 N (fun y => l_45_5 N n y κ0) x κ0
def lv_45_2 : Live := [(1, none), (2, none), (3, none)]
def pt_45_2 : SPat := ⟨[(1, .ptr 0 []), (2, .ptr 1 []), (3, .int .i64)], [some (.vec (.int .u64) 128, 70), some (.vec (.int .u64) 128, 70)]⟩
def px_45_2_0 : SPat := ⟨[(1, .ptr 0 []), (2, .ptr 1 [])], [some (.vec (.int .u64) 128, 70), some (.vec (.int .u64) 128, 70)]⟩
def lo_45_2 : Exit → Live
  | .exit 0 => [(1, none), (2, none)]
  | _ => []
def B_45_2 {R : Type} (N : Nat) (rec : ((Unit × Unit × Int × Unit) × ((Nat → Int) × (Nat → Int) × Unit)) → Option R) (x : ((Unit × Unit × Int × Unit) × ((Nat → Int) × (Nat → Int) × Unit))) (κ0 : ((Unit × Unit × Unit) × ((Nat → Int) × (Nat → Int) × Unit)) → Option R) : Option R :=
let i444 : Int := x.1.2.2.1
let a445 : (Nat → Int) := x.2.1
let a446 : (Nat → Int) := x.2.2.1
bif (decide (i444 < 2)) then (
l_45_5 N N (((), (), i444, 0, ()), (a445, a446, ())) (fun y626 =>
let i627 : Int := y626.1.2.2.1
let a628 : (Nat → Int) := y626.2.1
let a629 : (Nat → Int) := y626.2.2.1
let i630 : Int := addA .i64 i627 1
rec (((), (), i630, ()), (a628, a629, ())))) else (
κ0 (((), (), ()), (a445, a446, ())))
def l_45_2 {R : Type} (N : Nat) : Nat → ((Unit × Unit × Int × Unit) × ((Nat → Int) × (Nat → Int) × Unit)) → (((Unit × Unit × Unit) × ((Nat → Int) × (Nat → Int) × Unit)) → Option R) → Option R
  | 0, _, _ => none
  | n + 1, x, κ0 => B_45_2 N (fun y => l_45_2 N n y κ0) x κ0
def ap_45 : List Pat := [.vec (.int .u64) 128]
def hp_45 : List (Option (Pat × Nat)) := []
def p_45 {R : Type} (N : Nat) (x : ((Nat → Int) × Unit) × (Unit)) (κ0 : (Nat → Int) → Option R) : Option R :=
let a443 : (Nat → Int) := x.1.1
l_45_2 N N (((), (), 0, ()), (a443, (Sch.zero (.arr 128 (.int .u64))), ())) (fun y631 =>
let a632 : (Nat → Int) := y631.2.1
let a633 : (Nat → Int) := y631.2.2.1
κ0 a632)

abbrev Tl_45_9 (R : Type) : Type := ((Unit × Unit × Int × Int × Unit × Int × Unit) × ((Nat → Int) × (Nat → Int) × (Nat → Int) × Unit)) → (((Unit × Unit × Int × Int × Unit × Unit) × ((Nat → Int) × (Nat → Int) × (Nat → Int) × Unit)) → Option R) → Option R
abbrev Tl_45_19 (R : Type) : Type := ((Unit × Unit × Int × Int × Unit × Int × Unit) × ((Nat → Int) × (Nat → Int) × (Nat → Int) × Unit)) → (((Unit × Unit × Int × Int × Unit) × ((Nat → Int) × (Nat → Int) × Unit)) → Option R) → Option R
abbrev Tl_45_5 (R : Type) : Type := ((Unit × Unit × Int × Int × Unit) × ((Nat → Int) × (Nat → Int) × Unit)) → (((Unit × Unit × Int × Unit) × ((Nat → Int) × (Nat → Int) × Unit)) → Option R) → Option R
abbrev Tl_45_2 (R : Type) : Type := ((Unit × Unit × Int × Unit) × ((Nat → Int) × (Nat → Int) × Unit)) → (((Unit × Unit × Unit) × ((Nat → Int) × (Nat → Int) × Unit)) → Option R) → Option R
abbrev Tp_45 (R : Type) : Type := ((Nat → Int) × Unit) × (Unit) → ((Nat → Int) → Option R) → Option R
def Q_45 {R : Type} (q_41 : Tp_41 R) (m_45_9 : Tl_45_9 R) (m_45_19 : Tl_45_19 R) (m_45_5 : Tl_45_5 R) (m_45_2 : Tl_45_2 R) (x : ((Nat → Int) × Unit) × (Unit)) (κ0 : (Nat → Int) → Option R) : Option R :=
let a443 : (Nat → Int) := x.1.1
m_45_2 (((), (), 0, ()), (a443, (Sch.zero (.arr 128 (.int .u64))), ())) (fun y631 =>
let a632 : (Nat → Int) := y631.2.1
let a633 : (Nat → Int) := y631.2.2.1
κ0 a632)
def C_45_9 {R : Type} (q_41 : Tp_41 R) (m_45_9 : Tl_45_9 R) (m_45_19 : Tl_45_19 R) (m_45_5 : Tl_45_5 R) (m_45_2 : Tl_45_2 R) (rec : ((Unit × Unit × Int × Int × Unit × Int × Unit) × ((Nat → Int) × (Nat → Int) × (Nat → Int) × Unit)) → Option R) (x : ((Unit × Unit × Int × Int × Unit × Int × Unit) × ((Nat → Int) × (Nat → Int) × (Nat → Int) × Unit))) (κ0 : ((Unit × Unit × Int × Int × Unit × Unit) × ((Nat → Int) × (Nat → Int) × (Nat → Int) × Unit)) → Option R) : Option R :=
let i451 : Int := x.1.2.2.1
let i452 : Int := x.1.2.2.2.1
let i453 : Int := x.1.2.2.2.2.2.1
let a454 : (Nat → Int) := x.2.1
let a455 : (Nat → Int) := x.2.2.1
let a456 : (Nat → Int) := x.2.2.2.1
bif (decide (i453 < 16)) then (
let i457 : Int := quoA .i64 i453 2
bif (i451 == 1) then (
let i458 : Int := quoA .i64 i453 2
let i459 : Int := mulA .i64 16 i458
let i460 : Int := mulA .i64 2 i452
let i461 : Int := addA .i64 i459 i460
let i462 : Int := remA .i64 i453 2
let i463 : Int := addA .i64 i461 i462
bif decide (0 ≤ i463) then (
bif decide (i463 < (128 : Int)) then (
let i464 : Int := (a454 ((Int.toNat i463)))
bif decide (0 ≤ i453) then (
bif decide (i453 < (16 : Int)) then (
let a465 : (Nat → Int) := (upd a456 ((Int.toNat i453)) i464)
let i466 : Int := addA .i64 i453 1
rec (((), (), i451, i452, (), i466, ()), (a454, a455, a465, ()))) else none) else none) else none) else none) else (
let i467 : Int := mulA .i64 16 i452
let i468 : Int := mulA .i64 2 i457
let i469 : Int := addA .i64 i467 i468
let i470 : Int := remA .i64 i453 2
let i471 : Int := addA .i64 i469 i470
bif decide (0 ≤ i471) then (
bif decide (i471 < (128 : Int)) then (
let i472 : Int := (a454 ((Int.toNat i471)))
bif decide (0 ≤ i453) then (
bif decide (i453 < (16 : Int)) then (
let a473 : (Nat → Int) := (upd a456 ((Int.toNat i453)) i472)
let i474 : Int := addA .i64 i453 1
rec (((), (), i451, i452, (), i474, ()), (a454, a455, a473, ()))) else none) else none) else none) else none)) else (
κ0 (((), (), i451, i452, (), ()), (a454, a455, a456, ())))
def C_45_19 {R : Type} (q_41 : Tp_41 R) (m_45_9 : Tl_45_9 R) (m_45_19 : Tl_45_19 R) (m_45_5 : Tl_45_5 R) (m_45_2 : Tl_45_2 R) (rec : ((Unit × Unit × Int × Int × Unit × Int × Unit) × ((Nat → Int) × (Nat → Int) × (Nat → Int) × Unit)) → Option R) (x : ((Unit × Unit × Int × Int × Unit × Int × Unit) × ((Nat → Int) × (Nat → Int) × (Nat → Int) × Unit))) (κ0 : ((Unit × Unit × Int × Int × Unit) × ((Nat → Int) × (Nat → Int) × Unit)) → Option R) : Option R :=
let i596 : Int := x.1.2.2.1
let i597 : Int := x.1.2.2.2.1
let i598 : Int := x.1.2.2.2.2.2.1
let a599 : (Nat → Int) := x.2.1
let a600 : (Nat → Int) := x.2.2.1
let a601 : (Nat → Int) := x.2.2.2.1
bif (decide (i598 < 16)) then (
let i602 : Int := quoA .i64 i598 2
bif (i596 == 1) then (
let i603 : Int := quoA .i64 i598 2
let i604 : Int := mulA .i64 16 i603
let i605 : Int := mulA .i64 2 i597
let i606 : Int := addA .i64 i604 i605
let i607 : Int := remA .i64 i598 2
let i608 : Int := addA .i64 i606 i607
bif decide (0 ≤ i598) then (
bif decide (i598 < (16 : Int)) then (
let i609 : Int := (a601 ((Int.toNat i598)))
bif decide (0 ≤ i608) then (
bif decide (i608 < (128 : Int)) then (
let a610 : (Nat → Int) := (upd a599 ((Int.toNat i608)) i609)
let i611 : Int := addA .i64 i598 1
rec (((), (), i596, i597, (), i611, ()), (a610, a600, a601, ()))) else none) else none) else none) else none) else (
let i612 : Int := mulA .i64 16 i597
let i613 : Int := mulA .i64 2 i602
let i614 : Int := addA .i64 i612 i613
let i615 : Int := remA .i64 i598 2
let i616 : Int := addA .i64 i614 i615
bif decide (0 ≤ i598) then (
bif decide (i598 < (16 : Int)) then (
let i617 : Int := (a601 ((Int.toNat i598)))
bif decide (0 ≤ i616) then (
bif decide (i616 < (128 : Int)) then (
let a618 : (Nat → Int) := (upd a599 ((Int.toNat i616)) i617)
let i619 : Int := addA .i64 i598 1
rec (((), (), i596, i597, (), i619, ()), (a618, a600, a601, ()))) else none) else none) else none) else none)) else (
κ0 (((), (), i596, i597, ()), (a599, a600, ())))
def C_45_5 {R : Type} (q_41 : Tp_41 R) (m_45_9 : Tl_45_9 R) (m_45_19 : Tl_45_19 R) (m_45_5 : Tl_45_5 R) (m_45_2 : Tl_45_2 R) (rec : ((Unit × Unit × Int × Int × Unit) × ((Nat → Int) × (Nat → Int) × Unit)) → Option R) (x : ((Unit × Unit × Int × Int × Unit) × ((Nat → Int) × (Nat → Int) × Unit))) (κ0 : ((Unit × Unit × Int × Unit) × ((Nat → Int) × (Nat → Int) × Unit)) → Option R) : Option R :=
let i447 : Int := x.1.2.2.1
let i448 : Int := x.1.2.2.2.1
let a449 : (Nat → Int) := x.2.1
let a450 : (Nat → Int) := x.2.2.1
bif (decide (i448 < 8)) then (
m_45_9 (((), (), i447, i448, (), 0, ()), (a449, a450, (Sch.zero (.arr 16 (.int .u64))), ())) (fun y475 =>
let i476 : Int := y475.1.2.2.1
let i477 : Int := y475.1.2.2.2.1
let a478 : (Nat → Int) := y475.2.1
let a479 : (Nat → Int) := y475.2.2.1
let a480 : (Nat → Int) := y475.2.2.2.1
q_41 ((a480, ()), ()) (fun y594 =>
let a595 : (Nat → Int) := y594
m_45_19 (((), (), i476, i477, (), 0, ()), (a478, a479, a595, ())) (fun y620 =>
let i621 : Int := y620.1.2.2.1
let i622 : Int := y620.1.2.2.2.1
let a623 : (Nat → Int) := y620.2.1
let a624 : (Nat → Int) := y620.2.2.1
let i625 : Int := addA .i64 i622 1
rec (((), (), i621, i625, ()), (a623, a624, ())))))) else (
κ0 (((), (), i447, ()), (a449, a450, ())))
def C_45_2 {R : Type} (q_41 : Tp_41 R) (m_45_9 : Tl_45_9 R) (m_45_19 : Tl_45_19 R) (m_45_5 : Tl_45_5 R) (m_45_2 : Tl_45_2 R) (rec : ((Unit × Unit × Int × Unit) × ((Nat → Int) × (Nat → Int) × Unit)) → Option R) (x : ((Unit × Unit × Int × Unit) × ((Nat → Int) × (Nat → Int) × Unit))) (κ0 : ((Unit × Unit × Unit) × ((Nat → Int) × (Nat → Int) × Unit)) → Option R) : Option R :=
let i444 : Int := x.1.2.2.1
let a445 : (Nat → Int) := x.2.1
let a446 : (Nat → Int) := x.2.2.1
bif (decide (i444 < 2)) then (
m_45_5 (((), (), i444, 0, ()), (a445, a446, ())) (fun y626 =>
let i627 : Int := y626.1.2.2.1
let a628 : (Nat → Int) := y626.2.1
let a629 : (Nat → Int) := y626.2.2.1
let i630 : Int := addA .i64 i627 1
rec (((), (), i630, ()), (a628, a629, ())))) else (
κ0 (((), (), ()), (a445, a446, ())))
def EG_45 {R : Type} (q_41 : Tp_41 R) : Env R := (Env.base QQ LN).add 41 ap_41 hp_41 (fun (x : aden ap_41 × hden hp_41) k => q_41 x (fun y => k (Pat.inst (.vec (.int .u64) 16) y) (instH hp_41 x.2)))
def LG_45 {R : Type} (m_45_9 : Tl_45_9 R) (m_45_19 : Tl_45_19 R) (m_45_5 : Tl_45_5 R) (m_45_2 : Tl_45_2 R) : Loops R := ((((Loops.none).add 9 (loopBy 0 lv_45_9 pt_45_9 (fun x k => m_45_9 x (fun y => k (.exit 4) (px_45_9_0.inst y))))).add 19 (loopBy 0 lv_45_19 pt_45_19 (fun x k => m_45_19 x (fun y => k (.exit 6) (px_45_19_0.inst y))))).add 5 (loopBy 0 lv_45_5 pt_45_5 (fun x k => m_45_5 x (fun y => k (.exit 2) (px_45_5_0.inst y))))).add 2 (loopBy 0 lv_45_2 pt_45_2 (fun x k => m_45_2 x (fun y => k (.exit 0) (px_45_2_0.inst y))))
def E_45 {R : Type} (N : Nat) : Env R := EG_45 (p_41 N)
theorem eok_45 {R : Type} (N : Nat) : EK Try.prog (E_45 (R := R) N) := ek_add (ek_base _ _) (good_41 N)
def L_45 {R : Type} (N : Nat) : Loops R := LG_45 (l_45_9 N N) (l_45_19 N N) (l_45_5 N N) (l_45_2 N N)
theorem gstep_45_9 {R : Type} (q_41 : Tp_41 R) (m_45_9 : Tl_45_9 R) (m_45_19 : Tl_45_19 R) (m_45_5 : Tl_45_5 R) (m_45_2 : Tl_45_2 R) (n : Nat) (x : pt_45_9.den) (k : Exit → St → Option R) : iter 0 lv_45_9 lo_45_9 (aexec TT (EG_45 q_41) (drawOk TT QQ) (LG_45 m_45_9 m_45_19 m_45_5 m_45_2) (loopAt 9 (bodyOf Try.f45))) (n + 1) (pt_45_9.inst x) k = C_45_9 q_41 m_45_9 m_45_19 m_45_5 m_45_2 (fun y => iter 0 lv_45_9 lo_45_9 (aexec TT (EG_45 q_41) (drawOk TT QQ) (LG_45 m_45_9 m_45_19 m_45_5 m_45_2) (loopAt 9 (bodyOf Try.f45))) n (pt_45_9.inst y) k) x (fun y => k (.exit 4) (px_45_9_0.inst y)) := by kernel_rfl
theorem step_45_9 {R : Type} (N n : Nat) (x : pt_45_9.den) (k : Exit → St → Option R) : iter 0 lv_45_9 lo_45_9 (aexec TT (E_45 (R := R) N) (drawOk TT QQ) (L_45 N) (loopAt 9 (bodyOf Try.f45))) (n + 1) (pt_45_9.inst x) k = B_45_9 N (fun y => iter 0 lv_45_9 lo_45_9 (aexec TT (E_45 (R := R) N) (drawOk TT QQ) (L_45 N) (loopAt 9 (bodyOf Try.f45))) n (pt_45_9.inst y) k) x (fun y => k (.exit 4) (px_45_9_0.inst y)) := (gstep_45_9 (p_41 N) (l_45_9 N N) (l_45_19 N N) (l_45_5 N N) (l_45_2 N N) n x k).trans (by kernel_rfl)
theorem eq_45_9 {R : Type} (N : Nat) : ∀ (n : Nat) (x : pt_45_9.den) (k : Exit → St → Option R), iter 0 lv_45_9 lo_45_9 (aexec TT (E_45 (R := R) N) (drawOk TT QQ) (L_45 N) (loopAt 9 (bodyOf Try.f45))) n (pt_45_9.inst x) k = l_45_9 N n x (fun y => k (.exit 4) (px_45_9_0.inst y)) :=
  iter_eq (K := Exit → St → Option R) (ks := fun k => k) (l := fun n (x : pt_45_9.den) k => l_45_9 N n x (fun y => k (.exit 4) (px_45_9_0.inst y))) (B := fun (rec : pt_45_9.den → Option R) (x : pt_45_9.den) k => B_45_9 N rec x (fun y => k (.exit 4) (px_45_9_0.inst y))) (fun _ _ => rfl) (fun _ _ _ => rfl) (fun n x k => step_45_9 N n x k)
theorem rounds_45_9 {R : Type} (N : Nat) : Rounds 0 TT (E_45 (R := R) N) (drawOk TT QQ) (L_45 N) 9 (loopAt 9 (bodyOf Try.f45)) :=
  rounds_of (p := pt_45_9) (l := fun (x : pt_45_9.den) k => l_45_9 N N x (fun y => k (.exit 4) (px_45_9_0.inst y))) (fun s k => rfl) (fun x k => eq_45_9 N N x k)
theorem gstep_45_19 {R : Type} (q_41 : Tp_41 R) (m_45_9 : Tl_45_9 R) (m_45_19 : Tl_45_19 R) (m_45_5 : Tl_45_5 R) (m_45_2 : Tl_45_2 R) (n : Nat) (x : pt_45_19.den) (k : Exit → St → Option R) : iter 0 lv_45_19 lo_45_19 (aexec TT (EG_45 q_41) (drawOk TT QQ) (LG_45 m_45_9 m_45_19 m_45_5 m_45_2) (loopAt 19 (bodyOf Try.f45))) (n + 1) (pt_45_19.inst x) k = C_45_19 q_41 m_45_9 m_45_19 m_45_5 m_45_2 (fun y => iter 0 lv_45_19 lo_45_19 (aexec TT (EG_45 q_41) (drawOk TT QQ) (LG_45 m_45_9 m_45_19 m_45_5 m_45_2) (loopAt 19 (bodyOf Try.f45))) n (pt_45_19.inst y) k) x (fun y => k (.exit 6) (px_45_19_0.inst y)) := by kernel_rfl
theorem step_45_19 {R : Type} (N n : Nat) (x : pt_45_19.den) (k : Exit → St → Option R) : iter 0 lv_45_19 lo_45_19 (aexec TT (E_45 (R := R) N) (drawOk TT QQ) (L_45 N) (loopAt 19 (bodyOf Try.f45))) (n + 1) (pt_45_19.inst x) k = B_45_19 N (fun y => iter 0 lv_45_19 lo_45_19 (aexec TT (E_45 (R := R) N) (drawOk TT QQ) (L_45 N) (loopAt 19 (bodyOf Try.f45))) n (pt_45_19.inst y) k) x (fun y => k (.exit 6) (px_45_19_0.inst y)) := (gstep_45_19 (p_41 N) (l_45_9 N N) (l_45_19 N N) (l_45_5 N N) (l_45_2 N N) n x k).trans (by kernel_rfl)
theorem eq_45_19 {R : Type} (N : Nat) : ∀ (n : Nat) (x : pt_45_19.den) (k : Exit → St → Option R), iter 0 lv_45_19 lo_45_19 (aexec TT (E_45 (R := R) N) (drawOk TT QQ) (L_45 N) (loopAt 19 (bodyOf Try.f45))) n (pt_45_19.inst x) k = l_45_19 N n x (fun y => k (.exit 6) (px_45_19_0.inst y)) :=
  iter_eq (K := Exit → St → Option R) (ks := fun k => k) (l := fun n (x : pt_45_19.den) k => l_45_19 N n x (fun y => k (.exit 6) (px_45_19_0.inst y))) (B := fun (rec : pt_45_19.den → Option R) (x : pt_45_19.den) k => B_45_19 N rec x (fun y => k (.exit 6) (px_45_19_0.inst y))) (fun _ _ => rfl) (fun _ _ _ => rfl) (fun n x k => step_45_19 N n x k)
theorem rounds_45_19 {R : Type} (N : Nat) : Rounds 0 TT (E_45 (R := R) N) (drawOk TT QQ) (L_45 N) 19 (loopAt 19 (bodyOf Try.f45)) :=
  rounds_of (p := pt_45_19) (l := fun (x : pt_45_19.den) k => l_45_19 N N x (fun y => k (.exit 6) (px_45_19_0.inst y))) (fun s k => rfl) (fun x k => eq_45_19 N N x k)
theorem gstep_45_5 {R : Type} (q_41 : Tp_41 R) (m_45_9 : Tl_45_9 R) (m_45_19 : Tl_45_19 R) (m_45_5 : Tl_45_5 R) (m_45_2 : Tl_45_2 R) (n : Nat) (x : pt_45_5.den) (k : Exit → St → Option R) : iter 0 lv_45_5 lo_45_5 (aexec TT (EG_45 q_41) (drawOk TT QQ) (LG_45 m_45_9 m_45_19 m_45_5 m_45_2) (loopAt 5 (bodyOf Try.f45))) (n + 1) (pt_45_5.inst x) k = C_45_5 q_41 m_45_9 m_45_19 m_45_5 m_45_2 (fun y => iter 0 lv_45_5 lo_45_5 (aexec TT (EG_45 q_41) (drawOk TT QQ) (LG_45 m_45_9 m_45_19 m_45_5 m_45_2) (loopAt 5 (bodyOf Try.f45))) n (pt_45_5.inst y) k) x (fun y => k (.exit 2) (px_45_5_0.inst y)) := by kernel_rfl
theorem step_45_5 {R : Type} (N n : Nat) (x : pt_45_5.den) (k : Exit → St → Option R) : iter 0 lv_45_5 lo_45_5 (aexec TT (E_45 (R := R) N) (drawOk TT QQ) (L_45 N) (loopAt 5 (bodyOf Try.f45))) (n + 1) (pt_45_5.inst x) k = B_45_5 N (fun y => iter 0 lv_45_5 lo_45_5 (aexec TT (E_45 (R := R) N) (drawOk TT QQ) (L_45 N) (loopAt 5 (bodyOf Try.f45))) n (pt_45_5.inst y) k) x (fun y => k (.exit 2) (px_45_5_0.inst y)) := (gstep_45_5 (p_41 N) (l_45_9 N N) (l_45_19 N N) (l_45_5 N N) (l_45_2 N N) n x k).trans (by kernel_rfl)
theorem eq_45_5 {R : Type} (N : Nat) : ∀ (n : Nat) (x : pt_45_5.den) (k : Exit → St → Option R), iter 0 lv_45_5 lo_45_5 (aexec TT (E_45 (R := R) N) (drawOk TT QQ) (L_45 N) (loopAt 5 (bodyOf Try.f45))) n (pt_45_5.inst x) k = l_45_5 N n x (fun y => k (.exit 2) (px_45_5_0.inst y)) :=
  iter_eq (K := Exit → St → Option R) (ks := fun k => k) (l := fun n (x : pt_45_5.den) k => l_45_5 N n x (fun y => k (.exit 2) (px_45_5_0.inst y))) (B := fun (rec : pt_45_5.den → Option R) (x : pt_45_5.den) k => B_45_5 N rec x (fun y => k (.exit 2) (px_45_5_0.inst y))) (fun _ _ => rfl) (fun _ _ _ => rfl) (fun n x k => step_45_5 N n x k)
theorem rounds_45_5 {R : Type} (N : Nat) : Rounds 0 TT (E_45 (R := R) N) (drawOk TT QQ) (L_45 N) 5 (loopAt 5 (bodyOf Try.f45)) :=
  rounds_of (p := pt_45_5) (l := fun (x : pt_45_5.den) k => l_45_5 N N x (fun y => k (.exit 2) (px_45_5_0.inst y))) (fun s k => rfl) (fun x k => eq_45_5 N N x k)
theorem gstep_45_2 {R : Type} (q_41 : Tp_41 R) (m_45_9 : Tl_45_9 R) (m_45_19 : Tl_45_19 R) (m_45_5 : Tl_45_5 R) (m_45_2 : Tl_45_2 R) (n : Nat) (x : pt_45_2.den) (k : Exit → St → Option R) : iter 0 lv_45_2 lo_45_2 (aexec TT (EG_45 q_41) (drawOk TT QQ) (LG_45 m_45_9 m_45_19 m_45_5 m_45_2) (loopAt 2 (bodyOf Try.f45))) (n + 1) (pt_45_2.inst x) k = C_45_2 q_41 m_45_9 m_45_19 m_45_5 m_45_2 (fun y => iter 0 lv_45_2 lo_45_2 (aexec TT (EG_45 q_41) (drawOk TT QQ) (LG_45 m_45_9 m_45_19 m_45_5 m_45_2) (loopAt 2 (bodyOf Try.f45))) n (pt_45_2.inst y) k) x (fun y => k (.exit 0) (px_45_2_0.inst y)) := by kernel_rfl
theorem step_45_2 {R : Type} (N n : Nat) (x : pt_45_2.den) (k : Exit → St → Option R) : iter 0 lv_45_2 lo_45_2 (aexec TT (E_45 (R := R) N) (drawOk TT QQ) (L_45 N) (loopAt 2 (bodyOf Try.f45))) (n + 1) (pt_45_2.inst x) k = B_45_2 N (fun y => iter 0 lv_45_2 lo_45_2 (aexec TT (E_45 (R := R) N) (drawOk TT QQ) (L_45 N) (loopAt 2 (bodyOf Try.f45))) n (pt_45_2.inst y) k) x (fun y => k (.exit 0) (px_45_2_0.inst y)) := (gstep_45_2 (p_41 N) (l_45_9 N N) (l_45_19 N N) (l_45_5 N N) (l_45_2 N N) n x k).trans (by kernel_rfl)
theorem eq_45_2 {R : Type} (N : Nat) : ∀ (n : Nat) (x : pt_45_2.den) (k : Exit → St → Option R), iter 0 lv_45_2 lo_45_2 (aexec TT (E_45 (R := R) N) (drawOk TT QQ) (L_45 N) (loopAt 2 (bodyOf Try.f45))) n (pt_45_2.inst x) k = l_45_2 N n x (fun y => k (.exit 0) (px_45_2_0.inst y)) :=
  iter_eq (K := Exit → St → Option R) (ks := fun k => k) (l := fun n (x : pt_45_2.den) k => l_45_2 N n x (fun y => k (.exit 0) (px_45_2_0.inst y))) (B := fun (rec : pt_45_2.den → Option R) (x : pt_45_2.den) k => B_45_2 N rec x (fun y => k (.exit 0) (px_45_2_0.inst y))) (fun _ _ => rfl) (fun _ _ _ => rfl) (fun n x k => step_45_2 N n x k)
theorem rounds_45_2 {R : Type} (N : Nat) : Rounds 0 TT (E_45 (R := R) N) (drawOk TT QQ) (L_45 N) 2 (loopAt 2 (bodyOf Try.f45)) :=
  rounds_of (p := pt_45_2) (l := fun (x : pt_45_2.den) k => l_45_2 N N x (fun y => k (.exit 0) (px_45_2_0.inst y))) (fun s k => rfl) (fun x k => eq_45_2 N N x k)
theorem loops_45 : loopsIn (bodyOf Try.f45) = [(2, loopAt 2 (bodyOf Try.f45)), (5, loopAt 5 (bodyOf Try.f45)), (9, loopAt 9 (bodyOf Try.f45)), (19, loopAt 19 (bodyOf Try.f45))] := by kernel_rfl
theorem lok_45 {R : Type} (N : Nat) : LOK 0 TT (E_45 (R := R) N) (drawOk TT QQ) (L_45 N) (bodyOf Try.f45) := loops_all loops_45 (by
  simp only [List.forall_mem_cons, List.not_mem_nil, false_implies, implies_true, and_true]
  exact ⟨rounds_45_2 N, rounds_45_5 N, rounds_45_9 N, rounds_45_19 N⟩)
theorem grun_45 {R : Type} (q_41 : Tp_41 R) (m_45_9 : Tl_45_9 R) (m_45_19 : Tl_45_19 R) (m_45_5 : Tl_45_5 R) (m_45_2 : Tl_45_2 R) (x : aden ap_45 × hden hp_45) (k : KF R) : fnrun TT (EG_45 q_41) (drawOk TT QQ) (LG_45 m_45_9 m_45_19 m_45_5 m_45_2) true Try.f45 (instA ap_45 x.1) (instH hp_45 x.2) k = Q_45 q_41 m_45_9 m_45_19 m_45_5 m_45_2 x (fun y => k (Pat.inst (.vec (.int .u64) 128) y) (instH hp_45 x.2)) := by kernel_rfl
theorem run_45 {R : Type} (N : Nat) (x : aden ap_45 × hden hp_45) (k : KF R) : fnrun TT (E_45 (R := R) N) (drawOk TT QQ) (L_45 N) true Try.f45 (instA ap_45 x.1) (instH hp_45 x.2) k = p_45 N x (fun y => k (Pat.inst (.vec (.int .u64) 128) y) (instH hp_45 x.2)) := (grun_45 (p_41 N) (l_45_9 N N) (l_45_19 N N) (l_45_5 N N) (l_45_2 N N) x k).trans (by kernel_rfl)
theorem good_45 {R : Type} (N : Nat) : GD (X := R) Try.prog QQ 45 ap_45 hp_45 (fun (x : aden ap_45 × hden hp_45) k => p_45 N x (fun y => k (Pat.inst (.vec (.int .u64) 128) y) (instH hp_45 x.2))) :=
  gd_quiet (E := E_45 N) (p := fun (x : aden ap_45 × hden hp_45) κ => p_45 N x (fun y => κ (Pat.inst (.vec (.int .u64) 128) y))) mixed tyok (eok_45 N) Try.func45 (by kernel_rfl) (by kernel_rfl) (lok_45 N) (fun x k => run_45 N x k)

def ap_42 : List Pat := [.vec (.int .u64) 128, .vec (.int .u64) 128]
def hp_42 : List (Option (Pat × Nat)) := []
def p_42 {R : Type} (N : Nat) (x : ((Nat → Int) × (Nat → Int) × Unit) × (Unit)) (κ0 : (Nat → Int) → Option R) : Option R :=
let a412 : (Nat → Int) := x.1.1
let a413 : (Nat → Int) := x.1.2.1
let l414 : (List (Nat → Int)) := [a412, a413]
p_47 N ((l414, ()), ()) (fun y441 =>
let a442 : (Nat → Int) := y441
p_45 N ((a442, ()), ()) (fun y634 =>
let a635 : (Nat → Int) := y634
let l636 : (List (Nat → Int)) := [a442, a635]
p_47 N ((l636, ()), ()) (fun y637 =>
let a638 : (Nat → Int) := y637
κ0 a638)))

abbrev Tp_42 (R : Type) : Type := ((Nat → Int) × (Nat → Int) × Unit) × (Unit) → ((Nat → Int) → Option R) → Option R
def Q_42 {R : Type} (q_47 : Tp_47 R) (q_45 : Tp_45 R) (x : ((Nat → Int) × (Nat → Int) × Unit) × (Unit)) (κ0 : (Nat → Int) → Option R) : Option R :=
let a412 : (Nat → Int) := x.1.1
let a413 : (Nat → Int) := x.1.2.1
let l414 : (List (Nat → Int)) := [a412, a413]
q_47 ((l414, ()), ()) (fun y441 =>
let a442 : (Nat → Int) := y441
q_45 ((a442, ()), ()) (fun y634 =>
let a635 : (Nat → Int) := y634
let l636 : (List (Nat → Int)) := [a442, a635]
q_47 ((l636, ()), ()) (fun y637 =>
let a638 : (Nat → Int) := y637
κ0 a638)))
def EG_42 {R : Type} (q_47 : Tp_47 R) (q_45 : Tp_45 R) : Env R := ((Env.base QQ LN).add 47 ap_47 hp_47 (fun (x : aden ap_47 × hden hp_47) k => q_47 x (fun y => k (Pat.inst (.vec (.int .u64) 128) y) (instH hp_47 x.2)))).add 45 ap_45 hp_45 (fun (x : aden ap_45 × hden hp_45) k => q_45 x (fun y => k (Pat.inst (.vec (.int .u64) 128) y) (instH hp_45 x.2)))
def LG_42 {R : Type} : Loops R := Loops.none
def E_42 {R : Type} (N : Nat) : Env R := EG_42 (p_47 N) (p_45 N)
theorem eok_42 {R : Type} (N : Nat) : EK Try.prog (E_42 (R := R) N) := ek_add (ek_add (ek_base _ _) (good_47 N)) (good_45 N)
def L_42 {R : Type} (N : Nat) : Loops R := LG_42
theorem lok_42 {R : Type} (N : Nat) : LOK 0 TT (E_42 (R := R) N) (drawOk TT QQ) (L_42 N) (bodyOf Try.f42) := loops_nil (by kernel_rfl)
theorem grun_42 {R : Type} (q_47 : Tp_47 R) (q_45 : Tp_45 R) (x : aden ap_42 × hden hp_42) (k : KF R) : fnrun TT (EG_42 q_47 q_45) (drawOk TT QQ) (LG_42) true Try.f42 (instA ap_42 x.1) (instH hp_42 x.2) k = Q_42 q_47 q_45 x (fun y => k (Pat.inst (.vec (.int .u64) 128) y) (instH hp_42 x.2)) := by kernel_rfl
theorem run_42 {R : Type} (N : Nat) (x : aden ap_42 × hden hp_42) (k : KF R) : fnrun TT (E_42 (R := R) N) (drawOk TT QQ) (L_42 N) true Try.f42 (instA ap_42 x.1) (instH hp_42 x.2) k = p_42 N x (fun y => k (Pat.inst (.vec (.int .u64) 128) y) (instH hp_42 x.2)) := (grun_42 (p_47 N) (p_45 N) x k).trans (by kernel_rfl)
theorem good_42 {R : Type} (N : Nat) : GD (X := R) Try.prog QQ 42 ap_42 hp_42 (fun (x : aden ap_42 × hden hp_42) k => p_42 N x (fun y => k (Pat.inst (.vec (.int .u64) 128) y) (instH hp_42 x.2))) :=
  gd_quiet (E := E_42 N) (p := fun (x : aden ap_42 × hden hp_42) κ => p_42 N x (fun y => κ (Pat.inst (.vec (.int .u64) 128) y))) mixed tyok (eok_42 N) Try.func42 (by kernel_rfl) (by kernel_rfl) (lok_42 N) (fun x k => run_42 N x k)

def ap_72 : List Pat := [.node (.fcons (.int .i64) (.fcons (.int .i64) (.fcons (.int .i64) (.fcons (.int .i64) (.fcons (.int .i64) (.fcons (.int .i64) (.fcons (.int .i64) (.fcons (.int .i64) (.fnil))))))))), .int .i64, .int .i64, .int .i64, .int .i64]
def hp_72 : List (Option (Pat × Nat)) := []
def p_72 {R : Type} (N : Nat) (x : ((Int × (Int × (Int × (Int × (Int × (Int × (Int × (Int × Unit)))))))) × Int × Int × Int × Int × Unit) × (Unit)) (κ0 : (Nat → Int) → Option R) : Option R :=
let i383 : Int := x.1.1.1
let i384 : Int := x.1.1.2.1
let i385 : Int := x.1.1.2.2.1
let i386 : Int := x.1.1.2.2.2.1
let i387 : Int := x.1.1.2.2.2.2.1
let i388 : Int := x.1.1.2.2.2.2.2.1
let i389 : Int := x.1.1.2.2.2.2.2.2.1
let i390 : Int := x.1.1.2.2.2.2.2.2.2.1
let i391 : Int := x.1.2.1
let i392 : Int := x.1.2.2.1
let i393 : Int := x.1.2.2.2.1
let i394 : Int := x.1.2.2.2.2.1
let i395 : Int := IntKind.wrap .u64 i391
let a396 : (Nat → Int) := (upd ((Sch.zero (.arr 128 (.int .u64)))) 0 i395)
let i397 : Int := IntKind.wrap .u64 i393
let a398 : (Nat → Int) := (upd a396 1 i397)
let i399 : Int := IntKind.wrap .u64 i392
let a400 : (Nat → Int) := (upd a398 2 i399)
let i401 : Int := IntKind.wrap .u64 i387
let a402 : (Nat → Int) := (upd a400 3 i401)
let i403 : Int := IntKind.wrap .u64 i384
let a404 : (Nat → Int) := (upd a402 4 i403)
let i405 : Int := subA .i64 i383 1
let i406 : Int := IntKind.wrap .u64 i405
let a407 : (Nat → Int) := (upd a404 5 i406)
let i408 : Int := IntKind.wrap .u64 i394
let a409 : (Nat → Int) := (upd a407 6 i408)
let a410 : (Nat → Int) := (Sch.zero (.arr 128 (.int .u64)))
let a411 : (Nat → Int) := (Sch.zero (.arr 128 (.int .u64)))
p_42 N ((a411, a409, ()), ()) (fun y639 =>
let a640 : (Nat → Int) := y639
p_42 N ((a410, a640, ()), ()) (fun y641 =>
let a642 : (Nat → Int) := y641
κ0 a642))

abbrev Tp_72 (R : Type) : Type := ((Int × (Int × (Int × (Int × (Int × (Int × (Int × (Int × Unit)))))))) × Int × Int × Int × Int × Unit) × (Unit) → ((Nat → Int) → Option R) → Option R
def Q_72 {R : Type} (q_42 : Tp_42 R) (x : ((Int × (Int × (Int × (Int × (Int × (Int × (Int × (Int × Unit)))))))) × Int × Int × Int × Int × Unit) × (Unit)) (κ0 : (Nat → Int) → Option R) : Option R :=
let i383 : Int := x.1.1.1
let i384 : Int := x.1.1.2.1
let i385 : Int := x.1.1.2.2.1
let i386 : Int := x.1.1.2.2.2.1
let i387 : Int := x.1.1.2.2.2.2.1
let i388 : Int := x.1.1.2.2.2.2.2.1
let i389 : Int := x.1.1.2.2.2.2.2.2.1
let i390 : Int := x.1.1.2.2.2.2.2.2.2.1
let i391 : Int := x.1.2.1
let i392 : Int := x.1.2.2.1
let i393 : Int := x.1.2.2.2.1
let i394 : Int := x.1.2.2.2.2.1
let i395 : Int := IntKind.wrap .u64 i391
let a396 : (Nat → Int) := (upd ((Sch.zero (.arr 128 (.int .u64)))) 0 i395)
let i397 : Int := IntKind.wrap .u64 i393
let a398 : (Nat → Int) := (upd a396 1 i397)
let i399 : Int := IntKind.wrap .u64 i392
let a400 : (Nat → Int) := (upd a398 2 i399)
let i401 : Int := IntKind.wrap .u64 i387
let a402 : (Nat → Int) := (upd a400 3 i401)
let i403 : Int := IntKind.wrap .u64 i384
let a404 : (Nat → Int) := (upd a402 4 i403)
let i405 : Int := subA .i64 i383 1
let i406 : Int := IntKind.wrap .u64 i405
let a407 : (Nat → Int) := (upd a404 5 i406)
let i408 : Int := IntKind.wrap .u64 i394
let a409 : (Nat → Int) := (upd a407 6 i408)
let a410 : (Nat → Int) := (Sch.zero (.arr 128 (.int .u64)))
let a411 : (Nat → Int) := (Sch.zero (.arr 128 (.int .u64)))
q_42 ((a411, a409, ()), ()) (fun y639 =>
let a640 : (Nat → Int) := y639
q_42 ((a410, a640, ()), ()) (fun y641 =>
let a642 : (Nat → Int) := y641
κ0 a642))
def EG_72 {R : Type} (q_42 : Tp_42 R) : Env R := (Env.base QQ LN).add 42 ap_42 hp_42 (fun (x : aden ap_42 × hden hp_42) k => q_42 x (fun y => k (Pat.inst (.vec (.int .u64) 128) y) (instH hp_42 x.2)))
def LG_72 {R : Type} : Loops R := Loops.none
def E_72 {R : Type} (N : Nat) : Env R := EG_72 (p_42 N)
theorem eok_72 {R : Type} (N : Nat) : EK Try.prog (E_72 (R := R) N) := ek_add (ek_base _ _) (good_42 N)
def L_72 {R : Type} (N : Nat) : Loops R := LG_72
theorem lok_72 {R : Type} (N : Nat) : LOK 0 TT (E_72 (R := R) N) (drawOk TT QQ) (L_72 N) (bodyOf Try.f72) := loops_nil (by kernel_rfl)
theorem grun_72 {R : Type} (q_42 : Tp_42 R) (x : aden ap_72 × hden hp_72) (k : KF R) : fnrun TT (EG_72 q_42) (drawOk TT QQ) (LG_72) true Try.f72 (instA ap_72 x.1) (instH hp_72 x.2) k = Q_72 q_42 x (fun y => k (Pat.inst (.vec (.int .u64) 128) y) (instH hp_72 x.2)) := by kernel_rfl
theorem run_72 {R : Type} (N : Nat) (x : aden ap_72 × hden hp_72) (k : KF R) : fnrun TT (E_72 (R := R) N) (drawOk TT QQ) (L_72 N) true Try.f72 (instA ap_72 x.1) (instH hp_72 x.2) k = p_72 N x (fun y => k (Pat.inst (.vec (.int .u64) 128) y) (instH hp_72 x.2)) := (grun_72 (p_42 N) x k).trans (by kernel_rfl)
theorem good_72 {R : Type} (N : Nat) : GD (X := R) Try.prog QQ 72 ap_72 hp_72 (fun (x : aden ap_72 × hden hp_72) k => p_72 N x (fun y => k (Pat.inst (.vec (.int .u64) 128) y) (instH hp_72 x.2))) :=
  gd_quiet (E := E_72 N) (p := fun (x : aden ap_72 × hden hp_72) κ => p_72 N x (fun y => κ (Pat.inst (.vec (.int .u64) 128) y))) mixed tyok (eok_72 N) Try.func72 (by kernel_rfl) (by kernel_rfl) (lok_72 N) (fun x k => run_72 N x k)

def ap_74 : List Pat := [.node (.fcons (.int .i64) (.fcons (.int .i64) (.fcons (.int .i64) (.fcons (.int .i64) (.fcons (.int .i64) (.fcons (.int .i64) (.fcons (.int .i64) (.fcons (.int .i64) (.fnil))))))))), .int .i64, .int .i64]
def hp_74 : List (Option (Pat × Nat)) := []
def p_74 {R : Type} (N : Nat) (x : ((Int × (Int × (Int × (Int × (Int × (Int × (Int × (Int × Unit)))))))) × Int × Int × Unit) × (Unit)) (κ0 : Bool → Option R) : Option R :=
let i647 : Int := x.1.1.1
let i648 : Int := x.1.1.2.1
let i649 : Int := x.1.1.2.2.1
let i650 : Int := x.1.1.2.2.2.1
let i651 : Int := x.1.1.2.2.2.2.1
let i652 : Int := x.1.1.2.2.2.2.2.1
let i653 : Int := x.1.1.2.2.2.2.2.2.1
let i654 : Int := x.1.1.2.2.2.2.2.2.2.1
let i655 : Int := x.1.2.1
let i656 : Int := x.1.2.2.1
bif (i647 == 3) then (
bif (i655 == 0) then (
κ0 ((decide (i656 < 2)))) else (
κ0 false)) else (
κ0 ((i647 == 2)))

abbrev Tp_74 (R : Type) : Type := ((Int × (Int × (Int × (Int × (Int × (Int × (Int × (Int × Unit)))))))) × Int × Int × Unit) × (Unit) → (Bool → Option R) → Option R
def Q_74 {R : Type} (x : ((Int × (Int × (Int × (Int × (Int × (Int × (Int × (Int × Unit)))))))) × Int × Int × Unit) × (Unit)) (κ0 : Bool → Option R) : Option R :=
let i647 : Int := x.1.1.1
let i648 : Int := x.1.1.2.1
let i649 : Int := x.1.1.2.2.1
let i650 : Int := x.1.1.2.2.2.1
let i651 : Int := x.1.1.2.2.2.2.1
let i652 : Int := x.1.1.2.2.2.2.2.1
let i653 : Int := x.1.1.2.2.2.2.2.2.1
let i654 : Int := x.1.1.2.2.2.2.2.2.2.1
let i655 : Int := x.1.2.1
let i656 : Int := x.1.2.2.1
bif (i647 == 3) then (
bif (i655 == 0) then (
κ0 ((decide (i656 < 2)))) else (
κ0 false)) else (
κ0 ((i647 == 2)))
def EG_74 {R : Type} : Env R := Env.base QQ LN
def LG_74 {R : Type} : Loops R := Loops.none
def E_74 {R : Type} (N : Nat) : Env R := EG_74
theorem eok_74 {R : Type} (N : Nat) : EK Try.prog (E_74 (R := R) N) := ek_base _ _
def L_74 {R : Type} (N : Nat) : Loops R := LG_74
theorem lok_74 {R : Type} (N : Nat) : LOK 0 TT (E_74 (R := R) N) (drawOk TT QQ) (L_74 N) (bodyOf Try.f74) := loops_nil (by kernel_rfl)
theorem grun_74 {R : Type} (x : aden ap_74 × hden hp_74) (k : KF R) : fnrun TT (EG_74) (drawOk TT QQ) (LG_74) true Try.f74 (instA ap_74 x.1) (instH hp_74 x.2) k = Q_74 x (fun y => k (Pat.inst (.bool) y) (instH hp_74 x.2)) := by kernel_rfl
theorem run_74 {R : Type} (N : Nat) (x : aden ap_74 × hden hp_74) (k : KF R) : fnrun TT (E_74 (R := R) N) (drawOk TT QQ) (L_74 N) true Try.f74 (instA ap_74 x.1) (instH hp_74 x.2) k = p_74 N x (fun y => k (Pat.inst (.bool) y) (instH hp_74 x.2)) := (grun_74 x k).trans (by kernel_rfl)
theorem good_74 {R : Type} (N : Nat) : GD (X := R) Try.prog QQ 74 ap_74 hp_74 (fun (x : aden ap_74 × hden hp_74) k => p_74 N x (fun y => k (Pat.inst (.bool) y) (instH hp_74 x.2))) :=
  gd_quiet (E := E_74 N) (p := fun (x : aden ap_74 × hden hp_74) κ => p_74 N x (fun y => κ (Pat.inst (.bool) y))) mixed tyok (eok_74 N) Try.func74 (by kernel_rfl) (by kernel_rfl) (lok_74 N) (fun x k => run_74 N x k)

def ap_16 : List Pat := [.node (.fcons (.int .i64) (.fcons (.int .i64) (.fcons (.int .i64) (.fcons (.int .i64) (.fcons (.int .i64) (.fnil)))))), .node (.fcons (.int .i64) (.fcons (.int .i64) (.fnil))), .int .i64, .int .i64]
def hp_16 : List (Option (Pat × Nat)) := []
def p_16 {R : Type} (N : Nat) (x : ((Int × (Int × (Int × (Int × (Int × Unit))))) × (Int × (Int × Unit)) × Int × Int × Unit) × (Unit)) (κ0 : (Bool × (Unit)) → Option R) : Option R :=
let i1 : Int := x.1.1.1
let i2 : Int := x.1.1.2.1
let i3 : Int := x.1.1.2.2.1
let i4 : Int := x.1.1.2.2.2.1
let i5 : Int := x.1.1.2.2.2.2.1
let i6 : Int := x.1.2.1.1
let i7 : Int := x.1.2.1.2.1
let i8 : Int := x.1.2.2.1
let i9 : Int := x.1.2.2.2.1
p_69 N ((), ()) (fun y66 =>
let b67 : Bool := y66
bif (!b67) then (
κ0 (false, ())) else (
p_26 N (((i1, (i2, (i3, (i4, (i5, ()))))), ()), ()) (fun y68 =>
let i69 : Int := y68.1.1
let i70 : Int := y68.1.2.1
let i71 : Int := y68.1.2.2.1
let i72 : Int := y68.1.2.2.2.1
let i73 : Int := y68.1.2.2.2.2.1
let i74 : Int := y68.1.2.2.2.2.2.1
let i75 : Int := y68.1.2.2.2.2.2.2.1
let i76 : Int := y68.1.2.2.2.2.2.2.2.1
let i77 : Int := y68.2.1
bif (i77 != 0) then (
κ0 (true, ())) else (
p_49 N (((i69, (i70, (i71, (i72, (i73, (i74, (i75, (i76, ())))))))), (i6, (i7, ())), ()), ()) (fun y93 =>
let b94 : Bool := y93
bif (!b94) then (
κ0 (true, ())) else (
bif (decide (i8 < 0)) then (
κ0 (true, ())) else (
bif (decide (i8 ≥ i71)) then (
κ0 (true, ())) else (
let i95 : Int := IntKind.wrap .u64 i6
let i96 : Int := IntKind.wrap .u64 i8
let i97 : Int := IntKind.wrap .u64 i7
let i98 : Int := IntKind.wrap .u64 i73
let i99 : Int := IntKind.wrap .u64 i70
let i100 : Int := subA .i64 i1 1
let i101 : Int := IntKind.wrap .u64 i100
let i102 : Int := IntKind.wrap .u64 i9
let a103 : (Nat → Int) := (upd ((upd ((upd ((upd ((upd ((upd ((upd ((Sch.zero (.arr 128 (.int .u64)))) 0 i95)) 1 i96)) 2 i97)) 3 i98)) 4 i99)) 5 i101)) 6 i102)
p_70 N (((i69, (i70, (i71, (i72, (i73, (i74, (i75, (i76, ())))))))), (i6, (i7, ())), i8, i9, ()), ()) (fun y139 =>
let a140 : (Nat → Int) := y139
bif (!(schEq (.arr 128 (.int .u64)) a140 a103)) then (
κ0 (false, ())) else (
p_71 N (((i69, (i70, (i71, (i72, (i73, (i74, (i75, (i76, ())))))))), (i6, (i7, ())), i8, i9, ()), ()) (fun y381 =>
let a382 : (Nat → Int) := y381
p_72 N (((i69, (i70, (i71, (i72, (i73, (i74, (i75, (i76, ())))))))), i6, i7, i8, i9, ()), ()) (fun y643 =>
let a644 : (Nat → Int) := y643
bif (schEq (.arr 128 (.int .u64)) a382 a644) then (
p_73 N (((i69, (i70, (i71, (i72, (i73, (i74, (i75, (i76, ())))))))), (i6, (i7, ())), ()), ()) (fun y645 =>
let b646 : Bool := y645
p_74 N (((i69, (i70, (i71, (i72, (i73, (i74, (i75, (i76, ())))))))), i6, i7, ()), ()) (fun y657 =>
let b658 : Bool := y657
κ0 ((b646 == b658), ())))) else (
κ0 (false, ()))))))))))))))

abbrev Tp_16 (R : Type) : Type := ((Int × (Int × (Int × (Int × (Int × Unit))))) × (Int × (Int × Unit)) × Int × Int × Unit) × (Unit) → ((Bool × (Unit)) → Option R) → Option R
def Q_16 {R : Type} (q_69 : Tp_69 R) (q_26 : Tp_26 R) (q_49 : Tp_49 R) (q_70 : Tp_70 R) (q_71 : Tp_71 R) (q_72 : Tp_72 R) (q_73 : Tp_73 R) (q_74 : Tp_74 R) (x : ((Int × (Int × (Int × (Int × (Int × Unit))))) × (Int × (Int × Unit)) × Int × Int × Unit) × (Unit)) (κ0 : (Bool × (Unit)) → Option R) : Option R :=
let i1 : Int := x.1.1.1
let i2 : Int := x.1.1.2.1
let i3 : Int := x.1.1.2.2.1
let i4 : Int := x.1.1.2.2.2.1
let i5 : Int := x.1.1.2.2.2.2.1
let i6 : Int := x.1.2.1.1
let i7 : Int := x.1.2.1.2.1
let i8 : Int := x.1.2.2.1
let i9 : Int := x.1.2.2.2.1
q_69 ((), ()) (fun y66 =>
let b67 : Bool := y66
bif (!b67) then (
κ0 (false, ())) else (
q_26 (((i1, (i2, (i3, (i4, (i5, ()))))), ()), ()) (fun y68 =>
let i69 : Int := y68.1.1
let i70 : Int := y68.1.2.1
let i71 : Int := y68.1.2.2.1
let i72 : Int := y68.1.2.2.2.1
let i73 : Int := y68.1.2.2.2.2.1
let i74 : Int := y68.1.2.2.2.2.2.1
let i75 : Int := y68.1.2.2.2.2.2.2.1
let i76 : Int := y68.1.2.2.2.2.2.2.2.1
let i77 : Int := y68.2.1
bif (i77 != 0) then (
κ0 (true, ())) else (
q_49 (((i69, (i70, (i71, (i72, (i73, (i74, (i75, (i76, ())))))))), (i6, (i7, ())), ()), ()) (fun y93 =>
let b94 : Bool := y93
bif (!b94) then (
κ0 (true, ())) else (
bif (decide (i8 < 0)) then (
κ0 (true, ())) else (
bif (decide (i8 ≥ i71)) then (
κ0 (true, ())) else (
let i95 : Int := IntKind.wrap .u64 i6
let i96 : Int := IntKind.wrap .u64 i8
let i97 : Int := IntKind.wrap .u64 i7
let i98 : Int := IntKind.wrap .u64 i73
let i99 : Int := IntKind.wrap .u64 i70
let i100 : Int := subA .i64 i1 1
let i101 : Int := IntKind.wrap .u64 i100
let i102 : Int := IntKind.wrap .u64 i9
let a103 : (Nat → Int) := (upd ((upd ((upd ((upd ((upd ((upd ((upd ((Sch.zero (.arr 128 (.int .u64)))) 0 i95)) 1 i96)) 2 i97)) 3 i98)) 4 i99)) 5 i101)) 6 i102)
q_70 (((i69, (i70, (i71, (i72, (i73, (i74, (i75, (i76, ())))))))), (i6, (i7, ())), i8, i9, ()), ()) (fun y139 =>
let a140 : (Nat → Int) := y139
bif (!(schEq (.arr 128 (.int .u64)) a140 a103)) then (
κ0 (false, ())) else (
q_71 (((i69, (i70, (i71, (i72, (i73, (i74, (i75, (i76, ())))))))), (i6, (i7, ())), i8, i9, ()), ()) (fun y381 =>
let a382 : (Nat → Int) := y381
q_72 (((i69, (i70, (i71, (i72, (i73, (i74, (i75, (i76, ())))))))), i6, i7, i8, i9, ()), ()) (fun y643 =>
let a644 : (Nat → Int) := y643
bif (schEq (.arr 128 (.int .u64)) a382 a644) then (
q_73 (((i69, (i70, (i71, (i72, (i73, (i74, (i75, (i76, ())))))))), (i6, (i7, ())), ()), ()) (fun y645 =>
let b646 : Bool := y645
q_74 (((i69, (i70, (i71, (i72, (i73, (i74, (i75, (i76, ())))))))), i6, i7, ()), ()) (fun y657 =>
let b658 : Bool := y657
κ0 ((b646 == b658), ())))) else (
κ0 (false, ()))))))))))))))
def EG_16 {R : Type} (q_69 : Tp_69 R) (q_26 : Tp_26 R) (q_49 : Tp_49 R) (q_70 : Tp_70 R) (q_71 : Tp_71 R) (q_72 : Tp_72 R) (q_73 : Tp_73 R) (q_74 : Tp_74 R) : Env R := ((((((((Env.base QQ LN).add 69 ap_69 hp_69 (fun (x : aden ap_69 × hden hp_69) k => q_69 x (fun y => k (Pat.inst (.bool) y) (instH hp_69 x.2)))).add 26 ap_26 hp_26 (fun (x : aden ap_26 × hden hp_26) k => q_26 x (fun y => k (Pat.inst (.tup (.fcons (.node (.fcons (.int .i64) (.fcons (.int .i64) (.fcons (.int .i64) (.fcons (.int .i64) (.fcons (.int .i64) (.fcons (.int .i64) (.fcons (.int .i64) (.fcons (.int .i64) (.fnil)))))))))) (.fcons (.int .i64) (.fnil)))) y) (instH hp_26 x.2)))).add 49 ap_49 hp_49 (fun (x : aden ap_49 × hden hp_49) k => q_49 x (fun y => k (Pat.inst (.bool) y) (instH hp_49 x.2)))).add 70 ap_70 hp_70 (fun (x : aden ap_70 × hden hp_70) k => q_70 x (fun y => k (Pat.inst (.vec (.int .u64) 128) y) (instH hp_70 x.2)))).add 71 ap_71 hp_71 (fun (x : aden ap_71 × hden hp_71) k => q_71 x (fun y => k (Pat.inst (.vec (.int .u64) 128) y) (instH hp_71 x.2)))).add 72 ap_72 hp_72 (fun (x : aden ap_72 × hden hp_72) k => q_72 x (fun y => k (Pat.inst (.vec (.int .u64) 128) y) (instH hp_72 x.2)))).add 73 ap_73 hp_73 (fun (x : aden ap_73 × hden hp_73) k => q_73 x (fun y => k (Pat.inst (.bool) y) (instH hp_73 x.2)))).add 74 ap_74 hp_74 (fun (x : aden ap_74 × hden hp_74) k => q_74 x (fun y => k (Pat.inst (.bool) y) (instH hp_74 x.2)))
def LG_16 {R : Type} : Loops R := Loops.none
def E_16 {R : Type} (N : Nat) : Env R := EG_16 (p_69 N) (p_26 N) (p_49 N) (p_70 N) (p_71 N) (p_72 N) (p_73 N) (p_74 N)
theorem eok_16 {R : Type} (N : Nat) : EK Try.prog (E_16 (R := R) N) := ek_add (ek_add (ek_add (ek_add (ek_add (ek_add (ek_add (ek_add (ek_base _ _) (good_69 N)) (good_26 N)) (good_49 N)) (good_70 N)) (good_71 N)) (good_72 N)) (good_73 N)) (good_74 N)
def L_16 {R : Type} (N : Nat) : Loops R := LG_16
theorem lok_16 {R : Type} (N : Nat) : LOK 0 TT (E_16 (R := R) N) (drawOk TT QQ) (L_16 N) (bodyOf Try.f16) := loops_nil (by kernel_rfl)
theorem grun_16 {R : Type} (q_69 : Tp_69 R) (q_26 : Tp_26 R) (q_49 : Tp_49 R) (q_70 : Tp_70 R) (q_71 : Tp_71 R) (q_72 : Tp_72 R) (q_73 : Tp_73 R) (q_74 : Tp_74 R) (x : aden ap_16 × hden hp_16) (k : KF R) : fnrun TT (EG_16 q_69 q_26 q_49 q_70 q_71 q_72 q_73 q_74) (drawOk TT QQ) (LG_16) true Try.f16 (instA ap_16 x.1) (instH hp_16 x.2) k = Q_16 q_69 q_26 q_49 q_70 q_71 q_72 q_73 q_74 x (fun y => k (Pat.inst (.bool) y.1) (instH [] y.2)) := by kernel_rfl
theorem run_16 {R : Type} (N : Nat) (x : aden ap_16 × hden hp_16) (k : KF R) : fnrun TT (E_16 (R := R) N) (drawOk TT QQ) (L_16 N) true Try.f16 (instA ap_16 x.1) (instH hp_16 x.2) k = p_16 N x (fun y => k (Pat.inst (.bool) y.1) (instH [] y.2)) := (grun_16 (p_69 N) (p_26 N) (p_49 N) (p_70 N) (p_71 N) (p_72 N) (p_73 N) (p_74 N) x k).trans (by kernel_rfl)
theorem good_16 {R : Type} (N : Nat) : GD (X := R) Try.prog QQ 16 ap_16 hp_16 (fun (x : aden ap_16 × hden hp_16) k => p_16 N x (fun y => k (Pat.inst (.bool) y.1) (instH [] y.2))) :=
  gd_loud (E := E_16 N) (p := fun (x : aden ap_16 × hden hp_16) k => p_16 N x (fun y => k (Pat.inst (.bool) y.1) (instH [] y.2))) mixed tyok (eok_16 N) Try.func16 (by kernel_rfl) (by kernel_rfl) (by kernel_rfl) (lok_16 N) (fun x k => run_16 N x k)

end Go.Proofs.Ytjehpceomlnicaa.Eng
