/-
Plain functions that the functions of the program are shown to come to, printed by a program of the prover; each with its proof.
Conditions: none.
-/
import Derived.Test.YtfcloeflcpcheaaProg
import Derived.Test.YtfcloeflcpcheaaEngY
import Derived.KernelRfl
set_option linter.unusedVariables false
namespace Go.Proofs.Ytfcloeflcpcheaa.Eng
def TT : Types := [(23, ⟨.stru [(3, 0), (3, 1), (3, 2), (3, 3), (3, 4)], 5, 40, .node (.fcons (.int .i64 0) (.fcons (.int .i64 0) (.fcons (.int .i64 0) (.fcons (.int .i64 0) (.fcons (.int .i64 0) (.fnil)))))), some (.stru (.fcons (.int .i64) (.fcons (.int .i64) (.fcons (.int .i64) (.fcons (.int .i64) (.fcons (.int .i64) (.fnil))))))), true, false, none⟩),
  (24, ⟨.slice 51, 1, 24, .nils, some (.sl (.stru (.fcons (.int .i64) (.fcons (.int .i64) (.fcons (.int .u64) (.fnil)))))), false, false, none⟩),
  (4, ⟨.bool, 1, 1, .bool false, some (.bool), false, false, none⟩),
  (3, ⟨.int .i64, 1, 8, .int .i64 0, some (.int .i64), false, false, none⟩),
  (47, ⟨.stru [(3, 0), (3, 1), (3, 2), (3, 3), (3, 4), (3, 5), (3, 6), (3, 7)], 8, 64, .node (.fcons (.int .i64 0) (.fcons (.int .i64 0) (.fcons (.int .i64 0) (.fcons (.int .i64 0) (.fcons (.int .i64 0) (.fcons (.int .i64 0) (.fcons (.int .i64 0) (.fcons (.int .i64 0) (.fnil))))))))), some (.stru (.fcons (.int .i64) (.fcons (.int .i64) (.fcons (.int .i64) (.fcons (.int .i64) (.fcons (.int .i64) (.fcons (.int .i64) (.fcons (.int .i64) (.fcons (.int .i64) (.fnil)))))))))), true, false, none⟩),
  (30, ⟨.int .i64, 1, 8, .int .i64 0, some (.int .i64), false, false, none⟩),
  (100, ⟨.ptr 145, 1, 8, .nilp, none, false, false, none⟩),
  (145, ⟨.stru [(3, 0), (3, 1), (3, 2), (3, 3)], 4, 32, .node (.fcons (.int .i64 0) (.fcons (.int .i64 0) (.fcons (.int .i64 0) (.fcons (.int .i64 0) (.fnil))))), some (.stru (.fcons (.int .i64) (.fcons (.int .i64) (.fcons (.int .i64) (.fcons (.int .i64) (.fnil)))))), true, false, none⟩),
  (46, ⟨.ptr 147, 1, 8, .nilp, none, false, false, none⟩),
  (26, ⟨.ptr 49, 1, 8, .nilp, none, false, false, none⟩),
  (52, ⟨.slice 29, 1, 24, .nils, some (.sl (.arr 128 (.int .u64))), false, false, none⟩),
  (29, ⟨.arr 128 27, 128, 1024, .vec (.int .u64) 128 (Sch.zero (.arr 128 (.int .u64))), some (.arr 128 (.int .u64)), true, false, none⟩),
  (147, ⟨.stru [(100, 0), (52, 1), (4, 2)], 3, 40, .node (.fcons (.nilp) (.fcons (.nils) (.fcons (.bool false) (.fnil)))), none, false, false, none⟩),
  (49, ⟨.stru [(46, 0), (47, 1)], 9, 72, .node (.fcons (.nilp) (.fcons (.node (.fcons (.int .i64 0) (.fcons (.int .i64 0) (.fcons (.int .i64 0) (.fcons (.int .i64 0) (.fcons (.int .i64 0) (.fcons (.int .i64 0) (.fcons (.int .i64 0) (.fcons (.int .i64 0) (.fnil)))))))))) (.fnil))), none, false, false, none⟩),
  (34, ⟨.stru [(3, 0), (3, 1)], 2, 16, .node (.fcons (.int .i64 0) (.fcons (.int .i64 0) (.fnil))), some (.stru (.fcons (.int .i64) (.fcons (.int .i64) (.fnil)))), true, false, none⟩),
  (9, ⟨.str, 1, 16, .str ⟨#[]⟩, some (.str), false, false, none⟩),
  (149, ⟨.slice 9, 1, 24, .nils, some (.sl (.str)), false, false, none⟩),
  (45, ⟨.stru [(3, 0), (3, 1), (3, 2), (3, 3), (3, 4), (3, 5), (3, 6), (3, 7)], 8, 64, .node (.fcons (.int .i64 0) (.fcons (.int .i64 0) (.fcons (.int .i64 0) (.fcons (.int .i64 0) (.fcons (.int .i64 0) (.fcons (.int .i64 0) (.fcons (.int .i64 0) (.fcons (.int .i64 0) (.fnil))))))))), some (.stru (.fcons (.int .i64) (.fcons (.int .i64) (.fcons (.int .i64) (.fcons (.int .i64) (.fcons (.int .i64) (.fcons (.int .i64) (.fcons (.int .i64) (.fcons (.int .i64) (.fnil)))))))))), true, false, none⟩),
  (42, ⟨.slice 52, 1, 24, .nils, some (.sl (.sl (.arr 128 (.int .u64)))), false, false, some (29, .arr 128 (.int .u64))⟩),
  (51, ⟨.stru [(3, 0), (3, 1), (27, 2)], 3, 24, .node (.fcons (.int .i64 0) (.fcons (.int .i64 0) (.fcons (.int .u64 0) (.fnil)))), some (.stru (.fcons (.int .i64) (.fcons (.int .i64) (.fcons (.int .u64) (.fnil))))), true, false, none⟩),
  (27, ⟨.int .u64, 1, 8, .int .u64 0, some (.int .u64), false, false, none⟩)]
theorem tyok : TyOk Try.prog TT := TyOk.of (by kernel_rfl)
theorem mixed : Try.prog.follows .mixedOrders = true := by kernel_rfl
def QQ : FuncId → Bool := fun f => memN [8, 9, 10, 11, 13, 42, 46, 47, 55, 63, 76, 77, 78, 88] f
def LN : FuncId → Bool := fun f => memN [] f
def AA : FuncId → Bool := fun f => memN [] f
def WW : Qs := fun f => (QQ f || LN f || AA f, QQ f || LN f)
def ap_63 : List Pat := [.int .i64, .int .i64, .int .i64]
def hp_63 : List (Option (Pat × Nat)) := []
def p_63 {R : Type} (N : Nat) (x : (Int × Int × Int × Unit) × (Unit)) (κ0 : Bool → Option R) : Option R :=
let i12 : Int := x.1.1
let i13 : Int := x.1.2.1
let i14 : Int := x.1.2.2.1
bif (decide (i12 ≥ i13)) then (
κ0 ((decide (i12 ≤ i14)))) else (
κ0 false)

abbrev Tp_63 (R : Type) : Type := (Int × Int × Int × Unit) × (Unit) → (Bool → Option R) → Option R
def Q_63 {R : Type} (x : (Int × Int × Int × Unit) × (Unit)) (κ0 : Bool → Option R) : Option R :=
let i12 : Int := x.1.1
let i13 : Int := x.1.2.1
let i14 : Int := x.1.2.2.1
bif (decide (i12 ≥ i13)) then (
κ0 ((decide (i12 ≤ i14)))) else (
κ0 false)
def EG_63 {R : Type} : Env R := Env.base QQ LN AA
def LG_63 {R : Type} : Loops R := Loops.none
def E_63 {R : Type} (N : Nat) : Env R := EG_63
theorem eok_63 {R : Type} (N : Nat) : EK Try.prog (E_63 (R := R) N) := ek_base _ _ _
def L_63 {R : Type} (N : Nat) : Loops R := LG_63
theorem lok_63 {R : Type} (N : Nat) : LOK 0 TT (E_63 (R := R) N) (drawAny TT WW) (L_63 N) (bodyOf Try.f63) := loops_nil (by kernel_rfl)
theorem grun_63 {R : Type} (x : aden ap_63 × hden hp_63) (k : KF R) : fnrun TT (EG_63) (drawAny TT WW) (LG_63) true Try.f63 (instA ap_63 x.1) (instH hp_63 x.2) k = Q_63 x (fun y => k (Pat.inst (.bool) y) (instH hp_63 x.2)) := by kernel_rfl
theorem run_63 {R : Type} (N : Nat) (x : aden ap_63 × hden hp_63) (k : KF R) : fnrun TT (E_63 (R := R) N) (drawAny TT WW) (L_63 N) true Try.f63 (instA ap_63 x.1) (instH hp_63 x.2) k = p_63 N x (fun y => k (Pat.inst (.bool) y) (instH hp_63 x.2)) := (grun_63 x k).trans (by kernel_rfl)
theorem good_63 {R : Type} (N : Nat) : GD (X := R) Try.prog QQ AA 63 ap_63 hp_63 (fun (x : aden ap_63 × hden hp_63) k => p_63 N x (fun y => k (Pat.inst (.bool) y) (instH hp_63 x.2))) :=
  gd_quiet (E := E_63 N) (p := fun (x : aden ap_63 × hden hp_63) κ => p_63 N x (fun y => κ (Pat.inst (.bool) y))) mixed tyok (eok_63 N) Try.func63 (by kernel_rfl) (by kernel_rfl) (lok_63 N) (fun x k => run_63 N x k)

def ap_88 : List Pat := [.int .i64]
def hp_88 : List (Option (Pat × Nat)) := []
def p_88 {R : Type} (N : Nat) (x : (Int × Unit) × (Unit)) (κ0 : Bool → Option R) : Option R :=
let i29 : Int := x.1.1
bif (decide (i29 ≥ 0)) then (
κ0 ((decide (i29 ≤ 4611686018427387904)))) else (
κ0 false)

abbrev Tp_88 (R : Type) : Type := (Int × Unit) × (Unit) → (Bool → Option R) → Option R
def Q_88 {R : Type} (x : (Int × Unit) × (Unit)) (κ0 : Bool → Option R) : Option R :=
let i29 : Int := x.1.1
bif (decide (i29 ≥ 0)) then (
κ0 ((decide (i29 ≤ 4611686018427387904)))) else (
κ0 false)
def EG_88 {R : Type} : Env R := Env.base QQ LN AA
def LG_88 {R : Type} : Loops R := Loops.none
def E_88 {R : Type} (N : Nat) : Env R := EG_88
theorem eok_88 {R : Type} (N : Nat) : EK Try.prog (E_88 (R := R) N) := ek_base _ _ _
def L_88 {R : Type} (N : Nat) : Loops R := LG_88
theorem lok_88 {R : Type} (N : Nat) : LOK 0 TT (E_88 (R := R) N) (drawAny TT WW) (L_88 N) (bodyOf Try.f88) := loops_nil (by kernel_rfl)
theorem grun_88 {R : Type} (x : aden ap_88 × hden hp_88) (k : KF R) : fnrun TT (EG_88) (drawAny TT WW) (LG_88) true Try.f88 (instA ap_88 x.1) (instH hp_88 x.2) k = Q_88 x (fun y => k (Pat.inst (.bool) y) (instH hp_88 x.2)) := by kernel_rfl
theorem run_88 {R : Type} (N : Nat) (x : aden ap_88 × hden hp_88) (k : KF R) : fnrun TT (E_88 (R := R) N) (drawAny TT WW) (L_88 N) true Try.f88 (instA ap_88 x.1) (instH hp_88 x.2) k = p_88 N x (fun y => k (Pat.inst (.bool) y) (instH hp_88 x.2)) := (grun_88 x k).trans (by kernel_rfl)
theorem good_88 {R : Type} (N : Nat) : GD (X := R) Try.prog QQ AA 88 ap_88 hp_88 (fun (x : aden ap_88 × hden hp_88) k => p_88 N x (fun y => k (Pat.inst (.bool) y) (instH hp_88 x.2))) :=
  gd_quiet (E := E_88 N) (p := fun (x : aden ap_88 × hden hp_88) κ => p_88 N x (fun y => κ (Pat.inst (.bool) y))) mixed tyok (eok_88 N) Try.func88 (by kernel_rfl) (by kernel_rfl) (lok_88 N) (fun x k => run_88 N x k)

def ap_76 : List Pat := [.int .i64, .int .i64]
def hp_76 : List (Option (Pat × Nat)) := []
def p_76 {R : Type} (N : Nat) (x : (Int × Int × Unit) × (Unit)) (κ0 : (Int × (Int × Unit)) → Option R) : Option R :=
let i27 : Int := x.1.1
let i28 : Int := x.1.2.1
p_88 N ((i27, ()), ()) (fun y30 =>
let b31 : Bool := y30
bif (!b31) then (
κ0 ((0, (1, ())))) else (
bif (decide (i28 < 1)) then (
κ0 ((0, (1, ())))) else (
bif decide (i28 = 0) then none else (
let i32 : Int := remA .i64 i27 i28
let i33 : Int := subA .i64 i27 i32
κ0 ((i33, (0, ())))))))

abbrev Tp_76 (R : Type) : Type := (Int × Int × Unit) × (Unit) → ((Int × (Int × Unit)) → Option R) → Option R
def Q_76 {R : Type} (q_88 : Tp_88 R) (x : (Int × Int × Unit) × (Unit)) (κ0 : (Int × (Int × Unit)) → Option R) : Option R :=
let i27 : Int := x.1.1
let i28 : Int := x.1.2.1
q_88 ((i27, ()), ()) (fun y30 =>
let b31 : Bool := y30
bif (!b31) then (
κ0 ((0, (1, ())))) else (
bif (decide (i28 < 1)) then (
κ0 ((0, (1, ())))) else (
bif decide (i28 = 0) then none else (
let i32 : Int := remA .i64 i27 i28
let i33 : Int := subA .i64 i27 i32
κ0 ((i33, (0, ())))))))
def EG_76 {R : Type} (q_88 : Tp_88 R) : Env R := (Env.base QQ LN AA).add 88 ap_88 hp_88 (fun (x : aden ap_88 × hden hp_88) k => q_88 x (fun y => k (Pat.inst (.bool) y) (instH hp_88 x.2)))
def LG_76 {R : Type} : Loops R := Loops.none
def E_76 {R : Type} (N : Nat) : Env R := EG_76 (p_88 N)
theorem eok_76 {R : Type} (N : Nat) : EK Try.prog (E_76 (R := R) N) := ek_add (ek_base _ _ _) (good_88 N)
def L_76 {R : Type} (N : Nat) : Loops R := LG_76
theorem lok_76 {R : Type} (N : Nat) : LOK 0 TT (E_76 (R := R) N) (drawAny TT WW) (L_76 N) (bodyOf Try.f76) := loops_nil (by kernel_rfl)
theorem grun_76 {R : Type} (q_88 : Tp_88 R) (x : aden ap_76 × hden hp_76) (k : KF R) : fnrun TT (EG_76 q_88) (drawAny TT WW) (LG_76) true Try.f76 (instA ap_76 x.1) (instH hp_76 x.2) k = Q_76 q_88 x (fun y => k (Pat.inst (.tup (.fcons (.int .i64) (.fcons (.int .i64) (.fnil)))) y) (instH hp_76 x.2)) := by kernel_rfl
theorem run_76 {R : Type} (N : Nat) (x : aden ap_76 × hden hp_76) (k : KF R) : fnrun TT (E_76 (R := R) N) (drawAny TT WW) (L_76 N) true Try.f76 (instA ap_76 x.1) (instH hp_76 x.2) k = p_76 N x (fun y => k (Pat.inst (.tup (.fcons (.int .i64) (.fcons (.int .i64) (.fnil)))) y) (instH hp_76 x.2)) := (grun_76 (p_88 N) x k).trans (by kernel_rfl)
theorem good_76 {R : Type} (N : Nat) : GD (X := R) Try.prog QQ AA 76 ap_76 hp_76 (fun (x : aden ap_76 × hden hp_76) k => p_76 N x (fun y => k (Pat.inst (.tup (.fcons (.int .i64) (.fcons (.int .i64) (.fnil)))) y) (instH hp_76 x.2))) :=
  gd_quiet (E := E_76 N) (p := fun (x : aden ap_76 × hden hp_76) κ => p_76 N x (fun y => κ (Pat.inst (.tup (.fcons (.int .i64) (.fcons (.int .i64) (.fnil)))) y))) mixed tyok (eok_76 N) Try.func76 (by kernel_rfl) (by kernel_rfl) (lok_76 N) (fun x k => run_76 N x k)

def ap_42 : List Pat := [.node (.fcons (.int .i64) (.fcons (.int .i64) (.fcons (.int .i64) (.fcons (.int .i64) (.fcons (.int .i64) (.fnil))))))]
def hp_42 : List (Option (Pat × Nat)) := []
def p_42 {R : Type} (N : Nat) (x : ((Int × (Int × (Int × (Int × (Int × Unit))))) × Unit) × (Unit)) (κ0 : ((Int × (Int × (Int × (Int × (Int × (Int × (Int × (Int × Unit)))))))) × (Int × Unit)) → Option R) : Option R :=
let i7 : Int := x.1.1.1
let i8 : Int := x.1.1.2.1
let i9 : Int := x.1.1.2.2.1
let i10 : Int := x.1.1.2.2.2.1
let i11 : Int := x.1.1.2.2.2.2.1
p_63 N ((i7, 1, 3, ()), ()) (fun y15 =>
let b16 : Bool := y15
bif b16 then (
p_63 N ((i8, 1, 4294967295, ()), ()) (fun y17 =>
let b18 : Bool := y17
bif b18 then (
p_63 N ((i10, 1, 16777215, ()), ()) (fun y19 =>
let b20 : Bool := y19
bif b20 then (
p_63 N ((i9, 1, 4294967295, ()), ()) (fun y21 =>
let b22 : Bool := y21
bif b22 then (
let i23 : Int := quoA .i64 i9 8
bif (decide (i23 ≥ i10)) then (
p_63 N ((i11, 4, 1024, ()), ()) (fun y24 =>
let b25 : Bool := y24
bif (!b25) then (
κ0 (((0, (0, (0, (0, (0, (0, (0, (0, ())))))))), (2, ())))) else (
let i26 : Int := mulA .i64 4 i10
p_76 N ((i9, i26, ()), ()) (fun y34 =>
let i35 : Int := y34.1
let i36 : Int := y34.2.1
bif decide (i10 = 0) then none else (
let i37 : Int := quoA .i64 i35 i10
let i38 : Int := quoA .i64 i37 4
κ0 (((i7, (i8, (i10, (i9, (i35, (i37, (i38, (i11, ())))))))), (0, ())))))))) else (
κ0 (((0, (0, (0, (0, (0, (0, (0, (0, ())))))))), (2, ()))))) else (
κ0 (((0, (0, (0, (0, (0, (0, (0, (0, ())))))))), (2, ())))))) else (
κ0 (((0, (0, (0, (0, (0, (0, (0, (0, ())))))))), (2, ())))))) else (
κ0 (((0, (0, (0, (0, (0, (0, (0, (0, ())))))))), (2, ())))))) else (
κ0 (((0, (0, (0, (0, (0, (0, (0, (0, ())))))))), (2, ())))))

abbrev Tp_42 (R : Type) : Type := ((Int × (Int × (Int × (Int × (Int × Unit))))) × Unit) × (Unit) → (((Int × (Int × (Int × (Int × (Int × (Int × (Int × (Int × Unit)))))))) × (Int × Unit)) → Option R) → Option R
def Q_42 {R : Type} (q_63 : Tp_63 R) (q_76 : Tp_76 R) (x : ((Int × (Int × (Int × (Int × (Int × Unit))))) × Unit) × (Unit)) (κ0 : ((Int × (Int × (Int × (Int × (Int × (Int × (Int × (Int × Unit)))))))) × (Int × Unit)) → Option R) : Option R :=
let i7 : Int := x.1.1.1
let i8 : Int := x.1.1.2.1
let i9 : Int := x.1.1.2.2.1
let i10 : Int := x.1.1.2.2.2.1
let i11 : Int := x.1.1.2.2.2.2.1
q_63 ((i7, 1, 3, ()), ()) (fun y15 =>
let b16 : Bool := y15
bif b16 then (
q_63 ((i8, 1, 4294967295, ()), ()) (fun y17 =>
let b18 : Bool := y17
bif b18 then (
q_63 ((i10, 1, 16777215, ()), ()) (fun y19 =>
let b20 : Bool := y19
bif b20 then (
q_63 ((i9, 1, 4294967295, ()), ()) (fun y21 =>
let b22 : Bool := y21
bif b22 then (
let i23 : Int := quoA .i64 i9 8
bif (decide (i23 ≥ i10)) then (
q_63 ((i11, 4, 1024, ()), ()) (fun y24 =>
let b25 : Bool := y24
bif (!b25) then (
κ0 (((0, (0, (0, (0, (0, (0, (0, (0, ())))))))), (2, ())))) else (
let i26 : Int := mulA .i64 4 i10
q_76 ((i9, i26, ()), ()) (fun y34 =>
let i35 : Int := y34.1
let i36 : Int := y34.2.1
bif decide (i10 = 0) then none else (
let i37 : Int := quoA .i64 i35 i10
let i38 : Int := quoA .i64 i37 4
κ0 (((i7, (i8, (i10, (i9, (i35, (i37, (i38, (i11, ())))))))), (0, ())))))))) else (
κ0 (((0, (0, (0, (0, (0, (0, (0, (0, ())))))))), (2, ()))))) else (
κ0 (((0, (0, (0, (0, (0, (0, (0, (0, ())))))))), (2, ())))))) else (
κ0 (((0, (0, (0, (0, (0, (0, (0, (0, ())))))))), (2, ())))))) else (
κ0 (((0, (0, (0, (0, (0, (0, (0, (0, ())))))))), (2, ())))))) else (
κ0 (((0, (0, (0, (0, (0, (0, (0, (0, ())))))))), (2, ())))))
def EG_42 {R : Type} (q_63 : Tp_63 R) (q_76 : Tp_76 R) : Env R := ((Env.base QQ LN AA).add 63 ap_63 hp_63 (fun (x : aden ap_63 × hden hp_63) k => q_63 x (fun y => k (Pat.inst (.bool) y) (instH hp_63 x.2)))).add 76 ap_76 hp_76 (fun (x : aden ap_76 × hden hp_76) k => q_76 x (fun y => k (Pat.inst (.tup (.fcons (.int .i64) (.fcons (.int .i64) (.fnil)))) y) (instH hp_76 x.2)))
def LG_42 {R : Type} : Loops R := Loops.none
def E_42 {R : Type} (N : Nat) : Env R := EG_42 (p_63 N) (p_76 N)
theorem eok_42 {R : Type} (N : Nat) : EK Try.prog (E_42 (R := R) N) := ek_add (ek_add (ek_base _ _ _) (good_63 N)) (good_76 N)
def L_42 {R : Type} (N : Nat) : Loops R := LG_42
theorem lok_42 {R : Type} (N : Nat) : LOK 0 TT (E_42 (R := R) N) (drawAny TT WW) (L_42 N) (bodyOf Try.f42) := loops_nil (by kernel_rfl)
theorem grun_42 {R : Type} (q_63 : Tp_63 R) (q_76 : Tp_76 R) (x : aden ap_42 × hden hp_42) (k : KF R) : fnrun TT (EG_42 q_63 q_76) (drawAny TT WW) (LG_42) true Try.f42 (instA ap_42 x.1) (instH hp_42 x.2) k = Q_42 q_63 q_76 x (fun y => k (Pat.inst (.tup (.fcons (.node (.fcons (.int .i64) (.fcons (.int .i64) (.fcons (.int .i64) (.fcons (.int .i64) (.fcons (.int .i64) (.fcons (.int .i64) (.fcons (.int .i64) (.fcons (.int .i64) (.fnil)))))))))) (.fcons (.int .i64) (.fnil)))) y) (instH hp_42 x.2)) := by kernel_rfl
theorem run_42 {R : Type} (N : Nat) (x : aden ap_42 × hden hp_42) (k : KF R) : fnrun TT (E_42 (R := R) N) (drawAny TT WW) (L_42 N) true Try.f42 (instA ap_42 x.1) (instH hp_42 x.2) k = p_42 N x (fun y => k (Pat.inst (.tup (.fcons (.node (.fcons (.int .i64) (.fcons (.int .i64) (.fcons (.int .i64) (.fcons (.int .i64) (.fcons (.int .i64) (.fcons (.int .i64) (.fcons (.int .i64) (.fcons (.int .i64) (.fnil)))))))))) (.fcons (.int .i64) (.fnil)))) y) (instH hp_42 x.2)) := (grun_42 (p_63 N) (p_76 N) x k).trans (by kernel_rfl)
theorem good_42 {R : Type} (N : Nat) : GD (X := R) Try.prog QQ AA 42 ap_42 hp_42 (fun (x : aden ap_42 × hden hp_42) k => p_42 N x (fun y => k (Pat.inst (.tup (.fcons (.node (.fcons (.int .i64) (.fcons (.int .i64) (.fcons (.int .i64) (.fcons (.int .i64) (.fcons (.int .i64) (.fcons (.int .i64) (.fcons (.int .i64) (.fcons (.int .i64) (.fnil)))))))))) (.fcons (.int .i64) (.fnil)))) y) (instH hp_42 x.2))) :=
  gd_quiet (E := E_42 N) (p := fun (x : aden ap_42 × hden hp_42) κ => p_42 N x (fun y => κ (Pat.inst (.tup (.fcons (.node (.fcons (.int .i64) (.fcons (.int .i64) (.fcons (.int .i64) (.fcons (.int .i64) (.fcons (.int .i64) (.fcons (.int .i64) (.fcons (.int .i64) (.fcons (.int .i64) (.fnil)))))))))) (.fcons (.int .i64) (.fnil)))) y))) mixed tyok (eok_42 N) Try.func42 (by kernel_rfl) (by kernel_rfl) (lok_42 N) (fun x k => run_42 N x k)

def ap_43 : List Pat := [.int .i64]
def hp_43 : List (Option (Pat × Nat)) := []
def p_43 {R : Type} (N : Nat) (x : (Int × Unit) × (Unit)) (κ0 : ((Unit × (Int × Unit)) × (Unit)) → Option R) (κ1 : ((Unit × (Int × Unit)) × ((Int × (Int × (Int × (Int × Unit)))) × Unit)) → Option R) : Option R :=
let i49 : Int := x.1.1
bif (decide (i49 < 0)) then (
κ0 (((), (1, ())), ())) else (
bif (decide (i49 > 4194304)) then (
κ0 (((), (1, ())), ())) else (
κ1 (((), (0, ())), ((i49, (0, (0, (0, ())))), ()))))

abbrev Tp_43 (R : Type) : Type := (Int × Unit) × (Unit) → (((Unit × (Int × Unit)) × (Unit)) → Option R) → (((Unit × (Int × Unit)) × ((Int × (Int × (Int × (Int × Unit)))) × Unit)) → Option R) → Option R
def Q_43 {R : Type} (x : (Int × Unit) × (Unit)) (κ0 : ((Unit × (Int × Unit)) × (Unit)) → Option R) (κ1 : ((Unit × (Int × Unit)) × ((Int × (Int × (Int × (Int × Unit)))) × Unit)) → Option R) : Option R :=
let i49 : Int := x.1.1
bif (decide (i49 < 0)) then (
κ0 (((), (1, ())), ())) else (
bif (decide (i49 > 4194304)) then (
κ0 (((), (1, ())), ())) else (
κ1 (((), (0, ())), ((i49, (0, (0, (0, ())))), ()))))
def EG_43 {R : Type} : Env R := Env.base QQ LN AA
def LG_43 {R : Type} : Loops R := Loops.none
def E_43 {R : Type} (N : Nat) : Env R := EG_43
theorem eok_43 {R : Type} (N : Nat) : EK Try.prog (E_43 (R := R) N) := ek_base _ _ _
def L_43 {R : Type} (N : Nat) : Loops R := LG_43
theorem lok_43 {R : Type} (N : Nat) : LOK 0 TT (E_43 (R := R) N) (drawAny TT WW) (L_43 N) (bodyOf Try.f43) := loops_nil (by kernel_rfl)
theorem grun_43 {R : Type} (x : aden ap_43 × hden hp_43) (k : KF R) : fnrun TT (EG_43) (drawAny TT WW) (LG_43) true Try.f43 (instA ap_43 x.1) (instH hp_43 x.2) k = Q_43 x (fun y => k (Pat.inst (.tup (.fcons (.nilp) (.fcons (.int .i64) (.fnil)))) y.1) (instH [] y.2)) (fun y => k (Pat.inst (.tup (.fcons (.ptr 0 []) (.fcons (.int .i64) (.fnil)))) y.1) (instH [some (.node (.fcons (.int .i64) (.fcons (.int .i64) (.fcons (.int .i64) (.fcons (.int .i64) (.fnil))))), 145)] y.2)) := by kernel_rfl
theorem run_43 {R : Type} (N : Nat) (x : aden ap_43 × hden hp_43) (k : KF R) : fnrun TT (E_43 (R := R) N) (drawAny TT WW) (L_43 N) true Try.f43 (instA ap_43 x.1) (instH hp_43 x.2) k = p_43 N x (fun y => k (Pat.inst (.tup (.fcons (.nilp) (.fcons (.int .i64) (.fnil)))) y.1) (instH [] y.2)) (fun y => k (Pat.inst (.tup (.fcons (.ptr 0 []) (.fcons (.int .i64) (.fnil)))) y.1) (instH [some (.node (.fcons (.int .i64) (.fcons (.int .i64) (.fcons (.int .i64) (.fcons (.int .i64) (.fnil))))), 145)] y.2)) := (grun_43 x k).trans (by kernel_rfl)
theorem good_43 {R : Type} (N : Nat) : GD (X := R) Try.prog QQ AA 43 ap_43 hp_43 (fun (x : aden ap_43 × hden hp_43) k => p_43 N x (fun y => k (Pat.inst (.tup (.fcons (.nilp) (.fcons (.int .i64) (.fnil)))) y.1) (instH [] y.2)) (fun y => k (Pat.inst (.tup (.fcons (.ptr 0 []) (.fcons (.int .i64) (.fnil)))) y.1) (instH [some (.node (.fcons (.int .i64) (.fcons (.int .i64) (.fcons (.int .i64) (.fcons (.int .i64) (.fnil))))), 145)] y.2))) :=
  gd_loud (E := E_43 N) (p := fun (x : aden ap_43 × hden hp_43) k => p_43 N x (fun y => k (Pat.inst (.tup (.fcons (.nilp) (.fcons (.int .i64) (.fnil)))) y.1) (instH [] y.2)) (fun y => k (Pat.inst (.tup (.fcons (.ptr 0 []) (.fcons (.int .i64) (.fnil)))) y.1) (instH [some (.node (.fcons (.int .i64) (.fcons (.int .i64) (.fcons (.int .i64) (.fcons (.int .i64) (.fnil))))), 145)] y.2))) mixed tyok (eok_43 N) Try.func43 (by kernel_rfl) (by kernel_rfl) (by kernel_rfl) (by kernel_rfl) (lok_43 N) (fun x k => run_43 N x k)

def ap_44 : List Pat := [.nilp, .int .i64]
def hp_44 : List (Option (Pat × Nat)) := []
def p_44 {R : Type} (N : Nat) (x : (Unit × Int × Unit) × (Unit)) (κ0 : ((Unit × (Int × Unit)) × (Unit)) → Option R) : Option R :=
let i52 : Int := x.1.2.1
κ0 (((), (11, ())), ())

abbrev Tp_44 (R : Type) : Type := (Unit × Int × Unit) × (Unit) → (((Unit × (Int × Unit)) × (Unit)) → Option R) → Option R
def Q_44 {R : Type} (x : (Unit × Int × Unit) × (Unit)) (κ0 : ((Unit × (Int × Unit)) × (Unit)) → Option R) : Option R :=
let i52 : Int := x.1.2.1
κ0 (((), (11, ())), ())
def EG_44 {R : Type} : Env R := Env.base QQ LN AA
def LG_44 {R : Type} : Loops R := Loops.none
def E_44 {R : Type} (N : Nat) : Env R := EG_44
theorem eok_44 {R : Type} (N : Nat) : EK Try.prog (E_44 (R := R) N) := ek_base _ _ _
def L_44 {R : Type} (N : Nat) : Loops R := LG_44
theorem lok_44 {R : Type} (N : Nat) : LOK 0 TT (E_44 (R := R) N) (drawAny TT WW) (L_44 N) (bodyOf Try.f44) := loops_nil (by kernel_rfl)
theorem grun_44 {R : Type} (x : aden ap_44 × hden hp_44) (k : KF R) : fnrun TT (EG_44) (drawAny TT WW) (LG_44) true Try.f44 (instA ap_44 x.1) (instH hp_44 x.2) k = Q_44 x (fun y => k (Pat.inst (.tup (.fcons (.nilp) (.fcons (.int .i64) (.fnil)))) y.1) (instH [] y.2)) := by kernel_rfl
theorem run_44 {R : Type} (N : Nat) (x : aden ap_44 × hden hp_44) (k : KF R) : fnrun TT (E_44 (R := R) N) (drawAny TT WW) (L_44 N) true Try.f44 (instA ap_44 x.1) (instH hp_44 x.2) k = p_44 N x (fun y => k (Pat.inst (.tup (.fcons (.nilp) (.fcons (.int .i64) (.fnil)))) y.1) (instH [] y.2)) := (grun_44 x k).trans (by kernel_rfl)
theorem good_44 {R : Type} (N : Nat) : GD (X := R) Try.prog QQ AA 44 ap_44 hp_44 (fun (x : aden ap_44 × hden hp_44) k => p_44 N x (fun y => k (Pat.inst (.tup (.fcons (.nilp) (.fcons (.int .i64) (.fnil)))) y.1) (instH [] y.2))) :=
  gd_loud (E := E_44 N) (p := fun (x : aden ap_44 × hden hp_44) k => p_44 N x (fun y => k (Pat.inst (.tup (.fcons (.nilp) (.fcons (.int .i64) (.fnil)))) y.1) (instH [] y.2))) mixed tyok (eok_44 N) Try.func44 (by kernel_rfl) (by kernel_rfl) (by kernel_rfl) (by kernel_rfl) (lok_44 N) (fun x k => run_44 N x k)

def ap_45 : List Pat := [.nilp, .node (.fcons (.int .i64) (.fcons (.int .i64) (.fcons (.int .i64) (.fcons (.int .i64) (.fcons (.int .i64) (.fcons (.int .i64) (.fcons (.int .i64) (.fcons (.int .i64) (.fnil)))))))))]
def hp_45 : List (Option (Pat × Nat)) := []
def p_45 {R : Type} (N : Nat) (x : (Unit × (Int × (Int × (Int × (Int × (Int × (Int × (Int × (Int × Unit)))))))) × Unit) × (Unit)) (κ0 : ((Unit × (Int × Unit)) × (Unit)) → Option R) : Option R :=
let i57 : Int := x.1.2.1.1
let i58 : Int := x.1.2.1.2.1
let i59 : Int := x.1.2.1.2.2.1
let i60 : Int := x.1.2.1.2.2.2.1
let i61 : Int := x.1.2.1.2.2.2.2.1
let i62 : Int := x.1.2.1.2.2.2.2.2.1
let i63 : Int := x.1.2.1.2.2.2.2.2.2.1
let i64 : Int := x.1.2.1.2.2.2.2.2.2.2.1
κ0 (((), (11, ())), ())

abbrev Tp_45 (R : Type) : Type := (Unit × (Int × (Int × (Int × (Int × (Int × (Int × (Int × (Int × Unit)))))))) × Unit) × (Unit) → (((Unit × (Int × Unit)) × (Unit)) → Option R) → Option R
def Q_45 {R : Type} (x : (Unit × (Int × (Int × (Int × (Int × (Int × (Int × (Int × (Int × Unit)))))))) × Unit) × (Unit)) (κ0 : ((Unit × (Int × Unit)) × (Unit)) → Option R) : Option R :=
let i57 : Int := x.1.2.1.1
let i58 : Int := x.1.2.1.2.1
let i59 : Int := x.1.2.1.2.2.1
let i60 : Int := x.1.2.1.2.2.2.1
let i61 : Int := x.1.2.1.2.2.2.2.1
let i62 : Int := x.1.2.1.2.2.2.2.2.1
let i63 : Int := x.1.2.1.2.2.2.2.2.2.1
let i64 : Int := x.1.2.1.2.2.2.2.2.2.2.1
κ0 (((), (11, ())), ())
def EG_45 {R : Type} : Env R := Env.base QQ LN AA
def LG_45 {R : Type} : Loops R := Loops.none
def E_45 {R : Type} (N : Nat) : Env R := EG_45
theorem eok_45 {R : Type} (N : Nat) : EK Try.prog (E_45 (R := R) N) := ek_base _ _ _
def L_45 {R : Type} (N : Nat) : Loops R := LG_45
theorem lok_45 {R : Type} (N : Nat) : LOK 0 TT (E_45 (R := R) N) (drawAny TT WW) (L_45 N) (bodyOf Try.f45) := loops_nil (by kernel_rfl)
theorem grun_45 {R : Type} (x : aden ap_45 × hden hp_45) (k : KF R) : fnrun TT (EG_45) (drawAny TT WW) (LG_45) true Try.f45 (instA ap_45 x.1) (instH hp_45 x.2) k = Q_45 x (fun y => k (Pat.inst (.tup (.fcons (.nilp) (.fcons (.int .i64) (.fnil)))) y.1) (instH [] y.2)) := by kernel_rfl
theorem run_45 {R : Type} (N : Nat) (x : aden ap_45 × hden hp_45) (k : KF R) : fnrun TT (E_45 (R := R) N) (drawAny TT WW) (L_45 N) true Try.f45 (instA ap_45 x.1) (instH hp_45 x.2) k = p_45 N x (fun y => k (Pat.inst (.tup (.fcons (.nilp) (.fcons (.int .i64) (.fnil)))) y.1) (instH [] y.2)) := (grun_45 x k).trans (by kernel_rfl)
theorem good_45 {R : Type} (N : Nat) : GD (X := R) Try.prog QQ AA 45 ap_45 hp_45 (fun (x : aden ap_45 × hden hp_45) k => p_45 N x (fun y => k (Pat.inst (.tup (.fcons (.nilp) (.fcons (.int .i64) (.fnil)))) y.1) (instH [] y.2))) :=
  gd_loud (E := E_45 N) (p := fun (x : aden ap_45 × hden hp_45) k => p_45 N x (fun y => k (Pat.inst (.tup (.fcons (.nilp) (.fcons (.int .i64) (.fnil)))) y.1) (instH [] y.2))) mixed tyok (eok_45 N) Try.func45 (by kernel_rfl) (by kernel_rfl) (by kernel_rfl) (by kernel_rfl) (lok_45 N) (fun x k => run_45 N x k)

def ap_44_v1 : List Pat := [.ptr 0 [], .int .i64]
def hp_44_v1 : List (Option (Pat × Nat)) := [some (.node (.fcons (.int .i64) (.fcons (.int .i64) (.fcons (.int .i64) (.fcons (.int .i64) (.fnil))))), 145)]
def p_44_v1 {R : Type} (N : Nat) (x : (Unit × Int × Unit) × ((Int × (Int × (Int × (Int × Unit)))) × Unit)) (κ0 : ((Unit × (Int × Unit)) × ((Int × (Int × (Int × (Int × Unit)))) × Unit)) → Option R) (κ1 : ((Unit × (Int × Unit)) × ((Int × (Int × (Int × (Int × Unit)))) × (Unit × (Unit × (Bool × Unit))) × (List (Nat → Int)) × Unit)) → Option R) : Option R :=
let i77 : Int := x.1.2.1
let i78 : Int := x.2.1.1
let i79 : Int := x.2.1.2.1
let i80 : Int := x.2.1.2.2.1
let i81 : Int := x.2.1.2.2.2.1
bif (decide (i77 < 0)) then (
κ0 (((), (1, ())), ((i78, (i79, (i80, (i81, ())))), ()))) else (
let i82 : Int := subA .i64 i78 i79
bif (decide (i77 > i82)) then (
κ0 (((), (4, ())), ((i78, (i79, (i80, (i81, ())))), ()))) else (
let i83 : Int := addA .i64 i79 i77
let i84 : Int := maxA i80 i83
let i85 : Int := addA .i64 i81 1
bif decide (0 ≤ i77) then (
bif decide (i77 ≤ i77) then (
bif decide (((1024 : Nat) : Int) * i77 ≤ 281474976710656) then (
bif decide (i77 ≤ 9223372036854775807) then (
let l86 : (List (Nat → Int)) := List.replicate ((Int.toNat i77)) (Sch.zero (.arr 128 (.int .u64)))
κ1 (((), (0, ())), ((i78, (i83, (i84, (i85, ())))), ((), ((), (true, ()))), l86, ()))) else none) else none) else none) else none))

abbrev Tp_44_v1 (R : Type) : Type := (Unit × Int × Unit) × ((Int × (Int × (Int × (Int × Unit)))) × Unit) → (((Unit × (Int × Unit)) × ((Int × (Int × (Int × (Int × Unit)))) × Unit)) → Option R) → (((Unit × (Int × Unit)) × ((Int × (Int × (Int × (Int × Unit)))) × (Unit × (Unit × (Bool × Unit))) × (List (Nat → Int)) × Unit)) → Option R) → Option R
def Q_44_v1 {R : Type} (x : (Unit × Int × Unit) × ((Int × (Int × (Int × (Int × Unit)))) × Unit)) (κ0 : ((Unit × (Int × Unit)) × ((Int × (Int × (Int × (Int × Unit)))) × Unit)) → Option R) (κ1 : ((Unit × (Int × Unit)) × ((Int × (Int × (Int × (Int × Unit)))) × (Unit × (Unit × (Bool × Unit))) × (List (Nat → Int)) × Unit)) → Option R) : Option R :=
let i77 : Int := x.1.2.1
let i78 : Int := x.2.1.1
let i79 : Int := x.2.1.2.1
let i80 : Int := x.2.1.2.2.1
let i81 : Int := x.2.1.2.2.2.1
bif (decide (i77 < 0)) then (
κ0 (((), (1, ())), ((i78, (i79, (i80, (i81, ())))), ()))) else (
let i82 : Int := subA .i64 i78 i79
bif (decide (i77 > i82)) then (
κ0 (((), (4, ())), ((i78, (i79, (i80, (i81, ())))), ()))) else (
let i83 : Int := addA .i64 i79 i77
let i84 : Int := maxA i80 i83
let i85 : Int := addA .i64 i81 1
bif decide (0 ≤ i77) then (
bif decide (i77 ≤ i77) then (
bif decide (((1024 : Nat) : Int) * i77 ≤ 281474976710656) then (
bif decide (i77 ≤ 9223372036854775807) then (
let l86 : (List (Nat → Int)) := List.replicate ((Int.toNat i77)) (Sch.zero (.arr 128 (.int .u64)))
κ1 (((), (0, ())), ((i78, (i83, (i84, (i85, ())))), ((), ((), (true, ()))), l86, ()))) else none) else none) else none) else none))
def EG_44_v1 {R : Type} : Env R := Env.base QQ LN AA
def LG_44_v1 {R : Type} : Loops R := Loops.none
def E_44_v1 {R : Type} (N : Nat) : Env R := EG_44_v1
theorem eok_44_v1 {R : Type} (N : Nat) : EK Try.prog (E_44_v1 (R := R) N) := ek_base _ _ _
def L_44_v1 {R : Type} (N : Nat) : Loops R := LG_44_v1
theorem lok_44_v1 {R : Type} (N : Nat) : LOK 1 TT (E_44_v1 (R := R) N) (drawAny TT WW) (L_44_v1 N) (bodyOf Try.f44) := loops_nil (by kernel_rfl)
theorem grun_44_v1 {R : Type} (x : aden ap_44_v1 × hden hp_44_v1) (k : KF R) : fnrun TT (EG_44_v1) (drawAny TT WW) (LG_44_v1) true Try.f44 (instA ap_44_v1 x.1) (instH hp_44_v1 x.2) k = Q_44_v1 x (fun y => k (Pat.inst (.tup (.fcons (.nilp) (.fcons (.int .i64) (.fnil)))) y.1) (instH [some (.node (.fcons (.int .i64) (.fcons (.int .i64) (.fcons (.int .i64) (.fcons (.int .i64) (.fnil))))), 145)] y.2)) (fun y => k (Pat.inst (.tup (.fcons (.ptr 1 []) (.fcons (.int .i64) (.fnil)))) y.1) (instH [some (.node (.fcons (.int .i64) (.fcons (.int .i64) (.fcons (.int .i64) (.fcons (.int .i64) (.fnil))))), 145), some (.node (.fcons (.ptr 0 []) (.fcons (.sl 2) (.fcons (.bool) (.fnil)))), 147), some (.lst (.arr 128 (.int .u64)), 29)] y.2)) := by kernel_rfl
theorem run_44_v1 {R : Type} (N : Nat) (x : aden ap_44_v1 × hden hp_44_v1) (k : KF R) : fnrun TT (E_44_v1 (R := R) N) (drawAny TT WW) (L_44_v1 N) true Try.f44 (instA ap_44_v1 x.1) (instH hp_44_v1 x.2) k = p_44_v1 N x (fun y => k (Pat.inst (.tup (.fcons (.nilp) (.fcons (.int .i64) (.fnil)))) y.1) (instH [some (.node (.fcons (.int .i64) (.fcons (.int .i64) (.fcons (.int .i64) (.fcons (.int .i64) (.fnil))))), 145)] y.2)) (fun y => k (Pat.inst (.tup (.fcons (.ptr 1 []) (.fcons (.int .i64) (.fnil)))) y.1) (instH [some (.node (.fcons (.int .i64) (.fcons (.int .i64) (.fcons (.int .i64) (.fcons (.int .i64) (.fnil))))), 145), some (.node (.fcons (.ptr 0 []) (.fcons (.sl 2) (.fcons (.bool) (.fnil)))), 147), some (.lst (.arr 128 (.int .u64)), 29)] y.2)) := (grun_44_v1 x k).trans (by kernel_rfl)
theorem good_44_v1 {R : Type} (N : Nat) : GD (X := R) Try.prog QQ AA 44 ap_44_v1 hp_44_v1 (fun (x : aden ap_44_v1 × hden hp_44_v1) k => p_44_v1 N x (fun y => k (Pat.inst (.tup (.fcons (.nilp) (.fcons (.int .i64) (.fnil)))) y.1) (instH [some (.node (.fcons (.int .i64) (.fcons (.int .i64) (.fcons (.int .i64) (.fcons (.int .i64) (.fnil))))), 145)] y.2)) (fun y => k (Pat.inst (.tup (.fcons (.ptr 1 []) (.fcons (.int .i64) (.fnil)))) y.1) (instH [some (.node (.fcons (.int .i64) (.fcons (.int .i64) (.fcons (.int .i64) (.fcons (.int .i64) (.fnil))))), 145), some (.node (.fcons (.ptr 0 []) (.fcons (.sl 2) (.fcons (.bool) (.fnil)))), 147), some (.lst (.arr 128 (.int .u64)), 29)] y.2))) :=
  gd_loud (E := E_44_v1 N) (p := fun (x : aden ap_44_v1 × hden hp_44_v1) k => p_44_v1 N x (fun y => k (Pat.inst (.tup (.fcons (.nilp) (.fcons (.int .i64) (.fnil)))) y.1) (instH [some (.node (.fcons (.int .i64) (.fcons (.int .i64) (.fcons (.int .i64) (.fcons (.int .i64) (.fnil))))), 145)] y.2)) (fun y => k (Pat.inst (.tup (.fcons (.ptr 1 []) (.fcons (.int .i64) (.fnil)))) y.1) (instH [some (.node (.fcons (.int .i64) (.fcons (.int .i64) (.fcons (.int .i64) (.fcons (.int .i64) (.fnil))))), 145), some (.node (.fcons (.ptr 0 []) (.fcons (.sl 2) (.fcons (.bool) (.fnil)))), 147), some (.lst (.arr 128 (.int .u64)), 29)] y.2))) mixed tyok (eok_44_v1 N) Try.func44 (by kernel_rfl) (by kernel_rfl) (by kernel_rfl) (by kernel_rfl) (lok_44_v1 N) (fun x k => run_44_v1 N x k)

def ap_77 : List Pat := [.ptr 0 []]
def hp_77 : List (Option (Pat × Nat)) := [some (.node (.fcons (.ptr 1 []) (.fcons (.sl 2) (.fcons (.bool) (.fnil)))), 147), some (.node (.fcons (.int .i64) (.fcons (.int .i64) (.fcons (.int .i64) (.fcons (.int .i64) (.fnil))))), 145), some (.lst (.arr 128 (.int .u64)), 29)]
def p_77 {R : Type} (N : Nat) (x : (Unit × Unit) × ((Unit × (Unit × (Bool × Unit))) × (Int × (Int × (Int × (Int × Unit)))) × (List (Nat → Int)) × Unit)) (κ0 : Int → Option R) : Option R :=
let b129 : Bool := x.2.1.2.2.1
let i130 : Int := x.2.2.1.1
let i131 : Int := x.2.2.1.2.1
let i132 : Int := x.2.2.1.2.2.1
let i133 : Int := x.2.2.1.2.2.2.1
let l134 : (List (Nat → Int)) := x.2.2.2.1
let i135 : Int := (((List.length l134) : Nat) : Int)
κ0 i135

abbrev Tp_77 (R : Type) : Type := (Unit × Unit) × ((Unit × (Unit × (Bool × Unit))) × (Int × (Int × (Int × (Int × Unit)))) × (List (Nat → Int)) × Unit) → (Int → Option R) → Option R
def Q_77 {R : Type} (x : (Unit × Unit) × ((Unit × (Unit × (Bool × Unit))) × (Int × (Int × (Int × (Int × Unit)))) × (List (Nat → Int)) × Unit)) (κ0 : Int → Option R) : Option R :=
let b129 : Bool := x.2.1.2.2.1
let i130 : Int := x.2.2.1.1
let i131 : Int := x.2.2.1.2.1
let i132 : Int := x.2.2.1.2.2.1
let i133 : Int := x.2.2.1.2.2.2.1
let l134 : (List (Nat → Int)) := x.2.2.2.1
let i135 : Int := (((List.length l134) : Nat) : Int)
κ0 i135
def EG_77 {R : Type} : Env R := Env.base QQ LN AA
def LG_77 {R : Type} : Loops R := Loops.none
def E_77 {R : Type} (N : Nat) : Env R := EG_77
theorem eok_77 {R : Type} (N : Nat) : EK Try.prog (E_77 (R := R) N) := ek_base _ _ _
def L_77 {R : Type} (N : Nat) : Loops R := LG_77
theorem lok_77 {R : Type} (N : Nat) : LOK 3 TT (E_77 (R := R) N) (drawAny TT WW) (L_77 N) (bodyOf Try.f77) := loops_nil (by kernel_rfl)
theorem grun_77 {R : Type} (x : aden ap_77 × hden hp_77) (k : KF R) : fnrun TT (EG_77) (drawAny TT WW) (LG_77) true Try.f77 (instA ap_77 x.1) (instH hp_77 x.2) k = Q_77 x (fun y => k (Pat.inst (.int .i64) y) (instH hp_77 x.2)) := by kernel_rfl
theorem run_77 {R : Type} (N : Nat) (x : aden ap_77 × hden hp_77) (k : KF R) : fnrun TT (E_77 (R := R) N) (drawAny TT WW) (L_77 N) true Try.f77 (instA ap_77 x.1) (instH hp_77 x.2) k = p_77 N x (fun y => k (Pat.inst (.int .i64) y) (instH hp_77 x.2)) := (grun_77 x k).trans (by kernel_rfl)
theorem good_77 {R : Type} (N : Nat) : GD (X := R) Try.prog QQ AA 77 ap_77 hp_77 (fun (x : aden ap_77 × hden hp_77) k => p_77 N x (fun y => k (Pat.inst (.int .i64) y) (instH hp_77 x.2))) :=
  gd_quiet (E := E_77 N) (p := fun (x : aden ap_77 × hden hp_77) κ => p_77 N x (fun y => κ (Pat.inst (.int .i64) y))) mixed tyok (eok_77 N) Try.func77 (by kernel_rfl) (by kernel_rfl) (lok_77 N) (fun x k => run_77 N x k)

def ap_45_v1 : List Pat := [.ptr 0 [], .node (.fcons (.int .i64) (.fcons (.int .i64) (.fcons (.int .i64) (.fcons (.int .i64) (.fcons (.int .i64) (.fcons (.int .i64) (.fcons (.int .i64) (.fcons (.int .i64) (.fnil)))))))))]
def hp_45_v1 : List (Option (Pat × Nat)) := [some (.node (.fcons (.ptr 1 []) (.fcons (.sl 2) (.fcons (.bool) (.fnil)))), 147), some (.node (.fcons (.int .i64) (.fcons (.int .i64) (.fcons (.int .i64) (.fcons (.int .i64) (.fnil))))), 145), some (.lst (.arr 128 (.int .u64)), 29)]
def p_45_v1 {R : Type} (N : Nat) (x : (Unit × (Int × (Int × (Int × (Int × (Int × (Int × (Int × (Int × Unit)))))))) × Unit) × ((Unit × (Unit × (Bool × Unit))) × (Int × (Int × (Int × (Int × Unit)))) × (List (Nat → Int)) × Unit)) (κ0 : ((Unit × (Int × Unit)) × ((Unit × (Unit × (Bool × Unit))) × (Int × (Int × (Int × (Int × Unit)))) × (List (Nat → Int)) × Unit)) → Option R) (κ1 : ((Unit × (Int × Unit)) × ((Unit × (Unit × (Bool × Unit))) × (Int × (Int × (Int × (Int × Unit)))) × (List (Nat → Int)) × (Unit × ((Int × (Int × (Int × (Int × (Int × (Int × (Int × (Int × Unit)))))))) × Unit)) × Unit)) → Option R) : Option R :=
let i115 : Int := x.1.2.1.1
let i116 : Int := x.1.2.1.2.1
let i117 : Int := x.1.2.1.2.2.1
let i118 : Int := x.1.2.1.2.2.2.1
let i119 : Int := x.1.2.1.2.2.2.2.1
let i120 : Int := x.1.2.1.2.2.2.2.2.1
let i121 : Int := x.1.2.1.2.2.2.2.2.2.1
let i122 : Int := x.1.2.1.2.2.2.2.2.2.2.1
let b123 : Bool := x.2.1.2.2.1
let i124 : Int := x.2.2.1.1
let i125 : Int := x.2.2.1.2.1
let i126 : Int := x.2.2.1.2.2.1
let i127 : Int := x.2.2.1.2.2.2.1
let l128 : (List (Nat → Int)) := x.2.2.2.1
bif (decide (i117 < 1)) then (
κ0 (((), (11, ())), (((), ((), (b123, ()))), (i124, (i125, (i126, (i127, ())))), l128, ()))) else (
p_77 N (((), ()), (((), ((), (b123, ()))), (i124, (i125, (i126, (i127, ())))), l128, ())) (fun y136 =>
let i137 : Int := y136
bif (decide (i137 < i119)) then (
κ0 (((), (9, ())), (((), ((), (b123, ()))), (i124, (i125, (i126, (i127, ())))), l128, ()))) else (
κ1 (((), (0, ())), (((), ((), (b123, ()))), (i124, (i125, (i126, (i127, ())))), l128, ((), ((i115, (i116, (i117, (i118, (i119, (i120, (i121, (i122, ())))))))), ())), ())))))

abbrev Tp_45_v1 (R : Type) : Type := (Unit × (Int × (Int × (Int × (Int × (Int × (Int × (Int × (Int × Unit)))))))) × Unit) × ((Unit × (Unit × (Bool × Unit))) × (Int × (Int × (Int × (Int × Unit)))) × (List (Nat → Int)) × Unit) → (((Unit × (Int × Unit)) × ((Unit × (Unit × (Bool × Unit))) × (Int × (Int × (Int × (Int × Unit)))) × (List (Nat → Int)) × Unit)) → Option R) → (((Unit × (Int × Unit)) × ((Unit × (Unit × (Bool × Unit))) × (Int × (Int × (Int × (Int × Unit)))) × (List (Nat → Int)) × (Unit × ((Int × (Int × (Int × (Int × (Int × (Int × (Int × (Int × Unit)))))))) × Unit)) × Unit)) → Option R) → Option R
def Q_45_v1 {R : Type} (q_77 : Tp_77 R) (x : (Unit × (Int × (Int × (Int × (Int × (Int × (Int × (Int × (Int × Unit)))))))) × Unit) × ((Unit × (Unit × (Bool × Unit))) × (Int × (Int × (Int × (Int × Unit)))) × (List (Nat → Int)) × Unit)) (κ0 : ((Unit × (Int × Unit)) × ((Unit × (Unit × (Bool × Unit))) × (Int × (Int × (Int × (Int × Unit)))) × (List (Nat → Int)) × Unit)) → Option R) (κ1 : ((Unit × (Int × Unit)) × ((Unit × (Unit × (Bool × Unit))) × (Int × (Int × (Int × (Int × Unit)))) × (List (Nat → Int)) × (Unit × ((Int × (Int × (Int × (Int × (Int × (Int × (Int × (Int × Unit)))))))) × Unit)) × Unit)) → Option R) : Option R :=
let i115 : Int := x.1.2.1.1
let i116 : Int := x.1.2.1.2.1
let i117 : Int := x.1.2.1.2.2.1
let i118 : Int := x.1.2.1.2.2.2.1
let i119 : Int := x.1.2.1.2.2.2.2.1
let i120 : Int := x.1.2.1.2.2.2.2.2.1
let i121 : Int := x.1.2.1.2.2.2.2.2.2.1
let i122 : Int := x.1.2.1.2.2.2.2.2.2.2.1
let b123 : Bool := x.2.1.2.2.1
let i124 : Int := x.2.2.1.1
let i125 : Int := x.2.2.1.2.1
let i126 : Int := x.2.2.1.2.2.1
let i127 : Int := x.2.2.1.2.2.2.1
let l128 : (List (Nat → Int)) := x.2.2.2.1
bif (decide (i117 < 1)) then (
κ0 (((), (11, ())), (((), ((), (b123, ()))), (i124, (i125, (i126, (i127, ())))), l128, ()))) else (
q_77 (((), ()), (((), ((), (b123, ()))), (i124, (i125, (i126, (i127, ())))), l128, ())) (fun y136 =>
let i137 : Int := y136
bif (decide (i137 < i119)) then (
κ0 (((), (9, ())), (((), ((), (b123, ()))), (i124, (i125, (i126, (i127, ())))), l128, ()))) else (
κ1 (((), (0, ())), (((), ((), (b123, ()))), (i124, (i125, (i126, (i127, ())))), l128, ((), ((i115, (i116, (i117, (i118, (i119, (i120, (i121, (i122, ())))))))), ())), ())))))
def EG_45_v1 {R : Type} (q_77 : Tp_77 R) : Env R := (Env.base QQ LN AA).add 77 ap_77 hp_77 (fun (x : aden ap_77 × hden hp_77) k => q_77 x (fun y => k (Pat.inst (.int .i64) y) (instH hp_77 x.2)))
def LG_45_v1 {R : Type} : Loops R := Loops.none
def E_45_v1 {R : Type} (N : Nat) : Env R := EG_45_v1 (p_77 N)
theorem eok_45_v1 {R : Type} (N : Nat) : EK Try.prog (E_45_v1 (R := R) N) := ek_add (ek_base _ _ _) (good_77 N)
def L_45_v1 {R : Type} (N : Nat) : Loops R := LG_45_v1
theorem lok_45_v1 {R : Type} (N : Nat) : LOK 3 TT (E_45_v1 (R := R) N) (drawAny TT WW) (L_45_v1 N) (bodyOf Try.f45) := loops_nil (by kernel_rfl)
theorem grun_45_v1 {R : Type} (q_77 : Tp_77 R) (x : aden ap_45_v1 × hden hp_45_v1) (k : KF R) : fnrun TT (EG_45_v1 q_77) (drawAny TT WW) (LG_45_v1) true Try.f45 (instA ap_45_v1 x.1) (instH hp_45_v1 x.2) k = Q_45_v1 q_77 x (fun y => k (Pat.inst (.tup (.fcons (.nilp) (.fcons (.int .i64) (.fnil)))) y.1) (instH [some (.node (.fcons (.ptr 1 []) (.fcons (.sl 2) (.fcons (.bool) (.fnil)))), 147), some (.node (.fcons (.int .i64) (.fcons (.int .i64) (.fcons (.int .i64) (.fcons (.int .i64) (.fnil))))), 145), some (.lst (.arr 128 (.int .u64)), 29)] y.2)) (fun y => k (Pat.inst (.tup (.fcons (.ptr 3 []) (.fcons (.int .i64) (.fnil)))) y.1) (instH [some (.node (.fcons (.ptr 1 []) (.fcons (.sl 2) (.fcons (.bool) (.fnil)))), 147), some (.node (.fcons (.int .i64) (.fcons (.int .i64) (.fcons (.int .i64) (.fcons (.int .i64) (.fnil))))), 145), some (.lst (.arr 128 (.int .u64)), 29), some (.node (.fcons (.ptr 0 []) (.fcons (.node (.fcons (.int .i64) (.fcons (.int .i64) (.fcons (.int .i64) (.fcons (.int .i64) (.fcons (.int .i64) (.fcons (.int .i64) (.fcons (.int .i64) (.fcons (.int .i64) (.fnil)))))))))) (.fnil))), 49)] y.2)) := by kernel_rfl
theorem run_45_v1 {R : Type} (N : Nat) (x : aden ap_45_v1 × hden hp_45_v1) (k : KF R) : fnrun TT (E_45_v1 (R := R) N) (drawAny TT WW) (L_45_v1 N) true Try.f45 (instA ap_45_v1 x.1) (instH hp_45_v1 x.2) k = p_45_v1 N x (fun y => k (Pat.inst (.tup (.fcons (.nilp) (.fcons (.int .i64) (.fnil)))) y.1) (instH [some (.node (.fcons (.ptr 1 []) (.fcons (.sl 2) (.fcons (.bool) (.fnil)))), 147), some (.node (.fcons (.int .i64) (.fcons (.int .i64) (.fcons (.int .i64) (.fcons (.int .i64) (.fnil))))), 145), some (.lst (.arr 128 (.int .u64)), 29)] y.2)) (fun y => k (Pat.inst (.tup (.fcons (.ptr 3 []) (.fcons (.int .i64) (.fnil)))) y.1) (instH [some (.node (.fcons (.ptr 1 []) (.fcons (.sl 2) (.fcons (.bool) (.fnil)))), 147), some (.node (.fcons (.int .i64) (.fcons (.int .i64) (.fcons (.int .i64) (.fcons (.int .i64) (.fnil))))), 145), some (.lst (.arr 128 (.int .u64)), 29), some (.node (.fcons (.ptr 0 []) (.fcons (.node (.fcons (.int .i64) (.fcons (.int .i64) (.fcons (.int .i64) (.fcons (.int .i64) (.fcons (.int .i64) (.fcons (.int .i64) (.fcons (.int .i64) (.fcons (.int .i64) (.fnil)))))))))) (.fnil))), 49)] y.2)) := (grun_45_v1 (p_77 N) x k).trans (by kernel_rfl)
theorem good_45_v1 {R : Type} (N : Nat) : GD (X := R) Try.prog QQ AA 45 ap_45_v1 hp_45_v1 (fun (x : aden ap_45_v1 × hden hp_45_v1) k => p_45_v1 N x (fun y => k (Pat.inst (.tup (.fcons (.nilp) (.fcons (.int .i64) (.fnil)))) y.1) (instH [some (.node (.fcons (.ptr 1 []) (.fcons (.sl 2) (.fcons (.bool) (.fnil)))), 147), some (.node (.fcons (.int .i64) (.fcons (.int .i64) (.fcons (.int .i64) (.fcons (.int .i64) (.fnil))))), 145), some (.lst (.arr 128 (.int .u64)), 29)] y.2)) (fun y => k (Pat.inst (.tup (.fcons (.ptr 3 []) (.fcons (.int .i64) (.fnil)))) y.1) (instH [some (.node (.fcons (.ptr 1 []) (.fcons (.sl 2) (.fcons (.bool) (.fnil)))), 147), some (.node (.fcons (.int .i64) (.fcons (.int .i64) (.fcons (.int .i64) (.fcons (.int .i64) (.fnil))))), 145), some (.lst (.arr 128 (.int .u64)), 29), some (.node (.fcons (.ptr 0 []) (.fcons (.node (.fcons (.int .i64) (.fcons (.int .i64) (.fcons (.int .i64) (.fcons (.int .i64) (.fcons (.int .i64) (.fcons (.int .i64) (.fcons (.int .i64) (.fcons (.int .i64) (.fnil)))))))))) (.fnil))), 49)] y.2))) :=
  gd_loud (E := E_45_v1 N) (p := fun (x : aden ap_45_v1 × hden hp_45_v1) k => p_45_v1 N x (fun y => k (Pat.inst (.tup (.fcons (.nilp) (.fcons (.int .i64) (.fnil)))) y.1) (instH [some (.node (.fcons (.ptr 1 []) (.fcons (.sl 2) (.fcons (.bool) (.fnil)))), 147), some (.node (.fcons (.int .i64) (.fcons (.int .i64) (.fcons (.int .i64) (.fcons (.int .i64) (.fnil))))), 145), some (.lst (.arr 128 (.int .u64)), 29)] y.2)) (fun y => k (Pat.inst (.tup (.fcons (.ptr 3 []) (.fcons (.int .i64) (.fnil)))) y.1) (instH [some (.node (.fcons (.ptr 1 []) (.fcons (.sl 2) (.fcons (.bool) (.fnil)))), 147), some (.node (.fcons (.int .i64) (.fcons (.int .i64) (.fcons (.int .i64) (.fcons (.int .i64) (.fnil))))), 145), some (.lst (.arr 128 (.int .u64)), 29), some (.node (.fcons (.ptr 0 []) (.fcons (.node (.fcons (.int .i64) (.fcons (.int .i64) (.fcons (.int .i64) (.fcons (.int .i64) (.fcons (.int .i64) (.fcons (.int .i64) (.fcons (.int .i64) (.fcons (.int .i64) (.fnil)))))))))) (.fnil))), 49)] y.2))) mixed tyok (eok_45_v1 N) Try.func45 (by kernel_rfl) (by kernel_rfl) (by kernel_rfl) (by kernel_rfl) (lok_45_v1 N) (fun x k => run_45_v1 N x k)

def ap_8 : List Pat := []
def hp_8 : List (Option (Pat × Nat)) := []
def p_8 {R : Type} (N : Nat) (x : (Unit) × (Unit)) (κ0 : Bool → Option R) : Option R :=
p_42 N (((1, (1, (16, (2, (32, ()))))), ()), ()) (fun y39 =>
let i40 : Int := y39.1.1
let i41 : Int := y39.1.2.1
let i42 : Int := y39.1.2.2.1
let i43 : Int := y39.1.2.2.2.1
let i44 : Int := y39.1.2.2.2.2.1
let i45 : Int := y39.1.2.2.2.2.2.1
let i46 : Int := y39.1.2.2.2.2.2.2.1
let i47 : Int := y39.1.2.2.2.2.2.2.2.1
let i48 : Int := y39.2.1
p_43 N ((31, ()), ()) (fun y50 =>
let i51 : Int := y50.1.2.1
p_44 N (((), 15, ()), ()) (fun y53 =>
let i54 : Int := y53.1.2.1
p_44 N (((), 16, ()), ()) (fun y55 =>
let i56 : Int := y55.1.2.1
p_45 N (((), (i40, (i41, (i42, (i43, (i44, (i45, (i46, (i47, ())))))))), ()), ()) (fun y65 =>
let i66 : Int := y65.1.2.1
p_45 N (((), (i40, (i41, (i42, (i43, (i44, (i45, (i46, (i47, ())))))))), ()), ()) (fun y67 =>
let i68 : Int := y67.1.2.1
p_45 N (((), (0, (0, (0, (0, (0, (0, (0, (0, ())))))))), ()), ()) (fun y69 =>
let i70 : Int := y69.1.2.1
bif (i66 == 9) then (
bif (i68 == 0) then (
bif (i70 == 11) then (
none) else (
κ0 false)) else (
κ0 false)) else (
κ0 false))))))) (fun y71 =>
let i72 : Int := y71.1.2.1
let i73 : Int := y71.2.1.1
let i74 : Int := y71.2.1.2.1
let i75 : Int := y71.2.1.2.2.1
let i76 : Int := y71.2.1.2.2.2.1
p_44_v1 N (((), 15, ()), ((i73, (i74, (i75, (i76, ())))), ())) (fun y87 =>
let i88 : Int := y87.1.2.1
let i89 : Int := y87.2.1.1
let i90 : Int := y87.2.1.2.1
let i91 : Int := y87.2.1.2.2.1
let i92 : Int := y87.2.1.2.2.2.1
p_44_v1 N (((), 16, ()), ((i89, (i90, (i91, (i92, ())))), ())) (fun y93 =>
let i94 : Int := y93.1.2.1
let i95 : Int := y93.2.1.1
let i96 : Int := y93.2.1.2.1
let i97 : Int := y93.2.1.2.2.1
let i98 : Int := y93.2.1.2.2.2.1
p_45 N (((), (i40, (i41, (i42, (i43, (i44, (i45, (i46, (i47, ())))))))), ()), ()) (fun y99 =>
let i100 : Int := y99.1.2.1
p_45 N (((), (i40, (i41, (i42, (i43, (i44, (i45, (i46, (i47, ())))))))), ()), ()) (fun y101 =>
let i102 : Int := y101.1.2.1
p_45 N (((), (0, (0, (0, (0, (0, (0, (0, (0, ())))))))), ()), ()) (fun y103 =>
let i104 : Int := y103.1.2.1
bif (i100 == 9) then (
bif (i102 == 0) then (
bif (i104 == 11) then (
none) else (
κ0 false)) else (
κ0 false)) else (
κ0 false))))) (fun y105 =>
let i106 : Int := y105.1.2.1
let i107 : Int := y105.2.1.1
let i108 : Int := y105.2.1.2.1
let i109 : Int := y105.2.1.2.2.1
let i110 : Int := y105.2.1.2.2.2.1
let b111 : Bool := y105.2.2.1.2.2.1
let l112 : (List (Nat → Int)) := y105.2.2.2.1
p_45 N (((), (i40, (i41, (i42, (i43, (i44, (i45, (i46, (i47, ())))))))), ()), ()) (fun y113 =>
let i114 : Int := y113.1.2.1
p_45_v1 N (((), (i40, (i41, (i42, (i43, (i44, (i45, (i46, (i47, ())))))))), ()), (((), ((), (b111, ()))), (i107, (i108, (i109, (i110, ())))), l112, ())) (fun y138 =>
let i139 : Int := y138.1.2.1
let b140 : Bool := y138.2.1.2.2.1
let i141 : Int := y138.2.2.1.1
let i142 : Int := y138.2.2.1.2.1
let i143 : Int := y138.2.2.1.2.2.1
let i144 : Int := y138.2.2.1.2.2.2.1
let l145 : (List (Nat → Int)) := y138.2.2.2.1
p_45_v1 N (((), (0, (0, (0, (0, (0, (0, (0, (0, ())))))))), ()), (((), ((), (b140, ()))), (i141, (i142, (i143, (i144, ())))), l145, ())) (fun y146 =>
let i147 : Int := y146.1.2.1
let b148 : Bool := y146.2.1.2.2.1
let i149 : Int := y146.2.2.1.1
let i150 : Int := y146.2.2.1.2.1
let i151 : Int := y146.2.2.1.2.2.1
let i152 : Int := y146.2.2.1.2.2.2.1
let l153 : (List (Nat → Int)) := y146.2.2.2.1
bif (i114 == 9) then (
bif (i139 == 0) then (
bif (i147 == 11) then (
none) else (
κ0 false)) else (
κ0 false)) else (
κ0 false)) (fun y154 =>
let i155 : Int := y154.1.2.1
let b156 : Bool := y154.2.1.2.2.1
let i157 : Int := y154.2.2.1.1
let i158 : Int := y154.2.2.1.2.1
let i159 : Int := y154.2.2.1.2.2.1
let i160 : Int := y154.2.2.1.2.2.2.1
let l161 : (List (Nat → Int)) := y154.2.2.2.1
let i162 : Int := y154.2.2.2.2.1.2.1.1
let i163 : Int := y154.2.2.2.2.1.2.1.2.1
let i164 : Int := y154.2.2.2.2.1.2.1.2.2.1
let i165 : Int := y154.2.2.2.2.1.2.1.2.2.2.1
let i166 : Int := y154.2.2.2.2.1.2.1.2.2.2.2.1
let i167 : Int := y154.2.2.2.2.1.2.1.2.2.2.2.2.1
let i168 : Int := y154.2.2.2.2.1.2.1.2.2.2.2.2.2.1
let i169 : Int := y154.2.2.2.2.1.2.1.2.2.2.2.2.2.2.1
bif (i114 == 9) then (
bif (i139 == 0) then (
bif (i155 == 11) then (
none) else (
κ0 false)) else (
κ0 false)) else (
κ0 false))) (fun y170 =>
let i171 : Int := y170.1.2.1
let b172 : Bool := y170.2.1.2.2.1
let i173 : Int := y170.2.2.1.1
let i174 : Int := y170.2.2.1.2.1
let i175 : Int := y170.2.2.1.2.2.1
let i176 : Int := y170.2.2.1.2.2.2.1
let l177 : (List (Nat → Int)) := y170.2.2.2.1
let i178 : Int := y170.2.2.2.2.1.2.1.1
let i179 : Int := y170.2.2.2.2.1.2.1.2.1
let i180 : Int := y170.2.2.2.2.1.2.1.2.2.1
let i181 : Int := y170.2.2.2.2.1.2.1.2.2.2.1
let i182 : Int := y170.2.2.2.2.1.2.1.2.2.2.2.1
let i183 : Int := y170.2.2.2.2.1.2.1.2.2.2.2.2.1
let i184 : Int := y170.2.2.2.2.1.2.1.2.2.2.2.2.2.1
let i185 : Int := y170.2.2.2.2.1.2.1.2.2.2.2.2.2.2.1
p_45_v1 N (((), (0, (0, (0, (0, (0, (0, (0, (0, ())))))))), ()), (((), ((), (b172, ()))), (i173, (i174, (i175, (i176, ())))), l177, ())) (fun y186 =>
let i187 : Int := y186.1.2.1
let b188 : Bool := y186.2.1.2.2.1
let i189 : Int := y186.2.2.1.1
let i190 : Int := y186.2.2.1.2.1
let i191 : Int := y186.2.2.1.2.2.1
let i192 : Int := y186.2.2.1.2.2.2.1
let l193 : (List (Nat → Int)) := y186.2.2.2.1
bif (i114 == 9) then (
bif (i171 == 0) then (
bif (i187 == 11) then (
κ0 ((i183 == 8))) else (
κ0 false)) else (
κ0 false)) else (
κ0 false)) (fun y194 =>
let i195 : Int := y194.1.2.1
let b196 : Bool := y194.2.1.2.2.1
let i197 : Int := y194.2.2.1.1
let i198 : Int := y194.2.2.1.2.1
let i199 : Int := y194.2.2.1.2.2.1
let i200 : Int := y194.2.2.1.2.2.2.1
let l201 : (List (Nat → Int)) := y194.2.2.2.1
let i202 : Int := y194.2.2.2.2.1.2.1.1
let i203 : Int := y194.2.2.2.2.1.2.1.2.1
let i204 : Int := y194.2.2.2.2.1.2.1.2.2.1
let i205 : Int := y194.2.2.2.2.1.2.1.2.2.2.1
let i206 : Int := y194.2.2.2.2.1.2.1.2.2.2.2.1
let i207 : Int := y194.2.2.2.2.1.2.1.2.2.2.2.2.1
let i208 : Int := y194.2.2.2.2.1.2.1.2.2.2.2.2.2.1
let i209 : Int := y194.2.2.2.2.1.2.1.2.2.2.2.2.2.2.1
bif (i114 == 9) then (
bif (i171 == 0) then (
bif (i195 == 11) then (
κ0 ((i183 == 8))) else (
κ0 false)) else (
κ0 false)) else (
κ0 false)))))) (fun y210 =>
let i211 : Int := y210.1.2.1
let i212 : Int := y210.2.1.1
let i213 : Int := y210.2.1.2.1
let i214 : Int := y210.2.1.2.2.1
let i215 : Int := y210.2.1.2.2.2.1
let b216 : Bool := y210.2.2.1.2.2.1
let l217 : (List (Nat → Int)) := y210.2.2.2.1
p_44_v1 N (((), 16, ()), ((i212, (i213, (i214, (i215, ())))), ())) (fun y218 =>
let i219 : Int := y218.1.2.1
let i220 : Int := y218.2.1.1
let i221 : Int := y218.2.1.2.1
let i222 : Int := y218.2.1.2.2.1
let i223 : Int := y218.2.1.2.2.2.1
p_45_v1 N (((), (i40, (i41, (i42, (i43, (i44, (i45, (i46, (i47, ())))))))), ()), (((), ((), (b216, ()))), (i220, (i221, (i222, (i223, ())))), l217, ())) (fun y224 =>
let i225 : Int := y224.1.2.1
let b226 : Bool := y224.2.1.2.2.1
let i227 : Int := y224.2.2.1.1
let i228 : Int := y224.2.2.1.2.1
let i229 : Int := y224.2.2.1.2.2.1
let i230 : Int := y224.2.2.1.2.2.2.1
let l231 : (List (Nat → Int)) := y224.2.2.2.1
p_45 N (((), (i40, (i41, (i42, (i43, (i44, (i45, (i46, (i47, ())))))))), ()), ()) (fun y232 =>
let i233 : Int := y232.1.2.1
p_45 N (((), (0, (0, (0, (0, (0, (0, (0, (0, ())))))))), ()), ()) (fun y234 =>
let i235 : Int := y234.1.2.1
bif (i225 == 9) then (
bif (i233 == 0) then (
bif (i235 == 11) then (
none) else (
κ0 false)) else (
κ0 false)) else (
κ0 false)))) (fun y236 =>
let i237 : Int := y236.1.2.1
let b238 : Bool := y236.2.1.2.2.1
let i239 : Int := y236.2.2.1.1
let i240 : Int := y236.2.2.1.2.1
let i241 : Int := y236.2.2.1.2.2.1
let i242 : Int := y236.2.2.1.2.2.2.1
let l243 : (List (Nat → Int)) := y236.2.2.2.1
let i244 : Int := y236.2.2.2.2.1.2.1.1
let i245 : Int := y236.2.2.2.2.1.2.1.2.1
let i246 : Int := y236.2.2.2.2.1.2.1.2.2.1
let i247 : Int := y236.2.2.2.2.1.2.1.2.2.2.1
let i248 : Int := y236.2.2.2.2.1.2.1.2.2.2.2.1
let i249 : Int := y236.2.2.2.2.1.2.1.2.2.2.2.2.1
let i250 : Int := y236.2.2.2.2.1.2.1.2.2.2.2.2.2.1
let i251 : Int := y236.2.2.2.2.1.2.1.2.2.2.2.2.2.2.1
p_45 N (((), (i40, (i41, (i42, (i43, (i44, (i45, (i46, (i47, ())))))))), ()), ()) (fun y252 =>
let i253 : Int := y252.1.2.1
p_45 N (((), (0, (0, (0, (0, (0, (0, (0, (0, ())))))))), ()), ()) (fun y254 =>
let i255 : Int := y254.1.2.1
bif (i237 == 9) then (
bif (i253 == 0) then (
bif (i255 == 11) then (
none) else (
κ0 false)) else (
κ0 false)) else (
κ0 false))))) (fun y256 =>
let i257 : Int := y256.1.2.1
let i258 : Int := y256.2.1.1
let i259 : Int := y256.2.1.2.1
let i260 : Int := y256.2.1.2.2.1
let i261 : Int := y256.2.1.2.2.2.1
let b262 : Bool := y256.2.2.1.2.2.1
let l263 : (List (Nat → Int)) := y256.2.2.2.1
p_45_v1 N (((), (i40, (i41, (i42, (i43, (i44, (i45, (i46, (i47, ())))))))), ()), (((), ((), (b216, ()))), (i258, (i259, (i260, (i261, ())))), l217, ())) (fun y264 =>
let i265 : Int := y264.1.2.1
let b266 : Bool := y264.2.1.2.2.1
let i267 : Int := y264.2.2.1.1
let i268 : Int := y264.2.2.1.2.1
let i269 : Int := y264.2.2.1.2.2.1
let i270 : Int := y264.2.2.1.2.2.2.1
let l271 : (List (Nat → Int)) := y264.2.2.2.1
p_45_v1 N (((), (i40, (i41, (i42, (i43, (i44, (i45, (i46, (i47, ())))))))), ()), (((), ((), (b262, ()))), (i267, (i268, (i269, (i270, ())))), l263, ())) (fun y272 =>
let i273 : Int := y272.1.2.1
let b274 : Bool := y272.2.1.2.2.1
let i275 : Int := y272.2.2.1.1
let i276 : Int := y272.2.2.1.2.1
let i277 : Int := y272.2.2.1.2.2.1
let i278 : Int := y272.2.2.1.2.2.2.1
let l279 : (List (Nat → Int)) := y272.2.2.2.1
p_45_v1 N (((), (0, (0, (0, (0, (0, (0, (0, (0, ())))))))), ()), (((), ((), (b274, ()))), (i275, (i276, (i277, (i278, ())))), l279, ())) (fun y280 =>
let i281 : Int := y280.1.2.1
let b282 : Bool := y280.2.1.2.2.1
let i283 : Int := y280.2.2.1.1
let i284 : Int := y280.2.2.1.2.1
let i285 : Int := y280.2.2.1.2.2.1
let i286 : Int := y280.2.2.1.2.2.2.1
let l287 : (List (Nat → Int)) := y280.2.2.2.1
bif (i265 == 9) then (
bif (i273 == 0) then (
bif (i281 == 11) then (
none) else (
κ0 false)) else (
κ0 false)) else (
κ0 false)) (fun y288 =>
let i289 : Int := y288.1.2.1
let b290 : Bool := y288.2.1.2.2.1
let i291 : Int := y288.2.2.1.1
let i292 : Int := y288.2.2.1.2.1
let i293 : Int := y288.2.2.1.2.2.1
let i294 : Int := y288.2.2.1.2.2.2.1
let l295 : (List (Nat → Int)) := y288.2.2.2.1
let i296 : Int := y288.2.2.2.2.1.2.1.1
let i297 : Int := y288.2.2.2.2.1.2.1.2.1
let i298 : Int := y288.2.2.2.2.1.2.1.2.2.1
let i299 : Int := y288.2.2.2.2.1.2.1.2.2.2.1
let i300 : Int := y288.2.2.2.2.1.2.1.2.2.2.2.1
let i301 : Int := y288.2.2.2.2.1.2.1.2.2.2.2.2.1
let i302 : Int := y288.2.2.2.2.1.2.1.2.2.2.2.2.2.1
let i303 : Int := y288.2.2.2.2.1.2.1.2.2.2.2.2.2.2.1
bif (i265 == 9) then (
bif (i273 == 0) then (
bif (i289 == 11) then (
none) else (
κ0 false)) else (
κ0 false)) else (
κ0 false))) (fun y304 =>
let i305 : Int := y304.1.2.1
let b306 : Bool := y304.2.1.2.2.1
let i307 : Int := y304.2.2.1.1
let i308 : Int := y304.2.2.1.2.1
let i309 : Int := y304.2.2.1.2.2.1
let i310 : Int := y304.2.2.1.2.2.2.1
let l311 : (List (Nat → Int)) := y304.2.2.2.1
let i312 : Int := y304.2.2.2.2.1.2.1.1
let i313 : Int := y304.2.2.2.2.1.2.1.2.1
let i314 : Int := y304.2.2.2.2.1.2.1.2.2.1
let i315 : Int := y304.2.2.2.2.1.2.1.2.2.2.1
let i316 : Int := y304.2.2.2.2.1.2.1.2.2.2.2.1
let i317 : Int := y304.2.2.2.2.1.2.1.2.2.2.2.2.1
let i318 : Int := y304.2.2.2.2.1.2.1.2.2.2.2.2.2.1
let i319 : Int := y304.2.2.2.2.1.2.1.2.2.2.2.2.2.2.1
p_45_v1 N (((), (0, (0, (0, (0, (0, (0, (0, (0, ())))))))), ()), (((), ((), (b306, ()))), (i307, (i308, (i309, (i310, ())))), l311, ())) (fun y320 =>
let i321 : Int := y320.1.2.1
let b322 : Bool := y320.2.1.2.2.1
let i323 : Int := y320.2.2.1.1
let i324 : Int := y320.2.2.1.2.1
let i325 : Int := y320.2.2.1.2.2.1
let i326 : Int := y320.2.2.1.2.2.2.1
let l327 : (List (Nat → Int)) := y320.2.2.2.1
bif (i265 == 9) then (
bif (i305 == 0) then (
bif (i321 == 11) then (
κ0 ((i317 == 8))) else (
κ0 false)) else (
κ0 false)) else (
κ0 false)) (fun y328 =>
let i329 : Int := y328.1.2.1
let b330 : Bool := y328.2.1.2.2.1
let i331 : Int := y328.2.2.1.1
let i332 : Int := y328.2.2.1.2.1
let i333 : Int := y328.2.2.1.2.2.1
let i334 : Int := y328.2.2.1.2.2.2.1
let l335 : (List (Nat → Int)) := y328.2.2.2.1
let i336 : Int := y328.2.2.2.2.1.2.1.1
let i337 : Int := y328.2.2.2.2.1.2.1.2.1
let i338 : Int := y328.2.2.2.2.1.2.1.2.2.1
let i339 : Int := y328.2.2.2.2.1.2.1.2.2.2.1
let i340 : Int := y328.2.2.2.2.1.2.1.2.2.2.2.1
let i341 : Int := y328.2.2.2.2.1.2.1.2.2.2.2.2.1
let i342 : Int := y328.2.2.2.2.1.2.1.2.2.2.2.2.2.1
let i343 : Int := y328.2.2.2.2.1.2.1.2.2.2.2.2.2.2.1
bif (i265 == 9) then (
bif (i305 == 0) then (
bif (i329 == 11) then (
κ0 ((i317 == 8))) else (
κ0 false)) else (
κ0 false)) else (
κ0 false)))) (fun y344 =>
let i345 : Int := y344.1.2.1
let b346 : Bool := y344.2.1.2.2.1
let i347 : Int := y344.2.2.1.1
let i348 : Int := y344.2.2.1.2.1
let i349 : Int := y344.2.2.1.2.2.1
let i350 : Int := y344.2.2.1.2.2.2.1
let l351 : (List (Nat → Int)) := y344.2.2.2.1
let i352 : Int := y344.2.2.2.2.1.2.1.1
let i353 : Int := y344.2.2.2.2.1.2.1.2.1
let i354 : Int := y344.2.2.2.2.1.2.1.2.2.1
let i355 : Int := y344.2.2.2.2.1.2.1.2.2.2.1
let i356 : Int := y344.2.2.2.2.1.2.1.2.2.2.2.1
let i357 : Int := y344.2.2.2.2.1.2.1.2.2.2.2.2.1
let i358 : Int := y344.2.2.2.2.1.2.1.2.2.2.2.2.2.1
let i359 : Int := y344.2.2.2.2.1.2.1.2.2.2.2.2.2.2.1
p_45_v1 N (((), (i40, (i41, (i42, (i43, (i44, (i45, (i46, (i47, ())))))))), ()), (((), ((), (b262, ()))), (i347, (i348, (i349, (i350, ())))), l263, ())) (fun y360 =>
let i361 : Int := y360.1.2.1
let b362 : Bool := y360.2.1.2.2.1
let i363 : Int := y360.2.2.1.1
let i364 : Int := y360.2.2.1.2.1
let i365 : Int := y360.2.2.1.2.2.1
let i366 : Int := y360.2.2.1.2.2.2.1
let l367 : (List (Nat → Int)) := y360.2.2.2.1
p_45_v1 N (((), (0, (0, (0, (0, (0, (0, (0, (0, ())))))))), ()), (((), ((), (b362, ()))), (i363, (i364, (i365, (i366, ())))), l367, ())) (fun y368 =>
let i369 : Int := y368.1.2.1
let b370 : Bool := y368.2.1.2.2.1
let i371 : Int := y368.2.2.1.1
let i372 : Int := y368.2.2.1.2.1
let i373 : Int := y368.2.2.1.2.2.1
let i374 : Int := y368.2.2.1.2.2.2.1
let l375 : (List (Nat → Int)) := y368.2.2.2.1
bif (i345 == 9) then (
bif (i361 == 0) then (
bif (i369 == 11) then (
none) else (
κ0 false)) else (
κ0 false)) else (
κ0 false)) (fun y376 =>
let i377 : Int := y376.1.2.1
let b378 : Bool := y376.2.1.2.2.1
let i379 : Int := y376.2.2.1.1
let i380 : Int := y376.2.2.1.2.1
let i381 : Int := y376.2.2.1.2.2.1
let i382 : Int := y376.2.2.1.2.2.2.1
let l383 : (List (Nat → Int)) := y376.2.2.2.1
let i384 : Int := y376.2.2.2.2.1.2.1.1
let i385 : Int := y376.2.2.2.2.1.2.1.2.1
let i386 : Int := y376.2.2.2.2.1.2.1.2.2.1
let i387 : Int := y376.2.2.2.2.1.2.1.2.2.2.1
let i388 : Int := y376.2.2.2.2.1.2.1.2.2.2.2.1
let i389 : Int := y376.2.2.2.2.1.2.1.2.2.2.2.2.1
let i390 : Int := y376.2.2.2.2.1.2.1.2.2.2.2.2.2.1
let i391 : Int := y376.2.2.2.2.1.2.1.2.2.2.2.2.2.2.1
bif (i345 == 9) then (
bif (i361 == 0) then (
bif (i377 == 11) then (
none) else (
κ0 false)) else (
κ0 false)) else (
κ0 false))) (fun y392 =>
let i393 : Int := y392.1.2.1
let b394 : Bool := y392.2.1.2.2.1
let i395 : Int := y392.2.2.1.1
let i396 : Int := y392.2.2.1.2.1
let i397 : Int := y392.2.2.1.2.2.1
let i398 : Int := y392.2.2.1.2.2.2.1
let l399 : (List (Nat → Int)) := y392.2.2.2.1
let i400 : Int := y392.2.2.2.2.1.2.1.1
let i401 : Int := y392.2.2.2.2.1.2.1.2.1
let i402 : Int := y392.2.2.2.2.1.2.1.2.2.1
let i403 : Int := y392.2.2.2.2.1.2.1.2.2.2.1
let i404 : Int := y392.2.2.2.2.1.2.1.2.2.2.2.1
let i405 : Int := y392.2.2.2.2.1.2.1.2.2.2.2.2.1
let i406 : Int := y392.2.2.2.2.1.2.1.2.2.2.2.2.2.1
let i407 : Int := y392.2.2.2.2.1.2.1.2.2.2.2.2.2.2.1
p_45_v1 N (((), (0, (0, (0, (0, (0, (0, (0, (0, ())))))))), ()), (((), ((), (b394, ()))), (i395, (i396, (i397, (i398, ())))), l399, ())) (fun y408 =>
let i409 : Int := y408.1.2.1
let b410 : Bool := y408.2.1.2.2.1
let i411 : Int := y408.2.2.1.1
let i412 : Int := y408.2.2.1.2.1
let i413 : Int := y408.2.2.1.2.2.1
let i414 : Int := y408.2.2.1.2.2.2.1
let l415 : (List (Nat → Int)) := y408.2.2.2.1
bif (i345 == 9) then (
bif (i393 == 0) then (
bif (i409 == 11) then (
κ0 ((i405 == 8))) else (
κ0 false)) else (
κ0 false)) else (
κ0 false)) (fun y416 =>
let i417 : Int := y416.1.2.1
let b418 : Bool := y416.2.1.2.2.1
let i419 : Int := y416.2.2.1.1
let i420 : Int := y416.2.2.1.2.1
let i421 : Int := y416.2.2.1.2.2.1
let i422 : Int := y416.2.2.1.2.2.2.1
let l423 : (List (Nat → Int)) := y416.2.2.2.1
let i424 : Int := y416.2.2.2.2.1.2.1.1
let i425 : Int := y416.2.2.2.2.1.2.1.2.1
let i426 : Int := y416.2.2.2.2.1.2.1.2.2.1
let i427 : Int := y416.2.2.2.2.1.2.1.2.2.2.1
let i428 : Int := y416.2.2.2.2.1.2.1.2.2.2.2.1
let i429 : Int := y416.2.2.2.2.1.2.1.2.2.2.2.2.1
let i430 : Int := y416.2.2.2.2.1.2.1.2.2.2.2.2.2.1
let i431 : Int := y416.2.2.2.2.1.2.1.2.2.2.2.2.2.2.1
bif (i345 == 9) then (
bif (i393 == 0) then (
bif (i417 == 11) then (
κ0 ((i405 == 8))) else (
κ0 false)) else (
κ0 false)) else (
κ0 false))))))))

abbrev Tp_8 (R : Type) : Type := (Unit) × (Unit) → (Bool → Option R) → Option R
def Q_8 {R : Type} (q_42 : Tp_42 R) (q_43 : Tp_43 R) (q_44 : Tp_44 R) (q_45 : Tp_45 R) (q_44_v1 : Tp_44_v1 R) (q_45_v1 : Tp_45_v1 R) (x : (Unit) × (Unit)) (κ0 : Bool → Option R) : Option R :=
q_42 (((1, (1, (16, (2, (32, ()))))), ()), ()) (fun y39 =>
let i40 : Int := y39.1.1
let i41 : Int := y39.1.2.1
let i42 : Int := y39.1.2.2.1
let i43 : Int := y39.1.2.2.2.1
let i44 : Int := y39.1.2.2.2.2.1
let i45 : Int := y39.1.2.2.2.2.2.1
let i46 : Int := y39.1.2.2.2.2.2.2.1
let i47 : Int := y39.1.2.2.2.2.2.2.2.1
let i48 : Int := y39.2.1
q_43 ((31, ()), ()) (fun y50 =>
let i51 : Int := y50.1.2.1
q_44 (((), 15, ()), ()) (fun y53 =>
let i54 : Int := y53.1.2.1
q_44 (((), 16, ()), ()) (fun y55 =>
let i56 : Int := y55.1.2.1
q_45 (((), (i40, (i41, (i42, (i43, (i44, (i45, (i46, (i47, ())))))))), ()), ()) (fun y65 =>
let i66 : Int := y65.1.2.1
q_45 (((), (i40, (i41, (i42, (i43, (i44, (i45, (i46, (i47, ())))))))), ()), ()) (fun y67 =>
let i68 : Int := y67.1.2.1
q_45 (((), (0, (0, (0, (0, (0, (0, (0, (0, ())))))))), ()), ()) (fun y69 =>
let i70 : Int := y69.1.2.1
bif (i66 == 9) then (
bif (i68 == 0) then (
bif (i70 == 11) then (
none) else (
κ0 false)) else (
κ0 false)) else (
κ0 false))))))) (fun y71 =>
let i72 : Int := y71.1.2.1
let i73 : Int := y71.2.1.1
let i74 : Int := y71.2.1.2.1
let i75 : Int := y71.2.1.2.2.1
let i76 : Int := y71.2.1.2.2.2.1
q_44_v1 (((), 15, ()), ((i73, (i74, (i75, (i76, ())))), ())) (fun y87 =>
let i88 : Int := y87.1.2.1
let i89 : Int := y87.2.1.1
let i90 : Int := y87.2.1.2.1
let i91 : Int := y87.2.1.2.2.1
let i92 : Int := y87.2.1.2.2.2.1
q_44_v1 (((), 16, ()), ((i89, (i90, (i91, (i92, ())))), ())) (fun y93 =>
let i94 : Int := y93.1.2.1
let i95 : Int := y93.2.1.1
let i96 : Int := y93.2.1.2.1
let i97 : Int := y93.2.1.2.2.1
let i98 : Int := y93.2.1.2.2.2.1
q_45 (((), (i40, (i41, (i42, (i43, (i44, (i45, (i46, (i47, ())))))))), ()), ()) (fun y99 =>
let i100 : Int := y99.1.2.1
q_45 (((), (i40, (i41, (i42, (i43, (i44, (i45, (i46, (i47, ())))))))), ()), ()) (fun y101 =>
let i102 : Int := y101.1.2.1
q_45 (((), (0, (0, (0, (0, (0, (0, (0, (0, ())))))))), ()), ()) (fun y103 =>
let i104 : Int := y103.1.2.1
bif (i100 == 9) then (
bif (i102 == 0) then (
bif (i104 == 11) then (
none) else (
κ0 false)) else (
κ0 false)) else (
κ0 false))))) (fun y105 =>
let i106 : Int := y105.1.2.1
let i107 : Int := y105.2.1.1
let i108 : Int := y105.2.1.2.1
let i109 : Int := y105.2.1.2.2.1
let i110 : Int := y105.2.1.2.2.2.1
let b111 : Bool := y105.2.2.1.2.2.1
let l112 : (List (Nat → Int)) := y105.2.2.2.1
q_45 (((), (i40, (i41, (i42, (i43, (i44, (i45, (i46, (i47, ())))))))), ()), ()) (fun y113 =>
let i114 : Int := y113.1.2.1
q_45_v1 (((), (i40, (i41, (i42, (i43, (i44, (i45, (i46, (i47, ())))))))), ()), (((), ((), (b111, ()))), (i107, (i108, (i109, (i110, ())))), l112, ())) (fun y138 =>
let i139 : Int := y138.1.2.1
let b140 : Bool := y138.2.1.2.2.1
let i141 : Int := y138.2.2.1.1
let i142 : Int := y138.2.2.1.2.1
let i143 : Int := y138.2.2.1.2.2.1
let i144 : Int := y138.2.2.1.2.2.2.1
let l145 : (List (Nat → Int)) := y138.2.2.2.1
q_45_v1 (((), (0, (0, (0, (0, (0, (0, (0, (0, ())))))))), ()), (((), ((), (b140, ()))), (i141, (i142, (i143, (i144, ())))), l145, ())) (fun y146 =>
let i147 : Int := y146.1.2.1
let b148 : Bool := y146.2.1.2.2.1
let i149 : Int := y146.2.2.1.1
let i150 : Int := y146.2.2.1.2.1
let i151 : Int := y146.2.2.1.2.2.1
let i152 : Int := y146.2.2.1.2.2.2.1
let l153 : (List (Nat → Int)) := y146.2.2.2.1
bif (i114 == 9) then (
bif (i139 == 0) then (
bif (i147 == 11) then (
none) else (
κ0 false)) else (
κ0 false)) else (
κ0 false)) (fun y154 =>
let i155 : Int := y154.1.2.1
let b156 : Bool := y154.2.1.2.2.1
let i157 : Int := y154.2.2.1.1
let i158 : Int := y154.2.2.1.2.1
let i159 : Int := y154.2.2.1.2.2.1
let i160 : Int := y154.2.2.1.2.2.2.1
let l161 : (List (Nat → Int)) := y154.2.2.2.1
let i162 : Int := y154.2.2.2.2.1.2.1.1
let i163 : Int := y154.2.2.2.2.1.2.1.2.1
let i164 : Int := y154.2.2.2.2.1.2.1.2.2.1
let i165 : Int := y154.2.2.2.2.1.2.1.2.2.2.1
let i166 : Int := y154.2.2.2.2.1.2.1.2.2.2.2.1
let i167 : Int := y154.2.2.2.2.1.2.1.2.2.2.2.2.1
let i168 : Int := y154.2.2.2.2.1.2.1.2.2.2.2.2.2.1
let i169 : Int := y154.2.2.2.2.1.2.1.2.2.2.2.2.2.2.1
bif (i114 == 9) then (
bif (i139 == 0) then (
bif (i155 == 11) then (
none) else (
κ0 false)) else (
κ0 false)) else (
κ0 false))) (fun y170 =>
let i171 : Int := y170.1.2.1
let b172 : Bool := y170.2.1.2.2.1
let i173 : Int := y170.2.2.1.1
let i174 : Int := y170.2.2.1.2.1
let i175 : Int := y170.2.2.1.2.2.1
let i176 : Int := y170.2.2.1.2.2.2.1
let l177 : (List (Nat → Int)) := y170.2.2.2.1
let i178 : Int := y170.2.2.2.2.1.2.1.1
let i179 : Int := y170.2.2.2.2.1.2.1.2.1
let i180 : Int := y170.2.2.2.2.1.2.1.2.2.1
let i181 : Int := y170.2.2.2.2.1.2.1.2.2.2.1
let i182 : Int := y170.2.2.2.2.1.2.1.2.2.2.2.1
let i183 : Int := y170.2.2.2.2.1.2.1.2.2.2.2.2.1
let i184 : Int := y170.2.2.2.2.1.2.1.2.2.2.2.2.2.1
let i185 : Int := y170.2.2.2.2.1.2.1.2.2.2.2.2.2.2.1
q_45_v1 (((), (0, (0, (0, (0, (0, (0, (0, (0, ())))))))), ()), (((), ((), (b172, ()))), (i173, (i174, (i175, (i176, ())))), l177, ())) (fun y186 =>
let i187 : Int := y186.1.2.1
let b188 : Bool := y186.2.1.2.2.1
let i189 : Int := y186.2.2.1.1
let i190 : Int := y186.2.2.1.2.1
let i191 : Int := y186.2.2.1.2.2.1
let i192 : Int := y186.2.2.1.2.2.2.1
let l193 : (List (Nat → Int)) := y186.2.2.2.1
bif (i114 == 9) then (
bif (i171 == 0) then (
bif (i187 == 11) then (
κ0 ((i183 == 8))) else (
κ0 false)) else (
κ0 false)) else (
κ0 false)) (fun y194 =>
let i195 : Int := y194.1.2.1
let b196 : Bool := y194.2.1.2.2.1
let i197 : Int := y194.2.2.1.1
let i198 : Int := y194.2.2.1.2.1
let i199 : Int := y194.2.2.1.2.2.1
let i200 : Int := y194.2.2.1.2.2.2.1
let l201 : (List (Nat → Int)) := y194.2.2.2.1
let i202 : Int := y194.2.2.2.2.1.2.1.1
let i203 : Int := y194.2.2.2.2.1.2.1.2.1
let i204 : Int := y194.2.2.2.2.1.2.1.2.2.1
let i205 : Int := y194.2.2.2.2.1.2.1.2.2.2.1
let i206 : Int := y194.2.2.2.2.1.2.1.2.2.2.2.1
let i207 : Int := y194.2.2.2.2.1.2.1.2.2.2.2.2.1
let i208 : Int := y194.2.2.2.2.1.2.1.2.2.2.2.2.2.1
let i209 : Int := y194.2.2.2.2.1.2.1.2.2.2.2.2.2.2.1
bif (i114 == 9) then (
bif (i171 == 0) then (
bif (i195 == 11) then (
κ0 ((i183 == 8))) else (
κ0 false)) else (
κ0 false)) else (
κ0 false)))))) (fun y210 =>
let i211 : Int := y210.1.2.1
let i212 : Int := y210.2.1.1
let i213 : Int := y210.2.1.2.1
let i214 : Int := y210.2.1.2.2.1
let i215 : Int := y210.2.1.2.2.2.1
let b216 : Bool := y210.2.2.1.2.2.1
let l217 : (List (Nat → Int)) := y210.2.2.2.1
q_44_v1 (((), 16, ()), ((i212, (i213, (i214, (i215, ())))), ())) (fun y218 =>
let i219 : Int := y218.1.2.1
let i220 : Int := y218.2.1.1
let i221 : Int := y218.2.1.2.1
let i222 : Int := y218.2.1.2.2.1
let i223 : Int := y218.2.1.2.2.2.1
q_45_v1 (((), (i40, (i41, (i42, (i43, (i44, (i45, (i46, (i47, ())))))))), ()), (((), ((), (b216, ()))), (i220, (i221, (i222, (i223, ())))), l217, ())) (fun y224 =>
let i225 : Int := y224.1.2.1
let b226 : Bool := y224.2.1.2.2.1
let i227 : Int := y224.2.2.1.1
let i228 : Int := y224.2.2.1.2.1
let i229 : Int := y224.2.2.1.2.2.1
let i230 : Int := y224.2.2.1.2.2.2.1
let l231 : (List (Nat → Int)) := y224.2.2.2.1
q_45 (((), (i40, (i41, (i42, (i43, (i44, (i45, (i46, (i47, ())))))))), ()), ()) (fun y232 =>
let i233 : Int := y232.1.2.1
q_45 (((), (0, (0, (0, (0, (0, (0, (0, (0, ())))))))), ()), ()) (fun y234 =>
let i235 : Int := y234.1.2.1
bif (i225 == 9) then (
bif (i233 == 0) then (
bif (i235 == 11) then (
none) else (
κ0 false)) else (
κ0 false)) else (
κ0 false)))) (fun y236 =>
let i237 : Int := y236.1.2.1
let b238 : Bool := y236.2.1.2.2.1
let i239 : Int := y236.2.2.1.1
let i240 : Int := y236.2.2.1.2.1
let i241 : Int := y236.2.2.1.2.2.1
let i242 : Int := y236.2.2.1.2.2.2.1
let l243 : (List (Nat → Int)) := y236.2.2.2.1
let i244 : Int := y236.2.2.2.2.1.2.1.1
let i245 : Int := y236.2.2.2.2.1.2.1.2.1
let i246 : Int := y236.2.2.2.2.1.2.1.2.2.1
let i247 : Int := y236.2.2.2.2.1.2.1.2.2.2.1
let i248 : Int := y236.2.2.2.2.1.2.1.2.2.2.2.1
let i249 : Int := y236.2.2.2.2.1.2.1.2.2.2.2.2.1
let i250 : Int := y236.2.2.2.2.1.2.1.2.2.2.2.2.2.1
let i251 : Int := y236.2.2.2.2.1.2.1.2.2.2.2.2.2.2.1
q_45 (((), (i40, (i41, (i42, (i43, (i44, (i45, (i46, (i47, ())))))))), ()), ()) (fun y252 =>
let i253 : Int := y252.1.2.1
q_45 (((), (0, (0, (0, (0, (0, (0, (0, (0, ())))))))), ()), ()) (fun y254 =>
let i255 : Int := y254.1.2.1
bif (i237 == 9) then (
bif (i253 == 0) then (
bif (i255 == 11) then (
none) else (
κ0 false)) else (
κ0 false)) else (
κ0 false))))) (fun y256 =>
let i257 : Int := y256.1.2.1
let i258 : Int := y256.2.1.1
let i259 : Int := y256.2.1.2.1
let i260 : Int := y256.2.1.2.2.1
let i261 : Int := y256.2.1.2.2.2.1
let b262 : Bool := y256.2.2.1.2.2.1
let l263 : (List (Nat → Int)) := y256.2.2.2.1
q_45_v1 (((), (i40, (i41, (i42, (i43, (i44, (i45, (i46, (i47, ())))))))), ()), (((), ((), (b216, ()))), (i258, (i259, (i260, (i261, ())))), l217, ())) (fun y264 =>
let i265 : Int := y264.1.2.1
let b266 : Bool := y264.2.1.2.2.1
let i267 : Int := y264.2.2.1.1
let i268 : Int := y264.2.2.1.2.1
let i269 : Int := y264.2.2.1.2.2.1
let i270 : Int := y264.2.2.1.2.2.2.1
let l271 : (List (Nat → Int)) := y264.2.2.2.1
q_45_v1 (((), (i40, (i41, (i42, (i43, (i44, (i45, (i46, (i47, ())))))))), ()), (((), ((), (b262, ()))), (i267, (i268, (i269, (i270, ())))), l263, ())) (fun y272 =>
let i273 : Int := y272.1.2.1
let b274 : Bool := y272.2.1.2.2.1
let i275 : Int := y272.2.2.1.1
let i276 : Int := y272.2.2.1.2.1
let i277 : Int := y272.2.2.1.2.2.1
let i278 : Int := y272.2.2.1.2.2.2.1
let l279 : (List (Nat → Int)) := y272.2.2.2.1
q_45_v1 (((), (0, (0, (0, (0, (0, (0, (0, (0, ())))))))), ()), (((), ((), (b274, ()))), (i275, (i276, (i277, (i278, ())))), l279, ())) (fun y280 =>
let i281 : Int := y280.1.2.1
let b282 : Bool := y280.2.1.2.2.1
let i283 : Int := y280.2.2.1.1
let i284 : Int := y280.2.2.1.2.1
let i285 : Int := y280.2.2.1.2.2.1
let i286 : Int := y280.2.2.1.2.2.2.1
let l287 : (List (Nat → Int)) := y280.2.2.2.1
bif (i265 == 9) then (
bif (i273 == 0) then (
bif (i281 == 11) then (
none) else (
κ0 false)) else (
κ0 false)) else (
κ0 false)) (fun y288 =>
let i289 : Int := y288.1.2.1
let b290 : Bool := y288.2.1.2.2.1
let i291 : Int := y288.2.2.1.1
let i292 : Int := y288.2.2.1.2.1
let i293 : Int := y288.2.2.1.2.2.1
let i294 : Int := y288.2.2.1.2.2.2.1
let l295 : (List (Nat → Int)) := y288.2.2.2.1
let i296 : Int := y288.2.2.2.2.1.2.1.1
let i297 : Int := y288.2.2.2.2.1.2.1.2.1
let i298 : Int := y288.2.2.2.2.1.2.1.2.2.1
let i299 : Int := y288.2.2.2.2.1.2.1.2.2.2.1
let i300 : Int := y288.2.2.2.2.1.2.1.2.2.2.2.1
let i301 : Int := y288.2.2.2.2.1.2.1.2.2.2.2.2.1
let i302 : Int := y288.2.2.2.2.1.2.1.2.2.2.2.2.2.1
let i303 : Int := y288.2.2.2.2.1.2.1.2.2.2.2.2.2.2.1
bif (i265 == 9) then (
bif (i273 == 0) then (
bif (i289 == 11) then (
none) else (
κ0 false)) else (
κ0 false)) else (
κ0 false))) (fun y304 =>
let i305 : Int := y304.1.2.1
let b306 : Bool := y304.2.1.2.2.1
let i307 : Int := y304.2.2.1.1
let i308 : Int := y304.2.2.1.2.1
let i309 : Int := y304.2.2.1.2.2.1
let i310 : Int := y304.2.2.1.2.2.2.1
let l311 : (List (Nat → Int)) := y304.2.2.2.1
let i312 : Int := y304.2.2.2.2.1.2.1.1
let i313 : Int := y304.2.2.2.2.1.2.1.2.1
let i314 : Int := y304.2.2.2.2.1.2.1.2.2.1
let i315 : Int := y304.2.2.2.2.1.2.1.2.2.2.1
let i316 : Int := y304.2.2.2.2.1.2.1.2.2.2.2.1
let i317 : Int := y304.2.2.2.2.1.2.1.2.2.2.2.2.1
let i318 : Int := y304.2.2.2.2.1.2.1.2.2.2.2.2.2.1
let i319 : Int := y304.2.2.2.2.1.2.1.2.2.2.2.2.2.2.1
q_45_v1 (((), (0, (0, (0, (0, (0, (0, (0, (0, ())))))))), ()), (((), ((), (b306, ()))), (i307, (i308, (i309, (i310, ())))), l311, ())) (fun y320 =>
let i321 : Int := y320.1.2.1
let b322 : Bool := y320.2.1.2.2.1
let i323 : Int := y320.2.2.1.1
let i324 : Int := y320.2.2.1.2.1
let i325 : Int := y320.2.2.1.2.2.1
let i326 : Int := y320.2.2.1.2.2.2.1
let l327 : (List (Nat → Int)) := y320.2.2.2.1
bif (i265 == 9) then (
bif (i305 == 0) then (
bif (i321 == 11) then (
κ0 ((i317 == 8))) else (
κ0 false)) else (
κ0 false)) else (
κ0 false)) (fun y328 =>
let i329 : Int := y328.1.2.1
let b330 : Bool := y328.2.1.2.2.1
let i331 : Int := y328.2.2.1.1
let i332 : Int := y328.2.2.1.2.1
let i333 : Int := y328.2.2.1.2.2.1
let i334 : Int := y328.2.2.1.2.2.2.1
let l335 : (List (Nat → Int)) := y328.2.2.2.1
let i336 : Int := y328.2.2.2.2.1.2.1.1
let i337 : Int := y328.2.2.2.2.1.2.1.2.1
let i338 : Int := y328.2.2.2.2.1.2.1.2.2.1
let i339 : Int := y328.2.2.2.2.1.2.1.2.2.2.1
let i340 : Int := y328.2.2.2.2.1.2.1.2.2.2.2.1
let i341 : Int := y328.2.2.2.2.1.2.1.2.2.2.2.2.1
let i342 : Int := y328.2.2.2.2.1.2.1.2.2.2.2.2.2.1
let i343 : Int := y328.2.2.2.2.1.2.1.2.2.2.2.2.2.2.1
bif (i265 == 9) then (
bif (i305 == 0) then (
bif (i329 == 11) then (
κ0 ((i317 == 8))) else (
κ0 false)) else (
κ0 false)) else (
κ0 false)))) (fun y344 =>
let i345 : Int := y344.1.2.1
let b346 : Bool := y344.2.1.2.2.1
let i347 : Int := y344.2.2.1.1
let i348 : Int := y344.2.2.1.2.1
let i349 : Int := y344.2.2.1.2.2.1
let i350 : Int := y344.2.2.1.2.2.2.1
let l351 : (List (Nat → Int)) := y344.2.2.2.1
let i352 : Int := y344.2.2.2.2.1.2.1.1
let i353 : Int := y344.2.2.2.2.1.2.1.2.1
let i354 : Int := y344.2.2.2.2.1.2.1.2.2.1
let i355 : Int := y344.2.2.2.2.1.2.1.2.2.2.1
let i356 : Int := y344.2.2.2.2.1.2.1.2.2.2.2.1
let i357 : Int := y344.2.2.2.2.1.2.1.2.2.2.2.2.1
let i358 : Int := y344.2.2.2.2.1.2.1.2.2.2.2.2.2.1
let i359 : Int := y344.2.2.2.2.1.2.1.2.2.2.2.2.2.2.1
q_45_v1 (((), (i40, (i41, (i42, (i43, (i44, (i45, (i46, (i47, ())))))))), ()), (((), ((), (b262, ()))), (i347, (i348, (i349, (i350, ())))), l263, ())) (fun y360 =>
let i361 : Int := y360.1.2.1
let b362 : Bool := y360.2.1.2.2.1
let i363 : Int := y360.2.2.1.1
let i364 : Int := y360.2.2.1.2.1
let i365 : Int := y360.2.2.1.2.2.1
let i366 : Int := y360.2.2.1.2.2.2.1
let l367 : (List (Nat → Int)) := y360.2.2.2.1
q_45_v1 (((), (0, (0, (0, (0, (0, (0, (0, (0, ())))))))), ()), (((), ((), (b362, ()))), (i363, (i364, (i365, (i366, ())))), l367, ())) (fun y368 =>
let i369 : Int := y368.1.2.1
let b370 : Bool := y368.2.1.2.2.1
let i371 : Int := y368.2.2.1.1
let i372 : Int := y368.2.2.1.2.1
let i373 : Int := y368.2.2.1.2.2.1
let i374 : Int := y368.2.2.1.2.2.2.1
let l375 : (List (Nat → Int)) := y368.2.2.2.1
bif (i345 == 9) then (
bif (i361 == 0) then (
bif (i369 == 11) then (
none) else (
κ0 false)) else (
κ0 false)) else (
κ0 false)) (fun y376 =>
let i377 : Int := y376.1.2.1
let b378 : Bool := y376.2.1.2.2.1
let i379 : Int := y376.2.2.1.1
let i380 : Int := y376.2.2.1.2.1
let i381 : Int := y376.2.2.1.2.2.1
let i382 : Int := y376.2.2.1.2.2.2.1
let l383 : (List (Nat → Int)) := y376.2.2.2.1
let i384 : Int := y376.2.2.2.2.1.2.1.1
let i385 : Int := y376.2.2.2.2.1.2.1.2.1
let i386 : Int := y376.2.2.2.2.1.2.1.2.2.1
let i387 : Int := y376.2.2.2.2.1.2.1.2.2.2.1
let i388 : Int := y376.2.2.2.2.1.2.1.2.2.2.2.1
let i389 : Int := y376.2.2.2.2.1.2.1.2.2.2.2.2.1
let i390 : Int := y376.2.2.2.2.1.2.1.2.2.2.2.2.2.1
let i391 : Int := y376.2.2.2.2.1.2.1.2.2.2.2.2.2.2.1
bif (i345 == 9) then (
bif (i361 == 0) then (
bif (i377 == 11) then (
none) else (
κ0 false)) else (
κ0 false)) else (
κ0 false))) (fun y392 =>
let i393 : Int := y392.1.2.1
let b394 : Bool := y392.2.1.2.2.1
let i395 : Int := y392.2.2.1.1
let i396 : Int := y392.2.2.1.2.1
let i397 : Int := y392.2.2.1.2.2.1
let i398 : Int := y392.2.2.1.2.2.2.1
let l399 : (List (Nat → Int)) := y392.2.2.2.1
let i400 : Int := y392.2.2.2.2.1.2.1.1
let i401 : Int := y392.2.2.2.2.1.2.1.2.1
let i402 : Int := y392.2.2.2.2.1.2.1.2.2.1
let i403 : Int := y392.2.2.2.2.1.2.1.2.2.2.1
let i404 : Int := y392.2.2.2.2.1.2.1.2.2.2.2.1
let i405 : Int := y392.2.2.2.2.1.2.1.2.2.2.2.2.1
let i406 : Int := y392.2.2.2.2.1.2.1.2.2.2.2.2.2.1
let i407 : Int := y392.2.2.2.2.1.2.1.2.2.2.2.2.2.2.1
q_45_v1 (((), (0, (0, (0, (0, (0, (0, (0, (0, ())))))))), ()), (((), ((), (b394, ()))), (i395, (i396, (i397, (i398, ())))), l399, ())) (fun y408 =>
let i409 : Int := y408.1.2.1
let b410 : Bool := y408.2.1.2.2.1
let i411 : Int := y408.2.2.1.1
let i412 : Int := y408.2.2.1.2.1
let i413 : Int := y408.2.2.1.2.2.1
let i414 : Int := y408.2.2.1.2.2.2.1
let l415 : (List (Nat → Int)) := y408.2.2.2.1
bif (i345 == 9) then (
bif (i393 == 0) then (
bif (i409 == 11) then (
κ0 ((i405 == 8))) else (
κ0 false)) else (
κ0 false)) else (
κ0 false)) (fun y416 =>
let i417 : Int := y416.1.2.1
let b418 : Bool := y416.2.1.2.2.1
let i419 : Int := y416.2.2.1.1
let i420 : Int := y416.2.2.1.2.1
let i421 : Int := y416.2.2.1.2.2.1
let i422 : Int := y416.2.2.1.2.2.2.1
let l423 : (List (Nat → Int)) := y416.2.2.2.1
let i424 : Int := y416.2.2.2.2.1.2.1.1
let i425 : Int := y416.2.2.2.2.1.2.1.2.1
let i426 : Int := y416.2.2.2.2.1.2.1.2.2.1
let i427 : Int := y416.2.2.2.2.1.2.1.2.2.2.1
let i428 : Int := y416.2.2.2.2.1.2.1.2.2.2.2.1
let i429 : Int := y416.2.2.2.2.1.2.1.2.2.2.2.2.1
let i430 : Int := y416.2.2.2.2.1.2.1.2.2.2.2.2.2.1
let i431 : Int := y416.2.2.2.2.1.2.1.2.2.2.2.2.2.2.1
bif (i345 == 9) then (
bif (i393 == 0) then (
bif (i417 == 11) then (
κ0 ((i405 == 8))) else (
κ0 false)) else (
κ0 false)) else (
κ0 false))))))))
def EG_8 {R : Type} (q_42 : Tp_42 R) (q_43 : Tp_43 R) (q_44 : Tp_44 R) (q_45 : Tp_45 R) (q_44_v1 : Tp_44_v1 R) (q_45_v1 : Tp_45_v1 R) : Env R := ((((((Env.base QQ LN AA).add 42 ap_42 hp_42 (fun (x : aden ap_42 × hden hp_42) k => q_42 x (fun y => k (Pat.inst (.tup (.fcons (.node (.fcons (.int .i64) (.fcons (.int .i64) (.fcons (.int .i64) (.fcons (.int .i64) (.fcons (.int .i64) (.fcons (.int .i64) (.fcons (.int .i64) (.fcons (.int .i64) (.fnil)))))))))) (.fcons (.int .i64) (.fnil)))) y) (instH hp_42 x.2)))).add 43 ap_43 hp_43 (fun (x : aden ap_43 × hden hp_43) k => q_43 x (fun y => k (Pat.inst (.tup (.fcons (.nilp) (.fcons (.int .i64) (.fnil)))) y.1) (instH [] y.2)) (fun y => k (Pat.inst (.tup (.fcons (.ptr 0 []) (.fcons (.int .i64) (.fnil)))) y.1) (instH [some (.node (.fcons (.int .i64) (.fcons (.int .i64) (.fcons (.int .i64) (.fcons (.int .i64) (.fnil))))), 145)] y.2)))).add 44 ap_44 hp_44 (fun (x : aden ap_44 × hden hp_44) k => q_44 x (fun y => k (Pat.inst (.tup (.fcons (.nilp) (.fcons (.int .i64) (.fnil)))) y.1) (instH [] y.2)))).add 45 ap_45 hp_45 (fun (x : aden ap_45 × hden hp_45) k => q_45 x (fun y => k (Pat.inst (.tup (.fcons (.nilp) (.fcons (.int .i64) (.fnil)))) y.1) (instH [] y.2)))).add 44 ap_44_v1 hp_44_v1 (fun (x : aden ap_44_v1 × hden hp_44_v1) k => q_44_v1 x (fun y => k (Pat.inst (.tup (.fcons (.nilp) (.fcons (.int .i64) (.fnil)))) y.1) (instH [some (.node (.fcons (.int .i64) (.fcons (.int .i64) (.fcons (.int .i64) (.fcons (.int .i64) (.fnil))))), 145)] y.2)) (fun y => k (Pat.inst (.tup (.fcons (.ptr 1 []) (.fcons (.int .i64) (.fnil)))) y.1) (instH [some (.node (.fcons (.int .i64) (.fcons (.int .i64) (.fcons (.int .i64) (.fcons (.int .i64) (.fnil))))), 145), some (.node (.fcons (.ptr 0 []) (.fcons (.sl 2) (.fcons (.bool) (.fnil)))), 147), some (.lst (.arr 128 (.int .u64)), 29)] y.2)))).add 45 ap_45_v1 hp_45_v1 (fun (x : aden ap_45_v1 × hden hp_45_v1) k => q_45_v1 x (fun y => k (Pat.inst (.tup (.fcons (.nilp) (.fcons (.int .i64) (.fnil)))) y.1) (instH [some (.node (.fcons (.ptr 1 []) (.fcons (.sl 2) (.fcons (.bool) (.fnil)))), 147), some (.node (.fcons (.int .i64) (.fcons (.int .i64) (.fcons (.int .i64) (.fcons (.int .i64) (.fnil))))), 145), some (.lst (.arr 128 (.int .u64)), 29)] y.2)) (fun y => k (Pat.inst (.tup (.fcons (.ptr 3 []) (.fcons (.int .i64) (.fnil)))) y.1) (instH [some (.node (.fcons (.ptr 1 []) (.fcons (.sl 2) (.fcons (.bool) (.fnil)))), 147), some (.node (.fcons (.int .i64) (.fcons (.int .i64) (.fcons (.int .i64) (.fcons (.int .i64) (.fnil))))), 145), some (.lst (.arr 128 (.int .u64)), 29), some (.node (.fcons (.ptr 0 []) (.fcons (.node (.fcons (.int .i64) (.fcons (.int .i64) (.fcons (.int .i64) (.fcons (.int .i64) (.fcons (.int .i64) (.fcons (.int .i64) (.fcons (.int .i64) (.fcons (.int .i64) (.fnil)))))))))) (.fnil))), 49)] y.2)))
def LG_8 {R : Type} : Loops R := Loops.none
def E_8 {R : Type} (N : Nat) : Env R := EG_8 (p_42 N) (p_43 N) (p_44 N) (p_45 N) (p_44_v1 N) (p_45_v1 N)
theorem eok_8 {R : Type} (N : Nat) : EK Try.prog (E_8 (R := R) N) := ek_add (ek_add (ek_add (ek_add (ek_add (ek_add (ek_base _ _ _) (good_42 N)) (good_43 N)) (good_44 N)) (good_45 N)) (good_44_v1 N)) (good_45_v1 N)
def L_8 {R : Type} (N : Nat) : Loops R := LG_8
theorem lok_8 {R : Type} (N : Nat) : LOK 0 TT (E_8 (R := R) N) (drawAny TT WW) (L_8 N) (bodyOf Try.f8) := loops_nil (by kernel_rfl)
theorem grun_8 {R : Type} (q_42 : Tp_42 R) (q_43 : Tp_43 R) (q_44 : Tp_44 R) (q_45 : Tp_45 R) (q_44_v1 : Tp_44_v1 R) (q_45_v1 : Tp_45_v1 R) (x : aden ap_8 × hden hp_8) (k : KF R) : fnrun TT (EG_8 q_42 q_43 q_44 q_45 q_44_v1 q_45_v1) (drawAny TT WW) (LG_8) true Try.f8 (instA ap_8 x.1) (instH hp_8 x.2) k = Q_8 q_42 q_43 q_44 q_45 q_44_v1 q_45_v1 x (fun y => k (Pat.inst (.bool) y) (instH hp_8 x.2)) := by kernel_rfl
theorem run_8 {R : Type} (N : Nat) (x : aden ap_8 × hden hp_8) (k : KF R) : fnrun TT (E_8 (R := R) N) (drawAny TT WW) (L_8 N) true Try.f8 (instA ap_8 x.1) (instH hp_8 x.2) k = p_8 N x (fun y => k (Pat.inst (.bool) y) (instH hp_8 x.2)) := (grun_8 (p_42 N) (p_43 N) (p_44 N) (p_45 N) (p_44_v1 N) (p_45_v1 N) x k).trans (by kernel_rfl)
theorem good_8 {R : Type} (N : Nat) : GD (X := R) Try.prog QQ AA 8 ap_8 hp_8 (fun (x : aden ap_8 × hden hp_8) k => p_8 N x (fun y => k (Pat.inst (.bool) y) (instH hp_8 x.2))) :=
  gd_quiet (E := E_8 N) (p := fun (x : aden ap_8 × hden hp_8) κ => p_8 N x (fun y => κ (Pat.inst (.bool) y))) mixed tyok (eok_8 N) Try.func8 (by kernel_rfl) (by kernel_rfl) (lok_8 N) (fun x k => run_8 N x k)

def ap_46 : List Pat := [.nilp, .node (.fcons (.int .i64) (.fcons (.int .i64) (.fnil)))]
def hp_46 : List (Option (Pat × Nat)) := []
def p_46 {R : Type} (N : Nat) (x : (Unit × (Int × (Int × Unit)) × Unit) × (Unit)) (κ0 : Int → Option R) : Option R :=
let i436 : Int := x.1.2.1.1
let i437 : Int := x.1.2.1.2.1
κ0 ((-1))

abbrev Tp_46 (R : Type) : Type := (Unit × (Int × (Int × Unit)) × Unit) × (Unit) → (Int → Option R) → Option R
def Q_46 {R : Type} (x : (Unit × (Int × (Int × Unit)) × Unit) × (Unit)) (κ0 : Int → Option R) : Option R :=
let i436 : Int := x.1.2.1.1
let i437 : Int := x.1.2.1.2.1
κ0 ((-1))
def EG_46 {R : Type} : Env R := Env.base QQ LN AA
def LG_46 {R : Type} : Loops R := Loops.none
def E_46 {R : Type} (N : Nat) : Env R := EG_46
theorem eok_46 {R : Type} (N : Nat) : EK Try.prog (E_46 (R := R) N) := ek_base _ _ _
def L_46 {R : Type} (N : Nat) : Loops R := LG_46
theorem lok_46 {R : Type} (N : Nat) : LOK 0 TT (E_46 (R := R) N) (drawAny TT WW) (L_46 N) (bodyOf Try.f46) := loops_nil (by kernel_rfl)
theorem grun_46 {R : Type} (x : aden ap_46 × hden hp_46) (k : KF R) : fnrun TT (EG_46) (drawAny TT WW) (LG_46) true Try.f46 (instA ap_46 x.1) (instH hp_46 x.2) k = Q_46 x (fun y => k (Pat.inst (.int .i64) y) (instH hp_46 x.2)) := by kernel_rfl
theorem run_46 {R : Type} (N : Nat) (x : aden ap_46 × hden hp_46) (k : KF R) : fnrun TT (E_46 (R := R) N) (drawAny TT WW) (L_46 N) true Try.f46 (instA ap_46 x.1) (instH hp_46 x.2) k = p_46 N x (fun y => k (Pat.inst (.int .i64) y) (instH hp_46 x.2)) := (grun_46 x k).trans (by kernel_rfl)
theorem good_46 {R : Type} (N : Nat) : GD (X := R) Try.prog QQ AA 46 ap_46 hp_46 (fun (x : aden ap_46 × hden hp_46) k => p_46 N x (fun y => k (Pat.inst (.int .i64) y) (instH hp_46 x.2))) :=
  gd_quiet (E := E_46 N) (p := fun (x : aden ap_46 × hden hp_46) κ => p_46 N x (fun y => κ (Pat.inst (.int .i64) y))) mixed tyok (eok_46 N) Try.func46 (by kernel_rfl) (by kernel_rfl) (lok_46 N) (fun x k => run_46 N x k)

def ap_9 : List Pat := [.nilp, .node (.fcons (.int .i64) (.fcons (.int .i64) (.fnil)))]
def hp_9 : List (Option (Pat × Nat)) := []
def p_9 {R : Type} (N : Nat) (x : (Unit × (Int × (Int × Unit)) × Unit) × (Unit)) (κ0 : ((Nat → Int) × (Int × Unit)) → Option R) : Option R :=
let i434 : Int := x.1.2.1.1
let i435 : Int := x.1.2.1.2.1
p_46 N (((), (i434, (i435, ())), ()), ()) (fun y438 =>
let i439 : Int := y438
bif (decide (i439 < 0)) then (
let a440 : (Nat → Int) := (Sch.zero (.arr 128 (.int .u64)))
κ0 ((a440, (11, ())))) else (
none))

abbrev Tp_9 (R : Type) : Type := (Unit × (Int × (Int × Unit)) × Unit) × (Unit) → (((Nat → Int) × (Int × Unit)) → Option R) → Option R
def Q_9 {R : Type} (q_46 : Tp_46 R) (x : (Unit × (Int × (Int × Unit)) × Unit) × (Unit)) (κ0 : ((Nat → Int) × (Int × Unit)) → Option R) : Option R :=
let i434 : Int := x.1.2.1.1
let i435 : Int := x.1.2.1.2.1
q_46 (((), (i434, (i435, ())), ()), ()) (fun y438 =>
let i439 : Int := y438
bif (decide (i439 < 0)) then (
let a440 : (Nat → Int) := (Sch.zero (.arr 128 (.int .u64)))
κ0 ((a440, (11, ())))) else (
none))
def EG_9 {R : Type} (q_46 : Tp_46 R) : Env R := (Env.base QQ LN AA).add 46 ap_46 hp_46 (fun (x : aden ap_46 × hden hp_46) k => q_46 x (fun y => k (Pat.inst (.int .i64) y) (instH hp_46 x.2)))
def LG_9 {R : Type} : Loops R := Loops.none
def E_9 {R : Type} (N : Nat) : Env R := EG_9 (p_46 N)
theorem eok_9 {R : Type} (N : Nat) : EK Try.prog (E_9 (R := R) N) := ek_add (ek_base _ _ _) (good_46 N)
def L_9 {R : Type} (N : Nat) : Loops R := LG_9
theorem lok_9 {R : Type} (N : Nat) : LOK 0 TT (E_9 (R := R) N) (drawAny TT WW) (L_9 N) (bodyOf Try.f9) := loops_nil (by kernel_rfl)
theorem grun_9 {R : Type} (q_46 : Tp_46 R) (x : aden ap_9 × hden hp_9) (k : KF R) : fnrun TT (EG_9 q_46) (drawAny TT WW) (LG_9) true Try.f9 (instA ap_9 x.1) (instH hp_9 x.2) k = Q_9 q_46 x (fun y => k (Pat.inst (.tup (.fcons (.vec (.int .u64) 128) (.fcons (.int .i64) (.fnil)))) y) (instH hp_9 x.2)) := by kernel_rfl
theorem run_9 {R : Type} (N : Nat) (x : aden ap_9 × hden hp_9) (k : KF R) : fnrun TT (E_9 (R := R) N) (drawAny TT WW) (L_9 N) true Try.f9 (instA ap_9 x.1) (instH hp_9 x.2) k = p_9 N x (fun y => k (Pat.inst (.tup (.fcons (.vec (.int .u64) 128) (.fcons (.int .i64) (.fnil)))) y) (instH hp_9 x.2)) := (grun_9 (p_46 N) x k).trans (by kernel_rfl)
theorem good_9 {R : Type} (N : Nat) : GD (X := R) Try.prog QQ AA 9 ap_9 hp_9 (fun (x : aden ap_9 × hden hp_9) k => p_9 N x (fun y => k (Pat.inst (.tup (.fcons (.vec (.int .u64) 128) (.fcons (.int .i64) (.fnil)))) y) (instH hp_9 x.2))) :=
  gd_quiet (E := E_9 N) (p := fun (x : aden ap_9 × hden hp_9) κ => p_9 N x (fun y => κ (Pat.inst (.tup (.fcons (.vec (.int .u64) 128) (.fcons (.int .i64) (.fnil)))) y))) mixed tyok (eok_9 N) Try.func9 (by kernel_rfl) (by kernel_rfl) (lok_9 N) (fun x k => run_9 N x k)

def ap_10 : List Pat := [.nilp]
def hp_10 : List (Option (Pat × Nat)) := []
def p_10 {R : Type} (N : Nat) (x : (Unit × Unit) × (Unit)) (κ0 : ((Nat → Int) × (Int × Unit)) → Option R) : Option R :=
let a444 : (Nat → Int) := (Sch.zero (.arr 128 (.int .u64)))
κ0 ((a444, (11, ())))

abbrev Tp_10 (R : Type) : Type := (Unit × Unit) × (Unit) → (((Nat → Int) × (Int × Unit)) → Option R) → Option R
def Q_10 {R : Type} (x : (Unit × Unit) × (Unit)) (κ0 : ((Nat → Int) × (Int × Unit)) → Option R) : Option R :=
let a444 : (Nat → Int) := (Sch.zero (.arr 128 (.int .u64)))
κ0 ((a444, (11, ())))
def EG_10 {R : Type} : Env R := Env.base QQ LN AA
def LG_10 {R : Type} : Loops R := Loops.none
def E_10 {R : Type} (N : Nat) : Env R := EG_10
theorem eok_10 {R : Type} (N : Nat) : EK Try.prog (E_10 (R := R) N) := ek_base _ _ _
def L_10 {R : Type} (N : Nat) : Loops R := LG_10
theorem loops_10 : loopsIn (bodyOf Try.f10) = [(5, loopAt 5 (bodyOf Try.f10))] := by kernel_rfl
theorem lok_10 {R : Type} (N : Nat) : LOK 0 TT (E_10 (R := R) N) (drawAny TT WW) (L_10 N) (bodyOf Try.f10) := loops_all loops_10 (by
  simp only [List.forall_mem_cons, List.not_mem_nil, false_implies, implies_true, and_true]
  exact rounds_none (fun _ _ => rfl))
theorem grun_10 {R : Type} (x : aden ap_10 × hden hp_10) (k : KF R) : fnrun TT (EG_10) (drawAny TT WW) (LG_10) true Try.f10 (instA ap_10 x.1) (instH hp_10 x.2) k = Q_10 x (fun y => k (Pat.inst (.tup (.fcons (.vec (.int .u64) 128) (.fcons (.int .i64) (.fnil)))) y) (instH hp_10 x.2)) := by kernel_rfl
theorem run_10 {R : Type} (N : Nat) (x : aden ap_10 × hden hp_10) (k : KF R) : fnrun TT (E_10 (R := R) N) (drawAny TT WW) (L_10 N) true Try.f10 (instA ap_10 x.1) (instH hp_10 x.2) k = p_10 N x (fun y => k (Pat.inst (.tup (.fcons (.vec (.int .u64) 128) (.fcons (.int .i64) (.fnil)))) y) (instH hp_10 x.2)) := (grun_10 x k).trans (by kernel_rfl)
theorem good_10 {R : Type} (N : Nat) : GD (X := R) Try.prog QQ AA 10 ap_10 hp_10 (fun (x : aden ap_10 × hden hp_10) k => p_10 N x (fun y => k (Pat.inst (.tup (.fcons (.vec (.int .u64) 128) (.fcons (.int .i64) (.fnil)))) y) (instH hp_10 x.2))) :=
  gd_quiet (E := E_10 N) (p := fun (x : aden ap_10 × hden hp_10) κ => p_10 N x (fun y => κ (Pat.inst (.tup (.fcons (.vec (.int .u64) 128) (.fcons (.int .i64) (.fnil)))) y))) mixed tyok (eok_10 N) Try.func10 (by kernel_rfl) (by kernel_rfl) (lok_10 N) (fun x k => run_10 N x k)

def ap_11 : List Pat := [.nilp]
def hp_11 : List (Option (Pat × Nat)) := []
def p_11 {R : Type} (N : Nat) (x : (Unit × Unit) × (Unit)) (κ0 : (ByteArray × (Int × Unit)) → Option R) : Option R :=
p_10 N (((), ()), ()) (fun y448 =>
let a449 : (Nat → Int) := y448.1
let i450 : Int := y448.2.1
bif (i450 != 0) then (
κ0 ((⟨#[]⟩, (i450, ())))) else (
none))

abbrev Tp_11 (R : Type) : Type := (Unit × Unit) × (Unit) → ((ByteArray × (Int × Unit)) → Option R) → Option R
def Q_11 {R : Type} (q_10 : Tp_10 R) (x : (Unit × Unit) × (Unit)) (κ0 : (ByteArray × (Int × Unit)) → Option R) : Option R :=
q_10 (((), ()), ()) (fun y448 =>
let a449 : (Nat → Int) := y448.1
let i450 : Int := y448.2.1
bif (i450 != 0) then (
κ0 ((⟨#[]⟩, (i450, ())))) else (
none))
def EG_11 {R : Type} (q_10 : Tp_10 R) : Env R := (Env.base QQ LN AA).add 10 ap_10 hp_10 (fun (x : aden ap_10 × hden hp_10) k => q_10 x (fun y => k (Pat.inst (.tup (.fcons (.vec (.int .u64) 128) (.fcons (.int .i64) (.fnil)))) y) (instH hp_10 x.2)))
def LG_11 {R : Type} : Loops R := Loops.none
def E_11 {R : Type} (N : Nat) : Env R := EG_11 (p_10 N)
theorem eok_11 {R : Type} (N : Nat) : EK Try.prog (E_11 (R := R) N) := ek_add (ek_base _ _ _) (good_10 N)
def L_11 {R : Type} (N : Nat) : Loops R := LG_11
theorem lok_11 {R : Type} (N : Nat) : LOK 0 TT (E_11 (R := R) N) (drawAny TT WW) (L_11 N) (bodyOf Try.f11) := loops_nil (by kernel_rfl)
theorem grun_11 {R : Type} (q_10 : Tp_10 R) (x : aden ap_11 × hden hp_11) (k : KF R) : fnrun TT (EG_11 q_10) (drawAny TT WW) (LG_11) true Try.f11 (instA ap_11 x.1) (instH hp_11 x.2) k = Q_11 q_10 x (fun y => k (Pat.inst (.tup (.fcons (.str) (.fcons (.int .i64) (.fnil)))) y) (instH hp_11 x.2)) := by kernel_rfl
theorem run_11 {R : Type} (N : Nat) (x : aden ap_11 × hden hp_11) (k : KF R) : fnrun TT (E_11 (R := R) N) (drawAny TT WW) (L_11 N) true Try.f11 (instA ap_11 x.1) (instH hp_11 x.2) k = p_11 N x (fun y => k (Pat.inst (.tup (.fcons (.str) (.fcons (.int .i64) (.fnil)))) y) (instH hp_11 x.2)) := (grun_11 (p_10 N) x k).trans (by kernel_rfl)
theorem good_11 {R : Type} (N : Nat) : GD (X := R) Try.prog QQ AA 11 ap_11 hp_11 (fun (x : aden ap_11 × hden hp_11) k => p_11 N x (fun y => k (Pat.inst (.tup (.fcons (.str) (.fcons (.int .i64) (.fnil)))) y) (instH hp_11 x.2))) :=
  gd_quiet (E := E_11 N) (p := fun (x : aden ap_11 × hden hp_11) κ => p_11 N x (fun y => κ (Pat.inst (.tup (.fcons (.str) (.fcons (.int .i64) (.fnil)))) y))) mixed tyok (eok_11 N) Try.func11 (by kernel_rfl) (by kernel_rfl) (lok_11 N) (fun x k => run_11 N x k)

def ap_12 : List Pat := [.nilp, .node (.fcons (.int .i64) (.fcons (.int .i64) (.fnil))), .vec (.int .u64) 128]
def hp_12 : List (Option (Pat × Nat)) := []
def p_12 {R : Type} (N : Nat) (x : (Unit × (Int × (Int × Unit)) × (Nat → Int) × Unit) × (Unit)) (κ0 : (Int × (Unit)) → Option R) : Option R :=
let i455 : Int := x.1.2.1.1
let i456 : Int := x.1.2.1.2.1
let a457 : (Nat → Int) := x.1.2.2.1
p_46 N (((), (i455, (i456, ())), ()), ()) (fun y458 =>
let i459 : Int := y458
bif (decide (i459 < 0)) then (
κ0 (11, ())) else (
none))

abbrev Tp_12 (R : Type) : Type := (Unit × (Int × (Int × Unit)) × (Nat → Int) × Unit) × (Unit) → ((Int × (Unit)) → Option R) → Option R
def Q_12 {R : Type} (q_46 : Tp_46 R) (x : (Unit × (Int × (Int × Unit)) × (Nat → Int) × Unit) × (Unit)) (κ0 : (Int × (Unit)) → Option R) : Option R :=
let i455 : Int := x.1.2.1.1
let i456 : Int := x.1.2.1.2.1
let a457 : (Nat → Int) := x.1.2.2.1
q_46 (((), (i455, (i456, ())), ()), ()) (fun y458 =>
let i459 : Int := y458
bif (decide (i459 < 0)) then (
κ0 (11, ())) else (
none))
def EG_12 {R : Type} (q_46 : Tp_46 R) : Env R := (Env.base QQ LN AA).add 46 ap_46 hp_46 (fun (x : aden ap_46 × hden hp_46) k => q_46 x (fun y => k (Pat.inst (.int .i64) y) (instH hp_46 x.2)))
def LG_12 {R : Type} : Loops R := Loops.none
def E_12 {R : Type} (N : Nat) : Env R := EG_12 (p_46 N)
theorem eok_12 {R : Type} (N : Nat) : EK Try.prog (E_12 (R := R) N) := ek_add (ek_base _ _ _) (good_46 N)
def L_12 {R : Type} (N : Nat) : Loops R := LG_12
theorem lok_12 {R : Type} (N : Nat) : LOK 0 TT (E_12 (R := R) N) (drawAny TT WW) (L_12 N) (bodyOf Try.f12) := loops_nil (by kernel_rfl)
theorem grun_12 {R : Type} (q_46 : Tp_46 R) (x : aden ap_12 × hden hp_12) (k : KF R) : fnrun TT (EG_12 q_46) (drawAny TT WW) (LG_12) true Try.f12 (instA ap_12 x.1) (instH hp_12 x.2) k = Q_12 q_46 x (fun y => k (Pat.inst (.int .i64) y.1) (instH [] y.2)) := by kernel_rfl
theorem run_12 {R : Type} (N : Nat) (x : aden ap_12 × hden hp_12) (k : KF R) : fnrun TT (E_12 (R := R) N) (drawAny TT WW) (L_12 N) true Try.f12 (instA ap_12 x.1) (instH hp_12 x.2) k = p_12 N x (fun y => k (Pat.inst (.int .i64) y.1) (instH [] y.2)) := (grun_12 (p_46 N) x k).trans (by kernel_rfl)
theorem good_12 {R : Type} (N : Nat) : GD (X := R) Try.prog QQ AA 12 ap_12 hp_12 (fun (x : aden ap_12 × hden hp_12) k => p_12 N x (fun y => k (Pat.inst (.int .i64) y.1) (instH [] y.2))) :=
  gd_loud (E := E_12 N) (p := fun (x : aden ap_12 × hden hp_12) k => p_12 N x (fun y => k (Pat.inst (.int .i64) y.1) (instH [] y.2))) mixed tyok (eok_12 N) Try.func12 (by kernel_rfl) (by kernel_rfl) (by kernel_rfl) (by kernel_rfl) (lok_12 N) (fun x k => run_12 N x k)

def ap_13 : List Pat := [.nilp, .str]
def hp_13 : List (Option (Pat × Nat)) := []
def p_13 {R : Type} (N : Nat) (x : (Unit × ByteArray × Unit) × (Unit)) (κ0 : Int → Option R) : Option R :=
let s462 : ByteArray := x.1.2.1
κ0 11

abbrev Tp_13 (R : Type) : Type := (Unit × ByteArray × Unit) × (Unit) → (Int → Option R) → Option R
def Q_13 {R : Type} (x : (Unit × ByteArray × Unit) × (Unit)) (κ0 : Int → Option R) : Option R :=
let s462 : ByteArray := x.1.2.1
κ0 11
def EG_13 {R : Type} : Env R := Env.base QQ LN AA
def LG_13 {R : Type} : Loops R := Loops.none
def E_13 {R : Type} (N : Nat) : Env R := EG_13
theorem eok_13 {R : Type} (N : Nat) : EK Try.prog (E_13 (R := R) N) := ek_base _ _ _
def L_13 {R : Type} (N : Nat) : Loops R := LG_13
theorem loops_13 : loopsIn (bodyOf Try.f13) = [(4, loopAt 4 (bodyOf Try.f13)), (7, loopAt 7 (bodyOf Try.f13))] := by kernel_rfl
theorem lok_13 {R : Type} (N : Nat) : LOK 0 TT (E_13 (R := R) N) (drawAny TT WW) (L_13 N) (bodyOf Try.f13) := loops_all loops_13 (by
  simp only [List.forall_mem_cons, List.not_mem_nil, false_implies, implies_true, and_true]
  exact ⟨rounds_none (fun _ _ => rfl), rounds_none (fun _ _ => rfl)⟩)
theorem grun_13 {R : Type} (x : aden ap_13 × hden hp_13) (k : KF R) : fnrun TT (EG_13) (drawAny TT WW) (LG_13) true Try.f13 (instA ap_13 x.1) (instH hp_13 x.2) k = Q_13 x (fun y => k (Pat.inst (.int .i64) y) (instH hp_13 x.2)) := by kernel_rfl
theorem run_13 {R : Type} (N : Nat) (x : aden ap_13 × hden hp_13) (k : KF R) : fnrun TT (E_13 (R := R) N) (drawAny TT WW) (L_13 N) true Try.f13 (instA ap_13 x.1) (instH hp_13 x.2) k = p_13 N x (fun y => k (Pat.inst (.int .i64) y) (instH hp_13 x.2)) := (grun_13 x k).trans (by kernel_rfl)
theorem good_13 {R : Type} (N : Nat) : GD (X := R) Try.prog QQ AA 13 ap_13 hp_13 (fun (x : aden ap_13 × hden hp_13) k => p_13 N x (fun y => k (Pat.inst (.int .i64) y) (instH hp_13 x.2))) :=
  gd_quiet (E := E_13 N) (p := fun (x : aden ap_13 × hden hp_13) κ => p_13 N x (fun y => κ (Pat.inst (.int .i64) y))) mixed tyok (eok_13 N) Try.func13 (by kernel_rfl) (by kernel_rfl) (lok_13 N) (fun x k => run_13 N x k)

def ap_55 : List Pat := [.node (.fcons (.int .i64) (.fcons (.int .i64) (.fcons (.int .i64) (.fcons (.int .i64) (.fcons (.int .i64) (.fcons (.int .i64) (.fcons (.int .i64) (.fcons (.int .i64) (.fnil)))))))))]
def hp_55 : List (Option (Pat × Nat)) := []
def p_55 {R : Type} (N : Nat) (x : ((Int × (Int × (Int × (Int × (Int × (Int × (Int × (Int × Unit)))))))) × Unit) × (Unit)) (κ0 : Bool → Option R) : Option R :=
let i480 : Int := x.1.1.1
let i481 : Int := x.1.1.2.1
let i482 : Int := x.1.1.2.2.1
let i483 : Int := x.1.1.2.2.2.1
let i484 : Int := x.1.1.2.2.2.2.1
let i485 : Int := x.1.1.2.2.2.2.2.1
let i486 : Int := x.1.1.2.2.2.2.2.2.1
let i487 : Int := x.1.1.2.2.2.2.2.2.2.1
bif (decide (i481 ≤ 3)) then (
bif (decide (i482 ≤ 4)) then (
κ0 ((decide (i484 ≤ 80)))) else (
κ0 false)) else (
κ0 false)

abbrev Tp_55 (R : Type) : Type := ((Int × (Int × (Int × (Int × (Int × (Int × (Int × (Int × Unit)))))))) × Unit) × (Unit) → (Bool → Option R) → Option R
def Q_55 {R : Type} (x : ((Int × (Int × (Int × (Int × (Int × (Int × (Int × (Int × Unit)))))))) × Unit) × (Unit)) (κ0 : Bool → Option R) : Option R :=
let i480 : Int := x.1.1.1
let i481 : Int := x.1.1.2.1
let i482 : Int := x.1.1.2.2.1
let i483 : Int := x.1.1.2.2.2.1
let i484 : Int := x.1.1.2.2.2.2.1
let i485 : Int := x.1.1.2.2.2.2.2.1
let i486 : Int := x.1.1.2.2.2.2.2.2.1
let i487 : Int := x.1.1.2.2.2.2.2.2.2.1
bif (decide (i481 ≤ 3)) then (
bif (decide (i482 ≤ 4)) then (
κ0 ((decide (i484 ≤ 80)))) else (
κ0 false)) else (
κ0 false)
def EG_55 {R : Type} : Env R := Env.base QQ LN AA
def LG_55 {R : Type} : Loops R := Loops.none
def E_55 {R : Type} (N : Nat) : Env R := EG_55
theorem eok_55 {R : Type} (N : Nat) : EK Try.prog (E_55 (R := R) N) := ek_base _ _ _
def L_55 {R : Type} (N : Nat) : Loops R := LG_55
theorem lok_55 {R : Type} (N : Nat) : LOK 0 TT (E_55 (R := R) N) (drawAny TT WW) (L_55 N) (bodyOf Try.f55) := loops_nil (by kernel_rfl)
theorem grun_55 {R : Type} (x : aden ap_55 × hden hp_55) (k : KF R) : fnrun TT (EG_55) (drawAny TT WW) (LG_55) true Try.f55 (instA ap_55 x.1) (instH hp_55 x.2) k = Q_55 x (fun y => k (Pat.inst (.bool) y) (instH hp_55 x.2)) := by kernel_rfl
theorem run_55 {R : Type} (N : Nat) (x : aden ap_55 × hden hp_55) (k : KF R) : fnrun TT (E_55 (R := R) N) (drawAny TT WW) (L_55 N) true Try.f55 (instA ap_55 x.1) (instH hp_55 x.2) k = p_55 N x (fun y => k (Pat.inst (.bool) y) (instH hp_55 x.2)) := (grun_55 x k).trans (by kernel_rfl)
theorem good_55 {R : Type} (N : Nat) : GD (X := R) Try.prog QQ AA 55 ap_55 hp_55 (fun (x : aden ap_55 × hden hp_55) k => p_55 N x (fun y => k (Pat.inst (.bool) y) (instH hp_55 x.2))) :=
  gd_quiet (E := E_55 N) (p := fun (x : aden ap_55 × hden hp_55) κ => p_55 N x (fun y => κ (Pat.inst (.bool) y))) mixed tyok (eok_55 N) Try.func55 (by kernel_rfl) (by kernel_rfl) (lok_55 N) (fun x k => run_55 N x k)

def ap_14 : List Pat := [.node (.fcons (.int .i64) (.fcons (.int .i64) (.fcons (.int .i64) (.fcons (.int .i64) (.fcons (.int .i64) (.fnil))))))]
def hp_14 : List (Option (Pat × Nat)) := []
def p_14 {R : Type} (N : Nat) (x : ((Int × (Int × (Int × (Int × (Int × Unit))))) × Unit) × (Unit)) (κ0 : (Unit × (Unit)) → Option R) (κ1 : (Unit × ((Unit × ((Int × (Int × (Int × (Int × (Int × (Int × (Int × (Int × Unit)))))))) × Unit)) × (Unit × (Unit × (Bool × Unit))) × (Int × (Int × (Int × (Int × Unit)))) × (List (Nat → Int)) × Unit)) → Option R) : Option R :=
let i465 : Int := x.1.1.1
let i466 : Int := x.1.1.2.1
let i467 : Int := x.1.1.2.2.1
let i468 : Int := x.1.1.2.2.2.1
let i469 : Int := x.1.1.2.2.2.2.1
p_42 N (((i465, (i466, (i467, (i468, (i469, ()))))), ()), ()) (fun y470 =>
let i471 : Int := y470.1.1
let i472 : Int := y470.1.2.1
let i473 : Int := y470.1.2.2.1
let i474 : Int := y470.1.2.2.2.1
let i475 : Int := y470.1.2.2.2.2.1
let i476 : Int := y470.1.2.2.2.2.2.1
let i477 : Int := y470.1.2.2.2.2.2.2.1
let i478 : Int := y470.1.2.2.2.2.2.2.2.1
let i479 : Int := y470.2.1
bif (i479 != 0) then (
κ0 ((), ())) else (
p_55 N (((i471, (i472, (i473, (i474, (i475, (i476, (i477, (i478, ())))))))), ()), ()) (fun y488 =>
let b489 : Bool := y488
bif (!b489) then (
κ0 ((), ())) else (
p_43 N ((i475, ()), ()) (fun y490 =>
let i491 : Int := y490.1.2.1
p_44 N (((), i475, ()), ()) (fun y492 =>
let i493 : Int := y492.1.2.1
p_45 N (((), (i471, (i472, (i473, (i474, (i475, (i476, (i477, (i478, ())))))))), ()), ()) (fun y494 =>
let i495 : Int := y494.1.2.1
κ0 ((), ())))) (fun y496 =>
let i497 : Int := y496.1.2.1
let i498 : Int := y496.2.1.1
let i499 : Int := y496.2.1.2.1
let i500 : Int := y496.2.1.2.2.1
let i501 : Int := y496.2.1.2.2.2.1
p_44_v1 N (((), i475, ()), ((i498, (i499, (i500, (i501, ())))), ())) (fun y502 =>
let i503 : Int := y502.1.2.1
let i504 : Int := y502.2.1.1
let i505 : Int := y502.2.1.2.1
let i506 : Int := y502.2.1.2.2.1
let i507 : Int := y502.2.1.2.2.2.1
p_45 N (((), (i471, (i472, (i473, (i474, (i475, (i476, (i477, (i478, ())))))))), ()), ()) (fun y508 =>
let i509 : Int := y508.1.2.1
κ0 ((), ()))) (fun y510 =>
let i511 : Int := y510.1.2.1
let i512 : Int := y510.2.1.1
let i513 : Int := y510.2.1.2.1
let i514 : Int := y510.2.1.2.2.1
let i515 : Int := y510.2.1.2.2.2.1
let b516 : Bool := y510.2.2.1.2.2.1
let l517 : (List (Nat → Int)) := y510.2.2.2.1
p_45_v1 N (((), (i471, (i472, (i473, (i474, (i475, (i476, (i477, (i478, ())))))))), ()), (((), ((), (b516, ()))), (i512, (i513, (i514, (i515, ())))), l517, ())) (fun y518 =>
let i519 : Int := y518.1.2.1
let b520 : Bool := y518.2.1.2.2.1
let i521 : Int := y518.2.2.1.1
let i522 : Int := y518.2.2.1.2.1
let i523 : Int := y518.2.2.1.2.2.1
let i524 : Int := y518.2.2.1.2.2.2.1
let l525 : (List (Nat → Int)) := y518.2.2.2.1
κ0 ((), ())) (fun y526 =>
let i527 : Int := y526.1.2.1
let b528 : Bool := y526.2.1.2.2.1
let i529 : Int := y526.2.2.1.1
let i530 : Int := y526.2.2.1.2.1
let i531 : Int := y526.2.2.1.2.2.1
let i532 : Int := y526.2.2.1.2.2.2.1
let l533 : (List (Nat → Int)) := y526.2.2.2.1
let i534 : Int := y526.2.2.2.2.1.2.1.1
let i535 : Int := y526.2.2.2.2.1.2.1.2.1
let i536 : Int := y526.2.2.2.2.1.2.1.2.2.1
let i537 : Int := y526.2.2.2.2.1.2.1.2.2.2.1
let i538 : Int := y526.2.2.2.2.1.2.1.2.2.2.2.1
let i539 : Int := y526.2.2.2.2.1.2.1.2.2.2.2.2.1
let i540 : Int := y526.2.2.2.2.1.2.1.2.2.2.2.2.2.1
let i541 : Int := y526.2.2.2.2.1.2.1.2.2.2.2.2.2.2.1
κ1 ((), (((), ((i534, (i535, (i536, (i537, (i538, (i539, (i540, (i541, ())))))))), ())), ((), ((), (b528, ()))), (i529, (i530, (i531, (i532, ())))), l533, ())))))))))

abbrev Tp_14 (R : Type) : Type := ((Int × (Int × (Int × (Int × (Int × Unit))))) × Unit) × (Unit) → ((Unit × (Unit)) → Option R) → ((Unit × ((Unit × ((Int × (Int × (Int × (Int × (Int × (Int × (Int × (Int × Unit)))))))) × Unit)) × (Unit × (Unit × (Bool × Unit))) × (Int × (Int × (Int × (Int × Unit)))) × (List (Nat → Int)) × Unit)) → Option R) → Option R
def Q_14 {R : Type} (q_42 : Tp_42 R) (q_55 : Tp_55 R) (q_43 : Tp_43 R) (q_44 : Tp_44 R) (q_45 : Tp_45 R) (q_44_v1 : Tp_44_v1 R) (q_45_v1 : Tp_45_v1 R) (x : ((Int × (Int × (Int × (Int × (Int × Unit))))) × Unit) × (Unit)) (κ0 : (Unit × (Unit)) → Option R) (κ1 : (Unit × ((Unit × ((Int × (Int × (Int × (Int × (Int × (Int × (Int × (Int × Unit)))))))) × Unit)) × (Unit × (Unit × (Bool × Unit))) × (Int × (Int × (Int × (Int × Unit)))) × (List (Nat → Int)) × Unit)) → Option R) : Option R :=
let i465 : Int := x.1.1.1
let i466 : Int := x.1.1.2.1
let i467 : Int := x.1.1.2.2.1
let i468 : Int := x.1.1.2.2.2.1
let i469 : Int := x.1.1.2.2.2.2.1
q_42 (((i465, (i466, (i467, (i468, (i469, ()))))), ()), ()) (fun y470 =>
let i471 : Int := y470.1.1
let i472 : Int := y470.1.2.1
let i473 : Int := y470.1.2.2.1
let i474 : Int := y470.1.2.2.2.1
let i475 : Int := y470.1.2.2.2.2.1
let i476 : Int := y470.1.2.2.2.2.2.1
let i477 : Int := y470.1.2.2.2.2.2.2.1
let i478 : Int := y470.1.2.2.2.2.2.2.2.1
let i479 : Int := y470.2.1
bif (i479 != 0) then (
κ0 ((), ())) else (
q_55 (((i471, (i472, (i473, (i474, (i475, (i476, (i477, (i478, ())))))))), ()), ()) (fun y488 =>
let b489 : Bool := y488
bif (!b489) then (
κ0 ((), ())) else (
q_43 ((i475, ()), ()) (fun y490 =>
let i491 : Int := y490.1.2.1
q_44 (((), i475, ()), ()) (fun y492 =>
let i493 : Int := y492.1.2.1
q_45 (((), (i471, (i472, (i473, (i474, (i475, (i476, (i477, (i478, ())))))))), ()), ()) (fun y494 =>
let i495 : Int := y494.1.2.1
κ0 ((), ())))) (fun y496 =>
let i497 : Int := y496.1.2.1
let i498 : Int := y496.2.1.1
let i499 : Int := y496.2.1.2.1
let i500 : Int := y496.2.1.2.2.1
let i501 : Int := y496.2.1.2.2.2.1
q_44_v1 (((), i475, ()), ((i498, (i499, (i500, (i501, ())))), ())) (fun y502 =>
let i503 : Int := y502.1.2.1
let i504 : Int := y502.2.1.1
let i505 : Int := y502.2.1.2.1
let i506 : Int := y502.2.1.2.2.1
let i507 : Int := y502.2.1.2.2.2.1
q_45 (((), (i471, (i472, (i473, (i474, (i475, (i476, (i477, (i478, ())))))))), ()), ()) (fun y508 =>
let i509 : Int := y508.1.2.1
κ0 ((), ()))) (fun y510 =>
let i511 : Int := y510.1.2.1
let i512 : Int := y510.2.1.1
let i513 : Int := y510.2.1.2.1
let i514 : Int := y510.2.1.2.2.1
let i515 : Int := y510.2.1.2.2.2.1
let b516 : Bool := y510.2.2.1.2.2.1
let l517 : (List (Nat → Int)) := y510.2.2.2.1
q_45_v1 (((), (i471, (i472, (i473, (i474, (i475, (i476, (i477, (i478, ())))))))), ()), (((), ((), (b516, ()))), (i512, (i513, (i514, (i515, ())))), l517, ())) (fun y518 =>
let i519 : Int := y518.1.2.1
let b520 : Bool := y518.2.1.2.2.1
let i521 : Int := y518.2.2.1.1
let i522 : Int := y518.2.2.1.2.1
let i523 : Int := y518.2.2.1.2.2.1
let i524 : Int := y518.2.2.1.2.2.2.1
let l525 : (List (Nat → Int)) := y518.2.2.2.1
κ0 ((), ())) (fun y526 =>
let i527 : Int := y526.1.2.1
let b528 : Bool := y526.2.1.2.2.1
let i529 : Int := y526.2.2.1.1
let i530 : Int := y526.2.2.1.2.1
let i531 : Int := y526.2.2.1.2.2.1
let i532 : Int := y526.2.2.1.2.2.2.1
let l533 : (List (Nat → Int)) := y526.2.2.2.1
let i534 : Int := y526.2.2.2.2.1.2.1.1
let i535 : Int := y526.2.2.2.2.1.2.1.2.1
let i536 : Int := y526.2.2.2.2.1.2.1.2.2.1
let i537 : Int := y526.2.2.2.2.1.2.1.2.2.2.1
let i538 : Int := y526.2.2.2.2.1.2.1.2.2.2.2.1
let i539 : Int := y526.2.2.2.2.1.2.1.2.2.2.2.2.1
let i540 : Int := y526.2.2.2.2.1.2.1.2.2.2.2.2.2.1
let i541 : Int := y526.2.2.2.2.1.2.1.2.2.2.2.2.2.2.1
κ1 ((), (((), ((i534, (i535, (i536, (i537, (i538, (i539, (i540, (i541, ())))))))), ())), ((), ((), (b528, ()))), (i529, (i530, (i531, (i532, ())))), l533, ())))))))))
def EG_14 {R : Type} (q_42 : Tp_42 R) (q_55 : Tp_55 R) (q_43 : Tp_43 R) (q_44 : Tp_44 R) (q_45 : Tp_45 R) (q_44_v1 : Tp_44_v1 R) (q_45_v1 : Tp_45_v1 R) : Env R := (((((((Env.base QQ LN AA).add 42 ap_42 hp_42 (fun (x : aden ap_42 × hden hp_42) k => q_42 x (fun y => k (Pat.inst (.tup (.fcons (.node (.fcons (.int .i64) (.fcons (.int .i64) (.fcons (.int .i64) (.fcons (.int .i64) (.fcons (.int .i64) (.fcons (.int .i64) (.fcons (.int .i64) (.fcons (.int .i64) (.fnil)))))))))) (.fcons (.int .i64) (.fnil)))) y) (instH hp_42 x.2)))).add 55 ap_55 hp_55 (fun (x : aden ap_55 × hden hp_55) k => q_55 x (fun y => k (Pat.inst (.bool) y) (instH hp_55 x.2)))).add 43 ap_43 hp_43 (fun (x : aden ap_43 × hden hp_43) k => q_43 x (fun y => k (Pat.inst (.tup (.fcons (.nilp) (.fcons (.int .i64) (.fnil)))) y.1) (instH [] y.2)) (fun y => k (Pat.inst (.tup (.fcons (.ptr 0 []) (.fcons (.int .i64) (.fnil)))) y.1) (instH [some (.node (.fcons (.int .i64) (.fcons (.int .i64) (.fcons (.int .i64) (.fcons (.int .i64) (.fnil))))), 145)] y.2)))).add 44 ap_44 hp_44 (fun (x : aden ap_44 × hden hp_44) k => q_44 x (fun y => k (Pat.inst (.tup (.fcons (.nilp) (.fcons (.int .i64) (.fnil)))) y.1) (instH [] y.2)))).add 45 ap_45 hp_45 (fun (x : aden ap_45 × hden hp_45) k => q_45 x (fun y => k (Pat.inst (.tup (.fcons (.nilp) (.fcons (.int .i64) (.fnil)))) y.1) (instH [] y.2)))).add 44 ap_44_v1 hp_44_v1 (fun (x : aden ap_44_v1 × hden hp_44_v1) k => q_44_v1 x (fun y => k (Pat.inst (.tup (.fcons (.nilp) (.fcons (.int .i64) (.fnil)))) y.1) (instH [some (.node (.fcons (.int .i64) (.fcons (.int .i64) (.fcons (.int .i64) (.fcons (.int .i64) (.fnil))))), 145)] y.2)) (fun y => k (Pat.inst (.tup (.fcons (.ptr 1 []) (.fcons (.int .i64) (.fnil)))) y.1) (instH [some (.node (.fcons (.int .i64) (.fcons (.int .i64) (.fcons (.int .i64) (.fcons (.int .i64) (.fnil))))), 145), some (.node (.fcons (.ptr 0 []) (.fcons (.sl 2) (.fcons (.bool) (.fnil)))), 147), some (.lst (.arr 128 (.int .u64)), 29)] y.2)))).add 45 ap_45_v1 hp_45_v1 (fun (x : aden ap_45_v1 × hden hp_45_v1) k => q_45_v1 x (fun y => k (Pat.inst (.tup (.fcons (.nilp) (.fcons (.int .i64) (.fnil)))) y.1) (instH [some (.node (.fcons (.ptr 1 []) (.fcons (.sl 2) (.fcons (.bool) (.fnil)))), 147), some (.node (.fcons (.int .i64) (.fcons (.int .i64) (.fcons (.int .i64) (.fcons (.int .i64) (.fnil))))), 145), some (.lst (.arr 128 (.int .u64)), 29)] y.2)) (fun y => k (Pat.inst (.tup (.fcons (.ptr 3 []) (.fcons (.int .i64) (.fnil)))) y.1) (instH [some (.node (.fcons (.ptr 1 []) (.fcons (.sl 2) (.fcons (.bool) (.fnil)))), 147), some (.node (.fcons (.int .i64) (.fcons (.int .i64) (.fcons (.int .i64) (.fcons (.int .i64) (.fnil))))), 145), some (.lst (.arr 128 (.int .u64)), 29), some (.node (.fcons (.ptr 0 []) (.fcons (.node (.fcons (.int .i64) (.fcons (.int .i64) (.fcons (.int .i64) (.fcons (.int .i64) (.fcons (.int .i64) (.fcons (.int .i64) (.fcons (.int .i64) (.fcons (.int .i64) (.fnil)))))))))) (.fnil))), 49)] y.2)))
def LG_14 {R : Type} : Loops R := Loops.none
def E_14 {R : Type} (N : Nat) : Env R := EG_14 (p_42 N) (p_55 N) (p_43 N) (p_44 N) (p_45 N) (p_44_v1 N) (p_45_v1 N)
theorem eok_14 {R : Type} (N : Nat) : EK Try.prog (E_14 (R := R) N) := ek_add (ek_add (ek_add (ek_add (ek_add (ek_add (ek_add (ek_base _ _ _) (good_42 N)) (good_55 N)) (good_43 N)) (good_44 N)) (good_45 N)) (good_44_v1 N)) (good_45_v1 N)
def L_14 {R : Type} (N : Nat) : Loops R := LG_14
theorem lok_14 {R : Type} (N : Nat) : LOK 0 TT (E_14 (R := R) N) (drawAny TT WW) (L_14 N) (bodyOf Try.f14) := loops_nil (by kernel_rfl)
theorem grun_14 {R : Type} (q_42 : Tp_42 R) (q_55 : Tp_55 R) (q_43 : Tp_43 R) (q_44 : Tp_44 R) (q_45 : Tp_45 R) (q_44_v1 : Tp_44_v1 R) (q_45_v1 : Tp_45_v1 R) (x : aden ap_14 × hden hp_14) (k : KF R) : fnrun TT (EG_14 q_42 q_55 q_43 q_44 q_45 q_44_v1 q_45_v1) (drawAny TT WW) (LG_14) true Try.f14 (instA ap_14 x.1) (instH hp_14 x.2) k = Q_14 q_42 q_55 q_43 q_44 q_45 q_44_v1 q_45_v1 x (fun y => k (Pat.inst (.nilp) y.1) (instH [] y.2)) (fun y => k (Pat.inst (.ptr 0 []) y.1) (instH [some (.node (.fcons (.ptr 1 []) (.fcons (.node (.fcons (.int .i64) (.fcons (.int .i64) (.fcons (.int .i64) (.fcons (.int .i64) (.fcons (.int .i64) (.fcons (.int .i64) (.fcons (.int .i64) (.fcons (.int .i64) (.fnil)))))))))) (.fnil))), 49), some (.node (.fcons (.ptr 2 []) (.fcons (.sl 3) (.fcons (.bool) (.fnil)))), 147), some (.node (.fcons (.int .i64) (.fcons (.int .i64) (.fcons (.int .i64) (.fcons (.int .i64) (.fnil))))), 145), some (.lst (.arr 128 (.int .u64)), 29)] y.2)) := by kernel_rfl
theorem run_14 {R : Type} (N : Nat) (x : aden ap_14 × hden hp_14) (k : KF R) : fnrun TT (E_14 (R := R) N) (drawAny TT WW) (L_14 N) true Try.f14 (instA ap_14 x.1) (instH hp_14 x.2) k = p_14 N x (fun y => k (Pat.inst (.nilp) y.1) (instH [] y.2)) (fun y => k (Pat.inst (.ptr 0 []) y.1) (instH [some (.node (.fcons (.ptr 1 []) (.fcons (.node (.fcons (.int .i64) (.fcons (.int .i64) (.fcons (.int .i64) (.fcons (.int .i64) (.fcons (.int .i64) (.fcons (.int .i64) (.fcons (.int .i64) (.fcons (.int .i64) (.fnil)))))))))) (.fnil))), 49), some (.node (.fcons (.ptr 2 []) (.fcons (.sl 3) (.fcons (.bool) (.fnil)))), 147), some (.node (.fcons (.int .i64) (.fcons (.int .i64) (.fcons (.int .i64) (.fcons (.int .i64) (.fnil))))), 145), some (.lst (.arr 128 (.int .u64)), 29)] y.2)) := (grun_14 (p_42 N) (p_55 N) (p_43 N) (p_44 N) (p_45 N) (p_44_v1 N) (p_45_v1 N) x k).trans (by kernel_rfl)
theorem good_14 {R : Type} (N : Nat) : GD (X := R) Try.prog QQ AA 14 ap_14 hp_14 (fun (x : aden ap_14 × hden hp_14) k => p_14 N x (fun y => k (Pat.inst (.nilp) y.1) (instH [] y.2)) (fun y => k (Pat.inst (.ptr 0 []) y.1) (instH [some (.node (.fcons (.ptr 1 []) (.fcons (.node (.fcons (.int .i64) (.fcons (.int .i64) (.fcons (.int .i64) (.fcons (.int .i64) (.fcons (.int .i64) (.fcons (.int .i64) (.fcons (.int .i64) (.fcons (.int .i64) (.fnil)))))))))) (.fnil))), 49), some (.node (.fcons (.ptr 2 []) (.fcons (.sl 3) (.fcons (.bool) (.fnil)))), 147), some (.node (.fcons (.int .i64) (.fcons (.int .i64) (.fcons (.int .i64) (.fcons (.int .i64) (.fnil))))), 145), some (.lst (.arr 128 (.int .u64)), 29)] y.2))) :=
  gd_loud (E := E_14 N) (p := fun (x : aden ap_14 × hden hp_14) k => p_14 N x (fun y => k (Pat.inst (.nilp) y.1) (instH [] y.2)) (fun y => k (Pat.inst (.ptr 0 []) y.1) (instH [some (.node (.fcons (.ptr 1 []) (.fcons (.node (.fcons (.int .i64) (.fcons (.int .i64) (.fcons (.int .i64) (.fcons (.int .i64) (.fcons (.int .i64) (.fcons (.int .i64) (.fcons (.int .i64) (.fcons (.int .i64) (.fnil)))))))))) (.fnil))), 49), some (.node (.fcons (.ptr 2 []) (.fcons (.sl 3) (.fcons (.bool) (.fnil)))), 147), some (.node (.fcons (.int .i64) (.fcons (.int .i64) (.fcons (.int .i64) (.fcons (.int .i64) (.fnil))))), 145), some (.lst (.arr 128 (.int .u64)), 29)] y.2))) mixed tyok (eok_14 N) Try.func14 (by kernel_rfl) (by kernel_rfl) (by kernel_rfl) (by kernel_rfl) (lok_14 N) (fun x k => run_14 N x k)

def lv_15_3 : Live := [(1, none), (3, some (.fcons (.arr 29 (.fnil)) (.arr 128 (.int .u64)), 52)), (4, none)]
def pt_15_3 : SPat := ⟨[(1, .ptr 0 []), (3, .sl 1), (4, .int .i64)], [some (.node (.fcons (.int .i64) (.fcons (.int .i64) (.fcons (.int .i64) (.fcons (.int .i64) (.fcons (.int .i64) (.fcons (.int .i64) (.fcons (.int .i64) (.fcons (.int .i64) (.fnil))))))))), 45), some (.fam 29 (.arr 128 (.int .u64)), 52)]⟩
def px_15_3_0 : SPat := ⟨[(3, .sl 0)], [some (.fam 29 (.arr 128 (.int .u64)), 52)]⟩
def lo_15_3 : Exit → Live
  | .exit 0 => [(3, none)]
  | _ => []
def B_15_3 {R : Type} (N : Nat) (rec : ((Unit × Unit × Int × Unit) × ((Int × (Int × (Int × (Int × (Int × (Int × (Int × (Int × Unit)))))))) × (List (List (Nat → Int))) × Unit)) → Option R) (x : ((Unit × Unit × Int × Unit) × ((Int × (Int × (Int × (Int × (Int × (Int × (Int × (Int × Unit)))))))) × (List (List (Nat → Int))) × Unit))) (κ0 : ((Unit × Unit) × ((List (List (Nat → Int))) × Unit)) → Option R) : Option R :=
let i579 : Int := x.1.2.2.1
let i580 : Int := x.2.1.1
let i581 : Int := x.2.1.2.1
let i582 : Int := x.2.1.2.2.1
let i583 : Int := x.2.1.2.2.2.1
let i584 : Int := x.2.1.2.2.2.2.1
let i585 : Int := x.2.1.2.2.2.2.2.1
let i586 : Int := x.2.1.2.2.2.2.2.2.1
let i587 : Int := x.2.1.2.2.2.2.2.2.2.1
let r588 : (List (List (Nat → Int))) := x.2.2.1
bif (decide (i579 < i582)) then (
bif decide (0 ≤ i585) then (
bif decide (i585 ≤ i585) then (
bif decide (((1024 : Nat) : Int) * i585 ≤ 281474976710656) then (
bif decide (i585 ≤ 9223372036854775807) then (
let l589 : (List (Nat → Int)) := List.replicate ((Int.toNat i585)) (Sch.zero (.arr 128 (.int .u64)))
let r590 : (List (List (Nat → Int))) := [l589]
bif (((decide ((List.length r588 + List.length r590) * 24 ≤ 140737488355328) && true) && true) && true) then (
let r591 : (List (List (Nat → Int))) := (r588 ++ r590)
let i592 : Int := addA .i64 i579 1
rec (((), (), i592, ()), ((i580, (i581, (i582, (i583, (i584, (i585, (i586, (i587, ())))))))), r591, ()))) else none) else none) else none) else none) else none) else (
κ0 (((), ()), (r588, ())))
def l_15_3 {R : Type} (N : Nat) : Nat → ((Unit × Unit × Int × Unit) × ((Int × (Int × (Int × (Int × (Int × (Int × (Int × (Int × Unit)))))))) × (List (List (Nat → Int))) × Unit)) → (((Unit × Unit) × ((List (List (Nat → Int))) × Unit)) → Option R) → Option R
  | 0, _, _ => none
  | n + 1, x, κ0 => B_15_3 N (fun y => l_15_3 N n y κ0) x κ0
def ap_15 : List Pat := [.node (.fcons (.int .i64) (.fcons (.int .i64) (.fcons (.int .i64) (.fcons (.int .i64) (.fcons (.int .i64) (.fcons (.int .i64) (.fcons (.int .i64) (.fcons (.int .i64) (.fnil)))))))))]
def hp_15 : List (Option (Pat × Nat)) := []
def p_15 {R : Type} (N : Nat) (x : ((Int × (Int × (Int × (Int × (Int × (Int × (Int × (Int × Unit)))))))) × Unit) × (Unit)) (κ0 : (Unit × ((List (List (Nat → Int))) × Unit)) → Option R) : Option R :=
let i559 : Int := x.1.1.1
let i560 : Int := x.1.1.2.1
let i561 : Int := x.1.1.2.2.1
let i562 : Int := x.1.1.2.2.2.1
let i563 : Int := x.1.1.2.2.2.2.1
let i564 : Int := x.1.1.2.2.2.2.2.1
let i565 : Int := x.1.1.2.2.2.2.2.2.1
let i566 : Int := x.1.1.2.2.2.2.2.2.2.1
l_15_3 N N (((), (), 0, ()), ((i559, (i560, (i561, (i562, (i563, (i564, (i565, (i566, ())))))))), [], ())) (fun y593 =>
let r594 : (List (List (Nat → Int))) := y593.2.1
κ0 ((), (r594, ())))

abbrev Tl_15_3 (R : Type) : Type := ((Unit × Unit × Int × Unit) × ((Int × (Int × (Int × (Int × (Int × (Int × (Int × (Int × Unit)))))))) × (List (List (Nat → Int))) × Unit)) → (((Unit × Unit) × ((List (List (Nat → Int))) × Unit)) → Option R) → Option R
abbrev Tp_15 (R : Type) : Type := ((Int × (Int × (Int × (Int × (Int × (Int × (Int × (Int × Unit)))))))) × Unit) × (Unit) → ((Unit × ((List (List (Nat → Int))) × Unit)) → Option R) → Option R
def Q_15 {R : Type} (m_15_3 : Tl_15_3 R) (x : ((Int × (Int × (Int × (Int × (Int × (Int × (Int × (Int × Unit)))))))) × Unit) × (Unit)) (κ0 : (Unit × ((List (List (Nat → Int))) × Unit)) → Option R) : Option R :=
let i559 : Int := x.1.1.1
let i560 : Int := x.1.1.2.1
let i561 : Int := x.1.1.2.2.1
let i562 : Int := x.1.1.2.2.2.1
let i563 : Int := x.1.1.2.2.2.2.1
let i564 : Int := x.1.1.2.2.2.2.2.1
let i565 : Int := x.1.1.2.2.2.2.2.2.1
let i566 : Int := x.1.1.2.2.2.2.2.2.2.1
m_15_3 (((), (), 0, ()), ((i559, (i560, (i561, (i562, (i563, (i564, (i565, (i566, ())))))))), [], ())) (fun y593 =>
let r594 : (List (List (Nat → Int))) := y593.2.1
κ0 ((), (r594, ())))
def C_15_3 {R : Type} (m_15_3 : Tl_15_3 R) (rec : ((Unit × Unit × Int × Unit) × ((Int × (Int × (Int × (Int × (Int × (Int × (Int × (Int × Unit)))))))) × (List (List (Nat → Int))) × Unit)) → Option R) (x : ((Unit × Unit × Int × Unit) × ((Int × (Int × (Int × (Int × (Int × (Int × (Int × (Int × Unit)))))))) × (List (List (Nat → Int))) × Unit))) (κ0 : ((Unit × Unit) × ((List (List (Nat → Int))) × Unit)) → Option R) : Option R :=
let i579 : Int := x.1.2.2.1
let i580 : Int := x.2.1.1
let i581 : Int := x.2.1.2.1
let i582 : Int := x.2.1.2.2.1
let i583 : Int := x.2.1.2.2.2.1
let i584 : Int := x.2.1.2.2.2.2.1
let i585 : Int := x.2.1.2.2.2.2.2.1
let i586 : Int := x.2.1.2.2.2.2.2.2.1
let i587 : Int := x.2.1.2.2.2.2.2.2.2.1
let r588 : (List (List (Nat → Int))) := x.2.2.1
bif (decide (i579 < i582)) then (
bif decide (0 ≤ i585) then (
bif decide (i585 ≤ i585) then (
bif decide (((1024 : Nat) : Int) * i585 ≤ 281474976710656) then (
bif decide (i585 ≤ 9223372036854775807) then (
let l589 : (List (Nat → Int)) := List.replicate ((Int.toNat i585)) (Sch.zero (.arr 128 (.int .u64)))
let r590 : (List (List (Nat → Int))) := [l589]
bif (((decide ((List.length r588 + List.length r590) * 24 ≤ 140737488355328) && true) && true) && true) then (
let r591 : (List (List (Nat → Int))) := (r588 ++ r590)
let i592 : Int := addA .i64 i579 1
rec (((), (), i592, ()), ((i580, (i581, (i582, (i583, (i584, (i585, (i586, (i587, ())))))))), r591, ()))) else none) else none) else none) else none) else none) else (
κ0 (((), ()), (r588, ())))
def EG_15 {R : Type} : Env R := Env.base QQ LN AA
def LG_15 {R : Type} (m_15_3 : Tl_15_3 R) : Loops R := (Loops.none).add 3 (loopBy 0 lv_15_3 pt_15_3 (fun x k => m_15_3 x (fun y => k (.exit 0) (px_15_3_0.inst y))))
def E_15 {R : Type} (N : Nat) : Env R := EG_15
theorem eok_15 {R : Type} (N : Nat) : EK Try.prog (E_15 (R := R) N) := ek_base _ _ _
def L_15 {R : Type} (N : Nat) : Loops R := LG_15 (l_15_3 N N)
theorem gstep_15_3 {R : Type} (m_15_3 : Tl_15_3 R) (n : Nat) (x : pt_15_3.den) (k : Exit → St → Option R) : iter 0 lv_15_3 lo_15_3 (aexec TT (EG_15) (drawAny TT WW) (LG_15 m_15_3) (loopAt 3 (bodyOf Try.f15))) (n + 1) (pt_15_3.inst x) k = C_15_3 m_15_3 (fun y => iter 0 lv_15_3 lo_15_3 (aexec TT (EG_15) (drawAny TT WW) (LG_15 m_15_3) (loopAt 3 (bodyOf Try.f15))) n (pt_15_3.inst y) k) x (fun y => k (.exit 0) (px_15_3_0.inst y)) := by kernel_rfl
theorem step_15_3 {R : Type} (N n : Nat) (x : pt_15_3.den) (k : Exit → St → Option R) : iter 0 lv_15_3 lo_15_3 (aexec TT (E_15 (R := R) N) (drawAny TT WW) (L_15 N) (loopAt 3 (bodyOf Try.f15))) (n + 1) (pt_15_3.inst x) k = B_15_3 N (fun y => iter 0 lv_15_3 lo_15_3 (aexec TT (E_15 (R := R) N) (drawAny TT WW) (L_15 N) (loopAt 3 (bodyOf Try.f15))) n (pt_15_3.inst y) k) x (fun y => k (.exit 0) (px_15_3_0.inst y)) := (gstep_15_3 (l_15_3 N N) n x k).trans (by kernel_rfl)
theorem eq_15_3 {R : Type} (N : Nat) : ∀ (n : Nat) (x : pt_15_3.den) (k : Exit → St → Option R), iter 0 lv_15_3 lo_15_3 (aexec TT (E_15 (R := R) N) (drawAny TT WW) (L_15 N) (loopAt 3 (bodyOf Try.f15))) n (pt_15_3.inst x) k = l_15_3 N n x (fun y => k (.exit 0) (px_15_3_0.inst y)) :=
  iter_eq (K := Exit → St → Option R) (ks := fun k => k) (l := fun n (x : pt_15_3.den) k => l_15_3 N n x (fun y => k (.exit 0) (px_15_3_0.inst y))) (B := fun (rec : pt_15_3.den → Option R) (x : pt_15_3.den) k => B_15_3 N rec x (fun y => k (.exit 0) (px_15_3_0.inst y))) (fun _ _ => rfl) (fun _ _ _ => rfl) (fun n x k => step_15_3 N n x k)
theorem rounds_15_3 {R : Type} (N : Nat) : Rounds 0 TT (E_15 (R := R) N) (drawAny TT WW) (L_15 N) 3 (loopAt 3 (bodyOf Try.f15)) :=
  rounds_of (p := pt_15_3) (l := fun (x : pt_15_3.den) k => l_15_3 N N x (fun y => k (.exit 0) (px_15_3_0.inst y))) (fun s k => rfl) (fun x k => eq_15_3 N N x k)
theorem loops_15 : loopsIn (bodyOf Try.f15) = [(3, loopAt 3 (bodyOf Try.f15))] := by kernel_rfl
theorem lok_15 {R : Type} (N : Nat) : LOK 0 TT (E_15 (R := R) N) (drawAny TT WW) (L_15 N) (bodyOf Try.f15) := loops_all loops_15 (by
  simp only [List.forall_mem_cons, List.not_mem_nil, false_implies, implies_true, and_true]
  exact rounds_15_3 N)
theorem grun_15 {R : Type} (m_15_3 : Tl_15_3 R) (x : aden ap_15 × hden hp_15) (k : KF R) : fnrun TT (EG_15) (drawAny TT WW) (LG_15 m_15_3) true Try.f15 (instA ap_15 x.1) (instH hp_15 x.2) k = Q_15 m_15_3 x (fun y => k (Pat.inst (.sl 0) y.1) (instH [some (.fam 29 (.arr 128 (.int .u64)), 52)] y.2)) := by kernel_rfl
theorem run_15 {R : Type} (N : Nat) (x : aden ap_15 × hden hp_15) (k : KF R) : fnrun TT (E_15 (R := R) N) (drawAny TT WW) (L_15 N) true Try.f15 (instA ap_15 x.1) (instH hp_15 x.2) k = p_15 N x (fun y => k (Pat.inst (.sl 0) y.1) (instH [some (.fam 29 (.arr 128 (.int .u64)), 52)] y.2)) := (grun_15 (l_15_3 N N) x k).trans (by kernel_rfl)
theorem good_15 {R : Type} (N : Nat) : GD (X := R) Try.prog QQ AA 15 ap_15 hp_15 (fun (x : aden ap_15 × hden hp_15) k => p_15 N x (fun y => k (Pat.inst (.sl 0) y.1) (instH [some (.fam 29 (.arr 128 (.int .u64)), 52)] y.2))) :=
  gd_loud (E := E_15 N) (p := fun (x : aden ap_15 × hden hp_15) k => p_15 N x (fun y => k (Pat.inst (.sl 0) y.1) (instH [some (.fam 29 (.arr 128 (.int .u64)), 52)] y.2))) mixed tyok (eok_15 N) Try.func15 (by kernel_rfl) (by kernel_rfl) (by kernel_rfl) (by kernel_rfl) (lok_15 N) (fun x k => run_15 N x k)

def ap_78 : List Pat := [.node (.fcons (.int .i64) (.fcons (.int .i64) (.fcons (.int .i64) (.fcons (.int .i64) (.fcons (.int .i64) (.fcons (.int .i64) (.fcons (.int .i64) (.fcons (.int .i64) (.fnil))))))))), .int .i64, .int .i64]
def hp_78 : List (Option (Pat × Nat)) := []
def p_78 {R : Type} (N : Nat) (x : ((Int × (Int × (Int × (Int × (Int × (Int × (Int × (Int × Unit)))))))) × Int × Int × Unit) × (Unit)) (κ0 : Int → Option R) : Option R :=
let i651 : Int := x.1.1.1
let i652 : Int := x.1.1.2.1
let i653 : Int := x.1.1.2.2.1
let i654 : Int := x.1.1.2.2.2.1
let i655 : Int := x.1.1.2.2.2.2.1
let i656 : Int := x.1.1.2.2.2.2.2.1
let i657 : Int := x.1.1.2.2.2.2.2.2.1
let i658 : Int := x.1.1.2.2.2.2.2.2.2.1
let i659 : Int := x.1.2.1
let i660 : Int := x.1.2.2.1
let i661 : Int := mulA .i64 i659 i656
let i662 : Int := addA .i64 i661 i660
κ0 i662

abbrev Tp_78 (R : Type) : Type := ((Int × (Int × (Int × (Int × (Int × (Int × (Int × (Int × Unit)))))))) × Int × Int × Unit) × (Unit) → (Int → Option R) → Option R
def Q_78 {R : Type} (x : ((Int × (Int × (Int × (Int × (Int × (Int × (Int × (Int × Unit)))))))) × Int × Int × Unit) × (Unit)) (κ0 : Int → Option R) : Option R :=
let i651 : Int := x.1.1.1
let i652 : Int := x.1.1.2.1
let i653 : Int := x.1.1.2.2.1
let i654 : Int := x.1.1.2.2.2.1
let i655 : Int := x.1.1.2.2.2.2.1
let i656 : Int := x.1.1.2.2.2.2.2.1
let i657 : Int := x.1.1.2.2.2.2.2.2.1
let i658 : Int := x.1.1.2.2.2.2.2.2.2.1
let i659 : Int := x.1.2.1
let i660 : Int := x.1.2.2.1
let i661 : Int := mulA .i64 i659 i656
let i662 : Int := addA .i64 i661 i660
κ0 i662
def EG_78 {R : Type} : Env R := Env.base QQ LN AA
def LG_78 {R : Type} : Loops R := Loops.none
def E_78 {R : Type} (N : Nat) : Env R := EG_78
theorem eok_78 {R : Type} (N : Nat) : EK Try.prog (E_78 (R := R) N) := ek_base _ _ _
def L_78 {R : Type} (N : Nat) : Loops R := LG_78
theorem lok_78 {R : Type} (N : Nat) : LOK 0 TT (E_78 (R := R) N) (drawAny TT WW) (L_78 N) (bodyOf Try.f78) := loops_nil (by kernel_rfl)
theorem grun_78 {R : Type} (x : aden ap_78 × hden hp_78) (k : KF R) : fnrun TT (EG_78) (drawAny TT WW) (LG_78) true Try.f78 (instA ap_78 x.1) (instH hp_78 x.2) k = Q_78 x (fun y => k (Pat.inst (.int .i64) y) (instH hp_78 x.2)) := by kernel_rfl
theorem run_78 {R : Type} (N : Nat) (x : aden ap_78 × hden hp_78) (k : KF R) : fnrun TT (E_78 (R := R) N) (drawAny TT WW) (L_78 N) true Try.f78 (instA ap_78 x.1) (instH hp_78 x.2) k = p_78 N x (fun y => k (Pat.inst (.int .i64) y) (instH hp_78 x.2)) := (grun_78 x k).trans (by kernel_rfl)
theorem good_78 {R : Type} (N : Nat) : GD (X := R) Try.prog QQ AA 78 ap_78 hp_78 (fun (x : aden ap_78 × hden hp_78) k => p_78 N x (fun y => k (Pat.inst (.int .i64) y) (instH hp_78 x.2))) :=
  gd_quiet (E := E_78 N) (p := fun (x : aden ap_78 × hden hp_78) κ => p_78 N x (fun y => κ (Pat.inst (.int .i64) y))) mixed tyok (eok_78 N) Try.func78 (by kernel_rfl) (by kernel_rfl) (lok_78 N) (fun x k => run_78 N x k)

def ap_46_v1 : List Pat := [.ptr 0 [], .node (.fcons (.int .i64) (.fcons (.int .i64) (.fnil)))]
def hp_46_v1 : List (Option (Pat × Nat)) := [some (.node (.fcons (.ptr 1 []) (.fcons (.node (.fcons (.int .i64) (.fcons (.int .i64) (.fcons (.int .i64) (.fcons (.int .i64) (.fcons (.int .i64) (.fcons (.int .i64) (.fcons (.int .i64) (.fcons (.int .i64) (.fnil)))))))))) (.fnil))), 49), some (.node (.fcons (.ptr 2 []) (.fcons (.sl 3) (.fcons (.bool) (.fnil)))), 147), some (.node (.fcons (.int .i64) (.fcons (.int .i64) (.fcons (.int .i64) (.fcons (.int .i64) (.fnil))))), 145), some (.lst (.arr 128 (.int .u64)), 29)]
def p_46_v1 {R : Type} (N : Nat) (x : (Unit × (Int × (Int × Unit)) × Unit) × ((Unit × ((Int × (Int × (Int × (Int × (Int × (Int × (Int × (Int × Unit)))))))) × Unit)) × (Unit × (Unit × (Bool × Unit))) × (Int × (Int × (Int × (Int × Unit)))) × (List (Nat → Int)) × Unit)) (κ0 : Int → Option R) : Option R :=
let i635 : Int := x.1.2.1.1
let i636 : Int := x.1.2.1.2.1
let i637 : Int := x.2.1.2.1.1
let i638 : Int := x.2.1.2.1.2.1
let i639 : Int := x.2.1.2.1.2.2.1
let i640 : Int := x.2.1.2.1.2.2.2.1
let i641 : Int := x.2.1.2.1.2.2.2.2.1
let i642 : Int := x.2.1.2.1.2.2.2.2.2.1
let i643 : Int := x.2.1.2.1.2.2.2.2.2.2.1
let i644 : Int := x.2.1.2.1.2.2.2.2.2.2.2.1
let b645 : Bool := x.2.2.1.2.2.1
let i646 : Int := x.2.2.2.1.1
let i647 : Int := x.2.2.2.1.2.1
let i648 : Int := x.2.2.2.1.2.2.1
let i649 : Int := x.2.2.2.1.2.2.2.1
let l650 : (List (Nat → Int)) := x.2.2.2.2.1
bif (decide (i635 < 0)) then (
κ0 ((-1))) else (
bif (decide (i635 ≥ i639)) then (
κ0 ((-1))) else (
bif (decide (i636 < 0)) then (
κ0 ((-1))) else (
bif (decide (i636 ≥ i642)) then (
κ0 ((-1))) else (
p_78 N (((i637, (i638, (i639, (i640, (i641, (i642, (i643, (i644, ())))))))), i635, i636, ()), ()) (fun y663 =>
let i664 : Int := y663
κ0 i664)))))

abbrev Tp_46_v1 (R : Type) : Type := (Unit × (Int × (Int × Unit)) × Unit) × ((Unit × ((Int × (Int × (Int × (Int × (Int × (Int × (Int × (Int × Unit)))))))) × Unit)) × (Unit × (Unit × (Bool × Unit))) × (Int × (Int × (Int × (Int × Unit)))) × (List (Nat → Int)) × Unit) → (Int → Option R) → Option R
def Q_46_v1 {R : Type} (q_78 : Tp_78 R) (x : (Unit × (Int × (Int × Unit)) × Unit) × ((Unit × ((Int × (Int × (Int × (Int × (Int × (Int × (Int × (Int × Unit)))))))) × Unit)) × (Unit × (Unit × (Bool × Unit))) × (Int × (Int × (Int × (Int × Unit)))) × (List (Nat → Int)) × Unit)) (κ0 : Int → Option R) : Option R :=
let i635 : Int := x.1.2.1.1
let i636 : Int := x.1.2.1.2.1
let i637 : Int := x.2.1.2.1.1
let i638 : Int := x.2.1.2.1.2.1
let i639 : Int := x.2.1.2.1.2.2.1
let i640 : Int := x.2.1.2.1.2.2.2.1
let i641 : Int := x.2.1.2.1.2.2.2.2.1
let i642 : Int := x.2.1.2.1.2.2.2.2.2.1
let i643 : Int := x.2.1.2.1.2.2.2.2.2.2.1
let i644 : Int := x.2.1.2.1.2.2.2.2.2.2.2.1
let b645 : Bool := x.2.2.1.2.2.1
let i646 : Int := x.2.2.2.1.1
let i647 : Int := x.2.2.2.1.2.1
let i648 : Int := x.2.2.2.1.2.2.1
let i649 : Int := x.2.2.2.1.2.2.2.1
let l650 : (List (Nat → Int)) := x.2.2.2.2.1
bif (decide (i635 < 0)) then (
κ0 ((-1))) else (
bif (decide (i635 ≥ i639)) then (
κ0 ((-1))) else (
bif (decide (i636 < 0)) then (
κ0 ((-1))) else (
bif (decide (i636 ≥ i642)) then (
κ0 ((-1))) else (
q_78 (((i637, (i638, (i639, (i640, (i641, (i642, (i643, (i644, ())))))))), i635, i636, ()), ()) (fun y663 =>
let i664 : Int := y663
κ0 i664)))))
def EG_46_v1 {R : Type} (q_78 : Tp_78 R) : Env R := (Env.base QQ LN AA).add 78 ap_78 hp_78 (fun (x : aden ap_78 × hden hp_78) k => q_78 x (fun y => k (Pat.inst (.int .i64) y) (instH hp_78 x.2)))
def LG_46_v1 {R : Type} : Loops R := Loops.none
def E_46_v1 {R : Type} (N : Nat) : Env R := EG_46_v1 (p_78 N)
theorem eok_46_v1 {R : Type} (N : Nat) : EK Try.prog (E_46_v1 (R := R) N) := ek_add (ek_base _ _ _) (good_78 N)
def L_46_v1 {R : Type} (N : Nat) : Loops R := LG_46_v1
theorem lok_46_v1 {R : Type} (N : Nat) : LOK 4 TT (E_46_v1 (R := R) N) (drawAny TT WW) (L_46_v1 N) (bodyOf Try.f46) := loops_nil (by kernel_rfl)
theorem grun_46_v1 {R : Type} (q_78 : Tp_78 R) (x : aden ap_46_v1 × hden hp_46_v1) (k : KF R) : fnrun TT (EG_46_v1 q_78) (drawAny TT WW) (LG_46_v1) true Try.f46 (instA ap_46_v1 x.1) (instH hp_46_v1 x.2) k = Q_46_v1 q_78 x (fun y => k (Pat.inst (.int .i64) y) (instH hp_46_v1 x.2)) := by kernel_rfl
theorem run_46_v1 {R : Type} (N : Nat) (x : aden ap_46_v1 × hden hp_46_v1) (k : KF R) : fnrun TT (E_46_v1 (R := R) N) (drawAny TT WW) (L_46_v1 N) true Try.f46 (instA ap_46_v1 x.1) (instH hp_46_v1 x.2) k = p_46_v1 N x (fun y => k (Pat.inst (.int .i64) y) (instH hp_46_v1 x.2)) := (grun_46_v1 (p_78 N) x k).trans (by kernel_rfl)
theorem good_46_v1 {R : Type} (N : Nat) : GD (X := R) Try.prog QQ AA 46 ap_46_v1 hp_46_v1 (fun (x : aden ap_46_v1 × hden hp_46_v1) k => p_46_v1 N x (fun y => k (Pat.inst (.int .i64) y) (instH hp_46_v1 x.2))) :=
  gd_quiet (E := E_46_v1 N) (p := fun (x : aden ap_46_v1 × hden hp_46_v1) κ => p_46_v1 N x (fun y => κ (Pat.inst (.int .i64) y))) mixed tyok (eok_46_v1 N) Try.func46 (by kernel_rfl) (by kernel_rfl) (lok_46_v1 N) (fun x k => run_46_v1 N x k)

def ap_47 : List Pat := [.ptr 0 [], .int .i64]
def hp_47 : List (Option (Pat × Nat)) := [some (.node (.fcons (.ptr 1 []) (.fcons (.sl 2) (.fcons (.bool) (.fnil)))), 147), some (.node (.fcons (.int .i64) (.fcons (.int .i64) (.fcons (.int .i64) (.fcons (.int .i64) (.fnil))))), 145), some (.lst (.arr 128 (.int .u64)), 29)]
def p_47 {R : Type} (N : Nat) (x : (Unit × Int × Unit) × ((Unit × (Unit × (Bool × Unit))) × (Int × (Int × (Int × (Int × Unit)))) × (List (Nat → Int)) × Unit)) (κ0 : ((Nat → Int) × (Int × Unit)) → Option R) : Option R :=
let i675 : Int := x.1.2.1
let b676 : Bool := x.2.1.2.2.1
let i677 : Int := x.2.2.1.1
let i678 : Int := x.2.2.1.2.1
let i679 : Int := x.2.2.1.2.2.1
let i680 : Int := x.2.2.1.2.2.2.1
let l681 : (List (Nat → Int)) := x.2.2.2.1
bif (decide (i675 < 0)) then (
let a682 : (Nat → Int) := (Sch.zero (.arr 128 (.int .u64)))
κ0 ((a682, (11, ())))) else (
let i683 : Int := (((List.length l681) : Nat) : Int)
bif (decide (i675 ≥ i683)) then (
let a684 : (Nat → Int) := (Sch.zero (.arr 128 (.int .u64)))
κ0 ((a684, (11, ())))) else (
bif (!b676) then (
let a685 : (Nat → Int) := (Sch.zero (.arr 128 (.int .u64)))
κ0 ((a685, (12, ())))) else (
bif decide (0 ≤ i675) then (
bif decide (i675 < ((List.length l681) : Int)) then (
let a686 : (Nat → Int) := (List.getD l681 ((Int.toNat i675)) (Sch.zero (.arr 128 (.int .u64))))
κ0 ((a686, (0, ())))) else none) else none)))

abbrev Tp_47 (R : Type) : Type := (Unit × Int × Unit) × ((Unit × (Unit × (Bool × Unit))) × (Int × (Int × (Int × (Int × Unit)))) × (List (Nat → Int)) × Unit) → (((Nat → Int) × (Int × Unit)) → Option R) → Option R
def Q_47 {R : Type} (x : (Unit × Int × Unit) × ((Unit × (Unit × (Bool × Unit))) × (Int × (Int × (Int × (Int × Unit)))) × (List (Nat → Int)) × Unit)) (κ0 : ((Nat → Int) × (Int × Unit)) → Option R) : Option R :=
let i675 : Int := x.1.2.1
let b676 : Bool := x.2.1.2.2.1
let i677 : Int := x.2.2.1.1
let i678 : Int := x.2.2.1.2.1
let i679 : Int := x.2.2.1.2.2.1
let i680 : Int := x.2.2.1.2.2.2.1
let l681 : (List (Nat → Int)) := x.2.2.2.1
bif (decide (i675 < 0)) then (
let a682 : (Nat → Int) := (Sch.zero (.arr 128 (.int .u64)))
κ0 ((a682, (11, ())))) else (
let i683 : Int := (((List.length l681) : Nat) : Int)
bif (decide (i675 ≥ i683)) then (
let a684 : (Nat → Int) := (Sch.zero (.arr 128 (.int .u64)))
κ0 ((a684, (11, ())))) else (
bif (!b676) then (
let a685 : (Nat → Int) := (Sch.zero (.arr 128 (.int .u64)))
κ0 ((a685, (12, ())))) else (
bif decide (0 ≤ i675) then (
bif decide (i675 < ((List.length l681) : Int)) then (
let a686 : (Nat → Int) := (List.getD l681 ((Int.toNat i675)) (Sch.zero (.arr 128 (.int .u64))))
κ0 ((a686, (0, ())))) else none) else none)))
def EG_47 {R : Type} : Env R := Env.base QQ LN AA
def LG_47 {R : Type} : Loops R := Loops.none
def E_47 {R : Type} (N : Nat) : Env R := EG_47
theorem eok_47 {R : Type} (N : Nat) : EK Try.prog (E_47 (R := R) N) := ek_base _ _ _
def L_47 {R : Type} (N : Nat) : Loops R := LG_47
theorem lok_47 {R : Type} (N : Nat) : LOK 3 TT (E_47 (R := R) N) (drawAny TT WW) (L_47 N) (bodyOf Try.f47) := loops_nil (by kernel_rfl)
theorem grun_47 {R : Type} (x : aden ap_47 × hden hp_47) (k : KF R) : fnrun TT (EG_47) (drawAny TT WW) (LG_47) true Try.f47 (instA ap_47 x.1) (instH hp_47 x.2) k = Q_47 x (fun y => k (Pat.inst (.tup (.fcons (.vec (.int .u64) 128) (.fcons (.int .i64) (.fnil)))) y) (instH hp_47 x.2)) := by kernel_rfl
theorem run_47 {R : Type} (N : Nat) (x : aden ap_47 × hden hp_47) (k : KF R) : fnrun TT (E_47 (R := R) N) (drawAny TT WW) (L_47 N) true Try.f47 (instA ap_47 x.1) (instH hp_47 x.2) k = p_47 N x (fun y => k (Pat.inst (.tup (.fcons (.vec (.int .u64) 128) (.fcons (.int .i64) (.fnil)))) y) (instH hp_47 x.2)) := (grun_47 x k).trans (by kernel_rfl)
theorem good_47 {R : Type} (N : Nat) : GD (X := R) Try.prog QQ AA 47 ap_47 hp_47 (fun (x : aden ap_47 × hden hp_47) k => p_47 N x (fun y => k (Pat.inst (.tup (.fcons (.vec (.int .u64) 128) (.fcons (.int .i64) (.fnil)))) y) (instH hp_47 x.2))) :=
  gd_quiet (E := E_47 N) (p := fun (x : aden ap_47 × hden hp_47) κ => p_47 N x (fun y => κ (Pat.inst (.tup (.fcons (.vec (.int .u64) 128) (.fcons (.int .i64) (.fnil)))) y))) mixed tyok (eok_47 N) Try.func47 (by kernel_rfl) (by kernel_rfl) (lok_47 N) (fun x k => run_47 N x k)

def ap_51 : List Pat := [.ptr 0 [], .int .i64, .vec (.int .u64) 128]
def hp_51 : List (Option (Pat × Nat)) := [some (.node (.fcons (.ptr 1 []) (.fcons (.sl 2) (.fcons (.bool) (.fnil)))), 147), some (.node (.fcons (.int .i64) (.fcons (.int .i64) (.fcons (.int .i64) (.fcons (.int .i64) (.fnil))))), 145), some (.lst (.arr 128 (.int .u64)), 29)]
def p_51 {R : Type} (N : Nat) (x : (Unit × Int × (Nat → Int) × Unit) × ((Unit × (Unit × (Bool × Unit))) × (Int × (Int × (Int × (Int × Unit)))) × (List (Nat → Int)) × Unit)) (κ0 : (Int × ((Unit × (Unit × (Bool × Unit))) × (Int × (Int × (Int × (Int × Unit)))) × (List (Nat → Int)) × Unit)) → Option R) : Option R :=
let i667 : Int := x.1.2.1
let a668 : (Nat → Int) := x.1.2.2.1
let b669 : Bool := x.2.1.2.2.1
let i670 : Int := x.2.2.1.1
let i671 : Int := x.2.2.1.2.1
let i672 : Int := x.2.2.1.2.2.1
let i673 : Int := x.2.2.1.2.2.2.1
let l674 : (List (Nat → Int)) := x.2.2.2.1
p_47 N (((), i667, ()), (((), ((), (b669, ()))), (i670, (i671, (i672, (i673, ())))), l674, ())) (fun y687 =>
let a688 : (Nat → Int) := y687.1
let i689 : Int := y687.2.1
bif (i689 != 0) then (
κ0 (i689, (((), ((), (b669, ()))), (i670, (i671, (i672, (i673, ())))), l674, ()))) else (
bif decide (0 ≤ i667) then (
bif decide (i667 < ((List.length l674) : Int)) then (
let l690 : (List (Nat → Int)) := (List.set l674 ((Int.toNat i667)) a668)
κ0 (0, (((), ((), (b669, ()))), (i670, (i671, (i672, (i673, ())))), l690, ()))) else none) else none))

abbrev Tp_51 (R : Type) : Type := (Unit × Int × (Nat → Int) × Unit) × ((Unit × (Unit × (Bool × Unit))) × (Int × (Int × (Int × (Int × Unit)))) × (List (Nat → Int)) × Unit) → ((Int × ((Unit × (Unit × (Bool × Unit))) × (Int × (Int × (Int × (Int × Unit)))) × (List (Nat → Int)) × Unit)) → Option R) → Option R
def Q_51 {R : Type} (q_47 : Tp_47 R) (x : (Unit × Int × (Nat → Int) × Unit) × ((Unit × (Unit × (Bool × Unit))) × (Int × (Int × (Int × (Int × Unit)))) × (List (Nat → Int)) × Unit)) (κ0 : (Int × ((Unit × (Unit × (Bool × Unit))) × (Int × (Int × (Int × (Int × Unit)))) × (List (Nat → Int)) × Unit)) → Option R) : Option R :=
let i667 : Int := x.1.2.1
let a668 : (Nat → Int) := x.1.2.2.1
let b669 : Bool := x.2.1.2.2.1
let i670 : Int := x.2.2.1.1
let i671 : Int := x.2.2.1.2.1
let i672 : Int := x.2.2.1.2.2.1
let i673 : Int := x.2.2.1.2.2.2.1
let l674 : (List (Nat → Int)) := x.2.2.2.1
q_47 (((), i667, ()), (((), ((), (b669, ()))), (i670, (i671, (i672, (i673, ())))), l674, ())) (fun y687 =>
let a688 : (Nat → Int) := y687.1
let i689 : Int := y687.2.1
bif (i689 != 0) then (
κ0 (i689, (((), ((), (b669, ()))), (i670, (i671, (i672, (i673, ())))), l674, ()))) else (
bif decide (0 ≤ i667) then (
bif decide (i667 < ((List.length l674) : Int)) then (
let l690 : (List (Nat → Int)) := (List.set l674 ((Int.toNat i667)) a668)
κ0 (0, (((), ((), (b669, ()))), (i670, (i671, (i672, (i673, ())))), l690, ()))) else none) else none))
def EG_51 {R : Type} (q_47 : Tp_47 R) : Env R := (Env.base QQ LN AA).add 47 ap_47 hp_47 (fun (x : aden ap_47 × hden hp_47) k => q_47 x (fun y => k (Pat.inst (.tup (.fcons (.vec (.int .u64) 128) (.fcons (.int .i64) (.fnil)))) y) (instH hp_47 x.2)))
def LG_51 {R : Type} : Loops R := Loops.none
def E_51 {R : Type} (N : Nat) : Env R := EG_51 (p_47 N)
theorem eok_51 {R : Type} (N : Nat) : EK Try.prog (E_51 (R := R) N) := ek_add (ek_base _ _ _) (good_47 N)
def L_51 {R : Type} (N : Nat) : Loops R := LG_51
theorem lok_51 {R : Type} (N : Nat) : LOK 3 TT (E_51 (R := R) N) (drawAny TT WW) (L_51 N) (bodyOf Try.f51) := loops_nil (by kernel_rfl)
theorem grun_51 {R : Type} (q_47 : Tp_47 R) (x : aden ap_51 × hden hp_51) (k : KF R) : fnrun TT (EG_51 q_47) (drawAny TT WW) (LG_51) true Try.f51 (instA ap_51 x.1) (instH hp_51 x.2) k = Q_51 q_47 x (fun y => k (Pat.inst (.int .i64) y.1) (instH [some (.node (.fcons (.ptr 1 []) (.fcons (.sl 2) (.fcons (.bool) (.fnil)))), 147), some (.node (.fcons (.int .i64) (.fcons (.int .i64) (.fcons (.int .i64) (.fcons (.int .i64) (.fnil))))), 145), some (.lst (.arr 128 (.int .u64)), 29)] y.2)) := by kernel_rfl
theorem run_51 {R : Type} (N : Nat) (x : aden ap_51 × hden hp_51) (k : KF R) : fnrun TT (E_51 (R := R) N) (drawAny TT WW) (L_51 N) true Try.f51 (instA ap_51 x.1) (instH hp_51 x.2) k = p_51 N x (fun y => k (Pat.inst (.int .i64) y.1) (instH [some (.node (.fcons (.ptr 1 []) (.fcons (.sl 2) (.fcons (.bool) (.fnil)))), 147), some (.node (.fcons (.int .i64) (.fcons (.int .i64) (.fcons (.int .i64) (.fcons (.int .i64) (.fnil))))), 145), some (.lst (.arr 128 (.int .u64)), 29)] y.2)) := (grun_51 (p_47 N) x k).trans (by kernel_rfl)
theorem good_51 {R : Type} (N : Nat) : GD (X := R) Try.prog QQ AA 51 ap_51 hp_51 (fun (x : aden ap_51 × hden hp_51) k => p_51 N x (fun y => k (Pat.inst (.int .i64) y.1) (instH [some (.node (.fcons (.ptr 1 []) (.fcons (.sl 2) (.fcons (.bool) (.fnil)))), 147), some (.node (.fcons (.int .i64) (.fcons (.int .i64) (.fcons (.int .i64) (.fcons (.int .i64) (.fnil))))), 145), some (.lst (.arr 128 (.int .u64)), 29)] y.2))) :=
  gd_loud (E := E_51 N) (p := fun (x : aden ap_51 × hden hp_51) k => p_51 N x (fun y => k (Pat.inst (.int .i64) y.1) (instH [some (.node (.fcons (.ptr 1 []) (.fcons (.sl 2) (.fcons (.bool) (.fnil)))), 147), some (.node (.fcons (.int .i64) (.fcons (.int .i64) (.fcons (.int .i64) (.fcons (.int .i64) (.fnil))))), 145), some (.lst (.arr 128 (.int .u64)), 29)] y.2))) mixed tyok (eok_51 N) Try.func51 (by kernel_rfl) (by kernel_rfl) (by kernel_rfl) (by kernel_rfl) (lok_51 N) (fun x k => run_51 N x k)

def ap_12_v1 : List Pat := [.ptr 0 [], .node (.fcons (.int .i64) (.fcons (.int .i64) (.fnil))), .vec (.int .u64) 128]
def hp_12_v1 : List (Option (Pat × Nat)) := [some (.node (.fcons (.ptr 1 []) (.fcons (.node (.fcons (.int .i64) (.fcons (.int .i64) (.fcons (.int .i64) (.fcons (.int .i64) (.fcons (.int .i64) (.fcons (.int .i64) (.fcons (.int .i64) (.fcons (.int .i64) (.fnil)))))))))) (.fnil))), 49), some (.node (.fcons (.ptr 2 []) (.fcons (.sl 3) (.fcons (.bool) (.fnil)))), 147), some (.node (.fcons (.int .i64) (.fcons (.int .i64) (.fcons (.int .i64) (.fcons (.int .i64) (.fnil))))), 145), some (.lst (.arr 128 (.int .u64)), 29)]
def p_12_v1 {R : Type} (N : Nat) (x : (Unit × (Int × (Int × Unit)) × (Nat → Int) × Unit) × ((Unit × ((Int × (Int × (Int × (Int × (Int × (Int × (Int × (Int × Unit)))))))) × Unit)) × (Unit × (Unit × (Bool × Unit))) × (Int × (Int × (Int × (Int × Unit)))) × (List (Nat → Int)) × Unit)) (κ0 : (Int × ((Unit × ((Int × (Int × (Int × (Int × (Int × (Int × (Int × (Int × Unit)))))))) × Unit)) × (Unit × (Unit × (Bool × Unit))) × (Int × (Int × (Int × (Int × Unit)))) × (List (Nat → Int)) × Unit)) → Option R) : Option R :=
let i618 : Int := x.1.2.1.1
let i619 : Int := x.1.2.1.2.1
let a620 : (Nat → Int) := x.1.2.2.1
let i621 : Int := x.2.1.2.1.1
let i622 : Int := x.2.1.2.1.2.1
let i623 : Int := x.2.1.2.1.2.2.1
let i624 : Int := x.2.1.2.1.2.2.2.1
let i625 : Int := x.2.1.2.1.2.2.2.2.1
let i626 : Int := x.2.1.2.1.2.2.2.2.2.1
let i627 : Int := x.2.1.2.1.2.2.2.2.2.2.1
let i628 : Int := x.2.1.2.1.2.2.2.2.2.2.2.1
let b629 : Bool := x.2.2.1.2.2.1
let i630 : Int := x.2.2.2.1.1
let i631 : Int := x.2.2.2.1.2.1
let i632 : Int := x.2.2.2.1.2.2.1
let i633 : Int := x.2.2.2.1.2.2.2.1
let l634 : (List (Nat → Int)) := x.2.2.2.2.1
p_46_v1 N (((), (i618, (i619, ())), ()), (((), ((i621, (i622, (i623, (i624, (i625, (i626, (i627, (i628, ())))))))), ())), ((), ((), (b629, ()))), (i630, (i631, (i632, (i633, ())))), l634, ())) (fun y665 =>
let i666 : Int := y665
bif (decide (i666 < 0)) then (
κ0 (11, (((), ((i621, (i622, (i623, (i624, (i625, (i626, (i627, (i628, ())))))))), ())), ((), ((), (b629, ()))), (i630, (i631, (i632, (i633, ())))), l634, ()))) else (
p_51 N (((), i666, a620, ()), (((), ((), (b629, ()))), (i630, (i631, (i632, (i633, ())))), l634, ())) (fun y691 =>
let i692 : Int := y691.1
let b693 : Bool := y691.2.1.2.2.1
let i694 : Int := y691.2.2.1.1
let i695 : Int := y691.2.2.1.2.1
let i696 : Int := y691.2.2.1.2.2.1
let i697 : Int := y691.2.2.1.2.2.2.1
let l698 : (List (Nat → Int)) := y691.2.2.2.1
κ0 (i692, (((), ((i621, (i622, (i623, (i624, (i625, (i626, (i627, (i628, ())))))))), ())), ((), ((), (b693, ()))), (i694, (i695, (i696, (i697, ())))), l698, ())))))

abbrev Tp_12_v1 (R : Type) : Type := (Unit × (Int × (Int × Unit)) × (Nat → Int) × Unit) × ((Unit × ((Int × (Int × (Int × (Int × (Int × (Int × (Int × (Int × Unit)))))))) × Unit)) × (Unit × (Unit × (Bool × Unit))) × (Int × (Int × (Int × (Int × Unit)))) × (List (Nat → Int)) × Unit) → ((Int × ((Unit × ((Int × (Int × (Int × (Int × (Int × (Int × (Int × (Int × Unit)))))))) × Unit)) × (Unit × (Unit × (Bool × Unit))) × (Int × (Int × (Int × (Int × Unit)))) × (List (Nat → Int)) × Unit)) → Option R) → Option R
def Q_12_v1 {R : Type} (q_46_v1 : Tp_46_v1 R) (q_51 : Tp_51 R) (x : (Unit × (Int × (Int × Unit)) × (Nat → Int) × Unit) × ((Unit × ((Int × (Int × (Int × (Int × (Int × (Int × (Int × (Int × Unit)))))))) × Unit)) × (Unit × (Unit × (Bool × Unit))) × (Int × (Int × (Int × (Int × Unit)))) × (List (Nat → Int)) × Unit)) (κ0 : (Int × ((Unit × ((Int × (Int × (Int × (Int × (Int × (Int × (Int × (Int × Unit)))))))) × Unit)) × (Unit × (Unit × (Bool × Unit))) × (Int × (Int × (Int × (Int × Unit)))) × (List (Nat → Int)) × Unit)) → Option R) : Option R :=
let i618 : Int := x.1.2.1.1
let i619 : Int := x.1.2.1.2.1
let a620 : (Nat → Int) := x.1.2.2.1
let i621 : Int := x.2.1.2.1.1
let i622 : Int := x.2.1.2.1.2.1
let i623 : Int := x.2.1.2.1.2.2.1
let i624 : Int := x.2.1.2.1.2.2.2.1
let i625 : Int := x.2.1.2.1.2.2.2.2.1
let i626 : Int := x.2.1.2.1.2.2.2.2.2.1
let i627 : Int := x.2.1.2.1.2.2.2.2.2.2.1
let i628 : Int := x.2.1.2.1.2.2.2.2.2.2.2.1
let b629 : Bool := x.2.2.1.2.2.1
let i630 : Int := x.2.2.2.1.1
let i631 : Int := x.2.2.2.1.2.1
let i632 : Int := x.2.2.2.1.2.2.1
let i633 : Int := x.2.2.2.1.2.2.2.1
let l634 : (List (Nat → Int)) := x.2.2.2.2.1
q_46_v1 (((), (i618, (i619, ())), ()), (((), ((i621, (i622, (i623, (i624, (i625, (i626, (i627, (i628, ())))))))), ())), ((), ((), (b629, ()))), (i630, (i631, (i632, (i633, ())))), l634, ())) (fun y665 =>
let i666 : Int := y665
bif (decide (i666 < 0)) then (
κ0 (11, (((), ((i621, (i622, (i623, (i624, (i625, (i626, (i627, (i628, ())))))))), ())), ((), ((), (b629, ()))), (i630, (i631, (i632, (i633, ())))), l634, ()))) else (
q_51 (((), i666, a620, ()), (((), ((), (b629, ()))), (i630, (i631, (i632, (i633, ())))), l634, ())) (fun y691 =>
let i692 : Int := y691.1
let b693 : Bool := y691.2.1.2.2.1
let i694 : Int := y691.2.2.1.1
let i695 : Int := y691.2.2.1.2.1
let i696 : Int := y691.2.2.1.2.2.1
let i697 : Int := y691.2.2.1.2.2.2.1
let l698 : (List (Nat → Int)) := y691.2.2.2.1
κ0 (i692, (((), ((i621, (i622, (i623, (i624, (i625, (i626, (i627, (i628, ())))))))), ())), ((), ((), (b693, ()))), (i694, (i695, (i696, (i697, ())))), l698, ())))))
def EG_12_v1 {R : Type} (q_46_v1 : Tp_46_v1 R) (q_51 : Tp_51 R) : Env R := ((Env.base QQ LN AA).add 46 ap_46_v1 hp_46_v1 (fun (x : aden ap_46_v1 × hden hp_46_v1) k => q_46_v1 x (fun y => k (Pat.inst (.int .i64) y) (instH hp_46_v1 x.2)))).add 51 ap_51 hp_51 (fun (x : aden ap_51 × hden hp_51) k => q_51 x (fun y => k (Pat.inst (.int .i64) y.1) (instH [some (.node (.fcons (.ptr 1 []) (.fcons (.sl 2) (.fcons (.bool) (.fnil)))), 147), some (.node (.fcons (.int .i64) (.fcons (.int .i64) (.fcons (.int .i64) (.fcons (.int .i64) (.fnil))))), 145), some (.lst (.arr 128 (.int .u64)), 29)] y.2)))
def LG_12_v1 {R : Type} : Loops R := Loops.none
def E_12_v1 {R : Type} (N : Nat) : Env R := EG_12_v1 (p_46_v1 N) (p_51 N)
theorem eok_12_v1 {R : Type} (N : Nat) : EK Try.prog (E_12_v1 (R := R) N) := ek_add (ek_add (ek_base _ _ _) (good_46_v1 N)) (good_51 N)
def L_12_v1 {R : Type} (N : Nat) : Loops R := LG_12_v1
theorem lok_12_v1 {R : Type} (N : Nat) : LOK 4 TT (E_12_v1 (R := R) N) (drawAny TT WW) (L_12_v1 N) (bodyOf Try.f12) := loops_nil (by kernel_rfl)
theorem grun_12_v1 {R : Type} (q_46_v1 : Tp_46_v1 R) (q_51 : Tp_51 R) (x : aden ap_12_v1 × hden hp_12_v1) (k : KF R) : fnrun TT (EG_12_v1 q_46_v1 q_51) (drawAny TT WW) (LG_12_v1) true Try.f12 (instA ap_12_v1 x.1) (instH hp_12_v1 x.2) k = Q_12_v1 q_46_v1 q_51 x (fun y => k (Pat.inst (.int .i64) y.1) (instH [some (.node (.fcons (.ptr 1 []) (.fcons (.node (.fcons (.int .i64) (.fcons (.int .i64) (.fcons (.int .i64) (.fcons (.int .i64) (.fcons (.int .i64) (.fcons (.int .i64) (.fcons (.int .i64) (.fcons (.int .i64) (.fnil)))))))))) (.fnil))), 49), some (.node (.fcons (.ptr 2 []) (.fcons (.sl 3) (.fcons (.bool) (.fnil)))), 147), some (.node (.fcons (.int .i64) (.fcons (.int .i64) (.fcons (.int .i64) (.fcons (.int .i64) (.fnil))))), 145), some (.lst (.arr 128 (.int .u64)), 29)] y.2)) := by kernel_rfl
theorem run_12_v1 {R : Type} (N : Nat) (x : aden ap_12_v1 × hden hp_12_v1) (k : KF R) : fnrun TT (E_12_v1 (R := R) N) (drawAny TT WW) (L_12_v1 N) true Try.f12 (instA ap_12_v1 x.1) (instH hp_12_v1 x.2) k = p_12_v1 N x (fun y => k (Pat.inst (.int .i64) y.1) (instH [some (.node (.fcons (.ptr 1 []) (.fcons (.node (.fcons (.int .i64) (.fcons (.int .i64) (.fcons (.int .i64) (.fcons (.int .i64) (.fcons (.int .i64) (.fcons (.int .i64) (.fcons (.int .i64) (.fcons (.int .i64) (.fnil)))))))))) (.fnil))), 49), some (.node (.fcons (.ptr 2 []) (.fcons (.sl 3) (.fcons (.bool) (.fnil)))), 147), some (.node (.fcons (.int .i64) (.fcons (.int .i64) (.fcons (.int .i64) (.fcons (.int .i64) (.fnil))))), 145), some (.lst (.arr 128 (.int .u64)), 29)] y.2)) := (grun_12_v1 (p_46_v1 N) (p_51 N) x k).trans (by kernel_rfl)
theorem good_12_v1 {R : Type} (N : Nat) : GD (X := R) Try.prog QQ AA 12 ap_12_v1 hp_12_v1 (fun (x : aden ap_12_v1 × hden hp_12_v1) k => p_12_v1 N x (fun y => k (Pat.inst (.int .i64) y.1) (instH [some (.node (.fcons (.ptr 1 []) (.fcons (.node (.fcons (.int .i64) (.fcons (.int .i64) (.fcons (.int .i64) (.fcons (.int .i64) (.fcons (.int .i64) (.fcons (.int .i64) (.fcons (.int .i64) (.fcons (.int .i64) (.fnil)))))))))) (.fnil))), 49), some (.node (.fcons (.ptr 2 []) (.fcons (.sl 3) (.fcons (.bool) (.fnil)))), 147), some (.node (.fcons (.int .i64) (.fcons (.int .i64) (.fcons (.int .i64) (.fcons (.int .i64) (.fnil))))), 145), some (.lst (.arr 128 (.int .u64)), 29)] y.2))) :=
  gd_loud (E := E_12_v1 N) (p := fun (x : aden ap_12_v1 × hden hp_12_v1) k => p_12_v1 N x (fun y => k (Pat.inst (.int .i64) y.1) (instH [some (.node (.fcons (.ptr 1 []) (.fcons (.node (.fcons (.int .i64) (.fcons (.int .i64) (.fcons (.int .i64) (.fcons (.int .i64) (.fcons (.int .i64) (.fcons (.int .i64) (.fcons (.int .i64) (.fcons (.int .i64) (.fnil)))))))))) (.fnil))), 49), some (.node (.fcons (.ptr 2 []) (.fcons (.sl 3) (.fcons (.bool) (.fnil)))), 147), some (.node (.fcons (.int .i64) (.fcons (.int .i64) (.fcons (.int .i64) (.fcons (.int .i64) (.fnil))))), 145), some (.lst (.arr 128 (.int .u64)), 29)] y.2))) mixed tyok (eok_12_v1 N) Try.func12 (by kernel_rfl) (by kernel_rfl) (by kernel_rfl) (by kernel_rfl) (lok_12_v1 N) (fun x k => run_12_v1 N x k)

def ap_9_v1 : List Pat := [.ptr 0 [], .node (.fcons (.int .i64) (.fcons (.int .i64) (.fnil)))]
def hp_9_v1 : List (Option (Pat × Nat)) := [some (.node (.fcons (.ptr 1 []) (.fcons (.node (.fcons (.int .i64) (.fcons (.int .i64) (.fcons (.int .i64) (.fcons (.int .i64) (.fcons (.int .i64) (.fcons (.int .i64) (.fcons (.int .i64) (.fcons (.int .i64) (.fnil)))))))))) (.fnil))), 49), some (.node (.fcons (.ptr 2 []) (.fcons (.sl 3) (.fcons (.bool) (.fnil)))), 147), some (.node (.fcons (.int .i64) (.fcons (.int .i64) (.fcons (.int .i64) (.fcons (.int .i64) (.fnil))))), 145), some (.lst (.arr 128 (.int .u64)), 29)]
def p_9_v1 {R : Type} (N : Nat) (x : (Unit × (Int × (Int × Unit)) × Unit) × ((Unit × ((Int × (Int × (Int × (Int × (Int × (Int × (Int × (Int × Unit)))))))) × Unit)) × (Unit × (Unit × (Bool × Unit))) × (Int × (Int × (Int × (Int × Unit)))) × (List (Nat → Int)) × Unit)) (κ0 : ((Nat → Int) × (Int × Unit)) → Option R) : Option R :=
let i794 : Int := x.1.2.1.1
let i795 : Int := x.1.2.1.2.1
let i796 : Int := x.2.1.2.1.1
let i797 : Int := x.2.1.2.1.2.1
let i798 : Int := x.2.1.2.1.2.2.1
let i799 : Int := x.2.1.2.1.2.2.2.1
let i800 : Int := x.2.1.2.1.2.2.2.2.1
let i801 : Int := x.2.1.2.1.2.2.2.2.2.1
let i802 : Int := x.2.1.2.1.2.2.2.2.2.2.1
let i803 : Int := x.2.1.2.1.2.2.2.2.2.2.2.1
let b804 : Bool := x.2.2.1.2.2.1
let i805 : Int := x.2.2.2.1.1
let i806 : Int := x.2.2.2.1.2.1
let i807 : Int := x.2.2.2.1.2.2.1
let i808 : Int := x.2.2.2.1.2.2.2.1
let l809 : (List (Nat → Int)) := x.2.2.2.2.1
p_46_v1 N (((), (i794, (i795, ())), ()), (((), ((i796, (i797, (i798, (i799, (i800, (i801, (i802, (i803, ())))))))), ())), ((), ((), (b804, ()))), (i805, (i806, (i807, (i808, ())))), l809, ())) (fun y810 =>
let i811 : Int := y810
bif (decide (i811 < 0)) then (
let a812 : (Nat → Int) := (Sch.zero (.arr 128 (.int .u64)))
κ0 ((a812, (11, ())))) else (
p_47 N (((), i811, ()), (((), ((), (b804, ()))), (i805, (i806, (i807, (i808, ())))), l809, ())) (fun y813 =>
let a814 : (Nat → Int) := y813.1
let i815 : Int := y813.2.1
κ0 ((a814, (i815, ()))))))

abbrev Tp_9_v1 (R : Type) : Type := (Unit × (Int × (Int × Unit)) × Unit) × ((Unit × ((Int × (Int × (Int × (Int × (Int × (Int × (Int × (Int × Unit)))))))) × Unit)) × (Unit × (Unit × (Bool × Unit))) × (Int × (Int × (Int × (Int × Unit)))) × (List (Nat → Int)) × Unit) → (((Nat → Int) × (Int × Unit)) → Option R) → Option R
def Q_9_v1 {R : Type} (q_46_v1 : Tp_46_v1 R) (q_47 : Tp_47 R) (x : (Unit × (Int × (Int × Unit)) × Unit) × ((Unit × ((Int × (Int × (Int × (Int × (Int × (Int × (Int × (Int × Unit)))))))) × Unit)) × (Unit × (Unit × (Bool × Unit))) × (Int × (Int × (Int × (Int × Unit)))) × (List (Nat → Int)) × Unit)) (κ0 : ((Nat → Int) × (Int × Unit)) → Option R) : Option R :=
let i794 : Int := x.1.2.1.1
let i795 : Int := x.1.2.1.2.1
let i796 : Int := x.2.1.2.1.1
let i797 : Int := x.2.1.2.1.2.1
let i798 : Int := x.2.1.2.1.2.2.1
let i799 : Int := x.2.1.2.1.2.2.2.1
let i800 : Int := x.2.1.2.1.2.2.2.2.1
let i801 : Int := x.2.1.2.1.2.2.2.2.2.1
let i802 : Int := x.2.1.2.1.2.2.2.2.2.2.1
let i803 : Int := x.2.1.2.1.2.2.2.2.2.2.2.1
let b804 : Bool := x.2.2.1.2.2.1
let i805 : Int := x.2.2.2.1.1
let i806 : Int := x.2.2.2.1.2.1
let i807 : Int := x.2.2.2.1.2.2.1
let i808 : Int := x.2.2.2.1.2.2.2.1
let l809 : (List (Nat → Int)) := x.2.2.2.2.1
q_46_v1 (((), (i794, (i795, ())), ()), (((), ((i796, (i797, (i798, (i799, (i800, (i801, (i802, (i803, ())))))))), ())), ((), ((), (b804, ()))), (i805, (i806, (i807, (i808, ())))), l809, ())) (fun y810 =>
let i811 : Int := y810
bif (decide (i811 < 0)) then (
let a812 : (Nat → Int) := (Sch.zero (.arr 128 (.int .u64)))
κ0 ((a812, (11, ())))) else (
q_47 (((), i811, ()), (((), ((), (b804, ()))), (i805, (i806, (i807, (i808, ())))), l809, ())) (fun y813 =>
let a814 : (Nat → Int) := y813.1
let i815 : Int := y813.2.1
κ0 ((a814, (i815, ()))))))
def EG_9_v1 {R : Type} (q_46_v1 : Tp_46_v1 R) (q_47 : Tp_47 R) : Env R := ((Env.base QQ LN AA).add 46 ap_46_v1 hp_46_v1 (fun (x : aden ap_46_v1 × hden hp_46_v1) k => q_46_v1 x (fun y => k (Pat.inst (.int .i64) y) (instH hp_46_v1 x.2)))).add 47 ap_47 hp_47 (fun (x : aden ap_47 × hden hp_47) k => q_47 x (fun y => k (Pat.inst (.tup (.fcons (.vec (.int .u64) 128) (.fcons (.int .i64) (.fnil)))) y) (instH hp_47 x.2)))
def LG_9_v1 {R : Type} : Loops R := Loops.none
def E_9_v1 {R : Type} (N : Nat) : Env R := EG_9_v1 (p_46_v1 N) (p_47 N)
theorem eok_9_v1 {R : Type} (N : Nat) : EK Try.prog (E_9_v1 (R := R) N) := ek_add (ek_add (ek_base _ _ _) (good_46_v1 N)) (good_47 N)
def L_9_v1 {R : Type} (N : Nat) : Loops R := LG_9_v1
theorem lok_9_v1 {R : Type} (N : Nat) : LOK 4 TT (E_9_v1 (R := R) N) (drawAny TT WW) (L_9_v1 N) (bodyOf Try.f9) := loops_nil (by kernel_rfl)
theorem grun_9_v1 {R : Type} (q_46_v1 : Tp_46_v1 R) (q_47 : Tp_47 R) (x : aden ap_9_v1 × hden hp_9_v1) (k : KF R) : fnrun TT (EG_9_v1 q_46_v1 q_47) (drawAny TT WW) (LG_9_v1) true Try.f9 (instA ap_9_v1 x.1) (instH hp_9_v1 x.2) k = Q_9_v1 q_46_v1 q_47 x (fun y => k (Pat.inst (.tup (.fcons (.vec (.int .u64) 128) (.fcons (.int .i64) (.fnil)))) y) (instH hp_9_v1 x.2)) := by kernel_rfl
theorem run_9_v1 {R : Type} (N : Nat) (x : aden ap_9_v1 × hden hp_9_v1) (k : KF R) : fnrun TT (E_9_v1 (R := R) N) (drawAny TT WW) (L_9_v1 N) true Try.f9 (instA ap_9_v1 x.1) (instH hp_9_v1 x.2) k = p_9_v1 N x (fun y => k (Pat.inst (.tup (.fcons (.vec (.int .u64) 128) (.fcons (.int .i64) (.fnil)))) y) (instH hp_9_v1 x.2)) := (grun_9_v1 (p_46_v1 N) (p_47 N) x k).trans (by kernel_rfl)
theorem good_9_v1 {R : Type} (N : Nat) : GD (X := R) Try.prog QQ AA 9 ap_9_v1 hp_9_v1 (fun (x : aden ap_9_v1 × hden hp_9_v1) k => p_9_v1 N x (fun y => k (Pat.inst (.tup (.fcons (.vec (.int .u64) 128) (.fcons (.int .i64) (.fnil)))) y) (instH hp_9_v1 x.2))) :=
  gd_quiet (E := E_9_v1 N) (p := fun (x : aden ap_9_v1 × hden hp_9_v1) κ => p_9_v1 N x (fun y => κ (Pat.inst (.tup (.fcons (.vec (.int .u64) 128) (.fcons (.int .i64) (.fnil)))) y))) mixed tyok (eok_9_v1 N) Try.func9 (by kernel_rfl) (by kernel_rfl) (lok_9_v1 N) (fun x k => run_9_v1 N x k)

def lv_17_6 : Live := [(0, none), (3, none), (4, none), (12, none), (13, none), (20, none), (21, none)]
def pt_17_6 : SPat := ⟨[(0, .ptr 0 []), (3, .sl 4), (4, .int .i64), (12, .int .i64), (13, .int .i64), (20, .int .i64), (21, .int .i64)], [some (.node (.fcons (.ptr 1 []) (.fcons (.node (.fcons (.int .i64) (.fcons (.int .i64) (.fcons (.int .i64) (.fcons (.int .i64) (.fcons (.int .i64) (.fcons (.int .i64) (.fcons (.int .i64) (.fcons (.int .i64) (.fnil)))))))))) (.fnil))), 49), some (.node (.fcons (.ptr 2 []) (.fcons (.sl 3) (.fcons (.bool) (.fnil)))), 147), some (.node (.fcons (.int .i64) (.fcons (.int .i64) (.fcons (.int .i64) (.fcons (.int .i64) (.fnil))))), 145), some (.lst (.arr 128 (.int .u64)), 29), some (.fam 29 (.arr 128 (.int .u64)), 52)]⟩
def px_17_6_0 : SPat := ⟨[(0, .ptr 0 []), (3, .sl 4), (12, .int .i64), (13, .int .i64)], [some (.node (.fcons (.ptr 1 []) (.fcons (.node (.fcons (.int .i64) (.fcons (.int .i64) (.fcons (.int .i64) (.fcons (.int .i64) (.fcons (.int .i64) (.fcons (.int .i64) (.fcons (.int .i64) (.fcons (.int .i64) (.fnil)))))))))) (.fnil))), 49), some (.node (.fcons (.ptr 2 []) (.fcons (.sl 3) (.fcons (.bool) (.fnil)))), 147), some (.node (.fcons (.int .i64) (.fcons (.int .i64) (.fcons (.int .i64) (.fcons (.int .i64) (.fnil))))), 145), some (.lst (.arr 128 (.int .u64)), 29), some (.fam 29 (.arr 128 (.int .u64)), 52)]⟩
def lo_17_6 : Exit → Live
  | .exit 2 => [(0, none), (3, none), (12, none), (13, none)]
  | _ => []
def B_17_6 {R : Type} (N : Nat) (rec : ((Unit × Unit × Int × Int × Int × Int × Int × Unit) × ((Unit × ((Int × (Int × (Int × (Int × (Int × (Int × (Int × (Int × Unit)))))))) × Unit)) × (Unit × (Unit × (Bool × Unit))) × (Int × (Int × (Int × (Int × Unit)))) × (List (Nat → Int)) × (List (List (Nat → Int))) × Unit)) → Option R) (x : ((Unit × Unit × Int × Int × Int × Int × Int × Unit) × ((Unit × ((Int × (Int × (Int × (Int × (Int × (Int × (Int × (Int × Unit)))))))) × Unit)) × (Unit × (Unit × (Bool × Unit))) × (Int × (Int × (Int × (Int × Unit)))) × (List (Nat → Int)) × (List (List (Nat → Int))) × Unit))) (κ0 : ((Unit × Unit × Int × Int × Unit) × ((Unit × ((Int × (Int × (Int × (Int × (Int × (Int × (Int × (Int × Unit)))))))) × Unit)) × (Unit × (Unit × (Bool × Unit))) × (Int × (Int × (Int × (Int × Unit)))) × (List (Nat → Int)) × (List (List (Nat → Int))) × Unit)) → Option R) : Option R :=
let i774 : Int := x.1.2.2.1
let i775 : Int := x.1.2.2.2.1
let i776 : Int := x.1.2.2.2.2.1
let i777 : Int := x.1.2.2.2.2.2.1
let i778 : Int := x.1.2.2.2.2.2.2.1
let i779 : Int := x.2.1.2.1.1
let i780 : Int := x.2.1.2.1.2.1
let i781 : Int := x.2.1.2.1.2.2.1
let i782 : Int := x.2.1.2.1.2.2.2.1
let i783 : Int := x.2.1.2.1.2.2.2.2.1
let i784 : Int := x.2.1.2.1.2.2.2.2.2.1
let i785 : Int := x.2.1.2.1.2.2.2.2.2.2.1
let i786 : Int := x.2.1.2.1.2.2.2.2.2.2.2.1
let b787 : Bool := x.2.2.1.2.2.1
let i788 : Int := x.2.2.2.1.1
let i789 : Int := x.2.2.2.1.2.1
let i790 : Int := x.2.2.2.1.2.2.1
let i791 : Int := x.2.2.2.1.2.2.2.1
let l792 : (List (Nat → Int)) := x.2.2.2.2.1
let r793 : (List (List (Nat → Int))) := x.2.2.2.2.2.1
bif (decide (i778 < i777)) then (
bif decide (0 ≤ i774) then (
bif decide (i774 < ((List.length r793) : Int)) then (
p_9_v1 N (((), (i774, (i778, ())), ()), (((), ((i779, (i780, (i781, (i782, (i783, (i784, (i785, (i786, ())))))))), ())), ((), ((), (b787, ()))), (i788, (i789, (i790, (i791, ())))), l792, ())) (fun y816 =>
let a817 : (Nat → Int) := y816.1
let i818 : Int := y816.2.1
bif decide (0 ≤ i778) then (
bif decide (i778 < ((List.length ((List.getD r793 ((Int.toNat i774)) []))) : Int)) then (
let r819 : (List (List (Nat → Int))) := (List.set r793 ((Int.toNat i774)) ((List.set ((List.getD r793 ((Int.toNat i774)) [])) ((Int.toNat i778)) a817)))
let i820 : Int := addA .i64 i778 1
rec (((), (), i774, i775, i776, i777, i820, ()), (((), ((i779, (i780, (i781, (i782, (i783, (i784, (i785, (i786, ())))))))), ())), ((), ((), (b787, ()))), (i788, (i789, (i790, (i791, ())))), l792, r819, ()))) else none) else none)) else none) else none) else (
κ0 (((), (), i775, i776, ()), (((), ((i779, (i780, (i781, (i782, (i783, (i784, (i785, (i786, ())))))))), ())), ((), ((), (b787, ()))), (i788, (i789, (i790, (i791, ())))), l792, r793, ())))
def l_17_6 {R : Type} (N : Nat) : Nat → ((Unit × Unit × Int × Int × Int × Int × Int × Unit) × ((Unit × ((Int × (Int × (Int × (Int × (Int × (Int × (Int × (Int × Unit)))))))) × Unit)) × (Unit × (Unit × (Bool × Unit))) × (Int × (Int × (Int × (Int × Unit)))) × (List (Nat → Int)) × (List (List (Nat → Int))) × Unit)) → (((Unit × Unit × Int × Int × Unit) × ((Unit × ((Int × (Int × (Int × (Int × (Int × (Int × (Int × (Int × Unit)))))))) × Unit)) × (Unit × (Unit × (Bool × Unit))) × (Int × (Int × (Int × (Int × Unit)))) × (List (Nat → Int)) × (List (List (Nat → Int))) × Unit)) → Option R) → Option R
  | 0, _, _ => none
  | n + 1, x, κ0 => B_17_6 N (fun y => l_17_6 N n y κ0) x κ0
def lv_17_3 : Live := [(0, none), (3, none), (12, none), (13, none)]
def pt_17_3 : SPat := ⟨[(0, .ptr 0 []), (3, .sl 4), (12, .int .i64), (13, .int .i64)], [some (.node (.fcons (.ptr 1 []) (.fcons (.node (.fcons (.int .i64) (.fcons (.int .i64) (.fcons (.int .i64) (.fcons (.int .i64) (.fcons (.int .i64) (.fcons (.int .i64) (.fcons (.int .i64) (.fcons (.int .i64) (.fnil)))))))))) (.fnil))), 49), some (.node (.fcons (.ptr 2 []) (.fcons (.sl 3) (.fcons (.bool) (.fnil)))), 147), some (.node (.fcons (.int .i64) (.fcons (.int .i64) (.fcons (.int .i64) (.fcons (.int .i64) (.fnil))))), 145), some (.lst (.arr 128 (.int .u64)), 29), some (.fam 29 (.arr 128 (.int .u64)), 52)]⟩
def px_17_3_0 : SPat := ⟨[(3, .sl 4)], [some (.node (.fcons (.ptr 1 []) (.fcons (.node (.fcons (.int .i64) (.fcons (.int .i64) (.fcons (.int .i64) (.fcons (.int .i64) (.fcons (.int .i64) (.fcons (.int .i64) (.fcons (.int .i64) (.fcons (.int .i64) (.fnil)))))))))) (.fnil))), 49), some (.node (.fcons (.ptr 2 []) (.fcons (.sl 3) (.fcons (.bool) (.fnil)))), 147), some (.node (.fcons (.int .i64) (.fcons (.int .i64) (.fcons (.int .i64) (.fcons (.int .i64) (.fnil))))), 145), some (.lst (.arr 128 (.int .u64)), 29), some (.fam 29 (.arr 128 (.int .u64)), 52)]⟩
def lo_17_3 : Exit → Live
  | .exit 0 => [(3, none)]
  | _ => []
def B_17_3 {R : Type} (N : Nat) (rec : ((Unit × Unit × Int × Int × Unit) × ((Unit × ((Int × (Int × (Int × (Int × (Int × (Int × (Int × (Int × Unit)))))))) × Unit)) × (Unit × (Unit × (Bool × Unit))) × (Int × (Int × (Int × (Int × Unit)))) × (List (Nat → Int)) × (List (List (Nat → Int))) × Unit)) → Option R) (x : ((Unit × Unit × Int × Int × Unit) × ((Unit × ((Int × (Int × (Int × (Int × (Int × (Int × (Int × (Int × Unit)))))))) × Unit)) × (Unit × (Unit × (Bool × Unit))) × (Int × (Int × (Int × (Int × Unit)))) × (List (Nat → Int)) × (List (List (Nat → Int))) × Unit))) (κ0 : ((Unit × Unit) × ((Unit × ((Int × (Int × (Int × (Int × (Int × (Int × (Int × (Int × Unit)))))))) × Unit)) × (Unit × (Unit × (Bool × Unit))) × (Int × (Int × (Int × (Int × Unit)))) × (List (Nat → Int)) × (List (List (Nat → Int))) × Unit)) → Option R) : Option R :=
let i756 : Int := x.1.2.2.1
let i757 : Int := x.1.2.2.2.1
let i758 : Int := x.2.1.2.1.1
let i759 : Int := x.2.1.2.1.2.1
let i760 : Int := x.2.1.2.1.2.2.1
let i761 : Int := x.2.1.2.1.2.2.2.1
let i762 : Int := x.2.1.2.1.2.2.2.2.1
let i763 : Int := x.2.1.2.1.2.2.2.2.2.1
let i764 : Int := x.2.1.2.1.2.2.2.2.2.2.1
let i765 : Int := x.2.1.2.1.2.2.2.2.2.2.2.1
let b766 : Bool := x.2.2.1.2.2.1
let i767 : Int := x.2.2.2.1.1
let i768 : Int := x.2.2.2.1.2.1
let i769 : Int := x.2.2.2.1.2.2.1
let i770 : Int := x.2.2.2.1.2.2.2.1
let l771 : (List (Nat → Int)) := x.2.2.2.2.1
let r772 : (List (List (Nat → Int))) := x.2.2.2.2.2.1
bif (decide (i757 < i756)) then (
bif decide (0 ≤ i757) then (
bif decide (i757 < ((List.length r772) : Int)) then (
let i773 : Int := (((List.length ((List.getD r772 ((Int.toNat i757)) []))) : Nat) : Int)
l_17_6 N N (((), (), i757, i756, i757, i773, 0, ()), (((), ((i758, (i759, (i760, (i761, (i762, (i763, (i764, (i765, ())))))))), ())), ((), ((), (b766, ()))), (i767, (i768, (i769, (i770, ())))), l771, r772, ())) (fun y821 =>
let i822 : Int := y821.1.2.2.1
let i823 : Int := y821.1.2.2.2.1
let i824 : Int := y821.2.1.2.1.1
let i825 : Int := y821.2.1.2.1.2.1
let i826 : Int := y821.2.1.2.1.2.2.1
let i827 : Int := y821.2.1.2.1.2.2.2.1
let i828 : Int := y821.2.1.2.1.2.2.2.2.1
let i829 : Int := y821.2.1.2.1.2.2.2.2.2.1
let i830 : Int := y821.2.1.2.1.2.2.2.2.2.2.1
let i831 : Int := y821.2.1.2.1.2.2.2.2.2.2.2.1
let b832 : Bool := y821.2.2.1.2.2.1
let i833 : Int := y821.2.2.2.1.1
let i834 : Int := y821.2.2.2.1.2.1
let i835 : Int := y821.2.2.2.1.2.2.1
let i836 : Int := y821.2.2.2.1.2.2.2.1
let l837 : (List (Nat → Int)) := y821.2.2.2.2.1
let r838 : (List (List (Nat → Int))) := y821.2.2.2.2.2.1
let i839 : Int := addA .i64 i823 1
rec (((), (), i822, i839, ()), (((), ((i824, (i825, (i826, (i827, (i828, (i829, (i830, (i831, ())))))))), ())), ((), ((), (b832, ()))), (i833, (i834, (i835, (i836, ())))), l837, r838, ())))) else none) else none) else (
κ0 (((), ()), (((), ((i758, (i759, (i760, (i761, (i762, (i763, (i764, (i765, ())))))))), ())), ((), ((), (b766, ()))), (i767, (i768, (i769, (i770, ())))), l771, r772, ())))
def l_17_3 {R : Type} (N : Nat) : Nat → ((Unit × Unit × Int × Int × Unit) × ((Unit × ((Int × (Int × (Int × (Int × (Int × (Int × (Int × (Int × Unit)))))))) × Unit)) × (Unit × (Unit × (Bool × Unit))) × (Int × (Int × (Int × (Int × Unit)))) × (List (Nat → Int)) × (List (List (Nat → Int))) × Unit)) → (((Unit × Unit) × ((Unit × ((Int × (Int × (Int × (Int × (Int × (Int × (Int × (Int × Unit)))))))) × Unit)) × (Unit × (Unit × (Bool × Unit))) × (Int × (Int × (Int × (Int × Unit)))) × (List (Nat → Int)) × (List (List (Nat → Int))) × Unit)) → Option R) → Option R
  | 0, _, _ => none
  | n + 1, x, κ0 => B_17_3 N (fun y => l_17_3 N n y κ0) x κ0
def ap_17 : List Pat := [.ptr 0 []]
def hp_17 : List (Option (Pat × Nat)) := [some (.node (.fcons (.ptr 1 []) (.fcons (.node (.fcons (.int .i64) (.fcons (.int .i64) (.fcons (.int .i64) (.fcons (.int .i64) (.fcons (.int .i64) (.fcons (.int .i64) (.fcons (.int .i64) (.fcons (.int .i64) (.fnil)))))))))) (.fnil))), 49), some (.node (.fcons (.ptr 2 []) (.fcons (.sl 3) (.fcons (.bool) (.fnil)))), 147), some (.node (.fcons (.int .i64) (.fcons (.int .i64) (.fcons (.int .i64) (.fcons (.int .i64) (.fnil))))), 145), some (.lst (.arr 128 (.int .u64)), 29)]
def p_17 {R : Type} (N : Nat) (x : (Unit × Unit) × ((Unit × ((Int × (Int × (Int × (Int × (Int × (Int × (Int × (Int × Unit)))))))) × Unit)) × (Unit × (Unit × (Bool × Unit))) × (Int × (Int × (Int × (Int × Unit)))) × (List (Nat → Int)) × Unit)) (κ0 : (Unit × ((Unit × ((Int × (Int × (Int × (Int × (Int × (Int × (Int × (Int × Unit)))))))) × Unit)) × (Unit × (Unit × (Bool × Unit))) × (Int × (Int × (Int × (Int × Unit)))) × (List (Nat → Int)) × (List (List (Nat → Int))) × Unit)) → Option R) : Option R :=
let i739 : Int := x.2.1.2.1.1
let i740 : Int := x.2.1.2.1.2.1
let i741 : Int := x.2.1.2.1.2.2.1
let i742 : Int := x.2.1.2.1.2.2.2.1
let i743 : Int := x.2.1.2.1.2.2.2.2.1
let i744 : Int := x.2.1.2.1.2.2.2.2.2.1
let i745 : Int := x.2.1.2.1.2.2.2.2.2.2.1
let i746 : Int := x.2.1.2.1.2.2.2.2.2.2.2.1
let b747 : Bool := x.2.2.1.2.2.1
let i748 : Int := x.2.2.2.1.1
let i749 : Int := x.2.2.2.1.2.1
let i750 : Int := x.2.2.2.1.2.2.1
let i751 : Int := x.2.2.2.1.2.2.2.1
let l752 : (List (Nat → Int)) := x.2.2.2.2.1
p_15 N (((i739, (i740, (i741, (i742, (i743, (i744, (i745, (i746, ())))))))), ()), ()) (fun y753 =>
let r754 : (List (List (Nat → Int))) := y753.2.1
let i755 : Int := (((List.length r754) : Nat) : Int)
l_17_3 N N (((), (), i755, 0, ()), (((), ((i739, (i740, (i741, (i742, (i743, (i744, (i745, (i746, ())))))))), ())), ((), ((), (b747, ()))), (i748, (i749, (i750, (i751, ())))), l752, r754, ())) (fun y840 =>
let i841 : Int := y840.2.1.2.1.1
let i842 : Int := y840.2.1.2.1.2.1
let i843 : Int := y840.2.1.2.1.2.2.1
let i844 : Int := y840.2.1.2.1.2.2.2.1
let i845 : Int := y840.2.1.2.1.2.2.2.2.1
let i846 : Int := y840.2.1.2.1.2.2.2.2.2.1
let i847 : Int := y840.2.1.2.1.2.2.2.2.2.2.1
let i848 : Int := y840.2.1.2.1.2.2.2.2.2.2.2.1
let b849 : Bool := y840.2.2.1.2.2.1
let i850 : Int := y840.2.2.2.1.1
let i851 : Int := y840.2.2.2.1.2.1
let i852 : Int := y840.2.2.2.1.2.2.1
let i853 : Int := y840.2.2.2.1.2.2.2.1
let l854 : (List (Nat → Int)) := y840.2.2.2.2.1
let r855 : (List (List (Nat → Int))) := y840.2.2.2.2.2.1
κ0 ((), (((), ((i841, (i842, (i843, (i844, (i845, (i846, (i847, (i848, ())))))))), ())), ((), ((), (b849, ()))), (i850, (i851, (i852, (i853, ())))), l854, r855, ()))))

abbrev Tl_17_6 (R : Type) : Type := ((Unit × Unit × Int × Int × Int × Int × Int × Unit) × ((Unit × ((Int × (Int × (Int × (Int × (Int × (Int × (Int × (Int × Unit)))))))) × Unit)) × (Unit × (Unit × (Bool × Unit))) × (Int × (Int × (Int × (Int × Unit)))) × (List (Nat → Int)) × (List (List (Nat → Int))) × Unit)) → (((Unit × Unit × Int × Int × Unit) × ((Unit × ((Int × (Int × (Int × (Int × (Int × (Int × (Int × (Int × Unit)))))))) × Unit)) × (Unit × (Unit × (Bool × Unit))) × (Int × (Int × (Int × (Int × Unit)))) × (List (Nat → Int)) × (List (List (Nat → Int))) × Unit)) → Option R) → Option R
abbrev Tl_17_3 (R : Type) : Type := ((Unit × Unit × Int × Int × Unit) × ((Unit × ((Int × (Int × (Int × (Int × (Int × (Int × (Int × (Int × Unit)))))))) × Unit)) × (Unit × (Unit × (Bool × Unit))) × (Int × (Int × (Int × (Int × Unit)))) × (List (Nat → Int)) × (List (List (Nat → Int))) × Unit)) → (((Unit × Unit) × ((Unit × ((Int × (Int × (Int × (Int × (Int × (Int × (Int × (Int × Unit)))))))) × Unit)) × (Unit × (Unit × (Bool × Unit))) × (Int × (Int × (Int × (Int × Unit)))) × (List (Nat → Int)) × (List (List (Nat → Int))) × Unit)) → Option R) → Option R
abbrev Tp_17 (R : Type) : Type := (Unit × Unit) × ((Unit × ((Int × (Int × (Int × (Int × (Int × (Int × (Int × (Int × Unit)))))))) × Unit)) × (Unit × (Unit × (Bool × Unit))) × (Int × (Int × (Int × (Int × Unit)))) × (List (Nat → Int)) × Unit) → ((Unit × ((Unit × ((Int × (Int × (Int × (Int × (Int × (Int × (Int × (Int × Unit)))))))) × Unit)) × (Unit × (Unit × (Bool × Unit))) × (Int × (Int × (Int × (Int × Unit)))) × (List (Nat → Int)) × (List (List (Nat → Int))) × Unit)) → Option R) → Option R
def Q_17 {R : Type} (q_15 : Tp_15 R) (q_9_v1 : Tp_9_v1 R) (m_17_6 : Tl_17_6 R) (m_17_3 : Tl_17_3 R) (x : (Unit × Unit) × ((Unit × ((Int × (Int × (Int × (Int × (Int × (Int × (Int × (Int × Unit)))))))) × Unit)) × (Unit × (Unit × (Bool × Unit))) × (Int × (Int × (Int × (Int × Unit)))) × (List (Nat → Int)) × Unit)) (κ0 : (Unit × ((Unit × ((Int × (Int × (Int × (Int × (Int × (Int × (Int × (Int × Unit)))))))) × Unit)) × (Unit × (Unit × (Bool × Unit))) × (Int × (Int × (Int × (Int × Unit)))) × (List (Nat → Int)) × (List (List (Nat → Int))) × Unit)) → Option R) : Option R :=
let i739 : Int := x.2.1.2.1.1
let i740 : Int := x.2.1.2.1.2.1
let i741 : Int := x.2.1.2.1.2.2.1
let i742 : Int := x.2.1.2.1.2.2.2.1
let i743 : Int := x.2.1.2.1.2.2.2.2.1
let i744 : Int := x.2.1.2.1.2.2.2.2.2.1
let i745 : Int := x.2.1.2.1.2.2.2.2.2.2.1
let i746 : Int := x.2.1.2.1.2.2.2.2.2.2.2.1
let b747 : Bool := x.2.2.1.2.2.1
let i748 : Int := x.2.2.2.1.1
let i749 : Int := x.2.2.2.1.2.1
let i750 : Int := x.2.2.2.1.2.2.1
let i751 : Int := x.2.2.2.1.2.2.2.1
let l752 : (List (Nat → Int)) := x.2.2.2.2.1
q_15 (((i739, (i740, (i741, (i742, (i743, (i744, (i745, (i746, ())))))))), ()), ()) (fun y753 =>
let r754 : (List (List (Nat → Int))) := y753.2.1
let i755 : Int := (((List.length r754) : Nat) : Int)
m_17_3 (((), (), i755, 0, ()), (((), ((i739, (i740, (i741, (i742, (i743, (i744, (i745, (i746, ())))))))), ())), ((), ((), (b747, ()))), (i748, (i749, (i750, (i751, ())))), l752, r754, ())) (fun y840 =>
let i841 : Int := y840.2.1.2.1.1
let i842 : Int := y840.2.1.2.1.2.1
let i843 : Int := y840.2.1.2.1.2.2.1
let i844 : Int := y840.2.1.2.1.2.2.2.1
let i845 : Int := y840.2.1.2.1.2.2.2.2.1
let i846 : Int := y840.2.1.2.1.2.2.2.2.2.1
let i847 : Int := y840.2.1.2.1.2.2.2.2.2.2.1
let i848 : Int := y840.2.1.2.1.2.2.2.2.2.2.2.1
let b849 : Bool := y840.2.2.1.2.2.1
let i850 : Int := y840.2.2.2.1.1
let i851 : Int := y840.2.2.2.1.2.1
let i852 : Int := y840.2.2.2.1.2.2.1
let i853 : Int := y840.2.2.2.1.2.2.2.1
let l854 : (List (Nat → Int)) := y840.2.2.2.2.1
let r855 : (List (List (Nat → Int))) := y840.2.2.2.2.2.1
κ0 ((), (((), ((i841, (i842, (i843, (i844, (i845, (i846, (i847, (i848, ())))))))), ())), ((), ((), (b849, ()))), (i850, (i851, (i852, (i853, ())))), l854, r855, ()))))
def C_17_6 {R : Type} (q_15 : Tp_15 R) (q_9_v1 : Tp_9_v1 R) (m_17_6 : Tl_17_6 R) (m_17_3 : Tl_17_3 R) (rec : ((Unit × Unit × Int × Int × Int × Int × Int × Unit) × ((Unit × ((Int × (Int × (Int × (Int × (Int × (Int × (Int × (Int × Unit)))))))) × Unit)) × (Unit × (Unit × (Bool × Unit))) × (Int × (Int × (Int × (Int × Unit)))) × (List (Nat → Int)) × (List (List (Nat → Int))) × Unit)) → Option R) (x : ((Unit × Unit × Int × Int × Int × Int × Int × Unit) × ((Unit × ((Int × (Int × (Int × (Int × (Int × (Int × (Int × (Int × Unit)))))))) × Unit)) × (Unit × (Unit × (Bool × Unit))) × (Int × (Int × (Int × (Int × Unit)))) × (List (Nat → Int)) × (List (List (Nat → Int))) × Unit))) (κ0 : ((Unit × Unit × Int × Int × Unit) × ((Unit × ((Int × (Int × (Int × (Int × (Int × (Int × (Int × (Int × Unit)))))))) × Unit)) × (Unit × (Unit × (Bool × Unit))) × (Int × (Int × (Int × (Int × Unit)))) × (List (Nat → Int)) × (List (List (Nat → Int))) × Unit)) → Option R) : Option R :=
let i774 : Int := x.1.2.2.1
let i775 : Int := x.1.2.2.2.1
let i776 : Int := x.1.2.2.2.2.1
let i777 : Int := x.1.2.2.2.2.2.1
let i778 : Int := x.1.2.2.2.2.2.2.1
let i779 : Int := x.2.1.2.1.1
let i780 : Int := x.2.1.2.1.2.1
let i781 : Int := x.2.1.2.1.2.2.1
let i782 : Int := x.2.1.2.1.2.2.2.1
let i783 : Int := x.2.1.2.1.2.2.2.2.1
let i784 : Int := x.2.1.2.1.2.2.2.2.2.1
let i785 : Int := x.2.1.2.1.2.2.2.2.2.2.1
let i786 : Int := x.2.1.2.1.2.2.2.2.2.2.2.1
let b787 : Bool := x.2.2.1.2.2.1
let i788 : Int := x.2.2.2.1.1
let i789 : Int := x.2.2.2.1.2.1
let i790 : Int := x.2.2.2.1.2.2.1
let i791 : Int := x.2.2.2.1.2.2.2.1
let l792 : (List (Nat → Int)) := x.2.2.2.2.1
let r793 : (List (List (Nat → Int))) := x.2.2.2.2.2.1
bif (decide (i778 < i777)) then (
bif decide (0 ≤ i774) then (
bif decide (i774 < ((List.length r793) : Int)) then (
q_9_v1 (((), (i774, (i778, ())), ()), (((), ((i779, (i780, (i781, (i782, (i783, (i784, (i785, (i786, ())))))))), ())), ((), ((), (b787, ()))), (i788, (i789, (i790, (i791, ())))), l792, ())) (fun y816 =>
let a817 : (Nat → Int) := y816.1
let i818 : Int := y816.2.1
bif decide (0 ≤ i778) then (
bif decide (i778 < ((List.length ((List.getD r793 ((Int.toNat i774)) []))) : Int)) then (
let r819 : (List (List (Nat → Int))) := (List.set r793 ((Int.toNat i774)) ((List.set ((List.getD r793 ((Int.toNat i774)) [])) ((Int.toNat i778)) a817)))
let i820 : Int := addA .i64 i778 1
rec (((), (), i774, i775, i776, i777, i820, ()), (((), ((i779, (i780, (i781, (i782, (i783, (i784, (i785, (i786, ())))))))), ())), ((), ((), (b787, ()))), (i788, (i789, (i790, (i791, ())))), l792, r819, ()))) else none) else none)) else none) else none) else (
κ0 (((), (), i775, i776, ()), (((), ((i779, (i780, (i781, (i782, (i783, (i784, (i785, (i786, ())))))))), ())), ((), ((), (b787, ()))), (i788, (i789, (i790, (i791, ())))), l792, r793, ())))
def C_17_3 {R : Type} (q_15 : Tp_15 R) (q_9_v1 : Tp_9_v1 R) (m_17_6 : Tl_17_6 R) (m_17_3 : Tl_17_3 R) (rec : ((Unit × Unit × Int × Int × Unit) × ((Unit × ((Int × (Int × (Int × (Int × (Int × (Int × (Int × (Int × Unit)))))))) × Unit)) × (Unit × (Unit × (Bool × Unit))) × (Int × (Int × (Int × (Int × Unit)))) × (List (Nat → Int)) × (List (List (Nat → Int))) × Unit)) → Option R) (x : ((Unit × Unit × Int × Int × Unit) × ((Unit × ((Int × (Int × (Int × (Int × (Int × (Int × (Int × (Int × Unit)))))))) × Unit)) × (Unit × (Unit × (Bool × Unit))) × (Int × (Int × (Int × (Int × Unit)))) × (List (Nat → Int)) × (List (List (Nat → Int))) × Unit))) (κ0 : ((Unit × Unit) × ((Unit × ((Int × (Int × (Int × (Int × (Int × (Int × (Int × (Int × Unit)))))))) × Unit)) × (Unit × (Unit × (Bool × Unit))) × (Int × (Int × (Int × (Int × Unit)))) × (List (Nat → Int)) × (List (List (Nat → Int))) × Unit)) → Option R) : Option R :=
let i756 : Int := x.1.2.2.1
let i757 : Int := x.1.2.2.2.1
let i758 : Int := x.2.1.2.1.1
let i759 : Int := x.2.1.2.1.2.1
let i760 : Int := x.2.1.2.1.2.2.1
let i761 : Int := x.2.1.2.1.2.2.2.1
let i762 : Int := x.2.1.2.1.2.2.2.2.1
let i763 : Int := x.2.1.2.1.2.2.2.2.2.1
let i764 : Int := x.2.1.2.1.2.2.2.2.2.2.1
let i765 : Int := x.2.1.2.1.2.2.2.2.2.2.2.1
let b766 : Bool := x.2.2.1.2.2.1
let i767 : Int := x.2.2.2.1.1
let i768 : Int := x.2.2.2.1.2.1
let i769 : Int := x.2.2.2.1.2.2.1
let i770 : Int := x.2.2.2.1.2.2.2.1
let l771 : (List (Nat → Int)) := x.2.2.2.2.1
let r772 : (List (List (Nat → Int))) := x.2.2.2.2.2.1
bif (decide (i757 < i756)) then (
bif decide (0 ≤ i757) then (
bif decide (i757 < ((List.length r772) : Int)) then (
let i773 : Int := (((List.length ((List.getD r772 ((Int.toNat i757)) []))) : Nat) : Int)
m_17_6 (((), (), i757, i756, i757, i773, 0, ()), (((), ((i758, (i759, (i760, (i761, (i762, (i763, (i764, (i765, ())))))))), ())), ((), ((), (b766, ()))), (i767, (i768, (i769, (i770, ())))), l771, r772, ())) (fun y821 =>
let i822 : Int := y821.1.2.2.1
let i823 : Int := y821.1.2.2.2.1
let i824 : Int := y821.2.1.2.1.1
let i825 : Int := y821.2.1.2.1.2.1
let i826 : Int := y821.2.1.2.1.2.2.1
let i827 : Int := y821.2.1.2.1.2.2.2.1
let i828 : Int := y821.2.1.2.1.2.2.2.2.1
let i829 : Int := y821.2.1.2.1.2.2.2.2.2.1
let i830 : Int := y821.2.1.2.1.2.2.2.2.2.2.1
let i831 : Int := y821.2.1.2.1.2.2.2.2.2.2.2.1
let b832 : Bool := y821.2.2.1.2.2.1
let i833 : Int := y821.2.2.2.1.1
let i834 : Int := y821.2.2.2.1.2.1
let i835 : Int := y821.2.2.2.1.2.2.1
let i836 : Int := y821.2.2.2.1.2.2.2.1
let l837 : (List (Nat → Int)) := y821.2.2.2.2.1
let r838 : (List (List (Nat → Int))) := y821.2.2.2.2.2.1
let i839 : Int := addA .i64 i823 1
rec (((), (), i822, i839, ()), (((), ((i824, (i825, (i826, (i827, (i828, (i829, (i830, (i831, ())))))))), ())), ((), ((), (b832, ()))), (i833, (i834, (i835, (i836, ())))), l837, r838, ())))) else none) else none) else (
κ0 (((), ()), (((), ((i758, (i759, (i760, (i761, (i762, (i763, (i764, (i765, ())))))))), ())), ((), ((), (b766, ()))), (i767, (i768, (i769, (i770, ())))), l771, r772, ())))
def EG_17 {R : Type} (q_15 : Tp_15 R) (q_9_v1 : Tp_9_v1 R) : Env R := ((Env.base QQ LN AA).add 15 ap_15 hp_15 (fun (x : aden ap_15 × hden hp_15) k => q_15 x (fun y => k (Pat.inst (.sl 0) y.1) (instH [some (.fam 29 (.arr 128 (.int .u64)), 52)] y.2)))).add 9 ap_9_v1 hp_9_v1 (fun (x : aden ap_9_v1 × hden hp_9_v1) k => q_9_v1 x (fun y => k (Pat.inst (.tup (.fcons (.vec (.int .u64) 128) (.fcons (.int .i64) (.fnil)))) y) (instH hp_9_v1 x.2)))
def LG_17 {R : Type} (m_17_6 : Tl_17_6 R) (m_17_3 : Tl_17_3 R) : Loops R := ((Loops.none).add 6 (loopBy 4 lv_17_6 pt_17_6 (fun x k => m_17_6 x (fun y => k (.exit 2) (px_17_6_0.inst y))))).add 3 (loopBy 4 lv_17_3 pt_17_3 (fun x k => m_17_3 x (fun y => k (.exit 0) (px_17_3_0.inst y))))
def E_17 {R : Type} (N : Nat) : Env R := EG_17 (p_15 N) (p_9_v1 N)
theorem eok_17 {R : Type} (N : Nat) : EK Try.prog (E_17 (R := R) N) := ek_add (ek_add (ek_base _ _ _) (good_15 N)) (good_9_v1 N)
def L_17 {R : Type} (N : Nat) : Loops R := LG_17 (l_17_6 N N) (l_17_3 N N)
theorem gstep_17_6 {R : Type} (q_15 : Tp_15 R) (q_9_v1 : Tp_9_v1 R) (m_17_6 : Tl_17_6 R) (m_17_3 : Tl_17_3 R) (n : Nat) (x : pt_17_6.den) (k : Exit → St → Option R) : iter 4 lv_17_6 lo_17_6 (aexec TT (EG_17 q_15 q_9_v1) (drawAny TT WW) (LG_17 m_17_6 m_17_3) (loopAt 6 (bodyOf Try.f17))) (n + 1) (pt_17_6.inst x) k = C_17_6 q_15 q_9_v1 m_17_6 m_17_3 (fun y => iter 4 lv_17_6 lo_17_6 (aexec TT (EG_17 q_15 q_9_v1) (drawAny TT WW) (LG_17 m_17_6 m_17_3) (loopAt 6 (bodyOf Try.f17))) n (pt_17_6.inst y) k) x (fun y => k (.exit 2) (px_17_6_0.inst y)) := by kernel_rfl
theorem step_17_6 {R : Type} (N n : Nat) (x : pt_17_6.den) (k : Exit → St → Option R) : iter 4 lv_17_6 lo_17_6 (aexec TT (E_17 (R := R) N) (drawAny TT WW) (L_17 N) (loopAt 6 (bodyOf Try.f17))) (n + 1) (pt_17_6.inst x) k = B_17_6 N (fun y => iter 4 lv_17_6 lo_17_6 (aexec TT (E_17 (R := R) N) (drawAny TT WW) (L_17 N) (loopAt 6 (bodyOf Try.f17))) n (pt_17_6.inst y) k) x (fun y => k (.exit 2) (px_17_6_0.inst y)) := (gstep_17_6 (p_15 N) (p_9_v1 N) (l_17_6 N N) (l_17_3 N N) n x k).trans (by kernel_rfl)
theorem eq_17_6 {R : Type} (N : Nat) : ∀ (n : Nat) (x : pt_17_6.den) (k : Exit → St → Option R), iter 4 lv_17_6 lo_17_6 (aexec TT (E_17 (R := R) N) (drawAny TT WW) (L_17 N) (loopAt 6 (bodyOf Try.f17))) n (pt_17_6.inst x) k = l_17_6 N n x (fun y => k (.exit 2) (px_17_6_0.inst y)) :=
  iter_eq (K := Exit → St → Option R) (ks := fun k => k) (l := fun n (x : pt_17_6.den) k => l_17_6 N n x (fun y => k (.exit 2) (px_17_6_0.inst y))) (B := fun (rec : pt_17_6.den → Option R) (x : pt_17_6.den) k => B_17_6 N rec x (fun y => k (.exit 2) (px_17_6_0.inst y))) (fun _ _ => rfl) (fun _ _ _ => rfl) (fun n x k => step_17_6 N n x k)
theorem rounds_17_6 {R : Type} (N : Nat) : Rounds 4 TT (E_17 (R := R) N) (drawAny TT WW) (L_17 N) 6 (loopAt 6 (bodyOf Try.f17)) :=
  rounds_of (p := pt_17_6) (l := fun (x : pt_17_6.den) k => l_17_6 N N x (fun y => k (.exit 2) (px_17_6_0.inst y))) (fun s k => rfl) (fun x k => eq_17_6 N N x k)
theorem gstep_17_3 {R : Type} (q_15 : Tp_15 R) (q_9_v1 : Tp_9_v1 R) (m_17_6 : Tl_17_6 R) (m_17_3 : Tl_17_3 R) (n : Nat) (x : pt_17_3.den) (k : Exit → St → Option R) : iter 4 lv_17_3 lo_17_3 (aexec TT (EG_17 q_15 q_9_v1) (drawAny TT WW) (LG_17 m_17_6 m_17_3) (loopAt 3 (bodyOf Try.f17))) (n + 1) (pt_17_3.inst x) k = C_17_3 q_15 q_9_v1 m_17_6 m_17_3 (fun y => iter 4 lv_17_3 lo_17_3 (aexec TT (EG_17 q_15 q_9_v1) (drawAny TT WW) (LG_17 m_17_6 m_17_3) (loopAt 3 (bodyOf Try.f17))) n (pt_17_3.inst y) k) x (fun y => k (.exit 0) (px_17_3_0.inst y)) := by kernel_rfl
theorem step_17_3 {R : Type} (N n : Nat) (x : pt_17_3.den) (k : Exit → St → Option R) : iter 4 lv_17_3 lo_17_3 (aexec TT (E_17 (R := R) N) (drawAny TT WW) (L_17 N) (loopAt 3 (bodyOf Try.f17))) (n + 1) (pt_17_3.inst x) k = B_17_3 N (fun y => iter 4 lv_17_3 lo_17_3 (aexec TT (E_17 (R := R) N) (drawAny TT WW) (L_17 N) (loopAt 3 (bodyOf Try.f17))) n (pt_17_3.inst y) k) x (fun y => k (.exit 0) (px_17_3_0.inst y)) := (gstep_17_3 (p_15 N) (p_9_v1 N) (l_17_6 N N) (l_17_3 N N) n x k).trans (by kernel_rfl)
theorem eq_17_3 {R : Type} (N : Nat) : ∀ (n : Nat) (x : pt_17_3.den) (k : Exit → St → Option R), iter 4 lv_17_3 lo_17_3 (aexec TT (E_17 (R := R) N) (drawAny TT WW) (L_17 N) (loopAt 3 (bodyOf Try.f17))) n (pt_17_3.inst x) k = l_17_3 N n x (fun y => k (.exit 0) (px_17_3_0.inst y)) :=
  iter_eq (K := Exit → St → Option R) (ks := fun k => k) (l := fun n (x : pt_17_3.den) k => l_17_3 N n x (fun y => k (.exit 0) (px_17_3_0.inst y))) (B := fun (rec : pt_17_3.den → Option R) (x : pt_17_3.den) k => B_17_3 N rec x (fun y => k (.exit 0) (px_17_3_0.inst y))) (fun _ _ => rfl) (fun _ _ _ => rfl) (fun n x k => step_17_3 N n x k)
theorem rounds_17_3 {R : Type} (N : Nat) : Rounds 4 TT (E_17 (R := R) N) (drawAny TT WW) (L_17 N) 3 (loopAt 3 (bodyOf Try.f17)) :=
  rounds_of (p := pt_17_3) (l := fun (x : pt_17_3.den) k => l_17_3 N N x (fun y => k (.exit 0) (px_17_3_0.inst y))) (fun s k => rfl) (fun x k => eq_17_3 N N x k)
theorem loops_17 : loopsIn (bodyOf Try.f17) = [(3, loopAt 3 (bodyOf Try.f17)), (6, loopAt 6 (bodyOf Try.f17))] := by kernel_rfl
theorem lok_17 {R : Type} (N : Nat) : LOK 4 TT (E_17 (R := R) N) (drawAny TT WW) (L_17 N) (bodyOf Try.f17) := loops_all loops_17 (by
  simp only [List.forall_mem_cons, List.not_mem_nil, false_implies, implies_true, and_true]
  exact ⟨rounds_17_3 N, rounds_17_6 N⟩)
theorem grun_17 {R : Type} (q_15 : Tp_15 R) (q_9_v1 : Tp_9_v1 R) (m_17_6 : Tl_17_6 R) (m_17_3 : Tl_17_3 R) (x : aden ap_17 × hden hp_17) (k : KF R) : fnrun TT (EG_17 q_15 q_9_v1) (drawAny TT WW) (LG_17 m_17_6 m_17_3) true Try.f17 (instA ap_17 x.1) (instH hp_17 x.2) k = Q_17 q_15 q_9_v1 m_17_6 m_17_3 x (fun y => k (Pat.inst (.sl 4) y.1) (instH [some (.node (.fcons (.ptr 1 []) (.fcons (.node (.fcons (.int .i64) (.fcons (.int .i64) (.fcons (.int .i64) (.fcons (.int .i64) (.fcons (.int .i64) (.fcons (.int .i64) (.fcons (.int .i64) (.fcons (.int .i64) (.fnil)))))))))) (.fnil))), 49), some (.node (.fcons (.ptr 2 []) (.fcons (.sl 3) (.fcons (.bool) (.fnil)))), 147), some (.node (.fcons (.int .i64) (.fcons (.int .i64) (.fcons (.int .i64) (.fcons (.int .i64) (.fnil))))), 145), some (.lst (.arr 128 (.int .u64)), 29), some (.fam 29 (.arr 128 (.int .u64)), 52)] y.2)) := by kernel_rfl
theorem run_17 {R : Type} (N : Nat) (x : aden ap_17 × hden hp_17) (k : KF R) : fnrun TT (E_17 (R := R) N) (drawAny TT WW) (L_17 N) true Try.f17 (instA ap_17 x.1) (instH hp_17 x.2) k = p_17 N x (fun y => k (Pat.inst (.sl 4) y.1) (instH [some (.node (.fcons (.ptr 1 []) (.fcons (.node (.fcons (.int .i64) (.fcons (.int .i64) (.fcons (.int .i64) (.fcons (.int .i64) (.fcons (.int .i64) (.fcons (.int .i64) (.fcons (.int .i64) (.fcons (.int .i64) (.fnil)))))))))) (.fnil))), 49), some (.node (.fcons (.ptr 2 []) (.fcons (.sl 3) (.fcons (.bool) (.fnil)))), 147), some (.node (.fcons (.int .i64) (.fcons (.int .i64) (.fcons (.int .i64) (.fcons (.int .i64) (.fnil))))), 145), some (.lst (.arr 128 (.int .u64)), 29), some (.fam 29 (.arr 128 (.int .u64)), 52)] y.2)) := (grun_17 (p_15 N) (p_9_v1 N) (l_17_6 N N) (l_17_3 N N) x k).trans (by kernel_rfl)
theorem good_17 {R : Type} (N : Nat) : GD (X := R) Try.prog QQ AA 17 ap_17 hp_17 (fun (x : aden ap_17 × hden hp_17) k => p_17 N x (fun y => k (Pat.inst (.sl 4) y.1) (instH [some (.node (.fcons (.ptr 1 []) (.fcons (.node (.fcons (.int .i64) (.fcons (.int .i64) (.fcons (.int .i64) (.fcons (.int .i64) (.fcons (.int .i64) (.fcons (.int .i64) (.fcons (.int .i64) (.fcons (.int .i64) (.fnil)))))))))) (.fnil))), 49), some (.node (.fcons (.ptr 2 []) (.fcons (.sl 3) (.fcons (.bool) (.fnil)))), 147), some (.node (.fcons (.int .i64) (.fcons (.int .i64) (.fcons (.int .i64) (.fcons (.int .i64) (.fnil))))), 145), some (.lst (.arr 128 (.int .u64)), 29), some (.fam 29 (.arr 128 (.int .u64)), 52)] y.2))) :=
  gd_loud (E := E_17 N) (p := fun (x : aden ap_17 × hden hp_17) k => p_17 N x (fun y => k (Pat.inst (.sl 4) y.1) (instH [some (.node (.fcons (.ptr 1 []) (.fcons (.node (.fcons (.int .i64) (.fcons (.int .i64) (.fcons (.int .i64) (.fcons (.int .i64) (.fcons (.int .i64) (.fcons (.int .i64) (.fcons (.int .i64) (.fcons (.int .i64) (.fnil)))))))))) (.fnil))), 49), some (.node (.fcons (.ptr 2 []) (.fcons (.sl 3) (.fcons (.bool) (.fnil)))), 147), some (.node (.fcons (.int .i64) (.fcons (.int .i64) (.fcons (.int .i64) (.fcons (.int .i64) (.fnil))))), 145), some (.lst (.arr 128 (.int .u64)), 29), some (.fam 29 (.arr 128 (.int .u64)), 52)] y.2))) mixed tyok (eok_17 N) Try.func17 (by kernel_rfl) (by kernel_rfl) (by kernel_rfl) (by kernel_rfl) (lok_17 N) (fun x k => run_17 N x k)

def lv_16_9 : Live := [(0, none), (1, none), (5, none), (6, none)]
def pt_16_9 : SPat := ⟨[(0, .sl 0), (1, .sl 1), (5, .int .i64), (6, .int .i64)], [some (.fam 29 (.arr 128 (.int .u64)), 52), some (.fam 29 (.arr 128 (.int .u64)), 52)]⟩
def px_16_9_0 : SPat := ⟨[(4, .bool)], [some (.fam 29 (.arr 128 (.int .u64)), 52), some (.fam 29 (.arr 128 (.int .u64)), 52)]⟩
def px_16_9_1 : SPat := ⟨[(0, .sl 0), (1, .sl 1), (5, .int .i64)], [some (.fam 29 (.arr 128 (.int .u64)), 52), some (.fam 29 (.arr 128 (.int .u64)), 52)]⟩
def lo_16_9 : Exit → Live
  | .ret => [(4, none)]
  | .exit 2 => [(0, none), (1, none), (5, none)]
  | _ => []
def B_16_9 {R : Type} (N : Nat) (rec : ((Unit × Unit × Int × Int × Unit) × ((List (List (Nat → Int))) × (List (List (Nat → Int))) × Unit)) → Option R) (x : ((Unit × Unit × Int × Int × Unit) × ((List (List (Nat → Int))) × (List (List (Nat → Int))) × Unit))) (κ0 : ((Bool × Unit) × ((List (List (Nat → Int))) × (List (List (Nat → Int))) × Unit)) → Option R) (κ1 : ((Unit × Unit × Int × Unit) × ((List (List (Nat → Int))) × (List (List (Nat → Int))) × Unit)) → Option R) : Option R :=
let i882 : Int := x.1.2.2.1
let i883 : Int := x.1.2.2.2.1
let r884 : (List (List (Nat → Int))) := x.2.1
let r885 : (List (List (Nat → Int))) := x.2.2.1
bif decide (0 ≤ i882) then (
bif decide (i882 < ((List.length r884) : Int)) then (
let i886 : Int := (((List.length ((List.getD r884 ((Int.toNat i882)) []))) : Nat) : Int)
bif (decide (i883 < i886)) then (
bif decide (0 ≤ i882) then (
bif decide (i882 < ((List.length r884) : Int)) then (
bif decide (0 ≤ i883) then (
bif decide (i883 < ((List.length ((List.getD r884 ((Int.toNat i882)) []))) : Int)) then (
let a887 : (Nat → Int) := (List.getD ((List.getD r884 ((Int.toNat i882)) [])) ((Int.toNat i883)) (Sch.zero (.arr 128 (.int .u64))))
bif decide (0 ≤ i882) then (
bif decide (i882 < ((List.length r885) : Int)) then (
bif decide (0 ≤ i883) then (
bif decide (i883 < ((List.length ((List.getD r885 ((Int.toNat i882)) []))) : Int)) then (
let a888 : (Nat → Int) := (List.getD ((List.getD r885 ((Int.toNat i882)) [])) ((Int.toNat i883)) (Sch.zero (.arr 128 (.int .u64))))
bif (!(schEq (.arr 128 (.int .u64)) a887 a888)) then (
κ0 ((false, ()), (r884, r885, ()))) else (
let i889 : Int := addA .i64 i883 1
rec (((), (), i882, i889, ()), (r884, r885, ())))) else none) else none) else none) else none) else none) else none) else none) else none) else (
κ1 (((), (), i882, ()), (r884, r885, ())))) else none) else none
def l_16_9 {R : Type} (N : Nat) : Nat → ((Unit × Unit × Int × Int × Unit) × ((List (List (Nat → Int))) × (List (List (Nat → Int))) × Unit)) → (((Bool × Unit) × ((List (List (Nat → Int))) × (List (List (Nat → Int))) × Unit)) → Option R) → (((Unit × Unit × Int × Unit) × ((List (List (Nat → Int))) × (List (List (Nat → Int))) × Unit)) → Option R) → Option R
  | 0, _, _, _ => none
  | n + 1, x, κ0, κ1 => B_16_9 N (fun y => l_16_9 N n y κ0 κ1) x κ0 κ1
def lv_16_4 : Live := [(0, none), (1, none), (5, none)]
def pt_16_4 : SPat := ⟨[(0, .sl 0), (1, .sl 1), (5, .int .i64)], [some (.fam 29 (.arr 128 (.int .u64)), 52), some (.fam 29 (.arr 128 (.int .u64)), 52)]⟩
def px_16_4_0 : SPat := ⟨[(4, .bool)], [some (.fam 29 (.arr 128 (.int .u64)), 52), some (.fam 29 (.arr 128 (.int .u64)), 52)]⟩
def px_16_4_1 : SPat := ⟨[], [some (.fam 29 (.arr 128 (.int .u64)), 52), some (.fam 29 (.arr 128 (.int .u64)), 52)]⟩
def lo_16_4 : Exit → Live
  | .ret => [(4, none)]
  | .exit 0 => []
  | _ => []
def B_16_4 {R : Type} (N : Nat) (rec : ((Unit × Unit × Int × Unit) × ((List (List (Nat → Int))) × (List (List (Nat → Int))) × Unit)) → Option R) (x : ((Unit × Unit × Int × Unit) × ((List (List (Nat → Int))) × (List (List (Nat → Int))) × Unit))) (κ0 : ((Bool × Unit) × ((List (List (Nat → Int))) × (List (List (Nat → Int))) × Unit)) → Option R) (κ1 : ((Unit) × ((List (List (Nat → Int))) × (List (List (Nat → Int))) × Unit)) → Option R) : Option R :=
let i876 : Int := x.1.2.2.1
let r877 : (List (List (Nat → Int))) := x.2.1
let r878 : (List (List (Nat → Int))) := x.2.2.1
let i879 : Int := (((List.length r877) : Nat) : Int)
bif (decide (i876 < i879)) then (
bif decide (0 ≤ i876) then (
bif decide (i876 < ((List.length r877) : Int)) then (
let i880 : Int := (((List.length ((List.getD r877 ((Int.toNat i876)) []))) : Nat) : Int)
bif decide (0 ≤ i876) then (
bif decide (i876 < ((List.length r878) : Int)) then (
let i881 : Int := (((List.length ((List.getD r878 ((Int.toNat i876)) []))) : Nat) : Int)
bif (i880 != i881) then (
κ0 ((false, ()), (r877, r878, ()))) else (
l_16_9 N N (((), (), i876, 0, ()), (r877, r878, ())) (fun y890 =>
let b891 : Bool := y890.1.1
let r892 : (List (List (Nat → Int))) := y890.2.1
let r893 : (List (List (Nat → Int))) := y890.2.2.1
κ0 ((b891, ()), (r892, r893, ()))) (fun y894 =>
let i895 : Int := y894.1.2.2.1
let r896 : (List (List (Nat → Int))) := y894.2.1
let r897 : (List (List (Nat → Int))) := y894.2.2.1
let i898 : Int := addA .i64 i895 1
rec (((), (), i898, ()), (r896, r897, ()))))) else none) else none) else none) else none) else (
κ1 ((), (r877, r878, ())))
def l_16_4 {R : Type} (N : Nat) : Nat → ((Unit × Unit × Int × Unit) × ((List (List (Nat → Int))) × (List (List (Nat → Int))) × Unit)) → (((Bool × Unit) × ((List (List (Nat → Int))) × (List (List (Nat → Int))) × Unit)) → Option R) → (((Unit) × ((List (List (Nat → Int))) × (List (List (Nat → Int))) × Unit)) → Option R) → Option R
  | 0, _, _, _ => none
  | n + 1, x, κ0, κ1 => B_16_4 N (fun y => l_16_4 N n y κ0 κ1) x κ0 κ1
def ap_16 : List Pat := [.sl 0, .sl 1]
def hp_16 : List (Option (Pat × Nat)) := [some (.fam 29 (.arr 128 (.int .u64)), 52), some (.fam 29 (.arr 128 (.int .u64)), 52)]
def p_16 {R : Type} (N : Nat) (x : (Unit × Unit × Unit) × ((List (List (Nat → Int))) × (List (List (Nat → Int))) × Unit)) (κ0 : (Bool × ((List (List (Nat → Int))) × (List (List (Nat → Int))) × Unit)) → Option R) : Option R :=
let r872 : (List (List (Nat → Int))) := x.2.1
let r873 : (List (List (Nat → Int))) := x.2.2.1
let i874 : Int := (((List.length r872) : Nat) : Int)
let i875 : Int := (((List.length r873) : Nat) : Int)
bif (i874 != i875) then (
κ0 (false, (r872, r873, ()))) else (
l_16_4 N N (((), (), 0, ()), (r872, r873, ())) (fun y899 =>
let b900 : Bool := y899.1.1
let r901 : (List (List (Nat → Int))) := y899.2.1
let r902 : (List (List (Nat → Int))) := y899.2.2.1
κ0 (b900, (r901, r902, ()))) (fun y903 =>
let r904 : (List (List (Nat → Int))) := y903.2.1
let r905 : (List (List (Nat → Int))) := y903.2.2.1
κ0 (true, (r904, r905, ()))))

abbrev Tl_16_9 (R : Type) : Type := ((Unit × Unit × Int × Int × Unit) × ((List (List (Nat → Int))) × (List (List (Nat → Int))) × Unit)) → (((Bool × Unit) × ((List (List (Nat → Int))) × (List (List (Nat → Int))) × Unit)) → Option R) → (((Unit × Unit × Int × Unit) × ((List (List (Nat → Int))) × (List (List (Nat → Int))) × Unit)) → Option R) → Option R
abbrev Tl_16_4 (R : Type) : Type := ((Unit × Unit × Int × Unit) × ((List (List (Nat → Int))) × (List (List (Nat → Int))) × Unit)) → (((Bool × Unit) × ((List (List (Nat → Int))) × (List (List (Nat → Int))) × Unit)) → Option R) → (((Unit) × ((List (List (Nat → Int))) × (List (List (Nat → Int))) × Unit)) → Option R) → Option R
abbrev Tp_16 (R : Type) : Type := (Unit × Unit × Unit) × ((List (List (Nat → Int))) × (List (List (Nat → Int))) × Unit) → ((Bool × ((List (List (Nat → Int))) × (List (List (Nat → Int))) × Unit)) → Option R) → Option R
def Q_16 {R : Type} (m_16_9 : Tl_16_9 R) (m_16_4 : Tl_16_4 R) (x : (Unit × Unit × Unit) × ((List (List (Nat → Int))) × (List (List (Nat → Int))) × Unit)) (κ0 : (Bool × ((List (List (Nat → Int))) × (List (List (Nat → Int))) × Unit)) → Option R) : Option R :=
let r872 : (List (List (Nat → Int))) := x.2.1
let r873 : (List (List (Nat → Int))) := x.2.2.1
let i874 : Int := (((List.length r872) : Nat) : Int)
let i875 : Int := (((List.length r873) : Nat) : Int)
bif (i874 != i875) then (
κ0 (false, (r872, r873, ()))) else (
m_16_4 (((), (), 0, ()), (r872, r873, ())) (fun y899 =>
let b900 : Bool := y899.1.1
let r901 : (List (List (Nat → Int))) := y899.2.1
let r902 : (List (List (Nat → Int))) := y899.2.2.1
κ0 (b900, (r901, r902, ()))) (fun y903 =>
let r904 : (List (List (Nat → Int))) := y903.2.1
let r905 : (List (List (Nat → Int))) := y903.2.2.1
κ0 (true, (r904, r905, ()))))
def C_16_9 {R : Type} (m_16_9 : Tl_16_9 R) (m_16_4 : Tl_16_4 R) (rec : ((Unit × Unit × Int × Int × Unit) × ((List (List (Nat → Int))) × (List (List (Nat → Int))) × Unit)) → Option R) (x : ((Unit × Unit × Int × Int × Unit) × ((List (List (Nat → Int))) × (List (List (Nat → Int))) × Unit))) (κ0 : ((Bool × Unit) × ((List (List (Nat → Int))) × (List (List (Nat → Int))) × Unit)) → Option R) (κ1 : ((Unit × Unit × Int × Unit) × ((List (List (Nat → Int))) × (List (List (Nat → Int))) × Unit)) → Option R) : Option R :=
let i882 : Int := x.1.2.2.1
let i883 : Int := x.1.2.2.2.1
let r884 : (List (List (Nat → Int))) := x.2.1
let r885 : (List (List (Nat → Int))) := x.2.2.1
bif decide (0 ≤ i882) then (
bif decide (i882 < ((List.length r884) : Int)) then (
let i886 : Int := (((List.length ((List.getD r884 ((Int.toNat i882)) []))) : Nat) : Int)
bif (decide (i883 < i886)) then (
bif decide (0 ≤ i882) then (
bif decide (i882 < ((List.length r884) : Int)) then (
bif decide (0 ≤ i883) then (
bif decide (i883 < ((List.length ((List.getD r884 ((Int.toNat i882)) []))) : Int)) then (
let a887 : (Nat → Int) := (List.getD ((List.getD r884 ((Int.toNat i882)) [])) ((Int.toNat i883)) (Sch.zero (.arr 128 (.int .u64))))
bif decide (0 ≤ i882) then (
bif decide (i882 < ((List.length r885) : Int)) then (
bif decide (0 ≤ i883) then (
bif decide (i883 < ((List.length ((List.getD r885 ((Int.toNat i882)) []))) : Int)) then (
let a888 : (Nat → Int) := (List.getD ((List.getD r885 ((Int.toNat i882)) [])) ((Int.toNat i883)) (Sch.zero (.arr 128 (.int .u64))))
bif (!(schEq (.arr 128 (.int .u64)) a887 a888)) then (
κ0 ((false, ()), (r884, r885, ()))) else (
let i889 : Int := addA .i64 i883 1
rec (((), (), i882, i889, ()), (r884, r885, ())))) else none) else none) else none) else none) else none) else none) else none) else none) else (
κ1 (((), (), i882, ()), (r884, r885, ())))) else none) else none
def C_16_4 {R : Type} (m_16_9 : Tl_16_9 R) (m_16_4 : Tl_16_4 R) (rec : ((Unit × Unit × Int × Unit) × ((List (List (Nat → Int))) × (List (List (Nat → Int))) × Unit)) → Option R) (x : ((Unit × Unit × Int × Unit) × ((List (List (Nat → Int))) × (List (List (Nat → Int))) × Unit))) (κ0 : ((Bool × Unit) × ((List (List (Nat → Int))) × (List (List (Nat → Int))) × Unit)) → Option R) (κ1 : ((Unit) × ((List (List (Nat → Int))) × (List (List (Nat → Int))) × Unit)) → Option R) : Option R :=
let i876 : Int := x.1.2.2.1
let r877 : (List (List (Nat → Int))) := x.2.1
let r878 : (List (List (Nat → Int))) := x.2.2.1
let i879 : Int := (((List.length r877) : Nat) : Int)
bif (decide (i876 < i879)) then (
bif decide (0 ≤ i876) then (
bif decide (i876 < ((List.length r877) : Int)) then (
let i880 : Int := (((List.length ((List.getD r877 ((Int.toNat i876)) []))) : Nat) : Int)
bif decide (0 ≤ i876) then (
bif decide (i876 < ((List.length r878) : Int)) then (
let i881 : Int := (((List.length ((List.getD r878 ((Int.toNat i876)) []))) : Nat) : Int)
bif (i880 != i881) then (
κ0 ((false, ()), (r877, r878, ()))) else (
m_16_9 (((), (), i876, 0, ()), (r877, r878, ())) (fun y890 =>
let b891 : Bool := y890.1.1
let r892 : (List (List (Nat → Int))) := y890.2.1
let r893 : (List (List (Nat → Int))) := y890.2.2.1
κ0 ((b891, ()), (r892, r893, ()))) (fun y894 =>
let i895 : Int := y894.1.2.2.1
let r896 : (List (List (Nat → Int))) := y894.2.1
let r897 : (List (List (Nat → Int))) := y894.2.2.1
let i898 : Int := addA .i64 i895 1
rec (((), (), i898, ()), (r896, r897, ()))))) else none) else none) else none) else none) else (
κ1 ((), (r877, r878, ())))
def EG_16 {R : Type} : Env R := Env.base QQ LN AA
def LG_16 {R : Type} (m_16_9 : Tl_16_9 R) (m_16_4 : Tl_16_4 R) : Loops R := ((Loops.none).add 9 (loopBy 2 lv_16_9 pt_16_9 (fun x k => m_16_9 x (fun y => k .ret (px_16_9_0.inst y)) (fun y => k (.exit 2) (px_16_9_1.inst y))))).add 4 (loopBy 2 lv_16_4 pt_16_4 (fun x k => m_16_4 x (fun y => k .ret (px_16_4_0.inst y)) (fun y => k (.exit 0) (px_16_4_1.inst y))))
def E_16 {R : Type} (N : Nat) : Env R := EG_16
theorem eok_16 {R : Type} (N : Nat) : EK Try.prog (E_16 (R := R) N) := ek_base _ _ _
def L_16 {R : Type} (N : Nat) : Loops R := LG_16 (l_16_9 N N) (l_16_4 N N)
theorem gstep_16_9 {R : Type} (m_16_9 : Tl_16_9 R) (m_16_4 : Tl_16_4 R) (n : Nat) (x : pt_16_9.den) (k : Exit → St → Option R) : iter 2 lv_16_9 lo_16_9 (aexec TT (EG_16) (drawAny TT WW) (LG_16 m_16_9 m_16_4) (loopAt 9 (bodyOf Try.f16))) (n + 1) (pt_16_9.inst x) k = C_16_9 m_16_9 m_16_4 (fun y => iter 2 lv_16_9 lo_16_9 (aexec TT (EG_16) (drawAny TT WW) (LG_16 m_16_9 m_16_4) (loopAt 9 (bodyOf Try.f16))) n (pt_16_9.inst y) k) x (fun y => k .ret (px_16_9_0.inst y)) (fun y => k (.exit 2) (px_16_9_1.inst y)) := by kernel_rfl
theorem step_16_9 {R : Type} (N n : Nat) (x : pt_16_9.den) (k : Exit → St → Option R) : iter 2 lv_16_9 lo_16_9 (aexec TT (E_16 (R := R) N) (drawAny TT WW) (L_16 N) (loopAt 9 (bodyOf Try.f16))) (n + 1) (pt_16_9.inst x) k = B_16_9 N (fun y => iter 2 lv_16_9 lo_16_9 (aexec TT (E_16 (R := R) N) (drawAny TT WW) (L_16 N) (loopAt 9 (bodyOf Try.f16))) n (pt_16_9.inst y) k) x (fun y => k .ret (px_16_9_0.inst y)) (fun y => k (.exit 2) (px_16_9_1.inst y)) := (gstep_16_9 (l_16_9 N N) (l_16_4 N N) n x k).trans (by kernel_rfl)
theorem eq_16_9 {R : Type} (N : Nat) : ∀ (n : Nat) (x : pt_16_9.den) (k : Exit → St → Option R), iter 2 lv_16_9 lo_16_9 (aexec TT (E_16 (R := R) N) (drawAny TT WW) (L_16 N) (loopAt 9 (bodyOf Try.f16))) n (pt_16_9.inst x) k = l_16_9 N n x (fun y => k .ret (px_16_9_0.inst y)) (fun y => k (.exit 2) (px_16_9_1.inst y)) :=
  iter_eq (K := Exit → St → Option R) (ks := fun k => k) (l := fun n (x : pt_16_9.den) k => l_16_9 N n x (fun y => k .ret (px_16_9_0.inst y)) (fun y => k (.exit 2) (px_16_9_1.inst y))) (B := fun (rec : pt_16_9.den → Option R) (x : pt_16_9.den) k => B_16_9 N rec x (fun y => k .ret (px_16_9_0.inst y)) (fun y => k (.exit 2) (px_16_9_1.inst y))) (fun _ _ => rfl) (fun _ _ _ => rfl) (fun n x k => step_16_9 N n x k)
theorem rounds_16_9 {R : Type} (N : Nat) : Rounds 2 TT (E_16 (R := R) N) (drawAny TT WW) (L_16 N) 9 (loopAt 9 (bodyOf Try.f16)) :=
  rounds_of (p := pt_16_9) (l := fun (x : pt_16_9.den) k => l_16_9 N N x (fun y => k .ret (px_16_9_0.inst y)) (fun y => k (.exit 2) (px_16_9_1.inst y))) (fun s k => rfl) (fun x k => eq_16_9 N N x k)
theorem gstep_16_4 {R : Type} (m_16_9 : Tl_16_9 R) (m_16_4 : Tl_16_4 R) (n : Nat) (x : pt_16_4.den) (k : Exit → St → Option R) : iter 2 lv_16_4 lo_16_4 (aexec TT (EG_16) (drawAny TT WW) (LG_16 m_16_9 m_16_4) (loopAt 4 (bodyOf Try.f16))) (n + 1) (pt_16_4.inst x) k = C_16_4 m_16_9 m_16_4 (fun y => iter 2 lv_16_4 lo_16_4 (aexec TT (EG_16) (drawAny TT WW) (LG_16 m_16_9 m_16_4) (loopAt 4 (bodyOf Try.f16))) n (pt_16_4.inst y) k) x (fun y => k .ret (px_16_4_0.inst y)) (fun y => k (.exit 0) (px_16_4_1.inst y)) := by kernel_rfl
theorem step_16_4 {R : Type} (N n : Nat) (x : pt_16_4.den) (k : Exit → St → Option R) : iter 2 lv_16_4 lo_16_4 (aexec TT (E_16 (R := R) N) (drawAny TT WW) (L_16 N) (loopAt 4 (bodyOf Try.f16))) (n + 1) (pt_16_4.inst x) k = B_16_4 N (fun y => iter 2 lv_16_4 lo_16_4 (aexec TT (E_16 (R := R) N) (drawAny TT WW) (L_16 N) (loopAt 4 (bodyOf Try.f16))) n (pt_16_4.inst y) k) x (fun y => k .ret (px_16_4_0.inst y)) (fun y => k (.exit 0) (px_16_4_1.inst y)) := (gstep_16_4 (l_16_9 N N) (l_16_4 N N) n x k).trans (by kernel_rfl)
theorem eq_16_4 {R : Type} (N : Nat) : ∀ (n : Nat) (x : pt_16_4.den) (k : Exit → St → Option R), iter 2 lv_16_4 lo_16_4 (aexec TT (E_16 (R := R) N) (drawAny TT WW) (L_16 N) (loopAt 4 (bodyOf Try.f16))) n (pt_16_4.inst x) k = l_16_4 N n x (fun y => k .ret (px_16_4_0.inst y)) (fun y => k (.exit 0) (px_16_4_1.inst y)) :=
  iter_eq (K := Exit → St → Option R) (ks := fun k => k) (l := fun n (x : pt_16_4.den) k => l_16_4 N n x (fun y => k .ret (px_16_4_0.inst y)) (fun y => k (.exit 0) (px_16_4_1.inst y))) (B := fun (rec : pt_16_4.den → Option R) (x : pt_16_4.den) k => B_16_4 N rec x (fun y => k .ret (px_16_4_0.inst y)) (fun y => k (.exit 0) (px_16_4_1.inst y))) (fun _ _ => rfl) (fun _ _ _ => rfl) (fun n x k => step_16_4 N n x k)
theorem rounds_16_4 {R : Type} (N : Nat) : Rounds 2 TT (E_16 (R := R) N) (drawAny TT WW) (L_16 N) 4 (loopAt 4 (bodyOf Try.f16)) :=
  rounds_of (p := pt_16_4) (l := fun (x : pt_16_4.den) k => l_16_4 N N x (fun y => k .ret (px_16_4_0.inst y)) (fun y => k (.exit 0) (px_16_4_1.inst y))) (fun s k => rfl) (fun x k => eq_16_4 N N x k)
theorem loops_16 : loopsIn (bodyOf Try.f16) = [(4, loopAt 4 (bodyOf Try.f16)), (9, loopAt 9 (bodyOf Try.f16))] := by kernel_rfl
theorem lok_16 {R : Type} (N : Nat) : LOK 2 TT (E_16 (R := R) N) (drawAny TT WW) (L_16 N) (bodyOf Try.f16) := loops_all loops_16 (by
  simp only [List.forall_mem_cons, List.not_mem_nil, false_implies, implies_true, and_true]
  exact ⟨rounds_16_4 N, rounds_16_9 N⟩)
theorem grun_16 {R : Type} (m_16_9 : Tl_16_9 R) (m_16_4 : Tl_16_4 R) (x : aden ap_16 × hden hp_16) (k : KF R) : fnrun TT (EG_16) (drawAny TT WW) (LG_16 m_16_9 m_16_4) true Try.f16 (instA ap_16 x.1) (instH hp_16 x.2) k = Q_16 m_16_9 m_16_4 x (fun y => k (Pat.inst (.bool) y.1) (instH [some (.fam 29 (.arr 128 (.int .u64)), 52), some (.fam 29 (.arr 128 (.int .u64)), 52)] y.2)) := by kernel_rfl
theorem run_16 {R : Type} (N : Nat) (x : aden ap_16 × hden hp_16) (k : KF R) : fnrun TT (E_16 (R := R) N) (drawAny TT WW) (L_16 N) true Try.f16 (instA ap_16 x.1) (instH hp_16 x.2) k = p_16 N x (fun y => k (Pat.inst (.bool) y.1) (instH [some (.fam 29 (.arr 128 (.int .u64)), 52), some (.fam 29 (.arr 128 (.int .u64)), 52)] y.2)) := (grun_16 (l_16_9 N N) (l_16_4 N N) x k).trans (by kernel_rfl)
theorem good_16 {R : Type} (N : Nat) : GD (X := R) Try.prog QQ AA 16 ap_16 hp_16 (fun (x : aden ap_16 × hden hp_16) k => p_16 N x (fun y => k (Pat.inst (.bool) y.1) (instH [some (.fam 29 (.arr 128 (.int .u64)), 52), some (.fam 29 (.arr 128 (.int .u64)), 52)] y.2))) :=
  gd_loud (E := E_16 N) (p := fun (x : aden ap_16 × hden hp_16) k => p_16 N x (fun y => k (Pat.inst (.bool) y.1) (instH [some (.fam 29 (.arr 128 (.int .u64)), 52), some (.fam 29 (.arr 128 (.int .u64)), 52)] y.2))) mixed tyok (eok_16 N) Try.func16 (by kernel_rfl) (by kernel_rfl) (by kernel_rfl) (by kernel_rfl) (lok_16 N) (fun x k => run_16 N x k)

def lv_3_14 : Live := [(12, none), (13, none), (72, none), (73, none), (74, none)]
def pt_3_14 : SPat := ⟨[(12, .ptr 0 []), (13, .sl 4), (72, .ros (.stru (.fcons (.int .i64) (.fcons (.int .i64) (.fcons (.int .u64) (.fnil)))))), (73, .int .i64), (74, .int .i64)], [some (.node (.fcons (.ptr 1 []) (.fcons (.node (.fcons (.int .i64) (.fcons (.int .i64) (.fcons (.int .i64) (.fcons (.int .i64) (.fcons (.int .i64) (.fcons (.int .i64) (.fcons (.int .i64) (.fcons (.int .i64) (.fnil)))))))))) (.fnil))), 49), some (.node (.fcons (.ptr 2 []) (.fcons (.sl 3) (.fcons (.bool) (.fnil)))), 147), some (.node (.fcons (.int .i64) (.fcons (.int .i64) (.fcons (.int .i64) (.fcons (.int .i64) (.fnil))))), 145), some (.lst (.arr 128 (.int .u64)), 29), some (.fam 29 (.arr 128 (.int .u64)), 52)]⟩
def px_3_14_0 : SPat := ⟨[(4, .bool)], []⟩
def px_3_14_1 : SPat := ⟨[(12, .ptr 0 []), (13, .sl 4)], [some (.node (.fcons (.ptr 1 []) (.fcons (.node (.fcons (.int .i64) (.fcons (.int .i64) (.fcons (.int .i64) (.fcons (.int .i64) (.fcons (.int .i64) (.fcons (.int .i64) (.fcons (.int .i64) (.fcons (.int .i64) (.fnil)))))))))) (.fnil))), 49), some (.node (.fcons (.ptr 2 []) (.fcons (.sl 3) (.fcons (.bool) (.fnil)))), 147), some (.node (.fcons (.int .i64) (.fcons (.int .i64) (.fcons (.int .i64) (.fcons (.int .i64) (.fnil))))), 145), some (.lst (.arr 128 (.int .u64)), 29), some (.fam 29 (.arr 128 (.int .u64)), 52)]⟩
def lo_3_14 : Exit → Live
  | .ret => [(4, none)]
  | .exit 0 => [(12, none), (13, none)]
  | _ => []
def B_3_14 {R : Type} (N : Nat) (rec : ((Unit × Unit × (List (Int × (Int × (Int × Unit)))) × Int × Int × Unit) × ((Unit × ((Int × (Int × (Int × (Int × (Int × (Int × (Int × (Int × Unit)))))))) × Unit)) × (Unit × (Unit × (Bool × Unit))) × (Int × (Int × (Int × (Int × Unit)))) × (List (Nat → Int)) × (List (List (Nat → Int))) × Unit)) → Option R) (x : ((Unit × Unit × (List (Int × (Int × (Int × Unit)))) × Int × Int × Unit) × ((Unit × ((Int × (Int × (Int × (Int × (Int × (Int × (Int × (Int × Unit)))))))) × Unit)) × (Unit × (Unit × (Bool × Unit))) × (Int × (Int × (Int × (Int × Unit)))) × (List (Nat → Int)) × (List (List (Nat → Int))) × Unit))) (κ0 : ((Bool × Unit) × (Unit)) → Option R) (κ1 : ((Unit × Unit × Unit) × ((Unit × ((Int × (Int × (Int × (Int × (Int × (Int × (Int × (Int × Unit)))))))) × Unit)) × (Unit × (Unit × (Bool × Unit))) × (Int × (Int × (Int × (Int × Unit)))) × (List (Nat → Int)) × (List (List (Nat → Int))) × Unit)) → Option R) : Option R :=
let l598 : (List (Int × (Int × (Int × Unit)))) := x.1.2.2.1
let i599 : Int := x.1.2.2.2.1
let i600 : Int := x.1.2.2.2.2.1
let i601 : Int := x.2.1.2.1.1
let i602 : Int := x.2.1.2.1.2.1
let i603 : Int := x.2.1.2.1.2.2.1
let i604 : Int := x.2.1.2.1.2.2.2.1
let i605 : Int := x.2.1.2.1.2.2.2.2.1
let i606 : Int := x.2.1.2.1.2.2.2.2.2.1
let i607 : Int := x.2.1.2.1.2.2.2.2.2.2.1
let i608 : Int := x.2.1.2.1.2.2.2.2.2.2.2.1
let b609 : Bool := x.2.2.1.2.2.1
let i610 : Int := x.2.2.2.1.1
let i611 : Int := x.2.2.2.1.2.1
let i612 : Int := x.2.2.2.1.2.2.1
let i613 : Int := x.2.2.2.1.2.2.2.1
let l614 : (List (Nat → Int)) := x.2.2.2.2.1
let r615 : (List (List (Nat → Int))) := x.2.2.2.2.2.1
bif (decide (i600 < i599)) then (
bif decide (0 ≤ i600) then (
bif decide (i600 < ((List.length l598) : Int)) then (
let p616 : (Int × (Int × (Int × Unit))) := (List.getD l598 ((Int.toNat i600)) (Sch.zero (.stru (.fcons (.int .i64) (.fcons (.int .i64) (.fcons (.int .u64) (.fnil)))))))
let a617 : (Nat → Int) := (upd ((Sch.zero (.arr 128 (.int .u64)))) 0 p616.2.2.1)
p_12_v1 N (((), (p616.1, (p616.2.1, ())), a617, ()), (((), ((i601, (i602, (i603, (i604, (i605, (i606, (i607, (i608, ())))))))), ())), ((), ((), (b609, ()))), (i610, (i611, (i612, (i613, ())))), l614, ())) (fun y699 =>
let i700 : Int := y699.1
let i701 : Int := y699.2.1.2.1.1
let i702 : Int := y699.2.1.2.1.2.1
let i703 : Int := y699.2.1.2.1.2.2.1
let i704 : Int := y699.2.1.2.1.2.2.2.1
let i705 : Int := y699.2.1.2.1.2.2.2.2.1
let i706 : Int := y699.2.1.2.1.2.2.2.2.2.1
let i707 : Int := y699.2.1.2.1.2.2.2.2.2.2.1
let i708 : Int := y699.2.1.2.1.2.2.2.2.2.2.2.1
let b709 : Bool := y699.2.2.1.2.2.1
let i710 : Int := y699.2.2.2.1.1
let i711 : Int := y699.2.2.2.1.2.1
let i712 : Int := y699.2.2.2.1.2.2.1
let i713 : Int := y699.2.2.2.1.2.2.2.1
let l714 : (List (Nat → Int)) := y699.2.2.2.2.1
bif (decide (p616.1 < 0)) then (
bif (i700 != 11) then (
κ0 ((false, ()), ())) else (
let i715 : Int := addA .i64 i600 1
rec (((), (), l598, i599, i715, ()), (((), ((i701, (i702, (i703, (i704, (i705, (i706, (i707, (i708, ())))))))), ())), ((), ((), (b709, ()))), (i710, (i711, (i712, (i713, ())))), l714, r615, ())))) else (
bif (decide (p616.1 ≥ i703)) then (
bif (i700 != 11) then (
κ0 ((false, ()), ())) else (
let i716 : Int := addA .i64 i600 1
rec (((), (), l598, i599, i716, ()), (((), ((i701, (i702, (i703, (i704, (i705, (i706, (i707, (i708, ())))))))), ())), ((), ((), (b709, ()))), (i710, (i711, (i712, (i713, ())))), l714, r615, ())))) else (
bif (decide (p616.2.1 < 0)) then (
bif (i700 != 11) then (
κ0 ((false, ()), ())) else (
let i717 : Int := addA .i64 i600 1
rec (((), (), l598, i599, i717, ()), (((), ((i701, (i702, (i703, (i704, (i705, (i706, (i707, (i708, ())))))))), ())), ((), ((), (b709, ()))), (i710, (i711, (i712, (i713, ())))), l714, r615, ())))) else (
bif (decide (p616.2.1 ≥ i706)) then (
bif (i700 != 11) then (
κ0 ((false, ()), ())) else (
let i718 : Int := addA .i64 i600 1
rec (((), (), l598, i599, i718, ()), (((), ((i701, (i702, (i703, (i704, (i705, (i706, (i707, (i708, ())))))))), ())), ((), ((), (b709, ()))), (i710, (i711, (i712, (i713, ())))), l714, r615, ())))) else (
bif decide (0 ≤ p616.1) then (
bif decide (p616.1 < ((List.length r615) : Int)) then (
bif decide (0 ≤ p616.2.1) then (
bif decide (p616.2.1 < ((List.length ((List.getD r615 ((Int.toNat p616.1)) []))) : Int)) then (
let r719 : (List (List (Nat → Int))) := (List.set r615 ((Int.toNat p616.1)) ((List.set ((List.getD r615 ((Int.toNat p616.1)) [])) ((Int.toNat p616.2.1)) a617)))
bif (i700 != 0) then (
κ0 ((false, ()), ())) else (
let i720 : Int := addA .i64 i600 1
rec (((), (), l598, i599, i720, ()), (((), ((i701, (i702, (i703, (i704, (i705, (i706, (i707, (i708, ())))))))), ())), ((), ((), (b709, ()))), (i710, (i711, (i712, (i713, ())))), l714, r719, ())))) else none) else none) else none) else none)))))) else none) else none) else (
κ1 (((), (), ()), (((), ((i601, (i602, (i603, (i604, (i605, (i606, (i607, (i608, ())))))))), ())), ((), ((), (b609, ()))), (i610, (i611, (i612, (i613, ())))), l614, r615, ())))
def l_3_14 {R : Type} (N : Nat) : Nat → ((Unit × Unit × (List (Int × (Int × (Int × Unit)))) × Int × Int × Unit) × ((Unit × ((Int × (Int × (Int × (Int × (Int × (Int × (Int × (Int × Unit)))))))) × Unit)) × (Unit × (Unit × (Bool × Unit))) × (Int × (Int × (Int × (Int × Unit)))) × (List (Nat → Int)) × (List (List (Nat → Int))) × Unit)) → (((Bool × Unit) × (Unit)) → Option R) → (((Unit × Unit × Unit) × ((Unit × ((Int × (Int × (Int × (Int × (Int × (Int × (Int × (Int × Unit)))))))) × Unit)) × (Unit × (Unit × (Bool × Unit))) × (Int × (Int × (Int × (Int × Unit)))) × (List (Nat → Int)) × (List (List (Nat → Int))) × Unit)) → Option R) → Option R
  | 0, _, _, _ => none
  | n + 1, x, κ0, κ1 => B_3_14 N (fun y => l_3_14 N n y κ0 κ1) x κ0 κ1
def ap_3 : List Pat := [.node (.fcons (.int .i64) (.fcons (.int .i64) (.fcons (.int .i64) (.fcons (.int .i64) (.fcons (.int .i64) (.fnil)))))), .ros (.stru (.fcons (.int .i64) (.fcons (.int .i64) (.fcons (.int .u64) (.fnil)))))]
def hp_3 : List (Option (Pat × Nat)) := []
def p_3 {R : Type} (N : Nat) (x : ((Int × (Int × (Int × (Int × (Int × Unit))))) × (List (Int × (Int × (Int × Unit)))) × Unit) × (Unit)) (κ0 : (Bool × (Unit)) → Option R) : Option R :=
let i1 : Int := x.1.1.1
let i2 : Int := x.1.1.2.1
let i3 : Int := x.1.1.2.2.1
let i4 : Int := x.1.1.2.2.2.1
let i5 : Int := x.1.1.2.2.2.2.1
let l6 : (List (Int × (Int × (Int × Unit)))) := x.1.2.1
p_8 N ((), ()) (fun y432 =>
let b433 : Bool := y432
bif (!b433) then (
κ0 (false, ())) else (
p_9 N (((), (0, (0, ())), ()), ()) (fun y441 =>
let a442 : (Nat → Int) := y441.1
let i443 : Int := y441.2.1
p_10 N (((), ()), ()) (fun y445 =>
let a446 : (Nat → Int) := y445.1
let i447 : Int := y445.2.1
p_11 N (((), ()), ()) (fun y451 =>
let s452 : ByteArray := y451.1
let i453 : Int := y451.2.1
bif (i443 != 11) then (
κ0 (false, ())) else (
bif (i447 != 11) then (
κ0 (false, ())) else (
bif (i453 != 11) then (
κ0 (false, ())) else (
let a454 : (Nat → Int) := (Sch.zero (.arr 128 (.int .u64)))
p_12 N (((), (0, (0, ())), a454, ()), ()) (fun y460 =>
let i461 : Int := y460.1
bif (i461 != 11) then (
κ0 (false, ())) else (
p_13 N (((), ⟨#[]⟩, ()), ()) (fun y463 =>
let i464 : Int := y463
bif (i464 != 11) then (
κ0 (false, ())) else (
p_14 N (((i1, (i2, (i3, (i4, (i5, ()))))), ()), ()) (fun y542 =>
κ0 (true, ())) (fun y543 =>
let i544 : Int := y543.2.1.2.1.1
let i545 : Int := y543.2.1.2.1.2.1
let i546 : Int := y543.2.1.2.1.2.2.1
let i547 : Int := y543.2.1.2.1.2.2.2.1
let i548 : Int := y543.2.1.2.1.2.2.2.2.1
let i549 : Int := y543.2.1.2.1.2.2.2.2.2.1
let i550 : Int := y543.2.1.2.1.2.2.2.2.2.2.1
let i551 : Int := y543.2.1.2.1.2.2.2.2.2.2.2.1
let b552 : Bool := y543.2.2.1.2.2.1
let i553 : Int := y543.2.2.2.1.1
let i554 : Int := y543.2.2.2.1.2.1
let i555 : Int := y543.2.2.2.1.2.2.1
let i556 : Int := y543.2.2.2.1.2.2.2.1
let l557 : (List (Nat → Int)) := y543.2.2.2.2.1
let i558 : Int := (((List.length l6) : Nat) : Int)
bif (decide (i558 > 50)) then (
κ0 (true, ())) else (
p_15 N (((i544, (i545, (i546, (i547, (i548, (i549, (i550, (i551, ())))))))), ()), ()) (fun y595 =>
let r596 : (List (List (Nat → Int))) := y595.2.1
let i597 : Int := (((List.length l6) : Nat) : Int)
l_3_14 N N (((), (), l6, i597, 0, ()), (((), ((i544, (i545, (i546, (i547, (i548, (i549, (i550, (i551, ())))))))), ())), ((), ((), (b552, ()))), (i553, (i554, (i555, (i556, ())))), l557, r596, ())) (fun y721 =>
let b722 : Bool := y721.1.1
κ0 (b722, ())) (fun y723 =>
let i724 : Int := y723.2.1.2.1.1
let i725 : Int := y723.2.1.2.1.2.1
let i726 : Int := y723.2.1.2.1.2.2.1
let i727 : Int := y723.2.1.2.1.2.2.2.1
let i728 : Int := y723.2.1.2.1.2.2.2.2.1
let i729 : Int := y723.2.1.2.1.2.2.2.2.2.1
let i730 : Int := y723.2.1.2.1.2.2.2.2.2.2.1
let i731 : Int := y723.2.1.2.1.2.2.2.2.2.2.2.1
let b732 : Bool := y723.2.2.1.2.2.1
let i733 : Int := y723.2.2.2.1.1
let i734 : Int := y723.2.2.2.1.2.1
let i735 : Int := y723.2.2.2.1.2.2.1
let i736 : Int := y723.2.2.2.1.2.2.2.1
let l737 : (List (Nat → Int)) := y723.2.2.2.2.1
let r738 : (List (List (Nat → Int))) := y723.2.2.2.2.2.1
p_17 N (((), ()), (((), ((i724, (i725, (i726, (i727, (i728, (i729, (i730, (i731, ())))))))), ())), ((), ((), (b732, ()))), (i733, (i734, (i735, (i736, ())))), l737, ())) (fun y856 =>
let i857 : Int := y856.2.1.2.1.1
let i858 : Int := y856.2.1.2.1.2.1
let i859 : Int := y856.2.1.2.1.2.2.1
let i860 : Int := y856.2.1.2.1.2.2.2.1
let i861 : Int := y856.2.1.2.1.2.2.2.2.1
let i862 : Int := y856.2.1.2.1.2.2.2.2.2.1
let i863 : Int := y856.2.1.2.1.2.2.2.2.2.2.1
let i864 : Int := y856.2.1.2.1.2.2.2.2.2.2.2.1
let b865 : Bool := y856.2.2.1.2.2.1
let i866 : Int := y856.2.2.2.1.1
let i867 : Int := y856.2.2.2.1.2.1
let i868 : Int := y856.2.2.2.1.2.2.1
let i869 : Int := y856.2.2.2.1.2.2.2.1
let l870 : (List (Nat → Int)) := y856.2.2.2.2.1
let r871 : (List (List (Nat → Int))) := y856.2.2.2.2.2.1
p_16 N (((), (), ()), (r871, r738, ())) (fun y906 =>
let b907 : Bool := y906.1
let r908 : (List (List (Nat → Int))) := y906.2.1
let r909 : (List (List (Nat → Int))) := y906.2.2.1
κ0 (b907, ())))))))))))))))))))

abbrev Tl_3_14 (R : Type) : Type := ((Unit × Unit × (List (Int × (Int × (Int × Unit)))) × Int × Int × Unit) × ((Unit × ((Int × (Int × (Int × (Int × (Int × (Int × (Int × (Int × Unit)))))))) × Unit)) × (Unit × (Unit × (Bool × Unit))) × (Int × (Int × (Int × (Int × Unit)))) × (List (Nat → Int)) × (List (List (Nat → Int))) × Unit)) → (((Bool × Unit) × (Unit)) → Option R) → (((Unit × Unit × Unit) × ((Unit × ((Int × (Int × (Int × (Int × (Int × (Int × (Int × (Int × Unit)))))))) × Unit)) × (Unit × (Unit × (Bool × Unit))) × (Int × (Int × (Int × (Int × Unit)))) × (List (Nat → Int)) × (List (List (Nat → Int))) × Unit)) → Option R) → Option R
abbrev Tp_3 (R : Type) : Type := ((Int × (Int × (Int × (Int × (Int × Unit))))) × (List (Int × (Int × (Int × Unit)))) × Unit) × (Unit) → ((Bool × (Unit)) → Option R) → Option R
def Q_3 {R : Type} (q_8 : Tp_8 R) (q_9 : Tp_9 R) (q_10 : Tp_10 R) (q_11 : Tp_11 R) (q_12 : Tp_12 R) (q_13 : Tp_13 R) (q_14 : Tp_14 R) (q_15 : Tp_15 R) (q_17 : Tp_17 R) (q_16 : Tp_16 R) (q_12_v1 : Tp_12_v1 R) (m_3_14 : Tl_3_14 R) (x : ((Int × (Int × (Int × (Int × (Int × Unit))))) × (List (Int × (Int × (Int × Unit)))) × Unit) × (Unit)) (κ0 : (Bool × (Unit)) → Option R) : Option R :=
let i1 : Int := x.1.1.1
let i2 : Int := x.1.1.2.1
let i3 : Int := x.1.1.2.2.1
let i4 : Int := x.1.1.2.2.2.1
let i5 : Int := x.1.1.2.2.2.2.1
let l6 : (List (Int × (Int × (Int × Unit)))) := x.1.2.1
q_8 ((), ()) (fun y432 =>
let b433 : Bool := y432
bif (!b433) then (
κ0 (false, ())) else (
q_9 (((), (0, (0, ())), ()), ()) (fun y441 =>
let a442 : (Nat → Int) := y441.1
let i443 : Int := y441.2.1
q_10 (((), ()), ()) (fun y445 =>
let a446 : (Nat → Int) := y445.1
let i447 : Int := y445.2.1
q_11 (((), ()), ()) (fun y451 =>
let s452 : ByteArray := y451.1
let i453 : Int := y451.2.1
bif (i443 != 11) then (
κ0 (false, ())) else (
bif (i447 != 11) then (
κ0 (false, ())) else (
bif (i453 != 11) then (
κ0 (false, ())) else (
let a454 : (Nat → Int) := (Sch.zero (.arr 128 (.int .u64)))
q_12 (((), (0, (0, ())), a454, ()), ()) (fun y460 =>
let i461 : Int := y460.1
bif (i461 != 11) then (
κ0 (false, ())) else (
q_13 (((), ⟨#[]⟩, ()), ()) (fun y463 =>
let i464 : Int := y463
bif (i464 != 11) then (
κ0 (false, ())) else (
q_14 (((i1, (i2, (i3, (i4, (i5, ()))))), ()), ()) (fun y542 =>
κ0 (true, ())) (fun y543 =>
let i544 : Int := y543.2.1.2.1.1
let i545 : Int := y543.2.1.2.1.2.1
let i546 : Int := y543.2.1.2.1.2.2.1
let i547 : Int := y543.2.1.2.1.2.2.2.1
let i548 : Int := y543.2.1.2.1.2.2.2.2.1
let i549 : Int := y543.2.1.2.1.2.2.2.2.2.1
let i550 : Int := y543.2.1.2.1.2.2.2.2.2.2.1
let i551 : Int := y543.2.1.2.1.2.2.2.2.2.2.2.1
let b552 : Bool := y543.2.2.1.2.2.1
let i553 : Int := y543.2.2.2.1.1
let i554 : Int := y543.2.2.2.1.2.1
let i555 : Int := y543.2.2.2.1.2.2.1
let i556 : Int := y543.2.2.2.1.2.2.2.1
let l557 : (List (Nat → Int)) := y543.2.2.2.2.1
let i558 : Int := (((List.length l6) : Nat) : Int)
bif (decide (i558 > 50)) then (
κ0 (true, ())) else (
q_15 (((i544, (i545, (i546, (i547, (i548, (i549, (i550, (i551, ())))))))), ()), ()) (fun y595 =>
let r596 : (List (List (Nat → Int))) := y595.2.1
let i597 : Int := (((List.length l6) : Nat) : Int)
m_3_14 (((), (), l6, i597, 0, ()), (((), ((i544, (i545, (i546, (i547, (i548, (i549, (i550, (i551, ())))))))), ())), ((), ((), (b552, ()))), (i553, (i554, (i555, (i556, ())))), l557, r596, ())) (fun y721 =>
let b722 : Bool := y721.1.1
κ0 (b722, ())) (fun y723 =>
let i724 : Int := y723.2.1.2.1.1
let i725 : Int := y723.2.1.2.1.2.1
let i726 : Int := y723.2.1.2.1.2.2.1
let i727 : Int := y723.2.1.2.1.2.2.2.1
let i728 : Int := y723.2.1.2.1.2.2.2.2.1
let i729 : Int := y723.2.1.2.1.2.2.2.2.2.1
let i730 : Int := y723.2.1.2.1.2.2.2.2.2.2.1
let i731 : Int := y723.2.1.2.1.2.2.2.2.2.2.2.1
let b732 : Bool := y723.2.2.1.2.2.1
let i733 : Int := y723.2.2.2.1.1
let i734 : Int := y723.2.2.2.1.2.1
let i735 : Int := y723.2.2.2.1.2.2.1
let i736 : Int := y723.2.2.2.1.2.2.2.1
let l737 : (List (Nat → Int)) := y723.2.2.2.2.1
let r738 : (List (List (Nat → Int))) := y723.2.2.2.2.2.1
q_17 (((), ()), (((), ((i724, (i725, (i726, (i727, (i728, (i729, (i730, (i731, ())))))))), ())), ((), ((), (b732, ()))), (i733, (i734, (i735, (i736, ())))), l737, ())) (fun y856 =>
let i857 : Int := y856.2.1.2.1.1
let i858 : Int := y856.2.1.2.1.2.1
let i859 : Int := y856.2.1.2.1.2.2.1
let i860 : Int := y856.2.1.2.1.2.2.2.1
let i861 : Int := y856.2.1.2.1.2.2.2.2.1
let i862 : Int := y856.2.1.2.1.2.2.2.2.2.1
let i863 : Int := y856.2.1.2.1.2.2.2.2.2.2.1
let i864 : Int := y856.2.1.2.1.2.2.2.2.2.2.2.1
let b865 : Bool := y856.2.2.1.2.2.1
let i866 : Int := y856.2.2.2.1.1
let i867 : Int := y856.2.2.2.1.2.1
let i868 : Int := y856.2.2.2.1.2.2.1
let i869 : Int := y856.2.2.2.1.2.2.2.1
let l870 : (List (Nat → Int)) := y856.2.2.2.2.1
let r871 : (List (List (Nat → Int))) := y856.2.2.2.2.2.1
q_16 (((), (), ()), (r871, r738, ())) (fun y906 =>
let b907 : Bool := y906.1
let r908 : (List (List (Nat → Int))) := y906.2.1
let r909 : (List (List (Nat → Int))) := y906.2.2.1
κ0 (b907, ())))))))))))))))))))
def C_3_14 {R : Type} (q_8 : Tp_8 R) (q_9 : Tp_9 R) (q_10 : Tp_10 R) (q_11 : Tp_11 R) (q_12 : Tp_12 R) (q_13 : Tp_13 R) (q_14 : Tp_14 R) (q_15 : Tp_15 R) (q_17 : Tp_17 R) (q_16 : Tp_16 R) (q_12_v1 : Tp_12_v1 R) (m_3_14 : Tl_3_14 R) (rec : ((Unit × Unit × (List (Int × (Int × (Int × Unit)))) × Int × Int × Unit) × ((Unit × ((Int × (Int × (Int × (Int × (Int × (Int × (Int × (Int × Unit)))))))) × Unit)) × (Unit × (Unit × (Bool × Unit))) × (Int × (Int × (Int × (Int × Unit)))) × (List (Nat → Int)) × (List (List (Nat → Int))) × Unit)) → Option R) (x : ((Unit × Unit × (List (Int × (Int × (Int × Unit)))) × Int × Int × Unit) × ((Unit × ((Int × (Int × (Int × (Int × (Int × (Int × (Int × (Int × Unit)))))))) × Unit)) × (Unit × (Unit × (Bool × Unit))) × (Int × (Int × (Int × (Int × Unit)))) × (List (Nat → Int)) × (List (List (Nat → Int))) × Unit))) (κ0 : ((Bool × Unit) × (Unit)) → Option R) (κ1 : ((Unit × Unit × Unit) × ((Unit × ((Int × (Int × (Int × (Int × (Int × (Int × (Int × (Int × Unit)))))))) × Unit)) × (Unit × (Unit × (Bool × Unit))) × (Int × (Int × (Int × (Int × Unit)))) × (List (Nat → Int)) × (List (List (Nat → Int))) × Unit)) → Option R) : Option R :=
let l598 : (List (Int × (Int × (Int × Unit)))) := x.1.2.2.1
let i599 : Int := x.1.2.2.2.1
let i600 : Int := x.1.2.2.2.2.1
let i601 : Int := x.2.1.2.1.1
let i602 : Int := x.2.1.2.1.2.1
let i603 : Int := x.2.1.2.1.2.2.1
let i604 : Int := x.2.1.2.1.2.2.2.1
let i605 : Int := x.2.1.2.1.2.2.2.2.1
let i606 : Int := x.2.1.2.1.2.2.2.2.2.1
let i607 : Int := x.2.1.2.1.2.2.2.2.2.2.1
let i608 : Int := x.2.1.2.1.2.2.2.2.2.2.2.1
let b609 : Bool := x.2.2.1.2.2.1
let i610 : Int := x.2.2.2.1.1
let i611 : Int := x.2.2.2.1.2.1
let i612 : Int := x.2.2.2.1.2.2.1
let i613 : Int := x.2.2.2.1.2.2.2.1
let l614 : (List (Nat → Int)) := x.2.2.2.2.1
let r615 : (List (List (Nat → Int))) := x.2.2.2.2.2.1
bif (decide (i600 < i599)) then (
bif decide (0 ≤ i600) then (
bif decide (i600 < ((List.length l598) : Int)) then (
let p616 : (Int × (Int × (Int × Unit))) := (List.getD l598 ((Int.toNat i600)) (Sch.zero (.stru (.fcons (.int .i64) (.fcons (.int .i64) (.fcons (.int .u64) (.fnil)))))))
let a617 : (Nat → Int) := (upd ((Sch.zero (.arr 128 (.int .u64)))) 0 p616.2.2.1)
q_12_v1 (((), (p616.1, (p616.2.1, ())), a617, ()), (((), ((i601, (i602, (i603, (i604, (i605, (i606, (i607, (i608, ())))))))), ())), ((), ((), (b609, ()))), (i610, (i611, (i612, (i613, ())))), l614, ())) (fun y699 =>
let i700 : Int := y699.1
let i701 : Int := y699.2.1.2.1.1
let i702 : Int := y699.2.1.2.1.2.1
let i703 : Int := y699.2.1.2.1.2.2.1
let i704 : Int := y699.2.1.2.1.2.2.2.1
let i705 : Int := y699.2.1.2.1.2.2.2.2.1
let i706 : Int := y699.2.1.2.1.2.2.2.2.2.1
let i707 : Int := y699.2.1.2.1.2.2.2.2.2.2.1
let i708 : Int := y699.2.1.2.1.2.2.2.2.2.2.2.1
let b709 : Bool := y699.2.2.1.2.2.1
let i710 : Int := y699.2.2.2.1.1
let i711 : Int := y699.2.2.2.1.2.1
let i712 : Int := y699.2.2.2.1.2.2.1
let i713 : Int := y699.2.2.2.1.2.2.2.1
let l714 : (List (Nat → Int)) := y699.2.2.2.2.1
bif (decide (p616.1 < 0)) then (
bif (i700 != 11) then (
κ0 ((false, ()), ())) else (
let i715 : Int := addA .i64 i600 1
rec (((), (), l598, i599, i715, ()), (((), ((i701, (i702, (i703, (i704, (i705, (i706, (i707, (i708, ())))))))), ())), ((), ((), (b709, ()))), (i710, (i711, (i712, (i713, ())))), l714, r615, ())))) else (
bif (decide (p616.1 ≥ i703)) then (
bif (i700 != 11) then (
κ0 ((false, ()), ())) else (
let i716 : Int := addA .i64 i600 1
rec (((), (), l598, i599, i716, ()), (((), ((i701, (i702, (i703, (i704, (i705, (i706, (i707, (i708, ())))))))), ())), ((), ((), (b709, ()))), (i710, (i711, (i712, (i713, ())))), l714, r615, ())))) else (
bif (decide (p616.2.1 < 0)) then (
bif (i700 != 11) then (
κ0 ((false, ()), ())) else (
let i717 : Int := addA .i64 i600 1
rec (((), (), l598, i599, i717, ()), (((), ((i701, (i702, (i703, (i704, (i705, (i706, (i707, (i708, ())))))))), ())), ((), ((), (b709, ()))), (i710, (i711, (i712, (i713, ())))), l714, r615, ())))) else (
bif (decide (p616.2.1 ≥ i706)) then (
bif (i700 != 11) then (
κ0 ((false, ()), ())) else (
let i718 : Int := addA .i64 i600 1
rec (((), (), l598, i599, i718, ()), (((), ((i701, (i702, (i703, (i704, (i705, (i706, (i707, (i708, ())))))))), ())), ((), ((), (b709, ()))), (i710, (i711, (i712, (i713, ())))), l714, r615, ())))) else (
bif decide (0 ≤ p616.1) then (
bif decide (p616.1 < ((List.length r615) : Int)) then (
bif decide (0 ≤ p616.2.1) then (
bif decide (p616.2.1 < ((List.length ((List.getD r615 ((Int.toNat p616.1)) []))) : Int)) then (
let r719 : (List (List (Nat → Int))) := (List.set r615 ((Int.toNat p616.1)) ((List.set ((List.getD r615 ((Int.toNat p616.1)) [])) ((Int.toNat p616.2.1)) a617)))
bif (i700 != 0) then (
κ0 ((false, ()), ())) else (
let i720 : Int := addA .i64 i600 1
rec (((), (), l598, i599, i720, ()), (((), ((i701, (i702, (i703, (i704, (i705, (i706, (i707, (i708, ())))))))), ())), ((), ((), (b709, ()))), (i710, (i711, (i712, (i713, ())))), l714, r719, ())))) else none) else none) else none) else none)))))) else none) else none) else (
κ1 (((), (), ()), (((), ((i601, (i602, (i603, (i604, (i605, (i606, (i607, (i608, ())))))))), ())), ((), ((), (b609, ()))), (i610, (i611, (i612, (i613, ())))), l614, r615, ())))
def EG_3 {R : Type} (q_8 : Tp_8 R) (q_9 : Tp_9 R) (q_10 : Tp_10 R) (q_11 : Tp_11 R) (q_12 : Tp_12 R) (q_13 : Tp_13 R) (q_14 : Tp_14 R) (q_15 : Tp_15 R) (q_17 : Tp_17 R) (q_16 : Tp_16 R) (q_12_v1 : Tp_12_v1 R) : Env R := (((((((((((Env.base QQ LN AA).add 8 ap_8 hp_8 (fun (x : aden ap_8 × hden hp_8) k => q_8 x (fun y => k (Pat.inst (.bool) y) (instH hp_8 x.2)))).add 9 ap_9 hp_9 (fun (x : aden ap_9 × hden hp_9) k => q_9 x (fun y => k (Pat.inst (.tup (.fcons (.vec (.int .u64) 128) (.fcons (.int .i64) (.fnil)))) y) (instH hp_9 x.2)))).add 10 ap_10 hp_10 (fun (x : aden ap_10 × hden hp_10) k => q_10 x (fun y => k (Pat.inst (.tup (.fcons (.vec (.int .u64) 128) (.fcons (.int .i64) (.fnil)))) y) (instH hp_10 x.2)))).add 11 ap_11 hp_11 (fun (x : aden ap_11 × hden hp_11) k => q_11 x (fun y => k (Pat.inst (.tup (.fcons (.str) (.fcons (.int .i64) (.fnil)))) y) (instH hp_11 x.2)))).add 12 ap_12 hp_12 (fun (x : aden ap_12 × hden hp_12) k => q_12 x (fun y => k (Pat.inst (.int .i64) y.1) (instH [] y.2)))).add 13 ap_13 hp_13 (fun (x : aden ap_13 × hden hp_13) k => q_13 x (fun y => k (Pat.inst (.int .i64) y) (instH hp_13 x.2)))).add 14 ap_14 hp_14 (fun (x : aden ap_14 × hden hp_14) k => q_14 x (fun y => k (Pat.inst (.nilp) y.1) (instH [] y.2)) (fun y => k (Pat.inst (.ptr 0 []) y.1) (instH [some (.node (.fcons (.ptr 1 []) (.fcons (.node (.fcons (.int .i64) (.fcons (.int .i64) (.fcons (.int .i64) (.fcons (.int .i64) (.fcons (.int .i64) (.fcons (.int .i64) (.fcons (.int .i64) (.fcons (.int .i64) (.fnil)))))))))) (.fnil))), 49), some (.node (.fcons (.ptr 2 []) (.fcons (.sl 3) (.fcons (.bool) (.fnil)))), 147), some (.node (.fcons (.int .i64) (.fcons (.int .i64) (.fcons (.int .i64) (.fcons (.int .i64) (.fnil))))), 145), some (.lst (.arr 128 (.int .u64)), 29)] y.2)))).add 15 ap_15 hp_15 (fun (x : aden ap_15 × hden hp_15) k => q_15 x (fun y => k (Pat.inst (.sl 0) y.1) (instH [some (.fam 29 (.arr 128 (.int .u64)), 52)] y.2)))).add 17 ap_17 hp_17 (fun (x : aden ap_17 × hden hp_17) k => q_17 x (fun y => k (Pat.inst (.sl 4) y.1) (instH [some (.node (.fcons (.ptr 1 []) (.fcons (.node (.fcons (.int .i64) (.fcons (.int .i64) (.fcons (.int .i64) (.fcons (.int .i64) (.fcons (.int .i64) (.fcons (.int .i64) (.fcons (.int .i64) (.fcons (.int .i64) (.fnil)))))))))) (.fnil))), 49), some (.node (.fcons (.ptr 2 []) (.fcons (.sl 3) (.fcons (.bool) (.fnil)))), 147), some (.node (.fcons (.int .i64) (.fcons (.int .i64) (.fcons (.int .i64) (.fcons (.int .i64) (.fnil))))), 145), some (.lst (.arr 128 (.int .u64)), 29), some (.fam 29 (.arr 128 (.int .u64)), 52)] y.2)))).add 16 ap_16 hp_16 (fun (x : aden ap_16 × hden hp_16) k => q_16 x (fun y => k (Pat.inst (.bool) y.1) (instH [some (.fam 29 (.arr 128 (.int .u64)), 52), some (.fam 29 (.arr 128 (.int .u64)), 52)] y.2)))).add 12 ap_12_v1 hp_12_v1 (fun (x : aden ap_12_v1 × hden hp_12_v1) k => q_12_v1 x (fun y => k (Pat.inst (.int .i64) y.1) (instH [some (.node (.fcons (.ptr 1 []) (.fcons (.node (.fcons (.int .i64) (.fcons (.int .i64) (.fcons (.int .i64) (.fcons (.int .i64) (.fcons (.int .i64) (.fcons (.int .i64) (.fcons (.int .i64) (.fcons (.int .i64) (.fnil)))))))))) (.fnil))), 49), some (.node (.fcons (.ptr 2 []) (.fcons (.sl 3) (.fcons (.bool) (.fnil)))), 147), some (.node (.fcons (.int .i64) (.fcons (.int .i64) (.fcons (.int .i64) (.fcons (.int .i64) (.fnil))))), 145), some (.lst (.arr 128 (.int .u64)), 29)] y.2)))
def LG_3 {R : Type} (m_3_14 : Tl_3_14 R) : Loops R := (Loops.none).add 14 (loopBy 0 lv_3_14 pt_3_14 (fun x k => m_3_14 x (fun y => k .ret (px_3_14_0.inst y)) (fun y => k (.exit 0) (px_3_14_1.inst y))))
def E_3 {R : Type} (N : Nat) : Env R := EG_3 (p_8 N) (p_9 N) (p_10 N) (p_11 N) (p_12 N) (p_13 N) (p_14 N) (p_15 N) (p_17 N) (p_16 N) (p_12_v1 N)
theorem eok_3 {R : Type} (N : Nat) : EK Try.prog (E_3 (R := R) N) := ek_add (ek_add (ek_add (ek_add (ek_add (ek_add (ek_add (ek_add (ek_add (ek_add (ek_add (ek_base _ _ _) (good_8 N)) (good_9 N)) (good_10 N)) (good_11 N)) (good_12 N)) (good_13 N)) (good_14 N)) (good_15 N)) (good_17 N)) (good_16 N)) (good_12_v1 N)
def L_3 {R : Type} (N : Nat) : Loops R := LG_3 (l_3_14 N N)
theorem gstep_3_14 {R : Type} (q_8 : Tp_8 R) (q_9 : Tp_9 R) (q_10 : Tp_10 R) (q_11 : Tp_11 R) (q_12 : Tp_12 R) (q_13 : Tp_13 R) (q_14 : Tp_14 R) (q_15 : Tp_15 R) (q_17 : Tp_17 R) (q_16 : Tp_16 R) (q_12_v1 : Tp_12_v1 R) (m_3_14 : Tl_3_14 R) (n : Nat) (x : pt_3_14.den) (k : Exit → St → Option R) : iter 0 lv_3_14 lo_3_14 (aexec TT (EG_3 q_8 q_9 q_10 q_11 q_12 q_13 q_14 q_15 q_17 q_16 q_12_v1) (drawAny TT WW) (LG_3 m_3_14) (loopAt 14 (bodyOf Try.f3))) (n + 1) (pt_3_14.inst x) k = C_3_14 q_8 q_9 q_10 q_11 q_12 q_13 q_14 q_15 q_17 q_16 q_12_v1 m_3_14 (fun y => iter 0 lv_3_14 lo_3_14 (aexec TT (EG_3 q_8 q_9 q_10 q_11 q_12 q_13 q_14 q_15 q_17 q_16 q_12_v1) (drawAny TT WW) (LG_3 m_3_14) (loopAt 14 (bodyOf Try.f3))) n (pt_3_14.inst y) k) x (fun y => k .ret (px_3_14_0.inst y)) (fun y => k (.exit 0) (px_3_14_1.inst y)) := by kernel_rfl
theorem step_3_14 {R : Type} (N n : Nat) (x : pt_3_14.den) (k : Exit → St → Option R) : iter 0 lv_3_14 lo_3_14 (aexec TT (E_3 (R := R) N) (drawAny TT WW) (L_3 N) (loopAt 14 (bodyOf Try.f3))) (n + 1) (pt_3_14.inst x) k = B_3_14 N (fun y => iter 0 lv_3_14 lo_3_14 (aexec TT (E_3 (R := R) N) (drawAny TT WW) (L_3 N) (loopAt 14 (bodyOf Try.f3))) n (pt_3_14.inst y) k) x (fun y => k .ret (px_3_14_0.inst y)) (fun y => k (.exit 0) (px_3_14_1.inst y)) := (gstep_3_14 (p_8 N) (p_9 N) (p_10 N) (p_11 N) (p_12 N) (p_13 N) (p_14 N) (p_15 N) (p_17 N) (p_16 N) (p_12_v1 N) (l_3_14 N N) n x k).trans (by kernel_rfl)
theorem eq_3_14 {R : Type} (N : Nat) : ∀ (n : Nat) (x : pt_3_14.den) (k : Exit → St → Option R), iter 0 lv_3_14 lo_3_14 (aexec TT (E_3 (R := R) N) (drawAny TT WW) (L_3 N) (loopAt 14 (bodyOf Try.f3))) n (pt_3_14.inst x) k = l_3_14 N n x (fun y => k .ret (px_3_14_0.inst y)) (fun y => k (.exit 0) (px_3_14_1.inst y)) :=
  iter_eq (K := Exit → St → Option R) (ks := fun k => k) (l := fun n (x : pt_3_14.den) k => l_3_14 N n x (fun y => k .ret (px_3_14_0.inst y)) (fun y => k (.exit 0) (px_3_14_1.inst y))) (B := fun (rec : pt_3_14.den → Option R) (x : pt_3_14.den) k => B_3_14 N rec x (fun y => k .ret (px_3_14_0.inst y)) (fun y => k (.exit 0) (px_3_14_1.inst y))) (fun _ _ => rfl) (fun _ _ _ => rfl) (fun n x k => step_3_14 N n x k)
theorem rounds_3_14 {R : Type} (N : Nat) : Rounds 0 TT (E_3 (R := R) N) (drawAny TT WW) (L_3 N) 14 (loopAt 14 (bodyOf Try.f3)) :=
  rounds_of (p := pt_3_14) (l := fun (x : pt_3_14.den) k => l_3_14 N N x (fun y => k .ret (px_3_14_0.inst y)) (fun y => k (.exit 0) (px_3_14_1.inst y))) (fun s k => rfl) (fun x k => eq_3_14 N N x k)
theorem loops_3 : loopsIn (bodyOf Try.f3) = [(14, loopAt 14 (bodyOf Try.f3))] := by kernel_rfl
theorem lok_3 {R : Type} (N : Nat) : LOK 0 TT (E_3 (R := R) N) (drawAny TT WW) (L_3 N) (bodyOf Try.f3) := loops_all loops_3 (by
  simp only [List.forall_mem_cons, List.not_mem_nil, false_implies, implies_true, and_true]
  exact rounds_3_14 N)
theorem grun_3 {R : Type} (q_8 : Tp_8 R) (q_9 : Tp_9 R) (q_10 : Tp_10 R) (q_11 : Tp_11 R) (q_12 : Tp_12 R) (q_13 : Tp_13 R) (q_14 : Tp_14 R) (q_15 : Tp_15 R) (q_17 : Tp_17 R) (q_16 : Tp_16 R) (q_12_v1 : Tp_12_v1 R) (m_3_14 : Tl_3_14 R) (x : aden ap_3 × hden hp_3) (k : KF R) : fnrun TT (EG_3 q_8 q_9 q_10 q_11 q_12 q_13 q_14 q_15 q_17 q_16 q_12_v1) (drawAny TT WW) (LG_3 m_3_14) true Try.f3 (instA ap_3 x.1) (instH hp_3 x.2) k = Q_3 q_8 q_9 q_10 q_11 q_12 q_13 q_14 q_15 q_17 q_16 q_12_v1 m_3_14 x (fun y => k (Pat.inst (.bool) y.1) (instH [] y.2)) := by kernel_rfl
theorem run_3 {R : Type} (N : Nat) (x : aden ap_3 × hden hp_3) (k : KF R) : fnrun TT (E_3 (R := R) N) (drawAny TT WW) (L_3 N) true Try.f3 (instA ap_3 x.1) (instH hp_3 x.2) k = p_3 N x (fun y => k (Pat.inst (.bool) y.1) (instH [] y.2)) := (grun_3 (p_8 N) (p_9 N) (p_10 N) (p_11 N) (p_12 N) (p_13 N) (p_14 N) (p_15 N) (p_17 N) (p_16 N) (p_12_v1 N) (l_3_14 N N) x k).trans (by kernel_rfl)
theorem good_3 {R : Type} (N : Nat) : GD (X := R) Try.prog QQ AA 3 ap_3 hp_3 (fun (x : aden ap_3 × hden hp_3) k => p_3 N x (fun y => k (Pat.inst (.bool) y.1) (instH [] y.2))) :=
  gd_loud (E := E_3 N) (p := fun (x : aden ap_3 × hden hp_3) k => p_3 N x (fun y => k (Pat.inst (.bool) y.1) (instH [] y.2))) mixed tyok (eok_3 N) Try.func3 (by kernel_rfl) (by kernel_rfl) (by kernel_rfl) (by kernel_rfl) (lok_3 N) (fun x k => run_3 N x k)

end Go.Proofs.Ytfcloeflcpcheaa.Eng
