/-
Plain functions that the functions of the program are shown to come to, printed by a program of the prover; each with its proof.
Conditions: none.
-/
import Derived.Test.YtfcloeflcpcheaaProg
import Derived.Test.YtfcloeflcpcheaaEngY
import Derived.KernelRfl
set_option linter.unusedVariables false
namespace Go.Proofs.Ytfcloeflcpcheaa.Eng
def TT : Types := [(23, ⟨.stru [(3, 0), (3, 1), (3, 2), (3, 3), (3, 4)], 5, 40, .node (.fcons (.int .i64 0) (.fcons (.int .i64 0) (.fcons (.int .i64 0) (.fcons (.int .i64 0) (.fcons (.int .i64 0) (.fnil)))))), some (.stru (.fcons (.int .i64) (.fcons (.int .i64) (.fcons (.int .i64) (.fcons (.int .i64) (.fcons (.int .i64) (.fnil))))))), true, false, none⟩),
  (3, ⟨.int .i64, 1, 8, .int .i64 0, some (.int .i64), false, false, none⟩),
  (4, ⟨.bool, 1, 1, .bool false, some (.bool), false, false, none⟩),
  (26, ⟨.ptr 49, 1, 8, .nilp, none, false, false, none⟩),
  (47, ⟨.stru [(3, 0), (3, 1), (3, 2), (3, 3), (3, 4), (3, 5), (3, 6), (3, 7)], 8, 64, .node (.fcons (.int .i64 0) (.fcons (.int .i64 0) (.fcons (.int .i64 0) (.fcons (.int .i64 0) (.fcons (.int .i64 0) (.fcons (.int .i64 0) (.fcons (.int .i64 0) (.fcons (.int .i64 0) (.fnil))))))))), some (.stru (.fcons (.int .i64) (.fcons (.int .i64) (.fcons (.int .i64) (.fcons (.int .i64) (.fcons (.int .i64) (.fcons (.int .i64) (.fcons (.int .i64) (.fcons (.int .i64) (.fnil)))))))))), true, false, none⟩),
  (30, ⟨.int .i64, 1, 8, .int .i64 0, some (.int .i64), false, false, none⟩),
  (45, ⟨.stru [(3, 0), (3, 1), (3, 2), (3, 3), (3, 4), (3, 5), (3, 6), (3, 7)], 8, 64, .node (.fcons (.int .i64 0) (.fcons (.int .i64 0) (.fcons (.int .i64 0) (.fcons (.int .i64 0) (.fcons (.int .i64 0) (.fcons (.int .i64 0) (.fcons (.int .i64 0) (.fcons (.int .i64 0) (.fnil))))))))), some (.stru (.fcons (.int .i64) (.fcons (.int .i64) (.fcons (.int .i64) (.fcons (.int .i64) (.fcons (.int .i64) (.fcons (.int .i64) (.fcons (.int .i64) (.fcons (.int .i64) (.fnil)))))))))), true, false, none⟩),
  (100, ⟨.ptr 145, 1, 8, .nilp, none, false, false, none⟩),
  (145, ⟨.stru [(3, 0), (3, 1), (3, 2), (3, 3)], 4, 32, .node (.fcons (.int .i64 0) (.fcons (.int .i64 0) (.fcons (.int .i64 0) (.fcons (.int .i64 0) (.fnil))))), some (.stru (.fcons (.int .i64) (.fcons (.int .i64) (.fcons (.int .i64) (.fcons (.int .i64) (.fnil)))))), true, false, none⟩),
  (46, ⟨.ptr 147, 1, 8, .nilp, none, false, false, none⟩),
  (52, ⟨.slice 29, 1, 24, .nils, some (.sl (.arr 128 (.int .u64))), false, false, none⟩),
  (29, ⟨.arr 128 27, 128, 1024, .vec (.int .u64) 128 (Sch.zero (.arr 128 (.int .u64))), some (.arr 128 (.int .u64)), true, false, none⟩),
  (147, ⟨.stru [(100, 0), (52, 1), (4, 2)], 3, 40, .node (.fcons (.nilp) (.fcons (.nils) (.fcons (.bool false) (.fnil)))), none, false, false, none⟩),
  (49, ⟨.stru [(46, 0), (47, 1)], 9, 72, .node (.fcons (.nilp) (.fcons (.node (.fcons (.int .i64 0) (.fcons (.int .i64 0) (.fcons (.int .i64 0) (.fcons (.int .i64 0) (.fcons (.int .i64 0) (.fcons (.int .i64 0) (.fcons (.int .i64 0) (.fcons (.int .i64 0) (.fnil)))))))))) (.fnil))), none, false, false, none⟩),
  (62, ⟨.ptr 123, 1, 8, .nilp, none, false, false, none⟩),
  (71, ⟨.stru [(3, 0), (3, 1), (69, 2), (34, 4), (34, 6)], 8, 64, .node (.fcons (.int .i64 0) (.fcons (.int .i64 0) (.fcons (.node (.fcons (.int .i64 0) (.fcons (.int .i64 0) (.fnil)))) (.fcons (.node (.fcons (.int .i64 0) (.fcons (.int .i64 0) (.fnil)))) (.fcons (.node (.fcons (.int .i64 0) (.fcons (.int .i64 0) (.fnil)))) (.fnil)))))), some (.stru (.fcons (.int .i64) (.fcons (.int .i64) (.fcons (.stru (.fcons (.int .i64) (.fcons (.int .i64) (.fnil)))) (.fcons (.stru (.fcons (.int .i64) (.fcons (.int .i64) (.fnil)))) (.fcons (.stru (.fcons (.int .i64) (.fcons (.int .i64) (.fnil)))) (.fnil))))))), true, false, none⟩),
  (34, ⟨.stru [(3, 0), (3, 1)], 2, 16, .node (.fcons (.int .i64 0) (.fcons (.int .i64 0) (.fnil))), some (.stru (.fcons (.int .i64) (.fcons (.int .i64) (.fnil)))), true, false, none⟩),
  (69, ⟨.stru [(3, 0), (3, 1)], 2, 16, .node (.fcons (.int .i64 0) (.fcons (.int .i64 0) (.fnil))), some (.stru (.fcons (.int .i64) (.fcons (.int .i64) (.fnil)))), true, false, none⟩),
  (123, ⟨.stru [(26, 0), (3, 1), (69, 2), (3, 4), (81, 5), (86, 6), (4, 12), (4, 13), (4, 14)], 15, 104, .node (.fcons (.nilp) (.fcons (.int .i64 0) (.fcons (.node (.fcons (.int .i64 0) (.fcons (.int .i64 0) (.fnil)))) (.fcons (.int .i64 0) (.fcons (.nilp) (.fcons (.node (.fcons (.node (.fcons (.int .i64 0) (.fcons (.int .i64 0) (.fnil)))) (.fcons (.node (.fcons (.int .i64 0) (.fcons (.int .i64 0) (.fnil)))) (.fcons (.node (.fcons (.int .i64 0) (.fcons (.int .i64 0) (.fnil)))) (.fnil))))) (.fcons (.bool false) (.fcons (.bool false) (.fcons (.bool false) (.fnil)))))))))), none, false, false, none⟩),
  (86, ⟨.stru [(34, 0), (34, 2), (34, 4)], 6, 48, .node (.fcons (.node (.fcons (.int .i64 0) (.fcons (.int .i64 0) (.fnil)))) (.fcons (.node (.fcons (.int .i64 0) (.fcons (.int .i64 0) (.fnil)))) (.fcons (.node (.fcons (.int .i64 0) (.fcons (.int .i64 0) (.fnil)))) (.fnil)))), some (.stru (.fcons (.stru (.fcons (.int .i64) (.fcons (.int .i64) (.fnil)))) (.fcons (.stru (.fcons (.int .i64) (.fcons (.int .i64) (.fnil)))) (.fcons (.stru (.fcons (.int .i64) (.fcons (.int .i64) (.fnil)))) (.fnil))))), true, false, none⟩),
  (81, ⟨.ptr 132, 1, 8, .nilp, none, false, false, none⟩),
  (132, ⟨.stru [(47, 0), (69, 8), (3, 10), (3, 11), (29, 12)], 140, 1120, .node (.fcons (.node (.fcons (.int .i64 0) (.fcons (.int .i64 0) (.fcons (.int .i64 0) (.fcons (.int .i64 0) (.fcons (.int .i64 0) (.fcons (.int .i64 0) (.fcons (.int .i64 0) (.fcons (.int .i64 0) (.fnil)))))))))) (.fcons (.node (.fcons (.int .i64 0) (.fcons (.int .i64 0) (.fnil)))) (.fcons (.int .i64 0) (.fcons (.int .i64 0) (.fcons (.vec (.int .u64) 128 (Sch.zero (.arr 128 (.int .u64)))) (.fnil)))))), some (.stru (.fcons (.stru (.fcons (.int .i64) (.fcons (.int .i64) (.fcons (.int .i64) (.fcons (.int .i64) (.fcons (.int .i64) (.fcons (.int .i64) (.fcons (.int .i64) (.fcons (.int .i64) (.fnil)))))))))) (.fcons (.stru (.fcons (.int .i64) (.fcons (.int .i64) (.fnil)))) (.fcons (.int .i64) (.fcons (.int .i64) (.fcons (.arr 128 (.int .u64)) (.fnil))))))), true, false, none⟩),
  (78, ⟨.int .u32, 1, 4, .int .u32 0, some (.int .u32), false, false, none⟩),
  (199, ⟨.arr 7 3, 7, 56, .vec (.int .i64) 7 (Sch.zero (.arr 7 (.int .i64))), some (.arr 7 (.int .i64)), true, false, none⟩),
  (27, ⟨.int .u64, 1, 8, .int .u64 0, some (.int .u64), false, false, none⟩),
  (201, ⟨.slice 4, 1, 24, .nils, some (.sl (.bool)), false, false, none⟩),
  (192, ⟨.arr 16 3, 16, 128, .vec (.int .i64) 16 (Sch.zero (.arr 16 (.int .i64))), some (.arr 16 (.int .i64)), true, false, none⟩),
  (186, ⟨.arr 16 27, 16, 128, .vec (.int .u64) 16 (Sch.zero (.arr 16 (.int .u64))), some (.arr 16 (.int .u64)), true, false, none⟩),
  (190, ⟨.arr 8 65, 32, 256, .vec (.arr 4 (.int .i64)) 8 (Sch.zero (.arr 8 (.arr 4 (.int .i64)))), some (.arr 8 (.arr 4 (.int .i64))), true, false, none⟩),
  (65, ⟨.arr 4 3, 4, 32, .vec (.int .i64) 4 (Sch.zero (.arr 4 (.int .i64))), some (.arr 4 (.int .i64)), true, false, none⟩),
  (159, ⟨.int .u64, 1, 8, .int .u64 0, some (.int .u64), false, false, none⟩),
  (93, ⟨.slice 3, 1, 24, .nils, some (.sl (.int .i64)), false, false, none⟩)]
theorem tyok : TyOk Try.prog TT := TyOk.of (by kernel_rfl)
theorem mixed : Try.prog.follows .mixedOrders = true := by kernel_rfl
def QQ : FuncId → Bool := fun f => memN [9, 21, 23, 24, 25, 29, 30, 34, 36, 37, 41, 42, 46, 47, 48, 55, 63, 64, 66, 67, 68, 69, 70, 75, 76, 77, 78, 88, 89, 90, 95, 103, 105, 113, 115, 116, 117, 120, 121, 122] f
def LN : FuncId → Bool := fun f => memN [48] f
def AA : FuncId → Bool := fun f => memN [33] f
def WW : Qs := fun f => (QQ f || LN f || AA f, QQ f || LN f)
abbrev Y0 : Type := Int × (Int × (Int × (Int × (Int × (Int × (Int × (Int × Unit)))))))
abbrev Y1 : Type := (Unit × (Int × ((Int × (Int × Unit)) × (Int × (Unit × (((Int × (Int × Unit)) × ((Int × (Int × Unit)) × ((Int × (Int × Unit)) × Unit))) × (Bool × (Bool × (Bool × Unit))))))))) × (Unit × (Y0 × Unit)) × (Unit × (Unit × (Bool × Unit))) × (Int × (Int × (Int × (Int × Unit)))) × (List (Nat → Int)) × (Y0 × ((Int × (Int × Unit)) × (Int × (Int × ((Nat → Int) × Unit))))) × Unit
abbrev Y2 : Type := Int × (Int × (Int × (Int × Unit)))
abbrev Y3 : Type := Unit × (Int × ((Int × (Int × Unit)) × (Int × (Unit × (((Int × (Int × Unit)) × ((Int × (Int × Unit)) × ((Int × (Int × Unit)) × Unit))) × (Bool × (Bool × (Bool × Unit))))))))
abbrev Y4 : Type := Y0 × ((Int × (Int × Unit)) × (Int × (Int × ((Nat → Int) × Unit))))
abbrev Y5 : Type := Unit × (Unit × (Bool × Unit))
abbrev Y6 : Type := (Nat → Int) × (Nat → Int) × Unit
abbrev Y7 : Type := (Unit × (Y0 × Unit)) × Y5 × Y2 × (List (Nat → Int)) × Unit
abbrev Y8 : Type := (Unit × Unit × Bool × Unit × Int × Int × Int × Unit) × ((Nat → Int) × (Nat → Int) × (List Bool) × Unit)
abbrev Y9 : Type := (Int × (Int × Unit)) × ((Int × (Int × Unit)) × ((Int × (Int × Unit)) × Unit))
abbrev Y10 : Type := (Int × Y2) × (Unit × (Y0 × Unit)) × Y5 × Y2 × (List (Nat → Int)) × Y3 × Y4 × (Nat → Int) × Unit
abbrev Y11 : Type := (Unit × Unit × Unit × Int × Int × Unit) × ((Nat → Int) × (Nat → Int) × (List Bool) × Unit)
abbrev Y12 : Type := (Unit × Unit × Bool × Unit × Unit × Unit × Int × Int × Int × (Nat → Int) × Int × Unit) × ((Nat → Int) × (Nat → Int) × (Nat → Int) × (Nat → Int) × (List Bool) × Unit)
abbrev Y13 : Type := (Unit × (Y0 × Unit)) × Y5 × Y2 × (List (Nat → Int)) × Y4 × Unit
abbrev Y14 : Type := (Unit × Unit × Bool × Unit × Unit × Int × Int × Int × (Nat → Int) × Int × Unit) × ((Nat → Int) × (Nat → Int) × (Nat → Int) × (List Bool) × Unit)
abbrev Z0 : Pat := .node (.fcons (.int .i64) (.fcons (.int .i64) (.fcons (.int .i64) (.fcons (.int .i64) (.fcons (.int .i64) (.fcons (.int .i64) (.fcons (.int .i64) (.fcons (.int .i64) (.fnil)))))))))
abbrev Z1 : Pat := .node (.fcons (.int .i64) (.fcons (.int .i64) (.fnil)))
abbrev Z2 : Pat := .node (.fcons (.int .i64) (.fcons (.int .i64) (.fcons (.int .i64) (.fcons (.int .i64) (.fnil)))))
abbrev Z3 : Pat := .node (.fcons Z0 (.fcons Z1 (.fcons (.int .i64) (.fcons (.int .i64) (.fcons (.vec (.int .u64) 128) (.fnil))))))
abbrev Z4 : Pat := .node (.fcons (.ptr 1 []) (.fcons (.int .i64) (.fcons Z1 (.fcons (.int .i64) (.fcons (.ptr 5 []) (.fcons (.node (.fcons Z1 (.fcons Z1 (.fcons Z1 (.fnil))))) (.fcons (.bool) (.fcons (.bool) (.fcons (.bool) (.fnil))))))))))
abbrev Z5 : Pat := .node (.fcons (.ptr 2 []) (.fcons (.sl 3) (.fcons (.bool) (.fnil))))
abbrev Z6 : Pat := .node (.fcons (.ptr 1 []) (.fcons (.int .i64) (.fcons Z1 (.fcons (.int .i64) (.fcons (.ptr 6 []) (.fcons (.node (.fcons Z1 (.fcons Z1 (.fcons Z1 (.fnil))))) (.fcons (.bool) (.fcons (.bool) (.fcons (.bool) (.fnil))))))))))
abbrev Z7 : Pat := .node (.fcons (.ptr 3 []) (.fcons (.sl 4) (.fcons (.bool) (.fnil))))
abbrev Z8 : Pat := .node (.fcons (.ptr 1 []) (.fcons Z0 (.fnil)))
abbrev Z9 : Pat := .node (.fcons (.ptr 2 []) (.fcons Z0 (.fnil)))
abbrev Z10 : Pat := .node (.fcons (.ptr 1 []) (.fcons (.sl 2) (.fcons (.bool) (.fnil))))
abbrev Z11 : Pat := .node (.fcons (.ptr 0 []) (.fcons (.int .i64) (.fcons Z1 (.fcons (.int .i64) (.fcons (.ptr 5 []) (.fcons (.node (.fcons Z1 (.fcons Z1 (.fcons Z1 (.fnil))))) (.fcons (.bool) (.fcons (.bool) (.fcons (.bool) (.fnil))))))))))
abbrev Z12 : Pat := .node (.fcons (.int .i64) (.fcons (.int .i64) (.fcons Z1 (.fcons Z1 (.fcons Z1 (.fnil))))))
abbrev J0 : List (Option (Pat × Nat)) := [some (Z4, 123), some (Z9, 49), some (Z7, 147), some (Z2, 145), some (.lst (.arr 128 (.int .u64)), 29), some (Z3, 132)]
abbrev J1 : List (Option (Pat × Nat)) := [some (Z8, 49), some (Z5, 147), some (Z2, 145), some (.lst (.arr 128 (.int .u64)), 29)]
abbrev J2 : List (Option (Pat × Nat)) := [some (Z6, 123), some (Z9, 49), some (Z7, 147), some (Z2, 145), some (.lst (.arr 128 (.int .u64)), 29), some (Z3, 132), some (Z3, 132)]
abbrev J3 : List (Option (Pat × Nat)) := [some (Z8, 49), some (Z5, 147), some (Z2, 145), some (.lst (.arr 128 (.int .u64)), 29), some (Z3, 132)]
abbrev J4 : List (Option (Pat × Nat)) := [some (Z10, 147), some (Z2, 145), some (.lst (.arr 128 (.int .u64)), 29)]
abbrev J5 : List (Option (Pat × Nat)) := [some (Z8, 49), some (Z5, 147), some (Z2, 145), some (.lst (.arr 128 (.int .u64)), 29), some (Z11, 123), some (Z3, 132)]
abbrev J6 : List (Option (Pat × Nat)) := [some (Z2, 145), some (.node (.fcons (.ptr 0 []) (.fcons (.sl 2) (.fcons (.bool) (.fnil)))), 147), some (.lst (.arr 128 (.int .u64)), 29)]
abbrev J7 : List (Option (Pat × Nat)) := [some (Z10, 147), some (Z2, 145), some (.lst (.arr 128 (.int .u64)), 29), some (.node (.fcons (.ptr 0 []) (.fcons Z0 (.fnil))), 49)]
abbrev J8 : List (Option (Pat × Nat)) := [some (.vec (.int .u64) 128, 29), some (.vec (.int .u64) 128, 29)]
def ap_63 : List Pat := [.int .i64, .int .i64, .int .i64]
def hp_63 : List (Option (Pat × Nat)) := []
abbrev Tp_63 (R : Type) : Type := (Int × Int × Int × Unit) × (Unit) → (Bool → Option R) → Option R
def Q_63 {R : Type} (x : (Int × Int × Int × Unit) × (Unit)) (κ0 : Bool → Option R) : Option R :=
let i17 := x.1.1
let i18 := x.1.2.1
let i19 := x.1.2.2.1
bif (decide (i17 ≥ i18)) then (
κ0 ((decide (i17 ≤ i19)))) else (
κ0 false)
def p_63 {R : Type} (N : Nat) (x : (Int × Int × Int × Unit) × (Unit)) (κ0 : Bool → Option R) : Option R := Q_63 x κ0
def EG_63 {R : Type} : Env R := Env.base QQ LN AA
def LG_63 {R : Type} : Loops R := Loops.none
def E_63 {R : Type} (N : Nat) : Env R := EG_63
theorem eok_63 {R : Type} (N : Nat) : EK Try.prog (E_63 (R := R) N) := ek_base _ _ _
def L_63 {R : Type} (N : Nat) : Loops R := LG_63
theorem lok_63 {R : Type} (N : Nat) : LOK 0 TT (E_63 (R := R) N) (drawAny TT WW) (L_63 N) (bodyOf Try.f63) := loops_nil (by kernel_rfl)
theorem grun_63 {R : Type} (x : aden ap_63 × hden hp_63) (k : KF R) : fnrun TT (EG_63) (drawAny TT WW) (LG_63) true Try.f63 (instA ap_63 x.1) (instH hp_63 x.2) k = Q_63 x (fun y => k (Pat.inst (.bool) y) (instH hp_63 x.2)) := by kernel_rfl
theorem run_63 {R : Type} (N : Nat) (x : aden ap_63 × hden hp_63) (k : KF R) : fnrun TT (E_63 (R := R) N) (drawAny TT WW) (L_63 N) true Try.f63 (instA ap_63 x.1) (instH hp_63 x.2) k = p_63 N x (fun y => k (Pat.inst (.bool) y) (instH hp_63 x.2)) := (grun_63 x k).trans (by kernel_rfl)
theorem good_63 {R : Type} (N : Nat) : GD (X := R) Try.prog QQ AA 63 ap_63 hp_63 (fun (x : aden ap_63 × hden hp_63) k => p_63 N x (fun y => k (Pat.inst (.bool) y) (instH hp_63 x.2))) :=
  gd_quiet (E := E_63 N) (p := fun (x : aden ap_63 × hden hp_63) κ => p_63 N x (fun y => κ (Pat.inst (.bool) y))) mixed tyok (eok_63 N) Try.func63 (by kernel_rfl) (by kernel_rfl) (lok_63 N) (fun x k => run_63 N x k)

def ap_88 : List Pat := [.int .i64]
def hp_88 : List (Option (Pat × Nat)) := []
abbrev Tp_88 (R : Type) : Type := (Int × Unit) × (Unit) → (Bool → Option R) → Option R
def Q_88 {R : Type} (x : (Int × Unit) × (Unit)) (κ0 : Bool → Option R) : Option R :=
let i34 := x.1.1
bif (decide (i34 ≥ 0)) then (
κ0 ((decide (i34 ≤ 4611686018427387904)))) else (
κ0 false)
def p_88 {R : Type} (N : Nat) (x : (Int × Unit) × (Unit)) (κ0 : Bool → Option R) : Option R := Q_88 x κ0
def EG_88 {R : Type} : Env R := Env.base QQ LN AA
def LG_88 {R : Type} : Loops R := Loops.none
def E_88 {R : Type} (N : Nat) : Env R := EG_88
theorem eok_88 {R : Type} (N : Nat) : EK Try.prog (E_88 (R := R) N) := ek_base _ _ _
def L_88 {R : Type} (N : Nat) : Loops R := LG_88
theorem lok_88 {R : Type} (N : Nat) : LOK 0 TT (E_88 (R := R) N) (drawAny TT WW) (L_88 N) (bodyOf Try.f88) := loops_nil (by kernel_rfl)
theorem grun_88 {R : Type} (x : aden ap_88 × hden hp_88) (k : KF R) : fnrun TT (EG_88) (drawAny TT WW) (LG_88) true Try.f88 (instA ap_88 x.1) (instH hp_88 x.2) k = Q_88 x (fun y => k (Pat.inst (.bool) y) (instH hp_88 x.2)) := by kernel_rfl
theorem run_88 {R : Type} (N : Nat) (x : aden ap_88 × hden hp_88) (k : KF R) : fnrun TT (E_88 (R := R) N) (drawAny TT WW) (L_88 N) true Try.f88 (instA ap_88 x.1) (instH hp_88 x.2) k = p_88 N x (fun y => k (Pat.inst (.bool) y) (instH hp_88 x.2)) := (grun_88 x k).trans (by kernel_rfl)
theorem good_88 {R : Type} (N : Nat) : GD (X := R) Try.prog QQ AA 88 ap_88 hp_88 (fun (x : aden ap_88 × hden hp_88) k => p_88 N x (fun y => k (Pat.inst (.bool) y) (instH hp_88 x.2))) :=
  gd_quiet (E := E_88 N) (p := fun (x : aden ap_88 × hden hp_88) κ => p_88 N x (fun y => κ (Pat.inst (.bool) y))) mixed tyok (eok_88 N) Try.func88 (by kernel_rfl) (by kernel_rfl) (lok_88 N) (fun x k => run_88 N x k)

def ap_76 : List Pat := [.int .i64, .int .i64]
def hp_76 : List (Option (Pat × Nat)) := []
abbrev Tp_76 (R : Type) : Type := (Int × Int × Unit) × (Unit) → ((Int × (Int × Unit)) → Option R) → Option R
def Q_76 {R : Type} (q_88 : Tp_88 R) (x : (Int × Int × Unit) × (Unit)) (κ0 : (Int × (Int × Unit)) → Option R) : Option R :=
let i32 := x.1.1
let i33 := x.1.2.1
q_88 ((i32, ()), ()) (fun y35 =>
let b36 : Bool := y35
bif (!b36) then (
κ0 ((0, (1, ())))) else (
bif (decide (i33 < 1)) then (
κ0 ((0, (1, ())))) else (
bif decide (i33 = 0) then none else (
let i37 : Int := remA .i64 i32 i33
let i38 : Int := subA .i64 i32 i37
κ0 ((i38, (0, ())))))))
def p_76 {R : Type} (N : Nat) (x : (Int × Int × Unit) × (Unit)) (κ0 : (Int × (Int × Unit)) → Option R) : Option R := Q_76 (p_88 N) x κ0
def EG_76 {R : Type} (q_88 : Tp_88 R) : Env R := (Env.base QQ LN AA).add 88 ap_88 hp_88 (fun (x : aden ap_88 × hden hp_88) k => q_88 x (fun y => k (Pat.inst (.bool) y) (instH hp_88 x.2)))
def LG_76 {R : Type} : Loops R := Loops.none
def E_76 {R : Type} (N : Nat) : Env R := EG_76 (p_88 N)
theorem eok_76 {R : Type} (N : Nat) : EK Try.prog (E_76 (R := R) N) := ek_add (ek_base _ _ _) (good_88 N)
def L_76 {R : Type} (N : Nat) : Loops R := LG_76
theorem lok_76 {R : Type} (N : Nat) : LOK 0 TT (E_76 (R := R) N) (drawAny TT WW) (L_76 N) (bodyOf Try.f76) := loops_nil (by kernel_rfl)
theorem grun_76 {R : Type} (q_88 : Tp_88 R) (x : aden ap_76 × hden hp_76) (k : KF R) : fnrun TT (EG_76 q_88) (drawAny TT WW) (LG_76) true Try.f76 (instA ap_76 x.1) (instH hp_76 x.2) k = Q_76 q_88 x (fun y => k (Pat.inst (.tup (.fcons (.int .i64) (.fcons (.int .i64) (.fnil)))) y) (instH hp_76 x.2)) := by kernel_rfl
theorem run_76 {R : Type} (N : Nat) (x : aden ap_76 × hden hp_76) (k : KF R) : fnrun TT (E_76 (R := R) N) (drawAny TT WW) (L_76 N) true Try.f76 (instA ap_76 x.1) (instH hp_76 x.2) k = p_76 N x (fun y => k (Pat.inst (.tup (.fcons (.int .i64) (.fcons (.int .i64) (.fnil)))) y) (instH hp_76 x.2)) := (grun_76 (p_88 N) x k).trans (by kernel_rfl)
theorem good_76 {R : Type} (N : Nat) : GD (X := R) Try.prog QQ AA 76 ap_76 hp_76 (fun (x : aden ap_76 × hden hp_76) k => p_76 N x (fun y => k (Pat.inst (.tup (.fcons (.int .i64) (.fcons (.int .i64) (.fnil)))) y) (instH hp_76 x.2))) :=
  gd_quiet (E := E_76 N) (p := fun (x : aden ap_76 × hden hp_76) κ => p_76 N x (fun y => κ (Pat.inst (.tup (.fcons (.int .i64) (.fcons (.int .i64) (.fnil)))) y))) mixed tyok (eok_76 N) Try.func76 (by kernel_rfl) (by kernel_rfl) (lok_76 N) (fun x k => run_76 N x k)

def ap_42 : List Pat := [.node (.fcons (.int .i64) (.fcons (.int .i64) (.fcons (.int .i64) (.fcons (.int .i64) (.fcons (.int .i64) (.fnil))))))]
def hp_42 : List (Option (Pat × Nat)) := []
abbrev Tp_42 (R : Type) : Type := ((Int × Y2) × Unit) × (Unit) → ((Y0 × (Int × Unit)) → Option R) → Option R
def Q_42 {R : Type} (q_63 : Tp_63 R) (q_76 : Tp_76 R) (x : ((Int × Y2) × Unit) × (Unit)) (κ0 : (Y0 × (Int × Unit)) → Option R) : Option R :=
let i12 := x.1.1.1
let i13 := x.1.1.2.1
let i14 := x.1.1.2.2.1
let i15 := x.1.1.2.2.2.1
let i16 := x.1.1.2.2.2.2.1
q_63 ((i12, 1, 3, ()), ()) (fun y20 =>
let b21 : Bool := y20
bif b21 then (
q_63 ((i13, 1, 4294967295, ()), ()) (fun y22 =>
let b23 := y22
bif b23 then (
q_63 ((i15, 1, 16777215, ()), ()) (fun y24 =>
let b25 : Bool := y24
bif b25 then (
q_63 ((i14, 1, 4294967295, ()), ()) (fun y26 =>
let b27 : Bool := y26
bif b27 then (
let i28 : Int := quoA .i64 i14 8
bif (decide (i28 ≥ i15)) then (
q_63 ((i16, 4, 1024, ()), ()) (fun y29 =>
let b30 : Bool := y29
bif (!b30) then (
κ0 (((0, (0, (0, (0, (0, (0, (0, (0, ())))))))), (2, ())))) else (
let i31 : Int := mulA .i64 4 i15
q_76 ((i14, i31, ()), ()) (fun y39 =>
let i40 := y39.1
let i41 := y39.2.1
bif decide (i15 = 0) then none else (
let i42 : Int := quoA .i64 i40 i15
let i43 : Int := quoA .i64 i42 4
κ0 (((i12, (i13, (i15, (i14, (i40, (i42, (i43, (i16, ())))))))), (0, ())))))))) else (
κ0 (((0, (0, (0, (0, (0, (0, (0, (0, ())))))))), (2, ()))))) else (
κ0 (((0, (0, (0, (0, (0, (0, (0, (0, ())))))))), (2, ())))))) else (
κ0 (((0, (0, (0, (0, (0, (0, (0, (0, ())))))))), (2, ())))))) else (
κ0 (((0, (0, (0, (0, (0, (0, (0, (0, ())))))))), (2, ())))))) else (
κ0 (((0, (0, (0, (0, (0, (0, (0, (0, ())))))))), (2, ())))))
def p_42 {R : Type} (N : Nat) (x : ((Int × Y2) × Unit) × (Unit)) (κ0 : (Y0 × (Int × Unit)) → Option R) : Option R := Q_42 (p_63 N) (p_76 N) x κ0
def EG_42 {R : Type} (q_63 : Tp_63 R) (q_76 : Tp_76 R) : Env R := ((Env.base QQ LN AA).add 63 ap_63 hp_63 (fun (x : aden ap_63 × hden hp_63) k => q_63 x (fun y => k (Pat.inst (.bool) y) (instH hp_63 x.2)))).add 76 ap_76 hp_76 (fun (x : aden ap_76 × hden hp_76) k => q_76 x (fun y => k (Pat.inst (.tup (.fcons (.int .i64) (.fcons (.int .i64) (.fnil)))) y) (instH hp_76 x.2)))
def LG_42 {R : Type} : Loops R := Loops.none
def E_42 {R : Type} (N : Nat) : Env R := EG_42 (p_63 N) (p_76 N)
theorem eok_42 {R : Type} (N : Nat) : EK Try.prog (E_42 (R := R) N) := ek_add (ek_add (ek_base _ _ _) (good_63 N)) (good_76 N)
def L_42 {R : Type} (N : Nat) : Loops R := LG_42
theorem lok_42 {R : Type} (N : Nat) : LOK 0 TT (E_42 (R := R) N) (drawAny TT WW) (L_42 N) (bodyOf Try.f42) := loops_nil (by kernel_rfl)
theorem grun_42 {R : Type} (q_63 : Tp_63 R) (q_76 : Tp_76 R) (x : aden ap_42 × hden hp_42) (k : KF R) : fnrun TT (EG_42 q_63 q_76) (drawAny TT WW) (LG_42) true Try.f42 (instA ap_42 x.1) (instH hp_42 x.2) k = Q_42 q_63 q_76 x (fun y => k (Pat.inst (.tup (.fcons Z0 (.fcons (.int .i64) (.fnil)))) y) (instH hp_42 x.2)) := by kernel_rfl
theorem run_42 {R : Type} (N : Nat) (x : aden ap_42 × hden hp_42) (k : KF R) : fnrun TT (E_42 (R := R) N) (drawAny TT WW) (L_42 N) true Try.f42 (instA ap_42 x.1) (instH hp_42 x.2) k = p_42 N x (fun y => k (Pat.inst (.tup (.fcons Z0 (.fcons (.int .i64) (.fnil)))) y) (instH hp_42 x.2)) := (grun_42 (p_63 N) (p_76 N) x k).trans (by kernel_rfl)
theorem good_42 {R : Type} (N : Nat) : GD (X := R) Try.prog QQ AA 42 ap_42 hp_42 (fun (x : aden ap_42 × hden hp_42) k => p_42 N x (fun y => k (Pat.inst (.tup (.fcons Z0 (.fcons (.int .i64) (.fnil)))) y) (instH hp_42 x.2))) :=
  gd_quiet (E := E_42 N) (p := fun (x : aden ap_42 × hden hp_42) κ => p_42 N x (fun y => κ (Pat.inst (.tup (.fcons Z0 (.fcons (.int .i64) (.fnil)))) y))) mixed tyok (eok_42 N) Try.func42 (by kernel_rfl) (by kernel_rfl) (lok_42 N) (fun x k => run_42 N x k)

def ap_55 : List Pat := [.node (.fcons (.int .i64) (.fcons (.int .i64) (.fcons (.int .i64) (.fcons (.int .i64) (.fcons (.int .i64) (.fcons (.int .i64) (.fcons (.int .i64) (.fcons (.int .i64) (.fnil)))))))))]
def hp_55 : List (Option (Pat × Nat)) := []
abbrev Tp_55 (R : Type) : Type := (Y0 × Unit) × (Unit) → (Bool → Option R) → Option R
def Q_55 {R : Type} (x : (Y0 × Unit) × (Unit)) (κ0 : Bool → Option R) : Option R :=
let i54 := x.1.1.1
let i55 := x.1.1.2.1
let i56 := x.1.1.2.2.1
let i57 := x.1.1.2.2.2.1
let i58 := x.1.1.2.2.2.2.1
let i59 := x.1.1.2.2.2.2.2.1
let i60 := x.1.1.2.2.2.2.2.2.1
let i61 := x.1.1.2.2.2.2.2.2.2.1
bif (decide (i55 ≤ 3)) then (
bif (decide (i56 ≤ 4)) then (
κ0 ((decide (i58 ≤ 80)))) else (
κ0 false)) else (
κ0 false)
def p_55 {R : Type} (N : Nat) (x : (Y0 × Unit) × (Unit)) (κ0 : Bool → Option R) : Option R := Q_55 x κ0
def EG_55 {R : Type} : Env R := Env.base QQ LN AA
def LG_55 {R : Type} : Loops R := Loops.none
def E_55 {R : Type} (N : Nat) : Env R := EG_55
theorem eok_55 {R : Type} (N : Nat) : EK Try.prog (E_55 (R := R) N) := ek_base _ _ _
def L_55 {R : Type} (N : Nat) : Loops R := LG_55
theorem lok_55 {R : Type} (N : Nat) : LOK 0 TT (E_55 (R := R) N) (drawAny TT WW) (L_55 N) (bodyOf Try.f55) := loops_nil (by kernel_rfl)
theorem grun_55 {R : Type} (x : aden ap_55 × hden hp_55) (k : KF R) : fnrun TT (EG_55) (drawAny TT WW) (LG_55) true Try.f55 (instA ap_55 x.1) (instH hp_55 x.2) k = Q_55 x (fun y => k (Pat.inst (.bool) y) (instH hp_55 x.2)) := by kernel_rfl
theorem run_55 {R : Type} (N : Nat) (x : aden ap_55 × hden hp_55) (k : KF R) : fnrun TT (E_55 (R := R) N) (drawAny TT WW) (L_55 N) true Try.f55 (instA ap_55 x.1) (instH hp_55 x.2) k = p_55 N x (fun y => k (Pat.inst (.bool) y) (instH hp_55 x.2)) := (grun_55 x k).trans (by kernel_rfl)
theorem good_55 {R : Type} (N : Nat) : GD (X := R) Try.prog QQ AA 55 ap_55 hp_55 (fun (x : aden ap_55 × hden hp_55) k => p_55 N x (fun y => k (Pat.inst (.bool) y) (instH hp_55 x.2))) :=
  gd_quiet (E := E_55 N) (p := fun (x : aden ap_55 × hden hp_55) κ => p_55 N x (fun y => κ (Pat.inst (.bool) y))) mixed tyok (eok_55 N) Try.func55 (by kernel_rfl) (by kernel_rfl) (lok_55 N) (fun x k => run_55 N x k)

def ap_43 : List Pat := [.int .i64]
def hp_43 : List (Option (Pat × Nat)) := []
abbrev Tp_43 (R : Type) : Type := (Int × Unit) × (Unit) → (((Unit × (Int × Unit)) × (Unit)) → Option R) → (((Unit × (Int × Unit)) × (Y2 × Unit)) → Option R) → Option R
def Q_43 {R : Type} (x : (Int × Unit) × (Unit)) (κ0 : ((Unit × (Int × Unit)) × (Unit)) → Option R) (κ1 : ((Unit × (Int × Unit)) × (Y2 × Unit)) → Option R) : Option R :=
let i64 := x.1.1
bif (decide (i64 < 0)) then (
κ0 (((), (1, ())), ())) else (
bif (decide (i64 > 4194304)) then (
κ0 (((), (1, ())), ())) else (
κ1 (((), (0, ())), ((i64, (0, (0, (0, ())))), ()))))
def p_43 {R : Type} (N : Nat) (x : (Int × Unit) × (Unit)) (κ0 : ((Unit × (Int × Unit)) × (Unit)) → Option R) (κ1 : ((Unit × (Int × Unit)) × (Y2 × Unit)) → Option R) : Option R := Q_43 x κ0 κ1
def EG_43 {R : Type} : Env R := Env.base QQ LN AA
def LG_43 {R : Type} : Loops R := Loops.none
def E_43 {R : Type} (N : Nat) : Env R := EG_43
theorem eok_43 {R : Type} (N : Nat) : EK Try.prog (E_43 (R := R) N) := ek_base _ _ _
def L_43 {R : Type} (N : Nat) : Loops R := LG_43
theorem lok_43 {R : Type} (N : Nat) : LOK 0 TT (E_43 (R := R) N) (drawAny TT WW) (L_43 N) (bodyOf Try.f43) := loops_nil (by kernel_rfl)
theorem grun_43 {R : Type} (x : aden ap_43 × hden hp_43) (k : KF R) : fnrun TT (EG_43) (drawAny TT WW) (LG_43) true Try.f43 (instA ap_43 x.1) (instH hp_43 x.2) k = Q_43 x (fun y => k (Pat.inst (.tup (.fcons (.nilp) (.fcons (.int .i64) (.fnil)))) y.1) (instH [] y.2)) (fun y => k (Pat.inst (.tup (.fcons (.ptr 0 []) (.fcons (.int .i64) (.fnil)))) y.1) (instH [some (Z2, 145)] y.2)) := by kernel_rfl
theorem run_43 {R : Type} (N : Nat) (x : aden ap_43 × hden hp_43) (k : KF R) : fnrun TT (E_43 (R := R) N) (drawAny TT WW) (L_43 N) true Try.f43 (instA ap_43 x.1) (instH hp_43 x.2) k = p_43 N x (fun y => k (Pat.inst (.tup (.fcons (.nilp) (.fcons (.int .i64) (.fnil)))) y.1) (instH [] y.2)) (fun y => k (Pat.inst (.tup (.fcons (.ptr 0 []) (.fcons (.int .i64) (.fnil)))) y.1) (instH [some (Z2, 145)] y.2)) := (grun_43 x k).trans (by kernel_rfl)
theorem good_43 {R : Type} (N : Nat) : GD (X := R) Try.prog QQ AA 43 ap_43 hp_43 (fun (x : aden ap_43 × hden hp_43) k => p_43 N x (fun y => k (Pat.inst (.tup (.fcons (.nilp) (.fcons (.int .i64) (.fnil)))) y.1) (instH [] y.2)) (fun y => k (Pat.inst (.tup (.fcons (.ptr 0 []) (.fcons (.int .i64) (.fnil)))) y.1) (instH [some (Z2, 145)] y.2))) :=
  gd_loud (E := E_43 N) (p := fun (x : aden ap_43 × hden hp_43) k => p_43 N x (fun y => k (Pat.inst (.tup (.fcons (.nilp) (.fcons (.int .i64) (.fnil)))) y.1) (instH [] y.2)) (fun y => k (Pat.inst (.tup (.fcons (.ptr 0 []) (.fcons (.int .i64) (.fnil)))) y.1) (instH [some (Z2, 145)] y.2))) mixed tyok (eok_43 N) Try.func43 (by kernel_rfl) (by kernel_rfl) (by kernel_rfl) (by kernel_rfl) (lok_43 N) (fun x k => run_43 N x k)

def ap_44 : List Pat := [.nilp, .int .i64]
def hp_44 : List (Option (Pat × Nat)) := []
abbrev Tp_44 (R : Type) : Type := (Unit × Int × Unit) × (Unit) → (((Unit × (Int × Unit)) × (Unit)) → Option R) → Option R
def Q_44 {R : Type} (x : (Unit × Int × Unit) × (Unit)) (κ0 : ((Unit × (Int × Unit)) × (Unit)) → Option R) : Option R :=
let i67 := x.1.2.1
κ0 (((), (11, ())), ())
def p_44 {R : Type} (N : Nat) (x : (Unit × Int × Unit) × (Unit)) (κ0 : ((Unit × (Int × Unit)) × (Unit)) → Option R) : Option R := Q_44 x κ0
def EG_44 {R : Type} : Env R := Env.base QQ LN AA
def LG_44 {R : Type} : Loops R := Loops.none
def E_44 {R : Type} (N : Nat) : Env R := EG_44
theorem eok_44 {R : Type} (N : Nat) : EK Try.prog (E_44 (R := R) N) := ek_base _ _ _
def L_44 {R : Type} (N : Nat) : Loops R := LG_44
theorem lok_44 {R : Type} (N : Nat) : LOK 0 TT (E_44 (R := R) N) (drawAny TT WW) (L_44 N) (bodyOf Try.f44) := loops_nil (by kernel_rfl)
theorem grun_44 {R : Type} (x : aden ap_44 × hden hp_44) (k : KF R) : fnrun TT (EG_44) (drawAny TT WW) (LG_44) true Try.f44 (instA ap_44 x.1) (instH hp_44 x.2) k = Q_44 x (fun y => k (Pat.inst (.tup (.fcons (.nilp) (.fcons (.int .i64) (.fnil)))) y.1) (instH [] y.2)) := by kernel_rfl
theorem run_44 {R : Type} (N : Nat) (x : aden ap_44 × hden hp_44) (k : KF R) : fnrun TT (E_44 (R := R) N) (drawAny TT WW) (L_44 N) true Try.f44 (instA ap_44 x.1) (instH hp_44 x.2) k = p_44 N x (fun y => k (Pat.inst (.tup (.fcons (.nilp) (.fcons (.int .i64) (.fnil)))) y.1) (instH [] y.2)) := (grun_44 x k).trans (by kernel_rfl)
theorem good_44 {R : Type} (N : Nat) : GD (X := R) Try.prog QQ AA 44 ap_44 hp_44 (fun (x : aden ap_44 × hden hp_44) k => p_44 N x (fun y => k (Pat.inst (.tup (.fcons (.nilp) (.fcons (.int .i64) (.fnil)))) y.1) (instH [] y.2))) :=
  gd_loud (E := E_44 N) (p := fun (x : aden ap_44 × hden hp_44) k => p_44 N x (fun y => k (Pat.inst (.tup (.fcons (.nilp) (.fcons (.int .i64) (.fnil)))) y.1) (instH [] y.2))) mixed tyok (eok_44 N) Try.func44 (by kernel_rfl) (by kernel_rfl) (by kernel_rfl) (by kernel_rfl) (lok_44 N) (fun x k => run_44 N x k)

def ap_45 : List Pat := [.nilp, .node (.fcons (.int .i64) (.fcons (.int .i64) (.fcons (.int .i64) (.fcons (.int .i64) (.fcons (.int .i64) (.fcons (.int .i64) (.fcons (.int .i64) (.fcons (.int .i64) (.fnil)))))))))]
def hp_45 : List (Option (Pat × Nat)) := []
abbrev Tp_45 (R : Type) : Type := (Unit × Y0 × Unit) × (Unit) → (((Unit × (Int × Unit)) × (Unit)) → Option R) → Option R
def Q_45 {R : Type} (x : (Unit × Y0 × Unit) × (Unit)) (κ0 : ((Unit × (Int × Unit)) × (Unit)) → Option R) : Option R :=
let i70 := x.1.2.1.1
let i71 := x.1.2.1.2.1
let i72 := x.1.2.1.2.2.1
let i73 := x.1.2.1.2.2.2.1
let i74 := x.1.2.1.2.2.2.2.1
let i75 := x.1.2.1.2.2.2.2.2.1
let i76 := x.1.2.1.2.2.2.2.2.2.1
let i77 := x.1.2.1.2.2.2.2.2.2.2.1
κ0 (((), (11, ())), ())
def p_45 {R : Type} (N : Nat) (x : (Unit × Y0 × Unit) × (Unit)) (κ0 : ((Unit × (Int × Unit)) × (Unit)) → Option R) : Option R := Q_45 x κ0
def EG_45 {R : Type} : Env R := Env.base QQ LN AA
def LG_45 {R : Type} : Loops R := Loops.none
def E_45 {R : Type} (N : Nat) : Env R := EG_45
theorem eok_45 {R : Type} (N : Nat) : EK Try.prog (E_45 (R := R) N) := ek_base _ _ _
def L_45 {R : Type} (N : Nat) : Loops R := LG_45
theorem lok_45 {R : Type} (N : Nat) : LOK 0 TT (E_45 (R := R) N) (drawAny TT WW) (L_45 N) (bodyOf Try.f45) := loops_nil (by kernel_rfl)
theorem grun_45 {R : Type} (x : aden ap_45 × hden hp_45) (k : KF R) : fnrun TT (EG_45) (drawAny TT WW) (LG_45) true Try.f45 (instA ap_45 x.1) (instH hp_45 x.2) k = Q_45 x (fun y => k (Pat.inst (.tup (.fcons (.nilp) (.fcons (.int .i64) (.fnil)))) y.1) (instH [] y.2)) := by kernel_rfl
theorem run_45 {R : Type} (N : Nat) (x : aden ap_45 × hden hp_45) (k : KF R) : fnrun TT (E_45 (R := R) N) (drawAny TT WW) (L_45 N) true Try.f45 (instA ap_45 x.1) (instH hp_45 x.2) k = p_45 N x (fun y => k (Pat.inst (.tup (.fcons (.nilp) (.fcons (.int .i64) (.fnil)))) y.1) (instH [] y.2)) := (grun_45 x k).trans (by kernel_rfl)
theorem good_45 {R : Type} (N : Nat) : GD (X := R) Try.prog QQ AA 45 ap_45 hp_45 (fun (x : aden ap_45 × hden hp_45) k => p_45 N x (fun y => k (Pat.inst (.tup (.fcons (.nilp) (.fcons (.int .i64) (.fnil)))) y.1) (instH [] y.2))) :=
  gd_loud (E := E_45 N) (p := fun (x : aden ap_45 × hden hp_45) k => p_45 N x (fun y => k (Pat.inst (.tup (.fcons (.nilp) (.fcons (.int .i64) (.fnil)))) y.1) (instH [] y.2))) mixed tyok (eok_45 N) Try.func45 (by kernel_rfl) (by kernel_rfl) (by kernel_rfl) (by kernel_rfl) (lok_45 N) (fun x k => run_45 N x k)

def ap_44_v1 : List Pat := [.ptr 0 [], .int .i64]
def hp_44_v1 : List (Option (Pat × Nat)) := [some (Z2, 145)]
abbrev Tp_44_v1 (R : Type) : Type := (Unit × Int × Unit) × (Y2 × Unit) → (((Unit × (Int × Unit)) × (Y2 × Unit)) → Option R) → (((Unit × (Int × Unit)) × (Y2 × Y5 × (List (Nat → Int)) × Unit)) → Option R) → Option R
def Q_44_v1 {R : Type} (x : (Unit × Int × Unit) × (Y2 × Unit)) (κ0 : ((Unit × (Int × Unit)) × (Y2 × Unit)) → Option R) (κ1 : ((Unit × (Int × Unit)) × (Y2 × Y5 × (List (Nat → Int)) × Unit)) → Option R) : Option R :=
let i86 := x.1.2.1
let i87 := x.2.1.1
let i88 := x.2.1.2.1
let i89 := x.2.1.2.2.1
let i90 := x.2.1.2.2.2.1
bif (decide (i86 < 0)) then (
κ0 (((), (1, ())), ((i87, (i88, (i89, (i90, ())))), ()))) else (
let i91 : Int := subA .i64 i87 i88
bif (decide (i86 > i91)) then (
κ0 (((), (4, ())), ((i87, (i88, (i89, (i90, ())))), ()))) else (
let i92 : Int := addA .i64 i88 i86
let i93 : Int := maxA i89 i92
let i94 : Int := addA .i64 i90 1
bif decide (0 ≤ i86) then (
bif decide (i86 ≤ i86) then (
bif decide (((1024 : Nat) : Int) * i86 ≤ 281474976710656) then (
bif decide (i86 ≤ 9223372036854775807) then (
let l95 : (List (Nat → Int)) := List.replicate ((Int.toNat i86)) (Sch.zero (.arr 128 (.int .u64)))
κ1 (((), (0, ())), ((i87, (i92, (i93, (i94, ())))), ((), ((), (true, ()))), l95, ()))) else none) else none) else none) else none))
def p_44_v1 {R : Type} (N : Nat) (x : (Unit × Int × Unit) × (Y2 × Unit)) (κ0 : ((Unit × (Int × Unit)) × (Y2 × Unit)) → Option R) (κ1 : ((Unit × (Int × Unit)) × (Y2 × Y5 × (List (Nat → Int)) × Unit)) → Option R) : Option R := Q_44_v1 x κ0 κ1
def EG_44_v1 {R : Type} : Env R := Env.base QQ LN AA
def LG_44_v1 {R : Type} : Loops R := Loops.none
def E_44_v1 {R : Type} (N : Nat) : Env R := EG_44_v1
theorem eok_44_v1 {R : Type} (N : Nat) : EK Try.prog (E_44_v1 (R := R) N) := ek_base _ _ _
def L_44_v1 {R : Type} (N : Nat) : Loops R := LG_44_v1
theorem lok_44_v1 {R : Type} (N : Nat) : LOK 1 TT (E_44_v1 (R := R) N) (drawAny TT WW) (L_44_v1 N) (bodyOf Try.f44) := loops_nil (by kernel_rfl)
theorem grun_44_v1 {R : Type} (x : aden ap_44_v1 × hden hp_44_v1) (k : KF R) : fnrun TT (EG_44_v1) (drawAny TT WW) (LG_44_v1) true Try.f44 (instA ap_44_v1 x.1) (instH hp_44_v1 x.2) k = Q_44_v1 x (fun y => k (Pat.inst (.tup (.fcons (.nilp) (.fcons (.int .i64) (.fnil)))) y.1) (instH [some (Z2, 145)] y.2)) (fun y => k (Pat.inst (.tup (.fcons (.ptr 1 []) (.fcons (.int .i64) (.fnil)))) y.1) (instH J6 y.2)) := by kernel_rfl
theorem run_44_v1 {R : Type} (N : Nat) (x : aden ap_44_v1 × hden hp_44_v1) (k : KF R) : fnrun TT (E_44_v1 (R := R) N) (drawAny TT WW) (L_44_v1 N) true Try.f44 (instA ap_44_v1 x.1) (instH hp_44_v1 x.2) k = p_44_v1 N x (fun y => k (Pat.inst (.tup (.fcons (.nilp) (.fcons (.int .i64) (.fnil)))) y.1) (instH [some (Z2, 145)] y.2)) (fun y => k (Pat.inst (.tup (.fcons (.ptr 1 []) (.fcons (.int .i64) (.fnil)))) y.1) (instH J6 y.2)) := (grun_44_v1 x k).trans (by kernel_rfl)
theorem good_44_v1 {R : Type} (N : Nat) : GD (X := R) Try.prog QQ AA 44 ap_44_v1 hp_44_v1 (fun (x : aden ap_44_v1 × hden hp_44_v1) k => p_44_v1 N x (fun y => k (Pat.inst (.tup (.fcons (.nilp) (.fcons (.int .i64) (.fnil)))) y.1) (instH [some (Z2, 145)] y.2)) (fun y => k (Pat.inst (.tup (.fcons (.ptr 1 []) (.fcons (.int .i64) (.fnil)))) y.1) (instH J6 y.2))) :=
  gd_loud (E := E_44_v1 N) (p := fun (x : aden ap_44_v1 × hden hp_44_v1) k => p_44_v1 N x (fun y => k (Pat.inst (.tup (.fcons (.nilp) (.fcons (.int .i64) (.fnil)))) y.1) (instH [some (Z2, 145)] y.2)) (fun y => k (Pat.inst (.tup (.fcons (.ptr 1 []) (.fcons (.int .i64) (.fnil)))) y.1) (instH J6 y.2))) mixed tyok (eok_44_v1 N) Try.func44 (by kernel_rfl) (by kernel_rfl) (by kernel_rfl) (by kernel_rfl) (lok_44_v1 N) (fun x k => run_44_v1 N x k)

def ap_77 : List Pat := [.ptr 0 []]
def hp_77 : List (Option (Pat × Nat)) := J4
abbrev Tp_77 (R : Type) : Type := (Unit × Unit) × (Y5 × Y2 × (List (Nat → Int)) × Unit) → (Int → Option R) → Option R
def Q_77 {R : Type} (x : (Unit × Unit) × (Y5 × Y2 × (List (Nat → Int)) × Unit)) (κ0 : Int → Option R) : Option R :=
let b126 := x.2.1.2.2.1
let i127 := x.2.2.1.1
let i128 := x.2.2.1.2.1
let i129 := x.2.2.1.2.2.1
let i130 := x.2.2.1.2.2.2.1
let l131 := x.2.2.2.1
let i132 : Int := (((List.length l131) : Nat) : Int)
κ0 i132
def p_77 {R : Type} (N : Nat) (x : (Unit × Unit) × (Y5 × Y2 × (List (Nat → Int)) × Unit)) (κ0 : Int → Option R) : Option R := Q_77 x κ0
def EG_77 {R : Type} : Env R := Env.base QQ LN AA
def LG_77 {R : Type} : Loops R := Loops.none
def E_77 {R : Type} (N : Nat) : Env R := EG_77
theorem eok_77 {R : Type} (N : Nat) : EK Try.prog (E_77 (R := R) N) := ek_base _ _ _
def L_77 {R : Type} (N : Nat) : Loops R := LG_77
theorem lok_77 {R : Type} (N : Nat) : LOK 3 TT (E_77 (R := R) N) (drawAny TT WW) (L_77 N) (bodyOf Try.f77) := loops_nil (by kernel_rfl)
theorem grun_77 {R : Type} (x : aden ap_77 × hden hp_77) (k : KF R) : fnrun TT (EG_77) (drawAny TT WW) (LG_77) true Try.f77 (instA ap_77 x.1) (instH hp_77 x.2) k = Q_77 x (fun y => k (Pat.inst (.int .i64) y) (instH hp_77 x.2)) := by kernel_rfl
theorem run_77 {R : Type} (N : Nat) (x : aden ap_77 × hden hp_77) (k : KF R) : fnrun TT (E_77 (R := R) N) (drawAny TT WW) (L_77 N) true Try.f77 (instA ap_77 x.1) (instH hp_77 x.2) k = p_77 N x (fun y => k (Pat.inst (.int .i64) y) (instH hp_77 x.2)) := (grun_77 x k).trans (by kernel_rfl)
theorem good_77 {R : Type} (N : Nat) : GD (X := R) Try.prog QQ AA 77 ap_77 hp_77 (fun (x : aden ap_77 × hden hp_77) k => p_77 N x (fun y => k (Pat.inst (.int .i64) y) (instH hp_77 x.2))) :=
  gd_quiet (E := E_77 N) (p := fun (x : aden ap_77 × hden hp_77) κ => p_77 N x (fun y => κ (Pat.inst (.int .i64) y))) mixed tyok (eok_77 N) Try.func77 (by kernel_rfl) (by kernel_rfl) (lok_77 N) (fun x k => run_77 N x k)

def ap_45_v1 : List Pat := [.ptr 0 [], .node (.fcons (.int .i64) (.fcons (.int .i64) (.fcons (.int .i64) (.fcons (.int .i64) (.fcons (.int .i64) (.fcons (.int .i64) (.fcons (.int .i64) (.fcons (.int .i64) (.fnil)))))))))]
def hp_45_v1 : List (Option (Pat × Nat)) := J4
abbrev Tp_45_v1 (R : Type) : Type := (Unit × Y0 × Unit) × (Y5 × Y2 × (List (Nat → Int)) × Unit) → (((Unit × (Int × Unit)) × (Y5 × Y2 × (List (Nat → Int)) × Unit)) → Option R) → (((Unit × (Int × Unit)) × (Y5 × Y2 × (List (Nat → Int)) × (Unit × (Y0 × Unit)) × Unit)) → Option R) → Option R
def Q_45_v1 {R : Type} (q_77 : Tp_77 R) (x : (Unit × Y0 × Unit) × (Y5 × Y2 × (List (Nat → Int)) × Unit)) (κ0 : ((Unit × (Int × Unit)) × (Y5 × Y2 × (List (Nat → Int)) × Unit)) → Option R) (κ1 : ((Unit × (Int × Unit)) × (Y5 × Y2 × (List (Nat → Int)) × (Unit × (Y0 × Unit)) × Unit)) → Option R) : Option R :=
let i112 := x.1.2.1.1
let i113 := x.1.2.1.2.1
let i114 := x.1.2.1.2.2.1
let i115 := x.1.2.1.2.2.2.1
let i116 := x.1.2.1.2.2.2.2.1
let i117 := x.1.2.1.2.2.2.2.2.1
let i118 := x.1.2.1.2.2.2.2.2.2.1
let i119 := x.1.2.1.2.2.2.2.2.2.2.1
let b120 := x.2.1.2.2.1
let i121 := x.2.2.1.1
let i122 := x.2.2.1.2.1
let i123 := x.2.2.1.2.2.1
let i124 := x.2.2.1.2.2.2.1
let l125 := x.2.2.2.1
bif (decide (i114 < 1)) then (
κ0 (((), (11, ())), (((), ((), (b120, ()))), (i121, (i122, (i123, (i124, ())))), l125, ()))) else (
q_77 (((), ()), (((), ((), (b120, ()))), (i121, (i122, (i123, (i124, ())))), l125, ())) (fun y133 =>
let i134 : Int := y133
bif (decide (i134 < i116)) then (
κ0 (((), (9, ())), (((), ((), (b120, ()))), (i121, (i122, (i123, (i124, ())))), l125, ()))) else (
κ1 (((), (0, ())), (((), ((), (b120, ()))), (i121, (i122, (i123, (i124, ())))), l125, ((), ((i112, (i113, (i114, (i115, (i116, (i117, (i118, (i119, ())))))))), ())), ())))))
def p_45_v1 {R : Type} (N : Nat) (x : (Unit × Y0 × Unit) × (Y5 × Y2 × (List (Nat → Int)) × Unit)) (κ0 : ((Unit × (Int × Unit)) × (Y5 × Y2 × (List (Nat → Int)) × Unit)) → Option R) (κ1 : ((Unit × (Int × Unit)) × (Y5 × Y2 × (List (Nat → Int)) × (Unit × (Y0 × Unit)) × Unit)) → Option R) : Option R := Q_45_v1 (p_77 N) x κ0 κ1
def EG_45_v1 {R : Type} (q_77 : Tp_77 R) : Env R := (Env.base QQ LN AA).add 77 ap_77 hp_77 (fun (x : aden ap_77 × hden hp_77) k => q_77 x (fun y => k (Pat.inst (.int .i64) y) (instH hp_77 x.2)))
def LG_45_v1 {R : Type} : Loops R := Loops.none
def E_45_v1 {R : Type} (N : Nat) : Env R := EG_45_v1 (p_77 N)
theorem eok_45_v1 {R : Type} (N : Nat) : EK Try.prog (E_45_v1 (R := R) N) := ek_add (ek_base _ _ _) (good_77 N)
def L_45_v1 {R : Type} (N : Nat) : Loops R := LG_45_v1
theorem lok_45_v1 {R : Type} (N : Nat) : LOK 3 TT (E_45_v1 (R := R) N) (drawAny TT WW) (L_45_v1 N) (bodyOf Try.f45) := loops_nil (by kernel_rfl)
theorem grun_45_v1 {R : Type} (q_77 : Tp_77 R) (x : aden ap_45_v1 × hden hp_45_v1) (k : KF R) : fnrun TT (EG_45_v1 q_77) (drawAny TT WW) (LG_45_v1) true Try.f45 (instA ap_45_v1 x.1) (instH hp_45_v1 x.2) k = Q_45_v1 q_77 x (fun y => k (Pat.inst (.tup (.fcons (.nilp) (.fcons (.int .i64) (.fnil)))) y.1) (instH J4 y.2)) (fun y => k (Pat.inst (.tup (.fcons (.ptr 3 []) (.fcons (.int .i64) (.fnil)))) y.1) (instH J7 y.2)) := by kernel_rfl
theorem run_45_v1 {R : Type} (N : Nat) (x : aden ap_45_v1 × hden hp_45_v1) (k : KF R) : fnrun TT (E_45_v1 (R := R) N) (drawAny TT WW) (L_45_v1 N) true Try.f45 (instA ap_45_v1 x.1) (instH hp_45_v1 x.2) k = p_45_v1 N x (fun y => k (Pat.inst (.tup (.fcons (.nilp) (.fcons (.int .i64) (.fnil)))) y.1) (instH J4 y.2)) (fun y => k (Pat.inst (.tup (.fcons (.ptr 3 []) (.fcons (.int .i64) (.fnil)))) y.1) (instH J7 y.2)) := (grun_45_v1 (p_77 N) x k).trans (by kernel_rfl)
theorem good_45_v1 {R : Type} (N : Nat) : GD (X := R) Try.prog QQ AA 45 ap_45_v1 hp_45_v1 (fun (x : aden ap_45_v1 × hden hp_45_v1) k => p_45_v1 N x (fun y => k (Pat.inst (.tup (.fcons (.nilp) (.fcons (.int .i64) (.fnil)))) y.1) (instH J4 y.2)) (fun y => k (Pat.inst (.tup (.fcons (.ptr 3 []) (.fcons (.int .i64) (.fnil)))) y.1) (instH J7 y.2))) :=
  gd_loud (E := E_45_v1 N) (p := fun (x : aden ap_45_v1 × hden hp_45_v1) k => p_45_v1 N x (fun y => k (Pat.inst (.tup (.fcons (.nilp) (.fcons (.int .i64) (.fnil)))) y.1) (instH J4 y.2)) (fun y => k (Pat.inst (.tup (.fcons (.ptr 3 []) (.fcons (.int .i64) (.fnil)))) y.1) (instH J7 y.2))) mixed tyok (eok_45_v1 N) Try.func45 (by kernel_rfl) (by kernel_rfl) (by kernel_rfl) (by kernel_rfl) (lok_45_v1 N) (fun x k => run_45_v1 N x k)

def ap_14 : List Pat := [.node (.fcons (.int .i64) (.fcons (.int .i64) (.fcons (.int .i64) (.fcons (.int .i64) (.fcons (.int .i64) (.fnil))))))]
def hp_14 : List (Option (Pat × Nat)) := []
abbrev Tp_14 (R : Type) : Type := ((Int × Y2) × Unit) × (Unit) → ((Unit × (Unit)) → Option R) → ((Unit × Y7) → Option R) → Option R
def Q_14 {R : Type} (q_42 : Tp_42 R) (q_55 : Tp_55 R) (q_43 : Tp_43 R) (q_44 : Tp_44 R) (q_45 : Tp_45 R) (q_44_v1 : Tp_44_v1 R) (q_45_v1 : Tp_45_v1 R) (x : ((Int × Y2) × Unit) × (Unit)) (κ0 : (Unit × (Unit)) → Option R) (κ1 : (Unit × Y7) → Option R) : Option R :=
let i7 := x.1.1.1
let i8 := x.1.1.2.1
let i9 := x.1.1.2.2.1
let i10 := x.1.1.2.2.2.1
let i11 := x.1.1.2.2.2.2.1
q_42 (((i7, (i8, (i9, (i10, (i11, ()))))), ()), ()) (fun y44 =>
let i45 := y44.1.1
let i46 := y44.1.2.1
let i47 := y44.1.2.2.1
let i48 := y44.1.2.2.2.1
let i49 := y44.1.2.2.2.2.1
let i50 := y44.1.2.2.2.2.2.1
let i51 := y44.1.2.2.2.2.2.2.1
let i52 := y44.1.2.2.2.2.2.2.2.1
let i53 := y44.2.1
bif (i53 != 0) then (
κ0 ((), ())) else (
q_55 (((i45, (i46, (i47, (i48, (i49, (i50, (i51, (i52, ())))))))), ()), ()) (fun y62 =>
let b63 := y62
bif (!b63) then (
κ0 ((), ())) else (
q_43 ((i49, ()), ()) (fun y65 =>
let i66 := y65.1.2.1
q_44 (((), i49, ()), ()) (fun y68 =>
let i69 := y68.1.2.1
q_45 (((), (i45, (i46, (i47, (i48, (i49, (i50, (i51, (i52, ())))))))), ()), ()) (fun y78 =>
let i79 := y78.1.2.1
κ0 ((), ())))) (fun y80 =>
let i81 := y80.1.2.1
let i82 := y80.2.1.1
let i83 := y80.2.1.2.1
let i84 := y80.2.1.2.2.1
let i85 := y80.2.1.2.2.2.1
q_44_v1 (((), i49, ()), ((i82, (i83, (i84, (i85, ())))), ())) (fun y96 =>
let i97 := y96.1.2.1
let i98 := y96.2.1.1
let i99 := y96.2.1.2.1
let i100 := y96.2.1.2.2.1
let i101 := y96.2.1.2.2.2.1
q_45 (((), (i45, (i46, (i47, (i48, (i49, (i50, (i51, (i52, ())))))))), ()), ()) (fun y102 =>
let i103 := y102.1.2.1
κ0 ((), ()))) (fun y104 =>
let i105 := y104.1.2.1
let i106 := y104.2.1.1
let i107 := y104.2.1.2.1
let i108 := y104.2.1.2.2.1
let i109 := y104.2.1.2.2.2.1
let b110 := y104.2.2.1.2.2.1
let l111 := y104.2.2.2.1
q_45_v1 (((), (i45, (i46, (i47, (i48, (i49, (i50, (i51, (i52, ())))))))), ()), (((), ((), (b110, ()))), (i106, (i107, (i108, (i109, ())))), l111, ())) (fun y135 =>
let i136 := y135.1.2.1
let b137 := y135.2.1.2.2.1
let i138 := y135.2.2.1.1
let i139 := y135.2.2.1.2.1
let i140 := y135.2.2.1.2.2.1
let i141 := y135.2.2.1.2.2.2.1
let l142 := y135.2.2.2.1
κ0 ((), ())) (fun y143 =>
let i144 := y143.1.2.1
let b145 := y143.2.1.2.2.1
let i146 := y143.2.2.1.1
let i147 := y143.2.2.1.2.1
let i148 := y143.2.2.1.2.2.1
let i149 := y143.2.2.1.2.2.2.1
let l150 := y143.2.2.2.1
let i151 := y143.2.2.2.2.1.2.1.1
let i152 := y143.2.2.2.2.1.2.1.2.1
let i153 := y143.2.2.2.2.1.2.1.2.2.1
let i154 := y143.2.2.2.2.1.2.1.2.2.2.1
let i155 := y143.2.2.2.2.1.2.1.2.2.2.2.1
let i156 := y143.2.2.2.2.1.2.1.2.2.2.2.2.1
let i157 := y143.2.2.2.2.1.2.1.2.2.2.2.2.2.1
let i158 := y143.2.2.2.2.1.2.1.2.2.2.2.2.2.2.1
κ1 ((), (((), ((i151, (i152, (i153, (i154, (i155, (i156, (i157, (i158, ())))))))), ())), ((), ((), (b145, ()))), (i146, (i147, (i148, (i149, ())))), l150, ())))))))))
def p_14 {R : Type} (N : Nat) (x : ((Int × Y2) × Unit) × (Unit)) (κ0 : (Unit × (Unit)) → Option R) (κ1 : (Unit × Y7) → Option R) : Option R := Q_14 (p_42 N) (p_55 N) (p_43 N) (p_44 N) (p_45 N) (p_44_v1 N) (p_45_v1 N) x κ0 κ1
def EG_14 {R : Type} (q_42 : Tp_42 R) (q_55 : Tp_55 R) (q_43 : Tp_43 R) (q_44 : Tp_44 R) (q_45 : Tp_45 R) (q_44_v1 : Tp_44_v1 R) (q_45_v1 : Tp_45_v1 R) : Env R := (((((((Env.base QQ LN AA).add 42 ap_42 hp_42 (fun (x : aden ap_42 × hden hp_42) k => q_42 x (fun y => k (Pat.inst (.tup (.fcons Z0 (.fcons (.int .i64) (.fnil)))) y) (instH hp_42 x.2)))).add 55 ap_55 hp_55 (fun (x : aden ap_55 × hden hp_55) k => q_55 x (fun y => k (Pat.inst (.bool) y) (instH hp_55 x.2)))).add 43 ap_43 hp_43 (fun (x : aden ap_43 × hden hp_43) k => q_43 x (fun y => k (Pat.inst (.tup (.fcons (.nilp) (.fcons (.int .i64) (.fnil)))) y.1) (instH [] y.2)) (fun y => k (Pat.inst (.tup (.fcons (.ptr 0 []) (.fcons (.int .i64) (.fnil)))) y.1) (instH [some (Z2, 145)] y.2)))).add 44 ap_44 hp_44 (fun (x : aden ap_44 × hden hp_44) k => q_44 x (fun y => k (Pat.inst (.tup (.fcons (.nilp) (.fcons (.int .i64) (.fnil)))) y.1) (instH [] y.2)))).add 45 ap_45 hp_45 (fun (x : aden ap_45 × hden hp_45) k => q_45 x (fun y => k (Pat.inst (.tup (.fcons (.nilp) (.fcons (.int .i64) (.fnil)))) y.1) (instH [] y.2)))).add 44 ap_44_v1 hp_44_v1 (fun (x : aden ap_44_v1 × hden hp_44_v1) k => q_44_v1 x (fun y => k (Pat.inst (.tup (.fcons (.nilp) (.fcons (.int .i64) (.fnil)))) y.1) (instH [some (Z2, 145)] y.2)) (fun y => k (Pat.inst (.tup (.fcons (.ptr 1 []) (.fcons (.int .i64) (.fnil)))) y.1) (instH J6 y.2)))).add 45 ap_45_v1 hp_45_v1 (fun (x : aden ap_45_v1 × hden hp_45_v1) k => q_45_v1 x (fun y => k (Pat.inst (.tup (.fcons (.nilp) (.fcons (.int .i64) (.fnil)))) y.1) (instH J4 y.2)) (fun y => k (Pat.inst (.tup (.fcons (.ptr 3 []) (.fcons (.int .i64) (.fnil)))) y.1) (instH J7 y.2)))
def LG_14 {R : Type} : Loops R := Loops.none
def E_14 {R : Type} (N : Nat) : Env R := EG_14 (p_42 N) (p_55 N) (p_43 N) (p_44 N) (p_45 N) (p_44_v1 N) (p_45_v1 N)
theorem eok_14 {R : Type} (N : Nat) : EK Try.prog (E_14 (R := R) N) := ek_add (ek_add (ek_add (ek_add (ek_add (ek_add (ek_add (ek_base _ _ _) (good_42 N)) (good_55 N)) (good_43 N)) (good_44 N)) (good_45 N)) (good_44_v1 N)) (good_45_v1 N)
def L_14 {R : Type} (N : Nat) : Loops R := LG_14
theorem lok_14 {R : Type} (N : Nat) : LOK 0 TT (E_14 (R := R) N) (drawAny TT WW) (L_14 N) (bodyOf Try.f14) := loops_nil (by kernel_rfl)
theorem grun_14 {R : Type} (q_42 : Tp_42 R) (q_55 : Tp_55 R) (q_43 : Tp_43 R) (q_44 : Tp_44 R) (q_45 : Tp_45 R) (q_44_v1 : Tp_44_v1 R) (q_45_v1 : Tp_45_v1 R) (x : aden ap_14 × hden hp_14) (k : KF R) : fnrun TT (EG_14 q_42 q_55 q_43 q_44 q_45 q_44_v1 q_45_v1) (drawAny TT WW) (LG_14) true Try.f14 (instA ap_14 x.1) (instH hp_14 x.2) k = Q_14 q_42 q_55 q_43 q_44 q_45 q_44_v1 q_45_v1 x (fun y => k (Pat.inst (.nilp) y.1) (instH [] y.2)) (fun y => k (Pat.inst (.ptr 0 []) y.1) (instH J1 y.2)) := by kernel_rfl
theorem run_14 {R : Type} (N : Nat) (x : aden ap_14 × hden hp_14) (k : KF R) : fnrun TT (E_14 (R := R) N) (drawAny TT WW) (L_14 N) true Try.f14 (instA ap_14 x.1) (instH hp_14 x.2) k = p_14 N x (fun y => k (Pat.inst (.nilp) y.1) (instH [] y.2)) (fun y => k (Pat.inst (.ptr 0 []) y.1) (instH J1 y.2)) := (grun_14 (p_42 N) (p_55 N) (p_43 N) (p_44 N) (p_45 N) (p_44_v1 N) (p_45_v1 N) x k).trans (by kernel_rfl)
theorem good_14 {R : Type} (N : Nat) : GD (X := R) Try.prog QQ AA 14 ap_14 hp_14 (fun (x : aden ap_14 × hden hp_14) k => p_14 N x (fun y => k (Pat.inst (.nilp) y.1) (instH [] y.2)) (fun y => k (Pat.inst (.ptr 0 []) y.1) (instH J1 y.2))) :=
  gd_loud (E := E_14 N) (p := fun (x : aden ap_14 × hden hp_14) k => p_14 N x (fun y => k (Pat.inst (.nilp) y.1) (instH [] y.2)) (fun y => k (Pat.inst (.ptr 0 []) y.1) (instH J1 y.2))) mixed tyok (eok_14 N) Try.func14 (by kernel_rfl) (by kernel_rfl) (by kernel_rfl) (by kernel_rfl) (lok_14 N) (fun x k => run_14 N x k)

def ap_22 : List Pat := [.nilp, .int .i64]
def hp_22 : List (Option (Pat × Nat)) := []
abbrev Tp_22 (R : Type) : Type := (Unit × Int × Unit) × (Unit) → (((Unit × (Int × Unit)) × (Unit)) → Option R) → Option R
def Q_22 {R : Type} (x : (Unit × Int × Unit) × (Unit)) (κ0 : ((Unit × (Int × Unit)) × (Unit)) → Option R) : Option R :=
let i160 := x.1.2.1
κ0 (((), (11, ())), ())
def p_22 {R : Type} (N : Nat) (x : (Unit × Int × Unit) × (Unit)) (κ0 : ((Unit × (Int × Unit)) × (Unit)) → Option R) : Option R := Q_22 x κ0
def EG_22 {R : Type} : Env R := Env.base QQ LN AA
def LG_22 {R : Type} : Loops R := Loops.none
def E_22 {R : Type} (N : Nat) : Env R := EG_22
theorem eok_22 {R : Type} (N : Nat) : EK Try.prog (E_22 (R := R) N) := ek_base _ _ _
def L_22 {R : Type} (N : Nat) : Loops R := LG_22
theorem lok_22 {R : Type} (N : Nat) : LOK 0 TT (E_22 (R := R) N) (drawAny TT WW) (L_22 N) (bodyOf Try.f22) := loops_nil (by kernel_rfl)
theorem grun_22 {R : Type} (x : aden ap_22 × hden hp_22) (k : KF R) : fnrun TT (EG_22) (drawAny TT WW) (LG_22) true Try.f22 (instA ap_22 x.1) (instH hp_22 x.2) k = Q_22 x (fun y => k (Pat.inst (.tup (.fcons (.nilp) (.fcons (.int .i64) (.fnil)))) y.1) (instH [] y.2)) := by kernel_rfl
theorem run_22 {R : Type} (N : Nat) (x : aden ap_22 × hden hp_22) (k : KF R) : fnrun TT (E_22 (R := R) N) (drawAny TT WW) (L_22 N) true Try.f22 (instA ap_22 x.1) (instH hp_22 x.2) k = p_22 N x (fun y => k (Pat.inst (.tup (.fcons (.nilp) (.fcons (.int .i64) (.fnil)))) y.1) (instH [] y.2)) := (grun_22 x k).trans (by kernel_rfl)
theorem good_22 {R : Type} (N : Nat) : GD (X := R) Try.prog QQ AA 22 ap_22 hp_22 (fun (x : aden ap_22 × hden hp_22) k => p_22 N x (fun y => k (Pat.inst (.tup (.fcons (.nilp) (.fcons (.int .i64) (.fnil)))) y.1) (instH [] y.2))) :=
  gd_loud (E := E_22 N) (p := fun (x : aden ap_22 × hden hp_22) k => p_22 N x (fun y => k (Pat.inst (.tup (.fcons (.nilp) (.fcons (.int .i64) (.fnil)))) y.1) (instH [] y.2))) mixed tyok (eok_22 N) Try.func22 (by kernel_rfl) (by kernel_rfl) (by kernel_rfl) (by kernel_rfl) (lok_22 N) (fun x k => run_22 N x k)

def ap_27 : List Pat := [.nilp]
def hp_27 : List (Option (Pat × Nat)) := []
abbrev Tp_27 (R : Type) : Type := (Unit × Unit) × (Unit) → ((((Int × (Int × Y9)) × (Int × Unit)) × (Unit)) → Option R) → Option R
def Q_27 {R : Type} (x : (Unit × Unit) × (Unit)) (κ0 : (((Int × (Int × Y9)) × (Int × Unit)) × (Unit)) → Option R) : Option R :=
κ0 (((0, (0, ((0, (0, ())), ((0, (0, ())), ((0, (0, ())), ()))))), (11, ())), ())
def p_27 {R : Type} (N : Nat) (x : (Unit × Unit) × (Unit)) (κ0 : (((Int × (Int × Y9)) × (Int × Unit)) × (Unit)) → Option R) : Option R := Q_27 x κ0
def EG_27 {R : Type} : Env R := Env.base QQ LN AA
def LG_27 {R : Type} : Loops R := Loops.none
def E_27 {R : Type} (N : Nat) : Env R := EG_27
theorem eok_27 {R : Type} (N : Nat) : EK Try.prog (E_27 (R := R) N) := ek_base _ _ _
def L_27 {R : Type} (N : Nat) : Loops R := LG_27
theorem lok_27 {R : Type} (N : Nat) : LOK 0 TT (E_27 (R := R) N) (drawAny TT WW) (L_27 N) (bodyOf Try.f27) := loops_nil (by kernel_rfl)
theorem grun_27 {R : Type} (x : aden ap_27 × hden hp_27) (k : KF R) : fnrun TT (EG_27) (drawAny TT WW) (LG_27) true Try.f27 (instA ap_27 x.1) (instH hp_27 x.2) k = Q_27 x (fun y => k (Pat.inst (.tup (.fcons Z12 (.fcons (.int .i64) (.fnil)))) y.1) (instH [] y.2)) := by kernel_rfl
theorem run_27 {R : Type} (N : Nat) (x : aden ap_27 × hden hp_27) (k : KF R) : fnrun TT (E_27 (R := R) N) (drawAny TT WW) (L_27 N) true Try.f27 (instA ap_27 x.1) (instH hp_27 x.2) k = p_27 N x (fun y => k (Pat.inst (.tup (.fcons Z12 (.fcons (.int .i64) (.fnil)))) y.1) (instH [] y.2)) := (grun_27 x k).trans (by kernel_rfl)
theorem good_27 {R : Type} (N : Nat) : GD (X := R) Try.prog QQ AA 27 ap_27 hp_27 (fun (x : aden ap_27 × hden hp_27) k => p_27 N x (fun y => k (Pat.inst (.tup (.fcons Z12 (.fcons (.int .i64) (.fnil)))) y.1) (instH [] y.2))) :=
  gd_loud (E := E_27 N) (p := fun (x : aden ap_27 × hden hp_27) k => p_27 N x (fun y => k (Pat.inst (.tup (.fcons Z12 (.fcons (.int .i64) (.fnil)))) y.1) (instH [] y.2))) mixed tyok (eok_27 N) Try.func27 (by kernel_rfl) (by kernel_rfl) (by kernel_rfl) (by kernel_rfl) (lok_27 N) (fun x k => run_27 N x k)

def ap_24 : List Pat := [.nilp]
def hp_24 : List (Option (Pat × Nat)) := []
abbrev Tp_24 (R : Type) : Type := (Unit × Unit) × (Unit) → (Bool → Option R) → Option R
def Q_24 {R : Type} (x : (Unit × Unit) × (Unit)) (κ0 : Bool → Option R) : Option R :=
κ0 true
def p_24 {R : Type} (N : Nat) (x : (Unit × Unit) × (Unit)) (κ0 : Bool → Option R) : Option R := Q_24 x κ0
def EG_24 {R : Type} : Env R := Env.base QQ LN AA
def LG_24 {R : Type} : Loops R := Loops.none
def E_24 {R : Type} (N : Nat) : Env R := EG_24
theorem eok_24 {R : Type} (N : Nat) : EK Try.prog (E_24 (R := R) N) := ek_base _ _ _
def L_24 {R : Type} (N : Nat) : Loops R := LG_24
theorem lok_24 {R : Type} (N : Nat) : LOK 0 TT (E_24 (R := R) N) (drawAny TT WW) (L_24 N) (bodyOf Try.f24) := loops_nil (by kernel_rfl)
theorem grun_24 {R : Type} (x : aden ap_24 × hden hp_24) (k : KF R) : fnrun TT (EG_24) (drawAny TT WW) (LG_24) true Try.f24 (instA ap_24 x.1) (instH hp_24 x.2) k = Q_24 x (fun y => k (Pat.inst (.bool) y) (instH hp_24 x.2)) := by kernel_rfl
theorem run_24 {R : Type} (N : Nat) (x : aden ap_24 × hden hp_24) (k : KF R) : fnrun TT (E_24 (R := R) N) (drawAny TT WW) (L_24 N) true Try.f24 (instA ap_24 x.1) (instH hp_24 x.2) k = p_24 N x (fun y => k (Pat.inst (.bool) y) (instH hp_24 x.2)) := (grun_24 x k).trans (by kernel_rfl)
theorem good_24 {R : Type} (N : Nat) : GD (X := R) Try.prog QQ AA 24 ap_24 hp_24 (fun (x : aden ap_24 × hden hp_24) k => p_24 N x (fun y => k (Pat.inst (.bool) y) (instH hp_24 x.2))) :=
  gd_quiet (E := E_24 N) (p := fun (x : aden ap_24 × hden hp_24) κ => p_24 N x (fun y => κ (Pat.inst (.bool) y))) mixed tyok (eok_24 N) Try.func24 (by kernel_rfl) (by kernel_rfl) (lok_24 N) (fun x k => run_24 N x k)

def ap_30 : List Pat := [.node (.fcons (.int .i64) (.fcons (.int .i64) (.fcons (.int .i64) (.fcons (.int .i64) (.fcons (.int .i64) (.fcons (.int .i64) (.fcons (.int .i64) (.fcons (.int .i64) (.fnil))))))))), .int .i64, .int .i64]
def hp_30 : List (Option (Pat × Nat)) := []
abbrev Tp_30 (R : Type) : Type := (Y0 × Int × Int × Unit) × (Unit) → (Int → Option R) → Option R
def Q_30 {R : Type} (x : (Y0 × Int × Int × Unit) × (Unit)) (κ0 : Int → Option R) : Option R :=
let i248 := x.1.1.1
let i249 := x.1.1.2.1
let i250 := x.1.1.2.2.1
let i251 := x.1.1.2.2.2.1
let i252 := x.1.1.2.2.2.2.1
let i253 := x.1.1.2.2.2.2.2.1
let i254 := x.1.1.2.2.2.2.2.2.1
let i255 := x.1.1.2.2.2.2.2.2.2.1
let i256 := x.1.2.1
let i257 := x.1.2.2.1
bif (i256 == 0) then (
bif (i257 == 0) then (
κ0 2) else (
κ0 0)) else (
κ0 0)
def p_30 {R : Type} (N : Nat) (x : (Y0 × Int × Int × Unit) × (Unit)) (κ0 : Int → Option R) : Option R := Q_30 x κ0
def EG_30 {R : Type} : Env R := Env.base QQ LN AA
def LG_30 {R : Type} : Loops R := Loops.none
def E_30 {R : Type} (N : Nat) : Env R := EG_30
theorem eok_30 {R : Type} (N : Nat) : EK Try.prog (E_30 (R := R) N) := ek_base _ _ _
def L_30 {R : Type} (N : Nat) : Loops R := LG_30
theorem lok_30 {R : Type} (N : Nat) : LOK 0 TT (E_30 (R := R) N) (drawAny TT WW) (L_30 N) (bodyOf Try.f30) := loops_nil (by kernel_rfl)
theorem grun_30 {R : Type} (x : aden ap_30 × hden hp_30) (k : KF R) : fnrun TT (EG_30) (drawAny TT WW) (LG_30) true Try.f30 (instA ap_30 x.1) (instH hp_30 x.2) k = Q_30 x (fun y => k (Pat.inst (.int .i64) y) (instH hp_30 x.2)) := by kernel_rfl
theorem run_30 {R : Type} (N : Nat) (x : aden ap_30 × hden hp_30) (k : KF R) : fnrun TT (E_30 (R := R) N) (drawAny TT WW) (L_30 N) true Try.f30 (instA ap_30 x.1) (instH hp_30 x.2) k = p_30 N x (fun y => k (Pat.inst (.int .i64) y) (instH hp_30 x.2)) := (grun_30 x k).trans (by kernel_rfl)
theorem good_30 {R : Type} (N : Nat) : GD (X := R) Try.prog QQ AA 30 ap_30 hp_30 (fun (x : aden ap_30 × hden hp_30) k => p_30 N x (fun y => k (Pat.inst (.int .i64) y) (instH hp_30 x.2))) :=
  gd_quiet (E := E_30 N) (p := fun (x : aden ap_30 × hden hp_30) κ => p_30 N x (fun y => κ (Pat.inst (.int .i64) y))) mixed tyok (eok_30 N) Try.func30 (by kernel_rfl) (by kernel_rfl) (lok_30 N) (fun x k => run_30 N x k)

def ap_33 : List Pat := [.node (.fcons (.int .i64) (.fcons (.int .i64) (.fcons (.int .i64) (.fcons (.int .i64) (.fcons (.int .i64) (.fcons (.int .i64) (.fcons (.int .i64) (.fcons (.int .i64) (.fnil))))))))), .node (.fcons (.int .i64) (.fcons (.int .i64) (.fnil))), .int .i64]
def hp_33 : List (Option (Pat × Nat)) := []
abbrev Tp_33 (R : Type) : Type := (Y0 × (Int × (Int × Unit)) × Int × Unit) × (Unit) → ((Unit × (Y4 × Unit)) → Option R) → Option R
def Q_33 {R : Type} (x : (Y0 × (Int × (Int × Unit)) × Int × Unit) × (Unit)) (κ0 : (Unit × (Y4 × Unit)) → Option R) : Option R :=
let i260 := x.1.1.1
let i261 := x.1.1.2.1
let i262 := x.1.1.2.2.1
let i263 := x.1.1.2.2.2.1
let i264 := x.1.1.2.2.2.2.1
let i265 := x.1.1.2.2.2.2.2.1
let i266 := x.1.1.2.2.2.2.2.2.1
let i267 := x.1.1.2.2.2.2.2.2.2.1
let i268 := x.1.2.1.1
let i269 := x.1.2.1.2.1
let i270 := x.1.2.2.1
κ0 ((), (((i260, (i261, (i262, (i263, (i264, (i265, (i266, (i267, ())))))))), ((i268, (i269, ())), (i270, (0, ((Sch.zero (.arr 128 (.int .u64))), ()))))), ()))
def p_33 {R : Type} (N : Nat) (x : (Y0 × (Int × (Int × Unit)) × Int × Unit) × (Unit)) (κ0 : (Unit × (Y4 × Unit)) → Option R) : Option R := Q_33 x κ0
def EG_33 {R : Type} : Env R := Env.base QQ LN AA
def LG_33 {R : Type} : Loops R := Loops.none
def E_33 {R : Type} (N : Nat) : Env R := EG_33
theorem eok_33 {R : Type} (N : Nat) : EK Try.prog (E_33 (R := R) N) := ek_base _ _ _
def L_33 {R : Type} (N : Nat) : Loops R := LG_33
theorem lok_33 {R : Type} (N : Nat) : LOK 0 TT (E_33 (R := R) N) (drawAny TT WW) (L_33 N) (bodyOf Try.f33) := loops_nil (by kernel_rfl)
theorem grun_33 {R : Type} (x : aden ap_33 × hden hp_33) (k : KF R) : fnrun TT (EG_33) (drawAny TT WW) (LG_33) true Try.f33 (instA ap_33 x.1) (instH hp_33 x.2) k = Q_33 x (fun y => k (Pat.inst (.ptr 0 []) y.1) (instH hp_33 x.2 ++ instH [some (Z3, 132)] y.2)) := by kernel_rfl
theorem run_33 {R : Type} (N : Nat) (x : aden ap_33 × hden hp_33) (k : KF R) : fnrun TT (E_33 (R := R) N) (drawAny TT WW) (L_33 N) true Try.f33 (instA ap_33 x.1) (instH hp_33 x.2) k = p_33 N x (fun y => k (Pat.inst (.ptr 0 []) y.1) (instH hp_33 x.2 ++ instH [some (Z3, 132)] y.2)) := (grun_33 x k).trans (by kernel_rfl)
theorem good_33 {R : Type} (N : Nat) : GD (X := R) Try.prog QQ AA 33 ap_33 hp_33 (fun (x : aden ap_33 × hden hp_33) k => p_33 N x (fun y => k (Pat.inst (.ptr 0 []) y.1) (instH hp_33 x.2 ++ instH [some (Z3, 132)] y.2))) :=
  gd_adds (E := E_33 N) (p := fun (x : aden ap_33 × hden hp_33) κ => p_33 N x (fun y => κ (Pat.inst (.ptr 0 []) y.1) (instH [some (Z3, 132)] y.2))) mixed tyok (eok_33 N) Try.func33 (by kernel_rfl) (by kernel_rfl) (by kernel_rfl) (lok_33 N) (fun x k => run_33 N x k)

def ap_61 : List Pat := [.ptr 0 [], .node (.fcons (.int .i64) (.fcons (.int .i64) (.fnil)))]
def hp_61 : List (Option (Pat × Nat)) := [some (.node (.fcons (.ptr 1 []) (.fcons (.int .i64) (.fcons Z1 (.fcons (.int .i64) (.fcons (.nilp) (.fcons (.node (.fcons Z1 (.fcons Z1 (.fcons Z1 (.fnil))))) (.fcons (.bool) (.fcons (.bool) (.fcons (.bool) (.fnil)))))))))), 123), some (Z9, 49), some (Z7, 147), some (Z2, 145), some (.lst (.arr 128 (.int .u64)), 29)]
abbrev Tp_61 (R : Type) : Type := (Unit × (Int × (Int × Unit)) × Unit) × (Y3 × (Unit × (Y0 × Unit)) × Y5 × Y2 × (List (Nat → Int)) × Unit) → ((Unit × Y1) → Option R) → Option R
def Q_61 {R : Type} (q_30 : Tp_30 R) (q_33 : Tp_33 R) (x : (Unit × (Int × (Int × Unit)) × Unit) × (Y3 × (Unit × (Y0 × Unit)) × Y5 × Y2 × (List (Nat → Int)) × Unit)) (κ0 : (Unit × Y1) → Option R) : Option R :=
let i219 := x.1.2.1.1
let i220 := x.1.2.1.2.1
let i221 := x.2.1.2.1
let i222 := x.2.1.2.2.1.1
let i223 := x.2.1.2.2.1.2.1
let i224 := x.2.1.2.2.2.1
let i225 := x.2.1.2.2.2.2.2.1.1.1
let i226 := x.2.1.2.2.2.2.2.1.1.2.1
let i227 := x.2.1.2.2.2.2.2.1.2.1.1
let i228 := x.2.1.2.2.2.2.2.1.2.1.2.1
let i229 := x.2.1.2.2.2.2.2.1.2.2.1.1
let i230 := x.2.1.2.2.2.2.2.1.2.2.1.2.1
let b231 := x.2.1.2.2.2.2.2.2.1
let b232 := x.2.1.2.2.2.2.2.2.2.1
let b233 := x.2.1.2.2.2.2.2.2.2.2.1
let i234 := x.2.2.1.2.1.1
let i235 := x.2.2.1.2.1.2.1
let i236 := x.2.2.1.2.1.2.2.1
let i237 := x.2.2.1.2.1.2.2.2.1
let i238 := x.2.2.1.2.1.2.2.2.2.1
let i239 := x.2.2.1.2.1.2.2.2.2.2.1
let i240 := x.2.2.1.2.1.2.2.2.2.2.2.1
let i241 := x.2.2.1.2.1.2.2.2.2.2.2.2.1
let b242 := x.2.2.2.1.2.2.1
let i243 := x.2.2.2.2.1.1
let i244 := x.2.2.2.2.1.2.1
let i245 := x.2.2.2.2.1.2.2.1
let i246 := x.2.2.2.2.1.2.2.2.1
let l247 := x.2.2.2.2.2.1
q_30 (((i234, (i235, (i236, (i237, (i238, (i239, (i240, (i241, ())))))))), i219, i220, ()), ()) (fun y258 =>
let i259 : Int := y258
q_33 (((i234, (i235, (i236, (i237, (i238, (i239, (i240, (i241, ())))))))), (i219, (i220, ())), i221, ()), ()) (fun y271 =>
let i272 := y271.2.1.1.1
let i273 := y271.2.1.1.2.1
let i274 := y271.2.1.1.2.2.1
let i275 := y271.2.1.1.2.2.2.1
let i276 := y271.2.1.1.2.2.2.2.1
let i277 := y271.2.1.1.2.2.2.2.2.1
let i278 := y271.2.1.1.2.2.2.2.2.2.1
let i279 := y271.2.1.1.2.2.2.2.2.2.2.1
let i280 := y271.2.1.2.1.1
let i281 := y271.2.1.2.1.2.1
let i282 := y271.2.1.2.2.1
let i283 := y271.2.1.2.2.2.1
let a284 := y271.2.1.2.2.2.2.1
κ0 ((), (((), (i221, ((i219, (i220, ())), (i259, ((), (((i225, (i226, ())), ((i227, (i228, ())), ((i229, (i230, ())), ()))), (false, (false, (b233, ()))))))))), ((), ((i234, (i235, (i236, (i237, (i238, (i239, (i240, (i241, ())))))))), ())), ((), ((), (b242, ()))), (i243, (i244, (i245, (i246, ())))), l247, ((i272, (i273, (i274, (i275, (i276, (i277, (i278, (i279, ())))))))), ((i280, (i281, ())), (i282, (i283, (a284, ()))))), ()))))
def p_61 {R : Type} (N : Nat) (x : (Unit × (Int × (Int × Unit)) × Unit) × (Y3 × (Unit × (Y0 × Unit)) × Y5 × Y2 × (List (Nat → Int)) × Unit)) (κ0 : (Unit × Y1) → Option R) : Option R := Q_61 (p_30 N) (p_33 N) x κ0
def EG_61 {R : Type} (q_30 : Tp_30 R) (q_33 : Tp_33 R) : Env R := ((Env.base QQ LN AA).add 30 ap_30 hp_30 (fun (x : aden ap_30 × hden hp_30) k => q_30 x (fun y => k (Pat.inst (.int .i64) y) (instH hp_30 x.2)))).add 33 ap_33 hp_33 (fun (x : aden ap_33 × hden hp_33) k => q_33 x (fun y => k (Pat.inst (.ptr 0 []) y.1) (instH hp_33 x.2 ++ instH [some (Z3, 132)] y.2)))
def LG_61 {R : Type} : Loops R := Loops.none
def E_61 {R : Type} (N : Nat) : Env R := EG_61 (p_30 N) (p_33 N)
theorem eok_61 {R : Type} (N : Nat) : EK Try.prog (E_61 (R := R) N) := ek_add (ek_add (ek_base _ _ _) (good_30 N)) (good_33 N)
def L_61 {R : Type} (N : Nat) : Loops R := LG_61
theorem lok_61 {R : Type} (N : Nat) : LOK 5 TT (E_61 (R := R) N) (drawAny TT WW) (L_61 N) (bodyOf Try.f61) := loops_nil (by kernel_rfl)
theorem grun_61 {R : Type} (q_30 : Tp_30 R) (q_33 : Tp_33 R) (x : aden ap_61 × hden hp_61) (k : KF R) : fnrun TT (EG_61 q_30 q_33) (drawAny TT WW) (LG_61) true Try.f61 (instA ap_61 x.1) (instH hp_61 x.2) k = Q_61 q_30 q_33 x (fun y => k (Pat.inst (.tup (.fnil)) y.1) (instH J0 y.2)) := by kernel_rfl
theorem run_61 {R : Type} (N : Nat) (x : aden ap_61 × hden hp_61) (k : KF R) : fnrun TT (E_61 (R := R) N) (drawAny TT WW) (L_61 N) true Try.f61 (instA ap_61 x.1) (instH hp_61 x.2) k = p_61 N x (fun y => k (Pat.inst (.tup (.fnil)) y.1) (instH J0 y.2)) := (grun_61 (p_30 N) (p_33 N) x k).trans (by kernel_rfl)
theorem good_61 {R : Type} (N : Nat) : GD (X := R) Try.prog QQ AA 61 ap_61 hp_61 (fun (x : aden ap_61 × hden hp_61) k => p_61 N x (fun y => k (Pat.inst (.tup (.fnil)) y.1) (instH J0 y.2))) :=
  gd_loud (E := E_61 N) (p := fun (x : aden ap_61 × hden hp_61) k => p_61 N x (fun y => k (Pat.inst (.tup (.fnil)) y.1) (instH J0 y.2))) mixed tyok (eok_61 N) Try.func61 (by kernel_rfl) (by kernel_rfl) (by kernel_rfl) (by kernel_rfl) (lok_61 N) (fun x k => run_61 N x k)

def ap_22_v1 : List Pat := [.ptr 0 [], .int .i64]
def hp_22_v1 : List (Option (Pat × Nat)) := J1
abbrev Tp_22_v1 (R : Type) : Type := (Unit × Int × Unit) × Y7 → (((Unit × (Int × Unit)) × Y7) → Option R) → (((Unit × (Int × Unit)) × ((Unit × (Y0 × Unit)) × Y5 × Y2 × (List (Nat → Int)) × Y3 × Y4 × Unit)) → Option R) → Option R
def Q_22_v1 {R : Type} (q_61 : Tp_61 R) (x : (Unit × Int × Unit) × Y7) (κ0 : ((Unit × (Int × Unit)) × Y7) → Option R) (κ1 : ((Unit × (Int × Unit)) × ((Unit × (Y0 × Unit)) × Y5 × Y2 × (List (Nat → Int)) × Y3 × Y4 × Unit)) → Option R) : Option R :=
let i204 := x.1.2.1
let i205 := x.2.1.2.1.1
let i206 := x.2.1.2.1.2.1
let i207 := x.2.1.2.1.2.2.1
let i208 := x.2.1.2.1.2.2.2.1
let i209 := x.2.1.2.1.2.2.2.2.1
let i210 := x.2.1.2.1.2.2.2.2.2.1
let i211 := x.2.1.2.1.2.2.2.2.2.2.1
let i212 := x.2.1.2.1.2.2.2.2.2.2.2.1
let b213 := x.2.2.1.2.2.1
let i214 := x.2.2.2.1.1
let i215 := x.2.2.2.1.2.1
let i216 := x.2.2.2.1.2.2.1
let i217 := x.2.2.2.1.2.2.2.1
let l218 := x.2.2.2.2.1
bif (decide (i204 < 0)) then (
κ0 (((), (11, ())), (((), ((i205, (i206, (i207, (i208, (i209, (i210, (i211, (i212, ())))))))), ())), ((), ((), (b213, ()))), (i214, (i215, (i216, (i217, ())))), l218, ()))) else (
bif (decide (i204 ≥ i207)) then (
κ0 (((), (11, ())), (((), ((i205, (i206, (i207, (i208, (i209, (i210, (i211, (i212, ())))))))), ())), ((), ((), (b213, ()))), (i214, (i215, (i216, (i217, ())))), l218, ()))) else (
q_61 (((), (0, (0, ())), ()), (((), (i204, ((0, (0, ())), (0, ((), (((0, (0, ())), ((0, (0, ())), ((0, (0, ())), ()))), (false, (false, (false, ()))))))))), ((), ((i205, (i206, (i207, (i208, (i209, (i210, (i211, (i212, ())))))))), ())), ((), ((), (b213, ()))), (i214, (i215, (i216, (i217, ())))), l218, ())) (fun y285 =>
let i286 := y285.2.1.2.1
let i287 := y285.2.1.2.2.1.1
let i288 := y285.2.1.2.2.1.2.1
let i289 := y285.2.1.2.2.2.1
let i290 := y285.2.1.2.2.2.2.2.1.1.1
let i291 := y285.2.1.2.2.2.2.2.1.1.2.1
let i292 := y285.2.1.2.2.2.2.2.1.2.1.1
let i293 := y285.2.1.2.2.2.2.2.1.2.1.2.1
let i294 := y285.2.1.2.2.2.2.2.1.2.2.1.1
let i295 := y285.2.1.2.2.2.2.2.1.2.2.1.2.1
let b296 := y285.2.1.2.2.2.2.2.2.1
let b297 := y285.2.1.2.2.2.2.2.2.2.1
let b298 := y285.2.1.2.2.2.2.2.2.2.2.1
let i299 := y285.2.2.1.2.1.1
let i300 := y285.2.2.1.2.1.2.1
let i301 := y285.2.2.1.2.1.2.2.1
let i302 := y285.2.2.1.2.1.2.2.2.1
let i303 := y285.2.2.1.2.1.2.2.2.2.1
let i304 := y285.2.2.1.2.1.2.2.2.2.2.1
let i305 := y285.2.2.1.2.1.2.2.2.2.2.2.1
let i306 := y285.2.2.1.2.1.2.2.2.2.2.2.2.1
let b307 := y285.2.2.2.1.2.2.1
let i308 := y285.2.2.2.2.1.1
let i309 := y285.2.2.2.2.1.2.1
let i310 := y285.2.2.2.2.1.2.2.1
let i311 := y285.2.2.2.2.1.2.2.2.1
let l312 := y285.2.2.2.2.2.1
let i313 := y285.2.2.2.2.2.2.1.1.1
let i314 := y285.2.2.2.2.2.2.1.1.2.1
let i315 := y285.2.2.2.2.2.2.1.1.2.2.1
let i316 := y285.2.2.2.2.2.2.1.1.2.2.2.1
let i317 := y285.2.2.2.2.2.2.1.1.2.2.2.2.1
let i318 := y285.2.2.2.2.2.2.1.1.2.2.2.2.2.1
let i319 := y285.2.2.2.2.2.2.1.1.2.2.2.2.2.2.1
let i320 := y285.2.2.2.2.2.2.1.1.2.2.2.2.2.2.2.1
let i321 := y285.2.2.2.2.2.2.1.2.1.1
let i322 := y285.2.2.2.2.2.2.1.2.1.2.1
let i323 := y285.2.2.2.2.2.2.1.2.2.1
let i324 := y285.2.2.2.2.2.2.1.2.2.2.1
let a325 := y285.2.2.2.2.2.2.1.2.2.2.2.1
κ1 (((), (0, ())), (((), ((i299, (i300, (i301, (i302, (i303, (i304, (i305, (i306, ())))))))), ())), ((), ((), (b307, ()))), (i308, (i309, (i310, (i311, ())))), l312, ((), (i286, ((i287, (i288, ())), (i289, ((), (((i290, (i291, ())), ((i292, (i293, ())), ((i294, (i295, ())), ()))), (b296, (b297, (b298, ()))))))))), ((i313, (i314, (i315, (i316, (i317, (i318, (i319, (i320, ())))))))), ((i321, (i322, ())), (i323, (i324, (a325, ()))))), ())))))
def p_22_v1 {R : Type} (N : Nat) (x : (Unit × Int × Unit) × Y7) (κ0 : ((Unit × (Int × Unit)) × Y7) → Option R) (κ1 : ((Unit × (Int × Unit)) × ((Unit × (Y0 × Unit)) × Y5 × Y2 × (List (Nat → Int)) × Y3 × Y4 × Unit)) → Option R) : Option R := Q_22_v1 (p_61 N) x κ0 κ1
def EG_22_v1 {R : Type} (q_61 : Tp_61 R) : Env R := (Env.base QQ LN AA).add 61 ap_61 hp_61 (fun (x : aden ap_61 × hden hp_61) k => q_61 x (fun y => k (Pat.inst (.tup (.fnil)) y.1) (instH J0 y.2)))
def LG_22_v1 {R : Type} : Loops R := Loops.none
def E_22_v1 {R : Type} (N : Nat) : Env R := EG_22_v1 (p_61 N)
theorem eok_22_v1 {R : Type} (N : Nat) : EK Try.prog (E_22_v1 (R := R) N) := ek_add (ek_base _ _ _) (good_61 N)
def L_22_v1 {R : Type} (N : Nat) : Loops R := LG_22_v1
theorem lok_22_v1 {R : Type} (N : Nat) : LOK 4 TT (E_22_v1 (R := R) N) (drawAny TT WW) (L_22_v1 N) (bodyOf Try.f22) := loops_nil (by kernel_rfl)
theorem grun_22_v1 {R : Type} (q_61 : Tp_61 R) (x : aden ap_22_v1 × hden hp_22_v1) (k : KF R) : fnrun TT (EG_22_v1 q_61) (drawAny TT WW) (LG_22_v1) true Try.f22 (instA ap_22_v1 x.1) (instH hp_22_v1 x.2) k = Q_22_v1 q_61 x (fun y => k (Pat.inst (.tup (.fcons (.nilp) (.fcons (.int .i64) (.fnil)))) y.1) (instH J1 y.2)) (fun y => k (Pat.inst (.tup (.fcons (.ptr 4 []) (.fcons (.int .i64) (.fnil)))) y.1) (instH J5 y.2)) := by kernel_rfl
theorem run_22_v1 {R : Type} (N : Nat) (x : aden ap_22_v1 × hden hp_22_v1) (k : KF R) : fnrun TT (E_22_v1 (R := R) N) (drawAny TT WW) (L_22_v1 N) true Try.f22 (instA ap_22_v1 x.1) (instH hp_22_v1 x.2) k = p_22_v1 N x (fun y => k (Pat.inst (.tup (.fcons (.nilp) (.fcons (.int .i64) (.fnil)))) y.1) (instH J1 y.2)) (fun y => k (Pat.inst (.tup (.fcons (.ptr 4 []) (.fcons (.int .i64) (.fnil)))) y.1) (instH J5 y.2)) := (grun_22_v1 (p_61 N) x k).trans (by kernel_rfl)
theorem good_22_v1 {R : Type} (N : Nat) : GD (X := R) Try.prog QQ AA 22 ap_22_v1 hp_22_v1 (fun (x : aden ap_22_v1 × hden hp_22_v1) k => p_22_v1 N x (fun y => k (Pat.inst (.tup (.fcons (.nilp) (.fcons (.int .i64) (.fnil)))) y.1) (instH J1 y.2)) (fun y => k (Pat.inst (.tup (.fcons (.ptr 4 []) (.fcons (.int .i64) (.fnil)))) y.1) (instH J5 y.2))) :=
  gd_loud (E := E_22_v1 N) (p := fun (x : aden ap_22_v1 × hden hp_22_v1) k => p_22_v1 N x (fun y => k (Pat.inst (.tup (.fcons (.nilp) (.fcons (.int .i64) (.fnil)))) y.1) (instH J1 y.2)) (fun y => k (Pat.inst (.tup (.fcons (.ptr 4 []) (.fcons (.int .i64) (.fnil)))) y.1) (instH J5 y.2))) mixed tyok (eok_22_v1 N) Try.func22 (by kernel_rfl) (by kernel_rfl) (by kernel_rfl) (by kernel_rfl) (lok_22_v1 N) (fun x k => run_22_v1 N x k)

def ap_64 : List Pat := [.node (.fcons (.int .i64) (.fcons (.int .i64) (.fcons (.int .i64) (.fcons (.int .i64) (.fcons (.int .i64) (.fcons (.int .i64) (.fcons (.int .i64) (.fcons (.int .i64) (.fnil))))))))), .node (.fcons (.int .i64) (.fcons (.int .i64) (.fnil)))]
def hp_64 : List (Option (Pat × Nat)) := []
abbrev Tp_64 (R : Type) : Type := (Y0 × (Int × (Int × Unit)) × Unit) × (Unit) → (Bool → Option R) → Option R
def Q_64 {R : Type} (x : (Y0 × (Int × (Int × Unit)) × Unit) × (Unit)) (κ0 : Bool → Option R) : Option R :=
let i508 := x.1.1.1
let i509 := x.1.1.2.1
let i510 := x.1.1.2.2.1
let i511 := x.1.1.2.2.2.1
let i512 := x.1.1.2.2.2.2.1
let i513 := x.1.1.2.2.2.2.2.1
let i514 := x.1.1.2.2.2.2.2.2.1
let i515 := x.1.1.2.2.2.2.2.2.2.1
let i516 := x.1.2.1.1
let i517 := x.1.2.1.2.1
bif (i508 == 2) then (
κ0 true) else (
bif (i508 == 3) then (
bif (i516 == 0) then (
κ0 ((decide (i517 < 2)))) else (
κ0 false)) else (
κ0 false))
def p_64 {R : Type} (N : Nat) (x : (Y0 × (Int × (Int × Unit)) × Unit) × (Unit)) (κ0 : Bool → Option R) : Option R := Q_64 x κ0
def EG_64 {R : Type} : Env R := Env.base QQ LN AA
def LG_64 {R : Type} : Loops R := Loops.none
def E_64 {R : Type} (N : Nat) : Env R := EG_64
theorem eok_64 {R : Type} (N : Nat) : EK Try.prog (E_64 (R := R) N) := ek_base _ _ _
def L_64 {R : Type} (N : Nat) : Loops R := LG_64
theorem lok_64 {R : Type} (N : Nat) : LOK 0 TT (E_64 (R := R) N) (drawAny TT WW) (L_64 N) (bodyOf Try.f64) := loops_nil (by kernel_rfl)
theorem grun_64 {R : Type} (x : aden ap_64 × hden hp_64) (k : KF R) : fnrun TT (EG_64) (drawAny TT WW) (LG_64) true Try.f64 (instA ap_64 x.1) (instH hp_64 x.2) k = Q_64 x (fun y => k (Pat.inst (.bool) y) (instH hp_64 x.2)) := by kernel_rfl
theorem run_64 {R : Type} (N : Nat) (x : aden ap_64 × hden hp_64) (k : KF R) : fnrun TT (E_64 (R := R) N) (drawAny TT WW) (L_64 N) true Try.f64 (instA ap_64 x.1) (instH hp_64 x.2) k = p_64 N x (fun y => k (Pat.inst (.bool) y) (instH hp_64 x.2)) := (grun_64 x k).trans (by kernel_rfl)
theorem good_64 {R : Type} (N : Nat) : GD (X := R) Try.prog QQ AA 64 ap_64 hp_64 (fun (x : aden ap_64 × hden hp_64) k => p_64 N x (fun y => k (Pat.inst (.bool) y) (instH hp_64 x.2))) :=
  gd_quiet (E := E_64 N) (p := fun (x : aden ap_64 × hden hp_64) κ => p_64 N x (fun y => κ (Pat.inst (.bool) y))) mixed tyok (eok_64 N) Try.func64 (by kernel_rfl) (by kernel_rfl) (lok_64 N) (fun x k => run_64 N x k)

def ap_113 : List Pat := [.node (.fcons (.int .i64) (.fcons (.int .i64) (.fcons (.int .i64) (.fcons (.int .i64) (.fcons (.int .i64) (.fcons (.int .i64) (.fcons (.int .i64) (.fcons (.int .i64) (.fnil)))))))))]
def hp_113 : List (Option (Pat × Nat)) := []
abbrev Tp_113 (R : Type) : Type := (Y0 × Unit) × (Unit) → (Int → Option R) → Option R
def Q_113 {R : Type} (x : (Y0 × Unit) × (Unit)) (κ0 : Int → Option R) : Option R :=
let i562 := x.1.1.1
let i563 := x.1.1.2.1
let i564 := x.1.1.2.2.1
let i565 := x.1.1.2.2.2.1
let i566 := x.1.1.2.2.2.2.1
let i567 := x.1.1.2.2.2.2.2.1
let i568 := x.1.1.2.2.2.2.2.2.1
let i569 := x.1.1.2.2.2.2.2.2.2.1
let i570 : Int := subA .i64 i562 1
κ0 i570
def p_113 {R : Type} (N : Nat) (x : (Y0 × Unit) × (Unit)) (κ0 : Int → Option R) : Option R := Q_113 x κ0
def EG_113 {R : Type} : Env R := Env.base QQ LN AA
def LG_113 {R : Type} : Loops R := Loops.none
def E_113 {R : Type} (N : Nat) : Env R := EG_113
theorem eok_113 {R : Type} (N : Nat) : EK Try.prog (E_113 (R := R) N) := ek_base _ _ _
def L_113 {R : Type} (N : Nat) : Loops R := LG_113
theorem lok_113 {R : Type} (N : Nat) : LOK 0 TT (E_113 (R := R) N) (drawAny TT WW) (L_113 N) (bodyOf Try.f113) := loops_nil (by kernel_rfl)
theorem grun_113 {R : Type} (x : aden ap_113 × hden hp_113) (k : KF R) : fnrun TT (EG_113) (drawAny TT WW) (LG_113) true Try.f113 (instA ap_113 x.1) (instH hp_113 x.2) k = Q_113 x (fun y => k (Pat.inst (.int .i64) y) (instH hp_113 x.2)) := by kernel_rfl
theorem run_113 {R : Type} (N : Nat) (x : aden ap_113 × hden hp_113) (k : KF R) : fnrun TT (E_113 (R := R) N) (drawAny TT WW) (L_113 N) true Try.f113 (instA ap_113 x.1) (instH hp_113 x.2) k = p_113 N x (fun y => k (Pat.inst (.int .i64) y) (instH hp_113 x.2)) := (grun_113 x k).trans (by kernel_rfl)
theorem good_113 {R : Type} (N : Nat) : GD (X := R) Try.prog QQ AA 113 ap_113 hp_113 (fun (x : aden ap_113 × hden hp_113) k => p_113 N x (fun y => k (Pat.inst (.int .i64) y) (instH hp_113 x.2))) :=
  gd_quiet (E := E_113 N) (p := fun (x : aden ap_113 × hden hp_113) κ => p_113 N x (fun y => κ (Pat.inst (.int .i64) y))) mixed tyok (eok_113 N) Try.func113 (by kernel_rfl) (by kernel_rfl) (lok_113 N) (fun x k => run_113 N x k)

def lv_103_4 : Live := [(8, none), (10, none), (26, none), (27, none)]
def pt_103_4 : SPat := ⟨[(8, .ptr 0 []), (10, .ptr 1 []), (26, .vec (.int .i64) 7), (27, .int .i64)], J8⟩
def px_103_4_0 : SPat := ⟨[(8, .ptr 0 []), (10, .ptr 1 [])], J8⟩
def lo_103_4 : Exit → Live
  | .exit 0 => [(8, none), (10, none)]
  | _ => []
def ap_103 : List Pat := [.node (.fcons (.int .i64) (.fcons (.int .i64) (.fcons (.int .i64) (.fcons (.int .i64) (.fcons (.int .i64) (.fcons (.int .i64) (.fcons (.int .i64) (.fcons (.int .i64) (.fnil))))))))), .node (.fcons (.int .i64) (.fcons (.int .i64) (.fnil))), .int .i64, .int .i64]
def hp_103 : List (Option (Pat × Nat)) := []
abbrev Tl_103_4 (R : Type) : Type := ((Unit × Unit × (Nat → Int) × Int × Unit) × Y6) → (((Unit × Unit × Unit) × Y6) → Option R) → Option R
abbrev Tp_103 (R : Type) : Type := (Y0 × (Int × (Int × Unit)) × Int × Int × Unit) × (Unit) → ((Nat → Int) → Option R) → Option R
def C_103_4 {R : Type} (rec : ((Unit × Unit × (Nat → Int) × Int × Unit) × Y6) → Option R) (x : ((Unit × Unit × (Nat → Int) × Int × Unit) × Y6)) (κ0 : ((Unit × Unit × Unit) × Y6) → Option R) : Option R :=
let a574 := x.1.2.2.1
let i575 := x.1.2.2.2.1
let a576 := x.2.1
let a577 := x.2.2.1
bif (decide (i575 < 7)) then (
bif decide (0 ≤ i575) then (
bif decide (i575 < (7 : Int)) then (
let i578 : Int := (a574 ((Int.toNat i575)))
let i579 : Int := IntKind.wrap .u64 i578
bif decide (0 ≤ i575) then (
bif decide (i575 < (128 : Int)) then (
let a580 : (Nat → Int) := (upd a577 ((Int.toNat i575)) i579)
let i581 : Int := addA .i64 i575 1
rec (((), (), a574, i581, ()), (a576, a580, ()))) else none) else none) else none) else none) else (
κ0 (((), (), ()), (a576, a577, ())))
def B_103_4 {R : Type} (N : Nat) (rec : ((Unit × Unit × (Nat → Int) × Int × Unit) × Y6) → Option R) (x : ((Unit × Unit × (Nat → Int) × Int × Unit) × Y6)) (κ0 : ((Unit × Unit × Unit) × Y6) → Option R) : Option R := C_103_4 rec x κ0
def l_103_4 {R : Type} (N : Nat) : Nat → ((Unit × Unit × (Nat → Int) × Int × Unit) × Y6) → (((Unit × Unit × Unit) × Y6) → Option R) → Option R
  | 0, _, _ => none
  | n + 1, x, κ0 => B_103_4 N (fun y => l_103_4 N n y κ0) x κ0
def Q_103 {R : Type} (q_113 : Tp_113 R) (m_103_4 : Tl_103_4 R) (x : (Y0 × (Int × (Int × Unit)) × Int × Int × Unit) × (Unit)) (κ0 : (Nat → Int) → Option R) : Option R :=
let i550 := x.1.1.1
let i551 := x.1.1.2.1
let i552 := x.1.1.2.2.1
let i553 := x.1.1.2.2.2.1
let i554 := x.1.1.2.2.2.2.1
let i555 := x.1.1.2.2.2.2.2.1
let i556 := x.1.1.2.2.2.2.2.2.1
let i557 := x.1.1.2.2.2.2.2.2.2.1
let i558 := x.1.2.1.1
let i559 := x.1.2.1.2.1
let i560 := x.1.2.2.1
let i561 := x.1.2.2.2.1
q_113 (((i550, (i551, (i552, (i553, (i554, (i555, (i556, (i557, ())))))))), ()), ()) (fun y571 =>
let i572 := y571
let a573 : (Nat → Int) := (upd ((upd ((upd ((upd ((upd ((upd ((upd ((Sch.zero (.arr 7 (.int .i64)))) 0 i558)) 1 i560)) 2 i559)) 3 i554)) 4 i551)) 5 i572)) 6 i561)
m_103_4 (((), (), a573, 0, ()), ((Sch.zero (.arr 128 (.int .u64))), (Sch.zero (.arr 128 (.int .u64))), ())) (fun y582 =>
let a583 := y582.2.1
let a584 := y582.2.2.1
κ0 a584))
def p_103 {R : Type} (N : Nat) (x : (Y0 × (Int × (Int × Unit)) × Int × Int × Unit) × (Unit)) (κ0 : (Nat → Int) → Option R) : Option R := Q_103 (p_113 N) (l_103_4 N N) x κ0
def EG_103 {R : Type} (q_113 : Tp_113 R) : Env R := (Env.base QQ LN AA).add 113 ap_113 hp_113 (fun (x : aden ap_113 × hden hp_113) k => q_113 x (fun y => k (Pat.inst (.int .i64) y) (instH hp_113 x.2)))
def LG_103 {R : Type} (m_103_4 : Tl_103_4 R) : Loops R := (Loops.none).add 4 (loopBy 0 lv_103_4 pt_103_4 (fun x k => m_103_4 x (fun y => k (.exit 0) (px_103_4_0.inst y))))
def E_103 {R : Type} (N : Nat) : Env R := EG_103 (p_113 N)
theorem eok_103 {R : Type} (N : Nat) : EK Try.prog (E_103 (R := R) N) := ek_add (ek_base _ _ _) (good_113 N)
def L_103 {R : Type} (N : Nat) : Loops R := LG_103 (l_103_4 N N)
theorem gstep_103_4 {R : Type} (q_113 : Tp_113 R) (m_103_4 : Tl_103_4 R) (n : Nat) (x : pt_103_4.den) (k : Exit → St → Option R) : iter 0 lv_103_4 lo_103_4 (aexec TT (EG_103 q_113) (drawAny TT WW) (LG_103 m_103_4) (loopAt 4 (bodyOf Try.f103))) (n + 1) (pt_103_4.inst x) k = C_103_4 (fun y => iter 0 lv_103_4 lo_103_4 (aexec TT (EG_103 q_113) (drawAny TT WW) (LG_103 m_103_4) (loopAt 4 (bodyOf Try.f103))) n (pt_103_4.inst y) k) x (fun y => k (.exit 0) (px_103_4_0.inst y)) := by kernel_rfl
theorem step_103_4 {R : Type} (N n : Nat) (x : pt_103_4.den) (k : Exit → St → Option R) : iter 0 lv_103_4 lo_103_4 (aexec TT (E_103 (R := R) N) (drawAny TT WW) (L_103 N) (loopAt 4 (bodyOf Try.f103))) (n + 1) (pt_103_4.inst x) k = B_103_4 N (fun y => iter 0 lv_103_4 lo_103_4 (aexec TT (E_103 (R := R) N) (drawAny TT WW) (L_103 N) (loopAt 4 (bodyOf Try.f103))) n (pt_103_4.inst y) k) x (fun y => k (.exit 0) (px_103_4_0.inst y)) := (gstep_103_4 (p_113 N) (l_103_4 N N) n x k).trans (by kernel_rfl)
theorem eq_103_4 {R : Type} (N : Nat) : ∀ (n : Nat) (x : pt_103_4.den) (k : Exit → St → Option R), iter 0 lv_103_4 lo_103_4 (aexec TT (E_103 (R := R) N) (drawAny TT WW) (L_103 N) (loopAt 4 (bodyOf Try.f103))) n (pt_103_4.inst x) k = l_103_4 N n x (fun y => k (.exit 0) (px_103_4_0.inst y)) :=
  iter_eq (K := Exit → St → Option R) (ks := fun k => k) (l := fun n (x : pt_103_4.den) k => l_103_4 N n x (fun y => k (.exit 0) (px_103_4_0.inst y))) (B := fun (rec : pt_103_4.den → Option R) (x : pt_103_4.den) k => B_103_4 N rec x (fun y => k (.exit 0) (px_103_4_0.inst y))) (fun _ _ => rfl) (fun _ _ _ => rfl) (fun n x k => step_103_4 N n x k)
theorem rounds_103_4 {R : Type} (N : Nat) : Rounds 0 TT (E_103 (R := R) N) (drawAny TT WW) (L_103 N) 4 (loopAt 4 (bodyOf Try.f103)) :=
  rounds_of (p := pt_103_4) (l := fun (x : pt_103_4.den) k => l_103_4 N N x (fun y => k (.exit 0) (px_103_4_0.inst y))) (fun s k => rfl) (fun x k => eq_103_4 N N x k)
theorem loops_103 : loopsIn (bodyOf Try.f103) = [(4, loopAt 4 (bodyOf Try.f103))] := by kernel_rfl
theorem lok_103 {R : Type} (N : Nat) : LOK 0 TT (E_103 (R := R) N) (drawAny TT WW) (L_103 N) (bodyOf Try.f103) := loops_all loops_103 (by
  simp only [List.forall_mem_cons, List.not_mem_nil, false_implies, implies_true, and_true]
  exact rounds_103_4 N)
theorem grun_103 {R : Type} (q_113 : Tp_113 R) (m_103_4 : Tl_103_4 R) (x : aden ap_103 × hden hp_103) (k : KF R) : fnrun TT (EG_103 q_113) (drawAny TT WW) (LG_103 m_103_4) true Try.f103 (instA ap_103 x.1) (instH hp_103 x.2) k = Q_103 q_113 m_103_4 x (fun y => k (Pat.inst (.vec (.int .u64) 128) y) (instH hp_103 x.2)) := by kernel_rfl
theorem run_103 {R : Type} (N : Nat) (x : aden ap_103 × hden hp_103) (k : KF R) : fnrun TT (E_103 (R := R) N) (drawAny TT WW) (L_103 N) true Try.f103 (instA ap_103 x.1) (instH hp_103 x.2) k = p_103 N x (fun y => k (Pat.inst (.vec (.int .u64) 128) y) (instH hp_103 x.2)) := (grun_103 (p_113 N) (l_103_4 N N) x k).trans (by kernel_rfl)
theorem good_103 {R : Type} (N : Nat) : GD (X := R) Try.prog QQ AA 103 ap_103 hp_103 (fun (x : aden ap_103 × hden hp_103) k => p_103 N x (fun y => k (Pat.inst (.vec (.int .u64) 128) y) (instH hp_103 x.2))) :=
  gd_quiet (E := E_103 N) (p := fun (x : aden ap_103 × hden hp_103) κ => p_103 N x (fun y => κ (Pat.inst (.vec (.int .u64) 128) y))) mixed tyok (eok_103 N) Try.func103 (by kernel_rfl) (by kernel_rfl) (lok_103 N) (fun x k => run_103 N x k)

def lv_48_6 : Live := [(2, none), (3, none), (8, none), (9, none), (10, none), (14, none), (15, none)]
def pt_48_6 : SPat := ⟨[(2, .ptr 0 []), (3, .ptr 1 []), (8, .ros (.arr 128 (.int .u64))), (9, .int .i64), (10, .int .i64), (14, .vec (.int .u64) 128), (15, .int .i64)], J8⟩
def px_48_6_0 : SPat := ⟨[(2, .ptr 0 []), (3, .ptr 1 []), (8, .ros (.arr 128 (.int .u64))), (9, .int .i64), (10, .int .i64)], J8⟩
def lo_48_6 : Exit → Live
  | .exit 2 => [(2, none), (3, none), (8, none), (9, none), (10, none)]
  | _ => []
def lv_48_3 : Live := [(2, none), (3, none), (8, none), (9, none), (10, none)]
def pt_48_3 : SPat := ⟨[(2, .ptr 0 []), (3, .ptr 1 []), (8, .ros (.arr 128 (.int .u64))), (9, .int .i64), (10, .int .i64)], J8⟩
def px_48_3_0 : SPat := ⟨[(2, .ptr 0 []), (3, .ptr 1 [])], J8⟩
def lo_48_3 : Exit → Live
  | .exit 0 => [(2, none), (3, none)]
  | _ => []
def ap_48 : List Pat := [.ros (.arr 128 (.int .u64))]
def hp_48 : List (Option (Pat × Nat)) := []
abbrev Tl_48_6 (R : Type) : Type := ((Unit × Unit × (List (Nat → Int)) × Int × Int × (Nat → Int) × Int × Unit) × Y6) → (((Unit × Unit × (List (Nat → Int)) × Int × Int × Unit) × Y6) → Option R) → Option R
abbrev Tl_48_3 (R : Type) : Type := ((Unit × Unit × (List (Nat → Int)) × Int × Int × Unit) × Y6) → (((Unit × Unit × Unit) × Y6) → Option R) → Option R
abbrev Tp_48 (R : Type) : Type := ((List (Nat → Int)) × Unit) × (Unit) → ((Nat → Int) → Option R) → Option R
def C_48_6 {R : Type} (rec : ((Unit × Unit × (List (Nat → Int)) × Int × Int × (Nat → Int) × Int × Unit) × Y6) → Option R) (x : ((Unit × Unit × (List (Nat → Int)) × Int × Int × (Nat → Int) × Int × Unit) × Y6)) (κ0 : ((Unit × Unit × (List (Nat → Int)) × Int × Int × Unit) × Y6) → Option R) : Option R :=
let l598 := x.1.2.2.1
let i599 := x.1.2.2.2.1
let i600 := x.1.2.2.2.2.1
let a601 := x.1.2.2.2.2.2.1
let i602 := x.1.2.2.2.2.2.2.1
let a603 := x.2.1
let a604 := x.2.2.1
bif (decide (i602 < 128)) then (
bif decide (0 ≤ i602) then (
bif decide (i602 < (128 : Int)) then (
let i605 : Int := (a601 ((Int.toNat i602)))
bif decide (0 ≤ i602) then (
bif decide (i602 < (128 : Int)) then (
let i606 : Int := (a604 ((Int.toNat i602)))
let i607 : Int := xorA .u64 i606 i605
bif decide (0 ≤ i602) then (
bif decide (i602 < (128 : Int)) then (
let a608 : (Nat → Int) := (upd a604 ((Int.toNat i602)) i607)
let i609 : Int := addA .i64 i602 1
rec (((), (), l598, i599, i600, a601, i609, ()), (a603, a608, ()))) else none) else none) else none) else none) else none) else none) else (
κ0 (((), (), l598, i599, i600, ()), (a603, a604, ())))
def C_48_3 {R : Type} (m_48_6 : Tl_48_6 R) (rec : ((Unit × Unit × (List (Nat → Int)) × Int × Int × Unit) × Y6) → Option R) (x : ((Unit × Unit × (List (Nat → Int)) × Int × Int × Unit) × Y6)) (κ0 : ((Unit × Unit × Unit) × Y6) → Option R) : Option R :=
let l592 := x.1.2.2.1
let i593 := x.1.2.2.2.1
let i594 := x.1.2.2.2.2.1
let a595 := x.2.1
let a596 := x.2.2.1
bif (decide (i594 < i593)) then (
bif decide (0 ≤ i594) then (
bif decide (i594 < ((List.length l592) : Int)) then (
let p597 : (Nat → Int) := (List.getD l592 ((Int.toNat i594)) (Sch.zero (.arr 128 (.int .u64))))
m_48_6 (((), (), l592, i593, i594, p597, 0, ()), (a595, a596, ())) (fun y610 =>
let l611 := y610.1.2.2.1
let i612 := y610.1.2.2.2.1
let i613 := y610.1.2.2.2.2.1
let a614 := y610.2.1
let a615 := y610.2.2.1
let i616 : Int := addA .i64 i613 1
rec (((), (), l611, i612, i616, ()), (a614, a615, ())))) else none) else none) else (
κ0 (((), (), ()), (a595, a596, ())))
def B_48_6 {R : Type} (N : Nat) (rec : ((Unit × Unit × (List (Nat → Int)) × Int × Int × (Nat → Int) × Int × Unit) × Y6) → Option R) (x : ((Unit × Unit × (List (Nat → Int)) × Int × Int × (Nat → Int) × Int × Unit) × Y6)) (κ0 : ((Unit × Unit × (List (Nat → Int)) × Int × Int × Unit) × Y6) → Option R) : Option R := C_48_6 rec x κ0
def l_48_6 {R : Type} (N : Nat) : Nat → ((Unit × Unit × (List (Nat → Int)) × Int × Int × (Nat → Int) × Int × Unit) × Y6) → (((Unit × Unit × (List (Nat → Int)) × Int × Int × Unit) × Y6) → Option R) → Option R
  | 0, _, _ => none
  | n + 1, x, κ0 => B_48_6 N (fun y => l_48_6 N n y κ0) x κ0
def B_48_3 {R : Type} (N : Nat) (rec : ((Unit × Unit × (List (Nat → Int)) × Int × Int × Unit) × Y6) → Option R) (x : ((Unit × Unit × (List (Nat → Int)) × Int × Int × Unit) × Y6)) (κ0 : ((Unit × Unit × Unit) × Y6) → Option R) : Option R := C_48_3 (l_48_6 N N) rec x κ0
def l_48_3 {R : Type} (N : Nat) : Nat → ((Unit × Unit × (List (Nat → Int)) × Int × Int × Unit) × Y6) → (((Unit × Unit × Unit) × Y6) → Option R) → Option R
  | 0, _, _ => none
  | n + 1, x, κ0 => B_48_3 N (fun y => l_48_3 N n y κ0) x κ0
def Q_48 {R : Type} (m_48_6 : Tl_48_6 R) (m_48_3 : Tl_48_3 R) (x : ((List (Nat → Int)) × Unit) × (Unit)) (κ0 : (Nat → Int) → Option R) : Option R :=
let l590 := x.1.1
let i591 : Int := (((List.length l590) : Nat) : Int)
m_48_3 (((), (), l590, i591, 0, ()), ((Sch.zero (.arr 128 (.int .u64))), (Sch.zero (.arr 128 (.int .u64))), ())) (fun y617 =>
let a618 := y617.2.1
let a619 := y617.2.2.1
κ0 a619)
def p_48 {R : Type} (N : Nat) (x : ((List (Nat → Int)) × Unit) × (Unit)) (κ0 : (Nat → Int) → Option R) : Option R := Q_48 (l_48_6 N N) (l_48_3 N N) x κ0
def EG_48 {R : Type} : Env R := Env.base QQ LN AA
def LG_48 {R : Type} (m_48_6 : Tl_48_6 R) (m_48_3 : Tl_48_3 R) : Loops R := ((Loops.none).add 6 (loopBy 0 lv_48_6 pt_48_6 (fun x k => m_48_6 x (fun y => k (.exit 2) (px_48_6_0.inst y))))).add 3 (loopBy 0 lv_48_3 pt_48_3 (fun x k => m_48_3 x (fun y => k (.exit 0) (px_48_3_0.inst y))))
def E_48 {R : Type} (N : Nat) : Env R := EG_48
theorem eok_48 {R : Type} (N : Nat) : EK Try.prog (E_48 (R := R) N) := ek_base _ _ _
def L_48 {R : Type} (N : Nat) : Loops R := LG_48 (l_48_6 N N) (l_48_3 N N)
theorem gstep_48_6 {R : Type} (m_48_6 : Tl_48_6 R) (m_48_3 : Tl_48_3 R) (n : Nat) (x : pt_48_6.den) (k : Exit → St → Option R) : iter 0 lv_48_6 lo_48_6 (aexec TT (EG_48) (drawAny TT WW) (LG_48 m_48_6 m_48_3) (loopAt 6 (bodyOf Try.f48))) (n + 1) (pt_48_6.inst x) k = C_48_6 (fun y => iter 0 lv_48_6 lo_48_6 (aexec TT (EG_48) (drawAny TT WW) (LG_48 m_48_6 m_48_3) (loopAt 6 (bodyOf Try.f48))) n (pt_48_6.inst y) k) x (fun y => k (.exit 2) (px_48_6_0.inst y)) := by kernel_rfl
theorem step_48_6 {R : Type} (N n : Nat) (x : pt_48_6.den) (k : Exit → St → Option R) : iter 0 lv_48_6 lo_48_6 (aexec TT (E_48 (R := R) N) (drawAny TT WW) (L_48 N) (loopAt 6 (bodyOf Try.f48))) (n + 1) (pt_48_6.inst x) k = B_48_6 N (fun y => iter 0 lv_48_6 lo_48_6 (aexec TT (E_48 (R := R) N) (drawAny TT WW) (L_48 N) (loopAt 6 (bodyOf Try.f48))) n (pt_48_6.inst y) k) x (fun y => k (.exit 2) (px_48_6_0.inst y)) := (gstep_48_6 (l_48_6 N N) (l_48_3 N N) n x k).trans (by kernel_rfl)
theorem eq_48_6 {R : Type} (N : Nat) : ∀ (n : Nat) (x : pt_48_6.den) (k : Exit → St → Option R), iter 0 lv_48_6 lo_48_6 (aexec TT (E_48 (R := R) N) (drawAny TT WW) (L_48 N) (loopAt 6 (bodyOf Try.f48))) n (pt_48_6.inst x) k = l_48_6 N n x (fun y => k (.exit 2) (px_48_6_0.inst y)) :=
  iter_eq (K := Exit → St → Option R) (ks := fun k => k) (l := fun n (x : pt_48_6.den) k => l_48_6 N n x (fun y => k (.exit 2) (px_48_6_0.inst y))) (B := fun (rec : pt_48_6.den → Option R) (x : pt_48_6.den) k => B_48_6 N rec x (fun y => k (.exit 2) (px_48_6_0.inst y))) (fun _ _ => rfl) (fun _ _ _ => rfl) (fun n x k => step_48_6 N n x k)
theorem rounds_48_6 {R : Type} (N : Nat) : Rounds 0 TT (E_48 (R := R) N) (drawAny TT WW) (L_48 N) 6 (loopAt 6 (bodyOf Try.f48)) :=
  rounds_of (p := pt_48_6) (l := fun (x : pt_48_6.den) k => l_48_6 N N x (fun y => k (.exit 2) (px_48_6_0.inst y))) (fun s k => rfl) (fun x k => eq_48_6 N N x k)
theorem gstep_48_3 {R : Type} (m_48_6 : Tl_48_6 R) (m_48_3 : Tl_48_3 R) (n : Nat) (x : pt_48_3.den) (k : Exit → St → Option R) : iter 0 lv_48_3 lo_48_3 (aexec TT (EG_48) (drawAny TT WW) (LG_48 m_48_6 m_48_3) (loopAt 3 (bodyOf Try.f48))) (n + 1) (pt_48_3.inst x) k = C_48_3 m_48_6 (fun y => iter 0 lv_48_3 lo_48_3 (aexec TT (EG_48) (drawAny TT WW) (LG_48 m_48_6 m_48_3) (loopAt 3 (bodyOf Try.f48))) n (pt_48_3.inst y) k) x (fun y => k (.exit 0) (px_48_3_0.inst y)) := by kernel_rfl
theorem step_48_3 {R : Type} (N n : Nat) (x : pt_48_3.den) (k : Exit → St → Option R) : iter 0 lv_48_3 lo_48_3 (aexec TT (E_48 (R := R) N) (drawAny TT WW) (L_48 N) (loopAt 3 (bodyOf Try.f48))) (n + 1) (pt_48_3.inst x) k = B_48_3 N (fun y => iter 0 lv_48_3 lo_48_3 (aexec TT (E_48 (R := R) N) (drawAny TT WW) (L_48 N) (loopAt 3 (bodyOf Try.f48))) n (pt_48_3.inst y) k) x (fun y => k (.exit 0) (px_48_3_0.inst y)) := (gstep_48_3 (l_48_6 N N) (l_48_3 N N) n x k).trans (by kernel_rfl)
theorem eq_48_3 {R : Type} (N : Nat) : ∀ (n : Nat) (x : pt_48_3.den) (k : Exit → St → Option R), iter 0 lv_48_3 lo_48_3 (aexec TT (E_48 (R := R) N) (drawAny TT WW) (L_48 N) (loopAt 3 (bodyOf Try.f48))) n (pt_48_3.inst x) k = l_48_3 N n x (fun y => k (.exit 0) (px_48_3_0.inst y)) :=
  iter_eq (K := Exit → St → Option R) (ks := fun k => k) (l := fun n (x : pt_48_3.den) k => l_48_3 N n x (fun y => k (.exit 0) (px_48_3_0.inst y))) (B := fun (rec : pt_48_3.den → Option R) (x : pt_48_3.den) k => B_48_3 N rec x (fun y => k (.exit 0) (px_48_3_0.inst y))) (fun _ _ => rfl) (fun _ _ _ => rfl) (fun n x k => step_48_3 N n x k)
theorem rounds_48_3 {R : Type} (N : Nat) : Rounds 0 TT (E_48 (R := R) N) (drawAny TT WW) (L_48 N) 3 (loopAt 3 (bodyOf Try.f48)) :=
  rounds_of (p := pt_48_3) (l := fun (x : pt_48_3.den) k => l_48_3 N N x (fun y => k (.exit 0) (px_48_3_0.inst y))) (fun s k => rfl) (fun x k => eq_48_3 N N x k)
theorem loops_48 : loopsIn (bodyOf Try.f48) = [(3, loopAt 3 (bodyOf Try.f48)), (6, loopAt 6 (bodyOf Try.f48))] := by kernel_rfl
theorem lok_48 {R : Type} (N : Nat) : LOK 0 TT (E_48 (R := R) N) (drawAny TT WW) (L_48 N) (bodyOf Try.f48) := loops_all loops_48 (by
  simp only [List.forall_mem_cons, List.not_mem_nil, false_implies, implies_true, and_true]
  exact ⟨rounds_48_3 N, rounds_48_6 N⟩)
theorem grun_48 {R : Type} (m_48_6 : Tl_48_6 R) (m_48_3 : Tl_48_3 R) (x : aden ap_48 × hden hp_48) (k : KF R) : fnrun TT (EG_48) (drawAny TT WW) (LG_48 m_48_6 m_48_3) true Try.f48 (instA ap_48 x.1) (instH hp_48 x.2) k = Q_48 m_48_6 m_48_3 x (fun y => k (Pat.inst (.vec (.int .u64) 128) y) (instH hp_48 x.2)) := by kernel_rfl
theorem run_48 {R : Type} (N : Nat) (x : aden ap_48 × hden hp_48) (k : KF R) : fnrun TT (E_48 (R := R) N) (drawAny TT WW) (L_48 N) true Try.f48 (instA ap_48 x.1) (instH hp_48 x.2) k = p_48 N x (fun y => k (Pat.inst (.vec (.int .u64) 128) y) (instH hp_48 x.2)) := (grun_48 (l_48_6 N N) (l_48_3 N N) x k).trans (by kernel_rfl)
theorem good_48 {R : Type} (N : Nat) : GD (X := R) Try.prog QQ AA 48 ap_48 hp_48 (fun (x : aden ap_48 × hden hp_48) k => p_48 N x (fun y => k (Pat.inst (.vec (.int .u64) 128) y) (instH hp_48 x.2))) :=
  gd_quiet (E := E_48 N) (p := fun (x : aden ap_48 × hden hp_48) κ => p_48 N x (fun y => κ (Pat.inst (.vec (.int .u64) 128) y))) mixed tyok (eok_48 N) Try.func48 (by kernel_rfl) (by kernel_rfl) (lok_48 N) (fun x k => run_48 N x k)

def lv_115_3 : Live := [(0, none), (1, none), (4, none), (5, none), (7, none)]
def pt_115_3 : SPat := ⟨[(0, .int .i64), (1, .bool), (4, .ptr 0 []), (5, .ptr 1 []), (7, .int .i64)], [some (.vec (.int .i64) 16, 192), some (.vec (.int .i64) 16, 192)]⟩
def px_115_3_0 : SPat := ⟨[(4, .ptr 0 []), (5, .ptr 1 [])], [some (.vec (.int .i64) 16, 192), some (.vec (.int .i64) 16, 192)]⟩
def lo_115_3 : Exit → Live
  | .exit 0 => [(4, none), (5, none)]
  | _ => []
def ap_115 : List Pat := [.int .i64, .bool]
def hp_115 : List (Option (Pat × Nat)) := []
abbrev Tl_115_3 (R : Type) : Type := ((Int × Bool × Unit × Unit × Int × Unit) × Y6) → (((Unit × Unit × Unit) × Y6) → Option R) → Option R
abbrev Tp_115 (R : Type) : Type := (Int × Bool × Unit) × (Unit) → ((Nat → Int) → Option R) → Option R
def C_115_3 {R : Type} (rec : ((Int × Bool × Unit × Unit × Int × Unit) × Y6) → Option R) (x : ((Int × Bool × Unit × Unit × Int × Unit) × Y6)) (κ0 : ((Unit × Unit × Unit) × Y6) → Option R) : Option R :=
let i640 := x.1.1
let b641 := x.1.2.1
let i642 := x.1.2.2.2.2.1
let a643 := x.2.1
let a644 := x.2.2.1
bif (decide (i642 < 16)) then (
bif b641 then (
let i645 : Int := mulA .i64 2 i640
let i646 : Int := remA .i64 i642 2
let i647 : Int := addA .i64 i645 i646
let i648 : Int := quoA .i64 i642 2
let i649 : Int := mulA .i64 16 i648
let i650 : Int := addA .i64 i647 i649
bif decide (0 ≤ i642) then (
bif decide (i642 < (16 : Int)) then (
let a651 : (Nat → Int) := (upd a644 ((Int.toNat i642)) i650)
let i652 : Int := addA .i64 i642 1
rec ((i640, b641, (), (), i652, ()), (a643, a651, ()))) else none) else none) else (
let i653 : Int := mulA .i64 16 i640
let i654 : Int := addA .i64 i653 i642
bif decide (0 ≤ i642) then (
bif decide (i642 < (16 : Int)) then (
let a655 : (Nat → Int) := (upd a644 ((Int.toNat i642)) i654)
let i656 : Int := addA .i64 i642 1
rec ((i640, b641, (), (), i656, ()), (a643, a655, ()))) else none) else none)) else (
κ0 (((), (), ()), (a643, a644, ())))
def B_115_3 {R : Type} (N : Nat) (rec : ((Int × Bool × Unit × Unit × Int × Unit) × Y6) → Option R) (x : ((Int × Bool × Unit × Unit × Int × Unit) × Y6)) (κ0 : ((Unit × Unit × Unit) × Y6) → Option R) : Option R := C_115_3 rec x κ0
def l_115_3 {R : Type} (N : Nat) : Nat → ((Int × Bool × Unit × Unit × Int × Unit) × Y6) → (((Unit × Unit × Unit) × Y6) → Option R) → Option R
  | 0, _, _ => none
  | n + 1, x, κ0 => B_115_3 N (fun y => l_115_3 N n y κ0) x κ0
def Q_115 {R : Type} (m_115_3 : Tl_115_3 R) (x : (Int × Bool × Unit) × (Unit)) (κ0 : (Nat → Int) → Option R) : Option R :=
let i638 := x.1.1
let b639 := x.1.2.1
m_115_3 ((i638, b639, (), (), 0, ()), ((Sch.zero (.arr 16 (.int .i64))), (Sch.zero (.arr 16 (.int .i64))), ())) (fun y657 =>
let a658 := y657.2.1
let a659 := y657.2.2.1
κ0 a659)
def p_115 {R : Type} (N : Nat) (x : (Int × Bool × Unit) × (Unit)) (κ0 : (Nat → Int) → Option R) : Option R := Q_115 (l_115_3 N N) x κ0
def EG_115 {R : Type} : Env R := Env.base QQ LN AA
def LG_115 {R : Type} (m_115_3 : Tl_115_3 R) : Loops R := (Loops.none).add 3 (loopBy 0 lv_115_3 pt_115_3 (fun x k => m_115_3 x (fun y => k (.exit 0) (px_115_3_0.inst y))))
def E_115 {R : Type} (N : Nat) : Env R := EG_115
theorem eok_115 {R : Type} (N : Nat) : EK Try.prog (E_115 (R := R) N) := ek_base _ _ _
def L_115 {R : Type} (N : Nat) : Loops R := LG_115 (l_115_3 N N)
theorem gstep_115_3 {R : Type} (m_115_3 : Tl_115_3 R) (n : Nat) (x : pt_115_3.den) (k : Exit → St → Option R) : iter 0 lv_115_3 lo_115_3 (aexec TT (EG_115) (drawAny TT WW) (LG_115 m_115_3) (loopAt 3 (bodyOf Try.f115))) (n + 1) (pt_115_3.inst x) k = C_115_3 (fun y => iter 0 lv_115_3 lo_115_3 (aexec TT (EG_115) (drawAny TT WW) (LG_115 m_115_3) (loopAt 3 (bodyOf Try.f115))) n (pt_115_3.inst y) k) x (fun y => k (.exit 0) (px_115_3_0.inst y)) := by kernel_rfl
theorem step_115_3 {R : Type} (N n : Nat) (x : pt_115_3.den) (k : Exit → St → Option R) : iter 0 lv_115_3 lo_115_3 (aexec TT (E_115 (R := R) N) (drawAny TT WW) (L_115 N) (loopAt 3 (bodyOf Try.f115))) (n + 1) (pt_115_3.inst x) k = B_115_3 N (fun y => iter 0 lv_115_3 lo_115_3 (aexec TT (E_115 (R := R) N) (drawAny TT WW) (L_115 N) (loopAt 3 (bodyOf Try.f115))) n (pt_115_3.inst y) k) x (fun y => k (.exit 0) (px_115_3_0.inst y)) := (gstep_115_3 (l_115_3 N N) n x k).trans (by kernel_rfl)
theorem eq_115_3 {R : Type} (N : Nat) : ∀ (n : Nat) (x : pt_115_3.den) (k : Exit → St → Option R), iter 0 lv_115_3 lo_115_3 (aexec TT (E_115 (R := R) N) (drawAny TT WW) (L_115 N) (loopAt 3 (bodyOf Try.f115))) n (pt_115_3.inst x) k = l_115_3 N n x (fun y => k (.exit 0) (px_115_3_0.inst y)) :=
  iter_eq (K := Exit → St → Option R) (ks := fun k => k) (l := fun n (x : pt_115_3.den) k => l_115_3 N n x (fun y => k (.exit 0) (px_115_3_0.inst y))) (B := fun (rec : pt_115_3.den → Option R) (x : pt_115_3.den) k => B_115_3 N rec x (fun y => k (.exit 0) (px_115_3_0.inst y))) (fun _ _ => rfl) (fun _ _ _ => rfl) (fun n x k => step_115_3 N n x k)
theorem rounds_115_3 {R : Type} (N : Nat) : Rounds 0 TT (E_115 (R := R) N) (drawAny TT WW) (L_115 N) 3 (loopAt 3 (bodyOf Try.f115)) :=
  rounds_of (p := pt_115_3) (l := fun (x : pt_115_3.den) k => l_115_3 N N x (fun y => k (.exit 0) (px_115_3_0.inst y))) (fun s k => rfl) (fun x k => eq_115_3 N N x k)
theorem loops_115 : loopsIn (bodyOf Try.f115) = [(3, loopAt 3 (bodyOf Try.f115))] := by kernel_rfl
theorem lok_115 {R : Type} (N : Nat) : LOK 0 TT (E_115 (R := R) N) (drawAny TT WW) (L_115 N) (bodyOf Try.f115) := loops_all loops_115 (by
  simp only [List.forall_mem_cons, List.not_mem_nil, false_implies, implies_true, and_true]
  exact rounds_115_3 N)
theorem grun_115 {R : Type} (m_115_3 : Tl_115_3 R) (x : aden ap_115 × hden hp_115) (k : KF R) : fnrun TT (EG_115) (drawAny TT WW) (LG_115 m_115_3) true Try.f115 (instA ap_115 x.1) (instH hp_115 x.2) k = Q_115 m_115_3 x (fun y => k (Pat.inst (.vec (.int .i64) 16) y) (instH hp_115 x.2)) := by kernel_rfl
theorem run_115 {R : Type} (N : Nat) (x : aden ap_115 × hden hp_115) (k : KF R) : fnrun TT (E_115 (R := R) N) (drawAny TT WW) (L_115 N) true Try.f115 (instA ap_115 x.1) (instH hp_115 x.2) k = p_115 N x (fun y => k (Pat.inst (.vec (.int .i64) 16) y) (instH hp_115 x.2)) := (grun_115 (l_115_3 N N) x k).trans (by kernel_rfl)
theorem good_115 {R : Type} (N : Nat) : GD (X := R) Try.prog QQ AA 115 ap_115 hp_115 (fun (x : aden ap_115 × hden hp_115) k => p_115 N x (fun y => k (Pat.inst (.vec (.int .i64) 16) y) (instH hp_115 x.2))) :=
  gd_quiet (E := E_115 N) (p := fun (x : aden ap_115 × hden hp_115) κ => p_115 N x (fun y => κ (Pat.inst (.vec (.int .i64) 16) y))) mixed tyok (eok_115 N) Try.func115 (by kernel_rfl) (by kernel_rfl) (lok_115 N) (fun x k => run_115 N x k)

def ap_120 : List Pat := []
def hp_120 : List (Option (Pat × Nat)) := []
abbrev Tp_120 (R : Type) : Type := (Unit) × (Unit) → ((Nat → (Nat → Int)) → Option R) → Option R
def Q_120 {R : Type} (x : (Unit) × (Unit)) (κ0 : (Nat → (Nat → Int)) → Option R) : Option R :=
let a688 : (Nat → Int) := (upd ((upd ((upd ((upd ((Sch.zero (.arr 4 (.int .i64)))) 0 0)) 1 4)) 2 8)) 3 12)
let a689 : (Nat → Int) := (upd ((upd ((upd ((upd ((Sch.zero (.arr 4 (.int .i64)))) 0 1)) 1 5)) 2 9)) 3 13)
let a690 : (Nat → Int) := (upd ((upd ((upd ((upd ((Sch.zero (.arr 4 (.int .i64)))) 0 2)) 1 6)) 2 10)) 3 14)
let a691 : (Nat → Int) := (upd ((upd ((upd ((upd ((Sch.zero (.arr 4 (.int .i64)))) 0 3)) 1 7)) 2 11)) 3 15)
let a692 : (Nat → Int) := (upd ((upd ((upd ((upd ((Sch.zero (.arr 4 (.int .i64)))) 0 0)) 1 5)) 2 10)) 3 15)
let a693 : (Nat → Int) := (upd ((upd ((upd ((upd ((Sch.zero (.arr 4 (.int .i64)))) 0 1)) 1 6)) 2 11)) 3 12)
let a694 : (Nat → Int) := (upd ((upd ((upd ((upd ((Sch.zero (.arr 4 (.int .i64)))) 0 2)) 1 7)) 2 8)) 3 13)
let a695 : (Nat → Int) := (upd ((upd ((upd ((upd ((Sch.zero (.arr 4 (.int .i64)))) 0 3)) 1 4)) 2 9)) 3 14)
let a696 : (Nat → (Nat → Int)) := (upd ((upd ((upd ((upd ((upd ((upd ((upd ((upd ((Sch.zero (.arr 8 (.arr 4 (.int .i64))))) 0 a688)) 1 a689)) 2 a690)) 3 a691)) 4 a692)) 5 a693)) 6 a694)) 7 a695)
κ0 a696
def p_120 {R : Type} (N : Nat) (x : (Unit) × (Unit)) (κ0 : (Nat → (Nat → Int)) → Option R) : Option R := Q_120 x κ0
def EG_120 {R : Type} : Env R := Env.base QQ LN AA
def LG_120 {R : Type} : Loops R := Loops.none
def E_120 {R : Type} (N : Nat) : Env R := EG_120
theorem eok_120 {R : Type} (N : Nat) : EK Try.prog (E_120 (R := R) N) := ek_base _ _ _
def L_120 {R : Type} (N : Nat) : Loops R := LG_120
theorem lok_120 {R : Type} (N : Nat) : LOK 0 TT (E_120 (R := R) N) (drawAny TT WW) (L_120 N) (bodyOf Try.f120) := loops_nil (by kernel_rfl)
theorem grun_120 {R : Type} (x : aden ap_120 × hden hp_120) (k : KF R) : fnrun TT (EG_120) (drawAny TT WW) (LG_120) true Try.f120 (instA ap_120 x.1) (instH hp_120 x.2) k = Q_120 x (fun y => k (Pat.inst (.vec (.arr 4 (.int .i64)) 8) y) (instH hp_120 x.2)) := by kernel_rfl
theorem run_120 {R : Type} (N : Nat) (x : aden ap_120 × hden hp_120) (k : KF R) : fnrun TT (E_120 (R := R) N) (drawAny TT WW) (L_120 N) true Try.f120 (instA ap_120 x.1) (instH hp_120 x.2) k = p_120 N x (fun y => k (Pat.inst (.vec (.arr 4 (.int .i64)) 8) y) (instH hp_120 x.2)) := (grun_120 x k).trans (by kernel_rfl)
theorem good_120 {R : Type} (N : Nat) : GD (X := R) Try.prog QQ AA 120 ap_120 hp_120 (fun (x : aden ap_120 × hden hp_120) k => p_120 N x (fun y => k (Pat.inst (.vec (.arr 4 (.int .i64)) 8) y) (instH hp_120 x.2))) :=
  gd_quiet (E := E_120 N) (p := fun (x : aden ap_120 × hden hp_120) κ => p_120 N x (fun y => κ (Pat.inst (.vec (.arr 4 (.int .i64)) 8) y))) mixed tyok (eok_120 N) Try.func120 (by kernel_rfl) (by kernel_rfl) (lok_120 N) (fun x k => run_120 N x k)

def ap_122 : List Pat := [.int .u64, .int .u64]
def hp_122 : List (Option (Pat × Nat)) := []
abbrev Tp_122 (R : Type) : Type := (Int × Int × Unit) × (Unit) → (Int → Option R) → Option R
def Q_122 {R : Type} (x : (Int × Int × Unit) × (Unit)) (κ0 : Int → Option R) : Option R :=
let i716 := x.1.1
let i717 := x.1.2.1
let i718 : Int := addA .u64 i716 i717
let i719 : Int := IntKind.wrap .u32 i716
let i720 : Int := IntKind.wrap .u64 i719
let i721 : Int := mulA .u64 2 i720
let i722 : Int := IntKind.wrap .u32 i717
let i723 : Int := IntKind.wrap .u64 i722
let i724 : Int := mulA .u64 i721 i723
let i725 : Int := addA .u64 i718 i724
κ0 i725
def p_122 {R : Type} (N : Nat) (x : (Int × Int × Unit) × (Unit)) (κ0 : Int → Option R) : Option R := Q_122 x κ0
def EG_122 {R : Type} : Env R := Env.base QQ LN AA
def LG_122 {R : Type} : Loops R := Loops.none
def E_122 {R : Type} (N : Nat) : Env R := EG_122
theorem eok_122 {R : Type} (N : Nat) : EK Try.prog (E_122 (R := R) N) := ek_base _ _ _
def L_122 {R : Type} (N : Nat) : Loops R := LG_122
theorem lok_122 {R : Type} (N : Nat) : LOK 0 TT (E_122 (R := R) N) (drawAny TT WW) (L_122 N) (bodyOf Try.f122) := loops_nil (by kernel_rfl)
theorem grun_122 {R : Type} (x : aden ap_122 × hden hp_122) (k : KF R) : fnrun TT (EG_122) (drawAny TT WW) (LG_122) true Try.f122 (instA ap_122 x.1) (instH hp_122 x.2) k = Q_122 x (fun y => k (Pat.inst (.int .u64) y) (instH hp_122 x.2)) := by kernel_rfl
theorem run_122 {R : Type} (N : Nat) (x : aden ap_122 × hden hp_122) (k : KF R) : fnrun TT (E_122 (R := R) N) (drawAny TT WW) (L_122 N) true Try.f122 (instA ap_122 x.1) (instH hp_122 x.2) k = p_122 N x (fun y => k (Pat.inst (.int .u64) y) (instH hp_122 x.2)) := (grun_122 x k).trans (by kernel_rfl)
theorem good_122 {R : Type} (N : Nat) : GD (X := R) Try.prog QQ AA 122 ap_122 hp_122 (fun (x : aden ap_122 × hden hp_122) k => p_122 N x (fun y => k (Pat.inst (.int .u64) y) (instH hp_122 x.2))) :=
  gd_quiet (E := E_122 N) (p := fun (x : aden ap_122 × hden hp_122) κ => p_122 N x (fun y => κ (Pat.inst (.int .u64) y))) mixed tyok (eok_122 N) Try.func122 (by kernel_rfl) (by kernel_rfl) (lok_122 N) (fun x k => run_122 N x k)

def ap_117 : List Pat := [.int .u64, .int .i64]
def hp_117 : List (Option (Pat × Nat)) := []
abbrev Tp_117 (R : Type) : Type := (Int × Int × Unit) × (Unit) → (Int → Option R) → Option R
def Q_117 {R : Type} (x : (Int × Int × Unit) × (Unit)) (κ0 : Int → Option R) : Option R :=
let i729 := x.1.1
let i730 := x.1.2.1
let i731 : Int := IntKind.wrap .u64 i730
let i732 : Int := remA .u64 i731 64
bif decide (i732 < 0) then none else (
let i733 : Int := shrA .u64 i729 i732
let i734 : Int := subA .u64 64 i732
bif decide (i734 < 0) then none else (
let i735 : Int := shlA .u64 i729 i734
let i736 : Int := orA .u64 i733 i735
κ0 i736))
def p_117 {R : Type} (N : Nat) (x : (Int × Int × Unit) × (Unit)) (κ0 : Int → Option R) : Option R := Q_117 x κ0
def EG_117 {R : Type} : Env R := Env.base QQ LN AA
def LG_117 {R : Type} : Loops R := Loops.none
def E_117 {R : Type} (N : Nat) : Env R := EG_117
theorem eok_117 {R : Type} (N : Nat) : EK Try.prog (E_117 (R := R) N) := ek_base _ _ _
def L_117 {R : Type} (N : Nat) : Loops R := LG_117
theorem lok_117 {R : Type} (N : Nat) : LOK 0 TT (E_117 (R := R) N) (drawAny TT WW) (L_117 N) (bodyOf Try.f117) := loops_nil (by kernel_rfl)
theorem grun_117 {R : Type} (x : aden ap_117 × hden hp_117) (k : KF R) : fnrun TT (EG_117) (drawAny TT WW) (LG_117) true Try.f117 (instA ap_117 x.1) (instH hp_117 x.2) k = Q_117 x (fun y => k (Pat.inst (.int .u64) y) (instH hp_117 x.2)) := by kernel_rfl
theorem run_117 {R : Type} (N : Nat) (x : aden ap_117 × hden hp_117) (k : KF R) : fnrun TT (E_117 (R := R) N) (drawAny TT WW) (L_117 N) true Try.f117 (instA ap_117 x.1) (instH hp_117 x.2) k = p_117 N x (fun y => k (Pat.inst (.int .u64) y) (instH hp_117 x.2)) := (grun_117 x k).trans (by kernel_rfl)
theorem good_117 {R : Type} (N : Nat) : GD (X := R) Try.prog QQ AA 117 ap_117 hp_117 (fun (x : aden ap_117 × hden hp_117) k => p_117 N x (fun y => k (Pat.inst (.int .u64) y) (instH hp_117 x.2))) :=
  gd_quiet (E := E_117 N) (p := fun (x : aden ap_117 × hden hp_117) κ => p_117 N x (fun y => κ (Pat.inst (.int .u64) y))) mixed tyok (eok_117 N) Try.func117 (by kernel_rfl) (by kernel_rfl) (lok_117 N) (fun x k => run_117 N x k)

def ap_121 : List Pat := [.int .u64, .int .u64, .int .u64, .int .u64]
def hp_121 : List (Option (Pat × Nat)) := []
abbrev Tp_121 (R : Type) : Type := (Int × Int × Int × Int × Unit) × (Unit) → (Y2 → Option R) → Option R
def Q_121 {R : Type} (q_122 : Tp_122 R) (q_117 : Tp_117 R) (x : (Int × Int × Int × Int × Unit) × (Unit)) (κ0 : Y2 → Option R) : Option R :=
let i712 := x.1.1
let i713 := x.1.2.1
let i714 := x.1.2.2.1
let i715 := x.1.2.2.2.1
q_122 ((i712, i713, ()), ()) (fun y726 =>
let i727 : Int := y726
let i728 : Int := xorA .u64 i715 i727
q_117 ((i728, 32, ()), ()) (fun y737 =>
let i738 : Int := y737
q_122 ((i714, i738, ()), ()) (fun y739 =>
let i740 : Int := y739
let i741 : Int := xorA .u64 i713 i740
q_117 ((i741, 24, ()), ()) (fun y742 =>
let i743 := y742
q_122 ((i727, i743, ()), ()) (fun y744 =>
let i745 : Int := y744
let i746 : Int := xorA .u64 i738 i745
q_117 ((i746, 16, ()), ()) (fun y747 =>
let i748 : Int := y747
q_122 ((i740, i748, ()), ()) (fun y749 =>
let i750 : Int := y749
let i751 : Int := xorA .u64 i743 i750
q_117 ((i751, 63, ()), ()) (fun y752 =>
let i753 := y752
κ0 ((i745, (i753, (i750, (i748, ())))))))))))))
def p_121 {R : Type} (N : Nat) (x : (Int × Int × Int × Int × Unit) × (Unit)) (κ0 : Y2 → Option R) : Option R := Q_121 (p_122 N) (p_117 N) x κ0
def EG_121 {R : Type} (q_122 : Tp_122 R) (q_117 : Tp_117 R) : Env R := ((Env.base QQ LN AA).add 122 ap_122 hp_122 (fun (x : aden ap_122 × hden hp_122) k => q_122 x (fun y => k (Pat.inst (.int .u64) y) (instH hp_122 x.2)))).add 117 ap_117 hp_117 (fun (x : aden ap_117 × hden hp_117) k => q_117 x (fun y => k (Pat.inst (.int .u64) y) (instH hp_117 x.2)))
def LG_121 {R : Type} : Loops R := Loops.none
def E_121 {R : Type} (N : Nat) : Env R := EG_121 (p_122 N) (p_117 N)
theorem eok_121 {R : Type} (N : Nat) : EK Try.prog (E_121 (R := R) N) := ek_add (ek_add (ek_base _ _ _) (good_122 N)) (good_117 N)
def L_121 {R : Type} (N : Nat) : Loops R := LG_121
theorem lok_121 {R : Type} (N : Nat) : LOK 0 TT (E_121 (R := R) N) (drawAny TT WW) (L_121 N) (bodyOf Try.f121) := loops_nil (by kernel_rfl)
theorem grun_121 {R : Type} (q_122 : Tp_122 R) (q_117 : Tp_117 R) (x : aden ap_121 × hden hp_121) (k : KF R) : fnrun TT (EG_121 q_122 q_117) (drawAny TT WW) (LG_121) true Try.f121 (instA ap_121 x.1) (instH hp_121 x.2) k = Q_121 q_122 q_117 x (fun y => k (Pat.inst (.tup (.fcons (.int .u64) (.fcons (.int .u64) (.fcons (.int .u64) (.fcons (.int .u64) (.fnil)))))) y) (instH hp_121 x.2)) := by kernel_rfl
theorem run_121 {R : Type} (N : Nat) (x : aden ap_121 × hden hp_121) (k : KF R) : fnrun TT (E_121 (R := R) N) (drawAny TT WW) (L_121 N) true Try.f121 (instA ap_121 x.1) (instH hp_121 x.2) k = p_121 N x (fun y => k (Pat.inst (.tup (.fcons (.int .u64) (.fcons (.int .u64) (.fcons (.int .u64) (.fcons (.int .u64) (.fnil)))))) y) (instH hp_121 x.2)) := (grun_121 (p_122 N) (p_117 N) x k).trans (by kernel_rfl)
theorem good_121 {R : Type} (N : Nat) : GD (X := R) Try.prog QQ AA 121 ap_121 hp_121 (fun (x : aden ap_121 × hden hp_121) k => p_121 N x (fun y => k (Pat.inst (.tup (.fcons (.int .u64) (.fcons (.int .u64) (.fcons (.int .u64) (.fcons (.int .u64) (.fnil)))))) y) (instH hp_121 x.2))) :=
  gd_quiet (E := E_121 N) (p := fun (x : aden ap_121 × hden hp_121) κ => p_121 N x (fun y => κ (Pat.inst (.tup (.fcons (.int .u64) (.fcons (.int .u64) (.fcons (.int .u64) (.fcons (.int .u64) (.fnil)))))) y))) mixed tyok (eok_121 N) Try.func121 (by kernel_rfl) (by kernel_rfl) (lok_121 N) (fun x k => run_121 N x k)

def lv_116_2 : Live := [(1, none), (2, none), (9, none), (10, none)]
def pt_116_2 : SPat := ⟨[(1, .ptr 0 []), (2, .ptr 1 []), (9, .vec (.arr 4 (.int .i64)) 8), (10, .int .i64)], [some (.vec (.int .u64) 16, 186), some (.vec (.int .u64) 16, 186)]⟩
def px_116_2_0 : SPat := ⟨[(1, .ptr 0 []), (2, .ptr 1 [])], [some (.vec (.int .u64) 16, 186), some (.vec (.int .u64) 16, 186)]⟩
def lo_116_2 : Exit → Live
  | .exit 0 => [(1, none), (2, none)]
  | _ => []
def ap_116 : List Pat := [.vec (.int .u64) 16]
def hp_116 : List (Option (Pat × Nat)) := []
abbrev Tl_116_2 (R : Type) : Type := ((Unit × Unit × (Nat → (Nat → Int)) × Int × Unit) × Y6) → (((Unit × Unit × Unit) × Y6) → Option R) → Option R
abbrev Tp_116 (R : Type) : Type := ((Nat → Int) × Unit) × (Unit) → ((Nat → Int) → Option R) → Option R
def C_116_2 {R : Type} (q_121 : Tp_121 R) (rec : ((Unit × Unit × (Nat → (Nat → Int)) × Int × Unit) × Y6) → Option R) (x : ((Unit × Unit × (Nat → (Nat → Int)) × Int × Unit) × Y6)) (κ0 : ((Unit × Unit × Unit) × Y6) → Option R) : Option R :=
let a699 := x.1.2.2.1
let i700 := x.1.2.2.2.1
let a701 := x.2.1
let a702 := x.2.2.1
bif (decide (i700 < 8)) then (
bif decide (0 ≤ i700) then (
bif decide (i700 < (8 : Int)) then (
let a703 : (Nat → Int) := (a699 ((Int.toNat i700)))
let i704 : Int := (a703 0)
let i705 : Int := (a703 1)
let i706 : Int := (a703 2)
let i707 : Int := (a703 3)
bif decide (0 ≤ i704) then (
bif decide (i704 < (16 : Int)) then (
let i708 : Int := (a701 ((Int.toNat i704)))
bif decide (0 ≤ i705) then (
bif decide (i705 < (16 : Int)) then (
let i709 : Int := (a701 ((Int.toNat i705)))
bif decide (0 ≤ i706) then (
bif decide (i706 < (16 : Int)) then (
let i710 : Int := (a701 ((Int.toNat i706)))
bif decide (0 ≤ i707) then (
bif decide (i707 < (16 : Int)) then (
let i711 : Int := (a701 ((Int.toNat i707)))
q_121 ((i708, i709, i710, i711, ()), ()) (fun y754 =>
let i755 := y754.1
let i756 := y754.2.1
let i757 := y754.2.2.1
let i758 := y754.2.2.2.1
bif decide (0 ≤ i704) then (
bif decide (i704 < (16 : Int)) then (
let a759 : (Nat → Int) := (upd a701 ((Int.toNat i704)) i755)
bif decide (0 ≤ i705) then (
bif decide (i705 < (16 : Int)) then (
let a760 : (Nat → Int) := (upd a759 ((Int.toNat i705)) i756)
bif decide (0 ≤ i706) then (
bif decide (i706 < (16 : Int)) then (
let a761 : (Nat → Int) := (upd a760 ((Int.toNat i706)) i757)
bif decide (0 ≤ i707) then (
bif decide (i707 < (16 : Int)) then (
let a762 : (Nat → Int) := (upd a761 ((Int.toNat i707)) i758)
let i763 : Int := addA .i64 i700 1
rec (((), (), a699, i763, ()), (a762, a702, ()))) else none) else none) else none) else none) else none) else none) else none) else none)) else none) else none) else none) else none) else none) else none) else none) else none) else none) else none) else (
κ0 (((), (), ()), (a701, a702, ())))
def B_116_2 {R : Type} (N : Nat) (rec : ((Unit × Unit × (Nat → (Nat → Int)) × Int × Unit) × Y6) → Option R) (x : ((Unit × Unit × (Nat → (Nat → Int)) × Int × Unit) × Y6)) (κ0 : ((Unit × Unit × Unit) × Y6) → Option R) : Option R := C_116_2 (p_121 N) rec x κ0
def l_116_2 {R : Type} (N : Nat) : Nat → ((Unit × Unit × (Nat → (Nat → Int)) × Int × Unit) × Y6) → (((Unit × Unit × Unit) × Y6) → Option R) → Option R
  | 0, _, _ => none
  | n + 1, x, κ0 => B_116_2 N (fun y => l_116_2 N n y κ0) x κ0
def Q_116 {R : Type} (q_120 : Tp_120 R) (q_121 : Tp_121 R) (m_116_2 : Tl_116_2 R) (x : ((Nat → Int) × Unit) × (Unit)) (κ0 : (Nat → Int) → Option R) : Option R :=
let a687 := x.1.1
q_120 ((), ()) (fun y697 =>
let a698 : (Nat → (Nat → Int)) := y697
m_116_2 (((), (), a698, 0, ()), (a687, (Sch.zero (.arr 16 (.int .u64))), ())) (fun y764 =>
let a765 := y764.2.1
let a766 := y764.2.2.1
κ0 a765))
def p_116 {R : Type} (N : Nat) (x : ((Nat → Int) × Unit) × (Unit)) (κ0 : (Nat → Int) → Option R) : Option R := Q_116 (p_120 N) (p_121 N) (l_116_2 N N) x κ0
def EG_116 {R : Type} (q_120 : Tp_120 R) (q_121 : Tp_121 R) : Env R := ((Env.base QQ LN AA).add 120 ap_120 hp_120 (fun (x : aden ap_120 × hden hp_120) k => q_120 x (fun y => k (Pat.inst (.vec (.arr 4 (.int .i64)) 8) y) (instH hp_120 x.2)))).add 121 ap_121 hp_121 (fun (x : aden ap_121 × hden hp_121) k => q_121 x (fun y => k (Pat.inst (.tup (.fcons (.int .u64) (.fcons (.int .u64) (.fcons (.int .u64) (.fcons (.int .u64) (.fnil)))))) y) (instH hp_121 x.2)))
def LG_116 {R : Type} (m_116_2 : Tl_116_2 R) : Loops R := (Loops.none).add 2 (loopBy 0 lv_116_2 pt_116_2 (fun x k => m_116_2 x (fun y => k (.exit 0) (px_116_2_0.inst y))))
def E_116 {R : Type} (N : Nat) : Env R := EG_116 (p_120 N) (p_121 N)
theorem eok_116 {R : Type} (N : Nat) : EK Try.prog (E_116 (R := R) N) := ek_add (ek_add (ek_base _ _ _) (good_120 N)) (good_121 N)
def L_116 {R : Type} (N : Nat) : Loops R := LG_116 (l_116_2 N N)
theorem gstep_116_2 {R : Type} (q_120 : Tp_120 R) (q_121 : Tp_121 R) (m_116_2 : Tl_116_2 R) (n : Nat) (x : pt_116_2.den) (k : Exit → St → Option R) : iter 0 lv_116_2 lo_116_2 (aexec TT (EG_116 q_120 q_121) (drawAny TT WW) (LG_116 m_116_2) (loopAt 2 (bodyOf Try.f116))) (n + 1) (pt_116_2.inst x) k = C_116_2 q_121 (fun y => iter 0 lv_116_2 lo_116_2 (aexec TT (EG_116 q_120 q_121) (drawAny TT WW) (LG_116 m_116_2) (loopAt 2 (bodyOf Try.f116))) n (pt_116_2.inst y) k) x (fun y => k (.exit 0) (px_116_2_0.inst y)) := by kernel_rfl
theorem step_116_2 {R : Type} (N n : Nat) (x : pt_116_2.den) (k : Exit → St → Option R) : iter 0 lv_116_2 lo_116_2 (aexec TT (E_116 (R := R) N) (drawAny TT WW) (L_116 N) (loopAt 2 (bodyOf Try.f116))) (n + 1) (pt_116_2.inst x) k = B_116_2 N (fun y => iter 0 lv_116_2 lo_116_2 (aexec TT (E_116 (R := R) N) (drawAny TT WW) (L_116 N) (loopAt 2 (bodyOf Try.f116))) n (pt_116_2.inst y) k) x (fun y => k (.exit 0) (px_116_2_0.inst y)) := (gstep_116_2 (p_120 N) (p_121 N) (l_116_2 N N) n x k).trans (by kernel_rfl)
theorem eq_116_2 {R : Type} (N : Nat) : ∀ (n : Nat) (x : pt_116_2.den) (k : Exit → St → Option R), iter 0 lv_116_2 lo_116_2 (aexec TT (E_116 (R := R) N) (drawAny TT WW) (L_116 N) (loopAt 2 (bodyOf Try.f116))) n (pt_116_2.inst x) k = l_116_2 N n x (fun y => k (.exit 0) (px_116_2_0.inst y)) :=
  iter_eq (K := Exit → St → Option R) (ks := fun k => k) (l := fun n (x : pt_116_2.den) k => l_116_2 N n x (fun y => k (.exit 0) (px_116_2_0.inst y))) (B := fun (rec : pt_116_2.den → Option R) (x : pt_116_2.den) k => B_116_2 N rec x (fun y => k (.exit 0) (px_116_2_0.inst y))) (fun _ _ => rfl) (fun _ _ _ => rfl) (fun n x k => step_116_2 N n x k)
theorem rounds_116_2 {R : Type} (N : Nat) : Rounds 0 TT (E_116 (R := R) N) (drawAny TT WW) (L_116 N) 2 (loopAt 2 (bodyOf Try.f116)) :=
  rounds_of (p := pt_116_2) (l := fun (x : pt_116_2.den) k => l_116_2 N N x (fun y => k (.exit 0) (px_116_2_0.inst y))) (fun s k => rfl) (fun x k => eq_116_2 N N x k)
theorem loops_116 : loopsIn (bodyOf Try.f116) = [(2, loopAt 2 (bodyOf Try.f116))] := by kernel_rfl
theorem lok_116 {R : Type} (N : Nat) : LOK 0 TT (E_116 (R := R) N) (drawAny TT WW) (L_116 N) (bodyOf Try.f116) := loops_all loops_116 (by
  simp only [List.forall_mem_cons, List.not_mem_nil, false_implies, implies_true, and_true]
  exact rounds_116_2 N)
theorem grun_116 {R : Type} (q_120 : Tp_120 R) (q_121 : Tp_121 R) (m_116_2 : Tl_116_2 R) (x : aden ap_116 × hden hp_116) (k : KF R) : fnrun TT (EG_116 q_120 q_121) (drawAny TT WW) (LG_116 m_116_2) true Try.f116 (instA ap_116 x.1) (instH hp_116 x.2) k = Q_116 q_120 q_121 m_116_2 x (fun y => k (Pat.inst (.vec (.int .u64) 16) y) (instH hp_116 x.2)) := by kernel_rfl
theorem run_116 {R : Type} (N : Nat) (x : aden ap_116 × hden hp_116) (k : KF R) : fnrun TT (E_116 (R := R) N) (drawAny TT WW) (L_116 N) true Try.f116 (instA ap_116 x.1) (instH hp_116 x.2) k = p_116 N x (fun y => k (Pat.inst (.vec (.int .u64) 16) y) (instH hp_116 x.2)) := (grun_116 (p_120 N) (p_121 N) (l_116_2 N N) x k).trans (by kernel_rfl)
theorem good_116 {R : Type} (N : Nat) : GD (X := R) Try.prog QQ AA 116 ap_116 hp_116 (fun (x : aden ap_116 × hden hp_116) k => p_116 N x (fun y => k (Pat.inst (.vec (.int .u64) 16) y) (instH hp_116 x.2))) :=
  gd_quiet (E := E_116 N) (p := fun (x : aden ap_116 × hden hp_116) κ => p_116 N x (fun y => κ (Pat.inst (.vec (.int .u64) 16) y))) mixed tyok (eok_116 N) Try.func116 (by kernel_rfl) (by kernel_rfl) (lok_116 N) (fun x k => run_116 N x k)

def lv_105_10 : Live := [(1, none), (2, none), (4, none), (6, none), (7, none), (12, none), (13, none), (14, none), (18, none), (24, none), (25, none)]
def pt_105_10 : SPat := ⟨[(1, .ptr 0 []), (2, .ptr 1 []), (4, .bool), (6, .ptr 2 []), (7, .ptr 3 []), (12, .sl 4), (13, .int .i64), (14, .int .i64), (18, .int .i64), (24, .vec (.int .i64) 16), (25, .int .i64)], [some (.vec (.int .u64) 128, 29), some (.vec (.int .u64) 128, 29), some (.vec (.int .i64) 16, 192), some (.vec (.int .u64) 16, 186), some (.lst (.bool), 4)]⟩
def px_105_10_0 : SPat := ⟨[(1, .ptr 0 []), (2, .ptr 1 []), (4, .bool), (6, .ptr 2 []), (7, .ptr 3 []), (12, .sl 4), (13, .int .i64), (14, .int .i64), (18, .int .i64)], [some (.vec (.int .u64) 128, 29), some (.vec (.int .u64) 128, 29), some (.vec (.int .i64) 16, 192), some (.vec (.int .u64) 16, 186), some (.lst (.bool), 4)]⟩
def lo_105_10 : Exit → Live
  | .exit 4 => [(1, none), (2, none), (4, none), (6, none), (7, none), (12, none), (13, none), (14, none), (18, none)]
  | _ => []
def lv_105_16 : Live := [(1, none), (2, none), (4, none), (7, none), (12, none), (13, none), (14, none), (18, none), (37, none), (38, none)]
def pt_105_16 : SPat := ⟨[(1, .ptr 0 []), (2, .ptr 1 []), (4, .bool), (7, .ptr 2 []), (12, .sl 3), (13, .int .i64), (14, .int .i64), (18, .int .i64), (37, .vec (.int .i64) 16), (38, .int .i64)], [some (.vec (.int .u64) 128, 29), some (.vec (.int .u64) 128, 29), some (.vec (.int .u64) 16, 186), some (.lst (.bool), 4)]⟩
def px_105_16_0 : SPat := ⟨[(1, .ptr 0 []), (2, .ptr 1 []), (4, .bool), (12, .sl 2), (13, .int .i64), (14, .int .i64), (18, .int .i64)], [some (.vec (.int .u64) 128, 29), some (.vec (.int .u64) 128, 29), some (.lst (.bool), 4)]⟩
def lo_105_16 : Exit → Live
  | .exit 6 => [(1, none), (2, none), (4, none), (12, none), (13, none), (14, none), (18, none)]
  | _ => []
def lv_105_5 : Live := [(1, none), (2, none), (4, none), (12, none), (13, none), (14, none), (18, none)]
def pt_105_5 : SPat := ⟨[(1, .ptr 0 []), (2, .ptr 1 []), (4, .bool), (12, .sl 2), (13, .int .i64), (14, .int .i64), (18, .int .i64)], [some (.vec (.int .u64) 128, 29), some (.vec (.int .u64) 128, 29), some (.lst (.bool), 4)]⟩
def px_105_5_0 : SPat := ⟨[(1, .ptr 0 []), (2, .ptr 1 []), (12, .sl 2), (13, .int .i64), (14, .int .i64)], [some (.vec (.int .u64) 128, 29), some (.vec (.int .u64) 128, 29), some (.lst (.bool), 4)]⟩
def lo_105_5 : Exit → Live
  | .exit 2 => [(1, none), (2, none), (12, none), (13, none), (14, none)]
  | _ => []
def lv_105_2 : Live := [(1, none), (2, none), (12, none), (13, none), (14, none)]
def pt_105_2 : SPat := ⟨[(1, .ptr 0 []), (2, .ptr 1 []), (12, .sl 2), (13, .int .i64), (14, .int .i64)], [some (.vec (.int .u64) 128, 29), some (.vec (.int .u64) 128, 29), some (.lst (.bool), 4)]⟩
def px_105_2_0 : SPat := ⟨[(1, .ptr 0 []), (2, .ptr 1 [])], J8⟩
def lo_105_2 : Exit → Live
  | .exit 0 => [(1, none), (2, none)]
  | _ => []
def ap_105 : List Pat := [.vec (.int .u64) 128]
def hp_105 : List (Option (Pat × Nat)) := []
abbrev Tl_105_10 (R : Type) : Type := Y12 → (((Unit × Unit × Bool × Unit × Unit × Unit × Int × Int × Int × Unit) × ((Nat → Int) × (Nat → Int) × (Nat → Int) × (Nat → Int) × (List Bool) × Unit)) → Option R) → Option R
abbrev Tl_105_16 (R : Type) : Type := Y14 → (Y8 → Option R) → Option R
abbrev Tl_105_5 (R : Type) : Type := Y8 → (Y11 → Option R) → Option R
abbrev Tl_105_2 (R : Type) : Type := Y11 → (((Unit × Unit × Unit) × Y6) → Option R) → Option R
abbrev Tp_105 (R : Type) : Type := ((Nat → Int) × Unit) × (Unit) → ((Nat → Int) → Option R) → Option R
def C_105_10 {R : Type} (rec : Y12 → Option R) (x : Y12) (κ0 : ((Unit × Unit × Bool × Unit × Unit × Unit × Int × Int × Int × Unit) × ((Nat → Int) × (Nat → Int) × (Nat → Int) × (Nat → Int) × (List Bool) × Unit)) → Option R) : Option R :=
let b662 := x.1.2.2.1
let i663 := x.1.2.2.2.2.2.2.1
let i664 := x.1.2.2.2.2.2.2.2.1
let i665 := x.1.2.2.2.2.2.2.2.2.1
let a666 := x.1.2.2.2.2.2.2.2.2.2.1
let i667 := x.1.2.2.2.2.2.2.2.2.2.2.1
let a668 := x.2.1
let a669 := x.2.2.1
let a670 := x.2.2.2.1
let a671 := x.2.2.2.2.1
let l672 := x.2.2.2.2.2.1
bif (decide (i667 < 16)) then (
bif decide (0 ≤ i667) then (
bif decide (i667 < (16 : Int)) then (
let i673 : Int := (a666 ((Int.toNat i667)))
bif decide (0 ≤ i673) then (
bif decide (i673 < (128 : Int)) then (
let i674 : Int := (a668 ((Int.toNat i673)))
bif decide (0 ≤ i667) then (
bif decide (i667 < (16 : Int)) then (
let a675 : (Nat → Int) := (upd a671 ((Int.toNat i667)) i674)
let i676 : Int := addA .i64 i667 1
rec (((), (), b662, (), (), (), i663, i664, i665, a666, i676, ()), (a668, a669, a670, a675, l672, ()))) else none) else none) else none) else none) else none) else none) else (
κ0 (((), (), b662, (), (), (), i663, i664, i665, ()), (a668, a669, a670, a671, l672, ())))
def C_105_16 {R : Type} (rec : Y14 → Option R) (x : Y14) (κ0 : Y8 → Option R) : Option R :=
let b769 := x.1.2.2.1
let i770 := x.1.2.2.2.2.2.1
let i771 := x.1.2.2.2.2.2.2.1
let i772 := x.1.2.2.2.2.2.2.2.1
let a773 := x.1.2.2.2.2.2.2.2.2.1
let i774 := x.1.2.2.2.2.2.2.2.2.2.1
let a775 := x.2.1
let a776 := x.2.2.1
let a777 := x.2.2.2.1
let l778 := x.2.2.2.2.1
bif (decide (i774 < 16)) then (
bif decide (0 ≤ i774) then (
bif decide (i774 < (16 : Int)) then (
let i779 : Int := (a773 ((Int.toNat i774)))
bif decide (0 ≤ i774) then (
bif decide (i774 < (16 : Int)) then (
let i780 : Int := (a777 ((Int.toNat i774)))
bif decide (0 ≤ i779) then (
bif decide (i779 < (128 : Int)) then (
let a781 : (Nat → Int) := (upd a775 ((Int.toNat i779)) i780)
let i782 : Int := addA .i64 i774 1
rec (((), (), b769, (), (), i770, i771, i772, a773, i782, ()), (a781, a776, a777, l778, ()))) else none) else none) else none) else none) else none) else none) else (
κ0 (((), (), b769, (), i770, i771, i772, ()), (a775, a776, l778, ())))
def C_105_5 {R : Type} (q_115 : Tp_115 R) (q_116 : Tp_116 R) (m_105_10 : Tl_105_10 R) (m_105_16 : Tl_105_16 R) (rec : Y8 → Option R) (x : Y8) (κ0 : Y11 → Option R) : Option R :=
let b631 := x.1.2.2.1
let i632 := x.1.2.2.2.2.1
let i633 := x.1.2.2.2.2.2.1
let i634 := x.1.2.2.2.2.2.2.1
let a635 := x.2.1
let a636 := x.2.2.1
let l637 := x.2.2.2.1
bif (decide (i634 < 8)) then (
q_115 ((i634, b631, ()), ()) (fun y660 =>
let a661 : (Nat → Int) := y660
m_105_10 (((), (), b631, (), (), (), i632, i633, i634, a661, 0, ()), (a635, a636, a661, (Sch.zero (.arr 16 (.int .u64))), l637, ())) (fun y677 =>
let b678 := y677.1.2.2.1
let i679 := y677.1.2.2.2.2.2.2.1
let i680 := y677.1.2.2.2.2.2.2.2.1
let i681 := y677.1.2.2.2.2.2.2.2.2.1
let a682 := y677.2.1
let a683 := y677.2.2.1
let a684 := y677.2.2.2.1
let a685 := y677.2.2.2.2.1
let l686 := y677.2.2.2.2.2.1
q_116 ((a685, ()), ()) (fun y767 =>
let a768 : (Nat → Int) := y767
m_105_16 (((), (), b678, (), (), i679, i680, i681, a684, 0, ()), (a682, a683, a768, l686, ())) (fun y783 =>
let b784 := y783.1.2.2.1
let i785 := y783.1.2.2.2.2.1
let i786 := y783.1.2.2.2.2.2.1
let i787 := y783.1.2.2.2.2.2.2.1
let a788 := y783.2.1
let a789 := y783.2.2.1
let l790 := y783.2.2.2.1
let i791 : Int := addA .i64 i787 1
rec (((), (), b784, (), i785, i786, i791, ()), (a788, a789, l790, ()))))))) else (
κ0 (((), (), (), i632, i633, ()), (a635, a636, l637, ())))
def C_105_2 {R : Type} (m_105_5 : Tl_105_5 R) (rec : Y11 → Option R) (x : Y11) (κ0 : ((Unit × Unit × Unit) × Y6) → Option R) : Option R :=
let i625 := x.1.2.2.2.1
let i626 := x.1.2.2.2.2.1
let a627 := x.2.1
let a628 := x.2.2.1
let l629 := x.2.2.2.1
bif (decide (i626 < i625)) then (
bif decide (0 ≤ i626) then (
bif decide (i626 < ((List.length l629) : Int)) then (
let b630 : Bool := (List.getD l629 ((Int.toNat i626)) (Sch.zero (.bool)))
m_105_5 (((), (), b630, (), i625, i626, 0, ()), (a627, a628, l629, ())) (fun y792 =>
let i793 := y792.1.2.2.2.1
let i794 := y792.1.2.2.2.2.1
let a795 := y792.2.1
let a796 := y792.2.2.1
let l797 := y792.2.2.2.1
let i798 : Int := addA .i64 i794 1
rec (((), (), (), i793, i798, ()), (a795, a796, l797, ())))) else none) else none) else (
κ0 (((), (), ()), (a627, a628, ())))
def B_105_10 {R : Type} (N : Nat) (rec : Y12 → Option R) (x : Y12) (κ0 : ((Unit × Unit × Bool × Unit × Unit × Unit × Int × Int × Int × Unit) × ((Nat → Int) × (Nat → Int) × (Nat → Int) × (Nat → Int) × (List Bool) × Unit)) → Option R) : Option R := C_105_10 rec x κ0
def l_105_10 {R : Type} (N : Nat) : Nat → Y12 → (((Unit × Unit × Bool × Unit × Unit × Unit × Int × Int × Int × Unit) × ((Nat → Int) × (Nat → Int) × (Nat → Int) × (Nat → Int) × (List Bool) × Unit)) → Option R) → Option R
  | 0, _, _ => none
  | n + 1, x, κ0 => B_105_10 N (fun y => l_105_10 N n y κ0) x κ0
def B_105_16 {R : Type} (N : Nat) (rec : Y14 → Option R) (x : Y14) (κ0 : Y8 → Option R) : Option R := C_105_16 rec x κ0
def l_105_16 {R : Type} (N : Nat) : Nat → Y14 → (Y8 → Option R) → Option R
  | 0, _, _ => none
  | n + 1, x, κ0 => B_105_16 N (fun y => l_105_16 N n y κ0) x κ0
def B_105_5 {R : Type} (N : Nat) (rec : Y8 → Option R) (x : Y8) (κ0 : Y11 → Option R) : Option R := C_105_5 (p_115 N) (p_116 N) (l_105_10 N N) (l_105_16 N N) rec x κ0
def l_105_5 {R : Type} (N : Nat) : Nat → Y8 → (Y11 → Option R) → Option R
  | 0, _, _ => none
  | n + 1, x, κ0 => B_105_5 N (fun y => l_105_5 N n y κ0) x κ0
def B_105_2 {R : Type} (N : Nat) (rec : Y11 → Option R) (x : Y11) (κ0 : ((Unit × Unit × Unit) × Y6) → Option R) : Option R := C_105_2 (l_105_5 N N) rec x κ0
def l_105_2 {R : Type} (N : Nat) : Nat → Y11 → (((Unit × Unit × Unit) × Y6) → Option R) → Option R
  | 0, _, _ => none
  | n + 1, x, κ0 => B_105_2 N (fun y => l_105_2 N n y κ0) x κ0
def Q_105 {R : Type} (q_115 : Tp_115 R) (q_116 : Tp_116 R) (m_105_10 : Tl_105_10 R) (m_105_16 : Tl_105_16 R) (m_105_5 : Tl_105_5 R) (m_105_2 : Tl_105_2 R) (x : ((Nat → Int) × Unit) × (Unit)) (κ0 : (Nat → Int) → Option R) : Option R :=
let a622 := x.1.1
let l623 : (List Bool) := [false, true]
let i624 : Int := (((List.length l623) : Nat) : Int)
m_105_2 (((), (), (), i624, 0, ()), (a622, (Sch.zero (.arr 128 (.int .u64))), l623, ())) (fun y799 =>
let a800 := y799.2.1
let a801 := y799.2.2.1
κ0 a800)
def p_105 {R : Type} (N : Nat) (x : ((Nat → Int) × Unit) × (Unit)) (κ0 : (Nat → Int) → Option R) : Option R := Q_105 (p_115 N) (p_116 N) (l_105_10 N N) (l_105_16 N N) (l_105_5 N N) (l_105_2 N N) x κ0
def EG_105 {R : Type} (q_115 : Tp_115 R) (q_116 : Tp_116 R) : Env R := ((Env.base QQ LN AA).add 115 ap_115 hp_115 (fun (x : aden ap_115 × hden hp_115) k => q_115 x (fun y => k (Pat.inst (.vec (.int .i64) 16) y) (instH hp_115 x.2)))).add 116 ap_116 hp_116 (fun (x : aden ap_116 × hden hp_116) k => q_116 x (fun y => k (Pat.inst (.vec (.int .u64) 16) y) (instH hp_116 x.2)))
def LG_105 {R : Type} (m_105_10 : Tl_105_10 R) (m_105_16 : Tl_105_16 R) (m_105_5 : Tl_105_5 R) (m_105_2 : Tl_105_2 R) : Loops R := ((((Loops.none).add 10 (loopBy 0 lv_105_10 pt_105_10 (fun x k => m_105_10 x (fun y => k (.exit 4) (px_105_10_0.inst y))))).add 16 (loopBy 0 lv_105_16 pt_105_16 (fun x k => m_105_16 x (fun y => k (.exit 6) (px_105_16_0.inst y))))).add 5 (loopBy 0 lv_105_5 pt_105_5 (fun x k => m_105_5 x (fun y => k (.exit 2) (px_105_5_0.inst y))))).add 2 (loopBy 0 lv_105_2 pt_105_2 (fun x k => m_105_2 x (fun y => k (.exit 0) (px_105_2_0.inst y))))
def E_105 {R : Type} (N : Nat) : Env R := EG_105 (p_115 N) (p_116 N)
theorem eok_105 {R : Type} (N : Nat) : EK Try.prog (E_105 (R := R) N) := ek_add (ek_add (ek_base _ _ _) (good_115 N)) (good_116 N)
def L_105 {R : Type} (N : Nat) : Loops R := LG_105 (l_105_10 N N) (l_105_16 N N) (l_105_5 N N) (l_105_2 N N)
theorem gstep_105_10 {R : Type} (q_115 : Tp_115 R) (q_116 : Tp_116 R) (m_105_10 : Tl_105_10 R) (m_105_16 : Tl_105_16 R) (m_105_5 : Tl_105_5 R) (m_105_2 : Tl_105_2 R) (n : Nat) (x : pt_105_10.den) (k : Exit → St → Option R) : iter 0 lv_105_10 lo_105_10 (aexec TT (EG_105 q_115 q_116) (drawAny TT WW) (LG_105 m_105_10 m_105_16 m_105_5 m_105_2) (loopAt 10 (bodyOf Try.f105))) (n + 1) (pt_105_10.inst x) k = C_105_10 (fun y => iter 0 lv_105_10 lo_105_10 (aexec TT (EG_105 q_115 q_116) (drawAny TT WW) (LG_105 m_105_10 m_105_16 m_105_5 m_105_2) (loopAt 10 (bodyOf Try.f105))) n (pt_105_10.inst y) k) x (fun y => k (.exit 4) (px_105_10_0.inst y)) := by kernel_rfl
theorem step_105_10 {R : Type} (N n : Nat) (x : pt_105_10.den) (k : Exit → St → Option R) : iter 0 lv_105_10 lo_105_10 (aexec TT (E_105 (R := R) N) (drawAny TT WW) (L_105 N) (loopAt 10 (bodyOf Try.f105))) (n + 1) (pt_105_10.inst x) k = B_105_10 N (fun y => iter 0 lv_105_10 lo_105_10 (aexec TT (E_105 (R := R) N) (drawAny TT WW) (L_105 N) (loopAt 10 (bodyOf Try.f105))) n (pt_105_10.inst y) k) x (fun y => k (.exit 4) (px_105_10_0.inst y)) := (gstep_105_10 (p_115 N) (p_116 N) (l_105_10 N N) (l_105_16 N N) (l_105_5 N N) (l_105_2 N N) n x k).trans (by kernel_rfl)
theorem eq_105_10 {R : Type} (N : Nat) : ∀ (n : Nat) (x : pt_105_10.den) (k : Exit → St → Option R), iter 0 lv_105_10 lo_105_10 (aexec TT (E_105 (R := R) N) (drawAny TT WW) (L_105 N) (loopAt 10 (bodyOf Try.f105))) n (pt_105_10.inst x) k = l_105_10 N n x (fun y => k (.exit 4) (px_105_10_0.inst y)) :=
  iter_eq (K := Exit → St → Option R) (ks := fun k => k) (l := fun n (x : pt_105_10.den) k => l_105_10 N n x (fun y => k (.exit 4) (px_105_10_0.inst y))) (B := fun (rec : pt_105_10.den → Option R) (x : pt_105_10.den) k => B_105_10 N rec x (fun y => k (.exit 4) (px_105_10_0.inst y))) (fun _ _ => rfl) (fun _ _ _ => rfl) (fun n x k => step_105_10 N n x k)
theorem rounds_105_10 {R : Type} (N : Nat) : Rounds 0 TT (E_105 (R := R) N) (drawAny TT WW) (L_105 N) 10 (loopAt 10 (bodyOf Try.f105)) :=
  rounds_of (p := pt_105_10) (l := fun (x : pt_105_10.den) k => l_105_10 N N x (fun y => k (.exit 4) (px_105_10_0.inst y))) (fun s k => rfl) (fun x k => eq_105_10 N N x k)
theorem gstep_105_16 {R : Type} (q_115 : Tp_115 R) (q_116 : Tp_116 R) (m_105_10 : Tl_105_10 R) (m_105_16 : Tl_105_16 R) (m_105_5 : Tl_105_5 R) (m_105_2 : Tl_105_2 R) (n : Nat) (x : pt_105_16.den) (k : Exit → St → Option R) : iter 0 lv_105_16 lo_105_16 (aexec TT (EG_105 q_115 q_116) (drawAny TT WW) (LG_105 m_105_10 m_105_16 m_105_5 m_105_2) (loopAt 16 (bodyOf Try.f105))) (n + 1) (pt_105_16.inst x) k = C_105_16 (fun y => iter 0 lv_105_16 lo_105_16 (aexec TT (EG_105 q_115 q_116) (drawAny TT WW) (LG_105 m_105_10 m_105_16 m_105_5 m_105_2) (loopAt 16 (bodyOf Try.f105))) n (pt_105_16.inst y) k) x (fun y => k (.exit 6) (px_105_16_0.inst y)) := by kernel_rfl
theorem step_105_16 {R : Type} (N n : Nat) (x : pt_105_16.den) (k : Exit → St → Option R) : iter 0 lv_105_16 lo_105_16 (aexec TT (E_105 (R := R) N) (drawAny TT WW) (L_105 N) (loopAt 16 (bodyOf Try.f105))) (n + 1) (pt_105_16.inst x) k = B_105_16 N (fun y => iter 0 lv_105_16 lo_105_16 (aexec TT (E_105 (R := R) N) (drawAny TT WW) (L_105 N) (loopAt 16 (bodyOf Try.f105))) n (pt_105_16.inst y) k) x (fun y => k (.exit 6) (px_105_16_0.inst y)) := (gstep_105_16 (p_115 N) (p_116 N) (l_105_10 N N) (l_105_16 N N) (l_105_5 N N) (l_105_2 N N) n x k).trans (by kernel_rfl)
theorem eq_105_16 {R : Type} (N : Nat) : ∀ (n : Nat) (x : pt_105_16.den) (k : Exit → St → Option R), iter 0 lv_105_16 lo_105_16 (aexec TT (E_105 (R := R) N) (drawAny TT WW) (L_105 N) (loopAt 16 (bodyOf Try.f105))) n (pt_105_16.inst x) k = l_105_16 N n x (fun y => k (.exit 6) (px_105_16_0.inst y)) :=
  iter_eq (K := Exit → St → Option R) (ks := fun k => k) (l := fun n (x : pt_105_16.den) k => l_105_16 N n x (fun y => k (.exit 6) (px_105_16_0.inst y))) (B := fun (rec : pt_105_16.den → Option R) (x : pt_105_16.den) k => B_105_16 N rec x (fun y => k (.exit 6) (px_105_16_0.inst y))) (fun _ _ => rfl) (fun _ _ _ => rfl) (fun n x k => step_105_16 N n x k)
theorem rounds_105_16 {R : Type} (N : Nat) : Rounds 0 TT (E_105 (R := R) N) (drawAny TT WW) (L_105 N) 16 (loopAt 16 (bodyOf Try.f105)) :=
  rounds_of (p := pt_105_16) (l := fun (x : pt_105_16.den) k => l_105_16 N N x (fun y => k (.exit 6) (px_105_16_0.inst y))) (fun s k => rfl) (fun x k => eq_105_16 N N x k)
theorem gstep_105_5 {R : Type} (q_115 : Tp_115 R) (q_116 : Tp_116 R) (m_105_10 : Tl_105_10 R) (m_105_16 : Tl_105_16 R) (m_105_5 : Tl_105_5 R) (m_105_2 : Tl_105_2 R) (n : Nat) (x : pt_105_5.den) (k : Exit → St → Option R) : iter 0 lv_105_5 lo_105_5 (aexec TT (EG_105 q_115 q_116) (drawAny TT WW) (LG_105 m_105_10 m_105_16 m_105_5 m_105_2) (loopAt 5 (bodyOf Try.f105))) (n + 1) (pt_105_5.inst x) k = C_105_5 q_115 q_116 m_105_10 m_105_16 (fun y => iter 0 lv_105_5 lo_105_5 (aexec TT (EG_105 q_115 q_116) (drawAny TT WW) (LG_105 m_105_10 m_105_16 m_105_5 m_105_2) (loopAt 5 (bodyOf Try.f105))) n (pt_105_5.inst y) k) x (fun y => k (.exit 2) (px_105_5_0.inst y)) := by kernel_rfl
theorem step_105_5 {R : Type} (N n : Nat) (x : pt_105_5.den) (k : Exit → St → Option R) : iter 0 lv_105_5 lo_105_5 (aexec TT (E_105 (R := R) N) (drawAny TT WW) (L_105 N) (loopAt 5 (bodyOf Try.f105))) (n + 1) (pt_105_5.inst x) k = B_105_5 N (fun y => iter 0 lv_105_5 lo_105_5 (aexec TT (E_105 (R := R) N) (drawAny TT WW) (L_105 N) (loopAt 5 (bodyOf Try.f105))) n (pt_105_5.inst y) k) x (fun y => k (.exit 2) (px_105_5_0.inst y)) := (gstep_105_5 (p_115 N) (p_116 N) (l_105_10 N N) (l_105_16 N N) (l_105_5 N N) (l_105_2 N N) n x k).trans (by kernel_rfl)
theorem eq_105_5 {R : Type} (N : Nat) : ∀ (n : Nat) (x : pt_105_5.den) (k : Exit → St → Option R), iter 0 lv_105_5 lo_105_5 (aexec TT (E_105 (R := R) N) (drawAny TT WW) (L_105 N) (loopAt 5 (bodyOf Try.f105))) n (pt_105_5.inst x) k = l_105_5 N n x (fun y => k (.exit 2) (px_105_5_0.inst y)) :=
  iter_eq (K := Exit → St → Option R) (ks := fun k => k) (l := fun n (x : pt_105_5.den) k => l_105_5 N n x (fun y => k (.exit 2) (px_105_5_0.inst y))) (B := fun (rec : pt_105_5.den → Option R) (x : pt_105_5.den) k => B_105_5 N rec x (fun y => k (.exit 2) (px_105_5_0.inst y))) (fun _ _ => rfl) (fun _ _ _ => rfl) (fun n x k => step_105_5 N n x k)
theorem rounds_105_5 {R : Type} (N : Nat) : Rounds 0 TT (E_105 (R := R) N) (drawAny TT WW) (L_105 N) 5 (loopAt 5 (bodyOf Try.f105)) :=
  rounds_of (p := pt_105_5) (l := fun (x : pt_105_5.den) k => l_105_5 N N x (fun y => k (.exit 2) (px_105_5_0.inst y))) (fun s k => rfl) (fun x k => eq_105_5 N N x k)
theorem gstep_105_2 {R : Type} (q_115 : Tp_115 R) (q_116 : Tp_116 R) (m_105_10 : Tl_105_10 R) (m_105_16 : Tl_105_16 R) (m_105_5 : Tl_105_5 R) (m_105_2 : Tl_105_2 R) (n : Nat) (x : pt_105_2.den) (k : Exit → St → Option R) : iter 0 lv_105_2 lo_105_2 (aexec TT (EG_105 q_115 q_116) (drawAny TT WW) (LG_105 m_105_10 m_105_16 m_105_5 m_105_2) (loopAt 2 (bodyOf Try.f105))) (n + 1) (pt_105_2.inst x) k = C_105_2 m_105_5 (fun y => iter 0 lv_105_2 lo_105_2 (aexec TT (EG_105 q_115 q_116) (drawAny TT WW) (LG_105 m_105_10 m_105_16 m_105_5 m_105_2) (loopAt 2 (bodyOf Try.f105))) n (pt_105_2.inst y) k) x (fun y => k (.exit 0) (px_105_2_0.inst y)) := by kernel_rfl
theorem step_105_2 {R : Type} (N n : Nat) (x : pt_105_2.den) (k : Exit → St → Option R) : iter 0 lv_105_2 lo_105_2 (aexec TT (E_105 (R := R) N) (drawAny TT WW) (L_105 N) (loopAt 2 (bodyOf Try.f105))) (n + 1) (pt_105_2.inst x) k = B_105_2 N (fun y => iter 0 lv_105_2 lo_105_2 (aexec TT (E_105 (R := R) N) (drawAny TT WW) (L_105 N) (loopAt 2 (bodyOf Try.f105))) n (pt_105_2.inst y) k) x (fun y => k (.exit 0) (px_105_2_0.inst y)) := (gstep_105_2 (p_115 N) (p_116 N) (l_105_10 N N) (l_105_16 N N) (l_105_5 N N) (l_105_2 N N) n x k).trans (by kernel_rfl)
theorem eq_105_2 {R : Type} (N : Nat) : ∀ (n : Nat) (x : pt_105_2.den) (k : Exit → St → Option R), iter 0 lv_105_2 lo_105_2 (aexec TT (E_105 (R := R) N) (drawAny TT WW) (L_105 N) (loopAt 2 (bodyOf Try.f105))) n (pt_105_2.inst x) k = l_105_2 N n x (fun y => k (.exit 0) (px_105_2_0.inst y)) :=
  iter_eq (K := Exit → St → Option R) (ks := fun k => k) (l := fun n (x : pt_105_2.den) k => l_105_2 N n x (fun y => k (.exit 0) (px_105_2_0.inst y))) (B := fun (rec : pt_105_2.den → Option R) (x : pt_105_2.den) k => B_105_2 N rec x (fun y => k (.exit 0) (px_105_2_0.inst y))) (fun _ _ => rfl) (fun _ _ _ => rfl) (fun n x k => step_105_2 N n x k)
theorem rounds_105_2 {R : Type} (N : Nat) : Rounds 0 TT (E_105 (R := R) N) (drawAny TT WW) (L_105 N) 2 (loopAt 2 (bodyOf Try.f105)) :=
  rounds_of (p := pt_105_2) (l := fun (x : pt_105_2.den) k => l_105_2 N N x (fun y => k (.exit 0) (px_105_2_0.inst y))) (fun s k => rfl) (fun x k => eq_105_2 N N x k)
theorem loops_105 : loopsIn (bodyOf Try.f105) = [(2, loopAt 2 (bodyOf Try.f105)), (5, loopAt 5 (bodyOf Try.f105)), (10, loopAt 10 (bodyOf Try.f105)), (16, loopAt 16 (bodyOf Try.f105))] := by kernel_rfl
theorem lok_105 {R : Type} (N : Nat) : LOK 0 TT (E_105 (R := R) N) (drawAny TT WW) (L_105 N) (bodyOf Try.f105) := loops_all loops_105 (by
  simp only [List.forall_mem_cons, List.not_mem_nil, false_implies, implies_true, and_true]
  exact ⟨rounds_105_2 N, rounds_105_5 N, rounds_105_10 N, rounds_105_16 N⟩)
theorem grun_105 {R : Type} (q_115 : Tp_115 R) (q_116 : Tp_116 R) (m_105_10 : Tl_105_10 R) (m_105_16 : Tl_105_16 R) (m_105_5 : Tl_105_5 R) (m_105_2 : Tl_105_2 R) (x : aden ap_105 × hden hp_105) (k : KF R) : fnrun TT (EG_105 q_115 q_116) (drawAny TT WW) (LG_105 m_105_10 m_105_16 m_105_5 m_105_2) true Try.f105 (instA ap_105 x.1) (instH hp_105 x.2) k = Q_105 q_115 q_116 m_105_10 m_105_16 m_105_5 m_105_2 x (fun y => k (Pat.inst (.vec (.int .u64) 128) y) (instH hp_105 x.2)) := by kernel_rfl
theorem run_105 {R : Type} (N : Nat) (x : aden ap_105 × hden hp_105) (k : KF R) : fnrun TT (E_105 (R := R) N) (drawAny TT WW) (L_105 N) true Try.f105 (instA ap_105 x.1) (instH hp_105 x.2) k = p_105 N x (fun y => k (Pat.inst (.vec (.int .u64) 128) y) (instH hp_105 x.2)) := (grun_105 (p_115 N) (p_116 N) (l_105_10 N N) (l_105_16 N N) (l_105_5 N N) (l_105_2 N N) x k).trans (by kernel_rfl)
theorem good_105 {R : Type} (N : Nat) : GD (X := R) Try.prog QQ AA 105 ap_105 hp_105 (fun (x : aden ap_105 × hden hp_105) k => p_105 N x (fun y => k (Pat.inst (.vec (.int .u64) 128) y) (instH hp_105 x.2))) :=
  gd_quiet (E := E_105 N) (p := fun (x : aden ap_105 × hden hp_105) κ => p_105 N x (fun y => κ (Pat.inst (.vec (.int .u64) 128) y))) mixed tyok (eok_105 N) Try.func105 (by kernel_rfl) (by kernel_rfl) (lok_105 N) (fun x k => run_105 N x k)

def ap_95 : List Pat := [.vec (.int .u64) 128, .vec (.int .u64) 128]
def hp_95 : List (Option (Pat × Nat)) := []
abbrev Tp_95 (R : Type) : Type := Y6 × (Unit) → ((Nat → Int) → Option R) → Option R
def Q_95 {R : Type} (q_48 : Tp_48 R) (q_105 : Tp_105 R) (x : Y6 × (Unit)) (κ0 : (Nat → Int) → Option R) : Option R :=
let a587 := x.1.1
let a588 := x.1.2.1
let l589 : (List (Nat → Int)) := [a587, a588]
q_48 ((l589, ()), ()) (fun y620 =>
let a621 : (Nat → Int) := y620
q_105 ((a621, ()), ()) (fun y802 =>
let a803 := y802
let l804 : (List (Nat → Int)) := [a621, a803]
q_48 ((l804, ()), ()) (fun y805 =>
let a806 : (Nat → Int) := y805
κ0 a806)))
def p_95 {R : Type} (N : Nat) (x : Y6 × (Unit)) (κ0 : (Nat → Int) → Option R) : Option R := Q_95 (p_48 N) (p_105 N) x κ0
def EG_95 {R : Type} (q_48 : Tp_48 R) (q_105 : Tp_105 R) : Env R := ((Env.base QQ LN AA).add 48 ap_48 hp_48 (fun (x : aden ap_48 × hden hp_48) k => q_48 x (fun y => k (Pat.inst (.vec (.int .u64) 128) y) (instH hp_48 x.2)))).add 105 ap_105 hp_105 (fun (x : aden ap_105 × hden hp_105) k => q_105 x (fun y => k (Pat.inst (.vec (.int .u64) 128) y) (instH hp_105 x.2)))
def LG_95 {R : Type} : Loops R := Loops.none
def E_95 {R : Type} (N : Nat) : Env R := EG_95 (p_48 N) (p_105 N)
theorem eok_95 {R : Type} (N : Nat) : EK Try.prog (E_95 (R := R) N) := ek_add (ek_add (ek_base _ _ _) (good_48 N)) (good_105 N)
def L_95 {R : Type} (N : Nat) : Loops R := LG_95
theorem lok_95 {R : Type} (N : Nat) : LOK 0 TT (E_95 (R := R) N) (drawAny TT WW) (L_95 N) (bodyOf Try.f95) := loops_nil (by kernel_rfl)
theorem grun_95 {R : Type} (q_48 : Tp_48 R) (q_105 : Tp_105 R) (x : aden ap_95 × hden hp_95) (k : KF R) : fnrun TT (EG_95 q_48 q_105) (drawAny TT WW) (LG_95) true Try.f95 (instA ap_95 x.1) (instH hp_95 x.2) k = Q_95 q_48 q_105 x (fun y => k (Pat.inst (.vec (.int .u64) 128) y) (instH hp_95 x.2)) := by kernel_rfl
theorem run_95 {R : Type} (N : Nat) (x : aden ap_95 × hden hp_95) (k : KF R) : fnrun TT (E_95 (R := R) N) (drawAny TT WW) (L_95 N) true Try.f95 (instA ap_95 x.1) (instH hp_95 x.2) k = p_95 N x (fun y => k (Pat.inst (.vec (.int .u64) 128) y) (instH hp_95 x.2)) := (grun_95 (p_48 N) (p_105 N) x k).trans (by kernel_rfl)
theorem good_95 {R : Type} (N : Nat) : GD (X := R) Try.prog QQ AA 95 ap_95 hp_95 (fun (x : aden ap_95 × hden hp_95) k => p_95 N x (fun y => k (Pat.inst (.vec (.int .u64) 128) y) (instH hp_95 x.2))) :=
  gd_quiet (E := E_95 N) (p := fun (x : aden ap_95 × hden hp_95) κ => p_95 N x (fun y => κ (Pat.inst (.vec (.int .u64) 128) y))) mixed tyok (eok_95 N) Try.func95 (by kernel_rfl) (by kernel_rfl) (lok_95 N) (fun x k => run_95 N x k)

def ap_90 : List Pat := [.node (.fcons (.int .i64) (.fcons (.int .i64) (.fcons (.int .i64) (.fcons (.int .i64) (.fcons (.int .i64) (.fcons (.int .i64) (.fcons (.int .i64) (.fcons (.int .i64) (.fnil))))))))), .node (.fcons (.int .i64) (.fcons (.int .i64) (.fnil))), .int .i64, .int .i64]
def hp_90 : List (Option (Pat × Nat)) := []
abbrev Tp_90 (R : Type) : Type := (Y0 × (Int × (Int × Unit)) × Int × Int × Unit) × (Unit) → ((Nat → Int) → Option R) → Option R
def Q_90 {R : Type} (q_103 : Tp_103 R) (q_95 : Tp_95 R) (x : (Y0 × (Int × (Int × Unit)) × Int × Int × Unit) × (Unit)) (κ0 : (Nat → Int) → Option R) : Option R :=
let i536 := x.1.1.1
let i537 := x.1.1.2.1
let i538 := x.1.1.2.2.1
let i539 := x.1.1.2.2.2.1
let i540 := x.1.1.2.2.2.2.1
let i541 := x.1.1.2.2.2.2.2.1
let i542 := x.1.1.2.2.2.2.2.2.1
let i543 := x.1.1.2.2.2.2.2.2.2.1
let i544 := x.1.2.1.1
let i545 := x.1.2.1.2.1
let i546 := x.1.2.2.1
let i547 := x.1.2.2.2.1
let a548 : (Nat → Int) := (Sch.zero (.arr 128 (.int .u64)))
let a549 : (Nat → Int) := (Sch.zero (.arr 128 (.int .u64)))
q_103 (((i536, (i537, (i538, (i539, (i540, (i541, (i542, (i543, ())))))))), (i544, (i545, ())), i546, i547, ()), ()) (fun y585 =>
let a586 : (Nat → Int) := y585
q_95 ((a549, a586, ()), ()) (fun y807 =>
let a808 : (Nat → Int) := y807
q_95 ((a548, a808, ()), ()) (fun y809 =>
let a810 : (Nat → Int) := y809
κ0 a810)))
def p_90 {R : Type} (N : Nat) (x : (Y0 × (Int × (Int × Unit)) × Int × Int × Unit) × (Unit)) (κ0 : (Nat → Int) → Option R) : Option R := Q_90 (p_103 N) (p_95 N) x κ0
def EG_90 {R : Type} (q_103 : Tp_103 R) (q_95 : Tp_95 R) : Env R := ((Env.base QQ LN AA).add 103 ap_103 hp_103 (fun (x : aden ap_103 × hden hp_103) k => q_103 x (fun y => k (Pat.inst (.vec (.int .u64) 128) y) (instH hp_103 x.2)))).add 95 ap_95 hp_95 (fun (x : aden ap_95 × hden hp_95) k => q_95 x (fun y => k (Pat.inst (.vec (.int .u64) 128) y) (instH hp_95 x.2)))
def LG_90 {R : Type} : Loops R := Loops.none
def E_90 {R : Type} (N : Nat) : Env R := EG_90 (p_103 N) (p_95 N)
theorem eok_90 {R : Type} (N : Nat) : EK Try.prog (E_90 (R := R) N) := ek_add (ek_add (ek_base _ _ _) (good_103 N)) (good_95 N)
def L_90 {R : Type} (N : Nat) : Loops R := LG_90
theorem lok_90 {R : Type} (N : Nat) : LOK 0 TT (E_90 (R := R) N) (drawAny TT WW) (L_90 N) (bodyOf Try.f90) := loops_nil (by kernel_rfl)
theorem grun_90 {R : Type} (q_103 : Tp_103 R) (q_95 : Tp_95 R) (x : aden ap_90 × hden hp_90) (k : KF R) : fnrun TT (EG_90 q_103 q_95) (drawAny TT WW) (LG_90) true Try.f90 (instA ap_90 x.1) (instH hp_90 x.2) k = Q_90 q_103 q_95 x (fun y => k (Pat.inst (.vec (.int .u64) 128) y) (instH hp_90 x.2)) := by kernel_rfl
theorem run_90 {R : Type} (N : Nat) (x : aden ap_90 × hden hp_90) (k : KF R) : fnrun TT (E_90 (R := R) N) (drawAny TT WW) (L_90 N) true Try.f90 (instA ap_90 x.1) (instH hp_90 x.2) k = p_90 N x (fun y => k (Pat.inst (.vec (.int .u64) 128) y) (instH hp_90 x.2)) := (grun_90 (p_103 N) (p_95 N) x k).trans (by kernel_rfl)
theorem good_90 {R : Type} (N : Nat) : GD (X := R) Try.prog QQ AA 90 ap_90 hp_90 (fun (x : aden ap_90 × hden hp_90) k => p_90 N x (fun y => k (Pat.inst (.vec (.int .u64) 128) y) (instH hp_90 x.2))) :=
  gd_quiet (E := E_90 N) (p := fun (x : aden ap_90 × hden hp_90) κ => p_90 N x (fun y => κ (Pat.inst (.vec (.int .u64) 128) y))) mixed tyok (eok_90 N) Try.func90 (by kernel_rfl) (by kernel_rfl) (lok_90 N) (fun x k => run_90 N x k)

def ap_66 : List Pat := [.int .u64]
def hp_66 : List (Option (Pat × Nat)) := []
abbrev Tp_66 (R : Type) : Type := (Int × Unit) × (Unit) → ((Int × (Int × Unit)) → Option R) → Option R
def Q_66 {R : Type} (x : (Int × Unit) × (Unit)) (κ0 : (Int × (Int × Unit)) → Option R) : Option R :=
let i815 := x.1.1
let i816 : Int := IntKind.wrap .u32 i815
let i817 : Int := shrA .u64 i815 32
let i818 : Int := IntKind.wrap .u32 i817
κ0 ((i816, (i818, ())))
def p_66 {R : Type} (N : Nat) (x : (Int × Unit) × (Unit)) (κ0 : (Int × (Int × Unit)) → Option R) : Option R := Q_66 x κ0
def EG_66 {R : Type} : Env R := Env.base QQ LN AA
def LG_66 {R : Type} : Loops R := Loops.none
def E_66 {R : Type} (N : Nat) : Env R := EG_66
theorem eok_66 {R : Type} (N : Nat) : EK Try.prog (E_66 (R := R) N) := ek_base _ _ _
def L_66 {R : Type} (N : Nat) : Loops R := LG_66
theorem lok_66 {R : Type} (N : Nat) : LOK 0 TT (E_66 (R := R) N) (drawAny TT WW) (L_66 N) (bodyOf Try.f66) := loops_nil (by kernel_rfl)
theorem grun_66 {R : Type} (x : aden ap_66 × hden hp_66) (k : KF R) : fnrun TT (EG_66) (drawAny TT WW) (LG_66) true Try.f66 (instA ap_66 x.1) (instH hp_66 x.2) k = Q_66 x (fun y => k (Pat.inst (.tup (.fcons (.int .u32) (.fcons (.int .u32) (.fnil)))) y) (instH hp_66 x.2)) := by kernel_rfl
theorem run_66 {R : Type} (N : Nat) (x : aden ap_66 × hden hp_66) (k : KF R) : fnrun TT (E_66 (R := R) N) (drawAny TT WW) (L_66 N) true Try.f66 (instA ap_66 x.1) (instH hp_66 x.2) k = p_66 N x (fun y => k (Pat.inst (.tup (.fcons (.int .u32) (.fcons (.int .u32) (.fnil)))) y) (instH hp_66 x.2)) := (grun_66 x k).trans (by kernel_rfl)
theorem good_66 {R : Type} (N : Nat) : GD (X := R) Try.prog QQ AA 66 ap_66 hp_66 (fun (x : aden ap_66 × hden hp_66) k => p_66 N x (fun y => k (Pat.inst (.tup (.fcons (.int .u32) (.fcons (.int .u32) (.fnil)))) y) (instH hp_66 x.2))) :=
  gd_quiet (E := E_66 N) (p := fun (x : aden ap_66 × hden hp_66) κ => p_66 N x (fun y => κ (Pat.inst (.tup (.fcons (.int .u32) (.fcons (.int .u32) (.fnil)))) y))) mixed tyok (eok_66 N) Try.func66 (by kernel_rfl) (by kernel_rfl) (lok_66 N) (fun x k => run_66 N x k)

def ap_65 : List Pat := [.ptr 0 [], .int .i64]
def hp_65 : List (Option (Pat × Nat)) := [some (Z3, 132)]
abbrev Tp_65 (R : Type) : Type := (Unit × Int × Unit) × (Y4 × Unit) → (((Int × (Int × Unit)) × (Y4 × Unit)) → Option R) → Option R
def Q_65 {R : Type} (q_90 : Tp_90 R) (q_66 : Tp_66 R) (x : (Unit × Int × Unit) × (Y4 × Unit)) (κ0 : ((Int × (Int × Unit)) × (Y4 × Unit)) → Option R) : Option R :=
let i520 := x.1.2.1
let i521 := x.2.1.1.1
let i522 := x.2.1.1.2.1
let i523 := x.2.1.1.2.2.1
let i524 := x.2.1.1.2.2.2.1
let i525 := x.2.1.1.2.2.2.2.1
let i526 := x.2.1.1.2.2.2.2.2.1
let i527 := x.2.1.1.2.2.2.2.2.2.1
let i528 := x.2.1.1.2.2.2.2.2.2.2.1
let i529 := x.2.1.2.1.1
let i530 := x.2.1.2.1.2.1
let i531 := x.2.1.2.2.1
let i532 := x.2.1.2.2.2.1
let a533 := x.2.1.2.2.2.2.1
bif (decide (i520 < 0)) then (
κ0 ((0, (0, ())), (((i521, (i522, (i523, (i524, (i525, (i526, (i527, (i528, ())))))))), ((i529, (i530, ())), (i531, (i532, (a533, ()))))), ()))) else (
let i534 : Int := quoA .i64 i520 128
let i535 : Int := addA .i64 i534 1
bif (i535 != i532) then (
q_90 (((i521, (i522, (i523, (i524, (i525, (i526, (i527, (i528, ())))))))), (i529, (i530, ())), i531, i535, ()), ()) (fun y811 =>
let a812 := y811
let i813 : Int := remA .i64 i520 128
bif decide (0 ≤ i813) then (
bif decide (i813 < (128 : Int)) then (
let i814 : Int := (a812 ((Int.toNat i813)))
q_66 ((i814, ()), ()) (fun y819 =>
let i820 := y819.1
let i821 := y819.2.1
κ0 ((i820, (i821, ())), (((i521, (i522, (i523, (i524, (i525, (i526, (i527, (i528, ())))))))), ((i529, (i530, ())), (i531, (i535, (a812, ()))))), ())))) else none) else none)) else (
let i822 : Int := remA .i64 i520 128
bif decide (0 ≤ i822) then (
bif decide (i822 < (128 : Int)) then (
let i823 : Int := (a533 ((Int.toNat i822)))
q_66 ((i823, ()), ()) (fun y824 =>
let i825 := y824.1
let i826 := y824.2.1
κ0 ((i825, (i826, ())), (((i521, (i522, (i523, (i524, (i525, (i526, (i527, (i528, ())))))))), ((i529, (i530, ())), (i531, (i532, (a533, ()))))), ())))) else none) else none))
def p_65 {R : Type} (N : Nat) (x : (Unit × Int × Unit) × (Y4 × Unit)) (κ0 : ((Int × (Int × Unit)) × (Y4 × Unit)) → Option R) : Option R := Q_65 (p_90 N) (p_66 N) x κ0
def EG_65 {R : Type} (q_90 : Tp_90 R) (q_66 : Tp_66 R) : Env R := ((Env.base QQ LN AA).add 90 ap_90 hp_90 (fun (x : aden ap_90 × hden hp_90) k => q_90 x (fun y => k (Pat.inst (.vec (.int .u64) 128) y) (instH hp_90 x.2)))).add 66 ap_66 hp_66 (fun (x : aden ap_66 × hden hp_66) k => q_66 x (fun y => k (Pat.inst (.tup (.fcons (.int .u32) (.fcons (.int .u32) (.fnil)))) y) (instH hp_66 x.2)))
def LG_65 {R : Type} : Loops R := Loops.none
def E_65 {R : Type} (N : Nat) : Env R := EG_65 (p_90 N) (p_66 N)
theorem eok_65 {R : Type} (N : Nat) : EK Try.prog (E_65 (R := R) N) := ek_add (ek_add (ek_base _ _ _) (good_90 N)) (good_66 N)
def L_65 {R : Type} (N : Nat) : Loops R := LG_65
theorem lok_65 {R : Type} (N : Nat) : LOK 1 TT (E_65 (R := R) N) (drawAny TT WW) (L_65 N) (bodyOf Try.f65) := loops_nil (by kernel_rfl)
theorem grun_65 {R : Type} (q_90 : Tp_90 R) (q_66 : Tp_66 R) (x : aden ap_65 × hden hp_65) (k : KF R) : fnrun TT (EG_65 q_90 q_66) (drawAny TT WW) (LG_65) true Try.f65 (instA ap_65 x.1) (instH hp_65 x.2) k = Q_65 q_90 q_66 x (fun y => k (Pat.inst (.tup (.fcons (.int .u32) (.fcons (.int .u32) (.fnil)))) y.1) (instH [some (Z3, 132)] y.2)) := by kernel_rfl
theorem run_65 {R : Type} (N : Nat) (x : aden ap_65 × hden hp_65) (k : KF R) : fnrun TT (E_65 (R := R) N) (drawAny TT WW) (L_65 N) true Try.f65 (instA ap_65 x.1) (instH hp_65 x.2) k = p_65 N x (fun y => k (Pat.inst (.tup (.fcons (.int .u32) (.fcons (.int .u32) (.fnil)))) y.1) (instH [some (Z3, 132)] y.2)) := (grun_65 (p_90 N) (p_66 N) x k).trans (by kernel_rfl)
theorem good_65 {R : Type} (N : Nat) : GD (X := R) Try.prog QQ AA 65 ap_65 hp_65 (fun (x : aden ap_65 × hden hp_65) k => p_65 N x (fun y => k (Pat.inst (.tup (.fcons (.int .u32) (.fcons (.int .u32) (.fnil)))) y.1) (instH [some (Z3, 132)] y.2))) :=
  gd_loud (E := E_65 N) (p := fun (x : aden ap_65 × hden hp_65) k => p_65 N x (fun y => k (Pat.inst (.tup (.fcons (.int .u32) (.fcons (.int .u32) (.fnil)))) y.1) (instH [some (Z3, 132)] y.2))) mixed tyok (eok_65 N) Try.func65 (by kernel_rfl) (by kernel_rfl) (by kernel_rfl) (by kernel_rfl) (lok_65 N) (fun x k => run_65 N x k)

def ap_36 : List Pat := [.node (.fcons (.int .i64) (.fcons (.int .i64) (.fcons (.int .i64) (.fcons (.int .i64) (.fcons (.int .i64) (.fcons (.int .i64) (.fcons (.int .i64) (.fcons (.int .i64) (.fnil))))))))), .int .i64, .int .i64]
def hp_36 : List (Option (Pat × Nat)) := []
abbrev Tp_36 (R : Type) : Type := (Y0 × Int × Int × Unit) × (Unit) → (Int → Option R) → Option R
def Q_36 {R : Type} (x : (Y0 × Int × Int × Unit) × (Unit)) (κ0 : Int → Option R) : Option R :=
let i843 := x.1.1.1
let i844 := x.1.1.2.1
let i845 := x.1.1.2.2.1
let i846 := x.1.1.2.2.2.1
let i847 := x.1.1.2.2.2.2.1
let i848 := x.1.1.2.2.2.2.2.1
let i849 := x.1.1.2.2.2.2.2.2.1
let i850 := x.1.1.2.2.2.2.2.2.2.1
let i851 := x.1.2.1
let i852 := x.1.2.2.1
let i853 : Int := mulA .i64 i851 i849
let i854 : Int := addA .i64 i853 i852
κ0 i854
def p_36 {R : Type} (N : Nat) (x : (Y0 × Int × Int × Unit) × (Unit)) (κ0 : Int → Option R) : Option R := Q_36 x κ0
def EG_36 {R : Type} : Env R := Env.base QQ LN AA
def LG_36 {R : Type} : Loops R := Loops.none
def E_36 {R : Type} (N : Nat) : Env R := EG_36
theorem eok_36 {R : Type} (N : Nat) : EK Try.prog (E_36 (R := R) N) := ek_base _ _ _
def L_36 {R : Type} (N : Nat) : Loops R := LG_36
theorem lok_36 {R : Type} (N : Nat) : LOK 0 TT (E_36 (R := R) N) (drawAny TT WW) (L_36 N) (bodyOf Try.f36) := loops_nil (by kernel_rfl)
theorem grun_36 {R : Type} (x : aden ap_36 × hden hp_36) (k : KF R) : fnrun TT (EG_36) (drawAny TT WW) (LG_36) true Try.f36 (instA ap_36 x.1) (instH hp_36 x.2) k = Q_36 x (fun y => k (Pat.inst (.int .i64) y) (instH hp_36 x.2)) := by kernel_rfl
theorem run_36 {R : Type} (N : Nat) (x : aden ap_36 × hden hp_36) (k : KF R) : fnrun TT (E_36 (R := R) N) (drawAny TT WW) (L_36 N) true Try.f36 (instA ap_36 x.1) (instH hp_36 x.2) k = p_36 N x (fun y => k (Pat.inst (.int .i64) y) (instH hp_36 x.2)) := (grun_36 x k).trans (by kernel_rfl)
theorem good_36 {R : Type} (N : Nat) : GD (X := R) Try.prog QQ AA 36 ap_36 hp_36 (fun (x : aden ap_36 × hden hp_36) k => p_36 N x (fun y => k (Pat.inst (.int .i64) y) (instH hp_36 x.2))) :=
  gd_quiet (E := E_36 N) (p := fun (x : aden ap_36 × hden hp_36) κ => p_36 N x (fun y => κ (Pat.inst (.int .i64) y))) mixed tyok (eok_36 N) Try.func36 (by kernel_rfl) (by kernel_rfl) (lok_36 N) (fun x k => run_36 N x k)

def ap_37 : List Pat := [.node (.fcons (.int .i64) (.fcons (.int .i64) (.fcons (.int .i64) (.fcons (.int .i64) (.fcons (.int .i64) (.fcons (.int .i64) (.fcons (.int .i64) (.fcons (.int .i64) (.fnil))))))))), .int .i64]
def hp_37 : List (Option (Pat × Nat)) := []
abbrev Tp_37 (R : Type) : Type := (Y0 × Int × Unit) × (Unit) → (Int → Option R) → Option R
def Q_37 {R : Type} (x : (Y0 × Int × Unit) × (Unit)) (κ0 : Int → Option R) : Option R :=
let i857 := x.1.1.1
let i858 := x.1.1.2.1
let i859 := x.1.1.2.2.1
let i860 := x.1.1.2.2.2.1
let i861 := x.1.1.2.2.2.2.1
let i862 := x.1.1.2.2.2.2.2.1
let i863 := x.1.1.2.2.2.2.2.2.1
let i864 := x.1.1.2.2.2.2.2.2.2.1
let i865 := x.1.2.1
bif (i865 == 0) then (
let i866 : Int := subA .i64 i862 1
κ0 i866) else (
let i867 : Int := subA .i64 i865 1
κ0 i867)
def p_37 {R : Type} (N : Nat) (x : (Y0 × Int × Unit) × (Unit)) (κ0 : Int → Option R) : Option R := Q_37 x κ0
def EG_37 {R : Type} : Env R := Env.base QQ LN AA
def LG_37 {R : Type} : Loops R := Loops.none
def E_37 {R : Type} (N : Nat) : Env R := EG_37
theorem eok_37 {R : Type} (N : Nat) : EK Try.prog (E_37 (R := R) N) := ek_base _ _ _
def L_37 {R : Type} (N : Nat) : Loops R := LG_37
theorem lok_37 {R : Type} (N : Nat) : LOK 0 TT (E_37 (R := R) N) (drawAny TT WW) (L_37 N) (bodyOf Try.f37) := loops_nil (by kernel_rfl)
theorem grun_37 {R : Type} (x : aden ap_37 × hden hp_37) (k : KF R) : fnrun TT (EG_37) (drawAny TT WW) (LG_37) true Try.f37 (instA ap_37 x.1) (instH hp_37 x.2) k = Q_37 x (fun y => k (Pat.inst (.int .i64) y) (instH hp_37 x.2)) := by kernel_rfl
theorem run_37 {R : Type} (N : Nat) (x : aden ap_37 × hden hp_37) (k : KF R) : fnrun TT (E_37 (R := R) N) (drawAny TT WW) (L_37 N) true Try.f37 (instA ap_37 x.1) (instH hp_37 x.2) k = p_37 N x (fun y => k (Pat.inst (.int .i64) y) (instH hp_37 x.2)) := (grun_37 x k).trans (by kernel_rfl)
theorem good_37 {R : Type} (N : Nat) : GD (X := R) Try.prog QQ AA 37 ap_37 hp_37 (fun (x : aden ap_37 × hden hp_37) k => p_37 N x (fun y => k (Pat.inst (.int .i64) y) (instH hp_37 x.2))) :=
  gd_quiet (E := E_37 N) (p := fun (x : aden ap_37 × hden hp_37) κ => p_37 N x (fun y => κ (Pat.inst (.int .i64) y))) mixed tyok (eok_37 N) Try.func37 (by kernel_rfl) (by kernel_rfl) (lok_37 N) (fun x k => run_37 N x k)

def ap_78 : List Pat := [.node (.fcons (.int .i64) (.fcons (.int .i64) (.fcons (.int .i64) (.fcons (.int .i64) (.fcons (.int .i64) (.fcons (.int .i64) (.fcons (.int .i64) (.fcons (.int .i64) (.fnil))))))))), .int .i64, .int .i64]
def hp_78 : List (Option (Pat × Nat)) := []
abbrev Tp_78 (R : Type) : Type := (Y0 × Int × Int × Unit) × (Unit) → (Int → Option R) → Option R
def Q_78 {R : Type} (x : (Y0 × Int × Int × Unit) × (Unit)) (κ0 : Int → Option R) : Option R :=
let i902 := x.1.1.1
let i903 := x.1.1.2.1
let i904 := x.1.1.2.2.1
let i905 := x.1.1.2.2.2.1
let i906 := x.1.1.2.2.2.2.1
let i907 := x.1.1.2.2.2.2.2.1
let i908 := x.1.1.2.2.2.2.2.2.1
let i909 := x.1.1.2.2.2.2.2.2.2.1
let i910 := x.1.2.1
let i911 := x.1.2.2.1
let i912 : Int := mulA .i64 i910 i907
let i913 : Int := addA .i64 i912 i911
κ0 i913
def p_78 {R : Type} (N : Nat) (x : (Y0 × Int × Int × Unit) × (Unit)) (κ0 : Int → Option R) : Option R := Q_78 x κ0
def EG_78 {R : Type} : Env R := Env.base QQ LN AA
def LG_78 {R : Type} : Loops R := Loops.none
def E_78 {R : Type} (N : Nat) : Env R := EG_78
theorem eok_78 {R : Type} (N : Nat) : EK Try.prog (E_78 (R := R) N) := ek_base _ _ _
def L_78 {R : Type} (N : Nat) : Loops R := LG_78
theorem lok_78 {R : Type} (N : Nat) : LOK 0 TT (E_78 (R := R) N) (drawAny TT WW) (L_78 N) (bodyOf Try.f78) := loops_nil (by kernel_rfl)
theorem grun_78 {R : Type} (x : aden ap_78 × hden hp_78) (k : KF R) : fnrun TT (EG_78) (drawAny TT WW) (LG_78) true Try.f78 (instA ap_78 x.1) (instH hp_78 x.2) k = Q_78 x (fun y => k (Pat.inst (.int .i64) y) (instH hp_78 x.2)) := by kernel_rfl
theorem run_78 {R : Type} (N : Nat) (x : aden ap_78 × hden hp_78) (k : KF R) : fnrun TT (E_78 (R := R) N) (drawAny TT WW) (L_78 N) true Try.f78 (instA ap_78 x.1) (instH hp_78 x.2) k = p_78 N x (fun y => k (Pat.inst (.int .i64) y) (instH hp_78 x.2)) := (grun_78 x k).trans (by kernel_rfl)
theorem good_78 {R : Type} (N : Nat) : GD (X := R) Try.prog QQ AA 78 ap_78 hp_78 (fun (x : aden ap_78 × hden hp_78) k => p_78 N x (fun y => k (Pat.inst (.int .i64) y) (instH hp_78 x.2))) :=
  gd_quiet (E := E_78 N) (p := fun (x : aden ap_78 × hden hp_78) κ => p_78 N x (fun y => κ (Pat.inst (.int .i64) y))) mixed tyok (eok_78 N) Try.func78 (by kernel_rfl) (by kernel_rfl) (lok_78 N) (fun x k => run_78 N x k)

def ap_46 : List Pat := [.ptr 0 [], .node (.fcons (.int .i64) (.fcons (.int .i64) (.fnil)))]
def hp_46 : List (Option (Pat × Nat)) := J1
abbrev Tp_46 (R : Type) : Type := (Unit × (Int × (Int × Unit)) × Unit) × Y7 → (Int → Option R) → Option R
def Q_46 {R : Type} (q_78 : Tp_78 R) (x : (Unit × (Int × (Int × Unit)) × Unit) × Y7) (κ0 : Int → Option R) : Option R :=
let i886 := x.1.2.1.1
let i887 := x.1.2.1.2.1
let i888 := x.2.1.2.1.1
let i889 := x.2.1.2.1.2.1
let i890 := x.2.1.2.1.2.2.1
let i891 := x.2.1.2.1.2.2.2.1
let i892 := x.2.1.2.1.2.2.2.2.1
let i893 := x.2.1.2.1.2.2.2.2.2.1
let i894 := x.2.1.2.1.2.2.2.2.2.2.1
let i895 := x.2.1.2.1.2.2.2.2.2.2.2.1
let b896 := x.2.2.1.2.2.1
let i897 := x.2.2.2.1.1
let i898 := x.2.2.2.1.2.1
let i899 := x.2.2.2.1.2.2.1
let i900 := x.2.2.2.1.2.2.2.1
let l901 := x.2.2.2.2.1
bif (decide (i886 < 0)) then (
κ0 ((-1))) else (
bif (decide (i886 ≥ i890)) then (
κ0 ((-1))) else (
bif (decide (i887 < 0)) then (
κ0 ((-1))) else (
bif (decide (i887 ≥ i893)) then (
κ0 ((-1))) else (
q_78 (((i888, (i889, (i890, (i891, (i892, (i893, (i894, (i895, ())))))))), i886, i887, ()), ()) (fun y914 =>
let i915 : Int := y914
κ0 i915)))))
def p_46 {R : Type} (N : Nat) (x : (Unit × (Int × (Int × Unit)) × Unit) × Y7) (κ0 : Int → Option R) : Option R := Q_46 (p_78 N) x κ0
def EG_46 {R : Type} (q_78 : Tp_78 R) : Env R := (Env.base QQ LN AA).add 78 ap_78 hp_78 (fun (x : aden ap_78 × hden hp_78) k => q_78 x (fun y => k (Pat.inst (.int .i64) y) (instH hp_78 x.2)))
def LG_46 {R : Type} : Loops R := Loops.none
def E_46 {R : Type} (N : Nat) : Env R := EG_46 (p_78 N)
theorem eok_46 {R : Type} (N : Nat) : EK Try.prog (E_46 (R := R) N) := ek_add (ek_base _ _ _) (good_78 N)
def L_46 {R : Type} (N : Nat) : Loops R := LG_46
theorem lok_46 {R : Type} (N : Nat) : LOK 4 TT (E_46 (R := R) N) (drawAny TT WW) (L_46 N) (bodyOf Try.f46) := loops_nil (by kernel_rfl)
theorem grun_46 {R : Type} (q_78 : Tp_78 R) (x : aden ap_46 × hden hp_46) (k : KF R) : fnrun TT (EG_46 q_78) (drawAny TT WW) (LG_46) true Try.f46 (instA ap_46 x.1) (instH hp_46 x.2) k = Q_46 q_78 x (fun y => k (Pat.inst (.int .i64) y) (instH hp_46 x.2)) := by kernel_rfl
theorem run_46 {R : Type} (N : Nat) (x : aden ap_46 × hden hp_46) (k : KF R) : fnrun TT (E_46 (R := R) N) (drawAny TT WW) (L_46 N) true Try.f46 (instA ap_46 x.1) (instH hp_46 x.2) k = p_46 N x (fun y => k (Pat.inst (.int .i64) y) (instH hp_46 x.2)) := (grun_46 (p_78 N) x k).trans (by kernel_rfl)
theorem good_46 {R : Type} (N : Nat) : GD (X := R) Try.prog QQ AA 46 ap_46 hp_46 (fun (x : aden ap_46 × hden hp_46) k => p_46 N x (fun y => k (Pat.inst (.int .i64) y) (instH hp_46 x.2))) :=
  gd_quiet (E := E_46 N) (p := fun (x : aden ap_46 × hden hp_46) κ => p_46 N x (fun y => κ (Pat.inst (.int .i64) y))) mixed tyok (eok_46 N) Try.func46 (by kernel_rfl) (by kernel_rfl) (lok_46 N) (fun x k => run_46 N x k)

def ap_47 : List Pat := [.ptr 0 [], .int .i64]
def hp_47 : List (Option (Pat × Nat)) := J4
abbrev Tp_47 (R : Type) : Type := (Unit × Int × Unit) × (Y5 × Y2 × (List (Nat → Int)) × Unit) → (((Nat → Int) × (Int × Unit)) → Option R) → Option R
def Q_47 {R : Type} (x : (Unit × Int × Unit) × (Y5 × Y2 × (List (Nat → Int)) × Unit)) (κ0 : ((Nat → Int) × (Int × Unit)) → Option R) : Option R :=
let i919 := x.1.2.1
let b920 := x.2.1.2.2.1
let i921 := x.2.2.1.1
let i922 := x.2.2.1.2.1
let i923 := x.2.2.1.2.2.1
let i924 := x.2.2.1.2.2.2.1
let l925 := x.2.2.2.1
bif (decide (i919 < 0)) then (
let a926 : (Nat → Int) := (Sch.zero (.arr 128 (.int .u64)))
κ0 ((a926, (11, ())))) else (
let i927 : Int := (((List.length l925) : Nat) : Int)
bif (decide (i919 ≥ i927)) then (
let a928 : (Nat → Int) := (Sch.zero (.arr 128 (.int .u64)))
κ0 ((a928, (11, ())))) else (
bif (!b920) then (
let a929 : (Nat → Int) := (Sch.zero (.arr 128 (.int .u64)))
κ0 ((a929, (12, ())))) else (
bif decide (0 ≤ i919) then (
bif decide (i919 < ((List.length l925) : Int)) then (
let a930 : (Nat → Int) := (List.getD l925 ((Int.toNat i919)) (Sch.zero (.arr 128 (.int .u64))))
κ0 ((a930, (0, ())))) else none) else none)))
def p_47 {R : Type} (N : Nat) (x : (Unit × Int × Unit) × (Y5 × Y2 × (List (Nat → Int)) × Unit)) (κ0 : ((Nat → Int) × (Int × Unit)) → Option R) : Option R := Q_47 x κ0
def EG_47 {R : Type} : Env R := Env.base QQ LN AA
def LG_47 {R : Type} : Loops R := Loops.none
def E_47 {R : Type} (N : Nat) : Env R := EG_47
theorem eok_47 {R : Type} (N : Nat) : EK Try.prog (E_47 (R := R) N) := ek_base _ _ _
def L_47 {R : Type} (N : Nat) : Loops R := LG_47
theorem lok_47 {R : Type} (N : Nat) : LOK 3 TT (E_47 (R := R) N) (drawAny TT WW) (L_47 N) (bodyOf Try.f47) := loops_nil (by kernel_rfl)
theorem grun_47 {R : Type} (x : aden ap_47 × hden hp_47) (k : KF R) : fnrun TT (EG_47) (drawAny TT WW) (LG_47) true Try.f47 (instA ap_47 x.1) (instH hp_47 x.2) k = Q_47 x (fun y => k (Pat.inst (.tup (.fcons (.vec (.int .u64) 128) (.fcons (.int .i64) (.fnil)))) y) (instH hp_47 x.2)) := by kernel_rfl
theorem run_47 {R : Type} (N : Nat) (x : aden ap_47 × hden hp_47) (k : KF R) : fnrun TT (E_47 (R := R) N) (drawAny TT WW) (L_47 N) true Try.f47 (instA ap_47 x.1) (instH hp_47 x.2) k = p_47 N x (fun y => k (Pat.inst (.tup (.fcons (.vec (.int .u64) 128) (.fcons (.int .i64) (.fnil)))) y) (instH hp_47 x.2)) := (grun_47 x k).trans (by kernel_rfl)
theorem good_47 {R : Type} (N : Nat) : GD (X := R) Try.prog QQ AA 47 ap_47 hp_47 (fun (x : aden ap_47 × hden hp_47) k => p_47 N x (fun y => k (Pat.inst (.tup (.fcons (.vec (.int .u64) 128) (.fcons (.int .i64) (.fnil)))) y) (instH hp_47 x.2))) :=
  gd_quiet (E := E_47 N) (p := fun (x : aden ap_47 × hden hp_47) κ => p_47 N x (fun y => κ (Pat.inst (.tup (.fcons (.vec (.int .u64) 128) (.fcons (.int .i64) (.fnil)))) y))) mixed tyok (eok_47 N) Try.func47 (by kernel_rfl) (by kernel_rfl) (lok_47 N) (fun x k => run_47 N x k)

def ap_9 : List Pat := [.ptr 0 [], .node (.fcons (.int .i64) (.fcons (.int .i64) (.fnil)))]
def hp_9 : List (Option (Pat × Nat)) := J1
abbrev Tp_9 (R : Type) : Type := (Unit × (Int × (Int × Unit)) × Unit) × Y7 → (((Nat → Int) × (Int × Unit)) → Option R) → Option R
def Q_9 {R : Type} (q_46 : Tp_46 R) (q_47 : Tp_47 R) (x : (Unit × (Int × (Int × Unit)) × Unit) × Y7) (κ0 : ((Nat → Int) × (Int × Unit)) → Option R) : Option R :=
let i870 := x.1.2.1.1
let i871 := x.1.2.1.2.1
let i872 := x.2.1.2.1.1
let i873 := x.2.1.2.1.2.1
let i874 := x.2.1.2.1.2.2.1
let i875 := x.2.1.2.1.2.2.2.1
let i876 := x.2.1.2.1.2.2.2.2.1
let i877 := x.2.1.2.1.2.2.2.2.2.1
let i878 := x.2.1.2.1.2.2.2.2.2.2.1
let i879 := x.2.1.2.1.2.2.2.2.2.2.2.1
let b880 := x.2.2.1.2.2.1
let i881 := x.2.2.2.1.1
let i882 := x.2.2.2.1.2.1
let i883 := x.2.2.2.1.2.2.1
let i884 := x.2.2.2.1.2.2.2.1
let l885 := x.2.2.2.2.1
q_46 (((), (i870, (i871, ())), ()), (((), ((i872, (i873, (i874, (i875, (i876, (i877, (i878, (i879, ())))))))), ())), ((), ((), (b880, ()))), (i881, (i882, (i883, (i884, ())))), l885, ())) (fun y916 =>
let i917 : Int := y916
bif (decide (i917 < 0)) then (
let a918 : (Nat → Int) := (Sch.zero (.arr 128 (.int .u64)))
κ0 ((a918, (11, ())))) else (
q_47 (((), i917, ()), (((), ((), (b880, ()))), (i881, (i882, (i883, (i884, ())))), l885, ())) (fun y931 =>
let a932 := y931.1
let i933 := y931.2.1
κ0 ((a932, (i933, ()))))))
def p_9 {R : Type} (N : Nat) (x : (Unit × (Int × (Int × Unit)) × Unit) × Y7) (κ0 : ((Nat → Int) × (Int × Unit)) → Option R) : Option R := Q_9 (p_46 N) (p_47 N) x κ0
def EG_9 {R : Type} (q_46 : Tp_46 R) (q_47 : Tp_47 R) : Env R := ((Env.base QQ LN AA).add 46 ap_46 hp_46 (fun (x : aden ap_46 × hden hp_46) k => q_46 x (fun y => k (Pat.inst (.int .i64) y) (instH hp_46 x.2)))).add 47 ap_47 hp_47 (fun (x : aden ap_47 × hden hp_47) k => q_47 x (fun y => k (Pat.inst (.tup (.fcons (.vec (.int .u64) 128) (.fcons (.int .i64) (.fnil)))) y) (instH hp_47 x.2)))
def LG_9 {R : Type} : Loops R := Loops.none
def E_9 {R : Type} (N : Nat) : Env R := EG_9 (p_46 N) (p_47 N)
theorem eok_9 {R : Type} (N : Nat) : EK Try.prog (E_9 (R := R) N) := ek_add (ek_add (ek_base _ _ _) (good_46 N)) (good_47 N)
def L_9 {R : Type} (N : Nat) : Loops R := LG_9
theorem lok_9 {R : Type} (N : Nat) : LOK 4 TT (E_9 (R := R) N) (drawAny TT WW) (L_9 N) (bodyOf Try.f9) := loops_nil (by kernel_rfl)
theorem grun_9 {R : Type} (q_46 : Tp_46 R) (q_47 : Tp_47 R) (x : aden ap_9 × hden hp_9) (k : KF R) : fnrun TT (EG_9 q_46 q_47) (drawAny TT WW) (LG_9) true Try.f9 (instA ap_9 x.1) (instH hp_9 x.2) k = Q_9 q_46 q_47 x (fun y => k (Pat.inst (.tup (.fcons (.vec (.int .u64) 128) (.fcons (.int .i64) (.fnil)))) y) (instH hp_9 x.2)) := by kernel_rfl
theorem run_9 {R : Type} (N : Nat) (x : aden ap_9 × hden hp_9) (k : KF R) : fnrun TT (E_9 (R := R) N) (drawAny TT WW) (L_9 N) true Try.f9 (instA ap_9 x.1) (instH hp_9 x.2) k = p_9 N x (fun y => k (Pat.inst (.tup (.fcons (.vec (.int .u64) 128) (.fcons (.int .i64) (.fnil)))) y) (instH hp_9 x.2)) := (grun_9 (p_46 N) (p_47 N) x k).trans (by kernel_rfl)
theorem good_9 {R : Type} (N : Nat) : GD (X := R) Try.prog QQ AA 9 ap_9 hp_9 (fun (x : aden ap_9 × hden hp_9) k => p_9 N x (fun y => k (Pat.inst (.tup (.fcons (.vec (.int .u64) 128) (.fcons (.int .i64) (.fnil)))) y) (instH hp_9 x.2))) :=
  gd_quiet (E := E_9 N) (p := fun (x : aden ap_9 × hden hp_9) κ => p_9 N x (fun y => κ (Pat.inst (.tup (.fcons (.vec (.int .u64) 128) (.fcons (.int .i64) (.fnil)))) y))) mixed tyok (eok_9 N) Try.func9 (by kernel_rfl) (by kernel_rfl) (lok_9 N) (fun x k => run_9 N x k)

def ap_32 : List Pat := [.ptr 0 [], .node (.fcons (.int .i64) (.fcons (.int .i64) (.fnil))), .int .i64, .int .i64, .ptr 4 []]
def hp_32 : List (Option (Pat × Nat)) := J3
abbrev Tp_32 (R : Type) : Type := (Unit × (Int × (Int × Unit)) × Int × Int × Unit × Unit) × Y13 → (((Int × (Int × (Int × Unit))) × Y13) → Option R) → Option R
def Q_32 {R : Type} (q_64 : Tp_64 R) (q_65 : Tp_65 R) (q_36 : Tp_36 R) (q_37 : Tp_37 R) (q_9 : Tp_9 R) (q_66 : Tp_66 R) (x : (Unit × (Int × (Int × Unit)) × Int × Int × Unit × Unit) × Y13) (κ0 : ((Int × (Int × (Int × Unit))) × Y13) → Option R) : Option R :=
let i477 := x.1.2.1.1
let i478 := x.1.2.1.2.1
let i479 := x.1.2.2.1
let i480 := x.1.2.2.2.1
let i481 := x.2.1.2.1.1
let i482 := x.2.1.2.1.2.1
let i483 := x.2.1.2.1.2.2.1
let i484 := x.2.1.2.1.2.2.2.1
let i485 := x.2.1.2.1.2.2.2.2.1
let i486 := x.2.1.2.1.2.2.2.2.2.1
let i487 := x.2.1.2.1.2.2.2.2.2.2.1
let i488 := x.2.1.2.1.2.2.2.2.2.2.2.1
let b489 := x.2.2.1.2.2.1
let i490 := x.2.2.2.1.1
let i491 := x.2.2.2.1.2.1
let i492 := x.2.2.2.1.2.2.1
let i493 := x.2.2.2.1.2.2.2.1
let l494 := x.2.2.2.2.1
let i495 := x.2.2.2.2.2.1.1.1
let i496 := x.2.2.2.2.2.1.1.2.1
let i497 := x.2.2.2.2.2.1.1.2.2.1
let i498 := x.2.2.2.2.2.1.1.2.2.2.1
let i499 := x.2.2.2.2.2.1.1.2.2.2.2.1
let i500 := x.2.2.2.2.2.1.1.2.2.2.2.2.1
let i501 := x.2.2.2.2.2.1.1.2.2.2.2.2.2.1
let i502 := x.2.2.2.2.2.1.1.2.2.2.2.2.2.2.1
let i503 := x.2.2.2.2.2.1.2.1.1
let i504 := x.2.2.2.2.2.1.2.1.2.1
let i505 := x.2.2.2.2.2.1.2.2.1
let i506 := x.2.2.2.2.2.1.2.2.2.1
let a507 := x.2.2.2.2.2.1.2.2.2.2.1
q_64 (((i481, (i482, (i483, (i484, (i485, (i486, (i487, (i488, ())))))))), (i477, (i478, ())), ()), ()) (fun y518 =>
let b519 : Bool := y518
bif b519 then (
q_65 (((), i480, ()), (((i495, (i496, (i497, (i498, (i499, (i500, (i501, (i502, ())))))))), ((i503, (i504, ())), (i505, (i506, (a507, ()))))), ())) (fun y827 =>
let i828 := y827.1.1
let i829 := y827.1.2.1
let i830 := y827.2.1.1.1
let i831 := y827.2.1.1.2.1
let i832 := y827.2.1.1.2.2.1
let i833 := y827.2.1.1.2.2.2.1
let i834 := y827.2.1.1.2.2.2.2.1
let i835 := y827.2.1.1.2.2.2.2.2.1
let i836 := y827.2.1.1.2.2.2.2.2.2.1
let i837 := y827.2.1.1.2.2.2.2.2.2.2.1
let i838 := y827.2.1.2.1.1
let i839 := y827.2.1.2.1.2.1
let i840 := y827.2.1.2.2.1
let i841 := y827.2.1.2.2.2.1
let a842 := y827.2.1.2.2.2.2.1
κ0 ((i828, (i829, (0, ()))), (((), ((i481, (i482, (i483, (i484, (i485, (i486, (i487, (i488, ())))))))), ())), ((), ((), (b489, ()))), (i490, (i491, (i492, (i493, ())))), l494, ((i830, (i831, (i832, (i833, (i834, (i835, (i836, (i837, ())))))))), ((i838, (i839, ())), (i840, (i841, (a842, ()))))), ())))) else (
q_36 (((i481, (i482, (i483, (i484, (i485, (i486, (i487, (i488, ())))))))), i478, i480, ()), ()) (fun y855 =>
let i856 : Int := y855
q_37 (((i481, (i482, (i483, (i484, (i485, (i486, (i487, (i488, ())))))))), i856, ()), ()) (fun y868 =>
let i869 : Int := y868
q_9 (((), (i479, (i869, ())), ()), (((), ((i481, (i482, (i483, (i484, (i485, (i486, (i487, (i488, ())))))))), ())), ((), ((), (b489, ()))), (i490, (i491, (i492, (i493, ())))), l494, ())) (fun y934 =>
let a935 := y934.1
let i936 := y934.2.1
bif (i936 != 0) then (
κ0 ((0, (0, (i936, ()))), (((), ((i481, (i482, (i483, (i484, (i485, (i486, (i487, (i488, ())))))))), ())), ((), ((), (b489, ()))), (i490, (i491, (i492, (i493, ())))), l494, ((i495, (i496, (i497, (i498, (i499, (i500, (i501, (i502, ())))))))), ((i503, (i504, ())), (i505, (i506, (a507, ()))))), ()))) else (
let i937 : Int := (a935 0)
q_66 ((i937, ()), ()) (fun y938 =>
let i939 := y938.1
let i940 := y938.2.1
κ0 ((i939, (i940, (0, ()))), (((), ((i481, (i482, (i483, (i484, (i485, (i486, (i487, (i488, ())))))))), ())), ((), ((), (b489, ()))), (i490, (i491, (i492, (i493, ())))), l494, ((i495, (i496, (i497, (i498, (i499, (i500, (i501, (i502, ())))))))), ((i503, (i504, ())), (i505, (i506, (a507, ()))))), ())))))))))
def p_32 {R : Type} (N : Nat) (x : (Unit × (Int × (Int × Unit)) × Int × Int × Unit × Unit) × Y13) (κ0 : ((Int × (Int × (Int × Unit))) × Y13) → Option R) : Option R := Q_32 (p_64 N) (p_65 N) (p_36 N) (p_37 N) (p_9 N) (p_66 N) x κ0
def EG_32 {R : Type} (q_64 : Tp_64 R) (q_65 : Tp_65 R) (q_36 : Tp_36 R) (q_37 : Tp_37 R) (q_9 : Tp_9 R) (q_66 : Tp_66 R) : Env R := ((((((Env.base QQ LN AA).add 64 ap_64 hp_64 (fun (x : aden ap_64 × hden hp_64) k => q_64 x (fun y => k (Pat.inst (.bool) y) (instH hp_64 x.2)))).add 65 ap_65 hp_65 (fun (x : aden ap_65 × hden hp_65) k => q_65 x (fun y => k (Pat.inst (.tup (.fcons (.int .u32) (.fcons (.int .u32) (.fnil)))) y.1) (instH [some (Z3, 132)] y.2)))).add 36 ap_36 hp_36 (fun (x : aden ap_36 × hden hp_36) k => q_36 x (fun y => k (Pat.inst (.int .i64) y) (instH hp_36 x.2)))).add 37 ap_37 hp_37 (fun (x : aden ap_37 × hden hp_37) k => q_37 x (fun y => k (Pat.inst (.int .i64) y) (instH hp_37 x.2)))).add 9 ap_9 hp_9 (fun (x : aden ap_9 × hden hp_9) k => q_9 x (fun y => k (Pat.inst (.tup (.fcons (.vec (.int .u64) 128) (.fcons (.int .i64) (.fnil)))) y) (instH hp_9 x.2)))).add 66 ap_66 hp_66 (fun (x : aden ap_66 × hden hp_66) k => q_66 x (fun y => k (Pat.inst (.tup (.fcons (.int .u32) (.fcons (.int .u32) (.fnil)))) y) (instH hp_66 x.2)))
def LG_32 {R : Type} : Loops R := Loops.none
def E_32 {R : Type} (N : Nat) : Env R := EG_32 (p_64 N) (p_65 N) (p_36 N) (p_37 N) (p_9 N) (p_66 N)
theorem eok_32 {R : Type} (N : Nat) : EK Try.prog (E_32 (R := R) N) := ek_add (ek_add (ek_add (ek_add (ek_add (ek_add (ek_base _ _ _) (good_64 N)) (good_65 N)) (good_36 N)) (good_37 N)) (good_9 N)) (good_66 N)
def L_32 {R : Type} (N : Nat) : Loops R := LG_32
theorem lok_32 {R : Type} (N : Nat) : LOK 5 TT (E_32 (R := R) N) (drawAny TT WW) (L_32 N) (bodyOf Try.f32) := loops_nil (by kernel_rfl)
theorem grun_32 {R : Type} (q_64 : Tp_64 R) (q_65 : Tp_65 R) (q_36 : Tp_36 R) (q_37 : Tp_37 R) (q_9 : Tp_9 R) (q_66 : Tp_66 R) (x : aden ap_32 × hden hp_32) (k : KF R) : fnrun TT (EG_32 q_64 q_65 q_36 q_37 q_9 q_66) (drawAny TT WW) (LG_32) true Try.f32 (instA ap_32 x.1) (instH hp_32 x.2) k = Q_32 q_64 q_65 q_36 q_37 q_9 q_66 x (fun y => k (Pat.inst (.tup (.fcons (.int .u32) (.fcons (.int .u32) (.fcons (.int .i64) (.fnil))))) y.1) (instH J3 y.2)) := by kernel_rfl
theorem run_32 {R : Type} (N : Nat) (x : aden ap_32 × hden hp_32) (k : KF R) : fnrun TT (E_32 (R := R) N) (drawAny TT WW) (L_32 N) true Try.f32 (instA ap_32 x.1) (instH hp_32 x.2) k = p_32 N x (fun y => k (Pat.inst (.tup (.fcons (.int .u32) (.fcons (.int .u32) (.fcons (.int .i64) (.fnil))))) y.1) (instH J3 y.2)) := (grun_32 (p_64 N) (p_65 N) (p_36 N) (p_37 N) (p_9 N) (p_66 N) x k).trans (by kernel_rfl)
theorem good_32 {R : Type} (N : Nat) : GD (X := R) Try.prog QQ AA 32 ap_32 hp_32 (fun (x : aden ap_32 × hden hp_32) k => p_32 N x (fun y => k (Pat.inst (.tup (.fcons (.int .u32) (.fcons (.int .u32) (.fcons (.int .i64) (.fnil))))) y.1) (instH J3 y.2))) :=
  gd_loud (E := E_32 N) (p := fun (x : aden ap_32 × hden hp_32) k => p_32 N x (fun y => k (Pat.inst (.tup (.fcons (.int .u32) (.fcons (.int .u32) (.fcons (.int .i64) (.fnil))))) y.1) (instH J3 y.2))) mixed tyok (eok_32 N) Try.func32 (by kernel_rfl) (by kernel_rfl) (by kernel_rfl) (by kernel_rfl) (lok_32 N) (fun x k => run_32 N x k)

def ap_29 : List Pat := [.node (.fcons (.int .i64) (.fcons (.int .i64) (.fcons (.int .i64) (.fcons (.int .i64) (.fcons (.int .i64) (.fcons (.int .i64) (.fcons (.int .i64) (.fcons (.int .i64) (.fnil))))))))), .node (.fcons (.int .i64) (.fcons (.int .i64) (.fnil)))]
def hp_29 : List (Option (Pat × Nat)) := []
abbrev Tp_29 (R : Type) : Type := (Y0 × (Int × (Int × Unit)) × Unit) × (Unit) → (Bool → Option R) → Option R
def Q_29 {R : Type} (q_63 : Tp_63 R) (x : (Y0 × (Int × (Int × Unit)) × Unit) × (Unit)) (κ0 : Bool → Option R) : Option R :=
let i986 := x.1.1.1
let i987 := x.1.1.2.1
let i988 := x.1.1.2.2.1
let i989 := x.1.1.2.2.2.1
let i990 := x.1.1.2.2.2.2.1
let i991 := x.1.1.2.2.2.2.2.1
let i992 := x.1.1.2.2.2.2.2.2.1
let i993 := x.1.1.2.2.2.2.2.2.2.1
let i994 := x.1.2.1.1
let i995 := x.1.2.1.2.1
let i996 : Int := subA .i64 i987 1
q_63 ((i994, 0, i996, ()), ()) (fun y997 =>
let b998 : Bool := y997
bif b998 then (
q_63 ((i995, 0, 3, ()), ()) (fun y999 =>
let b1000 : Bool := y999
κ0 b1000)) else (
κ0 false))
def p_29 {R : Type} (N : Nat) (x : (Y0 × (Int × (Int × Unit)) × Unit) × (Unit)) (κ0 : Bool → Option R) : Option R := Q_29 (p_63 N) x κ0
def EG_29 {R : Type} (q_63 : Tp_63 R) : Env R := (Env.base QQ LN AA).add 63 ap_63 hp_63 (fun (x : aden ap_63 × hden hp_63) k => q_63 x (fun y => k (Pat.inst (.bool) y) (instH hp_63 x.2)))
def LG_29 {R : Type} : Loops R := Loops.none
def E_29 {R : Type} (N : Nat) : Env R := EG_29 (p_63 N)
theorem eok_29 {R : Type} (N : Nat) : EK Try.prog (E_29 (R := R) N) := ek_add (ek_base _ _ _) (good_63 N)
def L_29 {R : Type} (N : Nat) : Loops R := LG_29
theorem lok_29 {R : Type} (N : Nat) : LOK 0 TT (E_29 (R := R) N) (drawAny TT WW) (L_29 N) (bodyOf Try.f29) := loops_nil (by kernel_rfl)
theorem grun_29 {R : Type} (q_63 : Tp_63 R) (x : aden ap_29 × hden hp_29) (k : KF R) : fnrun TT (EG_29 q_63) (drawAny TT WW) (LG_29) true Try.f29 (instA ap_29 x.1) (instH hp_29 x.2) k = Q_29 q_63 x (fun y => k (Pat.inst (.bool) y) (instH hp_29 x.2)) := by kernel_rfl
theorem run_29 {R : Type} (N : Nat) (x : aden ap_29 × hden hp_29) (k : KF R) : fnrun TT (E_29 (R := R) N) (drawAny TT WW) (L_29 N) true Try.f29 (instA ap_29 x.1) (instH hp_29 x.2) k = p_29 N x (fun y => k (Pat.inst (.bool) y) (instH hp_29 x.2)) := (grun_29 (p_63 N) x k).trans (by kernel_rfl)
theorem good_29 {R : Type} (N : Nat) : GD (X := R) Try.prog QQ AA 29 ap_29 hp_29 (fun (x : aden ap_29 × hden hp_29) k => p_29 N x (fun y => k (Pat.inst (.bool) y) (instH hp_29 x.2))) :=
  gd_quiet (E := E_29 N) (p := fun (x : aden ap_29 × hden hp_29) κ => p_29 N x (fun y => κ (Pat.inst (.bool) y))) mixed tyok (eok_29 N) Try.func29 (by kernel_rfl) (by kernel_rfl) (lok_29 N) (fun x k => run_29 N x k)

def ap_67 : List Pat := [.node (.fcons (.int .i64) (.fcons (.int .i64) (.fcons (.int .i64) (.fcons (.int .i64) (.fcons (.int .i64) (.fcons (.int .i64) (.fcons (.int .i64) (.fcons (.int .i64) (.fnil))))))))), .node (.fcons (.int .i64) (.fcons (.int .i64) (.fnil))), .int .i64, .int .u32]
def hp_67 : List (Option (Pat × Nat)) := []
abbrev Tp_67 (R : Type) : Type := (Y0 × (Int × (Int × Unit)) × Int × Int × Unit) × (Unit) → (Int → Option R) → Option R
def Q_67 {R : Type} (x : (Y0 × (Int × (Int × Unit)) × Int × Int × Unit) × (Unit)) (κ0 : Int → Option R) : Option R :=
let i1011 := x.1.1.1
let i1012 := x.1.1.2.1
let i1013 := x.1.1.2.2.1
let i1014 := x.1.1.2.2.2.1
let i1015 := x.1.1.2.2.2.2.1
let i1016 := x.1.1.2.2.2.2.2.1
let i1017 := x.1.1.2.2.2.2.2.2.1
let i1018 := x.1.1.2.2.2.2.2.2.2.1
let i1019 := x.1.2.1.1
let i1020 := x.1.2.1.2.1
let i1021 := x.1.2.2.1
let i1022 := x.1.2.2.2.1
bif (i1019 == 0) then (
bif (i1020 == 0) then (
κ0 i1021) else (
let i1023 : Int := IntKind.wrap .u64 i1022
let i1024 : Int := IntKind.wrap .u64 i1013
bif decide (i1024 = 0) then none else (
let i1025 : Int := remA .u64 i1023 i1024
let i1026 : Int := IntKind.wrap .i64 i1025
κ0 i1026))) else (
let i1027 : Int := IntKind.wrap .u64 i1022
let i1028 : Int := IntKind.wrap .u64 i1013
bif decide (i1028 = 0) then none else (
let i1029 : Int := remA .u64 i1027 i1028
let i1030 : Int := IntKind.wrap .i64 i1029
κ0 i1030))
def p_67 {R : Type} (N : Nat) (x : (Y0 × (Int × (Int × Unit)) × Int × Int × Unit) × (Unit)) (κ0 : Int → Option R) : Option R := Q_67 x κ0
def EG_67 {R : Type} : Env R := Env.base QQ LN AA
def LG_67 {R : Type} : Loops R := Loops.none
def E_67 {R : Type} (N : Nat) : Env R := EG_67
theorem eok_67 {R : Type} (N : Nat) : EK Try.prog (E_67 (R := R) N) := ek_base _ _ _
def L_67 {R : Type} (N : Nat) : Loops R := LG_67
theorem lok_67 {R : Type} (N : Nat) : LOK 0 TT (E_67 (R := R) N) (drawAny TT WW) (L_67 N) (bodyOf Try.f67) := loops_nil (by kernel_rfl)
theorem grun_67 {R : Type} (x : aden ap_67 × hden hp_67) (k : KF R) : fnrun TT (EG_67) (drawAny TT WW) (LG_67) true Try.f67 (instA ap_67 x.1) (instH hp_67 x.2) k = Q_67 x (fun y => k (Pat.inst (.int .i64) y) (instH hp_67 x.2)) := by kernel_rfl
theorem run_67 {R : Type} (N : Nat) (x : aden ap_67 × hden hp_67) (k : KF R) : fnrun TT (E_67 (R := R) N) (drawAny TT WW) (L_67 N) true Try.f67 (instA ap_67 x.1) (instH hp_67 x.2) k = p_67 N x (fun y => k (Pat.inst (.int .i64) y) (instH hp_67 x.2)) := (grun_67 x k).trans (by kernel_rfl)
theorem good_67 {R : Type} (N : Nat) : GD (X := R) Try.prog QQ AA 67 ap_67 hp_67 (fun (x : aden ap_67 × hden hp_67) k => p_67 N x (fun y => k (Pat.inst (.int .i64) y) (instH hp_67 x.2))) :=
  gd_quiet (E := E_67 N) (p := fun (x : aden ap_67 × hden hp_67) κ => p_67 N x (fun y => κ (Pat.inst (.int .i64) y))) mixed tyok (eok_67 N) Try.func67 (by kernel_rfl) (by kernel_rfl) (lok_67 N) (fun x k => run_67 N x k)

def ap_68 : List Pat := [.node (.fcons (.int .i64) (.fcons (.int .i64) (.fcons (.int .i64) (.fcons (.int .i64) (.fcons (.int .i64) (.fcons (.int .i64) (.fcons (.int .i64) (.fcons (.int .i64) (.fnil))))))))), .node (.fcons (.int .i64) (.fcons (.int .i64) (.fnil))), .int .i64, .bool]
def hp_68 : List (Option (Pat × Nat)) := []
abbrev Tp_68 (R : Type) : Type := (Y0 × (Int × (Int × Unit)) × Int × Bool × Unit) × (Unit) → (Int → Option R) → Option R
def Q_68 {R : Type} (x : (Y0 × (Int × (Int × Unit)) × Int × Bool × Unit) × (Unit)) (κ0 : Int → Option R) : Option R :=
let i1033 := x.1.1.1
let i1034 := x.1.1.2.1
let i1035 := x.1.1.2.2.1
let i1036 := x.1.1.2.2.2.1
let i1037 := x.1.1.2.2.2.2.1
let i1038 := x.1.1.2.2.2.2.2.1
let i1039 := x.1.1.2.2.2.2.2.2.1
let i1040 := x.1.1.2.2.2.2.2.2.2.1
let i1041 := x.1.2.1.1
let i1042 := x.1.2.1.2.1
let i1043 := x.1.2.2.1
let b1044 := x.1.2.2.2.1
let i1045 : Int := mulA .i64 i1042 i1039
bif (decide (i1041 > 0)) then (
let i1046 : Int := subA .i64 i1038 i1039
bif b1044 then (
let i1047 : Int := addA .i64 i1046 i1043
let i1048 : Int := subA .i64 i1047 1
κ0 i1048) else (
bif (i1043 == 0) then (
let i1049 : Int := subA .i64 i1046 1
κ0 i1049) else (
κ0 i1046))) else (
bif b1044 then (
let i1050 : Int := addA .i64 i1045 i1043
let i1051 : Int := subA .i64 i1050 1
κ0 i1051) else (
bif (i1043 == 0) then (
let i1052 : Int := subA .i64 i1045 1
κ0 i1052) else (
κ0 i1045)))
def p_68 {R : Type} (N : Nat) (x : (Y0 × (Int × (Int × Unit)) × Int × Bool × Unit) × (Unit)) (κ0 : Int → Option R) : Option R := Q_68 x κ0
def EG_68 {R : Type} : Env R := Env.base QQ LN AA
def LG_68 {R : Type} : Loops R := Loops.none
def E_68 {R : Type} (N : Nat) : Env R := EG_68
theorem eok_68 {R : Type} (N : Nat) : EK Try.prog (E_68 (R := R) N) := ek_base _ _ _
def L_68 {R : Type} (N : Nat) : Loops R := LG_68
theorem lok_68 {R : Type} (N : Nat) : LOK 0 TT (E_68 (R := R) N) (drawAny TT WW) (L_68 N) (bodyOf Try.f68) := loops_nil (by kernel_rfl)
theorem grun_68 {R : Type} (x : aden ap_68 × hden hp_68) (k : KF R) : fnrun TT (EG_68) (drawAny TT WW) (LG_68) true Try.f68 (instA ap_68 x.1) (instH hp_68 x.2) k = Q_68 x (fun y => k (Pat.inst (.int .i64) y) (instH hp_68 x.2)) := by kernel_rfl
theorem run_68 {R : Type} (N : Nat) (x : aden ap_68 × hden hp_68) (k : KF R) : fnrun TT (E_68 (R := R) N) (drawAny TT WW) (L_68 N) true Try.f68 (instA ap_68 x.1) (instH hp_68 x.2) k = p_68 N x (fun y => k (Pat.inst (.int .i64) y) (instH hp_68 x.2)) := (grun_68 x k).trans (by kernel_rfl)
theorem good_68 {R : Type} (N : Nat) : GD (X := R) Try.prog QQ AA 68 ap_68 hp_68 (fun (x : aden ap_68 × hden hp_68) k => p_68 N x (fun y => k (Pat.inst (.int .i64) y) (instH hp_68 x.2))) :=
  gd_quiet (E := E_68 N) (p := fun (x : aden ap_68 × hden hp_68) κ => p_68 N x (fun y => κ (Pat.inst (.int .i64) y))) mixed tyok (eok_68 N) Try.func68 (by kernel_rfl) (by kernel_rfl) (lok_68 N) (fun x k => run_68 N x k)

def ap_69 : List Pat := [.node (.fcons (.int .i64) (.fcons (.int .i64) (.fcons (.int .i64) (.fcons (.int .i64) (.fcons (.int .i64) (.fcons (.int .i64) (.fcons (.int .i64) (.fcons (.int .i64) (.fnil))))))))), .node (.fcons (.int .i64) (.fcons (.int .i64) (.fnil)))]
def hp_69 : List (Option (Pat × Nat)) := []
abbrev Tp_69 (R : Type) : Type := (Y0 × (Int × (Int × Unit)) × Unit) × (Unit) → (Int → Option R) → Option R
def Q_69 {R : Type} (x : (Y0 × (Int × (Int × Unit)) × Unit) × (Unit)) (κ0 : Int → Option R) : Option R :=
let i1055 := x.1.1.1
let i1056 := x.1.1.2.1
let i1057 := x.1.1.2.2.1
let i1058 := x.1.1.2.2.2.1
let i1059 := x.1.1.2.2.2.2.1
let i1060 := x.1.1.2.2.2.2.2.1
let i1061 := x.1.1.2.2.2.2.2.2.1
let i1062 := x.1.1.2.2.2.2.2.2.2.1
let i1063 := x.1.2.1.1
let i1064 := x.1.2.1.2.1
bif (i1063 == 0) then (
κ0 0) else (
bif (i1064 == 3) then (
κ0 0) else (
let i1065 : Int := addA .i64 i1064 1
let i1066 : Int := mulA .i64 i1065 i1061
κ0 i1066))
def p_69 {R : Type} (N : Nat) (x : (Y0 × (Int × (Int × Unit)) × Unit) × (Unit)) (κ0 : Int → Option R) : Option R := Q_69 x κ0
def EG_69 {R : Type} : Env R := Env.base QQ LN AA
def LG_69 {R : Type} : Loops R := Loops.none
def E_69 {R : Type} (N : Nat) : Env R := EG_69
theorem eok_69 {R : Type} (N : Nat) : EK Try.prog (E_69 (R := R) N) := ek_base _ _ _
def L_69 {R : Type} (N : Nat) : Loops R := LG_69
theorem lok_69 {R : Type} (N : Nat) : LOK 0 TT (E_69 (R := R) N) (drawAny TT WW) (L_69 N) (bodyOf Try.f69) := loops_nil (by kernel_rfl)
theorem grun_69 {R : Type} (x : aden ap_69 × hden hp_69) (k : KF R) : fnrun TT (EG_69) (drawAny TT WW) (LG_69) true Try.f69 (instA ap_69 x.1) (instH hp_69 x.2) k = Q_69 x (fun y => k (Pat.inst (.int .i64) y) (instH hp_69 x.2)) := by kernel_rfl
theorem run_69 {R : Type} (N : Nat) (x : aden ap_69 × hden hp_69) (k : KF R) : fnrun TT (E_69 (R := R) N) (drawAny TT WW) (L_69 N) true Try.f69 (instA ap_69 x.1) (instH hp_69 x.2) k = p_69 N x (fun y => k (Pat.inst (.int .i64) y) (instH hp_69 x.2)) := (grun_69 x k).trans (by kernel_rfl)
theorem good_69 {R : Type} (N : Nat) : GD (X := R) Try.prog QQ AA 69 ap_69 hp_69 (fun (x : aden ap_69 × hden hp_69) k => p_69 N x (fun y => k (Pat.inst (.int .i64) y) (instH hp_69 x.2))) :=
  gd_quiet (E := E_69 N) (p := fun (x : aden ap_69 × hden hp_69) κ => p_69 N x (fun y => κ (Pat.inst (.int .i64) y))) mixed tyok (eok_69 N) Try.func69 (by kernel_rfl) (by kernel_rfl) (lok_69 N) (fun x k => run_69 N x k)

def ap_89 : List Pat := [.int .u64, .int .u64]
def hp_89 : List (Option (Pat × Nat)) := []
abbrev Tp_89 (R : Type) : Type := (Int × Int × Unit) × (Unit) → ((Int × (Int × Unit)) → Option R) → Option R
def Q_89 {R : Type} (x : (Int × Int × Unit) × (Unit)) (κ0 : (Int × (Int × Unit)) → Option R) : Option R :=
let i1076 := x.1.1
let i1077 := x.1.2.1
let i1078 : Int := andA .u64 i1076 4294967295
let i1079 : Int := shrA .u64 i1076 32
let i1080 : Int := andA .u64 i1077 4294967295
let i1081 : Int := shrA .u64 i1077 32
let i1082 : Int := mulA .u64 i1078 i1080
let i1083 : Int := mulA .u64 i1079 i1080
let i1084 : Int := shrA .u64 i1082 32
let i1085 : Int := addA .u64 i1083 i1084
let i1086 : Int := andA .u64 i1085 4294967295
let i1087 : Int := shrA .u64 i1085 32
let i1088 : Int := mulA .u64 i1078 i1081
let i1089 : Int := addA .u64 i1086 i1088
let i1090 : Int := mulA .u64 i1079 i1081
let i1091 : Int := addA .u64 i1090 i1087
let i1092 : Int := shrA .u64 i1089 32
let i1093 : Int := addA .u64 i1091 i1092
let i1094 : Int := mulA .u64 i1076 i1077
κ0 ((i1093, (i1094, ())))
def p_89 {R : Type} (N : Nat) (x : (Int × Int × Unit) × (Unit)) (κ0 : (Int × (Int × Unit)) → Option R) : Option R := Q_89 x κ0
def EG_89 {R : Type} : Env R := Env.base QQ LN AA
def LG_89 {R : Type} : Loops R := Loops.none
def E_89 {R : Type} (N : Nat) : Env R := EG_89
theorem eok_89 {R : Type} (N : Nat) : EK Try.prog (E_89 (R := R) N) := ek_base _ _ _
def L_89 {R : Type} (N : Nat) : Loops R := LG_89
theorem lok_89 {R : Type} (N : Nat) : LOK 0 TT (E_89 (R := R) N) (drawAny TT WW) (L_89 N) (bodyOf Try.f89) := loops_nil (by kernel_rfl)
theorem grun_89 {R : Type} (x : aden ap_89 × hden hp_89) (k : KF R) : fnrun TT (EG_89) (drawAny TT WW) (LG_89) true Try.f89 (instA ap_89 x.1) (instH hp_89 x.2) k = Q_89 x (fun y => k (Pat.inst (.tup (.fcons (.int .u64) (.fcons (.int .u64) (.fnil)))) y) (instH hp_89 x.2)) := by kernel_rfl
theorem run_89 {R : Type} (N : Nat) (x : aden ap_89 × hden hp_89) (k : KF R) : fnrun TT (E_89 (R := R) N) (drawAny TT WW) (L_89 N) true Try.f89 (instA ap_89 x.1) (instH hp_89 x.2) k = p_89 N x (fun y => k (Pat.inst (.tup (.fcons (.int .u64) (.fcons (.int .u64) (.fnil)))) y) (instH hp_89 x.2)) := (grun_89 x k).trans (by kernel_rfl)
theorem good_89 {R : Type} (N : Nat) : GD (X := R) Try.prog QQ AA 89 ap_89 hp_89 (fun (x : aden ap_89 × hden hp_89) k => p_89 N x (fun y => k (Pat.inst (.tup (.fcons (.int .u64) (.fcons (.int .u64) (.fnil)))) y) (instH hp_89 x.2))) :=
  gd_quiet (E := E_89 N) (p := fun (x : aden ap_89 × hden hp_89) κ => p_89 N x (fun y => κ (Pat.inst (.tup (.fcons (.int .u64) (.fcons (.int .u64) (.fnil)))) y))) mixed tyok (eok_89 N) Try.func89 (by kernel_rfl) (by kernel_rfl) (lok_89 N) (fun x k => run_89 N x k)

def ap_70 : List Pat := [.int .i64, .int .u32]
def hp_70 : List (Option (Pat × Nat)) := []
abbrev Tp_70 (R : Type) : Type := (Int × Int × Unit) × (Unit) → (Int → Option R) → Option R
def Q_70 {R : Type} (q_89 : Tp_89 R) (x : (Int × Int × Unit) × (Unit)) (κ0 : Int → Option R) : Option R :=
let i1069 := x.1.1
let i1070 := x.1.2.1
bif (decide (i1069 < 1)) then (
κ0 0) else (
let i1071 : Int := IntKind.wrap .u64 i1070
let i1072 : Int := IntKind.wrap .u64 i1070
let i1073 : Int := mulA .u64 i1071 i1072
let i1074 : Int := shrA .u64 i1073 32
let i1075 : Int := IntKind.wrap .u64 i1069
q_89 ((i1075, i1074, ()), ()) (fun y1095 =>
let i1096 := y1095.1
let i1097 := y1095.2.1
let i1098 : Int := shlA .u64 i1096 32
let i1099 : Int := shrA .u64 i1097 32
let i1100 : Int := orA .u64 i1098 i1099
let i1101 : Int := subA .i64 i1069 1
let i1102 : Int := IntKind.wrap .i64 i1100
let i1103 : Int := subA .i64 i1101 i1102
κ0 i1103))
def p_70 {R : Type} (N : Nat) (x : (Int × Int × Unit) × (Unit)) (κ0 : Int → Option R) : Option R := Q_70 (p_89 N) x κ0
def EG_70 {R : Type} (q_89 : Tp_89 R) : Env R := (Env.base QQ LN AA).add 89 ap_89 hp_89 (fun (x : aden ap_89 × hden hp_89) k => q_89 x (fun y => k (Pat.inst (.tup (.fcons (.int .u64) (.fcons (.int .u64) (.fnil)))) y) (instH hp_89 x.2)))
def LG_70 {R : Type} : Loops R := Loops.none
def E_70 {R : Type} (N : Nat) : Env R := EG_70 (p_89 N)
theorem eok_70 {R : Type} (N : Nat) : EK Try.prog (E_70 (R := R) N) := ek_add (ek_base _ _ _) (good_89 N)
def L_70 {R : Type} (N : Nat) : Loops R := LG_70
theorem lok_70 {R : Type} (N : Nat) : LOK 0 TT (E_70 (R := R) N) (drawAny TT WW) (L_70 N) (bodyOf Try.f70) := loops_nil (by kernel_rfl)
theorem grun_70 {R : Type} (q_89 : Tp_89 R) (x : aden ap_70 × hden hp_70) (k : KF R) : fnrun TT (EG_70 q_89) (drawAny TT WW) (LG_70) true Try.f70 (instA ap_70 x.1) (instH hp_70 x.2) k = Q_70 q_89 x (fun y => k (Pat.inst (.int .i64) y) (instH hp_70 x.2)) := by kernel_rfl
theorem run_70 {R : Type} (N : Nat) (x : aden ap_70 × hden hp_70) (k : KF R) : fnrun TT (E_70 (R := R) N) (drawAny TT WW) (L_70 N) true Try.f70 (instA ap_70 x.1) (instH hp_70 x.2) k = p_70 N x (fun y => k (Pat.inst (.int .i64) y) (instH hp_70 x.2)) := (grun_70 (p_89 N) x k).trans (by kernel_rfl)
theorem good_70 {R : Type} (N : Nat) : GD (X := R) Try.prog QQ AA 70 ap_70 hp_70 (fun (x : aden ap_70 × hden hp_70) k => p_70 N x (fun y => k (Pat.inst (.int .i64) y) (instH hp_70 x.2))) :=
  gd_quiet (E := E_70 N) (p := fun (x : aden ap_70 × hden hp_70) κ => p_70 N x (fun y => κ (Pat.inst (.int .i64) y))) mixed tyok (eok_70 N) Try.func70 (by kernel_rfl) (by kernel_rfl) (lok_70 N) (fun x k => run_70 N x k)

def ap_34 : List Pat := [.node (.fcons (.int .i64) (.fcons (.int .i64) (.fcons (.int .i64) (.fcons (.int .i64) (.fcons (.int .i64) (.fcons (.int .i64) (.fcons (.int .i64) (.fcons (.int .i64) (.fnil))))))))), .node (.fcons (.int .i64) (.fcons (.int .i64) (.fnil))), .int .i64, .int .i64, .int .u32, .int .u32]
def hp_34 : List (Option (Pat × Nat)) := []
abbrev Tp_34 (R : Type) : Type := (Y0 × (Int × (Int × Unit)) × Int × Int × Int × Int × Unit) × (Unit) → (((Int × (Int × Unit)) × (Int × Unit)) → Option R) → Option R
def Q_34 {R : Type} (q_29 : Tp_29 R) (q_63 : Tp_63 R) (q_30 : Tp_30 R) (q_67 : Tp_67 R) (q_68 : Tp_68 R) (q_69 : Tp_69 R) (q_70 : Tp_70 R) (x : (Y0 × (Int × (Int × Unit)) × Int × Int × Int × Int × Unit) × (Unit)) (κ0 : ((Int × (Int × Unit)) × (Int × Unit)) → Option R) : Option R :=
let i972 := x.1.1.1
let i973 := x.1.1.2.1
let i974 := x.1.1.2.2.1
let i975 := x.1.1.2.2.2.1
let i976 := x.1.1.2.2.2.2.1
let i977 := x.1.1.2.2.2.2.2.1
let i978 := x.1.1.2.2.2.2.2.2.1
let i979 := x.1.1.2.2.2.2.2.2.2.1
let i980 := x.1.2.1.1
let i981 := x.1.2.1.2.1
let i982 := x.1.2.2.1
let i983 := x.1.2.2.2.1
let i984 := x.1.2.2.2.2.1
let i985 := x.1.2.2.2.2.2.1
bif (decide (i974 > 0)) then (
q_29 (((i972, (i973, (i974, (i975, (i976, (i977, (i978, (i979, ())))))))), (i980, (i981, ())), ()), ()) (fun y1001 =>
let b1002 := y1001
bif b1002 then (
let i1003 : Int := subA .i64 i974 1
q_63 ((i982, 0, i1003, ()), ()) (fun y1004 =>
let b1005 : Bool := y1004
bif (!b1005) then (
κ0 (((0, (0, ())), (11, ())))) else (
q_30 (((i972, (i973, (i974, (i975, (i976, (i977, (i978, (i979, ())))))))), i980, i981, ()), ()) (fun y1006 =>
let i1007 : Int := y1006
let i1008 : Int := subA .i64 i978 1
q_63 ((i983, i1007, i1008, ()), ()) (fun y1009 =>
let b1010 : Bool := y1009
bif (!b1010) then (
κ0 (((0, (0, ())), (11, ())))) else (
q_67 (((i972, (i973, (i974, (i975, (i976, (i977, (i978, (i979, ())))))))), (i980, (i981, ())), i982, i985, ()), ()) (fun y1031 =>
let i1032 := y1031
q_68 (((i972, (i973, (i974, (i975, (i976, (i977, (i978, (i979, ())))))))), (i980, (i981, ())), i983, (i1032 == i982), ()), ()) (fun y1053 =>
let i1054 : Int := y1053
q_69 (((i972, (i973, (i974, (i975, (i976, (i977, (i978, (i979, ())))))))), (i980, (i981, ())), ()), ()) (fun y1067 =>
let i1068 : Int := y1067
q_70 ((i1054, i984, ()), ()) (fun y1104 =>
let i1105 : Int := y1104
let i1106 : Int := addA .i64 i1068 i1105
bif decide (i977 = 0) then none else (
let i1107 : Int := remA .i64 i1106 i977
κ0 (((i1032, (i1107, ())), (0, ())))))))))))))) else (
κ0 (((0, (0, ())), (11, ())))))) else (
κ0 (((0, (0, ())), (11, ()))))
def p_34 {R : Type} (N : Nat) (x : (Y0 × (Int × (Int × Unit)) × Int × Int × Int × Int × Unit) × (Unit)) (κ0 : ((Int × (Int × Unit)) × (Int × Unit)) → Option R) : Option R := Q_34 (p_29 N) (p_63 N) (p_30 N) (p_67 N) (p_68 N) (p_69 N) (p_70 N) x κ0
def EG_34 {R : Type} (q_29 : Tp_29 R) (q_63 : Tp_63 R) (q_30 : Tp_30 R) (q_67 : Tp_67 R) (q_68 : Tp_68 R) (q_69 : Tp_69 R) (q_70 : Tp_70 R) : Env R := (((((((Env.base QQ LN AA).add 29 ap_29 hp_29 (fun (x : aden ap_29 × hden hp_29) k => q_29 x (fun y => k (Pat.inst (.bool) y) (instH hp_29 x.2)))).add 63 ap_63 hp_63 (fun (x : aden ap_63 × hden hp_63) k => q_63 x (fun y => k (Pat.inst (.bool) y) (instH hp_63 x.2)))).add 30 ap_30 hp_30 (fun (x : aden ap_30 × hden hp_30) k => q_30 x (fun y => k (Pat.inst (.int .i64) y) (instH hp_30 x.2)))).add 67 ap_67 hp_67 (fun (x : aden ap_67 × hden hp_67) k => q_67 x (fun y => k (Pat.inst (.int .i64) y) (instH hp_67 x.2)))).add 68 ap_68 hp_68 (fun (x : aden ap_68 × hden hp_68) k => q_68 x (fun y => k (Pat.inst (.int .i64) y) (instH hp_68 x.2)))).add 69 ap_69 hp_69 (fun (x : aden ap_69 × hden hp_69) k => q_69 x (fun y => k (Pat.inst (.int .i64) y) (instH hp_69 x.2)))).add 70 ap_70 hp_70 (fun (x : aden ap_70 × hden hp_70) k => q_70 x (fun y => k (Pat.inst (.int .i64) y) (instH hp_70 x.2)))
def LG_34 {R : Type} : Loops R := Loops.none
def E_34 {R : Type} (N : Nat) : Env R := EG_34 (p_29 N) (p_63 N) (p_30 N) (p_67 N) (p_68 N) (p_69 N) (p_70 N)
theorem eok_34 {R : Type} (N : Nat) : EK Try.prog (E_34 (R := R) N) := ek_add (ek_add (ek_add (ek_add (ek_add (ek_add (ek_add (ek_base _ _ _) (good_29 N)) (good_63 N)) (good_30 N)) (good_67 N)) (good_68 N)) (good_69 N)) (good_70 N)
def L_34 {R : Type} (N : Nat) : Loops R := LG_34
theorem lok_34 {R : Type} (N : Nat) : LOK 0 TT (E_34 (R := R) N) (drawAny TT WW) (L_34 N) (bodyOf Try.f34) := loops_nil (by kernel_rfl)
theorem grun_34 {R : Type} (q_29 : Tp_29 R) (q_63 : Tp_63 R) (q_30 : Tp_30 R) (q_67 : Tp_67 R) (q_68 : Tp_68 R) (q_69 : Tp_69 R) (q_70 : Tp_70 R) (x : aden ap_34 × hden hp_34) (k : KF R) : fnrun TT (EG_34 q_29 q_63 q_30 q_67 q_68 q_69 q_70) (drawAny TT WW) (LG_34) true Try.f34 (instA ap_34 x.1) (instH hp_34 x.2) k = Q_34 q_29 q_63 q_30 q_67 q_68 q_69 q_70 x (fun y => k (Pat.inst (.tup (.fcons Z1 (.fcons (.int .i64) (.fnil)))) y) (instH hp_34 x.2)) := by kernel_rfl
theorem run_34 {R : Type} (N : Nat) (x : aden ap_34 × hden hp_34) (k : KF R) : fnrun TT (E_34 (R := R) N) (drawAny TT WW) (L_34 N) true Try.f34 (instA ap_34 x.1) (instH hp_34 x.2) k = p_34 N x (fun y => k (Pat.inst (.tup (.fcons Z1 (.fcons (.int .i64) (.fnil)))) y) (instH hp_34 x.2)) := (grun_34 (p_29 N) (p_63 N) (p_30 N) (p_67 N) (p_68 N) (p_69 N) (p_70 N) x k).trans (by kernel_rfl)
theorem good_34 {R : Type} (N : Nat) : GD (X := R) Try.prog QQ AA 34 ap_34 hp_34 (fun (x : aden ap_34 × hden hp_34) k => p_34 N x (fun y => k (Pat.inst (.tup (.fcons Z1 (.fcons (.int .i64) (.fnil)))) y) (instH hp_34 x.2))) :=
  gd_quiet (E := E_34 N) (p := fun (x : aden ap_34 × hden hp_34) κ => p_34 N x (fun y => κ (Pat.inst (.tup (.fcons Z1 (.fcons (.int .i64) (.fnil)))) y))) mixed tyok (eok_34 N) Try.func34 (by kernel_rfl) (by kernel_rfl) (lok_34 N) (fun x k => run_34 N x k)

def ap_35 : List Pat := [.ptr 0 [], .node (.fcons (.int .i64) (.fcons (.int .i64) (.fnil))), .int .i64, .int .i64, .ptr 4 []]
def hp_35 : List (Option (Pat × Nat)) := J3
abbrev Tp_35 (R : Type) : Type := (Unit × (Int × (Int × Unit)) × Int × Int × Unit × Unit) × Y13 → (((Y9 × (Int × Unit)) × Y13) → Option R) → Option R
def Q_35 {R : Type} (q_32 : Tp_32 R) (q_34 : Tp_34 R) (q_36 : Tp_36 R) (q_37 : Tp_37 R) (x : (Unit × (Int × (Int × Unit)) × Int × Int × Unit × Unit) × Y13) (κ0 : ((Y9 × (Int × Unit)) × Y13) → Option R) : Option R :=
let i446 := x.1.2.1.1
let i447 := x.1.2.1.2.1
let i448 := x.1.2.2.1
let i449 := x.1.2.2.2.1
let i450 := x.2.1.2.1.1
let i451 := x.2.1.2.1.2.1
let i452 := x.2.1.2.1.2.2.1
let i453 := x.2.1.2.1.2.2.2.1
let i454 := x.2.1.2.1.2.2.2.2.1
let i455 := x.2.1.2.1.2.2.2.2.2.1
let i456 := x.2.1.2.1.2.2.2.2.2.2.1
let i457 := x.2.1.2.1.2.2.2.2.2.2.2.1
let b458 := x.2.2.1.2.2.1
let i459 := x.2.2.2.1.1
let i460 := x.2.2.2.1.2.1
let i461 := x.2.2.2.1.2.2.1
let i462 := x.2.2.2.1.2.2.2.1
let l463 := x.2.2.2.2.1
let i464 := x.2.2.2.2.2.1.1.1
let i465 := x.2.2.2.2.2.1.1.2.1
let i466 := x.2.2.2.2.2.1.1.2.2.1
let i467 := x.2.2.2.2.2.1.1.2.2.2.1
let i468 := x.2.2.2.2.2.1.1.2.2.2.2.1
let i469 := x.2.2.2.2.2.1.1.2.2.2.2.2.1
let i470 := x.2.2.2.2.2.1.1.2.2.2.2.2.2.1
let i471 := x.2.2.2.2.2.1.1.2.2.2.2.2.2.2.1
let i472 := x.2.2.2.2.2.1.2.1.1
let i473 := x.2.2.2.2.2.1.2.1.2.1
let i474 := x.2.2.2.2.2.1.2.2.1
let i475 := x.2.2.2.2.2.1.2.2.2.1
let a476 := x.2.2.2.2.2.1.2.2.2.2.1
q_32 (((), (i446, (i447, ())), i448, i449, (), ()), (((), ((i450, (i451, (i452, (i453, (i454, (i455, (i456, (i457, ())))))))), ())), ((), ((), (b458, ()))), (i459, (i460, (i461, (i462, ())))), l463, ((i464, (i465, (i466, (i467, (i468, (i469, (i470, (i471, ())))))))), ((i472, (i473, ())), (i474, (i475, (a476, ()))))), ())) (fun y941 =>
let i942 := y941.1.1
let i943 := y941.1.2.1
let i944 := y941.1.2.2.1
let i945 := y941.2.1.2.1.1
let i946 := y941.2.1.2.1.2.1
let i947 := y941.2.1.2.1.2.2.1
let i948 := y941.2.1.2.1.2.2.2.1
let i949 := y941.2.1.2.1.2.2.2.2.1
let i950 := y941.2.1.2.1.2.2.2.2.2.1
let i951 := y941.2.1.2.1.2.2.2.2.2.2.1
let i952 := y941.2.1.2.1.2.2.2.2.2.2.2.1
let b953 := y941.2.2.1.2.2.1
let i954 := y941.2.2.2.1.1
let i955 := y941.2.2.2.1.2.1
let i956 := y941.2.2.2.1.2.2.1
let i957 := y941.2.2.2.1.2.2.2.1
let l958 := y941.2.2.2.2.1
let i959 := y941.2.2.2.2.2.1.1.1
let i960 := y941.2.2.2.2.2.1.1.2.1
let i961 := y941.2.2.2.2.2.1.1.2.2.1
let i962 := y941.2.2.2.2.2.1.1.2.2.2.1
let i963 := y941.2.2.2.2.2.1.1.2.2.2.2.1
let i964 := y941.2.2.2.2.2.1.1.2.2.2.2.2.1
let i965 := y941.2.2.2.2.2.1.1.2.2.2.2.2.2.1
let i966 := y941.2.2.2.2.2.1.1.2.2.2.2.2.2.2.1
let i967 := y941.2.2.2.2.2.1.2.1.1
let i968 := y941.2.2.2.2.2.1.2.1.2.1
let i969 := y941.2.2.2.2.2.1.2.2.1
let i970 := y941.2.2.2.2.2.1.2.2.2.1
let a971 := y941.2.2.2.2.2.1.2.2.2.2.1
bif (i944 != 0) then (
κ0 ((((0, (0, ())), ((0, (0, ())), ((0, (0, ())), ()))), (i944, ())), (((), ((i945, (i946, (i947, (i948, (i949, (i950, (i951, (i952, ())))))))), ())), ((), ((), (b953, ()))), (i954, (i955, (i956, (i957, ())))), l958, ((i959, (i960, (i961, (i962, (i963, (i964, (i965, (i966, ())))))))), ((i967, (i968, ())), (i969, (i970, (a971, ()))))), ()))) else (
q_34 (((i945, (i946, (i947, (i948, (i949, (i950, (i951, (i952, ())))))))), (i446, (i447, ())), i448, i449, i942, i943, ()), ()) (fun y1108 =>
let i1109 := y1108.1.1
let i1110 := y1108.1.2.1
let i1111 := y1108.2.1
bif (i1111 != 0) then (
κ0 ((((0, (0, ())), ((0, (0, ())), ((0, (0, ())), ()))), (i1111, ())), (((), ((i945, (i946, (i947, (i948, (i949, (i950, (i951, (i952, ())))))))), ())), ((), ((), (b953, ()))), (i954, (i955, (i956, (i957, ())))), l958, ((i959, (i960, (i961, (i962, (i963, (i964, (i965, (i966, ())))))))), ((i967, (i968, ())), (i969, (i970, (a971, ()))))), ()))) else (
q_36 (((i945, (i946, (i947, (i948, (i949, (i950, (i951, (i952, ())))))))), i447, i449, ()), ()) (fun y1112 =>
let i1113 := y1112
q_37 (((i945, (i946, (i947, (i948, (i949, (i950, (i951, (i952, ())))))))), i1113, ()), ()) (fun y1114 =>
let i1115 : Int := y1114
κ0 ((((i448, (i1113, ())), ((i448, (i1115, ())), ((i1109, (i1110, ())), ()))), (0, ())), (((), ((i945, (i946, (i947, (i948, (i949, (i950, (i951, (i952, ())))))))), ())), ((), ((), (b953, ()))), (i954, (i955, (i956, (i957, ())))), l958, ((i959, (i960, (i961, (i962, (i963, (i964, (i965, (i966, ())))))))), ((i967, (i968, ())), (i969, (i970, (a971, ()))))), ()))))))))
def p_35 {R : Type} (N : Nat) (x : (Unit × (Int × (Int × Unit)) × Int × Int × Unit × Unit) × Y13) (κ0 : ((Y9 × (Int × Unit)) × Y13) → Option R) : Option R := Q_35 (p_32 N) (p_34 N) (p_36 N) (p_37 N) x κ0
def EG_35 {R : Type} (q_32 : Tp_32 R) (q_34 : Tp_34 R) (q_36 : Tp_36 R) (q_37 : Tp_37 R) : Env R := ((((Env.base QQ LN AA).add 32 ap_32 hp_32 (fun (x : aden ap_32 × hden hp_32) k => q_32 x (fun y => k (Pat.inst (.tup (.fcons (.int .u32) (.fcons (.int .u32) (.fcons (.int .i64) (.fnil))))) y.1) (instH J3 y.2)))).add 34 ap_34 hp_34 (fun (x : aden ap_34 × hden hp_34) k => q_34 x (fun y => k (Pat.inst (.tup (.fcons Z1 (.fcons (.int .i64) (.fnil)))) y) (instH hp_34 x.2)))).add 36 ap_36 hp_36 (fun (x : aden ap_36 × hden hp_36) k => q_36 x (fun y => k (Pat.inst (.int .i64) y) (instH hp_36 x.2)))).add 37 ap_37 hp_37 (fun (x : aden ap_37 × hden hp_37) k => q_37 x (fun y => k (Pat.inst (.int .i64) y) (instH hp_37 x.2)))
def LG_35 {R : Type} : Loops R := Loops.none
def E_35 {R : Type} (N : Nat) : Env R := EG_35 (p_32 N) (p_34 N) (p_36 N) (p_37 N)
theorem eok_35 {R : Type} (N : Nat) : EK Try.prog (E_35 (R := R) N) := ek_add (ek_add (ek_add (ek_add (ek_base _ _ _) (good_32 N)) (good_34 N)) (good_36 N)) (good_37 N)
def L_35 {R : Type} (N : Nat) : Loops R := LG_35
theorem lok_35 {R : Type} (N : Nat) : LOK 5 TT (E_35 (R := R) N) (drawAny TT WW) (L_35 N) (bodyOf Try.f35) := loops_nil (by kernel_rfl)
theorem grun_35 {R : Type} (q_32 : Tp_32 R) (q_34 : Tp_34 R) (q_36 : Tp_36 R) (q_37 : Tp_37 R) (x : aden ap_35 × hden hp_35) (k : KF R) : fnrun TT (EG_35 q_32 q_34 q_36 q_37) (drawAny TT WW) (LG_35) true Try.f35 (instA ap_35 x.1) (instH hp_35 x.2) k = Q_35 q_32 q_34 q_36 q_37 x (fun y => k (Pat.inst (.tup (.fcons (.node (.fcons Z1 (.fcons Z1 (.fcons Z1 (.fnil))))) (.fcons (.int .i64) (.fnil)))) y.1) (instH J3 y.2)) := by kernel_rfl
theorem run_35 {R : Type} (N : Nat) (x : aden ap_35 × hden hp_35) (k : KF R) : fnrun TT (E_35 (R := R) N) (drawAny TT WW) (L_35 N) true Try.f35 (instA ap_35 x.1) (instH hp_35 x.2) k = p_35 N x (fun y => k (Pat.inst (.tup (.fcons (.node (.fcons Z1 (.fcons Z1 (.fcons Z1 (.fnil))))) (.fcons (.int .i64) (.fnil)))) y.1) (instH J3 y.2)) := (grun_35 (p_32 N) (p_34 N) (p_36 N) (p_37 N) x k).trans (by kernel_rfl)
theorem good_35 {R : Type} (N : Nat) : GD (X := R) Try.prog QQ AA 35 ap_35 hp_35 (fun (x : aden ap_35 × hden hp_35) k => p_35 N x (fun y => k (Pat.inst (.tup (.fcons (.node (.fcons Z1 (.fcons Z1 (.fcons Z1 (.fnil))))) (.fcons (.int .i64) (.fnil)))) y.1) (instH J3 y.2))) :=
  gd_loud (E := E_35 N) (p := fun (x : aden ap_35 × hden hp_35) k => p_35 N x (fun y => k (Pat.inst (.tup (.fcons (.node (.fcons Z1 (.fcons Z1 (.fcons Z1 (.fnil))))) (.fcons (.int .i64) (.fnil)))) y.1) (instH J3 y.2))) mixed tyok (eok_35 N) Try.func35 (by kernel_rfl) (by kernel_rfl) (by kernel_rfl) (by kernel_rfl) (lok_35 N) (fun x k => run_35 N x k)

def ap_75 : List Pat := [.vec (.int .u64) 128, .vec (.int .u64) 128, .sl 0]
def hp_75 : List (Option (Pat × Nat)) := [some (.lst (.arr 128 (.int .u64)), 29)]
abbrev Tp_75 (R : Type) : Type := ((Nat → Int) × (Nat → Int) × Unit × Unit) × ((List (Nat → Int)) × Unit) → ((Nat → Int) → Option R) → Option R
def Q_75 {R : Type} (q_95 : Tp_95 R) (q_48 : Tp_48 R) (x : ((Nat → Int) × (Nat → Int) × Unit × Unit) × ((List (Nat → Int)) × Unit)) (κ0 : (Nat → Int) → Option R) : Option R :=
let a1184 := x.1.1
let a1185 := x.1.2.1
let l1186 := x.2.1
q_95 ((a1184, a1185, ()), ()) (fun y1187 =>
let a1188 : (Nat → Int) := y1187
let l1189 : (List (Nat → Int)) := [a1188]
bif (decide ((List.length l1189 + List.length l1186) * 1024 ≤ 140737488355328) && true) then (
let l1190 : (List (Nat → Int)) := (l1189 ++ l1186)
q_48 ((l1190, ()), ()) (fun y1191 =>
let a1192 := y1191
κ0 a1192)) else none)
def p_75 {R : Type} (N : Nat) (x : ((Nat → Int) × (Nat → Int) × Unit × Unit) × ((List (Nat → Int)) × Unit)) (κ0 : (Nat → Int) → Option R) : Option R := Q_75 (p_95 N) (p_48 N) x κ0
def EG_75 {R : Type} (q_95 : Tp_95 R) (q_48 : Tp_48 R) : Env R := ((Env.base QQ LN AA).add 95 ap_95 hp_95 (fun (x : aden ap_95 × hden hp_95) k => q_95 x (fun y => k (Pat.inst (.vec (.int .u64) 128) y) (instH hp_95 x.2)))).add 48 ap_48 hp_48 (fun (x : aden ap_48 × hden hp_48) k => q_48 x (fun y => k (Pat.inst (.vec (.int .u64) 128) y) (instH hp_48 x.2)))
def LG_75 {R : Type} : Loops R := Loops.none
def E_75 {R : Type} (N : Nat) : Env R := EG_75 (p_95 N) (p_48 N)
theorem eok_75 {R : Type} (N : Nat) : EK Try.prog (E_75 (R := R) N) := ek_add (ek_add (ek_base _ _ _) (good_95 N)) (good_48 N)
def L_75 {R : Type} (N : Nat) : Loops R := LG_75
theorem lok_75 {R : Type} (N : Nat) : LOK 1 TT (E_75 (R := R) N) (drawAny TT WW) (L_75 N) (bodyOf Try.f75) := loops_nil (by kernel_rfl)
theorem grun_75 {R : Type} (q_95 : Tp_95 R) (q_48 : Tp_48 R) (x : aden ap_75 × hden hp_75) (k : KF R) : fnrun TT (EG_75 q_95 q_48) (drawAny TT WW) (LG_75) true Try.f75 (instA ap_75 x.1) (instH hp_75 x.2) k = Q_75 q_95 q_48 x (fun y => k (Pat.inst (.vec (.int .u64) 128) y) (instH hp_75 x.2)) := by kernel_rfl
theorem run_75 {R : Type} (N : Nat) (x : aden ap_75 × hden hp_75) (k : KF R) : fnrun TT (E_75 (R := R) N) (drawAny TT WW) (L_75 N) true Try.f75 (instA ap_75 x.1) (instH hp_75 x.2) k = p_75 N x (fun y => k (Pat.inst (.vec (.int .u64) 128) y) (instH hp_75 x.2)) := (grun_75 (p_95 N) (p_48 N) x k).trans (by kernel_rfl)
theorem good_75 {R : Type} (N : Nat) : GD (X := R) Try.prog QQ AA 75 ap_75 hp_75 (fun (x : aden ap_75 × hden hp_75) k => p_75 N x (fun y => k (Pat.inst (.vec (.int .u64) 128) y) (instH hp_75 x.2))) :=
  gd_quiet (E := E_75 N) (p := fun (x : aden ap_75 × hden hp_75) κ => p_75 N x (fun y => κ (Pat.inst (.vec (.int .u64) 128) y))) mixed tyok (eok_75 N) Try.func75 (by kernel_rfl) (by kernel_rfl) (lok_75 N) (fun x k => run_75 N x k)

def ap_51 : List Pat := [.ptr 0 [], .int .i64, .vec (.int .u64) 128]
def hp_51 : List (Option (Pat × Nat)) := J4
abbrev Tp_51 (R : Type) : Type := (Unit × Int × (Nat → Int) × Unit) × (Y5 × Y2 × (List (Nat → Int)) × Unit) → ((Int × (Y5 × Y2 × (List (Nat → Int)) × Unit)) → Option R) → Option R
def Q_51 {R : Type} (q_47 : Tp_47 R) (x : (Unit × Int × (Nat → Int) × Unit) × (Y5 × Y2 × (List (Nat → Int)) × Unit)) (κ0 : (Int × (Y5 × Y2 × (List (Nat → Int)) × Unit)) → Option R) : Option R :=
let i1214 := x.1.2.1
let a1215 := x.1.2.2.1
let b1216 := x.2.1.2.2.1
let i1217 := x.2.2.1.1
let i1218 := x.2.2.1.2.1
let i1219 := x.2.2.1.2.2.1
let i1220 := x.2.2.1.2.2.2.1
let l1221 := x.2.2.2.1
q_47 (((), i1214, ()), (((), ((), (b1216, ()))), (i1217, (i1218, (i1219, (i1220, ())))), l1221, ())) (fun y1222 =>
let a1223 := y1222.1
let i1224 := y1222.2.1
bif (i1224 != 0) then (
κ0 (i1224, (((), ((), (b1216, ()))), (i1217, (i1218, (i1219, (i1220, ())))), l1221, ()))) else (
bif decide (0 ≤ i1214) then (
bif decide (i1214 < ((List.length l1221) : Int)) then (
let l1225 : (List (Nat → Int)) := (List.set l1221 ((Int.toNat i1214)) a1215)
κ0 (0, (((), ((), (b1216, ()))), (i1217, (i1218, (i1219, (i1220, ())))), l1225, ()))) else none) else none))
def p_51 {R : Type} (N : Nat) (x : (Unit × Int × (Nat → Int) × Unit) × (Y5 × Y2 × (List (Nat → Int)) × Unit)) (κ0 : (Int × (Y5 × Y2 × (List (Nat → Int)) × Unit)) → Option R) : Option R := Q_51 (p_47 N) x κ0
def EG_51 {R : Type} (q_47 : Tp_47 R) : Env R := (Env.base QQ LN AA).add 47 ap_47 hp_47 (fun (x : aden ap_47 × hden hp_47) k => q_47 x (fun y => k (Pat.inst (.tup (.fcons (.vec (.int .u64) 128) (.fcons (.int .i64) (.fnil)))) y) (instH hp_47 x.2)))
def LG_51 {R : Type} : Loops R := Loops.none
def E_51 {R : Type} (N : Nat) : Env R := EG_51 (p_47 N)
theorem eok_51 {R : Type} (N : Nat) : EK Try.prog (E_51 (R := R) N) := ek_add (ek_base _ _ _) (good_47 N)
def L_51 {R : Type} (N : Nat) : Loops R := LG_51
theorem lok_51 {R : Type} (N : Nat) : LOK 3 TT (E_51 (R := R) N) (drawAny TT WW) (L_51 N) (bodyOf Try.f51) := loops_nil (by kernel_rfl)
theorem grun_51 {R : Type} (q_47 : Tp_47 R) (x : aden ap_51 × hden hp_51) (k : KF R) : fnrun TT (EG_51 q_47) (drawAny TT WW) (LG_51) true Try.f51 (instA ap_51 x.1) (instH hp_51 x.2) k = Q_51 q_47 x (fun y => k (Pat.inst (.int .i64) y.1) (instH J4 y.2)) := by kernel_rfl
theorem run_51 {R : Type} (N : Nat) (x : aden ap_51 × hden hp_51) (k : KF R) : fnrun TT (E_51 (R := R) N) (drawAny TT WW) (L_51 N) true Try.f51 (instA ap_51 x.1) (instH hp_51 x.2) k = p_51 N x (fun y => k (Pat.inst (.int .i64) y.1) (instH J4 y.2)) := (grun_51 (p_47 N) x k).trans (by kernel_rfl)
theorem good_51 {R : Type} (N : Nat) : GD (X := R) Try.prog QQ AA 51 ap_51 hp_51 (fun (x : aden ap_51 × hden hp_51) k => p_51 N x (fun y => k (Pat.inst (.int .i64) y.1) (instH J4 y.2))) :=
  gd_loud (E := E_51 N) (p := fun (x : aden ap_51 × hden hp_51) k => p_51 N x (fun y => k (Pat.inst (.int .i64) y.1) (instH J4 y.2))) mixed tyok (eok_51 N) Try.func51 (by kernel_rfl) (by kernel_rfl) (by kernel_rfl) (by kernel_rfl) (lok_51 N) (fun x k => run_51 N x k)

def ap_12 : List Pat := [.ptr 0 [], .node (.fcons (.int .i64) (.fcons (.int .i64) (.fnil))), .vec (.int .u64) 128]
def hp_12 : List (Option (Pat × Nat)) := J1
abbrev Tp_12 (R : Type) : Type := (Unit × (Int × (Int × Unit)) × (Nat → Int) × Unit) × Y7 → ((Int × Y7) → Option R) → Option R
def Q_12 {R : Type} (q_46 : Tp_46 R) (q_51 : Tp_51 R) (x : (Unit × (Int × (Int × Unit)) × (Nat → Int) × Unit) × Y7) (κ0 : (Int × Y7) → Option R) : Option R :=
let i1195 := x.1.2.1.1
let i1196 := x.1.2.1.2.1
let a1197 := x.1.2.2.1
let i1198 := x.2.1.2.1.1
let i1199 := x.2.1.2.1.2.1
let i1200 := x.2.1.2.1.2.2.1
let i1201 := x.2.1.2.1.2.2.2.1
let i1202 := x.2.1.2.1.2.2.2.2.1
let i1203 := x.2.1.2.1.2.2.2.2.2.1
let i1204 := x.2.1.2.1.2.2.2.2.2.2.1
let i1205 := x.2.1.2.1.2.2.2.2.2.2.2.1
let b1206 := x.2.2.1.2.2.1
let i1207 := x.2.2.2.1.1
let i1208 := x.2.2.2.1.2.1
let i1209 := x.2.2.2.1.2.2.1
let i1210 := x.2.2.2.1.2.2.2.1
let l1211 := x.2.2.2.2.1
q_46 (((), (i1195, (i1196, ())), ()), (((), ((i1198, (i1199, (i1200, (i1201, (i1202, (i1203, (i1204, (i1205, ())))))))), ())), ((), ((), (b1206, ()))), (i1207, (i1208, (i1209, (i1210, ())))), l1211, ())) (fun y1212 =>
let i1213 := y1212
bif (decide (i1213 < 0)) then (
κ0 (11, (((), ((i1198, (i1199, (i1200, (i1201, (i1202, (i1203, (i1204, (i1205, ())))))))), ())), ((), ((), (b1206, ()))), (i1207, (i1208, (i1209, (i1210, ())))), l1211, ()))) else (
q_51 (((), i1213, a1197, ()), (((), ((), (b1206, ()))), (i1207, (i1208, (i1209, (i1210, ())))), l1211, ())) (fun y1226 =>
let i1227 := y1226.1
let b1228 := y1226.2.1.2.2.1
let i1229 := y1226.2.2.1.1
let i1230 := y1226.2.2.1.2.1
let i1231 := y1226.2.2.1.2.2.1
let i1232 := y1226.2.2.1.2.2.2.1
let l1233 := y1226.2.2.2.1
κ0 (i1227, (((), ((i1198, (i1199, (i1200, (i1201, (i1202, (i1203, (i1204, (i1205, ())))))))), ())), ((), ((), (b1228, ()))), (i1229, (i1230, (i1231, (i1232, ())))), l1233, ())))))
def p_12 {R : Type} (N : Nat) (x : (Unit × (Int × (Int × Unit)) × (Nat → Int) × Unit) × Y7) (κ0 : (Int × Y7) → Option R) : Option R := Q_12 (p_46 N) (p_51 N) x κ0
def EG_12 {R : Type} (q_46 : Tp_46 R) (q_51 : Tp_51 R) : Env R := ((Env.base QQ LN AA).add 46 ap_46 hp_46 (fun (x : aden ap_46 × hden hp_46) k => q_46 x (fun y => k (Pat.inst (.int .i64) y) (instH hp_46 x.2)))).add 51 ap_51 hp_51 (fun (x : aden ap_51 × hden hp_51) k => q_51 x (fun y => k (Pat.inst (.int .i64) y.1) (instH J4 y.2)))
def LG_12 {R : Type} : Loops R := Loops.none
def E_12 {R : Type} (N : Nat) : Env R := EG_12 (p_46 N) (p_51 N)
theorem eok_12 {R : Type} (N : Nat) : EK Try.prog (E_12 (R := R) N) := ek_add (ek_add (ek_base _ _ _) (good_46 N)) (good_51 N)
def L_12 {R : Type} (N : Nat) : Loops R := LG_12
theorem lok_12 {R : Type} (N : Nat) : LOK 4 TT (E_12 (R := R) N) (drawAny TT WW) (L_12 N) (bodyOf Try.f12) := loops_nil (by kernel_rfl)
theorem grun_12 {R : Type} (q_46 : Tp_46 R) (q_51 : Tp_51 R) (x : aden ap_12 × hden hp_12) (k : KF R) : fnrun TT (EG_12 q_46 q_51) (drawAny TT WW) (LG_12) true Try.f12 (instA ap_12 x.1) (instH hp_12 x.2) k = Q_12 q_46 q_51 x (fun y => k (Pat.inst (.int .i64) y.1) (instH J1 y.2)) := by kernel_rfl
theorem run_12 {R : Type} (N : Nat) (x : aden ap_12 × hden hp_12) (k : KF R) : fnrun TT (E_12 (R := R) N) (drawAny TT WW) (L_12 N) true Try.f12 (instA ap_12 x.1) (instH hp_12 x.2) k = p_12 N x (fun y => k (Pat.inst (.int .i64) y.1) (instH J1 y.2)) := (grun_12 (p_46 N) (p_51 N) x k).trans (by kernel_rfl)
theorem good_12 {R : Type} (N : Nat) : GD (X := R) Try.prog QQ AA 12 ap_12 hp_12 (fun (x : aden ap_12 × hden hp_12) k => p_12 N x (fun y => k (Pat.inst (.int .i64) y.1) (instH J1 y.2))) :=
  gd_loud (E := E_12 N) (p := fun (x : aden ap_12 × hden hp_12) k => p_12 N x (fun y => k (Pat.inst (.int .i64) y.1) (instH J1 y.2))) mixed tyok (eok_12 N) Try.func12 (by kernel_rfl) (by kernel_rfl) (by kernel_rfl) (by kernel_rfl) (lok_12 N) (fun x k => run_12 N x k)

def ap_39 : List Pat := [.ptr 0 [], .node (.fcons (.int .i64) (.fcons (.int .i64) (.fnil))), .node (.fcons Z1 (.fcons Z1 (.fcons Z1 (.fnil))))]
def hp_39 : List (Option (Pat × Nat)) := J1
abbrev Tp_39 (R : Type) : Type := (Unit × (Int × (Int × Unit)) × Y9 × Unit) × Y7 → ((Int × Y7) → Option R) → Option R
def Q_39 {R : Type} (q_9 : Tp_9 R) (q_75 : Tp_75 R) (q_12 : Tp_12 R) (x : (Unit × (Int × (Int × Unit)) × Y9 × Unit) × Y7) (κ0 : (Int × Y7) → Option R) : Option R :=
let i1151 := x.1.2.1.1
let i1152 := x.1.2.1.2.1
let i1153 := x.1.2.2.1.1.1
let i1154 := x.1.2.2.1.1.2.1
let i1155 := x.1.2.2.1.2.1.1
let i1156 := x.1.2.2.1.2.1.2.1
let i1157 := x.1.2.2.1.2.2.1.1
let i1158 := x.1.2.2.1.2.2.1.2.1
let i1159 := x.2.1.2.1.1
let i1160 := x.2.1.2.1.2.1
let i1161 := x.2.1.2.1.2.2.1
let i1162 := x.2.1.2.1.2.2.2.1
let i1163 := x.2.1.2.1.2.2.2.2.1
let i1164 := x.2.1.2.1.2.2.2.2.2.1
let i1165 := x.2.1.2.1.2.2.2.2.2.2.1
let i1166 := x.2.1.2.1.2.2.2.2.2.2.2.1
let b1167 := x.2.2.1.2.2.1
let i1168 := x.2.2.2.1.1
let i1169 := x.2.2.2.1.2.1
let i1170 := x.2.2.2.1.2.2.1
let i1171 := x.2.2.2.1.2.2.2.1
let l1172 := x.2.2.2.2.1
q_9 (((), (i1155, (i1156, ())), ()), (((), ((i1159, (i1160, (i1161, (i1162, (i1163, (i1164, (i1165, (i1166, ())))))))), ())), ((), ((), (b1167, ()))), (i1168, (i1169, (i1170, (i1171, ())))), l1172, ())) (fun y1173 =>
let a1174 := y1173.1
let i1175 := y1173.2.1
bif (i1175 != 0) then (
κ0 (i1175, (((), ((i1159, (i1160, (i1161, (i1162, (i1163, (i1164, (i1165, (i1166, ())))))))), ())), ((), ((), (b1167, ()))), (i1168, (i1169, (i1170, (i1171, ())))), l1172, ()))) else (
q_9 (((), (i1157, (i1158, ())), ()), (((), ((i1159, (i1160, (i1161, (i1162, (i1163, (i1164, (i1165, (i1166, ())))))))), ())), ((), ((), (b1167, ()))), (i1168, (i1169, (i1170, (i1171, ())))), l1172, ())) (fun y1176 =>
let a1177 := y1176.1
let i1178 := y1176.2.1
bif (i1178 != 0) then (
κ0 (i1178, (((), ((i1159, (i1160, (i1161, (i1162, (i1163, (i1164, (i1165, (i1166, ())))))))), ())), ((), ((), (b1167, ()))), (i1168, (i1169, (i1170, (i1171, ())))), l1172, ()))) else (
q_9 (((), (i1153, (i1154, ())), ()), (((), ((i1159, (i1160, (i1161, (i1162, (i1163, (i1164, (i1165, (i1166, ())))))))), ())), ((), ((), (b1167, ()))), (i1168, (i1169, (i1170, (i1171, ())))), l1172, ())) (fun y1179 =>
let a1180 := y1179.1
let i1181 := y1179.2.1
bif (i1181 != 0) then (
κ0 (i1181, (((), ((i1159, (i1160, (i1161, (i1162, (i1163, (i1164, (i1165, (i1166, ())))))))), ())), ((), ((), (b1167, ()))), (i1168, (i1169, (i1170, (i1171, ())))), l1172, ()))) else (
bif (i1151 == 0) then (
let a1182 : (Nat → Int) := (Sch.zero (.arr 128 (.int .u64)))
let l1183 : (List (Nat → Int)) := [a1182]
q_75 ((a1174, a1177, (), ()), (l1183, ())) (fun y1193 =>
let a1194 : (Nat → Int) := y1193
q_12 (((), (i1153, (i1154, ())), a1194, ()), (((), ((i1159, (i1160, (i1161, (i1162, (i1163, (i1164, (i1165, (i1166, ())))))))), ())), ((), ((), (b1167, ()))), (i1168, (i1169, (i1170, (i1171, ())))), l1172, ())) (fun y1234 =>
let i1235 := y1234.1
let i1236 := y1234.2.1.2.1.1
let i1237 := y1234.2.1.2.1.2.1
let i1238 := y1234.2.1.2.1.2.2.1
let i1239 := y1234.2.1.2.1.2.2.2.1
let i1240 := y1234.2.1.2.1.2.2.2.2.1
let i1241 := y1234.2.1.2.1.2.2.2.2.2.1
let i1242 := y1234.2.1.2.1.2.2.2.2.2.2.1
let i1243 := y1234.2.1.2.1.2.2.2.2.2.2.2.1
let b1244 := y1234.2.2.1.2.2.1
let i1245 := y1234.2.2.2.1.1
let i1246 := y1234.2.2.2.1.2.1
let i1247 := y1234.2.2.2.1.2.2.1
let i1248 := y1234.2.2.2.1.2.2.2.1
let l1249 := y1234.2.2.2.2.1
κ0 (i1235, (((), ((i1236, (i1237, (i1238, (i1239, (i1240, (i1241, (i1242, (i1243, ())))))))), ())), ((), ((), (b1244, ()))), (i1245, (i1246, (i1247, (i1248, ())))), l1249, ()))))) else (
let l1250 : (List (Nat → Int)) := [a1180]
q_75 ((a1174, a1177, (), ()), (l1250, ())) (fun y1251 =>
let a1252 := y1251
q_12 (((), (i1153, (i1154, ())), a1252, ()), (((), ((i1159, (i1160, (i1161, (i1162, (i1163, (i1164, (i1165, (i1166, ())))))))), ())), ((), ((), (b1167, ()))), (i1168, (i1169, (i1170, (i1171, ())))), l1172, ())) (fun y1253 =>
let i1254 := y1253.1
let i1255 := y1253.2.1.2.1.1
let i1256 := y1253.2.1.2.1.2.1
let i1257 := y1253.2.1.2.1.2.2.1
let i1258 := y1253.2.1.2.1.2.2.2.1
let i1259 := y1253.2.1.2.1.2.2.2.2.1
let i1260 := y1253.2.1.2.1.2.2.2.2.2.1
let i1261 := y1253.2.1.2.1.2.2.2.2.2.2.1
let i1262 := y1253.2.1.2.1.2.2.2.2.2.2.2.1
let b1263 := y1253.2.2.1.2.2.1
let i1264 := y1253.2.2.2.1.1
let i1265 := y1253.2.2.2.1.2.1
let i1266 := y1253.2.2.2.1.2.2.1
let i1267 := y1253.2.2.2.1.2.2.2.1
let l1268 := y1253.2.2.2.2.1
κ0 (i1254, (((), ((i1255, (i1256, (i1257, (i1258, (i1259, (i1260, (i1261, (i1262, ())))))))), ())), ((), ((), (b1263, ()))), (i1264, (i1265, (i1266, (i1267, ())))), l1268, ())))))))))))
def p_39 {R : Type} (N : Nat) (x : (Unit × (Int × (Int × Unit)) × Y9 × Unit) × Y7) (κ0 : (Int × Y7) → Option R) : Option R := Q_39 (p_9 N) (p_75 N) (p_12 N) x κ0
def EG_39 {R : Type} (q_9 : Tp_9 R) (q_75 : Tp_75 R) (q_12 : Tp_12 R) : Env R := (((Env.base QQ LN AA).add 9 ap_9 hp_9 (fun (x : aden ap_9 × hden hp_9) k => q_9 x (fun y => k (Pat.inst (.tup (.fcons (.vec (.int .u64) 128) (.fcons (.int .i64) (.fnil)))) y) (instH hp_9 x.2)))).add 75 ap_75 hp_75 (fun (x : aden ap_75 × hden hp_75) k => q_75 x (fun y => k (Pat.inst (.vec (.int .u64) 128) y) (instH hp_75 x.2)))).add 12 ap_12 hp_12 (fun (x : aden ap_12 × hden hp_12) k => q_12 x (fun y => k (Pat.inst (.int .i64) y.1) (instH J1 y.2)))
def LG_39 {R : Type} : Loops R := Loops.none
def E_39 {R : Type} (N : Nat) : Env R := EG_39 (p_9 N) (p_75 N) (p_12 N)
theorem eok_39 {R : Type} (N : Nat) : EK Try.prog (E_39 (R := R) N) := ek_add (ek_add (ek_add (ek_base _ _ _) (good_9 N)) (good_75 N)) (good_12 N)
def L_39 {R : Type} (N : Nat) : Loops R := LG_39
theorem lok_39 {R : Type} (N : Nat) : LOK 4 TT (E_39 (R := R) N) (drawAny TT WW) (L_39 N) (bodyOf Try.f39) := loops_nil (by kernel_rfl)
theorem grun_39 {R : Type} (q_9 : Tp_9 R) (q_75 : Tp_75 R) (q_12 : Tp_12 R) (x : aden ap_39 × hden hp_39) (k : KF R) : fnrun TT (EG_39 q_9 q_75 q_12) (drawAny TT WW) (LG_39) true Try.f39 (instA ap_39 x.1) (instH hp_39 x.2) k = Q_39 q_9 q_75 q_12 x (fun y => k (Pat.inst (.int .i64) y.1) (instH J1 y.2)) := by kernel_rfl
theorem run_39 {R : Type} (N : Nat) (x : aden ap_39 × hden hp_39) (k : KF R) : fnrun TT (E_39 (R := R) N) (drawAny TT WW) (L_39 N) true Try.f39 (instA ap_39 x.1) (instH hp_39 x.2) k = p_39 N x (fun y => k (Pat.inst (.int .i64) y.1) (instH J1 y.2)) := (grun_39 (p_9 N) (p_75 N) (p_12 N) x k).trans (by kernel_rfl)
theorem good_39 {R : Type} (N : Nat) : GD (X := R) Try.prog QQ AA 39 ap_39 hp_39 (fun (x : aden ap_39 × hden hp_39) k => p_39 N x (fun y => k (Pat.inst (.int .i64) y.1) (instH J1 y.2))) :=
  gd_loud (E := E_39 N) (p := fun (x : aden ap_39 × hden hp_39) k => p_39 N x (fun y => k (Pat.inst (.int .i64) y.1) (instH J1 y.2))) mixed tyok (eok_39 N) Try.func39 (by kernel_rfl) (by kernel_rfl) (by kernel_rfl) (by kernel_rfl) (lok_39 N) (fun x k => run_39 N x k)

def ap_27_v1 : List Pat := [.ptr 0 []]
def hp_27_v1 : List (Option (Pat × Nat)) := J0
abbrev Tp_27_v1 (R : Type) : Type := (Unit × Unit) × Y1 → ((((Int × (Int × Y9)) × (Int × Unit)) × Y1) → Option R) → Option R
def Q_27_v1 {R : Type} (q_35 : Tp_35 R) (q_39 : Tp_39 R) (x : (Unit × Unit) × Y1) (κ0 : (((Int × (Int × Y9)) × (Int × Unit)) × Y1) → Option R) : Option R :=
let i406 := x.2.1.2.1
let i407 := x.2.1.2.2.1.1
let i408 := x.2.1.2.2.1.2.1
let i409 := x.2.1.2.2.2.1
let i410 := x.2.1.2.2.2.2.2.1.1.1
let i411 := x.2.1.2.2.2.2.2.1.1.2.1
let i412 := x.2.1.2.2.2.2.2.1.2.1.1
let i413 := x.2.1.2.2.2.2.2.1.2.1.2.1
let i414 := x.2.1.2.2.2.2.2.1.2.2.1.1
let i415 := x.2.1.2.2.2.2.2.1.2.2.1.2.1
let b416 := x.2.1.2.2.2.2.2.2.1
let b417 := x.2.1.2.2.2.2.2.2.2.1
let b418 := x.2.1.2.2.2.2.2.2.2.2.1
let i419 := x.2.2.1.2.1.1
let i420 := x.2.2.1.2.1.2.1
let i421 := x.2.2.1.2.1.2.2.1
let i422 := x.2.2.1.2.1.2.2.2.1
let i423 := x.2.2.1.2.1.2.2.2.2.1
let i424 := x.2.2.1.2.1.2.2.2.2.2.1
let i425 := x.2.2.1.2.1.2.2.2.2.2.2.1
let i426 := x.2.2.1.2.1.2.2.2.2.2.2.2.1
let b427 := x.2.2.2.1.2.2.1
let i428 := x.2.2.2.2.1.1
let i429 := x.2.2.2.2.1.2.1
let i430 := x.2.2.2.2.1.2.2.1
let i431 := x.2.2.2.2.1.2.2.2.1
let l432 := x.2.2.2.2.2.1
let i433 := x.2.2.2.2.2.2.1.1.1
let i434 := x.2.2.2.2.2.2.1.1.2.1
let i435 := x.2.2.2.2.2.2.1.1.2.2.1
let i436 := x.2.2.2.2.2.2.1.1.2.2.2.1
let i437 := x.2.2.2.2.2.2.1.1.2.2.2.2.1
let i438 := x.2.2.2.2.2.2.1.1.2.2.2.2.2.1
let i439 := x.2.2.2.2.2.2.1.1.2.2.2.2.2.2.1
let i440 := x.2.2.2.2.2.2.1.1.2.2.2.2.2.2.2.1
let i441 := x.2.2.2.2.2.2.1.2.1.1
let i442 := x.2.2.2.2.2.2.1.2.1.2.1
let i443 := x.2.2.2.2.2.2.1.2.2.1
let i444 := x.2.2.2.2.2.2.1.2.2.2.1
let a445 := x.2.2.2.2.2.2.1.2.2.2.2.1
bif b418 then (
κ0 (((0, (0, ((0, (0, ())), ((0, (0, ())), ((0, (0, ())), ()))))), (12, ())), (((), (i406, ((i407, (i408, ())), (i409, ((), (((i410, (i411, ())), ((i412, (i413, ())), ((i414, (i415, ())), ()))), (b416, (b417, (b418, ()))))))))), ((), ((i419, (i420, (i421, (i422, (i423, (i424, (i425, (i426, ())))))))), ())), ((), ((), (b427, ()))), (i428, (i429, (i430, (i431, ())))), l432, ((i433, (i434, (i435, (i436, (i437, (i438, (i439, (i440, ())))))))), ((i441, (i442, ())), (i443, (i444, (a445, ()))))), ()))) else (
bif b417 then (
κ0 (((0, (0, ((0, (0, ())), ((0, (0, ())), ((0, (0, ())), ()))))), (16, ())), (((), (i406, ((i407, (i408, ())), (i409, ((), (((i410, (i411, ())), ((i412, (i413, ())), ((i414, (i415, ())), ()))), (b416, (b417, (b418, ()))))))))), ((), ((i419, (i420, (i421, (i422, (i423, (i424, (i425, (i426, ())))))))), ())), ((), ((), (b427, ()))), (i428, (i429, (i430, (i431, ())))), l432, ((i433, (i434, (i435, (i436, (i437, (i438, (i439, (i440, ())))))))), ((i441, (i442, ())), (i443, (i444, (a445, ()))))), ()))) else (
bif (decide (i409 ≥ i425)) then (
κ0 (((3, (i406, ((i407, (i408, ())), ((0, (0, ())), ((0, (0, ())), ()))))), (0, ())), (((), (i406, ((i407, (i408, ())), (i409, ((), (((i410, (i411, ())), ((i412, (i413, ())), ((i414, (i415, ())), ()))), (b416, (true, (b418, ()))))))))), ((), ((i419, (i420, (i421, (i422, (i423, (i424, (i425, (i426, ())))))))), ())), ((), ((), (b427, ()))), (i428, (i429, (i430, (i431, ())))), l432, ((i433, (i434, (i435, (i436, (i437, (i438, (i439, (i440, ())))))))), ((i441, (i442, ())), (i443, (i444, (a445, ()))))), ()))) else (
bif (!b416) then (
q_35 (((), (i407, (i408, ())), i406, i409, (), ()), (((), ((i419, (i420, (i421, (i422, (i423, (i424, (i425, (i426, ())))))))), ())), ((), ((), (b427, ()))), (i428, (i429, (i430, (i431, ())))), l432, ((i433, (i434, (i435, (i436, (i437, (i438, (i439, (i440, ())))))))), ((i441, (i442, ())), (i443, (i444, (a445, ()))))), ())) (fun y1116 =>
let i1117 := y1116.1.1.1.1
let i1118 := y1116.1.1.1.2.1
let i1119 := y1116.1.1.2.1.1
let i1120 := y1116.1.1.2.1.2.1
let i1121 := y1116.1.1.2.2.1.1
let i1122 := y1116.1.1.2.2.1.2.1
let i1123 := y1116.1.2.1
let i1124 := y1116.2.1.2.1.1
let i1125 := y1116.2.1.2.1.2.1
let i1126 := y1116.2.1.2.1.2.2.1
let i1127 := y1116.2.1.2.1.2.2.2.1
let i1128 := y1116.2.1.2.1.2.2.2.2.1
let i1129 := y1116.2.1.2.1.2.2.2.2.2.1
let i1130 := y1116.2.1.2.1.2.2.2.2.2.2.1
let i1131 := y1116.2.1.2.1.2.2.2.2.2.2.2.1
let b1132 := y1116.2.2.1.2.2.1
let i1133 := y1116.2.2.2.1.1
let i1134 := y1116.2.2.2.1.2.1
let i1135 := y1116.2.2.2.1.2.2.1
let i1136 := y1116.2.2.2.1.2.2.2.1
let l1137 := y1116.2.2.2.2.1
let i1138 := y1116.2.2.2.2.2.1.1.1
let i1139 := y1116.2.2.2.2.2.1.1.2.1
let i1140 := y1116.2.2.2.2.2.1.1.2.2.1
let i1141 := y1116.2.2.2.2.2.1.1.2.2.2.1
let i1142 := y1116.2.2.2.2.2.1.1.2.2.2.2.1
let i1143 := y1116.2.2.2.2.2.1.1.2.2.2.2.2.1
let i1144 := y1116.2.2.2.2.2.1.1.2.2.2.2.2.2.1
let i1145 := y1116.2.2.2.2.2.1.1.2.2.2.2.2.2.2.1
let i1146 := y1116.2.2.2.2.2.1.2.1.1
let i1147 := y1116.2.2.2.2.2.1.2.1.2.1
let i1148 := y1116.2.2.2.2.2.1.2.2.1
let i1149 := y1116.2.2.2.2.2.1.2.2.2.1
let a1150 := y1116.2.2.2.2.2.1.2.2.2.2.1
bif (i1123 != 0) then (
κ0 (((0, (0, ((0, (0, ())), ((0, (0, ())), ((0, (0, ())), ()))))), (i1123, ())), (((), (i406, ((i407, (i408, ())), (i409, ((), (((i410, (i411, ())), ((i412, (i413, ())), ((i414, (i415, ())), ()))), (b416, (b417, (b418, ()))))))))), ((), ((i1124, (i1125, (i1126, (i1127, (i1128, (i1129, (i1130, (i1131, ())))))))), ())), ((), ((), (b1132, ()))), (i1133, (i1134, (i1135, (i1136, ())))), l1137, ((i1138, (i1139, (i1140, (i1141, (i1142, (i1143, (i1144, (i1145, ())))))))), ((i1146, (i1147, ())), (i1148, (i1149, (a1150, ()))))), ()))) else (
κ0 (((1, (i406, ((i407, (i408, ())), ((i1117, (i1118, ())), ((i1121, (i1122, ())), ()))))), (0, ())), (((), (i406, ((i407, (i408, ())), (i409, ((), (((i1117, (i1118, ())), ((i1119, (i1120, ())), ((i1121, (i1122, ())), ()))), (true, (b417, (b418, ()))))))))), ((), ((i1124, (i1125, (i1126, (i1127, (i1128, (i1129, (i1130, (i1131, ())))))))), ())), ((), ((), (b1132, ()))), (i1133, (i1134, (i1135, (i1136, ())))), l1137, ((i1138, (i1139, (i1140, (i1141, (i1142, (i1143, (i1144, (i1145, ())))))))), ((i1146, (i1147, ())), (i1148, (i1149, (a1150, ()))))), ()))))) else (
q_39 (((), (i407, (i408, ())), ((i410, (i411, ())), ((i412, (i413, ())), ((i414, (i415, ())), ()))), ()), (((), ((i419, (i420, (i421, (i422, (i423, (i424, (i425, (i426, ())))))))), ())), ((), ((), (b427, ()))), (i428, (i429, (i430, (i431, ())))), l432, ())) (fun y1269 =>
let i1270 := y1269.1
let i1271 := y1269.2.1.2.1.1
let i1272 := y1269.2.1.2.1.2.1
let i1273 := y1269.2.1.2.1.2.2.1
let i1274 := y1269.2.1.2.1.2.2.2.1
let i1275 := y1269.2.1.2.1.2.2.2.2.1
let i1276 := y1269.2.1.2.1.2.2.2.2.2.1
let i1277 := y1269.2.1.2.1.2.2.2.2.2.2.1
let i1278 := y1269.2.1.2.1.2.2.2.2.2.2.2.1
let b1279 := y1269.2.2.1.2.2.1
let i1280 := y1269.2.2.2.1.1
let i1281 := y1269.2.2.2.1.2.1
let i1282 := y1269.2.2.2.1.2.2.1
let i1283 := y1269.2.2.2.1.2.2.2.1
let l1284 := y1269.2.2.2.2.1
bif (i1270 != 0) then (
κ0 (((0, (0, ((0, (0, ())), ((0, (0, ())), ((0, (0, ())), ()))))), (i1270, ())), (((), (i406, ((i407, (i408, ())), (i409, ((), (((i410, (i411, ())), ((i412, (i413, ())), ((i414, (i415, ())), ()))), (b416, (b417, (b418, ()))))))))), ((), ((i1271, (i1272, (i1273, (i1274, (i1275, (i1276, (i1277, (i1278, ())))))))), ())), ((), ((), (b1279, ()))), (i1280, (i1281, (i1282, (i1283, ())))), l1284, ((i433, (i434, (i435, (i436, (i437, (i438, (i439, (i440, ())))))))), ((i441, (i442, ())), (i443, (i444, (a445, ()))))), ()))) else (
let i1285 : Int := addA .i64 i409 1
κ0 (((2, (i406, ((i407, (i408, ())), ((i410, (i411, ())), ((i414, (i415, ())), ()))))), (0, ())), (((), (i406, ((i407, (i408, ())), (i1285, ((), (((i410, (i411, ())), ((i412, (i413, ())), ((i414, (i415, ())), ()))), (false, (b417, (b418, ()))))))))), ((), ((i1271, (i1272, (i1273, (i1274, (i1275, (i1276, (i1277, (i1278, ())))))))), ())), ((), ((), (b1279, ()))), (i1280, (i1281, (i1282, (i1283, ())))), l1284, ((i433, (i434, (i435, (i436, (i437, (i438, (i439, (i440, ())))))))), ((i441, (i442, ())), (i443, (i444, (a445, ()))))), ()))))))))
def p_27_v1 {R : Type} (N : Nat) (x : (Unit × Unit) × Y1) (κ0 : (((Int × (Int × Y9)) × (Int × Unit)) × Y1) → Option R) : Option R := Q_27_v1 (p_35 N) (p_39 N) x κ0
def EG_27_v1 {R : Type} (q_35 : Tp_35 R) (q_39 : Tp_39 R) : Env R := ((Env.base QQ LN AA).add 35 ap_35 hp_35 (fun (x : aden ap_35 × hden hp_35) k => q_35 x (fun y => k (Pat.inst (.tup (.fcons (.node (.fcons Z1 (.fcons Z1 (.fcons Z1 (.fnil))))) (.fcons (.int .i64) (.fnil)))) y.1) (instH J3 y.2)))).add 39 ap_39 hp_39 (fun (x : aden ap_39 × hden hp_39) k => q_39 x (fun y => k (Pat.inst (.int .i64) y.1) (instH J1 y.2)))
def LG_27_v1 {R : Type} : Loops R := Loops.none
def E_27_v1 {R : Type} (N : Nat) : Env R := EG_27_v1 (p_35 N) (p_39 N)
theorem eok_27_v1 {R : Type} (N : Nat) : EK Try.prog (E_27_v1 (R := R) N) := ek_add (ek_add (ek_base _ _ _) (good_35 N)) (good_39 N)
def L_27_v1 {R : Type} (N : Nat) : Loops R := LG_27_v1
theorem lok_27_v1 {R : Type} (N : Nat) : LOK 6 TT (E_27_v1 (R := R) N) (drawAny TT WW) (L_27_v1 N) (bodyOf Try.f27) := loops_nil (by kernel_rfl)
theorem grun_27_v1 {R : Type} (q_35 : Tp_35 R) (q_39 : Tp_39 R) (x : aden ap_27_v1 × hden hp_27_v1) (k : KF R) : fnrun TT (EG_27_v1 q_35 q_39) (drawAny TT WW) (LG_27_v1) true Try.f27 (instA ap_27_v1 x.1) (instH hp_27_v1 x.2) k = Q_27_v1 q_35 q_39 x (fun y => k (Pat.inst (.tup (.fcons Z12 (.fcons (.int .i64) (.fnil)))) y.1) (instH J0 y.2)) := by kernel_rfl
theorem run_27_v1 {R : Type} (N : Nat) (x : aden ap_27_v1 × hden hp_27_v1) (k : KF R) : fnrun TT (E_27_v1 (R := R) N) (drawAny TT WW) (L_27_v1 N) true Try.f27 (instA ap_27_v1 x.1) (instH hp_27_v1 x.2) k = p_27_v1 N x (fun y => k (Pat.inst (.tup (.fcons Z12 (.fcons (.int .i64) (.fnil)))) y.1) (instH J0 y.2)) := (grun_27_v1 (p_35 N) (p_39 N) x k).trans (by kernel_rfl)
theorem good_27_v1 {R : Type} (N : Nat) : GD (X := R) Try.prog QQ AA 27 ap_27_v1 hp_27_v1 (fun (x : aden ap_27_v1 × hden hp_27_v1) k => p_27_v1 N x (fun y => k (Pat.inst (.tup (.fcons Z12 (.fcons (.int .i64) (.fnil)))) y.1) (instH J0 y.2))) :=
  gd_loud (E := E_27_v1 N) (p := fun (x : aden ap_27_v1 × hden hp_27_v1) k => p_27_v1 N x (fun y => k (Pat.inst (.tup (.fcons Z12 (.fcons (.int .i64) (.fnil)))) y.1) (instH J0 y.2))) mixed tyok (eok_27_v1 N) Try.func27 (by kernel_rfl) (by kernel_rfl) (by kernel_rfl) (by kernel_rfl) (lok_27_v1 N) (fun x k => run_27_v1 N x k)

end Go.Proofs.Ytfcloeflcpcheaa.Eng
