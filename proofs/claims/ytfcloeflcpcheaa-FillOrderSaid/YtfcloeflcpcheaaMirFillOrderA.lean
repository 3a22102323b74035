/-
Plain functions that the functions of the program are shown to come to, printed by a program of the prover; each with its proof.
Conditions: none.
-/
import Derived.Test.YtfcloeflcpcheaaProg
import Derived.Test.YtfcloeflcpcheaaEngY
import Derived.KernelRfl
set_option linter.unusedVariables false
namespace Go.Proofs.Ytfcloeflcpcheaa.Eng
def TT : Types := [(23, ⟨.stru [(3, 0), (3, 1), (3, 2), (3, 3), (3, 4)], 5, 40, .node (.fcons (.int .i64 0) (.fcons (.int .i64 0) (.fcons (.int .i64 0) (.fcons (.int .i64 0) (.fcons (.int .i64 0) (.fnil)))))), some (.stru (.fcons (.int .i64) (.fcons (.int .i64) (.fcons (.int .i64) (.fcons (.int .i64) (.fcons (.int .i64) (.fnil))))))), true, false, none⟩),
  (9, ⟨.str, 1, 16, .str ⟨#[]⟩, some (.str), false, false, none⟩),
  (93, ⟨.slice 3, 1, 24, .nils, some (.sl (.int .i64)), false, false, none⟩),
  (4, ⟨.bool, 1, 1, .bool false, some (.bool), false, false, none⟩),
  (3, ⟨.int .i64, 1, 8, .int .i64 0, some (.int .i64), false, false, none⟩),
  (26, ⟨.ptr 49, 1, 8, .nilp, none, false, false, none⟩),
  (47, ⟨.stru [(3, 0), (3, 1), (3, 2), (3, 3), (3, 4), (3, 5), (3, 6), (3, 7)], 8, 64, .node (.fcons (.int .i64 0) (.fcons (.int .i64 0) (.fcons (.int .i64 0) (.fcons (.int .i64 0) (.fcons (.int .i64 0) (.fcons (.int .i64 0) (.fcons (.int .i64 0) (.fcons (.int .i64 0) (.fnil))))))))), some (.stru (.fcons (.int .i64) (.fcons (.int .i64) (.fcons (.int .i64) (.fcons (.int .i64) (.fcons (.int .i64) (.fcons (.int .i64) (.fcons (.int .i64) (.fcons (.int .i64) (.fnil)))))))))), true, false, none⟩),
  (30, ⟨.int .i64, 1, 8, .int .i64 0, some (.int .i64), false, false, none⟩),
  (45, ⟨.stru [(3, 0), (3, 1), (3, 2), (3, 3), (3, 4), (3, 5), (3, 6), (3, 7)], 8, 64, .node (.fcons (.int .i64 0) (.fcons (.int .i64 0) (.fcons (.int .i64 0) (.fcons (.int .i64 0) (.fcons (.int .i64 0) (.fcons (.int .i64 0) (.fcons (.int .i64 0) (.fcons (.int .i64 0) (.fnil))))))))), some (.stru (.fcons (.int .i64) (.fcons (.int .i64) (.fcons (.int .i64) (.fcons (.int .i64) (.fcons (.int .i64) (.fcons (.int .i64) (.fcons (.int .i64) (.fcons (.int .i64) (.fnil)))))))))), true, false, none⟩),
  (100, ⟨.ptr 145, 1, 8, .nilp, none, false, false, none⟩),
  (145, ⟨.stru [(3, 0), (3, 1), (3, 2), (3, 3)], 4, 32, .node (.fcons (.int .i64 0) (.fcons (.int .i64 0) (.fcons (.int .i64 0) (.fcons (.int .i64 0) (.fnil))))), some (.stru (.fcons (.int .i64) (.fcons (.int .i64) (.fcons (.int .i64) (.fcons (.int .i64) (.fnil)))))), true, false, none⟩),
  (46, ⟨.ptr 147, 1, 8, .nilp, none, false, false, none⟩),
  (52, ⟨.slice 29, 1, 24, .nils, some (.sl (.arr 128 (.int .u64))), false, false, none⟩),
  (29, ⟨.arr 128 27, 128, 1024, .vec (.int .u64) 128 (Sch.zero (.arr 128 (.int .u64))), some (.arr 128 (.int .u64)), true, false, none⟩),
  (147, ⟨.stru [(100, 0), (52, 1), (4, 2)], 3, 40, .node (.fcons (.nilp) (.fcons (.nils) (.fcons (.bool false) (.fnil)))), none, false, false, none⟩),
  (49, ⟨.stru [(46, 0), (47, 1)], 9, 72, .node (.fcons (.nilp) (.fcons (.node (.fcons (.int .i64 0) (.fcons (.int .i64 0) (.fcons (.int .i64 0) (.fcons (.int .i64 0) (.fcons (.int .i64 0) (.fcons (.int .i64 0) (.fcons (.int .i64 0) (.fcons (.int .i64 0) (.fnil)))))))))) (.fnil))), none, false, false, none⟩),
  (69, ⟨.stru [(3, 0), (3, 1)], 2, 16, .node (.fcons (.int .i64 0) (.fcons (.int .i64 0) (.fnil))), some (.stru (.fcons (.int .i64) (.fcons (.int .i64) (.fnil)))), true, false, none⟩),
  (81, ⟨.ptr 132, 1, 8, .nilp, none, false, false, none⟩),
  (132, ⟨.stru [(47, 0), (69, 8), (3, 10), (3, 11), (29, 12)], 140, 1120, .node (.fcons (.node (.fcons (.int .i64 0) (.fcons (.int .i64 0) (.fcons (.int .i64 0) (.fcons (.int .i64 0) (.fcons (.int .i64 0) (.fcons (.int .i64 0) (.fcons (.int .i64 0) (.fcons (.int .i64 0) (.fnil)))))))))) (.fcons (.node (.fcons (.int .i64 0) (.fcons (.int .i64 0) (.fnil)))) (.fcons (.int .i64 0) (.fcons (.int .i64 0) (.fcons (.vec (.int .u64) 128 (Sch.zero (.arr 128 (.int .u64)))) (.fnil)))))), some (.stru (.fcons (.stru (.fcons (.int .i64) (.fcons (.int .i64) (.fcons (.int .i64) (.fcons (.int .i64) (.fcons (.int .i64) (.fcons (.int .i64) (.fcons (.int .i64) (.fcons (.int .i64) (.fnil)))))))))) (.fcons (.stru (.fcons (.int .i64) (.fcons (.int .i64) (.fnil)))) (.fcons (.int .i64) (.fcons (.int .i64) (.fcons (.arr 128 (.int .u64)) (.fnil))))))), true, false, none⟩),
  (86, ⟨.stru [(34, 0), (34, 2), (34, 4)], 6, 48, .node (.fcons (.node (.fcons (.int .i64 0) (.fcons (.int .i64 0) (.fnil)))) (.fcons (.node (.fcons (.int .i64 0) (.fcons (.int .i64 0) (.fnil)))) (.fcons (.node (.fcons (.int .i64 0) (.fcons (.int .i64 0) (.fnil)))) (.fnil)))), some (.stru (.fcons (.stru (.fcons (.int .i64) (.fcons (.int .i64) (.fnil)))) (.fcons (.stru (.fcons (.int .i64) (.fcons (.int .i64) (.fnil)))) (.fcons (.stru (.fcons (.int .i64) (.fcons (.int .i64) (.fnil)))) (.fnil))))), true, false, none⟩),
  (34, ⟨.stru [(3, 0), (3, 1)], 2, 16, .node (.fcons (.int .i64 0) (.fcons (.int .i64 0) (.fnil))), some (.stru (.fcons (.int .i64) (.fcons (.int .i64) (.fnil)))), true, false, none⟩),
  (78, ⟨.int .u32, 1, 4, .int .u32 0, some (.int .u32), false, false, none⟩),
  (199, ⟨.arr 7 3, 7, 56, .vec (.int .i64) 7 (Sch.zero (.arr 7 (.int .i64))), some (.arr 7 (.int .i64)), true, false, none⟩),
  (27, ⟨.int .u64, 1, 8, .int .u64 0, some (.int .u64), false, false, none⟩),
  (201, ⟨.slice 4, 1, 24, .nils, some (.sl (.bool)), false, false, none⟩),
  (192, ⟨.arr 16 3, 16, 128, .vec (.int .i64) 16 (Sch.zero (.arr 16 (.int .i64))), some (.arr 16 (.int .i64)), true, false, none⟩),
  (186, ⟨.arr 16 27, 16, 128, .vec (.int .u64) 16 (Sch.zero (.arr 16 (.int .u64))), some (.arr 16 (.int .u64)), true, false, none⟩),
  (190, ⟨.arr 8 65, 32, 256, .vec (.arr 4 (.int .i64)) 8 (Sch.zero (.arr 8 (.arr 4 (.int .i64)))), some (.arr 8 (.arr 4 (.int .i64))), true, false, none⟩),
  (65, ⟨.arr 4 3, 4, 32, .vec (.int .i64) 4 (Sch.zero (.arr 4 (.int .i64))), some (.arr 4 (.int .i64)), true, false, none⟩),
  (159, ⟨.int .u64, 1, 8, .int .u64 0, some (.int .u64), false, false, none⟩),
  (158, ⟨.slice 78, 1, 24, .nils, some (.sl (.int .u32)), false, false, none⟩),
  (114, ⟨.slice 5, 1, 24, .nils, some (.sl (.int .u8)), false, false, none⟩),
  (5, ⟨.int .u8, 1, 1, .int .u8 0, some (.int .u8), false, false, none⟩),
  (149, ⟨.slice 9, 1, 24, .nils, some (.sl (.str)), false, false, none⟩),
  (150, ⟨.ptr 178, 1, 8, .nilp, none, false, false, none⟩),
  (173, ⟨.ptr 189, 1, 8, .nilp, none, false, false, none⟩),
  (189, ⟨.stru [(3, 0), (4, 1), (114, 2), (3, 3)], 4, 48, .node (.fcons (.int .i64 0) (.fcons (.bool false) (.fcons (.nils) (.fcons (.int .i64 0) (.fnil))))), some (.stru (.fcons (.int .i64) (.fcons (.bool) (.fcons (.sl (.int .u8)) (.fcons (.int .i64) (.fnil)))))), false, true, none⟩),
  (56, ⟨.arr 8 27, 8, 64, .vec (.int .u64) 8 (Sch.zero (.arr 8 (.int .u64))), some (.arr 8 (.int .u64)), true, false, none⟩),
  (178, ⟨.stru [(173, 0), (56, 1), (3, 9), (27, 10)], 11, 88, .node (.fcons (.nilp) (.fcons (.vec (.int .u64) 8 (Sch.zero (.arr 8 (.int .u64)))) (.fcons (.int .i64 0) (.fcons (.int .u64 0) (.fnil))))), none, false, false, none⟩),
  (179, ⟨.slice 114, 1, 24, .nils, some (.sl (.sl (.int .u8))), false, false, none⟩),
  (157, ⟨.slice 27, 1, 24, .nils, some (.sl (.int .u64)), false, false, none⟩),
  (203, ⟨.arr 10 9, 10, 160, .vec (.str) 10 (Sch.zero (.arr 10 (.str))), some (.arr 10 (.str)), true, false, none⟩),
  (42, ⟨.slice 52, 1, 24, .nils, some (.sl (.sl (.arr 128 (.int .u64)))), false, false, some (29, .arr 128 (.int .u64))⟩)]
theorem tyok : TyOk Try.prog TT := TyOk.of (by kernel_rfl)
theorem mixed : Try.prog.follows .mixedOrders = true := by kernel_rfl
def QQ : FuncId → Bool := fun f => memN [9, 28, 29, 30, 34, 36, 37, 41, 42, 46, 47, 48, 54, 55, 63, 64, 66, 67, 68, 69, 70, 75, 76, 77, 78, 88, 89, 90, 95, 97, 99, 103, 105, 106, 107, 108, 109, 113, 115, 116, 117, 120, 121, 122] f
def LN : FuncId → Bool := fun f => memN [48, 83, 99] f
def AA : FuncId → Bool := fun f => memN [33] f
def WW : Qs := fun f => (QQ f || LN f || AA f, QQ f || LN f)
abbrev Y0 : Type := Int × (Int × (Int × (Int × (Int × (Int × (Int × (Int × Unit)))))))
abbrev Y1 : Type := (Unit × (Y0 × Unit)) × (Unit × (Unit × (Bool × Unit))) × (Int × (Int × (Int × (Int × Unit)))) × (List (Nat → Int)) × Unit
abbrev Y2 : Type := Int × (Int × (Int × (Int × Unit)))
abbrev Y3 : Type := Unit × (Unit × (Bool × Unit))
abbrev Y4 : Type := List (List (Nat → Int))
abbrev Y5 : Type := Int × (Bool × (Unit × (Int × Unit)))
abbrev Y6 : Type := (Nat → Int) × (Nat → Int) × Unit
abbrev Y7 : Type := (Unit × (Y0 × Unit)) × Y3 × Y2 × (List (Nat → Int)) × (Unit × (Y0 × Unit)) × Y3 × Y2 × (List (Nat → Int)) × (Int × (Int × Unit)) × (List Int) × Unit
abbrev Y8 : Type := Unit × ((Nat → Int) × (Int × (Int × Unit)))
abbrev Y9 : Type := Y0 × ((Int × (Int × Unit)) × (Int × (Int × ((Nat → Int) × Unit))))
abbrev Y10 : Type := (Unit × Unit × Unit × Int × Int × Unit) × (Y5 × (List ByteArray) × (List Int) × (List (List Int)) × Unit)
abbrev Y11 : Type := (Unit × (Y0 × Unit)) × Y3 × Y2 × (List (Nat → Int)) × Y4 × Unit
abbrev Y12 : Type := (Unit × (Y0 × Unit)) × Y3 × Y2 × (List (Nat → Int)) × (Int × (Int × Unit)) × Unit
abbrev Y13 : Type := (Unit × (Y0 × Unit)) × Y3 × Y2 × (List (Nat → Int)) × (Unit × (Y0 × Unit)) × Y3 × Y2 × (List (Nat → Int)) × (Int × (Int × Unit)) × Unit
abbrev Y14 : Type := (Unit × Unit × (List Int) × Unit × Unit × Int × Unit) × ((Nat → Int) × (Nat → Int) × (Nat → Int) × (Nat → (Nat → Int)) × Unit)
abbrev Y15 : Type := Unit × Unit × Int × Int × Unit
abbrev Y16 : Type := (Unit × (List Int) × Int × Int × Unit) × ((List Int) × Unit)
abbrev Y17 : Type := (Unit × Unit × Bool × Unit × Int × Int × Int × Unit) × ((Nat → Int) × (Nat → Int) × (List Bool) × Unit)
abbrev Y18 : Type := (Unit × Unit × Unit × Int × Int × Unit) × ((Nat → Int) × (Nat → Int) × (List Bool) × Unit)
abbrev Y19 : Type := (Unit × Unit × (List Int) × Unit × Unit × Unit × Int × (Nat → (Nat → Int)) × Int × Unit) × ((Nat → Int) × (Nat → Int) × (Nat → Int) × (Nat → (Nat → Int)) × (Nat → Int) × Unit)
abbrev Y20 : Type := (Unit × Unit × Bool × Unit × Unit × Unit × Int × Int × Int × (Nat → Int) × Int × Unit) × ((Nat → Int) × (Nat → Int) × (Nat → Int) × (Nat → Int) × (List Bool) × Unit)
abbrev Y21 : Type := (Unit × (Y0 × Unit)) × Y3 × Y2 × (List (Nat → Int)) × Y9 × Unit
abbrev Y22 : Type := (Unit × Unit × Unit) × Y6
abbrev Y23 : Type := (List ByteArray) × Unit
abbrev Y24 : Type := (Unit × Unit × Bool × Unit × Unit × Int × Int × Int × (Nat → Int) × Int × Unit) × ((Nat → Int) × (Nat → Int) × (Nat → Int) × (List Bool) × Unit)
abbrev Y25 : Type := (Int × ByteArray × Unit × Unit) × ((List ByteArray) × (List Int) × Unit)
abbrev Z0 : Pat := .node (.fcons (.int .i64) (.fcons (.int .i64) (.fcons (.int .i64) (.fcons (.int .i64) (.fcons (.int .i64) (.fcons (.int .i64) (.fcons (.int .i64) (.fcons (.int .i64) (.fnil)))))))))
abbrev Z1 : Pat := .node (.fcons (.int .i64) (.fcons (.int .i64) (.fcons (.int .i64) (.fcons (.int .i64) (.fnil)))))
abbrev Z2 : Pat := .node (.fcons (.ptr 2 []) (.fcons (.sl 3) (.fcons (.bool) (.fnil))))
abbrev Z3 : Pat := .node (.fcons Z0 (.fcons (.node (.fcons (.int .i64) (.fcons (.int .i64) (.fnil)))) (.fcons (.int .i64) (.fcons (.int .i64) (.fcons (.vec (.int .u64) 128) (.fnil))))))
abbrev Z4 : Pat := .node (.fcons (.ptr 1 []) (.fcons Z0 (.fnil)))
abbrev Z5 : Pat := .node (.fcons (.ptr 1 []) (.fcons (.vec (.int .u64) 8) (.fcons (.int .i64) (.fcons (.int .u64) (.fnil)))))
abbrev Z6 : Pat := .node (.fcons (.nilp) (.fcons (.vec (.int .u64) 8) (.fcons (.int .i64) (.fcons (.int .u64) (.fnil)))))
abbrev Z7 : Pat := .node (.fcons (.int .i64) (.fcons (.int .i64) (.fnil)))
abbrev Z8 : Pat := .node (.fcons (.int .i64) (.fcons (.bool) (.fcons (.sl 1) (.fcons (.int .i64) (.fnil)))))
abbrev Z9 : Pat := .node (.fcons (.ptr 1 []) (.fcons (.sl 2) (.fcons (.bool) (.fnil))))
abbrev Z10 : Pat := .node (.fcons (.int .i64) (.fcons (.bool) (.fcons (.sl 2) (.fcons (.int .i64) (.fnil)))))
abbrev Z11 : Pat := .node (.fcons (.int .i64) (.fcons (.bool) (.fcons (.sl 3) (.fcons (.int .i64) (.fnil)))))
abbrev Z12 : Pat := .node (.fcons (.int .i64) (.fcons (.bool) (.fcons (.sl 4) (.fcons (.int .i64) (.fnil)))))
abbrev Z13 : Pat := .node (.fcons (.ptr 6 []) (.fcons (.sl 7) (.fcons (.bool) (.fnil))))
abbrev J0 : List (Option (Pat × Nat)) := [some (Z4, 49), some (Z2, 147), some (Z1, 145), some (.lst (.arr 128 (.int .u64)), 29)]
abbrev J1 : List (Option (Pat × Nat)) := [some (Z4, 49), some (Z2, 147), some (Z1, 145), some (.lst (.arr 128 (.int .u64)), 29), some (Z3, 132)]
abbrev J2 : List (Option (Pat × Nat)) := [some (Z4, 49), some (Z2, 147), some (Z1, 145), some (.lst (.arr 128 (.int .u64)), 29), some (.fam 29 (.arr 128 (.int .u64)), 52)]
abbrev J3 : List (Option (Pat × Nat)) := [some (.fam 29 (.arr 128 (.int .u64)), 52), some (.fam 29 (.arr 128 (.int .u64)), 52)]
abbrev J4 : List (Option (Pat × Nat)) := [some (Z9, 147), some (Z1, 145), some (.lst (.arr 128 (.int .u64)), 29)]
abbrev J5 : List (Option (Pat × Nat)) := [some (Z5, 178), some (Z10, 189), some (.lst (.int .u8), 5)]
abbrev J6 : List (Option (Pat × Nat)) := [some (Z5, 178), some (Z12, 189), none, some (.lst (.str), 9), some (.lst (.int .u8), 5)]
abbrev J7 : List (Option (Pat × Nat)) := [some (Z1, 145), some (.node (.fcons (.ptr 0 []) (.fcons (.sl 2) (.fcons (.bool) (.fnil)))), 147), some (.lst (.arr 128 (.int .u64)), 29)]
abbrev J8 : List (Option (Pat × Nat)) := [some (Z9, 147), some (Z1, 145), some (.lst (.arr 128 (.int .u64)), 29), some (.node (.fcons (.ptr 0 []) (.fcons Z0 (.fnil))), 49)]
abbrev J9 : List (Option (Pat × Nat)) := [some (.lst (.int .u8), 5)]
abbrev J10 : List (Option (Pat × Nat)) := [some (.vec (.int .u64) 128, 29), some (.vec (.int .u64) 128, 29)]
abbrev J11 : List (Option (Pat × Nat)) := [some (Z6, 178), some (.lst (.str), 9)]
abbrev J12 : List (Option (Pat × Nat)) := [some (Z4, 49), some (Z2, 147), some (Z1, 145), some (.lst (.arr 128 (.int .u64)), 29), some (.node (.fcons (.ptr 5 []) (.fcons Z0 (.fnil))), 49), some (Z13, 147), some (Z1, 145), some (.lst (.arr 128 (.int .u64)), 29), some (Z7, 69), some (.lst (.int .i64), 3)]
abbrev J13 : List (Option (Pat × Nat)) := [some (Z8, 189), some (.lst (.int .u8), 5), some (.lst (.str), 9)]
abbrev J14 : List (Option (Pat × Nat)) := [some (Z11, 189), none, some (.lst (.str), 9), some (.lst (.int .u8), 5), some (.lst (.sl (.int .u8)), 114)]
def ap_63 : List Pat := [.int .i64, .int .i64, .int .i64]
def hp_63 : List (Option (Pat × Nat)) := []
abbrev Tp_63 (R : Type) : Type := (Int × Int × Int × Unit) × (Unit) → (Bool → Option R) → Option R
def Q_63 {R : Type} (x : (Int × Int × Int × Unit) × (Unit)) (κ0 : Bool → Option R) : Option R :=
let i18 := x.1.1
let i19 := x.1.2.1
let i20 := x.1.2.2.1
bif (decide (i18 ≥ i19)) then (
κ0 ((decide (i18 ≤ i20)))) else (
κ0 false)
def p_63 {R : Type} (N : Nat) (x : (Int × Int × Int × Unit) × (Unit)) (κ0 : Bool → Option R) : Option R := Q_63 x κ0
def EG_63 {R : Type} : Env R := Env.base QQ LN AA
def LG_63 {R : Type} : Loops R := Loops.none
def E_63 {R : Type} (N : Nat) : Env R := EG_63
theorem eok_63 {R : Type} (N : Nat) : EK Try.prog (E_63 (R := R) N) := ek_base _ _ _
def L_63 {R : Type} (N : Nat) : Loops R := LG_63
theorem lok_63 {R : Type} (N : Nat) : LOK 0 TT (E_63 (R := R) N) (drawAny TT WW) (L_63 N) (bodyOf Try.f63) := loops_nil (by kernel_rfl)
theorem grun_63 {R : Type} (x : aden ap_63 × hden hp_63) (k : KF R) : fnrun TT (EG_63) (drawAny TT WW) (LG_63) true Try.f63 (instA ap_63 x.1) (instH hp_63 x.2) k = Q_63 x (fun y => k (Pat.inst (.bool) y) (instH hp_63 x.2)) := by kernel_rfl
theorem run_63 {R : Type} (N : Nat) (x : aden ap_63 × hden hp_63) (k : KF R) : fnrun TT (E_63 (R := R) N) (drawAny TT WW) (L_63 N) true Try.f63 (instA ap_63 x.1) (instH hp_63 x.2) k = p_63 N x (fun y => k (Pat.inst (.bool) y) (instH hp_63 x.2)) := (grun_63 x k).trans (by kernel_rfl)
theorem good_63 {R : Type} (N : Nat) : GD (X := R) Try.prog QQ AA 63 ap_63 hp_63 (fun (x : aden ap_63 × hden hp_63) k => p_63 N x (fun y => k (Pat.inst (.bool) y) (instH hp_63 x.2))) :=
  gd_quiet (E := E_63 N) (p := fun (x : aden ap_63 × hden hp_63) κ => p_63 N x (fun y => κ (Pat.inst (.bool) y))) mixed tyok (eok_63 N) Try.func63 (by kernel_rfl) (by kernel_rfl) (lok_63 N) (fun x k => run_63 N x k)

def ap_88 : List Pat := [.int .i64]
def hp_88 : List (Option (Pat × Nat)) := []
abbrev Tp_88 (R : Type) : Type := (Int × Unit) × (Unit) → (Bool → Option R) → Option R
def Q_88 {R : Type} (x : (Int × Unit) × (Unit)) (κ0 : Bool → Option R) : Option R :=
let i35 := x.1.1
bif (decide (i35 ≥ 0)) then (
κ0 ((decide (i35 ≤ 4611686018427387904)))) else (
κ0 false)
def p_88 {R : Type} (N : Nat) (x : (Int × Unit) × (Unit)) (κ0 : Bool → Option R) : Option R := Q_88 x κ0
def EG_88 {R : Type} : Env R := Env.base QQ LN AA
def LG_88 {R : Type} : Loops R := Loops.none
def E_88 {R : Type} (N : Nat) : Env R := EG_88
theorem eok_88 {R : Type} (N : Nat) : EK Try.prog (E_88 (R := R) N) := ek_base _ _ _
def L_88 {R : Type} (N : Nat) : Loops R := LG_88
theorem lok_88 {R : Type} (N : Nat) : LOK 0 TT (E_88 (R := R) N) (drawAny TT WW) (L_88 N) (bodyOf Try.f88) := loops_nil (by kernel_rfl)
theorem grun_88 {R : Type} (x : aden ap_88 × hden hp_88) (k : KF R) : fnrun TT (EG_88) (drawAny TT WW) (LG_88) true Try.f88 (instA ap_88 x.1) (instH hp_88 x.2) k = Q_88 x (fun y => k (Pat.inst (.bool) y) (instH hp_88 x.2)) := by kernel_rfl
theorem run_88 {R : Type} (N : Nat) (x : aden ap_88 × hden hp_88) (k : KF R) : fnrun TT (E_88 (R := R) N) (drawAny TT WW) (L_88 N) true Try.f88 (instA ap_88 x.1) (instH hp_88 x.2) k = p_88 N x (fun y => k (Pat.inst (.bool) y) (instH hp_88 x.2)) := (grun_88 x k).trans (by kernel_rfl)
theorem good_88 {R : Type} (N : Nat) : GD (X := R) Try.prog QQ AA 88 ap_88 hp_88 (fun (x : aden ap_88 × hden hp_88) k => p_88 N x (fun y => k (Pat.inst (.bool) y) (instH hp_88 x.2))) :=
  gd_quiet (E := E_88 N) (p := fun (x : aden ap_88 × hden hp_88) κ => p_88 N x (fun y => κ (Pat.inst (.bool) y))) mixed tyok (eok_88 N) Try.func88 (by kernel_rfl) (by kernel_rfl) (lok_88 N) (fun x k => run_88 N x k)

def ap_76 : List Pat := [.int .i64, .int .i64]
def hp_76 : List (Option (Pat × Nat)) := []
abbrev Tp_76 (R : Type) : Type := (Int × Int × Unit) × (Unit) → ((Int × (Int × Unit)) → Option R) → Option R
def Q_76 {R : Type} (q_88 : Tp_88 R) (x : (Int × Int × Unit) × (Unit)) (κ0 : (Int × (Int × Unit)) → Option R) : Option R :=
let i33 := x.1.1
let i34 := x.1.2.1
q_88 ((i33, ()), ()) (fun y36 =>
let b37 : Bool := y36
bif (!b37) then (
κ0 ((0, (1, ())))) else (
bif (decide (i34 < 1)) then (
κ0 ((0, (1, ())))) else (
bif decide (i34 = 0) then none else (
let i38 : Int := remA .i64 i33 i34
let i39 : Int := subA .i64 i33 i38
κ0 ((i39, (0, ())))))))
def p_76 {R : Type} (N : Nat) (x : (Int × Int × Unit) × (Unit)) (κ0 : (Int × (Int × Unit)) → Option R) : Option R := Q_76 (p_88 N) x κ0
def EG_76 {R : Type} (q_88 : Tp_88 R) : Env R := (Env.base QQ LN AA).add 88 ap_88 hp_88 (fun (x : aden ap_88 × hden hp_88) k => q_88 x (fun y => k (Pat.inst (.bool) y) (instH hp_88 x.2)))
def LG_76 {R : Type} : Loops R := Loops.none
def E_76 {R : Type} (N : Nat) : Env R := EG_76 (p_88 N)
theorem eok_76 {R : Type} (N : Nat) : EK Try.prog (E_76 (R := R) N) := ek_add (ek_base _ _ _) (good_88 N)
def L_76 {R : Type} (N : Nat) : Loops R := LG_76
theorem lok_76 {R : Type} (N : Nat) : LOK 0 TT (E_76 (R := R) N) (drawAny TT WW) (L_76 N) (bodyOf Try.f76) := loops_nil (by kernel_rfl)
theorem grun_76 {R : Type} (q_88 : Tp_88 R) (x : aden ap_76 × hden hp_76) (k : KF R) : fnrun TT (EG_76 q_88) (drawAny TT WW) (LG_76) true Try.f76 (instA ap_76 x.1) (instH hp_76 x.2) k = Q_76 q_88 x (fun y => k (Pat.inst (.tup (.fcons (.int .i64) (.fcons (.int .i64) (.fnil)))) y) (instH hp_76 x.2)) := by kernel_rfl
theorem run_76 {R : Type} (N : Nat) (x : aden ap_76 × hden hp_76) (k : KF R) : fnrun TT (E_76 (R := R) N) (drawAny TT WW) (L_76 N) true Try.f76 (instA ap_76 x.1) (instH hp_76 x.2) k = p_76 N x (fun y => k (Pat.inst (.tup (.fcons (.int .i64) (.fcons (.int .i64) (.fnil)))) y) (instH hp_76 x.2)) := (grun_76 (p_88 N) x k).trans (by kernel_rfl)
theorem good_76 {R : Type} (N : Nat) : GD (X := R) Try.prog QQ AA 76 ap_76 hp_76 (fun (x : aden ap_76 × hden hp_76) k => p_76 N x (fun y => k (Pat.inst (.tup (.fcons (.int .i64) (.fcons (.int .i64) (.fnil)))) y) (instH hp_76 x.2))) :=
  gd_quiet (E := E_76 N) (p := fun (x : aden ap_76 × hden hp_76) κ => p_76 N x (fun y => κ (Pat.inst (.tup (.fcons (.int .i64) (.fcons (.int .i64) (.fnil)))) y))) mixed tyok (eok_76 N) Try.func76 (by kernel_rfl) (by kernel_rfl) (lok_76 N) (fun x k => run_76 N x k)

def ap_42 : List Pat := [.node (.fcons (.int .i64) (.fcons (.int .i64) (.fcons (.int .i64) (.fcons (.int .i64) (.fcons (.int .i64) (.fnil))))))]
def hp_42 : List (Option (Pat × Nat)) := []
abbrev Tp_42 (R : Type) : Type := ((Int × Y2) × Unit) × (Unit) → ((Y0 × (Int × Unit)) → Option R) → Option R
def Q_42 {R : Type} (q_63 : Tp_63 R) (q_76 : Tp_76 R) (x : ((Int × Y2) × Unit) × (Unit)) (κ0 : (Y0 × (Int × Unit)) → Option R) : Option R :=
let i13 := x.1.1.1
let i14 := x.1.1.2.1
let i15 := x.1.1.2.2.1
let i16 := x.1.1.2.2.2.1
let i17 := x.1.1.2.2.2.2.1
q_63 ((i13, 1, 3, ()), ()) (fun y21 =>
let b22 := y21
bif b22 then (
q_63 ((i14, 1, 4294967295, ()), ()) (fun y23 =>
let b24 : Bool := y23
bif b24 then (
q_63 ((i16, 1, 16777215, ()), ()) (fun y25 =>
let b26 : Bool := y25
bif b26 then (
q_63 ((i15, 1, 4294967295, ()), ()) (fun y27 =>
let b28 : Bool := y27
bif b28 then (
let i29 : Int := quoA .i64 i15 8
bif (decide (i29 ≥ i16)) then (
q_63 ((i17, 4, 1024, ()), ()) (fun y30 =>
let b31 : Bool := y30
bif (!b31) then (
κ0 (((0, (0, (0, (0, (0, (0, (0, (0, ())))))))), (2, ())))) else (
let i32 : Int := mulA .i64 4 i16
q_76 ((i15, i32, ()), ()) (fun y40 =>
let i41 := y40.1
bif decide (i16 = 0) then none else (
let i43 : Int := quoA .i64 i41 i16
let i44 : Int := quoA .i64 i43 4
κ0 (((i13, (i14, (i16, (i15, (i41, (i43, (i44, (i17, ())))))))), (0, ())))))))) else (
κ0 (((0, (0, (0, (0, (0, (0, (0, (0, ())))))))), (2, ()))))) else (
κ0 (((0, (0, (0, (0, (0, (0, (0, (0, ())))))))), (2, ())))))) else (
κ0 (((0, (0, (0, (0, (0, (0, (0, (0, ())))))))), (2, ())))))) else (
κ0 (((0, (0, (0, (0, (0, (0, (0, (0, ())))))))), (2, ())))))) else (
κ0 (((0, (0, (0, (0, (0, (0, (0, (0, ())))))))), (2, ())))))
def p_42 {R : Type} (N : Nat) (x : ((Int × Y2) × Unit) × (Unit)) (κ0 : (Y0 × (Int × Unit)) → Option R) : Option R := Q_42 (p_63 N) (p_76 N) x κ0
def EG_42 {R : Type} (q_63 : Tp_63 R) (q_76 : Tp_76 R) : Env R := ((Env.base QQ LN AA).add 63 ap_63 hp_63 (fun (x : aden ap_63 × hden hp_63) k => q_63 x (fun y => k (Pat.inst (.bool) y) (instH hp_63 x.2)))).add 76 ap_76 hp_76 (fun (x : aden ap_76 × hden hp_76) k => q_76 x (fun y => k (Pat.inst (.tup (.fcons (.int .i64) (.fcons (.int .i64) (.fnil)))) y) (instH hp_76 x.2)))
def LG_42 {R : Type} : Loops R := Loops.none
def E_42 {R : Type} (N : Nat) : Env R := EG_42 (p_63 N) (p_76 N)
theorem eok_42 {R : Type} (N : Nat) : EK Try.prog (E_42 (R := R) N) := ek_add (ek_add (ek_base _ _ _) (good_63 N)) (good_76 N)
def L_42 {R : Type} (N : Nat) : Loops R := LG_42
theorem lok_42 {R : Type} (N : Nat) : LOK 0 TT (E_42 (R := R) N) (drawAny TT WW) (L_42 N) (bodyOf Try.f42) := loops_nil (by kernel_rfl)
theorem grun_42 {R : Type} (q_63 : Tp_63 R) (q_76 : Tp_76 R) (x : aden ap_42 × hden hp_42) (k : KF R) : fnrun TT (EG_42 q_63 q_76) (drawAny TT WW) (LG_42) true Try.f42 (instA ap_42 x.1) (instH hp_42 x.2) k = Q_42 q_63 q_76 x (fun y => k (Pat.inst (.tup (.fcons Z0 (.fcons (.int .i64) (.fnil)))) y) (instH hp_42 x.2)) := by kernel_rfl
theorem run_42 {R : Type} (N : Nat) (x : aden ap_42 × hden hp_42) (k : KF R) : fnrun TT (E_42 (R := R) N) (drawAny TT WW) (L_42 N) true Try.f42 (instA ap_42 x.1) (instH hp_42 x.2) k = p_42 N x (fun y => k (Pat.inst (.tup (.fcons Z0 (.fcons (.int .i64) (.fnil)))) y) (instH hp_42 x.2)) := (grun_42 (p_63 N) (p_76 N) x k).trans (by kernel_rfl)
theorem good_42 {R : Type} (N : Nat) : GD (X := R) Try.prog QQ AA 42 ap_42 hp_42 (fun (x : aden ap_42 × hden hp_42) k => p_42 N x (fun y => k (Pat.inst (.tup (.fcons Z0 (.fcons (.int .i64) (.fnil)))) y) (instH hp_42 x.2))) :=
  gd_quiet (E := E_42 N) (p := fun (x : aden ap_42 × hden hp_42) κ => p_42 N x (fun y => κ (Pat.inst (.tup (.fcons Z0 (.fcons (.int .i64) (.fnil)))) y))) mixed tyok (eok_42 N) Try.func42 (by kernel_rfl) (by kernel_rfl) (lok_42 N) (fun x k => run_42 N x k)

def ap_55 : List Pat := [.node (.fcons (.int .i64) (.fcons (.int .i64) (.fcons (.int .i64) (.fcons (.int .i64) (.fcons (.int .i64) (.fcons (.int .i64) (.fcons (.int .i64) (.fcons (.int .i64) (.fnil)))))))))]
def hp_55 : List (Option (Pat × Nat)) := []
abbrev Tp_55 (R : Type) : Type := (Y0 × Unit) × (Unit) → (Bool → Option R) → Option R
def Q_55 {R : Type} (x : (Y0 × Unit) × (Unit)) (κ0 : Bool → Option R) : Option R :=
let i56 := x.1.1.2.1
let i57 := x.1.1.2.2.1
let i59 := x.1.1.2.2.2.2.1
bif (decide (i56 ≤ 3)) then (
bif (decide (i57 ≤ 4)) then (
κ0 ((decide (i59 ≤ 80)))) else (
κ0 false)) else (
κ0 false)
def p_55 {R : Type} (N : Nat) (x : (Y0 × Unit) × (Unit)) (κ0 : Bool → Option R) : Option R := Q_55 x κ0
def EG_55 {R : Type} : Env R := Env.base QQ LN AA
def LG_55 {R : Type} : Loops R := Loops.none
def E_55 {R : Type} (N : Nat) : Env R := EG_55
theorem eok_55 {R : Type} (N : Nat) : EK Try.prog (E_55 (R := R) N) := ek_base _ _ _
def L_55 {R : Type} (N : Nat) : Loops R := LG_55
theorem lok_55 {R : Type} (N : Nat) : LOK 0 TT (E_55 (R := R) N) (drawAny TT WW) (L_55 N) (bodyOf Try.f55) := loops_nil (by kernel_rfl)
theorem grun_55 {R : Type} (x : aden ap_55 × hden hp_55) (k : KF R) : fnrun TT (EG_55) (drawAny TT WW) (LG_55) true Try.f55 (instA ap_55 x.1) (instH hp_55 x.2) k = Q_55 x (fun y => k (Pat.inst (.bool) y) (instH hp_55 x.2)) := by kernel_rfl
theorem run_55 {R : Type} (N : Nat) (x : aden ap_55 × hden hp_55) (k : KF R) : fnrun TT (E_55 (R := R) N) (drawAny TT WW) (L_55 N) true Try.f55 (instA ap_55 x.1) (instH hp_55 x.2) k = p_55 N x (fun y => k (Pat.inst (.bool) y) (instH hp_55 x.2)) := (grun_55 x k).trans (by kernel_rfl)
theorem good_55 {R : Type} (N : Nat) : GD (X := R) Try.prog QQ AA 55 ap_55 hp_55 (fun (x : aden ap_55 × hden hp_55) k => p_55 N x (fun y => k (Pat.inst (.bool) y) (instH hp_55 x.2))) :=
  gd_quiet (E := E_55 N) (p := fun (x : aden ap_55 × hden hp_55) κ => p_55 N x (fun y => κ (Pat.inst (.bool) y))) mixed tyok (eok_55 N) Try.func55 (by kernel_rfl) (by kernel_rfl) (lok_55 N) (fun x k => run_55 N x k)

def ap_43 : List Pat := [.int .i64]
def hp_43 : List (Option (Pat × Nat)) := []
abbrev Tp_43 (R : Type) : Type := (Int × Unit) × (Unit) → (((Unit × (Int × Unit)) × (Unit)) → Option R) → (((Unit × (Int × Unit)) × (Y2 × Unit)) → Option R) → Option R
def Q_43 {R : Type} (x : (Int × Unit) × (Unit)) (κ0 : ((Unit × (Int × Unit)) × (Unit)) → Option R) (κ1 : ((Unit × (Int × Unit)) × (Y2 × Unit)) → Option R) : Option R :=
let i65 := x.1.1
bif (decide (i65 < 0)) then (
κ0 (((), (1, ())), ())) else (
bif (decide (i65 > 4194304)) then (
κ0 (((), (1, ())), ())) else (
κ1 (((), (0, ())), ((i65, (0, (0, (0, ())))), ()))))
def p_43 {R : Type} (N : Nat) (x : (Int × Unit) × (Unit)) (κ0 : ((Unit × (Int × Unit)) × (Unit)) → Option R) (κ1 : ((Unit × (Int × Unit)) × (Y2 × Unit)) → Option R) : Option R := Q_43 x κ0 κ1
def EG_43 {R : Type} : Env R := Env.base QQ LN AA
def LG_43 {R : Type} : Loops R := Loops.none
def E_43 {R : Type} (N : Nat) : Env R := EG_43
theorem eok_43 {R : Type} (N : Nat) : EK Try.prog (E_43 (R := R) N) := ek_base _ _ _
def L_43 {R : Type} (N : Nat) : Loops R := LG_43
theorem lok_43 {R : Type} (N : Nat) : LOK 0 TT (E_43 (R := R) N) (drawAny TT WW) (L_43 N) (bodyOf Try.f43) := loops_nil (by kernel_rfl)
theorem grun_43 {R : Type} (x : aden ap_43 × hden hp_43) (k : KF R) : fnrun TT (EG_43) (drawAny TT WW) (LG_43) true Try.f43 (instA ap_43 x.1) (instH hp_43 x.2) k = Q_43 x (fun y => k (Pat.inst (.tup (.fcons (.nilp) (.fcons (.int .i64) (.fnil)))) y.1) (instH [] y.2)) (fun y => k (Pat.inst (.tup (.fcons (.ptr 0 []) (.fcons (.int .i64) (.fnil)))) y.1) (instH [some (Z1, 145)] y.2)) := by kernel_rfl
theorem run_43 {R : Type} (N : Nat) (x : aden ap_43 × hden hp_43) (k : KF R) : fnrun TT (E_43 (R := R) N) (drawAny TT WW) (L_43 N) true Try.f43 (instA ap_43 x.1) (instH hp_43 x.2) k = p_43 N x (fun y => k (Pat.inst (.tup (.fcons (.nilp) (.fcons (.int .i64) (.fnil)))) y.1) (instH [] y.2)) (fun y => k (Pat.inst (.tup (.fcons (.ptr 0 []) (.fcons (.int .i64) (.fnil)))) y.1) (instH [some (Z1, 145)] y.2)) := (grun_43 x k).trans (by kernel_rfl)
theorem good_43 {R : Type} (N : Nat) : GD (X := R) Try.prog QQ AA 43 ap_43 hp_43 (fun (x : aden ap_43 × hden hp_43) k => p_43 N x (fun y => k (Pat.inst (.tup (.fcons (.nilp) (.fcons (.int .i64) (.fnil)))) y.1) (instH [] y.2)) (fun y => k (Pat.inst (.tup (.fcons (.ptr 0 []) (.fcons (.int .i64) (.fnil)))) y.1) (instH [some (Z1, 145)] y.2))) :=
  gd_loud (E := E_43 N) (p := fun (x : aden ap_43 × hden hp_43) k => p_43 N x (fun y => k (Pat.inst (.tup (.fcons (.nilp) (.fcons (.int .i64) (.fnil)))) y.1) (instH [] y.2)) (fun y => k (Pat.inst (.tup (.fcons (.ptr 0 []) (.fcons (.int .i64) (.fnil)))) y.1) (instH [some (Z1, 145)] y.2))) mixed tyok (eok_43 N) Try.func43 (by kernel_rfl) (by kernel_rfl) (by kernel_rfl) (by kernel_rfl) (lok_43 N) (fun x k => run_43 N x k)

def ap_44 : List Pat := [.nilp, .int .i64]
def hp_44 : List (Option (Pat × Nat)) := []
abbrev Tp_44 (R : Type) : Type := (Unit × Int × Unit) × (Unit) → (((Unit × (Int × Unit)) × (Unit)) → Option R) → Option R
def Q_44 {R : Type} (x : (Unit × Int × Unit) × (Unit)) (κ0 : ((Unit × (Int × Unit)) × (Unit)) → Option R) : Option R :=
κ0 (((), (11, ())), ())
def p_44 {R : Type} (N : Nat) (x : (Unit × Int × Unit) × (Unit)) (κ0 : ((Unit × (Int × Unit)) × (Unit)) → Option R) : Option R := Q_44 x κ0
def EG_44 {R : Type} : Env R := Env.base QQ LN AA
def LG_44 {R : Type} : Loops R := Loops.none
def E_44 {R : Type} (N : Nat) : Env R := EG_44
theorem eok_44 {R : Type} (N : Nat) : EK Try.prog (E_44 (R := R) N) := ek_base _ _ _
def L_44 {R : Type} (N : Nat) : Loops R := LG_44
theorem lok_44 {R : Type} (N : Nat) : LOK 0 TT (E_44 (R := R) N) (drawAny TT WW) (L_44 N) (bodyOf Try.f44) := loops_nil (by kernel_rfl)
theorem grun_44 {R : Type} (x : aden ap_44 × hden hp_44) (k : KF R) : fnrun TT (EG_44) (drawAny TT WW) (LG_44) true Try.f44 (instA ap_44 x.1) (instH hp_44 x.2) k = Q_44 x (fun y => k (Pat.inst (.tup (.fcons (.nilp) (.fcons (.int .i64) (.fnil)))) y.1) (instH [] y.2)) := by kernel_rfl
theorem run_44 {R : Type} (N : Nat) (x : aden ap_44 × hden hp_44) (k : KF R) : fnrun TT (E_44 (R := R) N) (drawAny TT WW) (L_44 N) true Try.f44 (instA ap_44 x.1) (instH hp_44 x.2) k = p_44 N x (fun y => k (Pat.inst (.tup (.fcons (.nilp) (.fcons (.int .i64) (.fnil)))) y.1) (instH [] y.2)) := (grun_44 x k).trans (by kernel_rfl)
theorem good_44 {R : Type} (N : Nat) : GD (X := R) Try.prog QQ AA 44 ap_44 hp_44 (fun (x : aden ap_44 × hden hp_44) k => p_44 N x (fun y => k (Pat.inst (.tup (.fcons (.nilp) (.fcons (.int .i64) (.fnil)))) y.1) (instH [] y.2))) :=
  gd_loud (E := E_44 N) (p := fun (x : aden ap_44 × hden hp_44) k => p_44 N x (fun y => k (Pat.inst (.tup (.fcons (.nilp) (.fcons (.int .i64) (.fnil)))) y.1) (instH [] y.2))) mixed tyok (eok_44 N) Try.func44 (by kernel_rfl) (by kernel_rfl) (by kernel_rfl) (by kernel_rfl) (lok_44 N) (fun x k => run_44 N x k)

def ap_45 : List Pat := [.nilp, .node (.fcons (.int .i64) (.fcons (.int .i64) (.fcons (.int .i64) (.fcons (.int .i64) (.fcons (.int .i64) (.fcons (.int .i64) (.fcons (.int .i64) (.fcons (.int .i64) (.fnil)))))))))]
def hp_45 : List (Option (Pat × Nat)) := []
abbrev Tp_45 (R : Type) : Type := (Unit × Y0 × Unit) × (Unit) → (((Unit × (Int × Unit)) × (Unit)) → Option R) → Option R
def Q_45 {R : Type} (x : (Unit × Y0 × Unit) × (Unit)) (κ0 : ((Unit × (Int × Unit)) × (Unit)) → Option R) : Option R :=
κ0 (((), (11, ())), ())
def p_45 {R : Type} (N : Nat) (x : (Unit × Y0 × Unit) × (Unit)) (κ0 : ((Unit × (Int × Unit)) × (Unit)) → Option R) : Option R := Q_45 x κ0
def EG_45 {R : Type} : Env R := Env.base QQ LN AA
def LG_45 {R : Type} : Loops R := Loops.none
def E_45 {R : Type} (N : Nat) : Env R := EG_45
theorem eok_45 {R : Type} (N : Nat) : EK Try.prog (E_45 (R := R) N) := ek_base _ _ _
def L_45 {R : Type} (N : Nat) : Loops R := LG_45
theorem lok_45 {R : Type} (N : Nat) : LOK 0 TT (E_45 (R := R) N) (drawAny TT WW) (L_45 N) (bodyOf Try.f45) := loops_nil (by kernel_rfl)
theorem grun_45 {R : Type} (x : aden ap_45 × hden hp_45) (k : KF R) : fnrun TT (EG_45) (drawAny TT WW) (LG_45) true Try.f45 (instA ap_45 x.1) (instH hp_45 x.2) k = Q_45 x (fun y => k (Pat.inst (.tup (.fcons (.nilp) (.fcons (.int .i64) (.fnil)))) y.1) (instH [] y.2)) := by kernel_rfl
theorem run_45 {R : Type} (N : Nat) (x : aden ap_45 × hden hp_45) (k : KF R) : fnrun TT (E_45 (R := R) N) (drawAny TT WW) (L_45 N) true Try.f45 (instA ap_45 x.1) (instH hp_45 x.2) k = p_45 N x (fun y => k (Pat.inst (.tup (.fcons (.nilp) (.fcons (.int .i64) (.fnil)))) y.1) (instH [] y.2)) := (grun_45 x k).trans (by kernel_rfl)
theorem good_45 {R : Type} (N : Nat) : GD (X := R) Try.prog QQ AA 45 ap_45 hp_45 (fun (x : aden ap_45 × hden hp_45) k => p_45 N x (fun y => k (Pat.inst (.tup (.fcons (.nilp) (.fcons (.int .i64) (.fnil)))) y.1) (instH [] y.2))) :=
  gd_loud (E := E_45 N) (p := fun (x : aden ap_45 × hden hp_45) k => p_45 N x (fun y => k (Pat.inst (.tup (.fcons (.nilp) (.fcons (.int .i64) (.fnil)))) y.1) (instH [] y.2))) mixed tyok (eok_45 N) Try.func45 (by kernel_rfl) (by kernel_rfl) (by kernel_rfl) (by kernel_rfl) (lok_45 N) (fun x k => run_45 N x k)

def ap_44_v1 : List Pat := [.ptr 0 [], .int .i64]
def hp_44_v1 : List (Option (Pat × Nat)) := [some (Z1, 145)]
abbrev Tp_44_v1 (R : Type) : Type := (Unit × Int × Unit) × (Y2 × Unit) → (((Unit × (Int × Unit)) × (Y2 × Unit)) → Option R) → (((Unit × (Int × Unit)) × (Y2 × Y3 × (List (Nat → Int)) × Unit)) → Option R) → Option R
def Q_44_v1 {R : Type} (x : (Unit × Int × Unit) × (Y2 × Unit)) (κ0 : ((Unit × (Int × Unit)) × (Y2 × Unit)) → Option R) (κ1 : ((Unit × (Int × Unit)) × (Y2 × Y3 × (List (Nat → Int)) × Unit)) → Option R) : Option R :=
let i87 := x.1.2.1
let i88 := x.2.1.1
let i89 := x.2.1.2.1
let i90 := x.2.1.2.2.1
let i91 := x.2.1.2.2.2.1
bif (decide (i87 < 0)) then (
κ0 (((), (1, ())), x.2)) else (
let i92 : Int := subA .i64 i88 i89
bif (decide (i87 > i92)) then (
κ0 (((), (4, ())), x.2)) else (
let i93 : Int := addA .i64 i89 i87
let i94 : Int := maxA i90 i93
let i95 : Int := addA .i64 i91 1
bif decide (0 ≤ i87) then (
bif decide (i87 ≤ i87) then (
bif decide (((1024 : Nat) : Int) * i87 ≤ 281474976710656) then (
bif decide (i87 ≤ 9223372036854775807) then (
let l96 : (List (Nat → Int)) := List.replicate ((Int.toNat i87)) (Sch.zero (.arr 128 (.int .u64)))
κ1 (((), (0, ())), ((i88, (i93, (i94, (i95, ())))), ((), ((), (true, ()))), l96, ()))) else none) else none) else none) else none))
def p_44_v1 {R : Type} (N : Nat) (x : (Unit × Int × Unit) × (Y2 × Unit)) (κ0 : ((Unit × (Int × Unit)) × (Y2 × Unit)) → Option R) (κ1 : ((Unit × (Int × Unit)) × (Y2 × Y3 × (List (Nat → Int)) × Unit)) → Option R) : Option R := Q_44_v1 x κ0 κ1
def EG_44_v1 {R : Type} : Env R := Env.base QQ LN AA
def LG_44_v1 {R : Type} : Loops R := Loops.none
def E_44_v1 {R : Type} (N : Nat) : Env R := EG_44_v1
theorem eok_44_v1 {R : Type} (N : Nat) : EK Try.prog (E_44_v1 (R := R) N) := ek_base _ _ _
def L_44_v1 {R : Type} (N : Nat) : Loops R := LG_44_v1
theorem lok_44_v1 {R : Type} (N : Nat) : LOK 1 TT (E_44_v1 (R := R) N) (drawAny TT WW) (L_44_v1 N) (bodyOf Try.f44) := loops_nil (by kernel_rfl)
theorem grun_44_v1 {R : Type} (x : aden ap_44_v1 × hden hp_44_v1) (k : KF R) : fnrun TT (EG_44_v1) (drawAny TT WW) (LG_44_v1) true Try.f44 (instA ap_44_v1 x.1) (instH hp_44_v1 x.2) k = Q_44_v1 x (fun y => k (Pat.inst (.tup (.fcons (.nilp) (.fcons (.int .i64) (.fnil)))) y.1) (instH [some (Z1, 145)] y.2)) (fun y => k (Pat.inst (.tup (.fcons (.ptr 1 []) (.fcons (.int .i64) (.fnil)))) y.1) (instH J7 y.2)) := by kernel_rfl
theorem run_44_v1 {R : Type} (N : Nat) (x : aden ap_44_v1 × hden hp_44_v1) (k : KF R) : fnrun TT (E_44_v1 (R := R) N) (drawAny TT WW) (L_44_v1 N) true Try.f44 (instA ap_44_v1 x.1) (instH hp_44_v1 x.2) k = p_44_v1 N x (fun y => k (Pat.inst (.tup (.fcons (.nilp) (.fcons (.int .i64) (.fnil)))) y.1) (instH [some (Z1, 145)] y.2)) (fun y => k (Pat.inst (.tup (.fcons (.ptr 1 []) (.fcons (.int .i64) (.fnil)))) y.1) (instH J7 y.2)) := (grun_44_v1 x k).trans (by kernel_rfl)
theorem good_44_v1 {R : Type} (N : Nat) : GD (X := R) Try.prog QQ AA 44 ap_44_v1 hp_44_v1 (fun (x : aden ap_44_v1 × hden hp_44_v1) k => p_44_v1 N x (fun y => k (Pat.inst (.tup (.fcons (.nilp) (.fcons (.int .i64) (.fnil)))) y.1) (instH [some (Z1, 145)] y.2)) (fun y => k (Pat.inst (.tup (.fcons (.ptr 1 []) (.fcons (.int .i64) (.fnil)))) y.1) (instH J7 y.2))) :=
  gd_loud (E := E_44_v1 N) (p := fun (x : aden ap_44_v1 × hden hp_44_v1) k => p_44_v1 N x (fun y => k (Pat.inst (.tup (.fcons (.nilp) (.fcons (.int .i64) (.fnil)))) y.1) (instH [some (Z1, 145)] y.2)) (fun y => k (Pat.inst (.tup (.fcons (.ptr 1 []) (.fcons (.int .i64) (.fnil)))) y.1) (instH J7 y.2))) mixed tyok (eok_44_v1 N) Try.func44 (by kernel_rfl) (by kernel_rfl) (by kernel_rfl) (by kernel_rfl) (lok_44_v1 N) (fun x k => run_44_v1 N x k)

def ap_77 : List Pat := [.ptr 0 []]
def hp_77 : List (Option (Pat × Nat)) := J4
abbrev Tp_77 (R : Type) : Type := (Unit × Unit) × (Y3 × Y2 × (List (Nat → Int)) × Unit) → (Int → Option R) → Option R
def Q_77 {R : Type} (x : (Unit × Unit) × (Y3 × Y2 × (List (Nat → Int)) × Unit)) (κ0 : Int → Option R) : Option R :=
let l132 := x.2.2.2.1
let i133 : Int := (((List.length l132) : Nat) : Int)
κ0 i133
def p_77 {R : Type} (N : Nat) (x : (Unit × Unit) × (Y3 × Y2 × (List (Nat → Int)) × Unit)) (κ0 : Int → Option R) : Option R := Q_77 x κ0
def EG_77 {R : Type} : Env R := Env.base QQ LN AA
def LG_77 {R : Type} : Loops R := Loops.none
def E_77 {R : Type} (N : Nat) : Env R := EG_77
theorem eok_77 {R : Type} (N : Nat) : EK Try.prog (E_77 (R := R) N) := ek_base _ _ _
def L_77 {R : Type} (N : Nat) : Loops R := LG_77
theorem lok_77 {R : Type} (N : Nat) : LOK 3 TT (E_77 (R := R) N) (drawAny TT WW) (L_77 N) (bodyOf Try.f77) := loops_nil (by kernel_rfl)
theorem grun_77 {R : Type} (x : aden ap_77 × hden hp_77) (k : KF R) : fnrun TT (EG_77) (drawAny TT WW) (LG_77) true Try.f77 (instA ap_77 x.1) (instH hp_77 x.2) k = Q_77 x (fun y => k (Pat.inst (.int .i64) y) (instH hp_77 x.2)) := by kernel_rfl
theorem run_77 {R : Type} (N : Nat) (x : aden ap_77 × hden hp_77) (k : KF R) : fnrun TT (E_77 (R := R) N) (drawAny TT WW) (L_77 N) true Try.f77 (instA ap_77 x.1) (instH hp_77 x.2) k = p_77 N x (fun y => k (Pat.inst (.int .i64) y) (instH hp_77 x.2)) := (grun_77 x k).trans (by kernel_rfl)
theorem good_77 {R : Type} (N : Nat) : GD (X := R) Try.prog QQ AA 77 ap_77 hp_77 (fun (x : aden ap_77 × hden hp_77) k => p_77 N x (fun y => k (Pat.inst (.int .i64) y) (instH hp_77 x.2))) :=
  gd_quiet (E := E_77 N) (p := fun (x : aden ap_77 × hden hp_77) κ => p_77 N x (fun y => κ (Pat.inst (.int .i64) y))) mixed tyok (eok_77 N) Try.func77 (by kernel_rfl) (by kernel_rfl) (lok_77 N) (fun x k => run_77 N x k)

def ap_45_v1 : List Pat := [.ptr 0 [], .node (.fcons (.int .i64) (.fcons (.int .i64) (.fcons (.int .i64) (.fcons (.int .i64) (.fcons (.int .i64) (.fcons (.int .i64) (.fcons (.int .i64) (.fcons (.int .i64) (.fnil)))))))))]
def hp_45_v1 : List (Option (Pat × Nat)) := J4
abbrev Tp_45_v1 (R : Type) : Type := (Unit × Y0 × Unit) × (Y3 × Y2 × (List (Nat → Int)) × Unit) → (((Unit × (Int × Unit)) × (Y3 × Y2 × (List (Nat → Int)) × Unit)) → Option R) → (((Unit × (Int × Unit)) × (Y3 × Y2 × (List (Nat → Int)) × (Unit × (Y0 × Unit)) × Unit)) → Option R) → Option R
def Q_45_v1 {R : Type} (q_77 : Tp_77 R) (x : (Unit × Y0 × Unit) × (Y3 × Y2 × (List (Nat → Int)) × Unit)) (κ0 : ((Unit × (Int × Unit)) × (Y3 × Y2 × (List (Nat → Int)) × Unit)) → Option R) (κ1 : ((Unit × (Int × Unit)) × (Y3 × Y2 × (List (Nat → Int)) × (Unit × (Y0 × Unit)) × Unit)) → Option R) : Option R :=
let i115 := x.1.2.1.2.2.1
let i117 := x.1.2.1.2.2.2.2.1
let l126 := x.2.2.2.1
bif (decide (i115 < 1)) then (
κ0 (((), (11, ())), (x.2.1, x.2.2.1, l126, ()))) else (
q_77 (((), ()), (x.2.1, x.2.2.1, l126, ())) (fun y134 =>
let i135 : Int := y134
bif (decide (i135 < i117)) then (
κ0 (((), (9, ())), (x.2.1, x.2.2.1, l126, ()))) else (
κ1 (((), (0, ())), (x.2.1, x.2.2.1, l126, x.1, ())))))
def p_45_v1 {R : Type} (N : Nat) (x : (Unit × Y0 × Unit) × (Y3 × Y2 × (List (Nat → Int)) × Unit)) (κ0 : ((Unit × (Int × Unit)) × (Y3 × Y2 × (List (Nat → Int)) × Unit)) → Option R) (κ1 : ((Unit × (Int × Unit)) × (Y3 × Y2 × (List (Nat → Int)) × (Unit × (Y0 × Unit)) × Unit)) → Option R) : Option R := Q_45_v1 (p_77 N) x κ0 κ1
def EG_45_v1 {R : Type} (q_77 : Tp_77 R) : Env R := (Env.base QQ LN AA).add 77 ap_77 hp_77 (fun (x : aden ap_77 × hden hp_77) k => q_77 x (fun y => k (Pat.inst (.int .i64) y) (instH hp_77 x.2)))
def LG_45_v1 {R : Type} : Loops R := Loops.none
def E_45_v1 {R : Type} (N : Nat) : Env R := EG_45_v1 (p_77 N)
theorem eok_45_v1 {R : Type} (N : Nat) : EK Try.prog (E_45_v1 (R := R) N) := ek_add (ek_base _ _ _) (good_77 N)
def L_45_v1 {R : Type} (N : Nat) : Loops R := LG_45_v1
theorem lok_45_v1 {R : Type} (N : Nat) : LOK 3 TT (E_45_v1 (R := R) N) (drawAny TT WW) (L_45_v1 N) (bodyOf Try.f45) := loops_nil (by kernel_rfl)
theorem grun_45_v1 {R : Type} (q_77 : Tp_77 R) (x : aden ap_45_v1 × hden hp_45_v1) (k : KF R) : fnrun TT (EG_45_v1 q_77) (drawAny TT WW) (LG_45_v1) true Try.f45 (instA ap_45_v1 x.1) (instH hp_45_v1 x.2) k = Q_45_v1 q_77 x (fun y => k (Pat.inst (.tup (.fcons (.nilp) (.fcons (.int .i64) (.fnil)))) y.1) (instH J4 y.2)) (fun y => k (Pat.inst (.tup (.fcons (.ptr 3 []) (.fcons (.int .i64) (.fnil)))) y.1) (instH J8 y.2)) := by kernel_rfl
theorem run_45_v1 {R : Type} (N : Nat) (x : aden ap_45_v1 × hden hp_45_v1) (k : KF R) : fnrun TT (E_45_v1 (R := R) N) (drawAny TT WW) (L_45_v1 N) true Try.f45 (instA ap_45_v1 x.1) (instH hp_45_v1 x.2) k = p_45_v1 N x (fun y => k (Pat.inst (.tup (.fcons (.nilp) (.fcons (.int .i64) (.fnil)))) y.1) (instH J4 y.2)) (fun y => k (Pat.inst (.tup (.fcons (.ptr 3 []) (.fcons (.int .i64) (.fnil)))) y.1) (instH J8 y.2)) := (grun_45_v1 (p_77 N) x k).trans (by kernel_rfl)
theorem good_45_v1 {R : Type} (N : Nat) : GD (X := R) Try.prog QQ AA 45 ap_45_v1 hp_45_v1 (fun (x : aden ap_45_v1 × hden hp_45_v1) k => p_45_v1 N x (fun y => k (Pat.inst (.tup (.fcons (.nilp) (.fcons (.int .i64) (.fnil)))) y.1) (instH J4 y.2)) (fun y => k (Pat.inst (.tup (.fcons (.ptr 3 []) (.fcons (.int .i64) (.fnil)))) y.1) (instH J8 y.2))) :=
  gd_loud (E := E_45_v1 N) (p := fun (x : aden ap_45_v1 × hden hp_45_v1) k => p_45_v1 N x (fun y => k (Pat.inst (.tup (.fcons (.nilp) (.fcons (.int .i64) (.fnil)))) y.1) (instH J4 y.2)) (fun y => k (Pat.inst (.tup (.fcons (.ptr 3 []) (.fcons (.int .i64) (.fnil)))) y.1) (instH J8 y.2))) mixed tyok (eok_45_v1 N) Try.func45 (by kernel_rfl) (by kernel_rfl) (by kernel_rfl) (by kernel_rfl) (lok_45_v1 N) (fun x k => run_45_v1 N x k)

def ap_14 : List Pat := [.node (.fcons (.int .i64) (.fcons (.int .i64) (.fcons (.int .i64) (.fcons (.int .i64) (.fcons (.int .i64) (.fnil))))))]
def hp_14 : List (Option (Pat × Nat)) := []
abbrev Tp_14 (R : Type) : Type := ((Int × Y2) × Unit) × (Unit) → ((Unit × (Unit)) → Option R) → ((Unit × Y1) → Option R) → Option R
def Q_14 {R : Type} (q_42 : Tp_42 R) (q_55 : Tp_55 R) (q_43 : Tp_43 R) (q_44 : Tp_44 R) (q_45 : Tp_45 R) (q_44_v1 : Tp_44_v1 R) (q_45_v1 : Tp_45_v1 R) (x : ((Int × Y2) × Unit) × (Unit)) (κ0 : (Unit × (Unit)) → Option R) (κ1 : (Unit × Y1) → Option R) : Option R :=
q_42 (x.1, ()) (fun y45 =>
let i50 := y45.1.2.2.2.2.1
let i54 := y45.2.1
bif (i54 != 0) then (
κ0 ((), ())) else (
q_55 ((y45.1, ()), ()) (fun y63 =>
let b64 : Bool := y63
bif (!b64) then (
κ0 ((), ())) else (
q_43 ((i50, ()), ()) (fun y66 =>
q_44 (((), i50, ()), ()) (fun y69 =>
q_45 (((), y45.1, ()), ()) (fun y79 =>
κ0 ((), ())))) (fun y81 =>
q_44_v1 (((), i50, ()), y81.2) (fun y97 =>
q_45 (((), y45.1, ()), ()) (fun y103 =>
κ0 ((), ()))) (fun y105 =>
let l112 := y105.2.2.2.1
q_45_v1 (((), y45.1, ()), (y105.2.2.1, y105.2.1, l112, ())) (fun y136 =>
κ0 ((), ())) (fun y144 =>
let l151 := y144.2.2.2.1
κ1 ((), (y144.2.2.2.2.1, y144.2.1, y144.2.2.1, l151, ())))))))))
def p_14 {R : Type} (N : Nat) (x : ((Int × Y2) × Unit) × (Unit)) (κ0 : (Unit × (Unit)) → Option R) (κ1 : (Unit × Y1) → Option R) : Option R := Q_14 (p_42 N) (p_55 N) (p_43 N) (p_44 N) (p_45 N) (p_44_v1 N) (p_45_v1 N) x κ0 κ1
def EG_14 {R : Type} (q_42 : Tp_42 R) (q_55 : Tp_55 R) (q_43 : Tp_43 R) (q_44 : Tp_44 R) (q_45 : Tp_45 R) (q_44_v1 : Tp_44_v1 R) (q_45_v1 : Tp_45_v1 R) : Env R := (((((((Env.base QQ LN AA).add 42 ap_42 hp_42 (fun (x : aden ap_42 × hden hp_42) k => q_42 x (fun y => k (Pat.inst (.tup (.fcons Z0 (.fcons (.int .i64) (.fnil)))) y) (instH hp_42 x.2)))).add 55 ap_55 hp_55 (fun (x : aden ap_55 × hden hp_55) k => q_55 x (fun y => k (Pat.inst (.bool) y) (instH hp_55 x.2)))).add 43 ap_43 hp_43 (fun (x : aden ap_43 × hden hp_43) k => q_43 x (fun y => k (Pat.inst (.tup (.fcons (.nilp) (.fcons (.int .i64) (.fnil)))) y.1) (instH [] y.2)) (fun y => k (Pat.inst (.tup (.fcons (.ptr 0 []) (.fcons (.int .i64) (.fnil)))) y.1) (instH [some (Z1, 145)] y.2)))).add 44 ap_44 hp_44 (fun (x : aden ap_44 × hden hp_44) k => q_44 x (fun y => k (Pat.inst (.tup (.fcons (.nilp) (.fcons (.int .i64) (.fnil)))) y.1) (instH [] y.2)))).add 45 ap_45 hp_45 (fun (x : aden ap_45 × hden hp_45) k => q_45 x (fun y => k (Pat.inst (.tup (.fcons (.nilp) (.fcons (.int .i64) (.fnil)))) y.1) (instH [] y.2)))).add 44 ap_44_v1 hp_44_v1 (fun (x : aden ap_44_v1 × hden hp_44_v1) k => q_44_v1 x (fun y => k (Pat.inst (.tup (.fcons (.nilp) (.fcons (.int .i64) (.fnil)))) y.1) (instH [some (Z1, 145)] y.2)) (fun y => k (Pat.inst (.tup (.fcons (.ptr 1 []) (.fcons (.int .i64) (.fnil)))) y.1) (instH J7 y.2)))).add 45 ap_45_v1 hp_45_v1 (fun (x : aden ap_45_v1 × hden hp_45_v1) k => q_45_v1 x (fun y => k (Pat.inst (.tup (.fcons (.nilp) (.fcons (.int .i64) (.fnil)))) y.1) (instH J4 y.2)) (fun y => k (Pat.inst (.tup (.fcons (.ptr 3 []) (.fcons (.int .i64) (.fnil)))) y.1) (instH J8 y.2)))
def LG_14 {R : Type} : Loops R := Loops.none
def E_14 {R : Type} (N : Nat) : Env R := EG_14 (p_42 N) (p_55 N) (p_43 N) (p_44 N) (p_45 N) (p_44_v1 N) (p_45_v1 N)
theorem eok_14 {R : Type} (N : Nat) : EK Try.prog (E_14 (R := R) N) := ek_add (ek_add (ek_add (ek_add (ek_add (ek_add (ek_add (ek_base _ _ _) (good_42 N)) (good_55 N)) (good_43 N)) (good_44 N)) (good_45 N)) (good_44_v1 N)) (good_45_v1 N)
def L_14 {R : Type} (N : Nat) : Loops R := LG_14
theorem lok_14 {R : Type} (N : Nat) : LOK 0 TT (E_14 (R := R) N) (drawAny TT WW) (L_14 N) (bodyOf Try.f14) := loops_nil (by kernel_rfl)
theorem grun_14 {R : Type} (q_42 : Tp_42 R) (q_55 : Tp_55 R) (q_43 : Tp_43 R) (q_44 : Tp_44 R) (q_45 : Tp_45 R) (q_44_v1 : Tp_44_v1 R) (q_45_v1 : Tp_45_v1 R) (x : aden ap_14 × hden hp_14) (k : KF R) : fnrun TT (EG_14 q_42 q_55 q_43 q_44 q_45 q_44_v1 q_45_v1) (drawAny TT WW) (LG_14) true Try.f14 (instA ap_14 x.1) (instH hp_14 x.2) k = Q_14 q_42 q_55 q_43 q_44 q_45 q_44_v1 q_45_v1 x (fun y => k (Pat.inst (.nilp) y.1) (instH [] y.2)) (fun y => k (Pat.inst (.ptr 0 []) y.1) (instH J0 y.2)) := by kernel_rfl
theorem run_14 {R : Type} (N : Nat) (x : aden ap_14 × hden hp_14) (k : KF R) : fnrun TT (E_14 (R := R) N) (drawAny TT WW) (L_14 N) true Try.f14 (instA ap_14 x.1) (instH hp_14 x.2) k = p_14 N x (fun y => k (Pat.inst (.nilp) y.1) (instH [] y.2)) (fun y => k (Pat.inst (.ptr 0 []) y.1) (instH J0 y.2)) := (grun_14 (p_42 N) (p_55 N) (p_43 N) (p_44 N) (p_45 N) (p_44_v1 N) (p_45_v1 N) x k).trans (by kernel_rfl)
theorem good_14 {R : Type} (N : Nat) : GD (X := R) Try.prog QQ AA 14 ap_14 hp_14 (fun (x : aden ap_14 × hden hp_14) k => p_14 N x (fun y => k (Pat.inst (.nilp) y.1) (instH [] y.2)) (fun y => k (Pat.inst (.ptr 0 []) y.1) (instH J0 y.2))) :=
  gd_loud (E := E_14 N) (p := fun (x : aden ap_14 × hden hp_14) k => p_14 N x (fun y => k (Pat.inst (.nilp) y.1) (instH [] y.2)) (fun y => k (Pat.inst (.ptr 0 []) y.1) (instH J0 y.2))) mixed tyok (eok_14 N) Try.func14 (by kernel_rfl) (by kernel_rfl) (by kernel_rfl) (by kernel_rfl) (lok_14 N) (fun x k => run_14 N x k)

def ap_40 : List Pat := [.nilp]
def hp_40 : List (Option (Pat × Nat)) := []
abbrev Tp_40 (R : Type) : Type := (Unit × Unit) × (Unit) → ((Int × (Unit)) → Option R) → Option R
def Q_40 {R : Type} (x : (Unit × Unit) × (Unit)) (κ0 : (Int × (Unit)) → Option R) : Option R :=
κ0 (11, ())
def p_40 {R : Type} (N : Nat) (x : (Unit × Unit) × (Unit)) (κ0 : (Int × (Unit)) → Option R) : Option R := Q_40 x κ0
def EG_40 {R : Type} : Env R := Env.base QQ LN AA
def LG_40 {R : Type} : Loops R := Loops.none
def E_40 {R : Type} (N : Nat) : Env R := EG_40
theorem eok_40 {R : Type} (N : Nat) : EK Try.prog (E_40 (R := R) N) := ek_base _ _ _
def L_40 {R : Type} (N : Nat) : Loops R := LG_40
theorem loops_40 : loopsIn (bodyOf Try.f40) = [(4, loopAt 4 (bodyOf Try.f40)), (7, loopAt 7 (bodyOf Try.f40))] := by kernel_rfl
theorem lok_40 {R : Type} (N : Nat) : LOK 0 TT (E_40 (R := R) N) (drawAny TT WW) (L_40 N) (bodyOf Try.f40) := loops_all loops_40 (by
  simp only [List.forall_mem_cons, List.not_mem_nil, false_implies, implies_true, and_true]
  exact ⟨rounds_none (fun _ _ => rfl), rounds_none (fun _ _ => rfl)⟩)
theorem grun_40 {R : Type} (x : aden ap_40 × hden hp_40) (k : KF R) : fnrun TT (EG_40) (drawAny TT WW) (LG_40) true Try.f40 (instA ap_40 x.1) (instH hp_40 x.2) k = Q_40 x (fun y => k (Pat.inst (.int .i64) y.1) (instH [] y.2)) := by kernel_rfl
theorem run_40 {R : Type} (N : Nat) (x : aden ap_40 × hden hp_40) (k : KF R) : fnrun TT (E_40 (R := R) N) (drawAny TT WW) (L_40 N) true Try.f40 (instA ap_40 x.1) (instH hp_40 x.2) k = p_40 N x (fun y => k (Pat.inst (.int .i64) y.1) (instH [] y.2)) := (grun_40 x k).trans (by kernel_rfl)
theorem good_40 {R : Type} (N : Nat) : GD (X := R) Try.prog QQ AA 40 ap_40 hp_40 (fun (x : aden ap_40 × hden hp_40) k => p_40 N x (fun y => k (Pat.inst (.int .i64) y.1) (instH [] y.2))) :=
  gd_loud (E := E_40 N) (p := fun (x : aden ap_40 × hden hp_40) k => p_40 N x (fun y => k (Pat.inst (.int .i64) y.1) (instH [] y.2))) mixed tyok (eok_40 N) Try.func40 (by kernel_rfl) (by kernel_rfl) (by kernel_rfl) (by kernel_rfl) (lok_40 N) (fun x k => run_40 N x k)

def ap_33 : List Pat := [.node (.fcons (.int .i64) (.fcons (.int .i64) (.fcons (.int .i64) (.fcons (.int .i64) (.fcons (.int .i64) (.fcons (.int .i64) (.fcons (.int .i64) (.fcons (.int .i64) (.fnil))))))))), .node (.fcons (.int .i64) (.fcons (.int .i64) (.fnil))), .int .i64]
def hp_33 : List (Option (Pat × Nat)) := []
abbrev Tp_33 (R : Type) : Type := (Y0 × (Int × (Int × Unit)) × Int × Unit) × (Unit) → ((Unit × (Y9 × Unit)) → Option R) → Option R
def Q_33 {R : Type} (x : (Y0 × (Int × (Int × Unit)) × Int × Unit) × (Unit)) (κ0 : (Unit × (Y9 × Unit)) → Option R) : Option R :=
let i188 := x.1.2.2.1
κ0 ((), ((x.1.1, (x.1.2.1, (i188, (0, ((Sch.zero (.arr 128 (.int .u64))), ()))))), ()))
def p_33 {R : Type} (N : Nat) (x : (Y0 × (Int × (Int × Unit)) × Int × Unit) × (Unit)) (κ0 : (Unit × (Y9 × Unit)) → Option R) : Option R := Q_33 x κ0
def EG_33 {R : Type} : Env R := Env.base QQ LN AA
def LG_33 {R : Type} : Loops R := Loops.none
def E_33 {R : Type} (N : Nat) : Env R := EG_33
theorem eok_33 {R : Type} (N : Nat) : EK Try.prog (E_33 (R := R) N) := ek_base _ _ _
def L_33 {R : Type} (N : Nat) : Loops R := LG_33
theorem lok_33 {R : Type} (N : Nat) : LOK 0 TT (E_33 (R := R) N) (drawAny TT WW) (L_33 N) (bodyOf Try.f33) := loops_nil (by kernel_rfl)
theorem grun_33 {R : Type} (x : aden ap_33 × hden hp_33) (k : KF R) : fnrun TT (EG_33) (drawAny TT WW) (LG_33) true Try.f33 (instA ap_33 x.1) (instH hp_33 x.2) k = Q_33 x (fun y => k (Pat.inst (.ptr 0 []) y.1) (instH hp_33 x.2 ++ instH [some (Z3, 132)] y.2)) := by kernel_rfl
theorem run_33 {R : Type} (N : Nat) (x : aden ap_33 × hden hp_33) (k : KF R) : fnrun TT (E_33 (R := R) N) (drawAny TT WW) (L_33 N) true Try.f33 (instA ap_33 x.1) (instH hp_33 x.2) k = p_33 N x (fun y => k (Pat.inst (.ptr 0 []) y.1) (instH hp_33 x.2 ++ instH [some (Z3, 132)] y.2)) := (grun_33 x k).trans (by kernel_rfl)
theorem good_33 {R : Type} (N : Nat) : GD (X := R) Try.prog QQ AA 33 ap_33 hp_33 (fun (x : aden ap_33 × hden hp_33) k => p_33 N x (fun y => k (Pat.inst (.ptr 0 []) y.1) (instH hp_33 x.2 ++ instH [some (Z3, 132)] y.2))) :=
  gd_adds (E := E_33 N) (p := fun (x : aden ap_33 × hden hp_33) κ => p_33 N x (fun y => κ (Pat.inst (.ptr 0 []) y.1) (instH [some (Z3, 132)] y.2))) mixed tyok (eok_33 N) Try.func33 (by kernel_rfl) (by kernel_rfl) (by kernel_rfl) (lok_33 N) (fun x k => run_33 N x k)

def ap_64 : List Pat := [.node (.fcons (.int .i64) (.fcons (.int .i64) (.fcons (.int .i64) (.fcons (.int .i64) (.fcons (.int .i64) (.fcons (.int .i64) (.fcons (.int .i64) (.fcons (.int .i64) (.fnil))))))))), .node (.fcons (.int .i64) (.fcons (.int .i64) (.fnil)))]
def hp_64 : List (Option (Pat × Nat)) := []
abbrev Tp_64 (R : Type) : Type := (Y0 × (Int × (Int × Unit)) × Unit) × (Unit) → (Bool → Option R) → Option R
def Q_64 {R : Type} (x : (Y0 × (Int × (Int × Unit)) × Unit) × (Unit)) (κ0 : Bool → Option R) : Option R :=
let i265 := x.1.1.1
let i273 := x.1.2.1.1
let i274 := x.1.2.1.2.1
bif (i265 == 2) then (
κ0 true) else (
bif (i265 == 3) then (
bif (i273 == 0) then (
κ0 ((decide (i274 < 2)))) else (
κ0 false)) else (
κ0 false))
def p_64 {R : Type} (N : Nat) (x : (Y0 × (Int × (Int × Unit)) × Unit) × (Unit)) (κ0 : Bool → Option R) : Option R := Q_64 x κ0
def EG_64 {R : Type} : Env R := Env.base QQ LN AA
def LG_64 {R : Type} : Loops R := Loops.none
def E_64 {R : Type} (N : Nat) : Env R := EG_64
theorem eok_64 {R : Type} (N : Nat) : EK Try.prog (E_64 (R := R) N) := ek_base _ _ _
def L_64 {R : Type} (N : Nat) : Loops R := LG_64
theorem lok_64 {R : Type} (N : Nat) : LOK 0 TT (E_64 (R := R) N) (drawAny TT WW) (L_64 N) (bodyOf Try.f64) := loops_nil (by kernel_rfl)
theorem grun_64 {R : Type} (x : aden ap_64 × hden hp_64) (k : KF R) : fnrun TT (EG_64) (drawAny TT WW) (LG_64) true Try.f64 (instA ap_64 x.1) (instH hp_64 x.2) k = Q_64 x (fun y => k (Pat.inst (.bool) y) (instH hp_64 x.2)) := by kernel_rfl
theorem run_64 {R : Type} (N : Nat) (x : aden ap_64 × hden hp_64) (k : KF R) : fnrun TT (E_64 (R := R) N) (drawAny TT WW) (L_64 N) true Try.f64 (instA ap_64 x.1) (instH hp_64 x.2) k = p_64 N x (fun y => k (Pat.inst (.bool) y) (instH hp_64 x.2)) := (grun_64 x k).trans (by kernel_rfl)
theorem good_64 {R : Type} (N : Nat) : GD (X := R) Try.prog QQ AA 64 ap_64 hp_64 (fun (x : aden ap_64 × hden hp_64) k => p_64 N x (fun y => k (Pat.inst (.bool) y) (instH hp_64 x.2))) :=
  gd_quiet (E := E_64 N) (p := fun (x : aden ap_64 × hden hp_64) κ => p_64 N x (fun y => κ (Pat.inst (.bool) y))) mixed tyok (eok_64 N) Try.func64 (by kernel_rfl) (by kernel_rfl) (lok_64 N) (fun x k => run_64 N x k)

def ap_113 : List Pat := [.node (.fcons (.int .i64) (.fcons (.int .i64) (.fcons (.int .i64) (.fcons (.int .i64) (.fcons (.int .i64) (.fcons (.int .i64) (.fcons (.int .i64) (.fcons (.int .i64) (.fnil)))))))))]
def hp_113 : List (Option (Pat × Nat)) := []
abbrev Tp_113 (R : Type) : Type := (Y0 × Unit) × (Unit) → (Int → Option R) → Option R
def Q_113 {R : Type} (x : (Y0 × Unit) × (Unit)) (κ0 : Int → Option R) : Option R :=
let i319 := x.1.1.1
let i327 : Int := subA .i64 i319 1
κ0 i327
def p_113 {R : Type} (N : Nat) (x : (Y0 × Unit) × (Unit)) (κ0 : Int → Option R) : Option R := Q_113 x κ0
def EG_113 {R : Type} : Env R := Env.base QQ LN AA
def LG_113 {R : Type} : Loops R := Loops.none
def E_113 {R : Type} (N : Nat) : Env R := EG_113
theorem eok_113 {R : Type} (N : Nat) : EK Try.prog (E_113 (R := R) N) := ek_base _ _ _
def L_113 {R : Type} (N : Nat) : Loops R := LG_113
theorem lok_113 {R : Type} (N : Nat) : LOK 0 TT (E_113 (R := R) N) (drawAny TT WW) (L_113 N) (bodyOf Try.f113) := loops_nil (by kernel_rfl)
theorem grun_113 {R : Type} (x : aden ap_113 × hden hp_113) (k : KF R) : fnrun TT (EG_113) (drawAny TT WW) (LG_113) true Try.f113 (instA ap_113 x.1) (instH hp_113 x.2) k = Q_113 x (fun y => k (Pat.inst (.int .i64) y) (instH hp_113 x.2)) := by kernel_rfl
theorem run_113 {R : Type} (N : Nat) (x : aden ap_113 × hden hp_113) (k : KF R) : fnrun TT (E_113 (R := R) N) (drawAny TT WW) (L_113 N) true Try.f113 (instA ap_113 x.1) (instH hp_113 x.2) k = p_113 N x (fun y => k (Pat.inst (.int .i64) y) (instH hp_113 x.2)) := (grun_113 x k).trans (by kernel_rfl)
theorem good_113 {R : Type} (N : Nat) : GD (X := R) Try.prog QQ AA 113 ap_113 hp_113 (fun (x : aden ap_113 × hden hp_113) k => p_113 N x (fun y => k (Pat.inst (.int .i64) y) (instH hp_113 x.2))) :=
  gd_quiet (E := E_113 N) (p := fun (x : aden ap_113 × hden hp_113) κ => p_113 N x (fun y => κ (Pat.inst (.int .i64) y))) mixed tyok (eok_113 N) Try.func113 (by kernel_rfl) (by kernel_rfl) (lok_113 N) (fun x k => run_113 N x k)

def lv_103_4 : Live := [(8, none), (10, none), (26, none), (27, none)]
def pt_103_4 : SPat := ⟨[(8, .ptr 0 []), (10, .ptr 1 []), (26, .vec (.int .i64) 7), (27, .int .i64)], J10⟩
def px_103_4_0 : SPat := ⟨[(8, .ptr 0 []), (10, .ptr 1 [])], J10⟩
def lo_103_4 : Exit → Live
  | .exit 0 => [(8, none), (10, none)]
  | _ => []
def ap_103 : List Pat := [.node (.fcons (.int .i64) (.fcons (.int .i64) (.fcons (.int .i64) (.fcons (.int .i64) (.fcons (.int .i64) (.fcons (.int .i64) (.fcons (.int .i64) (.fcons (.int .i64) (.fnil))))))))), .node (.fcons (.int .i64) (.fcons (.int .i64) (.fnil))), .int .i64, .int .i64]
def hp_103 : List (Option (Pat × Nat)) := []
abbrev Tl_103_4 (R : Type) : Type := ((Unit × Unit × (Nat → Int) × Int × Unit) × Y6) → (Y22 → Option R) → Option R
abbrev Tp_103 (R : Type) : Type := (Y0 × (Int × (Int × Unit)) × Int × Int × Unit) × (Unit) → ((Nat → Int) → Option R) → Option R
def C_103_4 {R : Type} (rec : ((Unit × Unit × (Nat → Int) × Int × Unit) × Y6) → Option R) (x : ((Unit × Unit × (Nat → Int) × Int × Unit) × Y6)) (κ0 : Y22 → Option R) : Option R :=
let a331 := x.1.2.2.1
let i332 := x.1.2.2.2.1
let a333 := x.2.1
let a334 := x.2.2.1
bif (decide (i332 < 7)) then (
bif decide (0 ≤ i332) then (
bif decide (i332 < (7 : Int)) then (
let i335 : Int := (a331 ((Int.toNat i332)))
let i336 : Int := IntKind.wrap .u64 i335
bif decide (0 ≤ i332) then (
bif decide (i332 < (128 : Int)) then (
let a337 : (Nat → Int) := (upd a334 ((Int.toNat i332)) i336)
let i338 : Int := addA .i64 i332 1
rec (((), (), a331, i338, ()), (a333, a337, ()))) else none) else none) else none) else none) else (
κ0 (((), (), ()), (a333, a334, ())))
def B_103_4 {R : Type} (N : Nat) (rec : ((Unit × Unit × (Nat → Int) × Int × Unit) × Y6) → Option R) (x : ((Unit × Unit × (Nat → Int) × Int × Unit) × Y6)) (κ0 : Y22 → Option R) : Option R := C_103_4 rec x κ0
def l_103_4 {R : Type} (N : Nat) : Nat → ((Unit × Unit × (Nat → Int) × Int × Unit) × Y6) → (Y22 → Option R) → Option R
  | 0, _, _ => none
  | n + 1, x, κ0 => B_103_4 N (fun y => l_103_4 N n y κ0) x κ0
def Q_103 {R : Type} (q_113 : Tp_113 R) (m_103_4 : Tl_103_4 R) (x : (Y0 × (Int × (Int × Unit)) × Int × Int × Unit) × (Unit)) (κ0 : (Nat → Int) → Option R) : Option R :=
let i308 := x.1.1.2.1
let i311 := x.1.1.2.2.2.2.1
let i315 := x.1.2.1.1
let i316 := x.1.2.1.2.1
let i317 := x.1.2.2.1
let i318 := x.1.2.2.2.1
q_113 ((x.1.1, ()), ()) (fun y328 =>
let i329 : Int := y328
let a330 : (Nat → Int) := (upd ((upd ((upd ((upd ((upd ((upd ((upd ((Sch.zero (.arr 7 (.int .i64)))) 0 i315)) 1 i317)) 2 i316)) 3 i311)) 4 i308)) 5 i329)) 6 i318)
m_103_4 (((), (), a330, 0, ()), ((Sch.zero (.arr 128 (.int .u64))), (Sch.zero (.arr 128 (.int .u64))), ())) (fun y339 =>
let a341 := y339.2.2.1
κ0 a341))
def p_103 {R : Type} (N : Nat) (x : (Y0 × (Int × (Int × Unit)) × Int × Int × Unit) × (Unit)) (κ0 : (Nat → Int) → Option R) : Option R := Q_103 (p_113 N) (l_103_4 N N) x κ0
def EG_103 {R : Type} (q_113 : Tp_113 R) : Env R := (Env.base QQ LN AA).add 113 ap_113 hp_113 (fun (x : aden ap_113 × hden hp_113) k => q_113 x (fun y => k (Pat.inst (.int .i64) y) (instH hp_113 x.2)))
def LG_103 {R : Type} (m_103_4 : Tl_103_4 R) : Loops R := (Loops.none).add 4 (loopBy 0 lv_103_4 pt_103_4 (fun x k => m_103_4 x (fun y => k (.exit 0) (px_103_4_0.inst y))))
def E_103 {R : Type} (N : Nat) : Env R := EG_103 (p_113 N)
theorem eok_103 {R : Type} (N : Nat) : EK Try.prog (E_103 (R := R) N) := ek_add (ek_base _ _ _) (good_113 N)
def L_103 {R : Type} (N : Nat) : Loops R := LG_103 (l_103_4 N N)
theorem gstep_103_4 {R : Type} (q_113 : Tp_113 R) (m_103_4 : Tl_103_4 R) (n : Nat) (x : pt_103_4.den) (k : Exit → St → Option R) : iter 0 lv_103_4 lo_103_4 (aexec TT (EG_103 q_113) (drawAny TT WW) (LG_103 m_103_4) (loopAt 4 (bodyOf Try.f103))) (n + 1) (pt_103_4.inst x) k = C_103_4 (fun y => iter 0 lv_103_4 lo_103_4 (aexec TT (EG_103 q_113) (drawAny TT WW) (LG_103 m_103_4) (loopAt 4 (bodyOf Try.f103))) n (pt_103_4.inst y) k) x (fun y => k (.exit 0) (px_103_4_0.inst y)) := by kernel_rfl
theorem step_103_4 {R : Type} (N n : Nat) (x : pt_103_4.den) (k : Exit → St → Option R) : iter 0 lv_103_4 lo_103_4 (aexec TT (E_103 (R := R) N) (drawAny TT WW) (L_103 N) (loopAt 4 (bodyOf Try.f103))) (n + 1) (pt_103_4.inst x) k = B_103_4 N (fun y => iter 0 lv_103_4 lo_103_4 (aexec TT (E_103 (R := R) N) (drawAny TT WW) (L_103 N) (loopAt 4 (bodyOf Try.f103))) n (pt_103_4.inst y) k) x (fun y => k (.exit 0) (px_103_4_0.inst y)) := (gstep_103_4 (p_113 N) (l_103_4 N N) n x k).trans (by kernel_rfl)
theorem eq_103_4 {R : Type} (N : Nat) : ∀ (n : Nat) (x : pt_103_4.den) (k : Exit → St → Option R), iter 0 lv_103_4 lo_103_4 (aexec TT (E_103 (R := R) N) (drawAny TT WW) (L_103 N) (loopAt 4 (bodyOf Try.f103))) n (pt_103_4.inst x) k = l_103_4 N n x (fun y => k (.exit 0) (px_103_4_0.inst y)) :=
  iter_eq (K := Exit → St → Option R) (ks := fun k => k) (l := fun n (x : pt_103_4.den) k => l_103_4 N n x (fun y => k (.exit 0) (px_103_4_0.inst y))) (B := fun (rec : pt_103_4.den → Option R) (x : pt_103_4.den) k => B_103_4 N rec x (fun y => k (.exit 0) (px_103_4_0.inst y))) (fun _ _ => rfl) (fun _ _ _ => rfl) (fun n x k => step_103_4 N n x k)
theorem rounds_103_4 {R : Type} (N : Nat) : Rounds 0 TT (E_103 (R := R) N) (drawAny TT WW) (L_103 N) 4 (loopAt 4 (bodyOf Try.f103)) :=
  rounds_of (p := pt_103_4) (l := fun (x : pt_103_4.den) k => l_103_4 N N x (fun y => k (.exit 0) (px_103_4_0.inst y))) (fun s k => rfl) (fun x k => eq_103_4 N N x k)
theorem loops_103 : loopsIn (bodyOf Try.f103) = [(4, loopAt 4 (bodyOf Try.f103))] := by kernel_rfl
theorem lok_103 {R : Type} (N : Nat) : LOK 0 TT (E_103 (R := R) N) (drawAny TT WW) (L_103 N) (bodyOf Try.f103) := loops_all loops_103 (by
  simp only [List.forall_mem_cons, List.not_mem_nil, false_implies, implies_true, and_true]
  exact rounds_103_4 N)
theorem grun_103 {R : Type} (q_113 : Tp_113 R) (m_103_4 : Tl_103_4 R) (x : aden ap_103 × hden hp_103) (k : KF R) : fnrun TT (EG_103 q_113) (drawAny TT WW) (LG_103 m_103_4) true Try.f103 (instA ap_103 x.1) (instH hp_103 x.2) k = Q_103 q_113 m_103_4 x (fun y => k (Pat.inst (.vec (.int .u64) 128) y) (instH hp_103 x.2)) := by kernel_rfl
theorem run_103 {R : Type} (N : Nat) (x : aden ap_103 × hden hp_103) (k : KF R) : fnrun TT (E_103 (R := R) N) (drawAny TT WW) (L_103 N) true Try.f103 (instA ap_103 x.1) (instH hp_103 x.2) k = p_103 N x (fun y => k (Pat.inst (.vec (.int .u64) 128) y) (instH hp_103 x.2)) := (grun_103 (p_113 N) (l_103_4 N N) x k).trans (by kernel_rfl)
theorem good_103 {R : Type} (N : Nat) : GD (X := R) Try.prog QQ AA 103 ap_103 hp_103 (fun (x : aden ap_103 × hden hp_103) k => p_103 N x (fun y => k (Pat.inst (.vec (.int .u64) 128) y) (instH hp_103 x.2))) :=
  gd_quiet (E := E_103 N) (p := fun (x : aden ap_103 × hden hp_103) κ => p_103 N x (fun y => κ (Pat.inst (.vec (.int .u64) 128) y))) mixed tyok (eok_103 N) Try.func103 (by kernel_rfl) (by kernel_rfl) (lok_103 N) (fun x k => run_103 N x k)

def lv_48_6 : Live := [(2, none), (3, none), (8, none), (9, none), (10, none), (14, none), (15, none)]
def pt_48_6 : SPat := ⟨[(2, .ptr 0 []), (3, .ptr 1 []), (8, .ros (.arr 128 (.int .u64))), (9, .int .i64), (10, .int .i64), (14, .vec (.int .u64) 128), (15, .int .i64)], J10⟩
def px_48_6_0 : SPat := ⟨[(2, .ptr 0 []), (3, .ptr 1 []), (8, .ros (.arr 128 (.int .u64))), (9, .int .i64), (10, .int .i64)], J10⟩
def lo_48_6 : Exit → Live
  | .exit 2 => [(2, none), (3, none), (8, none), (9, none), (10, none)]
  | _ => []
def lv_48_3 : Live := [(2, none), (3, none), (8, none), (9, none), (10, none)]
def pt_48_3 : SPat := ⟨[(2, .ptr 0 []), (3, .ptr 1 []), (8, .ros (.arr 128 (.int .u64))), (9, .int .i64), (10, .int .i64)], J10⟩
def px_48_3_0 : SPat := ⟨[(2, .ptr 0 []), (3, .ptr 1 [])], J10⟩
def lo_48_3 : Exit → Live
  | .exit 0 => [(2, none), (3, none)]
  | _ => []
def ap_48 : List Pat := [.ros (.arr 128 (.int .u64))]
def hp_48 : List (Option (Pat × Nat)) := []
abbrev Tl_48_6 (R : Type) : Type := ((Unit × Unit × (List (Nat → Int)) × Int × Int × (Nat → Int) × Int × Unit) × Y6) → (((Unit × Unit × (List (Nat → Int)) × Int × Int × Unit) × Y6) → Option R) → Option R
abbrev Tl_48_3 (R : Type) : Type := ((Unit × Unit × (List (Nat → Int)) × Int × Int × Unit) × Y6) → (Y22 → Option R) → Option R
abbrev Tp_48 (R : Type) : Type := ((List (Nat → Int)) × Unit) × (Unit) → ((Nat → Int) → Option R) → Option R
def C_48_6 {R : Type} (rec : ((Unit × Unit × (List (Nat → Int)) × Int × Int × (Nat → Int) × Int × Unit) × Y6) → Option R) (x : ((Unit × Unit × (List (Nat → Int)) × Int × Int × (Nat → Int) × Int × Unit) × Y6)) (κ0 : ((Unit × Unit × (List (Nat → Int)) × Int × Int × Unit) × Y6) → Option R) : Option R :=
let l355 := x.1.2.2.1
let i356 := x.1.2.2.2.1
let i357 := x.1.2.2.2.2.1
let a358 := x.1.2.2.2.2.2.1
let i359 := x.1.2.2.2.2.2.2.1
let a360 := x.2.1
let a361 := x.2.2.1
bif (decide (i359 < 128)) then (
bif decide (0 ≤ i359) then (
bif decide (i359 < (128 : Int)) then (
let i362 : Int := (a358 ((Int.toNat i359)))
bif decide (0 ≤ i359) then (
bif decide (i359 < (128 : Int)) then (
let i363 : Int := (a361 ((Int.toNat i359)))
let i364 : Int := xorA .u64 i363 i362
bif decide (0 ≤ i359) then (
bif decide (i359 < (128 : Int)) then (
let a365 : (Nat → Int) := (upd a361 ((Int.toNat i359)) i364)
let i366 : Int := addA .i64 i359 1
rec (((), (), l355, i356, i357, a358, i366, ()), (a360, a365, ()))) else none) else none) else none) else none) else none) else none) else (
κ0 (((), (), l355, i356, i357, ()), (a360, a361, ())))
def C_48_3 {R : Type} (m_48_6 : Tl_48_6 R) (rec : ((Unit × Unit × (List (Nat → Int)) × Int × Int × Unit) × Y6) → Option R) (x : ((Unit × Unit × (List (Nat → Int)) × Int × Int × Unit) × Y6)) (κ0 : Y22 → Option R) : Option R :=
let l349 := x.1.2.2.1
let i350 := x.1.2.2.2.1
let i351 := x.1.2.2.2.2.1
let a352 := x.2.1
let a353 := x.2.2.1
bif (decide (i351 < i350)) then (
bif decide (0 ≤ i351) then (
bif decide (i351 < ((List.length l349) : Int)) then (
let p354 : (Nat → Int) := (List.getD l349 ((Int.toNat i351)) (Sch.zero (.arr 128 (.int .u64))))
m_48_6 (((), (), l349, i350, i351, p354, 0, ()), (a352, a353, ())) (fun y367 =>
let l368 := y367.1.2.2.1
let i369 := y367.1.2.2.2.1
let i370 := y367.1.2.2.2.2.1
let a371 := y367.2.1
let a372 := y367.2.2.1
let i373 : Int := addA .i64 i370 1
rec (((), (), l368, i369, i373, ()), (a371, a372, ())))) else none) else none) else (
κ0 (((), (), ()), (a352, a353, ())))
def B_48_6 {R : Type} (N : Nat) (rec : ((Unit × Unit × (List (Nat → Int)) × Int × Int × (Nat → Int) × Int × Unit) × Y6) → Option R) (x : ((Unit × Unit × (List (Nat → Int)) × Int × Int × (Nat → Int) × Int × Unit) × Y6)) (κ0 : ((Unit × Unit × (List (Nat → Int)) × Int × Int × Unit) × Y6) → Option R) : Option R := C_48_6 rec x κ0
def l_48_6 {R : Type} (N : Nat) : Nat → ((Unit × Unit × (List (Nat → Int)) × Int × Int × (Nat → Int) × Int × Unit) × Y6) → (((Unit × Unit × (List (Nat → Int)) × Int × Int × Unit) × Y6) → Option R) → Option R
  | 0, _, _ => none
  | n + 1, x, κ0 => B_48_6 N (fun y => l_48_6 N n y κ0) x κ0
def B_48_3 {R : Type} (N : Nat) (rec : ((Unit × Unit × (List (Nat → Int)) × Int × Int × Unit) × Y6) → Option R) (x : ((Unit × Unit × (List (Nat → Int)) × Int × Int × Unit) × Y6)) (κ0 : Y22 → Option R) : Option R := C_48_3 (l_48_6 N N) rec x κ0
def l_48_3 {R : Type} (N : Nat) : Nat → ((Unit × Unit × (List (Nat → Int)) × Int × Int × Unit) × Y6) → (Y22 → Option R) → Option R
  | 0, _, _ => none
  | n + 1, x, κ0 => B_48_3 N (fun y => l_48_3 N n y κ0) x κ0
def Q_48 {R : Type} (m_48_6 : Tl_48_6 R) (m_48_3 : Tl_48_3 R) (x : ((List (Nat → Int)) × Unit) × (Unit)) (κ0 : (Nat → Int) → Option R) : Option R :=
let l347 := x.1.1
let i348 : Int := (((List.length l347) : Nat) : Int)
m_48_3 (((), (), l347, i348, 0, ()), ((Sch.zero (.arr 128 (.int .u64))), (Sch.zero (.arr 128 (.int .u64))), ())) (fun y374 =>
let a376 := y374.2.2.1
κ0 a376)
def p_48 {R : Type} (N : Nat) (x : ((List (Nat → Int)) × Unit) × (Unit)) (κ0 : (Nat → Int) → Option R) : Option R := Q_48 (l_48_6 N N) (l_48_3 N N) x κ0
def EG_48 {R : Type} : Env R := Env.base QQ LN AA
def LG_48 {R : Type} (m_48_6 : Tl_48_6 R) (m_48_3 : Tl_48_3 R) : Loops R := ((Loops.none).add 6 (loopBy 0 lv_48_6 pt_48_6 (fun x k => m_48_6 x (fun y => k (.exit 2) (px_48_6_0.inst y))))).add 3 (loopBy 0 lv_48_3 pt_48_3 (fun x k => m_48_3 x (fun y => k (.exit 0) (px_48_3_0.inst y))))
def E_48 {R : Type} (N : Nat) : Env R := EG_48
theorem eok_48 {R : Type} (N : Nat) : EK Try.prog (E_48 (R := R) N) := ek_base _ _ _
def L_48 {R : Type} (N : Nat) : Loops R := LG_48 (l_48_6 N N) (l_48_3 N N)
theorem gstep_48_6 {R : Type} (m_48_6 : Tl_48_6 R) (m_48_3 : Tl_48_3 R) (n : Nat) (x : pt_48_6.den) (k : Exit → St → Option R) : iter 0 lv_48_6 lo_48_6 (aexec TT (EG_48) (drawAny TT WW) (LG_48 m_48_6 m_48_3) (loopAt 6 (bodyOf Try.f48))) (n + 1) (pt_48_6.inst x) k = C_48_6 (fun y => iter 0 lv_48_6 lo_48_6 (aexec TT (EG_48) (drawAny TT WW) (LG_48 m_48_6 m_48_3) (loopAt 6 (bodyOf Try.f48))) n (pt_48_6.inst y) k) x (fun y => k (.exit 2) (px_48_6_0.inst y)) := by kernel_rfl
theorem step_48_6 {R : Type} (N n : Nat) (x : pt_48_6.den) (k : Exit → St → Option R) : iter 0 lv_48_6 lo_48_6 (aexec TT (E_48 (R := R) N) (drawAny TT WW) (L_48 N) (loopAt 6 (bodyOf Try.f48))) (n + 1) (pt_48_6.inst x) k = B_48_6 N (fun y => iter 0 lv_48_6 lo_48_6 (aexec TT (E_48 (R := R) N) (drawAny TT WW) (L_48 N) (loopAt 6 (bodyOf Try.f48))) n (pt_48_6.inst y) k) x (fun y => k (.exit 2) (px_48_6_0.inst y)) := (gstep_48_6 (l_48_6 N N) (l_48_3 N N) n x k).trans (by kernel_rfl)
theorem eq_48_6 {R : Type} (N : Nat) : ∀ (n : Nat) (x : pt_48_6.den) (k : Exit → St → Option R), iter 0 lv_48_6 lo_48_6 (aexec TT (E_48 (R := R) N) (drawAny TT WW) (L_48 N) (loopAt 6 (bodyOf Try.f48))) n (pt_48_6.inst x) k = l_48_6 N n x (fun y => k (.exit 2) (px_48_6_0.inst y)) :=
  iter_eq (K := Exit → St → Option R) (ks := fun k => k) (l := fun n (x : pt_48_6.den) k => l_48_6 N n x (fun y => k (.exit 2) (px_48_6_0.inst y))) (B := fun (rec : pt_48_6.den → Option R) (x : pt_48_6.den) k => B_48_6 N rec x (fun y => k (.exit 2) (px_48_6_0.inst y))) (fun _ _ => rfl) (fun _ _ _ => rfl) (fun n x k => step_48_6 N n x k)
theorem rounds_48_6 {R : Type} (N : Nat) : Rounds 0 TT (E_48 (R := R) N) (drawAny TT WW) (L_48 N) 6 (loopAt 6 (bodyOf Try.f48)) :=
  rounds_of (p := pt_48_6) (l := fun (x : pt_48_6.den) k => l_48_6 N N x (fun y => k (.exit 2) (px_48_6_0.inst y))) (fun s k => rfl) (fun x k => eq_48_6 N N x k)
theorem gstep_48_3 {R : Type} (m_48_6 : Tl_48_6 R) (m_48_3 : Tl_48_3 R) (n : Nat) (x : pt_48_3.den) (k : Exit → St → Option R) : iter 0 lv_48_3 lo_48_3 (aexec TT (EG_48) (drawAny TT WW) (LG_48 m_48_6 m_48_3) (loopAt 3 (bodyOf Try.f48))) (n + 1) (pt_48_3.inst x) k = C_48_3 m_48_6 (fun y => iter 0 lv_48_3 lo_48_3 (aexec TT (EG_48) (drawAny TT WW) (LG_48 m_48_6 m_48_3) (loopAt 3 (bodyOf Try.f48))) n (pt_48_3.inst y) k) x (fun y => k (.exit 0) (px_48_3_0.inst y)) := by kernel_rfl
theorem step_48_3 {R : Type} (N n : Nat) (x : pt_48_3.den) (k : Exit → St → Option R) : iter 0 lv_48_3 lo_48_3 (aexec TT (E_48 (R := R) N) (drawAny TT WW) (L_48 N) (loopAt 3 (bodyOf Try.f48))) (n + 1) (pt_48_3.inst x) k = B_48_3 N (fun y => iter 0 lv_48_3 lo_48_3 (aexec TT (E_48 (R := R) N) (drawAny TT WW) (L_48 N) (loopAt 3 (bodyOf Try.f48))) n (pt_48_3.inst y) k) x (fun y => k (.exit 0) (px_48_3_0.inst y)) := (gstep_48_3 (l_48_6 N N) (l_48_3 N N) n x k).trans (by kernel_rfl)
theorem eq_48_3 {R : Type} (N : Nat) : ∀ (n : Nat) (x : pt_48_3.den) (k : Exit → St → Option R), iter 0 lv_48_3 lo_48_3 (aexec TT (E_48 (R := R) N) (drawAny TT WW) (L_48 N) (loopAt 3 (bodyOf Try.f48))) n (pt_48_3.inst x) k = l_48_3 N n x (fun y => k (.exit 0) (px_48_3_0.inst y)) :=
  iter_eq (K := Exit → St → Option R) (ks := fun k => k) (l := fun n (x : pt_48_3.den) k => l_48_3 N n x (fun y => k (.exit 0) (px_48_3_0.inst y))) (B := fun (rec : pt_48_3.den → Option R) (x : pt_48_3.den) k => B_48_3 N rec x (fun y => k (.exit 0) (px_48_3_0.inst y))) (fun _ _ => rfl) (fun _ _ _ => rfl) (fun n x k => step_48_3 N n x k)
theorem rounds_48_3 {R : Type} (N : Nat) : Rounds 0 TT (E_48 (R := R) N) (drawAny TT WW) (L_48 N) 3 (loopAt 3 (bodyOf Try.f48)) :=
  rounds_of (p := pt_48_3) (l := fun (x : pt_48_3.den) k => l_48_3 N N x (fun y => k (.exit 0) (px_48_3_0.inst y))) (fun s k => rfl) (fun x k => eq_48_3 N N x k)
theorem loops_48 : loopsIn (bodyOf Try.f48) = [(3, loopAt 3 (bodyOf Try.f48)), (6, loopAt 6 (bodyOf Try.f48))] := by kernel_rfl
theorem lok_48 {R : Type} (N : Nat) : LOK 0 TT (E_48 (R := R) N) (drawAny TT WW) (L_48 N) (bodyOf Try.f48) := loops_all loops_48 (by
  simp only [List.forall_mem_cons, List.not_mem_nil, false_implies, implies_true, and_true]
  exact ⟨rounds_48_3 N, rounds_48_6 N⟩)
theorem grun_48 {R : Type} (m_48_6 : Tl_48_6 R) (m_48_3 : Tl_48_3 R) (x : aden ap_48 × hden hp_48) (k : KF R) : fnrun TT (EG_48) (drawAny TT WW) (LG_48 m_48_6 m_48_3) true Try.f48 (instA ap_48 x.1) (instH hp_48 x.2) k = Q_48 m_48_6 m_48_3 x (fun y => k (Pat.inst (.vec (.int .u64) 128) y) (instH hp_48 x.2)) := by kernel_rfl
theorem run_48 {R : Type} (N : Nat) (x : aden ap_48 × hden hp_48) (k : KF R) : fnrun TT (E_48 (R := R) N) (drawAny TT WW) (L_48 N) true Try.f48 (instA ap_48 x.1) (instH hp_48 x.2) k = p_48 N x (fun y => k (Pat.inst (.vec (.int .u64) 128) y) (instH hp_48 x.2)) := (grun_48 (l_48_6 N N) (l_48_3 N N) x k).trans (by kernel_rfl)
theorem good_48 {R : Type} (N : Nat) : GD (X := R) Try.prog QQ AA 48 ap_48 hp_48 (fun (x : aden ap_48 × hden hp_48) k => p_48 N x (fun y => k (Pat.inst (.vec (.int .u64) 128) y) (instH hp_48 x.2))) :=
  gd_quiet (E := E_48 N) (p := fun (x : aden ap_48 × hden hp_48) κ => p_48 N x (fun y => κ (Pat.inst (.vec (.int .u64) 128) y))) mixed tyok (eok_48 N) Try.func48 (by kernel_rfl) (by kernel_rfl) (lok_48 N) (fun x k => run_48 N x k)

def lv_115_3 : Live := [(0, none), (1, none), (4, none), (5, none), (7, none)]
def pt_115_3 : SPat := ⟨[(0, .int .i64), (1, .bool), (4, .ptr 0 []), (5, .ptr 1 []), (7, .int .i64)], [some (.vec (.int .i64) 16, 192), some (.vec (.int .i64) 16, 192)]⟩
def px_115_3_0 : SPat := ⟨[(4, .ptr 0 []), (5, .ptr 1 [])], [some (.vec (.int .i64) 16, 192), some (.vec (.int .i64) 16, 192)]⟩
def lo_115_3 : Exit → Live
  | .exit 0 => [(4, none), (5, none)]
  | _ => []
def ap_115 : List Pat := [.int .i64, .bool]
def hp_115 : List (Option (Pat × Nat)) := []
abbrev Tl_115_3 (R : Type) : Type := ((Int × Bool × Unit × Unit × Int × Unit) × Y6) → (Y22 → Option R) → Option R
abbrev Tp_115 (R : Type) : Type := (Int × Bool × Unit) × (Unit) → ((Nat → Int) → Option R) → Option R
def C_115_3 {R : Type} (rec : ((Int × Bool × Unit × Unit × Int × Unit) × Y6) → Option R) (x : ((Int × Bool × Unit × Unit × Int × Unit) × Y6)) (κ0 : Y22 → Option R) : Option R :=
let i397 := x.1.1
let b398 := x.1.2.1
let i399 := x.1.2.2.2.2.1
let a400 := x.2.1
let a401 := x.2.2.1
bif (decide (i399 < 16)) then (
bif b398 then (
let i402 : Int := mulA .i64 2 i397
let i403 : Int := remA .i64 i399 2
let i404 : Int := addA .i64 i402 i403
let i405 : Int := quoA .i64 i399 2
let i406 : Int := mulA .i64 16 i405
let i407 : Int := addA .i64 i404 i406
bif decide (0 ≤ i399) then (
bif decide (i399 < (16 : Int)) then (
let a408 : (Nat → Int) := (upd a401 ((Int.toNat i399)) i407)
let i409 : Int := addA .i64 i399 1
rec ((i397, b398, (), (), i409, ()), (a400, a408, ()))) else none) else none) else (
let i410 : Int := mulA .i64 16 i397
let i411 : Int := addA .i64 i410 i399
bif decide (0 ≤ i399) then (
bif decide (i399 < (16 : Int)) then (
let a412 : (Nat → Int) := (upd a401 ((Int.toNat i399)) i411)
let i413 : Int := addA .i64 i399 1
rec ((i397, b398, (), (), i413, ()), (a400, a412, ()))) else none) else none)) else (
κ0 (((), (), ()), (a400, a401, ())))
def B_115_3 {R : Type} (N : Nat) (rec : ((Int × Bool × Unit × Unit × Int × Unit) × Y6) → Option R) (x : ((Int × Bool × Unit × Unit × Int × Unit) × Y6)) (κ0 : Y22 → Option R) : Option R := C_115_3 rec x κ0
def l_115_3 {R : Type} (N : Nat) : Nat → ((Int × Bool × Unit × Unit × Int × Unit) × Y6) → (Y22 → Option R) → Option R
  | 0, _, _ => none
  | n + 1, x, κ0 => B_115_3 N (fun y => l_115_3 N n y κ0) x κ0
def Q_115 {R : Type} (m_115_3 : Tl_115_3 R) (x : (Int × Bool × Unit) × (Unit)) (κ0 : (Nat → Int) → Option R) : Option R :=
let i395 := x.1.1
let b396 := x.1.2.1
m_115_3 ((i395, b396, (), (), 0, ()), ((Sch.zero (.arr 16 (.int .i64))), (Sch.zero (.arr 16 (.int .i64))), ())) (fun y414 =>
let a416 := y414.2.2.1
κ0 a416)
def p_115 {R : Type} (N : Nat) (x : (Int × Bool × Unit) × (Unit)) (κ0 : (Nat → Int) → Option R) : Option R := Q_115 (l_115_3 N N) x κ0
def EG_115 {R : Type} : Env R := Env.base QQ LN AA
def LG_115 {R : Type} (m_115_3 : Tl_115_3 R) : Loops R := (Loops.none).add 3 (loopBy 0 lv_115_3 pt_115_3 (fun x k => m_115_3 x (fun y => k (.exit 0) (px_115_3_0.inst y))))
def E_115 {R : Type} (N : Nat) : Env R := EG_115
theorem eok_115 {R : Type} (N : Nat) : EK Try.prog (E_115 (R := R) N) := ek_base _ _ _
def L_115 {R : Type} (N : Nat) : Loops R := LG_115 (l_115_3 N N)
theorem gstep_115_3 {R : Type} (m_115_3 : Tl_115_3 R) (n : Nat) (x : pt_115_3.den) (k : Exit → St → Option R) : iter 0 lv_115_3 lo_115_3 (aexec TT (EG_115) (drawAny TT WW) (LG_115 m_115_3) (loopAt 3 (bodyOf Try.f115))) (n + 1) (pt_115_3.inst x) k = C_115_3 (fun y => iter 0 lv_115_3 lo_115_3 (aexec TT (EG_115) (drawAny TT WW) (LG_115 m_115_3) (loopAt 3 (bodyOf Try.f115))) n (pt_115_3.inst y) k) x (fun y => k (.exit 0) (px_115_3_0.inst y)) := by kernel_rfl
theorem step_115_3 {R : Type} (N n : Nat) (x : pt_115_3.den) (k : Exit → St → Option R) : iter 0 lv_115_3 lo_115_3 (aexec TT (E_115 (R := R) N) (drawAny TT WW) (L_115 N) (loopAt 3 (bodyOf Try.f115))) (n + 1) (pt_115_3.inst x) k = B_115_3 N (fun y => iter 0 lv_115_3 lo_115_3 (aexec TT (E_115 (R := R) N) (drawAny TT WW) (L_115 N) (loopAt 3 (bodyOf Try.f115))) n (pt_115_3.inst y) k) x (fun y => k (.exit 0) (px_115_3_0.inst y)) := (gstep_115_3 (l_115_3 N N) n x k).trans (by kernel_rfl)
theorem eq_115_3 {R : Type} (N : Nat) : ∀ (n : Nat) (x : pt_115_3.den) (k : Exit → St → Option R), iter 0 lv_115_3 lo_115_3 (aexec TT (E_115 (R := R) N) (drawAny TT WW) (L_115 N) (loopAt 3 (bodyOf Try.f115))) n (pt_115_3.inst x) k = l_115_3 N n x (fun y => k (.exit 0) (px_115_3_0.inst y)) :=
  iter_eq (K := Exit → St → Option R) (ks := fun k => k) (l := fun n (x : pt_115_3.den) k => l_115_3 N n x (fun y => k (.exit 0) (px_115_3_0.inst y))) (B := fun (rec : pt_115_3.den → Option R) (x : pt_115_3.den) k => B_115_3 N rec x (fun y => k (.exit 0) (px_115_3_0.inst y))) (fun _ _ => rfl) (fun _ _ _ => rfl) (fun n x k => step_115_3 N n x k)
theorem rounds_115_3 {R : Type} (N : Nat) : Rounds 0 TT (E_115 (R := R) N) (drawAny TT WW) (L_115 N) 3 (loopAt 3 (bodyOf Try.f115)) :=
  rounds_of (p := pt_115_3) (l := fun (x : pt_115_3.den) k => l_115_3 N N x (fun y => k (.exit 0) (px_115_3_0.inst y))) (fun s k => rfl) (fun x k => eq_115_3 N N x k)
theorem loops_115 : loopsIn (bodyOf Try.f115) = [(3, loopAt 3 (bodyOf Try.f115))] := by kernel_rfl
theorem lok_115 {R : Type} (N : Nat) : LOK 0 TT (E_115 (R := R) N) (drawAny TT WW) (L_115 N) (bodyOf Try.f115) := loops_all loops_115 (by
  simp only [List.forall_mem_cons, List.not_mem_nil, false_implies, implies_true, and_true]
  exact rounds_115_3 N)
theorem grun_115 {R : Type} (m_115_3 : Tl_115_3 R) (x : aden ap_115 × hden hp_115) (k : KF R) : fnrun TT (EG_115) (drawAny TT WW) (LG_115 m_115_3) true Try.f115 (instA ap_115 x.1) (instH hp_115 x.2) k = Q_115 m_115_3 x (fun y => k (Pat.inst (.vec (.int .i64) 16) y) (instH hp_115 x.2)) := by kernel_rfl
theorem run_115 {R : Type} (N : Nat) (x : aden ap_115 × hden hp_115) (k : KF R) : fnrun TT (E_115 (R := R) N) (drawAny TT WW) (L_115 N) true Try.f115 (instA ap_115 x.1) (instH hp_115 x.2) k = p_115 N x (fun y => k (Pat.inst (.vec (.int .i64) 16) y) (instH hp_115 x.2)) := (grun_115 (l_115_3 N N) x k).trans (by kernel_rfl)
theorem good_115 {R : Type} (N : Nat) : GD (X := R) Try.prog QQ AA 115 ap_115 hp_115 (fun (x : aden ap_115 × hden hp_115) k => p_115 N x (fun y => k (Pat.inst (.vec (.int .i64) 16) y) (instH hp_115 x.2))) :=
  gd_quiet (E := E_115 N) (p := fun (x : aden ap_115 × hden hp_115) κ => p_115 N x (fun y => κ (Pat.inst (.vec (.int .i64) 16) y))) mixed tyok (eok_115 N) Try.func115 (by kernel_rfl) (by kernel_rfl) (lok_115 N) (fun x k => run_115 N x k)

def ap_120 : List Pat := []
def hp_120 : List (Option (Pat × Nat)) := []
abbrev Tp_120 (R : Type) : Type := (Unit) × (Unit) → ((Nat → (Nat → Int)) → Option R) → Option R
def Q_120 {R : Type} (x : (Unit) × (Unit)) (κ0 : (Nat → (Nat → Int)) → Option R) : Option R :=
let a445 : (Nat → Int) := (upd ((upd ((upd ((upd ((Sch.zero (.arr 4 (.int .i64)))) 0 0)) 1 4)) 2 8)) 3 12)
let a446 : (Nat → Int) := (upd ((upd ((upd ((upd ((Sch.zero (.arr 4 (.int .i64)))) 0 1)) 1 5)) 2 9)) 3 13)
let a447 : (Nat → Int) := (upd ((upd ((upd ((upd ((Sch.zero (.arr 4 (.int .i64)))) 0 2)) 1 6)) 2 10)) 3 14)
let a448 : (Nat → Int) := (upd ((upd ((upd ((upd ((Sch.zero (.arr 4 (.int .i64)))) 0 3)) 1 7)) 2 11)) 3 15)
let a449 : (Nat → Int) := (upd ((upd ((upd ((upd ((Sch.zero (.arr 4 (.int .i64)))) 0 0)) 1 5)) 2 10)) 3 15)
let a450 : (Nat → Int) := (upd ((upd ((upd ((upd ((Sch.zero (.arr 4 (.int .i64)))) 0 1)) 1 6)) 2 11)) 3 12)
let a451 : (Nat → Int) := (upd ((upd ((upd ((upd ((Sch.zero (.arr 4 (.int .i64)))) 0 2)) 1 7)) 2 8)) 3 13)
let a452 : (Nat → Int) := (upd ((upd ((upd ((upd ((Sch.zero (.arr 4 (.int .i64)))) 0 3)) 1 4)) 2 9)) 3 14)
let a453 : (Nat → (Nat → Int)) := (upd ((upd ((upd ((upd ((upd ((upd ((upd ((upd ((Sch.zero (.arr 8 (.arr 4 (.int .i64))))) 0 a445)) 1 a446)) 2 a447)) 3 a448)) 4 a449)) 5 a450)) 6 a451)) 7 a452)
κ0 a453
def p_120 {R : Type} (N : Nat) (x : (Unit) × (Unit)) (κ0 : (Nat → (Nat → Int)) → Option R) : Option R := Q_120 x κ0
def EG_120 {R : Type} : Env R := Env.base QQ LN AA
def LG_120 {R : Type} : Loops R := Loops.none
def E_120 {R : Type} (N : Nat) : Env R := EG_120
theorem eok_120 {R : Type} (N : Nat) : EK Try.prog (E_120 (R := R) N) := ek_base _ _ _
def L_120 {R : Type} (N : Nat) : Loops R := LG_120
theorem lok_120 {R : Type} (N : Nat) : LOK 0 TT (E_120 (R := R) N) (drawAny TT WW) (L_120 N) (bodyOf Try.f120) := loops_nil (by kernel_rfl)
theorem grun_120 {R : Type} (x : aden ap_120 × hden hp_120) (k : KF R) : fnrun TT (EG_120) (drawAny TT WW) (LG_120) true Try.f120 (instA ap_120 x.1) (instH hp_120 x.2) k = Q_120 x (fun y => k (Pat.inst (.vec (.arr 4 (.int .i64)) 8) y) (instH hp_120 x.2)) := by kernel_rfl
theorem run_120 {R : Type} (N : Nat) (x : aden ap_120 × hden hp_120) (k : KF R) : fnrun TT (E_120 (R := R) N) (drawAny TT WW) (L_120 N) true Try.f120 (instA ap_120 x.1) (instH hp_120 x.2) k = p_120 N x (fun y => k (Pat.inst (.vec (.arr 4 (.int .i64)) 8) y) (instH hp_120 x.2)) := (grun_120 x k).trans (by kernel_rfl)
theorem good_120 {R : Type} (N : Nat) : GD (X := R) Try.prog QQ AA 120 ap_120 hp_120 (fun (x : aden ap_120 × hden hp_120) k => p_120 N x (fun y => k (Pat.inst (.vec (.arr 4 (.int .i64)) 8) y) (instH hp_120 x.2))) :=
  gd_quiet (E := E_120 N) (p := fun (x : aden ap_120 × hden hp_120) κ => p_120 N x (fun y => κ (Pat.inst (.vec (.arr 4 (.int .i64)) 8) y))) mixed tyok (eok_120 N) Try.func120 (by kernel_rfl) (by kernel_rfl) (lok_120 N) (fun x k => run_120 N x k)

def ap_122 : List Pat := [.int .u64, .int .u64]
def hp_122 : List (Option (Pat × Nat)) := []
abbrev Tp_122 (R : Type) : Type := (Int × Int × Unit) × (Unit) → (Int → Option R) → Option R
def Q_122 {R : Type} (x : (Int × Int × Unit) × (Unit)) (κ0 : Int → Option R) : Option R :=
let i473 := x.1.1
let i474 := x.1.2.1
let i475 : Int := addA .u64 i473 i474
let i476 : Int := IntKind.wrap .u32 i473
let i477 : Int := IntKind.wrap .u64 i476
let i478 : Int := mulA .u64 2 i477
let i479 : Int := IntKind.wrap .u32 i474
let i480 : Int := IntKind.wrap .u64 i479
let i481 : Int := mulA .u64 i478 i480
let i482 : Int := addA .u64 i475 i481
κ0 i482
def p_122 {R : Type} (N : Nat) (x : (Int × Int × Unit) × (Unit)) (κ0 : Int → Option R) : Option R := Q_122 x κ0
def EG_122 {R : Type} : Env R := Env.base QQ LN AA
def LG_122 {R : Type} : Loops R := Loops.none
def E_122 {R : Type} (N : Nat) : Env R := EG_122
theorem eok_122 {R : Type} (N : Nat) : EK Try.prog (E_122 (R := R) N) := ek_base _ _ _
def L_122 {R : Type} (N : Nat) : Loops R := LG_122
theorem lok_122 {R : Type} (N : Nat) : LOK 0 TT (E_122 (R := R) N) (drawAny TT WW) (L_122 N) (bodyOf Try.f122) := loops_nil (by kernel_rfl)
theorem grun_122 {R : Type} (x : aden ap_122 × hden hp_122) (k : KF R) : fnrun TT (EG_122) (drawAny TT WW) (LG_122) true Try.f122 (instA ap_122 x.1) (instH hp_122 x.2) k = Q_122 x (fun y => k (Pat.inst (.int .u64) y) (instH hp_122 x.2)) := by kernel_rfl
theorem run_122 {R : Type} (N : Nat) (x : aden ap_122 × hden hp_122) (k : KF R) : fnrun TT (E_122 (R := R) N) (drawAny TT WW) (L_122 N) true Try.f122 (instA ap_122 x.1) (instH hp_122 x.2) k = p_122 N x (fun y => k (Pat.inst (.int .u64) y) (instH hp_122 x.2)) := (grun_122 x k).trans (by kernel_rfl)
theorem good_122 {R : Type} (N : Nat) : GD (X := R) Try.prog QQ AA 122 ap_122 hp_122 (fun (x : aden ap_122 × hden hp_122) k => p_122 N x (fun y => k (Pat.inst (.int .u64) y) (instH hp_122 x.2))) :=
  gd_quiet (E := E_122 N) (p := fun (x : aden ap_122 × hden hp_122) κ => p_122 N x (fun y => κ (Pat.inst (.int .u64) y))) mixed tyok (eok_122 N) Try.func122 (by kernel_rfl) (by kernel_rfl) (lok_122 N) (fun x k => run_122 N x k)

def ap_117 : List Pat := [.int .u64, .int .i64]
def hp_117 : List (Option (Pat × Nat)) := []
abbrev Tp_117 (R : Type) : Type := (Int × Int × Unit) × (Unit) → (Int → Option R) → Option R
def Q_117 {R : Type} (x : (Int × Int × Unit) × (Unit)) (κ0 : Int → Option R) : Option R :=
let i486 := x.1.1
let i487 := x.1.2.1
let i488 : Int := IntKind.wrap .u64 i487
let i489 : Int := remA .u64 i488 64
bif decide (i489 < 0) then none else (
let i490 : Int := shrA .u64 i486 i489
let i491 : Int := subA .u64 64 i489
bif decide (i491 < 0) then none else (
let i492 : Int := shlA .u64 i486 i491
let i493 : Int := orA .u64 i490 i492
κ0 i493))
def p_117 {R : Type} (N : Nat) (x : (Int × Int × Unit) × (Unit)) (κ0 : Int → Option R) : Option R := Q_117 x κ0
def EG_117 {R : Type} : Env R := Env.base QQ LN AA
def LG_117 {R : Type} : Loops R := Loops.none
def E_117 {R : Type} (N : Nat) : Env R := EG_117
theorem eok_117 {R : Type} (N : Nat) : EK Try.prog (E_117 (R := R) N) := ek_base _ _ _
def L_117 {R : Type} (N : Nat) : Loops R := LG_117
theorem lok_117 {R : Type} (N : Nat) : LOK 0 TT (E_117 (R := R) N) (drawAny TT WW) (L_117 N) (bodyOf Try.f117) := loops_nil (by kernel_rfl)
theorem grun_117 {R : Type} (x : aden ap_117 × hden hp_117) (k : KF R) : fnrun TT (EG_117) (drawAny TT WW) (LG_117) true Try.f117 (instA ap_117 x.1) (instH hp_117 x.2) k = Q_117 x (fun y => k (Pat.inst (.int .u64) y) (instH hp_117 x.2)) := by kernel_rfl
theorem run_117 {R : Type} (N : Nat) (x : aden ap_117 × hden hp_117) (k : KF R) : fnrun TT (E_117 (R := R) N) (drawAny TT WW) (L_117 N) true Try.f117 (instA ap_117 x.1) (instH hp_117 x.2) k = p_117 N x (fun y => k (Pat.inst (.int .u64) y) (instH hp_117 x.2)) := (grun_117 x k).trans (by kernel_rfl)
theorem good_117 {R : Type} (N : Nat) : GD (X := R) Try.prog QQ AA 117 ap_117 hp_117 (fun (x : aden ap_117 × hden hp_117) k => p_117 N x (fun y => k (Pat.inst (.int .u64) y) (instH hp_117 x.2))) :=
  gd_quiet (E := E_117 N) (p := fun (x : aden ap_117 × hden hp_117) κ => p_117 N x (fun y => κ (Pat.inst (.int .u64) y))) mixed tyok (eok_117 N) Try.func117 (by kernel_rfl) (by kernel_rfl) (lok_117 N) (fun x k => run_117 N x k)

def ap_121 : List Pat := [.int .u64, .int .u64, .int .u64, .int .u64]
def hp_121 : List (Option (Pat × Nat)) := []
abbrev Tp_121 (R : Type) : Type := (Int × Int × Int × Int × Unit) × (Unit) → (Y2 → Option R) → Option R
def Q_121 {R : Type} (q_122 : Tp_122 R) (q_117 : Tp_117 R) (x : (Int × Int × Int × Int × Unit) × (Unit)) (κ0 : Y2 → Option R) : Option R :=
let i469 := x.1.1
let i470 := x.1.2.1
let i471 := x.1.2.2.1
let i472 := x.1.2.2.2.1
q_122 ((i469, i470, ()), ()) (fun y483 =>
let i484 : Int := y483
let i485 : Int := xorA .u64 i472 i484
q_117 ((i485, 32, ()), ()) (fun y494 =>
let i495 : Int := y494
q_122 ((i471, i495, ()), ()) (fun y496 =>
let i497 : Int := y496
let i498 : Int := xorA .u64 i470 i497
q_117 ((i498, 24, ()), ()) (fun y499 =>
let i500 : Int := y499
q_122 ((i484, i500, ()), ()) (fun y501 =>
let i502 := y501
let i503 : Int := xorA .u64 i495 i502
q_117 ((i503, 16, ()), ()) (fun y504 =>
let i505 : Int := y504
q_122 ((i497, i505, ()), ()) (fun y506 =>
let i507 : Int := y506
let i508 : Int := xorA .u64 i500 i507
q_117 ((i508, 63, ()), ()) (fun y509 =>
let i510 : Int := y509
κ0 ((i502, (i510, (i507, (i505, ())))))))))))))
def p_121 {R : Type} (N : Nat) (x : (Int × Int × Int × Int × Unit) × (Unit)) (κ0 : Y2 → Option R) : Option R := Q_121 (p_122 N) (p_117 N) x κ0
def EG_121 {R : Type} (q_122 : Tp_122 R) (q_117 : Tp_117 R) : Env R := ((Env.base QQ LN AA).add 122 ap_122 hp_122 (fun (x : aden ap_122 × hden hp_122) k => q_122 x (fun y => k (Pat.inst (.int .u64) y) (instH hp_122 x.2)))).add 117 ap_117 hp_117 (fun (x : aden ap_117 × hden hp_117) k => q_117 x (fun y => k (Pat.inst (.int .u64) y) (instH hp_117 x.2)))
def LG_121 {R : Type} : Loops R := Loops.none
def E_121 {R : Type} (N : Nat) : Env R := EG_121 (p_122 N) (p_117 N)
theorem eok_121 {R : Type} (N : Nat) : EK Try.prog (E_121 (R := R) N) := ek_add (ek_add (ek_base _ _ _) (good_122 N)) (good_117 N)
def L_121 {R : Type} (N : Nat) : Loops R := LG_121
theorem lok_121 {R : Type} (N : Nat) : LOK 0 TT (E_121 (R := R) N) (drawAny TT WW) (L_121 N) (bodyOf Try.f121) := loops_nil (by kernel_rfl)
theorem grun_121 {R : Type} (q_122 : Tp_122 R) (q_117 : Tp_117 R) (x : aden ap_121 × hden hp_121) (k : KF R) : fnrun TT (EG_121 q_122 q_117) (drawAny TT WW) (LG_121) true Try.f121 (instA ap_121 x.1) (instH hp_121 x.2) k = Q_121 q_122 q_117 x (fun y => k (Pat.inst (.tup (.fcons (.int .u64) (.fcons (.int .u64) (.fcons (.int .u64) (.fcons (.int .u64) (.fnil)))))) y) (instH hp_121 x.2)) := by kernel_rfl
theorem run_121 {R : Type} (N : Nat) (x : aden ap_121 × hden hp_121) (k : KF R) : fnrun TT (E_121 (R := R) N) (drawAny TT WW) (L_121 N) true Try.f121 (instA ap_121 x.1) (instH hp_121 x.2) k = p_121 N x (fun y => k (Pat.inst (.tup (.fcons (.int .u64) (.fcons (.int .u64) (.fcons (.int .u64) (.fcons (.int .u64) (.fnil)))))) y) (instH hp_121 x.2)) := (grun_121 (p_122 N) (p_117 N) x k).trans (by kernel_rfl)
theorem good_121 {R : Type} (N : Nat) : GD (X := R) Try.prog QQ AA 121 ap_121 hp_121 (fun (x : aden ap_121 × hden hp_121) k => p_121 N x (fun y => k (Pat.inst (.tup (.fcons (.int .u64) (.fcons (.int .u64) (.fcons (.int .u64) (.fcons (.int .u64) (.fnil)))))) y) (instH hp_121 x.2))) :=
  gd_quiet (E := E_121 N) (p := fun (x : aden ap_121 × hden hp_121) κ => p_121 N x (fun y => κ (Pat.inst (.tup (.fcons (.int .u64) (.fcons (.int .u64) (.fcons (.int .u64) (.fcons (.int .u64) (.fnil)))))) y))) mixed tyok (eok_121 N) Try.func121 (by kernel_rfl) (by kernel_rfl) (lok_121 N) (fun x k => run_121 N x k)

def lv_116_2 : Live := [(1, none), (2, none), (9, none), (10, none)]
def pt_116_2 : SPat := ⟨[(1, .ptr 0 []), (2, .ptr 1 []), (9, .vec (.arr 4 (.int .i64)) 8), (10, .int .i64)], [some (.vec (.int .u64) 16, 186), some (.vec (.int .u64) 16, 186)]⟩
def px_116_2_0 : SPat := ⟨[(1, .ptr 0 []), (2, .ptr 1 [])], [some (.vec (.int .u64) 16, 186), some (.vec (.int .u64) 16, 186)]⟩
def lo_116_2 : Exit → Live
  | .exit 0 => [(1, none), (2, none)]
  | _ => []
def ap_116 : List Pat := [.vec (.int .u64) 16]
def hp_116 : List (Option (Pat × Nat)) := []
abbrev Tl_116_2 (R : Type) : Type := ((Unit × Unit × (Nat → (Nat → Int)) × Int × Unit) × Y6) → (Y22 → Option R) → Option R
abbrev Tp_116 (R : Type) : Type := ((Nat → Int) × Unit) × (Unit) → ((Nat → Int) → Option R) → Option R
def C_116_2 {R : Type} (q_121 : Tp_121 R) (rec : ((Unit × Unit × (Nat → (Nat → Int)) × Int × Unit) × Y6) → Option R) (x : ((Unit × Unit × (Nat → (Nat → Int)) × Int × Unit) × Y6)) (κ0 : Y22 → Option R) : Option R :=
let a456 := x.1.2.2.1
let i457 := x.1.2.2.2.1
let a458 := x.2.1
let a459 := x.2.2.1
bif (decide (i457 < 8)) then (
bif decide (0 ≤ i457) then (
bif decide (i457 < (8 : Int)) then (
let a460 : (Nat → Int) := (a456 ((Int.toNat i457)))
let i461 : Int := (a460 0)
let i462 : Int := (a460 1)
let i463 : Int := (a460 2)
let i464 : Int := (a460 3)
bif decide (0 ≤ i461) then (
bif decide (i461 < (16 : Int)) then (
let i465 : Int := (a458 ((Int.toNat i461)))
bif decide (0 ≤ i462) then (
bif decide (i462 < (16 : Int)) then (
let i466 : Int := (a458 ((Int.toNat i462)))
bif decide (0 ≤ i463) then (
bif decide (i463 < (16 : Int)) then (
let i467 : Int := (a458 ((Int.toNat i463)))
bif decide (0 ≤ i464) then (
bif decide (i464 < (16 : Int)) then (
let i468 : Int := (a458 ((Int.toNat i464)))
q_121 ((i465, i466, i467, i468, ()), ()) (fun y511 =>
let i512 := y511.1
let i513 := y511.2.1
let i514 := y511.2.2.1
let i515 := y511.2.2.2.1
bif decide (0 ≤ i461) then (
bif decide (i461 < (16 : Int)) then (
let a516 : (Nat → Int) := (upd a458 ((Int.toNat i461)) i512)
bif decide (0 ≤ i462) then (
bif decide (i462 < (16 : Int)) then (
let a517 : (Nat → Int) := (upd a516 ((Int.toNat i462)) i513)
bif decide (0 ≤ i463) then (
bif decide (i463 < (16 : Int)) then (
let a518 : (Nat → Int) := (upd a517 ((Int.toNat i463)) i514)
bif decide (0 ≤ i464) then (
bif decide (i464 < (16 : Int)) then (
let a519 : (Nat → Int) := (upd a518 ((Int.toNat i464)) i515)
let i520 : Int := addA .i64 i457 1
rec (((), (), a456, i520, ()), (a519, a459, ()))) else none) else none) else none) else none) else none) else none) else none) else none)) else none) else none) else none) else none) else none) else none) else none) else none) else none) else none) else (
κ0 (((), (), ()), (a458, a459, ())))
def B_116_2 {R : Type} (N : Nat) (rec : ((Unit × Unit × (Nat → (Nat → Int)) × Int × Unit) × Y6) → Option R) (x : ((Unit × Unit × (Nat → (Nat → Int)) × Int × Unit) × Y6)) (κ0 : Y22 → Option R) : Option R := C_116_2 (p_121 N) rec x κ0
def l_116_2 {R : Type} (N : Nat) : Nat → ((Unit × Unit × (Nat → (Nat → Int)) × Int × Unit) × Y6) → (Y22 → Option R) → Option R
  | 0, _, _ => none
  | n + 1, x, κ0 => B_116_2 N (fun y => l_116_2 N n y κ0) x κ0
def Q_116 {R : Type} (q_120 : Tp_120 R) (q_121 : Tp_121 R) (m_116_2 : Tl_116_2 R) (x : ((Nat → Int) × Unit) × (Unit)) (κ0 : (Nat → Int) → Option R) : Option R :=
let a444 := x.1.1
q_120 ((), ()) (fun y454 =>
let a455 : (Nat → (Nat → Int)) := y454
m_116_2 (((), (), a455, 0, ()), (a444, (Sch.zero (.arr 16 (.int .u64))), ())) (fun y521 =>
let a522 := y521.2.1
κ0 a522))
def p_116 {R : Type} (N : Nat) (x : ((Nat → Int) × Unit) × (Unit)) (κ0 : (Nat → Int) → Option R) : Option R := Q_116 (p_120 N) (p_121 N) (l_116_2 N N) x κ0
def EG_116 {R : Type} (q_120 : Tp_120 R) (q_121 : Tp_121 R) : Env R := ((Env.base QQ LN AA).add 120 ap_120 hp_120 (fun (x : aden ap_120 × hden hp_120) k => q_120 x (fun y => k (Pat.inst (.vec (.arr 4 (.int .i64)) 8) y) (instH hp_120 x.2)))).add 121 ap_121 hp_121 (fun (x : aden ap_121 × hden hp_121) k => q_121 x (fun y => k (Pat.inst (.tup (.fcons (.int .u64) (.fcons (.int .u64) (.fcons (.int .u64) (.fcons (.int .u64) (.fnil)))))) y) (instH hp_121 x.2)))
def LG_116 {R : Type} (m_116_2 : Tl_116_2 R) : Loops R := (Loops.none).add 2 (loopBy 0 lv_116_2 pt_116_2 (fun x k => m_116_2 x (fun y => k (.exit 0) (px_116_2_0.inst y))))
def E_116 {R : Type} (N : Nat) : Env R := EG_116 (p_120 N) (p_121 N)
theorem eok_116 {R : Type} (N : Nat) : EK Try.prog (E_116 (R := R) N) := ek_add (ek_add (ek_base _ _ _) (good_120 N)) (good_121 N)
def L_116 {R : Type} (N : Nat) : Loops R := LG_116 (l_116_2 N N)
theorem gstep_116_2 {R : Type} (q_120 : Tp_120 R) (q_121 : Tp_121 R) (m_116_2 : Tl_116_2 R) (n : Nat) (x : pt_116_2.den) (k : Exit → St → Option R) : iter 0 lv_116_2 lo_116_2 (aexec TT (EG_116 q_120 q_121) (drawAny TT WW) (LG_116 m_116_2) (loopAt 2 (bodyOf Try.f116))) (n + 1) (pt_116_2.inst x) k = C_116_2 q_121 (fun y => iter 0 lv_116_2 lo_116_2 (aexec TT (EG_116 q_120 q_121) (drawAny TT WW) (LG_116 m_116_2) (loopAt 2 (bodyOf Try.f116))) n (pt_116_2.inst y) k) x (fun y => k (.exit 0) (px_116_2_0.inst y)) := by kernel_rfl
theorem step_116_2 {R : Type} (N n : Nat) (x : pt_116_2.den) (k : Exit → St → Option R) : iter 0 lv_116_2 lo_116_2 (aexec TT (E_116 (R := R) N) (drawAny TT WW) (L_116 N) (loopAt 2 (bodyOf Try.f116))) (n + 1) (pt_116_2.inst x) k = B_116_2 N (fun y => iter 0 lv_116_2 lo_116_2 (aexec TT (E_116 (R := R) N) (drawAny TT WW) (L_116 N) (loopAt 2 (bodyOf Try.f116))) n (pt_116_2.inst y) k) x (fun y => k (.exit 0) (px_116_2_0.inst y)) := (gstep_116_2 (p_120 N) (p_121 N) (l_116_2 N N) n x k).trans (by kernel_rfl)
theorem eq_116_2 {R : Type} (N : Nat) : ∀ (n : Nat) (x : pt_116_2.den) (k : Exit → St → Option R), iter 0 lv_116_2 lo_116_2 (aexec TT (E_116 (R := R) N) (drawAny TT WW) (L_116 N) (loopAt 2 (bodyOf Try.f116))) n (pt_116_2.inst x) k = l_116_2 N n x (fun y => k (.exit 0) (px_116_2_0.inst y)) :=
  iter_eq (K := Exit → St → Option R) (ks := fun k => k) (l := fun n (x : pt_116_2.den) k => l_116_2 N n x (fun y => k (.exit 0) (px_116_2_0.inst y))) (B := fun (rec : pt_116_2.den → Option R) (x : pt_116_2.den) k => B_116_2 N rec x (fun y => k (.exit 0) (px_116_2_0.inst y))) (fun _ _ => rfl) (fun _ _ _ => rfl) (fun n x k => step_116_2 N n x k)
theorem rounds_116_2 {R : Type} (N : Nat) : Rounds 0 TT (E_116 (R := R) N) (drawAny TT WW) (L_116 N) 2 (loopAt 2 (bodyOf Try.f116)) :=
  rounds_of (p := pt_116_2) (l := fun (x : pt_116_2.den) k => l_116_2 N N x (fun y => k (.exit 0) (px_116_2_0.inst y))) (fun s k => rfl) (fun x k => eq_116_2 N N x k)
theorem loops_116 : loopsIn (bodyOf Try.f116) = [(2, loopAt 2 (bodyOf Try.f116))] := by kernel_rfl
theorem lok_116 {R : Type} (N : Nat) : LOK 0 TT (E_116 (R := R) N) (drawAny TT WW) (L_116 N) (bodyOf Try.f116) := loops_all loops_116 (by
  simp only [List.forall_mem_cons, List.not_mem_nil, false_implies, implies_true, and_true]
  exact rounds_116_2 N)
theorem grun_116 {R : Type} (q_120 : Tp_120 R) (q_121 : Tp_121 R) (m_116_2 : Tl_116_2 R) (x : aden ap_116 × hden hp_116) (k : KF R) : fnrun TT (EG_116 q_120 q_121) (drawAny TT WW) (LG_116 m_116_2) true Try.f116 (instA ap_116 x.1) (instH hp_116 x.2) k = Q_116 q_120 q_121 m_116_2 x (fun y => k (Pat.inst (.vec (.int .u64) 16) y) (instH hp_116 x.2)) := by kernel_rfl
theorem run_116 {R : Type} (N : Nat) (x : aden ap_116 × hden hp_116) (k : KF R) : fnrun TT (E_116 (R := R) N) (drawAny TT WW) (L_116 N) true Try.f116 (instA ap_116 x.1) (instH hp_116 x.2) k = p_116 N x (fun y => k (Pat.inst (.vec (.int .u64) 16) y) (instH hp_116 x.2)) := (grun_116 (p_120 N) (p_121 N) (l_116_2 N N) x k).trans (by kernel_rfl)
theorem good_116 {R : Type} (N : Nat) : GD (X := R) Try.prog QQ AA 116 ap_116 hp_116 (fun (x : aden ap_116 × hden hp_116) k => p_116 N x (fun y => k (Pat.inst (.vec (.int .u64) 16) y) (instH hp_116 x.2))) :=
  gd_quiet (E := E_116 N) (p := fun (x : aden ap_116 × hden hp_116) κ => p_116 N x (fun y => κ (Pat.inst (.vec (.int .u64) 16) y))) mixed tyok (eok_116 N) Try.func116 (by kernel_rfl) (by kernel_rfl) (lok_116 N) (fun x k => run_116 N x k)

def lv_105_10 : Live := [(1, none), (2, none), (4, none), (6, none), (7, none), (12, none), (13, none), (14, none), (18, none), (24, none), (25, none)]
def pt_105_10 : SPat := ⟨[(1, .ptr 0 []), (2, .ptr 1 []), (4, .bool), (6, .ptr 2 []), (7, .ptr 3 []), (12, .sl 4), (13, .int .i64), (14, .int .i64), (18, .int .i64), (24, .vec (.int .i64) 16), (25, .int .i64)], [some (.vec (.int .u64) 128, 29), some (.vec (.int .u64) 128, 29), some (.vec (.int .i64) 16, 192), some (.vec (.int .u64) 16, 186), some (.lst (.bool), 4)]⟩
def px_105_10_0 : SPat := ⟨[(1, .ptr 0 []), (2, .ptr 1 []), (4, .bool), (6, .ptr 2 []), (7, .ptr 3 []), (12, .sl 4), (13, .int .i64), (14, .int .i64), (18, .int .i64)], [some (.vec (.int .u64) 128, 29), some (.vec (.int .u64) 128, 29), some (.vec (.int .i64) 16, 192), some (.vec (.int .u64) 16, 186), some (.lst (.bool), 4)]⟩
def lo_105_10 : Exit → Live
  | .exit 4 => [(1, none), (2, none), (4, none), (6, none), (7, none), (12, none), (13, none), (14, none), (18, none)]
  | _ => []
def lv_105_16 : Live := [(1, none), (2, none), (4, none), (7, none), (12, none), (13, none), (14, none), (18, none), (37, none), (38, none)]
def pt_105_16 : SPat := ⟨[(1, .ptr 0 []), (2, .ptr 1 []), (4, .bool), (7, .ptr 2 []), (12, .sl 3), (13, .int .i64), (14, .int .i64), (18, .int .i64), (37, .vec (.int .i64) 16), (38, .int .i64)], [some (.vec (.int .u64) 128, 29), some (.vec (.int .u64) 128, 29), some (.vec (.int .u64) 16, 186), some (.lst (.bool), 4)]⟩
def px_105_16_0 : SPat := ⟨[(1, .ptr 0 []), (2, .ptr 1 []), (4, .bool), (12, .sl 2), (13, .int .i64), (14, .int .i64), (18, .int .i64)], [some (.vec (.int .u64) 128, 29), some (.vec (.int .u64) 128, 29), some (.lst (.bool), 4)]⟩
def lo_105_16 : Exit → Live
  | .exit 6 => [(1, none), (2, none), (4, none), (12, none), (13, none), (14, none), (18, none)]
  | _ => []
def lv_105_5 : Live := [(1, none), (2, none), (4, none), (12, none), (13, none), (14, none), (18, none)]
def pt_105_5 : SPat := ⟨[(1, .ptr 0 []), (2, .ptr 1 []), (4, .bool), (12, .sl 2), (13, .int .i64), (14, .int .i64), (18, .int .i64)], [some (.vec (.int .u64) 128, 29), some (.vec (.int .u64) 128, 29), some (.lst (.bool), 4)]⟩
def px_105_5_0 : SPat := ⟨[(1, .ptr 0 []), (2, .ptr 1 []), (12, .sl 2), (13, .int .i64), (14, .int .i64)], [some (.vec (.int .u64) 128, 29), some (.vec (.int .u64) 128, 29), some (.lst (.bool), 4)]⟩
def lo_105_5 : Exit → Live
  | .exit 2 => [(1, none), (2, none), (12, none), (13, none), (14, none)]
  | _ => []
def lv_105_2 : Live := [(1, none), (2, none), (12, none), (13, none), (14, none)]
def pt_105_2 : SPat := ⟨[(1, .ptr 0 []), (2, .ptr 1 []), (12, .sl 2), (13, .int .i64), (14, .int .i64)], [some (.vec (.int .u64) 128, 29), some (.vec (.int .u64) 128, 29), some (.lst (.bool), 4)]⟩
def px_105_2_0 : SPat := ⟨[(1, .ptr 0 []), (2, .ptr 1 [])], J10⟩
def lo_105_2 : Exit → Live
  | .exit 0 => [(1, none), (2, none)]
  | _ => []
def ap_105 : List Pat := [.vec (.int .u64) 128]
def hp_105 : List (Option (Pat × Nat)) := []
abbrev Tl_105_10 (R : Type) : Type := Y20 → (((Unit × Unit × Bool × Unit × Unit × Unit × Int × Int × Int × Unit) × ((Nat → Int) × (Nat → Int) × (Nat → Int) × (Nat → Int) × (List Bool) × Unit)) → Option R) → Option R
abbrev Tl_105_16 (R : Type) : Type := Y24 → (Y17 → Option R) → Option R
abbrev Tl_105_5 (R : Type) : Type := Y17 → (Y18 → Option R) → Option R
abbrev Tl_105_2 (R : Type) : Type := Y18 → (Y22 → Option R) → Option R
abbrev Tp_105 (R : Type) : Type := ((Nat → Int) × Unit) × (Unit) → ((Nat → Int) → Option R) → Option R
def C_105_10 {R : Type} (rec : Y20 → Option R) (x : Y20) (κ0 : ((Unit × Unit × Bool × Unit × Unit × Unit × Int × Int × Int × Unit) × ((Nat → Int) × (Nat → Int) × (Nat → Int) × (Nat → Int) × (List Bool) × Unit)) → Option R) : Option R :=
let b419 := x.1.2.2.1
let i420 := x.1.2.2.2.2.2.2.1
let i421 := x.1.2.2.2.2.2.2.2.1
let i422 := x.1.2.2.2.2.2.2.2.2.1
let a423 := x.1.2.2.2.2.2.2.2.2.2.1
let i424 := x.1.2.2.2.2.2.2.2.2.2.2.1
let a425 := x.2.1
let a426 := x.2.2.1
let a427 := x.2.2.2.1
let a428 := x.2.2.2.2.1
let l429 := x.2.2.2.2.2.1
bif (decide (i424 < 16)) then (
bif decide (0 ≤ i424) then (
bif decide (i424 < (16 : Int)) then (
let i430 : Int := (a423 ((Int.toNat i424)))
bif decide (0 ≤ i430) then (
bif decide (i430 < (128 : Int)) then (
let i431 : Int := (a425 ((Int.toNat i430)))
bif decide (0 ≤ i424) then (
bif decide (i424 < (16 : Int)) then (
let a432 : (Nat → Int) := (upd a428 ((Int.toNat i424)) i431)
let i433 : Int := addA .i64 i424 1
rec (((), (), b419, (), (), (), i420, i421, i422, a423, i433, ()), (a425, a426, a427, a432, l429, ()))) else none) else none) else none) else none) else none) else none) else (
κ0 (((), (), b419, (), (), (), i420, i421, i422, ()), (a425, a426, a427, a428, l429, ())))
def C_105_16 {R : Type} (rec : Y24 → Option R) (x : Y24) (κ0 : Y17 → Option R) : Option R :=
let b526 := x.1.2.2.1
let i527 := x.1.2.2.2.2.2.1
let i528 := x.1.2.2.2.2.2.2.1
let i529 := x.1.2.2.2.2.2.2.2.1
let a530 := x.1.2.2.2.2.2.2.2.2.1
let i531 := x.1.2.2.2.2.2.2.2.2.2.1
let a532 := x.2.1
let a533 := x.2.2.1
let a534 := x.2.2.2.1
let l535 := x.2.2.2.2.1
bif (decide (i531 < 16)) then (
bif decide (0 ≤ i531) then (
bif decide (i531 < (16 : Int)) then (
let i536 : Int := (a530 ((Int.toNat i531)))
bif decide (0 ≤ i531) then (
bif decide (i531 < (16 : Int)) then (
let i537 : Int := (a534 ((Int.toNat i531)))
bif decide (0 ≤ i536) then (
bif decide (i536 < (128 : Int)) then (
let a538 : (Nat → Int) := (upd a532 ((Int.toNat i536)) i537)
let i539 : Int := addA .i64 i531 1
rec (((), (), b526, (), (), i527, i528, i529, a530, i539, ()), (a538, a533, a534, l535, ()))) else none) else none) else none) else none) else none) else none) else (
κ0 (((), (), b526, (), i527, i528, i529, ()), (a532, a533, l535, ())))
def C_105_5 {R : Type} (q_115 : Tp_115 R) (q_116 : Tp_116 R) (m_105_10 : Tl_105_10 R) (m_105_16 : Tl_105_16 R) (rec : Y17 → Option R) (x : Y17) (κ0 : Y18 → Option R) : Option R :=
let b388 := x.1.2.2.1
let i389 := x.1.2.2.2.2.1
let i390 := x.1.2.2.2.2.2.1
let i391 := x.1.2.2.2.2.2.2.1
let a392 := x.2.1
let a393 := x.2.2.1
let l394 := x.2.2.2.1
bif (decide (i391 < 8)) then (
q_115 ((i391, b388, ()), ()) (fun y417 =>
let a418 : (Nat → Int) := y417
m_105_10 (((), (), b388, (), (), (), i389, i390, i391, a418, 0, ()), (a392, a393, a418, (Sch.zero (.arr 16 (.int .u64))), l394, ())) (fun y434 =>
let b435 := y434.1.2.2.1
let i436 := y434.1.2.2.2.2.2.2.1
let i437 := y434.1.2.2.2.2.2.2.2.1
let i438 := y434.1.2.2.2.2.2.2.2.2.1
let a439 := y434.2.1
let a440 := y434.2.2.1
let a441 := y434.2.2.2.1
let a442 := y434.2.2.2.2.1
let l443 := y434.2.2.2.2.2.1
q_116 ((a442, ()), ()) (fun y524 =>
let a525 : (Nat → Int) := y524
m_105_16 (((), (), b435, (), (), i436, i437, i438, a441, 0, ()), (a439, a440, a525, l443, ())) (fun y540 =>
let b541 := y540.1.2.2.1
let i542 := y540.1.2.2.2.2.1
let i543 := y540.1.2.2.2.2.2.1
let i544 := y540.1.2.2.2.2.2.2.1
let a545 := y540.2.1
let a546 := y540.2.2.1
let l547 := y540.2.2.2.1
let i548 : Int := addA .i64 i544 1
rec (((), (), b541, (), i542, i543, i548, ()), (a545, a546, l547, ()))))))) else (
κ0 (((), (), (), i389, i390, ()), (a392, a393, l394, ())))
def C_105_2 {R : Type} (m_105_5 : Tl_105_5 R) (rec : Y18 → Option R) (x : Y18) (κ0 : Y22 → Option R) : Option R :=
let i382 := x.1.2.2.2.1
let i383 := x.1.2.2.2.2.1
let a384 := x.2.1
let a385 := x.2.2.1
let l386 := x.2.2.2.1
bif (decide (i383 < i382)) then (
bif decide (0 ≤ i383) then (
bif decide (i383 < ((List.length l386) : Int)) then (
let b387 : Bool := (List.getD l386 ((Int.toNat i383)) (Sch.zero (.bool)))
m_105_5 (((), (), b387, (), i382, i383, 0, ()), (a384, a385, l386, ())) (fun y549 =>
let i550 := y549.1.2.2.2.1
let i551 := y549.1.2.2.2.2.1
let a552 := y549.2.1
let a553 := y549.2.2.1
let l554 := y549.2.2.2.1
let i555 : Int := addA .i64 i551 1
rec (((), (), (), i550, i555, ()), (a552, a553, l554, ())))) else none) else none) else (
κ0 (((), (), ()), (a384, a385, ())))
def B_105_10 {R : Type} (N : Nat) (rec : Y20 → Option R) (x : Y20) (κ0 : ((Unit × Unit × Bool × Unit × Unit × Unit × Int × Int × Int × Unit) × ((Nat → Int) × (Nat → Int) × (Nat → Int) × (Nat → Int) × (List Bool) × Unit)) → Option R) : Option R := C_105_10 rec x κ0
def l_105_10 {R : Type} (N : Nat) : Nat → Y20 → (((Unit × Unit × Bool × Unit × Unit × Unit × Int × Int × Int × Unit) × ((Nat → Int) × (Nat → Int) × (Nat → Int) × (Nat → Int) × (List Bool) × Unit)) → Option R) → Option R
  | 0, _, _ => none
  | n + 1, x, κ0 => B_105_10 N (fun y => l_105_10 N n y κ0) x κ0
def B_105_16 {R : Type} (N : Nat) (rec : Y24 → Option R) (x : Y24) (κ0 : Y17 → Option R) : Option R := C_105_16 rec x κ0
def l_105_16 {R : Type} (N : Nat) : Nat → Y24 → (Y17 → Option R) → Option R
  | 0, _, _ => none
  | n + 1, x, κ0 => B_105_16 N (fun y => l_105_16 N n y κ0) x κ0
def B_105_5 {R : Type} (N : Nat) (rec : Y17 → Option R) (x : Y17) (κ0 : Y18 → Option R) : Option R := C_105_5 (p_115 N) (p_116 N) (l_105_10 N N) (l_105_16 N N) rec x κ0
def l_105_5 {R : Type} (N : Nat) : Nat → Y17 → (Y18 → Option R) → Option R
  | 0, _, _ => none
  | n + 1, x, κ0 => B_105_5 N (fun y => l_105_5 N n y κ0) x κ0
def B_105_2 {R : Type} (N : Nat) (rec : Y18 → Option R) (x : Y18) (κ0 : Y22 → Option R) : Option R := C_105_2 (l_105_5 N N) rec x κ0
def l_105_2 {R : Type} (N : Nat) : Nat → Y18 → (Y22 → Option R) → Option R
  | 0, _, _ => none
  | n + 1, x, κ0 => B_105_2 N (fun y => l_105_2 N n y κ0) x κ0
def Q_105 {R : Type} (q_115 : Tp_115 R) (q_116 : Tp_116 R) (m_105_10 : Tl_105_10 R) (m_105_16 : Tl_105_16 R) (m_105_5 : Tl_105_5 R) (m_105_2 : Tl_105_2 R) (x : ((Nat → Int) × Unit) × (Unit)) (κ0 : (Nat → Int) → Option R) : Option R :=
let a379 := x.1.1
let l380 : (List Bool) := [false, true]
let i381 : Int := (((List.length l380) : Nat) : Int)
m_105_2 (((), (), (), i381, 0, ()), (a379, (Sch.zero (.arr 128 (.int .u64))), l380, ())) (fun y556 =>
let a557 := y556.2.1
κ0 a557)
def p_105 {R : Type} (N : Nat) (x : ((Nat → Int) × Unit) × (Unit)) (κ0 : (Nat → Int) → Option R) : Option R := Q_105 (p_115 N) (p_116 N) (l_105_10 N N) (l_105_16 N N) (l_105_5 N N) (l_105_2 N N) x κ0
def EG_105 {R : Type} (q_115 : Tp_115 R) (q_116 : Tp_116 R) : Env R := ((Env.base QQ LN AA).add 115 ap_115 hp_115 (fun (x : aden ap_115 × hden hp_115) k => q_115 x (fun y => k (Pat.inst (.vec (.int .i64) 16) y) (instH hp_115 x.2)))).add 116 ap_116 hp_116 (fun (x : aden ap_116 × hden hp_116) k => q_116 x (fun y => k (Pat.inst (.vec (.int .u64) 16) y) (instH hp_116 x.2)))
def LG_105 {R : Type} (m_105_10 : Tl_105_10 R) (m_105_16 : Tl_105_16 R) (m_105_5 : Tl_105_5 R) (m_105_2 : Tl_105_2 R) : Loops R := ((((Loops.none).add 10 (loopBy 0 lv_105_10 pt_105_10 (fun x k => m_105_10 x (fun y => k (.exit 4) (px_105_10_0.inst y))))).add 16 (loopBy 0 lv_105_16 pt_105_16 (fun x k => m_105_16 x (fun y => k (.exit 6) (px_105_16_0.inst y))))).add 5 (loopBy 0 lv_105_5 pt_105_5 (fun x k => m_105_5 x (fun y => k (.exit 2) (px_105_5_0.inst y))))).add 2 (loopBy 0 lv_105_2 pt_105_2 (fun x k => m_105_2 x (fun y => k (.exit 0) (px_105_2_0.inst y))))
def E_105 {R : Type} (N : Nat) : Env R := EG_105 (p_115 N) (p_116 N)
theorem eok_105 {R : Type} (N : Nat) : EK Try.prog (E_105 (R := R) N) := ek_add (ek_add (ek_base _ _ _) (good_115 N)) (good_116 N)
def L_105 {R : Type} (N : Nat) : Loops R := LG_105 (l_105_10 N N) (l_105_16 N N) (l_105_5 N N) (l_105_2 N N)
theorem gstep_105_10 {R : Type} (q_115 : Tp_115 R) (q_116 : Tp_116 R) (m_105_10 : Tl_105_10 R) (m_105_16 : Tl_105_16 R) (m_105_5 : Tl_105_5 R) (m_105_2 : Tl_105_2 R) (n : Nat) (x : pt_105_10.den) (k : Exit → St → Option R) : iter 0 lv_105_10 lo_105_10 (aexec TT (EG_105 q_115 q_116) (drawAny TT WW) (LG_105 m_105_10 m_105_16 m_105_5 m_105_2) (loopAt 10 (bodyOf Try.f105))) (n + 1) (pt_105_10.inst x) k = C_105_10 (fun y => iter 0 lv_105_10 lo_105_10 (aexec TT (EG_105 q_115 q_116) (drawAny TT WW) (LG_105 m_105_10 m_105_16 m_105_5 m_105_2) (loopAt 10 (bodyOf Try.f105))) n (pt_105_10.inst y) k) x (fun y => k (.exit 4) (px_105_10_0.inst y)) := by kernel_rfl
theorem step_105_10 {R : Type} (N n : Nat) (x : pt_105_10.den) (k : Exit → St → Option R) : iter 0 lv_105_10 lo_105_10 (aexec TT (E_105 (R := R) N) (drawAny TT WW) (L_105 N) (loopAt 10 (bodyOf Try.f105))) (n + 1) (pt_105_10.inst x) k = B_105_10 N (fun y => iter 0 lv_105_10 lo_105_10 (aexec TT (E_105 (R := R) N) (drawAny TT WW) (L_105 N) (loopAt 10 (bodyOf Try.f105))) n (pt_105_10.inst y) k) x (fun y => k (.exit 4) (px_105_10_0.inst y)) := (gstep_105_10 (p_115 N) (p_116 N) (l_105_10 N N) (l_105_16 N N) (l_105_5 N N) (l_105_2 N N) n x k).trans (by kernel_rfl)
theorem eq_105_10 {R : Type} (N : Nat) : ∀ (n : Nat) (x : pt_105_10.den) (k : Exit → St → Option R), iter 0 lv_105_10 lo_105_10 (aexec TT (E_105 (R := R) N) (drawAny TT WW) (L_105 N) (loopAt 10 (bodyOf Try.f105))) n (pt_105_10.inst x) k = l_105_10 N n x (fun y => k (.exit 4) (px_105_10_0.inst y)) :=
  iter_eq (K := Exit → St → Option R) (ks := fun k => k) (l := fun n (x : pt_105_10.den) k => l_105_10 N n x (fun y => k (.exit 4) (px_105_10_0.inst y))) (B := fun (rec : pt_105_10.den → Option R) (x : pt_105_10.den) k => B_105_10 N rec x (fun y => k (.exit 4) (px_105_10_0.inst y))) (fun _ _ => rfl) (fun _ _ _ => rfl) (fun n x k => step_105_10 N n x k)
theorem rounds_105_10 {R : Type} (N : Nat) : Rounds 0 TT (E_105 (R := R) N) (drawAny TT WW) (L_105 N) 10 (loopAt 10 (bodyOf Try.f105)) :=
  rounds_of (p := pt_105_10) (l := fun (x : pt_105_10.den) k => l_105_10 N N x (fun y => k (.exit 4) (px_105_10_0.inst y))) (fun s k => rfl) (fun x k => eq_105_10 N N x k)
theorem gstep_105_16 {R : Type} (q_115 : Tp_115 R) (q_116 : Tp_116 R) (m_105_10 : Tl_105_10 R) (m_105_16 : Tl_105_16 R) (m_105_5 : Tl_105_5 R) (m_105_2 : Tl_105_2 R) (n : Nat) (x : pt_105_16.den) (k : Exit → St → Option R) : iter 0 lv_105_16 lo_105_16 (aexec TT (EG_105 q_115 q_116) (drawAny TT WW) (LG_105 m_105_10 m_105_16 m_105_5 m_105_2) (loopAt 16 (bodyOf Try.f105))) (n + 1) (pt_105_16.inst x) k = C_105_16 (fun y => iter 0 lv_105_16 lo_105_16 (aexec TT (EG_105 q_115 q_116) (drawAny TT WW) (LG_105 m_105_10 m_105_16 m_105_5 m_105_2) (loopAt 16 (bodyOf Try.f105))) n (pt_105_16.inst y) k) x (fun y => k (.exit 6) (px_105_16_0.inst y)) := by kernel_rfl
theorem step_105_16 {R : Type} (N n : Nat) (x : pt_105_16.den) (k : Exit → St → Option R) : iter 0 lv_105_16 lo_105_16 (aexec TT (E_105 (R := R) N) (drawAny TT WW) (L_105 N) (loopAt 16 (bodyOf Try.f105))) (n + 1) (pt_105_16.inst x) k = B_105_16 N (fun y => iter 0 lv_105_16 lo_105_16 (aexec TT (E_105 (R := R) N) (drawAny TT WW) (L_105 N) (loopAt 16 (bodyOf Try.f105))) n (pt_105_16.inst y) k) x (fun y => k (.exit 6) (px_105_16_0.inst y)) := (gstep_105_16 (p_115 N) (p_116 N) (l_105_10 N N) (l_105_16 N N) (l_105_5 N N) (l_105_2 N N) n x k).trans (by kernel_rfl)
theorem eq_105_16 {R : Type} (N : Nat) : ∀ (n : Nat) (x : pt_105_16.den) (k : Exit → St → Option R), iter 0 lv_105_16 lo_105_16 (aexec TT (E_105 (R := R) N) (drawAny TT WW) (L_105 N) (loopAt 16 (bodyOf Try.f105))) n (pt_105_16.inst x) k = l_105_16 N n x (fun y => k (.exit 6) (px_105_16_0.inst y)) :=
  iter_eq (K := Exit → St → Option R) (ks := fun k => k) (l := fun n (x : pt_105_16.den) k => l_105_16 N n x (fun y => k (.exit 6) (px_105_16_0.inst y))) (B := fun (rec : pt_105_16.den → Option R) (x : pt_105_16.den) k => B_105_16 N rec x (fun y => k (.exit 6) (px_105_16_0.inst y))) (fun _ _ => rfl) (fun _ _ _ => rfl) (fun n x k => step_105_16 N n x k)
theorem rounds_105_16 {R : Type} (N : Nat) : Rounds 0 TT (E_105 (R := R) N) (drawAny TT WW) (L_105 N) 16 (loopAt 16 (bodyOf Try.f105)) :=
  rounds_of (p := pt_105_16) (l := fun (x : pt_105_16.den) k => l_105_16 N N x (fun y => k (.exit 6) (px_105_16_0.inst y))) (fun s k => rfl) (fun x k => eq_105_16 N N x k)
theorem gstep_105_5 {R : Type} (q_115 : Tp_115 R) (q_116 : Tp_116 R) (m_105_10 : Tl_105_10 R) (m_105_16 : Tl_105_16 R) (m_105_5 : Tl_105_5 R) (m_105_2 : Tl_105_2 R) (n : Nat) (x : pt_105_5.den) (k : Exit → St → Option R) : iter 0 lv_105_5 lo_105_5 (aexec TT (EG_105 q_115 q_116) (drawAny TT WW) (LG_105 m_105_10 m_105_16 m_105_5 m_105_2) (loopAt 5 (bodyOf Try.f105))) (n + 1) (pt_105_5.inst x) k = C_105_5 q_115 q_116 m_105_10 m_105_16 (fun y => iter 0 lv_105_5 lo_105_5 (aexec TT (EG_105 q_115 q_116) (drawAny TT WW) (LG_105 m_105_10 m_105_16 m_105_5 m_105_2) (loopAt 5 (bodyOf Try.f105))) n (pt_105_5.inst y) k) x (fun y => k (.exit 2) (px_105_5_0.inst y)) := by kernel_rfl
theorem step_105_5 {R : Type} (N n : Nat) (x : pt_105_5.den) (k : Exit → St → Option R) : iter 0 lv_105_5 lo_105_5 (aexec TT (E_105 (R := R) N) (drawAny TT WW) (L_105 N) (loopAt 5 (bodyOf Try.f105))) (n + 1) (pt_105_5.inst x) k = B_105_5 N (fun y => iter 0 lv_105_5 lo_105_5 (aexec TT (E_105 (R := R) N) (drawAny TT WW) (L_105 N) (loopAt 5 (bodyOf Try.f105))) n (pt_105_5.inst y) k) x (fun y => k (.exit 2) (px_105_5_0.inst y)) := (gstep_105_5 (p_115 N) (p_116 N) (l_105_10 N N) (l_105_16 N N) (l_105_5 N N) (l_105_2 N N) n x k).trans (by kernel_rfl)
theorem eq_105_5 {R : Type} (N : Nat) : ∀ (n : Nat) (x : pt_105_5.den) (k : Exit → St → Option R), iter 0 lv_105_5 lo_105_5 (aexec TT (E_105 (R := R) N) (drawAny TT WW) (L_105 N) (loopAt 5 (bodyOf Try.f105))) n (pt_105_5.inst x) k = l_105_5 N n x (fun y => k (.exit 2) (px_105_5_0.inst y)) :=
  iter_eq (K := Exit → St → Option R) (ks := fun k => k) (l := fun n (x : pt_105_5.den) k => l_105_5 N n x (fun y => k (.exit 2) (px_105_5_0.inst y))) (B := fun (rec : pt_105_5.den → Option R) (x : pt_105_5.den) k => B_105_5 N rec x (fun y => k (.exit 2) (px_105_5_0.inst y))) (fun _ _ => rfl) (fun _ _ _ => rfl) (fun n x k => step_105_5 N n x k)
theorem rounds_105_5 {R : Type} (N : Nat) : Rounds 0 TT (E_105 (R := R) N) (drawAny TT WW) (L_105 N) 5 (loopAt 5 (bodyOf Try.f105)) :=
  rounds_of (p := pt_105_5) (l := fun (x : pt_105_5.den) k => l_105_5 N N x (fun y => k (.exit 2) (px_105_5_0.inst y))) (fun s k => rfl) (fun x k => eq_105_5 N N x k)
theorem gstep_105_2 {R : Type} (q_115 : Tp_115 R) (q_116 : Tp_116 R) (m_105_10 : Tl_105_10 R) (m_105_16 : Tl_105_16 R) (m_105_5 : Tl_105_5 R) (m_105_2 : Tl_105_2 R) (n : Nat) (x : pt_105_2.den) (k : Exit → St → Option R) : iter 0 lv_105_2 lo_105_2 (aexec TT (EG_105 q_115 q_116) (drawAny TT WW) (LG_105 m_105_10 m_105_16 m_105_5 m_105_2) (loopAt 2 (bodyOf Try.f105))) (n + 1) (pt_105_2.inst x) k = C_105_2 m_105_5 (fun y => iter 0 lv_105_2 lo_105_2 (aexec TT (EG_105 q_115 q_116) (drawAny TT WW) (LG_105 m_105_10 m_105_16 m_105_5 m_105_2) (loopAt 2 (bodyOf Try.f105))) n (pt_105_2.inst y) k) x (fun y => k (.exit 0) (px_105_2_0.inst y)) := by kernel_rfl
theorem step_105_2 {R : Type} (N n : Nat) (x : pt_105_2.den) (k : Exit → St → Option R) : iter 0 lv_105_2 lo_105_2 (aexec TT (E_105 (R := R) N) (drawAny TT WW) (L_105 N) (loopAt 2 (bodyOf Try.f105))) (n + 1) (pt_105_2.inst x) k = B_105_2 N (fun y => iter 0 lv_105_2 lo_105_2 (aexec TT (E_105 (R := R) N) (drawAny TT WW) (L_105 N) (loopAt 2 (bodyOf Try.f105))) n (pt_105_2.inst y) k) x (fun y => k (.exit 0) (px_105_2_0.inst y)) := (gstep_105_2 (p_115 N) (p_116 N) (l_105_10 N N) (l_105_16 N N) (l_105_5 N N) (l_105_2 N N) n x k).trans (by kernel_rfl)
theorem eq_105_2 {R : Type} (N : Nat) : ∀ (n : Nat) (x : pt_105_2.den) (k : Exit → St → Option R), iter 0 lv_105_2 lo_105_2 (aexec TT (E_105 (R := R) N) (drawAny TT WW) (L_105 N) (loopAt 2 (bodyOf Try.f105))) n (pt_105_2.inst x) k = l_105_2 N n x (fun y => k (.exit 0) (px_105_2_0.inst y)) :=
  iter_eq (K := Exit → St → Option R) (ks := fun k => k) (l := fun n (x : pt_105_2.den) k => l_105_2 N n x (fun y => k (.exit 0) (px_105_2_0.inst y))) (B := fun (rec : pt_105_2.den → Option R) (x : pt_105_2.den) k => B_105_2 N rec x (fun y => k (.exit 0) (px_105_2_0.inst y))) (fun _ _ => rfl) (fun _ _ _ => rfl) (fun n x k => step_105_2 N n x k)
theorem rounds_105_2 {R : Type} (N : Nat) : Rounds 0 TT (E_105 (R := R) N) (drawAny TT WW) (L_105 N) 2 (loopAt 2 (bodyOf Try.f105)) :=
  rounds_of (p := pt_105_2) (l := fun (x : pt_105_2.den) k => l_105_2 N N x (fun y => k (.exit 0) (px_105_2_0.inst y))) (fun s k => rfl) (fun x k => eq_105_2 N N x k)
theorem loops_105 : loopsIn (bodyOf Try.f105) = [(2, loopAt 2 (bodyOf Try.f105)), (5, loopAt 5 (bodyOf Try.f105)), (10, loopAt 10 (bodyOf Try.f105)), (16, loopAt 16 (bodyOf Try.f105))] := by kernel_rfl
theorem lok_105 {R : Type} (N : Nat) : LOK 0 TT (E_105 (R := R) N) (drawAny TT WW) (L_105 N) (bodyOf Try.f105) := loops_all loops_105 (by
  simp only [List.forall_mem_cons, List.not_mem_nil, false_implies, implies_true, and_true]
  exact ⟨rounds_105_2 N, rounds_105_5 N, rounds_105_10 N, rounds_105_16 N⟩)
theorem grun_105 {R : Type} (q_115 : Tp_115 R) (q_116 : Tp_116 R) (m_105_10 : Tl_105_10 R) (m_105_16 : Tl_105_16 R) (m_105_5 : Tl_105_5 R) (m_105_2 : Tl_105_2 R) (x : aden ap_105 × hden hp_105) (k : KF R) : fnrun TT (EG_105 q_115 q_116) (drawAny TT WW) (LG_105 m_105_10 m_105_16 m_105_5 m_105_2) true Try.f105 (instA ap_105 x.1) (instH hp_105 x.2) k = Q_105 q_115 q_116 m_105_10 m_105_16 m_105_5 m_105_2 x (fun y => k (Pat.inst (.vec (.int .u64) 128) y) (instH hp_105 x.2)) := by kernel_rfl
theorem run_105 {R : Type} (N : Nat) (x : aden ap_105 × hden hp_105) (k : KF R) : fnrun TT (E_105 (R := R) N) (drawAny TT WW) (L_105 N) true Try.f105 (instA ap_105 x.1) (instH hp_105 x.2) k = p_105 N x (fun y => k (Pat.inst (.vec (.int .u64) 128) y) (instH hp_105 x.2)) := (grun_105 (p_115 N) (p_116 N) (l_105_10 N N) (l_105_16 N N) (l_105_5 N N) (l_105_2 N N) x k).trans (by kernel_rfl)
theorem good_105 {R : Type} (N : Nat) : GD (X := R) Try.prog QQ AA 105 ap_105 hp_105 (fun (x : aden ap_105 × hden hp_105) k => p_105 N x (fun y => k (Pat.inst (.vec (.int .u64) 128) y) (instH hp_105 x.2))) :=
  gd_quiet (E := E_105 N) (p := fun (x : aden ap_105 × hden hp_105) κ => p_105 N x (fun y => κ (Pat.inst (.vec (.int .u64) 128) y))) mixed tyok (eok_105 N) Try.func105 (by kernel_rfl) (by kernel_rfl) (lok_105 N) (fun x k => run_105 N x k)

def ap_95 : List Pat := [.vec (.int .u64) 128, .vec (.int .u64) 128]
def hp_95 : List (Option (Pat × Nat)) := []
abbrev Tp_95 (R : Type) : Type := Y6 × (Unit) → ((Nat → Int) → Option R) → Option R
def Q_95 {R : Type} (q_48 : Tp_48 R) (q_105 : Tp_105 R) (x : Y6 × (Unit)) (κ0 : (Nat → Int) → Option R) : Option R :=
let a344 := x.1.1
let a345 := x.1.2.1
let l346 : (List (Nat → Int)) := [a344, a345]
q_48 ((l346, ()), ()) (fun y377 =>
let a378 : (Nat → Int) := y377
q_105 ((a378, ()), ()) (fun y559 =>
let a560 : (Nat → Int) := y559
let l561 : (List (Nat → Int)) := [a378, a560]
q_48 ((l561, ()), ()) (fun y562 =>
let a563 := y562
κ0 a563)))
def p_95 {R : Type} (N : Nat) (x : Y6 × (Unit)) (κ0 : (Nat → Int) → Option R) : Option R := Q_95 (p_48 N) (p_105 N) x κ0
def EG_95 {R : Type} (q_48 : Tp_48 R) (q_105 : Tp_105 R) : Env R := ((Env.base QQ LN AA).add 48 ap_48 hp_48 (fun (x : aden ap_48 × hden hp_48) k => q_48 x (fun y => k (Pat.inst (.vec (.int .u64) 128) y) (instH hp_48 x.2)))).add 105 ap_105 hp_105 (fun (x : aden ap_105 × hden hp_105) k => q_105 x (fun y => k (Pat.inst (.vec (.int .u64) 128) y) (instH hp_105 x.2)))
def LG_95 {R : Type} : Loops R := Loops.none
def E_95 {R : Type} (N : Nat) : Env R := EG_95 (p_48 N) (p_105 N)
theorem eok_95 {R : Type} (N : Nat) : EK Try.prog (E_95 (R := R) N) := ek_add (ek_add (ek_base _ _ _) (good_48 N)) (good_105 N)
def L_95 {R : Type} (N : Nat) : Loops R := LG_95
theorem lok_95 {R : Type} (N : Nat) : LOK 0 TT (E_95 (R := R) N) (drawAny TT WW) (L_95 N) (bodyOf Try.f95) := loops_nil (by kernel_rfl)
theorem grun_95 {R : Type} (q_48 : Tp_48 R) (q_105 : Tp_105 R) (x : aden ap_95 × hden hp_95) (k : KF R) : fnrun TT (EG_95 q_48 q_105) (drawAny TT WW) (LG_95) true Try.f95 (instA ap_95 x.1) (instH hp_95 x.2) k = Q_95 q_48 q_105 x (fun y => k (Pat.inst (.vec (.int .u64) 128) y) (instH hp_95 x.2)) := by kernel_rfl
theorem run_95 {R : Type} (N : Nat) (x : aden ap_95 × hden hp_95) (k : KF R) : fnrun TT (E_95 (R := R) N) (drawAny TT WW) (L_95 N) true Try.f95 (instA ap_95 x.1) (instH hp_95 x.2) k = p_95 N x (fun y => k (Pat.inst (.vec (.int .u64) 128) y) (instH hp_95 x.2)) := (grun_95 (p_48 N) (p_105 N) x k).trans (by kernel_rfl)
theorem good_95 {R : Type} (N : Nat) : GD (X := R) Try.prog QQ AA 95 ap_95 hp_95 (fun (x : aden ap_95 × hden hp_95) k => p_95 N x (fun y => k (Pat.inst (.vec (.int .u64) 128) y) (instH hp_95 x.2))) :=
  gd_quiet (E := E_95 N) (p := fun (x : aden ap_95 × hden hp_95) κ => p_95 N x (fun y => κ (Pat.inst (.vec (.int .u64) 128) y))) mixed tyok (eok_95 N) Try.func95 (by kernel_rfl) (by kernel_rfl) (lok_95 N) (fun x k => run_95 N x k)

def ap_90 : List Pat := [.node (.fcons (.int .i64) (.fcons (.int .i64) (.fcons (.int .i64) (.fcons (.int .i64) (.fcons (.int .i64) (.fcons (.int .i64) (.fcons (.int .i64) (.fcons (.int .i64) (.fnil))))))))), .node (.fcons (.int .i64) (.fcons (.int .i64) (.fnil))), .int .i64, .int .i64]
def hp_90 : List (Option (Pat × Nat)) := []
abbrev Tp_90 (R : Type) : Type := (Y0 × (Int × (Int × Unit)) × Int × Int × Unit) × (Unit) → ((Nat → Int) → Option R) → Option R
def Q_90 {R : Type} (q_103 : Tp_103 R) (q_95 : Tp_95 R) (x : (Y0 × (Int × (Int × Unit)) × Int × Int × Unit) × (Unit)) (κ0 : (Nat → Int) → Option R) : Option R :=
let i303 := x.1.2.2.1
let i304 := x.1.2.2.2.1
let a305 : (Nat → Int) := (Sch.zero (.arr 128 (.int .u64)))
let a306 : (Nat → Int) := (Sch.zero (.arr 128 (.int .u64)))
q_103 ((x.1.1, x.1.2.1, i303, i304, ()), ()) (fun y342 =>
let a343 := y342
q_95 ((a306, a343, ()), ()) (fun y564 =>
let a565 : (Nat → Int) := y564
q_95 ((a305, a565, ()), ()) (fun y566 =>
let a567 : (Nat → Int) := y566
κ0 a567)))
def p_90 {R : Type} (N : Nat) (x : (Y0 × (Int × (Int × Unit)) × Int × Int × Unit) × (Unit)) (κ0 : (Nat → Int) → Option R) : Option R := Q_90 (p_103 N) (p_95 N) x κ0
def EG_90 {R : Type} (q_103 : Tp_103 R) (q_95 : Tp_95 R) : Env R := ((Env.base QQ LN AA).add 103 ap_103 hp_103 (fun (x : aden ap_103 × hden hp_103) k => q_103 x (fun y => k (Pat.inst (.vec (.int .u64) 128) y) (instH hp_103 x.2)))).add 95 ap_95 hp_95 (fun (x : aden ap_95 × hden hp_95) k => q_95 x (fun y => k (Pat.inst (.vec (.int .u64) 128) y) (instH hp_95 x.2)))
def LG_90 {R : Type} : Loops R := Loops.none
def E_90 {R : Type} (N : Nat) : Env R := EG_90 (p_103 N) (p_95 N)
theorem eok_90 {R : Type} (N : Nat) : EK Try.prog (E_90 (R := R) N) := ek_add (ek_add (ek_base _ _ _) (good_103 N)) (good_95 N)
def L_90 {R : Type} (N : Nat) : Loops R := LG_90
theorem lok_90 {R : Type} (N : Nat) : LOK 0 TT (E_90 (R := R) N) (drawAny TT WW) (L_90 N) (bodyOf Try.f90) := loops_nil (by kernel_rfl)
theorem grun_90 {R : Type} (q_103 : Tp_103 R) (q_95 : Tp_95 R) (x : aden ap_90 × hden hp_90) (k : KF R) : fnrun TT (EG_90 q_103 q_95) (drawAny TT WW) (LG_90) true Try.f90 (instA ap_90 x.1) (instH hp_90 x.2) k = Q_90 q_103 q_95 x (fun y => k (Pat.inst (.vec (.int .u64) 128) y) (instH hp_90 x.2)) := by kernel_rfl
theorem run_90 {R : Type} (N : Nat) (x : aden ap_90 × hden hp_90) (k : KF R) : fnrun TT (E_90 (R := R) N) (drawAny TT WW) (L_90 N) true Try.f90 (instA ap_90 x.1) (instH hp_90 x.2) k = p_90 N x (fun y => k (Pat.inst (.vec (.int .u64) 128) y) (instH hp_90 x.2)) := (grun_90 (p_103 N) (p_95 N) x k).trans (by kernel_rfl)
theorem good_90 {R : Type} (N : Nat) : GD (X := R) Try.prog QQ AA 90 ap_90 hp_90 (fun (x : aden ap_90 × hden hp_90) k => p_90 N x (fun y => k (Pat.inst (.vec (.int .u64) 128) y) (instH hp_90 x.2))) :=
  gd_quiet (E := E_90 N) (p := fun (x : aden ap_90 × hden hp_90) κ => p_90 N x (fun y => κ (Pat.inst (.vec (.int .u64) 128) y))) mixed tyok (eok_90 N) Try.func90 (by kernel_rfl) (by kernel_rfl) (lok_90 N) (fun x k => run_90 N x k)

def ap_66 : List Pat := [.int .u64]
def hp_66 : List (Option (Pat × Nat)) := []
abbrev Tp_66 (R : Type) : Type := (Int × Unit) × (Unit) → ((Int × (Int × Unit)) → Option R) → Option R
def Q_66 {R : Type} (x : (Int × Unit) × (Unit)) (κ0 : (Int × (Int × Unit)) → Option R) : Option R :=
let i572 := x.1.1
let i573 : Int := IntKind.wrap .u32 i572
let i574 : Int := shrA .u64 i572 32
let i575 : Int := IntKind.wrap .u32 i574
κ0 ((i573, (i575, ())))
def p_66 {R : Type} (N : Nat) (x : (Int × Unit) × (Unit)) (κ0 : (Int × (Int × Unit)) → Option R) : Option R := Q_66 x κ0
def EG_66 {R : Type} : Env R := Env.base QQ LN AA
def LG_66 {R : Type} : Loops R := Loops.none
def E_66 {R : Type} (N : Nat) : Env R := EG_66
theorem eok_66 {R : Type} (N : Nat) : EK Try.prog (E_66 (R := R) N) := ek_base _ _ _
def L_66 {R : Type} (N : Nat) : Loops R := LG_66
theorem lok_66 {R : Type} (N : Nat) : LOK 0 TT (E_66 (R := R) N) (drawAny TT WW) (L_66 N) (bodyOf Try.f66) := loops_nil (by kernel_rfl)
theorem grun_66 {R : Type} (x : aden ap_66 × hden hp_66) (k : KF R) : fnrun TT (EG_66) (drawAny TT WW) (LG_66) true Try.f66 (instA ap_66 x.1) (instH hp_66 x.2) k = Q_66 x (fun y => k (Pat.inst (.tup (.fcons (.int .u32) (.fcons (.int .u32) (.fnil)))) y) (instH hp_66 x.2)) := by kernel_rfl
theorem run_66 {R : Type} (N : Nat) (x : aden ap_66 × hden hp_66) (k : KF R) : fnrun TT (E_66 (R := R) N) (drawAny TT WW) (L_66 N) true Try.f66 (instA ap_66 x.1) (instH hp_66 x.2) k = p_66 N x (fun y => k (Pat.inst (.tup (.fcons (.int .u32) (.fcons (.int .u32) (.fnil)))) y) (instH hp_66 x.2)) := (grun_66 x k).trans (by kernel_rfl)
theorem good_66 {R : Type} (N : Nat) : GD (X := R) Try.prog QQ AA 66 ap_66 hp_66 (fun (x : aden ap_66 × hden hp_66) k => p_66 N x (fun y => k (Pat.inst (.tup (.fcons (.int .u32) (.fcons (.int .u32) (.fnil)))) y) (instH hp_66 x.2))) :=
  gd_quiet (E := E_66 N) (p := fun (x : aden ap_66 × hden hp_66) κ => p_66 N x (fun y => κ (Pat.inst (.tup (.fcons (.int .u32) (.fcons (.int .u32) (.fnil)))) y))) mixed tyok (eok_66 N) Try.func66 (by kernel_rfl) (by kernel_rfl) (lok_66 N) (fun x k => run_66 N x k)

def ap_65 : List Pat := [.ptr 0 [], .int .i64]
def hp_65 : List (Option (Pat × Nat)) := [some (Z3, 132)]
abbrev Tp_65 (R : Type) : Type := (Unit × Int × Unit) × (Y9 × Unit) → (((Int × (Int × Unit)) × (Y9 × Unit)) → Option R) → Option R
def Q_65 {R : Type} (q_90 : Tp_90 R) (q_66 : Tp_66 R) (x : (Unit × Int × Unit) × (Y9 × Unit)) (κ0 : ((Int × (Int × Unit)) × (Y9 × Unit)) → Option R) : Option R :=
let i277 := x.1.2.1
let i288 := x.2.1.2.2.1
let i289 := x.2.1.2.2.2.1
let a290 := x.2.1.2.2.2.2.1
bif (decide (i277 < 0)) then (
κ0 ((0, (0, ())), x.2)) else (
let i291 : Int := quoA .i64 i277 128
let i292 : Int := addA .i64 i291 1
bif (i292 != i289) then (
q_90 ((x.2.1.1, x.2.1.2.1, i288, i292, ()), ()) (fun y568 =>
let a569 : (Nat → Int) := y568
let i570 : Int := remA .i64 i277 128
bif decide (0 ≤ i570) then (
bif decide (i570 < (128 : Int)) then (
let i571 : Int := (a569 ((Int.toNat i570)))
q_66 ((i571, ()), ()) (fun y576 =>
κ0 (y576, ((x.2.1.1, (x.2.1.2.1, (i288, (i292, (a569, ()))))), ())))) else none) else none)) else (
let i579 : Int := remA .i64 i277 128
bif decide (0 ≤ i579) then (
bif decide (i579 < (128 : Int)) then (
let i580 : Int := (a290 ((Int.toNat i579)))
q_66 ((i580, ()), ()) (fun y581 =>
κ0 (y581, x.2))) else none) else none))
def p_65 {R : Type} (N : Nat) (x : (Unit × Int × Unit) × (Y9 × Unit)) (κ0 : ((Int × (Int × Unit)) × (Y9 × Unit)) → Option R) : Option R := Q_65 (p_90 N) (p_66 N) x κ0
def EG_65 {R : Type} (q_90 : Tp_90 R) (q_66 : Tp_66 R) : Env R := ((Env.base QQ LN AA).add 90 ap_90 hp_90 (fun (x : aden ap_90 × hden hp_90) k => q_90 x (fun y => k (Pat.inst (.vec (.int .u64) 128) y) (instH hp_90 x.2)))).add 66 ap_66 hp_66 (fun (x : aden ap_66 × hden hp_66) k => q_66 x (fun y => k (Pat.inst (.tup (.fcons (.int .u32) (.fcons (.int .u32) (.fnil)))) y) (instH hp_66 x.2)))
def LG_65 {R : Type} : Loops R := Loops.none
def E_65 {R : Type} (N : Nat) : Env R := EG_65 (p_90 N) (p_66 N)
theorem eok_65 {R : Type} (N : Nat) : EK Try.prog (E_65 (R := R) N) := ek_add (ek_add (ek_base _ _ _) (good_90 N)) (good_66 N)
def L_65 {R : Type} (N : Nat) : Loops R := LG_65
theorem lok_65 {R : Type} (N : Nat) : LOK 1 TT (E_65 (R := R) N) (drawAny TT WW) (L_65 N) (bodyOf Try.f65) := loops_nil (by kernel_rfl)
theorem grun_65 {R : Type} (q_90 : Tp_90 R) (q_66 : Tp_66 R) (x : aden ap_65 × hden hp_65) (k : KF R) : fnrun TT (EG_65 q_90 q_66) (drawAny TT WW) (LG_65) true Try.f65 (instA ap_65 x.1) (instH hp_65 x.2) k = Q_65 q_90 q_66 x (fun y => k (Pat.inst (.tup (.fcons (.int .u32) (.fcons (.int .u32) (.fnil)))) y.1) (instH [some (Z3, 132)] y.2)) := by kernel_rfl
theorem run_65 {R : Type} (N : Nat) (x : aden ap_65 × hden hp_65) (k : KF R) : fnrun TT (E_65 (R := R) N) (drawAny TT WW) (L_65 N) true Try.f65 (instA ap_65 x.1) (instH hp_65 x.2) k = p_65 N x (fun y => k (Pat.inst (.tup (.fcons (.int .u32) (.fcons (.int .u32) (.fnil)))) y.1) (instH [some (Z3, 132)] y.2)) := (grun_65 (p_90 N) (p_66 N) x k).trans (by kernel_rfl)
theorem good_65 {R : Type} (N : Nat) : GD (X := R) Try.prog QQ AA 65 ap_65 hp_65 (fun (x : aden ap_65 × hden hp_65) k => p_65 N x (fun y => k (Pat.inst (.tup (.fcons (.int .u32) (.fcons (.int .u32) (.fnil)))) y.1) (instH [some (Z3, 132)] y.2))) :=
  gd_loud (E := E_65 N) (p := fun (x : aden ap_65 × hden hp_65) k => p_65 N x (fun y => k (Pat.inst (.tup (.fcons (.int .u32) (.fcons (.int .u32) (.fnil)))) y.1) (instH [some (Z3, 132)] y.2))) mixed tyok (eok_65 N) Try.func65 (by kernel_rfl) (by kernel_rfl) (by kernel_rfl) (by kernel_rfl) (lok_65 N) (fun x k => run_65 N x k)

def ap_36 : List Pat := [.node (.fcons (.int .i64) (.fcons (.int .i64) (.fcons (.int .i64) (.fcons (.int .i64) (.fcons (.int .i64) (.fcons (.int .i64) (.fcons (.int .i64) (.fcons (.int .i64) (.fnil))))))))), .int .i64, .int .i64]
def hp_36 : List (Option (Pat × Nat)) := []
abbrev Tp_36 (R : Type) : Type := (Y0 × Int × Int × Unit) × (Unit) → (Int → Option R) → Option R
def Q_36 {R : Type} (x : (Y0 × Int × Int × Unit) × (Unit)) (κ0 : Int → Option R) : Option R :=
let i606 := x.1.1.2.2.2.2.2.2.1
let i608 := x.1.2.1
let i609 := x.1.2.2.1
let i610 : Int := mulA .i64 i608 i606
let i611 : Int := addA .i64 i610 i609
κ0 i611
def p_36 {R : Type} (N : Nat) (x : (Y0 × Int × Int × Unit) × (Unit)) (κ0 : Int → Option R) : Option R := Q_36 x κ0
def EG_36 {R : Type} : Env R := Env.base QQ LN AA
def LG_36 {R : Type} : Loops R := Loops.none
def E_36 {R : Type} (N : Nat) : Env R := EG_36
theorem eok_36 {R : Type} (N : Nat) : EK Try.prog (E_36 (R := R) N) := ek_base _ _ _
def L_36 {R : Type} (N : Nat) : Loops R := LG_36
theorem lok_36 {R : Type} (N : Nat) : LOK 0 TT (E_36 (R := R) N) (drawAny TT WW) (L_36 N) (bodyOf Try.f36) := loops_nil (by kernel_rfl)
theorem grun_36 {R : Type} (x : aden ap_36 × hden hp_36) (k : KF R) : fnrun TT (EG_36) (drawAny TT WW) (LG_36) true Try.f36 (instA ap_36 x.1) (instH hp_36 x.2) k = Q_36 x (fun y => k (Pat.inst (.int .i64) y) (instH hp_36 x.2)) := by kernel_rfl
theorem run_36 {R : Type} (N : Nat) (x : aden ap_36 × hden hp_36) (k : KF R) : fnrun TT (E_36 (R := R) N) (drawAny TT WW) (L_36 N) true Try.f36 (instA ap_36 x.1) (instH hp_36 x.2) k = p_36 N x (fun y => k (Pat.inst (.int .i64) y) (instH hp_36 x.2)) := (grun_36 x k).trans (by kernel_rfl)
theorem good_36 {R : Type} (N : Nat) : GD (X := R) Try.prog QQ AA 36 ap_36 hp_36 (fun (x : aden ap_36 × hden hp_36) k => p_36 N x (fun y => k (Pat.inst (.int .i64) y) (instH hp_36 x.2))) :=
  gd_quiet (E := E_36 N) (p := fun (x : aden ap_36 × hden hp_36) κ => p_36 N x (fun y => κ (Pat.inst (.int .i64) y))) mixed tyok (eok_36 N) Try.func36 (by kernel_rfl) (by kernel_rfl) (lok_36 N) (fun x k => run_36 N x k)

def ap_37 : List Pat := [.node (.fcons (.int .i64) (.fcons (.int .i64) (.fcons (.int .i64) (.fcons (.int .i64) (.fcons (.int .i64) (.fcons (.int .i64) (.fcons (.int .i64) (.fcons (.int .i64) (.fnil))))))))), .int .i64]
def hp_37 : List (Option (Pat × Nat)) := []
abbrev Tp_37 (R : Type) : Type := (Y0 × Int × Unit) × (Unit) → (Int → Option R) → Option R
def Q_37 {R : Type} (x : (Y0 × Int × Unit) × (Unit)) (κ0 : Int → Option R) : Option R :=
let i619 := x.1.1.2.2.2.2.2.1
let i622 := x.1.2.1
bif (i622 == 0) then (
let i623 : Int := subA .i64 i619 1
κ0 i623) else (
let i624 : Int := subA .i64 i622 1
κ0 i624)
def p_37 {R : Type} (N : Nat) (x : (Y0 × Int × Unit) × (Unit)) (κ0 : Int → Option R) : Option R := Q_37 x κ0
def EG_37 {R : Type} : Env R := Env.base QQ LN AA
def LG_37 {R : Type} : Loops R := Loops.none
def E_37 {R : Type} (N : Nat) : Env R := EG_37
theorem eok_37 {R : Type} (N : Nat) : EK Try.prog (E_37 (R := R) N) := ek_base _ _ _
def L_37 {R : Type} (N : Nat) : Loops R := LG_37
theorem lok_37 {R : Type} (N : Nat) : LOK 0 TT (E_37 (R := R) N) (drawAny TT WW) (L_37 N) (bodyOf Try.f37) := loops_nil (by kernel_rfl)
theorem grun_37 {R : Type} (x : aden ap_37 × hden hp_37) (k : KF R) : fnrun TT (EG_37) (drawAny TT WW) (LG_37) true Try.f37 (instA ap_37 x.1) (instH hp_37 x.2) k = Q_37 x (fun y => k (Pat.inst (.int .i64) y) (instH hp_37 x.2)) := by kernel_rfl
theorem run_37 {R : Type} (N : Nat) (x : aden ap_37 × hden hp_37) (k : KF R) : fnrun TT (E_37 (R := R) N) (drawAny TT WW) (L_37 N) true Try.f37 (instA ap_37 x.1) (instH hp_37 x.2) k = p_37 N x (fun y => k (Pat.inst (.int .i64) y) (instH hp_37 x.2)) := (grun_37 x k).trans (by kernel_rfl)
theorem good_37 {R : Type} (N : Nat) : GD (X := R) Try.prog QQ AA 37 ap_37 hp_37 (fun (x : aden ap_37 × hden hp_37) k => p_37 N x (fun y => k (Pat.inst (.int .i64) y) (instH hp_37 x.2))) :=
  gd_quiet (E := E_37 N) (p := fun (x : aden ap_37 × hden hp_37) κ => p_37 N x (fun y => κ (Pat.inst (.int .i64) y))) mixed tyok (eok_37 N) Try.func37 (by kernel_rfl) (by kernel_rfl) (lok_37 N) (fun x k => run_37 N x k)

def ap_78 : List Pat := [.node (.fcons (.int .i64) (.fcons (.int .i64) (.fcons (.int .i64) (.fcons (.int .i64) (.fcons (.int .i64) (.fcons (.int .i64) (.fcons (.int .i64) (.fcons (.int .i64) (.fnil))))))))), .int .i64, .int .i64]
def hp_78 : List (Option (Pat × Nat)) := []
abbrev Tp_78 (R : Type) : Type := (Y0 × Int × Int × Unit) × (Unit) → (Int → Option R) → Option R
def Q_78 {R : Type} (x : (Y0 × Int × Int × Unit) × (Unit)) (κ0 : Int → Option R) : Option R :=
let i664 := x.1.1.2.2.2.2.2.1
let i667 := x.1.2.1
let i668 := x.1.2.2.1
let i669 : Int := mulA .i64 i667 i664
let i670 : Int := addA .i64 i669 i668
κ0 i670
def p_78 {R : Type} (N : Nat) (x : (Y0 × Int × Int × Unit) × (Unit)) (κ0 : Int → Option R) : Option R := Q_78 x κ0
def EG_78 {R : Type} : Env R := Env.base QQ LN AA
def LG_78 {R : Type} : Loops R := Loops.none
def E_78 {R : Type} (N : Nat) : Env R := EG_78
theorem eok_78 {R : Type} (N : Nat) : EK Try.prog (E_78 (R := R) N) := ek_base _ _ _
def L_78 {R : Type} (N : Nat) : Loops R := LG_78
theorem lok_78 {R : Type} (N : Nat) : LOK 0 TT (E_78 (R := R) N) (drawAny TT WW) (L_78 N) (bodyOf Try.f78) := loops_nil (by kernel_rfl)
theorem grun_78 {R : Type} (x : aden ap_78 × hden hp_78) (k : KF R) : fnrun TT (EG_78) (drawAny TT WW) (LG_78) true Try.f78 (instA ap_78 x.1) (instH hp_78 x.2) k = Q_78 x (fun y => k (Pat.inst (.int .i64) y) (instH hp_78 x.2)) := by kernel_rfl
theorem run_78 {R : Type} (N : Nat) (x : aden ap_78 × hden hp_78) (k : KF R) : fnrun TT (E_78 (R := R) N) (drawAny TT WW) (L_78 N) true Try.f78 (instA ap_78 x.1) (instH hp_78 x.2) k = p_78 N x (fun y => k (Pat.inst (.int .i64) y) (instH hp_78 x.2)) := (grun_78 x k).trans (by kernel_rfl)
theorem good_78 {R : Type} (N : Nat) : GD (X := R) Try.prog QQ AA 78 ap_78 hp_78 (fun (x : aden ap_78 × hden hp_78) k => p_78 N x (fun y => k (Pat.inst (.int .i64) y) (instH hp_78 x.2))) :=
  gd_quiet (E := E_78 N) (p := fun (x : aden ap_78 × hden hp_78) κ => p_78 N x (fun y => κ (Pat.inst (.int .i64) y))) mixed tyok (eok_78 N) Try.func78 (by kernel_rfl) (by kernel_rfl) (lok_78 N) (fun x k => run_78 N x k)

def ap_46 : List Pat := [.ptr 0 [], .node (.fcons (.int .i64) (.fcons (.int .i64) (.fnil)))]
def hp_46 : List (Option (Pat × Nat)) := J0
abbrev Tp_46 (R : Type) : Type := (Unit × (Int × (Int × Unit)) × Unit) × Y1 → (Int → Option R) → Option R
def Q_46 {R : Type} (q_78 : Tp_78 R) (x : (Unit × (Int × (Int × Unit)) × Unit) × Y1) (κ0 : Int → Option R) : Option R :=
let i643 := x.1.2.1.1
let i644 := x.1.2.1.2.1
let i647 := x.2.1.2.1.2.2.1
let i650 := x.2.1.2.1.2.2.2.2.2.1
bif (decide (i643 < 0)) then (
κ0 ((-1))) else (
bif (decide (i643 ≥ i647)) then (
κ0 ((-1))) else (
bif (decide (i644 < 0)) then (
κ0 ((-1))) else (
bif (decide (i644 ≥ i650)) then (
κ0 ((-1))) else (
q_78 ((x.2.1.2.1, i643, i644, ()), ()) (fun y671 =>
let i672 := y671
κ0 i672)))))
def p_46 {R : Type} (N : Nat) (x : (Unit × (Int × (Int × Unit)) × Unit) × Y1) (κ0 : Int → Option R) : Option R := Q_46 (p_78 N) x κ0
def EG_46 {R : Type} (q_78 : Tp_78 R) : Env R := (Env.base QQ LN AA).add 78 ap_78 hp_78 (fun (x : aden ap_78 × hden hp_78) k => q_78 x (fun y => k (Pat.inst (.int .i64) y) (instH hp_78 x.2)))
def LG_46 {R : Type} : Loops R := Loops.none
def E_46 {R : Type} (N : Nat) : Env R := EG_46 (p_78 N)
theorem eok_46 {R : Type} (N : Nat) : EK Try.prog (E_46 (R := R) N) := ek_add (ek_base _ _ _) (good_78 N)
def L_46 {R : Type} (N : Nat) : Loops R := LG_46
theorem lok_46 {R : Type} (N : Nat) : LOK 4 TT (E_46 (R := R) N) (drawAny TT WW) (L_46 N) (bodyOf Try.f46) := loops_nil (by kernel_rfl)
theorem grun_46 {R : Type} (q_78 : Tp_78 R) (x : aden ap_46 × hden hp_46) (k : KF R) : fnrun TT (EG_46 q_78) (drawAny TT WW) (LG_46) true Try.f46 (instA ap_46 x.1) (instH hp_46 x.2) k = Q_46 q_78 x (fun y => k (Pat.inst (.int .i64) y) (instH hp_46 x.2)) := by kernel_rfl
theorem run_46 {R : Type} (N : Nat) (x : aden ap_46 × hden hp_46) (k : KF R) : fnrun TT (E_46 (R := R) N) (drawAny TT WW) (L_46 N) true Try.f46 (instA ap_46 x.1) (instH hp_46 x.2) k = p_46 N x (fun y => k (Pat.inst (.int .i64) y) (instH hp_46 x.2)) := (grun_46 (p_78 N) x k).trans (by kernel_rfl)
theorem good_46 {R : Type} (N : Nat) : GD (X := R) Try.prog QQ AA 46 ap_46 hp_46 (fun (x : aden ap_46 × hden hp_46) k => p_46 N x (fun y => k (Pat.inst (.int .i64) y) (instH hp_46 x.2))) :=
  gd_quiet (E := E_46 N) (p := fun (x : aden ap_46 × hden hp_46) κ => p_46 N x (fun y => κ (Pat.inst (.int .i64) y))) mixed tyok (eok_46 N) Try.func46 (by kernel_rfl) (by kernel_rfl) (lok_46 N) (fun x k => run_46 N x k)

def ap_47 : List Pat := [.ptr 0 [], .int .i64]
def hp_47 : List (Option (Pat × Nat)) := J4
abbrev Tp_47 (R : Type) : Type := (Unit × Int × Unit) × (Y3 × Y2 × (List (Nat → Int)) × Unit) → (((Nat → Int) × (Int × Unit)) → Option R) → Option R
def Q_47 {R : Type} (x : (Unit × Int × Unit) × (Y3 × Y2 × (List (Nat → Int)) × Unit)) (κ0 : ((Nat → Int) × (Int × Unit)) → Option R) : Option R :=
let i676 := x.1.2.1
let b677 := x.2.1.2.2.1
let l682 := x.2.2.2.1
bif (decide (i676 < 0)) then (
let a683 : (Nat → Int) := (Sch.zero (.arr 128 (.int .u64)))
κ0 ((a683, (11, ())))) else (
let i684 : Int := (((List.length l682) : Nat) : Int)
bif (decide (i676 ≥ i684)) then (
let a685 : (Nat → Int) := (Sch.zero (.arr 128 (.int .u64)))
κ0 ((a685, (11, ())))) else (
bif (!b677) then (
let a686 : (Nat → Int) := (Sch.zero (.arr 128 (.int .u64)))
κ0 ((a686, (12, ())))) else (
bif decide (0 ≤ i676) then (
bif decide (i676 < ((List.length l682) : Int)) then (
let a687 : (Nat → Int) := (List.getD l682 ((Int.toNat i676)) (Sch.zero (.arr 128 (.int .u64))))
κ0 ((a687, (0, ())))) else none) else none)))
def p_47 {R : Type} (N : Nat) (x : (Unit × Int × Unit) × (Y3 × Y2 × (List (Nat → Int)) × Unit)) (κ0 : ((Nat → Int) × (Int × Unit)) → Option R) : Option R := Q_47 x κ0
def EG_47 {R : Type} : Env R := Env.base QQ LN AA
def LG_47 {R : Type} : Loops R := Loops.none
def E_47 {R : Type} (N : Nat) : Env R := EG_47
theorem eok_47 {R : Type} (N : Nat) : EK Try.prog (E_47 (R := R) N) := ek_base _ _ _
def L_47 {R : Type} (N : Nat) : Loops R := LG_47
theorem lok_47 {R : Type} (N : Nat) : LOK 3 TT (E_47 (R := R) N) (drawAny TT WW) (L_47 N) (bodyOf Try.f47) := loops_nil (by kernel_rfl)
theorem grun_47 {R : Type} (x : aden ap_47 × hden hp_47) (k : KF R) : fnrun TT (EG_47) (drawAny TT WW) (LG_47) true Try.f47 (instA ap_47 x.1) (instH hp_47 x.2) k = Q_47 x (fun y => k (Pat.inst (.tup (.fcons (.vec (.int .u64) 128) (.fcons (.int .i64) (.fnil)))) y) (instH hp_47 x.2)) := by kernel_rfl
theorem run_47 {R : Type} (N : Nat) (x : aden ap_47 × hden hp_47) (k : KF R) : fnrun TT (E_47 (R := R) N) (drawAny TT WW) (L_47 N) true Try.f47 (instA ap_47 x.1) (instH hp_47 x.2) k = p_47 N x (fun y => k (Pat.inst (.tup (.fcons (.vec (.int .u64) 128) (.fcons (.int .i64) (.fnil)))) y) (instH hp_47 x.2)) := (grun_47 x k).trans (by kernel_rfl)
theorem good_47 {R : Type} (N : Nat) : GD (X := R) Try.prog QQ AA 47 ap_47 hp_47 (fun (x : aden ap_47 × hden hp_47) k => p_47 N x (fun y => k (Pat.inst (.tup (.fcons (.vec (.int .u64) 128) (.fcons (.int .i64) (.fnil)))) y) (instH hp_47 x.2))) :=
  gd_quiet (E := E_47 N) (p := fun (x : aden ap_47 × hden hp_47) κ => p_47 N x (fun y => κ (Pat.inst (.tup (.fcons (.vec (.int .u64) 128) (.fcons (.int .i64) (.fnil)))) y))) mixed tyok (eok_47 N) Try.func47 (by kernel_rfl) (by kernel_rfl) (lok_47 N) (fun x k => run_47 N x k)

def ap_9 : List Pat := [.ptr 0 [], .node (.fcons (.int .i64) (.fcons (.int .i64) (.fnil)))]
def hp_9 : List (Option (Pat × Nat)) := J0
abbrev Tp_9 (R : Type) : Type := (Unit × (Int × (Int × Unit)) × Unit) × Y1 → (((Nat → Int) × (Int × Unit)) → Option R) → Option R
def Q_9 {R : Type} (q_46 : Tp_46 R) (q_47 : Tp_47 R) (x : (Unit × (Int × (Int × Unit)) × Unit) × Y1) (κ0 : ((Nat → Int) × (Int × Unit)) → Option R) : Option R :=
let l642 := x.2.2.2.2.1
q_46 (((), x.1.2.1, ()), (x.2.1, x.2.2.1, x.2.2.2.1, l642, ())) (fun y673 =>
let i674 : Int := y673
bif (decide (i674 < 0)) then (
let a675 : (Nat → Int) := (Sch.zero (.arr 128 (.int .u64)))
κ0 ((a675, (11, ())))) else (
q_47 (((), i674, ()), (x.2.2.1, x.2.2.2.1, l642, ())) (fun y688 =>
κ0 (y688))))
def p_9 {R : Type} (N : Nat) (x : (Unit × (Int × (Int × Unit)) × Unit) × Y1) (κ0 : ((Nat → Int) × (Int × Unit)) → Option R) : Option R := Q_9 (p_46 N) (p_47 N) x κ0
def EG_9 {R : Type} (q_46 : Tp_46 R) (q_47 : Tp_47 R) : Env R := ((Env.base QQ LN AA).add 46 ap_46 hp_46 (fun (x : aden ap_46 × hden hp_46) k => q_46 x (fun y => k (Pat.inst (.int .i64) y) (instH hp_46 x.2)))).add 47 ap_47 hp_47 (fun (x : aden ap_47 × hden hp_47) k => q_47 x (fun y => k (Pat.inst (.tup (.fcons (.vec (.int .u64) 128) (.fcons (.int .i64) (.fnil)))) y) (instH hp_47 x.2)))
def LG_9 {R : Type} : Loops R := Loops.none
def E_9 {R : Type} (N : Nat) : Env R := EG_9 (p_46 N) (p_47 N)
theorem eok_9 {R : Type} (N : Nat) : EK Try.prog (E_9 (R := R) N) := ek_add (ek_add (ek_base _ _ _) (good_46 N)) (good_47 N)
def L_9 {R : Type} (N : Nat) : Loops R := LG_9
theorem lok_9 {R : Type} (N : Nat) : LOK 4 TT (E_9 (R := R) N) (drawAny TT WW) (L_9 N) (bodyOf Try.f9) := loops_nil (by kernel_rfl)
theorem grun_9 {R : Type} (q_46 : Tp_46 R) (q_47 : Tp_47 R) (x : aden ap_9 × hden hp_9) (k : KF R) : fnrun TT (EG_9 q_46 q_47) (drawAny TT WW) (LG_9) true Try.f9 (instA ap_9 x.1) (instH hp_9 x.2) k = Q_9 q_46 q_47 x (fun y => k (Pat.inst (.tup (.fcons (.vec (.int .u64) 128) (.fcons (.int .i64) (.fnil)))) y) (instH hp_9 x.2)) := by kernel_rfl
theorem run_9 {R : Type} (N : Nat) (x : aden ap_9 × hden hp_9) (k : KF R) : fnrun TT (E_9 (R := R) N) (drawAny TT WW) (L_9 N) true Try.f9 (instA ap_9 x.1) (instH hp_9 x.2) k = p_9 N x (fun y => k (Pat.inst (.tup (.fcons (.vec (.int .u64) 128) (.fcons (.int .i64) (.fnil)))) y) (instH hp_9 x.2)) := (grun_9 (p_46 N) (p_47 N) x k).trans (by kernel_rfl)
theorem good_9 {R : Type} (N : Nat) : GD (X := R) Try.prog QQ AA 9 ap_9 hp_9 (fun (x : aden ap_9 × hden hp_9) k => p_9 N x (fun y => k (Pat.inst (.tup (.fcons (.vec (.int .u64) 128) (.fcons (.int .i64) (.fnil)))) y) (instH hp_9 x.2))) :=
  gd_quiet (E := E_9 N) (p := fun (x : aden ap_9 × hden hp_9) κ => p_9 N x (fun y => κ (Pat.inst (.tup (.fcons (.vec (.int .u64) 128) (.fcons (.int .i64) (.fnil)))) y))) mixed tyok (eok_9 N) Try.func9 (by kernel_rfl) (by kernel_rfl) (lok_9 N) (fun x k => run_9 N x k)

def ap_32 : List Pat := [.ptr 0 [], .node (.fcons (.int .i64) (.fcons (.int .i64) (.fnil))), .int .i64, .int .i64, .ptr 4 []]
def hp_32 : List (Option (Pat × Nat)) := J1
abbrev Tp_32 (R : Type) : Type := (Unit × (Int × (Int × Unit)) × Int × Int × Unit × Unit) × Y21 → (((Int × (Int × (Int × Unit))) × Y21) → Option R) → Option R
def Q_32 {R : Type} (q_64 : Tp_64 R) (q_65 : Tp_65 R) (q_36 : Tp_36 R) (q_37 : Tp_37 R) (q_9 : Tp_9 R) (q_66 : Tp_66 R) (x : (Unit × (Int × (Int × Unit)) × Int × Int × Unit × Unit) × Y21) (κ0 : ((Int × (Int × (Int × Unit))) × Y21) → Option R) : Option R :=
let i235 := x.1.2.1.2.1
let i236 := x.1.2.2.1
let i237 := x.1.2.2.2.1
let l251 := x.2.2.2.2.1
q_64 ((x.2.1.2.1, x.1.2.1, ()), ()) (fun y275 =>
let b276 : Bool := y275
bif b276 then (
q_65 (((), i237, ()), x.2.2.2.2.2) (fun y584 =>
let i585 := y584.1.1
let i586 := y584.1.2.1
κ0 ((i585, (i586, (0, ()))), (x.2.1, x.2.2.1, x.2.2.2.1, l251, y584.2.1, ())))) else (
q_36 ((x.2.1.2.1, i235, i237, ()), ()) (fun y612 =>
let i613 := y612
q_37 ((x.2.1.2.1, i613, ()), ()) (fun y625 =>
let i626 : Int := y625
q_9 (((), (i236, (i626, ())), ()), (x.2.1, x.2.2.1, x.2.2.2.1, l251, ())) (fun y691 =>
let a692 := y691.1
let i693 := y691.2.1
bif (i693 != 0) then (
κ0 ((0, (0, y691.2)), (x.2.1, x.2.2.1, x.2.2.2.1, l251, x.2.2.2.2.2.1, ()))) else (
let i694 : Int := (a692 0)
q_66 ((i694, ()), ()) (fun y695 =>
let i696 := y695.1
let i697 := y695.2.1
κ0 ((i696, (i697, (0, ()))), (x.2.1, x.2.2.1, x.2.2.2.1, l251, x.2.2.2.2.2.1, ())))))))))
def p_32 {R : Type} (N : Nat) (x : (Unit × (Int × (Int × Unit)) × Int × Int × Unit × Unit) × Y21) (κ0 : ((Int × (Int × (Int × Unit))) × Y21) → Option R) : Option R := Q_32 (p_64 N) (p_65 N) (p_36 N) (p_37 N) (p_9 N) (p_66 N) x κ0
def EG_32 {R : Type} (q_64 : Tp_64 R) (q_65 : Tp_65 R) (q_36 : Tp_36 R) (q_37 : Tp_37 R) (q_9 : Tp_9 R) (q_66 : Tp_66 R) : Env R := ((((((Env.base QQ LN AA).add 64 ap_64 hp_64 (fun (x : aden ap_64 × hden hp_64) k => q_64 x (fun y => k (Pat.inst (.bool) y) (instH hp_64 x.2)))).add 65 ap_65 hp_65 (fun (x : aden ap_65 × hden hp_65) k => q_65 x (fun y => k (Pat.inst (.tup (.fcons (.int .u32) (.fcons (.int .u32) (.fnil)))) y.1) (instH [some (Z3, 132)] y.2)))).add 36 ap_36 hp_36 (fun (x : aden ap_36 × hden hp_36) k => q_36 x (fun y => k (Pat.inst (.int .i64) y) (instH hp_36 x.2)))).add 37 ap_37 hp_37 (fun (x : aden ap_37 × hden hp_37) k => q_37 x (fun y => k (Pat.inst (.int .i64) y) (instH hp_37 x.2)))).add 9 ap_9 hp_9 (fun (x : aden ap_9 × hden hp_9) k => q_9 x (fun y => k (Pat.inst (.tup (.fcons (.vec (.int .u64) 128) (.fcons (.int .i64) (.fnil)))) y) (instH hp_9 x.2)))).add 66 ap_66 hp_66 (fun (x : aden ap_66 × hden hp_66) k => q_66 x (fun y => k (Pat.inst (.tup (.fcons (.int .u32) (.fcons (.int .u32) (.fnil)))) y) (instH hp_66 x.2)))
def LG_32 {R : Type} : Loops R := Loops.none
def E_32 {R : Type} (N : Nat) : Env R := EG_32 (p_64 N) (p_65 N) (p_36 N) (p_37 N) (p_9 N) (p_66 N)
theorem eok_32 {R : Type} (N : Nat) : EK Try.prog (E_32 (R := R) N) := ek_add (ek_add (ek_add (ek_add (ek_add (ek_add (ek_base _ _ _) (good_64 N)) (good_65 N)) (good_36 N)) (good_37 N)) (good_9 N)) (good_66 N)
def L_32 {R : Type} (N : Nat) : Loops R := LG_32
theorem lok_32 {R : Type} (N : Nat) : LOK 5 TT (E_32 (R := R) N) (drawAny TT WW) (L_32 N) (bodyOf Try.f32) := loops_nil (by kernel_rfl)
theorem grun_32 {R : Type} (q_64 : Tp_64 R) (q_65 : Tp_65 R) (q_36 : Tp_36 R) (q_37 : Tp_37 R) (q_9 : Tp_9 R) (q_66 : Tp_66 R) (x : aden ap_32 × hden hp_32) (k : KF R) : fnrun TT (EG_32 q_64 q_65 q_36 q_37 q_9 q_66) (drawAny TT WW) (LG_32) true Try.f32 (instA ap_32 x.1) (instH hp_32 x.2) k = Q_32 q_64 q_65 q_36 q_37 q_9 q_66 x (fun y => k (Pat.inst (.tup (.fcons (.int .u32) (.fcons (.int .u32) (.fcons (.int .i64) (.fnil))))) y.1) (instH J1 y.2)) := by kernel_rfl
theorem run_32 {R : Type} (N : Nat) (x : aden ap_32 × hden hp_32) (k : KF R) : fnrun TT (E_32 (R := R) N) (drawAny TT WW) (L_32 N) true Try.f32 (instA ap_32 x.1) (instH hp_32 x.2) k = p_32 N x (fun y => k (Pat.inst (.tup (.fcons (.int .u32) (.fcons (.int .u32) (.fcons (.int .i64) (.fnil))))) y.1) (instH J1 y.2)) := (grun_32 (p_64 N) (p_65 N) (p_36 N) (p_37 N) (p_9 N) (p_66 N) x k).trans (by kernel_rfl)
theorem good_32 {R : Type} (N : Nat) : GD (X := R) Try.prog QQ AA 32 ap_32 hp_32 (fun (x : aden ap_32 × hden hp_32) k => p_32 N x (fun y => k (Pat.inst (.tup (.fcons (.int .u32) (.fcons (.int .u32) (.fcons (.int .i64) (.fnil))))) y.1) (instH J1 y.2))) :=
  gd_loud (E := E_32 N) (p := fun (x : aden ap_32 × hden hp_32) k => p_32 N x (fun y => k (Pat.inst (.tup (.fcons (.int .u32) (.fcons (.int .u32) (.fcons (.int .i64) (.fnil))))) y.1) (instH J1 y.2))) mixed tyok (eok_32 N) Try.func32 (by kernel_rfl) (by kernel_rfl) (by kernel_rfl) (by kernel_rfl) (lok_32 N) (fun x k => run_32 N x k)

def ap_29 : List Pat := [.node (.fcons (.int .i64) (.fcons (.int .i64) (.fcons (.int .i64) (.fcons (.int .i64) (.fcons (.int .i64) (.fcons (.int .i64) (.fcons (.int .i64) (.fcons (.int .i64) (.fnil))))))))), .node (.fcons (.int .i64) (.fcons (.int .i64) (.fnil)))]
def hp_29 : List (Option (Pat × Nat)) := []
abbrev Tp_29 (R : Type) : Type := (Y0 × (Int × (Int × Unit)) × Unit) × (Unit) → (Bool → Option R) → Option R
def Q_29 {R : Type} (q_63 : Tp_63 R) (x : (Y0 × (Int × (Int × Unit)) × Unit) × (Unit)) (κ0 : Bool → Option R) : Option R :=
let i744 := x.1.1.2.1
let i751 := x.1.2.1.1
let i752 := x.1.2.1.2.1
let i753 : Int := subA .i64 i744 1
q_63 ((i751, 0, i753, ()), ()) (fun y754 =>
let b755 : Bool := y754
bif b755 then (
q_63 ((i752, 0, 3, ()), ()) (fun y756 =>
let b757 : Bool := y756
κ0 b757)) else (
κ0 false))
def p_29 {R : Type} (N : Nat) (x : (Y0 × (Int × (Int × Unit)) × Unit) × (Unit)) (κ0 : Bool → Option R) : Option R := Q_29 (p_63 N) x κ0
def EG_29 {R : Type} (q_63 : Tp_63 R) : Env R := (Env.base QQ LN AA).add 63 ap_63 hp_63 (fun (x : aden ap_63 × hden hp_63) k => q_63 x (fun y => k (Pat.inst (.bool) y) (instH hp_63 x.2)))
def LG_29 {R : Type} : Loops R := Loops.none
def E_29 {R : Type} (N : Nat) : Env R := EG_29 (p_63 N)
theorem eok_29 {R : Type} (N : Nat) : EK Try.prog (E_29 (R := R) N) := ek_add (ek_base _ _ _) (good_63 N)
def L_29 {R : Type} (N : Nat) : Loops R := LG_29
theorem lok_29 {R : Type} (N : Nat) : LOK 0 TT (E_29 (R := R) N) (drawAny TT WW) (L_29 N) (bodyOf Try.f29) := loops_nil (by kernel_rfl)
theorem grun_29 {R : Type} (q_63 : Tp_63 R) (x : aden ap_29 × hden hp_29) (k : KF R) : fnrun TT (EG_29 q_63) (drawAny TT WW) (LG_29) true Try.f29 (instA ap_29 x.1) (instH hp_29 x.2) k = Q_29 q_63 x (fun y => k (Pat.inst (.bool) y) (instH hp_29 x.2)) := by kernel_rfl
theorem run_29 {R : Type} (N : Nat) (x : aden ap_29 × hden hp_29) (k : KF R) : fnrun TT (E_29 (R := R) N) (drawAny TT WW) (L_29 N) true Try.f29 (instA ap_29 x.1) (instH hp_29 x.2) k = p_29 N x (fun y => k (Pat.inst (.bool) y) (instH hp_29 x.2)) := (grun_29 (p_63 N) x k).trans (by kernel_rfl)
theorem good_29 {R : Type} (N : Nat) : GD (X := R) Try.prog QQ AA 29 ap_29 hp_29 (fun (x : aden ap_29 × hden hp_29) k => p_29 N x (fun y => k (Pat.inst (.bool) y) (instH hp_29 x.2))) :=
  gd_quiet (E := E_29 N) (p := fun (x : aden ap_29 × hden hp_29) κ => p_29 N x (fun y => κ (Pat.inst (.bool) y))) mixed tyok (eok_29 N) Try.func29 (by kernel_rfl) (by kernel_rfl) (lok_29 N) (fun x k => run_29 N x k)

def ap_30 : List Pat := [.node (.fcons (.int .i64) (.fcons (.int .i64) (.fcons (.int .i64) (.fcons (.int .i64) (.fcons (.int .i64) (.fcons (.int .i64) (.fcons (.int .i64) (.fcons (.int .i64) (.fnil))))))))), .int .i64, .int .i64]
def hp_30 : List (Option (Pat × Nat)) := []
abbrev Tp_30 (R : Type) : Type := (Y0 × Int × Int × Unit) × (Unit) → (Int → Option R) → Option R
def Q_30 {R : Type} (x : (Y0 × Int × Int × Unit) × (Unit)) (κ0 : Int → Option R) : Option R :=
let i771 := x.1.2.1
let i772 := x.1.2.2.1
bif (i771 == 0) then (
bif (i772 == 0) then (
κ0 2) else (
κ0 0)) else (
κ0 0)
def p_30 {R : Type} (N : Nat) (x : (Y0 × Int × Int × Unit) × (Unit)) (κ0 : Int → Option R) : Option R := Q_30 x κ0
def EG_30 {R : Type} : Env R := Env.base QQ LN AA
def LG_30 {R : Type} : Loops R := Loops.none
def E_30 {R : Type} (N : Nat) : Env R := EG_30
theorem eok_30 {R : Type} (N : Nat) : EK Try.prog (E_30 (R := R) N) := ek_base _ _ _
def L_30 {R : Type} (N : Nat) : Loops R := LG_30
theorem lok_30 {R : Type} (N : Nat) : LOK 0 TT (E_30 (R := R) N) (drawAny TT WW) (L_30 N) (bodyOf Try.f30) := loops_nil (by kernel_rfl)
theorem grun_30 {R : Type} (x : aden ap_30 × hden hp_30) (k : KF R) : fnrun TT (EG_30) (drawAny TT WW) (LG_30) true Try.f30 (instA ap_30 x.1) (instH hp_30 x.2) k = Q_30 x (fun y => k (Pat.inst (.int .i64) y) (instH hp_30 x.2)) := by kernel_rfl
theorem run_30 {R : Type} (N : Nat) (x : aden ap_30 × hden hp_30) (k : KF R) : fnrun TT (E_30 (R := R) N) (drawAny TT WW) (L_30 N) true Try.f30 (instA ap_30 x.1) (instH hp_30 x.2) k = p_30 N x (fun y => k (Pat.inst (.int .i64) y) (instH hp_30 x.2)) := (grun_30 x k).trans (by kernel_rfl)
theorem good_30 {R : Type} (N : Nat) : GD (X := R) Try.prog QQ AA 30 ap_30 hp_30 (fun (x : aden ap_30 × hden hp_30) k => p_30 N x (fun y => k (Pat.inst (.int .i64) y) (instH hp_30 x.2))) :=
  gd_quiet (E := E_30 N) (p := fun (x : aden ap_30 × hden hp_30) κ => p_30 N x (fun y => κ (Pat.inst (.int .i64) y))) mixed tyok (eok_30 N) Try.func30 (by kernel_rfl) (by kernel_rfl) (lok_30 N) (fun x k => run_30 N x k)

def ap_67 : List Pat := [.node (.fcons (.int .i64) (.fcons (.int .i64) (.fcons (.int .i64) (.fcons (.int .i64) (.fcons (.int .i64) (.fcons (.int .i64) (.fcons (.int .i64) (.fcons (.int .i64) (.fnil))))))))), .node (.fcons (.int .i64) (.fcons (.int .i64) (.fnil))), .int .i64, .int .u32]
def hp_67 : List (Option (Pat × Nat)) := []
abbrev Tp_67 (R : Type) : Type := (Y0 × (Int × (Int × Unit)) × Int × Int × Unit) × (Unit) → (Int → Option R) → Option R
def Q_67 {R : Type} (x : (Y0 × (Int × (Int × Unit)) × Int × Int × Unit) × (Unit)) (κ0 : Int → Option R) : Option R :=
let i780 := x.1.1.2.2.1
let i786 := x.1.2.1.1
let i787 := x.1.2.1.2.1
let i788 := x.1.2.2.1
let i789 := x.1.2.2.2.1
bif (i786 == 0) then (
bif (i787 == 0) then (
κ0 i788) else (
let i790 : Int := IntKind.wrap .u64 i789
let i791 : Int := IntKind.wrap .u64 i780
bif decide (i791 = 0) then none else (
let i792 : Int := remA .u64 i790 i791
let i793 : Int := IntKind.wrap .i64 i792
κ0 i793))) else (
let i794 : Int := IntKind.wrap .u64 i789
let i795 : Int := IntKind.wrap .u64 i780
bif decide (i795 = 0) then none else (
let i796 : Int := remA .u64 i794 i795
let i797 : Int := IntKind.wrap .i64 i796
κ0 i797))
def p_67 {R : Type} (N : Nat) (x : (Y0 × (Int × (Int × Unit)) × Int × Int × Unit) × (Unit)) (κ0 : Int → Option R) : Option R := Q_67 x κ0
def EG_67 {R : Type} : Env R := Env.base QQ LN AA
def LG_67 {R : Type} : Loops R := Loops.none
def E_67 {R : Type} (N : Nat) : Env R := EG_67
theorem eok_67 {R : Type} (N : Nat) : EK Try.prog (E_67 (R := R) N) := ek_base _ _ _
def L_67 {R : Type} (N : Nat) : Loops R := LG_67
theorem lok_67 {R : Type} (N : Nat) : LOK 0 TT (E_67 (R := R) N) (drawAny TT WW) (L_67 N) (bodyOf Try.f67) := loops_nil (by kernel_rfl)
theorem grun_67 {R : Type} (x : aden ap_67 × hden hp_67) (k : KF R) : fnrun TT (EG_67) (drawAny TT WW) (LG_67) true Try.f67 (instA ap_67 x.1) (instH hp_67 x.2) k = Q_67 x (fun y => k (Pat.inst (.int .i64) y) (instH hp_67 x.2)) := by kernel_rfl
theorem run_67 {R : Type} (N : Nat) (x : aden ap_67 × hden hp_67) (k : KF R) : fnrun TT (E_67 (R := R) N) (drawAny TT WW) (L_67 N) true Try.f67 (instA ap_67 x.1) (instH hp_67 x.2) k = p_67 N x (fun y => k (Pat.inst (.int .i64) y) (instH hp_67 x.2)) := (grun_67 x k).trans (by kernel_rfl)
theorem good_67 {R : Type} (N : Nat) : GD (X := R) Try.prog QQ AA 67 ap_67 hp_67 (fun (x : aden ap_67 × hden hp_67) k => p_67 N x (fun y => k (Pat.inst (.int .i64) y) (instH hp_67 x.2))) :=
  gd_quiet (E := E_67 N) (p := fun (x : aden ap_67 × hden hp_67) κ => p_67 N x (fun y => κ (Pat.inst (.int .i64) y))) mixed tyok (eok_67 N) Try.func67 (by kernel_rfl) (by kernel_rfl) (lok_67 N) (fun x k => run_67 N x k)

def ap_68 : List Pat := [.node (.fcons (.int .i64) (.fcons (.int .i64) (.fcons (.int .i64) (.fcons (.int .i64) (.fcons (.int .i64) (.fcons (.int .i64) (.fcons (.int .i64) (.fcons (.int .i64) (.fnil))))))))), .node (.fcons (.int .i64) (.fcons (.int .i64) (.fnil))), .int .i64, .bool]
def hp_68 : List (Option (Pat × Nat)) := []
abbrev Tp_68 (R : Type) : Type := (Y0 × (Int × (Int × Unit)) × Int × Bool × Unit) × (Unit) → (Int → Option R) → Option R
def Q_68 {R : Type} (x : (Y0 × (Int × (Int × Unit)) × Int × Bool × Unit) × (Unit)) (κ0 : Int → Option R) : Option R :=
let i805 := x.1.1.2.2.2.2.2.1
let i806 := x.1.1.2.2.2.2.2.2.1
let i808 := x.1.2.1.1
let i809 := x.1.2.1.2.1
let i810 := x.1.2.2.1
let b811 := x.1.2.2.2.1
let i812 : Int := mulA .i64 i809 i806
bif (decide (i808 > 0)) then (
let i813 : Int := subA .i64 i805 i806
bif b811 then (
let i814 : Int := addA .i64 i813 i810
let i815 : Int := subA .i64 i814 1
κ0 i815) else (
bif (i810 == 0) then (
let i816 : Int := subA .i64 i813 1
κ0 i816) else (
κ0 i813))) else (
bif b811 then (
let i817 : Int := addA .i64 i812 i810
let i818 : Int := subA .i64 i817 1
κ0 i818) else (
bif (i810 == 0) then (
let i819 : Int := subA .i64 i812 1
κ0 i819) else (
κ0 i812)))
def p_68 {R : Type} (N : Nat) (x : (Y0 × (Int × (Int × Unit)) × Int × Bool × Unit) × (Unit)) (κ0 : Int → Option R) : Option R := Q_68 x κ0
def EG_68 {R : Type} : Env R := Env.base QQ LN AA
def LG_68 {R : Type} : Loops R := Loops.none
def E_68 {R : Type} (N : Nat) : Env R := EG_68
theorem eok_68 {R : Type} (N : Nat) : EK Try.prog (E_68 (R := R) N) := ek_base _ _ _
def L_68 {R : Type} (N : Nat) : Loops R := LG_68
theorem lok_68 {R : Type} (N : Nat) : LOK 0 TT (E_68 (R := R) N) (drawAny TT WW) (L_68 N) (bodyOf Try.f68) := loops_nil (by kernel_rfl)
theorem grun_68 {R : Type} (x : aden ap_68 × hden hp_68) (k : KF R) : fnrun TT (EG_68) (drawAny TT WW) (LG_68) true Try.f68 (instA ap_68 x.1) (instH hp_68 x.2) k = Q_68 x (fun y => k (Pat.inst (.int .i64) y) (instH hp_68 x.2)) := by kernel_rfl
theorem run_68 {R : Type} (N : Nat) (x : aden ap_68 × hden hp_68) (k : KF R) : fnrun TT (E_68 (R := R) N) (drawAny TT WW) (L_68 N) true Try.f68 (instA ap_68 x.1) (instH hp_68 x.2) k = p_68 N x (fun y => k (Pat.inst (.int .i64) y) (instH hp_68 x.2)) := (grun_68 x k).trans (by kernel_rfl)
theorem good_68 {R : Type} (N : Nat) : GD (X := R) Try.prog QQ AA 68 ap_68 hp_68 (fun (x : aden ap_68 × hden hp_68) k => p_68 N x (fun y => k (Pat.inst (.int .i64) y) (instH hp_68 x.2))) :=
  gd_quiet (E := E_68 N) (p := fun (x : aden ap_68 × hden hp_68) κ => p_68 N x (fun y => κ (Pat.inst (.int .i64) y))) mixed tyok (eok_68 N) Try.func68 (by kernel_rfl) (by kernel_rfl) (lok_68 N) (fun x k => run_68 N x k)

def ap_69 : List Pat := [.node (.fcons (.int .i64) (.fcons (.int .i64) (.fcons (.int .i64) (.fcons (.int .i64) (.fcons (.int .i64) (.fcons (.int .i64) (.fcons (.int .i64) (.fcons (.int .i64) (.fnil))))))))), .node (.fcons (.int .i64) (.fcons (.int .i64) (.fnil)))]
def hp_69 : List (Option (Pat × Nat)) := []
abbrev Tp_69 (R : Type) : Type := (Y0 × (Int × (Int × Unit)) × Unit) × (Unit) → (Int → Option R) → Option R
def Q_69 {R : Type} (x : (Y0 × (Int × (Int × Unit)) × Unit) × (Unit)) (κ0 : Int → Option R) : Option R :=
let i828 := x.1.1.2.2.2.2.2.2.1
let i830 := x.1.2.1.1
let i831 := x.1.2.1.2.1
bif (i830 == 0) then (
κ0 0) else (
bif (i831 == 3) then (
κ0 0) else (
let i832 : Int := addA .i64 i831 1
let i833 : Int := mulA .i64 i832 i828
κ0 i833))
def p_69 {R : Type} (N : Nat) (x : (Y0 × (Int × (Int × Unit)) × Unit) × (Unit)) (κ0 : Int → Option R) : Option R := Q_69 x κ0
def EG_69 {R : Type} : Env R := Env.base QQ LN AA
def LG_69 {R : Type} : Loops R := Loops.none
def E_69 {R : Type} (N : Nat) : Env R := EG_69
theorem eok_69 {R : Type} (N : Nat) : EK Try.prog (E_69 (R := R) N) := ek_base _ _ _
def L_69 {R : Type} (N : Nat) : Loops R := LG_69
theorem lok_69 {R : Type} (N : Nat) : LOK 0 TT (E_69 (R := R) N) (drawAny TT WW) (L_69 N) (bodyOf Try.f69) := loops_nil (by kernel_rfl)
theorem grun_69 {R : Type} (x : aden ap_69 × hden hp_69) (k : KF R) : fnrun TT (EG_69) (drawAny TT WW) (LG_69) true Try.f69 (instA ap_69 x.1) (instH hp_69 x.2) k = Q_69 x (fun y => k (Pat.inst (.int .i64) y) (instH hp_69 x.2)) := by kernel_rfl
theorem run_69 {R : Type} (N : Nat) (x : aden ap_69 × hden hp_69) (k : KF R) : fnrun TT (E_69 (R := R) N) (drawAny TT WW) (L_69 N) true Try.f69 (instA ap_69 x.1) (instH hp_69 x.2) k = p_69 N x (fun y => k (Pat.inst (.int .i64) y) (instH hp_69 x.2)) := (grun_69 x k).trans (by kernel_rfl)
theorem good_69 {R : Type} (N : Nat) : GD (X := R) Try.prog QQ AA 69 ap_69 hp_69 (fun (x : aden ap_69 × hden hp_69) k => p_69 N x (fun y => k (Pat.inst (.int .i64) y) (instH hp_69 x.2))) :=
  gd_quiet (E := E_69 N) (p := fun (x : aden ap_69 × hden hp_69) κ => p_69 N x (fun y => κ (Pat.inst (.int .i64) y))) mixed tyok (eok_69 N) Try.func69 (by kernel_rfl) (by kernel_rfl) (lok_69 N) (fun x k => run_69 N x k)

def ap_89 : List Pat := [.int .u64, .int .u64]
def hp_89 : List (Option (Pat × Nat)) := []
abbrev Tp_89 (R : Type) : Type := (Int × Int × Unit) × (Unit) → ((Int × (Int × Unit)) → Option R) → Option R
def Q_89 {R : Type} (x : (Int × Int × Unit) × (Unit)) (κ0 : (Int × (Int × Unit)) → Option R) : Option R :=
let i843 := x.1.1
let i844 := x.1.2.1
let i845 : Int := andA .u64 i843 4294967295
let i846 : Int := shrA .u64 i843 32
let i847 : Int := andA .u64 i844 4294967295
let i848 : Int := shrA .u64 i844 32
let i849 : Int := mulA .u64 i845 i847
let i850 : Int := mulA .u64 i846 i847
let i851 : Int := shrA .u64 i849 32
let i852 : Int := addA .u64 i850 i851
let i853 : Int := andA .u64 i852 4294967295
let i854 : Int := shrA .u64 i852 32
let i855 : Int := mulA .u64 i845 i848
let i856 : Int := addA .u64 i853 i855
let i857 : Int := mulA .u64 i846 i848
let i858 : Int := addA .u64 i857 i854
let i859 : Int := shrA .u64 i856 32
let i860 : Int := addA .u64 i858 i859
let i861 : Int := mulA .u64 i843 i844
κ0 ((i860, (i861, ())))
def p_89 {R : Type} (N : Nat) (x : (Int × Int × Unit) × (Unit)) (κ0 : (Int × (Int × Unit)) → Option R) : Option R := Q_89 x κ0
def EG_89 {R : Type} : Env R := Env.base QQ LN AA
def LG_89 {R : Type} : Loops R := Loops.none
def E_89 {R : Type} (N : Nat) : Env R := EG_89
theorem eok_89 {R : Type} (N : Nat) : EK Try.prog (E_89 (R := R) N) := ek_base _ _ _
def L_89 {R : Type} (N : Nat) : Loops R := LG_89
theorem lok_89 {R : Type} (N : Nat) : LOK 0 TT (E_89 (R := R) N) (drawAny TT WW) (L_89 N) (bodyOf Try.f89) := loops_nil (by kernel_rfl)
theorem grun_89 {R : Type} (x : aden ap_89 × hden hp_89) (k : KF R) : fnrun TT (EG_89) (drawAny TT WW) (LG_89) true Try.f89 (instA ap_89 x.1) (instH hp_89 x.2) k = Q_89 x (fun y => k (Pat.inst (.tup (.fcons (.int .u64) (.fcons (.int .u64) (.fnil)))) y) (instH hp_89 x.2)) := by kernel_rfl
theorem run_89 {R : Type} (N : Nat) (x : aden ap_89 × hden hp_89) (k : KF R) : fnrun TT (E_89 (R := R) N) (drawAny TT WW) (L_89 N) true Try.f89 (instA ap_89 x.1) (instH hp_89 x.2) k = p_89 N x (fun y => k (Pat.inst (.tup (.fcons (.int .u64) (.fcons (.int .u64) (.fnil)))) y) (instH hp_89 x.2)) := (grun_89 x k).trans (by kernel_rfl)
theorem good_89 {R : Type} (N : Nat) : GD (X := R) Try.prog QQ AA 89 ap_89 hp_89 (fun (x : aden ap_89 × hden hp_89) k => p_89 N x (fun y => k (Pat.inst (.tup (.fcons (.int .u64) (.fcons (.int .u64) (.fnil)))) y) (instH hp_89 x.2))) :=
  gd_quiet (E := E_89 N) (p := fun (x : aden ap_89 × hden hp_89) κ => p_89 N x (fun y => κ (Pat.inst (.tup (.fcons (.int .u64) (.fcons (.int .u64) (.fnil)))) y))) mixed tyok (eok_89 N) Try.func89 (by kernel_rfl) (by kernel_rfl) (lok_89 N) (fun x k => run_89 N x k)

def ap_70 : List Pat := [.int .i64, .int .u32]
def hp_70 : List (Option (Pat × Nat)) := []
abbrev Tp_70 (R : Type) : Type := (Int × Int × Unit) × (Unit) → (Int → Option R) → Option R
def Q_70 {R : Type} (q_89 : Tp_89 R) (x : (Int × Int × Unit) × (Unit)) (κ0 : Int → Option R) : Option R :=
let i836 := x.1.1
let i837 := x.1.2.1
bif (decide (i836 < 1)) then (
κ0 0) else (
let i838 : Int := IntKind.wrap .u64 i837
let i839 : Int := IntKind.wrap .u64 i837
let i840 : Int := mulA .u64 i838 i839
let i841 : Int := shrA .u64 i840 32
let i842 : Int := IntKind.wrap .u64 i836
q_89 ((i842, i841, ()), ()) (fun y862 =>
let i863 := y862.1
let i864 := y862.2.1
let i865 : Int := shlA .u64 i863 32
let i866 : Int := shrA .u64 i864 32
let i867 : Int := orA .u64 i865 i866
let i868 : Int := subA .i64 i836 1
let i869 : Int := IntKind.wrap .i64 i867
let i870 : Int := subA .i64 i868 i869
κ0 i870))
def p_70 {R : Type} (N : Nat) (x : (Int × Int × Unit) × (Unit)) (κ0 : Int → Option R) : Option R := Q_70 (p_89 N) x κ0
def EG_70 {R : Type} (q_89 : Tp_89 R) : Env R := (Env.base QQ LN AA).add 89 ap_89 hp_89 (fun (x : aden ap_89 × hden hp_89) k => q_89 x (fun y => k (Pat.inst (.tup (.fcons (.int .u64) (.fcons (.int .u64) (.fnil)))) y) (instH hp_89 x.2)))
def LG_70 {R : Type} : Loops R := Loops.none
def E_70 {R : Type} (N : Nat) : Env R := EG_70 (p_89 N)
theorem eok_70 {R : Type} (N : Nat) : EK Try.prog (E_70 (R := R) N) := ek_add (ek_base _ _ _) (good_89 N)
def L_70 {R : Type} (N : Nat) : Loops R := LG_70
theorem lok_70 {R : Type} (N : Nat) : LOK 0 TT (E_70 (R := R) N) (drawAny TT WW) (L_70 N) (bodyOf Try.f70) := loops_nil (by kernel_rfl)
theorem grun_70 {R : Type} (q_89 : Tp_89 R) (x : aden ap_70 × hden hp_70) (k : KF R) : fnrun TT (EG_70 q_89) (drawAny TT WW) (LG_70) true Try.f70 (instA ap_70 x.1) (instH hp_70 x.2) k = Q_70 q_89 x (fun y => k (Pat.inst (.int .i64) y) (instH hp_70 x.2)) := by kernel_rfl
theorem run_70 {R : Type} (N : Nat) (x : aden ap_70 × hden hp_70) (k : KF R) : fnrun TT (E_70 (R := R) N) (drawAny TT WW) (L_70 N) true Try.f70 (instA ap_70 x.1) (instH hp_70 x.2) k = p_70 N x (fun y => k (Pat.inst (.int .i64) y) (instH hp_70 x.2)) := (grun_70 (p_89 N) x k).trans (by kernel_rfl)
theorem good_70 {R : Type} (N : Nat) : GD (X := R) Try.prog QQ AA 70 ap_70 hp_70 (fun (x : aden ap_70 × hden hp_70) k => p_70 N x (fun y => k (Pat.inst (.int .i64) y) (instH hp_70 x.2))) :=
  gd_quiet (E := E_70 N) (p := fun (x : aden ap_70 × hden hp_70) κ => p_70 N x (fun y => κ (Pat.inst (.int .i64) y))) mixed tyok (eok_70 N) Try.func70 (by kernel_rfl) (by kernel_rfl) (lok_70 N) (fun x k => run_70 N x k)

def ap_34 : List Pat := [.node (.fcons (.int .i64) (.fcons (.int .i64) (.fcons (.int .i64) (.fcons (.int .i64) (.fcons (.int .i64) (.fcons (.int .i64) (.fcons (.int .i64) (.fcons (.int .i64) (.fnil))))))))), .node (.fcons (.int .i64) (.fcons (.int .i64) (.fnil))), .int .i64, .int .i64, .int .u32, .int .u32]
def hp_34 : List (Option (Pat × Nat)) := []
abbrev Tp_34 (R : Type) : Type := (Y0 × (Int × (Int × Unit)) × Int × Int × Int × Int × Unit) × (Unit) → (((Int × (Int × Unit)) × (Int × Unit)) → Option R) → Option R
def Q_34 {R : Type} (q_29 : Tp_29 R) (q_63 : Tp_63 R) (q_30 : Tp_30 R) (q_67 : Tp_67 R) (q_68 : Tp_68 R) (q_69 : Tp_69 R) (q_70 : Tp_70 R) (x : (Y0 × (Int × (Int × Unit)) × Int × Int × Int × Int × Unit) × (Unit)) (κ0 : ((Int × (Int × Unit)) × (Int × Unit)) → Option R) : Option R :=
let i731 := x.1.1.2.2.1
let i734 := x.1.1.2.2.2.2.2.1
let i735 := x.1.1.2.2.2.2.2.2.1
let i737 := x.1.2.1.1
let i738 := x.1.2.1.2.1
let i739 := x.1.2.2.1
let i740 := x.1.2.2.2.1
let i741 := x.1.2.2.2.2.1
let i742 := x.1.2.2.2.2.2.1
bif (decide (i731 > 0)) then (
q_29 ((x.1.1, x.1.2.1, ()), ()) (fun y758 =>
let b759 : Bool := y758
bif b759 then (
let i760 : Int := subA .i64 i731 1
q_63 ((i739, 0, i760, ()), ()) (fun y761 =>
let b762 := y761
bif (!b762) then (
κ0 (((0, (0, ())), (11, ())))) else (
q_30 ((x.1.1, i737, i738, ()), ()) (fun y773 =>
let i774 : Int := y773
let i775 : Int := subA .i64 i735 1
q_63 ((i740, i774, i775, ()), ()) (fun y776 =>
let b777 : Bool := y776
bif (!b777) then (
κ0 (((0, (0, ())), (11, ())))) else (
q_67 ((x.1.1, x.1.2.1, i739, i742, ()), ()) (fun y798 =>
let i799 : Int := y798
q_68 ((x.1.1, x.1.2.1, i740, (i799 == i739), ()), ()) (fun y820 =>
let i821 : Int := y820
q_69 ((x.1.1, x.1.2.1, ()), ()) (fun y834 =>
let i835 : Int := y834
q_70 ((i821, i741, ()), ()) (fun y871 =>
let i872 := y871
let i873 : Int := addA .i64 i835 i872
bif decide (i734 = 0) then none else (
let i874 : Int := remA .i64 i873 i734
κ0 (((i799, (i874, ())), (0, ())))))))))))))) else (
κ0 (((0, (0, ())), (11, ())))))) else (
κ0 (((0, (0, ())), (11, ()))))
def p_34 {R : Type} (N : Nat) (x : (Y0 × (Int × (Int × Unit)) × Int × Int × Int × Int × Unit) × (Unit)) (κ0 : ((Int × (Int × Unit)) × (Int × Unit)) → Option R) : Option R := Q_34 (p_29 N) (p_63 N) (p_30 N) (p_67 N) (p_68 N) (p_69 N) (p_70 N) x κ0
def EG_34 {R : Type} (q_29 : Tp_29 R) (q_63 : Tp_63 R) (q_30 : Tp_30 R) (q_67 : Tp_67 R) (q_68 : Tp_68 R) (q_69 : Tp_69 R) (q_70 : Tp_70 R) : Env R := (((((((Env.base QQ LN AA).add 29 ap_29 hp_29 (fun (x : aden ap_29 × hden hp_29) k => q_29 x (fun y => k (Pat.inst (.bool) y) (instH hp_29 x.2)))).add 63 ap_63 hp_63 (fun (x : aden ap_63 × hden hp_63) k => q_63 x (fun y => k (Pat.inst (.bool) y) (instH hp_63 x.2)))).add 30 ap_30 hp_30 (fun (x : aden ap_30 × hden hp_30) k => q_30 x (fun y => k (Pat.inst (.int .i64) y) (instH hp_30 x.2)))).add 67 ap_67 hp_67 (fun (x : aden ap_67 × hden hp_67) k => q_67 x (fun y => k (Pat.inst (.int .i64) y) (instH hp_67 x.2)))).add 68 ap_68 hp_68 (fun (x : aden ap_68 × hden hp_68) k => q_68 x (fun y => k (Pat.inst (.int .i64) y) (instH hp_68 x.2)))).add 69 ap_69 hp_69 (fun (x : aden ap_69 × hden hp_69) k => q_69 x (fun y => k (Pat.inst (.int .i64) y) (instH hp_69 x.2)))).add 70 ap_70 hp_70 (fun (x : aden ap_70 × hden hp_70) k => q_70 x (fun y => k (Pat.inst (.int .i64) y) (instH hp_70 x.2)))
def LG_34 {R : Type} : Loops R := Loops.none
def E_34 {R : Type} (N : Nat) : Env R := EG_34 (p_29 N) (p_63 N) (p_30 N) (p_67 N) (p_68 N) (p_69 N) (p_70 N)
theorem eok_34 {R : Type} (N : Nat) : EK Try.prog (E_34 (R := R) N) := ek_add (ek_add (ek_add (ek_add (ek_add (ek_add (ek_add (ek_base _ _ _) (good_29 N)) (good_63 N)) (good_30 N)) (good_67 N)) (good_68 N)) (good_69 N)) (good_70 N)
def L_34 {R : Type} (N : Nat) : Loops R := LG_34
theorem lok_34 {R : Type} (N : Nat) : LOK 0 TT (E_34 (R := R) N) (drawAny TT WW) (L_34 N) (bodyOf Try.f34) := loops_nil (by kernel_rfl)
theorem grun_34 {R : Type} (q_29 : Tp_29 R) (q_63 : Tp_63 R) (q_30 : Tp_30 R) (q_67 : Tp_67 R) (q_68 : Tp_68 R) (q_69 : Tp_69 R) (q_70 : Tp_70 R) (x : aden ap_34 × hden hp_34) (k : KF R) : fnrun TT (EG_34 q_29 q_63 q_30 q_67 q_68 q_69 q_70) (drawAny TT WW) (LG_34) true Try.f34 (instA ap_34 x.1) (instH hp_34 x.2) k = Q_34 q_29 q_63 q_30 q_67 q_68 q_69 q_70 x (fun y => k (Pat.inst (.tup (.fcons Z7 (.fcons (.int .i64) (.fnil)))) y) (instH hp_34 x.2)) := by kernel_rfl
theorem run_34 {R : Type} (N : Nat) (x : aden ap_34 × hden hp_34) (k : KF R) : fnrun TT (E_34 (R := R) N) (drawAny TT WW) (L_34 N) true Try.f34 (instA ap_34 x.1) (instH hp_34 x.2) k = p_34 N x (fun y => k (Pat.inst (.tup (.fcons Z7 (.fcons (.int .i64) (.fnil)))) y) (instH hp_34 x.2)) := (grun_34 (p_29 N) (p_63 N) (p_30 N) (p_67 N) (p_68 N) (p_69 N) (p_70 N) x k).trans (by kernel_rfl)
theorem good_34 {R : Type} (N : Nat) : GD (X := R) Try.prog QQ AA 34 ap_34 hp_34 (fun (x : aden ap_34 × hden hp_34) k => p_34 N x (fun y => k (Pat.inst (.tup (.fcons Z7 (.fcons (.int .i64) (.fnil)))) y) (instH hp_34 x.2))) :=
  gd_quiet (E := E_34 N) (p := fun (x : aden ap_34 × hden hp_34) κ => p_34 N x (fun y => κ (Pat.inst (.tup (.fcons Z7 (.fcons (.int .i64) (.fnil)))) y))) mixed tyok (eok_34 N) Try.func34 (by kernel_rfl) (by kernel_rfl) (lok_34 N) (fun x k => run_34 N x k)

def ap_35 : List Pat := [.ptr 0 [], .node (.fcons (.int .i64) (.fcons (.int .i64) (.fnil))), .int .i64, .int .i64, .ptr 4 []]
def hp_35 : List (Option (Pat × Nat)) := J1
abbrev Tp_35 (R : Type) : Type := (Unit × (Int × (Int × Unit)) × Int × Int × Unit × Unit) × Y21 → (((((Int × (Int × Unit)) × ((Int × (Int × Unit)) × ((Int × (Int × Unit)) × Unit))) × (Int × Unit)) × Y21) → Option R) → Option R
def Q_35 {R : Type} (q_32 : Tp_32 R) (q_34 : Tp_34 R) (q_36 : Tp_36 R) (q_37 : Tp_37 R) (x : (Unit × (Int × (Int × Unit)) × Int × Int × Unit × Unit) × Y21) (κ0 : ((((Int × (Int × Unit)) × ((Int × (Int × Unit)) × ((Int × (Int × Unit)) × Unit))) × (Int × Unit)) × Y21) → Option R) : Option R :=
let i204 := x.1.2.1.2.1
let i205 := x.1.2.2.1
let i206 := x.1.2.2.2.1
let l220 := x.2.2.2.2.1
q_32 (((), x.1.2.1, i205, i206, (), ()), (x.2.1, x.2.2.1, x.2.2.2.1, l220, x.2.2.2.2.2.1, ())) (fun y698 =>
let i699 := y698.1.1
let i700 := y698.1.2.1
let i701 := y698.1.2.2.1
let l715 := y698.2.2.2.2.1
bif (i701 != 0) then (
κ0 ((((0, (0, ())), ((0, (0, ())), ((0, (0, ())), ()))), (i701, ())), (y698.2.1, y698.2.2.1, y698.2.2.2.1, l715, y698.2.2.2.2.2.1, ()))) else (
q_34 ((y698.2.1.2.1, x.1.2.1, i205, i206, i699, i700, ()), ()) (fun y875 =>
let i878 := y875.2.1
bif (i878 != 0) then (
κ0 ((((0, (0, ())), ((0, (0, ())), ((0, (0, ())), ()))), y875.2), (y698.2.1, y698.2.2.1, y698.2.2.2.1, l715, y698.2.2.2.2.2.1, ()))) else (
q_36 ((y698.2.1.2.1, i204, i206, ()), ()) (fun y879 =>
let i880 : Int := y879
q_37 ((y698.2.1.2.1, i880, ()), ()) (fun y881 =>
let i882 := y881
κ0 ((((i205, (i880, ())), ((i205, (i882, ())), (y875.1, ()))), (0, ())), (y698.2.1, y698.2.2.1, y698.2.2.2.1, l715, y698.2.2.2.2.2.1, ()))))))))
def p_35 {R : Type} (N : Nat) (x : (Unit × (Int × (Int × Unit)) × Int × Int × Unit × Unit) × Y21) (κ0 : ((((Int × (Int × Unit)) × ((Int × (Int × Unit)) × ((Int × (Int × Unit)) × Unit))) × (Int × Unit)) × Y21) → Option R) : Option R := Q_35 (p_32 N) (p_34 N) (p_36 N) (p_37 N) x κ0
def EG_35 {R : Type} (q_32 : Tp_32 R) (q_34 : Tp_34 R) (q_36 : Tp_36 R) (q_37 : Tp_37 R) : Env R := ((((Env.base QQ LN AA).add 32 ap_32 hp_32 (fun (x : aden ap_32 × hden hp_32) k => q_32 x (fun y => k (Pat.inst (.tup (.fcons (.int .u32) (.fcons (.int .u32) (.fcons (.int .i64) (.fnil))))) y.1) (instH J1 y.2)))).add 34 ap_34 hp_34 (fun (x : aden ap_34 × hden hp_34) k => q_34 x (fun y => k (Pat.inst (.tup (.fcons Z7 (.fcons (.int .i64) (.fnil)))) y) (instH hp_34 x.2)))).add 36 ap_36 hp_36 (fun (x : aden ap_36 × hden hp_36) k => q_36 x (fun y => k (Pat.inst (.int .i64) y) (instH hp_36 x.2)))).add 37 ap_37 hp_37 (fun (x : aden ap_37 × hden hp_37) k => q_37 x (fun y => k (Pat.inst (.int .i64) y) (instH hp_37 x.2)))
def LG_35 {R : Type} : Loops R := Loops.none
def E_35 {R : Type} (N : Nat) : Env R := EG_35 (p_32 N) (p_34 N) (p_36 N) (p_37 N)
theorem eok_35 {R : Type} (N : Nat) : EK Try.prog (E_35 (R := R) N) := ek_add (ek_add (ek_add (ek_add (ek_base _ _ _) (good_32 N)) (good_34 N)) (good_36 N)) (good_37 N)
def L_35 {R : Type} (N : Nat) : Loops R := LG_35
theorem lok_35 {R : Type} (N : Nat) : LOK 5 TT (E_35 (R := R) N) (drawAny TT WW) (L_35 N) (bodyOf Try.f35) := loops_nil (by kernel_rfl)
theorem grun_35 {R : Type} (q_32 : Tp_32 R) (q_34 : Tp_34 R) (q_36 : Tp_36 R) (q_37 : Tp_37 R) (x : aden ap_35 × hden hp_35) (k : KF R) : fnrun TT (EG_35 q_32 q_34 q_36 q_37) (drawAny TT WW) (LG_35) true Try.f35 (instA ap_35 x.1) (instH hp_35 x.2) k = Q_35 q_32 q_34 q_36 q_37 x (fun y => k (Pat.inst (.tup (.fcons (.node (.fcons Z7 (.fcons Z7 (.fcons Z7 (.fnil))))) (.fcons (.int .i64) (.fnil)))) y.1) (instH J1 y.2)) := by kernel_rfl
theorem run_35 {R : Type} (N : Nat) (x : aden ap_35 × hden hp_35) (k : KF R) : fnrun TT (E_35 (R := R) N) (drawAny TT WW) (L_35 N) true Try.f35 (instA ap_35 x.1) (instH hp_35 x.2) k = p_35 N x (fun y => k (Pat.inst (.tup (.fcons (.node (.fcons Z7 (.fcons Z7 (.fcons Z7 (.fnil))))) (.fcons (.int .i64) (.fnil)))) y.1) (instH J1 y.2)) := (grun_35 (p_32 N) (p_34 N) (p_36 N) (p_37 N) x k).trans (by kernel_rfl)
theorem good_35 {R : Type} (N : Nat) : GD (X := R) Try.prog QQ AA 35 ap_35 hp_35 (fun (x : aden ap_35 × hden hp_35) k => p_35 N x (fun y => k (Pat.inst (.tup (.fcons (.node (.fcons Z7 (.fcons Z7 (.fcons Z7 (.fnil))))) (.fcons (.int .i64) (.fnil)))) y.1) (instH J1 y.2))) :=
  gd_loud (E := E_35 N) (p := fun (x : aden ap_35 × hden hp_35) k => p_35 N x (fun y => k (Pat.inst (.tup (.fcons (.node (.fcons Z7 (.fcons Z7 (.fcons Z7 (.fnil))))) (.fcons (.int .i64) (.fnil)))) y.1) (instH J1 y.2))) mixed tyok (eok_35 N) Try.func35 (by kernel_rfl) (by kernel_rfl) (by kernel_rfl) (by kernel_rfl) (lok_35 N) (fun x k => run_35 N x k)

def ap_28 : List Pat := []
def hp_28 : List (Option (Pat × Nat)) := []
abbrev Tp_28 (R : Type) : Type := (Unit) × (Unit) → (Bool → Option R) → Option R
def Q_28 {R : Type} (q_14 : Tp_14 R) (q_40 : Tp_40 R) (q_33 : Tp_33 R) (q_35 : Tp_35 R) (x : (Unit) × (Unit)) (κ0 : Bool → Option R) : Option R :=
q_14 (((1, (1, (16, (1, (32, ()))))), ()), ()) (fun y160 =>
κ0 false) (fun y161 =>
let l175 := y161.2.2.2.2.1
q_40 (((), ()), ()) (fun y176 =>
let i177 := y176.1
bif (i177 != 11) then (
κ0 false) else (
q_33 ((y161.2.1.2.1, (0, (0, ())), 0, ()), ()) (fun y189 =>
q_35 (((), (0, (0, ())), 0, 2, (), ()), (y161.2.1, y161.2.2.1, y161.2.2.2.1, l175, y189.2.1, ())) (fun y883 =>
let i890 := y883.1.2.1
bif (i890 == 0) then (
bif (schEq (.stru (.fcons (.int .i64) (.fcons (.int .i64) (.fnil)))) (y883.1.1.1) ((0, (2, ())))) then (
bif (schEq (.stru (.fcons (.int .i64) (.fcons (.int .i64) (.fnil)))) (y883.1.1.2.1) ((0, (1, ())))) then (
κ0 ((schEq (.stru (.fcons (.int .i64) (.fcons (.int .i64) (.fnil)))) (y883.1.1.2.2.1) ((0, (0, ())))))) else (
κ0 false)) else (
κ0 false)) else (
κ0 false))))))
def p_28 {R : Type} (N : Nat) (x : (Unit) × (Unit)) (κ0 : Bool → Option R) : Option R := Q_28 (p_14 N) (p_40 N) (p_33 N) (p_35 N) x κ0
def EG_28 {R : Type} (q_14 : Tp_14 R) (q_40 : Tp_40 R) (q_33 : Tp_33 R) (q_35 : Tp_35 R) : Env R := ((((Env.base QQ LN AA).add 14 ap_14 hp_14 (fun (x : aden ap_14 × hden hp_14) k => q_14 x (fun y => k (Pat.inst (.nilp) y.1) (instH [] y.2)) (fun y => k (Pat.inst (.ptr 0 []) y.1) (instH J0 y.2)))).add 40 ap_40 hp_40 (fun (x : aden ap_40 × hden hp_40) k => q_40 x (fun y => k (Pat.inst (.int .i64) y.1) (instH [] y.2)))).add 33 ap_33 hp_33 (fun (x : aden ap_33 × hden hp_33) k => q_33 x (fun y => k (Pat.inst (.ptr 0 []) y.1) (instH hp_33 x.2 ++ instH [some (Z3, 132)] y.2)))).add 35 ap_35 hp_35 (fun (x : aden ap_35 × hden hp_35) k => q_35 x (fun y => k (Pat.inst (.tup (.fcons (.node (.fcons Z7 (.fcons Z7 (.fcons Z7 (.fnil))))) (.fcons (.int .i64) (.fnil)))) y.1) (instH J1 y.2)))
def LG_28 {R : Type} : Loops R := Loops.none
def E_28 {R : Type} (N : Nat) : Env R := EG_28 (p_14 N) (p_40 N) (p_33 N) (p_35 N)
theorem eok_28 {R : Type} (N : Nat) : EK Try.prog (E_28 (R := R) N) := ek_add (ek_add (ek_add (ek_add (ek_base _ _ _) (good_14 N)) (good_40 N)) (good_33 N)) (good_35 N)
def L_28 {R : Type} (N : Nat) : Loops R := LG_28
theorem lok_28 {R : Type} (N : Nat) : LOK 0 TT (E_28 (R := R) N) (drawAny TT WW) (L_28 N) (bodyOf Try.f28) := loops_nil (by kernel_rfl)
theorem grun_28 {R : Type} (q_14 : Tp_14 R) (q_40 : Tp_40 R) (q_33 : Tp_33 R) (q_35 : Tp_35 R) (x : aden ap_28 × hden hp_28) (k : KF R) : fnrun TT (EG_28 q_14 q_40 q_33 q_35) (drawAny TT WW) (LG_28) true Try.f28 (instA ap_28 x.1) (instH hp_28 x.2) k = Q_28 q_14 q_40 q_33 q_35 x (fun y => k (Pat.inst (.bool) y) (instH hp_28 x.2)) := by kernel_rfl
theorem run_28 {R : Type} (N : Nat) (x : aden ap_28 × hden hp_28) (k : KF R) : fnrun TT (E_28 (R := R) N) (drawAny TT WW) (L_28 N) true Try.f28 (instA ap_28 x.1) (instH hp_28 x.2) k = p_28 N x (fun y => k (Pat.inst (.bool) y) (instH hp_28 x.2)) := (grun_28 (p_14 N) (p_40 N) (p_33 N) (p_35 N) x k).trans (by kernel_rfl)
theorem good_28 {R : Type} (N : Nat) : GD (X := R) Try.prog QQ AA 28 ap_28 hp_28 (fun (x : aden ap_28 × hden hp_28) k => p_28 N x (fun y => k (Pat.inst (.bool) y) (instH hp_28 x.2))) :=
  gd_quiet (E := E_28 N) (p := fun (x : aden ap_28 × hden hp_28) κ => p_28 N x (fun y => κ (Pat.inst (.bool) y))) mixed tyok (eok_28 N) Try.func28 (by kernel_rfl) (by kernel_rfl) (lok_28 N) (fun x k => run_28 N x k)

def lv_53_3 : Live := [(3, none), (10, none), (11, none), (12, none)]
def pt_53_3 : SPat := ⟨[(3, .sl 1), (10, .sl 0), (11, .int .i64), (12, .int .i64)], [some (.lst (.int .u32), 78), some (.lst (.int .u8), 5)]⟩
def px_53_3_0 : SPat := ⟨[(3, .sl 1)], [some (.lst (.int .u32), 78), some (.lst (.int .u8), 5)]⟩
def lo_53_3 : Exit → Live
  | .exit 0 => [(3, none)]
  | _ => []
def ap_53 : List Pat := [.sl 0]
def hp_53 : List (Option (Pat × Nat)) := [some (.lst (.int .u32), 78)]
abbrev Tl_53_3 (R : Type) : Type := (Y15 × ((List Int) × (List Int) × Unit)) → (((Unit × Unit) × ((List Int) × (List Int) × Unit)) → Option R) → Option R
abbrev Tp_53 (R : Type) : Type := (Unit × Unit) × ((List Int) × Unit) → (((List Int) × ((List Int) × Unit)) → Option R) → Option R
def C_53_3 {R : Type} (rec : (Y15 × ((List Int) × (List Int) × Unit)) → Option R) (x : (Y15 × ((List Int) × (List Int) × Unit))) (κ0 : ((Unit × Unit) × ((List Int) × (List Int) × Unit)) → Option R) : Option R :=
let i1013 := x.1.2.2.1
let i1014 := x.1.2.2.2.1
let l1015 := x.2.1
let l1016 := x.2.2.1
bif (decide (i1014 < i1013)) then (
bif decide (0 ≤ i1014) then (
bif decide (i1014 < ((List.length l1015) : Int)) then (
let i1017 : Int := (List.getD l1015 ((Int.toNat i1014)) (Sch.zero (.int .u32)))
let i1018 : Int := IntKind.wrap .u8 i1017
let i1019 : Int := shrA .u32 i1017 8
let i1020 : Int := IntKind.wrap .u8 i1019
let i1021 : Int := shrA .u32 i1017 16
let i1022 : Int := IntKind.wrap .u8 i1021
let i1023 : Int := shrA .u32 i1017 24
let i1024 : Int := IntKind.wrap .u8 i1023
let l1025 : (List Int) := [i1018, i1020, i1022, i1024]
bif (decide ((List.length l1016 + List.length l1025) * 1 ≤ 140737488355328) && true) then (
let l1026 : (List Int) := (l1016 ++ l1025)
let i1027 : Int := addA .i64 i1014 1
rec (((), (), i1013, i1027, ()), (l1015, l1026, ()))) else none) else none) else none) else (
κ0 (((), ()), (l1015, l1016, ())))
def B_53_3 {R : Type} (N : Nat) (rec : (Y15 × ((List Int) × (List Int) × Unit)) → Option R) (x : (Y15 × ((List Int) × (List Int) × Unit))) (κ0 : ((Unit × Unit) × ((List Int) × (List Int) × Unit)) → Option R) : Option R := C_53_3 rec x κ0
def l_53_3 {R : Type} (N : Nat) : Nat → (Y15 × ((List Int) × (List Int) × Unit)) → (((Unit × Unit) × ((List Int) × (List Int) × Unit)) → Option R) → Option R
  | 0, _, _ => none
  | n + 1, x, κ0 => B_53_3 N (fun y => l_53_3 N n y κ0) x κ0
def Q_53 {R : Type} (m_53_3 : Tl_53_3 R) (x : (Unit × Unit) × ((List Int) × Unit)) (κ0 : ((List Int) × ((List Int) × Unit)) → Option R) : Option R :=
let l1008 := x.2.1
let i1009 : Int := (((List.length l1008) : Nat) : Int)
let i1010 : Int := mulA .i64 4 i1009
bif decide (0 ≤ i1010) then (
bif decide (((1 : Nat) : Int) * i1010 ≤ 281474976710656) then (
bif decide (i1010 ≤ 9223372036854775807) then (
let l1011 : (List Int) := List.replicate 0 (Sch.zero (.int .u8))
let i1012 : Int := (((List.length l1008) : Nat) : Int)
m_53_3 (((), (), i1012, 0, ()), (l1008, l1011, ())) (fun y1028 =>
let l1029 := y1028.2.1
let l1030 := y1028.2.2.1
κ0 (l1030, (l1029, ())))) else none) else none) else none
def p_53 {R : Type} (N : Nat) (x : (Unit × Unit) × ((List Int) × Unit)) (κ0 : ((List Int) × ((List Int) × Unit)) → Option R) : Option R := Q_53 (l_53_3 N N) x κ0
def EG_53 {R : Type} : Env R := Env.base QQ LN AA
def LG_53 {R : Type} (m_53_3 : Tl_53_3 R) : Loops R := (Loops.none).add 3 (loopBy 1 lv_53_3 pt_53_3 (fun x k => m_53_3 x (fun y => k (.exit 0) (px_53_3_0.inst y))))
def E_53 {R : Type} (N : Nat) : Env R := EG_53
theorem eok_53 {R : Type} (N : Nat) : EK Try.prog (E_53 (R := R) N) := ek_base _ _ _
def L_53 {R : Type} (N : Nat) : Loops R := LG_53 (l_53_3 N N)
theorem gstep_53_3 {R : Type} (m_53_3 : Tl_53_3 R) (n : Nat) (x : pt_53_3.den) (k : Exit → St → Option R) : iter 1 lv_53_3 lo_53_3 (aexec TT (EG_53) (drawAny TT WW) (LG_53 m_53_3) (loopAt 3 (bodyOf Try.f53))) (n + 1) (pt_53_3.inst x) k = C_53_3 (fun y => iter 1 lv_53_3 lo_53_3 (aexec TT (EG_53) (drawAny TT WW) (LG_53 m_53_3) (loopAt 3 (bodyOf Try.f53))) n (pt_53_3.inst y) k) x (fun y => k (.exit 0) (px_53_3_0.inst y)) := by kernel_rfl
theorem step_53_3 {R : Type} (N n : Nat) (x : pt_53_3.den) (k : Exit → St → Option R) : iter 1 lv_53_3 lo_53_3 (aexec TT (E_53 (R := R) N) (drawAny TT WW) (L_53 N) (loopAt 3 (bodyOf Try.f53))) (n + 1) (pt_53_3.inst x) k = B_53_3 N (fun y => iter 1 lv_53_3 lo_53_3 (aexec TT (E_53 (R := R) N) (drawAny TT WW) (L_53 N) (loopAt 3 (bodyOf Try.f53))) n (pt_53_3.inst y) k) x (fun y => k (.exit 0) (px_53_3_0.inst y)) := (gstep_53_3 (l_53_3 N N) n x k).trans (by kernel_rfl)
theorem eq_53_3 {R : Type} (N : Nat) : ∀ (n : Nat) (x : pt_53_3.den) (k : Exit → St → Option R), iter 1 lv_53_3 lo_53_3 (aexec TT (E_53 (R := R) N) (drawAny TT WW) (L_53 N) (loopAt 3 (bodyOf Try.f53))) n (pt_53_3.inst x) k = l_53_3 N n x (fun y => k (.exit 0) (px_53_3_0.inst y)) :=
  iter_eq (K := Exit → St → Option R) (ks := fun k => k) (l := fun n (x : pt_53_3.den) k => l_53_3 N n x (fun y => k (.exit 0) (px_53_3_0.inst y))) (B := fun (rec : pt_53_3.den → Option R) (x : pt_53_3.den) k => B_53_3 N rec x (fun y => k (.exit 0) (px_53_3_0.inst y))) (fun _ _ => rfl) (fun _ _ _ => rfl) (fun n x k => step_53_3 N n x k)
theorem rounds_53_3 {R : Type} (N : Nat) : Rounds 1 TT (E_53 (R := R) N) (drawAny TT WW) (L_53 N) 3 (loopAt 3 (bodyOf Try.f53)) :=
  rounds_of (p := pt_53_3) (l := fun (x : pt_53_3.den) k => l_53_3 N N x (fun y => k (.exit 0) (px_53_3_0.inst y))) (fun s k => rfl) (fun x k => eq_53_3 N N x k)
theorem loops_53 : loopsIn (bodyOf Try.f53) = [(3, loopAt 3 (bodyOf Try.f53))] := by kernel_rfl
theorem lok_53 {R : Type} (N : Nat) : LOK 1 TT (E_53 (R := R) N) (drawAny TT WW) (L_53 N) (bodyOf Try.f53) := loops_all loops_53 (by
  simp only [List.forall_mem_cons, List.not_mem_nil, false_implies, implies_true, and_true]
  exact rounds_53_3 N)
theorem grun_53 {R : Type} (m_53_3 : Tl_53_3 R) (x : aden ap_53 × hden hp_53) (k : KF R) : fnrun TT (EG_53) (drawAny TT WW) (LG_53 m_53_3) true Try.f53 (instA ap_53 x.1) (instH hp_53 x.2) k = Q_53 m_53_3 x (fun y => k (Pat.inst (.ros (.int .u8)) y.1) (instH [some (.lst (.int .u32), 78)] y.2)) := by kernel_rfl
theorem run_53 {R : Type} (N : Nat) (x : aden ap_53 × hden hp_53) (k : KF R) : fnrun TT (E_53 (R := R) N) (drawAny TT WW) (L_53 N) true Try.f53 (instA ap_53 x.1) (instH hp_53 x.2) k = p_53 N x (fun y => k (Pat.inst (.ros (.int .u8)) y.1) (instH [some (.lst (.int .u32), 78)] y.2)) := (grun_53 (l_53_3 N N) x k).trans (by kernel_rfl)
theorem good_53 {R : Type} (N : Nat) : GD (X := R) Try.prog QQ AA 53 ap_53 hp_53 (fun (x : aden ap_53 × hden hp_53) k => p_53 N x (fun y => k (Pat.inst (.ros (.int .u8)) y.1) (instH [some (.lst (.int .u32), 78)] y.2))) :=
  gd_loud (E := E_53 N) (p := fun (x : aden ap_53 × hden hp_53) k => p_53 N x (fun y => k (Pat.inst (.ros (.int .u8)) y.1) (instH [some (.lst (.int .u32), 78)] y.2))) mixed tyok (eok_53 N) Try.func53 (by kernel_rfl) (by kernel_rfl) (by kernel_rfl) (by kernel_rfl) (lok_53 N) (fun x k => run_53 N x k)

def ap_96 : List Pat := [.int .i64, .bool]
def hp_96 : List (Option (Pat × Nat)) := []
abbrev Tp_96 (R : Type) : Type := (Int × Bool × Unit) × (Unit) → (((Unit × (Int × Unit)) × (Unit)) → Option R) → (((Unit × (Int × Unit)) × (Y5 × (List Int) × Unit)) → Option R) → Option R
def Q_96 {R : Type} (x : (Int × Bool × Unit) × (Unit)) (κ0 : ((Unit × (Int × Unit)) × (Unit)) → Option R) (κ1 : ((Unit × (Int × Unit)) × (Y5 × (List Int) × Unit)) → Option R) : Option R :=
let i1043 := x.1.1
let b1044 := x.1.2.1
bif (decide (i1043 < 1)) then (
κ0 (((), (1, ())), ())) else (
bif (decide (i1043 > 65536)) then (
κ0 (((), (1, ())), ())) else (
κ1 (((), (0, ())), ((i1043, (b1044, ((), (0, ())))), ([] : List Int), ()))))
def p_96 {R : Type} (N : Nat) (x : (Int × Bool × Unit) × (Unit)) (κ0 : ((Unit × (Int × Unit)) × (Unit)) → Option R) (κ1 : ((Unit × (Int × Unit)) × (Y5 × (List Int) × Unit)) → Option R) : Option R := Q_96 x κ0 κ1
def EG_96 {R : Type} : Env R := Env.base QQ LN AA
def LG_96 {R : Type} : Loops R := Loops.none
def E_96 {R : Type} (N : Nat) : Env R := EG_96
theorem eok_96 {R : Type} (N : Nat) : EK Try.prog (E_96 (R := R) N) := ek_base _ _ _
def L_96 {R : Type} (N : Nat) : Loops R := LG_96
theorem lok_96 {R : Type} (N : Nat) : LOK 0 TT (E_96 (R := R) N) (drawAny TT WW) (L_96 N) (bodyOf Try.f96) := loops_nil (by kernel_rfl)
theorem grun_96 {R : Type} (x : aden ap_96 × hden hp_96) (k : KF R) : fnrun TT (EG_96) (drawAny TT WW) (LG_96) true Try.f96 (instA ap_96 x.1) (instH hp_96 x.2) k = Q_96 x (fun y => k (Pat.inst (.tup (.fcons (.nilp) (.fcons (.int .i64) (.fnil)))) y.1) (instH [] y.2)) (fun y => k (Pat.inst (.tup (.fcons (.ptr 0 []) (.fcons (.int .i64) (.fnil)))) y.1) (instH [some (Z8, 189), some (.lst (.int .u8), 5)] y.2)) := by kernel_rfl
theorem run_96 {R : Type} (N : Nat) (x : aden ap_96 × hden hp_96) (k : KF R) : fnrun TT (E_96 (R := R) N) (drawAny TT WW) (L_96 N) true Try.f96 (instA ap_96 x.1) (instH hp_96 x.2) k = p_96 N x (fun y => k (Pat.inst (.tup (.fcons (.nilp) (.fcons (.int .i64) (.fnil)))) y.1) (instH [] y.2)) (fun y => k (Pat.inst (.tup (.fcons (.ptr 0 []) (.fcons (.int .i64) (.fnil)))) y.1) (instH [some (Z8, 189), some (.lst (.int .u8), 5)] y.2)) := (grun_96 x k).trans (by kernel_rfl)
theorem good_96 {R : Type} (N : Nat) : GD (X := R) Try.prog QQ AA 96 ap_96 hp_96 (fun (x : aden ap_96 × hden hp_96) k => p_96 N x (fun y => k (Pat.inst (.tup (.fcons (.nilp) (.fcons (.int .i64) (.fnil)))) y.1) (instH [] y.2)) (fun y => k (Pat.inst (.tup (.fcons (.ptr 0 []) (.fcons (.int .i64) (.fnil)))) y.1) (instH [some (Z8, 189), some (.lst (.int .u8), 5)] y.2))) :=
  gd_loud (E := E_96 N) (p := fun (x : aden ap_96 × hden hp_96) k => p_96 N x (fun y => k (Pat.inst (.tup (.fcons (.nilp) (.fcons (.int .i64) (.fnil)))) y.1) (instH [] y.2)) (fun y => k (Pat.inst (.tup (.fcons (.ptr 0 []) (.fcons (.int .i64) (.fnil)))) y.1) (instH [some (Z8, 189), some (.lst (.int .u8), 5)] y.2))) mixed tyok (eok_96 N) Try.func96 (by kernel_rfl) (by kernel_rfl) (by kernel_rfl) (by kernel_rfl) (lok_96 N) (fun x k => run_96 N x k)

def ap_97 : List Pat := []
def hp_97 : List (Option (Pat × Nat)) := []
abbrev Tp_97 (R : Type) : Type := (Unit) × (Unit) → ((Nat → Int) → Option R) → Option R
def Q_97 {R : Type} (x : (Unit) × (Unit)) (κ0 : (Nat → Int) → Option R) : Option R :=
let a1047 : (Nat → Int) := (upd ((upd ((upd ((upd ((upd ((upd ((upd ((upd ((Sch.zero (.arr 8 (.int .u64)))) 0 7640891576956012808)) 1 13503953896175478587)) 2 4354685564936845355)) 3 11912009170470909681)) 4 5840696475078001361)) 5 11170449401992604703)) 6 2270897969802886507)) 7 6620516959819538809)
κ0 a1047
def p_97 {R : Type} (N : Nat) (x : (Unit) × (Unit)) (κ0 : (Nat → Int) → Option R) : Option R := Q_97 x κ0
def EG_97 {R : Type} : Env R := Env.base QQ LN AA
def LG_97 {R : Type} : Loops R := Loops.none
def E_97 {R : Type} (N : Nat) : Env R := EG_97
theorem eok_97 {R : Type} (N : Nat) : EK Try.prog (E_97 (R := R) N) := ek_base _ _ _
def L_97 {R : Type} (N : Nat) : Loops R := LG_97
theorem lok_97 {R : Type} (N : Nat) : LOK 0 TT (E_97 (R := R) N) (drawAny TT WW) (L_97 N) (bodyOf Try.f97) := loops_nil (by kernel_rfl)
theorem grun_97 {R : Type} (x : aden ap_97 × hden hp_97) (k : KF R) : fnrun TT (EG_97) (drawAny TT WW) (LG_97) true Try.f97 (instA ap_97 x.1) (instH hp_97 x.2) k = Q_97 x (fun y => k (Pat.inst (.vec (.int .u64) 8) y) (instH hp_97 x.2)) := by kernel_rfl
theorem run_97 {R : Type} (N : Nat) (x : aden ap_97 × hden hp_97) (k : KF R) : fnrun TT (E_97 (R := R) N) (drawAny TT WW) (L_97 N) true Try.f97 (instA ap_97 x.1) (instH hp_97 x.2) k = p_97 N x (fun y => k (Pat.inst (.vec (.int .u64) 8) y) (instH hp_97 x.2)) := (grun_97 x k).trans (by kernel_rfl)
theorem good_97 {R : Type} (N : Nat) : GD (X := R) Try.prog QQ AA 97 ap_97 hp_97 (fun (x : aden ap_97 × hden hp_97) k => p_97 N x (fun y => k (Pat.inst (.vec (.int .u64) 8) y) (instH hp_97 x.2))) :=
  gd_quiet (E := E_97 N) (p := fun (x : aden ap_97 × hden hp_97) κ => p_97 N x (fun y => κ (Pat.inst (.vec (.int .u64) 8) y))) mixed tyok (eok_97 N) Try.func97 (by kernel_rfl) (by kernel_rfl) (lok_97 N) (fun x k => run_97 N x k)

def ap_98 : List Pat := [.nilp, .sl 0]
def hp_98 : List (Option (Pat × Nat)) := [some (.lst (.str), 9)]
abbrev Tp_98 (R : Type) : Type := (Unit × Unit × Unit) × Y23 → (((List (List Int)) × Y23) → Option R) → Option R
def Q_98 {R : Type} (x : (Unit × Unit × Unit) × Y23) (κ0 : ((List (List Int)) × Y23) → Option R) : Option R :=
κ0 ([], x.2)
def p_98 {R : Type} (N : Nat) (x : (Unit × Unit × Unit) × Y23) (κ0 : ((List (List Int)) × Y23) → Option R) : Option R := Q_98 x κ0
def EG_98 {R : Type} : Env R := Env.base QQ LN AA
def LG_98 {R : Type} : Loops R := Loops.none
def E_98 {R : Type} (N : Nat) : Env R := EG_98
theorem eok_98 {R : Type} (N : Nat) : EK Try.prog (E_98 (R := R) N) := ek_base _ _ _
def L_98 {R : Type} (N : Nat) : Loops R := LG_98
theorem loops_98 : loopsIn (bodyOf Try.f98) = [(5, loopAt 5 (bodyOf Try.f98)), (9, loopAt 9 (bodyOf Try.f98))] := by kernel_rfl
theorem lok_98 {R : Type} (N : Nat) : LOK 1 TT (E_98 (R := R) N) (drawAny TT WW) (L_98 N) (bodyOf Try.f98) := loops_all loops_98 (by
  simp only [List.forall_mem_cons, List.not_mem_nil, false_implies, implies_true, and_true]
  exact ⟨rounds_none (fun _ _ => rfl), rounds_none (fun _ _ => rfl)⟩)
theorem grun_98 {R : Type} (x : aden ap_98 × hden hp_98) (k : KF R) : fnrun TT (EG_98) (drawAny TT WW) (LG_98) true Try.f98 (instA ap_98 x.1) (instH hp_98 x.2) k = Q_98 x (fun y => k (Pat.inst (.ros (.sl (.int .u8))) y.1) (instH [some (.lst (.str), 9)] y.2)) := by kernel_rfl
theorem run_98 {R : Type} (N : Nat) (x : aden ap_98 × hden hp_98) (k : KF R) : fnrun TT (E_98 (R := R) N) (drawAny TT WW) (L_98 N) true Try.f98 (instA ap_98 x.1) (instH hp_98 x.2) k = p_98 N x (fun y => k (Pat.inst (.ros (.sl (.int .u8))) y.1) (instH [some (.lst (.str), 9)] y.2)) := (grun_98 x k).trans (by kernel_rfl)
theorem good_98 {R : Type} (N : Nat) : GD (X := R) Try.prog QQ AA 98 ap_98 hp_98 (fun (x : aden ap_98 × hden hp_98) k => p_98 N x (fun y => k (Pat.inst (.ros (.sl (.int .u8))) y.1) (instH [some (.lst (.str), 9)] y.2))) :=
  gd_loud (E := E_98 N) (p := fun (x : aden ap_98 × hden hp_98) k => p_98 N x (fun y => k (Pat.inst (.ros (.sl (.int .u8))) y.1) (instH [some (.lst (.str), 9)] y.2))) mixed tyok (eok_98 N) Try.func98 (by kernel_rfl) (by kernel_rfl) (by kernel_rfl) (by kernel_rfl) (lok_98 N) (fun x k => run_98 N x k)

def lv_84_5 : Live := [(4, none), (15, none), (16, none), (17, none)]
def pt_84_5 : SPat := ⟨[(4, .sl 0), (15, .ros (.int .u8)), (16, .int .i64), (17, .int .i64)], [some (.lst (.int .u64), 27)]⟩
def px_84_5_0 : SPat := ⟨[(4, .sl 0)], [some (.lst (.int .u64), 27)]⟩
def lo_84_5 : Exit → Live
  | .exit 0 => [(4, none)]
  | _ => []
def ap_84 : List Pat := [.ros (.int .u8)]
def hp_84 : List (Option (Pat × Nat)) := []
abbrev Tl_84_5 (R : Type) : Type := Y16 → (((Unit × Unit) × ((List Int) × Unit)) → Option R) → Option R
abbrev Tp_84 (R : Type) : Type := ((List Int) × Unit) × (Unit) → ((((List Int) × (Int × Unit)) × (Unit)) → Option R) → Option R
def C_84_5 {R : Type} (rec : Y16 → Option R) (x : Y16) (κ0 : ((Unit × Unit) × ((List Int) × Unit)) → Option R) : Option R :=
let l1095 := x.1.2.1
let i1096 := x.1.2.2.1
let i1097 := x.1.2.2.2.1
let l1098 := x.2.1
bif (decide (i1097 < i1096)) then (
bif decide (0 ≤ i1097) then (
bif decide (i1097 < ((List.length l1095) : Int)) then (
let p1099 : Int := (List.getD l1095 ((Int.toNat i1097)) (Sch.zero (.int .u8)))
let i1100 : Int := quoA .i64 i1097 8
bif decide (0 ≤ i1100) then (
bif decide (i1100 < ((List.length l1098) : Int)) then (
let i1101 : Int := (List.getD l1098 ((Int.toNat i1100)) (Sch.zero (.int .u64)))
let i1102 : Int := IntKind.wrap .u64 p1099
let i1103 : Int := remA .i64 i1097 8
let i1104 : Int := mulA .i64 8 i1103
bif decide (i1104 < 0) then none else (
let i1105 : Int := shlA .u64 i1102 i1104
let i1106 : Int := orA .u64 i1101 i1105
bif decide (0 ≤ i1100) then (
bif decide (i1100 < ((List.length l1098) : Int)) then (
let l1107 : (List Int) := (List.set l1098 ((Int.toNat i1100)) i1106)
let i1108 : Int := addA .i64 i1097 1
rec (((), l1095, i1096, i1108, ()), (l1107, ()))) else none) else none)) else none) else none) else none) else none) else (
κ0 (((), ()), x.2))
def B_84_5 {R : Type} (N : Nat) (rec : Y16 → Option R) (x : Y16) (κ0 : ((Unit × Unit) × ((List Int) × Unit)) → Option R) : Option R := C_84_5 rec x κ0
def l_84_5 {R : Type} (N : Nat) : Nat → Y16 → (((Unit × Unit) × ((List Int) × Unit)) → Option R) → Option R
  | 0, _, _ => none
  | n + 1, x, κ0 => B_84_5 N (fun y => l_84_5 N n y κ0) x κ0
def Q_84 {R : Type} (m_84_5 : Tl_84_5 R) (x : ((List Int) × Unit) × (Unit)) (κ0 : (((List Int) × (Int × Unit)) × (Unit)) → Option R) : Option R :=
let l1088 := x.1.1
let i1089 : Int := (((List.length l1088) : Nat) : Int)
let i1090 : Int := remA .i64 i1089 8
bif (i1090 != 0) then (
κ0 (([], (9, ())), ())) else (
let i1091 : Int := (((List.length l1088) : Nat) : Int)
let i1092 : Int := quoA .i64 i1091 8
bif decide (0 ≤ i1092) then (
bif decide (i1092 ≤ i1092) then (
bif decide (((8 : Nat) : Int) * i1092 ≤ 281474976710656) then (
bif decide (i1092 ≤ 9223372036854775807) then (
let l1093 : (List Int) := List.replicate ((Int.toNat i1092)) (Sch.zero (.int .u64))
let i1094 : Int := (((List.length l1088) : Nat) : Int)
m_84_5 (((), l1088, i1094, 0, ()), (l1093, ())) (fun y1109 =>
let l1110 := y1109.2.1
κ0 ((l1110, (0, ())), ()))) else none) else none) else none) else none)
def p_84 {R : Type} (N : Nat) (x : ((List Int) × Unit) × (Unit)) (κ0 : (((List Int) × (Int × Unit)) × (Unit)) → Option R) : Option R := Q_84 (l_84_5 N N) x κ0
def EG_84 {R : Type} : Env R := Env.base QQ LN AA
def LG_84 {R : Type} (m_84_5 : Tl_84_5 R) : Loops R := (Loops.none).add 5 (loopBy 0 lv_84_5 pt_84_5 (fun x k => m_84_5 x (fun y => k (.exit 0) (px_84_5_0.inst y))))
def E_84 {R : Type} (N : Nat) : Env R := EG_84
theorem eok_84 {R : Type} (N : Nat) : EK Try.prog (E_84 (R := R) N) := ek_base _ _ _
def L_84 {R : Type} (N : Nat) : Loops R := LG_84 (l_84_5 N N)
theorem gstep_84_5 {R : Type} (m_84_5 : Tl_84_5 R) (n : Nat) (x : pt_84_5.den) (k : Exit → St → Option R) : iter 0 lv_84_5 lo_84_5 (aexec TT (EG_84) (drawAny TT WW) (LG_84 m_84_5) (loopAt 5 (bodyOf Try.f84))) (n + 1) (pt_84_5.inst x) k = C_84_5 (fun y => iter 0 lv_84_5 lo_84_5 (aexec TT (EG_84) (drawAny TT WW) (LG_84 m_84_5) (loopAt 5 (bodyOf Try.f84))) n (pt_84_5.inst y) k) x (fun y => k (.exit 0) (px_84_5_0.inst y)) := by kernel_rfl
theorem step_84_5 {R : Type} (N n : Nat) (x : pt_84_5.den) (k : Exit → St → Option R) : iter 0 lv_84_5 lo_84_5 (aexec TT (E_84 (R := R) N) (drawAny TT WW) (L_84 N) (loopAt 5 (bodyOf Try.f84))) (n + 1) (pt_84_5.inst x) k = B_84_5 N (fun y => iter 0 lv_84_5 lo_84_5 (aexec TT (E_84 (R := R) N) (drawAny TT WW) (L_84 N) (loopAt 5 (bodyOf Try.f84))) n (pt_84_5.inst y) k) x (fun y => k (.exit 0) (px_84_5_0.inst y)) := (gstep_84_5 (l_84_5 N N) n x k).trans (by kernel_rfl)
theorem eq_84_5 {R : Type} (N : Nat) : ∀ (n : Nat) (x : pt_84_5.den) (k : Exit → St → Option R), iter 0 lv_84_5 lo_84_5 (aexec TT (E_84 (R := R) N) (drawAny TT WW) (L_84 N) (loopAt 5 (bodyOf Try.f84))) n (pt_84_5.inst x) k = l_84_5 N n x (fun y => k (.exit 0) (px_84_5_0.inst y)) :=
  iter_eq (K := Exit → St → Option R) (ks := fun k => k) (l := fun n (x : pt_84_5.den) k => l_84_5 N n x (fun y => k (.exit 0) (px_84_5_0.inst y))) (B := fun (rec : pt_84_5.den → Option R) (x : pt_84_5.den) k => B_84_5 N rec x (fun y => k (.exit 0) (px_84_5_0.inst y))) (fun _ _ => rfl) (fun _ _ _ => rfl) (fun n x k => step_84_5 N n x k)
theorem rounds_84_5 {R : Type} (N : Nat) : Rounds 0 TT (E_84 (R := R) N) (drawAny TT WW) (L_84 N) 5 (loopAt 5 (bodyOf Try.f84)) :=
  rounds_of (p := pt_84_5) (l := fun (x : pt_84_5.den) k => l_84_5 N N x (fun y => k (.exit 0) (px_84_5_0.inst y))) (fun s k => rfl) (fun x k => eq_84_5 N N x k)
theorem loops_84 : loopsIn (bodyOf Try.f84) = [(5, loopAt 5 (bodyOf Try.f84))] := by kernel_rfl
theorem lok_84 {R : Type} (N : Nat) : LOK 0 TT (E_84 (R := R) N) (drawAny TT WW) (L_84 N) (bodyOf Try.f84) := loops_all loops_84 (by
  simp only [List.forall_mem_cons, List.not_mem_nil, false_implies, implies_true, and_true]
  exact rounds_84_5 N)
theorem grun_84 {R : Type} (m_84_5 : Tl_84_5 R) (x : aden ap_84 × hden hp_84) (k : KF R) : fnrun TT (EG_84) (drawAny TT WW) (LG_84 m_84_5) true Try.f84 (instA ap_84 x.1) (instH hp_84 x.2) k = Q_84 m_84_5 x (fun y => k (Pat.inst (.tup (.fcons (.ros (.int .u64)) (.fcons (.int .i64) (.fnil)))) y.1) (instH [] y.2)) := by kernel_rfl
theorem run_84 {R : Type} (N : Nat) (x : aden ap_84 × hden hp_84) (k : KF R) : fnrun TT (E_84 (R := R) N) (drawAny TT WW) (L_84 N) true Try.f84 (instA ap_84 x.1) (instH hp_84 x.2) k = p_84 N x (fun y => k (Pat.inst (.tup (.fcons (.ros (.int .u64)) (.fcons (.int .i64) (.fnil)))) y.1) (instH [] y.2)) := (grun_84 (l_84_5 N N) x k).trans (by kernel_rfl)
theorem good_84 {R : Type} (N : Nat) : GD (X := R) Try.prog QQ AA 84 ap_84 hp_84 (fun (x : aden ap_84 × hden hp_84) k => p_84 N x (fun y => k (Pat.inst (.tup (.fcons (.ros (.int .u64)) (.fcons (.int .i64) (.fnil)))) y.1) (instH [] y.2))) :=
  gd_loud (E := E_84 N) (p := fun (x : aden ap_84 × hden hp_84) k => p_84 N x (fun y => k (Pat.inst (.tup (.fcons (.ros (.int .u64)) (.fcons (.int .i64) (.fnil)))) y.1) (instH [] y.2))) mixed tyok (eok_84 N) Try.func84 (by kernel_rfl) (by kernel_rfl) (by kernel_rfl) (by kernel_rfl) (lok_84 N) (fun x k => run_84 N x k)

def ap_107 : List Pat := []
def hp_107 : List (Option (Pat × Nat)) := []
abbrev Tp_107 (R : Type) : Type := (Unit) × (Unit) → ((Nat → (Nat → Int)) → Option R) → Option R
def Q_107 {R : Type} (x : (Unit) × (Unit)) (κ0 : (Nat → (Nat → Int)) → Option R) : Option R :=
let a1126 : (Nat → Int) := (upd ((upd ((upd ((upd ((Sch.zero (.arr 4 (.int .i64)))) 0 0)) 1 4)) 2 8)) 3 12)
let a1127 : (Nat → Int) := (upd ((upd ((upd ((upd ((Sch.zero (.arr 4 (.int .i64)))) 0 1)) 1 5)) 2 9)) 3 13)
let a1128 : (Nat → Int) := (upd ((upd ((upd ((upd ((Sch.zero (.arr 4 (.int .i64)))) 0 2)) 1 6)) 2 10)) 3 14)
let a1129 : (Nat → Int) := (upd ((upd ((upd ((upd ((Sch.zero (.arr 4 (.int .i64)))) 0 3)) 1 7)) 2 11)) 3 15)
let a1130 : (Nat → Int) := (upd ((upd ((upd ((upd ((Sch.zero (.arr 4 (.int .i64)))) 0 0)) 1 5)) 2 10)) 3 15)
let a1131 : (Nat → Int) := (upd ((upd ((upd ((upd ((Sch.zero (.arr 4 (.int .i64)))) 0 1)) 1 6)) 2 11)) 3 12)
let a1132 : (Nat → Int) := (upd ((upd ((upd ((upd ((Sch.zero (.arr 4 (.int .i64)))) 0 2)) 1 7)) 2 8)) 3 13)
let a1133 : (Nat → Int) := (upd ((upd ((upd ((upd ((Sch.zero (.arr 4 (.int .i64)))) 0 3)) 1 4)) 2 9)) 3 14)
let a1134 : (Nat → (Nat → Int)) := (upd ((upd ((upd ((upd ((upd ((upd ((upd ((upd ((Sch.zero (.arr 8 (.arr 4 (.int .i64))))) 0 a1126)) 1 a1127)) 2 a1128)) 3 a1129)) 4 a1130)) 5 a1131)) 6 a1132)) 7 a1133)
κ0 a1134
def p_107 {R : Type} (N : Nat) (x : (Unit) × (Unit)) (κ0 : (Nat → (Nat → Int)) → Option R) : Option R := Q_107 x κ0
def EG_107 {R : Type} : Env R := Env.base QQ LN AA
def LG_107 {R : Type} : Loops R := Loops.none
def E_107 {R : Type} (N : Nat) : Env R := EG_107
theorem eok_107 {R : Type} (N : Nat) : EK Try.prog (E_107 (R := R) N) := ek_base _ _ _
def L_107 {R : Type} (N : Nat) : Loops R := LG_107
theorem lok_107 {R : Type} (N : Nat) : LOK 0 TT (E_107 (R := R) N) (drawAny TT WW) (L_107 N) (bodyOf Try.f107) := loops_nil (by kernel_rfl)
theorem grun_107 {R : Type} (x : aden ap_107 × hden hp_107) (k : KF R) : fnrun TT (EG_107) (drawAny TT WW) (LG_107) true Try.f107 (instA ap_107 x.1) (instH hp_107 x.2) k = Q_107 x (fun y => k (Pat.inst (.vec (.arr 4 (.int .i64)) 8) y) (instH hp_107 x.2)) := by kernel_rfl
theorem run_107 {R : Type} (N : Nat) (x : aden ap_107 × hden hp_107) (k : KF R) : fnrun TT (E_107 (R := R) N) (drawAny TT WW) (L_107 N) true Try.f107 (instA ap_107 x.1) (instH hp_107 x.2) k = p_107 N x (fun y => k (Pat.inst (.vec (.arr 4 (.int .i64)) 8) y) (instH hp_107 x.2)) := (grun_107 x k).trans (by kernel_rfl)
theorem good_107 {R : Type} (N : Nat) : GD (X := R) Try.prog QQ AA 107 ap_107 hp_107 (fun (x : aden ap_107 × hden hp_107) k => p_107 N x (fun y => k (Pat.inst (.vec (.arr 4 (.int .i64)) 8) y) (instH hp_107 x.2))) :=
  gd_quiet (E := E_107 N) (p := fun (x : aden ap_107 × hden hp_107) κ => p_107 N x (fun y => κ (Pat.inst (.vec (.arr 4 (.int .i64)) 8) y))) mixed tyok (eok_107 N) Try.func107 (by kernel_rfl) (by kernel_rfl) (lok_107 N) (fun x k => run_107 N x k)

def lv_108_7 : Live := [(2, none), (4, none), (5, none), (16, none)]
def pt_108_7 : SPat := ⟨[(2, .ptr 0 []), (4, .ptr 1 []), (5, .str), (16, .int .i64)], [some (.vec (.int .i64) 16, 192), some (.vec (.int .i64) 16, 192)]⟩
def px_108_7_0 : SPat := ⟨[(2, .ptr 0 []), (4, .ptr 1 [])], [some (.vec (.int .i64) 16, 192), some (.vec (.int .i64) 16, 192)]⟩
def lo_108_7 : Exit → Live
  | .exit 0 => [(2, none), (4, none)]
  | _ => []
def ap_108 : List Pat := [.int .i64]
def hp_108 : List (Option (Pat × Nat)) := []
abbrev Tl_108_7 (R : Type) : Type := ((Unit × Unit × ByteArray × Int × Unit) × Y6) → (Y22 → Option R) → Option R
abbrev Tp_108 (R : Type) : Type := (Int × Unit) × (Unit) → ((Nat → Int) → Option R) → Option R
def C_108_7 {R : Type} (rec : ((Unit × Unit × ByteArray × Int × Unit) × Y6) → Option R) (x : ((Unit × Unit × ByteArray × Int × Unit) × Y6)) (κ0 : Y22 → Option R) : Option R :=
let s1148 := x.1.2.2.1
let i1149 := x.1.2.2.2.1
let a1150 := x.2.1
let a1151 := x.2.2.1
bif (decide (i1149 < 16)) then (
bif decide (0 ≤ i1149) then (
bif decide (i1149 < (ByteArray.size s1148 : Int)) then (
let i1152 : Int := byteAt s1148 ((Int.toNat i1149))
let i1153 : Int := IntKind.wrap .i64 i1152
bif (decide (i1153 ≥ 97)) then (
let i1154 : Int := subA .i64 i1153 97
let i1155 : Int := addA .i64 i1154 10
bif decide (0 ≤ i1149) then (
bif decide (i1149 < (16 : Int)) then (
let a1156 : (Nat → Int) := (upd a1151 ((Int.toNat i1149)) i1155)
let i1157 : Int := addA .i64 i1149 1
rec (((), (), s1148, i1157, ()), (a1150, a1156, ()))) else none) else none) else (
let i1158 : Int := subA .i64 i1153 48
bif decide (0 ≤ i1149) then (
bif decide (i1149 < (16 : Int)) then (
let a1159 : (Nat → Int) := (upd a1151 ((Int.toNat i1149)) i1158)
let i1160 : Int := addA .i64 i1149 1
rec (((), (), s1148, i1160, ()), (a1150, a1159, ()))) else none) else none)) else none) else none) else (
κ0 (((), (), ()), (a1150, a1151, ())))
def B_108_7 {R : Type} (N : Nat) (rec : ((Unit × Unit × ByteArray × Int × Unit) × Y6) → Option R) (x : ((Unit × Unit × ByteArray × Int × Unit) × Y6)) (κ0 : Y22 → Option R) : Option R := C_108_7 rec x κ0
def l_108_7 {R : Type} (N : Nat) : Nat → ((Unit × Unit × ByteArray × Int × Unit) × Y6) → (Y22 → Option R) → Option R
  | 0, _, _ => none
  | n + 1, x, κ0 => B_108_7 N (fun y => l_108_7 N n y κ0) x κ0
def Q_108 {R : Type} (m_108_7 : Tl_108_7 R) (x : (Int × Unit) × (Unit)) (κ0 : (Nat → Int) → Option R) : Option R :=
let i1143 := x.1.1
let a1144 : (Nat → ByteArray) := (upd ((upd ((upd ((upd ((upd ((upd ((upd ((upd ((upd ((upd ((Sch.zero (.arr 10 (.str)))) 0 (⟨#[48, 49, 50, 51, 52, 53, 54, 55, 56, 57, 97, 98, 99, 100, 101, 102]⟩))) 1 (⟨#[101, 97, 52, 56, 57, 102, 100, 54, 49, 99, 48, 50, 98, 55, 53, 51]⟩))) 2 (⟨#[98, 56, 99, 48, 53, 50, 102, 100, 97, 101, 51, 54, 55, 49, 57, 52]⟩))) 3 (⟨#[55, 57, 51, 49, 100, 99, 98, 101, 50, 54, 53, 97, 52, 48, 102, 56]⟩))) 4 (⟨#[57, 48, 53, 55, 50, 52, 97, 102, 101, 49, 98, 99, 54, 56, 51, 100]⟩))) 5 (⟨#[50, 99, 54, 97, 48, 98, 56, 51, 52, 100, 55, 53, 102, 101, 49, 57]⟩))) 6 (⟨#[99, 53, 49, 102, 101, 100, 52, 97, 48, 55, 54, 51, 57, 50, 56, 98]⟩))) 7 (⟨#[100, 98, 55, 101, 99, 49, 51, 57, 53, 48, 102, 52, 56, 54, 50, 97]⟩))) 8 (⟨#[54, 102, 101, 57, 98, 51, 48, 56, 99, 50, 100, 55, 49, 52, 97, 53]⟩))) 9 (⟨#[97, 50, 56, 52, 55, 54, 49, 53, 102, 98, 57, 101, 51, 99, 100, 48]⟩))
bif (decide (i1143 < 0)) then (
let a1145 : (Nat → Int) := (Sch.zero (.arr 16 (.int .i64)))
κ0 a1145) else (
let i1146 : Int := remA .i64 i1143 10
bif decide (0 ≤ i1146) then (
bif decide (i1146 < (10 : Int)) then (
let s1147 : ByteArray := (a1144 ((Int.toNat i1146)))
m_108_7 (((), (), s1147, 0, ()), ((Sch.zero (.arr 16 (.int .i64))), (Sch.zero (.arr 16 (.int .i64))), ())) (fun y1161 =>
let a1163 := y1161.2.2.1
κ0 a1163)) else none) else none)
def p_108 {R : Type} (N : Nat) (x : (Int × Unit) × (Unit)) (κ0 : (Nat → Int) → Option R) : Option R := Q_108 (l_108_7 N N) x κ0
def EG_108 {R : Type} : Env R := Env.base QQ LN AA
def LG_108 {R : Type} (m_108_7 : Tl_108_7 R) : Loops R := (Loops.none).add 7 (loopBy 0 lv_108_7 pt_108_7 (fun x k => m_108_7 x (fun y => k (.exit 0) (px_108_7_0.inst y))))
def E_108 {R : Type} (N : Nat) : Env R := EG_108
theorem eok_108 {R : Type} (N : Nat) : EK Try.prog (E_108 (R := R) N) := ek_base _ _ _
def L_108 {R : Type} (N : Nat) : Loops R := LG_108 (l_108_7 N N)
theorem gstep_108_7 {R : Type} (m_108_7 : Tl_108_7 R) (n : Nat) (x : pt_108_7.den) (k : Exit → St → Option R) : iter 0 lv_108_7 lo_108_7 (aexec TT (EG_108) (drawAny TT WW) (LG_108 m_108_7) (loopAt 7 (bodyOf Try.f108))) (n + 1) (pt_108_7.inst x) k = C_108_7 (fun y => iter 0 lv_108_7 lo_108_7 (aexec TT (EG_108) (drawAny TT WW) (LG_108 m_108_7) (loopAt 7 (bodyOf Try.f108))) n (pt_108_7.inst y) k) x (fun y => k (.exit 0) (px_108_7_0.inst y)) := by kernel_rfl
theorem step_108_7 {R : Type} (N n : Nat) (x : pt_108_7.den) (k : Exit → St → Option R) : iter 0 lv_108_7 lo_108_7 (aexec TT (E_108 (R := R) N) (drawAny TT WW) (L_108 N) (loopAt 7 (bodyOf Try.f108))) (n + 1) (pt_108_7.inst x) k = B_108_7 N (fun y => iter 0 lv_108_7 lo_108_7 (aexec TT (E_108 (R := R) N) (drawAny TT WW) (L_108 N) (loopAt 7 (bodyOf Try.f108))) n (pt_108_7.inst y) k) x (fun y => k (.exit 0) (px_108_7_0.inst y)) := (gstep_108_7 (l_108_7 N N) n x k).trans (by kernel_rfl)
theorem eq_108_7 {R : Type} (N : Nat) : ∀ (n : Nat) (x : pt_108_7.den) (k : Exit → St → Option R), iter 0 lv_108_7 lo_108_7 (aexec TT (E_108 (R := R) N) (drawAny TT WW) (L_108 N) (loopAt 7 (bodyOf Try.f108))) n (pt_108_7.inst x) k = l_108_7 N n x (fun y => k (.exit 0) (px_108_7_0.inst y)) :=
  iter_eq (K := Exit → St → Option R) (ks := fun k => k) (l := fun n (x : pt_108_7.den) k => l_108_7 N n x (fun y => k (.exit 0) (px_108_7_0.inst y))) (B := fun (rec : pt_108_7.den → Option R) (x : pt_108_7.den) k => B_108_7 N rec x (fun y => k (.exit 0) (px_108_7_0.inst y))) (fun _ _ => rfl) (fun _ _ _ => rfl) (fun n x k => step_108_7 N n x k)
theorem rounds_108_7 {R : Type} (N : Nat) : Rounds 0 TT (E_108 (R := R) N) (drawAny TT WW) (L_108 N) 7 (loopAt 7 (bodyOf Try.f108)) :=
  rounds_of (p := pt_108_7) (l := fun (x : pt_108_7.den) k => l_108_7 N N x (fun y => k (.exit 0) (px_108_7_0.inst y))) (fun s k => rfl) (fun x k => eq_108_7 N N x k)
theorem loops_108 : loopsIn (bodyOf Try.f108) = [(7, loopAt 7 (bodyOf Try.f108))] := by kernel_rfl
theorem lok_108 {R : Type} (N : Nat) : LOK 0 TT (E_108 (R := R) N) (drawAny TT WW) (L_108 N) (bodyOf Try.f108) := loops_all loops_108 (by
  simp only [List.forall_mem_cons, List.not_mem_nil, false_implies, implies_true, and_true]
  exact rounds_108_7 N)
theorem grun_108 {R : Type} (m_108_7 : Tl_108_7 R) (x : aden ap_108 × hden hp_108) (k : KF R) : fnrun TT (EG_108) (drawAny TT WW) (LG_108 m_108_7) true Try.f108 (instA ap_108 x.1) (instH hp_108 x.2) k = Q_108 m_108_7 x (fun y => k (Pat.inst (.vec (.int .i64) 16) y) (instH hp_108 x.2)) := by kernel_rfl
theorem run_108 {R : Type} (N : Nat) (x : aden ap_108 × hden hp_108) (k : KF R) : fnrun TT (E_108 (R := R) N) (drawAny TT WW) (L_108 N) true Try.f108 (instA ap_108 x.1) (instH hp_108 x.2) k = p_108 N x (fun y => k (Pat.inst (.vec (.int .i64) 16) y) (instH hp_108 x.2)) := (grun_108 (l_108_7 N N) x k).trans (by kernel_rfl)
theorem good_108 {R : Type} (N : Nat) : GD (X := R) Try.prog QQ AA 108 ap_108 hp_108 (fun (x : aden ap_108 × hden hp_108) k => p_108 N x (fun y => k (Pat.inst (.vec (.int .i64) 16) y) (instH hp_108 x.2))) :=
  gd_quiet (E := E_108 N) (p := fun (x : aden ap_108 × hden hp_108) κ => p_108 N x (fun y => κ (Pat.inst (.vec (.int .i64) 16) y))) mixed tyok (eok_108 N) Try.func108 (by kernel_rfl) (by kernel_rfl) (lok_108 N) (fun x k => run_108 N x k)

def ap_109 : List Pat := [.int .u64, .int .u64, .int .u64, .int .u64, .int .u64, .int .u64]
def hp_109 : List (Option (Pat × Nat)) := []
abbrev Tp_109 (R : Type) : Type := (Int × Int × Int × Int × Int × Int × Unit) × (Unit) → (Y2 → Option R) → Option R
def Q_109 {R : Type} (q_117 : Tp_117 R) (x : (Int × Int × Int × Int × Int × Int × Unit) × (Unit)) (κ0 : Y2 → Option R) : Option R :=
let i1191 := x.1.1
let i1192 := x.1.2.1
let i1193 := x.1.2.2.1
let i1194 := x.1.2.2.2.1
let i1195 := x.1.2.2.2.2.1
let i1196 := x.1.2.2.2.2.2.1
let i1197 : Int := addA .u64 i1192 i1195
let i1198 : Int := addA .u64 i1191 i1197
let i1199 : Int := xorA .u64 i1194 i1198
q_117 ((i1199, 32, ()), ()) (fun y1200 =>
let i1201 : Int := y1200
let i1202 : Int := addA .u64 i1193 i1201
let i1203 : Int := xorA .u64 i1192 i1202
q_117 ((i1203, 24, ()), ()) (fun y1204 =>
let i1205 : Int := y1204
let i1206 : Int := addA .u64 i1205 i1196
let i1207 : Int := addA .u64 i1198 i1206
let i1208 : Int := xorA .u64 i1201 i1207
q_117 ((i1208, 16, ()), ()) (fun y1209 =>
let i1210 : Int := y1209
let i1211 : Int := addA .u64 i1202 i1210
let i1212 : Int := xorA .u64 i1205 i1211
q_117 ((i1212, 63, ()), ()) (fun y1213 =>
let i1214 : Int := y1213
κ0 ((i1207, (i1214, (i1211, (i1210, ())))))))))
def p_109 {R : Type} (N : Nat) (x : (Int × Int × Int × Int × Int × Int × Unit) × (Unit)) (κ0 : Y2 → Option R) : Option R := Q_109 (p_117 N) x κ0
def EG_109 {R : Type} (q_117 : Tp_117 R) : Env R := (Env.base QQ LN AA).add 117 ap_117 hp_117 (fun (x : aden ap_117 × hden hp_117) k => q_117 x (fun y => k (Pat.inst (.int .u64) y) (instH hp_117 x.2)))
def LG_109 {R : Type} : Loops R := Loops.none
def E_109 {R : Type} (N : Nat) : Env R := EG_109 (p_117 N)
theorem eok_109 {R : Type} (N : Nat) : EK Try.prog (E_109 (R := R) N) := ek_add (ek_base _ _ _) (good_117 N)
def L_109 {R : Type} (N : Nat) : Loops R := LG_109
theorem lok_109 {R : Type} (N : Nat) : LOK 0 TT (E_109 (R := R) N) (drawAny TT WW) (L_109 N) (bodyOf Try.f109) := loops_nil (by kernel_rfl)
theorem grun_109 {R : Type} (q_117 : Tp_117 R) (x : aden ap_109 × hden hp_109) (k : KF R) : fnrun TT (EG_109 q_117) (drawAny TT WW) (LG_109) true Try.f109 (instA ap_109 x.1) (instH hp_109 x.2) k = Q_109 q_117 x (fun y => k (Pat.inst (.tup (.fcons (.int .u64) (.fcons (.int .u64) (.fcons (.int .u64) (.fcons (.int .u64) (.fnil)))))) y) (instH hp_109 x.2)) := by kernel_rfl
theorem run_109 {R : Type} (N : Nat) (x : aden ap_109 × hden hp_109) (k : KF R) : fnrun TT (E_109 (R := R) N) (drawAny TT WW) (L_109 N) true Try.f109 (instA ap_109 x.1) (instH hp_109 x.2) k = p_109 N x (fun y => k (Pat.inst (.tup (.fcons (.int .u64) (.fcons (.int .u64) (.fcons (.int .u64) (.fcons (.int .u64) (.fnil)))))) y) (instH hp_109 x.2)) := (grun_109 (p_117 N) x k).trans (by kernel_rfl)
theorem good_109 {R : Type} (N : Nat) : GD (X := R) Try.prog QQ AA 109 ap_109 hp_109 (fun (x : aden ap_109 × hden hp_109) k => p_109 N x (fun y => k (Pat.inst (.tup (.fcons (.int .u64) (.fcons (.int .u64) (.fcons (.int .u64) (.fcons (.int .u64) (.fnil)))))) y) (instH hp_109 x.2))) :=
  gd_quiet (E := E_109 N) (p := fun (x : aden ap_109 × hden hp_109) κ => p_109 N x (fun y => κ (Pat.inst (.tup (.fcons (.int .u64) (.fcons (.int .u64) (.fcons (.int .u64) (.fcons (.int .u64) (.fnil)))))) y))) mixed tyok (eok_109 N) Try.func109 (by kernel_rfl) (by kernel_rfl) (lok_109 N) (fun x k => run_109 N x k)

def lv_99_17 : Live := [(4, none), (8, none), (10, none), (12, none), (14, none), (16, none), (51, none), (56, none), (57, none)]
def pt_99_17 : SPat := ⟨[(4, .ptr 0 []), (8, .ptr 1 []), (10, .ros (.int .u64)), (12, .ptr 2 []), (14, .ptr 3 []), (16, .ptr 4 []), (51, .int .i64), (56, .vec (.arr 4 (.int .i64)) 8), (57, .int .i64)], [some (.vec (.int .u64) 8, 56), some (.vec (.int .u64) 8, 56), some (.vec (.int .u64) 16, 186), some (.vec (.arr 4 (.int .i64)) 8, 190), some (.vec (.int .i64) 16, 192)]⟩
def px_99_17_0 : SPat := ⟨[(4, .ptr 0 []), (8, .ptr 1 []), (10, .ros (.int .u64)), (12, .ptr 2 []), (14, .ptr 3 []), (51, .int .i64)], [some (.vec (.int .u64) 8, 56), some (.vec (.int .u64) 8, 56), some (.vec (.int .u64) 16, 186), some (.vec (.arr 4 (.int .i64)) 8, 190)]⟩
def lo_99_17 : Exit → Live
  | .exit 2 => [(4, none), (8, none), (10, none), (12, none), (14, none), (51, none)]
  | _ => []
def lv_99_13 : Live := [(4, none), (8, none), (10, none), (12, none), (14, none), (51, none)]
def pt_99_13 : SPat := ⟨[(4, .ptr 0 []), (8, .ptr 1 []), (10, .ros (.int .u64)), (12, .ptr 2 []), (14, .ptr 3 []), (51, .int .i64)], [some (.vec (.int .u64) 8, 56), some (.vec (.int .u64) 8, 56), some (.vec (.int .u64) 16, 186), some (.vec (.arr 4 (.int .i64)) 8, 190)]⟩
def px_99_13_0 : SPat := ⟨[(4, .ptr 0 []), (8, .ptr 1 []), (12, .ptr 2 [])], [some (.vec (.int .u64) 8, 56), some (.vec (.int .u64) 8, 56), some (.vec (.int .u64) 16, 186)]⟩
def lo_99_13 : Exit → Live
  | .exit 0 => [(4, none), (8, none), (12, none)]
  | _ => []
def lv_99_24 : Live := [(4, none), (8, none), (12, none), (112, none)]
def pt_99_24 : SPat := ⟨[(4, .ptr 0 []), (8, .ptr 1 []), (12, .ptr 2 []), (112, .int .i64)], [some (.vec (.int .u64) 8, 56), some (.vec (.int .u64) 8, 56), some (.vec (.int .u64) 16, 186)]⟩
def px_99_24_0 : SPat := ⟨[(4, .ptr 0 []), (8, .ptr 1 [])], [some (.vec (.int .u64) 8, 56), some (.vec (.int .u64) 8, 56)]⟩
def lo_99_24 : Exit → Live
  | .exit 4 => [(4, none), (8, none)]
  | _ => []
def ap_99 : List Pat := [.vec (.int .u64) 8, .ros (.int .u8), .int .u64, .bool]
def hp_99 : List (Option (Pat × Nat)) := []
abbrev Tl_99_17 (R : Type) : Type := Y19 → (Y14 → Option R) → Option R
abbrev Tl_99_13 (R : Type) : Type := Y14 → (((Unit × Unit × Unit × Unit) × ((Nat → Int) × (Nat → Int) × (Nat → Int) × Unit)) → Option R) → Option R
abbrev Tl_99_24 (R : Type) : Type := ((Unit × Unit × Unit × Int × Unit) × ((Nat → Int) × (Nat → Int) × (Nat → Int) × Unit)) → (Y22 → Option R) → Option R
abbrev Tp_99 (R : Type) : Type := ((Nat → Int) × (List Int) × Int × Bool × Unit) × (Unit) → (((Nat → Int) × (Int × Unit)) → Option R) → Option R
def C_99_17 {R : Type} (q_109 : Tp_109 R) (rec : Y19 → Option R) (x : Y19) (κ0 : Y14 → Option R) : Option R :=
let l1716 := x.1.2.2.1
let i1717 := x.1.2.2.2.2.2.2.1
let a1718 := x.1.2.2.2.2.2.2.2.1
let i1719 := x.1.2.2.2.2.2.2.2.2.1
let a1720 := x.2.1
let a1721 := x.2.2.1
let a1722 := x.2.2.2.1
let a1723 := x.2.2.2.2.1
let a1724 := x.2.2.2.2.2.1
bif (decide (i1719 < 8)) then (
bif decide (0 ≤ i1719) then (
bif decide (i1719 < (8 : Int)) then (
let a1725 : (Nat → Int) := (a1718 ((Int.toNat i1719)))
let i1726 : Int := (a1725 0)
let i1727 : Int := (a1725 1)
let i1728 : Int := (a1725 2)
let i1729 : Int := (a1725 3)
bif decide (0 ≤ i1726) then (
bif decide (i1726 < (16 : Int)) then (
let i1730 : Int := (a1722 ((Int.toNat i1726)))
bif decide (0 ≤ i1727) then (
bif decide (i1727 < (16 : Int)) then (
let i1731 : Int := (a1722 ((Int.toNat i1727)))
bif decide (0 ≤ i1728) then (
bif decide (i1728 < (16 : Int)) then (
let i1732 : Int := (a1722 ((Int.toNat i1728)))
bif decide (0 ≤ i1729) then (
bif decide (i1729 < (16 : Int)) then (
let i1733 : Int := (a1722 ((Int.toNat i1729)))
let i1734 : Int := mulA .i64 2 i1719
bif decide (0 ≤ i1734) then (
bif decide (i1734 < (16 : Int)) then (
let i1735 : Int := (a1724 ((Int.toNat i1734)))
bif decide (0 ≤ i1735) then (
bif decide (i1735 < ((List.length l1716) : Int)) then (
let p1736 : Int := (List.getD l1716 ((Int.toNat i1735)) (Sch.zero (.int .u64)))
let i1737 : Int := mulA .i64 2 i1719
let i1738 : Int := addA .i64 i1737 1
bif decide (0 ≤ i1738) then (
bif decide (i1738 < (16 : Int)) then (
let i1739 : Int := (a1724 ((Int.toNat i1738)))
bif decide (0 ≤ i1739) then (
bif decide (i1739 < ((List.length l1716) : Int)) then (
let p1740 : Int := (List.getD l1716 ((Int.toNat i1739)) (Sch.zero (.int .u64)))
q_109 ((i1730, i1731, i1732, i1733, p1736, p1740, ()), ()) (fun y1741 =>
let i1742 := y1741.1
let i1743 := y1741.2.1
let i1744 := y1741.2.2.1
let i1745 := y1741.2.2.2.1
bif decide (0 ≤ i1726) then (
bif decide (i1726 < (16 : Int)) then (
let a1746 : (Nat → Int) := (upd a1722 ((Int.toNat i1726)) i1742)
bif decide (0 ≤ i1727) then (
bif decide (i1727 < (16 : Int)) then (
let a1747 : (Nat → Int) := (upd a1746 ((Int.toNat i1727)) i1743)
bif decide (0 ≤ i1728) then (
bif decide (i1728 < (16 : Int)) then (
let a1748 : (Nat → Int) := (upd a1747 ((Int.toNat i1728)) i1744)
bif decide (0 ≤ i1729) then (
bif decide (i1729 < (16 : Int)) then (
let a1749 : (Nat → Int) := (upd a1748 ((Int.toNat i1729)) i1745)
let i1750 : Int := addA .i64 i1719 1
rec (((), (), l1716, (), (), (), i1717, a1718, i1750, ()), (a1720, a1721, a1749, a1723, a1724, ()))) else none) else none) else none) else none) else none) else none) else none) else none)) else none) else none) else none) else none) else none) else none) else none) else none) else none) else none) else none) else none) else none) else none) else none) else none) else none) else none) else (
κ0 (((), (), l1716, (), (), i1717, ()), (a1720, a1721, a1722, a1723, ())))
def C_99_13 {R : Type} (q_108 : Tp_108 R) (m_99_17 : Tl_99_17 R) (rec : Y14 → Option R) (x : Y14) (κ0 : ((Unit × Unit × Unit × Unit) × ((Nat → Int) × (Nat → Int) × (Nat → Int) × Unit)) → Option R) : Option R :=
let l1708 := x.1.2.2.1
let i1709 := x.1.2.2.2.2.2.1
let a1710 := x.2.1
let a1711 := x.2.2.1
let a1712 := x.2.2.2.1
let a1713 := x.2.2.2.2.1
bif (decide (i1709 < 12)) then (
q_108 ((i1709, ()), ()) (fun y1714 =>
let a1715 : (Nat → Int) := y1714
m_99_17 (((), (), l1708, (), (), (), i1709, a1713, 0, ()), (a1710, a1711, a1712, a1713, a1715, ())) (fun y1751 =>
let l1752 := y1751.1.2.2.1
let i1753 := y1751.1.2.2.2.2.2.1
let a1754 := y1751.2.1
let a1755 := y1751.2.2.1
let a1756 := y1751.2.2.2.1
let a1757 := y1751.2.2.2.2.1
let i1758 : Int := addA .i64 i1753 1
rec (((), (), l1752, (), (), i1758, ()), (a1754, a1755, a1756, a1757, ()))))) else (
κ0 (((), (), (), ()), (a1710, a1711, a1712, ())))
def C_99_24 {R : Type} (rec : ((Unit × Unit × Unit × Int × Unit) × ((Nat → Int) × (Nat → Int) × (Nat → Int) × Unit)) → Option R) (x : ((Unit × Unit × Unit × Int × Unit) × ((Nat → Int) × (Nat → Int) × (Nat → Int) × Unit))) (κ0 : Y22 → Option R) : Option R :=
let i1763 := x.1.2.2.2.1
let a1764 := x.2.1
let a1765 := x.2.2.1
let a1766 := x.2.2.2.1
bif (decide (i1763 < 8)) then (
bif decide (0 ≤ i1763) then (
bif decide (i1763 < (8 : Int)) then (
let i1767 : Int := (a1764 ((Int.toNat i1763)))
bif decide (0 ≤ i1763) then (
bif decide (i1763 < (16 : Int)) then (
let i1768 : Int := (a1766 ((Int.toNat i1763)))
let i1769 : Int := addA .i64 i1763 8
bif decide (0 ≤ i1769) then (
bif decide (i1769 < (16 : Int)) then (
let i1770 : Int := (a1766 ((Int.toNat i1769)))
let i1771 : Int := xorA .u64 i1768 i1770
let i1772 : Int := xorA .u64 i1767 i1771
bif decide (0 ≤ i1763) then (
bif decide (i1763 < (8 : Int)) then (
let a1773 : (Nat → Int) := (upd a1764 ((Int.toNat i1763)) i1772)
let i1774 : Int := addA .i64 i1763 1
rec (((), (), (), i1774, ()), (a1773, a1765, a1766, ()))) else none) else none) else none) else none) else none) else none) else none) else none) else (
κ0 (((), (), ()), (a1764, a1765, ())))
def B_99_17 {R : Type} (N : Nat) (rec : Y19 → Option R) (x : Y19) (κ0 : Y14 → Option R) : Option R := C_99_17 (p_109 N) rec x κ0
def l_99_17 {R : Type} (N : Nat) : Nat → Y19 → (Y14 → Option R) → Option R
  | 0, _, _ => none
  | n + 1, x, κ0 => B_99_17 N (fun y => l_99_17 N n y κ0) x κ0
def B_99_13 {R : Type} (N : Nat) (rec : Y14 → Option R) (x : Y14) (κ0 : ((Unit × Unit × Unit × Unit) × ((Nat → Int) × (Nat → Int) × (Nat → Int) × Unit)) → Option R) : Option R := C_99_13 (p_108 N) (l_99_17 N N) rec x κ0
def l_99_13 {R : Type} (N : Nat) : Nat → Y14 → (((Unit × Unit × Unit × Unit) × ((Nat → Int) × (Nat → Int) × (Nat → Int) × Unit)) → Option R) → Option R
  | 0, _, _ => none
  | n + 1, x, κ0 => B_99_13 N (fun y => l_99_13 N n y κ0) x κ0
def B_99_24 {R : Type} (N : Nat) (rec : ((Unit × Unit × Unit × Int × Unit) × ((Nat → Int) × (Nat → Int) × (Nat → Int) × Unit)) → Option R) (x : ((Unit × Unit × Unit × Int × Unit) × ((Nat → Int) × (Nat → Int) × (Nat → Int) × Unit))) (κ0 : Y22 → Option R) : Option R := C_99_24 rec x κ0
def l_99_24 {R : Type} (N : Nat) : Nat → ((Unit × Unit × Unit × Int × Unit) × ((Nat → Int) × (Nat → Int) × (Nat → Int) × Unit)) → (Y22 → Option R) → Option R
  | 0, _, _ => none
  | n + 1, x, κ0 => B_99_24 N (fun y => l_99_24 N n y κ0) x κ0
def Q_99 {R : Type} (q_84 : Tp_84 R) (q_97 : Tp_97 R) (q_107 : Tp_107 R) (q_109 : Tp_109 R) (q_108 : Tp_108 R) (m_99_17 : Tl_99_17 R) (m_99_13 : Tl_99_13 R) (m_99_24 : Tl_99_24 R) (x : ((Nat → Int) × (List Int) × Int × Bool × Unit) × (Unit)) (κ0 : ((Nat → Int) × (Int × Unit)) → Option R) : Option R :=
let a1082 := x.1.1
let l1083 := x.1.2.1
let i1084 := x.1.2.2.1
let b1085 := x.1.2.2.2.1
let i1086 : Int := (((List.length l1083) : Nat) : Int)
bif (i1086 != 128) then (
let a1087 : (Nat → Int) := (Sch.zero (.arr 8 (.int .u64)))
κ0 ((a1087, (9, ())))) else (
q_84 ((l1083, ()), ()) (fun y1111 =>
let l1112 := y1111.1.1
let l1114 : (List Int) := ((List.range 8).map fun j => a1082 (0 + j))
bif decide (0 < Nat.min (List.length l1114) 8) then (
let a1115 : (Nat → Int) := copyF ((Sch.zero (.arr 16 (.int .u64)))) 0 (Nat.min (List.length l1114) 8) l1114 (Sch.zero (.int .u64))
q_97 ((), ()) (fun y1116 =>
let a1117 : (Nat → Int) := y1116
let l1118 : (List Int) := ((List.range 8).map fun j => a1117 (0 + j))
bif decide (0 < Nat.min (List.length l1118) 8) then (
let a1119 : (Nat → Int) := copyF a1115 8 (Nat.min (List.length l1118) 8) l1118 (Sch.zero (.int .u64))
let i1120 : Int := (a1119 12)
let i1121 : Int := xorA .u64 i1120 i1084
let a1122 : (Nat → Int) := (upd a1119 12 i1121)
bif b1085 then (
let i1123 : Int := (a1122 14)
let i1124 : Int := xorA .u64 18446744073709551615 i1123
let a1125 : (Nat → Int) := (upd a1122 14 i1124)
q_107 ((), ()) (fun y1135 =>
let a1136 : (Nat → (Nat → Int)) := y1135
m_99_13 (((), (), l1112, (), (), 0, ()), (a1082, (Sch.zero (.arr 8 (.int .u64))), a1125, a1136, ())) (fun y1233 =>
let a1234 := y1233.2.1
let a1235 := y1233.2.2.1
let a1236 := y1233.2.2.2.1
m_99_24 (((), (), (), 0, ()), (a1234, a1235, a1236, ())) (fun y1249 =>
let a1250 := y1249.2.1
κ0 ((a1250, (0, ()))))))) else (
q_107 ((), ()) (fun y1252 =>
let a1253 := y1252
m_99_13 (((), (), l1112, (), (), 0, ()), (a1082, (Sch.zero (.arr 8 (.int .u64))), a1122, a1253, ())) (fun y1305 =>
let a1306 := y1305.2.1
let a1307 := y1305.2.2.1
let a1308 := y1305.2.2.2.1
m_99_24 (((), (), (), 0, ()), (a1306, a1307, a1308, ())) (fun y1321 =>
let a1322 := y1321.2.1
κ0 ((a1322, (0, ())))))))) else (
let i1324 : Int := (a1115 12)
let i1325 : Int := xorA .u64 i1324 i1084
let a1326 : (Nat → Int) := (upd a1115 12 i1325)
bif b1085 then (
let i1327 : Int := (a1326 14)
let i1328 : Int := xorA .u64 18446744073709551615 i1327
let a1329 : (Nat → Int) := (upd a1326 14 i1328)
q_107 ((), ()) (fun y1330 =>
let a1331 : (Nat → (Nat → Int)) := y1330
m_99_13 (((), (), l1112, (), (), 0, ()), (a1082, (Sch.zero (.arr 8 (.int .u64))), a1329, a1331, ())) (fun y1383 =>
let a1384 := y1383.2.1
let a1385 := y1383.2.2.1
let a1386 := y1383.2.2.2.1
m_99_24 (((), (), (), 0, ()), (a1384, a1385, a1386, ())) (fun y1399 =>
let a1400 := y1399.2.1
κ0 ((a1400, (0, ()))))))) else (
q_107 ((), ()) (fun y1402 =>
let a1403 := y1402
m_99_13 (((), (), l1112, (), (), 0, ()), (a1082, (Sch.zero (.arr 8 (.int .u64))), a1326, a1403, ())) (fun y1455 =>
let a1456 := y1455.2.1
let a1457 := y1455.2.2.1
let a1458 := y1455.2.2.2.1
m_99_24 (((), (), (), 0, ()), (a1456, a1457, a1458, ())) (fun y1471 =>
let a1472 := y1471.2.1
κ0 ((a1472, (0, ())))))))))) else (
q_97 ((), ()) (fun y1474 =>
let a1475 : (Nat → Int) := y1474
let l1476 : (List Int) := ((List.range 8).map fun j => a1475 (0 + j))
bif decide (0 < Nat.min (List.length l1476) 8) then (
let a1477 : (Nat → Int) := copyF ((Sch.zero (.arr 16 (.int .u64)))) 8 (Nat.min (List.length l1476) 8) l1476 (Sch.zero (.int .u64))
let i1478 : Int := (a1477 12)
let i1479 : Int := xorA .u64 i1478 i1084
let a1480 : (Nat → Int) := (upd a1477 12 i1479)
bif b1085 then (
let i1481 : Int := (a1480 14)
let i1482 : Int := xorA .u64 18446744073709551615 i1481
let a1483 : (Nat → Int) := (upd a1480 14 i1482)
q_107 ((), ()) (fun y1484 =>
let a1485 : (Nat → (Nat → Int)) := y1484
m_99_13 (((), (), l1112, (), (), 0, ()), (a1082, (Sch.zero (.arr 8 (.int .u64))), a1483, a1485, ())) (fun y1537 =>
let a1538 := y1537.2.1
let a1539 := y1537.2.2.1
let a1540 := y1537.2.2.2.1
m_99_24 (((), (), (), 0, ()), (a1538, a1539, a1540, ())) (fun y1553 =>
let a1554 := y1553.2.1
κ0 ((a1554, (0, ()))))))) else (
q_107 ((), ()) (fun y1556 =>
let a1557 : (Nat → (Nat → Int)) := y1556
m_99_13 (((), (), l1112, (), (), 0, ()), (a1082, (Sch.zero (.arr 8 (.int .u64))), a1480, a1557, ())) (fun y1609 =>
let a1610 := y1609.2.1
let a1611 := y1609.2.2.1
let a1612 := y1609.2.2.2.1
m_99_24 (((), (), (), 0, ()), (a1610, a1611, a1612, ())) (fun y1625 =>
let a1626 := y1625.2.1
κ0 ((a1626, (0, ())))))))) else (
let i1628 : Int := (((Sch.zero (.arr 16 (.int .u64)))) 12)
let i1629 : Int := xorA .u64 i1628 i1084
let a1630 : (Nat → Int) := (upd ((Sch.zero (.arr 16 (.int .u64)))) 12 i1629)
bif b1085 then (
let i1631 : Int := (a1630 14)
let i1632 : Int := xorA .u64 18446744073709551615 i1631
let a1633 : (Nat → Int) := (upd a1630 14 i1632)
q_107 ((), ()) (fun y1634 =>
let a1635 : (Nat → (Nat → Int)) := y1634
m_99_13 (((), (), l1112, (), (), 0, ()), (a1082, (Sch.zero (.arr 8 (.int .u64))), a1633, a1635, ())) (fun y1687 =>
let a1688 := y1687.2.1
let a1689 := y1687.2.2.1
let a1690 := y1687.2.2.2.1
m_99_24 (((), (), (), 0, ()), (a1688, a1689, a1690, ())) (fun y1703 =>
let a1704 := y1703.2.1
κ0 ((a1704, (0, ()))))))) else (
q_107 ((), ()) (fun y1706 =>
let a1707 : (Nat → (Nat → Int)) := y1706
m_99_13 (((), (), l1112, (), (), 0, ()), (a1082, (Sch.zero (.arr 8 (.int .u64))), a1630, a1707, ())) (fun y1759 =>
let a1760 := y1759.2.1
let a1761 := y1759.2.2.1
let a1762 := y1759.2.2.2.1
m_99_24 (((), (), (), 0, ()), (a1760, a1761, a1762, ())) (fun y1775 =>
let a1776 := y1775.2.1
κ0 ((a1776, (0, ()))))))))))))
def p_99 {R : Type} (N : Nat) (x : ((Nat → Int) × (List Int) × Int × Bool × Unit) × (Unit)) (κ0 : ((Nat → Int) × (Int × Unit)) → Option R) : Option R := Q_99 (p_84 N) (p_97 N) (p_107 N) (p_109 N) (p_108 N) (l_99_17 N N) (l_99_13 N N) (l_99_24 N N) x κ0
def EG_99 {R : Type} (q_84 : Tp_84 R) (q_97 : Tp_97 R) (q_107 : Tp_107 R) (q_109 : Tp_109 R) (q_108 : Tp_108 R) : Env R := (((((Env.base QQ LN AA).add 84 ap_84 hp_84 (fun (x : aden ap_84 × hden hp_84) k => q_84 x (fun y => k (Pat.inst (.tup (.fcons (.ros (.int .u64)) (.fcons (.int .i64) (.fnil)))) y.1) (instH [] y.2)))).add 97 ap_97 hp_97 (fun (x : aden ap_97 × hden hp_97) k => q_97 x (fun y => k (Pat.inst (.vec (.int .u64) 8) y) (instH hp_97 x.2)))).add 107 ap_107 hp_107 (fun (x : aden ap_107 × hden hp_107) k => q_107 x (fun y => k (Pat.inst (.vec (.arr 4 (.int .i64)) 8) y) (instH hp_107 x.2)))).add 109 ap_109 hp_109 (fun (x : aden ap_109 × hden hp_109) k => q_109 x (fun y => k (Pat.inst (.tup (.fcons (.int .u64) (.fcons (.int .u64) (.fcons (.int .u64) (.fcons (.int .u64) (.fnil)))))) y) (instH hp_109 x.2)))).add 108 ap_108 hp_108 (fun (x : aden ap_108 × hden hp_108) k => q_108 x (fun y => k (Pat.inst (.vec (.int .i64) 16) y) (instH hp_108 x.2)))
def LG_99 {R : Type} (m_99_17 : Tl_99_17 R) (m_99_13 : Tl_99_13 R) (m_99_24 : Tl_99_24 R) : Loops R := (((Loops.none).add 17 (loopBy 0 lv_99_17 pt_99_17 (fun x k => m_99_17 x (fun y => k (.exit 2) (px_99_17_0.inst y))))).add 13 (loopBy 0 lv_99_13 pt_99_13 (fun x k => m_99_13 x (fun y => k (.exit 0) (px_99_13_0.inst y))))).add 24 (loopBy 0 lv_99_24 pt_99_24 (fun x k => m_99_24 x (fun y => k (.exit 4) (px_99_24_0.inst y))))
def E_99 {R : Type} (N : Nat) : Env R := EG_99 (p_84 N) (p_97 N) (p_107 N) (p_109 N) (p_108 N)
theorem eok_99 {R : Type} (N : Nat) : EK Try.prog (E_99 (R := R) N) := ek_add (ek_add (ek_add (ek_add (ek_add (ek_base _ _ _) (good_84 N)) (good_97 N)) (good_107 N)) (good_109 N)) (good_108 N)
def L_99 {R : Type} (N : Nat) : Loops R := LG_99 (l_99_17 N N) (l_99_13 N N) (l_99_24 N N)
theorem gstep_99_17 {R : Type} (q_84 : Tp_84 R) (q_97 : Tp_97 R) (q_107 : Tp_107 R) (q_109 : Tp_109 R) (q_108 : Tp_108 R) (m_99_17 : Tl_99_17 R) (m_99_13 : Tl_99_13 R) (m_99_24 : Tl_99_24 R) (n : Nat) (x : pt_99_17.den) (k : Exit → St → Option R) : iter 0 lv_99_17 lo_99_17 (aexec TT (EG_99 q_84 q_97 q_107 q_109 q_108) (drawAny TT WW) (LG_99 m_99_17 m_99_13 m_99_24) (loopAt 17 (bodyOf Try.f99))) (n + 1) (pt_99_17.inst x) k = C_99_17 q_109 (fun y => iter 0 lv_99_17 lo_99_17 (aexec TT (EG_99 q_84 q_97 q_107 q_109 q_108) (drawAny TT WW) (LG_99 m_99_17 m_99_13 m_99_24) (loopAt 17 (bodyOf Try.f99))) n (pt_99_17.inst y) k) x (fun y => k (.exit 2) (px_99_17_0.inst y)) := by kernel_rfl
theorem step_99_17 {R : Type} (N n : Nat) (x : pt_99_17.den) (k : Exit → St → Option R) : iter 0 lv_99_17 lo_99_17 (aexec TT (E_99 (R := R) N) (drawAny TT WW) (L_99 N) (loopAt 17 (bodyOf Try.f99))) (n + 1) (pt_99_17.inst x) k = B_99_17 N (fun y => iter 0 lv_99_17 lo_99_17 (aexec TT (E_99 (R := R) N) (drawAny TT WW) (L_99 N) (loopAt 17 (bodyOf Try.f99))) n (pt_99_17.inst y) k) x (fun y => k (.exit 2) (px_99_17_0.inst y)) := (gstep_99_17 (p_84 N) (p_97 N) (p_107 N) (p_109 N) (p_108 N) (l_99_17 N N) (l_99_13 N N) (l_99_24 N N) n x k).trans (by kernel_rfl)
theorem eq_99_17 {R : Type} (N : Nat) : ∀ (n : Nat) (x : pt_99_17.den) (k : Exit → St → Option R), iter 0 lv_99_17 lo_99_17 (aexec TT (E_99 (R := R) N) (drawAny TT WW) (L_99 N) (loopAt 17 (bodyOf Try.f99))) n (pt_99_17.inst x) k = l_99_17 N n x (fun y => k (.exit 2) (px_99_17_0.inst y)) :=
  iter_eq (K := Exit → St → Option R) (ks := fun k => k) (l := fun n (x : pt_99_17.den) k => l_99_17 N n x (fun y => k (.exit 2) (px_99_17_0.inst y))) (B := fun (rec : pt_99_17.den → Option R) (x : pt_99_17.den) k => B_99_17 N rec x (fun y => k (.exit 2) (px_99_17_0.inst y))) (fun _ _ => rfl) (fun _ _ _ => rfl) (fun n x k => step_99_17 N n x k)
theorem rounds_99_17 {R : Type} (N : Nat) : Rounds 0 TT (E_99 (R := R) N) (drawAny TT WW) (L_99 N) 17 (loopAt 17 (bodyOf Try.f99)) :=
  rounds_of (p := pt_99_17) (l := fun (x : pt_99_17.den) k => l_99_17 N N x (fun y => k (.exit 2) (px_99_17_0.inst y))) (fun s k => rfl) (fun x k => eq_99_17 N N x k)
theorem gstep_99_13 {R : Type} (q_84 : Tp_84 R) (q_97 : Tp_97 R) (q_107 : Tp_107 R) (q_109 : Tp_109 R) (q_108 : Tp_108 R) (m_99_17 : Tl_99_17 R) (m_99_13 : Tl_99_13 R) (m_99_24 : Tl_99_24 R) (n : Nat) (x : pt_99_13.den) (k : Exit → St → Option R) : iter 0 lv_99_13 lo_99_13 (aexec TT (EG_99 q_84 q_97 q_107 q_109 q_108) (drawAny TT WW) (LG_99 m_99_17 m_99_13 m_99_24) (loopAt 13 (bodyOf Try.f99))) (n + 1) (pt_99_13.inst x) k = C_99_13 q_108 m_99_17 (fun y => iter 0 lv_99_13 lo_99_13 (aexec TT (EG_99 q_84 q_97 q_107 q_109 q_108) (drawAny TT WW) (LG_99 m_99_17 m_99_13 m_99_24) (loopAt 13 (bodyOf Try.f99))) n (pt_99_13.inst y) k) x (fun y => k (.exit 0) (px_99_13_0.inst y)) := by kernel_rfl
theorem step_99_13 {R : Type} (N n : Nat) (x : pt_99_13.den) (k : Exit → St → Option R) : iter 0 lv_99_13 lo_99_13 (aexec TT (E_99 (R := R) N) (drawAny TT WW) (L_99 N) (loopAt 13 (bodyOf Try.f99))) (n + 1) (pt_99_13.inst x) k = B_99_13 N (fun y => iter 0 lv_99_13 lo_99_13 (aexec TT (E_99 (R := R) N) (drawAny TT WW) (L_99 N) (loopAt 13 (bodyOf Try.f99))) n (pt_99_13.inst y) k) x (fun y => k (.exit 0) (px_99_13_0.inst y)) := (gstep_99_13 (p_84 N) (p_97 N) (p_107 N) (p_109 N) (p_108 N) (l_99_17 N N) (l_99_13 N N) (l_99_24 N N) n x k).trans (by kernel_rfl)
theorem eq_99_13 {R : Type} (N : Nat) : ∀ (n : Nat) (x : pt_99_13.den) (k : Exit → St → Option R), iter 0 lv_99_13 lo_99_13 (aexec TT (E_99 (R := R) N) (drawAny TT WW) (L_99 N) (loopAt 13 (bodyOf Try.f99))) n (pt_99_13.inst x) k = l_99_13 N n x (fun y => k (.exit 0) (px_99_13_0.inst y)) :=
  iter_eq (K := Exit → St → Option R) (ks := fun k => k) (l := fun n (x : pt_99_13.den) k => l_99_13 N n x (fun y => k (.exit 0) (px_99_13_0.inst y))) (B := fun (rec : pt_99_13.den → Option R) (x : pt_99_13.den) k => B_99_13 N rec x (fun y => k (.exit 0) (px_99_13_0.inst y))) (fun _ _ => rfl) (fun _ _ _ => rfl) (fun n x k => step_99_13 N n x k)
theorem rounds_99_13 {R : Type} (N : Nat) : Rounds 0 TT (E_99 (R := R) N) (drawAny TT WW) (L_99 N) 13 (loopAt 13 (bodyOf Try.f99)) :=
  rounds_of (p := pt_99_13) (l := fun (x : pt_99_13.den) k => l_99_13 N N x (fun y => k (.exit 0) (px_99_13_0.inst y))) (fun s k => rfl) (fun x k => eq_99_13 N N x k)
theorem gstep_99_24 {R : Type} (q_84 : Tp_84 R) (q_97 : Tp_97 R) (q_107 : Tp_107 R) (q_109 : Tp_109 R) (q_108 : Tp_108 R) (m_99_17 : Tl_99_17 R) (m_99_13 : Tl_99_13 R) (m_99_24 : Tl_99_24 R) (n : Nat) (x : pt_99_24.den) (k : Exit → St → Option R) : iter 0 lv_99_24 lo_99_24 (aexec TT (EG_99 q_84 q_97 q_107 q_109 q_108) (drawAny TT WW) (LG_99 m_99_17 m_99_13 m_99_24) (loopAt 24 (bodyOf Try.f99))) (n + 1) (pt_99_24.inst x) k = C_99_24 (fun y => iter 0 lv_99_24 lo_99_24 (aexec TT (EG_99 q_84 q_97 q_107 q_109 q_108) (drawAny TT WW) (LG_99 m_99_17 m_99_13 m_99_24) (loopAt 24 (bodyOf Try.f99))) n (pt_99_24.inst y) k) x (fun y => k (.exit 4) (px_99_24_0.inst y)) := by kernel_rfl
theorem step_99_24 {R : Type} (N n : Nat) (x : pt_99_24.den) (k : Exit → St → Option R) : iter 0 lv_99_24 lo_99_24 (aexec TT (E_99 (R := R) N) (drawAny TT WW) (L_99 N) (loopAt 24 (bodyOf Try.f99))) (n + 1) (pt_99_24.inst x) k = B_99_24 N (fun y => iter 0 lv_99_24 lo_99_24 (aexec TT (E_99 (R := R) N) (drawAny TT WW) (L_99 N) (loopAt 24 (bodyOf Try.f99))) n (pt_99_24.inst y) k) x (fun y => k (.exit 4) (px_99_24_0.inst y)) := (gstep_99_24 (p_84 N) (p_97 N) (p_107 N) (p_109 N) (p_108 N) (l_99_17 N N) (l_99_13 N N) (l_99_24 N N) n x k).trans (by kernel_rfl)
theorem eq_99_24 {R : Type} (N : Nat) : ∀ (n : Nat) (x : pt_99_24.den) (k : Exit → St → Option R), iter 0 lv_99_24 lo_99_24 (aexec TT (E_99 (R := R) N) (drawAny TT WW) (L_99 N) (loopAt 24 (bodyOf Try.f99))) n (pt_99_24.inst x) k = l_99_24 N n x (fun y => k (.exit 4) (px_99_24_0.inst y)) :=
  iter_eq (K := Exit → St → Option R) (ks := fun k => k) (l := fun n (x : pt_99_24.den) k => l_99_24 N n x (fun y => k (.exit 4) (px_99_24_0.inst y))) (B := fun (rec : pt_99_24.den → Option R) (x : pt_99_24.den) k => B_99_24 N rec x (fun y => k (.exit 4) (px_99_24_0.inst y))) (fun _ _ => rfl) (fun _ _ _ => rfl) (fun n x k => step_99_24 N n x k)
theorem rounds_99_24 {R : Type} (N : Nat) : Rounds 0 TT (E_99 (R := R) N) (drawAny TT WW) (L_99 N) 24 (loopAt 24 (bodyOf Try.f99)) :=
  rounds_of (p := pt_99_24) (l := fun (x : pt_99_24.den) k => l_99_24 N N x (fun y => k (.exit 4) (px_99_24_0.inst y))) (fun s k => rfl) (fun x k => eq_99_24 N N x k)
theorem loops_99 : loopsIn (bodyOf Try.f99) = [(13, loopAt 13 (bodyOf Try.f99)), (17, loopAt 17 (bodyOf Try.f99)), (24, loopAt 24 (bodyOf Try.f99))] := by kernel_rfl
theorem lok_99 {R : Type} (N : Nat) : LOK 0 TT (E_99 (R := R) N) (drawAny TT WW) (L_99 N) (bodyOf Try.f99) := loops_all loops_99 (by
  simp only [List.forall_mem_cons, List.not_mem_nil, false_implies, implies_true, and_true]
  exact ⟨rounds_99_13 N, rounds_99_17 N, rounds_99_24 N⟩)
theorem grun_99 {R : Type} (q_84 : Tp_84 R) (q_97 : Tp_97 R) (q_107 : Tp_107 R) (q_109 : Tp_109 R) (q_108 : Tp_108 R) (m_99_17 : Tl_99_17 R) (m_99_13 : Tl_99_13 R) (m_99_24 : Tl_99_24 R) (x : aden ap_99 × hden hp_99) (k : KF R) : fnrun TT (EG_99 q_84 q_97 q_107 q_109 q_108) (drawAny TT WW) (LG_99 m_99_17 m_99_13 m_99_24) true Try.f99 (instA ap_99 x.1) (instH hp_99 x.2) k = Q_99 q_84 q_97 q_107 q_109 q_108 m_99_17 m_99_13 m_99_24 x (fun y => k (Pat.inst (.tup (.fcons (.vec (.int .u64) 8) (.fcons (.int .i64) (.fnil)))) y) (instH hp_99 x.2)) := by kernel_rfl
theorem run_99 {R : Type} (N : Nat) (x : aden ap_99 × hden hp_99) (k : KF R) : fnrun TT (E_99 (R := R) N) (drawAny TT WW) (L_99 N) true Try.f99 (instA ap_99 x.1) (instH hp_99 x.2) k = p_99 N x (fun y => k (Pat.inst (.tup (.fcons (.vec (.int .u64) 8) (.fcons (.int .i64) (.fnil)))) y) (instH hp_99 x.2)) := (grun_99 (p_84 N) (p_97 N) (p_107 N) (p_109 N) (p_108 N) (l_99_17 N N) (l_99_13 N N) (l_99_24 N N) x k).trans (by kernel_rfl)
theorem good_99 {R : Type} (N : Nat) : GD (X := R) Try.prog QQ AA 99 ap_99 hp_99 (fun (x : aden ap_99 × hden hp_99) k => p_99 N x (fun y => k (Pat.inst (.tup (.fcons (.vec (.int .u64) 8) (.fcons (.int .i64) (.fnil)))) y) (instH hp_99 x.2))) :=
  gd_quiet (E := E_99 N) (p := fun (x : aden ap_99 × hden hp_99) κ => p_99 N x (fun y => κ (Pat.inst (.tup (.fcons (.vec (.int .u64) 8) (.fcons (.int .i64) (.fnil)))) y))) mixed tyok (eok_99 N) Try.func99 (by kernel_rfl) (by kernel_rfl) (lok_99 N) (fun x k => run_99 N x k)

end Go.Proofs.Ytfcloeflcpcheaa.Eng
