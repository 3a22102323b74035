/-
Plain functions that the functions of the program are shown to come to, printed by a program of the prover; each with its proof.
Conditions: none.
-/
import Derived.Test.YtfcloeflcpcheaaProg
import Derived.Test.YtfcloeflcpcheaaEngY
import Derived.KernelRfl
set_option linter.unusedVariables false
namespace Go.Proofs.Ytfcloeflcpcheaa.Eng
def TT : Types := [(23, ⟨.stru [(3, 0), (3, 1), (3, 2), (3, 3), (3, 4)], 5, 40, .node (.fcons (.int .i64 0) (.fcons (.int .i64 0) (.fcons (.int .i64 0) (.fcons (.int .i64 0) (.fcons (.int .i64 0) (.fnil)))))), some (.stru (.fcons (.int .i64) (.fcons (.int .i64) (.fcons (.int .i64) (.fcons (.int .i64) (.fcons (.int .i64) (.fnil))))))), true, false, none⟩),
  (9, ⟨.str, 1, 16, .str ⟨#[]⟩, some (.str), false, false, none⟩),
  (69, ⟨.stru [(3, 0), (3, 1)], 2, 16, .node (.fcons (.int .i64 0) (.fcons (.int .i64 0) (.fnil))), some (.stru (.fcons (.int .i64) (.fcons (.int .i64) (.fnil)))), true, false, none⟩),
  (3, ⟨.int .i64, 1, 8, .int .i64 0, some (.int .i64), false, false, none⟩),
  (4, ⟨.bool, 1, 1, .bool false, some (.bool), false, false, none⟩),
  (26, ⟨.ptr 49, 1, 8, .nilp, none, false, false, none⟩),
  (47, ⟨.stru [(3, 0), (3, 1), (3, 2), (3, 3), (3, 4), (3, 5), (3, 6), (3, 7)], 8, 64, .node (.fcons (.int .i64 0) (.fcons (.int .i64 0) (.fcons (.int .i64 0) (.fcons (.int .i64 0) (.fcons (.int .i64 0) (.fcons (.int .i64 0) (.fcons (.int .i64 0) (.fcons (.int .i64 0) (.fnil))))))))), some (.stru (.fcons (.int .i64) (.fcons (.int .i64) (.fcons (.int .i64) (.fcons (.int .i64) (.fcons (.int .i64) (.fcons (.int .i64) (.fcons (.int .i64) (.fcons (.int .i64) (.fnil)))))))))), true, false, none⟩),
  (30, ⟨.int .i64, 1, 8, .int .i64 0, some (.int .i64), false, false, none⟩),
  (45, ⟨.stru [(3, 0), (3, 1), (3, 2), (3, 3), (3, 4), (3, 5), (3, 6), (3, 7)], 8, 64, .node (.fcons (.int .i64 0) (.fcons (.int .i64 0) (.fcons (.int .i64 0) (.fcons (.int .i64 0) (.fcons (.int .i64 0) (.fcons (.int .i64 0) (.fcons (.int .i64 0) (.fcons (.int .i64 0) (.fnil))))))))), some (.stru (.fcons (.int .i64) (.fcons (.int .i64) (.fcons (.int .i64) (.fcons (.int .i64) (.fcons (.int .i64) (.fcons (.int .i64) (.fcons (.int .i64) (.fcons (.int .i64) (.fnil)))))))))), true, false, none⟩),
  (100, ⟨.ptr 145, 1, 8, .nilp, none, false, false, none⟩),
  (145, ⟨.stru [(3, 0), (3, 1), (3, 2), (3, 3)], 4, 32, .node (.fcons (.int .i64 0) (.fcons (.int .i64 0) (.fcons (.int .i64 0) (.fcons (.int .i64 0) (.fnil))))), some (.stru (.fcons (.int .i64) (.fcons (.int .i64) (.fcons (.int .i64) (.fcons (.int .i64) (.fnil)))))), true, false, none⟩),
  (46, ⟨.ptr 147, 1, 8, .nilp, none, false, false, none⟩),
  (52, ⟨.slice 29, 1, 24, .nils, some (.sl (.arr 128 (.int .u64))), false, false, none⟩),
  (29, ⟨.arr 128 27, 128, 1024, .vec (.int .u64) 128 (Sch.zero (.arr 128 (.int .u64))), some (.arr 128 (.int .u64)), true, false, none⟩),
  (147, ⟨.stru [(100, 0), (52, 1), (4, 2)], 3, 40, .node (.fcons (.nilp) (.fcons (.nils) (.fcons (.bool false) (.fnil)))), none, false, false, none⟩),
  (49, ⟨.stru [(46, 0), (47, 1)], 9, 72, .node (.fcons (.nilp) (.fcons (.node (.fcons (.int .i64 0) (.fcons (.int .i64 0) (.fcons (.int .i64 0) (.fcons (.int .i64 0) (.fcons (.int .i64 0) (.fcons (.int .i64 0) (.fcons (.int .i64 0) (.fcons (.int .i64 0) (.fnil)))))))))) (.fnil))), none, false, false, none⟩),
  (81, ⟨.ptr 132, 1, 8, .nilp, none, false, false, none⟩),
  (132, ⟨.stru [(47, 0), (69, 8), (3, 10), (3, 11), (29, 12)], 140, 1120, .node (.fcons (.node (.fcons (.int .i64 0) (.fcons (.int .i64 0) (.fcons (.int .i64 0) (.fcons (.int .i64 0) (.fcons (.int .i64 0) (.fcons (.int .i64 0) (.fcons (.int .i64 0) (.fcons (.int .i64 0) (.fnil)))))))))) (.fcons (.node (.fcons (.int .i64 0) (.fcons (.int .i64 0) (.fnil)))) (.fcons (.int .i64 0) (.fcons (.int .i64 0) (.fcons (.vec (.int .u64) 128 (Sch.zero (.arr 128 (.int .u64)))) (.fnil)))))), some (.stru (.fcons (.stru (.fcons (.int .i64) (.fcons (.int .i64) (.fcons (.int .i64) (.fcons (.int .i64) (.fcons (.int .i64) (.fcons (.int .i64) (.fcons (.int .i64) (.fcons (.int .i64) (.fnil)))))))))) (.fcons (.stru (.fcons (.int .i64) (.fcons (.int .i64) (.fnil)))) (.fcons (.int .i64) (.fcons (.int .i64) (.fcons (.arr 128 (.int .u64)) (.fnil))))))), true, false, none⟩),
  (86, ⟨.stru [(34, 0), (34, 2), (34, 4)], 6, 48, .node (.fcons (.node (.fcons (.int .i64 0) (.fcons (.int .i64 0) (.fnil)))) (.fcons (.node (.fcons (.int .i64 0) (.fcons (.int .i64 0) (.fnil)))) (.fcons (.node (.fcons (.int .i64 0) (.fcons (.int .i64 0) (.fnil)))) (.fnil)))), some (.stru (.fcons (.stru (.fcons (.int .i64) (.fcons (.int .i64) (.fnil)))) (.fcons (.stru (.fcons (.int .i64) (.fcons (.int .i64) (.fnil)))) (.fcons (.stru (.fcons (.int .i64) (.fcons (.int .i64) (.fnil)))) (.fnil))))), true, false, none⟩),
  (34, ⟨.stru [(3, 0), (3, 1)], 2, 16, .node (.fcons (.int .i64 0) (.fcons (.int .i64 0) (.fnil))), some (.stru (.fcons (.int .i64) (.fcons (.int .i64) (.fnil)))), true, false, none⟩),
  (78, ⟨.int .u32, 1, 4, .int .u32 0, some (.int .u32), false, false, none⟩),
  (199, ⟨.arr 7 3, 7, 56, .vec (.int .i64) 7 (Sch.zero (.arr 7 (.int .i64))), some (.arr 7 (.int .i64)), true, false, none⟩),
  (27, ⟨.int .u64, 1, 8, .int .u64 0, some (.int .u64), false, false, none⟩),
  (201, ⟨.slice 4, 1, 24, .nils, some (.sl (.bool)), false, false, none⟩),
  (192, ⟨.arr 16 3, 16, 128, .vec (.int .i64) 16 (Sch.zero (.arr 16 (.int .i64))), some (.arr 16 (.int .i64)), true, false, none⟩),
  (186, ⟨.arr 16 27, 16, 128, .vec (.int .u64) 16 (Sch.zero (.arr 16 (.int .u64))), some (.arr 16 (.int .u64)), true, false, none⟩),
  (190, ⟨.arr 8 65, 32, 256, .vec (.arr 4 (.int .i64)) 8 (Sch.zero (.arr 8 (.arr 4 (.int .i64)))), some (.arr 8 (.arr 4 (.int .i64))), true, false, none⟩),
  (65, ⟨.arr 4 3, 4, 32, .vec (.int .i64) 4 (Sch.zero (.arr 4 (.int .i64))), some (.arr 4 (.int .i64)), true, false, none⟩),
  (159, ⟨.int .u64, 1, 8, .int .u64 0, some (.int .u64), false, false, none⟩),
  (158, ⟨.slice 78, 1, 24, .nils, some (.sl (.int .u32)), false, false, none⟩),
  (114, ⟨.slice 5, 1, 24, .nils, some (.sl (.int .u8)), false, false, none⟩),
  (5, ⟨.int .u8, 1, 1, .int .u8 0, some (.int .u8), false, false, none⟩),
  (149, ⟨.slice 9, 1, 24, .nils, some (.sl (.str)), false, false, none⟩),
  (150, ⟨.ptr 178, 1, 8, .nilp, none, false, false, none⟩),
  (173, ⟨.ptr 189, 1, 8, .nilp, none, false, false, none⟩),
  (189, ⟨.stru [(3, 0), (4, 1), (114, 2), (3, 3)], 4, 48, .node (.fcons (.int .i64 0) (.fcons (.bool false) (.fcons (.nils) (.fcons (.int .i64 0) (.fnil))))), some (.stru (.fcons (.int .i64) (.fcons (.bool) (.fcons (.sl (.int .u8)) (.fcons (.int .i64) (.fnil)))))), false, true, none⟩),
  (56, ⟨.arr 8 27, 8, 64, .vec (.int .u64) 8 (Sch.zero (.arr 8 (.int .u64))), some (.arr 8 (.int .u64)), true, false, none⟩),
  (178, ⟨.stru [(173, 0), (56, 1), (3, 9), (27, 10)], 11, 88, .node (.fcons (.nilp) (.fcons (.vec (.int .u64) 8 (Sch.zero (.arr 8 (.int .u64)))) (.fcons (.int .i64 0) (.fcons (.int .u64 0) (.fnil))))), none, false, false, none⟩),
  (179, ⟨.slice 114, 1, 24, .nils, some (.sl (.sl (.int .u8))), false, false, none⟩),
  (157, ⟨.slice 27, 1, 24, .nils, some (.sl (.int .u64)), false, false, none⟩),
  (203, ⟨.arr 10 9, 10, 160, .vec (.str) 10 (Sch.zero (.arr 10 (.str))), some (.arr 10 (.str)), true, false, none⟩),
  (42, ⟨.slice 52, 1, 24, .nils, some (.sl (.sl (.arr 128 (.int .u64)))), false, false, some (29, .arr 128 (.int .u64))⟩),
  (197, ⟨.arr 4 27, 4, 32, .vec (.int .u64) 4 (Sch.zero (.arr 4 (.int .u64))), some (.arr 4 (.int .u64)), true, false, none⟩),
  (93, ⟨.slice 3, 1, 24, .nils, some (.sl (.int .i64)), false, false, none⟩)]
theorem tyok : TyOk Try.prog TT := TyOk.of (by kernel_rfl)
theorem mixed : Try.prog.follows .mixedOrders = true := by kernel_rfl
def QQ : FuncId → Bool := fun f => memN [9, 28, 29, 30, 34, 36, 37, 38, 40, 42, 46, 47, 48, 54, 55, 60, 63, 64, 66, 67, 68, 69, 70, 71, 72, 73, 74, 75, 76, 77, 78, 88, 89, 90, 91, 92, 93, 94, 95, 97, 99, 103, 104, 105, 106, 107, 108, 109, 113, 114, 115, 116, 117, 118, 119, 120, 121, 122] f
def LN : FuncId → Bool := fun f => memN [48, 60, 83, 99] f
def AA : FuncId → Bool := fun f => memN [33] f
def WW : Qs := fun f => (QQ f || LN f || AA f, QQ f || LN f)
abbrev Y0 : Type := Int × (Int × (Int × (Int × (Int × (Int × (Int × (Int × Unit)))))))
abbrev Y1 : Type := (Unit × (Y0 × Unit)) × (Unit × (Unit × (Bool × Unit))) × (Int × (Int × (Int × (Int × Unit)))) × (List (Nat → Int)) × Unit
abbrev Y2 : Type := (Nat → Int) × (Nat → Int) × Unit
abbrev Y3 : Type := (Unit × (Y0 × Unit)) × (Unit × (Unit × (Bool × Unit))) × (Int × (Int × (Int × (Int × Unit)))) × (List (Nat → Int)) × (List (List (Nat → Int))) × Unit
abbrev Y4 : Type := Int × (Bool × (Unit × (Int × Unit)))
abbrev Y5 : Type := Int × (Int × (Int × (Int × Unit)))
abbrev Y6 : Type := Unit × ((Nat → Int) × (Int × (Int × Unit)))
abbrev Y7 : Type := (List (List (Nat → Int))) × (List (List (Nat → Int))) × Unit
abbrev Y8 : Type := Y0 × ((Int × (Int × Unit)) × (Int × (Int × ((Nat → Int) × Unit))))
abbrev Y9 : Type := (Unit × Unit × Unit × Int × Int × Unit) × (Y4 × (List ByteArray) × (List Int) × (List (List Int)) × Unit)
abbrev Y10 : Type := (Unit × Unit × Int × Unit × Unit × Int × Unit) × ((Nat → Int) × (Nat → Int) × (Nat → Int) × (Nat → Int) × Unit)
abbrev Y11 : Type := Unit × (Unit × (Bool × Unit))
abbrev Y12 : Type := (Nat → Int) × (Nat → Int) × (Nat → Int) × Unit
abbrev Y13 : Type := Unit × Unit × Int × Int × Unit
abbrev Y14 : Type := (Unit × Unit × (List Int) × Unit × Unit × Int × Unit) × ((Nat → Int) × (Nat → Int) × (Nat → Int) × (Nat → (Nat → Int)) × Unit)
abbrev Y15 : Type := (Unit × Unit × Unit) × Y2
abbrev Y16 : Type := (Unit × (List Int) × Int × Int × Unit) × ((List Int) × Unit)
abbrev Y17 : Type := (Unit × Unit × Bool × Unit × Int × Int × Int × Unit) × ((Nat → Int) × (Nat → Int) × (List Bool) × Unit)
abbrev Y18 : Type := Unit × Unit × Int × Unit
abbrev Y19 : Type := (Unit × Unit × Unit × Int × Int × Unit) × ((Nat → Int) × (Nat → Int) × (List Bool) × Unit)
abbrev Y20 : Type := (Unit × Unit × (List Int) × Unit × Unit × Unit × Int × (Nat → (Nat → Int)) × Int × Unit) × ((Nat → Int) × (Nat → Int) × (Nat → Int) × (Nat → (Nat → Int)) × (Nat → Int) × Unit)
abbrev Y21 : Type := (Unit × Unit × Bool × Unit × Unit × Unit × Int × Int × Int × (Nat → Int) × Int × Unit) × ((Nat → Int) × (Nat → Int) × (Nat → Int) × (Nat → Int) × (List Bool) × Unit)
abbrev Y22 : Type := (Unit × (Y0 × Unit)) × Y11 × Y5 × (List (Nat → Int)) × Y8 × Unit
abbrev Y23 : Type := (List ByteArray) × Unit
abbrev Y24 : Type := (Int × Bool × Int × Unit × Int × Unit) × ((List Int) × Unit)
abbrev Y25 : Type := (Unit × Unit × Bool × Unit × Unit × Int × Int × Int × (Nat → Int) × Int × Unit) × ((Nat → Int) × (Nat → Int) × (Nat → Int) × (List Bool) × Unit)
abbrev Y26 : Type := (Int × ByteArray × Unit × Unit) × ((List ByteArray) × (List Int) × Unit)
abbrev Z0 : Pat := .node (.fcons (.int .i64) (.fcons (.int .i64) (.fcons (.int .i64) (.fcons (.int .i64) (.fcons (.int .i64) (.fcons (.int .i64) (.fcons (.int .i64) (.fcons (.int .i64) (.fnil)))))))))
abbrev Z1 : Pat := .node (.fcons (.int .i64) (.fcons (.int .i64) (.fcons (.int .i64) (.fcons (.int .i64) (.fnil)))))
abbrev Z2 : Pat := .node (.fcons Z0 (.fcons (.node (.fcons (.int .i64) (.fcons (.int .i64) (.fnil)))) (.fcons (.int .i64) (.fcons (.int .i64) (.fcons (.vec (.int .u64) 128) (.fnil))))))
abbrev Z3 : Pat := .node (.fcons (.ptr 2 []) (.fcons (.sl 3) (.fcons (.bool) (.fnil))))
abbrev Z4 : Pat := .node (.fcons (.ptr 1 []) (.fcons Z0 (.fnil)))
abbrev Z5 : Pat := .node (.fcons (.ptr 1 []) (.fcons (.vec (.int .u64) 8) (.fcons (.int .i64) (.fcons (.int .u64) (.fnil)))))
abbrev Z6 : Pat := .node (.fcons (.nilp) (.fcons (.vec (.int .u64) 8) (.fcons (.int .i64) (.fcons (.int .u64) (.fnil)))))
abbrev Z7 : Pat := .node (.fcons (.int .i64) (.fcons (.int .i64) (.fnil)))
abbrev Z8 : Pat := .node (.fcons (.int .i64) (.fcons (.bool) (.fcons (.sl 1) (.fcons (.int .i64) (.fnil)))))
abbrev Z9 : Pat := .node (.fcons (.ptr 1 []) (.fcons (.sl 2) (.fcons (.bool) (.fnil))))
abbrev Z10 : Pat := .node (.fcons (.int .i64) (.fcons (.bool) (.fcons (.sl 2) (.fcons (.int .i64) (.fnil)))))
abbrev Z11 : Pat := .node (.fcons (.int .i64) (.fcons (.bool) (.fcons (.sl 3) (.fcons (.int .i64) (.fnil)))))
abbrev Z12 : Pat := .node (.fcons (.int .i64) (.fcons (.bool) (.fcons (.sl 4) (.fcons (.int .i64) (.fnil)))))
abbrev J0 : List (Option (Pat × Nat)) := [some (Z4, 49), some (Z3, 147), some (Z1, 145), some (.lst (.arr 128 (.int .u64)), 29)]
abbrev J1 : List (Option (Pat × Nat)) := [some (Z4, 49), some (Z3, 147), some (Z1, 145), some (.lst (.arr 128 (.int .u64)), 29), some (Z2, 132)]
abbrev J2 : List (Option (Pat × Nat)) := [some (Z4, 49), some (Z3, 147), some (Z1, 145), some (.lst (.arr 128 (.int .u64)), 29), some (.fam 29 (.arr 128 (.int .u64)), 52)]
abbrev J3 : List (Option (Pat × Nat)) := [some (.vec (.int .u64) 128, 29), some (.vec (.int .u64) 128, 29)]
abbrev J4 : List (Option (Pat × Nat)) := [some (.fam 29 (.arr 128 (.int .u64)), 52), some (.fam 29 (.arr 128 (.int .u64)), 52)]
abbrev J5 : List (Option (Pat × Nat)) := [some (Z9, 147), some (Z1, 145), some (.lst (.arr 128 (.int .u64)), 29)]
abbrev J6 : List (Option (Pat × Nat)) := [some (Z5, 178), some (Z10, 189), some (.lst (.int .u8), 5)]
abbrev J7 : List (Option (Pat × Nat)) := [some (Z5, 178), some (Z12, 189), none, some (.lst (.str), 9), some (.lst (.int .u8), 5)]
abbrev J8 : List (Option (Pat × Nat)) := [some (Z1, 145), some (.node (.fcons (.ptr 0 []) (.fcons (.sl 2) (.fcons (.bool) (.fnil)))), 147), some (.lst (.arr 128 (.int .u64)), 29)]
abbrev J9 : List (Option (Pat × Nat)) := [some (Z9, 147), some (Z1, 145), some (.lst (.arr 128 (.int .u64)), 29), some (.node (.fcons (.ptr 0 []) (.fcons Z0 (.fnil))), 49)]
abbrev J10 : List (Option (Pat × Nat)) := [some (.lst (.int .u8), 5)]
abbrev J11 : List (Option (Pat × Nat)) := [some (Z6, 178), some (.lst (.str), 9)]
abbrev J12 : List (Option (Pat × Nat)) := [some (Z8, 189), some (.lst (.int .u8), 5), some (.lst (.str), 9)]
abbrev J13 : List (Option (Pat × Nat)) := [some (Z11, 189), none, some (.lst (.str), 9), some (.lst (.int .u8), 5), some (.lst (.sl (.int .u8)), 114)]
def ap_63 : List Pat := [.int .i64, .int .i64, .int .i64]
def hp_63 : List (Option (Pat × Nat)) := []
abbrev Tp_63 (R : Type) : Type := (Int × Int × Int × Unit) × (Unit) → (Bool → Option R) → Option R
def Q_63 {R : Type} (x : (Int × Int × Int × Unit) × (Unit)) (κ0 : Bool → Option R) : Option R :=
let i21 := x.1.1
let i22 := x.1.2.1
let i23 := x.1.2.2.1
bif (decide (i21 ≥ i22)) then (
κ0 ((decide (i21 ≤ i23)))) else (
κ0 false)
def p_63 {R : Type} (N : Nat) (x : (Int × Int × Int × Unit) × (Unit)) (κ0 : Bool → Option R) : Option R := Q_63 x κ0
def EG_63 {R : Type} : Env R := Env.base QQ LN AA
def LG_63 {R : Type} : Loops R := Loops.none
def E_63 {R : Type} (N : Nat) : Env R := EG_63
theorem eok_63 {R : Type} (N : Nat) : EK Try.prog (E_63 (R := R) N) := ek_base _ _ _
def L_63 {R : Type} (N : Nat) : Loops R := LG_63
theorem lok_63 {R : Type} (N : Nat) : LOK 0 TT (E_63 (R := R) N) (drawAny TT WW) (L_63 N) (bodyOf Try.f63) := loops_nil (by kernel_rfl)
theorem grun_63 {R : Type} (x : aden ap_63 × hden hp_63) (k : KF R) : fnrun TT (EG_63) (drawAny TT WW) (LG_63) true Try.f63 (instA ap_63 x.1) (instH hp_63 x.2) k = Q_63 x (fun y => k (Pat.inst (.bool) y) (instH hp_63 x.2)) := by kernel_rfl
theorem run_63 {R : Type} (N : Nat) (x : aden ap_63 × hden hp_63) (k : KF R) : fnrun TT (E_63 (R := R) N) (drawAny TT WW) (L_63 N) true Try.f63 (instA ap_63 x.1) (instH hp_63 x.2) k = p_63 N x (fun y => k (Pat.inst (.bool) y) (instH hp_63 x.2)) := (grun_63 x k).trans (by kernel_rfl)
theorem good_63 {R : Type} (N : Nat) : GD (X := R) Try.prog QQ AA 63 ap_63 hp_63 (fun (x : aden ap_63 × hden hp_63) k => p_63 N x (fun y => k (Pat.inst (.bool) y) (instH hp_63 x.2))) :=
  gd_quiet (E := E_63 N) (p := fun (x : aden ap_63 × hden hp_63) κ => p_63 N x (fun y => κ (Pat.inst (.bool) y))) mixed tyok (eok_63 N) Try.func63 (by kernel_rfl) (by kernel_rfl) (lok_63 N) (fun x k => run_63 N x k)

def ap_88 : List Pat := [.int .i64]
def hp_88 : List (Option (Pat × Nat)) := []
abbrev Tp_88 (R : Type) : Type := (Int × Unit) × (Unit) → (Bool → Option R) → Option R
def Q_88 {R : Type} (x : (Int × Unit) × (Unit)) (κ0 : Bool → Option R) : Option R :=
let i38 := x.1.1
bif (decide (i38 ≥ 0)) then (
κ0 ((decide (i38 ≤ 4611686018427387904)))) else (
κ0 false)
def p_88 {R : Type} (N : Nat) (x : (Int × Unit) × (Unit)) (κ0 : Bool → Option R) : Option R := Q_88 x κ0
def EG_88 {R : Type} : Env R := Env.base QQ LN AA
def LG_88 {R : Type} : Loops R := Loops.none
def E_88 {R : Type} (N : Nat) : Env R := EG_88
theorem eok_88 {R : Type} (N : Nat) : EK Try.prog (E_88 (R := R) N) := ek_base _ _ _
def L_88 {R : Type} (N : Nat) : Loops R := LG_88
theorem lok_88 {R : Type} (N : Nat) : LOK 0 TT (E_88 (R := R) N) (drawAny TT WW) (L_88 N) (bodyOf Try.f88) := loops_nil (by kernel_rfl)
theorem grun_88 {R : Type} (x : aden ap_88 × hden hp_88) (k : KF R) : fnrun TT (EG_88) (drawAny TT WW) (LG_88) true Try.f88 (instA ap_88 x.1) (instH hp_88 x.2) k = Q_88 x (fun y => k (Pat.inst (.bool) y) (instH hp_88 x.2)) := by kernel_rfl
theorem run_88 {R : Type} (N : Nat) (x : aden ap_88 × hden hp_88) (k : KF R) : fnrun TT (E_88 (R := R) N) (drawAny TT WW) (L_88 N) true Try.f88 (instA ap_88 x.1) (instH hp_88 x.2) k = p_88 N x (fun y => k (Pat.inst (.bool) y) (instH hp_88 x.2)) := (grun_88 x k).trans (by kernel_rfl)
theorem good_88 {R : Type} (N : Nat) : GD (X := R) Try.prog QQ AA 88 ap_88 hp_88 (fun (x : aden ap_88 × hden hp_88) k => p_88 N x (fun y => k (Pat.inst (.bool) y) (instH hp_88 x.2))) :=
  gd_quiet (E := E_88 N) (p := fun (x : aden ap_88 × hden hp_88) κ => p_88 N x (fun y => κ (Pat.inst (.bool) y))) mixed tyok (eok_88 N) Try.func88 (by kernel_rfl) (by kernel_rfl) (lok_88 N) (fun x k => run_88 N x k)

def ap_76 : List Pat := [.int .i64, .int .i64]
def hp_76 : List (Option (Pat × Nat)) := []
abbrev Tp_76 (R : Type) : Type := (Int × Int × Unit) × (Unit) → ((Int × (Int × Unit)) → Option R) → Option R
def Q_76 {R : Type} (q_88 : Tp_88 R) (x : (Int × Int × Unit) × (Unit)) (κ0 : (Int × (Int × Unit)) → Option R) : Option R :=
let i36 := x.1.1
let i37 := x.1.2.1
q_88 ((i36, ()), ()) (fun y39 =>
let b40 : Bool := y39
bif (!b40) then (
κ0 ((0, (1, ())))) else (
bif (decide (i37 < 1)) then (
κ0 ((0, (1, ())))) else (
bif decide (i37 = 0) then none else (
let i41 : Int := remA .i64 i36 i37
let i42 : Int := subA .i64 i36 i41
κ0 ((i42, (0, ())))))))
def p_76 {R : Type} (N : Nat) (x : (Int × Int × Unit) × (Unit)) (κ0 : (Int × (Int × Unit)) → Option R) : Option R := Q_76 (p_88 N) x κ0
def EG_76 {R : Type} (q_88 : Tp_88 R) : Env R := (Env.base QQ LN AA).add 88 ap_88 hp_88 (fun (x : aden ap_88 × hden hp_88) k => q_88 x (fun y => k (Pat.inst (.bool) y) (instH hp_88 x.2)))
def LG_76 {R : Type} : Loops R := Loops.none
def E_76 {R : Type} (N : Nat) : Env R := EG_76 (p_88 N)
theorem eok_76 {R : Type} (N : Nat) : EK Try.prog (E_76 (R := R) N) := ek_add (ek_base _ _ _) (good_88 N)
def L_76 {R : Type} (N : Nat) : Loops R := LG_76
theorem lok_76 {R : Type} (N : Nat) : LOK 0 TT (E_76 (R := R) N) (drawAny TT WW) (L_76 N) (bodyOf Try.f76) := loops_nil (by kernel_rfl)
theorem grun_76 {R : Type} (q_88 : Tp_88 R) (x : aden ap_76 × hden hp_76) (k : KF R) : fnrun TT (EG_76 q_88) (drawAny TT WW) (LG_76) true Try.f76 (instA ap_76 x.1) (instH hp_76 x.2) k = Q_76 q_88 x (fun y => k (Pat.inst (.tup (.fcons (.int .i64) (.fcons (.int .i64) (.fnil)))) y) (instH hp_76 x.2)) := by kernel_rfl
theorem run_76 {R : Type} (N : Nat) (x : aden ap_76 × hden hp_76) (k : KF R) : fnrun TT (E_76 (R := R) N) (drawAny TT WW) (L_76 N) true Try.f76 (instA ap_76 x.1) (instH hp_76 x.2) k = p_76 N x (fun y => k (Pat.inst (.tup (.fcons (.int .i64) (.fcons (.int .i64) (.fnil)))) y) (instH hp_76 x.2)) := (grun_76 (p_88 N) x k).trans (by kernel_rfl)
theorem good_76 {R : Type} (N : Nat) : GD (X := R) Try.prog QQ AA 76 ap_76 hp_76 (fun (x : aden ap_76 × hden hp_76) k => p_76 N x (fun y => k (Pat.inst (.tup (.fcons (.int .i64) (.fcons (.int .i64) (.fnil)))) y) (instH hp_76 x.2))) :=
  gd_quiet (E := E_76 N) (p := fun (x : aden ap_76 × hden hp_76) κ => p_76 N x (fun y => κ (Pat.inst (.tup (.fcons (.int .i64) (.fcons (.int .i64) (.fnil)))) y))) mixed tyok (eok_76 N) Try.func76 (by kernel_rfl) (by kernel_rfl) (lok_76 N) (fun x k => run_76 N x k)

def ap_42 : List Pat := [.node (.fcons (.int .i64) (.fcons (.int .i64) (.fcons (.int .i64) (.fcons (.int .i64) (.fcons (.int .i64) (.fnil))))))]
def hp_42 : List (Option (Pat × Nat)) := []
abbrev Tp_42 (R : Type) : Type := ((Int × Y5) × Unit) × (Unit) → ((Y0 × (Int × Unit)) → Option R) → Option R
def Q_42 {R : Type} (q_63 : Tp_63 R) (q_76 : Tp_76 R) (x : ((Int × Y5) × Unit) × (Unit)) (κ0 : (Y0 × (Int × Unit)) → Option R) : Option R :=
let i16 := x.1.1.1
let i17 := x.1.1.2.1
let i18 := x.1.1.2.2.1
let i19 := x.1.1.2.2.2.1
let i20 := x.1.1.2.2.2.2.1
q_63 ((i16, 1, 3, ()), ()) (fun y24 =>
let b25 : Bool := y24
bif b25 then (
q_63 ((i17, 1, 4294967295, ()), ()) (fun y26 =>
let b27 : Bool := y26
bif b27 then (
q_63 ((i19, 1, 16777215, ()), ()) (fun y28 =>
let b29 : Bool := y28
bif b29 then (
q_63 ((i18, 1, 4294967295, ()), ()) (fun y30 =>
let b31 : Bool := y30
bif b31 then (
let i32 : Int := quoA .i64 i18 8
bif (decide (i32 ≥ i19)) then (
q_63 ((i20, 4, 1024, ()), ()) (fun y33 =>
let b34 : Bool := y33
bif (!b34) then (
κ0 (((0, (0, (0, (0, (0, (0, (0, (0, ())))))))), (2, ())))) else (
let i35 : Int := mulA .i64 4 i19
q_76 ((i18, i35, ()), ()) (fun y43 =>
let i44 := y43.1
bif decide (i19 = 0) then none else (
let i46 : Int := quoA .i64 i44 i19
let i47 : Int := quoA .i64 i46 4
κ0 (((i16, (i17, (i19, (i18, (i44, (i46, (i47, (i20, ())))))))), (0, ())))))))) else (
κ0 (((0, (0, (0, (0, (0, (0, (0, (0, ())))))))), (2, ()))))) else (
κ0 (((0, (0, (0, (0, (0, (0, (0, (0, ())))))))), (2, ())))))) else (
κ0 (((0, (0, (0, (0, (0, (0, (0, (0, ())))))))), (2, ())))))) else (
κ0 (((0, (0, (0, (0, (0, (0, (0, (0, ())))))))), (2, ())))))) else (
κ0 (((0, (0, (0, (0, (0, (0, (0, (0, ())))))))), (2, ())))))
def p_42 {R : Type} (N : Nat) (x : ((Int × Y5) × Unit) × (Unit)) (κ0 : (Y0 × (Int × Unit)) → Option R) : Option R := Q_42 (p_63 N) (p_76 N) x κ0
def EG_42 {R : Type} (q_63 : Tp_63 R) (q_76 : Tp_76 R) : Env R := ((Env.base QQ LN AA).add 63 ap_63 hp_63 (fun (x : aden ap_63 × hden hp_63) k => q_63 x (fun y => k (Pat.inst (.bool) y) (instH hp_63 x.2)))).add 76 ap_76 hp_76 (fun (x : aden ap_76 × hden hp_76) k => q_76 x (fun y => k (Pat.inst (.tup (.fcons (.int .i64) (.fcons (.int .i64) (.fnil)))) y) (instH hp_76 x.2)))
def LG_42 {R : Type} : Loops R := Loops.none
def E_42 {R : Type} (N : Nat) : Env R := EG_42 (p_63 N) (p_76 N)
theorem eok_42 {R : Type} (N : Nat) : EK Try.prog (E_42 (R := R) N) := ek_add (ek_add (ek_base _ _ _) (good_63 N)) (good_76 N)
def L_42 {R : Type} (N : Nat) : Loops R := LG_42
theorem lok_42 {R : Type} (N : Nat) : LOK 0 TT (E_42 (R := R) N) (drawAny TT WW) (L_42 N) (bodyOf Try.f42) := loops_nil (by kernel_rfl)
theorem grun_42 {R : Type} (q_63 : Tp_63 R) (q_76 : Tp_76 R) (x : aden ap_42 × hden hp_42) (k : KF R) : fnrun TT (EG_42 q_63 q_76) (drawAny TT WW) (LG_42) true Try.f42 (instA ap_42 x.1) (instH hp_42 x.2) k = Q_42 q_63 q_76 x (fun y => k (Pat.inst (.tup (.fcons Z0 (.fcons (.int .i64) (.fnil)))) y) (instH hp_42 x.2)) := by kernel_rfl
theorem run_42 {R : Type} (N : Nat) (x : aden ap_42 × hden hp_42) (k : KF R) : fnrun TT (E_42 (R := R) N) (drawAny TT WW) (L_42 N) true Try.f42 (instA ap_42 x.1) (instH hp_42 x.2) k = p_42 N x (fun y => k (Pat.inst (.tup (.fcons Z0 (.fcons (.int .i64) (.fnil)))) y) (instH hp_42 x.2)) := (grun_42 (p_63 N) (p_76 N) x k).trans (by kernel_rfl)
theorem good_42 {R : Type} (N : Nat) : GD (X := R) Try.prog QQ AA 42 ap_42 hp_42 (fun (x : aden ap_42 × hden hp_42) k => p_42 N x (fun y => k (Pat.inst (.tup (.fcons Z0 (.fcons (.int .i64) (.fnil)))) y) (instH hp_42 x.2))) :=
  gd_quiet (E := E_42 N) (p := fun (x : aden ap_42 × hden hp_42) κ => p_42 N x (fun y => κ (Pat.inst (.tup (.fcons Z0 (.fcons (.int .i64) (.fnil)))) y))) mixed tyok (eok_42 N) Try.func42 (by kernel_rfl) (by kernel_rfl) (lok_42 N) (fun x k => run_42 N x k)

def ap_55 : List Pat := [.node (.fcons (.int .i64) (.fcons (.int .i64) (.fcons (.int .i64) (.fcons (.int .i64) (.fcons (.int .i64) (.fcons (.int .i64) (.fcons (.int .i64) (.fcons (.int .i64) (.fnil)))))))))]
def hp_55 : List (Option (Pat × Nat)) := []
abbrev Tp_55 (R : Type) : Type := (Y0 × Unit) × (Unit) → (Bool → Option R) → Option R
def Q_55 {R : Type} (x : (Y0 × Unit) × (Unit)) (κ0 : Bool → Option R) : Option R :=
let i59 := x.1.1.2.1
let i60 := x.1.1.2.2.1
let i62 := x.1.1.2.2.2.2.1
bif (decide (i59 ≤ 3)) then (
bif (decide (i60 ≤ 4)) then (
κ0 ((decide (i62 ≤ 80)))) else (
κ0 false)) else (
κ0 false)
def p_55 {R : Type} (N : Nat) (x : (Y0 × Unit) × (Unit)) (κ0 : Bool → Option R) : Option R := Q_55 x κ0
def EG_55 {R : Type} : Env R := Env.base QQ LN AA
def LG_55 {R : Type} : Loops R := Loops.none
def E_55 {R : Type} (N : Nat) : Env R := EG_55
theorem eok_55 {R : Type} (N : Nat) : EK Try.prog (E_55 (R := R) N) := ek_base _ _ _
def L_55 {R : Type} (N : Nat) : Loops R := LG_55
theorem lok_55 {R : Type} (N : Nat) : LOK 0 TT (E_55 (R := R) N) (drawAny TT WW) (L_55 N) (bodyOf Try.f55) := loops_nil (by kernel_rfl)
theorem grun_55 {R : Type} (x : aden ap_55 × hden hp_55) (k : KF R) : fnrun TT (EG_55) (drawAny TT WW) (LG_55) true Try.f55 (instA ap_55 x.1) (instH hp_55 x.2) k = Q_55 x (fun y => k (Pat.inst (.bool) y) (instH hp_55 x.2)) := by kernel_rfl
theorem run_55 {R : Type} (N : Nat) (x : aden ap_55 × hden hp_55) (k : KF R) : fnrun TT (E_55 (R := R) N) (drawAny TT WW) (L_55 N) true Try.f55 (instA ap_55 x.1) (instH hp_55 x.2) k = p_55 N x (fun y => k (Pat.inst (.bool) y) (instH hp_55 x.2)) := (grun_55 x k).trans (by kernel_rfl)
theorem good_55 {R : Type} (N : Nat) : GD (X := R) Try.prog QQ AA 55 ap_55 hp_55 (fun (x : aden ap_55 × hden hp_55) k => p_55 N x (fun y => k (Pat.inst (.bool) y) (instH hp_55 x.2))) :=
  gd_quiet (E := E_55 N) (p := fun (x : aden ap_55 × hden hp_55) κ => p_55 N x (fun y => κ (Pat.inst (.bool) y))) mixed tyok (eok_55 N) Try.func55 (by kernel_rfl) (by kernel_rfl) (lok_55 N) (fun x k => run_55 N x k)

def ap_43 : List Pat := [.int .i64]
def hp_43 : List (Option (Pat × Nat)) := []
abbrev Tp_43 (R : Type) : Type := (Int × Unit) × (Unit) → (((Unit × (Int × Unit)) × (Unit)) → Option R) → (((Unit × (Int × Unit)) × (Y5 × Unit)) → Option R) → Option R
def Q_43 {R : Type} (x : (Int × Unit) × (Unit)) (κ0 : ((Unit × (Int × Unit)) × (Unit)) → Option R) (κ1 : ((Unit × (Int × Unit)) × (Y5 × Unit)) → Option R) : Option R :=
let i68 := x.1.1
bif (decide (i68 < 0)) then (
κ0 (((), (1, ())), ())) else (
bif (decide (i68 > 4194304)) then (
κ0 (((), (1, ())), ())) else (
κ1 (((), (0, ())), ((i68, (0, (0, (0, ())))), ()))))
def p_43 {R : Type} (N : Nat) (x : (Int × Unit) × (Unit)) (κ0 : ((Unit × (Int × Unit)) × (Unit)) → Option R) (κ1 : ((Unit × (Int × Unit)) × (Y5 × Unit)) → Option R) : Option R := Q_43 x κ0 κ1
def EG_43 {R : Type} : Env R := Env.base QQ LN AA
def LG_43 {R : Type} : Loops R := Loops.none
def E_43 {R : Type} (N : Nat) : Env R := EG_43
theorem eok_43 {R : Type} (N : Nat) : EK Try.prog (E_43 (R := R) N) := ek_base _ _ _
def L_43 {R : Type} (N : Nat) : Loops R := LG_43
theorem lok_43 {R : Type} (N : Nat) : LOK 0 TT (E_43 (R := R) N) (drawAny TT WW) (L_43 N) (bodyOf Try.f43) := loops_nil (by kernel_rfl)
theorem grun_43 {R : Type} (x : aden ap_43 × hden hp_43) (k : KF R) : fnrun TT (EG_43) (drawAny TT WW) (LG_43) true Try.f43 (instA ap_43 x.1) (instH hp_43 x.2) k = Q_43 x (fun y => k (Pat.inst (.tup (.fcons (.nilp) (.fcons (.int .i64) (.fnil)))) y.1) (instH [] y.2)) (fun y => k (Pat.inst (.tup (.fcons (.ptr 0 []) (.fcons (.int .i64) (.fnil)))) y.1) (instH [some (Z1, 145)] y.2)) := by kernel_rfl
theorem run_43 {R : Type} (N : Nat) (x : aden ap_43 × hden hp_43) (k : KF R) : fnrun TT (E_43 (R := R) N) (drawAny TT WW) (L_43 N) true Try.f43 (instA ap_43 x.1) (instH hp_43 x.2) k = p_43 N x (fun y => k (Pat.inst (.tup (.fcons (.nilp) (.fcons (.int .i64) (.fnil)))) y.1) (instH [] y.2)) (fun y => k (Pat.inst (.tup (.fcons (.ptr 0 []) (.fcons (.int .i64) (.fnil)))) y.1) (instH [some (Z1, 145)] y.2)) := (grun_43 x k).trans (by kernel_rfl)
theorem good_43 {R : Type} (N : Nat) : GD (X := R) Try.prog QQ AA 43 ap_43 hp_43 (fun (x : aden ap_43 × hden hp_43) k => p_43 N x (fun y => k (Pat.inst (.tup (.fcons (.nilp) (.fcons (.int .i64) (.fnil)))) y.1) (instH [] y.2)) (fun y => k (Pat.inst (.tup (.fcons (.ptr 0 []) (.fcons (.int .i64) (.fnil)))) y.1) (instH [some (Z1, 145)] y.2))) :=
  gd_loud (E := E_43 N) (p := fun (x : aden ap_43 × hden hp_43) k => p_43 N x (fun y => k (Pat.inst (.tup (.fcons (.nilp) (.fcons (.int .i64) (.fnil)))) y.1) (instH [] y.2)) (fun y => k (Pat.inst (.tup (.fcons (.ptr 0 []) (.fcons (.int .i64) (.fnil)))) y.1) (instH [some (Z1, 145)] y.2))) mixed tyok (eok_43 N) Try.func43 (by kernel_rfl) (by kernel_rfl) (by kernel_rfl) (by kernel_rfl) (lok_43 N) (fun x k => run_43 N x k)

def ap_44 : List Pat := [.nilp, .int .i64]
def hp_44 : List (Option (Pat × Nat)) := []
abbrev Tp_44 (R : Type) : Type := (Unit × Int × Unit) × (Unit) → (((Unit × (Int × Unit)) × (Unit)) → Option R) → Option R
def Q_44 {R : Type} (x : (Unit × Int × Unit) × (Unit)) (κ0 : ((Unit × (Int × Unit)) × (Unit)) → Option R) : Option R :=
κ0 (((), (11, ())), ())
def p_44 {R : Type} (N : Nat) (x : (Unit × Int × Unit) × (Unit)) (κ0 : ((Unit × (Int × Unit)) × (Unit)) → Option R) : Option R := Q_44 x κ0
def EG_44 {R : Type} : Env R := Env.base QQ LN AA
def LG_44 {R : Type} : Loops R := Loops.none
def E_44 {R : Type} (N : Nat) : Env R := EG_44
theorem eok_44 {R : Type} (N : Nat) : EK Try.prog (E_44 (R := R) N) := ek_base _ _ _
def L_44 {R : Type} (N : Nat) : Loops R := LG_44
theorem lok_44 {R : Type} (N : Nat) : LOK 0 TT (E_44 (R := R) N) (drawAny TT WW) (L_44 N) (bodyOf Try.f44) := loops_nil (by kernel_rfl)
theorem grun_44 {R : Type} (x : aden ap_44 × hden hp_44) (k : KF R) : fnrun TT (EG_44) (drawAny TT WW) (LG_44) true Try.f44 (instA ap_44 x.1) (instH hp_44 x.2) k = Q_44 x (fun y => k (Pat.inst (.tup (.fcons (.nilp) (.fcons (.int .i64) (.fnil)))) y.1) (instH [] y.2)) := by kernel_rfl
theorem run_44 {R : Type} (N : Nat) (x : aden ap_44 × hden hp_44) (k : KF R) : fnrun TT (E_44 (R := R) N) (drawAny TT WW) (L_44 N) true Try.f44 (instA ap_44 x.1) (instH hp_44 x.2) k = p_44 N x (fun y => k (Pat.inst (.tup (.fcons (.nilp) (.fcons (.int .i64) (.fnil)))) y.1) (instH [] y.2)) := (grun_44 x k).trans (by kernel_rfl)
theorem good_44 {R : Type} (N : Nat) : GD (X := R) Try.prog QQ AA 44 ap_44 hp_44 (fun (x : aden ap_44 × hden hp_44) k => p_44 N x (fun y => k (Pat.inst (.tup (.fcons (.nilp) (.fcons (.int .i64) (.fnil)))) y.1) (instH [] y.2))) :=
  gd_loud (E := E_44 N) (p := fun (x : aden ap_44 × hden hp_44) k => p_44 N x (fun y => k (Pat.inst (.tup (.fcons (.nilp) (.fcons (.int .i64) (.fnil)))) y.1) (instH [] y.2))) mixed tyok (eok_44 N) Try.func44 (by kernel_rfl) (by kernel_rfl) (by kernel_rfl) (by kernel_rfl) (lok_44 N) (fun x k => run_44 N x k)

def ap_45 : List Pat := [.nilp, .node (.fcons (.int .i64) (.fcons (.int .i64) (.fcons (.int .i64) (.fcons (.int .i64) (.fcons (.int .i64) (.fcons (.int .i64) (.fcons (.int .i64) (.fcons (.int .i64) (.fnil)))))))))]
def hp_45 : List (Option (Pat × Nat)) := []
abbrev Tp_45 (R : Type) : Type := (Unit × Y0 × Unit) × (Unit) → (((Unit × (Int × Unit)) × (Unit)) → Option R) → Option R
def Q_45 {R : Type} (x : (Unit × Y0 × Unit) × (Unit)) (κ0 : ((Unit × (Int × Unit)) × (Unit)) → Option R) : Option R :=
κ0 (((), (11, ())), ())
def p_45 {R : Type} (N : Nat) (x : (Unit × Y0 × Unit) × (Unit)) (κ0 : ((Unit × (Int × Unit)) × (Unit)) → Option R) : Option R := Q_45 x κ0
def EG_45 {R : Type} : Env R := Env.base QQ LN AA
def LG_45 {R : Type} : Loops R := Loops.none
def E_45 {R : Type} (N : Nat) : Env R := EG_45
theorem eok_45 {R : Type} (N : Nat) : EK Try.prog (E_45 (R := R) N) := ek_base _ _ _
def L_45 {R : Type} (N : Nat) : Loops R := LG_45
theorem lok_45 {R : Type} (N : Nat) : LOK 0 TT (E_45 (R := R) N) (drawAny TT WW) (L_45 N) (bodyOf Try.f45) := loops_nil (by kernel_rfl)
theorem grun_45 {R : Type} (x : aden ap_45 × hden hp_45) (k : KF R) : fnrun TT (EG_45) (drawAny TT WW) (LG_45) true Try.f45 (instA ap_45 x.1) (instH hp_45 x.2) k = Q_45 x (fun y => k (Pat.inst (.tup (.fcons (.nilp) (.fcons (.int .i64) (.fnil)))) y.1) (instH [] y.2)) := by kernel_rfl
theorem run_45 {R : Type} (N : Nat) (x : aden ap_45 × hden hp_45) (k : KF R) : fnrun TT (E_45 (R := R) N) (drawAny TT WW) (L_45 N) true Try.f45 (instA ap_45 x.1) (instH hp_45 x.2) k = p_45 N x (fun y => k (Pat.inst (.tup (.fcons (.nilp) (.fcons (.int .i64) (.fnil)))) y.1) (instH [] y.2)) := (grun_45 x k).trans (by kernel_rfl)
theorem good_45 {R : Type} (N : Nat) : GD (X := R) Try.prog QQ AA 45 ap_45 hp_45 (fun (x : aden ap_45 × hden hp_45) k => p_45 N x (fun y => k (Pat.inst (.tup (.fcons (.nilp) (.fcons (.int .i64) (.fnil)))) y.1) (instH [] y.2))) :=
  gd_loud (E := E_45 N) (p := fun (x : aden ap_45 × hden hp_45) k => p_45 N x (fun y => k (Pat.inst (.tup (.fcons (.nilp) (.fcons (.int .i64) (.fnil)))) y.1) (instH [] y.2))) mixed tyok (eok_45 N) Try.func45 (by kernel_rfl) (by kernel_rfl) (by kernel_rfl) (by kernel_rfl) (lok_45 N) (fun x k => run_45 N x k)

def ap_44_v1 : List Pat := [.ptr 0 [], .int .i64]
def hp_44_v1 : List (Option (Pat × Nat)) := [some (Z1, 145)]
abbrev Tp_44_v1 (R : Type) : Type := (Unit × Int × Unit) × (Y5 × Unit) → (((Unit × (Int × Unit)) × (Y5 × Unit)) → Option R) → (((Unit × (Int × Unit)) × (Y5 × Y11 × (List (Nat → Int)) × Unit)) → Option R) → Option R
def Q_44_v1 {R : Type} (x : (Unit × Int × Unit) × (Y5 × Unit)) (κ0 : ((Unit × (Int × Unit)) × (Y5 × Unit)) → Option R) (κ1 : ((Unit × (Int × Unit)) × (Y5 × Y11 × (List (Nat → Int)) × Unit)) → Option R) : Option R :=
let i90 := x.1.2.1
let i91 := x.2.1.1
let i92 := x.2.1.2.1
let i93 := x.2.1.2.2.1
let i94 := x.2.1.2.2.2.1
bif (decide (i90 < 0)) then (
κ0 (((), (1, ())), x.2)) else (
let i95 : Int := subA .i64 i91 i92
bif (decide (i90 > i95)) then (
κ0 (((), (4, ())), x.2)) else (
let i96 : Int := addA .i64 i92 i90
let i97 : Int := maxA i93 i96
let i98 : Int := addA .i64 i94 1
bif decide (0 ≤ i90) then (
bif decide (i90 ≤ i90) then (
bif decide (((1024 : Nat) : Int) * i90 ≤ 281474976710656) then (
bif decide (i90 ≤ 9223372036854775807) then (
let l99 : (List (Nat → Int)) := List.replicate ((Int.toNat i90)) (Sch.zero (.arr 128 (.int .u64)))
κ1 (((), (0, ())), ((i91, (i96, (i97, (i98, ())))), ((), ((), (true, ()))), l99, ()))) else none) else none) else none) else none))
def p_44_v1 {R : Type} (N : Nat) (x : (Unit × Int × Unit) × (Y5 × Unit)) (κ0 : ((Unit × (Int × Unit)) × (Y5 × Unit)) → Option R) (κ1 : ((Unit × (Int × Unit)) × (Y5 × Y11 × (List (Nat → Int)) × Unit)) → Option R) : Option R := Q_44_v1 x κ0 κ1
def EG_44_v1 {R : Type} : Env R := Env.base QQ LN AA
def LG_44_v1 {R : Type} : Loops R := Loops.none
def E_44_v1 {R : Type} (N : Nat) : Env R := EG_44_v1
theorem eok_44_v1 {R : Type} (N : Nat) : EK Try.prog (E_44_v1 (R := R) N) := ek_base _ _ _
def L_44_v1 {R : Type} (N : Nat) : Loops R := LG_44_v1
theorem lok_44_v1 {R : Type} (N : Nat) : LOK 1 TT (E_44_v1 (R := R) N) (drawAny TT WW) (L_44_v1 N) (bodyOf Try.f44) := loops_nil (by kernel_rfl)
theorem grun_44_v1 {R : Type} (x : aden ap_44_v1 × hden hp_44_v1) (k : KF R) : fnrun TT (EG_44_v1) (drawAny TT WW) (LG_44_v1) true Try.f44 (instA ap_44_v1 x.1) (instH hp_44_v1 x.2) k = Q_44_v1 x (fun y => k (Pat.inst (.tup (.fcons (.nilp) (.fcons (.int .i64) (.fnil)))) y.1) (instH [some (Z1, 145)] y.2)) (fun y => k (Pat.inst (.tup (.fcons (.ptr 1 []) (.fcons (.int .i64) (.fnil)))) y.1) (instH J8 y.2)) := by kernel_rfl
theorem run_44_v1 {R : Type} (N : Nat) (x : aden ap_44_v1 × hden hp_44_v1) (k : KF R) : fnrun TT (E_44_v1 (R := R) N) (drawAny TT WW) (L_44_v1 N) true Try.f44 (instA ap_44_v1 x.1) (instH hp_44_v1 x.2) k = p_44_v1 N x (fun y => k (Pat.inst (.tup (.fcons (.nilp) (.fcons (.int .i64) (.fnil)))) y.1) (instH [some (Z1, 145)] y.2)) (fun y => k (Pat.inst (.tup (.fcons (.ptr 1 []) (.fcons (.int .i64) (.fnil)))) y.1) (instH J8 y.2)) := (grun_44_v1 x k).trans (by kernel_rfl)
theorem good_44_v1 {R : Type} (N : Nat) : GD (X := R) Try.prog QQ AA 44 ap_44_v1 hp_44_v1 (fun (x : aden ap_44_v1 × hden hp_44_v1) k => p_44_v1 N x (fun y => k (Pat.inst (.tup (.fcons (.nilp) (.fcons (.int .i64) (.fnil)))) y.1) (instH [some (Z1, 145)] y.2)) (fun y => k (Pat.inst (.tup (.fcons (.ptr 1 []) (.fcons (.int .i64) (.fnil)))) y.1) (instH J8 y.2))) :=
  gd_loud (E := E_44_v1 N) (p := fun (x : aden ap_44_v1 × hden hp_44_v1) k => p_44_v1 N x (fun y => k (Pat.inst (.tup (.fcons (.nilp) (.fcons (.int .i64) (.fnil)))) y.1) (instH [some (Z1, 145)] y.2)) (fun y => k (Pat.inst (.tup (.fcons (.ptr 1 []) (.fcons (.int .i64) (.fnil)))) y.1) (instH J8 y.2))) mixed tyok (eok_44_v1 N) Try.func44 (by kernel_rfl) (by kernel_rfl) (by kernel_rfl) (by kernel_rfl) (lok_44_v1 N) (fun x k => run_44_v1 N x k)

def ap_77 : List Pat := [.ptr 0 []]
def hp_77 : List (Option (Pat × Nat)) := J5
abbrev Tp_77 (R : Type) : Type := (Unit × Unit) × (Y11 × Y5 × (List (Nat → Int)) × Unit) → (Int → Option R) → Option R
def Q_77 {R : Type} (x : (Unit × Unit) × (Y11 × Y5 × (List (Nat → Int)) × Unit)) (κ0 : Int → Option R) : Option R :=
let l135 := x.2.2.2.1
let i136 : Int := (((List.length l135) : Nat) : Int)
κ0 i136
def p_77 {R : Type} (N : Nat) (x : (Unit × Unit) × (Y11 × Y5 × (List (Nat → Int)) × Unit)) (κ0 : Int → Option R) : Option R := Q_77 x κ0
def EG_77 {R : Type} : Env R := Env.base QQ LN AA
def LG_77 {R : Type} : Loops R := Loops.none
def E_77 {R : Type} (N : Nat) : Env R := EG_77
theorem eok_77 {R : Type} (N : Nat) : EK Try.prog (E_77 (R := R) N) := ek_base _ _ _
def L_77 {R : Type} (N : Nat) : Loops R := LG_77
theorem lok_77 {R : Type} (N : Nat) : LOK 3 TT (E_77 (R := R) N) (drawAny TT WW) (L_77 N) (bodyOf Try.f77) := loops_nil (by kernel_rfl)
theorem grun_77 {R : Type} (x : aden ap_77 × hden hp_77) (k : KF R) : fnrun TT (EG_77) (drawAny TT WW) (LG_77) true Try.f77 (instA ap_77 x.1) (instH hp_77 x.2) k = Q_77 x (fun y => k (Pat.inst (.int .i64) y) (instH hp_77 x.2)) := by kernel_rfl
theorem run_77 {R : Type} (N : Nat) (x : aden ap_77 × hden hp_77) (k : KF R) : fnrun TT (E_77 (R := R) N) (drawAny TT WW) (L_77 N) true Try.f77 (instA ap_77 x.1) (instH hp_77 x.2) k = p_77 N x (fun y => k (Pat.inst (.int .i64) y) (instH hp_77 x.2)) := (grun_77 x k).trans (by kernel_rfl)
theorem good_77 {R : Type} (N : Nat) : GD (X := R) Try.prog QQ AA 77 ap_77 hp_77 (fun (x : aden ap_77 × hden hp_77) k => p_77 N x (fun y => k (Pat.inst (.int .i64) y) (instH hp_77 x.2))) :=
  gd_quiet (E := E_77 N) (p := fun (x : aden ap_77 × hden hp_77) κ => p_77 N x (fun y => κ (Pat.inst (.int .i64) y))) mixed tyok (eok_77 N) Try.func77 (by kernel_rfl) (by kernel_rfl) (lok_77 N) (fun x k => run_77 N x k)

def ap_45_v1 : List Pat := [.ptr 0 [], .node (.fcons (.int .i64) (.fcons (.int .i64) (.fcons (.int .i64) (.fcons (.int .i64) (.fcons (.int .i64) (.fcons (.int .i64) (.fcons (.int .i64) (.fcons (.int .i64) (.fnil)))))))))]
def hp_45_v1 : List (Option (Pat × Nat)) := J5
abbrev Tp_45_v1 (R : Type) : Type := (Unit × Y0 × Unit) × (Y11 × Y5 × (List (Nat → Int)) × Unit) → (((Unit × (Int × Unit)) × (Y11 × Y5 × (List (Nat → Int)) × Unit)) → Option R) → (((Unit × (Int × Unit)) × (Y11 × Y5 × (List (Nat → Int)) × (Unit × (Y0 × Unit)) × Unit)) → Option R) → Option R
def Q_45_v1 {R : Type} (q_77 : Tp_77 R) (x : (Unit × Y0 × Unit) × (Y11 × Y5 × (List (Nat → Int)) × Unit)) (κ0 : ((Unit × (Int × Unit)) × (Y11 × Y5 × (List (Nat → Int)) × Unit)) → Option R) (κ1 : ((Unit × (Int × Unit)) × (Y11 × Y5 × (List (Nat → Int)) × (Unit × (Y0 × Unit)) × Unit)) → Option R) : Option R :=
let i118 := x.1.2.1.2.2.1
let i120 := x.1.2.1.2.2.2.2.1
let l129 := x.2.2.2.1
bif (decide (i118 < 1)) then (
κ0 (((), (11, ())), (x.2.1, x.2.2.1, l129, ()))) else (
q_77 (((), ()), (x.2.1, x.2.2.1, l129, ())) (fun y137 =>
let i138 : Int := y137
bif (decide (i138 < i120)) then (
κ0 (((), (9, ())), (x.2.1, x.2.2.1, l129, ()))) else (
κ1 (((), (0, ())), (x.2.1, x.2.2.1, l129, x.1, ())))))
def p_45_v1 {R : Type} (N : Nat) (x : (Unit × Y0 × Unit) × (Y11 × Y5 × (List (Nat → Int)) × Unit)) (κ0 : ((Unit × (Int × Unit)) × (Y11 × Y5 × (List (Nat → Int)) × Unit)) → Option R) (κ1 : ((Unit × (Int × Unit)) × (Y11 × Y5 × (List (Nat → Int)) × (Unit × (Y0 × Unit)) × Unit)) → Option R) : Option R := Q_45_v1 (p_77 N) x κ0 κ1
def EG_45_v1 {R : Type} (q_77 : Tp_77 R) : Env R := (Env.base QQ LN AA).add 77 ap_77 hp_77 (fun (x : aden ap_77 × hden hp_77) k => q_77 x (fun y => k (Pat.inst (.int .i64) y) (instH hp_77 x.2)))
def LG_45_v1 {R : Type} : Loops R := Loops.none
def E_45_v1 {R : Type} (N : Nat) : Env R := EG_45_v1 (p_77 N)
theorem eok_45_v1 {R : Type} (N : Nat) : EK Try.prog (E_45_v1 (R := R) N) := ek_add (ek_base _ _ _) (good_77 N)
def L_45_v1 {R : Type} (N : Nat) : Loops R := LG_45_v1
theorem lok_45_v1 {R : Type} (N : Nat) : LOK 3 TT (E_45_v1 (R := R) N) (drawAny TT WW) (L_45_v1 N) (bodyOf Try.f45) := loops_nil (by kernel_rfl)
theorem grun_45_v1 {R : Type} (q_77 : Tp_77 R) (x : aden ap_45_v1 × hden hp_45_v1) (k : KF R) : fnrun TT (EG_45_v1 q_77) (drawAny TT WW) (LG_45_v1) true Try.f45 (instA ap_45_v1 x.1) (instH hp_45_v1 x.2) k = Q_45_v1 q_77 x (fun y => k (Pat.inst (.tup (.fcons (.nilp) (.fcons (.int .i64) (.fnil)))) y.1) (instH J5 y.2)) (fun y => k (Pat.inst (.tup (.fcons (.ptr 3 []) (.fcons (.int .i64) (.fnil)))) y.1) (instH J9 y.2)) := by kernel_rfl
theorem run_45_v1 {R : Type} (N : Nat) (x : aden ap_45_v1 × hden hp_45_v1) (k : KF R) : fnrun TT (E_45_v1 (R := R) N) (drawAny TT WW) (L_45_v1 N) true Try.f45 (instA ap_45_v1 x.1) (instH hp_45_v1 x.2) k = p_45_v1 N x (fun y => k (Pat.inst (.tup (.fcons (.nilp) (.fcons (.int .i64) (.fnil)))) y.1) (instH J5 y.2)) (fun y => k (Pat.inst (.tup (.fcons (.ptr 3 []) (.fcons (.int .i64) (.fnil)))) y.1) (instH J9 y.2)) := (grun_45_v1 (p_77 N) x k).trans (by kernel_rfl)
theorem good_45_v1 {R : Type} (N : Nat) : GD (X := R) Try.prog QQ AA 45 ap_45_v1 hp_45_v1 (fun (x : aden ap_45_v1 × hden hp_45_v1) k => p_45_v1 N x (fun y => k (Pat.inst (.tup (.fcons (.nilp) (.fcons (.int .i64) (.fnil)))) y.1) (instH J5 y.2)) (fun y => k (Pat.inst (.tup (.fcons (.ptr 3 []) (.fcons (.int .i64) (.fnil)))) y.1) (instH J9 y.2))) :=
  gd_loud (E := E_45_v1 N) (p := fun (x : aden ap_45_v1 × hden hp_45_v1) k => p_45_v1 N x (fun y => k (Pat.inst (.tup (.fcons (.nilp) (.fcons (.int .i64) (.fnil)))) y.1) (instH J5 y.2)) (fun y => k (Pat.inst (.tup (.fcons (.ptr 3 []) (.fcons (.int .i64) (.fnil)))) y.1) (instH J9 y.2))) mixed tyok (eok_45_v1 N) Try.func45 (by kernel_rfl) (by kernel_rfl) (by kernel_rfl) (by kernel_rfl) (lok_45_v1 N) (fun x k => run_45_v1 N x k)

def ap_14 : List Pat := [.node (.fcons (.int .i64) (.fcons (.int .i64) (.fcons (.int .i64) (.fcons (.int .i64) (.fcons (.int .i64) (.fnil))))))]
def hp_14 : List (Option (Pat × Nat)) := []
abbrev Tp_14 (R : Type) : Type := ((Int × Y5) × Unit) × (Unit) → ((Unit × (Unit)) → Option R) → ((Unit × Y1) → Option R) → Option R
def Q_14 {R : Type} (q_42 : Tp_42 R) (q_55 : Tp_55 R) (q_43 : Tp_43 R) (q_44 : Tp_44 R) (q_45 : Tp_45 R) (q_44_v1 : Tp_44_v1 R) (q_45_v1 : Tp_45_v1 R) (x : ((Int × Y5) × Unit) × (Unit)) (κ0 : (Unit × (Unit)) → Option R) (κ1 : (Unit × Y1) → Option R) : Option R :=
q_42 (x.1, ()) (fun y48 =>
let i53 := y48.1.2.2.2.2.1
let i57 := y48.2.1
bif (i57 != 0) then (
κ0 ((), ())) else (
q_55 ((y48.1, ()), ()) (fun y66 =>
let b67 : Bool := y66
bif (!b67) then (
κ0 ((), ())) else (
q_43 ((i53, ()), ()) (fun y69 =>
q_44 (((), i53, ()), ()) (fun y72 =>
q_45 (((), y48.1, ()), ()) (fun y82 =>
κ0 ((), ())))) (fun y84 =>
q_44_v1 (((), i53, ()), y84.2) (fun y100 =>
q_45 (((), y48.1, ()), ()) (fun y106 =>
κ0 ((), ()))) (fun y108 =>
let l115 := y108.2.2.2.1
q_45_v1 (((), y48.1, ()), (y108.2.2.1, y108.2.1, l115, ())) (fun y139 =>
κ0 ((), ())) (fun y147 =>
let l154 := y147.2.2.2.1
κ1 ((), (y147.2.2.2.2.1, y147.2.1, y147.2.2.1, l154, ())))))))))
def p_14 {R : Type} (N : Nat) (x : ((Int × Y5) × Unit) × (Unit)) (κ0 : (Unit × (Unit)) → Option R) (κ1 : (Unit × Y1) → Option R) : Option R := Q_14 (p_42 N) (p_55 N) (p_43 N) (p_44 N) (p_45 N) (p_44_v1 N) (p_45_v1 N) x κ0 κ1
def EG_14 {R : Type} (q_42 : Tp_42 R) (q_55 : Tp_55 R) (q_43 : Tp_43 R) (q_44 : Tp_44 R) (q_45 : Tp_45 R) (q_44_v1 : Tp_44_v1 R) (q_45_v1 : Tp_45_v1 R) : Env R := (((((((Env.base QQ LN AA).add 42 ap_42 hp_42 (fun (x : aden ap_42 × hden hp_42) k => q_42 x (fun y => k (Pat.inst (.tup (.fcons Z0 (.fcons (.int .i64) (.fnil)))) y) (instH hp_42 x.2)))).add 55 ap_55 hp_55 (fun (x : aden ap_55 × hden hp_55) k => q_55 x (fun y => k (Pat.inst (.bool) y) (instH hp_55 x.2)))).add 43 ap_43 hp_43 (fun (x : aden ap_43 × hden hp_43) k => q_43 x (fun y => k (Pat.inst (.tup (.fcons (.nilp) (.fcons (.int .i64) (.fnil)))) y.1) (instH [] y.2)) (fun y => k (Pat.inst (.tup (.fcons (.ptr 0 []) (.fcons (.int .i64) (.fnil)))) y.1) (instH [some (Z1, 145)] y.2)))).add 44 ap_44 hp_44 (fun (x : aden ap_44 × hden hp_44) k => q_44 x (fun y => k (Pat.inst (.tup (.fcons (.nilp) (.fcons (.int .i64) (.fnil)))) y.1) (instH [] y.2)))).add 45 ap_45 hp_45 (fun (x : aden ap_45 × hden hp_45) k => q_45 x (fun y => k (Pat.inst (.tup (.fcons (.nilp) (.fcons (.int .i64) (.fnil)))) y.1) (instH [] y.2)))).add 44 ap_44_v1 hp_44_v1 (fun (x : aden ap_44_v1 × hden hp_44_v1) k => q_44_v1 x (fun y => k (Pat.inst (.tup (.fcons (.nilp) (.fcons (.int .i64) (.fnil)))) y.1) (instH [some (Z1, 145)] y.2)) (fun y => k (Pat.inst (.tup (.fcons (.ptr 1 []) (.fcons (.int .i64) (.fnil)))) y.1) (instH J8 y.2)))).add 45 ap_45_v1 hp_45_v1 (fun (x : aden ap_45_v1 × hden hp_45_v1) k => q_45_v1 x (fun y => k (Pat.inst (.tup (.fcons (.nilp) (.fcons (.int .i64) (.fnil)))) y.1) (instH J5 y.2)) (fun y => k (Pat.inst (.tup (.fcons (.ptr 3 []) (.fcons (.int .i64) (.fnil)))) y.1) (instH J9 y.2)))
def LG_14 {R : Type} : Loops R := Loops.none
def E_14 {R : Type} (N : Nat) : Env R := EG_14 (p_42 N) (p_55 N) (p_43 N) (p_44 N) (p_45 N) (p_44_v1 N) (p_45_v1 N)
theorem eok_14 {R : Type} (N : Nat) : EK Try.prog (E_14 (R := R) N) := ek_add (ek_add (ek_add (ek_add (ek_add (ek_add (ek_add (ek_base _ _ _) (good_42 N)) (good_55 N)) (good_43 N)) (good_44 N)) (good_45 N)) (good_44_v1 N)) (good_45_v1 N)
def L_14 {R : Type} (N : Nat) : Loops R := LG_14
theorem lok_14 {R : Type} (N : Nat) : LOK 0 TT (E_14 (R := R) N) (drawAny TT WW) (L_14 N) (bodyOf Try.f14) := loops_nil (by kernel_rfl)
theorem grun_14 {R : Type} (q_42 : Tp_42 R) (q_55 : Tp_55 R) (q_43 : Tp_43 R) (q_44 : Tp_44 R) (q_45 : Tp_45 R) (q_44_v1 : Tp_44_v1 R) (q_45_v1 : Tp_45_v1 R) (x : aden ap_14 × hden hp_14) (k : KF R) : fnrun TT (EG_14 q_42 q_55 q_43 q_44 q_45 q_44_v1 q_45_v1) (drawAny TT WW) (LG_14) true Try.f14 (instA ap_14 x.1) (instH hp_14 x.2) k = Q_14 q_42 q_55 q_43 q_44 q_45 q_44_v1 q_45_v1 x (fun y => k (Pat.inst (.nilp) y.1) (instH [] y.2)) (fun y => k (Pat.inst (.ptr 0 []) y.1) (instH J0 y.2)) := by kernel_rfl
theorem run_14 {R : Type} (N : Nat) (x : aden ap_14 × hden hp_14) (k : KF R) : fnrun TT (E_14 (R := R) N) (drawAny TT WW) (L_14 N) true Try.f14 (instA ap_14 x.1) (instH hp_14 x.2) k = p_14 N x (fun y => k (Pat.inst (.nilp) y.1) (instH [] y.2)) (fun y => k (Pat.inst (.ptr 0 []) y.1) (instH J0 y.2)) := (grun_14 (p_42 N) (p_55 N) (p_43 N) (p_44 N) (p_45 N) (p_44_v1 N) (p_45_v1 N) x k).trans (by kernel_rfl)
theorem good_14 {R : Type} (N : Nat) : GD (X := R) Try.prog QQ AA 14 ap_14 hp_14 (fun (x : aden ap_14 × hden hp_14) k => p_14 N x (fun y => k (Pat.inst (.nilp) y.1) (instH [] y.2)) (fun y => k (Pat.inst (.ptr 0 []) y.1) (instH J0 y.2))) :=
  gd_loud (E := E_14 N) (p := fun (x : aden ap_14 × hden hp_14) k => p_14 N x (fun y => k (Pat.inst (.nilp) y.1) (instH [] y.2)) (fun y => k (Pat.inst (.ptr 0 []) y.1) (instH J0 y.2))) mixed tyok (eok_14 N) Try.func14 (by kernel_rfl) (by kernel_rfl) (by kernel_rfl) (by kernel_rfl) (lok_14 N) (fun x k => run_14 N x k)

def ap_40 : List Pat := [.nilp]
def hp_40 : List (Option (Pat × Nat)) := []
abbrev Tp_40 (R : Type) : Type := (Unit × Unit) × (Unit) → (Int → Option R) → Option R
def Q_40 {R : Type} (x : (Unit × Unit) × (Unit)) (κ0 : Int → Option R) : Option R :=
κ0 11
def p_40 {R : Type} (N : Nat) (x : (Unit × Unit) × (Unit)) (κ0 : Int → Option R) : Option R := Q_40 x κ0
def EG_40 {R : Type} : Env R := Env.base QQ LN AA
def LG_40 {R : Type} : Loops R := Loops.none
def E_40 {R : Type} (N : Nat) : Env R := EG_40
theorem eok_40 {R : Type} (N : Nat) : EK Try.prog (E_40 (R := R) N) := ek_base _ _ _
def L_40 {R : Type} (N : Nat) : Loops R := LG_40
theorem loops_40 : loopsIn (bodyOf Try.f40) = [(4, loopAt 4 (bodyOf Try.f40)), (7, loopAt 7 (bodyOf Try.f40))] := by kernel_rfl
theorem lok_40 {R : Type} (N : Nat) : LOK 0 TT (E_40 (R := R) N) (drawAny TT WW) (L_40 N) (bodyOf Try.f40) := loops_all loops_40 (by
  simp only [List.forall_mem_cons, List.not_mem_nil, false_implies, implies_true, and_true]
  exact ⟨rounds_none (fun _ _ => rfl), rounds_none (fun _ _ => rfl)⟩)
theorem grun_40 {R : Type} (x : aden ap_40 × hden hp_40) (k : KF R) : fnrun TT (EG_40) (drawAny TT WW) (LG_40) true Try.f40 (instA ap_40 x.1) (instH hp_40 x.2) k = Q_40 x (fun y => k (Pat.inst (.int .i64) y) (instH hp_40 x.2)) := by kernel_rfl
theorem run_40 {R : Type} (N : Nat) (x : aden ap_40 × hden hp_40) (k : KF R) : fnrun TT (E_40 (R := R) N) (drawAny TT WW) (L_40 N) true Try.f40 (instA ap_40 x.1) (instH hp_40 x.2) k = p_40 N x (fun y => k (Pat.inst (.int .i64) y) (instH hp_40 x.2)) := (grun_40 x k).trans (by kernel_rfl)
theorem good_40 {R : Type} (N : Nat) : GD (X := R) Try.prog QQ AA 40 ap_40 hp_40 (fun (x : aden ap_40 × hden hp_40) k => p_40 N x (fun y => k (Pat.inst (.int .i64) y) (instH hp_40 x.2))) :=
  gd_quiet (E := E_40 N) (p := fun (x : aden ap_40 × hden hp_40) κ => p_40 N x (fun y => κ (Pat.inst (.int .i64) y))) mixed tyok (eok_40 N) Try.func40 (by kernel_rfl) (by kernel_rfl) (lok_40 N) (fun x k => run_40 N x k)

def ap_33 : List Pat := [.node (.fcons (.int .i64) (.fcons (.int .i64) (.fcons (.int .i64) (.fcons (.int .i64) (.fcons (.int .i64) (.fcons (.int .i64) (.fcons (.int .i64) (.fcons (.int .i64) (.fnil))))))))), .node (.fcons (.int .i64) (.fcons (.int .i64) (.fnil))), .int .i64]
def hp_33 : List (Option (Pat × Nat)) := []
abbrev Tp_33 (R : Type) : Type := (Y0 × (Int × (Int × Unit)) × Int × Unit) × (Unit) → ((Unit × (Y8 × Unit)) → Option R) → Option R
def Q_33 {R : Type} (x : (Y0 × (Int × (Int × Unit)) × Int × Unit) × (Unit)) (κ0 : (Unit × (Y8 × Unit)) → Option R) : Option R :=
let i191 := x.1.2.2.1
κ0 ((), ((x.1.1, (x.1.2.1, (i191, (0, ((Sch.zero (.arr 128 (.int .u64))), ()))))), ()))
def p_33 {R : Type} (N : Nat) (x : (Y0 × (Int × (Int × Unit)) × Int × Unit) × (Unit)) (κ0 : (Unit × (Y8 × Unit)) → Option R) : Option R := Q_33 x κ0
def EG_33 {R : Type} : Env R := Env.base QQ LN AA
def LG_33 {R : Type} : Loops R := Loops.none
def E_33 {R : Type} (N : Nat) : Env R := EG_33
theorem eok_33 {R : Type} (N : Nat) : EK Try.prog (E_33 (R := R) N) := ek_base _ _ _
def L_33 {R : Type} (N : Nat) : Loops R := LG_33
theorem lok_33 {R : Type} (N : Nat) : LOK 0 TT (E_33 (R := R) N) (drawAny TT WW) (L_33 N) (bodyOf Try.f33) := loops_nil (by kernel_rfl)
theorem grun_33 {R : Type} (x : aden ap_33 × hden hp_33) (k : KF R) : fnrun TT (EG_33) (drawAny TT WW) (LG_33) true Try.f33 (instA ap_33 x.1) (instH hp_33 x.2) k = Q_33 x (fun y => k (Pat.inst (.ptr 0 []) y.1) (instH hp_33 x.2 ++ instH [some (Z2, 132)] y.2)) := by kernel_rfl
theorem run_33 {R : Type} (N : Nat) (x : aden ap_33 × hden hp_33) (k : KF R) : fnrun TT (E_33 (R := R) N) (drawAny TT WW) (L_33 N) true Try.f33 (instA ap_33 x.1) (instH hp_33 x.2) k = p_33 N x (fun y => k (Pat.inst (.ptr 0 []) y.1) (instH hp_33 x.2 ++ instH [some (Z2, 132)] y.2)) := (grun_33 x k).trans (by kernel_rfl)
theorem good_33 {R : Type} (N : Nat) : GD (X := R) Try.prog QQ AA 33 ap_33 hp_33 (fun (x : aden ap_33 × hden hp_33) k => p_33 N x (fun y => k (Pat.inst (.ptr 0 []) y.1) (instH hp_33 x.2 ++ instH [some (Z2, 132)] y.2))) :=
  gd_adds (E := E_33 N) (p := fun (x : aden ap_33 × hden hp_33) κ => p_33 N x (fun y => κ (Pat.inst (.ptr 0 []) y.1) (instH [some (Z2, 132)] y.2))) mixed tyok (eok_33 N) Try.func33 (by kernel_rfl) (by kernel_rfl) (by kernel_rfl) (lok_33 N) (fun x k => run_33 N x k)

def ap_64 : List Pat := [.node (.fcons (.int .i64) (.fcons (.int .i64) (.fcons (.int .i64) (.fcons (.int .i64) (.fcons (.int .i64) (.fcons (.int .i64) (.fcons (.int .i64) (.fcons (.int .i64) (.fnil))))))))), .node (.fcons (.int .i64) (.fcons (.int .i64) (.fnil)))]
def hp_64 : List (Option (Pat × Nat)) := []
abbrev Tp_64 (R : Type) : Type := (Y0 × (Int × (Int × Unit)) × Unit) × (Unit) → (Bool → Option R) → Option R
def Q_64 {R : Type} (x : (Y0 × (Int × (Int × Unit)) × Unit) × (Unit)) (κ0 : Bool → Option R) : Option R :=
let i268 := x.1.1.1
let i276 := x.1.2.1.1
let i277 := x.1.2.1.2.1
bif (i268 == 2) then (
κ0 true) else (
bif (i268 == 3) then (
bif (i276 == 0) then (
κ0 ((decide (i277 < 2)))) else (
κ0 false)) else (
κ0 false))
def p_64 {R : Type} (N : Nat) (x : (Y0 × (Int × (Int × Unit)) × Unit) × (Unit)) (κ0 : Bool → Option R) : Option R := Q_64 x κ0
def EG_64 {R : Type} : Env R := Env.base QQ LN AA
def LG_64 {R : Type} : Loops R := Loops.none
def E_64 {R : Type} (N : Nat) : Env R := EG_64
theorem eok_64 {R : Type} (N : Nat) : EK Try.prog (E_64 (R := R) N) := ek_base _ _ _
def L_64 {R : Type} (N : Nat) : Loops R := LG_64
theorem lok_64 {R : Type} (N : Nat) : LOK 0 TT (E_64 (R := R) N) (drawAny TT WW) (L_64 N) (bodyOf Try.f64) := loops_nil (by kernel_rfl)
theorem grun_64 {R : Type} (x : aden ap_64 × hden hp_64) (k : KF R) : fnrun TT (EG_64) (drawAny TT WW) (LG_64) true Try.f64 (instA ap_64 x.1) (instH hp_64 x.2) k = Q_64 x (fun y => k (Pat.inst (.bool) y) (instH hp_64 x.2)) := by kernel_rfl
theorem run_64 {R : Type} (N : Nat) (x : aden ap_64 × hden hp_64) (k : KF R) : fnrun TT (E_64 (R := R) N) (drawAny TT WW) (L_64 N) true Try.f64 (instA ap_64 x.1) (instH hp_64 x.2) k = p_64 N x (fun y => k (Pat.inst (.bool) y) (instH hp_64 x.2)) := (grun_64 x k).trans (by kernel_rfl)
theorem good_64 {R : Type} (N : Nat) : GD (X := R) Try.prog QQ AA 64 ap_64 hp_64 (fun (x : aden ap_64 × hden hp_64) k => p_64 N x (fun y => k (Pat.inst (.bool) y) (instH hp_64 x.2))) :=
  gd_quiet (E := E_64 N) (p := fun (x : aden ap_64 × hden hp_64) κ => p_64 N x (fun y => κ (Pat.inst (.bool) y))) mixed tyok (eok_64 N) Try.func64 (by kernel_rfl) (by kernel_rfl) (lok_64 N) (fun x k => run_64 N x k)

def ap_113 : List Pat := [.node (.fcons (.int .i64) (.fcons (.int .i64) (.fcons (.int .i64) (.fcons (.int .i64) (.fcons (.int .i64) (.fcons (.int .i64) (.fcons (.int .i64) (.fcons (.int .i64) (.fnil)))))))))]
def hp_113 : List (Option (Pat × Nat)) := []
abbrev Tp_113 (R : Type) : Type := (Y0 × Unit) × (Unit) → (Int → Option R) → Option R
def Q_113 {R : Type} (x : (Y0 × Unit) × (Unit)) (κ0 : Int → Option R) : Option R :=
let i322 := x.1.1.1
let i330 : Int := subA .i64 i322 1
κ0 i330
def p_113 {R : Type} (N : Nat) (x : (Y0 × Unit) × (Unit)) (κ0 : Int → Option R) : Option R := Q_113 x κ0
def EG_113 {R : Type} : Env R := Env.base QQ LN AA
def LG_113 {R : Type} : Loops R := Loops.none
def E_113 {R : Type} (N : Nat) : Env R := EG_113
theorem eok_113 {R : Type} (N : Nat) : EK Try.prog (E_113 (R := R) N) := ek_base _ _ _
def L_113 {R : Type} (N : Nat) : Loops R := LG_113
theorem lok_113 {R : Type} (N : Nat) : LOK 0 TT (E_113 (R := R) N) (drawAny TT WW) (L_113 N) (bodyOf Try.f113) := loops_nil (by kernel_rfl)
theorem grun_113 {R : Type} (x : aden ap_113 × hden hp_113) (k : KF R) : fnrun TT (EG_113) (drawAny TT WW) (LG_113) true Try.f113 (instA ap_113 x.1) (instH hp_113 x.2) k = Q_113 x (fun y => k (Pat.inst (.int .i64) y) (instH hp_113 x.2)) := by kernel_rfl
theorem run_113 {R : Type} (N : Nat) (x : aden ap_113 × hden hp_113) (k : KF R) : fnrun TT (E_113 (R := R) N) (drawAny TT WW) (L_113 N) true Try.f113 (instA ap_113 x.1) (instH hp_113 x.2) k = p_113 N x (fun y => k (Pat.inst (.int .i64) y) (instH hp_113 x.2)) := (grun_113 x k).trans (by kernel_rfl)
theorem good_113 {R : Type} (N : Nat) : GD (X := R) Try.prog QQ AA 113 ap_113 hp_113 (fun (x : aden ap_113 × hden hp_113) k => p_113 N x (fun y => k (Pat.inst (.int .i64) y) (instH hp_113 x.2))) :=
  gd_quiet (E := E_113 N) (p := fun (x : aden ap_113 × hden hp_113) κ => p_113 N x (fun y => κ (Pat.inst (.int .i64) y))) mixed tyok (eok_113 N) Try.func113 (by kernel_rfl) (by kernel_rfl) (lok_113 N) (fun x k => run_113 N x k)

def lv_103_4 : Live := [(8, none), (10, none), (26, none), (27, none)]
def pt_103_4 : SPat := ⟨[(8, .ptr 0 []), (10, .ptr 1 []), (26, .vec (.int .i64) 7), (27, .int .i64)], J3⟩
def px_103_4_0 : SPat := ⟨[(8, .ptr 0 []), (10, .ptr 1 [])], J3⟩
def lo_103_4 : Exit → Live
  | .exit 0 => [(8, none), (10, none)]
  | _ => []
def ap_103 : List Pat := [.node (.fcons (.int .i64) (.fcons (.int .i64) (.fcons (.int .i64) (.fcons (.int .i64) (.fcons (.int .i64) (.fcons (.int .i64) (.fcons (.int .i64) (.fcons (.int .i64) (.fnil))))))))), .node (.fcons (.int .i64) (.fcons (.int .i64) (.fnil))), .int .i64, .int .i64]
def hp_103 : List (Option (Pat × Nat)) := []
abbrev Tl_103_4 (R : Type) : Type := ((Unit × Unit × (Nat → Int) × Int × Unit) × Y2) → (Y15 → Option R) → Option R
abbrev Tp_103 (R : Type) : Type := (Y0 × (Int × (Int × Unit)) × Int × Int × Unit) × (Unit) → ((Nat → Int) → Option R) → Option R
def C_103_4 {R : Type} (rec : ((Unit × Unit × (Nat → Int) × Int × Unit) × Y2) → Option R) (x : ((Unit × Unit × (Nat → Int) × Int × Unit) × Y2)) (κ0 : Y15 → Option R) : Option R :=
let a334 := x.1.2.2.1
let i335 := x.1.2.2.2.1
let a336 := x.2.1
let a337 := x.2.2.1
bif (decide (i335 < 7)) then (
bif decide (0 ≤ i335) then (
bif decide (i335 < (7 : Int)) then (
let i338 : Int := (a334 ((Int.toNat i335)))
let i339 : Int := IntKind.wrap .u64 i338
bif decide (0 ≤ i335) then (
bif decide (i335 < (128 : Int)) then (
let a340 : (Nat → Int) := (upd a337 ((Int.toNat i335)) i339)
let i341 : Int := addA .i64 i335 1
rec (((), (), a334, i341, ()), (a336, a340, ()))) else none) else none) else none) else none) else (
κ0 (((), (), ()), (a336, a337, ())))
def B_103_4 {R : Type} (N : Nat) (rec : ((Unit × Unit × (Nat → Int) × Int × Unit) × Y2) → Option R) (x : ((Unit × Unit × (Nat → Int) × Int × Unit) × Y2)) (κ0 : Y15 → Option R) : Option R := C_103_4 rec x κ0
def l_103_4 {R : Type} (N : Nat) : Nat → ((Unit × Unit × (Nat → Int) × Int × Unit) × Y2) → (Y15 → Option R) → Option R
  | 0, _, _ => none
  | n + 1, x, κ0 => B_103_4 N (fun y => l_103_4 N n y κ0) x κ0
def Q_103 {R : Type} (q_113 : Tp_113 R) (m_103_4 : Tl_103_4 R) (x : (Y0 × (Int × (Int × Unit)) × Int × Int × Unit) × (Unit)) (κ0 : (Nat → Int) → Option R) : Option R :=
let i311 := x.1.1.2.1
let i314 := x.1.1.2.2.2.2.1
let i318 := x.1.2.1.1
let i319 := x.1.2.1.2.1
let i320 := x.1.2.2.1
let i321 := x.1.2.2.2.1
q_113 ((x.1.1, ()), ()) (fun y331 =>
let i332 := y331
let a333 : (Nat → Int) := (upd ((upd ((upd ((upd ((upd ((upd ((upd ((Sch.zero (.arr 7 (.int .i64)))) 0 i318)) 1 i320)) 2 i319)) 3 i314)) 4 i311)) 5 i332)) 6 i321)
m_103_4 (((), (), a333, 0, ()), ((Sch.zero (.arr 128 (.int .u64))), (Sch.zero (.arr 128 (.int .u64))), ())) (fun y342 =>
let a344 := y342.2.2.1
κ0 a344))
def p_103 {R : Type} (N : Nat) (x : (Y0 × (Int × (Int × Unit)) × Int × Int × Unit) × (Unit)) (κ0 : (Nat → Int) → Option R) : Option R := Q_103 (p_113 N) (l_103_4 N N) x κ0
def EG_103 {R : Type} (q_113 : Tp_113 R) : Env R := (Env.base QQ LN AA).add 113 ap_113 hp_113 (fun (x : aden ap_113 × hden hp_113) k => q_113 x (fun y => k (Pat.inst (.int .i64) y) (instH hp_113 x.2)))
def LG_103 {R : Type} (m_103_4 : Tl_103_4 R) : Loops R := (Loops.none).add 4 (loopBy 0 lv_103_4 pt_103_4 (fun x k => m_103_4 x (fun y => k (.exit 0) (px_103_4_0.inst y))))
def E_103 {R : Type} (N : Nat) : Env R := EG_103 (p_113 N)
theorem eok_103 {R : Type} (N : Nat) : EK Try.prog (E_103 (R := R) N) := ek_add (ek_base _ _ _) (good_113 N)
def L_103 {R : Type} (N : Nat) : Loops R := LG_103 (l_103_4 N N)
theorem gstep_103_4 {R : Type} (q_113 : Tp_113 R) (m_103_4 : Tl_103_4 R) (n : Nat) (x : pt_103_4.den) (k : Exit → St → Option R) : iter 0 lv_103_4 lo_103_4 (aexec TT (EG_103 q_113) (drawAny TT WW) (LG_103 m_103_4) (loopAt 4 (bodyOf Try.f103))) (n + 1) (pt_103_4.inst x) k = C_103_4 (fun y => iter 0 lv_103_4 lo_103_4 (aexec TT (EG_103 q_113) (drawAny TT WW) (LG_103 m_103_4) (loopAt 4 (bodyOf Try.f103))) n (pt_103_4.inst y) k) x (fun y => k (.exit 0) (px_103_4_0.inst y)) := by kernel_rfl
theorem step_103_4 {R : Type} (N n : Nat) (x : pt_103_4.den) (k : Exit → St → Option R) : iter 0 lv_103_4 lo_103_4 (aexec TT (E_103 (R := R) N) (drawAny TT WW) (L_103 N) (loopAt 4 (bodyOf Try.f103))) (n + 1) (pt_103_4.inst x) k = B_103_4 N (fun y => iter 0 lv_103_4 lo_103_4 (aexec TT (E_103 (R := R) N) (drawAny TT WW) (L_103 N) (loopAt 4 (bodyOf Try.f103))) n (pt_103_4.inst y) k) x (fun y => k (.exit 0) (px_103_4_0.inst y)) := (gstep_103_4 (p_113 N) (l_103_4 N N) n x k).trans (by kernel_rfl)
theorem eq_103_4 {R : Type} (N : Nat) : ∀ (n : Nat) (x : pt_103_4.den) (k : Exit → St → Option R), iter 0 lv_103_4 lo_103_4 (aexec TT (E_103 (R := R) N) (drawAny TT WW) (L_103 N) (loopAt 4 (bodyOf Try.f103))) n (pt_103_4.inst x) k = l_103_4 N n x (fun y => k (.exit 0) (px_103_4_0.inst y)) :=
  iter_eq (K := Exit → St → Option R) (ks := fun k => k) (l := fun n (x : pt_103_4.den) k => l_103_4 N n x (fun y => k (.exit 0) (px_103_4_0.inst y))) (B := fun (rec : pt_103_4.den → Option R) (x : pt_103_4.den) k => B_103_4 N rec x (fun y => k (.exit 0) (px_103_4_0.inst y))) (fun _ _ => rfl) (fun _ _ _ => rfl) (fun n x k => step_103_4 N n x k)
theorem rounds_103_4 {R : Type} (N : Nat) : Rounds 0 TT (E_103 (R := R) N) (drawAny TT WW) (L_103 N) 4 (loopAt 4 (bodyOf Try.f103)) :=
  rounds_of (p := pt_103_4) (l := fun (x : pt_103_4.den) k => l_103_4 N N x (fun y => k (.exit 0) (px_103_4_0.inst y))) (fun s k => rfl) (fun x k => eq_103_4 N N x k)
theorem loops_103 : loopsIn (bodyOf Try.f103) = [(4, loopAt 4 (bodyOf Try.f103))] := by kernel_rfl
theorem lok_103 {R : Type} (N : Nat) : LOK 0 TT (E_103 (R := R) N) (drawAny TT WW) (L_103 N) (bodyOf Try.f103) := loops_all loops_103 (by
  simp only [List.forall_mem_cons, List.not_mem_nil, false_implies, implies_true, and_true]
  exact rounds_103_4 N)
theorem grun_103 {R : Type} (q_113 : Tp_113 R) (m_103_4 : Tl_103_4 R) (x : aden ap_103 × hden hp_103) (k : KF R) : fnrun TT (EG_103 q_113) (drawAny TT WW) (LG_103 m_103_4) true Try.f103 (instA ap_103 x.1) (instH hp_103 x.2) k = Q_103 q_113 m_103_4 x (fun y => k (Pat.inst (.vec (.int .u64) 128) y) (instH hp_103 x.2)) := by kernel_rfl
theorem run_103 {R : Type} (N : Nat) (x : aden ap_103 × hden hp_103) (k : KF R) : fnrun TT (E_103 (R := R) N) (drawAny TT WW) (L_103 N) true Try.f103 (instA ap_103 x.1) (instH hp_103 x.2) k = p_103 N x (fun y => k (Pat.inst (.vec (.int .u64) 128) y) (instH hp_103 x.2)) := (grun_103 (p_113 N) (l_103_4 N N) x k).trans (by kernel_rfl)
theorem good_103 {R : Type} (N : Nat) : GD (X := R) Try.prog QQ AA 103 ap_103 hp_103 (fun (x : aden ap_103 × hden hp_103) k => p_103 N x (fun y => k (Pat.inst (.vec (.int .u64) 128) y) (instH hp_103 x.2))) :=
  gd_quiet (E := E_103 N) (p := fun (x : aden ap_103 × hden hp_103) κ => p_103 N x (fun y => κ (Pat.inst (.vec (.int .u64) 128) y))) mixed tyok (eok_103 N) Try.func103 (by kernel_rfl) (by kernel_rfl) (lok_103 N) (fun x k => run_103 N x k)

def lv_48_6 : Live := [(2, none), (3, none), (8, none), (9, none), (10, none), (14, none), (15, none)]
def pt_48_6 : SPat := ⟨[(2, .ptr 0 []), (3, .ptr 1 []), (8, .ros (.arr 128 (.int .u64))), (9, .int .i64), (10, .int .i64), (14, .vec (.int .u64) 128), (15, .int .i64)], J3⟩
def px_48_6_0 : SPat := ⟨[(2, .ptr 0 []), (3, .ptr 1 []), (8, .ros (.arr 128 (.int .u64))), (9, .int .i64), (10, .int .i64)], J3⟩
def lo_48_6 : Exit → Live
  | .exit 2 => [(2, none), (3, none), (8, none), (9, none), (10, none)]
  | _ => []
def lv_48_3 : Live := [(2, none), (3, none), (8, none), (9, none), (10, none)]
def pt_48_3 : SPat := ⟨[(2, .ptr 0 []), (3, .ptr 1 []), (8, .ros (.arr 128 (.int .u64))), (9, .int .i64), (10, .int .i64)], J3⟩
def px_48_3_0 : SPat := ⟨[(2, .ptr 0 []), (3, .ptr 1 [])], J3⟩
def lo_48_3 : Exit → Live
  | .exit 0 => [(2, none), (3, none)]
  | _ => []
def ap_48 : List Pat := [.ros (.arr 128 (.int .u64))]
def hp_48 : List (Option (Pat × Nat)) := []
abbrev Tl_48_6 (R : Type) : Type := ((Unit × Unit × (List (Nat → Int)) × Int × Int × (Nat → Int) × Int × Unit) × Y2) → (((Unit × Unit × (List (Nat → Int)) × Int × Int × Unit) × Y2) → Option R) → Option R
abbrev Tl_48_3 (R : Type) : Type := ((Unit × Unit × (List (Nat → Int)) × Int × Int × Unit) × Y2) → (Y15 → Option R) → Option R
abbrev Tp_48 (R : Type) : Type := ((List (Nat → Int)) × Unit) × (Unit) → ((Nat → Int) → Option R) → Option R
def C_48_6 {R : Type} (rec : ((Unit × Unit × (List (Nat → Int)) × Int × Int × (Nat → Int) × Int × Unit) × Y2) → Option R) (x : ((Unit × Unit × (List (Nat → Int)) × Int × Int × (Nat → Int) × Int × Unit) × Y2)) (κ0 : ((Unit × Unit × (List (Nat → Int)) × Int × Int × Unit) × Y2) → Option R) : Option R :=
let l358 := x.1.2.2.1
let i359 := x.1.2.2.2.1
let i360 := x.1.2.2.2.2.1
let a361 := x.1.2.2.2.2.2.1
let i362 := x.1.2.2.2.2.2.2.1
let a363 := x.2.1
let a364 := x.2.2.1
bif (decide (i362 < 128)) then (
bif decide (0 ≤ i362) then (
bif decide (i362 < (128 : Int)) then (
let i365 : Int := (a361 ((Int.toNat i362)))
bif decide (0 ≤ i362) then (
bif decide (i362 < (128 : Int)) then (
let i366 : Int := (a364 ((Int.toNat i362)))
let i367 : Int := xorA .u64 i366 i365
bif decide (0 ≤ i362) then (
bif decide (i362 < (128 : Int)) then (
let a368 : (Nat → Int) := (upd a364 ((Int.toNat i362)) i367)
let i369 : Int := addA .i64 i362 1
rec (((), (), l358, i359, i360, a361, i369, ()), (a363, a368, ()))) else none) else none) else none) else none) else none) else none) else (
κ0 (((), (), l358, i359, i360, ()), (a363, a364, ())))
def C_48_3 {R : Type} (m_48_6 : Tl_48_6 R) (rec : ((Unit × Unit × (List (Nat → Int)) × Int × Int × Unit) × Y2) → Option R) (x : ((Unit × Unit × (List (Nat → Int)) × Int × Int × Unit) × Y2)) (κ0 : Y15 → Option R) : Option R :=
let l352 := x.1.2.2.1
let i353 := x.1.2.2.2.1
let i354 := x.1.2.2.2.2.1
let a355 := x.2.1
let a356 := x.2.2.1
bif (decide (i354 < i353)) then (
bif decide (0 ≤ i354) then (
bif decide (i354 < ((List.length l352) : Int)) then (
let p357 : (Nat → Int) := (List.getD l352 ((Int.toNat i354)) (Sch.zero (.arr 128 (.int .u64))))
m_48_6 (((), (), l352, i353, i354, p357, 0, ()), (a355, a356, ())) (fun y370 =>
let l371 := y370.1.2.2.1
let i372 := y370.1.2.2.2.1
let i373 := y370.1.2.2.2.2.1
let a374 := y370.2.1
let a375 := y370.2.2.1
let i376 : Int := addA .i64 i373 1
rec (((), (), l371, i372, i376, ()), (a374, a375, ())))) else none) else none) else (
κ0 (((), (), ()), (a355, a356, ())))
def B_48_6 {R : Type} (N : Nat) (rec : ((Unit × Unit × (List (Nat → Int)) × Int × Int × (Nat → Int) × Int × Unit) × Y2) → Option R) (x : ((Unit × Unit × (List (Nat → Int)) × Int × Int × (Nat → Int) × Int × Unit) × Y2)) (κ0 : ((Unit × Unit × (List (Nat → Int)) × Int × Int × Unit) × Y2) → Option R) : Option R := C_48_6 rec x κ0
def l_48_6 {R : Type} (N : Nat) : Nat → ((Unit × Unit × (List (Nat → Int)) × Int × Int × (Nat → Int) × Int × Unit) × Y2) → (((Unit × Unit × (List (Nat → Int)) × Int × Int × Unit) × Y2) → Option R) → Option R
  | 0, _, _ => none
  | n + 1, x, κ0 => B_48_6 N (fun y => l_48_6 N n y κ0) x κ0
def B_48_3 {R : Type} (N : Nat) (rec : ((Unit × Unit × (List (Nat → Int)) × Int × Int × Unit) × Y2) → Option R) (x : ((Unit × Unit × (List (Nat → Int)) × Int × Int × Unit) × Y2)) (κ0 : Y15 → Option R) : Option R := C_48_3 (l_48_6 N N) rec x κ0
def l_48_3 {R : Type} (N : Nat) : Nat → ((Unit × Unit × (List (Nat → Int)) × Int × Int × Unit) × Y2) → (Y15 → Option R) → Option R
  | 0, _, _ => none
  | n + 1, x, κ0 => B_48_3 N (fun y => l_48_3 N n y κ0) x κ0
def Q_48 {R : Type} (m_48_6 : Tl_48_6 R) (m_48_3 : Tl_48_3 R) (x : ((List (Nat → Int)) × Unit) × (Unit)) (κ0 : (Nat → Int) → Option R) : Option R :=
let l350 := x.1.1
let i351 : Int := (((List.length l350) : Nat) : Int)
m_48_3 (((), (), l350, i351, 0, ()), ((Sch.zero (.arr 128 (.int .u64))), (Sch.zero (.arr 128 (.int .u64))), ())) (fun y377 =>
let a379 := y377.2.2.1
κ0 a379)
def p_48 {R : Type} (N : Nat) (x : ((List (Nat → Int)) × Unit) × (Unit)) (κ0 : (Nat → Int) → Option R) : Option R := Q_48 (l_48_6 N N) (l_48_3 N N) x κ0
def EG_48 {R : Type} : Env R := Env.base QQ LN AA
def LG_48 {R : Type} (m_48_6 : Tl_48_6 R) (m_48_3 : Tl_48_3 R) : Loops R := ((Loops.none).add 6 (loopBy 0 lv_48_6 pt_48_6 (fun x k => m_48_6 x (fun y => k (.exit 2) (px_48_6_0.inst y))))).add 3 (loopBy 0 lv_48_3 pt_48_3 (fun x k => m_48_3 x (fun y => k (.exit 0) (px_48_3_0.inst y))))
def E_48 {R : Type} (N : Nat) : Env R := EG_48
theorem eok_48 {R : Type} (N : Nat) : EK Try.prog (E_48 (R := R) N) := ek_base _ _ _
def L_48 {R : Type} (N : Nat) : Loops R := LG_48 (l_48_6 N N) (l_48_3 N N)
theorem gstep_48_6 {R : Type} (m_48_6 : Tl_48_6 R) (m_48_3 : Tl_48_3 R) (n : Nat) (x : pt_48_6.den) (k : Exit → St → Option R) : iter 0 lv_48_6 lo_48_6 (aexec TT (EG_48) (drawAny TT WW) (LG_48 m_48_6 m_48_3) (loopAt 6 (bodyOf Try.f48))) (n + 1) (pt_48_6.inst x) k = C_48_6 (fun y => iter 0 lv_48_6 lo_48_6 (aexec TT (EG_48) (drawAny TT WW) (LG_48 m_48_6 m_48_3) (loopAt 6 (bodyOf Try.f48))) n (pt_48_6.inst y) k) x (fun y => k (.exit 2) (px_48_6_0.inst y)) := by kernel_rfl
theorem step_48_6 {R : Type} (N n : Nat) (x : pt_48_6.den) (k : Exit → St → Option R) : iter 0 lv_48_6 lo_48_6 (aexec TT (E_48 (R := R) N) (drawAny TT WW) (L_48 N) (loopAt 6 (bodyOf Try.f48))) (n + 1) (pt_48_6.inst x) k = B_48_6 N (fun y => iter 0 lv_48_6 lo_48_6 (aexec TT (E_48 (R := R) N) (drawAny TT WW) (L_48 N) (loopAt 6 (bodyOf Try.f48))) n (pt_48_6.inst y) k) x (fun y => k (.exit 2) (px_48_6_0.inst y)) := (gstep_48_6 (l_48_6 N N) (l_48_3 N N) n x k).trans (by kernel_rfl)
theorem eq_48_6 {R : Type} (N : Nat) : ∀ (n : Nat) (x : pt_48_6.den) (k : Exit → St → Option R), iter 0 lv_48_6 lo_48_6 (aexec TT (E_48 (R := R) N) (drawAny TT WW) (L_48 N) (loopAt 6 (bodyOf Try.f48))) n (pt_48_6.inst x) k = l_48_6 N n x (fun y => k (.exit 2) (px_48_6_0.inst y)) :=
  iter_eq (K := Exit → St → Option R) (ks := fun k => k) (l := fun n (x : pt_48_6.den) k => l_48_6 N n x (fun y => k (.exit 2) (px_48_6_0.inst y))) (B := fun (rec : pt_48_6.den → Option R) (x : pt_48_6.den) k => B_48_6 N rec x (fun y => k (.exit 2) (px_48_6_0.inst y))) (fun _ _ => rfl) (fun _ _ _ => rfl) (fun n x k => step_48_6 N n x k)
theorem rounds_48_6 {R : Type} (N : Nat) : Rounds 0 TT (E_48 (R := R) N) (drawAny TT WW) (L_48 N) 6 (loopAt 6 (bodyOf Try.f48)) :=
  rounds_of (p := pt_48_6) (l := fun (x : pt_48_6.den) k => l_48_6 N N x (fun y => k (.exit 2) (px_48_6_0.inst y))) (fun s k => rfl) (fun x k => eq_48_6 N N x k)
theorem gstep_48_3 {R : Type} (m_48_6 : Tl_48_6 R) (m_48_3 : Tl_48_3 R) (n : Nat) (x : pt_48_3.den) (k : Exit → St → Option R) : iter 0 lv_48_3 lo_48_3 (aexec TT (EG_48) (drawAny TT WW) (LG_48 m_48_6 m_48_3) (loopAt 3 (bodyOf Try.f48))) (n + 1) (pt_48_3.inst x) k = C_48_3 m_48_6 (fun y => iter 0 lv_48_3 lo_48_3 (aexec TT (EG_48) (drawAny TT WW) (LG_48 m_48_6 m_48_3) (loopAt 3 (bodyOf Try.f48))) n (pt_48_3.inst y) k) x (fun y => k (.exit 0) (px_48_3_0.inst y)) := by kernel_rfl
theorem step_48_3 {R : Type} (N n : Nat) (x : pt_48_3.den) (k : Exit → St → Option R) : iter 0 lv_48_3 lo_48_3 (aexec TT (E_48 (R := R) N) (drawAny TT WW) (L_48 N) (loopAt 3 (bodyOf Try.f48))) (n + 1) (pt_48_3.inst x) k = B_48_3 N (fun y => iter 0 lv_48_3 lo_48_3 (aexec TT (E_48 (R := R) N) (drawAny TT WW) (L_48 N) (loopAt 3 (bodyOf Try.f48))) n (pt_48_3.inst y) k) x (fun y => k (.exit 0) (px_48_3_0.inst y)) := (gstep_48_3 (l_48_6 N N) (l_48_3 N N) n x k).trans (by kernel_rfl)
theorem eq_48_3 {R : Type} (N : Nat) : ∀ (n : Nat) (x : pt_48_3.den) (k : Exit → St → Option R), iter 0 lv_48_3 lo_48_3 (aexec TT (E_48 (R := R) N) (drawAny TT WW) (L_48 N) (loopAt 3 (bodyOf Try.f48))) n (pt_48_3.inst x) k = l_48_3 N n x (fun y => k (.exit 0) (px_48_3_0.inst y)) :=
  iter_eq (K := Exit → St → Option R) (ks := fun k => k) (l := fun n (x : pt_48_3.den) k => l_48_3 N n x (fun y => k (.exit 0) (px_48_3_0.inst y))) (B := fun (rec : pt_48_3.den → Option R) (x : pt_48_3.den) k => B_48_3 N rec x (fun y => k (.exit 0) (px_48_3_0.inst y))) (fun _ _ => rfl) (fun _ _ _ => rfl) (fun n x k => step_48_3 N n x k)
theorem rounds_48_3 {R : Type} (N : Nat) : Rounds 0 TT (E_48 (R := R) N) (drawAny TT WW) (L_48 N) 3 (loopAt 3 (bodyOf Try.f48)) :=
  rounds_of (p := pt_48_3) (l := fun (x : pt_48_3.den) k => l_48_3 N N x (fun y => k (.exit 0) (px_48_3_0.inst y))) (fun s k => rfl) (fun x k => eq_48_3 N N x k)
theorem loops_48 : loopsIn (bodyOf Try.f48) = [(3, loopAt 3 (bodyOf Try.f48)), (6, loopAt 6 (bodyOf Try.f48))] := by kernel_rfl
theorem lok_48 {R : Type} (N : Nat) : LOK 0 TT (E_48 (R := R) N) (drawAny TT WW) (L_48 N) (bodyOf Try.f48) := loops_all loops_48 (by
  simp only [List.forall_mem_cons, List.not_mem_nil, false_implies, implies_true, and_true]
  exact ⟨rounds_48_3 N, rounds_48_6 N⟩)
theorem grun_48 {R : Type} (m_48_6 : Tl_48_6 R) (m_48_3 : Tl_48_3 R) (x : aden ap_48 × hden hp_48) (k : KF R) : fnrun TT (EG_48) (drawAny TT WW) (LG_48 m_48_6 m_48_3) true Try.f48 (instA ap_48 x.1) (instH hp_48 x.2) k = Q_48 m_48_6 m_48_3 x (fun y => k (Pat.inst (.vec (.int .u64) 128) y) (instH hp_48 x.2)) := by kernel_rfl
theorem run_48 {R : Type} (N : Nat) (x : aden ap_48 × hden hp_48) (k : KF R) : fnrun TT (E_48 (R := R) N) (drawAny TT WW) (L_48 N) true Try.f48 (instA ap_48 x.1) (instH hp_48 x.2) k = p_48 N x (fun y => k (Pat.inst (.vec (.int .u64) 128) y) (instH hp_48 x.2)) := (grun_48 (l_48_6 N N) (l_48_3 N N) x k).trans (by kernel_rfl)
theorem good_48 {R : Type} (N : Nat) : GD (X := R) Try.prog QQ AA 48 ap_48 hp_48 (fun (x : aden ap_48 × hden hp_48) k => p_48 N x (fun y => k (Pat.inst (.vec (.int .u64) 128) y) (instH hp_48 x.2))) :=
  gd_quiet (E := E_48 N) (p := fun (x : aden ap_48 × hden hp_48) κ => p_48 N x (fun y => κ (Pat.inst (.vec (.int .u64) 128) y))) mixed tyok (eok_48 N) Try.func48 (by kernel_rfl) (by kernel_rfl) (lok_48 N) (fun x k => run_48 N x k)

def lv_115_3 : Live := [(0, none), (1, none), (4, none), (5, none), (7, none)]
def pt_115_3 : SPat := ⟨[(0, .int .i64), (1, .bool), (4, .ptr 0 []), (5, .ptr 1 []), (7, .int .i64)], [some (.vec (.int .i64) 16, 192), some (.vec (.int .i64) 16, 192)]⟩
def px_115_3_0 : SPat := ⟨[(4, .ptr 0 []), (5, .ptr 1 [])], [some (.vec (.int .i64) 16, 192), some (.vec (.int .i64) 16, 192)]⟩
def lo_115_3 : Exit → Live
  | .exit 0 => [(4, none), (5, none)]
  | _ => []
def ap_115 : List Pat := [.int .i64, .bool]
def hp_115 : List (Option (Pat × Nat)) := []
abbrev Tl_115_3 (R : Type) : Type := ((Int × Bool × Unit × Unit × Int × Unit) × Y2) → (Y15 → Option R) → Option R
abbrev Tp_115 (R : Type) : Type := (Int × Bool × Unit) × (Unit) → ((Nat → Int) → Option R) → Option R
def C_115_3 {R : Type} (rec : ((Int × Bool × Unit × Unit × Int × Unit) × Y2) → Option R) (x : ((Int × Bool × Unit × Unit × Int × Unit) × Y2)) (κ0 : Y15 → Option R) : Option R :=
let i400 := x.1.1
let b401 := x.1.2.1
let i402 := x.1.2.2.2.2.1
let a403 := x.2.1
let a404 := x.2.2.1
bif (decide (i402 < 16)) then (
bif b401 then (
let i405 : Int := mulA .i64 2 i400
let i406 : Int := remA .i64 i402 2
let i407 : Int := addA .i64 i405 i406
let i408 : Int := quoA .i64 i402 2
let i409 : Int := mulA .i64 16 i408
let i410 : Int := addA .i64 i407 i409
bif decide (0 ≤ i402) then (
bif decide (i402 < (16 : Int)) then (
let a411 : (Nat → Int) := (upd a404 ((Int.toNat i402)) i410)
let i412 : Int := addA .i64 i402 1
rec ((i400, b401, (), (), i412, ()), (a403, a411, ()))) else none) else none) else (
let i413 : Int := mulA .i64 16 i400
let i414 : Int := addA .i64 i413 i402
bif decide (0 ≤ i402) then (
bif decide (i402 < (16 : Int)) then (
let a415 : (Nat → Int) := (upd a404 ((Int.toNat i402)) i414)
let i416 : Int := addA .i64 i402 1
rec ((i400, b401, (), (), i416, ()), (a403, a415, ()))) else none) else none)) else (
κ0 (((), (), ()), (a403, a404, ())))
def B_115_3 {R : Type} (N : Nat) (rec : ((Int × Bool × Unit × Unit × Int × Unit) × Y2) → Option R) (x : ((Int × Bool × Unit × Unit × Int × Unit) × Y2)) (κ0 : Y15 → Option R) : Option R := C_115_3 rec x κ0
def l_115_3 {R : Type} (N : Nat) : Nat → ((Int × Bool × Unit × Unit × Int × Unit) × Y2) → (Y15 → Option R) → Option R
  | 0, _, _ => none
  | n + 1, x, κ0 => B_115_3 N (fun y => l_115_3 N n y κ0) x κ0
def Q_115 {R : Type} (m_115_3 : Tl_115_3 R) (x : (Int × Bool × Unit) × (Unit)) (κ0 : (Nat → Int) → Option R) : Option R :=
let i398 := x.1.1
let b399 := x.1.2.1
m_115_3 ((i398, b399, (), (), 0, ()), ((Sch.zero (.arr 16 (.int .i64))), (Sch.zero (.arr 16 (.int .i64))), ())) (fun y417 =>
let a419 := y417.2.2.1
κ0 a419)
def p_115 {R : Type} (N : Nat) (x : (Int × Bool × Unit) × (Unit)) (κ0 : (Nat → Int) → Option R) : Option R := Q_115 (l_115_3 N N) x κ0
def EG_115 {R : Type} : Env R := Env.base QQ LN AA
def LG_115 {R : Type} (m_115_3 : Tl_115_3 R) : Loops R := (Loops.none).add 3 (loopBy 0 lv_115_3 pt_115_3 (fun x k => m_115_3 x (fun y => k (.exit 0) (px_115_3_0.inst y))))
def E_115 {R : Type} (N : Nat) : Env R := EG_115
theorem eok_115 {R : Type} (N : Nat) : EK Try.prog (E_115 (R := R) N) := ek_base _ _ _
def L_115 {R : Type} (N : Nat) : Loops R := LG_115 (l_115_3 N N)
theorem gstep_115_3 {R : Type} (m_115_3 : Tl_115_3 R) (n : Nat) (x : pt_115_3.den) (k : Exit → St → Option R) : iter 0 lv_115_3 lo_115_3 (aexec TT (EG_115) (drawAny TT WW) (LG_115 m_115_3) (loopAt 3 (bodyOf Try.f115))) (n + 1) (pt_115_3.inst x) k = C_115_3 (fun y => iter 0 lv_115_3 lo_115_3 (aexec TT (EG_115) (drawAny TT WW) (LG_115 m_115_3) (loopAt 3 (bodyOf Try.f115))) n (pt_115_3.inst y) k) x (fun y => k (.exit 0) (px_115_3_0.inst y)) := by kernel_rfl
theorem step_115_3 {R : Type} (N n : Nat) (x : pt_115_3.den) (k : Exit → St → Option R) : iter 0 lv_115_3 lo_115_3 (aexec TT (E_115 (R := R) N) (drawAny TT WW) (L_115 N) (loopAt 3 (bodyOf Try.f115))) (n + 1) (pt_115_3.inst x) k = B_115_3 N (fun y => iter 0 lv_115_3 lo_115_3 (aexec TT (E_115 (R := R) N) (drawAny TT WW) (L_115 N) (loopAt 3 (bodyOf Try.f115))) n (pt_115_3.inst y) k) x (fun y => k (.exit 0) (px_115_3_0.inst y)) := (gstep_115_3 (l_115_3 N N) n x k).trans (by kernel_rfl)
theorem eq_115_3 {R : Type} (N : Nat) : ∀ (n : Nat) (x : pt_115_3.den) (k : Exit → St → Option R), iter 0 lv_115_3 lo_115_3 (aexec TT (E_115 (R := R) N) (drawAny TT WW) (L_115 N) (loopAt 3 (bodyOf Try.f115))) n (pt_115_3.inst x) k = l_115_3 N n x (fun y => k (.exit 0) (px_115_3_0.inst y)) :=
  iter_eq (K := Exit → St → Option R) (ks := fun k => k) (l := fun n (x : pt_115_3.den) k => l_115_3 N n x (fun y => k (.exit 0) (px_115_3_0.inst y))) (B := fun (rec : pt_115_3.den → Option R) (x : pt_115_3.den) k => B_115_3 N rec x (fun y => k (.exit 0) (px_115_3_0.inst y))) (fun _ _ => rfl) (fun _ _ _ => rfl) (fun n x k => step_115_3 N n x k)
theorem rounds_115_3 {R : Type} (N : Nat) : Rounds 0 TT (E_115 (R := R) N) (drawAny TT WW) (L_115 N) 3 (loopAt 3 (bodyOf Try.f115)) :=
  rounds_of (p := pt_115_3) (l := fun (x : pt_115_3.den) k => l_115_3 N N x (fun y => k (.exit 0) (px_115_3_0.inst y))) (fun s k => rfl) (fun x k => eq_115_3 N N x k)
theorem loops_115 : loopsIn (bodyOf Try.f115) = [(3, loopAt 3 (bodyOf Try.f115))] := by kernel_rfl
theorem lok_115 {R : Type} (N : Nat) : LOK 0 TT (E_115 (R := R) N) (drawAny TT WW) (L_115 N) (bodyOf Try.f115) := loops_all loops_115 (by
  simp only [List.forall_mem_cons, List.not_mem_nil, false_implies, implies_true, and_true]
  exact rounds_115_3 N)
theorem grun_115 {R : Type} (m_115_3 : Tl_115_3 R) (x : aden ap_115 × hden hp_115) (k : KF R) : fnrun TT (EG_115) (drawAny TT WW) (LG_115 m_115_3) true Try.f115 (instA ap_115 x.1) (instH hp_115 x.2) k = Q_115 m_115_3 x (fun y => k (Pat.inst (.vec (.int .i64) 16) y) (instH hp_115 x.2)) := by kernel_rfl
theorem run_115 {R : Type} (N : Nat) (x : aden ap_115 × hden hp_115) (k : KF R) : fnrun TT (E_115 (R := R) N) (drawAny TT WW) (L_115 N) true Try.f115 (instA ap_115 x.1) (instH hp_115 x.2) k = p_115 N x (fun y => k (Pat.inst (.vec (.int .i64) 16) y) (instH hp_115 x.2)) := (grun_115 (l_115_3 N N) x k).trans (by kernel_rfl)
theorem good_115 {R : Type} (N : Nat) : GD (X := R) Try.prog QQ AA 115 ap_115 hp_115 (fun (x : aden ap_115 × hden hp_115) k => p_115 N x (fun y => k (Pat.inst (.vec (.int .i64) 16) y) (instH hp_115 x.2))) :=
  gd_quiet (E := E_115 N) (p := fun (x : aden ap_115 × hden hp_115) κ => p_115 N x (fun y => κ (Pat.inst (.vec (.int .i64) 16) y))) mixed tyok (eok_115 N) Try.func115 (by kernel_rfl) (by kernel_rfl) (lok_115 N) (fun x k => run_115 N x k)

def ap_120 : List Pat := []
def hp_120 : List (Option (Pat × Nat)) := []
abbrev Tp_120 (R : Type) : Type := (Unit) × (Unit) → ((Nat → (Nat → Int)) → Option R) → Option R
def Q_120 {R : Type} (x : (Unit) × (Unit)) (κ0 : (Nat → (Nat → Int)) → Option R) : Option R :=
let a448 : (Nat → Int) := (upd ((upd ((upd ((upd ((Sch.zero (.arr 4 (.int .i64)))) 0 0)) 1 4)) 2 8)) 3 12)
let a449 : (Nat → Int) := (upd ((upd ((upd ((upd ((Sch.zero (.arr 4 (.int .i64)))) 0 1)) 1 5)) 2 9)) 3 13)
let a450 : (Nat → Int) := (upd ((upd ((upd ((upd ((Sch.zero (.arr 4 (.int .i64)))) 0 2)) 1 6)) 2 10)) 3 14)
let a451 : (Nat → Int) := (upd ((upd ((upd ((upd ((Sch.zero (.arr 4 (.int .i64)))) 0 3)) 1 7)) 2 11)) 3 15)
let a452 : (Nat → Int) := (upd ((upd ((upd ((upd ((Sch.zero (.arr 4 (.int .i64)))) 0 0)) 1 5)) 2 10)) 3 15)
let a453 : (Nat → Int) := (upd ((upd ((upd ((upd ((Sch.zero (.arr 4 (.int .i64)))) 0 1)) 1 6)) 2 11)) 3 12)
let a454 : (Nat → Int) := (upd ((upd ((upd ((upd ((Sch.zero (.arr 4 (.int .i64)))) 0 2)) 1 7)) 2 8)) 3 13)
let a455 : (Nat → Int) := (upd ((upd ((upd ((upd ((Sch.zero (.arr 4 (.int .i64)))) 0 3)) 1 4)) 2 9)) 3 14)
let a456 : (Nat → (Nat → Int)) := (upd ((upd ((upd ((upd ((upd ((upd ((upd ((upd ((Sch.zero (.arr 8 (.arr 4 (.int .i64))))) 0 a448)) 1 a449)) 2 a450)) 3 a451)) 4 a452)) 5 a453)) 6 a454)) 7 a455)
κ0 a456
def p_120 {R : Type} (N : Nat) (x : (Unit) × (Unit)) (κ0 : (Nat → (Nat → Int)) → Option R) : Option R := Q_120 x κ0
def EG_120 {R : Type} : Env R := Env.base QQ LN AA
def LG_120 {R : Type} : Loops R := Loops.none
def E_120 {R : Type} (N : Nat) : Env R := EG_120
theorem eok_120 {R : Type} (N : Nat) : EK Try.prog (E_120 (R := R) N) := ek_base _ _ _
def L_120 {R : Type} (N : Nat) : Loops R := LG_120
theorem lok_120 {R : Type} (N : Nat) : LOK 0 TT (E_120 (R := R) N) (drawAny TT WW) (L_120 N) (bodyOf Try.f120) := loops_nil (by kernel_rfl)
theorem grun_120 {R : Type} (x : aden ap_120 × hden hp_120) (k : KF R) : fnrun TT (EG_120) (drawAny TT WW) (LG_120) true Try.f120 (instA ap_120 x.1) (instH hp_120 x.2) k = Q_120 x (fun y => k (Pat.inst (.vec (.arr 4 (.int .i64)) 8) y) (instH hp_120 x.2)) := by kernel_rfl
theorem run_120 {R : Type} (N : Nat) (x : aden ap_120 × hden hp_120) (k : KF R) : fnrun TT (E_120 (R := R) N) (drawAny TT WW) (L_120 N) true Try.f120 (instA ap_120 x.1) (instH hp_120 x.2) k = p_120 N x (fun y => k (Pat.inst (.vec (.arr 4 (.int .i64)) 8) y) (instH hp_120 x.2)) := (grun_120 x k).trans (by kernel_rfl)
theorem good_120 {R : Type} (N : Nat) : GD (X := R) Try.prog QQ AA 120 ap_120 hp_120 (fun (x : aden ap_120 × hden hp_120) k => p_120 N x (fun y => k (Pat.inst (.vec (.arr 4 (.int .i64)) 8) y) (instH hp_120 x.2))) :=
  gd_quiet (E := E_120 N) (p := fun (x : aden ap_120 × hden hp_120) κ => p_120 N x (fun y => κ (Pat.inst (.vec (.arr 4 (.int .i64)) 8) y))) mixed tyok (eok_120 N) Try.func120 (by kernel_rfl) (by kernel_rfl) (lok_120 N) (fun x k => run_120 N x k)

def ap_122 : List Pat := [.int .u64, .int .u64]
def hp_122 : List (Option (Pat × Nat)) := []
abbrev Tp_122 (R : Type) : Type := (Int × Int × Unit) × (Unit) → (Int → Option R) → Option R
def Q_122 {R : Type} (x : (Int × Int × Unit) × (Unit)) (κ0 : Int → Option R) : Option R :=
let i476 := x.1.1
let i477 := x.1.2.1
let i478 : Int := addA .u64 i476 i477
let i479 : Int := IntKind.wrap .u32 i476
let i480 : Int := IntKind.wrap .u64 i479
let i481 : Int := mulA .u64 2 i480
let i482 : Int := IntKind.wrap .u32 i477
let i483 : Int := IntKind.wrap .u64 i482
let i484 : Int := mulA .u64 i481 i483
let i485 : Int := addA .u64 i478 i484
κ0 i485
def p_122 {R : Type} (N : Nat) (x : (Int × Int × Unit) × (Unit)) (κ0 : Int → Option R) : Option R := Q_122 x κ0
def EG_122 {R : Type} : Env R := Env.base QQ LN AA
def LG_122 {R : Type} : Loops R := Loops.none
def E_122 {R : Type} (N : Nat) : Env R := EG_122
theorem eok_122 {R : Type} (N : Nat) : EK Try.prog (E_122 (R := R) N) := ek_base _ _ _
def L_122 {R : Type} (N : Nat) : Loops R := LG_122
theorem lok_122 {R : Type} (N : Nat) : LOK 0 TT (E_122 (R := R) N) (drawAny TT WW) (L_122 N) (bodyOf Try.f122) := loops_nil (by kernel_rfl)
theorem grun_122 {R : Type} (x : aden ap_122 × hden hp_122) (k : KF R) : fnrun TT (EG_122) (drawAny TT WW) (LG_122) true Try.f122 (instA ap_122 x.1) (instH hp_122 x.2) k = Q_122 x (fun y => k (Pat.inst (.int .u64) y) (instH hp_122 x.2)) := by kernel_rfl
theorem run_122 {R : Type} (N : Nat) (x : aden ap_122 × hden hp_122) (k : KF R) : fnrun TT (E_122 (R := R) N) (drawAny TT WW) (L_122 N) true Try.f122 (instA ap_122 x.1) (instH hp_122 x.2) k = p_122 N x (fun y => k (Pat.inst (.int .u64) y) (instH hp_122 x.2)) := (grun_122 x k).trans (by kernel_rfl)
theorem good_122 {R : Type} (N : Nat) : GD (X := R) Try.prog QQ AA 122 ap_122 hp_122 (fun (x : aden ap_122 × hden hp_122) k => p_122 N x (fun y => k (Pat.inst (.int .u64) y) (instH hp_122 x.2))) :=
  gd_quiet (E := E_122 N) (p := fun (x : aden ap_122 × hden hp_122) κ => p_122 N x (fun y => κ (Pat.inst (.int .u64) y))) mixed tyok (eok_122 N) Try.func122 (by kernel_rfl) (by kernel_rfl) (lok_122 N) (fun x k => run_122 N x k)

def ap_117 : List Pat := [.int .u64, .int .i64]
def hp_117 : List (Option (Pat × Nat)) := []
abbrev Tp_117 (R : Type) : Type := (Int × Int × Unit) × (Unit) → (Int → Option R) → Option R
def Q_117 {R : Type} (x : (Int × Int × Unit) × (Unit)) (κ0 : Int → Option R) : Option R :=
let i489 := x.1.1
let i490 := x.1.2.1
let i491 : Int := IntKind.wrap .u64 i490
let i492 : Int := remA .u64 i491 64
bif decide (i492 < 0) then none else (
let i493 : Int := shrA .u64 i489 i492
let i494 : Int := subA .u64 64 i492
bif decide (i494 < 0) then none else (
let i495 : Int := shlA .u64 i489 i494
let i496 : Int := orA .u64 i493 i495
κ0 i496))
def p_117 {R : Type} (N : Nat) (x : (Int × Int × Unit) × (Unit)) (κ0 : Int → Option R) : Option R := Q_117 x κ0
def EG_117 {R : Type} : Env R := Env.base QQ LN AA
def LG_117 {R : Type} : Loops R := Loops.none
def E_117 {R : Type} (N : Nat) : Env R := EG_117
theorem eok_117 {R : Type} (N : Nat) : EK Try.prog (E_117 (R := R) N) := ek_base _ _ _
def L_117 {R : Type} (N : Nat) : Loops R := LG_117
theorem lok_117 {R : Type} (N : Nat) : LOK 0 TT (E_117 (R := R) N) (drawAny TT WW) (L_117 N) (bodyOf Try.f117) := loops_nil (by kernel_rfl)
theorem grun_117 {R : Type} (x : aden ap_117 × hden hp_117) (k : KF R) : fnrun TT (EG_117) (drawAny TT WW) (LG_117) true Try.f117 (instA ap_117 x.1) (instH hp_117 x.2) k = Q_117 x (fun y => k (Pat.inst (.int .u64) y) (instH hp_117 x.2)) := by kernel_rfl
theorem run_117 {R : Type} (N : Nat) (x : aden ap_117 × hden hp_117) (k : KF R) : fnrun TT (E_117 (R := R) N) (drawAny TT WW) (L_117 N) true Try.f117 (instA ap_117 x.1) (instH hp_117 x.2) k = p_117 N x (fun y => k (Pat.inst (.int .u64) y) (instH hp_117 x.2)) := (grun_117 x k).trans (by kernel_rfl)
theorem good_117 {R : Type} (N : Nat) : GD (X := R) Try.prog QQ AA 117 ap_117 hp_117 (fun (x : aden ap_117 × hden hp_117) k => p_117 N x (fun y => k (Pat.inst (.int .u64) y) (instH hp_117 x.2))) :=
  gd_quiet (E := E_117 N) (p := fun (x : aden ap_117 × hden hp_117) κ => p_117 N x (fun y => κ (Pat.inst (.int .u64) y))) mixed tyok (eok_117 N) Try.func117 (by kernel_rfl) (by kernel_rfl) (lok_117 N) (fun x k => run_117 N x k)

def ap_121 : List Pat := [.int .u64, .int .u64, .int .u64, .int .u64]
def hp_121 : List (Option (Pat × Nat)) := []
abbrev Tp_121 (R : Type) : Type := (Int × Int × Int × Int × Unit) × (Unit) → (Y5 → Option R) → Option R
def Q_121 {R : Type} (q_122 : Tp_122 R) (q_117 : Tp_117 R) (x : (Int × Int × Int × Int × Unit) × (Unit)) (κ0 : Y5 → Option R) : Option R :=
let i472 := x.1.1
let i473 := x.1.2.1
let i474 := x.1.2.2.1
let i475 := x.1.2.2.2.1
q_122 ((i472, i473, ()), ()) (fun y486 =>
let i487 : Int := y486
let i488 : Int := xorA .u64 i475 i487
q_117 ((i488, 32, ()), ()) (fun y497 =>
let i498 : Int := y497
q_122 ((i474, i498, ()), ()) (fun y499 =>
let i500 : Int := y499
let i501 : Int := xorA .u64 i473 i500
q_117 ((i501, 24, ()), ()) (fun y502 =>
let i503 := y502
q_122 ((i487, i503, ()), ()) (fun y504 =>
let i505 : Int := y504
let i506 : Int := xorA .u64 i498 i505
q_117 ((i506, 16, ()), ()) (fun y507 =>
let i508 : Int := y507
q_122 ((i500, i508, ()), ()) (fun y509 =>
let i510 : Int := y509
let i511 : Int := xorA .u64 i503 i510
q_117 ((i511, 63, ()), ()) (fun y512 =>
let i513 := y512
κ0 ((i505, (i513, (i510, (i508, ())))))))))))))
def p_121 {R : Type} (N : Nat) (x : (Int × Int × Int × Int × Unit) × (Unit)) (κ0 : Y5 → Option R) : Option R := Q_121 (p_122 N) (p_117 N) x κ0
def EG_121 {R : Type} (q_122 : Tp_122 R) (q_117 : Tp_117 R) : Env R := ((Env.base QQ LN AA).add 122 ap_122 hp_122 (fun (x : aden ap_122 × hden hp_122) k => q_122 x (fun y => k (Pat.inst (.int .u64) y) (instH hp_122 x.2)))).add 117 ap_117 hp_117 (fun (x : aden ap_117 × hden hp_117) k => q_117 x (fun y => k (Pat.inst (.int .u64) y) (instH hp_117 x.2)))
def LG_121 {R : Type} : Loops R := Loops.none
def E_121 {R : Type} (N : Nat) : Env R := EG_121 (p_122 N) (p_117 N)
theorem eok_121 {R : Type} (N : Nat) : EK Try.prog (E_121 (R := R) N) := ek_add (ek_add (ek_base _ _ _) (good_122 N)) (good_117 N)
def L_121 {R : Type} (N : Nat) : Loops R := LG_121
theorem lok_121 {R : Type} (N : Nat) : LOK 0 TT (E_121 (R := R) N) (drawAny TT WW) (L_121 N) (bodyOf Try.f121) := loops_nil (by kernel_rfl)
theorem grun_121 {R : Type} (q_122 : Tp_122 R) (q_117 : Tp_117 R) (x : aden ap_121 × hden hp_121) (k : KF R) : fnrun TT (EG_121 q_122 q_117) (drawAny TT WW) (LG_121) true Try.f121 (instA ap_121 x.1) (instH hp_121 x.2) k = Q_121 q_122 q_117 x (fun y => k (Pat.inst (.tup (.fcons (.int .u64) (.fcons (.int .u64) (.fcons (.int .u64) (.fcons (.int .u64) (.fnil)))))) y) (instH hp_121 x.2)) := by kernel_rfl
theorem run_121 {R : Type} (N : Nat) (x : aden ap_121 × hden hp_121) (k : KF R) : fnrun TT (E_121 (R := R) N) (drawAny TT WW) (L_121 N) true Try.f121 (instA ap_121 x.1) (instH hp_121 x.2) k = p_121 N x (fun y => k (Pat.inst (.tup (.fcons (.int .u64) (.fcons (.int .u64) (.fcons (.int .u64) (.fcons (.int .u64) (.fnil)))))) y) (instH hp_121 x.2)) := (grun_121 (p_122 N) (p_117 N) x k).trans (by kernel_rfl)
theorem good_121 {R : Type} (N : Nat) : GD (X := R) Try.prog QQ AA 121 ap_121 hp_121 (fun (x : aden ap_121 × hden hp_121) k => p_121 N x (fun y => k (Pat.inst (.tup (.fcons (.int .u64) (.fcons (.int .u64) (.fcons (.int .u64) (.fcons (.int .u64) (.fnil)))))) y) (instH hp_121 x.2))) :=
  gd_quiet (E := E_121 N) (p := fun (x : aden ap_121 × hden hp_121) κ => p_121 N x (fun y => κ (Pat.inst (.tup (.fcons (.int .u64) (.fcons (.int .u64) (.fcons (.int .u64) (.fcons (.int .u64) (.fnil)))))) y))) mixed tyok (eok_121 N) Try.func121 (by kernel_rfl) (by kernel_rfl) (lok_121 N) (fun x k => run_121 N x k)

def lv_116_2 : Live := [(1, none), (2, none), (9, none), (10, none)]
def pt_116_2 : SPat := ⟨[(1, .ptr 0 []), (2, .ptr 1 []), (9, .vec (.arr 4 (.int .i64)) 8), (10, .int .i64)], [some (.vec (.int .u64) 16, 186), some (.vec (.int .u64) 16, 186)]⟩
def px_116_2_0 : SPat := ⟨[(1, .ptr 0 []), (2, .ptr 1 [])], [some (.vec (.int .u64) 16, 186), some (.vec (.int .u64) 16, 186)]⟩
def lo_116_2 : Exit → Live
  | .exit 0 => [(1, none), (2, none)]
  | _ => []
def ap_116 : List Pat := [.vec (.int .u64) 16]
def hp_116 : List (Option (Pat × Nat)) := []
abbrev Tl_116_2 (R : Type) : Type := ((Unit × Unit × (Nat → (Nat → Int)) × Int × Unit) × Y2) → (Y15 → Option R) → Option R
abbrev Tp_116 (R : Type) : Type := ((Nat → Int) × Unit) × (Unit) → ((Nat → Int) → Option R) → Option R
def C_116_2 {R : Type} (q_121 : Tp_121 R) (rec : ((Unit × Unit × (Nat → (Nat → Int)) × Int × Unit) × Y2) → Option R) (x : ((Unit × Unit × (Nat → (Nat → Int)) × Int × Unit) × Y2)) (κ0 : Y15 → Option R) : Option R :=
let a459 := x.1.2.2.1
let i460 := x.1.2.2.2.1
let a461 := x.2.1
let a462 := x.2.2.1
bif (decide (i460 < 8)) then (
bif decide (0 ≤ i460) then (
bif decide (i460 < (8 : Int)) then (
let a463 : (Nat → Int) := (a459 ((Int.toNat i460)))
let i464 : Int := (a463 0)
let i465 : Int := (a463 1)
let i466 : Int := (a463 2)
let i467 : Int := (a463 3)
bif decide (0 ≤ i464) then (
bif decide (i464 < (16 : Int)) then (
let i468 : Int := (a461 ((Int.toNat i464)))
bif decide (0 ≤ i465) then (
bif decide (i465 < (16 : Int)) then (
let i469 : Int := (a461 ((Int.toNat i465)))
bif decide (0 ≤ i466) then (
bif decide (i466 < (16 : Int)) then (
let i470 : Int := (a461 ((Int.toNat i466)))
bif decide (0 ≤ i467) then (
bif decide (i467 < (16 : Int)) then (
let i471 : Int := (a461 ((Int.toNat i467)))
q_121 ((i468, i469, i470, i471, ()), ()) (fun y514 =>
let i515 := y514.1
let i516 := y514.2.1
let i517 := y514.2.2.1
let i518 := y514.2.2.2.1
bif decide (0 ≤ i464) then (
bif decide (i464 < (16 : Int)) then (
let a519 : (Nat → Int) := (upd a461 ((Int.toNat i464)) i515)
bif decide (0 ≤ i465) then (
bif decide (i465 < (16 : Int)) then (
let a520 : (Nat → Int) := (upd a519 ((Int.toNat i465)) i516)
bif decide (0 ≤ i466) then (
bif decide (i466 < (16 : Int)) then (
let a521 : (Nat → Int) := (upd a520 ((Int.toNat i466)) i517)
bif decide (0 ≤ i467) then (
bif decide (i467 < (16 : Int)) then (
let a522 : (Nat → Int) := (upd a521 ((Int.toNat i467)) i518)
let i523 : Int := addA .i64 i460 1
rec (((), (), a459, i523, ()), (a522, a462, ()))) else none) else none) else none) else none) else none) else none) else none) else none)) else none) else none) else none) else none) else none) else none) else none) else none) else none) else none) else (
κ0 (((), (), ()), (a461, a462, ())))
def B_116_2 {R : Type} (N : Nat) (rec : ((Unit × Unit × (Nat → (Nat → Int)) × Int × Unit) × Y2) → Option R) (x : ((Unit × Unit × (Nat → (Nat → Int)) × Int × Unit) × Y2)) (κ0 : Y15 → Option R) : Option R := C_116_2 (p_121 N) rec x κ0
def l_116_2 {R : Type} (N : Nat) : Nat → ((Unit × Unit × (Nat → (Nat → Int)) × Int × Unit) × Y2) → (Y15 → Option R) → Option R
  | 0, _, _ => none
  | n + 1, x, κ0 => B_116_2 N (fun y => l_116_2 N n y κ0) x κ0
def Q_116 {R : Type} (q_120 : Tp_120 R) (q_121 : Tp_121 R) (m_116_2 : Tl_116_2 R) (x : ((Nat → Int) × Unit) × (Unit)) (κ0 : (Nat → Int) → Option R) : Option R :=
let a447 := x.1.1
q_120 ((), ()) (fun y457 =>
let a458 : (Nat → (Nat → Int)) := y457
m_116_2 (((), (), a458, 0, ()), (a447, (Sch.zero (.arr 16 (.int .u64))), ())) (fun y524 =>
let a525 := y524.2.1
κ0 a525))
def p_116 {R : Type} (N : Nat) (x : ((Nat → Int) × Unit) × (Unit)) (κ0 : (Nat → Int) → Option R) : Option R := Q_116 (p_120 N) (p_121 N) (l_116_2 N N) x κ0
def EG_116 {R : Type} (q_120 : Tp_120 R) (q_121 : Tp_121 R) : Env R := ((Env.base QQ LN AA).add 120 ap_120 hp_120 (fun (x : aden ap_120 × hden hp_120) k => q_120 x (fun y => k (Pat.inst (.vec (.arr 4 (.int .i64)) 8) y) (instH hp_120 x.2)))).add 121 ap_121 hp_121 (fun (x : aden ap_121 × hden hp_121) k => q_121 x (fun y => k (Pat.inst (.tup (.fcons (.int .u64) (.fcons (.int .u64) (.fcons (.int .u64) (.fcons (.int .u64) (.fnil)))))) y) (instH hp_121 x.2)))
def LG_116 {R : Type} (m_116_2 : Tl_116_2 R) : Loops R := (Loops.none).add 2 (loopBy 0 lv_116_2 pt_116_2 (fun x k => m_116_2 x (fun y => k (.exit 0) (px_116_2_0.inst y))))
def E_116 {R : Type} (N : Nat) : Env R := EG_116 (p_120 N) (p_121 N)
theorem eok_116 {R : Type} (N : Nat) : EK Try.prog (E_116 (R := R) N) := ek_add (ek_add (ek_base _ _ _) (good_120 N)) (good_121 N)
def L_116 {R : Type} (N : Nat) : Loops R := LG_116 (l_116_2 N N)
theorem gstep_116_2 {R : Type} (q_120 : Tp_120 R) (q_121 : Tp_121 R) (m_116_2 : Tl_116_2 R) (n : Nat) (x : pt_116_2.den) (k : Exit → St → Option R) : iter 0 lv_116_2 lo_116_2 (aexec TT (EG_116 q_120 q_121) (drawAny TT WW) (LG_116 m_116_2) (loopAt 2 (bodyOf Try.f116))) (n + 1) (pt_116_2.inst x) k = C_116_2 q_121 (fun y => iter 0 lv_116_2 lo_116_2 (aexec TT (EG_116 q_120 q_121) (drawAny TT WW) (LG_116 m_116_2) (loopAt 2 (bodyOf Try.f116))) n (pt_116_2.inst y) k) x (fun y => k (.exit 0) (px_116_2_0.inst y)) := by kernel_rfl
theorem step_116_2 {R : Type} (N n : Nat) (x : pt_116_2.den) (k : Exit → St → Option R) : iter 0 lv_116_2 lo_116_2 (aexec TT (E_116 (R := R) N) (drawAny TT WW) (L_116 N) (loopAt 2 (bodyOf Try.f116))) (n + 1) (pt_116_2.inst x) k = B_116_2 N (fun y => iter 0 lv_116_2 lo_116_2 (aexec TT (E_116 (R := R) N) (drawAny TT WW) (L_116 N) (loopAt 2 (bodyOf Try.f116))) n (pt_116_2.inst y) k) x (fun y => k (.exit 0) (px_116_2_0.inst y)) := (gstep_116_2 (p_120 N) (p_121 N) (l_116_2 N N) n x k).trans (by kernel_rfl)
theorem eq_116_2 {R : Type} (N : Nat) : ∀ (n : Nat) (x : pt_116_2.den) (k : Exit → St → Option R), iter 0 lv_116_2 lo_116_2 (aexec TT (E_116 (R := R) N) (drawAny TT WW) (L_116 N) (loopAt 2 (bodyOf Try.f116))) n (pt_116_2.inst x) k = l_116_2 N n x (fun y => k (.exit 0) (px_116_2_0.inst y)) :=
  iter_eq (K := Exit → St → Option R) (ks := fun k => k) (l := fun n (x : pt_116_2.den) k => l_116_2 N n x (fun y => k (.exit 0) (px_116_2_0.inst y))) (B := fun (rec : pt_116_2.den → Option R) (x : pt_116_2.den) k => B_116_2 N rec x (fun y => k (.exit 0) (px_116_2_0.inst y))) (fun _ _ => rfl) (fun _ _ _ => rfl) (fun n x k => step_116_2 N n x k)
theorem rounds_116_2 {R : Type} (N : Nat) : Rounds 0 TT (E_116 (R := R) N) (drawAny TT WW) (L_116 N) 2 (loopAt 2 (bodyOf Try.f116)) :=
  rounds_of (p := pt_116_2) (l := fun (x : pt_116_2.den) k => l_116_2 N N x (fun y => k (.exit 0) (px_116_2_0.inst y))) (fun s k => rfl) (fun x k => eq_116_2 N N x k)
theorem loops_116 : loopsIn (bodyOf Try.f116) = [(2, loopAt 2 (bodyOf Try.f116))] := by kernel_rfl
theorem lok_116 {R : Type} (N : Nat) : LOK 0 TT (E_116 (R := R) N) (drawAny TT WW) (L_116 N) (bodyOf Try.f116) := loops_all loops_116 (by
  simp only [List.forall_mem_cons, List.not_mem_nil, false_implies, implies_true, and_true]
  exact rounds_116_2 N)
theorem grun_116 {R : Type} (q_120 : Tp_120 R) (q_121 : Tp_121 R) (m_116_2 : Tl_116_2 R) (x : aden ap_116 × hden hp_116) (k : KF R) : fnrun TT (EG_116 q_120 q_121) (drawAny TT WW) (LG_116 m_116_2) true Try.f116 (instA ap_116 x.1) (instH hp_116 x.2) k = Q_116 q_120 q_121 m_116_2 x (fun y => k (Pat.inst (.vec (.int .u64) 16) y) (instH hp_116 x.2)) := by kernel_rfl
theorem run_116 {R : Type} (N : Nat) (x : aden ap_116 × hden hp_116) (k : KF R) : fnrun TT (E_116 (R := R) N) (drawAny TT WW) (L_116 N) true Try.f116 (instA ap_116 x.1) (instH hp_116 x.2) k = p_116 N x (fun y => k (Pat.inst (.vec (.int .u64) 16) y) (instH hp_116 x.2)) := (grun_116 (p_120 N) (p_121 N) (l_116_2 N N) x k).trans (by kernel_rfl)
theorem good_116 {R : Type} (N : Nat) : GD (X := R) Try.prog QQ AA 116 ap_116 hp_116 (fun (x : aden ap_116 × hden hp_116) k => p_116 N x (fun y => k (Pat.inst (.vec (.int .u64) 16) y) (instH hp_116 x.2))) :=
  gd_quiet (E := E_116 N) (p := fun (x : aden ap_116 × hden hp_116) κ => p_116 N x (fun y => κ (Pat.inst (.vec (.int .u64) 16) y))) mixed tyok (eok_116 N) Try.func116 (by kernel_rfl) (by kernel_rfl) (lok_116 N) (fun x k => run_116 N x k)

def lv_105_10 : Live := [(1, none), (2, none), (4, none), (6, none), (7, none), (12, none), (13, none), (14, none), (18, none), (24, none), (25, none)]
def pt_105_10 : SPat := ⟨[(1, .ptr 0 []), (2, .ptr 1 []), (4, .bool), (6, .ptr 2 []), (7, .ptr 3 []), (12, .sl 4), (13, .int .i64), (14, .int .i64), (18, .int .i64), (24, .vec (.int .i64) 16), (25, .int .i64)], [some (.vec (.int .u64) 128, 29), some (.vec (.int .u64) 128, 29), some (.vec (.int .i64) 16, 192), some (.vec (.int .u64) 16, 186), some (.lst (.bool), 4)]⟩
def px_105_10_0 : SPat := ⟨[(1, .ptr 0 []), (2, .ptr 1 []), (4, .bool), (6, .ptr 2 []), (7, .ptr 3 []), (12, .sl 4), (13, .int .i64), (14, .int .i64), (18, .int .i64)], [some (.vec (.int .u64) 128, 29), some (.vec (.int .u64) 128, 29), some (.vec (.int .i64) 16, 192), some (.vec (.int .u64) 16, 186), some (.lst (.bool), 4)]⟩
def lo_105_10 : Exit → Live
  | .exit 4 => [(1, none), (2, none), (4, none), (6, none), (7, none), (12, none), (13, none), (14, none), (18, none)]
  | _ => []
def lv_105_16 : Live := [(1, none), (2, none), (4, none), (7, none), (12, none), (13, none), (14, none), (18, none), (37, none), (38, none)]
def pt_105_16 : SPat := ⟨[(1, .ptr 0 []), (2, .ptr 1 []), (4, .bool), (7, .ptr 2 []), (12, .sl 3), (13, .int .i64), (14, .int .i64), (18, .int .i64), (37, .vec (.int .i64) 16), (38, .int .i64)], [some (.vec (.int .u64) 128, 29), some (.vec (.int .u64) 128, 29), some (.vec (.int .u64) 16, 186), some (.lst (.bool), 4)]⟩
def px_105_16_0 : SPat := ⟨[(1, .ptr 0 []), (2, .ptr 1 []), (4, .bool), (12, .sl 2), (13, .int .i64), (14, .int .i64), (18, .int .i64)], [some (.vec (.int .u64) 128, 29), some (.vec (.int .u64) 128, 29), some (.lst (.bool), 4)]⟩
def lo_105_16 : Exit → Live
  | .exit 6 => [(1, none), (2, none), (4, none), (12, none), (13, none), (14, none), (18, none)]
  | _ => []
def lv_105_5 : Live := [(1, none), (2, none), (4, none), (12, none), (13, none), (14, none), (18, none)]
def pt_105_5 : SPat := ⟨[(1, .ptr 0 []), (2, .ptr 1 []), (4, .bool), (12, .sl 2), (13, .int .i64), (14, .int .i64), (18, .int .i64)], [some (.vec (.int .u64) 128, 29), some (.vec (.int .u64) 128, 29), some (.lst (.bool), 4)]⟩
def px_105_5_0 : SPat := ⟨[(1, .ptr 0 []), (2, .ptr 1 []), (12, .sl 2), (13, .int .i64), (14, .int .i64)], [some (.vec (.int .u64) 128, 29), some (.vec (.int .u64) 128, 29), some (.lst (.bool), 4)]⟩
def lo_105_5 : Exit → Live
  | .exit 2 => [(1, none), (2, none), (12, none), (13, none), (14, none)]
  | _ => []
def lv_105_2 : Live := [(1, none), (2, none), (12, none), (13, none), (14, none)]
def pt_105_2 : SPat := ⟨[(1, .ptr 0 []), (2, .ptr 1 []), (12, .sl 2), (13, .int .i64), (14, .int .i64)], [some (.vec (.int .u64) 128, 29), some (.vec (.int .u64) 128, 29), some (.lst (.bool), 4)]⟩
def px_105_2_0 : SPat := ⟨[(1, .ptr 0 []), (2, .ptr 1 [])], J3⟩
def lo_105_2 : Exit → Live
  | .exit 0 => [(1, none), (2, none)]
  | _ => []
def ap_105 : List Pat := [.vec (.int .u64) 128]
def hp_105 : List (Option (Pat × Nat)) := []
abbrev Tl_105_10 (R : Type) : Type := Y21 → (((Unit × Unit × Bool × Unit × Unit × Unit × Int × Int × Int × Unit) × ((Nat → Int) × (Nat → Int) × (Nat → Int) × (Nat → Int) × (List Bool) × Unit)) → Option R) → Option R
abbrev Tl_105_16 (R : Type) : Type := Y25 → (Y17 → Option R) → Option R
abbrev Tl_105_5 (R : Type) : Type := Y17 → (Y19 → Option R) → Option R
abbrev Tl_105_2 (R : Type) : Type := Y19 → (Y15 → Option R) → Option R
abbrev Tp_105 (R : Type) : Type := ((Nat → Int) × Unit) × (Unit) → ((Nat → Int) → Option R) → Option R
def C_105_10 {R : Type} (rec : Y21 → Option R) (x : Y21) (κ0 : ((Unit × Unit × Bool × Unit × Unit × Unit × Int × Int × Int × Unit) × ((Nat → Int) × (Nat → Int) × (Nat → Int) × (Nat → Int) × (List Bool) × Unit)) → Option R) : Option R :=
let b422 := x.1.2.2.1
let i423 := x.1.2.2.2.2.2.2.1
let i424 := x.1.2.2.2.2.2.2.2.1
let i425 := x.1.2.2.2.2.2.2.2.2.1
let a426 := x.1.2.2.2.2.2.2.2.2.2.1
let i427 := x.1.2.2.2.2.2.2.2.2.2.2.1
let a428 := x.2.1
let a429 := x.2.2.1
let a430 := x.2.2.2.1
let a431 := x.2.2.2.2.1
let l432 := x.2.2.2.2.2.1
bif (decide (i427 < 16)) then (
bif decide (0 ≤ i427) then (
bif decide (i427 < (16 : Int)) then (
let i433 : Int := (a426 ((Int.toNat i427)))
bif decide (0 ≤ i433) then (
bif decide (i433 < (128 : Int)) then (
let i434 : Int := (a428 ((Int.toNat i433)))
bif decide (0 ≤ i427) then (
bif decide (i427 < (16 : Int)) then (
let a435 : (Nat → Int) := (upd a431 ((Int.toNat i427)) i434)
let i436 : Int := addA .i64 i427 1
rec (((), (), b422, (), (), (), i423, i424, i425, a426, i436, ()), (a428, a429, a430, a435, l432, ()))) else none) else none) else none) else none) else none) else none) else (
κ0 (((), (), b422, (), (), (), i423, i424, i425, ()), (a428, a429, a430, a431, l432, ())))
def C_105_16 {R : Type} (rec : Y25 → Option R) (x : Y25) (κ0 : Y17 → Option R) : Option R :=
let b529 := x.1.2.2.1
let i530 := x.1.2.2.2.2.2.1
let i531 := x.1.2.2.2.2.2.2.1
let i532 := x.1.2.2.2.2.2.2.2.1
let a533 := x.1.2.2.2.2.2.2.2.2.1
let i534 := x.1.2.2.2.2.2.2.2.2.2.1
let a535 := x.2.1
let a536 := x.2.2.1
let a537 := x.2.2.2.1
let l538 := x.2.2.2.2.1
bif (decide (i534 < 16)) then (
bif decide (0 ≤ i534) then (
bif decide (i534 < (16 : Int)) then (
let i539 : Int := (a533 ((Int.toNat i534)))
bif decide (0 ≤ i534) then (
bif decide (i534 < (16 : Int)) then (
let i540 : Int := (a537 ((Int.toNat i534)))
bif decide (0 ≤ i539) then (
bif decide (i539 < (128 : Int)) then (
let a541 : (Nat → Int) := (upd a535 ((Int.toNat i539)) i540)
let i542 : Int := addA .i64 i534 1
rec (((), (), b529, (), (), i530, i531, i532, a533, i542, ()), (a541, a536, a537, l538, ()))) else none) else none) else none) else none) else none) else none) else (
κ0 (((), (), b529, (), i530, i531, i532, ()), (a535, a536, l538, ())))
def C_105_5 {R : Type} (q_115 : Tp_115 R) (q_116 : Tp_116 R) (m_105_10 : Tl_105_10 R) (m_105_16 : Tl_105_16 R) (rec : Y17 → Option R) (x : Y17) (κ0 : Y19 → Option R) : Option R :=
let b391 := x.1.2.2.1
let i392 := x.1.2.2.2.2.1
let i393 := x.1.2.2.2.2.2.1
let i394 := x.1.2.2.2.2.2.2.1
let a395 := x.2.1
let a396 := x.2.2.1
let l397 := x.2.2.2.1
bif (decide (i394 < 8)) then (
q_115 ((i394, b391, ()), ()) (fun y420 =>
let a421 : (Nat → Int) := y420
m_105_10 (((), (), b391, (), (), (), i392, i393, i394, a421, 0, ()), (a395, a396, a421, (Sch.zero (.arr 16 (.int .u64))), l397, ())) (fun y437 =>
let b438 := y437.1.2.2.1
let i439 := y437.1.2.2.2.2.2.2.1
let i440 := y437.1.2.2.2.2.2.2.2.1
let i441 := y437.1.2.2.2.2.2.2.2.2.1
let a442 := y437.2.1
let a443 := y437.2.2.1
let a444 := y437.2.2.2.1
let a445 := y437.2.2.2.2.1
let l446 := y437.2.2.2.2.2.1
q_116 ((a445, ()), ()) (fun y527 =>
let a528 : (Nat → Int) := y527
m_105_16 (((), (), b438, (), (), i439, i440, i441, a444, 0, ()), (a442, a443, a528, l446, ())) (fun y543 =>
let b544 := y543.1.2.2.1
let i545 := y543.1.2.2.2.2.1
let i546 := y543.1.2.2.2.2.2.1
let i547 := y543.1.2.2.2.2.2.2.1
let a548 := y543.2.1
let a549 := y543.2.2.1
let l550 := y543.2.2.2.1
let i551 : Int := addA .i64 i547 1
rec (((), (), b544, (), i545, i546, i551, ()), (a548, a549, l550, ()))))))) else (
κ0 (((), (), (), i392, i393, ()), (a395, a396, l397, ())))
def C_105_2 {R : Type} (m_105_5 : Tl_105_5 R) (rec : Y19 → Option R) (x : Y19) (κ0 : Y15 → Option R) : Option R :=
let i385 := x.1.2.2.2.1
let i386 := x.1.2.2.2.2.1
let a387 := x.2.1
let a388 := x.2.2.1
let l389 := x.2.2.2.1
bif (decide (i386 < i385)) then (
bif decide (0 ≤ i386) then (
bif decide (i386 < ((List.length l389) : Int)) then (
let b390 : Bool := (List.getD l389 ((Int.toNat i386)) (Sch.zero (.bool)))
m_105_5 (((), (), b390, (), i385, i386, 0, ()), (a387, a388, l389, ())) (fun y552 =>
let i553 := y552.1.2.2.2.1
let i554 := y552.1.2.2.2.2.1
let a555 := y552.2.1
let a556 := y552.2.2.1
let l557 := y552.2.2.2.1
let i558 : Int := addA .i64 i554 1
rec (((), (), (), i553, i558, ()), (a555, a556, l557, ())))) else none) else none) else (
κ0 (((), (), ()), (a387, a388, ())))
def B_105_10 {R : Type} (N : Nat) (rec : Y21 → Option R) (x : Y21) (κ0 : ((Unit × Unit × Bool × Unit × Unit × Unit × Int × Int × Int × Unit) × ((Nat → Int) × (Nat → Int) × (Nat → Int) × (Nat → Int) × (List Bool) × Unit)) → Option R) : Option R := C_105_10 rec x κ0
def l_105_10 {R : Type} (N : Nat) : Nat → Y21 → (((Unit × Unit × Bool × Unit × Unit × Unit × Int × Int × Int × Unit) × ((Nat → Int) × (Nat → Int) × (Nat → Int) × (Nat → Int) × (List Bool) × Unit)) → Option R) → Option R
  | 0, _, _ => none
  | n + 1, x, κ0 => B_105_10 N (fun y => l_105_10 N n y κ0) x κ0
def B_105_16 {R : Type} (N : Nat) (rec : Y25 → Option R) (x : Y25) (κ0 : Y17 → Option R) : Option R := C_105_16 rec x κ0
def l_105_16 {R : Type} (N : Nat) : Nat → Y25 → (Y17 → Option R) → Option R
  | 0, _, _ => none
  | n + 1, x, κ0 => B_105_16 N (fun y => l_105_16 N n y κ0) x κ0
def B_105_5 {R : Type} (N : Nat) (rec : Y17 → Option R) (x : Y17) (κ0 : Y19 → Option R) : Option R := C_105_5 (p_115 N) (p_116 N) (l_105_10 N N) (l_105_16 N N) rec x κ0
def l_105_5 {R : Type} (N : Nat) : Nat → Y17 → (Y19 → Option R) → Option R
  | 0, _, _ => none
  | n + 1, x, κ0 => B_105_5 N (fun y => l_105_5 N n y κ0) x κ0
def B_105_2 {R : Type} (N : Nat) (rec : Y19 → Option R) (x : Y19) (κ0 : Y15 → Option R) : Option R := C_105_2 (l_105_5 N N) rec x κ0
def l_105_2 {R : Type} (N : Nat) : Nat → Y19 → (Y15 → Option R) → Option R
  | 0, _, _ => none
  | n + 1, x, κ0 => B_105_2 N (fun y => l_105_2 N n y κ0) x κ0
def Q_105 {R : Type} (q_115 : Tp_115 R) (q_116 : Tp_116 R) (m_105_10 : Tl_105_10 R) (m_105_16 : Tl_105_16 R) (m_105_5 : Tl_105_5 R) (m_105_2 : Tl_105_2 R) (x : ((Nat → Int) × Unit) × (Unit)) (κ0 : (Nat → Int) → Option R) : Option R :=
let a382 := x.1.1
let l383 : (List Bool) := [false, true]
let i384 : Int := (((List.length l383) : Nat) : Int)
m_105_2 (((), (), (), i384, 0, ()), (a382, (Sch.zero (.arr 128 (.int .u64))), l383, ())) (fun y559 =>
let a560 := y559.2.1
κ0 a560)
def p_105 {R : Type} (N : Nat) (x : ((Nat → Int) × Unit) × (Unit)) (κ0 : (Nat → Int) → Option R) : Option R := Q_105 (p_115 N) (p_116 N) (l_105_10 N N) (l_105_16 N N) (l_105_5 N N) (l_105_2 N N) x κ0
def EG_105 {R : Type} (q_115 : Tp_115 R) (q_116 : Tp_116 R) : Env R := ((Env.base QQ LN AA).add 115 ap_115 hp_115 (fun (x : aden ap_115 × hden hp_115) k => q_115 x (fun y => k (Pat.inst (.vec (.int .i64) 16) y) (instH hp_115 x.2)))).add 116 ap_116 hp_116 (fun (x : aden ap_116 × hden hp_116) k => q_116 x (fun y => k (Pat.inst (.vec (.int .u64) 16) y) (instH hp_116 x.2)))
def LG_105 {R : Type} (m_105_10 : Tl_105_10 R) (m_105_16 : Tl_105_16 R) (m_105_5 : Tl_105_5 R) (m_105_2 : Tl_105_2 R) : Loops R := ((((Loops.none).add 10 (loopBy 0 lv_105_10 pt_105_10 (fun x k => m_105_10 x (fun y => k (.exit 4) (px_105_10_0.inst y))))).add 16 (loopBy 0 lv_105_16 pt_105_16 (fun x k => m_105_16 x (fun y => k (.exit 6) (px_105_16_0.inst y))))).add 5 (loopBy 0 lv_105_5 pt_105_5 (fun x k => m_105_5 x (fun y => k (.exit 2) (px_105_5_0.inst y))))).add 2 (loopBy 0 lv_105_2 pt_105_2 (fun x k => m_105_2 x (fun y => k (.exit 0) (px_105_2_0.inst y))))
def E_105 {R : Type} (N : Nat) : Env R := EG_105 (p_115 N) (p_116 N)
theorem eok_105 {R : Type} (N : Nat) : EK Try.prog (E_105 (R := R) N) := ek_add (ek_add (ek_base _ _ _) (good_115 N)) (good_116 N)
def L_105 {R : Type} (N : Nat) : Loops R := LG_105 (l_105_10 N N) (l_105_16 N N) (l_105_5 N N) (l_105_2 N N)
theorem gstep_105_10 {R : Type} (q_115 : Tp_115 R) (q_116 : Tp_116 R) (m_105_10 : Tl_105_10 R) (m_105_16 : Tl_105_16 R) (m_105_5 : Tl_105_5 R) (m_105_2 : Tl_105_2 R) (n : Nat) (x : pt_105_10.den) (k : Exit → St → Option R) : iter 0 lv_105_10 lo_105_10 (aexec TT (EG_105 q_115 q_116) (drawAny TT WW) (LG_105 m_105_10 m_105_16 m_105_5 m_105_2) (loopAt 10 (bodyOf Try.f105))) (n + 1) (pt_105_10.inst x) k = C_105_10 (fun y => iter 0 lv_105_10 lo_105_10 (aexec TT (EG_105 q_115 q_116) (drawAny TT WW) (LG_105 m_105_10 m_105_16 m_105_5 m_105_2) (loopAt 10 (bodyOf Try.f105))) n (pt_105_10.inst y) k) x (fun y => k (.exit 4) (px_105_10_0.inst y)) := by kernel_rfl
theorem step_105_10 {R : Type} (N n : Nat) (x : pt_105_10.den) (k : Exit → St → Option R) : iter 0 lv_105_10 lo_105_10 (aexec TT (E_105 (R := R) N) (drawAny TT WW) (L_105 N) (loopAt 10 (bodyOf Try.f105))) (n + 1) (pt_105_10.inst x) k = B_105_10 N (fun y => iter 0 lv_105_10 lo_105_10 (aexec TT (E_105 (R := R) N) (drawAny TT WW) (L_105 N) (loopAt 10 (bodyOf Try.f105))) n (pt_105_10.inst y) k) x (fun y => k (.exit 4) (px_105_10_0.inst y)) := (gstep_105_10 (p_115 N) (p_116 N) (l_105_10 N N) (l_105_16 N N) (l_105_5 N N) (l_105_2 N N) n x k).trans (by kernel_rfl)
theorem eq_105_10 {R : Type} (N : Nat) : ∀ (n : Nat) (x : pt_105_10.den) (k : Exit → St → Option R), iter 0 lv_105_10 lo_105_10 (aexec TT (E_105 (R := R) N) (drawAny TT WW) (L_105 N) (loopAt 10 (bodyOf Try.f105))) n (pt_105_10.inst x) k = l_105_10 N n x (fun y => k (.exit 4) (px_105_10_0.inst y)) :=
  iter_eq (K := Exit → St → Option R) (ks := fun k => k) (l := fun n (x : pt_105_10.den) k => l_105_10 N n x (fun y => k (.exit 4) (px_105_10_0.inst y))) (B := fun (rec : pt_105_10.den → Option R) (x : pt_105_10.den) k => B_105_10 N rec x (fun y => k (.exit 4) (px_105_10_0.inst y))) (fun _ _ => rfl) (fun _ _ _ => rfl) (fun n x k => step_105_10 N n x k)
theorem rounds_105_10 {R : Type} (N : Nat) : Rounds 0 TT (E_105 (R := R) N) (drawAny TT WW) (L_105 N) 10 (loopAt 10 (bodyOf Try.f105)) :=
  rounds_of (p := pt_105_10) (l := fun (x : pt_105_10.den) k => l_105_10 N N x (fun y => k (.exit 4) (px_105_10_0.inst y))) (fun s k => rfl) (fun x k => eq_105_10 N N x k)
theorem gstep_105_16 {R : Type} (q_115 : Tp_115 R) (q_116 : Tp_116 R) (m_105_10 : Tl_105_10 R) (m_105_16 : Tl_105_16 R) (m_105_5 : Tl_105_5 R) (m_105_2 : Tl_105_2 R) (n : Nat) (x : pt_105_16.den) (k : Exit → St → Option R) : iter 0 lv_105_16 lo_105_16 (aexec TT (EG_105 q_115 q_116) (drawAny TT WW) (LG_105 m_105_10 m_105_16 m_105_5 m_105_2) (loopAt 16 (bodyOf Try.f105))) (n + 1) (pt_105_16.inst x) k = C_105_16 (fun y => iter 0 lv_105_16 lo_105_16 (aexec TT (EG_105 q_115 q_116) (drawAny TT WW) (LG_105 m_105_10 m_105_16 m_105_5 m_105_2) (loopAt 16 (bodyOf Try.f105))) n (pt_105_16.inst y) k) x (fun y => k (.exit 6) (px_105_16_0.inst y)) := by kernel_rfl
theorem step_105_16 {R : Type} (N n : Nat) (x : pt_105_16.den) (k : Exit → St → Option R) : iter 0 lv_105_16 lo_105_16 (aexec TT (E_105 (R := R) N) (drawAny TT WW) (L_105 N) (loopAt 16 (bodyOf Try.f105))) (n + 1) (pt_105_16.inst x) k = B_105_16 N (fun y => iter 0 lv_105_16 lo_105_16 (aexec TT (E_105 (R := R) N) (drawAny TT WW) (L_105 N) (loopAt 16 (bodyOf Try.f105))) n (pt_105_16.inst y) k) x (fun y => k (.exit 6) (px_105_16_0.inst y)) := (gstep_105_16 (p_115 N) (p_116 N) (l_105_10 N N) (l_105_16 N N) (l_105_5 N N) (l_105_2 N N) n x k).trans (by kernel_rfl)
theorem eq_105_16 {R : Type} (N : Nat) : ∀ (n : Nat) (x : pt_105_16.den) (k : Exit → St → Option R), iter 0 lv_105_16 lo_105_16 (aexec TT (E_105 (R := R) N) (drawAny TT WW) (L_105 N) (loopAt 16 (bodyOf Try.f105))) n (pt_105_16.inst x) k = l_105_16 N n x (fun y => k (.exit 6) (px_105_16_0.inst y)) :=
  iter_eq (K := Exit → St → Option R) (ks := fun k => k) (l := fun n (x : pt_105_16.den) k => l_105_16 N n x (fun y => k (.exit 6) (px_105_16_0.inst y))) (B := fun (rec : pt_105_16.den → Option R) (x : pt_105_16.den) k => B_105_16 N rec x (fun y => k (.exit 6) (px_105_16_0.inst y))) (fun _ _ => rfl) (fun _ _ _ => rfl) (fun n x k => step_105_16 N n x k)
theorem rounds_105_16 {R : Type} (N : Nat) : Rounds 0 TT (E_105 (R := R) N) (drawAny TT WW) (L_105 N) 16 (loopAt 16 (bodyOf Try.f105)) :=
  rounds_of (p := pt_105_16) (l := fun (x : pt_105_16.den) k => l_105_16 N N x (fun y => k (.exit 6) (px_105_16_0.inst y))) (fun s k => rfl) (fun x k => eq_105_16 N N x k)
theorem gstep_105_5 {R : Type} (q_115 : Tp_115 R) (q_116 : Tp_116 R) (m_105_10 : Tl_105_10 R) (m_105_16 : Tl_105_16 R) (m_105_5 : Tl_105_5 R) (m_105_2 : Tl_105_2 R) (n : Nat) (x : pt_105_5.den) (k : Exit → St → Option R) : iter 0 lv_105_5 lo_105_5 (aexec TT (EG_105 q_115 q_116) (drawAny TT WW) (LG_105 m_105_10 m_105_16 m_105_5 m_105_2) (loopAt 5 (bodyOf Try.f105))) (n + 1) (pt_105_5.inst x) k = C_105_5 q_115 q_116 m_105_10 m_105_16 (fun y => iter 0 lv_105_5 lo_105_5 (aexec TT (EG_105 q_115 q_116) (drawAny TT WW) (LG_105 m_105_10 m_105_16 m_105_5 m_105_2) (loopAt 5 (bodyOf Try.f105))) n (pt_105_5.inst y) k) x (fun y => k (.exit 2) (px_105_5_0.inst y)) := by kernel_rfl
theorem step_105_5 {R : Type} (N n : Nat) (x : pt_105_5.den) (k : Exit → St → Option R) : iter 0 lv_105_5 lo_105_5 (aexec TT (E_105 (R := R) N) (drawAny TT WW) (L_105 N) (loopAt 5 (bodyOf Try.f105))) (n + 1) (pt_105_5.inst x) k = B_105_5 N (fun y => iter 0 lv_105_5 lo_105_5 (aexec TT (E_105 (R := R) N) (drawAny TT WW) (L_105 N) (loopAt 5 (bodyOf Try.f105))) n (pt_105_5.inst y) k) x (fun y => k (.exit 2) (px_105_5_0.inst y)) := (gstep_105_5 (p_115 N) (p_116 N) (l_105_10 N N) (l_105_16 N N) (l_105_5 N N) (l_105_2 N N) n x k).trans (by kernel_rfl)
theorem eq_105_5 {R : Type} (N : Nat) : ∀ (n : Nat) (x : pt_105_5.den) (k : Exit → St → Option R), iter 0 lv_105_5 lo_105_5 (aexec TT (E_105 (R := R) N) (drawAny TT WW) (L_105 N) (loopAt 5 (bodyOf Try.f105))) n (pt_105_5.inst x) k = l_105_5 N n x (fun y => k (.exit 2) (px_105_5_0.inst y)) :=
  iter_eq (K := Exit → St → Option R) (ks := fun k => k) (l := fun n (x : pt_105_5.den) k => l_105_5 N n x (fun y => k (.exit 2) (px_105_5_0.inst y))) (B := fun (rec : pt_105_5.den → Option R) (x : pt_105_5.den) k => B_105_5 N rec x (fun y => k (.exit 2) (px_105_5_0.inst y))) (fun _ _ => rfl) (fun _ _ _ => rfl) (fun n x k => step_105_5 N n x k)
theorem rounds_105_5 {R : Type} (N : Nat) : Rounds 0 TT (E_105 (R := R) N) (drawAny TT WW) (L_105 N) 5 (loopAt 5 (bodyOf Try.f105)) :=
  rounds_of (p := pt_105_5) (l := fun (x : pt_105_5.den) k => l_105_5 N N x (fun y => k (.exit 2) (px_105_5_0.inst y))) (fun s k => rfl) (fun x k => eq_105_5 N N x k)
theorem gstep_105_2 {R : Type} (q_115 : Tp_115 R) (q_116 : Tp_116 R) (m_105_10 : Tl_105_10 R) (m_105_16 : Tl_105_16 R) (m_105_5 : Tl_105_5 R) (m_105_2 : Tl_105_2 R) (n : Nat) (x : pt_105_2.den) (k : Exit → St → Option R) : iter 0 lv_105_2 lo_105_2 (aexec TT (EG_105 q_115 q_116) (drawAny TT WW) (LG_105 m_105_10 m_105_16 m_105_5 m_105_2) (loopAt 2 (bodyOf Try.f105))) (n + 1) (pt_105_2.inst x) k = C_105_2 m_105_5 (fun y => iter 0 lv_105_2 lo_105_2 (aexec TT (EG_105 q_115 q_116) (drawAny TT WW) (LG_105 m_105_10 m_105_16 m_105_5 m_105_2) (loopAt 2 (bodyOf Try.f105))) n (pt_105_2.inst y) k) x (fun y => k (.exit 0) (px_105_2_0.inst y)) := by kernel_rfl
theorem step_105_2 {R : Type} (N n : Nat) (x : pt_105_2.den) (k : Exit → St → Option R) : iter 0 lv_105_2 lo_105_2 (aexec TT (E_105 (R := R) N) (drawAny TT WW) (L_105 N) (loopAt 2 (bodyOf Try.f105))) (n + 1) (pt_105_2.inst x) k = B_105_2 N (fun y => iter 0 lv_105_2 lo_105_2 (aexec TT (E_105 (R := R) N) (drawAny TT WW) (L_105 N) (loopAt 2 (bodyOf Try.f105))) n (pt_105_2.inst y) k) x (fun y => k (.exit 0) (px_105_2_0.inst y)) := (gstep_105_2 (p_115 N) (p_116 N) (l_105_10 N N) (l_105_16 N N) (l_105_5 N N) (l_105_2 N N) n x k).trans (by kernel_rfl)
theorem eq_105_2 {R : Type} (N : Nat) : ∀ (n : Nat) (x : pt_105_2.den) (k : Exit → St → Option R), iter 0 lv_105_2 lo_105_2 (aexec TT (E_105 (R := R) N) (drawAny TT WW) (L_105 N) (loopAt 2 (bodyOf Try.f105))) n (pt_105_2.inst x) k = l_105_2 N n x (fun y => k (.exit 0) (px_105_2_0.inst y)) :=
  iter_eq (K := Exit → St → Option R) (ks := fun k => k) (l := fun n (x : pt_105_2.den) k => l_105_2 N n x (fun y => k (.exit 0) (px_105_2_0.inst y))) (B := fun (rec : pt_105_2.den → Option R) (x : pt_105_2.den) k => B_105_2 N rec x (fun y => k (.exit 0) (px_105_2_0.inst y))) (fun _ _ => rfl) (fun _ _ _ => rfl) (fun n x k => step_105_2 N n x k)
theorem rounds_105_2 {R : Type} (N : Nat) : Rounds 0 TT (E_105 (R := R) N) (drawAny TT WW) (L_105 N) 2 (loopAt 2 (bodyOf Try.f105)) :=
  rounds_of (p := pt_105_2) (l := fun (x : pt_105_2.den) k => l_105_2 N N x (fun y => k (.exit 0) (px_105_2_0.inst y))) (fun s k => rfl) (fun x k => eq_105_2 N N x k)
theorem loops_105 : loopsIn (bodyOf Try.f105) = [(2, loopAt 2 (bodyOf Try.f105)), (5, loopAt 5 (bodyOf Try.f105)), (10, loopAt 10 (bodyOf Try.f105)), (16, loopAt 16 (bodyOf Try.f105))] := by kernel_rfl
theorem lok_105 {R : Type} (N : Nat) : LOK 0 TT (E_105 (R := R) N) (drawAny TT WW) (L_105 N) (bodyOf Try.f105) := loops_all loops_105 (by
  simp only [List.forall_mem_cons, List.not_mem_nil, false_implies, implies_true, and_true]
  exact ⟨rounds_105_2 N, rounds_105_5 N, rounds_105_10 N, rounds_105_16 N⟩)
theorem grun_105 {R : Type} (q_115 : Tp_115 R) (q_116 : Tp_116 R) (m_105_10 : Tl_105_10 R) (m_105_16 : Tl_105_16 R) (m_105_5 : Tl_105_5 R) (m_105_2 : Tl_105_2 R) (x : aden ap_105 × hden hp_105) (k : KF R) : fnrun TT (EG_105 q_115 q_116) (drawAny TT WW) (LG_105 m_105_10 m_105_16 m_105_5 m_105_2) true Try.f105 (instA ap_105 x.1) (instH hp_105 x.2) k = Q_105 q_115 q_116 m_105_10 m_105_16 m_105_5 m_105_2 x (fun y => k (Pat.inst (.vec (.int .u64) 128) y) (instH hp_105 x.2)) := by kernel_rfl
theorem run_105 {R : Type} (N : Nat) (x : aden ap_105 × hden hp_105) (k : KF R) : fnrun TT (E_105 (R := R) N) (drawAny TT WW) (L_105 N) true Try.f105 (instA ap_105 x.1) (instH hp_105 x.2) k = p_105 N x (fun y => k (Pat.inst (.vec (.int .u64) 128) y) (instH hp_105 x.2)) := (grun_105 (p_115 N) (p_116 N) (l_105_10 N N) (l_105_16 N N) (l_105_5 N N) (l_105_2 N N) x k).trans (by kernel_rfl)
theorem good_105 {R : Type} (N : Nat) : GD (X := R) Try.prog QQ AA 105 ap_105 hp_105 (fun (x : aden ap_105 × hden hp_105) k => p_105 N x (fun y => k (Pat.inst (.vec (.int .u64) 128) y) (instH hp_105 x.2))) :=
  gd_quiet (E := E_105 N) (p := fun (x : aden ap_105 × hden hp_105) κ => p_105 N x (fun y => κ (Pat.inst (.vec (.int .u64) 128) y))) mixed tyok (eok_105 N) Try.func105 (by kernel_rfl) (by kernel_rfl) (lok_105 N) (fun x k => run_105 N x k)

def ap_95 : List Pat := [.vec (.int .u64) 128, .vec (.int .u64) 128]
def hp_95 : List (Option (Pat × Nat)) := []
abbrev Tp_95 (R : Type) : Type := Y2 × (Unit) → ((Nat → Int) → Option R) → Option R
def Q_95 {R : Type} (q_48 : Tp_48 R) (q_105 : Tp_105 R) (x : Y2 × (Unit)) (κ0 : (Nat → Int) → Option R) : Option R :=
let a347 := x.1.1
let a348 := x.1.2.1
let l349 : (List (Nat → Int)) := [a347, a348]
q_48 ((l349, ()), ()) (fun y380 =>
let a381 : (Nat → Int) := y380
q_105 ((a381, ()), ()) (fun y562 =>
let a563 := y562
let l564 : (List (Nat → Int)) := [a381, a563]
q_48 ((l564, ()), ()) (fun y565 =>
let a566 : (Nat → Int) := y565
κ0 a566)))
def p_95 {R : Type} (N : Nat) (x : Y2 × (Unit)) (κ0 : (Nat → Int) → Option R) : Option R := Q_95 (p_48 N) (p_105 N) x κ0
def EG_95 {R : Type} (q_48 : Tp_48 R) (q_105 : Tp_105 R) : Env R := ((Env.base QQ LN AA).add 48 ap_48 hp_48 (fun (x : aden ap_48 × hden hp_48) k => q_48 x (fun y => k (Pat.inst (.vec (.int .u64) 128) y) (instH hp_48 x.2)))).add 105 ap_105 hp_105 (fun (x : aden ap_105 × hden hp_105) k => q_105 x (fun y => k (Pat.inst (.vec (.int .u64) 128) y) (instH hp_105 x.2)))
def LG_95 {R : Type} : Loops R := Loops.none
def E_95 {R : Type} (N : Nat) : Env R := EG_95 (p_48 N) (p_105 N)
theorem eok_95 {R : Type} (N : Nat) : EK Try.prog (E_95 (R := R) N) := ek_add (ek_add (ek_base _ _ _) (good_48 N)) (good_105 N)
def L_95 {R : Type} (N : Nat) : Loops R := LG_95
theorem lok_95 {R : Type} (N : Nat) : LOK 0 TT (E_95 (R := R) N) (drawAny TT WW) (L_95 N) (bodyOf Try.f95) := loops_nil (by kernel_rfl)
theorem grun_95 {R : Type} (q_48 : Tp_48 R) (q_105 : Tp_105 R) (x : aden ap_95 × hden hp_95) (k : KF R) : fnrun TT (EG_95 q_48 q_105) (drawAny TT WW) (LG_95) true Try.f95 (instA ap_95 x.1) (instH hp_95 x.2) k = Q_95 q_48 q_105 x (fun y => k (Pat.inst (.vec (.int .u64) 128) y) (instH hp_95 x.2)) := by kernel_rfl
theorem run_95 {R : Type} (N : Nat) (x : aden ap_95 × hden hp_95) (k : KF R) : fnrun TT (E_95 (R := R) N) (drawAny TT WW) (L_95 N) true Try.f95 (instA ap_95 x.1) (instH hp_95 x.2) k = p_95 N x (fun y => k (Pat.inst (.vec (.int .u64) 128) y) (instH hp_95 x.2)) := (grun_95 (p_48 N) (p_105 N) x k).trans (by kernel_rfl)
theorem good_95 {R : Type} (N : Nat) : GD (X := R) Try.prog QQ AA 95 ap_95 hp_95 (fun (x : aden ap_95 × hden hp_95) k => p_95 N x (fun y => k (Pat.inst (.vec (.int .u64) 128) y) (instH hp_95 x.2))) :=
  gd_quiet (E := E_95 N) (p := fun (x : aden ap_95 × hden hp_95) κ => p_95 N x (fun y => κ (Pat.inst (.vec (.int .u64) 128) y))) mixed tyok (eok_95 N) Try.func95 (by kernel_rfl) (by kernel_rfl) (lok_95 N) (fun x k => run_95 N x k)

def ap_90 : List Pat := [.node (.fcons (.int .i64) (.fcons (.int .i64) (.fcons (.int .i64) (.fcons (.int .i64) (.fcons (.int .i64) (.fcons (.int .i64) (.fcons (.int .i64) (.fcons (.int .i64) (.fnil))))))))), .node (.fcons (.int .i64) (.fcons (.int .i64) (.fnil))), .int .i64, .int .i64]
def hp_90 : List (Option (Pat × Nat)) := []
abbrev Tp_90 (R : Type) : Type := (Y0 × (Int × (Int × Unit)) × Int × Int × Unit) × (Unit) → ((Nat → Int) → Option R) → Option R
def Q_90 {R : Type} (q_103 : Tp_103 R) (q_95 : Tp_95 R) (x : (Y0 × (Int × (Int × Unit)) × Int × Int × Unit) × (Unit)) (κ0 : (Nat → Int) → Option R) : Option R :=
let i306 := x.1.2.2.1
let i307 := x.1.2.2.2.1
let a308 : (Nat → Int) := (Sch.zero (.arr 128 (.int .u64)))
let a309 : (Nat → Int) := (Sch.zero (.arr 128 (.int .u64)))
q_103 ((x.1.1, x.1.2.1, i306, i307, ()), ()) (fun y345 =>
let a346 : (Nat → Int) := y345
q_95 ((a309, a346, ()), ()) (fun y567 =>
let a568 : (Nat → Int) := y567
q_95 ((a308, a568, ()), ()) (fun y569 =>
let a570 : (Nat → Int) := y569
κ0 a570)))
def p_90 {R : Type} (N : Nat) (x : (Y0 × (Int × (Int × Unit)) × Int × Int × Unit) × (Unit)) (κ0 : (Nat → Int) → Option R) : Option R := Q_90 (p_103 N) (p_95 N) x κ0
def EG_90 {R : Type} (q_103 : Tp_103 R) (q_95 : Tp_95 R) : Env R := ((Env.base QQ LN AA).add 103 ap_103 hp_103 (fun (x : aden ap_103 × hden hp_103) k => q_103 x (fun y => k (Pat.inst (.vec (.int .u64) 128) y) (instH hp_103 x.2)))).add 95 ap_95 hp_95 (fun (x : aden ap_95 × hden hp_95) k => q_95 x (fun y => k (Pat.inst (.vec (.int .u64) 128) y) (instH hp_95 x.2)))
def LG_90 {R : Type} : Loops R := Loops.none
def E_90 {R : Type} (N : Nat) : Env R := EG_90 (p_103 N) (p_95 N)
theorem eok_90 {R : Type} (N : Nat) : EK Try.prog (E_90 (R := R) N) := ek_add (ek_add (ek_base _ _ _) (good_103 N)) (good_95 N)
def L_90 {R : Type} (N : Nat) : Loops R := LG_90
theorem lok_90 {R : Type} (N : Nat) : LOK 0 TT (E_90 (R := R) N) (drawAny TT WW) (L_90 N) (bodyOf Try.f90) := loops_nil (by kernel_rfl)
theorem grun_90 {R : Type} (q_103 : Tp_103 R) (q_95 : Tp_95 R) (x : aden ap_90 × hden hp_90) (k : KF R) : fnrun TT (EG_90 q_103 q_95) (drawAny TT WW) (LG_90) true Try.f90 (instA ap_90 x.1) (instH hp_90 x.2) k = Q_90 q_103 q_95 x (fun y => k (Pat.inst (.vec (.int .u64) 128) y) (instH hp_90 x.2)) := by kernel_rfl
theorem run_90 {R : Type} (N : Nat) (x : aden ap_90 × hden hp_90) (k : KF R) : fnrun TT (E_90 (R := R) N) (drawAny TT WW) (L_90 N) true Try.f90 (instA ap_90 x.1) (instH hp_90 x.2) k = p_90 N x (fun y => k (Pat.inst (.vec (.int .u64) 128) y) (instH hp_90 x.2)) := (grun_90 (p_103 N) (p_95 N) x k).trans (by kernel_rfl)
theorem good_90 {R : Type} (N : Nat) : GD (X := R) Try.prog QQ AA 90 ap_90 hp_90 (fun (x : aden ap_90 × hden hp_90) k => p_90 N x (fun y => k (Pat.inst (.vec (.int .u64) 128) y) (instH hp_90 x.2))) :=
  gd_quiet (E := E_90 N) (p := fun (x : aden ap_90 × hden hp_90) κ => p_90 N x (fun y => κ (Pat.inst (.vec (.int .u64) 128) y))) mixed tyok (eok_90 N) Try.func90 (by kernel_rfl) (by kernel_rfl) (lok_90 N) (fun x k => run_90 N x k)

def ap_66 : List Pat := [.int .u64]
def hp_66 : List (Option (Pat × Nat)) := []
abbrev Tp_66 (R : Type) : Type := (Int × Unit) × (Unit) → ((Int × (Int × Unit)) → Option R) → Option R
def Q_66 {R : Type} (x : (Int × Unit) × (Unit)) (κ0 : (Int × (Int × Unit)) → Option R) : Option R :=
let i575 := x.1.1
let i576 : Int := IntKind.wrap .u32 i575
let i577 : Int := shrA .u64 i575 32
let i578 : Int := IntKind.wrap .u32 i577
κ0 ((i576, (i578, ())))
def p_66 {R : Type} (N : Nat) (x : (Int × Unit) × (Unit)) (κ0 : (Int × (Int × Unit)) → Option R) : Option R := Q_66 x κ0
def EG_66 {R : Type} : Env R := Env.base QQ LN AA
def LG_66 {R : Type} : Loops R := Loops.none
def E_66 {R : Type} (N : Nat) : Env R := EG_66
theorem eok_66 {R : Type} (N : Nat) : EK Try.prog (E_66 (R := R) N) := ek_base _ _ _
def L_66 {R : Type} (N : Nat) : Loops R := LG_66
theorem lok_66 {R : Type} (N : Nat) : LOK 0 TT (E_66 (R := R) N) (drawAny TT WW) (L_66 N) (bodyOf Try.f66) := loops_nil (by kernel_rfl)
theorem grun_66 {R : Type} (x : aden ap_66 × hden hp_66) (k : KF R) : fnrun TT (EG_66) (drawAny TT WW) (LG_66) true Try.f66 (instA ap_66 x.1) (instH hp_66 x.2) k = Q_66 x (fun y => k (Pat.inst (.tup (.fcons (.int .u32) (.fcons (.int .u32) (.fnil)))) y) (instH hp_66 x.2)) := by kernel_rfl
theorem run_66 {R : Type} (N : Nat) (x : aden ap_66 × hden hp_66) (k : KF R) : fnrun TT (E_66 (R := R) N) (drawAny TT WW) (L_66 N) true Try.f66 (instA ap_66 x.1) (instH hp_66 x.2) k = p_66 N x (fun y => k (Pat.inst (.tup (.fcons (.int .u32) (.fcons (.int .u32) (.fnil)))) y) (instH hp_66 x.2)) := (grun_66 x k).trans (by kernel_rfl)
theorem good_66 {R : Type} (N : Nat) : GD (X := R) Try.prog QQ AA 66 ap_66 hp_66 (fun (x : aden ap_66 × hden hp_66) k => p_66 N x (fun y => k (Pat.inst (.tup (.fcons (.int .u32) (.fcons (.int .u32) (.fnil)))) y) (instH hp_66 x.2))) :=
  gd_quiet (E := E_66 N) (p := fun (x : aden ap_66 × hden hp_66) κ => p_66 N x (fun y => κ (Pat.inst (.tup (.fcons (.int .u32) (.fcons (.int .u32) (.fnil)))) y))) mixed tyok (eok_66 N) Try.func66 (by kernel_rfl) (by kernel_rfl) (lok_66 N) (fun x k => run_66 N x k)

def ap_65 : List Pat := [.ptr 0 [], .int .i64]
def hp_65 : List (Option (Pat × Nat)) := [some (Z2, 132)]
abbrev Tp_65 (R : Type) : Type := (Unit × Int × Unit) × (Y8 × Unit) → (((Int × (Int × Unit)) × (Y8 × Unit)) → Option R) → Option R
def Q_65 {R : Type} (q_90 : Tp_90 R) (q_66 : Tp_66 R) (x : (Unit × Int × Unit) × (Y8 × Unit)) (κ0 : ((Int × (Int × Unit)) × (Y8 × Unit)) → Option R) : Option R :=
let i280 := x.1.2.1
let i291 := x.2.1.2.2.1
let i292 := x.2.1.2.2.2.1
let a293 := x.2.1.2.2.2.2.1
bif (decide (i280 < 0)) then (
κ0 ((0, (0, ())), x.2)) else (
let i294 : Int := quoA .i64 i280 128
let i295 : Int := addA .i64 i294 1
bif (i295 != i292) then (
q_90 ((x.2.1.1, x.2.1.2.1, i291, i295, ()), ()) (fun y571 =>
let a572 := y571
let i573 : Int := remA .i64 i280 128
bif decide (0 ≤ i573) then (
bif decide (i573 < (128 : Int)) then (
let i574 : Int := (a572 ((Int.toNat i573)))
q_66 ((i574, ()), ()) (fun y579 =>
κ0 (y579, ((x.2.1.1, (x.2.1.2.1, (i291, (i295, (a572, ()))))), ())))) else none) else none)) else (
let i582 : Int := remA .i64 i280 128
bif decide (0 ≤ i582) then (
bif decide (i582 < (128 : Int)) then (
let i583 : Int := (a293 ((Int.toNat i582)))
q_66 ((i583, ()), ()) (fun y584 =>
κ0 (y584, x.2))) else none) else none))
def p_65 {R : Type} (N : Nat) (x : (Unit × Int × Unit) × (Y8 × Unit)) (κ0 : ((Int × (Int × Unit)) × (Y8 × Unit)) → Option R) : Option R := Q_65 (p_90 N) (p_66 N) x κ0
def EG_65 {R : Type} (q_90 : Tp_90 R) (q_66 : Tp_66 R) : Env R := ((Env.base QQ LN AA).add 90 ap_90 hp_90 (fun (x : aden ap_90 × hden hp_90) k => q_90 x (fun y => k (Pat.inst (.vec (.int .u64) 128) y) (instH hp_90 x.2)))).add 66 ap_66 hp_66 (fun (x : aden ap_66 × hden hp_66) k => q_66 x (fun y => k (Pat.inst (.tup (.fcons (.int .u32) (.fcons (.int .u32) (.fnil)))) y) (instH hp_66 x.2)))
def LG_65 {R : Type} : Loops R := Loops.none
def E_65 {R : Type} (N : Nat) : Env R := EG_65 (p_90 N) (p_66 N)
theorem eok_65 {R : Type} (N : Nat) : EK Try.prog (E_65 (R := R) N) := ek_add (ek_add (ek_base _ _ _) (good_90 N)) (good_66 N)
def L_65 {R : Type} (N : Nat) : Loops R := LG_65
theorem lok_65 {R : Type} (N : Nat) : LOK 1 TT (E_65 (R := R) N) (drawAny TT WW) (L_65 N) (bodyOf Try.f65) := loops_nil (by kernel_rfl)
theorem grun_65 {R : Type} (q_90 : Tp_90 R) (q_66 : Tp_66 R) (x : aden ap_65 × hden hp_65) (k : KF R) : fnrun TT (EG_65 q_90 q_66) (drawAny TT WW) (LG_65) true Try.f65 (instA ap_65 x.1) (instH hp_65 x.2) k = Q_65 q_90 q_66 x (fun y => k (Pat.inst (.tup (.fcons (.int .u32) (.fcons (.int .u32) (.fnil)))) y.1) (instH [some (Z2, 132)] y.2)) := by kernel_rfl
theorem run_65 {R : Type} (N : Nat) (x : aden ap_65 × hden hp_65) (k : KF R) : fnrun TT (E_65 (R := R) N) (drawAny TT WW) (L_65 N) true Try.f65 (instA ap_65 x.1) (instH hp_65 x.2) k = p_65 N x (fun y => k (Pat.inst (.tup (.fcons (.int .u32) (.fcons (.int .u32) (.fnil)))) y.1) (instH [some (Z2, 132)] y.2)) := (grun_65 (p_90 N) (p_66 N) x k).trans (by kernel_rfl)
theorem good_65 {R : Type} (N : Nat) : GD (X := R) Try.prog QQ AA 65 ap_65 hp_65 (fun (x : aden ap_65 × hden hp_65) k => p_65 N x (fun y => k (Pat.inst (.tup (.fcons (.int .u32) (.fcons (.int .u32) (.fnil)))) y.1) (instH [some (Z2, 132)] y.2))) :=
  gd_loud (E := E_65 N) (p := fun (x : aden ap_65 × hden hp_65) k => p_65 N x (fun y => k (Pat.inst (.tup (.fcons (.int .u32) (.fcons (.int .u32) (.fnil)))) y.1) (instH [some (Z2, 132)] y.2))) mixed tyok (eok_65 N) Try.func65 (by kernel_rfl) (by kernel_rfl) (by kernel_rfl) (by kernel_rfl) (lok_65 N) (fun x k => run_65 N x k)

def ap_36 : List Pat := [.node (.fcons (.int .i64) (.fcons (.int .i64) (.fcons (.int .i64) (.fcons (.int .i64) (.fcons (.int .i64) (.fcons (.int .i64) (.fcons (.int .i64) (.fcons (.int .i64) (.fnil))))))))), .int .i64, .int .i64]
def hp_36 : List (Option (Pat × Nat)) := []
abbrev Tp_36 (R : Type) : Type := (Y0 × Int × Int × Unit) × (Unit) → (Int → Option R) → Option R
def Q_36 {R : Type} (x : (Y0 × Int × Int × Unit) × (Unit)) (κ0 : Int → Option R) : Option R :=
let i609 := x.1.1.2.2.2.2.2.2.1
let i611 := x.1.2.1
let i612 := x.1.2.2.1
let i613 : Int := mulA .i64 i611 i609
let i614 : Int := addA .i64 i613 i612
κ0 i614
def p_36 {R : Type} (N : Nat) (x : (Y0 × Int × Int × Unit) × (Unit)) (κ0 : Int → Option R) : Option R := Q_36 x κ0
def EG_36 {R : Type} : Env R := Env.base QQ LN AA
def LG_36 {R : Type} : Loops R := Loops.none
def E_36 {R : Type} (N : Nat) : Env R := EG_36
theorem eok_36 {R : Type} (N : Nat) : EK Try.prog (E_36 (R := R) N) := ek_base _ _ _
def L_36 {R : Type} (N : Nat) : Loops R := LG_36
theorem lok_36 {R : Type} (N : Nat) : LOK 0 TT (E_36 (R := R) N) (drawAny TT WW) (L_36 N) (bodyOf Try.f36) := loops_nil (by kernel_rfl)
theorem grun_36 {R : Type} (x : aden ap_36 × hden hp_36) (k : KF R) : fnrun TT (EG_36) (drawAny TT WW) (LG_36) true Try.f36 (instA ap_36 x.1) (instH hp_36 x.2) k = Q_36 x (fun y => k (Pat.inst (.int .i64) y) (instH hp_36 x.2)) := by kernel_rfl
theorem run_36 {R : Type} (N : Nat) (x : aden ap_36 × hden hp_36) (k : KF R) : fnrun TT (E_36 (R := R) N) (drawAny TT WW) (L_36 N) true Try.f36 (instA ap_36 x.1) (instH hp_36 x.2) k = p_36 N x (fun y => k (Pat.inst (.int .i64) y) (instH hp_36 x.2)) := (grun_36 x k).trans (by kernel_rfl)
theorem good_36 {R : Type} (N : Nat) : GD (X := R) Try.prog QQ AA 36 ap_36 hp_36 (fun (x : aden ap_36 × hden hp_36) k => p_36 N x (fun y => k (Pat.inst (.int .i64) y) (instH hp_36 x.2))) :=
  gd_quiet (E := E_36 N) (p := fun (x : aden ap_36 × hden hp_36) κ => p_36 N x (fun y => κ (Pat.inst (.int .i64) y))) mixed tyok (eok_36 N) Try.func36 (by kernel_rfl) (by kernel_rfl) (lok_36 N) (fun x k => run_36 N x k)

def ap_37 : List Pat := [.node (.fcons (.int .i64) (.fcons (.int .i64) (.fcons (.int .i64) (.fcons (.int .i64) (.fcons (.int .i64) (.fcons (.int .i64) (.fcons (.int .i64) (.fcons (.int .i64) (.fnil))))))))), .int .i64]
def hp_37 : List (Option (Pat × Nat)) := []
abbrev Tp_37 (R : Type) : Type := (Y0 × Int × Unit) × (Unit) → (Int → Option R) → Option R
def Q_37 {R : Type} (x : (Y0 × Int × Unit) × (Unit)) (κ0 : Int → Option R) : Option R :=
let i622 := x.1.1.2.2.2.2.2.1
let i625 := x.1.2.1
bif (i625 == 0) then (
let i626 : Int := subA .i64 i622 1
κ0 i626) else (
let i627 : Int := subA .i64 i625 1
κ0 i627)
def p_37 {R : Type} (N : Nat) (x : (Y0 × Int × Unit) × (Unit)) (κ0 : Int → Option R) : Option R := Q_37 x κ0
def EG_37 {R : Type} : Env R := Env.base QQ LN AA
def LG_37 {R : Type} : Loops R := Loops.none
def E_37 {R : Type} (N : Nat) : Env R := EG_37
theorem eok_37 {R : Type} (N : Nat) : EK Try.prog (E_37 (R := R) N) := ek_base _ _ _
def L_37 {R : Type} (N : Nat) : Loops R := LG_37
theorem lok_37 {R : Type} (N : Nat) : LOK 0 TT (E_37 (R := R) N) (drawAny TT WW) (L_37 N) (bodyOf Try.f37) := loops_nil (by kernel_rfl)
theorem grun_37 {R : Type} (x : aden ap_37 × hden hp_37) (k : KF R) : fnrun TT (EG_37) (drawAny TT WW) (LG_37) true Try.f37 (instA ap_37 x.1) (instH hp_37 x.2) k = Q_37 x (fun y => k (Pat.inst (.int .i64) y) (instH hp_37 x.2)) := by kernel_rfl
theorem run_37 {R : Type} (N : Nat) (x : aden ap_37 × hden hp_37) (k : KF R) : fnrun TT (E_37 (R := R) N) (drawAny TT WW) (L_37 N) true Try.f37 (instA ap_37 x.1) (instH hp_37 x.2) k = p_37 N x (fun y => k (Pat.inst (.int .i64) y) (instH hp_37 x.2)) := (grun_37 x k).trans (by kernel_rfl)
theorem good_37 {R : Type} (N : Nat) : GD (X := R) Try.prog QQ AA 37 ap_37 hp_37 (fun (x : aden ap_37 × hden hp_37) k => p_37 N x (fun y => k (Pat.inst (.int .i64) y) (instH hp_37 x.2))) :=
  gd_quiet (E := E_37 N) (p := fun (x : aden ap_37 × hden hp_37) κ => p_37 N x (fun y => κ (Pat.inst (.int .i64) y))) mixed tyok (eok_37 N) Try.func37 (by kernel_rfl) (by kernel_rfl) (lok_37 N) (fun x k => run_37 N x k)

def ap_78 : List Pat := [.node (.fcons (.int .i64) (.fcons (.int .i64) (.fcons (.int .i64) (.fcons (.int .i64) (.fcons (.int .i64) (.fcons (.int .i64) (.fcons (.int .i64) (.fcons (.int .i64) (.fnil))))))))), .int .i64, .int .i64]
def hp_78 : List (Option (Pat × Nat)) := []
abbrev Tp_78 (R : Type) : Type := (Y0 × Int × Int × Unit) × (Unit) → (Int → Option R) → Option R
def Q_78 {R : Type} (x : (Y0 × Int × Int × Unit) × (Unit)) (κ0 : Int → Option R) : Option R :=
let i667 := x.1.1.2.2.2.2.2.1
let i670 := x.1.2.1
let i671 := x.1.2.2.1
let i672 : Int := mulA .i64 i670 i667
let i673 : Int := addA .i64 i672 i671
κ0 i673
def p_78 {R : Type} (N : Nat) (x : (Y0 × Int × Int × Unit) × (Unit)) (κ0 : Int → Option R) : Option R := Q_78 x κ0
def EG_78 {R : Type} : Env R := Env.base QQ LN AA
def LG_78 {R : Type} : Loops R := Loops.none
def E_78 {R : Type} (N : Nat) : Env R := EG_78
theorem eok_78 {R : Type} (N : Nat) : EK Try.prog (E_78 (R := R) N) := ek_base _ _ _
def L_78 {R : Type} (N : Nat) : Loops R := LG_78
theorem lok_78 {R : Type} (N : Nat) : LOK 0 TT (E_78 (R := R) N) (drawAny TT WW) (L_78 N) (bodyOf Try.f78) := loops_nil (by kernel_rfl)
theorem grun_78 {R : Type} (x : aden ap_78 × hden hp_78) (k : KF R) : fnrun TT (EG_78) (drawAny TT WW) (LG_78) true Try.f78 (instA ap_78 x.1) (instH hp_78 x.2) k = Q_78 x (fun y => k (Pat.inst (.int .i64) y) (instH hp_78 x.2)) := by kernel_rfl
theorem run_78 {R : Type} (N : Nat) (x : aden ap_78 × hden hp_78) (k : KF R) : fnrun TT (E_78 (R := R) N) (drawAny TT WW) (L_78 N) true Try.f78 (instA ap_78 x.1) (instH hp_78 x.2) k = p_78 N x (fun y => k (Pat.inst (.int .i64) y) (instH hp_78 x.2)) := (grun_78 x k).trans (by kernel_rfl)
theorem good_78 {R : Type} (N : Nat) : GD (X := R) Try.prog QQ AA 78 ap_78 hp_78 (fun (x : aden ap_78 × hden hp_78) k => p_78 N x (fun y => k (Pat.inst (.int .i64) y) (instH hp_78 x.2))) :=
  gd_quiet (E := E_78 N) (p := fun (x : aden ap_78 × hden hp_78) κ => p_78 N x (fun y => κ (Pat.inst (.int .i64) y))) mixed tyok (eok_78 N) Try.func78 (by kernel_rfl) (by kernel_rfl) (lok_78 N) (fun x k => run_78 N x k)

def ap_46 : List Pat := [.ptr 0 [], .node (.fcons (.int .i64) (.fcons (.int .i64) (.fnil)))]
def hp_46 : List (Option (Pat × Nat)) := J0
abbrev Tp_46 (R : Type) : Type := (Unit × (Int × (Int × Unit)) × Unit) × Y1 → (Int → Option R) → Option R
def Q_46 {R : Type} (q_78 : Tp_78 R) (x : (Unit × (Int × (Int × Unit)) × Unit) × Y1) (κ0 : Int → Option R) : Option R :=
let i646 := x.1.2.1.1
let i647 := x.1.2.1.2.1
let i650 := x.2.1.2.1.2.2.1
let i653 := x.2.1.2.1.2.2.2.2.2.1
bif (decide (i646 < 0)) then (
κ0 ((-1))) else (
bif (decide (i646 ≥ i650)) then (
κ0 ((-1))) else (
bif (decide (i647 < 0)) then (
κ0 ((-1))) else (
bif (decide (i647 ≥ i653)) then (
κ0 ((-1))) else (
q_78 ((x.2.1.2.1, i646, i647, ()), ()) (fun y674 =>
let i675 : Int := y674
κ0 i675)))))
def p_46 {R : Type} (N : Nat) (x : (Unit × (Int × (Int × Unit)) × Unit) × Y1) (κ0 : Int → Option R) : Option R := Q_46 (p_78 N) x κ0
def EG_46 {R : Type} (q_78 : Tp_78 R) : Env R := (Env.base QQ LN AA).add 78 ap_78 hp_78 (fun (x : aden ap_78 × hden hp_78) k => q_78 x (fun y => k (Pat.inst (.int .i64) y) (instH hp_78 x.2)))
def LG_46 {R : Type} : Loops R := Loops.none
def E_46 {R : Type} (N : Nat) : Env R := EG_46 (p_78 N)
theorem eok_46 {R : Type} (N : Nat) : EK Try.prog (E_46 (R := R) N) := ek_add (ek_base _ _ _) (good_78 N)
def L_46 {R : Type} (N : Nat) : Loops R := LG_46
theorem lok_46 {R : Type} (N : Nat) : LOK 4 TT (E_46 (R := R) N) (drawAny TT WW) (L_46 N) (bodyOf Try.f46) := loops_nil (by kernel_rfl)
theorem grun_46 {R : Type} (q_78 : Tp_78 R) (x : aden ap_46 × hden hp_46) (k : KF R) : fnrun TT (EG_46 q_78) (drawAny TT WW) (LG_46) true Try.f46 (instA ap_46 x.1) (instH hp_46 x.2) k = Q_46 q_78 x (fun y => k (Pat.inst (.int .i64) y) (instH hp_46 x.2)) := by kernel_rfl
theorem run_46 {R : Type} (N : Nat) (x : aden ap_46 × hden hp_46) (k : KF R) : fnrun TT (E_46 (R := R) N) (drawAny TT WW) (L_46 N) true Try.f46 (instA ap_46 x.1) (instH hp_46 x.2) k = p_46 N x (fun y => k (Pat.inst (.int .i64) y) (instH hp_46 x.2)) := (grun_46 (p_78 N) x k).trans (by kernel_rfl)
theorem good_46 {R : Type} (N : Nat) : GD (X := R) Try.prog QQ AA 46 ap_46 hp_46 (fun (x : aden ap_46 × hden hp_46) k => p_46 N x (fun y => k (Pat.inst (.int .i64) y) (instH hp_46 x.2))) :=
  gd_quiet (E := E_46 N) (p := fun (x : aden ap_46 × hden hp_46) κ => p_46 N x (fun y => κ (Pat.inst (.int .i64) y))) mixed tyok (eok_46 N) Try.func46 (by kernel_rfl) (by kernel_rfl) (lok_46 N) (fun x k => run_46 N x k)

def ap_47 : List Pat := [.ptr 0 [], .int .i64]
def hp_47 : List (Option (Pat × Nat)) := J5
abbrev Tp_47 (R : Type) : Type := (Unit × Int × Unit) × (Y11 × Y5 × (List (Nat → Int)) × Unit) → (((Nat → Int) × (Int × Unit)) → Option R) → Option R
def Q_47 {R : Type} (x : (Unit × Int × Unit) × (Y11 × Y5 × (List (Nat → Int)) × Unit)) (κ0 : ((Nat → Int) × (Int × Unit)) → Option R) : Option R :=
let i679 := x.1.2.1
let b680 := x.2.1.2.2.1
let l685 := x.2.2.2.1
bif (decide (i679 < 0)) then (
let a686 : (Nat → Int) := (Sch.zero (.arr 128 (.int .u64)))
κ0 ((a686, (11, ())))) else (
let i687 : Int := (((List.length l685) : Nat) : Int)
bif (decide (i679 ≥ i687)) then (
let a688 : (Nat → Int) := (Sch.zero (.arr 128 (.int .u64)))
κ0 ((a688, (11, ())))) else (
bif (!b680) then (
let a689 : (Nat → Int) := (Sch.zero (.arr 128 (.int .u64)))
κ0 ((a689, (12, ())))) else (
bif decide (0 ≤ i679) then (
bif decide (i679 < ((List.length l685) : Int)) then (
let a690 : (Nat → Int) := (List.getD l685 ((Int.toNat i679)) (Sch.zero (.arr 128 (.int .u64))))
κ0 ((a690, (0, ())))) else none) else none)))
def p_47 {R : Type} (N : Nat) (x : (Unit × Int × Unit) × (Y11 × Y5 × (List (Nat → Int)) × Unit)) (κ0 : ((Nat → Int) × (Int × Unit)) → Option R) : Option R := Q_47 x κ0
def EG_47 {R : Type} : Env R := Env.base QQ LN AA
def LG_47 {R : Type} : Loops R := Loops.none
def E_47 {R : Type} (N : Nat) : Env R := EG_47
theorem eok_47 {R : Type} (N : Nat) : EK Try.prog (E_47 (R := R) N) := ek_base _ _ _
def L_47 {R : Type} (N : Nat) : Loops R := LG_47
theorem lok_47 {R : Type} (N : Nat) : LOK 3 TT (E_47 (R := R) N) (drawAny TT WW) (L_47 N) (bodyOf Try.f47) := loops_nil (by kernel_rfl)
theorem grun_47 {R : Type} (x : aden ap_47 × hden hp_47) (k : KF R) : fnrun TT (EG_47) (drawAny TT WW) (LG_47) true Try.f47 (instA ap_47 x.1) (instH hp_47 x.2) k = Q_47 x (fun y => k (Pat.inst (.tup (.fcons (.vec (.int .u64) 128) (.fcons (.int .i64) (.fnil)))) y) (instH hp_47 x.2)) := by kernel_rfl
theorem run_47 {R : Type} (N : Nat) (x : aden ap_47 × hden hp_47) (k : KF R) : fnrun TT (E_47 (R := R) N) (drawAny TT WW) (L_47 N) true Try.f47 (instA ap_47 x.1) (instH hp_47 x.2) k = p_47 N x (fun y => k (Pat.inst (.tup (.fcons (.vec (.int .u64) 128) (.fcons (.int .i64) (.fnil)))) y) (instH hp_47 x.2)) := (grun_47 x k).trans (by kernel_rfl)
theorem good_47 {R : Type} (N : Nat) : GD (X := R) Try.prog QQ AA 47 ap_47 hp_47 (fun (x : aden ap_47 × hden hp_47) k => p_47 N x (fun y => k (Pat.inst (.tup (.fcons (.vec (.int .u64) 128) (.fcons (.int .i64) (.fnil)))) y) (instH hp_47 x.2))) :=
  gd_quiet (E := E_47 N) (p := fun (x : aden ap_47 × hden hp_47) κ => p_47 N x (fun y => κ (Pat.inst (.tup (.fcons (.vec (.int .u64) 128) (.fcons (.int .i64) (.fnil)))) y))) mixed tyok (eok_47 N) Try.func47 (by kernel_rfl) (by kernel_rfl) (lok_47 N) (fun x k => run_47 N x k)

def ap_9 : List Pat := [.ptr 0 [], .node (.fcons (.int .i64) (.fcons (.int .i64) (.fnil)))]
def hp_9 : List (Option (Pat × Nat)) := J0
abbrev Tp_9 (R : Type) : Type := (Unit × (Int × (Int × Unit)) × Unit) × Y1 → (((Nat → Int) × (Int × Unit)) → Option R) → Option R
def Q_9 {R : Type} (q_46 : Tp_46 R) (q_47 : Tp_47 R) (x : (Unit × (Int × (Int × Unit)) × Unit) × Y1) (κ0 : ((Nat → Int) × (Int × Unit)) → Option R) : Option R :=
let l645 := x.2.2.2.2.1
q_46 (((), x.1.2.1, ()), (x.2.1, x.2.2.1, x.2.2.2.1, l645, ())) (fun y676 =>
let i677 : Int := y676
bif (decide (i677 < 0)) then (
let a678 : (Nat → Int) := (Sch.zero (.arr 128 (.int .u64)))
κ0 ((a678, (11, ())))) else (
q_47 (((), i677, ()), (x.2.2.1, x.2.2.2.1, l645, ())) (fun y691 =>
κ0 (y691))))
def p_9 {R : Type} (N : Nat) (x : (Unit × (Int × (Int × Unit)) × Unit) × Y1) (κ0 : ((Nat → Int) × (Int × Unit)) → Option R) : Option R := Q_9 (p_46 N) (p_47 N) x κ0
def EG_9 {R : Type} (q_46 : Tp_46 R) (q_47 : Tp_47 R) : Env R := ((Env.base QQ LN AA).add 46 ap_46 hp_46 (fun (x : aden ap_46 × hden hp_46) k => q_46 x (fun y => k (Pat.inst (.int .i64) y) (instH hp_46 x.2)))).add 47 ap_47 hp_47 (fun (x : aden ap_47 × hden hp_47) k => q_47 x (fun y => k (Pat.inst (.tup (.fcons (.vec (.int .u64) 128) (.fcons (.int .i64) (.fnil)))) y) (instH hp_47 x.2)))
def LG_9 {R : Type} : Loops R := Loops.none
def E_9 {R : Type} (N : Nat) : Env R := EG_9 (p_46 N) (p_47 N)
theorem eok_9 {R : Type} (N : Nat) : EK Try.prog (E_9 (R := R) N) := ek_add (ek_add (ek_base _ _ _) (good_46 N)) (good_47 N)
def L_9 {R : Type} (N : Nat) : Loops R := LG_9
theorem lok_9 {R : Type} (N : Nat) : LOK 4 TT (E_9 (R := R) N) (drawAny TT WW) (L_9 N) (bodyOf Try.f9) := loops_nil (by kernel_rfl)
theorem grun_9 {R : Type} (q_46 : Tp_46 R) (q_47 : Tp_47 R) (x : aden ap_9 × hden hp_9) (k : KF R) : fnrun TT (EG_9 q_46 q_47) (drawAny TT WW) (LG_9) true Try.f9 (instA ap_9 x.1) (instH hp_9 x.2) k = Q_9 q_46 q_47 x (fun y => k (Pat.inst (.tup (.fcons (.vec (.int .u64) 128) (.fcons (.int .i64) (.fnil)))) y) (instH hp_9 x.2)) := by kernel_rfl
theorem run_9 {R : Type} (N : Nat) (x : aden ap_9 × hden hp_9) (k : KF R) : fnrun TT (E_9 (R := R) N) (drawAny TT WW) (L_9 N) true Try.f9 (instA ap_9 x.1) (instH hp_9 x.2) k = p_9 N x (fun y => k (Pat.inst (.tup (.fcons (.vec (.int .u64) 128) (.fcons (.int .i64) (.fnil)))) y) (instH hp_9 x.2)) := (grun_9 (p_46 N) (p_47 N) x k).trans (by kernel_rfl)
theorem good_9 {R : Type} (N : Nat) : GD (X := R) Try.prog QQ AA 9 ap_9 hp_9 (fun (x : aden ap_9 × hden hp_9) k => p_9 N x (fun y => k (Pat.inst (.tup (.fcons (.vec (.int .u64) 128) (.fcons (.int .i64) (.fnil)))) y) (instH hp_9 x.2))) :=
  gd_quiet (E := E_9 N) (p := fun (x : aden ap_9 × hden hp_9) κ => p_9 N x (fun y => κ (Pat.inst (.tup (.fcons (.vec (.int .u64) 128) (.fcons (.int .i64) (.fnil)))) y))) mixed tyok (eok_9 N) Try.func9 (by kernel_rfl) (by kernel_rfl) (lok_9 N) (fun x k => run_9 N x k)

def ap_32 : List Pat := [.ptr 0 [], .node (.fcons (.int .i64) (.fcons (.int .i64) (.fnil))), .int .i64, .int .i64, .ptr 4 []]
def hp_32 : List (Option (Pat × Nat)) := J1
abbrev Tp_32 (R : Type) : Type := (Unit × (Int × (Int × Unit)) × Int × Int × Unit × Unit) × Y22 → (((Int × (Int × (Int × Unit))) × Y22) → Option R) → Option R
def Q_32 {R : Type} (q_64 : Tp_64 R) (q_65 : Tp_65 R) (q_36 : Tp_36 R) (q_37 : Tp_37 R) (q_9 : Tp_9 R) (q_66 : Tp_66 R) (x : (Unit × (Int × (Int × Unit)) × Int × Int × Unit × Unit) × Y22) (κ0 : ((Int × (Int × (Int × Unit))) × Y22) → Option R) : Option R :=
let i238 := x.1.2.1.2.1
let i239 := x.1.2.2.1
let i240 := x.1.2.2.2.1
let l254 := x.2.2.2.2.1
q_64 ((x.2.1.2.1, x.1.2.1, ()), ()) (fun y278 =>
let b279 : Bool := y278
bif b279 then (
q_65 (((), i240, ()), x.2.2.2.2.2) (fun y587 =>
let i588 := y587.1.1
let i589 := y587.1.2.1
κ0 ((i588, (i589, (0, ()))), (x.2.1, x.2.2.1, x.2.2.2.1, l254, y587.2.1, ())))) else (
q_36 ((x.2.1.2.1, i238, i240, ()), ()) (fun y615 =>
let i616 : Int := y615
q_37 ((x.2.1.2.1, i616, ()), ()) (fun y628 =>
let i629 : Int := y628
q_9 (((), (i239, (i629, ())), ()), (x.2.1, x.2.2.1, x.2.2.2.1, l254, ())) (fun y694 =>
let a695 := y694.1
let i696 := y694.2.1
bif (i696 != 0) then (
κ0 ((0, (0, y694.2)), (x.2.1, x.2.2.1, x.2.2.2.1, l254, x.2.2.2.2.2.1, ()))) else (
let i697 : Int := (a695 0)
q_66 ((i697, ()), ()) (fun y698 =>
let i699 := y698.1
let i700 := y698.2.1
κ0 ((i699, (i700, (0, ()))), (x.2.1, x.2.2.1, x.2.2.2.1, l254, x.2.2.2.2.2.1, ())))))))))
def p_32 {R : Type} (N : Nat) (x : (Unit × (Int × (Int × Unit)) × Int × Int × Unit × Unit) × Y22) (κ0 : ((Int × (Int × (Int × Unit))) × Y22) → Option R) : Option R := Q_32 (p_64 N) (p_65 N) (p_36 N) (p_37 N) (p_9 N) (p_66 N) x κ0
def EG_32 {R : Type} (q_64 : Tp_64 R) (q_65 : Tp_65 R) (q_36 : Tp_36 R) (q_37 : Tp_37 R) (q_9 : Tp_9 R) (q_66 : Tp_66 R) : Env R := ((((((Env.base QQ LN AA).add 64 ap_64 hp_64 (fun (x : aden ap_64 × hden hp_64) k => q_64 x (fun y => k (Pat.inst (.bool) y) (instH hp_64 x.2)))).add 65 ap_65 hp_65 (fun (x : aden ap_65 × hden hp_65) k => q_65 x (fun y => k (Pat.inst (.tup (.fcons (.int .u32) (.fcons (.int .u32) (.fnil)))) y.1) (instH [some (Z2, 132)] y.2)))).add 36 ap_36 hp_36 (fun (x : aden ap_36 × hden hp_36) k => q_36 x (fun y => k (Pat.inst (.int .i64) y) (instH hp_36 x.2)))).add 37 ap_37 hp_37 (fun (x : aden ap_37 × hden hp_37) k => q_37 x (fun y => k (Pat.inst (.int .i64) y) (instH hp_37 x.2)))).add 9 ap_9 hp_9 (fun (x : aden ap_9 × hden hp_9) k => q_9 x (fun y => k (Pat.inst (.tup (.fcons (.vec (.int .u64) 128) (.fcons (.int .i64) (.fnil)))) y) (instH hp_9 x.2)))).add 66 ap_66 hp_66 (fun (x : aden ap_66 × hden hp_66) k => q_66 x (fun y => k (Pat.inst (.tup (.fcons (.int .u32) (.fcons (.int .u32) (.fnil)))) y) (instH hp_66 x.2)))
def LG_32 {R : Type} : Loops R := Loops.none
def E_32 {R : Type} (N : Nat) : Env R := EG_32 (p_64 N) (p_65 N) (p_36 N) (p_37 N) (p_9 N) (p_66 N)
theorem eok_32 {R : Type} (N : Nat) : EK Try.prog (E_32 (R := R) N) := ek_add (ek_add (ek_add (ek_add (ek_add (ek_add (ek_base _ _ _) (good_64 N)) (good_65 N)) (good_36 N)) (good_37 N)) (good_9 N)) (good_66 N)
def L_32 {R : Type} (N : Nat) : Loops R := LG_32
theorem lok_32 {R : Type} (N : Nat) : LOK 5 TT (E_32 (R := R) N) (drawAny TT WW) (L_32 N) (bodyOf Try.f32) := loops_nil (by kernel_rfl)
theorem grun_32 {R : Type} (q_64 : Tp_64 R) (q_65 : Tp_65 R) (q_36 : Tp_36 R) (q_37 : Tp_37 R) (q_9 : Tp_9 R) (q_66 : Tp_66 R) (x : aden ap_32 × hden hp_32) (k : KF R) : fnrun TT (EG_32 q_64 q_65 q_36 q_37 q_9 q_66) (drawAny TT WW) (LG_32) true Try.f32 (instA ap_32 x.1) (instH hp_32 x.2) k = Q_32 q_64 q_65 q_36 q_37 q_9 q_66 x (fun y => k (Pat.inst (.tup (.fcons (.int .u32) (.fcons (.int .u32) (.fcons (.int .i64) (.fnil))))) y.1) (instH J1 y.2)) := by kernel_rfl
theorem run_32 {R : Type} (N : Nat) (x : aden ap_32 × hden hp_32) (k : KF R) : fnrun TT (E_32 (R := R) N) (drawAny TT WW) (L_32 N) true Try.f32 (instA ap_32 x.1) (instH hp_32 x.2) k = p_32 N x (fun y => k (Pat.inst (.tup (.fcons (.int .u32) (.fcons (.int .u32) (.fcons (.int .i64) (.fnil))))) y.1) (instH J1 y.2)) := (grun_32 (p_64 N) (p_65 N) (p_36 N) (p_37 N) (p_9 N) (p_66 N) x k).trans (by kernel_rfl)
theorem good_32 {R : Type} (N : Nat) : GD (X := R) Try.prog QQ AA 32 ap_32 hp_32 (fun (x : aden ap_32 × hden hp_32) k => p_32 N x (fun y => k (Pat.inst (.tup (.fcons (.int .u32) (.fcons (.int .u32) (.fcons (.int .i64) (.fnil))))) y.1) (instH J1 y.2))) :=
  gd_loud (E := E_32 N) (p := fun (x : aden ap_32 × hden hp_32) k => p_32 N x (fun y => k (Pat.inst (.tup (.fcons (.int .u32) (.fcons (.int .u32) (.fcons (.int .i64) (.fnil))))) y.1) (instH J1 y.2))) mixed tyok (eok_32 N) Try.func32 (by kernel_rfl) (by kernel_rfl) (by kernel_rfl) (by kernel_rfl) (lok_32 N) (fun x k => run_32 N x k)

def ap_29 : List Pat := [.node (.fcons (.int .i64) (.fcons (.int .i64) (.fcons (.int .i64) (.fcons (.int .i64) (.fcons (.int .i64) (.fcons (.int .i64) (.fcons (.int .i64) (.fcons (.int .i64) (.fnil))))))))), .node (.fcons (.int .i64) (.fcons (.int .i64) (.fnil)))]
def hp_29 : List (Option (Pat × Nat)) := []
abbrev Tp_29 (R : Type) : Type := (Y0 × (Int × (Int × Unit)) × Unit) × (Unit) → (Bool → Option R) → Option R
def Q_29 {R : Type} (q_63 : Tp_63 R) (x : (Y0 × (Int × (Int × Unit)) × Unit) × (Unit)) (κ0 : Bool → Option R) : Option R :=
let i747 := x.1.1.2.1
let i754 := x.1.2.1.1
let i755 := x.1.2.1.2.1
let i756 : Int := subA .i64 i747 1
q_63 ((i754, 0, i756, ()), ()) (fun y757 =>
let b758 : Bool := y757
bif b758 then (
q_63 ((i755, 0, 3, ()), ()) (fun y759 =>
let b760 : Bool := y759
κ0 b760)) else (
κ0 false))
def p_29 {R : Type} (N : Nat) (x : (Y0 × (Int × (Int × Unit)) × Unit) × (Unit)) (κ0 : Bool → Option R) : Option R := Q_29 (p_63 N) x κ0
def EG_29 {R : Type} (q_63 : Tp_63 R) : Env R := (Env.base QQ LN AA).add 63 ap_63 hp_63 (fun (x : aden ap_63 × hden hp_63) k => q_63 x (fun y => k (Pat.inst (.bool) y) (instH hp_63 x.2)))
def LG_29 {R : Type} : Loops R := Loops.none
def E_29 {R : Type} (N : Nat) : Env R := EG_29 (p_63 N)
theorem eok_29 {R : Type} (N : Nat) : EK Try.prog (E_29 (R := R) N) := ek_add (ek_base _ _ _) (good_63 N)
def L_29 {R : Type} (N : Nat) : Loops R := LG_29
theorem lok_29 {R : Type} (N : Nat) : LOK 0 TT (E_29 (R := R) N) (drawAny TT WW) (L_29 N) (bodyOf Try.f29) := loops_nil (by kernel_rfl)
theorem grun_29 {R : Type} (q_63 : Tp_63 R) (x : aden ap_29 × hden hp_29) (k : KF R) : fnrun TT (EG_29 q_63) (drawAny TT WW) (LG_29) true Try.f29 (instA ap_29 x.1) (instH hp_29 x.2) k = Q_29 q_63 x (fun y => k (Pat.inst (.bool) y) (instH hp_29 x.2)) := by kernel_rfl
theorem run_29 {R : Type} (N : Nat) (x : aden ap_29 × hden hp_29) (k : KF R) : fnrun TT (E_29 (R := R) N) (drawAny TT WW) (L_29 N) true Try.f29 (instA ap_29 x.1) (instH hp_29 x.2) k = p_29 N x (fun y => k (Pat.inst (.bool) y) (instH hp_29 x.2)) := (grun_29 (p_63 N) x k).trans (by kernel_rfl)
theorem good_29 {R : Type} (N : Nat) : GD (X := R) Try.prog QQ AA 29 ap_29 hp_29 (fun (x : aden ap_29 × hden hp_29) k => p_29 N x (fun y => k (Pat.inst (.bool) y) (instH hp_29 x.2))) :=
  gd_quiet (E := E_29 N) (p := fun (x : aden ap_29 × hden hp_29) κ => p_29 N x (fun y => κ (Pat.inst (.bool) y))) mixed tyok (eok_29 N) Try.func29 (by kernel_rfl) (by kernel_rfl) (lok_29 N) (fun x k => run_29 N x k)

def ap_30 : List Pat := [.node (.fcons (.int .i64) (.fcons (.int .i64) (.fcons (.int .i64) (.fcons (.int .i64) (.fcons (.int .i64) (.fcons (.int .i64) (.fcons (.int .i64) (.fcons (.int .i64) (.fnil))))))))), .int .i64, .int .i64]
def hp_30 : List (Option (Pat × Nat)) := []
abbrev Tp_30 (R : Type) : Type := (Y0 × Int × Int × Unit) × (Unit) → (Int → Option R) → Option R
def Q_30 {R : Type} (x : (Y0 × Int × Int × Unit) × (Unit)) (κ0 : Int → Option R) : Option R :=
let i774 := x.1.2.1
let i775 := x.1.2.2.1
bif (i774 == 0) then (
bif (i775 == 0) then (
κ0 2) else (
κ0 0)) else (
κ0 0)
def p_30 {R : Type} (N : Nat) (x : (Y0 × Int × Int × Unit) × (Unit)) (κ0 : Int → Option R) : Option R := Q_30 x κ0
def EG_30 {R : Type} : Env R := Env.base QQ LN AA
def LG_30 {R : Type} : Loops R := Loops.none
def E_30 {R : Type} (N : Nat) : Env R := EG_30
theorem eok_30 {R : Type} (N : Nat) : EK Try.prog (E_30 (R := R) N) := ek_base _ _ _
def L_30 {R : Type} (N : Nat) : Loops R := LG_30
theorem lok_30 {R : Type} (N : Nat) : LOK 0 TT (E_30 (R := R) N) (drawAny TT WW) (L_30 N) (bodyOf Try.f30) := loops_nil (by kernel_rfl)
theorem grun_30 {R : Type} (x : aden ap_30 × hden hp_30) (k : KF R) : fnrun TT (EG_30) (drawAny TT WW) (LG_30) true Try.f30 (instA ap_30 x.1) (instH hp_30 x.2) k = Q_30 x (fun y => k (Pat.inst (.int .i64) y) (instH hp_30 x.2)) := by kernel_rfl
theorem run_30 {R : Type} (N : Nat) (x : aden ap_30 × hden hp_30) (k : KF R) : fnrun TT (E_30 (R := R) N) (drawAny TT WW) (L_30 N) true Try.f30 (instA ap_30 x.1) (instH hp_30 x.2) k = p_30 N x (fun y => k (Pat.inst (.int .i64) y) (instH hp_30 x.2)) := (grun_30 x k).trans (by kernel_rfl)
theorem good_30 {R : Type} (N : Nat) : GD (X := R) Try.prog QQ AA 30 ap_30 hp_30 (fun (x : aden ap_30 × hden hp_30) k => p_30 N x (fun y => k (Pat.inst (.int .i64) y) (instH hp_30 x.2))) :=
  gd_quiet (E := E_30 N) (p := fun (x : aden ap_30 × hden hp_30) κ => p_30 N x (fun y => κ (Pat.inst (.int .i64) y))) mixed tyok (eok_30 N) Try.func30 (by kernel_rfl) (by kernel_rfl) (lok_30 N) (fun x k => run_30 N x k)

def ap_67 : List Pat := [.node (.fcons (.int .i64) (.fcons (.int .i64) (.fcons (.int .i64) (.fcons (.int .i64) (.fcons (.int .i64) (.fcons (.int .i64) (.fcons (.int .i64) (.fcons (.int .i64) (.fnil))))))))), .node (.fcons (.int .i64) (.fcons (.int .i64) (.fnil))), .int .i64, .int .u32]
def hp_67 : List (Option (Pat × Nat)) := []
abbrev Tp_67 (R : Type) : Type := (Y0 × (Int × (Int × Unit)) × Int × Int × Unit) × (Unit) → (Int → Option R) → Option R
def Q_67 {R : Type} (x : (Y0 × (Int × (Int × Unit)) × Int × Int × Unit) × (Unit)) (κ0 : Int → Option R) : Option R :=
let i783 := x.1.1.2.2.1
let i789 := x.1.2.1.1
let i790 := x.1.2.1.2.1
let i791 := x.1.2.2.1
let i792 := x.1.2.2.2.1
bif (i789 == 0) then (
bif (i790 == 0) then (
κ0 i791) else (
let i793 : Int := IntKind.wrap .u64 i792
let i794 : Int := IntKind.wrap .u64 i783
bif decide (i794 = 0) then none else (
let i795 : Int := remA .u64 i793 i794
let i796 : Int := IntKind.wrap .i64 i795
κ0 i796))) else (
let i797 : Int := IntKind.wrap .u64 i792
let i798 : Int := IntKind.wrap .u64 i783
bif decide (i798 = 0) then none else (
let i799 : Int := remA .u64 i797 i798
let i800 : Int := IntKind.wrap .i64 i799
κ0 i800))
def p_67 {R : Type} (N : Nat) (x : (Y0 × (Int × (Int × Unit)) × Int × Int × Unit) × (Unit)) (κ0 : Int → Option R) : Option R := Q_67 x κ0
def EG_67 {R : Type} : Env R := Env.base QQ LN AA
def LG_67 {R : Type} : Loops R := Loops.none
def E_67 {R : Type} (N : Nat) : Env R := EG_67
theorem eok_67 {R : Type} (N : Nat) : EK Try.prog (E_67 (R := R) N) := ek_base _ _ _
def L_67 {R : Type} (N : Nat) : Loops R := LG_67
theorem lok_67 {R : Type} (N : Nat) : LOK 0 TT (E_67 (R := R) N) (drawAny TT WW) (L_67 N) (bodyOf Try.f67) := loops_nil (by kernel_rfl)
theorem grun_67 {R : Type} (x : aden ap_67 × hden hp_67) (k : KF R) : fnrun TT (EG_67) (drawAny TT WW) (LG_67) true Try.f67 (instA ap_67 x.1) (instH hp_67 x.2) k = Q_67 x (fun y => k (Pat.inst (.int .i64) y) (instH hp_67 x.2)) := by kernel_rfl
theorem run_67 {R : Type} (N : Nat) (x : aden ap_67 × hden hp_67) (k : KF R) : fnrun TT (E_67 (R := R) N) (drawAny TT WW) (L_67 N) true Try.f67 (instA ap_67 x.1) (instH hp_67 x.2) k = p_67 N x (fun y => k (Pat.inst (.int .i64) y) (instH hp_67 x.2)) := (grun_67 x k).trans (by kernel_rfl)
theorem good_67 {R : Type} (N : Nat) : GD (X := R) Try.prog QQ AA 67 ap_67 hp_67 (fun (x : aden ap_67 × hden hp_67) k => p_67 N x (fun y => k (Pat.inst (.int .i64) y) (instH hp_67 x.2))) :=
  gd_quiet (E := E_67 N) (p := fun (x : aden ap_67 × hden hp_67) κ => p_67 N x (fun y => κ (Pat.inst (.int .i64) y))) mixed tyok (eok_67 N) Try.func67 (by kernel_rfl) (by kernel_rfl) (lok_67 N) (fun x k => run_67 N x k)

def ap_68 : List Pat := [.node (.fcons (.int .i64) (.fcons (.int .i64) (.fcons (.int .i64) (.fcons (.int .i64) (.fcons (.int .i64) (.fcons (.int .i64) (.fcons (.int .i64) (.fcons (.int .i64) (.fnil))))))))), .node (.fcons (.int .i64) (.fcons (.int .i64) (.fnil))), .int .i64, .bool]
def hp_68 : List (Option (Pat × Nat)) := []
abbrev Tp_68 (R : Type) : Type := (Y0 × (Int × (Int × Unit)) × Int × Bool × Unit) × (Unit) → (Int → Option R) → Option R
def Q_68 {R : Type} (x : (Y0 × (Int × (Int × Unit)) × Int × Bool × Unit) × (Unit)) (κ0 : Int → Option R) : Option R :=
let i808 := x.1.1.2.2.2.2.2.1
let i809 := x.1.1.2.2.2.2.2.2.1
let i811 := x.1.2.1.1
let i812 := x.1.2.1.2.1
let i813 := x.1.2.2.1
let b814 := x.1.2.2.2.1
let i815 : Int := mulA .i64 i812 i809
bif (decide (i811 > 0)) then (
let i816 : Int := subA .i64 i808 i809
bif b814 then (
let i817 : Int := addA .i64 i816 i813
let i818 : Int := subA .i64 i817 1
κ0 i818) else (
bif (i813 == 0) then (
let i819 : Int := subA .i64 i816 1
κ0 i819) else (
κ0 i816))) else (
bif b814 then (
let i820 : Int := addA .i64 i815 i813
let i821 : Int := subA .i64 i820 1
κ0 i821) else (
bif (i813 == 0) then (
let i822 : Int := subA .i64 i815 1
κ0 i822) else (
κ0 i815)))
def p_68 {R : Type} (N : Nat) (x : (Y0 × (Int × (Int × Unit)) × Int × Bool × Unit) × (Unit)) (κ0 : Int → Option R) : Option R := Q_68 x κ0
def EG_68 {R : Type} : Env R := Env.base QQ LN AA
def LG_68 {R : Type} : Loops R := Loops.none
def E_68 {R : Type} (N : Nat) : Env R := EG_68
theorem eok_68 {R : Type} (N : Nat) : EK Try.prog (E_68 (R := R) N) := ek_base _ _ _
def L_68 {R : Type} (N : Nat) : Loops R := LG_68
theorem lok_68 {R : Type} (N : Nat) : LOK 0 TT (E_68 (R := R) N) (drawAny TT WW) (L_68 N) (bodyOf Try.f68) := loops_nil (by kernel_rfl)
theorem grun_68 {R : Type} (x : aden ap_68 × hden hp_68) (k : KF R) : fnrun TT (EG_68) (drawAny TT WW) (LG_68) true Try.f68 (instA ap_68 x.1) (instH hp_68 x.2) k = Q_68 x (fun y => k (Pat.inst (.int .i64) y) (instH hp_68 x.2)) := by kernel_rfl
theorem run_68 {R : Type} (N : Nat) (x : aden ap_68 × hden hp_68) (k : KF R) : fnrun TT (E_68 (R := R) N) (drawAny TT WW) (L_68 N) true Try.f68 (instA ap_68 x.1) (instH hp_68 x.2) k = p_68 N x (fun y => k (Pat.inst (.int .i64) y) (instH hp_68 x.2)) := (grun_68 x k).trans (by kernel_rfl)
theorem good_68 {R : Type} (N : Nat) : GD (X := R) Try.prog QQ AA 68 ap_68 hp_68 (fun (x : aden ap_68 × hden hp_68) k => p_68 N x (fun y => k (Pat.inst (.int .i64) y) (instH hp_68 x.2))) :=
  gd_quiet (E := E_68 N) (p := fun (x : aden ap_68 × hden hp_68) κ => p_68 N x (fun y => κ (Pat.inst (.int .i64) y))) mixed tyok (eok_68 N) Try.func68 (by kernel_rfl) (by kernel_rfl) (lok_68 N) (fun x k => run_68 N x k)

def ap_69 : List Pat := [.node (.fcons (.int .i64) (.fcons (.int .i64) (.fcons (.int .i64) (.fcons (.int .i64) (.fcons (.int .i64) (.fcons (.int .i64) (.fcons (.int .i64) (.fcons (.int .i64) (.fnil))))))))), .node (.fcons (.int .i64) (.fcons (.int .i64) (.fnil)))]
def hp_69 : List (Option (Pat × Nat)) := []
abbrev Tp_69 (R : Type) : Type := (Y0 × (Int × (Int × Unit)) × Unit) × (Unit) → (Int → Option R) → Option R
def Q_69 {R : Type} (x : (Y0 × (Int × (Int × Unit)) × Unit) × (Unit)) (κ0 : Int → Option R) : Option R :=
let i831 := x.1.1.2.2.2.2.2.2.1
let i833 := x.1.2.1.1
let i834 := x.1.2.1.2.1
bif (i833 == 0) then (
κ0 0) else (
bif (i834 == 3) then (
κ0 0) else (
let i835 : Int := addA .i64 i834 1
let i836 : Int := mulA .i64 i835 i831
κ0 i836))
def p_69 {R : Type} (N : Nat) (x : (Y0 × (Int × (Int × Unit)) × Unit) × (Unit)) (κ0 : Int → Option R) : Option R := Q_69 x κ0
def EG_69 {R : Type} : Env R := Env.base QQ LN AA
def LG_69 {R : Type} : Loops R := Loops.none
def E_69 {R : Type} (N : Nat) : Env R := EG_69
theorem eok_69 {R : Type} (N : Nat) : EK Try.prog (E_69 (R := R) N) := ek_base _ _ _
def L_69 {R : Type} (N : Nat) : Loops R := LG_69
theorem lok_69 {R : Type} (N : Nat) : LOK 0 TT (E_69 (R := R) N) (drawAny TT WW) (L_69 N) (bodyOf Try.f69) := loops_nil (by kernel_rfl)
theorem grun_69 {R : Type} (x : aden ap_69 × hden hp_69) (k : KF R) : fnrun TT (EG_69) (drawAny TT WW) (LG_69) true Try.f69 (instA ap_69 x.1) (instH hp_69 x.2) k = Q_69 x (fun y => k (Pat.inst (.int .i64) y) (instH hp_69 x.2)) := by kernel_rfl
theorem run_69 {R : Type} (N : Nat) (x : aden ap_69 × hden hp_69) (k : KF R) : fnrun TT (E_69 (R := R) N) (drawAny TT WW) (L_69 N) true Try.f69 (instA ap_69 x.1) (instH hp_69 x.2) k = p_69 N x (fun y => k (Pat.inst (.int .i64) y) (instH hp_69 x.2)) := (grun_69 x k).trans (by kernel_rfl)
theorem good_69 {R : Type} (N : Nat) : GD (X := R) Try.prog QQ AA 69 ap_69 hp_69 (fun (x : aden ap_69 × hden hp_69) k => p_69 N x (fun y => k (Pat.inst (.int .i64) y) (instH hp_69 x.2))) :=
  gd_quiet (E := E_69 N) (p := fun (x : aden ap_69 × hden hp_69) κ => p_69 N x (fun y => κ (Pat.inst (.int .i64) y))) mixed tyok (eok_69 N) Try.func69 (by kernel_rfl) (by kernel_rfl) (lok_69 N) (fun x k => run_69 N x k)

def ap_89 : List Pat := [.int .u64, .int .u64]
def hp_89 : List (Option (Pat × Nat)) := []
abbrev Tp_89 (R : Type) : Type := (Int × Int × Unit) × (Unit) → ((Int × (Int × Unit)) → Option R) → Option R
def Q_89 {R : Type} (x : (Int × Int × Unit) × (Unit)) (κ0 : (Int × (Int × Unit)) → Option R) : Option R :=
let i846 := x.1.1
let i847 := x.1.2.1
let i848 : Int := andA .u64 i846 4294967295
let i849 : Int := shrA .u64 i846 32
let i850 : Int := andA .u64 i847 4294967295
let i851 : Int := shrA .u64 i847 32
let i852 : Int := mulA .u64 i848 i850
let i853 : Int := mulA .u64 i849 i850
let i854 : Int := shrA .u64 i852 32
let i855 : Int := addA .u64 i853 i854
let i856 : Int := andA .u64 i855 4294967295
let i857 : Int := shrA .u64 i855 32
let i858 : Int := mulA .u64 i848 i851
let i859 : Int := addA .u64 i856 i858
let i860 : Int := mulA .u64 i849 i851
let i861 : Int := addA .u64 i860 i857
let i862 : Int := shrA .u64 i859 32
let i863 : Int := addA .u64 i861 i862
let i864 : Int := mulA .u64 i846 i847
κ0 ((i863, (i864, ())))
def p_89 {R : Type} (N : Nat) (x : (Int × Int × Unit) × (Unit)) (κ0 : (Int × (Int × Unit)) → Option R) : Option R := Q_89 x κ0
def EG_89 {R : Type} : Env R := Env.base QQ LN AA
def LG_89 {R : Type} : Loops R := Loops.none
def E_89 {R : Type} (N : Nat) : Env R := EG_89
theorem eok_89 {R : Type} (N : Nat) : EK Try.prog (E_89 (R := R) N) := ek_base _ _ _
def L_89 {R : Type} (N : Nat) : Loops R := LG_89
theorem lok_89 {R : Type} (N : Nat) : LOK 0 TT (E_89 (R := R) N) (drawAny TT WW) (L_89 N) (bodyOf Try.f89) := loops_nil (by kernel_rfl)
theorem grun_89 {R : Type} (x : aden ap_89 × hden hp_89) (k : KF R) : fnrun TT (EG_89) (drawAny TT WW) (LG_89) true Try.f89 (instA ap_89 x.1) (instH hp_89 x.2) k = Q_89 x (fun y => k (Pat.inst (.tup (.fcons (.int .u64) (.fcons (.int .u64) (.fnil)))) y) (instH hp_89 x.2)) := by kernel_rfl
theorem run_89 {R : Type} (N : Nat) (x : aden ap_89 × hden hp_89) (k : KF R) : fnrun TT (E_89 (R := R) N) (drawAny TT WW) (L_89 N) true Try.f89 (instA ap_89 x.1) (instH hp_89 x.2) k = p_89 N x (fun y => k (Pat.inst (.tup (.fcons (.int .u64) (.fcons (.int .u64) (.fnil)))) y) (instH hp_89 x.2)) := (grun_89 x k).trans (by kernel_rfl)
theorem good_89 {R : Type} (N : Nat) : GD (X := R) Try.prog QQ AA 89 ap_89 hp_89 (fun (x : aden ap_89 × hden hp_89) k => p_89 N x (fun y => k (Pat.inst (.tup (.fcons (.int .u64) (.fcons (.int .u64) (.fnil)))) y) (instH hp_89 x.2))) :=
  gd_quiet (E := E_89 N) (p := fun (x : aden ap_89 × hden hp_89) κ => p_89 N x (fun y => κ (Pat.inst (.tup (.fcons (.int .u64) (.fcons (.int .u64) (.fnil)))) y))) mixed tyok (eok_89 N) Try.func89 (by kernel_rfl) (by kernel_rfl) (lok_89 N) (fun x k => run_89 N x k)

def ap_70 : List Pat := [.int .i64, .int .u32]
def hp_70 : List (Option (Pat × Nat)) := []
abbrev Tp_70 (R : Type) : Type := (Int × Int × Unit) × (Unit) → (Int → Option R) → Option R
def Q_70 {R : Type} (q_89 : Tp_89 R) (x : (Int × Int × Unit) × (Unit)) (κ0 : Int → Option R) : Option R :=
let i839 := x.1.1
let i840 := x.1.2.1
bif (decide (i839 < 1)) then (
κ0 0) else (
let i841 : Int := IntKind.wrap .u64 i840
let i842 : Int := IntKind.wrap .u64 i840
let i843 : Int := mulA .u64 i841 i842
let i844 : Int := shrA .u64 i843 32
let i845 : Int := IntKind.wrap .u64 i839
q_89 ((i845, i844, ()), ()) (fun y865 =>
let i866 := y865.1
let i867 := y865.2.1
let i868 : Int := shlA .u64 i866 32
let i869 : Int := shrA .u64 i867 32
let i870 : Int := orA .u64 i868 i869
let i871 : Int := subA .i64 i839 1
let i872 : Int := IntKind.wrap .i64 i870
let i873 : Int := subA .i64 i871 i872
κ0 i873))
def p_70 {R : Type} (N : Nat) (x : (Int × Int × Unit) × (Unit)) (κ0 : Int → Option R) : Option R := Q_70 (p_89 N) x κ0
def EG_70 {R : Type} (q_89 : Tp_89 R) : Env R := (Env.base QQ LN AA).add 89 ap_89 hp_89 (fun (x : aden ap_89 × hden hp_89) k => q_89 x (fun y => k (Pat.inst (.tup (.fcons (.int .u64) (.fcons (.int .u64) (.fnil)))) y) (instH hp_89 x.2)))
def LG_70 {R : Type} : Loops R := Loops.none
def E_70 {R : Type} (N : Nat) : Env R := EG_70 (p_89 N)
theorem eok_70 {R : Type} (N : Nat) : EK Try.prog (E_70 (R := R) N) := ek_add (ek_base _ _ _) (good_89 N)
def L_70 {R : Type} (N : Nat) : Loops R := LG_70
theorem lok_70 {R : Type} (N : Nat) : LOK 0 TT (E_70 (R := R) N) (drawAny TT WW) (L_70 N) (bodyOf Try.f70) := loops_nil (by kernel_rfl)
theorem grun_70 {R : Type} (q_89 : Tp_89 R) (x : aden ap_70 × hden hp_70) (k : KF R) : fnrun TT (EG_70 q_89) (drawAny TT WW) (LG_70) true Try.f70 (instA ap_70 x.1) (instH hp_70 x.2) k = Q_70 q_89 x (fun y => k (Pat.inst (.int .i64) y) (instH hp_70 x.2)) := by kernel_rfl
theorem run_70 {R : Type} (N : Nat) (x : aden ap_70 × hden hp_70) (k : KF R) : fnrun TT (E_70 (R := R) N) (drawAny TT WW) (L_70 N) true Try.f70 (instA ap_70 x.1) (instH hp_70 x.2) k = p_70 N x (fun y => k (Pat.inst (.int .i64) y) (instH hp_70 x.2)) := (grun_70 (p_89 N) x k).trans (by kernel_rfl)
theorem good_70 {R : Type} (N : Nat) : GD (X := R) Try.prog QQ AA 70 ap_70 hp_70 (fun (x : aden ap_70 × hden hp_70) k => p_70 N x (fun y => k (Pat.inst (.int .i64) y) (instH hp_70 x.2))) :=
  gd_quiet (E := E_70 N) (p := fun (x : aden ap_70 × hden hp_70) κ => p_70 N x (fun y => κ (Pat.inst (.int .i64) y))) mixed tyok (eok_70 N) Try.func70 (by kernel_rfl) (by kernel_rfl) (lok_70 N) (fun x k => run_70 N x k)

def ap_34 : List Pat := [.node (.fcons (.int .i64) (.fcons (.int .i64) (.fcons (.int .i64) (.fcons (.int .i64) (.fcons (.int .i64) (.fcons (.int .i64) (.fcons (.int .i64) (.fcons (.int .i64) (.fnil))))))))), .node (.fcons (.int .i64) (.fcons (.int .i64) (.fnil))), .int .i64, .int .i64, .int .u32, .int .u32]
def hp_34 : List (Option (Pat × Nat)) := []
abbrev Tp_34 (R : Type) : Type := (Y0 × (Int × (Int × Unit)) × Int × Int × Int × Int × Unit) × (Unit) → (((Int × (Int × Unit)) × (Int × Unit)) → Option R) → Option R
def Q_34 {R : Type} (q_29 : Tp_29 R) (q_63 : Tp_63 R) (q_30 : Tp_30 R) (q_67 : Tp_67 R) (q_68 : Tp_68 R) (q_69 : Tp_69 R) (q_70 : Tp_70 R) (x : (Y0 × (Int × (Int × Unit)) × Int × Int × Int × Int × Unit) × (Unit)) (κ0 : ((Int × (Int × Unit)) × (Int × Unit)) → Option R) : Option R :=
let i734 := x.1.1.2.2.1
let i737 := x.1.1.2.2.2.2.2.1
let i738 := x.1.1.2.2.2.2.2.2.1
let i740 := x.1.2.1.1
let i741 := x.1.2.1.2.1
let i742 := x.1.2.2.1
let i743 := x.1.2.2.2.1
let i744 := x.1.2.2.2.2.1
let i745 := x.1.2.2.2.2.2.1
bif (decide (i734 > 0)) then (
q_29 ((x.1.1, x.1.2.1, ()), ()) (fun y761 =>
let b762 := y761
bif b762 then (
let i763 : Int := subA .i64 i734 1
q_63 ((i742, 0, i763, ()), ()) (fun y764 =>
let b765 : Bool := y764
bif (!b765) then (
κ0 (((0, (0, ())), (11, ())))) else (
q_30 ((x.1.1, i740, i741, ()), ()) (fun y776 =>
let i777 : Int := y776
let i778 : Int := subA .i64 i738 1
q_63 ((i743, i777, i778, ()), ()) (fun y779 =>
let b780 : Bool := y779
bif (!b780) then (
κ0 (((0, (0, ())), (11, ())))) else (
q_67 ((x.1.1, x.1.2.1, i742, i745, ()), ()) (fun y801 =>
let i802 := y801
q_68 ((x.1.1, x.1.2.1, i743, (i802 == i742), ()), ()) (fun y823 =>
let i824 : Int := y823
q_69 ((x.1.1, x.1.2.1, ()), ()) (fun y837 =>
let i838 : Int := y837
q_70 ((i824, i744, ()), ()) (fun y874 =>
let i875 : Int := y874
let i876 : Int := addA .i64 i838 i875
bif decide (i737 = 0) then none else (
let i877 : Int := remA .i64 i876 i737
κ0 (((i802, (i877, ())), (0, ())))))))))))))) else (
κ0 (((0, (0, ())), (11, ())))))) else (
κ0 (((0, (0, ())), (11, ()))))
def p_34 {R : Type} (N : Nat) (x : (Y0 × (Int × (Int × Unit)) × Int × Int × Int × Int × Unit) × (Unit)) (κ0 : ((Int × (Int × Unit)) × (Int × Unit)) → Option R) : Option R := Q_34 (p_29 N) (p_63 N) (p_30 N) (p_67 N) (p_68 N) (p_69 N) (p_70 N) x κ0
def EG_34 {R : Type} (q_29 : Tp_29 R) (q_63 : Tp_63 R) (q_30 : Tp_30 R) (q_67 : Tp_67 R) (q_68 : Tp_68 R) (q_69 : Tp_69 R) (q_70 : Tp_70 R) : Env R := (((((((Env.base QQ LN AA).add 29 ap_29 hp_29 (fun (x : aden ap_29 × hden hp_29) k => q_29 x (fun y => k (Pat.inst (.bool) y) (instH hp_29 x.2)))).add 63 ap_63 hp_63 (fun (x : aden ap_63 × hden hp_63) k => q_63 x (fun y => k (Pat.inst (.bool) y) (instH hp_63 x.2)))).add 30 ap_30 hp_30 (fun (x : aden ap_30 × hden hp_30) k => q_30 x (fun y => k (Pat.inst (.int .i64) y) (instH hp_30 x.2)))).add 67 ap_67 hp_67 (fun (x : aden ap_67 × hden hp_67) k => q_67 x (fun y => k (Pat.inst (.int .i64) y) (instH hp_67 x.2)))).add 68 ap_68 hp_68 (fun (x : aden ap_68 × hden hp_68) k => q_68 x (fun y => k (Pat.inst (.int .i64) y) (instH hp_68 x.2)))).add 69 ap_69 hp_69 (fun (x : aden ap_69 × hden hp_69) k => q_69 x (fun y => k (Pat.inst (.int .i64) y) (instH hp_69 x.2)))).add 70 ap_70 hp_70 (fun (x : aden ap_70 × hden hp_70) k => q_70 x (fun y => k (Pat.inst (.int .i64) y) (instH hp_70 x.2)))
def LG_34 {R : Type} : Loops R := Loops.none
def E_34 {R : Type} (N : Nat) : Env R := EG_34 (p_29 N) (p_63 N) (p_30 N) (p_67 N) (p_68 N) (p_69 N) (p_70 N)
theorem eok_34 {R : Type} (N : Nat) : EK Try.prog (E_34 (R := R) N) := ek_add (ek_add (ek_add (ek_add (ek_add (ek_add (ek_add (ek_base _ _ _) (good_29 N)) (good_63 N)) (good_30 N)) (good_67 N)) (good_68 N)) (good_69 N)) (good_70 N)
def L_34 {R : Type} (N : Nat) : Loops R := LG_34
theorem lok_34 {R : Type} (N : Nat) : LOK 0 TT (E_34 (R := R) N) (drawAny TT WW) (L_34 N) (bodyOf Try.f34) := loops_nil (by kernel_rfl)
theorem grun_34 {R : Type} (q_29 : Tp_29 R) (q_63 : Tp_63 R) (q_30 : Tp_30 R) (q_67 : Tp_67 R) (q_68 : Tp_68 R) (q_69 : Tp_69 R) (q_70 : Tp_70 R) (x : aden ap_34 × hden hp_34) (k : KF R) : fnrun TT (EG_34 q_29 q_63 q_30 q_67 q_68 q_69 q_70) (drawAny TT WW) (LG_34) true Try.f34 (instA ap_34 x.1) (instH hp_34 x.2) k = Q_34 q_29 q_63 q_30 q_67 q_68 q_69 q_70 x (fun y => k (Pat.inst (.tup (.fcons Z7 (.fcons (.int .i64) (.fnil)))) y) (instH hp_34 x.2)) := by kernel_rfl
theorem run_34 {R : Type} (N : Nat) (x : aden ap_34 × hden hp_34) (k : KF R) : fnrun TT (E_34 (R := R) N) (drawAny TT WW) (L_34 N) true Try.f34 (instA ap_34 x.1) (instH hp_34 x.2) k = p_34 N x (fun y => k (Pat.inst (.tup (.fcons Z7 (.fcons (.int .i64) (.fnil)))) y) (instH hp_34 x.2)) := (grun_34 (p_29 N) (p_63 N) (p_30 N) (p_67 N) (p_68 N) (p_69 N) (p_70 N) x k).trans (by kernel_rfl)
theorem good_34 {R : Type} (N : Nat) : GD (X := R) Try.prog QQ AA 34 ap_34 hp_34 (fun (x : aden ap_34 × hden hp_34) k => p_34 N x (fun y => k (Pat.inst (.tup (.fcons Z7 (.fcons (.int .i64) (.fnil)))) y) (instH hp_34 x.2))) :=
  gd_quiet (E := E_34 N) (p := fun (x : aden ap_34 × hden hp_34) κ => p_34 N x (fun y => κ (Pat.inst (.tup (.fcons Z7 (.fcons (.int .i64) (.fnil)))) y))) mixed tyok (eok_34 N) Try.func34 (by kernel_rfl) (by kernel_rfl) (lok_34 N) (fun x k => run_34 N x k)

def ap_35 : List Pat := [.ptr 0 [], .node (.fcons (.int .i64) (.fcons (.int .i64) (.fnil))), .int .i64, .int .i64, .ptr 4 []]
def hp_35 : List (Option (Pat × Nat)) := J1
abbrev Tp_35 (R : Type) : Type := (Unit × (Int × (Int × Unit)) × Int × Int × Unit × Unit) × Y22 → (((((Int × (Int × Unit)) × ((Int × (Int × Unit)) × ((Int × (Int × Unit)) × Unit))) × (Int × Unit)) × Y22) → Option R) → Option R
def Q_35 {R : Type} (q_32 : Tp_32 R) (q_34 : Tp_34 R) (q_36 : Tp_36 R) (q_37 : Tp_37 R) (x : (Unit × (Int × (Int × Unit)) × Int × Int × Unit × Unit) × Y22) (κ0 : ((((Int × (Int × Unit)) × ((Int × (Int × Unit)) × ((Int × (Int × Unit)) × Unit))) × (Int × Unit)) × Y22) → Option R) : Option R :=
let i207 := x.1.2.1.2.1
let i208 := x.1.2.2.1
let i209 := x.1.2.2.2.1
let l223 := x.2.2.2.2.1
q_32 (((), x.1.2.1, i208, i209, (), ()), (x.2.1, x.2.2.1, x.2.2.2.1, l223, x.2.2.2.2.2.1, ())) (fun y701 =>
let i702 := y701.1.1
let i703 := y701.1.2.1
let i704 := y701.1.2.2.1
let l718 := y701.2.2.2.2.1
bif (i704 != 0) then (
κ0 ((((0, (0, ())), ((0, (0, ())), ((0, (0, ())), ()))), (i704, ())), (y701.2.1, y701.2.2.1, y701.2.2.2.1, l718, y701.2.2.2.2.2.1, ()))) else (
q_34 ((y701.2.1.2.1, x.1.2.1, i208, i209, i702, i703, ()), ()) (fun y878 =>
let i881 := y878.2.1
bif (i881 != 0) then (
κ0 ((((0, (0, ())), ((0, (0, ())), ((0, (0, ())), ()))), y878.2), (y701.2.1, y701.2.2.1, y701.2.2.2.1, l718, y701.2.2.2.2.2.1, ()))) else (
q_36 ((y701.2.1.2.1, i207, i209, ()), ()) (fun y882 =>
let i883 := y882
q_37 ((y701.2.1.2.1, i883, ()), ()) (fun y884 =>
let i885 : Int := y884
κ0 ((((i208, (i883, ())), ((i208, (i885, ())), (y878.1, ()))), (0, ())), (y701.2.1, y701.2.2.1, y701.2.2.2.1, l718, y701.2.2.2.2.2.1, ()))))))))
def p_35 {R : Type} (N : Nat) (x : (Unit × (Int × (Int × Unit)) × Int × Int × Unit × Unit) × Y22) (κ0 : ((((Int × (Int × Unit)) × ((Int × (Int × Unit)) × ((Int × (Int × Unit)) × Unit))) × (Int × Unit)) × Y22) → Option R) : Option R := Q_35 (p_32 N) (p_34 N) (p_36 N) (p_37 N) x κ0
def EG_35 {R : Type} (q_32 : Tp_32 R) (q_34 : Tp_34 R) (q_36 : Tp_36 R) (q_37 : Tp_37 R) : Env R := ((((Env.base QQ LN AA).add 32 ap_32 hp_32 (fun (x : aden ap_32 × hden hp_32) k => q_32 x (fun y => k (Pat.inst (.tup (.fcons (.int .u32) (.fcons (.int .u32) (.fcons (.int .i64) (.fnil))))) y.1) (instH J1 y.2)))).add 34 ap_34 hp_34 (fun (x : aden ap_34 × hden hp_34) k => q_34 x (fun y => k (Pat.inst (.tup (.fcons Z7 (.fcons (.int .i64) (.fnil)))) y) (instH hp_34 x.2)))).add 36 ap_36 hp_36 (fun (x : aden ap_36 × hden hp_36) k => q_36 x (fun y => k (Pat.inst (.int .i64) y) (instH hp_36 x.2)))).add 37 ap_37 hp_37 (fun (x : aden ap_37 × hden hp_37) k => q_37 x (fun y => k (Pat.inst (.int .i64) y) (instH hp_37 x.2)))
def LG_35 {R : Type} : Loops R := Loops.none
def E_35 {R : Type} (N : Nat) : Env R := EG_35 (p_32 N) (p_34 N) (p_36 N) (p_37 N)
theorem eok_35 {R : Type} (N : Nat) : EK Try.prog (E_35 (R := R) N) := ek_add (ek_add (ek_add (ek_add (ek_base _ _ _) (good_32 N)) (good_34 N)) (good_36 N)) (good_37 N)
def L_35 {R : Type} (N : Nat) : Loops R := LG_35
theorem lok_35 {R : Type} (N : Nat) : LOK 5 TT (E_35 (R := R) N) (drawAny TT WW) (L_35 N) (bodyOf Try.f35) := loops_nil (by kernel_rfl)
theorem grun_35 {R : Type} (q_32 : Tp_32 R) (q_34 : Tp_34 R) (q_36 : Tp_36 R) (q_37 : Tp_37 R) (x : aden ap_35 × hden hp_35) (k : KF R) : fnrun TT (EG_35 q_32 q_34 q_36 q_37) (drawAny TT WW) (LG_35) true Try.f35 (instA ap_35 x.1) (instH hp_35 x.2) k = Q_35 q_32 q_34 q_36 q_37 x (fun y => k (Pat.inst (.tup (.fcons (.node (.fcons Z7 (.fcons Z7 (.fcons Z7 (.fnil))))) (.fcons (.int .i64) (.fnil)))) y.1) (instH J1 y.2)) := by kernel_rfl
theorem run_35 {R : Type} (N : Nat) (x : aden ap_35 × hden hp_35) (k : KF R) : fnrun TT (E_35 (R := R) N) (drawAny TT WW) (L_35 N) true Try.f35 (instA ap_35 x.1) (instH hp_35 x.2) k = p_35 N x (fun y => k (Pat.inst (.tup (.fcons (.node (.fcons Z7 (.fcons Z7 (.fcons Z7 (.fnil))))) (.fcons (.int .i64) (.fnil)))) y.1) (instH J1 y.2)) := (grun_35 (p_32 N) (p_34 N) (p_36 N) (p_37 N) x k).trans (by kernel_rfl)
theorem good_35 {R : Type} (N : Nat) : GD (X := R) Try.prog QQ AA 35 ap_35 hp_35 (fun (x : aden ap_35 × hden hp_35) k => p_35 N x (fun y => k (Pat.inst (.tup (.fcons (.node (.fcons Z7 (.fcons Z7 (.fcons Z7 (.fnil))))) (.fcons (.int .i64) (.fnil)))) y.1) (instH J1 y.2))) :=
  gd_loud (E := E_35 N) (p := fun (x : aden ap_35 × hden hp_35) k => p_35 N x (fun y => k (Pat.inst (.tup (.fcons (.node (.fcons Z7 (.fcons Z7 (.fcons Z7 (.fnil))))) (.fcons (.int .i64) (.fnil)))) y.1) (instH J1 y.2))) mixed tyok (eok_35 N) Try.func35 (by kernel_rfl) (by kernel_rfl) (by kernel_rfl) (by kernel_rfl) (lok_35 N) (fun x k => run_35 N x k)

def ap_28 : List Pat := []
def hp_28 : List (Option (Pat × Nat)) := []
abbrev Tp_28 (R : Type) : Type := (Unit) × (Unit) → (Bool → Option R) → Option R
def Q_28 {R : Type} (q_14 : Tp_14 R) (q_40 : Tp_40 R) (q_33 : Tp_33 R) (q_35 : Tp_35 R) (x : (Unit) × (Unit)) (κ0 : Bool → Option R) : Option R :=
q_14 (((1, (1, (16, (1, (32, ()))))), ()), ()) (fun y163 =>
κ0 false) (fun y164 =>
let l178 := y164.2.2.2.2.1
q_40 (((), ()), ()) (fun y179 =>
let i180 : Int := y179
bif (i180 != 11) then (
κ0 false) else (
q_33 ((y164.2.1.2.1, (0, (0, ())), 0, ()), ()) (fun y192 =>
q_35 (((), (0, (0, ())), 0, 2, (), ()), (y164.2.1, y164.2.2.1, y164.2.2.2.1, l178, y192.2.1, ())) (fun y886 =>
let i893 := y886.1.2.1
bif (i893 == 0) then (
bif (schEq (.stru (.fcons (.int .i64) (.fcons (.int .i64) (.fnil)))) (y886.1.1.1) ((0, (2, ())))) then (
bif (schEq (.stru (.fcons (.int .i64) (.fcons (.int .i64) (.fnil)))) (y886.1.1.2.1) ((0, (1, ())))) then (
κ0 ((schEq (.stru (.fcons (.int .i64) (.fcons (.int .i64) (.fnil)))) (y886.1.1.2.2.1) ((0, (0, ())))))) else (
κ0 false)) else (
κ0 false)) else (
κ0 false))))))
def p_28 {R : Type} (N : Nat) (x : (Unit) × (Unit)) (κ0 : Bool → Option R) : Option R := Q_28 (p_14 N) (p_40 N) (p_33 N) (p_35 N) x κ0
def EG_28 {R : Type} (q_14 : Tp_14 R) (q_40 : Tp_40 R) (q_33 : Tp_33 R) (q_35 : Tp_35 R) : Env R := ((((Env.base QQ LN AA).add 14 ap_14 hp_14 (fun (x : aden ap_14 × hden hp_14) k => q_14 x (fun y => k (Pat.inst (.nilp) y.1) (instH [] y.2)) (fun y => k (Pat.inst (.ptr 0 []) y.1) (instH J0 y.2)))).add 40 ap_40 hp_40 (fun (x : aden ap_40 × hden hp_40) k => q_40 x (fun y => k (Pat.inst (.int .i64) y) (instH hp_40 x.2)))).add 33 ap_33 hp_33 (fun (x : aden ap_33 × hden hp_33) k => q_33 x (fun y => k (Pat.inst (.ptr 0 []) y.1) (instH hp_33 x.2 ++ instH [some (Z2, 132)] y.2)))).add 35 ap_35 hp_35 (fun (x : aden ap_35 × hden hp_35) k => q_35 x (fun y => k (Pat.inst (.tup (.fcons (.node (.fcons Z7 (.fcons Z7 (.fcons Z7 (.fnil))))) (.fcons (.int .i64) (.fnil)))) y.1) (instH J1 y.2)))
def LG_28 {R : Type} : Loops R := Loops.none
def E_28 {R : Type} (N : Nat) : Env R := EG_28 (p_14 N) (p_40 N) (p_33 N) (p_35 N)
theorem eok_28 {R : Type} (N : Nat) : EK Try.prog (E_28 (R := R) N) := ek_add (ek_add (ek_add (ek_add (ek_base _ _ _) (good_14 N)) (good_40 N)) (good_33 N)) (good_35 N)
def L_28 {R : Type} (N : Nat) : Loops R := LG_28
theorem lok_28 {R : Type} (N : Nat) : LOK 0 TT (E_28 (R := R) N) (drawAny TT WW) (L_28 N) (bodyOf Try.f28) := loops_nil (by kernel_rfl)
theorem grun_28 {R : Type} (q_14 : Tp_14 R) (q_40 : Tp_40 R) (q_33 : Tp_33 R) (q_35 : Tp_35 R) (x : aden ap_28 × hden hp_28) (k : KF R) : fnrun TT (EG_28 q_14 q_40 q_33 q_35) (drawAny TT WW) (LG_28) true Try.f28 (instA ap_28 x.1) (instH hp_28 x.2) k = Q_28 q_14 q_40 q_33 q_35 x (fun y => k (Pat.inst (.bool) y) (instH hp_28 x.2)) := by kernel_rfl
theorem run_28 {R : Type} (N : Nat) (x : aden ap_28 × hden hp_28) (k : KF R) : fnrun TT (E_28 (R := R) N) (drawAny TT WW) (L_28 N) true Try.f28 (instA ap_28 x.1) (instH hp_28 x.2) k = p_28 N x (fun y => k (Pat.inst (.bool) y) (instH hp_28 x.2)) := (grun_28 (p_14 N) (p_40 N) (p_33 N) (p_35 N) x k).trans (by kernel_rfl)
theorem good_28 {R : Type} (N : Nat) : GD (X := R) Try.prog QQ AA 28 ap_28 hp_28 (fun (x : aden ap_28 × hden hp_28) k => p_28 N x (fun y => k (Pat.inst (.bool) y) (instH hp_28 x.2))) :=
  gd_quiet (E := E_28 N) (p := fun (x : aden ap_28 × hden hp_28) κ => p_28 N x (fun y => κ (Pat.inst (.bool) y))) mixed tyok (eok_28 N) Try.func28 (by kernel_rfl) (by kernel_rfl) (lok_28 N) (fun x k => run_28 N x k)

def lv_53_3 : Live := [(3, none), (10, none), (11, none), (12, none)]
def pt_53_3 : SPat := ⟨[(3, .sl 1), (10, .sl 0), (11, .int .i64), (12, .int .i64)], [some (.lst (.int .u32), 78), some (.lst (.int .u8), 5)]⟩
def px_53_3_0 : SPat := ⟨[(3, .sl 1)], [some (.lst (.int .u32), 78), some (.lst (.int .u8), 5)]⟩
def lo_53_3 : Exit → Live
  | .exit 0 => [(3, none)]
  | _ => []
def ap_53 : List Pat := [.sl 0]
def hp_53 : List (Option (Pat × Nat)) := [some (.lst (.int .u32), 78)]
abbrev Tl_53_3 (R : Type) : Type := (Y13 × ((List Int) × (List Int) × Unit)) → (((Unit × Unit) × ((List Int) × (List Int) × Unit)) → Option R) → Option R
abbrev Tp_53 (R : Type) : Type := (Unit × Unit) × ((List Int) × Unit) → (((List Int) × ((List Int) × Unit)) → Option R) → Option R
def C_53_3 {R : Type} (rec : (Y13 × ((List Int) × (List Int) × Unit)) → Option R) (x : (Y13 × ((List Int) × (List Int) × Unit))) (κ0 : ((Unit × Unit) × ((List Int) × (List Int) × Unit)) → Option R) : Option R :=
let i1003 := x.1.2.2.1
let i1004 := x.1.2.2.2.1
let l1005 := x.2.1
let l1006 := x.2.2.1
bif (decide (i1004 < i1003)) then (
bif decide (0 ≤ i1004) then (
bif decide (i1004 < ((List.length l1005) : Int)) then (
let i1007 : Int := (List.getD l1005 ((Int.toNat i1004)) (Sch.zero (.int .u32)))
let i1008 : Int := IntKind.wrap .u8 i1007
let i1009 : Int := shrA .u32 i1007 8
let i1010 : Int := IntKind.wrap .u8 i1009
let i1011 : Int := shrA .u32 i1007 16
let i1012 : Int := IntKind.wrap .u8 i1011
let i1013 : Int := shrA .u32 i1007 24
let i1014 : Int := IntKind.wrap .u8 i1013
let l1015 : (List Int) := [i1008, i1010, i1012, i1014]
bif (decide ((List.length l1006 + List.length l1015) * 1 ≤ 140737488355328) && true) then (
let l1016 : (List Int) := (l1006 ++ l1015)
let i1017 : Int := addA .i64 i1004 1
rec (((), (), i1003, i1017, ()), (l1005, l1016, ()))) else none) else none) else none) else (
κ0 (((), ()), (l1005, l1006, ())))
def B_53_3 {R : Type} (N : Nat) (rec : (Y13 × ((List Int) × (List Int) × Unit)) → Option R) (x : (Y13 × ((List Int) × (List Int) × Unit))) (κ0 : ((Unit × Unit) × ((List Int) × (List Int) × Unit)) → Option R) : Option R := C_53_3 rec x κ0
def l_53_3 {R : Type} (N : Nat) : Nat → (Y13 × ((List Int) × (List Int) × Unit)) → (((Unit × Unit) × ((List Int) × (List Int) × Unit)) → Option R) → Option R
  | 0, _, _ => none
  | n + 1, x, κ0 => B_53_3 N (fun y => l_53_3 N n y κ0) x κ0
def Q_53 {R : Type} (m_53_3 : Tl_53_3 R) (x : (Unit × Unit) × ((List Int) × Unit)) (κ0 : ((List Int) × ((List Int) × Unit)) → Option R) : Option R :=
let l998 := x.2.1
let i999 : Int := (((List.length l998) : Nat) : Int)
let i1000 : Int := mulA .i64 4 i999
bif decide (0 ≤ i1000) then (
bif decide (((1 : Nat) : Int) * i1000 ≤ 281474976710656) then (
bif decide (i1000 ≤ 9223372036854775807) then (
let l1001 : (List Int) := List.replicate 0 (Sch.zero (.int .u8))
let i1002 : Int := (((List.length l998) : Nat) : Int)
m_53_3 (((), (), i1002, 0, ()), (l998, l1001, ())) (fun y1018 =>
let l1019 := y1018.2.1
let l1020 := y1018.2.2.1
κ0 (l1020, (l1019, ())))) else none) else none) else none
def p_53 {R : Type} (N : Nat) (x : (Unit × Unit) × ((List Int) × Unit)) (κ0 : ((List Int) × ((List Int) × Unit)) → Option R) : Option R := Q_53 (l_53_3 N N) x κ0
def EG_53 {R : Type} : Env R := Env.base QQ LN AA
def LG_53 {R : Type} (m_53_3 : Tl_53_3 R) : Loops R := (Loops.none).add 3 (loopBy 1 lv_53_3 pt_53_3 (fun x k => m_53_3 x (fun y => k (.exit 0) (px_53_3_0.inst y))))
def E_53 {R : Type} (N : Nat) : Env R := EG_53
theorem eok_53 {R : Type} (N : Nat) : EK Try.prog (E_53 (R := R) N) := ek_base _ _ _
def L_53 {R : Type} (N : Nat) : Loops R := LG_53 (l_53_3 N N)
theorem gstep_53_3 {R : Type} (m_53_3 : Tl_53_3 R) (n : Nat) (x : pt_53_3.den) (k : Exit → St → Option R) : iter 1 lv_53_3 lo_53_3 (aexec TT (EG_53) (drawAny TT WW) (LG_53 m_53_3) (loopAt 3 (bodyOf Try.f53))) (n + 1) (pt_53_3.inst x) k = C_53_3 (fun y => iter 1 lv_53_3 lo_53_3 (aexec TT (EG_53) (drawAny TT WW) (LG_53 m_53_3) (loopAt 3 (bodyOf Try.f53))) n (pt_53_3.inst y) k) x (fun y => k (.exit 0) (px_53_3_0.inst y)) := by kernel_rfl
theorem step_53_3 {R : Type} (N n : Nat) (x : pt_53_3.den) (k : Exit → St → Option R) : iter 1 lv_53_3 lo_53_3 (aexec TT (E_53 (R := R) N) (drawAny TT WW) (L_53 N) (loopAt 3 (bodyOf Try.f53))) (n + 1) (pt_53_3.inst x) k = B_53_3 N (fun y => iter 1 lv_53_3 lo_53_3 (aexec TT (E_53 (R := R) N) (drawAny TT WW) (L_53 N) (loopAt 3 (bodyOf Try.f53))) n (pt_53_3.inst y) k) x (fun y => k (.exit 0) (px_53_3_0.inst y)) := (gstep_53_3 (l_53_3 N N) n x k).trans (by kernel_rfl)
theorem eq_53_3 {R : Type} (N : Nat) : ∀ (n : Nat) (x : pt_53_3.den) (k : Exit → St → Option R), iter 1 lv_53_3 lo_53_3 (aexec TT (E_53 (R := R) N) (drawAny TT WW) (L_53 N) (loopAt 3 (bodyOf Try.f53))) n (pt_53_3.inst x) k = l_53_3 N n x (fun y => k (.exit 0) (px_53_3_0.inst y)) :=
  iter_eq (K := Exit → St → Option R) (ks := fun k => k) (l := fun n (x : pt_53_3.den) k => l_53_3 N n x (fun y => k (.exit 0) (px_53_3_0.inst y))) (B := fun (rec : pt_53_3.den → Option R) (x : pt_53_3.den) k => B_53_3 N rec x (fun y => k (.exit 0) (px_53_3_0.inst y))) (fun _ _ => rfl) (fun _ _ _ => rfl) (fun n x k => step_53_3 N n x k)
theorem rounds_53_3 {R : Type} (N : Nat) : Rounds 1 TT (E_53 (R := R) N) (drawAny TT WW) (L_53 N) 3 (loopAt 3 (bodyOf Try.f53)) :=
  rounds_of (p := pt_53_3) (l := fun (x : pt_53_3.den) k => l_53_3 N N x (fun y => k (.exit 0) (px_53_3_0.inst y))) (fun s k => rfl) (fun x k => eq_53_3 N N x k)
theorem loops_53 : loopsIn (bodyOf Try.f53) = [(3, loopAt 3 (bodyOf Try.f53))] := by kernel_rfl
theorem lok_53 {R : Type} (N : Nat) : LOK 1 TT (E_53 (R := R) N) (drawAny TT WW) (L_53 N) (bodyOf Try.f53) := loops_all loops_53 (by
  simp only [List.forall_mem_cons, List.not_mem_nil, false_implies, implies_true, and_true]
  exact rounds_53_3 N)
theorem grun_53 {R : Type} (m_53_3 : Tl_53_3 R) (x : aden ap_53 × hden hp_53) (k : KF R) : fnrun TT (EG_53) (drawAny TT WW) (LG_53 m_53_3) true Try.f53 (instA ap_53 x.1) (instH hp_53 x.2) k = Q_53 m_53_3 x (fun y => k (Pat.inst (.ros (.int .u8)) y.1) (instH [some (.lst (.int .u32), 78)] y.2)) := by kernel_rfl
theorem run_53 {R : Type} (N : Nat) (x : aden ap_53 × hden hp_53) (k : KF R) : fnrun TT (E_53 (R := R) N) (drawAny TT WW) (L_53 N) true Try.f53 (instA ap_53 x.1) (instH hp_53 x.2) k = p_53 N x (fun y => k (Pat.inst (.ros (.int .u8)) y.1) (instH [some (.lst (.int .u32), 78)] y.2)) := (grun_53 (l_53_3 N N) x k).trans (by kernel_rfl)
theorem good_53 {R : Type} (N : Nat) : GD (X := R) Try.prog QQ AA 53 ap_53 hp_53 (fun (x : aden ap_53 × hden hp_53) k => p_53 N x (fun y => k (Pat.inst (.ros (.int .u8)) y.1) (instH [some (.lst (.int .u32), 78)] y.2))) :=
  gd_loud (E := E_53 N) (p := fun (x : aden ap_53 × hden hp_53) k => p_53 N x (fun y => k (Pat.inst (.ros (.int .u8)) y.1) (instH [some (.lst (.int .u32), 78)] y.2))) mixed tyok (eok_53 N) Try.func53 (by kernel_rfl) (by kernel_rfl) (by kernel_rfl) (by kernel_rfl) (lok_53 N) (fun x k => run_53 N x k)

def ap_96 : List Pat := [.int .i64, .bool]
def hp_96 : List (Option (Pat × Nat)) := []
abbrev Tp_96 (R : Type) : Type := (Int × Bool × Unit) × (Unit) → (((Unit × (Int × Unit)) × (Unit)) → Option R) → (((Unit × (Int × Unit)) × (Y4 × (List Int) × Unit)) → Option R) → Option R
def Q_96 {R : Type} (x : (Int × Bool × Unit) × (Unit)) (κ0 : ((Unit × (Int × Unit)) × (Unit)) → Option R) (κ1 : ((Unit × (Int × Unit)) × (Y4 × (List Int) × Unit)) → Option R) : Option R :=
let i1033 := x.1.1
let b1034 := x.1.2.1
bif (decide (i1033 < 1)) then (
κ0 (((), (1, ())), ())) else (
bif (decide (i1033 > 65536)) then (
κ0 (((), (1, ())), ())) else (
κ1 (((), (0, ())), ((i1033, (b1034, ((), (0, ())))), ([] : List Int), ()))))
def p_96 {R : Type} (N : Nat) (x : (Int × Bool × Unit) × (Unit)) (κ0 : ((Unit × (Int × Unit)) × (Unit)) → Option R) (κ1 : ((Unit × (Int × Unit)) × (Y4 × (List Int) × Unit)) → Option R) : Option R := Q_96 x κ0 κ1
def EG_96 {R : Type} : Env R := Env.base QQ LN AA
def LG_96 {R : Type} : Loops R := Loops.none
def E_96 {R : Type} (N : Nat) : Env R := EG_96
theorem eok_96 {R : Type} (N : Nat) : EK Try.prog (E_96 (R := R) N) := ek_base _ _ _
def L_96 {R : Type} (N : Nat) : Loops R := LG_96
theorem lok_96 {R : Type} (N : Nat) : LOK 0 TT (E_96 (R := R) N) (drawAny TT WW) (L_96 N) (bodyOf Try.f96) := loops_nil (by kernel_rfl)
theorem grun_96 {R : Type} (x : aden ap_96 × hden hp_96) (k : KF R) : fnrun TT (EG_96) (drawAny TT WW) (LG_96) true Try.f96 (instA ap_96 x.1) (instH hp_96 x.2) k = Q_96 x (fun y => k (Pat.inst (.tup (.fcons (.nilp) (.fcons (.int .i64) (.fnil)))) y.1) (instH [] y.2)) (fun y => k (Pat.inst (.tup (.fcons (.ptr 0 []) (.fcons (.int .i64) (.fnil)))) y.1) (instH [some (Z8, 189), some (.lst (.int .u8), 5)] y.2)) := by kernel_rfl
theorem run_96 {R : Type} (N : Nat) (x : aden ap_96 × hden hp_96) (k : KF R) : fnrun TT (E_96 (R := R) N) (drawAny TT WW) (L_96 N) true Try.f96 (instA ap_96 x.1) (instH hp_96 x.2) k = p_96 N x (fun y => k (Pat.inst (.tup (.fcons (.nilp) (.fcons (.int .i64) (.fnil)))) y.1) (instH [] y.2)) (fun y => k (Pat.inst (.tup (.fcons (.ptr 0 []) (.fcons (.int .i64) (.fnil)))) y.1) (instH [some (Z8, 189), some (.lst (.int .u8), 5)] y.2)) := (grun_96 x k).trans (by kernel_rfl)
theorem good_96 {R : Type} (N : Nat) : GD (X := R) Try.prog QQ AA 96 ap_96 hp_96 (fun (x : aden ap_96 × hden hp_96) k => p_96 N x (fun y => k (Pat.inst (.tup (.fcons (.nilp) (.fcons (.int .i64) (.fnil)))) y.1) (instH [] y.2)) (fun y => k (Pat.inst (.tup (.fcons (.ptr 0 []) (.fcons (.int .i64) (.fnil)))) y.1) (instH [some (Z8, 189), some (.lst (.int .u8), 5)] y.2))) :=
  gd_loud (E := E_96 N) (p := fun (x : aden ap_96 × hden hp_96) k => p_96 N x (fun y => k (Pat.inst (.tup (.fcons (.nilp) (.fcons (.int .i64) (.fnil)))) y.1) (instH [] y.2)) (fun y => k (Pat.inst (.tup (.fcons (.ptr 0 []) (.fcons (.int .i64) (.fnil)))) y.1) (instH [some (Z8, 189), some (.lst (.int .u8), 5)] y.2))) mixed tyok (eok_96 N) Try.func96 (by kernel_rfl) (by kernel_rfl) (by kernel_rfl) (by kernel_rfl) (lok_96 N) (fun x k => run_96 N x k)

def ap_97 : List Pat := []
def hp_97 : List (Option (Pat × Nat)) := []
abbrev Tp_97 (R : Type) : Type := (Unit) × (Unit) → ((Nat → Int) → Option R) → Option R
def Q_97 {R : Type} (x : (Unit) × (Unit)) (κ0 : (Nat → Int) → Option R) : Option R :=
let a1037 : (Nat → Int) := (upd ((upd ((upd ((upd ((upd ((upd ((upd ((upd ((Sch.zero (.arr 8 (.int .u64)))) 0 7640891576956012808)) 1 13503953896175478587)) 2 4354685564936845355)) 3 11912009170470909681)) 4 5840696475078001361)) 5 11170449401992604703)) 6 2270897969802886507)) 7 6620516959819538809)
κ0 a1037
def p_97 {R : Type} (N : Nat) (x : (Unit) × (Unit)) (κ0 : (Nat → Int) → Option R) : Option R := Q_97 x κ0
def EG_97 {R : Type} : Env R := Env.base QQ LN AA
def LG_97 {R : Type} : Loops R := Loops.none
def E_97 {R : Type} (N : Nat) : Env R := EG_97
theorem eok_97 {R : Type} (N : Nat) : EK Try.prog (E_97 (R := R) N) := ek_base _ _ _
def L_97 {R : Type} (N : Nat) : Loops R := LG_97
theorem lok_97 {R : Type} (N : Nat) : LOK 0 TT (E_97 (R := R) N) (drawAny TT WW) (L_97 N) (bodyOf Try.f97) := loops_nil (by kernel_rfl)
theorem grun_97 {R : Type} (x : aden ap_97 × hden hp_97) (k : KF R) : fnrun TT (EG_97) (drawAny TT WW) (LG_97) true Try.f97 (instA ap_97 x.1) (instH hp_97 x.2) k = Q_97 x (fun y => k (Pat.inst (.vec (.int .u64) 8) y) (instH hp_97 x.2)) := by kernel_rfl
theorem run_97 {R : Type} (N : Nat) (x : aden ap_97 × hden hp_97) (k : KF R) : fnrun TT (E_97 (R := R) N) (drawAny TT WW) (L_97 N) true Try.f97 (instA ap_97 x.1) (instH hp_97 x.2) k = p_97 N x (fun y => k (Pat.inst (.vec (.int .u64) 8) y) (instH hp_97 x.2)) := (grun_97 x k).trans (by kernel_rfl)
theorem good_97 {R : Type} (N : Nat) : GD (X := R) Try.prog QQ AA 97 ap_97 hp_97 (fun (x : aden ap_97 × hden hp_97) k => p_97 N x (fun y => k (Pat.inst (.vec (.int .u64) 8) y) (instH hp_97 x.2))) :=
  gd_quiet (E := E_97 N) (p := fun (x : aden ap_97 × hden hp_97) κ => p_97 N x (fun y => κ (Pat.inst (.vec (.int .u64) 8) y))) mixed tyok (eok_97 N) Try.func97 (by kernel_rfl) (by kernel_rfl) (lok_97 N) (fun x k => run_97 N x k)

def ap_98 : List Pat := [.nilp, .sl 0]
def hp_98 : List (Option (Pat × Nat)) := [some (.lst (.str), 9)]
abbrev Tp_98 (R : Type) : Type := (Unit × Unit × Unit) × Y23 → (((List (List Int)) × Y23) → Option R) → Option R
def Q_98 {R : Type} (x : (Unit × Unit × Unit) × Y23) (κ0 : ((List (List Int)) × Y23) → Option R) : Option R :=
κ0 ([], x.2)
def p_98 {R : Type} (N : Nat) (x : (Unit × Unit × Unit) × Y23) (κ0 : ((List (List Int)) × Y23) → Option R) : Option R := Q_98 x κ0
def EG_98 {R : Type} : Env R := Env.base QQ LN AA
def LG_98 {R : Type} : Loops R := Loops.none
def E_98 {R : Type} (N : Nat) : Env R := EG_98
theorem eok_98 {R : Type} (N : Nat) : EK Try.prog (E_98 (R := R) N) := ek_base _ _ _
def L_98 {R : Type} (N : Nat) : Loops R := LG_98
theorem loops_98 : loopsIn (bodyOf Try.f98) = [(5, loopAt 5 (bodyOf Try.f98)), (9, loopAt 9 (bodyOf Try.f98))] := by kernel_rfl
theorem lok_98 {R : Type} (N : Nat) : LOK 1 TT (E_98 (R := R) N) (drawAny TT WW) (L_98 N) (bodyOf Try.f98) := loops_all loops_98 (by
  simp only [List.forall_mem_cons, List.not_mem_nil, false_implies, implies_true, and_true]
  exact ⟨rounds_none (fun _ _ => rfl), rounds_none (fun _ _ => rfl)⟩)
theorem grun_98 {R : Type} (x : aden ap_98 × hden hp_98) (k : KF R) : fnrun TT (EG_98) (drawAny TT WW) (LG_98) true Try.f98 (instA ap_98 x.1) (instH hp_98 x.2) k = Q_98 x (fun y => k (Pat.inst (.ros (.sl (.int .u8))) y.1) (instH [some (.lst (.str), 9)] y.2)) := by kernel_rfl
theorem run_98 {R : Type} (N : Nat) (x : aden ap_98 × hden hp_98) (k : KF R) : fnrun TT (E_98 (R := R) N) (drawAny TT WW) (L_98 N) true Try.f98 (instA ap_98 x.1) (instH hp_98 x.2) k = p_98 N x (fun y => k (Pat.inst (.ros (.sl (.int .u8))) y.1) (instH [some (.lst (.str), 9)] y.2)) := (grun_98 x k).trans (by kernel_rfl)
theorem good_98 {R : Type} (N : Nat) : GD (X := R) Try.prog QQ AA 98 ap_98 hp_98 (fun (x : aden ap_98 × hden hp_98) k => p_98 N x (fun y => k (Pat.inst (.ros (.sl (.int .u8))) y.1) (instH [some (.lst (.str), 9)] y.2))) :=
  gd_loud (E := E_98 N) (p := fun (x : aden ap_98 × hden hp_98) k => p_98 N x (fun y => k (Pat.inst (.ros (.sl (.int .u8))) y.1) (instH [some (.lst (.str), 9)] y.2))) mixed tyok (eok_98 N) Try.func98 (by kernel_rfl) (by kernel_rfl) (by kernel_rfl) (by kernel_rfl) (lok_98 N) (fun x k => run_98 N x k)

def lv_84_5 : Live := [(4, none), (15, none), (16, none), (17, none)]
def pt_84_5 : SPat := ⟨[(4, .sl 0), (15, .ros (.int .u8)), (16, .int .i64), (17, .int .i64)], [some (.lst (.int .u64), 27)]⟩
def px_84_5_0 : SPat := ⟨[(4, .sl 0)], [some (.lst (.int .u64), 27)]⟩
def lo_84_5 : Exit → Live
  | .exit 0 => [(4, none)]
  | _ => []
def ap_84 : List Pat := [.ros (.int .u8)]
def hp_84 : List (Option (Pat × Nat)) := []
abbrev Tl_84_5 (R : Type) : Type := Y16 → (((Unit × Unit) × ((List Int) × Unit)) → Option R) → Option R
abbrev Tp_84 (R : Type) : Type := ((List Int) × Unit) × (Unit) → ((((List Int) × (Int × Unit)) × (Unit)) → Option R) → Option R
def C_84_5 {R : Type} (rec : Y16 → Option R) (x : Y16) (κ0 : ((Unit × Unit) × ((List Int) × Unit)) → Option R) : Option R :=
let l1085 := x.1.2.1
let i1086 := x.1.2.2.1
let i1087 := x.1.2.2.2.1
let l1088 := x.2.1
bif (decide (i1087 < i1086)) then (
bif decide (0 ≤ i1087) then (
bif decide (i1087 < ((List.length l1085) : Int)) then (
let p1089 : Int := (List.getD l1085 ((Int.toNat i1087)) (Sch.zero (.int .u8)))
let i1090 : Int := quoA .i64 i1087 8
bif decide (0 ≤ i1090) then (
bif decide (i1090 < ((List.length l1088) : Int)) then (
let i1091 : Int := (List.getD l1088 ((Int.toNat i1090)) (Sch.zero (.int .u64)))
let i1092 : Int := IntKind.wrap .u64 p1089
let i1093 : Int := remA .i64 i1087 8
let i1094 : Int := mulA .i64 8 i1093
bif decide (i1094 < 0) then none else (
let i1095 : Int := shlA .u64 i1092 i1094
let i1096 : Int := orA .u64 i1091 i1095
bif decide (0 ≤ i1090) then (
bif decide (i1090 < ((List.length l1088) : Int)) then (
let l1097 : (List Int) := (List.set l1088 ((Int.toNat i1090)) i1096)
let i1098 : Int := addA .i64 i1087 1
rec (((), l1085, i1086, i1098, ()), (l1097, ()))) else none) else none)) else none) else none) else none) else none) else (
κ0 (((), ()), x.2))
def B_84_5 {R : Type} (N : Nat) (rec : Y16 → Option R) (x : Y16) (κ0 : ((Unit × Unit) × ((List Int) × Unit)) → Option R) : Option R := C_84_5 rec x κ0
def l_84_5 {R : Type} (N : Nat) : Nat → Y16 → (((Unit × Unit) × ((List Int) × Unit)) → Option R) → Option R
  | 0, _, _ => none
  | n + 1, x, κ0 => B_84_5 N (fun y => l_84_5 N n y κ0) x κ0
def Q_84 {R : Type} (m_84_5 : Tl_84_5 R) (x : ((List Int) × Unit) × (Unit)) (κ0 : (((List Int) × (Int × Unit)) × (Unit)) → Option R) : Option R :=
let l1078 := x.1.1
let i1079 : Int := (((List.length l1078) : Nat) : Int)
let i1080 : Int := remA .i64 i1079 8
bif (i1080 != 0) then (
κ0 (([], (9, ())), ())) else (
let i1081 : Int := (((List.length l1078) : Nat) : Int)
let i1082 : Int := quoA .i64 i1081 8
bif decide (0 ≤ i1082) then (
bif decide (i1082 ≤ i1082) then (
bif decide (((8 : Nat) : Int) * i1082 ≤ 281474976710656) then (
bif decide (i1082 ≤ 9223372036854775807) then (
let l1083 : (List Int) := List.replicate ((Int.toNat i1082)) (Sch.zero (.int .u64))
let i1084 : Int := (((List.length l1078) : Nat) : Int)
m_84_5 (((), l1078, i1084, 0, ()), (l1083, ())) (fun y1099 =>
let l1100 := y1099.2.1
κ0 ((l1100, (0, ())), ()))) else none) else none) else none) else none)
def p_84 {R : Type} (N : Nat) (x : ((List Int) × Unit) × (Unit)) (κ0 : (((List Int) × (Int × Unit)) × (Unit)) → Option R) : Option R := Q_84 (l_84_5 N N) x κ0
def EG_84 {R : Type} : Env R := Env.base QQ LN AA
def LG_84 {R : Type} (m_84_5 : Tl_84_5 R) : Loops R := (Loops.none).add 5 (loopBy 0 lv_84_5 pt_84_5 (fun x k => m_84_5 x (fun y => k (.exit 0) (px_84_5_0.inst y))))
def E_84 {R : Type} (N : Nat) : Env R := EG_84
theorem eok_84 {R : Type} (N : Nat) : EK Try.prog (E_84 (R := R) N) := ek_base _ _ _
def L_84 {R : Type} (N : Nat) : Loops R := LG_84 (l_84_5 N N)
theorem gstep_84_5 {R : Type} (m_84_5 : Tl_84_5 R) (n : Nat) (x : pt_84_5.den) (k : Exit → St → Option R) : iter 0 lv_84_5 lo_84_5 (aexec TT (EG_84) (drawAny TT WW) (LG_84 m_84_5) (loopAt 5 (bodyOf Try.f84))) (n + 1) (pt_84_5.inst x) k = C_84_5 (fun y => iter 0 lv_84_5 lo_84_5 (aexec TT (EG_84) (drawAny TT WW) (LG_84 m_84_5) (loopAt 5 (bodyOf Try.f84))) n (pt_84_5.inst y) k) x (fun y => k (.exit 0) (px_84_5_0.inst y)) := by kernel_rfl
theorem step_84_5 {R : Type} (N n : Nat) (x : pt_84_5.den) (k : Exit → St → Option R) : iter 0 lv_84_5 lo_84_5 (aexec TT (E_84 (R := R) N) (drawAny TT WW) (L_84 N) (loopAt 5 (bodyOf Try.f84))) (n + 1) (pt_84_5.inst x) k = B_84_5 N (fun y => iter 0 lv_84_5 lo_84_5 (aexec TT (E_84 (R := R) N) (drawAny TT WW) (L_84 N) (loopAt 5 (bodyOf Try.f84))) n (pt_84_5.inst y) k) x (fun y => k (.exit 0) (px_84_5_0.inst y)) := (gstep_84_5 (l_84_5 N N) n x k).trans (by kernel_rfl)
theorem eq_84_5 {R : Type} (N : Nat) : ∀ (n : Nat) (x : pt_84_5.den) (k : Exit → St → Option R), iter 0 lv_84_5 lo_84_5 (aexec TT (E_84 (R := R) N) (drawAny TT WW) (L_84 N) (loopAt 5 (bodyOf Try.f84))) n (pt_84_5.inst x) k = l_84_5 N n x (fun y => k (.exit 0) (px_84_5_0.inst y)) :=
  iter_eq (K := Exit → St → Option R) (ks := fun k => k) (l := fun n (x : pt_84_5.den) k => l_84_5 N n x (fun y => k (.exit 0) (px_84_5_0.inst y))) (B := fun (rec : pt_84_5.den → Option R) (x : pt_84_5.den) k => B_84_5 N rec x (fun y => k (.exit 0) (px_84_5_0.inst y))) (fun _ _ => rfl) (fun _ _ _ => rfl) (fun n x k => step_84_5 N n x k)
theorem rounds_84_5 {R : Type} (N : Nat) : Rounds 0 TT (E_84 (R := R) N) (drawAny TT WW) (L_84 N) 5 (loopAt 5 (bodyOf Try.f84)) :=
  rounds_of (p := pt_84_5) (l := fun (x : pt_84_5.den) k => l_84_5 N N x (fun y => k (.exit 0) (px_84_5_0.inst y))) (fun s k => rfl) (fun x k => eq_84_5 N N x k)
theorem loops_84 : loopsIn (bodyOf Try.f84) = [(5, loopAt 5 (bodyOf Try.f84))] := by kernel_rfl
theorem lok_84 {R : Type} (N : Nat) : LOK 0 TT (E_84 (R := R) N) (drawAny TT WW) (L_84 N) (bodyOf Try.f84) := loops_all loops_84 (by
  simp only [List.forall_mem_cons, List.not_mem_nil, false_implies, implies_true, and_true]
  exact rounds_84_5 N)
theorem grun_84 {R : Type} (m_84_5 : Tl_84_5 R) (x : aden ap_84 × hden hp_84) (k : KF R) : fnrun TT (EG_84) (drawAny TT WW) (LG_84 m_84_5) true Try.f84 (instA ap_84 x.1) (instH hp_84 x.2) k = Q_84 m_84_5 x (fun y => k (Pat.inst (.tup (.fcons (.ros (.int .u64)) (.fcons (.int .i64) (.fnil)))) y.1) (instH [] y.2)) := by kernel_rfl
theorem run_84 {R : Type} (N : Nat) (x : aden ap_84 × hden hp_84) (k : KF R) : fnrun TT (E_84 (R := R) N) (drawAny TT WW) (L_84 N) true Try.f84 (instA ap_84 x.1) (instH hp_84 x.2) k = p_84 N x (fun y => k (Pat.inst (.tup (.fcons (.ros (.int .u64)) (.fcons (.int .i64) (.fnil)))) y.1) (instH [] y.2)) := (grun_84 (l_84_5 N N) x k).trans (by kernel_rfl)
theorem good_84 {R : Type} (N : Nat) : GD (X := R) Try.prog QQ AA 84 ap_84 hp_84 (fun (x : aden ap_84 × hden hp_84) k => p_84 N x (fun y => k (Pat.inst (.tup (.fcons (.ros (.int .u64)) (.fcons (.int .i64) (.fnil)))) y.1) (instH [] y.2))) :=
  gd_loud (E := E_84 N) (p := fun (x : aden ap_84 × hden hp_84) k => p_84 N x (fun y => k (Pat.inst (.tup (.fcons (.ros (.int .u64)) (.fcons (.int .i64) (.fnil)))) y.1) (instH [] y.2))) mixed tyok (eok_84 N) Try.func84 (by kernel_rfl) (by kernel_rfl) (by kernel_rfl) (by kernel_rfl) (lok_84 N) (fun x k => run_84 N x k)

def ap_107 : List Pat := []
def hp_107 : List (Option (Pat × Nat)) := []
abbrev Tp_107 (R : Type) : Type := (Unit) × (Unit) → ((Nat → (Nat → Int)) → Option R) → Option R
def Q_107 {R : Type} (x : (Unit) × (Unit)) (κ0 : (Nat → (Nat → Int)) → Option R) : Option R :=
let a1116 : (Nat → Int) := (upd ((upd ((upd ((upd ((Sch.zero (.arr 4 (.int .i64)))) 0 0)) 1 4)) 2 8)) 3 12)
let a1117 : (Nat → Int) := (upd ((upd ((upd ((upd ((Sch.zero (.arr 4 (.int .i64)))) 0 1)) 1 5)) 2 9)) 3 13)
let a1118 : (Nat → Int) := (upd ((upd ((upd ((upd ((Sch.zero (.arr 4 (.int .i64)))) 0 2)) 1 6)) 2 10)) 3 14)
let a1119 : (Nat → Int) := (upd ((upd ((upd ((upd ((Sch.zero (.arr 4 (.int .i64)))) 0 3)) 1 7)) 2 11)) 3 15)
let a1120 : (Nat → Int) := (upd ((upd ((upd ((upd ((Sch.zero (.arr 4 (.int .i64)))) 0 0)) 1 5)) 2 10)) 3 15)
let a1121 : (Nat → Int) := (upd ((upd ((upd ((upd ((Sch.zero (.arr 4 (.int .i64)))) 0 1)) 1 6)) 2 11)) 3 12)
let a1122 : (Nat → Int) := (upd ((upd ((upd ((upd ((Sch.zero (.arr 4 (.int .i64)))) 0 2)) 1 7)) 2 8)) 3 13)
let a1123 : (Nat → Int) := (upd ((upd ((upd ((upd ((Sch.zero (.arr 4 (.int .i64)))) 0 3)) 1 4)) 2 9)) 3 14)
let a1124 : (Nat → (Nat → Int)) := (upd ((upd ((upd ((upd ((upd ((upd ((upd ((upd ((Sch.zero (.arr 8 (.arr 4 (.int .i64))))) 0 a1116)) 1 a1117)) 2 a1118)) 3 a1119)) 4 a1120)) 5 a1121)) 6 a1122)) 7 a1123)
κ0 a1124
def p_107 {R : Type} (N : Nat) (x : (Unit) × (Unit)) (κ0 : (Nat → (Nat → Int)) → Option R) : Option R := Q_107 x κ0
def EG_107 {R : Type} : Env R := Env.base QQ LN AA
def LG_107 {R : Type} : Loops R := Loops.none
def E_107 {R : Type} (N : Nat) : Env R := EG_107
theorem eok_107 {R : Type} (N : Nat) : EK Try.prog (E_107 (R := R) N) := ek_base _ _ _
def L_107 {R : Type} (N : Nat) : Loops R := LG_107
theorem lok_107 {R : Type} (N : Nat) : LOK 0 TT (E_107 (R := R) N) (drawAny TT WW) (L_107 N) (bodyOf Try.f107) := loops_nil (by kernel_rfl)
theorem grun_107 {R : Type} (x : aden ap_107 × hden hp_107) (k : KF R) : fnrun TT (EG_107) (drawAny TT WW) (LG_107) true Try.f107 (instA ap_107 x.1) (instH hp_107 x.2) k = Q_107 x (fun y => k (Pat.inst (.vec (.arr 4 (.int .i64)) 8) y) (instH hp_107 x.2)) := by kernel_rfl
theorem run_107 {R : Type} (N : Nat) (x : aden ap_107 × hden hp_107) (k : KF R) : fnrun TT (E_107 (R := R) N) (drawAny TT WW) (L_107 N) true Try.f107 (instA ap_107 x.1) (instH hp_107 x.2) k = p_107 N x (fun y => k (Pat.inst (.vec (.arr 4 (.int .i64)) 8) y) (instH hp_107 x.2)) := (grun_107 x k).trans (by kernel_rfl)
theorem good_107 {R : Type} (N : Nat) : GD (X := R) Try.prog QQ AA 107 ap_107 hp_107 (fun (x : aden ap_107 × hden hp_107) k => p_107 N x (fun y => k (Pat.inst (.vec (.arr 4 (.int .i64)) 8) y) (instH hp_107 x.2))) :=
  gd_quiet (E := E_107 N) (p := fun (x : aden ap_107 × hden hp_107) κ => p_107 N x (fun y => κ (Pat.inst (.vec (.arr 4 (.int .i64)) 8) y))) mixed tyok (eok_107 N) Try.func107 (by kernel_rfl) (by kernel_rfl) (lok_107 N) (fun x k => run_107 N x k)

def lv_108_7 : Live := [(2, none), (4, none), (5, none), (16, none)]
def pt_108_7 : SPat := ⟨[(2, .ptr 0 []), (4, .ptr 1 []), (5, .str), (16, .int .i64)], [some (.vec (.int .i64) 16, 192), some (.vec (.int .i64) 16, 192)]⟩
def px_108_7_0 : SPat := ⟨[(2, .ptr 0 []), (4, .ptr 1 [])], [some (.vec (.int .i64) 16, 192), some (.vec (.int .i64) 16, 192)]⟩
def lo_108_7 : Exit → Live
  | .exit 0 => [(2, none), (4, none)]
  | _ => []
def ap_108 : List Pat := [.int .i64]
def hp_108 : List (Option (Pat × Nat)) := []
abbrev Tl_108_7 (R : Type) : Type := ((Unit × Unit × ByteArray × Int × Unit) × Y2) → (Y15 → Option R) → Option R
abbrev Tp_108 (R : Type) : Type := (Int × Unit) × (Unit) → ((Nat → Int) → Option R) → Option R
def C_108_7 {R : Type} (rec : ((Unit × Unit × ByteArray × Int × Unit) × Y2) → Option R) (x : ((Unit × Unit × ByteArray × Int × Unit) × Y2)) (κ0 : Y15 → Option R) : Option R :=
let s1138 := x.1.2.2.1
let i1139 := x.1.2.2.2.1
let a1140 := x.2.1
let a1141 := x.2.2.1
bif (decide (i1139 < 16)) then (
bif decide (0 ≤ i1139) then (
bif decide (i1139 < (ByteArray.size s1138 : Int)) then (
let i1142 : Int := byteAt s1138 ((Int.toNat i1139))
let i1143 : Int := IntKind.wrap .i64 i1142
bif (decide (i1143 ≥ 97)) then (
let i1144 : Int := subA .i64 i1143 97
let i1145 : Int := addA .i64 i1144 10
bif decide (0 ≤ i1139) then (
bif decide (i1139 < (16 : Int)) then (
let a1146 : (Nat → Int) := (upd a1141 ((Int.toNat i1139)) i1145)
let i1147 : Int := addA .i64 i1139 1
rec (((), (), s1138, i1147, ()), (a1140, a1146, ()))) else none) else none) else (
let i1148 : Int := subA .i64 i1143 48
bif decide (0 ≤ i1139) then (
bif decide (i1139 < (16 : Int)) then (
let a1149 : (Nat → Int) := (upd a1141 ((Int.toNat i1139)) i1148)
let i1150 : Int := addA .i64 i1139 1
rec (((), (), s1138, i1150, ()), (a1140, a1149, ()))) else none) else none)) else none) else none) else (
κ0 (((), (), ()), (a1140, a1141, ())))
def B_108_7 {R : Type} (N : Nat) (rec : ((Unit × Unit × ByteArray × Int × Unit) × Y2) → Option R) (x : ((Unit × Unit × ByteArray × Int × Unit) × Y2)) (κ0 : Y15 → Option R) : Option R := C_108_7 rec x κ0
def l_108_7 {R : Type} (N : Nat) : Nat → ((Unit × Unit × ByteArray × Int × Unit) × Y2) → (Y15 → Option R) → Option R
  | 0, _, _ => none
  | n + 1, x, κ0 => B_108_7 N (fun y => l_108_7 N n y κ0) x κ0
def Q_108 {R : Type} (m_108_7 : Tl_108_7 R) (x : (Int × Unit) × (Unit)) (κ0 : (Nat → Int) → Option R) : Option R :=
let i1133 := x.1.1
let a1134 : (Nat → ByteArray) := (upd ((upd ((upd ((upd ((upd ((upd ((upd ((upd ((upd ((upd ((Sch.zero (.arr 10 (.str)))) 0 (⟨#[48, 49, 50, 51, 52, 53, 54, 55, 56, 57, 97, 98, 99, 100, 101, 102]⟩))) 1 (⟨#[101, 97, 52, 56, 57, 102, 100, 54, 49, 99, 48, 50, 98, 55, 53, 51]⟩))) 2 (⟨#[98, 56, 99, 48, 53, 50, 102, 100, 97, 101, 51, 54, 55, 49, 57, 52]⟩))) 3 (⟨#[55, 57, 51, 49, 100, 99, 98, 101, 50, 54, 53, 97, 52, 48, 102, 56]⟩))) 4 (⟨#[57, 48, 53, 55, 50, 52, 97, 102, 101, 49, 98, 99, 54, 56, 51, 100]⟩))) 5 (⟨#[50, 99, 54, 97, 48, 98, 56, 51, 52, 100, 55, 53, 102, 101, 49, 57]⟩))) 6 (⟨#[99, 53, 49, 102, 101, 100, 52, 97, 48, 55, 54, 51, 57, 50, 56, 98]⟩))) 7 (⟨#[100, 98, 55, 101, 99, 49, 51, 57, 53, 48, 102, 52, 56, 54, 50, 97]⟩))) 8 (⟨#[54, 102, 101, 57, 98, 51, 48, 56, 99, 50, 100, 55, 49, 52, 97, 53]⟩))) 9 (⟨#[97, 50, 56, 52, 55, 54, 49, 53, 102, 98, 57, 101, 51, 99, 100, 48]⟩))
bif (decide (i1133 < 0)) then (
let a1135 : (Nat → Int) := (Sch.zero (.arr 16 (.int .i64)))
κ0 a1135) else (
let i1136 : Int := remA .i64 i1133 10
bif decide (0 ≤ i1136) then (
bif decide (i1136 < (10 : Int)) then (
let s1137 : ByteArray := (a1134 ((Int.toNat i1136)))
m_108_7 (((), (), s1137, 0, ()), ((Sch.zero (.arr 16 (.int .i64))), (Sch.zero (.arr 16 (.int .i64))), ())) (fun y1151 =>
let a1153 := y1151.2.2.1
κ0 a1153)) else none) else none)
def p_108 {R : Type} (N : Nat) (x : (Int × Unit) × (Unit)) (κ0 : (Nat → Int) → Option R) : Option R := Q_108 (l_108_7 N N) x κ0
def EG_108 {R : Type} : Env R := Env.base QQ LN AA
def LG_108 {R : Type} (m_108_7 : Tl_108_7 R) : Loops R := (Loops.none).add 7 (loopBy 0 lv_108_7 pt_108_7 (fun x k => m_108_7 x (fun y => k (.exit 0) (px_108_7_0.inst y))))
def E_108 {R : Type} (N : Nat) : Env R := EG_108
theorem eok_108 {R : Type} (N : Nat) : EK Try.prog (E_108 (R := R) N) := ek_base _ _ _
def L_108 {R : Type} (N : Nat) : Loops R := LG_108 (l_108_7 N N)
theorem gstep_108_7 {R : Type} (m_108_7 : Tl_108_7 R) (n : Nat) (x : pt_108_7.den) (k : Exit → St → Option R) : iter 0 lv_108_7 lo_108_7 (aexec TT (EG_108) (drawAny TT WW) (LG_108 m_108_7) (loopAt 7 (bodyOf Try.f108))) (n + 1) (pt_108_7.inst x) k = C_108_7 (fun y => iter 0 lv_108_7 lo_108_7 (aexec TT (EG_108) (drawAny TT WW) (LG_108 m_108_7) (loopAt 7 (bodyOf Try.f108))) n (pt_108_7.inst y) k) x (fun y => k (.exit 0) (px_108_7_0.inst y)) := by kernel_rfl
theorem step_108_7 {R : Type} (N n : Nat) (x : pt_108_7.den) (k : Exit → St → Option R) : iter 0 lv_108_7 lo_108_7 (aexec TT (E_108 (R := R) N) (drawAny TT WW) (L_108 N) (loopAt 7 (bodyOf Try.f108))) (n + 1) (pt_108_7.inst x) k = B_108_7 N (fun y => iter 0 lv_108_7 lo_108_7 (aexec TT (E_108 (R := R) N) (drawAny TT WW) (L_108 N) (loopAt 7 (bodyOf Try.f108))) n (pt_108_7.inst y) k) x (fun y => k (.exit 0) (px_108_7_0.inst y)) := (gstep_108_7 (l_108_7 N N) n x k).trans (by kernel_rfl)
theorem eq_108_7 {R : Type} (N : Nat) : ∀ (n : Nat) (x : pt_108_7.den) (k : Exit → St → Option R), iter 0 lv_108_7 lo_108_7 (aexec TT (E_108 (R := R) N) (drawAny TT WW) (L_108 N) (loopAt 7 (bodyOf Try.f108))) n (pt_108_7.inst x) k = l_108_7 N n x (fun y => k (.exit 0) (px_108_7_0.inst y)) :=
  iter_eq (K := Exit → St → Option R) (ks := fun k => k) (l := fun n (x : pt_108_7.den) k => l_108_7 N n x (fun y => k (.exit 0) (px_108_7_0.inst y))) (B := fun (rec : pt_108_7.den → Option R) (x : pt_108_7.den) k => B_108_7 N rec x (fun y => k (.exit 0) (px_108_7_0.inst y))) (fun _ _ => rfl) (fun _ _ _ => rfl) (fun n x k => step_108_7 N n x k)
theorem rounds_108_7 {R : Type} (N : Nat) : Rounds 0 TT (E_108 (R := R) N) (drawAny TT WW) (L_108 N) 7 (loopAt 7 (bodyOf Try.f108)) :=
  rounds_of (p := pt_108_7) (l := fun (x : pt_108_7.den) k => l_108_7 N N x (fun y => k (.exit 0) (px_108_7_0.inst y))) (fun s k => rfl) (fun x k => eq_108_7 N N x k)
theorem loops_108 : loopsIn (bodyOf Try.f108) = [(7, loopAt 7 (bodyOf Try.f108))] := by kernel_rfl
theorem lok_108 {R : Type} (N : Nat) : LOK 0 TT (E_108 (R := R) N) (drawAny TT WW) (L_108 N) (bodyOf Try.f108) := loops_all loops_108 (by
  simp only [List.forall_mem_cons, List.not_mem_nil, false_implies, implies_true, and_true]
  exact rounds_108_7 N)
theorem grun_108 {R : Type} (m_108_7 : Tl_108_7 R) (x : aden ap_108 × hden hp_108) (k : KF R) : fnrun TT (EG_108) (drawAny TT WW) (LG_108 m_108_7) true Try.f108 (instA ap_108 x.1) (instH hp_108 x.2) k = Q_108 m_108_7 x (fun y => k (Pat.inst (.vec (.int .i64) 16) y) (instH hp_108 x.2)) := by kernel_rfl
theorem run_108 {R : Type} (N : Nat) (x : aden ap_108 × hden hp_108) (k : KF R) : fnrun TT (E_108 (R := R) N) (drawAny TT WW) (L_108 N) true Try.f108 (instA ap_108 x.1) (instH hp_108 x.2) k = p_108 N x (fun y => k (Pat.inst (.vec (.int .i64) 16) y) (instH hp_108 x.2)) := (grun_108 (l_108_7 N N) x k).trans (by kernel_rfl)
theorem good_108 {R : Type} (N : Nat) : GD (X := R) Try.prog QQ AA 108 ap_108 hp_108 (fun (x : aden ap_108 × hden hp_108) k => p_108 N x (fun y => k (Pat.inst (.vec (.int .i64) 16) y) (instH hp_108 x.2))) :=
  gd_quiet (E := E_108 N) (p := fun (x : aden ap_108 × hden hp_108) κ => p_108 N x (fun y => κ (Pat.inst (.vec (.int .i64) 16) y))) mixed tyok (eok_108 N) Try.func108 (by kernel_rfl) (by kernel_rfl) (lok_108 N) (fun x k => run_108 N x k)

def ap_109 : List Pat := [.int .u64, .int .u64, .int .u64, .int .u64, .int .u64, .int .u64]
def hp_109 : List (Option (Pat × Nat)) := []
abbrev Tp_109 (R : Type) : Type := (Int × Int × Int × Int × Int × Int × Unit) × (Unit) → (Y5 → Option R) → Option R
def Q_109 {R : Type} (q_117 : Tp_117 R) (x : (Int × Int × Int × Int × Int × Int × Unit) × (Unit)) (κ0 : Y5 → Option R) : Option R :=
let i1181 := x.1.1
let i1182 := x.1.2.1
let i1183 := x.1.2.2.1
let i1184 := x.1.2.2.2.1
let i1185 := x.1.2.2.2.2.1
let i1186 := x.1.2.2.2.2.2.1
let i1187 : Int := addA .u64 i1182 i1185
let i1188 : Int := addA .u64 i1181 i1187
let i1189 : Int := xorA .u64 i1184 i1188
q_117 ((i1189, 32, ()), ()) (fun y1190 =>
let i1191 : Int := y1190
let i1192 : Int := addA .u64 i1183 i1191
let i1193 : Int := xorA .u64 i1182 i1192
q_117 ((i1193, 24, ()), ()) (fun y1194 =>
let i1195 : Int := y1194
let i1196 : Int := addA .u64 i1195 i1186
let i1197 : Int := addA .u64 i1188 i1196
let i1198 : Int := xorA .u64 i1191 i1197
q_117 ((i1198, 16, ()), ()) (fun y1199 =>
let i1200 : Int := y1199
let i1201 : Int := addA .u64 i1192 i1200
let i1202 : Int := xorA .u64 i1195 i1201
q_117 ((i1202, 63, ()), ()) (fun y1203 =>
let i1204 : Int := y1203
κ0 ((i1197, (i1204, (i1201, (i1200, ())))))))))
def p_109 {R : Type} (N : Nat) (x : (Int × Int × Int × Int × Int × Int × Unit) × (Unit)) (κ0 : Y5 → Option R) : Option R := Q_109 (p_117 N) x κ0
def EG_109 {R : Type} (q_117 : Tp_117 R) : Env R := (Env.base QQ LN AA).add 117 ap_117 hp_117 (fun (x : aden ap_117 × hden hp_117) k => q_117 x (fun y => k (Pat.inst (.int .u64) y) (instH hp_117 x.2)))
def LG_109 {R : Type} : Loops R := Loops.none
def E_109 {R : Type} (N : Nat) : Env R := EG_109 (p_117 N)
theorem eok_109 {R : Type} (N : Nat) : EK Try.prog (E_109 (R := R) N) := ek_add (ek_base _ _ _) (good_117 N)
def L_109 {R : Type} (N : Nat) : Loops R := LG_109
theorem lok_109 {R : Type} (N : Nat) : LOK 0 TT (E_109 (R := R) N) (drawAny TT WW) (L_109 N) (bodyOf Try.f109) := loops_nil (by kernel_rfl)
theorem grun_109 {R : Type} (q_117 : Tp_117 R) (x : aden ap_109 × hden hp_109) (k : KF R) : fnrun TT (EG_109 q_117) (drawAny TT WW) (LG_109) true Try.f109 (instA ap_109 x.1) (instH hp_109 x.2) k = Q_109 q_117 x (fun y => k (Pat.inst (.tup (.fcons (.int .u64) (.fcons (.int .u64) (.fcons (.int .u64) (.fcons (.int .u64) (.fnil)))))) y) (instH hp_109 x.2)) := by kernel_rfl
theorem run_109 {R : Type} (N : Nat) (x : aden ap_109 × hden hp_109) (k : KF R) : fnrun TT (E_109 (R := R) N) (drawAny TT WW) (L_109 N) true Try.f109 (instA ap_109 x.1) (instH hp_109 x.2) k = p_109 N x (fun y => k (Pat.inst (.tup (.fcons (.int .u64) (.fcons (.int .u64) (.fcons (.int .u64) (.fcons (.int .u64) (.fnil)))))) y) (instH hp_109 x.2)) := (grun_109 (p_117 N) x k).trans (by kernel_rfl)
theorem good_109 {R : Type} (N : Nat) : GD (X := R) Try.prog QQ AA 109 ap_109 hp_109 (fun (x : aden ap_109 × hden hp_109) k => p_109 N x (fun y => k (Pat.inst (.tup (.fcons (.int .u64) (.fcons (.int .u64) (.fcons (.int .u64) (.fcons (.int .u64) (.fnil)))))) y) (instH hp_109 x.2))) :=
  gd_quiet (E := E_109 N) (p := fun (x : aden ap_109 × hden hp_109) κ => p_109 N x (fun y => κ (Pat.inst (.tup (.fcons (.int .u64) (.fcons (.int .u64) (.fcons (.int .u64) (.fcons (.int .u64) (.fnil)))))) y))) mixed tyok (eok_109 N) Try.func109 (by kernel_rfl) (by kernel_rfl) (lok_109 N) (fun x k => run_109 N x k)

def lv_99_17 : Live := [(4, none), (8, none), (10, none), (12, none), (14, none), (16, none), (51, none), (56, none), (57, none)]
def pt_99_17 : SPat := ⟨[(4, .ptr 0 []), (8, .ptr 1 []), (10, .ros (.int .u64)), (12, .ptr 2 []), (14, .ptr 3 []), (16, .ptr 4 []), (51, .int .i64), (56, .vec (.arr 4 (.int .i64)) 8), (57, .int .i64)], [some (.vec (.int .u64) 8, 56), some (.vec (.int .u64) 8, 56), some (.vec (.int .u64) 16, 186), some (.vec (.arr 4 (.int .i64)) 8, 190), some (.vec (.int .i64) 16, 192)]⟩
def px_99_17_0 : SPat := ⟨[(4, .ptr 0 []), (8, .ptr 1 []), (10, .ros (.int .u64)), (12, .ptr 2 []), (14, .ptr 3 []), (51, .int .i64)], [some (.vec (.int .u64) 8, 56), some (.vec (.int .u64) 8, 56), some (.vec (.int .u64) 16, 186), some (.vec (.arr 4 (.int .i64)) 8, 190)]⟩
def lo_99_17 : Exit → Live
  | .exit 2 => [(4, none), (8, none), (10, none), (12, none), (14, none), (51, none)]
  | _ => []
def lv_99_13 : Live := [(4, none), (8, none), (10, none), (12, none), (14, none), (51, none)]
def pt_99_13 : SPat := ⟨[(4, .ptr 0 []), (8, .ptr 1 []), (10, .ros (.int .u64)), (12, .ptr 2 []), (14, .ptr 3 []), (51, .int .i64)], [some (.vec (.int .u64) 8, 56), some (.vec (.int .u64) 8, 56), some (.vec (.int .u64) 16, 186), some (.vec (.arr 4 (.int .i64)) 8, 190)]⟩
def px_99_13_0 : SPat := ⟨[(4, .ptr 0 []), (8, .ptr 1 []), (12, .ptr 2 [])], [some (.vec (.int .u64) 8, 56), some (.vec (.int .u64) 8, 56), some (.vec (.int .u64) 16, 186)]⟩
def lo_99_13 : Exit → Live
  | .exit 0 => [(4, none), (8, none), (12, none)]
  | _ => []
def lv_99_24 : Live := [(4, none), (8, none), (12, none), (112, none)]
def pt_99_24 : SPat := ⟨[(4, .ptr 0 []), (8, .ptr 1 []), (12, .ptr 2 []), (112, .int .i64)], [some (.vec (.int .u64) 8, 56), some (.vec (.int .u64) 8, 56), some (.vec (.int .u64) 16, 186)]⟩
def px_99_24_0 : SPat := ⟨[(4, .ptr 0 []), (8, .ptr 1 [])], [some (.vec (.int .u64) 8, 56), some (.vec (.int .u64) 8, 56)]⟩
def lo_99_24 : Exit → Live
  | .exit 4 => [(4, none), (8, none)]
  | _ => []
def ap_99 : List Pat := [.vec (.int .u64) 8, .ros (.int .u8), .int .u64, .bool]
def hp_99 : List (Option (Pat × Nat)) := []
abbrev Tl_99_17 (R : Type) : Type := Y20 → (Y14 → Option R) → Option R
abbrev Tl_99_13 (R : Type) : Type := Y14 → (((Unit × Unit × Unit × Unit) × Y12) → Option R) → Option R
abbrev Tl_99_24 (R : Type) : Type := ((Unit × Unit × Unit × Int × Unit) × Y12) → (Y15 → Option R) → Option R
abbrev Tp_99 (R : Type) : Type := ((Nat → Int) × (List Int) × Int × Bool × Unit) × (Unit) → (((Nat → Int) × (Int × Unit)) → Option R) → Option R
def C_99_17 {R : Type} (q_109 : Tp_109 R) (rec : Y20 → Option R) (x : Y20) (κ0 : Y14 → Option R) : Option R :=
let l1706 := x.1.2.2.1
let i1707 := x.1.2.2.2.2.2.2.1
let a1708 := x.1.2.2.2.2.2.2.2.1
let i1709 := x.1.2.2.2.2.2.2.2.2.1
let a1710 := x.2.1
let a1711 := x.2.2.1
let a1712 := x.2.2.2.1
let a1713 := x.2.2.2.2.1
let a1714 := x.2.2.2.2.2.1
bif (decide (i1709 < 8)) then (
bif decide (0 ≤ i1709) then (
bif decide (i1709 < (8 : Int)) then (
let a1715 : (Nat → Int) := (a1708 ((Int.toNat i1709)))
let i1716 : Int := (a1715 0)
let i1717 : Int := (a1715 1)
let i1718 : Int := (a1715 2)
let i1719 : Int := (a1715 3)
bif decide (0 ≤ i1716) then (
bif decide (i1716 < (16 : Int)) then (
let i1720 : Int := (a1712 ((Int.toNat i1716)))
bif decide (0 ≤ i1717) then (
bif decide (i1717 < (16 : Int)) then (
let i1721 : Int := (a1712 ((Int.toNat i1717)))
bif decide (0 ≤ i1718) then (
bif decide (i1718 < (16 : Int)) then (
let i1722 : Int := (a1712 ((Int.toNat i1718)))
bif decide (0 ≤ i1719) then (
bif decide (i1719 < (16 : Int)) then (
let i1723 : Int := (a1712 ((Int.toNat i1719)))
let i1724 : Int := mulA .i64 2 i1709
bif decide (0 ≤ i1724) then (
bif decide (i1724 < (16 : Int)) then (
let i1725 : Int := (a1714 ((Int.toNat i1724)))
bif decide (0 ≤ i1725) then (
bif decide (i1725 < ((List.length l1706) : Int)) then (
let p1726 : Int := (List.getD l1706 ((Int.toNat i1725)) (Sch.zero (.int .u64)))
let i1727 : Int := mulA .i64 2 i1709
let i1728 : Int := addA .i64 i1727 1
bif decide (0 ≤ i1728) then (
bif decide (i1728 < (16 : Int)) then (
let i1729 : Int := (a1714 ((Int.toNat i1728)))
bif decide (0 ≤ i1729) then (
bif decide (i1729 < ((List.length l1706) : Int)) then (
let p1730 : Int := (List.getD l1706 ((Int.toNat i1729)) (Sch.zero (.int .u64)))
q_109 ((i1720, i1721, i1722, i1723, p1726, p1730, ()), ()) (fun y1731 =>
let i1732 := y1731.1
let i1733 := y1731.2.1
let i1734 := y1731.2.2.1
let i1735 := y1731.2.2.2.1
bif decide (0 ≤ i1716) then (
bif decide (i1716 < (16 : Int)) then (
let a1736 : (Nat → Int) := (upd a1712 ((Int.toNat i1716)) i1732)
bif decide (0 ≤ i1717) then (
bif decide (i1717 < (16 : Int)) then (
let a1737 : (Nat → Int) := (upd a1736 ((Int.toNat i1717)) i1733)
bif decide (0 ≤ i1718) then (
bif decide (i1718 < (16 : Int)) then (
let a1738 : (Nat → Int) := (upd a1737 ((Int.toNat i1718)) i1734)
bif decide (0 ≤ i1719) then (
bif decide (i1719 < (16 : Int)) then (
let a1739 : (Nat → Int) := (upd a1738 ((Int.toNat i1719)) i1735)
let i1740 : Int := addA .i64 i1709 1
rec (((), (), l1706, (), (), (), i1707, a1708, i1740, ()), (a1710, a1711, a1739, a1713, a1714, ()))) else none) else none) else none) else none) else none) else none) else none) else none)) else none) else none) else none) else none) else none) else none) else none) else none) else none) else none) else none) else none) else none) else none) else none) else none) else none) else none) else (
κ0 (((), (), l1706, (), (), i1707, ()), (a1710, a1711, a1712, a1713, ())))
def C_99_13 {R : Type} (q_108 : Tp_108 R) (m_99_17 : Tl_99_17 R) (rec : Y14 → Option R) (x : Y14) (κ0 : ((Unit × Unit × Unit × Unit) × Y12) → Option R) : Option R :=
let l1698 := x.1.2.2.1
let i1699 := x.1.2.2.2.2.2.1
let a1700 := x.2.1
let a1701 := x.2.2.1
let a1702 := x.2.2.2.1
let a1703 := x.2.2.2.2.1
bif (decide (i1699 < 12)) then (
q_108 ((i1699, ()), ()) (fun y1704 =>
let a1705 : (Nat → Int) := y1704
m_99_17 (((), (), l1698, (), (), (), i1699, a1703, 0, ()), (a1700, a1701, a1702, a1703, a1705, ())) (fun y1741 =>
let l1742 := y1741.1.2.2.1
let i1743 := y1741.1.2.2.2.2.2.1
let a1744 := y1741.2.1
let a1745 := y1741.2.2.1
let a1746 := y1741.2.2.2.1
let a1747 := y1741.2.2.2.2.1
let i1748 : Int := addA .i64 i1743 1
rec (((), (), l1742, (), (), i1748, ()), (a1744, a1745, a1746, a1747, ()))))) else (
κ0 (((), (), (), ()), (a1700, a1701, a1702, ())))
def C_99_24 {R : Type} (rec : ((Unit × Unit × Unit × Int × Unit) × Y12) → Option R) (x : ((Unit × Unit × Unit × Int × Unit) × Y12)) (κ0 : Y15 → Option R) : Option R :=
let i1753 := x.1.2.2.2.1
let a1754 := x.2.1
let a1755 := x.2.2.1
let a1756 := x.2.2.2.1
bif (decide (i1753 < 8)) then (
bif decide (0 ≤ i1753) then (
bif decide (i1753 < (8 : Int)) then (
let i1757 : Int := (a1754 ((Int.toNat i1753)))
bif decide (0 ≤ i1753) then (
bif decide (i1753 < (16 : Int)) then (
let i1758 : Int := (a1756 ((Int.toNat i1753)))
let i1759 : Int := addA .i64 i1753 8
bif decide (0 ≤ i1759) then (
bif decide (i1759 < (16 : Int)) then (
let i1760 : Int := (a1756 ((Int.toNat i1759)))
let i1761 : Int := xorA .u64 i1758 i1760
let i1762 : Int := xorA .u64 i1757 i1761
bif decide (0 ≤ i1753) then (
bif decide (i1753 < (8 : Int)) then (
let a1763 : (Nat → Int) := (upd a1754 ((Int.toNat i1753)) i1762)
let i1764 : Int := addA .i64 i1753 1
rec (((), (), (), i1764, ()), (a1763, a1755, a1756, ()))) else none) else none) else none) else none) else none) else none) else none) else none) else (
κ0 (((), (), ()), (a1754, a1755, ())))
def B_99_17 {R : Type} (N : Nat) (rec : Y20 → Option R) (x : Y20) (κ0 : Y14 → Option R) : Option R := C_99_17 (p_109 N) rec x κ0
def l_99_17 {R : Type} (N : Nat) : Nat → Y20 → (Y14 → Option R) → Option R
  | 0, _, _ => none
  | n + 1, x, κ0 => B_99_17 N (fun y => l_99_17 N n y κ0) x κ0
def B_99_13 {R : Type} (N : Nat) (rec : Y14 → Option R) (x : Y14) (κ0 : ((Unit × Unit × Unit × Unit) × Y12) → Option R) : Option R := C_99_13 (p_108 N) (l_99_17 N N) rec x κ0
def l_99_13 {R : Type} (N : Nat) : Nat → Y14 → (((Unit × Unit × Unit × Unit) × Y12) → Option R) → Option R
  | 0, _, _ => none
  | n + 1, x, κ0 => B_99_13 N (fun y => l_99_13 N n y κ0) x κ0
def B_99_24 {R : Type} (N : Nat) (rec : ((Unit × Unit × Unit × Int × Unit) × Y12) → Option R) (x : ((Unit × Unit × Unit × Int × Unit) × Y12)) (κ0 : Y15 → Option R) : Option R := C_99_24 rec x κ0
def l_99_24 {R : Type} (N : Nat) : Nat → ((Unit × Unit × Unit × Int × Unit) × Y12) → (Y15 → Option R) → Option R
  | 0, _, _ => none
  | n + 1, x, κ0 => B_99_24 N (fun y => l_99_24 N n y κ0) x κ0
def Q_99 {R : Type} (q_84 : Tp_84 R) (q_97 : Tp_97 R) (q_107 : Tp_107 R) (q_109 : Tp_109 R) (q_108 : Tp_108 R) (m_99_17 : Tl_99_17 R) (m_99_13 : Tl_99_13 R) (m_99_24 : Tl_99_24 R) (x : ((Nat → Int) × (List Int) × Int × Bool × Unit) × (Unit)) (κ0 : ((Nat → Int) × (Int × Unit)) → Option R) : Option R :=
let a1072 := x.1.1
let l1073 := x.1.2.1
let i1074 := x.1.2.2.1
let b1075 := x.1.2.2.2.1
let i1076 : Int := (((List.length l1073) : Nat) : Int)
bif (i1076 != 128) then (
let a1077 : (Nat → Int) := (Sch.zero (.arr 8 (.int .u64)))
κ0 ((a1077, (9, ())))) else (
q_84 ((l1073, ()), ()) (fun y1101 =>
let l1102 := y1101.1.1
let l1104 : (List Int) := ((List.range 8).map fun j => a1072 (0 + j))
bif decide (0 < Nat.min (List.length l1104) 8) then (
let a1105 : (Nat → Int) := copyF ((Sch.zero (.arr 16 (.int .u64)))) 0 (Nat.min (List.length l1104) 8) l1104 (Sch.zero (.int .u64))
q_97 ((), ()) (fun y1106 =>
let a1107 : (Nat → Int) := y1106
let l1108 : (List Int) := ((List.range 8).map fun j => a1107 (0 + j))
bif decide (0 < Nat.min (List.length l1108) 8) then (
let a1109 : (Nat → Int) := copyF a1105 8 (Nat.min (List.length l1108) 8) l1108 (Sch.zero (.int .u64))
let i1110 : Int := (a1109 12)
let i1111 : Int := xorA .u64 i1110 i1074
let a1112 : (Nat → Int) := (upd a1109 12 i1111)
bif b1075 then (
let i1113 : Int := (a1112 14)
let i1114 : Int := xorA .u64 18446744073709551615 i1113
let a1115 : (Nat → Int) := (upd a1112 14 i1114)
q_107 ((), ()) (fun y1125 =>
let a1126 : (Nat → (Nat → Int)) := y1125
m_99_13 (((), (), l1102, (), (), 0, ()), (a1072, (Sch.zero (.arr 8 (.int .u64))), a1115, a1126, ())) (fun y1223 =>
let a1224 := y1223.2.1
let a1225 := y1223.2.2.1
let a1226 := y1223.2.2.2.1
m_99_24 (((), (), (), 0, ()), (a1224, a1225, a1226, ())) (fun y1239 =>
let a1240 := y1239.2.1
κ0 ((a1240, (0, ()))))))) else (
q_107 ((), ()) (fun y1242 =>
let a1243 := y1242
m_99_13 (((), (), l1102, (), (), 0, ()), (a1072, (Sch.zero (.arr 8 (.int .u64))), a1112, a1243, ())) (fun y1295 =>
let a1296 := y1295.2.1
let a1297 := y1295.2.2.1
let a1298 := y1295.2.2.2.1
m_99_24 (((), (), (), 0, ()), (a1296, a1297, a1298, ())) (fun y1311 =>
let a1312 := y1311.2.1
κ0 ((a1312, (0, ())))))))) else (
let i1314 : Int := (a1105 12)
let i1315 : Int := xorA .u64 i1314 i1074
let a1316 : (Nat → Int) := (upd a1105 12 i1315)
bif b1075 then (
let i1317 : Int := (a1316 14)
let i1318 : Int := xorA .u64 18446744073709551615 i1317
let a1319 : (Nat → Int) := (upd a1316 14 i1318)
q_107 ((), ()) (fun y1320 =>
let a1321 : (Nat → (Nat → Int)) := y1320
m_99_13 (((), (), l1102, (), (), 0, ()), (a1072, (Sch.zero (.arr 8 (.int .u64))), a1319, a1321, ())) (fun y1373 =>
let a1374 := y1373.2.1
let a1375 := y1373.2.2.1
let a1376 := y1373.2.2.2.1
m_99_24 (((), (), (), 0, ()), (a1374, a1375, a1376, ())) (fun y1389 =>
let a1390 := y1389.2.1
κ0 ((a1390, (0, ()))))))) else (
q_107 ((), ()) (fun y1392 =>
let a1393 := y1392
m_99_13 (((), (), l1102, (), (), 0, ()), (a1072, (Sch.zero (.arr 8 (.int .u64))), a1316, a1393, ())) (fun y1445 =>
let a1446 := y1445.2.1
let a1447 := y1445.2.2.1
let a1448 := y1445.2.2.2.1
m_99_24 (((), (), (), 0, ()), (a1446, a1447, a1448, ())) (fun y1461 =>
let a1462 := y1461.2.1
κ0 ((a1462, (0, ())))))))))) else (
q_97 ((), ()) (fun y1464 =>
let a1465 : (Nat → Int) := y1464
let l1466 : (List Int) := ((List.range 8).map fun j => a1465 (0 + j))
bif decide (0 < Nat.min (List.length l1466) 8) then (
let a1467 : (Nat → Int) := copyF ((Sch.zero (.arr 16 (.int .u64)))) 8 (Nat.min (List.length l1466) 8) l1466 (Sch.zero (.int .u64))
let i1468 : Int := (a1467 12)
let i1469 : Int := xorA .u64 i1468 i1074
let a1470 : (Nat → Int) := (upd a1467 12 i1469)
bif b1075 then (
let i1471 : Int := (a1470 14)
let i1472 : Int := xorA .u64 18446744073709551615 i1471
let a1473 : (Nat → Int) := (upd a1470 14 i1472)
q_107 ((), ()) (fun y1474 =>
let a1475 : (Nat → (Nat → Int)) := y1474
m_99_13 (((), (), l1102, (), (), 0, ()), (a1072, (Sch.zero (.arr 8 (.int .u64))), a1473, a1475, ())) (fun y1527 =>
let a1528 := y1527.2.1
let a1529 := y1527.2.2.1
let a1530 := y1527.2.2.2.1
m_99_24 (((), (), (), 0, ()), (a1528, a1529, a1530, ())) (fun y1543 =>
let a1544 := y1543.2.1
κ0 ((a1544, (0, ()))))))) else (
q_107 ((), ()) (fun y1546 =>
let a1547 : (Nat → (Nat → Int)) := y1546
m_99_13 (((), (), l1102, (), (), 0, ()), (a1072, (Sch.zero (.arr 8 (.int .u64))), a1470, a1547, ())) (fun y1599 =>
let a1600 := y1599.2.1
let a1601 := y1599.2.2.1
let a1602 := y1599.2.2.2.1
m_99_24 (((), (), (), 0, ()), (a1600, a1601, a1602, ())) (fun y1615 =>
let a1616 := y1615.2.1
κ0 ((a1616, (0, ())))))))) else (
let i1618 : Int := (((Sch.zero (.arr 16 (.int .u64)))) 12)
let i1619 : Int := xorA .u64 i1618 i1074
let a1620 : (Nat → Int) := (upd ((Sch.zero (.arr 16 (.int .u64)))) 12 i1619)
bif b1075 then (
let i1621 : Int := (a1620 14)
let i1622 : Int := xorA .u64 18446744073709551615 i1621
let a1623 : (Nat → Int) := (upd a1620 14 i1622)
q_107 ((), ()) (fun y1624 =>
let a1625 : (Nat → (Nat → Int)) := y1624
m_99_13 (((), (), l1102, (), (), 0, ()), (a1072, (Sch.zero (.arr 8 (.int .u64))), a1623, a1625, ())) (fun y1677 =>
let a1678 := y1677.2.1
let a1679 := y1677.2.2.1
let a1680 := y1677.2.2.2.1
m_99_24 (((), (), (), 0, ()), (a1678, a1679, a1680, ())) (fun y1693 =>
let a1694 := y1693.2.1
κ0 ((a1694, (0, ()))))))) else (
q_107 ((), ()) (fun y1696 =>
let a1697 : (Nat → (Nat → Int)) := y1696
m_99_13 (((), (), l1102, (), (), 0, ()), (a1072, (Sch.zero (.arr 8 (.int .u64))), a1620, a1697, ())) (fun y1749 =>
let a1750 := y1749.2.1
let a1751 := y1749.2.2.1
let a1752 := y1749.2.2.2.1
m_99_24 (((), (), (), 0, ()), (a1750, a1751, a1752, ())) (fun y1765 =>
let a1766 := y1765.2.1
κ0 ((a1766, (0, ()))))))))))))
def p_99 {R : Type} (N : Nat) (x : ((Nat → Int) × (List Int) × Int × Bool × Unit) × (Unit)) (κ0 : ((Nat → Int) × (Int × Unit)) → Option R) : Option R := Q_99 (p_84 N) (p_97 N) (p_107 N) (p_109 N) (p_108 N) (l_99_17 N N) (l_99_13 N N) (l_99_24 N N) x κ0
def EG_99 {R : Type} (q_84 : Tp_84 R) (q_97 : Tp_97 R) (q_107 : Tp_107 R) (q_109 : Tp_109 R) (q_108 : Tp_108 R) : Env R := (((((Env.base QQ LN AA).add 84 ap_84 hp_84 (fun (x : aden ap_84 × hden hp_84) k => q_84 x (fun y => k (Pat.inst (.tup (.fcons (.ros (.int .u64)) (.fcons (.int .i64) (.fnil)))) y.1) (instH [] y.2)))).add 97 ap_97 hp_97 (fun (x : aden ap_97 × hden hp_97) k => q_97 x (fun y => k (Pat.inst (.vec (.int .u64) 8) y) (instH hp_97 x.2)))).add 107 ap_107 hp_107 (fun (x : aden ap_107 × hden hp_107) k => q_107 x (fun y => k (Pat.inst (.vec (.arr 4 (.int .i64)) 8) y) (instH hp_107 x.2)))).add 109 ap_109 hp_109 (fun (x : aden ap_109 × hden hp_109) k => q_109 x (fun y => k (Pat.inst (.tup (.fcons (.int .u64) (.fcons (.int .u64) (.fcons (.int .u64) (.fcons (.int .u64) (.fnil)))))) y) (instH hp_109 x.2)))).add 108 ap_108 hp_108 (fun (x : aden ap_108 × hden hp_108) k => q_108 x (fun y => k (Pat.inst (.vec (.int .i64) 16) y) (instH hp_108 x.2)))
def LG_99 {R : Type} (m_99_17 : Tl_99_17 R) (m_99_13 : Tl_99_13 R) (m_99_24 : Tl_99_24 R) : Loops R := (((Loops.none).add 17 (loopBy 0 lv_99_17 pt_99_17 (fun x k => m_99_17 x (fun y => k (.exit 2) (px_99_17_0.inst y))))).add 13 (loopBy 0 lv_99_13 pt_99_13 (fun x k => m_99_13 x (fun y => k (.exit 0) (px_99_13_0.inst y))))).add 24 (loopBy 0 lv_99_24 pt_99_24 (fun x k => m_99_24 x (fun y => k (.exit 4) (px_99_24_0.inst y))))
def E_99 {R : Type} (N : Nat) : Env R := EG_99 (p_84 N) (p_97 N) (p_107 N) (p_109 N) (p_108 N)
theorem eok_99 {R : Type} (N : Nat) : EK Try.prog (E_99 (R := R) N) := ek_add (ek_add (ek_add (ek_add (ek_add (ek_base _ _ _) (good_84 N)) (good_97 N)) (good_107 N)) (good_109 N)) (good_108 N)
def L_99 {R : Type} (N : Nat) : Loops R := LG_99 (l_99_17 N N) (l_99_13 N N) (l_99_24 N N)
theorem gstep_99_17 {R : Type} (q_84 : Tp_84 R) (q_97 : Tp_97 R) (q_107 : Tp_107 R) (q_109 : Tp_109 R) (q_108 : Tp_108 R) (m_99_17 : Tl_99_17 R) (m_99_13 : Tl_99_13 R) (m_99_24 : Tl_99_24 R) (n : Nat) (x : pt_99_17.den) (k : Exit → St → Option R) : iter 0 lv_99_17 lo_99_17 (aexec TT (EG_99 q_84 q_97 q_107 q_109 q_108) (drawAny TT WW) (LG_99 m_99_17 m_99_13 m_99_24) (loopAt 17 (bodyOf Try.f99))) (n + 1) (pt_99_17.inst x) k = C_99_17 q_109 (fun y => iter 0 lv_99_17 lo_99_17 (aexec TT (EG_99 q_84 q_97 q_107 q_109 q_108) (drawAny TT WW) (LG_99 m_99_17 m_99_13 m_99_24) (loopAt 17 (bodyOf Try.f99))) n (pt_99_17.inst y) k) x (fun y => k (.exit 2) (px_99_17_0.inst y)) := by kernel_rfl
theorem step_99_17 {R : Type} (N n : Nat) (x : pt_99_17.den) (k : Exit → St → Option R) : iter 0 lv_99_17 lo_99_17 (aexec TT (E_99 (R := R) N) (drawAny TT WW) (L_99 N) (loopAt 17 (bodyOf Try.f99))) (n + 1) (pt_99_17.inst x) k = B_99_17 N (fun y => iter 0 lv_99_17 lo_99_17 (aexec TT (E_99 (R := R) N) (drawAny TT WW) (L_99 N) (loopAt 17 (bodyOf Try.f99))) n (pt_99_17.inst y) k) x (fun y => k (.exit 2) (px_99_17_0.inst y)) := (gstep_99_17 (p_84 N) (p_97 N) (p_107 N) (p_109 N) (p_108 N) (l_99_17 N N) (l_99_13 N N) (l_99_24 N N) n x k).trans (by kernel_rfl)
theorem eq_99_17 {R : Type} (N : Nat) : ∀ (n : Nat) (x : pt_99_17.den) (k : Exit → St → Option R), iter 0 lv_99_17 lo_99_17 (aexec TT (E_99 (R := R) N) (drawAny TT WW) (L_99 N) (loopAt 17 (bodyOf Try.f99))) n (pt_99_17.inst x) k = l_99_17 N n x (fun y => k (.exit 2) (px_99_17_0.inst y)) :=
  iter_eq (K := Exit → St → Option R) (ks := fun k => k) (l := fun n (x : pt_99_17.den) k => l_99_17 N n x (fun y => k (.exit 2) (px_99_17_0.inst y))) (B := fun (rec : pt_99_17.den → Option R) (x : pt_99_17.den) k => B_99_17 N rec x (fun y => k (.exit 2) (px_99_17_0.inst y))) (fun _ _ => rfl) (fun _ _ _ => rfl) (fun n x k => step_99_17 N n x k)
theorem rounds_99_17 {R : Type} (N : Nat) : Rounds 0 TT (E_99 (R := R) N) (drawAny TT WW) (L_99 N) 17 (loopAt 17 (bodyOf Try.f99)) :=
  rounds_of (p := pt_99_17) (l := fun (x : pt_99_17.den) k => l_99_17 N N x (fun y => k (.exit 2) (px_99_17_0.inst y))) (fun s k => rfl) (fun x k => eq_99_17 N N x k)
theorem gstep_99_13 {R : Type} (q_84 : Tp_84 R) (q_97 : Tp_97 R) (q_107 : Tp_107 R) (q_109 : Tp_109 R) (q_108 : Tp_108 R) (m_99_17 : Tl_99_17 R) (m_99_13 : Tl_99_13 R) (m_99_24 : Tl_99_24 R) (n : Nat) (x : pt_99_13.den) (k : Exit → St → Option R) : iter 0 lv_99_13 lo_99_13 (aexec TT (EG_99 q_84 q_97 q_107 q_109 q_108) (drawAny TT WW) (LG_99 m_99_17 m_99_13 m_99_24) (loopAt 13 (bodyOf Try.f99))) (n + 1) (pt_99_13.inst x) k = C_99_13 q_108 m_99_17 (fun y => iter 0 lv_99_13 lo_99_13 (aexec TT (EG_99 q_84 q_97 q_107 q_109 q_108) (drawAny TT WW) (LG_99 m_99_17 m_99_13 m_99_24) (loopAt 13 (bodyOf Try.f99))) n (pt_99_13.inst y) k) x (fun y => k (.exit 0) (px_99_13_0.inst y)) := by kernel_rfl
theorem step_99_13 {R : Type} (N n : Nat) (x : pt_99_13.den) (k : Exit → St → Option R) : iter 0 lv_99_13 lo_99_13 (aexec TT (E_99 (R := R) N) (drawAny TT WW) (L_99 N) (loopAt 13 (bodyOf Try.f99))) (n + 1) (pt_99_13.inst x) k = B_99_13 N (fun y => iter 0 lv_99_13 lo_99_13 (aexec TT (E_99 (R := R) N) (drawAny TT WW) (L_99 N) (loopAt 13 (bodyOf Try.f99))) n (pt_99_13.inst y) k) x (fun y => k (.exit 0) (px_99_13_0.inst y)) := (gstep_99_13 (p_84 N) (p_97 N) (p_107 N) (p_109 N) (p_108 N) (l_99_17 N N) (l_99_13 N N) (l_99_24 N N) n x k).trans (by kernel_rfl)
theorem eq_99_13 {R : Type} (N : Nat) : ∀ (n : Nat) (x : pt_99_13.den) (k : Exit → St → Option R), iter 0 lv_99_13 lo_99_13 (aexec TT (E_99 (R := R) N) (drawAny TT WW) (L_99 N) (loopAt 13 (bodyOf Try.f99))) n (pt_99_13.inst x) k = l_99_13 N n x (fun y => k (.exit 0) (px_99_13_0.inst y)) :=
  iter_eq (K := Exit → St → Option R) (ks := fun k => k) (l := fun n (x : pt_99_13.den) k => l_99_13 N n x (fun y => k (.exit 0) (px_99_13_0.inst y))) (B := fun (rec : pt_99_13.den → Option R) (x : pt_99_13.den) k => B_99_13 N rec x (fun y => k (.exit 0) (px_99_13_0.inst y))) (fun _ _ => rfl) (fun _ _ _ => rfl) (fun n x k => step_99_13 N n x k)
theorem rounds_99_13 {R : Type} (N : Nat) : Rounds 0 TT (E_99 (R := R) N) (drawAny TT WW) (L_99 N) 13 (loopAt 13 (bodyOf Try.f99)) :=
  rounds_of (p := pt_99_13) (l := fun (x : pt_99_13.den) k => l_99_13 N N x (fun y => k (.exit 0) (px_99_13_0.inst y))) (fun s k => rfl) (fun x k => eq_99_13 N N x k)
theorem gstep_99_24 {R : Type} (q_84 : Tp_84 R) (q_97 : Tp_97 R) (q_107 : Tp_107 R) (q_109 : Tp_109 R) (q_108 : Tp_108 R) (m_99_17 : Tl_99_17 R) (m_99_13 : Tl_99_13 R) (m_99_24 : Tl_99_24 R) (n : Nat) (x : pt_99_24.den) (k : Exit → St → Option R) : iter 0 lv_99_24 lo_99_24 (aexec TT (EG_99 q_84 q_97 q_107 q_109 q_108) (drawAny TT WW) (LG_99 m_99_17 m_99_13 m_99_24) (loopAt 24 (bodyOf Try.f99))) (n + 1) (pt_99_24.inst x) k = C_99_24 (fun y => iter 0 lv_99_24 lo_99_24 (aexec TT (EG_99 q_84 q_97 q_107 q_109 q_108) (drawAny TT WW) (LG_99 m_99_17 m_99_13 m_99_24) (loopAt 24 (bodyOf Try.f99))) n (pt_99_24.inst y) k) x (fun y => k (.exit 4) (px_99_24_0.inst y)) := by kernel_rfl
theorem step_99_24 {R : Type} (N n : Nat) (x : pt_99_24.den) (k : Exit → St → Option R) : iter 0 lv_99_24 lo_99_24 (aexec TT (E_99 (R := R) N) (drawAny TT WW) (L_99 N) (loopAt 24 (bodyOf Try.f99))) (n + 1) (pt_99_24.inst x) k = B_99_24 N (fun y => iter 0 lv_99_24 lo_99_24 (aexec TT (E_99 (R := R) N) (drawAny TT WW) (L_99 N) (loopAt 24 (bodyOf Try.f99))) n (pt_99_24.inst y) k) x (fun y => k (.exit 4) (px_99_24_0.inst y)) := (gstep_99_24 (p_84 N) (p_97 N) (p_107 N) (p_109 N) (p_108 N) (l_99_17 N N) (l_99_13 N N) (l_99_24 N N) n x k).trans (by kernel_rfl)
theorem eq_99_24 {R : Type} (N : Nat) : ∀ (n : Nat) (x : pt_99_24.den) (k : Exit → St → Option R), iter 0 lv_99_24 lo_99_24 (aexec TT (E_99 (R := R) N) (drawAny TT WW) (L_99 N) (loopAt 24 (bodyOf Try.f99))) n (pt_99_24.inst x) k = l_99_24 N n x (fun y => k (.exit 4) (px_99_24_0.inst y)) :=
  iter_eq (K := Exit → St → Option R) (ks := fun k => k) (l := fun n (x : pt_99_24.den) k => l_99_24 N n x (fun y => k (.exit 4) (px_99_24_0.inst y))) (B := fun (rec : pt_99_24.den → Option R) (x : pt_99_24.den) k => B_99_24 N rec x (fun y => k (.exit 4) (px_99_24_0.inst y))) (fun _ _ => rfl) (fun _ _ _ => rfl) (fun n x k => step_99_24 N n x k)
theorem rounds_99_24 {R : Type} (N : Nat) : Rounds 0 TT (E_99 (R := R) N) (drawAny TT WW) (L_99 N) 24 (loopAt 24 (bodyOf Try.f99)) :=
  rounds_of (p := pt_99_24) (l := fun (x : pt_99_24.den) k => l_99_24 N N x (fun y => k (.exit 4) (px_99_24_0.inst y))) (fun s k => rfl) (fun x k => eq_99_24 N N x k)
theorem loops_99 : loopsIn (bodyOf Try.f99) = [(13, loopAt 13 (bodyOf Try.f99)), (17, loopAt 17 (bodyOf Try.f99)), (24, loopAt 24 (bodyOf Try.f99))] := by kernel_rfl
theorem lok_99 {R : Type} (N : Nat) : LOK 0 TT (E_99 (R := R) N) (drawAny TT WW) (L_99 N) (bodyOf Try.f99) := loops_all loops_99 (by
  simp only [List.forall_mem_cons, List.not_mem_nil, false_implies, implies_true, and_true]
  exact ⟨rounds_99_13 N, rounds_99_17 N, rounds_99_24 N⟩)
theorem grun_99 {R : Type} (q_84 : Tp_84 R) (q_97 : Tp_97 R) (q_107 : Tp_107 R) (q_109 : Tp_109 R) (q_108 : Tp_108 R) (m_99_17 : Tl_99_17 R) (m_99_13 : Tl_99_13 R) (m_99_24 : Tl_99_24 R) (x : aden ap_99 × hden hp_99) (k : KF R) : fnrun TT (EG_99 q_84 q_97 q_107 q_109 q_108) (drawAny TT WW) (LG_99 m_99_17 m_99_13 m_99_24) true Try.f99 (instA ap_99 x.1) (instH hp_99 x.2) k = Q_99 q_84 q_97 q_107 q_109 q_108 m_99_17 m_99_13 m_99_24 x (fun y => k (Pat.inst (.tup (.fcons (.vec (.int .u64) 8) (.fcons (.int .i64) (.fnil)))) y) (instH hp_99 x.2)) := by kernel_rfl
theorem run_99 {R : Type} (N : Nat) (x : aden ap_99 × hden hp_99) (k : KF R) : fnrun TT (E_99 (R := R) N) (drawAny TT WW) (L_99 N) true Try.f99 (instA ap_99 x.1) (instH hp_99 x.2) k = p_99 N x (fun y => k (Pat.inst (.tup (.fcons (.vec (.int .u64) 8) (.fcons (.int .i64) (.fnil)))) y) (instH hp_99 x.2)) := (grun_99 (p_84 N) (p_97 N) (p_107 N) (p_109 N) (p_108 N) (l_99_17 N N) (l_99_13 N N) (l_99_24 N N) x k).trans (by kernel_rfl)
theorem good_99 {R : Type} (N : Nat) : GD (X := R) Try.prog QQ AA 99 ap_99 hp_99 (fun (x : aden ap_99 × hden hp_99) k => p_99 N x (fun y => k (Pat.inst (.tup (.fcons (.vec (.int .u64) 8) (.fcons (.int .i64) (.fnil)))) y) (instH hp_99 x.2))) :=
  gd_quiet (E := E_99 N) (p := fun (x : aden ap_99 × hden hp_99) κ => p_99 N x (fun y => κ (Pat.inst (.tup (.fcons (.vec (.int .u64) 8) (.fcons (.int .i64) (.fnil)))) y))) mixed tyok (eok_99 N) Try.func99 (by kernel_rfl) (by kernel_rfl) (lok_99 N) (fun x k => run_99 N x k)

end Go.Proofs.Ytfcloeflcpcheaa.Eng
