/-
Plain functions that the functions of the program are shown to come to, printed by a program of the prover; each with its proof.
Conditions: none.
-/
import Derived.Test.YtfcloeflcpcheaaGreatProg
import Derived.Test.YtfcloeflcpcheaaGreatEngY
import Derived.KernelRfl
set_option linter.unusedVariables false
namespace Go.Proofs.YtfcloeflcpcheaaGreat.Eng
variable {R : Type}
def TT : Types := [(23, ⟨.stru [(3, 0), (3, 1), (3, 2), (3, 3), (3, 4)], 5, 40, .node (.fcons (.int .i64 0) (.fcons (.int .i64 0) (.fcons (.int .i64 0) (.fcons (.int .i64 0) (.fcons (.int .i64 0) (.fnil)))))), some (.stru (.fcons (.int .i64) (.fcons (.int .i64) (.fcons (.int .i64) (.fcons (.int .i64) (.fcons (.int .i64) (.fnil))))))), true, false, none⟩),
  (9, ⟨.str, 1, 16, .str ⟨#[]⟩, some (.str), false, false, none⟩),
  (4, ⟨.bool, 1, 1, .bool false, some (.bool), false, false, none⟩),
  (3, ⟨.int .i64, 1, 8, .int .i64 0, some (.int .i64), false, false, none⟩),
  (25, ⟨.ptr 34, 1, 8, .nilp, none, false, false, none⟩),
  (32, ⟨.stru [(3, 0), (3, 1), (3, 2), (3, 3), (3, 4), (3, 5), (3, 6), (3, 7)], 8, 64, .node (.fcons (.int .i64 0) (.fcons (.int .i64 0) (.fcons (.int .i64 0) (.fcons (.int .i64 0) (.fcons (.int .i64 0) (.fcons (.int .i64 0) (.fcons (.int .i64 0) (.fcons (.int .i64 0) (.fnil))))))))), some (.stru (.fcons (.int .i64) (.fcons (.int .i64) (.fcons (.int .i64) (.fcons (.int .i64) (.fcons (.int .i64) (.fcons (.int .i64) (.fcons (.int .i64) (.fcons (.int .i64) (.fnil)))))))))), true, false, none⟩),
  (27, ⟨.int .i64, 1, 8, .int .i64 0, some (.int .i64), false, false, none⟩),
  (30, ⟨.stru [(3, 0), (3, 1), (3, 2), (3, 3), (3, 4), (3, 5), (3, 6), (3, 7)], 8, 64, .node (.fcons (.int .i64 0) (.fcons (.int .i64 0) (.fcons (.int .i64 0) (.fcons (.int .i64 0) (.fcons (.int .i64 0) (.fcons (.int .i64 0) (.fcons (.int .i64 0) (.fcons (.int .i64 0) (.fnil))))))))), some (.stru (.fcons (.int .i64) (.fcons (.int .i64) (.fcons (.int .i64) (.fcons (.int .i64) (.fcons (.int .i64) (.fcons (.int .i64) (.fcons (.int .i64) (.fcons (.int .i64) (.fnil)))))))))), true, false, none⟩),
  (76, ⟨.ptr 118, 1, 8, .nilp, none, false, false, none⟩),
  (118, ⟨.stru [(3, 0), (3, 1), (3, 2), (3, 3)], 4, 32, .node (.fcons (.int .i64 0) (.fcons (.int .i64 0) (.fcons (.int .i64 0) (.fcons (.int .i64 0) (.fnil))))), some (.stru (.fcons (.int .i64) (.fcons (.int .i64) (.fcons (.int .i64) (.fcons (.int .i64) (.fnil)))))), true, false, none⟩),
  (31, ⟨.ptr 120, 1, 8, .nilp, none, false, false, none⟩),
  (94, ⟨.slice 88, 1, 24, .nils, some (.sl (.arr 128 (.int .u64))), false, false, none⟩),
  (88, ⟨.arr 128 39, 128, 1024, .vec (.int .u64) 128 (Sch.zero (.arr 128 (.int .u64))), some (.arr 128 (.int .u64)), true, false, none⟩),
  (120, ⟨.stru [(76, 0), (94, 1), (4, 2)], 3, 40, .node (.fcons (.nilp) (.fcons (.nils) (.fcons (.bool false) (.fnil)))), none, false, false, none⟩),
  (34, ⟨.stru [(31, 0), (32, 1)], 9, 72, .node (.fcons (.nilp) (.fcons (.node (.fcons (.int .i64 0) (.fcons (.int .i64 0) (.fcons (.int .i64 0) (.fcons (.int .i64 0) (.fcons (.int .i64 0) (.fcons (.int .i64 0) (.fcons (.int .i64 0) (.fcons (.int .i64 0) (.fnil)))))))))) (.fnil))), none, false, false, none⟩),
  (50, ⟨.stru [(3, 0), (3, 1)], 2, 16, .node (.fcons (.int .i64 0) (.fcons (.int .i64 0) (.fnil))), some (.stru (.fcons (.int .i64) (.fcons (.int .i64) (.fnil)))), true, false, none⟩),
  (71, ⟨.ptr 113, 1, 8, .nilp, none, false, false, none⟩),
  (113, ⟨.stru [(32, 0), (50, 8), (3, 10), (3, 11), (88, 12)], 140, 1120, .node (.fcons (.node (.fcons (.int .i64 0) (.fcons (.int .i64 0) (.fcons (.int .i64 0) (.fcons (.int .i64 0) (.fcons (.int .i64 0) (.fcons (.int .i64 0) (.fcons (.int .i64 0) (.fcons (.int .i64 0) (.fnil)))))))))) (.fcons (.node (.fcons (.int .i64 0) (.fcons (.int .i64 0) (.fnil)))) (.fcons (.int .i64 0) (.fcons (.int .i64 0) (.fcons (.vec (.int .u64) 128 (Sch.zero (.arr 128 (.int .u64)))) (.fnil)))))), some (.stru (.fcons (.stru (.fcons (.int .i64) (.fcons (.int .i64) (.fcons (.int .i64) (.fcons (.int .i64) (.fcons (.int .i64) (.fcons (.int .i64) (.fcons (.int .i64) (.fcons (.int .i64) (.fnil)))))))))) (.fcons (.stru (.fcons (.int .i64) (.fcons (.int .i64) (.fnil)))) (.fcons (.int .i64) (.fcons (.int .i64) (.fcons (.arr 128 (.int .u64)) (.fnil))))))), true, false, none⟩),
  (68, ⟨.stru [(52, 0), (52, 2), (52, 4)], 6, 48, .node (.fcons (.node (.fcons (.int .i64 0) (.fcons (.int .i64 0) (.fnil)))) (.fcons (.node (.fcons (.int .i64 0) (.fcons (.int .i64 0) (.fnil)))) (.fcons (.node (.fcons (.int .i64 0) (.fcons (.int .i64 0) (.fnil)))) (.fnil)))), some (.stru (.fcons (.stru (.fcons (.int .i64) (.fcons (.int .i64) (.fnil)))) (.fcons (.stru (.fcons (.int .i64) (.fcons (.int .i64) (.fnil)))) (.fcons (.stru (.fcons (.int .i64) (.fcons (.int .i64) (.fnil)))) (.fnil))))), true, false, none⟩),
  (52, ⟨.stru [(3, 0), (3, 1)], 2, 16, .node (.fcons (.int .i64 0) (.fcons (.int .i64 0) (.fnil))), some (.stru (.fcons (.int .i64) (.fcons (.int .i64) (.fnil)))), true, false, none⟩),
  (86, ⟨.int .u32, 1, 4, .int .u32 0, some (.int .u32), false, false, none⟩),
  (198, ⟨.arr 7 3, 7, 56, .vec (.int .i64) 7 (Sch.zero (.arr 7 (.int .i64))), some (.arr 7 (.int .i64)), true, false, none⟩),
  (39, ⟨.int .u64, 1, 8, .int .u64 0, some (.int .u64), false, false, none⟩),
  (47, ⟨.slice 4, 1, 24, .nils, some (.sl (.bool)), false, false, none⟩),
  (183, ⟨.arr 16 3, 16, 128, .vec (.int .i64) 16 (Sch.zero (.arr 16 (.int .i64))), some (.arr 16 (.int .i64)), true, false, none⟩),
  (181, ⟨.arr 16 39, 16, 128, .vec (.int .u64) 16 (Sch.zero (.arr 16 (.int .u64))), some (.arr 16 (.int .u64)), true, false, none⟩),
  (191, ⟨.arr 8 185, 32, 256, .vec (.arr 4 (.int .i64)) 8 (Sch.zero (.arr 8 (.arr 4 (.int .i64)))), some (.arr 8 (.arr 4 (.int .i64))), true, false, none⟩),
  (185, ⟨.arr 4 3, 4, 32, .vec (.int .i64) 4 (Sch.zero (.arr 4 (.int .i64))), some (.arr 4 (.int .i64)), true, false, none⟩),
  (125, ⟨.int .u64, 1, 8, .int .u64 0, some (.int .u64), false, false, none⟩),
  (124, ⟨.slice 86, 1, 24, .nils, some (.sl (.int .u32)), false, false, none⟩),
  (84, ⟨.slice 5, 1, 24, .nils, some (.sl (.int .u8)), false, false, none⟩),
  (5, ⟨.int .u8, 1, 1, .int .u8 0, some (.int .u8), false, false, none⟩),
  (121, ⟨.slice 9, 1, 24, .nils, some (.sl (.str)), false, false, none⟩),
  (152, ⟨.ptr 174, 1, 8, .nilp, none, false, false, none⟩),
  (169, ⟨.ptr 190, 1, 8, .nilp, none, false, false, none⟩),
  (190, ⟨.stru [(3, 0), (4, 1), (84, 2), (3, 3)], 4, 48, .node (.fcons (.int .i64 0) (.fcons (.bool false) (.fcons (.nils) (.fcons (.int .i64 0) (.fnil))))), some (.stru (.fcons (.int .i64) (.fcons (.bool) (.fcons (.sl (.int .u8)) (.fcons (.int .i64) (.fnil)))))), false, true, none⟩),
  (40, ⟨.arr 8 39, 8, 64, .vec (.int .u64) 8 (Sch.zero (.arr 8 (.int .u64))), some (.arr 8 (.int .u64)), true, false, none⟩),
  (174, ⟨.stru [(169, 0), (40, 1), (3, 9), (39, 10)], 11, 88, .node (.fcons (.nilp) (.fcons (.vec (.int .u64) 8 (Sch.zero (.arr 8 (.int .u64)))) (.fcons (.int .i64 0) (.fcons (.int .u64 0) (.fnil))))), none, false, false, none⟩),
  (175, ⟨.slice 84, 1, 24, .nils, some (.sl (.sl (.int .u8))), false, false, none⟩),
  (126, ⟨.slice 39, 1, 24, .nils, some (.sl (.int .u64)), false, false, none⟩),
  (199, ⟨.arr 10 9, 10, 160, .vec (.str) 10 (Sch.zero (.arr 10 (.str))), some (.arr 10 (.str)), true, false, none⟩),
  (41, ⟨.arr 8 39, 8, 64, .vec (.int .u64) 8 (Sch.zero (.arr 8 (.int .u64))), some (.arr 8 (.int .u64)), true, false, none⟩),
  (36, ⟨.slice 94, 1, 24, .nils, some (.sl (.sl (.arr 128 (.int .u64)))), false, false, some (88, .arr 128 (.int .u64))⟩),
  (187, ⟨.arr 4 39, 4, 32, .vec (.int .u64) 4 (Sch.zero (.arr 4 (.int .u64))), some (.arr 4 (.int .u64)), true, false, none⟩),
  (159, ⟨.slice 3, 1, 24, .nils, some (.sl (.int .i64)), false, false, none⟩)]
theorem tyok : TyOk Tryz.prog TT := TyOk.of (by kernel_rfl)
theorem mixed : Tryz.prog.follows .mixedOrders = true := by kernel_rfl
def QQ : FuncId → Bool := fun f => memN [5, 10, 26, 27, 33, 35, 36, 38, 39, 40, 41, 43, 47, 48, 49, 50, 51, 52, 55, 57, 58, 59, 60, 61, 63, 64, 65, 66, 67, 69, 70, 71, 72, 73, 74, 75, 80, 81, 82, 83, 84, 85, 86, 87, 88, 89, 90, 91, 93, 95, 98, 99, 100, 101, 102, 103, 104, 105, 106, 107, 108, 109, 110, 111, 112, 113, 114, 115, 116, 117] f
def LN : FuncId → Bool := fun f => memN [61, 88, 95, 97] f
def AA : FuncId → Bool := fun f => memN [25] f
def WW : Qs := fun f => (QQ f || LN f || AA f, QQ f || LN f)
abbrev Y0 : Type := Int × (Int × (Int × (Int × (Int × (Int × (Int × (Int × Unit)))))))
abbrev Y1 : Type := (Unit × (Y0 × Unit)) × (Unit × (Unit × (Bool × Unit))) × (Int × (Int × (Int × (Int × Unit)))) × (List (Nat → Int)) × Unit
abbrev Y2 : Type := (Nat → Int) × (Nat → Int) × Unit
abbrev Y3 : Type := List (List (Nat → Int))
abbrev Y4 : Type := Int × (Int × (Int × (Int × Unit)))
abbrev Y5 : Type := Int × (Bool × (Unit × (Int × Unit)))
abbrev Y6 : Type := Unit × (Unit × (Bool × Unit))
abbrev Y7 : Type := (Nat → Int) × (Nat → Int) × (Nat → Int) × Unit
abbrev Y8 : Type := Unit × ((Nat → Int) × (Int × (Int × Unit)))
abbrev Y9 : Type := (Nat → Int) × (Nat → Int) × (Nat → Int) × (Nat → Int) × Unit
abbrev Y10 : Type := Y0 × ((Int × (Int × Unit)) × (Int × (Int × ((Nat → Int) × Unit))))
abbrev Y11 : Type := Unit × Unit × Int × Int × Unit
abbrev Y12 : Type := (Unit × Unit × Unit × Int × Int × Unit) × (Y5 × (List ByteArray) × (List Int) × (List (List Int)) × Unit)
abbrev Y13 : Type := (Unit × (Y0 × Unit)) × Y6 × Y4 × (List (Nat → Int)) × Y3 × Unit
abbrev Y14 : Type := (Unit × Unit × Unit) × Y2
abbrev Y15 : Type := (Unit × (Y0 × Unit)) × Y6 × Y4 × (List (Nat → Int)) × (Int × (Int × Unit)) × Unit
abbrev Y16 : Type := (List Int) × (List Int) × Unit
abbrev Y17 : Type := (Unit × Unit × (List Int) × Unit × Unit × Int × Unit) × ((Nat → Int) × (Nat → Int) × (Nat → Int) × (Nat → (Nat → Int)) × Unit)
abbrev Y18 : Type := Unit × Unit × Int × Unit
abbrev Y19 : Type := (Unit × (List Int) × Int × Int × Unit) × ((List Int) × Unit)
abbrev Y20 : Type := (Unit × Unit × Bool × Unit × Int × Int × Int × Unit) × ((Nat → Int) × (Nat → Int) × (List Bool) × Unit)
abbrev Y21 : Type := (Unit × Unit × Unit × Int × Int × Unit) × ((Nat → Int) × (Nat → Int) × (List Bool) × Unit)
abbrev Y22 : Type := (Unit × Unit × (List Int) × Unit × Unit × Unit × Int × (Nat → (Nat → Int)) × Int × Unit) × ((Nat → Int) × (Nat → Int) × (Nat → Int) × (Nat → (Nat → Int)) × (Nat → Int) × Unit)
abbrev Y23 : Type := (Unit × Unit × (List Int) × Unit × Int × Unit × Int × Unit × Unit × Int × Unit) × ((Nat → Int) × (Nat → Int) × (Nat → Int) × (Nat → Int) × (Nat → Int) × (Nat → Int) × Unit)
abbrev Y24 : Type := (Unit × Unit × Bool × Unit × Unit × Unit × Int × Int × Int × (Nat → Int) × Int × Unit) × ((Nat → Int) × (Nat → Int) × (Nat → Int) × (Nat → Int) × (List Bool) × Unit)
abbrev Y25 : Type := (Unit × (Y0 × Unit)) × Y6 × Y4 × (List (Nat → Int)) × Y10 × Unit
abbrev Y26 : Type := (ByteArray × Unit × Unit × Unit × Int × Unit) × ((Nat → Int) × Y0 × Y3 × Unit)
abbrev Y27 : Type := (List ByteArray) × Unit
abbrev Y28 : Type := (Int × Bool × Int × Unit × Int × Unit) × ((List Int) × Unit)
abbrev Y29 : Type := (Unit × Unit × Bool × Unit × Unit × Int × Int × Int × (Nat → Int) × Int × Unit) × ((Nat → Int) × (Nat → Int) × (Nat → Int) × (List Bool) × Unit)
abbrev Y30 : Type := (Int × ByteArray × Unit × Unit) × ((List ByteArray) × (List Int) × Unit)
abbrev Z0 : Pat := .node (.fcons (.int .i64) (.fcons (.int .i64) (.fcons (.int .i64) (.fcons (.int .i64) (.fcons (.int .i64) (.fcons (.int .i64) (.fcons (.int .i64) (.fcons (.int .i64) (.fnil)))))))))
abbrev Z1 : Pat := .node (.fcons (.int .i64) (.fcons (.int .i64) (.fcons (.int .i64) (.fcons (.int .i64) (.fnil)))))
abbrev Z2 : Pat := .node (.fcons (.ptr 2 []) (.fcons (.sl 3) (.fcons (.bool) (.fnil))))
abbrev Z3 : Pat := .node (.fcons Z0 (.fcons (.node (.fcons (.int .i64) (.fcons (.int .i64) (.fnil)))) (.fcons (.int .i64) (.fcons (.int .i64) (.fcons (.vec (.int .u64) 128) (.fnil))))))
abbrev Z4 : Pat := .node (.fcons (.ptr 1 []) (.fcons Z0 (.fnil)))
abbrev Z5 : Pat := .node (.fcons (.ptr 1 []) (.fcons (.vec (.int .u64) 8) (.fcons (.int .i64) (.fcons (.int .u64) (.fnil)))))
abbrev Z6 : Pat := .node (.fcons (.nilp) (.fcons (.vec (.int .u64) 8) (.fcons (.int .i64) (.fcons (.int .u64) (.fnil)))))
abbrev Z7 : Pat := .node (.fcons (.int .i64) (.fcons (.int .i64) (.fnil)))
abbrev Z8 : Pat := .node (.fcons (.int .i64) (.fcons (.bool) (.fcons (.sl 1) (.fcons (.int .i64) (.fnil)))))
abbrev Z9 : Pat := .node (.fcons (.ptr 1 []) (.fcons (.sl 2) (.fcons (.bool) (.fnil))))
abbrev Z10 : Pat := .node (.fcons (.int .i64) (.fcons (.bool) (.fcons (.sl 2) (.fcons (.int .i64) (.fnil)))))
abbrev Z11 : Pat := .node (.fcons (.int .i64) (.fcons (.bool) (.fcons (.sl 3) (.fcons (.int .i64) (.fnil)))))
abbrev Z12 : Pat := .node (.fcons (.int .i64) (.fcons (.bool) (.fcons (.sl 4) (.fcons (.int .i64) (.fnil)))))
abbrev J0 : List (Option (Pat × Nat)) := [some (Z4, 34), some (Z2, 120), some (Z1, 118), some (.lst (.arr 128 (.int .u64)), 88)]
abbrev J1 : List (Option (Pat × Nat)) := [some (.vec (.int .u64) 128, 88), some (.vec (.int .u64) 128, 88)]
abbrev J2 : List (Option (Pat × Nat)) := [some (Z4, 34), some (Z2, 120), some (Z1, 118), some (.lst (.arr 128 (.int .u64)), 88), some (Z3, 113)]
abbrev J3 : List (Option (Pat × Nat)) := [some (.fam 88 (.arr 128 (.int .u64)), 94), some (.fam 88 (.arr 128 (.int .u64)), 94)]
abbrev J4 : List (Option (Pat × Nat)) := [some (Z4, 34), some (Z2, 120), some (Z1, 118), some (.lst (.arr 128 (.int .u64)), 88), some (.fam 88 (.arr 128 (.int .u64)), 94)]
abbrev J5 : List (Option (Pat × Nat)) := [some (Z9, 120), some (Z1, 118), some (.lst (.arr 128 (.int .u64)), 88)]
abbrev J6 : List (Option (Pat × Nat)) := [some (.fam 88 (.arr 128 (.int .u64)), 94)]
abbrev J7 : List (Option (Pat × Nat)) := [some (.lst (.int .u8), 5)]
abbrev J8 : List (Option (Pat × Nat)) := [some (.vec (.int .u64) 8, 40), some (.vec (.int .u64) 8, 40), some (.vec (.int .u64) 16, 181)]
abbrev J9 : List (Option (Pat × Nat)) := [some (Z5, 174), some (Z12, 190), none, some (.lst (.str), 9), some (.lst (.int .u8), 5)]
abbrev J10 : List (Option (Pat × Nat)) := [some (Z5, 174), some (Z10, 190), some (.lst (.int .u8), 5)]
abbrev J11 : List (Option (Pat × Nat)) := [some (.vec (.int .i64) 16, 183), some (.vec (.int .i64) 16, 183)]
abbrev J12 : List (Option (Pat × Nat)) := [some (.fam 88 (.arr 128 (.int .u64)), 94), some (Z0, 30)]
def ap_50 : List Pat := [.int .i64, .int .i64, .int .i64]
def hp_50 : List (Option (Pat × Nat)) := []
abbrev Tp_50 (R : Type) : Type := (Int × Int × Int × Unit) × (Unit) → (Bool → Option R) → Option R
def Q_50 (x : (Int × Int × Int × Unit) × (Unit)) (κ0 : Bool → Option R) : Option R :=
let a := x.1.1
let b := x.1.2.1
let c := x.1.2.2.1
bif (decide (a ≥ b)) then (
κ0 ((decide (a ≤ c)))) else (
κ0 false)
def p_50 (N : Nat) (x : (Int × Int × Int × Unit) × (Unit)) (κ0 : Bool → Option R) : Option R := Q_50 x κ0
def EG_50 : Env R := Env.base QQ LN AA
def LG_50 : Loops R := Loops.none
def E_50 (N : Nat) : Env R := EG_50
def L_50 (N : Nat) : Loops R := LG_50
theorem grun_50 (x : aden ap_50 × hden hp_50) (k : KF R) : fnrun TT (EG_50) (drawAny TT WW) (LG_50) true Tryz.f50 (instA ap_50 x.1) (instH hp_50 x.2) k = Q_50 x (fun y => k (Pat.inst (.bool) y) (instH hp_50 x.2)) := by kernel_rfl
theorem good_50 (N : Nat) : GD (X := R) Tryz.prog QQ AA 50 ap_50 hp_50 (fun (x : aden ap_50 × hden hp_50) k => p_50 N x (fun y => k (Pat.inst (.bool) y) (instH hp_50 x.2))) :=
  gd_quiet (E := E_50 N) (p := fun (x : aden ap_50 × hden hp_50) κ => p_50 N x (fun y => κ (Pat.inst (.bool) y))) mixed tyok (ek_base _ _ _) Tryz.func50 (by kernel_rfl) (by kernel_rfl) (loops_nil (L := L_50 N) (by kernel_rfl)) (fun x k => (grun_50 x k).trans (by kernel_rfl))

def ap_75 : List Pat := [.int .i64]
def hp_75 : List (Option (Pat × Nat)) := []
abbrev Tp_75 (R : Type) : Type := (Int × Unit) × (Unit) → (Bool → Option R) → Option R
def Q_75 (x : (Int × Unit) × (Unit)) (κ0 : Bool → Option R) : Option R :=
let a := x.1.1
bif (decide (a ≥ 0)) then (
κ0 ((decide (a ≤ 4611686018427387904)))) else (
κ0 false)
def p_75 (N : Nat) (x : (Int × Unit) × (Unit)) (κ0 : Bool → Option R) : Option R := Q_75 x κ0
def EG_75 : Env R := Env.base QQ LN AA
def LG_75 : Loops R := Loops.none
def E_75 (N : Nat) : Env R := EG_75
def L_75 (N : Nat) : Loops R := LG_75
theorem grun_75 (x : aden ap_75 × hden hp_75) (k : KF R) : fnrun TT (EG_75) (drawAny TT WW) (LG_75) true Tryz.f75 (instA ap_75 x.1) (instH hp_75 x.2) k = Q_75 x (fun y => k (Pat.inst (.bool) y) (instH hp_75 x.2)) := by kernel_rfl
theorem good_75 (N : Nat) : GD (X := R) Tryz.prog QQ AA 75 ap_75 hp_75 (fun (x : aden ap_75 × hden hp_75) k => p_75 N x (fun y => k (Pat.inst (.bool) y) (instH hp_75 x.2))) :=
  gd_quiet (E := E_75 N) (p := fun (x : aden ap_75 × hden hp_75) κ => p_75 N x (fun y => κ (Pat.inst (.bool) y))) mixed tyok (ek_base _ _ _) Tryz.func75 (by kernel_rfl) (by kernel_rfl) (loops_nil (L := L_75 N) (by kernel_rfl)) (fun x k => (grun_75 x k).trans (by kernel_rfl))

def ap_51 : List Pat := [.int .i64, .int .i64]
def hp_51 : List (Option (Pat × Nat)) := []
abbrev Tp_51 (R : Type) : Type := (Int × Int × Unit) × (Unit) → ((Int × (Int × Unit)) → Option R) → Option R
def Q_51 (q_75 : Tp_75 R) (x : (Int × Int × Unit) × (Unit)) (κ0 : (Int × (Int × Unit)) → Option R) : Option R :=
let a := x.1.1
let b := x.1.2.1
q_75 ((a, ()), ()) (fun f =>
let e : Bool := f
bif (!e) then (
κ0 ((0, (1, ())))) else (
bif (decide (b < 1)) then (
κ0 ((0, (1, ())))) else (
bif decide (b = 0) then none else (
let c : Int := remA .i64 a b
let d : Int := subA .i64 a c
κ0 ((d, (0, ())))))))
def p_51 (N : Nat) (x : (Int × Int × Unit) × (Unit)) (κ0 : (Int × (Int × Unit)) → Option R) : Option R := Q_51 (p_75 N) x κ0
def EG_51 (q_75 : Tp_75 R) : Env R := (Env.base QQ LN AA).add 75 ap_75 hp_75 (fun (x : aden ap_75 × hden hp_75) k => q_75 x (fun y => k (Pat.inst (.bool) y) (instH hp_75 x.2)))
def LG_51 : Loops R := Loops.none
def E_51 (N : Nat) : Env R := EG_51 (p_75 N)
def L_51 (N : Nat) : Loops R := LG_51
theorem grun_51 (q_75 : Tp_75 R) (x : aden ap_51 × hden hp_51) (k : KF R) : fnrun TT (EG_51 q_75) (drawAny TT WW) (LG_51) true Tryz.f51 (instA ap_51 x.1) (instH hp_51 x.2) k = Q_51 q_75 x (fun y => k (Pat.inst (.tup (.fcons (.int .i64) (.fcons (.int .i64) (.fnil)))) y) (instH hp_51 x.2)) := by kernel_rfl
theorem good_51 (N : Nat) : GD (X := R) Tryz.prog QQ AA 51 ap_51 hp_51 (fun (x : aden ap_51 × hden hp_51) k => p_51 N x (fun y => k (Pat.inst (.tup (.fcons (.int .i64) (.fcons (.int .i64) (.fnil)))) y) (instH hp_51 x.2))) :=
  gd_quiet (E := E_51 N) (p := fun (x : aden ap_51 × hden hp_51) κ => p_51 N x (fun y => κ (Pat.inst (.tup (.fcons (.int .i64) (.fcons (.int .i64) (.fnil)))) y))) mixed tyok (ek_add (ek_base _ _ _) (good_75 N)) Tryz.func51 (by kernel_rfl) (by kernel_rfl) (loops_nil (L := L_51 N) (by kernel_rfl)) (fun x k => (grun_51 (p_75 N) x k).trans (by kernel_rfl))

def ap_26 : List Pat := [.node (.fcons (.int .i64) (.fcons (.int .i64) (.fcons (.int .i64) (.fcons (.int .i64) (.fcons (.int .i64) (.fnil))))))]
def hp_26 : List (Option (Pat × Nat)) := []
abbrev Tp_26 (R : Type) : Type := ((Int × Y4) × Unit) × (Unit) → ((Y0 × (Int × Unit)) → Option R) → Option R
def Q_26 (q_50 : Tp_50 R) (q_51 : Tp_51 R) (x : ((Int × Y4) × Unit) × (Unit)) (κ0 : (Y0 × (Int × Unit)) → Option R) : Option R :=
let e := x.1.1.1
let g := x.1.1.2.1
let b := x.1.1.2.2.1
let a := x.1.1.2.2.2.1
let d := x.1.1.2.2.2.2.1
q_50 ((e, 1, 3, ()), ()) (fun m =>
let j : Bool := m
bif j then (
q_50 ((g, 1, 4294967295, ()), ()) (fun u =>
let p := u
bif p then (
q_50 ((a, 1, 16777215, ()), ()) (fun r =>
let v : Bool := r
bif v then (
q_50 ((b, 1, 4294967295, ()), ()) (fun s =>
let h : Bool := s
bif h then (
let i : Int := quoA .i64 b 8
bif (decide (i ≥ a)) then (
q_50 ((d, 4, 1024, ()), ()) (fun n =>
let w : Bool := n
bif (!w) then (
κ0 (((0, (0, (0, (0, (0, (0, (0, (0, ())))))))), (2, ())))) else (
let l : Int := mulA .i64 4 a
q_51 ((b, l, ()), ()) (fun o =>
let f := o.1
bif decide (a = 0) then none else (
let c : Int := quoA .i64 f a
let t : Int := quoA .i64 c 4
κ0 (((e, (g, (a, (b, (f, (c, (t, (d, ())))))))), (0, ())))))))) else (
κ0 (((0, (0, (0, (0, (0, (0, (0, (0, ())))))))), (2, ()))))) else (
κ0 (((0, (0, (0, (0, (0, (0, (0, (0, ())))))))), (2, ())))))) else (
κ0 (((0, (0, (0, (0, (0, (0, (0, (0, ())))))))), (2, ())))))) else (
κ0 (((0, (0, (0, (0, (0, (0, (0, (0, ())))))))), (2, ())))))) else (
κ0 (((0, (0, (0, (0, (0, (0, (0, (0, ())))))))), (2, ())))))
def p_26 (N : Nat) (x : ((Int × Y4) × Unit) × (Unit)) (κ0 : (Y0 × (Int × Unit)) → Option R) : Option R := Q_26 (p_50 N) (p_51 N) x κ0
def EG_26 (q_50 : Tp_50 R) (q_51 : Tp_51 R) : Env R := ((Env.base QQ LN AA).add 50 ap_50 hp_50 (fun (x : aden ap_50 × hden hp_50) k => q_50 x (fun y => k (Pat.inst (.bool) y) (instH hp_50 x.2)))).add 51 ap_51 hp_51 (fun (x : aden ap_51 × hden hp_51) k => q_51 x (fun y => k (Pat.inst (.tup (.fcons (.int .i64) (.fcons (.int .i64) (.fnil)))) y) (instH hp_51 x.2)))
def LG_26 : Loops R := Loops.none
def E_26 (N : Nat) : Env R := EG_26 (p_50 N) (p_51 N)
def L_26 (N : Nat) : Loops R := LG_26
theorem grun_26 (q_50 : Tp_50 R) (q_51 : Tp_51 R) (x : aden ap_26 × hden hp_26) (k : KF R) : fnrun TT (EG_26 q_50 q_51) (drawAny TT WW) (LG_26) true Tryz.f26 (instA ap_26 x.1) (instH hp_26 x.2) k = Q_26 q_50 q_51 x (fun y => k (Pat.inst (.tup (.fcons Z0 (.fcons (.int .i64) (.fnil)))) y) (instH hp_26 x.2)) := by kernel_rfl
theorem good_26 (N : Nat) : GD (X := R) Tryz.prog QQ AA 26 ap_26 hp_26 (fun (x : aden ap_26 × hden hp_26) k => p_26 N x (fun y => k (Pat.inst (.tup (.fcons Z0 (.fcons (.int .i64) (.fnil)))) y) (instH hp_26 x.2))) :=
  gd_quiet (E := E_26 N) (p := fun (x : aden ap_26 × hden hp_26) κ => p_26 N x (fun y => κ (Pat.inst (.tup (.fcons Z0 (.fcons (.int .i64) (.fnil)))) y))) mixed tyok (ek_add (ek_add (ek_base _ _ _) (good_50 N)) (good_51 N)) Tryz.func26 (by kernel_rfl) (by kernel_rfl) (loops_nil (L := L_26 N) (by kernel_rfl)) (fun x k => (grun_26 (p_50 N) (p_51 N) x k).trans (by kernel_rfl))

def ap_27 : List Pat := [.node (.fcons (.int .i64) (.fcons (.int .i64) (.fcons (.int .i64) (.fcons (.int .i64) (.fcons (.int .i64) (.fcons (.int .i64) (.fcons (.int .i64) (.fcons (.int .i64) (.fnil)))))))))]
def hp_27 : List (Option (Pat × Nat)) := []
abbrev Tp_27 (R : Type) : Type := (Y0 × Unit) × (Unit) → (Bool → Option R) → Option R
def Q_27 (x : (Y0 × Unit) × (Unit)) (κ0 : Bool → Option R) : Option R :=
let a := x.1.1.2.1
let b := x.1.1.2.2.1
let c := x.1.1.2.2.2.2.1
bif (decide (a ≤ 3)) then (
bif (decide (b ≤ 4)) then (
κ0 ((decide (c ≤ 80)))) else (
κ0 false)) else (
κ0 false)
def p_27 (N : Nat) (x : (Y0 × Unit) × (Unit)) (κ0 : Bool → Option R) : Option R := Q_27 x κ0
def EG_27 : Env R := Env.base QQ LN AA
def LG_27 : Loops R := Loops.none
def E_27 (N : Nat) : Env R := EG_27
def L_27 (N : Nat) : Loops R := LG_27
theorem grun_27 (x : aden ap_27 × hden hp_27) (k : KF R) : fnrun TT (EG_27) (drawAny TT WW) (LG_27) true Tryz.f27 (instA ap_27 x.1) (instH hp_27 x.2) k = Q_27 x (fun y => k (Pat.inst (.bool) y) (instH hp_27 x.2)) := by kernel_rfl
theorem good_27 (N : Nat) : GD (X := R) Tryz.prog QQ AA 27 ap_27 hp_27 (fun (x : aden ap_27 × hden hp_27) k => p_27 N x (fun y => k (Pat.inst (.bool) y) (instH hp_27 x.2))) :=
  gd_quiet (E := E_27 N) (p := fun (x : aden ap_27 × hden hp_27) κ => p_27 N x (fun y => κ (Pat.inst (.bool) y))) mixed tyok (ek_base _ _ _) Tryz.func27 (by kernel_rfl) (by kernel_rfl) (loops_nil (L := L_27 N) (by kernel_rfl)) (fun x k => (grun_27 x k).trans (by kernel_rfl))

def ap_28 : List Pat := [.int .i64]
def hp_28 : List (Option (Pat × Nat)) := []
abbrev Tp_28 (R : Type) : Type := (Int × Unit) × (Unit) → (((Unit × (Int × Unit)) × (Unit)) → Option R) → (((Unit × (Int × Unit)) × (Y4 × Unit)) → Option R) → Option R
def Q_28 (x : (Int × Unit) × (Unit)) (κ0 : ((Unit × (Int × Unit)) × (Unit)) → Option R) (κ1 : ((Unit × (Int × Unit)) × (Y4 × Unit)) → Option R) : Option R :=
let a := x.1.1
bif (decide (a < 0)) then (
κ0 (((), (1, ())), ())) else (
bif (decide (a > 4194304)) then (
κ0 (((), (1, ())), ())) else (
κ1 (((), (0, ())), ((a, (0, (0, (0, ())))), ()))))
def p_28 (N : Nat) (x : (Int × Unit) × (Unit)) (κ0 : ((Unit × (Int × Unit)) × (Unit)) → Option R) (κ1 : ((Unit × (Int × Unit)) × (Y4 × Unit)) → Option R) : Option R := Q_28 x κ0 κ1
def EG_28 : Env R := Env.base QQ LN AA
def LG_28 : Loops R := Loops.none
def E_28 (N : Nat) : Env R := EG_28
def L_28 (N : Nat) : Loops R := LG_28
theorem grun_28 (x : aden ap_28 × hden hp_28) (k : KF R) : fnrun TT (EG_28) (drawAny TT WW) (LG_28) true Tryz.f28 (instA ap_28 x.1) (instH hp_28 x.2) k = Q_28 x (fun y => k (Pat.inst (.tup (.fcons (.nilp) (.fcons (.int .i64) (.fnil)))) y.1) (instH [] y.2)) (fun y => k (Pat.inst (.tup (.fcons (.ptr 0 []) (.fcons (.int .i64) (.fnil)))) y.1) (instH [some (Z1, 118)] y.2)) := by kernel_rfl
theorem good_28 (N : Nat) : GD (X := R) Tryz.prog QQ AA 28 ap_28 hp_28 (fun (x : aden ap_28 × hden hp_28) k => p_28 N x (fun y => k (Pat.inst (.tup (.fcons (.nilp) (.fcons (.int .i64) (.fnil)))) y.1) (instH [] y.2)) (fun y => k (Pat.inst (.tup (.fcons (.ptr 0 []) (.fcons (.int .i64) (.fnil)))) y.1) (instH [some (Z1, 118)] y.2))) :=
  gd_loud (E := E_28 N) mixed tyok (ek_base _ _ _) Tryz.func28 (by kernel_rfl) (by kernel_rfl) (by kernel_rfl) (by kernel_rfl) (loops_nil (L := L_28 N) (by kernel_rfl)) (fun x k => (grun_28 x k).trans (by kernel_rfl))

def ap_29 : List Pat := [.nilp, .int .i64]
def hp_29 : List (Option (Pat × Nat)) := []
abbrev Tp_29 (R : Type) : Type := (Unit × Int × Unit) × (Unit) → (((Unit × (Int × Unit)) × (Unit)) → Option R) → Option R
def Q_29 (x : (Unit × Int × Unit) × (Unit)) (κ0 : ((Unit × (Int × Unit)) × (Unit)) → Option R) : Option R :=
κ0 (((), (11, ())), ())
def p_29 (N : Nat) (x : (Unit × Int × Unit) × (Unit)) (κ0 : ((Unit × (Int × Unit)) × (Unit)) → Option R) : Option R := Q_29 x κ0
def EG_29 : Env R := Env.base QQ LN AA
def LG_29 : Loops R := Loops.none
def E_29 (N : Nat) : Env R := EG_29
def L_29 (N : Nat) : Loops R := LG_29
theorem grun_29 (x : aden ap_29 × hden hp_29) (k : KF R) : fnrun TT (EG_29) (drawAny TT WW) (LG_29) true Tryz.f29 (instA ap_29 x.1) (instH hp_29 x.2) k = Q_29 x (fun y => k (Pat.inst (.tup (.fcons (.nilp) (.fcons (.int .i64) (.fnil)))) y.1) (instH [] y.2)) := by kernel_rfl
theorem good_29 (N : Nat) : GD (X := R) Tryz.prog QQ AA 29 ap_29 hp_29 (fun (x : aden ap_29 × hden hp_29) k => p_29 N x (fun y => k (Pat.inst (.tup (.fcons (.nilp) (.fcons (.int .i64) (.fnil)))) y.1) (instH [] y.2))) :=
  gd_loud (E := E_29 N) mixed tyok (ek_base _ _ _) Tryz.func29 (by kernel_rfl) (by kernel_rfl) (by kernel_rfl) (by kernel_rfl) (loops_nil (L := L_29 N) (by kernel_rfl)) (fun x k => (grun_29 x k).trans (by kernel_rfl))

def ap_30 : List Pat := [.nilp, .node (.fcons (.int .i64) (.fcons (.int .i64) (.fcons (.int .i64) (.fcons (.int .i64) (.fcons (.int .i64) (.fcons (.int .i64) (.fcons (.int .i64) (.fcons (.int .i64) (.fnil)))))))))]
def hp_30 : List (Option (Pat × Nat)) := []
abbrev Tp_30 (R : Type) : Type := (Unit × Y0 × Unit) × (Unit) → (((Unit × (Int × Unit)) × (Unit)) → Option R) → Option R
def Q_30 (x : (Unit × Y0 × Unit) × (Unit)) (κ0 : ((Unit × (Int × Unit)) × (Unit)) → Option R) : Option R :=
κ0 (((), (11, ())), ())
def p_30 (N : Nat) (x : (Unit × Y0 × Unit) × (Unit)) (κ0 : ((Unit × (Int × Unit)) × (Unit)) → Option R) : Option R := Q_30 x κ0
def EG_30 : Env R := Env.base QQ LN AA
def LG_30 : Loops R := Loops.none
def E_30 (N : Nat) : Env R := EG_30
def L_30 (N : Nat) : Loops R := LG_30
theorem grun_30 (x : aden ap_30 × hden hp_30) (k : KF R) : fnrun TT (EG_30) (drawAny TT WW) (LG_30) true Tryz.f30 (instA ap_30 x.1) (instH hp_30 x.2) k = Q_30 x (fun y => k (Pat.inst (.tup (.fcons (.nilp) (.fcons (.int .i64) (.fnil)))) y.1) (instH [] y.2)) := by kernel_rfl
theorem good_30 (N : Nat) : GD (X := R) Tryz.prog QQ AA 30 ap_30 hp_30 (fun (x : aden ap_30 × hden hp_30) k => p_30 N x (fun y => k (Pat.inst (.tup (.fcons (.nilp) (.fcons (.int .i64) (.fnil)))) y.1) (instH [] y.2))) :=
  gd_loud (E := E_30 N) mixed tyok (ek_base _ _ _) Tryz.func30 (by kernel_rfl) (by kernel_rfl) (by kernel_rfl) (by kernel_rfl) (loops_nil (L := L_30 N) (by kernel_rfl)) (fun x k => (grun_30 x k).trans (by kernel_rfl))

def ap_29_v1 : List Pat := [.ptr 0 [], .int .i64]
def hp_29_v1 : List (Option (Pat × Nat)) := [some (Z1, 118)]
abbrev Tp_29_v1 (R : Type) : Type := (Unit × Int × Unit) × (Y4 × Unit) → (((Unit × (Int × Unit)) × (Y4 × Unit)) → Option R) → (((Unit × (Int × Unit)) × (Y4 × Y6 × (List (Nat → Int)) × Unit)) → Option R) → Option R
def Q_29_v1 (x : (Unit × Int × Unit) × (Y4 × Unit)) (κ0 : ((Unit × (Int × Unit)) × (Y4 × Unit)) → Option R) (κ1 : ((Unit × (Int × Unit)) × (Y4 × Y6 × (List (Nat → Int)) × Unit)) → Option R) : Option R :=
let a := x.1.2.1
let d := x.2.1.1
let b := x.2.1.2.1
let f := x.2.1.2.2.1
let j := x.2.1.2.2.2.1
bif (decide (a < 0)) then (
κ0 (((), (1, ())), x.2)) else (
let g : Int := subA .i64 d b
bif (decide (a > g)) then (
κ0 (((), (4, ())), x.2)) else (
let c : Int := addA .i64 b a
let h : Int := maxA f c
let e : Int := addA .i64 j 1
bif decide (0 ≤ a) then (
bif decide (a ≤ a) then (
bif decide (((1024 : Nat) : Int) * a ≤ 281474976710656) then (
bif decide (a ≤ 9223372036854775807) then (
let i : (List (Nat → Int)) := List.replicate ((Int.toNat a)) (Sch.zero (.arr 128 (.int .u64)))
κ1 (((), (0, ())), ((d, (c, (h, (e, ())))), ((), ((), (true, ()))), i, ()))) else none) else none) else none) else none))
def p_29_v1 (N : Nat) (x : (Unit × Int × Unit) × (Y4 × Unit)) (κ0 : ((Unit × (Int × Unit)) × (Y4 × Unit)) → Option R) (κ1 : ((Unit × (Int × Unit)) × (Y4 × Y6 × (List (Nat → Int)) × Unit)) → Option R) : Option R := Q_29_v1 x κ0 κ1
def EG_29_v1 : Env R := Env.base QQ LN AA
def LG_29_v1 : Loops R := Loops.none
def E_29_v1 (N : Nat) : Env R := EG_29_v1
def L_29_v1 (N : Nat) : Loops R := LG_29_v1
theorem grun_29_v1 (x : aden ap_29_v1 × hden hp_29_v1) (k : KF R) : fnrun TT (EG_29_v1) (drawAny TT WW) (LG_29_v1) true Tryz.f29 (instA ap_29_v1 x.1) (instH hp_29_v1 x.2) k = Q_29_v1 x (fun y => k (Pat.inst (.tup (.fcons (.nilp) (.fcons (.int .i64) (.fnil)))) y.1) (instH [some (Z1, 118)] y.2)) (fun y => k (Pat.inst (.tup (.fcons (.ptr 1 []) (.fcons (.int .i64) (.fnil)))) y.1) (instH [some (Z1, 118), some (.node (.fcons (.ptr 0 []) (.fcons (.sl 2) (.fcons (.bool) (.fnil)))), 120), some (.lst (.arr 128 (.int .u64)), 88)] y.2)) := by kernel_rfl
theorem good_29_v1 (N : Nat) : GD (X := R) Tryz.prog QQ AA 29 ap_29_v1 hp_29_v1 (fun (x : aden ap_29_v1 × hden hp_29_v1) k => p_29_v1 N x (fun y => k (Pat.inst (.tup (.fcons (.nilp) (.fcons (.int .i64) (.fnil)))) y.1) (instH [some (Z1, 118)] y.2)) (fun y => k (Pat.inst (.tup (.fcons (.ptr 1 []) (.fcons (.int .i64) (.fnil)))) y.1) (instH [some (Z1, 118), some (.node (.fcons (.ptr 0 []) (.fcons (.sl 2) (.fcons (.bool) (.fnil)))), 120), some (.lst (.arr 128 (.int .u64)), 88)] y.2))) :=
  gd_loud (E := E_29_v1 N) mixed tyok (ek_base _ _ _) Tryz.func29 (by kernel_rfl) (by kernel_rfl) (by kernel_rfl) (by kernel_rfl) (loops_nil (L := L_29_v1 N) (by kernel_rfl)) (fun x k => (grun_29_v1 x k).trans (by kernel_rfl))

def ap_52 : List Pat := [.ptr 0 []]
def hp_52 : List (Option (Pat × Nat)) := J5
abbrev Tp_52 (R : Type) : Type := (Unit × Unit) × (Y6 × Y4 × (List (Nat → Int)) × Unit) → (Int → Option R) → Option R
def Q_52 (x : (Unit × Unit) × (Y6 × Y4 × (List (Nat → Int)) × Unit)) (κ0 : Int → Option R) : Option R :=
let b := x.2.2.2.1
let a : Int := (((List.length b) : Nat) : Int)
κ0 a
def p_52 (N : Nat) (x : (Unit × Unit) × (Y6 × Y4 × (List (Nat → Int)) × Unit)) (κ0 : Int → Option R) : Option R := Q_52 x κ0
def EG_52 : Env R := Env.base QQ LN AA
def LG_52 : Loops R := Loops.none
def E_52 (N : Nat) : Env R := EG_52
def L_52 (N : Nat) : Loops R := LG_52
theorem grun_52 (x : aden ap_52 × hden hp_52) (k : KF R) : fnrun TT (EG_52) (drawAny TT WW) (LG_52) true Tryz.f52 (instA ap_52 x.1) (instH hp_52 x.2) k = Q_52 x (fun y => k (Pat.inst (.int .i64) y) (instH hp_52 x.2)) := by kernel_rfl
theorem good_52 (N : Nat) : GD (X := R) Tryz.prog QQ AA 52 ap_52 hp_52 (fun (x : aden ap_52 × hden hp_52) k => p_52 N x (fun y => k (Pat.inst (.int .i64) y) (instH hp_52 x.2))) :=
  gd_quiet (E := E_52 N) (p := fun (x : aden ap_52 × hden hp_52) κ => p_52 N x (fun y => κ (Pat.inst (.int .i64) y))) mixed tyok (ek_base _ _ _) Tryz.func52 (by kernel_rfl) (by kernel_rfl) (loops_nil (L := L_52 N) (by kernel_rfl)) (fun x k => (grun_52 x k).trans (by kernel_rfl))

def ap_30_v1 : List Pat := [.ptr 0 [], .node (.fcons (.int .i64) (.fcons (.int .i64) (.fcons (.int .i64) (.fcons (.int .i64) (.fcons (.int .i64) (.fcons (.int .i64) (.fcons (.int .i64) (.fcons (.int .i64) (.fnil)))))))))]
def hp_30_v1 : List (Option (Pat × Nat)) := J5
abbrev Tp_30_v1 (R : Type) : Type := (Unit × Y0 × Unit) × (Y6 × Y4 × (List (Nat → Int)) × Unit) → (((Unit × (Int × Unit)) × (Y6 × Y4 × (List (Nat → Int)) × Unit)) → Option R) → (((Unit × (Int × Unit)) × (Y6 × Y4 × (List (Nat → Int)) × (Unit × (Y0 × Unit)) × Unit)) → Option R) → Option R
def Q_30_v1 (q_52 : Tp_52 R) (x : (Unit × Y0 × Unit) × (Y6 × Y4 × (List (Nat → Int)) × Unit)) (κ0 : ((Unit × (Int × Unit)) × (Y6 × Y4 × (List (Nat → Int)) × Unit)) → Option R) (κ1 : ((Unit × (Int × Unit)) × (Y6 × Y4 × (List (Nat → Int)) × (Unit × (Y0 × Unit)) × Unit)) → Option R) : Option R :=
let b := x.1.2.1.2.2.1
let d := x.1.2.1.2.2.2.2.1
let a := x.2.2.2.1
bif (decide (b < 1)) then (
κ0 (((), (11, ())), (x.2.1, x.2.2.1, a, ()))) else (
q_52 (((), ()), (x.2.1, x.2.2.1, a, ())) (fun e =>
let c : Int := e
bif (decide (c < d)) then (
κ0 (((), (9, ())), (x.2.1, x.2.2.1, a, ()))) else (
κ1 (((), (0, ())), (x.2.1, x.2.2.1, a, x.1, ())))))
def p_30_v1 (N : Nat) (x : (Unit × Y0 × Unit) × (Y6 × Y4 × (List (Nat → Int)) × Unit)) (κ0 : ((Unit × (Int × Unit)) × (Y6 × Y4 × (List (Nat → Int)) × Unit)) → Option R) (κ1 : ((Unit × (Int × Unit)) × (Y6 × Y4 × (List (Nat → Int)) × (Unit × (Y0 × Unit)) × Unit)) → Option R) : Option R := Q_30_v1 (p_52 N) x κ0 κ1
def EG_30_v1 (q_52 : Tp_52 R) : Env R := (Env.base QQ LN AA).add 52 ap_52 hp_52 (fun (x : aden ap_52 × hden hp_52) k => q_52 x (fun y => k (Pat.inst (.int .i64) y) (instH hp_52 x.2)))
def LG_30_v1 : Loops R := Loops.none
def E_30_v1 (N : Nat) : Env R := EG_30_v1 (p_52 N)
def L_30_v1 (N : Nat) : Loops R := LG_30_v1
theorem grun_30_v1 (q_52 : Tp_52 R) (x : aden ap_30_v1 × hden hp_30_v1) (k : KF R) : fnrun TT (EG_30_v1 q_52) (drawAny TT WW) (LG_30_v1) true Tryz.f30 (instA ap_30_v1 x.1) (instH hp_30_v1 x.2) k = Q_30_v1 q_52 x (fun y => k (Pat.inst (.tup (.fcons (.nilp) (.fcons (.int .i64) (.fnil)))) y.1) (instH J5 y.2)) (fun y => k (Pat.inst (.tup (.fcons (.ptr 3 []) (.fcons (.int .i64) (.fnil)))) y.1) (instH [some (Z9, 120), some (Z1, 118), some (.lst (.arr 128 (.int .u64)), 88), some (.node (.fcons (.ptr 0 []) (.fcons Z0 (.fnil))), 34)] y.2)) := by kernel_rfl
theorem good_30_v1 (N : Nat) : GD (X := R) Tryz.prog QQ AA 30 ap_30_v1 hp_30_v1 (fun (x : aden ap_30_v1 × hden hp_30_v1) k => p_30_v1 N x (fun y => k (Pat.inst (.tup (.fcons (.nilp) (.fcons (.int .i64) (.fnil)))) y.1) (instH J5 y.2)) (fun y => k (Pat.inst (.tup (.fcons (.ptr 3 []) (.fcons (.int .i64) (.fnil)))) y.1) (instH [some (Z9, 120), some (Z1, 118), some (.lst (.arr 128 (.int .u64)), 88), some (.node (.fcons (.ptr 0 []) (.fcons Z0 (.fnil))), 34)] y.2))) :=
  gd_loud (E := E_30_v1 N) mixed tyok (ek_add (ek_base _ _ _) (good_52 N)) Tryz.func30 (by kernel_rfl) (by kernel_rfl) (by kernel_rfl) (by kernel_rfl) (loops_nil (L := L_30_v1 N) (by kernel_rfl)) (fun x k => (grun_30_v1 (p_52 N) x k).trans (by kernel_rfl))

def ap_6 : List Pat := [.node (.fcons (.int .i64) (.fcons (.int .i64) (.fcons (.int .i64) (.fcons (.int .i64) (.fcons (.int .i64) (.fnil))))))]
def hp_6 : List (Option (Pat × Nat)) := []
abbrev Tp_6 (R : Type) : Type := ((Int × Y4) × Unit) × (Unit) → ((Unit × (Unit)) → Option R) → ((Unit × Y1) → Option R) → Option R
def Q_6 (q_26 : Tp_26 R) (q_27 : Tp_27 R) (q_28 : Tp_28 R) (q_29 : Tp_29 R) (q_30 : Tp_30 R) (q_29_v1 : Tp_29_v1 R) (q_30_v1 : Tp_30_v1 R) (x : ((Int × Y4) × Unit) × (Unit)) (κ0 : (Unit × (Unit)) → Option R) (κ1 : (Unit × Y1) → Option R) : Option R :=
q_26 (x.1, ()) (fun a =>
let c := a.1.2.2.2.2.1
let h := a.2.1
bif (h != 0) then (
κ0 ((), ())) else (
q_27 ((a.1, ()), ()) (fun f =>
let i := f
bif (!i) then (
κ0 ((), ())) else (
q_28 ((c, ()), ()) (fun o =>
q_29 (((), c, ()), ()) (fun l =>
q_30 (((), a.1, ()), ()) (fun r =>
κ0 ((), ())))) (fun e =>
q_29_v1 (((), c, ()), e.2) (fun n =>
q_30 (((), a.1, ()), ()) (fun p =>
κ0 ((), ()))) (fun d =>
let j := d.2.2.2.1
q_30_v1 (((), a.1, ()), (d.2.2.1, d.2.1, j, ())) (fun m =>
κ0 ((), ())) (fun b =>
let g := b.2.2.2.1
κ1 ((), (b.2.2.2.2.1, b.2.1, b.2.2.1, g, ())))))))))
def p_6 (N : Nat) (x : ((Int × Y4) × Unit) × (Unit)) (κ0 : (Unit × (Unit)) → Option R) (κ1 : (Unit × Y1) → Option R) : Option R := Q_6 (p_26 N) (p_27 N) (p_28 N) (p_29 N) (p_30 N) (p_29_v1 N) (p_30_v1 N) x κ0 κ1
def EG_6 (q_26 : Tp_26 R) (q_27 : Tp_27 R) (q_28 : Tp_28 R) (q_29 : Tp_29 R) (q_30 : Tp_30 R) (q_29_v1 : Tp_29_v1 R) (q_30_v1 : Tp_30_v1 R) : Env R := (((((((Env.base QQ LN AA).add 26 ap_26 hp_26 (fun (x : aden ap_26 × hden hp_26) k => q_26 x (fun y => k (Pat.inst (.tup (.fcons Z0 (.fcons (.int .i64) (.fnil)))) y) (instH hp_26 x.2)))).add 27 ap_27 hp_27 (fun (x : aden ap_27 × hden hp_27) k => q_27 x (fun y => k (Pat.inst (.bool) y) (instH hp_27 x.2)))).add 28 ap_28 hp_28 (fun (x : aden ap_28 × hden hp_28) k => q_28 x (fun y => k (Pat.inst (.tup (.fcons (.nilp) (.fcons (.int .i64) (.fnil)))) y.1) (instH [] y.2)) (fun y => k (Pat.inst (.tup (.fcons (.ptr 0 []) (.fcons (.int .i64) (.fnil)))) y.1) (instH [some (Z1, 118)] y.2)))).add 29 ap_29 hp_29 (fun (x : aden ap_29 × hden hp_29) k => q_29 x (fun y => k (Pat.inst (.tup (.fcons (.nilp) (.fcons (.int .i64) (.fnil)))) y.1) (instH [] y.2)))).add 30 ap_30 hp_30 (fun (x : aden ap_30 × hden hp_30) k => q_30 x (fun y => k (Pat.inst (.tup (.fcons (.nilp) (.fcons (.int .i64) (.fnil)))) y.1) (instH [] y.2)))).add 29 ap_29_v1 hp_29_v1 (fun (x : aden ap_29_v1 × hden hp_29_v1) k => q_29_v1 x (fun y => k (Pat.inst (.tup (.fcons (.nilp) (.fcons (.int .i64) (.fnil)))) y.1) (instH [some (Z1, 118)] y.2)) (fun y => k (Pat.inst (.tup (.fcons (.ptr 1 []) (.fcons (.int .i64) (.fnil)))) y.1) (instH [some (Z1, 118), some (.node (.fcons (.ptr 0 []) (.fcons (.sl 2) (.fcons (.bool) (.fnil)))), 120), some (.lst (.arr 128 (.int .u64)), 88)] y.2)))).add 30 ap_30_v1 hp_30_v1 (fun (x : aden ap_30_v1 × hden hp_30_v1) k => q_30_v1 x (fun y => k (Pat.inst (.tup (.fcons (.nilp) (.fcons (.int .i64) (.fnil)))) y.1) (instH J5 y.2)) (fun y => k (Pat.inst (.tup (.fcons (.ptr 3 []) (.fcons (.int .i64) (.fnil)))) y.1) (instH [some (Z9, 120), some (Z1, 118), some (.lst (.arr 128 (.int .u64)), 88), some (.node (.fcons (.ptr 0 []) (.fcons Z0 (.fnil))), 34)] y.2)))
def LG_6 : Loops R := Loops.none
def E_6 (N : Nat) : Env R := EG_6 (p_26 N) (p_27 N) (p_28 N) (p_29 N) (p_30 N) (p_29_v1 N) (p_30_v1 N)
def L_6 (N : Nat) : Loops R := LG_6
theorem grun_6 (q_26 : Tp_26 R) (q_27 : Tp_27 R) (q_28 : Tp_28 R) (q_29 : Tp_29 R) (q_30 : Tp_30 R) (q_29_v1 : Tp_29_v1 R) (q_30_v1 : Tp_30_v1 R) (x : aden ap_6 × hden hp_6) (k : KF R) : fnrun TT (EG_6 q_26 q_27 q_28 q_29 q_30 q_29_v1 q_30_v1) (drawAny TT WW) (LG_6) true Tryz.f6 (instA ap_6 x.1) (instH hp_6 x.2) k = Q_6 q_26 q_27 q_28 q_29 q_30 q_29_v1 q_30_v1 x (fun y => k (Pat.inst (.nilp) y.1) (instH [] y.2)) (fun y => k (Pat.inst (.ptr 0 []) y.1) (instH J0 y.2)) := by kernel_rfl
theorem good_6 (N : Nat) : GD (X := R) Tryz.prog QQ AA 6 ap_6 hp_6 (fun (x : aden ap_6 × hden hp_6) k => p_6 N x (fun y => k (Pat.inst (.nilp) y.1) (instH [] y.2)) (fun y => k (Pat.inst (.ptr 0 []) y.1) (instH J0 y.2))) :=
  gd_loud (E := E_6 N) mixed tyok (ek_add (ek_add (ek_add (ek_add (ek_add (ek_add (ek_add (ek_base _ _ _) (good_26 N)) (good_27 N)) (good_28 N)) (good_29 N)) (good_30 N)) (good_29_v1 N)) (good_30_v1 N)) Tryz.func6 (by kernel_rfl) (by kernel_rfl) (by kernel_rfl) (by kernel_rfl) (loops_nil (L := L_6 N) (by kernel_rfl)) (fun x k => (grun_6 (p_26 N) (p_27 N) (p_28 N) (p_29 N) (p_30 N) (p_29_v1 N) (p_30_v1 N) x k).trans (by kernel_rfl))

def ap_11 : List Pat := [.nilp]
def hp_11 : List (Option (Pat × Nat)) := []
abbrev Tp_11 (R : Type) : Type := (Unit × Unit) × (Unit) → ((Int × (Unit)) → Option R) → Option R
def Q_11 (x : (Unit × Unit) × (Unit)) (κ0 : (Int × (Unit)) → Option R) : Option R :=
κ0 (11, ())
def p_11 (N : Nat) (x : (Unit × Unit) × (Unit)) (κ0 : (Int × (Unit)) → Option R) : Option R := Q_11 x κ0
def EG_11 : Env R := Env.base QQ LN AA
def LG_11 : Loops R := Loops.none
def E_11 (N : Nat) : Env R := EG_11
def L_11 (N : Nat) : Loops R := LG_11
theorem loops_11 : loopsIn (bodyOf Tryz.f11) = [(4, loopAt 4 (bodyOf Tryz.f11)), (7, loopAt 7 (bodyOf Tryz.f11))] := by kernel_rfl
theorem grun_11 (x : aden ap_11 × hden hp_11) (k : KF R) : fnrun TT (EG_11) (drawAny TT WW) (LG_11) true Tryz.f11 (instA ap_11 x.1) (instH hp_11 x.2) k = Q_11 x (fun y => k (Pat.inst (.int .i64) y.1) (instH [] y.2)) := by kernel_rfl
theorem good_11 (N : Nat) : GD (X := R) Tryz.prog QQ AA 11 ap_11 hp_11 (fun (x : aden ap_11 × hden hp_11) k => p_11 N x (fun y => k (Pat.inst (.int .i64) y.1) (instH [] y.2))) :=
  gd_loud (E := E_11 N) mixed tyok (ek_base _ _ _) Tryz.func11 (by kernel_rfl) (by kernel_rfl) (by kernel_rfl) (by kernel_rfl) (loops_all (L := L_11 N) loops_11 (by
  simp only [List.forall_mem_cons, List.not_mem_nil, false_implies, implies_true, and_true]
  exact ⟨rounds_none (fun _ _ => rfl), rounds_none (fun _ _ => rfl)⟩)) (fun x k => (grun_11 x k).trans (by kernel_rfl))

def ap_25 : List Pat := [.node (.fcons (.int .i64) (.fcons (.int .i64) (.fcons (.int .i64) (.fcons (.int .i64) (.fcons (.int .i64) (.fcons (.int .i64) (.fcons (.int .i64) (.fcons (.int .i64) (.fnil))))))))), .node (.fcons (.int .i64) (.fcons (.int .i64) (.fnil))), .int .i64]
def hp_25 : List (Option (Pat × Nat)) := []
abbrev Tp_25 (R : Type) : Type := (Y0 × (Int × (Int × Unit)) × Int × Unit) × (Unit) → ((Unit × (Y10 × Unit)) → Option R) → Option R
def Q_25 (x : (Y0 × (Int × (Int × Unit)) × Int × Unit) × (Unit)) (κ0 : (Unit × (Y10 × Unit)) → Option R) : Option R :=
let a := x.1.2.2.1
κ0 ((), ((x.1.1, (x.1.2.1, (a, (0, ((Sch.zero (.arr 128 (.int .u64))), ()))))), ()))
def p_25 (N : Nat) (x : (Y0 × (Int × (Int × Unit)) × Int × Unit) × (Unit)) (κ0 : (Unit × (Y10 × Unit)) → Option R) : Option R := Q_25 x κ0
def EG_25 : Env R := Env.base QQ LN AA
def LG_25 : Loops R := Loops.none
def E_25 (N : Nat) : Env R := EG_25
def L_25 (N : Nat) : Loops R := LG_25
theorem grun_25 (x : aden ap_25 × hden hp_25) (k : KF R) : fnrun TT (EG_25) (drawAny TT WW) (LG_25) true Tryz.f25 (instA ap_25 x.1) (instH hp_25 x.2) k = Q_25 x (fun y => k (Pat.inst (.ptr 0 []) y.1) (instH hp_25 x.2 ++ instH [some (Z3, 113)] y.2)) := by kernel_rfl
theorem good_25 (N : Nat) : GD (X := R) Tryz.prog QQ AA 25 ap_25 hp_25 (fun (x : aden ap_25 × hden hp_25) k => p_25 N x (fun y => k (Pat.inst (.ptr 0 []) y.1) (instH hp_25 x.2 ++ instH [some (Z3, 113)] y.2))) :=
  gd_adds (E := E_25 N) (p := fun (x : aden ap_25 × hden hp_25) κ => p_25 N x (fun y => κ (Pat.inst (.ptr 0 []) y.1) (instH [some (Z3, 113)] y.2))) mixed tyok (ek_base _ _ _) Tryz.func25 (by kernel_rfl) (by kernel_rfl) (by kernel_rfl) (loops_nil (L := L_25 N) (by kernel_rfl)) (fun x k => (grun_25 x k).trans (by kernel_rfl))

def ap_67 : List Pat := [.node (.fcons (.int .i64) (.fcons (.int .i64) (.fcons (.int .i64) (.fcons (.int .i64) (.fcons (.int .i64) (.fcons (.int .i64) (.fcons (.int .i64) (.fcons (.int .i64) (.fnil))))))))), .node (.fcons (.int .i64) (.fcons (.int .i64) (.fnil)))]
def hp_67 : List (Option (Pat × Nat)) := []
abbrev Tp_67 (R : Type) : Type := (Y0 × (Int × (Int × Unit)) × Unit) × (Unit) → (Bool → Option R) → Option R
def Q_67 (x : (Y0 × (Int × (Int × Unit)) × Unit) × (Unit)) (κ0 : Bool → Option R) : Option R :=
let a := x.1.1.1
let c := x.1.2.1.1
let b := x.1.2.1.2.1
bif (a == 2) then (
κ0 true) else (
bif (a == 3) then (
bif (c == 0) then (
κ0 ((decide (b < 2)))) else (
κ0 false)) else (
κ0 false))
def p_67 (N : Nat) (x : (Y0 × (Int × (Int × Unit)) × Unit) × (Unit)) (κ0 : Bool → Option R) : Option R := Q_67 x κ0
def EG_67 : Env R := Env.base QQ LN AA
def LG_67 : Loops R := Loops.none
def E_67 (N : Nat) : Env R := EG_67
def L_67 (N : Nat) : Loops R := LG_67
theorem grun_67 (x : aden ap_67 × hden hp_67) (k : KF R) : fnrun TT (EG_67) (drawAny TT WW) (LG_67) true Tryz.f67 (instA ap_67 x.1) (instH hp_67 x.2) k = Q_67 x (fun y => k (Pat.inst (.bool) y) (instH hp_67 x.2)) := by kernel_rfl
theorem good_67 (N : Nat) : GD (X := R) Tryz.prog QQ AA 67 ap_67 hp_67 (fun (x : aden ap_67 × hden hp_67) k => p_67 N x (fun y => k (Pat.inst (.bool) y) (instH hp_67 x.2))) :=
  gd_quiet (E := E_67 N) (p := fun (x : aden ap_67 × hden hp_67) κ => p_67 N x (fun y => κ (Pat.inst (.bool) y))) mixed tyok (ek_base _ _ _) Tryz.func67 (by kernel_rfl) (by kernel_rfl) (loops_nil (L := L_67 N) (by kernel_rfl)) (fun x k => (grun_67 x k).trans (by kernel_rfl))

def ap_112 : List Pat := [.node (.fcons (.int .i64) (.fcons (.int .i64) (.fcons (.int .i64) (.fcons (.int .i64) (.fcons (.int .i64) (.fcons (.int .i64) (.fcons (.int .i64) (.fcons (.int .i64) (.fnil)))))))))]
def hp_112 : List (Option (Pat × Nat)) := []
abbrev Tp_112 (R : Type) : Type := (Y0 × Unit) × (Unit) → (Int → Option R) → Option R
def Q_112 (x : (Y0 × Unit) × (Unit)) (κ0 : Int → Option R) : Option R :=
let b := x.1.1.1
let a : Int := subA .i64 b 1
κ0 a
def p_112 (N : Nat) (x : (Y0 × Unit) × (Unit)) (κ0 : Int → Option R) : Option R := Q_112 x κ0
def EG_112 : Env R := Env.base QQ LN AA
def LG_112 : Loops R := Loops.none
def E_112 (N : Nat) : Env R := EG_112
def L_112 (N : Nat) : Loops R := LG_112
theorem grun_112 (x : aden ap_112 × hden hp_112) (k : KF R) : fnrun TT (EG_112) (drawAny TT WW) (LG_112) true Tryz.f112 (instA ap_112 x.1) (instH hp_112 x.2) k = Q_112 x (fun y => k (Pat.inst (.int .i64) y) (instH hp_112 x.2)) := by kernel_rfl
theorem good_112 (N : Nat) : GD (X := R) Tryz.prog QQ AA 112 ap_112 hp_112 (fun (x : aden ap_112 × hden hp_112) k => p_112 N x (fun y => k (Pat.inst (.int .i64) y) (instH hp_112 x.2))) :=
  gd_quiet (E := E_112 N) (p := fun (x : aden ap_112 × hden hp_112) κ => p_112 N x (fun y => κ (Pat.inst (.int .i64) y))) mixed tyok (ek_base _ _ _) Tryz.func112 (by kernel_rfl) (by kernel_rfl) (loops_nil (L := L_112 N) (by kernel_rfl)) (fun x k => (grun_112 x k).trans (by kernel_rfl))

def lv_103_4 : Live := [(8, none), (10, none), (26, none), (27, none)]
def pt_103_4 : SPat := ⟨[(8, .ptr 0 []), (10, .ptr 1 []), (26, .vec (.int .i64) 7), (27, .int .i64)], J1⟩
def px_103_4_0 : SPat := ⟨[(8, .ptr 0 []), (10, .ptr 1 [])], J1⟩
def lo_103_4 : Exit → Live
  | .exit 0 => [(8, none), (10, none)]
  | _ => []
def ap_103 : List Pat := [.node (.fcons (.int .i64) (.fcons (.int .i64) (.fcons (.int .i64) (.fcons (.int .i64) (.fcons (.int .i64) (.fcons (.int .i64) (.fcons (.int .i64) (.fcons (.int .i64) (.fnil))))))))), .node (.fcons (.int .i64) (.fcons (.int .i64) (.fnil))), .int .i64, .int .i64]
def hp_103 : List (Option (Pat × Nat)) := []
abbrev Tl_103_4 (R : Type) : Type := ((Unit × Unit × (Nat → Int) × Int × Unit) × Y2) → (Y14 → Option R) → Option R
abbrev Tp_103 (R : Type) : Type := (Y0 × (Int × (Int × Unit)) × Int × Int × Unit) × (Unit) → ((Nat → Int) → Option R) → Option R
def C_103_4 (rec : ((Unit × Unit × (Nat → Int) × Int × Unit) × Y2) → Option R) (x : ((Unit × Unit × (Nat → Int) × Int × Unit) × Y2)) (κ0 : Y14 → Option R) : Option R :=
let d := x.1.2.2.1
let a := x.1.2.2.2.1
let c := x.2.1
let b := x.2.2.1
bif (decide (a < 7)) then (
bif decide (0 ≤ a) then (
bif decide (a < (7 : Int)) then (
let h : Int := (d ((Int.toNat a)))
let g : Int := IntKind.wrap .u64 h
bif decide (0 ≤ a) then (
bif decide (a < (128 : Int)) then (
let e : (Nat → Int) := (upd b ((Int.toNat a)) g)
let f : Int := addA .i64 a 1
rec (((), (), d, f, ()), (c, e, ()))) else none) else none) else none) else none) else (
κ0 (((), (), ()), (c, b, ())))
def B_103_4 (N : Nat) (rec : ((Unit × Unit × (Nat → Int) × Int × Unit) × Y2) → Option R) (x : ((Unit × Unit × (Nat → Int) × Int × Unit) × Y2)) (κ0 : Y14 → Option R) : Option R := C_103_4 rec x κ0
def l_103_4 (N : Nat) : Nat → ((Unit × Unit × (Nat → Int) × Int × Unit) × Y2) → (Y14 → Option R) → Option R
  | 0, _, _ => none
  | n + 1, x, κ0 => B_103_4 N (fun y => l_103_4 N n y κ0) x κ0
def Q_103 (q_112 : Tp_112 R) (m_103_4 : Tl_103_4 R) (x : (Y0 × (Int × (Int × Unit)) × Int × Int × Unit) × (Unit)) (κ0 : (Nat → Int) → Option R) : Option R :=
let e := x.1.1.2.1
let f := x.1.1.2.2.2.2.1
let b := x.1.2.1.1
let c := x.1.2.1.2.1
let h := x.1.2.2.1
let g := x.1.2.2.2.1
q_112 ((x.1.1, ()), ()) (fun i =>
let d : Int := i
let l : (Nat → Int) := (upd ((upd ((upd ((upd ((upd ((upd ((upd ((Sch.zero (.arr 7 (.int .i64)))) 0 b)) 1 h)) 2 c)) 3 f)) 4 e)) 5 d)) 6 g)
m_103_4 (((), (), l, 0, ()), ((Sch.zero (.arr 128 (.int .u64))), (Sch.zero (.arr 128 (.int .u64))), ())) (fun a =>
let j := a.2.2.1
κ0 j))
def p_103 (N : Nat) (x : (Y0 × (Int × (Int × Unit)) × Int × Int × Unit) × (Unit)) (κ0 : (Nat → Int) → Option R) : Option R := Q_103 (p_112 N) (l_103_4 N N) x κ0
def EG_103 (q_112 : Tp_112 R) : Env R := (Env.base QQ LN AA).add 112 ap_112 hp_112 (fun (x : aden ap_112 × hden hp_112) k => q_112 x (fun y => k (Pat.inst (.int .i64) y) (instH hp_112 x.2)))
def LG_103 (m_103_4 : Tl_103_4 R) : Loops R := (Loops.none).add 4 (loopBy 0 lv_103_4 pt_103_4 (fun x k => m_103_4 x (fun y => k (.exit 0) (px_103_4_0.inst y))))
def E_103 (N : Nat) : Env R := EG_103 (p_112 N)
def L_103 (N : Nat) : Loops R := LG_103 (l_103_4 N N)
theorem gstep_103_4 (q_112 : Tp_112 R) (m_103_4 : Tl_103_4 R) (n : Nat) (x : pt_103_4.den) (k : Exit → St → Option R) : iter 0 lv_103_4 lo_103_4 (aexec TT (EG_103 q_112) (drawAny TT WW) (LG_103 m_103_4) (loopAt 4 (bodyOf Tryz.f103))) (n + 1) (pt_103_4.inst x) k = C_103_4 (fun y => iter 0 lv_103_4 lo_103_4 (aexec TT (EG_103 q_112) (drawAny TT WW) (LG_103 m_103_4) (loopAt 4 (bodyOf Tryz.f103))) n (pt_103_4.inst y) k) x (fun y => k (.exit 0) (px_103_4_0.inst y)) := by kernel_rfl
theorem rounds_103_4 (N : Nat) : Rounds 0 TT (E_103 (R := R) N) (drawAny TT WW) (L_103 N) 4 (loopAt 4 (bodyOf Tryz.f103)) :=
  rounds_of (p := pt_103_4) (l := fun (x : pt_103_4.den) k => l_103_4 N N x (fun y => k (.exit 0) (px_103_4_0.inst y))) (fun s k => rfl) (fun x k => (iter_eq (K := Exit → St → Option R) (ks := fun k => k) (l := fun n (x : pt_103_4.den) k => l_103_4 N n x (fun y => k (.exit 0) (px_103_4_0.inst y))) (B := fun (rec : pt_103_4.den → Option R) (x : pt_103_4.den) k => B_103_4 N rec x (fun y => k (.exit 0) (px_103_4_0.inst y))) (fun _ _ => rfl) (fun _ _ _ => rfl) (fun n x k => (gstep_103_4 (p_112 N) (l_103_4 N N) n x k).trans (by kernel_rfl))) N x k)
theorem loops_103 : loopsIn (bodyOf Tryz.f103) = [(4, loopAt 4 (bodyOf Tryz.f103))] := by kernel_rfl
theorem grun_103 (q_112 : Tp_112 R) (m_103_4 : Tl_103_4 R) (x : aden ap_103 × hden hp_103) (k : KF R) : fnrun TT (EG_103 q_112) (drawAny TT WW) (LG_103 m_103_4) true Tryz.f103 (instA ap_103 x.1) (instH hp_103 x.2) k = Q_103 q_112 m_103_4 x (fun y => k (Pat.inst (.vec (.int .u64) 128) y) (instH hp_103 x.2)) := by kernel_rfl
theorem good_103 (N : Nat) : GD (X := R) Tryz.prog QQ AA 103 ap_103 hp_103 (fun (x : aden ap_103 × hden hp_103) k => p_103 N x (fun y => k (Pat.inst (.vec (.int .u64) 128) y) (instH hp_103 x.2))) :=
  gd_quiet (E := E_103 N) (p := fun (x : aden ap_103 × hden hp_103) κ => p_103 N x (fun y => κ (Pat.inst (.vec (.int .u64) 128) y))) mixed tyok (ek_add (ek_base _ _ _) (good_112 N)) Tryz.func103 (by kernel_rfl) (by kernel_rfl) (loops_all (L := L_103 N) loops_103 (by
  simp only [List.forall_mem_cons, List.not_mem_nil, false_implies, implies_true, and_true]
  exact rounds_103_4 N)) (fun x k => (grun_103 (p_112 N) (l_103_4 N N) x k).trans (by kernel_rfl))

def lv_88_6 : Live := [(2, none), (3, none), (8, none), (9, none), (10, none), (14, none), (15, none)]
def pt_88_6 : SPat := ⟨[(2, .ptr 0 []), (3, .ptr 1 []), (8, .ros (.arr 128 (.int .u64))), (9, .int .i64), (10, .int .i64), (14, .vec (.int .u64) 128), (15, .int .i64)], J1⟩
def px_88_6_0 : SPat := ⟨[(2, .ptr 0 []), (3, .ptr 1 []), (8, .ros (.arr 128 (.int .u64))), (9, .int .i64), (10, .int .i64)], J1⟩
def lo_88_6 : Exit → Live
  | .exit 2 => [(2, none), (3, none), (8, none), (9, none), (10, none)]
  | _ => []
def lv_88_3 : Live := [(2, none), (3, none), (8, none), (9, none), (10, none)]
def pt_88_3 : SPat := ⟨[(2, .ptr 0 []), (3, .ptr 1 []), (8, .ros (.arr 128 (.int .u64))), (9, .int .i64), (10, .int .i64)], J1⟩
def px_88_3_0 : SPat := ⟨[(2, .ptr 0 []), (3, .ptr 1 [])], J1⟩
def lo_88_3 : Exit → Live
  | .exit 0 => [(2, none), (3, none)]
  | _ => []
def ap_88 : List Pat := [.ros (.arr 128 (.int .u64))]
def hp_88 : List (Option (Pat × Nat)) := []
abbrev Tl_88_6 (R : Type) : Type := ((Unit × Unit × (List (Nat → Int)) × Int × Int × (Nat → Int) × Int × Unit) × Y2) → (((Unit × Unit × (List (Nat → Int)) × Int × Int × Unit) × Y2) → Option R) → Option R
abbrev Tl_88_3 (R : Type) : Type := ((Unit × Unit × (List (Nat → Int)) × Int × Int × Unit) × Y2) → (Y14 → Option R) → Option R
abbrev Tp_88 (R : Type) : Type := ((List (Nat → Int)) × Unit) × (Unit) → ((Nat → Int) → Option R) → Option R
def C_88_6 (rec : ((Unit × Unit × (List (Nat → Int)) × Int × Int × (Nat → Int) × Int × Unit) × Y2) → Option R) (x : ((Unit × Unit × (List (Nat → Int)) × Int × Int × (Nat → Int) × Int × Unit) × Y2)) (κ0 : ((Unit × Unit × (List (Nat → Int)) × Int × Int × Unit) × Y2) → Option R) : Option R :=
let e := x.1.2.2.1
let g := x.1.2.2.2.1
let c := x.1.2.2.2.2.1
let d := x.1.2.2.2.2.2.1
let a := x.1.2.2.2.2.2.2.1
let f := x.2.1
let b := x.2.2.1
bif (decide (a < 128)) then (
bif decide (0 ≤ a) then (
bif decide (a < (128 : Int)) then (
let l : Int := (d ((Int.toNat a)))
bif decide (0 ≤ a) then (
bif decide (a < (128 : Int)) then (
let i : Int := (b ((Int.toNat a)))
let h : Int := xorA .u64 i l
bif decide (0 ≤ a) then (
bif decide (a < (128 : Int)) then (
let m : (Nat → Int) := (upd b ((Int.toNat a)) h)
let j : Int := addA .i64 a 1
rec (((), (), e, g, c, d, j, ()), (f, m, ()))) else none) else none) else none) else none) else none) else none) else (
κ0 (((), (), e, g, c, ()), (f, b, ())))
def C_88_3 (m_88_6 : Tl_88_6 R) (rec : ((Unit × Unit × (List (Nat → Int)) × Int × Int × Unit) × Y2) → Option R) (x : ((Unit × Unit × (List (Nat → Int)) × Int × Int × Unit) × Y2)) (κ0 : Y14 → Option R) : Option R :=
let c := x.1.2.2.1
let f := x.1.2.2.2.1
let b := x.1.2.2.2.2.1
let d := x.2.1
let e := x.2.2.1
bif (decide (b < f)) then (
bif decide (0 ≤ b) then (
bif decide (b < ((List.length c) : Int)) then (
let n : (Nat → Int) := (List.getD c ((Int.toNat b)) (Sch.zero (.arr 128 (.int .u64))))
m_88_6 (((), (), c, f, b, n, 0, ()), (d, e, ())) (fun a =>
let m := a.1.2.2.1
let i := a.1.2.2.2.1
let l := a.1.2.2.2.2.1
let g := a.2.1
let h := a.2.2.1
let j : Int := addA .i64 l 1
rec (((), (), m, i, j, ()), (g, h, ())))) else none) else none) else (
κ0 (((), (), ()), (d, e, ())))
def B_88_6 (N : Nat) (rec : ((Unit × Unit × (List (Nat → Int)) × Int × Int × (Nat → Int) × Int × Unit) × Y2) → Option R) (x : ((Unit × Unit × (List (Nat → Int)) × Int × Int × (Nat → Int) × Int × Unit) × Y2)) (κ0 : ((Unit × Unit × (List (Nat → Int)) × Int × Int × Unit) × Y2) → Option R) : Option R := C_88_6 rec x κ0
def l_88_6 (N : Nat) : Nat → ((Unit × Unit × (List (Nat → Int)) × Int × Int × (Nat → Int) × Int × Unit) × Y2) → (((Unit × Unit × (List (Nat → Int)) × Int × Int × Unit) × Y2) → Option R) → Option R
  | 0, _, _ => none
  | n + 1, x, κ0 => B_88_6 N (fun y => l_88_6 N n y κ0) x κ0
def B_88_3 (N : Nat) (rec : ((Unit × Unit × (List (Nat → Int)) × Int × Int × Unit) × Y2) → Option R) (x : ((Unit × Unit × (List (Nat → Int)) × Int × Int × Unit) × Y2)) (κ0 : Y14 → Option R) : Option R := C_88_3 (l_88_6 N N) rec x κ0
def l_88_3 (N : Nat) : Nat → ((Unit × Unit × (List (Nat → Int)) × Int × Int × Unit) × Y2) → (Y14 → Option R) → Option R
  | 0, _, _ => none
  | n + 1, x, κ0 => B_88_3 N (fun y => l_88_3 N n y κ0) x κ0
def Q_88 (m_88_6 : Tl_88_6 R) (m_88_3 : Tl_88_3 R) (x : ((List (Nat → Int)) × Unit) × (Unit)) (κ0 : (Nat → Int) → Option R) : Option R :=
let a := x.1.1
let c : Int := (((List.length a) : Nat) : Int)
m_88_3 (((), (), a, c, 0, ()), ((Sch.zero (.arr 128 (.int .u64))), (Sch.zero (.arr 128 (.int .u64))), ())) (fun d =>
let b := d.2.2.1
κ0 b)
def p_88 (N : Nat) (x : ((List (Nat → Int)) × Unit) × (Unit)) (κ0 : (Nat → Int) → Option R) : Option R := Q_88 (l_88_6 N N) (l_88_3 N N) x κ0
def EG_88 : Env R := Env.base QQ LN AA
def LG_88 (m_88_6 : Tl_88_6 R) (m_88_3 : Tl_88_3 R) : Loops R := ((Loops.none).add 6 (loopBy 0 lv_88_6 pt_88_6 (fun x k => m_88_6 x (fun y => k (.exit 2) (px_88_6_0.inst y))))).add 3 (loopBy 0 lv_88_3 pt_88_3 (fun x k => m_88_3 x (fun y => k (.exit 0) (px_88_3_0.inst y))))
def E_88 (N : Nat) : Env R := EG_88
def L_88 (N : Nat) : Loops R := LG_88 (l_88_6 N N) (l_88_3 N N)
theorem gstep_88_6 (m_88_6 : Tl_88_6 R) (m_88_3 : Tl_88_3 R) (n : Nat) (x : pt_88_6.den) (k : Exit → St → Option R) : iter 0 lv_88_6 lo_88_6 (aexec TT (EG_88) (drawAny TT WW) (LG_88 m_88_6 m_88_3) (loopAt 6 (bodyOf Tryz.f88))) (n + 1) (pt_88_6.inst x) k = C_88_6 (fun y => iter 0 lv_88_6 lo_88_6 (aexec TT (EG_88) (drawAny TT WW) (LG_88 m_88_6 m_88_3) (loopAt 6 (bodyOf Tryz.f88))) n (pt_88_6.inst y) k) x (fun y => k (.exit 2) (px_88_6_0.inst y)) := by kernel_rfl
theorem rounds_88_6 (N : Nat) : Rounds 0 TT (E_88 (R := R) N) (drawAny TT WW) (L_88 N) 6 (loopAt 6 (bodyOf Tryz.f88)) :=
  rounds_of (p := pt_88_6) (l := fun (x : pt_88_6.den) k => l_88_6 N N x (fun y => k (.exit 2) (px_88_6_0.inst y))) (fun s k => rfl) (fun x k => (iter_eq (K := Exit → St → Option R) (ks := fun k => k) (l := fun n (x : pt_88_6.den) k => l_88_6 N n x (fun y => k (.exit 2) (px_88_6_0.inst y))) (B := fun (rec : pt_88_6.den → Option R) (x : pt_88_6.den) k => B_88_6 N rec x (fun y => k (.exit 2) (px_88_6_0.inst y))) (fun _ _ => rfl) (fun _ _ _ => rfl) (fun n x k => (gstep_88_6 (l_88_6 N N) (l_88_3 N N) n x k).trans (by kernel_rfl))) N x k)
theorem gstep_88_3 (m_88_6 : Tl_88_6 R) (m_88_3 : Tl_88_3 R) (n : Nat) (x : pt_88_3.den) (k : Exit → St → Option R) : iter 0 lv_88_3 lo_88_3 (aexec TT (EG_88) (drawAny TT WW) (LG_88 m_88_6 m_88_3) (loopAt 3 (bodyOf Tryz.f88))) (n + 1) (pt_88_3.inst x) k = C_88_3 m_88_6 (fun y => iter 0 lv_88_3 lo_88_3 (aexec TT (EG_88) (drawAny TT WW) (LG_88 m_88_6 m_88_3) (loopAt 3 (bodyOf Tryz.f88))) n (pt_88_3.inst y) k) x (fun y => k (.exit 0) (px_88_3_0.inst y)) := by kernel_rfl
theorem rounds_88_3 (N : Nat) : Rounds 0 TT (E_88 (R := R) N) (drawAny TT WW) (L_88 N) 3 (loopAt 3 (bodyOf Tryz.f88)) :=
  rounds_of (p := pt_88_3) (l := fun (x : pt_88_3.den) k => l_88_3 N N x (fun y => k (.exit 0) (px_88_3_0.inst y))) (fun s k => rfl) (fun x k => (iter_eq (K := Exit → St → Option R) (ks := fun k => k) (l := fun n (x : pt_88_3.den) k => l_88_3 N n x (fun y => k (.exit 0) (px_88_3_0.inst y))) (B := fun (rec : pt_88_3.den → Option R) (x : pt_88_3.den) k => B_88_3 N rec x (fun y => k (.exit 0) (px_88_3_0.inst y))) (fun _ _ => rfl) (fun _ _ _ => rfl) (fun n x k => (gstep_88_3 (l_88_6 N N) (l_88_3 N N) n x k).trans (by kernel_rfl))) N x k)
theorem loops_88 : loopsIn (bodyOf Tryz.f88) = [(3, loopAt 3 (bodyOf Tryz.f88)), (6, loopAt 6 (bodyOf Tryz.f88))] := by kernel_rfl
theorem grun_88 (m_88_6 : Tl_88_6 R) (m_88_3 : Tl_88_3 R) (x : aden ap_88 × hden hp_88) (k : KF R) : fnrun TT (EG_88) (drawAny TT WW) (LG_88 m_88_6 m_88_3) true Tryz.f88 (instA ap_88 x.1) (instH hp_88 x.2) k = Q_88 m_88_6 m_88_3 x (fun y => k (Pat.inst (.vec (.int .u64) 128) y) (instH hp_88 x.2)) := by kernel_rfl
theorem good_88 (N : Nat) : GD (X := R) Tryz.prog QQ AA 88 ap_88 hp_88 (fun (x : aden ap_88 × hden hp_88) k => p_88 N x (fun y => k (Pat.inst (.vec (.int .u64) 128) y) (instH hp_88 x.2))) :=
  gd_quiet (E := E_88 N) (p := fun (x : aden ap_88 × hden hp_88) κ => p_88 N x (fun y => κ (Pat.inst (.vec (.int .u64) 128) y))) mixed tyok (ek_base _ _ _) Tryz.func88 (by kernel_rfl) (by kernel_rfl) (loops_all (L := L_88 N) loops_88 (by
  simp only [List.forall_mem_cons, List.not_mem_nil, false_implies, implies_true, and_true]
  exact ⟨rounds_88_3 N, rounds_88_6 N⟩)) (fun x k => (grun_88 (l_88_6 N N) (l_88_3 N N) x k).trans (by kernel_rfl))

def lv_110_3 : Live := [(0, none), (1, none), (4, none), (5, none), (7, none)]
def pt_110_3 : SPat := ⟨[(0, .int .i64), (1, .bool), (4, .ptr 0 []), (5, .ptr 1 []), (7, .int .i64)], J11⟩
def px_110_3_0 : SPat := ⟨[(4, .ptr 0 []), (5, .ptr 1 [])], J11⟩
def lo_110_3 : Exit → Live
  | .exit 0 => [(4, none), (5, none)]
  | _ => []
def ap_110 : List Pat := [.int .i64, .bool]
def hp_110 : List (Option (Pat × Nat)) := []
abbrev Tl_110_3 (R : Type) : Type := ((Int × Bool × Unit × Unit × Int × Unit) × Y2) → (Y14 → Option R) → Option R
abbrev Tp_110 (R : Type) : Type := (Int × Bool × Unit) × (Unit) → ((Nat → Int) → Option R) → Option R
def C_110_3 (rec : ((Int × Bool × Unit × Unit × Int × Unit) × Y2) → Option R) (x : ((Int × Bool × Unit × Unit × Int × Unit) × Y2)) (κ0 : Y14 → Option R) : Option R :=
let b := x.1.1
let d := x.1.2.1
let a := x.1.2.2.2.2.1
let e := x.2.1
let c := x.2.2.1
bif (decide (a < 16)) then (
bif d then (
let g : Int := mulA .i64 2 b
let m : Int := remA .i64 a 2
let l : Int := addA .i64 g m
let i : Int := quoA .i64 a 2
let s : Int := mulA .i64 16 i
let p : Int := addA .i64 l s
bif decide (0 ≤ a) then (
bif decide (a < (16 : Int)) then (
let r : (Nat → Int) := (upd c ((Int.toNat a)) p)
let j : Int := addA .i64 a 1
rec ((b, d, (), (), j, ()), (e, r, ()))) else none) else none) else (
let f : Int := mulA .i64 16 b
let o : Int := addA .i64 f a
bif decide (0 ≤ a) then (
bif decide (a < (16 : Int)) then (
let n : (Nat → Int) := (upd c ((Int.toNat a)) o)
let h : Int := addA .i64 a 1
rec ((b, d, (), (), h, ()), (e, n, ()))) else none) else none)) else (
κ0 (((), (), ()), (e, c, ())))
def B_110_3 (N : Nat) (rec : ((Int × Bool × Unit × Unit × Int × Unit) × Y2) → Option R) (x : ((Int × Bool × Unit × Unit × Int × Unit) × Y2)) (κ0 : Y14 → Option R) : Option R := C_110_3 rec x κ0
def l_110_3 (N : Nat) : Nat → ((Int × Bool × Unit × Unit × Int × Unit) × Y2) → (Y14 → Option R) → Option R
  | 0, _, _ => none
  | n + 1, x, κ0 => B_110_3 N (fun y => l_110_3 N n y κ0) x κ0
def Q_110 (m_110_3 : Tl_110_3 R) (x : (Int × Bool × Unit) × (Unit)) (κ0 : (Nat → Int) → Option R) : Option R :=
let c := x.1.1
let d := x.1.2.1
m_110_3 ((c, d, (), (), 0, ()), ((Sch.zero (.arr 16 (.int .i64))), (Sch.zero (.arr 16 (.int .i64))), ())) (fun b =>
let a := b.2.2.1
κ0 a)
def p_110 (N : Nat) (x : (Int × Bool × Unit) × (Unit)) (κ0 : (Nat → Int) → Option R) : Option R := Q_110 (l_110_3 N N) x κ0
def EG_110 : Env R := Env.base QQ LN AA
def LG_110 (m_110_3 : Tl_110_3 R) : Loops R := (Loops.none).add 3 (loopBy 0 lv_110_3 pt_110_3 (fun x k => m_110_3 x (fun y => k (.exit 0) (px_110_3_0.inst y))))
def E_110 (N : Nat) : Env R := EG_110
def L_110 (N : Nat) : Loops R := LG_110 (l_110_3 N N)
theorem gstep_110_3 (m_110_3 : Tl_110_3 R) (n : Nat) (x : pt_110_3.den) (k : Exit → St → Option R) : iter 0 lv_110_3 lo_110_3 (aexec TT (EG_110) (drawAny TT WW) (LG_110 m_110_3) (loopAt 3 (bodyOf Tryz.f110))) (n + 1) (pt_110_3.inst x) k = C_110_3 (fun y => iter 0 lv_110_3 lo_110_3 (aexec TT (EG_110) (drawAny TT WW) (LG_110 m_110_3) (loopAt 3 (bodyOf Tryz.f110))) n (pt_110_3.inst y) k) x (fun y => k (.exit 0) (px_110_3_0.inst y)) := by kernel_rfl
theorem rounds_110_3 (N : Nat) : Rounds 0 TT (E_110 (R := R) N) (drawAny TT WW) (L_110 N) 3 (loopAt 3 (bodyOf Tryz.f110)) :=
  rounds_of (p := pt_110_3) (l := fun (x : pt_110_3.den) k => l_110_3 N N x (fun y => k (.exit 0) (px_110_3_0.inst y))) (fun s k => rfl) (fun x k => (iter_eq (K := Exit → St → Option R) (ks := fun k => k) (l := fun n (x : pt_110_3.den) k => l_110_3 N n x (fun y => k (.exit 0) (px_110_3_0.inst y))) (B := fun (rec : pt_110_3.den → Option R) (x : pt_110_3.den) k => B_110_3 N rec x (fun y => k (.exit 0) (px_110_3_0.inst y))) (fun _ _ => rfl) (fun _ _ _ => rfl) (fun n x k => (gstep_110_3 (l_110_3 N N) n x k).trans (by kernel_rfl))) N x k)
theorem loops_110 : loopsIn (bodyOf Tryz.f110) = [(3, loopAt 3 (bodyOf Tryz.f110))] := by kernel_rfl
theorem grun_110 (m_110_3 : Tl_110_3 R) (x : aden ap_110 × hden hp_110) (k : KF R) : fnrun TT (EG_110) (drawAny TT WW) (LG_110 m_110_3) true Tryz.f110 (instA ap_110 x.1) (instH hp_110 x.2) k = Q_110 m_110_3 x (fun y => k (Pat.inst (.vec (.int .i64) 16) y) (instH hp_110 x.2)) := by kernel_rfl
theorem good_110 (N : Nat) : GD (X := R) Tryz.prog QQ AA 110 ap_110 hp_110 (fun (x : aden ap_110 × hden hp_110) k => p_110 N x (fun y => k (Pat.inst (.vec (.int .i64) 16) y) (instH hp_110 x.2))) :=
  gd_quiet (E := E_110 N) (p := fun (x : aden ap_110 × hden hp_110) κ => p_110 N x (fun y => κ (Pat.inst (.vec (.int .i64) 16) y))) mixed tyok (ek_base _ _ _) Tryz.func110 (by kernel_rfl) (by kernel_rfl) (loops_all (L := L_110 N) loops_110 (by
  simp only [List.forall_mem_cons, List.not_mem_nil, false_implies, implies_true, and_true]
  exact rounds_110_3 N)) (fun x k => (grun_110 (l_110_3 N N) x k).trans (by kernel_rfl))

def ap_115 : List Pat := []
def hp_115 : List (Option (Pat × Nat)) := []
abbrev Tp_115 (R : Type) : Type := (Unit) × (Unit) → ((Nat → (Nat → Int)) → Option R) → Option R
def Q_115 (x : (Unit) × (Unit)) (κ0 : (Nat → (Nat → Int)) → Option R) : Option R :=
let f : (Nat → Int) := (upd ((upd ((upd ((upd ((Sch.zero (.arr 4 (.int .i64)))) 0 0)) 1 4)) 2 8)) 3 12)
let a : (Nat → Int) := (upd ((upd ((upd ((upd ((Sch.zero (.arr 4 (.int .i64)))) 0 1)) 1 5)) 2 9)) 3 13)
let i : (Nat → Int) := (upd ((upd ((upd ((upd ((Sch.zero (.arr 4 (.int .i64)))) 0 2)) 1 6)) 2 10)) 3 14)
let b : (Nat → Int) := (upd ((upd ((upd ((upd ((Sch.zero (.arr 4 (.int .i64)))) 0 3)) 1 7)) 2 11)) 3 15)
let e : (Nat → Int) := (upd ((upd ((upd ((upd ((Sch.zero (.arr 4 (.int .i64)))) 0 0)) 1 5)) 2 10)) 3 15)
let h : (Nat → Int) := (upd ((upd ((upd ((upd ((Sch.zero (.arr 4 (.int .i64)))) 0 1)) 1 6)) 2 11)) 3 12)
let d : (Nat → Int) := (upd ((upd ((upd ((upd ((Sch.zero (.arr 4 (.int .i64)))) 0 2)) 1 7)) 2 8)) 3 13)
let c : (Nat → Int) := (upd ((upd ((upd ((upd ((Sch.zero (.arr 4 (.int .i64)))) 0 3)) 1 4)) 2 9)) 3 14)
let g : (Nat → (Nat → Int)) := (upd ((upd ((upd ((upd ((upd ((upd ((upd ((upd ((Sch.zero (.arr 8 (.arr 4 (.int .i64))))) 0 f)) 1 a)) 2 i)) 3 b)) 4 e)) 5 h)) 6 d)) 7 c)
κ0 g
def p_115 (N : Nat) (x : (Unit) × (Unit)) (κ0 : (Nat → (Nat → Int)) → Option R) : Option R := Q_115 x κ0
def EG_115 : Env R := Env.base QQ LN AA
def LG_115 : Loops R := Loops.none
def E_115 (N : Nat) : Env R := EG_115
def L_115 (N : Nat) : Loops R := LG_115
theorem grun_115 (x : aden ap_115 × hden hp_115) (k : KF R) : fnrun TT (EG_115) (drawAny TT WW) (LG_115) true Tryz.f115 (instA ap_115 x.1) (instH hp_115 x.2) k = Q_115 x (fun y => k (Pat.inst (.vec (.arr 4 (.int .i64)) 8) y) (instH hp_115 x.2)) := by kernel_rfl
theorem good_115 (N : Nat) : GD (X := R) Tryz.prog QQ AA 115 ap_115 hp_115 (fun (x : aden ap_115 × hden hp_115) k => p_115 N x (fun y => k (Pat.inst (.vec (.arr 4 (.int .i64)) 8) y) (instH hp_115 x.2))) :=
  gd_quiet (E := E_115 N) (p := fun (x : aden ap_115 × hden hp_115) κ => p_115 N x (fun y => κ (Pat.inst (.vec (.arr 4 (.int .i64)) 8) y))) mixed tyok (ek_base _ _ _) Tryz.func115 (by kernel_rfl) (by kernel_rfl) (loops_nil (L := L_115 N) (by kernel_rfl)) (fun x k => (grun_115 x k).trans (by kernel_rfl))

def ap_117 : List Pat := [.int .u64, .int .u64]
def hp_117 : List (Option (Pat × Nat)) := []
abbrev Tp_117 (R : Type) : Type := (Int × Int × Unit) × (Unit) → (Int → Option R) → Option R
def Q_117 (x : (Int × Int × Unit) × (Unit)) (κ0 : Int → Option R) : Option R :=
let a := x.1.1
let b := x.1.2.1
let f : Int := addA .u64 a b
let j : Int := IntKind.wrap .u32 a
let h : Int := IntKind.wrap .u64 j
let i : Int := mulA .u64 2 h
let d : Int := IntKind.wrap .u32 b
let e : Int := IntKind.wrap .u64 d
let g : Int := mulA .u64 i e
let c : Int := addA .u64 f g
κ0 c
def p_117 (N : Nat) (x : (Int × Int × Unit) × (Unit)) (κ0 : Int → Option R) : Option R := Q_117 x κ0
def EG_117 : Env R := Env.base QQ LN AA
def LG_117 : Loops R := Loops.none
def E_117 (N : Nat) : Env R := EG_117
def L_117 (N : Nat) : Loops R := LG_117
theorem grun_117 (x : aden ap_117 × hden hp_117) (k : KF R) : fnrun TT (EG_117) (drawAny TT WW) (LG_117) true Tryz.f117 (instA ap_117 x.1) (instH hp_117 x.2) k = Q_117 x (fun y => k (Pat.inst (.int .u64) y) (instH hp_117 x.2)) := by kernel_rfl
theorem good_117 (N : Nat) : GD (X := R) Tryz.prog QQ AA 117 ap_117 hp_117 (fun (x : aden ap_117 × hden hp_117) k => p_117 N x (fun y => k (Pat.inst (.int .u64) y) (instH hp_117 x.2))) :=
  gd_quiet (E := E_117 N) (p := fun (x : aden ap_117 × hden hp_117) κ => p_117 N x (fun y => κ (Pat.inst (.int .u64) y))) mixed tyok (ek_base _ _ _) Tryz.func117 (by kernel_rfl) (by kernel_rfl) (loops_nil (L := L_117 N) (by kernel_rfl)) (fun x k => (grun_117 x k).trans (by kernel_rfl))

def ap_113 : List Pat := [.int .u64, .int .i64]
def hp_113 : List (Option (Pat × Nat)) := []
abbrev Tp_113 (R : Type) : Type := (Int × Int × Unit) × (Unit) → (Int → Option R) → Option R
def Q_113 (x : (Int × Int × Unit) × (Unit)) (κ0 : Int → Option R) : Option R :=
let b := x.1.1
let e := x.1.2.1
let g : Int := IntKind.wrap .u64 e
let a : Int := remA .u64 g 64
bif decide (a < 0) then none else (
let d : Int := shrA .u64 b a
let c : Int := subA .u64 64 a
bif decide (c < 0) then none else (
let f : Int := shlA .u64 b c
let h : Int := orA .u64 d f
κ0 h))
def p_113 (N : Nat) (x : (Int × Int × Unit) × (Unit)) (κ0 : Int → Option R) : Option R := Q_113 x κ0
def EG_113 : Env R := Env.base QQ LN AA
def LG_113 : Loops R := Loops.none
def E_113 (N : Nat) : Env R := EG_113
def L_113 (N : Nat) : Loops R := LG_113
theorem grun_113 (x : aden ap_113 × hden hp_113) (k : KF R) : fnrun TT (EG_113) (drawAny TT WW) (LG_113) true Tryz.f113 (instA ap_113 x.1) (instH hp_113 x.2) k = Q_113 x (fun y => k (Pat.inst (.int .u64) y) (instH hp_113 x.2)) := by kernel_rfl
theorem good_113 (N : Nat) : GD (X := R) Tryz.prog QQ AA 113 ap_113 hp_113 (fun (x : aden ap_113 × hden hp_113) k => p_113 N x (fun y => k (Pat.inst (.int .u64) y) (instH hp_113 x.2))) :=
  gd_quiet (E := E_113 N) (p := fun (x : aden ap_113 × hden hp_113) κ => p_113 N x (fun y => κ (Pat.inst (.int .u64) y))) mixed tyok (ek_base _ _ _) Tryz.func113 (by kernel_rfl) (by kernel_rfl) (loops_nil (L := L_113 N) (by kernel_rfl)) (fun x k => (grun_113 x k).trans (by kernel_rfl))

def ap_116 : List Pat := [.int .u64, .int .u64, .int .u64, .int .u64]
def hp_116 : List (Option (Pat × Nat)) := []
abbrev Tp_116 (R : Type) : Type := (Int × Int × Int × Int × Unit) × (Unit) → (Y4 → Option R) → Option R
def Q_116 (q_117 : Tp_117 R) (q_113 : Tp_113 R) (x : (Int × Int × Int × Int × Unit) × (Unit)) (κ0 : Y4 → Option R) : Option R :=
let u := x.1.1
let c := x.1.2.1
let w := x.1.2.2.1
let a0 := x.1.2.2.2.1
q_117 ((u, c, ()), ()) (fun z =>
let a := z
let v : Int := xorA .u64 a0 a
q_113 ((v, 32, ()), ()) (fun n =>
let d : Int := n
q_117 ((w, d, ()), ()) (fun l =>
let e : Int := l
let i : Int := xorA .u64 c e
q_113 ((i, 24, ()), ()) (fun m =>
let b : Int := m
q_117 ((a, b, ()), ()) (fun r =>
let g : Int := r
let t : Int := xorA .u64 d g
q_113 ((t, 16, ()), ()) (fun j =>
let f : Int := j
q_117 ((e, f, ()), ()) (fun s =>
let h : Int := s
let p : Int := xorA .u64 b h
q_113 ((p, 63, ()), ()) (fun y =>
let o : Int := y
κ0 ((g, (o, (h, (f, ())))))))))))))
def p_116 (N : Nat) (x : (Int × Int × Int × Int × Unit) × (Unit)) (κ0 : Y4 → Option R) : Option R := Q_116 (p_117 N) (p_113 N) x κ0
def EG_116 (q_117 : Tp_117 R) (q_113 : Tp_113 R) : Env R := ((Env.base QQ LN AA).add 117 ap_117 hp_117 (fun (x : aden ap_117 × hden hp_117) k => q_117 x (fun y => k (Pat.inst (.int .u64) y) (instH hp_117 x.2)))).add 113 ap_113 hp_113 (fun (x : aden ap_113 × hden hp_113) k => q_113 x (fun y => k (Pat.inst (.int .u64) y) (instH hp_113 x.2)))
def LG_116 : Loops R := Loops.none
def E_116 (N : Nat) : Env R := EG_116 (p_117 N) (p_113 N)
def L_116 (N : Nat) : Loops R := LG_116
theorem grun_116 (q_117 : Tp_117 R) (q_113 : Tp_113 R) (x : aden ap_116 × hden hp_116) (k : KF R) : fnrun TT (EG_116 q_117 q_113) (drawAny TT WW) (LG_116) true Tryz.f116 (instA ap_116 x.1) (instH hp_116 x.2) k = Q_116 q_117 q_113 x (fun y => k (Pat.inst (.tup (.fcons (.int .u64) (.fcons (.int .u64) (.fcons (.int .u64) (.fcons (.int .u64) (.fnil)))))) y) (instH hp_116 x.2)) := by kernel_rfl
theorem good_116 (N : Nat) : GD (X := R) Tryz.prog QQ AA 116 ap_116 hp_116 (fun (x : aden ap_116 × hden hp_116) k => p_116 N x (fun y => k (Pat.inst (.tup (.fcons (.int .u64) (.fcons (.int .u64) (.fcons (.int .u64) (.fcons (.int .u64) (.fnil)))))) y) (instH hp_116 x.2))) :=
  gd_quiet (E := E_116 N) (p := fun (x : aden ap_116 × hden hp_116) κ => p_116 N x (fun y => κ (Pat.inst (.tup (.fcons (.int .u64) (.fcons (.int .u64) (.fcons (.int .u64) (.fcons (.int .u64) (.fnil)))))) y))) mixed tyok (ek_add (ek_add (ek_base _ _ _) (good_117 N)) (good_113 N)) Tryz.func116 (by kernel_rfl) (by kernel_rfl) (loops_nil (L := L_116 N) (by kernel_rfl)) (fun x k => (grun_116 (p_117 N) (p_113 N) x k).trans (by kernel_rfl))

def lv_111_2 : Live := [(1, none), (2, none), (9, none), (10, none)]
def pt_111_2 : SPat := ⟨[(1, .ptr 0 []), (2, .ptr 1 []), (9, .vec (.arr 4 (.int .i64)) 8), (10, .int .i64)], [some (.vec (.int .u64) 16, 181), some (.vec (.int .u64) 16, 181)]⟩
def px_111_2_0 : SPat := ⟨[(1, .ptr 0 []), (2, .ptr 1 [])], [some (.vec (.int .u64) 16, 181), some (.vec (.int .u64) 16, 181)]⟩
def lo_111_2 : Exit → Live
  | .exit 0 => [(1, none), (2, none)]
  | _ => []
def ap_111 : List Pat := [.vec (.int .u64) 16]
def hp_111 : List (Option (Pat × Nat)) := []
abbrev Tl_111_2 (R : Type) : Type := ((Unit × Unit × (Nat → (Nat → Int)) × Int × Unit) × Y2) → (Y14 → Option R) → Option R
abbrev Tp_111 (R : Type) : Type := ((Nat → Int) × Unit) × (Unit) → ((Nat → Int) → Option R) → Option R
def C_111_2 (q_116 : Tp_116 R) (rec : ((Unit × Unit × (Nat → (Nat → Int)) × Int × Unit) × Y2) → Option R) (x : ((Unit × Unit × (Nat → (Nat → Int)) × Int × Unit) × Y2)) (κ0 : Y14 → Option R) : Option R :=
let j := x.1.2.2.1
let f := x.1.2.2.2.1
let b := x.2.1
let i := x.2.2.1
bif (decide (f < 8)) then (
bif decide (0 ≤ f) then (
bif decide (f < (8 : Int)) then (
let h : (Nat → Int) := (j ((Int.toNat f)))
let e : Int := (h 0)
let c : Int := (h 1)
let a : Int := (h 2)
let d : Int := (h 3)
bif decide (0 ≤ e) then (
bif decide (e < (16 : Int)) then (
let n : Int := (b ((Int.toNat e)))
bif decide (0 ≤ c) then (
bif decide (c < (16 : Int)) then (
let p : Int := (b ((Int.toNat c)))
bif decide (0 ≤ a) then (
bif decide (a < (16 : Int)) then (
let r : Int := (b ((Int.toNat a)))
bif decide (0 ≤ d) then (
bif decide (d < (16 : Int)) then (
let y : Int := (b ((Int.toNat d)))
q_116 ((n, p, r, y, ()), ()) (fun g =>
let t := g.1
let o := g.2.1
let z := g.2.2.1
let s := g.2.2.2.1
bif decide (0 ≤ e) then (
bif decide (e < (16 : Int)) then (
let u : (Nat → Int) := (upd b ((Int.toNat e)) t)
bif decide (0 ≤ c) then (
bif decide (c < (16 : Int)) then (
let v : (Nat → Int) := (upd u ((Int.toNat c)) o)
bif decide (0 ≤ a) then (
bif decide (a < (16 : Int)) then (
let l : (Nat → Int) := (upd v ((Int.toNat a)) z)
bif decide (0 ≤ d) then (
bif decide (d < (16 : Int)) then (
let m : (Nat → Int) := (upd l ((Int.toNat d)) s)
let w : Int := addA .i64 f 1
rec (((), (), j, w, ()), (m, i, ()))) else none) else none) else none) else none) else none) else none) else none) else none)) else none) else none) else none) else none) else none) else none) else none) else none) else none) else none) else (
κ0 (((), (), ()), (b, i, ())))
def B_111_2 (N : Nat) (rec : ((Unit × Unit × (Nat → (Nat → Int)) × Int × Unit) × Y2) → Option R) (x : ((Unit × Unit × (Nat → (Nat → Int)) × Int × Unit) × Y2)) (κ0 : Y14 → Option R) : Option R := C_111_2 (p_116 N) rec x κ0
def l_111_2 (N : Nat) : Nat → ((Unit × Unit × (Nat → (Nat → Int)) × Int × Unit) × Y2) → (Y14 → Option R) → Option R
  | 0, _, _ => none
  | n + 1, x, κ0 => B_111_2 N (fun y => l_111_2 N n y κ0) x κ0
def Q_111 (q_115 : Tp_115 R) (q_116 : Tp_116 R) (m_111_2 : Tl_111_2 R) (x : ((Nat → Int) × Unit) × (Unit)) (κ0 : (Nat → Int) → Option R) : Option R :=
let e := x.1.1
q_115 ((), ()) (fun c =>
let d : (Nat → (Nat → Int)) := c
m_111_2 (((), (), d, 0, ()), (e, (Sch.zero (.arr 16 (.int .u64))), ())) (fun a =>
let b := a.2.1
κ0 b))
def p_111 (N : Nat) (x : ((Nat → Int) × Unit) × (Unit)) (κ0 : (Nat → Int) → Option R) : Option R := Q_111 (p_115 N) (p_116 N) (l_111_2 N N) x κ0
def EG_111 (q_115 : Tp_115 R) (q_116 : Tp_116 R) : Env R := ((Env.base QQ LN AA).add 115 ap_115 hp_115 (fun (x : aden ap_115 × hden hp_115) k => q_115 x (fun y => k (Pat.inst (.vec (.arr 4 (.int .i64)) 8) y) (instH hp_115 x.2)))).add 116 ap_116 hp_116 (fun (x : aden ap_116 × hden hp_116) k => q_116 x (fun y => k (Pat.inst (.tup (.fcons (.int .u64) (.fcons (.int .u64) (.fcons (.int .u64) (.fcons (.int .u64) (.fnil)))))) y) (instH hp_116 x.2)))
def LG_111 (m_111_2 : Tl_111_2 R) : Loops R := (Loops.none).add 2 (loopBy 0 lv_111_2 pt_111_2 (fun x k => m_111_2 x (fun y => k (.exit 0) (px_111_2_0.inst y))))
def E_111 (N : Nat) : Env R := EG_111 (p_115 N) (p_116 N)
def L_111 (N : Nat) : Loops R := LG_111 (l_111_2 N N)
theorem gstep_111_2 (q_115 : Tp_115 R) (q_116 : Tp_116 R) (m_111_2 : Tl_111_2 R) (n : Nat) (x : pt_111_2.den) (k : Exit → St → Option R) : iter 0 lv_111_2 lo_111_2 (aexec TT (EG_111 q_115 q_116) (drawAny TT WW) (LG_111 m_111_2) (loopAt 2 (bodyOf Tryz.f111))) (n + 1) (pt_111_2.inst x) k = C_111_2 q_116 (fun y => iter 0 lv_111_2 lo_111_2 (aexec TT (EG_111 q_115 q_116) (drawAny TT WW) (LG_111 m_111_2) (loopAt 2 (bodyOf Tryz.f111))) n (pt_111_2.inst y) k) x (fun y => k (.exit 0) (px_111_2_0.inst y)) := by kernel_rfl
theorem rounds_111_2 (N : Nat) : Rounds 0 TT (E_111 (R := R) N) (drawAny TT WW) (L_111 N) 2 (loopAt 2 (bodyOf Tryz.f111)) :=
  rounds_of (p := pt_111_2) (l := fun (x : pt_111_2.den) k => l_111_2 N N x (fun y => k (.exit 0) (px_111_2_0.inst y))) (fun s k => rfl) (fun x k => (iter_eq (K := Exit → St → Option R) (ks := fun k => k) (l := fun n (x : pt_111_2.den) k => l_111_2 N n x (fun y => k (.exit 0) (px_111_2_0.inst y))) (B := fun (rec : pt_111_2.den → Option R) (x : pt_111_2.den) k => B_111_2 N rec x (fun y => k (.exit 0) (px_111_2_0.inst y))) (fun _ _ => rfl) (fun _ _ _ => rfl) (fun n x k => (gstep_111_2 (p_115 N) (p_116 N) (l_111_2 N N) n x k).trans (by kernel_rfl))) N x k)
theorem loops_111 : loopsIn (bodyOf Tryz.f111) = [(2, loopAt 2 (bodyOf Tryz.f111))] := by kernel_rfl
theorem grun_111 (q_115 : Tp_115 R) (q_116 : Tp_116 R) (m_111_2 : Tl_111_2 R) (x : aden ap_111 × hden hp_111) (k : KF R) : fnrun TT (EG_111 q_115 q_116) (drawAny TT WW) (LG_111 m_111_2) true Tryz.f111 (instA ap_111 x.1) (instH hp_111 x.2) k = Q_111 q_115 q_116 m_111_2 x (fun y => k (Pat.inst (.vec (.int .u64) 16) y) (instH hp_111 x.2)) := by kernel_rfl
theorem good_111 (N : Nat) : GD (X := R) Tryz.prog QQ AA 111 ap_111 hp_111 (fun (x : aden ap_111 × hden hp_111) k => p_111 N x (fun y => k (Pat.inst (.vec (.int .u64) 16) y) (instH hp_111 x.2))) :=
  gd_quiet (E := E_111 N) (p := fun (x : aden ap_111 × hden hp_111) κ => p_111 N x (fun y => κ (Pat.inst (.vec (.int .u64) 16) y))) mixed tyok (ek_add (ek_add (ek_base _ _ _) (good_115 N)) (good_116 N)) Tryz.func111 (by kernel_rfl) (by kernel_rfl) (loops_all (L := L_111 N) loops_111 (by
  simp only [List.forall_mem_cons, List.not_mem_nil, false_implies, implies_true, and_true]
  exact rounds_111_2 N)) (fun x k => (grun_111 (p_115 N) (p_116 N) (l_111_2 N N) x k).trans (by kernel_rfl))

def lv_102_10 : Live := [(1, none), (2, none), (4, none), (6, none), (7, none), (12, none), (13, none), (14, none), (18, none), (24, none), (25, none)]
def pt_102_10 : SPat := ⟨[(1, .ptr 0 []), (2, .ptr 1 []), (4, .bool), (6, .ptr 2 []), (7, .ptr 3 []), (12, .sl 4), (13, .int .i64), (14, .int .i64), (18, .int .i64), (24, .vec (.int .i64) 16), (25, .int .i64)], [some (.vec (.int .u64) 128, 88), some (.vec (.int .u64) 128, 88), some (.vec (.int .i64) 16, 183), some (.vec (.int .u64) 16, 181), some (.lst (.bool), 4)]⟩
def px_102_10_0 : SPat := ⟨[(1, .ptr 0 []), (2, .ptr 1 []), (4, .bool), (6, .ptr 2 []), (7, .ptr 3 []), (12, .sl 4), (13, .int .i64), (14, .int .i64), (18, .int .i64)], [some (.vec (.int .u64) 128, 88), some (.vec (.int .u64) 128, 88), some (.vec (.int .i64) 16, 183), some (.vec (.int .u64) 16, 181), some (.lst (.bool), 4)]⟩
def lo_102_10 : Exit → Live
  | .exit 4 => [(1, none), (2, none), (4, none), (6, none), (7, none), (12, none), (13, none), (14, none), (18, none)]
  | _ => []
def lv_102_16 : Live := [(1, none), (2, none), (4, none), (7, none), (12, none), (13, none), (14, none), (18, none), (37, none), (38, none)]
def pt_102_16 : SPat := ⟨[(1, .ptr 0 []), (2, .ptr 1 []), (4, .bool), (7, .ptr 2 []), (12, .sl 3), (13, .int .i64), (14, .int .i64), (18, .int .i64), (37, .vec (.int .i64) 16), (38, .int .i64)], [some (.vec (.int .u64) 128, 88), some (.vec (.int .u64) 128, 88), some (.vec (.int .u64) 16, 181), some (.lst (.bool), 4)]⟩
def px_102_16_0 : SPat := ⟨[(1, .ptr 0 []), (2, .ptr 1 []), (4, .bool), (12, .sl 2), (13, .int .i64), (14, .int .i64), (18, .int .i64)], [some (.vec (.int .u64) 128, 88), some (.vec (.int .u64) 128, 88), some (.lst (.bool), 4)]⟩
def lo_102_16 : Exit → Live
  | .exit 6 => [(1, none), (2, none), (4, none), (12, none), (13, none), (14, none), (18, none)]
  | _ => []
def lv_102_5 : Live := [(1, none), (2, none), (4, none), (12, none), (13, none), (14, none), (18, none)]
def pt_102_5 : SPat := ⟨[(1, .ptr 0 []), (2, .ptr 1 []), (4, .bool), (12, .sl 2), (13, .int .i64), (14, .int .i64), (18, .int .i64)], [some (.vec (.int .u64) 128, 88), some (.vec (.int .u64) 128, 88), some (.lst (.bool), 4)]⟩
def px_102_5_0 : SPat := ⟨[(1, .ptr 0 []), (2, .ptr 1 []), (12, .sl 2), (13, .int .i64), (14, .int .i64)], [some (.vec (.int .u64) 128, 88), some (.vec (.int .u64) 128, 88), some (.lst (.bool), 4)]⟩
def lo_102_5 : Exit → Live
  | .exit 2 => [(1, none), (2, none), (12, none), (13, none), (14, none)]
  | _ => []
def lv_102_2 : Live := [(1, none), (2, none), (12, none), (13, none), (14, none)]
def pt_102_2 : SPat := ⟨[(1, .ptr 0 []), (2, .ptr 1 []), (12, .sl 2), (13, .int .i64), (14, .int .i64)], [some (.vec (.int .u64) 128, 88), some (.vec (.int .u64) 128, 88), some (.lst (.bool), 4)]⟩
def px_102_2_0 : SPat := ⟨[(1, .ptr 0 []), (2, .ptr 1 [])], J1⟩
def lo_102_2 : Exit → Live
  | .exit 0 => [(1, none), (2, none)]
  | _ => []
def ap_102 : List Pat := [.vec (.int .u64) 128]
def hp_102 : List (Option (Pat × Nat)) := []
abbrev Tl_102_10 (R : Type) : Type := Y24 → (((Unit × Unit × Bool × Unit × Unit × Unit × Int × Int × Int × Unit) × ((Nat → Int) × (Nat → Int) × (Nat → Int) × (Nat → Int) × (List Bool) × Unit)) → Option R) → Option R
abbrev Tl_102_16 (R : Type) : Type := Y29 → (Y20 → Option R) → Option R
abbrev Tl_102_5 (R : Type) : Type := Y20 → (Y21 → Option R) → Option R
abbrev Tl_102_2 (R : Type) : Type := Y21 → (Y14 → Option R) → Option R
abbrev Tp_102 (R : Type) : Type := ((Nat → Int) × Unit) × (Unit) → ((Nat → Int) → Option R) → Option R
def C_102_10 (rec : Y24 → Option R) (x : Y24) (κ0 : ((Unit × Unit × Bool × Unit × Unit × Unit × Int × Int × Int × Unit) × ((Nat → Int) × (Nat → Int) × (Nat → Int) × (Nat → Int) × (List Bool) × Unit)) → Option R) : Option R :=
let l := x.1.2.2.1
let f := x.1.2.2.2.2.2.2.1
let d := x.1.2.2.2.2.2.2.2.1
let i := x.1.2.2.2.2.2.2.2.2.1
let e := x.1.2.2.2.2.2.2.2.2.2.1
let a := x.1.2.2.2.2.2.2.2.2.2.2.1
let c := x.2.1
let m := x.2.2.1
let g := x.2.2.2.1
let j := x.2.2.2.2.1
let h := x.2.2.2.2.2.1
bif (decide (a < 16)) then (
bif decide (0 ≤ a) then (
bif decide (a < (16 : Int)) then (
let b : Int := (e ((Int.toNat a)))
bif decide (0 ≤ b) then (
bif decide (b < (128 : Int)) then (
let o : Int := (c ((Int.toNat b)))
bif decide (0 ≤ a) then (
bif decide (a < (16 : Int)) then (
let n : (Nat → Int) := (upd j ((Int.toNat a)) o)
let p : Int := addA .i64 a 1
rec (((), (), l, (), (), (), f, d, i, e, p, ()), (c, m, g, n, h, ()))) else none) else none) else none) else none) else none) else none) else (
κ0 (((), (), l, (), (), (), f, d, i, ()), (c, m, g, j, h, ())))
def C_102_16 (rec : Y29 → Option R) (x : Y29) (κ0 : Y20 → Option R) : Option R :=
let e := x.1.2.2.1
let j := x.1.2.2.2.2.2.1
let i := x.1.2.2.2.2.2.2.1
let f := x.1.2.2.2.2.2.2.2.1
let c := x.1.2.2.2.2.2.2.2.2.1
let a := x.1.2.2.2.2.2.2.2.2.2.1
let g := x.2.1
let d := x.2.2.1
let h := x.2.2.2.1
let l := x.2.2.2.2.1
bif (decide (a < 16)) then (
bif decide (0 ≤ a) then (
bif decide (a < (16 : Int)) then (
let b : Int := (c ((Int.toNat a)))
bif decide (0 ≤ a) then (
bif decide (a < (16 : Int)) then (
let n : Int := (h ((Int.toNat a)))
bif decide (0 ≤ b) then (
bif decide (b < (128 : Int)) then (
let m : (Nat → Int) := (upd g ((Int.toNat b)) n)
let o : Int := addA .i64 a 1
rec (((), (), e, (), (), j, i, f, c, o, ()), (m, d, h, l, ()))) else none) else none) else none) else none) else none) else none) else (
κ0 (((), (), e, (), j, i, f, ()), (g, d, l, ())))
def C_102_5 (q_110 : Tp_110 R) (q_111 : Tp_111 R) (m_102_10 : Tl_102_10 R) (m_102_16 : Tl_102_16 R) (rec : Y20 → Option R) (x : Y20) (κ0 : Y21 → Option R) : Option R :=
let g := x.1.2.2.1
let e := x.1.2.2.2.2.1
let f := x.1.2.2.2.2.2.1
let c := x.1.2.2.2.2.2.2.1
let i := x.2.1
let j := x.2.2.1
let h := x.2.2.2.1
bif (decide (c < 8)) then (
q_110 ((c, g, ()), ()) (fun z =>
let d : (Nat → Int) := z
m_102_10 (((), (), g, (), (), (), e, f, c, d, 0, ()), (i, j, d, (Sch.zero (.arr 16 (.int .u64))), h, ())) (fun a =>
let w := a.1.2.2.1
let m := a.1.2.2.2.2.2.2.1
let r := a.1.2.2.2.2.2.2.2.1
let a2 := a.1.2.2.2.2.2.2.2.2.1
let n := a.2.1
let u := a.2.2.1
let t := a.2.2.2.1
let p := a.2.2.2.2.1
let v := a.2.2.2.2.2.1
q_111 ((p, ()), ()) (fun a1 =>
let a4 : (Nat → Int) := a1
m_102_16 (((), (), w, (), (), m, r, a2, t, 0, ()), (n, u, a4, v, ())) (fun b =>
let a3 := b.1.2.2.1
let o := b.1.2.2.2.2.1
let a6 := b.1.2.2.2.2.2.1
let s := b.1.2.2.2.2.2.2.1
let l := b.2.1
let a5 := b.2.2.1
let y := b.2.2.2.1
let a0 : Int := addA .i64 s 1
rec (((), (), a3, (), o, a6, a0, ()), (l, a5, y, ()))))))) else (
κ0 (((), (), (), e, f, ()), (i, j, h, ())))
def C_102_2 (m_102_5 : Tl_102_5 R) (rec : Y21 → Option R) (x : Y21) (κ0 : Y14 → Option R) : Option R :=
let d := x.1.2.2.2.1
let a := x.1.2.2.2.2.1
let f := x.2.1
let e := x.2.2.1
let c := x.2.2.2.1
bif (decide (a < d)) then (
bif decide (0 ≤ a) then (
bif decide (a < ((List.length c) : Int)) then (
let i : Bool := (List.getD c ((Int.toNat a)) (Sch.zero (.bool)))
m_102_5 (((), (), i, (), d, a, 0, ()), (f, e, c, ())) (fun b =>
let h := b.1.2.2.2.1
let n := b.1.2.2.2.2.1
let m := b.2.1
let j := b.2.2.1
let l := b.2.2.2.1
let g : Int := addA .i64 n 1
rec (((), (), (), h, g, ()), (m, j, l, ())))) else none) else none) else (
κ0 (((), (), ()), (f, e, ())))
def B_102_10 (N : Nat) (rec : Y24 → Option R) (x : Y24) (κ0 : ((Unit × Unit × Bool × Unit × Unit × Unit × Int × Int × Int × Unit) × ((Nat → Int) × (Nat → Int) × (Nat → Int) × (Nat → Int) × (List Bool) × Unit)) → Option R) : Option R := C_102_10 rec x κ0
def l_102_10 (N : Nat) : Nat → Y24 → (((Unit × Unit × Bool × Unit × Unit × Unit × Int × Int × Int × Unit) × ((Nat → Int) × (Nat → Int) × (Nat → Int) × (Nat → Int) × (List Bool) × Unit)) → Option R) → Option R
  | 0, _, _ => none
  | n + 1, x, κ0 => B_102_10 N (fun y => l_102_10 N n y κ0) x κ0
def B_102_16 (N : Nat) (rec : Y29 → Option R) (x : Y29) (κ0 : Y20 → Option R) : Option R := C_102_16 rec x κ0
def l_102_16 (N : Nat) : Nat → Y29 → (Y20 → Option R) → Option R
  | 0, _, _ => none
  | n + 1, x, κ0 => B_102_16 N (fun y => l_102_16 N n y κ0) x κ0
def B_102_5 (N : Nat) (rec : Y20 → Option R) (x : Y20) (κ0 : Y21 → Option R) : Option R := C_102_5 (p_110 N) (p_111 N) (l_102_10 N N) (l_102_16 N N) rec x κ0
def l_102_5 (N : Nat) : Nat → Y20 → (Y21 → Option R) → Option R
  | 0, _, _ => none
  | n + 1, x, κ0 => B_102_5 N (fun y => l_102_5 N n y κ0) x κ0
def B_102_2 (N : Nat) (rec : Y21 → Option R) (x : Y21) (κ0 : Y14 → Option R) : Option R := C_102_2 (l_102_5 N N) rec x κ0
def l_102_2 (N : Nat) : Nat → Y21 → (Y14 → Option R) → Option R
  | 0, _, _ => none
  | n + 1, x, κ0 => B_102_2 N (fun y => l_102_2 N n y κ0) x κ0
def Q_102 (q_110 : Tp_110 R) (q_111 : Tp_111 R) (m_102_10 : Tl_102_10 R) (m_102_16 : Tl_102_16 R) (m_102_5 : Tl_102_5 R) (m_102_2 : Tl_102_2 R) (x : ((Nat → Int) × Unit) × (Unit)) (κ0 : (Nat → Int) → Option R) : Option R :=
let b := x.1.1
let a : (List Bool) := [false, true]
let d : Int := (((List.length a) : Nat) : Int)
m_102_2 (((), (), (), d, 0, ()), (b, (Sch.zero (.arr 128 (.int .u64))), a, ())) (fun c =>
let e := c.2.1
κ0 e)
def p_102 (N : Nat) (x : ((Nat → Int) × Unit) × (Unit)) (κ0 : (Nat → Int) → Option R) : Option R := Q_102 (p_110 N) (p_111 N) (l_102_10 N N) (l_102_16 N N) (l_102_5 N N) (l_102_2 N N) x κ0
def EG_102 (q_110 : Tp_110 R) (q_111 : Tp_111 R) : Env R := ((Env.base QQ LN AA).add 110 ap_110 hp_110 (fun (x : aden ap_110 × hden hp_110) k => q_110 x (fun y => k (Pat.inst (.vec (.int .i64) 16) y) (instH hp_110 x.2)))).add 111 ap_111 hp_111 (fun (x : aden ap_111 × hden hp_111) k => q_111 x (fun y => k (Pat.inst (.vec (.int .u64) 16) y) (instH hp_111 x.2)))
def LG_102 (m_102_10 : Tl_102_10 R) (m_102_16 : Tl_102_16 R) (m_102_5 : Tl_102_5 R) (m_102_2 : Tl_102_2 R) : Loops R := ((((Loops.none).add 10 (loopBy 0 lv_102_10 pt_102_10 (fun x k => m_102_10 x (fun y => k (.exit 4) (px_102_10_0.inst y))))).add 16 (loopBy 0 lv_102_16 pt_102_16 (fun x k => m_102_16 x (fun y => k (.exit 6) (px_102_16_0.inst y))))).add 5 (loopBy 0 lv_102_5 pt_102_5 (fun x k => m_102_5 x (fun y => k (.exit 2) (px_102_5_0.inst y))))).add 2 (loopBy 0 lv_102_2 pt_102_2 (fun x k => m_102_2 x (fun y => k (.exit 0) (px_102_2_0.inst y))))
def E_102 (N : Nat) : Env R := EG_102 (p_110 N) (p_111 N)
def L_102 (N : Nat) : Loops R := LG_102 (l_102_10 N N) (l_102_16 N N) (l_102_5 N N) (l_102_2 N N)
theorem gstep_102_10 (q_110 : Tp_110 R) (q_111 : Tp_111 R) (m_102_10 : Tl_102_10 R) (m_102_16 : Tl_102_16 R) (m_102_5 : Tl_102_5 R) (m_102_2 : Tl_102_2 R) (n : Nat) (x : pt_102_10.den) (k : Exit → St → Option R) : iter 0 lv_102_10 lo_102_10 (aexec TT (EG_102 q_110 q_111) (drawAny TT WW) (LG_102 m_102_10 m_102_16 m_102_5 m_102_2) (loopAt 10 (bodyOf Tryz.f102))) (n + 1) (pt_102_10.inst x) k = C_102_10 (fun y => iter 0 lv_102_10 lo_102_10 (aexec TT (EG_102 q_110 q_111) (drawAny TT WW) (LG_102 m_102_10 m_102_16 m_102_5 m_102_2) (loopAt 10 (bodyOf Tryz.f102))) n (pt_102_10.inst y) k) x (fun y => k (.exit 4) (px_102_10_0.inst y)) := by kernel_rfl
theorem rounds_102_10 (N : Nat) : Rounds 0 TT (E_102 (R := R) N) (drawAny TT WW) (L_102 N) 10 (loopAt 10 (bodyOf Tryz.f102)) :=
  rounds_of (p := pt_102_10) (l := fun (x : pt_102_10.den) k => l_102_10 N N x (fun y => k (.exit 4) (px_102_10_0.inst y))) (fun s k => rfl) (fun x k => (iter_eq (K := Exit → St → Option R) (ks := fun k => k) (l := fun n (x : pt_102_10.den) k => l_102_10 N n x (fun y => k (.exit 4) (px_102_10_0.inst y))) (B := fun (rec : pt_102_10.den → Option R) (x : pt_102_10.den) k => B_102_10 N rec x (fun y => k (.exit 4) (px_102_10_0.inst y))) (fun _ _ => rfl) (fun _ _ _ => rfl) (fun n x k => (gstep_102_10 (p_110 N) (p_111 N) (l_102_10 N N) (l_102_16 N N) (l_102_5 N N) (l_102_2 N N) n x k).trans (by kernel_rfl))) N x k)
theorem gstep_102_16 (q_110 : Tp_110 R) (q_111 : Tp_111 R) (m_102_10 : Tl_102_10 R) (m_102_16 : Tl_102_16 R) (m_102_5 : Tl_102_5 R) (m_102_2 : Tl_102_2 R) (n : Nat) (x : pt_102_16.den) (k : Exit → St → Option R) : iter 0 lv_102_16 lo_102_16 (aexec TT (EG_102 q_110 q_111) (drawAny TT WW) (LG_102 m_102_10 m_102_16 m_102_5 m_102_2) (loopAt 16 (bodyOf Tryz.f102))) (n + 1) (pt_102_16.inst x) k = C_102_16 (fun y => iter 0 lv_102_16 lo_102_16 (aexec TT (EG_102 q_110 q_111) (drawAny TT WW) (LG_102 m_102_10 m_102_16 m_102_5 m_102_2) (loopAt 16 (bodyOf Tryz.f102))) n (pt_102_16.inst y) k) x (fun y => k (.exit 6) (px_102_16_0.inst y)) := by kernel_rfl
theorem rounds_102_16 (N : Nat) : Rounds 0 TT (E_102 (R := R) N) (drawAny TT WW) (L_102 N) 16 (loopAt 16 (bodyOf Tryz.f102)) :=
  rounds_of (p := pt_102_16) (l := fun (x : pt_102_16.den) k => l_102_16 N N x (fun y => k (.exit 6) (px_102_16_0.inst y))) (fun s k => rfl) (fun x k => (iter_eq (K := Exit → St → Option R) (ks := fun k => k) (l := fun n (x : pt_102_16.den) k => l_102_16 N n x (fun y => k (.exit 6) (px_102_16_0.inst y))) (B := fun (rec : pt_102_16.den → Option R) (x : pt_102_16.den) k => B_102_16 N rec x (fun y => k (.exit 6) (px_102_16_0.inst y))) (fun _ _ => rfl) (fun _ _ _ => rfl) (fun n x k => (gstep_102_16 (p_110 N) (p_111 N) (l_102_10 N N) (l_102_16 N N) (l_102_5 N N) (l_102_2 N N) n x k).trans (by kernel_rfl))) N x k)
theorem gstep_102_5 (q_110 : Tp_110 R) (q_111 : Tp_111 R) (m_102_10 : Tl_102_10 R) (m_102_16 : Tl_102_16 R) (m_102_5 : Tl_102_5 R) (m_102_2 : Tl_102_2 R) (n : Nat) (x : pt_102_5.den) (k : Exit → St → Option R) : iter 0 lv_102_5 lo_102_5 (aexec TT (EG_102 q_110 q_111) (drawAny TT WW) (LG_102 m_102_10 m_102_16 m_102_5 m_102_2) (loopAt 5 (bodyOf Tryz.f102))) (n + 1) (pt_102_5.inst x) k = C_102_5 q_110 q_111 m_102_10 m_102_16 (fun y => iter 0 lv_102_5 lo_102_5 (aexec TT (EG_102 q_110 q_111) (drawAny TT WW) (LG_102 m_102_10 m_102_16 m_102_5 m_102_2) (loopAt 5 (bodyOf Tryz.f102))) n (pt_102_5.inst y) k) x (fun y => k (.exit 2) (px_102_5_0.inst y)) := by kernel_rfl
theorem rounds_102_5 (N : Nat) : Rounds 0 TT (E_102 (R := R) N) (drawAny TT WW) (L_102 N) 5 (loopAt 5 (bodyOf Tryz.f102)) :=
  rounds_of (p := pt_102_5) (l := fun (x : pt_102_5.den) k => l_102_5 N N x (fun y => k (.exit 2) (px_102_5_0.inst y))) (fun s k => rfl) (fun x k => (iter_eq (K := Exit → St → Option R) (ks := fun k => k) (l := fun n (x : pt_102_5.den) k => l_102_5 N n x (fun y => k (.exit 2) (px_102_5_0.inst y))) (B := fun (rec : pt_102_5.den → Option R) (x : pt_102_5.den) k => B_102_5 N rec x (fun y => k (.exit 2) (px_102_5_0.inst y))) (fun _ _ => rfl) (fun _ _ _ => rfl) (fun n x k => (gstep_102_5 (p_110 N) (p_111 N) (l_102_10 N N) (l_102_16 N N) (l_102_5 N N) (l_102_2 N N) n x k).trans (by kernel_rfl))) N x k)
theorem gstep_102_2 (q_110 : Tp_110 R) (q_111 : Tp_111 R) (m_102_10 : Tl_102_10 R) (m_102_16 : Tl_102_16 R) (m_102_5 : Tl_102_5 R) (m_102_2 : Tl_102_2 R) (n : Nat) (x : pt_102_2.den) (k : Exit → St → Option R) : iter 0 lv_102_2 lo_102_2 (aexec TT (EG_102 q_110 q_111) (drawAny TT WW) (LG_102 m_102_10 m_102_16 m_102_5 m_102_2) (loopAt 2 (bodyOf Tryz.f102))) (n + 1) (pt_102_2.inst x) k = C_102_2 m_102_5 (fun y => iter 0 lv_102_2 lo_102_2 (aexec TT (EG_102 q_110 q_111) (drawAny TT WW) (LG_102 m_102_10 m_102_16 m_102_5 m_102_2) (loopAt 2 (bodyOf Tryz.f102))) n (pt_102_2.inst y) k) x (fun y => k (.exit 0) (px_102_2_0.inst y)) := by kernel_rfl
theorem rounds_102_2 (N : Nat) : Rounds 0 TT (E_102 (R := R) N) (drawAny TT WW) (L_102 N) 2 (loopAt 2 (bodyOf Tryz.f102)) :=
  rounds_of (p := pt_102_2) (l := fun (x : pt_102_2.den) k => l_102_2 N N x (fun y => k (.exit 0) (px_102_2_0.inst y))) (fun s k => rfl) (fun x k => (iter_eq (K := Exit → St → Option R) (ks := fun k => k) (l := fun n (x : pt_102_2.den) k => l_102_2 N n x (fun y => k (.exit 0) (px_102_2_0.inst y))) (B := fun (rec : pt_102_2.den → Option R) (x : pt_102_2.den) k => B_102_2 N rec x (fun y => k (.exit 0) (px_102_2_0.inst y))) (fun _ _ => rfl) (fun _ _ _ => rfl) (fun n x k => (gstep_102_2 (p_110 N) (p_111 N) (l_102_10 N N) (l_102_16 N N) (l_102_5 N N) (l_102_2 N N) n x k).trans (by kernel_rfl))) N x k)
theorem loops_102 : loopsIn (bodyOf Tryz.f102) = [(2, loopAt 2 (bodyOf Tryz.f102)), (5, loopAt 5 (bodyOf Tryz.f102)), (10, loopAt 10 (bodyOf Tryz.f102)), (16, loopAt 16 (bodyOf Tryz.f102))] := by kernel_rfl
theorem grun_102 (q_110 : Tp_110 R) (q_111 : Tp_111 R) (m_102_10 : Tl_102_10 R) (m_102_16 : Tl_102_16 R) (m_102_5 : Tl_102_5 R) (m_102_2 : Tl_102_2 R) (x : aden ap_102 × hden hp_102) (k : KF R) : fnrun TT (EG_102 q_110 q_111) (drawAny TT WW) (LG_102 m_102_10 m_102_16 m_102_5 m_102_2) true Tryz.f102 (instA ap_102 x.1) (instH hp_102 x.2) k = Q_102 q_110 q_111 m_102_10 m_102_16 m_102_5 m_102_2 x (fun y => k (Pat.inst (.vec (.int .u64) 128) y) (instH hp_102 x.2)) := by kernel_rfl
theorem good_102 (N : Nat) : GD (X := R) Tryz.prog QQ AA 102 ap_102 hp_102 (fun (x : aden ap_102 × hden hp_102) k => p_102 N x (fun y => k (Pat.inst (.vec (.int .u64) 128) y) (instH hp_102 x.2))) :=
  gd_quiet (E := E_102 N) (p := fun (x : aden ap_102 × hden hp_102) κ => p_102 N x (fun y => κ (Pat.inst (.vec (.int .u64) 128) y))) mixed tyok (ek_add (ek_add (ek_base _ _ _) (good_110 N)) (good_111 N)) Tryz.func102 (by kernel_rfl) (by kernel_rfl) (loops_all (L := L_102 N) loops_102 (by
  simp only [List.forall_mem_cons, List.not_mem_nil, false_implies, implies_true, and_true]
  exact ⟨rounds_102_2 N, rounds_102_5 N, rounds_102_10 N, rounds_102_16 N⟩)) (fun x k => (grun_102 (p_110 N) (p_111 N) (l_102_10 N N) (l_102_16 N N) (l_102_5 N N) (l_102_2 N N) x k).trans (by kernel_rfl))

def ap_89 : List Pat := [.vec (.int .u64) 128, .vec (.int .u64) 128]
def hp_89 : List (Option (Pat × Nat)) := []
abbrev Tp_89 (R : Type) : Type := Y2 × (Unit) → ((Nat → Int) → Option R) → Option R
def Q_89 (q_88 : Tp_88 R) (q_102 : Tp_102 R) (x : Y2 × (Unit)) (κ0 : (Nat → Int) → Option R) : Option R :=
let i := x.1.1
let g := x.1.2.1
let f : (List (Nat → Int)) := [i, g]
q_88 ((f, ()), ()) (fun c =>
let a : (Nat → Int) := c
q_102 ((a, ()), ()) (fun h =>
let b : (Nat → Int) := h
let j : (List (Nat → Int)) := [a, b]
q_88 ((j, ()), ()) (fun e =>
let d := e
κ0 d)))
def p_89 (N : Nat) (x : Y2 × (Unit)) (κ0 : (Nat → Int) → Option R) : Option R := Q_89 (p_88 N) (p_102 N) x κ0
def EG_89 (q_88 : Tp_88 R) (q_102 : Tp_102 R) : Env R := ((Env.base QQ LN AA).add 88 ap_88 hp_88 (fun (x : aden ap_88 × hden hp_88) k => q_88 x (fun y => k (Pat.inst (.vec (.int .u64) 128) y) (instH hp_88 x.2)))).add 102 ap_102 hp_102 (fun (x : aden ap_102 × hden hp_102) k => q_102 x (fun y => k (Pat.inst (.vec (.int .u64) 128) y) (instH hp_102 x.2)))
def LG_89 : Loops R := Loops.none
def E_89 (N : Nat) : Env R := EG_89 (p_88 N) (p_102 N)
def L_89 (N : Nat) : Loops R := LG_89
theorem grun_89 (q_88 : Tp_88 R) (q_102 : Tp_102 R) (x : aden ap_89 × hden hp_89) (k : KF R) : fnrun TT (EG_89 q_88 q_102) (drawAny TT WW) (LG_89) true Tryz.f89 (instA ap_89 x.1) (instH hp_89 x.2) k = Q_89 q_88 q_102 x (fun y => k (Pat.inst (.vec (.int .u64) 128) y) (instH hp_89 x.2)) := by kernel_rfl
theorem good_89 (N : Nat) : GD (X := R) Tryz.prog QQ AA 89 ap_89 hp_89 (fun (x : aden ap_89 × hden hp_89) k => p_89 N x (fun y => k (Pat.inst (.vec (.int .u64) 128) y) (instH hp_89 x.2))) :=
  gd_quiet (E := E_89 N) (p := fun (x : aden ap_89 × hden hp_89) κ => p_89 N x (fun y => κ (Pat.inst (.vec (.int .u64) 128) y))) mixed tyok (ek_add (ek_add (ek_base _ _ _) (good_88 N)) (good_102 N)) Tryz.func89 (by kernel_rfl) (by kernel_rfl) (loops_nil (L := L_89 N) (by kernel_rfl)) (fun x k => (grun_89 (p_88 N) (p_102 N) x k).trans (by kernel_rfl))

def ap_90 : List Pat := [.node (.fcons (.int .i64) (.fcons (.int .i64) (.fcons (.int .i64) (.fcons (.int .i64) (.fcons (.int .i64) (.fcons (.int .i64) (.fcons (.int .i64) (.fcons (.int .i64) (.fnil))))))))), .node (.fcons (.int .i64) (.fcons (.int .i64) (.fnil))), .int .i64, .int .i64]
def hp_90 : List (Option (Pat × Nat)) := []
abbrev Tp_90 (R : Type) : Type := (Y0 × (Int × (Int × Unit)) × Int × Int × Unit) × (Unit) → ((Nat → Int) → Option R) → Option R
def Q_90 (q_103 : Tp_103 R) (q_89 : Tp_89 R) (x : (Y0 × (Int × (Int × Unit)) × Int × Int × Unit) × (Unit)) (κ0 : (Nat → Int) → Option R) : Option R :=
let j := x.1.2.2.1
let a := x.1.2.2.2.1
let d : (Nat → Int) := (Sch.zero (.arr 128 (.int .u64)))
let c : (Nat → Int) := (Sch.zero (.arr 128 (.int .u64)))
q_103 ((x.1.1, x.1.2.1, j, a, ()), ()) (fun b =>
let g := b
q_89 ((c, g, ()), ()) (fun h =>
let e : (Nat → Int) := h
q_89 ((d, e, ()), ()) (fun i =>
let f : (Nat → Int) := i
κ0 f)))
def p_90 (N : Nat) (x : (Y0 × (Int × (Int × Unit)) × Int × Int × Unit) × (Unit)) (κ0 : (Nat → Int) → Option R) : Option R := Q_90 (p_103 N) (p_89 N) x κ0
def EG_90 (q_103 : Tp_103 R) (q_89 : Tp_89 R) : Env R := ((Env.base QQ LN AA).add 103 ap_103 hp_103 (fun (x : aden ap_103 × hden hp_103) k => q_103 x (fun y => k (Pat.inst (.vec (.int .u64) 128) y) (instH hp_103 x.2)))).add 89 ap_89 hp_89 (fun (x : aden ap_89 × hden hp_89) k => q_89 x (fun y => k (Pat.inst (.vec (.int .u64) 128) y) (instH hp_89 x.2)))
def LG_90 : Loops R := Loops.none
def E_90 (N : Nat) : Env R := EG_90 (p_103 N) (p_89 N)
def L_90 (N : Nat) : Loops R := LG_90
theorem grun_90 (q_103 : Tp_103 R) (q_89 : Tp_89 R) (x : aden ap_90 × hden hp_90) (k : KF R) : fnrun TT (EG_90 q_103 q_89) (drawAny TT WW) (LG_90) true Tryz.f90 (instA ap_90 x.1) (instH hp_90 x.2) k = Q_90 q_103 q_89 x (fun y => k (Pat.inst (.vec (.int .u64) 128) y) (instH hp_90 x.2)) := by kernel_rfl
theorem good_90 (N : Nat) : GD (X := R) Tryz.prog QQ AA 90 ap_90 hp_90 (fun (x : aden ap_90 × hden hp_90) k => p_90 N x (fun y => k (Pat.inst (.vec (.int .u64) 128) y) (instH hp_90 x.2))) :=
  gd_quiet (E := E_90 N) (p := fun (x : aden ap_90 × hden hp_90) κ => p_90 N x (fun y => κ (Pat.inst (.vec (.int .u64) 128) y))) mixed tyok (ek_add (ek_add (ek_base _ _ _) (good_103 N)) (good_89 N)) Tryz.func90 (by kernel_rfl) (by kernel_rfl) (loops_nil (L := L_90 N) (by kernel_rfl)) (fun x k => (grun_90 (p_103 N) (p_89 N) x k).trans (by kernel_rfl))

def ap_69 : List Pat := [.int .u64]
def hp_69 : List (Option (Pat × Nat)) := []
abbrev Tp_69 (R : Type) : Type := (Int × Unit) × (Unit) → ((Int × (Int × Unit)) → Option R) → Option R
def Q_69 (x : (Int × Unit) × (Unit)) (κ0 : (Int × (Int × Unit)) → Option R) : Option R :=
let a := x.1.1
let d : Int := IntKind.wrap .u32 a
let c : Int := shrA .u64 a 32
let b : Int := IntKind.wrap .u32 c
κ0 ((d, (b, ())))
def p_69 (N : Nat) (x : (Int × Unit) × (Unit)) (κ0 : (Int × (Int × Unit)) → Option R) : Option R := Q_69 x κ0
def EG_69 : Env R := Env.base QQ LN AA
def LG_69 : Loops R := Loops.none
def E_69 (N : Nat) : Env R := EG_69
def L_69 (N : Nat) : Loops R := LG_69
theorem grun_69 (x : aden ap_69 × hden hp_69) (k : KF R) : fnrun TT (EG_69) (drawAny TT WW) (LG_69) true Tryz.f69 (instA ap_69 x.1) (instH hp_69 x.2) k = Q_69 x (fun y => k (Pat.inst (.tup (.fcons (.int .u32) (.fcons (.int .u32) (.fnil)))) y) (instH hp_69 x.2)) := by kernel_rfl
theorem good_69 (N : Nat) : GD (X := R) Tryz.prog QQ AA 69 ap_69 hp_69 (fun (x : aden ap_69 × hden hp_69) k => p_69 N x (fun y => k (Pat.inst (.tup (.fcons (.int .u32) (.fcons (.int .u32) (.fnil)))) y) (instH hp_69 x.2))) :=
  gd_quiet (E := E_69 N) (p := fun (x : aden ap_69 × hden hp_69) κ => p_69 N x (fun y => κ (Pat.inst (.tup (.fcons (.int .u32) (.fcons (.int .u32) (.fnil)))) y))) mixed tyok (ek_base _ _ _) Tryz.func69 (by kernel_rfl) (by kernel_rfl) (loops_nil (L := L_69 N) (by kernel_rfl)) (fun x k => (grun_69 x k).trans (by kernel_rfl))

def ap_68 : List Pat := [.ptr 0 [], .int .i64]
def hp_68 : List (Option (Pat × Nat)) := [some (Z3, 113)]
abbrev Tp_68 (R : Type) : Type := (Unit × Int × Unit) × (Y10 × Unit) → (((Int × (Int × Unit)) × (Y10 × Unit)) → Option R) → Option R
def Q_68 (q_90 : Tp_90 R) (q_69 : Tp_69 R) (x : (Unit × Int × Unit) × (Y10 × Unit)) (κ0 : ((Int × (Int × Unit)) × (Y10 × Unit)) → Option R) : Option R :=
let a := x.1.2.1
let e := x.2.1.2.2.1
let o := x.2.1.2.2.2.1
let j := x.2.1.2.2.2.2.1
bif (decide (a < 0)) then (
κ0 ((0, (0, ())), x.2)) else (
let i : Int := quoA .i64 a 128
let d : Int := addA .i64 i 1
bif (d != o) then (
q_90 ((x.2.1.1, x.2.1.2.1, e, d, ()), ()) (fun m =>
let f : (Nat → Int) := m
let c : Int := remA .i64 a 128
bif decide (0 ≤ c) then (
bif decide (c < (128 : Int)) then (
let g : Int := (f ((Int.toNat c)))
q_69 ((g, ()), ()) (fun n =>
κ0 (n, ((x.2.1.1, (x.2.1.2.1, (e, (d, (f, ()))))), ())))) else none) else none)) else (
let b : Int := remA .i64 a 128
bif decide (0 ≤ b) then (
bif decide (b < (128 : Int)) then (
let l : Int := (j ((Int.toNat b)))
q_69 ((l, ()), ()) (fun h =>
κ0 (h, x.2))) else none) else none))
def p_68 (N : Nat) (x : (Unit × Int × Unit) × (Y10 × Unit)) (κ0 : ((Int × (Int × Unit)) × (Y10 × Unit)) → Option R) : Option R := Q_68 (p_90 N) (p_69 N) x κ0
def EG_68 (q_90 : Tp_90 R) (q_69 : Tp_69 R) : Env R := ((Env.base QQ LN AA).add 90 ap_90 hp_90 (fun (x : aden ap_90 × hden hp_90) k => q_90 x (fun y => k (Pat.inst (.vec (.int .u64) 128) y) (instH hp_90 x.2)))).add 69 ap_69 hp_69 (fun (x : aden ap_69 × hden hp_69) k => q_69 x (fun y => k (Pat.inst (.tup (.fcons (.int .u32) (.fcons (.int .u32) (.fnil)))) y) (instH hp_69 x.2)))
def LG_68 : Loops R := Loops.none
def E_68 (N : Nat) : Env R := EG_68 (p_90 N) (p_69 N)
def L_68 (N : Nat) : Loops R := LG_68
theorem grun_68 (q_90 : Tp_90 R) (q_69 : Tp_69 R) (x : aden ap_68 × hden hp_68) (k : KF R) : fnrun TT (EG_68 q_90 q_69) (drawAny TT WW) (LG_68) true Tryz.f68 (instA ap_68 x.1) (instH hp_68 x.2) k = Q_68 q_90 q_69 x (fun y => k (Pat.inst (.tup (.fcons (.int .u32) (.fcons (.int .u32) (.fnil)))) y.1) (instH [some (Z3, 113)] y.2)) := by kernel_rfl
theorem good_68 (N : Nat) : GD (X := R) Tryz.prog QQ AA 68 ap_68 hp_68 (fun (x : aden ap_68 × hden hp_68) k => p_68 N x (fun y => k (Pat.inst (.tup (.fcons (.int .u32) (.fcons (.int .u32) (.fnil)))) y.1) (instH [some (Z3, 113)] y.2))) :=
  gd_loud (E := E_68 N) mixed tyok (ek_add (ek_add (ek_base _ _ _) (good_90 N)) (good_69 N)) Tryz.func68 (by kernel_rfl) (by kernel_rfl) (by kernel_rfl) (by kernel_rfl) (loops_nil (L := L_68 N) (by kernel_rfl)) (fun x k => (grun_68 (p_90 N) (p_69 N) x k).trans (by kernel_rfl))

def ap_48 : List Pat := [.node (.fcons (.int .i64) (.fcons (.int .i64) (.fcons (.int .i64) (.fcons (.int .i64) (.fcons (.int .i64) (.fcons (.int .i64) (.fcons (.int .i64) (.fcons (.int .i64) (.fnil))))))))), .int .i64, .int .i64]
def hp_48 : List (Option (Pat × Nat)) := []
abbrev Tp_48 (R : Type) : Type := (Y0 × Int × Int × Unit) × (Unit) → (Int → Option R) → Option R
def Q_48 (x : (Y0 × Int × Int × Unit) × (Unit)) (κ0 : Int → Option R) : Option R :=
let d := x.1.1.2.2.2.2.2.2.1
let c := x.1.2.1
let a := x.1.2.2.1
let b : Int := mulA .i64 c d
let e : Int := addA .i64 b a
κ0 e
def p_48 (N : Nat) (x : (Y0 × Int × Int × Unit) × (Unit)) (κ0 : Int → Option R) : Option R := Q_48 x κ0
def EG_48 : Env R := Env.base QQ LN AA
def LG_48 : Loops R := Loops.none
def E_48 (N : Nat) : Env R := EG_48
def L_48 (N : Nat) : Loops R := LG_48
theorem grun_48 (x : aden ap_48 × hden hp_48) (k : KF R) : fnrun TT (EG_48) (drawAny TT WW) (LG_48) true Tryz.f48 (instA ap_48 x.1) (instH hp_48 x.2) k = Q_48 x (fun y => k (Pat.inst (.int .i64) y) (instH hp_48 x.2)) := by kernel_rfl
theorem good_48 (N : Nat) : GD (X := R) Tryz.prog QQ AA 48 ap_48 hp_48 (fun (x : aden ap_48 × hden hp_48) k => p_48 N x (fun y => k (Pat.inst (.int .i64) y) (instH hp_48 x.2))) :=
  gd_quiet (E := E_48 N) (p := fun (x : aden ap_48 × hden hp_48) κ => p_48 N x (fun y => κ (Pat.inst (.int .i64) y))) mixed tyok (ek_base _ _ _) Tryz.func48 (by kernel_rfl) (by kernel_rfl) (loops_nil (L := L_48 N) (by kernel_rfl)) (fun x k => (grun_48 x k).trans (by kernel_rfl))

def ap_49 : List Pat := [.node (.fcons (.int .i64) (.fcons (.int .i64) (.fcons (.int .i64) (.fcons (.int .i64) (.fcons (.int .i64) (.fcons (.int .i64) (.fcons (.int .i64) (.fcons (.int .i64) (.fnil))))))))), .int .i64]
def hp_49 : List (Option (Pat × Nat)) := []
abbrev Tp_49 (R : Type) : Type := (Y0 × Int × Unit) × (Unit) → (Int → Option R) → Option R
def Q_49 (x : (Y0 × Int × Unit) × (Unit)) (κ0 : Int → Option R) : Option R :=
let d := x.1.1.2.2.2.2.2.1
let a := x.1.2.1
bif (a == 0) then (
let c : Int := subA .i64 d 1
κ0 c) else (
let b : Int := subA .i64 a 1
κ0 b)
def p_49 (N : Nat) (x : (Y0 × Int × Unit) × (Unit)) (κ0 : Int → Option R) : Option R := Q_49 x κ0
def EG_49 : Env R := Env.base QQ LN AA
def LG_49 : Loops R := Loops.none
def E_49 (N : Nat) : Env R := EG_49
def L_49 (N : Nat) : Loops R := LG_49
theorem grun_49 (x : aden ap_49 × hden hp_49) (k : KF R) : fnrun TT (EG_49) (drawAny TT WW) (LG_49) true Tryz.f49 (instA ap_49 x.1) (instH hp_49 x.2) k = Q_49 x (fun y => k (Pat.inst (.int .i64) y) (instH hp_49 x.2)) := by kernel_rfl
theorem good_49 (N : Nat) : GD (X := R) Tryz.prog QQ AA 49 ap_49 hp_49 (fun (x : aden ap_49 × hden hp_49) k => p_49 N x (fun y => k (Pat.inst (.int .i64) y) (instH hp_49 x.2))) :=
  gd_quiet (E := E_49 N) (p := fun (x : aden ap_49 × hden hp_49) κ => p_49 N x (fun y => κ (Pat.inst (.int .i64) y))) mixed tyok (ek_base _ _ _) Tryz.func49 (by kernel_rfl) (by kernel_rfl) (loops_nil (L := L_49 N) (by kernel_rfl)) (fun x k => (grun_49 x k).trans (by kernel_rfl))

def ap_80 : List Pat := [.node (.fcons (.int .i64) (.fcons (.int .i64) (.fcons (.int .i64) (.fcons (.int .i64) (.fcons (.int .i64) (.fcons (.int .i64) (.fcons (.int .i64) (.fcons (.int .i64) (.fnil))))))))), .int .i64, .int .i64]
def hp_80 : List (Option (Pat × Nat)) := []
abbrev Tp_80 (R : Type) : Type := (Y0 × Int × Int × Unit) × (Unit) → (Int → Option R) → Option R
def Q_80 (x : (Y0 × Int × Int × Unit) × (Unit)) (κ0 : Int → Option R) : Option R :=
let d := x.1.1.2.2.2.2.2.1
let e := x.1.2.1
let b := x.1.2.2.1
let c : Int := mulA .i64 e d
let a : Int := addA .i64 c b
κ0 a
def p_80 (N : Nat) (x : (Y0 × Int × Int × Unit) × (Unit)) (κ0 : Int → Option R) : Option R := Q_80 x κ0
def EG_80 : Env R := Env.base QQ LN AA
def LG_80 : Loops R := Loops.none
def E_80 (N : Nat) : Env R := EG_80
def L_80 (N : Nat) : Loops R := LG_80
theorem grun_80 (x : aden ap_80 × hden hp_80) (k : KF R) : fnrun TT (EG_80) (drawAny TT WW) (LG_80) true Tryz.f80 (instA ap_80 x.1) (instH hp_80 x.2) k = Q_80 x (fun y => k (Pat.inst (.int .i64) y) (instH hp_80 x.2)) := by kernel_rfl
theorem good_80 (N : Nat) : GD (X := R) Tryz.prog QQ AA 80 ap_80 hp_80 (fun (x : aden ap_80 × hden hp_80) k => p_80 N x (fun y => k (Pat.inst (.int .i64) y) (instH hp_80 x.2))) :=
  gd_quiet (E := E_80 N) (p := fun (x : aden ap_80 × hden hp_80) κ => p_80 N x (fun y => κ (Pat.inst (.int .i64) y))) mixed tyok (ek_base _ _ _) Tryz.func80 (by kernel_rfl) (by kernel_rfl) (loops_nil (L := L_80 N) (by kernel_rfl)) (fun x k => (grun_80 x k).trans (by kernel_rfl))

def ap_55 : List Pat := [.ptr 0 [], .node (.fcons (.int .i64) (.fcons (.int .i64) (.fnil)))]
def hp_55 : List (Option (Pat × Nat)) := J0
abbrev Tp_55 (R : Type) : Type := (Unit × (Int × (Int × Unit)) × Unit) × Y1 → (Int → Option R) → Option R
def Q_55 (q_80 : Tp_80 R) (x : (Unit × (Int × (Int × Unit)) × Unit) × Y1) (κ0 : Int → Option R) : Option R :=
let a := x.1.2.1.1
let b := x.1.2.1.2.1
let e := x.2.1.2.1.2.2.1
let c := x.2.1.2.1.2.2.2.2.2.1
bif (decide (a < 0)) then (
κ0 ((-1))) else (
bif (decide (a ≥ e)) then (
κ0 ((-1))) else (
bif (decide (b < 0)) then (
κ0 ((-1))) else (
bif (decide (b ≥ c)) then (
κ0 ((-1))) else (
q_80 ((x.2.1.2.1, a, b, ()), ()) (fun d =>
let f : Int := d
κ0 f)))))
def p_55 (N : Nat) (x : (Unit × (Int × (Int × Unit)) × Unit) × Y1) (κ0 : Int → Option R) : Option R := Q_55 (p_80 N) x κ0
def EG_55 (q_80 : Tp_80 R) : Env R := (Env.base QQ LN AA).add 80 ap_80 hp_80 (fun (x : aden ap_80 × hden hp_80) k => q_80 x (fun y => k (Pat.inst (.int .i64) y) (instH hp_80 x.2)))
def LG_55 : Loops R := Loops.none
def E_55 (N : Nat) : Env R := EG_55 (p_80 N)
def L_55 (N : Nat) : Loops R := LG_55
theorem grun_55 (q_80 : Tp_80 R) (x : aden ap_55 × hden hp_55) (k : KF R) : fnrun TT (EG_55 q_80) (drawAny TT WW) (LG_55) true Tryz.f55 (instA ap_55 x.1) (instH hp_55 x.2) k = Q_55 q_80 x (fun y => k (Pat.inst (.int .i64) y) (instH hp_55 x.2)) := by kernel_rfl
theorem good_55 (N : Nat) : GD (X := R) Tryz.prog QQ AA 55 ap_55 hp_55 (fun (x : aden ap_55 × hden hp_55) k => p_55 N x (fun y => k (Pat.inst (.int .i64) y) (instH hp_55 x.2))) :=
  gd_quiet (E := E_55 N) (p := fun (x : aden ap_55 × hden hp_55) κ => p_55 N x (fun y => κ (Pat.inst (.int .i64) y))) mixed tyok (ek_add (ek_base _ _ _) (good_80 N)) Tryz.func55 (by kernel_rfl) (by kernel_rfl) (loops_nil (L := L_55 N) (by kernel_rfl)) (fun x k => (grun_55 (p_80 N) x k).trans (by kernel_rfl))

def ap_65 : List Pat := [.ptr 0 [], .int .i64]
def hp_65 : List (Option (Pat × Nat)) := J5
abbrev Tp_65 (R : Type) : Type := (Unit × Int × Unit) × (Y6 × Y4 × (List (Nat → Int)) × Unit) → (((Nat → Int) × (Int × Unit)) → Option R) → Option R
def Q_65 (x : (Unit × Int × Unit) × (Y6 × Y4 × (List (Nat → Int)) × Unit)) (κ0 : ((Nat → Int) × (Int × Unit)) → Option R) : Option R :=
let a := x.1.2.1
let d := x.2.1.2.2.1
let b := x.2.2.2.1
bif (decide (a < 0)) then (
let c : (Nat → Int) := (Sch.zero (.arr 128 (.int .u64)))
κ0 ((c, (11, ())))) else (
let h : Int := (((List.length b) : Nat) : Int)
bif (decide (a ≥ h)) then (
let f : (Nat → Int) := (Sch.zero (.arr 128 (.int .u64)))
κ0 ((f, (11, ())))) else (
bif (!d) then (
let e : (Nat → Int) := (Sch.zero (.arr 128 (.int .u64)))
κ0 ((e, (12, ())))) else (
bif decide (0 ≤ a) then (
bif decide (a < ((List.length b) : Int)) then (
let g : (Nat → Int) := (List.getD b ((Int.toNat a)) (Sch.zero (.arr 128 (.int .u64))))
κ0 ((g, (0, ())))) else none) else none)))
def p_65 (N : Nat) (x : (Unit × Int × Unit) × (Y6 × Y4 × (List (Nat → Int)) × Unit)) (κ0 : ((Nat → Int) × (Int × Unit)) → Option R) : Option R := Q_65 x κ0
def EG_65 : Env R := Env.base QQ LN AA
def LG_65 : Loops R := Loops.none
def E_65 (N : Nat) : Env R := EG_65
def L_65 (N : Nat) : Loops R := LG_65
theorem grun_65 (x : aden ap_65 × hden hp_65) (k : KF R) : fnrun TT (EG_65) (drawAny TT WW) (LG_65) true Tryz.f65 (instA ap_65 x.1) (instH hp_65 x.2) k = Q_65 x (fun y => k (Pat.inst (.tup (.fcons (.vec (.int .u64) 128) (.fcons (.int .i64) (.fnil)))) y) (instH hp_65 x.2)) := by kernel_rfl
theorem good_65 (N : Nat) : GD (X := R) Tryz.prog QQ AA 65 ap_65 hp_65 (fun (x : aden ap_65 × hden hp_65) k => p_65 N x (fun y => k (Pat.inst (.tup (.fcons (.vec (.int .u64) 128) (.fcons (.int .i64) (.fnil)))) y) (instH hp_65 x.2))) :=
  gd_quiet (E := E_65 N) (p := fun (x : aden ap_65 × hden hp_65) κ => p_65 N x (fun y => κ (Pat.inst (.tup (.fcons (.vec (.int .u64) 128) (.fcons (.int .i64) (.fnil)))) y))) mixed tyok (ek_base _ _ _) Tryz.func65 (by kernel_rfl) (by kernel_rfl) (loops_nil (L := L_65 N) (by kernel_rfl)) (fun x k => (grun_65 x k).trans (by kernel_rfl))

def ap_43 : List Pat := [.ptr 0 [], .node (.fcons (.int .i64) (.fcons (.int .i64) (.fnil)))]
def hp_43 : List (Option (Pat × Nat)) := J0
abbrev Tp_43 (R : Type) : Type := (Unit × (Int × (Int × Unit)) × Unit) × Y1 → (((Nat → Int) × (Int × Unit)) → Option R) → Option R
def Q_43 (q_55 : Tp_55 R) (q_65 : Tp_65 R) (x : (Unit × (Int × (Int × Unit)) × Unit) × Y1) (κ0 : ((Nat → Int) × (Int × Unit)) → Option R) : Option R :=
let b := x.2.2.2.2.1
q_55 (((), x.1.2.1, ()), (x.2.1, x.2.2.1, x.2.2.2.1, b, ())) (fun d =>
let a := d
bif (decide (a < 0)) then (
let e : (Nat → Int) := (Sch.zero (.arr 128 (.int .u64)))
κ0 ((e, (11, ())))) else (
q_65 (((), a, ()), (x.2.2.1, x.2.2.2.1, b, ())) (fun c =>
κ0 (c))))
def p_43 (N : Nat) (x : (Unit × (Int × (Int × Unit)) × Unit) × Y1) (κ0 : ((Nat → Int) × (Int × Unit)) → Option R) : Option R := Q_43 (p_55 N) (p_65 N) x κ0
def EG_43 (q_55 : Tp_55 R) (q_65 : Tp_65 R) : Env R := ((Env.base QQ LN AA).add 55 ap_55 hp_55 (fun (x : aden ap_55 × hden hp_55) k => q_55 x (fun y => k (Pat.inst (.int .i64) y) (instH hp_55 x.2)))).add 65 ap_65 hp_65 (fun (x : aden ap_65 × hden hp_65) k => q_65 x (fun y => k (Pat.inst (.tup (.fcons (.vec (.int .u64) 128) (.fcons (.int .i64) (.fnil)))) y) (instH hp_65 x.2)))
def LG_43 : Loops R := Loops.none
def E_43 (N : Nat) : Env R := EG_43 (p_55 N) (p_65 N)
def L_43 (N : Nat) : Loops R := LG_43
theorem grun_43 (q_55 : Tp_55 R) (q_65 : Tp_65 R) (x : aden ap_43 × hden hp_43) (k : KF R) : fnrun TT (EG_43 q_55 q_65) (drawAny TT WW) (LG_43) true Tryz.f43 (instA ap_43 x.1) (instH hp_43 x.2) k = Q_43 q_55 q_65 x (fun y => k (Pat.inst (.tup (.fcons (.vec (.int .u64) 128) (.fcons (.int .i64) (.fnil)))) y) (instH hp_43 x.2)) := by kernel_rfl
theorem good_43 (N : Nat) : GD (X := R) Tryz.prog QQ AA 43 ap_43 hp_43 (fun (x : aden ap_43 × hden hp_43) k => p_43 N x (fun y => k (Pat.inst (.tup (.fcons (.vec (.int .u64) 128) (.fcons (.int .i64) (.fnil)))) y) (instH hp_43 x.2))) :=
  gd_quiet (E := E_43 N) (p := fun (x : aden ap_43 × hden hp_43) κ => p_43 N x (fun y => κ (Pat.inst (.tup (.fcons (.vec (.int .u64) 128) (.fcons (.int .i64) (.fnil)))) y))) mixed tyok (ek_add (ek_add (ek_base _ _ _) (good_55 N)) (good_65 N)) Tryz.func43 (by kernel_rfl) (by kernel_rfl) (loops_nil (L := L_43 N) (by kernel_rfl)) (fun x k => (grun_43 (p_55 N) (p_65 N) x k).trans (by kernel_rfl))

def ap_46 : List Pat := [.ptr 0 [], .node (.fcons (.int .i64) (.fcons (.int .i64) (.fnil))), .int .i64, .int .i64, .ptr 4 []]
def hp_46 : List (Option (Pat × Nat)) := J2
abbrev Tp_46 (R : Type) : Type := (Unit × (Int × (Int × Unit)) × Int × Int × Unit × Unit) × Y25 → (((Int × (Int × (Int × Unit))) × Y25) → Option R) → Option R
def Q_46 (q_67 : Tp_67 R) (q_68 : Tp_68 R) (q_48 : Tp_48 R) (q_49 : Tp_49 R) (q_43 : Tp_43 R) (q_69 : Tp_69 R) (x : (Unit × (Int × (Int × Unit)) × Int × Int × Unit × Unit) × Y25) (κ0 : ((Int × (Int × (Int × Unit))) × Y25) → Option R) : Option R :=
let r := x.1.2.1.2.1
let i := x.1.2.2.1
let e := x.1.2.2.2.1
let a := x.2.2.2.2.1
q_67 ((x.2.1.2.1, x.1.2.1, ()), ()) (fun j =>
let o : Bool := j
bif o then (
q_68 (((), e, ()), x.2.2.2.2.2) (fun c =>
let p := c.1.1
let l := c.1.2.1
κ0 ((p, (l, (0, ()))), (x.2.1, x.2.2.1, x.2.2.2.1, a, c.2.1, ())))) else (
q_48 ((x.2.1.2.1, r, e, ()), ()) (fun t =>
let n := t
q_49 ((x.2.1.2.1, n, ()), ()) (fun h =>
let m : Int := h
q_43 (((), (i, (m, ())), ()), (x.2.1, x.2.2.1, x.2.2.2.1, a, ())) (fun b =>
let u := b.1
let f := b.2.1
bif (f != 0) then (
κ0 ((0, (0, b.2)), (x.2.1, x.2.2.1, x.2.2.2.1, a, x.2.2.2.2.2.1, ()))) else (
let s : Int := (u 0)
q_69 ((s, ()), ()) (fun d =>
let g := d.1
let v := d.2.1
κ0 ((g, (v, (0, ()))), (x.2.1, x.2.2.1, x.2.2.2.1, a, x.2.2.2.2.2.1, ())))))))))
def p_46 (N : Nat) (x : (Unit × (Int × (Int × Unit)) × Int × Int × Unit × Unit) × Y25) (κ0 : ((Int × (Int × (Int × Unit))) × Y25) → Option R) : Option R := Q_46 (p_67 N) (p_68 N) (p_48 N) (p_49 N) (p_43 N) (p_69 N) x κ0
def EG_46 (q_67 : Tp_67 R) (q_68 : Tp_68 R) (q_48 : Tp_48 R) (q_49 : Tp_49 R) (q_43 : Tp_43 R) (q_69 : Tp_69 R) : Env R := ((((((Env.base QQ LN AA).add 67 ap_67 hp_67 (fun (x : aden ap_67 × hden hp_67) k => q_67 x (fun y => k (Pat.inst (.bool) y) (instH hp_67 x.2)))).add 68 ap_68 hp_68 (fun (x : aden ap_68 × hden hp_68) k => q_68 x (fun y => k (Pat.inst (.tup (.fcons (.int .u32) (.fcons (.int .u32) (.fnil)))) y.1) (instH [some (Z3, 113)] y.2)))).add 48 ap_48 hp_48 (fun (x : aden ap_48 × hden hp_48) k => q_48 x (fun y => k (Pat.inst (.int .i64) y) (instH hp_48 x.2)))).add 49 ap_49 hp_49 (fun (x : aden ap_49 × hden hp_49) k => q_49 x (fun y => k (Pat.inst (.int .i64) y) (instH hp_49 x.2)))).add 43 ap_43 hp_43 (fun (x : aden ap_43 × hden hp_43) k => q_43 x (fun y => k (Pat.inst (.tup (.fcons (.vec (.int .u64) 128) (.fcons (.int .i64) (.fnil)))) y) (instH hp_43 x.2)))).add 69 ap_69 hp_69 (fun (x : aden ap_69 × hden hp_69) k => q_69 x (fun y => k (Pat.inst (.tup (.fcons (.int .u32) (.fcons (.int .u32) (.fnil)))) y) (instH hp_69 x.2)))
def LG_46 : Loops R := Loops.none
def E_46 (N : Nat) : Env R := EG_46 (p_67 N) (p_68 N) (p_48 N) (p_49 N) (p_43 N) (p_69 N)
def L_46 (N : Nat) : Loops R := LG_46
theorem grun_46 (q_67 : Tp_67 R) (q_68 : Tp_68 R) (q_48 : Tp_48 R) (q_49 : Tp_49 R) (q_43 : Tp_43 R) (q_69 : Tp_69 R) (x : aden ap_46 × hden hp_46) (k : KF R) : fnrun TT (EG_46 q_67 q_68 q_48 q_49 q_43 q_69) (drawAny TT WW) (LG_46) true Tryz.f46 (instA ap_46 x.1) (instH hp_46 x.2) k = Q_46 q_67 q_68 q_48 q_49 q_43 q_69 x (fun y => k (Pat.inst (.tup (.fcons (.int .u32) (.fcons (.int .u32) (.fcons (.int .i64) (.fnil))))) y.1) (instH J2 y.2)) := by kernel_rfl
theorem good_46 (N : Nat) : GD (X := R) Tryz.prog QQ AA 46 ap_46 hp_46 (fun (x : aden ap_46 × hden hp_46) k => p_46 N x (fun y => k (Pat.inst (.tup (.fcons (.int .u32) (.fcons (.int .u32) (.fcons (.int .i64) (.fnil))))) y.1) (instH J2 y.2))) :=
  gd_loud (E := E_46 N) mixed tyok (ek_add (ek_add (ek_add (ek_add (ek_add (ek_add (ek_base _ _ _) (good_67 N)) (good_68 N)) (good_48 N)) (good_49 N)) (good_43 N)) (good_69 N)) Tryz.func46 (by kernel_rfl) (by kernel_rfl) (by kernel_rfl) (by kernel_rfl) (loops_nil (L := L_46 N) (by kernel_rfl)) (fun x k => (grun_46 (p_67 N) (p_68 N) (p_48 N) (p_49 N) (p_43 N) (p_69 N) x k).trans (by kernel_rfl))

def ap_70 : List Pat := [.node (.fcons (.int .i64) (.fcons (.int .i64) (.fcons (.int .i64) (.fcons (.int .i64) (.fcons (.int .i64) (.fcons (.int .i64) (.fcons (.int .i64) (.fcons (.int .i64) (.fnil))))))))), .node (.fcons (.int .i64) (.fcons (.int .i64) (.fnil)))]
def hp_70 : List (Option (Pat × Nat)) := []
abbrev Tp_70 (R : Type) : Type := (Y0 × (Int × (Int × Unit)) × Unit) × (Unit) → (Bool → Option R) → Option R
def Q_70 (q_50 : Tp_50 R) (x : (Y0 × (Int × (Int × Unit)) × Unit) × (Unit)) (κ0 : Bool → Option R) : Option R :=
let b := x.1.1.2.1
let d := x.1.2.1.1
let a := x.1.2.1.2.1
let f : Int := subA .i64 b 1
q_50 ((d, 0, f, ()), ()) (fun e =>
let h : Bool := e
bif h then (
q_50 ((a, 0, 3, ()), ()) (fun g =>
let c : Bool := g
κ0 c)) else (
κ0 false))
def p_70 (N : Nat) (x : (Y0 × (Int × (Int × Unit)) × Unit) × (Unit)) (κ0 : Bool → Option R) : Option R := Q_70 (p_50 N) x κ0
def EG_70 (q_50 : Tp_50 R) : Env R := (Env.base QQ LN AA).add 50 ap_50 hp_50 (fun (x : aden ap_50 × hden hp_50) k => q_50 x (fun y => k (Pat.inst (.bool) y) (instH hp_50 x.2)))
def LG_70 : Loops R := Loops.none
def E_70 (N : Nat) : Env R := EG_70 (p_50 N)
def L_70 (N : Nat) : Loops R := LG_70
theorem grun_70 (q_50 : Tp_50 R) (x : aden ap_70 × hden hp_70) (k : KF R) : fnrun TT (EG_70 q_50) (drawAny TT WW) (LG_70) true Tryz.f70 (instA ap_70 x.1) (instH hp_70 x.2) k = Q_70 q_50 x (fun y => k (Pat.inst (.bool) y) (instH hp_70 x.2)) := by kernel_rfl
theorem good_70 (N : Nat) : GD (X := R) Tryz.prog QQ AA 70 ap_70 hp_70 (fun (x : aden ap_70 × hden hp_70) k => p_70 N x (fun y => k (Pat.inst (.bool) y) (instH hp_70 x.2))) :=
  gd_quiet (E := E_70 N) (p := fun (x : aden ap_70 × hden hp_70) κ => p_70 N x (fun y => κ (Pat.inst (.bool) y))) mixed tyok (ek_add (ek_base _ _ _) (good_50 N)) Tryz.func70 (by kernel_rfl) (by kernel_rfl) (loops_nil (L := L_70 N) (by kernel_rfl)) (fun x k => (grun_70 (p_50 N) x k).trans (by kernel_rfl))

def ap_64 : List Pat := [.node (.fcons (.int .i64) (.fcons (.int .i64) (.fcons (.int .i64) (.fcons (.int .i64) (.fcons (.int .i64) (.fcons (.int .i64) (.fcons (.int .i64) (.fcons (.int .i64) (.fnil))))))))), .int .i64, .int .i64]
def hp_64 : List (Option (Pat × Nat)) := []
abbrev Tp_64 (R : Type) : Type := (Y0 × Int × Int × Unit) × (Unit) → (Int → Option R) → Option R
def Q_64 (x : (Y0 × Int × Int × Unit) × (Unit)) (κ0 : Int → Option R) : Option R :=
let b := x.1.2.1
let a := x.1.2.2.1
bif (b == 0) then (
bif (a == 0) then (
κ0 2) else (
κ0 0)) else (
κ0 0)
def p_64 (N : Nat) (x : (Y0 × Int × Int × Unit) × (Unit)) (κ0 : Int → Option R) : Option R := Q_64 x κ0
def EG_64 : Env R := Env.base QQ LN AA
def LG_64 : Loops R := Loops.none
def E_64 (N : Nat) : Env R := EG_64
def L_64 (N : Nat) : Loops R := LG_64
theorem grun_64 (x : aden ap_64 × hden hp_64) (k : KF R) : fnrun TT (EG_64) (drawAny TT WW) (LG_64) true Tryz.f64 (instA ap_64 x.1) (instH hp_64 x.2) k = Q_64 x (fun y => k (Pat.inst (.int .i64) y) (instH hp_64 x.2)) := by kernel_rfl
theorem good_64 (N : Nat) : GD (X := R) Tryz.prog QQ AA 64 ap_64 hp_64 (fun (x : aden ap_64 × hden hp_64) k => p_64 N x (fun y => k (Pat.inst (.int .i64) y) (instH hp_64 x.2))) :=
  gd_quiet (E := E_64 N) (p := fun (x : aden ap_64 × hden hp_64) κ => p_64 N x (fun y => κ (Pat.inst (.int .i64) y))) mixed tyok (ek_base _ _ _) Tryz.func64 (by kernel_rfl) (by kernel_rfl) (loops_nil (L := L_64 N) (by kernel_rfl)) (fun x k => (grun_64 x k).trans (by kernel_rfl))

def ap_71 : List Pat := [.node (.fcons (.int .i64) (.fcons (.int .i64) (.fcons (.int .i64) (.fcons (.int .i64) (.fcons (.int .i64) (.fcons (.int .i64) (.fcons (.int .i64) (.fcons (.int .i64) (.fnil))))))))), .node (.fcons (.int .i64) (.fcons (.int .i64) (.fnil))), .int .i64, .int .u32]
def hp_71 : List (Option (Pat × Nat)) := []
abbrev Tp_71 (R : Type) : Type := (Y0 × (Int × (Int × Unit)) × Int × Int × Unit) × (Unit) → (Int → Option R) → Option R
def Q_71 (x : (Y0 × (Int × (Int × Unit)) × Int × Int × Unit) × (Unit)) (κ0 : Int → Option R) : Option R :=
let c := x.1.1.2.2.1
let f := x.1.2.1.1
let e := x.1.2.1.2.1
let h := x.1.2.2.1
let a := x.1.2.2.2.1
bif (f == 0) then (
bif (e == 0) then (
κ0 h) else (
let l : Int := IntKind.wrap .u64 a
let b : Int := IntKind.wrap .u64 c
bif decide (b = 0) then none else (
let g : Int := remA .u64 l b
let j : Int := IntKind.wrap .i64 g
κ0 j))) else (
let m : Int := IntKind.wrap .u64 a
let d : Int := IntKind.wrap .u64 c
bif decide (d = 0) then none else (
let i : Int := remA .u64 m d
let n : Int := IntKind.wrap .i64 i
κ0 n))
def p_71 (N : Nat) (x : (Y0 × (Int × (Int × Unit)) × Int × Int × Unit) × (Unit)) (κ0 : Int → Option R) : Option R := Q_71 x κ0
def EG_71 : Env R := Env.base QQ LN AA
def LG_71 : Loops R := Loops.none
def E_71 (N : Nat) : Env R := EG_71
def L_71 (N : Nat) : Loops R := LG_71
theorem grun_71 (x : aden ap_71 × hden hp_71) (k : KF R) : fnrun TT (EG_71) (drawAny TT WW) (LG_71) true Tryz.f71 (instA ap_71 x.1) (instH hp_71 x.2) k = Q_71 x (fun y => k (Pat.inst (.int .i64) y) (instH hp_71 x.2)) := by kernel_rfl
theorem good_71 (N : Nat) : GD (X := R) Tryz.prog QQ AA 71 ap_71 hp_71 (fun (x : aden ap_71 × hden hp_71) k => p_71 N x (fun y => k (Pat.inst (.int .i64) y) (instH hp_71 x.2))) :=
  gd_quiet (E := E_71 N) (p := fun (x : aden ap_71 × hden hp_71) κ => p_71 N x (fun y => κ (Pat.inst (.int .i64) y))) mixed tyok (ek_base _ _ _) Tryz.func71 (by kernel_rfl) (by kernel_rfl) (loops_nil (L := L_71 N) (by kernel_rfl)) (fun x k => (grun_71 x k).trans (by kernel_rfl))

def ap_72 : List Pat := [.node (.fcons (.int .i64) (.fcons (.int .i64) (.fcons (.int .i64) (.fcons (.int .i64) (.fcons (.int .i64) (.fcons (.int .i64) (.fcons (.int .i64) (.fcons (.int .i64) (.fnil))))))))), .node (.fcons (.int .i64) (.fcons (.int .i64) (.fnil))), .int .i64, .bool]
def hp_72 : List (Option (Pat × Nat)) := []
abbrev Tp_72 (R : Type) : Type := (Y0 × (Int × (Int × Unit)) × Int × Bool × Unit) × (Unit) → (Int → Option R) → Option R
def Q_72 (x : (Y0 × (Int × (Int × Unit)) × Int × Bool × Unit) × (Unit)) (κ0 : Int → Option R) : Option R :=
let o := x.1.1.2.2.2.2.2.1
let d := x.1.1.2.2.2.2.2.2.1
let h := x.1.2.1.1
let i := x.1.2.1.2.1
let a := x.1.2.2.1
let e := x.1.2.2.2.1
let b : Int := mulA .i64 i d
bif (decide (h > 0)) then (
let c : Int := subA .i64 o d
bif e then (
let n : Int := addA .i64 c a
let f : Int := subA .i64 n 1
κ0 f) else (
bif (a == 0) then (
let g : Int := subA .i64 c 1
κ0 g) else (
κ0 c))) else (
bif e then (
let m : Int := addA .i64 b a
let l : Int := subA .i64 m 1
κ0 l) else (
bif (a == 0) then (
let j : Int := subA .i64 b 1
κ0 j) else (
κ0 b)))
def p_72 (N : Nat) (x : (Y0 × (Int × (Int × Unit)) × Int × Bool × Unit) × (Unit)) (κ0 : Int → Option R) : Option R := Q_72 x κ0
def EG_72 : Env R := Env.base QQ LN AA
def LG_72 : Loops R := Loops.none
def E_72 (N : Nat) : Env R := EG_72
def L_72 (N : Nat) : Loops R := LG_72
theorem grun_72 (x : aden ap_72 × hden hp_72) (k : KF R) : fnrun TT (EG_72) (drawAny TT WW) (LG_72) true Tryz.f72 (instA ap_72 x.1) (instH hp_72 x.2) k = Q_72 x (fun y => k (Pat.inst (.int .i64) y) (instH hp_72 x.2)) := by kernel_rfl
theorem good_72 (N : Nat) : GD (X := R) Tryz.prog QQ AA 72 ap_72 hp_72 (fun (x : aden ap_72 × hden hp_72) k => p_72 N x (fun y => k (Pat.inst (.int .i64) y) (instH hp_72 x.2))) :=
  gd_quiet (E := E_72 N) (p := fun (x : aden ap_72 × hden hp_72) κ => p_72 N x (fun y => κ (Pat.inst (.int .i64) y))) mixed tyok (ek_base _ _ _) Tryz.func72 (by kernel_rfl) (by kernel_rfl) (loops_nil (L := L_72 N) (by kernel_rfl)) (fun x k => (grun_72 x k).trans (by kernel_rfl))

def ap_73 : List Pat := [.node (.fcons (.int .i64) (.fcons (.int .i64) (.fcons (.int .i64) (.fcons (.int .i64) (.fcons (.int .i64) (.fcons (.int .i64) (.fcons (.int .i64) (.fcons (.int .i64) (.fnil))))))))), .node (.fcons (.int .i64) (.fcons (.int .i64) (.fnil)))]
def hp_73 : List (Option (Pat × Nat)) := []
abbrev Tp_73 (R : Type) : Type := (Y0 × (Int × (Int × Unit)) × Unit) × (Unit) → (Int → Option R) → Option R
def Q_73 (x : (Y0 × (Int × (Int × Unit)) × Unit) × (Unit)) (κ0 : Int → Option R) : Option R :=
let b := x.1.1.2.2.2.2.2.2.1
let e := x.1.2.1.1
let a := x.1.2.1.2.1
bif (e == 0) then (
κ0 0) else (
bif (a == 3) then (
κ0 0) else (
let d : Int := addA .i64 a 1
let c : Int := mulA .i64 d b
κ0 c))
def p_73 (N : Nat) (x : (Y0 × (Int × (Int × Unit)) × Unit) × (Unit)) (κ0 : Int → Option R) : Option R := Q_73 x κ0
def EG_73 : Env R := Env.base QQ LN AA
def LG_73 : Loops R := Loops.none
def E_73 (N : Nat) : Env R := EG_73
def L_73 (N : Nat) : Loops R := LG_73
theorem grun_73 (x : aden ap_73 × hden hp_73) (k : KF R) : fnrun TT (EG_73) (drawAny TT WW) (LG_73) true Tryz.f73 (instA ap_73 x.1) (instH hp_73 x.2) k = Q_73 x (fun y => k (Pat.inst (.int .i64) y) (instH hp_73 x.2)) := by kernel_rfl
theorem good_73 (N : Nat) : GD (X := R) Tryz.prog QQ AA 73 ap_73 hp_73 (fun (x : aden ap_73 × hden hp_73) k => p_73 N x (fun y => k (Pat.inst (.int .i64) y) (instH hp_73 x.2))) :=
  gd_quiet (E := E_73 N) (p := fun (x : aden ap_73 × hden hp_73) κ => p_73 N x (fun y => κ (Pat.inst (.int .i64) y))) mixed tyok (ek_base _ _ _) Tryz.func73 (by kernel_rfl) (by kernel_rfl) (loops_nil (L := L_73 N) (by kernel_rfl)) (fun x k => (grun_73 x k).trans (by kernel_rfl))

def ap_91 : List Pat := [.int .u64, .int .u64]
def hp_91 : List (Option (Pat × Nat)) := []
abbrev Tp_91 (R : Type) : Type := (Int × Int × Unit) × (Unit) → ((Int × (Int × Unit)) → Option R) → Option R
def Q_91 (x : (Int × Int × Unit) × (Unit)) (κ0 : (Int × (Int × Unit)) → Option R) : Option R :=
let a := x.1.1
let b := x.1.2.1
let d : Int := andA .u64 a 4294967295
let e : Int := shrA .u64 a 32
let g : Int := andA .u64 b 4294967295
let f : Int := shrA .u64 b 32
let r : Int := mulA .u64 d g
let l : Int := mulA .u64 e g
let u : Int := shrA .u64 r 32
let c : Int := addA .u64 l u
let t : Int := andA .u64 c 4294967295
let m : Int := shrA .u64 c 32
let p : Int := mulA .u64 d f
let n : Int := addA .u64 t p
let i : Int := mulA .u64 e f
let j : Int := addA .u64 i m
let h : Int := shrA .u64 n 32
let o : Int := addA .u64 j h
let s : Int := mulA .u64 a b
κ0 ((o, (s, ())))
def p_91 (N : Nat) (x : (Int × Int × Unit) × (Unit)) (κ0 : (Int × (Int × Unit)) → Option R) : Option R := Q_91 x κ0
def EG_91 : Env R := Env.base QQ LN AA
def LG_91 : Loops R := Loops.none
def E_91 (N : Nat) : Env R := EG_91
def L_91 (N : Nat) : Loops R := LG_91
theorem grun_91 (x : aden ap_91 × hden hp_91) (k : KF R) : fnrun TT (EG_91) (drawAny TT WW) (LG_91) true Tryz.f91 (instA ap_91 x.1) (instH hp_91 x.2) k = Q_91 x (fun y => k (Pat.inst (.tup (.fcons (.int .u64) (.fcons (.int .u64) (.fnil)))) y) (instH hp_91 x.2)) := by kernel_rfl
theorem good_91 (N : Nat) : GD (X := R) Tryz.prog QQ AA 91 ap_91 hp_91 (fun (x : aden ap_91 × hden hp_91) k => p_91 N x (fun y => k (Pat.inst (.tup (.fcons (.int .u64) (.fcons (.int .u64) (.fnil)))) y) (instH hp_91 x.2))) :=
  gd_quiet (E := E_91 N) (p := fun (x : aden ap_91 × hden hp_91) κ => p_91 N x (fun y => κ (Pat.inst (.tup (.fcons (.int .u64) (.fcons (.int .u64) (.fnil)))) y))) mixed tyok (ek_base _ _ _) Tryz.func91 (by kernel_rfl) (by kernel_rfl) (loops_nil (L := L_91 N) (by kernel_rfl)) (fun x k => (grun_91 x k).trans (by kernel_rfl))

def ap_74 : List Pat := [.int .i64, .int .u32]
def hp_74 : List (Option (Pat × Nat)) := []
abbrev Tp_74 (R : Type) : Type := (Int × Int × Unit) × (Unit) → (Int → Option R) → Option R
def Q_74 (q_91 : Tp_91 R) (x : (Int × Int × Unit) × (Unit)) (κ0 : Int → Option R) : Option R :=
let a := x.1.1
let c := x.1.2.1
bif (decide (a < 1)) then (
κ0 0) else (
let n : Int := IntKind.wrap .u64 c
let d : Int := IntKind.wrap .u64 c
let i : Int := mulA .u64 n d
let g : Int := shrA .u64 i 32
let f : Int := IntKind.wrap .u64 a
q_91 ((f, g, ()), ()) (fun b =>
let o := b.1
let p := b.2.1
let e : Int := shlA .u64 o 32
let l : Int := shrA .u64 p 32
let r : Int := orA .u64 e l
let m : Int := subA .i64 a 1
let j : Int := IntKind.wrap .i64 r
let h : Int := subA .i64 m j
κ0 h))
def p_74 (N : Nat) (x : (Int × Int × Unit) × (Unit)) (κ0 : Int → Option R) : Option R := Q_74 (p_91 N) x κ0
def EG_74 (q_91 : Tp_91 R) : Env R := (Env.base QQ LN AA).add 91 ap_91 hp_91 (fun (x : aden ap_91 × hden hp_91) k => q_91 x (fun y => k (Pat.inst (.tup (.fcons (.int .u64) (.fcons (.int .u64) (.fnil)))) y) (instH hp_91 x.2)))
def LG_74 : Loops R := Loops.none
def E_74 (N : Nat) : Env R := EG_74 (p_91 N)
def L_74 (N : Nat) : Loops R := LG_74
theorem grun_74 (q_91 : Tp_91 R) (x : aden ap_74 × hden hp_74) (k : KF R) : fnrun TT (EG_74 q_91) (drawAny TT WW) (LG_74) true Tryz.f74 (instA ap_74 x.1) (instH hp_74 x.2) k = Q_74 q_91 x (fun y => k (Pat.inst (.int .i64) y) (instH hp_74 x.2)) := by kernel_rfl
theorem good_74 (N : Nat) : GD (X := R) Tryz.prog QQ AA 74 ap_74 hp_74 (fun (x : aden ap_74 × hden hp_74) k => p_74 N x (fun y => k (Pat.inst (.int .i64) y) (instH hp_74 x.2))) :=
  gd_quiet (E := E_74 N) (p := fun (x : aden ap_74 × hden hp_74) κ => p_74 N x (fun y => κ (Pat.inst (.int .i64) y))) mixed tyok (ek_add (ek_base _ _ _) (good_91 N)) Tryz.func74 (by kernel_rfl) (by kernel_rfl) (loops_nil (L := L_74 N) (by kernel_rfl)) (fun x k => (grun_74 (p_91 N) x k).trans (by kernel_rfl))

def ap_47 : List Pat := [.node (.fcons (.int .i64) (.fcons (.int .i64) (.fcons (.int .i64) (.fcons (.int .i64) (.fcons (.int .i64) (.fcons (.int .i64) (.fcons (.int .i64) (.fcons (.int .i64) (.fnil))))))))), .node (.fcons (.int .i64) (.fcons (.int .i64) (.fnil))), .int .i64, .int .i64, .int .u32, .int .u32]
def hp_47 : List (Option (Pat × Nat)) := []
abbrev Tp_47 (R : Type) : Type := (Y0 × (Int × (Int × Unit)) × Int × Int × Int × Int × Unit) × (Unit) → (((Int × (Int × Unit)) × (Int × Unit)) → Option R) → Option R
def Q_47 (q_70 : Tp_70 R) (q_50 : Tp_50 R) (q_64 : Tp_64 R) (q_71 : Tp_71 R) (q_72 : Tp_72 R) (q_73 : Tp_73 R) (q_74 : Tp_74 R) (x : (Y0 × (Int × (Int × Unit)) × Int × Int × Int × Int × Unit) × (Unit)) (κ0 : ((Int × (Int × Unit)) × (Int × Unit)) → Option R) : Option R :=
let c := x.1.1.2.2.1
let b := x.1.1.2.2.2.2.2.1
let w := x.1.1.2.2.2.2.2.2.1
let r := x.1.2.1.1
let t := x.1.2.1.2.1
let a := x.1.2.2.1
let e := x.1.2.2.2.1
let j := x.1.2.2.2.2.1
let a0 := x.1.2.2.2.2.2.1
bif (decide (c > 0)) then (
q_70 ((x.1.1, x.1.2.1, ()), ()) (fun n =>
let a4 : Bool := n
bif a4 then (
let a3 : Int := subA .i64 c 1
q_50 ((a, 0, a3, ()), ()) (fun p =>
let a5 : Bool := p
bif (!a5) then (
κ0 (((0, (0, ())), (11, ())))) else (
q_64 ((x.1.1, r, t, ()), ()) (fun g =>
let h := g
let f : Int := subA .i64 w 1
q_50 ((e, h, f, ()), ()) (fun s =>
let m : Bool := s
bif (!m) then (
κ0 (((0, (0, ())), (11, ())))) else (
q_71 ((x.1.1, x.1.2.1, a, a0, ()), ()) (fun v =>
let d : Int := v
q_72 ((x.1.1, x.1.2.1, e, (d == a), ()), ()) (fun y =>
let o : Int := y
q_73 ((x.1.1, x.1.2.1, ()), ()) (fun a2 =>
let i : Int := a2
q_74 ((o, j, ()), ()) (fun u =>
let l : Int := u
let z : Int := addA .i64 i l
bif decide (b = 0) then none else (
let a1 : Int := remA .i64 z b
κ0 (((d, (a1, ())), (0, ())))))))))))))) else (
κ0 (((0, (0, ())), (11, ())))))) else (
κ0 (((0, (0, ())), (11, ()))))
def p_47 (N : Nat) (x : (Y0 × (Int × (Int × Unit)) × Int × Int × Int × Int × Unit) × (Unit)) (κ0 : ((Int × (Int × Unit)) × (Int × Unit)) → Option R) : Option R := Q_47 (p_70 N) (p_50 N) (p_64 N) (p_71 N) (p_72 N) (p_73 N) (p_74 N) x κ0
def EG_47 (q_70 : Tp_70 R) (q_50 : Tp_50 R) (q_64 : Tp_64 R) (q_71 : Tp_71 R) (q_72 : Tp_72 R) (q_73 : Tp_73 R) (q_74 : Tp_74 R) : Env R := (((((((Env.base QQ LN AA).add 70 ap_70 hp_70 (fun (x : aden ap_70 × hden hp_70) k => q_70 x (fun y => k (Pat.inst (.bool) y) (instH hp_70 x.2)))).add 50 ap_50 hp_50 (fun (x : aden ap_50 × hden hp_50) k => q_50 x (fun y => k (Pat.inst (.bool) y) (instH hp_50 x.2)))).add 64 ap_64 hp_64 (fun (x : aden ap_64 × hden hp_64) k => q_64 x (fun y => k (Pat.inst (.int .i64) y) (instH hp_64 x.2)))).add 71 ap_71 hp_71 (fun (x : aden ap_71 × hden hp_71) k => q_71 x (fun y => k (Pat.inst (.int .i64) y) (instH hp_71 x.2)))).add 72 ap_72 hp_72 (fun (x : aden ap_72 × hden hp_72) k => q_72 x (fun y => k (Pat.inst (.int .i64) y) (instH hp_72 x.2)))).add 73 ap_73 hp_73 (fun (x : aden ap_73 × hden hp_73) k => q_73 x (fun y => k (Pat.inst (.int .i64) y) (instH hp_73 x.2)))).add 74 ap_74 hp_74 (fun (x : aden ap_74 × hden hp_74) k => q_74 x (fun y => k (Pat.inst (.int .i64) y) (instH hp_74 x.2)))
def LG_47 : Loops R := Loops.none
def E_47 (N : Nat) : Env R := EG_47 (p_70 N) (p_50 N) (p_64 N) (p_71 N) (p_72 N) (p_73 N) (p_74 N)
def L_47 (N : Nat) : Loops R := LG_47
theorem grun_47 (q_70 : Tp_70 R) (q_50 : Tp_50 R) (q_64 : Tp_64 R) (q_71 : Tp_71 R) (q_72 : Tp_72 R) (q_73 : Tp_73 R) (q_74 : Tp_74 R) (x : aden ap_47 × hden hp_47) (k : KF R) : fnrun TT (EG_47 q_70 q_50 q_64 q_71 q_72 q_73 q_74) (drawAny TT WW) (LG_47) true Tryz.f47 (instA ap_47 x.1) (instH hp_47 x.2) k = Q_47 q_70 q_50 q_64 q_71 q_72 q_73 q_74 x (fun y => k (Pat.inst (.tup (.fcons Z7 (.fcons (.int .i64) (.fnil)))) y) (instH hp_47 x.2)) := by kernel_rfl
theorem good_47 (N : Nat) : GD (X := R) Tryz.prog QQ AA 47 ap_47 hp_47 (fun (x : aden ap_47 × hden hp_47) k => p_47 N x (fun y => k (Pat.inst (.tup (.fcons Z7 (.fcons (.int .i64) (.fnil)))) y) (instH hp_47 x.2))) :=
  gd_quiet (E := E_47 N) (p := fun (x : aden ap_47 × hden hp_47) κ => p_47 N x (fun y => κ (Pat.inst (.tup (.fcons Z7 (.fcons (.int .i64) (.fnil)))) y))) mixed tyok (ek_add (ek_add (ek_add (ek_add (ek_add (ek_add (ek_add (ek_base _ _ _) (good_70 N)) (good_50 N)) (good_64 N)) (good_71 N)) (good_72 N)) (good_73 N)) (good_74 N)) Tryz.func47 (by kernel_rfl) (by kernel_rfl) (loops_nil (L := L_47 N) (by kernel_rfl)) (fun x k => (grun_47 (p_70 N) (p_50 N) (p_64 N) (p_71 N) (p_72 N) (p_73 N) (p_74 N) x k).trans (by kernel_rfl))

def ap_24 : List Pat := [.ptr 0 [], .node (.fcons (.int .i64) (.fcons (.int .i64) (.fnil))), .int .i64, .int .i64, .ptr 4 []]
def hp_24 : List (Option (Pat × Nat)) := J2
abbrev Tp_24 (R : Type) : Type := (Unit × (Int × (Int × Unit)) × Int × Int × Unit × Unit) × Y25 → (((((Int × (Int × Unit)) × ((Int × (Int × Unit)) × ((Int × (Int × Unit)) × Unit))) × (Int × Unit)) × Y25) → Option R) → Option R
def Q_24 (q_46 : Tp_46 R) (q_47 : Tp_47 R) (q_48 : Tp_48 R) (q_49 : Tp_49 R) (x : (Unit × (Int × (Int × Unit)) × Int × Int × Unit × Unit) × Y25) (κ0 : ((((Int × (Int × Unit)) × ((Int × (Int × Unit)) × ((Int × (Int × Unit)) × Unit))) × (Int × Unit)) × Y25) → Option R) : Option R :=
let j := x.1.2.1.2.1
let b := x.1.2.2.1
let e := x.1.2.2.2.1
let n := x.2.2.2.2.1
q_46 (((), x.1.2.1, b, e, (), ()), (x.2.1, x.2.2.1, x.2.2.2.1, n, x.2.2.2.2.2.1, ())) (fun a =>
let o := a.1.1
let l := a.1.2.1
let g := a.1.2.2.1
let d := a.2.2.2.2.1
bif (g != 0) then (
κ0 ((((0, (0, ())), ((0, (0, ())), ((0, (0, ())), ()))), (g, ())), (a.2.1, a.2.2.1, a.2.2.2.1, d, a.2.2.2.2.2.1, ()))) else (
q_47 ((a.2.1.2.1, x.1.2.1, b, e, o, l, ()), ()) (fun c =>
let i := c.2.1
bif (i != 0) then (
κ0 ((((0, (0, ())), ((0, (0, ())), ((0, (0, ())), ()))), c.2), (a.2.1, a.2.2.1, a.2.2.2.1, d, a.2.2.2.2.2.1, ()))) else (
q_48 ((a.2.1.2.1, j, e, ()), ()) (fun m =>
let f : Int := m
q_49 ((a.2.1.2.1, f, ()), ()) (fun p =>
let h : Int := p
κ0 ((((b, (f, ())), ((b, (h, ())), (c.1, ()))), (0, ())), (a.2.1, a.2.2.1, a.2.2.2.1, d, a.2.2.2.2.2.1, ()))))))))
def p_24 (N : Nat) (x : (Unit × (Int × (Int × Unit)) × Int × Int × Unit × Unit) × Y25) (κ0 : ((((Int × (Int × Unit)) × ((Int × (Int × Unit)) × ((Int × (Int × Unit)) × Unit))) × (Int × Unit)) × Y25) → Option R) : Option R := Q_24 (p_46 N) (p_47 N) (p_48 N) (p_49 N) x κ0
def EG_24 (q_46 : Tp_46 R) (q_47 : Tp_47 R) (q_48 : Tp_48 R) (q_49 : Tp_49 R) : Env R := ((((Env.base QQ LN AA).add 46 ap_46 hp_46 (fun (x : aden ap_46 × hden hp_46) k => q_46 x (fun y => k (Pat.inst (.tup (.fcons (.int .u32) (.fcons (.int .u32) (.fcons (.int .i64) (.fnil))))) y.1) (instH J2 y.2)))).add 47 ap_47 hp_47 (fun (x : aden ap_47 × hden hp_47) k => q_47 x (fun y => k (Pat.inst (.tup (.fcons Z7 (.fcons (.int .i64) (.fnil)))) y) (instH hp_47 x.2)))).add 48 ap_48 hp_48 (fun (x : aden ap_48 × hden hp_48) k => q_48 x (fun y => k (Pat.inst (.int .i64) y) (instH hp_48 x.2)))).add 49 ap_49 hp_49 (fun (x : aden ap_49 × hden hp_49) k => q_49 x (fun y => k (Pat.inst (.int .i64) y) (instH hp_49 x.2)))
def LG_24 : Loops R := Loops.none
def E_24 (N : Nat) : Env R := EG_24 (p_46 N) (p_47 N) (p_48 N) (p_49 N)
def L_24 (N : Nat) : Loops R := LG_24
theorem grun_24 (q_46 : Tp_46 R) (q_47 : Tp_47 R) (q_48 : Tp_48 R) (q_49 : Tp_49 R) (x : aden ap_24 × hden hp_24) (k : KF R) : fnrun TT (EG_24 q_46 q_47 q_48 q_49) (drawAny TT WW) (LG_24) true Tryz.f24 (instA ap_24 x.1) (instH hp_24 x.2) k = Q_24 q_46 q_47 q_48 q_49 x (fun y => k (Pat.inst (.tup (.fcons (.node (.fcons Z7 (.fcons Z7 (.fcons Z7 (.fnil))))) (.fcons (.int .i64) (.fnil)))) y.1) (instH J2 y.2)) := by kernel_rfl
theorem good_24 (N : Nat) : GD (X := R) Tryz.prog QQ AA 24 ap_24 hp_24 (fun (x : aden ap_24 × hden hp_24) k => p_24 N x (fun y => k (Pat.inst (.tup (.fcons (.node (.fcons Z7 (.fcons Z7 (.fcons Z7 (.fnil))))) (.fcons (.int .i64) (.fnil)))) y.1) (instH J2 y.2))) :=
  gd_loud (E := E_24 N) mixed tyok (ek_add (ek_add (ek_add (ek_add (ek_base _ _ _) (good_46 N)) (good_47 N)) (good_48 N)) (good_49 N)) Tryz.func24 (by kernel_rfl) (by kernel_rfl) (by kernel_rfl) (by kernel_rfl) (loops_nil (L := L_24 N) (by kernel_rfl)) (fun x k => (grun_24 (p_46 N) (p_47 N) (p_48 N) (p_49 N) x k).trans (by kernel_rfl))

def ap_5 : List Pat := []
def hp_5 : List (Option (Pat × Nat)) := []
abbrev Tp_5 (R : Type) : Type := (Unit) × (Unit) → (Bool → Option R) → Option R
def Q_5 (q_6 : Tp_6 R) (q_11 : Tp_11 R) (q_25 : Tp_25 R) (q_24 : Tp_24 R) (x : (Unit) × (Unit)) (κ0 : Bool → Option R) : Option R :=
q_6 (((1, (1, (16, (1, (32, ()))))), ()), ()) (fun h =>
κ0 false) (fun a =>
let f := a.2.2.2.2.1
q_11 (((), ()), ()) (fun e =>
let g := e.1
bif (g != 11) then (
κ0 false) else (
q_25 ((a.2.1.2.1, (0, (0, ())), 0, ()), ()) (fun c =>
q_24 (((), (0, (0, ())), 0, 2, (), ()), (a.2.1, a.2.2.1, a.2.2.2.1, f, c.2.1, ())) (fun b =>
let d := b.1.2.1
bif (d == 0) then (
bif (schEq (.stru (.fcons (.int .i64) (.fcons (.int .i64) (.fnil)))) (b.1.1.1) ((0, (2, ())))) then (
bif (schEq (.stru (.fcons (.int .i64) (.fcons (.int .i64) (.fnil)))) (b.1.1.2.1) ((0, (1, ())))) then (
κ0 ((schEq (.stru (.fcons (.int .i64) (.fcons (.int .i64) (.fnil)))) (b.1.1.2.2.1) ((0, (0, ())))))) else (
κ0 false)) else (
κ0 false)) else (
κ0 false))))))
def p_5 (N : Nat) (x : (Unit) × (Unit)) (κ0 : Bool → Option R) : Option R := Q_5 (p_6 N) (p_11 N) (p_25 N) (p_24 N) x κ0
def EG_5 (q_6 : Tp_6 R) (q_11 : Tp_11 R) (q_25 : Tp_25 R) (q_24 : Tp_24 R) : Env R := ((((Env.base QQ LN AA).add 6 ap_6 hp_6 (fun (x : aden ap_6 × hden hp_6) k => q_6 x (fun y => k (Pat.inst (.nilp) y.1) (instH [] y.2)) (fun y => k (Pat.inst (.ptr 0 []) y.1) (instH J0 y.2)))).add 11 ap_11 hp_11 (fun (x : aden ap_11 × hden hp_11) k => q_11 x (fun y => k (Pat.inst (.int .i64) y.1) (instH [] y.2)))).add 25 ap_25 hp_25 (fun (x : aden ap_25 × hden hp_25) k => q_25 x (fun y => k (Pat.inst (.ptr 0 []) y.1) (instH hp_25 x.2 ++ instH [some (Z3, 113)] y.2)))).add 24 ap_24 hp_24 (fun (x : aden ap_24 × hden hp_24) k => q_24 x (fun y => k (Pat.inst (.tup (.fcons (.node (.fcons Z7 (.fcons Z7 (.fcons Z7 (.fnil))))) (.fcons (.int .i64) (.fnil)))) y.1) (instH J2 y.2)))
def LG_5 : Loops R := Loops.none
def E_5 (N : Nat) : Env R := EG_5 (p_6 N) (p_11 N) (p_25 N) (p_24 N)
def L_5 (N : Nat) : Loops R := LG_5
theorem grun_5 (q_6 : Tp_6 R) (q_11 : Tp_11 R) (q_25 : Tp_25 R) (q_24 : Tp_24 R) (x : aden ap_5 × hden hp_5) (k : KF R) : fnrun TT (EG_5 q_6 q_11 q_25 q_24) (drawAny TT WW) (LG_5) true Tryz.f5 (instA ap_5 x.1) (instH hp_5 x.2) k = Q_5 q_6 q_11 q_25 q_24 x (fun y => k (Pat.inst (.bool) y) (instH hp_5 x.2)) := by kernel_rfl
theorem good_5 (N : Nat) : GD (X := R) Tryz.prog QQ AA 5 ap_5 hp_5 (fun (x : aden ap_5 × hden hp_5) k => p_5 N x (fun y => k (Pat.inst (.bool) y) (instH hp_5 x.2))) :=
  gd_quiet (E := E_5 N) (p := fun (x : aden ap_5 × hden hp_5) κ => p_5 N x (fun y => κ (Pat.inst (.bool) y))) mixed tyok (ek_add (ek_add (ek_add (ek_add (ek_base _ _ _) (good_6 N)) (good_11 N)) (good_25 N)) (good_24 N)) Tryz.func5 (by kernel_rfl) (by kernel_rfl) (loops_nil (L := L_5 N) (by kernel_rfl)) (fun x k => (grun_5 (p_6 N) (p_11 N) (p_25 N) (p_24 N) x k).trans (by kernel_rfl))

def lv_32_3 : Live := [(3, none), (10, none), (11, none), (12, none)]
def pt_32_3 : SPat := ⟨[(3, .sl 1), (10, .sl 0), (11, .int .i64), (12, .int .i64)], [some (.lst (.int .u32), 86), some (.lst (.int .u8), 5)]⟩
def px_32_3_0 : SPat := ⟨[(3, .sl 1)], [some (.lst (.int .u32), 86), some (.lst (.int .u8), 5)]⟩
def lo_32_3 : Exit → Live
  | .exit 0 => [(3, none)]
  | _ => []
def ap_32 : List Pat := [.sl 0]
def hp_32 : List (Option (Pat × Nat)) := [some (.lst (.int .u32), 86)]
abbrev Tl_32_3 (R : Type) : Type := (Y11 × Y16) → (((Unit × Unit) × Y16) → Option R) → Option R
abbrev Tp_32 (R : Type) : Type := (Unit × Unit) × ((List Int) × Unit) → (((List Int) × ((List Int) × Unit)) → Option R) → Option R
def C_32_3 (rec : (Y11 × Y16) → Option R) (x : (Y11 × Y16)) (κ0 : ((Unit × Unit) × Y16) → Option R) : Option R :=
let f := x.1.2.2.1
let a := x.1.2.2.2.1
let b := x.2.1
let d := x.2.2.1
bif (decide (a < f)) then (
bif decide (0 ≤ a) then (
bif decide (a < ((List.length b) : Int)) then (
let c : Int := (List.getD b ((Int.toNat a)) (Sch.zero (.int .u32)))
let i : Int := IntKind.wrap .u8 c
let p : Int := shrA .u32 c 8
let o : Int := IntKind.wrap .u8 p
let l : Int := shrA .u32 c 16
let g : Int := IntKind.wrap .u8 l
let h : Int := shrA .u32 c 24
let m : Int := IntKind.wrap .u8 h
let e : (List Int) := [i, o, g, m]
bif (decide ((List.length d + List.length e) * 1 ≤ 140737488355328) && true) then (
let n : (List Int) := (d ++ e)
let j : Int := addA .i64 a 1
rec (((), (), f, j, ()), (b, n, ()))) else none) else none) else none) else (
κ0 (((), ()), (b, d, ())))
def B_32_3 (N : Nat) (rec : (Y11 × Y16) → Option R) (x : (Y11 × Y16)) (κ0 : ((Unit × Unit) × Y16) → Option R) : Option R := C_32_3 rec x κ0
def l_32_3 (N : Nat) : Nat → (Y11 × Y16) → (((Unit × Unit) × Y16) → Option R) → Option R
  | 0, _, _ => none
  | n + 1, x, κ0 => B_32_3 N (fun y => l_32_3 N n y κ0) x κ0
def Q_32 (m_32_3 : Tl_32_3 R) (x : (Unit × Unit) × ((List Int) × Unit)) (κ0 : ((List Int) × ((List Int) × Unit)) → Option R) : Option R :=
let a := x.2.1
let g : Int := (((List.length a) : Nat) : Int)
let b : Int := mulA .i64 4 g
bif decide (0 ≤ b) then (
bif decide (((1 : Nat) : Int) * b ≤ 281474976710656) then (
bif decide (b ≤ 9223372036854775807) then (
let h : (List Int) := List.replicate 0 (Sch.zero (.int .u8))
let e : Int := (((List.length a) : Nat) : Int)
m_32_3 (((), (), e, 0, ()), (a, h, ())) (fun c =>
let d := c.2.1
let f := c.2.2.1
κ0 (f, (d, ())))) else none) else none) else none
def p_32 (N : Nat) (x : (Unit × Unit) × ((List Int) × Unit)) (κ0 : ((List Int) × ((List Int) × Unit)) → Option R) : Option R := Q_32 (l_32_3 N N) x κ0
def EG_32 : Env R := Env.base QQ LN AA
def LG_32 (m_32_3 : Tl_32_3 R) : Loops R := (Loops.none).add 3 (loopBy 1 lv_32_3 pt_32_3 (fun x k => m_32_3 x (fun y => k (.exit 0) (px_32_3_0.inst y))))
def E_32 (N : Nat) : Env R := EG_32
def L_32 (N : Nat) : Loops R := LG_32 (l_32_3 N N)
theorem gstep_32_3 (m_32_3 : Tl_32_3 R) (n : Nat) (x : pt_32_3.den) (k : Exit → St → Option R) : iter 1 lv_32_3 lo_32_3 (aexec TT (EG_32) (drawAny TT WW) (LG_32 m_32_3) (loopAt 3 (bodyOf Tryz.f32))) (n + 1) (pt_32_3.inst x) k = C_32_3 (fun y => iter 1 lv_32_3 lo_32_3 (aexec TT (EG_32) (drawAny TT WW) (LG_32 m_32_3) (loopAt 3 (bodyOf Tryz.f32))) n (pt_32_3.inst y) k) x (fun y => k (.exit 0) (px_32_3_0.inst y)) := by kernel_rfl
theorem rounds_32_3 (N : Nat) : Rounds 1 TT (E_32 (R := R) N) (drawAny TT WW) (L_32 N) 3 (loopAt 3 (bodyOf Tryz.f32)) :=
  rounds_of (p := pt_32_3) (l := fun (x : pt_32_3.den) k => l_32_3 N N x (fun y => k (.exit 0) (px_32_3_0.inst y))) (fun s k => rfl) (fun x k => (iter_eq (K := Exit → St → Option R) (ks := fun k => k) (l := fun n (x : pt_32_3.den) k => l_32_3 N n x (fun y => k (.exit 0) (px_32_3_0.inst y))) (B := fun (rec : pt_32_3.den → Option R) (x : pt_32_3.den) k => B_32_3 N rec x (fun y => k (.exit 0) (px_32_3_0.inst y))) (fun _ _ => rfl) (fun _ _ _ => rfl) (fun n x k => (gstep_32_3 (l_32_3 N N) n x k).trans (by kernel_rfl))) N x k)
theorem loops_32 : loopsIn (bodyOf Tryz.f32) = [(3, loopAt 3 (bodyOf Tryz.f32))] := by kernel_rfl
theorem grun_32 (m_32_3 : Tl_32_3 R) (x : aden ap_32 × hden hp_32) (k : KF R) : fnrun TT (EG_32) (drawAny TT WW) (LG_32 m_32_3) true Tryz.f32 (instA ap_32 x.1) (instH hp_32 x.2) k = Q_32 m_32_3 x (fun y => k (Pat.inst (.ros (.int .u8)) y.1) (instH [some (.lst (.int .u32), 86)] y.2)) := by kernel_rfl
theorem good_32 (N : Nat) : GD (X := R) Tryz.prog QQ AA 32 ap_32 hp_32 (fun (x : aden ap_32 × hden hp_32) k => p_32 N x (fun y => k (Pat.inst (.ros (.int .u8)) y.1) (instH [some (.lst (.int .u32), 86)] y.2))) :=
  gd_loud (E := E_32 N) mixed tyok (ek_base _ _ _) Tryz.func32 (by kernel_rfl) (by kernel_rfl) (by kernel_rfl) (by kernel_rfl) (loops_all (L := L_32 N) loops_32 (by
  simp only [List.forall_mem_cons, List.not_mem_nil, false_implies, implies_true, and_true]
  exact rounds_32_3 N)) (fun x k => (grun_32 (l_32_3 N N) x k).trans (by kernel_rfl))

def ap_92 : List Pat := [.int .i64, .bool]
def hp_92 : List (Option (Pat × Nat)) := []
abbrev Tp_92 (R : Type) : Type := (Int × Bool × Unit) × (Unit) → (((Unit × (Int × Unit)) × (Unit)) → Option R) → (((Unit × (Int × Unit)) × (Y5 × (List Int) × Unit)) → Option R) → Option R
def Q_92 (x : (Int × Bool × Unit) × (Unit)) (κ0 : ((Unit × (Int × Unit)) × (Unit)) → Option R) (κ1 : ((Unit × (Int × Unit)) × (Y5 × (List Int) × Unit)) → Option R) : Option R :=
let a := x.1.1
let b := x.1.2.1
bif (decide (a < 1)) then (
κ0 (((), (1, ())), ())) else (
bif (decide (a > 65536)) then (
κ0 (((), (1, ())), ())) else (
κ1 (((), (0, ())), ((a, (b, ((), (0, ())))), ([] : List Int), ()))))
def p_92 (N : Nat) (x : (Int × Bool × Unit) × (Unit)) (κ0 : ((Unit × (Int × Unit)) × (Unit)) → Option R) (κ1 : ((Unit × (Int × Unit)) × (Y5 × (List Int) × Unit)) → Option R) : Option R := Q_92 x κ0 κ1
def EG_92 : Env R := Env.base QQ LN AA
def LG_92 : Loops R := Loops.none
def E_92 (N : Nat) : Env R := EG_92
def L_92 (N : Nat) : Loops R := LG_92
theorem grun_92 (x : aden ap_92 × hden hp_92) (k : KF R) : fnrun TT (EG_92) (drawAny TT WW) (LG_92) true Tryz.f92 (instA ap_92 x.1) (instH hp_92 x.2) k = Q_92 x (fun y => k (Pat.inst (.tup (.fcons (.nilp) (.fcons (.int .i64) (.fnil)))) y.1) (instH [] y.2)) (fun y => k (Pat.inst (.tup (.fcons (.ptr 0 []) (.fcons (.int .i64) (.fnil)))) y.1) (instH [some (Z8, 190), some (.lst (.int .u8), 5)] y.2)) := by kernel_rfl
theorem good_92 (N : Nat) : GD (X := R) Tryz.prog QQ AA 92 ap_92 hp_92 (fun (x : aden ap_92 × hden hp_92) k => p_92 N x (fun y => k (Pat.inst (.tup (.fcons (.nilp) (.fcons (.int .i64) (.fnil)))) y.1) (instH [] y.2)) (fun y => k (Pat.inst (.tup (.fcons (.ptr 0 []) (.fcons (.int .i64) (.fnil)))) y.1) (instH [some (Z8, 190), some (.lst (.int .u8), 5)] y.2))) :=
  gd_loud (E := E_92 N) mixed tyok (ek_base _ _ _) Tryz.func92 (by kernel_rfl) (by kernel_rfl) (by kernel_rfl) (by kernel_rfl) (loops_nil (L := L_92 N) (by kernel_rfl)) (fun x k => (grun_92 x k).trans (by kernel_rfl))

def ap_93 : List Pat := []
def hp_93 : List (Option (Pat × Nat)) := []
abbrev Tp_93 (R : Type) : Type := (Unit) × (Unit) → ((Nat → Int) → Option R) → Option R
def Q_93 (x : (Unit) × (Unit)) (κ0 : (Nat → Int) → Option R) : Option R :=
let a : (Nat → Int) := (upd ((upd ((upd ((upd ((upd ((upd ((upd ((upd ((Sch.zero (.arr 8 (.int .u64)))) 0 7640891576956012808)) 1 13503953896175478587)) 2 4354685564936845355)) 3 11912009170470909681)) 4 5840696475078001361)) 5 11170449401992604703)) 6 2270897969802886507)) 7 6620516959819538809)
κ0 a
def p_93 (N : Nat) (x : (Unit) × (Unit)) (κ0 : (Nat → Int) → Option R) : Option R := Q_93 x κ0
def EG_93 : Env R := Env.base QQ LN AA
def LG_93 : Loops R := Loops.none
def E_93 (N : Nat) : Env R := EG_93
def L_93 (N : Nat) : Loops R := LG_93
theorem grun_93 (x : aden ap_93 × hden hp_93) (k : KF R) : fnrun TT (EG_93) (drawAny TT WW) (LG_93) true Tryz.f93 (instA ap_93 x.1) (instH hp_93 x.2) k = Q_93 x (fun y => k (Pat.inst (.vec (.int .u64) 8) y) (instH hp_93 x.2)) := by kernel_rfl
theorem good_93 (N : Nat) : GD (X := R) Tryz.prog QQ AA 93 ap_93 hp_93 (fun (x : aden ap_93 × hden hp_93) k => p_93 N x (fun y => k (Pat.inst (.vec (.int .u64) 8) y) (instH hp_93 x.2))) :=
  gd_quiet (E := E_93 N) (p := fun (x : aden ap_93 × hden hp_93) κ => p_93 N x (fun y => κ (Pat.inst (.vec (.int .u64) 8) y))) mixed tyok (ek_base _ _ _) Tryz.func93 (by kernel_rfl) (by kernel_rfl) (loops_nil (L := L_93 N) (by kernel_rfl)) (fun x k => (grun_93 x k).trans (by kernel_rfl))

def ap_94 : List Pat := [.nilp, .sl 0]
def hp_94 : List (Option (Pat × Nat)) := [some (.lst (.str), 9)]
abbrev Tp_94 (R : Type) : Type := (Unit × Unit × Unit) × Y27 → (((List (List Int)) × Y27) → Option R) → Option R
def Q_94 (x : (Unit × Unit × Unit) × Y27) (κ0 : ((List (List Int)) × Y27) → Option R) : Option R :=
κ0 ([], x.2)
def p_94 (N : Nat) (x : (Unit × Unit × Unit) × Y27) (κ0 : ((List (List Int)) × Y27) → Option R) : Option R := Q_94 x κ0
def EG_94 : Env R := Env.base QQ LN AA
def LG_94 : Loops R := Loops.none
def E_94 (N : Nat) : Env R := EG_94
def L_94 (N : Nat) : Loops R := LG_94
theorem loops_94 : loopsIn (bodyOf Tryz.f94) = [(5, loopAt 5 (bodyOf Tryz.f94)), (9, loopAt 9 (bodyOf Tryz.f94))] := by kernel_rfl
theorem grun_94 (x : aden ap_94 × hden hp_94) (k : KF R) : fnrun TT (EG_94) (drawAny TT WW) (LG_94) true Tryz.f94 (instA ap_94 x.1) (instH hp_94 x.2) k = Q_94 x (fun y => k (Pat.inst (.ros (.sl (.int .u8))) y.1) (instH [some (.lst (.str), 9)] y.2)) := by kernel_rfl
theorem good_94 (N : Nat) : GD (X := R) Tryz.prog QQ AA 94 ap_94 hp_94 (fun (x : aden ap_94 × hden hp_94) k => p_94 N x (fun y => k (Pat.inst (.ros (.sl (.int .u8))) y.1) (instH [some (.lst (.str), 9)] y.2))) :=
  gd_loud (E := E_94 N) mixed tyok (ek_base _ _ _) Tryz.func94 (by kernel_rfl) (by kernel_rfl) (by kernel_rfl) (by kernel_rfl) (loops_all (L := L_94 N) loops_94 (by
  simp only [List.forall_mem_cons, List.not_mem_nil, false_implies, implies_true, and_true]
  exact ⟨rounds_none (fun _ _ => rfl), rounds_none (fun _ _ => rfl)⟩)) (fun x k => (grun_94 x k).trans (by kernel_rfl))

def lv_54_5 : Live := [(4, none), (15, none), (16, none), (17, none)]
def pt_54_5 : SPat := ⟨[(4, .sl 0), (15, .ros (.int .u8)), (16, .int .i64), (17, .int .i64)], [some (.lst (.int .u64), 39)]⟩
def px_54_5_0 : SPat := ⟨[(4, .sl 0)], [some (.lst (.int .u64), 39)]⟩
def lo_54_5 : Exit → Live
  | .exit 0 => [(4, none)]
  | _ => []
def ap_54 : List Pat := [.ros (.int .u8)]
def hp_54 : List (Option (Pat × Nat)) := []
abbrev Tl_54_5 (R : Type) : Type := Y19 → (((Unit × Unit) × ((List Int) × Unit)) → Option R) → Option R
abbrev Tp_54 (R : Type) : Type := ((List Int) × Unit) × (Unit) → ((((List Int) × (Int × Unit)) × (Unit)) → Option R) → Option R
def C_54_5 (rec : Y19 → Option R) (x : Y19) (κ0 : ((Unit × Unit) × ((List Int) × Unit)) → Option R) : Option R :=
let d := x.1.2.1
let f := x.1.2.2.1
let a := x.1.2.2.2.1
let c := x.2.1
bif (decide (a < f)) then (
bif decide (0 ≤ a) then (
bif decide (a < ((List.length d) : Int)) then (
let h : Int := (List.getD d ((Int.toNat a)) (Sch.zero (.int .u8)))
let b : Int := quoA .i64 a 8
bif decide (0 ≤ b) then (
bif decide (b < ((List.length c) : Int)) then (
let m : Int := (List.getD c ((Int.toNat b)) (Sch.zero (.int .u64)))
let j : Int := IntKind.wrap .u64 h
let n : Int := remA .i64 a 8
let e : Int := mulA .i64 8 n
bif decide (e < 0) then none else (
let o : Int := shlA .u64 j e
let g : Int := orA .u64 m o
bif decide (0 ≤ b) then (
bif decide (b < ((List.length c) : Int)) then (
let i : (List Int) := (List.set c ((Int.toNat b)) g)
let l : Int := addA .i64 a 1
rec (((), d, f, l, ()), (i, ()))) else none) else none)) else none) else none) else none) else none) else (
κ0 (((), ()), x.2))
def B_54_5 (N : Nat) (rec : Y19 → Option R) (x : Y19) (κ0 : ((Unit × Unit) × ((List Int) × Unit)) → Option R) : Option R := C_54_5 rec x κ0
def l_54_5 (N : Nat) : Nat → Y19 → (((Unit × Unit) × ((List Int) × Unit)) → Option R) → Option R
  | 0, _, _ => none
  | n + 1, x, κ0 => B_54_5 N (fun y => l_54_5 N n y κ0) x κ0
def Q_54 (m_54_5 : Tl_54_5 R) (x : ((List Int) × Unit) × (Unit)) (κ0 : (((List Int) × (Int × Unit)) × (Unit)) → Option R) : Option R :=
let b := x.1.1
let h : Int := (((List.length b) : Nat) : Int)
let f : Int := remA .i64 h 8
bif (f != 0) then (
κ0 (([], (9, ())), ())) else (
let c : Int := (((List.length b) : Nat) : Int)
let a : Int := quoA .i64 c 8
bif decide (0 ≤ a) then (
bif decide (a ≤ a) then (
bif decide (((8 : Nat) : Int) * a ≤ 281474976710656) then (
bif decide (a ≤ 9223372036854775807) then (
let i : (List Int) := List.replicate ((Int.toNat a)) (Sch.zero (.int .u64))
let g : Int := (((List.length b) : Nat) : Int)
m_54_5 (((), b, g, 0, ()), (i, ())) (fun e =>
let d := e.2.1
κ0 ((d, (0, ())), ()))) else none) else none) else none) else none)
def p_54 (N : Nat) (x : ((List Int) × Unit) × (Unit)) (κ0 : (((List Int) × (Int × Unit)) × (Unit)) → Option R) : Option R := Q_54 (l_54_5 N N) x κ0
def EG_54 : Env R := Env.base QQ LN AA
def LG_54 (m_54_5 : Tl_54_5 R) : Loops R := (Loops.none).add 5 (loopBy 0 lv_54_5 pt_54_5 (fun x k => m_54_5 x (fun y => k (.exit 0) (px_54_5_0.inst y))))
def E_54 (N : Nat) : Env R := EG_54
def L_54 (N : Nat) : Loops R := LG_54 (l_54_5 N N)
theorem gstep_54_5 (m_54_5 : Tl_54_5 R) (n : Nat) (x : pt_54_5.den) (k : Exit → St → Option R) : iter 0 lv_54_5 lo_54_5 (aexec TT (EG_54) (drawAny TT WW) (LG_54 m_54_5) (loopAt 5 (bodyOf Tryz.f54))) (n + 1) (pt_54_5.inst x) k = C_54_5 (fun y => iter 0 lv_54_5 lo_54_5 (aexec TT (EG_54) (drawAny TT WW) (LG_54 m_54_5) (loopAt 5 (bodyOf Tryz.f54))) n (pt_54_5.inst y) k) x (fun y => k (.exit 0) (px_54_5_0.inst y)) := by kernel_rfl
theorem rounds_54_5 (N : Nat) : Rounds 0 TT (E_54 (R := R) N) (drawAny TT WW) (L_54 N) 5 (loopAt 5 (bodyOf Tryz.f54)) :=
  rounds_of (p := pt_54_5) (l := fun (x : pt_54_5.den) k => l_54_5 N N x (fun y => k (.exit 0) (px_54_5_0.inst y))) (fun s k => rfl) (fun x k => (iter_eq (K := Exit → St → Option R) (ks := fun k => k) (l := fun n (x : pt_54_5.den) k => l_54_5 N n x (fun y => k (.exit 0) (px_54_5_0.inst y))) (B := fun (rec : pt_54_5.den → Option R) (x : pt_54_5.den) k => B_54_5 N rec x (fun y => k (.exit 0) (px_54_5_0.inst y))) (fun _ _ => rfl) (fun _ _ _ => rfl) (fun n x k => (gstep_54_5 (l_54_5 N N) n x k).trans (by kernel_rfl))) N x k)
theorem loops_54 : loopsIn (bodyOf Tryz.f54) = [(5, loopAt 5 (bodyOf Tryz.f54))] := by kernel_rfl
theorem grun_54 (m_54_5 : Tl_54_5 R) (x : aden ap_54 × hden hp_54) (k : KF R) : fnrun TT (EG_54) (drawAny TT WW) (LG_54 m_54_5) true Tryz.f54 (instA ap_54 x.1) (instH hp_54 x.2) k = Q_54 m_54_5 x (fun y => k (Pat.inst (.tup (.fcons (.ros (.int .u64)) (.fcons (.int .i64) (.fnil)))) y.1) (instH [] y.2)) := by kernel_rfl
theorem good_54 (N : Nat) : GD (X := R) Tryz.prog QQ AA 54 ap_54 hp_54 (fun (x : aden ap_54 × hden hp_54) k => p_54 N x (fun y => k (Pat.inst (.tup (.fcons (.ros (.int .u64)) (.fcons (.int .i64) (.fnil)))) y.1) (instH [] y.2))) :=
  gd_loud (E := E_54 N) mixed tyok (ek_base _ _ _) Tryz.func54 (by kernel_rfl) (by kernel_rfl) (by kernel_rfl) (by kernel_rfl) (loops_all (L := L_54 N) loops_54 (by
  simp only [List.forall_mem_cons, List.not_mem_nil, false_implies, implies_true, and_true]
  exact rounds_54_5 N)) (fun x k => (grun_54 (l_54_5 N N) x k).trans (by kernel_rfl))

def ap_105 : List Pat := []
def hp_105 : List (Option (Pat × Nat)) := []
abbrev Tp_105 (R : Type) : Type := (Unit) × (Unit) → ((Nat → (Nat → Int)) → Option R) → Option R
def Q_105 (x : (Unit) × (Unit)) (κ0 : (Nat → (Nat → Int)) → Option R) : Option R :=
let b : (Nat → Int) := (upd ((upd ((upd ((upd ((Sch.zero (.arr 4 (.int .i64)))) 0 0)) 1 4)) 2 8)) 3 12)
let e : (Nat → Int) := (upd ((upd ((upd ((upd ((Sch.zero (.arr 4 (.int .i64)))) 0 1)) 1 5)) 2 9)) 3 13)
let f : (Nat → Int) := (upd ((upd ((upd ((upd ((Sch.zero (.arr 4 (.int .i64)))) 0 2)) 1 6)) 2 10)) 3 14)
let c : (Nat → Int) := (upd ((upd ((upd ((upd ((Sch.zero (.arr 4 (.int .i64)))) 0 3)) 1 7)) 2 11)) 3 15)
let g : (Nat → Int) := (upd ((upd ((upd ((upd ((Sch.zero (.arr 4 (.int .i64)))) 0 0)) 1 5)) 2 10)) 3 15)
let h : (Nat → Int) := (upd ((upd ((upd ((upd ((Sch.zero (.arr 4 (.int .i64)))) 0 1)) 1 6)) 2 11)) 3 12)
let d : (Nat → Int) := (upd ((upd ((upd ((upd ((Sch.zero (.arr 4 (.int .i64)))) 0 2)) 1 7)) 2 8)) 3 13)
let a : (Nat → Int) := (upd ((upd ((upd ((upd ((Sch.zero (.arr 4 (.int .i64)))) 0 3)) 1 4)) 2 9)) 3 14)
let i : (Nat → (Nat → Int)) := (upd ((upd ((upd ((upd ((upd ((upd ((upd ((upd ((Sch.zero (.arr 8 (.arr 4 (.int .i64))))) 0 b)) 1 e)) 2 f)) 3 c)) 4 g)) 5 h)) 6 d)) 7 a)
κ0 i
def p_105 (N : Nat) (x : (Unit) × (Unit)) (κ0 : (Nat → (Nat → Int)) → Option R) : Option R := Q_105 x κ0
def EG_105 : Env R := Env.base QQ LN AA
def LG_105 : Loops R := Loops.none
def E_105 (N : Nat) : Env R := EG_105
def L_105 (N : Nat) : Loops R := LG_105
theorem grun_105 (x : aden ap_105 × hden hp_105) (k : KF R) : fnrun TT (EG_105) (drawAny TT WW) (LG_105) true Tryz.f105 (instA ap_105 x.1) (instH hp_105 x.2) k = Q_105 x (fun y => k (Pat.inst (.vec (.arr 4 (.int .i64)) 8) y) (instH hp_105 x.2)) := by kernel_rfl
theorem good_105 (N : Nat) : GD (X := R) Tryz.prog QQ AA 105 ap_105 hp_105 (fun (x : aden ap_105 × hden hp_105) k => p_105 N x (fun y => k (Pat.inst (.vec (.arr 4 (.int .i64)) 8) y) (instH hp_105 x.2))) :=
  gd_quiet (E := E_105 N) (p := fun (x : aden ap_105 × hden hp_105) κ => p_105 N x (fun y => κ (Pat.inst (.vec (.arr 4 (.int .i64)) 8) y))) mixed tyok (ek_base _ _ _) Tryz.func105 (by kernel_rfl) (by kernel_rfl) (loops_nil (L := L_105 N) (by kernel_rfl)) (fun x k => (grun_105 x k).trans (by kernel_rfl))

def lv_106_7 : Live := [(2, none), (4, none), (5, none), (16, none)]
def pt_106_7 : SPat := ⟨[(2, .ptr 0 []), (4, .ptr 1 []), (5, .str), (16, .int .i64)], J11⟩
def px_106_7_0 : SPat := ⟨[(2, .ptr 0 []), (4, .ptr 1 [])], J11⟩
def lo_106_7 : Exit → Live
  | .exit 0 => [(2, none), (4, none)]
  | _ => []
def ap_106 : List Pat := [.int .i64]
def hp_106 : List (Option (Pat × Nat)) := []
abbrev Tl_106_7 (R : Type) : Type := ((Unit × Unit × ByteArray × Int × Unit) × Y2) → (Y14 → Option R) → Option R
abbrev Tp_106 (R : Type) : Type := (Int × Unit) × (Unit) → ((Nat → Int) → Option R) → Option R
def C_106_7 (rec : ((Unit × Unit × ByteArray × Int × Unit) × Y2) → Option R) (x : ((Unit × Unit × ByteArray × Int × Unit) × Y2)) (κ0 : Y14 → Option R) : Option R :=
let b := x.1.2.2.1
let a := x.1.2.2.2.1
let c := x.2.1
let e := x.2.2.1
bif (decide (a < 16)) then (
bif decide (0 ≤ a) then (
bif decide (a < (ByteArray.size b : Int)) then (
let f : Int := byteAt b ((Int.toNat a))
let d : Int := IntKind.wrap .i64 f
bif (decide (d ≥ 97)) then (
let g : Int := subA .i64 d 97
let h : Int := addA .i64 g 10
bif decide (0 ≤ a) then (
bif decide (a < (16 : Int)) then (
let i : (Nat → Int) := (upd e ((Int.toNat a)) h)
let j : Int := addA .i64 a 1
rec (((), (), b, j, ()), (c, i, ()))) else none) else none) else (
let l : Int := subA .i64 d 48
bif decide (0 ≤ a) then (
bif decide (a < (16 : Int)) then (
let m : (Nat → Int) := (upd e ((Int.toNat a)) l)
let n : Int := addA .i64 a 1
rec (((), (), b, n, ()), (c, m, ()))) else none) else none)) else none) else none) else (
κ0 (((), (), ()), (c, e, ())))
def B_106_7 (N : Nat) (rec : ((Unit × Unit × ByteArray × Int × Unit) × Y2) → Option R) (x : ((Unit × Unit × ByteArray × Int × Unit) × Y2)) (κ0 : Y14 → Option R) : Option R := C_106_7 rec x κ0
def l_106_7 (N : Nat) : Nat → ((Unit × Unit × ByteArray × Int × Unit) × Y2) → (Y14 → Option R) → Option R
  | 0, _, _ => none
  | n + 1, x, κ0 => B_106_7 N (fun y => l_106_7 N n y κ0) x κ0
def Q_106 (m_106_7 : Tl_106_7 R) (x : (Int × Unit) × (Unit)) (κ0 : (Nat → Int) → Option R) : Option R :=
let b := x.1.1
let e : (Nat → ByteArray) := (upd ((upd ((upd ((upd ((upd ((upd ((upd ((upd ((upd ((upd ((Sch.zero (.arr 10 (.str)))) 0 (⟨#[48, 49, 50, 51, 52, 53, 54, 55, 56, 57, 97, 98, 99, 100, 101, 102]⟩))) 1 (⟨#[101, 97, 52, 56, 57, 102, 100, 54, 49, 99, 48, 50, 98, 55, 53, 51]⟩))) 2 (⟨#[98, 56, 99, 48, 53, 50, 102, 100, 97, 101, 51, 54, 55, 49, 57, 52]⟩))) 3 (⟨#[55, 57, 51, 49, 100, 99, 98, 101, 50, 54, 53, 97, 52, 48, 102, 56]⟩))) 4 (⟨#[57, 48, 53, 55, 50, 52, 97, 102, 101, 49, 98, 99, 54, 56, 51, 100]⟩))) 5 (⟨#[50, 99, 54, 97, 48, 98, 56, 51, 52, 100, 55, 53, 102, 101, 49, 57]⟩))) 6 (⟨#[99, 53, 49, 102, 101, 100, 52, 97, 48, 55, 54, 51, 57, 50, 56, 98]⟩))) 7 (⟨#[100, 98, 55, 101, 99, 49, 51, 57, 53, 48, 102, 52, 56, 54, 50, 97]⟩))) 8 (⟨#[54, 102, 101, 57, 98, 51, 48, 56, 99, 50, 100, 55, 49, 52, 97, 53]⟩))) 9 (⟨#[97, 50, 56, 52, 55, 54, 49, 53, 102, 98, 57, 101, 51, 99, 100, 48]⟩))
bif (decide (b < 0)) then (
let f : (Nat → Int) := (Sch.zero (.arr 16 (.int .i64)))
κ0 f) else (
let a : Int := remA .i64 b 10
bif decide (0 ≤ a) then (
bif decide (a < (10 : Int)) then (
let g : ByteArray := (e ((Int.toNat a)))
m_106_7 (((), (), g, 0, ()), ((Sch.zero (.arr 16 (.int .i64))), (Sch.zero (.arr 16 (.int .i64))), ())) (fun d =>
let c := d.2.2.1
κ0 c)) else none) else none)
def p_106 (N : Nat) (x : (Int × Unit) × (Unit)) (κ0 : (Nat → Int) → Option R) : Option R := Q_106 (l_106_7 N N) x κ0
def EG_106 : Env R := Env.base QQ LN AA
def LG_106 (m_106_7 : Tl_106_7 R) : Loops R := (Loops.none).add 7 (loopBy 0 lv_106_7 pt_106_7 (fun x k => m_106_7 x (fun y => k (.exit 0) (px_106_7_0.inst y))))
def E_106 (N : Nat) : Env R := EG_106
def L_106 (N : Nat) : Loops R := LG_106 (l_106_7 N N)
theorem gstep_106_7 (m_106_7 : Tl_106_7 R) (n : Nat) (x : pt_106_7.den) (k : Exit → St → Option R) : iter 0 lv_106_7 lo_106_7 (aexec TT (EG_106) (drawAny TT WW) (LG_106 m_106_7) (loopAt 7 (bodyOf Tryz.f106))) (n + 1) (pt_106_7.inst x) k = C_106_7 (fun y => iter 0 lv_106_7 lo_106_7 (aexec TT (EG_106) (drawAny TT WW) (LG_106 m_106_7) (loopAt 7 (bodyOf Tryz.f106))) n (pt_106_7.inst y) k) x (fun y => k (.exit 0) (px_106_7_0.inst y)) := by kernel_rfl
theorem rounds_106_7 (N : Nat) : Rounds 0 TT (E_106 (R := R) N) (drawAny TT WW) (L_106 N) 7 (loopAt 7 (bodyOf Tryz.f106)) :=
  rounds_of (p := pt_106_7) (l := fun (x : pt_106_7.den) k => l_106_7 N N x (fun y => k (.exit 0) (px_106_7_0.inst y))) (fun s k => rfl) (fun x k => (iter_eq (K := Exit → St → Option R) (ks := fun k => k) (l := fun n (x : pt_106_7.den) k => l_106_7 N n x (fun y => k (.exit 0) (px_106_7_0.inst y))) (B := fun (rec : pt_106_7.den → Option R) (x : pt_106_7.den) k => B_106_7 N rec x (fun y => k (.exit 0) (px_106_7_0.inst y))) (fun _ _ => rfl) (fun _ _ _ => rfl) (fun n x k => (gstep_106_7 (l_106_7 N N) n x k).trans (by kernel_rfl))) N x k)
theorem loops_106 : loopsIn (bodyOf Tryz.f106) = [(7, loopAt 7 (bodyOf Tryz.f106))] := by kernel_rfl
theorem grun_106 (m_106_7 : Tl_106_7 R) (x : aden ap_106 × hden hp_106) (k : KF R) : fnrun TT (EG_106) (drawAny TT WW) (LG_106 m_106_7) true Tryz.f106 (instA ap_106 x.1) (instH hp_106 x.2) k = Q_106 m_106_7 x (fun y => k (Pat.inst (.vec (.int .i64) 16) y) (instH hp_106 x.2)) := by kernel_rfl
theorem good_106 (N : Nat) : GD (X := R) Tryz.prog QQ AA 106 ap_106 hp_106 (fun (x : aden ap_106 × hden hp_106) k => p_106 N x (fun y => k (Pat.inst (.vec (.int .i64) 16) y) (instH hp_106 x.2))) :=
  gd_quiet (E := E_106 N) (p := fun (x : aden ap_106 × hden hp_106) κ => p_106 N x (fun y => κ (Pat.inst (.vec (.int .i64) 16) y))) mixed tyok (ek_base _ _ _) Tryz.func106 (by kernel_rfl) (by kernel_rfl) (loops_all (L := L_106 N) loops_106 (by
  simp only [List.forall_mem_cons, List.not_mem_nil, false_implies, implies_true, and_true]
  exact rounds_106_7 N)) (fun x k => (grun_106 (l_106_7 N N) x k).trans (by kernel_rfl))

def ap_107 : List Pat := [.int .u64, .int .u64, .int .u64, .int .u64, .int .u64, .int .u64]
def hp_107 : List (Option (Pat × Nat)) := []
abbrev Tp_107 (R : Type) : Type := (Int × Int × Int × Int × Int × Int × Unit) × (Unit) → (Y4 → Option R) → Option R
def Q_107 (q_113 : Tp_113 R) (x : (Int × Int × Int × Int × Int × Int × Unit) × (Unit)) (κ0 : Y4 → Option R) : Option R :=
let j := x.1.1
let e := x.1.2.1
let a0 := x.1.2.2.1
let w := x.1.2.2.2.1
let z := x.1.2.2.2.2.1
let n := x.1.2.2.2.2.2.1
let u : Int := addA .u64 e z
let b : Int := addA .u64 j u
let p : Int := xorA .u64 w b
q_113 ((p, 32, ()), ()) (fun r =>
let a := r
let d : Int := addA .u64 a0 a
let t : Int := xorA .u64 e d
q_113 ((t, 24, ()), ()) (fun y =>
let f : Int := y
let o : Int := addA .u64 f n
let c : Int := addA .u64 b o
let i : Int := xorA .u64 a c
q_113 ((i, 16, ()), ()) (fun v =>
let h := v
let g : Int := addA .u64 d h
let s : Int := xorA .u64 f g
q_113 ((s, 63, ()), ()) (fun m =>
let l : Int := m
κ0 ((c, (l, (g, (h, ())))))))))
def p_107 (N : Nat) (x : (Int × Int × Int × Int × Int × Int × Unit) × (Unit)) (κ0 : Y4 → Option R) : Option R := Q_107 (p_113 N) x κ0
def EG_107 (q_113 : Tp_113 R) : Env R := (Env.base QQ LN AA).add 113 ap_113 hp_113 (fun (x : aden ap_113 × hden hp_113) k => q_113 x (fun y => k (Pat.inst (.int .u64) y) (instH hp_113 x.2)))
def LG_107 : Loops R := Loops.none
def E_107 (N : Nat) : Env R := EG_107 (p_113 N)
def L_107 (N : Nat) : Loops R := LG_107
theorem grun_107 (q_113 : Tp_113 R) (x : aden ap_107 × hden hp_107) (k : KF R) : fnrun TT (EG_107 q_113) (drawAny TT WW) (LG_107) true Tryz.f107 (instA ap_107 x.1) (instH hp_107 x.2) k = Q_107 q_113 x (fun y => k (Pat.inst (.tup (.fcons (.int .u64) (.fcons (.int .u64) (.fcons (.int .u64) (.fcons (.int .u64) (.fnil)))))) y) (instH hp_107 x.2)) := by kernel_rfl
theorem good_107 (N : Nat) : GD (X := R) Tryz.prog QQ AA 107 ap_107 hp_107 (fun (x : aden ap_107 × hden hp_107) k => p_107 N x (fun y => k (Pat.inst (.tup (.fcons (.int .u64) (.fcons (.int .u64) (.fcons (.int .u64) (.fcons (.int .u64) (.fnil)))))) y) (instH hp_107 x.2))) :=
  gd_quiet (E := E_107 N) (p := fun (x : aden ap_107 × hden hp_107) κ => p_107 N x (fun y => κ (Pat.inst (.tup (.fcons (.int .u64) (.fcons (.int .u64) (.fcons (.int .u64) (.fcons (.int .u64) (.fnil)))))) y))) mixed tyok (ek_add (ek_base _ _ _) (good_113 N)) Tryz.func107 (by kernel_rfl) (by kernel_rfl) (loops_nil (L := L_107 N) (by kernel_rfl)) (fun x k => (grun_107 (p_113 N) x k).trans (by kernel_rfl))

def lv_95_17 : Live := [(4, none), (8, none), (10, none), (12, none), (14, none), (16, none), (51, none), (56, none), (57, none)]
def pt_95_17 : SPat := ⟨[(4, .ptr 0 []), (8, .ptr 1 []), (10, .ros (.int .u64)), (12, .ptr 2 []), (14, .ptr 3 []), (16, .ptr 4 []), (51, .int .i64), (56, .vec (.arr 4 (.int .i64)) 8), (57, .int .i64)], [some (.vec (.int .u64) 8, 40), some (.vec (.int .u64) 8, 40), some (.vec (.int .u64) 16, 181), some (.vec (.arr 4 (.int .i64)) 8, 191), some (.vec (.int .i64) 16, 183)]⟩
def px_95_17_0 : SPat := ⟨[(4, .ptr 0 []), (8, .ptr 1 []), (10, .ros (.int .u64)), (12, .ptr 2 []), (14, .ptr 3 []), (51, .int .i64)], [some (.vec (.int .u64) 8, 40), some (.vec (.int .u64) 8, 40), some (.vec (.int .u64) 16, 181), some (.vec (.arr 4 (.int .i64)) 8, 191)]⟩
def lo_95_17 : Exit → Live
  | .exit 2 => [(4, none), (8, none), (10, none), (12, none), (14, none), (51, none)]
  | _ => []
def lv_95_13 : Live := [(4, none), (8, none), (10, none), (12, none), (14, none), (51, none)]
def pt_95_13 : SPat := ⟨[(4, .ptr 0 []), (8, .ptr 1 []), (10, .ros (.int .u64)), (12, .ptr 2 []), (14, .ptr 3 []), (51, .int .i64)], [some (.vec (.int .u64) 8, 40), some (.vec (.int .u64) 8, 40), some (.vec (.int .u64) 16, 181), some (.vec (.arr 4 (.int .i64)) 8, 191)]⟩
def px_95_13_0 : SPat := ⟨[(4, .ptr 0 []), (8, .ptr 1 []), (12, .ptr 2 [])], J8⟩
def lo_95_13 : Exit → Live
  | .exit 0 => [(4, none), (8, none), (12, none)]
  | _ => []
def lv_95_24 : Live := [(4, none), (8, none), (12, none), (112, none)]
def pt_95_24 : SPat := ⟨[(4, .ptr 0 []), (8, .ptr 1 []), (12, .ptr 2 []), (112, .int .i64)], J8⟩
def px_95_24_0 : SPat := ⟨[(4, .ptr 0 []), (8, .ptr 1 [])], [some (.vec (.int .u64) 8, 40), some (.vec (.int .u64) 8, 40)]⟩
def lo_95_24 : Exit → Live
  | .exit 4 => [(4, none), (8, none)]
  | _ => []
def ap_95 : List Pat := [.vec (.int .u64) 8, .ros (.int .u8), .int .u64, .bool]
def hp_95 : List (Option (Pat × Nat)) := []
abbrev Tl_95_17 (R : Type) : Type := Y22 → (Y17 → Option R) → Option R
abbrev Tl_95_13 (R : Type) : Type := Y17 → (((Unit × Unit × Unit × Unit) × Y7) → Option R) → Option R
abbrev Tl_95_24 (R : Type) : Type := ((Unit × Unit × Unit × Int × Unit) × Y7) → (Y14 → Option R) → Option R
abbrev Tp_95 (R : Type) : Type := ((Nat → Int) × (List Int) × Int × Bool × Unit) × (Unit) → (((Nat → Int) × (Int × Unit)) → Option R) → Option R
def C_95_17 (q_107 : Tp_107 R) (rec : Y22 → Option R) (x : Y22) (κ0 : Y17 → Option R) : Option R :=
let b := x.1.2.2.1
let u := x.1.2.2.2.2.2.2.1
let s := x.1.2.2.2.2.2.2.2.1
let a := x.1.2.2.2.2.2.2.2.2.1
let t := x.2.1
let r := x.2.2.1
let c := x.2.2.2.1
let p := x.2.2.2.2.1
let n := x.2.2.2.2.2.1
bif (decide (a < 8)) then (
bif decide (0 ≤ a) then (
bif decide (a < (8 : Int)) then (
let h : (Nat → Int) := (s ((Int.toNat a)))
let g : Int := (h 0)
let e : Int := (h 1)
let d : Int := (h 2)
let f : Int := (h 3)
bif decide (0 ≤ g) then (
bif decide (g < (16 : Int)) then (
let a5 : Int := (c ((Int.toNat g)))
bif decide (0 ≤ e) then (
bif decide (e < (16 : Int)) then (
let a7 : Int := (c ((Int.toNat e)))
bif decide (0 ≤ d) then (
bif decide (d < (16 : Int)) then (
let aa : Int := (c ((Int.toNat d)))
bif decide (0 ≤ f) then (
bif decide (f < (16 : Int)) then (
let a8 : Int := (c ((Int.toNat f)))
let o : Int := mulA .i64 2 a
bif decide (0 ≤ o) then (
bif decide (o < (16 : Int)) then (
let l : Int := (n ((Int.toNat o)))
bif decide (0 ≤ l) then (
bif decide (l < ((List.length b) : Int)) then (
let ab : Int := (List.getD b ((Int.toNat l)) (Sch.zero (.int .u64)))
let z : Int := mulA .i64 2 a
let j : Int := addA .i64 z 1
bif decide (0 ≤ j) then (
bif decide (j < (16 : Int)) then (
let m : Int := (n ((Int.toNat j)))
bif decide (0 ≤ m) then (
bif decide (m < ((List.length b) : Int)) then (
let a0 : Int := (List.getD b ((Int.toNat m)) (Sch.zero (.int .u64)))
q_107 ((a5, a7, aa, a8, ab, a0, ()), ()) (fun i =>
let a2 := i.1
let a4 := i.2.1
let a6 := i.2.2.1
let a9 := i.2.2.2.1
bif decide (0 ≤ g) then (
bif decide (g < (16 : Int)) then (
let a1 : (Nat → Int) := (upd c ((Int.toNat g)) a2)
bif decide (0 ≤ e) then (
bif decide (e < (16 : Int)) then (
let v : (Nat → Int) := (upd a1 ((Int.toNat e)) a4)
bif decide (0 ≤ d) then (
bif decide (d < (16 : Int)) then (
let w : (Nat → Int) := (upd v ((Int.toNat d)) a6)
bif decide (0 ≤ f) then (
bif decide (f < (16 : Int)) then (
let a3 : (Nat → Int) := (upd w ((Int.toNat f)) a9)
let y : Int := addA .i64 a 1
rec (((), (), b, (), (), (), u, s, y, ()), (t, r, a3, p, n, ()))) else none) else none) else none) else none) else none) else none) else none) else none)) else none) else none) else none) else none) else none) else none) else none) else none) else none) else none) else none) else none) else none) else none) else none) else none) else none) else none) else (
κ0 (((), (), b, (), (), u, ()), (t, r, c, p, ())))
def C_95_13 (q_106 : Tp_106 R) (m_95_17 : Tl_95_17 R) (rec : Y17 → Option R) (x : Y17) (κ0 : ((Unit × Unit × Unit × Unit) × Y7) → Option R) : Option R :=
let g := x.1.2.2.1
let b := x.1.2.2.2.2.2.1
let e := x.2.1
let c := x.2.2.1
let f := x.2.2.2.1
let d := x.2.2.2.2.1
bif (decide (b < 12)) then (
q_106 ((b, ()), ()) (fun o =>
let m : (Nat → Int) := o
m_95_17 (((), (), g, (), (), (), b, d, 0, ()), (e, c, f, d, m, ())) (fun a =>
let j := a.1.2.2.1
let r := a.1.2.2.2.2.2.1
let i := a.2.1
let n := a.2.2.1
let l := a.2.2.2.1
let h := a.2.2.2.2.1
let p : Int := addA .i64 r 1
rec (((), (), j, (), (), p, ()), (i, n, l, h, ()))))) else (
κ0 (((), (), (), ()), (e, c, f, ())))
def C_95_24 (rec : ((Unit × Unit × Unit × Int × Unit) × Y7) → Option R) (x : ((Unit × Unit × Unit × Int × Unit) × Y7)) (κ0 : Y14 → Option R) : Option R :=
let a := x.1.2.2.2.1
let b := x.2.1
let e := x.2.2.1
let d := x.2.2.2.1
bif (decide (a < 8)) then (
bif decide (0 ≤ a) then (
bif decide (a < (8 : Int)) then (
let l : Int := (b ((Int.toNat a)))
bif decide (0 ≤ a) then (
bif decide (a < (16 : Int)) then (
let f : Int := (d ((Int.toNat a)))
let c : Int := addA .i64 a 8
bif decide (0 ≤ c) then (
bif decide (c < (16 : Int)) then (
let i : Int := (d ((Int.toNat c)))
let g : Int := xorA .u64 f i
let j : Int := xorA .u64 l g
bif decide (0 ≤ a) then (
bif decide (a < (8 : Int)) then (
let h : (Nat → Int) := (upd b ((Int.toNat a)) j)
let m : Int := addA .i64 a 1
rec (((), (), (), m, ()), (h, e, d, ()))) else none) else none) else none) else none) else none) else none) else none) else none) else (
κ0 (((), (), ()), (b, e, ())))
def B_95_17 (N : Nat) (rec : Y22 → Option R) (x : Y22) (κ0 : Y17 → Option R) : Option R := C_95_17 (p_107 N) rec x κ0
def l_95_17 (N : Nat) : Nat → Y22 → (Y17 → Option R) → Option R
  | 0, _, _ => none
  | n + 1, x, κ0 => B_95_17 N (fun y => l_95_17 N n y κ0) x κ0
def B_95_13 (N : Nat) (rec : Y17 → Option R) (x : Y17) (κ0 : ((Unit × Unit × Unit × Unit) × Y7) → Option R) : Option R := C_95_13 (p_106 N) (l_95_17 N N) rec x κ0
def l_95_13 (N : Nat) : Nat → Y17 → (((Unit × Unit × Unit × Unit) × Y7) → Option R) → Option R
  | 0, _, _ => none
  | n + 1, x, κ0 => B_95_13 N (fun y => l_95_13 N n y κ0) x κ0
def B_95_24 (N : Nat) (rec : ((Unit × Unit × Unit × Int × Unit) × Y7) → Option R) (x : ((Unit × Unit × Unit × Int × Unit) × Y7)) (κ0 : Y14 → Option R) : Option R := C_95_24 rec x κ0
def l_95_24 (N : Nat) : Nat → ((Unit × Unit × Unit × Int × Unit) × Y7) → (Y14 → Option R) → Option R
  | 0, _, _ => none
  | n + 1, x, κ0 => B_95_24 N (fun y => l_95_24 N n y κ0) x κ0
def Q_95 (q_54 : Tp_54 R) (q_93 : Tp_93 R) (q_105 : Tp_105 R) (q_107 : Tp_107 R) (q_106 : Tp_106 R) (m_95_17 : Tl_95_17 R) (m_95_13 : Tl_95_13 R) (m_95_24 : Tl_95_24 R) (x : ((Nat → Int) × (List Int) × Int × Bool × Unit) × (Unit)) (κ0 : ((Nat → Int) × (Int × Unit)) → Option R) : Option R :=
let a := x.1.1
let y := x.1.2.1
let d := x.1.2.2.1
let c := x.1.2.2.2.1
let b2 : Int := (((List.length y) : Nat) : Int)
bif (b2 != 128) then (
let bw : (Nat → Int) := (Sch.zero (.arr 8 (.int .u64)))
κ0 ((bw, (9, ())))) else (
q_54 ((y, ()), ()) (fun ar =>
let b := ar.1.1
let n : (List Int) := ((List.range 8).map fun j => a (0 + j))
bif decide (0 < Nat.min (List.length n) 8) then (
let v : (Nat → Int) := copyF ((Sch.zero (.arr 16 (.int .u64)))) 0 (Nat.min (List.length n) 8) n (Sch.zero (.int .u64))
q_93 ((), ()) (fun a1 =>
let bs : (Nat → Int) := a1
let l : (List Int) := ((List.range 8).map fun j => bs (0 + j))
bif decide (0 < Nat.min (List.length l) 8) then (
let a0 : (Nat → Int) := copyF v 8 (Nat.min (List.length l) 8) l (Sch.zero (.int .u64))
let bi : Int := (a0 12)
let bk : Int := xorA .u64 bi d
let r : (Nat → Int) := (upd a0 12 bk)
bif c then (
let bo : Int := (r 14)
let ad : Int := xorA .u64 18446744073709551615 bo
let a3 : (Nat → Int) := (upd r 14 ad)
q_105 ((), ()) (fun ap =>
let ac : (Nat → (Nat → Int)) := ap
m_95_13 (((), (), b, (), (), 0, ()), (a, (Sch.zero (.arr 8 (.int .u64))), a3, ac, ())) (fun t =>
let ab := t.2.1
let aj := t.2.2.1
let af := t.2.2.2.1
m_95_24 (((), (), (), 0, ()), (ab, aj, af, ())) (fun ca =>
let bu := ca.2.1
κ0 ((bu, (0, ()))))))) else (
q_105 ((), ()) (fun bq =>
let au : (Nat → (Nat → Int)) := bq
m_95_13 (((), (), b, (), (), 0, ()), (a, (Sch.zero (.arr 8 (.int .u64))), r, au, ())) (fun e =>
let bz := e.2.1
let b8 := e.2.2.1
let a6 := e.2.2.2.1
m_95_24 (((), (), (), 0, ()), (bz, b8, a6, ())) (fun bn =>
let bj := bn.2.1
κ0 ((bj, (0, ())))))))) else (
let b9 : Int := (v 12)
let a7 : Int := xorA .u64 b9 d
let u : (Nat → Int) := (upd v 12 a7)
bif c then (
let an : Int := (u 14)
let c1 : Int := xorA .u64 18446744073709551615 an
let c9 : (Nat → Int) := (upd u 14 c1)
q_105 ((), ()) (fun al =>
let bm := al
m_95_13 (((), (), b, (), (), 0, ()), (a, (Sch.zero (.arr 8 (.int .u64))), c9, bm, ())) (fun m =>
let a5 := m.2.1
let ao := m.2.2.1
let cb := m.2.2.2.1
m_95_24 (((), (), (), 0, ()), (a5, ao, cb, ())) (fun ba =>
let b0 := ba.2.1
κ0 ((b0, (0, ()))))))) else (
q_105 ((), ()) (fun ax =>
let ag : (Nat → (Nat → Int)) := ax
m_95_13 (((), (), b, (), (), 0, ()), (a, (Sch.zero (.arr 8 (.int .u64))), u, ag, ())) (fun h =>
let b4 := h.2.1
let b1 := h.2.2.1
let bl := h.2.2.2.1
m_95_24 (((), (), (), 0, ()), (b4, b1, bl, ())) (fun a4 =>
let ce := a4.2.1
κ0 ((ce, (0, ())))))))))) else (
q_93 ((), ()) (fun bh =>
let cc : (Nat → Int) := bh
let w : (List Int) := ((List.range 8).map fun j => cc (0 + j))
bif decide (0 < Nat.min (List.length w) 8) then (
let z : (Nat → Int) := copyF ((Sch.zero (.arr 16 (.int .u64)))) 8 (Nat.min (List.length w) 8) w (Sch.zero (.int .u64))
let be : Int := (z 12)
let bt : Int := xorA .u64 be d
let f : (Nat → Int) := (upd z 12 bt)
bif c then (
let am : Int := (f 14)
let bd : Int := xorA .u64 18446744073709551615 am
let cd : (Nat → Int) := (upd f 14 bd)
q_105 ((), ()) (fun bc =>
let ai : (Nat → (Nat → Int)) := bc
m_95_13 (((), (), b, (), (), 0, ()), (a, (Sch.zero (.arr 8 (.int .u64))), cd, ai, ())) (fun o =>
let c7 := o.2.1
let bx := o.2.2.1
let c2 := o.2.2.2.1
m_95_24 (((), (), (), 0, ()), (c7, bx, c2, ())) (fun a2 =>
let bf := a2.2.1
κ0 ((bf, (0, ()))))))) else (
q_105 ((), ()) (fun az =>
let ay : (Nat → (Nat → Int)) := az
m_95_13 (((), (), b, (), (), 0, ()), (a, (Sch.zero (.arr 8 (.int .u64))), f, ay, ())) (fun i =>
let av := i.2.1
let ae := i.2.2.1
let bg := i.2.2.2.1
m_95_24 (((), (), (), 0, ()), (av, ae, bg, ())) (fun br =>
let b6 := br.2.1
κ0 ((b6, (0, ())))))))) else (
let c5 : Int := (((Sch.zero (.arr 16 (.int .u64)))) 12)
let c0 : Int := xorA .u64 c5 d
let g : (Nat → Int) := (upd ((Sch.zero (.arr 16 (.int .u64)))) 12 c0)
bif c then (
let c4 : Int := (g 14)
let a8 : Int := xorA .u64 18446744073709551615 c4
let aw : (Nat → Int) := (upd g 14 a8)
q_105 ((), ()) (fun bp =>
let c6 : (Nat → (Nat → Int)) := bp
m_95_13 (((), (), b, (), (), 0, ()), (a, (Sch.zero (.arr 8 (.int .u64))), aw, c6, ())) (fun p =>
let b7 := p.2.1
let a9 := p.2.2.1
let ah := p.2.2.2.1
m_95_24 (((), (), (), 0, ()), (b7, a9, ah, ())) (fun c3 =>
let bb := c3.2.1
κ0 ((bb, (0, ()))))))) else (
q_105 ((), ()) (fun b5 =>
let aa : (Nat → (Nat → Int)) := b5
m_95_13 (((), (), b, (), (), 0, ()), (a, (Sch.zero (.arr 8 (.int .u64))), g, aa, ())) (fun s =>
let c8 := s.2.1
let ak := s.2.2.1
let b3 := s.2.2.2.1
m_95_24 (((), (), (), 0, ()), (c8, ak, b3, ())) (fun bv =>
let aq := bv.2.1
κ0 ((aq, (0, ()))))))))))))
def p_95 (N : Nat) (x : ((Nat → Int) × (List Int) × Int × Bool × Unit) × (Unit)) (κ0 : ((Nat → Int) × (Int × Unit)) → Option R) : Option R := Q_95 (p_54 N) (p_93 N) (p_105 N) (p_107 N) (p_106 N) (l_95_17 N N) (l_95_13 N N) (l_95_24 N N) x κ0
def EG_95 (q_54 : Tp_54 R) (q_93 : Tp_93 R) (q_105 : Tp_105 R) (q_107 : Tp_107 R) (q_106 : Tp_106 R) : Env R := (((((Env.base QQ LN AA).add 54 ap_54 hp_54 (fun (x : aden ap_54 × hden hp_54) k => q_54 x (fun y => k (Pat.inst (.tup (.fcons (.ros (.int .u64)) (.fcons (.int .i64) (.fnil)))) y.1) (instH [] y.2)))).add 93 ap_93 hp_93 (fun (x : aden ap_93 × hden hp_93) k => q_93 x (fun y => k (Pat.inst (.vec (.int .u64) 8) y) (instH hp_93 x.2)))).add 105 ap_105 hp_105 (fun (x : aden ap_105 × hden hp_105) k => q_105 x (fun y => k (Pat.inst (.vec (.arr 4 (.int .i64)) 8) y) (instH hp_105 x.2)))).add 107 ap_107 hp_107 (fun (x : aden ap_107 × hden hp_107) k => q_107 x (fun y => k (Pat.inst (.tup (.fcons (.int .u64) (.fcons (.int .u64) (.fcons (.int .u64) (.fcons (.int .u64) (.fnil)))))) y) (instH hp_107 x.2)))).add 106 ap_106 hp_106 (fun (x : aden ap_106 × hden hp_106) k => q_106 x (fun y => k (Pat.inst (.vec (.int .i64) 16) y) (instH hp_106 x.2)))
def LG_95 (m_95_17 : Tl_95_17 R) (m_95_13 : Tl_95_13 R) (m_95_24 : Tl_95_24 R) : Loops R := (((Loops.none).add 17 (loopBy 0 lv_95_17 pt_95_17 (fun x k => m_95_17 x (fun y => k (.exit 2) (px_95_17_0.inst y))))).add 13 (loopBy 0 lv_95_13 pt_95_13 (fun x k => m_95_13 x (fun y => k (.exit 0) (px_95_13_0.inst y))))).add 24 (loopBy 0 lv_95_24 pt_95_24 (fun x k => m_95_24 x (fun y => k (.exit 4) (px_95_24_0.inst y))))
def E_95 (N : Nat) : Env R := EG_95 (p_54 N) (p_93 N) (p_105 N) (p_107 N) (p_106 N)
def L_95 (N : Nat) : Loops R := LG_95 (l_95_17 N N) (l_95_13 N N) (l_95_24 N N)
theorem gstep_95_17 (q_54 : Tp_54 R) (q_93 : Tp_93 R) (q_105 : Tp_105 R) (q_107 : Tp_107 R) (q_106 : Tp_106 R) (m_95_17 : Tl_95_17 R) (m_95_13 : Tl_95_13 R) (m_95_24 : Tl_95_24 R) (n : Nat) (x : pt_95_17.den) (k : Exit → St → Option R) : iter 0 lv_95_17 lo_95_17 (aexec TT (EG_95 q_54 q_93 q_105 q_107 q_106) (drawAny TT WW) (LG_95 m_95_17 m_95_13 m_95_24) (loopAt 17 (bodyOf Tryz.f95))) (n + 1) (pt_95_17.inst x) k = C_95_17 q_107 (fun y => iter 0 lv_95_17 lo_95_17 (aexec TT (EG_95 q_54 q_93 q_105 q_107 q_106) (drawAny TT WW) (LG_95 m_95_17 m_95_13 m_95_24) (loopAt 17 (bodyOf Tryz.f95))) n (pt_95_17.inst y) k) x (fun y => k (.exit 2) (px_95_17_0.inst y)) := by kernel_rfl
theorem rounds_95_17 (N : Nat) : Rounds 0 TT (E_95 (R := R) N) (drawAny TT WW) (L_95 N) 17 (loopAt 17 (bodyOf Tryz.f95)) :=
  rounds_of (p := pt_95_17) (l := fun (x : pt_95_17.den) k => l_95_17 N N x (fun y => k (.exit 2) (px_95_17_0.inst y))) (fun s k => rfl) (fun x k => (iter_eq (K := Exit → St → Option R) (ks := fun k => k) (l := fun n (x : pt_95_17.den) k => l_95_17 N n x (fun y => k (.exit 2) (px_95_17_0.inst y))) (B := fun (rec : pt_95_17.den → Option R) (x : pt_95_17.den) k => B_95_17 N rec x (fun y => k (.exit 2) (px_95_17_0.inst y))) (fun _ _ => rfl) (fun _ _ _ => rfl) (fun n x k => (gstep_95_17 (p_54 N) (p_93 N) (p_105 N) (p_107 N) (p_106 N) (l_95_17 N N) (l_95_13 N N) (l_95_24 N N) n x k).trans (by kernel_rfl))) N x k)
theorem gstep_95_13 (q_54 : Tp_54 R) (q_93 : Tp_93 R) (q_105 : Tp_105 R) (q_107 : Tp_107 R) (q_106 : Tp_106 R) (m_95_17 : Tl_95_17 R) (m_95_13 : Tl_95_13 R) (m_95_24 : Tl_95_24 R) (n : Nat) (x : pt_95_13.den) (k : Exit → St → Option R) : iter 0 lv_95_13 lo_95_13 (aexec TT (EG_95 q_54 q_93 q_105 q_107 q_106) (drawAny TT WW) (LG_95 m_95_17 m_95_13 m_95_24) (loopAt 13 (bodyOf Tryz.f95))) (n + 1) (pt_95_13.inst x) k = C_95_13 q_106 m_95_17 (fun y => iter 0 lv_95_13 lo_95_13 (aexec TT (EG_95 q_54 q_93 q_105 q_107 q_106) (drawAny TT WW) (LG_95 m_95_17 m_95_13 m_95_24) (loopAt 13 (bodyOf Tryz.f95))) n (pt_95_13.inst y) k) x (fun y => k (.exit 0) (px_95_13_0.inst y)) := by kernel_rfl
theorem rounds_95_13 (N : Nat) : Rounds 0 TT (E_95 (R := R) N) (drawAny TT WW) (L_95 N) 13 (loopAt 13 (bodyOf Tryz.f95)) :=
  rounds_of (p := pt_95_13) (l := fun (x : pt_95_13.den) k => l_95_13 N N x (fun y => k (.exit 0) (px_95_13_0.inst y))) (fun s k => rfl) (fun x k => (iter_eq (K := Exit → St → Option R) (ks := fun k => k) (l := fun n (x : pt_95_13.den) k => l_95_13 N n x (fun y => k (.exit 0) (px_95_13_0.inst y))) (B := fun (rec : pt_95_13.den → Option R) (x : pt_95_13.den) k => B_95_13 N rec x (fun y => k (.exit 0) (px_95_13_0.inst y))) (fun _ _ => rfl) (fun _ _ _ => rfl) (fun n x k => (gstep_95_13 (p_54 N) (p_93 N) (p_105 N) (p_107 N) (p_106 N) (l_95_17 N N) (l_95_13 N N) (l_95_24 N N) n x k).trans (by kernel_rfl))) N x k)
theorem gstep_95_24 (q_54 : Tp_54 R) (q_93 : Tp_93 R) (q_105 : Tp_105 R) (q_107 : Tp_107 R) (q_106 : Tp_106 R) (m_95_17 : Tl_95_17 R) (m_95_13 : Tl_95_13 R) (m_95_24 : Tl_95_24 R) (n : Nat) (x : pt_95_24.den) (k : Exit → St → Option R) : iter 0 lv_95_24 lo_95_24 (aexec TT (EG_95 q_54 q_93 q_105 q_107 q_106) (drawAny TT WW) (LG_95 m_95_17 m_95_13 m_95_24) (loopAt 24 (bodyOf Tryz.f95))) (n + 1) (pt_95_24.inst x) k = C_95_24 (fun y => iter 0 lv_95_24 lo_95_24 (aexec TT (EG_95 q_54 q_93 q_105 q_107 q_106) (drawAny TT WW) (LG_95 m_95_17 m_95_13 m_95_24) (loopAt 24 (bodyOf Tryz.f95))) n (pt_95_24.inst y) k) x (fun y => k (.exit 4) (px_95_24_0.inst y)) := by kernel_rfl
theorem rounds_95_24 (N : Nat) : Rounds 0 TT (E_95 (R := R) N) (drawAny TT WW) (L_95 N) 24 (loopAt 24 (bodyOf Tryz.f95)) :=
  rounds_of (p := pt_95_24) (l := fun (x : pt_95_24.den) k => l_95_24 N N x (fun y => k (.exit 4) (px_95_24_0.inst y))) (fun s k => rfl) (fun x k => (iter_eq (K := Exit → St → Option R) (ks := fun k => k) (l := fun n (x : pt_95_24.den) k => l_95_24 N n x (fun y => k (.exit 4) (px_95_24_0.inst y))) (B := fun (rec : pt_95_24.den → Option R) (x : pt_95_24.den) k => B_95_24 N rec x (fun y => k (.exit 4) (px_95_24_0.inst y))) (fun _ _ => rfl) (fun _ _ _ => rfl) (fun n x k => (gstep_95_24 (p_54 N) (p_93 N) (p_105 N) (p_107 N) (p_106 N) (l_95_17 N N) (l_95_13 N N) (l_95_24 N N) n x k).trans (by kernel_rfl))) N x k)
theorem loops_95 : loopsIn (bodyOf Tryz.f95) = [(13, loopAt 13 (bodyOf Tryz.f95)), (17, loopAt 17 (bodyOf Tryz.f95)), (24, loopAt 24 (bodyOf Tryz.f95))] := by kernel_rfl
theorem grun_95 (q_54 : Tp_54 R) (q_93 : Tp_93 R) (q_105 : Tp_105 R) (q_107 : Tp_107 R) (q_106 : Tp_106 R) (m_95_17 : Tl_95_17 R) (m_95_13 : Tl_95_13 R) (m_95_24 : Tl_95_24 R) (x : aden ap_95 × hden hp_95) (k : KF R) : fnrun TT (EG_95 q_54 q_93 q_105 q_107 q_106) (drawAny TT WW) (LG_95 m_95_17 m_95_13 m_95_24) true Tryz.f95 (instA ap_95 x.1) (instH hp_95 x.2) k = Q_95 q_54 q_93 q_105 q_107 q_106 m_95_17 m_95_13 m_95_24 x (fun y => k (Pat.inst (.tup (.fcons (.vec (.int .u64) 8) (.fcons (.int .i64) (.fnil)))) y) (instH hp_95 x.2)) := by kernel_rfl
theorem good_95 (N : Nat) : GD (X := R) Tryz.prog QQ AA 95 ap_95 hp_95 (fun (x : aden ap_95 × hden hp_95) k => p_95 N x (fun y => k (Pat.inst (.tup (.fcons (.vec (.int .u64) 8) (.fcons (.int .i64) (.fnil)))) y) (instH hp_95 x.2))) :=
  gd_quiet (E := E_95 N) (p := fun (x : aden ap_95 × hden hp_95) κ => p_95 N x (fun y => κ (Pat.inst (.tup (.fcons (.vec (.int .u64) 8) (.fcons (.int .i64) (.fnil)))) y))) mixed tyok (ek_add (ek_add (ek_add (ek_add (ek_add (ek_base _ _ _) (good_54 N)) (good_93 N)) (good_105 N)) (good_107 N)) (good_106 N)) Tryz.func95 (by kernel_rfl) (by kernel_rfl) (loops_all (L := L_95 N) loops_95 (by
  simp only [List.forall_mem_cons, List.not_mem_nil, false_implies, implies_true, and_true]
  exact ⟨rounds_95_13 N, rounds_95_17 N, rounds_95_24 N⟩)) (fun x k => (grun_95 (p_54 N) (p_93 N) (p_105 N) (p_107 N) (p_106 N) (l_95_17 N N) (l_95_13 N N) (l_95_24 N N) x k).trans (by kernel_rfl))

def lv_77_4 : Live := [(0, none), (14, none), (15, none), (16, none)]
def pt_77_4 : SPat := ⟨[(0, .ptr 0 []), (14, .ros (.sl (.int .u8))), (15, .int .i64), (16, .int .i64)], [some (Z6, 174), some (.lst (.str), 9)]⟩
def px_77_4_0 : SPat := ⟨[(0, .ptr 0 [])], [some (Z6, 174), some (.lst (.str), 9)]⟩
def lo_77_4 : Exit → Live
  | .exit 0 => [(0, none)]
  | _ => []
def ap_77 : List Pat := [.ptr 0 [], .sl 1]
def hp_77 : List (Option (Pat × Nat)) := [some (Z6, 174), some (.lst (.str), 9)]
abbrev Tl_77_4 (R : Type) : Type := ((Unit × (List (List Int)) × Int × Int × Unit) × (Y8 × (List ByteArray) × Unit)) → (((Unit × Unit) × (Y8 × (List ByteArray) × Unit)) → Option R) → Option R
abbrev Tp_77 (R : Type) : Type := (Unit × Unit × Unit) × (Y8 × (List ByteArray) × Unit) → ((Unit × (Y8 × (List ByteArray) × Unit)) → Option R) → Option R
def C_77_4 (q_95 : Tp_95 R) (rec : ((Unit × (List (List Int)) × Int × Int × Unit) × (Y8 × (List ByteArray) × Unit)) → Option R) (x : ((Unit × (List (List Int)) × Int × Int × Unit) × (Y8 × (List ByteArray) × Unit))) (κ0 : ((Unit × Unit) × (Y8 × (List ByteArray) × Unit)) → Option R) : Option R :=
let b := x.1.2.1
let c := x.1.2.2.1
let a := x.1.2.2.2.1
let l := x.2.1.2.1
let g := x.2.1.2.2.1
let m := x.2.1.2.2.2.1
let d := x.2.2.1
bif (decide (a < c)) then (
bif decide (0 ≤ a) then (
bif decide (a < ((List.length b) : Int)) then (
let i : (List Int) := (List.getD b ((Int.toNat a)) (Sch.zero (.sl (.int .u8))))
let e : Int := addA .u64 m 128
q_95 ((l, i, e, false, ()), ()) (fun h =>
let j := h.1
let f : Int := addA .i64 a 1
rec (((), b, c, f, ()), (((), (j, (g, (e, ())))), d, ())))) else none) else none) else (
κ0 (((), ()), (x.2.1, d, ())))
def B_77_4 (N : Nat) (rec : ((Unit × (List (List Int)) × Int × Int × Unit) × (Y8 × (List ByteArray) × Unit)) → Option R) (x : ((Unit × (List (List Int)) × Int × Int × Unit) × (Y8 × (List ByteArray) × Unit))) (κ0 : ((Unit × Unit) × (Y8 × (List ByteArray) × Unit)) → Option R) : Option R := C_77_4 (p_95 N) rec x κ0
def l_77_4 (N : Nat) : Nat → ((Unit × (List (List Int)) × Int × Int × Unit) × (Y8 × (List ByteArray) × Unit)) → (((Unit × Unit) × (Y8 × (List ByteArray) × Unit)) → Option R) → Option R
  | 0, _, _ => none
  | n + 1, x, κ0 => B_77_4 N (fun y => l_77_4 N n y κ0) x κ0
def Q_77 (q_94 : Tp_94 R) (q_95 : Tp_95 R) (m_77_4 : Tl_77_4 R) (x : (Unit × Unit × Unit) × (Y8 × (List ByteArray) × Unit)) (κ0 : (Unit × (Y8 × (List ByteArray) × Unit)) → Option R) : Option R :=
q_94 (((), (), ()), x.2.2) (fun c =>
let a := c.1
let e := c.2.1
let f : Int := (((List.length a) : Nat) : Int)
m_77_4 (((), a, f, 0, ()), (x.2.1, e, ())) (fun b =>
let d := b.2.2.1
κ0 ((), (b.2.1, d, ()))))
def p_77 (N : Nat) (x : (Unit × Unit × Unit) × (Y8 × (List ByteArray) × Unit)) (κ0 : (Unit × (Y8 × (List ByteArray) × Unit)) → Option R) : Option R := Q_77 (p_94 N) (p_95 N) (l_77_4 N N) x κ0
def EG_77 (q_94 : Tp_94 R) (q_95 : Tp_95 R) : Env R := ((Env.base QQ LN AA).add 94 ap_94 hp_94 (fun (x : aden ap_94 × hden hp_94) k => q_94 x (fun y => k (Pat.inst (.ros (.sl (.int .u8))) y.1) (instH [some (.lst (.str), 9)] y.2)))).add 95 ap_95 hp_95 (fun (x : aden ap_95 × hden hp_95) k => q_95 x (fun y => k (Pat.inst (.tup (.fcons (.vec (.int .u64) 8) (.fcons (.int .i64) (.fnil)))) y) (instH hp_95 x.2)))
def LG_77 (m_77_4 : Tl_77_4 R) : Loops R := (Loops.none).add 4 (loopBy 2 lv_77_4 pt_77_4 (fun x k => m_77_4 x (fun y => k (.exit 0) (px_77_4_0.inst y))))
def E_77 (N : Nat) : Env R := EG_77 (p_94 N) (p_95 N)
def L_77 (N : Nat) : Loops R := LG_77 (l_77_4 N N)
theorem gstep_77_4 (q_94 : Tp_94 R) (q_95 : Tp_95 R) (m_77_4 : Tl_77_4 R) (n : Nat) (x : pt_77_4.den) (k : Exit → St → Option R) : iter 2 lv_77_4 lo_77_4 (aexec TT (EG_77 q_94 q_95) (drawAny TT WW) (LG_77 m_77_4) (loopAt 4 (bodyOf Tryz.f77))) (n + 1) (pt_77_4.inst x) k = C_77_4 q_95 (fun y => iter 2 lv_77_4 lo_77_4 (aexec TT (EG_77 q_94 q_95) (drawAny TT WW) (LG_77 m_77_4) (loopAt 4 (bodyOf Tryz.f77))) n (pt_77_4.inst y) k) x (fun y => k (.exit 0) (px_77_4_0.inst y)) := by kernel_rfl
theorem rounds_77_4 (N : Nat) : Rounds 2 TT (E_77 (R := R) N) (drawAny TT WW) (L_77 N) 4 (loopAt 4 (bodyOf Tryz.f77)) :=
  rounds_of (p := pt_77_4) (l := fun (x : pt_77_4.den) k => l_77_4 N N x (fun y => k (.exit 0) (px_77_4_0.inst y))) (fun s k => rfl) (fun x k => (iter_eq (K := Exit → St → Option R) (ks := fun k => k) (l := fun n (x : pt_77_4.den) k => l_77_4 N n x (fun y => k (.exit 0) (px_77_4_0.inst y))) (B := fun (rec : pt_77_4.den → Option R) (x : pt_77_4.den) k => B_77_4 N rec x (fun y => k (.exit 0) (px_77_4_0.inst y))) (fun _ _ => rfl) (fun _ _ _ => rfl) (fun n x k => (gstep_77_4 (p_94 N) (p_95 N) (l_77_4 N N) n x k).trans (by kernel_rfl))) N x k)
theorem loops_77 : loopsIn (bodyOf Tryz.f77) = [(4, loopAt 4 (bodyOf Tryz.f77))] := by kernel_rfl
theorem grun_77 (q_94 : Tp_94 R) (q_95 : Tp_95 R) (m_77_4 : Tl_77_4 R) (x : aden ap_77 × hden hp_77) (k : KF R) : fnrun TT (EG_77 q_94 q_95) (drawAny TT WW) (LG_77 m_77_4) true Tryz.f77 (instA ap_77 x.1) (instH hp_77 x.2) k = Q_77 q_94 q_95 m_77_4 x (fun y => k (Pat.inst (.ptr 0 []) y.1) (instH [some (Z6, 174), some (.lst (.str), 9)] y.2)) := by kernel_rfl
theorem good_77 (N : Nat) : GD (X := R) Tryz.prog QQ AA 77 ap_77 hp_77 (fun (x : aden ap_77 × hden hp_77) k => p_77 N x (fun y => k (Pat.inst (.ptr 0 []) y.1) (instH [some (Z6, 174), some (.lst (.str), 9)] y.2))) :=
  gd_loud (E := E_77 N) mixed tyok (ek_add (ek_add (ek_base _ _ _) (good_94 N)) (good_95 N)) Tryz.func77 (by kernel_rfl) (by kernel_rfl) (by kernel_rfl) (by kernel_rfl) (loops_all (L := L_77 N) loops_77 (by
  simp only [List.forall_mem_cons, List.not_mem_nil, false_implies, implies_true, and_true]
  exact rounds_77_4 N)) (fun x k => (grun_77 (p_94 N) (p_95 N) (l_77_4 N N) x k).trans (by kernel_rfl))

def ap_104 : List Pat := [.ptr 0 []]
def hp_104 : List (Option (Pat × Nat)) := [some (Z8, 190), some (.lst (.int .u8), 5)]
abbrev Tp_104 (R : Type) : Type := (Unit × Unit) × (Y5 × (List Int) × Unit) → (Bool → Option R) → Option R
def Q_104 (x : (Unit × Unit) × (Y5 × (List Int) × Unit)) (κ0 : Bool → Option R) : Option R :=
let b := x.2.1.1
let c := x.2.1.2.1
let a := x.2.2.1
bif c then (
let e : Int := (((List.length a) : Nat) : Int)
κ0 ((decide (e > b)))) else (
let d : Int := (((List.length a) : Nat) : Int)
κ0 ((decide (d ≥ b))))
def p_104 (N : Nat) (x : (Unit × Unit) × (Y5 × (List Int) × Unit)) (κ0 : Bool → Option R) : Option R := Q_104 x κ0
def EG_104 : Env R := Env.base QQ LN AA
def LG_104 : Loops R := Loops.none
def E_104 (N : Nat) : Env R := EG_104
def L_104 (N : Nat) : Loops R := LG_104
theorem grun_104 (x : aden ap_104 × hden hp_104) (k : KF R) : fnrun TT (EG_104) (drawAny TT WW) (LG_104) true Tryz.f104 (instA ap_104 x.1) (instH hp_104 x.2) k = Q_104 x (fun y => k (Pat.inst (.bool) y) (instH hp_104 x.2)) := by kernel_rfl
theorem good_104 (N : Nat) : GD (X := R) Tryz.prog QQ AA 104 ap_104 hp_104 (fun (x : aden ap_104 × hden hp_104) k => p_104 N x (fun y => k (Pat.inst (.bool) y) (instH hp_104 x.2))) :=
  gd_quiet (E := E_104 N) (p := fun (x : aden ap_104 × hden hp_104) κ => p_104 N x (fun y => κ (Pat.inst (.bool) y))) mixed tyok (ek_base _ _ _) Tryz.func104 (by kernel_rfl) (by kernel_rfl) (loops_nil (L := L_104 N) (by kernel_rfl)) (fun x k => (grun_104 x k).trans (by kernel_rfl))

def lv_94_v1_9 : Live := [(0, none), (5, some (.sl (.int .u8), 84)), (17, none), (18, none), (19, none)]
def pt_94_v1_9 : SPat := ⟨[(0, .ptr 0 []), (5, .sl 4), (17, .sl 2), (18, .int .i64), (19, .int .i64)], [some (Z11, 190), none, some (.lst (.str), 9), some (.lst (.int .u8), 5), some (.lst (.sl (.int .u8)), 84)]⟩
def px_94_v1_9_0 : SPat := ⟨[(0, .ptr 0 []), (5, .sl 4), (17, .sl 2), (18, .int .i64), (19, .int .i64)], [some (Z11, 190), none, some (.lst (.str), 9), some (.lst (.int .u8), 5), some (.lst (.sl (.int .u8)), 84)]⟩
def lo_94_v1_9 : Exit → Live
  | .exit 2 => [(0, none), (5, none), (17, none), (18, none), (19, none)]
  | _ => []
def lv_94_v1_5 : Live := [(0, some (.fnil, 2)), (5, some (.sl (.int .u8), 84)), (17, none), (18, none), (19, none)]
def pt_94_v1_5 : SPat := ⟨[(0, .ptr 0 []), (5, .sl 4), (17, .sl 2), (18, .int .i64), (19, .int .i64)], [some (Z11, 190), none, some (.lst (.str), 9), some (.lst (.int .u8), 5), some (.lst (.sl (.int .u8)), 84)]⟩
def px_94_v1_5_0 : SPat := ⟨[(0, .ptr 0 []), (5, .sl 4)], [some (Z11, 190), none, some (.lst (.str), 9), some (.lst (.int .u8), 5), some (.lst (.sl (.int .u8)), 84)]⟩
def lo_94_v1_5 : Exit → Live
  | .exit 0 => [(0, none), (5, none)]
  | _ => []
def ap_94_v1 : List Pat := [.ptr 0 [], .sl 2]
def hp_94_v1 : List (Option (Pat × Nat)) := [some (Z8, 190), some (.lst (.int .u8), 5), some (.lst (.str), 9)]
abbrev Tl_94_v1_9 (R : Type) : Type := Y12 → (Y12 → Option R) → Option R
abbrev Tl_94_v1_5 (R : Type) : Type := Y12 → (((Unit × Unit × Unit) × (Y5 × (List ByteArray) × (List Int) × (List (List Int)) × Unit)) → Option R) → Option R
abbrev Tp_94_v1 (R : Type) : Type := (Unit × Unit × Unit) × (Y5 × (List Int) × (List ByteArray) × Unit) → (((List (List Int)) × (Y5 × (List Int) × (List ByteArray) × Unit)) → Option R) → (((List (List Int)) × (Y5 × (List ByteArray) × (List Int) × Unit)) → Option R) → Option R
def C_94_v1_9 (q_104 : Tp_104 R) (rec : Y12 → Option R) (x : Y12) (κ0 : Y12 → Option R) : Option R :=
let g := x.1.2.2.2.1
let e := x.1.2.2.2.2.1
let b := x.2.1.1
let f := x.2.2.1
let a := x.2.2.2.1
let c := x.2.2.2.2.1
q_104 (((), ()), (x.2.1, a, ())) (fun m =>
let j : Bool := m
bif j then (
bif decide (0 ≤ b) then (
bif decide (b ≤ (((List.length a) : Nat) : Int)) then (
bif decide (0 ≤ b) then (
bif decide (List.length ((List.take (((Int.toNat b) - 0)) (List.drop 0 a))) * 1 ≤ 140737488355328) then (
let h : (List Int) := (List.take (((Int.toNat b) - 0)) (List.drop 0 a))
let d : (List (List Int)) := [h]
bif (decide ((List.length c + List.length d) * 24 ≤ 140737488355328) && true) then (
let i : (List (List Int)) := (c ++ d)
bif decide (0 ≤ (((List.length a) : Nat) : Int)) then (
bif decide ((((List.length a) : Nat) : Int) ≤ (((List.length a) : Nat) : Int)) then (
bif decide (0 ≤ b) then (
bif decide (b ≤ (((List.length a) : Nat) : Int)) then (
let l : (List Int) := List.take (((List.length a) - (Int.toNat b))) (List.drop ((Int.toNat b)) a)
rec (((), (), (), g, e, ()), (x.2.1, f, l, i, ()))) else none) else none) else none) else none) else none) else none) else none) else none) else none) else (
κ0 (((), (), (), g, e, ()), (x.2.1, f, a, c, ()))))
def C_94_v1_5 (m_94_v1_9 : Tl_94_v1_9 R) (rec : Y12 → Option R) (x : Y12) (κ0 : ((Unit × Unit × Unit) × (Y5 × (List ByteArray) × (List Int) × (List (List Int)) × Unit)) → Option R) : Option R :=
let f := x.1.2.2.2.1
let b := x.1.2.2.2.2.1
let j := x.2.1.1
let t := x.2.1.2.1
let r := x.2.1.2.2.2.1
let c := x.2.2.1
let d := x.2.2.2.1
let g := x.2.2.2.2.1
bif (decide (b < f)) then (
bif decide (0 ≤ b) then (
bif decide (b < ((List.length c) : Int)) then (
let e : ByteArray := (List.getD c ((Int.toNat b)) (Sch.zero (.str)))
let m : Int := ((ByteArray.size e : Nat) : Int)
let h : Int := addA .i64 r m
bif (decide ((List.length d + List.length (strList e)) * 1 ≤ 140737488355328) && true) then (
let n : (List Int) := (d ++ strList e)
m_94_v1_9 (((), (), (), f, b, ()), ((j, (t, ((), (h, ())))), c, n, g, ())) (fun a =>
let o := a.1.2.2.2.1
let i := a.1.2.2.2.2.1
let p := a.2.2.1
let l := a.2.2.2.1
let u := a.2.2.2.2.1
let s : Int := addA .i64 i 1
rec (((), (), (), o, s, ()), (a.2.1, p, l, u, ())))) else none) else none) else none) else (
κ0 (((), (), ()), (x.2.1, c, d, g, ())))
def B_94_v1_9 (N : Nat) (rec : Y12 → Option R) (x : Y12) (κ0 : Y12 → Option R) : Option R := C_94_v1_9 (p_104 N) rec x κ0
def l_94_v1_9 (N : Nat) : Nat → Y12 → (Y12 → Option R) → Option R
  | 0, _, _ => none
  | n + 1, x, κ0 => B_94_v1_9 N (fun y => l_94_v1_9 N n y κ0) x κ0
def B_94_v1_5 (N : Nat) (rec : Y12 → Option R) (x : Y12) (κ0 : ((Unit × Unit × Unit) × (Y5 × (List ByteArray) × (List Int) × (List (List Int)) × Unit)) → Option R) : Option R := C_94_v1_5 (l_94_v1_9 N N) rec x κ0
def l_94_v1_5 (N : Nat) : Nat → Y12 → (((Unit × Unit × Unit) × (Y5 × (List ByteArray) × (List Int) × (List (List Int)) × Unit)) → Option R) → Option R
  | 0, _, _ => none
  | n + 1, x, κ0 => B_94_v1_5 N (fun y => l_94_v1_5 N n y κ0) x κ0
def Q_94_v1 (q_104 : Tp_104 R) (m_94_v1_9 : Tl_94_v1_9 R) (m_94_v1_5 : Tl_94_v1_5 R) (x : (Unit × Unit × Unit) × (Y5 × (List Int) × (List ByteArray) × Unit)) (κ0 : ((List (List Int)) × (Y5 × (List Int) × (List ByteArray) × Unit)) → Option R) (κ1 : ((List (List Int)) × (Y5 × (List ByteArray) × (List Int) × Unit)) → Option R) : Option R :=
let g := x.2.1.1
let d := x.2.2.1
let b := x.2.2.2.1
bif (g == 0) then (
κ0 ([], (x.2.1, d, b, ()))) else (
let h : Int := (((List.length b) : Nat) : Int)
m_94_v1_5 (((), (), (), h, 0, ()), (x.2.1, b, d, [], ())) (fun a =>
let e := a.2.2.1
let c := a.2.2.2.1
let f := a.2.2.2.2.1
bif decide (List.length c * 1 ≤ 140737488355328) then (
κ1 (f, (a.2.1, e, c, ()))) else none))
def p_94_v1 (N : Nat) (x : (Unit × Unit × Unit) × (Y5 × (List Int) × (List ByteArray) × Unit)) (κ0 : ((List (List Int)) × (Y5 × (List Int) × (List ByteArray) × Unit)) → Option R) (κ1 : ((List (List Int)) × (Y5 × (List ByteArray) × (List Int) × Unit)) → Option R) : Option R := Q_94_v1 (p_104 N) (l_94_v1_9 N N) (l_94_v1_5 N N) x κ0 κ1
def EG_94_v1 (q_104 : Tp_104 R) : Env R := (Env.base QQ LN AA).add 104 ap_104 hp_104 (fun (x : aden ap_104 × hden hp_104) k => q_104 x (fun y => k (Pat.inst (.bool) y) (instH hp_104 x.2)))
def LG_94_v1 (m_94_v1_9 : Tl_94_v1_9 R) (m_94_v1_5 : Tl_94_v1_5 R) : Loops R := ((Loops.none).add 9 (loopBy 3 lv_94_v1_9 pt_94_v1_9 (fun x k => m_94_v1_9 x (fun y => k (.exit 2) (px_94_v1_9_0.inst y))))).add 5 (loopBy 3 lv_94_v1_5 pt_94_v1_5 (fun x k => m_94_v1_5 x (fun y => k (.exit 0) (px_94_v1_5_0.inst y))))
def E_94_v1 (N : Nat) : Env R := EG_94_v1 (p_104 N)
def L_94_v1 (N : Nat) : Loops R := LG_94_v1 (l_94_v1_9 N N) (l_94_v1_5 N N)
theorem gstep_94_v1_9 (q_104 : Tp_104 R) (m_94_v1_9 : Tl_94_v1_9 R) (m_94_v1_5 : Tl_94_v1_5 R) (n : Nat) (x : pt_94_v1_9.den) (k : Exit → St → Option R) : iter 3 lv_94_v1_9 lo_94_v1_9 (aexec TT (EG_94_v1 q_104) (drawAny TT WW) (LG_94_v1 m_94_v1_9 m_94_v1_5) (loopAt 9 (bodyOf Tryz.f94))) (n + 1) (pt_94_v1_9.inst x) k = C_94_v1_9 q_104 (fun y => iter 3 lv_94_v1_9 lo_94_v1_9 (aexec TT (EG_94_v1 q_104) (drawAny TT WW) (LG_94_v1 m_94_v1_9 m_94_v1_5) (loopAt 9 (bodyOf Tryz.f94))) n (pt_94_v1_9.inst y) k) x (fun y => k (.exit 2) (px_94_v1_9_0.inst y)) := by kernel_rfl
theorem rounds_94_v1_9 (N : Nat) : Rounds 3 TT (E_94_v1 (R := R) N) (drawAny TT WW) (L_94_v1 N) 9 (loopAt 9 (bodyOf Tryz.f94)) :=
  rounds_of (p := pt_94_v1_9) (l := fun (x : pt_94_v1_9.den) k => l_94_v1_9 N N x (fun y => k (.exit 2) (px_94_v1_9_0.inst y))) (fun s k => rfl) (fun x k => (iter_eq (K := Exit → St → Option R) (ks := fun k => k) (l := fun n (x : pt_94_v1_9.den) k => l_94_v1_9 N n x (fun y => k (.exit 2) (px_94_v1_9_0.inst y))) (B := fun (rec : pt_94_v1_9.den → Option R) (x : pt_94_v1_9.den) k => B_94_v1_9 N rec x (fun y => k (.exit 2) (px_94_v1_9_0.inst y))) (fun _ _ => rfl) (fun _ _ _ => rfl) (fun n x k => (gstep_94_v1_9 (p_104 N) (l_94_v1_9 N N) (l_94_v1_5 N N) n x k).trans (by kernel_rfl))) N x k)
theorem gstep_94_v1_5 (q_104 : Tp_104 R) (m_94_v1_9 : Tl_94_v1_9 R) (m_94_v1_5 : Tl_94_v1_5 R) (n : Nat) (x : pt_94_v1_5.den) (k : Exit → St → Option R) : iter 3 lv_94_v1_5 lo_94_v1_5 (aexec TT (EG_94_v1 q_104) (drawAny TT WW) (LG_94_v1 m_94_v1_9 m_94_v1_5) (loopAt 5 (bodyOf Tryz.f94))) (n + 1) (pt_94_v1_5.inst x) k = C_94_v1_5 m_94_v1_9 (fun y => iter 3 lv_94_v1_5 lo_94_v1_5 (aexec TT (EG_94_v1 q_104) (drawAny TT WW) (LG_94_v1 m_94_v1_9 m_94_v1_5) (loopAt 5 (bodyOf Tryz.f94))) n (pt_94_v1_5.inst y) k) x (fun y => k (.exit 0) (px_94_v1_5_0.inst y)) := by kernel_rfl
theorem rounds_94_v1_5 (N : Nat) : Rounds 3 TT (E_94_v1 (R := R) N) (drawAny TT WW) (L_94_v1 N) 5 (loopAt 5 (bodyOf Tryz.f94)) :=
  rounds_of (p := pt_94_v1_5) (l := fun (x : pt_94_v1_5.den) k => l_94_v1_5 N N x (fun y => k (.exit 0) (px_94_v1_5_0.inst y))) (fun s k => rfl) (fun x k => (iter_eq (K := Exit → St → Option R) (ks := fun k => k) (l := fun n (x : pt_94_v1_5.den) k => l_94_v1_5 N n x (fun y => k (.exit 0) (px_94_v1_5_0.inst y))) (B := fun (rec : pt_94_v1_5.den → Option R) (x : pt_94_v1_5.den) k => B_94_v1_5 N rec x (fun y => k (.exit 0) (px_94_v1_5_0.inst y))) (fun _ _ => rfl) (fun _ _ _ => rfl) (fun n x k => (gstep_94_v1_5 (p_104 N) (l_94_v1_9 N N) (l_94_v1_5 N N) n x k).trans (by kernel_rfl))) N x k)
theorem loops_94_v1 : loopsIn (bodyOf Tryz.f94) = [(5, loopAt 5 (bodyOf Tryz.f94)), (9, loopAt 9 (bodyOf Tryz.f94))] := by kernel_rfl
theorem grun_94_v1 (q_104 : Tp_104 R) (m_94_v1_9 : Tl_94_v1_9 R) (m_94_v1_5 : Tl_94_v1_5 R) (x : aden ap_94_v1 × hden hp_94_v1) (k : KF R) : fnrun TT (EG_94_v1 q_104) (drawAny TT WW) (LG_94_v1 m_94_v1_9 m_94_v1_5) true Tryz.f94 (instA ap_94_v1 x.1) (instH hp_94_v1 x.2) k = Q_94_v1 q_104 m_94_v1_9 m_94_v1_5 x (fun y => k (Pat.inst (.ros (.sl (.int .u8))) y.1) (instH [some (Z8, 190), some (.lst (.int .u8), 5), some (.lst (.str), 9)] y.2)) (fun y => k (Pat.inst (.ros (.sl (.int .u8))) y.1) (instH [some (Z11, 190), none, some (.lst (.str), 9), some (.lst (.int .u8), 5)] y.2)) := by kernel_rfl
theorem good_94_v1 (N : Nat) : GD (X := R) Tryz.prog QQ AA 94 ap_94_v1 hp_94_v1 (fun (x : aden ap_94_v1 × hden hp_94_v1) k => p_94_v1 N x (fun y => k (Pat.inst (.ros (.sl (.int .u8))) y.1) (instH [some (Z8, 190), some (.lst (.int .u8), 5), some (.lst (.str), 9)] y.2)) (fun y => k (Pat.inst (.ros (.sl (.int .u8))) y.1) (instH [some (Z11, 190), none, some (.lst (.str), 9), some (.lst (.int .u8), 5)] y.2))) :=
  gd_loud (E := E_94_v1 N) mixed tyok (ek_add (ek_base _ _ _) (good_104 N)) Tryz.func94 (by kernel_rfl) (by kernel_rfl) (by kernel_rfl) (by kernel_rfl) (loops_all (L := L_94_v1 N) loops_94_v1 (by
  simp only [List.forall_mem_cons, List.not_mem_nil, false_implies, implies_true, and_true]
  exact ⟨rounds_94_v1_5 N, rounds_94_v1_9 N⟩)) (fun x k => (grun_94_v1 (p_104 N) (l_94_v1_9 N N) (l_94_v1_5 N N) x k).trans (by kernel_rfl))

def lv_77_v1_4 : Live := [(0, none), (14, none), (15, none), (16, none)]
def pt_77_v1_4 : SPat := ⟨[(0, .ptr 0 []), (14, .ros (.sl (.int .u8))), (15, .int .i64), (16, .int .i64)], J9⟩
def px_77_v1_4_0 : SPat := ⟨[(0, .ptr 0 [])], J9⟩
def lo_77_v1_4 : Exit → Live
  | .exit 0 => [(0, none)]
  | _ => []
def ap_77_v1 : List Pat := [.ptr 0 [], .sl 3]
def hp_77_v1 : List (Option (Pat × Nat)) := [some (Z5, 174), some (Z10, 190), some (.lst (.int .u8), 5), some (.lst (.str), 9)]
abbrev Tl_77_v1_4 (R : Type) : Type := ((Unit × (List (List Int)) × Int × Int × Unit) × (Y8 × Y5 × (List ByteArray) × (List Int) × Unit)) → (((Unit × Unit) × (Y8 × Y5 × (List ByteArray) × (List Int) × Unit)) → Option R) → Option R
abbrev Tp_77_v1 (R : Type) : Type := (Unit × Unit × Unit) × (Y8 × Y5 × (List Int) × (List ByteArray) × Unit) → ((Unit × (Y8 × Y5 × (List ByteArray) × (List Int) × Unit)) → Option R) → Option R
def C_77_v1_4 (q_95 : Tp_95 R) (rec : ((Unit × (List (List Int)) × Int × Int × Unit) × (Y8 × Y5 × (List ByteArray) × (List Int) × Unit)) → Option R) (x : ((Unit × (List (List Int)) × Int × Int × Unit) × (Y8 × Y5 × (List ByteArray) × (List Int) × Unit))) (κ0 : ((Unit × Unit) × (Y8 × Y5 × (List ByteArray) × (List Int) × Unit)) → Option R) : Option R :=
let b := x.1.2.1
let d := x.1.2.2.1
let a := x.1.2.2.2.1
let n := x.2.1.2.1
let i := x.2.1.2.2.1
let m := x.2.1.2.2.2.1
let e := x.2.2.2.1
let f := x.2.2.2.2.1
bif (decide (a < d)) then (
bif decide (0 ≤ a) then (
bif decide (a < ((List.length b) : Int)) then (
let l : (List Int) := (List.getD b ((Int.toNat a)) (Sch.zero (.sl (.int .u8))))
let c : Int := addA .u64 m 128
q_95 ((n, l, c, false, ()), ()) (fun h =>
let j := h.1
let g : Int := addA .i64 a 1
rec (((), b, d, g, ()), (((), (j, (i, (c, ())))), x.2.2.1, e, f, ())))) else none) else none) else (
κ0 (((), ()), (x.2.1, x.2.2.1, e, f, ())))
def B_77_v1_4 (N : Nat) (rec : ((Unit × (List (List Int)) × Int × Int × Unit) × (Y8 × Y5 × (List ByteArray) × (List Int) × Unit)) → Option R) (x : ((Unit × (List (List Int)) × Int × Int × Unit) × (Y8 × Y5 × (List ByteArray) × (List Int) × Unit))) (κ0 : ((Unit × Unit) × (Y8 × Y5 × (List ByteArray) × (List Int) × Unit)) → Option R) : Option R := C_77_v1_4 (p_95 N) rec x κ0
def l_77_v1_4 (N : Nat) : Nat → ((Unit × (List (List Int)) × Int × Int × Unit) × (Y8 × Y5 × (List ByteArray) × (List Int) × Unit)) → (((Unit × Unit) × (Y8 × Y5 × (List ByteArray) × (List Int) × Unit)) → Option R) → Option R
  | 0, _, _ => none
  | n + 1, x, κ0 => B_77_v1_4 N (fun y => l_77_v1_4 N n y κ0) x κ0
def Q_77_v1 (q_94_v1 : Tp_94_v1 R) (q_95 : Tp_95 R) (m_77_v1_4 : Tl_77_v1_4 R) (x : (Unit × Unit × Unit) × (Y8 × Y5 × (List Int) × (List ByteArray) × Unit)) (κ0 : (Unit × (Y8 × Y5 × (List ByteArray) × (List Int) × Unit)) → Option R) : Option R :=
let g := x.2.2.2.1
let l := x.2.2.2.2.1
q_94_v1 (((), (), ()), (x.2.2.1, g, l, ())) (fun e =>
let f := e.1
let n : Int := (((List.length f) : Nat) : Int)
none) (fun a =>
let c := a.1
let m := a.2.2.1
let h := a.2.2.2.1
let j : Int := (((List.length c) : Nat) : Int)
m_77_v1_4 (((), c, j, 0, ()), (x.2.1, a.2.1, m, h, ())) (fun b =>
let i := b.2.2.2.1
let d := b.2.2.2.2.1
κ0 ((), (b.2.1, b.2.2.1, i, d, ()))))
def p_77_v1 (N : Nat) (x : (Unit × Unit × Unit) × (Y8 × Y5 × (List Int) × (List ByteArray) × Unit)) (κ0 : (Unit × (Y8 × Y5 × (List ByteArray) × (List Int) × Unit)) → Option R) : Option R := Q_77_v1 (p_94_v1 N) (p_95 N) (l_77_v1_4 N N) x κ0
def EG_77_v1 (q_94_v1 : Tp_94_v1 R) (q_95 : Tp_95 R) : Env R := ((Env.base QQ LN AA).add 94 ap_94_v1 hp_94_v1 (fun (x : aden ap_94_v1 × hden hp_94_v1) k => q_94_v1 x (fun y => k (Pat.inst (.ros (.sl (.int .u8))) y.1) (instH [some (Z8, 190), some (.lst (.int .u8), 5), some (.lst (.str), 9)] y.2)) (fun y => k (Pat.inst (.ros (.sl (.int .u8))) y.1) (instH [some (Z11, 190), none, some (.lst (.str), 9), some (.lst (.int .u8), 5)] y.2)))).add 95 ap_95 hp_95 (fun (x : aden ap_95 × hden hp_95) k => q_95 x (fun y => k (Pat.inst (.tup (.fcons (.vec (.int .u64) 8) (.fcons (.int .i64) (.fnil)))) y) (instH hp_95 x.2)))
def LG_77_v1 (m_77_v1_4 : Tl_77_v1_4 R) : Loops R := (Loops.none).add 4 (loopBy 4 lv_77_v1_4 pt_77_v1_4 (fun x k => m_77_v1_4 x (fun y => k (.exit 0) (px_77_v1_4_0.inst y))))
def E_77_v1 (N : Nat) : Env R := EG_77_v1 (p_94_v1 N) (p_95 N)
def L_77_v1 (N : Nat) : Loops R := LG_77_v1 (l_77_v1_4 N N)
theorem gstep_77_v1_4 (q_94_v1 : Tp_94_v1 R) (q_95 : Tp_95 R) (m_77_v1_4 : Tl_77_v1_4 R) (n : Nat) (x : pt_77_v1_4.den) (k : Exit → St → Option R) : iter 4 lv_77_v1_4 lo_77_v1_4 (aexec TT (EG_77_v1 q_94_v1 q_95) (drawAny TT WW) (LG_77_v1 m_77_v1_4) (loopAt 4 (bodyOf Tryz.f77))) (n + 1) (pt_77_v1_4.inst x) k = C_77_v1_4 q_95 (fun y => iter 4 lv_77_v1_4 lo_77_v1_4 (aexec TT (EG_77_v1 q_94_v1 q_95) (drawAny TT WW) (LG_77_v1 m_77_v1_4) (loopAt 4 (bodyOf Tryz.f77))) n (pt_77_v1_4.inst y) k) x (fun y => k (.exit 0) (px_77_v1_4_0.inst y)) := by kernel_rfl
theorem rounds_77_v1_4 (N : Nat) : Rounds 4 TT (E_77_v1 (R := R) N) (drawAny TT WW) (L_77_v1 N) 4 (loopAt 4 (bodyOf Tryz.f77)) :=
  rounds_of (p := pt_77_v1_4) (l := fun (x : pt_77_v1_4.den) k => l_77_v1_4 N N x (fun y => k (.exit 0) (px_77_v1_4_0.inst y))) (fun s k => rfl) (fun x k => (iter_eq (K := Exit → St → Option R) (ks := fun k => k) (l := fun n (x : pt_77_v1_4.den) k => l_77_v1_4 N n x (fun y => k (.exit 0) (px_77_v1_4_0.inst y))) (B := fun (rec : pt_77_v1_4.den → Option R) (x : pt_77_v1_4.den) k => B_77_v1_4 N rec x (fun y => k (.exit 0) (px_77_v1_4_0.inst y))) (fun _ _ => rfl) (fun _ _ _ => rfl) (fun n x k => (gstep_77_v1_4 (p_94_v1 N) (p_95 N) (l_77_v1_4 N N) n x k).trans (by kernel_rfl))) N x k)
theorem loops_77_v1 : loopsIn (bodyOf Tryz.f77) = [(4, loopAt 4 (bodyOf Tryz.f77))] := by kernel_rfl
theorem grun_77_v1 (q_94_v1 : Tp_94_v1 R) (q_95 : Tp_95 R) (m_77_v1_4 : Tl_77_v1_4 R) (x : aden ap_77_v1 × hden hp_77_v1) (k : KF R) : fnrun TT (EG_77_v1 q_94_v1 q_95) (drawAny TT WW) (LG_77_v1 m_77_v1_4) true Tryz.f77 (instA ap_77_v1 x.1) (instH hp_77_v1 x.2) k = Q_77_v1 q_94_v1 q_95 m_77_v1_4 x (fun y => k (Pat.inst (.ptr 0 []) y.1) (instH J9 y.2)) := by kernel_rfl
theorem good_77_v1 (N : Nat) : GD (X := R) Tryz.prog QQ AA 77 ap_77_v1 hp_77_v1 (fun (x : aden ap_77_v1 × hden hp_77_v1) k => p_77_v1 N x (fun y => k (Pat.inst (.ptr 0 []) y.1) (instH J9 y.2))) :=
  gd_loud (E := E_77_v1 N) mixed tyok (ek_add (ek_add (ek_base _ _ _) (good_94_v1 N)) (good_95 N)) Tryz.func77 (by kernel_rfl) (by kernel_rfl) (by kernel_rfl) (by kernel_rfl) (loops_all (L := L_77_v1 N) loops_77_v1 (by
  simp only [List.forall_mem_cons, List.not_mem_nil, false_implies, implies_true, and_true]
  exact rounds_77_v1_4 N)) (fun x k => (grun_77_v1 (p_94_v1 N) (p_95 N) (l_77_v1_4 N N) x k).trans (by kernel_rfl))

def ap_76 : List Pat := [.int .i64, .str]
def hp_76 : List (Option (Pat × Nat)) := []
abbrev Tp_76 (R : Type) : Type := (Int × ByteArray × Unit) × (Unit) → (((Unit × (Int × Unit)) × (Unit)) → Option R) → (((Unit × (Int × Unit)) × (Y8 × Unit)) → Option R) → (((Unit × (Int × Unit)) × (Y8 × Y5 × (List Int) × Unit)) → Option R) → Option R
def Q_76 (q_92 : Tp_92 R) (q_93 : Tp_93 R) (q_77 : Tp_77 R) (q_77_v1 : Tp_77_v1 R) (x : (Int × ByteArray × Unit) × (Unit)) (κ0 : ((Unit × (Int × Unit)) × (Unit)) → Option R) (κ1 : ((Unit × (Int × Unit)) × (Y8 × Unit)) → Option R) (κ2 : ((Unit × (Int × Unit)) × (Y8 × Y5 × (List Int) × Unit)) → Option R) : Option R :=
let b := x.1.1
let a := x.1.2.1
bif (decide (b < 1)) then (
κ0 (((), (1, ())), ())) else (
bif (decide (b > 64)) then (
κ0 (((), (1, ())), ())) else (
let u : Int := ((ByteArray.size a : Nat) : Int)
bif (decide (u > 64)) then (
κ0 (((), (1, ())), ())) else (
q_92 ((128, true, ()), ()) (fun ah =>
q_93 ((), ()) (fun a9 =>
let g : (Nat → Int) := a9
let w : Int := (g 0)
let t : Int := ((ByteArray.size a : Nat) : Int)
let a6 : Int := IntKind.wrap .u64 t
let ae : Int := shlA .u64 a6 8
let s : Int := xorA .u64 16842752 ae
let o : Int := IntKind.wrap .u64 b
let ab : Int := xorA .u64 s o
let n : Int := xorA .u64 w ab
bif (!eqS a (⟨#[]⟩)) then (
let v : Int := ((ByteArray.size a : Nat) : Int)
let d : Int := subA .i64 128 v
bif decide (0 ≤ d) then (
bif decide (d ≤ d) then (
bif decide (((1 : Nat) : Int) * d ≤ 281474976710656) then (
bif decide (d ≤ 9223372036854775807) then (
let a3 : (List Int) := List.replicate ((Int.toNat d)) (Sch.zero (.int .u8))
let j : ByteArray := listStr a3
bif decide (ByteArray.size a + ByteArray.size j ≤ maxI64) then (
let ag : ByteArray := (a ++ j)
let a4 : (List ByteArray) := [ag]
q_77 (((), (), ()), (((), ((upd g 0 n), (b, (0, ())))), a4, ())) (fun a1 =>
κ1 (((), (0, ())), (a1.2.1, ())))) else none) else none) else none) else none) else none) else (
κ1 (((), (0, ())), (((), ((upd g 0 n), (b, (0, ())))), ()))))) (fun h =>
let i := h.2.2.1
q_93 ((), ()) (fun aa =>
let e : (Nat → Int) := aa
let ac : Int := (e 0)
let ad : Int := ((ByteArray.size a : Nat) : Int)
let af : Int := IntKind.wrap .u64 ad
let z : Int := shlA .u64 af 8
let a0 : Int := xorA .u64 16842752 z
let a5 : Int := IntKind.wrap .u64 b
let a2 : Int := xorA .u64 a0 a5
let m : Int := xorA .u64 ac a2
bif (!eqS a (⟨#[]⟩)) then (
let y : Int := ((ByteArray.size a : Nat) : Int)
let c : Int := subA .i64 128 y
bif decide (0 ≤ c) then (
bif decide (c ≤ c) then (
bif decide (((1 : Nat) : Int) * c ≤ 281474976710656) then (
bif decide (c ≤ 9223372036854775807) then (
let p : (List Int) := List.replicate ((Int.toNat c)) (Sch.zero (.int .u8))
let l : ByteArray := listStr p
bif decide (ByteArray.size a + ByteArray.size l ≤ maxI64) then (
let a8 : ByteArray := (a ++ l)
let r : (List ByteArray) := [a8]
q_77_v1 (((), (), ()), (((), ((upd e 0 m), (b, (0, ())))), h.2.1, i, r, ())) (fun f =>
let a7 := f.2.2.2.2.1
κ2 (((), (0, ())), (f.2.1, f.2.2.1, a7, ())))) else none) else none) else none) else none) else none) else (
κ2 (((), (0, ())), (((), ((upd e 0 m), (b, (0, ())))), h.2.1, i, ()))))))))
def p_76 (N : Nat) (x : (Int × ByteArray × Unit) × (Unit)) (κ0 : ((Unit × (Int × Unit)) × (Unit)) → Option R) (κ1 : ((Unit × (Int × Unit)) × (Y8 × Unit)) → Option R) (κ2 : ((Unit × (Int × Unit)) × (Y8 × Y5 × (List Int) × Unit)) → Option R) : Option R := Q_76 (p_92 N) (p_93 N) (p_77 N) (p_77_v1 N) x κ0 κ1 κ2
def EG_76 (q_92 : Tp_92 R) (q_93 : Tp_93 R) (q_77 : Tp_77 R) (q_77_v1 : Tp_77_v1 R) : Env R := ((((Env.base QQ LN AA).add 92 ap_92 hp_92 (fun (x : aden ap_92 × hden hp_92) k => q_92 x (fun y => k (Pat.inst (.tup (.fcons (.nilp) (.fcons (.int .i64) (.fnil)))) y.1) (instH [] y.2)) (fun y => k (Pat.inst (.tup (.fcons (.ptr 0 []) (.fcons (.int .i64) (.fnil)))) y.1) (instH [some (Z8, 190), some (.lst (.int .u8), 5)] y.2)))).add 93 ap_93 hp_93 (fun (x : aden ap_93 × hden hp_93) k => q_93 x (fun y => k (Pat.inst (.vec (.int .u64) 8) y) (instH hp_93 x.2)))).add 77 ap_77 hp_77 (fun (x : aden ap_77 × hden hp_77) k => q_77 x (fun y => k (Pat.inst (.ptr 0 []) y.1) (instH [some (Z6, 174), some (.lst (.str), 9)] y.2)))).add 77 ap_77_v1 hp_77_v1 (fun (x : aden ap_77_v1 × hden hp_77_v1) k => q_77_v1 x (fun y => k (Pat.inst (.ptr 0 []) y.1) (instH J9 y.2)))
def LG_76 : Loops R := Loops.none
def E_76 (N : Nat) : Env R := EG_76 (p_92 N) (p_93 N) (p_77 N) (p_77_v1 N)
def L_76 (N : Nat) : Loops R := LG_76
theorem grun_76 (q_92 : Tp_92 R) (q_93 : Tp_93 R) (q_77 : Tp_77 R) (q_77_v1 : Tp_77_v1 R) (x : aden ap_76 × hden hp_76) (k : KF R) : fnrun TT (EG_76 q_92 q_93 q_77 q_77_v1) (drawAny TT WW) (LG_76) true Tryz.f76 (instA ap_76 x.1) (instH hp_76 x.2) k = Q_76 q_92 q_93 q_77 q_77_v1 x (fun y => k (Pat.inst (.tup (.fcons (.nilp) (.fcons (.int .i64) (.fnil)))) y.1) (instH [] y.2)) (fun y => k (Pat.inst (.tup (.fcons (.ptr 0 []) (.fcons (.int .i64) (.fnil)))) y.1) (instH [some (Z6, 174)] y.2)) (fun y => k (Pat.inst (.tup (.fcons (.ptr 0 []) (.fcons (.int .i64) (.fnil)))) y.1) (instH J10 y.2)) := by kernel_rfl
theorem good_76 (N : Nat) : GD (X := R) Tryz.prog QQ AA 76 ap_76 hp_76 (fun (x : aden ap_76 × hden hp_76) k => p_76 N x (fun y => k (Pat.inst (.tup (.fcons (.nilp) (.fcons (.int .i64) (.fnil)))) y.1) (instH [] y.2)) (fun y => k (Pat.inst (.tup (.fcons (.ptr 0 []) (.fcons (.int .i64) (.fnil)))) y.1) (instH [some (Z6, 174)] y.2)) (fun y => k (Pat.inst (.tup (.fcons (.ptr 0 []) (.fcons (.int .i64) (.fnil)))) y.1) (instH J10 y.2))) :=
  gd_loud (E := E_76 N) mixed tyok (ek_add (ek_add (ek_add (ek_add (ek_base _ _ _) (good_92 N)) (good_93 N)) (good_77 N)) (good_77_v1 N)) Tryz.func76 (by kernel_rfl) (by kernel_rfl) (by kernel_rfl) (by kernel_rfl) (loops_nil (L := L_76 N) (by kernel_rfl)) (fun x k => (grun_76 (p_92 N) (p_93 N) (p_77 N) (p_77_v1 N) x k).trans (by kernel_rfl))

def ap_77_v2 : List Pat := [.nilp, .sl 0]
def hp_77_v2 : List (Option (Pat × Nat)) := [some (.lst (.str), 9)]
abbrev Tp_77_v2 (R : Type) : Type := (Unit × Unit × Unit) × Y27 → ((Unit × Y27) → Option R) → Option R
def Q_77_v2 (x : (Unit × Unit × Unit) × Y27) (κ0 : (Unit × Y27) → Option R) : Option R :=
κ0 ((), x.2)
def p_77_v2 (N : Nat) (x : (Unit × Unit × Unit) × Y27) (κ0 : (Unit × Y27) → Option R) : Option R := Q_77_v2 x κ0
def EG_77_v2 : Env R := Env.base QQ LN AA
def LG_77_v2 : Loops R := Loops.none
def E_77_v2 (N : Nat) : Env R := EG_77_v2
def L_77_v2 (N : Nat) : Loops R := LG_77_v2
theorem loops_77_v2 : loopsIn (bodyOf Tryz.f77) = [(4, loopAt 4 (bodyOf Tryz.f77))] := by kernel_rfl
theorem grun_77_v2 (x : aden ap_77_v2 × hden hp_77_v2) (k : KF R) : fnrun TT (EG_77_v2) (drawAny TT WW) (LG_77_v2) true Tryz.f77 (instA ap_77_v2 x.1) (instH hp_77_v2 x.2) k = Q_77_v2 x (fun y => k (Pat.inst (.nilp) y.1) (instH [some (.lst (.str), 9)] y.2)) := by kernel_rfl
theorem good_77_v2 (N : Nat) : GD (X := R) Tryz.prog QQ AA 77 ap_77_v2 hp_77_v2 (fun (x : aden ap_77_v2 × hden hp_77_v2) k => p_77_v2 N x (fun y => k (Pat.inst (.nilp) y.1) (instH [some (.lst (.str), 9)] y.2))) :=
  gd_loud (E := E_77_v2 N) mixed tyok (ek_base _ _ _) Tryz.func77 (by kernel_rfl) (by kernel_rfl) (by kernel_rfl) (by kernel_rfl) (loops_all (L := L_77_v2 N) loops_77_v2 (by
  simp only [List.forall_mem_cons, List.not_mem_nil, false_implies, implies_true, and_true]
  exact rounds_none (fun _ _ => rfl))) (fun x k => (grun_77_v2 x k).trans (by kernel_rfl))

def ap_78 : List Pat := [.nilp]
def hp_78 : List (Option (Pat × Nat)) := []
abbrev Tp_78 (R : Type) : Type := (Unit × Unit) × (Unit) → ((ByteArray × (Unit)) → Option R) → Option R
def Q_78 (x : (Unit × Unit) × (Unit)) (κ0 : (ByteArray × (Unit)) → Option R) : Option R :=
κ0 (⟨#[]⟩, ())
def p_78 (N : Nat) (x : (Unit × Unit) × (Unit)) (κ0 : (ByteArray × (Unit)) → Option R) : Option R := Q_78 x κ0
def EG_78 : Env R := Env.base QQ LN AA
def LG_78 : Loops R := Loops.none
def E_78 (N : Nat) : Env R := EG_78
def L_78 (N : Nat) : Loops R := LG_78
theorem grun_78 (x : aden ap_78 × hden hp_78) (k : KF R) : fnrun TT (EG_78) (drawAny TT WW) (LG_78) true Tryz.f78 (instA ap_78 x.1) (instH hp_78 x.2) k = Q_78 x (fun y => k (Pat.inst (.str) y.1) (instH [] y.2)) := by kernel_rfl
theorem good_78 (N : Nat) : GD (X := R) Tryz.prog QQ AA 78 ap_78 hp_78 (fun (x : aden ap_78 × hden hp_78) k => p_78 N x (fun y => k (Pat.inst (.str) y.1) (instH [] y.2))) :=
  gd_loud (E := E_78 N) mixed tyok (ek_base _ _ _) Tryz.func78 (by kernel_rfl) (by kernel_rfl) (by kernel_rfl) (by kernel_rfl) (loops_nil (L := L_78 N) (by kernel_rfl)) (fun x k => (grun_78 x k).trans (by kernel_rfl))

def ap_96 : List Pat := [.nilp]
def hp_96 : List (Option (Pat × Nat)) := []
abbrev Tp_96 (R : Type) : Type := (Unit × Unit) × (Unit) → ((Unit × (Unit)) → Option R) → Option R
def Q_96 (x : (Unit × Unit) × (Unit)) (κ0 : (Unit × (Unit)) → Option R) : Option R :=
κ0 ((), ())
def p_96 (N : Nat) (x : (Unit × Unit) × (Unit)) (κ0 : (Unit × (Unit)) → Option R) : Option R := Q_96 x κ0
def EG_96 : Env R := Env.base QQ LN AA
def LG_96 : Loops R := Loops.none
def E_96 (N : Nat) : Env R := EG_96
def L_96 (N : Nat) : Loops R := LG_96
theorem grun_96 (x : aden ap_96 × hden hp_96) (k : KF R) : fnrun TT (EG_96) (drawAny TT WW) (LG_96) false Tryz.f96 (instA ap_96 x.1) (instH hp_96 x.2) k = Q_96 x (fun y => k (Pat.inst (.nils) y.1) (instH [] y.2)) := by kernel_rfl
theorem good_96 (N : Nat) : GD (X := R) Tryz.prog QQ AA 96 ap_96 hp_96 (fun (x : aden ap_96 × hden hp_96) k => p_96 N x (fun y => k (Pat.inst (.nils) y.1) (instH [] y.2))) :=
  gd_loud (E := E_96 N) mixed tyok (ek_base _ _ _) Tryz.func96 (by kernel_rfl) (by kernel_rfl) (by kernel_rfl) (by kernel_rfl) (loops_nil (L := L_96 N) (by kernel_rfl)) (fun x k => (grun_96 x k).trans (by kernel_rfl))

def lv_97_6 : Live := [(3, none), (5, none), (11, none), (12, none), (13, none), (17, none)]
def pt_97_6 : SPat := ⟨[(3, .sl 0), (5, .int .u64), (11, .ros (.int .u64)), (12, .int .i64), (13, .int .i64), (17, .int .i64)], J7⟩
def px_97_6_0 : SPat := ⟨[(3, .sl 0), (11, .ros (.int .u64)), (12, .int .i64), (13, .int .i64)], J7⟩
def lo_97_6 : Exit → Live
  | .exit 2 => [(3, none), (11, none), (12, none), (13, none)]
  | _ => []
def lv_97_3 : Live := [(3, none), (11, none), (12, none), (13, none)]
def pt_97_3 : SPat := ⟨[(3, .sl 0), (11, .ros (.int .u64)), (12, .int .i64), (13, .int .i64)], J7⟩
def px_97_3_0 : SPat := ⟨[(3, .sl 0)], J7⟩
def lo_97_3 : Exit → Live
  | .exit 0 => [(3, none)]
  | _ => []
def ap_97 : List Pat := [.ros (.int .u64)]
def hp_97 : List (Option (Pat × Nat)) := []
abbrev Tl_97_6 (R : Type) : Type := ((Unit × Int × (List Int) × Int × Int × Int × Unit) × ((List Int) × Unit)) → (Y19 → Option R) → Option R
abbrev Tl_97_3 (R : Type) : Type := Y19 → (((Unit × Unit) × ((List Int) × Unit)) → Option R) → Option R
abbrev Tp_97 (R : Type) : Type := ((List Int) × Unit) × (Unit) → ((Unit × ((List Int) × Unit)) → Option R) → Option R
def C_97_6 (rec : ((Unit × Int × (List Int) × Int × Int × Int × Unit) × ((List Int) × Unit)) → Option R) (x : ((Unit × Int × (List Int) × Int × Int × Int × Unit) × ((List Int) × Unit))) (κ0 : Y19 → Option R) : Option R :=
let b := x.1.2.1
let e := x.1.2.2.1
let f := x.1.2.2.2.1
let c := x.1.2.2.2.2.1
let a := x.1.2.2.2.2.2.1
let h := x.2.1
bif (decide (a < 8)) then (
let d : Int := mulA .i64 8 a
bif decide (d < 0) then none else (
let i : Int := shrA .u64 b d
let j : Int := IntKind.wrap .u8 i
let g : (List Int) := [j]
bif (decide ((List.length h + List.length g) * 1 ≤ 140737488355328) && true) then (
let l : (List Int) := (h ++ g)
let m : Int := addA .i64 a 1
rec (((), b, e, f, c, m, ()), (l, ()))) else none)) else (
κ0 (((), e, f, c, ()), x.2))
def C_97_3 (m_97_6 : Tl_97_6 R) (rec : Y19 → Option R) (x : Y19) (κ0 : ((Unit × Unit) × ((List Int) × Unit)) → Option R) : Option R :=
let c := x.1.2.1
let d := x.1.2.2.1
let a := x.1.2.2.2.1
bif (decide (a < d)) then (
bif decide (0 ≤ a) then (
bif decide (a < ((List.length c) : Int)) then (
let i : Int := (List.getD c ((Int.toNat a)) (Sch.zero (.int .u64)))
m_97_6 (((), i, c, d, a, 0, ()), x.2) (fun b =>
let f := b.1.2.1
let h := b.1.2.2.1
let g := b.1.2.2.2.1
let e : Int := addA .i64 g 1
rec (((), f, h, e, ()), b.2))) else none) else none) else (
κ0 (((), ()), x.2))
def B_97_6 (N : Nat) (rec : ((Unit × Int × (List Int) × Int × Int × Int × Unit) × ((List Int) × Unit)) → Option R) (x : ((Unit × Int × (List Int) × Int × Int × Int × Unit) × ((List Int) × Unit))) (κ0 : Y19 → Option R) : Option R := C_97_6 rec x κ0
def l_97_6 (N : Nat) : Nat → ((Unit × Int × (List Int) × Int × Int × Int × Unit) × ((List Int) × Unit)) → (Y19 → Option R) → Option R
  | 0, _, _ => none
  | n + 1, x, κ0 => B_97_6 N (fun y => l_97_6 N n y κ0) x κ0
def B_97_3 (N : Nat) (rec : Y19 → Option R) (x : Y19) (κ0 : ((Unit × Unit) × ((List Int) × Unit)) → Option R) : Option R := C_97_3 (l_97_6 N N) rec x κ0
def l_97_3 (N : Nat) : Nat → Y19 → (((Unit × Unit) × ((List Int) × Unit)) → Option R) → Option R
  | 0, _, _ => none
  | n + 1, x, κ0 => B_97_3 N (fun y => l_97_3 N n y κ0) x κ0
def Q_97 (m_97_6 : Tl_97_6 R) (m_97_3 : Tl_97_3 R) (x : ((List Int) × Unit) × (Unit)) (κ0 : (Unit × ((List Int) × Unit)) → Option R) : Option R :=
let b := x.1.1
let f : Int := (((List.length b) : Nat) : Int)
let a : Int := mulA .i64 8 f
bif decide (0 ≤ a) then (
bif decide (((1 : Nat) : Int) * a ≤ 281474976710656) then (
bif decide (a ≤ 9223372036854775807) then (
let d : (List Int) := List.replicate 0 (Sch.zero (.int .u8))
let e : Int := (((List.length b) : Nat) : Int)
m_97_3 (((), b, e, 0, ()), (d, ())) (fun c =>
κ0 ((), c.2))) else none) else none) else none
def p_97 (N : Nat) (x : ((List Int) × Unit) × (Unit)) (κ0 : (Unit × ((List Int) × Unit)) → Option R) : Option R := Q_97 (l_97_6 N N) (l_97_3 N N) x κ0
def EG_97 : Env R := Env.base QQ LN AA
def LG_97 (m_97_6 : Tl_97_6 R) (m_97_3 : Tl_97_3 R) : Loops R := ((Loops.none).add 6 (loopBy 0 lv_97_6 pt_97_6 (fun x k => m_97_6 x (fun y => k (.exit 2) (px_97_6_0.inst y))))).add 3 (loopBy 0 lv_97_3 pt_97_3 (fun x k => m_97_3 x (fun y => k (.exit 0) (px_97_3_0.inst y))))
def E_97 (N : Nat) : Env R := EG_97
def L_97 (N : Nat) : Loops R := LG_97 (l_97_6 N N) (l_97_3 N N)
theorem gstep_97_6 (m_97_6 : Tl_97_6 R) (m_97_3 : Tl_97_3 R) (n : Nat) (x : pt_97_6.den) (k : Exit → St → Option R) : iter 0 lv_97_6 lo_97_6 (aexec TT (EG_97) (drawAny TT WW) (LG_97 m_97_6 m_97_3) (loopAt 6 (bodyOf Tryz.f97))) (n + 1) (pt_97_6.inst x) k = C_97_6 (fun y => iter 0 lv_97_6 lo_97_6 (aexec TT (EG_97) (drawAny TT WW) (LG_97 m_97_6 m_97_3) (loopAt 6 (bodyOf Tryz.f97))) n (pt_97_6.inst y) k) x (fun y => k (.exit 2) (px_97_6_0.inst y)) := by kernel_rfl
theorem rounds_97_6 (N : Nat) : Rounds 0 TT (E_97 (R := R) N) (drawAny TT WW) (L_97 N) 6 (loopAt 6 (bodyOf Tryz.f97)) :=
  rounds_of (p := pt_97_6) (l := fun (x : pt_97_6.den) k => l_97_6 N N x (fun y => k (.exit 2) (px_97_6_0.inst y))) (fun s k => rfl) (fun x k => (iter_eq (K := Exit → St → Option R) (ks := fun k => k) (l := fun n (x : pt_97_6.den) k => l_97_6 N n x (fun y => k (.exit 2) (px_97_6_0.inst y))) (B := fun (rec : pt_97_6.den → Option R) (x : pt_97_6.den) k => B_97_6 N rec x (fun y => k (.exit 2) (px_97_6_0.inst y))) (fun _ _ => rfl) (fun _ _ _ => rfl) (fun n x k => (gstep_97_6 (l_97_6 N N) (l_97_3 N N) n x k).trans (by kernel_rfl))) N x k)
theorem gstep_97_3 (m_97_6 : Tl_97_6 R) (m_97_3 : Tl_97_3 R) (n : Nat) (x : pt_97_3.den) (k : Exit → St → Option R) : iter 0 lv_97_3 lo_97_3 (aexec TT (EG_97) (drawAny TT WW) (LG_97 m_97_6 m_97_3) (loopAt 3 (bodyOf Tryz.f97))) (n + 1) (pt_97_3.inst x) k = C_97_3 m_97_6 (fun y => iter 0 lv_97_3 lo_97_3 (aexec TT (EG_97) (drawAny TT WW) (LG_97 m_97_6 m_97_3) (loopAt 3 (bodyOf Tryz.f97))) n (pt_97_3.inst y) k) x (fun y => k (.exit 0) (px_97_3_0.inst y)) := by kernel_rfl
theorem rounds_97_3 (N : Nat) : Rounds 0 TT (E_97 (R := R) N) (drawAny TT WW) (L_97 N) 3 (loopAt 3 (bodyOf Tryz.f97)) :=
  rounds_of (p := pt_97_3) (l := fun (x : pt_97_3.den) k => l_97_3 N N x (fun y => k (.exit 0) (px_97_3_0.inst y))) (fun s k => rfl) (fun x k => (iter_eq (K := Exit → St → Option R) (ks := fun k => k) (l := fun n (x : pt_97_3.den) k => l_97_3 N n x (fun y => k (.exit 0) (px_97_3_0.inst y))) (B := fun (rec : pt_97_3.den → Option R) (x : pt_97_3.den) k => B_97_3 N rec x (fun y => k (.exit 0) (px_97_3_0.inst y))) (fun _ _ => rfl) (fun _ _ _ => rfl) (fun n x k => (gstep_97_3 (l_97_6 N N) (l_97_3 N N) n x k).trans (by kernel_rfl))) N x k)
theorem loops_97 : loopsIn (bodyOf Tryz.f97) = [(3, loopAt 3 (bodyOf Tryz.f97)), (6, loopAt 6 (bodyOf Tryz.f97))] := by kernel_rfl
theorem grun_97 (m_97_6 : Tl_97_6 R) (m_97_3 : Tl_97_3 R) (x : aden ap_97 × hden hp_97) (k : KF R) : fnrun TT (EG_97) (drawAny TT WW) (LG_97 m_97_6 m_97_3) false Tryz.f97 (instA ap_97 x.1) (instH hp_97 x.2) k = Q_97 m_97_6 m_97_3 x (fun y => k (Pat.inst (.sl 0) y.1) (instH J7 y.2)) := by kernel_rfl
theorem good_97 (N : Nat) : GD (X := R) Tryz.prog QQ AA 97 ap_97 hp_97 (fun (x : aden ap_97 × hden hp_97) k => p_97 N x (fun y => k (Pat.inst (.sl 0) y.1) (instH J7 y.2))) :=
  gd_loud (E := E_97 N) mixed tyok (ek_base _ _ _) Tryz.func97 (by kernel_rfl) (by kernel_rfl) (by kernel_rfl) (by kernel_rfl) (loops_all (L := L_97 N) loops_97 (by
  simp only [List.forall_mem_cons, List.not_mem_nil, false_implies, implies_true, and_true]
  exact ⟨rounds_97_3 N, rounds_97_6 N⟩)) (fun x k => (grun_97 (l_97_6 N N) (l_97_3 N N) x k).trans (by kernel_rfl))

def ap_78_v1 : List Pat := [.ptr 0 []]
def hp_78_v1 : List (Option (Pat × Nat)) := [some (Z6, 174)]
abbrev Tp_78_v1 (R : Type) : Type := (Unit × Unit) × (Y8 × Unit) → ((ByteArray × (Y8 × Unit)) → Option R) → Option R
def Q_78_v1 (q_96 : Tp_96 R) (q_95 : Tp_95 R) (q_97 : Tp_97 R) (x : (Unit × Unit) × (Y8 × Unit)) (κ0 : (ByteArray × (Y8 × Unit)) → Option R) : Option R :=
let d := x.2.1.2.1
let a := x.2.1.2.2.1
let e := x.2.1.2.2.2.1
q_96 (((), ()), ()) (fun p =>
let o : Int := IntKind.wrap .u64 0
let n : Int := addA .u64 e o
let b : Int := subA .i64 128 0
bif decide (0 ≤ b) then (
bif decide (b ≤ 140737488355328) then (
bif decide (List.length (List.replicate ((Int.toNat b)) (Sch.zero (.int .u8))) * 1 ≤ 140737488355328) then (
let i : (List Int) := List.replicate ((Int.toNat b)) (Sch.zero (.int .u8))
q_95 ((d, i, n, true, ()), ()) (fun h =>
let l := h.1
q_97 ((((List.range 8).map fun j => l (0 + j)), ()), ()) (fun g =>
let c := g.2.1
bif decide (0 ≤ a) then (
bif decide (a ≤ (((List.length c) : Nat) : Int)) then (
bif decide (0 ≤ a) then (
let m : (List Int) := List.take ((Int.toNat a) - 0) (List.drop 0 c)
let f : ByteArray := listStr m
κ0 (f, x.2)) else none) else none) else none))) else none) else none) else none)
def p_78_v1 (N : Nat) (x : (Unit × Unit) × (Y8 × Unit)) (κ0 : (ByteArray × (Y8 × Unit)) → Option R) : Option R := Q_78_v1 (p_96 N) (p_95 N) (p_97 N) x κ0
def EG_78_v1 (q_96 : Tp_96 R) (q_95 : Tp_95 R) (q_97 : Tp_97 R) : Env R := (((Env.base QQ LN AA).add 96 ap_96 hp_96 (fun (x : aden ap_96 × hden hp_96) k => q_96 x (fun y => k (Pat.inst (.nils) y.1) (instH [] y.2)))).add 95 ap_95 hp_95 (fun (x : aden ap_95 × hden hp_95) k => q_95 x (fun y => k (Pat.inst (.tup (.fcons (.vec (.int .u64) 8) (.fcons (.int .i64) (.fnil)))) y) (instH hp_95 x.2)))).add 97 ap_97 hp_97 (fun (x : aden ap_97 × hden hp_97) k => q_97 x (fun y => k (Pat.inst (.sl 0) y.1) (instH J7 y.2)))
def LG_78_v1 : Loops R := Loops.none
def E_78_v1 (N : Nat) : Env R := EG_78_v1 (p_96 N) (p_95 N) (p_97 N)
def L_78_v1 (N : Nat) : Loops R := LG_78_v1
theorem grun_78_v1 (q_96 : Tp_96 R) (q_95 : Tp_95 R) (q_97 : Tp_97 R) (x : aden ap_78_v1 × hden hp_78_v1) (k : KF R) : fnrun TT (EG_78_v1 q_96 q_95 q_97) (drawAny TT WW) (LG_78_v1) true Tryz.f78 (instA ap_78_v1 x.1) (instH hp_78_v1 x.2) k = Q_78_v1 q_96 q_95 q_97 x (fun y => k (Pat.inst (.str) y.1) (instH [some (Z6, 174)] y.2)) := by kernel_rfl
theorem good_78_v1 (N : Nat) : GD (X := R) Tryz.prog QQ AA 78 ap_78_v1 hp_78_v1 (fun (x : aden ap_78_v1 × hden hp_78_v1) k => p_78_v1 N x (fun y => k (Pat.inst (.str) y.1) (instH [some (Z6, 174)] y.2))) :=
  gd_loud (E := E_78_v1 N) mixed tyok (ek_add (ek_add (ek_add (ek_base _ _ _) (good_96 N)) (good_95 N)) (good_97 N)) Tryz.func78 (by kernel_rfl) (by kernel_rfl) (by kernel_rfl) (by kernel_rfl) (loops_nil (L := L_78_v1 N) (by kernel_rfl)) (fun x k => (grun_78_v1 (p_96 N) (p_95 N) (p_97 N) x k).trans (by kernel_rfl))

def ap_96_v1 : List Pat := [.ptr 0 []]
def hp_96_v1 : List (Option (Pat × Nat)) := [some (Z8, 190), some (.lst (.int .u8), 5)]
abbrev Tp_96_v1 (R : Type) : Type := (Unit × Unit) × (Y5 × (List Int) × Unit) → ((Unit × (Y5 × (List Int) × (List Int) × Unit)) → Option R) → Option R
def Q_96_v1 (x : (Unit × Unit) × (Y5 × (List Int) × Unit)) (κ0 : (Unit × (Y5 × (List Int) × (List Int) × Unit)) → Option R) : Option R :=
let a := x.2.2.1
bif decide (List.length a * 1 ≤ 140737488355328) then (
κ0 ((), (x.2.1, a, a, ()))) else none
def p_96_v1 (N : Nat) (x : (Unit × Unit) × (Y5 × (List Int) × Unit)) (κ0 : (Unit × (Y5 × (List Int) × (List Int) × Unit)) → Option R) : Option R := Q_96_v1 x κ0
def EG_96_v1 : Env R := Env.base QQ LN AA
def LG_96_v1 : Loops R := Loops.none
def E_96_v1 (N : Nat) : Env R := EG_96_v1
def L_96_v1 (N : Nat) : Loops R := LG_96_v1
theorem grun_96_v1 (x : aden ap_96_v1 × hden hp_96_v1) (k : KF R) : fnrun TT (EG_96_v1) (drawAny TT WW) (LG_96_v1) false Tryz.f96 (instA ap_96_v1 x.1) (instH hp_96_v1 x.2) k = Q_96_v1 x (fun y => k (Pat.inst (.sl 2) y.1) (instH [some (Z8, 190), some (.lst (.int .u8), 5), some (.lst (.int .u8), 5)] y.2)) := by kernel_rfl
theorem good_96_v1 (N : Nat) : GD (X := R) Tryz.prog QQ AA 96 ap_96_v1 hp_96_v1 (fun (x : aden ap_96_v1 × hden hp_96_v1) k => p_96_v1 N x (fun y => k (Pat.inst (.sl 2) y.1) (instH [some (Z8, 190), some (.lst (.int .u8), 5), some (.lst (.int .u8), 5)] y.2))) :=
  gd_loud (E := E_96_v1 N) mixed tyok (ek_base _ _ _) Tryz.func96 (by kernel_rfl) (by kernel_rfl) (by kernel_rfl) (by kernel_rfl) (loops_nil (L := L_96_v1 N) (by kernel_rfl)) (fun x k => (grun_96_v1 x k).trans (by kernel_rfl))

def ap_78_v2 : List Pat := [.ptr 0 []]
def hp_78_v2 : List (Option (Pat × Nat)) := J10
abbrev Tp_78_v2 (R : Type) : Type := (Unit × Unit) × (Y8 × Y5 × (List Int) × Unit) → ((ByteArray × (Y8 × Y5 × (List Int) × Unit)) → Option R) → Option R
def Q_78_v2 (q_96_v1 : Tp_96_v1 R) (q_95 : Tp_95 R) (q_97 : Tp_97 R) (x : (Unit × Unit) × (Y8 × Y5 × (List Int) × Unit)) (κ0 : (ByteArray × (Y8 × Y5 × (List Int) × Unit)) → Option R) : Option R :=
let l := x.2.1.2.1
let a := x.2.1.2.2.1
let h := x.2.1.2.2.2.1
let u := x.2.2.2.1
q_96_v1 (((), ()), (x.2.2.1, u, ())) (fun d =>
let p := d.2.2.1
let c := d.2.2.2.1
let f : Int := (((List.length c) : Nat) : Int)
let o : Int := IntKind.wrap .u64 f
let i : Int := addA .u64 h o
let r : Int := (((List.length c) : Nat) : Int)
let b : Int := subA .i64 128 r
bif decide (0 ≤ b) then (
bif decide (b ≤ 140737488355328) then (
bif (decide ((List.length c + List.length (List.replicate ((Int.toNat b)) (Sch.zero (.int .u8)))) * 1 ≤ 140737488355328) && true) then (
let g : (List Int) := (c ++ List.replicate ((Int.toNat b)) (Sch.zero (.int .u8)))
q_95 ((l, g, i, true, ()), ()) (fun s =>
let t := s.1
q_97 ((((List.range 8).map fun j => t (0 + j)), ()), ()) (fun v =>
let e := v.2.1
bif decide (0 ≤ a) then (
bif decide (a ≤ (((List.length e) : Nat) : Int)) then (
bif decide (0 ≤ a) then (
let m : (List Int) := List.take ((Int.toNat a) - 0) (List.drop 0 e)
let n : ByteArray := listStr m
κ0 (n, (x.2.1, d.2.1, p, ()))) else none) else none) else none))) else none) else none) else none)
def p_78_v2 (N : Nat) (x : (Unit × Unit) × (Y8 × Y5 × (List Int) × Unit)) (κ0 : (ByteArray × (Y8 × Y5 × (List Int) × Unit)) → Option R) : Option R := Q_78_v2 (p_96_v1 N) (p_95 N) (p_97 N) x κ0
def EG_78_v2 (q_96_v1 : Tp_96_v1 R) (q_95 : Tp_95 R) (q_97 : Tp_97 R) : Env R := (((Env.base QQ LN AA).add 96 ap_96_v1 hp_96_v1 (fun (x : aden ap_96_v1 × hden hp_96_v1) k => q_96_v1 x (fun y => k (Pat.inst (.sl 2) y.1) (instH [some (Z8, 190), some (.lst (.int .u8), 5), some (.lst (.int .u8), 5)] y.2)))).add 95 ap_95 hp_95 (fun (x : aden ap_95 × hden hp_95) k => q_95 x (fun y => k (Pat.inst (.tup (.fcons (.vec (.int .u64) 8) (.fcons (.int .i64) (.fnil)))) y) (instH hp_95 x.2)))).add 97 ap_97 hp_97 (fun (x : aden ap_97 × hden hp_97) k => q_97 x (fun y => k (Pat.inst (.sl 0) y.1) (instH J7 y.2)))
def LG_78_v2 : Loops R := Loops.none
def E_78_v2 (N : Nat) : Env R := EG_78_v2 (p_96_v1 N) (p_95 N) (p_97 N)
def L_78_v2 (N : Nat) : Loops R := LG_78_v2
theorem grun_78_v2 (q_96_v1 : Tp_96_v1 R) (q_95 : Tp_95 R) (q_97 : Tp_97 R) (x : aden ap_78_v2 × hden hp_78_v2) (k : KF R) : fnrun TT (EG_78_v2 q_96_v1 q_95 q_97) (drawAny TT WW) (LG_78_v2) true Tryz.f78 (instA ap_78_v2 x.1) (instH hp_78_v2 x.2) k = Q_78_v2 q_96_v1 q_95 q_97 x (fun y => k (Pat.inst (.str) y.1) (instH J10 y.2)) := by kernel_rfl
theorem good_78_v2 (N : Nat) : GD (X := R) Tryz.prog QQ AA 78 ap_78_v2 hp_78_v2 (fun (x : aden ap_78_v2 × hden hp_78_v2) k => p_78_v2 N x (fun y => k (Pat.inst (.str) y.1) (instH J10 y.2))) :=
  gd_loud (E := E_78_v2 N) mixed tyok (ek_add (ek_add (ek_add (ek_base _ _ _) (good_96_v1 N)) (good_95 N)) (good_97 N)) Tryz.func78 (by kernel_rfl) (by kernel_rfl) (by kernel_rfl) (by kernel_rfl) (loops_nil (L := L_78_v2 N) (by kernel_rfl)) (fun x k => (grun_78_v2 (p_96_v1 N) (p_95 N) (p_97 N) x k).trans (by kernel_rfl))

end Go.Proofs.YtfcloeflcpcheaaGreat.Eng
