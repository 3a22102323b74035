/-
Plain functions that the functions of the program are shown to come to, printed by a program of the prover; each with its proof.
Conditions: none.
-/
import Derived.Test.YtfcloeflcpcheaaProg
import Derived.Test.YtfcloeflcpcheaaEngY
import Derived.KernelRfl
set_option linter.unusedVariables false
namespace Go.Proofs.Ytfcloeflcpcheaa.Eng
def TT : Types := [(23, ⟨.stru [(3, 0), (3, 1), (3, 2), (3, 3), (3, 4)], 5, 40, .node (.fcons (.int .i64 0) (.fcons (.int .i64 0) (.fcons (.int .i64 0) (.fcons (.int .i64 0) (.fcons (.int .i64 0) (.fnil)))))), some (.stru (.fcons (.int .i64) (.fcons (.int .i64) (.fcons (.int .i64) (.fcons (.int .i64) (.fcons (.int .i64) (.fnil))))))), true, false, none⟩),
  (9, ⟨.str, 1, 16, .str ⟨#[]⟩, some (.str), false, false, none⟩),
  (24, ⟨.slice 51, 1, 24, .nils, some (.sl (.stru (.fcons (.int .i64) (.fcons (.int .i64) (.fcons (.int .u64) (.fnil)))))), false, false, none⟩),
  (4, ⟨.bool, 1, 1, .bool false, some (.bool), false, false, none⟩),
  (3, ⟨.int .i64, 1, 8, .int .i64 0, some (.int .i64), false, false, none⟩),
  (47, ⟨.stru [(3, 0), (3, 1), (3, 2), (3, 3), (3, 4), (3, 5), (3, 6), (3, 7)], 8, 64, .node (.fcons (.int .i64 0) (.fcons (.int .i64 0) (.fcons (.int .i64 0) (.fcons (.int .i64 0) (.fcons (.int .i64 0) (.fcons (.int .i64 0) (.fcons (.int .i64 0) (.fcons (.int .i64 0) (.fnil))))))))), some (.stru (.fcons (.int .i64) (.fcons (.int .i64) (.fcons (.int .i64) (.fcons (.int .i64) (.fcons (.int .i64) (.fcons (.int .i64) (.fcons (.int .i64) (.fcons (.int .i64) (.fnil)))))))))), true, false, none⟩),
  (30, ⟨.int .i64, 1, 8, .int .i64 0, some (.int .i64), false, false, none⟩),
  (100, ⟨.ptr 145, 1, 8, .nilp, none, false, false, none⟩),
  (145, ⟨.stru [(3, 0), (3, 1), (3, 2), (3, 3)], 4, 32, .node (.fcons (.int .i64 0) (.fcons (.int .i64 0) (.fcons (.int .i64 0) (.fcons (.int .i64 0) (.fnil))))), some (.stru (.fcons (.int .i64) (.fcons (.int .i64) (.fcons (.int .i64) (.fcons (.int .i64) (.fnil)))))), true, false, none⟩),
  (46, ⟨.ptr 147, 1, 8, .nilp, none, false, false, none⟩),
  (26, ⟨.ptr 49, 1, 8, .nilp, none, false, false, none⟩),
  (52, ⟨.slice 29, 1, 24, .nils, some (.sl (.arr 128 (.int .u64))), false, false, none⟩),
  (29, ⟨.arr 128 27, 128, 1024, .vec (.int .u64) 128 (Sch.zero (.arr 128 (.int .u64))), some (.arr 128 (.int .u64)), true, false, none⟩),
  (147, ⟨.stru [(100, 0), (52, 1), (4, 2)], 3, 40, .node (.fcons (.nilp) (.fcons (.nils) (.fcons (.bool false) (.fnil)))), none, false, false, none⟩),
  (49, ⟨.stru [(46, 0), (47, 1)], 9, 72, .node (.fcons (.nilp) (.fcons (.node (.fcons (.int .i64 0) (.fcons (.int .i64 0) (.fcons (.int .i64 0) (.fcons (.int .i64 0) (.fcons (.int .i64 0) (.fcons (.int .i64 0) (.fcons (.int .i64 0) (.fcons (.int .i64 0) (.fnil)))))))))) (.fnil))), none, false, false, none⟩),
  (45, ⟨.stru [(3, 0), (3, 1), (3, 2), (3, 3), (3, 4), (3, 5), (3, 6), (3, 7)], 8, 64, .node (.fcons (.int .i64 0) (.fcons (.int .i64 0) (.fcons (.int .i64 0) (.fcons (.int .i64 0) (.fcons (.int .i64 0) (.fcons (.int .i64 0) (.fcons (.int .i64 0) (.fcons (.int .i64 0) (.fnil))))))))), some (.stru (.fcons (.int .i64) (.fcons (.int .i64) (.fcons (.int .i64) (.fcons (.int .i64) (.fcons (.int .i64) (.fcons (.int .i64) (.fcons (.int .i64) (.fcons (.int .i64) (.fnil)))))))))), true, false, none⟩),
  (57, ⟨.arr 8 27, 8, 64, .vec (.int .u64) 8 (Sch.zero (.arr 8 (.int .u64))), some (.arr 8 (.int .u64)), true, false, none⟩),
  (78, ⟨.int .u32, 1, 4, .int .u32 0, some (.int .u32), false, false, none⟩),
  (158, ⟨.slice 78, 1, 24, .nils, some (.sl (.int .u32)), false, false, none⟩),
  (114, ⟨.slice 5, 1, 24, .nils, some (.sl (.int .u8)), false, false, none⟩),
  (5, ⟨.int .u8, 1, 1, .int .u8 0, some (.int .u8), false, false, none⟩),
  (149, ⟨.slice 9, 1, 24, .nils, some (.sl (.str)), false, false, none⟩),
  (150, ⟨.ptr 178, 1, 8, .nilp, none, false, false, none⟩),
  (173, ⟨.ptr 189, 1, 8, .nilp, none, false, false, none⟩),
  (189, ⟨.stru [(3, 0), (4, 1), (114, 2), (3, 3)], 4, 48, .node (.fcons (.int .i64 0) (.fcons (.bool false) (.fcons (.nils) (.fcons (.int .i64 0) (.fnil))))), some (.stru (.fcons (.int .i64) (.fcons (.bool) (.fcons (.sl (.int .u8)) (.fcons (.int .i64) (.fnil)))))), false, true, none⟩),
  (56, ⟨.arr 8 27, 8, 64, .vec (.int .u64) 8 (Sch.zero (.arr 8 (.int .u64))), some (.arr 8 (.int .u64)), true, false, none⟩),
  (178, ⟨.stru [(173, 0), (56, 1), (3, 9), (27, 10)], 11, 88, .node (.fcons (.nilp) (.fcons (.vec (.int .u64) 8 (Sch.zero (.arr 8 (.int .u64)))) (.fcons (.int .i64 0) (.fcons (.int .u64 0) (.fnil))))), none, false, false, none⟩),
  (27, ⟨.int .u64, 1, 8, .int .u64 0, some (.int .u64), false, false, none⟩),
  (179, ⟨.slice 114, 1, 24, .nils, some (.sl (.sl (.int .u8))), false, false, none⟩),
  (157, ⟨.slice 27, 1, 24, .nils, some (.sl (.int .u64)), false, false, none⟩),
  (186, ⟨.arr 16 27, 16, 128, .vec (.int .u64) 16 (Sch.zero (.arr 16 (.int .u64))), some (.arr 16 (.int .u64)), true, false, none⟩),
  (190, ⟨.arr 8 65, 32, 256, .vec (.arr 4 (.int .i64)) 8 (Sch.zero (.arr 8 (.arr 4 (.int .i64)))), some (.arr 8 (.arr 4 (.int .i64))), true, false, none⟩),
  (65, ⟨.arr 4 3, 4, 32, .vec (.int .i64) 4 (Sch.zero (.arr 4 (.int .i64))), some (.arr 4 (.int .i64)), true, false, none⟩),
  (192, ⟨.arr 16 3, 16, 128, .vec (.int .i64) 16 (Sch.zero (.arr 16 (.int .i64))), some (.arr 16 (.int .i64)), true, false, none⟩),
  (203, ⟨.arr 10 9, 10, 160, .vec (.str) 10 (Sch.zero (.arr 10 (.str))), some (.arr 10 (.str)), true, false, none⟩),
  (159, ⟨.int .u64, 1, 8, .int .u64 0, some (.int .u64), false, false, none⟩),
  (34, ⟨.stru [(3, 0), (3, 1)], 2, 16, .node (.fcons (.int .i64 0) (.fcons (.int .i64 0) (.fnil))), some (.stru (.fcons (.int .i64) (.fcons (.int .i64) (.fnil)))), true, false, none⟩),
  (42, ⟨.slice 52, 1, 24, .nils, some (.sl (.sl (.arr 128 (.int .u64)))), false, false, some (29, .arr 128 (.int .u64))⟩),
  (197, ⟨.arr 4 27, 4, 32, .vec (.int .u64) 4 (Sch.zero (.arr 4 (.int .u64))), some (.arr 4 (.int .u64)), true, false, none⟩),
  (51, ⟨.stru [(3, 0), (3, 1), (27, 2)], 3, 24, .node (.fcons (.int .i64 0) (.fcons (.int .i64 0) (.fcons (.int .u64 0) (.fnil)))), some (.stru (.fcons (.int .i64) (.fcons (.int .i64) (.fcons (.int .u64) (.fnil))))), true, false, none⟩)]
theorem tyok : TyOk Try.prog TT := TyOk.of (by kernel_rfl)
theorem mixed : Try.prog.follows .mixedOrders = true := by kernel_rfl
def QQ : FuncId → Bool := fun f => memN [8, 9, 18, 42, 46, 47, 49, 50, 52, 54, 55, 56, 57, 58, 59, 60, 63, 76, 77, 78, 86, 87, 88, 97, 99, 101, 102, 106, 107, 108, 109, 110, 111, 112, 117, 118] f
def LN : FuncId → Bool := fun f => memN [49, 60, 83, 99] f
def AA : FuncId → Bool := fun f => memN [] f
def WW : Qs := fun f => (QQ f || LN f || AA f, QQ f || LN f)
abbrev Y0 : Type := (Unit × ((Int × (Int × (Int × (Int × (Int × (Int × (Int × (Int × Unit)))))))) × Unit)) × (Unit × (Unit × (Bool × Unit))) × (Int × (Int × (Int × (Int × Unit)))) × (List (Nat → Int)) × Unit
abbrev Y1 : Type := Int × (Int × (Int × (Int × (Int × (Int × (Int × (Int × Unit)))))))
abbrev Y2 : Type := Int × (Bool × (Unit × (Int × Unit)))
abbrev Y3 : Type := Unit × ((Nat → Int) × (Int × (Int × Unit)))
abbrev Y4 : Type := (Unit × (Y1 × Unit)) × (Unit × (Unit × (Bool × Unit))) × (Int × (Int × (Int × (Int × Unit)))) × (List (Nat → Int)) × (List (List (Nat → Int))) × Unit
abbrev Y5 : Type := List (List (Nat → Int))
abbrev Y6 : Type := (Nat → Int) × (Nat → Int) × Unit
abbrev Y7 : Type := Int × (Int × (Int × (Int × Unit)))
abbrev Y8 : Type := (Unit × Unit × Unit × Int × Int × Unit) × (Y2 × (List ByteArray) × (List Int) × (List (List Int)) × Unit)
abbrev Y9 : Type := (Nat → Int) × (Nat → Int) × (Nat → Int) × Unit
abbrev Y10 : Type := (Unit × Unit × (List ByteArray) × Int × Int × Unit) × (Y2 × (List Int) × (List (List Int)) × Unit)
abbrev Y11 : Type := Unit × (Unit × (Bool × Unit))
abbrev Y12 : Type := (List Int) × (List Int) × Unit
abbrev Y13 : Type := (Unit × Unit × (List Int) × Unit × Unit × Int × Unit) × ((Nat → Int) × (Nat → Int) × (Nat → Int) × (Nat → (Nat → Int)) × Unit)
abbrev Y14 : Type := (Unit × Unit × (List Int) × Unit × Int × Unit × Int × Unit) × ((Nat → Int) × (Nat → Int) × (Nat → Int) × (Nat → Int) × Unit)
abbrev Y15 : Type := (List (Nat → Int)) × (Nat → Int) × (Nat → Int) × Unit
abbrev Y16 : Type := Unit × (List (List Int)) × Int × Int × Unit
abbrev Y17 : Type := (Unit × (List Int) × Int × Int × Unit) × ((List Int) × Unit)
abbrev Y18 : Type := (Unit × (Y1 × Unit)) × Y11 × Y7 × (List (Nat → Int)) × (Nat → Int) × (List (Nat → Int)) × Unit
abbrev Y19 : Type := Unit × Unit × Int × Int × Unit
abbrev Y20 : Type := (Unit × Unit × (List Int) × Unit × Unit × Unit × Int × (Nat → (Nat → Int)) × Int × Unit) × ((Nat → Int) × (Nat → Int) × (Nat → Int) × (Nat → (Nat → Int)) × (Nat → Int) × Unit)
abbrev Y21 : Type := (Unit × Unit × (List Int) × Unit × Int × Unit × Int × Unit × Unit × Int × Unit) × ((Nat → Int) × (Nat → Int) × (Nat → Int) × (Nat → Int) × (Nat → Int) × (Nat → Int) × Unit)
abbrev Y22 : Type := (Unit × Unit × Unit × (List (Int × (Int × (Int × Unit)))) × Int × Int × Unit) × ((Unit × (Y1 × Unit)) × Y11 × Y7 × (List (Nat → Int)) × Y1 × (Nat → Int) × Unit)
abbrev Y23 : Type := (ByteArray × Unit × Unit × Unit × Int × Unit) × ((Nat → Int) × Y1 × Y5 × Unit)
abbrev Y24 : Type := (Unit × Unit) × ((List Int) × Unit)
abbrev Y25 : Type := Y3 × Y2 × (List Int) × Unit
abbrev Z0 : Pat := .node (.fcons (.int .i64) (.fcons (.int .i64) (.fcons (.int .i64) (.fcons (.int .i64) (.fcons (.int .i64) (.fcons (.int .i64) (.fcons (.int .i64) (.fcons (.int .i64) (.fnil)))))))))
abbrev Z1 : Pat := .node (.fcons (.int .i64) (.fcons (.int .i64) (.fcons (.int .i64) (.fcons (.int .i64) (.fnil)))))
abbrev Z2 : Pat := .node (.fcons (.ptr 2 []) (.fcons (.sl 3) (.fcons (.bool) (.fnil))))
abbrev Z3 : Pat := .node (.fcons (.ptr 1 []) (.fcons (.vec (.int .u64) 8) (.fcons (.int .i64) (.fcons (.int .u64) (.fnil)))))
abbrev Z4 : Pat := .node (.fcons (.nilp) (.fcons (.vec (.int .u64) 8) (.fcons (.int .i64) (.fcons (.int .u64) (.fnil)))))
abbrev Z5 : Pat := .node (.fcons (.ptr 1 []) (.fcons Z0 (.fnil)))
abbrev Z6 : Pat := .node (.fcons (.int .i64) (.fcons (.bool) (.fcons (.sl 1) (.fcons (.int .i64) (.fnil)))))
abbrev Z7 : Pat := .node (.fcons (.int .i64) (.fcons (.bool) (.fcons (.sl 2) (.fcons (.int .i64) (.fnil)))))
abbrev Z8 : Pat := .node (.fcons (.ptr 1 []) (.fcons (.sl 2) (.fcons (.bool) (.fnil))))
abbrev Z9 : Pat := .node (.fcons (.int .i64) (.fcons (.bool) (.fcons (.sl 3) (.fcons (.int .i64) (.fnil)))))
abbrev Z10 : Pat := .node (.fcons (.int .i64) (.fcons (.bool) (.fcons (.sl 4) (.fcons (.int .i64) (.fnil)))))
abbrev Z11 : Pat := .node (.fcons (.ptr 0 []) (.fcons (.sl 2) (.fcons (.bool) (.fnil))))
abbrev J0 : List (Option (Pat × Nat)) := [some (Z5, 49), some (Z2, 147), some (Z1, 145), some (.lst (.arr 128 (.int .u64)), 29)]
abbrev J1 : List (Option (Pat × Nat)) := [some (Z8, 147), some (Z1, 145), some (.lst (.arr 128 (.int .u64)), 29)]
abbrev J2 : List (Option (Pat × Nat)) := [some (Z5, 49), some (Z2, 147), some (Z1, 145), some (.lst (.arr 128 (.int .u64)), 29), some (.fam 29 (.arr 128 (.int .u64)), 52)]
abbrev J3 : List (Option (Pat × Nat)) := [some (.fam 29 (.arr 128 (.int .u64)), 52), some (.fam 29 (.arr 128 (.int .u64)), 52)]
abbrev J4 : List (Option (Pat × Nat)) := [some (.lst (.int .u8), 5)]
abbrev J5 : List (Option (Pat × Nat)) := [some (.fam 29 (.arr 128 (.int .u64)), 52)]
abbrev J6 : List (Option (Pat × Nat)) := [some (Z3, 178), some (Z7, 189), some (.lst (.int .u8), 5)]
abbrev J7 : List (Option (Pat × Nat)) := [some (Z3, 178), some (Z10, 189), none, some (.lst (.str), 9), some (.lst (.int .u8), 5)]
abbrev J8 : List (Option (Pat × Nat)) := [some (Z8, 147), some (Z1, 145), some (.lst (.arr 128 (.int .u64)), 29), some (.node (.fcons (.ptr 0 []) (.fcons Z0 (.fnil))), 49)]
abbrev J9 : List (Option (Pat × Nat)) := [some (.vec (.int .u64) 8, 56), some (.vec (.int .u64) 8, 56), some (.vec (.int .u64) 16, 186)]
abbrev J10 : List (Option (Pat × Nat)) := [some (Z6, 189), some (.lst (.int .u8), 5)]
abbrev J11 : List (Option (Pat × Nat)) := [some (Z3, 178), some (Z9, 189), none, some (.lst (.int .u8), 5)]
abbrev J12 : List (Option (Pat × Nat)) := [some (Z4, 178), some (.lst (.str), 9)]
abbrev J13 : List (Option (Pat × Nat)) := [some (Z1, 145), some (Z11, 147), some (.lst (.arr 128 (.int .u64)), 29)]
abbrev J14 : List (Option (Pat × Nat)) := [some (.vec (.int .i64) 16, 192), some (.vec (.int .i64) 16, 192)]
abbrev J15 : List (Option (Pat × Nat)) := [some (Z6, 189), some (.lst (.int .u8), 5), some (.lst (.str), 9)]
abbrev J16 : List (Option (Pat × Nat)) := [some (.vec (.int .u64) 128, 29), some (.vec (.int .u64) 128, 29)]
def ap_63 : List Pat := [.int .i64, .int .i64, .int .i64]
def hp_63 : List (Option (Pat × Nat)) := []
abbrev Tp_63 (R : Type) : Type := (Int × Int × Int × Unit) × (Unit) → (Bool → Option R) → Option R
def Q_63 {R : Type} (x : (Int × Int × Int × Unit) × (Unit)) (κ0 : Bool → Option R) : Option R :=
let i13 := x.1.1
let i14 := x.1.2.1
let i15 := x.1.2.2.1
bif (decide (i13 ≥ i14)) then (
κ0 ((decide (i13 ≤ i15)))) else (
κ0 false)
def p_63 {R : Type} (N : Nat) (x : (Int × Int × Int × Unit) × (Unit)) (κ0 : Bool → Option R) : Option R := Q_63 x κ0
def EG_63 {R : Type} : Env R := Env.base QQ LN AA
def LG_63 {R : Type} : Loops R := Loops.none
def E_63 {R : Type} (N : Nat) : Env R := EG_63
theorem eok_63 {R : Type} (N : Nat) : EK Try.prog (E_63 (R := R) N) := ek_base _ _ _
def L_63 {R : Type} (N : Nat) : Loops R := LG_63
theorem lok_63 {R : Type} (N : Nat) : LOK 0 TT (E_63 (R := R) N) (drawAny TT WW) (L_63 N) (bodyOf Try.f63) := loops_nil (by kernel_rfl)
theorem grun_63 {R : Type} (x : aden ap_63 × hden hp_63) (k : KF R) : fnrun TT (EG_63) (drawAny TT WW) (LG_63) true Try.f63 (instA ap_63 x.1) (instH hp_63 x.2) k = Q_63 x (fun y => k (Pat.inst (.bool) y) (instH hp_63 x.2)) := by kernel_rfl
theorem run_63 {R : Type} (N : Nat) (x : aden ap_63 × hden hp_63) (k : KF R) : fnrun TT (E_63 (R := R) N) (drawAny TT WW) (L_63 N) true Try.f63 (instA ap_63 x.1) (instH hp_63 x.2) k = p_63 N x (fun y => k (Pat.inst (.bool) y) (instH hp_63 x.2)) := (grun_63 x k).trans (by kernel_rfl)
theorem good_63 {R : Type} (N : Nat) : GD (X := R) Try.prog QQ AA 63 ap_63 hp_63 (fun (x : aden ap_63 × hden hp_63) k => p_63 N x (fun y => k (Pat.inst (.bool) y) (instH hp_63 x.2))) :=
  gd_quiet (E := E_63 N) (p := fun (x : aden ap_63 × hden hp_63) κ => p_63 N x (fun y => κ (Pat.inst (.bool) y))) mixed tyok (eok_63 N) Try.func63 (by kernel_rfl) (by kernel_rfl) (lok_63 N) (fun x k => run_63 N x k)

def ap_88 : List Pat := [.int .i64]
def hp_88 : List (Option (Pat × Nat)) := []
abbrev Tp_88 (R : Type) : Type := (Int × Unit) × (Unit) → (Bool → Option R) → Option R
def Q_88 {R : Type} (x : (Int × Unit) × (Unit)) (κ0 : Bool → Option R) : Option R :=
let i30 := x.1.1
bif (decide (i30 ≥ 0)) then (
κ0 ((decide (i30 ≤ 4611686018427387904)))) else (
κ0 false)
def p_88 {R : Type} (N : Nat) (x : (Int × Unit) × (Unit)) (κ0 : Bool → Option R) : Option R := Q_88 x κ0
def EG_88 {R : Type} : Env R := Env.base QQ LN AA
def LG_88 {R : Type} : Loops R := Loops.none
def E_88 {R : Type} (N : Nat) : Env R := EG_88
theorem eok_88 {R : Type} (N : Nat) : EK Try.prog (E_88 (R := R) N) := ek_base _ _ _
def L_88 {R : Type} (N : Nat) : Loops R := LG_88
theorem lok_88 {R : Type} (N : Nat) : LOK 0 TT (E_88 (R := R) N) (drawAny TT WW) (L_88 N) (bodyOf Try.f88) := loops_nil (by kernel_rfl)
theorem grun_88 {R : Type} (x : aden ap_88 × hden hp_88) (k : KF R) : fnrun TT (EG_88) (drawAny TT WW) (LG_88) true Try.f88 (instA ap_88 x.1) (instH hp_88 x.2) k = Q_88 x (fun y => k (Pat.inst (.bool) y) (instH hp_88 x.2)) := by kernel_rfl
theorem run_88 {R : Type} (N : Nat) (x : aden ap_88 × hden hp_88) (k : KF R) : fnrun TT (E_88 (R := R) N) (drawAny TT WW) (L_88 N) true Try.f88 (instA ap_88 x.1) (instH hp_88 x.2) k = p_88 N x (fun y => k (Pat.inst (.bool) y) (instH hp_88 x.2)) := (grun_88 x k).trans (by kernel_rfl)
theorem good_88 {R : Type} (N : Nat) : GD (X := R) Try.prog QQ AA 88 ap_88 hp_88 (fun (x : aden ap_88 × hden hp_88) k => p_88 N x (fun y => k (Pat.inst (.bool) y) (instH hp_88 x.2))) :=
  gd_quiet (E := E_88 N) (p := fun (x : aden ap_88 × hden hp_88) κ => p_88 N x (fun y => κ (Pat.inst (.bool) y))) mixed tyok (eok_88 N) Try.func88 (by kernel_rfl) (by kernel_rfl) (lok_88 N) (fun x k => run_88 N x k)

def ap_76 : List Pat := [.int .i64, .int .i64]
def hp_76 : List (Option (Pat × Nat)) := []
abbrev Tp_76 (R : Type) : Type := (Int × Int × Unit) × (Unit) → ((Int × (Int × Unit)) → Option R) → Option R
def Q_76 {R : Type} (q_88 : Tp_88 R) (x : (Int × Int × Unit) × (Unit)) (κ0 : (Int × (Int × Unit)) → Option R) : Option R :=
let i28 := x.1.1
let i29 := x.1.2.1
q_88 ((i28, ()), ()) (fun y31 =>
let b32 := y31
bif (!b32) then (
κ0 ((0, (1, ())))) else (
bif (decide (i29 < 1)) then (
κ0 ((0, (1, ())))) else (
bif decide (i29 = 0) then none else (
let i33 : Int := remA .i64 i28 i29
let i34 : Int := subA .i64 i28 i33
κ0 ((i34, (0, ())))))))
def p_76 {R : Type} (N : Nat) (x : (Int × Int × Unit) × (Unit)) (κ0 : (Int × (Int × Unit)) → Option R) : Option R := Q_76 (p_88 N) x κ0
def EG_76 {R : Type} (q_88 : Tp_88 R) : Env R := (Env.base QQ LN AA).add 88 ap_88 hp_88 (fun (x : aden ap_88 × hden hp_88) k => q_88 x (fun y => k (Pat.inst (.bool) y) (instH hp_88 x.2)))
def LG_76 {R : Type} : Loops R := Loops.none
def E_76 {R : Type} (N : Nat) : Env R := EG_76 (p_88 N)
theorem eok_76 {R : Type} (N : Nat) : EK Try.prog (E_76 (R := R) N) := ek_add (ek_base _ _ _) (good_88 N)
def L_76 {R : Type} (N : Nat) : Loops R := LG_76
theorem lok_76 {R : Type} (N : Nat) : LOK 0 TT (E_76 (R := R) N) (drawAny TT WW) (L_76 N) (bodyOf Try.f76) := loops_nil (by kernel_rfl)
theorem grun_76 {R : Type} (q_88 : Tp_88 R) (x : aden ap_76 × hden hp_76) (k : KF R) : fnrun TT (EG_76 q_88) (drawAny TT WW) (LG_76) true Try.f76 (instA ap_76 x.1) (instH hp_76 x.2) k = Q_76 q_88 x (fun y => k (Pat.inst (.tup (.fcons (.int .i64) (.fcons (.int .i64) (.fnil)))) y) (instH hp_76 x.2)) := by kernel_rfl
theorem run_76 {R : Type} (N : Nat) (x : aden ap_76 × hden hp_76) (k : KF R) : fnrun TT (E_76 (R := R) N) (drawAny TT WW) (L_76 N) true Try.f76 (instA ap_76 x.1) (instH hp_76 x.2) k = p_76 N x (fun y => k (Pat.inst (.tup (.fcons (.int .i64) (.fcons (.int .i64) (.fnil)))) y) (instH hp_76 x.2)) := (grun_76 (p_88 N) x k).trans (by kernel_rfl)
theorem good_76 {R : Type} (N : Nat) : GD (X := R) Try.prog QQ AA 76 ap_76 hp_76 (fun (x : aden ap_76 × hden hp_76) k => p_76 N x (fun y => k (Pat.inst (.tup (.fcons (.int .i64) (.fcons (.int .i64) (.fnil)))) y) (instH hp_76 x.2))) :=
  gd_quiet (E := E_76 N) (p := fun (x : aden ap_76 × hden hp_76) κ => p_76 N x (fun y => κ (Pat.inst (.tup (.fcons (.int .i64) (.fcons (.int .i64) (.fnil)))) y))) mixed tyok (eok_76 N) Try.func76 (by kernel_rfl) (by kernel_rfl) (lok_76 N) (fun x k => run_76 N x k)

def ap_42 : List Pat := [.node (.fcons (.int .i64) (.fcons (.int .i64) (.fcons (.int .i64) (.fcons (.int .i64) (.fcons (.int .i64) (.fnil))))))]
def hp_42 : List (Option (Pat × Nat)) := []
abbrev Tp_42 (R : Type) : Type := ((Int × Y7) × Unit) × (Unit) → ((Y1 × (Int × Unit)) → Option R) → Option R
def Q_42 {R : Type} (q_63 : Tp_63 R) (q_76 : Tp_76 R) (x : ((Int × Y7) × Unit) × (Unit)) (κ0 : (Y1 × (Int × Unit)) → Option R) : Option R :=
let i8 := x.1.1.1
let i9 := x.1.1.2.1
let i10 := x.1.1.2.2.1
let i11 := x.1.1.2.2.2.1
let i12 := x.1.1.2.2.2.2.1
q_63 ((i8, 1, 3, ()), ()) (fun y16 =>
let b17 : Bool := y16
bif b17 then (
q_63 ((i9, 1, 4294967295, ()), ()) (fun y18 =>
let b19 : Bool := y18
bif b19 then (
q_63 ((i11, 1, 16777215, ()), ()) (fun y20 =>
let b21 : Bool := y20
bif b21 then (
q_63 ((i10, 1, 4294967295, ()), ()) (fun y22 =>
let b23 := y22
bif b23 then (
let i24 : Int := quoA .i64 i10 8
bif (decide (i24 ≥ i11)) then (
q_63 ((i12, 4, 1024, ()), ()) (fun y25 =>
let b26 : Bool := y25
bif (!b26) then (
κ0 (((0, (0, (0, (0, (0, (0, (0, (0, ())))))))), (2, ())))) else (
let i27 : Int := mulA .i64 4 i11
q_76 ((i10, i27, ()), ()) (fun y35 =>
let i36 := y35.1
bif decide (i11 = 0) then none else (
let i38 : Int := quoA .i64 i36 i11
let i39 : Int := quoA .i64 i38 4
κ0 (((i8, (i9, (i11, (i10, (i36, (i38, (i39, (i12, ())))))))), (0, ())))))))) else (
κ0 (((0, (0, (0, (0, (0, (0, (0, (0, ())))))))), (2, ()))))) else (
κ0 (((0, (0, (0, (0, (0, (0, (0, (0, ())))))))), (2, ())))))) else (
κ0 (((0, (0, (0, (0, (0, (0, (0, (0, ())))))))), (2, ())))))) else (
κ0 (((0, (0, (0, (0, (0, (0, (0, (0, ())))))))), (2, ())))))) else (
κ0 (((0, (0, (0, (0, (0, (0, (0, (0, ())))))))), (2, ())))))
def p_42 {R : Type} (N : Nat) (x : ((Int × Y7) × Unit) × (Unit)) (κ0 : (Y1 × (Int × Unit)) → Option R) : Option R := Q_42 (p_63 N) (p_76 N) x κ0
def EG_42 {R : Type} (q_63 : Tp_63 R) (q_76 : Tp_76 R) : Env R := ((Env.base QQ LN AA).add 63 ap_63 hp_63 (fun (x : aden ap_63 × hden hp_63) k => q_63 x (fun y => k (Pat.inst (.bool) y) (instH hp_63 x.2)))).add 76 ap_76 hp_76 (fun (x : aden ap_76 × hden hp_76) k => q_76 x (fun y => k (Pat.inst (.tup (.fcons (.int .i64) (.fcons (.int .i64) (.fnil)))) y) (instH hp_76 x.2)))
def LG_42 {R : Type} : Loops R := Loops.none
def E_42 {R : Type} (N : Nat) : Env R := EG_42 (p_63 N) (p_76 N)
theorem eok_42 {R : Type} (N : Nat) : EK Try.prog (E_42 (R := R) N) := ek_add (ek_add (ek_base _ _ _) (good_63 N)) (good_76 N)
def L_42 {R : Type} (N : Nat) : Loops R := LG_42
theorem lok_42 {R : Type} (N : Nat) : LOK 0 TT (E_42 (R := R) N) (drawAny TT WW) (L_42 N) (bodyOf Try.f42) := loops_nil (by kernel_rfl)
theorem grun_42 {R : Type} (q_63 : Tp_63 R) (q_76 : Tp_76 R) (x : aden ap_42 × hden hp_42) (k : KF R) : fnrun TT (EG_42 q_63 q_76) (drawAny TT WW) (LG_42) true Try.f42 (instA ap_42 x.1) (instH hp_42 x.2) k = Q_42 q_63 q_76 x (fun y => k (Pat.inst (.tup (.fcons Z0 (.fcons (.int .i64) (.fnil)))) y) (instH hp_42 x.2)) := by kernel_rfl
theorem run_42 {R : Type} (N : Nat) (x : aden ap_42 × hden hp_42) (k : KF R) : fnrun TT (E_42 (R := R) N) (drawAny TT WW) (L_42 N) true Try.f42 (instA ap_42 x.1) (instH hp_42 x.2) k = p_42 N x (fun y => k (Pat.inst (.tup (.fcons Z0 (.fcons (.int .i64) (.fnil)))) y) (instH hp_42 x.2)) := (grun_42 (p_63 N) (p_76 N) x k).trans (by kernel_rfl)
theorem good_42 {R : Type} (N : Nat) : GD (X := R) Try.prog QQ AA 42 ap_42 hp_42 (fun (x : aden ap_42 × hden hp_42) k => p_42 N x (fun y => k (Pat.inst (.tup (.fcons Z0 (.fcons (.int .i64) (.fnil)))) y) (instH hp_42 x.2))) :=
  gd_quiet (E := E_42 N) (p := fun (x : aden ap_42 × hden hp_42) κ => p_42 N x (fun y => κ (Pat.inst (.tup (.fcons Z0 (.fcons (.int .i64) (.fnil)))) y))) mixed tyok (eok_42 N) Try.func42 (by kernel_rfl) (by kernel_rfl) (lok_42 N) (fun x k => run_42 N x k)

def ap_43 : List Pat := [.int .i64]
def hp_43 : List (Option (Pat × Nat)) := []
abbrev Tp_43 (R : Type) : Type := (Int × Unit) × (Unit) → (((Unit × (Int × Unit)) × (Unit)) → Option R) → (((Unit × (Int × Unit)) × (Y7 × Unit)) → Option R) → Option R
def Q_43 {R : Type} (x : (Int × Unit) × (Unit)) (κ0 : ((Unit × (Int × Unit)) × (Unit)) → Option R) (κ1 : ((Unit × (Int × Unit)) × (Y7 × Unit)) → Option R) : Option R :=
let i50 := x.1.1
bif (decide (i50 < 0)) then (
κ0 (((), (1, ())), ())) else (
bif (decide (i50 > 4194304)) then (
κ0 (((), (1, ())), ())) else (
κ1 (((), (0, ())), ((i50, (0, (0, (0, ())))), ()))))
def p_43 {R : Type} (N : Nat) (x : (Int × Unit) × (Unit)) (κ0 : ((Unit × (Int × Unit)) × (Unit)) → Option R) (κ1 : ((Unit × (Int × Unit)) × (Y7 × Unit)) → Option R) : Option R := Q_43 x κ0 κ1
def EG_43 {R : Type} : Env R := Env.base QQ LN AA
def LG_43 {R : Type} : Loops R := Loops.none
def E_43 {R : Type} (N : Nat) : Env R := EG_43
theorem eok_43 {R : Type} (N : Nat) : EK Try.prog (E_43 (R := R) N) := ek_base _ _ _
def L_43 {R : Type} (N : Nat) : Loops R := LG_43
theorem lok_43 {R : Type} (N : Nat) : LOK 0 TT (E_43 (R := R) N) (drawAny TT WW) (L_43 N) (bodyOf Try.f43) := loops_nil (by kernel_rfl)
theorem grun_43 {R : Type} (x : aden ap_43 × hden hp_43) (k : KF R) : fnrun TT (EG_43) (drawAny TT WW) (LG_43) true Try.f43 (instA ap_43 x.1) (instH hp_43 x.2) k = Q_43 x (fun y => k (Pat.inst (.tup (.fcons (.nilp) (.fcons (.int .i64) (.fnil)))) y.1) (instH [] y.2)) (fun y => k (Pat.inst (.tup (.fcons (.ptr 0 []) (.fcons (.int .i64) (.fnil)))) y.1) (instH [some (Z1, 145)] y.2)) := by kernel_rfl
theorem run_43 {R : Type} (N : Nat) (x : aden ap_43 × hden hp_43) (k : KF R) : fnrun TT (E_43 (R := R) N) (drawAny TT WW) (L_43 N) true Try.f43 (instA ap_43 x.1) (instH hp_43 x.2) k = p_43 N x (fun y => k (Pat.inst (.tup (.fcons (.nilp) (.fcons (.int .i64) (.fnil)))) y.1) (instH [] y.2)) (fun y => k (Pat.inst (.tup (.fcons (.ptr 0 []) (.fcons (.int .i64) (.fnil)))) y.1) (instH [some (Z1, 145)] y.2)) := (grun_43 x k).trans (by kernel_rfl)
theorem good_43 {R : Type} (N : Nat) : GD (X := R) Try.prog QQ AA 43 ap_43 hp_43 (fun (x : aden ap_43 × hden hp_43) k => p_43 N x (fun y => k (Pat.inst (.tup (.fcons (.nilp) (.fcons (.int .i64) (.fnil)))) y.1) (instH [] y.2)) (fun y => k (Pat.inst (.tup (.fcons (.ptr 0 []) (.fcons (.int .i64) (.fnil)))) y.1) (instH [some (Z1, 145)] y.2))) :=
  gd_loud (E := E_43 N) (p := fun (x : aden ap_43 × hden hp_43) k => p_43 N x (fun y => k (Pat.inst (.tup (.fcons (.nilp) (.fcons (.int .i64) (.fnil)))) y.1) (instH [] y.2)) (fun y => k (Pat.inst (.tup (.fcons (.ptr 0 []) (.fcons (.int .i64) (.fnil)))) y.1) (instH [some (Z1, 145)] y.2))) mixed tyok (eok_43 N) Try.func43 (by kernel_rfl) (by kernel_rfl) (by kernel_rfl) (by kernel_rfl) (lok_43 N) (fun x k => run_43 N x k)

def ap_44 : List Pat := [.nilp, .int .i64]
def hp_44 : List (Option (Pat × Nat)) := []
abbrev Tp_44 (R : Type) : Type := (Unit × Int × Unit) × (Unit) → (((Unit × (Int × Unit)) × (Unit)) → Option R) → Option R
def Q_44 {R : Type} (x : (Unit × Int × Unit) × (Unit)) (κ0 : ((Unit × (Int × Unit)) × (Unit)) → Option R) : Option R :=
κ0 (((), (11, ())), ())
def p_44 {R : Type} (N : Nat) (x : (Unit × Int × Unit) × (Unit)) (κ0 : ((Unit × (Int × Unit)) × (Unit)) → Option R) : Option R := Q_44 x κ0
def EG_44 {R : Type} : Env R := Env.base QQ LN AA
def LG_44 {R : Type} : Loops R := Loops.none
def E_44 {R : Type} (N : Nat) : Env R := EG_44
theorem eok_44 {R : Type} (N : Nat) : EK Try.prog (E_44 (R := R) N) := ek_base _ _ _
def L_44 {R : Type} (N : Nat) : Loops R := LG_44
theorem lok_44 {R : Type} (N : Nat) : LOK 0 TT (E_44 (R := R) N) (drawAny TT WW) (L_44 N) (bodyOf Try.f44) := loops_nil (by kernel_rfl)
theorem grun_44 {R : Type} (x : aden ap_44 × hden hp_44) (k : KF R) : fnrun TT (EG_44) (drawAny TT WW) (LG_44) true Try.f44 (instA ap_44 x.1) (instH hp_44 x.2) k = Q_44 x (fun y => k (Pat.inst (.tup (.fcons (.nilp) (.fcons (.int .i64) (.fnil)))) y.1) (instH [] y.2)) := by kernel_rfl
theorem run_44 {R : Type} (N : Nat) (x : aden ap_44 × hden hp_44) (k : KF R) : fnrun TT (E_44 (R := R) N) (drawAny TT WW) (L_44 N) true Try.f44 (instA ap_44 x.1) (instH hp_44 x.2) k = p_44 N x (fun y => k (Pat.inst (.tup (.fcons (.nilp) (.fcons (.int .i64) (.fnil)))) y.1) (instH [] y.2)) := (grun_44 x k).trans (by kernel_rfl)
theorem good_44 {R : Type} (N : Nat) : GD (X := R) Try.prog QQ AA 44 ap_44 hp_44 (fun (x : aden ap_44 × hden hp_44) k => p_44 N x (fun y => k (Pat.inst (.tup (.fcons (.nilp) (.fcons (.int .i64) (.fnil)))) y.1) (instH [] y.2))) :=
  gd_loud (E := E_44 N) (p := fun (x : aden ap_44 × hden hp_44) k => p_44 N x (fun y => k (Pat.inst (.tup (.fcons (.nilp) (.fcons (.int .i64) (.fnil)))) y.1) (instH [] y.2))) mixed tyok (eok_44 N) Try.func44 (by kernel_rfl) (by kernel_rfl) (by kernel_rfl) (by kernel_rfl) (lok_44 N) (fun x k => run_44 N x k)

def ap_45 : List Pat := [.nilp, .node (.fcons (.int .i64) (.fcons (.int .i64) (.fcons (.int .i64) (.fcons (.int .i64) (.fcons (.int .i64) (.fcons (.int .i64) (.fcons (.int .i64) (.fcons (.int .i64) (.fnil)))))))))]
def hp_45 : List (Option (Pat × Nat)) := []
abbrev Tp_45 (R : Type) : Type := (Unit × Y1 × Unit) × (Unit) → (((Unit × (Int × Unit)) × (Unit)) → Option R) → Option R
def Q_45 {R : Type} (x : (Unit × Y1 × Unit) × (Unit)) (κ0 : ((Unit × (Int × Unit)) × (Unit)) → Option R) : Option R :=
κ0 (((), (11, ())), ())
def p_45 {R : Type} (N : Nat) (x : (Unit × Y1 × Unit) × (Unit)) (κ0 : ((Unit × (Int × Unit)) × (Unit)) → Option R) : Option R := Q_45 x κ0
def EG_45 {R : Type} : Env R := Env.base QQ LN AA
def LG_45 {R : Type} : Loops R := Loops.none
def E_45 {R : Type} (N : Nat) : Env R := EG_45
theorem eok_45 {R : Type} (N : Nat) : EK Try.prog (E_45 (R := R) N) := ek_base _ _ _
def L_45 {R : Type} (N : Nat) : Loops R := LG_45
theorem lok_45 {R : Type} (N : Nat) : LOK 0 TT (E_45 (R := R) N) (drawAny TT WW) (L_45 N) (bodyOf Try.f45) := loops_nil (by kernel_rfl)
theorem grun_45 {R : Type} (x : aden ap_45 × hden hp_45) (k : KF R) : fnrun TT (EG_45) (drawAny TT WW) (LG_45) true Try.f45 (instA ap_45 x.1) (instH hp_45 x.2) k = Q_45 x (fun y => k (Pat.inst (.tup (.fcons (.nilp) (.fcons (.int .i64) (.fnil)))) y.1) (instH [] y.2)) := by kernel_rfl
theorem run_45 {R : Type} (N : Nat) (x : aden ap_45 × hden hp_45) (k : KF R) : fnrun TT (E_45 (R := R) N) (drawAny TT WW) (L_45 N) true Try.f45 (instA ap_45 x.1) (instH hp_45 x.2) k = p_45 N x (fun y => k (Pat.inst (.tup (.fcons (.nilp) (.fcons (.int .i64) (.fnil)))) y.1) (instH [] y.2)) := (grun_45 x k).trans (by kernel_rfl)
theorem good_45 {R : Type} (N : Nat) : GD (X := R) Try.prog QQ AA 45 ap_45 hp_45 (fun (x : aden ap_45 × hden hp_45) k => p_45 N x (fun y => k (Pat.inst (.tup (.fcons (.nilp) (.fcons (.int .i64) (.fnil)))) y.1) (instH [] y.2))) :=
  gd_loud (E := E_45 N) (p := fun (x : aden ap_45 × hden hp_45) k => p_45 N x (fun y => k (Pat.inst (.tup (.fcons (.nilp) (.fcons (.int .i64) (.fnil)))) y.1) (instH [] y.2))) mixed tyok (eok_45 N) Try.func45 (by kernel_rfl) (by kernel_rfl) (by kernel_rfl) (by kernel_rfl) (lok_45 N) (fun x k => run_45 N x k)

def ap_44_v1 : List Pat := [.ptr 0 [], .int .i64]
def hp_44_v1 : List (Option (Pat × Nat)) := [some (Z1, 145)]
abbrev Tp_44_v1 (R : Type) : Type := (Unit × Int × Unit) × (Y7 × Unit) → (((Unit × (Int × Unit)) × (Y7 × Unit)) → Option R) → (((Unit × (Int × Unit)) × (Y7 × Y11 × (List (Nat → Int)) × Unit)) → Option R) → Option R
def Q_44_v1 {R : Type} (x : (Unit × Int × Unit) × (Y7 × Unit)) (κ0 : ((Unit × (Int × Unit)) × (Y7 × Unit)) → Option R) (κ1 : ((Unit × (Int × Unit)) × (Y7 × Y11 × (List (Nat → Int)) × Unit)) → Option R) : Option R :=
let i78 := x.1.2.1
let i79 := x.2.1.1
let i80 := x.2.1.2.1
let i81 := x.2.1.2.2.1
let i82 := x.2.1.2.2.2.1
bif (decide (i78 < 0)) then (
κ0 (((), (1, ())), x.2)) else (
let i83 : Int := subA .i64 i79 i80
bif (decide (i78 > i83)) then (
κ0 (((), (4, ())), x.2)) else (
let i84 : Int := addA .i64 i80 i78
let i85 : Int := maxA i81 i84
let i86 : Int := addA .i64 i82 1
bif decide (0 ≤ i78) then (
bif decide (i78 ≤ i78) then (
bif decide (((1024 : Nat) : Int) * i78 ≤ 281474976710656) then (
bif decide (i78 ≤ 9223372036854775807) then (
let l87 : (List (Nat → Int)) := List.replicate ((Int.toNat i78)) (Sch.zero (.arr 128 (.int .u64)))
κ1 (((), (0, ())), ((i79, (i84, (i85, (i86, ())))), ((), ((), (true, ()))), l87, ()))) else none) else none) else none) else none))
def p_44_v1 {R : Type} (N : Nat) (x : (Unit × Int × Unit) × (Y7 × Unit)) (κ0 : ((Unit × (Int × Unit)) × (Y7 × Unit)) → Option R) (κ1 : ((Unit × (Int × Unit)) × (Y7 × Y11 × (List (Nat → Int)) × Unit)) → Option R) : Option R := Q_44_v1 x κ0 κ1
def EG_44_v1 {R : Type} : Env R := Env.base QQ LN AA
def LG_44_v1 {R : Type} : Loops R := Loops.none
def E_44_v1 {R : Type} (N : Nat) : Env R := EG_44_v1
theorem eok_44_v1 {R : Type} (N : Nat) : EK Try.prog (E_44_v1 (R := R) N) := ek_base _ _ _
def L_44_v1 {R : Type} (N : Nat) : Loops R := LG_44_v1
theorem lok_44_v1 {R : Type} (N : Nat) : LOK 1 TT (E_44_v1 (R := R) N) (drawAny TT WW) (L_44_v1 N) (bodyOf Try.f44) := loops_nil (by kernel_rfl)
theorem grun_44_v1 {R : Type} (x : aden ap_44_v1 × hden hp_44_v1) (k : KF R) : fnrun TT (EG_44_v1) (drawAny TT WW) (LG_44_v1) true Try.f44 (instA ap_44_v1 x.1) (instH hp_44_v1 x.2) k = Q_44_v1 x (fun y => k (Pat.inst (.tup (.fcons (.nilp) (.fcons (.int .i64) (.fnil)))) y.1) (instH [some (Z1, 145)] y.2)) (fun y => k (Pat.inst (.tup (.fcons (.ptr 1 []) (.fcons (.int .i64) (.fnil)))) y.1) (instH J13 y.2)) := by kernel_rfl
theorem run_44_v1 {R : Type} (N : Nat) (x : aden ap_44_v1 × hden hp_44_v1) (k : KF R) : fnrun TT (E_44_v1 (R := R) N) (drawAny TT WW) (L_44_v1 N) true Try.f44 (instA ap_44_v1 x.1) (instH hp_44_v1 x.2) k = p_44_v1 N x (fun y => k (Pat.inst (.tup (.fcons (.nilp) (.fcons (.int .i64) (.fnil)))) y.1) (instH [some (Z1, 145)] y.2)) (fun y => k (Pat.inst (.tup (.fcons (.ptr 1 []) (.fcons (.int .i64) (.fnil)))) y.1) (instH J13 y.2)) := (grun_44_v1 x k).trans (by kernel_rfl)
theorem good_44_v1 {R : Type} (N : Nat) : GD (X := R) Try.prog QQ AA 44 ap_44_v1 hp_44_v1 (fun (x : aden ap_44_v1 × hden hp_44_v1) k => p_44_v1 N x (fun y => k (Pat.inst (.tup (.fcons (.nilp) (.fcons (.int .i64) (.fnil)))) y.1) (instH [some (Z1, 145)] y.2)) (fun y => k (Pat.inst (.tup (.fcons (.ptr 1 []) (.fcons (.int .i64) (.fnil)))) y.1) (instH J13 y.2))) :=
  gd_loud (E := E_44_v1 N) (p := fun (x : aden ap_44_v1 × hden hp_44_v1) k => p_44_v1 N x (fun y => k (Pat.inst (.tup (.fcons (.nilp) (.fcons (.int .i64) (.fnil)))) y.1) (instH [some (Z1, 145)] y.2)) (fun y => k (Pat.inst (.tup (.fcons (.ptr 1 []) (.fcons (.int .i64) (.fnil)))) y.1) (instH J13 y.2))) mixed tyok (eok_44_v1 N) Try.func44 (by kernel_rfl) (by kernel_rfl) (by kernel_rfl) (by kernel_rfl) (lok_44_v1 N) (fun x k => run_44_v1 N x k)

def ap_77 : List Pat := [.ptr 0 []]
def hp_77 : List (Option (Pat × Nat)) := J1
abbrev Tp_77 (R : Type) : Type := (Unit × Unit) × (Y11 × Y7 × (List (Nat → Int)) × Unit) → (Int → Option R) → Option R
def Q_77 {R : Type} (x : (Unit × Unit) × (Y11 × Y7 × (List (Nat → Int)) × Unit)) (κ0 : Int → Option R) : Option R :=
let l135 := x.2.2.2.1
let i136 : Int := (((List.length l135) : Nat) : Int)
κ0 i136
def p_77 {R : Type} (N : Nat) (x : (Unit × Unit) × (Y11 × Y7 × (List (Nat → Int)) × Unit)) (κ0 : Int → Option R) : Option R := Q_77 x κ0
def EG_77 {R : Type} : Env R := Env.base QQ LN AA
def LG_77 {R : Type} : Loops R := Loops.none
def E_77 {R : Type} (N : Nat) : Env R := EG_77
theorem eok_77 {R : Type} (N : Nat) : EK Try.prog (E_77 (R := R) N) := ek_base _ _ _
def L_77 {R : Type} (N : Nat) : Loops R := LG_77
theorem lok_77 {R : Type} (N : Nat) : LOK 3 TT (E_77 (R := R) N) (drawAny TT WW) (L_77 N) (bodyOf Try.f77) := loops_nil (by kernel_rfl)
theorem grun_77 {R : Type} (x : aden ap_77 × hden hp_77) (k : KF R) : fnrun TT (EG_77) (drawAny TT WW) (LG_77) true Try.f77 (instA ap_77 x.1) (instH hp_77 x.2) k = Q_77 x (fun y => k (Pat.inst (.int .i64) y) (instH hp_77 x.2)) := by kernel_rfl
theorem run_77 {R : Type} (N : Nat) (x : aden ap_77 × hden hp_77) (k : KF R) : fnrun TT (E_77 (R := R) N) (drawAny TT WW) (L_77 N) true Try.f77 (instA ap_77 x.1) (instH hp_77 x.2) k = p_77 N x (fun y => k (Pat.inst (.int .i64) y) (instH hp_77 x.2)) := (grun_77 x k).trans (by kernel_rfl)
theorem good_77 {R : Type} (N : Nat) : GD (X := R) Try.prog QQ AA 77 ap_77 hp_77 (fun (x : aden ap_77 × hden hp_77) k => p_77 N x (fun y => k (Pat.inst (.int .i64) y) (instH hp_77 x.2))) :=
  gd_quiet (E := E_77 N) (p := fun (x : aden ap_77 × hden hp_77) κ => p_77 N x (fun y => κ (Pat.inst (.int .i64) y))) mixed tyok (eok_77 N) Try.func77 (by kernel_rfl) (by kernel_rfl) (lok_77 N) (fun x k => run_77 N x k)

def ap_45_v1 : List Pat := [.ptr 0 [], .node (.fcons (.int .i64) (.fcons (.int .i64) (.fcons (.int .i64) (.fcons (.int .i64) (.fcons (.int .i64) (.fcons (.int .i64) (.fcons (.int .i64) (.fcons (.int .i64) (.fnil)))))))))]
def hp_45_v1 : List (Option (Pat × Nat)) := J1
abbrev Tp_45_v1 (R : Type) : Type := (Unit × Y1 × Unit) × (Y11 × Y7 × (List (Nat → Int)) × Unit) → (((Unit × (Int × Unit)) × (Y11 × Y7 × (List (Nat → Int)) × Unit)) → Option R) → (((Unit × (Int × Unit)) × (Y11 × Y7 × (List (Nat → Int)) × (Unit × (Y1 × Unit)) × Unit)) → Option R) → Option R
def Q_45_v1 {R : Type} (q_77 : Tp_77 R) (x : (Unit × Y1 × Unit) × (Y11 × Y7 × (List (Nat → Int)) × Unit)) (κ0 : ((Unit × (Int × Unit)) × (Y11 × Y7 × (List (Nat → Int)) × Unit)) → Option R) (κ1 : ((Unit × (Int × Unit)) × (Y11 × Y7 × (List (Nat → Int)) × (Unit × (Y1 × Unit)) × Unit)) → Option R) : Option R :=
let i118 := x.1.2.1.2.2.1
let i120 := x.1.2.1.2.2.2.2.1
let l129 := x.2.2.2.1
bif (decide (i118 < 1)) then (
κ0 (((), (11, ())), (x.2.1, x.2.2.1, l129, ()))) else (
q_77 (((), ()), (x.2.1, x.2.2.1, l129, ())) (fun y137 =>
let i138 : Int := y137
bif (decide (i138 < i120)) then (
κ0 (((), (9, ())), (x.2.1, x.2.2.1, l129, ()))) else (
κ1 (((), (0, ())), (x.2.1, x.2.2.1, l129, x.1, ())))))
def p_45_v1 {R : Type} (N : Nat) (x : (Unit × Y1 × Unit) × (Y11 × Y7 × (List (Nat → Int)) × Unit)) (κ0 : ((Unit × (Int × Unit)) × (Y11 × Y7 × (List (Nat → Int)) × Unit)) → Option R) (κ1 : ((Unit × (Int × Unit)) × (Y11 × Y7 × (List (Nat → Int)) × (Unit × (Y1 × Unit)) × Unit)) → Option R) : Option R := Q_45_v1 (p_77 N) x κ0 κ1
def EG_45_v1 {R : Type} (q_77 : Tp_77 R) : Env R := (Env.base QQ LN AA).add 77 ap_77 hp_77 (fun (x : aden ap_77 × hden hp_77) k => q_77 x (fun y => k (Pat.inst (.int .i64) y) (instH hp_77 x.2)))
def LG_45_v1 {R : Type} : Loops R := Loops.none
def E_45_v1 {R : Type} (N : Nat) : Env R := EG_45_v1 (p_77 N)
theorem eok_45_v1 {R : Type} (N : Nat) : EK Try.prog (E_45_v1 (R := R) N) := ek_add (ek_base _ _ _) (good_77 N)
def L_45_v1 {R : Type} (N : Nat) : Loops R := LG_45_v1
theorem lok_45_v1 {R : Type} (N : Nat) : LOK 3 TT (E_45_v1 (R := R) N) (drawAny TT WW) (L_45_v1 N) (bodyOf Try.f45) := loops_nil (by kernel_rfl)
theorem grun_45_v1 {R : Type} (q_77 : Tp_77 R) (x : aden ap_45_v1 × hden hp_45_v1) (k : KF R) : fnrun TT (EG_45_v1 q_77) (drawAny TT WW) (LG_45_v1) true Try.f45 (instA ap_45_v1 x.1) (instH hp_45_v1 x.2) k = Q_45_v1 q_77 x (fun y => k (Pat.inst (.tup (.fcons (.nilp) (.fcons (.int .i64) (.fnil)))) y.1) (instH J1 y.2)) (fun y => k (Pat.inst (.tup (.fcons (.ptr 3 []) (.fcons (.int .i64) (.fnil)))) y.1) (instH J8 y.2)) := by kernel_rfl
theorem run_45_v1 {R : Type} (N : Nat) (x : aden ap_45_v1 × hden hp_45_v1) (k : KF R) : fnrun TT (E_45_v1 (R := R) N) (drawAny TT WW) (L_45_v1 N) true Try.f45 (instA ap_45_v1 x.1) (instH hp_45_v1 x.2) k = p_45_v1 N x (fun y => k (Pat.inst (.tup (.fcons (.nilp) (.fcons (.int .i64) (.fnil)))) y.1) (instH J1 y.2)) (fun y => k (Pat.inst (.tup (.fcons (.ptr 3 []) (.fcons (.int .i64) (.fnil)))) y.1) (instH J8 y.2)) := (grun_45_v1 (p_77 N) x k).trans (by kernel_rfl)
theorem good_45_v1 {R : Type} (N : Nat) : GD (X := R) Try.prog QQ AA 45 ap_45_v1 hp_45_v1 (fun (x : aden ap_45_v1 × hden hp_45_v1) k => p_45_v1 N x (fun y => k (Pat.inst (.tup (.fcons (.nilp) (.fcons (.int .i64) (.fnil)))) y.1) (instH J1 y.2)) (fun y => k (Pat.inst (.tup (.fcons (.ptr 3 []) (.fcons (.int .i64) (.fnil)))) y.1) (instH J8 y.2))) :=
  gd_loud (E := E_45_v1 N) (p := fun (x : aden ap_45_v1 × hden hp_45_v1) k => p_45_v1 N x (fun y => k (Pat.inst (.tup (.fcons (.nilp) (.fcons (.int .i64) (.fnil)))) y.1) (instH J1 y.2)) (fun y => k (Pat.inst (.tup (.fcons (.ptr 3 []) (.fcons (.int .i64) (.fnil)))) y.1) (instH J8 y.2))) mixed tyok (eok_45_v1 N) Try.func45 (by kernel_rfl) (by kernel_rfl) (by kernel_rfl) (by kernel_rfl) (lok_45_v1 N) (fun x k => run_45_v1 N x k)

def ap_8 : List Pat := []
def hp_8 : List (Option (Pat × Nat)) := []
abbrev Tp_8 (R : Type) : Type := (Unit) × (Unit) → (Bool → Option R) → Option R
def Q_8 {R : Type} (q_42 : Tp_42 R) (q_43 : Tp_43 R) (q_44 : Tp_44 R) (q_45 : Tp_45 R) (q_44_v1 : Tp_44_v1 R) (q_45_v1 : Tp_45_v1 R) (x : (Unit) × (Unit)) (κ0 : Bool → Option R) : Option R :=
q_42 (((1, (1, (16, (2, (32, ()))))), ()), ()) (fun y40 =>
q_43 ((31, ()), ()) (fun y51 =>
q_44 (((), 15, ()), ()) (fun y54 =>
q_44 (((), 16, ()), ()) (fun y56 =>
q_45 (((), y40.1, ()), ()) (fun y66 =>
let i67 := y66.1.2.1
q_45 (((), y40.1, ()), ()) (fun y68 =>
let i69 := y68.1.2.1
q_45 (((), (0, (0, (0, (0, (0, (0, (0, (0, ())))))))), ()), ()) (fun y70 =>
let i71 := y70.1.2.1
bif (i67 == 9) then (
bif (i69 == 0) then (
bif (i71 == 11) then (
none) else (
κ0 false)) else (
κ0 false)) else (
κ0 false))))))) (fun y72 =>
q_44_v1 (((), 15, ()), y72.2) (fun y88 =>
q_44_v1 (((), 16, ()), y88.2) (fun y94 =>
q_45 (((), y40.1, ()), ()) (fun y100 =>
let i101 := y100.1.2.1
q_45 (((), y40.1, ()), ()) (fun y102 =>
let i103 := y102.1.2.1
q_45 (((), (0, (0, (0, (0, (0, (0, (0, (0, ())))))))), ()), ()) (fun y104 =>
let i105 := y104.1.2.1
bif (i101 == 9) then (
bif (i103 == 0) then (
bif (i105 == 11) then (
none) else (
κ0 false)) else (
κ0 false)) else (
κ0 false))))) (fun y106 =>
let l113 := y106.2.2.2.1
q_45 (((), y40.1, ()), ()) (fun y114 =>
let i115 := y114.1.2.1
q_45_v1 (((), y40.1, ()), (y106.2.2.1, y106.2.1, l113, ())) (fun y139 =>
let i140 := y139.1.2.1
let l146 := y139.2.2.2.1
q_45_v1 (((), (0, (0, (0, (0, (0, (0, (0, (0, ())))))))), ()), (y139.2.1, y139.2.2.1, l146, ())) (fun y147 =>
let i148 := y147.1.2.1
bif (i115 == 9) then (
bif (i140 == 0) then (
bif (i148 == 11) then (
none) else (
κ0 false)) else (
κ0 false)) else (
κ0 false)) (fun y155 =>
let i156 := y155.1.2.1
bif (i115 == 9) then (
bif (i140 == 0) then (
bif (i156 == 11) then (
none) else (
κ0 false)) else (
κ0 false)) else (
κ0 false))) (fun y171 =>
let i172 := y171.1.2.1
let l178 := y171.2.2.2.1
let i184 := y171.2.2.2.2.1.2.1.2.2.2.2.2.1
q_45_v1 (((), (0, (0, (0, (0, (0, (0, (0, (0, ())))))))), ()), (y171.2.1, y171.2.2.1, l178, ())) (fun y187 =>
let i188 := y187.1.2.1
bif (i115 == 9) then (
bif (i172 == 0) then (
bif (i188 == 11) then (
κ0 ((i184 == 8))) else (
κ0 false)) else (
κ0 false)) else (
κ0 false)) (fun y195 =>
let i196 := y195.1.2.1
bif (i115 == 9) then (
bif (i172 == 0) then (
bif (i196 == 11) then (
κ0 ((i184 == 8))) else (
κ0 false)) else (
κ0 false)) else (
κ0 false)))))) (fun y211 =>
let l218 := y211.2.2.2.1
q_44_v1 (((), 16, ()), (y211.2.1, ())) (fun y219 =>
q_45_v1 (((), y40.1, ()), (y211.2.2.1, y219.2.1, l218, ())) (fun y225 =>
let i226 := y225.1.2.1
q_45 (((), y40.1, ()), ()) (fun y233 =>
let i234 := y233.1.2.1
q_45 (((), (0, (0, (0, (0, (0, (0, (0, (0, ())))))))), ()), ()) (fun y235 =>
let i236 := y235.1.2.1
bif (i226 == 9) then (
bif (i234 == 0) then (
bif (i236 == 11) then (
none) else (
κ0 false)) else (
κ0 false)) else (
κ0 false)))) (fun y237 =>
let i238 := y237.1.2.1
q_45 (((), y40.1, ()), ()) (fun y253 =>
let i254 := y253.1.2.1
q_45 (((), (0, (0, (0, (0, (0, (0, (0, (0, ())))))))), ()), ()) (fun y255 =>
let i256 := y255.1.2.1
bif (i238 == 9) then (
bif (i254 == 0) then (
bif (i256 == 11) then (
none) else (
κ0 false)) else (
κ0 false)) else (
κ0 false))))) (fun y257 =>
let l264 := y257.2.2.2.1
q_45_v1 (((), y40.1, ()), (y211.2.2.1, y257.2.1, l218, ())) (fun y265 =>
let i266 := y265.1.2.1
q_45_v1 (((), y40.1, ()), (y257.2.2.1, y265.2.2.1, l264, ())) (fun y273 =>
let i274 := y273.1.2.1
let l280 := y273.2.2.2.1
q_45_v1 (((), (0, (0, (0, (0, (0, (0, (0, (0, ())))))))), ()), (y273.2.1, y273.2.2.1, l280, ())) (fun y281 =>
let i282 := y281.1.2.1
bif (i266 == 9) then (
bif (i274 == 0) then (
bif (i282 == 11) then (
none) else (
κ0 false)) else (
κ0 false)) else (
κ0 false)) (fun y289 =>
let i290 := y289.1.2.1
bif (i266 == 9) then (
bif (i274 == 0) then (
bif (i290 == 11) then (
none) else (
κ0 false)) else (
κ0 false)) else (
κ0 false))) (fun y305 =>
let i306 := y305.1.2.1
let l312 := y305.2.2.2.1
let i318 := y305.2.2.2.2.1.2.1.2.2.2.2.2.1
q_45_v1 (((), (0, (0, (0, (0, (0, (0, (0, (0, ())))))))), ()), (y305.2.1, y305.2.2.1, l312, ())) (fun y321 =>
let i322 := y321.1.2.1
bif (i266 == 9) then (
bif (i306 == 0) then (
bif (i322 == 11) then (
κ0 ((i318 == 8))) else (
κ0 false)) else (
κ0 false)) else (
κ0 false)) (fun y329 =>
let i330 := y329.1.2.1
bif (i266 == 9) then (
bif (i306 == 0) then (
bif (i330 == 11) then (
κ0 ((i318 == 8))) else (
κ0 false)) else (
κ0 false)) else (
κ0 false)))) (fun y345 =>
let i346 := y345.1.2.1
q_45_v1 (((), y40.1, ()), (y257.2.2.1, y345.2.2.1, l264, ())) (fun y361 =>
let i362 := y361.1.2.1
let l368 := y361.2.2.2.1
q_45_v1 (((), (0, (0, (0, (0, (0, (0, (0, (0, ())))))))), ()), (y361.2.1, y361.2.2.1, l368, ())) (fun y369 =>
let i370 := y369.1.2.1
bif (i346 == 9) then (
bif (i362 == 0) then (
bif (i370 == 11) then (
none) else (
κ0 false)) else (
κ0 false)) else (
κ0 false)) (fun y377 =>
let i378 := y377.1.2.1
bif (i346 == 9) then (
bif (i362 == 0) then (
bif (i378 == 11) then (
none) else (
κ0 false)) else (
κ0 false)) else (
κ0 false))) (fun y393 =>
let i394 := y393.1.2.1
let l400 := y393.2.2.2.1
let i406 := y393.2.2.2.2.1.2.1.2.2.2.2.2.1
q_45_v1 (((), (0, (0, (0, (0, (0, (0, (0, (0, ())))))))), ()), (y393.2.1, y393.2.2.1, l400, ())) (fun y409 =>
let i410 := y409.1.2.1
bif (i346 == 9) then (
bif (i394 == 0) then (
bif (i410 == 11) then (
κ0 ((i406 == 8))) else (
κ0 false)) else (
κ0 false)) else (
κ0 false)) (fun y417 =>
let i418 := y417.1.2.1
bif (i346 == 9) then (
bif (i394 == 0) then (
bif (i418 == 11) then (
κ0 ((i406 == 8))) else (
κ0 false)) else (
κ0 false)) else (
κ0 false))))))))
def p_8 {R : Type} (N : Nat) (x : (Unit) × (Unit)) (κ0 : Bool → Option R) : Option R := Q_8 (p_42 N) (p_43 N) (p_44 N) (p_45 N) (p_44_v1 N) (p_45_v1 N) x κ0
def EG_8 {R : Type} (q_42 : Tp_42 R) (q_43 : Tp_43 R) (q_44 : Tp_44 R) (q_45 : Tp_45 R) (q_44_v1 : Tp_44_v1 R) (q_45_v1 : Tp_45_v1 R) : Env R := ((((((Env.base QQ LN AA).add 42 ap_42 hp_42 (fun (x : aden ap_42 × hden hp_42) k => q_42 x (fun y => k (Pat.inst (.tup (.fcons Z0 (.fcons (.int .i64) (.fnil)))) y) (instH hp_42 x.2)))).add 43 ap_43 hp_43 (fun (x : aden ap_43 × hden hp_43) k => q_43 x (fun y => k (Pat.inst (.tup (.fcons (.nilp) (.fcons (.int .i64) (.fnil)))) y.1) (instH [] y.2)) (fun y => k (Pat.inst (.tup (.fcons (.ptr 0 []) (.fcons (.int .i64) (.fnil)))) y.1) (instH [some (Z1, 145)] y.2)))).add 44 ap_44 hp_44 (fun (x : aden ap_44 × hden hp_44) k => q_44 x (fun y => k (Pat.inst (.tup (.fcons (.nilp) (.fcons (.int .i64) (.fnil)))) y.1) (instH [] y.2)))).add 45 ap_45 hp_45 (fun (x : aden ap_45 × hden hp_45) k => q_45 x (fun y => k (Pat.inst (.tup (.fcons (.nilp) (.fcons (.int .i64) (.fnil)))) y.1) (instH [] y.2)))).add 44 ap_44_v1 hp_44_v1 (fun (x : aden ap_44_v1 × hden hp_44_v1) k => q_44_v1 x (fun y => k (Pat.inst (.tup (.fcons (.nilp) (.fcons (.int .i64) (.fnil)))) y.1) (instH [some (Z1, 145)] y.2)) (fun y => k (Pat.inst (.tup (.fcons (.ptr 1 []) (.fcons (.int .i64) (.fnil)))) y.1) (instH J13 y.2)))).add 45 ap_45_v1 hp_45_v1 (fun (x : aden ap_45_v1 × hden hp_45_v1) k => q_45_v1 x (fun y => k (Pat.inst (.tup (.fcons (.nilp) (.fcons (.int .i64) (.fnil)))) y.1) (instH J1 y.2)) (fun y => k (Pat.inst (.tup (.fcons (.ptr 3 []) (.fcons (.int .i64) (.fnil)))) y.1) (instH J8 y.2)))
def LG_8 {R : Type} : Loops R := Loops.none
def E_8 {R : Type} (N : Nat) : Env R := EG_8 (p_42 N) (p_43 N) (p_44 N) (p_45 N) (p_44_v1 N) (p_45_v1 N)
theorem eok_8 {R : Type} (N : Nat) : EK Try.prog (E_8 (R := R) N) := ek_add (ek_add (ek_add (ek_add (ek_add (ek_add (ek_base _ _ _) (good_42 N)) (good_43 N)) (good_44 N)) (good_45 N)) (good_44_v1 N)) (good_45_v1 N)
def L_8 {R : Type} (N : Nat) : Loops R := LG_8
theorem lok_8 {R : Type} (N : Nat) : LOK 0 TT (E_8 (R := R) N) (drawAny TT WW) (L_8 N) (bodyOf Try.f8) := loops_nil (by kernel_rfl)
theorem grun_8 {R : Type} (q_42 : Tp_42 R) (q_43 : Tp_43 R) (q_44 : Tp_44 R) (q_45 : Tp_45 R) (q_44_v1 : Tp_44_v1 R) (q_45_v1 : Tp_45_v1 R) (x : aden ap_8 × hden hp_8) (k : KF R) : fnrun TT (EG_8 q_42 q_43 q_44 q_45 q_44_v1 q_45_v1) (drawAny TT WW) (LG_8) true Try.f8 (instA ap_8 x.1) (instH hp_8 x.2) k = Q_8 q_42 q_43 q_44 q_45 q_44_v1 q_45_v1 x (fun y => k (Pat.inst (.bool) y) (instH hp_8 x.2)) := by kernel_rfl
theorem run_8 {R : Type} (N : Nat) (x : aden ap_8 × hden hp_8) (k : KF R) : fnrun TT (E_8 (R := R) N) (drawAny TT WW) (L_8 N) true Try.f8 (instA ap_8 x.1) (instH hp_8 x.2) k = p_8 N x (fun y => k (Pat.inst (.bool) y) (instH hp_8 x.2)) := (grun_8 (p_42 N) (p_43 N) (p_44 N) (p_45 N) (p_44_v1 N) (p_45_v1 N) x k).trans (by kernel_rfl)
theorem good_8 {R : Type} (N : Nat) : GD (X := R) Try.prog QQ AA 8 ap_8 hp_8 (fun (x : aden ap_8 × hden hp_8) k => p_8 N x (fun y => k (Pat.inst (.bool) y) (instH hp_8 x.2))) :=
  gd_quiet (E := E_8 N) (p := fun (x : aden ap_8 × hden hp_8) κ => p_8 N x (fun y => κ (Pat.inst (.bool) y))) mixed tyok (eok_8 N) Try.func8 (by kernel_rfl) (by kernel_rfl) (lok_8 N) (fun x k => run_8 N x k)

def ap_55 : List Pat := [.node (.fcons (.int .i64) (.fcons (.int .i64) (.fcons (.int .i64) (.fcons (.int .i64) (.fcons (.int .i64) (.fcons (.int .i64) (.fcons (.int .i64) (.fcons (.int .i64) (.fnil)))))))))]
def hp_55 : List (Option (Pat × Nat)) := []
abbrev Tp_55 (R : Type) : Type := (Y1 × Unit) × (Unit) → (Bool → Option R) → Option R
def Q_55 {R : Type} (x : (Y1 × Unit) × (Unit)) (κ0 : Bool → Option R) : Option R :=
let i451 := x.1.1.2.1
let i452 := x.1.1.2.2.1
let i454 := x.1.1.2.2.2.2.1
bif (decide (i451 ≤ 3)) then (
bif (decide (i452 ≤ 4)) then (
κ0 ((decide (i454 ≤ 80)))) else (
κ0 false)) else (
κ0 false)
def p_55 {R : Type} (N : Nat) (x : (Y1 × Unit) × (Unit)) (κ0 : Bool → Option R) : Option R := Q_55 x κ0
def EG_55 {R : Type} : Env R := Env.base QQ LN AA
def LG_55 {R : Type} : Loops R := Loops.none
def E_55 {R : Type} (N : Nat) : Env R := EG_55
theorem eok_55 {R : Type} (N : Nat) : EK Try.prog (E_55 (R := R) N) := ek_base _ _ _
def L_55 {R : Type} (N : Nat) : Loops R := LG_55
theorem lok_55 {R : Type} (N : Nat) : LOK 0 TT (E_55 (R := R) N) (drawAny TT WW) (L_55 N) (bodyOf Try.f55) := loops_nil (by kernel_rfl)
theorem grun_55 {R : Type} (x : aden ap_55 × hden hp_55) (k : KF R) : fnrun TT (EG_55) (drawAny TT WW) (LG_55) true Try.f55 (instA ap_55 x.1) (instH hp_55 x.2) k = Q_55 x (fun y => k (Pat.inst (.bool) y) (instH hp_55 x.2)) := by kernel_rfl
theorem run_55 {R : Type} (N : Nat) (x : aden ap_55 × hden hp_55) (k : KF R) : fnrun TT (E_55 (R := R) N) (drawAny TT WW) (L_55 N) true Try.f55 (instA ap_55 x.1) (instH hp_55 x.2) k = p_55 N x (fun y => k (Pat.inst (.bool) y) (instH hp_55 x.2)) := (grun_55 x k).trans (by kernel_rfl)
theorem good_55 {R : Type} (N : Nat) : GD (X := R) Try.prog QQ AA 55 ap_55 hp_55 (fun (x : aden ap_55 × hden hp_55) k => p_55 N x (fun y => k (Pat.inst (.bool) y) (instH hp_55 x.2))) :=
  gd_quiet (E := E_55 N) (p := fun (x : aden ap_55 × hden hp_55) κ => p_55 N x (fun y => κ (Pat.inst (.bool) y))) mixed tyok (eok_55 N) Try.func55 (by kernel_rfl) (by kernel_rfl) (lok_55 N) (fun x k => run_55 N x k)

def ap_14 : List Pat := [.node (.fcons (.int .i64) (.fcons (.int .i64) (.fcons (.int .i64) (.fcons (.int .i64) (.fcons (.int .i64) (.fnil))))))]
def hp_14 : List (Option (Pat × Nat)) := []
abbrev Tp_14 (R : Type) : Type := ((Int × Y7) × Unit) × (Unit) → ((Unit × (Unit)) → Option R) → ((Unit × Y0) → Option R) → Option R
def Q_14 {R : Type} (q_42 : Tp_42 R) (q_55 : Tp_55 R) (q_43 : Tp_43 R) (q_44 : Tp_44 R) (q_45 : Tp_45 R) (q_44_v1 : Tp_44_v1 R) (q_45_v1 : Tp_45_v1 R) (x : ((Int × Y7) × Unit) × (Unit)) (κ0 : (Unit × (Unit)) → Option R) (κ1 : (Unit × Y0) → Option R) : Option R :=
q_42 (x.1, ()) (fun y440 =>
let i445 := y440.1.2.2.2.2.1
let i449 := y440.2.1
bif (i449 != 0) then (
κ0 ((), ())) else (
q_55 ((y440.1, ()), ()) (fun y458 =>
let b459 : Bool := y458
bif (!b459) then (
κ0 ((), ())) else (
q_43 ((i445, ()), ()) (fun y460 =>
q_44 (((), i445, ()), ()) (fun y462 =>
q_45 (((), y440.1, ()), ()) (fun y464 =>
κ0 ((), ())))) (fun y466 =>
q_44_v1 (((), i445, ()), y466.2) (fun y472 =>
q_45 (((), y440.1, ()), ()) (fun y478 =>
κ0 ((), ()))) (fun y480 =>
let l487 := y480.2.2.2.1
q_45_v1 (((), y440.1, ()), (y480.2.2.1, y480.2.1, l487, ())) (fun y488 =>
κ0 ((), ())) (fun y496 =>
let l503 := y496.2.2.2.1
κ1 ((), (y496.2.2.2.2.1, y496.2.1, y496.2.2.1, l503, ())))))))))
def p_14 {R : Type} (N : Nat) (x : ((Int × Y7) × Unit) × (Unit)) (κ0 : (Unit × (Unit)) → Option R) (κ1 : (Unit × Y0) → Option R) : Option R := Q_14 (p_42 N) (p_55 N) (p_43 N) (p_44 N) (p_45 N) (p_44_v1 N) (p_45_v1 N) x κ0 κ1
def EG_14 {R : Type} (q_42 : Tp_42 R) (q_55 : Tp_55 R) (q_43 : Tp_43 R) (q_44 : Tp_44 R) (q_45 : Tp_45 R) (q_44_v1 : Tp_44_v1 R) (q_45_v1 : Tp_45_v1 R) : Env R := (((((((Env.base QQ LN AA).add 42 ap_42 hp_42 (fun (x : aden ap_42 × hden hp_42) k => q_42 x (fun y => k (Pat.inst (.tup (.fcons Z0 (.fcons (.int .i64) (.fnil)))) y) (instH hp_42 x.2)))).add 55 ap_55 hp_55 (fun (x : aden ap_55 × hden hp_55) k => q_55 x (fun y => k (Pat.inst (.bool) y) (instH hp_55 x.2)))).add 43 ap_43 hp_43 (fun (x : aden ap_43 × hden hp_43) k => q_43 x (fun y => k (Pat.inst (.tup (.fcons (.nilp) (.fcons (.int .i64) (.fnil)))) y.1) (instH [] y.2)) (fun y => k (Pat.inst (.tup (.fcons (.ptr 0 []) (.fcons (.int .i64) (.fnil)))) y.1) (instH [some (Z1, 145)] y.2)))).add 44 ap_44 hp_44 (fun (x : aden ap_44 × hden hp_44) k => q_44 x (fun y => k (Pat.inst (.tup (.fcons (.nilp) (.fcons (.int .i64) (.fnil)))) y.1) (instH [] y.2)))).add 45 ap_45 hp_45 (fun (x : aden ap_45 × hden hp_45) k => q_45 x (fun y => k (Pat.inst (.tup (.fcons (.nilp) (.fcons (.int .i64) (.fnil)))) y.1) (instH [] y.2)))).add 44 ap_44_v1 hp_44_v1 (fun (x : aden ap_44_v1 × hden hp_44_v1) k => q_44_v1 x (fun y => k (Pat.inst (.tup (.fcons (.nilp) (.fcons (.int .i64) (.fnil)))) y.1) (instH [some (Z1, 145)] y.2)) (fun y => k (Pat.inst (.tup (.fcons (.ptr 1 []) (.fcons (.int .i64) (.fnil)))) y.1) (instH J13 y.2)))).add 45 ap_45_v1 hp_45_v1 (fun (x : aden ap_45_v1 × hden hp_45_v1) k => q_45_v1 x (fun y => k (Pat.inst (.tup (.fcons (.nilp) (.fcons (.int .i64) (.fnil)))) y.1) (instH J1 y.2)) (fun y => k (Pat.inst (.tup (.fcons (.ptr 3 []) (.fcons (.int .i64) (.fnil)))) y.1) (instH J8 y.2)))
def LG_14 {R : Type} : Loops R := Loops.none
def E_14 {R : Type} (N : Nat) : Env R := EG_14 (p_42 N) (p_55 N) (p_43 N) (p_44 N) (p_45 N) (p_44_v1 N) (p_45_v1 N)
theorem eok_14 {R : Type} (N : Nat) : EK Try.prog (E_14 (R := R) N) := ek_add (ek_add (ek_add (ek_add (ek_add (ek_add (ek_add (ek_base _ _ _) (good_42 N)) (good_55 N)) (good_43 N)) (good_44 N)) (good_45 N)) (good_44_v1 N)) (good_45_v1 N)
def L_14 {R : Type} (N : Nat) : Loops R := LG_14
theorem lok_14 {R : Type} (N : Nat) : LOK 0 TT (E_14 (R := R) N) (drawAny TT WW) (L_14 N) (bodyOf Try.f14) := loops_nil (by kernel_rfl)
theorem grun_14 {R : Type} (q_42 : Tp_42 R) (q_55 : Tp_55 R) (q_43 : Tp_43 R) (q_44 : Tp_44 R) (q_45 : Tp_45 R) (q_44_v1 : Tp_44_v1 R) (q_45_v1 : Tp_45_v1 R) (x : aden ap_14 × hden hp_14) (k : KF R) : fnrun TT (EG_14 q_42 q_55 q_43 q_44 q_45 q_44_v1 q_45_v1) (drawAny TT WW) (LG_14) true Try.f14 (instA ap_14 x.1) (instH hp_14 x.2) k = Q_14 q_42 q_55 q_43 q_44 q_45 q_44_v1 q_45_v1 x (fun y => k (Pat.inst (.nilp) y.1) (instH [] y.2)) (fun y => k (Pat.inst (.ptr 0 []) y.1) (instH J0 y.2)) := by kernel_rfl
theorem run_14 {R : Type} (N : Nat) (x : aden ap_14 × hden hp_14) (k : KF R) : fnrun TT (E_14 (R := R) N) (drawAny TT WW) (L_14 N) true Try.f14 (instA ap_14 x.1) (instH hp_14 x.2) k = p_14 N x (fun y => k (Pat.inst (.nilp) y.1) (instH [] y.2)) (fun y => k (Pat.inst (.ptr 0 []) y.1) (instH J0 y.2)) := (grun_14 (p_42 N) (p_55 N) (p_43 N) (p_44 N) (p_45 N) (p_44_v1 N) (p_45_v1 N) x k).trans (by kernel_rfl)
theorem good_14 {R : Type} (N : Nat) : GD (X := R) Try.prog QQ AA 14 ap_14 hp_14 (fun (x : aden ap_14 × hden hp_14) k => p_14 N x (fun y => k (Pat.inst (.nilp) y.1) (instH [] y.2)) (fun y => k (Pat.inst (.ptr 0 []) y.1) (instH J0 y.2))) :=
  gd_loud (E := E_14 N) (p := fun (x : aden ap_14 × hden hp_14) k => p_14 N x (fun y => k (Pat.inst (.nilp) y.1) (instH [] y.2)) (fun y => k (Pat.inst (.ptr 0 []) y.1) (instH J0 y.2))) mixed tyok (eok_14 N) Try.func14 (by kernel_rfl) (by kernel_rfl) (by kernel_rfl) (by kernel_rfl) (lok_14 N) (fun x k => run_14 N x k)

def ap_18 : List Pat := []
def hp_18 : List (Option (Pat × Nat)) := []
abbrev Tp_18 (R : Type) : Type := (Unit) × (Unit) → ((Nat → Int) → Option R) → Option R
def Q_18 {R : Type} (x : (Unit) × (Unit)) (κ0 : (Nat → Int) → Option R) : Option R :=
let a530 : (Nat → Int) := (upd ((upd ((upd ((upd ((upd ((upd ((upd ((upd ((Sch.zero (.arr 8 (.int .u64)))) 0 7640891576956012808)) 1 13503953896175478587)) 2 4354685564936845355)) 3 11912009170470909681)) 4 5840696475078001361)) 5 11170449401992604703)) 6 2270897969802886507)) 7 6620516959819538809)
κ0 a530
def p_18 {R : Type} (N : Nat) (x : (Unit) × (Unit)) (κ0 : (Nat → Int) → Option R) : Option R := Q_18 x κ0
def EG_18 {R : Type} : Env R := Env.base QQ LN AA
def LG_18 {R : Type} : Loops R := Loops.none
def E_18 {R : Type} (N : Nat) : Env R := EG_18
theorem eok_18 {R : Type} (N : Nat) : EK Try.prog (E_18 (R := R) N) := ek_base _ _ _
def L_18 {R : Type} (N : Nat) : Loops R := LG_18
theorem lok_18 {R : Type} (N : Nat) : LOK 0 TT (E_18 (R := R) N) (drawAny TT WW) (L_18 N) (bodyOf Try.f18) := loops_nil (by kernel_rfl)
theorem grun_18 {R : Type} (x : aden ap_18 × hden hp_18) (k : KF R) : fnrun TT (EG_18) (drawAny TT WW) (LG_18) true Try.f18 (instA ap_18 x.1) (instH hp_18 x.2) k = Q_18 x (fun y => k (Pat.inst (.vec (.int .u64) 8) y) (instH hp_18 x.2)) := by kernel_rfl
theorem run_18 {R : Type} (N : Nat) (x : aden ap_18 × hden hp_18) (k : KF R) : fnrun TT (E_18 (R := R) N) (drawAny TT WW) (L_18 N) true Try.f18 (instA ap_18 x.1) (instH hp_18 x.2) k = p_18 N x (fun y => k (Pat.inst (.vec (.int .u64) 8) y) (instH hp_18 x.2)) := (grun_18 x k).trans (by kernel_rfl)
theorem good_18 {R : Type} (N : Nat) : GD (X := R) Try.prog QQ AA 18 ap_18 hp_18 (fun (x : aden ap_18 × hden hp_18) k => p_18 N x (fun y => k (Pat.inst (.vec (.int .u64) 8) y) (instH hp_18 x.2))) :=
  gd_quiet (E := E_18 N) (p := fun (x : aden ap_18 × hden hp_18) κ => p_18 N x (fun y => κ (Pat.inst (.vec (.int .u64) 8) y))) mixed tyok (eok_18 N) Try.func18 (by kernel_rfl) (by kernel_rfl) (lok_18 N) (fun x k => run_18 N x k)

def lv_53_3 : Live := [(3, none), (10, none), (11, none), (12, none)]
def pt_53_3 : SPat := ⟨[(3, .sl 1), (10, .sl 0), (11, .int .i64), (12, .int .i64)], [some (.lst (.int .u32), 78), some (.lst (.int .u8), 5)]⟩
def px_53_3_0 : SPat := ⟨[(3, .sl 1)], [some (.lst (.int .u32), 78), some (.lst (.int .u8), 5)]⟩
def lo_53_3 : Exit → Live
  | .exit 0 => [(3, none)]
  | _ => []
def ap_53 : List Pat := [.sl 0]
def hp_53 : List (Option (Pat × Nat)) := [some (.lst (.int .u32), 78)]
abbrev Tl_53_3 (R : Type) : Type := (Y19 × Y12) → (((Unit × Unit) × Y12) → Option R) → Option R
abbrev Tp_53 (R : Type) : Type := (Unit × Unit) × ((List Int) × Unit) → (((List Int) × ((List Int) × Unit)) → Option R) → Option R
def C_53_3 {R : Type} (rec : (Y19 × Y12) → Option R) (x : (Y19 × Y12)) (κ0 : ((Unit × Unit) × Y12) → Option R) : Option R :=
let i592 := x.1.2.2.1
let i593 := x.1.2.2.2.1
let l594 := x.2.1
let l595 := x.2.2.1
bif (decide (i593 < i592)) then (
bif decide (0 ≤ i593) then (
bif decide (i593 < ((List.length l594) : Int)) then (
let i596 : Int := (List.getD l594 ((Int.toNat i593)) (Sch.zero (.int .u32)))
let i597 : Int := IntKind.wrap .u8 i596
let i598 : Int := shrA .u32 i596 8
let i599 : Int := IntKind.wrap .u8 i598
let i600 : Int := shrA .u32 i596 16
let i601 : Int := IntKind.wrap .u8 i600
let i602 : Int := shrA .u32 i596 24
let i603 : Int := IntKind.wrap .u8 i602
let l604 : (List Int) := [i597, i599, i601, i603]
bif (decide ((List.length l595 + List.length l604) * 1 ≤ 140737488355328) && true) then (
let l605 : (List Int) := (l595 ++ l604)
let i606 : Int := addA .i64 i593 1
rec (((), (), i592, i606, ()), (l594, l605, ()))) else none) else none) else none) else (
κ0 (((), ()), (l594, l595, ())))
def B_53_3 {R : Type} (N : Nat) (rec : (Y19 × Y12) → Option R) (x : (Y19 × Y12)) (κ0 : ((Unit × Unit) × Y12) → Option R) : Option R := C_53_3 rec x κ0
def l_53_3 {R : Type} (N : Nat) : Nat → (Y19 × Y12) → (((Unit × Unit) × Y12) → Option R) → Option R
  | 0, _, _ => none
  | n + 1, x, κ0 => B_53_3 N (fun y => l_53_3 N n y κ0) x κ0
def Q_53 {R : Type} (m_53_3 : Tl_53_3 R) (x : (Unit × Unit) × ((List Int) × Unit)) (κ0 : ((List Int) × ((List Int) × Unit)) → Option R) : Option R :=
let l587 := x.2.1
let i588 : Int := (((List.length l587) : Nat) : Int)
let i589 : Int := mulA .i64 4 i588
bif decide (0 ≤ i589) then (
bif decide (((1 : Nat) : Int) * i589 ≤ 281474976710656) then (
bif decide (i589 ≤ 9223372036854775807) then (
let l590 : (List Int) := List.replicate 0 (Sch.zero (.int .u8))
let i591 : Int := (((List.length l587) : Nat) : Int)
m_53_3 (((), (), i591, 0, ()), (l587, l590, ())) (fun y607 =>
let l608 := y607.2.1
let l609 := y607.2.2.1
κ0 (l609, (l608, ())))) else none) else none) else none
def p_53 {R : Type} (N : Nat) (x : (Unit × Unit) × ((List Int) × Unit)) (κ0 : ((List Int) × ((List Int) × Unit)) → Option R) : Option R := Q_53 (l_53_3 N N) x κ0
def EG_53 {R : Type} : Env R := Env.base QQ LN AA
def LG_53 {R : Type} (m_53_3 : Tl_53_3 R) : Loops R := (Loops.none).add 3 (loopBy 1 lv_53_3 pt_53_3 (fun x k => m_53_3 x (fun y => k (.exit 0) (px_53_3_0.inst y))))
def E_53 {R : Type} (N : Nat) : Env R := EG_53
theorem eok_53 {R : Type} (N : Nat) : EK Try.prog (E_53 (R := R) N) := ek_base _ _ _
def L_53 {R : Type} (N : Nat) : Loops R := LG_53 (l_53_3 N N)
theorem gstep_53_3 {R : Type} (m_53_3 : Tl_53_3 R) (n : Nat) (x : pt_53_3.den) (k : Exit → St → Option R) : iter 1 lv_53_3 lo_53_3 (aexec TT (EG_53) (drawAny TT WW) (LG_53 m_53_3) (loopAt 3 (bodyOf Try.f53))) (n + 1) (pt_53_3.inst x) k = C_53_3 (fun y => iter 1 lv_53_3 lo_53_3 (aexec TT (EG_53) (drawAny TT WW) (LG_53 m_53_3) (loopAt 3 (bodyOf Try.f53))) n (pt_53_3.inst y) k) x (fun y => k (.exit 0) (px_53_3_0.inst y)) := by kernel_rfl
theorem step_53_3 {R : Type} (N n : Nat) (x : pt_53_3.den) (k : Exit → St → Option R) : iter 1 lv_53_3 lo_53_3 (aexec TT (E_53 (R := R) N) (drawAny TT WW) (L_53 N) (loopAt 3 (bodyOf Try.f53))) (n + 1) (pt_53_3.inst x) k = B_53_3 N (fun y => iter 1 lv_53_3 lo_53_3 (aexec TT (E_53 (R := R) N) (drawAny TT WW) (L_53 N) (loopAt 3 (bodyOf Try.f53))) n (pt_53_3.inst y) k) x (fun y => k (.exit 0) (px_53_3_0.inst y)) := (gstep_53_3 (l_53_3 N N) n x k).trans (by kernel_rfl)
theorem eq_53_3 {R : Type} (N : Nat) : ∀ (n : Nat) (x : pt_53_3.den) (k : Exit → St → Option R), iter 1 lv_53_3 lo_53_3 (aexec TT (E_53 (R := R) N) (drawAny TT WW) (L_53 N) (loopAt 3 (bodyOf Try.f53))) n (pt_53_3.inst x) k = l_53_3 N n x (fun y => k (.exit 0) (px_53_3_0.inst y)) :=
  iter_eq (K := Exit → St → Option R) (ks := fun k => k) (l := fun n (x : pt_53_3.den) k => l_53_3 N n x (fun y => k (.exit 0) (px_53_3_0.inst y))) (B := fun (rec : pt_53_3.den → Option R) (x : pt_53_3.den) k => B_53_3 N rec x (fun y => k (.exit 0) (px_53_3_0.inst y))) (fun _ _ => rfl) (fun _ _ _ => rfl) (fun n x k => step_53_3 N n x k)
theorem rounds_53_3 {R : Type} (N : Nat) : Rounds 1 TT (E_53 (R := R) N) (drawAny TT WW) (L_53 N) 3 (loopAt 3 (bodyOf Try.f53)) :=
  rounds_of (p := pt_53_3) (l := fun (x : pt_53_3.den) k => l_53_3 N N x (fun y => k (.exit 0) (px_53_3_0.inst y))) (fun s k => rfl) (fun x k => eq_53_3 N N x k)
theorem loops_53 : loopsIn (bodyOf Try.f53) = [(3, loopAt 3 (bodyOf Try.f53))] := by kernel_rfl
theorem lok_53 {R : Type} (N : Nat) : LOK 1 TT (E_53 (R := R) N) (drawAny TT WW) (L_53 N) (bodyOf Try.f53) := loops_all loops_53 (by
  simp only [List.forall_mem_cons, List.not_mem_nil, false_implies, implies_true, and_true]
  exact rounds_53_3 N)
theorem grun_53 {R : Type} (m_53_3 : Tl_53_3 R) (x : aden ap_53 × hden hp_53) (k : KF R) : fnrun TT (EG_53) (drawAny TT WW) (LG_53 m_53_3) true Try.f53 (instA ap_53 x.1) (instH hp_53 x.2) k = Q_53 m_53_3 x (fun y => k (Pat.inst (.ros (.int .u8)) y.1) (instH [some (.lst (.int .u32), 78)] y.2)) := by kernel_rfl
theorem run_53 {R : Type} (N : Nat) (x : aden ap_53 × hden hp_53) (k : KF R) : fnrun TT (E_53 (R := R) N) (drawAny TT WW) (L_53 N) true Try.f53 (instA ap_53 x.1) (instH hp_53 x.2) k = p_53 N x (fun y => k (Pat.inst (.ros (.int .u8)) y.1) (instH [some (.lst (.int .u32), 78)] y.2)) := (grun_53 (l_53_3 N N) x k).trans (by kernel_rfl)
theorem good_53 {R : Type} (N : Nat) : GD (X := R) Try.prog QQ AA 53 ap_53 hp_53 (fun (x : aden ap_53 × hden hp_53) k => p_53 N x (fun y => k (Pat.inst (.ros (.int .u8)) y.1) (instH [some (.lst (.int .u32), 78)] y.2))) :=
  gd_loud (E := E_53 N) (p := fun (x : aden ap_53 × hden hp_53) k => p_53 N x (fun y => k (Pat.inst (.ros (.int .u8)) y.1) (instH [some (.lst (.int .u32), 78)] y.2))) mixed tyok (eok_53 N) Try.func53 (by kernel_rfl) (by kernel_rfl) (by kernel_rfl) (by kernel_rfl) (lok_53 N) (fun x k => run_53 N x k)

def ap_96 : List Pat := [.int .i64, .bool]
def hp_96 : List (Option (Pat × Nat)) := []
abbrev Tp_96 (R : Type) : Type := (Int × Bool × Unit) × (Unit) → (((Unit × (Int × Unit)) × (Unit)) → Option R) → (((Unit × (Int × Unit)) × (Y2 × (List Int) × Unit)) → Option R) → Option R
def Q_96 {R : Type} (x : (Int × Bool × Unit) × (Unit)) (κ0 : ((Unit × (Int × Unit)) × (Unit)) → Option R) (κ1 : ((Unit × (Int × Unit)) × (Y2 × (List Int) × Unit)) → Option R) : Option R :=
let i622 := x.1.1
let b623 := x.1.2.1
bif (decide (i622 < 1)) then (
κ0 (((), (1, ())), ())) else (
bif (decide (i622 > 65536)) then (
κ0 (((), (1, ())), ())) else (
κ1 (((), (0, ())), ((i622, (b623, ((), (0, ())))), ([] : List Int), ()))))
def p_96 {R : Type} (N : Nat) (x : (Int × Bool × Unit) × (Unit)) (κ0 : ((Unit × (Int × Unit)) × (Unit)) → Option R) (κ1 : ((Unit × (Int × Unit)) × (Y2 × (List Int) × Unit)) → Option R) : Option R := Q_96 x κ0 κ1
def EG_96 {R : Type} : Env R := Env.base QQ LN AA
def LG_96 {R : Type} : Loops R := Loops.none
def E_96 {R : Type} (N : Nat) : Env R := EG_96
theorem eok_96 {R : Type} (N : Nat) : EK Try.prog (E_96 (R := R) N) := ek_base _ _ _
def L_96 {R : Type} (N : Nat) : Loops R := LG_96
theorem lok_96 {R : Type} (N : Nat) : LOK 0 TT (E_96 (R := R) N) (drawAny TT WW) (L_96 N) (bodyOf Try.f96) := loops_nil (by kernel_rfl)
theorem grun_96 {R : Type} (x : aden ap_96 × hden hp_96) (k : KF R) : fnrun TT (EG_96) (drawAny TT WW) (LG_96) true Try.f96 (instA ap_96 x.1) (instH hp_96 x.2) k = Q_96 x (fun y => k (Pat.inst (.tup (.fcons (.nilp) (.fcons (.int .i64) (.fnil)))) y.1) (instH [] y.2)) (fun y => k (Pat.inst (.tup (.fcons (.ptr 0 []) (.fcons (.int .i64) (.fnil)))) y.1) (instH J10 y.2)) := by kernel_rfl
theorem run_96 {R : Type} (N : Nat) (x : aden ap_96 × hden hp_96) (k : KF R) : fnrun TT (E_96 (R := R) N) (drawAny TT WW) (L_96 N) true Try.f96 (instA ap_96 x.1) (instH hp_96 x.2) k = p_96 N x (fun y => k (Pat.inst (.tup (.fcons (.nilp) (.fcons (.int .i64) (.fnil)))) y.1) (instH [] y.2)) (fun y => k (Pat.inst (.tup (.fcons (.ptr 0 []) (.fcons (.int .i64) (.fnil)))) y.1) (instH J10 y.2)) := (grun_96 x k).trans (by kernel_rfl)
theorem good_96 {R : Type} (N : Nat) : GD (X := R) Try.prog QQ AA 96 ap_96 hp_96 (fun (x : aden ap_96 × hden hp_96) k => p_96 N x (fun y => k (Pat.inst (.tup (.fcons (.nilp) (.fcons (.int .i64) (.fnil)))) y.1) (instH [] y.2)) (fun y => k (Pat.inst (.tup (.fcons (.ptr 0 []) (.fcons (.int .i64) (.fnil)))) y.1) (instH J10 y.2))) :=
  gd_loud (E := E_96 N) (p := fun (x : aden ap_96 × hden hp_96) k => p_96 N x (fun y => k (Pat.inst (.tup (.fcons (.nilp) (.fcons (.int .i64) (.fnil)))) y.1) (instH [] y.2)) (fun y => k (Pat.inst (.tup (.fcons (.ptr 0 []) (.fcons (.int .i64) (.fnil)))) y.1) (instH J10 y.2))) mixed tyok (eok_96 N) Try.func96 (by kernel_rfl) (by kernel_rfl) (by kernel_rfl) (by kernel_rfl) (lok_96 N) (fun x k => run_96 N x k)

def ap_97 : List Pat := []
def hp_97 : List (Option (Pat × Nat)) := []
abbrev Tp_97 (R : Type) : Type := (Unit) × (Unit) → ((Nat → Int) → Option R) → Option R
def Q_97 {R : Type} (x : (Unit) × (Unit)) (κ0 : (Nat → Int) → Option R) : Option R :=
let a626 : (Nat → Int) := (upd ((upd ((upd ((upd ((upd ((upd ((upd ((upd ((Sch.zero (.arr 8 (.int .u64)))) 0 7640891576956012808)) 1 13503953896175478587)) 2 4354685564936845355)) 3 11912009170470909681)) 4 5840696475078001361)) 5 11170449401992604703)) 6 2270897969802886507)) 7 6620516959819538809)
κ0 a626
def p_97 {R : Type} (N : Nat) (x : (Unit) × (Unit)) (κ0 : (Nat → Int) → Option R) : Option R := Q_97 x κ0
def EG_97 {R : Type} : Env R := Env.base QQ LN AA
def LG_97 {R : Type} : Loops R := Loops.none
def E_97 {R : Type} (N : Nat) : Env R := EG_97
theorem eok_97 {R : Type} (N : Nat) : EK Try.prog (E_97 (R := R) N) := ek_base _ _ _
def L_97 {R : Type} (N : Nat) : Loops R := LG_97
theorem lok_97 {R : Type} (N : Nat) : LOK 0 TT (E_97 (R := R) N) (drawAny TT WW) (L_97 N) (bodyOf Try.f97) := loops_nil (by kernel_rfl)
theorem grun_97 {R : Type} (x : aden ap_97 × hden hp_97) (k : KF R) : fnrun TT (EG_97) (drawAny TT WW) (LG_97) true Try.f97 (instA ap_97 x.1) (instH hp_97 x.2) k = Q_97 x (fun y => k (Pat.inst (.vec (.int .u64) 8) y) (instH hp_97 x.2)) := by kernel_rfl
theorem run_97 {R : Type} (N : Nat) (x : aden ap_97 × hden hp_97) (k : KF R) : fnrun TT (E_97 (R := R) N) (drawAny TT WW) (L_97 N) true Try.f97 (instA ap_97 x.1) (instH hp_97 x.2) k = p_97 N x (fun y => k (Pat.inst (.vec (.int .u64) 8) y) (instH hp_97 x.2)) := (grun_97 x k).trans (by kernel_rfl)
theorem good_97 {R : Type} (N : Nat) : GD (X := R) Try.prog QQ AA 97 ap_97 hp_97 (fun (x : aden ap_97 × hden hp_97) k => p_97 N x (fun y => k (Pat.inst (.vec (.int .u64) 8) y) (instH hp_97 x.2))) :=
  gd_quiet (E := E_97 N) (p := fun (x : aden ap_97 × hden hp_97) κ => p_97 N x (fun y => κ (Pat.inst (.vec (.int .u64) 8) y))) mixed tyok (eok_97 N) Try.func97 (by kernel_rfl) (by kernel_rfl) (lok_97 N) (fun x k => run_97 N x k)

def ap_98 : List Pat := [.nilp, .sl 0]
def hp_98 : List (Option (Pat × Nat)) := [some (.lst (.str), 9)]
abbrev Tp_98 (R : Type) : Type := (Unit × Unit × Unit) × ((List ByteArray) × Unit) → (((List (List Int)) × ((List ByteArray) × Unit)) → Option R) → Option R
def Q_98 {R : Type} (x : (Unit × Unit × Unit) × ((List ByteArray) × Unit)) (κ0 : ((List (List Int)) × ((List ByteArray) × Unit)) → Option R) : Option R :=
κ0 ([], x.2)
def p_98 {R : Type} (N : Nat) (x : (Unit × Unit × Unit) × ((List ByteArray) × Unit)) (κ0 : ((List (List Int)) × ((List ByteArray) × Unit)) → Option R) : Option R := Q_98 x κ0
def EG_98 {R : Type} : Env R := Env.base QQ LN AA
def LG_98 {R : Type} : Loops R := Loops.none
def E_98 {R : Type} (N : Nat) : Env R := EG_98
theorem eok_98 {R : Type} (N : Nat) : EK Try.prog (E_98 (R := R) N) := ek_base _ _ _
def L_98 {R : Type} (N : Nat) : Loops R := LG_98
theorem loops_98 : loopsIn (bodyOf Try.f98) = [(5, loopAt 5 (bodyOf Try.f98)), (9, loopAt 9 (bodyOf Try.f98))] := by kernel_rfl
theorem lok_98 {R : Type} (N : Nat) : LOK 1 TT (E_98 (R := R) N) (drawAny TT WW) (L_98 N) (bodyOf Try.f98) := loops_all loops_98 (by
  simp only [List.forall_mem_cons, List.not_mem_nil, false_implies, implies_true, and_true]
  exact ⟨rounds_none (fun _ _ => rfl), rounds_none (fun _ _ => rfl)⟩)
theorem grun_98 {R : Type} (x : aden ap_98 × hden hp_98) (k : KF R) : fnrun TT (EG_98) (drawAny TT WW) (LG_98) true Try.f98 (instA ap_98 x.1) (instH hp_98 x.2) k = Q_98 x (fun y => k (Pat.inst (.ros (.sl (.int .u8))) y.1) (instH [some (.lst (.str), 9)] y.2)) := by kernel_rfl
theorem run_98 {R : Type} (N : Nat) (x : aden ap_98 × hden hp_98) (k : KF R) : fnrun TT (E_98 (R := R) N) (drawAny TT WW) (L_98 N) true Try.f98 (instA ap_98 x.1) (instH hp_98 x.2) k = p_98 N x (fun y => k (Pat.inst (.ros (.sl (.int .u8))) y.1) (instH [some (.lst (.str), 9)] y.2)) := (grun_98 x k).trans (by kernel_rfl)
theorem good_98 {R : Type} (N : Nat) : GD (X := R) Try.prog QQ AA 98 ap_98 hp_98 (fun (x : aden ap_98 × hden hp_98) k => p_98 N x (fun y => k (Pat.inst (.ros (.sl (.int .u8))) y.1) (instH [some (.lst (.str), 9)] y.2))) :=
  gd_loud (E := E_98 N) (p := fun (x : aden ap_98 × hden hp_98) k => p_98 N x (fun y => k (Pat.inst (.ros (.sl (.int .u8))) y.1) (instH [some (.lst (.str), 9)] y.2))) mixed tyok (eok_98 N) Try.func98 (by kernel_rfl) (by kernel_rfl) (by kernel_rfl) (by kernel_rfl) (lok_98 N) (fun x k => run_98 N x k)

def lv_84_5 : Live := [(4, none), (15, none), (16, none), (17, none)]
def pt_84_5 : SPat := ⟨[(4, .sl 0), (15, .ros (.int .u8)), (16, .int .i64), (17, .int .i64)], [some (.lst (.int .u64), 27)]⟩
def px_84_5_0 : SPat := ⟨[(4, .sl 0)], [some (.lst (.int .u64), 27)]⟩
def lo_84_5 : Exit → Live
  | .exit 0 => [(4, none)]
  | _ => []
def ap_84 : List Pat := [.ros (.int .u8)]
def hp_84 : List (Option (Pat × Nat)) := []
abbrev Tl_84_5 (R : Type) : Type := Y17 → (Y24 → Option R) → Option R
abbrev Tp_84 (R : Type) : Type := ((List Int) × Unit) × (Unit) → ((((List Int) × (Int × Unit)) × (Unit)) → Option R) → Option R
def C_84_5 {R : Type} (rec : Y17 → Option R) (x : Y17) (κ0 : Y24 → Option R) : Option R :=
let l674 := x.1.2.1
let i675 := x.1.2.2.1
let i676 := x.1.2.2.2.1
let l677 := x.2.1
bif (decide (i676 < i675)) then (
bif decide (0 ≤ i676) then (
bif decide (i676 < ((List.length l674) : Int)) then (
let p678 : Int := (List.getD l674 ((Int.toNat i676)) (Sch.zero (.int .u8)))
let i679 : Int := quoA .i64 i676 8
bif decide (0 ≤ i679) then (
bif decide (i679 < ((List.length l677) : Int)) then (
let i680 : Int := (List.getD l677 ((Int.toNat i679)) (Sch.zero (.int .u64)))
let i681 : Int := IntKind.wrap .u64 p678
let i682 : Int := remA .i64 i676 8
let i683 : Int := mulA .i64 8 i682
bif decide (i683 < 0) then none else (
let i684 : Int := shlA .u64 i681 i683
let i685 : Int := orA .u64 i680 i684
bif decide (0 ≤ i679) then (
bif decide (i679 < ((List.length l677) : Int)) then (
let l686 : (List Int) := (List.set l677 ((Int.toNat i679)) i685)
let i687 : Int := addA .i64 i676 1
rec (((), l674, i675, i687, ()), (l686, ()))) else none) else none)) else none) else none) else none) else none) else (
κ0 (((), ()), x.2))
def B_84_5 {R : Type} (N : Nat) (rec : Y17 → Option R) (x : Y17) (κ0 : Y24 → Option R) : Option R := C_84_5 rec x κ0
def l_84_5 {R : Type} (N : Nat) : Nat → Y17 → (Y24 → Option R) → Option R
  | 0, _, _ => none
  | n + 1, x, κ0 => B_84_5 N (fun y => l_84_5 N n y κ0) x κ0
def Q_84 {R : Type} (m_84_5 : Tl_84_5 R) (x : ((List Int) × Unit) × (Unit)) (κ0 : (((List Int) × (Int × Unit)) × (Unit)) → Option R) : Option R :=
let l667 := x.1.1
let i668 : Int := (((List.length l667) : Nat) : Int)
let i669 : Int := remA .i64 i668 8
bif (i669 != 0) then (
κ0 (([], (9, ())), ())) else (
let i670 : Int := (((List.length l667) : Nat) : Int)
let i671 : Int := quoA .i64 i670 8
bif decide (0 ≤ i671) then (
bif decide (i671 ≤ i671) then (
bif decide (((8 : Nat) : Int) * i671 ≤ 281474976710656) then (
bif decide (i671 ≤ 9223372036854775807) then (
let l672 : (List Int) := List.replicate ((Int.toNat i671)) (Sch.zero (.int .u64))
let i673 : Int := (((List.length l667) : Nat) : Int)
m_84_5 (((), l667, i673, 0, ()), (l672, ())) (fun y688 =>
let l689 := y688.2.1
κ0 ((l689, (0, ())), ()))) else none) else none) else none) else none)
def p_84 {R : Type} (N : Nat) (x : ((List Int) × Unit) × (Unit)) (κ0 : (((List Int) × (Int × Unit)) × (Unit)) → Option R) : Option R := Q_84 (l_84_5 N N) x κ0
def EG_84 {R : Type} : Env R := Env.base QQ LN AA
def LG_84 {R : Type} (m_84_5 : Tl_84_5 R) : Loops R := (Loops.none).add 5 (loopBy 0 lv_84_5 pt_84_5 (fun x k => m_84_5 x (fun y => k (.exit 0) (px_84_5_0.inst y))))
def E_84 {R : Type} (N : Nat) : Env R := EG_84
theorem eok_84 {R : Type} (N : Nat) : EK Try.prog (E_84 (R := R) N) := ek_base _ _ _
def L_84 {R : Type} (N : Nat) : Loops R := LG_84 (l_84_5 N N)
theorem gstep_84_5 {R : Type} (m_84_5 : Tl_84_5 R) (n : Nat) (x : pt_84_5.den) (k : Exit → St → Option R) : iter 0 lv_84_5 lo_84_5 (aexec TT (EG_84) (drawAny TT WW) (LG_84 m_84_5) (loopAt 5 (bodyOf Try.f84))) (n + 1) (pt_84_5.inst x) k = C_84_5 (fun y => iter 0 lv_84_5 lo_84_5 (aexec TT (EG_84) (drawAny TT WW) (LG_84 m_84_5) (loopAt 5 (bodyOf Try.f84))) n (pt_84_5.inst y) k) x (fun y => k (.exit 0) (px_84_5_0.inst y)) := by kernel_rfl
theorem step_84_5 {R : Type} (N n : Nat) (x : pt_84_5.den) (k : Exit → St → Option R) : iter 0 lv_84_5 lo_84_5 (aexec TT (E_84 (R := R) N) (drawAny TT WW) (L_84 N) (loopAt 5 (bodyOf Try.f84))) (n + 1) (pt_84_5.inst x) k = B_84_5 N (fun y => iter 0 lv_84_5 lo_84_5 (aexec TT (E_84 (R := R) N) (drawAny TT WW) (L_84 N) (loopAt 5 (bodyOf Try.f84))) n (pt_84_5.inst y) k) x (fun y => k (.exit 0) (px_84_5_0.inst y)) := (gstep_84_5 (l_84_5 N N) n x k).trans (by kernel_rfl)
theorem eq_84_5 {R : Type} (N : Nat) : ∀ (n : Nat) (x : pt_84_5.den) (k : Exit → St → Option R), iter 0 lv_84_5 lo_84_5 (aexec TT (E_84 (R := R) N) (drawAny TT WW) (L_84 N) (loopAt 5 (bodyOf Try.f84))) n (pt_84_5.inst x) k = l_84_5 N n x (fun y => k (.exit 0) (px_84_5_0.inst y)) :=
  iter_eq (K := Exit → St → Option R) (ks := fun k => k) (l := fun n (x : pt_84_5.den) k => l_84_5 N n x (fun y => k (.exit 0) (px_84_5_0.inst y))) (B := fun (rec : pt_84_5.den → Option R) (x : pt_84_5.den) k => B_84_5 N rec x (fun y => k (.exit 0) (px_84_5_0.inst y))) (fun _ _ => rfl) (fun _ _ _ => rfl) (fun n x k => step_84_5 N n x k)
theorem rounds_84_5 {R : Type} (N : Nat) : Rounds 0 TT (E_84 (R := R) N) (drawAny TT WW) (L_84 N) 5 (loopAt 5 (bodyOf Try.f84)) :=
  rounds_of (p := pt_84_5) (l := fun (x : pt_84_5.den) k => l_84_5 N N x (fun y => k (.exit 0) (px_84_5_0.inst y))) (fun s k => rfl) (fun x k => eq_84_5 N N x k)
theorem loops_84 : loopsIn (bodyOf Try.f84) = [(5, loopAt 5 (bodyOf Try.f84))] := by kernel_rfl
theorem lok_84 {R : Type} (N : Nat) : LOK 0 TT (E_84 (R := R) N) (drawAny TT WW) (L_84 N) (bodyOf Try.f84) := loops_all loops_84 (by
  simp only [List.forall_mem_cons, List.not_mem_nil, false_implies, implies_true, and_true]
  exact rounds_84_5 N)
theorem grun_84 {R : Type} (m_84_5 : Tl_84_5 R) (x : aden ap_84 × hden hp_84) (k : KF R) : fnrun TT (EG_84) (drawAny TT WW) (LG_84 m_84_5) true Try.f84 (instA ap_84 x.1) (instH hp_84 x.2) k = Q_84 m_84_5 x (fun y => k (Pat.inst (.tup (.fcons (.ros (.int .u64)) (.fcons (.int .i64) (.fnil)))) y.1) (instH [] y.2)) := by kernel_rfl
theorem run_84 {R : Type} (N : Nat) (x : aden ap_84 × hden hp_84) (k : KF R) : fnrun TT (E_84 (R := R) N) (drawAny TT WW) (L_84 N) true Try.f84 (instA ap_84 x.1) (instH hp_84 x.2) k = p_84 N x (fun y => k (Pat.inst (.tup (.fcons (.ros (.int .u64)) (.fcons (.int .i64) (.fnil)))) y.1) (instH [] y.2)) := (grun_84 (l_84_5 N N) x k).trans (by kernel_rfl)
theorem good_84 {R : Type} (N : Nat) : GD (X := R) Try.prog QQ AA 84 ap_84 hp_84 (fun (x : aden ap_84 × hden hp_84) k => p_84 N x (fun y => k (Pat.inst (.tup (.fcons (.ros (.int .u64)) (.fcons (.int .i64) (.fnil)))) y.1) (instH [] y.2))) :=
  gd_loud (E := E_84 N) (p := fun (x : aden ap_84 × hden hp_84) k => p_84 N x (fun y => k (Pat.inst (.tup (.fcons (.ros (.int .u64)) (.fcons (.int .i64) (.fnil)))) y.1) (instH [] y.2))) mixed tyok (eok_84 N) Try.func84 (by kernel_rfl) (by kernel_rfl) (by kernel_rfl) (by kernel_rfl) (lok_84 N) (fun x k => run_84 N x k)

def ap_107 : List Pat := []
def hp_107 : List (Option (Pat × Nat)) := []
abbrev Tp_107 (R : Type) : Type := (Unit) × (Unit) → ((Nat → (Nat → Int)) → Option R) → Option R
def Q_107 {R : Type} (x : (Unit) × (Unit)) (κ0 : (Nat → (Nat → Int)) → Option R) : Option R :=
let a705 : (Nat → Int) := (upd ((upd ((upd ((upd ((Sch.zero (.arr 4 (.int .i64)))) 0 0)) 1 4)) 2 8)) 3 12)
let a706 : (Nat → Int) := (upd ((upd ((upd ((upd ((Sch.zero (.arr 4 (.int .i64)))) 0 1)) 1 5)) 2 9)) 3 13)
let a707 : (Nat → Int) := (upd ((upd ((upd ((upd ((Sch.zero (.arr 4 (.int .i64)))) 0 2)) 1 6)) 2 10)) 3 14)
let a708 : (Nat → Int) := (upd ((upd ((upd ((upd ((Sch.zero (.arr 4 (.int .i64)))) 0 3)) 1 7)) 2 11)) 3 15)
let a709 : (Nat → Int) := (upd ((upd ((upd ((upd ((Sch.zero (.arr 4 (.int .i64)))) 0 0)) 1 5)) 2 10)) 3 15)
let a710 : (Nat → Int) := (upd ((upd ((upd ((upd ((Sch.zero (.arr 4 (.int .i64)))) 0 1)) 1 6)) 2 11)) 3 12)
let a711 : (Nat → Int) := (upd ((upd ((upd ((upd ((Sch.zero (.arr 4 (.int .i64)))) 0 2)) 1 7)) 2 8)) 3 13)
let a712 : (Nat → Int) := (upd ((upd ((upd ((upd ((Sch.zero (.arr 4 (.int .i64)))) 0 3)) 1 4)) 2 9)) 3 14)
let a713 : (Nat → (Nat → Int)) := (upd ((upd ((upd ((upd ((upd ((upd ((upd ((upd ((Sch.zero (.arr 8 (.arr 4 (.int .i64))))) 0 a705)) 1 a706)) 2 a707)) 3 a708)) 4 a709)) 5 a710)) 6 a711)) 7 a712)
κ0 a713
def p_107 {R : Type} (N : Nat) (x : (Unit) × (Unit)) (κ0 : (Nat → (Nat → Int)) → Option R) : Option R := Q_107 x κ0
def EG_107 {R : Type} : Env R := Env.base QQ LN AA
def LG_107 {R : Type} : Loops R := Loops.none
def E_107 {R : Type} (N : Nat) : Env R := EG_107
theorem eok_107 {R : Type} (N : Nat) : EK Try.prog (E_107 (R := R) N) := ek_base _ _ _
def L_107 {R : Type} (N : Nat) : Loops R := LG_107
theorem lok_107 {R : Type} (N : Nat) : LOK 0 TT (E_107 (R := R) N) (drawAny TT WW) (L_107 N) (bodyOf Try.f107) := loops_nil (by kernel_rfl)
theorem grun_107 {R : Type} (x : aden ap_107 × hden hp_107) (k : KF R) : fnrun TT (EG_107) (drawAny TT WW) (LG_107) true Try.f107 (instA ap_107 x.1) (instH hp_107 x.2) k = Q_107 x (fun y => k (Pat.inst (.vec (.arr 4 (.int .i64)) 8) y) (instH hp_107 x.2)) := by kernel_rfl
theorem run_107 {R : Type} (N : Nat) (x : aden ap_107 × hden hp_107) (k : KF R) : fnrun TT (E_107 (R := R) N) (drawAny TT WW) (L_107 N) true Try.f107 (instA ap_107 x.1) (instH hp_107 x.2) k = p_107 N x (fun y => k (Pat.inst (.vec (.arr 4 (.int .i64)) 8) y) (instH hp_107 x.2)) := (grun_107 x k).trans (by kernel_rfl)
theorem good_107 {R : Type} (N : Nat) : GD (X := R) Try.prog QQ AA 107 ap_107 hp_107 (fun (x : aden ap_107 × hden hp_107) k => p_107 N x (fun y => k (Pat.inst (.vec (.arr 4 (.int .i64)) 8) y) (instH hp_107 x.2))) :=
  gd_quiet (E := E_107 N) (p := fun (x : aden ap_107 × hden hp_107) κ => p_107 N x (fun y => κ (Pat.inst (.vec (.arr 4 (.int .i64)) 8) y))) mixed tyok (eok_107 N) Try.func107 (by kernel_rfl) (by kernel_rfl) (lok_107 N) (fun x k => run_107 N x k)

def lv_108_7 : Live := [(2, none), (4, none), (5, none), (16, none)]
def pt_108_7 : SPat := ⟨[(2, .ptr 0 []), (4, .ptr 1 []), (5, .str), (16, .int .i64)], J14⟩
def px_108_7_0 : SPat := ⟨[(2, .ptr 0 []), (4, .ptr 1 [])], J14⟩
def lo_108_7 : Exit → Live
  | .exit 0 => [(2, none), (4, none)]
  | _ => []
def ap_108 : List Pat := [.int .i64]
def hp_108 : List (Option (Pat × Nat)) := []
abbrev Tl_108_7 (R : Type) : Type := ((Unit × Unit × ByteArray × Int × Unit) × Y6) → (((Unit × Unit × Unit) × Y6) → Option R) → Option R
abbrev Tp_108 (R : Type) : Type := (Int × Unit) × (Unit) → ((Nat → Int) → Option R) → Option R
def C_108_7 {R : Type} (rec : ((Unit × Unit × ByteArray × Int × Unit) × Y6) → Option R) (x : ((Unit × Unit × ByteArray × Int × Unit) × Y6)) (κ0 : ((Unit × Unit × Unit) × Y6) → Option R) : Option R :=
let s727 := x.1.2.2.1
let i728 := x.1.2.2.2.1
let a729 := x.2.1
let a730 := x.2.2.1
bif (decide (i728 < 16)) then (
bif decide (0 ≤ i728) then (
bif decide (i728 < (ByteArray.size s727 : Int)) then (
let i731 : Int := byteAt s727 ((Int.toNat i728))
let i732 : Int := IntKind.wrap .i64 i731
bif (decide (i732 ≥ 97)) then (
let i733 : Int := subA .i64 i732 97
let i734 : Int := addA .i64 i733 10
bif decide (0 ≤ i728) then (
bif decide (i728 < (16 : Int)) then (
let a735 : (Nat → Int) := (upd a730 ((Int.toNat i728)) i734)
let i736 : Int := addA .i64 i728 1
rec (((), (), s727, i736, ()), (a729, a735, ()))) else none) else none) else (
let i737 : Int := subA .i64 i732 48
bif decide (0 ≤ i728) then (
bif decide (i728 < (16 : Int)) then (
let a738 : (Nat → Int) := (upd a730 ((Int.toNat i728)) i737)
let i739 : Int := addA .i64 i728 1
rec (((), (), s727, i739, ()), (a729, a738, ()))) else none) else none)) else none) else none) else (
κ0 (((), (), ()), (a729, a730, ())))
def B_108_7 {R : Type} (N : Nat) (rec : ((Unit × Unit × ByteArray × Int × Unit) × Y6) → Option R) (x : ((Unit × Unit × ByteArray × Int × Unit) × Y6)) (κ0 : ((Unit × Unit × Unit) × Y6) → Option R) : Option R := C_108_7 rec x κ0
def l_108_7 {R : Type} (N : Nat) : Nat → ((Unit × Unit × ByteArray × Int × Unit) × Y6) → (((Unit × Unit × Unit) × Y6) → Option R) → Option R
  | 0, _, _ => none
  | n + 1, x, κ0 => B_108_7 N (fun y => l_108_7 N n y κ0) x κ0
def Q_108 {R : Type} (m_108_7 : Tl_108_7 R) (x : (Int × Unit) × (Unit)) (κ0 : (Nat → Int) → Option R) : Option R :=
let i722 := x.1.1
let a723 : (Nat → ByteArray) := (upd ((upd ((upd ((upd ((upd ((upd ((upd ((upd ((upd ((upd ((Sch.zero (.arr 10 (.str)))) 0 (⟨#[48, 49, 50, 51, 52, 53, 54, 55, 56, 57, 97, 98, 99, 100, 101, 102]⟩))) 1 (⟨#[101, 97, 52, 56, 57, 102, 100, 54, 49, 99, 48, 50, 98, 55, 53, 51]⟩))) 2 (⟨#[98, 56, 99, 48, 53, 50, 102, 100, 97, 101, 51, 54, 55, 49, 57, 52]⟩))) 3 (⟨#[55, 57, 51, 49, 100, 99, 98, 101, 50, 54, 53, 97, 52, 48, 102, 56]⟩))) 4 (⟨#[57, 48, 53, 55, 50, 52, 97, 102, 101, 49, 98, 99, 54, 56, 51, 100]⟩))) 5 (⟨#[50, 99, 54, 97, 48, 98, 56, 51, 52, 100, 55, 53, 102, 101, 49, 57]⟩))) 6 (⟨#[99, 53, 49, 102, 101, 100, 52, 97, 48, 55, 54, 51, 57, 50, 56, 98]⟩))) 7 (⟨#[100, 98, 55, 101, 99, 49, 51, 57, 53, 48, 102, 52, 56, 54, 50, 97]⟩))) 8 (⟨#[54, 102, 101, 57, 98, 51, 48, 56, 99, 50, 100, 55, 49, 52, 97, 53]⟩))) 9 (⟨#[97, 50, 56, 52, 55, 54, 49, 53, 102, 98, 57, 101, 51, 99, 100, 48]⟩))
bif (decide (i722 < 0)) then (
let a724 : (Nat → Int) := (Sch.zero (.arr 16 (.int .i64)))
κ0 a724) else (
let i725 : Int := remA .i64 i722 10
bif decide (0 ≤ i725) then (
bif decide (i725 < (10 : Int)) then (
let s726 : ByteArray := (a723 ((Int.toNat i725)))
m_108_7 (((), (), s726, 0, ()), ((Sch.zero (.arr 16 (.int .i64))), (Sch.zero (.arr 16 (.int .i64))), ())) (fun y740 =>
let a742 := y740.2.2.1
κ0 a742)) else none) else none)
def p_108 {R : Type} (N : Nat) (x : (Int × Unit) × (Unit)) (κ0 : (Nat → Int) → Option R) : Option R := Q_108 (l_108_7 N N) x κ0
def EG_108 {R : Type} : Env R := Env.base QQ LN AA
def LG_108 {R : Type} (m_108_7 : Tl_108_7 R) : Loops R := (Loops.none).add 7 (loopBy 0 lv_108_7 pt_108_7 (fun x k => m_108_7 x (fun y => k (.exit 0) (px_108_7_0.inst y))))
def E_108 {R : Type} (N : Nat) : Env R := EG_108
theorem eok_108 {R : Type} (N : Nat) : EK Try.prog (E_108 (R := R) N) := ek_base _ _ _
def L_108 {R : Type} (N : Nat) : Loops R := LG_108 (l_108_7 N N)
theorem gstep_108_7 {R : Type} (m_108_7 : Tl_108_7 R) (n : Nat) (x : pt_108_7.den) (k : Exit → St → Option R) : iter 0 lv_108_7 lo_108_7 (aexec TT (EG_108) (drawAny TT WW) (LG_108 m_108_7) (loopAt 7 (bodyOf Try.f108))) (n + 1) (pt_108_7.inst x) k = C_108_7 (fun y => iter 0 lv_108_7 lo_108_7 (aexec TT (EG_108) (drawAny TT WW) (LG_108 m_108_7) (loopAt 7 (bodyOf Try.f108))) n (pt_108_7.inst y) k) x (fun y => k (.exit 0) (px_108_7_0.inst y)) := by kernel_rfl
theorem step_108_7 {R : Type} (N n : Nat) (x : pt_108_7.den) (k : Exit → St → Option R) : iter 0 lv_108_7 lo_108_7 (aexec TT (E_108 (R := R) N) (drawAny TT WW) (L_108 N) (loopAt 7 (bodyOf Try.f108))) (n + 1) (pt_108_7.inst x) k = B_108_7 N (fun y => iter 0 lv_108_7 lo_108_7 (aexec TT (E_108 (R := R) N) (drawAny TT WW) (L_108 N) (loopAt 7 (bodyOf Try.f108))) n (pt_108_7.inst y) k) x (fun y => k (.exit 0) (px_108_7_0.inst y)) := (gstep_108_7 (l_108_7 N N) n x k).trans (by kernel_rfl)
theorem eq_108_7 {R : Type} (N : Nat) : ∀ (n : Nat) (x : pt_108_7.den) (k : Exit → St → Option R), iter 0 lv_108_7 lo_108_7 (aexec TT (E_108 (R := R) N) (drawAny TT WW) (L_108 N) (loopAt 7 (bodyOf Try.f108))) n (pt_108_7.inst x) k = l_108_7 N n x (fun y => k (.exit 0) (px_108_7_0.inst y)) :=
  iter_eq (K := Exit → St → Option R) (ks := fun k => k) (l := fun n (x : pt_108_7.den) k => l_108_7 N n x (fun y => k (.exit 0) (px_108_7_0.inst y))) (B := fun (rec : pt_108_7.den → Option R) (x : pt_108_7.den) k => B_108_7 N rec x (fun y => k (.exit 0) (px_108_7_0.inst y))) (fun _ _ => rfl) (fun _ _ _ => rfl) (fun n x k => step_108_7 N n x k)
theorem rounds_108_7 {R : Type} (N : Nat) : Rounds 0 TT (E_108 (R := R) N) (drawAny TT WW) (L_108 N) 7 (loopAt 7 (bodyOf Try.f108)) :=
  rounds_of (p := pt_108_7) (l := fun (x : pt_108_7.den) k => l_108_7 N N x (fun y => k (.exit 0) (px_108_7_0.inst y))) (fun s k => rfl) (fun x k => eq_108_7 N N x k)
theorem loops_108 : loopsIn (bodyOf Try.f108) = [(7, loopAt 7 (bodyOf Try.f108))] := by kernel_rfl
theorem lok_108 {R : Type} (N : Nat) : LOK 0 TT (E_108 (R := R) N) (drawAny TT WW) (L_108 N) (bodyOf Try.f108) := loops_all loops_108 (by
  simp only [List.forall_mem_cons, List.not_mem_nil, false_implies, implies_true, and_true]
  exact rounds_108_7 N)
theorem grun_108 {R : Type} (m_108_7 : Tl_108_7 R) (x : aden ap_108 × hden hp_108) (k : KF R) : fnrun TT (EG_108) (drawAny TT WW) (LG_108 m_108_7) true Try.f108 (instA ap_108 x.1) (instH hp_108 x.2) k = Q_108 m_108_7 x (fun y => k (Pat.inst (.vec (.int .i64) 16) y) (instH hp_108 x.2)) := by kernel_rfl
theorem run_108 {R : Type} (N : Nat) (x : aden ap_108 × hden hp_108) (k : KF R) : fnrun TT (E_108 (R := R) N) (drawAny TT WW) (L_108 N) true Try.f108 (instA ap_108 x.1) (instH hp_108 x.2) k = p_108 N x (fun y => k (Pat.inst (.vec (.int .i64) 16) y) (instH hp_108 x.2)) := (grun_108 (l_108_7 N N) x k).trans (by kernel_rfl)
theorem good_108 {R : Type} (N : Nat) : GD (X := R) Try.prog QQ AA 108 ap_108 hp_108 (fun (x : aden ap_108 × hden hp_108) k => p_108 N x (fun y => k (Pat.inst (.vec (.int .i64) 16) y) (instH hp_108 x.2))) :=
  gd_quiet (E := E_108 N) (p := fun (x : aden ap_108 × hden hp_108) κ => p_108 N x (fun y => κ (Pat.inst (.vec (.int .i64) 16) y))) mixed tyok (eok_108 N) Try.func108 (by kernel_rfl) (by kernel_rfl) (lok_108 N) (fun x k => run_108 N x k)

def ap_117 : List Pat := [.int .u64, .int .i64]
def hp_117 : List (Option (Pat × Nat)) := []
abbrev Tp_117 (R : Type) : Type := (Int × Int × Unit) × (Unit) → (Int → Option R) → Option R
def Q_117 {R : Type} (x : (Int × Int × Unit) × (Unit)) (κ0 : Int → Option R) : Option R :=
let i779 := x.1.1
let i780 := x.1.2.1
let i781 : Int := IntKind.wrap .u64 i780
let i782 : Int := remA .u64 i781 64
bif decide (i782 < 0) then none else (
let i783 : Int := shrA .u64 i779 i782
let i784 : Int := subA .u64 64 i782
bif decide (i784 < 0) then none else (
let i785 : Int := shlA .u64 i779 i784
let i786 : Int := orA .u64 i783 i785
κ0 i786))
def p_117 {R : Type} (N : Nat) (x : (Int × Int × Unit) × (Unit)) (κ0 : Int → Option R) : Option R := Q_117 x κ0
def EG_117 {R : Type} : Env R := Env.base QQ LN AA
def LG_117 {R : Type} : Loops R := Loops.none
def E_117 {R : Type} (N : Nat) : Env R := EG_117
theorem eok_117 {R : Type} (N : Nat) : EK Try.prog (E_117 (R := R) N) := ek_base _ _ _
def L_117 {R : Type} (N : Nat) : Loops R := LG_117
theorem lok_117 {R : Type} (N : Nat) : LOK 0 TT (E_117 (R := R) N) (drawAny TT WW) (L_117 N) (bodyOf Try.f117) := loops_nil (by kernel_rfl)
theorem grun_117 {R : Type} (x : aden ap_117 × hden hp_117) (k : KF R) : fnrun TT (EG_117) (drawAny TT WW) (LG_117) true Try.f117 (instA ap_117 x.1) (instH hp_117 x.2) k = Q_117 x (fun y => k (Pat.inst (.int .u64) y) (instH hp_117 x.2)) := by kernel_rfl
theorem run_117 {R : Type} (N : Nat) (x : aden ap_117 × hden hp_117) (k : KF R) : fnrun TT (E_117 (R := R) N) (drawAny TT WW) (L_117 N) true Try.f117 (instA ap_117 x.1) (instH hp_117 x.2) k = p_117 N x (fun y => k (Pat.inst (.int .u64) y) (instH hp_117 x.2)) := (grun_117 x k).trans (by kernel_rfl)
theorem good_117 {R : Type} (N : Nat) : GD (X := R) Try.prog QQ AA 117 ap_117 hp_117 (fun (x : aden ap_117 × hden hp_117) k => p_117 N x (fun y => k (Pat.inst (.int .u64) y) (instH hp_117 x.2))) :=
  gd_quiet (E := E_117 N) (p := fun (x : aden ap_117 × hden hp_117) κ => p_117 N x (fun y => κ (Pat.inst (.int .u64) y))) mixed tyok (eok_117 N) Try.func117 (by kernel_rfl) (by kernel_rfl) (lok_117 N) (fun x k => run_117 N x k)

def ap_109 : List Pat := [.int .u64, .int .u64, .int .u64, .int .u64, .int .u64, .int .u64]
def hp_109 : List (Option (Pat × Nat)) := []
abbrev Tp_109 (R : Type) : Type := (Int × Int × Int × Int × Int × Int × Unit) × (Unit) → (Y7 → Option R) → Option R
def Q_109 {R : Type} (q_117 : Tp_117 R) (x : (Int × Int × Int × Int × Int × Int × Unit) × (Unit)) (κ0 : Y7 → Option R) : Option R :=
let i770 := x.1.1
let i771 := x.1.2.1
let i772 := x.1.2.2.1
let i773 := x.1.2.2.2.1
let i774 := x.1.2.2.2.2.1
let i775 := x.1.2.2.2.2.2.1
let i776 : Int := addA .u64 i771 i774
let i777 : Int := addA .u64 i770 i776
let i778 : Int := xorA .u64 i773 i777
q_117 ((i778, 32, ()), ()) (fun y787 =>
let i788 : Int := y787
let i789 : Int := addA .u64 i772 i788
let i790 : Int := xorA .u64 i771 i789
q_117 ((i790, 24, ()), ()) (fun y791 =>
let i792 := y791
let i793 : Int := addA .u64 i792 i775
let i794 : Int := addA .u64 i777 i793
let i795 : Int := xorA .u64 i788 i794
q_117 ((i795, 16, ()), ()) (fun y796 =>
let i797 : Int := y796
let i798 : Int := addA .u64 i789 i797
let i799 : Int := xorA .u64 i792 i798
q_117 ((i799, 63, ()), ()) (fun y800 =>
let i801 : Int := y800
κ0 ((i794, (i801, (i798, (i797, ())))))))))
def p_109 {R : Type} (N : Nat) (x : (Int × Int × Int × Int × Int × Int × Unit) × (Unit)) (κ0 : Y7 → Option R) : Option R := Q_109 (p_117 N) x κ0
def EG_109 {R : Type} (q_117 : Tp_117 R) : Env R := (Env.base QQ LN AA).add 117 ap_117 hp_117 (fun (x : aden ap_117 × hden hp_117) k => q_117 x (fun y => k (Pat.inst (.int .u64) y) (instH hp_117 x.2)))
def LG_109 {R : Type} : Loops R := Loops.none
def E_109 {R : Type} (N : Nat) : Env R := EG_109 (p_117 N)
theorem eok_109 {R : Type} (N : Nat) : EK Try.prog (E_109 (R := R) N) := ek_add (ek_base _ _ _) (good_117 N)
def L_109 {R : Type} (N : Nat) : Loops R := LG_109
theorem lok_109 {R : Type} (N : Nat) : LOK 0 TT (E_109 (R := R) N) (drawAny TT WW) (L_109 N) (bodyOf Try.f109) := loops_nil (by kernel_rfl)
theorem grun_109 {R : Type} (q_117 : Tp_117 R) (x : aden ap_109 × hden hp_109) (k : KF R) : fnrun TT (EG_109 q_117) (drawAny TT WW) (LG_109) true Try.f109 (instA ap_109 x.1) (instH hp_109 x.2) k = Q_109 q_117 x (fun y => k (Pat.inst (.tup (.fcons (.int .u64) (.fcons (.int .u64) (.fcons (.int .u64) (.fcons (.int .u64) (.fnil)))))) y) (instH hp_109 x.2)) := by kernel_rfl
theorem run_109 {R : Type} (N : Nat) (x : aden ap_109 × hden hp_109) (k : KF R) : fnrun TT (E_109 (R := R) N) (drawAny TT WW) (L_109 N) true Try.f109 (instA ap_109 x.1) (instH hp_109 x.2) k = p_109 N x (fun y => k (Pat.inst (.tup (.fcons (.int .u64) (.fcons (.int .u64) (.fcons (.int .u64) (.fcons (.int .u64) (.fnil)))))) y) (instH hp_109 x.2)) := (grun_109 (p_117 N) x k).trans (by kernel_rfl)
theorem good_109 {R : Type} (N : Nat) : GD (X := R) Try.prog QQ AA 109 ap_109 hp_109 (fun (x : aden ap_109 × hden hp_109) k => p_109 N x (fun y => k (Pat.inst (.tup (.fcons (.int .u64) (.fcons (.int .u64) (.fcons (.int .u64) (.fcons (.int .u64) (.fnil)))))) y) (instH hp_109 x.2))) :=
  gd_quiet (E := E_109 N) (p := fun (x : aden ap_109 × hden hp_109) κ => p_109 N x (fun y => κ (Pat.inst (.tup (.fcons (.int .u64) (.fcons (.int .u64) (.fcons (.int .u64) (.fcons (.int .u64) (.fnil)))))) y))) mixed tyok (eok_109 N) Try.func109 (by kernel_rfl) (by kernel_rfl) (lok_109 N) (fun x k => run_109 N x k)

def lv_99_17 : Live := [(4, none), (8, none), (10, none), (12, none), (14, none), (16, none), (51, none), (56, none), (57, none)]
def pt_99_17 : SPat := ⟨[(4, .ptr 0 []), (8, .ptr 1 []), (10, .ros (.int .u64)), (12, .ptr 2 []), (14, .ptr 3 []), (16, .ptr 4 []), (51, .int .i64), (56, .vec (.arr 4 (.int .i64)) 8), (57, .int .i64)], [some (.vec (.int .u64) 8, 56), some (.vec (.int .u64) 8, 56), some (.vec (.int .u64) 16, 186), some (.vec (.arr 4 (.int .i64)) 8, 190), some (.vec (.int .i64) 16, 192)]⟩
def px_99_17_0 : SPat := ⟨[(4, .ptr 0 []), (8, .ptr 1 []), (10, .ros (.int .u64)), (12, .ptr 2 []), (14, .ptr 3 []), (51, .int .i64)], [some (.vec (.int .u64) 8, 56), some (.vec (.int .u64) 8, 56), some (.vec (.int .u64) 16, 186), some (.vec (.arr 4 (.int .i64)) 8, 190)]⟩
def lo_99_17 : Exit → Live
  | .exit 2 => [(4, none), (8, none), (10, none), (12, none), (14, none), (51, none)]
  | _ => []
def lv_99_13 : Live := [(4, none), (8, none), (10, none), (12, none), (14, none), (51, none)]
def pt_99_13 : SPat := ⟨[(4, .ptr 0 []), (8, .ptr 1 []), (10, .ros (.int .u64)), (12, .ptr 2 []), (14, .ptr 3 []), (51, .int .i64)], [some (.vec (.int .u64) 8, 56), some (.vec (.int .u64) 8, 56), some (.vec (.int .u64) 16, 186), some (.vec (.arr 4 (.int .i64)) 8, 190)]⟩
def px_99_13_0 : SPat := ⟨[(4, .ptr 0 []), (8, .ptr 1 []), (12, .ptr 2 [])], J9⟩
def lo_99_13 : Exit → Live
  | .exit 0 => [(4, none), (8, none), (12, none)]
  | _ => []
def lv_99_24 : Live := [(4, none), (8, none), (12, none), (112, none)]
def pt_99_24 : SPat := ⟨[(4, .ptr 0 []), (8, .ptr 1 []), (12, .ptr 2 []), (112, .int .i64)], J9⟩
def px_99_24_0 : SPat := ⟨[(4, .ptr 0 []), (8, .ptr 1 [])], [some (.vec (.int .u64) 8, 56), some (.vec (.int .u64) 8, 56)]⟩
def lo_99_24 : Exit → Live
  | .exit 4 => [(4, none), (8, none)]
  | _ => []
def ap_99 : List Pat := [.vec (.int .u64) 8, .ros (.int .u8), .int .u64, .bool]
def hp_99 : List (Option (Pat × Nat)) := []
abbrev Tl_99_17 (R : Type) : Type := Y20 → (Y13 → Option R) → Option R
abbrev Tl_99_13 (R : Type) : Type := Y13 → (((Unit × Unit × Unit × Unit) × Y9) → Option R) → Option R
abbrev Tl_99_24 (R : Type) : Type := ((Unit × Unit × Unit × Int × Unit) × Y9) → (((Unit × Unit × Unit) × Y6) → Option R) → Option R
abbrev Tp_99 (R : Type) : Type := ((Nat → Int) × (List Int) × Int × Bool × Unit) × (Unit) → (((Nat → Int) × (Int × Unit)) → Option R) → Option R
def C_99_17 {R : Type} (q_109 : Tp_109 R) (rec : Y20 → Option R) (x : Y20) (κ0 : Y13 → Option R) : Option R :=
let l1303 := x.1.2.2.1
let i1304 := x.1.2.2.2.2.2.2.1
let a1305 := x.1.2.2.2.2.2.2.2.1
let i1306 := x.1.2.2.2.2.2.2.2.2.1
let a1307 := x.2.1
let a1308 := x.2.2.1
let a1309 := x.2.2.2.1
let a1310 := x.2.2.2.2.1
let a1311 := x.2.2.2.2.2.1
bif (decide (i1306 < 8)) then (
bif decide (0 ≤ i1306) then (
bif decide (i1306 < (8 : Int)) then (
let a1312 : (Nat → Int) := (a1305 ((Int.toNat i1306)))
let i1313 : Int := (a1312 0)
let i1314 : Int := (a1312 1)
let i1315 : Int := (a1312 2)
let i1316 : Int := (a1312 3)
bif decide (0 ≤ i1313) then (
bif decide (i1313 < (16 : Int)) then (
let i1317 : Int := (a1309 ((Int.toNat i1313)))
bif decide (0 ≤ i1314) then (
bif decide (i1314 < (16 : Int)) then (
let i1318 : Int := (a1309 ((Int.toNat i1314)))
bif decide (0 ≤ i1315) then (
bif decide (i1315 < (16 : Int)) then (
let i1319 : Int := (a1309 ((Int.toNat i1315)))
bif decide (0 ≤ i1316) then (
bif decide (i1316 < (16 : Int)) then (
let i1320 : Int := (a1309 ((Int.toNat i1316)))
let i1321 : Int := mulA .i64 2 i1306
bif decide (0 ≤ i1321) then (
bif decide (i1321 < (16 : Int)) then (
let i1322 : Int := (a1311 ((Int.toNat i1321)))
bif decide (0 ≤ i1322) then (
bif decide (i1322 < ((List.length l1303) : Int)) then (
let p1323 : Int := (List.getD l1303 ((Int.toNat i1322)) (Sch.zero (.int .u64)))
let i1324 : Int := mulA .i64 2 i1306
let i1325 : Int := addA .i64 i1324 1
bif decide (0 ≤ i1325) then (
bif decide (i1325 < (16 : Int)) then (
let i1326 : Int := (a1311 ((Int.toNat i1325)))
bif decide (0 ≤ i1326) then (
bif decide (i1326 < ((List.length l1303) : Int)) then (
let p1327 : Int := (List.getD l1303 ((Int.toNat i1326)) (Sch.zero (.int .u64)))
q_109 ((i1317, i1318, i1319, i1320, p1323, p1327, ()), ()) (fun y1328 =>
let i1329 := y1328.1
let i1330 := y1328.2.1
let i1331 := y1328.2.2.1
let i1332 := y1328.2.2.2.1
bif decide (0 ≤ i1313) then (
bif decide (i1313 < (16 : Int)) then (
let a1333 : (Nat → Int) := (upd a1309 ((Int.toNat i1313)) i1329)
bif decide (0 ≤ i1314) then (
bif decide (i1314 < (16 : Int)) then (
let a1334 : (Nat → Int) := (upd a1333 ((Int.toNat i1314)) i1330)
bif decide (0 ≤ i1315) then (
bif decide (i1315 < (16 : Int)) then (
let a1335 : (Nat → Int) := (upd a1334 ((Int.toNat i1315)) i1331)
bif decide (0 ≤ i1316) then (
bif decide (i1316 < (16 : Int)) then (
let a1336 : (Nat → Int) := (upd a1335 ((Int.toNat i1316)) i1332)
let i1337 : Int := addA .i64 i1306 1
rec (((), (), l1303, (), (), (), i1304, a1305, i1337, ()), (a1307, a1308, a1336, a1310, a1311, ()))) else none) else none) else none) else none) else none) else none) else none) else none)) else none) else none) else none) else none) else none) else none) else none) else none) else none) else none) else none) else none) else none) else none) else none) else none) else none) else none) else (
κ0 (((), (), l1303, (), (), i1304, ()), (a1307, a1308, a1309, a1310, ())))
def C_99_13 {R : Type} (q_108 : Tp_108 R) (m_99_17 : Tl_99_17 R) (rec : Y13 → Option R) (x : Y13) (κ0 : ((Unit × Unit × Unit × Unit) × Y9) → Option R) : Option R :=
let l1295 := x.1.2.2.1
let i1296 := x.1.2.2.2.2.2.1
let a1297 := x.2.1
let a1298 := x.2.2.1
let a1299 := x.2.2.2.1
let a1300 := x.2.2.2.2.1
bif (decide (i1296 < 12)) then (
q_108 ((i1296, ()), ()) (fun y1301 =>
let a1302 := y1301
m_99_17 (((), (), l1295, (), (), (), i1296, a1300, 0, ()), (a1297, a1298, a1299, a1300, a1302, ())) (fun y1338 =>
let l1339 := y1338.1.2.2.1
let i1340 := y1338.1.2.2.2.2.2.1
let a1341 := y1338.2.1
let a1342 := y1338.2.2.1
let a1343 := y1338.2.2.2.1
let a1344 := y1338.2.2.2.2.1
let i1345 : Int := addA .i64 i1340 1
rec (((), (), l1339, (), (), i1345, ()), (a1341, a1342, a1343, a1344, ()))))) else (
κ0 (((), (), (), ()), (a1297, a1298, a1299, ())))
def C_99_24 {R : Type} (rec : ((Unit × Unit × Unit × Int × Unit) × Y9) → Option R) (x : ((Unit × Unit × Unit × Int × Unit) × Y9)) (κ0 : ((Unit × Unit × Unit) × Y6) → Option R) : Option R :=
let i1350 := x.1.2.2.2.1
let a1351 := x.2.1
let a1352 := x.2.2.1
let a1353 := x.2.2.2.1
bif (decide (i1350 < 8)) then (
bif decide (0 ≤ i1350) then (
bif decide (i1350 < (8 : Int)) then (
let i1354 : Int := (a1351 ((Int.toNat i1350)))
bif decide (0 ≤ i1350) then (
bif decide (i1350 < (16 : Int)) then (
let i1355 : Int := (a1353 ((Int.toNat i1350)))
let i1356 : Int := addA .i64 i1350 8
bif decide (0 ≤ i1356) then (
bif decide (i1356 < (16 : Int)) then (
let i1357 : Int := (a1353 ((Int.toNat i1356)))
let i1358 : Int := xorA .u64 i1355 i1357
let i1359 : Int := xorA .u64 i1354 i1358
bif decide (0 ≤ i1350) then (
bif decide (i1350 < (8 : Int)) then (
let a1360 : (Nat → Int) := (upd a1351 ((Int.toNat i1350)) i1359)
let i1361 : Int := addA .i64 i1350 1
rec (((), (), (), i1361, ()), (a1360, a1352, a1353, ()))) else none) else none) else none) else none) else none) else none) else none) else none) else (
κ0 (((), (), ()), (a1351, a1352, ())))
def B_99_17 {R : Type} (N : Nat) (rec : Y20 → Option R) (x : Y20) (κ0 : Y13 → Option R) : Option R := C_99_17 (p_109 N) rec x κ0
def l_99_17 {R : Type} (N : Nat) : Nat → Y20 → (Y13 → Option R) → Option R
  | 0, _, _ => none
  | n + 1, x, κ0 => B_99_17 N (fun y => l_99_17 N n y κ0) x κ0
def B_99_13 {R : Type} (N : Nat) (rec : Y13 → Option R) (x : Y13) (κ0 : ((Unit × Unit × Unit × Unit) × Y9) → Option R) : Option R := C_99_13 (p_108 N) (l_99_17 N N) rec x κ0
def l_99_13 {R : Type} (N : Nat) : Nat → Y13 → (((Unit × Unit × Unit × Unit) × Y9) → Option R) → Option R
  | 0, _, _ => none
  | n + 1, x, κ0 => B_99_13 N (fun y => l_99_13 N n y κ0) x κ0
def B_99_24 {R : Type} (N : Nat) (rec : ((Unit × Unit × Unit × Int × Unit) × Y9) → Option R) (x : ((Unit × Unit × Unit × Int × Unit) × Y9)) (κ0 : ((Unit × Unit × Unit) × Y6) → Option R) : Option R := C_99_24 rec x κ0
def l_99_24 {R : Type} (N : Nat) : Nat → ((Unit × Unit × Unit × Int × Unit) × Y9) → (((Unit × Unit × Unit) × Y6) → Option R) → Option R
  | 0, _, _ => none
  | n + 1, x, κ0 => B_99_24 N (fun y => l_99_24 N n y κ0) x κ0
def Q_99 {R : Type} (q_84 : Tp_84 R) (q_97 : Tp_97 R) (q_107 : Tp_107 R) (q_109 : Tp_109 R) (q_108 : Tp_108 R) (m_99_17 : Tl_99_17 R) (m_99_13 : Tl_99_13 R) (m_99_24 : Tl_99_24 R) (x : ((Nat → Int) × (List Int) × Int × Bool × Unit) × (Unit)) (κ0 : ((Nat → Int) × (Int × Unit)) → Option R) : Option R :=
let a661 := x.1.1
let l662 := x.1.2.1
let i663 := x.1.2.2.1
let b664 := x.1.2.2.2.1
let i665 : Int := (((List.length l662) : Nat) : Int)
bif (i665 != 128) then (
let a666 : (Nat → Int) := (Sch.zero (.arr 8 (.int .u64)))
κ0 ((a666, (9, ())))) else (
q_84 ((l662, ()), ()) (fun y690 =>
let l691 := y690.1.1
let l693 : (List Int) := ((List.range 8).map fun j => a661 (0 + j))
bif decide (0 < Nat.min (List.length l693) 8) then (
let a694 : (Nat → Int) := copyF ((Sch.zero (.arr 16 (.int .u64)))) 0 (Nat.min (List.length l693) 8) l693 (Sch.zero (.int .u64))
q_97 ((), ()) (fun y695 =>
let a696 : (Nat → Int) := y695
let l697 : (List Int) := ((List.range 8).map fun j => a696 (0 + j))
bif decide (0 < Nat.min (List.length l697) 8) then (
let a698 : (Nat → Int) := copyF a694 8 (Nat.min (List.length l697) 8) l697 (Sch.zero (.int .u64))
let i699 : Int := (a698 12)
let i700 : Int := xorA .u64 i699 i663
let a701 : (Nat → Int) := (upd a698 12 i700)
bif b664 then (
let i702 : Int := (a701 14)
let i703 : Int := xorA .u64 18446744073709551615 i702
let a704 : (Nat → Int) := (upd a701 14 i703)
q_107 ((), ()) (fun y714 =>
let a715 : (Nat → (Nat → Int)) := y714
m_99_13 (((), (), l691, (), (), 0, ()), (a661, (Sch.zero (.arr 8 (.int .u64))), a704, a715, ())) (fun y820 =>
let a821 := y820.2.1
let a822 := y820.2.2.1
let a823 := y820.2.2.2.1
m_99_24 (((), (), (), 0, ()), (a821, a822, a823, ())) (fun y836 =>
let a837 := y836.2.1
κ0 ((a837, (0, ()))))))) else (
q_107 ((), ()) (fun y839 =>
let a840 : (Nat → (Nat → Int)) := y839
m_99_13 (((), (), l691, (), (), 0, ()), (a661, (Sch.zero (.arr 8 (.int .u64))), a701, a840, ())) (fun y892 =>
let a893 := y892.2.1
let a894 := y892.2.2.1
let a895 := y892.2.2.2.1
m_99_24 (((), (), (), 0, ()), (a893, a894, a895, ())) (fun y908 =>
let a909 := y908.2.1
κ0 ((a909, (0, ())))))))) else (
let i911 : Int := (a694 12)
let i912 : Int := xorA .u64 i911 i663
let a913 : (Nat → Int) := (upd a694 12 i912)
bif b664 then (
let i914 : Int := (a913 14)
let i915 : Int := xorA .u64 18446744073709551615 i914
let a916 : (Nat → Int) := (upd a913 14 i915)
q_107 ((), ()) (fun y917 =>
let a918 : (Nat → (Nat → Int)) := y917
m_99_13 (((), (), l691, (), (), 0, ()), (a661, (Sch.zero (.arr 8 (.int .u64))), a916, a918, ())) (fun y970 =>
let a971 := y970.2.1
let a972 := y970.2.2.1
let a973 := y970.2.2.2.1
m_99_24 (((), (), (), 0, ()), (a971, a972, a973, ())) (fun y986 =>
let a987 := y986.2.1
κ0 ((a987, (0, ()))))))) else (
q_107 ((), ()) (fun y989 =>
let a990 : (Nat → (Nat → Int)) := y989
m_99_13 (((), (), l691, (), (), 0, ()), (a661, (Sch.zero (.arr 8 (.int .u64))), a913, a990, ())) (fun y1042 =>
let a1043 := y1042.2.1
let a1044 := y1042.2.2.1
let a1045 := y1042.2.2.2.1
m_99_24 (((), (), (), 0, ()), (a1043, a1044, a1045, ())) (fun y1058 =>
let a1059 := y1058.2.1
κ0 ((a1059, (0, ())))))))))) else (
q_97 ((), ()) (fun y1061 =>
let a1062 := y1061
let l1063 : (List Int) := ((List.range 8).map fun j => a1062 (0 + j))
bif decide (0 < Nat.min (List.length l1063) 8) then (
let a1064 : (Nat → Int) := copyF ((Sch.zero (.arr 16 (.int .u64)))) 8 (Nat.min (List.length l1063) 8) l1063 (Sch.zero (.int .u64))
let i1065 : Int := (a1064 12)
let i1066 : Int := xorA .u64 i1065 i663
let a1067 : (Nat → Int) := (upd a1064 12 i1066)
bif b664 then (
let i1068 : Int := (a1067 14)
let i1069 : Int := xorA .u64 18446744073709551615 i1068
let a1070 : (Nat → Int) := (upd a1067 14 i1069)
q_107 ((), ()) (fun y1071 =>
let a1072 := y1071
m_99_13 (((), (), l691, (), (), 0, ()), (a661, (Sch.zero (.arr 8 (.int .u64))), a1070, a1072, ())) (fun y1124 =>
let a1125 := y1124.2.1
let a1126 := y1124.2.2.1
let a1127 := y1124.2.2.2.1
m_99_24 (((), (), (), 0, ()), (a1125, a1126, a1127, ())) (fun y1140 =>
let a1141 := y1140.2.1
κ0 ((a1141, (0, ()))))))) else (
q_107 ((), ()) (fun y1143 =>
let a1144 : (Nat → (Nat → Int)) := y1143
m_99_13 (((), (), l691, (), (), 0, ()), (a661, (Sch.zero (.arr 8 (.int .u64))), a1067, a1144, ())) (fun y1196 =>
let a1197 := y1196.2.1
let a1198 := y1196.2.2.1
let a1199 := y1196.2.2.2.1
m_99_24 (((), (), (), 0, ()), (a1197, a1198, a1199, ())) (fun y1212 =>
let a1213 := y1212.2.1
κ0 ((a1213, (0, ())))))))) else (
let i1215 : Int := (((Sch.zero (.arr 16 (.int .u64)))) 12)
let i1216 : Int := xorA .u64 i1215 i663
let a1217 : (Nat → Int) := (upd ((Sch.zero (.arr 16 (.int .u64)))) 12 i1216)
bif b664 then (
let i1218 : Int := (a1217 14)
let i1219 : Int := xorA .u64 18446744073709551615 i1218
let a1220 : (Nat → Int) := (upd a1217 14 i1219)
q_107 ((), ()) (fun y1221 =>
let a1222 := y1221
m_99_13 (((), (), l691, (), (), 0, ()), (a661, (Sch.zero (.arr 8 (.int .u64))), a1220, a1222, ())) (fun y1274 =>
let a1275 := y1274.2.1
let a1276 := y1274.2.2.1
let a1277 := y1274.2.2.2.1
m_99_24 (((), (), (), 0, ()), (a1275, a1276, a1277, ())) (fun y1290 =>
let a1291 := y1290.2.1
κ0 ((a1291, (0, ()))))))) else (
q_107 ((), ()) (fun y1293 =>
let a1294 : (Nat → (Nat → Int)) := y1293
m_99_13 (((), (), l691, (), (), 0, ()), (a661, (Sch.zero (.arr 8 (.int .u64))), a1217, a1294, ())) (fun y1346 =>
let a1347 := y1346.2.1
let a1348 := y1346.2.2.1
let a1349 := y1346.2.2.2.1
m_99_24 (((), (), (), 0, ()), (a1347, a1348, a1349, ())) (fun y1362 =>
let a1363 := y1362.2.1
κ0 ((a1363, (0, ()))))))))))))
def p_99 {R : Type} (N : Nat) (x : ((Nat → Int) × (List Int) × Int × Bool × Unit) × (Unit)) (κ0 : ((Nat → Int) × (Int × Unit)) → Option R) : Option R := Q_99 (p_84 N) (p_97 N) (p_107 N) (p_109 N) (p_108 N) (l_99_17 N N) (l_99_13 N N) (l_99_24 N N) x κ0
def EG_99 {R : Type} (q_84 : Tp_84 R) (q_97 : Tp_97 R) (q_107 : Tp_107 R) (q_109 : Tp_109 R) (q_108 : Tp_108 R) : Env R := (((((Env.base QQ LN AA).add 84 ap_84 hp_84 (fun (x : aden ap_84 × hden hp_84) k => q_84 x (fun y => k (Pat.inst (.tup (.fcons (.ros (.int .u64)) (.fcons (.int .i64) (.fnil)))) y.1) (instH [] y.2)))).add 97 ap_97 hp_97 (fun (x : aden ap_97 × hden hp_97) k => q_97 x (fun y => k (Pat.inst (.vec (.int .u64) 8) y) (instH hp_97 x.2)))).add 107 ap_107 hp_107 (fun (x : aden ap_107 × hden hp_107) k => q_107 x (fun y => k (Pat.inst (.vec (.arr 4 (.int .i64)) 8) y) (instH hp_107 x.2)))).add 109 ap_109 hp_109 (fun (x : aden ap_109 × hden hp_109) k => q_109 x (fun y => k (Pat.inst (.tup (.fcons (.int .u64) (.fcons (.int .u64) (.fcons (.int .u64) (.fcons (.int .u64) (.fnil)))))) y) (instH hp_109 x.2)))).add 108 ap_108 hp_108 (fun (x : aden ap_108 × hden hp_108) k => q_108 x (fun y => k (Pat.inst (.vec (.int .i64) 16) y) (instH hp_108 x.2)))
def LG_99 {R : Type} (m_99_17 : Tl_99_17 R) (m_99_13 : Tl_99_13 R) (m_99_24 : Tl_99_24 R) : Loops R := (((Loops.none).add 17 (loopBy 0 lv_99_17 pt_99_17 (fun x k => m_99_17 x (fun y => k (.exit 2) (px_99_17_0.inst y))))).add 13 (loopBy 0 lv_99_13 pt_99_13 (fun x k => m_99_13 x (fun y => k (.exit 0) (px_99_13_0.inst y))))).add 24 (loopBy 0 lv_99_24 pt_99_24 (fun x k => m_99_24 x (fun y => k (.exit 4) (px_99_24_0.inst y))))
def E_99 {R : Type} (N : Nat) : Env R := EG_99 (p_84 N) (p_97 N) (p_107 N) (p_109 N) (p_108 N)
theorem eok_99 {R : Type} (N : Nat) : EK Try.prog (E_99 (R := R) N) := ek_add (ek_add (ek_add (ek_add (ek_add (ek_base _ _ _) (good_84 N)) (good_97 N)) (good_107 N)) (good_109 N)) (good_108 N)
def L_99 {R : Type} (N : Nat) : Loops R := LG_99 (l_99_17 N N) (l_99_13 N N) (l_99_24 N N)
theorem gstep_99_17 {R : Type} (q_84 : Tp_84 R) (q_97 : Tp_97 R) (q_107 : Tp_107 R) (q_109 : Tp_109 R) (q_108 : Tp_108 R) (m_99_17 : Tl_99_17 R) (m_99_13 : Tl_99_13 R) (m_99_24 : Tl_99_24 R) (n : Nat) (x : pt_99_17.den) (k : Exit → St → Option R) : iter 0 lv_99_17 lo_99_17 (aexec TT (EG_99 q_84 q_97 q_107 q_109 q_108) (drawAny TT WW) (LG_99 m_99_17 m_99_13 m_99_24) (loopAt 17 (bodyOf Try.f99))) (n + 1) (pt_99_17.inst x) k = C_99_17 q_109 (fun y => iter 0 lv_99_17 lo_99_17 (aexec TT (EG_99 q_84 q_97 q_107 q_109 q_108) (drawAny TT WW) (LG_99 m_99_17 m_99_13 m_99_24) (loopAt 17 (bodyOf Try.f99))) n (pt_99_17.inst y) k) x (fun y => k (.exit 2) (px_99_17_0.inst y)) := by kernel_rfl
theorem step_99_17 {R : Type} (N n : Nat) (x : pt_99_17.den) (k : Exit → St → Option R) : iter 0 lv_99_17 lo_99_17 (aexec TT (E_99 (R := R) N) (drawAny TT WW) (L_99 N) (loopAt 17 (bodyOf Try.f99))) (n + 1) (pt_99_17.inst x) k = B_99_17 N (fun y => iter 0 lv_99_17 lo_99_17 (aexec TT (E_99 (R := R) N) (drawAny TT WW) (L_99 N) (loopAt 17 (bodyOf Try.f99))) n (pt_99_17.inst y) k) x (fun y => k (.exit 2) (px_99_17_0.inst y)) := (gstep_99_17 (p_84 N) (p_97 N) (p_107 N) (p_109 N) (p_108 N) (l_99_17 N N) (l_99_13 N N) (l_99_24 N N) n x k).trans (by kernel_rfl)
theorem eq_99_17 {R : Type} (N : Nat) : ∀ (n : Nat) (x : pt_99_17.den) (k : Exit → St → Option R), iter 0 lv_99_17 lo_99_17 (aexec TT (E_99 (R := R) N) (drawAny TT WW) (L_99 N) (loopAt 17 (bodyOf Try.f99))) n (pt_99_17.inst x) k = l_99_17 N n x (fun y => k (.exit 2) (px_99_17_0.inst y)) :=
  iter_eq (K := Exit → St → Option R) (ks := fun k => k) (l := fun n (x : pt_99_17.den) k => l_99_17 N n x (fun y => k (.exit 2) (px_99_17_0.inst y))) (B := fun (rec : pt_99_17.den → Option R) (x : pt_99_17.den) k => B_99_17 N rec x (fun y => k (.exit 2) (px_99_17_0.inst y))) (fun _ _ => rfl) (fun _ _ _ => rfl) (fun n x k => step_99_17 N n x k)
theorem rounds_99_17 {R : Type} (N : Nat) : Rounds 0 TT (E_99 (R := R) N) (drawAny TT WW) (L_99 N) 17 (loopAt 17 (bodyOf Try.f99)) :=
  rounds_of (p := pt_99_17) (l := fun (x : pt_99_17.den) k => l_99_17 N N x (fun y => k (.exit 2) (px_99_17_0.inst y))) (fun s k => rfl) (fun x k => eq_99_17 N N x k)
theorem gstep_99_13 {R : Type} (q_84 : Tp_84 R) (q_97 : Tp_97 R) (q_107 : Tp_107 R) (q_109 : Tp_109 R) (q_108 : Tp_108 R) (m_99_17 : Tl_99_17 R) (m_99_13 : Tl_99_13 R) (m_99_24 : Tl_99_24 R) (n : Nat) (x : pt_99_13.den) (k : Exit → St → Option R) : iter 0 lv_99_13 lo_99_13 (aexec TT (EG_99 q_84 q_97 q_107 q_109 q_108) (drawAny TT WW) (LG_99 m_99_17 m_99_13 m_99_24) (loopAt 13 (bodyOf Try.f99))) (n + 1) (pt_99_13.inst x) k = C_99_13 q_108 m_99_17 (fun y => iter 0 lv_99_13 lo_99_13 (aexec TT (EG_99 q_84 q_97 q_107 q_109 q_108) (drawAny TT WW) (LG_99 m_99_17 m_99_13 m_99_24) (loopAt 13 (bodyOf Try.f99))) n (pt_99_13.inst y) k) x (fun y => k (.exit 0) (px_99_13_0.inst y)) := by kernel_rfl
theorem step_99_13 {R : Type} (N n : Nat) (x : pt_99_13.den) (k : Exit → St → Option R) : iter 0 lv_99_13 lo_99_13 (aexec TT (E_99 (R := R) N) (drawAny TT WW) (L_99 N) (loopAt 13 (bodyOf Try.f99))) (n + 1) (pt_99_13.inst x) k = B_99_13 N (fun y => iter 0 lv_99_13 lo_99_13 (aexec TT (E_99 (R := R) N) (drawAny TT WW) (L_99 N) (loopAt 13 (bodyOf Try.f99))) n (pt_99_13.inst y) k) x (fun y => k (.exit 0) (px_99_13_0.inst y)) := (gstep_99_13 (p_84 N) (p_97 N) (p_107 N) (p_109 N) (p_108 N) (l_99_17 N N) (l_99_13 N N) (l_99_24 N N) n x k).trans (by kernel_rfl)
theorem eq_99_13 {R : Type} (N : Nat) : ∀ (n : Nat) (x : pt_99_13.den) (k : Exit → St → Option R), iter 0 lv_99_13 lo_99_13 (aexec TT (E_99 (R := R) N) (drawAny TT WW) (L_99 N) (loopAt 13 (bodyOf Try.f99))) n (pt_99_13.inst x) k = l_99_13 N n x (fun y => k (.exit 0) (px_99_13_0.inst y)) :=
  iter_eq (K := Exit → St → Option R) (ks := fun k => k) (l := fun n (x : pt_99_13.den) k => l_99_13 N n x (fun y => k (.exit 0) (px_99_13_0.inst y))) (B := fun (rec : pt_99_13.den → Option R) (x : pt_99_13.den) k => B_99_13 N rec x (fun y => k (.exit 0) (px_99_13_0.inst y))) (fun _ _ => rfl) (fun _ _ _ => rfl) (fun n x k => step_99_13 N n x k)
theorem rounds_99_13 {R : Type} (N : Nat) : Rounds 0 TT (E_99 (R := R) N) (drawAny TT WW) (L_99 N) 13 (loopAt 13 (bodyOf Try.f99)) :=
  rounds_of (p := pt_99_13) (l := fun (x : pt_99_13.den) k => l_99_13 N N x (fun y => k (.exit 0) (px_99_13_0.inst y))) (fun s k => rfl) (fun x k => eq_99_13 N N x k)
theorem gstep_99_24 {R : Type} (q_84 : Tp_84 R) (q_97 : Tp_97 R) (q_107 : Tp_107 R) (q_109 : Tp_109 R) (q_108 : Tp_108 R) (m_99_17 : Tl_99_17 R) (m_99_13 : Tl_99_13 R) (m_99_24 : Tl_99_24 R) (n : Nat) (x : pt_99_24.den) (k : Exit → St → Option R) : iter 0 lv_99_24 lo_99_24 (aexec TT (EG_99 q_84 q_97 q_107 q_109 q_108) (drawAny TT WW) (LG_99 m_99_17 m_99_13 m_99_24) (loopAt 24 (bodyOf Try.f99))) (n + 1) (pt_99_24.inst x) k = C_99_24 (fun y => iter 0 lv_99_24 lo_99_24 (aexec TT (EG_99 q_84 q_97 q_107 q_109 q_108) (drawAny TT WW) (LG_99 m_99_17 m_99_13 m_99_24) (loopAt 24 (bodyOf Try.f99))) n (pt_99_24.inst y) k) x (fun y => k (.exit 4) (px_99_24_0.inst y)) := by kernel_rfl
theorem step_99_24 {R : Type} (N n : Nat) (x : pt_99_24.den) (k : Exit → St → Option R) : iter 0 lv_99_24 lo_99_24 (aexec TT (E_99 (R := R) N) (drawAny TT WW) (L_99 N) (loopAt 24 (bodyOf Try.f99))) (n + 1) (pt_99_24.inst x) k = B_99_24 N (fun y => iter 0 lv_99_24 lo_99_24 (aexec TT (E_99 (R := R) N) (drawAny TT WW) (L_99 N) (loopAt 24 (bodyOf Try.f99))) n (pt_99_24.inst y) k) x (fun y => k (.exit 4) (px_99_24_0.inst y)) := (gstep_99_24 (p_84 N) (p_97 N) (p_107 N) (p_109 N) (p_108 N) (l_99_17 N N) (l_99_13 N N) (l_99_24 N N) n x k).trans (by kernel_rfl)
theorem eq_99_24 {R : Type} (N : Nat) : ∀ (n : Nat) (x : pt_99_24.den) (k : Exit → St → Option R), iter 0 lv_99_24 lo_99_24 (aexec TT (E_99 (R := R) N) (drawAny TT WW) (L_99 N) (loopAt 24 (bodyOf Try.f99))) n (pt_99_24.inst x) k = l_99_24 N n x (fun y => k (.exit 4) (px_99_24_0.inst y)) :=
  iter_eq (K := Exit → St → Option R) (ks := fun k => k) (l := fun n (x : pt_99_24.den) k => l_99_24 N n x (fun y => k (.exit 4) (px_99_24_0.inst y))) (B := fun (rec : pt_99_24.den → Option R) (x : pt_99_24.den) k => B_99_24 N rec x (fun y => k (.exit 4) (px_99_24_0.inst y))) (fun _ _ => rfl) (fun _ _ _ => rfl) (fun n x k => step_99_24 N n x k)
theorem rounds_99_24 {R : Type} (N : Nat) : Rounds 0 TT (E_99 (R := R) N) (drawAny TT WW) (L_99 N) 24 (loopAt 24 (bodyOf Try.f99)) :=
  rounds_of (p := pt_99_24) (l := fun (x : pt_99_24.den) k => l_99_24 N N x (fun y => k (.exit 4) (px_99_24_0.inst y))) (fun s k => rfl) (fun x k => eq_99_24 N N x k)
theorem loops_99 : loopsIn (bodyOf Try.f99) = [(13, loopAt 13 (bodyOf Try.f99)), (17, loopAt 17 (bodyOf Try.f99)), (24, loopAt 24 (bodyOf Try.f99))] := by kernel_rfl
theorem lok_99 {R : Type} (N : Nat) : LOK 0 TT (E_99 (R := R) N) (drawAny TT WW) (L_99 N) (bodyOf Try.f99) := loops_all loops_99 (by
  simp only [List.forall_mem_cons, List.not_mem_nil, false_implies, implies_true, and_true]
  exact ⟨rounds_99_13 N, rounds_99_17 N, rounds_99_24 N⟩)
theorem grun_99 {R : Type} (q_84 : Tp_84 R) (q_97 : Tp_97 R) (q_107 : Tp_107 R) (q_109 : Tp_109 R) (q_108 : Tp_108 R) (m_99_17 : Tl_99_17 R) (m_99_13 : Tl_99_13 R) (m_99_24 : Tl_99_24 R) (x : aden ap_99 × hden hp_99) (k : KF R) : fnrun TT (EG_99 q_84 q_97 q_107 q_109 q_108) (drawAny TT WW) (LG_99 m_99_17 m_99_13 m_99_24) true Try.f99 (instA ap_99 x.1) (instH hp_99 x.2) k = Q_99 q_84 q_97 q_107 q_109 q_108 m_99_17 m_99_13 m_99_24 x (fun y => k (Pat.inst (.tup (.fcons (.vec (.int .u64) 8) (.fcons (.int .i64) (.fnil)))) y) (instH hp_99 x.2)) := by kernel_rfl
theorem run_99 {R : Type} (N : Nat) (x : aden ap_99 × hden hp_99) (k : KF R) : fnrun TT (E_99 (R := R) N) (drawAny TT WW) (L_99 N) true Try.f99 (instA ap_99 x.1) (instH hp_99 x.2) k = p_99 N x (fun y => k (Pat.inst (.tup (.fcons (.vec (.int .u64) 8) (.fcons (.int .i64) (.fnil)))) y) (instH hp_99 x.2)) := (grun_99 (p_84 N) (p_97 N) (p_107 N) (p_109 N) (p_108 N) (l_99_17 N N) (l_99_13 N N) (l_99_24 N N) x k).trans (by kernel_rfl)
theorem good_99 {R : Type} (N : Nat) : GD (X := R) Try.prog QQ AA 99 ap_99 hp_99 (fun (x : aden ap_99 × hden hp_99) k => p_99 N x (fun y => k (Pat.inst (.tup (.fcons (.vec (.int .u64) 8) (.fcons (.int .i64) (.fnil)))) y) (instH hp_99 x.2))) :=
  gd_quiet (E := E_99 N) (p := fun (x : aden ap_99 × hden hp_99) κ => p_99 N x (fun y => κ (Pat.inst (.tup (.fcons (.vec (.int .u64) 8) (.fcons (.int .i64) (.fnil)))) y))) mixed tyok (eok_99 N) Try.func99 (by kernel_rfl) (by kernel_rfl) (lok_99 N) (fun x k => run_99 N x k)

def lv_80_4 : Live := [(0, none), (14, none), (15, none), (16, none)]
def pt_80_4 : SPat := ⟨[(0, .ptr 0 []), (14, .ros (.sl (.int .u8))), (15, .int .i64), (16, .int .i64)], J12⟩
def px_80_4_0 : SPat := ⟨[(0, .ptr 0 [])], J12⟩
def lo_80_4 : Exit → Live
  | .exit 0 => [(0, none)]
  | _ => []
def ap_80 : List Pat := [.ptr 0 [], .sl 1]
def hp_80 : List (Option (Pat × Nat)) := J12
abbrev Tl_80_4 (R : Type) : Type := (Y16 × (Y3 × (List ByteArray) × Unit)) → (((Unit × Unit) × (Y3 × (List ByteArray) × Unit)) → Option R) → Option R
abbrev Tp_80 (R : Type) : Type := (Unit × Unit × Unit) × (Y3 × (List ByteArray) × Unit) → ((Unit × (Y3 × (List ByteArray) × Unit)) → Option R) → Option R
def C_80_4 {R : Type} (q_99 : Tp_99 R) (rec : (Y16 × (Y3 × (List ByteArray) × Unit)) → Option R) (x : (Y16 × (Y3 × (List ByteArray) × Unit))) (κ0 : ((Unit × Unit) × (Y3 × (List ByteArray) × Unit)) → Option R) : Option R :=
let l652 := x.1.2.1
let i653 := x.1.2.2.1
let i654 := x.1.2.2.2.1
let a655 := x.2.1.2.1
let i656 := x.2.1.2.2.1
let i657 := x.2.1.2.2.2.1
let l658 := x.2.2.1
bif (decide (i654 < i653)) then (
bif decide (0 ≤ i654) then (
bif decide (i654 < ((List.length l652) : Int)) then (
let p659 : (List Int) := (List.getD l652 ((Int.toNat i654)) (Sch.zero (.sl (.int .u8))))
let i660 : Int := addA .u64 i657 128
q_99 ((a655, p659, i660, false, ()), ()) (fun y1365 =>
let a1366 := y1365.1
let i1368 : Int := addA .i64 i654 1
rec (((), l652, i653, i1368, ()), (((), (a1366, (i656, (i660, ())))), l658, ())))) else none) else none) else (
κ0 (((), ()), (x.2.1, l658, ())))
def B_80_4 {R : Type} (N : Nat) (rec : (Y16 × (Y3 × (List ByteArray) × Unit)) → Option R) (x : (Y16 × (Y3 × (List ByteArray) × Unit))) (κ0 : ((Unit × Unit) × (Y3 × (List ByteArray) × Unit)) → Option R) : Option R := C_80_4 (p_99 N) rec x κ0
def l_80_4 {R : Type} (N : Nat) : Nat → (Y16 × (Y3 × (List ByteArray) × Unit)) → (((Unit × Unit) × (Y3 × (List ByteArray) × Unit)) → Option R) → Option R
  | 0, _, _ => none
  | n + 1, x, κ0 => B_80_4 N (fun y => l_80_4 N n y κ0) x κ0
def Q_80 {R : Type} (q_98 : Tp_98 R) (q_99 : Tp_99 R) (m_80_4 : Tl_80_4 R) (x : (Unit × Unit × Unit) × (Y3 × (List ByteArray) × Unit)) (κ0 : (Unit × (Y3 × (List ByteArray) × Unit)) → Option R) : Option R :=
q_98 (((), (), ()), x.2.2) (fun y648 =>
let l649 := y648.1
let l650 := y648.2.1
let i651 : Int := (((List.length l649) : Nat) : Int)
m_80_4 (((), l649, i651, 0, ()), (x.2.1, l650, ())) (fun y1369 =>
let l1373 := y1369.2.2.1
κ0 ((), (y1369.2.1, l1373, ()))))
def p_80 {R : Type} (N : Nat) (x : (Unit × Unit × Unit) × (Y3 × (List ByteArray) × Unit)) (κ0 : (Unit × (Y3 × (List ByteArray) × Unit)) → Option R) : Option R := Q_80 (p_98 N) (p_99 N) (l_80_4 N N) x κ0
def EG_80 {R : Type} (q_98 : Tp_98 R) (q_99 : Tp_99 R) : Env R := ((Env.base QQ LN AA).add 98 ap_98 hp_98 (fun (x : aden ap_98 × hden hp_98) k => q_98 x (fun y => k (Pat.inst (.ros (.sl (.int .u8))) y.1) (instH [some (.lst (.str), 9)] y.2)))).add 99 ap_99 hp_99 (fun (x : aden ap_99 × hden hp_99) k => q_99 x (fun y => k (Pat.inst (.tup (.fcons (.vec (.int .u64) 8) (.fcons (.int .i64) (.fnil)))) y) (instH hp_99 x.2)))
def LG_80 {R : Type} (m_80_4 : Tl_80_4 R) : Loops R := (Loops.none).add 4 (loopBy 2 lv_80_4 pt_80_4 (fun x k => m_80_4 x (fun y => k (.exit 0) (px_80_4_0.inst y))))
def E_80 {R : Type} (N : Nat) : Env R := EG_80 (p_98 N) (p_99 N)
theorem eok_80 {R : Type} (N : Nat) : EK Try.prog (E_80 (R := R) N) := ek_add (ek_add (ek_base _ _ _) (good_98 N)) (good_99 N)
def L_80 {R : Type} (N : Nat) : Loops R := LG_80 (l_80_4 N N)
theorem gstep_80_4 {R : Type} (q_98 : Tp_98 R) (q_99 : Tp_99 R) (m_80_4 : Tl_80_4 R) (n : Nat) (x : pt_80_4.den) (k : Exit → St → Option R) : iter 2 lv_80_4 lo_80_4 (aexec TT (EG_80 q_98 q_99) (drawAny TT WW) (LG_80 m_80_4) (loopAt 4 (bodyOf Try.f80))) (n + 1) (pt_80_4.inst x) k = C_80_4 q_99 (fun y => iter 2 lv_80_4 lo_80_4 (aexec TT (EG_80 q_98 q_99) (drawAny TT WW) (LG_80 m_80_4) (loopAt 4 (bodyOf Try.f80))) n (pt_80_4.inst y) k) x (fun y => k (.exit 0) (px_80_4_0.inst y)) := by kernel_rfl
theorem step_80_4 {R : Type} (N n : Nat) (x : pt_80_4.den) (k : Exit → St → Option R) : iter 2 lv_80_4 lo_80_4 (aexec TT (E_80 (R := R) N) (drawAny TT WW) (L_80 N) (loopAt 4 (bodyOf Try.f80))) (n + 1) (pt_80_4.inst x) k = B_80_4 N (fun y => iter 2 lv_80_4 lo_80_4 (aexec TT (E_80 (R := R) N) (drawAny TT WW) (L_80 N) (loopAt 4 (bodyOf Try.f80))) n (pt_80_4.inst y) k) x (fun y => k (.exit 0) (px_80_4_0.inst y)) := (gstep_80_4 (p_98 N) (p_99 N) (l_80_4 N N) n x k).trans (by kernel_rfl)
theorem eq_80_4 {R : Type} (N : Nat) : ∀ (n : Nat) (x : pt_80_4.den) (k : Exit → St → Option R), iter 2 lv_80_4 lo_80_4 (aexec TT (E_80 (R := R) N) (drawAny TT WW) (L_80 N) (loopAt 4 (bodyOf Try.f80))) n (pt_80_4.inst x) k = l_80_4 N n x (fun y => k (.exit 0) (px_80_4_0.inst y)) :=
  iter_eq (K := Exit → St → Option R) (ks := fun k => k) (l := fun n (x : pt_80_4.den) k => l_80_4 N n x (fun y => k (.exit 0) (px_80_4_0.inst y))) (B := fun (rec : pt_80_4.den → Option R) (x : pt_80_4.den) k => B_80_4 N rec x (fun y => k (.exit 0) (px_80_4_0.inst y))) (fun _ _ => rfl) (fun _ _ _ => rfl) (fun n x k => step_80_4 N n x k)
theorem rounds_80_4 {R : Type} (N : Nat) : Rounds 2 TT (E_80 (R := R) N) (drawAny TT WW) (L_80 N) 4 (loopAt 4 (bodyOf Try.f80)) :=
  rounds_of (p := pt_80_4) (l := fun (x : pt_80_4.den) k => l_80_4 N N x (fun y => k (.exit 0) (px_80_4_0.inst y))) (fun s k => rfl) (fun x k => eq_80_4 N N x k)
theorem loops_80 : loopsIn (bodyOf Try.f80) = [(4, loopAt 4 (bodyOf Try.f80))] := by kernel_rfl
theorem lok_80 {R : Type} (N : Nat) : LOK 2 TT (E_80 (R := R) N) (drawAny TT WW) (L_80 N) (bodyOf Try.f80) := loops_all loops_80 (by
  simp only [List.forall_mem_cons, List.not_mem_nil, false_implies, implies_true, and_true]
  exact rounds_80_4 N)
theorem grun_80 {R : Type} (q_98 : Tp_98 R) (q_99 : Tp_99 R) (m_80_4 : Tl_80_4 R) (x : aden ap_80 × hden hp_80) (k : KF R) : fnrun TT (EG_80 q_98 q_99) (drawAny TT WW) (LG_80 m_80_4) true Try.f80 (instA ap_80 x.1) (instH hp_80 x.2) k = Q_80 q_98 q_99 m_80_4 x (fun y => k (Pat.inst (.ptr 0 []) y.1) (instH J12 y.2)) := by kernel_rfl
theorem run_80 {R : Type} (N : Nat) (x : aden ap_80 × hden hp_80) (k : KF R) : fnrun TT (E_80 (R := R) N) (drawAny TT WW) (L_80 N) true Try.f80 (instA ap_80 x.1) (instH hp_80 x.2) k = p_80 N x (fun y => k (Pat.inst (.ptr 0 []) y.1) (instH J12 y.2)) := (grun_80 (p_98 N) (p_99 N) (l_80_4 N N) x k).trans (by kernel_rfl)
theorem good_80 {R : Type} (N : Nat) : GD (X := R) Try.prog QQ AA 80 ap_80 hp_80 (fun (x : aden ap_80 × hden hp_80) k => p_80 N x (fun y => k (Pat.inst (.ptr 0 []) y.1) (instH J12 y.2))) :=
  gd_loud (E := E_80 N) (p := fun (x : aden ap_80 × hden hp_80) k => p_80 N x (fun y => k (Pat.inst (.ptr 0 []) y.1) (instH J12 y.2))) mixed tyok (eok_80 N) Try.func80 (by kernel_rfl) (by kernel_rfl) (by kernel_rfl) (by kernel_rfl) (lok_80 N) (fun x k => run_80 N x k)

def ap_106 : List Pat := [.ptr 0 []]
def hp_106 : List (Option (Pat × Nat)) := J10
abbrev Tp_106 (R : Type) : Type := (Unit × Unit) × (Y2 × (List Int) × Unit) → (Bool → Option R) → Option R
def Q_106 {R : Type} (x : (Unit × Unit) × (Y2 × (List Int) × Unit)) (κ0 : Bool → Option R) : Option R :=
let i1433 := x.2.1.1
let b1434 := x.2.1.2.1
let l1436 := x.2.2.1
bif b1434 then (
let i1437 : Int := (((List.length l1436) : Nat) : Int)
κ0 ((decide (i1437 > i1433)))) else (
let i1438 : Int := (((List.length l1436) : Nat) : Int)
κ0 ((decide (i1438 ≥ i1433))))
def p_106 {R : Type} (N : Nat) (x : (Unit × Unit) × (Y2 × (List Int) × Unit)) (κ0 : Bool → Option R) : Option R := Q_106 x κ0
def EG_106 {R : Type} : Env R := Env.base QQ LN AA
def LG_106 {R : Type} : Loops R := Loops.none
def E_106 {R : Type} (N : Nat) : Env R := EG_106
theorem eok_106 {R : Type} (N : Nat) : EK Try.prog (E_106 (R := R) N) := ek_base _ _ _
def L_106 {R : Type} (N : Nat) : Loops R := LG_106
theorem lok_106 {R : Type} (N : Nat) : LOK 2 TT (E_106 (R := R) N) (drawAny TT WW) (L_106 N) (bodyOf Try.f106) := loops_nil (by kernel_rfl)
theorem grun_106 {R : Type} (x : aden ap_106 × hden hp_106) (k : KF R) : fnrun TT (EG_106) (drawAny TT WW) (LG_106) true Try.f106 (instA ap_106 x.1) (instH hp_106 x.2) k = Q_106 x (fun y => k (Pat.inst (.bool) y) (instH hp_106 x.2)) := by kernel_rfl
theorem run_106 {R : Type} (N : Nat) (x : aden ap_106 × hden hp_106) (k : KF R) : fnrun TT (E_106 (R := R) N) (drawAny TT WW) (L_106 N) true Try.f106 (instA ap_106 x.1) (instH hp_106 x.2) k = p_106 N x (fun y => k (Pat.inst (.bool) y) (instH hp_106 x.2)) := (grun_106 x k).trans (by kernel_rfl)
theorem good_106 {R : Type} (N : Nat) : GD (X := R) Try.prog QQ AA 106 ap_106 hp_106 (fun (x : aden ap_106 × hden hp_106) k => p_106 N x (fun y => k (Pat.inst (.bool) y) (instH hp_106 x.2))) :=
  gd_quiet (E := E_106 N) (p := fun (x : aden ap_106 × hden hp_106) κ => p_106 N x (fun y => κ (Pat.inst (.bool) y))) mixed tyok (eok_106 N) Try.func106 (by kernel_rfl) (by kernel_rfl) (lok_106 N) (fun x k => run_106 N x k)

def lv_98_v1_9 : Live := [(0, none), (5, some (.sl (.int .u8), 114)), (17, none), (18, none), (19, none)]
def pt_98_v1_9 : SPat := ⟨[(0, .ptr 0 []), (5, .sl 4), (17, .sl 2), (18, .int .i64), (19, .int .i64)], [some (Z9, 189), none, some (.lst (.str), 9), some (.lst (.int .u8), 5), some (.lst (.sl (.int .u8)), 114)]⟩
def px_98_v1_9_0 : SPat := ⟨[(0, .ptr 0 []), (5, .sl 4), (17, .sl 2), (18, .int .i64), (19, .int .i64)], [some (Z9, 189), none, some (.lst (.str), 9), some (.lst (.int .u8), 5), some (.lst (.sl (.int .u8)), 114)]⟩
def lo_98_v1_9 : Exit → Live
  | .exit 2 => [(0, none), (5, none), (17, none), (18, none), (19, none)]
  | _ => []
def lv_98_v1_5 : Live := [(0, some (.fnil, 2)), (5, some (.sl (.int .u8), 114)), (17, none), (18, none), (19, none)]
def pt_98_v1_5 : SPat := ⟨[(0, .ptr 0 []), (5, .sl 4), (17, .sl 2), (18, .int .i64), (19, .int .i64)], [some (Z9, 189), none, some (.lst (.str), 9), some (.lst (.int .u8), 5), some (.lst (.sl (.int .u8)), 114)]⟩
def px_98_v1_5_0 : SPat := ⟨[(0, .ptr 0 []), (5, .sl 4)], [some (Z9, 189), none, some (.lst (.str), 9), some (.lst (.int .u8), 5), some (.lst (.sl (.int .u8)), 114)]⟩
def lo_98_v1_5 : Exit → Live
  | .exit 0 => [(0, none), (5, none)]
  | _ => []
def ap_98_v1 : List Pat := [.ptr 0 [], .sl 2]
def hp_98_v1 : List (Option (Pat × Nat)) := J15
abbrev Tl_98_v1_9 (R : Type) : Type := Y8 → (Y8 → Option R) → Option R
abbrev Tl_98_v1_5 (R : Type) : Type := Y8 → (((Unit × Unit × Unit) × (Y2 × (List ByteArray) × (List Int) × (List (List Int)) × Unit)) → Option R) → Option R
abbrev Tp_98_v1 (R : Type) : Type := (Unit × Unit × Unit) × (Y2 × (List Int) × (List ByteArray) × Unit) → (((List (List Int)) × (Y2 × (List Int) × (List ByteArray) × Unit)) → Option R) → (((List (List Int)) × (Y2 × (List ByteArray) × (List Int) × Unit)) → Option R) → Option R
def C_98_v1_9 {R : Type} (q_106 : Tp_106 R) (rec : Y8 → Option R) (x : Y8) (κ0 : Y8 → Option R) : Option R :=
let i1516 := x.1.2.2.2.1
let i1517 := x.1.2.2.2.2.1
let i1518 := x.2.1.1
let l1521 := x.2.2.1
let l1522 := x.2.2.2.1
let l1523 := x.2.2.2.2.1
q_106 (((), ()), (x.2.1, l1522, ())) (fun y1524 =>
let b1525 : Bool := y1524
bif b1525 then (
bif decide (0 ≤ i1518) then (
bif decide (i1518 ≤ (((List.length l1522) : Nat) : Int)) then (
bif decide (0 ≤ i1518) then (
bif decide (List.length ((List.take (((Int.toNat i1518) - 0)) (List.drop 0 l1522))) * 1 ≤ 140737488355328) then (
let l1526 : (List Int) := (List.take (((Int.toNat i1518) - 0)) (List.drop 0 l1522))
let l1527 : (List (List Int)) := [l1526]
bif (decide ((List.length l1523 + List.length l1527) * 24 ≤ 140737488355328) && true) then (
let l1528 : (List (List Int)) := (l1523 ++ l1527)
bif decide (0 ≤ (((List.length l1522) : Nat) : Int)) then (
bif decide ((((List.length l1522) : Nat) : Int) ≤ (((List.length l1522) : Nat) : Int)) then (
bif decide (0 ≤ i1518) then (
bif decide (i1518 ≤ (((List.length l1522) : Nat) : Int)) then (
let l1529 : (List Int) := List.take (((List.length l1522) - (Int.toNat i1518))) (List.drop ((Int.toNat i1518)) l1522)
rec (((), (), (), i1516, i1517, ()), (x.2.1, l1521, l1529, l1528, ()))) else none) else none) else none) else none) else none) else none) else none) else none) else none) else (
κ0 (((), (), (), i1516, i1517, ()), (x.2.1, l1521, l1522, l1523, ()))))
def C_98_v1_5 {R : Type} (m_98_v1_9 : Tl_98_v1_9 R) (rec : Y8 → Option R) (x : Y8) (κ0 : ((Unit × Unit × Unit) × (Y2 × (List ByteArray) × (List Int) × (List (List Int)) × Unit)) → Option R) : Option R :=
let i1504 := x.1.2.2.2.1
let i1505 := x.1.2.2.2.2.1
let i1506 := x.2.1.1
let b1507 := x.2.1.2.1
let i1508 := x.2.1.2.2.2.1
let l1509 := x.2.2.1
let l1510 := x.2.2.2.1
let l1511 := x.2.2.2.2.1
bif (decide (i1505 < i1504)) then (
bif decide (0 ≤ i1505) then (
bif decide (i1505 < ((List.length l1509) : Int)) then (
let s1512 : ByteArray := (List.getD l1509 ((Int.toNat i1505)) (Sch.zero (.str)))
let i1513 : Int := ((ByteArray.size s1512 : Nat) : Int)
let i1514 : Int := addA .i64 i1508 i1513
bif (decide ((List.length l1510 + List.length (strList s1512)) * 1 ≤ 140737488355328) && true) then (
let l1515 : (List Int) := (l1510 ++ strList s1512)
m_98_v1_9 (((), (), (), i1504, i1505, ()), ((i1506, (b1507, ((), (i1514, ())))), l1509, l1515, l1511, ())) (fun y1530 =>
let i1531 := y1530.1.2.2.2.1
let i1532 := y1530.1.2.2.2.2.1
let l1536 := y1530.2.2.1
let l1537 := y1530.2.2.2.1
let l1538 := y1530.2.2.2.2.1
let i1539 : Int := addA .i64 i1532 1
rec (((), (), (), i1531, i1539, ()), (y1530.2.1, l1536, l1537, l1538, ())))) else none) else none) else none) else (
κ0 (((), (), ()), (x.2.1, l1509, l1510, l1511, ())))
def B_98_v1_9 {R : Type} (N : Nat) (rec : Y8 → Option R) (x : Y8) (κ0 : Y8 → Option R) : Option R := C_98_v1_9 (p_106 N) rec x κ0
def l_98_v1_9 {R : Type} (N : Nat) : Nat → Y8 → (Y8 → Option R) → Option R
  | 0, _, _ => none
  | n + 1, x, κ0 => B_98_v1_9 N (fun y => l_98_v1_9 N n y κ0) x κ0
def B_98_v1_5 {R : Type} (N : Nat) (rec : Y8 → Option R) (x : Y8) (κ0 : ((Unit × Unit × Unit) × (Y2 × (List ByteArray) × (List Int) × (List (List Int)) × Unit)) → Option R) : Option R := C_98_v1_5 (l_98_v1_9 N N) rec x κ0
def l_98_v1_5 {R : Type} (N : Nat) : Nat → Y8 → (((Unit × Unit × Unit) × (Y2 × (List ByteArray) × (List Int) × (List (List Int)) × Unit)) → Option R) → Option R
  | 0, _, _ => none
  | n + 1, x, κ0 => B_98_v1_5 N (fun y => l_98_v1_5 N n y κ0) x κ0
def Q_98_v1 {R : Type} (q_106 : Tp_106 R) (m_98_v1_9 : Tl_98_v1_9 R) (m_98_v1_5 : Tl_98_v1_5 R) (x : (Unit × Unit × Unit) × (Y2 × (List Int) × (List ByteArray) × Unit)) (κ0 : ((List (List Int)) × (Y2 × (List Int) × (List ByteArray) × Unit)) → Option R) (κ1 : ((List (List Int)) × (Y2 × (List ByteArray) × (List Int) × Unit)) → Option R) : Option R :=
let i1409 := x.2.1.1
let l1412 := x.2.2.1
let l1413 := x.2.2.2.1
bif (i1409 == 0) then (
κ0 ([], (x.2.1, l1412, l1413, ()))) else (
let i1414 : Int := (((List.length l1413) : Nat) : Int)
m_98_v1_5 (((), (), (), i1414, 0, ()), (x.2.1, l1413, l1412, [], ())) (fun y1540 =>
let l1544 := y1540.2.2.1
let l1545 := y1540.2.2.2.1
let l1546 := y1540.2.2.2.2.1
bif decide (List.length l1545 * 1 ≤ 140737488355328) then (
κ1 (l1546, (y1540.2.1, l1544, l1545, ()))) else none))
def p_98_v1 {R : Type} (N : Nat) (x : (Unit × Unit × Unit) × (Y2 × (List Int) × (List ByteArray) × Unit)) (κ0 : ((List (List Int)) × (Y2 × (List Int) × (List ByteArray) × Unit)) → Option R) (κ1 : ((List (List Int)) × (Y2 × (List ByteArray) × (List Int) × Unit)) → Option R) : Option R := Q_98_v1 (p_106 N) (l_98_v1_9 N N) (l_98_v1_5 N N) x κ0 κ1
def EG_98_v1 {R : Type} (q_106 : Tp_106 R) : Env R := (Env.base QQ LN AA).add 106 ap_106 hp_106 (fun (x : aden ap_106 × hden hp_106) k => q_106 x (fun y => k (Pat.inst (.bool) y) (instH hp_106 x.2)))
def LG_98_v1 {R : Type} (m_98_v1_9 : Tl_98_v1_9 R) (m_98_v1_5 : Tl_98_v1_5 R) : Loops R := ((Loops.none).add 9 (loopBy 3 lv_98_v1_9 pt_98_v1_9 (fun x k => m_98_v1_9 x (fun y => k (.exit 2) (px_98_v1_9_0.inst y))))).add 5 (loopBy 3 lv_98_v1_5 pt_98_v1_5 (fun x k => m_98_v1_5 x (fun y => k (.exit 0) (px_98_v1_5_0.inst y))))
def E_98_v1 {R : Type} (N : Nat) : Env R := EG_98_v1 (p_106 N)
theorem eok_98_v1 {R : Type} (N : Nat) : EK Try.prog (E_98_v1 (R := R) N) := ek_add (ek_base _ _ _) (good_106 N)
def L_98_v1 {R : Type} (N : Nat) : Loops R := LG_98_v1 (l_98_v1_9 N N) (l_98_v1_5 N N)
theorem gstep_98_v1_9 {R : Type} (q_106 : Tp_106 R) (m_98_v1_9 : Tl_98_v1_9 R) (m_98_v1_5 : Tl_98_v1_5 R) (n : Nat) (x : pt_98_v1_9.den) (k : Exit → St → Option R) : iter 3 lv_98_v1_9 lo_98_v1_9 (aexec TT (EG_98_v1 q_106) (drawAny TT WW) (LG_98_v1 m_98_v1_9 m_98_v1_5) (loopAt 9 (bodyOf Try.f98))) (n + 1) (pt_98_v1_9.inst x) k = C_98_v1_9 q_106 (fun y => iter 3 lv_98_v1_9 lo_98_v1_9 (aexec TT (EG_98_v1 q_106) (drawAny TT WW) (LG_98_v1 m_98_v1_9 m_98_v1_5) (loopAt 9 (bodyOf Try.f98))) n (pt_98_v1_9.inst y) k) x (fun y => k (.exit 2) (px_98_v1_9_0.inst y)) := by kernel_rfl
theorem step_98_v1_9 {R : Type} (N n : Nat) (x : pt_98_v1_9.den) (k : Exit → St → Option R) : iter 3 lv_98_v1_9 lo_98_v1_9 (aexec TT (E_98_v1 (R := R) N) (drawAny TT WW) (L_98_v1 N) (loopAt 9 (bodyOf Try.f98))) (n + 1) (pt_98_v1_9.inst x) k = B_98_v1_9 N (fun y => iter 3 lv_98_v1_9 lo_98_v1_9 (aexec TT (E_98_v1 (R := R) N) (drawAny TT WW) (L_98_v1 N) (loopAt 9 (bodyOf Try.f98))) n (pt_98_v1_9.inst y) k) x (fun y => k (.exit 2) (px_98_v1_9_0.inst y)) := (gstep_98_v1_9 (p_106 N) (l_98_v1_9 N N) (l_98_v1_5 N N) n x k).trans (by kernel_rfl)
theorem eq_98_v1_9 {R : Type} (N : Nat) : ∀ (n : Nat) (x : pt_98_v1_9.den) (k : Exit → St → Option R), iter 3 lv_98_v1_9 lo_98_v1_9 (aexec TT (E_98_v1 (R := R) N) (drawAny TT WW) (L_98_v1 N) (loopAt 9 (bodyOf Try.f98))) n (pt_98_v1_9.inst x) k = l_98_v1_9 N n x (fun y => k (.exit 2) (px_98_v1_9_0.inst y)) :=
  iter_eq (K := Exit → St → Option R) (ks := fun k => k) (l := fun n (x : pt_98_v1_9.den) k => l_98_v1_9 N n x (fun y => k (.exit 2) (px_98_v1_9_0.inst y))) (B := fun (rec : pt_98_v1_9.den → Option R) (x : pt_98_v1_9.den) k => B_98_v1_9 N rec x (fun y => k (.exit 2) (px_98_v1_9_0.inst y))) (fun _ _ => rfl) (fun _ _ _ => rfl) (fun n x k => step_98_v1_9 N n x k)
theorem rounds_98_v1_9 {R : Type} (N : Nat) : Rounds 3 TT (E_98_v1 (R := R) N) (drawAny TT WW) (L_98_v1 N) 9 (loopAt 9 (bodyOf Try.f98)) :=
  rounds_of (p := pt_98_v1_9) (l := fun (x : pt_98_v1_9.den) k => l_98_v1_9 N N x (fun y => k (.exit 2) (px_98_v1_9_0.inst y))) (fun s k => rfl) (fun x k => eq_98_v1_9 N N x k)
theorem gstep_98_v1_5 {R : Type} (q_106 : Tp_106 R) (m_98_v1_9 : Tl_98_v1_9 R) (m_98_v1_5 : Tl_98_v1_5 R) (n : Nat) (x : pt_98_v1_5.den) (k : Exit → St → Option R) : iter 3 lv_98_v1_5 lo_98_v1_5 (aexec TT (EG_98_v1 q_106) (drawAny TT WW) (LG_98_v1 m_98_v1_9 m_98_v1_5) (loopAt 5 (bodyOf Try.f98))) (n + 1) (pt_98_v1_5.inst x) k = C_98_v1_5 m_98_v1_9 (fun y => iter 3 lv_98_v1_5 lo_98_v1_5 (aexec TT (EG_98_v1 q_106) (drawAny TT WW) (LG_98_v1 m_98_v1_9 m_98_v1_5) (loopAt 5 (bodyOf Try.f98))) n (pt_98_v1_5.inst y) k) x (fun y => k (.exit 0) (px_98_v1_5_0.inst y)) := by kernel_rfl
theorem step_98_v1_5 {R : Type} (N n : Nat) (x : pt_98_v1_5.den) (k : Exit → St → Option R) : iter 3 lv_98_v1_5 lo_98_v1_5 (aexec TT (E_98_v1 (R := R) N) (drawAny TT WW) (L_98_v1 N) (loopAt 5 (bodyOf Try.f98))) (n + 1) (pt_98_v1_5.inst x) k = B_98_v1_5 N (fun y => iter 3 lv_98_v1_5 lo_98_v1_5 (aexec TT (E_98_v1 (R := R) N) (drawAny TT WW) (L_98_v1 N) (loopAt 5 (bodyOf Try.f98))) n (pt_98_v1_5.inst y) k) x (fun y => k (.exit 0) (px_98_v1_5_0.inst y)) := (gstep_98_v1_5 (p_106 N) (l_98_v1_9 N N) (l_98_v1_5 N N) n x k).trans (by kernel_rfl)
theorem eq_98_v1_5 {R : Type} (N : Nat) : ∀ (n : Nat) (x : pt_98_v1_5.den) (k : Exit → St → Option R), iter 3 lv_98_v1_5 lo_98_v1_5 (aexec TT (E_98_v1 (R := R) N) (drawAny TT WW) (L_98_v1 N) (loopAt 5 (bodyOf Try.f98))) n (pt_98_v1_5.inst x) k = l_98_v1_5 N n x (fun y => k (.exit 0) (px_98_v1_5_0.inst y)) :=
  iter_eq (K := Exit → St → Option R) (ks := fun k => k) (l := fun n (x : pt_98_v1_5.den) k => l_98_v1_5 N n x (fun y => k (.exit 0) (px_98_v1_5_0.inst y))) (B := fun (rec : pt_98_v1_5.den → Option R) (x : pt_98_v1_5.den) k => B_98_v1_5 N rec x (fun y => k (.exit 0) (px_98_v1_5_0.inst y))) (fun _ _ => rfl) (fun _ _ _ => rfl) (fun n x k => step_98_v1_5 N n x k)
theorem rounds_98_v1_5 {R : Type} (N : Nat) : Rounds 3 TT (E_98_v1 (R := R) N) (drawAny TT WW) (L_98_v1 N) 5 (loopAt 5 (bodyOf Try.f98)) :=
  rounds_of (p := pt_98_v1_5) (l := fun (x : pt_98_v1_5.den) k => l_98_v1_5 N N x (fun y => k (.exit 0) (px_98_v1_5_0.inst y))) (fun s k => rfl) (fun x k => eq_98_v1_5 N N x k)
theorem loops_98_v1 : loopsIn (bodyOf Try.f98) = [(5, loopAt 5 (bodyOf Try.f98)), (9, loopAt 9 (bodyOf Try.f98))] := by kernel_rfl
theorem lok_98_v1 {R : Type} (N : Nat) : LOK 3 TT (E_98_v1 (R := R) N) (drawAny TT WW) (L_98_v1 N) (bodyOf Try.f98) := loops_all loops_98_v1 (by
  simp only [List.forall_mem_cons, List.not_mem_nil, false_implies, implies_true, and_true]
  exact ⟨rounds_98_v1_5 N, rounds_98_v1_9 N⟩)
theorem grun_98_v1 {R : Type} (q_106 : Tp_106 R) (m_98_v1_9 : Tl_98_v1_9 R) (m_98_v1_5 : Tl_98_v1_5 R) (x : aden ap_98_v1 × hden hp_98_v1) (k : KF R) : fnrun TT (EG_98_v1 q_106) (drawAny TT WW) (LG_98_v1 m_98_v1_9 m_98_v1_5) true Try.f98 (instA ap_98_v1 x.1) (instH hp_98_v1 x.2) k = Q_98_v1 q_106 m_98_v1_9 m_98_v1_5 x (fun y => k (Pat.inst (.ros (.sl (.int .u8))) y.1) (instH J15 y.2)) (fun y => k (Pat.inst (.ros (.sl (.int .u8))) y.1) (instH [some (Z9, 189), none, some (.lst (.str), 9), some (.lst (.int .u8), 5)] y.2)) := by kernel_rfl
theorem run_98_v1 {R : Type} (N : Nat) (x : aden ap_98_v1 × hden hp_98_v1) (k : KF R) : fnrun TT (E_98_v1 (R := R) N) (drawAny TT WW) (L_98_v1 N) true Try.f98 (instA ap_98_v1 x.1) (instH hp_98_v1 x.2) k = p_98_v1 N x (fun y => k (Pat.inst (.ros (.sl (.int .u8))) y.1) (instH J15 y.2)) (fun y => k (Pat.inst (.ros (.sl (.int .u8))) y.1) (instH [some (Z9, 189), none, some (.lst (.str), 9), some (.lst (.int .u8), 5)] y.2)) := (grun_98_v1 (p_106 N) (l_98_v1_9 N N) (l_98_v1_5 N N) x k).trans (by kernel_rfl)
theorem good_98_v1 {R : Type} (N : Nat) : GD (X := R) Try.prog QQ AA 98 ap_98_v1 hp_98_v1 (fun (x : aden ap_98_v1 × hden hp_98_v1) k => p_98_v1 N x (fun y => k (Pat.inst (.ros (.sl (.int .u8))) y.1) (instH J15 y.2)) (fun y => k (Pat.inst (.ros (.sl (.int .u8))) y.1) (instH [some (Z9, 189), none, some (.lst (.str), 9), some (.lst (.int .u8), 5)] y.2))) :=
  gd_loud (E := E_98_v1 N) (p := fun (x : aden ap_98_v1 × hden hp_98_v1) k => p_98_v1 N x (fun y => k (Pat.inst (.ros (.sl (.int .u8))) y.1) (instH J15 y.2)) (fun y => k (Pat.inst (.ros (.sl (.int .u8))) y.1) (instH [some (Z9, 189), none, some (.lst (.str), 9), some (.lst (.int .u8), 5)] y.2))) mixed tyok (eok_98_v1 N) Try.func98 (by kernel_rfl) (by kernel_rfl) (by kernel_rfl) (by kernel_rfl) (lok_98_v1 N) (fun x k => run_98_v1 N x k)

def lv_80_v1_4 : Live := [(0, none), (14, none), (15, none), (16, none)]
def pt_80_v1_4 : SPat := ⟨[(0, .ptr 0 []), (14, .ros (.sl (.int .u8))), (15, .int .i64), (16, .int .i64)], J7⟩
def px_80_v1_4_0 : SPat := ⟨[(0, .ptr 0 [])], J7⟩
def lo_80_v1_4 : Exit → Live
  | .exit 0 => [(0, none)]
  | _ => []
def ap_80_v1 : List Pat := [.ptr 0 [], .sl 3]
def hp_80_v1 : List (Option (Pat × Nat)) := [some (Z3, 178), some (Z7, 189), some (.lst (.int .u8), 5), some (.lst (.str), 9)]
abbrev Tl_80_v1_4 (R : Type) : Type := (Y16 × (Y3 × Y2 × (List ByteArray) × (List Int) × Unit)) → (((Unit × Unit) × (Y3 × Y2 × (List ByteArray) × (List Int) × Unit)) → Option R) → Option R
abbrev Tp_80_v1 (R : Type) : Type := (Unit × Unit × Unit) × (Y3 × Y2 × (List Int) × (List ByteArray) × Unit) → ((Unit × (Y3 × Y2 × (List ByteArray) × (List Int) × Unit)) → Option R) → Option R
def C_80_v1_4 {R : Type} (q_99 : Tp_99 R) (rec : (Y16 × (Y3 × Y2 × (List ByteArray) × (List Int) × Unit)) → Option R) (x : (Y16 × (Y3 × Y2 × (List ByteArray) × (List Int) × Unit))) (κ0 : ((Unit × Unit) × (Y3 × Y2 × (List ByteArray) × (List Int) × Unit)) → Option R) : Option R :=
let l1580 := x.1.2.1
let i1581 := x.1.2.2.1
let i1582 := x.1.2.2.2.1
let a1583 := x.2.1.2.1
let i1584 := x.2.1.2.2.1
let i1585 := x.2.1.2.2.2.1
let l1589 := x.2.2.2.1
let l1590 := x.2.2.2.2.1
bif (decide (i1582 < i1581)) then (
bif decide (0 ≤ i1582) then (
bif decide (i1582 < ((List.length l1580) : Int)) then (
let p1591 : (List Int) := (List.getD l1580 ((Int.toNat i1582)) (Sch.zero (.sl (.int .u8))))
let i1592 : Int := addA .u64 i1585 128
q_99 ((a1583, p1591, i1592, false, ()), ()) (fun y1593 =>
let a1594 := y1593.1
let i1596 : Int := addA .i64 i1582 1
rec (((), l1580, i1581, i1596, ()), (((), (a1594, (i1584, (i1592, ())))), x.2.2.1, l1589, l1590, ())))) else none) else none) else (
κ0 (((), ()), (x.2.1, x.2.2.1, l1589, l1590, ())))
def B_80_v1_4 {R : Type} (N : Nat) (rec : (Y16 × (Y3 × Y2 × (List ByteArray) × (List Int) × Unit)) → Option R) (x : (Y16 × (Y3 × Y2 × (List ByteArray) × (List Int) × Unit))) (κ0 : ((Unit × Unit) × (Y3 × Y2 × (List ByteArray) × (List Int) × Unit)) → Option R) : Option R := C_80_v1_4 (p_99 N) rec x κ0
def l_80_v1_4 {R : Type} (N : Nat) : Nat → (Y16 × (Y3 × Y2 × (List ByteArray) × (List Int) × Unit)) → (((Unit × Unit) × (Y3 × Y2 × (List ByteArray) × (List Int) × Unit)) → Option R) → Option R
  | 0, _, _ => none
  | n + 1, x, κ0 => B_80_v1_4 N (fun y => l_80_v1_4 N n y κ0) x κ0
def Q_80_v1 {R : Type} (q_98_v1 : Tp_98_v1 R) (q_99 : Tp_99 R) (m_80_v1_4 : Tl_80_v1_4 R) (x : (Unit × Unit × Unit) × (Y3 × Y2 × (List Int) × (List ByteArray) × Unit)) (κ0 : (Unit × (Y3 × Y2 × (List ByteArray) × (List Int) × Unit)) → Option R) : Option R :=
let l1407 := x.2.2.2.1
let l1408 := x.2.2.2.2.1
q_98_v1 (((), (), ()), (x.2.2.1, l1407, l1408, ())) (fun y1547 =>
let l1548 := y1547.1
let i1554 : Int := (((List.length l1548) : Nat) : Int)
none) (fun y1572 =>
let l1573 := y1572.1
let l1577 := y1572.2.2.1
let l1578 := y1572.2.2.2.1
let i1579 : Int := (((List.length l1573) : Nat) : Int)
m_80_v1_4 (((), l1573, i1579, 0, ()), (x.2.1, y1572.2.1, l1577, l1578, ())) (fun y1597 =>
let l1604 := y1597.2.2.2.1
let l1605 := y1597.2.2.2.2.1
κ0 ((), (y1597.2.1, y1597.2.2.1, l1604, l1605, ()))))
def p_80_v1 {R : Type} (N : Nat) (x : (Unit × Unit × Unit) × (Y3 × Y2 × (List Int) × (List ByteArray) × Unit)) (κ0 : (Unit × (Y3 × Y2 × (List ByteArray) × (List Int) × Unit)) → Option R) : Option R := Q_80_v1 (p_98_v1 N) (p_99 N) (l_80_v1_4 N N) x κ0
def EG_80_v1 {R : Type} (q_98_v1 : Tp_98_v1 R) (q_99 : Tp_99 R) : Env R := ((Env.base QQ LN AA).add 98 ap_98_v1 hp_98_v1 (fun (x : aden ap_98_v1 × hden hp_98_v1) k => q_98_v1 x (fun y => k (Pat.inst (.ros (.sl (.int .u8))) y.1) (instH J15 y.2)) (fun y => k (Pat.inst (.ros (.sl (.int .u8))) y.1) (instH [some (Z9, 189), none, some (.lst (.str), 9), some (.lst (.int .u8), 5)] y.2)))).add 99 ap_99 hp_99 (fun (x : aden ap_99 × hden hp_99) k => q_99 x (fun y => k (Pat.inst (.tup (.fcons (.vec (.int .u64) 8) (.fcons (.int .i64) (.fnil)))) y) (instH hp_99 x.2)))
def LG_80_v1 {R : Type} (m_80_v1_4 : Tl_80_v1_4 R) : Loops R := (Loops.none).add 4 (loopBy 4 lv_80_v1_4 pt_80_v1_4 (fun x k => m_80_v1_4 x (fun y => k (.exit 0) (px_80_v1_4_0.inst y))))
def E_80_v1 {R : Type} (N : Nat) : Env R := EG_80_v1 (p_98_v1 N) (p_99 N)
theorem eok_80_v1 {R : Type} (N : Nat) : EK Try.prog (E_80_v1 (R := R) N) := ek_add (ek_add (ek_base _ _ _) (good_98_v1 N)) (good_99 N)
def L_80_v1 {R : Type} (N : Nat) : Loops R := LG_80_v1 (l_80_v1_4 N N)
theorem gstep_80_v1_4 {R : Type} (q_98_v1 : Tp_98_v1 R) (q_99 : Tp_99 R) (m_80_v1_4 : Tl_80_v1_4 R) (n : Nat) (x : pt_80_v1_4.den) (k : Exit → St → Option R) : iter 4 lv_80_v1_4 lo_80_v1_4 (aexec TT (EG_80_v1 q_98_v1 q_99) (drawAny TT WW) (LG_80_v1 m_80_v1_4) (loopAt 4 (bodyOf Try.f80))) (n + 1) (pt_80_v1_4.inst x) k = C_80_v1_4 q_99 (fun y => iter 4 lv_80_v1_4 lo_80_v1_4 (aexec TT (EG_80_v1 q_98_v1 q_99) (drawAny TT WW) (LG_80_v1 m_80_v1_4) (loopAt 4 (bodyOf Try.f80))) n (pt_80_v1_4.inst y) k) x (fun y => k (.exit 0) (px_80_v1_4_0.inst y)) := by kernel_rfl
theorem step_80_v1_4 {R : Type} (N n : Nat) (x : pt_80_v1_4.den) (k : Exit → St → Option R) : iter 4 lv_80_v1_4 lo_80_v1_4 (aexec TT (E_80_v1 (R := R) N) (drawAny TT WW) (L_80_v1 N) (loopAt 4 (bodyOf Try.f80))) (n + 1) (pt_80_v1_4.inst x) k = B_80_v1_4 N (fun y => iter 4 lv_80_v1_4 lo_80_v1_4 (aexec TT (E_80_v1 (R := R) N) (drawAny TT WW) (L_80_v1 N) (loopAt 4 (bodyOf Try.f80))) n (pt_80_v1_4.inst y) k) x (fun y => k (.exit 0) (px_80_v1_4_0.inst y)) := (gstep_80_v1_4 (p_98_v1 N) (p_99 N) (l_80_v1_4 N N) n x k).trans (by kernel_rfl)
theorem eq_80_v1_4 {R : Type} (N : Nat) : ∀ (n : Nat) (x : pt_80_v1_4.den) (k : Exit → St → Option R), iter 4 lv_80_v1_4 lo_80_v1_4 (aexec TT (E_80_v1 (R := R) N) (drawAny TT WW) (L_80_v1 N) (loopAt 4 (bodyOf Try.f80))) n (pt_80_v1_4.inst x) k = l_80_v1_4 N n x (fun y => k (.exit 0) (px_80_v1_4_0.inst y)) :=
  iter_eq (K := Exit → St → Option R) (ks := fun k => k) (l := fun n (x : pt_80_v1_4.den) k => l_80_v1_4 N n x (fun y => k (.exit 0) (px_80_v1_4_0.inst y))) (B := fun (rec : pt_80_v1_4.den → Option R) (x : pt_80_v1_4.den) k => B_80_v1_4 N rec x (fun y => k (.exit 0) (px_80_v1_4_0.inst y))) (fun _ _ => rfl) (fun _ _ _ => rfl) (fun n x k => step_80_v1_4 N n x k)
theorem rounds_80_v1_4 {R : Type} (N : Nat) : Rounds 4 TT (E_80_v1 (R := R) N) (drawAny TT WW) (L_80_v1 N) 4 (loopAt 4 (bodyOf Try.f80)) :=
  rounds_of (p := pt_80_v1_4) (l := fun (x : pt_80_v1_4.den) k => l_80_v1_4 N N x (fun y => k (.exit 0) (px_80_v1_4_0.inst y))) (fun s k => rfl) (fun x k => eq_80_v1_4 N N x k)
theorem loops_80_v1 : loopsIn (bodyOf Try.f80) = [(4, loopAt 4 (bodyOf Try.f80))] := by kernel_rfl
theorem lok_80_v1 {R : Type} (N : Nat) : LOK 4 TT (E_80_v1 (R := R) N) (drawAny TT WW) (L_80_v1 N) (bodyOf Try.f80) := loops_all loops_80_v1 (by
  simp only [List.forall_mem_cons, List.not_mem_nil, false_implies, implies_true, and_true]
  exact rounds_80_v1_4 N)
theorem grun_80_v1 {R : Type} (q_98_v1 : Tp_98_v1 R) (q_99 : Tp_99 R) (m_80_v1_4 : Tl_80_v1_4 R) (x : aden ap_80_v1 × hden hp_80_v1) (k : KF R) : fnrun TT (EG_80_v1 q_98_v1 q_99) (drawAny TT WW) (LG_80_v1 m_80_v1_4) true Try.f80 (instA ap_80_v1 x.1) (instH hp_80_v1 x.2) k = Q_80_v1 q_98_v1 q_99 m_80_v1_4 x (fun y => k (Pat.inst (.ptr 0 []) y.1) (instH J7 y.2)) := by kernel_rfl
theorem run_80_v1 {R : Type} (N : Nat) (x : aden ap_80_v1 × hden hp_80_v1) (k : KF R) : fnrun TT (E_80_v1 (R := R) N) (drawAny TT WW) (L_80_v1 N) true Try.f80 (instA ap_80_v1 x.1) (instH hp_80_v1 x.2) k = p_80_v1 N x (fun y => k (Pat.inst (.ptr 0 []) y.1) (instH J7 y.2)) := (grun_80_v1 (p_98_v1 N) (p_99 N) (l_80_v1_4 N N) x k).trans (by kernel_rfl)
theorem good_80_v1 {R : Type} (N : Nat) : GD (X := R) Try.prog QQ AA 80 ap_80_v1 hp_80_v1 (fun (x : aden ap_80_v1 × hden hp_80_v1) k => p_80_v1 N x (fun y => k (Pat.inst (.ptr 0 []) y.1) (instH J7 y.2))) :=
  gd_loud (E := E_80_v1 N) (p := fun (x : aden ap_80_v1 × hden hp_80_v1) k => p_80_v1 N x (fun y => k (Pat.inst (.ptr 0 []) y.1) (instH J7 y.2))) mixed tyok (eok_80_v1 N) Try.func80 (by kernel_rfl) (by kernel_rfl) (by kernel_rfl) (by kernel_rfl) (lok_80_v1 N) (fun x k => run_80_v1 N x k)

def ap_79 : List Pat := [.int .i64, .str]
def hp_79 : List (Option (Pat × Nat)) := []
abbrev Tp_79 (R : Type) : Type := (Int × ByteArray × Unit) × (Unit) → (((Unit × (Int × Unit)) × (Unit)) → Option R) → (((Unit × (Int × Unit)) × (Y3 × Unit)) → Option R) → (((Unit × (Int × Unit)) × Y25) → Option R) → Option R
def Q_79 {R : Type} (q_96 : Tp_96 R) (q_97 : Tp_97 R) (q_80 : Tp_80 R) (q_80_v1 : Tp_80_v1 R) (x : (Int × ByteArray × Unit) × (Unit)) (κ0 : ((Unit × (Int × Unit)) × (Unit)) → Option R) (κ1 : ((Unit × (Int × Unit)) × (Y3 × Unit)) → Option R) (κ2 : ((Unit × (Int × Unit)) × Y25) → Option R) : Option R :=
let i619 := x.1.1
let s620 := x.1.2.1
bif (decide (i619 < 1)) then (
κ0 (((), (1, ())), ())) else (
bif (decide (i619 > 64)) then (
κ0 (((), (1, ())), ())) else (
let i621 : Int := ((ByteArray.size s620 : Nat) : Int)
bif (decide (i621 > 64)) then (
κ0 (((), (1, ())), ())) else (
q_96 ((128, true, ()), ()) (fun y624 =>
q_97 ((), ()) (fun y627 =>
let a628 : (Nat → Int) := y627
let i629 : Int := (a628 0)
let i630 : Int := ((ByteArray.size s620 : Nat) : Int)
let i631 : Int := IntKind.wrap .u64 i630
let i632 : Int := shlA .u64 i631 8
let i633 : Int := xorA .u64 16842752 i632
let i634 : Int := IntKind.wrap .u64 i619
let i635 : Int := xorA .u64 i633 i634
let i636 : Int := xorA .u64 i629 i635
bif (!eqS s620 (⟨#[]⟩)) then (
let i637 : Int := ((ByteArray.size s620 : Nat) : Int)
let i638 : Int := subA .i64 128 i637
bif decide (0 ≤ i638) then (
bif decide (i638 ≤ i638) then (
bif decide (((1 : Nat) : Int) * i638 ≤ 281474976710656) then (
bif decide (i638 ≤ 9223372036854775807) then (
let l639 : (List Int) := List.replicate ((Int.toNat i638)) (Sch.zero (.int .u8))
let s640 : ByteArray := listStr l639
bif decide (ByteArray.size s620 + ByteArray.size s640 ≤ maxI64) then (
let s641 : ByteArray := (s620 ++ s640)
let l642 : (List ByteArray) := [s641]
q_80 (((), (), ()), (((), ((upd a628 0 i636), (i619, (0, ())))), l642, ())) (fun y1374 =>
κ1 (((), (0, ())), (y1374.2.1, ())))) else none) else none) else none) else none) else none) else (
κ1 (((), (0, ())), (((), ((upd a628 0 i636), (i619, (0, ())))), ()))))) (fun y1379 =>
let l1384 := y1379.2.2.1
q_97 ((), ()) (fun y1385 =>
let a1386 : (Nat → Int) := y1385
let i1387 : Int := (a1386 0)
let i1388 : Int := ((ByteArray.size s620 : Nat) : Int)
let i1389 : Int := IntKind.wrap .u64 i1388
let i1390 : Int := shlA .u64 i1389 8
let i1391 : Int := xorA .u64 16842752 i1390
let i1392 : Int := IntKind.wrap .u64 i619
let i1393 : Int := xorA .u64 i1391 i1392
let i1394 : Int := xorA .u64 i1387 i1393
bif (!eqS s620 (⟨#[]⟩)) then (
let i1395 : Int := ((ByteArray.size s620 : Nat) : Int)
let i1396 : Int := subA .i64 128 i1395
bif decide (0 ≤ i1396) then (
bif decide (i1396 ≤ i1396) then (
bif decide (((1 : Nat) : Int) * i1396 ≤ 281474976710656) then (
bif decide (i1396 ≤ 9223372036854775807) then (
let l1397 : (List Int) := List.replicate ((Int.toNat i1396)) (Sch.zero (.int .u8))
let s1398 : ByteArray := listStr l1397
bif decide (ByteArray.size s620 + ByteArray.size s1398 ≤ maxI64) then (
let s1399 : ByteArray := (s620 ++ s1398)
let l1400 : (List ByteArray) := [s1399]
q_80_v1 (((), (), ()), (((), ((upd a1386 0 i1394), (i619, (0, ())))), y1379.2.1, l1384, l1400, ())) (fun y1606 =>
let l1614 := y1606.2.2.2.2.1
κ2 (((), (0, ())), (y1606.2.1, y1606.2.2.1, l1614, ())))) else none) else none) else none) else none) else none) else (
κ2 (((), (0, ())), (((), ((upd a1386 0 i1394), (i619, (0, ())))), y1379.2.1, l1384, ()))))))))
def p_79 {R : Type} (N : Nat) (x : (Int × ByteArray × Unit) × (Unit)) (κ0 : ((Unit × (Int × Unit)) × (Unit)) → Option R) (κ1 : ((Unit × (Int × Unit)) × (Y3 × Unit)) → Option R) (κ2 : ((Unit × (Int × Unit)) × Y25) → Option R) : Option R := Q_79 (p_96 N) (p_97 N) (p_80 N) (p_80_v1 N) x κ0 κ1 κ2
def EG_79 {R : Type} (q_96 : Tp_96 R) (q_97 : Tp_97 R) (q_80 : Tp_80 R) (q_80_v1 : Tp_80_v1 R) : Env R := ((((Env.base QQ LN AA).add 96 ap_96 hp_96 (fun (x : aden ap_96 × hden hp_96) k => q_96 x (fun y => k (Pat.inst (.tup (.fcons (.nilp) (.fcons (.int .i64) (.fnil)))) y.1) (instH [] y.2)) (fun y => k (Pat.inst (.tup (.fcons (.ptr 0 []) (.fcons (.int .i64) (.fnil)))) y.1) (instH J10 y.2)))).add 97 ap_97 hp_97 (fun (x : aden ap_97 × hden hp_97) k => q_97 x (fun y => k (Pat.inst (.vec (.int .u64) 8) y) (instH hp_97 x.2)))).add 80 ap_80 hp_80 (fun (x : aden ap_80 × hden hp_80) k => q_80 x (fun y => k (Pat.inst (.ptr 0 []) y.1) (instH J12 y.2)))).add 80 ap_80_v1 hp_80_v1 (fun (x : aden ap_80_v1 × hden hp_80_v1) k => q_80_v1 x (fun y => k (Pat.inst (.ptr 0 []) y.1) (instH J7 y.2)))
def LG_79 {R : Type} : Loops R := Loops.none
def E_79 {R : Type} (N : Nat) : Env R := EG_79 (p_96 N) (p_97 N) (p_80 N) (p_80_v1 N)
theorem eok_79 {R : Type} (N : Nat) : EK Try.prog (E_79 (R := R) N) := ek_add (ek_add (ek_add (ek_add (ek_base _ _ _) (good_96 N)) (good_97 N)) (good_80 N)) (good_80_v1 N)
def L_79 {R : Type} (N : Nat) : Loops R := LG_79
theorem lok_79 {R : Type} (N : Nat) : LOK 0 TT (E_79 (R := R) N) (drawAny TT WW) (L_79 N) (bodyOf Try.f79) := loops_nil (by kernel_rfl)
theorem grun_79 {R : Type} (q_96 : Tp_96 R) (q_97 : Tp_97 R) (q_80 : Tp_80 R) (q_80_v1 : Tp_80_v1 R) (x : aden ap_79 × hden hp_79) (k : KF R) : fnrun TT (EG_79 q_96 q_97 q_80 q_80_v1) (drawAny TT WW) (LG_79) true Try.f79 (instA ap_79 x.1) (instH hp_79 x.2) k = Q_79 q_96 q_97 q_80 q_80_v1 x (fun y => k (Pat.inst (.tup (.fcons (.nilp) (.fcons (.int .i64) (.fnil)))) y.1) (instH [] y.2)) (fun y => k (Pat.inst (.tup (.fcons (.ptr 0 []) (.fcons (.int .i64) (.fnil)))) y.1) (instH [some (Z4, 178)] y.2)) (fun y => k (Pat.inst (.tup (.fcons (.ptr 0 []) (.fcons (.int .i64) (.fnil)))) y.1) (instH J6 y.2)) := by kernel_rfl
theorem run_79 {R : Type} (N : Nat) (x : aden ap_79 × hden hp_79) (k : KF R) : fnrun TT (E_79 (R := R) N) (drawAny TT WW) (L_79 N) true Try.f79 (instA ap_79 x.1) (instH hp_79 x.2) k = p_79 N x (fun y => k (Pat.inst (.tup (.fcons (.nilp) (.fcons (.int .i64) (.fnil)))) y.1) (instH [] y.2)) (fun y => k (Pat.inst (.tup (.fcons (.ptr 0 []) (.fcons (.int .i64) (.fnil)))) y.1) (instH [some (Z4, 178)] y.2)) (fun y => k (Pat.inst (.tup (.fcons (.ptr 0 []) (.fcons (.int .i64) (.fnil)))) y.1) (instH J6 y.2)) := (grun_79 (p_96 N) (p_97 N) (p_80 N) (p_80_v1 N) x k).trans (by kernel_rfl)
theorem good_79 {R : Type} (N : Nat) : GD (X := R) Try.prog QQ AA 79 ap_79 hp_79 (fun (x : aden ap_79 × hden hp_79) k => p_79 N x (fun y => k (Pat.inst (.tup (.fcons (.nilp) (.fcons (.int .i64) (.fnil)))) y.1) (instH [] y.2)) (fun y => k (Pat.inst (.tup (.fcons (.ptr 0 []) (.fcons (.int .i64) (.fnil)))) y.1) (instH [some (Z4, 178)] y.2)) (fun y => k (Pat.inst (.tup (.fcons (.ptr 0 []) (.fcons (.int .i64) (.fnil)))) y.1) (instH J6 y.2))) :=
  gd_loud (E := E_79 N) (p := fun (x : aden ap_79 × hden hp_79) k => p_79 N x (fun y => k (Pat.inst (.tup (.fcons (.nilp) (.fcons (.int .i64) (.fnil)))) y.1) (instH [] y.2)) (fun y => k (Pat.inst (.tup (.fcons (.ptr 0 []) (.fcons (.int .i64) (.fnil)))) y.1) (instH [some (Z4, 178)] y.2)) (fun y => k (Pat.inst (.tup (.fcons (.ptr 0 []) (.fcons (.int .i64) (.fnil)))) y.1) (instH J6 y.2))) mixed tyok (eok_79 N) Try.func79 (by kernel_rfl) (by kernel_rfl) (by kernel_rfl) (by kernel_rfl) (lok_79 N) (fun x k => run_79 N x k)

def ap_80_v2 : List Pat := [.nilp, .sl 0]
def hp_80_v2 : List (Option (Pat × Nat)) := [some (.lst (.str), 9)]
abbrev Tp_80_v2 (R : Type) : Type := (Unit × Unit × Unit) × ((List ByteArray) × Unit) → ((Unit × ((List ByteArray) × Unit)) → Option R) → Option R
def Q_80_v2 {R : Type} (x : (Unit × Unit × Unit) × ((List ByteArray) × Unit)) (κ0 : (Unit × ((List ByteArray) × Unit)) → Option R) : Option R :=
κ0 ((), x.2)
def p_80_v2 {R : Type} (N : Nat) (x : (Unit × Unit × Unit) × ((List ByteArray) × Unit)) (κ0 : (Unit × ((List ByteArray) × Unit)) → Option R) : Option R := Q_80_v2 x κ0
def EG_80_v2 {R : Type} : Env R := Env.base QQ LN AA
def LG_80_v2 {R : Type} : Loops R := Loops.none
def E_80_v2 {R : Type} (N : Nat) : Env R := EG_80_v2
theorem eok_80_v2 {R : Type} (N : Nat) : EK Try.prog (E_80_v2 (R := R) N) := ek_base _ _ _
def L_80_v2 {R : Type} (N : Nat) : Loops R := LG_80_v2
theorem loops_80_v2 : loopsIn (bodyOf Try.f80) = [(4, loopAt 4 (bodyOf Try.f80))] := by kernel_rfl
theorem lok_80_v2 {R : Type} (N : Nat) : LOK 1 TT (E_80_v2 (R := R) N) (drawAny TT WW) (L_80_v2 N) (bodyOf Try.f80) := loops_all loops_80_v2 (by
  simp only [List.forall_mem_cons, List.not_mem_nil, false_implies, implies_true, and_true]
  exact rounds_none (fun _ _ => rfl))
theorem grun_80_v2 {R : Type} (x : aden ap_80_v2 × hden hp_80_v2) (k : KF R) : fnrun TT (EG_80_v2) (drawAny TT WW) (LG_80_v2) true Try.f80 (instA ap_80_v2 x.1) (instH hp_80_v2 x.2) k = Q_80_v2 x (fun y => k (Pat.inst (.nilp) y.1) (instH [some (.lst (.str), 9)] y.2)) := by kernel_rfl
theorem run_80_v2 {R : Type} (N : Nat) (x : aden ap_80_v2 × hden hp_80_v2) (k : KF R) : fnrun TT (E_80_v2 (R := R) N) (drawAny TT WW) (L_80_v2 N) true Try.f80 (instA ap_80_v2 x.1) (instH hp_80_v2 x.2) k = p_80_v2 N x (fun y => k (Pat.inst (.nilp) y.1) (instH [some (.lst (.str), 9)] y.2)) := (grun_80_v2 x k).trans (by kernel_rfl)
theorem good_80_v2 {R : Type} (N : Nat) : GD (X := R) Try.prog QQ AA 80 ap_80_v2 hp_80_v2 (fun (x : aden ap_80_v2 × hden hp_80_v2) k => p_80_v2 N x (fun y => k (Pat.inst (.nilp) y.1) (instH [some (.lst (.str), 9)] y.2))) :=
  gd_loud (E := E_80_v2 N) (p := fun (x : aden ap_80_v2 × hden hp_80_v2) k => p_80_v2 N x (fun y => k (Pat.inst (.nilp) y.1) (instH [some (.lst (.str), 9)] y.2))) mixed tyok (eok_80_v2 N) Try.func80 (by kernel_rfl) (by kernel_rfl) (by kernel_rfl) (by kernel_rfl) (lok_80_v2 N) (fun x k => run_80_v2 N x k)

def ap_80_v3 : List Pat := [.nilp, .ros (.str)]
def hp_80_v3 : List (Option (Pat × Nat)) := []
abbrev Tp_80_v3 (R : Type) : Type := (Unit × (List ByteArray) × Unit) × (Unit) → ((Unit × (Unit)) → Option R) → Option R
def Q_80_v3 {R : Type} (x : (Unit × (List ByteArray) × Unit) × (Unit)) (κ0 : (Unit × (Unit)) → Option R) : Option R :=
κ0 ((), ())
def p_80_v3 {R : Type} (N : Nat) (x : (Unit × (List ByteArray) × Unit) × (Unit)) (κ0 : (Unit × (Unit)) → Option R) : Option R := Q_80_v3 x κ0
def EG_80_v3 {R : Type} : Env R := Env.base QQ LN AA
def LG_80_v3 {R : Type} : Loops R := Loops.none
def E_80_v3 {R : Type} (N : Nat) : Env R := EG_80_v3
theorem eok_80_v3 {R : Type} (N : Nat) : EK Try.prog (E_80_v3 (R := R) N) := ek_base _ _ _
def L_80_v3 {R : Type} (N : Nat) : Loops R := LG_80_v3
theorem loops_80_v3 : loopsIn (bodyOf Try.f80) = [(4, loopAt 4 (bodyOf Try.f80))] := by kernel_rfl
theorem lok_80_v3 {R : Type} (N : Nat) : LOK 0 TT (E_80_v3 (R := R) N) (drawAny TT WW) (L_80_v3 N) (bodyOf Try.f80) := loops_all loops_80_v3 (by
  simp only [List.forall_mem_cons, List.not_mem_nil, false_implies, implies_true, and_true]
  exact rounds_none (fun _ _ => rfl))
theorem grun_80_v3 {R : Type} (x : aden ap_80_v3 × hden hp_80_v3) (k : KF R) : fnrun TT (EG_80_v3) (drawAny TT WW) (LG_80_v3) true Try.f80 (instA ap_80_v3 x.1) (instH hp_80_v3 x.2) k = Q_80_v3 x (fun y => k (Pat.inst (.nilp) y.1) (instH [] y.2)) := by kernel_rfl
theorem run_80_v3 {R : Type} (N : Nat) (x : aden ap_80_v3 × hden hp_80_v3) (k : KF R) : fnrun TT (E_80_v3 (R := R) N) (drawAny TT WW) (L_80_v3 N) true Try.f80 (instA ap_80_v3 x.1) (instH hp_80_v3 x.2) k = p_80_v3 N x (fun y => k (Pat.inst (.nilp) y.1) (instH [] y.2)) := (grun_80_v3 x k).trans (by kernel_rfl)
theorem good_80_v3 {R : Type} (N : Nat) : GD (X := R) Try.prog QQ AA 80 ap_80_v3 hp_80_v3 (fun (x : aden ap_80_v3 × hden hp_80_v3) k => p_80_v3 N x (fun y => k (Pat.inst (.nilp) y.1) (instH [] y.2))) :=
  gd_loud (E := E_80_v3 N) (p := fun (x : aden ap_80_v3 × hden hp_80_v3) k => p_80_v3 N x (fun y => k (Pat.inst (.nilp) y.1) (instH [] y.2))) mixed tyok (eok_80_v3 N) Try.func80 (by kernel_rfl) (by kernel_rfl) (by kernel_rfl) (by kernel_rfl) (lok_80_v3 N) (fun x k => run_80_v3 N x k)

def ap_81 : List Pat := [.nilp]
def hp_81 : List (Option (Pat × Nat)) := []
abbrev Tp_81 (R : Type) : Type := (Unit × Unit) × (Unit) → ((ByteArray × (Unit)) → Option R) → Option R
def Q_81 {R : Type} (x : (Unit × Unit) × (Unit)) (κ0 : (ByteArray × (Unit)) → Option R) : Option R :=
κ0 (⟨#[]⟩, ())
def p_81 {R : Type} (N : Nat) (x : (Unit × Unit) × (Unit)) (κ0 : (ByteArray × (Unit)) → Option R) : Option R := Q_81 x κ0
def EG_81 {R : Type} : Env R := Env.base QQ LN AA
def LG_81 {R : Type} : Loops R := Loops.none
def E_81 {R : Type} (N : Nat) : Env R := EG_81
theorem eok_81 {R : Type} (N : Nat) : EK Try.prog (E_81 (R := R) N) := ek_base _ _ _
def L_81 {R : Type} (N : Nat) : Loops R := LG_81
theorem lok_81 {R : Type} (N : Nat) : LOK 0 TT (E_81 (R := R) N) (drawAny TT WW) (L_81 N) (bodyOf Try.f81) := loops_nil (by kernel_rfl)
theorem grun_81 {R : Type} (x : aden ap_81 × hden hp_81) (k : KF R) : fnrun TT (EG_81) (drawAny TT WW) (LG_81) true Try.f81 (instA ap_81 x.1) (instH hp_81 x.2) k = Q_81 x (fun y => k (Pat.inst (.str) y.1) (instH [] y.2)) := by kernel_rfl
theorem run_81 {R : Type} (N : Nat) (x : aden ap_81 × hden hp_81) (k : KF R) : fnrun TT (E_81 (R := R) N) (drawAny TT WW) (L_81 N) true Try.f81 (instA ap_81 x.1) (instH hp_81 x.2) k = p_81 N x (fun y => k (Pat.inst (.str) y.1) (instH [] y.2)) := (grun_81 x k).trans (by kernel_rfl)
theorem good_81 {R : Type} (N : Nat) : GD (X := R) Try.prog QQ AA 81 ap_81 hp_81 (fun (x : aden ap_81 × hden hp_81) k => p_81 N x (fun y => k (Pat.inst (.str) y.1) (instH [] y.2))) :=
  gd_loud (E := E_81 N) (p := fun (x : aden ap_81 × hden hp_81) k => p_81 N x (fun y => k (Pat.inst (.str) y.1) (instH [] y.2))) mixed tyok (eok_81 N) Try.func81 (by kernel_rfl) (by kernel_rfl) (by kernel_rfl) (by kernel_rfl) (lok_81 N) (fun x k => run_81 N x k)

def ap_100 : List Pat := [.nilp]
def hp_100 : List (Option (Pat × Nat)) := []
abbrev Tp_100 (R : Type) : Type := (Unit × Unit) × (Unit) → ((Unit × (Unit)) → Option R) → Option R
def Q_100 {R : Type} (x : (Unit × Unit) × (Unit)) (κ0 : (Unit × (Unit)) → Option R) : Option R :=
κ0 ((), ())
def p_100 {R : Type} (N : Nat) (x : (Unit × Unit) × (Unit)) (κ0 : (Unit × (Unit)) → Option R) : Option R := Q_100 x κ0
def EG_100 {R : Type} : Env R := Env.base QQ LN AA
def LG_100 {R : Type} : Loops R := Loops.none
def E_100 {R : Type} (N : Nat) : Env R := EG_100
theorem eok_100 {R : Type} (N : Nat) : EK Try.prog (E_100 (R := R) N) := ek_base _ _ _
def L_100 {R : Type} (N : Nat) : Loops R := LG_100
theorem lok_100 {R : Type} (N : Nat) : LOK 0 TT (E_100 (R := R) N) (drawAny TT WW) (L_100 N) (bodyOf Try.f100) := loops_nil (by kernel_rfl)
theorem grun_100 {R : Type} (x : aden ap_100 × hden hp_100) (k : KF R) : fnrun TT (EG_100) (drawAny TT WW) (LG_100) false Try.f100 (instA ap_100 x.1) (instH hp_100 x.2) k = Q_100 x (fun y => k (Pat.inst (.nils) y.1) (instH [] y.2)) := by kernel_rfl
theorem run_100 {R : Type} (N : Nat) (x : aden ap_100 × hden hp_100) (k : KF R) : fnrun TT (E_100 (R := R) N) (drawAny TT WW) (L_100 N) false Try.f100 (instA ap_100 x.1) (instH hp_100 x.2) k = p_100 N x (fun y => k (Pat.inst (.nils) y.1) (instH [] y.2)) := (grun_100 x k).trans (by kernel_rfl)
theorem good_100 {R : Type} (N : Nat) : GD (X := R) Try.prog QQ AA 100 ap_100 hp_100 (fun (x : aden ap_100 × hden hp_100) k => p_100 N x (fun y => k (Pat.inst (.nils) y.1) (instH [] y.2))) :=
  gd_loud (E := E_100 N) (p := fun (x : aden ap_100 × hden hp_100) k => p_100 N x (fun y => k (Pat.inst (.nils) y.1) (instH [] y.2))) mixed tyok (eok_100 N) Try.func100 (by kernel_rfl) (by kernel_rfl) (by kernel_rfl) (by kernel_rfl) (lok_100 N) (fun x k => run_100 N x k)

def lv_83_6 : Live := [(3, none), (5, none), (11, none), (12, none), (13, none), (17, none)]
def pt_83_6 : SPat := ⟨[(3, .sl 0), (5, .int .u64), (11, .ros (.int .u64)), (12, .int .i64), (13, .int .i64), (17, .int .i64)], J4⟩
def px_83_6_0 : SPat := ⟨[(3, .sl 0), (11, .ros (.int .u64)), (12, .int .i64), (13, .int .i64)], J4⟩
def lo_83_6 : Exit → Live
  | .exit 2 => [(3, none), (11, none), (12, none), (13, none)]
  | _ => []
def lv_83_3 : Live := [(3, none), (11, none), (12, none), (13, none)]
def pt_83_3 : SPat := ⟨[(3, .sl 0), (11, .ros (.int .u64)), (12, .int .i64), (13, .int .i64)], J4⟩
def px_83_3_0 : SPat := ⟨[(3, .sl 0)], J4⟩
def lo_83_3 : Exit → Live
  | .exit 0 => [(3, none)]
  | _ => []
def ap_83 : List Pat := [.ros (.int .u64)]
def hp_83 : List (Option (Pat × Nat)) := []
abbrev Tl_83_6 (R : Type) : Type := ((Unit × Int × (List Int) × Int × Int × Int × Unit) × ((List Int) × Unit)) → (Y17 → Option R) → Option R
abbrev Tl_83_3 (R : Type) : Type := Y17 → (Y24 → Option R) → Option R
abbrev Tp_83 (R : Type) : Type := ((List Int) × Unit) × (Unit) → ((Unit × ((List Int) × Unit)) → Option R) → Option R
def C_83_6 {R : Type} (rec : ((Unit × Int × (List Int) × Int × Int × Int × Unit) × ((List Int) × Unit)) → Option R) (x : ((Unit × Int × (List Int) × Int × Int × Int × Unit) × ((List Int) × Unit))) (κ0 : Y17 → Option R) : Option R :=
let i1679 := x.1.2.1
let l1680 := x.1.2.2.1
let i1681 := x.1.2.2.2.1
let i1682 := x.1.2.2.2.2.1
let i1683 := x.1.2.2.2.2.2.1
let l1684 := x.2.1
bif (decide (i1683 < 8)) then (
let i1685 : Int := mulA .i64 8 i1683
bif decide (i1685 < 0) then none else (
let i1686 : Int := shrA .u64 i1679 i1685
let i1687 : Int := IntKind.wrap .u8 i1686
let l1688 : (List Int) := [i1687]
bif (decide ((List.length l1684 + List.length l1688) * 1 ≤ 140737488355328) && true) then (
let l1689 : (List Int) := (l1684 ++ l1688)
let i1690 : Int := addA .i64 i1683 1
rec (((), i1679, l1680, i1681, i1682, i1690, ()), (l1689, ()))) else none)) else (
κ0 (((), l1680, i1681, i1682, ()), x.2))
def C_83_3 {R : Type} (m_83_6 : Tl_83_6 R) (rec : Y17 → Option R) (x : Y17) (κ0 : Y24 → Option R) : Option R :=
let l1674 := x.1.2.1
let i1675 := x.1.2.2.1
let i1676 := x.1.2.2.2.1
bif (decide (i1676 < i1675)) then (
bif decide (0 ≤ i1676) then (
bif decide (i1676 < ((List.length l1674) : Int)) then (
let p1678 : Int := (List.getD l1674 ((Int.toNat i1676)) (Sch.zero (.int .u64)))
m_83_6 (((), p1678, l1674, i1675, i1676, 0, ()), x.2) (fun y1691 =>
let l1692 := y1691.1.2.1
let i1693 := y1691.1.2.2.1
let i1694 := y1691.1.2.2.2.1
let i1696 : Int := addA .i64 i1694 1
rec (((), l1692, i1693, i1696, ()), y1691.2))) else none) else none) else (
κ0 (((), ()), x.2))
def B_83_6 {R : Type} (N : Nat) (rec : ((Unit × Int × (List Int) × Int × Int × Int × Unit) × ((List Int) × Unit)) → Option R) (x : ((Unit × Int × (List Int) × Int × Int × Int × Unit) × ((List Int) × Unit))) (κ0 : Y17 → Option R) : Option R := C_83_6 rec x κ0
def l_83_6 {R : Type} (N : Nat) : Nat → ((Unit × Int × (List Int) × Int × Int × Int × Unit) × ((List Int) × Unit)) → (Y17 → Option R) → Option R
  | 0, _, _ => none
  | n + 1, x, κ0 => B_83_6 N (fun y => l_83_6 N n y κ0) x κ0
def B_83_3 {R : Type} (N : Nat) (rec : Y17 → Option R) (x : Y17) (κ0 : Y24 → Option R) : Option R := C_83_3 (l_83_6 N N) rec x κ0
def l_83_3 {R : Type} (N : Nat) : Nat → Y17 → (Y24 → Option R) → Option R
  | 0, _, _ => none
  | n + 1, x, κ0 => B_83_3 N (fun y => l_83_3 N n y κ0) x κ0
def Q_83 {R : Type} (m_83_6 : Tl_83_6 R) (m_83_3 : Tl_83_3 R) (x : ((List Int) × Unit) × (Unit)) (κ0 : (Unit × ((List Int) × Unit)) → Option R) : Option R :=
let l1669 := x.1.1
let i1670 : Int := (((List.length l1669) : Nat) : Int)
let i1671 : Int := mulA .i64 8 i1670
bif decide (0 ≤ i1671) then (
bif decide (((1 : Nat) : Int) * i1671 ≤ 281474976710656) then (
bif decide (i1671 ≤ 9223372036854775807) then (
let l1672 : (List Int) := List.replicate 0 (Sch.zero (.int .u8))
let i1673 : Int := (((List.length l1669) : Nat) : Int)
m_83_3 (((), l1669, i1673, 0, ()), (l1672, ())) (fun y1697 =>
κ0 ((), y1697.2))) else none) else none) else none
def p_83 {R : Type} (N : Nat) (x : ((List Int) × Unit) × (Unit)) (κ0 : (Unit × ((List Int) × Unit)) → Option R) : Option R := Q_83 (l_83_6 N N) (l_83_3 N N) x κ0
def EG_83 {R : Type} : Env R := Env.base QQ LN AA
def LG_83 {R : Type} (m_83_6 : Tl_83_6 R) (m_83_3 : Tl_83_3 R) : Loops R := ((Loops.none).add 6 (loopBy 0 lv_83_6 pt_83_6 (fun x k => m_83_6 x (fun y => k (.exit 2) (px_83_6_0.inst y))))).add 3 (loopBy 0 lv_83_3 pt_83_3 (fun x k => m_83_3 x (fun y => k (.exit 0) (px_83_3_0.inst y))))
def E_83 {R : Type} (N : Nat) : Env R := EG_83
theorem eok_83 {R : Type} (N : Nat) : EK Try.prog (E_83 (R := R) N) := ek_base _ _ _
def L_83 {R : Type} (N : Nat) : Loops R := LG_83 (l_83_6 N N) (l_83_3 N N)
theorem gstep_83_6 {R : Type} (m_83_6 : Tl_83_6 R) (m_83_3 : Tl_83_3 R) (n : Nat) (x : pt_83_6.den) (k : Exit → St → Option R) : iter 0 lv_83_6 lo_83_6 (aexec TT (EG_83) (drawAny TT WW) (LG_83 m_83_6 m_83_3) (loopAt 6 (bodyOf Try.f83))) (n + 1) (pt_83_6.inst x) k = C_83_6 (fun y => iter 0 lv_83_6 lo_83_6 (aexec TT (EG_83) (drawAny TT WW) (LG_83 m_83_6 m_83_3) (loopAt 6 (bodyOf Try.f83))) n (pt_83_6.inst y) k) x (fun y => k (.exit 2) (px_83_6_0.inst y)) := by kernel_rfl
theorem step_83_6 {R : Type} (N n : Nat) (x : pt_83_6.den) (k : Exit → St → Option R) : iter 0 lv_83_6 lo_83_6 (aexec TT (E_83 (R := R) N) (drawAny TT WW) (L_83 N) (loopAt 6 (bodyOf Try.f83))) (n + 1) (pt_83_6.inst x) k = B_83_6 N (fun y => iter 0 lv_83_6 lo_83_6 (aexec TT (E_83 (R := R) N) (drawAny TT WW) (L_83 N) (loopAt 6 (bodyOf Try.f83))) n (pt_83_6.inst y) k) x (fun y => k (.exit 2) (px_83_6_0.inst y)) := (gstep_83_6 (l_83_6 N N) (l_83_3 N N) n x k).trans (by kernel_rfl)
theorem eq_83_6 {R : Type} (N : Nat) : ∀ (n : Nat) (x : pt_83_6.den) (k : Exit → St → Option R), iter 0 lv_83_6 lo_83_6 (aexec TT (E_83 (R := R) N) (drawAny TT WW) (L_83 N) (loopAt 6 (bodyOf Try.f83))) n (pt_83_6.inst x) k = l_83_6 N n x (fun y => k (.exit 2) (px_83_6_0.inst y)) :=
  iter_eq (K := Exit → St → Option R) (ks := fun k => k) (l := fun n (x : pt_83_6.den) k => l_83_6 N n x (fun y => k (.exit 2) (px_83_6_0.inst y))) (B := fun (rec : pt_83_6.den → Option R) (x : pt_83_6.den) k => B_83_6 N rec x (fun y => k (.exit 2) (px_83_6_0.inst y))) (fun _ _ => rfl) (fun _ _ _ => rfl) (fun n x k => step_83_6 N n x k)
theorem rounds_83_6 {R : Type} (N : Nat) : Rounds 0 TT (E_83 (R := R) N) (drawAny TT WW) (L_83 N) 6 (loopAt 6 (bodyOf Try.f83)) :=
  rounds_of (p := pt_83_6) (l := fun (x : pt_83_6.den) k => l_83_6 N N x (fun y => k (.exit 2) (px_83_6_0.inst y))) (fun s k => rfl) (fun x k => eq_83_6 N N x k)
theorem gstep_83_3 {R : Type} (m_83_6 : Tl_83_6 R) (m_83_3 : Tl_83_3 R) (n : Nat) (x : pt_83_3.den) (k : Exit → St → Option R) : iter 0 lv_83_3 lo_83_3 (aexec TT (EG_83) (drawAny TT WW) (LG_83 m_83_6 m_83_3) (loopAt 3 (bodyOf Try.f83))) (n + 1) (pt_83_3.inst x) k = C_83_3 m_83_6 (fun y => iter 0 lv_83_3 lo_83_3 (aexec TT (EG_83) (drawAny TT WW) (LG_83 m_83_6 m_83_3) (loopAt 3 (bodyOf Try.f83))) n (pt_83_3.inst y) k) x (fun y => k (.exit 0) (px_83_3_0.inst y)) := by kernel_rfl
theorem step_83_3 {R : Type} (N n : Nat) (x : pt_83_3.den) (k : Exit → St → Option R) : iter 0 lv_83_3 lo_83_3 (aexec TT (E_83 (R := R) N) (drawAny TT WW) (L_83 N) (loopAt 3 (bodyOf Try.f83))) (n + 1) (pt_83_3.inst x) k = B_83_3 N (fun y => iter 0 lv_83_3 lo_83_3 (aexec TT (E_83 (R := R) N) (drawAny TT WW) (L_83 N) (loopAt 3 (bodyOf Try.f83))) n (pt_83_3.inst y) k) x (fun y => k (.exit 0) (px_83_3_0.inst y)) := (gstep_83_3 (l_83_6 N N) (l_83_3 N N) n x k).trans (by kernel_rfl)
theorem eq_83_3 {R : Type} (N : Nat) : ∀ (n : Nat) (x : pt_83_3.den) (k : Exit → St → Option R), iter 0 lv_83_3 lo_83_3 (aexec TT (E_83 (R := R) N) (drawAny TT WW) (L_83 N) (loopAt 3 (bodyOf Try.f83))) n (pt_83_3.inst x) k = l_83_3 N n x (fun y => k (.exit 0) (px_83_3_0.inst y)) :=
  iter_eq (K := Exit → St → Option R) (ks := fun k => k) (l := fun n (x : pt_83_3.den) k => l_83_3 N n x (fun y => k (.exit 0) (px_83_3_0.inst y))) (B := fun (rec : pt_83_3.den → Option R) (x : pt_83_3.den) k => B_83_3 N rec x (fun y => k (.exit 0) (px_83_3_0.inst y))) (fun _ _ => rfl) (fun _ _ _ => rfl) (fun n x k => step_83_3 N n x k)
theorem rounds_83_3 {R : Type} (N : Nat) : Rounds 0 TT (E_83 (R := R) N) (drawAny TT WW) (L_83 N) 3 (loopAt 3 (bodyOf Try.f83)) :=
  rounds_of (p := pt_83_3) (l := fun (x : pt_83_3.den) k => l_83_3 N N x (fun y => k (.exit 0) (px_83_3_0.inst y))) (fun s k => rfl) (fun x k => eq_83_3 N N x k)
theorem loops_83 : loopsIn (bodyOf Try.f83) = [(3, loopAt 3 (bodyOf Try.f83)), (6, loopAt 6 (bodyOf Try.f83))] := by kernel_rfl
theorem lok_83 {R : Type} (N : Nat) : LOK 0 TT (E_83 (R := R) N) (drawAny TT WW) (L_83 N) (bodyOf Try.f83) := loops_all loops_83 (by
  simp only [List.forall_mem_cons, List.not_mem_nil, false_implies, implies_true, and_true]
  exact ⟨rounds_83_3 N, rounds_83_6 N⟩)
theorem grun_83 {R : Type} (m_83_6 : Tl_83_6 R) (m_83_3 : Tl_83_3 R) (x : aden ap_83 × hden hp_83) (k : KF R) : fnrun TT (EG_83) (drawAny TT WW) (LG_83 m_83_6 m_83_3) false Try.f83 (instA ap_83 x.1) (instH hp_83 x.2) k = Q_83 m_83_6 m_83_3 x (fun y => k (Pat.inst (.sl 0) y.1) (instH J4 y.2)) := by kernel_rfl
theorem run_83 {R : Type} (N : Nat) (x : aden ap_83 × hden hp_83) (k : KF R) : fnrun TT (E_83 (R := R) N) (drawAny TT WW) (L_83 N) false Try.f83 (instA ap_83 x.1) (instH hp_83 x.2) k = p_83 N x (fun y => k (Pat.inst (.sl 0) y.1) (instH J4 y.2)) := (grun_83 (l_83_6 N N) (l_83_3 N N) x k).trans (by kernel_rfl)
theorem good_83 {R : Type} (N : Nat) : GD (X := R) Try.prog QQ AA 83 ap_83 hp_83 (fun (x : aden ap_83 × hden hp_83) k => p_83 N x (fun y => k (Pat.inst (.sl 0) y.1) (instH J4 y.2))) :=
  gd_loud (E := E_83 N) (p := fun (x : aden ap_83 × hden hp_83) k => p_83 N x (fun y => k (Pat.inst (.sl 0) y.1) (instH J4 y.2))) mixed tyok (eok_83 N) Try.func83 (by kernel_rfl) (by kernel_rfl) (by kernel_rfl) (by kernel_rfl) (lok_83 N) (fun x k => run_83 N x k)

def ap_81_v1 : List Pat := [.ptr 0 []]
def hp_81_v1 : List (Option (Pat × Nat)) := [some (Z4, 178)]
abbrev Tp_81_v1 (R : Type) : Type := (Unit × Unit) × (Y3 × Unit) → ((ByteArray × (Y3 × Unit)) → Option R) → Option R
def Q_81_v1 {R : Type} (q_100 : Tp_100 R) (q_99 : Tp_99 R) (q_83 : Tp_83 R) (x : (Unit × Unit) × (Y3 × Unit)) (κ0 : (ByteArray × (Y3 × Unit)) → Option R) : Option R :=
let a1658 := x.2.1.2.1
let i1659 := x.2.1.2.2.1
let i1660 := x.2.1.2.2.2.1
q_100 (((), ()), ()) (fun y1661 =>
let i1662 : Int := IntKind.wrap .u64 0
let i1663 : Int := addA .u64 i1660 i1662
let i1664 : Int := subA .i64 128 0
bif decide (0 ≤ i1664) then (
bif decide (i1664 ≤ 140737488355328) then (
bif decide (List.length (List.replicate ((Int.toNat i1664)) (Sch.zero (.int .u8))) * 1 ≤ 140737488355328) then (
let l1665 : (List Int) := List.replicate ((Int.toNat i1664)) (Sch.zero (.int .u8))
q_99 ((a1658, l1665, i1663, true, ()), ()) (fun y1666 =>
let a1667 := y1666.1
q_83 ((((List.range 8).map fun j => a1667 (0 + j)), ()), ()) (fun y1699 =>
let l1700 := y1699.2.1
bif decide (0 ≤ i1659) then (
bif decide (i1659 ≤ (((List.length l1700) : Nat) : Int)) then (
bif decide (0 ≤ i1659) then (
let l1701 : (List Int) := List.take ((Int.toNat i1659) - 0) (List.drop 0 l1700)
let s1702 : ByteArray := listStr l1701
κ0 (s1702, x.2)) else none) else none) else none))) else none) else none) else none)
def p_81_v1 {R : Type} (N : Nat) (x : (Unit × Unit) × (Y3 × Unit)) (κ0 : (ByteArray × (Y3 × Unit)) → Option R) : Option R := Q_81_v1 (p_100 N) (p_99 N) (p_83 N) x κ0
def EG_81_v1 {R : Type} (q_100 : Tp_100 R) (q_99 : Tp_99 R) (q_83 : Tp_83 R) : Env R := (((Env.base QQ LN AA).add 100 ap_100 hp_100 (fun (x : aden ap_100 × hden hp_100) k => q_100 x (fun y => k (Pat.inst (.nils) y.1) (instH [] y.2)))).add 99 ap_99 hp_99 (fun (x : aden ap_99 × hden hp_99) k => q_99 x (fun y => k (Pat.inst (.tup (.fcons (.vec (.int .u64) 8) (.fcons (.int .i64) (.fnil)))) y) (instH hp_99 x.2)))).add 83 ap_83 hp_83 (fun (x : aden ap_83 × hden hp_83) k => q_83 x (fun y => k (Pat.inst (.sl 0) y.1) (instH J4 y.2)))
def LG_81_v1 {R : Type} : Loops R := Loops.none
def E_81_v1 {R : Type} (N : Nat) : Env R := EG_81_v1 (p_100 N) (p_99 N) (p_83 N)
theorem eok_81_v1 {R : Type} (N : Nat) : EK Try.prog (E_81_v1 (R := R) N) := ek_add (ek_add (ek_add (ek_base _ _ _) (good_100 N)) (good_99 N)) (good_83 N)
def L_81_v1 {R : Type} (N : Nat) : Loops R := LG_81_v1
theorem lok_81_v1 {R : Type} (N : Nat) : LOK 1 TT (E_81_v1 (R := R) N) (drawAny TT WW) (L_81_v1 N) (bodyOf Try.f81) := loops_nil (by kernel_rfl)
theorem grun_81_v1 {R : Type} (q_100 : Tp_100 R) (q_99 : Tp_99 R) (q_83 : Tp_83 R) (x : aden ap_81_v1 × hden hp_81_v1) (k : KF R) : fnrun TT (EG_81_v1 q_100 q_99 q_83) (drawAny TT WW) (LG_81_v1) true Try.f81 (instA ap_81_v1 x.1) (instH hp_81_v1 x.2) k = Q_81_v1 q_100 q_99 q_83 x (fun y => k (Pat.inst (.str) y.1) (instH [some (Z4, 178)] y.2)) := by kernel_rfl
theorem run_81_v1 {R : Type} (N : Nat) (x : aden ap_81_v1 × hden hp_81_v1) (k : KF R) : fnrun TT (E_81_v1 (R := R) N) (drawAny TT WW) (L_81_v1 N) true Try.f81 (instA ap_81_v1 x.1) (instH hp_81_v1 x.2) k = p_81_v1 N x (fun y => k (Pat.inst (.str) y.1) (instH [some (Z4, 178)] y.2)) := (grun_81_v1 (p_100 N) (p_99 N) (p_83 N) x k).trans (by kernel_rfl)
theorem good_81_v1 {R : Type} (N : Nat) : GD (X := R) Try.prog QQ AA 81 ap_81_v1 hp_81_v1 (fun (x : aden ap_81_v1 × hden hp_81_v1) k => p_81_v1 N x (fun y => k (Pat.inst (.str) y.1) (instH [some (Z4, 178)] y.2))) :=
  gd_loud (E := E_81_v1 N) (p := fun (x : aden ap_81_v1 × hden hp_81_v1) k => p_81_v1 N x (fun y => k (Pat.inst (.str) y.1) (instH [some (Z4, 178)] y.2))) mixed tyok (eok_81_v1 N) Try.func81 (by kernel_rfl) (by kernel_rfl) (by kernel_rfl) (by kernel_rfl) (lok_81_v1 N) (fun x k => run_81_v1 N x k)

def ap_100_v1 : List Pat := [.ptr 0 []]
def hp_100_v1 : List (Option (Pat × Nat)) := J10
abbrev Tp_100_v1 (R : Type) : Type := (Unit × Unit) × (Y2 × (List Int) × Unit) → ((Unit × (Y2 × (List Int) × (List Int) × Unit)) → Option R) → Option R
def Q_100_v1 {R : Type} (x : (Unit × Unit) × (Y2 × (List Int) × Unit)) (κ0 : (Unit × (Y2 × (List Int) × (List Int) × Unit)) → Option R) : Option R :=
let l1736 := x.2.2.1
bif decide (List.length l1736 * 1 ≤ 140737488355328) then (
κ0 ((), (x.2.1, l1736, l1736, ()))) else none
def p_100_v1 {R : Type} (N : Nat) (x : (Unit × Unit) × (Y2 × (List Int) × Unit)) (κ0 : (Unit × (Y2 × (List Int) × (List Int) × Unit)) → Option R) : Option R := Q_100_v1 x κ0
def EG_100_v1 {R : Type} : Env R := Env.base QQ LN AA
def LG_100_v1 {R : Type} : Loops R := Loops.none
def E_100_v1 {R : Type} (N : Nat) : Env R := EG_100_v1
theorem eok_100_v1 {R : Type} (N : Nat) : EK Try.prog (E_100_v1 (R := R) N) := ek_base _ _ _
def L_100_v1 {R : Type} (N : Nat) : Loops R := LG_100_v1
theorem lok_100_v1 {R : Type} (N : Nat) : LOK 2 TT (E_100_v1 (R := R) N) (drawAny TT WW) (L_100_v1 N) (bodyOf Try.f100) := loops_nil (by kernel_rfl)
theorem grun_100_v1 {R : Type} (x : aden ap_100_v1 × hden hp_100_v1) (k : KF R) : fnrun TT (EG_100_v1) (drawAny TT WW) (LG_100_v1) false Try.f100 (instA ap_100_v1 x.1) (instH hp_100_v1 x.2) k = Q_100_v1 x (fun y => k (Pat.inst (.sl 2) y.1) (instH [some (Z6, 189), some (.lst (.int .u8), 5), some (.lst (.int .u8), 5)] y.2)) := by kernel_rfl
theorem run_100_v1 {R : Type} (N : Nat) (x : aden ap_100_v1 × hden hp_100_v1) (k : KF R) : fnrun TT (E_100_v1 (R := R) N) (drawAny TT WW) (L_100_v1 N) false Try.f100 (instA ap_100_v1 x.1) (instH hp_100_v1 x.2) k = p_100_v1 N x (fun y => k (Pat.inst (.sl 2) y.1) (instH [some (Z6, 189), some (.lst (.int .u8), 5), some (.lst (.int .u8), 5)] y.2)) := (grun_100_v1 x k).trans (by kernel_rfl)
theorem good_100_v1 {R : Type} (N : Nat) : GD (X := R) Try.prog QQ AA 100 ap_100_v1 hp_100_v1 (fun (x : aden ap_100_v1 × hden hp_100_v1) k => p_100_v1 N x (fun y => k (Pat.inst (.sl 2) y.1) (instH [some (Z6, 189), some (.lst (.int .u8), 5), some (.lst (.int .u8), 5)] y.2))) :=
  gd_loud (E := E_100_v1 N) (p := fun (x : aden ap_100_v1 × hden hp_100_v1) k => p_100_v1 N x (fun y => k (Pat.inst (.sl 2) y.1) (instH [some (Z6, 189), some (.lst (.int .u8), 5), some (.lst (.int .u8), 5)] y.2))) mixed tyok (eok_100_v1 N) Try.func100 (by kernel_rfl) (by kernel_rfl) (by kernel_rfl) (by kernel_rfl) (lok_100_v1 N) (fun x k => run_100_v1 N x k)

def ap_81_v2 : List Pat := [.ptr 0 []]
def hp_81_v2 : List (Option (Pat × Nat)) := J6
abbrev Tp_81_v2 (R : Type) : Type := (Unit × Unit) × Y25 → ((ByteArray × Y25) → Option R) → Option R
def Q_81_v2 {R : Type} (q_100_v1 : Tp_100_v1 R) (q_99 : Tp_99 R) (q_83 : Tp_83 R) (x : (Unit × Unit) × Y25) (κ0 : (ByteArray × Y25) → Option R) : Option R :=
let a1726 := x.2.1.2.1
let i1727 := x.2.1.2.2.1
let i1728 := x.2.1.2.2.2.1
let l1732 := x.2.2.2.1
q_100_v1 (((), ()), (x.2.2.1, l1732, ())) (fun y1737 =>
let l1741 := y1737.2.2.1
let l1742 := y1737.2.2.2.1
let i1743 : Int := (((List.length l1742) : Nat) : Int)
let i1744 : Int := IntKind.wrap .u64 i1743
let i1745 : Int := addA .u64 i1728 i1744
let i1746 : Int := (((List.length l1742) : Nat) : Int)
let i1747 : Int := subA .i64 128 i1746
bif decide (0 ≤ i1747) then (
bif decide (i1747 ≤ 140737488355328) then (
bif (decide ((List.length l1742 + List.length (List.replicate ((Int.toNat i1747)) (Sch.zero (.int .u8)))) * 1 ≤ 140737488355328) && true) then (
let l1748 : (List Int) := (l1742 ++ List.replicate ((Int.toNat i1747)) (Sch.zero (.int .u8)))
q_99 ((a1726, l1748, i1745, true, ()), ()) (fun y1749 =>
let a1750 := y1749.1
q_83 ((((List.range 8).map fun j => a1750 (0 + j)), ()), ()) (fun y1752 =>
let l1753 := y1752.2.1
bif decide (0 ≤ i1727) then (
bif decide (i1727 ≤ (((List.length l1753) : Nat) : Int)) then (
bif decide (0 ≤ i1727) then (
let l1754 : (List Int) := List.take ((Int.toNat i1727) - 0) (List.drop 0 l1753)
let s1755 : ByteArray := listStr l1754
κ0 (s1755, (x.2.1, y1737.2.1, l1741, ()))) else none) else none) else none))) else none) else none) else none)
def p_81_v2 {R : Type} (N : Nat) (x : (Unit × Unit) × Y25) (κ0 : (ByteArray × Y25) → Option R) : Option R := Q_81_v2 (p_100_v1 N) (p_99 N) (p_83 N) x κ0
def EG_81_v2 {R : Type} (q_100_v1 : Tp_100_v1 R) (q_99 : Tp_99 R) (q_83 : Tp_83 R) : Env R := (((Env.base QQ LN AA).add 100 ap_100_v1 hp_100_v1 (fun (x : aden ap_100_v1 × hden hp_100_v1) k => q_100_v1 x (fun y => k (Pat.inst (.sl 2) y.1) (instH [some (Z6, 189), some (.lst (.int .u8), 5), some (.lst (.int .u8), 5)] y.2)))).add 99 ap_99 hp_99 (fun (x : aden ap_99 × hden hp_99) k => q_99 x (fun y => k (Pat.inst (.tup (.fcons (.vec (.int .u64) 8) (.fcons (.int .i64) (.fnil)))) y) (instH hp_99 x.2)))).add 83 ap_83 hp_83 (fun (x : aden ap_83 × hden hp_83) k => q_83 x (fun y => k (Pat.inst (.sl 0) y.1) (instH J4 y.2)))
def LG_81_v2 {R : Type} : Loops R := Loops.none
def E_81_v2 {R : Type} (N : Nat) : Env R := EG_81_v2 (p_100_v1 N) (p_99 N) (p_83 N)
theorem eok_81_v2 {R : Type} (N : Nat) : EK Try.prog (E_81_v2 (R := R) N) := ek_add (ek_add (ek_add (ek_base _ _ _) (good_100_v1 N)) (good_99 N)) (good_83 N)
def L_81_v2 {R : Type} (N : Nat) : Loops R := LG_81_v2
theorem lok_81_v2 {R : Type} (N : Nat) : LOK 3 TT (E_81_v2 (R := R) N) (drawAny TT WW) (L_81_v2 N) (bodyOf Try.f81) := loops_nil (by kernel_rfl)
theorem grun_81_v2 {R : Type} (q_100_v1 : Tp_100_v1 R) (q_99 : Tp_99 R) (q_83 : Tp_83 R) (x : aden ap_81_v2 × hden hp_81_v2) (k : KF R) : fnrun TT (EG_81_v2 q_100_v1 q_99 q_83) (drawAny TT WW) (LG_81_v2) true Try.f81 (instA ap_81_v2 x.1) (instH hp_81_v2 x.2) k = Q_81_v2 q_100_v1 q_99 q_83 x (fun y => k (Pat.inst (.str) y.1) (instH J6 y.2)) := by kernel_rfl
theorem run_81_v2 {R : Type} (N : Nat) (x : aden ap_81_v2 × hden hp_81_v2) (k : KF R) : fnrun TT (E_81_v2 (R := R) N) (drawAny TT WW) (L_81_v2 N) true Try.f81 (instA ap_81_v2 x.1) (instH hp_81_v2 x.2) k = p_81_v2 N x (fun y => k (Pat.inst (.str) y.1) (instH J6 y.2)) := (grun_81_v2 (p_100_v1 N) (p_99 N) (p_83 N) x k).trans (by kernel_rfl)
theorem good_81_v2 {R : Type} (N : Nat) : GD (X := R) Try.prog QQ AA 81 ap_81_v2 hp_81_v2 (fun (x : aden ap_81_v2 × hden hp_81_v2) k => p_81_v2 N x (fun y => k (Pat.inst (.str) y.1) (instH J6 y.2))) :=
  gd_loud (E := E_81_v2 N) (p := fun (x : aden ap_81_v2 × hden hp_81_v2) k => p_81_v2 N x (fun y => k (Pat.inst (.str) y.1) (instH J6 y.2))) mixed tyok (eok_81_v2 N) Try.func81 (by kernel_rfl) (by kernel_rfl) (by kernel_rfl) (by kernel_rfl) (lok_81_v2 N) (fun x k => run_81_v2 N x k)

def ap_82 : List Pat := [.int .i64, .str, .sl 0]
def hp_82 : List (Option (Pat × Nat)) := [some (.lst (.str), 9)]
abbrev Tp_82 (R : Type) : Type := (Int × ByteArray × Unit × Unit) × ((List ByteArray) × Unit) → (((ByteArray × (Int × Unit)) × ((List ByteArray) × Unit)) → Option R) → Option R
def Q_82 {R : Type} (q_79 : Tp_79 R) (q_80_v2 : Tp_80_v2 R) (q_81 : Tp_81 R) (q_80 : Tp_80 R) (q_81_v1 : Tp_81_v1 R) (q_80_v1 : Tp_80_v1 R) (q_81_v2 : Tp_81_v2 R) (x : (Int × ByteArray × Unit × Unit) × ((List ByteArray) × Unit)) (κ0 : ((ByteArray × (Int × Unit)) × ((List ByteArray) × Unit)) → Option R) : Option R :=
let i1639 := x.1.1
let s1640 := x.1.2.1
let l1641 := x.2.1
q_79 ((i1639, s1640, ()), ()) (fun y1642 =>
let i1643 := y1642.1.2.1
bif (i1643 != 0) then (
κ0 ((⟨#[]⟩, y1642.1.2), x.2)) else (
q_80_v2 (((), (), ()), x.2) (fun y1644 =>
q_81 (((), ()), ()) (fun y1646 =>
let s1647 := y1646.1
κ0 ((s1647, (0, ())), y1644.2))))) (fun y1648 =>
let i1649 := y1648.1.2.1
bif (i1649 != 0) then (
κ0 ((⟨#[]⟩, y1648.1.2), x.2)) else (
q_80 (((), (), ()), (y1648.2.1, l1641, ())) (fun y1653 =>
q_81_v1 (((), ()), (y1653.2.1, ())) (fun y1703 =>
let s1704 := y1703.1
κ0 ((s1704, (0, ())), y1653.2.2))))) (fun y1708 =>
let i1709 := y1708.1.2.1
let l1716 := y1708.2.2.2.1
bif (i1709 != 0) then (
κ0 ((⟨#[]⟩, y1708.1.2), x.2)) else (
q_80_v1 (((), (), ()), (y1708.2.1, y1708.2.2.1, l1716, l1641, ())) (fun y1717 =>
let l1724 := y1717.2.2.2.1
let l1725 := y1717.2.2.2.2.1
q_81_v2 (((), ()), (y1717.2.1, y1717.2.2.1, l1725, ())) (fun y1756 =>
let s1757 := y1756.1
κ0 ((s1757, (0, ())), (l1724, ()))))))
def p_82 {R : Type} (N : Nat) (x : (Int × ByteArray × Unit × Unit) × ((List ByteArray) × Unit)) (κ0 : ((ByteArray × (Int × Unit)) × ((List ByteArray) × Unit)) → Option R) : Option R := Q_82 (p_79 N) (p_80_v2 N) (p_81 N) (p_80 N) (p_81_v1 N) (p_80_v1 N) (p_81_v2 N) x κ0
def EG_82 {R : Type} (q_79 : Tp_79 R) (q_80_v2 : Tp_80_v2 R) (q_81 : Tp_81 R) (q_80 : Tp_80 R) (q_81_v1 : Tp_81_v1 R) (q_80_v1 : Tp_80_v1 R) (q_81_v2 : Tp_81_v2 R) : Env R := (((((((Env.base QQ LN AA).add 79 ap_79 hp_79 (fun (x : aden ap_79 × hden hp_79) k => q_79 x (fun y => k (Pat.inst (.tup (.fcons (.nilp) (.fcons (.int .i64) (.fnil)))) y.1) (instH [] y.2)) (fun y => k (Pat.inst (.tup (.fcons (.ptr 0 []) (.fcons (.int .i64) (.fnil)))) y.1) (instH [some (Z4, 178)] y.2)) (fun y => k (Pat.inst (.tup (.fcons (.ptr 0 []) (.fcons (.int .i64) (.fnil)))) y.1) (instH J6 y.2)))).add 80 ap_80_v2 hp_80_v2 (fun (x : aden ap_80_v2 × hden hp_80_v2) k => q_80_v2 x (fun y => k (Pat.inst (.nilp) y.1) (instH [some (.lst (.str), 9)] y.2)))).add 81 ap_81 hp_81 (fun (x : aden ap_81 × hden hp_81) k => q_81 x (fun y => k (Pat.inst (.str) y.1) (instH [] y.2)))).add 80 ap_80 hp_80 (fun (x : aden ap_80 × hden hp_80) k => q_80 x (fun y => k (Pat.inst (.ptr 0 []) y.1) (instH J12 y.2)))).add 81 ap_81_v1 hp_81_v1 (fun (x : aden ap_81_v1 × hden hp_81_v1) k => q_81_v1 x (fun y => k (Pat.inst (.str) y.1) (instH [some (Z4, 178)] y.2)))).add 80 ap_80_v1 hp_80_v1 (fun (x : aden ap_80_v1 × hden hp_80_v1) k => q_80_v1 x (fun y => k (Pat.inst (.ptr 0 []) y.1) (instH J7 y.2)))).add 81 ap_81_v2 hp_81_v2 (fun (x : aden ap_81_v2 × hden hp_81_v2) k => q_81_v2 x (fun y => k (Pat.inst (.str) y.1) (instH J6 y.2)))
def LG_82 {R : Type} : Loops R := Loops.none
def E_82 {R : Type} (N : Nat) : Env R := EG_82 (p_79 N) (p_80_v2 N) (p_81 N) (p_80 N) (p_81_v1 N) (p_80_v1 N) (p_81_v2 N)
theorem eok_82 {R : Type} (N : Nat) : EK Try.prog (E_82 (R := R) N) := ek_add (ek_add (ek_add (ek_add (ek_add (ek_add (ek_add (ek_base _ _ _) (good_79 N)) (good_80_v2 N)) (good_81 N)) (good_80 N)) (good_81_v1 N)) (good_80_v1 N)) (good_81_v2 N)
def L_82 {R : Type} (N : Nat) : Loops R := LG_82
theorem lok_82 {R : Type} (N : Nat) : LOK 1 TT (E_82 (R := R) N) (drawAny TT WW) (L_82 N) (bodyOf Try.f82) := loops_nil (by kernel_rfl)
theorem grun_82 {R : Type} (q_79 : Tp_79 R) (q_80_v2 : Tp_80_v2 R) (q_81 : Tp_81 R) (q_80 : Tp_80 R) (q_81_v1 : Tp_81_v1 R) (q_80_v1 : Tp_80_v1 R) (q_81_v2 : Tp_81_v2 R) (x : aden ap_82 × hden hp_82) (k : KF R) : fnrun TT (EG_82 q_79 q_80_v2 q_81 q_80 q_81_v1 q_80_v1 q_81_v2) (drawAny TT WW) (LG_82) true Try.f82 (instA ap_82 x.1) (instH hp_82 x.2) k = Q_82 q_79 q_80_v2 q_81 q_80 q_81_v1 q_80_v1 q_81_v2 x (fun y => k (Pat.inst (.tup (.fcons (.str) (.fcons (.int .i64) (.fnil)))) y.1) (instH [some (.lst (.str), 9)] y.2)) := by kernel_rfl
theorem run_82 {R : Type} (N : Nat) (x : aden ap_82 × hden hp_82) (k : KF R) : fnrun TT (E_82 (R := R) N) (drawAny TT WW) (L_82 N) true Try.f82 (instA ap_82 x.1) (instH hp_82 x.2) k = p_82 N x (fun y => k (Pat.inst (.tup (.fcons (.str) (.fcons (.int .i64) (.fnil)))) y.1) (instH [some (.lst (.str), 9)] y.2)) := (grun_82 (p_79 N) (p_80_v2 N) (p_81 N) (p_80 N) (p_81_v1 N) (p_80_v1 N) (p_81_v2 N) x k).trans (by kernel_rfl)
theorem good_82 {R : Type} (N : Nat) : GD (X := R) Try.prog QQ AA 82 ap_82 hp_82 (fun (x : aden ap_82 × hden hp_82) k => p_82 N x (fun y => k (Pat.inst (.tup (.fcons (.str) (.fcons (.int .i64) (.fnil)))) y.1) (instH [some (.lst (.str), 9)] y.2))) :=
  gd_loud (E := E_82 N) (p := fun (x : aden ap_82 × hden hp_82) k => p_82 N x (fun y => k (Pat.inst (.tup (.fcons (.str) (.fcons (.int .i64) (.fnil)))) y.1) (instH [some (.lst (.str), 9)] y.2))) mixed tyok (eok_82 N) Try.func82 (by kernel_rfl) (by kernel_rfl) (by kernel_rfl) (by kernel_rfl) (lok_82 N) (fun x k => run_82 N x k)

def ap_98_v2 : List Pat := [.nilp, .ros (.str)]
def hp_98_v2 : List (Option (Pat × Nat)) := []
abbrev Tp_98_v2 (R : Type) : Type := (Unit × (List ByteArray) × Unit) × (Unit) → (((List (List Int)) × (Unit)) → Option R) → Option R
def Q_98_v2 {R : Type} (x : (Unit × (List ByteArray) × Unit) × (Unit)) (κ0 : ((List (List Int)) × (Unit)) → Option R) : Option R :=
κ0 ([], ())
def p_98_v2 {R : Type} (N : Nat) (x : (Unit × (List ByteArray) × Unit) × (Unit)) (κ0 : ((List (List Int)) × (Unit)) → Option R) : Option R := Q_98_v2 x κ0
def EG_98_v2 {R : Type} : Env R := Env.base QQ LN AA
def LG_98_v2 {R : Type} : Loops R := Loops.none
def E_98_v2 {R : Type} (N : Nat) : Env R := EG_98_v2
theorem eok_98_v2 {R : Type} (N : Nat) : EK Try.prog (E_98_v2 (R := R) N) := ek_base _ _ _
def L_98_v2 {R : Type} (N : Nat) : Loops R := LG_98_v2
theorem loops_98_v2 : loopsIn (bodyOf Try.f98) = [(5, loopAt 5 (bodyOf Try.f98)), (9, loopAt 9 (bodyOf Try.f98))] := by kernel_rfl
theorem lok_98_v2 {R : Type} (N : Nat) : LOK 0 TT (E_98_v2 (R := R) N) (drawAny TT WW) (L_98_v2 N) (bodyOf Try.f98) := loops_all loops_98_v2 (by
  simp only [List.forall_mem_cons, List.not_mem_nil, false_implies, implies_true, and_true]
  exact ⟨rounds_none (fun _ _ => rfl), rounds_none (fun _ _ => rfl)⟩)
theorem grun_98_v2 {R : Type} (x : aden ap_98_v2 × hden hp_98_v2) (k : KF R) : fnrun TT (EG_98_v2) (drawAny TT WW) (LG_98_v2) true Try.f98 (instA ap_98_v2 x.1) (instH hp_98_v2 x.2) k = Q_98_v2 x (fun y => k (Pat.inst (.ros (.sl (.int .u8))) y.1) (instH [] y.2)) := by kernel_rfl
theorem run_98_v2 {R : Type} (N : Nat) (x : aden ap_98_v2 × hden hp_98_v2) (k : KF R) : fnrun TT (E_98_v2 (R := R) N) (drawAny TT WW) (L_98_v2 N) true Try.f98 (instA ap_98_v2 x.1) (instH hp_98_v2 x.2) k = p_98_v2 N x (fun y => k (Pat.inst (.ros (.sl (.int .u8))) y.1) (instH [] y.2)) := (grun_98_v2 x k).trans (by kernel_rfl)
theorem good_98_v2 {R : Type} (N : Nat) : GD (X := R) Try.prog QQ AA 98 ap_98_v2 hp_98_v2 (fun (x : aden ap_98_v2 × hden hp_98_v2) k => p_98_v2 N x (fun y => k (Pat.inst (.ros (.sl (.int .u8))) y.1) (instH [] y.2))) :=
  gd_loud (E := E_98_v2 N) (p := fun (x : aden ap_98_v2 × hden hp_98_v2) k => p_98_v2 N x (fun y => k (Pat.inst (.ros (.sl (.int .u8))) y.1) (instH [] y.2))) mixed tyok (eok_98_v2 N) Try.func98 (by kernel_rfl) (by kernel_rfl) (by kernel_rfl) (by kernel_rfl) (lok_98_v2 N) (fun x k => run_98_v2 N x k)

def lv_80_v4_4 : Live := [(0, none), (14, none), (15, none), (16, none)]
def pt_80_v4_4 : SPat := ⟨[(0, .ptr 0 []), (14, .ros (.sl (.int .u8))), (15, .int .i64), (16, .int .i64)], [some (Z4, 178)]⟩
def px_80_v4_4_0 : SPat := ⟨[(0, .ptr 0 [])], [some (Z4, 178)]⟩
def lo_80_v4_4 : Exit → Live
  | .exit 0 => [(0, none)]
  | _ => []
def ap_80_v4 : List Pat := [.ptr 0 [], .ros (.str)]
def hp_80_v4 : List (Option (Pat × Nat)) := [some (Z4, 178)]
abbrev Tl_80_v4_4 (R : Type) : Type := (Y16 × (Y3 × Unit)) → (((Unit × Unit) × (Y3 × Unit)) → Option R) → Option R
abbrev Tp_80_v4 (R : Type) : Type := (Unit × (List ByteArray) × Unit) × (Y3 × Unit) → ((Unit × (Y3 × Unit)) → Option R) → Option R
def C_80_v4_4 {R : Type} (q_99 : Tp_99 R) (rec : (Y16 × (Y3 × Unit)) → Option R) (x : (Y16 × (Y3 × Unit))) (κ0 : ((Unit × Unit) × (Y3 × Unit)) → Option R) : Option R :=
let l1809 := x.1.2.1
let i1810 := x.1.2.2.1
let i1811 := x.1.2.2.2.1
let a1812 := x.2.1.2.1
let i1813 := x.2.1.2.2.1
let i1814 := x.2.1.2.2.2.1
bif (decide (i1811 < i1810)) then (
bif decide (0 ≤ i1811) then (
bif decide (i1811 < ((List.length l1809) : Int)) then (
let p1815 : (List Int) := (List.getD l1809 ((Int.toNat i1811)) (Sch.zero (.sl (.int .u8))))
let i1816 : Int := addA .u64 i1814 128
q_99 ((a1812, p1815, i1816, false, ()), ()) (fun y1817 =>
let a1818 := y1817.1
let i1820 : Int := addA .i64 i1811 1
rec (((), l1809, i1810, i1820, ()), (((), (a1818, (i1813, (i1816, ())))), ())))) else none) else none) else (
κ0 (((), ()), x.2))
def B_80_v4_4 {R : Type} (N : Nat) (rec : (Y16 × (Y3 × Unit)) → Option R) (x : (Y16 × (Y3 × Unit))) (κ0 : ((Unit × Unit) × (Y3 × Unit)) → Option R) : Option R := C_80_v4_4 (p_99 N) rec x κ0
def l_80_v4_4 {R : Type} (N : Nat) : Nat → (Y16 × (Y3 × Unit)) → (((Unit × Unit) × (Y3 × Unit)) → Option R) → Option R
  | 0, _, _ => none
  | n + 1, x, κ0 => B_80_v4_4 N (fun y => l_80_v4_4 N n y κ0) x κ0
def Q_80_v4 {R : Type} (q_98_v2 : Tp_98_v2 R) (q_99 : Tp_99 R) (m_80_v4_4 : Tl_80_v4_4 R) (x : (Unit × (List ByteArray) × Unit) × (Y3 × Unit)) (κ0 : (Unit × (Y3 × Unit)) → Option R) : Option R :=
let l1801 := x.1.2.1
q_98_v2 (((), l1801, ()), ()) (fun y1806 =>
let l1807 := y1806.1
let i1808 : Int := (((List.length l1807) : Nat) : Int)
m_80_v4_4 (((), l1807, i1808, 0, ()), x.2) (fun y1821 =>
κ0 ((), y1821.2)))
def p_80_v4 {R : Type} (N : Nat) (x : (Unit × (List ByteArray) × Unit) × (Y3 × Unit)) (κ0 : (Unit × (Y3 × Unit)) → Option R) : Option R := Q_80_v4 (p_98_v2 N) (p_99 N) (l_80_v4_4 N N) x κ0
def EG_80_v4 {R : Type} (q_98_v2 : Tp_98_v2 R) (q_99 : Tp_99 R) : Env R := ((Env.base QQ LN AA).add 98 ap_98_v2 hp_98_v2 (fun (x : aden ap_98_v2 × hden hp_98_v2) k => q_98_v2 x (fun y => k (Pat.inst (.ros (.sl (.int .u8))) y.1) (instH [] y.2)))).add 99 ap_99 hp_99 (fun (x : aden ap_99 × hden hp_99) k => q_99 x (fun y => k (Pat.inst (.tup (.fcons (.vec (.int .u64) 8) (.fcons (.int .i64) (.fnil)))) y) (instH hp_99 x.2)))
def LG_80_v4 {R : Type} (m_80_v4_4 : Tl_80_v4_4 R) : Loops R := (Loops.none).add 4 (loopBy 1 lv_80_v4_4 pt_80_v4_4 (fun x k => m_80_v4_4 x (fun y => k (.exit 0) (px_80_v4_4_0.inst y))))
def E_80_v4 {R : Type} (N : Nat) : Env R := EG_80_v4 (p_98_v2 N) (p_99 N)
theorem eok_80_v4 {R : Type} (N : Nat) : EK Try.prog (E_80_v4 (R := R) N) := ek_add (ek_add (ek_base _ _ _) (good_98_v2 N)) (good_99 N)
def L_80_v4 {R : Type} (N : Nat) : Loops R := LG_80_v4 (l_80_v4_4 N N)
theorem gstep_80_v4_4 {R : Type} (q_98_v2 : Tp_98_v2 R) (q_99 : Tp_99 R) (m_80_v4_4 : Tl_80_v4_4 R) (n : Nat) (x : pt_80_v4_4.den) (k : Exit → St → Option R) : iter 1 lv_80_v4_4 lo_80_v4_4 (aexec TT (EG_80_v4 q_98_v2 q_99) (drawAny TT WW) (LG_80_v4 m_80_v4_4) (loopAt 4 (bodyOf Try.f80))) (n + 1) (pt_80_v4_4.inst x) k = C_80_v4_4 q_99 (fun y => iter 1 lv_80_v4_4 lo_80_v4_4 (aexec TT (EG_80_v4 q_98_v2 q_99) (drawAny TT WW) (LG_80_v4 m_80_v4_4) (loopAt 4 (bodyOf Try.f80))) n (pt_80_v4_4.inst y) k) x (fun y => k (.exit 0) (px_80_v4_4_0.inst y)) := by kernel_rfl
theorem step_80_v4_4 {R : Type} (N n : Nat) (x : pt_80_v4_4.den) (k : Exit → St → Option R) : iter 1 lv_80_v4_4 lo_80_v4_4 (aexec TT (E_80_v4 (R := R) N) (drawAny TT WW) (L_80_v4 N) (loopAt 4 (bodyOf Try.f80))) (n + 1) (pt_80_v4_4.inst x) k = B_80_v4_4 N (fun y => iter 1 lv_80_v4_4 lo_80_v4_4 (aexec TT (E_80_v4 (R := R) N) (drawAny TT WW) (L_80_v4 N) (loopAt 4 (bodyOf Try.f80))) n (pt_80_v4_4.inst y) k) x (fun y => k (.exit 0) (px_80_v4_4_0.inst y)) := (gstep_80_v4_4 (p_98_v2 N) (p_99 N) (l_80_v4_4 N N) n x k).trans (by kernel_rfl)
theorem eq_80_v4_4 {R : Type} (N : Nat) : ∀ (n : Nat) (x : pt_80_v4_4.den) (k : Exit → St → Option R), iter 1 lv_80_v4_4 lo_80_v4_4 (aexec TT (E_80_v4 (R := R) N) (drawAny TT WW) (L_80_v4 N) (loopAt 4 (bodyOf Try.f80))) n (pt_80_v4_4.inst x) k = l_80_v4_4 N n x (fun y => k (.exit 0) (px_80_v4_4_0.inst y)) :=
  iter_eq (K := Exit → St → Option R) (ks := fun k => k) (l := fun n (x : pt_80_v4_4.den) k => l_80_v4_4 N n x (fun y => k (.exit 0) (px_80_v4_4_0.inst y))) (B := fun (rec : pt_80_v4_4.den → Option R) (x : pt_80_v4_4.den) k => B_80_v4_4 N rec x (fun y => k (.exit 0) (px_80_v4_4_0.inst y))) (fun _ _ => rfl) (fun _ _ _ => rfl) (fun n x k => step_80_v4_4 N n x k)
theorem rounds_80_v4_4 {R : Type} (N : Nat) : Rounds 1 TT (E_80_v4 (R := R) N) (drawAny TT WW) (L_80_v4 N) 4 (loopAt 4 (bodyOf Try.f80)) :=
  rounds_of (p := pt_80_v4_4) (l := fun (x : pt_80_v4_4.den) k => l_80_v4_4 N N x (fun y => k (.exit 0) (px_80_v4_4_0.inst y))) (fun s k => rfl) (fun x k => eq_80_v4_4 N N x k)
theorem loops_80_v4 : loopsIn (bodyOf Try.f80) = [(4, loopAt 4 (bodyOf Try.f80))] := by kernel_rfl
theorem lok_80_v4 {R : Type} (N : Nat) : LOK 1 TT (E_80_v4 (R := R) N) (drawAny TT WW) (L_80_v4 N) (bodyOf Try.f80) := loops_all loops_80_v4 (by
  simp only [List.forall_mem_cons, List.not_mem_nil, false_implies, implies_true, and_true]
  exact rounds_80_v4_4 N)
theorem grun_80_v4 {R : Type} (q_98_v2 : Tp_98_v2 R) (q_99 : Tp_99 R) (m_80_v4_4 : Tl_80_v4_4 R) (x : aden ap_80_v4 × hden hp_80_v4) (k : KF R) : fnrun TT (EG_80_v4 q_98_v2 q_99) (drawAny TT WW) (LG_80_v4 m_80_v4_4) true Try.f80 (instA ap_80_v4 x.1) (instH hp_80_v4 x.2) k = Q_80_v4 q_98_v2 q_99 m_80_v4_4 x (fun y => k (Pat.inst (.ptr 0 []) y.1) (instH [some (Z4, 178)] y.2)) := by kernel_rfl
theorem run_80_v4 {R : Type} (N : Nat) (x : aden ap_80_v4 × hden hp_80_v4) (k : KF R) : fnrun TT (E_80_v4 (R := R) N) (drawAny TT WW) (L_80_v4 N) true Try.f80 (instA ap_80_v4 x.1) (instH hp_80_v4 x.2) k = p_80_v4 N x (fun y => k (Pat.inst (.ptr 0 []) y.1) (instH [some (Z4, 178)] y.2)) := (grun_80_v4 (p_98_v2 N) (p_99 N) (l_80_v4_4 N N) x k).trans (by kernel_rfl)
theorem good_80_v4 {R : Type} (N : Nat) : GD (X := R) Try.prog QQ AA 80 ap_80_v4 hp_80_v4 (fun (x : aden ap_80_v4 × hden hp_80_v4) k => p_80_v4 N x (fun y => k (Pat.inst (.ptr 0 []) y.1) (instH [some (Z4, 178)] y.2))) :=
  gd_loud (E := E_80_v4 N) (p := fun (x : aden ap_80_v4 × hden hp_80_v4) k => p_80_v4 N x (fun y => k (Pat.inst (.ptr 0 []) y.1) (instH [some (Z4, 178)] y.2))) mixed tyok (eok_80_v4 N) Try.func80 (by kernel_rfl) (by kernel_rfl) (by kernel_rfl) (by kernel_rfl) (lok_80_v4 N) (fun x k => run_80_v4 N x k)

def lv_98_v3_9 : Live := [(0, none), (5, some (.sl (.int .u8), 114)), (17, none), (18, none), (19, none)]
def pt_98_v3_9 : SPat := ⟨[(0, .ptr 0 []), (5, .sl 3), (17, .ros (.str)), (18, .int .i64), (19, .int .i64)], [some (Z7, 189), none, some (.lst (.int .u8), 5), some (.lst (.sl (.int .u8)), 114)]⟩
def px_98_v3_9_0 : SPat := ⟨[(0, .ptr 0 []), (5, .sl 3), (17, .ros (.str)), (18, .int .i64), (19, .int .i64)], [some (Z7, 189), none, some (.lst (.int .u8), 5), some (.lst (.sl (.int .u8)), 114)]⟩
def lo_98_v3_9 : Exit → Live
  | .exit 2 => [(0, none), (5, none), (17, none), (18, none), (19, none)]
  | _ => []
def lv_98_v3_5 : Live := [(0, some (.fnil, 2)), (5, some (.sl (.int .u8), 114)), (17, none), (18, none), (19, none)]
def pt_98_v3_5 : SPat := ⟨[(0, .ptr 0 []), (5, .sl 3), (17, .ros (.str)), (18, .int .i64), (19, .int .i64)], [some (Z7, 189), none, some (.lst (.int .u8), 5), some (.lst (.sl (.int .u8)), 114)]⟩
def px_98_v3_5_0 : SPat := ⟨[(0, .ptr 0 []), (5, .sl 3)], [some (Z7, 189), none, some (.lst (.int .u8), 5), some (.lst (.sl (.int .u8)), 114)]⟩
def lo_98_v3_5 : Exit → Live
  | .exit 0 => [(0, none), (5, none)]
  | _ => []
def ap_98_v3 : List Pat := [.ptr 0 [], .ros (.str)]
def hp_98_v3 : List (Option (Pat × Nat)) := J10
abbrev Tl_98_v3_9 (R : Type) : Type := Y10 → (Y10 → Option R) → Option R
abbrev Tl_98_v3_5 (R : Type) : Type := Y10 → (((Unit × Unit × Unit) × (Y2 × (List Int) × (List (List Int)) × Unit)) → Option R) → Option R
abbrev Tp_98_v3 (R : Type) : Type := (Unit × (List ByteArray) × Unit) × (Y2 × (List Int) × Unit) → (((List (List Int)) × (Y2 × (List Int) × Unit)) → Option R) → (((List (List Int)) × (Y2 × (List Int) × Unit)) → Option R) → Option R
def C_98_v3_9 {R : Type} (q_106 : Tp_106 R) (rec : Y10 → Option R) (x : Y10) (κ0 : Y10 → Option R) : Option R :=
let l1995 := x.1.2.2.1
let i1996 := x.1.2.2.2.1
let i1997 := x.1.2.2.2.2.1
let i1998 := x.2.1.1
let l2001 := x.2.2.1
let l2002 := x.2.2.2.1
q_106 (((), ()), (x.2.1, l2001, ())) (fun y2003 =>
let b2004 : Bool := y2003
bif b2004 then (
bif decide (0 ≤ i1998) then (
bif decide (i1998 ≤ (((List.length l2001) : Nat) : Int)) then (
bif decide (0 ≤ i1998) then (
bif decide (List.length ((List.take (((Int.toNat i1998) - 0)) (List.drop 0 l2001))) * 1 ≤ 140737488355328) then (
let l2005 : (List Int) := (List.take (((Int.toNat i1998) - 0)) (List.drop 0 l2001))
let l2006 : (List (List Int)) := [l2005]
bif (decide ((List.length l2002 + List.length l2006) * 24 ≤ 140737488355328) && true) then (
let l2007 : (List (List Int)) := (l2002 ++ l2006)
bif decide (0 ≤ (((List.length l2001) : Nat) : Int)) then (
bif decide ((((List.length l2001) : Nat) : Int) ≤ (((List.length l2001) : Nat) : Int)) then (
bif decide (0 ≤ i1998) then (
bif decide (i1998 ≤ (((List.length l2001) : Nat) : Int)) then (
let l2008 : (List Int) := List.take (((List.length l2001) - (Int.toNat i1998))) (List.drop ((Int.toNat i1998)) l2001)
rec (((), (), l1995, i1996, i1997, ()), (x.2.1, l2008, l2007, ()))) else none) else none) else none) else none) else none) else none) else none) else none) else none) else (
κ0 (((), (), l1995, i1996, i1997, ()), (x.2.1, l2001, l2002, ()))))
def C_98_v3_5 {R : Type} (m_98_v3_9 : Tl_98_v3_9 R) (rec : Y10 → Option R) (x : Y10) (κ0 : ((Unit × Unit × Unit) × (Y2 × (List Int) × (List (List Int)) × Unit)) → Option R) : Option R :=
let l1983 := x.1.2.2.1
let i1984 := x.1.2.2.2.1
let i1985 := x.1.2.2.2.2.1
let i1986 := x.2.1.1
let b1987 := x.2.1.2.1
let i1988 := x.2.1.2.2.2.1
let l1989 := x.2.2.1
let l1990 := x.2.2.2.1
bif (decide (i1985 < i1984)) then (
bif decide (0 ≤ i1985) then (
bif decide (i1985 < ((List.length l1983) : Int)) then (
let p1991 : ByteArray := (List.getD l1983 ((Int.toNat i1985)) (Sch.zero (.str)))
let i1992 : Int := ((ByteArray.size p1991 : Nat) : Int)
let i1993 : Int := addA .i64 i1988 i1992
bif (decide ((List.length l1989 + List.length (strList p1991)) * 1 ≤ 140737488355328) && true) then (
let l1994 : (List Int) := (l1989 ++ strList p1991)
m_98_v3_9 (((), (), l1983, i1984, i1985, ()), ((i1986, (b1987, ((), (i1993, ())))), l1994, l1990, ())) (fun y2009 =>
let l2010 := y2009.1.2.2.1
let i2011 := y2009.1.2.2.2.1
let i2012 := y2009.1.2.2.2.2.1
let l2016 := y2009.2.2.1
let l2017 := y2009.2.2.2.1
let i2018 : Int := addA .i64 i2012 1
rec (((), (), l2010, i2011, i2018, ()), (y2009.2.1, l2016, l2017, ())))) else none) else none) else none) else (
κ0 (((), (), ()), (x.2.1, l1989, l1990, ())))
def B_98_v3_9 {R : Type} (N : Nat) (rec : Y10 → Option R) (x : Y10) (κ0 : Y10 → Option R) : Option R := C_98_v3_9 (p_106 N) rec x κ0
def l_98_v3_9 {R : Type} (N : Nat) : Nat → Y10 → (Y10 → Option R) → Option R
  | 0, _, _ => none
  | n + 1, x, κ0 => B_98_v3_9 N (fun y => l_98_v3_9 N n y κ0) x κ0
def B_98_v3_5 {R : Type} (N : Nat) (rec : Y10 → Option R) (x : Y10) (κ0 : ((Unit × Unit × Unit) × (Y2 × (List Int) × (List (List Int)) × Unit)) → Option R) : Option R := C_98_v3_5 (l_98_v3_9 N N) rec x κ0
def l_98_v3_5 {R : Type} (N : Nat) : Nat → Y10 → (((Unit × Unit × Unit) × (Y2 × (List Int) × (List (List Int)) × Unit)) → Option R) → Option R
  | 0, _, _ => none
  | n + 1, x, κ0 => B_98_v3_5 N (fun y => l_98_v3_5 N n y κ0) x κ0
def Q_98_v3 {R : Type} (q_106 : Tp_106 R) (m_98_v3_9 : Tl_98_v3_9 R) (m_98_v3_5 : Tl_98_v3_5 R) (x : (Unit × (List ByteArray) × Unit) × (Y2 × (List Int) × Unit)) (κ0 : ((List (List Int)) × (Y2 × (List Int) × Unit)) → Option R) (κ1 : ((List (List Int)) × (Y2 × (List Int) × Unit)) → Option R) : Option R :=
let l1894 := x.1.2.1
let i1895 := x.2.1.1
let l1898 := x.2.2.1
bif (i1895 == 0) then (
κ0 ([], (x.2.1, l1898, ()))) else (
let i1899 : Int := (((List.length l1894) : Nat) : Int)
m_98_v3_5 (((), (), l1894, i1899, 0, ()), (x.2.1, l1898, [], ())) (fun y2019 =>
let l2023 := y2019.2.2.1
let l2024 := y2019.2.2.2.1
bif decide (List.length l2023 * 1 ≤ 140737488355328) then (
κ1 (l2024, (y2019.2.1, l2023, ()))) else none))
def p_98_v3 {R : Type} (N : Nat) (x : (Unit × (List ByteArray) × Unit) × (Y2 × (List Int) × Unit)) (κ0 : ((List (List Int)) × (Y2 × (List Int) × Unit)) → Option R) (κ1 : ((List (List Int)) × (Y2 × (List Int) × Unit)) → Option R) : Option R := Q_98_v3 (p_106 N) (l_98_v3_9 N N) (l_98_v3_5 N N) x κ0 κ1
def EG_98_v3 {R : Type} (q_106 : Tp_106 R) : Env R := (Env.base QQ LN AA).add 106 ap_106 hp_106 (fun (x : aden ap_106 × hden hp_106) k => q_106 x (fun y => k (Pat.inst (.bool) y) (instH hp_106 x.2)))
def LG_98_v3 {R : Type} (m_98_v3_9 : Tl_98_v3_9 R) (m_98_v3_5 : Tl_98_v3_5 R) : Loops R := ((Loops.none).add 9 (loopBy 2 lv_98_v3_9 pt_98_v3_9 (fun x k => m_98_v3_9 x (fun y => k (.exit 2) (px_98_v3_9_0.inst y))))).add 5 (loopBy 2 lv_98_v3_5 pt_98_v3_5 (fun x k => m_98_v3_5 x (fun y => k (.exit 0) (px_98_v3_5_0.inst y))))
def E_98_v3 {R : Type} (N : Nat) : Env R := EG_98_v3 (p_106 N)
theorem eok_98_v3 {R : Type} (N : Nat) : EK Try.prog (E_98_v3 (R := R) N) := ek_add (ek_base _ _ _) (good_106 N)
def L_98_v3 {R : Type} (N : Nat) : Loops R := LG_98_v3 (l_98_v3_9 N N) (l_98_v3_5 N N)
theorem gstep_98_v3_9 {R : Type} (q_106 : Tp_106 R) (m_98_v3_9 : Tl_98_v3_9 R) (m_98_v3_5 : Tl_98_v3_5 R) (n : Nat) (x : pt_98_v3_9.den) (k : Exit → St → Option R) : iter 2 lv_98_v3_9 lo_98_v3_9 (aexec TT (EG_98_v3 q_106) (drawAny TT WW) (LG_98_v3 m_98_v3_9 m_98_v3_5) (loopAt 9 (bodyOf Try.f98))) (n + 1) (pt_98_v3_9.inst x) k = C_98_v3_9 q_106 (fun y => iter 2 lv_98_v3_9 lo_98_v3_9 (aexec TT (EG_98_v3 q_106) (drawAny TT WW) (LG_98_v3 m_98_v3_9 m_98_v3_5) (loopAt 9 (bodyOf Try.f98))) n (pt_98_v3_9.inst y) k) x (fun y => k (.exit 2) (px_98_v3_9_0.inst y)) := by kernel_rfl
theorem step_98_v3_9 {R : Type} (N n : Nat) (x : pt_98_v3_9.den) (k : Exit → St → Option R) : iter 2 lv_98_v3_9 lo_98_v3_9 (aexec TT (E_98_v3 (R := R) N) (drawAny TT WW) (L_98_v3 N) (loopAt 9 (bodyOf Try.f98))) (n + 1) (pt_98_v3_9.inst x) k = B_98_v3_9 N (fun y => iter 2 lv_98_v3_9 lo_98_v3_9 (aexec TT (E_98_v3 (R := R) N) (drawAny TT WW) (L_98_v3 N) (loopAt 9 (bodyOf Try.f98))) n (pt_98_v3_9.inst y) k) x (fun y => k (.exit 2) (px_98_v3_9_0.inst y)) := (gstep_98_v3_9 (p_106 N) (l_98_v3_9 N N) (l_98_v3_5 N N) n x k).trans (by kernel_rfl)
theorem eq_98_v3_9 {R : Type} (N : Nat) : ∀ (n : Nat) (x : pt_98_v3_9.den) (k : Exit → St → Option R), iter 2 lv_98_v3_9 lo_98_v3_9 (aexec TT (E_98_v3 (R := R) N) (drawAny TT WW) (L_98_v3 N) (loopAt 9 (bodyOf Try.f98))) n (pt_98_v3_9.inst x) k = l_98_v3_9 N n x (fun y => k (.exit 2) (px_98_v3_9_0.inst y)) :=
  iter_eq (K := Exit → St → Option R) (ks := fun k => k) (l := fun n (x : pt_98_v3_9.den) k => l_98_v3_9 N n x (fun y => k (.exit 2) (px_98_v3_9_0.inst y))) (B := fun (rec : pt_98_v3_9.den → Option R) (x : pt_98_v3_9.den) k => B_98_v3_9 N rec x (fun y => k (.exit 2) (px_98_v3_9_0.inst y))) (fun _ _ => rfl) (fun _ _ _ => rfl) (fun n x k => step_98_v3_9 N n x k)
theorem rounds_98_v3_9 {R : Type} (N : Nat) : Rounds 2 TT (E_98_v3 (R := R) N) (drawAny TT WW) (L_98_v3 N) 9 (loopAt 9 (bodyOf Try.f98)) :=
  rounds_of (p := pt_98_v3_9) (l := fun (x : pt_98_v3_9.den) k => l_98_v3_9 N N x (fun y => k (.exit 2) (px_98_v3_9_0.inst y))) (fun s k => rfl) (fun x k => eq_98_v3_9 N N x k)
theorem gstep_98_v3_5 {R : Type} (q_106 : Tp_106 R) (m_98_v3_9 : Tl_98_v3_9 R) (m_98_v3_5 : Tl_98_v3_5 R) (n : Nat) (x : pt_98_v3_5.den) (k : Exit → St → Option R) : iter 2 lv_98_v3_5 lo_98_v3_5 (aexec TT (EG_98_v3 q_106) (drawAny TT WW) (LG_98_v3 m_98_v3_9 m_98_v3_5) (loopAt 5 (bodyOf Try.f98))) (n + 1) (pt_98_v3_5.inst x) k = C_98_v3_5 m_98_v3_9 (fun y => iter 2 lv_98_v3_5 lo_98_v3_5 (aexec TT (EG_98_v3 q_106) (drawAny TT WW) (LG_98_v3 m_98_v3_9 m_98_v3_5) (loopAt 5 (bodyOf Try.f98))) n (pt_98_v3_5.inst y) k) x (fun y => k (.exit 0) (px_98_v3_5_0.inst y)) := by kernel_rfl
theorem step_98_v3_5 {R : Type} (N n : Nat) (x : pt_98_v3_5.den) (k : Exit → St → Option R) : iter 2 lv_98_v3_5 lo_98_v3_5 (aexec TT (E_98_v3 (R := R) N) (drawAny TT WW) (L_98_v3 N) (loopAt 5 (bodyOf Try.f98))) (n + 1) (pt_98_v3_5.inst x) k = B_98_v3_5 N (fun y => iter 2 lv_98_v3_5 lo_98_v3_5 (aexec TT (E_98_v3 (R := R) N) (drawAny TT WW) (L_98_v3 N) (loopAt 5 (bodyOf Try.f98))) n (pt_98_v3_5.inst y) k) x (fun y => k (.exit 0) (px_98_v3_5_0.inst y)) := (gstep_98_v3_5 (p_106 N) (l_98_v3_9 N N) (l_98_v3_5 N N) n x k).trans (by kernel_rfl)
theorem eq_98_v3_5 {R : Type} (N : Nat) : ∀ (n : Nat) (x : pt_98_v3_5.den) (k : Exit → St → Option R), iter 2 lv_98_v3_5 lo_98_v3_5 (aexec TT (E_98_v3 (R := R) N) (drawAny TT WW) (L_98_v3 N) (loopAt 5 (bodyOf Try.f98))) n (pt_98_v3_5.inst x) k = l_98_v3_5 N n x (fun y => k (.exit 0) (px_98_v3_5_0.inst y)) :=
  iter_eq (K := Exit → St → Option R) (ks := fun k => k) (l := fun n (x : pt_98_v3_5.den) k => l_98_v3_5 N n x (fun y => k (.exit 0) (px_98_v3_5_0.inst y))) (B := fun (rec : pt_98_v3_5.den → Option R) (x : pt_98_v3_5.den) k => B_98_v3_5 N rec x (fun y => k (.exit 0) (px_98_v3_5_0.inst y))) (fun _ _ => rfl) (fun _ _ _ => rfl) (fun n x k => step_98_v3_5 N n x k)
theorem rounds_98_v3_5 {R : Type} (N : Nat) : Rounds 2 TT (E_98_v3 (R := R) N) (drawAny TT WW) (L_98_v3 N) 5 (loopAt 5 (bodyOf Try.f98)) :=
  rounds_of (p := pt_98_v3_5) (l := fun (x : pt_98_v3_5.den) k => l_98_v3_5 N N x (fun y => k (.exit 0) (px_98_v3_5_0.inst y))) (fun s k => rfl) (fun x k => eq_98_v3_5 N N x k)
theorem loops_98_v3 : loopsIn (bodyOf Try.f98) = [(5, loopAt 5 (bodyOf Try.f98)), (9, loopAt 9 (bodyOf Try.f98))] := by kernel_rfl
theorem lok_98_v3 {R : Type} (N : Nat) : LOK 2 TT (E_98_v3 (R := R) N) (drawAny TT WW) (L_98_v3 N) (bodyOf Try.f98) := loops_all loops_98_v3 (by
  simp only [List.forall_mem_cons, List.not_mem_nil, false_implies, implies_true, and_true]
  exact ⟨rounds_98_v3_5 N, rounds_98_v3_9 N⟩)
theorem grun_98_v3 {R : Type} (q_106 : Tp_106 R) (m_98_v3_9 : Tl_98_v3_9 R) (m_98_v3_5 : Tl_98_v3_5 R) (x : aden ap_98_v3 × hden hp_98_v3) (k : KF R) : fnrun TT (EG_98_v3 q_106) (drawAny TT WW) (LG_98_v3 m_98_v3_9 m_98_v3_5) true Try.f98 (instA ap_98_v3 x.1) (instH hp_98_v3 x.2) k = Q_98_v3 q_106 m_98_v3_9 m_98_v3_5 x (fun y => k (Pat.inst (.ros (.sl (.int .u8))) y.1) (instH J10 y.2)) (fun y => k (Pat.inst (.ros (.sl (.int .u8))) y.1) (instH [some (Z7, 189), none, some (.lst (.int .u8), 5)] y.2)) := by kernel_rfl
theorem run_98_v3 {R : Type} (N : Nat) (x : aden ap_98_v3 × hden hp_98_v3) (k : KF R) : fnrun TT (E_98_v3 (R := R) N) (drawAny TT WW) (L_98_v3 N) true Try.f98 (instA ap_98_v3 x.1) (instH hp_98_v3 x.2) k = p_98_v3 N x (fun y => k (Pat.inst (.ros (.sl (.int .u8))) y.1) (instH J10 y.2)) (fun y => k (Pat.inst (.ros (.sl (.int .u8))) y.1) (instH [some (Z7, 189), none, some (.lst (.int .u8), 5)] y.2)) := (grun_98_v3 (p_106 N) (l_98_v3_9 N N) (l_98_v3_5 N N) x k).trans (by kernel_rfl)
theorem good_98_v3 {R : Type} (N : Nat) : GD (X := R) Try.prog QQ AA 98 ap_98_v3 hp_98_v3 (fun (x : aden ap_98_v3 × hden hp_98_v3) k => p_98_v3 N x (fun y => k (Pat.inst (.ros (.sl (.int .u8))) y.1) (instH J10 y.2)) (fun y => k (Pat.inst (.ros (.sl (.int .u8))) y.1) (instH [some (Z7, 189), none, some (.lst (.int .u8), 5)] y.2))) :=
  gd_loud (E := E_98_v3 N) (p := fun (x : aden ap_98_v3 × hden hp_98_v3) k => p_98_v3 N x (fun y => k (Pat.inst (.ros (.sl (.int .u8))) y.1) (instH J10 y.2)) (fun y => k (Pat.inst (.ros (.sl (.int .u8))) y.1) (instH [some (Z7, 189), none, some (.lst (.int .u8), 5)] y.2))) mixed tyok (eok_98_v3 N) Try.func98 (by kernel_rfl) (by kernel_rfl) (by kernel_rfl) (by kernel_rfl) (lok_98_v3 N) (fun x k => run_98_v3 N x k)

def lv_80_v5_4 : Live := [(0, none), (14, none), (15, none), (16, none)]
def pt_80_v5_4 : SPat := ⟨[(0, .ptr 0 []), (14, .ros (.sl (.int .u8))), (15, .int .i64), (16, .int .i64)], J11⟩
def px_80_v5_4_0 : SPat := ⟨[(0, .ptr 0 [])], J11⟩
def lo_80_v5_4 : Exit → Live
  | .exit 0 => [(0, none)]
  | _ => []
def ap_80_v5 : List Pat := [.ptr 0 [], .ros (.str)]
def hp_80_v5 : List (Option (Pat × Nat)) := J6
abbrev Tl_80_v5_4 (R : Type) : Type := (Y16 × Y25) → (((Unit × Unit) × Y25) → Option R) → Option R
abbrev Tp_80_v5 (R : Type) : Type := (Unit × (List ByteArray) × Unit) × Y25 → ((Unit × Y25) → Option R) → Option R
def C_80_v5_4 {R : Type} (q_99 : Tp_99 R) (rec : (Y16 × Y25) → Option R) (x : (Y16 × Y25)) (κ0 : ((Unit × Unit) × Y25) → Option R) : Option R :=
let l2055 := x.1.2.1
let i2056 := x.1.2.2.1
let i2057 := x.1.2.2.2.1
let a2058 := x.2.1.2.1
let i2059 := x.2.1.2.2.1
let i2060 := x.2.1.2.2.2.1
let l2064 := x.2.2.2.1
bif (decide (i2057 < i2056)) then (
bif decide (0 ≤ i2057) then (
bif decide (i2057 < ((List.length l2055) : Int)) then (
let p2065 : (List Int) := (List.getD l2055 ((Int.toNat i2057)) (Sch.zero (.sl (.int .u8))))
let i2066 : Int := addA .u64 i2060 128
q_99 ((a2058, p2065, i2066, false, ()), ()) (fun y2067 =>
let a2068 := y2067.1
let i2070 : Int := addA .i64 i2057 1
rec (((), l2055, i2056, i2070, ()), (((), (a2068, (i2059, (i2066, ())))), x.2.2.1, l2064, ())))) else none) else none) else (
κ0 (((), ()), (x.2.1, x.2.2.1, l2064, ())))
def B_80_v5_4 {R : Type} (N : Nat) (rec : (Y16 × Y25) → Option R) (x : (Y16 × Y25)) (κ0 : ((Unit × Unit) × Y25) → Option R) : Option R := C_80_v5_4 (p_99 N) rec x κ0
def l_80_v5_4 {R : Type} (N : Nat) : Nat → (Y16 × Y25) → (((Unit × Unit) × Y25) → Option R) → Option R
  | 0, _, _ => none
  | n + 1, x, κ0 => B_80_v5_4 N (fun y => l_80_v5_4 N n y κ0) x κ0
def Q_80_v5 {R : Type} (q_98_v3 : Tp_98_v3 R) (q_99 : Tp_99 R) (m_80_v5_4 : Tl_80_v5_4 R) (x : (Unit × (List ByteArray) × Unit) × Y25) (κ0 : (Unit × Y25) → Option R) : Option R :=
let l1886 := x.1.2.1
let l1893 := x.2.2.2.1
q_98_v3 (((), l1886, ()), (x.2.2.1, l1893, ())) (fun y2025 =>
let l2026 := y2025.1
let i2031 : Int := (((List.length l2026) : Nat) : Int)
none) (fun y2048 =>
let l2049 := y2048.1
let l2053 := y2048.2.2.1
let i2054 : Int := (((List.length l2049) : Nat) : Int)
m_80_v5_4 (((), l2049, i2054, 0, ()), (x.2.1, y2048.2.1, l2053, ())) (fun y2071 =>
let l2078 := y2071.2.2.2.1
κ0 ((), (y2071.2.1, y2071.2.2.1, l2078, ()))))
def p_80_v5 {R : Type} (N : Nat) (x : (Unit × (List ByteArray) × Unit) × Y25) (κ0 : (Unit × Y25) → Option R) : Option R := Q_80_v5 (p_98_v3 N) (p_99 N) (l_80_v5_4 N N) x κ0
def EG_80_v5 {R : Type} (q_98_v3 : Tp_98_v3 R) (q_99 : Tp_99 R) : Env R := ((Env.base QQ LN AA).add 98 ap_98_v3 hp_98_v3 (fun (x : aden ap_98_v3 × hden hp_98_v3) k => q_98_v3 x (fun y => k (Pat.inst (.ros (.sl (.int .u8))) y.1) (instH J10 y.2)) (fun y => k (Pat.inst (.ros (.sl (.int .u8))) y.1) (instH [some (Z7, 189), none, some (.lst (.int .u8), 5)] y.2)))).add 99 ap_99 hp_99 (fun (x : aden ap_99 × hden hp_99) k => q_99 x (fun y => k (Pat.inst (.tup (.fcons (.vec (.int .u64) 8) (.fcons (.int .i64) (.fnil)))) y) (instH hp_99 x.2)))
def LG_80_v5 {R : Type} (m_80_v5_4 : Tl_80_v5_4 R) : Loops R := (Loops.none).add 4 (loopBy 3 lv_80_v5_4 pt_80_v5_4 (fun x k => m_80_v5_4 x (fun y => k (.exit 0) (px_80_v5_4_0.inst y))))
def E_80_v5 {R : Type} (N : Nat) : Env R := EG_80_v5 (p_98_v3 N) (p_99 N)
theorem eok_80_v5 {R : Type} (N : Nat) : EK Try.prog (E_80_v5 (R := R) N) := ek_add (ek_add (ek_base _ _ _) (good_98_v3 N)) (good_99 N)
def L_80_v5 {R : Type} (N : Nat) : Loops R := LG_80_v5 (l_80_v5_4 N N)
theorem gstep_80_v5_4 {R : Type} (q_98_v3 : Tp_98_v3 R) (q_99 : Tp_99 R) (m_80_v5_4 : Tl_80_v5_4 R) (n : Nat) (x : pt_80_v5_4.den) (k : Exit → St → Option R) : iter 3 lv_80_v5_4 lo_80_v5_4 (aexec TT (EG_80_v5 q_98_v3 q_99) (drawAny TT WW) (LG_80_v5 m_80_v5_4) (loopAt 4 (bodyOf Try.f80))) (n + 1) (pt_80_v5_4.inst x) k = C_80_v5_4 q_99 (fun y => iter 3 lv_80_v5_4 lo_80_v5_4 (aexec TT (EG_80_v5 q_98_v3 q_99) (drawAny TT WW) (LG_80_v5 m_80_v5_4) (loopAt 4 (bodyOf Try.f80))) n (pt_80_v5_4.inst y) k) x (fun y => k (.exit 0) (px_80_v5_4_0.inst y)) := by kernel_rfl
theorem step_80_v5_4 {R : Type} (N n : Nat) (x : pt_80_v5_4.den) (k : Exit → St → Option R) : iter 3 lv_80_v5_4 lo_80_v5_4 (aexec TT (E_80_v5 (R := R) N) (drawAny TT WW) (L_80_v5 N) (loopAt 4 (bodyOf Try.f80))) (n + 1) (pt_80_v5_4.inst x) k = B_80_v5_4 N (fun y => iter 3 lv_80_v5_4 lo_80_v5_4 (aexec TT (E_80_v5 (R := R) N) (drawAny TT WW) (L_80_v5 N) (loopAt 4 (bodyOf Try.f80))) n (pt_80_v5_4.inst y) k) x (fun y => k (.exit 0) (px_80_v5_4_0.inst y)) := (gstep_80_v5_4 (p_98_v3 N) (p_99 N) (l_80_v5_4 N N) n x k).trans (by kernel_rfl)
theorem eq_80_v5_4 {R : Type} (N : Nat) : ∀ (n : Nat) (x : pt_80_v5_4.den) (k : Exit → St → Option R), iter 3 lv_80_v5_4 lo_80_v5_4 (aexec TT (E_80_v5 (R := R) N) (drawAny TT WW) (L_80_v5 N) (loopAt 4 (bodyOf Try.f80))) n (pt_80_v5_4.inst x) k = l_80_v5_4 N n x (fun y => k (.exit 0) (px_80_v5_4_0.inst y)) :=
  iter_eq (K := Exit → St → Option R) (ks := fun k => k) (l := fun n (x : pt_80_v5_4.den) k => l_80_v5_4 N n x (fun y => k (.exit 0) (px_80_v5_4_0.inst y))) (B := fun (rec : pt_80_v5_4.den → Option R) (x : pt_80_v5_4.den) k => B_80_v5_4 N rec x (fun y => k (.exit 0) (px_80_v5_4_0.inst y))) (fun _ _ => rfl) (fun _ _ _ => rfl) (fun n x k => step_80_v5_4 N n x k)
theorem rounds_80_v5_4 {R : Type} (N : Nat) : Rounds 3 TT (E_80_v5 (R := R) N) (drawAny TT WW) (L_80_v5 N) 4 (loopAt 4 (bodyOf Try.f80)) :=
  rounds_of (p := pt_80_v5_4) (l := fun (x : pt_80_v5_4.den) k => l_80_v5_4 N N x (fun y => k (.exit 0) (px_80_v5_4_0.inst y))) (fun s k => rfl) (fun x k => eq_80_v5_4 N N x k)
theorem loops_80_v5 : loopsIn (bodyOf Try.f80) = [(4, loopAt 4 (bodyOf Try.f80))] := by kernel_rfl
theorem lok_80_v5 {R : Type} (N : Nat) : LOK 3 TT (E_80_v5 (R := R) N) (drawAny TT WW) (L_80_v5 N) (bodyOf Try.f80) := loops_all loops_80_v5 (by
  simp only [List.forall_mem_cons, List.not_mem_nil, false_implies, implies_true, and_true]
  exact rounds_80_v5_4 N)
theorem grun_80_v5 {R : Type} (q_98_v3 : Tp_98_v3 R) (q_99 : Tp_99 R) (m_80_v5_4 : Tl_80_v5_4 R) (x : aden ap_80_v5 × hden hp_80_v5) (k : KF R) : fnrun TT (EG_80_v5 q_98_v3 q_99) (drawAny TT WW) (LG_80_v5 m_80_v5_4) true Try.f80 (instA ap_80_v5 x.1) (instH hp_80_v5 x.2) k = Q_80_v5 q_98_v3 q_99 m_80_v5_4 x (fun y => k (Pat.inst (.ptr 0 []) y.1) (instH J11 y.2)) := by kernel_rfl
theorem run_80_v5 {R : Type} (N : Nat) (x : aden ap_80_v5 × hden hp_80_v5) (k : KF R) : fnrun TT (E_80_v5 (R := R) N) (drawAny TT WW) (L_80_v5 N) true Try.f80 (instA ap_80_v5 x.1) (instH hp_80_v5 x.2) k = p_80_v5 N x (fun y => k (Pat.inst (.ptr 0 []) y.1) (instH J11 y.2)) := (grun_80_v5 (p_98_v3 N) (p_99 N) (l_80_v5_4 N N) x k).trans (by kernel_rfl)
theorem good_80_v5 {R : Type} (N : Nat) : GD (X := R) Try.prog QQ AA 80 ap_80_v5 hp_80_v5 (fun (x : aden ap_80_v5 × hden hp_80_v5) k => p_80_v5 N x (fun y => k (Pat.inst (.ptr 0 []) y.1) (instH J11 y.2))) :=
  gd_loud (E := E_80_v5 N) (p := fun (x : aden ap_80_v5 × hden hp_80_v5) k => p_80_v5 N x (fun y => k (Pat.inst (.ptr 0 []) y.1) (instH J11 y.2))) mixed tyok (eok_80_v5 N) Try.func80 (by kernel_rfl) (by kernel_rfl) (by kernel_rfl) (by kernel_rfl) (lok_80_v5 N) (fun x k => run_80_v5 N x k)

def lv_49_8 : Live := [(0, none), (8, none), (9, none)]
def pt_49_8 : SPat := ⟨[(0, .int .i64), (8, .str), (9, .sl 0)], J4⟩
def px_49_8_0 : SPat := ⟨[(0, .int .i64), (8, .str), (9, .sl 0)], J4⟩
def lo_49_8 : Exit → Live
  | .exit 0 => [(0, none), (8, none), (9, none)]
  | _ => []
def ap_49 : List Pat := [.int .i64, .ros (.str)]
def hp_49 : List (Option (Pat × Nat)) := []
abbrev Tl_49_8 (R : Type) : Type := ((Int × ByteArray × Unit × Unit) × ((List Int) × Unit)) → (((Int × ByteArray × Unit × Unit) × ((List Int) × Unit)) → Option R) → Option R
abbrev Tp_49 (R : Type) : Type := (Int × (List ByteArray) × Unit) × (Unit) → ((ByteArray × (Int × Unit)) → Option R) → Option R
def C_49_8 {R : Type} (q_82 : Tp_82 R) (rec : ((Int × ByteArray × Unit × Unit) × ((List Int) × Unit)) → Option R) (x : ((Int × ByteArray × Unit × Unit) × ((List Int) × Unit))) (κ0 : ((Int × ByteArray × Unit × Unit) × ((List Int) × Unit)) → Option R) : Option R :=
let i2098 := x.1.1
let s2099 := x.1.2.1
let l2100 := x.2.1
let i2101 : Int := (((List.length l2100) : Nat) : Int)
let i2102 : Int := subA .i64 i2098 i2101
bif (decide (i2102 > 64)) then (
let l2103 : (List ByteArray) := [s2099]
q_82 ((64, ⟨#[]⟩, (), ()), (l2103, ())) (fun y2104 =>
let s2105 := y2104.1.1
bif decide (32 ≤ ((ByteArray.size s2105 : Nat) : Int)) then (
let s2108 : ByteArray := ByteArray.extract s2105 0 32
bif (decide ((List.length l2100 + List.length (strList s2108)) * 1 ≤ 140737488355328) && true) then (
let l2109 : (List Int) := (l2100 ++ strList s2108)
rec ((i2098, s2105, (), ()), (l2109, ()))) else none) else none)) else (
κ0 ((i2098, s2099, (), ()), x.2))
def B_49_8 {R : Type} (N : Nat) (rec : ((Int × ByteArray × Unit × Unit) × ((List Int) × Unit)) → Option R) (x : ((Int × ByteArray × Unit × Unit) × ((List Int) × Unit))) (κ0 : ((Int × ByteArray × Unit × Unit) × ((List Int) × Unit)) → Option R) : Option R := C_49_8 (p_82 N) rec x κ0
def l_49_8 {R : Type} (N : Nat) : Nat → ((Int × ByteArray × Unit × Unit) × ((List Int) × Unit)) → (((Int × ByteArray × Unit × Unit) × ((List Int) × Unit)) → Option R) → Option R
  | 0, _, _ => none
  | n + 1, x, κ0 => B_49_8 N (fun y => l_49_8 N n y κ0) x κ0
def Q_49 {R : Type} (q_79 : Tp_79 R) (q_53 : Tp_53 R) (q_80_v2 : Tp_80_v2 R) (q_80_v3 : Tp_80_v3 R) (q_81 : Tp_81 R) (q_82 : Tp_82 R) (q_80 : Tp_80 R) (q_80_v4 : Tp_80_v4 R) (q_81_v1 : Tp_81_v1 R) (q_80_v1 : Tp_80_v1 R) (q_80_v5 : Tp_80_v5 R) (q_81_v2 : Tp_81_v2 R) (m_49_8 : Tl_49_8 R) (x : (Int × (List ByteArray) × Unit) × (Unit)) (κ0 : (ByteArray × (Int × Unit)) → Option R) : Option R :=
let i616 := x.1.1
let l617 := x.1.2.1
bif (decide (i616 < 1)) then (
κ0 ((⟨#[]⟩, (1, ())))) else (
bif (decide (i616 > 65536)) then (
κ0 ((⟨#[]⟩, (1, ())))) else (
let i618 : Int := minA i616 64
q_79 ((i618, ⟨#[]⟩, ()), ()) (fun y1615 =>
let i1617 : Int := IntKind.wrap .u32 i616
let l1618 : (List Int) := [i1617]
q_53 (((), ()), (l1618, ())) (fun y1619 =>
let l1620 := y1619.1
let s1622 : ByteArray := listStr l1620
let l1623 : (List ByteArray) := [s1622]
q_80_v2 (((), (), ()), (l1623, ())) (fun y1625 =>
q_80_v3 (((), l617, ()), ()) (fun y1628 =>
q_81 (((), ()), ()) (fun y1629 =>
let s1630 := y1629.1
bif (decide (i616 ≤ 64)) then (
κ0 ((s1630, (0, ())))) else (
bif decide (32 ≤ ((ByteArray.size s1630 : Nat) : Int)) then (
let s1631 : ByteArray := ByteArray.extract s1630 0 32
bif decide (ByteArray.size s1631 ≤ maxI64) then (
let l1632 : (List Int) := strList s1631
m_49_8 ((i616, s1630, (), ()), (l1632, ())) (fun y1771 =>
let i1772 := y1771.1.1
let s1773 := y1771.1.2.1
let l1774 := y1771.2.1
let i1775 : Int := (((List.length l1774) : Nat) : Int)
let i1776 : Int := subA .i64 i1772 i1775
let l1777 : (List ByteArray) := [s1773]
q_82 ((i1776, ⟨#[]⟩, (), ()), (l1777, ())) (fun y1778 =>
let s1779 := y1778.1.1
bif (decide ((List.length l1774 + List.length (strList s1779)) * 1 ≤ 140737488355328) && true) then (
let l1782 : (List Int) := (l1774 ++ strList s1779)
let s1783 : ByteArray := listStr l1782
κ0 ((s1783, (0, ())))) else none))) else none) else none)))))) (fun y1784 =>
let i1789 : Int := IntKind.wrap .u32 i616
let l1790 : (List Int) := [i1789]
q_53 (((), ()), (l1790, ())) (fun y1791 =>
let l1792 := y1791.1
let s1794 : ByteArray := listStr l1792
let l1795 : (List ByteArray) := [s1794]
q_80 (((), (), ()), (y1784.2.1, l1795, ())) (fun y1796 =>
q_80_v4 (((), l617, ()), (y1796.2.1, ())) (fun y1825 =>
q_81_v1 (((), ()), y1825.2) (fun y1829 =>
let s1830 := y1829.1
bif (decide (i616 ≤ 64)) then (
κ0 ((s1830, (0, ())))) else (
bif decide (32 ≤ ((ByteArray.size s1830 : Nat) : Int)) then (
let s1834 : ByteArray := ByteArray.extract s1830 0 32
bif decide (ByteArray.size s1834 ≤ maxI64) then (
let l1835 : (List Int) := strList s1834
m_49_8 ((i616, s1830, (), ()), (l1835, ())) (fun y1848 =>
let i1849 := y1848.1.1
let s1850 := y1848.1.2.1
let l1851 := y1848.2.1
let i1852 : Int := (((List.length l1851) : Nat) : Int)
let i1853 : Int := subA .i64 i1849 i1852
let l1854 : (List ByteArray) := [s1850]
q_82 ((i1853, ⟨#[]⟩, (), ()), (l1854, ())) (fun y1855 =>
let s1856 := y1855.1.1
bif (decide ((List.length l1851 + List.length (strList s1856)) * 1 ≤ 140737488355328) && true) then (
let l1859 : (List Int) := (l1851 ++ strList s1856)
let s1860 : ByteArray := listStr l1859
κ0 ((s1860, (0, ())))) else none))) else none) else none)))))) (fun y1861 =>
let l1869 := y1861.2.2.2.1
let i1870 : Int := IntKind.wrap .u32 i616
let l1871 : (List Int) := [i1870]
q_53 (((), ()), (l1871, ())) (fun y1872 =>
let l1873 := y1872.1
let s1875 : ByteArray := listStr l1873
let l1876 : (List ByteArray) := [s1875]
q_80_v1 (((), (), ()), (y1861.2.1, y1861.2.2.1, l1869, l1876, ())) (fun y1877 =>
let l1885 := y1877.2.2.2.2.1
q_80_v5 (((), l617, ()), (y1877.2.1, y1877.2.2.1, l1885, ())) (fun y2079 =>
let l2086 := y2079.2.2.2.1
q_81_v2 (((), ()), (y2079.2.1, y2079.2.2.1, l2086, ())) (fun y2087 =>
let s2088 := y2087.1
bif (decide (i616 ≤ 64)) then (
κ0 ((s2088, (0, ())))) else (
bif decide (32 ≤ ((ByteArray.size s2088 : Nat) : Int)) then (
let s2096 : ByteArray := ByteArray.extract s2088 0 32
bif decide (ByteArray.size s2096 ≤ maxI64) then (
let l2097 : (List Int) := strList s2096
m_49_8 ((i616, s2088, (), ()), (l2097, ())) (fun y2110 =>
let i2111 := y2110.1.1
let s2112 := y2110.1.2.1
let l2113 := y2110.2.1
let i2114 : Int := (((List.length l2113) : Nat) : Int)
let i2115 : Int := subA .i64 i2111 i2114
let l2116 : (List ByteArray) := [s2112]
q_82 ((i2115, ⟨#[]⟩, (), ()), (l2116, ())) (fun y2117 =>
let s2118 := y2117.1.1
bif (decide ((List.length l2113 + List.length (strList s2118)) * 1 ≤ 140737488355328) && true) then (
let l2121 : (List Int) := (l2113 ++ strList s2118)
let s2122 : ByteArray := listStr l2121
κ0 ((s2122, (0, ())))) else none))) else none) else none))))))))
def p_49 {R : Type} (N : Nat) (x : (Int × (List ByteArray) × Unit) × (Unit)) (κ0 : (ByteArray × (Int × Unit)) → Option R) : Option R := Q_49 (p_79 N) (p_53 N) (p_80_v2 N) (p_80_v3 N) (p_81 N) (p_82 N) (p_80 N) (p_80_v4 N) (p_81_v1 N) (p_80_v1 N) (p_80_v5 N) (p_81_v2 N) (l_49_8 N N) x κ0
def EG_49 {R : Type} (q_79 : Tp_79 R) (q_53 : Tp_53 R) (q_80_v2 : Tp_80_v2 R) (q_80_v3 : Tp_80_v3 R) (q_81 : Tp_81 R) (q_82 : Tp_82 R) (q_80 : Tp_80 R) (q_80_v4 : Tp_80_v4 R) (q_81_v1 : Tp_81_v1 R) (q_80_v1 : Tp_80_v1 R) (q_80_v5 : Tp_80_v5 R) (q_81_v2 : Tp_81_v2 R) : Env R := ((((((((((((Env.base QQ LN AA).add 79 ap_79 hp_79 (fun (x : aden ap_79 × hden hp_79) k => q_79 x (fun y => k (Pat.inst (.tup (.fcons (.nilp) (.fcons (.int .i64) (.fnil)))) y.1) (instH [] y.2)) (fun y => k (Pat.inst (.tup (.fcons (.ptr 0 []) (.fcons (.int .i64) (.fnil)))) y.1) (instH [some (Z4, 178)] y.2)) (fun y => k (Pat.inst (.tup (.fcons (.ptr 0 []) (.fcons (.int .i64) (.fnil)))) y.1) (instH J6 y.2)))).add 53 ap_53 hp_53 (fun (x : aden ap_53 × hden hp_53) k => q_53 x (fun y => k (Pat.inst (.ros (.int .u8)) y.1) (instH [some (.lst (.int .u32), 78)] y.2)))).add 80 ap_80_v2 hp_80_v2 (fun (x : aden ap_80_v2 × hden hp_80_v2) k => q_80_v2 x (fun y => k (Pat.inst (.nilp) y.1) (instH [some (.lst (.str), 9)] y.2)))).add 80 ap_80_v3 hp_80_v3 (fun (x : aden ap_80_v3 × hden hp_80_v3) k => q_80_v3 x (fun y => k (Pat.inst (.nilp) y.1) (instH [] y.2)))).add 81 ap_81 hp_81 (fun (x : aden ap_81 × hden hp_81) k => q_81 x (fun y => k (Pat.inst (.str) y.1) (instH [] y.2)))).add 82 ap_82 hp_82 (fun (x : aden ap_82 × hden hp_82) k => q_82 x (fun y => k (Pat.inst (.tup (.fcons (.str) (.fcons (.int .i64) (.fnil)))) y.1) (instH [some (.lst (.str), 9)] y.2)))).add 80 ap_80 hp_80 (fun (x : aden ap_80 × hden hp_80) k => q_80 x (fun y => k (Pat.inst (.ptr 0 []) y.1) (instH J12 y.2)))).add 80 ap_80_v4 hp_80_v4 (fun (x : aden ap_80_v4 × hden hp_80_v4) k => q_80_v4 x (fun y => k (Pat.inst (.ptr 0 []) y.1) (instH [some (Z4, 178)] y.2)))).add 81 ap_81_v1 hp_81_v1 (fun (x : aden ap_81_v1 × hden hp_81_v1) k => q_81_v1 x (fun y => k (Pat.inst (.str) y.1) (instH [some (Z4, 178)] y.2)))).add 80 ap_80_v1 hp_80_v1 (fun (x : aden ap_80_v1 × hden hp_80_v1) k => q_80_v1 x (fun y => k (Pat.inst (.ptr 0 []) y.1) (instH J7 y.2)))).add 80 ap_80_v5 hp_80_v5 (fun (x : aden ap_80_v5 × hden hp_80_v5) k => q_80_v5 x (fun y => k (Pat.inst (.ptr 0 []) y.1) (instH J11 y.2)))).add 81 ap_81_v2 hp_81_v2 (fun (x : aden ap_81_v2 × hden hp_81_v2) k => q_81_v2 x (fun y => k (Pat.inst (.str) y.1) (instH J6 y.2)))
def LG_49 {R : Type} (m_49_8 : Tl_49_8 R) : Loops R := (Loops.none).add 8 (loopBy 0 lv_49_8 pt_49_8 (fun x k => m_49_8 x (fun y => k (.exit 0) (px_49_8_0.inst y))))
def E_49 {R : Type} (N : Nat) : Env R := EG_49 (p_79 N) (p_53 N) (p_80_v2 N) (p_80_v3 N) (p_81 N) (p_82 N) (p_80 N) (p_80_v4 N) (p_81_v1 N) (p_80_v1 N) (p_80_v5 N) (p_81_v2 N)
theorem eok_49 {R : Type} (N : Nat) : EK Try.prog (E_49 (R := R) N) := ek_add (ek_add (ek_add (ek_add (ek_add (ek_add (ek_add (ek_add (ek_add (ek_add (ek_add (ek_add (ek_base _ _ _) (good_79 N)) (good_53 N)) (good_80_v2 N)) (good_80_v3 N)) (good_81 N)) (good_82 N)) (good_80 N)) (good_80_v4 N)) (good_81_v1 N)) (good_80_v1 N)) (good_80_v5 N)) (good_81_v2 N)
def L_49 {R : Type} (N : Nat) : Loops R := LG_49 (l_49_8 N N)
theorem gstep_49_8 {R : Type} (q_79 : Tp_79 R) (q_53 : Tp_53 R) (q_80_v2 : Tp_80_v2 R) (q_80_v3 : Tp_80_v3 R) (q_81 : Tp_81 R) (q_82 : Tp_82 R) (q_80 : Tp_80 R) (q_80_v4 : Tp_80_v4 R) (q_81_v1 : Tp_81_v1 R) (q_80_v1 : Tp_80_v1 R) (q_80_v5 : Tp_80_v5 R) (q_81_v2 : Tp_81_v2 R) (m_49_8 : Tl_49_8 R) (n : Nat) (x : pt_49_8.den) (k : Exit → St → Option R) : iter 0 lv_49_8 lo_49_8 (aexec TT (EG_49 q_79 q_53 q_80_v2 q_80_v3 q_81 q_82 q_80 q_80_v4 q_81_v1 q_80_v1 q_80_v5 q_81_v2) (drawAny TT WW) (LG_49 m_49_8) (loopAt 8 (bodyOf Try.f49))) (n + 1) (pt_49_8.inst x) k = C_49_8 q_82 (fun y => iter 0 lv_49_8 lo_49_8 (aexec TT (EG_49 q_79 q_53 q_80_v2 q_80_v3 q_81 q_82 q_80 q_80_v4 q_81_v1 q_80_v1 q_80_v5 q_81_v2) (drawAny TT WW) (LG_49 m_49_8) (loopAt 8 (bodyOf Try.f49))) n (pt_49_8.inst y) k) x (fun y => k (.exit 0) (px_49_8_0.inst y)) := by kernel_rfl
theorem step_49_8 {R : Type} (N n : Nat) (x : pt_49_8.den) (k : Exit → St → Option R) : iter 0 lv_49_8 lo_49_8 (aexec TT (E_49 (R := R) N) (drawAny TT WW) (L_49 N) (loopAt 8 (bodyOf Try.f49))) (n + 1) (pt_49_8.inst x) k = B_49_8 N (fun y => iter 0 lv_49_8 lo_49_8 (aexec TT (E_49 (R := R) N) (drawAny TT WW) (L_49 N) (loopAt 8 (bodyOf Try.f49))) n (pt_49_8.inst y) k) x (fun y => k (.exit 0) (px_49_8_0.inst y)) := (gstep_49_8 (p_79 N) (p_53 N) (p_80_v2 N) (p_80_v3 N) (p_81 N) (p_82 N) (p_80 N) (p_80_v4 N) (p_81_v1 N) (p_80_v1 N) (p_80_v5 N) (p_81_v2 N) (l_49_8 N N) n x k).trans (by kernel_rfl)
theorem eq_49_8 {R : Type} (N : Nat) : ∀ (n : Nat) (x : pt_49_8.den) (k : Exit → St → Option R), iter 0 lv_49_8 lo_49_8 (aexec TT (E_49 (R := R) N) (drawAny TT WW) (L_49 N) (loopAt 8 (bodyOf Try.f49))) n (pt_49_8.inst x) k = l_49_8 N n x (fun y => k (.exit 0) (px_49_8_0.inst y)) :=
  iter_eq (K := Exit → St → Option R) (ks := fun k => k) (l := fun n (x : pt_49_8.den) k => l_49_8 N n x (fun y => k (.exit 0) (px_49_8_0.inst y))) (B := fun (rec : pt_49_8.den → Option R) (x : pt_49_8.den) k => B_49_8 N rec x (fun y => k (.exit 0) (px_49_8_0.inst y))) (fun _ _ => rfl) (fun _ _ _ => rfl) (fun n x k => step_49_8 N n x k)
theorem rounds_49_8 {R : Type} (N : Nat) : Rounds 0 TT (E_49 (R := R) N) (drawAny TT WW) (L_49 N) 8 (loopAt 8 (bodyOf Try.f49)) :=
  rounds_of (p := pt_49_8) (l := fun (x : pt_49_8.den) k => l_49_8 N N x (fun y => k (.exit 0) (px_49_8_0.inst y))) (fun s k => rfl) (fun x k => eq_49_8 N N x k)
theorem loops_49 : loopsIn (bodyOf Try.f49) = [(8, loopAt 8 (bodyOf Try.f49))] := by kernel_rfl
theorem lok_49 {R : Type} (N : Nat) : LOK 0 TT (E_49 (R := R) N) (drawAny TT WW) (L_49 N) (bodyOf Try.f49) := loops_all loops_49 (by
  simp only [List.forall_mem_cons, List.not_mem_nil, false_implies, implies_true, and_true]
  exact rounds_49_8 N)
theorem grun_49 {R : Type} (q_79 : Tp_79 R) (q_53 : Tp_53 R) (q_80_v2 : Tp_80_v2 R) (q_80_v3 : Tp_80_v3 R) (q_81 : Tp_81 R) (q_82 : Tp_82 R) (q_80 : Tp_80 R) (q_80_v4 : Tp_80_v4 R) (q_81_v1 : Tp_81_v1 R) (q_80_v1 : Tp_80_v1 R) (q_80_v5 : Tp_80_v5 R) (q_81_v2 : Tp_81_v2 R) (m_49_8 : Tl_49_8 R) (x : aden ap_49 × hden hp_49) (k : KF R) : fnrun TT (EG_49 q_79 q_53 q_80_v2 q_80_v3 q_81 q_82 q_80 q_80_v4 q_81_v1 q_80_v1 q_80_v5 q_81_v2) (drawAny TT WW) (LG_49 m_49_8) true Try.f49 (instA ap_49 x.1) (instH hp_49 x.2) k = Q_49 q_79 q_53 q_80_v2 q_80_v3 q_81 q_82 q_80 q_80_v4 q_81_v1 q_80_v1 q_80_v5 q_81_v2 m_49_8 x (fun y => k (Pat.inst (.tup (.fcons (.str) (.fcons (.int .i64) (.fnil)))) y) (instH hp_49 x.2)) := by kernel_rfl
theorem run_49 {R : Type} (N : Nat) (x : aden ap_49 × hden hp_49) (k : KF R) : fnrun TT (E_49 (R := R) N) (drawAny TT WW) (L_49 N) true Try.f49 (instA ap_49 x.1) (instH hp_49 x.2) k = p_49 N x (fun y => k (Pat.inst (.tup (.fcons (.str) (.fcons (.int .i64) (.fnil)))) y) (instH hp_49 x.2)) := (grun_49 (p_79 N) (p_53 N) (p_80_v2 N) (p_80_v3 N) (p_81 N) (p_82 N) (p_80 N) (p_80_v4 N) (p_81_v1 N) (p_80_v1 N) (p_80_v5 N) (p_81_v2 N) (l_49_8 N N) x k).trans (by kernel_rfl)
theorem good_49 {R : Type} (N : Nat) : GD (X := R) Try.prog QQ AA 49 ap_49 hp_49 (fun (x : aden ap_49 × hden hp_49) k => p_49 N x (fun y => k (Pat.inst (.tup (.fcons (.str) (.fcons (.int .i64) (.fnil)))) y) (instH hp_49 x.2))) :=
  gd_quiet (E := E_49 N) (p := fun (x : aden ap_49 × hden hp_49) κ => p_49 N x (fun y => κ (Pat.inst (.tup (.fcons (.str) (.fcons (.int .i64) (.fnil)))) y))) mixed tyok (eok_49 N) Try.func49 (by kernel_rfl) (by kernel_rfl) (lok_49 N) (fun x k => run_49 N x k)

def ap_52 : List Pat := [.sl 0]
def hp_52 : List (Option (Pat × Nat)) := [some (.lst (.str), 9)]
abbrev Tp_52 (R : Type) : Type := (Unit × Unit) × ((List ByteArray) × Unit) → (ByteArray → Option R) → Option R
def Q_52 {R : Type} (q_49 : Tp_49 R) (x : (Unit × Unit) × ((List ByteArray) × Unit)) (κ0 : ByteArray → Option R) : Option R :=
let l615 := x.2.1
q_49 ((1024, l615, ()), ()) (fun y2123 =>
let s2124 := y2123.1
κ0 s2124)
def p_52 {R : Type} (N : Nat) (x : (Unit × Unit) × ((List ByteArray) × Unit)) (κ0 : ByteArray → Option R) : Option R := Q_52 (p_49 N) x κ0
def EG_52 {R : Type} (q_49 : Tp_49 R) : Env R := (Env.base QQ LN AA).add 49 ap_49 hp_49 (fun (x : aden ap_49 × hden hp_49) k => q_49 x (fun y => k (Pat.inst (.tup (.fcons (.str) (.fcons (.int .i64) (.fnil)))) y) (instH hp_49 x.2)))
def LG_52 {R : Type} : Loops R := Loops.none
def E_52 {R : Type} (N : Nat) : Env R := EG_52 (p_49 N)
theorem eok_52 {R : Type} (N : Nat) : EK Try.prog (E_52 (R := R) N) := ek_add (ek_base _ _ _) (good_49 N)
def L_52 {R : Type} (N : Nat) : Loops R := LG_52
theorem lok_52 {R : Type} (N : Nat) : LOK 1 TT (E_52 (R := R) N) (drawAny TT WW) (L_52 N) (bodyOf Try.f52) := loops_nil (by kernel_rfl)
theorem grun_52 {R : Type} (q_49 : Tp_49 R) (x : aden ap_52 × hden hp_52) (k : KF R) : fnrun TT (EG_52 q_49) (drawAny TT WW) (LG_52) true Try.f52 (instA ap_52 x.1) (instH hp_52 x.2) k = Q_52 q_49 x (fun y => k (Pat.inst (.str) y) (instH hp_52 x.2)) := by kernel_rfl
theorem run_52 {R : Type} (N : Nat) (x : aden ap_52 × hden hp_52) (k : KF R) : fnrun TT (E_52 (R := R) N) (drawAny TT WW) (L_52 N) true Try.f52 (instA ap_52 x.1) (instH hp_52 x.2) k = p_52 N x (fun y => k (Pat.inst (.str) y) (instH hp_52 x.2)) := (grun_52 (p_49 N) x k).trans (by kernel_rfl)
theorem good_52 {R : Type} (N : Nat) : GD (X := R) Try.prog QQ AA 52 ap_52 hp_52 (fun (x : aden ap_52 × hden hp_52) k => p_52 N x (fun y => k (Pat.inst (.str) y) (instH hp_52 x.2))) :=
  gd_quiet (E := E_52 N) (p := fun (x : aden ap_52 × hden hp_52) κ => p_52 N x (fun y => κ (Pat.inst (.str) y))) mixed tyok (eok_52 N) Try.func52 (by kernel_rfl) (by kernel_rfl) (lok_52 N) (fun x k => run_52 N x k)

def lv_84_v1_5 : Live := [(4, none), (15, none), (16, none), (17, none)]
def pt_84_v1_5 : SPat := ⟨[(4, .sl 1), (15, .sl 0), (16, .int .i64), (17, .int .i64)], [some (.lst (.int .u8), 5), some (.lst (.int .u64), 27)]⟩
def px_84_v1_5_0 : SPat := ⟨[(4, .sl 1)], [some (.lst (.int .u8), 5), some (.lst (.int .u64), 27)]⟩
def lo_84_v1_5 : Exit → Live
  | .exit 0 => [(4, none)]
  | _ => []
def ap_84_v1 : List Pat := [.sl 0]
def hp_84_v1 : List (Option (Pat × Nat)) := J4
abbrev Tl_84_v1_5 (R : Type) : Type := (Y19 × Y12) → (((Unit × Unit) × Y12) → Option R) → Option R
abbrev Tp_84_v1 (R : Type) : Type := (Unit × Unit) × ((List Int) × Unit) → ((((List Int) × (Int × Unit)) × ((List Int) × Unit)) → Option R) → Option R
def C_84_v1_5 {R : Type} (rec : (Y19 × Y12) → Option R) (x : (Y19 × Y12)) (κ0 : ((Unit × Unit) × Y12) → Option R) : Option R :=
let i2139 := x.1.2.2.1
let i2140 := x.1.2.2.2.1
let l2141 := x.2.1
let l2142 := x.2.2.1
bif (decide (i2140 < i2139)) then (
bif decide (0 ≤ i2140) then (
bif decide (i2140 < ((List.length l2141) : Int)) then (
let i2143 : Int := (List.getD l2141 ((Int.toNat i2140)) (Sch.zero (.int .u8)))
let i2144 : Int := quoA .i64 i2140 8
bif decide (0 ≤ i2144) then (
bif decide (i2144 < ((List.length l2142) : Int)) then (
let i2145 : Int := (List.getD l2142 ((Int.toNat i2144)) (Sch.zero (.int .u64)))
let i2146 : Int := IntKind.wrap .u64 i2143
let i2147 : Int := remA .i64 i2140 8
let i2148 : Int := mulA .i64 8 i2147
bif decide (i2148 < 0) then none else (
let i2149 : Int := shlA .u64 i2146 i2148
let i2150 : Int := orA .u64 i2145 i2149
bif decide (0 ≤ i2144) then (
bif decide (i2144 < ((List.length l2142) : Int)) then (
let l2151 : (List Int) := (List.set l2142 ((Int.toNat i2144)) i2150)
let i2152 : Int := addA .i64 i2140 1
rec (((), (), i2139, i2152, ()), (l2141, l2151, ()))) else none) else none)) else none) else none) else none) else none) else (
κ0 (((), ()), (l2141, l2142, ())))
def B_84_v1_5 {R : Type} (N : Nat) (rec : (Y19 × Y12) → Option R) (x : (Y19 × Y12)) (κ0 : ((Unit × Unit) × Y12) → Option R) : Option R := C_84_v1_5 rec x κ0
def l_84_v1_5 {R : Type} (N : Nat) : Nat → (Y19 × Y12) → (((Unit × Unit) × Y12) → Option R) → Option R
  | 0, _, _ => none
  | n + 1, x, κ0 => B_84_v1_5 N (fun y => l_84_v1_5 N n y κ0) x κ0
def Q_84_v1 {R : Type} (m_84_v1_5 : Tl_84_v1_5 R) (x : (Unit × Unit) × ((List Int) × Unit)) (κ0 : (((List Int) × (Int × Unit)) × ((List Int) × Unit)) → Option R) : Option R :=
let l2132 := x.2.1
let i2133 : Int := (((List.length l2132) : Nat) : Int)
let i2134 : Int := remA .i64 i2133 8
bif (i2134 != 0) then (
κ0 (([], (9, ())), x.2)) else (
let i2135 : Int := (((List.length l2132) : Nat) : Int)
let i2136 : Int := quoA .i64 i2135 8
bif decide (0 ≤ i2136) then (
bif decide (i2136 ≤ i2136) then (
bif decide (((8 : Nat) : Int) * i2136 ≤ 281474976710656) then (
bif decide (i2136 ≤ 9223372036854775807) then (
let l2137 : (List Int) := List.replicate ((Int.toNat i2136)) (Sch.zero (.int .u64))
let i2138 : Int := (((List.length l2132) : Nat) : Int)
m_84_v1_5 (((), (), i2138, 0, ()), (l2132, l2137, ())) (fun y2153 =>
let l2154 := y2153.2.1
let l2155 := y2153.2.2.1
κ0 ((l2155, (0, ())), (l2154, ())))) else none) else none) else none) else none)
def p_84_v1 {R : Type} (N : Nat) (x : (Unit × Unit) × ((List Int) × Unit)) (κ0 : (((List Int) × (Int × Unit)) × ((List Int) × Unit)) → Option R) : Option R := Q_84_v1 (l_84_v1_5 N N) x κ0
def EG_84_v1 {R : Type} : Env R := Env.base QQ LN AA
def LG_84_v1 {R : Type} (m_84_v1_5 : Tl_84_v1_5 R) : Loops R := (Loops.none).add 5 (loopBy 1 lv_84_v1_5 pt_84_v1_5 (fun x k => m_84_v1_5 x (fun y => k (.exit 0) (px_84_v1_5_0.inst y))))
def E_84_v1 {R : Type} (N : Nat) : Env R := EG_84_v1
theorem eok_84_v1 {R : Type} (N : Nat) : EK Try.prog (E_84_v1 (R := R) N) := ek_base _ _ _
def L_84_v1 {R : Type} (N : Nat) : Loops R := LG_84_v1 (l_84_v1_5 N N)
theorem gstep_84_v1_5 {R : Type} (m_84_v1_5 : Tl_84_v1_5 R) (n : Nat) (x : pt_84_v1_5.den) (k : Exit → St → Option R) : iter 1 lv_84_v1_5 lo_84_v1_5 (aexec TT (EG_84_v1) (drawAny TT WW) (LG_84_v1 m_84_v1_5) (loopAt 5 (bodyOf Try.f84))) (n + 1) (pt_84_v1_5.inst x) k = C_84_v1_5 (fun y => iter 1 lv_84_v1_5 lo_84_v1_5 (aexec TT (EG_84_v1) (drawAny TT WW) (LG_84_v1 m_84_v1_5) (loopAt 5 (bodyOf Try.f84))) n (pt_84_v1_5.inst y) k) x (fun y => k (.exit 0) (px_84_v1_5_0.inst y)) := by kernel_rfl
theorem step_84_v1_5 {R : Type} (N n : Nat) (x : pt_84_v1_5.den) (k : Exit → St → Option R) : iter 1 lv_84_v1_5 lo_84_v1_5 (aexec TT (E_84_v1 (R := R) N) (drawAny TT WW) (L_84_v1 N) (loopAt 5 (bodyOf Try.f84))) (n + 1) (pt_84_v1_5.inst x) k = B_84_v1_5 N (fun y => iter 1 lv_84_v1_5 lo_84_v1_5 (aexec TT (E_84_v1 (R := R) N) (drawAny TT WW) (L_84_v1 N) (loopAt 5 (bodyOf Try.f84))) n (pt_84_v1_5.inst y) k) x (fun y => k (.exit 0) (px_84_v1_5_0.inst y)) := (gstep_84_v1_5 (l_84_v1_5 N N) n x k).trans (by kernel_rfl)
theorem eq_84_v1_5 {R : Type} (N : Nat) : ∀ (n : Nat) (x : pt_84_v1_5.den) (k : Exit → St → Option R), iter 1 lv_84_v1_5 lo_84_v1_5 (aexec TT (E_84_v1 (R := R) N) (drawAny TT WW) (L_84_v1 N) (loopAt 5 (bodyOf Try.f84))) n (pt_84_v1_5.inst x) k = l_84_v1_5 N n x (fun y => k (.exit 0) (px_84_v1_5_0.inst y)) :=
  iter_eq (K := Exit → St → Option R) (ks := fun k => k) (l := fun n (x : pt_84_v1_5.den) k => l_84_v1_5 N n x (fun y => k (.exit 0) (px_84_v1_5_0.inst y))) (B := fun (rec : pt_84_v1_5.den → Option R) (x : pt_84_v1_5.den) k => B_84_v1_5 N rec x (fun y => k (.exit 0) (px_84_v1_5_0.inst y))) (fun _ _ => rfl) (fun _ _ _ => rfl) (fun n x k => step_84_v1_5 N n x k)
theorem rounds_84_v1_5 {R : Type} (N : Nat) : Rounds 1 TT (E_84_v1 (R := R) N) (drawAny TT WW) (L_84_v1 N) 5 (loopAt 5 (bodyOf Try.f84)) :=
  rounds_of (p := pt_84_v1_5) (l := fun (x : pt_84_v1_5.den) k => l_84_v1_5 N N x (fun y => k (.exit 0) (px_84_v1_5_0.inst y))) (fun s k => rfl) (fun x k => eq_84_v1_5 N N x k)
theorem loops_84_v1 : loopsIn (bodyOf Try.f84) = [(5, loopAt 5 (bodyOf Try.f84))] := by kernel_rfl
theorem lok_84_v1 {R : Type} (N : Nat) : LOK 1 TT (E_84_v1 (R := R) N) (drawAny TT WW) (L_84_v1 N) (bodyOf Try.f84) := loops_all loops_84_v1 (by
  simp only [List.forall_mem_cons, List.not_mem_nil, false_implies, implies_true, and_true]
  exact rounds_84_v1_5 N)
theorem grun_84_v1 {R : Type} (m_84_v1_5 : Tl_84_v1_5 R) (x : aden ap_84_v1 × hden hp_84_v1) (k : KF R) : fnrun TT (EG_84_v1) (drawAny TT WW) (LG_84_v1 m_84_v1_5) true Try.f84 (instA ap_84_v1 x.1) (instH hp_84_v1 x.2) k = Q_84_v1 m_84_v1_5 x (fun y => k (Pat.inst (.tup (.fcons (.ros (.int .u64)) (.fcons (.int .i64) (.fnil)))) y.1) (instH J4 y.2)) := by kernel_rfl
theorem run_84_v1 {R : Type} (N : Nat) (x : aden ap_84_v1 × hden hp_84_v1) (k : KF R) : fnrun TT (E_84_v1 (R := R) N) (drawAny TT WW) (L_84_v1 N) true Try.f84 (instA ap_84_v1 x.1) (instH hp_84_v1 x.2) k = p_84_v1 N x (fun y => k (Pat.inst (.tup (.fcons (.ros (.int .u64)) (.fcons (.int .i64) (.fnil)))) y.1) (instH J4 y.2)) := (grun_84_v1 (l_84_v1_5 N N) x k).trans (by kernel_rfl)
theorem good_84_v1 {R : Type} (N : Nat) : GD (X := R) Try.prog QQ AA 84 ap_84_v1 hp_84_v1 (fun (x : aden ap_84_v1 × hden hp_84_v1) k => p_84_v1 N x (fun y => k (Pat.inst (.tup (.fcons (.ros (.int .u64)) (.fcons (.int .i64) (.fnil)))) y.1) (instH J4 y.2))) :=
  gd_loud (E := E_84_v1 N) (p := fun (x : aden ap_84_v1 × hden hp_84_v1) k => p_84_v1 N x (fun y => k (Pat.inst (.tup (.fcons (.ros (.int .u64)) (.fcons (.int .i64) (.fnil)))) y.1) (instH J4 y.2))) mixed tyok (eok_84_v1 N) Try.func84 (by kernel_rfl) (by kernel_rfl) (by kernel_rfl) (by kernel_rfl) (lok_84_v1 N) (fun x k => run_84_v1 N x k)

end Go.Proofs.Ytfcloeflcpcheaa.Eng
