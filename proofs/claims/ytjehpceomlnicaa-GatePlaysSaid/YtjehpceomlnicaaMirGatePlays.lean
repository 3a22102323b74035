/-
Plain functions that the functions of the program are shown to come to, printed by a program of the prover; each with its proof.
Conditions: none.
-/
import Derived.Test.YtjehpceomlnicaaProg
import Derived.Test.YtjehpceomlnicaaEngY
import Derived.KernelRfl
set_option linter.unusedVariables false
namespace Go.Proofs.Ytjehpceomlnicaa.Eng
def TT : Types := [(3, ⟨.int .i64, 1, 8, .int .i64 0, some (.int .i64), false⟩),
  (44, ⟨.slice 49, 1, 24, .nils, some (.sl (.sl (.int .i64))), false⟩),
  (4, ⟨.bool, 1, 1, .bool false, some (.bool), false⟩),
  (45, ⟨.ptr 146, 1, 8, .nilp, none, false⟩),
  (38, ⟨.int .i64, 1, 8, .int .i64 0, some (.int .i64), false⟩),
  (54, ⟨.slice 4, 1, 24, .nils, some (.sl (.bool)), false⟩),
  (146, ⟨.stru [(54, 0), (3, 1), (3, 2)], 3, 40, .node (.fcons (.nils) (.fcons (.int .i64 0) (.fcons (.int .i64 0) (.fnil)))), some (.stru (.fcons (.sl (.bool)) (.fcons (.int .i64) (.fcons (.int .i64) (.fnil))))), false⟩),
  (49, ⟨.slice 3, 1, 24, .nils, some (.sl (.int .i64)), false⟩),
  (144, ⟨.map 3 4, 1, 8, .nilm, none, false⟩),
  (56, ⟨.stru [(54, 0), (3, 1)], 2, 32, .node (.fcons (.nils) (.fcons (.int .i64 0) (.fnil))), some (.stru (.fcons (.sl (.bool)) (.fcons (.int .i64) (.fnil)))), false⟩)]
theorem tyok : TyOk Try.prog TT := TyOk.of (by kernel_rfl)
theorem mixed : Try.prog.follows .mixedOrders = true := by kernel_rfl
def QQ : FuncId → Bool := fun f => memN [30, 32, 34] f
def LN : FuncId → Bool := fun f => memN [] f
def ap_35 : List Pat := [.int .i64]
def hp_35 : List (Option (Pat × Nat)) := []
def p_35 {R : Type} (N : Nat) (x : (Int × Unit) × (Unit)) (κ0 : ((Unit × (Int × Unit)) × (Unit)) → Option R) (κ1 : ((Unit × (Int × Unit)) × ((Unit × (Int × (Int × Unit))) × (List Bool) × Unit)) → Option R) : Option R :=
let i4 : Int := x.1.1
bif (decide (i4 < 1)) then (
κ0 (((), (1, ())), ())) else (
bif (decide (i4 > 1048576)) then (
κ0 (((), (1, ())), ())) else (
bif decide (0 ≤ i4) then (
bif decide (i4 ≤ i4) then (
bif decide (((1 : Nat) : Int) * i4 ≤ 281474976710656) then (
bif decide (i4 ≤ 9223372036854775807) then (
let l5 : (List Bool) := List.replicate ((Int.toNat i4)) (Sch.zero (.bool))
κ1 (((), (0, ())), (((), (0, (0, ()))), l5, ()))) else none) else none) else none) else none))

abbrev Tp_35 (R : Type) : Type := (Int × Unit) × (Unit) → (((Unit × (Int × Unit)) × (Unit)) → Option R) → (((Unit × (Int × Unit)) × ((Unit × (Int × (Int × Unit))) × (List Bool) × Unit)) → Option R) → Option R
def Q_35 {R : Type} (x : (Int × Unit) × (Unit)) (κ0 : ((Unit × (Int × Unit)) × (Unit)) → Option R) (κ1 : ((Unit × (Int × Unit)) × ((Unit × (Int × (Int × Unit))) × (List Bool) × Unit)) → Option R) : Option R :=
let i4 : Int := x.1.1
bif (decide (i4 < 1)) then (
κ0 (((), (1, ())), ())) else (
bif (decide (i4 > 1048576)) then (
κ0 (((), (1, ())), ())) else (
bif decide (0 ≤ i4) then (
bif decide (i4 ≤ i4) then (
bif decide (((1 : Nat) : Int) * i4 ≤ 281474976710656) then (
bif decide (i4 ≤ 9223372036854775807) then (
let l5 : (List Bool) := List.replicate ((Int.toNat i4)) (Sch.zero (.bool))
κ1 (((), (0, ())), (((), (0, (0, ()))), l5, ()))) else none) else none) else none) else none))
def EG_35 {R : Type} : Env R := Env.base QQ LN
def LG_35 {R : Type} : Loops R := Loops.none
def E_35 {R : Type} (N : Nat) : Env R := EG_35
theorem eok_35 {R : Type} (N : Nat) : EK Try.prog (E_35 (R := R) N) := ek_base _ _
def L_35 {R : Type} (N : Nat) : Loops R := LG_35
theorem lok_35 {R : Type} (N : Nat) : LOK 0 TT (E_35 (R := R) N) (drawOk TT QQ) (L_35 N) (bodyOf Try.f35) := loops_nil (by kernel_rfl)
theorem grun_35 {R : Type} (x : aden ap_35 × hden hp_35) (k : KF R) : fnrun TT (EG_35) (drawOk TT QQ) (LG_35) true Try.f35 (instA ap_35 x.1) (instH hp_35 x.2) k = Q_35 x (fun y => k (Pat.inst (.tup (.fcons (.nilp) (.fcons (.int .i64) (.fnil)))) y.1) (instH [] y.2)) (fun y => k (Pat.inst (.tup (.fcons (.ptr 0 []) (.fcons (.int .i64) (.fnil)))) y.1) (instH [some (.node (.fcons (.sl 1) (.fcons (.int .i64) (.fcons (.int .i64) (.fnil)))), 146), some (.lst (.bool), 4)] y.2)) := by kernel_rfl
theorem run_35 {R : Type} (N : Nat) (x : aden ap_35 × hden hp_35) (k : KF R) : fnrun TT (E_35 (R := R) N) (drawOk TT QQ) (L_35 N) true Try.f35 (instA ap_35 x.1) (instH hp_35 x.2) k = p_35 N x (fun y => k (Pat.inst (.tup (.fcons (.nilp) (.fcons (.int .i64) (.fnil)))) y.1) (instH [] y.2)) (fun y => k (Pat.inst (.tup (.fcons (.ptr 0 []) (.fcons (.int .i64) (.fnil)))) y.1) (instH [some (.node (.fcons (.sl 1) (.fcons (.int .i64) (.fcons (.int .i64) (.fnil)))), 146), some (.lst (.bool), 4)] y.2)) := (grun_35 x k).trans (by kernel_rfl)
theorem good_35 {R : Type} (N : Nat) : GD (X := R) Try.prog QQ 35 ap_35 hp_35 (fun (x : aden ap_35 × hden hp_35) k => p_35 N x (fun y => k (Pat.inst (.tup (.fcons (.nilp) (.fcons (.int .i64) (.fnil)))) y.1) (instH [] y.2)) (fun y => k (Pat.inst (.tup (.fcons (.ptr 0 []) (.fcons (.int .i64) (.fnil)))) y.1) (instH [some (.node (.fcons (.sl 1) (.fcons (.int .i64) (.fcons (.int .i64) (.fnil)))), 146), some (.lst (.bool), 4)] y.2))) :=
  gd_loud (E := E_35 N) (p := fun (x : aden ap_35 × hden hp_35) k => p_35 N x (fun y => k (Pat.inst (.tup (.fcons (.nilp) (.fcons (.int .i64) (.fnil)))) y.1) (instH [] y.2)) (fun y => k (Pat.inst (.tup (.fcons (.ptr 0 []) (.fcons (.int .i64) (.fnil)))) y.1) (instH [some (.node (.fcons (.sl 1) (.fcons (.int .i64) (.fcons (.int .i64) (.fnil)))), 146), some (.lst (.bool), 4)] y.2))) mixed tyok (eok_35 N) Try.func35 (by kernel_rfl) (by kernel_rfl) (by kernel_rfl) (lok_35 N) (fun x k => run_35 N x k)

def ap_31 : List Pat := [.nilp, .sl 0]
def hp_31 : List (Option (Pat × Nat)) := [some (.lst (.int .i64), 3)]
def p_31 {R : Type} (N : Nat) (x : (Unit × Unit × Unit) × ((List Int) × Unit)) (κ0 : ((Bool × (Int × Unit)) × ((List Int) × Unit)) → Option R) : Option R :=
let l9 : (List Int) := x.2.1
κ0 ((false, (11, ())), (l9, ()))

abbrev Tp_31 (R : Type) : Type := (Unit × Unit × Unit) × ((List Int) × Unit) → (((Bool × (Int × Unit)) × ((List Int) × Unit)) → Option R) → Option R
def Q_31 {R : Type} (x : (Unit × Unit × Unit) × ((List Int) × Unit)) (κ0 : ((Bool × (Int × Unit)) × ((List Int) × Unit)) → Option R) : Option R :=
let l9 : (List Int) := x.2.1
κ0 ((false, (11, ())), (l9, ()))
def EG_31 {R : Type} : Env R := Env.base QQ LN
def LG_31 {R : Type} : Loops R := Loops.none
def E_31 {R : Type} (N : Nat) : Env R := EG_31
theorem eok_31 {R : Type} (N : Nat) : EK Try.prog (E_31 (R := R) N) := ek_base _ _
def L_31 {R : Type} (N : Nat) : Loops R := LG_31
theorem loops_31 : loopsIn (bodyOf Try.f31) = [(5, loopAt 5 (bodyOf Try.f31)), (14, loopAt 14 (bodyOf Try.f31))] := by kernel_rfl
theorem lok_31 {R : Type} (N : Nat) : LOK 1 TT (E_31 (R := R) N) (drawOk TT QQ) (L_31 N) (bodyOf Try.f31) := loops_all loops_31 (by
  simp only [List.forall_mem_cons, List.not_mem_nil, false_implies, implies_true, and_true]
  exact ⟨rounds_none (fun _ _ => rfl), rounds_none (fun _ _ => rfl)⟩)
theorem grun_31 {R : Type} (x : aden ap_31 × hden hp_31) (k : KF R) : fnrun TT (EG_31) (drawOk TT QQ) (LG_31) true Try.f31 (instA ap_31 x.1) (instH hp_31 x.2) k = Q_31 x (fun y => k (Pat.inst (.tup (.fcons (.bool) (.fcons (.int .i64) (.fnil)))) y.1) (instH [some (.lst (.int .i64), 3)] y.2)) := by kernel_rfl
theorem run_31 {R : Type} (N : Nat) (x : aden ap_31 × hden hp_31) (k : KF R) : fnrun TT (E_31 (R := R) N) (drawOk TT QQ) (L_31 N) true Try.f31 (instA ap_31 x.1) (instH hp_31 x.2) k = p_31 N x (fun y => k (Pat.inst (.tup (.fcons (.bool) (.fcons (.int .i64) (.fnil)))) y.1) (instH [some (.lst (.int .i64), 3)] y.2)) := (grun_31 x k).trans (by kernel_rfl)
theorem good_31 {R : Type} (N : Nat) : GD (X := R) Try.prog QQ 31 ap_31 hp_31 (fun (x : aden ap_31 × hden hp_31) k => p_31 N x (fun y => k (Pat.inst (.tup (.fcons (.bool) (.fcons (.int .i64) (.fnil)))) y.1) (instH [some (.lst (.int .i64), 3)] y.2))) :=
  gd_loud (E := E_31 N) (p := fun (x : aden ap_31 × hden hp_31) k => p_31 N x (fun y => k (Pat.inst (.tup (.fcons (.bool) (.fcons (.int .i64) (.fnil)))) y.1) (instH [some (.lst (.int .i64), 3)] y.2))) mixed tyok (eok_31 N) Try.func31 (by kernel_rfl) (by kernel_rfl) (by kernel_rfl) (lok_31 N) (fun x k => run_31 N x k)

def ap_32 : List Pat := [.nilp, .int .i64]
def hp_32 : List (Option (Pat × Nat)) := []
def p_32 {R : Type} (N : Nat) (x : (Unit × Int × Unit) × (Unit)) (κ0 : Bool → Option R) : Option R :=
let i24 : Int := x.1.2.1
κ0 false

abbrev Tp_32 (R : Type) : Type := (Unit × Int × Unit) × (Unit) → (Bool → Option R) → Option R
def Q_32 {R : Type} (x : (Unit × Int × Unit) × (Unit)) (κ0 : Bool → Option R) : Option R :=
let i24 : Int := x.1.2.1
κ0 false
def EG_32 {R : Type} : Env R := Env.base QQ LN
def LG_32 {R : Type} : Loops R := Loops.none
def E_32 {R : Type} (N : Nat) : Env R := EG_32
theorem eok_32 {R : Type} (N : Nat) : EK Try.prog (E_32 (R := R) N) := ek_base _ _
def L_32 {R : Type} (N : Nat) : Loops R := LG_32
theorem lok_32 {R : Type} (N : Nat) : LOK 0 TT (E_32 (R := R) N) (drawOk TT QQ) (L_32 N) (bodyOf Try.f32) := loops_nil (by kernel_rfl)
theorem grun_32 {R : Type} (x : aden ap_32 × hden hp_32) (k : KF R) : fnrun TT (EG_32) (drawOk TT QQ) (LG_32) true Try.f32 (instA ap_32 x.1) (instH hp_32 x.2) k = Q_32 x (fun y => k (Pat.inst (.bool) y) (instH hp_32 x.2)) := by kernel_rfl
theorem run_32 {R : Type} (N : Nat) (x : aden ap_32 × hden hp_32) (k : KF R) : fnrun TT (E_32 (R := R) N) (drawOk TT QQ) (L_32 N) true Try.f32 (instA ap_32 x.1) (instH hp_32 x.2) k = p_32 N x (fun y => k (Pat.inst (.bool) y) (instH hp_32 x.2)) := (grun_32 x k).trans (by kernel_rfl)
theorem good_32 {R : Type} (N : Nat) : GD (X := R) Try.prog QQ 32 ap_32 hp_32 (fun (x : aden ap_32 × hden hp_32) k => p_32 N x (fun y => k (Pat.inst (.bool) y) (instH hp_32 x.2))) :=
  gd_quiet (E := E_32 N) (p := fun (x : aden ap_32 × hden hp_32) κ => p_32 N x (fun y => κ (Pat.inst (.bool) y))) mixed tyok (eok_32 N) Try.func32 (by kernel_rfl) (by kernel_rfl) (lok_32 N) (fun x k => run_32 N x k)

def ap_34 : List Pat := [.nilp]
def hp_34 : List (Option (Pat × Nat)) := []
def p_34 {R : Type} (N : Nat) (x : (Unit × Unit) × (Unit)) (κ0 : Int → Option R) : Option R :=
κ0 0

abbrev Tp_34 (R : Type) : Type := (Unit × Unit) × (Unit) → (Int → Option R) → Option R
def Q_34 {R : Type} (x : (Unit × Unit) × (Unit)) (κ0 : Int → Option R) : Option R :=
κ0 0
def EG_34 {R : Type} : Env R := Env.base QQ LN
def LG_34 {R : Type} : Loops R := Loops.none
def E_34 {R : Type} (N : Nat) : Env R := EG_34
theorem eok_34 {R : Type} (N : Nat) : EK Try.prog (E_34 (R := R) N) := ek_base _ _
def L_34 {R : Type} (N : Nat) : Loops R := LG_34
theorem lok_34 {R : Type} (N : Nat) : LOK 0 TT (E_34 (R := R) N) (drawOk TT QQ) (L_34 N) (bodyOf Try.f34) := loops_nil (by kernel_rfl)
theorem grun_34 {R : Type} (x : aden ap_34 × hden hp_34) (k : KF R) : fnrun TT (EG_34) (drawOk TT QQ) (LG_34) true Try.f34 (instA ap_34 x.1) (instH hp_34 x.2) k = Q_34 x (fun y => k (Pat.inst (.int .i64) y) (instH hp_34 x.2)) := by kernel_rfl
theorem run_34 {R : Type} (N : Nat) (x : aden ap_34 × hden hp_34) (k : KF R) : fnrun TT (E_34 (R := R) N) (drawOk TT QQ) (L_34 N) true Try.f34 (instA ap_34 x.1) (instH hp_34 x.2) k = p_34 N x (fun y => k (Pat.inst (.int .i64) y) (instH hp_34 x.2)) := (grun_34 x k).trans (by kernel_rfl)
theorem good_34 {R : Type} (N : Nat) : GD (X := R) Try.prog QQ 34 ap_34 hp_34 (fun (x : aden ap_34 × hden hp_34) k => p_34 N x (fun y => k (Pat.inst (.int .i64) y) (instH hp_34 x.2))) :=
  gd_quiet (E := E_34 N) (p := fun (x : aden ap_34 × hden hp_34) κ => p_34 N x (fun y => κ (Pat.inst (.int .i64) y))) mixed tyok (eok_34 N) Try.func34 (by kernel_rfl) (by kernel_rfl) (lok_34 N) (fun x k => run_34 N x k)

def lv_31_v1_5 : Live := [(0, none), (1, none), (6, none), (14, none), (15, none), (16, none)]
def pt_31_v1_5 : SPat := ⟨[(0, .ptr 0 []), (1, .sl 2), (6, .mp 3), (14, .sl 2), (15, .int .i64), (16, .int .i64)], [some (.node (.fcons (.sl 1) (.fcons (.int .i64) (.fcons (.int .i64) (.fnil)))), 146), some (.lst (.bool), 4), some (.lst (.int .i64), 3), some (.kvs (.int .i64) (.bool), 144)]⟩
def px_31_v1_5_0 : SPat := ⟨[(4, .bool), (5, .int .i64)], [some (.node (.fcons (.sl 1) (.fcons (.int .i64) (.fcons (.int .i64) (.fnil)))), 146), some (.lst (.bool), 4), some (.lst (.int .i64), 3)]⟩
def px_31_v1_5_1 : SPat := ⟨[(0, .ptr 0 []), (1, .sl 2)], [some (.node (.fcons (.sl 1) (.fcons (.int .i64) (.fcons (.int .i64) (.fnil)))), 146), some (.lst (.bool), 4), some (.lst (.int .i64), 3)]⟩
def lo_31_v1_5 : Exit → Live
  | .ret => [(4, none), (5, none)]
  | .exit 0 => [(0, none), (1, none)]
  | _ => []
def B_31_v1_5 {R : Type} (N : Nat) (rec : ((Unit × Unit × Unit × Unit × Int × Int × Unit) × ((Unit × (Int × (Int × Unit))) × (List Bool) × (List Int) × (List (Int × Bool)) × Unit)) → Option R) (x : ((Unit × Unit × Unit × Unit × Int × Int × Unit) × ((Unit × (Int × (Int × Unit))) × (List Bool) × (List Int) × (List (Int × Bool)) × Unit))) (κ0 : ((Bool × Int × Unit) × ((Unit × (Int × (Int × Unit))) × (List Bool) × (List Int) × Unit)) → Option R) (κ1 : ((Unit × Unit × Unit) × ((Unit × (Int × (Int × Unit))) × (List Bool) × (List Int) × Unit)) → Option R) : Option R :=
let i40 : Int := x.1.2.2.2.2.1
let i41 : Int := x.1.2.2.2.2.2.1
let i42 : Int := x.2.1.2.1
let i43 : Int := x.2.1.2.2.1
let l44 : (List Bool) := x.2.2.1
let l45 : (List Int) := x.2.2.2.1
let m46 : (List (Int × Bool)) := x.2.2.2.2.1
bif (decide (i41 < i40)) then (
bif decide (0 ≤ i41) then (
bif decide (i41 < ((List.length l45) : Int)) then (
let i47 : Int := (List.getD l45 ((Int.toNat i41)) (Sch.zero (.int .i64)))
bif (decide (i47 < 0)) then (
κ0 ((false, 1, ()), (((), (i42, (i43, ()))), l44, l45, ()))) else (
let i48 : Int := (((List.length l44) : Nat) : Int)
bif (decide (i47 ≥ i48)) then (
κ0 ((false, 1, ()), (((), (i42, (i43, ()))), l44, l45, ()))) else (
bif decide (0 ≤ i47) then (
bif decide (i47 < ((List.length l44) : Int)) then (
let b49 : Bool := (List.getD l44 ((Int.toNat i47)) (Sch.zero (.bool)))
bif b49 then (
κ0 ((false, 15, ()), (((), (i42, (i43, ()))), l44, l45, ()))) else (
let b50 : Bool := Option.getD (kvGet (.int .i64) i47 m46) (Sch.zero (.bool))
bif b50 then (
κ0 ((false, 15, ()), (((), (i42, (i43, ()))), l44, l45, ()))) else (
let m51 : (List (Int × Bool)) := kvPut (.int .i64) i47 true m46
let i52 : Int := addA .i64 i41 1
rec (((), (), (), (), i40, i52, ()), (((), (i42, (i43, ()))), l44, l45, m51, ()))))) else none) else none))) else none) else none) else (
κ1 (((), (), ()), (((), (i42, (i43, ()))), l44, l45, ())))
def l_31_v1_5 {R : Type} (N : Nat) : Nat → ((Unit × Unit × Unit × Unit × Int × Int × Unit) × ((Unit × (Int × (Int × Unit))) × (List Bool) × (List Int) × (List (Int × Bool)) × Unit)) → (((Bool × Int × Unit) × ((Unit × (Int × (Int × Unit))) × (List Bool) × (List Int) × Unit)) → Option R) → (((Unit × Unit × Unit) × ((Unit × (Int × (Int × Unit))) × (List Bool) × (List Int) × Unit)) → Option R) → Option R
  | 0, _, _, _ => none
  | n + 1, x, κ0, κ1 => B_31_v1_5 N (fun y => l_31_v1_5 N n y κ0 κ1) x κ0 κ1
def lv_31_v1_14 : Live := [(0, none), (48, none), (49, none), (50, none)]
def pt_31_v1_14 : SPat := ⟨[(0, .ptr 0 []), (48, .sl 2), (49, .int .i64), (50, .int .i64)], [some (.node (.fcons (.sl 1) (.fcons (.int .i64) (.fcons (.int .i64) (.fnil)))), 146), some (.lst (.bool), 4), some (.lst (.int .i64), 3)]⟩
def px_31_v1_14_0 : SPat := ⟨[(0, .ptr 0 [])], [some (.node (.fcons (.sl 1) (.fcons (.int .i64) (.fcons (.int .i64) (.fnil)))), 146), some (.lst (.bool), 4), some (.lst (.int .i64), 3)]⟩
def lo_31_v1_14 : Exit → Live
  | .exit 3 => [(0, none)]
  | _ => []
def B_31_v1_14 {R : Type} (N : Nat) (rec : ((Unit × Unit × Int × Int × Unit) × ((Unit × (Int × (Int × Unit))) × (List Bool) × (List Int) × Unit)) → Option R) (x : ((Unit × Unit × Int × Int × Unit) × ((Unit × (Int × (Int × Unit))) × (List Bool) × (List Int) × Unit))) (κ0 : ((Unit × Unit) × ((Unit × (Int × (Int × Unit))) × (List Bool) × (List Int) × Unit)) → Option R) : Option R :=
let i66 : Int := x.1.2.2.1
let i67 : Int := x.1.2.2.2.1
let i68 : Int := x.2.1.2.1
let i69 : Int := x.2.1.2.2.1
let l70 : (List Bool) := x.2.2.1
let l71 : (List Int) := x.2.2.2.1
bif (decide (i67 < i66)) then (
bif decide (0 ≤ i67) then (
bif decide (i67 < ((List.length l71) : Int)) then (
let i72 : Int := (List.getD l71 ((Int.toNat i67)) (Sch.zero (.int .i64)))
bif decide (0 ≤ i72) then (
bif decide (i72 < ((List.length l70) : Int)) then (
let l73 : (List Bool) := (List.set l70 ((Int.toNat i72)) true)
let i74 : Int := addA .i64 i68 1
let i75 : Int := addA .i64 i67 1
rec (((), (), i66, i75, ()), (((), (i74, (i69, ()))), l73, l71, ()))) else none) else none) else none) else none) else (
κ0 (((), ()), (((), (i68, (i69, ()))), l70, l71, ())))
def l_31_v1_14 {R : Type} (N : Nat) : Nat → ((Unit × Unit × Int × Int × Unit) × ((Unit × (Int × (Int × Unit))) × (List Bool) × (List Int) × Unit)) → (((Unit × Unit) × ((Unit × (Int × (Int × Unit))) × (List Bool) × (List Int) × Unit)) → Option R) → Option R
  | 0, _, _ => none
  | n + 1, x, κ0 => B_31_v1_14 N (fun y => l_31_v1_14 N n y κ0) x κ0
def ap_31_v1 : List Pat := [.ptr 0 [], .sl 2]
def hp_31_v1 : List (Option (Pat × Nat)) := [some (.node (.fcons (.sl 1) (.fcons (.int .i64) (.fcons (.int .i64) (.fnil)))), 146), some (.lst (.bool), 4), some (.lst (.int .i64), 3)]
def p_31_v1 {R : Type} (N : Nat) (x : (Unit × Unit × Unit) × ((Unit × (Int × (Int × Unit))) × (List Bool) × (List Int) × Unit)) (κ0 : ((Bool × (Int × Unit)) × ((Unit × (Int × (Int × Unit))) × (List Bool) × (List Int) × Unit)) → Option R) : Option R :=
let i35 : Int := x.2.1.2.1
let i36 : Int := x.2.1.2.2.1
let l37 : (List Bool) := x.2.2.1
let l38 : (List Int) := x.2.2.2.1
let i39 : Int := (((List.length l38) : Nat) : Int)
l_31_v1_5 N N (((), (), (), (), i39, 0, ()), (((), (i35, (i36, ()))), l37, l38, ([] : List (Int × Bool)), ())) (fun y53 =>
let b54 : Bool := y53.1.1
let i55 : Int := y53.1.2.1
let i56 : Int := y53.2.1.2.1
let i57 : Int := y53.2.1.2.2.1
let l58 : (List Bool) := y53.2.2.1
let l59 : (List Int) := y53.2.2.2.1
κ0 ((b54, (i55, ())), (((), (i56, (i57, ()))), l58, l59, ()))) (fun y60 =>
let i61 : Int := y60.2.1.2.1
let i62 : Int := y60.2.1.2.2.1
let l63 : (List Bool) := y60.2.2.1
let l64 : (List Int) := y60.2.2.2.1
let i65 : Int := (((List.length l64) : Nat) : Int)
l_31_v1_14 N N (((), (), i65, 0, ()), (((), (i61, (i62, ()))), l63, l64, ())) (fun y76 =>
let i77 : Int := y76.2.1.2.1
let i78 : Int := y76.2.1.2.2.1
let l79 : (List Bool) := y76.2.2.1
let l80 : (List Int) := y76.2.2.2.1
let i81 : Int := (((List.length l79) : Nat) : Int)
bif (decide (i77 < i81)) then (
κ0 ((false, (0, ())), (((), (i77, (i78, ()))), l79, l80, ()))) else (
let l82 : (List Bool) := List.replicate (List.length l79) (Sch.zero (.bool))
let i83 : Int := addA .i64 i78 1
κ0 ((true, (0, ())), (((), (0, (i83, ()))), l82, l80, ())))))

abbrev Tl_31_v1_5 (R : Type) : Type := ((Unit × Unit × Unit × Unit × Int × Int × Unit) × ((Unit × (Int × (Int × Unit))) × (List Bool) × (List Int) × (List (Int × Bool)) × Unit)) → (((Bool × Int × Unit) × ((Unit × (Int × (Int × Unit))) × (List Bool) × (List Int) × Unit)) → Option R) → (((Unit × Unit × Unit) × ((Unit × (Int × (Int × Unit))) × (List Bool) × (List Int) × Unit)) → Option R) → Option R
abbrev Tl_31_v1_14 (R : Type) : Type := ((Unit × Unit × Int × Int × Unit) × ((Unit × (Int × (Int × Unit))) × (List Bool) × (List Int) × Unit)) → (((Unit × Unit) × ((Unit × (Int × (Int × Unit))) × (List Bool) × (List Int) × Unit)) → Option R) → Option R
abbrev Tp_31_v1 (R : Type) : Type := (Unit × Unit × Unit) × ((Unit × (Int × (Int × Unit))) × (List Bool) × (List Int) × Unit) → (((Bool × (Int × Unit)) × ((Unit × (Int × (Int × Unit))) × (List Bool) × (List Int) × Unit)) → Option R) → Option R
def Q_31_v1 {R : Type} (m_31_v1_5 : Tl_31_v1_5 R) (m_31_v1_14 : Tl_31_v1_14 R) (x : (Unit × Unit × Unit) × ((Unit × (Int × (Int × Unit))) × (List Bool) × (List Int) × Unit)) (κ0 : ((Bool × (Int × Unit)) × ((Unit × (Int × (Int × Unit))) × (List Bool) × (List Int) × Unit)) → Option R) : Option R :=
let i35 : Int := x.2.1.2.1
let i36 : Int := x.2.1.2.2.1
let l37 : (List Bool) := x.2.2.1
let l38 : (List Int) := x.2.2.2.1
let i39 : Int := (((List.length l38) : Nat) : Int)
m_31_v1_5 (((), (), (), (), i39, 0, ()), (((), (i35, (i36, ()))), l37, l38, ([] : List (Int × Bool)), ())) (fun y53 =>
let b54 : Bool := y53.1.1
let i55 : Int := y53.1.2.1
let i56 : Int := y53.2.1.2.1
let i57 : Int := y53.2.1.2.2.1
let l58 : (List Bool) := y53.2.2.1
let l59 : (List Int) := y53.2.2.2.1
κ0 ((b54, (i55, ())), (((), (i56, (i57, ()))), l58, l59, ()))) (fun y60 =>
let i61 : Int := y60.2.1.2.1
let i62 : Int := y60.2.1.2.2.1
let l63 : (List Bool) := y60.2.2.1
let l64 : (List Int) := y60.2.2.2.1
let i65 : Int := (((List.length l64) : Nat) : Int)
m_31_v1_14 (((), (), i65, 0, ()), (((), (i61, (i62, ()))), l63, l64, ())) (fun y76 =>
let i77 : Int := y76.2.1.2.1
let i78 : Int := y76.2.1.2.2.1
let l79 : (List Bool) := y76.2.2.1
let l80 : (List Int) := y76.2.2.2.1
let i81 : Int := (((List.length l79) : Nat) : Int)
bif (decide (i77 < i81)) then (
κ0 ((false, (0, ())), (((), (i77, (i78, ()))), l79, l80, ()))) else (
let l82 : (List Bool) := List.replicate (List.length l79) (Sch.zero (.bool))
let i83 : Int := addA .i64 i78 1
κ0 ((true, (0, ())), (((), (0, (i83, ()))), l82, l80, ())))))
def C_31_v1_5 {R : Type} (m_31_v1_5 : Tl_31_v1_5 R) (m_31_v1_14 : Tl_31_v1_14 R) (rec : ((Unit × Unit × Unit × Unit × Int × Int × Unit) × ((Unit × (Int × (Int × Unit))) × (List Bool) × (List Int) × (List (Int × Bool)) × Unit)) → Option R) (x : ((Unit × Unit × Unit × Unit × Int × Int × Unit) × ((Unit × (Int × (Int × Unit))) × (List Bool) × (List Int) × (List (Int × Bool)) × Unit))) (κ0 : ((Bool × Int × Unit) × ((Unit × (Int × (Int × Unit))) × (List Bool) × (List Int) × Unit)) → Option R) (κ1 : ((Unit × Unit × Unit) × ((Unit × (Int × (Int × Unit))) × (List Bool) × (List Int) × Unit)) → Option R) : Option R :=
let i40 : Int := x.1.2.2.2.2.1
let i41 : Int := x.1.2.2.2.2.2.1
let i42 : Int := x.2.1.2.1
let i43 : Int := x.2.1.2.2.1
let l44 : (List Bool) := x.2.2.1
let l45 : (List Int) := x.2.2.2.1
let m46 : (List (Int × Bool)) := x.2.2.2.2.1
bif (decide (i41 < i40)) then (
bif decide (0 ≤ i41) then (
bif decide (i41 < ((List.length l45) : Int)) then (
let i47 : Int := (List.getD l45 ((Int.toNat i41)) (Sch.zero (.int .i64)))
bif (decide (i47 < 0)) then (
κ0 ((false, 1, ()), (((), (i42, (i43, ()))), l44, l45, ()))) else (
let i48 : Int := (((List.length l44) : Nat) : Int)
bif (decide (i47 ≥ i48)) then (
κ0 ((false, 1, ()), (((), (i42, (i43, ()))), l44, l45, ()))) else (
bif decide (0 ≤ i47) then (
bif decide (i47 < ((List.length l44) : Int)) then (
let b49 : Bool := (List.getD l44 ((Int.toNat i47)) (Sch.zero (.bool)))
bif b49 then (
κ0 ((false, 15, ()), (((), (i42, (i43, ()))), l44, l45, ()))) else (
let b50 : Bool := Option.getD (kvGet (.int .i64) i47 m46) (Sch.zero (.bool))
bif b50 then (
κ0 ((false, 15, ()), (((), (i42, (i43, ()))), l44, l45, ()))) else (
let m51 : (List (Int × Bool)) := kvPut (.int .i64) i47 true m46
let i52 : Int := addA .i64 i41 1
rec (((), (), (), (), i40, i52, ()), (((), (i42, (i43, ()))), l44, l45, m51, ()))))) else none) else none))) else none) else none) else (
κ1 (((), (), ()), (((), (i42, (i43, ()))), l44, l45, ())))
def C_31_v1_14 {R : Type} (m_31_v1_5 : Tl_31_v1_5 R) (m_31_v1_14 : Tl_31_v1_14 R) (rec : ((Unit × Unit × Int × Int × Unit) × ((Unit × (Int × (Int × Unit))) × (List Bool) × (List Int) × Unit)) → Option R) (x : ((Unit × Unit × Int × Int × Unit) × ((Unit × (Int × (Int × Unit))) × (List Bool) × (List Int) × Unit))) (κ0 : ((Unit × Unit) × ((Unit × (Int × (Int × Unit))) × (List Bool) × (List Int) × Unit)) → Option R) : Option R :=
let i66 : Int := x.1.2.2.1
let i67 : Int := x.1.2.2.2.1
let i68 : Int := x.2.1.2.1
let i69 : Int := x.2.1.2.2.1
let l70 : (List Bool) := x.2.2.1
let l71 : (List Int) := x.2.2.2.1
bif (decide (i67 < i66)) then (
bif decide (0 ≤ i67) then (
bif decide (i67 < ((List.length l71) : Int)) then (
let i72 : Int := (List.getD l71 ((Int.toNat i67)) (Sch.zero (.int .i64)))
bif decide (0 ≤ i72) then (
bif decide (i72 < ((List.length l70) : Int)) then (
let l73 : (List Bool) := (List.set l70 ((Int.toNat i72)) true)
let i74 : Int := addA .i64 i68 1
let i75 : Int := addA .i64 i67 1
rec (((), (), i66, i75, ()), (((), (i74, (i69, ()))), l73, l71, ()))) else none) else none) else none) else none) else (
κ0 (((), ()), (((), (i68, (i69, ()))), l70, l71, ())))
def EG_31_v1 {R : Type} : Env R := Env.base QQ LN
def LG_31_v1 {R : Type} (m_31_v1_5 : Tl_31_v1_5 R) (m_31_v1_14 : Tl_31_v1_14 R) : Loops R := ((Loops.none).add 5 (loopBy 3 lv_31_v1_5 pt_31_v1_5 (fun x k => m_31_v1_5 x (fun y => k .ret (px_31_v1_5_0.inst y)) (fun y => k (.exit 0) (px_31_v1_5_1.inst y))))).add 14 (loopBy 3 lv_31_v1_14 pt_31_v1_14 (fun x k => m_31_v1_14 x (fun y => k (.exit 3) (px_31_v1_14_0.inst y))))
def E_31_v1 {R : Type} (N : Nat) : Env R := EG_31_v1
theorem eok_31_v1 {R : Type} (N : Nat) : EK Try.prog (E_31_v1 (R := R) N) := ek_base _ _
def L_31_v1 {R : Type} (N : Nat) : Loops R := LG_31_v1 (l_31_v1_5 N N) (l_31_v1_14 N N)
theorem gstep_31_v1_5 {R : Type} (m_31_v1_5 : Tl_31_v1_5 R) (m_31_v1_14 : Tl_31_v1_14 R) (n : Nat) (x : pt_31_v1_5.den) (k : Exit → St → Option R) : iter 3 lv_31_v1_5 lo_31_v1_5 (aexec TT (EG_31_v1) (drawOk TT QQ) (LG_31_v1 m_31_v1_5 m_31_v1_14) (loopAt 5 (bodyOf Try.f31))) (n + 1) (pt_31_v1_5.inst x) k = C_31_v1_5 m_31_v1_5 m_31_v1_14 (fun y => iter 3 lv_31_v1_5 lo_31_v1_5 (aexec TT (EG_31_v1) (drawOk TT QQ) (LG_31_v1 m_31_v1_5 m_31_v1_14) (loopAt 5 (bodyOf Try.f31))) n (pt_31_v1_5.inst y) k) x (fun y => k .ret (px_31_v1_5_0.inst y)) (fun y => k (.exit 0) (px_31_v1_5_1.inst y)) := by kernel_rfl
theorem step_31_v1_5 {R : Type} (N n : Nat) (x : pt_31_v1_5.den) (k : Exit → St → Option R) : iter 3 lv_31_v1_5 lo_31_v1_5 (aexec TT (E_31_v1 (R := R) N) (drawOk TT QQ) (L_31_v1 N) (loopAt 5 (bodyOf Try.f31))) (n + 1) (pt_31_v1_5.inst x) k = B_31_v1_5 N (fun y => iter 3 lv_31_v1_5 lo_31_v1_5 (aexec TT (E_31_v1 (R := R) N) (drawOk TT QQ) (L_31_v1 N) (loopAt 5 (bodyOf Try.f31))) n (pt_31_v1_5.inst y) k) x (fun y => k .ret (px_31_v1_5_0.inst y)) (fun y => k (.exit 0) (px_31_v1_5_1.inst y)) := (gstep_31_v1_5 (l_31_v1_5 N N) (l_31_v1_14 N N) n x k).trans (by kernel_rfl)
theorem eq_31_v1_5 {R : Type} (N : Nat) : ∀ (n : Nat) (x : pt_31_v1_5.den) (k : Exit → St → Option R), iter 3 lv_31_v1_5 lo_31_v1_5 (aexec TT (E_31_v1 (R := R) N) (drawOk TT QQ) (L_31_v1 N) (loopAt 5 (bodyOf Try.f31))) n (pt_31_v1_5.inst x) k = l_31_v1_5 N n x (fun y => k .ret (px_31_v1_5_0.inst y)) (fun y => k (.exit 0) (px_31_v1_5_1.inst y)) :=
  iter_eq (K := Exit → St → Option R) (ks := fun k => k) (l := fun n (x : pt_31_v1_5.den) k => l_31_v1_5 N n x (fun y => k .ret (px_31_v1_5_0.inst y)) (fun y => k (.exit 0) (px_31_v1_5_1.inst y))) (B := fun (rec : pt_31_v1_5.den → Option R) (x : pt_31_v1_5.den) k => B_31_v1_5 N rec x (fun y => k .ret (px_31_v1_5_0.inst y)) (fun y => k (.exit 0) (px_31_v1_5_1.inst y))) (fun _ _ => rfl) (fun _ _ _ => rfl) (fun n x k => step_31_v1_5 N n x k)
theorem rounds_31_v1_5 {R : Type} (N : Nat) : Rounds 3 TT (E_31_v1 (R := R) N) (drawOk TT QQ) (L_31_v1 N) 5 (loopAt 5 (bodyOf Try.f31)) :=
  rounds_of (p := pt_31_v1_5) (l := fun (x : pt_31_v1_5.den) k => l_31_v1_5 N N x (fun y => k .ret (px_31_v1_5_0.inst y)) (fun y => k (.exit 0) (px_31_v1_5_1.inst y))) (fun s k => rfl) (fun x k => eq_31_v1_5 N N x k)
theorem gstep_31_v1_14 {R : Type} (m_31_v1_5 : Tl_31_v1_5 R) (m_31_v1_14 : Tl_31_v1_14 R) (n : Nat) (x : pt_31_v1_14.den) (k : Exit → St → Option R) : iter 3 lv_31_v1_14 lo_31_v1_14 (aexec TT (EG_31_v1) (drawOk TT QQ) (LG_31_v1 m_31_v1_5 m_31_v1_14) (loopAt 14 (bodyOf Try.f31))) (n + 1) (pt_31_v1_14.inst x) k = C_31_v1_14 m_31_v1_5 m_31_v1_14 (fun y => iter 3 lv_31_v1_14 lo_31_v1_14 (aexec TT (EG_31_v1) (drawOk TT QQ) (LG_31_v1 m_31_v1_5 m_31_v1_14) (loopAt 14 (bodyOf Try.f31))) n (pt_31_v1_14.inst y) k) x (fun y => k (.exit 3) (px_31_v1_14_0.inst y)) := by kernel_rfl
theorem step_31_v1_14 {R : Type} (N n : Nat) (x : pt_31_v1_14.den) (k : Exit → St → Option R) : iter 3 lv_31_v1_14 lo_31_v1_14 (aexec TT (E_31_v1 (R := R) N) (drawOk TT QQ) (L_31_v1 N) (loopAt 14 (bodyOf Try.f31))) (n + 1) (pt_31_v1_14.inst x) k = B_31_v1_14 N (fun y => iter 3 lv_31_v1_14 lo_31_v1_14 (aexec TT (E_31_v1 (R := R) N) (drawOk TT QQ) (L_31_v1 N) (loopAt 14 (bodyOf Try.f31))) n (pt_31_v1_14.inst y) k) x (fun y => k (.exit 3) (px_31_v1_14_0.inst y)) := (gstep_31_v1_14 (l_31_v1_5 N N) (l_31_v1_14 N N) n x k).trans (by kernel_rfl)
theorem eq_31_v1_14 {R : Type} (N : Nat) : ∀ (n : Nat) (x : pt_31_v1_14.den) (k : Exit → St → Option R), iter 3 lv_31_v1_14 lo_31_v1_14 (aexec TT (E_31_v1 (R := R) N) (drawOk TT QQ) (L_31_v1 N) (loopAt 14 (bodyOf Try.f31))) n (pt_31_v1_14.inst x) k = l_31_v1_14 N n x (fun y => k (.exit 3) (px_31_v1_14_0.inst y)) :=
  iter_eq (K := Exit → St → Option R) (ks := fun k => k) (l := fun n (x : pt_31_v1_14.den) k => l_31_v1_14 N n x (fun y => k (.exit 3) (px_31_v1_14_0.inst y))) (B := fun (rec : pt_31_v1_14.den → Option R) (x : pt_31_v1_14.den) k => B_31_v1_14 N rec x (fun y => k (.exit 3) (px_31_v1_14_0.inst y))) (fun _ _ => rfl) (fun _ _ _ => rfl) (fun n x k => step_31_v1_14 N n x k)
theorem rounds_31_v1_14 {R : Type} (N : Nat) : Rounds 3 TT (E_31_v1 (R := R) N) (drawOk TT QQ) (L_31_v1 N) 14 (loopAt 14 (bodyOf Try.f31)) :=
  rounds_of (p := pt_31_v1_14) (l := fun (x : pt_31_v1_14.den) k => l_31_v1_14 N N x (fun y => k (.exit 3) (px_31_v1_14_0.inst y))) (fun s k => rfl) (fun x k => eq_31_v1_14 N N x k)
theorem loops_31_v1 : loopsIn (bodyOf Try.f31) = [(5, loopAt 5 (bodyOf Try.f31)), (14, loopAt 14 (bodyOf Try.f31))] := by kernel_rfl
theorem lok_31_v1 {R : Type} (N : Nat) : LOK 3 TT (E_31_v1 (R := R) N) (drawOk TT QQ) (L_31_v1 N) (bodyOf Try.f31) := loops_all loops_31_v1 (by
  simp only [List.forall_mem_cons, List.not_mem_nil, false_implies, implies_true, and_true]
  exact ⟨rounds_31_v1_5 N, rounds_31_v1_14 N⟩)
theorem grun_31_v1 {R : Type} (m_31_v1_5 : Tl_31_v1_5 R) (m_31_v1_14 : Tl_31_v1_14 R) (x : aden ap_31_v1 × hden hp_31_v1) (k : KF R) : fnrun TT (EG_31_v1) (drawOk TT QQ) (LG_31_v1 m_31_v1_5 m_31_v1_14) true Try.f31 (instA ap_31_v1 x.1) (instH hp_31_v1 x.2) k = Q_31_v1 m_31_v1_5 m_31_v1_14 x (fun y => k (Pat.inst (.tup (.fcons (.bool) (.fcons (.int .i64) (.fnil)))) y.1) (instH [some (.node (.fcons (.sl 1) (.fcons (.int .i64) (.fcons (.int .i64) (.fnil)))), 146), some (.lst (.bool), 4), some (.lst (.int .i64), 3)] y.2)) := by kernel_rfl
theorem run_31_v1 {R : Type} (N : Nat) (x : aden ap_31_v1 × hden hp_31_v1) (k : KF R) : fnrun TT (E_31_v1 (R := R) N) (drawOk TT QQ) (L_31_v1 N) true Try.f31 (instA ap_31_v1 x.1) (instH hp_31_v1 x.2) k = p_31_v1 N x (fun y => k (Pat.inst (.tup (.fcons (.bool) (.fcons (.int .i64) (.fnil)))) y.1) (instH [some (.node (.fcons (.sl 1) (.fcons (.int .i64) (.fcons (.int .i64) (.fnil)))), 146), some (.lst (.bool), 4), some (.lst (.int .i64), 3)] y.2)) := (grun_31_v1 (l_31_v1_5 N N) (l_31_v1_14 N N) x k).trans (by kernel_rfl)
theorem good_31_v1 {R : Type} (N : Nat) : GD (X := R) Try.prog QQ 31 ap_31_v1 hp_31_v1 (fun (x : aden ap_31_v1 × hden hp_31_v1) k => p_31_v1 N x (fun y => k (Pat.inst (.tup (.fcons (.bool) (.fcons (.int .i64) (.fnil)))) y.1) (instH [some (.node (.fcons (.sl 1) (.fcons (.int .i64) (.fcons (.int .i64) (.fnil)))), 146), some (.lst (.bool), 4), some (.lst (.int .i64), 3)] y.2))) :=
  gd_loud (E := E_31_v1 N) (p := fun (x : aden ap_31_v1 × hden hp_31_v1) k => p_31_v1 N x (fun y => k (Pat.inst (.tup (.fcons (.bool) (.fcons (.int .i64) (.fnil)))) y.1) (instH [some (.node (.fcons (.sl 1) (.fcons (.int .i64) (.fcons (.int .i64) (.fnil)))), 146), some (.lst (.bool), 4), some (.lst (.int .i64), 3)] y.2))) mixed tyok (eok_31_v1 N) Try.func31 (by kernel_rfl) (by kernel_rfl) (by kernel_rfl) (lok_31_v1 N) (fun x k => run_31_v1 N x k)

def ap_32_v1 : List Pat := [.ptr 0 [], .int .i64]
def hp_32_v1 : List (Option (Pat × Nat)) := [some (.node (.fcons (.sl 1) (.fcons (.int .i64) (.fcons (.int .i64) (.fnil)))), 146), some (.lst (.bool), 4)]
def p_32_v1 {R : Type} (N : Nat) (x : (Unit × Int × Unit) × ((Unit × (Int × (Int × Unit))) × (List Bool) × Unit)) (κ0 : Bool → Option R) : Option R :=
let i107 : Int := x.1.2.1
let i108 : Int := x.2.1.2.1
let i109 : Int := x.2.1.2.2.1
let l110 : (List Bool) := x.2.2.1
bif (decide (i107 ≥ 0)) then (
let i111 : Int := (((List.length l110) : Nat) : Int)
bif (decide (i107 < i111)) then (
bif decide (0 ≤ i107) then (
bif decide (i107 < ((List.length l110) : Int)) then (
let b112 : Bool := (List.getD l110 ((Int.toNat i107)) (Sch.zero (.bool)))
κ0 b112) else none) else none) else (
κ0 false)) else (
κ0 false)

abbrev Tp_32_v1 (R : Type) : Type := (Unit × Int × Unit) × ((Unit × (Int × (Int × Unit))) × (List Bool) × Unit) → (Bool → Option R) → Option R
def Q_32_v1 {R : Type} (x : (Unit × Int × Unit) × ((Unit × (Int × (Int × Unit))) × (List Bool) × Unit)) (κ0 : Bool → Option R) : Option R :=
let i107 : Int := x.1.2.1
let i108 : Int := x.2.1.2.1
let i109 : Int := x.2.1.2.2.1
let l110 : (List Bool) := x.2.2.1
bif (decide (i107 ≥ 0)) then (
let i111 : Int := (((List.length l110) : Nat) : Int)
bif (decide (i107 < i111)) then (
bif decide (0 ≤ i107) then (
bif decide (i107 < ((List.length l110) : Int)) then (
let b112 : Bool := (List.getD l110 ((Int.toNat i107)) (Sch.zero (.bool)))
κ0 b112) else none) else none) else (
κ0 false)) else (
κ0 false)
def EG_32_v1 {R : Type} : Env R := Env.base QQ LN
def LG_32_v1 {R : Type} : Loops R := Loops.none
def E_32_v1 {R : Type} (N : Nat) : Env R := EG_32_v1
theorem eok_32_v1 {R : Type} (N : Nat) : EK Try.prog (E_32_v1 (R := R) N) := ek_base _ _
def L_32_v1 {R : Type} (N : Nat) : Loops R := LG_32_v1
theorem lok_32_v1 {R : Type} (N : Nat) : LOK 2 TT (E_32_v1 (R := R) N) (drawOk TT QQ) (L_32_v1 N) (bodyOf Try.f32) := loops_nil (by kernel_rfl)
theorem grun_32_v1 {R : Type} (x : aden ap_32_v1 × hden hp_32_v1) (k : KF R) : fnrun TT (EG_32_v1) (drawOk TT QQ) (LG_32_v1) true Try.f32 (instA ap_32_v1 x.1) (instH hp_32_v1 x.2) k = Q_32_v1 x (fun y => k (Pat.inst (.bool) y) (instH hp_32_v1 x.2)) := by kernel_rfl
theorem run_32_v1 {R : Type} (N : Nat) (x : aden ap_32_v1 × hden hp_32_v1) (k : KF R) : fnrun TT (E_32_v1 (R := R) N) (drawOk TT QQ) (L_32_v1 N) true Try.f32 (instA ap_32_v1 x.1) (instH hp_32_v1 x.2) k = p_32_v1 N x (fun y => k (Pat.inst (.bool) y) (instH hp_32_v1 x.2)) := (grun_32_v1 x k).trans (by kernel_rfl)
theorem good_32_v1 {R : Type} (N : Nat) : GD (X := R) Try.prog QQ 32 ap_32_v1 hp_32_v1 (fun (x : aden ap_32_v1 × hden hp_32_v1) k => p_32_v1 N x (fun y => k (Pat.inst (.bool) y) (instH hp_32_v1 x.2))) :=
  gd_quiet (E := E_32_v1 N) (p := fun (x : aden ap_32_v1 × hden hp_32_v1) κ => p_32_v1 N x (fun y => κ (Pat.inst (.bool) y))) mixed tyok (eok_32_v1 N) Try.func32 (by kernel_rfl) (by kernel_rfl) (lok_32_v1 N) (fun x k => run_32_v1 N x k)

def ap_34_v1 : List Pat := [.ptr 0 []]
def hp_34_v1 : List (Option (Pat × Nat)) := [some (.node (.fcons (.sl 1) (.fcons (.int .i64) (.fcons (.int .i64) (.fnil)))), 146), some (.lst (.bool), 4)]
def p_34_v1 {R : Type} (N : Nat) (x : (Unit × Unit) × ((Unit × (Int × (Int × Unit))) × (List Bool) × Unit)) (κ0 : Int → Option R) : Option R :=
let i115 : Int := x.2.1.2.1
let i116 : Int := x.2.1.2.2.1
let l117 : (List Bool) := x.2.2.1
κ0 i116

abbrev Tp_34_v1 (R : Type) : Type := (Unit × Unit) × ((Unit × (Int × (Int × Unit))) × (List Bool) × Unit) → (Int → Option R) → Option R
def Q_34_v1 {R : Type} (x : (Unit × Unit) × ((Unit × (Int × (Int × Unit))) × (List Bool) × Unit)) (κ0 : Int → Option R) : Option R :=
let i115 : Int := x.2.1.2.1
let i116 : Int := x.2.1.2.2.1
let l117 : (List Bool) := x.2.2.1
κ0 i116
def EG_34_v1 {R : Type} : Env R := Env.base QQ LN
def LG_34_v1 {R : Type} : Loops R := Loops.none
def E_34_v1 {R : Type} (N : Nat) : Env R := EG_34_v1
theorem eok_34_v1 {R : Type} (N : Nat) : EK Try.prog (E_34_v1 (R := R) N) := ek_base _ _
def L_34_v1 {R : Type} (N : Nat) : Loops R := LG_34_v1
theorem lok_34_v1 {R : Type} (N : Nat) : LOK 2 TT (E_34_v1 (R := R) N) (drawOk TT QQ) (L_34_v1 N) (bodyOf Try.f34) := loops_nil (by kernel_rfl)
theorem grun_34_v1 {R : Type} (x : aden ap_34_v1 × hden hp_34_v1) (k : KF R) : fnrun TT (EG_34_v1) (drawOk TT QQ) (LG_34_v1) true Try.f34 (instA ap_34_v1 x.1) (instH hp_34_v1 x.2) k = Q_34_v1 x (fun y => k (Pat.inst (.int .i64) y) (instH hp_34_v1 x.2)) := by kernel_rfl
theorem run_34_v1 {R : Type} (N : Nat) (x : aden ap_34_v1 × hden hp_34_v1) (k : KF R) : fnrun TT (E_34_v1 (R := R) N) (drawOk TT QQ) (L_34_v1 N) true Try.f34 (instA ap_34_v1 x.1) (instH hp_34_v1 x.2) k = p_34_v1 N x (fun y => k (Pat.inst (.int .i64) y) (instH hp_34_v1 x.2)) := (grun_34_v1 x k).trans (by kernel_rfl)
theorem good_34_v1 {R : Type} (N : Nat) : GD (X := R) Try.prog QQ 34 ap_34_v1 hp_34_v1 (fun (x : aden ap_34_v1 × hden hp_34_v1) k => p_34_v1 N x (fun y => k (Pat.inst (.int .i64) y) (instH hp_34_v1 x.2))) :=
  gd_quiet (E := E_34_v1 N) (p := fun (x : aden ap_34_v1 × hden hp_34_v1) κ => p_34_v1 N x (fun y => κ (Pat.inst (.int .i64) y))) mixed tyok (eok_34_v1 N) Try.func34 (by kernel_rfl) (by kernel_rfl) (lok_34_v1 N) (fun x k => run_34_v1 N x k)

def ap_30 : List Pat := []
def hp_30 : List (Option (Pat × Nat)) := []
def p_30 {R : Type} (N : Nat) (x : (Unit) × (Unit)) (κ0 : Bool → Option R) : Option R :=
p_35 N ((2, ()), ()) (fun y6 =>
let i7 : Int := y6.1.2.1
let l8 : (List Int) := [0]
p_31 N (((), (), ()), (l8, ())) (fun y10 =>
let b11 : Bool := y10.1.1
let i12 : Int := y10.1.2.1
let l13 : (List Int) := y10.2.1
let l14 : (List Int) := [0]
p_31 N (((), (), ()), (l14, ())) (fun y15 =>
let b16 : Bool := y15.1.1
let i17 : Int := y15.1.2.1
let l18 : (List Int) := y15.2.1
let l19 : (List Int) := [1]
p_31 N (((), (), ()), (l19, ())) (fun y20 =>
let b21 : Bool := y20.1.1
let i22 : Int := y20.1.2.1
let l23 : (List Int) := y20.2.1
bif (i7 == 0) then (
bif (!b11) then (
bif (i12 == 0) then (
bif (i17 == 15) then (
bif b21 then (
bif (i22 == 0) then (
p_32 N (((), 0, ()), ()) (fun y25 =>
let b26 : Bool := y25
bif (!b26) then (
p_34 N (((), ()), ()) (fun y27 =>
let i28 : Int := y27
κ0 ((i28 == 1)))) else (
κ0 false))) else (
κ0 false)) else (
κ0 false)) else (
κ0 false)) else (
κ0 false)) else (
κ0 false)) else (
κ0 false))))) (fun y29 =>
let i30 : Int := y29.1.2.1
let i31 : Int := y29.2.1.2.1
let i32 : Int := y29.2.1.2.2.1
let l33 : (List Bool) := y29.2.2.1
let l34 : (List Int) := [0]
p_31_v1 N (((), (), ()), (((), (i31, (i32, ()))), l33, l34, ())) (fun y84 =>
let b85 : Bool := y84.1.1
let i86 : Int := y84.1.2.1
let i87 : Int := y84.2.1.2.1
let i88 : Int := y84.2.1.2.2.1
let l89 : (List Bool) := y84.2.2.1
let l90 : (List Int) := y84.2.2.2.1
let l91 : (List Int) := [0]
p_31_v1 N (((), (), ()), (((), (i87, (i88, ()))), l89, l91, ())) (fun y92 =>
let b93 : Bool := y92.1.1
let i94 : Int := y92.1.2.1
let i95 : Int := y92.2.1.2.1
let i96 : Int := y92.2.1.2.2.1
let l97 : (List Bool) := y92.2.2.1
let l98 : (List Int) := y92.2.2.2.1
let l99 : (List Int) := [1]
p_31_v1 N (((), (), ()), (((), (i95, (i96, ()))), l97, l99, ())) (fun y100 =>
let b101 : Bool := y100.1.1
let i102 : Int := y100.1.2.1
let i103 : Int := y100.2.1.2.1
let i104 : Int := y100.2.1.2.2.1
let l105 : (List Bool) := y100.2.2.1
let l106 : (List Int) := y100.2.2.2.1
bif (i30 == 0) then (
bif (!b85) then (
bif (i86 == 0) then (
bif (i94 == 15) then (
bif b101 then (
bif (i102 == 0) then (
p_32_v1 N (((), 0, ()), (((), (i103, (i104, ()))), l105, ())) (fun y113 =>
let b114 : Bool := y113
bif (!b114) then (
p_34_v1 N (((), ()), (((), (i103, (i104, ()))), l105, ())) (fun y118 =>
let i119 : Int := y118
κ0 ((i119 == 1)))) else (
κ0 false))) else (
κ0 false)) else (
κ0 false)) else (
κ0 false)) else (
κ0 false)) else (
κ0 false)) else (
κ0 false)))))

abbrev Tp_30 (R : Type) : Type := (Unit) × (Unit) → (Bool → Option R) → Option R
def Q_30 {R : Type} (q_35 : Tp_35 R) (q_31 : Tp_31 R) (q_32 : Tp_32 R) (q_34 : Tp_34 R) (q_31_v1 : Tp_31_v1 R) (q_32_v1 : Tp_32_v1 R) (q_34_v1 : Tp_34_v1 R) (x : (Unit) × (Unit)) (κ0 : Bool → Option R) : Option R :=
q_35 ((2, ()), ()) (fun y6 =>
let i7 : Int := y6.1.2.1
let l8 : (List Int) := [0]
q_31 (((), (), ()), (l8, ())) (fun y10 =>
let b11 : Bool := y10.1.1
let i12 : Int := y10.1.2.1
let l13 : (List Int) := y10.2.1
let l14 : (List Int) := [0]
q_31 (((), (), ()), (l14, ())) (fun y15 =>
let b16 : Bool := y15.1.1
let i17 : Int := y15.1.2.1
let l18 : (List Int) := y15.2.1
let l19 : (List Int) := [1]
q_31 (((), (), ()), (l19, ())) (fun y20 =>
let b21 : Bool := y20.1.1
let i22 : Int := y20.1.2.1
let l23 : (List Int) := y20.2.1
bif (i7 == 0) then (
bif (!b11) then (
bif (i12 == 0) then (
bif (i17 == 15) then (
bif b21 then (
bif (i22 == 0) then (
q_32 (((), 0, ()), ()) (fun y25 =>
let b26 : Bool := y25
bif (!b26) then (
q_34 (((), ()), ()) (fun y27 =>
let i28 : Int := y27
κ0 ((i28 == 1)))) else (
κ0 false))) else (
κ0 false)) else (
κ0 false)) else (
κ0 false)) else (
κ0 false)) else (
κ0 false)) else (
κ0 false))))) (fun y29 =>
let i30 : Int := y29.1.2.1
let i31 : Int := y29.2.1.2.1
let i32 : Int := y29.2.1.2.2.1
let l33 : (List Bool) := y29.2.2.1
let l34 : (List Int) := [0]
q_31_v1 (((), (), ()), (((), (i31, (i32, ()))), l33, l34, ())) (fun y84 =>
let b85 : Bool := y84.1.1
let i86 : Int := y84.1.2.1
let i87 : Int := y84.2.1.2.1
let i88 : Int := y84.2.1.2.2.1
let l89 : (List Bool) := y84.2.2.1
let l90 : (List Int) := y84.2.2.2.1
let l91 : (List Int) := [0]
q_31_v1 (((), (), ()), (((), (i87, (i88, ()))), l89, l91, ())) (fun y92 =>
let b93 : Bool := y92.1.1
let i94 : Int := y92.1.2.1
let i95 : Int := y92.2.1.2.1
let i96 : Int := y92.2.1.2.2.1
let l97 : (List Bool) := y92.2.2.1
let l98 : (List Int) := y92.2.2.2.1
let l99 : (List Int) := [1]
q_31_v1 (((), (), ()), (((), (i95, (i96, ()))), l97, l99, ())) (fun y100 =>
let b101 : Bool := y100.1.1
let i102 : Int := y100.1.2.1
let i103 : Int := y100.2.1.2.1
let i104 : Int := y100.2.1.2.2.1
let l105 : (List Bool) := y100.2.2.1
let l106 : (List Int) := y100.2.2.2.1
bif (i30 == 0) then (
bif (!b85) then (
bif (i86 == 0) then (
bif (i94 == 15) then (
bif b101 then (
bif (i102 == 0) then (
q_32_v1 (((), 0, ()), (((), (i103, (i104, ()))), l105, ())) (fun y113 =>
let b114 : Bool := y113
bif (!b114) then (
q_34_v1 (((), ()), (((), (i103, (i104, ()))), l105, ())) (fun y118 =>
let i119 : Int := y118
κ0 ((i119 == 1)))) else (
κ0 false))) else (
κ0 false)) else (
κ0 false)) else (
κ0 false)) else (
κ0 false)) else (
κ0 false)) else (
κ0 false)))))
def EG_30 {R : Type} (q_35 : Tp_35 R) (q_31 : Tp_31 R) (q_32 : Tp_32 R) (q_34 : Tp_34 R) (q_31_v1 : Tp_31_v1 R) (q_32_v1 : Tp_32_v1 R) (q_34_v1 : Tp_34_v1 R) : Env R := (((((((Env.base QQ LN).add 35 ap_35 hp_35 (fun (x : aden ap_35 × hden hp_35) k => q_35 x (fun y => k (Pat.inst (.tup (.fcons (.nilp) (.fcons (.int .i64) (.fnil)))) y.1) (instH [] y.2)) (fun y => k (Pat.inst (.tup (.fcons (.ptr 0 []) (.fcons (.int .i64) (.fnil)))) y.1) (instH [some (.node (.fcons (.sl 1) (.fcons (.int .i64) (.fcons (.int .i64) (.fnil)))), 146), some (.lst (.bool), 4)] y.2)))).add 31 ap_31 hp_31 (fun (x : aden ap_31 × hden hp_31) k => q_31 x (fun y => k (Pat.inst (.tup (.fcons (.bool) (.fcons (.int .i64) (.fnil)))) y.1) (instH [some (.lst (.int .i64), 3)] y.2)))).add 32 ap_32 hp_32 (fun (x : aden ap_32 × hden hp_32) k => q_32 x (fun y => k (Pat.inst (.bool) y) (instH hp_32 x.2)))).add 34 ap_34 hp_34 (fun (x : aden ap_34 × hden hp_34) k => q_34 x (fun y => k (Pat.inst (.int .i64) y) (instH hp_34 x.2)))).add 31 ap_31_v1 hp_31_v1 (fun (x : aden ap_31_v1 × hden hp_31_v1) k => q_31_v1 x (fun y => k (Pat.inst (.tup (.fcons (.bool) (.fcons (.int .i64) (.fnil)))) y.1) (instH [some (.node (.fcons (.sl 1) (.fcons (.int .i64) (.fcons (.int .i64) (.fnil)))), 146), some (.lst (.bool), 4), some (.lst (.int .i64), 3)] y.2)))).add 32 ap_32_v1 hp_32_v1 (fun (x : aden ap_32_v1 × hden hp_32_v1) k => q_32_v1 x (fun y => k (Pat.inst (.bool) y) (instH hp_32_v1 x.2)))).add 34 ap_34_v1 hp_34_v1 (fun (x : aden ap_34_v1 × hden hp_34_v1) k => q_34_v1 x (fun y => k (Pat.inst (.int .i64) y) (instH hp_34_v1 x.2)))
def LG_30 {R : Type} : Loops R := Loops.none
def E_30 {R : Type} (N : Nat) : Env R := EG_30 (p_35 N) (p_31 N) (p_32 N) (p_34 N) (p_31_v1 N) (p_32_v1 N) (p_34_v1 N)
theorem eok_30 {R : Type} (N : Nat) : EK Try.prog (E_30 (R := R) N) := ek_add (ek_add (ek_add (ek_add (ek_add (ek_add (ek_add (ek_base _ _) (good_35 N)) (good_31 N)) (good_32 N)) (good_34 N)) (good_31_v1 N)) (good_32_v1 N)) (good_34_v1 N)
def L_30 {R : Type} (N : Nat) : Loops R := LG_30
theorem lok_30 {R : Type} (N : Nat) : LOK 0 TT (E_30 (R := R) N) (drawOk TT QQ) (L_30 N) (bodyOf Try.f30) := loops_nil (by kernel_rfl)
theorem grun_30 {R : Type} (q_35 : Tp_35 R) (q_31 : Tp_31 R) (q_32 : Tp_32 R) (q_34 : Tp_34 R) (q_31_v1 : Tp_31_v1 R) (q_32_v1 : Tp_32_v1 R) (q_34_v1 : Tp_34_v1 R) (x : aden ap_30 × hden hp_30) (k : KF R) : fnrun TT (EG_30 q_35 q_31 q_32 q_34 q_31_v1 q_32_v1 q_34_v1) (drawOk TT QQ) (LG_30) true Try.f30 (instA ap_30 x.1) (instH hp_30 x.2) k = Q_30 q_35 q_31 q_32 q_34 q_31_v1 q_32_v1 q_34_v1 x (fun y => k (Pat.inst (.bool) y) (instH hp_30 x.2)) := by kernel_rfl
theorem run_30 {R : Type} (N : Nat) (x : aden ap_30 × hden hp_30) (k : KF R) : fnrun TT (E_30 (R := R) N) (drawOk TT QQ) (L_30 N) true Try.f30 (instA ap_30 x.1) (instH hp_30 x.2) k = p_30 N x (fun y => k (Pat.inst (.bool) y) (instH hp_30 x.2)) := (grun_30 (p_35 N) (p_31 N) (p_32 N) (p_34 N) (p_31_v1 N) (p_32_v1 N) (p_34_v1 N) x k).trans (by kernel_rfl)
theorem good_30 {R : Type} (N : Nat) : GD (X := R) Try.prog QQ 30 ap_30 hp_30 (fun (x : aden ap_30 × hden hp_30) k => p_30 N x (fun y => k (Pat.inst (.bool) y) (instH hp_30 x.2))) :=
  gd_quiet (E := E_30 N) (p := fun (x : aden ap_30 × hden hp_30) κ => p_30 N x (fun y => κ (Pat.inst (.bool) y))) mixed tyok (eok_30 N) Try.func30 (by kernel_rfl) (by kernel_rfl) (lok_30 N) (fun x k => run_30 N x k)

def ap_33 : List Pat := [.nilp]
def hp_33 : List (Option (Pat × Nat)) := []
def p_33 {R : Type} (N : Nat) (x : (Unit × Unit) × (Unit)) (κ0 : (Unit × (Unit)) → Option R) : Option R :=
κ0 ((), ())

abbrev Tp_33 (R : Type) : Type := (Unit × Unit) × (Unit) → ((Unit × (Unit)) → Option R) → Option R
def Q_33 {R : Type} (x : (Unit × Unit) × (Unit)) (κ0 : (Unit × (Unit)) → Option R) : Option R :=
κ0 ((), ())
def EG_33 {R : Type} : Env R := Env.base QQ LN
def LG_33 {R : Type} : Loops R := Loops.none
def E_33 {R : Type} (N : Nat) : Env R := EG_33
theorem eok_33 {R : Type} (N : Nat) : EK Try.prog (E_33 (R := R) N) := ek_base _ _
def L_33 {R : Type} (N : Nat) : Loops R := LG_33
theorem loops_33 : loopsIn (bodyOf Try.f33) = [(5, loopAt 5 (bodyOf Try.f33))] := by kernel_rfl
theorem lok_33 {R : Type} (N : Nat) : LOK 0 TT (E_33 (R := R) N) (drawOk TT QQ) (L_33 N) (bodyOf Try.f33) := loops_all loops_33 (by
  simp only [List.forall_mem_cons, List.not_mem_nil, false_implies, implies_true, and_true]
  exact rounds_none (fun _ _ => rfl))
theorem grun_33 {R : Type} (x : aden ap_33 × hden hp_33) (k : KF R) : fnrun TT (EG_33) (drawOk TT QQ) (LG_33) false Try.f33 (instA ap_33 x.1) (instH hp_33 x.2) k = Q_33 x (fun y => k (Pat.inst (.nils) y.1) (instH [] y.2)) := by kernel_rfl
theorem run_33 {R : Type} (N : Nat) (x : aden ap_33 × hden hp_33) (k : KF R) : fnrun TT (E_33 (R := R) N) (drawOk TT QQ) (L_33 N) false Try.f33 (instA ap_33 x.1) (instH hp_33 x.2) k = p_33 N x (fun y => k (Pat.inst (.nils) y.1) (instH [] y.2)) := (grun_33 x k).trans (by kernel_rfl)
theorem good_33 {R : Type} (N : Nat) : GD (X := R) Try.prog QQ 33 ap_33 hp_33 (fun (x : aden ap_33 × hden hp_33) k => p_33 N x (fun y => k (Pat.inst (.nils) y.1) (instH [] y.2))) :=
  gd_loud (E := E_33 N) (p := fun (x : aden ap_33 × hden hp_33) k => p_33 N x (fun y => k (Pat.inst (.nils) y.1) (instH [] y.2))) mixed tyok (eok_33 N) Try.func33 (by kernel_rfl) (by kernel_rfl) (by kernel_rfl) (lok_33 N) (fun x k => run_33 N x k)

def lv_36_3 : Live := [(1, none), (2, none), (4, none), (7, none), (8, none)]
def pt_36_3 : SPat := ⟨[(1, .ros (.int .i64)), (2, .ptr 1 []), (4, .ptr 2 []), (7, .sl 3), (8, .int .i64)], [some (.lst (.bool), 4), some (.node (.fcons (.sl 0) (.fcons (.int .i64) (.fnil))), 56), some (.node (.fcons (.nils) (.fcons (.int .i64) (.fnil))), 56), some (.lst (.bool), 4)]⟩
def px_36_3_0 : SPat := ⟨[(4, .ptr 1 []), (5, .bool), (6, .int .i64)], [some (.lst (.bool), 4), some (.node (.fcons (.sl 0) (.fcons (.int .i64) (.fnil))), 56)]⟩
def px_36_3_1 : SPat := ⟨[(2, .ptr 1 []), (4, .ptr 2 []), (7, .sl 3)], [some (.lst (.bool), 4), some (.node (.fcons (.sl 0) (.fcons (.int .i64) (.fnil))), 56), some (.node (.fcons (.nils) (.fcons (.int .i64) (.fnil))), 56), some (.lst (.bool), 4)]⟩
def lo_36_3 : Exit → Live
  | .ret => [(4, none), (5, none), (6, none)]
  | .exit 0 => [(2, none), (4, none), (7, none)]
  | _ => []
def B_36_3 {R : Type} (N : Nat) (rec : (((List Int) × Unit × Unit × Unit × Int × Unit) × ((List Bool) × (Unit × (Int × Unit)) × (Unit × (Int × Unit)) × (List Bool) × Unit)) → Option R) (x : (((List Int) × Unit × Unit × Unit × Int × Unit) × ((List Bool) × (Unit × (Int × Unit)) × (Unit × (Int × Unit)) × (List Bool) × Unit))) (κ0 : ((Unit × Bool × Int × Unit) × ((List Bool) × (Unit × (Int × Unit)) × Unit)) → Option R) (κ1 : ((Unit × Unit × Unit × Unit) × ((List Bool) × (Unit × (Int × Unit)) × (Unit × (Int × Unit)) × (List Bool) × Unit)) → Option R) : Option R :=
let l162 : (List Int) := x.1.1
let i163 : Int := x.1.2.2.2.2.1
let l164 : (List Bool) := x.2.1
let i165 : Int := x.2.2.1.2.1
let i166 : Int := x.2.2.2.1.2.1
let l167 : (List Bool) := x.2.2.2.2.1
let i168 : Int := (((List.length l162) : Nat) : Int)
bif (decide (i163 < i168)) then (
bif decide (0 ≤ i163) then (
bif decide (i163 < ((List.length l162) : Int)) then (
let p169 : Int := (List.getD l162 ((Int.toNat i163)) (Sch.zero (.int .i64)))
bif (decide (p169 < 0)) then (
κ0 (((), false, 1, ()), (l164, ((), (i165, ())), ()))) else (
bif decide (0 ≤ i163) then (
bif decide (i163 < ((List.length l162) : Int)) then (
let p170 : Int := (List.getD l162 ((Int.toNat i163)) (Sch.zero (.int .i64)))
let i171 : Int := (((List.length l167) : Nat) : Int)
bif (decide (p170 ≥ i171)) then (
κ0 (((), false, 1, ()), (l164, ((), (i165, ())), ()))) else (
bif decide (0 ≤ i163) then (
bif decide (i163 < ((List.length l162) : Int)) then (
let p172 : Int := (List.getD l162 ((Int.toNat i163)) (Sch.zero (.int .i64)))
bif decide (0 ≤ p172) then (
bif decide (p172 < ((List.length l167) : Int)) then (
let b173 : Bool := (List.getD l167 ((Int.toNat p172)) (Sch.zero (.bool)))
bif b173 then (
κ0 (((), false, 15, ()), (l164, ((), (i165, ())), ()))) else (
bif decide (0 ≤ i163) then (
bif decide (i163 < ((List.length l162) : Int)) then (
let p174 : Int := (List.getD l162 ((Int.toNat i163)) (Sch.zero (.int .i64)))
bif decide (0 ≤ p174) then (
bif decide (p174 < ((List.length l167) : Int)) then (
let l175 : (List Bool) := (List.set l167 ((Int.toNat p174)) true)
let i176 : Int := addA .i64 i163 1
rec ((l162, (), (), (), i176, ()), (l164, ((), (i165, ())), ((), (i166, ())), l175, ()))) else none) else none) else none) else none)) else none) else none) else none) else none)) else none) else none)) else none) else none) else (
κ1 (((), (), (), ()), (l164, ((), (i165, ())), ((), (i166, ())), l167, ())))
def l_36_3 {R : Type} (N : Nat) : Nat → (((List Int) × Unit × Unit × Unit × Int × Unit) × ((List Bool) × (Unit × (Int × Unit)) × (Unit × (Int × Unit)) × (List Bool) × Unit)) → (((Unit × Bool × Int × Unit) × ((List Bool) × (Unit × (Int × Unit)) × Unit)) → Option R) → (((Unit × Unit × Unit × Unit) × ((List Bool) × (Unit × (Int × Unit)) × (Unit × (Int × Unit)) × (List Bool) × Unit)) → Option R) → Option R
  | 0, _, _, _ => none
  | n + 1, x, κ0, κ1 => B_36_3 N (fun y => l_36_3 N n y κ0 κ1) x κ0 κ1
def lv_36_11 : Live := [(2, none), (4, none), (7, none), (9, none)]
def pt_36_11 : SPat := ⟨[(2, .ptr 1 []), (4, .ptr 2 []), (7, .sl 3), (9, .int .i64)], [some (.lst (.bool), 4), some (.node (.fcons (.sl 0) (.fcons (.int .i64) (.fnil))), 56), some (.node (.fcons (.nils) (.fcons (.int .i64) (.fnil))), 56), some (.lst (.bool), 4)]⟩
def px_36_11_0 : SPat := ⟨[(4, .ptr 1 []), (5, .bool), (6, .int .i64)], [some (.lst (.bool), 4), some (.node (.fcons (.sl 2) (.fcons (.int .i64) (.fnil))), 56), some (.lst (.bool), 4)]⟩
def px_36_11_1 : SPat := ⟨[(2, .ptr 1 []), (4, .ptr 2 []), (7, .sl 3)], [some (.lst (.bool), 4), some (.node (.fcons (.sl 0) (.fcons (.int .i64) (.fnil))), 56), some (.node (.fcons (.nils) (.fcons (.int .i64) (.fnil))), 56), some (.lst (.bool), 4)]⟩
def lo_36_11 : Exit → Live
  | .ret => [(4, none), (5, none), (6, none)]
  | .exit 2 => [(2, none), (4, none), (7, none)]
  | _ => []
def B_36_11 {R : Type} (N : Nat) (rec : ((Unit × Unit × Unit × Int × Unit) × ((List Bool) × (Unit × (Int × Unit)) × (Unit × (Int × Unit)) × (List Bool) × Unit)) → Option R) (x : ((Unit × Unit × Unit × Int × Unit) × ((List Bool) × (Unit × (Int × Unit)) × (Unit × (Int × Unit)) × (List Bool) × Unit))) (κ0 : ((Unit × Bool × Int × Unit) × ((List Bool) × (Unit × (Int × Unit)) × (List Bool) × Unit)) → Option R) (κ1 : ((Unit × Unit × Unit × Unit) × ((List Bool) × (Unit × (Int × Unit)) × (Unit × (Int × Unit)) × (List Bool) × Unit)) → Option R) : Option R :=
let i187 : Int := x.1.2.2.2.1
let l188 : (List Bool) := x.2.1
let i189 : Int := x.2.2.1.2.1
let i190 : Int := x.2.2.2.1.2.1
let l191 : (List Bool) := x.2.2.2.2.1
let i192 : Int := (((List.length l191) : Nat) : Int)
bif (decide (i187 < i192)) then (
bif decide (0 ≤ i187) then (
bif decide (i187 < ((List.length l191) : Int)) then (
let b193 : Bool := (List.getD l191 ((Int.toNat i187)) (Sch.zero (.bool)))
bif (!b193) then (
κ0 (((), false, 0, ()), (l188, ((), (i189, ())), l191, ()))) else (
let i194 : Int := addA .i64 i187 1
rec (((), (), (), i194, ()), (l188, ((), (i189, ())), ((), (i190, ())), l191, ())))) else none) else none) else (
κ1 (((), (), (), ()), (l188, ((), (i189, ())), ((), (i190, ())), l191, ())))
def l_36_11 {R : Type} (N : Nat) : Nat → ((Unit × Unit × Unit × Int × Unit) × ((List Bool) × (Unit × (Int × Unit)) × (Unit × (Int × Unit)) × (List Bool) × Unit)) → (((Unit × Bool × Int × Unit) × ((List Bool) × (Unit × (Int × Unit)) × (List Bool) × Unit)) → Option R) → (((Unit × Unit × Unit × Unit) × ((List Bool) × (Unit × (Int × Unit)) × (Unit × (Int × Unit)) × (List Bool) × Unit)) → Option R) → Option R
  | 0, _, _, _ => none
  | n + 1, x, κ0, κ1 => B_36_11 N (fun y => l_36_11 N n y κ0 κ1) x κ0 κ1
def ap_36 : List Pat := [.node (.fcons (.sl 0) (.fcons (.int .i64) (.fnil))), .ros (.int .i64)]
def hp_36 : List (Option (Pat × Nat)) := [some (.lst (.bool), 4)]
def p_36 {R : Type} (N : Nat) (x : ((Unit × (Int × Unit)) × (List Int) × Unit) × ((List Bool) × Unit)) (κ0 : (((Unit × (Int × Unit)) × (Bool × (Int × Unit))) × ((List Bool) × Unit)) → Option R) (κ1 : (((Unit × (Int × Unit)) × (Bool × (Int × Unit))) × ((List Bool) × (List Bool) × Unit)) → Option R) : Option R :=
let i157 : Int := x.1.1.2.1
let l158 : (List Int) := x.1.2.1
let l159 : (List Bool) := x.2.1
let l160 : (List Bool) := []
bif (decide ((List.length l160 + List.length l159) * 1 ≤ 140737488355328) && true) then (
let l161 : (List Bool) := (l160 ++ l159)
l_36_3 N N ((l158, (), (), (), 0, ()), (l159, ((), (i157, ())), ((), (0, ())), l161, ())) (fun y177 =>
let b178 : Bool := y177.1.2.1
let i179 : Int := y177.1.2.2.1
let l180 : (List Bool) := y177.2.1
let i181 : Int := y177.2.2.1.2.1
κ0 ((((), (i181, ())), (b178, (i179, ()))), (l180, ()))) (fun y182 =>
let l183 : (List Bool) := y182.2.1
let i184 : Int := y182.2.2.1.2.1
let i185 : Int := y182.2.2.2.1.2.1
let l186 : (List Bool) := y182.2.2.2.2.1
l_36_11 N N (((), (), (), 0, ()), (l183, ((), (i184, ())), ((), (i185, ())), l186, ())) (fun y195 =>
let b196 : Bool := y195.1.2.1
let i197 : Int := y195.1.2.2.1
let l198 : (List Bool) := y195.2.1
let i199 : Int := y195.2.2.1.2.1
let l200 : (List Bool) := y195.2.2.2.1
κ1 ((((), (i199, ())), (b196, (i197, ()))), (l198, l200, ()))) (fun y201 =>
let l202 : (List Bool) := y201.2.1
let i203 : Int := y201.2.2.1.2.1
let i204 : Int := y201.2.2.2.1.2.1
let l205 : (List Bool) := y201.2.2.2.2.1
let i206 : Int := (((List.length l205) : Nat) : Int)
bif decide (0 ≤ i206) then (
bif decide (i206 ≤ i206) then (
bif decide (((1 : Nat) : Int) * i206 ≤ 281474976710656) then (
bif decide (i206 ≤ 9223372036854775807) then (
let l207 : (List Bool) := List.replicate ((Int.toNat i206)) (Sch.zero (.bool))
let i208 : Int := addA .i64 i203 1
κ1 ((((), (i208, ())), (true, (0, ()))), (l202, l207, ()))) else none) else none) else none) else none))) else none

abbrev Tl_36_3 (R : Type) : Type := (((List Int) × Unit × Unit × Unit × Int × Unit) × ((List Bool) × (Unit × (Int × Unit)) × (Unit × (Int × Unit)) × (List Bool) × Unit)) → (((Unit × Bool × Int × Unit) × ((List Bool) × (Unit × (Int × Unit)) × Unit)) → Option R) → (((Unit × Unit × Unit × Unit) × ((List Bool) × (Unit × (Int × Unit)) × (Unit × (Int × Unit)) × (List Bool) × Unit)) → Option R) → Option R
abbrev Tl_36_11 (R : Type) : Type := ((Unit × Unit × Unit × Int × Unit) × ((List Bool) × (Unit × (Int × Unit)) × (Unit × (Int × Unit)) × (List Bool) × Unit)) → (((Unit × Bool × Int × Unit) × ((List Bool) × (Unit × (Int × Unit)) × (List Bool) × Unit)) → Option R) → (((Unit × Unit × Unit × Unit) × ((List Bool) × (Unit × (Int × Unit)) × (Unit × (Int × Unit)) × (List Bool) × Unit)) → Option R) → Option R
abbrev Tp_36 (R : Type) : Type := ((Unit × (Int × Unit)) × (List Int) × Unit) × ((List Bool) × Unit) → ((((Unit × (Int × Unit)) × (Bool × (Int × Unit))) × ((List Bool) × Unit)) → Option R) → ((((Unit × (Int × Unit)) × (Bool × (Int × Unit))) × ((List Bool) × (List Bool) × Unit)) → Option R) → Option R
def Q_36 {R : Type} (m_36_3 : Tl_36_3 R) (m_36_11 : Tl_36_11 R) (x : ((Unit × (Int × Unit)) × (List Int) × Unit) × ((List Bool) × Unit)) (κ0 : (((Unit × (Int × Unit)) × (Bool × (Int × Unit))) × ((List Bool) × Unit)) → Option R) (κ1 : (((Unit × (Int × Unit)) × (Bool × (Int × Unit))) × ((List Bool) × (List Bool) × Unit)) → Option R) : Option R :=
let i157 : Int := x.1.1.2.1
let l158 : (List Int) := x.1.2.1
let l159 : (List Bool) := x.2.1
let l160 : (List Bool) := []
bif (decide ((List.length l160 + List.length l159) * 1 ≤ 140737488355328) && true) then (
let l161 : (List Bool) := (l160 ++ l159)
m_36_3 ((l158, (), (), (), 0, ()), (l159, ((), (i157, ())), ((), (0, ())), l161, ())) (fun y177 =>
let b178 : Bool := y177.1.2.1
let i179 : Int := y177.1.2.2.1
let l180 : (List Bool) := y177.2.1
let i181 : Int := y177.2.2.1.2.1
κ0 ((((), (i181, ())), (b178, (i179, ()))), (l180, ()))) (fun y182 =>
let l183 : (List Bool) := y182.2.1
let i184 : Int := y182.2.2.1.2.1
let i185 : Int := y182.2.2.2.1.2.1
let l186 : (List Bool) := y182.2.2.2.2.1
m_36_11 (((), (), (), 0, ()), (l183, ((), (i184, ())), ((), (i185, ())), l186, ())) (fun y195 =>
let b196 : Bool := y195.1.2.1
let i197 : Int := y195.1.2.2.1
let l198 : (List Bool) := y195.2.1
let i199 : Int := y195.2.2.1.2.1
let l200 : (List Bool) := y195.2.2.2.1
κ1 ((((), (i199, ())), (b196, (i197, ()))), (l198, l200, ()))) (fun y201 =>
let l202 : (List Bool) := y201.2.1
let i203 : Int := y201.2.2.1.2.1
let i204 : Int := y201.2.2.2.1.2.1
let l205 : (List Bool) := y201.2.2.2.2.1
let i206 : Int := (((List.length l205) : Nat) : Int)
bif decide (0 ≤ i206) then (
bif decide (i206 ≤ i206) then (
bif decide (((1 : Nat) : Int) * i206 ≤ 281474976710656) then (
bif decide (i206 ≤ 9223372036854775807) then (
let l207 : (List Bool) := List.replicate ((Int.toNat i206)) (Sch.zero (.bool))
let i208 : Int := addA .i64 i203 1
κ1 ((((), (i208, ())), (true, (0, ()))), (l202, l207, ()))) else none) else none) else none) else none))) else none
def C_36_3 {R : Type} (m_36_3 : Tl_36_3 R) (m_36_11 : Tl_36_11 R) (rec : (((List Int) × Unit × Unit × Unit × Int × Unit) × ((List Bool) × (Unit × (Int × Unit)) × (Unit × (Int × Unit)) × (List Bool) × Unit)) → Option R) (x : (((List Int) × Unit × Unit × Unit × Int × Unit) × ((List Bool) × (Unit × (Int × Unit)) × (Unit × (Int × Unit)) × (List Bool) × Unit))) (κ0 : ((Unit × Bool × Int × Unit) × ((List Bool) × (Unit × (Int × Unit)) × Unit)) → Option R) (κ1 : ((Unit × Unit × Unit × Unit) × ((List Bool) × (Unit × (Int × Unit)) × (Unit × (Int × Unit)) × (List Bool) × Unit)) → Option R) : Option R :=
let l162 : (List Int) := x.1.1
let i163 : Int := x.1.2.2.2.2.1
let l164 : (List Bool) := x.2.1
let i165 : Int := x.2.2.1.2.1
let i166 : Int := x.2.2.2.1.2.1
let l167 : (List Bool) := x.2.2.2.2.1
let i168 : Int := (((List.length l162) : Nat) : Int)
bif (decide (i163 < i168)) then (
bif decide (0 ≤ i163) then (
bif decide (i163 < ((List.length l162) : Int)) then (
let p169 : Int := (List.getD l162 ((Int.toNat i163)) (Sch.zero (.int .i64)))
bif (decide (p169 < 0)) then (
κ0 (((), false, 1, ()), (l164, ((), (i165, ())), ()))) else (
bif decide (0 ≤ i163) then (
bif decide (i163 < ((List.length l162) : Int)) then (
let p170 : Int := (List.getD l162 ((Int.toNat i163)) (Sch.zero (.int .i64)))
let i171 : Int := (((List.length l167) : Nat) : Int)
bif (decide (p170 ≥ i171)) then (
κ0 (((), false, 1, ()), (l164, ((), (i165, ())), ()))) else (
bif decide (0 ≤ i163) then (
bif decide (i163 < ((List.length l162) : Int)) then (
let p172 : Int := (List.getD l162 ((Int.toNat i163)) (Sch.zero (.int .i64)))
bif decide (0 ≤ p172) then (
bif decide (p172 < ((List.length l167) : Int)) then (
let b173 : Bool := (List.getD l167 ((Int.toNat p172)) (Sch.zero (.bool)))
bif b173 then (
κ0 (((), false, 15, ()), (l164, ((), (i165, ())), ()))) else (
bif decide (0 ≤ i163) then (
bif decide (i163 < ((List.length l162) : Int)) then (
let p174 : Int := (List.getD l162 ((Int.toNat i163)) (Sch.zero (.int .i64)))
bif decide (0 ≤ p174) then (
bif decide (p174 < ((List.length l167) : Int)) then (
let l175 : (List Bool) := (List.set l167 ((Int.toNat p174)) true)
let i176 : Int := addA .i64 i163 1
rec ((l162, (), (), (), i176, ()), (l164, ((), (i165, ())), ((), (i166, ())), l175, ()))) else none) else none) else none) else none)) else none) else none) else none) else none)) else none) else none)) else none) else none) else (
κ1 (((), (), (), ()), (l164, ((), (i165, ())), ((), (i166, ())), l167, ())))
def C_36_11 {R : Type} (m_36_3 : Tl_36_3 R) (m_36_11 : Tl_36_11 R) (rec : ((Unit × Unit × Unit × Int × Unit) × ((List Bool) × (Unit × (Int × Unit)) × (Unit × (Int × Unit)) × (List Bool) × Unit)) → Option R) (x : ((Unit × Unit × Unit × Int × Unit) × ((List Bool) × (Unit × (Int × Unit)) × (Unit × (Int × Unit)) × (List Bool) × Unit))) (κ0 : ((Unit × Bool × Int × Unit) × ((List Bool) × (Unit × (Int × Unit)) × (List Bool) × Unit)) → Option R) (κ1 : ((Unit × Unit × Unit × Unit) × ((List Bool) × (Unit × (Int × Unit)) × (Unit × (Int × Unit)) × (List Bool) × Unit)) → Option R) : Option R :=
let i187 : Int := x.1.2.2.2.1
let l188 : (List Bool) := x.2.1
let i189 : Int := x.2.2.1.2.1
let i190 : Int := x.2.2.2.1.2.1
let l191 : (List Bool) := x.2.2.2.2.1
let i192 : Int := (((List.length l191) : Nat) : Int)
bif (decide (i187 < i192)) then (
bif decide (0 ≤ i187) then (
bif decide (i187 < ((List.length l191) : Int)) then (
let b193 : Bool := (List.getD l191 ((Int.toNat i187)) (Sch.zero (.bool)))
bif (!b193) then (
κ0 (((), false, 0, ()), (l188, ((), (i189, ())), l191, ()))) else (
let i194 : Int := addA .i64 i187 1
rec (((), (), (), i194, ()), (l188, ((), (i189, ())), ((), (i190, ())), l191, ())))) else none) else none) else (
κ1 (((), (), (), ()), (l188, ((), (i189, ())), ((), (i190, ())), l191, ())))
def EG_36 {R : Type} : Env R := Env.base QQ LN
def LG_36 {R : Type} (m_36_3 : Tl_36_3 R) (m_36_11 : Tl_36_11 R) : Loops R := ((Loops.none).add 3 (loopBy 1 lv_36_3 pt_36_3 (fun x k => m_36_3 x (fun y => k .ret (px_36_3_0.inst y)) (fun y => k (.exit 0) (px_36_3_1.inst y))))).add 11 (loopBy 1 lv_36_11 pt_36_11 (fun x k => m_36_11 x (fun y => k .ret (px_36_11_0.inst y)) (fun y => k (.exit 2) (px_36_11_1.inst y))))
def E_36 {R : Type} (N : Nat) : Env R := EG_36
theorem eok_36 {R : Type} (N : Nat) : EK Try.prog (E_36 (R := R) N) := ek_base _ _
def L_36 {R : Type} (N : Nat) : Loops R := LG_36 (l_36_3 N N) (l_36_11 N N)
theorem gstep_36_3 {R : Type} (m_36_3 : Tl_36_3 R) (m_36_11 : Tl_36_11 R) (n : Nat) (x : pt_36_3.den) (k : Exit → St → Option R) : iter 1 lv_36_3 lo_36_3 (aexec TT (EG_36) (drawOk TT QQ) (LG_36 m_36_3 m_36_11) (loopAt 3 (bodyOf Try.f36))) (n + 1) (pt_36_3.inst x) k = C_36_3 m_36_3 m_36_11 (fun y => iter 1 lv_36_3 lo_36_3 (aexec TT (EG_36) (drawOk TT QQ) (LG_36 m_36_3 m_36_11) (loopAt 3 (bodyOf Try.f36))) n (pt_36_3.inst y) k) x (fun y => k .ret (px_36_3_0.inst y)) (fun y => k (.exit 0) (px_36_3_1.inst y)) := by kernel_rfl
theorem step_36_3 {R : Type} (N n : Nat) (x : pt_36_3.den) (k : Exit → St → Option R) : iter 1 lv_36_3 lo_36_3 (aexec TT (E_36 (R := R) N) (drawOk TT QQ) (L_36 N) (loopAt 3 (bodyOf Try.f36))) (n + 1) (pt_36_3.inst x) k = B_36_3 N (fun y => iter 1 lv_36_3 lo_36_3 (aexec TT (E_36 (R := R) N) (drawOk TT QQ) (L_36 N) (loopAt 3 (bodyOf Try.f36))) n (pt_36_3.inst y) k) x (fun y => k .ret (px_36_3_0.inst y)) (fun y => k (.exit 0) (px_36_3_1.inst y)) := (gstep_36_3 (l_36_3 N N) (l_36_11 N N) n x k).trans (by kernel_rfl)
theorem eq_36_3 {R : Type} (N : Nat) : ∀ (n : Nat) (x : pt_36_3.den) (k : Exit → St → Option R), iter 1 lv_36_3 lo_36_3 (aexec TT (E_36 (R := R) N) (drawOk TT QQ) (L_36 N) (loopAt 3 (bodyOf Try.f36))) n (pt_36_3.inst x) k = l_36_3 N n x (fun y => k .ret (px_36_3_0.inst y)) (fun y => k (.exit 0) (px_36_3_1.inst y)) :=
  iter_eq (K := Exit → St → Option R) (ks := fun k => k) (l := fun n (x : pt_36_3.den) k => l_36_3 N n x (fun y => k .ret (px_36_3_0.inst y)) (fun y => k (.exit 0) (px_36_3_1.inst y))) (B := fun (rec : pt_36_3.den → Option R) (x : pt_36_3.den) k => B_36_3 N rec x (fun y => k .ret (px_36_3_0.inst y)) (fun y => k (.exit 0) (px_36_3_1.inst y))) (fun _ _ => rfl) (fun _ _ _ => rfl) (fun n x k => step_36_3 N n x k)
theorem rounds_36_3 {R : Type} (N : Nat) : Rounds 1 TT (E_36 (R := R) N) (drawOk TT QQ) (L_36 N) 3 (loopAt 3 (bodyOf Try.f36)) :=
  rounds_of (p := pt_36_3) (l := fun (x : pt_36_3.den) k => l_36_3 N N x (fun y => k .ret (px_36_3_0.inst y)) (fun y => k (.exit 0) (px_36_3_1.inst y))) (fun s k => rfl) (fun x k => eq_36_3 N N x k)
theorem gstep_36_11 {R : Type} (m_36_3 : Tl_36_3 R) (m_36_11 : Tl_36_11 R) (n : Nat) (x : pt_36_11.den) (k : Exit → St → Option R) : iter 1 lv_36_11 lo_36_11 (aexec TT (EG_36) (drawOk TT QQ) (LG_36 m_36_3 m_36_11) (loopAt 11 (bodyOf Try.f36))) (n + 1) (pt_36_11.inst x) k = C_36_11 m_36_3 m_36_11 (fun y => iter 1 lv_36_11 lo_36_11 (aexec TT (EG_36) (drawOk TT QQ) (LG_36 m_36_3 m_36_11) (loopAt 11 (bodyOf Try.f36))) n (pt_36_11.inst y) k) x (fun y => k .ret (px_36_11_0.inst y)) (fun y => k (.exit 2) (px_36_11_1.inst y)) := by kernel_rfl
theorem step_36_11 {R : Type} (N n : Nat) (x : pt_36_11.den) (k : Exit → St → Option R) : iter 1 lv_36_11 lo_36_11 (aexec TT (E_36 (R := R) N) (drawOk TT QQ) (L_36 N) (loopAt 11 (bodyOf Try.f36))) (n + 1) (pt_36_11.inst x) k = B_36_11 N (fun y => iter 1 lv_36_11 lo_36_11 (aexec TT (E_36 (R := R) N) (drawOk TT QQ) (L_36 N) (loopAt 11 (bodyOf Try.f36))) n (pt_36_11.inst y) k) x (fun y => k .ret (px_36_11_0.inst y)) (fun y => k (.exit 2) (px_36_11_1.inst y)) := (gstep_36_11 (l_36_3 N N) (l_36_11 N N) n x k).trans (by kernel_rfl)
theorem eq_36_11 {R : Type} (N : Nat) : ∀ (n : Nat) (x : pt_36_11.den) (k : Exit → St → Option R), iter 1 lv_36_11 lo_36_11 (aexec TT (E_36 (R := R) N) (drawOk TT QQ) (L_36 N) (loopAt 11 (bodyOf Try.f36))) n (pt_36_11.inst x) k = l_36_11 N n x (fun y => k .ret (px_36_11_0.inst y)) (fun y => k (.exit 2) (px_36_11_1.inst y)) :=
  iter_eq (K := Exit → St → Option R) (ks := fun k => k) (l := fun n (x : pt_36_11.den) k => l_36_11 N n x (fun y => k .ret (px_36_11_0.inst y)) (fun y => k (.exit 2) (px_36_11_1.inst y))) (B := fun (rec : pt_36_11.den → Option R) (x : pt_36_11.den) k => B_36_11 N rec x (fun y => k .ret (px_36_11_0.inst y)) (fun y => k (.exit 2) (px_36_11_1.inst y))) (fun _ _ => rfl) (fun _ _ _ => rfl) (fun n x k => step_36_11 N n x k)
theorem rounds_36_11 {R : Type} (N : Nat) : Rounds 1 TT (E_36 (R := R) N) (drawOk TT QQ) (L_36 N) 11 (loopAt 11 (bodyOf Try.f36)) :=
  rounds_of (p := pt_36_11) (l := fun (x : pt_36_11.den) k => l_36_11 N N x (fun y => k .ret (px_36_11_0.inst y)) (fun y => k (.exit 2) (px_36_11_1.inst y))) (fun s k => rfl) (fun x k => eq_36_11 N N x k)
theorem loops_36 : loopsIn (bodyOf Try.f36) = [(3, loopAt 3 (bodyOf Try.f36)), (11, loopAt 11 (bodyOf Try.f36))] := by kernel_rfl
theorem lok_36 {R : Type} (N : Nat) : LOK 1 TT (E_36 (R := R) N) (drawOk TT QQ) (L_36 N) (bodyOf Try.f36) := loops_all loops_36 (by
  simp only [List.forall_mem_cons, List.not_mem_nil, false_implies, implies_true, and_true]
  exact ⟨rounds_36_3 N, rounds_36_11 N⟩)
theorem grun_36 {R : Type} (m_36_3 : Tl_36_3 R) (m_36_11 : Tl_36_11 R) (x : aden ap_36 × hden hp_36) (k : KF R) : fnrun TT (EG_36) (drawOk TT QQ) (LG_36 m_36_3 m_36_11) false Try.f36 (instA ap_36 x.1) (instH hp_36 x.2) k = Q_36 m_36_3 m_36_11 x (fun y => k (Pat.inst (.tup (.fcons (.node (.fcons (.sl 0) (.fcons (.int .i64) (.fnil)))) (.fcons (.bool) (.fcons (.int .i64) (.fnil))))) y.1) (instH [some (.lst (.bool), 4)] y.2)) (fun y => k (Pat.inst (.tup (.fcons (.node (.fcons (.sl 1) (.fcons (.int .i64) (.fnil)))) (.fcons (.bool) (.fcons (.int .i64) (.fnil))))) y.1) (instH [some (.lst (.bool), 4), some (.lst (.bool), 4)] y.2)) := by kernel_rfl
theorem run_36 {R : Type} (N : Nat) (x : aden ap_36 × hden hp_36) (k : KF R) : fnrun TT (E_36 (R := R) N) (drawOk TT QQ) (L_36 N) false Try.f36 (instA ap_36 x.1) (instH hp_36 x.2) k = p_36 N x (fun y => k (Pat.inst (.tup (.fcons (.node (.fcons (.sl 0) (.fcons (.int .i64) (.fnil)))) (.fcons (.bool) (.fcons (.int .i64) (.fnil))))) y.1) (instH [some (.lst (.bool), 4)] y.2)) (fun y => k (Pat.inst (.tup (.fcons (.node (.fcons (.sl 1) (.fcons (.int .i64) (.fnil)))) (.fcons (.bool) (.fcons (.int .i64) (.fnil))))) y.1) (instH [some (.lst (.bool), 4), some (.lst (.bool), 4)] y.2)) := (grun_36 (l_36_3 N N) (l_36_11 N N) x k).trans (by kernel_rfl)
theorem good_36 {R : Type} (N : Nat) : GD (X := R) Try.prog QQ 36 ap_36 hp_36 (fun (x : aden ap_36 × hden hp_36) k => p_36 N x (fun y => k (Pat.inst (.tup (.fcons (.node (.fcons (.sl 0) (.fcons (.int .i64) (.fnil)))) (.fcons (.bool) (.fcons (.int .i64) (.fnil))))) y.1) (instH [some (.lst (.bool), 4)] y.2)) (fun y => k (Pat.inst (.tup (.fcons (.node (.fcons (.sl 1) (.fcons (.int .i64) (.fnil)))) (.fcons (.bool) (.fcons (.int .i64) (.fnil))))) y.1) (instH [some (.lst (.bool), 4), some (.lst (.bool), 4)] y.2))) :=
  gd_loud (E := E_36 N) (p := fun (x : aden ap_36 × hden hp_36) k => p_36 N x (fun y => k (Pat.inst (.tup (.fcons (.node (.fcons (.sl 0) (.fcons (.int .i64) (.fnil)))) (.fcons (.bool) (.fcons (.int .i64) (.fnil))))) y.1) (instH [some (.lst (.bool), 4)] y.2)) (fun y => k (Pat.inst (.tup (.fcons (.node (.fcons (.sl 1) (.fcons (.int .i64) (.fnil)))) (.fcons (.bool) (.fcons (.int .i64) (.fnil))))) y.1) (instH [some (.lst (.bool), 4), some (.lst (.bool), 4)] y.2))) mixed tyok (eok_36 N) Try.func36 (by kernel_rfl) (by kernel_rfl) (by kernel_rfl) (lok_36 N) (fun x k => run_36 N x k)

def lv_31_v2_5 : Live := [(0, none), (1, none), (6, none), (14, none), (15, none), (16, none)]
def pt_31_v2_5 : SPat := ⟨[(0, .ptr 0 []), (1, .ros (.int .i64)), (6, .mp 2), (14, .ros (.int .i64)), (15, .int .i64), (16, .int .i64)], [some (.node (.fcons (.sl 1) (.fcons (.int .i64) (.fcons (.int .i64) (.fnil)))), 146), some (.lst (.bool), 4), some (.kvs (.int .i64) (.bool), 144)]⟩
def px_31_v2_5_0 : SPat := ⟨[(4, .bool), (5, .int .i64)], [some (.node (.fcons (.sl 1) (.fcons (.int .i64) (.fcons (.int .i64) (.fnil)))), 146), some (.lst (.bool), 4)]⟩
def px_31_v2_5_1 : SPat := ⟨[(0, .ptr 0 []), (1, .ros (.int .i64))], [some (.node (.fcons (.sl 1) (.fcons (.int .i64) (.fcons (.int .i64) (.fnil)))), 146), some (.lst (.bool), 4)]⟩
def lo_31_v2_5 : Exit → Live
  | .ret => [(4, none), (5, none)]
  | .exit 0 => [(0, none), (1, none)]
  | _ => []
def B_31_v2_5 {R : Type} (N : Nat) (rec : ((Unit × (List Int) × Unit × (List Int) × Int × Int × Unit) × ((Unit × (Int × (Int × Unit))) × (List Bool) × (List (Int × Bool)) × Unit)) → Option R) (x : ((Unit × (List Int) × Unit × (List Int) × Int × Int × Unit) × ((Unit × (Int × (Int × Unit))) × (List Bool) × (List (Int × Bool)) × Unit))) (κ0 : ((Bool × Int × Unit) × ((Unit × (Int × (Int × Unit))) × (List Bool) × Unit)) → Option R) (κ1 : ((Unit × (List Int) × Unit) × ((Unit × (Int × (Int × Unit))) × (List Bool) × Unit)) → Option R) : Option R :=
let l219 : (List Int) := x.1.2.1
let l220 : (List Int) := x.1.2.2.2.1
let i221 : Int := x.1.2.2.2.2.1
let i222 : Int := x.1.2.2.2.2.2.1
let i223 : Int := x.2.1.2.1
let i224 : Int := x.2.1.2.2.1
let l225 : (List Bool) := x.2.2.1
let m226 : (List (Int × Bool)) := x.2.2.2.1
bif (decide (i222 < i221)) then (
bif decide (0 ≤ i222) then (
bif decide (i222 < ((List.length l220) : Int)) then (
let p227 : Int := (List.getD l220 ((Int.toNat i222)) (Sch.zero (.int .i64)))
bif (decide (p227 < 0)) then (
κ0 ((false, 1, ()), (((), (i223, (i224, ()))), l225, ()))) else (
let i228 : Int := (((List.length l225) : Nat) : Int)
bif (decide (p227 ≥ i228)) then (
κ0 ((false, 1, ()), (((), (i223, (i224, ()))), l225, ()))) else (
bif decide (0 ≤ p227) then (
bif decide (p227 < ((List.length l225) : Int)) then (
let b229 : Bool := (List.getD l225 ((Int.toNat p227)) (Sch.zero (.bool)))
bif b229 then (
κ0 ((false, 15, ()), (((), (i223, (i224, ()))), l225, ()))) else (
let b230 : Bool := Option.getD (kvGet (.int .i64) p227 m226) (Sch.zero (.bool))
bif b230 then (
κ0 ((false, 15, ()), (((), (i223, (i224, ()))), l225, ()))) else (
let m231 : (List (Int × Bool)) := kvPut (.int .i64) p227 true m226
let i232 : Int := addA .i64 i222 1
rec (((), l219, (), l220, i221, i232, ()), (((), (i223, (i224, ()))), l225, m231, ()))))) else none) else none))) else none) else none) else (
κ1 (((), l219, ()), (((), (i223, (i224, ()))), l225, ())))
def l_31_v2_5 {R : Type} (N : Nat) : Nat → ((Unit × (List Int) × Unit × (List Int) × Int × Int × Unit) × ((Unit × (Int × (Int × Unit))) × (List Bool) × (List (Int × Bool)) × Unit)) → (((Bool × Int × Unit) × ((Unit × (Int × (Int × Unit))) × (List Bool) × Unit)) → Option R) → (((Unit × (List Int) × Unit) × ((Unit × (Int × (Int × Unit))) × (List Bool) × Unit)) → Option R) → Option R
  | 0, _, _, _ => none
  | n + 1, x, κ0, κ1 => B_31_v2_5 N (fun y => l_31_v2_5 N n y κ0 κ1) x κ0 κ1
def lv_31_v2_14 : Live := [(0, none), (48, none), (49, none), (50, none)]
def pt_31_v2_14 : SPat := ⟨[(0, .ptr 0 []), (48, .ros (.int .i64)), (49, .int .i64), (50, .int .i64)], [some (.node (.fcons (.sl 1) (.fcons (.int .i64) (.fcons (.int .i64) (.fnil)))), 146), some (.lst (.bool), 4)]⟩
def px_31_v2_14_0 : SPat := ⟨[(0, .ptr 0 [])], [some (.node (.fcons (.sl 1) (.fcons (.int .i64) (.fcons (.int .i64) (.fnil)))), 146), some (.lst (.bool), 4)]⟩
def lo_31_v2_14 : Exit → Live
  | .exit 3 => [(0, none)]
  | _ => []
def B_31_v2_14 {R : Type} (N : Nat) (rec : ((Unit × (List Int) × Int × Int × Unit) × ((Unit × (Int × (Int × Unit))) × (List Bool) × Unit)) → Option R) (x : ((Unit × (List Int) × Int × Int × Unit) × ((Unit × (Int × (Int × Unit))) × (List Bool) × Unit))) (κ0 : ((Unit × Unit) × ((Unit × (Int × (Int × Unit))) × (List Bool) × Unit)) → Option R) : Option R :=
let l245 : (List Int) := x.1.2.1
let i246 : Int := x.1.2.2.1
let i247 : Int := x.1.2.2.2.1
let i248 : Int := x.2.1.2.1
let i249 : Int := x.2.1.2.2.1
let l250 : (List Bool) := x.2.2.1
bif (decide (i247 < i246)) then (
bif decide (0 ≤ i247) then (
bif decide (i247 < ((List.length l245) : Int)) then (
let p251 : Int := (List.getD l245 ((Int.toNat i247)) (Sch.zero (.int .i64)))
bif decide (0 ≤ p251) then (
bif decide (p251 < ((List.length l250) : Int)) then (
let l252 : (List Bool) := (List.set l250 ((Int.toNat p251)) true)
let i253 : Int := addA .i64 i248 1
let i254 : Int := addA .i64 i247 1
rec (((), l245, i246, i254, ()), (((), (i253, (i249, ()))), l252, ()))) else none) else none) else none) else none) else (
κ0 (((), ()), (((), (i248, (i249, ()))), l250, ())))
def l_31_v2_14 {R : Type} (N : Nat) : Nat → ((Unit × (List Int) × Int × Int × Unit) × ((Unit × (Int × (Int × Unit))) × (List Bool) × Unit)) → (((Unit × Unit) × ((Unit × (Int × (Int × Unit))) × (List Bool) × Unit)) → Option R) → Option R
  | 0, _, _ => none
  | n + 1, x, κ0 => B_31_v2_14 N (fun y => l_31_v2_14 N n y κ0) x κ0
def ap_31_v2 : List Pat := [.ptr 0 [], .ros (.int .i64)]
def hp_31_v2 : List (Option (Pat × Nat)) := [some (.node (.fcons (.sl 1) (.fcons (.int .i64) (.fcons (.int .i64) (.fnil)))), 146), some (.lst (.bool), 4)]
def p_31_v2 {R : Type} (N : Nat) (x : (Unit × (List Int) × Unit) × ((Unit × (Int × (Int × Unit))) × (List Bool) × Unit)) (κ0 : ((Bool × (Int × Unit)) × ((Unit × (Int × (Int × Unit))) × (List Bool) × Unit)) → Option R) : Option R :=
let l214 : (List Int) := x.1.2.1
let i215 : Int := x.2.1.2.1
let i216 : Int := x.2.1.2.2.1
let l217 : (List Bool) := x.2.2.1
let i218 : Int := (((List.length l214) : Nat) : Int)
l_31_v2_5 N N (((), l214, (), l214, i218, 0, ()), (((), (i215, (i216, ()))), l217, ([] : List (Int × Bool)), ())) (fun y233 =>
let b234 : Bool := y233.1.1
let i235 : Int := y233.1.2.1
let i236 : Int := y233.2.1.2.1
let i237 : Int := y233.2.1.2.2.1
let l238 : (List Bool) := y233.2.2.1
κ0 ((b234, (i235, ())), (((), (i236, (i237, ()))), l238, ()))) (fun y239 =>
let l240 : (List Int) := y239.1.2.1
let i241 : Int := y239.2.1.2.1
let i242 : Int := y239.2.1.2.2.1
let l243 : (List Bool) := y239.2.2.1
let i244 : Int := (((List.length l240) : Nat) : Int)
l_31_v2_14 N N (((), l240, i244, 0, ()), (((), (i241, (i242, ()))), l243, ())) (fun y255 =>
let i256 : Int := y255.2.1.2.1
let i257 : Int := y255.2.1.2.2.1
let l258 : (List Bool) := y255.2.2.1
let i259 : Int := (((List.length l258) : Nat) : Int)
bif (decide (i256 < i259)) then (
κ0 ((false, (0, ())), (((), (i256, (i257, ()))), l258, ()))) else (
let l260 : (List Bool) := List.replicate (List.length l258) (Sch.zero (.bool))
let i261 : Int := addA .i64 i257 1
κ0 ((true, (0, ())), (((), (0, (i261, ()))), l260, ())))))

abbrev Tl_31_v2_5 (R : Type) : Type := ((Unit × (List Int) × Unit × (List Int) × Int × Int × Unit) × ((Unit × (Int × (Int × Unit))) × (List Bool) × (List (Int × Bool)) × Unit)) → (((Bool × Int × Unit) × ((Unit × (Int × (Int × Unit))) × (List Bool) × Unit)) → Option R) → (((Unit × (List Int) × Unit) × ((Unit × (Int × (Int × Unit))) × (List Bool) × Unit)) → Option R) → Option R
abbrev Tl_31_v2_14 (R : Type) : Type := ((Unit × (List Int) × Int × Int × Unit) × ((Unit × (Int × (Int × Unit))) × (List Bool) × Unit)) → (((Unit × Unit) × ((Unit × (Int × (Int × Unit))) × (List Bool) × Unit)) → Option R) → Option R
abbrev Tp_31_v2 (R : Type) : Type := (Unit × (List Int) × Unit) × ((Unit × (Int × (Int × Unit))) × (List Bool) × Unit) → (((Bool × (Int × Unit)) × ((Unit × (Int × (Int × Unit))) × (List Bool) × Unit)) → Option R) → Option R
def Q_31_v2 {R : Type} (m_31_v2_5 : Tl_31_v2_5 R) (m_31_v2_14 : Tl_31_v2_14 R) (x : (Unit × (List Int) × Unit) × ((Unit × (Int × (Int × Unit))) × (List Bool) × Unit)) (κ0 : ((Bool × (Int × Unit)) × ((Unit × (Int × (Int × Unit))) × (List Bool) × Unit)) → Option R) : Option R :=
let l214 : (List Int) := x.1.2.1
let i215 : Int := x.2.1.2.1
let i216 : Int := x.2.1.2.2.1
let l217 : (List Bool) := x.2.2.1
let i218 : Int := (((List.length l214) : Nat) : Int)
m_31_v2_5 (((), l214, (), l214, i218, 0, ()), (((), (i215, (i216, ()))), l217, ([] : List (Int × Bool)), ())) (fun y233 =>
let b234 : Bool := y233.1.1
let i235 : Int := y233.1.2.1
let i236 : Int := y233.2.1.2.1
let i237 : Int := y233.2.1.2.2.1
let l238 : (List Bool) := y233.2.2.1
κ0 ((b234, (i235, ())), (((), (i236, (i237, ()))), l238, ()))) (fun y239 =>
let l240 : (List Int) := y239.1.2.1
let i241 : Int := y239.2.1.2.1
let i242 : Int := y239.2.1.2.2.1
let l243 : (List Bool) := y239.2.2.1
let i244 : Int := (((List.length l240) : Nat) : Int)
m_31_v2_14 (((), l240, i244, 0, ()), (((), (i241, (i242, ()))), l243, ())) (fun y255 =>
let i256 : Int := y255.2.1.2.1
let i257 : Int := y255.2.1.2.2.1
let l258 : (List Bool) := y255.2.2.1
let i259 : Int := (((List.length l258) : Nat) : Int)
bif (decide (i256 < i259)) then (
κ0 ((false, (0, ())), (((), (i256, (i257, ()))), l258, ()))) else (
let l260 : (List Bool) := List.replicate (List.length l258) (Sch.zero (.bool))
let i261 : Int := addA .i64 i257 1
κ0 ((true, (0, ())), (((), (0, (i261, ()))), l260, ())))))
def C_31_v2_5 {R : Type} (m_31_v2_5 : Tl_31_v2_5 R) (m_31_v2_14 : Tl_31_v2_14 R) (rec : ((Unit × (List Int) × Unit × (List Int) × Int × Int × Unit) × ((Unit × (Int × (Int × Unit))) × (List Bool) × (List (Int × Bool)) × Unit)) → Option R) (x : ((Unit × (List Int) × Unit × (List Int) × Int × Int × Unit) × ((Unit × (Int × (Int × Unit))) × (List Bool) × (List (Int × Bool)) × Unit))) (κ0 : ((Bool × Int × Unit) × ((Unit × (Int × (Int × Unit))) × (List Bool) × Unit)) → Option R) (κ1 : ((Unit × (List Int) × Unit) × ((Unit × (Int × (Int × Unit))) × (List Bool) × Unit)) → Option R) : Option R :=
let l219 : (List Int) := x.1.2.1
let l220 : (List Int) := x.1.2.2.2.1
let i221 : Int := x.1.2.2.2.2.1
let i222 : Int := x.1.2.2.2.2.2.1
let i223 : Int := x.2.1.2.1
let i224 : Int := x.2.1.2.2.1
let l225 : (List Bool) := x.2.2.1
let m226 : (List (Int × Bool)) := x.2.2.2.1
bif (decide (i222 < i221)) then (
bif decide (0 ≤ i222) then (
bif decide (i222 < ((List.length l220) : Int)) then (
let p227 : Int := (List.getD l220 ((Int.toNat i222)) (Sch.zero (.int .i64)))
bif (decide (p227 < 0)) then (
κ0 ((false, 1, ()), (((), (i223, (i224, ()))), l225, ()))) else (
let i228 : Int := (((List.length l225) : Nat) : Int)
bif (decide (p227 ≥ i228)) then (
κ0 ((false, 1, ()), (((), (i223, (i224, ()))), l225, ()))) else (
bif decide (0 ≤ p227) then (
bif decide (p227 < ((List.length l225) : Int)) then (
let b229 : Bool := (List.getD l225 ((Int.toNat p227)) (Sch.zero (.bool)))
bif b229 then (
κ0 ((false, 15, ()), (((), (i223, (i224, ()))), l225, ()))) else (
let b230 : Bool := Option.getD (kvGet (.int .i64) p227 m226) (Sch.zero (.bool))
bif b230 then (
κ0 ((false, 15, ()), (((), (i223, (i224, ()))), l225, ()))) else (
let m231 : (List (Int × Bool)) := kvPut (.int .i64) p227 true m226
let i232 : Int := addA .i64 i222 1
rec (((), l219, (), l220, i221, i232, ()), (((), (i223, (i224, ()))), l225, m231, ()))))) else none) else none))) else none) else none) else (
κ1 (((), l219, ()), (((), (i223, (i224, ()))), l225, ())))
def C_31_v2_14 {R : Type} (m_31_v2_5 : Tl_31_v2_5 R) (m_31_v2_14 : Tl_31_v2_14 R) (rec : ((Unit × (List Int) × Int × Int × Unit) × ((Unit × (Int × (Int × Unit))) × (List Bool) × Unit)) → Option R) (x : ((Unit × (List Int) × Int × Int × Unit) × ((Unit × (Int × (Int × Unit))) × (List Bool) × Unit))) (κ0 : ((Unit × Unit) × ((Unit × (Int × (Int × Unit))) × (List Bool) × Unit)) → Option R) : Option R :=
let l245 : (List Int) := x.1.2.1
let i246 : Int := x.1.2.2.1
let i247 : Int := x.1.2.2.2.1
let i248 : Int := x.2.1.2.1
let i249 : Int := x.2.1.2.2.1
let l250 : (List Bool) := x.2.2.1
bif (decide (i247 < i246)) then (
bif decide (0 ≤ i247) then (
bif decide (i247 < ((List.length l245) : Int)) then (
let p251 : Int := (List.getD l245 ((Int.toNat i247)) (Sch.zero (.int .i64)))
bif decide (0 ≤ p251) then (
bif decide (p251 < ((List.length l250) : Int)) then (
let l252 : (List Bool) := (List.set l250 ((Int.toNat p251)) true)
let i253 : Int := addA .i64 i248 1
let i254 : Int := addA .i64 i247 1
rec (((), l245, i246, i254, ()), (((), (i253, (i249, ()))), l252, ()))) else none) else none) else none) else none) else (
κ0 (((), ()), (((), (i248, (i249, ()))), l250, ())))
def EG_31_v2 {R : Type} : Env R := Env.base QQ LN
def LG_31_v2 {R : Type} (m_31_v2_5 : Tl_31_v2_5 R) (m_31_v2_14 : Tl_31_v2_14 R) : Loops R := ((Loops.none).add 5 (loopBy 2 lv_31_v2_5 pt_31_v2_5 (fun x k => m_31_v2_5 x (fun y => k .ret (px_31_v2_5_0.inst y)) (fun y => k (.exit 0) (px_31_v2_5_1.inst y))))).add 14 (loopBy 2 lv_31_v2_14 pt_31_v2_14 (fun x k => m_31_v2_14 x (fun y => k (.exit 3) (px_31_v2_14_0.inst y))))
def E_31_v2 {R : Type} (N : Nat) : Env R := EG_31_v2
theorem eok_31_v2 {R : Type} (N : Nat) : EK Try.prog (E_31_v2 (R := R) N) := ek_base _ _
def L_31_v2 {R : Type} (N : Nat) : Loops R := LG_31_v2 (l_31_v2_5 N N) (l_31_v2_14 N N)
theorem gstep_31_v2_5 {R : Type} (m_31_v2_5 : Tl_31_v2_5 R) (m_31_v2_14 : Tl_31_v2_14 R) (n : Nat) (x : pt_31_v2_5.den) (k : Exit → St → Option R) : iter 2 lv_31_v2_5 lo_31_v2_5 (aexec TT (EG_31_v2) (drawOk TT QQ) (LG_31_v2 m_31_v2_5 m_31_v2_14) (loopAt 5 (bodyOf Try.f31))) (n + 1) (pt_31_v2_5.inst x) k = C_31_v2_5 m_31_v2_5 m_31_v2_14 (fun y => iter 2 lv_31_v2_5 lo_31_v2_5 (aexec TT (EG_31_v2) (drawOk TT QQ) (LG_31_v2 m_31_v2_5 m_31_v2_14) (loopAt 5 (bodyOf Try.f31))) n (pt_31_v2_5.inst y) k) x (fun y => k .ret (px_31_v2_5_0.inst y)) (fun y => k (.exit 0) (px_31_v2_5_1.inst y)) := by kernel_rfl
theorem step_31_v2_5 {R : Type} (N n : Nat) (x : pt_31_v2_5.den) (k : Exit → St → Option R) : iter 2 lv_31_v2_5 lo_31_v2_5 (aexec TT (E_31_v2 (R := R) N) (drawOk TT QQ) (L_31_v2 N) (loopAt 5 (bodyOf Try.f31))) (n + 1) (pt_31_v2_5.inst x) k = B_31_v2_5 N (fun y => iter 2 lv_31_v2_5 lo_31_v2_5 (aexec TT (E_31_v2 (R := R) N) (drawOk TT QQ) (L_31_v2 N) (loopAt 5 (bodyOf Try.f31))) n (pt_31_v2_5.inst y) k) x (fun y => k .ret (px_31_v2_5_0.inst y)) (fun y => k (.exit 0) (px_31_v2_5_1.inst y)) := (gstep_31_v2_5 (l_31_v2_5 N N) (l_31_v2_14 N N) n x k).trans (by kernel_rfl)
theorem eq_31_v2_5 {R : Type} (N : Nat) : ∀ (n : Nat) (x : pt_31_v2_5.den) (k : Exit → St → Option R), iter 2 lv_31_v2_5 lo_31_v2_5 (aexec TT (E_31_v2 (R := R) N) (drawOk TT QQ) (L_31_v2 N) (loopAt 5 (bodyOf Try.f31))) n (pt_31_v2_5.inst x) k = l_31_v2_5 N n x (fun y => k .ret (px_31_v2_5_0.inst y)) (fun y => k (.exit 0) (px_31_v2_5_1.inst y)) :=
  iter_eq (K := Exit → St → Option R) (ks := fun k => k) (l := fun n (x : pt_31_v2_5.den) k => l_31_v2_5 N n x (fun y => k .ret (px_31_v2_5_0.inst y)) (fun y => k (.exit 0) (px_31_v2_5_1.inst y))) (B := fun (rec : pt_31_v2_5.den → Option R) (x : pt_31_v2_5.den) k => B_31_v2_5 N rec x (fun y => k .ret (px_31_v2_5_0.inst y)) (fun y => k (.exit 0) (px_31_v2_5_1.inst y))) (fun _ _ => rfl) (fun _ _ _ => rfl) (fun n x k => step_31_v2_5 N n x k)
theorem rounds_31_v2_5 {R : Type} (N : Nat) : Rounds 2 TT (E_31_v2 (R := R) N) (drawOk TT QQ) (L_31_v2 N) 5 (loopAt 5 (bodyOf Try.f31)) :=
  rounds_of (p := pt_31_v2_5) (l := fun (x : pt_31_v2_5.den) k => l_31_v2_5 N N x (fun y => k .ret (px_31_v2_5_0.inst y)) (fun y => k (.exit 0) (px_31_v2_5_1.inst y))) (fun s k => rfl) (fun x k => eq_31_v2_5 N N x k)
theorem gstep_31_v2_14 {R : Type} (m_31_v2_5 : Tl_31_v2_5 R) (m_31_v2_14 : Tl_31_v2_14 R) (n : Nat) (x : pt_31_v2_14.den) (k : Exit → St → Option R) : iter 2 lv_31_v2_14 lo_31_v2_14 (aexec TT (EG_31_v2) (drawOk TT QQ) (LG_31_v2 m_31_v2_5 m_31_v2_14) (loopAt 14 (bodyOf Try.f31))) (n + 1) (pt_31_v2_14.inst x) k = C_31_v2_14 m_31_v2_5 m_31_v2_14 (fun y => iter 2 lv_31_v2_14 lo_31_v2_14 (aexec TT (EG_31_v2) (drawOk TT QQ) (LG_31_v2 m_31_v2_5 m_31_v2_14) (loopAt 14 (bodyOf Try.f31))) n (pt_31_v2_14.inst y) k) x (fun y => k (.exit 3) (px_31_v2_14_0.inst y)) := by kernel_rfl
theorem step_31_v2_14 {R : Type} (N n : Nat) (x : pt_31_v2_14.den) (k : Exit → St → Option R) : iter 2 lv_31_v2_14 lo_31_v2_14 (aexec TT (E_31_v2 (R := R) N) (drawOk TT QQ) (L_31_v2 N) (loopAt 14 (bodyOf Try.f31))) (n + 1) (pt_31_v2_14.inst x) k = B_31_v2_14 N (fun y => iter 2 lv_31_v2_14 lo_31_v2_14 (aexec TT (E_31_v2 (R := R) N) (drawOk TT QQ) (L_31_v2 N) (loopAt 14 (bodyOf Try.f31))) n (pt_31_v2_14.inst y) k) x (fun y => k (.exit 3) (px_31_v2_14_0.inst y)) := (gstep_31_v2_14 (l_31_v2_5 N N) (l_31_v2_14 N N) n x k).trans (by kernel_rfl)
theorem eq_31_v2_14 {R : Type} (N : Nat) : ∀ (n : Nat) (x : pt_31_v2_14.den) (k : Exit → St → Option R), iter 2 lv_31_v2_14 lo_31_v2_14 (aexec TT (E_31_v2 (R := R) N) (drawOk TT QQ) (L_31_v2 N) (loopAt 14 (bodyOf Try.f31))) n (pt_31_v2_14.inst x) k = l_31_v2_14 N n x (fun y => k (.exit 3) (px_31_v2_14_0.inst y)) :=
  iter_eq (K := Exit → St → Option R) (ks := fun k => k) (l := fun n (x : pt_31_v2_14.den) k => l_31_v2_14 N n x (fun y => k (.exit 3) (px_31_v2_14_0.inst y))) (B := fun (rec : pt_31_v2_14.den → Option R) (x : pt_31_v2_14.den) k => B_31_v2_14 N rec x (fun y => k (.exit 3) (px_31_v2_14_0.inst y))) (fun _ _ => rfl) (fun _ _ _ => rfl) (fun n x k => step_31_v2_14 N n x k)
theorem rounds_31_v2_14 {R : Type} (N : Nat) : Rounds 2 TT (E_31_v2 (R := R) N) (drawOk TT QQ) (L_31_v2 N) 14 (loopAt 14 (bodyOf Try.f31)) :=
  rounds_of (p := pt_31_v2_14) (l := fun (x : pt_31_v2_14.den) k => l_31_v2_14 N N x (fun y => k (.exit 3) (px_31_v2_14_0.inst y))) (fun s k => rfl) (fun x k => eq_31_v2_14 N N x k)
theorem loops_31_v2 : loopsIn (bodyOf Try.f31) = [(5, loopAt 5 (bodyOf Try.f31)), (14, loopAt 14 (bodyOf Try.f31))] := by kernel_rfl
theorem lok_31_v2 {R : Type} (N : Nat) : LOK 2 TT (E_31_v2 (R := R) N) (drawOk TT QQ) (L_31_v2 N) (bodyOf Try.f31) := loops_all loops_31_v2 (by
  simp only [List.forall_mem_cons, List.not_mem_nil, false_implies, implies_true, and_true]
  exact ⟨rounds_31_v2_5 N, rounds_31_v2_14 N⟩)
theorem grun_31_v2 {R : Type} (m_31_v2_5 : Tl_31_v2_5 R) (m_31_v2_14 : Tl_31_v2_14 R) (x : aden ap_31_v2 × hden hp_31_v2) (k : KF R) : fnrun TT (EG_31_v2) (drawOk TT QQ) (LG_31_v2 m_31_v2_5 m_31_v2_14) true Try.f31 (instA ap_31_v2 x.1) (instH hp_31_v2 x.2) k = Q_31_v2 m_31_v2_5 m_31_v2_14 x (fun y => k (Pat.inst (.tup (.fcons (.bool) (.fcons (.int .i64) (.fnil)))) y.1) (instH [some (.node (.fcons (.sl 1) (.fcons (.int .i64) (.fcons (.int .i64) (.fnil)))), 146), some (.lst (.bool), 4)] y.2)) := by kernel_rfl
theorem run_31_v2 {R : Type} (N : Nat) (x : aden ap_31_v2 × hden hp_31_v2) (k : KF R) : fnrun TT (E_31_v2 (R := R) N) (drawOk TT QQ) (L_31_v2 N) true Try.f31 (instA ap_31_v2 x.1) (instH hp_31_v2 x.2) k = p_31_v2 N x (fun y => k (Pat.inst (.tup (.fcons (.bool) (.fcons (.int .i64) (.fnil)))) y.1) (instH [some (.node (.fcons (.sl 1) (.fcons (.int .i64) (.fcons (.int .i64) (.fnil)))), 146), some (.lst (.bool), 4)] y.2)) := (grun_31_v2 (l_31_v2_5 N N) (l_31_v2_14 N N) x k).trans (by kernel_rfl)
theorem good_31_v2 {R : Type} (N : Nat) : GD (X := R) Try.prog QQ 31 ap_31_v2 hp_31_v2 (fun (x : aden ap_31_v2 × hden hp_31_v2) k => p_31_v2 N x (fun y => k (Pat.inst (.tup (.fcons (.bool) (.fcons (.int .i64) (.fnil)))) y.1) (instH [some (.node (.fcons (.sl 1) (.fcons (.int .i64) (.fcons (.int .i64) (.fnil)))), 146), some (.lst (.bool), 4)] y.2))) :=
  gd_loud (E := E_31_v2 N) (p := fun (x : aden ap_31_v2 × hden hp_31_v2) k => p_31_v2 N x (fun y => k (Pat.inst (.tup (.fcons (.bool) (.fcons (.int .i64) (.fnil)))) y.1) (instH [some (.node (.fcons (.sl 1) (.fcons (.int .i64) (.fcons (.int .i64) (.fnil)))), 146), some (.lst (.bool), 4)] y.2))) mixed tyok (eok_31_v2 N) Try.func31 (by kernel_rfl) (by kernel_rfl) (by kernel_rfl) (lok_31_v2 N) (fun x k => run_31_v2 N x k)

def lv_33_v1_5 : Live := [(3, some (.int .i64, 3)), (11, none), (12, none), (13, none)]
def pt_33_v1_5 : SPat := ⟨[(3, .sl 2), (11, .sl 1), (12, .int .i64), (13, .int .i64)], [some (.node (.fcons (.sl 1) (.fcons (.int .i64) (.fcons (.int .i64) (.fnil)))), 146), some (.lst (.bool), 4), some (.lst (.int .i64), 3)]⟩
def px_33_v1_5_0 : SPat := ⟨[(3, .sl 2)], [some (.node (.fcons (.sl 1) (.fcons (.int .i64) (.fcons (.int .i64) (.fnil)))), 146), some (.lst (.bool), 4), some (.lst (.int .i64), 3)]⟩
def lo_33_v1_5 : Exit → Live
  | .exit 0 => [(3, none)]
  | _ => []
def B_33_v1_5 {R : Type} (N : Nat) (rec : ((Unit × Unit × Int × Int × Unit) × ((Unit × (Int × (Int × Unit))) × (List Bool) × (List Int) × Unit)) → Option R) (x : ((Unit × Unit × Int × Int × Unit) × ((Unit × (Int × (Int × Unit))) × (List Bool) × (List Int) × Unit))) (κ0 : ((Unit × Unit) × ((Unit × (Int × (Int × Unit))) × (List Bool) × (List Int) × Unit)) → Option R) : Option R :=
let i337 : Int := x.1.2.2.1
let i338 : Int := x.1.2.2.2.1
let i339 : Int := x.2.1.2.1
let i340 : Int := x.2.1.2.2.1
let l341 : (List Bool) := x.2.2.1
let l342 : (List Int) := x.2.2.2.1
bif (decide (i338 < i337)) then (
bif decide (0 ≤ i338) then (
bif decide (i338 < ((List.length l341) : Int)) then (
let b343 : Bool := (List.getD l341 ((Int.toNat i338)) (Sch.zero (.bool)))
bif (!b343) then (
let l344 : (List Int) := [i338]
bif (decide ((List.length l342 + List.length l344) * 8 ≤ 140737488355328) && true) then (
let l345 : (List Int) := (l342 ++ l344)
let i346 : Int := addA .i64 i338 1
rec (((), (), i337, i346, ()), (((), (i339, (i340, ()))), l341, l345, ()))) else none) else (
let i347 : Int := addA .i64 i338 1
rec (((), (), i337, i347, ()), (((), (i339, (i340, ()))), l341, l342, ())))) else none) else none) else (
κ0 (((), ()), (((), (i339, (i340, ()))), l341, l342, ())))
def l_33_v1_5 {R : Type} (N : Nat) : Nat → ((Unit × Unit × Int × Int × Unit) × ((Unit × (Int × (Int × Unit))) × (List Bool) × (List Int) × Unit)) → (((Unit × Unit) × ((Unit × (Int × (Int × Unit))) × (List Bool) × (List Int) × Unit)) → Option R) → Option R
  | 0, _, _ => none
  | n + 1, x, κ0 => B_33_v1_5 N (fun y => l_33_v1_5 N n y κ0) x κ0
def ap_33_v1 : List Pat := [.ptr 0 []]
def hp_33_v1 : List (Option (Pat × Nat)) := [some (.node (.fcons (.sl 1) (.fcons (.int .i64) (.fcons (.int .i64) (.fnil)))), 146), some (.lst (.bool), 4)]
def p_33_v1 {R : Type} (N : Nat) (x : (Unit × Unit) × ((Unit × (Int × (Int × Unit))) × (List Bool) × Unit)) (κ0 : (Unit × ((Unit × (Int × (Int × Unit))) × (List Bool) × (List Int) × Unit)) → Option R) : Option R :=
let i324 : Int := x.2.1.2.1
let i325 : Int := x.2.1.2.2.1
let l326 : (List Bool) := x.2.2.1
let i327 : Int := (((List.length l326) : Nat) : Int)
l_33_v1_5 N N (((), (), i327, 0, ()), (((), (i324, (i325, ()))), l326, [], ())) (fun y348 =>
let i349 : Int := y348.2.1.2.1
let i350 : Int := y348.2.1.2.2.1
let l351 : (List Bool) := y348.2.2.1
let l352 : (List Int) := y348.2.2.2.1
κ0 ((), (((), (i349, (i350, ()))), l351, l352, ())))

abbrev Tl_33_v1_5 (R : Type) : Type := ((Unit × Unit × Int × Int × Unit) × ((Unit × (Int × (Int × Unit))) × (List Bool) × (List Int) × Unit)) → (((Unit × Unit) × ((Unit × (Int × (Int × Unit))) × (List Bool) × (List Int) × Unit)) → Option R) → Option R
abbrev Tp_33_v1 (R : Type) : Type := (Unit × Unit) × ((Unit × (Int × (Int × Unit))) × (List Bool) × Unit) → ((Unit × ((Unit × (Int × (Int × Unit))) × (List Bool) × (List Int) × Unit)) → Option R) → Option R
def Q_33_v1 {R : Type} (m_33_v1_5 : Tl_33_v1_5 R) (x : (Unit × Unit) × ((Unit × (Int × (Int × Unit))) × (List Bool) × Unit)) (κ0 : (Unit × ((Unit × (Int × (Int × Unit))) × (List Bool) × (List Int) × Unit)) → Option R) : Option R :=
let i324 : Int := x.2.1.2.1
let i325 : Int := x.2.1.2.2.1
let l326 : (List Bool) := x.2.2.1
let i327 : Int := (((List.length l326) : Nat) : Int)
m_33_v1_5 (((), (), i327, 0, ()), (((), (i324, (i325, ()))), l326, [], ())) (fun y348 =>
let i349 : Int := y348.2.1.2.1
let i350 : Int := y348.2.1.2.2.1
let l351 : (List Bool) := y348.2.2.1
let l352 : (List Int) := y348.2.2.2.1
κ0 ((), (((), (i349, (i350, ()))), l351, l352, ())))
def C_33_v1_5 {R : Type} (m_33_v1_5 : Tl_33_v1_5 R) (rec : ((Unit × Unit × Int × Int × Unit) × ((Unit × (Int × (Int × Unit))) × (List Bool) × (List Int) × Unit)) → Option R) (x : ((Unit × Unit × Int × Int × Unit) × ((Unit × (Int × (Int × Unit))) × (List Bool) × (List Int) × Unit))) (κ0 : ((Unit × Unit) × ((Unit × (Int × (Int × Unit))) × (List Bool) × (List Int) × Unit)) → Option R) : Option R :=
let i337 : Int := x.1.2.2.1
let i338 : Int := x.1.2.2.2.1
let i339 : Int := x.2.1.2.1
let i340 : Int := x.2.1.2.2.1
let l341 : (List Bool) := x.2.2.1
let l342 : (List Int) := x.2.2.2.1
bif (decide (i338 < i337)) then (
bif decide (0 ≤ i338) then (
bif decide (i338 < ((List.length l341) : Int)) then (
let b343 : Bool := (List.getD l341 ((Int.toNat i338)) (Sch.zero (.bool)))
bif (!b343) then (
let l344 : (List Int) := [i338]
bif (decide ((List.length l342 + List.length l344) * 8 ≤ 140737488355328) && true) then (
let l345 : (List Int) := (l342 ++ l344)
let i346 : Int := addA .i64 i338 1
rec (((), (), i337, i346, ()), (((), (i339, (i340, ()))), l341, l345, ()))) else none) else (
let i347 : Int := addA .i64 i338 1
rec (((), (), i337, i347, ()), (((), (i339, (i340, ()))), l341, l342, ())))) else none) else none) else (
κ0 (((), ()), (((), (i339, (i340, ()))), l341, l342, ())))
def EG_33_v1 {R : Type} : Env R := Env.base QQ LN
def LG_33_v1 {R : Type} (m_33_v1_5 : Tl_33_v1_5 R) : Loops R := (Loops.none).add 5 (loopBy 2 lv_33_v1_5 pt_33_v1_5 (fun x k => m_33_v1_5 x (fun y => k (.exit 0) (px_33_v1_5_0.inst y))))
def E_33_v1 {R : Type} (N : Nat) : Env R := EG_33_v1
theorem eok_33_v1 {R : Type} (N : Nat) : EK Try.prog (E_33_v1 (R := R) N) := ek_base _ _
def L_33_v1 {R : Type} (N : Nat) : Loops R := LG_33_v1 (l_33_v1_5 N N)
theorem gstep_33_v1_5 {R : Type} (m_33_v1_5 : Tl_33_v1_5 R) (n : Nat) (x : pt_33_v1_5.den) (k : Exit → St → Option R) : iter 2 lv_33_v1_5 lo_33_v1_5 (aexec TT (EG_33_v1) (drawOk TT QQ) (LG_33_v1 m_33_v1_5) (loopAt 5 (bodyOf Try.f33))) (n + 1) (pt_33_v1_5.inst x) k = C_33_v1_5 m_33_v1_5 (fun y => iter 2 lv_33_v1_5 lo_33_v1_5 (aexec TT (EG_33_v1) (drawOk TT QQ) (LG_33_v1 m_33_v1_5) (loopAt 5 (bodyOf Try.f33))) n (pt_33_v1_5.inst y) k) x (fun y => k (.exit 0) (px_33_v1_5_0.inst y)) := by kernel_rfl
theorem step_33_v1_5 {R : Type} (N n : Nat) (x : pt_33_v1_5.den) (k : Exit → St → Option R) : iter 2 lv_33_v1_5 lo_33_v1_5 (aexec TT (E_33_v1 (R := R) N) (drawOk TT QQ) (L_33_v1 N) (loopAt 5 (bodyOf Try.f33))) (n + 1) (pt_33_v1_5.inst x) k = B_33_v1_5 N (fun y => iter 2 lv_33_v1_5 lo_33_v1_5 (aexec TT (E_33_v1 (R := R) N) (drawOk TT QQ) (L_33_v1 N) (loopAt 5 (bodyOf Try.f33))) n (pt_33_v1_5.inst y) k) x (fun y => k (.exit 0) (px_33_v1_5_0.inst y)) := (gstep_33_v1_5 (l_33_v1_5 N N) n x k).trans (by kernel_rfl)
theorem eq_33_v1_5 {R : Type} (N : Nat) : ∀ (n : Nat) (x : pt_33_v1_5.den) (k : Exit → St → Option R), iter 2 lv_33_v1_5 lo_33_v1_5 (aexec TT (E_33_v1 (R := R) N) (drawOk TT QQ) (L_33_v1 N) (loopAt 5 (bodyOf Try.f33))) n (pt_33_v1_5.inst x) k = l_33_v1_5 N n x (fun y => k (.exit 0) (px_33_v1_5_0.inst y)) :=
  iter_eq (K := Exit → St → Option R) (ks := fun k => k) (l := fun n (x : pt_33_v1_5.den) k => l_33_v1_5 N n x (fun y => k (.exit 0) (px_33_v1_5_0.inst y))) (B := fun (rec : pt_33_v1_5.den → Option R) (x : pt_33_v1_5.den) k => B_33_v1_5 N rec x (fun y => k (.exit 0) (px_33_v1_5_0.inst y))) (fun _ _ => rfl) (fun _ _ _ => rfl) (fun n x k => step_33_v1_5 N n x k)
theorem rounds_33_v1_5 {R : Type} (N : Nat) : Rounds 2 TT (E_33_v1 (R := R) N) (drawOk TT QQ) (L_33_v1 N) 5 (loopAt 5 (bodyOf Try.f33)) :=
  rounds_of (p := pt_33_v1_5) (l := fun (x : pt_33_v1_5.den) k => l_33_v1_5 N N x (fun y => k (.exit 0) (px_33_v1_5_0.inst y))) (fun s k => rfl) (fun x k => eq_33_v1_5 N N x k)
theorem loops_33_v1 : loopsIn (bodyOf Try.f33) = [(5, loopAt 5 (bodyOf Try.f33))] := by kernel_rfl
theorem lok_33_v1 {R : Type} (N : Nat) : LOK 2 TT (E_33_v1 (R := R) N) (drawOk TT QQ) (L_33_v1 N) (bodyOf Try.f33) := loops_all loops_33_v1 (by
  simp only [List.forall_mem_cons, List.not_mem_nil, false_implies, implies_true, and_true]
  exact rounds_33_v1_5 N)
theorem grun_33_v1 {R : Type} (m_33_v1_5 : Tl_33_v1_5 R) (x : aden ap_33_v1 × hden hp_33_v1) (k : KF R) : fnrun TT (EG_33_v1) (drawOk TT QQ) (LG_33_v1 m_33_v1_5) false Try.f33 (instA ap_33_v1 x.1) (instH hp_33_v1 x.2) k = Q_33_v1 m_33_v1_5 x (fun y => k (Pat.inst (.sl 2) y.1) (instH [some (.node (.fcons (.sl 1) (.fcons (.int .i64) (.fcons (.int .i64) (.fnil)))), 146), some (.lst (.bool), 4), some (.lst (.int .i64), 3)] y.2)) := by kernel_rfl
theorem run_33_v1 {R : Type} (N : Nat) (x : aden ap_33_v1 × hden hp_33_v1) (k : KF R) : fnrun TT (E_33_v1 (R := R) N) (drawOk TT QQ) (L_33_v1 N) false Try.f33 (instA ap_33_v1 x.1) (instH hp_33_v1 x.2) k = p_33_v1 N x (fun y => k (Pat.inst (.sl 2) y.1) (instH [some (.node (.fcons (.sl 1) (.fcons (.int .i64) (.fcons (.int .i64) (.fnil)))), 146), some (.lst (.bool), 4), some (.lst (.int .i64), 3)] y.2)) := (grun_33_v1 (l_33_v1_5 N N) x k).trans (by kernel_rfl)
theorem good_33_v1 {R : Type} (N : Nat) : GD (X := R) Try.prog QQ 33 ap_33_v1 hp_33_v1 (fun (x : aden ap_33_v1 × hden hp_33_v1) k => p_33_v1 N x (fun y => k (Pat.inst (.sl 2) y.1) (instH [some (.node (.fcons (.sl 1) (.fcons (.int .i64) (.fcons (.int .i64) (.fnil)))), 146), some (.lst (.bool), 4), some (.lst (.int .i64), 3)] y.2))) :=
  gd_loud (E := E_33_v1 N) (p := fun (x : aden ap_33_v1 × hden hp_33_v1) k => p_33_v1 N x (fun y => k (Pat.inst (.sl 2) y.1) (instH [some (.node (.fcons (.sl 1) (.fcons (.int .i64) (.fcons (.int .i64) (.fnil)))), 146), some (.lst (.bool), 4), some (.lst (.int .i64), 3)] y.2))) mixed tyok (eok_33_v1 N) Try.func33 (by kernel_rfl) (by kernel_rfl) (by kernel_rfl) (lok_33_v1 N) (fun x k => run_33_v1 N x k)

def lv_6_25 : Live := [(0, none), (2, none), (10, none), (11, none), (12, none), (20, some (.int .i64, 3)), (81, none), (82, none), (83, none), (113, none), (114, none), (115, none)]
def pt_6_25 : SPat := ⟨[(0, .int .i64), (2, .int .i64), (10, .ptr 0 []), (11, .int .i64), (12, .ptr 2 []), (20, .sl 4), (81, .ros (.sl (.int .i64))), (82, .int .i64), (83, .int .i64), (113, .sl 3), (114, .int .i64), (115, .int .i64)], [some (.node (.fcons (.sl 1) (.fcons (.int .i64) (.fcons (.int .i64) (.fnil)))), 146), some (.lst (.bool), 4), some (.node (.fcons (.sl 3) (.fcons (.int .i64) (.fnil))), 56), some (.lst (.bool), 4), some (.lst (.int .i64), 3)]⟩
def px_6_25_0 : SPat := ⟨[(6, .bool)], []⟩
def px_6_25_1 : SPat := ⟨[(0, .int .i64), (2, .int .i64), (10, .ptr 0 []), (11, .int .i64), (12, .ptr 2 []), (20, .sl 4), (81, .ros (.sl (.int .i64))), (82, .int .i64), (83, .int .i64)], [some (.node (.fcons (.sl 1) (.fcons (.int .i64) (.fcons (.int .i64) (.fnil)))), 146), some (.lst (.bool), 4), some (.node (.fcons (.sl 3) (.fcons (.int .i64) (.fnil))), 56), some (.lst (.bool), 4), some (.lst (.int .i64), 3)]⟩
def lo_6_25 : Exit → Live
  | .ret => [(6, none)]
  | .exit 2 => [(0, none), (2, none), (10, none), (11, none), (12, none), (20, none), (81, none), (82, none), (83, none)]
  | _ => []
def B_6_25 {R : Type} (N : Nat) (rec : ((Int × Int × Unit × Int × Unit × Unit × (List (List Int)) × Int × Int × Unit × Int × Int × Unit) × ((Unit × (Int × (Int × Unit))) × (List Bool) × (Unit × (Int × Unit)) × (List Bool) × (List Int) × Unit)) → Option R) (x : ((Int × Int × Unit × Int × Unit × Unit × (List (List Int)) × Int × Int × Unit × Int × Int × Unit) × ((Unit × (Int × (Int × Unit))) × (List Bool) × (Unit × (Int × Unit)) × (List Bool) × (List Int) × Unit))) (κ0 : ((Bool × Unit) × (Unit)) → Option R) (κ1 : ((Int × Int × Unit × Int × Unit × Unit × (List (List Int)) × Int × Int × Unit) × ((Unit × (Int × (Int × Unit))) × (List Bool) × (Unit × (Int × Unit)) × (List Bool) × (List Int) × Unit)) → Option R) : Option R :=
let i837 : Int := x.1.1
let i838 : Int := x.1.2.1
let i839 : Int := x.1.2.2.2.1
let l840 : (List (List Int)) := x.1.2.2.2.2.2.2.1
let i841 : Int := x.1.2.2.2.2.2.2.2.1
let i842 : Int := x.1.2.2.2.2.2.2.2.2.1
let i843 : Int := x.1.2.2.2.2.2.2.2.2.2.2.1
let i844 : Int := x.1.2.2.2.2.2.2.2.2.2.2.2.1
let i845 : Int := x.2.1.2.1
let i846 : Int := x.2.1.2.2.1
let l847 : (List Bool) := x.2.2.1
let i848 : Int := x.2.2.2.1.2.1
let l849 : (List Bool) := x.2.2.2.2.1
let l850 : (List Int) := x.2.2.2.2.2.1
bif (decide (i844 < i843)) then (
bif decide (0 ≤ i844) then (
bif decide (i844 < ((List.length l849) : Int)) then (
let b851 : Bool := (List.getD l849 ((Int.toNat i844)) (Sch.zero (.bool)))
p_32_v1 N (((), i844, ()), (((), (i845, (i846, ()))), l847, ())) (fun y852 =>
let b853 : Bool := y852
bif (!(b853 == b851)) then (
κ0 ((false, ()), ())) else (
bif (!b851) then (
let l854 : (List Int) := [i844]
bif (decide ((List.length l850 + List.length l854) * 8 ≤ 140737488355328) && true) then (
let l855 : (List Int) := (l850 ++ l854)
let i856 : Int := addA .i64 i844 1
rec ((i837, i838, (), i839, (), (), l840, i841, i842, (), i843, i856, ()), (((), (i845, (i846, ()))), l847, ((), (i848, ())), l849, l855, ()))) else none) else (
let i857 : Int := addA .i64 i844 1
rec ((i837, i838, (), i839, (), (), l840, i841, i842, (), i843, i857, ()), (((), (i845, (i846, ()))), l847, ((), (i848, ())), l849, l850, ())))))) else none) else none) else (
κ1 ((i837, i838, (), i839, (), (), l840, i841, i842, ()), (((), (i845, (i846, ()))), l847, ((), (i848, ())), l849, l850, ())))
def l_6_25 {R : Type} (N : Nat) : Nat → ((Int × Int × Unit × Int × Unit × Unit × (List (List Int)) × Int × Int × Unit × Int × Int × Unit) × ((Unit × (Int × (Int × Unit))) × (List Bool) × (Unit × (Int × Unit)) × (List Bool) × (List Int) × Unit)) → (((Bool × Unit) × (Unit)) → Option R) → (((Int × Int × Unit × Int × Unit × Unit × (List (List Int)) × Int × Int × Unit) × ((Unit × (Int × (Int × Unit))) × (List Bool) × (Unit × (Int × Unit)) × (List Bool) × (List Int) × Unit)) → Option R) → Option R
  | 0, _, _, _ => none
  | n + 1, x, κ0, κ1 => B_6_25 N (fun y => l_6_25 N n y κ0 κ1) x κ0 κ1
def lv_6_36 : Live := [(0, none), (2, none), (10, none), (11, none), (12, none), (20, none), (23, none), (81, none), (82, none), (83, none), (161, none), (162, none)]
def pt_6_36 : SPat := ⟨[(0, .int .i64), (2, .int .i64), (10, .ptr 0 []), (11, .int .i64), (12, .ptr 2 []), (20, .sl 4), (23, .sl 5), (81, .ros (.sl (.int .i64))), (82, .int .i64), (83, .int .i64), (161, .int .i64), (162, .int .i64)], [some (.node (.fcons (.sl 1) (.fcons (.int .i64) (.fcons (.int .i64) (.fnil)))), 146), some (.lst (.bool), 4), some (.node (.fcons (.sl 3) (.fcons (.int .i64) (.fnil))), 56), some (.lst (.bool), 4), some (.lst (.int .i64), 3), some (.lst (.int .i64), 3)]⟩
def px_6_36_0 : SPat := ⟨[(6, .bool)], []⟩
def px_6_36_1 : SPat := ⟨[(0, .int .i64), (2, .int .i64), (10, .ptr 0 []), (11, .int .i64), (12, .ptr 2 []), (81, .ros (.sl (.int .i64))), (82, .int .i64), (83, .int .i64)], [some (.node (.fcons (.sl 1) (.fcons (.int .i64) (.fcons (.int .i64) (.fnil)))), 146), some (.lst (.bool), 4), some (.node (.fcons (.sl 3) (.fcons (.int .i64) (.fnil))), 56), some (.lst (.bool), 4)]⟩
def lo_6_36 : Exit → Live
  | .ret => [(6, none)]
  | .exit 4 => [(0, none), (2, none), (10, none), (11, none), (12, none), (81, none), (82, none), (83, none)]
  | _ => []
def B_6_36 {R : Type} (N : Nat) (rec : ((Int × Int × Unit × Int × Unit × Unit × Unit × (List (List Int)) × Int × Int × Int × Int × Unit) × ((Unit × (Int × (Int × Unit))) × (List Bool) × (Unit × (Int × Unit)) × (List Bool) × (List Int) × (List Int) × Unit)) → Option R) (x : ((Int × Int × Unit × Int × Unit × Unit × Unit × (List (List Int)) × Int × Int × Int × Int × Unit) × ((Unit × (Int × (Int × Unit))) × (List Bool) × (Unit × (Int × Unit)) × (List Bool) × (List Int) × (List Int) × Unit))) (κ0 : ((Bool × Unit) × (Unit)) → Option R) (κ1 : ((Int × Int × Unit × Int × Unit × (List (List Int)) × Int × Int × Unit) × ((Unit × (Int × (Int × Unit))) × (List Bool) × (Unit × (Int × Unit)) × (List Bool) × Unit)) → Option R) : Option R :=
let i955 : Int := x.1.1
let i956 : Int := x.1.2.1
let i957 : Int := x.1.2.2.2.1
let l958 : (List (List Int)) := x.1.2.2.2.2.2.2.2.1
let i959 : Int := x.1.2.2.2.2.2.2.2.2.1
let i960 : Int := x.1.2.2.2.2.2.2.2.2.2.1
let i961 : Int := x.1.2.2.2.2.2.2.2.2.2.2.1
let i962 : Int := x.1.2.2.2.2.2.2.2.2.2.2.2.1
let i963 : Int := x.2.1.2.1
let i964 : Int := x.2.1.2.2.1
let l965 : (List Bool) := x.2.2.1
let i966 : Int := x.2.2.2.1.2.1
let l967 : (List Bool) := x.2.2.2.2.1
let l968 : (List Int) := x.2.2.2.2.2.1
let l969 : (List Int) := x.2.2.2.2.2.2.1
bif (decide (i962 < i961)) then (
bif decide (0 ≤ i962) then (
bif decide (i962 < ((List.length l969) : Int)) then (
let i970 : Int := (List.getD l969 ((Int.toNat i962)) (Sch.zero (.int .i64)))
bif decide (0 ≤ i962) then (
bif decide (i962 < ((List.length l968) : Int)) then (
let i971 : Int := (List.getD l968 ((Int.toNat i962)) (Sch.zero (.int .i64)))
bif (i970 != i971) then (
κ0 ((false, ()), ())) else (
let i972 : Int := addA .i64 i962 1
rec ((i955, i956, (), i957, (), (), (), l958, i959, i960, i961, i972, ()), (((), (i963, (i964, ()))), l965, ((), (i966, ())), l967, l968, l969, ())))) else none) else none) else none) else none) else (
κ1 ((i955, i956, (), i957, (), l958, i959, i960, ()), (((), (i963, (i964, ()))), l965, ((), (i966, ())), l967, ())))
def l_6_36 {R : Type} (N : Nat) : Nat → ((Int × Int × Unit × Int × Unit × Unit × Unit × (List (List Int)) × Int × Int × Int × Int × Unit) × ((Unit × (Int × (Int × Unit))) × (List Bool) × (Unit × (Int × Unit)) × (List Bool) × (List Int) × (List Int) × Unit)) → (((Bool × Unit) × (Unit)) → Option R) → (((Int × Int × Unit × Int × Unit × (List (List Int)) × Int × Int × Unit) × ((Unit × (Int × (Int × Unit))) × (List Bool) × (Unit × (Int × Unit)) × (List Bool) × Unit)) → Option R) → Option R
  | 0, _, _, _ => none
  | n + 1, x, κ0, κ1 => B_6_36 N (fun y => l_6_36 N n y κ0 κ1) x κ0 κ1
def lv_6_14 : Live := [(0, none), (2, none), (10, none), (11, none), (12, none), (81, none), (82, none), (83, none)]
def pt_6_14 : SPat := ⟨[(0, .int .i64), (2, .int .i64), (10, .ptr 0 []), (11, .int .i64), (12, .ptr 2 []), (81, .ros (.sl (.int .i64))), (82, .int .i64), (83, .int .i64)], [some (.node (.fcons (.sl 1) (.fcons (.int .i64) (.fcons (.int .i64) (.fnil)))), 146), some (.lst (.bool), 4), some (.node (.fcons (.sl 3) (.fcons (.int .i64) (.fnil))), 56), some (.lst (.bool), 4)]⟩
def px_6_14_0 : SPat := ⟨[(6, .bool)], []⟩
def px_6_14_1 : SPat := ⟨[(11, .int .i64)], []⟩
def lo_6_14 : Exit → Live
  | .ret => [(6, none)]
  | .exit 0 => [(11, none)]
  | _ => []
def B_6_14 {R : Type} (N : Nat) (rec : ((Int × Int × Unit × Int × Unit × (List (List Int)) × Int × Int × Unit) × ((Unit × (Int × (Int × Unit))) × (List Bool) × (Unit × (Int × Unit)) × (List Bool) × Unit)) → Option R) (x : ((Int × Int × Unit × Int × Unit × (List (List Int)) × Int × Int × Unit) × ((Unit × (Int × (Int × Unit))) × (List Bool) × (Unit × (Int × Unit)) × (List Bool) × Unit))) (κ0 : ((Bool × Unit) × (Unit)) → Option R) (κ1 : ((Int × Unit) × (Unit)) → Option R) : Option R :=
let i648 : Int := x.1.1
let i649 : Int := x.1.2.1
let i650 : Int := x.1.2.2.2.1
let l651 : (List (List Int)) := x.1.2.2.2.2.2.1
let i652 : Int := x.1.2.2.2.2.2.2.1
let i653 : Int := x.1.2.2.2.2.2.2.2.1
let i654 : Int := x.2.1.2.1
let i655 : Int := x.2.1.2.2.1
let l656 : (List Bool) := x.2.2.1
let i657 : Int := x.2.2.2.1.2.1
let l658 : (List Bool) := x.2.2.2.2.1
bif (decide (i653 < i652)) then (
bif decide (0 ≤ i653) then (
bif decide (i653 < ((List.length l651) : Int)) then (
let p659 : (List Int) := (List.getD l651 ((Int.toNat i653)) (Sch.zero (.sl (.int .i64))))
let i660 : Int := (((List.length p659) : Nat) : Int)
bif (decide (i660 > 50)) then (
κ0 ((true, ()), ())) else (
p_36 N ((((), (i657, ())), p659, ()), (l658, ())) (fun y661 =>
let i662 : Int := y661.1.1.2.1
let b663 : Bool := y661.1.2.1
let i664 : Int := y661.1.2.2.1
let l665 : (List Bool) := y661.2.1
p_31_v2 N (((), p659, ()), (((), (i654, (i655, ()))), l656, ())) (fun y666 =>
let b667 : Bool := y666.1.1
let i668 : Int := y666.1.2.1
let i669 : Int := y666.2.1.2.1
let i670 : Int := y666.2.1.2.2.1
let l671 : (List Bool) := y666.2.2.1
bif (!(b667 == b663)) then (
κ0 ((false, ()), ())) else (
bif (i668 != i664) then (
κ0 ((false, ()), ())) else (
let i672 : Int := (((List.length l665) : Nat) : Int)
l_6_25 N N ((i648, i649, (), i650, (), (), l651, i652, i653, (), i672, 0, ()), (((), (i669, (i670, ()))), l671, ((), (i662, ())), l665, [], ())) (fun y694 =>
let b695 : Bool := y694.1.1
κ0 ((b695, ()), ())) (fun y696 =>
let i697 : Int := y696.1.1
let i698 : Int := y696.1.2.1
let i699 : Int := y696.1.2.2.2.1
let l700 : (List (List Int)) := y696.1.2.2.2.2.2.2.1
let i701 : Int := y696.1.2.2.2.2.2.2.2.1
let i702 : Int := y696.1.2.2.2.2.2.2.2.2.1
let i703 : Int := y696.2.1.2.1
let i704 : Int := y696.2.1.2.2.1
let l705 : (List Bool) := y696.2.2.1
let i706 : Int := y696.2.2.2.1.2.1
let l707 : (List Bool) := y696.2.2.2.2.1
let l708 : (List Int) := y696.2.2.2.2.2.1
p_33_v1 N (((), ()), (((), (i703, (i704, ()))), l705, ())) (fun y709 =>
let i710 : Int := y709.2.1.2.1
let i711 : Int := y709.2.1.2.2.1
let l712 : (List Bool) := y709.2.2.1
let l713 : (List Int) := y709.2.2.2.1
p_34_v1 N (((), ()), (((), (i710, (i711, ()))), l712, ())) (fun y714 =>
let i715 : Int := y714
bif (i715 != i706) then (
κ0 ((false, ()), ())) else (
let i716 : Int := (((List.length l713) : Nat) : Int)
let i717 : Int := (((List.length l708) : Nat) : Int)
bif (i716 != i717) then (
κ0 ((false, ()), ())) else (
bif (decide (i698 < 0)) then (
p_32_v1 N (((), i698, ()), (((), (i710, (i711, ()))), l712, ())) (fun y718 =>
let b719 : Bool := y718
bif b719 then (
κ0 ((false, ()), ())) else (
let i720 : Int := (((List.length l713) : Nat) : Int)
l_6_36 N N ((i697, i698, (), i699, (), (), (), l700, i701, i702, i720, 0, ()), (((), (i710, (i711, ()))), l712, ((), (i706, ())), l707, l708, l713, ())) (fun y739 =>
let b740 : Bool := y739.1.1
κ0 ((b740, ()), ())) (fun y741 =>
let i742 : Int := y741.1.1
let i743 : Int := y741.1.2.1
let i744 : Int := y741.1.2.2.2.1
let l745 : (List (List Int)) := y741.1.2.2.2.2.2.1
let i746 : Int := y741.1.2.2.2.2.2.2.1
let i747 : Int := y741.1.2.2.2.2.2.2.2.1
let i748 : Int := y741.2.1.2.1
let i749 : Int := y741.2.1.2.2.1
let l750 : (List Bool) := y741.2.2.1
let i751 : Int := y741.2.2.2.1.2.1
let l752 : (List Bool) := y741.2.2.2.2.1
let i753 : Int := addA .i64 i747 1
rec ((i742, i743, (), i744, (), l745, i746, i753, ()), (((), (i748, (i749, ()))), l750, ((), (i751, ())), l752, ())))))) else (
bif (decide (i698 ≥ i697)) then (
p_32_v1 N (((), i698, ()), (((), (i710, (i711, ()))), l712, ())) (fun y754 =>
let b755 : Bool := y754
bif b755 then (
κ0 ((false, ()), ())) else (
let i756 : Int := (((List.length l713) : Nat) : Int)
l_6_36 N N ((i697, i698, (), i699, (), (), (), l700, i701, i702, i756, 0, ()), (((), (i710, (i711, ()))), l712, ((), (i706, ())), l707, l708, l713, ())) (fun y775 =>
let b776 : Bool := y775.1.1
κ0 ((b776, ()), ())) (fun y777 =>
let i778 : Int := y777.1.1
let i779 : Int := y777.1.2.1
let i780 : Int := y777.1.2.2.2.1
let l781 : (List (List Int)) := y777.1.2.2.2.2.2.1
let i782 : Int := y777.1.2.2.2.2.2.2.1
let i783 : Int := y777.1.2.2.2.2.2.2.2.1
let i784 : Int := y777.2.1.2.1
let i785 : Int := y777.2.1.2.2.1
let l786 : (List Bool) := y777.2.2.1
let i787 : Int := y777.2.2.2.1.2.1
let l788 : (List Bool) := y777.2.2.2.2.1
let i789 : Int := addA .i64 i783 1
rec ((i778, i779, (), i780, (), l781, i782, i789, ()), (((), (i784, (i785, ()))), l786, ((), (i787, ())), l788, ())))))) else (
let i790 : Int := (((List.length l713) : Nat) : Int)
l_6_36 N N ((i697, i698, (), i699, (), (), (), l700, i701, i702, i790, 0, ()), (((), (i710, (i711, ()))), l712, ((), (i706, ())), l707, l708, l713, ())) (fun y809 =>
let b810 : Bool := y809.1.1
κ0 ((b810, ()), ())) (fun y811 =>
let i812 : Int := y811.1.1
let i813 : Int := y811.1.2.1
let i814 : Int := y811.1.2.2.2.1
let l815 : (List (List Int)) := y811.1.2.2.2.2.2.1
let i816 : Int := y811.1.2.2.2.2.2.2.1
let i817 : Int := y811.1.2.2.2.2.2.2.2.1
let i818 : Int := y811.2.1.2.1
let i819 : Int := y811.2.1.2.2.1
let l820 : (List Bool) := y811.2.2.1
let i821 : Int := y811.2.2.2.1.2.1
let l822 : (List Bool) := y811.2.2.2.2.1
let i823 : Int := addA .i64 i817 1
rec ((i812, i813, (), i814, (), l815, i816, i823, ()), (((), (i818, (i819, ()))), l820, ((), (i821, ())), l822, ())))))))))))))) (fun y824 =>
let i825 : Int := y824.1.1.2.1
let b826 : Bool := y824.1.2.1
let i827 : Int := y824.1.2.2.1
let l828 : (List Bool) := y824.2.1
let l829 : (List Bool) := y824.2.2.1
p_31_v2 N (((), p659, ()), (((), (i654, (i655, ()))), l656, ())) (fun y830 =>
let b831 : Bool := y830.1.1
let i832 : Int := y830.1.2.1
let i833 : Int := y830.2.1.2.1
let i834 : Int := y830.2.1.2.2.1
let l835 : (List Bool) := y830.2.2.1
bif (!(b831 == b826)) then (
κ0 ((false, ()), ())) else (
bif (i832 != i827) then (
κ0 ((false, ()), ())) else (
let i836 : Int := (((List.length l829) : Nat) : Int)
l_6_25 N N ((i648, i649, (), i650, (), (), l651, i652, i653, (), i836, 0, ()), (((), (i833, (i834, ()))), l835, ((), (i825, ())), l829, [], ())) (fun y858 =>
let b859 : Bool := y858.1.1
κ0 ((b859, ()), ())) (fun y860 =>
let i861 : Int := y860.1.1
let i862 : Int := y860.1.2.1
let i863 : Int := y860.1.2.2.2.1
let l864 : (List (List Int)) := y860.1.2.2.2.2.2.2.1
let i865 : Int := y860.1.2.2.2.2.2.2.2.1
let i866 : Int := y860.1.2.2.2.2.2.2.2.2.1
let i867 : Int := y860.2.1.2.1
let i868 : Int := y860.2.1.2.2.1
let l869 : (List Bool) := y860.2.2.1
let i870 : Int := y860.2.2.2.1.2.1
let l871 : (List Bool) := y860.2.2.2.2.1
let l872 : (List Int) := y860.2.2.2.2.2.1
p_33_v1 N (((), ()), (((), (i867, (i868, ()))), l869, ())) (fun y873 =>
let i874 : Int := y873.2.1.2.1
let i875 : Int := y873.2.1.2.2.1
let l876 : (List Bool) := y873.2.2.1
let l877 : (List Int) := y873.2.2.2.1
p_34_v1 N (((), ()), (((), (i874, (i875, ()))), l876, ())) (fun y878 =>
let i879 : Int := y878
bif (i879 != i870) then (
κ0 ((false, ()), ())) else (
let i880 : Int := (((List.length l877) : Nat) : Int)
let i881 : Int := (((List.length l872) : Nat) : Int)
bif (i880 != i881) then (
κ0 ((false, ()), ())) else (
bif (decide (i862 < 0)) then (
p_32_v1 N (((), i862, ()), (((), (i874, (i875, ()))), l876, ())) (fun y882 =>
let b883 : Bool := y882
bif b883 then (
κ0 ((false, ()), ())) else (
let i884 : Int := (((List.length l877) : Nat) : Int)
l_6_36 N N ((i861, i862, (), i863, (), (), (), l864, i865, i866, i884, 0, ()), (((), (i874, (i875, ()))), l876, ((), (i870, ())), l871, l872, l877, ())) (fun y903 =>
let b904 : Bool := y903.1.1
κ0 ((b904, ()), ())) (fun y905 =>
let i906 : Int := y905.1.1
let i907 : Int := y905.1.2.1
let i908 : Int := y905.1.2.2.2.1
let l909 : (List (List Int)) := y905.1.2.2.2.2.2.1
let i910 : Int := y905.1.2.2.2.2.2.2.1
let i911 : Int := y905.1.2.2.2.2.2.2.2.1
let i912 : Int := y905.2.1.2.1
let i913 : Int := y905.2.1.2.2.1
let l914 : (List Bool) := y905.2.2.1
let i915 : Int := y905.2.2.2.1.2.1
let l916 : (List Bool) := y905.2.2.2.2.1
let i917 : Int := addA .i64 i911 1
rec ((i906, i907, (), i908, (), l909, i910, i917, ()), (((), (i912, (i913, ()))), l914, ((), (i915, ())), l916, ())))))) else (
bif (decide (i862 ≥ i861)) then (
p_32_v1 N (((), i862, ()), (((), (i874, (i875, ()))), l876, ())) (fun y918 =>
let b919 : Bool := y918
bif b919 then (
κ0 ((false, ()), ())) else (
let i920 : Int := (((List.length l877) : Nat) : Int)
l_6_36 N N ((i861, i862, (), i863, (), (), (), l864, i865, i866, i920, 0, ()), (((), (i874, (i875, ()))), l876, ((), (i870, ())), l871, l872, l877, ())) (fun y939 =>
let b940 : Bool := y939.1.1
κ0 ((b940, ()), ())) (fun y941 =>
let i942 : Int := y941.1.1
let i943 : Int := y941.1.2.1
let i944 : Int := y941.1.2.2.2.1
let l945 : (List (List Int)) := y941.1.2.2.2.2.2.1
let i946 : Int := y941.1.2.2.2.2.2.2.1
let i947 : Int := y941.1.2.2.2.2.2.2.2.1
let i948 : Int := y941.2.1.2.1
let i949 : Int := y941.2.1.2.2.1
let l950 : (List Bool) := y941.2.2.1
let i951 : Int := y941.2.2.2.1.2.1
let l952 : (List Bool) := y941.2.2.2.2.1
let i953 : Int := addA .i64 i947 1
rec ((i942, i943, (), i944, (), l945, i946, i953, ()), (((), (i948, (i949, ()))), l950, ((), (i951, ())), l952, ())))))) else (
let i954 : Int := (((List.length l877) : Nat) : Int)
l_6_36 N N ((i861, i862, (), i863, (), (), (), l864, i865, i866, i954, 0, ()), (((), (i874, (i875, ()))), l876, ((), (i870, ())), l871, l872, l877, ())) (fun y973 =>
let b974 : Bool := y973.1.1
κ0 ((b974, ()), ())) (fun y975 =>
let i976 : Int := y975.1.1
let i977 : Int := y975.1.2.1
let i978 : Int := y975.1.2.2.2.1
let l979 : (List (List Int)) := y975.1.2.2.2.2.2.1
let i980 : Int := y975.1.2.2.2.2.2.2.1
let i981 : Int := y975.1.2.2.2.2.2.2.2.1
let i982 : Int := y975.2.1.2.1
let i983 : Int := y975.2.1.2.2.1
let l984 : (List Bool) := y975.2.2.1
let i985 : Int := y975.2.2.2.1.2.1
let l986 : (List Bool) := y975.2.2.2.2.1
let i987 : Int := addA .i64 i981 1
rec ((i976, i977, (), i978, (), l979, i980, i987, ()), (((), (i982, (i983, ()))), l984, ((), (i985, ())), l986, ())))))))))))))))) else none) else none) else (
κ1 ((i650, ()), ()))
def l_6_14 {R : Type} (N : Nat) : Nat → ((Int × Int × Unit × Int × Unit × (List (List Int)) × Int × Int × Unit) × ((Unit × (Int × (Int × Unit))) × (List Bool) × (Unit × (Int × Unit)) × (List Bool) × Unit)) → (((Bool × Unit) × (Unit)) → Option R) → (((Int × Unit) × (Unit)) → Option R) → Option R
  | 0, _, _, _ => none
  | n + 1, x, κ0, κ1 => B_6_14 N (fun y => l_6_14 N n y κ0 κ1) x κ0 κ1
def ap_6 : List Pat := [.int .i64, .ros (.sl (.int .i64)), .int .i64]
def hp_6 : List (Option (Pat × Nat)) := []
def p_6 {R : Type} (N : Nat) (x : (Int × (List (List Int)) × Int × Unit) × (Unit)) (κ0 : (Bool × (Unit)) → Option R) : Option R :=
let i1 : Int := x.1.1
let l2 : (List (List Int)) := x.1.2.1
let i3 : Int := x.1.2.2.1
p_30 N ((), ()) (fun y120 =>
let b121 : Bool := y120
bif (!b121) then (
κ0 (false, ())) else (
let l122 : (List Int) := [0]
p_31 N (((), (), ()), (l122, ())) (fun y123 =>
let b124 : Bool := y123.1.1
let i125 : Int := y123.1.2.1
let l126 : (List Int) := y123.2.1
bif (i125 != 11) then (
κ0 (false, ())) else (
p_32 N (((), 0, ()), ()) (fun y127 =>
let b128 : Bool := y127
bif b128 then (
κ0 (false, ())) else (
p_33 N (((), ()), ()) (fun y129 =>
p_34 N (((), ()), ()) (fun y130 =>
let i131 : Int := y130
bif (i131 != 0) then (
κ0 (false, ())) else (
bif (decide (i1 > 1000)) then (
bif (decide (i1 ≤ 1048576)) then (
κ0 (true, ())) else (
let i132 : Int := (((List.length l2) : Nat) : Int)
bif (decide (i132 > 60)) then (
κ0 (true, ())) else (
p_35 N ((i1, ()), ()) (fun y133 =>
let i134 : Int := y133.1.2.1
bif (decide (i1 < 1)) then (
bif (i134 == 1) then (
κ0 (true, ())) else (
κ0 (false, ()))) else (
bif (decide (i1 > 1048576)) then (
bif (i134 == 1) then (
κ0 (true, ())) else (
κ0 (false, ()))) else (
bif decide (0 ≤ i1) then (
bif decide (i1 ≤ i1) then (
bif decide (((1 : Nat) : Int) * i1 ≤ 281474976710656) then (
bif decide (i1 ≤ 9223372036854775807) then (
let l135 : (List Bool) := List.replicate ((Int.toNat i1)) (Sch.zero (.bool))
let i136 : Int := (((List.length l2) : Nat) : Int)
none) else none) else none) else none) else none))) (fun y137 =>
let i138 : Int := y137.1.2.1
let i139 : Int := y137.2.1.2.1
let i140 : Int := y137.2.1.2.2.1
let l141 : (List Bool) := y137.2.2.1
bif (decide (i1 < 1)) then (
bif (i138 == 1) then (
κ0 (false, ())) else (
κ0 (false, ()))) else (
bif (decide (i1 > 1048576)) then (
bif (i138 == 1) then (
κ0 (false, ())) else (
κ0 (false, ()))) else (
bif decide (0 ≤ i1) then (
bif decide (i1 ≤ i1) then (
bif decide (((1 : Nat) : Int) * i1 ≤ 281474976710656) then (
bif decide (i1 ≤ 9223372036854775807) then (
let l142 : (List Bool) := List.replicate ((Int.toNat i1)) (Sch.zero (.bool))
let i143 : Int := (((List.length l2) : Nat) : Int)
l_6_14 N N ((i1, i3, (), i138, (), l2, i143, 0, ()), (((), (i139, (i140, ()))), l141, ((), (0, ())), l142, ())) (fun y632 =>
let b633 : Bool := y632.1.1
κ0 (b633, ())) (fun y634 =>
let i635 : Int := y634.1.1
κ0 ((i635 == 0), ()))) else none) else none) else none) else none)))))) else (
let i636 : Int := (((List.length l2) : Nat) : Int)
bif (decide (i636 > 60)) then (
κ0 (true, ())) else (
p_35 N ((i1, ()), ()) (fun y637 =>
let i638 : Int := y637.1.2.1
bif (decide (i1 < 1)) then (
bif (i638 == 1) then (
κ0 (true, ())) else (
κ0 (false, ()))) else (
bif (decide (i1 > 1048576)) then (
bif (i638 == 1) then (
κ0 (true, ())) else (
κ0 (false, ()))) else (
bif decide (0 ≤ i1) then (
bif decide (i1 ≤ i1) then (
bif decide (((1 : Nat) : Int) * i1 ≤ 281474976710656) then (
bif decide (i1 ≤ 9223372036854775807) then (
let l639 : (List Bool) := List.replicate ((Int.toNat i1)) (Sch.zero (.bool))
let i640 : Int := (((List.length l2) : Nat) : Int)
none) else none) else none) else none) else none))) (fun y641 =>
let i642 : Int := y641.1.2.1
let i643 : Int := y641.2.1.2.1
let i644 : Int := y641.2.1.2.2.1
let l645 : (List Bool) := y641.2.2.1
bif (decide (i1 < 1)) then (
bif (i642 == 1) then (
κ0 (false, ())) else (
κ0 (false, ()))) else (
bif (decide (i1 > 1048576)) then (
bif (i642 == 1) then (
κ0 (false, ())) else (
κ0 (false, ()))) else (
bif decide (0 ≤ i1) then (
bif decide (i1 ≤ i1) then (
bif decide (((1 : Nat) : Int) * i1 ≤ 281474976710656) then (
bif decide (i1 ≤ 9223372036854775807) then (
let l646 : (List Bool) := List.replicate ((Int.toNat i1)) (Sch.zero (.bool))
let i647 : Int := (((List.length l2) : Nat) : Int)
l_6_14 N N ((i1, i3, (), i642, (), l2, i647, 0, ()), (((), (i643, (i644, ()))), l645, ((), (0, ())), l646, ())) (fun y988 =>
let b989 : Bool := y988.1.1
κ0 (b989, ())) (fun y990 =>
let i991 : Int := y990.1.1
κ0 ((i991 == 0), ()))) else none) else none) else none) else none))))))))))))))

abbrev Tl_6_25 (R : Type) : Type := ((Int × Int × Unit × Int × Unit × Unit × (List (List Int)) × Int × Int × Unit × Int × Int × Unit) × ((Unit × (Int × (Int × Unit))) × (List Bool) × (Unit × (Int × Unit)) × (List Bool) × (List Int) × Unit)) → (((Bool × Unit) × (Unit)) → Option R) → (((Int × Int × Unit × Int × Unit × Unit × (List (List Int)) × Int × Int × Unit) × ((Unit × (Int × (Int × Unit))) × (List Bool) × (Unit × (Int × Unit)) × (List Bool) × (List Int) × Unit)) → Option R) → Option R
abbrev Tl_6_36 (R : Type) : Type := ((Int × Int × Unit × Int × Unit × Unit × Unit × (List (List Int)) × Int × Int × Int × Int × Unit) × ((Unit × (Int × (Int × Unit))) × (List Bool) × (Unit × (Int × Unit)) × (List Bool) × (List Int) × (List Int) × Unit)) → (((Bool × Unit) × (Unit)) → Option R) → (((Int × Int × Unit × Int × Unit × (List (List Int)) × Int × Int × Unit) × ((Unit × (Int × (Int × Unit))) × (List Bool) × (Unit × (Int × Unit)) × (List Bool) × Unit)) → Option R) → Option R
abbrev Tl_6_14 (R : Type) : Type := ((Int × Int × Unit × Int × Unit × (List (List Int)) × Int × Int × Unit) × ((Unit × (Int × (Int × Unit))) × (List Bool) × (Unit × (Int × Unit)) × (List Bool) × Unit)) → (((Bool × Unit) × (Unit)) → Option R) → (((Int × Unit) × (Unit)) → Option R) → Option R
abbrev Tp_6 (R : Type) : Type := (Int × (List (List Int)) × Int × Unit) × (Unit) → ((Bool × (Unit)) → Option R) → Option R
def Q_6 {R : Type} (q_30 : Tp_30 R) (q_31 : Tp_31 R) (q_32 : Tp_32 R) (q_33 : Tp_33 R) (q_34 : Tp_34 R) (q_35 : Tp_35 R) (q_32_v1 : Tp_32_v1 R) (q_36 : Tp_36 R) (q_31_v2 : Tp_31_v2 R) (q_33_v1 : Tp_33_v1 R) (q_34_v1 : Tp_34_v1 R) (m_6_25 : Tl_6_25 R) (m_6_36 : Tl_6_36 R) (m_6_14 : Tl_6_14 R) (x : (Int × (List (List Int)) × Int × Unit) × (Unit)) (κ0 : (Bool × (Unit)) → Option R) : Option R :=
let i1 : Int := x.1.1
let l2 : (List (List Int)) := x.1.2.1
let i3 : Int := x.1.2.2.1
q_30 ((), ()) (fun y120 =>
let b121 : Bool := y120
bif (!b121) then (
κ0 (false, ())) else (
let l122 : (List Int) := [0]
q_31 (((), (), ()), (l122, ())) (fun y123 =>
let b124 : Bool := y123.1.1
let i125 : Int := y123.1.2.1
let l126 : (List Int) := y123.2.1
bif (i125 != 11) then (
κ0 (false, ())) else (
q_32 (((), 0, ()), ()) (fun y127 =>
let b128 : Bool := y127
bif b128 then (
κ0 (false, ())) else (
q_33 (((), ()), ()) (fun y129 =>
q_34 (((), ()), ()) (fun y130 =>
let i131 : Int := y130
bif (i131 != 0) then (
κ0 (false, ())) else (
bif (decide (i1 > 1000)) then (
bif (decide (i1 ≤ 1048576)) then (
κ0 (true, ())) else (
let i132 : Int := (((List.length l2) : Nat) : Int)
bif (decide (i132 > 60)) then (
κ0 (true, ())) else (
q_35 ((i1, ()), ()) (fun y133 =>
let i134 : Int := y133.1.2.1
bif (decide (i1 < 1)) then (
bif (i134 == 1) then (
κ0 (true, ())) else (
κ0 (false, ()))) else (
bif (decide (i1 > 1048576)) then (
bif (i134 == 1) then (
κ0 (true, ())) else (
κ0 (false, ()))) else (
bif decide (0 ≤ i1) then (
bif decide (i1 ≤ i1) then (
bif decide (((1 : Nat) : Int) * i1 ≤ 281474976710656) then (
bif decide (i1 ≤ 9223372036854775807) then (
let l135 : (List Bool) := List.replicate ((Int.toNat i1)) (Sch.zero (.bool))
let i136 : Int := (((List.length l2) : Nat) : Int)
none) else none) else none) else none) else none))) (fun y137 =>
let i138 : Int := y137.1.2.1
let i139 : Int := y137.2.1.2.1
let i140 : Int := y137.2.1.2.2.1
let l141 : (List Bool) := y137.2.2.1
bif (decide (i1 < 1)) then (
bif (i138 == 1) then (
κ0 (false, ())) else (
κ0 (false, ()))) else (
bif (decide (i1 > 1048576)) then (
bif (i138 == 1) then (
κ0 (false, ())) else (
κ0 (false, ()))) else (
bif decide (0 ≤ i1) then (
bif decide (i1 ≤ i1) then (
bif decide (((1 : Nat) : Int) * i1 ≤ 281474976710656) then (
bif decide (i1 ≤ 9223372036854775807) then (
let l142 : (List Bool) := List.replicate ((Int.toNat i1)) (Sch.zero (.bool))
let i143 : Int := (((List.length l2) : Nat) : Int)
m_6_14 ((i1, i3, (), i138, (), l2, i143, 0, ()), (((), (i139, (i140, ()))), l141, ((), (0, ())), l142, ())) (fun y632 =>
let b633 : Bool := y632.1.1
κ0 (b633, ())) (fun y634 =>
let i635 : Int := y634.1.1
κ0 ((i635 == 0), ()))) else none) else none) else none) else none)))))) else (
let i636 : Int := (((List.length l2) : Nat) : Int)
bif (decide (i636 > 60)) then (
κ0 (true, ())) else (
q_35 ((i1, ()), ()) (fun y637 =>
let i638 : Int := y637.1.2.1
bif (decide (i1 < 1)) then (
bif (i638 == 1) then (
κ0 (true, ())) else (
κ0 (false, ()))) else (
bif (decide (i1 > 1048576)) then (
bif (i638 == 1) then (
κ0 (true, ())) else (
κ0 (false, ()))) else (
bif decide (0 ≤ i1) then (
bif decide (i1 ≤ i1) then (
bif decide (((1 : Nat) : Int) * i1 ≤ 281474976710656) then (
bif decide (i1 ≤ 9223372036854775807) then (
let l639 : (List Bool) := List.replicate ((Int.toNat i1)) (Sch.zero (.bool))
let i640 : Int := (((List.length l2) : Nat) : Int)
none) else none) else none) else none) else none))) (fun y641 =>
let i642 : Int := y641.1.2.1
let i643 : Int := y641.2.1.2.1
let i644 : Int := y641.2.1.2.2.1
let l645 : (List Bool) := y641.2.2.1
bif (decide (i1 < 1)) then (
bif (i642 == 1) then (
κ0 (false, ())) else (
κ0 (false, ()))) else (
bif (decide (i1 > 1048576)) then (
bif (i642 == 1) then (
κ0 (false, ())) else (
κ0 (false, ()))) else (
bif decide (0 ≤ i1) then (
bif decide (i1 ≤ i1) then (
bif decide (((1 : Nat) : Int) * i1 ≤ 281474976710656) then (
bif decide (i1 ≤ 9223372036854775807) then (
let l646 : (List Bool) := List.replicate ((Int.toNat i1)) (Sch.zero (.bool))
let i647 : Int := (((List.length l2) : Nat) : Int)
m_6_14 ((i1, i3, (), i642, (), l2, i647, 0, ()), (((), (i643, (i644, ()))), l645, ((), (0, ())), l646, ())) (fun y988 =>
let b989 : Bool := y988.1.1
κ0 (b989, ())) (fun y990 =>
let i991 : Int := y990.1.1
κ0 ((i991 == 0), ()))) else none) else none) else none) else none))))))))))))))
def C_6_25 {R : Type} (q_30 : Tp_30 R) (q_31 : Tp_31 R) (q_32 : Tp_32 R) (q_33 : Tp_33 R) (q_34 : Tp_34 R) (q_35 : Tp_35 R) (q_32_v1 : Tp_32_v1 R) (q_36 : Tp_36 R) (q_31_v2 : Tp_31_v2 R) (q_33_v1 : Tp_33_v1 R) (q_34_v1 : Tp_34_v1 R) (m_6_25 : Tl_6_25 R) (m_6_36 : Tl_6_36 R) (m_6_14 : Tl_6_14 R) (rec : ((Int × Int × Unit × Int × Unit × Unit × (List (List Int)) × Int × Int × Unit × Int × Int × Unit) × ((Unit × (Int × (Int × Unit))) × (List Bool) × (Unit × (Int × Unit)) × (List Bool) × (List Int) × Unit)) → Option R) (x : ((Int × Int × Unit × Int × Unit × Unit × (List (List Int)) × Int × Int × Unit × Int × Int × Unit) × ((Unit × (Int × (Int × Unit))) × (List Bool) × (Unit × (Int × Unit)) × (List Bool) × (List Int) × Unit))) (κ0 : ((Bool × Unit) × (Unit)) → Option R) (κ1 : ((Int × Int × Unit × Int × Unit × Unit × (List (List Int)) × Int × Int × Unit) × ((Unit × (Int × (Int × Unit))) × (List Bool) × (Unit × (Int × Unit)) × (List Bool) × (List Int) × Unit)) → Option R) : Option R :=
let i837 : Int := x.1.1
let i838 : Int := x.1.2.1
let i839 : Int := x.1.2.2.2.1
let l840 : (List (List Int)) := x.1.2.2.2.2.2.2.1
let i841 : Int := x.1.2.2.2.2.2.2.2.1
let i842 : Int := x.1.2.2.2.2.2.2.2.2.1
let i843 : Int := x.1.2.2.2.2.2.2.2.2.2.2.1
let i844 : Int := x.1.2.2.2.2.2.2.2.2.2.2.2.1
let i845 : Int := x.2.1.2.1
let i846 : Int := x.2.1.2.2.1
let l847 : (List Bool) := x.2.2.1
let i848 : Int := x.2.2.2.1.2.1
let l849 : (List Bool) := x.2.2.2.2.1
let l850 : (List Int) := x.2.2.2.2.2.1
bif (decide (i844 < i843)) then (
bif decide (0 ≤ i844) then (
bif decide (i844 < ((List.length l849) : Int)) then (
let b851 : Bool := (List.getD l849 ((Int.toNat i844)) (Sch.zero (.bool)))
q_32_v1 (((), i844, ()), (((), (i845, (i846, ()))), l847, ())) (fun y852 =>
let b853 : Bool := y852
bif (!(b853 == b851)) then (
κ0 ((false, ()), ())) else (
bif (!b851) then (
let l854 : (List Int) := [i844]
bif (decide ((List.length l850 + List.length l854) * 8 ≤ 140737488355328) && true) then (
let l855 : (List Int) := (l850 ++ l854)
let i856 : Int := addA .i64 i844 1
rec ((i837, i838, (), i839, (), (), l840, i841, i842, (), i843, i856, ()), (((), (i845, (i846, ()))), l847, ((), (i848, ())), l849, l855, ()))) else none) else (
let i857 : Int := addA .i64 i844 1
rec ((i837, i838, (), i839, (), (), l840, i841, i842, (), i843, i857, ()), (((), (i845, (i846, ()))), l847, ((), (i848, ())), l849, l850, ())))))) else none) else none) else (
κ1 ((i837, i838, (), i839, (), (), l840, i841, i842, ()), (((), (i845, (i846, ()))), l847, ((), (i848, ())), l849, l850, ())))
def C_6_36 {R : Type} (q_30 : Tp_30 R) (q_31 : Tp_31 R) (q_32 : Tp_32 R) (q_33 : Tp_33 R) (q_34 : Tp_34 R) (q_35 : Tp_35 R) (q_32_v1 : Tp_32_v1 R) (q_36 : Tp_36 R) (q_31_v2 : Tp_31_v2 R) (q_33_v1 : Tp_33_v1 R) (q_34_v1 : Tp_34_v1 R) (m_6_25 : Tl_6_25 R) (m_6_36 : Tl_6_36 R) (m_6_14 : Tl_6_14 R) (rec : ((Int × Int × Unit × Int × Unit × Unit × Unit × (List (List Int)) × Int × Int × Int × Int × Unit) × ((Unit × (Int × (Int × Unit))) × (List Bool) × (Unit × (Int × Unit)) × (List Bool) × (List Int) × (List Int) × Unit)) → Option R) (x : ((Int × Int × Unit × Int × Unit × Unit × Unit × (List (List Int)) × Int × Int × Int × Int × Unit) × ((Unit × (Int × (Int × Unit))) × (List Bool) × (Unit × (Int × Unit)) × (List Bool) × (List Int) × (List Int) × Unit))) (κ0 : ((Bool × Unit) × (Unit)) → Option R) (κ1 : ((Int × Int × Unit × Int × Unit × (List (List Int)) × Int × Int × Unit) × ((Unit × (Int × (Int × Unit))) × (List Bool) × (Unit × (Int × Unit)) × (List Bool) × Unit)) → Option R) : Option R :=
let i955 : Int := x.1.1
let i956 : Int := x.1.2.1
let i957 : Int := x.1.2.2.2.1
let l958 : (List (List Int)) := x.1.2.2.2.2.2.2.2.1
let i959 : Int := x.1.2.2.2.2.2.2.2.2.1
let i960 : Int := x.1.2.2.2.2.2.2.2.2.2.1
let i961 : Int := x.1.2.2.2.2.2.2.2.2.2.2.1
let i962 : Int := x.1.2.2.2.2.2.2.2.2.2.2.2.1
let i963 : Int := x.2.1.2.1
let i964 : Int := x.2.1.2.2.1
let l965 : (List Bool) := x.2.2.1
let i966 : Int := x.2.2.2.1.2.1
let l967 : (List Bool) := x.2.2.2.2.1
let l968 : (List Int) := x.2.2.2.2.2.1
let l969 : (List Int) := x.2.2.2.2.2.2.1
bif (decide (i962 < i961)) then (
bif decide (0 ≤ i962) then (
bif decide (i962 < ((List.length l969) : Int)) then (
let i970 : Int := (List.getD l969 ((Int.toNat i962)) (Sch.zero (.int .i64)))
bif decide (0 ≤ i962) then (
bif decide (i962 < ((List.length l968) : Int)) then (
let i971 : Int := (List.getD l968 ((Int.toNat i962)) (Sch.zero (.int .i64)))
bif (i970 != i971) then (
κ0 ((false, ()), ())) else (
let i972 : Int := addA .i64 i962 1
rec ((i955, i956, (), i957, (), (), (), l958, i959, i960, i961, i972, ()), (((), (i963, (i964, ()))), l965, ((), (i966, ())), l967, l968, l969, ())))) else none) else none) else none) else none) else (
κ1 ((i955, i956, (), i957, (), l958, i959, i960, ()), (((), (i963, (i964, ()))), l965, ((), (i966, ())), l967, ())))
def C_6_14 {R : Type} (q_30 : Tp_30 R) (q_31 : Tp_31 R) (q_32 : Tp_32 R) (q_33 : Tp_33 R) (q_34 : Tp_34 R) (q_35 : Tp_35 R) (q_32_v1 : Tp_32_v1 R) (q_36 : Tp_36 R) (q_31_v2 : Tp_31_v2 R) (q_33_v1 : Tp_33_v1 R) (q_34_v1 : Tp_34_v1 R) (m_6_25 : Tl_6_25 R) (m_6_36 : Tl_6_36 R) (m_6_14 : Tl_6_14 R) (rec : ((Int × Int × Unit × Int × Unit × (List (List Int)) × Int × Int × Unit) × ((Unit × (Int × (Int × Unit))) × (List Bool) × (Unit × (Int × Unit)) × (List Bool) × Unit)) → Option R) (x : ((Int × Int × Unit × Int × Unit × (List (List Int)) × Int × Int × Unit) × ((Unit × (Int × (Int × Unit))) × (List Bool) × (Unit × (Int × Unit)) × (List Bool) × Unit))) (κ0 : ((Bool × Unit) × (Unit)) → Option R) (κ1 : ((Int × Unit) × (Unit)) → Option R) : Option R :=
let i648 : Int := x.1.1
let i649 : Int := x.1.2.1
let i650 : Int := x.1.2.2.2.1
let l651 : (List (List Int)) := x.1.2.2.2.2.2.1
let i652 : Int := x.1.2.2.2.2.2.2.1
let i653 : Int := x.1.2.2.2.2.2.2.2.1
let i654 : Int := x.2.1.2.1
let i655 : Int := x.2.1.2.2.1
let l656 : (List Bool) := x.2.2.1
let i657 : Int := x.2.2.2.1.2.1
let l658 : (List Bool) := x.2.2.2.2.1
bif (decide (i653 < i652)) then (
bif decide (0 ≤ i653) then (
bif decide (i653 < ((List.length l651) : Int)) then (
let p659 : (List Int) := (List.getD l651 ((Int.toNat i653)) (Sch.zero (.sl (.int .i64))))
let i660 : Int := (((List.length p659) : Nat) : Int)
bif (decide (i660 > 50)) then (
κ0 ((true, ()), ())) else (
q_36 ((((), (i657, ())), p659, ()), (l658, ())) (fun y661 =>
let i662 : Int := y661.1.1.2.1
let b663 : Bool := y661.1.2.1
let i664 : Int := y661.1.2.2.1
let l665 : (List Bool) := y661.2.1
q_31_v2 (((), p659, ()), (((), (i654, (i655, ()))), l656, ())) (fun y666 =>
let b667 : Bool := y666.1.1
let i668 : Int := y666.1.2.1
let i669 : Int := y666.2.1.2.1
let i670 : Int := y666.2.1.2.2.1
let l671 : (List Bool) := y666.2.2.1
bif (!(b667 == b663)) then (
κ0 ((false, ()), ())) else (
bif (i668 != i664) then (
κ0 ((false, ()), ())) else (
let i672 : Int := (((List.length l665) : Nat) : Int)
m_6_25 ((i648, i649, (), i650, (), (), l651, i652, i653, (), i672, 0, ()), (((), (i669, (i670, ()))), l671, ((), (i662, ())), l665, [], ())) (fun y694 =>
let b695 : Bool := y694.1.1
κ0 ((b695, ()), ())) (fun y696 =>
let i697 : Int := y696.1.1
let i698 : Int := y696.1.2.1
let i699 : Int := y696.1.2.2.2.1
let l700 : (List (List Int)) := y696.1.2.2.2.2.2.2.1
let i701 : Int := y696.1.2.2.2.2.2.2.2.1
let i702 : Int := y696.1.2.2.2.2.2.2.2.2.1
let i703 : Int := y696.2.1.2.1
let i704 : Int := y696.2.1.2.2.1
let l705 : (List Bool) := y696.2.2.1
let i706 : Int := y696.2.2.2.1.2.1
let l707 : (List Bool) := y696.2.2.2.2.1
let l708 : (List Int) := y696.2.2.2.2.2.1
q_33_v1 (((), ()), (((), (i703, (i704, ()))), l705, ())) (fun y709 =>
let i710 : Int := y709.2.1.2.1
let i711 : Int := y709.2.1.2.2.1
let l712 : (List Bool) := y709.2.2.1
let l713 : (List Int) := y709.2.2.2.1
q_34_v1 (((), ()), (((), (i710, (i711, ()))), l712, ())) (fun y714 =>
let i715 : Int := y714
bif (i715 != i706) then (
κ0 ((false, ()), ())) else (
let i716 : Int := (((List.length l713) : Nat) : Int)
let i717 : Int := (((List.length l708) : Nat) : Int)
bif (i716 != i717) then (
κ0 ((false, ()), ())) else (
bif (decide (i698 < 0)) then (
q_32_v1 (((), i698, ()), (((), (i710, (i711, ()))), l712, ())) (fun y718 =>
let b719 : Bool := y718
bif b719 then (
κ0 ((false, ()), ())) else (
let i720 : Int := (((List.length l713) : Nat) : Int)
m_6_36 ((i697, i698, (), i699, (), (), (), l700, i701, i702, i720, 0, ()), (((), (i710, (i711, ()))), l712, ((), (i706, ())), l707, l708, l713, ())) (fun y739 =>
let b740 : Bool := y739.1.1
κ0 ((b740, ()), ())) (fun y741 =>
let i742 : Int := y741.1.1
let i743 : Int := y741.1.2.1
let i744 : Int := y741.1.2.2.2.1
let l745 : (List (List Int)) := y741.1.2.2.2.2.2.1
let i746 : Int := y741.1.2.2.2.2.2.2.1
let i747 : Int := y741.1.2.2.2.2.2.2.2.1
let i748 : Int := y741.2.1.2.1
let i749 : Int := y741.2.1.2.2.1
let l750 : (List Bool) := y741.2.2.1
let i751 : Int := y741.2.2.2.1.2.1
let l752 : (List Bool) := y741.2.2.2.2.1
let i753 : Int := addA .i64 i747 1
rec ((i742, i743, (), i744, (), l745, i746, i753, ()), (((), (i748, (i749, ()))), l750, ((), (i751, ())), l752, ())))))) else (
bif (decide (i698 ≥ i697)) then (
q_32_v1 (((), i698, ()), (((), (i710, (i711, ()))), l712, ())) (fun y754 =>
let b755 : Bool := y754
bif b755 then (
κ0 ((false, ()), ())) else (
let i756 : Int := (((List.length l713) : Nat) : Int)
m_6_36 ((i697, i698, (), i699, (), (), (), l700, i701, i702, i756, 0, ()), (((), (i710, (i711, ()))), l712, ((), (i706, ())), l707, l708, l713, ())) (fun y775 =>
let b776 : Bool := y775.1.1
κ0 ((b776, ()), ())) (fun y777 =>
let i778 : Int := y777.1.1
let i779 : Int := y777.1.2.1
let i780 : Int := y777.1.2.2.2.1
let l781 : (List (List Int)) := y777.1.2.2.2.2.2.1
let i782 : Int := y777.1.2.2.2.2.2.2.1
let i783 : Int := y777.1.2.2.2.2.2.2.2.1
let i784 : Int := y777.2.1.2.1
let i785 : Int := y777.2.1.2.2.1
let l786 : (List Bool) := y777.2.2.1
let i787 : Int := y777.2.2.2.1.2.1
let l788 : (List Bool) := y777.2.2.2.2.1
let i789 : Int := addA .i64 i783 1
rec ((i778, i779, (), i780, (), l781, i782, i789, ()), (((), (i784, (i785, ()))), l786, ((), (i787, ())), l788, ())))))) else (
let i790 : Int := (((List.length l713) : Nat) : Int)
m_6_36 ((i697, i698, (), i699, (), (), (), l700, i701, i702, i790, 0, ()), (((), (i710, (i711, ()))), l712, ((), (i706, ())), l707, l708, l713, ())) (fun y809 =>
let b810 : Bool := y809.1.1
κ0 ((b810, ()), ())) (fun y811 =>
let i812 : Int := y811.1.1
let i813 : Int := y811.1.2.1
let i814 : Int := y811.1.2.2.2.1
let l815 : (List (List Int)) := y811.1.2.2.2.2.2.1
let i816 : Int := y811.1.2.2.2.2.2.2.1
let i817 : Int := y811.1.2.2.2.2.2.2.2.1
let i818 : Int := y811.2.1.2.1
let i819 : Int := y811.2.1.2.2.1
let l820 : (List Bool) := y811.2.2.1
let i821 : Int := y811.2.2.2.1.2.1
let l822 : (List Bool) := y811.2.2.2.2.1
let i823 : Int := addA .i64 i817 1
rec ((i812, i813, (), i814, (), l815, i816, i823, ()), (((), (i818, (i819, ()))), l820, ((), (i821, ())), l822, ())))))))))))))) (fun y824 =>
let i825 : Int := y824.1.1.2.1
let b826 : Bool := y824.1.2.1
let i827 : Int := y824.1.2.2.1
let l828 : (List Bool) := y824.2.1
let l829 : (List Bool) := y824.2.2.1
q_31_v2 (((), p659, ()), (((), (i654, (i655, ()))), l656, ())) (fun y830 =>
let b831 : Bool := y830.1.1
let i832 : Int := y830.1.2.1
let i833 : Int := y830.2.1.2.1
let i834 : Int := y830.2.1.2.2.1
let l835 : (List Bool) := y830.2.2.1
bif (!(b831 == b826)) then (
κ0 ((false, ()), ())) else (
bif (i832 != i827) then (
κ0 ((false, ()), ())) else (
let i836 : Int := (((List.length l829) : Nat) : Int)
m_6_25 ((i648, i649, (), i650, (), (), l651, i652, i653, (), i836, 0, ()), (((), (i833, (i834, ()))), l835, ((), (i825, ())), l829, [], ())) (fun y858 =>
let b859 : Bool := y858.1.1
κ0 ((b859, ()), ())) (fun y860 =>
let i861 : Int := y860.1.1
let i862 : Int := y860.1.2.1
let i863 : Int := y860.1.2.2.2.1
let l864 : (List (List Int)) := y860.1.2.2.2.2.2.2.1
let i865 : Int := y860.1.2.2.2.2.2.2.2.1
let i866 : Int := y860.1.2.2.2.2.2.2.2.2.1
let i867 : Int := y860.2.1.2.1
let i868 : Int := y860.2.1.2.2.1
let l869 : (List Bool) := y860.2.2.1
let i870 : Int := y860.2.2.2.1.2.1
let l871 : (List Bool) := y860.2.2.2.2.1
let l872 : (List Int) := y860.2.2.2.2.2.1
q_33_v1 (((), ()), (((), (i867, (i868, ()))), l869, ())) (fun y873 =>
let i874 : Int := y873.2.1.2.1
let i875 : Int := y873.2.1.2.2.1
let l876 : (List Bool) := y873.2.2.1
let l877 : (List Int) := y873.2.2.2.1
q_34_v1 (((), ()), (((), (i874, (i875, ()))), l876, ())) (fun y878 =>
let i879 : Int := y878
bif (i879 != i870) then (
κ0 ((false, ()), ())) else (
let i880 : Int := (((List.length l877) : Nat) : Int)
let i881 : Int := (((List.length l872) : Nat) : Int)
bif (i880 != i881) then (
κ0 ((false, ()), ())) else (
bif (decide (i862 < 0)) then (
q_32_v1 (((), i862, ()), (((), (i874, (i875, ()))), l876, ())) (fun y882 =>
let b883 : Bool := y882
bif b883 then (
κ0 ((false, ()), ())) else (
let i884 : Int := (((List.length l877) : Nat) : Int)
m_6_36 ((i861, i862, (), i863, (), (), (), l864, i865, i866, i884, 0, ()), (((), (i874, (i875, ()))), l876, ((), (i870, ())), l871, l872, l877, ())) (fun y903 =>
let b904 : Bool := y903.1.1
κ0 ((b904, ()), ())) (fun y905 =>
let i906 : Int := y905.1.1
let i907 : Int := y905.1.2.1
let i908 : Int := y905.1.2.2.2.1
let l909 : (List (List Int)) := y905.1.2.2.2.2.2.1
let i910 : Int := y905.1.2.2.2.2.2.2.1
let i911 : Int := y905.1.2.2.2.2.2.2.2.1
let i912 : Int := y905.2.1.2.1
let i913 : Int := y905.2.1.2.2.1
let l914 : (List Bool) := y905.2.2.1
let i915 : Int := y905.2.2.2.1.2.1
let l916 : (List Bool) := y905.2.2.2.2.1
let i917 : Int := addA .i64 i911 1
rec ((i906, i907, (), i908, (), l909, i910, i917, ()), (((), (i912, (i913, ()))), l914, ((), (i915, ())), l916, ())))))) else (
bif (decide (i862 ≥ i861)) then (
q_32_v1 (((), i862, ()), (((), (i874, (i875, ()))), l876, ())) (fun y918 =>
let b919 : Bool := y918
bif b919 then (
κ0 ((false, ()), ())) else (
let i920 : Int := (((List.length l877) : Nat) : Int)
m_6_36 ((i861, i862, (), i863, (), (), (), l864, i865, i866, i920, 0, ()), (((), (i874, (i875, ()))), l876, ((), (i870, ())), l871, l872, l877, ())) (fun y939 =>
let b940 : Bool := y939.1.1
κ0 ((b940, ()), ())) (fun y941 =>
let i942 : Int := y941.1.1
let i943 : Int := y941.1.2.1
let i944 : Int := y941.1.2.2.2.1
let l945 : (List (List Int)) := y941.1.2.2.2.2.2.1
let i946 : Int := y941.1.2.2.2.2.2.2.1
let i947 : Int := y941.1.2.2.2.2.2.2.2.1
let i948 : Int := y941.2.1.2.1
let i949 : Int := y941.2.1.2.2.1
let l950 : (List Bool) := y941.2.2.1
let i951 : Int := y941.2.2.2.1.2.1
let l952 : (List Bool) := y941.2.2.2.2.1
let i953 : Int := addA .i64 i947 1
rec ((i942, i943, (), i944, (), l945, i946, i953, ()), (((), (i948, (i949, ()))), l950, ((), (i951, ())), l952, ())))))) else (
let i954 : Int := (((List.length l877) : Nat) : Int)
m_6_36 ((i861, i862, (), i863, (), (), (), l864, i865, i866, i954, 0, ()), (((), (i874, (i875, ()))), l876, ((), (i870, ())), l871, l872, l877, ())) (fun y973 =>
let b974 : Bool := y973.1.1
κ0 ((b974, ()), ())) (fun y975 =>
let i976 : Int := y975.1.1
let i977 : Int := y975.1.2.1
let i978 : Int := y975.1.2.2.2.1
let l979 : (List (List Int)) := y975.1.2.2.2.2.2.1
let i980 : Int := y975.1.2.2.2.2.2.2.1
let i981 : Int := y975.1.2.2.2.2.2.2.2.1
let i982 : Int := y975.2.1.2.1
let i983 : Int := y975.2.1.2.2.1
let l984 : (List Bool) := y975.2.2.1
let i985 : Int := y975.2.2.2.1.2.1
let l986 : (List Bool) := y975.2.2.2.2.1
let i987 : Int := addA .i64 i981 1
rec ((i976, i977, (), i978, (), l979, i980, i987, ()), (((), (i982, (i983, ()))), l984, ((), (i985, ())), l986, ())))))))))))))))) else none) else none) else (
κ1 ((i650, ()), ()))
def EG_6 {R : Type} (q_30 : Tp_30 R) (q_31 : Tp_31 R) (q_32 : Tp_32 R) (q_33 : Tp_33 R) (q_34 : Tp_34 R) (q_35 : Tp_35 R) (q_32_v1 : Tp_32_v1 R) (q_36 : Tp_36 R) (q_31_v2 : Tp_31_v2 R) (q_33_v1 : Tp_33_v1 R) (q_34_v1 : Tp_34_v1 R) : Env R := (((((((((((Env.base QQ LN).add 30 ap_30 hp_30 (fun (x : aden ap_30 × hden hp_30) k => q_30 x (fun y => k (Pat.inst (.bool) y) (instH hp_30 x.2)))).add 31 ap_31 hp_31 (fun (x : aden ap_31 × hden hp_31) k => q_31 x (fun y => k (Pat.inst (.tup (.fcons (.bool) (.fcons (.int .i64) (.fnil)))) y.1) (instH [some (.lst (.int .i64), 3)] y.2)))).add 32 ap_32 hp_32 (fun (x : aden ap_32 × hden hp_32) k => q_32 x (fun y => k (Pat.inst (.bool) y) (instH hp_32 x.2)))).add 33 ap_33 hp_33 (fun (x : aden ap_33 × hden hp_33) k => q_33 x (fun y => k (Pat.inst (.nils) y.1) (instH [] y.2)))).add 34 ap_34 hp_34 (fun (x : aden ap_34 × hden hp_34) k => q_34 x (fun y => k (Pat.inst (.int .i64) y) (instH hp_34 x.2)))).add 35 ap_35 hp_35 (fun (x : aden ap_35 × hden hp_35) k => q_35 x (fun y => k (Pat.inst (.tup (.fcons (.nilp) (.fcons (.int .i64) (.fnil)))) y.1) (instH [] y.2)) (fun y => k (Pat.inst (.tup (.fcons (.ptr 0 []) (.fcons (.int .i64) (.fnil)))) y.1) (instH [some (.node (.fcons (.sl 1) (.fcons (.int .i64) (.fcons (.int .i64) (.fnil)))), 146), some (.lst (.bool), 4)] y.2)))).add 32 ap_32_v1 hp_32_v1 (fun (x : aden ap_32_v1 × hden hp_32_v1) k => q_32_v1 x (fun y => k (Pat.inst (.bool) y) (instH hp_32_v1 x.2)))).add 36 ap_36 hp_36 (fun (x : aden ap_36 × hden hp_36) k => q_36 x (fun y => k (Pat.inst (.tup (.fcons (.node (.fcons (.sl 0) (.fcons (.int .i64) (.fnil)))) (.fcons (.bool) (.fcons (.int .i64) (.fnil))))) y.1) (instH [some (.lst (.bool), 4)] y.2)) (fun y => k (Pat.inst (.tup (.fcons (.node (.fcons (.sl 1) (.fcons (.int .i64) (.fnil)))) (.fcons (.bool) (.fcons (.int .i64) (.fnil))))) y.1) (instH [some (.lst (.bool), 4), some (.lst (.bool), 4)] y.2)))).add 31 ap_31_v2 hp_31_v2 (fun (x : aden ap_31_v2 × hden hp_31_v2) k => q_31_v2 x (fun y => k (Pat.inst (.tup (.fcons (.bool) (.fcons (.int .i64) (.fnil)))) y.1) (instH [some (.node (.fcons (.sl 1) (.fcons (.int .i64) (.fcons (.int .i64) (.fnil)))), 146), some (.lst (.bool), 4)] y.2)))).add 33 ap_33_v1 hp_33_v1 (fun (x : aden ap_33_v1 × hden hp_33_v1) k => q_33_v1 x (fun y => k (Pat.inst (.sl 2) y.1) (instH [some (.node (.fcons (.sl 1) (.fcons (.int .i64) (.fcons (.int .i64) (.fnil)))), 146), some (.lst (.bool), 4), some (.lst (.int .i64), 3)] y.2)))).add 34 ap_34_v1 hp_34_v1 (fun (x : aden ap_34_v1 × hden hp_34_v1) k => q_34_v1 x (fun y => k (Pat.inst (.int .i64) y) (instH hp_34_v1 x.2)))
def LG_6 {R : Type} (m_6_25 : Tl_6_25 R) (m_6_36 : Tl_6_36 R) (m_6_14 : Tl_6_14 R) : Loops R := (((Loops.none).add 25 (loopBy 0 lv_6_25 pt_6_25 (fun x k => m_6_25 x (fun y => k .ret (px_6_25_0.inst y)) (fun y => k (.exit 2) (px_6_25_1.inst y))))).add 36 (loopBy 0 lv_6_36 pt_6_36 (fun x k => m_6_36 x (fun y => k .ret (px_6_36_0.inst y)) (fun y => k (.exit 4) (px_6_36_1.inst y))))).add 14 (loopBy 0 lv_6_14 pt_6_14 (fun x k => m_6_14 x (fun y => k .ret (px_6_14_0.inst y)) (fun y => k (.exit 0) (px_6_14_1.inst y))))
def E_6 {R : Type} (N : Nat) : Env R := EG_6 (p_30 N) (p_31 N) (p_32 N) (p_33 N) (p_34 N) (p_35 N) (p_32_v1 N) (p_36 N) (p_31_v2 N) (p_33_v1 N) (p_34_v1 N)
theorem eok_6 {R : Type} (N : Nat) : EK Try.prog (E_6 (R := R) N) := ek_add (ek_add (ek_add (ek_add (ek_add (ek_add (ek_add (ek_add (ek_add (ek_add (ek_add (ek_base _ _) (good_30 N)) (good_31 N)) (good_32 N)) (good_33 N)) (good_34 N)) (good_35 N)) (good_32_v1 N)) (good_36 N)) (good_31_v2 N)) (good_33_v1 N)) (good_34_v1 N)
def L_6 {R : Type} (N : Nat) : Loops R := LG_6 (l_6_25 N N) (l_6_36 N N) (l_6_14 N N)
theorem gstep_6_25 {R : Type} (q_30 : Tp_30 R) (q_31 : Tp_31 R) (q_32 : Tp_32 R) (q_33 : Tp_33 R) (q_34 : Tp_34 R) (q_35 : Tp_35 R) (q_32_v1 : Tp_32_v1 R) (q_36 : Tp_36 R) (q_31_v2 : Tp_31_v2 R) (q_33_v1 : Tp_33_v1 R) (q_34_v1 : Tp_34_v1 R) (m_6_25 : Tl_6_25 R) (m_6_36 : Tl_6_36 R) (m_6_14 : Tl_6_14 R) (n : Nat) (x : pt_6_25.den) (k : Exit → St → Option R) : iter 0 lv_6_25 lo_6_25 (aexec TT (EG_6 q_30 q_31 q_32 q_33 q_34 q_35 q_32_v1 q_36 q_31_v2 q_33_v1 q_34_v1) (drawOk TT QQ) (LG_6 m_6_25 m_6_36 m_6_14) (loopAt 25 (bodyOf Try.f6))) (n + 1) (pt_6_25.inst x) k = C_6_25 q_30 q_31 q_32 q_33 q_34 q_35 q_32_v1 q_36 q_31_v2 q_33_v1 q_34_v1 m_6_25 m_6_36 m_6_14 (fun y => iter 0 lv_6_25 lo_6_25 (aexec TT (EG_6 q_30 q_31 q_32 q_33 q_34 q_35 q_32_v1 q_36 q_31_v2 q_33_v1 q_34_v1) (drawOk TT QQ) (LG_6 m_6_25 m_6_36 m_6_14) (loopAt 25 (bodyOf Try.f6))) n (pt_6_25.inst y) k) x (fun y => k .ret (px_6_25_0.inst y)) (fun y => k (.exit 2) (px_6_25_1.inst y)) := by kernel_rfl
theorem step_6_25 {R : Type} (N n : Nat) (x : pt_6_25.den) (k : Exit → St → Option R) : iter 0 lv_6_25 lo_6_25 (aexec TT (E_6 (R := R) N) (drawOk TT QQ) (L_6 N) (loopAt 25 (bodyOf Try.f6))) (n + 1) (pt_6_25.inst x) k = B_6_25 N (fun y => iter 0 lv_6_25 lo_6_25 (aexec TT (E_6 (R := R) N) (drawOk TT QQ) (L_6 N) (loopAt 25 (bodyOf Try.f6))) n (pt_6_25.inst y) k) x (fun y => k .ret (px_6_25_0.inst y)) (fun y => k (.exit 2) (px_6_25_1.inst y)) := (gstep_6_25 (p_30 N) (p_31 N) (p_32 N) (p_33 N) (p_34 N) (p_35 N) (p_32_v1 N) (p_36 N) (p_31_v2 N) (p_33_v1 N) (p_34_v1 N) (l_6_25 N N) (l_6_36 N N) (l_6_14 N N) n x k).trans (by kernel_rfl)
theorem eq_6_25 {R : Type} (N : Nat) : ∀ (n : Nat) (x : pt_6_25.den) (k : Exit → St → Option R), iter 0 lv_6_25 lo_6_25 (aexec TT (E_6 (R := R) N) (drawOk TT QQ) (L_6 N) (loopAt 25 (bodyOf Try.f6))) n (pt_6_25.inst x) k = l_6_25 N n x (fun y => k .ret (px_6_25_0.inst y)) (fun y => k (.exit 2) (px_6_25_1.inst y)) :=
  iter_eq (K := Exit → St → Option R) (ks := fun k => k) (l := fun n (x : pt_6_25.den) k => l_6_25 N n x (fun y => k .ret (px_6_25_0.inst y)) (fun y => k (.exit 2) (px_6_25_1.inst y))) (B := fun (rec : pt_6_25.den → Option R) (x : pt_6_25.den) k => B_6_25 N rec x (fun y => k .ret (px_6_25_0.inst y)) (fun y => k (.exit 2) (px_6_25_1.inst y))) (fun _ _ => rfl) (fun _ _ _ => rfl) (fun n x k => step_6_25 N n x k)
theorem rounds_6_25 {R : Type} (N : Nat) : Rounds 0 TT (E_6 (R := R) N) (drawOk TT QQ) (L_6 N) 25 (loopAt 25 (bodyOf Try.f6)) :=
  rounds_of (p := pt_6_25) (l := fun (x : pt_6_25.den) k => l_6_25 N N x (fun y => k .ret (px_6_25_0.inst y)) (fun y => k (.exit 2) (px_6_25_1.inst y))) (fun s k => rfl) (fun x k => eq_6_25 N N x k)
theorem gstep_6_36 {R : Type} (q_30 : Tp_30 R) (q_31 : Tp_31 R) (q_32 : Tp_32 R) (q_33 : Tp_33 R) (q_34 : Tp_34 R) (q_35 : Tp_35 R) (q_32_v1 : Tp_32_v1 R) (q_36 : Tp_36 R) (q_31_v2 : Tp_31_v2 R) (q_33_v1 : Tp_33_v1 R) (q_34_v1 : Tp_34_v1 R) (m_6_25 : Tl_6_25 R) (m_6_36 : Tl_6_36 R) (m_6_14 : Tl_6_14 R) (n : Nat) (x : pt_6_36.den) (k : Exit → St → Option R) : iter 0 lv_6_36 lo_6_36 (aexec TT (EG_6 q_30 q_31 q_32 q_33 q_34 q_35 q_32_v1 q_36 q_31_v2 q_33_v1 q_34_v1) (drawOk TT QQ) (LG_6 m_6_25 m_6_36 m_6_14) (loopAt 36 (bodyOf Try.f6))) (n + 1) (pt_6_36.inst x) k = C_6_36 q_30 q_31 q_32 q_33 q_34 q_35 q_32_v1 q_36 q_31_v2 q_33_v1 q_34_v1 m_6_25 m_6_36 m_6_14 (fun y => iter 0 lv_6_36 lo_6_36 (aexec TT (EG_6 q_30 q_31 q_32 q_33 q_34 q_35 q_32_v1 q_36 q_31_v2 q_33_v1 q_34_v1) (drawOk TT QQ) (LG_6 m_6_25 m_6_36 m_6_14) (loopAt 36 (bodyOf Try.f6))) n (pt_6_36.inst y) k) x (fun y => k .ret (px_6_36_0.inst y)) (fun y => k (.exit 4) (px_6_36_1.inst y)) := by kernel_rfl
theorem step_6_36 {R : Type} (N n : Nat) (x : pt_6_36.den) (k : Exit → St → Option R) : iter 0 lv_6_36 lo_6_36 (aexec TT (E_6 (R := R) N) (drawOk TT QQ) (L_6 N) (loopAt 36 (bodyOf Try.f6))) (n + 1) (pt_6_36.inst x) k = B_6_36 N (fun y => iter 0 lv_6_36 lo_6_36 (aexec TT (E_6 (R := R) N) (drawOk TT QQ) (L_6 N) (loopAt 36 (bodyOf Try.f6))) n (pt_6_36.inst y) k) x (fun y => k .ret (px_6_36_0.inst y)) (fun y => k (.exit 4) (px_6_36_1.inst y)) := (gstep_6_36 (p_30 N) (p_31 N) (p_32 N) (p_33 N) (p_34 N) (p_35 N) (p_32_v1 N) (p_36 N) (p_31_v2 N) (p_33_v1 N) (p_34_v1 N) (l_6_25 N N) (l_6_36 N N) (l_6_14 N N) n x k).trans (by kernel_rfl)
theorem eq_6_36 {R : Type} (N : Nat) : ∀ (n : Nat) (x : pt_6_36.den) (k : Exit → St → Option R), iter 0 lv_6_36 lo_6_36 (aexec TT (E_6 (R := R) N) (drawOk TT QQ) (L_6 N) (loopAt 36 (bodyOf Try.f6))) n (pt_6_36.inst x) k = l_6_36 N n x (fun y => k .ret (px_6_36_0.inst y)) (fun y => k (.exit 4) (px_6_36_1.inst y)) :=
  iter_eq (K := Exit → St → Option R) (ks := fun k => k) (l := fun n (x : pt_6_36.den) k => l_6_36 N n x (fun y => k .ret (px_6_36_0.inst y)) (fun y => k (.exit 4) (px_6_36_1.inst y))) (B := fun (rec : pt_6_36.den → Option R) (x : pt_6_36.den) k => B_6_36 N rec x (fun y => k .ret (px_6_36_0.inst y)) (fun y => k (.exit 4) (px_6_36_1.inst y))) (fun _ _ => rfl) (fun _ _ _ => rfl) (fun n x k => step_6_36 N n x k)
theorem rounds_6_36 {R : Type} (N : Nat) : Rounds 0 TT (E_6 (R := R) N) (drawOk TT QQ) (L_6 N) 36 (loopAt 36 (bodyOf Try.f6)) :=
  rounds_of (p := pt_6_36) (l := fun (x : pt_6_36.den) k => l_6_36 N N x (fun y => k .ret (px_6_36_0.inst y)) (fun y => k (.exit 4) (px_6_36_1.inst y))) (fun s k => rfl) (fun x k => eq_6_36 N N x k)
theorem gstep_6_14 {R : Type} (q_30 : Tp_30 R) (q_31 : Tp_31 R) (q_32 : Tp_32 R) (q_33 : Tp_33 R) (q_34 : Tp_34 R) (q_35 : Tp_35 R) (q_32_v1 : Tp_32_v1 R) (q_36 : Tp_36 R) (q_31_v2 : Tp_31_v2 R) (q_33_v1 : Tp_33_v1 R) (q_34_v1 : Tp_34_v1 R) (m_6_25 : Tl_6_25 R) (m_6_36 : Tl_6_36 R) (m_6_14 : Tl_6_14 R) (n : Nat) (x : pt_6_14.den) (k : Exit → St → Option R) : iter 0 lv_6_14 lo_6_14 (aexec TT (EG_6 q_30 q_31 q_32 q_33 q_34 q_35 q_32_v1 q_36 q_31_v2 q_33_v1 q_34_v1) (drawOk TT QQ) (LG_6 m_6_25 m_6_36 m_6_14) (loopAt 14 (bodyOf Try.f6))) (n + 1) (pt_6_14.inst x) k = C_6_14 q_30 q_31 q_32 q_33 q_34 q_35 q_32_v1 q_36 q_31_v2 q_33_v1 q_34_v1 m_6_25 m_6_36 m_6_14 (fun y => iter 0 lv_6_14 lo_6_14 (aexec TT (EG_6 q_30 q_31 q_32 q_33 q_34 q_35 q_32_v1 q_36 q_31_v2 q_33_v1 q_34_v1) (drawOk TT QQ) (LG_6 m_6_25 m_6_36 m_6_14) (loopAt 14 (bodyOf Try.f6))) n (pt_6_14.inst y) k) x (fun y => k .ret (px_6_14_0.inst y)) (fun y => k (.exit 0) (px_6_14_1.inst y)) := by kernel_rfl
theorem step_6_14 {R : Type} (N n : Nat) (x : pt_6_14.den) (k : Exit → St → Option R) : iter 0 lv_6_14 lo_6_14 (aexec TT (E_6 (R := R) N) (drawOk TT QQ) (L_6 N) (loopAt 14 (bodyOf Try.f6))) (n + 1) (pt_6_14.inst x) k = B_6_14 N (fun y => iter 0 lv_6_14 lo_6_14 (aexec TT (E_6 (R := R) N) (drawOk TT QQ) (L_6 N) (loopAt 14 (bodyOf Try.f6))) n (pt_6_14.inst y) k) x (fun y => k .ret (px_6_14_0.inst y)) (fun y => k (.exit 0) (px_6_14_1.inst y)) := (gstep_6_14 (p_30 N) (p_31 N) (p_32 N) (p_33 N) (p_34 N) (p_35 N) (p_32_v1 N) (p_36 N) (p_31_v2 N) (p_33_v1 N) (p_34_v1 N) (l_6_25 N N) (l_6_36 N N) (l_6_14 N N) n x k).trans (by kernel_rfl)
theorem eq_6_14 {R : Type} (N : Nat) : ∀ (n : Nat) (x : pt_6_14.den) (k : Exit → St → Option R), iter 0 lv_6_14 lo_6_14 (aexec TT (E_6 (R := R) N) (drawOk TT QQ) (L_6 N) (loopAt 14 (bodyOf Try.f6))) n (pt_6_14.inst x) k = l_6_14 N n x (fun y => k .ret (px_6_14_0.inst y)) (fun y => k (.exit 0) (px_6_14_1.inst y)) :=
  iter_eq (K := Exit → St → Option R) (ks := fun k => k) (l := fun n (x : pt_6_14.den) k => l_6_14 N n x (fun y => k .ret (px_6_14_0.inst y)) (fun y => k (.exit 0) (px_6_14_1.inst y))) (B := fun (rec : pt_6_14.den → Option R) (x : pt_6_14.den) k => B_6_14 N rec x (fun y => k .ret (px_6_14_0.inst y)) (fun y => k (.exit 0) (px_6_14_1.inst y))) (fun _ _ => rfl) (fun _ _ _ => rfl) (fun n x k => step_6_14 N n x k)
theorem rounds_6_14 {R : Type} (N : Nat) : Rounds 0 TT (E_6 (R := R) N) (drawOk TT QQ) (L_6 N) 14 (loopAt 14 (bodyOf Try.f6)) :=
  rounds_of (p := pt_6_14) (l := fun (x : pt_6_14.den) k => l_6_14 N N x (fun y => k .ret (px_6_14_0.inst y)) (fun y => k (.exit 0) (px_6_14_1.inst y))) (fun s k => rfl) (fun x k => eq_6_14 N N x k)
theorem loops_6 : loopsIn (bodyOf Try.f6) = [(14, loopAt 14 (bodyOf Try.f6)), (25, loopAt 25 (bodyOf Try.f6)), (36, loopAt 36 (bodyOf Try.f6))] := by kernel_rfl
theorem lok_6 {R : Type} (N : Nat) : LOK 0 TT (E_6 (R := R) N) (drawOk TT QQ) (L_6 N) (bodyOf Try.f6) := loops_all loops_6 (by
  simp only [List.forall_mem_cons, List.not_mem_nil, false_implies, implies_true, and_true]
  exact ⟨rounds_6_14 N, rounds_6_25 N, rounds_6_36 N⟩)
theorem grun_6 {R : Type} (q_30 : Tp_30 R) (q_31 : Tp_31 R) (q_32 : Tp_32 R) (q_33 : Tp_33 R) (q_34 : Tp_34 R) (q_35 : Tp_35 R) (q_32_v1 : Tp_32_v1 R) (q_36 : Tp_36 R) (q_31_v2 : Tp_31_v2 R) (q_33_v1 : Tp_33_v1 R) (q_34_v1 : Tp_34_v1 R) (m_6_25 : Tl_6_25 R) (m_6_36 : Tl_6_36 R) (m_6_14 : Tl_6_14 R) (x : aden ap_6 × hden hp_6) (k : KF R) : fnrun TT (EG_6 q_30 q_31 q_32 q_33 q_34 q_35 q_32_v1 q_36 q_31_v2 q_33_v1 q_34_v1) (drawOk TT QQ) (LG_6 m_6_25 m_6_36 m_6_14) true Try.f6 (instA ap_6 x.1) (instH hp_6 x.2) k = Q_6 q_30 q_31 q_32 q_33 q_34 q_35 q_32_v1 q_36 q_31_v2 q_33_v1 q_34_v1 m_6_25 m_6_36 m_6_14 x (fun y => k (Pat.inst (.bool) y.1) (instH [] y.2)) := by kernel_rfl
theorem run_6 {R : Type} (N : Nat) (x : aden ap_6 × hden hp_6) (k : KF R) : fnrun TT (E_6 (R := R) N) (drawOk TT QQ) (L_6 N) true Try.f6 (instA ap_6 x.1) (instH hp_6 x.2) k = p_6 N x (fun y => k (Pat.inst (.bool) y.1) (instH [] y.2)) := (grun_6 (p_30 N) (p_31 N) (p_32 N) (p_33 N) (p_34 N) (p_35 N) (p_32_v1 N) (p_36 N) (p_31_v2 N) (p_33_v1 N) (p_34_v1 N) (l_6_25 N N) (l_6_36 N N) (l_6_14 N N) x k).trans (by kernel_rfl)
theorem good_6 {R : Type} (N : Nat) : GD (X := R) Try.prog QQ 6 ap_6 hp_6 (fun (x : aden ap_6 × hden hp_6) k => p_6 N x (fun y => k (Pat.inst (.bool) y.1) (instH [] y.2))) :=
  gd_loud (E := E_6 N) (p := fun (x : aden ap_6 × hden hp_6) k => p_6 N x (fun y => k (Pat.inst (.bool) y.1) (instH [] y.2))) mixed tyok (eok_6 N) Try.func6 (by kernel_rfl) (by kernel_rfl) (by kernel_rfl) (lok_6 N) (fun x k => run_6 N x k)

end Go.Proofs.Ytjehpceomlnicaa.Eng
