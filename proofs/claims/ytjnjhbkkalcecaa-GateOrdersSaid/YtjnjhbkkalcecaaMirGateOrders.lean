/-
Plain functions that the functions of the program are shown to come to, printed by a program of the prover; each with its proof.
Conditions: none.
-/
import Derived.Test.YtjnjhbkkalcecaaProg
import Derived.Test.YtjnjhbkkalcecaaEngY
import Derived.KernelRfl
set_option linter.unusedVariables false
namespace Go.Proofs.Ytjnjhbkkalcecaa.Eng
def TT : Types := [(3, ⟨.int .i64, 1, 8, .int .i64 0, some (.int .i64), false, false⟩),
  (22, ⟨.slice 3, 1, 24, .nils, some (.sl (.int .i64)), false, false⟩),
  (4, ⟨.bool, 1, 1, .bool false, some (.bool), false, false⟩),
  (24, ⟨.ptr 168, 1, 8, .nilp, none, false, false⟩),
  (25, ⟨.int .i64, 1, 8, .int .i64 0, some (.int .i64), false, false⟩),
  (124, ⟨.slice 4, 1, 24, .nils, some (.sl (.bool)), false, false⟩),
  (168, ⟨.stru [(124, 0), (3, 1), (3, 2)], 3, 40, .node (.fcons (.nils) (.fcons (.int .i64 0) (.fcons (.int .i64 0) (.fnil)))), some (.stru (.fcons (.sl (.bool)) (.fcons (.int .i64) (.fcons (.int .i64) (.fnil))))), false, false⟩),
  (169, ⟨.map 3 4, 1, 8, .nilm, none, false, false⟩)]
theorem tyok : TyOk Try.prog TT := TyOk.of (by kernel_rfl)
theorem mixed : Try.prog.follows .mixedOrders = true := by kernel_rfl
def QQ : FuncId → Bool := fun f => memN [12, 16, 80] f
def LN : FuncId → Bool := fun f => memN [] f
def WW : FuncId → Bool := fun f => QQ f || LN f
def ap_13 : List Pat := [.int .i64]
def hp_13 : List (Option (Pat × Nat)) := []
def p_13 {R : Type} (N : Nat) (x : (Int × Unit) × (Unit)) (κ0 : ((Unit × (Int × Unit)) × (Unit)) → Option R) (κ1 : ((Unit × (Int × Unit)) × ((Unit × (Int × (Int × Unit))) × (List Bool) × Unit)) → Option R) : Option R :=
let i3 : Int := x.1.1
bif (decide (i3 < 1)) then (
κ0 (((), (1, ())), ())) else (
bif (decide (i3 > 1048576)) then (
κ0 (((), (1, ())), ())) else (
bif decide (0 ≤ i3) then (
bif decide (i3 ≤ i3) then (
bif decide (((1 : Nat) : Int) * i3 ≤ 281474976710656) then (
bif decide (i3 ≤ 9223372036854775807) then (
let l4 : (List Bool) := List.replicate ((Int.toNat i3)) (Sch.zero (.bool))
κ1 (((), (0, ())), (((), (0, (0, ()))), l4, ()))) else none) else none) else none) else none))

abbrev Tp_13 (R : Type) : Type := (Int × Unit) × (Unit) → (((Unit × (Int × Unit)) × (Unit)) → Option R) → (((Unit × (Int × Unit)) × ((Unit × (Int × (Int × Unit))) × (List Bool) × Unit)) → Option R) → Option R
def Q_13 {R : Type} (x : (Int × Unit) × (Unit)) (κ0 : ((Unit × (Int × Unit)) × (Unit)) → Option R) (κ1 : ((Unit × (Int × Unit)) × ((Unit × (Int × (Int × Unit))) × (List Bool) × Unit)) → Option R) : Option R :=
let i3 : Int := x.1.1
bif (decide (i3 < 1)) then (
κ0 (((), (1, ())), ())) else (
bif (decide (i3 > 1048576)) then (
κ0 (((), (1, ())), ())) else (
bif decide (0 ≤ i3) then (
bif decide (i3 ≤ i3) then (
bif decide (((1 : Nat) : Int) * i3 ≤ 281474976710656) then (
bif decide (i3 ≤ 9223372036854775807) then (
let l4 : (List Bool) := List.replicate ((Int.toNat i3)) (Sch.zero (.bool))
κ1 (((), (0, ())), (((), (0, (0, ()))), l4, ()))) else none) else none) else none) else none))
def EG_13 {R : Type} : Env R := Env.base QQ LN
def LG_13 {R : Type} : Loops R := Loops.none
def E_13 {R : Type} (N : Nat) : Env R := EG_13
theorem eok_13 {R : Type} (N : Nat) : EK Try.prog (E_13 (R := R) N) := ek_base _ _
def L_13 {R : Type} (N : Nat) : Loops R := LG_13
theorem lok_13 {R : Type} (N : Nat) : LOK 0 TT (E_13 (R := R) N) (drawAny TT WW) (L_13 N) (bodyOf Try.f13) := loops_nil (by kernel_rfl)
theorem grun_13 {R : Type} (x : aden ap_13 × hden hp_13) (k : KF R) : fnrun TT (EG_13) (drawAny TT WW) (LG_13) true Try.f13 (instA ap_13 x.1) (instH hp_13 x.2) k = Q_13 x (fun y => k (Pat.inst (.tup (.fcons (.nilp) (.fcons (.int .i64) (.fnil)))) y.1) (instH [] y.2)) (fun y => k (Pat.inst (.tup (.fcons (.ptr 0 []) (.fcons (.int .i64) (.fnil)))) y.1) (instH [some (.node (.fcons (.sl 1) (.fcons (.int .i64) (.fcons (.int .i64) (.fnil)))), 168), some (.lst (.bool), 4)] y.2)) := by kernel_rfl
theorem run_13 {R : Type} (N : Nat) (x : aden ap_13 × hden hp_13) (k : KF R) : fnrun TT (E_13 (R := R) N) (drawAny TT WW) (L_13 N) true Try.f13 (instA ap_13 x.1) (instH hp_13 x.2) k = p_13 N x (fun y => k (Pat.inst (.tup (.fcons (.nilp) (.fcons (.int .i64) (.fnil)))) y.1) (instH [] y.2)) (fun y => k (Pat.inst (.tup (.fcons (.ptr 0 []) (.fcons (.int .i64) (.fnil)))) y.1) (instH [some (.node (.fcons (.sl 1) (.fcons (.int .i64) (.fcons (.int .i64) (.fnil)))), 168), some (.lst (.bool), 4)] y.2)) := (grun_13 x k).trans (by kernel_rfl)
theorem good_13 {R : Type} (N : Nat) : GD (X := R) Try.prog QQ 13 ap_13 hp_13 (fun (x : aden ap_13 × hden hp_13) k => p_13 N x (fun y => k (Pat.inst (.tup (.fcons (.nilp) (.fcons (.int .i64) (.fnil)))) y.1) (instH [] y.2)) (fun y => k (Pat.inst (.tup (.fcons (.ptr 0 []) (.fcons (.int .i64) (.fnil)))) y.1) (instH [some (.node (.fcons (.sl 1) (.fcons (.int .i64) (.fcons (.int .i64) (.fnil)))), 168), some (.lst (.bool), 4)] y.2))) :=
  gd_loud (E := E_13 N) (p := fun (x : aden ap_13 × hden hp_13) k => p_13 N x (fun y => k (Pat.inst (.tup (.fcons (.nilp) (.fcons (.int .i64) (.fnil)))) y.1) (instH [] y.2)) (fun y => k (Pat.inst (.tup (.fcons (.ptr 0 []) (.fcons (.int .i64) (.fnil)))) y.1) (instH [some (.node (.fcons (.sl 1) (.fcons (.int .i64) (.fcons (.int .i64) (.fnil)))), 168), some (.lst (.bool), 4)] y.2))) mixed tyok (eok_13 N) Try.func13 (by kernel_rfl) (by kernel_rfl) (by kernel_rfl) (lok_13 N) (fun x k => run_13 N x k)

def ap_15 : List Pat := [.nilp, .sl 0]
def hp_15 : List (Option (Pat × Nat)) := [some (.lst (.int .i64), 3)]
def p_15 {R : Type} (N : Nat) (x : (Unit × Unit × Unit) × ((List Int) × Unit)) (κ0 : ((Bool × (Int × Unit)) × ((List Int) × Unit)) → Option R) : Option R :=
let l8 : (List Int) := x.2.1
κ0 ((false, (11, ())), (l8, ()))

abbrev Tp_15 (R : Type) : Type := (Unit × Unit × Unit) × ((List Int) × Unit) → (((Bool × (Int × Unit)) × ((List Int) × Unit)) → Option R) → Option R
def Q_15 {R : Type} (x : (Unit × Unit × Unit) × ((List Int) × Unit)) (κ0 : ((Bool × (Int × Unit)) × ((List Int) × Unit)) → Option R) : Option R :=
let l8 : (List Int) := x.2.1
κ0 ((false, (11, ())), (l8, ()))
def EG_15 {R : Type} : Env R := Env.base QQ LN
def LG_15 {R : Type} : Loops R := Loops.none
def E_15 {R : Type} (N : Nat) : Env R := EG_15
theorem eok_15 {R : Type} (N : Nat) : EK Try.prog (E_15 (R := R) N) := ek_base _ _
def L_15 {R : Type} (N : Nat) : Loops R := LG_15
theorem loops_15 : loopsIn (bodyOf Try.f15) = [(5, loopAt 5 (bodyOf Try.f15)), (14, loopAt 14 (bodyOf Try.f15))] := by kernel_rfl
theorem lok_15 {R : Type} (N : Nat) : LOK 1 TT (E_15 (R := R) N) (drawAny TT WW) (L_15 N) (bodyOf Try.f15) := loops_all loops_15 (by
  simp only [List.forall_mem_cons, List.not_mem_nil, false_implies, implies_true, and_true]
  exact ⟨rounds_none (fun _ _ => rfl), rounds_none (fun _ _ => rfl)⟩)
theorem grun_15 {R : Type} (x : aden ap_15 × hden hp_15) (k : KF R) : fnrun TT (EG_15) (drawAny TT WW) (LG_15) true Try.f15 (instA ap_15 x.1) (instH hp_15 x.2) k = Q_15 x (fun y => k (Pat.inst (.tup (.fcons (.bool) (.fcons (.int .i64) (.fnil)))) y.1) (instH [some (.lst (.int .i64), 3)] y.2)) := by kernel_rfl
theorem run_15 {R : Type} (N : Nat) (x : aden ap_15 × hden hp_15) (k : KF R) : fnrun TT (E_15 (R := R) N) (drawAny TT WW) (L_15 N) true Try.f15 (instA ap_15 x.1) (instH hp_15 x.2) k = p_15 N x (fun y => k (Pat.inst (.tup (.fcons (.bool) (.fcons (.int .i64) (.fnil)))) y.1) (instH [some (.lst (.int .i64), 3)] y.2)) := (grun_15 x k).trans (by kernel_rfl)
theorem good_15 {R : Type} (N : Nat) : GD (X := R) Try.prog QQ 15 ap_15 hp_15 (fun (x : aden ap_15 × hden hp_15) k => p_15 N x (fun y => k (Pat.inst (.tup (.fcons (.bool) (.fcons (.int .i64) (.fnil)))) y.1) (instH [some (.lst (.int .i64), 3)] y.2))) :=
  gd_loud (E := E_15 N) (p := fun (x : aden ap_15 × hden hp_15) k => p_15 N x (fun y => k (Pat.inst (.tup (.fcons (.bool) (.fcons (.int .i64) (.fnil)))) y.1) (instH [some (.lst (.int .i64), 3)] y.2))) mixed tyok (eok_15 N) Try.func15 (by kernel_rfl) (by kernel_rfl) (by kernel_rfl) (lok_15 N) (fun x k => run_15 N x k)

def ap_80 : List Pat := [.nilp, .int .i64]
def hp_80 : List (Option (Pat × Nat)) := []
def p_80 {R : Type} (N : Nat) (x : (Unit × Int × Unit) × (Unit)) (κ0 : Bool → Option R) : Option R :=
let i23 : Int := x.1.2.1
κ0 false

abbrev Tp_80 (R : Type) : Type := (Unit × Int × Unit) × (Unit) → (Bool → Option R) → Option R
def Q_80 {R : Type} (x : (Unit × Int × Unit) × (Unit)) (κ0 : Bool → Option R) : Option R :=
let i23 : Int := x.1.2.1
κ0 false
def EG_80 {R : Type} : Env R := Env.base QQ LN
def LG_80 {R : Type} : Loops R := Loops.none
def E_80 {R : Type} (N : Nat) : Env R := EG_80
theorem eok_80 {R : Type} (N : Nat) : EK Try.prog (E_80 (R := R) N) := ek_base _ _
def L_80 {R : Type} (N : Nat) : Loops R := LG_80
theorem lok_80 {R : Type} (N : Nat) : LOK 0 TT (E_80 (R := R) N) (drawAny TT WW) (L_80 N) (bodyOf Try.f80) := loops_nil (by kernel_rfl)
theorem grun_80 {R : Type} (x : aden ap_80 × hden hp_80) (k : KF R) : fnrun TT (EG_80) (drawAny TT WW) (LG_80) true Try.f80 (instA ap_80 x.1) (instH hp_80 x.2) k = Q_80 x (fun y => k (Pat.inst (.bool) y) (instH hp_80 x.2)) := by kernel_rfl
theorem run_80 {R : Type} (N : Nat) (x : aden ap_80 × hden hp_80) (k : KF R) : fnrun TT (E_80 (R := R) N) (drawAny TT WW) (L_80 N) true Try.f80 (instA ap_80 x.1) (instH hp_80 x.2) k = p_80 N x (fun y => k (Pat.inst (.bool) y) (instH hp_80 x.2)) := (grun_80 x k).trans (by kernel_rfl)
theorem good_80 {R : Type} (N : Nat) : GD (X := R) Try.prog QQ 80 ap_80 hp_80 (fun (x : aden ap_80 × hden hp_80) k => p_80 N x (fun y => k (Pat.inst (.bool) y) (instH hp_80 x.2))) :=
  gd_quiet (E := E_80 N) (p := fun (x : aden ap_80 × hden hp_80) κ => p_80 N x (fun y => κ (Pat.inst (.bool) y))) mixed tyok (eok_80 N) Try.func80 (by kernel_rfl) (by kernel_rfl) (lok_80 N) (fun x k => run_80 N x k)

def ap_16 : List Pat := [.nilp]
def hp_16 : List (Option (Pat × Nat)) := []
def p_16 {R : Type} (N : Nat) (x : (Unit × Unit) × (Unit)) (κ0 : Int → Option R) : Option R :=
κ0 0

abbrev Tp_16 (R : Type) : Type := (Unit × Unit) × (Unit) → (Int → Option R) → Option R
def Q_16 {R : Type} (x : (Unit × Unit) × (Unit)) (κ0 : Int → Option R) : Option R :=
κ0 0
def EG_16 {R : Type} : Env R := Env.base QQ LN
def LG_16 {R : Type} : Loops R := Loops.none
def E_16 {R : Type} (N : Nat) : Env R := EG_16
theorem eok_16 {R : Type} (N : Nat) : EK Try.prog (E_16 (R := R) N) := ek_base _ _
def L_16 {R : Type} (N : Nat) : Loops R := LG_16
theorem lok_16 {R : Type} (N : Nat) : LOK 0 TT (E_16 (R := R) N) (drawAny TT WW) (L_16 N) (bodyOf Try.f16) := loops_nil (by kernel_rfl)
theorem grun_16 {R : Type} (x : aden ap_16 × hden hp_16) (k : KF R) : fnrun TT (EG_16) (drawAny TT WW) (LG_16) true Try.f16 (instA ap_16 x.1) (instH hp_16 x.2) k = Q_16 x (fun y => k (Pat.inst (.int .i64) y) (instH hp_16 x.2)) := by kernel_rfl
theorem run_16 {R : Type} (N : Nat) (x : aden ap_16 × hden hp_16) (k : KF R) : fnrun TT (E_16 (R := R) N) (drawAny TT WW) (L_16 N) true Try.f16 (instA ap_16 x.1) (instH hp_16 x.2) k = p_16 N x (fun y => k (Pat.inst (.int .i64) y) (instH hp_16 x.2)) := (grun_16 x k).trans (by kernel_rfl)
theorem good_16 {R : Type} (N : Nat) : GD (X := R) Try.prog QQ 16 ap_16 hp_16 (fun (x : aden ap_16 × hden hp_16) k => p_16 N x (fun y => k (Pat.inst (.int .i64) y) (instH hp_16 x.2))) :=
  gd_quiet (E := E_16 N) (p := fun (x : aden ap_16 × hden hp_16) κ => p_16 N x (fun y => κ (Pat.inst (.int .i64) y))) mixed tyok (eok_16 N) Try.func16 (by kernel_rfl) (by kernel_rfl) (lok_16 N) (fun x k => run_16 N x k)

def lv_15_v1_5 : Live := [(0, none), (1, none), (6, none), (14, none), (15, none), (16, none)]
def pt_15_v1_5 : SPat := ⟨[(0, .ptr 0 []), (1, .sl 2), (6, .mp 3), (14, .sl 2), (15, .int .i64), (16, .int .i64)], [some (.node (.fcons (.sl 1) (.fcons (.int .i64) (.fcons (.int .i64) (.fnil)))), 168), some (.lst (.bool), 4), some (.lst (.int .i64), 3), some (.kvs (.int .i64) (.bool), 169)]⟩
def px_15_v1_5_0 : SPat := ⟨[(4, .bool), (5, .int .i64)], [some (.node (.fcons (.sl 1) (.fcons (.int .i64) (.fcons (.int .i64) (.fnil)))), 168), some (.lst (.bool), 4), some (.lst (.int .i64), 3)]⟩
def px_15_v1_5_1 : SPat := ⟨[(0, .ptr 0 []), (1, .sl 2)], [some (.node (.fcons (.sl 1) (.fcons (.int .i64) (.fcons (.int .i64) (.fnil)))), 168), some (.lst (.bool), 4), some (.lst (.int .i64), 3)]⟩
def lo_15_v1_5 : Exit → Live
  | .ret => [(4, none), (5, none)]
  | .exit 0 => [(0, none), (1, none)]
  | _ => []
def B_15_v1_5 {R : Type} (N : Nat) (rec : ((Unit × Unit × Unit × Unit × Int × Int × Unit) × ((Unit × (Int × (Int × Unit))) × (List Bool) × (List Int) × (List (Int × Bool)) × Unit)) → Option R) (x : ((Unit × Unit × Unit × Unit × Int × Int × Unit) × ((Unit × (Int × (Int × Unit))) × (List Bool) × (List Int) × (List (Int × Bool)) × Unit))) (κ0 : ((Bool × Int × Unit) × ((Unit × (Int × (Int × Unit))) × (List Bool) × (List Int) × Unit)) → Option R) (κ1 : ((Unit × Unit × Unit) × ((Unit × (Int × (Int × Unit))) × (List Bool) × (List Int) × Unit)) → Option R) : Option R :=
let i39 : Int := x.1.2.2.2.2.1
let i40 : Int := x.1.2.2.2.2.2.1
let i41 : Int := x.2.1.2.1
let i42 : Int := x.2.1.2.2.1
let l43 : (List Bool) := x.2.2.1
let l44 : (List Int) := x.2.2.2.1
let m45 : (List (Int × Bool)) := x.2.2.2.2.1
bif (decide (i40 < i39)) then (
bif decide (0 ≤ i40) then (
bif decide (i40 < ((List.length l44) : Int)) then (
let i46 : Int := (List.getD l44 ((Int.toNat i40)) (Sch.zero (.int .i64)))
bif (decide (i46 < 0)) then (
κ0 ((false, 1, ()), (((), (i41, (i42, ()))), l43, l44, ()))) else (
let i47 : Int := (((List.length l43) : Nat) : Int)
bif (decide (i46 ≥ i47)) then (
κ0 ((false, 1, ()), (((), (i41, (i42, ()))), l43, l44, ()))) else (
bif decide (0 ≤ i46) then (
bif decide (i46 < ((List.length l43) : Int)) then (
let b48 : Bool := (List.getD l43 ((Int.toNat i46)) (Sch.zero (.bool)))
bif b48 then (
κ0 ((false, 15, ()), (((), (i41, (i42, ()))), l43, l44, ()))) else (
let b49 : Bool := Option.getD (kvGet (.int .i64) i46 m45) (Sch.zero (.bool))
bif b49 then (
κ0 ((false, 15, ()), (((), (i41, (i42, ()))), l43, l44, ()))) else (
let m50 : (List (Int × Bool)) := kvPut (.int .i64) i46 true m45
let i51 : Int := addA .i64 i40 1
rec (((), (), (), (), i39, i51, ()), (((), (i41, (i42, ()))), l43, l44, m50, ()))))) else none) else none))) else none) else none) else (
κ1 (((), (), ()), (((), (i41, (i42, ()))), l43, l44, ())))
def l_15_v1_5 {R : Type} (N : Nat) : Nat → ((Unit × Unit × Unit × Unit × Int × Int × Unit) × ((Unit × (Int × (Int × Unit))) × (List Bool) × (List Int) × (List (Int × Bool)) × Unit)) → (((Bool × Int × Unit) × ((Unit × (Int × (Int × Unit))) × (List Bool) × (List Int) × Unit)) → Option R) → (((Unit × Unit × Unit) × ((Unit × (Int × (Int × Unit))) × (List Bool) × (List Int) × Unit)) → Option R) → Option R
  | 0, _, _, _ => none
  | n + 1, x, κ0, κ1 => B_15_v1_5 N (fun y => l_15_v1_5 N n y κ0 κ1) x κ0 κ1
def lv_15_v1_14 : Live := [(0, none), (48, none), (49, none), (50, none)]
def pt_15_v1_14 : SPat := ⟨[(0, .ptr 0 []), (48, .sl 2), (49, .int .i64), (50, .int .i64)], [some (.node (.fcons (.sl 1) (.fcons (.int .i64) (.fcons (.int .i64) (.fnil)))), 168), some (.lst (.bool), 4), some (.lst (.int .i64), 3)]⟩
def px_15_v1_14_0 : SPat := ⟨[(0, .ptr 0 [])], [some (.node (.fcons (.sl 1) (.fcons (.int .i64) (.fcons (.int .i64) (.fnil)))), 168), some (.lst (.bool), 4), some (.lst (.int .i64), 3)]⟩
def lo_15_v1_14 : Exit → Live
  | .exit 3 => [(0, none)]
  | _ => []
def B_15_v1_14 {R : Type} (N : Nat) (rec : ((Unit × Unit × Int × Int × Unit) × ((Unit × (Int × (Int × Unit))) × (List Bool) × (List Int) × Unit)) → Option R) (x : ((Unit × Unit × Int × Int × Unit) × ((Unit × (Int × (Int × Unit))) × (List Bool) × (List Int) × Unit))) (κ0 : ((Unit × Unit) × ((Unit × (Int × (Int × Unit))) × (List Bool) × (List Int) × Unit)) → Option R) : Option R :=
let i65 : Int := x.1.2.2.1
let i66 : Int := x.1.2.2.2.1
let i67 : Int := x.2.1.2.1
let i68 : Int := x.2.1.2.2.1
let l69 : (List Bool) := x.2.2.1
let l70 : (List Int) := x.2.2.2.1
bif (decide (i66 < i65)) then (
bif decide (0 ≤ i66) then (
bif decide (i66 < ((List.length l70) : Int)) then (
let i71 : Int := (List.getD l70 ((Int.toNat i66)) (Sch.zero (.int .i64)))
bif decide (0 ≤ i71) then (
bif decide (i71 < ((List.length l69) : Int)) then (
let l72 : (List Bool) := (List.set l69 ((Int.toNat i71)) true)
let i73 : Int := addA .i64 i67 1
let i74 : Int := addA .i64 i66 1
rec (((), (), i65, i74, ()), (((), (i73, (i68, ()))), l72, l70, ()))) else none) else none) else none) else none) else (
κ0 (((), ()), (((), (i67, (i68, ()))), l69, l70, ())))
def l_15_v1_14 {R : Type} (N : Nat) : Nat → ((Unit × Unit × Int × Int × Unit) × ((Unit × (Int × (Int × Unit))) × (List Bool) × (List Int) × Unit)) → (((Unit × Unit) × ((Unit × (Int × (Int × Unit))) × (List Bool) × (List Int) × Unit)) → Option R) → Option R
  | 0, _, _ => none
  | n + 1, x, κ0 => B_15_v1_14 N (fun y => l_15_v1_14 N n y κ0) x κ0
def ap_15_v1 : List Pat := [.ptr 0 [], .sl 2]
def hp_15_v1 : List (Option (Pat × Nat)) := [some (.node (.fcons (.sl 1) (.fcons (.int .i64) (.fcons (.int .i64) (.fnil)))), 168), some (.lst (.bool), 4), some (.lst (.int .i64), 3)]
def p_15_v1 {R : Type} (N : Nat) (x : (Unit × Unit × Unit) × ((Unit × (Int × (Int × Unit))) × (List Bool) × (List Int) × Unit)) (κ0 : ((Bool × (Int × Unit)) × ((Unit × (Int × (Int × Unit))) × (List Bool) × (List Int) × Unit)) → Option R) : Option R :=
let i34 : Int := x.2.1.2.1
let i35 : Int := x.2.1.2.2.1
let l36 : (List Bool) := x.2.2.1
let l37 : (List Int) := x.2.2.2.1
let i38 : Int := (((List.length l37) : Nat) : Int)
l_15_v1_5 N N (((), (), (), (), i38, 0, ()), (((), (i34, (i35, ()))), l36, l37, ([] : List (Int × Bool)), ())) (fun y52 =>
let b53 : Bool := y52.1.1
let i54 : Int := y52.1.2.1
let i55 : Int := y52.2.1.2.1
let i56 : Int := y52.2.1.2.2.1
let l57 : (List Bool) := y52.2.2.1
let l58 : (List Int) := y52.2.2.2.1
κ0 ((b53, (i54, ())), (((), (i55, (i56, ()))), l57, l58, ()))) (fun y59 =>
let i60 : Int := y59.2.1.2.1
let i61 : Int := y59.2.1.2.2.1
let l62 : (List Bool) := y59.2.2.1
let l63 : (List Int) := y59.2.2.2.1
let i64 : Int := (((List.length l63) : Nat) : Int)
l_15_v1_14 N N (((), (), i64, 0, ()), (((), (i60, (i61, ()))), l62, l63, ())) (fun y75 =>
let i76 : Int := y75.2.1.2.1
let i77 : Int := y75.2.1.2.2.1
let l78 : (List Bool) := y75.2.2.1
let l79 : (List Int) := y75.2.2.2.1
let i80 : Int := (((List.length l78) : Nat) : Int)
bif (decide (i76 < i80)) then (
κ0 ((false, (0, ())), (((), (i76, (i77, ()))), l78, l79, ()))) else (
let l81 : (List Bool) := List.replicate (List.length l78) (Sch.zero (.bool))
let i82 : Int := addA .i64 i77 1
κ0 ((true, (0, ())), (((), (0, (i82, ()))), l81, l79, ())))))

abbrev Tl_15_v1_5 (R : Type) : Type := ((Unit × Unit × Unit × Unit × Int × Int × Unit) × ((Unit × (Int × (Int × Unit))) × (List Bool) × (List Int) × (List (Int × Bool)) × Unit)) → (((Bool × Int × Unit) × ((Unit × (Int × (Int × Unit))) × (List Bool) × (List Int) × Unit)) → Option R) → (((Unit × Unit × Unit) × ((Unit × (Int × (Int × Unit))) × (List Bool) × (List Int) × Unit)) → Option R) → Option R
abbrev Tl_15_v1_14 (R : Type) : Type := ((Unit × Unit × Int × Int × Unit) × ((Unit × (Int × (Int × Unit))) × (List Bool) × (List Int) × Unit)) → (((Unit × Unit) × ((Unit × (Int × (Int × Unit))) × (List Bool) × (List Int) × Unit)) → Option R) → Option R
abbrev Tp_15_v1 (R : Type) : Type := (Unit × Unit × Unit) × ((Unit × (Int × (Int × Unit))) × (List Bool) × (List Int) × Unit) → (((Bool × (Int × Unit)) × ((Unit × (Int × (Int × Unit))) × (List Bool) × (List Int) × Unit)) → Option R) → Option R
def Q_15_v1 {R : Type} (m_15_v1_5 : Tl_15_v1_5 R) (m_15_v1_14 : Tl_15_v1_14 R) (x : (Unit × Unit × Unit) × ((Unit × (Int × (Int × Unit))) × (List Bool) × (List Int) × Unit)) (κ0 : ((Bool × (Int × Unit)) × ((Unit × (Int × (Int × Unit))) × (List Bool) × (List Int) × Unit)) → Option R) : Option R :=
let i34 : Int := x.2.1.2.1
let i35 : Int := x.2.1.2.2.1
let l36 : (List Bool) := x.2.2.1
let l37 : (List Int) := x.2.2.2.1
let i38 : Int := (((List.length l37) : Nat) : Int)
m_15_v1_5 (((), (), (), (), i38, 0, ()), (((), (i34, (i35, ()))), l36, l37, ([] : List (Int × Bool)), ())) (fun y52 =>
let b53 : Bool := y52.1.1
let i54 : Int := y52.1.2.1
let i55 : Int := y52.2.1.2.1
let i56 : Int := y52.2.1.2.2.1
let l57 : (List Bool) := y52.2.2.1
let l58 : (List Int) := y52.2.2.2.1
κ0 ((b53, (i54, ())), (((), (i55, (i56, ()))), l57, l58, ()))) (fun y59 =>
let i60 : Int := y59.2.1.2.1
let i61 : Int := y59.2.1.2.2.1
let l62 : (List Bool) := y59.2.2.1
let l63 : (List Int) := y59.2.2.2.1
let i64 : Int := (((List.length l63) : Nat) : Int)
m_15_v1_14 (((), (), i64, 0, ()), (((), (i60, (i61, ()))), l62, l63, ())) (fun y75 =>
let i76 : Int := y75.2.1.2.1
let i77 : Int := y75.2.1.2.2.1
let l78 : (List Bool) := y75.2.2.1
let l79 : (List Int) := y75.2.2.2.1
let i80 : Int := (((List.length l78) : Nat) : Int)
bif (decide (i76 < i80)) then (
κ0 ((false, (0, ())), (((), (i76, (i77, ()))), l78, l79, ()))) else (
let l81 : (List Bool) := List.replicate (List.length l78) (Sch.zero (.bool))
let i82 : Int := addA .i64 i77 1
κ0 ((true, (0, ())), (((), (0, (i82, ()))), l81, l79, ())))))
def C_15_v1_5 {R : Type} (m_15_v1_5 : Tl_15_v1_5 R) (m_15_v1_14 : Tl_15_v1_14 R) (rec : ((Unit × Unit × Unit × Unit × Int × Int × Unit) × ((Unit × (Int × (Int × Unit))) × (List Bool) × (List Int) × (List (Int × Bool)) × Unit)) → Option R) (x : ((Unit × Unit × Unit × Unit × Int × Int × Unit) × ((Unit × (Int × (Int × Unit))) × (List Bool) × (List Int) × (List (Int × Bool)) × Unit))) (κ0 : ((Bool × Int × Unit) × ((Unit × (Int × (Int × Unit))) × (List Bool) × (List Int) × Unit)) → Option R) (κ1 : ((Unit × Unit × Unit) × ((Unit × (Int × (Int × Unit))) × (List Bool) × (List Int) × Unit)) → Option R) : Option R :=
let i39 : Int := x.1.2.2.2.2.1
let i40 : Int := x.1.2.2.2.2.2.1
let i41 : Int := x.2.1.2.1
let i42 : Int := x.2.1.2.2.1
let l43 : (List Bool) := x.2.2.1
let l44 : (List Int) := x.2.2.2.1
let m45 : (List (Int × Bool)) := x.2.2.2.2.1
bif (decide (i40 < i39)) then (
bif decide (0 ≤ i40) then (
bif decide (i40 < ((List.length l44) : Int)) then (
let i46 : Int := (List.getD l44 ((Int.toNat i40)) (Sch.zero (.int .i64)))
bif (decide (i46 < 0)) then (
κ0 ((false, 1, ()), (((), (i41, (i42, ()))), l43, l44, ()))) else (
let i47 : Int := (((List.length l43) : Nat) : Int)
bif (decide (i46 ≥ i47)) then (
κ0 ((false, 1, ()), (((), (i41, (i42, ()))), l43, l44, ()))) else (
bif decide (0 ≤ i46) then (
bif decide (i46 < ((List.length l43) : Int)) then (
let b48 : Bool := (List.getD l43 ((Int.toNat i46)) (Sch.zero (.bool)))
bif b48 then (
κ0 ((false, 15, ()), (((), (i41, (i42, ()))), l43, l44, ()))) else (
let b49 : Bool := Option.getD (kvGet (.int .i64) i46 m45) (Sch.zero (.bool))
bif b49 then (
κ0 ((false, 15, ()), (((), (i41, (i42, ()))), l43, l44, ()))) else (
let m50 : (List (Int × Bool)) := kvPut (.int .i64) i46 true m45
let i51 : Int := addA .i64 i40 1
rec (((), (), (), (), i39, i51, ()), (((), (i41, (i42, ()))), l43, l44, m50, ()))))) else none) else none))) else none) else none) else (
κ1 (((), (), ()), (((), (i41, (i42, ()))), l43, l44, ())))
def C_15_v1_14 {R : Type} (m_15_v1_5 : Tl_15_v1_5 R) (m_15_v1_14 : Tl_15_v1_14 R) (rec : ((Unit × Unit × Int × Int × Unit) × ((Unit × (Int × (Int × Unit))) × (List Bool) × (List Int) × Unit)) → Option R) (x : ((Unit × Unit × Int × Int × Unit) × ((Unit × (Int × (Int × Unit))) × (List Bool) × (List Int) × Unit))) (κ0 : ((Unit × Unit) × ((Unit × (Int × (Int × Unit))) × (List Bool) × (List Int) × Unit)) → Option R) : Option R :=
let i65 : Int := x.1.2.2.1
let i66 : Int := x.1.2.2.2.1
let i67 : Int := x.2.1.2.1
let i68 : Int := x.2.1.2.2.1
let l69 : (List Bool) := x.2.2.1
let l70 : (List Int) := x.2.2.2.1
bif (decide (i66 < i65)) then (
bif decide (0 ≤ i66) then (
bif decide (i66 < ((List.length l70) : Int)) then (
let i71 : Int := (List.getD l70 ((Int.toNat i66)) (Sch.zero (.int .i64)))
bif decide (0 ≤ i71) then (
bif decide (i71 < ((List.length l69) : Int)) then (
let l72 : (List Bool) := (List.set l69 ((Int.toNat i71)) true)
let i73 : Int := addA .i64 i67 1
let i74 : Int := addA .i64 i66 1
rec (((), (), i65, i74, ()), (((), (i73, (i68, ()))), l72, l70, ()))) else none) else none) else none) else none) else (
κ0 (((), ()), (((), (i67, (i68, ()))), l69, l70, ())))
def EG_15_v1 {R : Type} : Env R := Env.base QQ LN
def LG_15_v1 {R : Type} (m_15_v1_5 : Tl_15_v1_5 R) (m_15_v1_14 : Tl_15_v1_14 R) : Loops R := ((Loops.none).add 5 (loopBy 3 lv_15_v1_5 pt_15_v1_5 (fun x k => m_15_v1_5 x (fun y => k .ret (px_15_v1_5_0.inst y)) (fun y => k (.exit 0) (px_15_v1_5_1.inst y))))).add 14 (loopBy 3 lv_15_v1_14 pt_15_v1_14 (fun x k => m_15_v1_14 x (fun y => k (.exit 3) (px_15_v1_14_0.inst y))))
def E_15_v1 {R : Type} (N : Nat) : Env R := EG_15_v1
theorem eok_15_v1 {R : Type} (N : Nat) : EK Try.prog (E_15_v1 (R := R) N) := ek_base _ _
def L_15_v1 {R : Type} (N : Nat) : Loops R := LG_15_v1 (l_15_v1_5 N N) (l_15_v1_14 N N)
theorem gstep_15_v1_5 {R : Type} (m_15_v1_5 : Tl_15_v1_5 R) (m_15_v1_14 : Tl_15_v1_14 R) (n : Nat) (x : pt_15_v1_5.den) (k : Exit → St → Option R) : iter 3 lv_15_v1_5 lo_15_v1_5 (aexec TT (EG_15_v1) (drawAny TT WW) (LG_15_v1 m_15_v1_5 m_15_v1_14) (loopAt 5 (bodyOf Try.f15))) (n + 1) (pt_15_v1_5.inst x) k = C_15_v1_5 m_15_v1_5 m_15_v1_14 (fun y => iter 3 lv_15_v1_5 lo_15_v1_5 (aexec TT (EG_15_v1) (drawAny TT WW) (LG_15_v1 m_15_v1_5 m_15_v1_14) (loopAt 5 (bodyOf Try.f15))) n (pt_15_v1_5.inst y) k) x (fun y => k .ret (px_15_v1_5_0.inst y)) (fun y => k (.exit 0) (px_15_v1_5_1.inst y)) := by kernel_rfl
theorem step_15_v1_5 {R : Type} (N n : Nat) (x : pt_15_v1_5.den) (k : Exit → St → Option R) : iter 3 lv_15_v1_5 lo_15_v1_5 (aexec TT (E_15_v1 (R := R) N) (drawAny TT WW) (L_15_v1 N) (loopAt 5 (bodyOf Try.f15))) (n + 1) (pt_15_v1_5.inst x) k = B_15_v1_5 N (fun y => iter 3 lv_15_v1_5 lo_15_v1_5 (aexec TT (E_15_v1 (R := R) N) (drawAny TT WW) (L_15_v1 N) (loopAt 5 (bodyOf Try.f15))) n (pt_15_v1_5.inst y) k) x (fun y => k .ret (px_15_v1_5_0.inst y)) (fun y => k (.exit 0) (px_15_v1_5_1.inst y)) := (gstep_15_v1_5 (l_15_v1_5 N N) (l_15_v1_14 N N) n x k).trans (by kernel_rfl)
theorem eq_15_v1_5 {R : Type} (N : Nat) : ∀ (n : Nat) (x : pt_15_v1_5.den) (k : Exit → St → Option R), iter 3 lv_15_v1_5 lo_15_v1_5 (aexec TT (E_15_v1 (R := R) N) (drawAny TT WW) (L_15_v1 N) (loopAt 5 (bodyOf Try.f15))) n (pt_15_v1_5.inst x) k = l_15_v1_5 N n x (fun y => k .ret (px_15_v1_5_0.inst y)) (fun y => k (.exit 0) (px_15_v1_5_1.inst y)) :=
  iter_eq (K := Exit → St → Option R) (ks := fun k => k) (l := fun n (x : pt_15_v1_5.den) k => l_15_v1_5 N n x (fun y => k .ret (px_15_v1_5_0.inst y)) (fun y => k (.exit 0) (px_15_v1_5_1.inst y))) (B := fun (rec : pt_15_v1_5.den → Option R) (x : pt_15_v1_5.den) k => B_15_v1_5 N rec x (fun y => k .ret (px_15_v1_5_0.inst y)) (fun y => k (.exit 0) (px_15_v1_5_1.inst y))) (fun _ _ => rfl) (fun _ _ _ => rfl) (fun n x k => step_15_v1_5 N n x k)
theorem rounds_15_v1_5 {R : Type} (N : Nat) : Rounds 3 TT (E_15_v1 (R := R) N) (drawAny TT WW) (L_15_v1 N) 5 (loopAt 5 (bodyOf Try.f15)) :=
  rounds_of (p := pt_15_v1_5) (l := fun (x : pt_15_v1_5.den) k => l_15_v1_5 N N x (fun y => k .ret (px_15_v1_5_0.inst y)) (fun y => k (.exit 0) (px_15_v1_5_1.inst y))) (fun s k => rfl) (fun x k => eq_15_v1_5 N N x k)
theorem gstep_15_v1_14 {R : Type} (m_15_v1_5 : Tl_15_v1_5 R) (m_15_v1_14 : Tl_15_v1_14 R) (n : Nat) (x : pt_15_v1_14.den) (k : Exit → St → Option R) : iter 3 lv_15_v1_14 lo_15_v1_14 (aexec TT (EG_15_v1) (drawAny TT WW) (LG_15_v1 m_15_v1_5 m_15_v1_14) (loopAt 14 (bodyOf Try.f15))) (n + 1) (pt_15_v1_14.inst x) k = C_15_v1_14 m_15_v1_5 m_15_v1_14 (fun y => iter 3 lv_15_v1_14 lo_15_v1_14 (aexec TT (EG_15_v1) (drawAny TT WW) (LG_15_v1 m_15_v1_5 m_15_v1_14) (loopAt 14 (bodyOf Try.f15))) n (pt_15_v1_14.inst y) k) x (fun y => k (.exit 3) (px_15_v1_14_0.inst y)) := by kernel_rfl
theorem step_15_v1_14 {R : Type} (N n : Nat) (x : pt_15_v1_14.den) (k : Exit → St → Option R) : iter 3 lv_15_v1_14 lo_15_v1_14 (aexec TT (E_15_v1 (R := R) N) (drawAny TT WW) (L_15_v1 N) (loopAt 14 (bodyOf Try.f15))) (n + 1) (pt_15_v1_14.inst x) k = B_15_v1_14 N (fun y => iter 3 lv_15_v1_14 lo_15_v1_14 (aexec TT (E_15_v1 (R := R) N) (drawAny TT WW) (L_15_v1 N) (loopAt 14 (bodyOf Try.f15))) n (pt_15_v1_14.inst y) k) x (fun y => k (.exit 3) (px_15_v1_14_0.inst y)) := (gstep_15_v1_14 (l_15_v1_5 N N) (l_15_v1_14 N N) n x k).trans (by kernel_rfl)
theorem eq_15_v1_14 {R : Type} (N : Nat) : ∀ (n : Nat) (x : pt_15_v1_14.den) (k : Exit → St → Option R), iter 3 lv_15_v1_14 lo_15_v1_14 (aexec TT (E_15_v1 (R := R) N) (drawAny TT WW) (L_15_v1 N) (loopAt 14 (bodyOf Try.f15))) n (pt_15_v1_14.inst x) k = l_15_v1_14 N n x (fun y => k (.exit 3) (px_15_v1_14_0.inst y)) :=
  iter_eq (K := Exit → St → Option R) (ks := fun k => k) (l := fun n (x : pt_15_v1_14.den) k => l_15_v1_14 N n x (fun y => k (.exit 3) (px_15_v1_14_0.inst y))) (B := fun (rec : pt_15_v1_14.den → Option R) (x : pt_15_v1_14.den) k => B_15_v1_14 N rec x (fun y => k (.exit 3) (px_15_v1_14_0.inst y))) (fun _ _ => rfl) (fun _ _ _ => rfl) (fun n x k => step_15_v1_14 N n x k)
theorem rounds_15_v1_14 {R : Type} (N : Nat) : Rounds 3 TT (E_15_v1 (R := R) N) (drawAny TT WW) (L_15_v1 N) 14 (loopAt 14 (bodyOf Try.f15)) :=
  rounds_of (p := pt_15_v1_14) (l := fun (x : pt_15_v1_14.den) k => l_15_v1_14 N N x (fun y => k (.exit 3) (px_15_v1_14_0.inst y))) (fun s k => rfl) (fun x k => eq_15_v1_14 N N x k)
theorem loops_15_v1 : loopsIn (bodyOf Try.f15) = [(5, loopAt 5 (bodyOf Try.f15)), (14, loopAt 14 (bodyOf Try.f15))] := by kernel_rfl
theorem lok_15_v1 {R : Type} (N : Nat) : LOK 3 TT (E_15_v1 (R := R) N) (drawAny TT WW) (L_15_v1 N) (bodyOf Try.f15) := loops_all loops_15_v1 (by
  simp only [List.forall_mem_cons, List.not_mem_nil, false_implies, implies_true, and_true]
  exact ⟨rounds_15_v1_5 N, rounds_15_v1_14 N⟩)
theorem grun_15_v1 {R : Type} (m_15_v1_5 : Tl_15_v1_5 R) (m_15_v1_14 : Tl_15_v1_14 R) (x : aden ap_15_v1 × hden hp_15_v1) (k : KF R) : fnrun TT (EG_15_v1) (drawAny TT WW) (LG_15_v1 m_15_v1_5 m_15_v1_14) true Try.f15 (instA ap_15_v1 x.1) (instH hp_15_v1 x.2) k = Q_15_v1 m_15_v1_5 m_15_v1_14 x (fun y => k (Pat.inst (.tup (.fcons (.bool) (.fcons (.int .i64) (.fnil)))) y.1) (instH [some (.node (.fcons (.sl 1) (.fcons (.int .i64) (.fcons (.int .i64) (.fnil)))), 168), some (.lst (.bool), 4), some (.lst (.int .i64), 3)] y.2)) := by kernel_rfl
theorem run_15_v1 {R : Type} (N : Nat) (x : aden ap_15_v1 × hden hp_15_v1) (k : KF R) : fnrun TT (E_15_v1 (R := R) N) (drawAny TT WW) (L_15_v1 N) true Try.f15 (instA ap_15_v1 x.1) (instH hp_15_v1 x.2) k = p_15_v1 N x (fun y => k (Pat.inst (.tup (.fcons (.bool) (.fcons (.int .i64) (.fnil)))) y.1) (instH [some (.node (.fcons (.sl 1) (.fcons (.int .i64) (.fcons (.int .i64) (.fnil)))), 168), some (.lst (.bool), 4), some (.lst (.int .i64), 3)] y.2)) := (grun_15_v1 (l_15_v1_5 N N) (l_15_v1_14 N N) x k).trans (by kernel_rfl)
theorem good_15_v1 {R : Type} (N : Nat) : GD (X := R) Try.prog QQ 15 ap_15_v1 hp_15_v1 (fun (x : aden ap_15_v1 × hden hp_15_v1) k => p_15_v1 N x (fun y => k (Pat.inst (.tup (.fcons (.bool) (.fcons (.int .i64) (.fnil)))) y.1) (instH [some (.node (.fcons (.sl 1) (.fcons (.int .i64) (.fcons (.int .i64) (.fnil)))), 168), some (.lst (.bool), 4), some (.lst (.int .i64), 3)] y.2))) :=
  gd_loud (E := E_15_v1 N) (p := fun (x : aden ap_15_v1 × hden hp_15_v1) k => p_15_v1 N x (fun y => k (Pat.inst (.tup (.fcons (.bool) (.fcons (.int .i64) (.fnil)))) y.1) (instH [some (.node (.fcons (.sl 1) (.fcons (.int .i64) (.fcons (.int .i64) (.fnil)))), 168), some (.lst (.bool), 4), some (.lst (.int .i64), 3)] y.2))) mixed tyok (eok_15_v1 N) Try.func15 (by kernel_rfl) (by kernel_rfl) (by kernel_rfl) (lok_15_v1 N) (fun x k => run_15_v1 N x k)

def ap_80_v1 : List Pat := [.ptr 0 [], .int .i64]
def hp_80_v1 : List (Option (Pat × Nat)) := [some (.node (.fcons (.sl 1) (.fcons (.int .i64) (.fcons (.int .i64) (.fnil)))), 168), some (.lst (.bool), 4)]
def p_80_v1 {R : Type} (N : Nat) (x : (Unit × Int × Unit) × ((Unit × (Int × (Int × Unit))) × (List Bool) × Unit)) (κ0 : Bool → Option R) : Option R :=
let i106 : Int := x.1.2.1
let i107 : Int := x.2.1.2.1
let i108 : Int := x.2.1.2.2.1
let l109 : (List Bool) := x.2.2.1
bif (decide (i106 ≥ 0)) then (
let i110 : Int := (((List.length l109) : Nat) : Int)
bif (decide (i106 < i110)) then (
bif decide (0 ≤ i106) then (
bif decide (i106 < ((List.length l109) : Int)) then (
let b111 : Bool := (List.getD l109 ((Int.toNat i106)) (Sch.zero (.bool)))
κ0 b111) else none) else none) else (
κ0 false)) else (
κ0 false)

abbrev Tp_80_v1 (R : Type) : Type := (Unit × Int × Unit) × ((Unit × (Int × (Int × Unit))) × (List Bool) × Unit) → (Bool → Option R) → Option R
def Q_80_v1 {R : Type} (x : (Unit × Int × Unit) × ((Unit × (Int × (Int × Unit))) × (List Bool) × Unit)) (κ0 : Bool → Option R) : Option R :=
let i106 : Int := x.1.2.1
let i107 : Int := x.2.1.2.1
let i108 : Int := x.2.1.2.2.1
let l109 : (List Bool) := x.2.2.1
bif (decide (i106 ≥ 0)) then (
let i110 : Int := (((List.length l109) : Nat) : Int)
bif (decide (i106 < i110)) then (
bif decide (0 ≤ i106) then (
bif decide (i106 < ((List.length l109) : Int)) then (
let b111 : Bool := (List.getD l109 ((Int.toNat i106)) (Sch.zero (.bool)))
κ0 b111) else none) else none) else (
κ0 false)) else (
κ0 false)
def EG_80_v1 {R : Type} : Env R := Env.base QQ LN
def LG_80_v1 {R : Type} : Loops R := Loops.none
def E_80_v1 {R : Type} (N : Nat) : Env R := EG_80_v1
theorem eok_80_v1 {R : Type} (N : Nat) : EK Try.prog (E_80_v1 (R := R) N) := ek_base _ _
def L_80_v1 {R : Type} (N : Nat) : Loops R := LG_80_v1
theorem lok_80_v1 {R : Type} (N : Nat) : LOK 2 TT (E_80_v1 (R := R) N) (drawAny TT WW) (L_80_v1 N) (bodyOf Try.f80) := loops_nil (by kernel_rfl)
theorem grun_80_v1 {R : Type} (x : aden ap_80_v1 × hden hp_80_v1) (k : KF R) : fnrun TT (EG_80_v1) (drawAny TT WW) (LG_80_v1) true Try.f80 (instA ap_80_v1 x.1) (instH hp_80_v1 x.2) k = Q_80_v1 x (fun y => k (Pat.inst (.bool) y) (instH hp_80_v1 x.2)) := by kernel_rfl
theorem run_80_v1 {R : Type} (N : Nat) (x : aden ap_80_v1 × hden hp_80_v1) (k : KF R) : fnrun TT (E_80_v1 (R := R) N) (drawAny TT WW) (L_80_v1 N) true Try.f80 (instA ap_80_v1 x.1) (instH hp_80_v1 x.2) k = p_80_v1 N x (fun y => k (Pat.inst (.bool) y) (instH hp_80_v1 x.2)) := (grun_80_v1 x k).trans (by kernel_rfl)
theorem good_80_v1 {R : Type} (N : Nat) : GD (X := R) Try.prog QQ 80 ap_80_v1 hp_80_v1 (fun (x : aden ap_80_v1 × hden hp_80_v1) k => p_80_v1 N x (fun y => k (Pat.inst (.bool) y) (instH hp_80_v1 x.2))) :=
  gd_quiet (E := E_80_v1 N) (p := fun (x : aden ap_80_v1 × hden hp_80_v1) κ => p_80_v1 N x (fun y => κ (Pat.inst (.bool) y))) mixed tyok (eok_80_v1 N) Try.func80 (by kernel_rfl) (by kernel_rfl) (lok_80_v1 N) (fun x k => run_80_v1 N x k)

def ap_16_v1 : List Pat := [.ptr 0 []]
def hp_16_v1 : List (Option (Pat × Nat)) := [some (.node (.fcons (.sl 1) (.fcons (.int .i64) (.fcons (.int .i64) (.fnil)))), 168), some (.lst (.bool), 4)]
def p_16_v1 {R : Type} (N : Nat) (x : (Unit × Unit) × ((Unit × (Int × (Int × Unit))) × (List Bool) × Unit)) (κ0 : Int → Option R) : Option R :=
let i114 : Int := x.2.1.2.1
let i115 : Int := x.2.1.2.2.1
let l116 : (List Bool) := x.2.2.1
κ0 i115

abbrev Tp_16_v1 (R : Type) : Type := (Unit × Unit) × ((Unit × (Int × (Int × Unit))) × (List Bool) × Unit) → (Int → Option R) → Option R
def Q_16_v1 {R : Type} (x : (Unit × Unit) × ((Unit × (Int × (Int × Unit))) × (List Bool) × Unit)) (κ0 : Int → Option R) : Option R :=
let i114 : Int := x.2.1.2.1
let i115 : Int := x.2.1.2.2.1
let l116 : (List Bool) := x.2.2.1
κ0 i115
def EG_16_v1 {R : Type} : Env R := Env.base QQ LN
def LG_16_v1 {R : Type} : Loops R := Loops.none
def E_16_v1 {R : Type} (N : Nat) : Env R := EG_16_v1
theorem eok_16_v1 {R : Type} (N : Nat) : EK Try.prog (E_16_v1 (R := R) N) := ek_base _ _
def L_16_v1 {R : Type} (N : Nat) : Loops R := LG_16_v1
theorem lok_16_v1 {R : Type} (N : Nat) : LOK 2 TT (E_16_v1 (R := R) N) (drawAny TT WW) (L_16_v1 N) (bodyOf Try.f16) := loops_nil (by kernel_rfl)
theorem grun_16_v1 {R : Type} (x : aden ap_16_v1 × hden hp_16_v1) (k : KF R) : fnrun TT (EG_16_v1) (drawAny TT WW) (LG_16_v1) true Try.f16 (instA ap_16_v1 x.1) (instH hp_16_v1 x.2) k = Q_16_v1 x (fun y => k (Pat.inst (.int .i64) y) (instH hp_16_v1 x.2)) := by kernel_rfl
theorem run_16_v1 {R : Type} (N : Nat) (x : aden ap_16_v1 × hden hp_16_v1) (k : KF R) : fnrun TT (E_16_v1 (R := R) N) (drawAny TT WW) (L_16_v1 N) true Try.f16 (instA ap_16_v1 x.1) (instH hp_16_v1 x.2) k = p_16_v1 N x (fun y => k (Pat.inst (.int .i64) y) (instH hp_16_v1 x.2)) := (grun_16_v1 x k).trans (by kernel_rfl)
theorem good_16_v1 {R : Type} (N : Nat) : GD (X := R) Try.prog QQ 16 ap_16_v1 hp_16_v1 (fun (x : aden ap_16_v1 × hden hp_16_v1) k => p_16_v1 N x (fun y => k (Pat.inst (.int .i64) y) (instH hp_16_v1 x.2))) :=
  gd_quiet (E := E_16_v1 N) (p := fun (x : aden ap_16_v1 × hden hp_16_v1) κ => p_16_v1 N x (fun y => κ (Pat.inst (.int .i64) y))) mixed tyok (eok_16_v1 N) Try.func16 (by kernel_rfl) (by kernel_rfl) (lok_16_v1 N) (fun x k => run_16_v1 N x k)

def ap_12 : List Pat := []
def hp_12 : List (Option (Pat × Nat)) := []
def p_12 {R : Type} (N : Nat) (x : (Unit) × (Unit)) (κ0 : Bool → Option R) : Option R :=
p_13 N ((2, ()), ()) (fun y5 =>
let i6 : Int := y5.1.2.1
let l7 : (List Int) := [0]
p_15 N (((), (), ()), (l7, ())) (fun y9 =>
let b10 : Bool := y9.1.1
let i11 : Int := y9.1.2.1
let l12 : (List Int) := y9.2.1
let l13 : (List Int) := [0]
p_15 N (((), (), ()), (l13, ())) (fun y14 =>
let b15 : Bool := y14.1.1
let i16 : Int := y14.1.2.1
let l17 : (List Int) := y14.2.1
let l18 : (List Int) := [1]
p_15 N (((), (), ()), (l18, ())) (fun y19 =>
let b20 : Bool := y19.1.1
let i21 : Int := y19.1.2.1
let l22 : (List Int) := y19.2.1
bif (i6 == 0) then (
bif (!b10) then (
bif (i11 == 0) then (
bif (i16 == 15) then (
bif b20 then (
bif (i21 == 0) then (
p_80 N (((), 0, ()), ()) (fun y24 =>
let b25 : Bool := y24
bif (!b25) then (
p_16 N (((), ()), ()) (fun y26 =>
let i27 : Int := y26
κ0 ((i27 == 1)))) else (
κ0 false))) else (
κ0 false)) else (
κ0 false)) else (
κ0 false)) else (
κ0 false)) else (
κ0 false)) else (
κ0 false))))) (fun y28 =>
let i29 : Int := y28.1.2.1
let i30 : Int := y28.2.1.2.1
let i31 : Int := y28.2.1.2.2.1
let l32 : (List Bool) := y28.2.2.1
let l33 : (List Int) := [0]
p_15_v1 N (((), (), ()), (((), (i30, (i31, ()))), l32, l33, ())) (fun y83 =>
let b84 : Bool := y83.1.1
let i85 : Int := y83.1.2.1
let i86 : Int := y83.2.1.2.1
let i87 : Int := y83.2.1.2.2.1
let l88 : (List Bool) := y83.2.2.1
let l89 : (List Int) := y83.2.2.2.1
let l90 : (List Int) := [0]
p_15_v1 N (((), (), ()), (((), (i86, (i87, ()))), l88, l90, ())) (fun y91 =>
let b92 : Bool := y91.1.1
let i93 : Int := y91.1.2.1
let i94 : Int := y91.2.1.2.1
let i95 : Int := y91.2.1.2.2.1
let l96 : (List Bool) := y91.2.2.1
let l97 : (List Int) := y91.2.2.2.1
let l98 : (List Int) := [1]
p_15_v1 N (((), (), ()), (((), (i94, (i95, ()))), l96, l98, ())) (fun y99 =>
let b100 : Bool := y99.1.1
let i101 : Int := y99.1.2.1
let i102 : Int := y99.2.1.2.1
let i103 : Int := y99.2.1.2.2.1
let l104 : (List Bool) := y99.2.2.1
let l105 : (List Int) := y99.2.2.2.1
bif (i29 == 0) then (
bif (!b84) then (
bif (i85 == 0) then (
bif (i93 == 15) then (
bif b100 then (
bif (i101 == 0) then (
p_80_v1 N (((), 0, ()), (((), (i102, (i103, ()))), l104, ())) (fun y112 =>
let b113 : Bool := y112
bif (!b113) then (
p_16_v1 N (((), ()), (((), (i102, (i103, ()))), l104, ())) (fun y117 =>
let i118 : Int := y117
κ0 ((i118 == 1)))) else (
κ0 false))) else (
κ0 false)) else (
κ0 false)) else (
κ0 false)) else (
κ0 false)) else (
κ0 false)) else (
κ0 false)))))

abbrev Tp_12 (R : Type) : Type := (Unit) × (Unit) → (Bool → Option R) → Option R
def Q_12 {R : Type} (q_13 : Tp_13 R) (q_15 : Tp_15 R) (q_80 : Tp_80 R) (q_16 : Tp_16 R) (q_15_v1 : Tp_15_v1 R) (q_80_v1 : Tp_80_v1 R) (q_16_v1 : Tp_16_v1 R) (x : (Unit) × (Unit)) (κ0 : Bool → Option R) : Option R :=
q_13 ((2, ()), ()) (fun y5 =>
let i6 : Int := y5.1.2.1
let l7 : (List Int) := [0]
q_15 (((), (), ()), (l7, ())) (fun y9 =>
let b10 : Bool := y9.1.1
let i11 : Int := y9.1.2.1
let l12 : (List Int) := y9.2.1
let l13 : (List Int) := [0]
q_15 (((), (), ()), (l13, ())) (fun y14 =>
let b15 : Bool := y14.1.1
let i16 : Int := y14.1.2.1
let l17 : (List Int) := y14.2.1
let l18 : (List Int) := [1]
q_15 (((), (), ()), (l18, ())) (fun y19 =>
let b20 : Bool := y19.1.1
let i21 : Int := y19.1.2.1
let l22 : (List Int) := y19.2.1
bif (i6 == 0) then (
bif (!b10) then (
bif (i11 == 0) then (
bif (i16 == 15) then (
bif b20 then (
bif (i21 == 0) then (
q_80 (((), 0, ()), ()) (fun y24 =>
let b25 : Bool := y24
bif (!b25) then (
q_16 (((), ()), ()) (fun y26 =>
let i27 : Int := y26
κ0 ((i27 == 1)))) else (
κ0 false))) else (
κ0 false)) else (
κ0 false)) else (
κ0 false)) else (
κ0 false)) else (
κ0 false)) else (
κ0 false))))) (fun y28 =>
let i29 : Int := y28.1.2.1
let i30 : Int := y28.2.1.2.1
let i31 : Int := y28.2.1.2.2.1
let l32 : (List Bool) := y28.2.2.1
let l33 : (List Int) := [0]
q_15_v1 (((), (), ()), (((), (i30, (i31, ()))), l32, l33, ())) (fun y83 =>
let b84 : Bool := y83.1.1
let i85 : Int := y83.1.2.1
let i86 : Int := y83.2.1.2.1
let i87 : Int := y83.2.1.2.2.1
let l88 : (List Bool) := y83.2.2.1
let l89 : (List Int) := y83.2.2.2.1
let l90 : (List Int) := [0]
q_15_v1 (((), (), ()), (((), (i86, (i87, ()))), l88, l90, ())) (fun y91 =>
let b92 : Bool := y91.1.1
let i93 : Int := y91.1.2.1
let i94 : Int := y91.2.1.2.1
let i95 : Int := y91.2.1.2.2.1
let l96 : (List Bool) := y91.2.2.1
let l97 : (List Int) := y91.2.2.2.1
let l98 : (List Int) := [1]
q_15_v1 (((), (), ()), (((), (i94, (i95, ()))), l96, l98, ())) (fun y99 =>
let b100 : Bool := y99.1.1
let i101 : Int := y99.1.2.1
let i102 : Int := y99.2.1.2.1
let i103 : Int := y99.2.1.2.2.1
let l104 : (List Bool) := y99.2.2.1
let l105 : (List Int) := y99.2.2.2.1
bif (i29 == 0) then (
bif (!b84) then (
bif (i85 == 0) then (
bif (i93 == 15) then (
bif b100 then (
bif (i101 == 0) then (
q_80_v1 (((), 0, ()), (((), (i102, (i103, ()))), l104, ())) (fun y112 =>
let b113 : Bool := y112
bif (!b113) then (
q_16_v1 (((), ()), (((), (i102, (i103, ()))), l104, ())) (fun y117 =>
let i118 : Int := y117
κ0 ((i118 == 1)))) else (
κ0 false))) else (
κ0 false)) else (
κ0 false)) else (
κ0 false)) else (
κ0 false)) else (
κ0 false)) else (
κ0 false)))))
def EG_12 {R : Type} (q_13 : Tp_13 R) (q_15 : Tp_15 R) (q_80 : Tp_80 R) (q_16 : Tp_16 R) (q_15_v1 : Tp_15_v1 R) (q_80_v1 : Tp_80_v1 R) (q_16_v1 : Tp_16_v1 R) : Env R := (((((((Env.base QQ LN).add 13 ap_13 hp_13 (fun (x : aden ap_13 × hden hp_13) k => q_13 x (fun y => k (Pat.inst (.tup (.fcons (.nilp) (.fcons (.int .i64) (.fnil)))) y.1) (instH [] y.2)) (fun y => k (Pat.inst (.tup (.fcons (.ptr 0 []) (.fcons (.int .i64) (.fnil)))) y.1) (instH [some (.node (.fcons (.sl 1) (.fcons (.int .i64) (.fcons (.int .i64) (.fnil)))), 168), some (.lst (.bool), 4)] y.2)))).add 15 ap_15 hp_15 (fun (x : aden ap_15 × hden hp_15) k => q_15 x (fun y => k (Pat.inst (.tup (.fcons (.bool) (.fcons (.int .i64) (.fnil)))) y.1) (instH [some (.lst (.int .i64), 3)] y.2)))).add 80 ap_80 hp_80 (fun (x : aden ap_80 × hden hp_80) k => q_80 x (fun y => k (Pat.inst (.bool) y) (instH hp_80 x.2)))).add 16 ap_16 hp_16 (fun (x : aden ap_16 × hden hp_16) k => q_16 x (fun y => k (Pat.inst (.int .i64) y) (instH hp_16 x.2)))).add 15 ap_15_v1 hp_15_v1 (fun (x : aden ap_15_v1 × hden hp_15_v1) k => q_15_v1 x (fun y => k (Pat.inst (.tup (.fcons (.bool) (.fcons (.int .i64) (.fnil)))) y.1) (instH [some (.node (.fcons (.sl 1) (.fcons (.int .i64) (.fcons (.int .i64) (.fnil)))), 168), some (.lst (.bool), 4), some (.lst (.int .i64), 3)] y.2)))).add 80 ap_80_v1 hp_80_v1 (fun (x : aden ap_80_v1 × hden hp_80_v1) k => q_80_v1 x (fun y => k (Pat.inst (.bool) y) (instH hp_80_v1 x.2)))).add 16 ap_16_v1 hp_16_v1 (fun (x : aden ap_16_v1 × hden hp_16_v1) k => q_16_v1 x (fun y => k (Pat.inst (.int .i64) y) (instH hp_16_v1 x.2)))
def LG_12 {R : Type} : Loops R := Loops.none
def E_12 {R : Type} (N : Nat) : Env R := EG_12 (p_13 N) (p_15 N) (p_80 N) (p_16 N) (p_15_v1 N) (p_80_v1 N) (p_16_v1 N)
theorem eok_12 {R : Type} (N : Nat) : EK Try.prog (E_12 (R := R) N) := ek_add (ek_add (ek_add (ek_add (ek_add (ek_add (ek_add (ek_base _ _) (good_13 N)) (good_15 N)) (good_80 N)) (good_16 N)) (good_15_v1 N)) (good_80_v1 N)) (good_16_v1 N)
def L_12 {R : Type} (N : Nat) : Loops R := LG_12
theorem lok_12 {R : Type} (N : Nat) : LOK 0 TT (E_12 (R := R) N) (drawAny TT WW) (L_12 N) (bodyOf Try.f12) := loops_nil (by kernel_rfl)
theorem grun_12 {R : Type} (q_13 : Tp_13 R) (q_15 : Tp_15 R) (q_80 : Tp_80 R) (q_16 : Tp_16 R) (q_15_v1 : Tp_15_v1 R) (q_80_v1 : Tp_80_v1 R) (q_16_v1 : Tp_16_v1 R) (x : aden ap_12 × hden hp_12) (k : KF R) : fnrun TT (EG_12 q_13 q_15 q_80 q_16 q_15_v1 q_80_v1 q_16_v1) (drawAny TT WW) (LG_12) true Try.f12 (instA ap_12 x.1) (instH hp_12 x.2) k = Q_12 q_13 q_15 q_80 q_16 q_15_v1 q_80_v1 q_16_v1 x (fun y => k (Pat.inst (.bool) y) (instH hp_12 x.2)) := by kernel_rfl
theorem run_12 {R : Type} (N : Nat) (x : aden ap_12 × hden hp_12) (k : KF R) : fnrun TT (E_12 (R := R) N) (drawAny TT WW) (L_12 N) true Try.f12 (instA ap_12 x.1) (instH hp_12 x.2) k = p_12 N x (fun y => k (Pat.inst (.bool) y) (instH hp_12 x.2)) := (grun_12 (p_13 N) (p_15 N) (p_80 N) (p_16 N) (p_15_v1 N) (p_80_v1 N) (p_16_v1 N) x k).trans (by kernel_rfl)
theorem good_12 {R : Type} (N : Nat) : GD (X := R) Try.prog QQ 12 ap_12 hp_12 (fun (x : aden ap_12 × hden hp_12) k => p_12 N x (fun y => k (Pat.inst (.bool) y) (instH hp_12 x.2))) :=
  gd_quiet (E := E_12 N) (p := fun (x : aden ap_12 × hden hp_12) κ => p_12 N x (fun y => κ (Pat.inst (.bool) y))) mixed tyok (eok_12 N) Try.func12 (by kernel_rfl) (by kernel_rfl) (lok_12 N) (fun x k => run_12 N x k)

def lv_14_5 : Live := [(3, some (.int .i64, 3)), (11, none), (12, none), (13, none)]
def pt_14_5 : SPat := ⟨[(3, .sl 2), (11, .sl 1), (12, .int .i64), (13, .int .i64)], [some (.node (.fcons (.sl 1) (.fcons (.int .i64) (.fcons (.int .i64) (.fnil)))), 168), some (.lst (.bool), 4), some (.lst (.int .i64), 3)]⟩
def px_14_5_0 : SPat := ⟨[(3, .sl 2)], [some (.node (.fcons (.sl 1) (.fcons (.int .i64) (.fcons (.int .i64) (.fnil)))), 168), some (.lst (.bool), 4), some (.lst (.int .i64), 3)]⟩
def lo_14_5 : Exit → Live
  | .exit 0 => [(3, none)]
  | _ => []
def B_14_5 {R : Type} (N : Nat) (rec : ((Unit × Unit × Int × Int × Unit) × ((Unit × (Int × (Int × Unit))) × (List Bool) × (List Int) × Unit)) → Option R) (x : ((Unit × Unit × Int × Int × Unit) × ((Unit × (Int × (Int × Unit))) × (List Bool) × (List Int) × Unit))) (κ0 : ((Unit × Unit) × ((Unit × (Int × (Int × Unit))) × (List Bool) × (List Int) × Unit)) → Option R) : Option R :=
let i147 : Int := x.1.2.2.1
let i148 : Int := x.1.2.2.2.1
let i149 : Int := x.2.1.2.1
let i150 : Int := x.2.1.2.2.1
let l151 : (List Bool) := x.2.2.1
let l152 : (List Int) := x.2.2.2.1
bif (decide (i148 < i147)) then (
bif decide (0 ≤ i148) then (
bif decide (i148 < ((List.length l151) : Int)) then (
let b153 : Bool := (List.getD l151 ((Int.toNat i148)) (Sch.zero (.bool)))
bif (!b153) then (
let l154 : (List Int) := [i148]
bif (decide ((List.length l152 + List.length l154) * 8 ≤ 140737488355328) && true) then (
let l155 : (List Int) := (l152 ++ l154)
let i156 : Int := addA .i64 i148 1
rec (((), (), i147, i156, ()), (((), (i149, (i150, ()))), l151, l155, ()))) else none) else (
let i157 : Int := addA .i64 i148 1
rec (((), (), i147, i157, ()), (((), (i149, (i150, ()))), l151, l152, ())))) else none) else none) else (
κ0 (((), ()), (((), (i149, (i150, ()))), l151, l152, ())))
def l_14_5 {R : Type} (N : Nat) : Nat → ((Unit × Unit × Int × Int × Unit) × ((Unit × (Int × (Int × Unit))) × (List Bool) × (List Int) × Unit)) → (((Unit × Unit) × ((Unit × (Int × (Int × Unit))) × (List Bool) × (List Int) × Unit)) → Option R) → Option R
  | 0, _, _ => none
  | n + 1, x, κ0 => B_14_5 N (fun y => l_14_5 N n y κ0) x κ0
def ap_14 : List Pat := [.ptr 0 []]
def hp_14 : List (Option (Pat × Nat)) := [some (.node (.fcons (.sl 1) (.fcons (.int .i64) (.fcons (.int .i64) (.fnil)))), 168), some (.lst (.bool), 4)]
def p_14 {R : Type} (N : Nat) (x : (Unit × Unit) × ((Unit × (Int × (Int × Unit))) × (List Bool) × Unit)) (κ0 : (Unit × ((Unit × (Int × (Int × Unit))) × (List Bool) × (List Int) × Unit)) → Option R) : Option R :=
let i134 : Int := x.2.1.2.1
let i135 : Int := x.2.1.2.2.1
let l136 : (List Bool) := x.2.2.1
let i137 : Int := (((List.length l136) : Nat) : Int)
l_14_5 N N (((), (), i137, 0, ()), (((), (i134, (i135, ()))), l136, [], ())) (fun y158 =>
let i159 : Int := y158.2.1.2.1
let i160 : Int := y158.2.1.2.2.1
let l161 : (List Bool) := y158.2.2.1
let l162 : (List Int) := y158.2.2.2.1
κ0 ((), (((), (i159, (i160, ()))), l161, l162, ())))

abbrev Tl_14_5 (R : Type) : Type := ((Unit × Unit × Int × Int × Unit) × ((Unit × (Int × (Int × Unit))) × (List Bool) × (List Int) × Unit)) → (((Unit × Unit) × ((Unit × (Int × (Int × Unit))) × (List Bool) × (List Int) × Unit)) → Option R) → Option R
abbrev Tp_14 (R : Type) : Type := (Unit × Unit) × ((Unit × (Int × (Int × Unit))) × (List Bool) × Unit) → ((Unit × ((Unit × (Int × (Int × Unit))) × (List Bool) × (List Int) × Unit)) → Option R) → Option R
def Q_14 {R : Type} (m_14_5 : Tl_14_5 R) (x : (Unit × Unit) × ((Unit × (Int × (Int × Unit))) × (List Bool) × Unit)) (κ0 : (Unit × ((Unit × (Int × (Int × Unit))) × (List Bool) × (List Int) × Unit)) → Option R) : Option R :=
let i134 : Int := x.2.1.2.1
let i135 : Int := x.2.1.2.2.1
let l136 : (List Bool) := x.2.2.1
let i137 : Int := (((List.length l136) : Nat) : Int)
m_14_5 (((), (), i137, 0, ()), (((), (i134, (i135, ()))), l136, [], ())) (fun y158 =>
let i159 : Int := y158.2.1.2.1
let i160 : Int := y158.2.1.2.2.1
let l161 : (List Bool) := y158.2.2.1
let l162 : (List Int) := y158.2.2.2.1
κ0 ((), (((), (i159, (i160, ()))), l161, l162, ())))
def C_14_5 {R : Type} (m_14_5 : Tl_14_5 R) (rec : ((Unit × Unit × Int × Int × Unit) × ((Unit × (Int × (Int × Unit))) × (List Bool) × (List Int) × Unit)) → Option R) (x : ((Unit × Unit × Int × Int × Unit) × ((Unit × (Int × (Int × Unit))) × (List Bool) × (List Int) × Unit))) (κ0 : ((Unit × Unit) × ((Unit × (Int × (Int × Unit))) × (List Bool) × (List Int) × Unit)) → Option R) : Option R :=
let i147 : Int := x.1.2.2.1
let i148 : Int := x.1.2.2.2.1
let i149 : Int := x.2.1.2.1
let i150 : Int := x.2.1.2.2.1
let l151 : (List Bool) := x.2.2.1
let l152 : (List Int) := x.2.2.2.1
bif (decide (i148 < i147)) then (
bif decide (0 ≤ i148) then (
bif decide (i148 < ((List.length l151) : Int)) then (
let b153 : Bool := (List.getD l151 ((Int.toNat i148)) (Sch.zero (.bool)))
bif (!b153) then (
let l154 : (List Int) := [i148]
bif (decide ((List.length l152 + List.length l154) * 8 ≤ 140737488355328) && true) then (
let l155 : (List Int) := (l152 ++ l154)
let i156 : Int := addA .i64 i148 1
rec (((), (), i147, i156, ()), (((), (i149, (i150, ()))), l151, l155, ()))) else none) else (
let i157 : Int := addA .i64 i148 1
rec (((), (), i147, i157, ()), (((), (i149, (i150, ()))), l151, l152, ())))) else none) else none) else (
κ0 (((), ()), (((), (i149, (i150, ()))), l151, l152, ())))
def EG_14 {R : Type} : Env R := Env.base QQ LN
def LG_14 {R : Type} (m_14_5 : Tl_14_5 R) : Loops R := (Loops.none).add 5 (loopBy 2 lv_14_5 pt_14_5 (fun x k => m_14_5 x (fun y => k (.exit 0) (px_14_5_0.inst y))))
def E_14 {R : Type} (N : Nat) : Env R := EG_14
theorem eok_14 {R : Type} (N : Nat) : EK Try.prog (E_14 (R := R) N) := ek_base _ _
def L_14 {R : Type} (N : Nat) : Loops R := LG_14 (l_14_5 N N)
theorem gstep_14_5 {R : Type} (m_14_5 : Tl_14_5 R) (n : Nat) (x : pt_14_5.den) (k : Exit → St → Option R) : iter 2 lv_14_5 lo_14_5 (aexec TT (EG_14) (drawAny TT WW) (LG_14 m_14_5) (loopAt 5 (bodyOf Try.f14))) (n + 1) (pt_14_5.inst x) k = C_14_5 m_14_5 (fun y => iter 2 lv_14_5 lo_14_5 (aexec TT (EG_14) (drawAny TT WW) (LG_14 m_14_5) (loopAt 5 (bodyOf Try.f14))) n (pt_14_5.inst y) k) x (fun y => k (.exit 0) (px_14_5_0.inst y)) := by kernel_rfl
theorem step_14_5 {R : Type} (N n : Nat) (x : pt_14_5.den) (k : Exit → St → Option R) : iter 2 lv_14_5 lo_14_5 (aexec TT (E_14 (R := R) N) (drawAny TT WW) (L_14 N) (loopAt 5 (bodyOf Try.f14))) (n + 1) (pt_14_5.inst x) k = B_14_5 N (fun y => iter 2 lv_14_5 lo_14_5 (aexec TT (E_14 (R := R) N) (drawAny TT WW) (L_14 N) (loopAt 5 (bodyOf Try.f14))) n (pt_14_5.inst y) k) x (fun y => k (.exit 0) (px_14_5_0.inst y)) := (gstep_14_5 (l_14_5 N N) n x k).trans (by kernel_rfl)
theorem eq_14_5 {R : Type} (N : Nat) : ∀ (n : Nat) (x : pt_14_5.den) (k : Exit → St → Option R), iter 2 lv_14_5 lo_14_5 (aexec TT (E_14 (R := R) N) (drawAny TT WW) (L_14 N) (loopAt 5 (bodyOf Try.f14))) n (pt_14_5.inst x) k = l_14_5 N n x (fun y => k (.exit 0) (px_14_5_0.inst y)) :=
  iter_eq (K := Exit → St → Option R) (ks := fun k => k) (l := fun n (x : pt_14_5.den) k => l_14_5 N n x (fun y => k (.exit 0) (px_14_5_0.inst y))) (B := fun (rec : pt_14_5.den → Option R) (x : pt_14_5.den) k => B_14_5 N rec x (fun y => k (.exit 0) (px_14_5_0.inst y))) (fun _ _ => rfl) (fun _ _ _ => rfl) (fun n x k => step_14_5 N n x k)
theorem rounds_14_5 {R : Type} (N : Nat) : Rounds 2 TT (E_14 (R := R) N) (drawAny TT WW) (L_14 N) 5 (loopAt 5 (bodyOf Try.f14)) :=
  rounds_of (p := pt_14_5) (l := fun (x : pt_14_5.den) k => l_14_5 N N x (fun y => k (.exit 0) (px_14_5_0.inst y))) (fun s k => rfl) (fun x k => eq_14_5 N N x k)
theorem loops_14 : loopsIn (bodyOf Try.f14) = [(5, loopAt 5 (bodyOf Try.f14))] := by kernel_rfl
theorem lok_14 {R : Type} (N : Nat) : LOK 2 TT (E_14 (R := R) N) (drawAny TT WW) (L_14 N) (bodyOf Try.f14) := loops_all loops_14 (by
  simp only [List.forall_mem_cons, List.not_mem_nil, false_implies, implies_true, and_true]
  exact rounds_14_5 N)
theorem grun_14 {R : Type} (m_14_5 : Tl_14_5 R) (x : aden ap_14 × hden hp_14) (k : KF R) : fnrun TT (EG_14) (drawAny TT WW) (LG_14 m_14_5) false Try.f14 (instA ap_14 x.1) (instH hp_14 x.2) k = Q_14 m_14_5 x (fun y => k (Pat.inst (.sl 2) y.1) (instH [some (.node (.fcons (.sl 1) (.fcons (.int .i64) (.fcons (.int .i64) (.fnil)))), 168), some (.lst (.bool), 4), some (.lst (.int .i64), 3)] y.2)) := by kernel_rfl
theorem run_14 {R : Type} (N : Nat) (x : aden ap_14 × hden hp_14) (k : KF R) : fnrun TT (E_14 (R := R) N) (drawAny TT WW) (L_14 N) false Try.f14 (instA ap_14 x.1) (instH hp_14 x.2) k = p_14 N x (fun y => k (Pat.inst (.sl 2) y.1) (instH [some (.node (.fcons (.sl 1) (.fcons (.int .i64) (.fcons (.int .i64) (.fnil)))), 168), some (.lst (.bool), 4), some (.lst (.int .i64), 3)] y.2)) := (grun_14 (l_14_5 N N) x k).trans (by kernel_rfl)
theorem good_14 {R : Type} (N : Nat) : GD (X := R) Try.prog QQ 14 ap_14 hp_14 (fun (x : aden ap_14 × hden hp_14) k => p_14 N x (fun y => k (Pat.inst (.sl 2) y.1) (instH [some (.node (.fcons (.sl 1) (.fcons (.int .i64) (.fcons (.int .i64) (.fnil)))), 168), some (.lst (.bool), 4), some (.lst (.int .i64), 3)] y.2))) :=
  gd_loud (E := E_14 N) (p := fun (x : aden ap_14 × hden hp_14) k => p_14 N x (fun y => k (Pat.inst (.sl 2) y.1) (instH [some (.node (.fcons (.sl 1) (.fcons (.int .i64) (.fcons (.int .i64) (.fnil)))), 168), some (.lst (.bool), 4), some (.lst (.int .i64), 3)] y.2))) mixed tyok (eok_14 N) Try.func14 (by kernel_rfl) (by kernel_rfl) (by kernel_rfl) (lok_14 N) (fun x k => run_14 N x k)

def lv_3_11 : Live := [(0, none), (1, none), (5, none), (7, none), (8, none), (9, none)]
def pt_3_11 : SPat := ⟨[(0, .int .i64), (1, .ros (.int .i64)), (5, .ptr 0 []), (7, .int .i64), (8, .sl 2), (9, .int .i64)], [some (.node (.fcons (.sl 1) (.fcons (.int .i64) (.fcons (.int .i64) (.fnil)))), 168), some (.lst (.bool), 4), some (.lst (.int .i64), 3)]⟩
def px_3_11_0 : SPat := ⟨[(4, .bool)], []⟩
def px_3_11_1 : SPat := ⟨[(0, .int .i64), (1, .ros (.int .i64)), (5, .ptr 0 []), (7, .int .i64)], [some (.node (.fcons (.sl 1) (.fcons (.int .i64) (.fcons (.int .i64) (.fnil)))), 168), some (.lst (.bool), 4)]⟩
def lo_3_11 : Exit → Live
  | .ret => [(4, none)]
  | .exit 2 => [(0, none), (1, none), (5, none), (7, none)]
  | _ => []
def B_3_11 {R : Type} (N : Nat) (rec : ((Int × (List Int) × Unit × Int × Unit × Int × Unit) × ((Unit × (Int × (Int × Unit))) × (List Bool) × (List Int) × Unit)) → Option R) (x : ((Int × (List Int) × Unit × Int × Unit × Int × Unit) × ((Unit × (Int × (Int × Unit))) × (List Bool) × (List Int) × Unit))) (κ0 : ((Bool × Unit) × (Unit)) → Option R) (κ1 : ((Int × (List Int) × Unit × Int × Unit) × ((Unit × (Int × (Int × Unit))) × (List Bool) × Unit)) → Option R) : Option R :=
let i168 : Int := x.1.1
let l169 : (List Int) := x.1.2.1
let i170 : Int := x.1.2.2.2.1
let i171 : Int := x.1.2.2.2.2.2.1
let i172 : Int := x.2.1.2.1
let i173 : Int := x.2.1.2.2.1
let l174 : (List Bool) := x.2.2.1
let l175 : (List Int) := x.2.2.2.1
let i176 : Int := (((List.length l175) : Nat) : Int)
bif (decide (i176 > 0)) then (
let i177 : Int := (((List.length l169) : Nat) : Int)
bif (decide (i171 < i177)) then (
bif decide (0 ≤ i171) then (
bif decide (i171 < ((List.length l169) : Int)) then (
let p178 : Int := (List.getD l169 ((Int.toNat i171)) (Sch.zero (.int .i64)))
let i179 : Int := (((List.length l175) : Nat) : Int)
bif decide (i179 = 0) then none else (
let i180 : Int := remA .i64 p178 i179
let i181 : Int := (((List.length l175) : Nat) : Int)
let i182 : Int := addA .i64 i180 i181
let i183 : Int := (((List.length l175) : Nat) : Int)
bif decide (i183 = 0) then none else (
let i184 : Int := remA .i64 i182 i183
bif decide (0 ≤ i184) then (
bif decide (i184 < ((List.length l175) : Int)) then (
let i185 : Int := (List.getD l175 ((Int.toNat i184)) (Sch.zero (.int .i64)))
let l186 : (List Int) := [i185]
p_15_v1 N (((), (), ()), (((), (i172, (i173, ()))), l174, l186, ())) (fun y187 =>
let b188 : Bool := y187.1.1
let i189 : Int := y187.1.2.1
let i190 : Int := y187.2.1.2.1
let i191 : Int := y187.2.1.2.2.1
let l192 : (List Bool) := y187.2.2.1
let l193 : (List Int) := y187.2.2.2.1
bif (i189 != 0) then (
κ0 ((false, ()), ())) else (
let i194 : Int := (((List.length l175) : Nat) : Int)
bif (!(b188 == (i194 == 1))) then (
κ0 ((false, ()), ())) else (
let l195 : (List Int) := []
bif decide (0 ≤ i184) then (
bif decide (i184 ≤ (((List.length l175) : Nat) : Int)) then (
bif decide (0 ≤ i184) then (
bif (decide ((List.length l195 + List.length ((List.take (((Int.toNat i184) - 0)) (List.drop 0 l175)))) * 8 ≤ 140737488355328) && true) then (
let l196 : (List Int) := (l195 ++ (List.take (((Int.toNat i184) - 0)) (List.drop 0 l175)))
let i197 : Int := addA .i64 i184 1
bif decide (0 ≤ (((List.length l175) : Nat) : Int)) then (
bif decide ((((List.length l175) : Nat) : Int) ≤ (((List.length l175) : Nat) : Int)) then (
bif decide (0 ≤ i197) then (
bif decide (i197 ≤ (((List.length l175) : Nat) : Int)) then (
bif (decide ((List.length l196 + List.length ((List.take (((List.length l175) - (Int.toNat i197))) (List.drop ((Int.toNat i197)) l175)))) * 8 ≤ 140737488355328) && true) then (
let l198 : (List Int) := (l196 ++ (List.take (((List.length l175) - (Int.toNat i197))) (List.drop ((Int.toNat i197)) l175)))
let i199 : Int := addA .i64 i171 1
rec ((i168, l169, (), i170, (), i199, ()), (((), (i190, (i191, ()))), l192, l198, ()))) else none) else none) else none) else none) else none) else none) else none) else none) else none)))) else none) else none))) else none) else none) else (
bif decide (0 < ((List.length l175) : Int)) then (
let i200 : Int := (List.getD l175 0 (Sch.zero (.int .i64)))
let l201 : (List Int) := [i200]
p_15_v1 N (((), (), ()), (((), (i172, (i173, ()))), l174, l201, ())) (fun y202 =>
let b203 : Bool := y202.1.1
let i204 : Int := y202.1.2.1
let i205 : Int := y202.2.1.2.1
let i206 : Int := y202.2.1.2.2.1
let l207 : (List Bool) := y202.2.2.1
let l208 : (List Int) := y202.2.2.2.1
bif (i204 != 0) then (
κ0 ((false, ()), ())) else (
let i209 : Int := (((List.length l175) : Nat) : Int)
bif (!(b203 == (i209 == 1))) then (
κ0 ((false, ()), ())) else (
let l210 : (List Int) := []
bif decide (0 ≤ (((List.length l175) : Nat) : Int)) then (
bif (decide ((List.length l210 + List.length ((List.take ((0 - 0)) (List.drop 0 l175)))) * 8 ≤ 140737488355328) && true) then (
let l211 : (List Int) := (l210 ++ (List.take ((0 - 0)) (List.drop 0 l175)))
let i212 : Int := addA .i64 0 1
bif decide (0 ≤ (((List.length l175) : Nat) : Int)) then (
bif decide ((((List.length l175) : Nat) : Int) ≤ (((List.length l175) : Nat) : Int)) then (
bif decide (0 ≤ i212) then (
bif decide (i212 ≤ (((List.length l175) : Nat) : Int)) then (
bif (decide ((List.length l211 + List.length ((List.take (((List.length l175) - (Int.toNat i212))) (List.drop ((Int.toNat i212)) l175)))) * 8 ≤ 140737488355328) && true) then (
let l213 : (List Int) := (l211 ++ (List.take (((List.length l175) - (Int.toNat i212))) (List.drop ((Int.toNat i212)) l175)))
let i214 : Int := addA .i64 i171 1
rec ((i168, l169, (), i170, (), i214, ()), (((), (i205, (i206, ()))), l207, l213, ()))) else none) else none) else none) else none) else none) else none) else none)))) else none)) else (
κ1 ((i168, l169, (), i170, ()), (((), (i172, (i173, ()))), l174, ())))
def l_3_11 {R : Type} (N : Nat) : Nat → ((Int × (List Int) × Unit × Int × Unit × Int × Unit) × ((Unit × (Int × (Int × Unit))) × (List Bool) × (List Int) × Unit)) → (((Bool × Unit) × (Unit)) → Option R) → (((Int × (List Int) × Unit × Int × Unit) × ((Unit × (Int × (Int × Unit))) × (List Bool) × Unit)) → Option R) → Option R
  | 0, _, _, _ => none
  | n + 1, x, κ0, κ1 => B_3_11 N (fun y => l_3_11 N n y κ0 κ1) x κ0 κ1
def lv_3_7 : Live := [(0, none), (1, none), (5, none), (7, none)]
def pt_3_7 : SPat := ⟨[(0, .int .i64), (1, .ros (.int .i64)), (5, .ptr 0 []), (7, .int .i64)], [some (.node (.fcons (.sl 1) (.fcons (.int .i64) (.fcons (.int .i64) (.fnil)))), 168), some (.lst (.bool), 4)]⟩
def px_3_7_0 : SPat := ⟨[(4, .bool)], []⟩
def px_3_7_1 : SPat := ⟨[(0, .int .i64), (5, .ptr 0 [])], [some (.node (.fcons (.sl 1) (.fcons (.int .i64) (.fcons (.int .i64) (.fnil)))), 168), some (.lst (.bool), 4)]⟩
def lo_3_7 : Exit → Live
  | .ret => [(4, none)]
  | .exit 0 => [(0, none), (5, none)]
  | _ => []
def B_3_7 {R : Type} (N : Nat) (rec : ((Int × (List Int) × Unit × Int × Unit) × ((Unit × (Int × (Int × Unit))) × (List Bool) × Unit)) → Option R) (x : ((Int × (List Int) × Unit × Int × Unit) × ((Unit × (Int × (Int × Unit))) × (List Bool) × Unit))) (κ0 : ((Bool × Unit) × (Unit)) → Option R) (κ1 : ((Int × Unit × Unit) × ((Unit × (Int × (Int × Unit))) × (List Bool) × Unit)) → Option R) : Option R :=
let i128 : Int := x.1.1
let l129 : (List Int) := x.1.2.1
let i130 : Int := x.1.2.2.2.1
let i131 : Int := x.2.1.2.1
let i132 : Int := x.2.1.2.2.1
let l133 : (List Bool) := x.2.2.1
bif (decide (i130 < 2)) then (
p_14 N (((), ()), (((), (i131, (i132, ()))), l133, ())) (fun y163 =>
let i164 : Int := y163.2.1.2.1
let i165 : Int := y163.2.1.2.2.1
let l166 : (List Bool) := y163.2.2.1
let l167 : (List Int) := y163.2.2.2.1
l_3_11 N N ((i128, l129, (), i130, (), 0, ()), (((), (i164, (i165, ()))), l166, l167, ())) (fun y215 =>
let b216 : Bool := y215.1.1
κ0 ((b216, ()), ())) (fun y217 =>
let i218 : Int := y217.1.1
let l219 : (List Int) := y217.1.2.1
let i220 : Int := y217.1.2.2.2.1
let i221 : Int := y217.2.1.2.1
let i222 : Int := y217.2.1.2.2.1
let l223 : (List Bool) := y217.2.2.1
let i224 : Int := addA .i64 i220 1
rec ((i218, l219, (), i224, ()), (((), (i221, (i222, ()))), l223, ()))))) else (
κ1 ((i128, (), ()), (((), (i131, (i132, ()))), l133, ())))
def l_3_7 {R : Type} (N : Nat) : Nat → ((Int × (List Int) × Unit × Int × Unit) × ((Unit × (Int × (Int × Unit))) × (List Bool) × Unit)) → (((Bool × Unit) × (Unit)) → Option R) → (((Int × Unit × Unit) × ((Unit × (Int × (Int × Unit))) × (List Bool) × Unit)) → Option R) → Option R
  | 0, _, _, _ => none
  | n + 1, x, κ0, κ1 => B_3_7 N (fun y => l_3_7 N n y κ0 κ1) x κ0 κ1
def ap_3 : List Pat := [.int .i64, .ros (.int .i64)]
def hp_3 : List (Option (Pat × Nat)) := []
def p_3 {R : Type} (N : Nat) (x : (Int × (List Int) × Unit) × (Unit)) (κ0 : (Bool × (Unit)) → Option R) : Option R :=
let i1 : Int := x.1.1
let l2 : (List Int) := x.1.2.1
p_12 N ((), ()) (fun y119 =>
let b120 : Bool := y119
bif (!b120) then (
κ0 (false, ())) else (
bif (decide (i1 < 1)) then (
κ0 (true, ())) else (
bif (decide (i1 > 60)) then (
κ0 (true, ())) else (
p_13 N ((i1, ()), ()) (fun y121 =>
let i122 : Int := y121.1.2.1
none) (fun y123 =>
let i124 : Int := y123.1.2.1
let i125 : Int := y123.2.1.2.1
let i126 : Int := y123.2.1.2.2.1
let l127 : (List Bool) := y123.2.2.1
l_3_7 N N ((i1, l2, (), 0, ()), (((), (i125, (i126, ()))), l127, ())) (fun y225 =>
let b226 : Bool := y225.1.1
κ0 (b226, ())) (fun y227 =>
let i228 : Int := y227.1.1
let i229 : Int := y227.2.1.2.1
let i230 : Int := y227.2.1.2.2.1
let l231 : (List Bool) := y227.2.2.1
p_16_v1 N (((), ()), (((), (i229, (i230, ()))), l231, ())) (fun y232 =>
let i233 : Int := y232
bif (i233 == 2) then (
p_14 N (((), ()), (((), (i229, (i230, ()))), l231, ())) (fun y234 =>
let i235 : Int := y234.2.1.2.1
let i236 : Int := y234.2.1.2.2.1
let l237 : (List Bool) := y234.2.2.1
let l238 : (List Int) := y234.2.2.2.1
let i239 : Int := (((List.length l238) : Nat) : Int)
κ0 ((i239 == i228), ()))) else (
κ0 (false, ())))))))))

abbrev Tl_3_11 (R : Type) : Type := ((Int × (List Int) × Unit × Int × Unit × Int × Unit) × ((Unit × (Int × (Int × Unit))) × (List Bool) × (List Int) × Unit)) → (((Bool × Unit) × (Unit)) → Option R) → (((Int × (List Int) × Unit × Int × Unit) × ((Unit × (Int × (Int × Unit))) × (List Bool) × Unit)) → Option R) → Option R
abbrev Tl_3_7 (R : Type) : Type := ((Int × (List Int) × Unit × Int × Unit) × ((Unit × (Int × (Int × Unit))) × (List Bool) × Unit)) → (((Bool × Unit) × (Unit)) → Option R) → (((Int × Unit × Unit) × ((Unit × (Int × (Int × Unit))) × (List Bool) × Unit)) → Option R) → Option R
abbrev Tp_3 (R : Type) : Type := (Int × (List Int) × Unit) × (Unit) → ((Bool × (Unit)) → Option R) → Option R
def Q_3 {R : Type} (q_12 : Tp_12 R) (q_13 : Tp_13 R) (q_16_v1 : Tp_16_v1 R) (q_14 : Tp_14 R) (q_15_v1 : Tp_15_v1 R) (m_3_11 : Tl_3_11 R) (m_3_7 : Tl_3_7 R) (x : (Int × (List Int) × Unit) × (Unit)) (κ0 : (Bool × (Unit)) → Option R) : Option R :=
let i1 : Int := x.1.1
let l2 : (List Int) := x.1.2.1
q_12 ((), ()) (fun y119 =>
let b120 : Bool := y119
bif (!b120) then (
κ0 (false, ())) else (
bif (decide (i1 < 1)) then (
κ0 (true, ())) else (
bif (decide (i1 > 60)) then (
κ0 (true, ())) else (
q_13 ((i1, ()), ()) (fun y121 =>
let i122 : Int := y121.1.2.1
none) (fun y123 =>
let i124 : Int := y123.1.2.1
let i125 : Int := y123.2.1.2.1
let i126 : Int := y123.2.1.2.2.1
let l127 : (List Bool) := y123.2.2.1
m_3_7 ((i1, l2, (), 0, ()), (((), (i125, (i126, ()))), l127, ())) (fun y225 =>
let b226 : Bool := y225.1.1
κ0 (b226, ())) (fun y227 =>
let i228 : Int := y227.1.1
let i229 : Int := y227.2.1.2.1
let i230 : Int := y227.2.1.2.2.1
let l231 : (List Bool) := y227.2.2.1
q_16_v1 (((), ()), (((), (i229, (i230, ()))), l231, ())) (fun y232 =>
let i233 : Int := y232
bif (i233 == 2) then (
q_14 (((), ()), (((), (i229, (i230, ()))), l231, ())) (fun y234 =>
let i235 : Int := y234.2.1.2.1
let i236 : Int := y234.2.1.2.2.1
let l237 : (List Bool) := y234.2.2.1
let l238 : (List Int) := y234.2.2.2.1
let i239 : Int := (((List.length l238) : Nat) : Int)
κ0 ((i239 == i228), ()))) else (
κ0 (false, ())))))))))
def C_3_11 {R : Type} (q_12 : Tp_12 R) (q_13 : Tp_13 R) (q_16_v1 : Tp_16_v1 R) (q_14 : Tp_14 R) (q_15_v1 : Tp_15_v1 R) (m_3_11 : Tl_3_11 R) (m_3_7 : Tl_3_7 R) (rec : ((Int × (List Int) × Unit × Int × Unit × Int × Unit) × ((Unit × (Int × (Int × Unit))) × (List Bool) × (List Int) × Unit)) → Option R) (x : ((Int × (List Int) × Unit × Int × Unit × Int × Unit) × ((Unit × (Int × (Int × Unit))) × (List Bool) × (List Int) × Unit))) (κ0 : ((Bool × Unit) × (Unit)) → Option R) (κ1 : ((Int × (List Int) × Unit × Int × Unit) × ((Unit × (Int × (Int × Unit))) × (List Bool) × Unit)) → Option R) : Option R :=
let i168 : Int := x.1.1
let l169 : (List Int) := x.1.2.1
let i170 : Int := x.1.2.2.2.1
let i171 : Int := x.1.2.2.2.2.2.1
let i172 : Int := x.2.1.2.1
let i173 : Int := x.2.1.2.2.1
let l174 : (List Bool) := x.2.2.1
let l175 : (List Int) := x.2.2.2.1
let i176 : Int := (((List.length l175) : Nat) : Int)
bif (decide (i176 > 0)) then (
let i177 : Int := (((List.length l169) : Nat) : Int)
bif (decide (i171 < i177)) then (
bif decide (0 ≤ i171) then (
bif decide (i171 < ((List.length l169) : Int)) then (
let p178 : Int := (List.getD l169 ((Int.toNat i171)) (Sch.zero (.int .i64)))
let i179 : Int := (((List.length l175) : Nat) : Int)
bif decide (i179 = 0) then none else (
let i180 : Int := remA .i64 p178 i179
let i181 : Int := (((List.length l175) : Nat) : Int)
let i182 : Int := addA .i64 i180 i181
let i183 : Int := (((List.length l175) : Nat) : Int)
bif decide (i183 = 0) then none else (
let i184 : Int := remA .i64 i182 i183
bif decide (0 ≤ i184) then (
bif decide (i184 < ((List.length l175) : Int)) then (
let i185 : Int := (List.getD l175 ((Int.toNat i184)) (Sch.zero (.int .i64)))
let l186 : (List Int) := [i185]
q_15_v1 (((), (), ()), (((), (i172, (i173, ()))), l174, l186, ())) (fun y187 =>
let b188 : Bool := y187.1.1
let i189 : Int := y187.1.2.1
let i190 : Int := y187.2.1.2.1
let i191 : Int := y187.2.1.2.2.1
let l192 : (List Bool) := y187.2.2.1
let l193 : (List Int) := y187.2.2.2.1
bif (i189 != 0) then (
κ0 ((false, ()), ())) else (
let i194 : Int := (((List.length l175) : Nat) : Int)
bif (!(b188 == (i194 == 1))) then (
κ0 ((false, ()), ())) else (
let l195 : (List Int) := []
bif decide (0 ≤ i184) then (
bif decide (i184 ≤ (((List.length l175) : Nat) : Int)) then (
bif decide (0 ≤ i184) then (
bif (decide ((List.length l195 + List.length ((List.take (((Int.toNat i184) - 0)) (List.drop 0 l175)))) * 8 ≤ 140737488355328) && true) then (
let l196 : (List Int) := (l195 ++ (List.take (((Int.toNat i184) - 0)) (List.drop 0 l175)))
let i197 : Int := addA .i64 i184 1
bif decide (0 ≤ (((List.length l175) : Nat) : Int)) then (
bif decide ((((List.length l175) : Nat) : Int) ≤ (((List.length l175) : Nat) : Int)) then (
bif decide (0 ≤ i197) then (
bif decide (i197 ≤ (((List.length l175) : Nat) : Int)) then (
bif (decide ((List.length l196 + List.length ((List.take (((List.length l175) - (Int.toNat i197))) (List.drop ((Int.toNat i197)) l175)))) * 8 ≤ 140737488355328) && true) then (
let l198 : (List Int) := (l196 ++ (List.take (((List.length l175) - (Int.toNat i197))) (List.drop ((Int.toNat i197)) l175)))
let i199 : Int := addA .i64 i171 1
rec ((i168, l169, (), i170, (), i199, ()), (((), (i190, (i191, ()))), l192, l198, ()))) else none) else none) else none) else none) else none) else none) else none) else none) else none)))) else none) else none))) else none) else none) else (
bif decide (0 < ((List.length l175) : Int)) then (
let i200 : Int := (List.getD l175 0 (Sch.zero (.int .i64)))
let l201 : (List Int) := [i200]
q_15_v1 (((), (), ()), (((), (i172, (i173, ()))), l174, l201, ())) (fun y202 =>
let b203 : Bool := y202.1.1
let i204 : Int := y202.1.2.1
let i205 : Int := y202.2.1.2.1
let i206 : Int := y202.2.1.2.2.1
let l207 : (List Bool) := y202.2.2.1
let l208 : (List Int) := y202.2.2.2.1
bif (i204 != 0) then (
κ0 ((false, ()), ())) else (
let i209 : Int := (((List.length l175) : Nat) : Int)
bif (!(b203 == (i209 == 1))) then (
κ0 ((false, ()), ())) else (
let l210 : (List Int) := []
bif decide (0 ≤ (((List.length l175) : Nat) : Int)) then (
bif (decide ((List.length l210 + List.length ((List.take ((0 - 0)) (List.drop 0 l175)))) * 8 ≤ 140737488355328) && true) then (
let l211 : (List Int) := (l210 ++ (List.take ((0 - 0)) (List.drop 0 l175)))
let i212 : Int := addA .i64 0 1
bif decide (0 ≤ (((List.length l175) : Nat) : Int)) then (
bif decide ((((List.length l175) : Nat) : Int) ≤ (((List.length l175) : Nat) : Int)) then (
bif decide (0 ≤ i212) then (
bif decide (i212 ≤ (((List.length l175) : Nat) : Int)) then (
bif (decide ((List.length l211 + List.length ((List.take (((List.length l175) - (Int.toNat i212))) (List.drop ((Int.toNat i212)) l175)))) * 8 ≤ 140737488355328) && true) then (
let l213 : (List Int) := (l211 ++ (List.take (((List.length l175) - (Int.toNat i212))) (List.drop ((Int.toNat i212)) l175)))
let i214 : Int := addA .i64 i171 1
rec ((i168, l169, (), i170, (), i214, ()), (((), (i205, (i206, ()))), l207, l213, ()))) else none) else none) else none) else none) else none) else none) else none)))) else none)) else (
κ1 ((i168, l169, (), i170, ()), (((), (i172, (i173, ()))), l174, ())))
def C_3_7 {R : Type} (q_12 : Tp_12 R) (q_13 : Tp_13 R) (q_16_v1 : Tp_16_v1 R) (q_14 : Tp_14 R) (q_15_v1 : Tp_15_v1 R) (m_3_11 : Tl_3_11 R) (m_3_7 : Tl_3_7 R) (rec : ((Int × (List Int) × Unit × Int × Unit) × ((Unit × (Int × (Int × Unit))) × (List Bool) × Unit)) → Option R) (x : ((Int × (List Int) × Unit × Int × Unit) × ((Unit × (Int × (Int × Unit))) × (List Bool) × Unit))) (κ0 : ((Bool × Unit) × (Unit)) → Option R) (κ1 : ((Int × Unit × Unit) × ((Unit × (Int × (Int × Unit))) × (List Bool) × Unit)) → Option R) : Option R :=
let i128 : Int := x.1.1
let l129 : (List Int) := x.1.2.1
let i130 : Int := x.1.2.2.2.1
let i131 : Int := x.2.1.2.1
let i132 : Int := x.2.1.2.2.1
let l133 : (List Bool) := x.2.2.1
bif (decide (i130 < 2)) then (
q_14 (((), ()), (((), (i131, (i132, ()))), l133, ())) (fun y163 =>
let i164 : Int := y163.2.1.2.1
let i165 : Int := y163.2.1.2.2.1
let l166 : (List Bool) := y163.2.2.1
let l167 : (List Int) := y163.2.2.2.1
m_3_11 ((i128, l129, (), i130, (), 0, ()), (((), (i164, (i165, ()))), l166, l167, ())) (fun y215 =>
let b216 : Bool := y215.1.1
κ0 ((b216, ()), ())) (fun y217 =>
let i218 : Int := y217.1.1
let l219 : (List Int) := y217.1.2.1
let i220 : Int := y217.1.2.2.2.1
let i221 : Int := y217.2.1.2.1
let i222 : Int := y217.2.1.2.2.1
let l223 : (List Bool) := y217.2.2.1
let i224 : Int := addA .i64 i220 1
rec ((i218, l219, (), i224, ()), (((), (i221, (i222, ()))), l223, ()))))) else (
κ1 ((i128, (), ()), (((), (i131, (i132, ()))), l133, ())))
def EG_3 {R : Type} (q_12 : Tp_12 R) (q_13 : Tp_13 R) (q_16_v1 : Tp_16_v1 R) (q_14 : Tp_14 R) (q_15_v1 : Tp_15_v1 R) : Env R := (((((Env.base QQ LN).add 12 ap_12 hp_12 (fun (x : aden ap_12 × hden hp_12) k => q_12 x (fun y => k (Pat.inst (.bool) y) (instH hp_12 x.2)))).add 13 ap_13 hp_13 (fun (x : aden ap_13 × hden hp_13) k => q_13 x (fun y => k (Pat.inst (.tup (.fcons (.nilp) (.fcons (.int .i64) (.fnil)))) y.1) (instH [] y.2)) (fun y => k (Pat.inst (.tup (.fcons (.ptr 0 []) (.fcons (.int .i64) (.fnil)))) y.1) (instH [some (.node (.fcons (.sl 1) (.fcons (.int .i64) (.fcons (.int .i64) (.fnil)))), 168), some (.lst (.bool), 4)] y.2)))).add 16 ap_16_v1 hp_16_v1 (fun (x : aden ap_16_v1 × hden hp_16_v1) k => q_16_v1 x (fun y => k (Pat.inst (.int .i64) y) (instH hp_16_v1 x.2)))).add 14 ap_14 hp_14 (fun (x : aden ap_14 × hden hp_14) k => q_14 x (fun y => k (Pat.inst (.sl 2) y.1) (instH [some (.node (.fcons (.sl 1) (.fcons (.int .i64) (.fcons (.int .i64) (.fnil)))), 168), some (.lst (.bool), 4), some (.lst (.int .i64), 3)] y.2)))).add 15 ap_15_v1 hp_15_v1 (fun (x : aden ap_15_v1 × hden hp_15_v1) k => q_15_v1 x (fun y => k (Pat.inst (.tup (.fcons (.bool) (.fcons (.int .i64) (.fnil)))) y.1) (instH [some (.node (.fcons (.sl 1) (.fcons (.int .i64) (.fcons (.int .i64) (.fnil)))), 168), some (.lst (.bool), 4), some (.lst (.int .i64), 3)] y.2)))
def LG_3 {R : Type} (m_3_11 : Tl_3_11 R) (m_3_7 : Tl_3_7 R) : Loops R := ((Loops.none).add 11 (loopBy 0 lv_3_11 pt_3_11 (fun x k => m_3_11 x (fun y => k .ret (px_3_11_0.inst y)) (fun y => k (.exit 2) (px_3_11_1.inst y))))).add 7 (loopBy 0 lv_3_7 pt_3_7 (fun x k => m_3_7 x (fun y => k .ret (px_3_7_0.inst y)) (fun y => k (.exit 0) (px_3_7_1.inst y))))
def E_3 {R : Type} (N : Nat) : Env R := EG_3 (p_12 N) (p_13 N) (p_16_v1 N) (p_14 N) (p_15_v1 N)
theorem eok_3 {R : Type} (N : Nat) : EK Try.prog (E_3 (R := R) N) := ek_add (ek_add (ek_add (ek_add (ek_add (ek_base _ _) (good_12 N)) (good_13 N)) (good_16_v1 N)) (good_14 N)) (good_15_v1 N)
def L_3 {R : Type} (N : Nat) : Loops R := LG_3 (l_3_11 N N) (l_3_7 N N)
theorem gstep_3_11 {R : Type} (q_12 : Tp_12 R) (q_13 : Tp_13 R) (q_16_v1 : Tp_16_v1 R) (q_14 : Tp_14 R) (q_15_v1 : Tp_15_v1 R) (m_3_11 : Tl_3_11 R) (m_3_7 : Tl_3_7 R) (n : Nat) (x : pt_3_11.den) (k : Exit → St → Option R) : iter 0 lv_3_11 lo_3_11 (aexec TT (EG_3 q_12 q_13 q_16_v1 q_14 q_15_v1) (drawAny TT WW) (LG_3 m_3_11 m_3_7) (loopAt 11 (bodyOf Try.f3))) (n + 1) (pt_3_11.inst x) k = C_3_11 q_12 q_13 q_16_v1 q_14 q_15_v1 m_3_11 m_3_7 (fun y => iter 0 lv_3_11 lo_3_11 (aexec TT (EG_3 q_12 q_13 q_16_v1 q_14 q_15_v1) (drawAny TT WW) (LG_3 m_3_11 m_3_7) (loopAt 11 (bodyOf Try.f3))) n (pt_3_11.inst y) k) x (fun y => k .ret (px_3_11_0.inst y)) (fun y => k (.exit 2) (px_3_11_1.inst y)) := by kernel_rfl
theorem step_3_11 {R : Type} (N n : Nat) (x : pt_3_11.den) (k : Exit → St → Option R) : iter 0 lv_3_11 lo_3_11 (aexec TT (E_3 (R := R) N) (drawAny TT WW) (L_3 N) (loopAt 11 (bodyOf Try.f3))) (n + 1) (pt_3_11.inst x) k = B_3_11 N (fun y => iter 0 lv_3_11 lo_3_11 (aexec TT (E_3 (R := R) N) (drawAny TT WW) (L_3 N) (loopAt 11 (bodyOf Try.f3))) n (pt_3_11.inst y) k) x (fun y => k .ret (px_3_11_0.inst y)) (fun y => k (.exit 2) (px_3_11_1.inst y)) := (gstep_3_11 (p_12 N) (p_13 N) (p_16_v1 N) (p_14 N) (p_15_v1 N) (l_3_11 N N) (l_3_7 N N) n x k).trans (by kernel_rfl)
theorem eq_3_11 {R : Type} (N : Nat) : ∀ (n : Nat) (x : pt_3_11.den) (k : Exit → St → Option R), iter 0 lv_3_11 lo_3_11 (aexec TT (E_3 (R := R) N) (drawAny TT WW) (L_3 N) (loopAt 11 (bodyOf Try.f3))) n (pt_3_11.inst x) k = l_3_11 N n x (fun y => k .ret (px_3_11_0.inst y)) (fun y => k (.exit 2) (px_3_11_1.inst y)) :=
  iter_eq (K := Exit → St → Option R) (ks := fun k => k) (l := fun n (x : pt_3_11.den) k => l_3_11 N n x (fun y => k .ret (px_3_11_0.inst y)) (fun y => k (.exit 2) (px_3_11_1.inst y))) (B := fun (rec : pt_3_11.den → Option R) (x : pt_3_11.den) k => B_3_11 N rec x (fun y => k .ret (px_3_11_0.inst y)) (fun y => k (.exit 2) (px_3_11_1.inst y))) (fun _ _ => rfl) (fun _ _ _ => rfl) (fun n x k => step_3_11 N n x k)
theorem rounds_3_11 {R : Type} (N : Nat) : Rounds 0 TT (E_3 (R := R) N) (drawAny TT WW) (L_3 N) 11 (loopAt 11 (bodyOf Try.f3)) :=
  rounds_of (p := pt_3_11) (l := fun (x : pt_3_11.den) k => l_3_11 N N x (fun y => k .ret (px_3_11_0.inst y)) (fun y => k (.exit 2) (px_3_11_1.inst y))) (fun s k => rfl) (fun x k => eq_3_11 N N x k)
theorem gstep_3_7 {R : Type} (q_12 : Tp_12 R) (q_13 : Tp_13 R) (q_16_v1 : Tp_16_v1 R) (q_14 : Tp_14 R) (q_15_v1 : Tp_15_v1 R) (m_3_11 : Tl_3_11 R) (m_3_7 : Tl_3_7 R) (n : Nat) (x : pt_3_7.den) (k : Exit → St → Option R) : iter 0 lv_3_7 lo_3_7 (aexec TT (EG_3 q_12 q_13 q_16_v1 q_14 q_15_v1) (drawAny TT WW) (LG_3 m_3_11 m_3_7) (loopAt 7 (bodyOf Try.f3))) (n + 1) (pt_3_7.inst x) k = C_3_7 q_12 q_13 q_16_v1 q_14 q_15_v1 m_3_11 m_3_7 (fun y => iter 0 lv_3_7 lo_3_7 (aexec TT (EG_3 q_12 q_13 q_16_v1 q_14 q_15_v1) (drawAny TT WW) (LG_3 m_3_11 m_3_7) (loopAt 7 (bodyOf Try.f3))) n (pt_3_7.inst y) k) x (fun y => k .ret (px_3_7_0.inst y)) (fun y => k (.exit 0) (px_3_7_1.inst y)) := by kernel_rfl
theorem step_3_7 {R : Type} (N n : Nat) (x : pt_3_7.den) (k : Exit → St → Option R) : iter 0 lv_3_7 lo_3_7 (aexec TT (E_3 (R := R) N) (drawAny TT WW) (L_3 N) (loopAt 7 (bodyOf Try.f3))) (n + 1) (pt_3_7.inst x) k = B_3_7 N (fun y => iter 0 lv_3_7 lo_3_7 (aexec TT (E_3 (R := R) N) (drawAny TT WW) (L_3 N) (loopAt 7 (bodyOf Try.f3))) n (pt_3_7.inst y) k) x (fun y => k .ret (px_3_7_0.inst y)) (fun y => k (.exit 0) (px_3_7_1.inst y)) := (gstep_3_7 (p_12 N) (p_13 N) (p_16_v1 N) (p_14 N) (p_15_v1 N) (l_3_11 N N) (l_3_7 N N) n x k).trans (by kernel_rfl)
theorem eq_3_7 {R : Type} (N : Nat) : ∀ (n : Nat) (x : pt_3_7.den) (k : Exit → St → Option R), iter 0 lv_3_7 lo_3_7 (aexec TT (E_3 (R := R) N) (drawAny TT WW) (L_3 N) (loopAt 7 (bodyOf Try.f3))) n (pt_3_7.inst x) k = l_3_7 N n x (fun y => k .ret (px_3_7_0.inst y)) (fun y => k (.exit 0) (px_3_7_1.inst y)) :=
  iter_eq (K := Exit → St → Option R) (ks := fun k => k) (l := fun n (x : pt_3_7.den) k => l_3_7 N n x (fun y => k .ret (px_3_7_0.inst y)) (fun y => k (.exit 0) (px_3_7_1.inst y))) (B := fun (rec : pt_3_7.den → Option R) (x : pt_3_7.den) k => B_3_7 N rec x (fun y => k .ret (px_3_7_0.inst y)) (fun y => k (.exit 0) (px_3_7_1.inst y))) (fun _ _ => rfl) (fun _ _ _ => rfl) (fun n x k => step_3_7 N n x k)
theorem rounds_3_7 {R : Type} (N : Nat) : Rounds 0 TT (E_3 (R := R) N) (drawAny TT WW) (L_3 N) 7 (loopAt 7 (bodyOf Try.f3)) :=
  rounds_of (p := pt_3_7) (l := fun (x : pt_3_7.den) k => l_3_7 N N x (fun y => k .ret (px_3_7_0.inst y)) (fun y => k (.exit 0) (px_3_7_1.inst y))) (fun s k => rfl) (fun x k => eq_3_7 N N x k)
theorem loops_3 : loopsIn (bodyOf Try.f3) = [(7, loopAt 7 (bodyOf Try.f3)), (11, loopAt 11 (bodyOf Try.f3))] := by kernel_rfl
theorem lok_3 {R : Type} (N : Nat) : LOK 0 TT (E_3 (R := R) N) (drawAny TT WW) (L_3 N) (bodyOf Try.f3) := loops_all loops_3 (by
  simp only [List.forall_mem_cons, List.not_mem_nil, false_implies, implies_true, and_true]
  exact ⟨rounds_3_7 N, rounds_3_11 N⟩)
theorem grun_3 {R : Type} (q_12 : Tp_12 R) (q_13 : Tp_13 R) (q_16_v1 : Tp_16_v1 R) (q_14 : Tp_14 R) (q_15_v1 : Tp_15_v1 R) (m_3_11 : Tl_3_11 R) (m_3_7 : Tl_3_7 R) (x : aden ap_3 × hden hp_3) (k : KF R) : fnrun TT (EG_3 q_12 q_13 q_16_v1 q_14 q_15_v1) (drawAny TT WW) (LG_3 m_3_11 m_3_7) true Try.f3 (instA ap_3 x.1) (instH hp_3 x.2) k = Q_3 q_12 q_13 q_16_v1 q_14 q_15_v1 m_3_11 m_3_7 x (fun y => k (Pat.inst (.bool) y.1) (instH [] y.2)) := by kernel_rfl
theorem run_3 {R : Type} (N : Nat) (x : aden ap_3 × hden hp_3) (k : KF R) : fnrun TT (E_3 (R := R) N) (drawAny TT WW) (L_3 N) true Try.f3 (instA ap_3 x.1) (instH hp_3 x.2) k = p_3 N x (fun y => k (Pat.inst (.bool) y.1) (instH [] y.2)) := (grun_3 (p_12 N) (p_13 N) (p_16_v1 N) (p_14 N) (p_15_v1 N) (l_3_11 N N) (l_3_7 N N) x k).trans (by kernel_rfl)
theorem good_3 {R : Type} (N : Nat) : GD (X := R) Try.prog QQ 3 ap_3 hp_3 (fun (x : aden ap_3 × hden hp_3) k => p_3 N x (fun y => k (Pat.inst (.bool) y.1) (instH [] y.2))) :=
  gd_loud (E := E_3 N) (p := fun (x : aden ap_3 × hden hp_3) k => p_3 N x (fun y => k (Pat.inst (.bool) y.1) (instH [] y.2))) mixed tyok (eok_3 N) Try.func3 (by kernel_rfl) (by kernel_rfl) (by kernel_rfl) (lok_3 N) (fun x k => run_3 N x k)

end Go.Proofs.Ytjnjhbkkalcecaa.Eng
