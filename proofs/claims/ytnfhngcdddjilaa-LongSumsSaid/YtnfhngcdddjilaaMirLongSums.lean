/-
Plain functions that the functions of the program are shown to come to, printed by a program of the prover; each with its proof.
Conditions: none.
-/
import Derived.Test.YtnfhngcdddjilaaMirLongSumsA
import Derived.KernelRfl
set_option linter.unusedVariables false
namespace Go.Proofs.Ytnfhngcdddjilaa.Eng
def ap_57_v2 : List Pat := [.nilp, .ros (.str)]
def hp_57_v2 : List (Option (Pat × Nat)) := []
def p_57_v2 {R : Type} (N : Nat) (x : (Unit × (List ByteArray) × Unit) × (Unit)) (κ0 : ((List (List Int)) × (Unit)) → Option R) : Option R :=
let l1429 : (List ByteArray) := x.1.2.1
κ0 ([], ())

abbrev Tp_57_v2 (R : Type) : Type := (Unit × (List ByteArray) × Unit) × (Unit) → (((List (List Int)) × (Unit)) → Option R) → Option R
def Q_57_v2 {R : Type} (x : (Unit × (List ByteArray) × Unit) × (Unit)) (κ0 : ((List (List Int)) × (Unit)) → Option R) : Option R :=
let l1429 : (List ByteArray) := x.1.2.1
κ0 ([], ())
def EG_57_v2 {R : Type} : Env R := Env.base QQ LN
def LG_57_v2 {R : Type} : Loops R := Loops.none
def E_57_v2 {R : Type} (N : Nat) : Env R := EG_57_v2
theorem eok_57_v2 {R : Type} (N : Nat) : EK Try.prog (E_57_v2 (R := R) N) := ek_base _ _
def L_57_v2 {R : Type} (N : Nat) : Loops R := LG_57_v2
theorem loops_57_v2 : loopsIn (bodyOf Try.f57) = [(5, loopAt 5 (bodyOf Try.f57)), (9, loopAt 9 (bodyOf Try.f57))] := by kernel_rfl
theorem lok_57_v2 {R : Type} (N : Nat) : LOK 0 TT (E_57_v2 (R := R) N) (drawAny TT WW) (L_57_v2 N) (bodyOf Try.f57) := loops_all loops_57_v2 (by
  simp only [List.forall_mem_cons, List.not_mem_nil, false_implies, implies_true, and_true]
  exact ⟨rounds_none (fun _ _ => rfl), rounds_none (fun _ _ => rfl)⟩)
theorem grun_57_v2 {R : Type} (x : aden ap_57_v2 × hden hp_57_v2) (k : KF R) : fnrun TT (EG_57_v2) (drawAny TT WW) (LG_57_v2) true Try.f57 (instA ap_57_v2 x.1) (instH hp_57_v2 x.2) k = Q_57_v2 x (fun y => k (Pat.inst (.ros (.sl (.int .u8))) y.1) (instH [] y.2)) := by kernel_rfl
theorem run_57_v2 {R : Type} (N : Nat) (x : aden ap_57_v2 × hden hp_57_v2) (k : KF R) : fnrun TT (E_57_v2 (R := R) N) (drawAny TT WW) (L_57_v2 N) true Try.f57 (instA ap_57_v2 x.1) (instH hp_57_v2 x.2) k = p_57_v2 N x (fun y => k (Pat.inst (.ros (.sl (.int .u8))) y.1) (instH [] y.2)) := (grun_57_v2 x k).trans (by kernel_rfl)
theorem good_57_v2 {R : Type} (N : Nat) : GD (X := R) Try.prog QQ 57 ap_57_v2 hp_57_v2 (fun (x : aden ap_57_v2 × hden hp_57_v2) k => p_57_v2 N x (fun y => k (Pat.inst (.ros (.sl (.int .u8))) y.1) (instH [] y.2))) :=
  gd_loud (E := E_57_v2 N) (p := fun (x : aden ap_57_v2 × hden hp_57_v2) k => p_57_v2 N x (fun y => k (Pat.inst (.ros (.sl (.int .u8))) y.1) (instH [] y.2))) mixed tyok (eok_57_v2 N) Try.func57 (by kernel_rfl) (by kernel_rfl) (by kernel_rfl) (lok_57_v2 N) (fun x k => run_57_v2 N x k)

def lv_26_v4_4 : Live := [(0, none), (14, none), (15, none), (16, none)]
def pt_26_v4_4 : SPat := ⟨[(0, .ptr 0 []), (14, .ros (.sl (.int .u8))), (15, .int .i64), (16, .int .i64)], [some (.node (.fcons (.nilp) (.fcons (.vec (.int .u64) 8) (.fcons (.int .i64) (.fcons (.int .u64) (.fnil))))), 115)]⟩
def px_26_v4_4_0 : SPat := ⟨[(0, .ptr 0 [])], [some (.node (.fcons (.nilp) (.fcons (.vec (.int .u64) 8) (.fcons (.int .i64) (.fcons (.int .u64) (.fnil))))), 115)]⟩
def lo_26_v4_4 : Exit → Live
  | .exit 0 => [(0, none)]
  | _ => []
def B_26_v4_4 {R : Type} (N : Nat) (rec : ((Unit × (List (List Int)) × Int × Int × Unit) × ((Unit × ((Nat → Int) × (Int × (Int × Unit)))) × Unit)) → Option R) (x : ((Unit × (List (List Int)) × Int × Int × Unit) × ((Unit × ((Nat → Int) × (Int × (Int × Unit)))) × Unit))) (κ0 : ((Unit × Unit) × ((Unit × ((Nat → Int) × (Int × (Int × Unit)))) × Unit)) → Option R) : Option R :=
let l1433 : (List (List Int)) := x.1.2.1
let i1434 : Int := x.1.2.2.1
let i1435 : Int := x.1.2.2.2.1
let a1436 : (Nat → Int) := x.2.1.2.1
let i1437 : Int := x.2.1.2.2.1
let i1438 : Int := x.2.1.2.2.2.1
bif (decide (i1435 < i1434)) then (
bif decide (0 ≤ i1435) then (
bif decide (i1435 < ((List.length l1433) : Int)) then (
let p1439 : (List Int) := (List.getD l1433 ((Int.toNat i1435)) (Sch.zero (.sl (.int .u8))))
let i1440 : Int := addA .u64 i1438 128
p_12 N ((a1436, p1439, i1440, false, ()), ()) (fun y1441 =>
let a1442 : (Nat → Int) := y1441.1
let i1443 : Int := y1441.2.1
let i1444 : Int := addA .i64 i1435 1
rec (((), l1433, i1434, i1444, ()), (((), (a1442, (i1437, (i1440, ())))), ())))) else none) else none) else (
κ0 (((), ()), (((), (a1436, (i1437, (i1438, ())))), ())))
def l_26_v4_4 {R : Type} (N : Nat) : Nat → ((Unit × (List (List Int)) × Int × Int × Unit) × ((Unit × ((Nat → Int) × (Int × (Int × Unit)))) × Unit)) → (((Unit × Unit) × ((Unit × ((Nat → Int) × (Int × (Int × Unit)))) × Unit)) → Option R) → Option R
  | 0, _, _ => none
  | n + 1, x, κ0 => B_26_v4_4 N (fun y => l_26_v4_4 N n y κ0) x κ0
def ap_26_v4 : List Pat := [.ptr 0 [], .ros (.str)]
def hp_26_v4 : List (Option (Pat × Nat)) := [some (.node (.fcons (.nilp) (.fcons (.vec (.int .u64) 8) (.fcons (.int .i64) (.fcons (.int .u64) (.fnil))))), 115)]
def p_26_v4 {R : Type} (N : Nat) (x : (Unit × (List ByteArray) × Unit) × ((Unit × ((Nat → Int) × (Int × (Int × Unit)))) × Unit)) (κ0 : (Unit × ((Unit × ((Nat → Int) × (Int × (Int × Unit)))) × Unit)) → Option R) : Option R :=
let l1425 : (List ByteArray) := x.1.2.1
let a1426 : (Nat → Int) := x.2.1.2.1
let i1427 : Int := x.2.1.2.2.1
let i1428 : Int := x.2.1.2.2.2.1
p_57_v2 N (((), l1425, ()), ()) (fun y1430 =>
let l1431 : (List (List Int)) := y1430.1
let i1432 : Int := (((List.length l1431) : Nat) : Int)
l_26_v4_4 N N (((), l1431, i1432, 0, ()), (((), (a1426, (i1427, (i1428, ())))), ())) (fun y1445 =>
let a1446 : (Nat → Int) := y1445.2.1.2.1
let i1447 : Int := y1445.2.1.2.2.1
let i1448 : Int := y1445.2.1.2.2.2.1
κ0 ((), (((), (a1446, (i1447, (i1448, ())))), ()))))

abbrev Tl_26_v4_4 (R : Type) : Type := ((Unit × (List (List Int)) × Int × Int × Unit) × ((Unit × ((Nat → Int) × (Int × (Int × Unit)))) × Unit)) → (((Unit × Unit) × ((Unit × ((Nat → Int) × (Int × (Int × Unit)))) × Unit)) → Option R) → Option R
abbrev Tp_26_v4 (R : Type) : Type := (Unit × (List ByteArray) × Unit) × ((Unit × ((Nat → Int) × (Int × (Int × Unit)))) × Unit) → ((Unit × ((Unit × ((Nat → Int) × (Int × (Int × Unit)))) × Unit)) → Option R) → Option R
def Q_26_v4 {R : Type} (q_57_v2 : Tp_57_v2 R) (q_12 : Tp_12 R) (m_26_v4_4 : Tl_26_v4_4 R) (x : (Unit × (List ByteArray) × Unit) × ((Unit × ((Nat → Int) × (Int × (Int × Unit)))) × Unit)) (κ0 : (Unit × ((Unit × ((Nat → Int) × (Int × (Int × Unit)))) × Unit)) → Option R) : Option R :=
let l1425 : (List ByteArray) := x.1.2.1
let a1426 : (Nat → Int) := x.2.1.2.1
let i1427 : Int := x.2.1.2.2.1
let i1428 : Int := x.2.1.2.2.2.1
q_57_v2 (((), l1425, ()), ()) (fun y1430 =>
let l1431 : (List (List Int)) := y1430.1
let i1432 : Int := (((List.length l1431) : Nat) : Int)
m_26_v4_4 (((), l1431, i1432, 0, ()), (((), (a1426, (i1427, (i1428, ())))), ())) (fun y1445 =>
let a1446 : (Nat → Int) := y1445.2.1.2.1
let i1447 : Int := y1445.2.1.2.2.1
let i1448 : Int := y1445.2.1.2.2.2.1
κ0 ((), (((), (a1446, (i1447, (i1448, ())))), ()))))
def C_26_v4_4 {R : Type} (q_57_v2 : Tp_57_v2 R) (q_12 : Tp_12 R) (m_26_v4_4 : Tl_26_v4_4 R) (rec : ((Unit × (List (List Int)) × Int × Int × Unit) × ((Unit × ((Nat → Int) × (Int × (Int × Unit)))) × Unit)) → Option R) (x : ((Unit × (List (List Int)) × Int × Int × Unit) × ((Unit × ((Nat → Int) × (Int × (Int × Unit)))) × Unit))) (κ0 : ((Unit × Unit) × ((Unit × ((Nat → Int) × (Int × (Int × Unit)))) × Unit)) → Option R) : Option R :=
let l1433 : (List (List Int)) := x.1.2.1
let i1434 : Int := x.1.2.2.1
let i1435 : Int := x.1.2.2.2.1
let a1436 : (Nat → Int) := x.2.1.2.1
let i1437 : Int := x.2.1.2.2.1
let i1438 : Int := x.2.1.2.2.2.1
bif (decide (i1435 < i1434)) then (
bif decide (0 ≤ i1435) then (
bif decide (i1435 < ((List.length l1433) : Int)) then (
let p1439 : (List Int) := (List.getD l1433 ((Int.toNat i1435)) (Sch.zero (.sl (.int .u8))))
let i1440 : Int := addA .u64 i1438 128
q_12 ((a1436, p1439, i1440, false, ()), ()) (fun y1441 =>
let a1442 : (Nat → Int) := y1441.1
let i1443 : Int := y1441.2.1
let i1444 : Int := addA .i64 i1435 1
rec (((), l1433, i1434, i1444, ()), (((), (a1442, (i1437, (i1440, ())))), ())))) else none) else none) else (
κ0 (((), ()), (((), (a1436, (i1437, (i1438, ())))), ())))
def EG_26_v4 {R : Type} (q_57_v2 : Tp_57_v2 R) (q_12 : Tp_12 R) : Env R := ((Env.base QQ LN).add 57 ap_57_v2 hp_57_v2 (fun (x : aden ap_57_v2 × hden hp_57_v2) k => q_57_v2 x (fun y => k (Pat.inst (.ros (.sl (.int .u8))) y.1) (instH [] y.2)))).add 12 ap_12 hp_12 (fun (x : aden ap_12 × hden hp_12) k => q_12 x (fun y => k (Pat.inst (.tup (.fcons (.vec (.int .u64) 8) (.fcons (.int .i64) (.fnil)))) y) (instH hp_12 x.2)))
def LG_26_v4 {R : Type} (m_26_v4_4 : Tl_26_v4_4 R) : Loops R := (Loops.none).add 4 (loopBy 1 lv_26_v4_4 pt_26_v4_4 (fun x k => m_26_v4_4 x (fun y => k (.exit 0) (px_26_v4_4_0.inst y))))
def E_26_v4 {R : Type} (N : Nat) : Env R := EG_26_v4 (p_57_v2 N) (p_12 N)
theorem eok_26_v4 {R : Type} (N : Nat) : EK Try.prog (E_26_v4 (R := R) N) := ek_add (ek_add (ek_base _ _) (good_57_v2 N)) (good_12 N)
def L_26_v4 {R : Type} (N : Nat) : Loops R := LG_26_v4 (l_26_v4_4 N N)
theorem gstep_26_v4_4 {R : Type} (q_57_v2 : Tp_57_v2 R) (q_12 : Tp_12 R) (m_26_v4_4 : Tl_26_v4_4 R) (n : Nat) (x : pt_26_v4_4.den) (k : Exit → St → Option R) : iter 1 lv_26_v4_4 lo_26_v4_4 (aexec TT (EG_26_v4 q_57_v2 q_12) (drawAny TT WW) (LG_26_v4 m_26_v4_4) (loopAt 4 (bodyOf Try.f26))) (n + 1) (pt_26_v4_4.inst x) k = C_26_v4_4 q_57_v2 q_12 m_26_v4_4 (fun y => iter 1 lv_26_v4_4 lo_26_v4_4 (aexec TT (EG_26_v4 q_57_v2 q_12) (drawAny TT WW) (LG_26_v4 m_26_v4_4) (loopAt 4 (bodyOf Try.f26))) n (pt_26_v4_4.inst y) k) x (fun y => k (.exit 0) (px_26_v4_4_0.inst y)) := by kernel_rfl
theorem step_26_v4_4 {R : Type} (N n : Nat) (x : pt_26_v4_4.den) (k : Exit → St → Option R) : iter 1 lv_26_v4_4 lo_26_v4_4 (aexec TT (E_26_v4 (R := R) N) (drawAny TT WW) (L_26_v4 N) (loopAt 4 (bodyOf Try.f26))) (n + 1) (pt_26_v4_4.inst x) k = B_26_v4_4 N (fun y => iter 1 lv_26_v4_4 lo_26_v4_4 (aexec TT (E_26_v4 (R := R) N) (drawAny TT WW) (L_26_v4 N) (loopAt 4 (bodyOf Try.f26))) n (pt_26_v4_4.inst y) k) x (fun y => k (.exit 0) (px_26_v4_4_0.inst y)) := (gstep_26_v4_4 (p_57_v2 N) (p_12 N) (l_26_v4_4 N N) n x k).trans (by kernel_rfl)
theorem eq_26_v4_4 {R : Type} (N : Nat) : ∀ (n : Nat) (x : pt_26_v4_4.den) (k : Exit → St → Option R), iter 1 lv_26_v4_4 lo_26_v4_4 (aexec TT (E_26_v4 (R := R) N) (drawAny TT WW) (L_26_v4 N) (loopAt 4 (bodyOf Try.f26))) n (pt_26_v4_4.inst x) k = l_26_v4_4 N n x (fun y => k (.exit 0) (px_26_v4_4_0.inst y)) :=
  iter_eq (K := Exit → St → Option R) (ks := fun k => k) (l := fun n (x : pt_26_v4_4.den) k => l_26_v4_4 N n x (fun y => k (.exit 0) (px_26_v4_4_0.inst y))) (B := fun (rec : pt_26_v4_4.den → Option R) (x : pt_26_v4_4.den) k => B_26_v4_4 N rec x (fun y => k (.exit 0) (px_26_v4_4_0.inst y))) (fun _ _ => rfl) (fun _ _ _ => rfl) (fun n x k => step_26_v4_4 N n x k)
theorem rounds_26_v4_4 {R : Type} (N : Nat) : Rounds 1 TT (E_26_v4 (R := R) N) (drawAny TT WW) (L_26_v4 N) 4 (loopAt 4 (bodyOf Try.f26)) :=
  rounds_of (p := pt_26_v4_4) (l := fun (x : pt_26_v4_4.den) k => l_26_v4_4 N N x (fun y => k (.exit 0) (px_26_v4_4_0.inst y))) (fun s k => rfl) (fun x k => eq_26_v4_4 N N x k)
theorem loops_26_v4 : loopsIn (bodyOf Try.f26) = [(4, loopAt 4 (bodyOf Try.f26))] := by kernel_rfl
theorem lok_26_v4 {R : Type} (N : Nat) : LOK 1 TT (E_26_v4 (R := R) N) (drawAny TT WW) (L_26_v4 N) (bodyOf Try.f26) := loops_all loops_26_v4 (by
  simp only [List.forall_mem_cons, List.not_mem_nil, false_implies, implies_true, and_true]
  exact rounds_26_v4_4 N)
theorem grun_26_v4 {R : Type} (q_57_v2 : Tp_57_v2 R) (q_12 : Tp_12 R) (m_26_v4_4 : Tl_26_v4_4 R) (x : aden ap_26_v4 × hden hp_26_v4) (k : KF R) : fnrun TT (EG_26_v4 q_57_v2 q_12) (drawAny TT WW) (LG_26_v4 m_26_v4_4) true Try.f26 (instA ap_26_v4 x.1) (instH hp_26_v4 x.2) k = Q_26_v4 q_57_v2 q_12 m_26_v4_4 x (fun y => k (Pat.inst (.ptr 0 []) y.1) (instH [some (.node (.fcons (.nilp) (.fcons (.vec (.int .u64) 8) (.fcons (.int .i64) (.fcons (.int .u64) (.fnil))))), 115)] y.2)) := by kernel_rfl
theorem run_26_v4 {R : Type} (N : Nat) (x : aden ap_26_v4 × hden hp_26_v4) (k : KF R) : fnrun TT (E_26_v4 (R := R) N) (drawAny TT WW) (L_26_v4 N) true Try.f26 (instA ap_26_v4 x.1) (instH hp_26_v4 x.2) k = p_26_v4 N x (fun y => k (Pat.inst (.ptr 0 []) y.1) (instH [some (.node (.fcons (.nilp) (.fcons (.vec (.int .u64) 8) (.fcons (.int .i64) (.fcons (.int .u64) (.fnil))))), 115)] y.2)) := (grun_26_v4 (p_57_v2 N) (p_12 N) (l_26_v4_4 N N) x k).trans (by kernel_rfl)
theorem good_26_v4 {R : Type} (N : Nat) : GD (X := R) Try.prog QQ 26 ap_26_v4 hp_26_v4 (fun (x : aden ap_26_v4 × hden hp_26_v4) k => p_26_v4 N x (fun y => k (Pat.inst (.ptr 0 []) y.1) (instH [some (.node (.fcons (.nilp) (.fcons (.vec (.int .u64) 8) (.fcons (.int .i64) (.fcons (.int .u64) (.fnil))))), 115)] y.2))) :=
  gd_loud (E := E_26_v4 N) (p := fun (x : aden ap_26_v4 × hden hp_26_v4) k => p_26_v4 N x (fun y => k (Pat.inst (.ptr 0 []) y.1) (instH [some (.node (.fcons (.nilp) (.fcons (.vec (.int .u64) 8) (.fcons (.int .i64) (.fcons (.int .u64) (.fnil))))), 115)] y.2))) mixed tyok (eok_26_v4 N) Try.func26 (by kernel_rfl) (by kernel_rfl) (by kernel_rfl) (lok_26_v4 N) (fun x k => run_26_v4 N x k)

def lv_57_v3_9 : Live := [(0, none), (5, some (.sl (.int .u8), 24)), (17, none), (18, none), (19, none)]
def pt_57_v3_9 : SPat := ⟨[(0, .ptr 0 []), (5, .sl 3), (17, .ros (.str)), (18, .int .i64), (19, .int .i64)], [some (.node (.fcons (.int .i64) (.fcons (.bool) (.fcons (.sl 2) (.fcons (.int .i64) (.fnil))))), 151), none, some (.lst (.int .u8), 5), some (.lst (.sl (.int .u8)), 24)]⟩
def px_57_v3_9_0 : SPat := ⟨[(0, .ptr 0 []), (5, .sl 3), (17, .ros (.str)), (18, .int .i64), (19, .int .i64)], [some (.node (.fcons (.int .i64) (.fcons (.bool) (.fcons (.sl 2) (.fcons (.int .i64) (.fnil))))), 151), none, some (.lst (.int .u8), 5), some (.lst (.sl (.int .u8)), 24)]⟩
def lo_57_v3_9 : Exit → Live
  | .exit 2 => [(0, none), (5, none), (17, none), (18, none), (19, none)]
  | _ => []
def B_57_v3_9 {R : Type} (N : Nat) (rec : ((Unit × Unit × (List ByteArray) × Int × Int × Unit) × ((Int × (Bool × (Unit × (Int × Unit)))) × (List Int) × (List (List Int)) × Unit)) → Option R) (x : ((Unit × Unit × (List ByteArray) × Int × Int × Unit) × ((Int × (Bool × (Unit × (Int × Unit)))) × (List Int) × (List (List Int)) × Unit))) (κ0 : ((Unit × Unit × (List ByteArray) × Int × Int × Unit) × ((Int × (Bool × (Unit × (Int × Unit)))) × (List Int) × (List (List Int)) × Unit)) → Option R) : Option R :=
let l1619 : (List ByteArray) := x.1.2.2.1
let i1620 : Int := x.1.2.2.2.1
let i1621 : Int := x.1.2.2.2.2.1
let i1622 : Int := x.2.1.1
let b1623 : Bool := x.2.1.2.1
let i1624 : Int := x.2.1.2.2.2.1
let l1625 : (List Int) := x.2.2.1
let l1626 : (List (List Int)) := x.2.2.2.1
p_82 N (((), ()), ((i1622, (b1623, ((), (i1624, ())))), l1625, ())) (fun y1627 =>
let b1628 : Bool := y1627
bif b1628 then (
bif decide (0 ≤ i1622) then (
bif decide (i1622 ≤ (((List.length l1625) : Nat) : Int)) then (
bif decide (0 ≤ i1622) then (
bif decide (List.length ((List.take (((Int.toNat i1622) - 0)) (List.drop 0 l1625))) * 1 ≤ 140737488355328) then (
let l1629 : (List Int) := (List.take (((Int.toNat i1622) - 0)) (List.drop 0 l1625))
let l1630 : (List (List Int)) := [l1629]
bif (decide ((List.length l1626 + List.length l1630) * 24 ≤ 140737488355328) && true) then (
let l1631 : (List (List Int)) := (l1626 ++ l1630)
bif decide (0 ≤ (((List.length l1625) : Nat) : Int)) then (
bif decide ((((List.length l1625) : Nat) : Int) ≤ (((List.length l1625) : Nat) : Int)) then (
bif decide (0 ≤ i1622) then (
bif decide (i1622 ≤ (((List.length l1625) : Nat) : Int)) then (
bif decide (0 < ((List.length l1625) - (Int.toNat i1622))) then (
let l1632 : (List Int) := List.take (((List.length l1625) - (Int.toNat i1622))) (List.drop ((Int.toNat i1622)) l1625)
rec (((), (), l1619, i1620, i1621, ()), ((i1622, (b1623, ((), (i1624, ())))), l1632, l1631, ()))) else none) else none) else none) else none) else none) else none) else none) else none) else none) else none) else (
κ0 (((), (), l1619, i1620, i1621, ()), ((i1622, (b1623, ((), (i1624, ())))), l1625, l1626, ()))))
def l_57_v3_9 {R : Type} (N : Nat) : Nat → ((Unit × Unit × (List ByteArray) × Int × Int × Unit) × ((Int × (Bool × (Unit × (Int × Unit)))) × (List Int) × (List (List Int)) × Unit)) → (((Unit × Unit × (List ByteArray) × Int × Int × Unit) × ((Int × (Bool × (Unit × (Int × Unit)))) × (List Int) × (List (List Int)) × Unit)) → Option R) → Option R
  | 0, _, _ => none
  | n + 1, x, κ0 => B_57_v3_9 N (fun y => l_57_v3_9 N n y κ0) x κ0
def lv_57_v3_5 : Live := [(0, some (.fnil, 2)), (5, some (.sl (.int .u8), 24)), (17, none), (18, none), (19, none)]
def pt_57_v3_5 : SPat := ⟨[(0, .ptr 0 []), (5, .sl 3), (17, .ros (.str)), (18, .int .i64), (19, .int .i64)], [some (.node (.fcons (.int .i64) (.fcons (.bool) (.fcons (.sl 2) (.fcons (.int .i64) (.fnil))))), 151), none, some (.lst (.int .u8), 5), some (.lst (.sl (.int .u8)), 24)]⟩
def px_57_v3_5_0 : SPat := ⟨[(0, .ptr 0 []), (5, .sl 3)], [some (.node (.fcons (.int .i64) (.fcons (.bool) (.fcons (.sl 2) (.fcons (.int .i64) (.fnil))))), 151), none, some (.lst (.int .u8), 5), some (.lst (.sl (.int .u8)), 24)]⟩
def lo_57_v3_5 : Exit → Live
  | .exit 0 => [(0, none), (5, none)]
  | _ => []
def B_57_v3_5 {R : Type} (N : Nat) (rec : ((Unit × Unit × (List ByteArray) × Int × Int × Unit) × ((Int × (Bool × (Unit × (Int × Unit)))) × (List Int) × (List (List Int)) × Unit)) → Option R) (x : ((Unit × Unit × (List ByteArray) × Int × Int × Unit) × ((Int × (Bool × (Unit × (Int × Unit)))) × (List Int) × (List (List Int)) × Unit))) (κ0 : ((Unit × Unit × Unit) × ((Int × (Bool × (Unit × (Int × Unit)))) × (List Int) × (List (List Int)) × Unit)) → Option R) : Option R :=
let l1607 : (List ByteArray) := x.1.2.2.1
let i1608 : Int := x.1.2.2.2.1
let i1609 : Int := x.1.2.2.2.2.1
let i1610 : Int := x.2.1.1
let b1611 : Bool := x.2.1.2.1
let i1612 : Int := x.2.1.2.2.2.1
let l1613 : (List Int) := x.2.2.1
let l1614 : (List (List Int)) := x.2.2.2.1
bif (decide (i1609 < i1608)) then (
bif decide (0 ≤ i1609) then (
bif decide (i1609 < ((List.length l1607) : Int)) then (
let p1615 : ByteArray := (List.getD l1607 ((Int.toNat i1609)) (Sch.zero (.str)))
let i1616 : Int := ((ByteArray.size p1615 : Nat) : Int)
let i1617 : Int := addA .i64 i1612 i1616
bif (decide ((List.length l1613 + List.length (strList p1615)) * 1 ≤ 140737488355328) && true) then (
let l1618 : (List Int) := (l1613 ++ strList p1615)
l_57_v3_9 N N (((), (), l1607, i1608, i1609, ()), ((i1610, (b1611, ((), (i1617, ())))), l1618, l1614, ())) (fun y1633 =>
let l1634 : (List ByteArray) := y1633.1.2.2.1
let i1635 : Int := y1633.1.2.2.2.1
let i1636 : Int := y1633.1.2.2.2.2.1
let i1637 : Int := y1633.2.1.1
let b1638 : Bool := y1633.2.1.2.1
let i1639 : Int := y1633.2.1.2.2.2.1
let l1640 : (List Int) := y1633.2.2.1
let l1641 : (List (List Int)) := y1633.2.2.2.1
let i1642 : Int := addA .i64 i1636 1
rec (((), (), l1634, i1635, i1642, ()), ((i1637, (b1638, ((), (i1639, ())))), l1640, l1641, ())))) else none) else none) else none) else (
κ0 (((), (), ()), ((i1610, (b1611, ((), (i1612, ())))), l1613, l1614, ())))
def l_57_v3_5 {R : Type} (N : Nat) : Nat → ((Unit × Unit × (List ByteArray) × Int × Int × Unit) × ((Int × (Bool × (Unit × (Int × Unit)))) × (List Int) × (List (List Int)) × Unit)) → (((Unit × Unit × Unit) × ((Int × (Bool × (Unit × (Int × Unit)))) × (List Int) × (List (List Int)) × Unit)) → Option R) → Option R
  | 0, _, _ => none
  | n + 1, x, κ0 => B_57_v3_5 N (fun y => l_57_v3_5 N n y κ0) x κ0
def ap_57_v3 : List Pat := [.ptr 0 [], .ros (.str)]
def hp_57_v3 : List (Option (Pat × Nat)) := [some (.node (.fcons (.int .i64) (.fcons (.bool) (.fcons (.sl 1) (.fcons (.int .i64) (.fnil))))), 151), some (.lst (.int .u8), 5)]
def p_57_v3 {R : Type} (N : Nat) (x : (Unit × (List ByteArray) × Unit) × ((Int × (Bool × (Unit × (Int × Unit)))) × (List Int) × Unit)) (κ0 : ((List (List Int)) × ((Int × (Bool × (Unit × (Int × Unit)))) × (List Int) × Unit)) → Option R) (κ1 : ((List (List Int)) × ((Int × (Bool × (Unit × (Int × Unit)))) × (List Int) × Unit)) → Option R) : Option R :=
let l1518 : (List ByteArray) := x.1.2.1
let i1519 : Int := x.2.1.1
let b1520 : Bool := x.2.1.2.1
let i1521 : Int := x.2.1.2.2.2.1
let l1522 : (List Int) := x.2.2.1
bif (i1519 == 0) then (
κ0 ([], ((i1519, (b1520, ((), (i1521, ())))), l1522, ()))) else (
let i1523 : Int := (((List.length l1518) : Nat) : Int)
l_57_v3_5 N N (((), (), l1518, i1523, 0, ()), ((i1519, (b1520, ((), (i1521, ())))), l1522, [], ())) (fun y1643 =>
let i1644 : Int := y1643.2.1.1
let b1645 : Bool := y1643.2.1.2.1
let i1646 : Int := y1643.2.1.2.2.2.1
let l1647 : (List Int) := y1643.2.2.1
let l1648 : (List (List Int)) := y1643.2.2.2.1
bif decide (List.length l1647 * 1 ≤ 140737488355328) then (
κ1 (l1648, ((i1644, (b1645, ((), (i1646, ())))), l1647, ()))) else none))

abbrev Tl_57_v3_9 (R : Type) : Type := ((Unit × Unit × (List ByteArray) × Int × Int × Unit) × ((Int × (Bool × (Unit × (Int × Unit)))) × (List Int) × (List (List Int)) × Unit)) → (((Unit × Unit × (List ByteArray) × Int × Int × Unit) × ((Int × (Bool × (Unit × (Int × Unit)))) × (List Int) × (List (List Int)) × Unit)) → Option R) → Option R
abbrev Tl_57_v3_5 (R : Type) : Type := ((Unit × Unit × (List ByteArray) × Int × Int × Unit) × ((Int × (Bool × (Unit × (Int × Unit)))) × (List Int) × (List (List Int)) × Unit)) → (((Unit × Unit × Unit) × ((Int × (Bool × (Unit × (Int × Unit)))) × (List Int) × (List (List Int)) × Unit)) → Option R) → Option R
abbrev Tp_57_v3 (R : Type) : Type := (Unit × (List ByteArray) × Unit) × ((Int × (Bool × (Unit × (Int × Unit)))) × (List Int) × Unit) → (((List (List Int)) × ((Int × (Bool × (Unit × (Int × Unit)))) × (List Int) × Unit)) → Option R) → (((List (List Int)) × ((Int × (Bool × (Unit × (Int × Unit)))) × (List Int) × Unit)) → Option R) → Option R
def Q_57_v3 {R : Type} (q_82 : Tp_82 R) (m_57_v3_9 : Tl_57_v3_9 R) (m_57_v3_5 : Tl_57_v3_5 R) (x : (Unit × (List ByteArray) × Unit) × ((Int × (Bool × (Unit × (Int × Unit)))) × (List Int) × Unit)) (κ0 : ((List (List Int)) × ((Int × (Bool × (Unit × (Int × Unit)))) × (List Int) × Unit)) → Option R) (κ1 : ((List (List Int)) × ((Int × (Bool × (Unit × (Int × Unit)))) × (List Int) × Unit)) → Option R) : Option R :=
let l1518 : (List ByteArray) := x.1.2.1
let i1519 : Int := x.2.1.1
let b1520 : Bool := x.2.1.2.1
let i1521 : Int := x.2.1.2.2.2.1
let l1522 : (List Int) := x.2.2.1
bif (i1519 == 0) then (
κ0 ([], ((i1519, (b1520, ((), (i1521, ())))), l1522, ()))) else (
let i1523 : Int := (((List.length l1518) : Nat) : Int)
m_57_v3_5 (((), (), l1518, i1523, 0, ()), ((i1519, (b1520, ((), (i1521, ())))), l1522, [], ())) (fun y1643 =>
let i1644 : Int := y1643.2.1.1
let b1645 : Bool := y1643.2.1.2.1
let i1646 : Int := y1643.2.1.2.2.2.1
let l1647 : (List Int) := y1643.2.2.1
let l1648 : (List (List Int)) := y1643.2.2.2.1
bif decide (List.length l1647 * 1 ≤ 140737488355328) then (
κ1 (l1648, ((i1644, (b1645, ((), (i1646, ())))), l1647, ()))) else none))
def C_57_v3_9 {R : Type} (q_82 : Tp_82 R) (m_57_v3_9 : Tl_57_v3_9 R) (m_57_v3_5 : Tl_57_v3_5 R) (rec : ((Unit × Unit × (List ByteArray) × Int × Int × Unit) × ((Int × (Bool × (Unit × (Int × Unit)))) × (List Int) × (List (List Int)) × Unit)) → Option R) (x : ((Unit × Unit × (List ByteArray) × Int × Int × Unit) × ((Int × (Bool × (Unit × (Int × Unit)))) × (List Int) × (List (List Int)) × Unit))) (κ0 : ((Unit × Unit × (List ByteArray) × Int × Int × Unit) × ((Int × (Bool × (Unit × (Int × Unit)))) × (List Int) × (List (List Int)) × Unit)) → Option R) : Option R :=
let l1619 : (List ByteArray) := x.1.2.2.1
let i1620 : Int := x.1.2.2.2.1
let i1621 : Int := x.1.2.2.2.2.1
let i1622 : Int := x.2.1.1
let b1623 : Bool := x.2.1.2.1
let i1624 : Int := x.2.1.2.2.2.1
let l1625 : (List Int) := x.2.2.1
let l1626 : (List (List Int)) := x.2.2.2.1
q_82 (((), ()), ((i1622, (b1623, ((), (i1624, ())))), l1625, ())) (fun y1627 =>
let b1628 : Bool := y1627
bif b1628 then (
bif decide (0 ≤ i1622) then (
bif decide (i1622 ≤ (((List.length l1625) : Nat) : Int)) then (
bif decide (0 ≤ i1622) then (
bif decide (List.length ((List.take (((Int.toNat i1622) - 0)) (List.drop 0 l1625))) * 1 ≤ 140737488355328) then (
let l1629 : (List Int) := (List.take (((Int.toNat i1622) - 0)) (List.drop 0 l1625))
let l1630 : (List (List Int)) := [l1629]
bif (decide ((List.length l1626 + List.length l1630) * 24 ≤ 140737488355328) && true) then (
let l1631 : (List (List Int)) := (l1626 ++ l1630)
bif decide (0 ≤ (((List.length l1625) : Nat) : Int)) then (
bif decide ((((List.length l1625) : Nat) : Int) ≤ (((List.length l1625) : Nat) : Int)) then (
bif decide (0 ≤ i1622) then (
bif decide (i1622 ≤ (((List.length l1625) : Nat) : Int)) then (
bif decide (0 < ((List.length l1625) - (Int.toNat i1622))) then (
let l1632 : (List Int) := List.take (((List.length l1625) - (Int.toNat i1622))) (List.drop ((Int.toNat i1622)) l1625)
rec (((), (), l1619, i1620, i1621, ()), ((i1622, (b1623, ((), (i1624, ())))), l1632, l1631, ()))) else none) else none) else none) else none) else none) else none) else none) else none) else none) else none) else (
κ0 (((), (), l1619, i1620, i1621, ()), ((i1622, (b1623, ((), (i1624, ())))), l1625, l1626, ()))))
def C_57_v3_5 {R : Type} (q_82 : Tp_82 R) (m_57_v3_9 : Tl_57_v3_9 R) (m_57_v3_5 : Tl_57_v3_5 R) (rec : ((Unit × Unit × (List ByteArray) × Int × Int × Unit) × ((Int × (Bool × (Unit × (Int × Unit)))) × (List Int) × (List (List Int)) × Unit)) → Option R) (x : ((Unit × Unit × (List ByteArray) × Int × Int × Unit) × ((Int × (Bool × (Unit × (Int × Unit)))) × (List Int) × (List (List Int)) × Unit))) (κ0 : ((Unit × Unit × Unit) × ((Int × (Bool × (Unit × (Int × Unit)))) × (List Int) × (List (List Int)) × Unit)) → Option R) : Option R :=
let l1607 : (List ByteArray) := x.1.2.2.1
let i1608 : Int := x.1.2.2.2.1
let i1609 : Int := x.1.2.2.2.2.1
let i1610 : Int := x.2.1.1
let b1611 : Bool := x.2.1.2.1
let i1612 : Int := x.2.1.2.2.2.1
let l1613 : (List Int) := x.2.2.1
let l1614 : (List (List Int)) := x.2.2.2.1
bif (decide (i1609 < i1608)) then (
bif decide (0 ≤ i1609) then (
bif decide (i1609 < ((List.length l1607) : Int)) then (
let p1615 : ByteArray := (List.getD l1607 ((Int.toNat i1609)) (Sch.zero (.str)))
let i1616 : Int := ((ByteArray.size p1615 : Nat) : Int)
let i1617 : Int := addA .i64 i1612 i1616
bif (decide ((List.length l1613 + List.length (strList p1615)) * 1 ≤ 140737488355328) && true) then (
let l1618 : (List Int) := (l1613 ++ strList p1615)
m_57_v3_9 (((), (), l1607, i1608, i1609, ()), ((i1610, (b1611, ((), (i1617, ())))), l1618, l1614, ())) (fun y1633 =>
let l1634 : (List ByteArray) := y1633.1.2.2.1
let i1635 : Int := y1633.1.2.2.2.1
let i1636 : Int := y1633.1.2.2.2.2.1
let i1637 : Int := y1633.2.1.1
let b1638 : Bool := y1633.2.1.2.1
let i1639 : Int := y1633.2.1.2.2.2.1
let l1640 : (List Int) := y1633.2.2.1
let l1641 : (List (List Int)) := y1633.2.2.2.1
let i1642 : Int := addA .i64 i1636 1
rec (((), (), l1634, i1635, i1642, ()), ((i1637, (b1638, ((), (i1639, ())))), l1640, l1641, ())))) else none) else none) else none) else (
κ0 (((), (), ()), ((i1610, (b1611, ((), (i1612, ())))), l1613, l1614, ())))
def EG_57_v3 {R : Type} (q_82 : Tp_82 R) : Env R := (Env.base QQ LN).add 82 ap_82 hp_82 (fun (x : aden ap_82 × hden hp_82) k => q_82 x (fun y => k (Pat.inst (.bool) y) (instH hp_82 x.2)))
def LG_57_v3 {R : Type} (m_57_v3_9 : Tl_57_v3_9 R) (m_57_v3_5 : Tl_57_v3_5 R) : Loops R := ((Loops.none).add 9 (loopBy 2 lv_57_v3_9 pt_57_v3_9 (fun x k => m_57_v3_9 x (fun y => k (.exit 2) (px_57_v3_9_0.inst y))))).add 5 (loopBy 2 lv_57_v3_5 pt_57_v3_5 (fun x k => m_57_v3_5 x (fun y => k (.exit 0) (px_57_v3_5_0.inst y))))
def E_57_v3 {R : Type} (N : Nat) : Env R := EG_57_v3 (p_82 N)
theorem eok_57_v3 {R : Type} (N : Nat) : EK Try.prog (E_57_v3 (R := R) N) := ek_add (ek_base _ _) (good_82 N)
def L_57_v3 {R : Type} (N : Nat) : Loops R := LG_57_v3 (l_57_v3_9 N N) (l_57_v3_5 N N)
theorem gstep_57_v3_9 {R : Type} (q_82 : Tp_82 R) (m_57_v3_9 : Tl_57_v3_9 R) (m_57_v3_5 : Tl_57_v3_5 R) (n : Nat) (x : pt_57_v3_9.den) (k : Exit → St → Option R) : iter 2 lv_57_v3_9 lo_57_v3_9 (aexec TT (EG_57_v3 q_82) (drawAny TT WW) (LG_57_v3 m_57_v3_9 m_57_v3_5) (loopAt 9 (bodyOf Try.f57))) (n + 1) (pt_57_v3_9.inst x) k = C_57_v3_9 q_82 m_57_v3_9 m_57_v3_5 (fun y => iter 2 lv_57_v3_9 lo_57_v3_9 (aexec TT (EG_57_v3 q_82) (drawAny TT WW) (LG_57_v3 m_57_v3_9 m_57_v3_5) (loopAt 9 (bodyOf Try.f57))) n (pt_57_v3_9.inst y) k) x (fun y => k (.exit 2) (px_57_v3_9_0.inst y)) := by kernel_rfl
theorem step_57_v3_9 {R : Type} (N n : Nat) (x : pt_57_v3_9.den) (k : Exit → St → Option R) : iter 2 lv_57_v3_9 lo_57_v3_9 (aexec TT (E_57_v3 (R := R) N) (drawAny TT WW) (L_57_v3 N) (loopAt 9 (bodyOf Try.f57))) (n + 1) (pt_57_v3_9.inst x) k = B_57_v3_9 N (fun y => iter 2 lv_57_v3_9 lo_57_v3_9 (aexec TT (E_57_v3 (R := R) N) (drawAny TT WW) (L_57_v3 N) (loopAt 9 (bodyOf Try.f57))) n (pt_57_v3_9.inst y) k) x (fun y => k (.exit 2) (px_57_v3_9_0.inst y)) := (gstep_57_v3_9 (p_82 N) (l_57_v3_9 N N) (l_57_v3_5 N N) n x k).trans (by kernel_rfl)
theorem eq_57_v3_9 {R : Type} (N : Nat) : ∀ (n : Nat) (x : pt_57_v3_9.den) (k : Exit → St → Option R), iter 2 lv_57_v3_9 lo_57_v3_9 (aexec TT (E_57_v3 (R := R) N) (drawAny TT WW) (L_57_v3 N) (loopAt 9 (bodyOf Try.f57))) n (pt_57_v3_9.inst x) k = l_57_v3_9 N n x (fun y => k (.exit 2) (px_57_v3_9_0.inst y)) :=
  iter_eq (K := Exit → St → Option R) (ks := fun k => k) (l := fun n (x : pt_57_v3_9.den) k => l_57_v3_9 N n x (fun y => k (.exit 2) (px_57_v3_9_0.inst y))) (B := fun (rec : pt_57_v3_9.den → Option R) (x : pt_57_v3_9.den) k => B_57_v3_9 N rec x (fun y => k (.exit 2) (px_57_v3_9_0.inst y))) (fun _ _ => rfl) (fun _ _ _ => rfl) (fun n x k => step_57_v3_9 N n x k)
theorem rounds_57_v3_9 {R : Type} (N : Nat) : Rounds 2 TT (E_57_v3 (R := R) N) (drawAny TT WW) (L_57_v3 N) 9 (loopAt 9 (bodyOf Try.f57)) :=
  rounds_of (p := pt_57_v3_9) (l := fun (x : pt_57_v3_9.den) k => l_57_v3_9 N N x (fun y => k (.exit 2) (px_57_v3_9_0.inst y))) (fun s k => rfl) (fun x k => eq_57_v3_9 N N x k)
theorem gstep_57_v3_5 {R : Type} (q_82 : Tp_82 R) (m_57_v3_9 : Tl_57_v3_9 R) (m_57_v3_5 : Tl_57_v3_5 R) (n : Nat) (x : pt_57_v3_5.den) (k : Exit → St → Option R) : iter 2 lv_57_v3_5 lo_57_v3_5 (aexec TT (EG_57_v3 q_82) (drawAny TT WW) (LG_57_v3 m_57_v3_9 m_57_v3_5) (loopAt 5 (bodyOf Try.f57))) (n + 1) (pt_57_v3_5.inst x) k = C_57_v3_5 q_82 m_57_v3_9 m_57_v3_5 (fun y => iter 2 lv_57_v3_5 lo_57_v3_5 (aexec TT (EG_57_v3 q_82) (drawAny TT WW) (LG_57_v3 m_57_v3_9 m_57_v3_5) (loopAt 5 (bodyOf Try.f57))) n (pt_57_v3_5.inst y) k) x (fun y => k (.exit 0) (px_57_v3_5_0.inst y)) := by kernel_rfl
theorem step_57_v3_5 {R : Type} (N n : Nat) (x : pt_57_v3_5.den) (k : Exit → St → Option R) : iter 2 lv_57_v3_5 lo_57_v3_5 (aexec TT (E_57_v3 (R := R) N) (drawAny TT WW) (L_57_v3 N) (loopAt 5 (bodyOf Try.f57))) (n + 1) (pt_57_v3_5.inst x) k = B_57_v3_5 N (fun y => iter 2 lv_57_v3_5 lo_57_v3_5 (aexec TT (E_57_v3 (R := R) N) (drawAny TT WW) (L_57_v3 N) (loopAt 5 (bodyOf Try.f57))) n (pt_57_v3_5.inst y) k) x (fun y => k (.exit 0) (px_57_v3_5_0.inst y)) := (gstep_57_v3_5 (p_82 N) (l_57_v3_9 N N) (l_57_v3_5 N N) n x k).trans (by kernel_rfl)
theorem eq_57_v3_5 {R : Type} (N : Nat) : ∀ (n : Nat) (x : pt_57_v3_5.den) (k : Exit → St → Option R), iter 2 lv_57_v3_5 lo_57_v3_5 (aexec TT (E_57_v3 (R := R) N) (drawAny TT WW) (L_57_v3 N) (loopAt 5 (bodyOf Try.f57))) n (pt_57_v3_5.inst x) k = l_57_v3_5 N n x (fun y => k (.exit 0) (px_57_v3_5_0.inst y)) :=
  iter_eq (K := Exit → St → Option R) (ks := fun k => k) (l := fun n (x : pt_57_v3_5.den) k => l_57_v3_5 N n x (fun y => k (.exit 0) (px_57_v3_5_0.inst y))) (B := fun (rec : pt_57_v3_5.den → Option R) (x : pt_57_v3_5.den) k => B_57_v3_5 N rec x (fun y => k (.exit 0) (px_57_v3_5_0.inst y))) (fun _ _ => rfl) (fun _ _ _ => rfl) (fun n x k => step_57_v3_5 N n x k)
theorem rounds_57_v3_5 {R : Type} (N : Nat) : Rounds 2 TT (E_57_v3 (R := R) N) (drawAny TT WW) (L_57_v3 N) 5 (loopAt 5 (bodyOf Try.f57)) :=
  rounds_of (p := pt_57_v3_5) (l := fun (x : pt_57_v3_5.den) k => l_57_v3_5 N N x (fun y => k (.exit 0) (px_57_v3_5_0.inst y))) (fun s k => rfl) (fun x k => eq_57_v3_5 N N x k)
theorem loops_57_v3 : loopsIn (bodyOf Try.f57) = [(5, loopAt 5 (bodyOf Try.f57)), (9, loopAt 9 (bodyOf Try.f57))] := by kernel_rfl
theorem lok_57_v3 {R : Type} (N : Nat) : LOK 2 TT (E_57_v3 (R := R) N) (drawAny TT WW) (L_57_v3 N) (bodyOf Try.f57) := loops_all loops_57_v3 (by
  simp only [List.forall_mem_cons, List.not_mem_nil, false_implies, implies_true, and_true]
  exact ⟨rounds_57_v3_5 N, rounds_57_v3_9 N⟩)
theorem grun_57_v3 {R : Type} (q_82 : Tp_82 R) (m_57_v3_9 : Tl_57_v3_9 R) (m_57_v3_5 : Tl_57_v3_5 R) (x : aden ap_57_v3 × hden hp_57_v3) (k : KF R) : fnrun TT (EG_57_v3 q_82) (drawAny TT WW) (LG_57_v3 m_57_v3_9 m_57_v3_5) true Try.f57 (instA ap_57_v3 x.1) (instH hp_57_v3 x.2) k = Q_57_v3 q_82 m_57_v3_9 m_57_v3_5 x (fun y => k (Pat.inst (.ros (.sl (.int .u8))) y.1) (instH [some (.node (.fcons (.int .i64) (.fcons (.bool) (.fcons (.sl 1) (.fcons (.int .i64) (.fnil))))), 151), some (.lst (.int .u8), 5)] y.2)) (fun y => k (Pat.inst (.ros (.sl (.int .u8))) y.1) (instH [some (.node (.fcons (.int .i64) (.fcons (.bool) (.fcons (.sl 2) (.fcons (.int .i64) (.fnil))))), 151), none, some (.lst (.int .u8), 5)] y.2)) := by kernel_rfl
theorem run_57_v3 {R : Type} (N : Nat) (x : aden ap_57_v3 × hden hp_57_v3) (k : KF R) : fnrun TT (E_57_v3 (R := R) N) (drawAny TT WW) (L_57_v3 N) true Try.f57 (instA ap_57_v3 x.1) (instH hp_57_v3 x.2) k = p_57_v3 N x (fun y => k (Pat.inst (.ros (.sl (.int .u8))) y.1) (instH [some (.node (.fcons (.int .i64) (.fcons (.bool) (.fcons (.sl 1) (.fcons (.int .i64) (.fnil))))), 151), some (.lst (.int .u8), 5)] y.2)) (fun y => k (Pat.inst (.ros (.sl (.int .u8))) y.1) (instH [some (.node (.fcons (.int .i64) (.fcons (.bool) (.fcons (.sl 2) (.fcons (.int .i64) (.fnil))))), 151), none, some (.lst (.int .u8), 5)] y.2)) := (grun_57_v3 (p_82 N) (l_57_v3_9 N N) (l_57_v3_5 N N) x k).trans (by kernel_rfl)
theorem good_57_v3 {R : Type} (N : Nat) : GD (X := R) Try.prog QQ 57 ap_57_v3 hp_57_v3 (fun (x : aden ap_57_v3 × hden hp_57_v3) k => p_57_v3 N x (fun y => k (Pat.inst (.ros (.sl (.int .u8))) y.1) (instH [some (.node (.fcons (.int .i64) (.fcons (.bool) (.fcons (.sl 1) (.fcons (.int .i64) (.fnil))))), 151), some (.lst (.int .u8), 5)] y.2)) (fun y => k (Pat.inst (.ros (.sl (.int .u8))) y.1) (instH [some (.node (.fcons (.int .i64) (.fcons (.bool) (.fcons (.sl 2) (.fcons (.int .i64) (.fnil))))), 151), none, some (.lst (.int .u8), 5)] y.2))) :=
  gd_loud (E := E_57_v3 N) (p := fun (x : aden ap_57_v3 × hden hp_57_v3) k => p_57_v3 N x (fun y => k (Pat.inst (.ros (.sl (.int .u8))) y.1) (instH [some (.node (.fcons (.int .i64) (.fcons (.bool) (.fcons (.sl 1) (.fcons (.int .i64) (.fnil))))), 151), some (.lst (.int .u8), 5)] y.2)) (fun y => k (Pat.inst (.ros (.sl (.int .u8))) y.1) (instH [some (.node (.fcons (.int .i64) (.fcons (.bool) (.fcons (.sl 2) (.fcons (.int .i64) (.fnil))))), 151), none, some (.lst (.int .u8), 5)] y.2))) mixed tyok (eok_57_v3 N) Try.func57 (by kernel_rfl) (by kernel_rfl) (by kernel_rfl) (lok_57_v3 N) (fun x k => run_57_v3 N x k)

def lv_26_v5_4 : Live := [(0, none), (14, none), (15, none), (16, none)]
def pt_26_v5_4 : SPat := ⟨[(0, .ptr 0 []), (14, .ros (.sl (.int .u8))), (15, .int .i64), (16, .int .i64)], [some (.node (.fcons (.ptr 1 []) (.fcons (.vec (.int .u64) 8) (.fcons (.int .i64) (.fcons (.int .u64) (.fnil))))), 115), some (.node (.fcons (.int .i64) (.fcons (.bool) (.fcons (.sl 3) (.fcons (.int .i64) (.fnil))))), 151), none, some (.lst (.int .u8), 5)]⟩
def px_26_v5_4_0 : SPat := ⟨[(0, .ptr 0 [])], [some (.node (.fcons (.ptr 1 []) (.fcons (.vec (.int .u64) 8) (.fcons (.int .i64) (.fcons (.int .u64) (.fnil))))), 115), some (.node (.fcons (.int .i64) (.fcons (.bool) (.fcons (.sl 3) (.fcons (.int .i64) (.fnil))))), 151), none, some (.lst (.int .u8), 5)]⟩
def lo_26_v5_4 : Exit → Live
  | .exit 0 => [(0, none)]
  | _ => []
def B_26_v5_4 {R : Type} (N : Nat) (rec : ((Unit × (List (List Int)) × Int × Int × Unit) × ((Unit × ((Nat → Int) × (Int × (Int × Unit)))) × (Int × (Bool × (Unit × (Int × Unit)))) × (List Int) × Unit)) → Option R) (x : ((Unit × (List (List Int)) × Int × Int × Unit) × ((Unit × ((Nat → Int) × (Int × (Int × Unit)))) × (Int × (Bool × (Unit × (Int × Unit)))) × (List Int) × Unit))) (κ0 : ((Unit × Unit) × ((Unit × ((Nat → Int) × (Int × (Int × Unit)))) × (Int × (Bool × (Unit × (Int × Unit)))) × (List Int) × Unit)) → Option R) : Option R :=
let l1679 : (List (List Int)) := x.1.2.1
let i1680 : Int := x.1.2.2.1
let i1681 : Int := x.1.2.2.2.1
let a1682 : (Nat → Int) := x.2.1.2.1
let i1683 : Int := x.2.1.2.2.1
let i1684 : Int := x.2.1.2.2.2.1
let i1685 : Int := x.2.2.1.1
let b1686 : Bool := x.2.2.1.2.1
let i1687 : Int := x.2.2.1.2.2.2.1
let l1688 : (List Int) := x.2.2.2.1
bif (decide (i1681 < i1680)) then (
bif decide (0 ≤ i1681) then (
bif decide (i1681 < ((List.length l1679) : Int)) then (
let p1689 : (List Int) := (List.getD l1679 ((Int.toNat i1681)) (Sch.zero (.sl (.int .u8))))
let i1690 : Int := addA .u64 i1684 128
p_12 N ((a1682, p1689, i1690, false, ()), ()) (fun y1691 =>
let a1692 : (Nat → Int) := y1691.1
let i1693 : Int := y1691.2.1
let i1694 : Int := addA .i64 i1681 1
rec (((), l1679, i1680, i1694, ()), (((), (a1692, (i1683, (i1690, ())))), (i1685, (b1686, ((), (i1687, ())))), l1688, ())))) else none) else none) else (
κ0 (((), ()), (((), (a1682, (i1683, (i1684, ())))), (i1685, (b1686, ((), (i1687, ())))), l1688, ())))
def l_26_v5_4 {R : Type} (N : Nat) : Nat → ((Unit × (List (List Int)) × Int × Int × Unit) × ((Unit × ((Nat → Int) × (Int × (Int × Unit)))) × (Int × (Bool × (Unit × (Int × Unit)))) × (List Int) × Unit)) → (((Unit × Unit) × ((Unit × ((Nat → Int) × (Int × (Int × Unit)))) × (Int × (Bool × (Unit × (Int × Unit)))) × (List Int) × Unit)) → Option R) → Option R
  | 0, _, _ => none
  | n + 1, x, κ0 => B_26_v5_4 N (fun y => l_26_v5_4 N n y κ0) x κ0
def ap_26_v5 : List Pat := [.ptr 0 [], .ros (.str)]
def hp_26_v5 : List (Option (Pat × Nat)) := [some (.node (.fcons (.ptr 1 []) (.fcons (.vec (.int .u64) 8) (.fcons (.int .i64) (.fcons (.int .u64) (.fnil))))), 115), some (.node (.fcons (.int .i64) (.fcons (.bool) (.fcons (.sl 2) (.fcons (.int .i64) (.fnil))))), 151), some (.lst (.int .u8), 5)]
def p_26_v5 {R : Type} (N : Nat) (x : (Unit × (List ByteArray) × Unit) × ((Unit × ((Nat → Int) × (Int × (Int × Unit)))) × (Int × (Bool × (Unit × (Int × Unit)))) × (List Int) × Unit)) (κ0 : (Unit × ((Unit × ((Nat → Int) × (Int × (Int × Unit)))) × (Int × (Bool × (Unit × (Int × Unit)))) × (List Int) × Unit)) → Option R) : Option R :=
let l1510 : (List ByteArray) := x.1.2.1
let a1511 : (Nat → Int) := x.2.1.2.1
let i1512 : Int := x.2.1.2.2.1
let i1513 : Int := x.2.1.2.2.2.1
let i1514 : Int := x.2.2.1.1
let b1515 : Bool := x.2.2.1.2.1
let i1516 : Int := x.2.2.1.2.2.2.1
let l1517 : (List Int) := x.2.2.2.1
p_57_v3 N (((), l1510, ()), ((i1514, (b1515, ((), (i1516, ())))), l1517, ())) (fun y1649 =>
let l1650 : (List (List Int)) := y1649.1
let i1651 : Int := y1649.2.1.1
let b1652 : Bool := y1649.2.1.2.1
let i1653 : Int := y1649.2.1.2.2.2.1
let l1654 : (List Int) := y1649.2.2.1
let i1655 : Int := (((List.length l1650) : Nat) : Int)
none) (fun y1672 =>
let l1673 : (List (List Int)) := y1672.1
let i1674 : Int := y1672.2.1.1
let b1675 : Bool := y1672.2.1.2.1
let i1676 : Int := y1672.2.1.2.2.2.1
let l1677 : (List Int) := y1672.2.2.1
let i1678 : Int := (((List.length l1673) : Nat) : Int)
l_26_v5_4 N N (((), l1673, i1678, 0, ()), (((), (a1511, (i1512, (i1513, ())))), (i1674, (b1675, ((), (i1676, ())))), l1677, ())) (fun y1695 =>
let a1696 : (Nat → Int) := y1695.2.1.2.1
let i1697 : Int := y1695.2.1.2.2.1
let i1698 : Int := y1695.2.1.2.2.2.1
let i1699 : Int := y1695.2.2.1.1
let b1700 : Bool := y1695.2.2.1.2.1
let i1701 : Int := y1695.2.2.1.2.2.2.1
let l1702 : (List Int) := y1695.2.2.2.1
κ0 ((), (((), (a1696, (i1697, (i1698, ())))), (i1699, (b1700, ((), (i1701, ())))), l1702, ()))))

abbrev Tl_26_v5_4 (R : Type) : Type := ((Unit × (List (List Int)) × Int × Int × Unit) × ((Unit × ((Nat → Int) × (Int × (Int × Unit)))) × (Int × (Bool × (Unit × (Int × Unit)))) × (List Int) × Unit)) → (((Unit × Unit) × ((Unit × ((Nat → Int) × (Int × (Int × Unit)))) × (Int × (Bool × (Unit × (Int × Unit)))) × (List Int) × Unit)) → Option R) → Option R
abbrev Tp_26_v5 (R : Type) : Type := (Unit × (List ByteArray) × Unit) × ((Unit × ((Nat → Int) × (Int × (Int × Unit)))) × (Int × (Bool × (Unit × (Int × Unit)))) × (List Int) × Unit) → ((Unit × ((Unit × ((Nat → Int) × (Int × (Int × Unit)))) × (Int × (Bool × (Unit × (Int × Unit)))) × (List Int) × Unit)) → Option R) → Option R
def Q_26_v5 {R : Type} (q_57_v3 : Tp_57_v3 R) (q_12 : Tp_12 R) (m_26_v5_4 : Tl_26_v5_4 R) (x : (Unit × (List ByteArray) × Unit) × ((Unit × ((Nat → Int) × (Int × (Int × Unit)))) × (Int × (Bool × (Unit × (Int × Unit)))) × (List Int) × Unit)) (κ0 : (Unit × ((Unit × ((Nat → Int) × (Int × (Int × Unit)))) × (Int × (Bool × (Unit × (Int × Unit)))) × (List Int) × Unit)) → Option R) : Option R :=
let l1510 : (List ByteArray) := x.1.2.1
let a1511 : (Nat → Int) := x.2.1.2.1
let i1512 : Int := x.2.1.2.2.1
let i1513 : Int := x.2.1.2.2.2.1
let i1514 : Int := x.2.2.1.1
let b1515 : Bool := x.2.2.1.2.1
let i1516 : Int := x.2.2.1.2.2.2.1
let l1517 : (List Int) := x.2.2.2.1
q_57_v3 (((), l1510, ()), ((i1514, (b1515, ((), (i1516, ())))), l1517, ())) (fun y1649 =>
let l1650 : (List (List Int)) := y1649.1
let i1651 : Int := y1649.2.1.1
let b1652 : Bool := y1649.2.1.2.1
let i1653 : Int := y1649.2.1.2.2.2.1
let l1654 : (List Int) := y1649.2.2.1
let i1655 : Int := (((List.length l1650) : Nat) : Int)
none) (fun y1672 =>
let l1673 : (List (List Int)) := y1672.1
let i1674 : Int := y1672.2.1.1
let b1675 : Bool := y1672.2.1.2.1
let i1676 : Int := y1672.2.1.2.2.2.1
let l1677 : (List Int) := y1672.2.2.1
let i1678 : Int := (((List.length l1673) : Nat) : Int)
m_26_v5_4 (((), l1673, i1678, 0, ()), (((), (a1511, (i1512, (i1513, ())))), (i1674, (b1675, ((), (i1676, ())))), l1677, ())) (fun y1695 =>
let a1696 : (Nat → Int) := y1695.2.1.2.1
let i1697 : Int := y1695.2.1.2.2.1
let i1698 : Int := y1695.2.1.2.2.2.1
let i1699 : Int := y1695.2.2.1.1
let b1700 : Bool := y1695.2.2.1.2.1
let i1701 : Int := y1695.2.2.1.2.2.2.1
let l1702 : (List Int) := y1695.2.2.2.1
κ0 ((), (((), (a1696, (i1697, (i1698, ())))), (i1699, (b1700, ((), (i1701, ())))), l1702, ()))))
def C_26_v5_4 {R : Type} (q_57_v3 : Tp_57_v3 R) (q_12 : Tp_12 R) (m_26_v5_4 : Tl_26_v5_4 R) (rec : ((Unit × (List (List Int)) × Int × Int × Unit) × ((Unit × ((Nat → Int) × (Int × (Int × Unit)))) × (Int × (Bool × (Unit × (Int × Unit)))) × (List Int) × Unit)) → Option R) (x : ((Unit × (List (List Int)) × Int × Int × Unit) × ((Unit × ((Nat → Int) × (Int × (Int × Unit)))) × (Int × (Bool × (Unit × (Int × Unit)))) × (List Int) × Unit))) (κ0 : ((Unit × Unit) × ((Unit × ((Nat → Int) × (Int × (Int × Unit)))) × (Int × (Bool × (Unit × (Int × Unit)))) × (List Int) × Unit)) → Option R) : Option R :=
let l1679 : (List (List Int)) := x.1.2.1
let i1680 : Int := x.1.2.2.1
let i1681 : Int := x.1.2.2.2.1
let a1682 : (Nat → Int) := x.2.1.2.1
let i1683 : Int := x.2.1.2.2.1
let i1684 : Int := x.2.1.2.2.2.1
let i1685 : Int := x.2.2.1.1
let b1686 : Bool := x.2.2.1.2.1
let i1687 : Int := x.2.2.1.2.2.2.1
let l1688 : (List Int) := x.2.2.2.1
bif (decide (i1681 < i1680)) then (
bif decide (0 ≤ i1681) then (
bif decide (i1681 < ((List.length l1679) : Int)) then (
let p1689 : (List Int) := (List.getD l1679 ((Int.toNat i1681)) (Sch.zero (.sl (.int .u8))))
let i1690 : Int := addA .u64 i1684 128
q_12 ((a1682, p1689, i1690, false, ()), ()) (fun y1691 =>
let a1692 : (Nat → Int) := y1691.1
let i1693 : Int := y1691.2.1
let i1694 : Int := addA .i64 i1681 1
rec (((), l1679, i1680, i1694, ()), (((), (a1692, (i1683, (i1690, ())))), (i1685, (b1686, ((), (i1687, ())))), l1688, ())))) else none) else none) else (
κ0 (((), ()), (((), (a1682, (i1683, (i1684, ())))), (i1685, (b1686, ((), (i1687, ())))), l1688, ())))
def EG_26_v5 {R : Type} (q_57_v3 : Tp_57_v3 R) (q_12 : Tp_12 R) : Env R := ((Env.base QQ LN).add 57 ap_57_v3 hp_57_v3 (fun (x : aden ap_57_v3 × hden hp_57_v3) k => q_57_v3 x (fun y => k (Pat.inst (.ros (.sl (.int .u8))) y.1) (instH [some (.node (.fcons (.int .i64) (.fcons (.bool) (.fcons (.sl 1) (.fcons (.int .i64) (.fnil))))), 151), some (.lst (.int .u8), 5)] y.2)) (fun y => k (Pat.inst (.ros (.sl (.int .u8))) y.1) (instH [some (.node (.fcons (.int .i64) (.fcons (.bool) (.fcons (.sl 2) (.fcons (.int .i64) (.fnil))))), 151), none, some (.lst (.int .u8), 5)] y.2)))).add 12 ap_12 hp_12 (fun (x : aden ap_12 × hden hp_12) k => q_12 x (fun y => k (Pat.inst (.tup (.fcons (.vec (.int .u64) 8) (.fcons (.int .i64) (.fnil)))) y) (instH hp_12 x.2)))
def LG_26_v5 {R : Type} (m_26_v5_4 : Tl_26_v5_4 R) : Loops R := (Loops.none).add 4 (loopBy 3 lv_26_v5_4 pt_26_v5_4 (fun x k => m_26_v5_4 x (fun y => k (.exit 0) (px_26_v5_4_0.inst y))))
def E_26_v5 {R : Type} (N : Nat) : Env R := EG_26_v5 (p_57_v3 N) (p_12 N)
theorem eok_26_v5 {R : Type} (N : Nat) : EK Try.prog (E_26_v5 (R := R) N) := ek_add (ek_add (ek_base _ _) (good_57_v3 N)) (good_12 N)
def L_26_v5 {R : Type} (N : Nat) : Loops R := LG_26_v5 (l_26_v5_4 N N)
theorem gstep_26_v5_4 {R : Type} (q_57_v3 : Tp_57_v3 R) (q_12 : Tp_12 R) (m_26_v5_4 : Tl_26_v5_4 R) (n : Nat) (x : pt_26_v5_4.den) (k : Exit → St → Option R) : iter 3 lv_26_v5_4 lo_26_v5_4 (aexec TT (EG_26_v5 q_57_v3 q_12) (drawAny TT WW) (LG_26_v5 m_26_v5_4) (loopAt 4 (bodyOf Try.f26))) (n + 1) (pt_26_v5_4.inst x) k = C_26_v5_4 q_57_v3 q_12 m_26_v5_4 (fun y => iter 3 lv_26_v5_4 lo_26_v5_4 (aexec TT (EG_26_v5 q_57_v3 q_12) (drawAny TT WW) (LG_26_v5 m_26_v5_4) (loopAt 4 (bodyOf Try.f26))) n (pt_26_v5_4.inst y) k) x (fun y => k (.exit 0) (px_26_v5_4_0.inst y)) := by kernel_rfl
theorem step_26_v5_4 {R : Type} (N n : Nat) (x : pt_26_v5_4.den) (k : Exit → St → Option R) : iter 3 lv_26_v5_4 lo_26_v5_4 (aexec TT (E_26_v5 (R := R) N) (drawAny TT WW) (L_26_v5 N) (loopAt 4 (bodyOf Try.f26))) (n + 1) (pt_26_v5_4.inst x) k = B_26_v5_4 N (fun y => iter 3 lv_26_v5_4 lo_26_v5_4 (aexec TT (E_26_v5 (R := R) N) (drawAny TT WW) (L_26_v5 N) (loopAt 4 (bodyOf Try.f26))) n (pt_26_v5_4.inst y) k) x (fun y => k (.exit 0) (px_26_v5_4_0.inst y)) := (gstep_26_v5_4 (p_57_v3 N) (p_12 N) (l_26_v5_4 N N) n x k).trans (by kernel_rfl)
theorem eq_26_v5_4 {R : Type} (N : Nat) : ∀ (n : Nat) (x : pt_26_v5_4.den) (k : Exit → St → Option R), iter 3 lv_26_v5_4 lo_26_v5_4 (aexec TT (E_26_v5 (R := R) N) (drawAny TT WW) (L_26_v5 N) (loopAt 4 (bodyOf Try.f26))) n (pt_26_v5_4.inst x) k = l_26_v5_4 N n x (fun y => k (.exit 0) (px_26_v5_4_0.inst y)) :=
  iter_eq (K := Exit → St → Option R) (ks := fun k => k) (l := fun n (x : pt_26_v5_4.den) k => l_26_v5_4 N n x (fun y => k (.exit 0) (px_26_v5_4_0.inst y))) (B := fun (rec : pt_26_v5_4.den → Option R) (x : pt_26_v5_4.den) k => B_26_v5_4 N rec x (fun y => k (.exit 0) (px_26_v5_4_0.inst y))) (fun _ _ => rfl) (fun _ _ _ => rfl) (fun n x k => step_26_v5_4 N n x k)
theorem rounds_26_v5_4 {R : Type} (N : Nat) : Rounds 3 TT (E_26_v5 (R := R) N) (drawAny TT WW) (L_26_v5 N) 4 (loopAt 4 (bodyOf Try.f26)) :=
  rounds_of (p := pt_26_v5_4) (l := fun (x : pt_26_v5_4.den) k => l_26_v5_4 N N x (fun y => k (.exit 0) (px_26_v5_4_0.inst y))) (fun s k => rfl) (fun x k => eq_26_v5_4 N N x k)
theorem loops_26_v5 : loopsIn (bodyOf Try.f26) = [(4, loopAt 4 (bodyOf Try.f26))] := by kernel_rfl
theorem lok_26_v5 {R : Type} (N : Nat) : LOK 3 TT (E_26_v5 (R := R) N) (drawAny TT WW) (L_26_v5 N) (bodyOf Try.f26) := loops_all loops_26_v5 (by
  simp only [List.forall_mem_cons, List.not_mem_nil, false_implies, implies_true, and_true]
  exact rounds_26_v5_4 N)
theorem grun_26_v5 {R : Type} (q_57_v3 : Tp_57_v3 R) (q_12 : Tp_12 R) (m_26_v5_4 : Tl_26_v5_4 R) (x : aden ap_26_v5 × hden hp_26_v5) (k : KF R) : fnrun TT (EG_26_v5 q_57_v3 q_12) (drawAny TT WW) (LG_26_v5 m_26_v5_4) true Try.f26 (instA ap_26_v5 x.1) (instH hp_26_v5 x.2) k = Q_26_v5 q_57_v3 q_12 m_26_v5_4 x (fun y => k (Pat.inst (.ptr 0 []) y.1) (instH [some (.node (.fcons (.ptr 1 []) (.fcons (.vec (.int .u64) 8) (.fcons (.int .i64) (.fcons (.int .u64) (.fnil))))), 115), some (.node (.fcons (.int .i64) (.fcons (.bool) (.fcons (.sl 3) (.fcons (.int .i64) (.fnil))))), 151), none, some (.lst (.int .u8), 5)] y.2)) := by kernel_rfl
theorem run_26_v5 {R : Type} (N : Nat) (x : aden ap_26_v5 × hden hp_26_v5) (k : KF R) : fnrun TT (E_26_v5 (R := R) N) (drawAny TT WW) (L_26_v5 N) true Try.f26 (instA ap_26_v5 x.1) (instH hp_26_v5 x.2) k = p_26_v5 N x (fun y => k (Pat.inst (.ptr 0 []) y.1) (instH [some (.node (.fcons (.ptr 1 []) (.fcons (.vec (.int .u64) 8) (.fcons (.int .i64) (.fcons (.int .u64) (.fnil))))), 115), some (.node (.fcons (.int .i64) (.fcons (.bool) (.fcons (.sl 3) (.fcons (.int .i64) (.fnil))))), 151), none, some (.lst (.int .u8), 5)] y.2)) := (grun_26_v5 (p_57_v3 N) (p_12 N) (l_26_v5_4 N N) x k).trans (by kernel_rfl)
theorem good_26_v5 {R : Type} (N : Nat) : GD (X := R) Try.prog QQ 26 ap_26_v5 hp_26_v5 (fun (x : aden ap_26_v5 × hden hp_26_v5) k => p_26_v5 N x (fun y => k (Pat.inst (.ptr 0 []) y.1) (instH [some (.node (.fcons (.ptr 1 []) (.fcons (.vec (.int .u64) 8) (.fcons (.int .i64) (.fcons (.int .u64) (.fnil))))), 115), some (.node (.fcons (.int .i64) (.fcons (.bool) (.fcons (.sl 3) (.fcons (.int .i64) (.fnil))))), 151), none, some (.lst (.int .u8), 5)] y.2))) :=
  gd_loud (E := E_26_v5 N) (p := fun (x : aden ap_26_v5 × hden hp_26_v5) k => p_26_v5 N x (fun y => k (Pat.inst (.ptr 0 []) y.1) (instH [some (.node (.fcons (.ptr 1 []) (.fcons (.vec (.int .u64) 8) (.fcons (.int .i64) (.fcons (.int .u64) (.fnil))))), 115), some (.node (.fcons (.int .i64) (.fcons (.bool) (.fcons (.sl 3) (.fcons (.int .i64) (.fnil))))), 151), none, some (.lst (.int .u8), 5)] y.2))) mixed tyok (eok_26_v5 N) Try.func26 (by kernel_rfl) (by kernel_rfl) (by kernel_rfl) (lok_26_v5 N) (fun x k => run_26_v5 N x k)

def lv_29_v1_8 : Live := [(0, none), (8, none), (9, none)]
def pt_29_v1_8 : SPat := ⟨[(0, .int .i64), (8, .str), (9, .sl 0)], [some (.lst (.int .u8), 5)]⟩
def px_29_v1_8_0 : SPat := ⟨[(0, .int .i64), (8, .str), (9, .sl 0)], [some (.lst (.int .u8), 5)]⟩
def lo_29_v1_8 : Exit → Live
  | .exit 0 => [(0, none), (8, none), (9, none)]
  | _ => []
def B_29_v1_8 {R : Type} (N : Nat) (rec : ((Int × ByteArray × Unit × Unit) × ((List Int) × Unit)) → Option R) (x : ((Int × ByteArray × Unit × Unit) × ((List Int) × Unit))) (κ0 : ((Int × ByteArray × Unit × Unit) × ((List Int) × Unit)) → Option R) : Option R :=
let i1722 : Int := x.1.1
let s1723 : ByteArray := x.1.2.1
let l1724 : (List Int) := x.2.1
let i1725 : Int := (((List.length l1724) : Nat) : Int)
let i1726 : Int := subA .i64 i1722 i1725
bif (decide (i1726 > 64)) then (
let l1727 : (List ByteArray) := [s1723]
p_22 N ((64, ⟨#[]⟩, (), ()), (l1727, ())) (fun y1728 =>
let s1729 : ByteArray := y1728.1.1
let i1730 : Int := y1728.1.2.1
let l1731 : (List ByteArray) := y1728.2.1
bif decide (32 ≤ ((ByteArray.size s1729 : Nat) : Int)) then (
let s1732 : ByteArray := ByteArray.extract s1729 0 32
bif (decide ((List.length l1724 + List.length (strList s1732)) * 1 ≤ 140737488355328) && true) then (
let l1733 : (List Int) := (l1724 ++ strList s1732)
rec ((i1722, s1729, (), ()), (l1733, ()))) else none) else none)) else (
κ0 ((i1722, s1723, (), ()), (l1724, ())))
def l_29_v1_8 {R : Type} (N : Nat) : Nat → ((Int × ByteArray × Unit × Unit) × ((List Int) × Unit)) → (((Int × ByteArray × Unit × Unit) × ((List Int) × Unit)) → Option R) → Option R
  | 0, _, _ => none
  | n + 1, x, κ0 => B_29_v1_8 N (fun y => l_29_v1_8 N n y κ0) x κ0
def ap_29_v1 : List Pat := [.int .i64, .ros (.str)]
def hp_29_v1 : List (Option (Pat × Nat)) := []
def p_29_v1 {R : Type} (N : Nat) (x : (Int × (List ByteArray) × Unit) × (Unit)) (κ0 : ((ByteArray × (Int × Unit)) × (Unit)) → Option R) : Option R :=
let i1363 : Int := x.1.1
let l1364 : (List ByteArray) := x.1.2.1
bif (decide (i1363 < 1)) then (
κ0 ((⟨#[]⟩, (1, ())), ())) else (
bif (decide (i1363 > 65536)) then (
κ0 ((⟨#[]⟩, (1, ())), ())) else (
let i1365 : Int := minA i1363 64
p_27 N ((i1365, ⟨#[]⟩, ()), ()) (fun y1366 =>
let i1367 : Int := y1366.1.2.1
let i1368 : Int := IntKind.wrap .u32 i1363
let l1369 : (List Int) := [i1368]
p_60 N (((), ()), (l1369, ())) (fun y1370 =>
let l1371 : (List Int) := y1370.1
let l1372 : (List Int) := y1370.2.1
let s1373 : ByteArray := listStr l1371
let l1374 : (List ByteArray) := [s1373]
p_26_v2 N (((), (), ()), (l1374, ())) (fun y1375 =>
let l1376 : (List ByteArray) := y1375.2.1
p_26_v3 N (((), l1364, ()), ()) (fun y1378 =>
p_25 N (((), ()), ()) (fun y1379 =>
let s1380 : ByteArray := y1379.1
bif (decide (i1363 ≤ 64)) then (
κ0 ((s1380, (0, ())), ())) else (
bif decide (32 ≤ ((ByteArray.size s1380 : Nat) : Int)) then (
let s1381 : ByteArray := ByteArray.extract s1380 0 32
bif decide (ByteArray.size s1381 ≤ maxI64) then (
let l1382 : (List Int) := strList s1381
l_29_v1_8 N N ((i1363, s1380, (), ()), (l1382, ())) (fun y1395 =>
let i1396 : Int := y1395.1.1
let s1397 : ByteArray := y1395.1.2.1
let l1398 : (List Int) := y1395.2.1
let i1399 : Int := (((List.length l1398) : Nat) : Int)
let i1400 : Int := subA .i64 i1396 i1399
let l1401 : (List ByteArray) := [s1397]
p_22 N ((i1400, ⟨#[]⟩, (), ()), (l1401, ())) (fun y1402 =>
let s1403 : ByteArray := y1402.1.1
let i1404 : Int := y1402.1.2.1
let l1405 : (List ByteArray) := y1402.2.1
bif (decide ((List.length l1398 + List.length (strList s1403)) * 1 ≤ 140737488355328) && true) then (
let l1406 : (List Int) := (l1398 ++ strList s1403)
let s1407 : ByteArray := listStr l1406
κ0 ((s1407, (0, ())), ())) else none))) else none) else none)))))) (fun y1408 =>
let i1409 : Int := y1408.1.2.1
let a1410 : (Nat → Int) := y1408.2.1.2.1
let i1411 : Int := y1408.2.1.2.2.1
let i1412 : Int := y1408.2.1.2.2.2.1
let i1413 : Int := IntKind.wrap .u32 i1363
let l1414 : (List Int) := [i1413]
p_60 N (((), ()), (l1414, ())) (fun y1415 =>
let l1416 : (List Int) := y1415.1
let l1417 : (List Int) := y1415.2.1
let s1418 : ByteArray := listStr l1416
let l1419 : (List ByteArray) := [s1418]
p_26 N (((), (), ()), (((), (a1410, (i1411, (i1412, ())))), l1419, ())) (fun y1420 =>
let a1421 : (Nat → Int) := y1420.2.1.2.1
let i1422 : Int := y1420.2.1.2.2.1
let i1423 : Int := y1420.2.1.2.2.2.1
let l1424 : (List ByteArray) := y1420.2.2.1
p_26_v4 N (((), l1364, ()), (((), (a1421, (i1422, (i1423, ())))), ())) (fun y1449 =>
let a1450 : (Nat → Int) := y1449.2.1.2.1
let i1451 : Int := y1449.2.1.2.2.1
let i1452 : Int := y1449.2.1.2.2.2.1
p_25_v1 N (((), ()), (((), (a1450, (i1451, (i1452, ())))), ())) (fun y1453 =>
let s1454 : ByteArray := y1453.1
let a1455 : (Nat → Int) := y1453.2.1.2.1
let i1456 : Int := y1453.2.1.2.2.1
let i1457 : Int := y1453.2.1.2.2.2.1
bif (decide (i1363 ≤ 64)) then (
κ0 ((s1454, (0, ())), ())) else (
bif decide (32 ≤ ((ByteArray.size s1454 : Nat) : Int)) then (
let s1458 : ByteArray := ByteArray.extract s1454 0 32
bif decide (ByteArray.size s1458 ≤ maxI64) then (
let l1459 : (List Int) := strList s1458
l_29_v1_8 N N ((i1363, s1454, (), ()), (l1459, ())) (fun y1472 =>
let i1473 : Int := y1472.1.1
let s1474 : ByteArray := y1472.1.2.1
let l1475 : (List Int) := y1472.2.1
let i1476 : Int := (((List.length l1475) : Nat) : Int)
let i1477 : Int := subA .i64 i1473 i1476
let l1478 : (List ByteArray) := [s1474]
p_22 N ((i1477, ⟨#[]⟩, (), ()), (l1478, ())) (fun y1479 =>
let s1480 : ByteArray := y1479.1.1
let i1481 : Int := y1479.1.2.1
let l1482 : (List ByteArray) := y1479.2.1
bif (decide ((List.length l1475 + List.length (strList s1480)) * 1 ≤ 140737488355328) && true) then (
let l1483 : (List Int) := (l1475 ++ strList s1480)
let s1484 : ByteArray := listStr l1483
κ0 ((s1484, (0, ())), ())) else none))) else none) else none)))))) (fun y1485 =>
let i1486 : Int := y1485.1.2.1
let a1487 : (Nat → Int) := y1485.2.1.2.1
let i1488 : Int := y1485.2.1.2.2.1
let i1489 : Int := y1485.2.1.2.2.2.1
let i1490 : Int := y1485.2.2.1.1
let b1491 : Bool := y1485.2.2.1.2.1
let i1492 : Int := y1485.2.2.1.2.2.2.1
let l1493 : (List Int) := y1485.2.2.2.1
let i1494 : Int := IntKind.wrap .u32 i1363
let l1495 : (List Int) := [i1494]
p_60 N (((), ()), (l1495, ())) (fun y1496 =>
let l1497 : (List Int) := y1496.1
let l1498 : (List Int) := y1496.2.1
let s1499 : ByteArray := listStr l1497
let l1500 : (List ByteArray) := [s1499]
p_26_v1 N (((), (), ()), (((), (a1487, (i1488, (i1489, ())))), (i1490, (b1491, ((), (i1492, ())))), l1493, l1500, ())) (fun y1501 =>
let a1502 : (Nat → Int) := y1501.2.1.2.1
let i1503 : Int := y1501.2.1.2.2.1
let i1504 : Int := y1501.2.1.2.2.2.1
let i1505 : Int := y1501.2.2.1.1
let b1506 : Bool := y1501.2.2.1.2.1
let i1507 : Int := y1501.2.2.1.2.2.2.1
let l1508 : (List ByteArray) := y1501.2.2.2.1
let l1509 : (List Int) := y1501.2.2.2.2.1
p_26_v5 N (((), l1364, ()), (((), (a1502, (i1503, (i1504, ())))), (i1505, (b1506, ((), (i1507, ())))), l1509, ())) (fun y1703 =>
let a1704 : (Nat → Int) := y1703.2.1.2.1
let i1705 : Int := y1703.2.1.2.2.1
let i1706 : Int := y1703.2.1.2.2.2.1
let i1707 : Int := y1703.2.2.1.1
let b1708 : Bool := y1703.2.2.1.2.1
let i1709 : Int := y1703.2.2.1.2.2.2.1
let l1710 : (List Int) := y1703.2.2.2.1
p_25_v2 N (((), ()), (((), (a1704, (i1705, (i1706, ())))), (i1707, (b1708, ((), (i1709, ())))), l1710, ())) (fun y1711 =>
let s1712 : ByteArray := y1711.1
let a1713 : (Nat → Int) := y1711.2.1.2.1
let i1714 : Int := y1711.2.1.2.2.1
let i1715 : Int := y1711.2.1.2.2.2.1
let i1716 : Int := y1711.2.2.1.1
let b1717 : Bool := y1711.2.2.1.2.1
let i1718 : Int := y1711.2.2.1.2.2.2.1
let l1719 : (List Int) := y1711.2.2.2.1
bif (decide (i1363 ≤ 64)) then (
κ0 ((s1712, (0, ())), ())) else (
bif decide (32 ≤ ((ByteArray.size s1712 : Nat) : Int)) then (
let s1720 : ByteArray := ByteArray.extract s1712 0 32
bif decide (ByteArray.size s1720 ≤ maxI64) then (
let l1721 : (List Int) := strList s1720
l_29_v1_8 N N ((i1363, s1712, (), ()), (l1721, ())) (fun y1734 =>
let i1735 : Int := y1734.1.1
let s1736 : ByteArray := y1734.1.2.1
let l1737 : (List Int) := y1734.2.1
let i1738 : Int := (((List.length l1737) : Nat) : Int)
let i1739 : Int := subA .i64 i1735 i1738
let l1740 : (List ByteArray) := [s1736]
p_22 N ((i1739, ⟨#[]⟩, (), ()), (l1740, ())) (fun y1741 =>
let s1742 : ByteArray := y1741.1.1
let i1743 : Int := y1741.1.2.1
let l1744 : (List ByteArray) := y1741.2.1
bif (decide ((List.length l1737 + List.length (strList s1742)) * 1 ≤ 140737488355328) && true) then (
let l1745 : (List Int) := (l1737 ++ strList s1742)
let s1746 : ByteArray := listStr l1745
κ0 ((s1746, (0, ())), ())) else none))) else none) else none))))))))

abbrev Tl_29_v1_8 (R : Type) : Type := ((Int × ByteArray × Unit × Unit) × ((List Int) × Unit)) → (((Int × ByteArray × Unit × Unit) × ((List Int) × Unit)) → Option R) → Option R
abbrev Tp_29_v1 (R : Type) : Type := (Int × (List ByteArray) × Unit) × (Unit) → (((ByteArray × (Int × Unit)) × (Unit)) → Option R) → Option R
def Q_29_v1 {R : Type} (q_27 : Tp_27 R) (q_60 : Tp_60 R) (q_26_v2 : Tp_26_v2 R) (q_26_v3 : Tp_26_v3 R) (q_25 : Tp_25 R) (q_22 : Tp_22 R) (q_26 : Tp_26 R) (q_26_v4 : Tp_26_v4 R) (q_25_v1 : Tp_25_v1 R) (q_26_v1 : Tp_26_v1 R) (q_26_v5 : Tp_26_v5 R) (q_25_v2 : Tp_25_v2 R) (m_29_v1_8 : Tl_29_v1_8 R) (x : (Int × (List ByteArray) × Unit) × (Unit)) (κ0 : ((ByteArray × (Int × Unit)) × (Unit)) → Option R) : Option R :=
let i1363 : Int := x.1.1
let l1364 : (List ByteArray) := x.1.2.1
bif (decide (i1363 < 1)) then (
κ0 ((⟨#[]⟩, (1, ())), ())) else (
bif (decide (i1363 > 65536)) then (
κ0 ((⟨#[]⟩, (1, ())), ())) else (
let i1365 : Int := minA i1363 64
q_27 ((i1365, ⟨#[]⟩, ()), ()) (fun y1366 =>
let i1367 : Int := y1366.1.2.1
let i1368 : Int := IntKind.wrap .u32 i1363
let l1369 : (List Int) := [i1368]
q_60 (((), ()), (l1369, ())) (fun y1370 =>
let l1371 : (List Int) := y1370.1
let l1372 : (List Int) := y1370.2.1
let s1373 : ByteArray := listStr l1371
let l1374 : (List ByteArray) := [s1373]
q_26_v2 (((), (), ()), (l1374, ())) (fun y1375 =>
let l1376 : (List ByteArray) := y1375.2.1
q_26_v3 (((), l1364, ()), ()) (fun y1378 =>
q_25 (((), ()), ()) (fun y1379 =>
let s1380 : ByteArray := y1379.1
bif (decide (i1363 ≤ 64)) then (
κ0 ((s1380, (0, ())), ())) else (
bif decide (32 ≤ ((ByteArray.size s1380 : Nat) : Int)) then (
let s1381 : ByteArray := ByteArray.extract s1380 0 32
bif decide (ByteArray.size s1381 ≤ maxI64) then (
let l1382 : (List Int) := strList s1381
m_29_v1_8 ((i1363, s1380, (), ()), (l1382, ())) (fun y1395 =>
let i1396 : Int := y1395.1.1
let s1397 : ByteArray := y1395.1.2.1
let l1398 : (List Int) := y1395.2.1
let i1399 : Int := (((List.length l1398) : Nat) : Int)
let i1400 : Int := subA .i64 i1396 i1399
let l1401 : (List ByteArray) := [s1397]
q_22 ((i1400, ⟨#[]⟩, (), ()), (l1401, ())) (fun y1402 =>
let s1403 : ByteArray := y1402.1.1
let i1404 : Int := y1402.1.2.1
let l1405 : (List ByteArray) := y1402.2.1
bif (decide ((List.length l1398 + List.length (strList s1403)) * 1 ≤ 140737488355328) && true) then (
let l1406 : (List Int) := (l1398 ++ strList s1403)
let s1407 : ByteArray := listStr l1406
κ0 ((s1407, (0, ())), ())) else none))) else none) else none)))))) (fun y1408 =>
let i1409 : Int := y1408.1.2.1
let a1410 : (Nat → Int) := y1408.2.1.2.1
let i1411 : Int := y1408.2.1.2.2.1
let i1412 : Int := y1408.2.1.2.2.2.1
let i1413 : Int := IntKind.wrap .u32 i1363
let l1414 : (List Int) := [i1413]
q_60 (((), ()), (l1414, ())) (fun y1415 =>
let l1416 : (List Int) := y1415.1
let l1417 : (List Int) := y1415.2.1
let s1418 : ByteArray := listStr l1416
let l1419 : (List ByteArray) := [s1418]
q_26 (((), (), ()), (((), (a1410, (i1411, (i1412, ())))), l1419, ())) (fun y1420 =>
let a1421 : (Nat → Int) := y1420.2.1.2.1
let i1422 : Int := y1420.2.1.2.2.1
let i1423 : Int := y1420.2.1.2.2.2.1
let l1424 : (List ByteArray) := y1420.2.2.1
q_26_v4 (((), l1364, ()), (((), (a1421, (i1422, (i1423, ())))), ())) (fun y1449 =>
let a1450 : (Nat → Int) := y1449.2.1.2.1
let i1451 : Int := y1449.2.1.2.2.1
let i1452 : Int := y1449.2.1.2.2.2.1
q_25_v1 (((), ()), (((), (a1450, (i1451, (i1452, ())))), ())) (fun y1453 =>
let s1454 : ByteArray := y1453.1
let a1455 : (Nat → Int) := y1453.2.1.2.1
let i1456 : Int := y1453.2.1.2.2.1
let i1457 : Int := y1453.2.1.2.2.2.1
bif (decide (i1363 ≤ 64)) then (
κ0 ((s1454, (0, ())), ())) else (
bif decide (32 ≤ ((ByteArray.size s1454 : Nat) : Int)) then (
let s1458 : ByteArray := ByteArray.extract s1454 0 32
bif decide (ByteArray.size s1458 ≤ maxI64) then (
let l1459 : (List Int) := strList s1458
m_29_v1_8 ((i1363, s1454, (), ()), (l1459, ())) (fun y1472 =>
let i1473 : Int := y1472.1.1
let s1474 : ByteArray := y1472.1.2.1
let l1475 : (List Int) := y1472.2.1
let i1476 : Int := (((List.length l1475) : Nat) : Int)
let i1477 : Int := subA .i64 i1473 i1476
let l1478 : (List ByteArray) := [s1474]
q_22 ((i1477, ⟨#[]⟩, (), ()), (l1478, ())) (fun y1479 =>
let s1480 : ByteArray := y1479.1.1
let i1481 : Int := y1479.1.2.1
let l1482 : (List ByteArray) := y1479.2.1
bif (decide ((List.length l1475 + List.length (strList s1480)) * 1 ≤ 140737488355328) && true) then (
let l1483 : (List Int) := (l1475 ++ strList s1480)
let s1484 : ByteArray := listStr l1483
κ0 ((s1484, (0, ())), ())) else none))) else none) else none)))))) (fun y1485 =>
let i1486 : Int := y1485.1.2.1
let a1487 : (Nat → Int) := y1485.2.1.2.1
let i1488 : Int := y1485.2.1.2.2.1
let i1489 : Int := y1485.2.1.2.2.2.1
let i1490 : Int := y1485.2.2.1.1
let b1491 : Bool := y1485.2.2.1.2.1
let i1492 : Int := y1485.2.2.1.2.2.2.1
let l1493 : (List Int) := y1485.2.2.2.1
let i1494 : Int := IntKind.wrap .u32 i1363
let l1495 : (List Int) := [i1494]
q_60 (((), ()), (l1495, ())) (fun y1496 =>
let l1497 : (List Int) := y1496.1
let l1498 : (List Int) := y1496.2.1
let s1499 : ByteArray := listStr l1497
let l1500 : (List ByteArray) := [s1499]
q_26_v1 (((), (), ()), (((), (a1487, (i1488, (i1489, ())))), (i1490, (b1491, ((), (i1492, ())))), l1493, l1500, ())) (fun y1501 =>
let a1502 : (Nat → Int) := y1501.2.1.2.1
let i1503 : Int := y1501.2.1.2.2.1
let i1504 : Int := y1501.2.1.2.2.2.1
let i1505 : Int := y1501.2.2.1.1
let b1506 : Bool := y1501.2.2.1.2.1
let i1507 : Int := y1501.2.2.1.2.2.2.1
let l1508 : (List ByteArray) := y1501.2.2.2.1
let l1509 : (List Int) := y1501.2.2.2.2.1
q_26_v5 (((), l1364, ()), (((), (a1502, (i1503, (i1504, ())))), (i1505, (b1506, ((), (i1507, ())))), l1509, ())) (fun y1703 =>
let a1704 : (Nat → Int) := y1703.2.1.2.1
let i1705 : Int := y1703.2.1.2.2.1
let i1706 : Int := y1703.2.1.2.2.2.1
let i1707 : Int := y1703.2.2.1.1
let b1708 : Bool := y1703.2.2.1.2.1
let i1709 : Int := y1703.2.2.1.2.2.2.1
let l1710 : (List Int) := y1703.2.2.2.1
q_25_v2 (((), ()), (((), (a1704, (i1705, (i1706, ())))), (i1707, (b1708, ((), (i1709, ())))), l1710, ())) (fun y1711 =>
let s1712 : ByteArray := y1711.1
let a1713 : (Nat → Int) := y1711.2.1.2.1
let i1714 : Int := y1711.2.1.2.2.1
let i1715 : Int := y1711.2.1.2.2.2.1
let i1716 : Int := y1711.2.2.1.1
let b1717 : Bool := y1711.2.2.1.2.1
let i1718 : Int := y1711.2.2.1.2.2.2.1
let l1719 : (List Int) := y1711.2.2.2.1
bif (decide (i1363 ≤ 64)) then (
κ0 ((s1712, (0, ())), ())) else (
bif decide (32 ≤ ((ByteArray.size s1712 : Nat) : Int)) then (
let s1720 : ByteArray := ByteArray.extract s1712 0 32
bif decide (ByteArray.size s1720 ≤ maxI64) then (
let l1721 : (List Int) := strList s1720
m_29_v1_8 ((i1363, s1712, (), ()), (l1721, ())) (fun y1734 =>
let i1735 : Int := y1734.1.1
let s1736 : ByteArray := y1734.1.2.1
let l1737 : (List Int) := y1734.2.1
let i1738 : Int := (((List.length l1737) : Nat) : Int)
let i1739 : Int := subA .i64 i1735 i1738
let l1740 : (List ByteArray) := [s1736]
q_22 ((i1739, ⟨#[]⟩, (), ()), (l1740, ())) (fun y1741 =>
let s1742 : ByteArray := y1741.1.1
let i1743 : Int := y1741.1.2.1
let l1744 : (List ByteArray) := y1741.2.1
bif (decide ((List.length l1737 + List.length (strList s1742)) * 1 ≤ 140737488355328) && true) then (
let l1745 : (List Int) := (l1737 ++ strList s1742)
let s1746 : ByteArray := listStr l1745
κ0 ((s1746, (0, ())), ())) else none))) else none) else none))))))))
def C_29_v1_8 {R : Type} (q_27 : Tp_27 R) (q_60 : Tp_60 R) (q_26_v2 : Tp_26_v2 R) (q_26_v3 : Tp_26_v3 R) (q_25 : Tp_25 R) (q_22 : Tp_22 R) (q_26 : Tp_26 R) (q_26_v4 : Tp_26_v4 R) (q_25_v1 : Tp_25_v1 R) (q_26_v1 : Tp_26_v1 R) (q_26_v5 : Tp_26_v5 R) (q_25_v2 : Tp_25_v2 R) (m_29_v1_8 : Tl_29_v1_8 R) (rec : ((Int × ByteArray × Unit × Unit) × ((List Int) × Unit)) → Option R) (x : ((Int × ByteArray × Unit × Unit) × ((List Int) × Unit))) (κ0 : ((Int × ByteArray × Unit × Unit) × ((List Int) × Unit)) → Option R) : Option R :=
let i1722 : Int := x.1.1
let s1723 : ByteArray := x.1.2.1
let l1724 : (List Int) := x.2.1
let i1725 : Int := (((List.length l1724) : Nat) : Int)
let i1726 : Int := subA .i64 i1722 i1725
bif (decide (i1726 > 64)) then (
let l1727 : (List ByteArray) := [s1723]
q_22 ((64, ⟨#[]⟩, (), ()), (l1727, ())) (fun y1728 =>
let s1729 : ByteArray := y1728.1.1
let i1730 : Int := y1728.1.2.1
let l1731 : (List ByteArray) := y1728.2.1
bif decide (32 ≤ ((ByteArray.size s1729 : Nat) : Int)) then (
let s1732 : ByteArray := ByteArray.extract s1729 0 32
bif (decide ((List.length l1724 + List.length (strList s1732)) * 1 ≤ 140737488355328) && true) then (
let l1733 : (List Int) := (l1724 ++ strList s1732)
rec ((i1722, s1729, (), ()), (l1733, ()))) else none) else none)) else (
κ0 ((i1722, s1723, (), ()), (l1724, ())))
def EG_29_v1 {R : Type} (q_27 : Tp_27 R) (q_60 : Tp_60 R) (q_26_v2 : Tp_26_v2 R) (q_26_v3 : Tp_26_v3 R) (q_25 : Tp_25 R) (q_22 : Tp_22 R) (q_26 : Tp_26 R) (q_26_v4 : Tp_26_v4 R) (q_25_v1 : Tp_25_v1 R) (q_26_v1 : Tp_26_v1 R) (q_26_v5 : Tp_26_v5 R) (q_25_v2 : Tp_25_v2 R) : Env R := ((((((((((((Env.base QQ LN).add 27 ap_27 hp_27 (fun (x : aden ap_27 × hden hp_27) k => q_27 x (fun y => k (Pat.inst (.tup (.fcons (.nilp) (.fcons (.int .i64) (.fnil)))) y.1) (instH [] y.2)) (fun y => k (Pat.inst (.tup (.fcons (.ptr 0 []) (.fcons (.int .i64) (.fnil)))) y.1) (instH [some (.node (.fcons (.nilp) (.fcons (.vec (.int .u64) 8) (.fcons (.int .i64) (.fcons (.int .u64) (.fnil))))), 115)] y.2)) (fun y => k (Pat.inst (.tup (.fcons (.ptr 0 []) (.fcons (.int .i64) (.fnil)))) y.1) (instH [some (.node (.fcons (.ptr 1 []) (.fcons (.vec (.int .u64) 8) (.fcons (.int .i64) (.fcons (.int .u64) (.fnil))))), 115), some (.node (.fcons (.int .i64) (.fcons (.bool) (.fcons (.sl 2) (.fcons (.int .i64) (.fnil))))), 151), some (.lst (.int .u8), 5)] y.2)))).add 60 ap_60 hp_60 (fun (x : aden ap_60 × hden hp_60) k => q_60 x (fun y => k (Pat.inst (.ros (.int .u8)) y.1) (instH [some (.lst (.int .u32), 124)] y.2)))).add 26 ap_26_v2 hp_26_v2 (fun (x : aden ap_26_v2 × hden hp_26_v2) k => q_26_v2 x (fun y => k (Pat.inst (.nilp) y.1) (instH [some (.lst (.str), 9)] y.2)))).add 26 ap_26_v3 hp_26_v3 (fun (x : aden ap_26_v3 × hden hp_26_v3) k => q_26_v3 x (fun y => k (Pat.inst (.nilp) y.1) (instH [] y.2)))).add 25 ap_25 hp_25 (fun (x : aden ap_25 × hden hp_25) k => q_25 x (fun y => k (Pat.inst (.str) y.1) (instH [] y.2)))).add 22 ap_22 hp_22 (fun (x : aden ap_22 × hden hp_22) k => q_22 x (fun y => k (Pat.inst (.tup (.fcons (.str) (.fcons (.int .i64) (.fnil)))) y.1) (instH [some (.lst (.str), 9)] y.2)))).add 26 ap_26 hp_26 (fun (x : aden ap_26 × hden hp_26) k => q_26 x (fun y => k (Pat.inst (.ptr 0 []) y.1) (instH [some (.node (.fcons (.nilp) (.fcons (.vec (.int .u64) 8) (.fcons (.int .i64) (.fcons (.int .u64) (.fnil))))), 115), some (.lst (.str), 9)] y.2)))).add 26 ap_26_v4 hp_26_v4 (fun (x : aden ap_26_v4 × hden hp_26_v4) k => q_26_v4 x (fun y => k (Pat.inst (.ptr 0 []) y.1) (instH [some (.node (.fcons (.nilp) (.fcons (.vec (.int .u64) 8) (.fcons (.int .i64) (.fcons (.int .u64) (.fnil))))), 115)] y.2)))).add 25 ap_25_v1 hp_25_v1 (fun (x : aden ap_25_v1 × hden hp_25_v1) k => q_25_v1 x (fun y => k (Pat.inst (.str) y.1) (instH [some (.node (.fcons (.nilp) (.fcons (.vec (.int .u64) 8) (.fcons (.int .i64) (.fcons (.int .u64) (.fnil))))), 115)] y.2)))).add 26 ap_26_v1 hp_26_v1 (fun (x : aden ap_26_v1 × hden hp_26_v1) k => q_26_v1 x (fun y => k (Pat.inst (.ptr 0 []) y.1) (instH [some (.node (.fcons (.ptr 1 []) (.fcons (.vec (.int .u64) 8) (.fcons (.int .i64) (.fcons (.int .u64) (.fnil))))), 115), some (.node (.fcons (.int .i64) (.fcons (.bool) (.fcons (.sl 4) (.fcons (.int .i64) (.fnil))))), 151), none, some (.lst (.str), 9), some (.lst (.int .u8), 5)] y.2)))).add 26 ap_26_v5 hp_26_v5 (fun (x : aden ap_26_v5 × hden hp_26_v5) k => q_26_v5 x (fun y => k (Pat.inst (.ptr 0 []) y.1) (instH [some (.node (.fcons (.ptr 1 []) (.fcons (.vec (.int .u64) 8) (.fcons (.int .i64) (.fcons (.int .u64) (.fnil))))), 115), some (.node (.fcons (.int .i64) (.fcons (.bool) (.fcons (.sl 3) (.fcons (.int .i64) (.fnil))))), 151), none, some (.lst (.int .u8), 5)] y.2)))).add 25 ap_25_v2 hp_25_v2 (fun (x : aden ap_25_v2 × hden hp_25_v2) k => q_25_v2 x (fun y => k (Pat.inst (.str) y.1) (instH [some (.node (.fcons (.ptr 1 []) (.fcons (.vec (.int .u64) 8) (.fcons (.int .i64) (.fcons (.int .u64) (.fnil))))), 115), some (.node (.fcons (.int .i64) (.fcons (.bool) (.fcons (.sl 2) (.fcons (.int .i64) (.fnil))))), 151), some (.lst (.int .u8), 5)] y.2)))
def LG_29_v1 {R : Type} (m_29_v1_8 : Tl_29_v1_8 R) : Loops R := (Loops.none).add 8 (loopBy 0 lv_29_v1_8 pt_29_v1_8 (fun x k => m_29_v1_8 x (fun y => k (.exit 0) (px_29_v1_8_0.inst y))))
def E_29_v1 {R : Type} (N : Nat) : Env R := EG_29_v1 (p_27 N) (p_60 N) (p_26_v2 N) (p_26_v3 N) (p_25 N) (p_22 N) (p_26 N) (p_26_v4 N) (p_25_v1 N) (p_26_v1 N) (p_26_v5 N) (p_25_v2 N)
theorem eok_29_v1 {R : Type} (N : Nat) : EK Try.prog (E_29_v1 (R := R) N) := ek_add (ek_add (ek_add (ek_add (ek_add (ek_add (ek_add (ek_add (ek_add (ek_add (ek_add (ek_add (ek_base _ _) (good_27 N)) (good_60 N)) (good_26_v2 N)) (good_26_v3 N)) (good_25 N)) (good_22 N)) (good_26 N)) (good_26_v4 N)) (good_25_v1 N)) (good_26_v1 N)) (good_26_v5 N)) (good_25_v2 N)
def L_29_v1 {R : Type} (N : Nat) : Loops R := LG_29_v1 (l_29_v1_8 N N)
theorem gstep_29_v1_8 {R : Type} (q_27 : Tp_27 R) (q_60 : Tp_60 R) (q_26_v2 : Tp_26_v2 R) (q_26_v3 : Tp_26_v3 R) (q_25 : Tp_25 R) (q_22 : Tp_22 R) (q_26 : Tp_26 R) (q_26_v4 : Tp_26_v4 R) (q_25_v1 : Tp_25_v1 R) (q_26_v1 : Tp_26_v1 R) (q_26_v5 : Tp_26_v5 R) (q_25_v2 : Tp_25_v2 R) (m_29_v1_8 : Tl_29_v1_8 R) (n : Nat) (x : pt_29_v1_8.den) (k : Exit → St → Option R) : iter 0 lv_29_v1_8 lo_29_v1_8 (aexec TT (EG_29_v1 q_27 q_60 q_26_v2 q_26_v3 q_25 q_22 q_26 q_26_v4 q_25_v1 q_26_v1 q_26_v5 q_25_v2) (drawAny TT WW) (LG_29_v1 m_29_v1_8) (loopAt 8 (bodyOf Try.f29))) (n + 1) (pt_29_v1_8.inst x) k = C_29_v1_8 q_27 q_60 q_26_v2 q_26_v3 q_25 q_22 q_26 q_26_v4 q_25_v1 q_26_v1 q_26_v5 q_25_v2 m_29_v1_8 (fun y => iter 0 lv_29_v1_8 lo_29_v1_8 (aexec TT (EG_29_v1 q_27 q_60 q_26_v2 q_26_v3 q_25 q_22 q_26 q_26_v4 q_25_v1 q_26_v1 q_26_v5 q_25_v2) (drawAny TT WW) (LG_29_v1 m_29_v1_8) (loopAt 8 (bodyOf Try.f29))) n (pt_29_v1_8.inst y) k) x (fun y => k (.exit 0) (px_29_v1_8_0.inst y)) := by kernel_rfl
theorem step_29_v1_8 {R : Type} (N n : Nat) (x : pt_29_v1_8.den) (k : Exit → St → Option R) : iter 0 lv_29_v1_8 lo_29_v1_8 (aexec TT (E_29_v1 (R := R) N) (drawAny TT WW) (L_29_v1 N) (loopAt 8 (bodyOf Try.f29))) (n + 1) (pt_29_v1_8.inst x) k = B_29_v1_8 N (fun y => iter 0 lv_29_v1_8 lo_29_v1_8 (aexec TT (E_29_v1 (R := R) N) (drawAny TT WW) (L_29_v1 N) (loopAt 8 (bodyOf Try.f29))) n (pt_29_v1_8.inst y) k) x (fun y => k (.exit 0) (px_29_v1_8_0.inst y)) := (gstep_29_v1_8 (p_27 N) (p_60 N) (p_26_v2 N) (p_26_v3 N) (p_25 N) (p_22 N) (p_26 N) (p_26_v4 N) (p_25_v1 N) (p_26_v1 N) (p_26_v5 N) (p_25_v2 N) (l_29_v1_8 N N) n x k).trans (by kernel_rfl)
theorem eq_29_v1_8 {R : Type} (N : Nat) : ∀ (n : Nat) (x : pt_29_v1_8.den) (k : Exit → St → Option R), iter 0 lv_29_v1_8 lo_29_v1_8 (aexec TT (E_29_v1 (R := R) N) (drawAny TT WW) (L_29_v1 N) (loopAt 8 (bodyOf Try.f29))) n (pt_29_v1_8.inst x) k = l_29_v1_8 N n x (fun y => k (.exit 0) (px_29_v1_8_0.inst y)) :=
  iter_eq (K := Exit → St → Option R) (ks := fun k => k) (l := fun n (x : pt_29_v1_8.den) k => l_29_v1_8 N n x (fun y => k (.exit 0) (px_29_v1_8_0.inst y))) (B := fun (rec : pt_29_v1_8.den → Option R) (x : pt_29_v1_8.den) k => B_29_v1_8 N rec x (fun y => k (.exit 0) (px_29_v1_8_0.inst y))) (fun _ _ => rfl) (fun _ _ _ => rfl) (fun n x k => step_29_v1_8 N n x k)
theorem rounds_29_v1_8 {R : Type} (N : Nat) : Rounds 0 TT (E_29_v1 (R := R) N) (drawAny TT WW) (L_29_v1 N) 8 (loopAt 8 (bodyOf Try.f29)) :=
  rounds_of (p := pt_29_v1_8) (l := fun (x : pt_29_v1_8.den) k => l_29_v1_8 N N x (fun y => k (.exit 0) (px_29_v1_8_0.inst y))) (fun s k => rfl) (fun x k => eq_29_v1_8 N N x k)
theorem loops_29_v1 : loopsIn (bodyOf Try.f29) = [(8, loopAt 8 (bodyOf Try.f29))] := by kernel_rfl
theorem lok_29_v1 {R : Type} (N : Nat) : LOK 0 TT (E_29_v1 (R := R) N) (drawAny TT WW) (L_29_v1 N) (bodyOf Try.f29) := loops_all loops_29_v1 (by
  simp only [List.forall_mem_cons, List.not_mem_nil, false_implies, implies_true, and_true]
  exact rounds_29_v1_8 N)
theorem grun_29_v1 {R : Type} (q_27 : Tp_27 R) (q_60 : Tp_60 R) (q_26_v2 : Tp_26_v2 R) (q_26_v3 : Tp_26_v3 R) (q_25 : Tp_25 R) (q_22 : Tp_22 R) (q_26 : Tp_26 R) (q_26_v4 : Tp_26_v4 R) (q_25_v1 : Tp_25_v1 R) (q_26_v1 : Tp_26_v1 R) (q_26_v5 : Tp_26_v5 R) (q_25_v2 : Tp_25_v2 R) (m_29_v1_8 : Tl_29_v1_8 R) (x : aden ap_29_v1 × hden hp_29_v1) (k : KF R) : fnrun TT (EG_29_v1 q_27 q_60 q_26_v2 q_26_v3 q_25 q_22 q_26 q_26_v4 q_25_v1 q_26_v1 q_26_v5 q_25_v2) (drawAny TT WW) (LG_29_v1 m_29_v1_8) true Try.f29 (instA ap_29_v1 x.1) (instH hp_29_v1 x.2) k = Q_29_v1 q_27 q_60 q_26_v2 q_26_v3 q_25 q_22 q_26 q_26_v4 q_25_v1 q_26_v1 q_26_v5 q_25_v2 m_29_v1_8 x (fun y => k (Pat.inst (.tup (.fcons (.str) (.fcons (.int .i64) (.fnil)))) y.1) (instH [] y.2)) := by kernel_rfl
theorem run_29_v1 {R : Type} (N : Nat) (x : aden ap_29_v1 × hden hp_29_v1) (k : KF R) : fnrun TT (E_29_v1 (R := R) N) (drawAny TT WW) (L_29_v1 N) true Try.f29 (instA ap_29_v1 x.1) (instH hp_29_v1 x.2) k = p_29_v1 N x (fun y => k (Pat.inst (.tup (.fcons (.str) (.fcons (.int .i64) (.fnil)))) y.1) (instH [] y.2)) := (grun_29_v1 (p_27 N) (p_60 N) (p_26_v2 N) (p_26_v3 N) (p_25 N) (p_22 N) (p_26 N) (p_26_v4 N) (p_25_v1 N) (p_26_v1 N) (p_26_v5 N) (p_25_v2 N) (l_29_v1_8 N N) x k).trans (by kernel_rfl)
theorem good_29_v1 {R : Type} (N : Nat) : GD (X := R) Try.prog QQ 29 ap_29_v1 hp_29_v1 (fun (x : aden ap_29_v1 × hden hp_29_v1) k => p_29_v1 N x (fun y => k (Pat.inst (.tup (.fcons (.str) (.fcons (.int .i64) (.fnil)))) y.1) (instH [] y.2))) :=
  gd_loud (E := E_29_v1 N) (p := fun (x : aden ap_29_v1 × hden hp_29_v1) k => p_29_v1 N x (fun y => k (Pat.inst (.tup (.fcons (.str) (.fcons (.int .i64) (.fnil)))) y.1) (instH [] y.2))) mixed tyok (eok_29_v1 N) Try.func29 (by kernel_rfl) (by kernel_rfl) (by kernel_rfl) (lok_29_v1 N) (fun x k => run_29_v1 N x k)

def ap_14 : List Pat := []
def hp_14 : List (Option (Pat × Nat)) := []
def p_14 {R : Type} (N : Nat) (x : (Unit) × (Unit)) (κ0 : (Nat → Int) → Option R) : Option R :=
let a1750 : (Nat → Int) := (upd ((upd ((upd ((upd ((upd ((upd ((upd ((upd ((Sch.zero (.arr 8 (.int .u64)))) 0 7640891576956012808)) 1 13503953896175478587)) 2 4354685564936845355)) 3 11912009170470909681)) 4 5840696475078001361)) 5 11170449401992604703)) 6 2270897969802886507)) 7 6620516959819538809)
κ0 a1750

abbrev Tp_14 (R : Type) : Type := (Unit) × (Unit) → ((Nat → Int) → Option R) → Option R
def Q_14 {R : Type} (x : (Unit) × (Unit)) (κ0 : (Nat → Int) → Option R) : Option R :=
let a1750 : (Nat → Int) := (upd ((upd ((upd ((upd ((upd ((upd ((upd ((upd ((Sch.zero (.arr 8 (.int .u64)))) 0 7640891576956012808)) 1 13503953896175478587)) 2 4354685564936845355)) 3 11912009170470909681)) 4 5840696475078001361)) 5 11170449401992604703)) 6 2270897969802886507)) 7 6620516959819538809)
κ0 a1750
def EG_14 {R : Type} : Env R := Env.base QQ LN
def LG_14 {R : Type} : Loops R := Loops.none
def E_14 {R : Type} (N : Nat) : Env R := EG_14
theorem eok_14 {R : Type} (N : Nat) : EK Try.prog (E_14 (R := R) N) := ek_base _ _
def L_14 {R : Type} (N : Nat) : Loops R := LG_14
theorem lok_14 {R : Type} (N : Nat) : LOK 0 TT (E_14 (R := R) N) (drawAny TT WW) (L_14 N) (bodyOf Try.f14) := loops_nil (by kernel_rfl)
theorem grun_14 {R : Type} (x : aden ap_14 × hden hp_14) (k : KF R) : fnrun TT (EG_14) (drawAny TT WW) (LG_14) true Try.f14 (instA ap_14 x.1) (instH hp_14 x.2) k = Q_14 x (fun y => k (Pat.inst (.vec (.int .u64) 8) y) (instH hp_14 x.2)) := by kernel_rfl
theorem run_14 {R : Type} (N : Nat) (x : aden ap_14 × hden hp_14) (k : KF R) : fnrun TT (E_14 (R := R) N) (drawAny TT WW) (L_14 N) true Try.f14 (instA ap_14 x.1) (instH hp_14 x.2) k = p_14 N x (fun y => k (Pat.inst (.vec (.int .u64) 8) y) (instH hp_14 x.2)) := (grun_14 x k).trans (by kernel_rfl)
theorem good_14 {R : Type} (N : Nat) : GD (X := R) Try.prog QQ 14 ap_14 hp_14 (fun (x : aden ap_14 × hden hp_14) k => p_14 N x (fun y => k (Pat.inst (.vec (.int .u64) 8) y) (instH hp_14 x.2))) :=
  gd_quiet (E := E_14 N) (p := fun (x : aden ap_14 × hden hp_14) κ => p_14 N x (fun y => κ (Pat.inst (.vec (.int .u64) 8) y))) mixed tyok (eok_14 N) Try.func14 (by kernel_rfl) (by kernel_rfl) (lok_14 N) (fun x k => run_14 N x k)

def lv_24_3 : Live := [(0, none), (3, none), (4, none)]
def pt_24_3 : SPat := ⟨[(0, .ros (.str)), (3, .str), (4, .int .i64)], []⟩
def px_24_3_0 : SPat := ⟨[(3, .str)], []⟩
def lo_24_3 : Exit → Live
  | .exit 0 => [(3, none)]
  | _ => []
def B_24_3 {R : Type} (N : Nat) (rec : (((List ByteArray) × ByteArray × Int × Unit) × (Unit)) → Option R) (x : (((List ByteArray) × ByteArray × Int × Unit) × (Unit))) (κ0 : ((ByteArray × Unit) × (Unit)) → Option R) : Option R :=
let l1754 : (List ByteArray) := x.1.1
let s1755 : ByteArray := x.1.2.1
let i1756 : Int := x.1.2.2.1
let i1757 : Int := (((List.length l1754) : Nat) : Int)
bif (decide (i1756 < i1757)) then (
bif decide (0 ≤ i1756) then (
bif decide (i1756 < ((List.length l1754) : Int)) then (
let p1758 : ByteArray := (List.getD l1754 ((Int.toNat i1756)) (Sch.zero (.str)))
bif decide (ByteArray.size s1755 + ByteArray.size p1758 ≤ maxI64) then (
let s1759 : ByteArray := (s1755 ++ p1758)
let i1760 : Int := addA .i64 i1756 1
rec ((l1754, s1759, i1760, ()), ())) else none) else none) else none) else (
κ0 ((s1755, ()), ()))
def l_24_3 {R : Type} (N : Nat) : Nat → (((List ByteArray) × ByteArray × Int × Unit) × (Unit)) → (((ByteArray × Unit) × (Unit)) → Option R) → Option R
  | 0, _, _ => none
  | n + 1, x, κ0 => B_24_3 N (fun y => l_24_3 N n y κ0) x κ0
def ap_24 : List Pat := [.ros (.str)]
def hp_24 : List (Option (Pat × Nat)) := []
def p_24 {R : Type} (N : Nat) (x : ((List ByteArray) × Unit) × (Unit)) (κ0 : ByteArray → Option R) : Option R :=
let l1753 : (List ByteArray) := x.1.1
l_24_3 N N ((l1753, ⟨#[]⟩, 0, ()), ()) (fun y1761 =>
let s1762 : ByteArray := y1761.1.1
κ0 s1762)

abbrev Tl_24_3 (R : Type) : Type := (((List ByteArray) × ByteArray × Int × Unit) × (Unit)) → (((ByteArray × Unit) × (Unit)) → Option R) → Option R
abbrev Tp_24 (R : Type) : Type := ((List ByteArray) × Unit) × (Unit) → (ByteArray → Option R) → Option R
def Q_24 {R : Type} (m_24_3 : Tl_24_3 R) (x : ((List ByteArray) × Unit) × (Unit)) (κ0 : ByteArray → Option R) : Option R :=
let l1753 : (List ByteArray) := x.1.1
m_24_3 ((l1753, ⟨#[]⟩, 0, ()), ()) (fun y1761 =>
let s1762 : ByteArray := y1761.1.1
κ0 s1762)
def C_24_3 {R : Type} (m_24_3 : Tl_24_3 R) (rec : (((List ByteArray) × ByteArray × Int × Unit) × (Unit)) → Option R) (x : (((List ByteArray) × ByteArray × Int × Unit) × (Unit))) (κ0 : ((ByteArray × Unit) × (Unit)) → Option R) : Option R :=
let l1754 : (List ByteArray) := x.1.1
let s1755 : ByteArray := x.1.2.1
let i1756 : Int := x.1.2.2.1
let i1757 : Int := (((List.length l1754) : Nat) : Int)
bif (decide (i1756 < i1757)) then (
bif decide (0 ≤ i1756) then (
bif decide (i1756 < ((List.length l1754) : Int)) then (
let p1758 : ByteArray := (List.getD l1754 ((Int.toNat i1756)) (Sch.zero (.str)))
bif decide (ByteArray.size s1755 + ByteArray.size p1758 ≤ maxI64) then (
let s1759 : ByteArray := (s1755 ++ p1758)
let i1760 : Int := addA .i64 i1756 1
rec ((l1754, s1759, i1760, ()), ())) else none) else none) else none) else (
κ0 ((s1755, ()), ()))
def EG_24 {R : Type} : Env R := Env.base QQ LN
def LG_24 {R : Type} (m_24_3 : Tl_24_3 R) : Loops R := (Loops.none).add 3 (loopBy 0 lv_24_3 pt_24_3 (fun x k => m_24_3 x (fun y => k (.exit 0) (px_24_3_0.inst y))))
def E_24 {R : Type} (N : Nat) : Env R := EG_24
theorem eok_24 {R : Type} (N : Nat) : EK Try.prog (E_24 (R := R) N) := ek_base _ _
def L_24 {R : Type} (N : Nat) : Loops R := LG_24 (l_24_3 N N)
theorem gstep_24_3 {R : Type} (m_24_3 : Tl_24_3 R) (n : Nat) (x : pt_24_3.den) (k : Exit → St → Option R) : iter 0 lv_24_3 lo_24_3 (aexec TT (EG_24) (drawAny TT WW) (LG_24 m_24_3) (loopAt 3 (bodyOf Try.f24))) (n + 1) (pt_24_3.inst x) k = C_24_3 m_24_3 (fun y => iter 0 lv_24_3 lo_24_3 (aexec TT (EG_24) (drawAny TT WW) (LG_24 m_24_3) (loopAt 3 (bodyOf Try.f24))) n (pt_24_3.inst y) k) x (fun y => k (.exit 0) (px_24_3_0.inst y)) := by kernel_rfl
theorem step_24_3 {R : Type} (N n : Nat) (x : pt_24_3.den) (k : Exit → St → Option R) : iter 0 lv_24_3 lo_24_3 (aexec TT (E_24 (R := R) N) (drawAny TT WW) (L_24 N) (loopAt 3 (bodyOf Try.f24))) (n + 1) (pt_24_3.inst x) k = B_24_3 N (fun y => iter 0 lv_24_3 lo_24_3 (aexec TT (E_24 (R := R) N) (drawAny TT WW) (L_24 N) (loopAt 3 (bodyOf Try.f24))) n (pt_24_3.inst y) k) x (fun y => k (.exit 0) (px_24_3_0.inst y)) := (gstep_24_3 (l_24_3 N N) n x k).trans (by kernel_rfl)
theorem eq_24_3 {R : Type} (N : Nat) : ∀ (n : Nat) (x : pt_24_3.den) (k : Exit → St → Option R), iter 0 lv_24_3 lo_24_3 (aexec TT (E_24 (R := R) N) (drawAny TT WW) (L_24 N) (loopAt 3 (bodyOf Try.f24))) n (pt_24_3.inst x) k = l_24_3 N n x (fun y => k (.exit 0) (px_24_3_0.inst y)) :=
  iter_eq (K := Exit → St → Option R) (ks := fun k => k) (l := fun n (x : pt_24_3.den) k => l_24_3 N n x (fun y => k (.exit 0) (px_24_3_0.inst y))) (B := fun (rec : pt_24_3.den → Option R) (x : pt_24_3.den) k => B_24_3 N rec x (fun y => k (.exit 0) (px_24_3_0.inst y))) (fun _ _ => rfl) (fun _ _ _ => rfl) (fun n x k => step_24_3 N n x k)
theorem rounds_24_3 {R : Type} (N : Nat) : Rounds 0 TT (E_24 (R := R) N) (drawAny TT WW) (L_24 N) 3 (loopAt 3 (bodyOf Try.f24)) :=
  rounds_of (p := pt_24_3) (l := fun (x : pt_24_3.den) k => l_24_3 N N x (fun y => k (.exit 0) (px_24_3_0.inst y))) (fun s k => rfl) (fun x k => eq_24_3 N N x k)
theorem loops_24 : loopsIn (bodyOf Try.f24) = [(3, loopAt 3 (bodyOf Try.f24))] := by kernel_rfl
theorem lok_24 {R : Type} (N : Nat) : LOK 0 TT (E_24 (R := R) N) (drawAny TT WW) (L_24 N) (bodyOf Try.f24) := loops_all loops_24 (by
  simp only [List.forall_mem_cons, List.not_mem_nil, false_implies, implies_true, and_true]
  exact rounds_24_3 N)
theorem grun_24 {R : Type} (m_24_3 : Tl_24_3 R) (x : aden ap_24 × hden hp_24) (k : KF R) : fnrun TT (EG_24) (drawAny TT WW) (LG_24 m_24_3) true Try.f24 (instA ap_24 x.1) (instH hp_24 x.2) k = Q_24 m_24_3 x (fun y => k (Pat.inst (.str) y) (instH hp_24 x.2)) := by kernel_rfl
theorem run_24 {R : Type} (N : Nat) (x : aden ap_24 × hden hp_24) (k : KF R) : fnrun TT (E_24 (R := R) N) (drawAny TT WW) (L_24 N) true Try.f24 (instA ap_24 x.1) (instH hp_24 x.2) k = p_24 N x (fun y => k (Pat.inst (.str) y) (instH hp_24 x.2)) := (grun_24 (l_24_3 N N) x k).trans (by kernel_rfl)
theorem good_24 {R : Type} (N : Nat) : GD (X := R) Try.prog QQ 24 ap_24 hp_24 (fun (x : aden ap_24 × hden hp_24) k => p_24 N x (fun y => k (Pat.inst (.str) y) (instH hp_24 x.2))) :=
  gd_quiet (E := E_24 N) (p := fun (x : aden ap_24 × hden hp_24) κ => p_24 N x (fun y => κ (Pat.inst (.str) y))) mixed tyok (eok_24 N) Try.func24 (by kernel_rfl) (by kernel_rfl) (lok_24 N) (fun x k => run_24 N x k)

def lv_61_3 : Live := [(0, none), (3, some (.int .u8, 5)), (4, none)]
def pt_61_3 : SPat := ⟨[(0, .int .u32), (3, .sl 0), (4, .int .i64)], [some (.lst (.int .u8), 5)]⟩
def px_61_3_0 : SPat := ⟨[(3, .sl 0)], [some (.lst (.int .u8), 5)]⟩
def lo_61_3 : Exit → Live
  | .exit 0 => [(3, none)]
  | _ => []
def B_61_3 {R : Type} (N : Nat) (rec : ((Int × Unit × Int × Unit) × ((List Int) × Unit)) → Option R) (x : ((Int × Unit × Int × Unit) × ((List Int) × Unit))) (κ0 : ((Unit × Unit) × ((List Int) × Unit)) → Option R) : Option R :=
let i1777 : Int := x.1.1
let i1778 : Int := x.1.2.2.1
let l1779 : (List Int) := x.2.1
bif (decide (i1778 < 4)) then (
let i1780 : Int := remA .u32 i1777 256
let i1781 : Int := IntKind.wrap .u8 i1780
let l1782 : (List Int) := [i1781]
bif (decide ((List.length l1779 + List.length l1782) * 1 ≤ 140737488355328) && true) then (
let l1783 : (List Int) := (l1779 ++ l1782)
let i1784 : Int := quoA .u32 i1777 256
let i1785 : Int := addA .i64 i1778 1
rec ((i1784, (), i1785, ()), (l1783, ()))) else none) else (
κ0 (((), ()), (l1779, ())))
def l_61_3 {R : Type} (N : Nat) : Nat → ((Int × Unit × Int × Unit) × ((List Int) × Unit)) → (((Unit × Unit) × ((List Int) × Unit)) → Option R) → Option R
  | 0, _, _ => none
  | n + 1, x, κ0 => B_61_3 N (fun y => l_61_3 N n y κ0) x κ0
def ap_61 : List Pat := [.int .u32]
def hp_61 : List (Option (Pat × Nat)) := []
def p_61 {R : Type} (N : Nat) (x : (Int × Unit) × (Unit)) (κ0 : (List Int) → Option R) : Option R :=
let i1769 : Int := x.1.1
l_61_3 N N ((i1769, (), 0, ()), ([], ())) (fun y1786 =>
let l1787 : (List Int) := y1786.2.1
κ0 l1787)

abbrev Tl_61_3 (R : Type) : Type := ((Int × Unit × Int × Unit) × ((List Int) × Unit)) → (((Unit × Unit) × ((List Int) × Unit)) → Option R) → Option R
abbrev Tp_61 (R : Type) : Type := (Int × Unit) × (Unit) → ((List Int) → Option R) → Option R
def Q_61 {R : Type} (m_61_3 : Tl_61_3 R) (x : (Int × Unit) × (Unit)) (κ0 : (List Int) → Option R) : Option R :=
let i1769 : Int := x.1.1
m_61_3 ((i1769, (), 0, ()), ([], ())) (fun y1786 =>
let l1787 : (List Int) := y1786.2.1
κ0 l1787)
def C_61_3 {R : Type} (m_61_3 : Tl_61_3 R) (rec : ((Int × Unit × Int × Unit) × ((List Int) × Unit)) → Option R) (x : ((Int × Unit × Int × Unit) × ((List Int) × Unit))) (κ0 : ((Unit × Unit) × ((List Int) × Unit)) → Option R) : Option R :=
let i1777 : Int := x.1.1
let i1778 : Int := x.1.2.2.1
let l1779 : (List Int) := x.2.1
bif (decide (i1778 < 4)) then (
let i1780 : Int := remA .u32 i1777 256
let i1781 : Int := IntKind.wrap .u8 i1780
let l1782 : (List Int) := [i1781]
bif (decide ((List.length l1779 + List.length l1782) * 1 ≤ 140737488355328) && true) then (
let l1783 : (List Int) := (l1779 ++ l1782)
let i1784 : Int := quoA .u32 i1777 256
let i1785 : Int := addA .i64 i1778 1
rec ((i1784, (), i1785, ()), (l1783, ()))) else none) else (
κ0 (((), ()), (l1779, ())))
def EG_61 {R : Type} : Env R := Env.base QQ LN
def LG_61 {R : Type} (m_61_3 : Tl_61_3 R) : Loops R := (Loops.none).add 3 (loopBy 0 lv_61_3 pt_61_3 (fun x k => m_61_3 x (fun y => k (.exit 0) (px_61_3_0.inst y))))
def E_61 {R : Type} (N : Nat) : Env R := EG_61
theorem eok_61 {R : Type} (N : Nat) : EK Try.prog (E_61 (R := R) N) := ek_base _ _
def L_61 {R : Type} (N : Nat) : Loops R := LG_61 (l_61_3 N N)
theorem gstep_61_3 {R : Type} (m_61_3 : Tl_61_3 R) (n : Nat) (x : pt_61_3.den) (k : Exit → St → Option R) : iter 0 lv_61_3 lo_61_3 (aexec TT (EG_61) (drawAny TT WW) (LG_61 m_61_3) (loopAt 3 (bodyOf Try.f61))) (n + 1) (pt_61_3.inst x) k = C_61_3 m_61_3 (fun y => iter 0 lv_61_3 lo_61_3 (aexec TT (EG_61) (drawAny TT WW) (LG_61 m_61_3) (loopAt 3 (bodyOf Try.f61))) n (pt_61_3.inst y) k) x (fun y => k (.exit 0) (px_61_3_0.inst y)) := by kernel_rfl
theorem step_61_3 {R : Type} (N n : Nat) (x : pt_61_3.den) (k : Exit → St → Option R) : iter 0 lv_61_3 lo_61_3 (aexec TT (E_61 (R := R) N) (drawAny TT WW) (L_61 N) (loopAt 3 (bodyOf Try.f61))) (n + 1) (pt_61_3.inst x) k = B_61_3 N (fun y => iter 0 lv_61_3 lo_61_3 (aexec TT (E_61 (R := R) N) (drawAny TT WW) (L_61 N) (loopAt 3 (bodyOf Try.f61))) n (pt_61_3.inst y) k) x (fun y => k (.exit 0) (px_61_3_0.inst y)) := (gstep_61_3 (l_61_3 N N) n x k).trans (by kernel_rfl)
theorem eq_61_3 {R : Type} (N : Nat) : ∀ (n : Nat) (x : pt_61_3.den) (k : Exit → St → Option R), iter 0 lv_61_3 lo_61_3 (aexec TT (E_61 (R := R) N) (drawAny TT WW) (L_61 N) (loopAt 3 (bodyOf Try.f61))) n (pt_61_3.inst x) k = l_61_3 N n x (fun y => k (.exit 0) (px_61_3_0.inst y)) :=
  iter_eq (K := Exit → St → Option R) (ks := fun k => k) (l := fun n (x : pt_61_3.den) k => l_61_3 N n x (fun y => k (.exit 0) (px_61_3_0.inst y))) (B := fun (rec : pt_61_3.den → Option R) (x : pt_61_3.den) k => B_61_3 N rec x (fun y => k (.exit 0) (px_61_3_0.inst y))) (fun _ _ => rfl) (fun _ _ _ => rfl) (fun n x k => step_61_3 N n x k)
theorem rounds_61_3 {R : Type} (N : Nat) : Rounds 0 TT (E_61 (R := R) N) (drawAny TT WW) (L_61 N) 3 (loopAt 3 (bodyOf Try.f61)) :=
  rounds_of (p := pt_61_3) (l := fun (x : pt_61_3.den) k => l_61_3 N N x (fun y => k (.exit 0) (px_61_3_0.inst y))) (fun s k => rfl) (fun x k => eq_61_3 N N x k)
theorem loops_61 : loopsIn (bodyOf Try.f61) = [(3, loopAt 3 (bodyOf Try.f61))] := by kernel_rfl
theorem lok_61 {R : Type} (N : Nat) : LOK 0 TT (E_61 (R := R) N) (drawAny TT WW) (L_61 N) (bodyOf Try.f61) := loops_all loops_61 (by
  simp only [List.forall_mem_cons, List.not_mem_nil, false_implies, implies_true, and_true]
  exact rounds_61_3 N)
theorem grun_61 {R : Type} (m_61_3 : Tl_61_3 R) (x : aden ap_61 × hden hp_61) (k : KF R) : fnrun TT (EG_61) (drawAny TT WW) (LG_61 m_61_3) true Try.f61 (instA ap_61 x.1) (instH hp_61 x.2) k = Q_61 m_61_3 x (fun y => k (Pat.inst (.ros (.int .u8)) y) (instH hp_61 x.2)) := by kernel_rfl
theorem run_61 {R : Type} (N : Nat) (x : aden ap_61 × hden hp_61) (k : KF R) : fnrun TT (E_61 (R := R) N) (drawAny TT WW) (L_61 N) true Try.f61 (instA ap_61 x.1) (instH hp_61 x.2) k = p_61 N x (fun y => k (Pat.inst (.ros (.int .u8)) y) (instH hp_61 x.2)) := (grun_61 (l_61_3 N N) x k).trans (by kernel_rfl)
theorem good_61 {R : Type} (N : Nat) : GD (X := R) Try.prog QQ 61 ap_61 hp_61 (fun (x : aden ap_61 × hden hp_61) k => p_61 N x (fun y => k (Pat.inst (.ros (.int .u8)) y) (instH hp_61 x.2))) :=
  gd_quiet (E := E_61 N) (p := fun (x : aden ap_61 × hden hp_61) κ => p_61 N x (fun y => κ (Pat.inst (.ros (.int .u8)) y))) mixed tyok (eok_61 N) Try.func61 (by kernel_rfl) (by kernel_rfl) (lok_61 N) (fun x k => run_61 N x k)

def lv_53_1 : Live := [(0, none), (1, none)]
def pt_53_1 : SPat := ⟨[(0, .str), (1, .int .i64)], []⟩
def px_53_1_0 : SPat := ⟨[(0, .str)], []⟩
def lo_53_1 : Exit → Live
  | .exit 0 => [(0, none)]
  | _ => []
def B_53_1 {R : Type} (N : Nat) (rec : ((ByteArray × Int × Unit) × (Unit)) → Option R) (x : ((ByteArray × Int × Unit) × (Unit))) (κ0 : ((ByteArray × Unit) × (Unit)) → Option R) : Option R :=
let s1807 : ByteArray := x.1.1
let i1808 : Int := x.1.2.1
let i1809 : Int := ((ByteArray.size s1807 : Nat) : Int)
bif (decide (i1809 < i1808)) then (
bif decide (ByteArray.size s1807 + ByteArray.size (⟨#[0]⟩) ≤ maxI64) then (
let s1810 : ByteArray := (s1807 ++ ⟨#[0]⟩)
rec ((s1810, i1808, ()), ())) else none) else (
κ0 ((s1807, ()), ()))
def l_53_1 {R : Type} (N : Nat) : Nat → ((ByteArray × Int × Unit) × (Unit)) → (((ByteArray × Unit) × (Unit)) → Option R) → Option R
  | 0, _, _ => none
  | n + 1, x, κ0 => B_53_1 N (fun y => l_53_1 N n y κ0) x κ0
def ap_53 : List Pat := [.str, .int .i64]
def hp_53 : List (Option (Pat × Nat)) := []
def p_53 {R : Type} (N : Nat) (x : (ByteArray × Int × Unit) × (Unit)) (κ0 : ByteArray → Option R) : Option R :=
let s1805 : ByteArray := x.1.1
let i1806 : Int := x.1.2.1
l_53_1 N N ((s1805, i1806, ()), ()) (fun y1811 =>
let s1812 : ByteArray := y1811.1.1
κ0 s1812)

abbrev Tl_53_1 (R : Type) : Type := ((ByteArray × Int × Unit) × (Unit)) → (((ByteArray × Unit) × (Unit)) → Option R) → Option R
abbrev Tp_53 (R : Type) : Type := (ByteArray × Int × Unit) × (Unit) → (ByteArray → Option R) → Option R
def Q_53 {R : Type} (m_53_1 : Tl_53_1 R) (x : (ByteArray × Int × Unit) × (Unit)) (κ0 : ByteArray → Option R) : Option R :=
let s1805 : ByteArray := x.1.1
let i1806 : Int := x.1.2.1
m_53_1 ((s1805, i1806, ()), ()) (fun y1811 =>
let s1812 : ByteArray := y1811.1.1
κ0 s1812)
def C_53_1 {R : Type} (m_53_1 : Tl_53_1 R) (rec : ((ByteArray × Int × Unit) × (Unit)) → Option R) (x : ((ByteArray × Int × Unit) × (Unit))) (κ0 : ((ByteArray × Unit) × (Unit)) → Option R) : Option R :=
let s1807 : ByteArray := x.1.1
let i1808 : Int := x.1.2.1
let i1809 : Int := ((ByteArray.size s1807 : Nat) : Int)
bif (decide (i1809 < i1808)) then (
bif decide (ByteArray.size s1807 + ByteArray.size (⟨#[0]⟩) ≤ maxI64) then (
let s1810 : ByteArray := (s1807 ++ ⟨#[0]⟩)
rec ((s1810, i1808, ()), ())) else none) else (
κ0 ((s1807, ()), ()))
def EG_53 {R : Type} : Env R := Env.base QQ LN
def LG_53 {R : Type} (m_53_1 : Tl_53_1 R) : Loops R := (Loops.none).add 1 (loopBy 0 lv_53_1 pt_53_1 (fun x k => m_53_1 x (fun y => k (.exit 0) (px_53_1_0.inst y))))
def E_53 {R : Type} (N : Nat) : Env R := EG_53
theorem eok_53 {R : Type} (N : Nat) : EK Try.prog (E_53 (R := R) N) := ek_base _ _
def L_53 {R : Type} (N : Nat) : Loops R := LG_53 (l_53_1 N N)
theorem gstep_53_1 {R : Type} (m_53_1 : Tl_53_1 R) (n : Nat) (x : pt_53_1.den) (k : Exit → St → Option R) : iter 0 lv_53_1 lo_53_1 (aexec TT (EG_53) (drawAny TT WW) (LG_53 m_53_1) (loopAt 1 (bodyOf Try.f53))) (n + 1) (pt_53_1.inst x) k = C_53_1 m_53_1 (fun y => iter 0 lv_53_1 lo_53_1 (aexec TT (EG_53) (drawAny TT WW) (LG_53 m_53_1) (loopAt 1 (bodyOf Try.f53))) n (pt_53_1.inst y) k) x (fun y => k (.exit 0) (px_53_1_0.inst y)) := by kernel_rfl
theorem step_53_1 {R : Type} (N n : Nat) (x : pt_53_1.den) (k : Exit → St → Option R) : iter 0 lv_53_1 lo_53_1 (aexec TT (E_53 (R := R) N) (drawAny TT WW) (L_53 N) (loopAt 1 (bodyOf Try.f53))) (n + 1) (pt_53_1.inst x) k = B_53_1 N (fun y => iter 0 lv_53_1 lo_53_1 (aexec TT (E_53 (R := R) N) (drawAny TT WW) (L_53 N) (loopAt 1 (bodyOf Try.f53))) n (pt_53_1.inst y) k) x (fun y => k (.exit 0) (px_53_1_0.inst y)) := (gstep_53_1 (l_53_1 N N) n x k).trans (by kernel_rfl)
theorem eq_53_1 {R : Type} (N : Nat) : ∀ (n : Nat) (x : pt_53_1.den) (k : Exit → St → Option R), iter 0 lv_53_1 lo_53_1 (aexec TT (E_53 (R := R) N) (drawAny TT WW) (L_53 N) (loopAt 1 (bodyOf Try.f53))) n (pt_53_1.inst x) k = l_53_1 N n x (fun y => k (.exit 0) (px_53_1_0.inst y)) :=
  iter_eq (K := Exit → St → Option R) (ks := fun k => k) (l := fun n (x : pt_53_1.den) k => l_53_1 N n x (fun y => k (.exit 0) (px_53_1_0.inst y))) (B := fun (rec : pt_53_1.den → Option R) (x : pt_53_1.den) k => B_53_1 N rec x (fun y => k (.exit 0) (px_53_1_0.inst y))) (fun _ _ => rfl) (fun _ _ _ => rfl) (fun n x k => step_53_1 N n x k)
theorem rounds_53_1 {R : Type} (N : Nat) : Rounds 0 TT (E_53 (R := R) N) (drawAny TT WW) (L_53 N) 1 (loopAt 1 (bodyOf Try.f53)) :=
  rounds_of (p := pt_53_1) (l := fun (x : pt_53_1.den) k => l_53_1 N N x (fun y => k (.exit 0) (px_53_1_0.inst y))) (fun s k => rfl) (fun x k => eq_53_1 N N x k)
theorem loops_53 : loopsIn (bodyOf Try.f53) = [(1, loopAt 1 (bodyOf Try.f53))] := by kernel_rfl
theorem lok_53 {R : Type} (N : Nat) : LOK 0 TT (E_53 (R := R) N) (drawAny TT WW) (L_53 N) (bodyOf Try.f53) := loops_all loops_53 (by
  simp only [List.forall_mem_cons, List.not_mem_nil, false_implies, implies_true, and_true]
  exact rounds_53_1 N)
theorem grun_53 {R : Type} (m_53_1 : Tl_53_1 R) (x : aden ap_53 × hden hp_53) (k : KF R) : fnrun TT (EG_53) (drawAny TT WW) (LG_53 m_53_1) true Try.f53 (instA ap_53 x.1) (instH hp_53 x.2) k = Q_53 m_53_1 x (fun y => k (Pat.inst (.str) y) (instH hp_53 x.2)) := by kernel_rfl
theorem run_53 {R : Type} (N : Nat) (x : aden ap_53 × hden hp_53) (k : KF R) : fnrun TT (E_53 (R := R) N) (drawAny TT WW) (L_53 N) true Try.f53 (instA ap_53 x.1) (instH hp_53 x.2) k = p_53 N x (fun y => k (Pat.inst (.str) y) (instH hp_53 x.2)) := (grun_53 (l_53_1 N N) x k).trans (by kernel_rfl)
theorem good_53 {R : Type} (N : Nat) : GD (X := R) Try.prog QQ 53 ap_53 hp_53 (fun (x : aden ap_53 × hden hp_53) k => p_53 N x (fun y => k (Pat.inst (.str) y) (instH hp_53 x.2))) :=
  gd_quiet (E := E_53 N) (p := fun (x : aden ap_53 × hden hp_53) κ => p_53 N x (fun y => κ (Pat.inst (.str) y))) mixed tyok (eok_53 N) Try.func53 (by kernel_rfl) (by kernel_rfl) (lok_53 N) (fun x k => run_53 N x k)

def lv_49_9 : Live := [(0, none), (1, none), (6, none), (7, none), (8, none), (9, none)]
def pt_49_9 : SPat := ⟨[(0, .sl 0), (1, .int .i64), (6, .sl 1), (7, .int .i64), (8, .int .u64), (9, .int .i64)], [some (.lst (.int .u8), 5), some (.lst (.int .u64), 22)]⟩
def px_49_9_0 : SPat := ⟨[(0, .sl 0), (1, .int .i64), (6, .sl 1), (7, .int .i64), (8, .int .u64)], [some (.lst (.int .u8), 5), some (.lst (.int .u64), 22)]⟩
def lo_49_9 : Exit → Live
  | .exit 2 => [(0, none), (1, none), (6, none), (7, none), (8, none)]
  | _ => []
def B_49_9 {R : Type} (N : Nat) (rec : ((Unit × Int × Unit × Int × Int × Int × Unit) × ((List Int) × (List Int) × Unit)) → Option R) (x : ((Unit × Int × Unit × Int × Int × Int × Unit) × ((List Int) × (List Int) × Unit))) (κ0 : ((Unit × Int × Unit × Int × Int × Unit) × ((List Int) × (List Int) × Unit)) → Option R) : Option R :=
let i1866 : Int := x.1.2.1
let i1867 : Int := x.1.2.2.2.1
let i1868 : Int := x.1.2.2.2.2.1
let i1869 : Int := x.1.2.2.2.2.2.1
let l1870 : (List Int) := x.2.1
let l1871 : (List Int) := x.2.2.1
bif (decide (i1869 ≥ 0)) then (
let i1872 : Int := mulA .u64 256 i1868
let i1873 : Int := addA .i64 i1867 i1869
bif decide (0 ≤ i1873) then (
bif decide (i1873 < ((List.length l1870) : Int)) then (
let i1874 : Int := (List.getD l1870 ((Int.toNat i1873)) (Sch.zero (.int .u8)))
let i1875 : Int := IntKind.wrap .u64 i1874
let i1876 : Int := addA .u64 i1872 i1875
let i1877 : Int := subA .i64 i1869 1
rec (((), i1866, (), i1867, i1876, i1877, ()), (l1870, l1871, ()))) else none) else none) else (
κ0 (((), i1866, (), i1867, i1868, ()), (l1870, l1871, ())))
def l_49_9 {R : Type} (N : Nat) : Nat → ((Unit × Int × Unit × Int × Int × Int × Unit) × ((List Int) × (List Int) × Unit)) → (((Unit × Int × Unit × Int × Int × Unit) × ((List Int) × (List Int) × Unit)) → Option R) → Option R
  | 0, _, _ => none
  | n + 1, x, κ0 => B_49_9 N (fun y => l_49_9 N n y κ0) x κ0
def lv_49_5 : Live := [(0, none), (1, none), (6, some (.int .u64, 22)), (7, none)]
def pt_49_5 : SPat := ⟨[(0, .sl 0), (1, .int .i64), (6, .sl 1), (7, .int .i64)], [some (.lst (.int .u8), 5), some (.lst (.int .u64), 22)]⟩
def px_49_5_0 : SPat := ⟨[(6, .sl 1)], [some (.lst (.int .u8), 5), some (.lst (.int .u64), 22)]⟩
def lo_49_5 : Exit → Live
  | .exit 0 => [(6, none)]
  | _ => []
def B_49_5 {R : Type} (N : Nat) (rec : ((Unit × Int × Unit × Int × Unit) × ((List Int) × (List Int) × Unit)) → Option R) (x : ((Unit × Int × Unit × Int × Unit) × ((List Int) × (List Int) × Unit))) (κ0 : ((Unit × Unit) × ((List Int) × (List Int) × Unit)) → Option R) : Option R :=
let i1860 : Int := x.1.2.1
let i1861 : Int := x.1.2.2.2.1
let l1862 : (List Int) := x.2.1
let l1863 : (List Int) := x.2.2.1
let i1864 : Int := (((List.length l1862) : Nat) : Int)
bif (decide (i1861 < i1864)) then (
let i1865 : Int := subA .i64 i1860 1
l_49_9 N N (((), i1860, (), i1861, 0, i1865, ()), (l1862, l1863, ())) (fun y1878 =>
let i1879 : Int := y1878.1.2.1
let i1880 : Int := y1878.1.2.2.2.1
let i1881 : Int := y1878.1.2.2.2.2.1
let l1882 : (List Int) := y1878.2.1
let l1883 : (List Int) := y1878.2.2.1
let l1884 : (List Int) := [i1881]
bif (decide ((List.length l1883 + List.length l1884) * 8 ≤ 140737488355328) && true) then (
let l1885 : (List Int) := (l1883 ++ l1884)
let i1886 : Int := addA .i64 i1880 i1879
rec (((), i1879, (), i1886, ()), (l1882, l1885, ()))) else none)) else (
κ0 (((), ()), (l1862, l1863, ())))
def l_49_5 {R : Type} (N : Nat) : Nat → ((Unit × Int × Unit × Int × Unit) × ((List Int) × (List Int) × Unit)) → (((Unit × Unit) × ((List Int) × (List Int) × Unit)) → Option R) → Option R
  | 0, _, _ => none
  | n + 1, x, κ0 => B_49_5 N (fun y => l_49_5 N n y κ0) x κ0
def ap_49 : List Pat := [.sl 0, .int .i64]
def hp_49 : List (Option (Pat × Nat)) := [some (.lst (.int .u8), 5)]
def p_49 {R : Type} (N : Nat) (x : (Unit × Int × Unit) × ((List Int) × Unit)) (κ0 : (((List Int) × (Bool × Unit)) × ((List Int) × Unit)) → Option R) : Option R :=
let i1833 : Int := x.1.2.1
let l1834 : (List Int) := x.2.1
let i1835 : Int := (((List.length l1834) : Nat) : Int)
bif decide (i1833 = 0) then none else (
let i1836 : Int := remA .i64 i1835 i1833
bif (i1836 != 0) then (
κ0 (([], (false, ())), (l1834, ()))) else (
l_49_5 N N (((), i1833, (), 0, ()), (l1834, [], ())) (fun y1887 =>
let l1888 : (List Int) := y1887.2.1
let l1889 : (List Int) := y1887.2.2.1
κ0 ((l1889, (true, ())), (l1888, ())))))

abbrev Tl_49_9 (R : Type) : Type := ((Unit × Int × Unit × Int × Int × Int × Unit) × ((List Int) × (List Int) × Unit)) → (((Unit × Int × Unit × Int × Int × Unit) × ((List Int) × (List Int) × Unit)) → Option R) → Option R
abbrev Tl_49_5 (R : Type) : Type := ((Unit × Int × Unit × Int × Unit) × ((List Int) × (List Int) × Unit)) → (((Unit × Unit) × ((List Int) × (List Int) × Unit)) → Option R) → Option R
abbrev Tp_49 (R : Type) : Type := (Unit × Int × Unit) × ((List Int) × Unit) → ((((List Int) × (Bool × Unit)) × ((List Int) × Unit)) → Option R) → Option R
def Q_49 {R : Type} (m_49_9 : Tl_49_9 R) (m_49_5 : Tl_49_5 R) (x : (Unit × Int × Unit) × ((List Int) × Unit)) (κ0 : (((List Int) × (Bool × Unit)) × ((List Int) × Unit)) → Option R) : Option R :=
let i1833 : Int := x.1.2.1
let l1834 : (List Int) := x.2.1
let i1835 : Int := (((List.length l1834) : Nat) : Int)
bif decide (i1833 = 0) then none else (
let i1836 : Int := remA .i64 i1835 i1833
bif (i1836 != 0) then (
κ0 (([], (false, ())), (l1834, ()))) else (
m_49_5 (((), i1833, (), 0, ()), (l1834, [], ())) (fun y1887 =>
let l1888 : (List Int) := y1887.2.1
let l1889 : (List Int) := y1887.2.2.1
κ0 ((l1889, (true, ())), (l1888, ())))))
def C_49_9 {R : Type} (m_49_9 : Tl_49_9 R) (m_49_5 : Tl_49_5 R) (rec : ((Unit × Int × Unit × Int × Int × Int × Unit) × ((List Int) × (List Int) × Unit)) → Option R) (x : ((Unit × Int × Unit × Int × Int × Int × Unit) × ((List Int) × (List Int) × Unit))) (κ0 : ((Unit × Int × Unit × Int × Int × Unit) × ((List Int) × (List Int) × Unit)) → Option R) : Option R :=
let i1866 : Int := x.1.2.1
let i1867 : Int := x.1.2.2.2.1
let i1868 : Int := x.1.2.2.2.2.1
let i1869 : Int := x.1.2.2.2.2.2.1
let l1870 : (List Int) := x.2.1
let l1871 : (List Int) := x.2.2.1
bif (decide (i1869 ≥ 0)) then (
let i1872 : Int := mulA .u64 256 i1868
let i1873 : Int := addA .i64 i1867 i1869
bif decide (0 ≤ i1873) then (
bif decide (i1873 < ((List.length l1870) : Int)) then (
let i1874 : Int := (List.getD l1870 ((Int.toNat i1873)) (Sch.zero (.int .u8)))
let i1875 : Int := IntKind.wrap .u64 i1874
let i1876 : Int := addA .u64 i1872 i1875
let i1877 : Int := subA .i64 i1869 1
rec (((), i1866, (), i1867, i1876, i1877, ()), (l1870, l1871, ()))) else none) else none) else (
κ0 (((), i1866, (), i1867, i1868, ()), (l1870, l1871, ())))
def C_49_5 {R : Type} (m_49_9 : Tl_49_9 R) (m_49_5 : Tl_49_5 R) (rec : ((Unit × Int × Unit × Int × Unit) × ((List Int) × (List Int) × Unit)) → Option R) (x : ((Unit × Int × Unit × Int × Unit) × ((List Int) × (List Int) × Unit))) (κ0 : ((Unit × Unit) × ((List Int) × (List Int) × Unit)) → Option R) : Option R :=
let i1860 : Int := x.1.2.1
let i1861 : Int := x.1.2.2.2.1
let l1862 : (List Int) := x.2.1
let l1863 : (List Int) := x.2.2.1
let i1864 : Int := (((List.length l1862) : Nat) : Int)
bif (decide (i1861 < i1864)) then (
let i1865 : Int := subA .i64 i1860 1
m_49_9 (((), i1860, (), i1861, 0, i1865, ()), (l1862, l1863, ())) (fun y1878 =>
let i1879 : Int := y1878.1.2.1
let i1880 : Int := y1878.1.2.2.2.1
let i1881 : Int := y1878.1.2.2.2.2.1
let l1882 : (List Int) := y1878.2.1
let l1883 : (List Int) := y1878.2.2.1
let l1884 : (List Int) := [i1881]
bif (decide ((List.length l1883 + List.length l1884) * 8 ≤ 140737488355328) && true) then (
let l1885 : (List Int) := (l1883 ++ l1884)
let i1886 : Int := addA .i64 i1880 i1879
rec (((), i1879, (), i1886, ()), (l1882, l1885, ()))) else none)) else (
κ0 (((), ()), (l1862, l1863, ())))
def EG_49 {R : Type} : Env R := Env.base QQ LN
def LG_49 {R : Type} (m_49_9 : Tl_49_9 R) (m_49_5 : Tl_49_5 R) : Loops R := ((Loops.none).add 9 (loopBy 1 lv_49_9 pt_49_9 (fun x k => m_49_9 x (fun y => k (.exit 2) (px_49_9_0.inst y))))).add 5 (loopBy 1 lv_49_5 pt_49_5 (fun x k => m_49_5 x (fun y => k (.exit 0) (px_49_5_0.inst y))))
def E_49 {R : Type} (N : Nat) : Env R := EG_49
theorem eok_49 {R : Type} (N : Nat) : EK Try.prog (E_49 (R := R) N) := ek_base _ _
def L_49 {R : Type} (N : Nat) : Loops R := LG_49 (l_49_9 N N) (l_49_5 N N)
theorem gstep_49_9 {R : Type} (m_49_9 : Tl_49_9 R) (m_49_5 : Tl_49_5 R) (n : Nat) (x : pt_49_9.den) (k : Exit → St → Option R) : iter 1 lv_49_9 lo_49_9 (aexec TT (EG_49) (drawAny TT WW) (LG_49 m_49_9 m_49_5) (loopAt 9 (bodyOf Try.f49))) (n + 1) (pt_49_9.inst x) k = C_49_9 m_49_9 m_49_5 (fun y => iter 1 lv_49_9 lo_49_9 (aexec TT (EG_49) (drawAny TT WW) (LG_49 m_49_9 m_49_5) (loopAt 9 (bodyOf Try.f49))) n (pt_49_9.inst y) k) x (fun y => k (.exit 2) (px_49_9_0.inst y)) := by kernel_rfl
theorem step_49_9 {R : Type} (N n : Nat) (x : pt_49_9.den) (k : Exit → St → Option R) : iter 1 lv_49_9 lo_49_9 (aexec TT (E_49 (R := R) N) (drawAny TT WW) (L_49 N) (loopAt 9 (bodyOf Try.f49))) (n + 1) (pt_49_9.inst x) k = B_49_9 N (fun y => iter 1 lv_49_9 lo_49_9 (aexec TT (E_49 (R := R) N) (drawAny TT WW) (L_49 N) (loopAt 9 (bodyOf Try.f49))) n (pt_49_9.inst y) k) x (fun y => k (.exit 2) (px_49_9_0.inst y)) := (gstep_49_9 (l_49_9 N N) (l_49_5 N N) n x k).trans (by kernel_rfl)
theorem eq_49_9 {R : Type} (N : Nat) : ∀ (n : Nat) (x : pt_49_9.den) (k : Exit → St → Option R), iter 1 lv_49_9 lo_49_9 (aexec TT (E_49 (R := R) N) (drawAny TT WW) (L_49 N) (loopAt 9 (bodyOf Try.f49))) n (pt_49_9.inst x) k = l_49_9 N n x (fun y => k (.exit 2) (px_49_9_0.inst y)) :=
  iter_eq (K := Exit → St → Option R) (ks := fun k => k) (l := fun n (x : pt_49_9.den) k => l_49_9 N n x (fun y => k (.exit 2) (px_49_9_0.inst y))) (B := fun (rec : pt_49_9.den → Option R) (x : pt_49_9.den) k => B_49_9 N rec x (fun y => k (.exit 2) (px_49_9_0.inst y))) (fun _ _ => rfl) (fun _ _ _ => rfl) (fun n x k => step_49_9 N n x k)
theorem rounds_49_9 {R : Type} (N : Nat) : Rounds 1 TT (E_49 (R := R) N) (drawAny TT WW) (L_49 N) 9 (loopAt 9 (bodyOf Try.f49)) :=
  rounds_of (p := pt_49_9) (l := fun (x : pt_49_9.den) k => l_49_9 N N x (fun y => k (.exit 2) (px_49_9_0.inst y))) (fun s k => rfl) (fun x k => eq_49_9 N N x k)
theorem gstep_49_5 {R : Type} (m_49_9 : Tl_49_9 R) (m_49_5 : Tl_49_5 R) (n : Nat) (x : pt_49_5.den) (k : Exit → St → Option R) : iter 1 lv_49_5 lo_49_5 (aexec TT (EG_49) (drawAny TT WW) (LG_49 m_49_9 m_49_5) (loopAt 5 (bodyOf Try.f49))) (n + 1) (pt_49_5.inst x) k = C_49_5 m_49_9 m_49_5 (fun y => iter 1 lv_49_5 lo_49_5 (aexec TT (EG_49) (drawAny TT WW) (LG_49 m_49_9 m_49_5) (loopAt 5 (bodyOf Try.f49))) n (pt_49_5.inst y) k) x (fun y => k (.exit 0) (px_49_5_0.inst y)) := by kernel_rfl
theorem step_49_5 {R : Type} (N n : Nat) (x : pt_49_5.den) (k : Exit → St → Option R) : iter 1 lv_49_5 lo_49_5 (aexec TT (E_49 (R := R) N) (drawAny TT WW) (L_49 N) (loopAt 5 (bodyOf Try.f49))) (n + 1) (pt_49_5.inst x) k = B_49_5 N (fun y => iter 1 lv_49_5 lo_49_5 (aexec TT (E_49 (R := R) N) (drawAny TT WW) (L_49 N) (loopAt 5 (bodyOf Try.f49))) n (pt_49_5.inst y) k) x (fun y => k (.exit 0) (px_49_5_0.inst y)) := (gstep_49_5 (l_49_9 N N) (l_49_5 N N) n x k).trans (by kernel_rfl)
theorem eq_49_5 {R : Type} (N : Nat) : ∀ (n : Nat) (x : pt_49_5.den) (k : Exit → St → Option R), iter 1 lv_49_5 lo_49_5 (aexec TT (E_49 (R := R) N) (drawAny TT WW) (L_49 N) (loopAt 5 (bodyOf Try.f49))) n (pt_49_5.inst x) k = l_49_5 N n x (fun y => k (.exit 0) (px_49_5_0.inst y)) :=
  iter_eq (K := Exit → St → Option R) (ks := fun k => k) (l := fun n (x : pt_49_5.den) k => l_49_5 N n x (fun y => k (.exit 0) (px_49_5_0.inst y))) (B := fun (rec : pt_49_5.den → Option R) (x : pt_49_5.den) k => B_49_5 N rec x (fun y => k (.exit 0) (px_49_5_0.inst y))) (fun _ _ => rfl) (fun _ _ _ => rfl) (fun n x k => step_49_5 N n x k)
theorem rounds_49_5 {R : Type} (N : Nat) : Rounds 1 TT (E_49 (R := R) N) (drawAny TT WW) (L_49 N) 5 (loopAt 5 (bodyOf Try.f49)) :=
  rounds_of (p := pt_49_5) (l := fun (x : pt_49_5.den) k => l_49_5 N N x (fun y => k (.exit 0) (px_49_5_0.inst y))) (fun s k => rfl) (fun x k => eq_49_5 N N x k)
theorem loops_49 : loopsIn (bodyOf Try.f49) = [(5, loopAt 5 (bodyOf Try.f49)), (9, loopAt 9 (bodyOf Try.f49))] := by kernel_rfl
theorem lok_49 {R : Type} (N : Nat) : LOK 1 TT (E_49 (R := R) N) (drawAny TT WW) (L_49 N) (bodyOf Try.f49) := loops_all loops_49 (by
  simp only [List.forall_mem_cons, List.not_mem_nil, false_implies, implies_true, and_true]
  exact ⟨rounds_49_5 N, rounds_49_9 N⟩)
theorem grun_49 {R : Type} (m_49_9 : Tl_49_9 R) (m_49_5 : Tl_49_5 R) (x : aden ap_49 × hden hp_49) (k : KF R) : fnrun TT (EG_49) (drawAny TT WW) (LG_49 m_49_9 m_49_5) true Try.f49 (instA ap_49 x.1) (instH hp_49 x.2) k = Q_49 m_49_9 m_49_5 x (fun y => k (Pat.inst (.tup (.fcons (.ros (.int .u64)) (.fcons (.bool) (.fnil)))) y.1) (instH [some (.lst (.int .u8), 5)] y.2)) := by kernel_rfl
theorem run_49 {R : Type} (N : Nat) (x : aden ap_49 × hden hp_49) (k : KF R) : fnrun TT (E_49 (R := R) N) (drawAny TT WW) (L_49 N) true Try.f49 (instA ap_49 x.1) (instH hp_49 x.2) k = p_49 N x (fun y => k (Pat.inst (.tup (.fcons (.ros (.int .u64)) (.fcons (.bool) (.fnil)))) y.1) (instH [some (.lst (.int .u8), 5)] y.2)) := (grun_49 (l_49_9 N N) (l_49_5 N N) x k).trans (by kernel_rfl)
theorem good_49 {R : Type} (N : Nat) : GD (X := R) Try.prog QQ 49 ap_49 hp_49 (fun (x : aden ap_49 × hden hp_49) k => p_49 N x (fun y => k (Pat.inst (.tup (.fcons (.ros (.int .u64)) (.fcons (.bool) (.fnil)))) y.1) (instH [some (.lst (.int .u8), 5)] y.2))) :=
  gd_loud (E := E_49 N) (p := fun (x : aden ap_49 × hden hp_49) k => p_49 N x (fun y => k (Pat.inst (.tup (.fcons (.ros (.int .u64)) (.fcons (.bool) (.fnil)))) y.1) (instH [some (.lst (.int .u8), 5)] y.2))) mixed tyok (eok_49 N) Try.func49 (by kernel_rfl) (by kernel_rfl) (by kernel_rfl) (lok_49 N) (fun x k => run_49 N x k)

def lv_20_11 : Live := [(2, none), (4, none), (5, none), (6, none), (7, none), (8, none)]
def pt_20_11 : SPat := ⟨[(2, .ptr 0 []), (4, .ptr 1 []), (5, .str), (6, .str), (7, .int .i64), (8, .int .i64)], [some (.vec (.int .i64) 16, 38), some (.vec (.int .i64) 16, 38)]⟩
def px_20_11_0 : SPat := ⟨[(2, .ptr 0 []), (4, .ptr 1 []), (5, .str), (6, .str), (7, .int .i64)], [some (.vec (.int .i64) 16, 38), some (.vec (.int .i64) 16, 38)]⟩
def lo_20_11 : Exit → Live
  | .exit 2 => [(2, none), (4, none), (5, none), (6, none), (7, none)]
  | _ => []
def B_20_11 {R : Type} (N : Nat) (rec : ((Unit × Unit × ByteArray × ByteArray × Int × Int × Unit) × ((Nat → Int) × (Nat → Int) × Unit)) → Option R) (x : ((Unit × Unit × ByteArray × ByteArray × Int × Int × Unit) × ((Nat → Int) × (Nat → Int) × Unit))) (κ0 : ((Unit × Unit × ByteArray × ByteArray × Int × Unit) × ((Nat → Int) × (Nat → Int) × Unit)) → Option R) : Option R :=
let s1937 : ByteArray := x.1.2.2.1
let s1938 : ByteArray := x.1.2.2.2.1
let i1939 : Int := x.1.2.2.2.2.1
let i1940 : Int := x.1.2.2.2.2.2.1
let a1941 : (Nat → Int) := x.2.1
let a1942 : (Nat → Int) := x.2.2.1
bif (decide (i1940 < 16)) then (
bif decide (0 ≤ i1940) then (
bif decide (i1940 < (ByteArray.size s1938 : Int)) then (
let i1943 : Int := byteAt s1938 ((Int.toNat i1940))
bif decide (0 ≤ i1939) then (
bif decide (i1939 < (ByteArray.size s1937 : Int)) then (
let i1944 : Int := byteAt s1937 ((Int.toNat i1939))
bif (i1943 == i1944) then (
bif decide (0 ≤ i1939) then (
bif decide (i1939 < (16 : Int)) then (
let a1945 : (Nat → Int) := (upd a1942 ((Int.toNat i1939)) i1940)
let i1946 : Int := addA .i64 i1940 1
rec (((), (), s1937, s1938, i1939, i1946, ()), (a1941, a1945, ()))) else none) else none) else (
let i1947 : Int := addA .i64 i1940 1
rec (((), (), s1937, s1938, i1939, i1947, ()), (a1941, a1942, ())))) else none) else none) else none) else none) else (
κ0 (((), (), s1937, s1938, i1939, ()), (a1941, a1942, ())))
def l_20_11 {R : Type} (N : Nat) : Nat → ((Unit × Unit × ByteArray × ByteArray × Int × Int × Unit) × ((Nat → Int) × (Nat → Int) × Unit)) → (((Unit × Unit × ByteArray × ByteArray × Int × Unit) × ((Nat → Int) × (Nat → Int) × Unit)) → Option R) → Option R
  | 0, _, _ => none
  | n + 1, x, κ0 => B_20_11 N (fun y => l_20_11 N n y κ0) x κ0
def lv_20_8 : Live := [(2, none), (4, none), (5, none), (6, none), (7, none)]
def pt_20_8 : SPat := ⟨[(2, .ptr 0 []), (4, .ptr 1 []), (5, .str), (6, .str), (7, .int .i64)], [some (.vec (.int .i64) 16, 38), some (.vec (.int .i64) 16, 38)]⟩
def px_20_8_0 : SPat := ⟨[(2, .ptr 0 []), (4, .ptr 1 [])], [some (.vec (.int .i64) 16, 38), some (.vec (.int .i64) 16, 38)]⟩
def lo_20_8 : Exit → Live
  | .exit 0 => [(2, none), (4, none)]
  | _ => []
def B_20_8 {R : Type} (N : Nat) (rec : ((Unit × Unit × ByteArray × ByteArray × Int × Unit) × ((Nat → Int) × (Nat → Int) × Unit)) → Option R) (x : ((Unit × Unit × ByteArray × ByteArray × Int × Unit) × ((Nat → Int) × (Nat → Int) × Unit))) (κ0 : ((Unit × Unit × Unit) × ((Nat → Int) × (Nat → Int) × Unit)) → Option R) : Option R :=
let s1932 : ByteArray := x.1.2.2.1
let s1933 : ByteArray := x.1.2.2.2.1
let i1934 : Int := x.1.2.2.2.2.1
let a1935 : (Nat → Int) := x.2.1
let a1936 : (Nat → Int) := x.2.2.1
bif (decide (i1934 < 16)) then (
l_20_11 N N (((), (), s1932, s1933, i1934, 0, ()), (a1935, a1936, ())) (fun y1948 =>
let s1949 : ByteArray := y1948.1.2.2.1
let s1950 : ByteArray := y1948.1.2.2.2.1
let i1951 : Int := y1948.1.2.2.2.2.1
let a1952 : (Nat → Int) := y1948.2.1
let a1953 : (Nat → Int) := y1948.2.2.1
let i1954 : Int := addA .i64 i1951 1
rec (((), (), s1949, s1950, i1954, ()), (a1952, a1953, ())))) else (
κ0 (((), (), ()), (a1935, a1936, ())))
def l_20_8 {R : Type} (N : Nat) : Nat → ((Unit × Unit × ByteArray × ByteArray × Int × Unit) × ((Nat → Int) × (Nat → Int) × Unit)) → (((Unit × Unit × Unit) × ((Nat → Int) × (Nat → Int) × Unit)) → Option R) → Option R
  | 0, _, _ => none
  | n + 1, x, κ0 => B_20_8 N (fun y => l_20_8 N n y κ0) x κ0
def ap_20 : List Pat := [.int .i64]
def hp_20 : List (Option (Pat × Nat)) := []
def p_20 {R : Type} (N : Nat) (x : (Int × Unit) × (Unit)) (κ0 : (Nat → Int) → Option R) : Option R :=
let i1926 : Int := x.1.1
let l1927 : (List ByteArray) := [⟨#[48, 49, 50, 51, 52, 53, 54, 55, 56, 57, 97, 98, 99, 100, 101, 102]⟩, ⟨#[101, 97, 52, 56, 57, 102, 100, 54, 49, 99, 48, 50, 98, 55, 53, 51]⟩, ⟨#[98, 56, 99, 48, 53, 50, 102, 100, 97, 101, 51, 54, 55, 49, 57, 52]⟩, ⟨#[55, 57, 51, 49, 100, 99, 98, 101, 50, 54, 53, 97, 52, 48, 102, 56]⟩, ⟨#[57, 48, 53, 55, 50, 52, 97, 102, 101, 49, 98, 99, 54, 56, 51, 100]⟩, ⟨#[50, 99, 54, 97, 48, 98, 56, 51, 52, 100, 55, 53, 102, 101, 49, 57]⟩, ⟨#[99, 53, 49, 102, 101, 100, 52, 97, 48, 55, 54, 51, 57, 50, 56, 98]⟩, ⟨#[100, 98, 55, 101, 99, 49, 51, 57, 53, 48, 102, 52, 56, 54, 50, 97]⟩, ⟨#[54, 102, 101, 57, 98, 51, 48, 56, 99, 50, 100, 55, 49, 52, 97, 53]⟩, ⟨#[97, 50, 56, 52, 55, 54, 49, 53, 102, 98, 57, 101, 51, 99, 100, 48]⟩]
bif (decide (i1926 < 0)) then (
let a1928 : (Nat → Int) := (Sch.zero (.arr 16 (.int .i64)))
κ0 a1928) else (
let i1929 : Int := remA .i64 i1926 10
bif decide (0 ≤ i1929) then (
bif decide (i1929 < ((List.length l1927) : Int)) then (
let s1930 : ByteArray := (List.getD l1927 ((Int.toNat i1929)) (Sch.zero (.str)))
bif decide (0 < ((List.length l1927) : Int)) then (
let s1931 : ByteArray := (List.getD l1927 0 (Sch.zero (.str)))
l_20_8 N N (((), (), s1930, s1931, 0, ()), ((Sch.zero (.arr 16 (.int .i64))), (Sch.zero (.arr 16 (.int .i64))), ())) (fun y1955 =>
let a1956 : (Nat → Int) := y1955.2.1
let a1957 : (Nat → Int) := y1955.2.2.1
κ0 a1957)) else none) else none) else none)

abbrev Tl_20_11 (R : Type) : Type := ((Unit × Unit × ByteArray × ByteArray × Int × Int × Unit) × ((Nat → Int) × (Nat → Int) × Unit)) → (((Unit × Unit × ByteArray × ByteArray × Int × Unit) × ((Nat → Int) × (Nat → Int) × Unit)) → Option R) → Option R
abbrev Tl_20_8 (R : Type) : Type := ((Unit × Unit × ByteArray × ByteArray × Int × Unit) × ((Nat → Int) × (Nat → Int) × Unit)) → (((Unit × Unit × Unit) × ((Nat → Int) × (Nat → Int) × Unit)) → Option R) → Option R
abbrev Tp_20 (R : Type) : Type := (Int × Unit) × (Unit) → ((Nat → Int) → Option R) → Option R
def Q_20 {R : Type} (m_20_11 : Tl_20_11 R) (m_20_8 : Tl_20_8 R) (x : (Int × Unit) × (Unit)) (κ0 : (Nat → Int) → Option R) : Option R :=
let i1926 : Int := x.1.1
let l1927 : (List ByteArray) := [⟨#[48, 49, 50, 51, 52, 53, 54, 55, 56, 57, 97, 98, 99, 100, 101, 102]⟩, ⟨#[101, 97, 52, 56, 57, 102, 100, 54, 49, 99, 48, 50, 98, 55, 53, 51]⟩, ⟨#[98, 56, 99, 48, 53, 50, 102, 100, 97, 101, 51, 54, 55, 49, 57, 52]⟩, ⟨#[55, 57, 51, 49, 100, 99, 98, 101, 50, 54, 53, 97, 52, 48, 102, 56]⟩, ⟨#[57, 48, 53, 55, 50, 52, 97, 102, 101, 49, 98, 99, 54, 56, 51, 100]⟩, ⟨#[50, 99, 54, 97, 48, 98, 56, 51, 52, 100, 55, 53, 102, 101, 49, 57]⟩, ⟨#[99, 53, 49, 102, 101, 100, 52, 97, 48, 55, 54, 51, 57, 50, 56, 98]⟩, ⟨#[100, 98, 55, 101, 99, 49, 51, 57, 53, 48, 102, 52, 56, 54, 50, 97]⟩, ⟨#[54, 102, 101, 57, 98, 51, 48, 56, 99, 50, 100, 55, 49, 52, 97, 53]⟩, ⟨#[97, 50, 56, 52, 55, 54, 49, 53, 102, 98, 57, 101, 51, 99, 100, 48]⟩]
bif (decide (i1926 < 0)) then (
let a1928 : (Nat → Int) := (Sch.zero (.arr 16 (.int .i64)))
κ0 a1928) else (
let i1929 : Int := remA .i64 i1926 10
bif decide (0 ≤ i1929) then (
bif decide (i1929 < ((List.length l1927) : Int)) then (
let s1930 : ByteArray := (List.getD l1927 ((Int.toNat i1929)) (Sch.zero (.str)))
bif decide (0 < ((List.length l1927) : Int)) then (
let s1931 : ByteArray := (List.getD l1927 0 (Sch.zero (.str)))
m_20_8 (((), (), s1930, s1931, 0, ()), ((Sch.zero (.arr 16 (.int .i64))), (Sch.zero (.arr 16 (.int .i64))), ())) (fun y1955 =>
let a1956 : (Nat → Int) := y1955.2.1
let a1957 : (Nat → Int) := y1955.2.2.1
κ0 a1957)) else none) else none) else none)
def C_20_11 {R : Type} (m_20_11 : Tl_20_11 R) (m_20_8 : Tl_20_8 R) (rec : ((Unit × Unit × ByteArray × ByteArray × Int × Int × Unit) × ((Nat → Int) × (Nat → Int) × Unit)) → Option R) (x : ((Unit × Unit × ByteArray × ByteArray × Int × Int × Unit) × ((Nat → Int) × (Nat → Int) × Unit))) (κ0 : ((Unit × Unit × ByteArray × ByteArray × Int × Unit) × ((Nat → Int) × (Nat → Int) × Unit)) → Option R) : Option R :=
let s1937 : ByteArray := x.1.2.2.1
let s1938 : ByteArray := x.1.2.2.2.1
let i1939 : Int := x.1.2.2.2.2.1
let i1940 : Int := x.1.2.2.2.2.2.1
let a1941 : (Nat → Int) := x.2.1
let a1942 : (Nat → Int) := x.2.2.1
bif (decide (i1940 < 16)) then (
bif decide (0 ≤ i1940) then (
bif decide (i1940 < (ByteArray.size s1938 : Int)) then (
let i1943 : Int := byteAt s1938 ((Int.toNat i1940))
bif decide (0 ≤ i1939) then (
bif decide (i1939 < (ByteArray.size s1937 : Int)) then (
let i1944 : Int := byteAt s1937 ((Int.toNat i1939))
bif (i1943 == i1944) then (
bif decide (0 ≤ i1939) then (
bif decide (i1939 < (16 : Int)) then (
let a1945 : (Nat → Int) := (upd a1942 ((Int.toNat i1939)) i1940)
let i1946 : Int := addA .i64 i1940 1
rec (((), (), s1937, s1938, i1939, i1946, ()), (a1941, a1945, ()))) else none) else none) else (
let i1947 : Int := addA .i64 i1940 1
rec (((), (), s1937, s1938, i1939, i1947, ()), (a1941, a1942, ())))) else none) else none) else none) else none) else (
κ0 (((), (), s1937, s1938, i1939, ()), (a1941, a1942, ())))
def C_20_8 {R : Type} (m_20_11 : Tl_20_11 R) (m_20_8 : Tl_20_8 R) (rec : ((Unit × Unit × ByteArray × ByteArray × Int × Unit) × ((Nat → Int) × (Nat → Int) × Unit)) → Option R) (x : ((Unit × Unit × ByteArray × ByteArray × Int × Unit) × ((Nat → Int) × (Nat → Int) × Unit))) (κ0 : ((Unit × Unit × Unit) × ((Nat → Int) × (Nat → Int) × Unit)) → Option R) : Option R :=
let s1932 : ByteArray := x.1.2.2.1
let s1933 : ByteArray := x.1.2.2.2.1
let i1934 : Int := x.1.2.2.2.2.1
let a1935 : (Nat → Int) := x.2.1
let a1936 : (Nat → Int) := x.2.2.1
bif (decide (i1934 < 16)) then (
m_20_11 (((), (), s1932, s1933, i1934, 0, ()), (a1935, a1936, ())) (fun y1948 =>
let s1949 : ByteArray := y1948.1.2.2.1
let s1950 : ByteArray := y1948.1.2.2.2.1
let i1951 : Int := y1948.1.2.2.2.2.1
let a1952 : (Nat → Int) := y1948.2.1
let a1953 : (Nat → Int) := y1948.2.2.1
let i1954 : Int := addA .i64 i1951 1
rec (((), (), s1949, s1950, i1954, ()), (a1952, a1953, ())))) else (
κ0 (((), (), ()), (a1935, a1936, ())))
def EG_20 {R : Type} : Env R := Env.base QQ LN
def LG_20 {R : Type} (m_20_11 : Tl_20_11 R) (m_20_8 : Tl_20_8 R) : Loops R := ((Loops.none).add 11 (loopBy 0 lv_20_11 pt_20_11 (fun x k => m_20_11 x (fun y => k (.exit 2) (px_20_11_0.inst y))))).add 8 (loopBy 0 lv_20_8 pt_20_8 (fun x k => m_20_8 x (fun y => k (.exit 0) (px_20_8_0.inst y))))
def E_20 {R : Type} (N : Nat) : Env R := EG_20
theorem eok_20 {R : Type} (N : Nat) : EK Try.prog (E_20 (R := R) N) := ek_base _ _
def L_20 {R : Type} (N : Nat) : Loops R := LG_20 (l_20_11 N N) (l_20_8 N N)
theorem gstep_20_11 {R : Type} (m_20_11 : Tl_20_11 R) (m_20_8 : Tl_20_8 R) (n : Nat) (x : pt_20_11.den) (k : Exit → St → Option R) : iter 0 lv_20_11 lo_20_11 (aexec TT (EG_20) (drawAny TT WW) (LG_20 m_20_11 m_20_8) (loopAt 11 (bodyOf Try.f20))) (n + 1) (pt_20_11.inst x) k = C_20_11 m_20_11 m_20_8 (fun y => iter 0 lv_20_11 lo_20_11 (aexec TT (EG_20) (drawAny TT WW) (LG_20 m_20_11 m_20_8) (loopAt 11 (bodyOf Try.f20))) n (pt_20_11.inst y) k) x (fun y => k (.exit 2) (px_20_11_0.inst y)) := by kernel_rfl
theorem step_20_11 {R : Type} (N n : Nat) (x : pt_20_11.den) (k : Exit → St → Option R) : iter 0 lv_20_11 lo_20_11 (aexec TT (E_20 (R := R) N) (drawAny TT WW) (L_20 N) (loopAt 11 (bodyOf Try.f20))) (n + 1) (pt_20_11.inst x) k = B_20_11 N (fun y => iter 0 lv_20_11 lo_20_11 (aexec TT (E_20 (R := R) N) (drawAny TT WW) (L_20 N) (loopAt 11 (bodyOf Try.f20))) n (pt_20_11.inst y) k) x (fun y => k (.exit 2) (px_20_11_0.inst y)) := (gstep_20_11 (l_20_11 N N) (l_20_8 N N) n x k).trans (by kernel_rfl)
theorem eq_20_11 {R : Type} (N : Nat) : ∀ (n : Nat) (x : pt_20_11.den) (k : Exit → St → Option R), iter 0 lv_20_11 lo_20_11 (aexec TT (E_20 (R := R) N) (drawAny TT WW) (L_20 N) (loopAt 11 (bodyOf Try.f20))) n (pt_20_11.inst x) k = l_20_11 N n x (fun y => k (.exit 2) (px_20_11_0.inst y)) :=
  iter_eq (K := Exit → St → Option R) (ks := fun k => k) (l := fun n (x : pt_20_11.den) k => l_20_11 N n x (fun y => k (.exit 2) (px_20_11_0.inst y))) (B := fun (rec : pt_20_11.den → Option R) (x : pt_20_11.den) k => B_20_11 N rec x (fun y => k (.exit 2) (px_20_11_0.inst y))) (fun _ _ => rfl) (fun _ _ _ => rfl) (fun n x k => step_20_11 N n x k)
theorem rounds_20_11 {R : Type} (N : Nat) : Rounds 0 TT (E_20 (R := R) N) (drawAny TT WW) (L_20 N) 11 (loopAt 11 (bodyOf Try.f20)) :=
  rounds_of (p := pt_20_11) (l := fun (x : pt_20_11.den) k => l_20_11 N N x (fun y => k (.exit 2) (px_20_11_0.inst y))) (fun s k => rfl) (fun x k => eq_20_11 N N x k)
theorem gstep_20_8 {R : Type} (m_20_11 : Tl_20_11 R) (m_20_8 : Tl_20_8 R) (n : Nat) (x : pt_20_8.den) (k : Exit → St → Option R) : iter 0 lv_20_8 lo_20_8 (aexec TT (EG_20) (drawAny TT WW) (LG_20 m_20_11 m_20_8) (loopAt 8 (bodyOf Try.f20))) (n + 1) (pt_20_8.inst x) k = C_20_8 m_20_11 m_20_8 (fun y => iter 0 lv_20_8 lo_20_8 (aexec TT (EG_20) (drawAny TT WW) (LG_20 m_20_11 m_20_8) (loopAt 8 (bodyOf Try.f20))) n (pt_20_8.inst y) k) x (fun y => k (.exit 0) (px_20_8_0.inst y)) := by kernel_rfl
theorem step_20_8 {R : Type} (N n : Nat) (x : pt_20_8.den) (k : Exit → St → Option R) : iter 0 lv_20_8 lo_20_8 (aexec TT (E_20 (R := R) N) (drawAny TT WW) (L_20 N) (loopAt 8 (bodyOf Try.f20))) (n + 1) (pt_20_8.inst x) k = B_20_8 N (fun y => iter 0 lv_20_8 lo_20_8 (aexec TT (E_20 (R := R) N) (drawAny TT WW) (L_20 N) (loopAt 8 (bodyOf Try.f20))) n (pt_20_8.inst y) k) x (fun y => k (.exit 0) (px_20_8_0.inst y)) := (gstep_20_8 (l_20_11 N N) (l_20_8 N N) n x k).trans (by kernel_rfl)
theorem eq_20_8 {R : Type} (N : Nat) : ∀ (n : Nat) (x : pt_20_8.den) (k : Exit → St → Option R), iter 0 lv_20_8 lo_20_8 (aexec TT (E_20 (R := R) N) (drawAny TT WW) (L_20 N) (loopAt 8 (bodyOf Try.f20))) n (pt_20_8.inst x) k = l_20_8 N n x (fun y => k (.exit 0) (px_20_8_0.inst y)) :=
  iter_eq (K := Exit → St → Option R) (ks := fun k => k) (l := fun n (x : pt_20_8.den) k => l_20_8 N n x (fun y => k (.exit 0) (px_20_8_0.inst y))) (B := fun (rec : pt_20_8.den → Option R) (x : pt_20_8.den) k => B_20_8 N rec x (fun y => k (.exit 0) (px_20_8_0.inst y))) (fun _ _ => rfl) (fun _ _ _ => rfl) (fun n x k => step_20_8 N n x k)
theorem rounds_20_8 {R : Type} (N : Nat) : Rounds 0 TT (E_20 (R := R) N) (drawAny TT WW) (L_20 N) 8 (loopAt 8 (bodyOf Try.f20)) :=
  rounds_of (p := pt_20_8) (l := fun (x : pt_20_8.den) k => l_20_8 N N x (fun y => k (.exit 0) (px_20_8_0.inst y))) (fun s k => rfl) (fun x k => eq_20_8 N N x k)
theorem loops_20 : loopsIn (bodyOf Try.f20) = [(8, loopAt 8 (bodyOf Try.f20)), (11, loopAt 11 (bodyOf Try.f20))] := by kernel_rfl
theorem lok_20 {R : Type} (N : Nat) : LOK 0 TT (E_20 (R := R) N) (drawAny TT WW) (L_20 N) (bodyOf Try.f20) := loops_all loops_20 (by
  simp only [List.forall_mem_cons, List.not_mem_nil, false_implies, implies_true, and_true]
  exact ⟨rounds_20_8 N, rounds_20_11 N⟩)
theorem grun_20 {R : Type} (m_20_11 : Tl_20_11 R) (m_20_8 : Tl_20_8 R) (x : aden ap_20 × hden hp_20) (k : KF R) : fnrun TT (EG_20) (drawAny TT WW) (LG_20 m_20_11 m_20_8) true Try.f20 (instA ap_20 x.1) (instH hp_20 x.2) k = Q_20 m_20_11 m_20_8 x (fun y => k (Pat.inst (.vec (.int .i64) 16) y) (instH hp_20 x.2)) := by kernel_rfl
theorem run_20 {R : Type} (N : Nat) (x : aden ap_20 × hden hp_20) (k : KF R) : fnrun TT (E_20 (R := R) N) (drawAny TT WW) (L_20 N) true Try.f20 (instA ap_20 x.1) (instH hp_20 x.2) k = p_20 N x (fun y => k (Pat.inst (.vec (.int .i64) 16) y) (instH hp_20 x.2)) := (grun_20 (l_20_11 N N) (l_20_8 N N) x k).trans (by kernel_rfl)
theorem good_20 {R : Type} (N : Nat) : GD (X := R) Try.prog QQ 20 ap_20 hp_20 (fun (x : aden ap_20 × hden hp_20) k => p_20 N x (fun y => k (Pat.inst (.vec (.int .i64) 16) y) (instH hp_20 x.2))) :=
  gd_quiet (E := E_20 N) (p := fun (x : aden ap_20 × hden hp_20) κ => p_20 N x (fun y => κ (Pat.inst (.vec (.int .i64) 16) y))) mixed tyok (eok_20 N) Try.func20 (by kernel_rfl) (by kernel_rfl) (lok_20 N) (fun x k => run_20 N x k)

def ap_50 : List Pat := [.int .i64]
def hp_50 : List (Option (Pat × Nat)) := []
def p_50 {R : Type} (N : Nat) (x : (Int × Unit) × (Unit)) (κ0 : (Nat → Int) → Option R) : Option R :=
let i1967 : Int := x.1.1
bif (decide (i1967 < 4)) then (
let i1968 : Int := addA .i64 i1967 4
let i1969 : Int := addA .i64 i1967 8
let i1970 : Int := addA .i64 i1967 12
let a1971 : (Nat → Int) := (upd ((upd ((upd ((upd ((Sch.zero (.arr 4 (.int .i64)))) 0 i1967)) 1 i1968)) 2 i1969)) 3 i1970)
κ0 a1971) else (
let i1972 : Int := subA .i64 i1967 4
let i1973 : Int := addA .i64 i1972 1
let i1974 : Int := remA .i64 i1973 4
let i1975 : Int := addA .i64 4 i1974
let i1976 : Int := addA .i64 i1972 2
let i1977 : Int := remA .i64 i1976 4
let i1978 : Int := addA .i64 8 i1977
let i1979 : Int := addA .i64 i1972 3
let i1980 : Int := remA .i64 i1979 4
let i1981 : Int := addA .i64 12 i1980
let a1982 : (Nat → Int) := (upd ((upd ((upd ((upd ((Sch.zero (.arr 4 (.int .i64)))) 0 i1972)) 1 i1975)) 2 i1978)) 3 i1981)
κ0 a1982)

abbrev Tp_50 (R : Type) : Type := (Int × Unit) × (Unit) → ((Nat → Int) → Option R) → Option R
def Q_50 {R : Type} (x : (Int × Unit) × (Unit)) (κ0 : (Nat → Int) → Option R) : Option R :=
let i1967 : Int := x.1.1
bif (decide (i1967 < 4)) then (
let i1968 : Int := addA .i64 i1967 4
let i1969 : Int := addA .i64 i1967 8
let i1970 : Int := addA .i64 i1967 12
let a1971 : (Nat → Int) := (upd ((upd ((upd ((upd ((Sch.zero (.arr 4 (.int .i64)))) 0 i1967)) 1 i1968)) 2 i1969)) 3 i1970)
κ0 a1971) else (
let i1972 : Int := subA .i64 i1967 4
let i1973 : Int := addA .i64 i1972 1
let i1974 : Int := remA .i64 i1973 4
let i1975 : Int := addA .i64 4 i1974
let i1976 : Int := addA .i64 i1972 2
let i1977 : Int := remA .i64 i1976 4
let i1978 : Int := addA .i64 8 i1977
let i1979 : Int := addA .i64 i1972 3
let i1980 : Int := remA .i64 i1979 4
let i1981 : Int := addA .i64 12 i1980
let a1982 : (Nat → Int) := (upd ((upd ((upd ((upd ((Sch.zero (.arr 4 (.int .i64)))) 0 i1972)) 1 i1975)) 2 i1978)) 3 i1981)
κ0 a1982)
def EG_50 {R : Type} : Env R := Env.base QQ LN
def LG_50 {R : Type} : Loops R := Loops.none
def E_50 {R : Type} (N : Nat) : Env R := EG_50
theorem eok_50 {R : Type} (N : Nat) : EK Try.prog (E_50 (R := R) N) := ek_base _ _
def L_50 {R : Type} (N : Nat) : Loops R := LG_50
theorem lok_50 {R : Type} (N : Nat) : LOK 0 TT (E_50 (R := R) N) (drawAny TT WW) (L_50 N) (bodyOf Try.f50) := loops_nil (by kernel_rfl)
theorem grun_50 {R : Type} (x : aden ap_50 × hden hp_50) (k : KF R) : fnrun TT (EG_50) (drawAny TT WW) (LG_50) true Try.f50 (instA ap_50 x.1) (instH hp_50 x.2) k = Q_50 x (fun y => k (Pat.inst (.vec (.int .i64) 4) y) (instH hp_50 x.2)) := by kernel_rfl
theorem run_50 {R : Type} (N : Nat) (x : aden ap_50 × hden hp_50) (k : KF R) : fnrun TT (E_50 (R := R) N) (drawAny TT WW) (L_50 N) true Try.f50 (instA ap_50 x.1) (instH hp_50 x.2) k = p_50 N x (fun y => k (Pat.inst (.vec (.int .i64) 4) y) (instH hp_50 x.2)) := (grun_50 x k).trans (by kernel_rfl)
theorem good_50 {R : Type} (N : Nat) : GD (X := R) Try.prog QQ 50 ap_50 hp_50 (fun (x : aden ap_50 × hden hp_50) k => p_50 N x (fun y => k (Pat.inst (.vec (.int .i64) 4) y) (instH hp_50 x.2))) :=
  gd_quiet (E := E_50 N) (p := fun (x : aden ap_50 × hden hp_50) κ => p_50 N x (fun y => κ (Pat.inst (.vec (.int .i64) 4) y))) mixed tyok (eok_50 N) Try.func50 (by kernel_rfl) (by kernel_rfl) (lok_50 N) (fun x k => run_50 N x k)

def ap_52 : List Pat := [.int .u64, .int .u64, .int .u64]
def hp_52 : List (Option (Pat × Nat)) := []
def p_52 {R : Type} (N : Nat) (x : (Int × Int × Int × Unit) × (Unit)) (κ0 : Int → Option R) : Option R :=
let i2012 : Int := x.1.1
let i2013 : Int := x.1.2.1
let i2014 : Int := x.1.2.2.1
bif decide (i2013 = 0) then none else (
let i2015 : Int := quoA .u64 i2012 i2013
bif decide (i2013 = 0) then none else (
let i2016 : Int := remA .u64 i2012 i2013
let i2017 : Int := mulA .u64 i2016 i2014
let i2018 : Int := addA .u64 i2015 i2017
κ0 i2018))

abbrev Tp_52 (R : Type) : Type := (Int × Int × Int × Unit) × (Unit) → (Int → Option R) → Option R
def Q_52 {R : Type} (x : (Int × Int × Int × Unit) × (Unit)) (κ0 : Int → Option R) : Option R :=
let i2012 : Int := x.1.1
let i2013 : Int := x.1.2.1
let i2014 : Int := x.1.2.2.1
bif decide (i2013 = 0) then none else (
let i2015 : Int := quoA .u64 i2012 i2013
bif decide (i2013 = 0) then none else (
let i2016 : Int := remA .u64 i2012 i2013
let i2017 : Int := mulA .u64 i2016 i2014
let i2018 : Int := addA .u64 i2015 i2017
κ0 i2018))
def EG_52 {R : Type} : Env R := Env.base QQ LN
def LG_52 {R : Type} : Loops R := Loops.none
def E_52 {R : Type} (N : Nat) : Env R := EG_52
theorem eok_52 {R : Type} (N : Nat) : EK Try.prog (E_52 (R := R) N) := ek_base _ _
def L_52 {R : Type} (N : Nat) : Loops R := LG_52
theorem lok_52 {R : Type} (N : Nat) : LOK 0 TT (E_52 (R := R) N) (drawAny TT WW) (L_52 N) (bodyOf Try.f52) := loops_nil (by kernel_rfl)
theorem grun_52 {R : Type} (x : aden ap_52 × hden hp_52) (k : KF R) : fnrun TT (EG_52) (drawAny TT WW) (LG_52) true Try.f52 (instA ap_52 x.1) (instH hp_52 x.2) k = Q_52 x (fun y => k (Pat.inst (.int .u64) y) (instH hp_52 x.2)) := by kernel_rfl
theorem run_52 {R : Type} (N : Nat) (x : aden ap_52 × hden hp_52) (k : KF R) : fnrun TT (E_52 (R := R) N) (drawAny TT WW) (L_52 N) true Try.f52 (instA ap_52 x.1) (instH hp_52 x.2) k = p_52 N x (fun y => k (Pat.inst (.int .u64) y) (instH hp_52 x.2)) := (grun_52 x k).trans (by kernel_rfl)
theorem good_52 {R : Type} (N : Nat) : GD (X := R) Try.prog QQ 52 ap_52 hp_52 (fun (x : aden ap_52 × hden hp_52) k => p_52 N x (fun y => k (Pat.inst (.int .u64) y) (instH hp_52 x.2))) :=
  gd_quiet (E := E_52 N) (p := fun (x : aden ap_52 × hden hp_52) κ => p_52 N x (fun y => κ (Pat.inst (.int .u64) y))) mixed tyok (eok_52 N) Try.func52 (by kernel_rfl) (by kernel_rfl) (lok_52 N) (fun x k => run_52 N x k)

def ap_18 : List Pat := [.vec (.int .u64) 4, .int .u64, .int .u64]
def hp_18 : List (Option (Pat × Nat)) := []
def p_18 {R : Type} (N : Nat) (x : ((Nat → Int) × Int × Int × Unit) × (Unit)) (κ0 : (Nat → Int) → Option R) : Option R :=
let a2001 : (Nat → Int) := x.1.1
let i2002 : Int := x.1.2.1
let i2003 : Int := x.1.2.2.1
let i2004 : Int := (a2001 0)
let i2005 : Int := (a2001 1)
let i2006 : Int := addA .u64 i2004 i2005
let i2007 : Int := addA .u64 i2006 i2002
let a2008 : (Nat → Int) := (upd a2001 0 i2007)
let i2009 : Int := (a2008 3)
let i2010 : Int := (a2008 0)
let i2011 : Int := xorA .u64 i2009 i2010
p_52 N ((i2011, 4294967296, 4294967296, ()), ()) (fun y2019 =>
let i2020 : Int := y2019
let a2021 : (Nat → Int) := (upd a2008 3 i2020)
let i2022 : Int := (a2021 2)
let i2023 : Int := (a2021 3)
let i2024 : Int := addA .u64 i2022 i2023
let a2025 : (Nat → Int) := (upd a2021 2 i2024)
let i2026 : Int := (a2025 1)
let i2027 : Int := (a2025 2)
let i2028 : Int := xorA .u64 i2026 i2027
p_52 N ((i2028, 16777216, 1099511627776, ()), ()) (fun y2029 =>
let i2030 : Int := y2029
let a2031 : (Nat → Int) := (upd a2025 1 i2030)
let i2032 : Int := (a2031 0)
let i2033 : Int := (a2031 1)
let i2034 : Int := addA .u64 i2032 i2033
let i2035 : Int := addA .u64 i2034 i2003
let a2036 : (Nat → Int) := (upd a2031 0 i2035)
let i2037 : Int := (a2036 3)
let i2038 : Int := (a2036 0)
let i2039 : Int := xorA .u64 i2037 i2038
p_52 N ((i2039, 65536, 281474976710656, ()), ()) (fun y2040 =>
let i2041 : Int := y2040
let a2042 : (Nat → Int) := (upd a2036 3 i2041)
let i2043 : Int := (a2042 2)
let i2044 : Int := (a2042 3)
let i2045 : Int := addA .u64 i2043 i2044
let a2046 : (Nat → Int) := (upd a2042 2 i2045)
let i2047 : Int := (a2046 1)
let i2048 : Int := (a2046 2)
let i2049 : Int := xorA .u64 i2047 i2048
p_52 N ((i2049, 9223372036854775808, 2, ()), ()) (fun y2050 =>
let i2051 : Int := y2050
let a2052 : (Nat → Int) := (upd a2046 1 i2051)
κ0 a2052))))

abbrev Tp_18 (R : Type) : Type := ((Nat → Int) × Int × Int × Unit) × (Unit) → ((Nat → Int) → Option R) → Option R
def Q_18 {R : Type} (q_52 : Tp_52 R) (x : ((Nat → Int) × Int × Int × Unit) × (Unit)) (κ0 : (Nat → Int) → Option R) : Option R :=
let a2001 : (Nat → Int) := x.1.1
let i2002 : Int := x.1.2.1
let i2003 : Int := x.1.2.2.1
let i2004 : Int := (a2001 0)
let i2005 : Int := (a2001 1)
let i2006 : Int := addA .u64 i2004 i2005
let i2007 : Int := addA .u64 i2006 i2002
let a2008 : (Nat → Int) := (upd a2001 0 i2007)
let i2009 : Int := (a2008 3)
let i2010 : Int := (a2008 0)
let i2011 : Int := xorA .u64 i2009 i2010
q_52 ((i2011, 4294967296, 4294967296, ()), ()) (fun y2019 =>
let i2020 : Int := y2019
let a2021 : (Nat → Int) := (upd a2008 3 i2020)
let i2022 : Int := (a2021 2)
let i2023 : Int := (a2021 3)
let i2024 : Int := addA .u64 i2022 i2023
let a2025 : (Nat → Int) := (upd a2021 2 i2024)
let i2026 : Int := (a2025 1)
let i2027 : Int := (a2025 2)
let i2028 : Int := xorA .u64 i2026 i2027
q_52 ((i2028, 16777216, 1099511627776, ()), ()) (fun y2029 =>
let i2030 : Int := y2029
let a2031 : (Nat → Int) := (upd a2025 1 i2030)
let i2032 : Int := (a2031 0)
let i2033 : Int := (a2031 1)
let i2034 : Int := addA .u64 i2032 i2033
let i2035 : Int := addA .u64 i2034 i2003
let a2036 : (Nat → Int) := (upd a2031 0 i2035)
let i2037 : Int := (a2036 3)
let i2038 : Int := (a2036 0)
let i2039 : Int := xorA .u64 i2037 i2038
q_52 ((i2039, 65536, 281474976710656, ()), ()) (fun y2040 =>
let i2041 : Int := y2040
let a2042 : (Nat → Int) := (upd a2036 3 i2041)
let i2043 : Int := (a2042 2)
let i2044 : Int := (a2042 3)
let i2045 : Int := addA .u64 i2043 i2044
let a2046 : (Nat → Int) := (upd a2042 2 i2045)
let i2047 : Int := (a2046 1)
let i2048 : Int := (a2046 2)
let i2049 : Int := xorA .u64 i2047 i2048
q_52 ((i2049, 9223372036854775808, 2, ()), ()) (fun y2050 =>
let i2051 : Int := y2050
let a2052 : (Nat → Int) := (upd a2046 1 i2051)
κ0 a2052))))
def EG_18 {R : Type} (q_52 : Tp_52 R) : Env R := (Env.base QQ LN).add 52 ap_52 hp_52 (fun (x : aden ap_52 × hden hp_52) k => q_52 x (fun y => k (Pat.inst (.int .u64) y) (instH hp_52 x.2)))
def LG_18 {R : Type} : Loops R := Loops.none
def E_18 {R : Type} (N : Nat) : Env R := EG_18 (p_52 N)
theorem eok_18 {R : Type} (N : Nat) : EK Try.prog (E_18 (R := R) N) := ek_add (ek_base _ _) (good_52 N)
def L_18 {R : Type} (N : Nat) : Loops R := LG_18
theorem lok_18 {R : Type} (N : Nat) : LOK 0 TT (E_18 (R := R) N) (drawAny TT WW) (L_18 N) (bodyOf Try.f18) := loops_nil (by kernel_rfl)
theorem grun_18 {R : Type} (q_52 : Tp_52 R) (x : aden ap_18 × hden hp_18) (k : KF R) : fnrun TT (EG_18 q_52) (drawAny TT WW) (LG_18) true Try.f18 (instA ap_18 x.1) (instH hp_18 x.2) k = Q_18 q_52 x (fun y => k (Pat.inst (.vec (.int .u64) 4) y) (instH hp_18 x.2)) := by kernel_rfl
theorem run_18 {R : Type} (N : Nat) (x : aden ap_18 × hden hp_18) (k : KF R) : fnrun TT (E_18 (R := R) N) (drawAny TT WW) (L_18 N) true Try.f18 (instA ap_18 x.1) (instH hp_18 x.2) k = p_18 N x (fun y => k (Pat.inst (.vec (.int .u64) 4) y) (instH hp_18 x.2)) := (grun_18 (p_52 N) x k).trans (by kernel_rfl)
theorem good_18 {R : Type} (N : Nat) : GD (X := R) Try.prog QQ 18 ap_18 hp_18 (fun (x : aden ap_18 × hden hp_18) k => p_18 N x (fun y => k (Pat.inst (.vec (.int .u64) 4) y) (instH hp_18 x.2))) :=
  gd_quiet (E := E_18 N) (p := fun (x : aden ap_18 × hden hp_18) κ => p_18 N x (fun y => κ (Pat.inst (.vec (.int .u64) 4) y))) mixed tyok (eok_18 N) Try.func18 (by kernel_rfl) (by kernel_rfl) (lok_18 N) (fun x k => run_18 N x k)

def lv_16_4 : Live := [(3, none), (4, none), (5, none), (6, none), (10, none), (11, none), (13, none), (14, none)]
def pt_16_4 : SPat := ⟨[(3, .int .u64), (4, .bool), (5, .ptr 0 []), (6, .ptr 1 []), (10, .ptr 2 []), (11, .ros (.int .u64)), (13, .ptr 3 []), (14, .int .i64)], [some (.vec (.int .u64) 8, 29), some (.vec (.int .u64) 8, 23), some (.vec (.int .u64) 8, 23), some (.vec (.int .u64) 16, 97)]⟩
def px_16_4_0 : SPat := ⟨[(3, .int .u64), (4, .bool), (6, .ptr 0 []), (10, .ptr 1 []), (11, .ros (.int .u64)), (13, .ptr 2 [])], [some (.vec (.int .u64) 8, 23), some (.vec (.int .u64) 8, 23), some (.vec (.int .u64) 16, 97)]⟩
def lo_16_4 : Exit → Live
  | .exit 0 => [(3, none), (4, none), (6, none), (10, none), (11, none), (13, none)]
  | _ => []
def B_16_4 {R : Type} (N : Nat) (rec : ((Int × Bool × Unit × Unit × Unit × (List Int) × Unit × Int × Unit) × ((Nat → Int) × (Nat → Int) × (Nat → Int) × (Nat → Int) × Unit)) → Option R) (x : ((Int × Bool × Unit × Unit × Unit × (List Int) × Unit × Int × Unit) × ((Nat → Int) × (Nat → Int) × (Nat → Int) × (Nat → Int) × Unit))) (κ0 : ((Int × Bool × Unit × Unit × (List Int) × Unit × Unit) × ((Nat → Int) × (Nat → Int) × (Nat → Int) × Unit)) → Option R) : Option R :=
let i1894 : Int := x.1.1
let b1895 : Bool := x.1.2.1
let l1896 : (List Int) := x.1.2.2.2.2.2.1
let i1897 : Int := x.1.2.2.2.2.2.2.2.1
let a1898 : (Nat → Int) := x.2.1
let a1899 : (Nat → Int) := x.2.2.1
let a1900 : (Nat → Int) := x.2.2.2.1
let a1901 : (Nat → Int) := x.2.2.2.2.1
bif (decide (i1897 < 8)) then (
bif decide (0 ≤ i1897) then (
bif decide (i1897 < (8 : Int)) then (
let i1902 : Int := (a1899 ((Int.toNat i1897)))
bif decide (0 ≤ i1897) then (
bif decide (i1897 < (16 : Int)) then (
let a1903 : (Nat → Int) := (upd a1901 ((Int.toNat i1897)) i1902)
let i1904 : Int := addA .i64 i1897 8
bif decide (0 ≤ i1897) then (
bif decide (i1897 < (8 : Int)) then (
let i1905 : Int := (a1898 ((Int.toNat i1897)))
bif decide (0 ≤ i1904) then (
bif decide (i1904 < (16 : Int)) then (
let a1906 : (Nat → Int) := (upd a1903 ((Int.toNat i1904)) i1905)
let i1907 : Int := addA .i64 i1897 1
rec ((i1894, b1895, (), (), (), l1896, (), i1907, ()), (a1898, a1899, a1900, a1906, ()))) else none) else none) else none) else none) else none) else none) else none) else none) else (
κ0 ((i1894, b1895, (), (), l1896, (), ()), (a1899, a1900, a1901, ())))
def l_16_4 {R : Type} (N : Nat) : Nat → ((Int × Bool × Unit × Unit × Unit × (List Int) × Unit × Int × Unit) × ((Nat → Int) × (Nat → Int) × (Nat → Int) × (Nat → Int) × Unit)) → (((Int × Bool × Unit × Unit × (List Int) × Unit × Unit) × ((Nat → Int) × (Nat → Int) × (Nat → Int) × Unit)) → Option R) → Option R
  | 0, _, _ => none
  | n + 1, x, κ0 => B_16_4 N (fun y => l_16_4 N n y κ0) x κ0
def lv_16_21 : Live := [(6, none), (10, none), (11, none), (13, none), (15, none), (16, none), (17, none), (18, none), (19, none), (20, none)]
def pt_16_21 : SPat := ⟨[(6, .ptr 0 []), (10, .ptr 1 []), (11, .ros (.int .u64)), (13, .ptr 2 []), (15, .int .i64), (16, .ptr 3 []), (17, .int .i64), (18, .ptr 4 []), (19, .ptr 5 []), (20, .int .i64)], [some (.vec (.int .u64) 8, 23), some (.vec (.int .u64) 8, 23), some (.vec (.int .u64) 16, 97), some (.vec (.int .i64) 16, 38), some (.vec (.int .i64) 4, 98), some (.vec (.int .u64) 4, 36)]⟩
def px_16_21_0 : SPat := ⟨[(6, .ptr 0 []), (10, .ptr 1 []), (11, .ros (.int .u64)), (13, .ptr 2 []), (15, .int .i64), (16, .ptr 3 []), (17, .int .i64)], [some (.vec (.int .u64) 8, 23), some (.vec (.int .u64) 8, 23), some (.vec (.int .u64) 16, 97), some (.vec (.int .i64) 16, 38)]⟩
def lo_16_21 : Exit → Live
  | .exit 6 => [(6, none), (10, none), (11, none), (13, none), (15, none), (16, none), (17, none)]
  | _ => []
def B_16_21 {R : Type} (N : Nat) (rec : ((Unit × Unit × (List Int) × Unit × Int × Unit × Int × Unit × Unit × Int × Unit) × ((Nat → Int) × (Nat → Int) × (Nat → Int) × (Nat → Int) × (Nat → Int) × (Nat → Int) × Unit)) → Option R) (x : ((Unit × Unit × (List Int) × Unit × Int × Unit × Int × Unit × Unit × Int × Unit) × ((Nat → Int) × (Nat → Int) × (Nat → Int) × (Nat → Int) × (Nat → Int) × (Nat → Int) × Unit))) (κ0 : ((Unit × Unit × (List Int) × Unit × Int × Unit × Int × Unit) × ((Nat → Int) × (Nat → Int) × (Nat → Int) × (Nat → Int) × Unit)) → Option R) : Option R :=
let l2138 : (List Int) := x.1.2.2.1
let i2139 : Int := x.1.2.2.2.2.1
let i2140 : Int := x.1.2.2.2.2.2.2.1
let i2141 : Int := x.1.2.2.2.2.2.2.2.2.2.1
let a2142 : (Nat → Int) := x.2.1
let a2143 : (Nat → Int) := x.2.2.1
let a2144 : (Nat → Int) := x.2.2.2.1
let a2145 : (Nat → Int) := x.2.2.2.2.1
let a2146 : (Nat → Int) := x.2.2.2.2.2.1
let a2147 : (Nat → Int) := x.2.2.2.2.2.2.1
bif (decide (i2141 < 4)) then (
bif decide (0 ≤ i2141) then (
bif decide (i2141 < (4 : Int)) then (
let i2148 : Int := (a2146 ((Int.toNat i2141)))
bif decide (0 ≤ i2141) then (
bif decide (i2141 < (4 : Int)) then (
let i2149 : Int := (a2147 ((Int.toNat i2141)))
bif decide (0 ≤ i2148) then (
bif decide (i2148 < (16 : Int)) then (
let a2150 : (Nat → Int) := (upd a2144 ((Int.toNat i2148)) i2149)
let i2151 : Int := addA .i64 i2141 1
rec (((), (), l2138, (), i2139, (), i2140, (), (), i2151, ()), (a2142, a2143, a2150, a2145, a2146, a2147, ()))) else none) else none) else none) else none) else none) else none) else (
κ0 (((), (), l2138, (), i2139, (), i2140, ()), (a2142, a2143, a2144, a2145, ())))
def l_16_21 {R : Type} (N : Nat) : Nat → ((Unit × Unit × (List Int) × Unit × Int × Unit × Int × Unit × Unit × Int × Unit) × ((Nat → Int) × (Nat → Int) × (Nat → Int) × (Nat → Int) × (Nat → Int) × (Nat → Int) × Unit)) → (((Unit × Unit × (List Int) × Unit × Int × Unit × Int × Unit) × ((Nat → Int) × (Nat → Int) × (Nat → Int) × (Nat → Int) × Unit)) → Option R) → Option R
  | 0, _, _ => none
  | n + 1, x, κ0 => B_16_21 N (fun y => l_16_21 N n y κ0) x κ0
def lv_16_16 : Live := [(6, none), (10, none), (11, none), (13, none), (15, none), (16, none), (17, none)]
def pt_16_16 : SPat := ⟨[(6, .ptr 0 []), (10, .ptr 1 []), (11, .ros (.int .u64)), (13, .ptr 2 []), (15, .int .i64), (16, .ptr 3 []), (17, .int .i64)], [some (.vec (.int .u64) 8, 23), some (.vec (.int .u64) 8, 23), some (.vec (.int .u64) 16, 97), some (.vec (.int .i64) 16, 38)]⟩
def px_16_16_0 : SPat := ⟨[(6, .ptr 0 []), (10, .ptr 1 []), (11, .ros (.int .u64)), (13, .ptr 2 []), (15, .int .i64)], [some (.vec (.int .u64) 8, 23), some (.vec (.int .u64) 8, 23), some (.vec (.int .u64) 16, 97)]⟩
def lo_16_16 : Exit → Live
  | .exit 4 => [(6, none), (10, none), (11, none), (13, none), (15, none)]
  | _ => []
def B_16_16 {R : Type} (N : Nat) (rec : ((Unit × Unit × (List Int) × Unit × Int × Unit × Int × Unit) × ((Nat → Int) × (Nat → Int) × (Nat → Int) × (Nat → Int) × Unit)) → Option R) (x : ((Unit × Unit × (List Int) × Unit × Int × Unit × Int × Unit) × ((Nat → Int) × (Nat → Int) × (Nat → Int) × (Nat → Int) × Unit))) (κ0 : ((Unit × Unit × (List Int) × Unit × Int × Unit) × ((Nat → Int) × (Nat → Int) × (Nat → Int) × Unit)) → Option R) : Option R :=
let l2111 : (List Int) := x.1.2.2.1
let i2112 : Int := x.1.2.2.2.2.1
let i2113 : Int := x.1.2.2.2.2.2.2.1
let a2114 : (Nat → Int) := x.2.1
let a2115 : (Nat → Int) := x.2.2.1
let a2116 : (Nat → Int) := x.2.2.2.1
let a2117 : (Nat → Int) := x.2.2.2.2.1
bif (decide (i2113 < 8)) then (
p_50 N ((i2113, ()), ()) (fun y2118 =>
let a2119 : (Nat → Int) := y2118
let i2120 : Int := (a2119 0)
bif decide (0 ≤ i2120) then (
bif decide (i2120 < (16 : Int)) then (
let i2121 : Int := (a2116 ((Int.toNat i2120)))
let i2122 : Int := (a2119 1)
bif decide (0 ≤ i2122) then (
bif decide (i2122 < (16 : Int)) then (
let i2123 : Int := (a2116 ((Int.toNat i2122)))
let i2124 : Int := (a2119 2)
bif decide (0 ≤ i2124) then (
bif decide (i2124 < (16 : Int)) then (
let i2125 : Int := (a2116 ((Int.toNat i2124)))
let i2126 : Int := (a2119 3)
bif decide (0 ≤ i2126) then (
bif decide (i2126 < (16 : Int)) then (
let i2127 : Int := (a2116 ((Int.toNat i2126)))
let a2128 : (Nat → Int) := (upd ((upd ((upd ((upd ((Sch.zero (.arr 4 (.int .u64)))) 0 i2121)) 1 i2123)) 2 i2125)) 3 i2127)
let i2129 : Int := mulA .i64 2 i2113
bif decide (0 ≤ i2129) then (
bif decide (i2129 < (16 : Int)) then (
let i2130 : Int := (a2117 ((Int.toNat i2129)))
bif decide (0 ≤ i2130) then (
bif decide (i2130 < ((List.length l2111) : Int)) then (
let p2131 : Int := (List.getD l2111 ((Int.toNat i2130)) (Sch.zero (.int .u64)))
let i2132 : Int := mulA .i64 2 i2113
let i2133 : Int := addA .i64 i2132 1
bif decide (0 ≤ i2133) then (
bif decide (i2133 < (16 : Int)) then (
let i2134 : Int := (a2117 ((Int.toNat i2133)))
bif decide (0 ≤ i2134) then (
bif decide (i2134 < ((List.length l2111) : Int)) then (
let p2135 : Int := (List.getD l2111 ((Int.toNat i2134)) (Sch.zero (.int .u64)))
p_18 N ((a2128, p2131, p2135, ()), ()) (fun y2136 =>
let a2137 : (Nat → Int) := y2136
l_16_21 N N (((), (), l2111, (), i2112, (), i2113, (), (), 0, ()), (a2114, a2115, a2116, a2117, a2119, a2137, ())) (fun y2152 =>
let l2153 : (List Int) := y2152.1.2.2.1
let i2154 : Int := y2152.1.2.2.2.2.1
let i2155 : Int := y2152.1.2.2.2.2.2.2.1
let a2156 : (Nat → Int) := y2152.2.1
let a2157 : (Nat → Int) := y2152.2.2.1
let a2158 : (Nat → Int) := y2152.2.2.2.1
let a2159 : (Nat → Int) := y2152.2.2.2.2.1
let i2160 : Int := addA .i64 i2155 1
rec (((), (), l2153, (), i2154, (), i2160, ()), (a2156, a2157, a2158, a2159, ()))))) else none) else none) else none) else none) else none) else none) else none) else none) else none) else none) else none) else none) else none) else none) else none) else none)) else (
κ0 (((), (), l2111, (), i2112, ()), (a2114, a2115, a2116, ())))
def l_16_16 {R : Type} (N : Nat) : Nat → ((Unit × Unit × (List Int) × Unit × Int × Unit × Int × Unit) × ((Nat → Int) × (Nat → Int) × (Nat → Int) × (Nat → Int) × Unit)) → (((Unit × Unit × (List Int) × Unit × Int × Unit) × ((Nat → Int) × (Nat → Int) × (Nat → Int) × Unit)) → Option R) → Option R
  | 0, _, _ => none
  | n + 1, x, κ0 => B_16_16 N (fun y => l_16_16 N n y κ0) x κ0
def lv_16_12 : Live := [(6, none), (10, none), (11, none), (13, none), (15, none)]
def pt_16_12 : SPat := ⟨[(6, .ptr 0 []), (10, .ptr 1 []), (11, .ros (.int .u64)), (13, .ptr 2 []), (15, .int .i64)], [some (.vec (.int .u64) 8, 23), some (.vec (.int .u64) 8, 23), some (.vec (.int .u64) 16, 97)]⟩
def px_16_12_0 : SPat := ⟨[(6, .ptr 0 []), (10, .ptr 1 []), (13, .ptr 2 [])], [some (.vec (.int .u64) 8, 23), some (.vec (.int .u64) 8, 23), some (.vec (.int .u64) 16, 97)]⟩
def lo_16_12 : Exit → Live
  | .exit 2 => [(6, none), (10, none), (13, none)]
  | _ => []
def B_16_12 {R : Type} (N : Nat) (rec : ((Unit × Unit × (List Int) × Unit × Int × Unit) × ((Nat → Int) × (Nat → Int) × (Nat → Int) × Unit)) → Option R) (x : ((Unit × Unit × (List Int) × Unit × Int × Unit) × ((Nat → Int) × (Nat → Int) × (Nat → Int) × Unit))) (κ0 : ((Unit × Unit × Unit × Unit) × ((Nat → Int) × (Nat → Int) × (Nat → Int) × Unit)) → Option R) : Option R :=
let l2104 : (List Int) := x.1.2.2.1
let i2105 : Int := x.1.2.2.2.2.1
let a2106 : (Nat → Int) := x.2.1
let a2107 : (Nat → Int) := x.2.2.1
let a2108 : (Nat → Int) := x.2.2.2.1
bif (decide (i2105 < 12)) then (
p_20 N ((i2105, ()), ()) (fun y2109 =>
let a2110 : (Nat → Int) := y2109
l_16_16 N N (((), (), l2104, (), i2105, (), 0, ()), (a2106, a2107, a2108, a2110, ())) (fun y2161 =>
let l2162 : (List Int) := y2161.1.2.2.1
let i2163 : Int := y2161.1.2.2.2.2.1
let a2164 : (Nat → Int) := y2161.2.1
let a2165 : (Nat → Int) := y2161.2.2.1
let a2166 : (Nat → Int) := y2161.2.2.2.1
let i2167 : Int := addA .i64 i2163 1
rec (((), (), l2162, (), i2167, ()), (a2164, a2165, a2166, ()))))) else (
κ0 (((), (), (), ()), (a2106, a2107, a2108, ())))
def l_16_12 {R : Type} (N : Nat) : Nat → ((Unit × Unit × (List Int) × Unit × Int × Unit) × ((Nat → Int) × (Nat → Int) × (Nat → Int) × Unit)) → (((Unit × Unit × Unit × Unit) × ((Nat → Int) × (Nat → Int) × (Nat → Int) × Unit)) → Option R) → Option R
  | 0, _, _ => none
  | n + 1, x, κ0 => B_16_12 N (fun y => l_16_12 N n y κ0) x κ0
def lv_16_25 : Live := [(6, none), (10, none), (13, none), (21, none)]
def pt_16_25 : SPat := ⟨[(6, .ptr 0 []), (10, .ptr 1 []), (13, .ptr 2 []), (21, .int .i64)], [some (.vec (.int .u64) 8, 23), some (.vec (.int .u64) 8, 23), some (.vec (.int .u64) 16, 97)]⟩
def px_16_25_0 : SPat := ⟨[(6, .ptr 0 []), (10, .ptr 1 [])], [some (.vec (.int .u64) 8, 23), some (.vec (.int .u64) 8, 23)]⟩
def lo_16_25 : Exit → Live
  | .exit 8 => [(6, none), (10, none)]
  | _ => []
def B_16_25 {R : Type} (N : Nat) (rec : ((Unit × Unit × Unit × Int × Unit) × ((Nat → Int) × (Nat → Int) × (Nat → Int) × Unit)) → Option R) (x : ((Unit × Unit × Unit × Int × Unit) × ((Nat → Int) × (Nat → Int) × (Nat → Int) × Unit))) (κ0 : ((Unit × Unit × Unit) × ((Nat → Int) × (Nat → Int) × Unit)) → Option R) : Option R :=
let i2172 : Int := x.1.2.2.2.1
let a2173 : (Nat → Int) := x.2.1
let a2174 : (Nat → Int) := x.2.2.1
let a2175 : (Nat → Int) := x.2.2.2.1
bif (decide (i2172 < 8)) then (
bif decide (0 ≤ i2172) then (
bif decide (i2172 < (8 : Int)) then (
let i2176 : Int := (a2173 ((Int.toNat i2172)))
bif decide (0 ≤ i2172) then (
bif decide (i2172 < (16 : Int)) then (
let i2177 : Int := (a2175 ((Int.toNat i2172)))
let i2178 : Int := xorA .u64 i2176 i2177
let i2179 : Int := addA .i64 i2172 8
bif decide (0 ≤ i2179) then (
bif decide (i2179 < (16 : Int)) then (
let i2180 : Int := (a2175 ((Int.toNat i2179)))
let i2181 : Int := xorA .u64 i2178 i2180
bif decide (0 ≤ i2172) then (
bif decide (i2172 < (8 : Int)) then (
let a2182 : (Nat → Int) := (upd a2173 ((Int.toNat i2172)) i2181)
let i2183 : Int := addA .i64 i2172 1
rec (((), (), (), i2183, ()), (a2182, a2174, a2175, ()))) else none) else none) else none) else none) else none) else none) else none) else none) else (
κ0 (((), (), ()), (a2173, a2174, ())))
def l_16_25 {R : Type} (N : Nat) : Nat → ((Unit × Unit × Unit × Int × Unit) × ((Nat → Int) × (Nat → Int) × (Nat → Int) × Unit)) → (((Unit × Unit × Unit) × ((Nat → Int) × (Nat → Int) × Unit)) → Option R) → Option R
  | 0, _, _ => none
  | n + 1, x, κ0 => B_16_25 N (fun y => l_16_25 N n y κ0) x κ0
def ap_16 : List Pat := [.vec (.int .u64) 8, .vec (.int .u64) 8, .str, .int .u64, .bool]
def hp_16 : List (Option (Pat × Nat)) := []
def p_16 {R : Type} (N : Nat) (x : ((Nat → Int) × (Nat → Int) × ByteArray × Int × Bool × Unit) × (Unit)) (κ0 : (Nat → Int) → Option R) : Option R :=
let a1827 : (Nat → Int) := x.1.1
let a1828 : (Nat → Int) := x.1.2.1
let s1829 : ByteArray := x.1.2.2.1
let i1830 : Int := x.1.2.2.2.1
let b1831 : Bool := x.1.2.2.2.2.1
bif decide (ByteArray.size s1829 ≤ maxI64) then (
let l1832 : (List Int) := strList s1829
p_49 N (((), 8, ()), (l1832, ())) (fun y1890 =>
let l1891 : (List Int) := y1890.1.1
let b1892 : Bool := y1890.1.2.1
let l1893 : (List Int) := y1890.2.1
l_16_4 N N ((i1830, b1831, (), (), (), l1891, (), 0, ()), (a1827, a1828, (Sch.zero (.arr 8 (.int .u64))), (Sch.zero (.arr 16 (.int .u64))), ())) (fun y1908 =>
let i1909 : Int := y1908.1.1
let b1910 : Bool := y1908.1.2.1
let l1911 : (List Int) := y1908.1.2.2.2.2.1
let a1912 : (Nat → Int) := y1908.2.1
let a1913 : (Nat → Int) := y1908.2.2.1
let a1914 : (Nat → Int) := y1908.2.2.2.1
let i1915 : Int := (a1914 12)
let i1916 : Int := xorA .u64 i1915 i1909
let a1917 : (Nat → Int) := (upd a1914 12 i1916)
bif b1910 then (
let i1918 : Int := (a1917 14)
let i1919 : Int := subA .u64 18446744073709551615 i1918
let a1920 : (Nat → Int) := (upd a1917 14 i1919)
l_16_12 N N (((), (), l1911, (), 0, ()), (a1912, a1913, a1920, ())) (fun y2085 =>
let a2086 : (Nat → Int) := y2085.2.1
let a2087 : (Nat → Int) := y2085.2.2.1
let a2088 : (Nat → Int) := y2085.2.2.2.1
l_16_25 N N (((), (), (), 0, ()), (a2086, a2087, a2088, ())) (fun y2101 =>
let a2102 : (Nat → Int) := y2101.2.1
let a2103 : (Nat → Int) := y2101.2.2.1
κ0 a2102))) else (
l_16_12 N N (((), (), l1911, (), 0, ()), (a1912, a1913, a1917, ())) (fun y2168 =>
let a2169 : (Nat → Int) := y2168.2.1
let a2170 : (Nat → Int) := y2168.2.2.1
let a2171 : (Nat → Int) := y2168.2.2.2.1
l_16_25 N N (((), (), (), 0, ()), (a2169, a2170, a2171, ())) (fun y2184 =>
let a2185 : (Nat → Int) := y2184.2.1
let a2186 : (Nat → Int) := y2184.2.2.1
κ0 a2185)))))) else none

abbrev Tl_16_4 (R : Type) : Type := ((Int × Bool × Unit × Unit × Unit × (List Int) × Unit × Int × Unit) × ((Nat → Int) × (Nat → Int) × (Nat → Int) × (Nat → Int) × Unit)) → (((Int × Bool × Unit × Unit × (List Int) × Unit × Unit) × ((Nat → Int) × (Nat → Int) × (Nat → Int) × Unit)) → Option R) → Option R
abbrev Tl_16_21 (R : Type) : Type := ((Unit × Unit × (List Int) × Unit × Int × Unit × Int × Unit × Unit × Int × Unit) × ((Nat → Int) × (Nat → Int) × (Nat → Int) × (Nat → Int) × (Nat → Int) × (Nat → Int) × Unit)) → (((Unit × Unit × (List Int) × Unit × Int × Unit × Int × Unit) × ((Nat → Int) × (Nat → Int) × (Nat → Int) × (Nat → Int) × Unit)) → Option R) → Option R
abbrev Tl_16_16 (R : Type) : Type := ((Unit × Unit × (List Int) × Unit × Int × Unit × Int × Unit) × ((Nat → Int) × (Nat → Int) × (Nat → Int) × (Nat → Int) × Unit)) → (((Unit × Unit × (List Int) × Unit × Int × Unit) × ((Nat → Int) × (Nat → Int) × (Nat → Int) × Unit)) → Option R) → Option R
abbrev Tl_16_12 (R : Type) : Type := ((Unit × Unit × (List Int) × Unit × Int × Unit) × ((Nat → Int) × (Nat → Int) × (Nat → Int) × Unit)) → (((Unit × Unit × Unit × Unit) × ((Nat → Int) × (Nat → Int) × (Nat → Int) × Unit)) → Option R) → Option R
abbrev Tl_16_25 (R : Type) : Type := ((Unit × Unit × Unit × Int × Unit) × ((Nat → Int) × (Nat → Int) × (Nat → Int) × Unit)) → (((Unit × Unit × Unit) × ((Nat → Int) × (Nat → Int) × Unit)) → Option R) → Option R
abbrev Tp_16 (R : Type) : Type := ((Nat → Int) × (Nat → Int) × ByteArray × Int × Bool × Unit) × (Unit) → ((Nat → Int) → Option R) → Option R
def Q_16 {R : Type} (q_49 : Tp_49 R) (q_50 : Tp_50 R) (q_18 : Tp_18 R) (q_20 : Tp_20 R) (m_16_4 : Tl_16_4 R) (m_16_21 : Tl_16_21 R) (m_16_16 : Tl_16_16 R) (m_16_12 : Tl_16_12 R) (m_16_25 : Tl_16_25 R) (x : ((Nat → Int) × (Nat → Int) × ByteArray × Int × Bool × Unit) × (Unit)) (κ0 : (Nat → Int) → Option R) : Option R :=
let a1827 : (Nat → Int) := x.1.1
let a1828 : (Nat → Int) := x.1.2.1
let s1829 : ByteArray := x.1.2.2.1
let i1830 : Int := x.1.2.2.2.1
let b1831 : Bool := x.1.2.2.2.2.1
bif decide (ByteArray.size s1829 ≤ maxI64) then (
let l1832 : (List Int) := strList s1829
q_49 (((), 8, ()), (l1832, ())) (fun y1890 =>
let l1891 : (List Int) := y1890.1.1
let b1892 : Bool := y1890.1.2.1
let l1893 : (List Int) := y1890.2.1
m_16_4 ((i1830, b1831, (), (), (), l1891, (), 0, ()), (a1827, a1828, (Sch.zero (.arr 8 (.int .u64))), (Sch.zero (.arr 16 (.int .u64))), ())) (fun y1908 =>
let i1909 : Int := y1908.1.1
let b1910 : Bool := y1908.1.2.1
let l1911 : (List Int) := y1908.1.2.2.2.2.1
let a1912 : (Nat → Int) := y1908.2.1
let a1913 : (Nat → Int) := y1908.2.2.1
let a1914 : (Nat → Int) := y1908.2.2.2.1
let i1915 : Int := (a1914 12)
let i1916 : Int := xorA .u64 i1915 i1909
let a1917 : (Nat → Int) := (upd a1914 12 i1916)
bif b1910 then (
let i1918 : Int := (a1917 14)
let i1919 : Int := subA .u64 18446744073709551615 i1918
let a1920 : (Nat → Int) := (upd a1917 14 i1919)
m_16_12 (((), (), l1911, (), 0, ()), (a1912, a1913, a1920, ())) (fun y2085 =>
let a2086 : (Nat → Int) := y2085.2.1
let a2087 : (Nat → Int) := y2085.2.2.1
let a2088 : (Nat → Int) := y2085.2.2.2.1
m_16_25 (((), (), (), 0, ()), (a2086, a2087, a2088, ())) (fun y2101 =>
let a2102 : (Nat → Int) := y2101.2.1
let a2103 : (Nat → Int) := y2101.2.2.1
κ0 a2102))) else (
m_16_12 (((), (), l1911, (), 0, ()), (a1912, a1913, a1917, ())) (fun y2168 =>
let a2169 : (Nat → Int) := y2168.2.1
let a2170 : (Nat → Int) := y2168.2.2.1
let a2171 : (Nat → Int) := y2168.2.2.2.1
m_16_25 (((), (), (), 0, ()), (a2169, a2170, a2171, ())) (fun y2184 =>
let a2185 : (Nat → Int) := y2184.2.1
let a2186 : (Nat → Int) := y2184.2.2.1
κ0 a2185)))))) else none
def C_16_4 {R : Type} (q_49 : Tp_49 R) (q_50 : Tp_50 R) (q_18 : Tp_18 R) (q_20 : Tp_20 R) (m_16_4 : Tl_16_4 R) (m_16_21 : Tl_16_21 R) (m_16_16 : Tl_16_16 R) (m_16_12 : Tl_16_12 R) (m_16_25 : Tl_16_25 R) (rec : ((Int × Bool × Unit × Unit × Unit × (List Int) × Unit × Int × Unit) × ((Nat → Int) × (Nat → Int) × (Nat → Int) × (Nat → Int) × Unit)) → Option R) (x : ((Int × Bool × Unit × Unit × Unit × (List Int) × Unit × Int × Unit) × ((Nat → Int) × (Nat → Int) × (Nat → Int) × (Nat → Int) × Unit))) (κ0 : ((Int × Bool × Unit × Unit × (List Int) × Unit × Unit) × ((Nat → Int) × (Nat → Int) × (Nat → Int) × Unit)) → Option R) : Option R :=
let i1894 : Int := x.1.1
let b1895 : Bool := x.1.2.1
let l1896 : (List Int) := x.1.2.2.2.2.2.1
let i1897 : Int := x.1.2.2.2.2.2.2.2.1
let a1898 : (Nat → Int) := x.2.1
let a1899 : (Nat → Int) := x.2.2.1
let a1900 : (Nat → Int) := x.2.2.2.1
let a1901 : (Nat → Int) := x.2.2.2.2.1
bif (decide (i1897 < 8)) then (
bif decide (0 ≤ i1897) then (
bif decide (i1897 < (8 : Int)) then (
let i1902 : Int := (a1899 ((Int.toNat i1897)))
bif decide (0 ≤ i1897) then (
bif decide (i1897 < (16 : Int)) then (
let a1903 : (Nat → Int) := (upd a1901 ((Int.toNat i1897)) i1902)
let i1904 : Int := addA .i64 i1897 8
bif decide (0 ≤ i1897) then (
bif decide (i1897 < (8 : Int)) then (
let i1905 : Int := (a1898 ((Int.toNat i1897)))
bif decide (0 ≤ i1904) then (
bif decide (i1904 < (16 : Int)) then (
let a1906 : (Nat → Int) := (upd a1903 ((Int.toNat i1904)) i1905)
let i1907 : Int := addA .i64 i1897 1
rec ((i1894, b1895, (), (), (), l1896, (), i1907, ()), (a1898, a1899, a1900, a1906, ()))) else none) else none) else none) else none) else none) else none) else none) else none) else (
κ0 ((i1894, b1895, (), (), l1896, (), ()), (a1899, a1900, a1901, ())))
def C_16_21 {R : Type} (q_49 : Tp_49 R) (q_50 : Tp_50 R) (q_18 : Tp_18 R) (q_20 : Tp_20 R) (m_16_4 : Tl_16_4 R) (m_16_21 : Tl_16_21 R) (m_16_16 : Tl_16_16 R) (m_16_12 : Tl_16_12 R) (m_16_25 : Tl_16_25 R) (rec : ((Unit × Unit × (List Int) × Unit × Int × Unit × Int × Unit × Unit × Int × Unit) × ((Nat → Int) × (Nat → Int) × (Nat → Int) × (Nat → Int) × (Nat → Int) × (Nat → Int) × Unit)) → Option R) (x : ((Unit × Unit × (List Int) × Unit × Int × Unit × Int × Unit × Unit × Int × Unit) × ((Nat → Int) × (Nat → Int) × (Nat → Int) × (Nat → Int) × (Nat → Int) × (Nat → Int) × Unit))) (κ0 : ((Unit × Unit × (List Int) × Unit × Int × Unit × Int × Unit) × ((Nat → Int) × (Nat → Int) × (Nat → Int) × (Nat → Int) × Unit)) → Option R) : Option R :=
let l2138 : (List Int) := x.1.2.2.1
let i2139 : Int := x.1.2.2.2.2.1
let i2140 : Int := x.1.2.2.2.2.2.2.1
let i2141 : Int := x.1.2.2.2.2.2.2.2.2.2.1
let a2142 : (Nat → Int) := x.2.1
let a2143 : (Nat → Int) := x.2.2.1
let a2144 : (Nat → Int) := x.2.2.2.1
let a2145 : (Nat → Int) := x.2.2.2.2.1
let a2146 : (Nat → Int) := x.2.2.2.2.2.1
let a2147 : (Nat → Int) := x.2.2.2.2.2.2.1
bif (decide (i2141 < 4)) then (
bif decide (0 ≤ i2141) then (
bif decide (i2141 < (4 : Int)) then (
let i2148 : Int := (a2146 ((Int.toNat i2141)))
bif decide (0 ≤ i2141) then (
bif decide (i2141 < (4 : Int)) then (
let i2149 : Int := (a2147 ((Int.toNat i2141)))
bif decide (0 ≤ i2148) then (
bif decide (i2148 < (16 : Int)) then (
let a2150 : (Nat → Int) := (upd a2144 ((Int.toNat i2148)) i2149)
let i2151 : Int := addA .i64 i2141 1
rec (((), (), l2138, (), i2139, (), i2140, (), (), i2151, ()), (a2142, a2143, a2150, a2145, a2146, a2147, ()))) else none) else none) else none) else none) else none) else none) else (
κ0 (((), (), l2138, (), i2139, (), i2140, ()), (a2142, a2143, a2144, a2145, ())))
def C_16_16 {R : Type} (q_49 : Tp_49 R) (q_50 : Tp_50 R) (q_18 : Tp_18 R) (q_20 : Tp_20 R) (m_16_4 : Tl_16_4 R) (m_16_21 : Tl_16_21 R) (m_16_16 : Tl_16_16 R) (m_16_12 : Tl_16_12 R) (m_16_25 : Tl_16_25 R) (rec : ((Unit × Unit × (List Int) × Unit × Int × Unit × Int × Unit) × ((Nat → Int) × (Nat → Int) × (Nat → Int) × (Nat → Int) × Unit)) → Option R) (x : ((Unit × Unit × (List Int) × Unit × Int × Unit × Int × Unit) × ((Nat → Int) × (Nat → Int) × (Nat → Int) × (Nat → Int) × Unit))) (κ0 : ((Unit × Unit × (List Int) × Unit × Int × Unit) × ((Nat → Int) × (Nat → Int) × (Nat → Int) × Unit)) → Option R) : Option R :=
let l2111 : (List Int) := x.1.2.2.1
let i2112 : Int := x.1.2.2.2.2.1
let i2113 : Int := x.1.2.2.2.2.2.2.1
let a2114 : (Nat → Int) := x.2.1
let a2115 : (Nat → Int) := x.2.2.1
let a2116 : (Nat → Int) := x.2.2.2.1
let a2117 : (Nat → Int) := x.2.2.2.2.1
bif (decide (i2113 < 8)) then (
q_50 ((i2113, ()), ()) (fun y2118 =>
let a2119 : (Nat → Int) := y2118
let i2120 : Int := (a2119 0)
bif decide (0 ≤ i2120) then (
bif decide (i2120 < (16 : Int)) then (
let i2121 : Int := (a2116 ((Int.toNat i2120)))
let i2122 : Int := (a2119 1)
bif decide (0 ≤ i2122) then (
bif decide (i2122 < (16 : Int)) then (
let i2123 : Int := (a2116 ((Int.toNat i2122)))
let i2124 : Int := (a2119 2)
bif decide (0 ≤ i2124) then (
bif decide (i2124 < (16 : Int)) then (
let i2125 : Int := (a2116 ((Int.toNat i2124)))
let i2126 : Int := (a2119 3)
bif decide (0 ≤ i2126) then (
bif decide (i2126 < (16 : Int)) then (
let i2127 : Int := (a2116 ((Int.toNat i2126)))
let a2128 : (Nat → Int) := (upd ((upd ((upd ((upd ((Sch.zero (.arr 4 (.int .u64)))) 0 i2121)) 1 i2123)) 2 i2125)) 3 i2127)
let i2129 : Int := mulA .i64 2 i2113
bif decide (0 ≤ i2129) then (
bif decide (i2129 < (16 : Int)) then (
let i2130 : Int := (a2117 ((Int.toNat i2129)))
bif decide (0 ≤ i2130) then (
bif decide (i2130 < ((List.length l2111) : Int)) then (
let p2131 : Int := (List.getD l2111 ((Int.toNat i2130)) (Sch.zero (.int .u64)))
let i2132 : Int := mulA .i64 2 i2113
let i2133 : Int := addA .i64 i2132 1
bif decide (0 ≤ i2133) then (
bif decide (i2133 < (16 : Int)) then (
let i2134 : Int := (a2117 ((Int.toNat i2133)))
bif decide (0 ≤ i2134) then (
bif decide (i2134 < ((List.length l2111) : Int)) then (
let p2135 : Int := (List.getD l2111 ((Int.toNat i2134)) (Sch.zero (.int .u64)))
q_18 ((a2128, p2131, p2135, ()), ()) (fun y2136 =>
let a2137 : (Nat → Int) := y2136
m_16_21 (((), (), l2111, (), i2112, (), i2113, (), (), 0, ()), (a2114, a2115, a2116, a2117, a2119, a2137, ())) (fun y2152 =>
let l2153 : (List Int) := y2152.1.2.2.1
let i2154 : Int := y2152.1.2.2.2.2.1
let i2155 : Int := y2152.1.2.2.2.2.2.2.1
let a2156 : (Nat → Int) := y2152.2.1
let a2157 : (Nat → Int) := y2152.2.2.1
let a2158 : (Nat → Int) := y2152.2.2.2.1
let a2159 : (Nat → Int) := y2152.2.2.2.2.1
let i2160 : Int := addA .i64 i2155 1
rec (((), (), l2153, (), i2154, (), i2160, ()), (a2156, a2157, a2158, a2159, ()))))) else none) else none) else none) else none) else none) else none) else none) else none) else none) else none) else none) else none) else none) else none) else none) else none)) else (
κ0 (((), (), l2111, (), i2112, ()), (a2114, a2115, a2116, ())))
def C_16_12 {R : Type} (q_49 : Tp_49 R) (q_50 : Tp_50 R) (q_18 : Tp_18 R) (q_20 : Tp_20 R) (m_16_4 : Tl_16_4 R) (m_16_21 : Tl_16_21 R) (m_16_16 : Tl_16_16 R) (m_16_12 : Tl_16_12 R) (m_16_25 : Tl_16_25 R) (rec : ((Unit × Unit × (List Int) × Unit × Int × Unit) × ((Nat → Int) × (Nat → Int) × (Nat → Int) × Unit)) → Option R) (x : ((Unit × Unit × (List Int) × Unit × Int × Unit) × ((Nat → Int) × (Nat → Int) × (Nat → Int) × Unit))) (κ0 : ((Unit × Unit × Unit × Unit) × ((Nat → Int) × (Nat → Int) × (Nat → Int) × Unit)) → Option R) : Option R :=
let l2104 : (List Int) := x.1.2.2.1
let i2105 : Int := x.1.2.2.2.2.1
let a2106 : (Nat → Int) := x.2.1
let a2107 : (Nat → Int) := x.2.2.1
let a2108 : (Nat → Int) := x.2.2.2.1
bif (decide (i2105 < 12)) then (
q_20 ((i2105, ()), ()) (fun y2109 =>
let a2110 : (Nat → Int) := y2109
m_16_16 (((), (), l2104, (), i2105, (), 0, ()), (a2106, a2107, a2108, a2110, ())) (fun y2161 =>
let l2162 : (List Int) := y2161.1.2.2.1
let i2163 : Int := y2161.1.2.2.2.2.1
let a2164 : (Nat → Int) := y2161.2.1
let a2165 : (Nat → Int) := y2161.2.2.1
let a2166 : (Nat → Int) := y2161.2.2.2.1
let i2167 : Int := addA .i64 i2163 1
rec (((), (), l2162, (), i2167, ()), (a2164, a2165, a2166, ()))))) else (
κ0 (((), (), (), ()), (a2106, a2107, a2108, ())))
def C_16_25 {R : Type} (q_49 : Tp_49 R) (q_50 : Tp_50 R) (q_18 : Tp_18 R) (q_20 : Tp_20 R) (m_16_4 : Tl_16_4 R) (m_16_21 : Tl_16_21 R) (m_16_16 : Tl_16_16 R) (m_16_12 : Tl_16_12 R) (m_16_25 : Tl_16_25 R) (rec : ((Unit × Unit × Unit × Int × Unit) × ((Nat → Int) × (Nat → Int) × (Nat → Int) × Unit)) → Option R) (x : ((Unit × Unit × Unit × Int × Unit) × ((Nat → Int) × (Nat → Int) × (Nat → Int) × Unit))) (κ0 : ((Unit × Unit × Unit) × ((Nat → Int) × (Nat → Int) × Unit)) → Option R) : Option R :=
let i2172 : Int := x.1.2.2.2.1
let a2173 : (Nat → Int) := x.2.1
let a2174 : (Nat → Int) := x.2.2.1
let a2175 : (Nat → Int) := x.2.2.2.1
bif (decide (i2172 < 8)) then (
bif decide (0 ≤ i2172) then (
bif decide (i2172 < (8 : Int)) then (
let i2176 : Int := (a2173 ((Int.toNat i2172)))
bif decide (0 ≤ i2172) then (
bif decide (i2172 < (16 : Int)) then (
let i2177 : Int := (a2175 ((Int.toNat i2172)))
let i2178 : Int := xorA .u64 i2176 i2177
let i2179 : Int := addA .i64 i2172 8
bif decide (0 ≤ i2179) then (
bif decide (i2179 < (16 : Int)) then (
let i2180 : Int := (a2175 ((Int.toNat i2179)))
let i2181 : Int := xorA .u64 i2178 i2180
bif decide (0 ≤ i2172) then (
bif decide (i2172 < (8 : Int)) then (
let a2182 : (Nat → Int) := (upd a2173 ((Int.toNat i2172)) i2181)
let i2183 : Int := addA .i64 i2172 1
rec (((), (), (), i2183, ()), (a2182, a2174, a2175, ()))) else none) else none) else none) else none) else none) else none) else none) else none) else (
κ0 (((), (), ()), (a2173, a2174, ())))
def EG_16 {R : Type} (q_49 : Tp_49 R) (q_50 : Tp_50 R) (q_18 : Tp_18 R) (q_20 : Tp_20 R) : Env R := ((((Env.base QQ LN).add 49 ap_49 hp_49 (fun (x : aden ap_49 × hden hp_49) k => q_49 x (fun y => k (Pat.inst (.tup (.fcons (.ros (.int .u64)) (.fcons (.bool) (.fnil)))) y.1) (instH [some (.lst (.int .u8), 5)] y.2)))).add 50 ap_50 hp_50 (fun (x : aden ap_50 × hden hp_50) k => q_50 x (fun y => k (Pat.inst (.vec (.int .i64) 4) y) (instH hp_50 x.2)))).add 18 ap_18 hp_18 (fun (x : aden ap_18 × hden hp_18) k => q_18 x (fun y => k (Pat.inst (.vec (.int .u64) 4) y) (instH hp_18 x.2)))).add 20 ap_20 hp_20 (fun (x : aden ap_20 × hden hp_20) k => q_20 x (fun y => k (Pat.inst (.vec (.int .i64) 16) y) (instH hp_20 x.2)))
def LG_16 {R : Type} (m_16_4 : Tl_16_4 R) (m_16_21 : Tl_16_21 R) (m_16_16 : Tl_16_16 R) (m_16_12 : Tl_16_12 R) (m_16_25 : Tl_16_25 R) : Loops R := (((((Loops.none).add 4 (loopBy 0 lv_16_4 pt_16_4 (fun x k => m_16_4 x (fun y => k (.exit 0) (px_16_4_0.inst y))))).add 21 (loopBy 0 lv_16_21 pt_16_21 (fun x k => m_16_21 x (fun y => k (.exit 6) (px_16_21_0.inst y))))).add 16 (loopBy 0 lv_16_16 pt_16_16 (fun x k => m_16_16 x (fun y => k (.exit 4) (px_16_16_0.inst y))))).add 12 (loopBy 0 lv_16_12 pt_16_12 (fun x k => m_16_12 x (fun y => k (.exit 2) (px_16_12_0.inst y))))).add 25 (loopBy 0 lv_16_25 pt_16_25 (fun x k => m_16_25 x (fun y => k (.exit 8) (px_16_25_0.inst y))))
def E_16 {R : Type} (N : Nat) : Env R := EG_16 (p_49 N) (p_50 N) (p_18 N) (p_20 N)
theorem eok_16 {R : Type} (N : Nat) : EK Try.prog (E_16 (R := R) N) := ek_add (ek_add (ek_add (ek_add (ek_base _ _) (good_49 N)) (good_50 N)) (good_18 N)) (good_20 N)
def L_16 {R : Type} (N : Nat) : Loops R := LG_16 (l_16_4 N N) (l_16_21 N N) (l_16_16 N N) (l_16_12 N N) (l_16_25 N N)
theorem gstep_16_4 {R : Type} (q_49 : Tp_49 R) (q_50 : Tp_50 R) (q_18 : Tp_18 R) (q_20 : Tp_20 R) (m_16_4 : Tl_16_4 R) (m_16_21 : Tl_16_21 R) (m_16_16 : Tl_16_16 R) (m_16_12 : Tl_16_12 R) (m_16_25 : Tl_16_25 R) (n : Nat) (x : pt_16_4.den) (k : Exit → St → Option R) : iter 0 lv_16_4 lo_16_4 (aexec TT (EG_16 q_49 q_50 q_18 q_20) (drawAny TT WW) (LG_16 m_16_4 m_16_21 m_16_16 m_16_12 m_16_25) (loopAt 4 (bodyOf Try.f16))) (n + 1) (pt_16_4.inst x) k = C_16_4 q_49 q_50 q_18 q_20 m_16_4 m_16_21 m_16_16 m_16_12 m_16_25 (fun y => iter 0 lv_16_4 lo_16_4 (aexec TT (EG_16 q_49 q_50 q_18 q_20) (drawAny TT WW) (LG_16 m_16_4 m_16_21 m_16_16 m_16_12 m_16_25) (loopAt 4 (bodyOf Try.f16))) n (pt_16_4.inst y) k) x (fun y => k (.exit 0) (px_16_4_0.inst y)) := by kernel_rfl
theorem step_16_4 {R : Type} (N n : Nat) (x : pt_16_4.den) (k : Exit → St → Option R) : iter 0 lv_16_4 lo_16_4 (aexec TT (E_16 (R := R) N) (drawAny TT WW) (L_16 N) (loopAt 4 (bodyOf Try.f16))) (n + 1) (pt_16_4.inst x) k = B_16_4 N (fun y => iter 0 lv_16_4 lo_16_4 (aexec TT (E_16 (R := R) N) (drawAny TT WW) (L_16 N) (loopAt 4 (bodyOf Try.f16))) n (pt_16_4.inst y) k) x (fun y => k (.exit 0) (px_16_4_0.inst y)) := (gstep_16_4 (p_49 N) (p_50 N) (p_18 N) (p_20 N) (l_16_4 N N) (l_16_21 N N) (l_16_16 N N) (l_16_12 N N) (l_16_25 N N) n x k).trans (by kernel_rfl)
theorem eq_16_4 {R : Type} (N : Nat) : ∀ (n : Nat) (x : pt_16_4.den) (k : Exit → St → Option R), iter 0 lv_16_4 lo_16_4 (aexec TT (E_16 (R := R) N) (drawAny TT WW) (L_16 N) (loopAt 4 (bodyOf Try.f16))) n (pt_16_4.inst x) k = l_16_4 N n x (fun y => k (.exit 0) (px_16_4_0.inst y)) :=
  iter_eq (K := Exit → St → Option R) (ks := fun k => k) (l := fun n (x : pt_16_4.den) k => l_16_4 N n x (fun y => k (.exit 0) (px_16_4_0.inst y))) (B := fun (rec : pt_16_4.den → Option R) (x : pt_16_4.den) k => B_16_4 N rec x (fun y => k (.exit 0) (px_16_4_0.inst y))) (fun _ _ => rfl) (fun _ _ _ => rfl) (fun n x k => step_16_4 N n x k)
theorem rounds_16_4 {R : Type} (N : Nat) : Rounds 0 TT (E_16 (R := R) N) (drawAny TT WW) (L_16 N) 4 (loopAt 4 (bodyOf Try.f16)) :=
  rounds_of (p := pt_16_4) (l := fun (x : pt_16_4.den) k => l_16_4 N N x (fun y => k (.exit 0) (px_16_4_0.inst y))) (fun s k => rfl) (fun x k => eq_16_4 N N x k)
theorem gstep_16_21 {R : Type} (q_49 : Tp_49 R) (q_50 : Tp_50 R) (q_18 : Tp_18 R) (q_20 : Tp_20 R) (m_16_4 : Tl_16_4 R) (m_16_21 : Tl_16_21 R) (m_16_16 : Tl_16_16 R) (m_16_12 : Tl_16_12 R) (m_16_25 : Tl_16_25 R) (n : Nat) (x : pt_16_21.den) (k : Exit → St → Option R) : iter 0 lv_16_21 lo_16_21 (aexec TT (EG_16 q_49 q_50 q_18 q_20) (drawAny TT WW) (LG_16 m_16_4 m_16_21 m_16_16 m_16_12 m_16_25) (loopAt 21 (bodyOf Try.f16))) (n + 1) (pt_16_21.inst x) k = C_16_21 q_49 q_50 q_18 q_20 m_16_4 m_16_21 m_16_16 m_16_12 m_16_25 (fun y => iter 0 lv_16_21 lo_16_21 (aexec TT (EG_16 q_49 q_50 q_18 q_20) (drawAny TT WW) (LG_16 m_16_4 m_16_21 m_16_16 m_16_12 m_16_25) (loopAt 21 (bodyOf Try.f16))) n (pt_16_21.inst y) k) x (fun y => k (.exit 6) (px_16_21_0.inst y)) := by kernel_rfl
theorem step_16_21 {R : Type} (N n : Nat) (x : pt_16_21.den) (k : Exit → St → Option R) : iter 0 lv_16_21 lo_16_21 (aexec TT (E_16 (R := R) N) (drawAny TT WW) (L_16 N) (loopAt 21 (bodyOf Try.f16))) (n + 1) (pt_16_21.inst x) k = B_16_21 N (fun y => iter 0 lv_16_21 lo_16_21 (aexec TT (E_16 (R := R) N) (drawAny TT WW) (L_16 N) (loopAt 21 (bodyOf Try.f16))) n (pt_16_21.inst y) k) x (fun y => k (.exit 6) (px_16_21_0.inst y)) := (gstep_16_21 (p_49 N) (p_50 N) (p_18 N) (p_20 N) (l_16_4 N N) (l_16_21 N N) (l_16_16 N N) (l_16_12 N N) (l_16_25 N N) n x k).trans (by kernel_rfl)
theorem eq_16_21 {R : Type} (N : Nat) : ∀ (n : Nat) (x : pt_16_21.den) (k : Exit → St → Option R), iter 0 lv_16_21 lo_16_21 (aexec TT (E_16 (R := R) N) (drawAny TT WW) (L_16 N) (loopAt 21 (bodyOf Try.f16))) n (pt_16_21.inst x) k = l_16_21 N n x (fun y => k (.exit 6) (px_16_21_0.inst y)) :=
  iter_eq (K := Exit → St → Option R) (ks := fun k => k) (l := fun n (x : pt_16_21.den) k => l_16_21 N n x (fun y => k (.exit 6) (px_16_21_0.inst y))) (B := fun (rec : pt_16_21.den → Option R) (x : pt_16_21.den) k => B_16_21 N rec x (fun y => k (.exit 6) (px_16_21_0.inst y))) (fun _ _ => rfl) (fun _ _ _ => rfl) (fun n x k => step_16_21 N n x k)
theorem rounds_16_21 {R : Type} (N : Nat) : Rounds 0 TT (E_16 (R := R) N) (drawAny TT WW) (L_16 N) 21 (loopAt 21 (bodyOf Try.f16)) :=
  rounds_of (p := pt_16_21) (l := fun (x : pt_16_21.den) k => l_16_21 N N x (fun y => k (.exit 6) (px_16_21_0.inst y))) (fun s k => rfl) (fun x k => eq_16_21 N N x k)
theorem gstep_16_16 {R : Type} (q_49 : Tp_49 R) (q_50 : Tp_50 R) (q_18 : Tp_18 R) (q_20 : Tp_20 R) (m_16_4 : Tl_16_4 R) (m_16_21 : Tl_16_21 R) (m_16_16 : Tl_16_16 R) (m_16_12 : Tl_16_12 R) (m_16_25 : Tl_16_25 R) (n : Nat) (x : pt_16_16.den) (k : Exit → St → Option R) : iter 0 lv_16_16 lo_16_16 (aexec TT (EG_16 q_49 q_50 q_18 q_20) (drawAny TT WW) (LG_16 m_16_4 m_16_21 m_16_16 m_16_12 m_16_25) (loopAt 16 (bodyOf Try.f16))) (n + 1) (pt_16_16.inst x) k = C_16_16 q_49 q_50 q_18 q_20 m_16_4 m_16_21 m_16_16 m_16_12 m_16_25 (fun y => iter 0 lv_16_16 lo_16_16 (aexec TT (EG_16 q_49 q_50 q_18 q_20) (drawAny TT WW) (LG_16 m_16_4 m_16_21 m_16_16 m_16_12 m_16_25) (loopAt 16 (bodyOf Try.f16))) n (pt_16_16.inst y) k) x (fun y => k (.exit 4) (px_16_16_0.inst y)) := by kernel_rfl
theorem step_16_16 {R : Type} (N n : Nat) (x : pt_16_16.den) (k : Exit → St → Option R) : iter 0 lv_16_16 lo_16_16 (aexec TT (E_16 (R := R) N) (drawAny TT WW) (L_16 N) (loopAt 16 (bodyOf Try.f16))) (n + 1) (pt_16_16.inst x) k = B_16_16 N (fun y => iter 0 lv_16_16 lo_16_16 (aexec TT (E_16 (R := R) N) (drawAny TT WW) (L_16 N) (loopAt 16 (bodyOf Try.f16))) n (pt_16_16.inst y) k) x (fun y => k (.exit 4) (px_16_16_0.inst y)) := (gstep_16_16 (p_49 N) (p_50 N) (p_18 N) (p_20 N) (l_16_4 N N) (l_16_21 N N) (l_16_16 N N) (l_16_12 N N) (l_16_25 N N) n x k).trans (by kernel_rfl)
theorem eq_16_16 {R : Type} (N : Nat) : ∀ (n : Nat) (x : pt_16_16.den) (k : Exit → St → Option R), iter 0 lv_16_16 lo_16_16 (aexec TT (E_16 (R := R) N) (drawAny TT WW) (L_16 N) (loopAt 16 (bodyOf Try.f16))) n (pt_16_16.inst x) k = l_16_16 N n x (fun y => k (.exit 4) (px_16_16_0.inst y)) :=
  iter_eq (K := Exit → St → Option R) (ks := fun k => k) (l := fun n (x : pt_16_16.den) k => l_16_16 N n x (fun y => k (.exit 4) (px_16_16_0.inst y))) (B := fun (rec : pt_16_16.den → Option R) (x : pt_16_16.den) k => B_16_16 N rec x (fun y => k (.exit 4) (px_16_16_0.inst y))) (fun _ _ => rfl) (fun _ _ _ => rfl) (fun n x k => step_16_16 N n x k)
theorem rounds_16_16 {R : Type} (N : Nat) : Rounds 0 TT (E_16 (R := R) N) (drawAny TT WW) (L_16 N) 16 (loopAt 16 (bodyOf Try.f16)) :=
  rounds_of (p := pt_16_16) (l := fun (x : pt_16_16.den) k => l_16_16 N N x (fun y => k (.exit 4) (px_16_16_0.inst y))) (fun s k => rfl) (fun x k => eq_16_16 N N x k)
theorem gstep_16_12 {R : Type} (q_49 : Tp_49 R) (q_50 : Tp_50 R) (q_18 : Tp_18 R) (q_20 : Tp_20 R) (m_16_4 : Tl_16_4 R) (m_16_21 : Tl_16_21 R) (m_16_16 : Tl_16_16 R) (m_16_12 : Tl_16_12 R) (m_16_25 : Tl_16_25 R) (n : Nat) (x : pt_16_12.den) (k : Exit → St → Option R) : iter 0 lv_16_12 lo_16_12 (aexec TT (EG_16 q_49 q_50 q_18 q_20) (drawAny TT WW) (LG_16 m_16_4 m_16_21 m_16_16 m_16_12 m_16_25) (loopAt 12 (bodyOf Try.f16))) (n + 1) (pt_16_12.inst x) k = C_16_12 q_49 q_50 q_18 q_20 m_16_4 m_16_21 m_16_16 m_16_12 m_16_25 (fun y => iter 0 lv_16_12 lo_16_12 (aexec TT (EG_16 q_49 q_50 q_18 q_20) (drawAny TT WW) (LG_16 m_16_4 m_16_21 m_16_16 m_16_12 m_16_25) (loopAt 12 (bodyOf Try.f16))) n (pt_16_12.inst y) k) x (fun y => k (.exit 2) (px_16_12_0.inst y)) := by kernel_rfl
theorem step_16_12 {R : Type} (N n : Nat) (x : pt_16_12.den) (k : Exit → St → Option R) : iter 0 lv_16_12 lo_16_12 (aexec TT (E_16 (R := R) N) (drawAny TT WW) (L_16 N) (loopAt 12 (bodyOf Try.f16))) (n + 1) (pt_16_12.inst x) k = B_16_12 N (fun y => iter 0 lv_16_12 lo_16_12 (aexec TT (E_16 (R := R) N) (drawAny TT WW) (L_16 N) (loopAt 12 (bodyOf Try.f16))) n (pt_16_12.inst y) k) x (fun y => k (.exit 2) (px_16_12_0.inst y)) := (gstep_16_12 (p_49 N) (p_50 N) (p_18 N) (p_20 N) (l_16_4 N N) (l_16_21 N N) (l_16_16 N N) (l_16_12 N N) (l_16_25 N N) n x k).trans (by kernel_rfl)
theorem eq_16_12 {R : Type} (N : Nat) : ∀ (n : Nat) (x : pt_16_12.den) (k : Exit → St → Option R), iter 0 lv_16_12 lo_16_12 (aexec TT (E_16 (R := R) N) (drawAny TT WW) (L_16 N) (loopAt 12 (bodyOf Try.f16))) n (pt_16_12.inst x) k = l_16_12 N n x (fun y => k (.exit 2) (px_16_12_0.inst y)) :=
  iter_eq (K := Exit → St → Option R) (ks := fun k => k) (l := fun n (x : pt_16_12.den) k => l_16_12 N n x (fun y => k (.exit 2) (px_16_12_0.inst y))) (B := fun (rec : pt_16_12.den → Option R) (x : pt_16_12.den) k => B_16_12 N rec x (fun y => k (.exit 2) (px_16_12_0.inst y))) (fun _ _ => rfl) (fun _ _ _ => rfl) (fun n x k => step_16_12 N n x k)
theorem rounds_16_12 {R : Type} (N : Nat) : Rounds 0 TT (E_16 (R := R) N) (drawAny TT WW) (L_16 N) 12 (loopAt 12 (bodyOf Try.f16)) :=
  rounds_of (p := pt_16_12) (l := fun (x : pt_16_12.den) k => l_16_12 N N x (fun y => k (.exit 2) (px_16_12_0.inst y))) (fun s k => rfl) (fun x k => eq_16_12 N N x k)
theorem gstep_16_25 {R : Type} (q_49 : Tp_49 R) (q_50 : Tp_50 R) (q_18 : Tp_18 R) (q_20 : Tp_20 R) (m_16_4 : Tl_16_4 R) (m_16_21 : Tl_16_21 R) (m_16_16 : Tl_16_16 R) (m_16_12 : Tl_16_12 R) (m_16_25 : Tl_16_25 R) (n : Nat) (x : pt_16_25.den) (k : Exit → St → Option R) : iter 0 lv_16_25 lo_16_25 (aexec TT (EG_16 q_49 q_50 q_18 q_20) (drawAny TT WW) (LG_16 m_16_4 m_16_21 m_16_16 m_16_12 m_16_25) (loopAt 25 (bodyOf Try.f16))) (n + 1) (pt_16_25.inst x) k = C_16_25 q_49 q_50 q_18 q_20 m_16_4 m_16_21 m_16_16 m_16_12 m_16_25 (fun y => iter 0 lv_16_25 lo_16_25 (aexec TT (EG_16 q_49 q_50 q_18 q_20) (drawAny TT WW) (LG_16 m_16_4 m_16_21 m_16_16 m_16_12 m_16_25) (loopAt 25 (bodyOf Try.f16))) n (pt_16_25.inst y) k) x (fun y => k (.exit 8) (px_16_25_0.inst y)) := by kernel_rfl
theorem step_16_25 {R : Type} (N n : Nat) (x : pt_16_25.den) (k : Exit → St → Option R) : iter 0 lv_16_25 lo_16_25 (aexec TT (E_16 (R := R) N) (drawAny TT WW) (L_16 N) (loopAt 25 (bodyOf Try.f16))) (n + 1) (pt_16_25.inst x) k = B_16_25 N (fun y => iter 0 lv_16_25 lo_16_25 (aexec TT (E_16 (R := R) N) (drawAny TT WW) (L_16 N) (loopAt 25 (bodyOf Try.f16))) n (pt_16_25.inst y) k) x (fun y => k (.exit 8) (px_16_25_0.inst y)) := (gstep_16_25 (p_49 N) (p_50 N) (p_18 N) (p_20 N) (l_16_4 N N) (l_16_21 N N) (l_16_16 N N) (l_16_12 N N) (l_16_25 N N) n x k).trans (by kernel_rfl)
theorem eq_16_25 {R : Type} (N : Nat) : ∀ (n : Nat) (x : pt_16_25.den) (k : Exit → St → Option R), iter 0 lv_16_25 lo_16_25 (aexec TT (E_16 (R := R) N) (drawAny TT WW) (L_16 N) (loopAt 25 (bodyOf Try.f16))) n (pt_16_25.inst x) k = l_16_25 N n x (fun y => k (.exit 8) (px_16_25_0.inst y)) :=
  iter_eq (K := Exit → St → Option R) (ks := fun k => k) (l := fun n (x : pt_16_25.den) k => l_16_25 N n x (fun y => k (.exit 8) (px_16_25_0.inst y))) (B := fun (rec : pt_16_25.den → Option R) (x : pt_16_25.den) k => B_16_25 N rec x (fun y => k (.exit 8) (px_16_25_0.inst y))) (fun _ _ => rfl) (fun _ _ _ => rfl) (fun n x k => step_16_25 N n x k)
theorem rounds_16_25 {R : Type} (N : Nat) : Rounds 0 TT (E_16 (R := R) N) (drawAny TT WW) (L_16 N) 25 (loopAt 25 (bodyOf Try.f16)) :=
  rounds_of (p := pt_16_25) (l := fun (x : pt_16_25.den) k => l_16_25 N N x (fun y => k (.exit 8) (px_16_25_0.inst y))) (fun s k => rfl) (fun x k => eq_16_25 N N x k)
theorem loops_16 : loopsIn (bodyOf Try.f16) = [(4, loopAt 4 (bodyOf Try.f16)), (12, loopAt 12 (bodyOf Try.f16)), (16, loopAt 16 (bodyOf Try.f16)), (21, loopAt 21 (bodyOf Try.f16)), (25, loopAt 25 (bodyOf Try.f16))] := by kernel_rfl
theorem lok_16 {R : Type} (N : Nat) : LOK 0 TT (E_16 (R := R) N) (drawAny TT WW) (L_16 N) (bodyOf Try.f16) := loops_all loops_16 (by
  simp only [List.forall_mem_cons, List.not_mem_nil, false_implies, implies_true, and_true]
  exact ⟨rounds_16_4 N, rounds_16_12 N, rounds_16_16 N, rounds_16_21 N, rounds_16_25 N⟩)
theorem grun_16 {R : Type} (q_49 : Tp_49 R) (q_50 : Tp_50 R) (q_18 : Tp_18 R) (q_20 : Tp_20 R) (m_16_4 : Tl_16_4 R) (m_16_21 : Tl_16_21 R) (m_16_16 : Tl_16_16 R) (m_16_12 : Tl_16_12 R) (m_16_25 : Tl_16_25 R) (x : aden ap_16 × hden hp_16) (k : KF R) : fnrun TT (EG_16 q_49 q_50 q_18 q_20) (drawAny TT WW) (LG_16 m_16_4 m_16_21 m_16_16 m_16_12 m_16_25) true Try.f16 (instA ap_16 x.1) (instH hp_16 x.2) k = Q_16 q_49 q_50 q_18 q_20 m_16_4 m_16_21 m_16_16 m_16_12 m_16_25 x (fun y => k (Pat.inst (.vec (.int .u64) 8) y) (instH hp_16 x.2)) := by kernel_rfl
theorem run_16 {R : Type} (N : Nat) (x : aden ap_16 × hden hp_16) (k : KF R) : fnrun TT (E_16 (R := R) N) (drawAny TT WW) (L_16 N) true Try.f16 (instA ap_16 x.1) (instH hp_16 x.2) k = p_16 N x (fun y => k (Pat.inst (.vec (.int .u64) 8) y) (instH hp_16 x.2)) := (grun_16 (p_49 N) (p_50 N) (p_18 N) (p_20 N) (l_16_4 N N) (l_16_21 N N) (l_16_16 N N) (l_16_12 N N) (l_16_25 N N) x k).trans (by kernel_rfl)
theorem good_16 {R : Type} (N : Nat) : GD (X := R) Try.prog QQ 16 ap_16 hp_16 (fun (x : aden ap_16 × hden hp_16) k => p_16 N x (fun y => k (Pat.inst (.vec (.int .u64) 8) y) (instH hp_16 x.2))) :=
  gd_quiet (E := E_16 N) (p := fun (x : aden ap_16 × hden hp_16) κ => p_16 N x (fun y => κ (Pat.inst (.vec (.int .u64) 8) y))) mixed tyok (eok_16 N) Try.func16 (by kernel_rfl) (by kernel_rfl) (lok_16 N) (fun x k => run_16 N x k)

def lv_54_3 : Live := [(0, none), (3, some (.int .u8, 5)), (4, none)]
def pt_54_3 : SPat := ⟨[(0, .int .u64), (3, .sl 0), (4, .int .i64)], [some (.lst (.int .u8), 5)]⟩
def px_54_3_0 : SPat := ⟨[(3, .sl 0)], [some (.lst (.int .u8), 5)]⟩
def lo_54_3 : Exit → Live
  | .exit 0 => [(3, none)]
  | _ => []
def B_54_3 {R : Type} (N : Nat) (rec : ((Int × Unit × Int × Unit) × ((List Int) × Unit)) → Option R) (x : ((Int × Unit × Int × Unit) × ((List Int) × Unit))) (κ0 : ((Unit × Unit) × ((List Int) × Unit)) → Option R) : Option R :=
let i2215 : Int := x.1.1
let i2216 : Int := x.1.2.2.1
let l2217 : (List Int) := x.2.1
bif (decide (i2216 < 8)) then (
let i2218 : Int := remA .u64 i2215 256
let i2219 : Int := IntKind.wrap .u8 i2218
let l2220 : (List Int) := [i2219]
bif (decide ((List.length l2217 + List.length l2220) * 1 ≤ 140737488355328) && true) then (
let l2221 : (List Int) := (l2217 ++ l2220)
let i2222 : Int := quoA .u64 i2215 256
let i2223 : Int := addA .i64 i2216 1
rec ((i2222, (), i2223, ()), (l2221, ()))) else none) else (
κ0 (((), ()), (l2217, ())))
def l_54_3 {R : Type} (N : Nat) : Nat → ((Int × Unit × Int × Unit) × ((List Int) × Unit)) → (((Unit × Unit) × ((List Int) × Unit)) → Option R) → Option R
  | 0, _, _ => none
  | n + 1, x, κ0 => B_54_3 N (fun y => l_54_3 N n y κ0) x κ0
def ap_54 : List Pat := [.int .u64]
def hp_54 : List (Option (Pat × Nat)) := []
def p_54 {R : Type} (N : Nat) (x : (Int × Unit) × (Unit)) (κ0 : (List Int) → Option R) : Option R :=
let i2207 : Int := x.1.1
l_54_3 N N ((i2207, (), 0, ()), ([], ())) (fun y2224 =>
let l2225 : (List Int) := y2224.2.1
κ0 l2225)

abbrev Tl_54_3 (R : Type) : Type := ((Int × Unit × Int × Unit) × ((List Int) × Unit)) → (((Unit × Unit) × ((List Int) × Unit)) → Option R) → Option R
abbrev Tp_54 (R : Type) : Type := (Int × Unit) × (Unit) → ((List Int) → Option R) → Option R
def Q_54 {R : Type} (m_54_3 : Tl_54_3 R) (x : (Int × Unit) × (Unit)) (κ0 : (List Int) → Option R) : Option R :=
let i2207 : Int := x.1.1
m_54_3 ((i2207, (), 0, ()), ([], ())) (fun y2224 =>
let l2225 : (List Int) := y2224.2.1
κ0 l2225)
def C_54_3 {R : Type} (m_54_3 : Tl_54_3 R) (rec : ((Int × Unit × Int × Unit) × ((List Int) × Unit)) → Option R) (x : ((Int × Unit × Int × Unit) × ((List Int) × Unit))) (κ0 : ((Unit × Unit) × ((List Int) × Unit)) → Option R) : Option R :=
let i2215 : Int := x.1.1
let i2216 : Int := x.1.2.2.1
let l2217 : (List Int) := x.2.1
bif (decide (i2216 < 8)) then (
let i2218 : Int := remA .u64 i2215 256
let i2219 : Int := IntKind.wrap .u8 i2218
let l2220 : (List Int) := [i2219]
bif (decide ((List.length l2217 + List.length l2220) * 1 ≤ 140737488355328) && true) then (
let l2221 : (List Int) := (l2217 ++ l2220)
let i2222 : Int := quoA .u64 i2215 256
let i2223 : Int := addA .i64 i2216 1
rec ((i2222, (), i2223, ()), (l2221, ()))) else none) else (
κ0 (((), ()), (l2217, ())))
def EG_54 {R : Type} : Env R := Env.base QQ LN
def LG_54 {R : Type} (m_54_3 : Tl_54_3 R) : Loops R := (Loops.none).add 3 (loopBy 0 lv_54_3 pt_54_3 (fun x k => m_54_3 x (fun y => k (.exit 0) (px_54_3_0.inst y))))
def E_54 {R : Type} (N : Nat) : Env R := EG_54
theorem eok_54 {R : Type} (N : Nat) : EK Try.prog (E_54 (R := R) N) := ek_base _ _
def L_54 {R : Type} (N : Nat) : Loops R := LG_54 (l_54_3 N N)
theorem gstep_54_3 {R : Type} (m_54_3 : Tl_54_3 R) (n : Nat) (x : pt_54_3.den) (k : Exit → St → Option R) : iter 0 lv_54_3 lo_54_3 (aexec TT (EG_54) (drawAny TT WW) (LG_54 m_54_3) (loopAt 3 (bodyOf Try.f54))) (n + 1) (pt_54_3.inst x) k = C_54_3 m_54_3 (fun y => iter 0 lv_54_3 lo_54_3 (aexec TT (EG_54) (drawAny TT WW) (LG_54 m_54_3) (loopAt 3 (bodyOf Try.f54))) n (pt_54_3.inst y) k) x (fun y => k (.exit 0) (px_54_3_0.inst y)) := by kernel_rfl
theorem step_54_3 {R : Type} (N n : Nat) (x : pt_54_3.den) (k : Exit → St → Option R) : iter 0 lv_54_3 lo_54_3 (aexec TT (E_54 (R := R) N) (drawAny TT WW) (L_54 N) (loopAt 3 (bodyOf Try.f54))) (n + 1) (pt_54_3.inst x) k = B_54_3 N (fun y => iter 0 lv_54_3 lo_54_3 (aexec TT (E_54 (R := R) N) (drawAny TT WW) (L_54 N) (loopAt 3 (bodyOf Try.f54))) n (pt_54_3.inst y) k) x (fun y => k (.exit 0) (px_54_3_0.inst y)) := (gstep_54_3 (l_54_3 N N) n x k).trans (by kernel_rfl)
theorem eq_54_3 {R : Type} (N : Nat) : ∀ (n : Nat) (x : pt_54_3.den) (k : Exit → St → Option R), iter 0 lv_54_3 lo_54_3 (aexec TT (E_54 (R := R) N) (drawAny TT WW) (L_54 N) (loopAt 3 (bodyOf Try.f54))) n (pt_54_3.inst x) k = l_54_3 N n x (fun y => k (.exit 0) (px_54_3_0.inst y)) :=
  iter_eq (K := Exit → St → Option R) (ks := fun k => k) (l := fun n (x : pt_54_3.den) k => l_54_3 N n x (fun y => k (.exit 0) (px_54_3_0.inst y))) (B := fun (rec : pt_54_3.den → Option R) (x : pt_54_3.den) k => B_54_3 N rec x (fun y => k (.exit 0) (px_54_3_0.inst y))) (fun _ _ => rfl) (fun _ _ _ => rfl) (fun n x k => step_54_3 N n x k)
theorem rounds_54_3 {R : Type} (N : Nat) : Rounds 0 TT (E_54 (R := R) N) (drawAny TT WW) (L_54 N) 3 (loopAt 3 (bodyOf Try.f54)) :=
  rounds_of (p := pt_54_3) (l := fun (x : pt_54_3.den) k => l_54_3 N N x (fun y => k (.exit 0) (px_54_3_0.inst y))) (fun s k => rfl) (fun x k => eq_54_3 N N x k)
theorem loops_54 : loopsIn (bodyOf Try.f54) = [(3, loopAt 3 (bodyOf Try.f54))] := by kernel_rfl
theorem lok_54 {R : Type} (N : Nat) : LOK 0 TT (E_54 (R := R) N) (drawAny TT WW) (L_54 N) (bodyOf Try.f54) := loops_all loops_54 (by
  simp only [List.forall_mem_cons, List.not_mem_nil, false_implies, implies_true, and_true]
  exact rounds_54_3 N)
theorem grun_54 {R : Type} (m_54_3 : Tl_54_3 R) (x : aden ap_54 × hden hp_54) (k : KF R) : fnrun TT (EG_54) (drawAny TT WW) (LG_54 m_54_3) true Try.f54 (instA ap_54 x.1) (instH hp_54 x.2) k = Q_54 m_54_3 x (fun y => k (Pat.inst (.ros (.int .u8)) y) (instH hp_54 x.2)) := by kernel_rfl
theorem run_54 {R : Type} (N : Nat) (x : aden ap_54 × hden hp_54) (k : KF R) : fnrun TT (E_54 (R := R) N) (drawAny TT WW) (L_54 N) true Try.f54 (instA ap_54 x.1) (instH hp_54 x.2) k = p_54 N x (fun y => k (Pat.inst (.ros (.int .u8)) y) (instH hp_54 x.2)) := (grun_54 (l_54_3 N N) x k).trans (by kernel_rfl)
theorem good_54 {R : Type} (N : Nat) : GD (X := R) Try.prog QQ 54 ap_54 hp_54 (fun (x : aden ap_54 × hden hp_54) k => p_54 N x (fun y => k (Pat.inst (.ros (.int .u8)) y) (instH hp_54 x.2))) :=
  gd_quiet (E := E_54 N) (p := fun (x : aden ap_54 × hden hp_54) κ => p_54 N x (fun y => κ (Pat.inst (.ros (.int .u8)) y))) mixed tyok (eok_54 N) Try.func54 (by kernel_rfl) (by kernel_rfl) (lok_54 N) (fun x k => run_54 N x k)

def lv_23_6 : Live := [(1, none), (3, none), (4, none), (9, none), (10, none)]
def pt_23_6 : SPat := ⟨[(1, .int .i64), (3, .str), (4, .ptr 0 []), (9, .ptr 1 []), (10, .int .i64)], [some (.vec (.int .u64) 8, 29), some (.vec (.int .u64) 8, 23)]⟩
def px_23_6_0 : SPat := ⟨[(1, .int .i64), (3, .str), (4, .ptr 0 []), (9, .ptr 1 []), (10, .int .i64)], [some (.vec (.int .u64) 8, 29), some (.vec (.int .u64) 8, 23)]⟩
def lo_23_6 : Exit → Live
  | .exit 0 => [(1, none), (3, none), (4, none), (9, none), (10, none)]
  | _ => []
def B_23_6 {R : Type} (N : Nat) (rec : ((Int × ByteArray × Unit × Unit × Int × Unit) × ((Nat → Int) × (Nat → Int) × Unit)) → Option R) (x : ((Int × ByteArray × Unit × Unit × Int × Unit) × ((Nat → Int) × (Nat → Int) × Unit))) (κ0 : ((Int × ByteArray × Unit × Unit × Int × Unit) × ((Nat → Int) × (Nat → Int) × Unit)) → Option R) : Option R :=
let i2242 : Int := x.1.1
let s2243 : ByteArray := x.1.2.1
let i2244 : Int := x.1.2.2.2.2.1
let a2245 : (Nat → Int) := x.2.1
let a2246 : (Nat → Int) := x.2.2.1
let i2247 : Int := ((ByteArray.size s2243 : Nat) : Int)
let i2248 : Int := subA .i64 i2247 i2244
bif (decide (i2248 > 128)) then (
let i2249 : Int := addA .i64 i2244 128
bif decide (0 ≤ i2249) then (
bif decide (i2249 ≤ ((ByteArray.size s2243 : Nat) : Int)) then (
bif decide (0 ≤ i2244) then (
bif decide (i2244 ≤ i2249) then (
let s2250 : ByteArray := ByteArray.extract s2243 ((Int.toNat i2244)) ((Int.toNat i2249))
let i2251 : Int := addA .i64 i2244 128
let i2252 : Int := IntKind.wrap .u64 i2251
p_16 N ((a2245, a2246, s2250, i2252, false, ()), ()) (fun y2253 =>
let a2254 : (Nat → Int) := y2253
let i2255 : Int := addA .i64 i2244 128
rec ((i2242, s2243, (), (), i2255, ()), (a2245, a2254, ())))) else none) else none) else none) else none) else (
κ0 ((i2242, s2243, (), (), i2244, ()), (a2245, a2246, ())))
def l_23_6 {R : Type} (N : Nat) : Nat → ((Int × ByteArray × Unit × Unit × Int × Unit) × ((Nat → Int) × (Nat → Int) × Unit)) → (((Int × ByteArray × Unit × Unit × Int × Unit) × ((Nat → Int) × (Nat → Int) × Unit)) → Option R) → Option R
  | 0, _, _ => none
  | n + 1, x, κ0 => B_23_6 N (fun y => l_23_6 N n y κ0) x κ0
def lv_23_12 : Live := [(1, none), (9, none), (11, some (.int .u8, 5)), (12, none)]
def pt_23_12 : SPat := ⟨[(1, .int .i64), (9, .ptr 0 []), (11, .sl 1), (12, .int .i64)], [some (.vec (.int .u64) 8, 23), some (.lst (.int .u8), 5)]⟩
def px_23_12_0 : SPat := ⟨[(1, .int .i64), (11, .sl 0)], [some (.lst (.int .u8), 5)]⟩
def lo_23_12 : Exit → Live
  | .exit 2 => [(1, none), (11, none)]
  | _ => []
def B_23_12 {R : Type} (N : Nat) (rec : ((Int × Unit × Unit × Int × Unit) × ((Nat → Int) × (List Int) × Unit)) → Option R) (x : ((Int × Unit × Unit × Int × Unit) × ((Nat → Int) × (List Int) × Unit))) (κ0 : ((Int × Unit × Unit) × ((List Int) × Unit)) → Option R) : Option R :=
let i2269 : Int := x.1.1
let i2270 : Int := x.1.2.2.2.1
let a2271 : (Nat → Int) := x.2.1
let l2272 : (List Int) := x.2.2.1
bif (decide (i2270 < 8)) then (
bif decide (0 ≤ i2270) then (
bif decide (i2270 < (8 : Int)) then (
let i2273 : Int := (a2271 ((Int.toNat i2270)))
p_54 N ((i2273, ()), ()) (fun y2274 =>
let l2275 : (List Int) := y2274
bif (decide ((List.length l2272 + List.length l2275) * 1 ≤ 140737488355328) && true) then (
let l2276 : (List Int) := (l2272 ++ l2275)
let i2277 : Int := addA .i64 i2270 1
rec ((i2269, (), (), i2277, ()), (a2271, l2276, ()))) else none)) else none) else none) else (
κ0 ((i2269, (), ()), (l2272, ())))
def l_23_12 {R : Type} (N : Nat) : Nat → ((Int × Unit × Unit × Int × Unit) × ((Nat → Int) × (List Int) × Unit)) → (((Int × Unit × Unit) × ((List Int) × Unit)) → Option R) → Option R
  | 0, _, _ => none
  | n + 1, x, κ0 => B_23_12 N (fun y => l_23_12 N n y κ0) x κ0
def ap_23 : List Pat := [.vec (.int .u64) 8, .int .i64, .str, .str]
def hp_23 : List (Option (Pat × Nat)) := []
def p_23 {R : Type} (N : Nat) (x : ((Nat → Int) × Int × ByteArray × ByteArray × Unit) × (Unit)) (κ0 : ByteArray → Option R) : Option R :=
let a1792 : (Nat → Int) := x.1.1
let i1793 : Int := x.1.2.1
let s1794 : ByteArray := x.1.2.2.1
let s1795 : ByteArray := x.1.2.2.2.1
let i1796 : Int := (a1792 0)
let i1797 : Int := ((ByteArray.size s1794 : Nat) : Int)
let i1798 : Int := IntKind.wrap .u64 i1797
let i1799 : Int := mulA .u64 256 i1798
let i1800 : Int := addA .u64 16842752 i1799
let i1801 : Int := IntKind.wrap .u64 i1793
let i1802 : Int := addA .u64 i1800 i1801
let i1803 : Int := xorA .u64 i1796 i1802
let a1804 : (Nat → Int) := (upd a1792 0 i1803)
bif (!eqS s1794 (⟨#[]⟩)) then (
p_53 N ((s1794, 128, ()), ()) (fun y1813 =>
let s1814 : ByteArray := y1813
bif decide (ByteArray.size s1814 + ByteArray.size s1795 ≤ maxI64) then (
let s1815 : ByteArray := (s1814 ++ s1795)
l_23_6 N N ((i1793, s1815, (), (), 0, ()), (a1792, a1804, ())) (fun y2190 =>
let i2191 : Int := y2190.1.1
let s2192 : ByteArray := y2190.1.2.1
let i2193 : Int := y2190.1.2.2.2.2.1
let a2194 : (Nat → Int) := y2190.2.1
let a2195 : (Nat → Int) := y2190.2.2.1
bif decide (0 ≤ ((ByteArray.size s2192 : Nat) : Int)) then (
bif decide (((ByteArray.size s2192 : Nat) : Int) ≤ ((ByteArray.size s2192 : Nat) : Int)) then (
bif decide (0 ≤ i2193) then (
bif decide (i2193 ≤ ((ByteArray.size s2192 : Nat) : Int)) then (
let s2196 : ByteArray := ByteArray.extract s2192 ((Int.toNat i2193)) (ByteArray.size s2192)
p_53 N ((s2196, 128, ()), ()) (fun y2197 =>
let s2198 : ByteArray := y2197
let i2199 : Int := ((ByteArray.size s2192 : Nat) : Int)
let i2200 : Int := IntKind.wrap .u64 i2199
p_16 N ((a2194, a2195, s2198, i2200, true, ()), ()) (fun y2201 =>
let a2202 : (Nat → Int) := y2201
l_23_12 N N ((i2191, (), (), 0, ()), (a2202, [], ())) (fun y2238 =>
let i2239 : Int := y2238.1.1
let l2240 : (List Int) := y2238.2.1
bif decide (0 ≤ i2239) then (
bif decide (i2239 ≤ (((List.length l2240) : Nat) : Int)) then (
bif decide (0 ≤ i2239) then (
let s2241 : ByteArray := listStr ((List.take (((Int.toNat i2239) - 0)) (List.drop 0 l2240)))
κ0 s2241) else none) else none) else none)))) else none) else none) else none) else none)) else none)) else (
l_23_6 N N ((i1793, s1795, (), (), 0, ()), (a1792, a1804, ())) (fun y2256 =>
let i2257 : Int := y2256.1.1
let s2258 : ByteArray := y2256.1.2.1
let i2259 : Int := y2256.1.2.2.2.2.1
let a2260 : (Nat → Int) := y2256.2.1
let a2261 : (Nat → Int) := y2256.2.2.1
bif decide (0 ≤ ((ByteArray.size s2258 : Nat) : Int)) then (
bif decide (((ByteArray.size s2258 : Nat) : Int) ≤ ((ByteArray.size s2258 : Nat) : Int)) then (
bif decide (0 ≤ i2259) then (
bif decide (i2259 ≤ ((ByteArray.size s2258 : Nat) : Int)) then (
let s2262 : ByteArray := ByteArray.extract s2258 ((Int.toNat i2259)) (ByteArray.size s2258)
p_53 N ((s2262, 128, ()), ()) (fun y2263 =>
let s2264 : ByteArray := y2263
let i2265 : Int := ((ByteArray.size s2258 : Nat) : Int)
let i2266 : Int := IntKind.wrap .u64 i2265
p_16 N ((a2260, a2261, s2264, i2266, true, ()), ()) (fun y2267 =>
let a2268 : (Nat → Int) := y2267
l_23_12 N N ((i2257, (), (), 0, ()), (a2268, [], ())) (fun y2278 =>
let i2279 : Int := y2278.1.1
let l2280 : (List Int) := y2278.2.1
bif decide (0 ≤ i2279) then (
bif decide (i2279 ≤ (((List.length l2280) : Nat) : Int)) then (
bif decide (0 ≤ i2279) then (
let s2281 : ByteArray := listStr ((List.take (((Int.toNat i2279) - 0)) (List.drop 0 l2280)))
κ0 s2281) else none) else none) else none)))) else none) else none) else none) else none))

abbrev Tl_23_6 (R : Type) : Type := ((Int × ByteArray × Unit × Unit × Int × Unit) × ((Nat → Int) × (Nat → Int) × Unit)) → (((Int × ByteArray × Unit × Unit × Int × Unit) × ((Nat → Int) × (Nat → Int) × Unit)) → Option R) → Option R
abbrev Tl_23_12 (R : Type) : Type := ((Int × Unit × Unit × Int × Unit) × ((Nat → Int) × (List Int) × Unit)) → (((Int × Unit × Unit) × ((List Int) × Unit)) → Option R) → Option R
abbrev Tp_23 (R : Type) : Type := ((Nat → Int) × Int × ByteArray × ByteArray × Unit) × (Unit) → (ByteArray → Option R) → Option R
def Q_23 {R : Type} (q_53 : Tp_53 R) (q_16 : Tp_16 R) (q_54 : Tp_54 R) (m_23_6 : Tl_23_6 R) (m_23_12 : Tl_23_12 R) (x : ((Nat → Int) × Int × ByteArray × ByteArray × Unit) × (Unit)) (κ0 : ByteArray → Option R) : Option R :=
let a1792 : (Nat → Int) := x.1.1
let i1793 : Int := x.1.2.1
let s1794 : ByteArray := x.1.2.2.1
let s1795 : ByteArray := x.1.2.2.2.1
let i1796 : Int := (a1792 0)
let i1797 : Int := ((ByteArray.size s1794 : Nat) : Int)
let i1798 : Int := IntKind.wrap .u64 i1797
let i1799 : Int := mulA .u64 256 i1798
let i1800 : Int := addA .u64 16842752 i1799
let i1801 : Int := IntKind.wrap .u64 i1793
let i1802 : Int := addA .u64 i1800 i1801
let i1803 : Int := xorA .u64 i1796 i1802
let a1804 : (Nat → Int) := (upd a1792 0 i1803)
bif (!eqS s1794 (⟨#[]⟩)) then (
q_53 ((s1794, 128, ()), ()) (fun y1813 =>
let s1814 : ByteArray := y1813
bif decide (ByteArray.size s1814 + ByteArray.size s1795 ≤ maxI64) then (
let s1815 : ByteArray := (s1814 ++ s1795)
m_23_6 ((i1793, s1815, (), (), 0, ()), (a1792, a1804, ())) (fun y2190 =>
let i2191 : Int := y2190.1.1
let s2192 : ByteArray := y2190.1.2.1
let i2193 : Int := y2190.1.2.2.2.2.1
let a2194 : (Nat → Int) := y2190.2.1
let a2195 : (Nat → Int) := y2190.2.2.1
bif decide (0 ≤ ((ByteArray.size s2192 : Nat) : Int)) then (
bif decide (((ByteArray.size s2192 : Nat) : Int) ≤ ((ByteArray.size s2192 : Nat) : Int)) then (
bif decide (0 ≤ i2193) then (
bif decide (i2193 ≤ ((ByteArray.size s2192 : Nat) : Int)) then (
let s2196 : ByteArray := ByteArray.extract s2192 ((Int.toNat i2193)) (ByteArray.size s2192)
q_53 ((s2196, 128, ()), ()) (fun y2197 =>
let s2198 : ByteArray := y2197
let i2199 : Int := ((ByteArray.size s2192 : Nat) : Int)
let i2200 : Int := IntKind.wrap .u64 i2199
q_16 ((a2194, a2195, s2198, i2200, true, ()), ()) (fun y2201 =>
let a2202 : (Nat → Int) := y2201
m_23_12 ((i2191, (), (), 0, ()), (a2202, [], ())) (fun y2238 =>
let i2239 : Int := y2238.1.1
let l2240 : (List Int) := y2238.2.1
bif decide (0 ≤ i2239) then (
bif decide (i2239 ≤ (((List.length l2240) : Nat) : Int)) then (
bif decide (0 ≤ i2239) then (
let s2241 : ByteArray := listStr ((List.take (((Int.toNat i2239) - 0)) (List.drop 0 l2240)))
κ0 s2241) else none) else none) else none)))) else none) else none) else none) else none)) else none)) else (
m_23_6 ((i1793, s1795, (), (), 0, ()), (a1792, a1804, ())) (fun y2256 =>
let i2257 : Int := y2256.1.1
let s2258 : ByteArray := y2256.1.2.1
let i2259 : Int := y2256.1.2.2.2.2.1
let a2260 : (Nat → Int) := y2256.2.1
let a2261 : (Nat → Int) := y2256.2.2.1
bif decide (0 ≤ ((ByteArray.size s2258 : Nat) : Int)) then (
bif decide (((ByteArray.size s2258 : Nat) : Int) ≤ ((ByteArray.size s2258 : Nat) : Int)) then (
bif decide (0 ≤ i2259) then (
bif decide (i2259 ≤ ((ByteArray.size s2258 : Nat) : Int)) then (
let s2262 : ByteArray := ByteArray.extract s2258 ((Int.toNat i2259)) (ByteArray.size s2258)
q_53 ((s2262, 128, ()), ()) (fun y2263 =>
let s2264 : ByteArray := y2263
let i2265 : Int := ((ByteArray.size s2258 : Nat) : Int)
let i2266 : Int := IntKind.wrap .u64 i2265
q_16 ((a2260, a2261, s2264, i2266, true, ()), ()) (fun y2267 =>
let a2268 : (Nat → Int) := y2267
m_23_12 ((i2257, (), (), 0, ()), (a2268, [], ())) (fun y2278 =>
let i2279 : Int := y2278.1.1
let l2280 : (List Int) := y2278.2.1
bif decide (0 ≤ i2279) then (
bif decide (i2279 ≤ (((List.length l2280) : Nat) : Int)) then (
bif decide (0 ≤ i2279) then (
let s2281 : ByteArray := listStr ((List.take (((Int.toNat i2279) - 0)) (List.drop 0 l2280)))
κ0 s2281) else none) else none) else none)))) else none) else none) else none) else none))
def C_23_6 {R : Type} (q_53 : Tp_53 R) (q_16 : Tp_16 R) (q_54 : Tp_54 R) (m_23_6 : Tl_23_6 R) (m_23_12 : Tl_23_12 R) (rec : ((Int × ByteArray × Unit × Unit × Int × Unit) × ((Nat → Int) × (Nat → Int) × Unit)) → Option R) (x : ((Int × ByteArray × Unit × Unit × Int × Unit) × ((Nat → Int) × (Nat → Int) × Unit))) (κ0 : ((Int × ByteArray × Unit × Unit × Int × Unit) × ((Nat → Int) × (Nat → Int) × Unit)) → Option R) : Option R :=
let i2242 : Int := x.1.1
let s2243 : ByteArray := x.1.2.1
let i2244 : Int := x.1.2.2.2.2.1
let a2245 : (Nat → Int) := x.2.1
let a2246 : (Nat → Int) := x.2.2.1
let i2247 : Int := ((ByteArray.size s2243 : Nat) : Int)
let i2248 : Int := subA .i64 i2247 i2244
bif (decide (i2248 > 128)) then (
let i2249 : Int := addA .i64 i2244 128
bif decide (0 ≤ i2249) then (
bif decide (i2249 ≤ ((ByteArray.size s2243 : Nat) : Int)) then (
bif decide (0 ≤ i2244) then (
bif decide (i2244 ≤ i2249) then (
let s2250 : ByteArray := ByteArray.extract s2243 ((Int.toNat i2244)) ((Int.toNat i2249))
let i2251 : Int := addA .i64 i2244 128
let i2252 : Int := IntKind.wrap .u64 i2251
q_16 ((a2245, a2246, s2250, i2252, false, ()), ()) (fun y2253 =>
let a2254 : (Nat → Int) := y2253
let i2255 : Int := addA .i64 i2244 128
rec ((i2242, s2243, (), (), i2255, ()), (a2245, a2254, ())))) else none) else none) else none) else none) else (
κ0 ((i2242, s2243, (), (), i2244, ()), (a2245, a2246, ())))
def C_23_12 {R : Type} (q_53 : Tp_53 R) (q_16 : Tp_16 R) (q_54 : Tp_54 R) (m_23_6 : Tl_23_6 R) (m_23_12 : Tl_23_12 R) (rec : ((Int × Unit × Unit × Int × Unit) × ((Nat → Int) × (List Int) × Unit)) → Option R) (x : ((Int × Unit × Unit × Int × Unit) × ((Nat → Int) × (List Int) × Unit))) (κ0 : ((Int × Unit × Unit) × ((List Int) × Unit)) → Option R) : Option R :=
let i2269 : Int := x.1.1
let i2270 : Int := x.1.2.2.2.1
let a2271 : (Nat → Int) := x.2.1
let l2272 : (List Int) := x.2.2.1
bif (decide (i2270 < 8)) then (
bif decide (0 ≤ i2270) then (
bif decide (i2270 < (8 : Int)) then (
let i2273 : Int := (a2271 ((Int.toNat i2270)))
q_54 ((i2273, ()), ()) (fun y2274 =>
let l2275 : (List Int) := y2274
bif (decide ((List.length l2272 + List.length l2275) * 1 ≤ 140737488355328) && true) then (
let l2276 : (List Int) := (l2272 ++ l2275)
let i2277 : Int := addA .i64 i2270 1
rec ((i2269, (), (), i2277, ()), (a2271, l2276, ()))) else none)) else none) else none) else (
κ0 ((i2269, (), ()), (l2272, ())))
def EG_23 {R : Type} (q_53 : Tp_53 R) (q_16 : Tp_16 R) (q_54 : Tp_54 R) : Env R := (((Env.base QQ LN).add 53 ap_53 hp_53 (fun (x : aden ap_53 × hden hp_53) k => q_53 x (fun y => k (Pat.inst (.str) y) (instH hp_53 x.2)))).add 16 ap_16 hp_16 (fun (x : aden ap_16 × hden hp_16) k => q_16 x (fun y => k (Pat.inst (.vec (.int .u64) 8) y) (instH hp_16 x.2)))).add 54 ap_54 hp_54 (fun (x : aden ap_54 × hden hp_54) k => q_54 x (fun y => k (Pat.inst (.ros (.int .u8)) y) (instH hp_54 x.2)))
def LG_23 {R : Type} (m_23_6 : Tl_23_6 R) (m_23_12 : Tl_23_12 R) : Loops R := ((Loops.none).add 6 (loopBy 0 lv_23_6 pt_23_6 (fun x k => m_23_6 x (fun y => k (.exit 0) (px_23_6_0.inst y))))).add 12 (loopBy 0 lv_23_12 pt_23_12 (fun x k => m_23_12 x (fun y => k (.exit 2) (px_23_12_0.inst y))))
def E_23 {R : Type} (N : Nat) : Env R := EG_23 (p_53 N) (p_16 N) (p_54 N)
theorem eok_23 {R : Type} (N : Nat) : EK Try.prog (E_23 (R := R) N) := ek_add (ek_add (ek_add (ek_base _ _) (good_53 N)) (good_16 N)) (good_54 N)
def L_23 {R : Type} (N : Nat) : Loops R := LG_23 (l_23_6 N N) (l_23_12 N N)
theorem gstep_23_6 {R : Type} (q_53 : Tp_53 R) (q_16 : Tp_16 R) (q_54 : Tp_54 R) (m_23_6 : Tl_23_6 R) (m_23_12 : Tl_23_12 R) (n : Nat) (x : pt_23_6.den) (k : Exit → St → Option R) : iter 0 lv_23_6 lo_23_6 (aexec TT (EG_23 q_53 q_16 q_54) (drawAny TT WW) (LG_23 m_23_6 m_23_12) (loopAt 6 (bodyOf Try.f23))) (n + 1) (pt_23_6.inst x) k = C_23_6 q_53 q_16 q_54 m_23_6 m_23_12 (fun y => iter 0 lv_23_6 lo_23_6 (aexec TT (EG_23 q_53 q_16 q_54) (drawAny TT WW) (LG_23 m_23_6 m_23_12) (loopAt 6 (bodyOf Try.f23))) n (pt_23_6.inst y) k) x (fun y => k (.exit 0) (px_23_6_0.inst y)) := by kernel_rfl
theorem step_23_6 {R : Type} (N n : Nat) (x : pt_23_6.den) (k : Exit → St → Option R) : iter 0 lv_23_6 lo_23_6 (aexec TT (E_23 (R := R) N) (drawAny TT WW) (L_23 N) (loopAt 6 (bodyOf Try.f23))) (n + 1) (pt_23_6.inst x) k = B_23_6 N (fun y => iter 0 lv_23_6 lo_23_6 (aexec TT (E_23 (R := R) N) (drawAny TT WW) (L_23 N) (loopAt 6 (bodyOf Try.f23))) n (pt_23_6.inst y) k) x (fun y => k (.exit 0) (px_23_6_0.inst y)) := (gstep_23_6 (p_53 N) (p_16 N) (p_54 N) (l_23_6 N N) (l_23_12 N N) n x k).trans (by kernel_rfl)
theorem eq_23_6 {R : Type} (N : Nat) : ∀ (n : Nat) (x : pt_23_6.den) (k : Exit → St → Option R), iter 0 lv_23_6 lo_23_6 (aexec TT (E_23 (R := R) N) (drawAny TT WW) (L_23 N) (loopAt 6 (bodyOf Try.f23))) n (pt_23_6.inst x) k = l_23_6 N n x (fun y => k (.exit 0) (px_23_6_0.inst y)) :=
  iter_eq (K := Exit → St → Option R) (ks := fun k => k) (l := fun n (x : pt_23_6.den) k => l_23_6 N n x (fun y => k (.exit 0) (px_23_6_0.inst y))) (B := fun (rec : pt_23_6.den → Option R) (x : pt_23_6.den) k => B_23_6 N rec x (fun y => k (.exit 0) (px_23_6_0.inst y))) (fun _ _ => rfl) (fun _ _ _ => rfl) (fun n x k => step_23_6 N n x k)
theorem rounds_23_6 {R : Type} (N : Nat) : Rounds 0 TT (E_23 (R := R) N) (drawAny TT WW) (L_23 N) 6 (loopAt 6 (bodyOf Try.f23)) :=
  rounds_of (p := pt_23_6) (l := fun (x : pt_23_6.den) k => l_23_6 N N x (fun y => k (.exit 0) (px_23_6_0.inst y))) (fun s k => rfl) (fun x k => eq_23_6 N N x k)
theorem gstep_23_12 {R : Type} (q_53 : Tp_53 R) (q_16 : Tp_16 R) (q_54 : Tp_54 R) (m_23_6 : Tl_23_6 R) (m_23_12 : Tl_23_12 R) (n : Nat) (x : pt_23_12.den) (k : Exit → St → Option R) : iter 0 lv_23_12 lo_23_12 (aexec TT (EG_23 q_53 q_16 q_54) (drawAny TT WW) (LG_23 m_23_6 m_23_12) (loopAt 12 (bodyOf Try.f23))) (n + 1) (pt_23_12.inst x) k = C_23_12 q_53 q_16 q_54 m_23_6 m_23_12 (fun y => iter 0 lv_23_12 lo_23_12 (aexec TT (EG_23 q_53 q_16 q_54) (drawAny TT WW) (LG_23 m_23_6 m_23_12) (loopAt 12 (bodyOf Try.f23))) n (pt_23_12.inst y) k) x (fun y => k (.exit 2) (px_23_12_0.inst y)) := by kernel_rfl
theorem step_23_12 {R : Type} (N n : Nat) (x : pt_23_12.den) (k : Exit → St → Option R) : iter 0 lv_23_12 lo_23_12 (aexec TT (E_23 (R := R) N) (drawAny TT WW) (L_23 N) (loopAt 12 (bodyOf Try.f23))) (n + 1) (pt_23_12.inst x) k = B_23_12 N (fun y => iter 0 lv_23_12 lo_23_12 (aexec TT (E_23 (R := R) N) (drawAny TT WW) (L_23 N) (loopAt 12 (bodyOf Try.f23))) n (pt_23_12.inst y) k) x (fun y => k (.exit 2) (px_23_12_0.inst y)) := (gstep_23_12 (p_53 N) (p_16 N) (p_54 N) (l_23_6 N N) (l_23_12 N N) n x k).trans (by kernel_rfl)
theorem eq_23_12 {R : Type} (N : Nat) : ∀ (n : Nat) (x : pt_23_12.den) (k : Exit → St → Option R), iter 0 lv_23_12 lo_23_12 (aexec TT (E_23 (R := R) N) (drawAny TT WW) (L_23 N) (loopAt 12 (bodyOf Try.f23))) n (pt_23_12.inst x) k = l_23_12 N n x (fun y => k (.exit 2) (px_23_12_0.inst y)) :=
  iter_eq (K := Exit → St → Option R) (ks := fun k => k) (l := fun n (x : pt_23_12.den) k => l_23_12 N n x (fun y => k (.exit 2) (px_23_12_0.inst y))) (B := fun (rec : pt_23_12.den → Option R) (x : pt_23_12.den) k => B_23_12 N rec x (fun y => k (.exit 2) (px_23_12_0.inst y))) (fun _ _ => rfl) (fun _ _ _ => rfl) (fun n x k => step_23_12 N n x k)
theorem rounds_23_12 {R : Type} (N : Nat) : Rounds 0 TT (E_23 (R := R) N) (drawAny TT WW) (L_23 N) 12 (loopAt 12 (bodyOf Try.f23)) :=
  rounds_of (p := pt_23_12) (l := fun (x : pt_23_12.den) k => l_23_12 N N x (fun y => k (.exit 2) (px_23_12_0.inst y))) (fun s k => rfl) (fun x k => eq_23_12 N N x k)
theorem loops_23 : loopsIn (bodyOf Try.f23) = [(6, loopAt 6 (bodyOf Try.f23)), (12, loopAt 12 (bodyOf Try.f23))] := by kernel_rfl
theorem lok_23 {R : Type} (N : Nat) : LOK 0 TT (E_23 (R := R) N) (drawAny TT WW) (L_23 N) (bodyOf Try.f23) := loops_all loops_23 (by
  simp only [List.forall_mem_cons, List.not_mem_nil, false_implies, implies_true, and_true]
  exact ⟨rounds_23_6 N, rounds_23_12 N⟩)
theorem grun_23 {R : Type} (q_53 : Tp_53 R) (q_16 : Tp_16 R) (q_54 : Tp_54 R) (m_23_6 : Tl_23_6 R) (m_23_12 : Tl_23_12 R) (x : aden ap_23 × hden hp_23) (k : KF R) : fnrun TT (EG_23 q_53 q_16 q_54) (drawAny TT WW) (LG_23 m_23_6 m_23_12) true Try.f23 (instA ap_23 x.1) (instH hp_23 x.2) k = Q_23 q_53 q_16 q_54 m_23_6 m_23_12 x (fun y => k (Pat.inst (.str) y) (instH hp_23 x.2)) := by kernel_rfl
theorem run_23 {R : Type} (N : Nat) (x : aden ap_23 × hden hp_23) (k : KF R) : fnrun TT (E_23 (R := R) N) (drawAny TT WW) (L_23 N) true Try.f23 (instA ap_23 x.1) (instH hp_23 x.2) k = p_23 N x (fun y => k (Pat.inst (.str) y) (instH hp_23 x.2)) := (grun_23 (p_53 N) (p_16 N) (p_54 N) (l_23_6 N N) (l_23_12 N N) x k).trans (by kernel_rfl)
theorem good_23 {R : Type} (N : Nat) : GD (X := R) Try.prog QQ 23 ap_23 hp_23 (fun (x : aden ap_23 × hden hp_23) k => p_23 N x (fun y => k (Pat.inst (.str) y) (instH hp_23 x.2))) :=
  gd_quiet (E := E_23 N) (p := fun (x : aden ap_23 × hden hp_23) κ => p_23 N x (fun y => κ (Pat.inst (.str) y))) mixed tyok (eok_23 N) Try.func23 (by kernel_rfl) (by kernel_rfl) (lok_23 N) (fun x k => run_23 N x k)

def lv_30_6 : Live := [(1, none), (3, none), (7, none), (8, none)]
def pt_30_6 : SPat := ⟨[(1, .int .i64), (3, .ptr 0 []), (7, .str), (8, .str)], [some (.vec (.int .u64) 8, 29)]⟩
def px_30_6_0 : SPat := ⟨[(1, .int .i64), (3, .ptr 0 []), (7, .str), (8, .str)], [some (.vec (.int .u64) 8, 29)]⟩
def lo_30_6 : Exit → Live
  | .exit 0 => [(1, none), (3, none), (7, none), (8, none)]
  | _ => []
def B_30_6 {R : Type} (N : Nat) (rec : ((Int × Unit × ByteArray × ByteArray × Unit) × ((Nat → Int) × Unit)) → Option R) (x : ((Int × Unit × ByteArray × ByteArray × Unit) × ((Nat → Int) × Unit))) (κ0 : ((Int × Unit × ByteArray × ByteArray × Unit) × ((Nat → Int) × Unit)) → Option R) : Option R :=
let i2287 : Int := x.1.1
let s2288 : ByteArray := x.1.2.2.1
let s2289 : ByteArray := x.1.2.2.2.1
let a2290 : (Nat → Int) := x.2.1
let i2291 : Int := ((ByteArray.size s2289 : Nat) : Int)
let i2292 : Int := subA .i64 i2287 i2291
bif (decide (i2292 > 64)) then (
p_23 N ((a2290, 64, ⟨#[]⟩, s2288, ()), ()) (fun y2293 =>
let s2294 : ByteArray := y2293
bif decide (32 ≤ ((ByteArray.size s2294 : Nat) : Int)) then (
let s2295 : ByteArray := ByteArray.extract s2294 0 32
bif decide (ByteArray.size s2289 + ByteArray.size s2295 ≤ maxI64) then (
let s2296 : ByteArray := (s2289 ++ s2295)
rec ((i2287, (), s2294, s2296, ()), (a2290, ()))) else none) else none)) else (
κ0 ((i2287, (), s2288, s2289, ()), (a2290, ())))
def l_30_6 {R : Type} (N : Nat) : Nat → ((Int × Unit × ByteArray × ByteArray × Unit) × ((Nat → Int) × Unit)) → (((Int × Unit × ByteArray × ByteArray × Unit) × ((Nat → Int) × Unit)) → Option R) → Option R
  | 0, _, _ => none
  | n + 1, x, κ0 => B_30_6 N (fun y => l_30_6 N n y κ0) x κ0
def ap_30 : List Pat := [.vec (.int .u64) 8, .int .i64, .str]
def hp_30 : List (Option (Pat × Nat)) := []
def p_30 {R : Type} (N : Nat) (x : ((Nat → Int) × Int × ByteArray × Unit) × (Unit)) (κ0 : ByteArray → Option R) : Option R :=
let a1765 : (Nat → Int) := x.1.1
let i1766 : Int := x.1.2.1
let s1767 : ByteArray := x.1.2.2.1
let i1768 : Int := IntKind.wrap .u32 i1766
p_61 N ((i1768, ()), ()) (fun y1788 =>
let l1789 : (List Int) := y1788
let s1790 : ByteArray := listStr l1789
bif decide (ByteArray.size s1790 + ByteArray.size s1767 ≤ maxI64) then (
let s1791 : ByteArray := (s1790 ++ s1767)
bif (decide (i1766 ≤ 64)) then (
p_23 N ((a1765, i1766, ⟨#[]⟩, s1791, ()), ()) (fun y2282 =>
let s2283 : ByteArray := y2282
κ0 s2283)) else (
p_23 N ((a1765, 64, ⟨#[]⟩, s1791, ()), ()) (fun y2284 =>
let s2285 : ByteArray := y2284
bif decide (32 ≤ ((ByteArray.size s2285 : Nat) : Int)) then (
let s2286 : ByteArray := ByteArray.extract s2285 0 32
l_30_6 N N ((i1766, (), s2285, s2286, ()), (a1765, ())) (fun y2297 =>
let i2298 : Int := y2297.1.1
let s2299 : ByteArray := y2297.1.2.2.1
let s2300 : ByteArray := y2297.1.2.2.2.1
let a2301 : (Nat → Int) := y2297.2.1
let i2302 : Int := ((ByteArray.size s2300 : Nat) : Int)
let i2303 : Int := subA .i64 i2298 i2302
p_23 N ((a2301, i2303, ⟨#[]⟩, s2299, ()), ()) (fun y2304 =>
let s2305 : ByteArray := y2304
bif decide (ByteArray.size s2300 + ByteArray.size s2305 ≤ maxI64) then (
let s2306 : ByteArray := (s2300 ++ s2305)
κ0 s2306) else none))) else none))) else none)

abbrev Tl_30_6 (R : Type) : Type := ((Int × Unit × ByteArray × ByteArray × Unit) × ((Nat → Int) × Unit)) → (((Int × Unit × ByteArray × ByteArray × Unit) × ((Nat → Int) × Unit)) → Option R) → Option R
abbrev Tp_30 (R : Type) : Type := ((Nat → Int) × Int × ByteArray × Unit) × (Unit) → (ByteArray → Option R) → Option R
def Q_30 {R : Type} (q_61 : Tp_61 R) (q_23 : Tp_23 R) (m_30_6 : Tl_30_6 R) (x : ((Nat → Int) × Int × ByteArray × Unit) × (Unit)) (κ0 : ByteArray → Option R) : Option R :=
let a1765 : (Nat → Int) := x.1.1
let i1766 : Int := x.1.2.1
let s1767 : ByteArray := x.1.2.2.1
let i1768 : Int := IntKind.wrap .u32 i1766
q_61 ((i1768, ()), ()) (fun y1788 =>
let l1789 : (List Int) := y1788
let s1790 : ByteArray := listStr l1789
bif decide (ByteArray.size s1790 + ByteArray.size s1767 ≤ maxI64) then (
let s1791 : ByteArray := (s1790 ++ s1767)
bif (decide (i1766 ≤ 64)) then (
q_23 ((a1765, i1766, ⟨#[]⟩, s1791, ()), ()) (fun y2282 =>
let s2283 : ByteArray := y2282
κ0 s2283)) else (
q_23 ((a1765, 64, ⟨#[]⟩, s1791, ()), ()) (fun y2284 =>
let s2285 : ByteArray := y2284
bif decide (32 ≤ ((ByteArray.size s2285 : Nat) : Int)) then (
let s2286 : ByteArray := ByteArray.extract s2285 0 32
m_30_6 ((i1766, (), s2285, s2286, ()), (a1765, ())) (fun y2297 =>
let i2298 : Int := y2297.1.1
let s2299 : ByteArray := y2297.1.2.2.1
let s2300 : ByteArray := y2297.1.2.2.2.1
let a2301 : (Nat → Int) := y2297.2.1
let i2302 : Int := ((ByteArray.size s2300 : Nat) : Int)
let i2303 : Int := subA .i64 i2298 i2302
q_23 ((a2301, i2303, ⟨#[]⟩, s2299, ()), ()) (fun y2304 =>
let s2305 : ByteArray := y2304
bif decide (ByteArray.size s2300 + ByteArray.size s2305 ≤ maxI64) then (
let s2306 : ByteArray := (s2300 ++ s2305)
κ0 s2306) else none))) else none))) else none)
def C_30_6 {R : Type} (q_61 : Tp_61 R) (q_23 : Tp_23 R) (m_30_6 : Tl_30_6 R) (rec : ((Int × Unit × ByteArray × ByteArray × Unit) × ((Nat → Int) × Unit)) → Option R) (x : ((Int × Unit × ByteArray × ByteArray × Unit) × ((Nat → Int) × Unit))) (κ0 : ((Int × Unit × ByteArray × ByteArray × Unit) × ((Nat → Int) × Unit)) → Option R) : Option R :=
let i2287 : Int := x.1.1
let s2288 : ByteArray := x.1.2.2.1
let s2289 : ByteArray := x.1.2.2.2.1
let a2290 : (Nat → Int) := x.2.1
let i2291 : Int := ((ByteArray.size s2289 : Nat) : Int)
let i2292 : Int := subA .i64 i2287 i2291
bif (decide (i2292 > 64)) then (
q_23 ((a2290, 64, ⟨#[]⟩, s2288, ()), ()) (fun y2293 =>
let s2294 : ByteArray := y2293
bif decide (32 ≤ ((ByteArray.size s2294 : Nat) : Int)) then (
let s2295 : ByteArray := ByteArray.extract s2294 0 32
bif decide (ByteArray.size s2289 + ByteArray.size s2295 ≤ maxI64) then (
let s2296 : ByteArray := (s2289 ++ s2295)
rec ((i2287, (), s2294, s2296, ()), (a2290, ()))) else none) else none)) else (
κ0 ((i2287, (), s2288, s2289, ()), (a2290, ())))
def EG_30 {R : Type} (q_61 : Tp_61 R) (q_23 : Tp_23 R) : Env R := ((Env.base QQ LN).add 61 ap_61 hp_61 (fun (x : aden ap_61 × hden hp_61) k => q_61 x (fun y => k (Pat.inst (.ros (.int .u8)) y) (instH hp_61 x.2)))).add 23 ap_23 hp_23 (fun (x : aden ap_23 × hden hp_23) k => q_23 x (fun y => k (Pat.inst (.str) y) (instH hp_23 x.2)))
def LG_30 {R : Type} (m_30_6 : Tl_30_6 R) : Loops R := (Loops.none).add 6 (loopBy 0 lv_30_6 pt_30_6 (fun x k => m_30_6 x (fun y => k (.exit 0) (px_30_6_0.inst y))))
def E_30 {R : Type} (N : Nat) : Env R := EG_30 (p_61 N) (p_23 N)
theorem eok_30 {R : Type} (N : Nat) : EK Try.prog (E_30 (R := R) N) := ek_add (ek_add (ek_base _ _) (good_61 N)) (good_23 N)
def L_30 {R : Type} (N : Nat) : Loops R := LG_30 (l_30_6 N N)
theorem gstep_30_6 {R : Type} (q_61 : Tp_61 R) (q_23 : Tp_23 R) (m_30_6 : Tl_30_6 R) (n : Nat) (x : pt_30_6.den) (k : Exit → St → Option R) : iter 0 lv_30_6 lo_30_6 (aexec TT (EG_30 q_61 q_23) (drawAny TT WW) (LG_30 m_30_6) (loopAt 6 (bodyOf Try.f30))) (n + 1) (pt_30_6.inst x) k = C_30_6 q_61 q_23 m_30_6 (fun y => iter 0 lv_30_6 lo_30_6 (aexec TT (EG_30 q_61 q_23) (drawAny TT WW) (LG_30 m_30_6) (loopAt 6 (bodyOf Try.f30))) n (pt_30_6.inst y) k) x (fun y => k (.exit 0) (px_30_6_0.inst y)) := by kernel_rfl
theorem step_30_6 {R : Type} (N n : Nat) (x : pt_30_6.den) (k : Exit → St → Option R) : iter 0 lv_30_6 lo_30_6 (aexec TT (E_30 (R := R) N) (drawAny TT WW) (L_30 N) (loopAt 6 (bodyOf Try.f30))) (n + 1) (pt_30_6.inst x) k = B_30_6 N (fun y => iter 0 lv_30_6 lo_30_6 (aexec TT (E_30 (R := R) N) (drawAny TT WW) (L_30 N) (loopAt 6 (bodyOf Try.f30))) n (pt_30_6.inst y) k) x (fun y => k (.exit 0) (px_30_6_0.inst y)) := (gstep_30_6 (p_61 N) (p_23 N) (l_30_6 N N) n x k).trans (by kernel_rfl)
theorem eq_30_6 {R : Type} (N : Nat) : ∀ (n : Nat) (x : pt_30_6.den) (k : Exit → St → Option R), iter 0 lv_30_6 lo_30_6 (aexec TT (E_30 (R := R) N) (drawAny TT WW) (L_30 N) (loopAt 6 (bodyOf Try.f30))) n (pt_30_6.inst x) k = l_30_6 N n x (fun y => k (.exit 0) (px_30_6_0.inst y)) :=
  iter_eq (K := Exit → St → Option R) (ks := fun k => k) (l := fun n (x : pt_30_6.den) k => l_30_6 N n x (fun y => k (.exit 0) (px_30_6_0.inst y))) (B := fun (rec : pt_30_6.den → Option R) (x : pt_30_6.den) k => B_30_6 N rec x (fun y => k (.exit 0) (px_30_6_0.inst y))) (fun _ _ => rfl) (fun _ _ _ => rfl) (fun n x k => step_30_6 N n x k)
theorem rounds_30_6 {R : Type} (N : Nat) : Rounds 0 TT (E_30 (R := R) N) (drawAny TT WW) (L_30 N) 6 (loopAt 6 (bodyOf Try.f30)) :=
  rounds_of (p := pt_30_6) (l := fun (x : pt_30_6.den) k => l_30_6 N N x (fun y => k (.exit 0) (px_30_6_0.inst y))) (fun s k => rfl) (fun x k => eq_30_6 N N x k)
theorem loops_30 : loopsIn (bodyOf Try.f30) = [(6, loopAt 6 (bodyOf Try.f30))] := by kernel_rfl
theorem lok_30 {R : Type} (N : Nat) : LOK 0 TT (E_30 (R := R) N) (drawAny TT WW) (L_30 N) (bodyOf Try.f30) := loops_all loops_30 (by
  simp only [List.forall_mem_cons, List.not_mem_nil, false_implies, implies_true, and_true]
  exact rounds_30_6 N)
theorem grun_30 {R : Type} (q_61 : Tp_61 R) (q_23 : Tp_23 R) (m_30_6 : Tl_30_6 R) (x : aden ap_30 × hden hp_30) (k : KF R) : fnrun TT (EG_30 q_61 q_23) (drawAny TT WW) (LG_30 m_30_6) true Try.f30 (instA ap_30 x.1) (instH hp_30 x.2) k = Q_30 q_61 q_23 m_30_6 x (fun y => k (Pat.inst (.str) y) (instH hp_30 x.2)) := by kernel_rfl
theorem run_30 {R : Type} (N : Nat) (x : aden ap_30 × hden hp_30) (k : KF R) : fnrun TT (E_30 (R := R) N) (drawAny TT WW) (L_30 N) true Try.f30 (instA ap_30 x.1) (instH hp_30 x.2) k = p_30 N x (fun y => k (Pat.inst (.str) y) (instH hp_30 x.2)) := (grun_30 (p_61 N) (p_23 N) (l_30_6 N N) x k).trans (by kernel_rfl)
theorem good_30 {R : Type} (N : Nat) : GD (X := R) Try.prog QQ 30 ap_30 hp_30 (fun (x : aden ap_30 × hden hp_30) k => p_30 N x (fun y => k (Pat.inst (.str) y) (instH hp_30 x.2))) :=
  gd_quiet (E := E_30 N) (p := fun (x : aden ap_30 × hden hp_30) κ => p_30 N x (fun y => κ (Pat.inst (.str) y))) mixed tyok (eok_30 N) Try.func30 (by kernel_rfl) (by kernel_rfl) (lok_30 N) (fun x k => run_30 N x k)

def ap_7 : List Pat := [.int .i64, .ros (.str)]
def hp_7 : List (Option (Pat × Nat)) := []
def p_7 {R : Type} (N : Nat) (x : (Int × (List ByteArray) × Unit) × (Unit)) (κ0 : (Bool × (Unit)) → Option R) : Option R :=
let i1 : Int := x.1.1
let l2 : (List ByteArray) := x.1.2.1
p_28 N ((), ()) (fun y1347 =>
let b1348 : Bool := y1347
bif (!b1348) then (
κ0 (false, ())) else (
bif (decide (i1 > 1100)) then (
bif (decide (i1 ≤ 65536)) then (
κ0 (true, ())) else (
let i1349 : Int := (((List.length l2) : Nat) : Int)
bif (decide (i1349 > 20)) then (
κ0 (true, ())) else (
p_21 N ((l2, ()), ()) (fun y1361 =>
let i1362 : Int := y1361
bif (decide (i1362 > 500)) then (
κ0 (true, ())) else (
p_29_v1 N ((i1, l2, ()), ()) (fun y1747 =>
let s1748 : ByteArray := y1747.1.1
let i1749 : Int := y1747.1.2.1
bif (decide (i1 < 1)) then (
bif (i1749 == 1) then (
κ0 ((eqS s1748 (⟨#[]⟩)), ())) else (
κ0 (false, ()))) else (
bif (decide (i1 > 65536)) then (
bif (i1749 == 1) then (
κ0 ((eqS s1748 (⟨#[]⟩)), ())) else (
κ0 (false, ()))) else (
bif (i1749 == 0) then (
p_14 N ((), ()) (fun y1751 =>
let a1752 : (Nat → Int) := y1751
p_24 N ((l2, ()), ()) (fun y1763 =>
let s1764 : ByteArray := y1763
p_30 N ((a1752, i1, s1764, ()), ()) (fun y2307 =>
let s2308 : ByteArray := y2307
κ0 ((eqS s1748 s2308), ()))))) else (
κ0 (false, ())))))))))) else (
let i2309 : Int := (((List.length l2) : Nat) : Int)
bif (decide (i2309 > 20)) then (
κ0 (true, ())) else (
p_21 N ((l2, ()), ()) (fun y2310 =>
let i2311 : Int := y2310
bif (decide (i2311 > 500)) then (
κ0 (true, ())) else (
p_29_v1 N ((i1, l2, ()), ()) (fun y2312 =>
let s2313 : ByteArray := y2312.1.1
let i2314 : Int := y2312.1.2.1
bif (decide (i1 < 1)) then (
bif (i2314 == 1) then (
κ0 ((eqS s2313 (⟨#[]⟩)), ())) else (
κ0 (false, ()))) else (
bif (decide (i1 > 65536)) then (
bif (i2314 == 1) then (
κ0 ((eqS s2313 (⟨#[]⟩)), ())) else (
κ0 (false, ()))) else (
bif (i2314 == 0) then (
p_14 N ((), ()) (fun y2315 =>
let a2316 : (Nat → Int) := y2315
p_24 N ((l2, ()), ()) (fun y2317 =>
let s2318 : ByteArray := y2317
p_30 N ((a2316, i1, s2318, ()), ()) (fun y2319 =>
let s2320 : ByteArray := y2319
κ0 ((eqS s2313 s2320), ()))))) else (
κ0 (false, ())))))))))))

abbrev Tp_7 (R : Type) : Type := (Int × (List ByteArray) × Unit) × (Unit) → ((Bool × (Unit)) → Option R) → Option R
def Q_7 {R : Type} (q_28 : Tp_28 R) (q_21 : Tp_21 R) (q_29_v1 : Tp_29_v1 R) (q_14 : Tp_14 R) (q_24 : Tp_24 R) (q_30 : Tp_30 R) (x : (Int × (List ByteArray) × Unit) × (Unit)) (κ0 : (Bool × (Unit)) → Option R) : Option R :=
let i1 : Int := x.1.1
let l2 : (List ByteArray) := x.1.2.1
q_28 ((), ()) (fun y1347 =>
let b1348 : Bool := y1347
bif (!b1348) then (
κ0 (false, ())) else (
bif (decide (i1 > 1100)) then (
bif (decide (i1 ≤ 65536)) then (
κ0 (true, ())) else (
let i1349 : Int := (((List.length l2) : Nat) : Int)
bif (decide (i1349 > 20)) then (
κ0 (true, ())) else (
q_21 ((l2, ()), ()) (fun y1361 =>
let i1362 : Int := y1361
bif (decide (i1362 > 500)) then (
κ0 (true, ())) else (
q_29_v1 ((i1, l2, ()), ()) (fun y1747 =>
let s1748 : ByteArray := y1747.1.1
let i1749 : Int := y1747.1.2.1
bif (decide (i1 < 1)) then (
bif (i1749 == 1) then (
κ0 ((eqS s1748 (⟨#[]⟩)), ())) else (
κ0 (false, ()))) else (
bif (decide (i1 > 65536)) then (
bif (i1749 == 1) then (
κ0 ((eqS s1748 (⟨#[]⟩)), ())) else (
κ0 (false, ()))) else (
bif (i1749 == 0) then (
q_14 ((), ()) (fun y1751 =>
let a1752 : (Nat → Int) := y1751
q_24 ((l2, ()), ()) (fun y1763 =>
let s1764 : ByteArray := y1763
q_30 ((a1752, i1, s1764, ()), ()) (fun y2307 =>
let s2308 : ByteArray := y2307
κ0 ((eqS s1748 s2308), ()))))) else (
κ0 (false, ())))))))))) else (
let i2309 : Int := (((List.length l2) : Nat) : Int)
bif (decide (i2309 > 20)) then (
κ0 (true, ())) else (
q_21 ((l2, ()), ()) (fun y2310 =>
let i2311 : Int := y2310
bif (decide (i2311 > 500)) then (
κ0 (true, ())) else (
q_29_v1 ((i1, l2, ()), ()) (fun y2312 =>
let s2313 : ByteArray := y2312.1.1
let i2314 : Int := y2312.1.2.1
bif (decide (i1 < 1)) then (
bif (i2314 == 1) then (
κ0 ((eqS s2313 (⟨#[]⟩)), ())) else (
κ0 (false, ()))) else (
bif (decide (i1 > 65536)) then (
bif (i2314 == 1) then (
κ0 ((eqS s2313 (⟨#[]⟩)), ())) else (
κ0 (false, ()))) else (
bif (i2314 == 0) then (
q_14 ((), ()) (fun y2315 =>
let a2316 : (Nat → Int) := y2315
q_24 ((l2, ()), ()) (fun y2317 =>
let s2318 : ByteArray := y2317
q_30 ((a2316, i1, s2318, ()), ()) (fun y2319 =>
let s2320 : ByteArray := y2319
κ0 ((eqS s2313 s2320), ()))))) else (
κ0 (false, ())))))))))))
def EG_7 {R : Type} (q_28 : Tp_28 R) (q_21 : Tp_21 R) (q_29_v1 : Tp_29_v1 R) (q_14 : Tp_14 R) (q_24 : Tp_24 R) (q_30 : Tp_30 R) : Env R := ((((((Env.base QQ LN).add 28 ap_28 hp_28 (fun (x : aden ap_28 × hden hp_28) k => q_28 x (fun y => k (Pat.inst (.bool) y) (instH hp_28 x.2)))).add 21 ap_21 hp_21 (fun (x : aden ap_21 × hden hp_21) k => q_21 x (fun y => k (Pat.inst (.int .i64) y) (instH hp_21 x.2)))).add 29 ap_29_v1 hp_29_v1 (fun (x : aden ap_29_v1 × hden hp_29_v1) k => q_29_v1 x (fun y => k (Pat.inst (.tup (.fcons (.str) (.fcons (.int .i64) (.fnil)))) y.1) (instH [] y.2)))).add 14 ap_14 hp_14 (fun (x : aden ap_14 × hden hp_14) k => q_14 x (fun y => k (Pat.inst (.vec (.int .u64) 8) y) (instH hp_14 x.2)))).add 24 ap_24 hp_24 (fun (x : aden ap_24 × hden hp_24) k => q_24 x (fun y => k (Pat.inst (.str) y) (instH hp_24 x.2)))).add 30 ap_30 hp_30 (fun (x : aden ap_30 × hden hp_30) k => q_30 x (fun y => k (Pat.inst (.str) y) (instH hp_30 x.2)))
def LG_7 {R : Type} : Loops R := Loops.none
def E_7 {R : Type} (N : Nat) : Env R := EG_7 (p_28 N) (p_21 N) (p_29_v1 N) (p_14 N) (p_24 N) (p_30 N)
theorem eok_7 {R : Type} (N : Nat) : EK Try.prog (E_7 (R := R) N) := ek_add (ek_add (ek_add (ek_add (ek_add (ek_add (ek_base _ _) (good_28 N)) (good_21 N)) (good_29_v1 N)) (good_14 N)) (good_24 N)) (good_30 N)
def L_7 {R : Type} (N : Nat) : Loops R := LG_7
theorem lok_7 {R : Type} (N : Nat) : LOK 0 TT (E_7 (R := R) N) (drawAny TT WW) (L_7 N) (bodyOf Try.f7) := loops_nil (by kernel_rfl)
theorem grun_7 {R : Type} (q_28 : Tp_28 R) (q_21 : Tp_21 R) (q_29_v1 : Tp_29_v1 R) (q_14 : Tp_14 R) (q_24 : Tp_24 R) (q_30 : Tp_30 R) (x : aden ap_7 × hden hp_7) (k : KF R) : fnrun TT (EG_7 q_28 q_21 q_29_v1 q_14 q_24 q_30) (drawAny TT WW) (LG_7) true Try.f7 (instA ap_7 x.1) (instH hp_7 x.2) k = Q_7 q_28 q_21 q_29_v1 q_14 q_24 q_30 x (fun y => k (Pat.inst (.bool) y.1) (instH [] y.2)) := by kernel_rfl
theorem run_7 {R : Type} (N : Nat) (x : aden ap_7 × hden hp_7) (k : KF R) : fnrun TT (E_7 (R := R) N) (drawAny TT WW) (L_7 N) true Try.f7 (instA ap_7 x.1) (instH hp_7 x.2) k = p_7 N x (fun y => k (Pat.inst (.bool) y.1) (instH [] y.2)) := (grun_7 (p_28 N) (p_21 N) (p_29_v1 N) (p_14 N) (p_24 N) (p_30 N) x k).trans (by kernel_rfl)
theorem good_7 {R : Type} (N : Nat) : GD (X := R) Try.prog QQ 7 ap_7 hp_7 (fun (x : aden ap_7 × hden hp_7) k => p_7 N x (fun y => k (Pat.inst (.bool) y.1) (instH [] y.2))) :=
  gd_loud (E := E_7 N) (p := fun (x : aden ap_7 × hden hp_7) k => p_7 N x (fun y => k (Pat.inst (.bool) y.1) (instH [] y.2))) mixed tyok (eok_7 N) Try.func7 (by kernel_rfl) (by kernel_rfl) (by kernel_rfl) (lok_7 N) (fun x k => run_7 N x k)

end Go.Proofs.Ytnfhngcdddjilaa.Eng
