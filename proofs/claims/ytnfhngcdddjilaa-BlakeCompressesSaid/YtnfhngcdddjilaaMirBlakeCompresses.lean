/-
Plain functions that the functions of the program are shown to come to, printed by a program of the prover; each with its proof.
Conditions: none.
-/
import Derived.Test.YtnfhngcdddjilaaMirBlakeCompressesA
import Derived.KernelRfl
set_option linter.unusedVariables false
namespace Go.Proofs.Ytnfhngcdddjilaa.Eng
def ap_87 : List Pat := [.ros (.int .i64), .int .i64]
def hp_87 : List (Option (Pat × Nat)) := []
def p_87 {R : Type} (N : Nat) (x : ((List Int) × Int × Unit) × (Unit)) (κ0 : Int → Option R) : Option R :=
let l1306 : (List Int) := x.1.1
let i1307 : Int := x.1.2.1
let i1308 : Int := (((List.length l1306) : Nat) : Int)
bif (decide (i1307 < i1308)) then (
bif decide (0 ≤ i1307) then (
bif decide (i1307 < ((List.length l1306) : Int)) then (
let p1309 : Int := (List.getD l1306 ((Int.toNat i1307)) (Sch.zero (.int .i64)))
κ0 p1309) else none) else none) else (
κ0 0)

abbrev Tp_87 (R : Type) : Type := ((List Int) × Int × Unit) × (Unit) → (Int → Option R) → Option R
def Q_87 {R : Type} (x : ((List Int) × Int × Unit) × (Unit)) (κ0 : Int → Option R) : Option R :=
let l1306 : (List Int) := x.1.1
let i1307 : Int := x.1.2.1
let i1308 : Int := (((List.length l1306) : Nat) : Int)
bif (decide (i1307 < i1308)) then (
bif decide (0 ≤ i1307) then (
bif decide (i1307 < ((List.length l1306) : Int)) then (
let p1309 : Int := (List.getD l1306 ((Int.toNat i1307)) (Sch.zero (.int .i64)))
κ0 p1309) else none) else none) else (
κ0 0)
def EG_87 {R : Type} : Env R := Env.base QQ LN
def LG_87 {R : Type} : Loops R := Loops.none
def E_87 {R : Type} (N : Nat) : Env R := EG_87
theorem eok_87 {R : Type} (N : Nat) : EK Try.prog (E_87 (R := R) N) := ek_base _ _
def L_87 {R : Type} (N : Nat) : Loops R := LG_87
theorem lok_87 {R : Type} (N : Nat) : LOK 0 TT (E_87 (R := R) N) (drawAny TT WW) (L_87 N) (bodyOf Try.f87) := loops_nil (by kernel_rfl)
theorem grun_87 {R : Type} (x : aden ap_87 × hden hp_87) (k : KF R) : fnrun TT (EG_87) (drawAny TT WW) (LG_87) true Try.f87 (instA ap_87 x.1) (instH hp_87 x.2) k = Q_87 x (fun y => k (Pat.inst (.int .i64) y) (instH hp_87 x.2)) := by kernel_rfl
theorem run_87 {R : Type} (N : Nat) (x : aden ap_87 × hden hp_87) (k : KF R) : fnrun TT (E_87 (R := R) N) (drawAny TT WW) (L_87 N) true Try.f87 (instA ap_87 x.1) (instH hp_87 x.2) k = p_87 N x (fun y => k (Pat.inst (.int .i64) y) (instH hp_87 x.2)) := (grun_87 x k).trans (by kernel_rfl)
theorem good_87 {R : Type} (N : Nat) : GD (X := R) Try.prog QQ 87 ap_87 hp_87 (fun (x : aden ap_87 × hden hp_87) k => p_87 N x (fun y => k (Pat.inst (.int .i64) y) (instH hp_87 x.2))) :=
  gd_quiet (E := E_87 N) (p := fun (x : aden ap_87 × hden hp_87) κ => p_87 N x (fun y => κ (Pat.inst (.int .i64) y))) mixed tyok (eok_87 N) Try.func87 (by kernel_rfl) (by kernel_rfl) (lok_87 N) (fun x k => run_87 N x k)

def lv_79_5 : Live := [(0, none), (1, none), (6, none)]
def pt_79_5 : SPat := ⟨[(0, .ros (.int .i64)), (1, .ros (.int .i64)), (6, .int .i64)], []⟩
def px_79_5_0 : SPat := ⟨[(4, .bool)], []⟩
def px_79_5_1 : SPat := ⟨[], []⟩
def lo_79_5 : Exit → Live
  | .ret => [(4, none)]
  | .exit 0 => []
  | _ => []
def B_79_5 {R : Type} (N : Nat) (rec : (((List Int) × (List Int) × Int × Unit) × (Unit)) → Option R) (x : (((List Int) × (List Int) × Int × Unit) × (Unit))) (κ0 : ((Bool × Unit) × (Unit)) → Option R) (κ1 : ((Unit) × (Unit)) → Option R) : Option R :=
let l1323 : (List Int) := x.1.1
let l1324 : (List Int) := x.1.2.1
let i1325 : Int := x.1.2.2.1
bif (decide (i1325 ≥ 0)) then (
p_87 N ((l1323, i1325, ()), ()) (fun y1326 =>
let i1327 : Int := y1326
p_87 N ((l1324, i1325, ()), ()) (fun y1328 =>
let i1329 : Int := y1328
bif (i1327 != i1329) then (
p_87 N ((l1323, i1325, ()), ()) (fun y1330 =>
let i1331 : Int := y1330
p_87 N ((l1324, i1325, ()), ()) (fun y1332 =>
let i1333 : Int := y1332
κ0 (((decide (i1331 > i1333)), ()), ())))) else (
let i1334 : Int := subA .i64 i1325 1
rec ((l1323, l1324, i1334, ()), ()))))) else (
κ1 ((), ()))
def l_79_5 {R : Type} (N : Nat) : Nat → (((List Int) × (List Int) × Int × Unit) × (Unit)) → (((Bool × Unit) × (Unit)) → Option R) → (((Unit) × (Unit)) → Option R) → Option R
  | 0, _, _, _ => none
  | n + 1, x, κ0, κ1 => B_79_5 N (fun y => l_79_5 N n y κ0 κ1) x κ0 κ1
def ap_79 : List Pat := [.ros (.int .i64), .ros (.int .i64)]
def hp_79 : List (Option (Pat × Nat)) := []
def p_79 {R : Type} (N : Nat) (x : ((List Int) × (List Int) × Unit) × (Unit)) (κ0 : Bool → Option R) : Option R :=
let l1297 : (List Int) := x.1.1
let l1298 : (List Int) := x.1.2.1
let i1299 : Int := (((List.length l1297) : Nat) : Int)
let i1300 : Int := (((List.length l1298) : Nat) : Int)
bif (decide (i1300 > i1299)) then (
let i1301 : Int := (((List.length l1298) : Nat) : Int)
let i1302 : Int := subA .i64 i1301 1
l_79_5 N N ((l1297, l1298, i1302, ()), ()) (fun y1319 =>
let b1320 : Bool := y1319.1.1
κ0 b1320) (fun _ =>
κ0 false)) else (
let i1322 : Int := subA .i64 i1299 1
l_79_5 N N ((l1297, l1298, i1322, ()), ()) (fun y1335 =>
let b1336 : Bool := y1335.1.1
κ0 b1336) (fun _ =>
κ0 false))

abbrev Tl_79_5 (R : Type) : Type := (((List Int) × (List Int) × Int × Unit) × (Unit)) → (((Bool × Unit) × (Unit)) → Option R) → (((Unit) × (Unit)) → Option R) → Option R
abbrev Tp_79 (R : Type) : Type := ((List Int) × (List Int) × Unit) × (Unit) → (Bool → Option R) → Option R
def Q_79 {R : Type} (q_87 : Tp_87 R) (m_79_5 : Tl_79_5 R) (x : ((List Int) × (List Int) × Unit) × (Unit)) (κ0 : Bool → Option R) : Option R :=
let l1297 : (List Int) := x.1.1
let l1298 : (List Int) := x.1.2.1
let i1299 : Int := (((List.length l1297) : Nat) : Int)
let i1300 : Int := (((List.length l1298) : Nat) : Int)
bif (decide (i1300 > i1299)) then (
let i1301 : Int := (((List.length l1298) : Nat) : Int)
let i1302 : Int := subA .i64 i1301 1
m_79_5 ((l1297, l1298, i1302, ()), ()) (fun y1319 =>
let b1320 : Bool := y1319.1.1
κ0 b1320) (fun _ =>
κ0 false)) else (
let i1322 : Int := subA .i64 i1299 1
m_79_5 ((l1297, l1298, i1322, ()), ()) (fun y1335 =>
let b1336 : Bool := y1335.1.1
κ0 b1336) (fun _ =>
κ0 false))
def C_79_5 {R : Type} (q_87 : Tp_87 R) (m_79_5 : Tl_79_5 R) (rec : (((List Int) × (List Int) × Int × Unit) × (Unit)) → Option R) (x : (((List Int) × (List Int) × Int × Unit) × (Unit))) (κ0 : ((Bool × Unit) × (Unit)) → Option R) (κ1 : ((Unit) × (Unit)) → Option R) : Option R :=
let l1323 : (List Int) := x.1.1
let l1324 : (List Int) := x.1.2.1
let i1325 : Int := x.1.2.2.1
bif (decide (i1325 ≥ 0)) then (
q_87 ((l1323, i1325, ()), ()) (fun y1326 =>
let i1327 : Int := y1326
q_87 ((l1324, i1325, ()), ()) (fun y1328 =>
let i1329 : Int := y1328
bif (i1327 != i1329) then (
q_87 ((l1323, i1325, ()), ()) (fun y1330 =>
let i1331 : Int := y1330
q_87 ((l1324, i1325, ()), ()) (fun y1332 =>
let i1333 : Int := y1332
κ0 (((decide (i1331 > i1333)), ()), ())))) else (
let i1334 : Int := subA .i64 i1325 1
rec ((l1323, l1324, i1334, ()), ()))))) else (
κ1 ((), ()))
def EG_79 {R : Type} (q_87 : Tp_87 R) : Env R := (Env.base QQ LN).add 87 ap_87 hp_87 (fun (x : aden ap_87 × hden hp_87) k => q_87 x (fun y => k (Pat.inst (.int .i64) y) (instH hp_87 x.2)))
def LG_79 {R : Type} (m_79_5 : Tl_79_5 R) : Loops R := (Loops.none).add 5 (loopBy 0 lv_79_5 pt_79_5 (fun x k => m_79_5 x (fun y => k .ret (px_79_5_0.inst y)) (fun y => k (.exit 0) (px_79_5_1.inst y))))
def E_79 {R : Type} (N : Nat) : Env R := EG_79 (p_87 N)
theorem eok_79 {R : Type} (N : Nat) : EK Try.prog (E_79 (R := R) N) := ek_add (ek_base _ _) (good_87 N)
def L_79 {R : Type} (N : Nat) : Loops R := LG_79 (l_79_5 N N)
theorem gstep_79_5 {R : Type} (q_87 : Tp_87 R) (m_79_5 : Tl_79_5 R) (n : Nat) (x : pt_79_5.den) (k : Exit → St → Option R) : iter 0 lv_79_5 lo_79_5 (aexec TT (EG_79 q_87) (drawAny TT WW) (LG_79 m_79_5) (loopAt 5 (bodyOf Try.f79))) (n + 1) (pt_79_5.inst x) k = C_79_5 q_87 m_79_5 (fun y => iter 0 lv_79_5 lo_79_5 (aexec TT (EG_79 q_87) (drawAny TT WW) (LG_79 m_79_5) (loopAt 5 (bodyOf Try.f79))) n (pt_79_5.inst y) k) x (fun y => k .ret (px_79_5_0.inst y)) (fun y => k (.exit 0) (px_79_5_1.inst y)) := by kernel_rfl
theorem step_79_5 {R : Type} (N n : Nat) (x : pt_79_5.den) (k : Exit → St → Option R) : iter 0 lv_79_5 lo_79_5 (aexec TT (E_79 (R := R) N) (drawAny TT WW) (L_79 N) (loopAt 5 (bodyOf Try.f79))) (n + 1) (pt_79_5.inst x) k = B_79_5 N (fun y => iter 0 lv_79_5 lo_79_5 (aexec TT (E_79 (R := R) N) (drawAny TT WW) (L_79 N) (loopAt 5 (bodyOf Try.f79))) n (pt_79_5.inst y) k) x (fun y => k .ret (px_79_5_0.inst y)) (fun y => k (.exit 0) (px_79_5_1.inst y)) := (gstep_79_5 (p_87 N) (l_79_5 N N) n x k).trans (by kernel_rfl)
theorem eq_79_5 {R : Type} (N : Nat) : ∀ (n : Nat) (x : pt_79_5.den) (k : Exit → St → Option R), iter 0 lv_79_5 lo_79_5 (aexec TT (E_79 (R := R) N) (drawAny TT WW) (L_79 N) (loopAt 5 (bodyOf Try.f79))) n (pt_79_5.inst x) k = l_79_5 N n x (fun y => k .ret (px_79_5_0.inst y)) (fun y => k (.exit 0) (px_79_5_1.inst y)) :=
  iter_eq (K := Exit → St → Option R) (ks := fun k => k) (l := fun n (x : pt_79_5.den) k => l_79_5 N n x (fun y => k .ret (px_79_5_0.inst y)) (fun y => k (.exit 0) (px_79_5_1.inst y))) (B := fun (rec : pt_79_5.den → Option R) (x : pt_79_5.den) k => B_79_5 N rec x (fun y => k .ret (px_79_5_0.inst y)) (fun y => k (.exit 0) (px_79_5_1.inst y))) (fun _ _ => rfl) (fun _ _ _ => rfl) (fun n x k => step_79_5 N n x k)
theorem rounds_79_5 {R : Type} (N : Nat) : Rounds 0 TT (E_79 (R := R) N) (drawAny TT WW) (L_79 N) 5 (loopAt 5 (bodyOf Try.f79)) :=
  rounds_of (p := pt_79_5) (l := fun (x : pt_79_5.den) k => l_79_5 N N x (fun y => k .ret (px_79_5_0.inst y)) (fun y => k (.exit 0) (px_79_5_1.inst y))) (fun s k => rfl) (fun x k => eq_79_5 N N x k)
theorem loops_79 : loopsIn (bodyOf Try.f79) = [(5, loopAt 5 (bodyOf Try.f79))] := by kernel_rfl
theorem lok_79 {R : Type} (N : Nat) : LOK 0 TT (E_79 (R := R) N) (drawAny TT WW) (L_79 N) (bodyOf Try.f79) := loops_all loops_79 (by
  simp only [List.forall_mem_cons, List.not_mem_nil, false_implies, implies_true, and_true]
  exact rounds_79_5 N)
theorem grun_79 {R : Type} (q_87 : Tp_87 R) (m_79_5 : Tl_79_5 R) (x : aden ap_79 × hden hp_79) (k : KF R) : fnrun TT (EG_79 q_87) (drawAny TT WW) (LG_79 m_79_5) true Try.f79 (instA ap_79 x.1) (instH hp_79 x.2) k = Q_79 q_87 m_79_5 x (fun y => k (Pat.inst (.bool) y) (instH hp_79 x.2)) := by kernel_rfl
theorem run_79 {R : Type} (N : Nat) (x : aden ap_79 × hden hp_79) (k : KF R) : fnrun TT (E_79 (R := R) N) (drawAny TT WW) (L_79 N) true Try.f79 (instA ap_79 x.1) (instH hp_79 x.2) k = p_79 N x (fun y => k (Pat.inst (.bool) y) (instH hp_79 x.2)) := (grun_79 (p_87 N) (l_79_5 N N) x k).trans (by kernel_rfl)
theorem good_79 {R : Type} (N : Nat) : GD (X := R) Try.prog QQ 79 ap_79 hp_79 (fun (x : aden ap_79 × hden hp_79) k => p_79 N x (fun y => k (Pat.inst (.bool) y) (instH hp_79 x.2))) :=
  gd_quiet (E := E_79 N) (p := fun (x : aden ap_79 × hden hp_79) κ => p_79 N x (fun y => κ (Pat.inst (.bool) y))) mixed tyok (eok_79 N) Try.func79 (by kernel_rfl) (by kernel_rfl) (lok_79 N) (fun x k => run_79 N x k)

def lv_81_4 : Live := [(0, none), (1, none), (5, some (.int .i64, 3)), (6, none), (7, none)]
def pt_81_4 : SPat := ⟨[(0, .ros (.int .i64)), (1, .ros (.int .i64)), (5, .sl 0), (6, .int .i64), (7, .int .i64)], [some (.lst (.int .i64), 3)]⟩
def px_81_4_0 : SPat := ⟨[(5, .sl 0)], [some (.lst (.int .i64), 3)]⟩
def lo_81_4 : Exit → Live
  | .exit 0 => [(5, none)]
  | _ => []
def B_81_4 {R : Type} (N : Nat) (rec : (((List Int) × (List Int) × Unit × Int × Int × Unit) × ((List Int) × Unit)) → Option R) (x : (((List Int) × (List Int) × Unit × Int × Int × Unit) × ((List Int) × Unit))) (κ0 : ((Unit × Unit) × ((List Int) × Unit)) → Option R) : Option R :=
let l1402 : (List Int) := x.1.1
let l1403 : (List Int) := x.1.2.1
let i1404 : Int := x.1.2.2.2.1
let i1405 : Int := x.1.2.2.2.2.1
let l1406 : (List Int) := x.2.1
let i1407 : Int := (((List.length l1402) : Nat) : Int)
bif (decide (i1405 < i1407)) then (
p_87 N ((l1402, i1405, ()), ()) (fun y1408 =>
let i1409 : Int := y1408
let i1410 : Int := addA .i64 i1404 i1409
p_87 N ((l1403, i1405, ()), ()) (fun y1411 =>
let i1412 : Int := y1411
let i1413 : Int := addA .i64 i1410 i1412
let i1414 : Int := remA .i64 i1413 65536
let l1415 : (List Int) := [i1414]
bif (decide ((List.length l1406 + List.length l1415) * 8 ≤ 140737488355328) && true) then (
let l1416 : (List Int) := (l1406 ++ l1415)
let i1417 : Int := quoA .i64 i1413 65536
let i1418 : Int := addA .i64 i1405 1
rec ((l1402, l1403, (), i1417, i1418, ()), (l1416, ()))) else none))) else (
let i1419 : Int := (((List.length l1403) : Nat) : Int)
bif (decide (i1405 < i1419)) then (
p_87 N ((l1402, i1405, ()), ()) (fun y1420 =>
let i1421 : Int := y1420
let i1422 : Int := addA .i64 i1404 i1421
p_87 N ((l1403, i1405, ()), ()) (fun y1423 =>
let i1424 : Int := y1423
let i1425 : Int := addA .i64 i1422 i1424
let i1426 : Int := remA .i64 i1425 65536
let l1427 : (List Int) := [i1426]
bif (decide ((List.length l1406 + List.length l1427) * 8 ≤ 140737488355328) && true) then (
let l1428 : (List Int) := (l1406 ++ l1427)
let i1429 : Int := quoA .i64 i1425 65536
let i1430 : Int := addA .i64 i1405 1
rec ((l1402, l1403, (), i1429, i1430, ()), (l1428, ()))) else none))) else (
bif (decide (i1404 > 0)) then (
p_87 N ((l1402, i1405, ()), ()) (fun y1431 =>
let i1432 : Int := y1431
let i1433 : Int := addA .i64 i1404 i1432
p_87 N ((l1403, i1405, ()), ()) (fun y1434 =>
let i1435 : Int := y1434
let i1436 : Int := addA .i64 i1433 i1435
let i1437 : Int := remA .i64 i1436 65536
let l1438 : (List Int) := [i1437]
bif (decide ((List.length l1406 + List.length l1438) * 8 ≤ 140737488355328) && true) then (
let l1439 : (List Int) := (l1406 ++ l1438)
let i1440 : Int := quoA .i64 i1436 65536
let i1441 : Int := addA .i64 i1405 1
rec ((l1402, l1403, (), i1440, i1441, ()), (l1439, ()))) else none))) else (
κ0 (((), ()), (l1406, ())))))
def l_81_4 {R : Type} (N : Nat) : Nat → (((List Int) × (List Int) × Unit × Int × Int × Unit) × ((List Int) × Unit)) → (((Unit × Unit) × ((List Int) × Unit)) → Option R) → Option R
  | 0, _, _ => none
  | n + 1, x, κ0 => B_81_4 N (fun y => l_81_4 N n y κ0) x κ0
def ap_81 : List Pat := [.ros (.int .i64), .ros (.int .i64)]
def hp_81 : List (Option (Pat × Nat)) := []
def p_81 {R : Type} (N : Nat) (x : ((List Int) × (List Int) × Unit) × (Unit)) (κ0 : (List Int) → Option R) : Option R :=
let l1364 : (List Int) := x.1.1
let l1365 : (List Int) := x.1.2.1
l_81_4 N N ((l1364, l1365, (), 0, 0, ()), ([], ())) (fun y1442 =>
let l1443 : (List Int) := y1442.2.1
κ0 l1443)

abbrev Tl_81_4 (R : Type) : Type := (((List Int) × (List Int) × Unit × Int × Int × Unit) × ((List Int) × Unit)) → (((Unit × Unit) × ((List Int) × Unit)) → Option R) → Option R
abbrev Tp_81 (R : Type) : Type := ((List Int) × (List Int) × Unit) × (Unit) → ((List Int) → Option R) → Option R
def Q_81 {R : Type} (q_87 : Tp_87 R) (m_81_4 : Tl_81_4 R) (x : ((List Int) × (List Int) × Unit) × (Unit)) (κ0 : (List Int) → Option R) : Option R :=
let l1364 : (List Int) := x.1.1
let l1365 : (List Int) := x.1.2.1
m_81_4 ((l1364, l1365, (), 0, 0, ()), ([], ())) (fun y1442 =>
let l1443 : (List Int) := y1442.2.1
κ0 l1443)
def C_81_4 {R : Type} (q_87 : Tp_87 R) (m_81_4 : Tl_81_4 R) (rec : (((List Int) × (List Int) × Unit × Int × Int × Unit) × ((List Int) × Unit)) → Option R) (x : (((List Int) × (List Int) × Unit × Int × Int × Unit) × ((List Int) × Unit))) (κ0 : ((Unit × Unit) × ((List Int) × Unit)) → Option R) : Option R :=
let l1402 : (List Int) := x.1.1
let l1403 : (List Int) := x.1.2.1
let i1404 : Int := x.1.2.2.2.1
let i1405 : Int := x.1.2.2.2.2.1
let l1406 : (List Int) := x.2.1
let i1407 : Int := (((List.length l1402) : Nat) : Int)
bif (decide (i1405 < i1407)) then (
q_87 ((l1402, i1405, ()), ()) (fun y1408 =>
let i1409 : Int := y1408
let i1410 : Int := addA .i64 i1404 i1409
q_87 ((l1403, i1405, ()), ()) (fun y1411 =>
let i1412 : Int := y1411
let i1413 : Int := addA .i64 i1410 i1412
let i1414 : Int := remA .i64 i1413 65536
let l1415 : (List Int) := [i1414]
bif (decide ((List.length l1406 + List.length l1415) * 8 ≤ 140737488355328) && true) then (
let l1416 : (List Int) := (l1406 ++ l1415)
let i1417 : Int := quoA .i64 i1413 65536
let i1418 : Int := addA .i64 i1405 1
rec ((l1402, l1403, (), i1417, i1418, ()), (l1416, ()))) else none))) else (
let i1419 : Int := (((List.length l1403) : Nat) : Int)
bif (decide (i1405 < i1419)) then (
q_87 ((l1402, i1405, ()), ()) (fun y1420 =>
let i1421 : Int := y1420
let i1422 : Int := addA .i64 i1404 i1421
q_87 ((l1403, i1405, ()), ()) (fun y1423 =>
let i1424 : Int := y1423
let i1425 : Int := addA .i64 i1422 i1424
let i1426 : Int := remA .i64 i1425 65536
let l1427 : (List Int) := [i1426]
bif (decide ((List.length l1406 + List.length l1427) * 8 ≤ 140737488355328) && true) then (
let l1428 : (List Int) := (l1406 ++ l1427)
let i1429 : Int := quoA .i64 i1425 65536
let i1430 : Int := addA .i64 i1405 1
rec ((l1402, l1403, (), i1429, i1430, ()), (l1428, ()))) else none))) else (
bif (decide (i1404 > 0)) then (
q_87 ((l1402, i1405, ()), ()) (fun y1431 =>
let i1432 : Int := y1431
let i1433 : Int := addA .i64 i1404 i1432
q_87 ((l1403, i1405, ()), ()) (fun y1434 =>
let i1435 : Int := y1434
let i1436 : Int := addA .i64 i1433 i1435
let i1437 : Int := remA .i64 i1436 65536
let l1438 : (List Int) := [i1437]
bif (decide ((List.length l1406 + List.length l1438) * 8 ≤ 140737488355328) && true) then (
let l1439 : (List Int) := (l1406 ++ l1438)
let i1440 : Int := quoA .i64 i1436 65536
let i1441 : Int := addA .i64 i1405 1
rec ((l1402, l1403, (), i1440, i1441, ()), (l1439, ()))) else none))) else (
κ0 (((), ()), (l1406, ())))))
def EG_81 {R : Type} (q_87 : Tp_87 R) : Env R := (Env.base QQ LN).add 87 ap_87 hp_87 (fun (x : aden ap_87 × hden hp_87) k => q_87 x (fun y => k (Pat.inst (.int .i64) y) (instH hp_87 x.2)))
def LG_81 {R : Type} (m_81_4 : Tl_81_4 R) : Loops R := (Loops.none).add 4 (loopBy 0 lv_81_4 pt_81_4 (fun x k => m_81_4 x (fun y => k (.exit 0) (px_81_4_0.inst y))))
def E_81 {R : Type} (N : Nat) : Env R := EG_81 (p_87 N)
theorem eok_81 {R : Type} (N : Nat) : EK Try.prog (E_81 (R := R) N) := ek_add (ek_base _ _) (good_87 N)
def L_81 {R : Type} (N : Nat) : Loops R := LG_81 (l_81_4 N N)
theorem gstep_81_4 {R : Type} (q_87 : Tp_87 R) (m_81_4 : Tl_81_4 R) (n : Nat) (x : pt_81_4.den) (k : Exit → St → Option R) : iter 0 lv_81_4 lo_81_4 (aexec TT (EG_81 q_87) (drawAny TT WW) (LG_81 m_81_4) (loopAt 4 (bodyOf Try.f81))) (n + 1) (pt_81_4.inst x) k = C_81_4 q_87 m_81_4 (fun y => iter 0 lv_81_4 lo_81_4 (aexec TT (EG_81 q_87) (drawAny TT WW) (LG_81 m_81_4) (loopAt 4 (bodyOf Try.f81))) n (pt_81_4.inst y) k) x (fun y => k (.exit 0) (px_81_4_0.inst y)) := by kernel_rfl
theorem step_81_4 {R : Type} (N n : Nat) (x : pt_81_4.den) (k : Exit → St → Option R) : iter 0 lv_81_4 lo_81_4 (aexec TT (E_81 (R := R) N) (drawAny TT WW) (L_81 N) (loopAt 4 (bodyOf Try.f81))) (n + 1) (pt_81_4.inst x) k = B_81_4 N (fun y => iter 0 lv_81_4 lo_81_4 (aexec TT (E_81 (R := R) N) (drawAny TT WW) (L_81 N) (loopAt 4 (bodyOf Try.f81))) n (pt_81_4.inst y) k) x (fun y => k (.exit 0) (px_81_4_0.inst y)) := (gstep_81_4 (p_87 N) (l_81_4 N N) n x k).trans (by kernel_rfl)
theorem eq_81_4 {R : Type} (N : Nat) : ∀ (n : Nat) (x : pt_81_4.den) (k : Exit → St → Option R), iter 0 lv_81_4 lo_81_4 (aexec TT (E_81 (R := R) N) (drawAny TT WW) (L_81 N) (loopAt 4 (bodyOf Try.f81))) n (pt_81_4.inst x) k = l_81_4 N n x (fun y => k (.exit 0) (px_81_4_0.inst y)) :=
  iter_eq (K := Exit → St → Option R) (ks := fun k => k) (l := fun n (x : pt_81_4.den) k => l_81_4 N n x (fun y => k (.exit 0) (px_81_4_0.inst y))) (B := fun (rec : pt_81_4.den → Option R) (x : pt_81_4.den) k => B_81_4 N rec x (fun y => k (.exit 0) (px_81_4_0.inst y))) (fun _ _ => rfl) (fun _ _ _ => rfl) (fun n x k => step_81_4 N n x k)
theorem rounds_81_4 {R : Type} (N : Nat) : Rounds 0 TT (E_81 (R := R) N) (drawAny TT WW) (L_81 N) 4 (loopAt 4 (bodyOf Try.f81)) :=
  rounds_of (p := pt_81_4) (l := fun (x : pt_81_4.den) k => l_81_4 N N x (fun y => k (.exit 0) (px_81_4_0.inst y))) (fun s k => rfl) (fun x k => eq_81_4 N N x k)
theorem loops_81 : loopsIn (bodyOf Try.f81) = [(4, loopAt 4 (bodyOf Try.f81))] := by kernel_rfl
theorem lok_81 {R : Type} (N : Nat) : LOK 0 TT (E_81 (R := R) N) (drawAny TT WW) (L_81 N) (bodyOf Try.f81) := loops_all loops_81 (by
  simp only [List.forall_mem_cons, List.not_mem_nil, false_implies, implies_true, and_true]
  exact rounds_81_4 N)
theorem grun_81 {R : Type} (q_87 : Tp_87 R) (m_81_4 : Tl_81_4 R) (x : aden ap_81 × hden hp_81) (k : KF R) : fnrun TT (EG_81 q_87) (drawAny TT WW) (LG_81 m_81_4) true Try.f81 (instA ap_81 x.1) (instH hp_81 x.2) k = Q_81 q_87 m_81_4 x (fun y => k (Pat.inst (.ros (.int .i64)) y) (instH hp_81 x.2)) := by kernel_rfl
theorem run_81 {R : Type} (N : Nat) (x : aden ap_81 × hden hp_81) (k : KF R) : fnrun TT (E_81 (R := R) N) (drawAny TT WW) (L_81 N) true Try.f81 (instA ap_81 x.1) (instH hp_81 x.2) k = p_81 N x (fun y => k (Pat.inst (.ros (.int .i64)) y) (instH hp_81 x.2)) := (grun_81 (p_87 N) (l_81_4 N N) x k).trans (by kernel_rfl)
theorem good_81 {R : Type} (N : Nat) : GD (X := R) Try.prog QQ 81 ap_81 hp_81 (fun (x : aden ap_81 × hden hp_81) k => p_81 N x (fun y => k (Pat.inst (.ros (.int .i64)) y) (instH hp_81 x.2))) :=
  gd_quiet (E := E_81 N) (p := fun (x : aden ap_81 × hden hp_81) κ => p_81 N x (fun y => κ (Pat.inst (.ros (.int .i64)) y))) mixed tyok (eok_81 N) Try.func81 (by kernel_rfl) (by kernel_rfl) (lok_81 N) (fun x k => run_81 N x k)

def lv_48_3 : Live := [(0, none), (1, none), (2, none), (7, none), (8, none)]
def pt_48_3 : SPat := ⟨[(0, .int .i64), (1, .int .i64), (2, .int .i64), (7, .ros (.int .i64)), (8, .int .i64)], []⟩
def px_48_3_0 : SPat := ⟨[(1, .int .i64), (2, .int .i64), (7, .ros (.int .i64)), (8, .int .i64)], []⟩
def lo_48_3 : Exit → Live
  | .exit 0 => [(1, none), (2, none), (7, none), (8, none)]
  | _ => []
def B_48_3 {R : Type} (N : Nat) (rec : ((Int × Int × Int × (List Int) × Int × Unit) × (Unit)) → Option R) (x : ((Int × Int × Int × (List Int) × Int × Unit) × (Unit))) (κ0 : ((Int × Int × (List Int) × Int × Unit) × (Unit)) → Option R) : Option R :=
let i1207 : Int := x.1.1
let i1208 : Int := x.1.2.1
let i1209 : Int := x.1.2.2.1
let l1210 : (List Int) := x.1.2.2.2.1
let i1211 : Int := x.1.2.2.2.2.1
let i1212 : Int := addA .i64 i1211 1
let i1213 : Int := IntKind.wrap .u64 i1212
p_78 N ((i1213, ()), ()) (fun y1214 =>
let l1215 : (List Int) := y1214
p_80 N ((l1215, i1208, ()), ()) (fun y1292 =>
let l1293 : (List Int) := y1292
let i1294 : Int := IntKind.wrap .u64 i1207
p_78 N ((i1294, ()), ()) (fun y1295 =>
let l1296 : (List Int) := y1295
p_79 N ((l1293, l1296, ()), ()) (fun y1338 =>
let b1339 : Bool := y1338
bif (!b1339) then (
let i1340 : Int := addA .i64 i1211 1
rec ((i1207, i1208, i1209, l1210, i1340, ()), ())) else (
κ0 ((i1208, i1209, l1210, i1211, ()), ()))))))
def l_48_3 {R : Type} (N : Nat) : Nat → ((Int × Int × Int × (List Int) × Int × Unit) × (Unit)) → (((Int × Int × (List Int) × Int × Unit) × (Unit)) → Option R) → Option R
  | 0, _, _ => none
  | n + 1, x, κ0 => B_48_3 N (fun y => l_48_3 N n y κ0) x κ0
def lv_48_7 : Live := [(1, none), (2, none), (7, none), (8, none), (9, none), (10, none)]
def pt_48_7 : SPat := ⟨[(1, .int .i64), (2, .int .i64), (7, .ros (.int .i64)), (8, .int .i64), (9, .int .u64), (10, .int .i64)], []⟩
def px_48_7_0 : SPat := ⟨[(9, .int .u64)], []⟩
def lo_48_7 : Exit → Live
  | .exit 2 => [(9, none)]
  | _ => []
def B_48_7 {R : Type} (N : Nat) (rec : ((Int × Int × (List Int) × Int × Int × Int × Unit) × (Unit)) → Option R) (x : ((Int × Int × (List Int) × Int × Int × Int × Unit) × (Unit))) (κ0 : ((Int × Unit) × (Unit)) → Option R) : Option R :=
let i1348 : Int := x.1.1
let i1349 : Int := x.1.2.1
let l1350 : (List Int) := x.1.2.2.1
let i1351 : Int := x.1.2.2.2.1
let i1352 : Int := x.1.2.2.2.2.1
let i1353 : Int := x.1.2.2.2.2.2.1
bif (decide (i1353 ≥ 0)) then (
let i1354 : Int := IntKind.wrap .u64 i1353
bif decide (i1354 < 0) then none else (
let i1355 : Int := shlA .u64 1 i1354
let i1356 : Int := addA .u64 i1352 i1355
let i1357 : Int := IntKind.wrap .u64 i1351
p_78 N ((i1357, ()), ()) (fun y1358 =>
let l1359 : (List Int) := y1358
p_77 N ((l1359, i1349, ()), ()) (fun y1360 =>
let l1361 : (List Int) := y1360
p_78 N ((i1356, ()), ()) (fun y1362 =>
let l1363 : (List Int) := y1362
p_81 N ((l1361, l1363, ()), ()) (fun y1444 =>
let l1445 : (List Int) := y1444
p_80 N ((l1445, i1348, ()), ()) (fun y1446 =>
let l1447 : (List Int) := y1446
p_79 N ((l1447, l1350, ()), ()) (fun y1448 =>
let b1449 : Bool := y1448
bif (!b1449) then (
let i1450 : Int := subA .i64 i1353 1
rec ((i1348, i1349, l1350, i1351, i1356, i1450, ()), ())) else (
let i1451 : Int := subA .i64 i1353 1
rec ((i1348, i1349, l1350, i1351, i1352, i1451, ()), ())))))))))) else (
κ0 ((i1352, ()), ()))
def l_48_7 {R : Type} (N : Nat) : Nat → ((Int × Int × (List Int) × Int × Int × Int × Unit) × (Unit)) → (((Int × Unit) × (Unit)) → Option R) → Option R
  | 0, _, _ => none
  | n + 1, x, κ0 => B_48_7 N (fun y => l_48_7 N n y κ0) x κ0
def ap_48 : List Pat := [.int .i64, .int .i64, .int .i64]
def hp_48 : List (Option (Pat × Nat)) := []
def p_48 {R : Type} (N : Nat) (x : (Int × Int × Int × Unit) × (Unit)) (κ0 : Int → Option R) : Option R :=
let i1179 : Int := x.1.1
let i1180 : Int := x.1.2.1
let i1181 : Int := x.1.2.2.1
let i1182 : Int := IntKind.wrap .u64 i1179
p_78 N ((i1182, ()), ()) (fun y1198 =>
let l1199 : (List Int) := y1198
let i1200 : Int := mulA .i64 i1181 i1180
p_77 N ((l1199, i1200, ()), ()) (fun y1205 =>
let l1206 : (List Int) := y1205
l_48_3 N N ((i1179, i1180, i1181, l1206, 0, ()), ()) (fun y1341 =>
let i1342 : Int := y1341.1.1
let i1343 : Int := y1341.1.2.1
let l1344 : (List Int) := y1341.1.2.2.1
let i1345 : Int := y1341.1.2.2.2.1
let i1346 : Int := mulA .i64 16 i1343
let i1347 : Int := subA .i64 i1346 1
l_48_7 N N ((i1342, i1343, l1344, i1345, 0, i1347, ()), ()) (fun y1452 =>
let i1453 : Int := y1452.1.1
κ0 i1453))))

abbrev Tl_48_3 (R : Type) : Type := ((Int × Int × Int × (List Int) × Int × Unit) × (Unit)) → (((Int × Int × (List Int) × Int × Unit) × (Unit)) → Option R) → Option R
abbrev Tl_48_7 (R : Type) : Type := ((Int × Int × (List Int) × Int × Int × Int × Unit) × (Unit)) → (((Int × Unit) × (Unit)) → Option R) → Option R
abbrev Tp_48 (R : Type) : Type := (Int × Int × Int × Unit) × (Unit) → (Int → Option R) → Option R
def Q_48 {R : Type} (q_78 : Tp_78 R) (q_77 : Tp_77 R) (q_80 : Tp_80 R) (q_79 : Tp_79 R) (q_81 : Tp_81 R) (m_48_3 : Tl_48_3 R) (m_48_7 : Tl_48_7 R) (x : (Int × Int × Int × Unit) × (Unit)) (κ0 : Int → Option R) : Option R :=
let i1179 : Int := x.1.1
let i1180 : Int := x.1.2.1
let i1181 : Int := x.1.2.2.1
let i1182 : Int := IntKind.wrap .u64 i1179
q_78 ((i1182, ()), ()) (fun y1198 =>
let l1199 : (List Int) := y1198
let i1200 : Int := mulA .i64 i1181 i1180
q_77 ((l1199, i1200, ()), ()) (fun y1205 =>
let l1206 : (List Int) := y1205
m_48_3 ((i1179, i1180, i1181, l1206, 0, ()), ()) (fun y1341 =>
let i1342 : Int := y1341.1.1
let i1343 : Int := y1341.1.2.1
let l1344 : (List Int) := y1341.1.2.2.1
let i1345 : Int := y1341.1.2.2.2.1
let i1346 : Int := mulA .i64 16 i1343
let i1347 : Int := subA .i64 i1346 1
m_48_7 ((i1342, i1343, l1344, i1345, 0, i1347, ()), ()) (fun y1452 =>
let i1453 : Int := y1452.1.1
κ0 i1453))))
def C_48_3 {R : Type} (q_78 : Tp_78 R) (q_77 : Tp_77 R) (q_80 : Tp_80 R) (q_79 : Tp_79 R) (q_81 : Tp_81 R) (m_48_3 : Tl_48_3 R) (m_48_7 : Tl_48_7 R) (rec : ((Int × Int × Int × (List Int) × Int × Unit) × (Unit)) → Option R) (x : ((Int × Int × Int × (List Int) × Int × Unit) × (Unit))) (κ0 : ((Int × Int × (List Int) × Int × Unit) × (Unit)) → Option R) : Option R :=
let i1207 : Int := x.1.1
let i1208 : Int := x.1.2.1
let i1209 : Int := x.1.2.2.1
let l1210 : (List Int) := x.1.2.2.2.1
let i1211 : Int := x.1.2.2.2.2.1
let i1212 : Int := addA .i64 i1211 1
let i1213 : Int := IntKind.wrap .u64 i1212
q_78 ((i1213, ()), ()) (fun y1214 =>
let l1215 : (List Int) := y1214
q_80 ((l1215, i1208, ()), ()) (fun y1292 =>
let l1293 : (List Int) := y1292
let i1294 : Int := IntKind.wrap .u64 i1207
q_78 ((i1294, ()), ()) (fun y1295 =>
let l1296 : (List Int) := y1295
q_79 ((l1293, l1296, ()), ()) (fun y1338 =>
let b1339 : Bool := y1338
bif (!b1339) then (
let i1340 : Int := addA .i64 i1211 1
rec ((i1207, i1208, i1209, l1210, i1340, ()), ())) else (
κ0 ((i1208, i1209, l1210, i1211, ()), ()))))))
def C_48_7 {R : Type} (q_78 : Tp_78 R) (q_77 : Tp_77 R) (q_80 : Tp_80 R) (q_79 : Tp_79 R) (q_81 : Tp_81 R) (m_48_3 : Tl_48_3 R) (m_48_7 : Tl_48_7 R) (rec : ((Int × Int × (List Int) × Int × Int × Int × Unit) × (Unit)) → Option R) (x : ((Int × Int × (List Int) × Int × Int × Int × Unit) × (Unit))) (κ0 : ((Int × Unit) × (Unit)) → Option R) : Option R :=
let i1348 : Int := x.1.1
let i1349 : Int := x.1.2.1
let l1350 : (List Int) := x.1.2.2.1
let i1351 : Int := x.1.2.2.2.1
let i1352 : Int := x.1.2.2.2.2.1
let i1353 : Int := x.1.2.2.2.2.2.1
bif (decide (i1353 ≥ 0)) then (
let i1354 : Int := IntKind.wrap .u64 i1353
bif decide (i1354 < 0) then none else (
let i1355 : Int := shlA .u64 1 i1354
let i1356 : Int := addA .u64 i1352 i1355
let i1357 : Int := IntKind.wrap .u64 i1351
q_78 ((i1357, ()), ()) (fun y1358 =>
let l1359 : (List Int) := y1358
q_77 ((l1359, i1349, ()), ()) (fun y1360 =>
let l1361 : (List Int) := y1360
q_78 ((i1356, ()), ()) (fun y1362 =>
let l1363 : (List Int) := y1362
q_81 ((l1361, l1363, ()), ()) (fun y1444 =>
let l1445 : (List Int) := y1444
q_80 ((l1445, i1348, ()), ()) (fun y1446 =>
let l1447 : (List Int) := y1446
q_79 ((l1447, l1350, ()), ()) (fun y1448 =>
let b1449 : Bool := y1448
bif (!b1449) then (
let i1450 : Int := subA .i64 i1353 1
rec ((i1348, i1349, l1350, i1351, i1356, i1450, ()), ())) else (
let i1451 : Int := subA .i64 i1353 1
rec ((i1348, i1349, l1350, i1351, i1352, i1451, ()), ())))))))))) else (
κ0 ((i1352, ()), ()))
def EG_48 {R : Type} (q_78 : Tp_78 R) (q_77 : Tp_77 R) (q_80 : Tp_80 R) (q_79 : Tp_79 R) (q_81 : Tp_81 R) : Env R := (((((Env.base QQ LN).add 78 ap_78 hp_78 (fun (x : aden ap_78 × hden hp_78) k => q_78 x (fun y => k (Pat.inst (.ros (.int .i64)) y) (instH hp_78 x.2)))).add 77 ap_77 hp_77 (fun (x : aden ap_77 × hden hp_77) k => q_77 x (fun y => k (Pat.inst (.ros (.int .i64)) y) (instH hp_77 x.2)))).add 80 ap_80 hp_80 (fun (x : aden ap_80 × hden hp_80) k => q_80 x (fun y => k (Pat.inst (.ros (.int .i64)) y) (instH hp_80 x.2)))).add 79 ap_79 hp_79 (fun (x : aden ap_79 × hden hp_79) k => q_79 x (fun y => k (Pat.inst (.bool) y) (instH hp_79 x.2)))).add 81 ap_81 hp_81 (fun (x : aden ap_81 × hden hp_81) k => q_81 x (fun y => k (Pat.inst (.ros (.int .i64)) y) (instH hp_81 x.2)))
def LG_48 {R : Type} (m_48_3 : Tl_48_3 R) (m_48_7 : Tl_48_7 R) : Loops R := ((Loops.none).add 3 (loopBy 0 lv_48_3 pt_48_3 (fun x k => m_48_3 x (fun y => k (.exit 0) (px_48_3_0.inst y))))).add 7 (loopBy 0 lv_48_7 pt_48_7 (fun x k => m_48_7 x (fun y => k (.exit 2) (px_48_7_0.inst y))))
def E_48 {R : Type} (N : Nat) : Env R := EG_48 (p_78 N) (p_77 N) (p_80 N) (p_79 N) (p_81 N)
theorem eok_48 {R : Type} (N : Nat) : EK Try.prog (E_48 (R := R) N) := ek_add (ek_add (ek_add (ek_add (ek_add (ek_base _ _) (good_78 N)) (good_77 N)) (good_80 N)) (good_79 N)) (good_81 N)
def L_48 {R : Type} (N : Nat) : Loops R := LG_48 (l_48_3 N N) (l_48_7 N N)
theorem gstep_48_3 {R : Type} (q_78 : Tp_78 R) (q_77 : Tp_77 R) (q_80 : Tp_80 R) (q_79 : Tp_79 R) (q_81 : Tp_81 R) (m_48_3 : Tl_48_3 R) (m_48_7 : Tl_48_7 R) (n : Nat) (x : pt_48_3.den) (k : Exit → St → Option R) : iter 0 lv_48_3 lo_48_3 (aexec TT (EG_48 q_78 q_77 q_80 q_79 q_81) (drawAny TT WW) (LG_48 m_48_3 m_48_7) (loopAt 3 (bodyOf Try.f48))) (n + 1) (pt_48_3.inst x) k = C_48_3 q_78 q_77 q_80 q_79 q_81 m_48_3 m_48_7 (fun y => iter 0 lv_48_3 lo_48_3 (aexec TT (EG_48 q_78 q_77 q_80 q_79 q_81) (drawAny TT WW) (LG_48 m_48_3 m_48_7) (loopAt 3 (bodyOf Try.f48))) n (pt_48_3.inst y) k) x (fun y => k (.exit 0) (px_48_3_0.inst y)) := by kernel_rfl
theorem step_48_3 {R : Type} (N n : Nat) (x : pt_48_3.den) (k : Exit → St → Option R) : iter 0 lv_48_3 lo_48_3 (aexec TT (E_48 (R := R) N) (drawAny TT WW) (L_48 N) (loopAt 3 (bodyOf Try.f48))) (n + 1) (pt_48_3.inst x) k = B_48_3 N (fun y => iter 0 lv_48_3 lo_48_3 (aexec TT (E_48 (R := R) N) (drawAny TT WW) (L_48 N) (loopAt 3 (bodyOf Try.f48))) n (pt_48_3.inst y) k) x (fun y => k (.exit 0) (px_48_3_0.inst y)) := (gstep_48_3 (p_78 N) (p_77 N) (p_80 N) (p_79 N) (p_81 N) (l_48_3 N N) (l_48_7 N N) n x k).trans (by kernel_rfl)
theorem eq_48_3 {R : Type} (N : Nat) : ∀ (n : Nat) (x : pt_48_3.den) (k : Exit → St → Option R), iter 0 lv_48_3 lo_48_3 (aexec TT (E_48 (R := R) N) (drawAny TT WW) (L_48 N) (loopAt 3 (bodyOf Try.f48))) n (pt_48_3.inst x) k = l_48_3 N n x (fun y => k (.exit 0) (px_48_3_0.inst y)) :=
  iter_eq (K := Exit → St → Option R) (ks := fun k => k) (l := fun n (x : pt_48_3.den) k => l_48_3 N n x (fun y => k (.exit 0) (px_48_3_0.inst y))) (B := fun (rec : pt_48_3.den → Option R) (x : pt_48_3.den) k => B_48_3 N rec x (fun y => k (.exit 0) (px_48_3_0.inst y))) (fun _ _ => rfl) (fun _ _ _ => rfl) (fun n x k => step_48_3 N n x k)
theorem rounds_48_3 {R : Type} (N : Nat) : Rounds 0 TT (E_48 (R := R) N) (drawAny TT WW) (L_48 N) 3 (loopAt 3 (bodyOf Try.f48)) :=
  rounds_of (p := pt_48_3) (l := fun (x : pt_48_3.den) k => l_48_3 N N x (fun y => k (.exit 0) (px_48_3_0.inst y))) (fun s k => rfl) (fun x k => eq_48_3 N N x k)
theorem gstep_48_7 {R : Type} (q_78 : Tp_78 R) (q_77 : Tp_77 R) (q_80 : Tp_80 R) (q_79 : Tp_79 R) (q_81 : Tp_81 R) (m_48_3 : Tl_48_3 R) (m_48_7 : Tl_48_7 R) (n : Nat) (x : pt_48_7.den) (k : Exit → St → Option R) : iter 0 lv_48_7 lo_48_7 (aexec TT (EG_48 q_78 q_77 q_80 q_79 q_81) (drawAny TT WW) (LG_48 m_48_3 m_48_7) (loopAt 7 (bodyOf Try.f48))) (n + 1) (pt_48_7.inst x) k = C_48_7 q_78 q_77 q_80 q_79 q_81 m_48_3 m_48_7 (fun y => iter 0 lv_48_7 lo_48_7 (aexec TT (EG_48 q_78 q_77 q_80 q_79 q_81) (drawAny TT WW) (LG_48 m_48_3 m_48_7) (loopAt 7 (bodyOf Try.f48))) n (pt_48_7.inst y) k) x (fun y => k (.exit 2) (px_48_7_0.inst y)) := by kernel_rfl
theorem step_48_7 {R : Type} (N n : Nat) (x : pt_48_7.den) (k : Exit → St → Option R) : iter 0 lv_48_7 lo_48_7 (aexec TT (E_48 (R := R) N) (drawAny TT WW) (L_48 N) (loopAt 7 (bodyOf Try.f48))) (n + 1) (pt_48_7.inst x) k = B_48_7 N (fun y => iter 0 lv_48_7 lo_48_7 (aexec TT (E_48 (R := R) N) (drawAny TT WW) (L_48 N) (loopAt 7 (bodyOf Try.f48))) n (pt_48_7.inst y) k) x (fun y => k (.exit 2) (px_48_7_0.inst y)) := (gstep_48_7 (p_78 N) (p_77 N) (p_80 N) (p_79 N) (p_81 N) (l_48_3 N N) (l_48_7 N N) n x k).trans (by kernel_rfl)
theorem eq_48_7 {R : Type} (N : Nat) : ∀ (n : Nat) (x : pt_48_7.den) (k : Exit → St → Option R), iter 0 lv_48_7 lo_48_7 (aexec TT (E_48 (R := R) N) (drawAny TT WW) (L_48 N) (loopAt 7 (bodyOf Try.f48))) n (pt_48_7.inst x) k = l_48_7 N n x (fun y => k (.exit 2) (px_48_7_0.inst y)) :=
  iter_eq (K := Exit → St → Option R) (ks := fun k => k) (l := fun n (x : pt_48_7.den) k => l_48_7 N n x (fun y => k (.exit 2) (px_48_7_0.inst y))) (B := fun (rec : pt_48_7.den → Option R) (x : pt_48_7.den) k => B_48_7 N rec x (fun y => k (.exit 2) (px_48_7_0.inst y))) (fun _ _ => rfl) (fun _ _ _ => rfl) (fun n x k => step_48_7 N n x k)
theorem rounds_48_7 {R : Type} (N : Nat) : Rounds 0 TT (E_48 (R := R) N) (drawAny TT WW) (L_48 N) 7 (loopAt 7 (bodyOf Try.f48)) :=
  rounds_of (p := pt_48_7) (l := fun (x : pt_48_7.den) k => l_48_7 N N x (fun y => k (.exit 2) (px_48_7_0.inst y))) (fun s k => rfl) (fun x k => eq_48_7 N N x k)
theorem loops_48 : loopsIn (bodyOf Try.f48) = [(3, loopAt 3 (bodyOf Try.f48)), (7, loopAt 7 (bodyOf Try.f48))] := by kernel_rfl
theorem lok_48 {R : Type} (N : Nat) : LOK 0 TT (E_48 (R := R) N) (drawAny TT WW) (L_48 N) (bodyOf Try.f48) := loops_all loops_48 (by
  simp only [List.forall_mem_cons, List.not_mem_nil, false_implies, implies_true, and_true]
  exact ⟨rounds_48_3 N, rounds_48_7 N⟩)
theorem grun_48 {R : Type} (q_78 : Tp_78 R) (q_77 : Tp_77 R) (q_80 : Tp_80 R) (q_79 : Tp_79 R) (q_81 : Tp_81 R) (m_48_3 : Tl_48_3 R) (m_48_7 : Tl_48_7 R) (x : aden ap_48 × hden hp_48) (k : KF R) : fnrun TT (EG_48 q_78 q_77 q_80 q_79 q_81) (drawAny TT WW) (LG_48 m_48_3 m_48_7) true Try.f48 (instA ap_48 x.1) (instH hp_48 x.2) k = Q_48 q_78 q_77 q_80 q_79 q_81 m_48_3 m_48_7 x (fun y => k (Pat.inst (.int .u64) y) (instH hp_48 x.2)) := by kernel_rfl
theorem run_48 {R : Type} (N : Nat) (x : aden ap_48 × hden hp_48) (k : KF R) : fnrun TT (E_48 (R := R) N) (drawAny TT WW) (L_48 N) true Try.f48 (instA ap_48 x.1) (instH hp_48 x.2) k = p_48 N x (fun y => k (Pat.inst (.int .u64) y) (instH hp_48 x.2)) := (grun_48 (p_78 N) (p_77 N) (p_80 N) (p_79 N) (p_81 N) (l_48_3 N N) (l_48_7 N N) x k).trans (by kernel_rfl)
theorem good_48 {R : Type} (N : Nat) : GD (X := R) Try.prog QQ 48 ap_48 hp_48 (fun (x : aden ap_48 × hden hp_48) k => p_48 N x (fun y => k (Pat.inst (.int .u64) y) (instH hp_48 x.2))) :=
  gd_quiet (E := E_48 N) (p := fun (x : aden ap_48 × hden hp_48) κ => p_48 N x (fun y => κ (Pat.inst (.int .u64) y))) mixed tyok (eok_48 N) Try.func48 (by kernel_rfl) (by kernel_rfl) (lok_48 N) (fun x k => run_48 N x k)

def lv_13_4 : Live := [(0, none), (1, none), (2, none), (3, none)]
def pt_13_4 : SPat := ⟨[(0, .ptr 0 []), (1, .ros (.int .i64)), (2, .ptr 1 []), (3, .int .i64)], [some (.vec (.int .u64) 8, 29), some (.vec (.int .u64) 8, 29)]⟩
def px_13_4_0 : SPat := ⟨[(0, .ptr 0 []), (2, .ptr 1 [])], [some (.vec (.int .u64) 8, 29), some (.vec (.int .u64) 8, 29)]⟩
def lo_13_4 : Exit → Live
  | .exit 0 => [(0, none), (2, none)]
  | _ => []
def B_13_4 {R : Type} (N : Nat) (rec : ((Unit × (List Int) × Unit × Int × Unit) × ((Nat → Int) × (Nat → Int) × Unit)) → Option R) (x : ((Unit × (List Int) × Unit × Int × Unit) × ((Nat → Int) × (Nat → Int) × Unit))) (κ0 : ((Unit × Unit × Unit) × ((Nat → Int) × (Nat → Int) × Unit)) → Option R) : Option R :=
let l1174 : (List Int) := x.1.2.1
let i1175 : Int := x.1.2.2.2.1
let a1176 : (Nat → Int) := x.2.1
let a1177 : (Nat → Int) := x.2.2.1
bif (decide (i1175 < 8)) then (
bif decide (0 ≤ i1175) then (
bif decide (i1175 < ((List.length l1174) : Int)) then (
let p1178 : Int := (List.getD l1174 ((Int.toNat i1175)) (Sch.zero (.int .i64)))
p_48 N ((p1178, 2, 4, ()), ()) (fun y1454 =>
let i1455 : Int := y1454
bif decide (0 ≤ i1175) then (
bif decide (i1175 < (8 : Int)) then (
let a1456 : (Nat → Int) := (upd a1177 ((Int.toNat i1175)) i1455)
let i1457 : Int := addA .i64 i1175 1
rec (((), l1174, (), i1457, ()), (a1176, a1456, ()))) else none) else none)) else none) else none) else (
κ0 (((), (), ()), (a1176, a1177, ())))
def l_13_4 {R : Type} (N : Nat) : Nat → ((Unit × (List Int) × Unit × Int × Unit) × ((Nat → Int) × (Nat → Int) × Unit)) → (((Unit × Unit × Unit) × ((Nat → Int) × (Nat → Int) × Unit)) → Option R) → Option R
  | 0, _, _ => none
  | n + 1, x, κ0 => B_13_4 N (fun y => l_13_4 N n y κ0) x κ0
def ap_13 : List Pat := []
def hp_13 : List (Option (Pat × Nat)) := []
def p_13 {R : Type} (N : Nat) (x : (Unit) × (Unit)) (κ0 : (Nat → Int) → Option R) : Option R :=
p_47 N ((8, ()), ()) (fun y1172 =>
let l1173 : (List Int) := y1172
l_13_4 N N (((), l1173, (), 0, ()), ((Sch.zero (.arr 8 (.int .u64))), (Sch.zero (.arr 8 (.int .u64))), ())) (fun y1458 =>
let a1459 : (Nat → Int) := y1458.2.1
let a1460 : (Nat → Int) := y1458.2.2.1
κ0 a1460))

abbrev Tl_13_4 (R : Type) : Type := ((Unit × (List Int) × Unit × Int × Unit) × ((Nat → Int) × (Nat → Int) × Unit)) → (((Unit × Unit × Unit) × ((Nat → Int) × (Nat → Int) × Unit)) → Option R) → Option R
abbrev Tp_13 (R : Type) : Type := (Unit) × (Unit) → ((Nat → Int) → Option R) → Option R
def Q_13 {R : Type} (q_47 : Tp_47 R) (q_48 : Tp_48 R) (m_13_4 : Tl_13_4 R) (x : (Unit) × (Unit)) (κ0 : (Nat → Int) → Option R) : Option R :=
q_47 ((8, ()), ()) (fun y1172 =>
let l1173 : (List Int) := y1172
m_13_4 (((), l1173, (), 0, ()), ((Sch.zero (.arr 8 (.int .u64))), (Sch.zero (.arr 8 (.int .u64))), ())) (fun y1458 =>
let a1459 : (Nat → Int) := y1458.2.1
let a1460 : (Nat → Int) := y1458.2.2.1
κ0 a1460))
def C_13_4 {R : Type} (q_47 : Tp_47 R) (q_48 : Tp_48 R) (m_13_4 : Tl_13_4 R) (rec : ((Unit × (List Int) × Unit × Int × Unit) × ((Nat → Int) × (Nat → Int) × Unit)) → Option R) (x : ((Unit × (List Int) × Unit × Int × Unit) × ((Nat → Int) × (Nat → Int) × Unit))) (κ0 : ((Unit × Unit × Unit) × ((Nat → Int) × (Nat → Int) × Unit)) → Option R) : Option R :=
let l1174 : (List Int) := x.1.2.1
let i1175 : Int := x.1.2.2.2.1
let a1176 : (Nat → Int) := x.2.1
let a1177 : (Nat → Int) := x.2.2.1
bif (decide (i1175 < 8)) then (
bif decide (0 ≤ i1175) then (
bif decide (i1175 < ((List.length l1174) : Int)) then (
let p1178 : Int := (List.getD l1174 ((Int.toNat i1175)) (Sch.zero (.int .i64)))
q_48 ((p1178, 2, 4, ()), ()) (fun y1454 =>
let i1455 : Int := y1454
bif decide (0 ≤ i1175) then (
bif decide (i1175 < (8 : Int)) then (
let a1456 : (Nat → Int) := (upd a1177 ((Int.toNat i1175)) i1455)
let i1457 : Int := addA .i64 i1175 1
rec (((), l1174, (), i1457, ()), (a1176, a1456, ()))) else none) else none)) else none) else none) else (
κ0 (((), (), ()), (a1176, a1177, ())))
def EG_13 {R : Type} (q_47 : Tp_47 R) (q_48 : Tp_48 R) : Env R := ((Env.base QQ LN).add 47 ap_47 hp_47 (fun (x : aden ap_47 × hden hp_47) k => q_47 x (fun y => k (Pat.inst (.ros (.int .i64)) y) (instH hp_47 x.2)))).add 48 ap_48 hp_48 (fun (x : aden ap_48 × hden hp_48) k => q_48 x (fun y => k (Pat.inst (.int .u64) y) (instH hp_48 x.2)))
def LG_13 {R : Type} (m_13_4 : Tl_13_4 R) : Loops R := (Loops.none).add 4 (loopBy 0 lv_13_4 pt_13_4 (fun x k => m_13_4 x (fun y => k (.exit 0) (px_13_4_0.inst y))))
def E_13 {R : Type} (N : Nat) : Env R := EG_13 (p_47 N) (p_48 N)
theorem eok_13 {R : Type} (N : Nat) : EK Try.prog (E_13 (R := R) N) := ek_add (ek_add (ek_base _ _) (good_47 N)) (good_48 N)
def L_13 {R : Type} (N : Nat) : Loops R := LG_13 (l_13_4 N N)
theorem gstep_13_4 {R : Type} (q_47 : Tp_47 R) (q_48 : Tp_48 R) (m_13_4 : Tl_13_4 R) (n : Nat) (x : pt_13_4.den) (k : Exit → St → Option R) : iter 0 lv_13_4 lo_13_4 (aexec TT (EG_13 q_47 q_48) (drawAny TT WW) (LG_13 m_13_4) (loopAt 4 (bodyOf Try.f13))) (n + 1) (pt_13_4.inst x) k = C_13_4 q_47 q_48 m_13_4 (fun y => iter 0 lv_13_4 lo_13_4 (aexec TT (EG_13 q_47 q_48) (drawAny TT WW) (LG_13 m_13_4) (loopAt 4 (bodyOf Try.f13))) n (pt_13_4.inst y) k) x (fun y => k (.exit 0) (px_13_4_0.inst y)) := by kernel_rfl
theorem step_13_4 {R : Type} (N n : Nat) (x : pt_13_4.den) (k : Exit → St → Option R) : iter 0 lv_13_4 lo_13_4 (aexec TT (E_13 (R := R) N) (drawAny TT WW) (L_13 N) (loopAt 4 (bodyOf Try.f13))) (n + 1) (pt_13_4.inst x) k = B_13_4 N (fun y => iter 0 lv_13_4 lo_13_4 (aexec TT (E_13 (R := R) N) (drawAny TT WW) (L_13 N) (loopAt 4 (bodyOf Try.f13))) n (pt_13_4.inst y) k) x (fun y => k (.exit 0) (px_13_4_0.inst y)) := (gstep_13_4 (p_47 N) (p_48 N) (l_13_4 N N) n x k).trans (by kernel_rfl)
theorem eq_13_4 {R : Type} (N : Nat) : ∀ (n : Nat) (x : pt_13_4.den) (k : Exit → St → Option R), iter 0 lv_13_4 lo_13_4 (aexec TT (E_13 (R := R) N) (drawAny TT WW) (L_13 N) (loopAt 4 (bodyOf Try.f13))) n (pt_13_4.inst x) k = l_13_4 N n x (fun y => k (.exit 0) (px_13_4_0.inst y)) :=
  iter_eq (K := Exit → St → Option R) (ks := fun k => k) (l := fun n (x : pt_13_4.den) k => l_13_4 N n x (fun y => k (.exit 0) (px_13_4_0.inst y))) (B := fun (rec : pt_13_4.den → Option R) (x : pt_13_4.den) k => B_13_4 N rec x (fun y => k (.exit 0) (px_13_4_0.inst y))) (fun _ _ => rfl) (fun _ _ _ => rfl) (fun n x k => step_13_4 N n x k)
theorem rounds_13_4 {R : Type} (N : Nat) : Rounds 0 TT (E_13 (R := R) N) (drawAny TT WW) (L_13 N) 4 (loopAt 4 (bodyOf Try.f13)) :=
  rounds_of (p := pt_13_4) (l := fun (x : pt_13_4.den) k => l_13_4 N N x (fun y => k (.exit 0) (px_13_4_0.inst y))) (fun s k => rfl) (fun x k => eq_13_4 N N x k)
theorem loops_13 : loopsIn (bodyOf Try.f13) = [(4, loopAt 4 (bodyOf Try.f13))] := by kernel_rfl
theorem lok_13 {R : Type} (N : Nat) : LOK 0 TT (E_13 (R := R) N) (drawAny TT WW) (L_13 N) (bodyOf Try.f13) := loops_all loops_13 (by
  simp only [List.forall_mem_cons, List.not_mem_nil, false_implies, implies_true, and_true]
  exact rounds_13_4 N)
theorem grun_13 {R : Type} (q_47 : Tp_47 R) (q_48 : Tp_48 R) (m_13_4 : Tl_13_4 R) (x : aden ap_13 × hden hp_13) (k : KF R) : fnrun TT (EG_13 q_47 q_48) (drawAny TT WW) (LG_13 m_13_4) true Try.f13 (instA ap_13 x.1) (instH hp_13 x.2) k = Q_13 q_47 q_48 m_13_4 x (fun y => k (Pat.inst (.vec (.int .u64) 8) y) (instH hp_13 x.2)) := by kernel_rfl
theorem run_13 {R : Type} (N : Nat) (x : aden ap_13 × hden hp_13) (k : KF R) : fnrun TT (E_13 (R := R) N) (drawAny TT WW) (L_13 N) true Try.f13 (instA ap_13 x.1) (instH hp_13 x.2) k = p_13 N x (fun y => k (Pat.inst (.vec (.int .u64) 8) y) (instH hp_13 x.2)) := (grun_13 (p_47 N) (p_48 N) (l_13_4 N N) x k).trans (by kernel_rfl)
theorem good_13 {R : Type} (N : Nat) : GD (X := R) Try.prog QQ 13 ap_13 hp_13 (fun (x : aden ap_13 × hden hp_13) k => p_13 N x (fun y => k (Pat.inst (.vec (.int .u64) 8) y) (instH hp_13 x.2))) :=
  gd_quiet (E := E_13 N) (p := fun (x : aden ap_13 × hden hp_13) κ => p_13 N x (fun y => κ (Pat.inst (.vec (.int .u64) 8) y))) mixed tyok (eok_13 N) Try.func13 (by kernel_rfl) (by kernel_rfl) (lok_13 N) (fun x k => run_13 N x k)

def ap_14 : List Pat := []
def hp_14 : List (Option (Pat × Nat)) := []
def p_14 {R : Type} (N : Nat) (x : (Unit) × (Unit)) (κ0 : (Nat → Int) → Option R) : Option R :=
let a1463 : (Nat → Int) := (upd ((upd ((upd ((upd ((upd ((upd ((upd ((upd ((Sch.zero (.arr 8 (.int .u64)))) 0 7640891576956012808)) 1 13503953896175478587)) 2 4354685564936845355)) 3 11912009170470909681)) 4 5840696475078001361)) 5 11170449401992604703)) 6 2270897969802886507)) 7 6620516959819538809)
κ0 a1463

abbrev Tp_14 (R : Type) : Type := (Unit) × (Unit) → ((Nat → Int) → Option R) → Option R
def Q_14 {R : Type} (x : (Unit) × (Unit)) (κ0 : (Nat → Int) → Option R) : Option R :=
let a1463 : (Nat → Int) := (upd ((upd ((upd ((upd ((upd ((upd ((upd ((upd ((Sch.zero (.arr 8 (.int .u64)))) 0 7640891576956012808)) 1 13503953896175478587)) 2 4354685564936845355)) 3 11912009170470909681)) 4 5840696475078001361)) 5 11170449401992604703)) 6 2270897969802886507)) 7 6620516959819538809)
κ0 a1463
def EG_14 {R : Type} : Env R := Env.base QQ LN
def LG_14 {R : Type} : Loops R := Loops.none
def E_14 {R : Type} (N : Nat) : Env R := EG_14
theorem eok_14 {R : Type} (N : Nat) : EK Try.prog (E_14 (R := R) N) := ek_base _ _
def L_14 {R : Type} (N : Nat) : Loops R := LG_14
theorem lok_14 {R : Type} (N : Nat) : LOK 0 TT (E_14 (R := R) N) (drawAny TT WW) (L_14 N) (bodyOf Try.f14) := loops_nil (by kernel_rfl)
theorem grun_14 {R : Type} (x : aden ap_14 × hden hp_14) (k : KF R) : fnrun TT (EG_14) (drawAny TT WW) (LG_14) true Try.f14 (instA ap_14 x.1) (instH hp_14 x.2) k = Q_14 x (fun y => k (Pat.inst (.vec (.int .u64) 8) y) (instH hp_14 x.2)) := by kernel_rfl
theorem run_14 {R : Type} (N : Nat) (x : aden ap_14 × hden hp_14) (k : KF R) : fnrun TT (E_14 (R := R) N) (drawAny TT WW) (L_14 N) true Try.f14 (instA ap_14 x.1) (instH hp_14 x.2) k = p_14 N x (fun y => k (Pat.inst (.vec (.int .u64) 8) y) (instH hp_14 x.2)) := (grun_14 x k).trans (by kernel_rfl)
theorem good_14 {R : Type} (N : Nat) : GD (X := R) Try.prog QQ 14 ap_14 hp_14 (fun (x : aden ap_14 × hden hp_14) k => p_14 N x (fun y => k (Pat.inst (.vec (.int .u64) 8) y) (instH hp_14 x.2))) :=
  gd_quiet (E := E_14 N) (p := fun (x : aden ap_14 × hden hp_14) κ => p_14 N x (fun y => κ (Pat.inst (.vec (.int .u64) 8) y))) mixed tyok (eok_14 N) Try.func14 (by kernel_rfl) (by kernel_rfl) (lok_14 N) (fun x k => run_14 N x k)

def lv_49_9 : Live := [(0, none), (1, none), (6, none), (7, none), (8, none), (9, none)]
def pt_49_9 : SPat := ⟨[(0, .sl 0), (1, .int .i64), (6, .sl 1), (7, .int .i64), (8, .int .u64), (9, .int .i64)], [some (.lst (.int .u8), 5), some (.lst (.int .u64), 22)]⟩
def px_49_9_0 : SPat := ⟨[(0, .sl 0), (1, .int .i64), (6, .sl 1), (7, .int .i64), (8, .int .u64)], [some (.lst (.int .u8), 5), some (.lst (.int .u64), 22)]⟩
def lo_49_9 : Exit → Live
  | .exit 2 => [(0, none), (1, none), (6, none), (7, none), (8, none)]
  | _ => []
def B_49_9 {R : Type} (N : Nat) (rec : ((Unit × Int × Unit × Int × Int × Int × Unit) × ((List Int) × (List Int) × Unit)) → Option R) (x : ((Unit × Int × Unit × Int × Int × Int × Unit) × ((List Int) × (List Int) × Unit))) (κ0 : ((Unit × Int × Unit × Int × Int × Unit) × ((List Int) × (List Int) × Unit)) → Option R) : Option R :=
let i1508 : Int := x.1.2.1
let i1509 : Int := x.1.2.2.2.1
let i1510 : Int := x.1.2.2.2.2.1
let i1511 : Int := x.1.2.2.2.2.2.1
let l1512 : (List Int) := x.2.1
let l1513 : (List Int) := x.2.2.1
bif (decide (i1511 ≥ 0)) then (
let i1514 : Int := mulA .u64 256 i1510
let i1515 : Int := addA .i64 i1509 i1511
bif decide (0 ≤ i1515) then (
bif decide (i1515 < ((List.length l1512) : Int)) then (
let i1516 : Int := (List.getD l1512 ((Int.toNat i1515)) (Sch.zero (.int .u8)))
let i1517 : Int := IntKind.wrap .u64 i1516
let i1518 : Int := addA .u64 i1514 i1517
let i1519 : Int := subA .i64 i1511 1
rec (((), i1508, (), i1509, i1518, i1519, ()), (l1512, l1513, ()))) else none) else none) else (
κ0 (((), i1508, (), i1509, i1510, ()), (l1512, l1513, ())))
def l_49_9 {R : Type} (N : Nat) : Nat → ((Unit × Int × Unit × Int × Int × Int × Unit) × ((List Int) × (List Int) × Unit)) → (((Unit × Int × Unit × Int × Int × Unit) × ((List Int) × (List Int) × Unit)) → Option R) → Option R
  | 0, _, _ => none
  | n + 1, x, κ0 => B_49_9 N (fun y => l_49_9 N n y κ0) x κ0
def lv_49_5 : Live := [(0, none), (1, none), (6, some (.int .u64, 22)), (7, none)]
def pt_49_5 : SPat := ⟨[(0, .sl 0), (1, .int .i64), (6, .sl 1), (7, .int .i64)], [some (.lst (.int .u8), 5), some (.lst (.int .u64), 22)]⟩
def px_49_5_0 : SPat := ⟨[(6, .sl 1)], [some (.lst (.int .u8), 5), some (.lst (.int .u64), 22)]⟩
def lo_49_5 : Exit → Live
  | .exit 0 => [(6, none)]
  | _ => []
def B_49_5 {R : Type} (N : Nat) (rec : ((Unit × Int × Unit × Int × Unit) × ((List Int) × (List Int) × Unit)) → Option R) (x : ((Unit × Int × Unit × Int × Unit) × ((List Int) × (List Int) × Unit))) (κ0 : ((Unit × Unit) × ((List Int) × (List Int) × Unit)) → Option R) : Option R :=
let i1502 : Int := x.1.2.1
let i1503 : Int := x.1.2.2.2.1
let l1504 : (List Int) := x.2.1
let l1505 : (List Int) := x.2.2.1
let i1506 : Int := (((List.length l1504) : Nat) : Int)
bif (decide (i1503 < i1506)) then (
let i1507 : Int := subA .i64 i1502 1
l_49_9 N N (((), i1502, (), i1503, 0, i1507, ()), (l1504, l1505, ())) (fun y1520 =>
let i1521 : Int := y1520.1.2.1
let i1522 : Int := y1520.1.2.2.2.1
let i1523 : Int := y1520.1.2.2.2.2.1
let l1524 : (List Int) := y1520.2.1
let l1525 : (List Int) := y1520.2.2.1
let l1526 : (List Int) := [i1523]
bif (decide ((List.length l1525 + List.length l1526) * 8 ≤ 140737488355328) && true) then (
let l1527 : (List Int) := (l1525 ++ l1526)
let i1528 : Int := addA .i64 i1522 i1521
rec (((), i1521, (), i1528, ()), (l1524, l1527, ()))) else none)) else (
κ0 (((), ()), (l1504, l1505, ())))
def l_49_5 {R : Type} (N : Nat) : Nat → ((Unit × Int × Unit × Int × Unit) × ((List Int) × (List Int) × Unit)) → (((Unit × Unit) × ((List Int) × (List Int) × Unit)) → Option R) → Option R
  | 0, _, _ => none
  | n + 1, x, κ0 => B_49_5 N (fun y => l_49_5 N n y κ0) x κ0
def ap_49 : List Pat := [.sl 0, .int .i64]
def hp_49 : List (Option (Pat × Nat)) := [some (.lst (.int .u8), 5)]
def p_49 {R : Type} (N : Nat) (x : (Unit × Int × Unit) × ((List Int) × Unit)) (κ0 : (((List Int) × (Bool × Unit)) × ((List Int) × Unit)) → Option R) : Option R :=
let i1475 : Int := x.1.2.1
let l1476 : (List Int) := x.2.1
let i1477 : Int := (((List.length l1476) : Nat) : Int)
bif decide (i1475 = 0) then none else (
let i1478 : Int := remA .i64 i1477 i1475
bif (i1478 != 0) then (
κ0 (([], (false, ())), (l1476, ()))) else (
l_49_5 N N (((), i1475, (), 0, ()), (l1476, [], ())) (fun y1529 =>
let l1530 : (List Int) := y1529.2.1
let l1531 : (List Int) := y1529.2.2.1
κ0 ((l1531, (true, ())), (l1530, ())))))

abbrev Tl_49_9 (R : Type) : Type := ((Unit × Int × Unit × Int × Int × Int × Unit) × ((List Int) × (List Int) × Unit)) → (((Unit × Int × Unit × Int × Int × Unit) × ((List Int) × (List Int) × Unit)) → Option R) → Option R
abbrev Tl_49_5 (R : Type) : Type := ((Unit × Int × Unit × Int × Unit) × ((List Int) × (List Int) × Unit)) → (((Unit × Unit) × ((List Int) × (List Int) × Unit)) → Option R) → Option R
abbrev Tp_49 (R : Type) : Type := (Unit × Int × Unit) × ((List Int) × Unit) → ((((List Int) × (Bool × Unit)) × ((List Int) × Unit)) → Option R) → Option R
def Q_49 {R : Type} (m_49_9 : Tl_49_9 R) (m_49_5 : Tl_49_5 R) (x : (Unit × Int × Unit) × ((List Int) × Unit)) (κ0 : (((List Int) × (Bool × Unit)) × ((List Int) × Unit)) → Option R) : Option R :=
let i1475 : Int := x.1.2.1
let l1476 : (List Int) := x.2.1
let i1477 : Int := (((List.length l1476) : Nat) : Int)
bif decide (i1475 = 0) then none else (
let i1478 : Int := remA .i64 i1477 i1475
bif (i1478 != 0) then (
κ0 (([], (false, ())), (l1476, ()))) else (
m_49_5 (((), i1475, (), 0, ()), (l1476, [], ())) (fun y1529 =>
let l1530 : (List Int) := y1529.2.1
let l1531 : (List Int) := y1529.2.2.1
κ0 ((l1531, (true, ())), (l1530, ())))))
def C_49_9 {R : Type} (m_49_9 : Tl_49_9 R) (m_49_5 : Tl_49_5 R) (rec : ((Unit × Int × Unit × Int × Int × Int × Unit) × ((List Int) × (List Int) × Unit)) → Option R) (x : ((Unit × Int × Unit × Int × Int × Int × Unit) × ((List Int) × (List Int) × Unit))) (κ0 : ((Unit × Int × Unit × Int × Int × Unit) × ((List Int) × (List Int) × Unit)) → Option R) : Option R :=
let i1508 : Int := x.1.2.1
let i1509 : Int := x.1.2.2.2.1
let i1510 : Int := x.1.2.2.2.2.1
let i1511 : Int := x.1.2.2.2.2.2.1
let l1512 : (List Int) := x.2.1
let l1513 : (List Int) := x.2.2.1
bif (decide (i1511 ≥ 0)) then (
let i1514 : Int := mulA .u64 256 i1510
let i1515 : Int := addA .i64 i1509 i1511
bif decide (0 ≤ i1515) then (
bif decide (i1515 < ((List.length l1512) : Int)) then (
let i1516 : Int := (List.getD l1512 ((Int.toNat i1515)) (Sch.zero (.int .u8)))
let i1517 : Int := IntKind.wrap .u64 i1516
let i1518 : Int := addA .u64 i1514 i1517
let i1519 : Int := subA .i64 i1511 1
rec (((), i1508, (), i1509, i1518, i1519, ()), (l1512, l1513, ()))) else none) else none) else (
κ0 (((), i1508, (), i1509, i1510, ()), (l1512, l1513, ())))
def C_49_5 {R : Type} (m_49_9 : Tl_49_9 R) (m_49_5 : Tl_49_5 R) (rec : ((Unit × Int × Unit × Int × Unit) × ((List Int) × (List Int) × Unit)) → Option R) (x : ((Unit × Int × Unit × Int × Unit) × ((List Int) × (List Int) × Unit))) (κ0 : ((Unit × Unit) × ((List Int) × (List Int) × Unit)) → Option R) : Option R :=
let i1502 : Int := x.1.2.1
let i1503 : Int := x.1.2.2.2.1
let l1504 : (List Int) := x.2.1
let l1505 : (List Int) := x.2.2.1
let i1506 : Int := (((List.length l1504) : Nat) : Int)
bif (decide (i1503 < i1506)) then (
let i1507 : Int := subA .i64 i1502 1
m_49_9 (((), i1502, (), i1503, 0, i1507, ()), (l1504, l1505, ())) (fun y1520 =>
let i1521 : Int := y1520.1.2.1
let i1522 : Int := y1520.1.2.2.2.1
let i1523 : Int := y1520.1.2.2.2.2.1
let l1524 : (List Int) := y1520.2.1
let l1525 : (List Int) := y1520.2.2.1
let l1526 : (List Int) := [i1523]
bif (decide ((List.length l1525 + List.length l1526) * 8 ≤ 140737488355328) && true) then (
let l1527 : (List Int) := (l1525 ++ l1526)
let i1528 : Int := addA .i64 i1522 i1521
rec (((), i1521, (), i1528, ()), (l1524, l1527, ()))) else none)) else (
κ0 (((), ()), (l1504, l1505, ())))
def EG_49 {R : Type} : Env R := Env.base QQ LN
def LG_49 {R : Type} (m_49_9 : Tl_49_9 R) (m_49_5 : Tl_49_5 R) : Loops R := ((Loops.none).add 9 (loopBy 1 lv_49_9 pt_49_9 (fun x k => m_49_9 x (fun y => k (.exit 2) (px_49_9_0.inst y))))).add 5 (loopBy 1 lv_49_5 pt_49_5 (fun x k => m_49_5 x (fun y => k (.exit 0) (px_49_5_0.inst y))))
def E_49 {R : Type} (N : Nat) : Env R := EG_49
theorem eok_49 {R : Type} (N : Nat) : EK Try.prog (E_49 (R := R) N) := ek_base _ _
def L_49 {R : Type} (N : Nat) : Loops R := LG_49 (l_49_9 N N) (l_49_5 N N)
theorem gstep_49_9 {R : Type} (m_49_9 : Tl_49_9 R) (m_49_5 : Tl_49_5 R) (n : Nat) (x : pt_49_9.den) (k : Exit → St → Option R) : iter 1 lv_49_9 lo_49_9 (aexec TT (EG_49) (drawAny TT WW) (LG_49 m_49_9 m_49_5) (loopAt 9 (bodyOf Try.f49))) (n + 1) (pt_49_9.inst x) k = C_49_9 m_49_9 m_49_5 (fun y => iter 1 lv_49_9 lo_49_9 (aexec TT (EG_49) (drawAny TT WW) (LG_49 m_49_9 m_49_5) (loopAt 9 (bodyOf Try.f49))) n (pt_49_9.inst y) k) x (fun y => k (.exit 2) (px_49_9_0.inst y)) := by kernel_rfl
theorem step_49_9 {R : Type} (N n : Nat) (x : pt_49_9.den) (k : Exit → St → Option R) : iter 1 lv_49_9 lo_49_9 (aexec TT (E_49 (R := R) N) (drawAny TT WW) (L_49 N) (loopAt 9 (bodyOf Try.f49))) (n + 1) (pt_49_9.inst x) k = B_49_9 N (fun y => iter 1 lv_49_9 lo_49_9 (aexec TT (E_49 (R := R) N) (drawAny TT WW) (L_49 N) (loopAt 9 (bodyOf Try.f49))) n (pt_49_9.inst y) k) x (fun y => k (.exit 2) (px_49_9_0.inst y)) := (gstep_49_9 (l_49_9 N N) (l_49_5 N N) n x k).trans (by kernel_rfl)
theorem eq_49_9 {R : Type} (N : Nat) : ∀ (n : Nat) (x : pt_49_9.den) (k : Exit → St → Option R), iter 1 lv_49_9 lo_49_9 (aexec TT (E_49 (R := R) N) (drawAny TT WW) (L_49 N) (loopAt 9 (bodyOf Try.f49))) n (pt_49_9.inst x) k = l_49_9 N n x (fun y => k (.exit 2) (px_49_9_0.inst y)) :=
  iter_eq (K := Exit → St → Option R) (ks := fun k => k) (l := fun n (x : pt_49_9.den) k => l_49_9 N n x (fun y => k (.exit 2) (px_49_9_0.inst y))) (B := fun (rec : pt_49_9.den → Option R) (x : pt_49_9.den) k => B_49_9 N rec x (fun y => k (.exit 2) (px_49_9_0.inst y))) (fun _ _ => rfl) (fun _ _ _ => rfl) (fun n x k => step_49_9 N n x k)
theorem rounds_49_9 {R : Type} (N : Nat) : Rounds 1 TT (E_49 (R := R) N) (drawAny TT WW) (L_49 N) 9 (loopAt 9 (bodyOf Try.f49)) :=
  rounds_of (p := pt_49_9) (l := fun (x : pt_49_9.den) k => l_49_9 N N x (fun y => k (.exit 2) (px_49_9_0.inst y))) (fun s k => rfl) (fun x k => eq_49_9 N N x k)
theorem gstep_49_5 {R : Type} (m_49_9 : Tl_49_9 R) (m_49_5 : Tl_49_5 R) (n : Nat) (x : pt_49_5.den) (k : Exit → St → Option R) : iter 1 lv_49_5 lo_49_5 (aexec TT (EG_49) (drawAny TT WW) (LG_49 m_49_9 m_49_5) (loopAt 5 (bodyOf Try.f49))) (n + 1) (pt_49_5.inst x) k = C_49_5 m_49_9 m_49_5 (fun y => iter 1 lv_49_5 lo_49_5 (aexec TT (EG_49) (drawAny TT WW) (LG_49 m_49_9 m_49_5) (loopAt 5 (bodyOf Try.f49))) n (pt_49_5.inst y) k) x (fun y => k (.exit 0) (px_49_5_0.inst y)) := by kernel_rfl
theorem step_49_5 {R : Type} (N n : Nat) (x : pt_49_5.den) (k : Exit → St → Option R) : iter 1 lv_49_5 lo_49_5 (aexec TT (E_49 (R := R) N) (drawAny TT WW) (L_49 N) (loopAt 5 (bodyOf Try.f49))) (n + 1) (pt_49_5.inst x) k = B_49_5 N (fun y => iter 1 lv_49_5 lo_49_5 (aexec TT (E_49 (R := R) N) (drawAny TT WW) (L_49 N) (loopAt 5 (bodyOf Try.f49))) n (pt_49_5.inst y) k) x (fun y => k (.exit 0) (px_49_5_0.inst y)) := (gstep_49_5 (l_49_9 N N) (l_49_5 N N) n x k).trans (by kernel_rfl)
theorem eq_49_5 {R : Type} (N : Nat) : ∀ (n : Nat) (x : pt_49_5.den) (k : Exit → St → Option R), iter 1 lv_49_5 lo_49_5 (aexec TT (E_49 (R := R) N) (drawAny TT WW) (L_49 N) (loopAt 5 (bodyOf Try.f49))) n (pt_49_5.inst x) k = l_49_5 N n x (fun y => k (.exit 0) (px_49_5_0.inst y)) :=
  iter_eq (K := Exit → St → Option R) (ks := fun k => k) (l := fun n (x : pt_49_5.den) k => l_49_5 N n x (fun y => k (.exit 0) (px_49_5_0.inst y))) (B := fun (rec : pt_49_5.den → Option R) (x : pt_49_5.den) k => B_49_5 N rec x (fun y => k (.exit 0) (px_49_5_0.inst y))) (fun _ _ => rfl) (fun _ _ _ => rfl) (fun n x k => step_49_5 N n x k)
theorem rounds_49_5 {R : Type} (N : Nat) : Rounds 1 TT (E_49 (R := R) N) (drawAny TT WW) (L_49 N) 5 (loopAt 5 (bodyOf Try.f49)) :=
  rounds_of (p := pt_49_5) (l := fun (x : pt_49_5.den) k => l_49_5 N N x (fun y => k (.exit 0) (px_49_5_0.inst y))) (fun s k => rfl) (fun x k => eq_49_5 N N x k)
theorem loops_49 : loopsIn (bodyOf Try.f49) = [(5, loopAt 5 (bodyOf Try.f49)), (9, loopAt 9 (bodyOf Try.f49))] := by kernel_rfl
theorem lok_49 {R : Type} (N : Nat) : LOK 1 TT (E_49 (R := R) N) (drawAny TT WW) (L_49 N) (bodyOf Try.f49) := loops_all loops_49 (by
  simp only [List.forall_mem_cons, List.not_mem_nil, false_implies, implies_true, and_true]
  exact ⟨rounds_49_5 N, rounds_49_9 N⟩)
theorem grun_49 {R : Type} (m_49_9 : Tl_49_9 R) (m_49_5 : Tl_49_5 R) (x : aden ap_49 × hden hp_49) (k : KF R) : fnrun TT (EG_49) (drawAny TT WW) (LG_49 m_49_9 m_49_5) true Try.f49 (instA ap_49 x.1) (instH hp_49 x.2) k = Q_49 m_49_9 m_49_5 x (fun y => k (Pat.inst (.tup (.fcons (.ros (.int .u64)) (.fcons (.bool) (.fnil)))) y.1) (instH [some (.lst (.int .u8), 5)] y.2)) := by kernel_rfl
theorem run_49 {R : Type} (N : Nat) (x : aden ap_49 × hden hp_49) (k : KF R) : fnrun TT (E_49 (R := R) N) (drawAny TT WW) (L_49 N) true Try.f49 (instA ap_49 x.1) (instH hp_49 x.2) k = p_49 N x (fun y => k (Pat.inst (.tup (.fcons (.ros (.int .u64)) (.fcons (.bool) (.fnil)))) y.1) (instH [some (.lst (.int .u8), 5)] y.2)) := (grun_49 (l_49_9 N N) (l_49_5 N N) x k).trans (by kernel_rfl)
theorem good_49 {R : Type} (N : Nat) : GD (X := R) Try.prog QQ 49 ap_49 hp_49 (fun (x : aden ap_49 × hden hp_49) k => p_49 N x (fun y => k (Pat.inst (.tup (.fcons (.ros (.int .u64)) (.fcons (.bool) (.fnil)))) y.1) (instH [some (.lst (.int .u8), 5)] y.2))) :=
  gd_loud (E := E_49 N) (p := fun (x : aden ap_49 × hden hp_49) k => p_49 N x (fun y => k (Pat.inst (.tup (.fcons (.ros (.int .u64)) (.fcons (.bool) (.fnil)))) y.1) (instH [some (.lst (.int .u8), 5)] y.2))) mixed tyok (eok_49 N) Try.func49 (by kernel_rfl) (by kernel_rfl) (by kernel_rfl) (lok_49 N) (fun x k => run_49 N x k)

def lv_20_11 : Live := [(2, none), (4, none), (5, none), (6, none), (7, none), (8, none)]
def pt_20_11 : SPat := ⟨[(2, .ptr 0 []), (4, .ptr 1 []), (5, .str), (6, .str), (7, .int .i64), (8, .int .i64)], [some (.vec (.int .i64) 16, 38), some (.vec (.int .i64) 16, 38)]⟩
def px_20_11_0 : SPat := ⟨[(2, .ptr 0 []), (4, .ptr 1 []), (5, .str), (6, .str), (7, .int .i64)], [some (.vec (.int .i64) 16, 38), some (.vec (.int .i64) 16, 38)]⟩
def lo_20_11 : Exit → Live
  | .exit 2 => [(2, none), (4, none), (5, none), (6, none), (7, none)]
  | _ => []
def B_20_11 {R : Type} (N : Nat) (rec : ((Unit × Unit × ByteArray × ByteArray × Int × Int × Unit) × ((Nat → Int) × (Nat → Int) × Unit)) → Option R) (x : ((Unit × Unit × ByteArray × ByteArray × Int × Int × Unit) × ((Nat → Int) × (Nat → Int) × Unit))) (κ0 : ((Unit × Unit × ByteArray × ByteArray × Int × Unit) × ((Nat → Int) × (Nat → Int) × Unit)) → Option R) : Option R :=
let s1579 : ByteArray := x.1.2.2.1
let s1580 : ByteArray := x.1.2.2.2.1
let i1581 : Int := x.1.2.2.2.2.1
let i1582 : Int := x.1.2.2.2.2.2.1
let a1583 : (Nat → Int) := x.2.1
let a1584 : (Nat → Int) := x.2.2.1
bif (decide (i1582 < 16)) then (
bif decide (0 ≤ i1582) then (
bif decide (i1582 < (ByteArray.size s1580 : Int)) then (
let i1585 : Int := byteAt s1580 ((Int.toNat i1582))
bif decide (0 ≤ i1581) then (
bif decide (i1581 < (ByteArray.size s1579 : Int)) then (
let i1586 : Int := byteAt s1579 ((Int.toNat i1581))
bif (i1585 == i1586) then (
bif decide (0 ≤ i1581) then (
bif decide (i1581 < (16 : Int)) then (
let a1587 : (Nat → Int) := (upd a1584 ((Int.toNat i1581)) i1582)
let i1588 : Int := addA .i64 i1582 1
rec (((), (), s1579, s1580, i1581, i1588, ()), (a1583, a1587, ()))) else none) else none) else (
let i1589 : Int := addA .i64 i1582 1
rec (((), (), s1579, s1580, i1581, i1589, ()), (a1583, a1584, ())))) else none) else none) else none) else none) else (
κ0 (((), (), s1579, s1580, i1581, ()), (a1583, a1584, ())))
def l_20_11 {R : Type} (N : Nat) : Nat → ((Unit × Unit × ByteArray × ByteArray × Int × Int × Unit) × ((Nat → Int) × (Nat → Int) × Unit)) → (((Unit × Unit × ByteArray × ByteArray × Int × Unit) × ((Nat → Int) × (Nat → Int) × Unit)) → Option R) → Option R
  | 0, _, _ => none
  | n + 1, x, κ0 => B_20_11 N (fun y => l_20_11 N n y κ0) x κ0
def lv_20_8 : Live := [(2, none), (4, none), (5, none), (6, none), (7, none)]
def pt_20_8 : SPat := ⟨[(2, .ptr 0 []), (4, .ptr 1 []), (5, .str), (6, .str), (7, .int .i64)], [some (.vec (.int .i64) 16, 38), some (.vec (.int .i64) 16, 38)]⟩
def px_20_8_0 : SPat := ⟨[(2, .ptr 0 []), (4, .ptr 1 [])], [some (.vec (.int .i64) 16, 38), some (.vec (.int .i64) 16, 38)]⟩
def lo_20_8 : Exit → Live
  | .exit 0 => [(2, none), (4, none)]
  | _ => []
def B_20_8 {R : Type} (N : Nat) (rec : ((Unit × Unit × ByteArray × ByteArray × Int × Unit) × ((Nat → Int) × (Nat → Int) × Unit)) → Option R) (x : ((Unit × Unit × ByteArray × ByteArray × Int × Unit) × ((Nat → Int) × (Nat → Int) × Unit))) (κ0 : ((Unit × Unit × Unit) × ((Nat → Int) × (Nat → Int) × Unit)) → Option R) : Option R :=
let s1574 : ByteArray := x.1.2.2.1
let s1575 : ByteArray := x.1.2.2.2.1
let i1576 : Int := x.1.2.2.2.2.1
let a1577 : (Nat → Int) := x.2.1
let a1578 : (Nat → Int) := x.2.2.1
bif (decide (i1576 < 16)) then (
l_20_11 N N (((), (), s1574, s1575, i1576, 0, ()), (a1577, a1578, ())) (fun y1590 =>
let s1591 : ByteArray := y1590.1.2.2.1
let s1592 : ByteArray := y1590.1.2.2.2.1
let i1593 : Int := y1590.1.2.2.2.2.1
let a1594 : (Nat → Int) := y1590.2.1
let a1595 : (Nat → Int) := y1590.2.2.1
let i1596 : Int := addA .i64 i1593 1
rec (((), (), s1591, s1592, i1596, ()), (a1594, a1595, ())))) else (
κ0 (((), (), ()), (a1577, a1578, ())))
def l_20_8 {R : Type} (N : Nat) : Nat → ((Unit × Unit × ByteArray × ByteArray × Int × Unit) × ((Nat → Int) × (Nat → Int) × Unit)) → (((Unit × Unit × Unit) × ((Nat → Int) × (Nat → Int) × Unit)) → Option R) → Option R
  | 0, _, _ => none
  | n + 1, x, κ0 => B_20_8 N (fun y => l_20_8 N n y κ0) x κ0
def ap_20 : List Pat := [.int .i64]
def hp_20 : List (Option (Pat × Nat)) := []
def p_20 {R : Type} (N : Nat) (x : (Int × Unit) × (Unit)) (κ0 : (Nat → Int) → Option R) : Option R :=
let i1568 : Int := x.1.1
let l1569 : (List ByteArray) := [⟨#[48, 49, 50, 51, 52, 53, 54, 55, 56, 57, 97, 98, 99, 100, 101, 102]⟩, ⟨#[101, 97, 52, 56, 57, 102, 100, 54, 49, 99, 48, 50, 98, 55, 53, 51]⟩, ⟨#[98, 56, 99, 48, 53, 50, 102, 100, 97, 101, 51, 54, 55, 49, 57, 52]⟩, ⟨#[55, 57, 51, 49, 100, 99, 98, 101, 50, 54, 53, 97, 52, 48, 102, 56]⟩, ⟨#[57, 48, 53, 55, 50, 52, 97, 102, 101, 49, 98, 99, 54, 56, 51, 100]⟩, ⟨#[50, 99, 54, 97, 48, 98, 56, 51, 52, 100, 55, 53, 102, 101, 49, 57]⟩, ⟨#[99, 53, 49, 102, 101, 100, 52, 97, 48, 55, 54, 51, 57, 50, 56, 98]⟩, ⟨#[100, 98, 55, 101, 99, 49, 51, 57, 53, 48, 102, 52, 56, 54, 50, 97]⟩, ⟨#[54, 102, 101, 57, 98, 51, 48, 56, 99, 50, 100, 55, 49, 52, 97, 53]⟩, ⟨#[97, 50, 56, 52, 55, 54, 49, 53, 102, 98, 57, 101, 51, 99, 100, 48]⟩]
bif (decide (i1568 < 0)) then (
let a1570 : (Nat → Int) := (Sch.zero (.arr 16 (.int .i64)))
κ0 a1570) else (
let i1571 : Int := remA .i64 i1568 10
bif decide (0 ≤ i1571) then (
bif decide (i1571 < ((List.length l1569) : Int)) then (
let s1572 : ByteArray := (List.getD l1569 ((Int.toNat i1571)) (Sch.zero (.str)))
bif decide (0 < ((List.length l1569) : Int)) then (
let s1573 : ByteArray := (List.getD l1569 0 (Sch.zero (.str)))
l_20_8 N N (((), (), s1572, s1573, 0, ()), ((Sch.zero (.arr 16 (.int .i64))), (Sch.zero (.arr 16 (.int .i64))), ())) (fun y1597 =>
let a1598 : (Nat → Int) := y1597.2.1
let a1599 : (Nat → Int) := y1597.2.2.1
κ0 a1599)) else none) else none) else none)

abbrev Tl_20_11 (R : Type) : Type := ((Unit × Unit × ByteArray × ByteArray × Int × Int × Unit) × ((Nat → Int) × (Nat → Int) × Unit)) → (((Unit × Unit × ByteArray × ByteArray × Int × Unit) × ((Nat → Int) × (Nat → Int) × Unit)) → Option R) → Option R
abbrev Tl_20_8 (R : Type) : Type := ((Unit × Unit × ByteArray × ByteArray × Int × Unit) × ((Nat → Int) × (Nat → Int) × Unit)) → (((Unit × Unit × Unit) × ((Nat → Int) × (Nat → Int) × Unit)) → Option R) → Option R
abbrev Tp_20 (R : Type) : Type := (Int × Unit) × (Unit) → ((Nat → Int) → Option R) → Option R
def Q_20 {R : Type} (m_20_11 : Tl_20_11 R) (m_20_8 : Tl_20_8 R) (x : (Int × Unit) × (Unit)) (κ0 : (Nat → Int) → Option R) : Option R :=
let i1568 : Int := x.1.1
let l1569 : (List ByteArray) := [⟨#[48, 49, 50, 51, 52, 53, 54, 55, 56, 57, 97, 98, 99, 100, 101, 102]⟩, ⟨#[101, 97, 52, 56, 57, 102, 100, 54, 49, 99, 48, 50, 98, 55, 53, 51]⟩, ⟨#[98, 56, 99, 48, 53, 50, 102, 100, 97, 101, 51, 54, 55, 49, 57, 52]⟩, ⟨#[55, 57, 51, 49, 100, 99, 98, 101, 50, 54, 53, 97, 52, 48, 102, 56]⟩, ⟨#[57, 48, 53, 55, 50, 52, 97, 102, 101, 49, 98, 99, 54, 56, 51, 100]⟩, ⟨#[50, 99, 54, 97, 48, 98, 56, 51, 52, 100, 55, 53, 102, 101, 49, 57]⟩, ⟨#[99, 53, 49, 102, 101, 100, 52, 97, 48, 55, 54, 51, 57, 50, 56, 98]⟩, ⟨#[100, 98, 55, 101, 99, 49, 51, 57, 53, 48, 102, 52, 56, 54, 50, 97]⟩, ⟨#[54, 102, 101, 57, 98, 51, 48, 56, 99, 50, 100, 55, 49, 52, 97, 53]⟩, ⟨#[97, 50, 56, 52, 55, 54, 49, 53, 102, 98, 57, 101, 51, 99, 100, 48]⟩]
bif (decide (i1568 < 0)) then (
let a1570 : (Nat → Int) := (Sch.zero (.arr 16 (.int .i64)))
κ0 a1570) else (
let i1571 : Int := remA .i64 i1568 10
bif decide (0 ≤ i1571) then (
bif decide (i1571 < ((List.length l1569) : Int)) then (
let s1572 : ByteArray := (List.getD l1569 ((Int.toNat i1571)) (Sch.zero (.str)))
bif decide (0 < ((List.length l1569) : Int)) then (
let s1573 : ByteArray := (List.getD l1569 0 (Sch.zero (.str)))
m_20_8 (((), (), s1572, s1573, 0, ()), ((Sch.zero (.arr 16 (.int .i64))), (Sch.zero (.arr 16 (.int .i64))), ())) (fun y1597 =>
let a1598 : (Nat → Int) := y1597.2.1
let a1599 : (Nat → Int) := y1597.2.2.1
κ0 a1599)) else none) else none) else none)
def C_20_11 {R : Type} (m_20_11 : Tl_20_11 R) (m_20_8 : Tl_20_8 R) (rec : ((Unit × Unit × ByteArray × ByteArray × Int × Int × Unit) × ((Nat → Int) × (Nat → Int) × Unit)) → Option R) (x : ((Unit × Unit × ByteArray × ByteArray × Int × Int × Unit) × ((Nat → Int) × (Nat → Int) × Unit))) (κ0 : ((Unit × Unit × ByteArray × ByteArray × Int × Unit) × ((Nat → Int) × (Nat → Int) × Unit)) → Option R) : Option R :=
let s1579 : ByteArray := x.1.2.2.1
let s1580 : ByteArray := x.1.2.2.2.1
let i1581 : Int := x.1.2.2.2.2.1
let i1582 : Int := x.1.2.2.2.2.2.1
let a1583 : (Nat → Int) := x.2.1
let a1584 : (Nat → Int) := x.2.2.1
bif (decide (i1582 < 16)) then (
bif decide (0 ≤ i1582) then (
bif decide (i1582 < (ByteArray.size s1580 : Int)) then (
let i1585 : Int := byteAt s1580 ((Int.toNat i1582))
bif decide (0 ≤ i1581) then (
bif decide (i1581 < (ByteArray.size s1579 : Int)) then (
let i1586 : Int := byteAt s1579 ((Int.toNat i1581))
bif (i1585 == i1586) then (
bif decide (0 ≤ i1581) then (
bif decide (i1581 < (16 : Int)) then (
let a1587 : (Nat → Int) := (upd a1584 ((Int.toNat i1581)) i1582)
let i1588 : Int := addA .i64 i1582 1
rec (((), (), s1579, s1580, i1581, i1588, ()), (a1583, a1587, ()))) else none) else none) else (
let i1589 : Int := addA .i64 i1582 1
rec (((), (), s1579, s1580, i1581, i1589, ()), (a1583, a1584, ())))) else none) else none) else none) else none) else (
κ0 (((), (), s1579, s1580, i1581, ()), (a1583, a1584, ())))
def C_20_8 {R : Type} (m_20_11 : Tl_20_11 R) (m_20_8 : Tl_20_8 R) (rec : ((Unit × Unit × ByteArray × ByteArray × Int × Unit) × ((Nat → Int) × (Nat → Int) × Unit)) → Option R) (x : ((Unit × Unit × ByteArray × ByteArray × Int × Unit) × ((Nat → Int) × (Nat → Int) × Unit))) (κ0 : ((Unit × Unit × Unit) × ((Nat → Int) × (Nat → Int) × Unit)) → Option R) : Option R :=
let s1574 : ByteArray := x.1.2.2.1
let s1575 : ByteArray := x.1.2.2.2.1
let i1576 : Int := x.1.2.2.2.2.1
let a1577 : (Nat → Int) := x.2.1
let a1578 : (Nat → Int) := x.2.2.1
bif (decide (i1576 < 16)) then (
m_20_11 (((), (), s1574, s1575, i1576, 0, ()), (a1577, a1578, ())) (fun y1590 =>
let s1591 : ByteArray := y1590.1.2.2.1
let s1592 : ByteArray := y1590.1.2.2.2.1
let i1593 : Int := y1590.1.2.2.2.2.1
let a1594 : (Nat → Int) := y1590.2.1
let a1595 : (Nat → Int) := y1590.2.2.1
let i1596 : Int := addA .i64 i1593 1
rec (((), (), s1591, s1592, i1596, ()), (a1594, a1595, ())))) else (
κ0 (((), (), ()), (a1577, a1578, ())))
def EG_20 {R : Type} : Env R := Env.base QQ LN
def LG_20 {R : Type} (m_20_11 : Tl_20_11 R) (m_20_8 : Tl_20_8 R) : Loops R := ((Loops.none).add 11 (loopBy 0 lv_20_11 pt_20_11 (fun x k => m_20_11 x (fun y => k (.exit 2) (px_20_11_0.inst y))))).add 8 (loopBy 0 lv_20_8 pt_20_8 (fun x k => m_20_8 x (fun y => k (.exit 0) (px_20_8_0.inst y))))
def E_20 {R : Type} (N : Nat) : Env R := EG_20
theorem eok_20 {R : Type} (N : Nat) : EK Try.prog (E_20 (R := R) N) := ek_base _ _
def L_20 {R : Type} (N : Nat) : Loops R := LG_20 (l_20_11 N N) (l_20_8 N N)
theorem gstep_20_11 {R : Type} (m_20_11 : Tl_20_11 R) (m_20_8 : Tl_20_8 R) (n : Nat) (x : pt_20_11.den) (k : Exit → St → Option R) : iter 0 lv_20_11 lo_20_11 (aexec TT (EG_20) (drawAny TT WW) (LG_20 m_20_11 m_20_8) (loopAt 11 (bodyOf Try.f20))) (n + 1) (pt_20_11.inst x) k = C_20_11 m_20_11 m_20_8 (fun y => iter 0 lv_20_11 lo_20_11 (aexec TT (EG_20) (drawAny TT WW) (LG_20 m_20_11 m_20_8) (loopAt 11 (bodyOf Try.f20))) n (pt_20_11.inst y) k) x (fun y => k (.exit 2) (px_20_11_0.inst y)) := by kernel_rfl
theorem step_20_11 {R : Type} (N n : Nat) (x : pt_20_11.den) (k : Exit → St → Option R) : iter 0 lv_20_11 lo_20_11 (aexec TT (E_20 (R := R) N) (drawAny TT WW) (L_20 N) (loopAt 11 (bodyOf Try.f20))) (n + 1) (pt_20_11.inst x) k = B_20_11 N (fun y => iter 0 lv_20_11 lo_20_11 (aexec TT (E_20 (R := R) N) (drawAny TT WW) (L_20 N) (loopAt 11 (bodyOf Try.f20))) n (pt_20_11.inst y) k) x (fun y => k (.exit 2) (px_20_11_0.inst y)) := (gstep_20_11 (l_20_11 N N) (l_20_8 N N) n x k).trans (by kernel_rfl)
theorem eq_20_11 {R : Type} (N : Nat) : ∀ (n : Nat) (x : pt_20_11.den) (k : Exit → St → Option R), iter 0 lv_20_11 lo_20_11 (aexec TT (E_20 (R := R) N) (drawAny TT WW) (L_20 N) (loopAt 11 (bodyOf Try.f20))) n (pt_20_11.inst x) k = l_20_11 N n x (fun y => k (.exit 2) (px_20_11_0.inst y)) :=
  iter_eq (K := Exit → St → Option R) (ks := fun k => k) (l := fun n (x : pt_20_11.den) k => l_20_11 N n x (fun y => k (.exit 2) (px_20_11_0.inst y))) (B := fun (rec : pt_20_11.den → Option R) (x : pt_20_11.den) k => B_20_11 N rec x (fun y => k (.exit 2) (px_20_11_0.inst y))) (fun _ _ => rfl) (fun _ _ _ => rfl) (fun n x k => step_20_11 N n x k)
theorem rounds_20_11 {R : Type} (N : Nat) : Rounds 0 TT (E_20 (R := R) N) (drawAny TT WW) (L_20 N) 11 (loopAt 11 (bodyOf Try.f20)) :=
  rounds_of (p := pt_20_11) (l := fun (x : pt_20_11.den) k => l_20_11 N N x (fun y => k (.exit 2) (px_20_11_0.inst y))) (fun s k => rfl) (fun x k => eq_20_11 N N x k)
theorem gstep_20_8 {R : Type} (m_20_11 : Tl_20_11 R) (m_20_8 : Tl_20_8 R) (n : Nat) (x : pt_20_8.den) (k : Exit → St → Option R) : iter 0 lv_20_8 lo_20_8 (aexec TT (EG_20) (drawAny TT WW) (LG_20 m_20_11 m_20_8) (loopAt 8 (bodyOf Try.f20))) (n + 1) (pt_20_8.inst x) k = C_20_8 m_20_11 m_20_8 (fun y => iter 0 lv_20_8 lo_20_8 (aexec TT (EG_20) (drawAny TT WW) (LG_20 m_20_11 m_20_8) (loopAt 8 (bodyOf Try.f20))) n (pt_20_8.inst y) k) x (fun y => k (.exit 0) (px_20_8_0.inst y)) := by kernel_rfl
theorem step_20_8 {R : Type} (N n : Nat) (x : pt_20_8.den) (k : Exit → St → Option R) : iter 0 lv_20_8 lo_20_8 (aexec TT (E_20 (R := R) N) (drawAny TT WW) (L_20 N) (loopAt 8 (bodyOf Try.f20))) (n + 1) (pt_20_8.inst x) k = B_20_8 N (fun y => iter 0 lv_20_8 lo_20_8 (aexec TT (E_20 (R := R) N) (drawAny TT WW) (L_20 N) (loopAt 8 (bodyOf Try.f20))) n (pt_20_8.inst y) k) x (fun y => k (.exit 0) (px_20_8_0.inst y)) := (gstep_20_8 (l_20_11 N N) (l_20_8 N N) n x k).trans (by kernel_rfl)
theorem eq_20_8 {R : Type} (N : Nat) : ∀ (n : Nat) (x : pt_20_8.den) (k : Exit → St → Option R), iter 0 lv_20_8 lo_20_8 (aexec TT (E_20 (R := R) N) (drawAny TT WW) (L_20 N) (loopAt 8 (bodyOf Try.f20))) n (pt_20_8.inst x) k = l_20_8 N n x (fun y => k (.exit 0) (px_20_8_0.inst y)) :=
  iter_eq (K := Exit → St → Option R) (ks := fun k => k) (l := fun n (x : pt_20_8.den) k => l_20_8 N n x (fun y => k (.exit 0) (px_20_8_0.inst y))) (B := fun (rec : pt_20_8.den → Option R) (x : pt_20_8.den) k => B_20_8 N rec x (fun y => k (.exit 0) (px_20_8_0.inst y))) (fun _ _ => rfl) (fun _ _ _ => rfl) (fun n x k => step_20_8 N n x k)
theorem rounds_20_8 {R : Type} (N : Nat) : Rounds 0 TT (E_20 (R := R) N) (drawAny TT WW) (L_20 N) 8 (loopAt 8 (bodyOf Try.f20)) :=
  rounds_of (p := pt_20_8) (l := fun (x : pt_20_8.den) k => l_20_8 N N x (fun y => k (.exit 0) (px_20_8_0.inst y))) (fun s k => rfl) (fun x k => eq_20_8 N N x k)
theorem loops_20 : loopsIn (bodyOf Try.f20) = [(8, loopAt 8 (bodyOf Try.f20)), (11, loopAt 11 (bodyOf Try.f20))] := by kernel_rfl
theorem lok_20 {R : Type} (N : Nat) : LOK 0 TT (E_20 (R := R) N) (drawAny TT WW) (L_20 N) (bodyOf Try.f20) := loops_all loops_20 (by
  simp only [List.forall_mem_cons, List.not_mem_nil, false_implies, implies_true, and_true]
  exact ⟨rounds_20_8 N, rounds_20_11 N⟩)
theorem grun_20 {R : Type} (m_20_11 : Tl_20_11 R) (m_20_8 : Tl_20_8 R) (x : aden ap_20 × hden hp_20) (k : KF R) : fnrun TT (EG_20) (drawAny TT WW) (LG_20 m_20_11 m_20_8) true Try.f20 (instA ap_20 x.1) (instH hp_20 x.2) k = Q_20 m_20_11 m_20_8 x (fun y => k (Pat.inst (.vec (.int .i64) 16) y) (instH hp_20 x.2)) := by kernel_rfl
theorem run_20 {R : Type} (N : Nat) (x : aden ap_20 × hden hp_20) (k : KF R) : fnrun TT (E_20 (R := R) N) (drawAny TT WW) (L_20 N) true Try.f20 (instA ap_20 x.1) (instH hp_20 x.2) k = p_20 N x (fun y => k (Pat.inst (.vec (.int .i64) 16) y) (instH hp_20 x.2)) := (grun_20 (l_20_11 N N) (l_20_8 N N) x k).trans (by kernel_rfl)
theorem good_20 {R : Type} (N : Nat) : GD (X := R) Try.prog QQ 20 ap_20 hp_20 (fun (x : aden ap_20 × hden hp_20) k => p_20 N x (fun y => k (Pat.inst (.vec (.int .i64) 16) y) (instH hp_20 x.2))) :=
  gd_quiet (E := E_20 N) (p := fun (x : aden ap_20 × hden hp_20) κ => p_20 N x (fun y => κ (Pat.inst (.vec (.int .i64) 16) y))) mixed tyok (eok_20 N) Try.func20 (by kernel_rfl) (by kernel_rfl) (lok_20 N) (fun x k => run_20 N x k)

def ap_50 : List Pat := [.int .i64]
def hp_50 : List (Option (Pat × Nat)) := []
def p_50 {R : Type} (N : Nat) (x : (Int × Unit) × (Unit)) (κ0 : (Nat → Int) → Option R) : Option R :=
let i1609 : Int := x.1.1
bif (decide (i1609 < 4)) then (
let i1610 : Int := addA .i64 i1609 4
let i1611 : Int := addA .i64 i1609 8
let i1612 : Int := addA .i64 i1609 12
let a1613 : (Nat → Int) := (upd ((upd ((upd ((upd ((Sch.zero (.arr 4 (.int .i64)))) 0 i1609)) 1 i1610)) 2 i1611)) 3 i1612)
κ0 a1613) else (
let i1614 : Int := subA .i64 i1609 4
let i1615 : Int := addA .i64 i1614 1
let i1616 : Int := remA .i64 i1615 4
let i1617 : Int := addA .i64 4 i1616
let i1618 : Int := addA .i64 i1614 2
let i1619 : Int := remA .i64 i1618 4
let i1620 : Int := addA .i64 8 i1619
let i1621 : Int := addA .i64 i1614 3
let i1622 : Int := remA .i64 i1621 4
let i1623 : Int := addA .i64 12 i1622
let a1624 : (Nat → Int) := (upd ((upd ((upd ((upd ((Sch.zero (.arr 4 (.int .i64)))) 0 i1614)) 1 i1617)) 2 i1620)) 3 i1623)
κ0 a1624)

abbrev Tp_50 (R : Type) : Type := (Int × Unit) × (Unit) → ((Nat → Int) → Option R) → Option R
def Q_50 {R : Type} (x : (Int × Unit) × (Unit)) (κ0 : (Nat → Int) → Option R) : Option R :=
let i1609 : Int := x.1.1
bif (decide (i1609 < 4)) then (
let i1610 : Int := addA .i64 i1609 4
let i1611 : Int := addA .i64 i1609 8
let i1612 : Int := addA .i64 i1609 12
let a1613 : (Nat → Int) := (upd ((upd ((upd ((upd ((Sch.zero (.arr 4 (.int .i64)))) 0 i1609)) 1 i1610)) 2 i1611)) 3 i1612)
κ0 a1613) else (
let i1614 : Int := subA .i64 i1609 4
let i1615 : Int := addA .i64 i1614 1
let i1616 : Int := remA .i64 i1615 4
let i1617 : Int := addA .i64 4 i1616
let i1618 : Int := addA .i64 i1614 2
let i1619 : Int := remA .i64 i1618 4
let i1620 : Int := addA .i64 8 i1619
let i1621 : Int := addA .i64 i1614 3
let i1622 : Int := remA .i64 i1621 4
let i1623 : Int := addA .i64 12 i1622
let a1624 : (Nat → Int) := (upd ((upd ((upd ((upd ((Sch.zero (.arr 4 (.int .i64)))) 0 i1614)) 1 i1617)) 2 i1620)) 3 i1623)
κ0 a1624)
def EG_50 {R : Type} : Env R := Env.base QQ LN
def LG_50 {R : Type} : Loops R := Loops.none
def E_50 {R : Type} (N : Nat) : Env R := EG_50
theorem eok_50 {R : Type} (N : Nat) : EK Try.prog (E_50 (R := R) N) := ek_base _ _
def L_50 {R : Type} (N : Nat) : Loops R := LG_50
theorem lok_50 {R : Type} (N : Nat) : LOK 0 TT (E_50 (R := R) N) (drawAny TT WW) (L_50 N) (bodyOf Try.f50) := loops_nil (by kernel_rfl)
theorem grun_50 {R : Type} (x : aden ap_50 × hden hp_50) (k : KF R) : fnrun TT (EG_50) (drawAny TT WW) (LG_50) true Try.f50 (instA ap_50 x.1) (instH hp_50 x.2) k = Q_50 x (fun y => k (Pat.inst (.vec (.int .i64) 4) y) (instH hp_50 x.2)) := by kernel_rfl
theorem run_50 {R : Type} (N : Nat) (x : aden ap_50 × hden hp_50) (k : KF R) : fnrun TT (E_50 (R := R) N) (drawAny TT WW) (L_50 N) true Try.f50 (instA ap_50 x.1) (instH hp_50 x.2) k = p_50 N x (fun y => k (Pat.inst (.vec (.int .i64) 4) y) (instH hp_50 x.2)) := (grun_50 x k).trans (by kernel_rfl)
theorem good_50 {R : Type} (N : Nat) : GD (X := R) Try.prog QQ 50 ap_50 hp_50 (fun (x : aden ap_50 × hden hp_50) k => p_50 N x (fun y => k (Pat.inst (.vec (.int .i64) 4) y) (instH hp_50 x.2))) :=
  gd_quiet (E := E_50 N) (p := fun (x : aden ap_50 × hden hp_50) κ => p_50 N x (fun y => κ (Pat.inst (.vec (.int .i64) 4) y))) mixed tyok (eok_50 N) Try.func50 (by kernel_rfl) (by kernel_rfl) (lok_50 N) (fun x k => run_50 N x k)

def ap_52 : List Pat := [.int .u64, .int .u64, .int .u64]
def hp_52 : List (Option (Pat × Nat)) := []
def p_52 {R : Type} (N : Nat) (x : (Int × Int × Int × Unit) × (Unit)) (κ0 : Int → Option R) : Option R :=
let i1654 : Int := x.1.1
let i1655 : Int := x.1.2.1
let i1656 : Int := x.1.2.2.1
bif decide (i1655 = 0) then none else (
let i1657 : Int := quoA .u64 i1654 i1655
bif decide (i1655 = 0) then none else (
let i1658 : Int := remA .u64 i1654 i1655
let i1659 : Int := mulA .u64 i1658 i1656
let i1660 : Int := addA .u64 i1657 i1659
κ0 i1660))

abbrev Tp_52 (R : Type) : Type := (Int × Int × Int × Unit) × (Unit) → (Int → Option R) → Option R
def Q_52 {R : Type} (x : (Int × Int × Int × Unit) × (Unit)) (κ0 : Int → Option R) : Option R :=
let i1654 : Int := x.1.1
let i1655 : Int := x.1.2.1
let i1656 : Int := x.1.2.2.1
bif decide (i1655 = 0) then none else (
let i1657 : Int := quoA .u64 i1654 i1655
bif decide (i1655 = 0) then none else (
let i1658 : Int := remA .u64 i1654 i1655
let i1659 : Int := mulA .u64 i1658 i1656
let i1660 : Int := addA .u64 i1657 i1659
κ0 i1660))
def EG_52 {R : Type} : Env R := Env.base QQ LN
def LG_52 {R : Type} : Loops R := Loops.none
def E_52 {R : Type} (N : Nat) : Env R := EG_52
theorem eok_52 {R : Type} (N : Nat) : EK Try.prog (E_52 (R := R) N) := ek_base _ _
def L_52 {R : Type} (N : Nat) : Loops R := LG_52
theorem lok_52 {R : Type} (N : Nat) : LOK 0 TT (E_52 (R := R) N) (drawAny TT WW) (L_52 N) (bodyOf Try.f52) := loops_nil (by kernel_rfl)
theorem grun_52 {R : Type} (x : aden ap_52 × hden hp_52) (k : KF R) : fnrun TT (EG_52) (drawAny TT WW) (LG_52) true Try.f52 (instA ap_52 x.1) (instH hp_52 x.2) k = Q_52 x (fun y => k (Pat.inst (.int .u64) y) (instH hp_52 x.2)) := by kernel_rfl
theorem run_52 {R : Type} (N : Nat) (x : aden ap_52 × hden hp_52) (k : KF R) : fnrun TT (E_52 (R := R) N) (drawAny TT WW) (L_52 N) true Try.f52 (instA ap_52 x.1) (instH hp_52 x.2) k = p_52 N x (fun y => k (Pat.inst (.int .u64) y) (instH hp_52 x.2)) := (grun_52 x k).trans (by kernel_rfl)
theorem good_52 {R : Type} (N : Nat) : GD (X := R) Try.prog QQ 52 ap_52 hp_52 (fun (x : aden ap_52 × hden hp_52) k => p_52 N x (fun y => k (Pat.inst (.int .u64) y) (instH hp_52 x.2))) :=
  gd_quiet (E := E_52 N) (p := fun (x : aden ap_52 × hden hp_52) κ => p_52 N x (fun y => κ (Pat.inst (.int .u64) y))) mixed tyok (eok_52 N) Try.func52 (by kernel_rfl) (by kernel_rfl) (lok_52 N) (fun x k => run_52 N x k)

def ap_18 : List Pat := [.vec (.int .u64) 4, .int .u64, .int .u64]
def hp_18 : List (Option (Pat × Nat)) := []
def p_18 {R : Type} (N : Nat) (x : ((Nat → Int) × Int × Int × Unit) × (Unit)) (κ0 : (Nat → Int) → Option R) : Option R :=
let a1643 : (Nat → Int) := x.1.1
let i1644 : Int := x.1.2.1
let i1645 : Int := x.1.2.2.1
let i1646 : Int := (a1643 0)
let i1647 : Int := (a1643 1)
let i1648 : Int := addA .u64 i1646 i1647
let i1649 : Int := addA .u64 i1648 i1644
let a1650 : (Nat → Int) := (upd a1643 0 i1649)
let i1651 : Int := (a1650 3)
let i1652 : Int := (a1650 0)
let i1653 : Int := xorA .u64 i1651 i1652
p_52 N ((i1653, 4294967296, 4294967296, ()), ()) (fun y1661 =>
let i1662 : Int := y1661
let a1663 : (Nat → Int) := (upd a1650 3 i1662)
let i1664 : Int := (a1663 2)
let i1665 : Int := (a1663 3)
let i1666 : Int := addA .u64 i1664 i1665
let a1667 : (Nat → Int) := (upd a1663 2 i1666)
let i1668 : Int := (a1667 1)
let i1669 : Int := (a1667 2)
let i1670 : Int := xorA .u64 i1668 i1669
p_52 N ((i1670, 16777216, 1099511627776, ()), ()) (fun y1671 =>
let i1672 : Int := y1671
let a1673 : (Nat → Int) := (upd a1667 1 i1672)
let i1674 : Int := (a1673 0)
let i1675 : Int := (a1673 1)
let i1676 : Int := addA .u64 i1674 i1675
let i1677 : Int := addA .u64 i1676 i1645
let a1678 : (Nat → Int) := (upd a1673 0 i1677)
let i1679 : Int := (a1678 3)
let i1680 : Int := (a1678 0)
let i1681 : Int := xorA .u64 i1679 i1680
p_52 N ((i1681, 65536, 281474976710656, ()), ()) (fun y1682 =>
let i1683 : Int := y1682
let a1684 : (Nat → Int) := (upd a1678 3 i1683)
let i1685 : Int := (a1684 2)
let i1686 : Int := (a1684 3)
let i1687 : Int := addA .u64 i1685 i1686
let a1688 : (Nat → Int) := (upd a1684 2 i1687)
let i1689 : Int := (a1688 1)
let i1690 : Int := (a1688 2)
let i1691 : Int := xorA .u64 i1689 i1690
p_52 N ((i1691, 9223372036854775808, 2, ()), ()) (fun y1692 =>
let i1693 : Int := y1692
let a1694 : (Nat → Int) := (upd a1688 1 i1693)
κ0 a1694))))

abbrev Tp_18 (R : Type) : Type := ((Nat → Int) × Int × Int × Unit) × (Unit) → ((Nat → Int) → Option R) → Option R
def Q_18 {R : Type} (q_52 : Tp_52 R) (x : ((Nat → Int) × Int × Int × Unit) × (Unit)) (κ0 : (Nat → Int) → Option R) : Option R :=
let a1643 : (Nat → Int) := x.1.1
let i1644 : Int := x.1.2.1
let i1645 : Int := x.1.2.2.1
let i1646 : Int := (a1643 0)
let i1647 : Int := (a1643 1)
let i1648 : Int := addA .u64 i1646 i1647
let i1649 : Int := addA .u64 i1648 i1644
let a1650 : (Nat → Int) := (upd a1643 0 i1649)
let i1651 : Int := (a1650 3)
let i1652 : Int := (a1650 0)
let i1653 : Int := xorA .u64 i1651 i1652
q_52 ((i1653, 4294967296, 4294967296, ()), ()) (fun y1661 =>
let i1662 : Int := y1661
let a1663 : (Nat → Int) := (upd a1650 3 i1662)
let i1664 : Int := (a1663 2)
let i1665 : Int := (a1663 3)
let i1666 : Int := addA .u64 i1664 i1665
let a1667 : (Nat → Int) := (upd a1663 2 i1666)
let i1668 : Int := (a1667 1)
let i1669 : Int := (a1667 2)
let i1670 : Int := xorA .u64 i1668 i1669
q_52 ((i1670, 16777216, 1099511627776, ()), ()) (fun y1671 =>
let i1672 : Int := y1671
let a1673 : (Nat → Int) := (upd a1667 1 i1672)
let i1674 : Int := (a1673 0)
let i1675 : Int := (a1673 1)
let i1676 : Int := addA .u64 i1674 i1675
let i1677 : Int := addA .u64 i1676 i1645
let a1678 : (Nat → Int) := (upd a1673 0 i1677)
let i1679 : Int := (a1678 3)
let i1680 : Int := (a1678 0)
let i1681 : Int := xorA .u64 i1679 i1680
q_52 ((i1681, 65536, 281474976710656, ()), ()) (fun y1682 =>
let i1683 : Int := y1682
let a1684 : (Nat → Int) := (upd a1678 3 i1683)
let i1685 : Int := (a1684 2)
let i1686 : Int := (a1684 3)
let i1687 : Int := addA .u64 i1685 i1686
let a1688 : (Nat → Int) := (upd a1684 2 i1687)
let i1689 : Int := (a1688 1)
let i1690 : Int := (a1688 2)
let i1691 : Int := xorA .u64 i1689 i1690
q_52 ((i1691, 9223372036854775808, 2, ()), ()) (fun y1692 =>
let i1693 : Int := y1692
let a1694 : (Nat → Int) := (upd a1688 1 i1693)
κ0 a1694))))
def EG_18 {R : Type} (q_52 : Tp_52 R) : Env R := (Env.base QQ LN).add 52 ap_52 hp_52 (fun (x : aden ap_52 × hden hp_52) k => q_52 x (fun y => k (Pat.inst (.int .u64) y) (instH hp_52 x.2)))
def LG_18 {R : Type} : Loops R := Loops.none
def E_18 {R : Type} (N : Nat) : Env R := EG_18 (p_52 N)
theorem eok_18 {R : Type} (N : Nat) : EK Try.prog (E_18 (R := R) N) := ek_add (ek_base _ _) (good_52 N)
def L_18 {R : Type} (N : Nat) : Loops R := LG_18
theorem lok_18 {R : Type} (N : Nat) : LOK 0 TT (E_18 (R := R) N) (drawAny TT WW) (L_18 N) (bodyOf Try.f18) := loops_nil (by kernel_rfl)
theorem grun_18 {R : Type} (q_52 : Tp_52 R) (x : aden ap_18 × hden hp_18) (k : KF R) : fnrun TT (EG_18 q_52) (drawAny TT WW) (LG_18) true Try.f18 (instA ap_18 x.1) (instH hp_18 x.2) k = Q_18 q_52 x (fun y => k (Pat.inst (.vec (.int .u64) 4) y) (instH hp_18 x.2)) := by kernel_rfl
theorem run_18 {R : Type} (N : Nat) (x : aden ap_18 × hden hp_18) (k : KF R) : fnrun TT (E_18 (R := R) N) (drawAny TT WW) (L_18 N) true Try.f18 (instA ap_18 x.1) (instH hp_18 x.2) k = p_18 N x (fun y => k (Pat.inst (.vec (.int .u64) 4) y) (instH hp_18 x.2)) := (grun_18 (p_52 N) x k).trans (by kernel_rfl)
theorem good_18 {R : Type} (N : Nat) : GD (X := R) Try.prog QQ 18 ap_18 hp_18 (fun (x : aden ap_18 × hden hp_18) k => p_18 N x (fun y => k (Pat.inst (.vec (.int .u64) 4) y) (instH hp_18 x.2))) :=
  gd_quiet (E := E_18 N) (p := fun (x : aden ap_18 × hden hp_18) κ => p_18 N x (fun y => κ (Pat.inst (.vec (.int .u64) 4) y))) mixed tyok (eok_18 N) Try.func18 (by kernel_rfl) (by kernel_rfl) (lok_18 N) (fun x k => run_18 N x k)

def lv_16_4 : Live := [(3, none), (4, none), (5, none), (6, none), (10, none), (11, none), (13, none), (14, none)]
def pt_16_4 : SPat := ⟨[(3, .int .u64), (4, .bool), (5, .ptr 0 []), (6, .ptr 1 []), (10, .ptr 2 []), (11, .ros (.int .u64)), (13, .ptr 3 []), (14, .int .i64)], [some (.vec (.int .u64) 8, 29), some (.vec (.int .u64) 8, 23), some (.vec (.int .u64) 8, 23), some (.vec (.int .u64) 16, 97)]⟩
def px_16_4_0 : SPat := ⟨[(3, .int .u64), (4, .bool), (6, .ptr 0 []), (10, .ptr 1 []), (11, .ros (.int .u64)), (13, .ptr 2 [])], [some (.vec (.int .u64) 8, 23), some (.vec (.int .u64) 8, 23), some (.vec (.int .u64) 16, 97)]⟩
def lo_16_4 : Exit → Live
  | .exit 0 => [(3, none), (4, none), (6, none), (10, none), (11, none), (13, none)]
  | _ => []
def B_16_4 {R : Type} (N : Nat) (rec : ((Int × Bool × Unit × Unit × Unit × (List Int) × Unit × Int × Unit) × ((Nat → Int) × (Nat → Int) × (Nat → Int) × (Nat → Int) × Unit)) → Option R) (x : ((Int × Bool × Unit × Unit × Unit × (List Int) × Unit × Int × Unit) × ((Nat → Int) × (Nat → Int) × (Nat → Int) × (Nat → Int) × Unit))) (κ0 : ((Int × Bool × Unit × Unit × (List Int) × Unit × Unit) × ((Nat → Int) × (Nat → Int) × (Nat → Int) × Unit)) → Option R) : Option R :=
let i1536 : Int := x.1.1
let b1537 : Bool := x.1.2.1
let l1538 : (List Int) := x.1.2.2.2.2.2.1
let i1539 : Int := x.1.2.2.2.2.2.2.2.1
let a1540 : (Nat → Int) := x.2.1
let a1541 : (Nat → Int) := x.2.2.1
let a1542 : (Nat → Int) := x.2.2.2.1
let a1543 : (Nat → Int) := x.2.2.2.2.1
bif (decide (i1539 < 8)) then (
bif decide (0 ≤ i1539) then (
bif decide (i1539 < (8 : Int)) then (
let i1544 : Int := (a1541 ((Int.toNat i1539)))
bif decide (0 ≤ i1539) then (
bif decide (i1539 < (16 : Int)) then (
let a1545 : (Nat → Int) := (upd a1543 ((Int.toNat i1539)) i1544)
let i1546 : Int := addA .i64 i1539 8
bif decide (0 ≤ i1539) then (
bif decide (i1539 < (8 : Int)) then (
let i1547 : Int := (a1540 ((Int.toNat i1539)))
bif decide (0 ≤ i1546) then (
bif decide (i1546 < (16 : Int)) then (
let a1548 : (Nat → Int) := (upd a1545 ((Int.toNat i1546)) i1547)
let i1549 : Int := addA .i64 i1539 1
rec ((i1536, b1537, (), (), (), l1538, (), i1549, ()), (a1540, a1541, a1542, a1548, ()))) else none) else none) else none) else none) else none) else none) else none) else none) else (
κ0 ((i1536, b1537, (), (), l1538, (), ()), (a1541, a1542, a1543, ())))
def l_16_4 {R : Type} (N : Nat) : Nat → ((Int × Bool × Unit × Unit × Unit × (List Int) × Unit × Int × Unit) × ((Nat → Int) × (Nat → Int) × (Nat → Int) × (Nat → Int) × Unit)) → (((Int × Bool × Unit × Unit × (List Int) × Unit × Unit) × ((Nat → Int) × (Nat → Int) × (Nat → Int) × Unit)) → Option R) → Option R
  | 0, _, _ => none
  | n + 1, x, κ0 => B_16_4 N (fun y => l_16_4 N n y κ0) x κ0
def lv_16_21 : Live := [(6, none), (10, none), (11, none), (13, none), (15, none), (16, none), (17, none), (18, none), (19, none), (20, none)]
def pt_16_21 : SPat := ⟨[(6, .ptr 0 []), (10, .ptr 1 []), (11, .ros (.int .u64)), (13, .ptr 2 []), (15, .int .i64), (16, .ptr 3 []), (17, .int .i64), (18, .ptr 4 []), (19, .ptr 5 []), (20, .int .i64)], [some (.vec (.int .u64) 8, 23), some (.vec (.int .u64) 8, 23), some (.vec (.int .u64) 16, 97), some (.vec (.int .i64) 16, 38), some (.vec (.int .i64) 4, 98), some (.vec (.int .u64) 4, 36)]⟩
def px_16_21_0 : SPat := ⟨[(6, .ptr 0 []), (10, .ptr 1 []), (11, .ros (.int .u64)), (13, .ptr 2 []), (15, .int .i64), (16, .ptr 3 []), (17, .int .i64)], [some (.vec (.int .u64) 8, 23), some (.vec (.int .u64) 8, 23), some (.vec (.int .u64) 16, 97), some (.vec (.int .i64) 16, 38)]⟩
def lo_16_21 : Exit → Live
  | .exit 6 => [(6, none), (10, none), (11, none), (13, none), (15, none), (16, none), (17, none)]
  | _ => []
def B_16_21 {R : Type} (N : Nat) (rec : ((Unit × Unit × (List Int) × Unit × Int × Unit × Int × Unit × Unit × Int × Unit) × ((Nat → Int) × (Nat → Int) × (Nat → Int) × (Nat → Int) × (Nat → Int) × (Nat → Int) × Unit)) → Option R) (x : ((Unit × Unit × (List Int) × Unit × Int × Unit × Int × Unit × Unit × Int × Unit) × ((Nat → Int) × (Nat → Int) × (Nat → Int) × (Nat → Int) × (Nat → Int) × (Nat → Int) × Unit))) (κ0 : ((Unit × Unit × (List Int) × Unit × Int × Unit × Int × Unit) × ((Nat → Int) × (Nat → Int) × (Nat → Int) × (Nat → Int) × Unit)) → Option R) : Option R :=
let l1780 : (List Int) := x.1.2.2.1
let i1781 : Int := x.1.2.2.2.2.1
let i1782 : Int := x.1.2.2.2.2.2.2.1
let i1783 : Int := x.1.2.2.2.2.2.2.2.2.2.1
let a1784 : (Nat → Int) := x.2.1
let a1785 : (Nat → Int) := x.2.2.1
let a1786 : (Nat → Int) := x.2.2.2.1
let a1787 : (Nat → Int) := x.2.2.2.2.1
let a1788 : (Nat → Int) := x.2.2.2.2.2.1
let a1789 : (Nat → Int) := x.2.2.2.2.2.2.1
bif (decide (i1783 < 4)) then (
bif decide (0 ≤ i1783) then (
bif decide (i1783 < (4 : Int)) then (
let i1790 : Int := (a1788 ((Int.toNat i1783)))
bif decide (0 ≤ i1783) then (
bif decide (i1783 < (4 : Int)) then (
let i1791 : Int := (a1789 ((Int.toNat i1783)))
bif decide (0 ≤ i1790) then (
bif decide (i1790 < (16 : Int)) then (
let a1792 : (Nat → Int) := (upd a1786 ((Int.toNat i1790)) i1791)
let i1793 : Int := addA .i64 i1783 1
rec (((), (), l1780, (), i1781, (), i1782, (), (), i1793, ()), (a1784, a1785, a1792, a1787, a1788, a1789, ()))) else none) else none) else none) else none) else none) else none) else (
κ0 (((), (), l1780, (), i1781, (), i1782, ()), (a1784, a1785, a1786, a1787, ())))
def l_16_21 {R : Type} (N : Nat) : Nat → ((Unit × Unit × (List Int) × Unit × Int × Unit × Int × Unit × Unit × Int × Unit) × ((Nat → Int) × (Nat → Int) × (Nat → Int) × (Nat → Int) × (Nat → Int) × (Nat → Int) × Unit)) → (((Unit × Unit × (List Int) × Unit × Int × Unit × Int × Unit) × ((Nat → Int) × (Nat → Int) × (Nat → Int) × (Nat → Int) × Unit)) → Option R) → Option R
  | 0, _, _ => none
  | n + 1, x, κ0 => B_16_21 N (fun y => l_16_21 N n y κ0) x κ0
def lv_16_16 : Live := [(6, none), (10, none), (11, none), (13, none), (15, none), (16, none), (17, none)]
def pt_16_16 : SPat := ⟨[(6, .ptr 0 []), (10, .ptr 1 []), (11, .ros (.int .u64)), (13, .ptr 2 []), (15, .int .i64), (16, .ptr 3 []), (17, .int .i64)], [some (.vec (.int .u64) 8, 23), some (.vec (.int .u64) 8, 23), some (.vec (.int .u64) 16, 97), some (.vec (.int .i64) 16, 38)]⟩
def px_16_16_0 : SPat := ⟨[(6, .ptr 0 []), (10, .ptr 1 []), (11, .ros (.int .u64)), (13, .ptr 2 []), (15, .int .i64)], [some (.vec (.int .u64) 8, 23), some (.vec (.int .u64) 8, 23), some (.vec (.int .u64) 16, 97)]⟩
def lo_16_16 : Exit → Live
  | .exit 4 => [(6, none), (10, none), (11, none), (13, none), (15, none)]
  | _ => []
def B_16_16 {R : Type} (N : Nat) (rec : ((Unit × Unit × (List Int) × Unit × Int × Unit × Int × Unit) × ((Nat → Int) × (Nat → Int) × (Nat → Int) × (Nat → Int) × Unit)) → Option R) (x : ((Unit × Unit × (List Int) × Unit × Int × Unit × Int × Unit) × ((Nat → Int) × (Nat → Int) × (Nat → Int) × (Nat → Int) × Unit))) (κ0 : ((Unit × Unit × (List Int) × Unit × Int × Unit) × ((Nat → Int) × (Nat → Int) × (Nat → Int) × Unit)) → Option R) : Option R :=
let l1753 : (List Int) := x.1.2.2.1
let i1754 : Int := x.1.2.2.2.2.1
let i1755 : Int := x.1.2.2.2.2.2.2.1
let a1756 : (Nat → Int) := x.2.1
let a1757 : (Nat → Int) := x.2.2.1
let a1758 : (Nat → Int) := x.2.2.2.1
let a1759 : (Nat → Int) := x.2.2.2.2.1
bif (decide (i1755 < 8)) then (
p_50 N ((i1755, ()), ()) (fun y1760 =>
let a1761 : (Nat → Int) := y1760
let i1762 : Int := (a1761 0)
bif decide (0 ≤ i1762) then (
bif decide (i1762 < (16 : Int)) then (
let i1763 : Int := (a1758 ((Int.toNat i1762)))
let i1764 : Int := (a1761 1)
bif decide (0 ≤ i1764) then (
bif decide (i1764 < (16 : Int)) then (
let i1765 : Int := (a1758 ((Int.toNat i1764)))
let i1766 : Int := (a1761 2)
bif decide (0 ≤ i1766) then (
bif decide (i1766 < (16 : Int)) then (
let i1767 : Int := (a1758 ((Int.toNat i1766)))
let i1768 : Int := (a1761 3)
bif decide (0 ≤ i1768) then (
bif decide (i1768 < (16 : Int)) then (
let i1769 : Int := (a1758 ((Int.toNat i1768)))
let a1770 : (Nat → Int) := (upd ((upd ((upd ((upd ((Sch.zero (.arr 4 (.int .u64)))) 0 i1763)) 1 i1765)) 2 i1767)) 3 i1769)
let i1771 : Int := mulA .i64 2 i1755
bif decide (0 ≤ i1771) then (
bif decide (i1771 < (16 : Int)) then (
let i1772 : Int := (a1759 ((Int.toNat i1771)))
bif decide (0 ≤ i1772) then (
bif decide (i1772 < ((List.length l1753) : Int)) then (
let p1773 : Int := (List.getD l1753 ((Int.toNat i1772)) (Sch.zero (.int .u64)))
let i1774 : Int := mulA .i64 2 i1755
let i1775 : Int := addA .i64 i1774 1
bif decide (0 ≤ i1775) then (
bif decide (i1775 < (16 : Int)) then (
let i1776 : Int := (a1759 ((Int.toNat i1775)))
bif decide (0 ≤ i1776) then (
bif decide (i1776 < ((List.length l1753) : Int)) then (
let p1777 : Int := (List.getD l1753 ((Int.toNat i1776)) (Sch.zero (.int .u64)))
p_18 N ((a1770, p1773, p1777, ()), ()) (fun y1778 =>
let a1779 : (Nat → Int) := y1778
l_16_21 N N (((), (), l1753, (), i1754, (), i1755, (), (), 0, ()), (a1756, a1757, a1758, a1759, a1761, a1779, ())) (fun y1794 =>
let l1795 : (List Int) := y1794.1.2.2.1
let i1796 : Int := y1794.1.2.2.2.2.1
let i1797 : Int := y1794.1.2.2.2.2.2.2.1
let a1798 : (Nat → Int) := y1794.2.1
let a1799 : (Nat → Int) := y1794.2.2.1
let a1800 : (Nat → Int) := y1794.2.2.2.1
let a1801 : (Nat → Int) := y1794.2.2.2.2.1
let i1802 : Int := addA .i64 i1797 1
rec (((), (), l1795, (), i1796, (), i1802, ()), (a1798, a1799, a1800, a1801, ()))))) else none) else none) else none) else none) else none) else none) else none) else none) else none) else none) else none) else none) else none) else none) else none) else none)) else (
κ0 (((), (), l1753, (), i1754, ()), (a1756, a1757, a1758, ())))
def l_16_16 {R : Type} (N : Nat) : Nat → ((Unit × Unit × (List Int) × Unit × Int × Unit × Int × Unit) × ((Nat → Int) × (Nat → Int) × (Nat → Int) × (Nat → Int) × Unit)) → (((Unit × Unit × (List Int) × Unit × Int × Unit) × ((Nat → Int) × (Nat → Int) × (Nat → Int) × Unit)) → Option R) → Option R
  | 0, _, _ => none
  | n + 1, x, κ0 => B_16_16 N (fun y => l_16_16 N n y κ0) x κ0
def lv_16_12 : Live := [(6, none), (10, none), (11, none), (13, none), (15, none)]
def pt_16_12 : SPat := ⟨[(6, .ptr 0 []), (10, .ptr 1 []), (11, .ros (.int .u64)), (13, .ptr 2 []), (15, .int .i64)], [some (.vec (.int .u64) 8, 23), some (.vec (.int .u64) 8, 23), some (.vec (.int .u64) 16, 97)]⟩
def px_16_12_0 : SPat := ⟨[(6, .ptr 0 []), (10, .ptr 1 []), (13, .ptr 2 [])], [some (.vec (.int .u64) 8, 23), some (.vec (.int .u64) 8, 23), some (.vec (.int .u64) 16, 97)]⟩
def lo_16_12 : Exit → Live
  | .exit 2 => [(6, none), (10, none), (13, none)]
  | _ => []
def B_16_12 {R : Type} (N : Nat) (rec : ((Unit × Unit × (List Int) × Unit × Int × Unit) × ((Nat → Int) × (Nat → Int) × (Nat → Int) × Unit)) → Option R) (x : ((Unit × Unit × (List Int) × Unit × Int × Unit) × ((Nat → Int) × (Nat → Int) × (Nat → Int) × Unit))) (κ0 : ((Unit × Unit × Unit × Unit) × ((Nat → Int) × (Nat → Int) × (Nat → Int) × Unit)) → Option R) : Option R :=
let l1746 : (List Int) := x.1.2.2.1
let i1747 : Int := x.1.2.2.2.2.1
let a1748 : (Nat → Int) := x.2.1
let a1749 : (Nat → Int) := x.2.2.1
let a1750 : (Nat → Int) := x.2.2.2.1
bif (decide (i1747 < 12)) then (
p_20 N ((i1747, ()), ()) (fun y1751 =>
let a1752 : (Nat → Int) := y1751
l_16_16 N N (((), (), l1746, (), i1747, (), 0, ()), (a1748, a1749, a1750, a1752, ())) (fun y1803 =>
let l1804 : (List Int) := y1803.1.2.2.1
let i1805 : Int := y1803.1.2.2.2.2.1
let a1806 : (Nat → Int) := y1803.2.1
let a1807 : (Nat → Int) := y1803.2.2.1
let a1808 : (Nat → Int) := y1803.2.2.2.1
let i1809 : Int := addA .i64 i1805 1
rec (((), (), l1804, (), i1809, ()), (a1806, a1807, a1808, ()))))) else (
κ0 (((), (), (), ()), (a1748, a1749, a1750, ())))
def l_16_12 {R : Type} (N : Nat) : Nat → ((Unit × Unit × (List Int) × Unit × Int × Unit) × ((Nat → Int) × (Nat → Int) × (Nat → Int) × Unit)) → (((Unit × Unit × Unit × Unit) × ((Nat → Int) × (Nat → Int) × (Nat → Int) × Unit)) → Option R) → Option R
  | 0, _, _ => none
  | n + 1, x, κ0 => B_16_12 N (fun y => l_16_12 N n y κ0) x κ0
def lv_16_25 : Live := [(6, none), (10, none), (13, none), (21, none)]
def pt_16_25 : SPat := ⟨[(6, .ptr 0 []), (10, .ptr 1 []), (13, .ptr 2 []), (21, .int .i64)], [some (.vec (.int .u64) 8, 23), some (.vec (.int .u64) 8, 23), some (.vec (.int .u64) 16, 97)]⟩
def px_16_25_0 : SPat := ⟨[(6, .ptr 0 []), (10, .ptr 1 [])], [some (.vec (.int .u64) 8, 23), some (.vec (.int .u64) 8, 23)]⟩
def lo_16_25 : Exit → Live
  | .exit 8 => [(6, none), (10, none)]
  | _ => []
def B_16_25 {R : Type} (N : Nat) (rec : ((Unit × Unit × Unit × Int × Unit) × ((Nat → Int) × (Nat → Int) × (Nat → Int) × Unit)) → Option R) (x : ((Unit × Unit × Unit × Int × Unit) × ((Nat → Int) × (Nat → Int) × (Nat → Int) × Unit))) (κ0 : ((Unit × Unit × Unit) × ((Nat → Int) × (Nat → Int) × Unit)) → Option R) : Option R :=
let i1814 : Int := x.1.2.2.2.1
let a1815 : (Nat → Int) := x.2.1
let a1816 : (Nat → Int) := x.2.2.1
let a1817 : (Nat → Int) := x.2.2.2.1
bif (decide (i1814 < 8)) then (
bif decide (0 ≤ i1814) then (
bif decide (i1814 < (8 : Int)) then (
let i1818 : Int := (a1815 ((Int.toNat i1814)))
bif decide (0 ≤ i1814) then (
bif decide (i1814 < (16 : Int)) then (
let i1819 : Int := (a1817 ((Int.toNat i1814)))
let i1820 : Int := xorA .u64 i1818 i1819
let i1821 : Int := addA .i64 i1814 8
bif decide (0 ≤ i1821) then (
bif decide (i1821 < (16 : Int)) then (
let i1822 : Int := (a1817 ((Int.toNat i1821)))
let i1823 : Int := xorA .u64 i1820 i1822
bif decide (0 ≤ i1814) then (
bif decide (i1814 < (8 : Int)) then (
let a1824 : (Nat → Int) := (upd a1815 ((Int.toNat i1814)) i1823)
let i1825 : Int := addA .i64 i1814 1
rec (((), (), (), i1825, ()), (a1824, a1816, a1817, ()))) else none) else none) else none) else none) else none) else none) else none) else none) else (
κ0 (((), (), ()), (a1815, a1816, ())))
def l_16_25 {R : Type} (N : Nat) : Nat → ((Unit × Unit × Unit × Int × Unit) × ((Nat → Int) × (Nat → Int) × (Nat → Int) × Unit)) → (((Unit × Unit × Unit) × ((Nat → Int) × (Nat → Int) × Unit)) → Option R) → Option R
  | 0, _, _ => none
  | n + 1, x, κ0 => B_16_25 N (fun y => l_16_25 N n y κ0) x κ0
def ap_16 : List Pat := [.vec (.int .u64) 8, .vec (.int .u64) 8, .str, .int .u64, .bool]
def hp_16 : List (Option (Pat × Nat)) := []
def p_16 {R : Type} (N : Nat) (x : ((Nat → Int) × (Nat → Int) × ByteArray × Int × Bool × Unit) × (Unit)) (κ0 : (Nat → Int) → Option R) : Option R :=
let a1469 : (Nat → Int) := x.1.1
let a1470 : (Nat → Int) := x.1.2.1
let s1471 : ByteArray := x.1.2.2.1
let i1472 : Int := x.1.2.2.2.1
let b1473 : Bool := x.1.2.2.2.2.1
bif decide (ByteArray.size s1471 ≤ maxI64) then (
let l1474 : (List Int) := strList s1471
p_49 N (((), 8, ()), (l1474, ())) (fun y1532 =>
let l1533 : (List Int) := y1532.1.1
let b1534 : Bool := y1532.1.2.1
let l1535 : (List Int) := y1532.2.1
l_16_4 N N ((i1472, b1473, (), (), (), l1533, (), 0, ()), (a1469, a1470, (Sch.zero (.arr 8 (.int .u64))), (Sch.zero (.arr 16 (.int .u64))), ())) (fun y1550 =>
let i1551 : Int := y1550.1.1
let b1552 : Bool := y1550.1.2.1
let l1553 : (List Int) := y1550.1.2.2.2.2.1
let a1554 : (Nat → Int) := y1550.2.1
let a1555 : (Nat → Int) := y1550.2.2.1
let a1556 : (Nat → Int) := y1550.2.2.2.1
let i1557 : Int := (a1556 12)
let i1558 : Int := xorA .u64 i1557 i1551
let a1559 : (Nat → Int) := (upd a1556 12 i1558)
bif b1552 then (
let i1560 : Int := (a1559 14)
let i1561 : Int := subA .u64 18446744073709551615 i1560
let a1562 : (Nat → Int) := (upd a1559 14 i1561)
l_16_12 N N (((), (), l1553, (), 0, ()), (a1554, a1555, a1562, ())) (fun y1727 =>
let a1728 : (Nat → Int) := y1727.2.1
let a1729 : (Nat → Int) := y1727.2.2.1
let a1730 : (Nat → Int) := y1727.2.2.2.1
l_16_25 N N (((), (), (), 0, ()), (a1728, a1729, a1730, ())) (fun y1743 =>
let a1744 : (Nat → Int) := y1743.2.1
let a1745 : (Nat → Int) := y1743.2.2.1
κ0 a1744))) else (
l_16_12 N N (((), (), l1553, (), 0, ()), (a1554, a1555, a1559, ())) (fun y1810 =>
let a1811 : (Nat → Int) := y1810.2.1
let a1812 : (Nat → Int) := y1810.2.2.1
let a1813 : (Nat → Int) := y1810.2.2.2.1
l_16_25 N N (((), (), (), 0, ()), (a1811, a1812, a1813, ())) (fun y1826 =>
let a1827 : (Nat → Int) := y1826.2.1
let a1828 : (Nat → Int) := y1826.2.2.1
κ0 a1827)))))) else none

abbrev Tl_16_4 (R : Type) : Type := ((Int × Bool × Unit × Unit × Unit × (List Int) × Unit × Int × Unit) × ((Nat → Int) × (Nat → Int) × (Nat → Int) × (Nat → Int) × Unit)) → (((Int × Bool × Unit × Unit × (List Int) × Unit × Unit) × ((Nat → Int) × (Nat → Int) × (Nat → Int) × Unit)) → Option R) → Option R
abbrev Tl_16_21 (R : Type) : Type := ((Unit × Unit × (List Int) × Unit × Int × Unit × Int × Unit × Unit × Int × Unit) × ((Nat → Int) × (Nat → Int) × (Nat → Int) × (Nat → Int) × (Nat → Int) × (Nat → Int) × Unit)) → (((Unit × Unit × (List Int) × Unit × Int × Unit × Int × Unit) × ((Nat → Int) × (Nat → Int) × (Nat → Int) × (Nat → Int) × Unit)) → Option R) → Option R
abbrev Tl_16_16 (R : Type) : Type := ((Unit × Unit × (List Int) × Unit × Int × Unit × Int × Unit) × ((Nat → Int) × (Nat → Int) × (Nat → Int) × (Nat → Int) × Unit)) → (((Unit × Unit × (List Int) × Unit × Int × Unit) × ((Nat → Int) × (Nat → Int) × (Nat → Int) × Unit)) → Option R) → Option R
abbrev Tl_16_12 (R : Type) : Type := ((Unit × Unit × (List Int) × Unit × Int × Unit) × ((Nat → Int) × (Nat → Int) × (Nat → Int) × Unit)) → (((Unit × Unit × Unit × Unit) × ((Nat → Int) × (Nat → Int) × (Nat → Int) × Unit)) → Option R) → Option R
abbrev Tl_16_25 (R : Type) : Type := ((Unit × Unit × Unit × Int × Unit) × ((Nat → Int) × (Nat → Int) × (Nat → Int) × Unit)) → (((Unit × Unit × Unit) × ((Nat → Int) × (Nat → Int) × Unit)) → Option R) → Option R
abbrev Tp_16 (R : Type) : Type := ((Nat → Int) × (Nat → Int) × ByteArray × Int × Bool × Unit) × (Unit) → ((Nat → Int) → Option R) → Option R
def Q_16 {R : Type} (q_49 : Tp_49 R) (q_50 : Tp_50 R) (q_18 : Tp_18 R) (q_20 : Tp_20 R) (m_16_4 : Tl_16_4 R) (m_16_21 : Tl_16_21 R) (m_16_16 : Tl_16_16 R) (m_16_12 : Tl_16_12 R) (m_16_25 : Tl_16_25 R) (x : ((Nat → Int) × (Nat → Int) × ByteArray × Int × Bool × Unit) × (Unit)) (κ0 : (Nat → Int) → Option R) : Option R :=
let a1469 : (Nat → Int) := x.1.1
let a1470 : (Nat → Int) := x.1.2.1
let s1471 : ByteArray := x.1.2.2.1
let i1472 : Int := x.1.2.2.2.1
let b1473 : Bool := x.1.2.2.2.2.1
bif decide (ByteArray.size s1471 ≤ maxI64) then (
let l1474 : (List Int) := strList s1471
q_49 (((), 8, ()), (l1474, ())) (fun y1532 =>
let l1533 : (List Int) := y1532.1.1
let b1534 : Bool := y1532.1.2.1
let l1535 : (List Int) := y1532.2.1
m_16_4 ((i1472, b1473, (), (), (), l1533, (), 0, ()), (a1469, a1470, (Sch.zero (.arr 8 (.int .u64))), (Sch.zero (.arr 16 (.int .u64))), ())) (fun y1550 =>
let i1551 : Int := y1550.1.1
let b1552 : Bool := y1550.1.2.1
let l1553 : (List Int) := y1550.1.2.2.2.2.1
let a1554 : (Nat → Int) := y1550.2.1
let a1555 : (Nat → Int) := y1550.2.2.1
let a1556 : (Nat → Int) := y1550.2.2.2.1
let i1557 : Int := (a1556 12)
let i1558 : Int := xorA .u64 i1557 i1551
let a1559 : (Nat → Int) := (upd a1556 12 i1558)
bif b1552 then (
let i1560 : Int := (a1559 14)
let i1561 : Int := subA .u64 18446744073709551615 i1560
let a1562 : (Nat → Int) := (upd a1559 14 i1561)
m_16_12 (((), (), l1553, (), 0, ()), (a1554, a1555, a1562, ())) (fun y1727 =>
let a1728 : (Nat → Int) := y1727.2.1
let a1729 : (Nat → Int) := y1727.2.2.1
let a1730 : (Nat → Int) := y1727.2.2.2.1
m_16_25 (((), (), (), 0, ()), (a1728, a1729, a1730, ())) (fun y1743 =>
let a1744 : (Nat → Int) := y1743.2.1
let a1745 : (Nat → Int) := y1743.2.2.1
κ0 a1744))) else (
m_16_12 (((), (), l1553, (), 0, ()), (a1554, a1555, a1559, ())) (fun y1810 =>
let a1811 : (Nat → Int) := y1810.2.1
let a1812 : (Nat → Int) := y1810.2.2.1
let a1813 : (Nat → Int) := y1810.2.2.2.1
m_16_25 (((), (), (), 0, ()), (a1811, a1812, a1813, ())) (fun y1826 =>
let a1827 : (Nat → Int) := y1826.2.1
let a1828 : (Nat → Int) := y1826.2.2.1
κ0 a1827)))))) else none
def C_16_4 {R : Type} (q_49 : Tp_49 R) (q_50 : Tp_50 R) (q_18 : Tp_18 R) (q_20 : Tp_20 R) (m_16_4 : Tl_16_4 R) (m_16_21 : Tl_16_21 R) (m_16_16 : Tl_16_16 R) (m_16_12 : Tl_16_12 R) (m_16_25 : Tl_16_25 R) (rec : ((Int × Bool × Unit × Unit × Unit × (List Int) × Unit × Int × Unit) × ((Nat → Int) × (Nat → Int) × (Nat → Int) × (Nat → Int) × Unit)) → Option R) (x : ((Int × Bool × Unit × Unit × Unit × (List Int) × Unit × Int × Unit) × ((Nat → Int) × (Nat → Int) × (Nat → Int) × (Nat → Int) × Unit))) (κ0 : ((Int × Bool × Unit × Unit × (List Int) × Unit × Unit) × ((Nat → Int) × (Nat → Int) × (Nat → Int) × Unit)) → Option R) : Option R :=
let i1536 : Int := x.1.1
let b1537 : Bool := x.1.2.1
let l1538 : (List Int) := x.1.2.2.2.2.2.1
let i1539 : Int := x.1.2.2.2.2.2.2.2.1
let a1540 : (Nat → Int) := x.2.1
let a1541 : (Nat → Int) := x.2.2.1
let a1542 : (Nat → Int) := x.2.2.2.1
let a1543 : (Nat → Int) := x.2.2.2.2.1
bif (decide (i1539 < 8)) then (
bif decide (0 ≤ i1539) then (
bif decide (i1539 < (8 : Int)) then (
let i1544 : Int := (a1541 ((Int.toNat i1539)))
bif decide (0 ≤ i1539) then (
bif decide (i1539 < (16 : Int)) then (
let a1545 : (Nat → Int) := (upd a1543 ((Int.toNat i1539)) i1544)
let i1546 : Int := addA .i64 i1539 8
bif decide (0 ≤ i1539) then (
bif decide (i1539 < (8 : Int)) then (
let i1547 : Int := (a1540 ((Int.toNat i1539)))
bif decide (0 ≤ i1546) then (
bif decide (i1546 < (16 : Int)) then (
let a1548 : (Nat → Int) := (upd a1545 ((Int.toNat i1546)) i1547)
let i1549 : Int := addA .i64 i1539 1
rec ((i1536, b1537, (), (), (), l1538, (), i1549, ()), (a1540, a1541, a1542, a1548, ()))) else none) else none) else none) else none) else none) else none) else none) else none) else (
κ0 ((i1536, b1537, (), (), l1538, (), ()), (a1541, a1542, a1543, ())))
def C_16_21 {R : Type} (q_49 : Tp_49 R) (q_50 : Tp_50 R) (q_18 : Tp_18 R) (q_20 : Tp_20 R) (m_16_4 : Tl_16_4 R) (m_16_21 : Tl_16_21 R) (m_16_16 : Tl_16_16 R) (m_16_12 : Tl_16_12 R) (m_16_25 : Tl_16_25 R) (rec : ((Unit × Unit × (List Int) × Unit × Int × Unit × Int × Unit × Unit × Int × Unit) × ((Nat → Int) × (Nat → Int) × (Nat → Int) × (Nat → Int) × (Nat → Int) × (Nat → Int) × Unit)) → Option R) (x : ((Unit × Unit × (List Int) × Unit × Int × Unit × Int × Unit × Unit × Int × Unit) × ((Nat → Int) × (Nat → Int) × (Nat → Int) × (Nat → Int) × (Nat → Int) × (Nat → Int) × Unit))) (κ0 : ((Unit × Unit × (List Int) × Unit × Int × Unit × Int × Unit) × ((Nat → Int) × (Nat → Int) × (Nat → Int) × (Nat → Int) × Unit)) → Option R) : Option R :=
let l1780 : (List Int) := x.1.2.2.1
let i1781 : Int := x.1.2.2.2.2.1
let i1782 : Int := x.1.2.2.2.2.2.2.1
let i1783 : Int := x.1.2.2.2.2.2.2.2.2.2.1
let a1784 : (Nat → Int) := x.2.1
let a1785 : (Nat → Int) := x.2.2.1
let a1786 : (Nat → Int) := x.2.2.2.1
let a1787 : (Nat → Int) := x.2.2.2.2.1
let a1788 : (Nat → Int) := x.2.2.2.2.2.1
let a1789 : (Nat → Int) := x.2.2.2.2.2.2.1
bif (decide (i1783 < 4)) then (
bif decide (0 ≤ i1783) then (
bif decide (i1783 < (4 : Int)) then (
let i1790 : Int := (a1788 ((Int.toNat i1783)))
bif decide (0 ≤ i1783) then (
bif decide (i1783 < (4 : Int)) then (
let i1791 : Int := (a1789 ((Int.toNat i1783)))
bif decide (0 ≤ i1790) then (
bif decide (i1790 < (16 : Int)) then (
let a1792 : (Nat → Int) := (upd a1786 ((Int.toNat i1790)) i1791)
let i1793 : Int := addA .i64 i1783 1
rec (((), (), l1780, (), i1781, (), i1782, (), (), i1793, ()), (a1784, a1785, a1792, a1787, a1788, a1789, ()))) else none) else none) else none) else none) else none) else none) else (
κ0 (((), (), l1780, (), i1781, (), i1782, ()), (a1784, a1785, a1786, a1787, ())))
def C_16_16 {R : Type} (q_49 : Tp_49 R) (q_50 : Tp_50 R) (q_18 : Tp_18 R) (q_20 : Tp_20 R) (m_16_4 : Tl_16_4 R) (m_16_21 : Tl_16_21 R) (m_16_16 : Tl_16_16 R) (m_16_12 : Tl_16_12 R) (m_16_25 : Tl_16_25 R) (rec : ((Unit × Unit × (List Int) × Unit × Int × Unit × Int × Unit) × ((Nat → Int) × (Nat → Int) × (Nat → Int) × (Nat → Int) × Unit)) → Option R) (x : ((Unit × Unit × (List Int) × Unit × Int × Unit × Int × Unit) × ((Nat → Int) × (Nat → Int) × (Nat → Int) × (Nat → Int) × Unit))) (κ0 : ((Unit × Unit × (List Int) × Unit × Int × Unit) × ((Nat → Int) × (Nat → Int) × (Nat → Int) × Unit)) → Option R) : Option R :=
let l1753 : (List Int) := x.1.2.2.1
let i1754 : Int := x.1.2.2.2.2.1
let i1755 : Int := x.1.2.2.2.2.2.2.1
let a1756 : (Nat → Int) := x.2.1
let a1757 : (Nat → Int) := x.2.2.1
let a1758 : (Nat → Int) := x.2.2.2.1
let a1759 : (Nat → Int) := x.2.2.2.2.1
bif (decide (i1755 < 8)) then (
q_50 ((i1755, ()), ()) (fun y1760 =>
let a1761 : (Nat → Int) := y1760
let i1762 : Int := (a1761 0)
bif decide (0 ≤ i1762) then (
bif decide (i1762 < (16 : Int)) then (
let i1763 : Int := (a1758 ((Int.toNat i1762)))
let i1764 : Int := (a1761 1)
bif decide (0 ≤ i1764) then (
bif decide (i1764 < (16 : Int)) then (
let i1765 : Int := (a1758 ((Int.toNat i1764)))
let i1766 : Int := (a1761 2)
bif decide (0 ≤ i1766) then (
bif decide (i1766 < (16 : Int)) then (
let i1767 : Int := (a1758 ((Int.toNat i1766)))
let i1768 : Int := (a1761 3)
bif decide (0 ≤ i1768) then (
bif decide (i1768 < (16 : Int)) then (
let i1769 : Int := (a1758 ((Int.toNat i1768)))
let a1770 : (Nat → Int) := (upd ((upd ((upd ((upd ((Sch.zero (.arr 4 (.int .u64)))) 0 i1763)) 1 i1765)) 2 i1767)) 3 i1769)
let i1771 : Int := mulA .i64 2 i1755
bif decide (0 ≤ i1771) then (
bif decide (i1771 < (16 : Int)) then (
let i1772 : Int := (a1759 ((Int.toNat i1771)))
bif decide (0 ≤ i1772) then (
bif decide (i1772 < ((List.length l1753) : Int)) then (
let p1773 : Int := (List.getD l1753 ((Int.toNat i1772)) (Sch.zero (.int .u64)))
let i1774 : Int := mulA .i64 2 i1755
let i1775 : Int := addA .i64 i1774 1
bif decide (0 ≤ i1775) then (
bif decide (i1775 < (16 : Int)) then (
let i1776 : Int := (a1759 ((Int.toNat i1775)))
bif decide (0 ≤ i1776) then (
bif decide (i1776 < ((List.length l1753) : Int)) then (
let p1777 : Int := (List.getD l1753 ((Int.toNat i1776)) (Sch.zero (.int .u64)))
q_18 ((a1770, p1773, p1777, ()), ()) (fun y1778 =>
let a1779 : (Nat → Int) := y1778
m_16_21 (((), (), l1753, (), i1754, (), i1755, (), (), 0, ()), (a1756, a1757, a1758, a1759, a1761, a1779, ())) (fun y1794 =>
let l1795 : (List Int) := y1794.1.2.2.1
let i1796 : Int := y1794.1.2.2.2.2.1
let i1797 : Int := y1794.1.2.2.2.2.2.2.1
let a1798 : (Nat → Int) := y1794.2.1
let a1799 : (Nat → Int) := y1794.2.2.1
let a1800 : (Nat → Int) := y1794.2.2.2.1
let a1801 : (Nat → Int) := y1794.2.2.2.2.1
let i1802 : Int := addA .i64 i1797 1
rec (((), (), l1795, (), i1796, (), i1802, ()), (a1798, a1799, a1800, a1801, ()))))) else none) else none) else none) else none) else none) else none) else none) else none) else none) else none) else none) else none) else none) else none) else none) else none)) else (
κ0 (((), (), l1753, (), i1754, ()), (a1756, a1757, a1758, ())))
def C_16_12 {R : Type} (q_49 : Tp_49 R) (q_50 : Tp_50 R) (q_18 : Tp_18 R) (q_20 : Tp_20 R) (m_16_4 : Tl_16_4 R) (m_16_21 : Tl_16_21 R) (m_16_16 : Tl_16_16 R) (m_16_12 : Tl_16_12 R) (m_16_25 : Tl_16_25 R) (rec : ((Unit × Unit × (List Int) × Unit × Int × Unit) × ((Nat → Int) × (Nat → Int) × (Nat → Int) × Unit)) → Option R) (x : ((Unit × Unit × (List Int) × Unit × Int × Unit) × ((Nat → Int) × (Nat → Int) × (Nat → Int) × Unit))) (κ0 : ((Unit × Unit × Unit × Unit) × ((Nat → Int) × (Nat → Int) × (Nat → Int) × Unit)) → Option R) : Option R :=
let l1746 : (List Int) := x.1.2.2.1
let i1747 : Int := x.1.2.2.2.2.1
let a1748 : (Nat → Int) := x.2.1
let a1749 : (Nat → Int) := x.2.2.1
let a1750 : (Nat → Int) := x.2.2.2.1
bif (decide (i1747 < 12)) then (
q_20 ((i1747, ()), ()) (fun y1751 =>
let a1752 : (Nat → Int) := y1751
m_16_16 (((), (), l1746, (), i1747, (), 0, ()), (a1748, a1749, a1750, a1752, ())) (fun y1803 =>
let l1804 : (List Int) := y1803.1.2.2.1
let i1805 : Int := y1803.1.2.2.2.2.1
let a1806 : (Nat → Int) := y1803.2.1
let a1807 : (Nat → Int) := y1803.2.2.1
let a1808 : (Nat → Int) := y1803.2.2.2.1
let i1809 : Int := addA .i64 i1805 1
rec (((), (), l1804, (), i1809, ()), (a1806, a1807, a1808, ()))))) else (
κ0 (((), (), (), ()), (a1748, a1749, a1750, ())))
def C_16_25 {R : Type} (q_49 : Tp_49 R) (q_50 : Tp_50 R) (q_18 : Tp_18 R) (q_20 : Tp_20 R) (m_16_4 : Tl_16_4 R) (m_16_21 : Tl_16_21 R) (m_16_16 : Tl_16_16 R) (m_16_12 : Tl_16_12 R) (m_16_25 : Tl_16_25 R) (rec : ((Unit × Unit × Unit × Int × Unit) × ((Nat → Int) × (Nat → Int) × (Nat → Int) × Unit)) → Option R) (x : ((Unit × Unit × Unit × Int × Unit) × ((Nat → Int) × (Nat → Int) × (Nat → Int) × Unit))) (κ0 : ((Unit × Unit × Unit) × ((Nat → Int) × (Nat → Int) × Unit)) → Option R) : Option R :=
let i1814 : Int := x.1.2.2.2.1
let a1815 : (Nat → Int) := x.2.1
let a1816 : (Nat → Int) := x.2.2.1
let a1817 : (Nat → Int) := x.2.2.2.1
bif (decide (i1814 < 8)) then (
bif decide (0 ≤ i1814) then (
bif decide (i1814 < (8 : Int)) then (
let i1818 : Int := (a1815 ((Int.toNat i1814)))
bif decide (0 ≤ i1814) then (
bif decide (i1814 < (16 : Int)) then (
let i1819 : Int := (a1817 ((Int.toNat i1814)))
let i1820 : Int := xorA .u64 i1818 i1819
let i1821 : Int := addA .i64 i1814 8
bif decide (0 ≤ i1821) then (
bif decide (i1821 < (16 : Int)) then (
let i1822 : Int := (a1817 ((Int.toNat i1821)))
let i1823 : Int := xorA .u64 i1820 i1822
bif decide (0 ≤ i1814) then (
bif decide (i1814 < (8 : Int)) then (
let a1824 : (Nat → Int) := (upd a1815 ((Int.toNat i1814)) i1823)
let i1825 : Int := addA .i64 i1814 1
rec (((), (), (), i1825, ()), (a1824, a1816, a1817, ()))) else none) else none) else none) else none) else none) else none) else none) else none) else (
κ0 (((), (), ()), (a1815, a1816, ())))
def EG_16 {R : Type} (q_49 : Tp_49 R) (q_50 : Tp_50 R) (q_18 : Tp_18 R) (q_20 : Tp_20 R) : Env R := ((((Env.base QQ LN).add 49 ap_49 hp_49 (fun (x : aden ap_49 × hden hp_49) k => q_49 x (fun y => k (Pat.inst (.tup (.fcons (.ros (.int .u64)) (.fcons (.bool) (.fnil)))) y.1) (instH [some (.lst (.int .u8), 5)] y.2)))).add 50 ap_50 hp_50 (fun (x : aden ap_50 × hden hp_50) k => q_50 x (fun y => k (Pat.inst (.vec (.int .i64) 4) y) (instH hp_50 x.2)))).add 18 ap_18 hp_18 (fun (x : aden ap_18 × hden hp_18) k => q_18 x (fun y => k (Pat.inst (.vec (.int .u64) 4) y) (instH hp_18 x.2)))).add 20 ap_20 hp_20 (fun (x : aden ap_20 × hden hp_20) k => q_20 x (fun y => k (Pat.inst (.vec (.int .i64) 16) y) (instH hp_20 x.2)))
def LG_16 {R : Type} (m_16_4 : Tl_16_4 R) (m_16_21 : Tl_16_21 R) (m_16_16 : Tl_16_16 R) (m_16_12 : Tl_16_12 R) (m_16_25 : Tl_16_25 R) : Loops R := (((((Loops.none).add 4 (loopBy 0 lv_16_4 pt_16_4 (fun x k => m_16_4 x (fun y => k (.exit 0) (px_16_4_0.inst y))))).add 21 (loopBy 0 lv_16_21 pt_16_21 (fun x k => m_16_21 x (fun y => k (.exit 6) (px_16_21_0.inst y))))).add 16 (loopBy 0 lv_16_16 pt_16_16 (fun x k => m_16_16 x (fun y => k (.exit 4) (px_16_16_0.inst y))))).add 12 (loopBy 0 lv_16_12 pt_16_12 (fun x k => m_16_12 x (fun y => k (.exit 2) (px_16_12_0.inst y))))).add 25 (loopBy 0 lv_16_25 pt_16_25 (fun x k => m_16_25 x (fun y => k (.exit 8) (px_16_25_0.inst y))))
def E_16 {R : Type} (N : Nat) : Env R := EG_16 (p_49 N) (p_50 N) (p_18 N) (p_20 N)
theorem eok_16 {R : Type} (N : Nat) : EK Try.prog (E_16 (R := R) N) := ek_add (ek_add (ek_add (ek_add (ek_base _ _) (good_49 N)) (good_50 N)) (good_18 N)) (good_20 N)
def L_16 {R : Type} (N : Nat) : Loops R := LG_16 (l_16_4 N N) (l_16_21 N N) (l_16_16 N N) (l_16_12 N N) (l_16_25 N N)
theorem gstep_16_4 {R : Type} (q_49 : Tp_49 R) (q_50 : Tp_50 R) (q_18 : Tp_18 R) (q_20 : Tp_20 R) (m_16_4 : Tl_16_4 R) (m_16_21 : Tl_16_21 R) (m_16_16 : Tl_16_16 R) (m_16_12 : Tl_16_12 R) (m_16_25 : Tl_16_25 R) (n : Nat) (x : pt_16_4.den) (k : Exit → St → Option R) : iter 0 lv_16_4 lo_16_4 (aexec TT (EG_16 q_49 q_50 q_18 q_20) (drawAny TT WW) (LG_16 m_16_4 m_16_21 m_16_16 m_16_12 m_16_25) (loopAt 4 (bodyOf Try.f16))) (n + 1) (pt_16_4.inst x) k = C_16_4 q_49 q_50 q_18 q_20 m_16_4 m_16_21 m_16_16 m_16_12 m_16_25 (fun y => iter 0 lv_16_4 lo_16_4 (aexec TT (EG_16 q_49 q_50 q_18 q_20) (drawAny TT WW) (LG_16 m_16_4 m_16_21 m_16_16 m_16_12 m_16_25) (loopAt 4 (bodyOf Try.f16))) n (pt_16_4.inst y) k) x (fun y => k (.exit 0) (px_16_4_0.inst y)) := by kernel_rfl
theorem step_16_4 {R : Type} (N n : Nat) (x : pt_16_4.den) (k : Exit → St → Option R) : iter 0 lv_16_4 lo_16_4 (aexec TT (E_16 (R := R) N) (drawAny TT WW) (L_16 N) (loopAt 4 (bodyOf Try.f16))) (n + 1) (pt_16_4.inst x) k = B_16_4 N (fun y => iter 0 lv_16_4 lo_16_4 (aexec TT (E_16 (R := R) N) (drawAny TT WW) (L_16 N) (loopAt 4 (bodyOf Try.f16))) n (pt_16_4.inst y) k) x (fun y => k (.exit 0) (px_16_4_0.inst y)) := (gstep_16_4 (p_49 N) (p_50 N) (p_18 N) (p_20 N) (l_16_4 N N) (l_16_21 N N) (l_16_16 N N) (l_16_12 N N) (l_16_25 N N) n x k).trans (by kernel_rfl)
theorem eq_16_4 {R : Type} (N : Nat) : ∀ (n : Nat) (x : pt_16_4.den) (k : Exit → St → Option R), iter 0 lv_16_4 lo_16_4 (aexec TT (E_16 (R := R) N) (drawAny TT WW) (L_16 N) (loopAt 4 (bodyOf Try.f16))) n (pt_16_4.inst x) k = l_16_4 N n x (fun y => k (.exit 0) (px_16_4_0.inst y)) :=
  iter_eq (K := Exit → St → Option R) (ks := fun k => k) (l := fun n (x : pt_16_4.den) k => l_16_4 N n x (fun y => k (.exit 0) (px_16_4_0.inst y))) (B := fun (rec : pt_16_4.den → Option R) (x : pt_16_4.den) k => B_16_4 N rec x (fun y => k (.exit 0) (px_16_4_0.inst y))) (fun _ _ => rfl) (fun _ _ _ => rfl) (fun n x k => step_16_4 N n x k)
theorem rounds_16_4 {R : Type} (N : Nat) : Rounds 0 TT (E_16 (R := R) N) (drawAny TT WW) (L_16 N) 4 (loopAt 4 (bodyOf Try.f16)) :=
  rounds_of (p := pt_16_4) (l := fun (x : pt_16_4.den) k => l_16_4 N N x (fun y => k (.exit 0) (px_16_4_0.inst y))) (fun s k => rfl) (fun x k => eq_16_4 N N x k)
theorem gstep_16_21 {R : Type} (q_49 : Tp_49 R) (q_50 : Tp_50 R) (q_18 : Tp_18 R) (q_20 : Tp_20 R) (m_16_4 : Tl_16_4 R) (m_16_21 : Tl_16_21 R) (m_16_16 : Tl_16_16 R) (m_16_12 : Tl_16_12 R) (m_16_25 : Tl_16_25 R) (n : Nat) (x : pt_16_21.den) (k : Exit → St → Option R) : iter 0 lv_16_21 lo_16_21 (aexec TT (EG_16 q_49 q_50 q_18 q_20) (drawAny TT WW) (LG_16 m_16_4 m_16_21 m_16_16 m_16_12 m_16_25) (loopAt 21 (bodyOf Try.f16))) (n + 1) (pt_16_21.inst x) k = C_16_21 q_49 q_50 q_18 q_20 m_16_4 m_16_21 m_16_16 m_16_12 m_16_25 (fun y => iter 0 lv_16_21 lo_16_21 (aexec TT (EG_16 q_49 q_50 q_18 q_20) (drawAny TT WW) (LG_16 m_16_4 m_16_21 m_16_16 m_16_12 m_16_25) (loopAt 21 (bodyOf Try.f16))) n (pt_16_21.inst y) k) x (fun y => k (.exit 6) (px_16_21_0.inst y)) := by kernel_rfl
theorem step_16_21 {R : Type} (N n : Nat) (x : pt_16_21.den) (k : Exit → St → Option R) : iter 0 lv_16_21 lo_16_21 (aexec TT (E_16 (R := R) N) (drawAny TT WW) (L_16 N) (loopAt 21 (bodyOf Try.f16))) (n + 1) (pt_16_21.inst x) k = B_16_21 N (fun y => iter 0 lv_16_21 lo_16_21 (aexec TT (E_16 (R := R) N) (drawAny TT WW) (L_16 N) (loopAt 21 (bodyOf Try.f16))) n (pt_16_21.inst y) k) x (fun y => k (.exit 6) (px_16_21_0.inst y)) := (gstep_16_21 (p_49 N) (p_50 N) (p_18 N) (p_20 N) (l_16_4 N N) (l_16_21 N N) (l_16_16 N N) (l_16_12 N N) (l_16_25 N N) n x k).trans (by kernel_rfl)
theorem eq_16_21 {R : Type} (N : Nat) : ∀ (n : Nat) (x : pt_16_21.den) (k : Exit → St → Option R), iter 0 lv_16_21 lo_16_21 (aexec TT (E_16 (R := R) N) (drawAny TT WW) (L_16 N) (loopAt 21 (bodyOf Try.f16))) n (pt_16_21.inst x) k = l_16_21 N n x (fun y => k (.exit 6) (px_16_21_0.inst y)) :=
  iter_eq (K := Exit → St → Option R) (ks := fun k => k) (l := fun n (x : pt_16_21.den) k => l_16_21 N n x (fun y => k (.exit 6) (px_16_21_0.inst y))) (B := fun (rec : pt_16_21.den → Option R) (x : pt_16_21.den) k => B_16_21 N rec x (fun y => k (.exit 6) (px_16_21_0.inst y))) (fun _ _ => rfl) (fun _ _ _ => rfl) (fun n x k => step_16_21 N n x k)
theorem rounds_16_21 {R : Type} (N : Nat) : Rounds 0 TT (E_16 (R := R) N) (drawAny TT WW) (L_16 N) 21 (loopAt 21 (bodyOf Try.f16)) :=
  rounds_of (p := pt_16_21) (l := fun (x : pt_16_21.den) k => l_16_21 N N x (fun y => k (.exit 6) (px_16_21_0.inst y))) (fun s k => rfl) (fun x k => eq_16_21 N N x k)
theorem gstep_16_16 {R : Type} (q_49 : Tp_49 R) (q_50 : Tp_50 R) (q_18 : Tp_18 R) (q_20 : Tp_20 R) (m_16_4 : Tl_16_4 R) (m_16_21 : Tl_16_21 R) (m_16_16 : Tl_16_16 R) (m_16_12 : Tl_16_12 R) (m_16_25 : Tl_16_25 R) (n : Nat) (x : pt_16_16.den) (k : Exit → St → Option R) : iter 0 lv_16_16 lo_16_16 (aexec TT (EG_16 q_49 q_50 q_18 q_20) (drawAny TT WW) (LG_16 m_16_4 m_16_21 m_16_16 m_16_12 m_16_25) (loopAt 16 (bodyOf Try.f16))) (n + 1) (pt_16_16.inst x) k = C_16_16 q_49 q_50 q_18 q_20 m_16_4 m_16_21 m_16_16 m_16_12 m_16_25 (fun y => iter 0 lv_16_16 lo_16_16 (aexec TT (EG_16 q_49 q_50 q_18 q_20) (drawAny TT WW) (LG_16 m_16_4 m_16_21 m_16_16 m_16_12 m_16_25) (loopAt 16 (bodyOf Try.f16))) n (pt_16_16.inst y) k) x (fun y => k (.exit 4) (px_16_16_0.inst y)) := by kernel_rfl
theorem step_16_16 {R : Type} (N n : Nat) (x : pt_16_16.den) (k : Exit → St → Option R) : iter 0 lv_16_16 lo_16_16 (aexec TT (E_16 (R := R) N) (drawAny TT WW) (L_16 N) (loopAt 16 (bodyOf Try.f16))) (n + 1) (pt_16_16.inst x) k = B_16_16 N (fun y => iter 0 lv_16_16 lo_16_16 (aexec TT (E_16 (R := R) N) (drawAny TT WW) (L_16 N) (loopAt 16 (bodyOf Try.f16))) n (pt_16_16.inst y) k) x (fun y => k (.exit 4) (px_16_16_0.inst y)) := (gstep_16_16 (p_49 N) (p_50 N) (p_18 N) (p_20 N) (l_16_4 N N) (l_16_21 N N) (l_16_16 N N) (l_16_12 N N) (l_16_25 N N) n x k).trans (by kernel_rfl)
theorem eq_16_16 {R : Type} (N : Nat) : ∀ (n : Nat) (x : pt_16_16.den) (k : Exit → St → Option R), iter 0 lv_16_16 lo_16_16 (aexec TT (E_16 (R := R) N) (drawAny TT WW) (L_16 N) (loopAt 16 (bodyOf Try.f16))) n (pt_16_16.inst x) k = l_16_16 N n x (fun y => k (.exit 4) (px_16_16_0.inst y)) :=
  iter_eq (K := Exit → St → Option R) (ks := fun k => k) (l := fun n (x : pt_16_16.den) k => l_16_16 N n x (fun y => k (.exit 4) (px_16_16_0.inst y))) (B := fun (rec : pt_16_16.den → Option R) (x : pt_16_16.den) k => B_16_16 N rec x (fun y => k (.exit 4) (px_16_16_0.inst y))) (fun _ _ => rfl) (fun _ _ _ => rfl) (fun n x k => step_16_16 N n x k)
theorem rounds_16_16 {R : Type} (N : Nat) : Rounds 0 TT (E_16 (R := R) N) (drawAny TT WW) (L_16 N) 16 (loopAt 16 (bodyOf Try.f16)) :=
  rounds_of (p := pt_16_16) (l := fun (x : pt_16_16.den) k => l_16_16 N N x (fun y => k (.exit 4) (px_16_16_0.inst y))) (fun s k => rfl) (fun x k => eq_16_16 N N x k)
theorem gstep_16_12 {R : Type} (q_49 : Tp_49 R) (q_50 : Tp_50 R) (q_18 : Tp_18 R) (q_20 : Tp_20 R) (m_16_4 : Tl_16_4 R) (m_16_21 : Tl_16_21 R) (m_16_16 : Tl_16_16 R) (m_16_12 : Tl_16_12 R) (m_16_25 : Tl_16_25 R) (n : Nat) (x : pt_16_12.den) (k : Exit → St → Option R) : iter 0 lv_16_12 lo_16_12 (aexec TT (EG_16 q_49 q_50 q_18 q_20) (drawAny TT WW) (LG_16 m_16_4 m_16_21 m_16_16 m_16_12 m_16_25) (loopAt 12 (bodyOf Try.f16))) (n + 1) (pt_16_12.inst x) k = C_16_12 q_49 q_50 q_18 q_20 m_16_4 m_16_21 m_16_16 m_16_12 m_16_25 (fun y => iter 0 lv_16_12 lo_16_12 (aexec TT (EG_16 q_49 q_50 q_18 q_20) (drawAny TT WW) (LG_16 m_16_4 m_16_21 m_16_16 m_16_12 m_16_25) (loopAt 12 (bodyOf Try.f16))) n (pt_16_12.inst y) k) x (fun y => k (.exit 2) (px_16_12_0.inst y)) := by kernel_rfl
theorem step_16_12 {R : Type} (N n : Nat) (x : pt_16_12.den) (k : Exit → St → Option R) : iter 0 lv_16_12 lo_16_12 (aexec TT (E_16 (R := R) N) (drawAny TT WW) (L_16 N) (loopAt 12 (bodyOf Try.f16))) (n + 1) (pt_16_12.inst x) k = B_16_12 N (fun y => iter 0 lv_16_12 lo_16_12 (aexec TT (E_16 (R := R) N) (drawAny TT WW) (L_16 N) (loopAt 12 (bodyOf Try.f16))) n (pt_16_12.inst y) k) x (fun y => k (.exit 2) (px_16_12_0.inst y)) := (gstep_16_12 (p_49 N) (p_50 N) (p_18 N) (p_20 N) (l_16_4 N N) (l_16_21 N N) (l_16_16 N N) (l_16_12 N N) (l_16_25 N N) n x k).trans (by kernel_rfl)
theorem eq_16_12 {R : Type} (N : Nat) : ∀ (n : Nat) (x : pt_16_12.den) (k : Exit → St → Option R), iter 0 lv_16_12 lo_16_12 (aexec TT (E_16 (R := R) N) (drawAny TT WW) (L_16 N) (loopAt 12 (bodyOf Try.f16))) n (pt_16_12.inst x) k = l_16_12 N n x (fun y => k (.exit 2) (px_16_12_0.inst y)) :=
  iter_eq (K := Exit → St → Option R) (ks := fun k => k) (l := fun n (x : pt_16_12.den) k => l_16_12 N n x (fun y => k (.exit 2) (px_16_12_0.inst y))) (B := fun (rec : pt_16_12.den → Option R) (x : pt_16_12.den) k => B_16_12 N rec x (fun y => k (.exit 2) (px_16_12_0.inst y))) (fun _ _ => rfl) (fun _ _ _ => rfl) (fun n x k => step_16_12 N n x k)
theorem rounds_16_12 {R : Type} (N : Nat) : Rounds 0 TT (E_16 (R := R) N) (drawAny TT WW) (L_16 N) 12 (loopAt 12 (bodyOf Try.f16)) :=
  rounds_of (p := pt_16_12) (l := fun (x : pt_16_12.den) k => l_16_12 N N x (fun y => k (.exit 2) (px_16_12_0.inst y))) (fun s k => rfl) (fun x k => eq_16_12 N N x k)
theorem gstep_16_25 {R : Type} (q_49 : Tp_49 R) (q_50 : Tp_50 R) (q_18 : Tp_18 R) (q_20 : Tp_20 R) (m_16_4 : Tl_16_4 R) (m_16_21 : Tl_16_21 R) (m_16_16 : Tl_16_16 R) (m_16_12 : Tl_16_12 R) (m_16_25 : Tl_16_25 R) (n : Nat) (x : pt_16_25.den) (k : Exit → St → Option R) : iter 0 lv_16_25 lo_16_25 (aexec TT (EG_16 q_49 q_50 q_18 q_20) (drawAny TT WW) (LG_16 m_16_4 m_16_21 m_16_16 m_16_12 m_16_25) (loopAt 25 (bodyOf Try.f16))) (n + 1) (pt_16_25.inst x) k = C_16_25 q_49 q_50 q_18 q_20 m_16_4 m_16_21 m_16_16 m_16_12 m_16_25 (fun y => iter 0 lv_16_25 lo_16_25 (aexec TT (EG_16 q_49 q_50 q_18 q_20) (drawAny TT WW) (LG_16 m_16_4 m_16_21 m_16_16 m_16_12 m_16_25) (loopAt 25 (bodyOf Try.f16))) n (pt_16_25.inst y) k) x (fun y => k (.exit 8) (px_16_25_0.inst y)) := by kernel_rfl
theorem step_16_25 {R : Type} (N n : Nat) (x : pt_16_25.den) (k : Exit → St → Option R) : iter 0 lv_16_25 lo_16_25 (aexec TT (E_16 (R := R) N) (drawAny TT WW) (L_16 N) (loopAt 25 (bodyOf Try.f16))) (n + 1) (pt_16_25.inst x) k = B_16_25 N (fun y => iter 0 lv_16_25 lo_16_25 (aexec TT (E_16 (R := R) N) (drawAny TT WW) (L_16 N) (loopAt 25 (bodyOf Try.f16))) n (pt_16_25.inst y) k) x (fun y => k (.exit 8) (px_16_25_0.inst y)) := (gstep_16_25 (p_49 N) (p_50 N) (p_18 N) (p_20 N) (l_16_4 N N) (l_16_21 N N) (l_16_16 N N) (l_16_12 N N) (l_16_25 N N) n x k).trans (by kernel_rfl)
theorem eq_16_25 {R : Type} (N : Nat) : ∀ (n : Nat) (x : pt_16_25.den) (k : Exit → St → Option R), iter 0 lv_16_25 lo_16_25 (aexec TT (E_16 (R := R) N) (drawAny TT WW) (L_16 N) (loopAt 25 (bodyOf Try.f16))) n (pt_16_25.inst x) k = l_16_25 N n x (fun y => k (.exit 8) (px_16_25_0.inst y)) :=
  iter_eq (K := Exit → St → Option R) (ks := fun k => k) (l := fun n (x : pt_16_25.den) k => l_16_25 N n x (fun y => k (.exit 8) (px_16_25_0.inst y))) (B := fun (rec : pt_16_25.den → Option R) (x : pt_16_25.den) k => B_16_25 N rec x (fun y => k (.exit 8) (px_16_25_0.inst y))) (fun _ _ => rfl) (fun _ _ _ => rfl) (fun n x k => step_16_25 N n x k)
theorem rounds_16_25 {R : Type} (N : Nat) : Rounds 0 TT (E_16 (R := R) N) (drawAny TT WW) (L_16 N) 25 (loopAt 25 (bodyOf Try.f16)) :=
  rounds_of (p := pt_16_25) (l := fun (x : pt_16_25.den) k => l_16_25 N N x (fun y => k (.exit 8) (px_16_25_0.inst y))) (fun s k => rfl) (fun x k => eq_16_25 N N x k)
theorem loops_16 : loopsIn (bodyOf Try.f16) = [(4, loopAt 4 (bodyOf Try.f16)), (12, loopAt 12 (bodyOf Try.f16)), (16, loopAt 16 (bodyOf Try.f16)), (21, loopAt 21 (bodyOf Try.f16)), (25, loopAt 25 (bodyOf Try.f16))] := by kernel_rfl
theorem lok_16 {R : Type} (N : Nat) : LOK 0 TT (E_16 (R := R) N) (drawAny TT WW) (L_16 N) (bodyOf Try.f16) := loops_all loops_16 (by
  simp only [List.forall_mem_cons, List.not_mem_nil, false_implies, implies_true, and_true]
  exact ⟨rounds_16_4 N, rounds_16_12 N, rounds_16_16 N, rounds_16_21 N, rounds_16_25 N⟩)
theorem grun_16 {R : Type} (q_49 : Tp_49 R) (q_50 : Tp_50 R) (q_18 : Tp_18 R) (q_20 : Tp_20 R) (m_16_4 : Tl_16_4 R) (m_16_21 : Tl_16_21 R) (m_16_16 : Tl_16_16 R) (m_16_12 : Tl_16_12 R) (m_16_25 : Tl_16_25 R) (x : aden ap_16 × hden hp_16) (k : KF R) : fnrun TT (EG_16 q_49 q_50 q_18 q_20) (drawAny TT WW) (LG_16 m_16_4 m_16_21 m_16_16 m_16_12 m_16_25) true Try.f16 (instA ap_16 x.1) (instH hp_16 x.2) k = Q_16 q_49 q_50 q_18 q_20 m_16_4 m_16_21 m_16_16 m_16_12 m_16_25 x (fun y => k (Pat.inst (.vec (.int .u64) 8) y) (instH hp_16 x.2)) := by kernel_rfl
theorem run_16 {R : Type} (N : Nat) (x : aden ap_16 × hden hp_16) (k : KF R) : fnrun TT (E_16 (R := R) N) (drawAny TT WW) (L_16 N) true Try.f16 (instA ap_16 x.1) (instH hp_16 x.2) k = p_16 N x (fun y => k (Pat.inst (.vec (.int .u64) 8) y) (instH hp_16 x.2)) := (grun_16 (p_49 N) (p_50 N) (p_18 N) (p_20 N) (l_16_4 N N) (l_16_21 N N) (l_16_16 N N) (l_16_12 N N) (l_16_25 N N) x k).trans (by kernel_rfl)
theorem good_16 {R : Type} (N : Nat) : GD (X := R) Try.prog QQ 16 ap_16 hp_16 (fun (x : aden ap_16 × hden hp_16) k => p_16 N x (fun y => k (Pat.inst (.vec (.int .u64) 8) y) (instH hp_16 x.2))) :=
  gd_quiet (E := E_16 N) (p := fun (x : aden ap_16 × hden hp_16) κ => p_16 N x (fun y => κ (Pat.inst (.vec (.int .u64) 8) y))) mixed tyok (eok_16 N) Try.func16 (by kernel_rfl) (by kernel_rfl) (lok_16 N) (fun x k => run_16 N x k)

def ap_3 : List Pat := [.vec (.int .u64) 8, .ros (.int .u8), .int .u64, .bool]
def hp_3 : List (Option (Pat × Nat)) := []
def p_3 {R : Type} (N : Nat) (x : ((Nat → Int) × (List Int) × Int × Bool × Unit) × (Unit)) (κ0 : (Bool × (Unit)) → Option R) : Option R :=
let a1 : (Nat → Int) := x.1.1
let l2 : (List Int) := x.1.2.1
let i3 : Int := x.1.2.2.1
let b4 : Bool := x.1.2.2.2.1
p_11 N ((), ()) (fun y1136 =>
let b1137 : Bool := y1136
bif (!b1137) then (
κ0 (false, ())) else (
p_12 N ((a1, l2, i3, b4, ()), ()) (fun y1138 =>
let a1139 : (Nat → Int) := y1138.1
let i1140 : Int := y1138.2.1
let i1141 : Int := (((List.length l2) : Nat) : Int)
bif (i1141 != 128) then (
bif (i1140 == 9) then (
let a1142 : (Nat → Int) := (Sch.zero (.arr 8 (.int .u64)))
κ0 ((schEq (.arr 8 (.int .u64)) a1139 a1142), ())) else (
κ0 (false, ()))) else (
p_13 N ((), ()) (fun y1461 =>
let a1462 : (Nat → Int) := y1461
bif (i1140 == 0) then (
p_14 N ((), ()) (fun y1464 =>
let a1465 : (Nat → Int) := y1464
bif (schEq (.arr 8 (.int .u64)) a1462 a1465) then (
p_15 N ((), ()) (fun y1466 =>
let a1467 : (Nat → Int) := y1466
bif (schEq (.arr 8 (.int .u64)) a1467 a1462) then (
let s1468 : ByteArray := listStr l2
p_16 N ((a1462, a1, s1468, i3, b4, ()), ()) (fun y1829 =>
let a1830 : (Nat → Int) := y1829
κ0 ((schEq (.arr 8 (.int .u64)) a1139 a1830), ()))) else (
κ0 (false, ())))) else (
κ0 (false, ())))) else (
κ0 (false, ())))))))

abbrev Tp_3 (R : Type) : Type := ((Nat → Int) × (List Int) × Int × Bool × Unit) × (Unit) → ((Bool × (Unit)) → Option R) → Option R
def Q_3 {R : Type} (q_11 : Tp_11 R) (q_12 : Tp_12 R) (q_13 : Tp_13 R) (q_14 : Tp_14 R) (q_15 : Tp_15 R) (q_16 : Tp_16 R) (x : ((Nat → Int) × (List Int) × Int × Bool × Unit) × (Unit)) (κ0 : (Bool × (Unit)) → Option R) : Option R :=
let a1 : (Nat → Int) := x.1.1
let l2 : (List Int) := x.1.2.1
let i3 : Int := x.1.2.2.1
let b4 : Bool := x.1.2.2.2.1
q_11 ((), ()) (fun y1136 =>
let b1137 : Bool := y1136
bif (!b1137) then (
κ0 (false, ())) else (
q_12 ((a1, l2, i3, b4, ()), ()) (fun y1138 =>
let a1139 : (Nat → Int) := y1138.1
let i1140 : Int := y1138.2.1
let i1141 : Int := (((List.length l2) : Nat) : Int)
bif (i1141 != 128) then (
bif (i1140 == 9) then (
let a1142 : (Nat → Int) := (Sch.zero (.arr 8 (.int .u64)))
κ0 ((schEq (.arr 8 (.int .u64)) a1139 a1142), ())) else (
κ0 (false, ()))) else (
q_13 ((), ()) (fun y1461 =>
let a1462 : (Nat → Int) := y1461
bif (i1140 == 0) then (
q_14 ((), ()) (fun y1464 =>
let a1465 : (Nat → Int) := y1464
bif (schEq (.arr 8 (.int .u64)) a1462 a1465) then (
q_15 ((), ()) (fun y1466 =>
let a1467 : (Nat → Int) := y1466
bif (schEq (.arr 8 (.int .u64)) a1467 a1462) then (
let s1468 : ByteArray := listStr l2
q_16 ((a1462, a1, s1468, i3, b4, ()), ()) (fun y1829 =>
let a1830 : (Nat → Int) := y1829
κ0 ((schEq (.arr 8 (.int .u64)) a1139 a1830), ()))) else (
κ0 (false, ())))) else (
κ0 (false, ())))) else (
κ0 (false, ())))))))
def EG_3 {R : Type} (q_11 : Tp_11 R) (q_12 : Tp_12 R) (q_13 : Tp_13 R) (q_14 : Tp_14 R) (q_15 : Tp_15 R) (q_16 : Tp_16 R) : Env R := ((((((Env.base QQ LN).add 11 ap_11 hp_11 (fun (x : aden ap_11 × hden hp_11) k => q_11 x (fun y => k (Pat.inst (.bool) y) (instH hp_11 x.2)))).add 12 ap_12 hp_12 (fun (x : aden ap_12 × hden hp_12) k => q_12 x (fun y => k (Pat.inst (.tup (.fcons (.vec (.int .u64) 8) (.fcons (.int .i64) (.fnil)))) y) (instH hp_12 x.2)))).add 13 ap_13 hp_13 (fun (x : aden ap_13 × hden hp_13) k => q_13 x (fun y => k (Pat.inst (.vec (.int .u64) 8) y) (instH hp_13 x.2)))).add 14 ap_14 hp_14 (fun (x : aden ap_14 × hden hp_14) k => q_14 x (fun y => k (Pat.inst (.vec (.int .u64) 8) y) (instH hp_14 x.2)))).add 15 ap_15 hp_15 (fun (x : aden ap_15 × hden hp_15) k => q_15 x (fun y => k (Pat.inst (.vec (.int .u64) 8) y) (instH hp_15 x.2)))).add 16 ap_16 hp_16 (fun (x : aden ap_16 × hden hp_16) k => q_16 x (fun y => k (Pat.inst (.vec (.int .u64) 8) y) (instH hp_16 x.2)))
def LG_3 {R : Type} : Loops R := Loops.none
def E_3 {R : Type} (N : Nat) : Env R := EG_3 (p_11 N) (p_12 N) (p_13 N) (p_14 N) (p_15 N) (p_16 N)
theorem eok_3 {R : Type} (N : Nat) : EK Try.prog (E_3 (R := R) N) := ek_add (ek_add (ek_add (ek_add (ek_add (ek_add (ek_base _ _) (good_11 N)) (good_12 N)) (good_13 N)) (good_14 N)) (good_15 N)) (good_16 N)
def L_3 {R : Type} (N : Nat) : Loops R := LG_3
theorem lok_3 {R : Type} (N : Nat) : LOK 0 TT (E_3 (R := R) N) (drawAny TT WW) (L_3 N) (bodyOf Try.f3) := loops_nil (by kernel_rfl)
theorem grun_3 {R : Type} (q_11 : Tp_11 R) (q_12 : Tp_12 R) (q_13 : Tp_13 R) (q_14 : Tp_14 R) (q_15 : Tp_15 R) (q_16 : Tp_16 R) (x : aden ap_3 × hden hp_3) (k : KF R) : fnrun TT (EG_3 q_11 q_12 q_13 q_14 q_15 q_16) (drawAny TT WW) (LG_3) true Try.f3 (instA ap_3 x.1) (instH hp_3 x.2) k = Q_3 q_11 q_12 q_13 q_14 q_15 q_16 x (fun y => k (Pat.inst (.bool) y.1) (instH [] y.2)) := by kernel_rfl
theorem run_3 {R : Type} (N : Nat) (x : aden ap_3 × hden hp_3) (k : KF R) : fnrun TT (E_3 (R := R) N) (drawAny TT WW) (L_3 N) true Try.f3 (instA ap_3 x.1) (instH hp_3 x.2) k = p_3 N x (fun y => k (Pat.inst (.bool) y.1) (instH [] y.2)) := (grun_3 (p_11 N) (p_12 N) (p_13 N) (p_14 N) (p_15 N) (p_16 N) x k).trans (by kernel_rfl)
theorem good_3 {R : Type} (N : Nat) : GD (X := R) Try.prog QQ 3 ap_3 hp_3 (fun (x : aden ap_3 × hden hp_3) k => p_3 N x (fun y => k (Pat.inst (.bool) y.1) (instH [] y.2))) :=
  gd_loud (E := E_3 N) (p := fun (x : aden ap_3 × hden hp_3) k => p_3 N x (fun y => k (Pat.inst (.bool) y.1) (instH [] y.2))) mixed tyok (eok_3 N) Try.func3 (by kernel_rfl) (by kernel_rfl) (by kernel_rfl) (lok_3 N) (fun x k => run_3 N x k)

end Go.Proofs.Ytnfhngcdddjilaa.Eng
