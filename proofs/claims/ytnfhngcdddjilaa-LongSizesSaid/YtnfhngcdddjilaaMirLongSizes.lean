/-
Plain functions that the functions of the program are shown to come to, printed by a program of the prover; each with its proof.
Conditions: none.
-/
import Derived.Test.YtnfhngcdddjilaaMirLongSizesA
import Derived.KernelRfl
set_option linter.unusedVariables false
namespace Go.Proofs.Ytnfhngcdddjilaa.Eng
def lv_21_3 : Live := [(0, none), (3, none), (4, none)]
def pt_21_3 : SPat := ⟨[(0, .ros (.str)), (3, .int .i64), (4, .int .i64)], []⟩
def px_21_3_0 : SPat := ⟨[(3, .int .i64)], []⟩
def lo_21_3 : Exit → Live
  | .exit 0 => [(3, none)]
  | _ => []
def B_21_3 {R : Type} (N : Nat) (rec : (((List ByteArray) × Int × Int × Unit) × (Unit)) → Option R) (x : (((List ByteArray) × Int × Int × Unit) × (Unit))) (κ0 : ((Int × Unit) × (Unit)) → Option R) : Option R :=
let l1367 : (List ByteArray) := x.1.1
let i1368 : Int := x.1.2.1
let i1369 : Int := x.1.2.2.1
let i1370 : Int := (((List.length l1367) : Nat) : Int)
bif (decide (i1369 < i1370)) then (
bif decide (0 ≤ i1369) then (
bif decide (i1369 < ((List.length l1367) : Int)) then (
let p1371 : ByteArray := (List.getD l1367 ((Int.toNat i1369)) (Sch.zero (.str)))
let i1372 : Int := ((ByteArray.size p1371 : Nat) : Int)
let i1373 : Int := addA .i64 i1368 i1372
let i1374 : Int := addA .i64 i1369 1
rec ((l1367, i1373, i1374, ()), ())) else none) else none) else (
κ0 ((i1368, ()), ()))
def l_21_3 {R : Type} (N : Nat) : Nat → (((List ByteArray) × Int × Int × Unit) × (Unit)) → (((Int × Unit) × (Unit)) → Option R) → Option R
  | 0, _, _ => none
  | n + 1, x, κ0 => B_21_3 N (fun y => l_21_3 N n y κ0) x κ0
def ap_21 : List Pat := [.ros (.str)]
def hp_21 : List (Option (Pat × Nat)) := []
def p_21 {R : Type} (N : Nat) (x : ((List ByteArray) × Unit) × (Unit)) (κ0 : Int → Option R) : Option R :=
let l1366 : (List ByteArray) := x.1.1
l_21_3 N N ((l1366, 0, 0, ()), ()) (fun y1375 =>
let i1376 : Int := y1375.1.1
κ0 i1376)

abbrev Tl_21_3 (R : Type) : Type := (((List ByteArray) × Int × Int × Unit) × (Unit)) → (((Int × Unit) × (Unit)) → Option R) → Option R
abbrev Tp_21 (R : Type) : Type := ((List ByteArray) × Unit) × (Unit) → (Int → Option R) → Option R
def Q_21 {R : Type} (m_21_3 : Tl_21_3 R) (x : ((List ByteArray) × Unit) × (Unit)) (κ0 : Int → Option R) : Option R :=
let l1366 : (List ByteArray) := x.1.1
m_21_3 ((l1366, 0, 0, ()), ()) (fun y1375 =>
let i1376 : Int := y1375.1.1
κ0 i1376)
def C_21_3 {R : Type} (m_21_3 : Tl_21_3 R) (rec : (((List ByteArray) × Int × Int × Unit) × (Unit)) → Option R) (x : (((List ByteArray) × Int × Int × Unit) × (Unit))) (κ0 : ((Int × Unit) × (Unit)) → Option R) : Option R :=
let l1367 : (List ByteArray) := x.1.1
let i1368 : Int := x.1.2.1
let i1369 : Int := x.1.2.2.1
let i1370 : Int := (((List.length l1367) : Nat) : Int)
bif (decide (i1369 < i1370)) then (
bif decide (0 ≤ i1369) then (
bif decide (i1369 < ((List.length l1367) : Int)) then (
let p1371 : ByteArray := (List.getD l1367 ((Int.toNat i1369)) (Sch.zero (.str)))
let i1372 : Int := ((ByteArray.size p1371 : Nat) : Int)
let i1373 : Int := addA .i64 i1368 i1372
let i1374 : Int := addA .i64 i1369 1
rec ((l1367, i1373, i1374, ()), ())) else none) else none) else (
κ0 ((i1368, ()), ()))
def EG_21 {R : Type} : Env R := Env.base QQ LN
def LG_21 {R : Type} (m_21_3 : Tl_21_3 R) : Loops R := (Loops.none).add 3 (loopBy 0 lv_21_3 pt_21_3 (fun x k => m_21_3 x (fun y => k (.exit 0) (px_21_3_0.inst y))))
def E_21 {R : Type} (N : Nat) : Env R := EG_21
theorem eok_21 {R : Type} (N : Nat) : EK Try.prog (E_21 (R := R) N) := ek_base _ _
def L_21 {R : Type} (N : Nat) : Loops R := LG_21 (l_21_3 N N)
theorem gstep_21_3 {R : Type} (m_21_3 : Tl_21_3 R) (n : Nat) (x : pt_21_3.den) (k : Exit → St → Option R) : iter 0 lv_21_3 lo_21_3 (aexec TT (EG_21) (drawAny TT WW) (LG_21 m_21_3) (loopAt 3 (bodyOf Try.f21))) (n + 1) (pt_21_3.inst x) k = C_21_3 m_21_3 (fun y => iter 0 lv_21_3 lo_21_3 (aexec TT (EG_21) (drawAny TT WW) (LG_21 m_21_3) (loopAt 3 (bodyOf Try.f21))) n (pt_21_3.inst y) k) x (fun y => k (.exit 0) (px_21_3_0.inst y)) := by kernel_rfl
theorem step_21_3 {R : Type} (N n : Nat) (x : pt_21_3.den) (k : Exit → St → Option R) : iter 0 lv_21_3 lo_21_3 (aexec TT (E_21 (R := R) N) (drawAny TT WW) (L_21 N) (loopAt 3 (bodyOf Try.f21))) (n + 1) (pt_21_3.inst x) k = B_21_3 N (fun y => iter 0 lv_21_3 lo_21_3 (aexec TT (E_21 (R := R) N) (drawAny TT WW) (L_21 N) (loopAt 3 (bodyOf Try.f21))) n (pt_21_3.inst y) k) x (fun y => k (.exit 0) (px_21_3_0.inst y)) := (gstep_21_3 (l_21_3 N N) n x k).trans (by kernel_rfl)
theorem eq_21_3 {R : Type} (N : Nat) : ∀ (n : Nat) (x : pt_21_3.den) (k : Exit → St → Option R), iter 0 lv_21_3 lo_21_3 (aexec TT (E_21 (R := R) N) (drawAny TT WW) (L_21 N) (loopAt 3 (bodyOf Try.f21))) n (pt_21_3.inst x) k = l_21_3 N n x (fun y => k (.exit 0) (px_21_3_0.inst y)) :=
  iter_eq (K := Exit → St → Option R) (ks := fun k => k) (l := fun n (x : pt_21_3.den) k => l_21_3 N n x (fun y => k (.exit 0) (px_21_3_0.inst y))) (B := fun (rec : pt_21_3.den → Option R) (x : pt_21_3.den) k => B_21_3 N rec x (fun y => k (.exit 0) (px_21_3_0.inst y))) (fun _ _ => rfl) (fun _ _ _ => rfl) (fun n x k => step_21_3 N n x k)
theorem rounds_21_3 {R : Type} (N : Nat) : Rounds 0 TT (E_21 (R := R) N) (drawAny TT WW) (L_21 N) 3 (loopAt 3 (bodyOf Try.f21)) :=
  rounds_of (p := pt_21_3) (l := fun (x : pt_21_3.den) k => l_21_3 N N x (fun y => k (.exit 0) (px_21_3_0.inst y))) (fun s k => rfl) (fun x k => eq_21_3 N N x k)
theorem loops_21 : loopsIn (bodyOf Try.f21) = [(3, loopAt 3 (bodyOf Try.f21))] := by kernel_rfl
theorem lok_21 {R : Type} (N : Nat) : LOK 0 TT (E_21 (R := R) N) (drawAny TT WW) (L_21 N) (bodyOf Try.f21) := loops_all loops_21 (by
  simp only [List.forall_mem_cons, List.not_mem_nil, false_implies, implies_true, and_true]
  exact rounds_21_3 N)
theorem grun_21 {R : Type} (m_21_3 : Tl_21_3 R) (x : aden ap_21 × hden hp_21) (k : KF R) : fnrun TT (EG_21) (drawAny TT WW) (LG_21 m_21_3) true Try.f21 (instA ap_21 x.1) (instH hp_21 x.2) k = Q_21 m_21_3 x (fun y => k (Pat.inst (.int .i64) y) (instH hp_21 x.2)) := by kernel_rfl
theorem run_21 {R : Type} (N : Nat) (x : aden ap_21 × hden hp_21) (k : KF R) : fnrun TT (E_21 (R := R) N) (drawAny TT WW) (L_21 N) true Try.f21 (instA ap_21 x.1) (instH hp_21 x.2) k = p_21 N x (fun y => k (Pat.inst (.int .i64) y) (instH hp_21 x.2)) := (grun_21 (l_21_3 N N) x k).trans (by kernel_rfl)
theorem good_21 {R : Type} (N : Nat) : GD (X := R) Try.prog QQ 21 ap_21 hp_21 (fun (x : aden ap_21 × hden hp_21) k => p_21 N x (fun y => k (Pat.inst (.int .i64) y) (instH hp_21 x.2))) :=
  gd_quiet (E := E_21 N) (p := fun (x : aden ap_21 × hden hp_21) κ => p_21 N x (fun y => κ (Pat.inst (.int .i64) y))) mixed tyok (eok_21 N) Try.func21 (by kernel_rfl) (by kernel_rfl) (lok_21 N) (fun x k => run_21 N x k)

def ap_26_v3 : List Pat := [.nilp, .ros (.str)]
def hp_26_v3 : List (Option (Pat × Nat)) := []
def p_26_v3 {R : Type} (N : Nat) (x : (Unit × (List ByteArray) × Unit) × (Unit)) (κ0 : (Unit × (Unit)) → Option R) : Option R :=
let l1393 : (List ByteArray) := x.1.2.1
κ0 ((), ())

abbrev Tp_26_v3 (R : Type) : Type := (Unit × (List ByteArray) × Unit) × (Unit) → ((Unit × (Unit)) → Option R) → Option R
def Q_26_v3 {R : Type} (x : (Unit × (List ByteArray) × Unit) × (Unit)) (κ0 : (Unit × (Unit)) → Option R) : Option R :=
let l1393 : (List ByteArray) := x.1.2.1
κ0 ((), ())
def EG_26_v3 {R : Type} : Env R := Env.base QQ LN
def LG_26_v3 {R : Type} : Loops R := Loops.none
def E_26_v3 {R : Type} (N : Nat) : Env R := EG_26_v3
theorem eok_26_v3 {R : Type} (N : Nat) : EK Try.prog (E_26_v3 (R := R) N) := ek_base _ _
def L_26_v3 {R : Type} (N : Nat) : Loops R := LG_26_v3
theorem loops_26_v3 : loopsIn (bodyOf Try.f26) = [(4, loopAt 4 (bodyOf Try.f26))] := by kernel_rfl
theorem lok_26_v3 {R : Type} (N : Nat) : LOK 0 TT (E_26_v3 (R := R) N) (drawAny TT WW) (L_26_v3 N) (bodyOf Try.f26) := loops_all loops_26_v3 (by
  simp only [List.forall_mem_cons, List.not_mem_nil, false_implies, implies_true, and_true]
  exact rounds_none (fun _ _ => rfl))
theorem grun_26_v3 {R : Type} (x : aden ap_26_v3 × hden hp_26_v3) (k : KF R) : fnrun TT (EG_26_v3) (drawAny TT WW) (LG_26_v3) true Try.f26 (instA ap_26_v3 x.1) (instH hp_26_v3 x.2) k = Q_26_v3 x (fun y => k (Pat.inst (.nilp) y.1) (instH [] y.2)) := by kernel_rfl
theorem run_26_v3 {R : Type} (N : Nat) (x : aden ap_26_v3 × hden hp_26_v3) (k : KF R) : fnrun TT (E_26_v3 (R := R) N) (drawAny TT WW) (L_26_v3 N) true Try.f26 (instA ap_26_v3 x.1) (instH hp_26_v3 x.2) k = p_26_v3 N x (fun y => k (Pat.inst (.nilp) y.1) (instH [] y.2)) := (grun_26_v3 x k).trans (by kernel_rfl)
theorem good_26_v3 {R : Type} (N : Nat) : GD (X := R) Try.prog QQ 26 ap_26_v3 hp_26_v3 (fun (x : aden ap_26_v3 × hden hp_26_v3) k => p_26_v3 N x (fun y => k (Pat.inst (.nilp) y.1) (instH [] y.2))) :=
  gd_loud (E := E_26_v3 N) (p := fun (x : aden ap_26_v3 × hden hp_26_v3) k => p_26_v3 N x (fun y => k (Pat.inst (.nilp) y.1) (instH [] y.2))) mixed tyok (eok_26_v3 N) Try.func26 (by kernel_rfl) (by kernel_rfl) (by kernel_rfl) (lok_26_v3 N) (fun x k => run_26_v3 N x k)

def ap_57_v2 : List Pat := [.nilp, .ros (.str)]
def hp_57_v2 : List (Option (Pat × Nat)) := []
def p_57_v2 {R : Type} (N : Nat) (x : (Unit × (List ByteArray) × Unit) × (Unit)) (κ0 : ((List (List Int)) × (Unit)) → Option R) : Option R :=
let l1445 : (List ByteArray) := x.1.2.1
κ0 ([], ())

abbrev Tp_57_v2 (R : Type) : Type := (Unit × (List ByteArray) × Unit) × (Unit) → (((List (List Int)) × (Unit)) → Option R) → Option R
def Q_57_v2 {R : Type} (x : (Unit × (List ByteArray) × Unit) × (Unit)) (κ0 : ((List (List Int)) × (Unit)) → Option R) : Option R :=
let l1445 : (List ByteArray) := x.1.2.1
κ0 ([], ())
def EG_57_v2 {R : Type} : Env R := Env.base QQ LN
def LG_57_v2 {R : Type} : Loops R := Loops.none
def E_57_v2 {R : Type} (N : Nat) : Env R := EG_57_v2
theorem eok_57_v2 {R : Type} (N : Nat) : EK Try.prog (E_57_v2 (R := R) N) := ek_base _ _
def L_57_v2 {R : Type} (N : Nat) : Loops R := LG_57_v2
theorem loops_57_v2 : loopsIn (bodyOf Try.f57) = [(5, loopAt 5 (bodyOf Try.f57)), (9, loopAt 9 (bodyOf Try.f57))] := by kernel_rfl
theorem lok_57_v2 {R : Type} (N : Nat) : LOK 0 TT (E_57_v2 (R := R) N) (drawAny TT WW) (L_57_v2 N) (bodyOf Try.f57) := loops_all loops_57_v2 (by
  simp only [List.forall_mem_cons, List.not_mem_nil, false_implies, implies_true, and_true]
  exact ⟨rounds_none (fun _ _ => rfl), rounds_none (fun _ _ => rfl)⟩)
theorem grun_57_v2 {R : Type} (x : aden ap_57_v2 × hden hp_57_v2) (k : KF R) : fnrun TT (EG_57_v2) (drawAny TT WW) (LG_57_v2) true Try.f57 (instA ap_57_v2 x.1) (instH hp_57_v2 x.2) k = Q_57_v2 x (fun y => k (Pat.inst (.ros (.sl (.int .u8))) y.1) (instH [] y.2)) := by kernel_rfl
theorem run_57_v2 {R : Type} (N : Nat) (x : aden ap_57_v2 × hden hp_57_v2) (k : KF R) : fnrun TT (E_57_v2 (R := R) N) (drawAny TT WW) (L_57_v2 N) true Try.f57 (instA ap_57_v2 x.1) (instH hp_57_v2 x.2) k = p_57_v2 N x (fun y => k (Pat.inst (.ros (.sl (.int .u8))) y.1) (instH [] y.2)) := (grun_57_v2 x k).trans (by kernel_rfl)
theorem good_57_v2 {R : Type} (N : Nat) : GD (X := R) Try.prog QQ 57 ap_57_v2 hp_57_v2 (fun (x : aden ap_57_v2 × hden hp_57_v2) k => p_57_v2 N x (fun y => k (Pat.inst (.ros (.sl (.int .u8))) y.1) (instH [] y.2))) :=
  gd_loud (E := E_57_v2 N) (p := fun (x : aden ap_57_v2 × hden hp_57_v2) k => p_57_v2 N x (fun y => k (Pat.inst (.ros (.sl (.int .u8))) y.1) (instH [] y.2))) mixed tyok (eok_57_v2 N) Try.func57 (by kernel_rfl) (by kernel_rfl) (by kernel_rfl) (lok_57_v2 N) (fun x k => run_57_v2 N x k)

def lv_26_v4_4 : Live := [(0, none), (14, none), (15, none), (16, none)]
def pt_26_v4_4 : SPat := ⟨[(0, .ptr 0 []), (14, .ros (.sl (.int .u8))), (15, .int .i64), (16, .int .i64)], [some (.node (.fcons (.nilp) (.fcons (.vec (.int .u64) 8) (.fcons (.int .i64) (.fcons (.int .u64) (.fnil))))), 115)]⟩
def px_26_v4_4_0 : SPat := ⟨[(0, .ptr 0 [])], [some (.node (.fcons (.nilp) (.fcons (.vec (.int .u64) 8) (.fcons (.int .i64) (.fcons (.int .u64) (.fnil))))), 115)]⟩
def lo_26_v4_4 : Exit → Live
  | .exit 0 => [(0, none)]
  | _ => []
def B_26_v4_4 {R : Type} (N : Nat) (rec : ((Unit × (List (List Int)) × Int × Int × Unit) × ((Unit × ((Nat → Int) × (Int × (Int × Unit)))) × Unit)) → Option R) (x : ((Unit × (List (List Int)) × Int × Int × Unit) × ((Unit × ((Nat → Int) × (Int × (Int × Unit)))) × Unit))) (κ0 : ((Unit × Unit) × ((Unit × ((Nat → Int) × (Int × (Int × Unit)))) × Unit)) → Option R) : Option R :=
let l1449 : (List (List Int)) := x.1.2.1
let i1450 : Int := x.1.2.2.1
let i1451 : Int := x.1.2.2.2.1
let a1452 : (Nat → Int) := x.2.1.2.1
let i1453 : Int := x.2.1.2.2.1
let i1454 : Int := x.2.1.2.2.2.1
bif (decide (i1451 < i1450)) then (
bif decide (0 ≤ i1451) then (
bif decide (i1451 < ((List.length l1449) : Int)) then (
let p1455 : (List Int) := (List.getD l1449 ((Int.toNat i1451)) (Sch.zero (.sl (.int .u8))))
let i1456 : Int := addA .u64 i1454 128
p_12 N ((a1452, p1455, i1456, false, ()), ()) (fun y1457 =>
let a1458 : (Nat → Int) := y1457.1
let i1459 : Int := y1457.2.1
let i1460 : Int := addA .i64 i1451 1
rec (((), l1449, i1450, i1460, ()), (((), (a1458, (i1453, (i1456, ())))), ())))) else none) else none) else (
κ0 (((), ()), (((), (a1452, (i1453, (i1454, ())))), ())))
def l_26_v4_4 {R : Type} (N : Nat) : Nat → ((Unit × (List (List Int)) × Int × Int × Unit) × ((Unit × ((Nat → Int) × (Int × (Int × Unit)))) × Unit)) → (((Unit × Unit) × ((Unit × ((Nat → Int) × (Int × (Int × Unit)))) × Unit)) → Option R) → Option R
  | 0, _, _ => none
  | n + 1, x, κ0 => B_26_v4_4 N (fun y => l_26_v4_4 N n y κ0) x κ0
def ap_26_v4 : List Pat := [.ptr 0 [], .ros (.str)]
def hp_26_v4 : List (Option (Pat × Nat)) := [some (.node (.fcons (.nilp) (.fcons (.vec (.int .u64) 8) (.fcons (.int .i64) (.fcons (.int .u64) (.fnil))))), 115)]
def p_26_v4 {R : Type} (N : Nat) (x : (Unit × (List ByteArray) × Unit) × ((Unit × ((Nat → Int) × (Int × (Int × Unit)))) × Unit)) (κ0 : (Unit × ((Unit × ((Nat → Int) × (Int × (Int × Unit)))) × Unit)) → Option R) : Option R :=
let l1441 : (List ByteArray) := x.1.2.1
let a1442 : (Nat → Int) := x.2.1.2.1
let i1443 : Int := x.2.1.2.2.1
let i1444 : Int := x.2.1.2.2.2.1
p_57_v2 N (((), l1441, ()), ()) (fun y1446 =>
let l1447 : (List (List Int)) := y1446.1
let i1448 : Int := (((List.length l1447) : Nat) : Int)
l_26_v4_4 N N (((), l1447, i1448, 0, ()), (((), (a1442, (i1443, (i1444, ())))), ())) (fun y1461 =>
let a1462 : (Nat → Int) := y1461.2.1.2.1
let i1463 : Int := y1461.2.1.2.2.1
let i1464 : Int := y1461.2.1.2.2.2.1
κ0 ((), (((), (a1462, (i1463, (i1464, ())))), ()))))

abbrev Tl_26_v4_4 (R : Type) : Type := ((Unit × (List (List Int)) × Int × Int × Unit) × ((Unit × ((Nat → Int) × (Int × (Int × Unit)))) × Unit)) → (((Unit × Unit) × ((Unit × ((Nat → Int) × (Int × (Int × Unit)))) × Unit)) → Option R) → Option R
abbrev Tp_26_v4 (R : Type) : Type := (Unit × (List ByteArray) × Unit) × ((Unit × ((Nat → Int) × (Int × (Int × Unit)))) × Unit) → ((Unit × ((Unit × ((Nat → Int) × (Int × (Int × Unit)))) × Unit)) → Option R) → Option R
def Q_26_v4 {R : Type} (q_57_v2 : Tp_57_v2 R) (q_12 : Tp_12 R) (m_26_v4_4 : Tl_26_v4_4 R) (x : (Unit × (List ByteArray) × Unit) × ((Unit × ((Nat → Int) × (Int × (Int × Unit)))) × Unit)) (κ0 : (Unit × ((Unit × ((Nat → Int) × (Int × (Int × Unit)))) × Unit)) → Option R) : Option R :=
let l1441 : (List ByteArray) := x.1.2.1
let a1442 : (Nat → Int) := x.2.1.2.1
let i1443 : Int := x.2.1.2.2.1
let i1444 : Int := x.2.1.2.2.2.1
q_57_v2 (((), l1441, ()), ()) (fun y1446 =>
let l1447 : (List (List Int)) := y1446.1
let i1448 : Int := (((List.length l1447) : Nat) : Int)
m_26_v4_4 (((), l1447, i1448, 0, ()), (((), (a1442, (i1443, (i1444, ())))), ())) (fun y1461 =>
let a1462 : (Nat → Int) := y1461.2.1.2.1
let i1463 : Int := y1461.2.1.2.2.1
let i1464 : Int := y1461.2.1.2.2.2.1
κ0 ((), (((), (a1462, (i1463, (i1464, ())))), ()))))
def C_26_v4_4 {R : Type} (q_57_v2 : Tp_57_v2 R) (q_12 : Tp_12 R) (m_26_v4_4 : Tl_26_v4_4 R) (rec : ((Unit × (List (List Int)) × Int × Int × Unit) × ((Unit × ((Nat → Int) × (Int × (Int × Unit)))) × Unit)) → Option R) (x : ((Unit × (List (List Int)) × Int × Int × Unit) × ((Unit × ((Nat → Int) × (Int × (Int × Unit)))) × Unit))) (κ0 : ((Unit × Unit) × ((Unit × ((Nat → Int) × (Int × (Int × Unit)))) × Unit)) → Option R) : Option R :=
let l1449 : (List (List Int)) := x.1.2.1
let i1450 : Int := x.1.2.2.1
let i1451 : Int := x.1.2.2.2.1
let a1452 : (Nat → Int) := x.2.1.2.1
let i1453 : Int := x.2.1.2.2.1
let i1454 : Int := x.2.1.2.2.2.1
bif (decide (i1451 < i1450)) then (
bif decide (0 ≤ i1451) then (
bif decide (i1451 < ((List.length l1449) : Int)) then (
let p1455 : (List Int) := (List.getD l1449 ((Int.toNat i1451)) (Sch.zero (.sl (.int .u8))))
let i1456 : Int := addA .u64 i1454 128
q_12 ((a1452, p1455, i1456, false, ()), ()) (fun y1457 =>
let a1458 : (Nat → Int) := y1457.1
let i1459 : Int := y1457.2.1
let i1460 : Int := addA .i64 i1451 1
rec (((), l1449, i1450, i1460, ()), (((), (a1458, (i1453, (i1456, ())))), ())))) else none) else none) else (
κ0 (((), ()), (((), (a1452, (i1453, (i1454, ())))), ())))
def EG_26_v4 {R : Type} (q_57_v2 : Tp_57_v2 R) (q_12 : Tp_12 R) : Env R := ((Env.base QQ LN).add 57 ap_57_v2 hp_57_v2 (fun (x : aden ap_57_v2 × hden hp_57_v2) k => q_57_v2 x (fun y => k (Pat.inst (.ros (.sl (.int .u8))) y.1) (instH [] y.2)))).add 12 ap_12 hp_12 (fun (x : aden ap_12 × hden hp_12) k => q_12 x (fun y => k (Pat.inst (.tup (.fcons (.vec (.int .u64) 8) (.fcons (.int .i64) (.fnil)))) y) (instH hp_12 x.2)))
def LG_26_v4 {R : Type} (m_26_v4_4 : Tl_26_v4_4 R) : Loops R := (Loops.none).add 4 (loopBy 1 lv_26_v4_4 pt_26_v4_4 (fun x k => m_26_v4_4 x (fun y => k (.exit 0) (px_26_v4_4_0.inst y))))
def E_26_v4 {R : Type} (N : Nat) : Env R := EG_26_v4 (p_57_v2 N) (p_12 N)
theorem eok_26_v4 {R : Type} (N : Nat) : EK Try.prog (E_26_v4 (R := R) N) := ek_add (ek_add (ek_base _ _) (good_57_v2 N)) (good_12 N)
def L_26_v4 {R : Type} (N : Nat) : Loops R := LG_26_v4 (l_26_v4_4 N N)
theorem gstep_26_v4_4 {R : Type} (q_57_v2 : Tp_57_v2 R) (q_12 : Tp_12 R) (m_26_v4_4 : Tl_26_v4_4 R) (n : Nat) (x : pt_26_v4_4.den) (k : Exit → St → Option R) : iter 1 lv_26_v4_4 lo_26_v4_4 (aexec TT (EG_26_v4 q_57_v2 q_12) (drawAny TT WW) (LG_26_v4 m_26_v4_4) (loopAt 4 (bodyOf Try.f26))) (n + 1) (pt_26_v4_4.inst x) k = C_26_v4_4 q_57_v2 q_12 m_26_v4_4 (fun y => iter 1 lv_26_v4_4 lo_26_v4_4 (aexec TT (EG_26_v4 q_57_v2 q_12) (drawAny TT WW) (LG_26_v4 m_26_v4_4) (loopAt 4 (bodyOf Try.f26))) n (pt_26_v4_4.inst y) k) x (fun y => k (.exit 0) (px_26_v4_4_0.inst y)) := by kernel_rfl
theorem step_26_v4_4 {R : Type} (N n : Nat) (x : pt_26_v4_4.den) (k : Exit → St → Option R) : iter 1 lv_26_v4_4 lo_26_v4_4 (aexec TT (E_26_v4 (R := R) N) (drawAny TT WW) (L_26_v4 N) (loopAt 4 (bodyOf Try.f26))) (n + 1) (pt_26_v4_4.inst x) k = B_26_v4_4 N (fun y => iter 1 lv_26_v4_4 lo_26_v4_4 (aexec TT (E_26_v4 (R := R) N) (drawAny TT WW) (L_26_v4 N) (loopAt 4 (bodyOf Try.f26))) n (pt_26_v4_4.inst y) k) x (fun y => k (.exit 0) (px_26_v4_4_0.inst y)) := (gstep_26_v4_4 (p_57_v2 N) (p_12 N) (l_26_v4_4 N N) n x k).trans (by kernel_rfl)
theorem eq_26_v4_4 {R : Type} (N : Nat) : ∀ (n : Nat) (x : pt_26_v4_4.den) (k : Exit → St → Option R), iter 1 lv_26_v4_4 lo_26_v4_4 (aexec TT (E_26_v4 (R := R) N) (drawAny TT WW) (L_26_v4 N) (loopAt 4 (bodyOf Try.f26))) n (pt_26_v4_4.inst x) k = l_26_v4_4 N n x (fun y => k (.exit 0) (px_26_v4_4_0.inst y)) :=
  iter_eq (K := Exit → St → Option R) (ks := fun k => k) (l := fun n (x : pt_26_v4_4.den) k => l_26_v4_4 N n x (fun y => k (.exit 0) (px_26_v4_4_0.inst y))) (B := fun (rec : pt_26_v4_4.den → Option R) (x : pt_26_v4_4.den) k => B_26_v4_4 N rec x (fun y => k (.exit 0) (px_26_v4_4_0.inst y))) (fun _ _ => rfl) (fun _ _ _ => rfl) (fun n x k => step_26_v4_4 N n x k)
theorem rounds_26_v4_4 {R : Type} (N : Nat) : Rounds 1 TT (E_26_v4 (R := R) N) (drawAny TT WW) (L_26_v4 N) 4 (loopAt 4 (bodyOf Try.f26)) :=
  rounds_of (p := pt_26_v4_4) (l := fun (x : pt_26_v4_4.den) k => l_26_v4_4 N N x (fun y => k (.exit 0) (px_26_v4_4_0.inst y))) (fun s k => rfl) (fun x k => eq_26_v4_4 N N x k)
theorem loops_26_v4 : loopsIn (bodyOf Try.f26) = [(4, loopAt 4 (bodyOf Try.f26))] := by kernel_rfl
theorem lok_26_v4 {R : Type} (N : Nat) : LOK 1 TT (E_26_v4 (R := R) N) (drawAny TT WW) (L_26_v4 N) (bodyOf Try.f26) := loops_all loops_26_v4 (by
  simp only [List.forall_mem_cons, List.not_mem_nil, false_implies, implies_true, and_true]
  exact rounds_26_v4_4 N)
theorem grun_26_v4 {R : Type} (q_57_v2 : Tp_57_v2 R) (q_12 : Tp_12 R) (m_26_v4_4 : Tl_26_v4_4 R) (x : aden ap_26_v4 × hden hp_26_v4) (k : KF R) : fnrun TT (EG_26_v4 q_57_v2 q_12) (drawAny TT WW) (LG_26_v4 m_26_v4_4) true Try.f26 (instA ap_26_v4 x.1) (instH hp_26_v4 x.2) k = Q_26_v4 q_57_v2 q_12 m_26_v4_4 x (fun y => k (Pat.inst (.ptr 0 []) y.1) (instH [some (.node (.fcons (.nilp) (.fcons (.vec (.int .u64) 8) (.fcons (.int .i64) (.fcons (.int .u64) (.fnil))))), 115)] y.2)) := by kernel_rfl
theorem run_26_v4 {R : Type} (N : Nat) (x : aden ap_26_v4 × hden hp_26_v4) (k : KF R) : fnrun TT (E_26_v4 (R := R) N) (drawAny TT WW) (L_26_v4 N) true Try.f26 (instA ap_26_v4 x.1) (instH hp_26_v4 x.2) k = p_26_v4 N x (fun y => k (Pat.inst (.ptr 0 []) y.1) (instH [some (.node (.fcons (.nilp) (.fcons (.vec (.int .u64) 8) (.fcons (.int .i64) (.fcons (.int .u64) (.fnil))))), 115)] y.2)) := (grun_26_v4 (p_57_v2 N) (p_12 N) (l_26_v4_4 N N) x k).trans (by kernel_rfl)
theorem good_26_v4 {R : Type} (N : Nat) : GD (X := R) Try.prog QQ 26 ap_26_v4 hp_26_v4 (fun (x : aden ap_26_v4 × hden hp_26_v4) k => p_26_v4 N x (fun y => k (Pat.inst (.ptr 0 []) y.1) (instH [some (.node (.fcons (.nilp) (.fcons (.vec (.int .u64) 8) (.fcons (.int .i64) (.fcons (.int .u64) (.fnil))))), 115)] y.2))) :=
  gd_loud (E := E_26_v4 N) (p := fun (x : aden ap_26_v4 × hden hp_26_v4) k => p_26_v4 N x (fun y => k (Pat.inst (.ptr 0 []) y.1) (instH [some (.node (.fcons (.nilp) (.fcons (.vec (.int .u64) 8) (.fcons (.int .i64) (.fcons (.int .u64) (.fnil))))), 115)] y.2))) mixed tyok (eok_26_v4 N) Try.func26 (by kernel_rfl) (by kernel_rfl) (by kernel_rfl) (lok_26_v4 N) (fun x k => run_26_v4 N x k)

def lv_57_v3_9 : Live := [(0, none), (5, some (.sl (.int .u8), 24)), (17, none), (18, none), (19, none)]
def pt_57_v3_9 : SPat := ⟨[(0, .ptr 0 []), (5, .sl 3), (17, .ros (.str)), (18, .int .i64), (19, .int .i64)], [some (.node (.fcons (.int .i64) (.fcons (.bool) (.fcons (.sl 2) (.fcons (.int .i64) (.fnil))))), 151), none, some (.lst (.int .u8), 5), some (.lst (.sl (.int .u8)), 24)]⟩
def px_57_v3_9_0 : SPat := ⟨[(0, .ptr 0 []), (5, .sl 3), (17, .ros (.str)), (18, .int .i64), (19, .int .i64)], [some (.node (.fcons (.int .i64) (.fcons (.bool) (.fcons (.sl 2) (.fcons (.int .i64) (.fnil))))), 151), none, some (.lst (.int .u8), 5), some (.lst (.sl (.int .u8)), 24)]⟩
def lo_57_v3_9 : Exit → Live
  | .exit 2 => [(0, none), (5, none), (17, none), (18, none), (19, none)]
  | _ => []
def B_57_v3_9 {R : Type} (N : Nat) (rec : ((Unit × Unit × (List ByteArray) × Int × Int × Unit) × ((Int × (Bool × (Unit × (Int × Unit)))) × (List Int) × (List (List Int)) × Unit)) → Option R) (x : ((Unit × Unit × (List ByteArray) × Int × Int × Unit) × ((Int × (Bool × (Unit × (Int × Unit)))) × (List Int) × (List (List Int)) × Unit))) (κ0 : ((Unit × Unit × (List ByteArray) × Int × Int × Unit) × ((Int × (Bool × (Unit × (Int × Unit)))) × (List Int) × (List (List Int)) × Unit)) → Option R) : Option R :=
let l1635 : (List ByteArray) := x.1.2.2.1
let i1636 : Int := x.1.2.2.2.1
let i1637 : Int := x.1.2.2.2.2.1
let i1638 : Int := x.2.1.1
let b1639 : Bool := x.2.1.2.1
let i1640 : Int := x.2.1.2.2.2.1
let l1641 : (List Int) := x.2.2.1
let l1642 : (List (List Int)) := x.2.2.2.1
p_82 N (((), ()), ((i1638, (b1639, ((), (i1640, ())))), l1641, ())) (fun y1643 =>
let b1644 : Bool := y1643
bif b1644 then (
bif decide (0 ≤ i1638) then (
bif decide (i1638 ≤ (((List.length l1641) : Nat) : Int)) then (
bif decide (0 ≤ i1638) then (
bif decide (List.length ((List.take (((Int.toNat i1638) - 0)) (List.drop 0 l1641))) * 1 ≤ 140737488355328) then (
let l1645 : (List Int) := (List.take (((Int.toNat i1638) - 0)) (List.drop 0 l1641))
let l1646 : (List (List Int)) := [l1645]
bif (decide ((List.length l1642 + List.length l1646) * 24 ≤ 140737488355328) && true) then (
let l1647 : (List (List Int)) := (l1642 ++ l1646)
bif decide (0 ≤ (((List.length l1641) : Nat) : Int)) then (
bif decide ((((List.length l1641) : Nat) : Int) ≤ (((List.length l1641) : Nat) : Int)) then (
bif decide (0 ≤ i1638) then (
bif decide (i1638 ≤ (((List.length l1641) : Nat) : Int)) then (
bif decide (0 < ((List.length l1641) - (Int.toNat i1638))) then (
let l1648 : (List Int) := List.take (((List.length l1641) - (Int.toNat i1638))) (List.drop ((Int.toNat i1638)) l1641)
rec (((), (), l1635, i1636, i1637, ()), ((i1638, (b1639, ((), (i1640, ())))), l1648, l1647, ()))) else none) else none) else none) else none) else none) else none) else none) else none) else none) else none) else (
κ0 (((), (), l1635, i1636, i1637, ()), ((i1638, (b1639, ((), (i1640, ())))), l1641, l1642, ()))))
def l_57_v3_9 {R : Type} (N : Nat) : Nat → ((Unit × Unit × (List ByteArray) × Int × Int × Unit) × ((Int × (Bool × (Unit × (Int × Unit)))) × (List Int) × (List (List Int)) × Unit)) → (((Unit × Unit × (List ByteArray) × Int × Int × Unit) × ((Int × (Bool × (Unit × (Int × Unit)))) × (List Int) × (List (List Int)) × Unit)) → Option R) → Option R
  | 0, _, _ => none
  | n + 1, x, κ0 => B_57_v3_9 N (fun y => l_57_v3_9 N n y κ0) x κ0
def lv_57_v3_5 : Live := [(0, some (.fnil, 2)), (5, some (.sl (.int .u8), 24)), (17, none), (18, none), (19, none)]
def pt_57_v3_5 : SPat := ⟨[(0, .ptr 0 []), (5, .sl 3), (17, .ros (.str)), (18, .int .i64), (19, .int .i64)], [some (.node (.fcons (.int .i64) (.fcons (.bool) (.fcons (.sl 2) (.fcons (.int .i64) (.fnil))))), 151), none, some (.lst (.int .u8), 5), some (.lst (.sl (.int .u8)), 24)]⟩
def px_57_v3_5_0 : SPat := ⟨[(0, .ptr 0 []), (5, .sl 3)], [some (.node (.fcons (.int .i64) (.fcons (.bool) (.fcons (.sl 2) (.fcons (.int .i64) (.fnil))))), 151), none, some (.lst (.int .u8), 5), some (.lst (.sl (.int .u8)), 24)]⟩
def lo_57_v3_5 : Exit → Live
  | .exit 0 => [(0, none), (5, none)]
  | _ => []
def B_57_v3_5 {R : Type} (N : Nat) (rec : ((Unit × Unit × (List ByteArray) × Int × Int × Unit) × ((Int × (Bool × (Unit × (Int × Unit)))) × (List Int) × (List (List Int)) × Unit)) → Option R) (x : ((Unit × Unit × (List ByteArray) × Int × Int × Unit) × ((Int × (Bool × (Unit × (Int × Unit)))) × (List Int) × (List (List Int)) × Unit))) (κ0 : ((Unit × Unit × Unit) × ((Int × (Bool × (Unit × (Int × Unit)))) × (List Int) × (List (List Int)) × Unit)) → Option R) : Option R :=
let l1623 : (List ByteArray) := x.1.2.2.1
let i1624 : Int := x.1.2.2.2.1
let i1625 : Int := x.1.2.2.2.2.1
let i1626 : Int := x.2.1.1
let b1627 : Bool := x.2.1.2.1
let i1628 : Int := x.2.1.2.2.2.1
let l1629 : (List Int) := x.2.2.1
let l1630 : (List (List Int)) := x.2.2.2.1
bif (decide (i1625 < i1624)) then (
bif decide (0 ≤ i1625) then (
bif decide (i1625 < ((List.length l1623) : Int)) then (
let p1631 : ByteArray := (List.getD l1623 ((Int.toNat i1625)) (Sch.zero (.str)))
let i1632 : Int := ((ByteArray.size p1631 : Nat) : Int)
let i1633 : Int := addA .i64 i1628 i1632
bif (decide ((List.length l1629 + List.length (strList p1631)) * 1 ≤ 140737488355328) && true) then (
let l1634 : (List Int) := (l1629 ++ strList p1631)
l_57_v3_9 N N (((), (), l1623, i1624, i1625, ()), ((i1626, (b1627, ((), (i1633, ())))), l1634, l1630, ())) (fun y1649 =>
let l1650 : (List ByteArray) := y1649.1.2.2.1
let i1651 : Int := y1649.1.2.2.2.1
let i1652 : Int := y1649.1.2.2.2.2.1
let i1653 : Int := y1649.2.1.1
let b1654 : Bool := y1649.2.1.2.1
let i1655 : Int := y1649.2.1.2.2.2.1
let l1656 : (List Int) := y1649.2.2.1
let l1657 : (List (List Int)) := y1649.2.2.2.1
let i1658 : Int := addA .i64 i1652 1
rec (((), (), l1650, i1651, i1658, ()), ((i1653, (b1654, ((), (i1655, ())))), l1656, l1657, ())))) else none) else none) else none) else (
κ0 (((), (), ()), ((i1626, (b1627, ((), (i1628, ())))), l1629, l1630, ())))
def l_57_v3_5 {R : Type} (N : Nat) : Nat → ((Unit × Unit × (List ByteArray) × Int × Int × Unit) × ((Int × (Bool × (Unit × (Int × Unit)))) × (List Int) × (List (List Int)) × Unit)) → (((Unit × Unit × Unit) × ((Int × (Bool × (Unit × (Int × Unit)))) × (List Int) × (List (List Int)) × Unit)) → Option R) → Option R
  | 0, _, _ => none
  | n + 1, x, κ0 => B_57_v3_5 N (fun y => l_57_v3_5 N n y κ0) x κ0
def ap_57_v3 : List Pat := [.ptr 0 [], .ros (.str)]
def hp_57_v3 : List (Option (Pat × Nat)) := [some (.node (.fcons (.int .i64) (.fcons (.bool) (.fcons (.sl 1) (.fcons (.int .i64) (.fnil))))), 151), some (.lst (.int .u8), 5)]
def p_57_v3 {R : Type} (N : Nat) (x : (Unit × (List ByteArray) × Unit) × ((Int × (Bool × (Unit × (Int × Unit)))) × (List Int) × Unit)) (κ0 : ((List (List Int)) × ((Int × (Bool × (Unit × (Int × Unit)))) × (List Int) × Unit)) → Option R) (κ1 : ((List (List Int)) × ((Int × (Bool × (Unit × (Int × Unit)))) × (List Int) × Unit)) → Option R) : Option R :=
let l1534 : (List ByteArray) := x.1.2.1
let i1535 : Int := x.2.1.1
let b1536 : Bool := x.2.1.2.1
let i1537 : Int := x.2.1.2.2.2.1
let l1538 : (List Int) := x.2.2.1
bif (i1535 == 0) then (
κ0 ([], ((i1535, (b1536, ((), (i1537, ())))), l1538, ()))) else (
let i1539 : Int := (((List.length l1534) : Nat) : Int)
l_57_v3_5 N N (((), (), l1534, i1539, 0, ()), ((i1535, (b1536, ((), (i1537, ())))), l1538, [], ())) (fun y1659 =>
let i1660 : Int := y1659.2.1.1
let b1661 : Bool := y1659.2.1.2.1
let i1662 : Int := y1659.2.1.2.2.2.1
let l1663 : (List Int) := y1659.2.2.1
let l1664 : (List (List Int)) := y1659.2.2.2.1
bif decide (List.length l1663 * 1 ≤ 140737488355328) then (
κ1 (l1664, ((i1660, (b1661, ((), (i1662, ())))), l1663, ()))) else none))

abbrev Tl_57_v3_9 (R : Type) : Type := ((Unit × Unit × (List ByteArray) × Int × Int × Unit) × ((Int × (Bool × (Unit × (Int × Unit)))) × (List Int) × (List (List Int)) × Unit)) → (((Unit × Unit × (List ByteArray) × Int × Int × Unit) × ((Int × (Bool × (Unit × (Int × Unit)))) × (List Int) × (List (List Int)) × Unit)) → Option R) → Option R
abbrev Tl_57_v3_5 (R : Type) : Type := ((Unit × Unit × (List ByteArray) × Int × Int × Unit) × ((Int × (Bool × (Unit × (Int × Unit)))) × (List Int) × (List (List Int)) × Unit)) → (((Unit × Unit × Unit) × ((Int × (Bool × (Unit × (Int × Unit)))) × (List Int) × (List (List Int)) × Unit)) → Option R) → Option R
abbrev Tp_57_v3 (R : Type) : Type := (Unit × (List ByteArray) × Unit) × ((Int × (Bool × (Unit × (Int × Unit)))) × (List Int) × Unit) → (((List (List Int)) × ((Int × (Bool × (Unit × (Int × Unit)))) × (List Int) × Unit)) → Option R) → (((List (List Int)) × ((Int × (Bool × (Unit × (Int × Unit)))) × (List Int) × Unit)) → Option R) → Option R
def Q_57_v3 {R : Type} (q_82 : Tp_82 R) (m_57_v3_9 : Tl_57_v3_9 R) (m_57_v3_5 : Tl_57_v3_5 R) (x : (Unit × (List ByteArray) × Unit) × ((Int × (Bool × (Unit × (Int × Unit)))) × (List Int) × Unit)) (κ0 : ((List (List Int)) × ((Int × (Bool × (Unit × (Int × Unit)))) × (List Int) × Unit)) → Option R) (κ1 : ((List (List Int)) × ((Int × (Bool × (Unit × (Int × Unit)))) × (List Int) × Unit)) → Option R) : Option R :=
let l1534 : (List ByteArray) := x.1.2.1
let i1535 : Int := x.2.1.1
let b1536 : Bool := x.2.1.2.1
let i1537 : Int := x.2.1.2.2.2.1
let l1538 : (List Int) := x.2.2.1
bif (i1535 == 0) then (
κ0 ([], ((i1535, (b1536, ((), (i1537, ())))), l1538, ()))) else (
let i1539 : Int := (((List.length l1534) : Nat) : Int)
m_57_v3_5 (((), (), l1534, i1539, 0, ()), ((i1535, (b1536, ((), (i1537, ())))), l1538, [], ())) (fun y1659 =>
let i1660 : Int := y1659.2.1.1
let b1661 : Bool := y1659.2.1.2.1
let i1662 : Int := y1659.2.1.2.2.2.1
let l1663 : (List Int) := y1659.2.2.1
let l1664 : (List (List Int)) := y1659.2.2.2.1
bif decide (List.length l1663 * 1 ≤ 140737488355328) then (
κ1 (l1664, ((i1660, (b1661, ((), (i1662, ())))), l1663, ()))) else none))
def C_57_v3_9 {R : Type} (q_82 : Tp_82 R) (m_57_v3_9 : Tl_57_v3_9 R) (m_57_v3_5 : Tl_57_v3_5 R) (rec : ((Unit × Unit × (List ByteArray) × Int × Int × Unit) × ((Int × (Bool × (Unit × (Int × Unit)))) × (List Int) × (List (List Int)) × Unit)) → Option R) (x : ((Unit × Unit × (List ByteArray) × Int × Int × Unit) × ((Int × (Bool × (Unit × (Int × Unit)))) × (List Int) × (List (List Int)) × Unit))) (κ0 : ((Unit × Unit × (List ByteArray) × Int × Int × Unit) × ((Int × (Bool × (Unit × (Int × Unit)))) × (List Int) × (List (List Int)) × Unit)) → Option R) : Option R :=
let l1635 : (List ByteArray) := x.1.2.2.1
let i1636 : Int := x.1.2.2.2.1
let i1637 : Int := x.1.2.2.2.2.1
let i1638 : Int := x.2.1.1
let b1639 : Bool := x.2.1.2.1
let i1640 : Int := x.2.1.2.2.2.1
let l1641 : (List Int) := x.2.2.1
let l1642 : (List (List Int)) := x.2.2.2.1
q_82 (((), ()), ((i1638, (b1639, ((), (i1640, ())))), l1641, ())) (fun y1643 =>
let b1644 : Bool := y1643
bif b1644 then (
bif decide (0 ≤ i1638) then (
bif decide (i1638 ≤ (((List.length l1641) : Nat) : Int)) then (
bif decide (0 ≤ i1638) then (
bif decide (List.length ((List.take (((Int.toNat i1638) - 0)) (List.drop 0 l1641))) * 1 ≤ 140737488355328) then (
let l1645 : (List Int) := (List.take (((Int.toNat i1638) - 0)) (List.drop 0 l1641))
let l1646 : (List (List Int)) := [l1645]
bif (decide ((List.length l1642 + List.length l1646) * 24 ≤ 140737488355328) && true) then (
let l1647 : (List (List Int)) := (l1642 ++ l1646)
bif decide (0 ≤ (((List.length l1641) : Nat) : Int)) then (
bif decide ((((List.length l1641) : Nat) : Int) ≤ (((List.length l1641) : Nat) : Int)) then (
bif decide (0 ≤ i1638) then (
bif decide (i1638 ≤ (((List.length l1641) : Nat) : Int)) then (
bif decide (0 < ((List.length l1641) - (Int.toNat i1638))) then (
let l1648 : (List Int) := List.take (((List.length l1641) - (Int.toNat i1638))) (List.drop ((Int.toNat i1638)) l1641)
rec (((), (), l1635, i1636, i1637, ()), ((i1638, (b1639, ((), (i1640, ())))), l1648, l1647, ()))) else none) else none) else none) else none) else none) else none) else none) else none) else none) else none) else (
κ0 (((), (), l1635, i1636, i1637, ()), ((i1638, (b1639, ((), (i1640, ())))), l1641, l1642, ()))))
def C_57_v3_5 {R : Type} (q_82 : Tp_82 R) (m_57_v3_9 : Tl_57_v3_9 R) (m_57_v3_5 : Tl_57_v3_5 R) (rec : ((Unit × Unit × (List ByteArray) × Int × Int × Unit) × ((Int × (Bool × (Unit × (Int × Unit)))) × (List Int) × (List (List Int)) × Unit)) → Option R) (x : ((Unit × Unit × (List ByteArray) × Int × Int × Unit) × ((Int × (Bool × (Unit × (Int × Unit)))) × (List Int) × (List (List Int)) × Unit))) (κ0 : ((Unit × Unit × Unit) × ((Int × (Bool × (Unit × (Int × Unit)))) × (List Int) × (List (List Int)) × Unit)) → Option R) : Option R :=
let l1623 : (List ByteArray) := x.1.2.2.1
let i1624 : Int := x.1.2.2.2.1
let i1625 : Int := x.1.2.2.2.2.1
let i1626 : Int := x.2.1.1
let b1627 : Bool := x.2.1.2.1
let i1628 : Int := x.2.1.2.2.2.1
let l1629 : (List Int) := x.2.2.1
let l1630 : (List (List Int)) := x.2.2.2.1
bif (decide (i1625 < i1624)) then (
bif decide (0 ≤ i1625) then (
bif decide (i1625 < ((List.length l1623) : Int)) then (
let p1631 : ByteArray := (List.getD l1623 ((Int.toNat i1625)) (Sch.zero (.str)))
let i1632 : Int := ((ByteArray.size p1631 : Nat) : Int)
let i1633 : Int := addA .i64 i1628 i1632
bif (decide ((List.length l1629 + List.length (strList p1631)) * 1 ≤ 140737488355328) && true) then (
let l1634 : (List Int) := (l1629 ++ strList p1631)
m_57_v3_9 (((), (), l1623, i1624, i1625, ()), ((i1626, (b1627, ((), (i1633, ())))), l1634, l1630, ())) (fun y1649 =>
let l1650 : (List ByteArray) := y1649.1.2.2.1
let i1651 : Int := y1649.1.2.2.2.1
let i1652 : Int := y1649.1.2.2.2.2.1
let i1653 : Int := y1649.2.1.1
let b1654 : Bool := y1649.2.1.2.1
let i1655 : Int := y1649.2.1.2.2.2.1
let l1656 : (List Int) := y1649.2.2.1
let l1657 : (List (List Int)) := y1649.2.2.2.1
let i1658 : Int := addA .i64 i1652 1
rec (((), (), l1650, i1651, i1658, ()), ((i1653, (b1654, ((), (i1655, ())))), l1656, l1657, ())))) else none) else none) else none) else (
κ0 (((), (), ()), ((i1626, (b1627, ((), (i1628, ())))), l1629, l1630, ())))
def EG_57_v3 {R : Type} (q_82 : Tp_82 R) : Env R := (Env.base QQ LN).add 82 ap_82 hp_82 (fun (x : aden ap_82 × hden hp_82) k => q_82 x (fun y => k (Pat.inst (.bool) y) (instH hp_82 x.2)))
def LG_57_v3 {R : Type} (m_57_v3_9 : Tl_57_v3_9 R) (m_57_v3_5 : Tl_57_v3_5 R) : Loops R := ((Loops.none).add 9 (loopBy 2 lv_57_v3_9 pt_57_v3_9 (fun x k => m_57_v3_9 x (fun y => k (.exit 2) (px_57_v3_9_0.inst y))))).add 5 (loopBy 2 lv_57_v3_5 pt_57_v3_5 (fun x k => m_57_v3_5 x (fun y => k (.exit 0) (px_57_v3_5_0.inst y))))
def E_57_v3 {R : Type} (N : Nat) : Env R := EG_57_v3 (p_82 N)
theorem eok_57_v3 {R : Type} (N : Nat) : EK Try.prog (E_57_v3 (R := R) N) := ek_add (ek_base _ _) (good_82 N)
def L_57_v3 {R : Type} (N : Nat) : Loops R := LG_57_v3 (l_57_v3_9 N N) (l_57_v3_5 N N)
theorem gstep_57_v3_9 {R : Type} (q_82 : Tp_82 R) (m_57_v3_9 : Tl_57_v3_9 R) (m_57_v3_5 : Tl_57_v3_5 R) (n : Nat) (x : pt_57_v3_9.den) (k : Exit → St → Option R) : iter 2 lv_57_v3_9 lo_57_v3_9 (aexec TT (EG_57_v3 q_82) (drawAny TT WW) (LG_57_v3 m_57_v3_9 m_57_v3_5) (loopAt 9 (bodyOf Try.f57))) (n + 1) (pt_57_v3_9.inst x) k = C_57_v3_9 q_82 m_57_v3_9 m_57_v3_5 (fun y => iter 2 lv_57_v3_9 lo_57_v3_9 (aexec TT (EG_57_v3 q_82) (drawAny TT WW) (LG_57_v3 m_57_v3_9 m_57_v3_5) (loopAt 9 (bodyOf Try.f57))) n (pt_57_v3_9.inst y) k) x (fun y => k (.exit 2) (px_57_v3_9_0.inst y)) := by kernel_rfl
theorem step_57_v3_9 {R : Type} (N n : Nat) (x : pt_57_v3_9.den) (k : Exit → St → Option R) : iter 2 lv_57_v3_9 lo_57_v3_9 (aexec TT (E_57_v3 (R := R) N) (drawAny TT WW) (L_57_v3 N) (loopAt 9 (bodyOf Try.f57))) (n + 1) (pt_57_v3_9.inst x) k = B_57_v3_9 N (fun y => iter 2 lv_57_v3_9 lo_57_v3_9 (aexec TT (E_57_v3 (R := R) N) (drawAny TT WW) (L_57_v3 N) (loopAt 9 (bodyOf Try.f57))) n (pt_57_v3_9.inst y) k) x (fun y => k (.exit 2) (px_57_v3_9_0.inst y)) := (gstep_57_v3_9 (p_82 N) (l_57_v3_9 N N) (l_57_v3_5 N N) n x k).trans (by kernel_rfl)
theorem eq_57_v3_9 {R : Type} (N : Nat) : ∀ (n : Nat) (x : pt_57_v3_9.den) (k : Exit → St → Option R), iter 2 lv_57_v3_9 lo_57_v3_9 (aexec TT (E_57_v3 (R := R) N) (drawAny TT WW) (L_57_v3 N) (loopAt 9 (bodyOf Try.f57))) n (pt_57_v3_9.inst x) k = l_57_v3_9 N n x (fun y => k (.exit 2) (px_57_v3_9_0.inst y)) :=
  iter_eq (K := Exit → St → Option R) (ks := fun k => k) (l := fun n (x : pt_57_v3_9.den) k => l_57_v3_9 N n x (fun y => k (.exit 2) (px_57_v3_9_0.inst y))) (B := fun (rec : pt_57_v3_9.den → Option R) (x : pt_57_v3_9.den) k => B_57_v3_9 N rec x (fun y => k (.exit 2) (px_57_v3_9_0.inst y))) (fun _ _ => rfl) (fun _ _ _ => rfl) (fun n x k => step_57_v3_9 N n x k)
theorem rounds_57_v3_9 {R : Type} (N : Nat) : Rounds 2 TT (E_57_v3 (R := R) N) (drawAny TT WW) (L_57_v3 N) 9 (loopAt 9 (bodyOf Try.f57)) :=
  rounds_of (p := pt_57_v3_9) (l := fun (x : pt_57_v3_9.den) k => l_57_v3_9 N N x (fun y => k (.exit 2) (px_57_v3_9_0.inst y))) (fun s k => rfl) (fun x k => eq_57_v3_9 N N x k)
theorem gstep_57_v3_5 {R : Type} (q_82 : Tp_82 R) (m_57_v3_9 : Tl_57_v3_9 R) (m_57_v3_5 : Tl_57_v3_5 R) (n : Nat) (x : pt_57_v3_5.den) (k : Exit → St → Option R) : iter 2 lv_57_v3_5 lo_57_v3_5 (aexec TT (EG_57_v3 q_82) (drawAny TT WW) (LG_57_v3 m_57_v3_9 m_57_v3_5) (loopAt 5 (bodyOf Try.f57))) (n + 1) (pt_57_v3_5.inst x) k = C_57_v3_5 q_82 m_57_v3_9 m_57_v3_5 (fun y => iter 2 lv_57_v3_5 lo_57_v3_5 (aexec TT (EG_57_v3 q_82) (drawAny TT WW) (LG_57_v3 m_57_v3_9 m_57_v3_5) (loopAt 5 (bodyOf Try.f57))) n (pt_57_v3_5.inst y) k) x (fun y => k (.exit 0) (px_57_v3_5_0.inst y)) := by kernel_rfl
theorem step_57_v3_5 {R : Type} (N n : Nat) (x : pt_57_v3_5.den) (k : Exit → St → Option R) : iter 2 lv_57_v3_5 lo_57_v3_5 (aexec TT (E_57_v3 (R := R) N) (drawAny TT WW) (L_57_v3 N) (loopAt 5 (bodyOf Try.f57))) (n + 1) (pt_57_v3_5.inst x) k = B_57_v3_5 N (fun y => iter 2 lv_57_v3_5 lo_57_v3_5 (aexec TT (E_57_v3 (R := R) N) (drawAny TT WW) (L_57_v3 N) (loopAt 5 (bodyOf Try.f57))) n (pt_57_v3_5.inst y) k) x (fun y => k (.exit 0) (px_57_v3_5_0.inst y)) := (gstep_57_v3_5 (p_82 N) (l_57_v3_9 N N) (l_57_v3_5 N N) n x k).trans (by kernel_rfl)
theorem eq_57_v3_5 {R : Type} (N : Nat) : ∀ (n : Nat) (x : pt_57_v3_5.den) (k : Exit → St → Option R), iter 2 lv_57_v3_5 lo_57_v3_5 (aexec TT (E_57_v3 (R := R) N) (drawAny TT WW) (L_57_v3 N) (loopAt 5 (bodyOf Try.f57))) n (pt_57_v3_5.inst x) k = l_57_v3_5 N n x (fun y => k (.exit 0) (px_57_v3_5_0.inst y)) :=
  iter_eq (K := Exit → St → Option R) (ks := fun k => k) (l := fun n (x : pt_57_v3_5.den) k => l_57_v3_5 N n x (fun y => k (.exit 0) (px_57_v3_5_0.inst y))) (B := fun (rec : pt_57_v3_5.den → Option R) (x : pt_57_v3_5.den) k => B_57_v3_5 N rec x (fun y => k (.exit 0) (px_57_v3_5_0.inst y))) (fun _ _ => rfl) (fun _ _ _ => rfl) (fun n x k => step_57_v3_5 N n x k)
theorem rounds_57_v3_5 {R : Type} (N : Nat) : Rounds 2 TT (E_57_v3 (R := R) N) (drawAny TT WW) (L_57_v3 N) 5 (loopAt 5 (bodyOf Try.f57)) :=
  rounds_of (p := pt_57_v3_5) (l := fun (x : pt_57_v3_5.den) k => l_57_v3_5 N N x (fun y => k (.exit 0) (px_57_v3_5_0.inst y))) (fun s k => rfl) (fun x k => eq_57_v3_5 N N x k)
theorem loops_57_v3 : loopsIn (bodyOf Try.f57) = [(5, loopAt 5 (bodyOf Try.f57)), (9, loopAt 9 (bodyOf Try.f57))] := by kernel_rfl
theorem lok_57_v3 {R : Type} (N : Nat) : LOK 2 TT (E_57_v3 (R := R) N) (drawAny TT WW) (L_57_v3 N) (bodyOf Try.f57) := loops_all loops_57_v3 (by
  simp only [List.forall_mem_cons, List.not_mem_nil, false_implies, implies_true, and_true]
  exact ⟨rounds_57_v3_5 N, rounds_57_v3_9 N⟩)
theorem grun_57_v3 {R : Type} (q_82 : Tp_82 R) (m_57_v3_9 : Tl_57_v3_9 R) (m_57_v3_5 : Tl_57_v3_5 R) (x : aden ap_57_v3 × hden hp_57_v3) (k : KF R) : fnrun TT (EG_57_v3 q_82) (drawAny TT WW) (LG_57_v3 m_57_v3_9 m_57_v3_5) true Try.f57 (instA ap_57_v3 x.1) (instH hp_57_v3 x.2) k = Q_57_v3 q_82 m_57_v3_9 m_57_v3_5 x (fun y => k (Pat.inst (.ros (.sl (.int .u8))) y.1) (instH [some (.node (.fcons (.int .i64) (.fcons (.bool) (.fcons (.sl 1) (.fcons (.int .i64) (.fnil))))), 151), some (.lst (.int .u8), 5)] y.2)) (fun y => k (Pat.inst (.ros (.sl (.int .u8))) y.1) (instH [some (.node (.fcons (.int .i64) (.fcons (.bool) (.fcons (.sl 2) (.fcons (.int .i64) (.fnil))))), 151), none, some (.lst (.int .u8), 5)] y.2)) := by kernel_rfl
theorem run_57_v3 {R : Type} (N : Nat) (x : aden ap_57_v3 × hden hp_57_v3) (k : KF R) : fnrun TT (E_57_v3 (R := R) N) (drawAny TT WW) (L_57_v3 N) true Try.f57 (instA ap_57_v3 x.1) (instH hp_57_v3 x.2) k = p_57_v3 N x (fun y => k (Pat.inst (.ros (.sl (.int .u8))) y.1) (instH [some (.node (.fcons (.int .i64) (.fcons (.bool) (.fcons (.sl 1) (.fcons (.int .i64) (.fnil))))), 151), some (.lst (.int .u8), 5)] y.2)) (fun y => k (Pat.inst (.ros (.sl (.int .u8))) y.1) (instH [some (.node (.fcons (.int .i64) (.fcons (.bool) (.fcons (.sl 2) (.fcons (.int .i64) (.fnil))))), 151), none, some (.lst (.int .u8), 5)] y.2)) := (grun_57_v3 (p_82 N) (l_57_v3_9 N N) (l_57_v3_5 N N) x k).trans (by kernel_rfl)
theorem good_57_v3 {R : Type} (N : Nat) : GD (X := R) Try.prog QQ 57 ap_57_v3 hp_57_v3 (fun (x : aden ap_57_v3 × hden hp_57_v3) k => p_57_v3 N x (fun y => k (Pat.inst (.ros (.sl (.int .u8))) y.1) (instH [some (.node (.fcons (.int .i64) (.fcons (.bool) (.fcons (.sl 1) (.fcons (.int .i64) (.fnil))))), 151), some (.lst (.int .u8), 5)] y.2)) (fun y => k (Pat.inst (.ros (.sl (.int .u8))) y.1) (instH [some (.node (.fcons (.int .i64) (.fcons (.bool) (.fcons (.sl 2) (.fcons (.int .i64) (.fnil))))), 151), none, some (.lst (.int .u8), 5)] y.2))) :=
  gd_loud (E := E_57_v3 N) (p := fun (x : aden ap_57_v3 × hden hp_57_v3) k => p_57_v3 N x (fun y => k (Pat.inst (.ros (.sl (.int .u8))) y.1) (instH [some (.node (.fcons (.int .i64) (.fcons (.bool) (.fcons (.sl 1) (.fcons (.int .i64) (.fnil))))), 151), some (.lst (.int .u8), 5)] y.2)) (fun y => k (Pat.inst (.ros (.sl (.int .u8))) y.1) (instH [some (.node (.fcons (.int .i64) (.fcons (.bool) (.fcons (.sl 2) (.fcons (.int .i64) (.fnil))))), 151), none, some (.lst (.int .u8), 5)] y.2))) mixed tyok (eok_57_v3 N) Try.func57 (by kernel_rfl) (by kernel_rfl) (by kernel_rfl) (lok_57_v3 N) (fun x k => run_57_v3 N x k)

def lv_26_v5_4 : Live := [(0, none), (14, none), (15, none), (16, none)]
def pt_26_v5_4 : SPat := ⟨[(0, .ptr 0 []), (14, .ros (.sl (.int .u8))), (15, .int .i64), (16, .int .i64)], [some (.node (.fcons (.ptr 1 []) (.fcons (.vec (.int .u64) 8) (.fcons (.int .i64) (.fcons (.int .u64) (.fnil))))), 115), some (.node (.fcons (.int .i64) (.fcons (.bool) (.fcons (.sl 3) (.fcons (.int .i64) (.fnil))))), 151), none, some (.lst (.int .u8), 5)]⟩
def px_26_v5_4_0 : SPat := ⟨[(0, .ptr 0 [])], [some (.node (.fcons (.ptr 1 []) (.fcons (.vec (.int .u64) 8) (.fcons (.int .i64) (.fcons (.int .u64) (.fnil))))), 115), some (.node (.fcons (.int .i64) (.fcons (.bool) (.fcons (.sl 3) (.fcons (.int .i64) (.fnil))))), 151), none, some (.lst (.int .u8), 5)]⟩
def lo_26_v5_4 : Exit → Live
  | .exit 0 => [(0, none)]
  | _ => []
def B_26_v5_4 {R : Type} (N : Nat) (rec : ((Unit × (List (List Int)) × Int × Int × Unit) × ((Unit × ((Nat → Int) × (Int × (Int × Unit)))) × (Int × (Bool × (Unit × (Int × Unit)))) × (List Int) × Unit)) → Option R) (x : ((Unit × (List (List Int)) × Int × Int × Unit) × ((Unit × ((Nat → Int) × (Int × (Int × Unit)))) × (Int × (Bool × (Unit × (Int × Unit)))) × (List Int) × Unit))) (κ0 : ((Unit × Unit) × ((Unit × ((Nat → Int) × (Int × (Int × Unit)))) × (Int × (Bool × (Unit × (Int × Unit)))) × (List Int) × Unit)) → Option R) : Option R :=
let l1695 : (List (List Int)) := x.1.2.1
let i1696 : Int := x.1.2.2.1
let i1697 : Int := x.1.2.2.2.1
let a1698 : (Nat → Int) := x.2.1.2.1
let i1699 : Int := x.2.1.2.2.1
let i1700 : Int := x.2.1.2.2.2.1
let i1701 : Int := x.2.2.1.1
let b1702 : Bool := x.2.2.1.2.1
let i1703 : Int := x.2.2.1.2.2.2.1
let l1704 : (List Int) := x.2.2.2.1
bif (decide (i1697 < i1696)) then (
bif decide (0 ≤ i1697) then (
bif decide (i1697 < ((List.length l1695) : Int)) then (
let p1705 : (List Int) := (List.getD l1695 ((Int.toNat i1697)) (Sch.zero (.sl (.int .u8))))
let i1706 : Int := addA .u64 i1700 128
p_12 N ((a1698, p1705, i1706, false, ()), ()) (fun y1707 =>
let a1708 : (Nat → Int) := y1707.1
let i1709 : Int := y1707.2.1
let i1710 : Int := addA .i64 i1697 1
rec (((), l1695, i1696, i1710, ()), (((), (a1708, (i1699, (i1706, ())))), (i1701, (b1702, ((), (i1703, ())))), l1704, ())))) else none) else none) else (
κ0 (((), ()), (((), (a1698, (i1699, (i1700, ())))), (i1701, (b1702, ((), (i1703, ())))), l1704, ())))
def l_26_v5_4 {R : Type} (N : Nat) : Nat → ((Unit × (List (List Int)) × Int × Int × Unit) × ((Unit × ((Nat → Int) × (Int × (Int × Unit)))) × (Int × (Bool × (Unit × (Int × Unit)))) × (List Int) × Unit)) → (((Unit × Unit) × ((Unit × ((Nat → Int) × (Int × (Int × Unit)))) × (Int × (Bool × (Unit × (Int × Unit)))) × (List Int) × Unit)) → Option R) → Option R
  | 0, _, _ => none
  | n + 1, x, κ0 => B_26_v5_4 N (fun y => l_26_v5_4 N n y κ0) x κ0
def ap_26_v5 : List Pat := [.ptr 0 [], .ros (.str)]
def hp_26_v5 : List (Option (Pat × Nat)) := [some (.node (.fcons (.ptr 1 []) (.fcons (.vec (.int .u64) 8) (.fcons (.int .i64) (.fcons (.int .u64) (.fnil))))), 115), some (.node (.fcons (.int .i64) (.fcons (.bool) (.fcons (.sl 2) (.fcons (.int .i64) (.fnil))))), 151), some (.lst (.int .u8), 5)]
def p_26_v5 {R : Type} (N : Nat) (x : (Unit × (List ByteArray) × Unit) × ((Unit × ((Nat → Int) × (Int × (Int × Unit)))) × (Int × (Bool × (Unit × (Int × Unit)))) × (List Int) × Unit)) (κ0 : (Unit × ((Unit × ((Nat → Int) × (Int × (Int × Unit)))) × (Int × (Bool × (Unit × (Int × Unit)))) × (List Int) × Unit)) → Option R) : Option R :=
let l1526 : (List ByteArray) := x.1.2.1
let a1527 : (Nat → Int) := x.2.1.2.1
let i1528 : Int := x.2.1.2.2.1
let i1529 : Int := x.2.1.2.2.2.1
let i1530 : Int := x.2.2.1.1
let b1531 : Bool := x.2.2.1.2.1
let i1532 : Int := x.2.2.1.2.2.2.1
let l1533 : (List Int) := x.2.2.2.1
p_57_v3 N (((), l1526, ()), ((i1530, (b1531, ((), (i1532, ())))), l1533, ())) (fun y1665 =>
let l1666 : (List (List Int)) := y1665.1
let i1667 : Int := y1665.2.1.1
let b1668 : Bool := y1665.2.1.2.1
let i1669 : Int := y1665.2.1.2.2.2.1
let l1670 : (List Int) := y1665.2.2.1
let i1671 : Int := (((List.length l1666) : Nat) : Int)
none) (fun y1688 =>
let l1689 : (List (List Int)) := y1688.1
let i1690 : Int := y1688.2.1.1
let b1691 : Bool := y1688.2.1.2.1
let i1692 : Int := y1688.2.1.2.2.2.1
let l1693 : (List Int) := y1688.2.2.1
let i1694 : Int := (((List.length l1689) : Nat) : Int)
l_26_v5_4 N N (((), l1689, i1694, 0, ()), (((), (a1527, (i1528, (i1529, ())))), (i1690, (b1691, ((), (i1692, ())))), l1693, ())) (fun y1711 =>
let a1712 : (Nat → Int) := y1711.2.1.2.1
let i1713 : Int := y1711.2.1.2.2.1
let i1714 : Int := y1711.2.1.2.2.2.1
let i1715 : Int := y1711.2.2.1.1
let b1716 : Bool := y1711.2.2.1.2.1
let i1717 : Int := y1711.2.2.1.2.2.2.1
let l1718 : (List Int) := y1711.2.2.2.1
κ0 ((), (((), (a1712, (i1713, (i1714, ())))), (i1715, (b1716, ((), (i1717, ())))), l1718, ()))))

abbrev Tl_26_v5_4 (R : Type) : Type := ((Unit × (List (List Int)) × Int × Int × Unit) × ((Unit × ((Nat → Int) × (Int × (Int × Unit)))) × (Int × (Bool × (Unit × (Int × Unit)))) × (List Int) × Unit)) → (((Unit × Unit) × ((Unit × ((Nat → Int) × (Int × (Int × Unit)))) × (Int × (Bool × (Unit × (Int × Unit)))) × (List Int) × Unit)) → Option R) → Option R
abbrev Tp_26_v5 (R : Type) : Type := (Unit × (List ByteArray) × Unit) × ((Unit × ((Nat → Int) × (Int × (Int × Unit)))) × (Int × (Bool × (Unit × (Int × Unit)))) × (List Int) × Unit) → ((Unit × ((Unit × ((Nat → Int) × (Int × (Int × Unit)))) × (Int × (Bool × (Unit × (Int × Unit)))) × (List Int) × Unit)) → Option R) → Option R
def Q_26_v5 {R : Type} (q_57_v3 : Tp_57_v3 R) (q_12 : Tp_12 R) (m_26_v5_4 : Tl_26_v5_4 R) (x : (Unit × (List ByteArray) × Unit) × ((Unit × ((Nat → Int) × (Int × (Int × Unit)))) × (Int × (Bool × (Unit × (Int × Unit)))) × (List Int) × Unit)) (κ0 : (Unit × ((Unit × ((Nat → Int) × (Int × (Int × Unit)))) × (Int × (Bool × (Unit × (Int × Unit)))) × (List Int) × Unit)) → Option R) : Option R :=
let l1526 : (List ByteArray) := x.1.2.1
let a1527 : (Nat → Int) := x.2.1.2.1
let i1528 : Int := x.2.1.2.2.1
let i1529 : Int := x.2.1.2.2.2.1
let i1530 : Int := x.2.2.1.1
let b1531 : Bool := x.2.2.1.2.1
let i1532 : Int := x.2.2.1.2.2.2.1
let l1533 : (List Int) := x.2.2.2.1
q_57_v3 (((), l1526, ()), ((i1530, (b1531, ((), (i1532, ())))), l1533, ())) (fun y1665 =>
let l1666 : (List (List Int)) := y1665.1
let i1667 : Int := y1665.2.1.1
let b1668 : Bool := y1665.2.1.2.1
let i1669 : Int := y1665.2.1.2.2.2.1
let l1670 : (List Int) := y1665.2.2.1
let i1671 : Int := (((List.length l1666) : Nat) : Int)
none) (fun y1688 =>
let l1689 : (List (List Int)) := y1688.1
let i1690 : Int := y1688.2.1.1
let b1691 : Bool := y1688.2.1.2.1
let i1692 : Int := y1688.2.1.2.2.2.1
let l1693 : (List Int) := y1688.2.2.1
let i1694 : Int := (((List.length l1689) : Nat) : Int)
m_26_v5_4 (((), l1689, i1694, 0, ()), (((), (a1527, (i1528, (i1529, ())))), (i1690, (b1691, ((), (i1692, ())))), l1693, ())) (fun y1711 =>
let a1712 : (Nat → Int) := y1711.2.1.2.1
let i1713 : Int := y1711.2.1.2.2.1
let i1714 : Int := y1711.2.1.2.2.2.1
let i1715 : Int := y1711.2.2.1.1
let b1716 : Bool := y1711.2.2.1.2.1
let i1717 : Int := y1711.2.2.1.2.2.2.1
let l1718 : (List Int) := y1711.2.2.2.1
κ0 ((), (((), (a1712, (i1713, (i1714, ())))), (i1715, (b1716, ((), (i1717, ())))), l1718, ()))))
def C_26_v5_4 {R : Type} (q_57_v3 : Tp_57_v3 R) (q_12 : Tp_12 R) (m_26_v5_4 : Tl_26_v5_4 R) (rec : ((Unit × (List (List Int)) × Int × Int × Unit) × ((Unit × ((Nat → Int) × (Int × (Int × Unit)))) × (Int × (Bool × (Unit × (Int × Unit)))) × (List Int) × Unit)) → Option R) (x : ((Unit × (List (List Int)) × Int × Int × Unit) × ((Unit × ((Nat → Int) × (Int × (Int × Unit)))) × (Int × (Bool × (Unit × (Int × Unit)))) × (List Int) × Unit))) (κ0 : ((Unit × Unit) × ((Unit × ((Nat → Int) × (Int × (Int × Unit)))) × (Int × (Bool × (Unit × (Int × Unit)))) × (List Int) × Unit)) → Option R) : Option R :=
let l1695 : (List (List Int)) := x.1.2.1
let i1696 : Int := x.1.2.2.1
let i1697 : Int := x.1.2.2.2.1
let a1698 : (Nat → Int) := x.2.1.2.1
let i1699 : Int := x.2.1.2.2.1
let i1700 : Int := x.2.1.2.2.2.1
let i1701 : Int := x.2.2.1.1
let b1702 : Bool := x.2.2.1.2.1
let i1703 : Int := x.2.2.1.2.2.2.1
let l1704 : (List Int) := x.2.2.2.1
bif (decide (i1697 < i1696)) then (
bif decide (0 ≤ i1697) then (
bif decide (i1697 < ((List.length l1695) : Int)) then (
let p1705 : (List Int) := (List.getD l1695 ((Int.toNat i1697)) (Sch.zero (.sl (.int .u8))))
let i1706 : Int := addA .u64 i1700 128
q_12 ((a1698, p1705, i1706, false, ()), ()) (fun y1707 =>
let a1708 : (Nat → Int) := y1707.1
let i1709 : Int := y1707.2.1
let i1710 : Int := addA .i64 i1697 1
rec (((), l1695, i1696, i1710, ()), (((), (a1708, (i1699, (i1706, ())))), (i1701, (b1702, ((), (i1703, ())))), l1704, ())))) else none) else none) else (
κ0 (((), ()), (((), (a1698, (i1699, (i1700, ())))), (i1701, (b1702, ((), (i1703, ())))), l1704, ())))
def EG_26_v5 {R : Type} (q_57_v3 : Tp_57_v3 R) (q_12 : Tp_12 R) : Env R := ((Env.base QQ LN).add 57 ap_57_v3 hp_57_v3 (fun (x : aden ap_57_v3 × hden hp_57_v3) k => q_57_v3 x (fun y => k (Pat.inst (.ros (.sl (.int .u8))) y.1) (instH [some (.node (.fcons (.int .i64) (.fcons (.bool) (.fcons (.sl 1) (.fcons (.int .i64) (.fnil))))), 151), some (.lst (.int .u8), 5)] y.2)) (fun y => k (Pat.inst (.ros (.sl (.int .u8))) y.1) (instH [some (.node (.fcons (.int .i64) (.fcons (.bool) (.fcons (.sl 2) (.fcons (.int .i64) (.fnil))))), 151), none, some (.lst (.int .u8), 5)] y.2)))).add 12 ap_12 hp_12 (fun (x : aden ap_12 × hden hp_12) k => q_12 x (fun y => k (Pat.inst (.tup (.fcons (.vec (.int .u64) 8) (.fcons (.int .i64) (.fnil)))) y) (instH hp_12 x.2)))
def LG_26_v5 {R : Type} (m_26_v5_4 : Tl_26_v5_4 R) : Loops R := (Loops.none).add 4 (loopBy 3 lv_26_v5_4 pt_26_v5_4 (fun x k => m_26_v5_4 x (fun y => k (.exit 0) (px_26_v5_4_0.inst y))))
def E_26_v5 {R : Type} (N : Nat) : Env R := EG_26_v5 (p_57_v3 N) (p_12 N)
theorem eok_26_v5 {R : Type} (N : Nat) : EK Try.prog (E_26_v5 (R := R) N) := ek_add (ek_add (ek_base _ _) (good_57_v3 N)) (good_12 N)
def L_26_v5 {R : Type} (N : Nat) : Loops R := LG_26_v5 (l_26_v5_4 N N)
theorem gstep_26_v5_4 {R : Type} (q_57_v3 : Tp_57_v3 R) (q_12 : Tp_12 R) (m_26_v5_4 : Tl_26_v5_4 R) (n : Nat) (x : pt_26_v5_4.den) (k : Exit → St → Option R) : iter 3 lv_26_v5_4 lo_26_v5_4 (aexec TT (EG_26_v5 q_57_v3 q_12) (drawAny TT WW) (LG_26_v5 m_26_v5_4) (loopAt 4 (bodyOf Try.f26))) (n + 1) (pt_26_v5_4.inst x) k = C_26_v5_4 q_57_v3 q_12 m_26_v5_4 (fun y => iter 3 lv_26_v5_4 lo_26_v5_4 (aexec TT (EG_26_v5 q_57_v3 q_12) (drawAny TT WW) (LG_26_v5 m_26_v5_4) (loopAt 4 (bodyOf Try.f26))) n (pt_26_v5_4.inst y) k) x (fun y => k (.exit 0) (px_26_v5_4_0.inst y)) := by kernel_rfl
theorem step_26_v5_4 {R : Type} (N n : Nat) (x : pt_26_v5_4.den) (k : Exit → St → Option R) : iter 3 lv_26_v5_4 lo_26_v5_4 (aexec TT (E_26_v5 (R := R) N) (drawAny TT WW) (L_26_v5 N) (loopAt 4 (bodyOf Try.f26))) (n + 1) (pt_26_v5_4.inst x) k = B_26_v5_4 N (fun y => iter 3 lv_26_v5_4 lo_26_v5_4 (aexec TT (E_26_v5 (R := R) N) (drawAny TT WW) (L_26_v5 N) (loopAt 4 (bodyOf Try.f26))) n (pt_26_v5_4.inst y) k) x (fun y => k (.exit 0) (px_26_v5_4_0.inst y)) := (gstep_26_v5_4 (p_57_v3 N) (p_12 N) (l_26_v5_4 N N) n x k).trans (by kernel_rfl)
theorem eq_26_v5_4 {R : Type} (N : Nat) : ∀ (n : Nat) (x : pt_26_v5_4.den) (k : Exit → St → Option R), iter 3 lv_26_v5_4 lo_26_v5_4 (aexec TT (E_26_v5 (R := R) N) (drawAny TT WW) (L_26_v5 N) (loopAt 4 (bodyOf Try.f26))) n (pt_26_v5_4.inst x) k = l_26_v5_4 N n x (fun y => k (.exit 0) (px_26_v5_4_0.inst y)) :=
  iter_eq (K := Exit → St → Option R) (ks := fun k => k) (l := fun n (x : pt_26_v5_4.den) k => l_26_v5_4 N n x (fun y => k (.exit 0) (px_26_v5_4_0.inst y))) (B := fun (rec : pt_26_v5_4.den → Option R) (x : pt_26_v5_4.den) k => B_26_v5_4 N rec x (fun y => k (.exit 0) (px_26_v5_4_0.inst y))) (fun _ _ => rfl) (fun _ _ _ => rfl) (fun n x k => step_26_v5_4 N n x k)
theorem rounds_26_v5_4 {R : Type} (N : Nat) : Rounds 3 TT (E_26_v5 (R := R) N) (drawAny TT WW) (L_26_v5 N) 4 (loopAt 4 (bodyOf Try.f26)) :=
  rounds_of (p := pt_26_v5_4) (l := fun (x : pt_26_v5_4.den) k => l_26_v5_4 N N x (fun y => k (.exit 0) (px_26_v5_4_0.inst y))) (fun s k => rfl) (fun x k => eq_26_v5_4 N N x k)
theorem loops_26_v5 : loopsIn (bodyOf Try.f26) = [(4, loopAt 4 (bodyOf Try.f26))] := by kernel_rfl
theorem lok_26_v5 {R : Type} (N : Nat) : LOK 3 TT (E_26_v5 (R := R) N) (drawAny TT WW) (L_26_v5 N) (bodyOf Try.f26) := loops_all loops_26_v5 (by
  simp only [List.forall_mem_cons, List.not_mem_nil, false_implies, implies_true, and_true]
  exact rounds_26_v5_4 N)
theorem grun_26_v5 {R : Type} (q_57_v3 : Tp_57_v3 R) (q_12 : Tp_12 R) (m_26_v5_4 : Tl_26_v5_4 R) (x : aden ap_26_v5 × hden hp_26_v5) (k : KF R) : fnrun TT (EG_26_v5 q_57_v3 q_12) (drawAny TT WW) (LG_26_v5 m_26_v5_4) true Try.f26 (instA ap_26_v5 x.1) (instH hp_26_v5 x.2) k = Q_26_v5 q_57_v3 q_12 m_26_v5_4 x (fun y => k (Pat.inst (.ptr 0 []) y.1) (instH [some (.node (.fcons (.ptr 1 []) (.fcons (.vec (.int .u64) 8) (.fcons (.int .i64) (.fcons (.int .u64) (.fnil))))), 115), some (.node (.fcons (.int .i64) (.fcons (.bool) (.fcons (.sl 3) (.fcons (.int .i64) (.fnil))))), 151), none, some (.lst (.int .u8), 5)] y.2)) := by kernel_rfl
theorem run_26_v5 {R : Type} (N : Nat) (x : aden ap_26_v5 × hden hp_26_v5) (k : KF R) : fnrun TT (E_26_v5 (R := R) N) (drawAny TT WW) (L_26_v5 N) true Try.f26 (instA ap_26_v5 x.1) (instH hp_26_v5 x.2) k = p_26_v5 N x (fun y => k (Pat.inst (.ptr 0 []) y.1) (instH [some (.node (.fcons (.ptr 1 []) (.fcons (.vec (.int .u64) 8) (.fcons (.int .i64) (.fcons (.int .u64) (.fnil))))), 115), some (.node (.fcons (.int .i64) (.fcons (.bool) (.fcons (.sl 3) (.fcons (.int .i64) (.fnil))))), 151), none, some (.lst (.int .u8), 5)] y.2)) := (grun_26_v5 (p_57_v3 N) (p_12 N) (l_26_v5_4 N N) x k).trans (by kernel_rfl)
theorem good_26_v5 {R : Type} (N : Nat) : GD (X := R) Try.prog QQ 26 ap_26_v5 hp_26_v5 (fun (x : aden ap_26_v5 × hden hp_26_v5) k => p_26_v5 N x (fun y => k (Pat.inst (.ptr 0 []) y.1) (instH [some (.node (.fcons (.ptr 1 []) (.fcons (.vec (.int .u64) 8) (.fcons (.int .i64) (.fcons (.int .u64) (.fnil))))), 115), some (.node (.fcons (.int .i64) (.fcons (.bool) (.fcons (.sl 3) (.fcons (.int .i64) (.fnil))))), 151), none, some (.lst (.int .u8), 5)] y.2))) :=
  gd_loud (E := E_26_v5 N) (p := fun (x : aden ap_26_v5 × hden hp_26_v5) k => p_26_v5 N x (fun y => k (Pat.inst (.ptr 0 []) y.1) (instH [some (.node (.fcons (.ptr 1 []) (.fcons (.vec (.int .u64) 8) (.fcons (.int .i64) (.fcons (.int .u64) (.fnil))))), 115), some (.node (.fcons (.int .i64) (.fcons (.bool) (.fcons (.sl 3) (.fcons (.int .i64) (.fnil))))), 151), none, some (.lst (.int .u8), 5)] y.2))) mixed tyok (eok_26_v5 N) Try.func26 (by kernel_rfl) (by kernel_rfl) (by kernel_rfl) (lok_26_v5 N) (fun x k => run_26_v5 N x k)

def lv_29_v1_8 : Live := [(0, none), (8, none), (9, none)]
def pt_29_v1_8 : SPat := ⟨[(0, .int .i64), (8, .str), (9, .sl 0)], [some (.lst (.int .u8), 5)]⟩
def px_29_v1_8_0 : SPat := ⟨[(0, .int .i64), (8, .str), (9, .sl 0)], [some (.lst (.int .u8), 5)]⟩
def lo_29_v1_8 : Exit → Live
  | .exit 0 => [(0, none), (8, none), (9, none)]
  | _ => []
def B_29_v1_8 {R : Type} (N : Nat) (rec : ((Int × ByteArray × Unit × Unit) × ((List Int) × Unit)) → Option R) (x : ((Int × ByteArray × Unit × Unit) × ((List Int) × Unit))) (κ0 : ((Int × ByteArray × Unit × Unit) × ((List Int) × Unit)) → Option R) : Option R :=
let i1738 : Int := x.1.1
let s1739 : ByteArray := x.1.2.1
let l1740 : (List Int) := x.2.1
let i1741 : Int := (((List.length l1740) : Nat) : Int)
let i1742 : Int := subA .i64 i1738 i1741
bif (decide (i1742 > 64)) then (
let l1743 : (List ByteArray) := [s1739]
p_22 N ((64, ⟨#[]⟩, (), ()), (l1743, ())) (fun y1744 =>
let s1745 : ByteArray := y1744.1.1
let i1746 : Int := y1744.1.2.1
let l1747 : (List ByteArray) := y1744.2.1
bif decide (32 ≤ ((ByteArray.size s1745 : Nat) : Int)) then (
let s1748 : ByteArray := ByteArray.extract s1745 0 32
bif (decide ((List.length l1740 + List.length (strList s1748)) * 1 ≤ 140737488355328) && true) then (
let l1749 : (List Int) := (l1740 ++ strList s1748)
rec ((i1738, s1745, (), ()), (l1749, ()))) else none) else none)) else (
κ0 ((i1738, s1739, (), ()), (l1740, ())))
def l_29_v1_8 {R : Type} (N : Nat) : Nat → ((Int × ByteArray × Unit × Unit) × ((List Int) × Unit)) → (((Int × ByteArray × Unit × Unit) × ((List Int) × Unit)) → Option R) → Option R
  | 0, _, _ => none
  | n + 1, x, κ0 => B_29_v1_8 N (fun y => l_29_v1_8 N n y κ0) x κ0
def ap_29_v1 : List Pat := [.int .i64, .ros (.str)]
def hp_29_v1 : List (Option (Pat × Nat)) := []
def p_29_v1 {R : Type} (N : Nat) (x : (Int × (List ByteArray) × Unit) × (Unit)) (κ0 : ((ByteArray × (Int × Unit)) × (Unit)) → Option R) : Option R :=
let i1379 : Int := x.1.1
let l1380 : (List ByteArray) := x.1.2.1
bif (decide (i1379 < 1)) then (
κ0 ((⟨#[]⟩, (1, ())), ())) else (
bif (decide (i1379 > 65536)) then (
κ0 ((⟨#[]⟩, (1, ())), ())) else (
let i1381 : Int := minA i1379 64
p_27 N ((i1381, ⟨#[]⟩, ()), ()) (fun y1382 =>
let i1383 : Int := y1382.1.2.1
let i1384 : Int := IntKind.wrap .u32 i1379
let l1385 : (List Int) := [i1384]
p_60 N (((), ()), (l1385, ())) (fun y1386 =>
let l1387 : (List Int) := y1386.1
let l1388 : (List Int) := y1386.2.1
let s1389 : ByteArray := listStr l1387
let l1390 : (List ByteArray) := [s1389]
p_26_v2 N (((), (), ()), (l1390, ())) (fun y1391 =>
let l1392 : (List ByteArray) := y1391.2.1
p_26_v3 N (((), l1380, ()), ()) (fun y1394 =>
p_25 N (((), ()), ()) (fun y1395 =>
let s1396 : ByteArray := y1395.1
bif (decide (i1379 ≤ 64)) then (
κ0 ((s1396, (0, ())), ())) else (
bif decide (32 ≤ ((ByteArray.size s1396 : Nat) : Int)) then (
let s1397 : ByteArray := ByteArray.extract s1396 0 32
bif decide (ByteArray.size s1397 ≤ maxI64) then (
let l1398 : (List Int) := strList s1397
l_29_v1_8 N N ((i1379, s1396, (), ()), (l1398, ())) (fun y1411 =>
let i1412 : Int := y1411.1.1
let s1413 : ByteArray := y1411.1.2.1
let l1414 : (List Int) := y1411.2.1
let i1415 : Int := (((List.length l1414) : Nat) : Int)
let i1416 : Int := subA .i64 i1412 i1415
let l1417 : (List ByteArray) := [s1413]
p_22 N ((i1416, ⟨#[]⟩, (), ()), (l1417, ())) (fun y1418 =>
let s1419 : ByteArray := y1418.1.1
let i1420 : Int := y1418.1.2.1
let l1421 : (List ByteArray) := y1418.2.1
bif (decide ((List.length l1414 + List.length (strList s1419)) * 1 ≤ 140737488355328) && true) then (
let l1422 : (List Int) := (l1414 ++ strList s1419)
let s1423 : ByteArray := listStr l1422
κ0 ((s1423, (0, ())), ())) else none))) else none) else none)))))) (fun y1424 =>
let i1425 : Int := y1424.1.2.1
let a1426 : (Nat → Int) := y1424.2.1.2.1
let i1427 : Int := y1424.2.1.2.2.1
let i1428 : Int := y1424.2.1.2.2.2.1
let i1429 : Int := IntKind.wrap .u32 i1379
let l1430 : (List Int) := [i1429]
p_60 N (((), ()), (l1430, ())) (fun y1431 =>
let l1432 : (List Int) := y1431.1
let l1433 : (List Int) := y1431.2.1
let s1434 : ByteArray := listStr l1432
let l1435 : (List ByteArray) := [s1434]
p_26 N (((), (), ()), (((), (a1426, (i1427, (i1428, ())))), l1435, ())) (fun y1436 =>
let a1437 : (Nat → Int) := y1436.2.1.2.1
let i1438 : Int := y1436.2.1.2.2.1
let i1439 : Int := y1436.2.1.2.2.2.1
let l1440 : (List ByteArray) := y1436.2.2.1
p_26_v4 N (((), l1380, ()), (((), (a1437, (i1438, (i1439, ())))), ())) (fun y1465 =>
let a1466 : (Nat → Int) := y1465.2.1.2.1
let i1467 : Int := y1465.2.1.2.2.1
let i1468 : Int := y1465.2.1.2.2.2.1
p_25_v1 N (((), ()), (((), (a1466, (i1467, (i1468, ())))), ())) (fun y1469 =>
let s1470 : ByteArray := y1469.1
let a1471 : (Nat → Int) := y1469.2.1.2.1
let i1472 : Int := y1469.2.1.2.2.1
let i1473 : Int := y1469.2.1.2.2.2.1
bif (decide (i1379 ≤ 64)) then (
κ0 ((s1470, (0, ())), ())) else (
bif decide (32 ≤ ((ByteArray.size s1470 : Nat) : Int)) then (
let s1474 : ByteArray := ByteArray.extract s1470 0 32
bif decide (ByteArray.size s1474 ≤ maxI64) then (
let l1475 : (List Int) := strList s1474
l_29_v1_8 N N ((i1379, s1470, (), ()), (l1475, ())) (fun y1488 =>
let i1489 : Int := y1488.1.1
let s1490 : ByteArray := y1488.1.2.1
let l1491 : (List Int) := y1488.2.1
let i1492 : Int := (((List.length l1491) : Nat) : Int)
let i1493 : Int := subA .i64 i1489 i1492
let l1494 : (List ByteArray) := [s1490]
p_22 N ((i1493, ⟨#[]⟩, (), ()), (l1494, ())) (fun y1495 =>
let s1496 : ByteArray := y1495.1.1
let i1497 : Int := y1495.1.2.1
let l1498 : (List ByteArray) := y1495.2.1
bif (decide ((List.length l1491 + List.length (strList s1496)) * 1 ≤ 140737488355328) && true) then (
let l1499 : (List Int) := (l1491 ++ strList s1496)
let s1500 : ByteArray := listStr l1499
κ0 ((s1500, (0, ())), ())) else none))) else none) else none)))))) (fun y1501 =>
let i1502 : Int := y1501.1.2.1
let a1503 : (Nat → Int) := y1501.2.1.2.1
let i1504 : Int := y1501.2.1.2.2.1
let i1505 : Int := y1501.2.1.2.2.2.1
let i1506 : Int := y1501.2.2.1.1
let b1507 : Bool := y1501.2.2.1.2.1
let i1508 : Int := y1501.2.2.1.2.2.2.1
let l1509 : (List Int) := y1501.2.2.2.1
let i1510 : Int := IntKind.wrap .u32 i1379
let l1511 : (List Int) := [i1510]
p_60 N (((), ()), (l1511, ())) (fun y1512 =>
let l1513 : (List Int) := y1512.1
let l1514 : (List Int) := y1512.2.1
let s1515 : ByteArray := listStr l1513
let l1516 : (List ByteArray) := [s1515]
p_26_v1 N (((), (), ()), (((), (a1503, (i1504, (i1505, ())))), (i1506, (b1507, ((), (i1508, ())))), l1509, l1516, ())) (fun y1517 =>
let a1518 : (Nat → Int) := y1517.2.1.2.1
let i1519 : Int := y1517.2.1.2.2.1
let i1520 : Int := y1517.2.1.2.2.2.1
let i1521 : Int := y1517.2.2.1.1
let b1522 : Bool := y1517.2.2.1.2.1
let i1523 : Int := y1517.2.2.1.2.2.2.1
let l1524 : (List ByteArray) := y1517.2.2.2.1
let l1525 : (List Int) := y1517.2.2.2.2.1
p_26_v5 N (((), l1380, ()), (((), (a1518, (i1519, (i1520, ())))), (i1521, (b1522, ((), (i1523, ())))), l1525, ())) (fun y1719 =>
let a1720 : (Nat → Int) := y1719.2.1.2.1
let i1721 : Int := y1719.2.1.2.2.1
let i1722 : Int := y1719.2.1.2.2.2.1
let i1723 : Int := y1719.2.2.1.1
let b1724 : Bool := y1719.2.2.1.2.1
let i1725 : Int := y1719.2.2.1.2.2.2.1
let l1726 : (List Int) := y1719.2.2.2.1
p_25_v2 N (((), ()), (((), (a1720, (i1721, (i1722, ())))), (i1723, (b1724, ((), (i1725, ())))), l1726, ())) (fun y1727 =>
let s1728 : ByteArray := y1727.1
let a1729 : (Nat → Int) := y1727.2.1.2.1
let i1730 : Int := y1727.2.1.2.2.1
let i1731 : Int := y1727.2.1.2.2.2.1
let i1732 : Int := y1727.2.2.1.1
let b1733 : Bool := y1727.2.2.1.2.1
let i1734 : Int := y1727.2.2.1.2.2.2.1
let l1735 : (List Int) := y1727.2.2.2.1
bif (decide (i1379 ≤ 64)) then (
κ0 ((s1728, (0, ())), ())) else (
bif decide (32 ≤ ((ByteArray.size s1728 : Nat) : Int)) then (
let s1736 : ByteArray := ByteArray.extract s1728 0 32
bif decide (ByteArray.size s1736 ≤ maxI64) then (
let l1737 : (List Int) := strList s1736
l_29_v1_8 N N ((i1379, s1728, (), ()), (l1737, ())) (fun y1750 =>
let i1751 : Int := y1750.1.1
let s1752 : ByteArray := y1750.1.2.1
let l1753 : (List Int) := y1750.2.1
let i1754 : Int := (((List.length l1753) : Nat) : Int)
let i1755 : Int := subA .i64 i1751 i1754
let l1756 : (List ByteArray) := [s1752]
p_22 N ((i1755, ⟨#[]⟩, (), ()), (l1756, ())) (fun y1757 =>
let s1758 : ByteArray := y1757.1.1
let i1759 : Int := y1757.1.2.1
let l1760 : (List ByteArray) := y1757.2.1
bif (decide ((List.length l1753 + List.length (strList s1758)) * 1 ≤ 140737488355328) && true) then (
let l1761 : (List Int) := (l1753 ++ strList s1758)
let s1762 : ByteArray := listStr l1761
κ0 ((s1762, (0, ())), ())) else none))) else none) else none))))))))

abbrev Tl_29_v1_8 (R : Type) : Type := ((Int × ByteArray × Unit × Unit) × ((List Int) × Unit)) → (((Int × ByteArray × Unit × Unit) × ((List Int) × Unit)) → Option R) → Option R
abbrev Tp_29_v1 (R : Type) : Type := (Int × (List ByteArray) × Unit) × (Unit) → (((ByteArray × (Int × Unit)) × (Unit)) → Option R) → Option R
def Q_29_v1 {R : Type} (q_27 : Tp_27 R) (q_60 : Tp_60 R) (q_26_v2 : Tp_26_v2 R) (q_26_v3 : Tp_26_v3 R) (q_25 : Tp_25 R) (q_22 : Tp_22 R) (q_26 : Tp_26 R) (q_26_v4 : Tp_26_v4 R) (q_25_v1 : Tp_25_v1 R) (q_26_v1 : Tp_26_v1 R) (q_26_v5 : Tp_26_v5 R) (q_25_v2 : Tp_25_v2 R) (m_29_v1_8 : Tl_29_v1_8 R) (x : (Int × (List ByteArray) × Unit) × (Unit)) (κ0 : ((ByteArray × (Int × Unit)) × (Unit)) → Option R) : Option R :=
let i1379 : Int := x.1.1
let l1380 : (List ByteArray) := x.1.2.1
bif (decide (i1379 < 1)) then (
κ0 ((⟨#[]⟩, (1, ())), ())) else (
bif (decide (i1379 > 65536)) then (
κ0 ((⟨#[]⟩, (1, ())), ())) else (
let i1381 : Int := minA i1379 64
q_27 ((i1381, ⟨#[]⟩, ()), ()) (fun y1382 =>
let i1383 : Int := y1382.1.2.1
let i1384 : Int := IntKind.wrap .u32 i1379
let l1385 : (List Int) := [i1384]
q_60 (((), ()), (l1385, ())) (fun y1386 =>
let l1387 : (List Int) := y1386.1
let l1388 : (List Int) := y1386.2.1
let s1389 : ByteArray := listStr l1387
let l1390 : (List ByteArray) := [s1389]
q_26_v2 (((), (), ()), (l1390, ())) (fun y1391 =>
let l1392 : (List ByteArray) := y1391.2.1
q_26_v3 (((), l1380, ()), ()) (fun y1394 =>
q_25 (((), ()), ()) (fun y1395 =>
let s1396 : ByteArray := y1395.1
bif (decide (i1379 ≤ 64)) then (
κ0 ((s1396, (0, ())), ())) else (
bif decide (32 ≤ ((ByteArray.size s1396 : Nat) : Int)) then (
let s1397 : ByteArray := ByteArray.extract s1396 0 32
bif decide (ByteArray.size s1397 ≤ maxI64) then (
let l1398 : (List Int) := strList s1397
m_29_v1_8 ((i1379, s1396, (), ()), (l1398, ())) (fun y1411 =>
let i1412 : Int := y1411.1.1
let s1413 : ByteArray := y1411.1.2.1
let l1414 : (List Int) := y1411.2.1
let i1415 : Int := (((List.length l1414) : Nat) : Int)
let i1416 : Int := subA .i64 i1412 i1415
let l1417 : (List ByteArray) := [s1413]
q_22 ((i1416, ⟨#[]⟩, (), ()), (l1417, ())) (fun y1418 =>
let s1419 : ByteArray := y1418.1.1
let i1420 : Int := y1418.1.2.1
let l1421 : (List ByteArray) := y1418.2.1
bif (decide ((List.length l1414 + List.length (strList s1419)) * 1 ≤ 140737488355328) && true) then (
let l1422 : (List Int) := (l1414 ++ strList s1419)
let s1423 : ByteArray := listStr l1422
κ0 ((s1423, (0, ())), ())) else none))) else none) else none)))))) (fun y1424 =>
let i1425 : Int := y1424.1.2.1
let a1426 : (Nat → Int) := y1424.2.1.2.1
let i1427 : Int := y1424.2.1.2.2.1
let i1428 : Int := y1424.2.1.2.2.2.1
let i1429 : Int := IntKind.wrap .u32 i1379
let l1430 : (List Int) := [i1429]
q_60 (((), ()), (l1430, ())) (fun y1431 =>
let l1432 : (List Int) := y1431.1
let l1433 : (List Int) := y1431.2.1
let s1434 : ByteArray := listStr l1432
let l1435 : (List ByteArray) := [s1434]
q_26 (((), (), ()), (((), (a1426, (i1427, (i1428, ())))), l1435, ())) (fun y1436 =>
let a1437 : (Nat → Int) := y1436.2.1.2.1
let i1438 : Int := y1436.2.1.2.2.1
let i1439 : Int := y1436.2.1.2.2.2.1
let l1440 : (List ByteArray) := y1436.2.2.1
q_26_v4 (((), l1380, ()), (((), (a1437, (i1438, (i1439, ())))), ())) (fun y1465 =>
let a1466 : (Nat → Int) := y1465.2.1.2.1
let i1467 : Int := y1465.2.1.2.2.1
let i1468 : Int := y1465.2.1.2.2.2.1
q_25_v1 (((), ()), (((), (a1466, (i1467, (i1468, ())))), ())) (fun y1469 =>
let s1470 : ByteArray := y1469.1
let a1471 : (Nat → Int) := y1469.2.1.2.1
let i1472 : Int := y1469.2.1.2.2.1
let i1473 : Int := y1469.2.1.2.2.2.1
bif (decide (i1379 ≤ 64)) then (
κ0 ((s1470, (0, ())), ())) else (
bif decide (32 ≤ ((ByteArray.size s1470 : Nat) : Int)) then (
let s1474 : ByteArray := ByteArray.extract s1470 0 32
bif decide (ByteArray.size s1474 ≤ maxI64) then (
let l1475 : (List Int) := strList s1474
m_29_v1_8 ((i1379, s1470, (), ()), (l1475, ())) (fun y1488 =>
let i1489 : Int := y1488.1.1
let s1490 : ByteArray := y1488.1.2.1
let l1491 : (List Int) := y1488.2.1
let i1492 : Int := (((List.length l1491) : Nat) : Int)
let i1493 : Int := subA .i64 i1489 i1492
let l1494 : (List ByteArray) := [s1490]
q_22 ((i1493, ⟨#[]⟩, (), ()), (l1494, ())) (fun y1495 =>
let s1496 : ByteArray := y1495.1.1
let i1497 : Int := y1495.1.2.1
let l1498 : (List ByteArray) := y1495.2.1
bif (decide ((List.length l1491 + List.length (strList s1496)) * 1 ≤ 140737488355328) && true) then (
let l1499 : (List Int) := (l1491 ++ strList s1496)
let s1500 : ByteArray := listStr l1499
κ0 ((s1500, (0, ())), ())) else none))) else none) else none)))))) (fun y1501 =>
let i1502 : Int := y1501.1.2.1
let a1503 : (Nat → Int) := y1501.2.1.2.1
let i1504 : Int := y1501.2.1.2.2.1
let i1505 : Int := y1501.2.1.2.2.2.1
let i1506 : Int := y1501.2.2.1.1
let b1507 : Bool := y1501.2.2.1.2.1
let i1508 : Int := y1501.2.2.1.2.2.2.1
let l1509 : (List Int) := y1501.2.2.2.1
let i1510 : Int := IntKind.wrap .u32 i1379
let l1511 : (List Int) := [i1510]
q_60 (((), ()), (l1511, ())) (fun y1512 =>
let l1513 : (List Int) := y1512.1
let l1514 : (List Int) := y1512.2.1
let s1515 : ByteArray := listStr l1513
let l1516 : (List ByteArray) := [s1515]
q_26_v1 (((), (), ()), (((), (a1503, (i1504, (i1505, ())))), (i1506, (b1507, ((), (i1508, ())))), l1509, l1516, ())) (fun y1517 =>
let a1518 : (Nat → Int) := y1517.2.1.2.1
let i1519 : Int := y1517.2.1.2.2.1
let i1520 : Int := y1517.2.1.2.2.2.1
let i1521 : Int := y1517.2.2.1.1
let b1522 : Bool := y1517.2.2.1.2.1
let i1523 : Int := y1517.2.2.1.2.2.2.1
let l1524 : (List ByteArray) := y1517.2.2.2.1
let l1525 : (List Int) := y1517.2.2.2.2.1
q_26_v5 (((), l1380, ()), (((), (a1518, (i1519, (i1520, ())))), (i1521, (b1522, ((), (i1523, ())))), l1525, ())) (fun y1719 =>
let a1720 : (Nat → Int) := y1719.2.1.2.1
let i1721 : Int := y1719.2.1.2.2.1
let i1722 : Int := y1719.2.1.2.2.2.1
let i1723 : Int := y1719.2.2.1.1
let b1724 : Bool := y1719.2.2.1.2.1
let i1725 : Int := y1719.2.2.1.2.2.2.1
let l1726 : (List Int) := y1719.2.2.2.1
q_25_v2 (((), ()), (((), (a1720, (i1721, (i1722, ())))), (i1723, (b1724, ((), (i1725, ())))), l1726, ())) (fun y1727 =>
let s1728 : ByteArray := y1727.1
let a1729 : (Nat → Int) := y1727.2.1.2.1
let i1730 : Int := y1727.2.1.2.2.1
let i1731 : Int := y1727.2.1.2.2.2.1
let i1732 : Int := y1727.2.2.1.1
let b1733 : Bool := y1727.2.2.1.2.1
let i1734 : Int := y1727.2.2.1.2.2.2.1
let l1735 : (List Int) := y1727.2.2.2.1
bif (decide (i1379 ≤ 64)) then (
κ0 ((s1728, (0, ())), ())) else (
bif decide (32 ≤ ((ByteArray.size s1728 : Nat) : Int)) then (
let s1736 : ByteArray := ByteArray.extract s1728 0 32
bif decide (ByteArray.size s1736 ≤ maxI64) then (
let l1737 : (List Int) := strList s1736
m_29_v1_8 ((i1379, s1728, (), ()), (l1737, ())) (fun y1750 =>
let i1751 : Int := y1750.1.1
let s1752 : ByteArray := y1750.1.2.1
let l1753 : (List Int) := y1750.2.1
let i1754 : Int := (((List.length l1753) : Nat) : Int)
let i1755 : Int := subA .i64 i1751 i1754
let l1756 : (List ByteArray) := [s1752]
q_22 ((i1755, ⟨#[]⟩, (), ()), (l1756, ())) (fun y1757 =>
let s1758 : ByteArray := y1757.1.1
let i1759 : Int := y1757.1.2.1
let l1760 : (List ByteArray) := y1757.2.1
bif (decide ((List.length l1753 + List.length (strList s1758)) * 1 ≤ 140737488355328) && true) then (
let l1761 : (List Int) := (l1753 ++ strList s1758)
let s1762 : ByteArray := listStr l1761
κ0 ((s1762, (0, ())), ())) else none))) else none) else none))))))))
def C_29_v1_8 {R : Type} (q_27 : Tp_27 R) (q_60 : Tp_60 R) (q_26_v2 : Tp_26_v2 R) (q_26_v3 : Tp_26_v3 R) (q_25 : Tp_25 R) (q_22 : Tp_22 R) (q_26 : Tp_26 R) (q_26_v4 : Tp_26_v4 R) (q_25_v1 : Tp_25_v1 R) (q_26_v1 : Tp_26_v1 R) (q_26_v5 : Tp_26_v5 R) (q_25_v2 : Tp_25_v2 R) (m_29_v1_8 : Tl_29_v1_8 R) (rec : ((Int × ByteArray × Unit × Unit) × ((List Int) × Unit)) → Option R) (x : ((Int × ByteArray × Unit × Unit) × ((List Int) × Unit))) (κ0 : ((Int × ByteArray × Unit × Unit) × ((List Int) × Unit)) → Option R) : Option R :=
let i1738 : Int := x.1.1
let s1739 : ByteArray := x.1.2.1
let l1740 : (List Int) := x.2.1
let i1741 : Int := (((List.length l1740) : Nat) : Int)
let i1742 : Int := subA .i64 i1738 i1741
bif (decide (i1742 > 64)) then (
let l1743 : (List ByteArray) := [s1739]
q_22 ((64, ⟨#[]⟩, (), ()), (l1743, ())) (fun y1744 =>
let s1745 : ByteArray := y1744.1.1
let i1746 : Int := y1744.1.2.1
let l1747 : (List ByteArray) := y1744.2.1
bif decide (32 ≤ ((ByteArray.size s1745 : Nat) : Int)) then (
let s1748 : ByteArray := ByteArray.extract s1745 0 32
bif (decide ((List.length l1740 + List.length (strList s1748)) * 1 ≤ 140737488355328) && true) then (
let l1749 : (List Int) := (l1740 ++ strList s1748)
rec ((i1738, s1745, (), ()), (l1749, ()))) else none) else none)) else (
κ0 ((i1738, s1739, (), ()), (l1740, ())))
def EG_29_v1 {R : Type} (q_27 : Tp_27 R) (q_60 : Tp_60 R) (q_26_v2 : Tp_26_v2 R) (q_26_v3 : Tp_26_v3 R) (q_25 : Tp_25 R) (q_22 : Tp_22 R) (q_26 : Tp_26 R) (q_26_v4 : Tp_26_v4 R) (q_25_v1 : Tp_25_v1 R) (q_26_v1 : Tp_26_v1 R) (q_26_v5 : Tp_26_v5 R) (q_25_v2 : Tp_25_v2 R) : Env R := ((((((((((((Env.base QQ LN).add 27 ap_27 hp_27 (fun (x : aden ap_27 × hden hp_27) k => q_27 x (fun y => k (Pat.inst (.tup (.fcons (.nilp) (.fcons (.int .i64) (.fnil)))) y.1) (instH [] y.2)) (fun y => k (Pat.inst (.tup (.fcons (.ptr 0 []) (.fcons (.int .i64) (.fnil)))) y.1) (instH [some (.node (.fcons (.nilp) (.fcons (.vec (.int .u64) 8) (.fcons (.int .i64) (.fcons (.int .u64) (.fnil))))), 115)] y.2)) (fun y => k (Pat.inst (.tup (.fcons (.ptr 0 []) (.fcons (.int .i64) (.fnil)))) y.1) (instH [some (.node (.fcons (.ptr 1 []) (.fcons (.vec (.int .u64) 8) (.fcons (.int .i64) (.fcons (.int .u64) (.fnil))))), 115), some (.node (.fcons (.int .i64) (.fcons (.bool) (.fcons (.sl 2) (.fcons (.int .i64) (.fnil))))), 151), some (.lst (.int .u8), 5)] y.2)))).add 60 ap_60 hp_60 (fun (x : aden ap_60 × hden hp_60) k => q_60 x (fun y => k (Pat.inst (.ros (.int .u8)) y.1) (instH [some (.lst (.int .u32), 124)] y.2)))).add 26 ap_26_v2 hp_26_v2 (fun (x : aden ap_26_v2 × hden hp_26_v2) k => q_26_v2 x (fun y => k (Pat.inst (.nilp) y.1) (instH [some (.lst (.str), 9)] y.2)))).add 26 ap_26_v3 hp_26_v3 (fun (x : aden ap_26_v3 × hden hp_26_v3) k => q_26_v3 x (fun y => k (Pat.inst (.nilp) y.1) (instH [] y.2)))).add 25 ap_25 hp_25 (fun (x : aden ap_25 × hden hp_25) k => q_25 x (fun y => k (Pat.inst (.str) y.1) (instH [] y.2)))).add 22 ap_22 hp_22 (fun (x : aden ap_22 × hden hp_22) k => q_22 x (fun y => k (Pat.inst (.tup (.fcons (.str) (.fcons (.int .i64) (.fnil)))) y.1) (instH [some (.lst (.str), 9)] y.2)))).add 26 ap_26 hp_26 (fun (x : aden ap_26 × hden hp_26) k => q_26 x (fun y => k (Pat.inst (.ptr 0 []) y.1) (instH [some (.node (.fcons (.nilp) (.fcons (.vec (.int .u64) 8) (.fcons (.int .i64) (.fcons (.int .u64) (.fnil))))), 115), some (.lst (.str), 9)] y.2)))).add 26 ap_26_v4 hp_26_v4 (fun (x : aden ap_26_v4 × hden hp_26_v4) k => q_26_v4 x (fun y => k (Pat.inst (.ptr 0 []) y.1) (instH [some (.node (.fcons (.nilp) (.fcons (.vec (.int .u64) 8) (.fcons (.int .i64) (.fcons (.int .u64) (.fnil))))), 115)] y.2)))).add 25 ap_25_v1 hp_25_v1 (fun (x : aden ap_25_v1 × hden hp_25_v1) k => q_25_v1 x (fun y => k (Pat.inst (.str) y.1) (instH [some (.node (.fcons (.nilp) (.fcons (.vec (.int .u64) 8) (.fcons (.int .i64) (.fcons (.int .u64) (.fnil))))), 115)] y.2)))).add 26 ap_26_v1 hp_26_v1 (fun (x : aden ap_26_v1 × hden hp_26_v1) k => q_26_v1 x (fun y => k (Pat.inst (.ptr 0 []) y.1) (instH [some (.node (.fcons (.ptr 1 []) (.fcons (.vec (.int .u64) 8) (.fcons (.int .i64) (.fcons (.int .u64) (.fnil))))), 115), some (.node (.fcons (.int .i64) (.fcons (.bool) (.fcons (.sl 4) (.fcons (.int .i64) (.fnil))))), 151), none, some (.lst (.str), 9), some (.lst (.int .u8), 5)] y.2)))).add 26 ap_26_v5 hp_26_v5 (fun (x : aden ap_26_v5 × hden hp_26_v5) k => q_26_v5 x (fun y => k (Pat.inst (.ptr 0 []) y.1) (instH [some (.node (.fcons (.ptr 1 []) (.fcons (.vec (.int .u64) 8) (.fcons (.int .i64) (.fcons (.int .u64) (.fnil))))), 115), some (.node (.fcons (.int .i64) (.fcons (.bool) (.fcons (.sl 3) (.fcons (.int .i64) (.fnil))))), 151), none, some (.lst (.int .u8), 5)] y.2)))).add 25 ap_25_v2 hp_25_v2 (fun (x : aden ap_25_v2 × hden hp_25_v2) k => q_25_v2 x (fun y => k (Pat.inst (.str) y.1) (instH [some (.node (.fcons (.ptr 1 []) (.fcons (.vec (.int .u64) 8) (.fcons (.int .i64) (.fcons (.int .u64) (.fnil))))), 115), some (.node (.fcons (.int .i64) (.fcons (.bool) (.fcons (.sl 2) (.fcons (.int .i64) (.fnil))))), 151), some (.lst (.int .u8), 5)] y.2)))
def LG_29_v1 {R : Type} (m_29_v1_8 : Tl_29_v1_8 R) : Loops R := (Loops.none).add 8 (loopBy 0 lv_29_v1_8 pt_29_v1_8 (fun x k => m_29_v1_8 x (fun y => k (.exit 0) (px_29_v1_8_0.inst y))))
def E_29_v1 {R : Type} (N : Nat) : Env R := EG_29_v1 (p_27 N) (p_60 N) (p_26_v2 N) (p_26_v3 N) (p_25 N) (p_22 N) (p_26 N) (p_26_v4 N) (p_25_v1 N) (p_26_v1 N) (p_26_v5 N) (p_25_v2 N)
theorem eok_29_v1 {R : Type} (N : Nat) : EK Try.prog (E_29_v1 (R := R) N) := ek_add (ek_add (ek_add (ek_add (ek_add (ek_add (ek_add (ek_add (ek_add (ek_add (ek_add (ek_add (ek_base _ _) (good_27 N)) (good_60 N)) (good_26_v2 N)) (good_26_v3 N)) (good_25 N)) (good_22 N)) (good_26 N)) (good_26_v4 N)) (good_25_v1 N)) (good_26_v1 N)) (good_26_v5 N)) (good_25_v2 N)
def L_29_v1 {R : Type} (N : Nat) : Loops R := LG_29_v1 (l_29_v1_8 N N)
theorem gstep_29_v1_8 {R : Type} (q_27 : Tp_27 R) (q_60 : Tp_60 R) (q_26_v2 : Tp_26_v2 R) (q_26_v3 : Tp_26_v3 R) (q_25 : Tp_25 R) (q_22 : Tp_22 R) (q_26 : Tp_26 R) (q_26_v4 : Tp_26_v4 R) (q_25_v1 : Tp_25_v1 R) (q_26_v1 : Tp_26_v1 R) (q_26_v5 : Tp_26_v5 R) (q_25_v2 : Tp_25_v2 R) (m_29_v1_8 : Tl_29_v1_8 R) (n : Nat) (x : pt_29_v1_8.den) (k : Exit → St → Option R) : iter 0 lv_29_v1_8 lo_29_v1_8 (aexec TT (EG_29_v1 q_27 q_60 q_26_v2 q_26_v3 q_25 q_22 q_26 q_26_v4 q_25_v1 q_26_v1 q_26_v5 q_25_v2) (drawAny TT WW) (LG_29_v1 m_29_v1_8) (loopAt 8 (bodyOf Try.f29))) (n + 1) (pt_29_v1_8.inst x) k = C_29_v1_8 q_27 q_60 q_26_v2 q_26_v3 q_25 q_22 q_26 q_26_v4 q_25_v1 q_26_v1 q_26_v5 q_25_v2 m_29_v1_8 (fun y => iter 0 lv_29_v1_8 lo_29_v1_8 (aexec TT (EG_29_v1 q_27 q_60 q_26_v2 q_26_v3 q_25 q_22 q_26 q_26_v4 q_25_v1 q_26_v1 q_26_v5 q_25_v2) (drawAny TT WW) (LG_29_v1 m_29_v1_8) (loopAt 8 (bodyOf Try.f29))) n (pt_29_v1_8.inst y) k) x (fun y => k (.exit 0) (px_29_v1_8_0.inst y)) := by kernel_rfl
theorem step_29_v1_8 {R : Type} (N n : Nat) (x : pt_29_v1_8.den) (k : Exit → St → Option R) : iter 0 lv_29_v1_8 lo_29_v1_8 (aexec TT (E_29_v1 (R := R) N) (drawAny TT WW) (L_29_v1 N) (loopAt 8 (bodyOf Try.f29))) (n + 1) (pt_29_v1_8.inst x) k = B_29_v1_8 N (fun y => iter 0 lv_29_v1_8 lo_29_v1_8 (aexec TT (E_29_v1 (R := R) N) (drawAny TT WW) (L_29_v1 N) (loopAt 8 (bodyOf Try.f29))) n (pt_29_v1_8.inst y) k) x (fun y => k (.exit 0) (px_29_v1_8_0.inst y)) := (gstep_29_v1_8 (p_27 N) (p_60 N) (p_26_v2 N) (p_26_v3 N) (p_25 N) (p_22 N) (p_26 N) (p_26_v4 N) (p_25_v1 N) (p_26_v1 N) (p_26_v5 N) (p_25_v2 N) (l_29_v1_8 N N) n x k).trans (by kernel_rfl)
theorem eq_29_v1_8 {R : Type} (N : Nat) : ∀ (n : Nat) (x : pt_29_v1_8.den) (k : Exit → St → Option R), iter 0 lv_29_v1_8 lo_29_v1_8 (aexec TT (E_29_v1 (R := R) N) (drawAny TT WW) (L_29_v1 N) (loopAt 8 (bodyOf Try.f29))) n (pt_29_v1_8.inst x) k = l_29_v1_8 N n x (fun y => k (.exit 0) (px_29_v1_8_0.inst y)) :=
  iter_eq (K := Exit → St → Option R) (ks := fun k => k) (l := fun n (x : pt_29_v1_8.den) k => l_29_v1_8 N n x (fun y => k (.exit 0) (px_29_v1_8_0.inst y))) (B := fun (rec : pt_29_v1_8.den → Option R) (x : pt_29_v1_8.den) k => B_29_v1_8 N rec x (fun y => k (.exit 0) (px_29_v1_8_0.inst y))) (fun _ _ => rfl) (fun _ _ _ => rfl) (fun n x k => step_29_v1_8 N n x k)
theorem rounds_29_v1_8 {R : Type} (N : Nat) : Rounds 0 TT (E_29_v1 (R := R) N) (drawAny TT WW) (L_29_v1 N) 8 (loopAt 8 (bodyOf Try.f29)) :=
  rounds_of (p := pt_29_v1_8) (l := fun (x : pt_29_v1_8.den) k => l_29_v1_8 N N x (fun y => k (.exit 0) (px_29_v1_8_0.inst y))) (fun s k => rfl) (fun x k => eq_29_v1_8 N N x k)
theorem loops_29_v1 : loopsIn (bodyOf Try.f29) = [(8, loopAt 8 (bodyOf Try.f29))] := by kernel_rfl
theorem lok_29_v1 {R : Type} (N : Nat) : LOK 0 TT (E_29_v1 (R := R) N) (drawAny TT WW) (L_29_v1 N) (bodyOf Try.f29) := loops_all loops_29_v1 (by
  simp only [List.forall_mem_cons, List.not_mem_nil, false_implies, implies_true, and_true]
  exact rounds_29_v1_8 N)
theorem grun_29_v1 {R : Type} (q_27 : Tp_27 R) (q_60 : Tp_60 R) (q_26_v2 : Tp_26_v2 R) (q_26_v3 : Tp_26_v3 R) (q_25 : Tp_25 R) (q_22 : Tp_22 R) (q_26 : Tp_26 R) (q_26_v4 : Tp_26_v4 R) (q_25_v1 : Tp_25_v1 R) (q_26_v1 : Tp_26_v1 R) (q_26_v5 : Tp_26_v5 R) (q_25_v2 : Tp_25_v2 R) (m_29_v1_8 : Tl_29_v1_8 R) (x : aden ap_29_v1 × hden hp_29_v1) (k : KF R) : fnrun TT (EG_29_v1 q_27 q_60 q_26_v2 q_26_v3 q_25 q_22 q_26 q_26_v4 q_25_v1 q_26_v1 q_26_v5 q_25_v2) (drawAny TT WW) (LG_29_v1 m_29_v1_8) true Try.f29 (instA ap_29_v1 x.1) (instH hp_29_v1 x.2) k = Q_29_v1 q_27 q_60 q_26_v2 q_26_v3 q_25 q_22 q_26 q_26_v4 q_25_v1 q_26_v1 q_26_v5 q_25_v2 m_29_v1_8 x (fun y => k (Pat.inst (.tup (.fcons (.str) (.fcons (.int .i64) (.fnil)))) y.1) (instH [] y.2)) := by kernel_rfl
theorem run_29_v1 {R : Type} (N : Nat) (x : aden ap_29_v1 × hden hp_29_v1) (k : KF R) : fnrun TT (E_29_v1 (R := R) N) (drawAny TT WW) (L_29_v1 N) true Try.f29 (instA ap_29_v1 x.1) (instH hp_29_v1 x.2) k = p_29_v1 N x (fun y => k (Pat.inst (.tup (.fcons (.str) (.fcons (.int .i64) (.fnil)))) y.1) (instH [] y.2)) := (grun_29_v1 (p_27 N) (p_60 N) (p_26_v2 N) (p_26_v3 N) (p_25 N) (p_22 N) (p_26 N) (p_26_v4 N) (p_25_v1 N) (p_26_v1 N) (p_26_v5 N) (p_25_v2 N) (l_29_v1_8 N N) x k).trans (by kernel_rfl)
theorem good_29_v1 {R : Type} (N : Nat) : GD (X := R) Try.prog QQ 29 ap_29_v1 hp_29_v1 (fun (x : aden ap_29_v1 × hden hp_29_v1) k => p_29_v1 N x (fun y => k (Pat.inst (.tup (.fcons (.str) (.fcons (.int .i64) (.fnil)))) y.1) (instH [] y.2))) :=
  gd_loud (E := E_29_v1 N) (p := fun (x : aden ap_29_v1 × hden hp_29_v1) k => p_29_v1 N x (fun y => k (Pat.inst (.tup (.fcons (.str) (.fcons (.int .i64) (.fnil)))) y.1) (instH [] y.2))) mixed tyok (eok_29_v1 N) Try.func29 (by kernel_rfl) (by kernel_rfl) (by kernel_rfl) (lok_29_v1 N) (fun x k => run_29_v1 N x k)

def lv_24_3 : Live := [(0, none), (3, none), (4, none)]
def pt_24_3 : SPat := ⟨[(0, .ros (.str)), (3, .str), (4, .int .i64)], []⟩
def px_24_3_0 : SPat := ⟨[(3, .str)], []⟩
def lo_24_3 : Exit → Live
  | .exit 0 => [(3, none)]
  | _ => []
def B_24_3 {R : Type} (N : Nat) (rec : (((List ByteArray) × ByteArray × Int × Unit) × (Unit)) → Option R) (x : (((List ByteArray) × ByteArray × Int × Unit) × (Unit))) (κ0 : ((ByteArray × Unit) × (Unit)) → Option R) : Option R :=
let l1767 : (List ByteArray) := x.1.1
let s1768 : ByteArray := x.1.2.1
let i1769 : Int := x.1.2.2.1
let i1770 : Int := (((List.length l1767) : Nat) : Int)
bif (decide (i1769 < i1770)) then (
bif decide (0 ≤ i1769) then (
bif decide (i1769 < ((List.length l1767) : Int)) then (
let p1771 : ByteArray := (List.getD l1767 ((Int.toNat i1769)) (Sch.zero (.str)))
bif decide (ByteArray.size s1768 + ByteArray.size p1771 ≤ maxI64) then (
let s1772 : ByteArray := (s1768 ++ p1771)
let i1773 : Int := addA .i64 i1769 1
rec ((l1767, s1772, i1773, ()), ())) else none) else none) else none) else (
κ0 ((s1768, ()), ()))
def l_24_3 {R : Type} (N : Nat) : Nat → (((List ByteArray) × ByteArray × Int × Unit) × (Unit)) → (((ByteArray × Unit) × (Unit)) → Option R) → Option R
  | 0, _, _ => none
  | n + 1, x, κ0 => B_24_3 N (fun y => l_24_3 N n y κ0) x κ0
def ap_24 : List Pat := [.ros (.str)]
def hp_24 : List (Option (Pat × Nat)) := []
def p_24 {R : Type} (N : Nat) (x : ((List ByteArray) × Unit) × (Unit)) (κ0 : ByteArray → Option R) : Option R :=
let l1766 : (List ByteArray) := x.1.1
l_24_3 N N ((l1766, ⟨#[]⟩, 0, ()), ()) (fun y1774 =>
let s1775 : ByteArray := y1774.1.1
κ0 s1775)

abbrev Tl_24_3 (R : Type) : Type := (((List ByteArray) × ByteArray × Int × Unit) × (Unit)) → (((ByteArray × Unit) × (Unit)) → Option R) → Option R
abbrev Tp_24 (R : Type) : Type := ((List ByteArray) × Unit) × (Unit) → (ByteArray → Option R) → Option R
def Q_24 {R : Type} (m_24_3 : Tl_24_3 R) (x : ((List ByteArray) × Unit) × (Unit)) (κ0 : ByteArray → Option R) : Option R :=
let l1766 : (List ByteArray) := x.1.1
m_24_3 ((l1766, ⟨#[]⟩, 0, ()), ()) (fun y1774 =>
let s1775 : ByteArray := y1774.1.1
κ0 s1775)
def C_24_3 {R : Type} (m_24_3 : Tl_24_3 R) (rec : (((List ByteArray) × ByteArray × Int × Unit) × (Unit)) → Option R) (x : (((List ByteArray) × ByteArray × Int × Unit) × (Unit))) (κ0 : ((ByteArray × Unit) × (Unit)) → Option R) : Option R :=
let l1767 : (List ByteArray) := x.1.1
let s1768 : ByteArray := x.1.2.1
let i1769 : Int := x.1.2.2.1
let i1770 : Int := (((List.length l1767) : Nat) : Int)
bif (decide (i1769 < i1770)) then (
bif decide (0 ≤ i1769) then (
bif decide (i1769 < ((List.length l1767) : Int)) then (
let p1771 : ByteArray := (List.getD l1767 ((Int.toNat i1769)) (Sch.zero (.str)))
bif decide (ByteArray.size s1768 + ByteArray.size p1771 ≤ maxI64) then (
let s1772 : ByteArray := (s1768 ++ p1771)
let i1773 : Int := addA .i64 i1769 1
rec ((l1767, s1772, i1773, ()), ())) else none) else none) else none) else (
κ0 ((s1768, ()), ()))
def EG_24 {R : Type} : Env R := Env.base QQ LN
def LG_24 {R : Type} (m_24_3 : Tl_24_3 R) : Loops R := (Loops.none).add 3 (loopBy 0 lv_24_3 pt_24_3 (fun x k => m_24_3 x (fun y => k (.exit 0) (px_24_3_0.inst y))))
def E_24 {R : Type} (N : Nat) : Env R := EG_24
theorem eok_24 {R : Type} (N : Nat) : EK Try.prog (E_24 (R := R) N) := ek_base _ _
def L_24 {R : Type} (N : Nat) : Loops R := LG_24 (l_24_3 N N)
theorem gstep_24_3 {R : Type} (m_24_3 : Tl_24_3 R) (n : Nat) (x : pt_24_3.den) (k : Exit → St → Option R) : iter 0 lv_24_3 lo_24_3 (aexec TT (EG_24) (drawAny TT WW) (LG_24 m_24_3) (loopAt 3 (bodyOf Try.f24))) (n + 1) (pt_24_3.inst x) k = C_24_3 m_24_3 (fun y => iter 0 lv_24_3 lo_24_3 (aexec TT (EG_24) (drawAny TT WW) (LG_24 m_24_3) (loopAt 3 (bodyOf Try.f24))) n (pt_24_3.inst y) k) x (fun y => k (.exit 0) (px_24_3_0.inst y)) := by kernel_rfl
theorem step_24_3 {R : Type} (N n : Nat) (x : pt_24_3.den) (k : Exit → St → Option R) : iter 0 lv_24_3 lo_24_3 (aexec TT (E_24 (R := R) N) (drawAny TT WW) (L_24 N) (loopAt 3 (bodyOf Try.f24))) (n + 1) (pt_24_3.inst x) k = B_24_3 N (fun y => iter 0 lv_24_3 lo_24_3 (aexec TT (E_24 (R := R) N) (drawAny TT WW) (L_24 N) (loopAt 3 (bodyOf Try.f24))) n (pt_24_3.inst y) k) x (fun y => k (.exit 0) (px_24_3_0.inst y)) := (gstep_24_3 (l_24_3 N N) n x k).trans (by kernel_rfl)
theorem eq_24_3 {R : Type} (N : Nat) : ∀ (n : Nat) (x : pt_24_3.den) (k : Exit → St → Option R), iter 0 lv_24_3 lo_24_3 (aexec TT (E_24 (R := R) N) (drawAny TT WW) (L_24 N) (loopAt 3 (bodyOf Try.f24))) n (pt_24_3.inst x) k = l_24_3 N n x (fun y => k (.exit 0) (px_24_3_0.inst y)) :=
  iter_eq (K := Exit → St → Option R) (ks := fun k => k) (l := fun n (x : pt_24_3.den) k => l_24_3 N n x (fun y => k (.exit 0) (px_24_3_0.inst y))) (B := fun (rec : pt_24_3.den → Option R) (x : pt_24_3.den) k => B_24_3 N rec x (fun y => k (.exit 0) (px_24_3_0.inst y))) (fun _ _ => rfl) (fun _ _ _ => rfl) (fun n x k => step_24_3 N n x k)
theorem rounds_24_3 {R : Type} (N : Nat) : Rounds 0 TT (E_24 (R := R) N) (drawAny TT WW) (L_24 N) 3 (loopAt 3 (bodyOf Try.f24)) :=
  rounds_of (p := pt_24_3) (l := fun (x : pt_24_3.den) k => l_24_3 N N x (fun y => k (.exit 0) (px_24_3_0.inst y))) (fun s k => rfl) (fun x k => eq_24_3 N N x k)
theorem loops_24 : loopsIn (bodyOf Try.f24) = [(3, loopAt 3 (bodyOf Try.f24))] := by kernel_rfl
theorem lok_24 {R : Type} (N : Nat) : LOK 0 TT (E_24 (R := R) N) (drawAny TT WW) (L_24 N) (bodyOf Try.f24) := loops_all loops_24 (by
  simp only [List.forall_mem_cons, List.not_mem_nil, false_implies, implies_true, and_true]
  exact rounds_24_3 N)
theorem grun_24 {R : Type} (m_24_3 : Tl_24_3 R) (x : aden ap_24 × hden hp_24) (k : KF R) : fnrun TT (EG_24) (drawAny TT WW) (LG_24 m_24_3) true Try.f24 (instA ap_24 x.1) (instH hp_24 x.2) k = Q_24 m_24_3 x (fun y => k (Pat.inst (.str) y) (instH hp_24 x.2)) := by kernel_rfl
theorem run_24 {R : Type} (N : Nat) (x : aden ap_24 × hden hp_24) (k : KF R) : fnrun TT (E_24 (R := R) N) (drawAny TT WW) (L_24 N) true Try.f24 (instA ap_24 x.1) (instH hp_24 x.2) k = p_24 N x (fun y => k (Pat.inst (.str) y) (instH hp_24 x.2)) := (grun_24 (l_24_3 N N) x k).trans (by kernel_rfl)
theorem good_24 {R : Type} (N : Nat) : GD (X := R) Try.prog QQ 24 ap_24 hp_24 (fun (x : aden ap_24 × hden hp_24) k => p_24 N x (fun y => k (Pat.inst (.str) y) (instH hp_24 x.2))) :=
  gd_quiet (E := E_24 N) (p := fun (x : aden ap_24 × hden hp_24) κ => p_24 N x (fun y => κ (Pat.inst (.str) y))) mixed tyok (eok_24 N) Try.func24 (by kernel_rfl) (by kernel_rfl) (lok_24 N) (fun x k => run_24 N x k)

def ap_8 : List Pat := [.int .i64, .ros (.str)]
def hp_8 : List (Option (Pat × Nat)) := []
def p_8 {R : Type} (N : Nat) (x : (Int × (List ByteArray) × Unit) × (Unit)) (κ0 : (Bool × (Unit)) → Option R) : Option R :=
let i1 : Int := x.1.1
let l2 : (List ByteArray) := x.1.2.1
p_28 N ((), ()) (fun y1347 =>
let b1348 : Bool := y1347
bif (!b1348) then (
κ0 (false, ())) else (
p_31 N ((i1, ()), ()) (fun y1349 =>
let i1350 : Int := y1349.1
let i1351 : Int := y1349.2.1
bif (decide (i1 < 1)) then (
bif (i1351 == 1) then (
κ0 ((i1350 == 0), ())) else (
κ0 (false, ()))) else (
bif (decide (i1 > 65536)) then (
bif (i1351 == 1) then (
κ0 ((i1350 == 0), ())) else (
κ0 (false, ()))) else (
bif (i1351 != 0) then (
κ0 (false, ())) else (
p_32 N ((i1, ()), ()) (fun y1359 =>
let i1360 : Int := y1359
bif (i1350 != i1360) then (
κ0 (false, ())) else (
bif (decide (i1 > 64)) then (
let i1361 : Int := mulA .i64 32 i1350
let i1362 : Int := subA .i64 i1 i1361
bif (decide (i1362 < 33)) then (
κ0 (false, ())) else (
let i1363 : Int := mulA .i64 32 i1350
let i1364 : Int := subA .i64 i1 i1363
bif (decide (i1364 > 64)) then (
κ0 (false, ())) else (
bif (decide (i1 > 3000)) then (
κ0 (true, ())) else (
let i1365 : Int := (((List.length l2) : Nat) : Int)
bif (decide (i1365 > 20)) then (
κ0 (true, ())) else (
p_21 N ((l2, ()), ()) (fun y1377 =>
let i1378 : Int := y1377
bif (decide (i1378 > 500)) then (
κ0 (true, ())) else (
p_29_v1 N ((i1, l2, ()), ()) (fun y1763 =>
let s1764 : ByteArray := y1763.1.1
let i1765 : Int := y1763.1.2.1
p_24 N ((l2, ()), ()) (fun y1776 =>
let s1777 : ByteArray := y1776
let l1778 : (List ByteArray) := [s1777]
p_29 N ((i1, (), ()), (l1778, ())) (fun y1779 =>
let s1780 : ByteArray := y1779.1.1
let i1781 : Int := y1779.1.2.1
let l1782 : (List ByteArray) := y1779.2.1
bif (i1765 == 0) then (
bif (i1781 == 0) then (
let i1783 : Int := ((ByteArray.size s1764 : Nat) : Int)
bif (i1783 == i1) then (
κ0 ((eqS s1764 s1780), ())) else (
κ0 (false, ()))) else (
κ0 (false, ()))) else (
κ0 (false, ())))))))))))) else (
bif (decide (i1 > 3000)) then (
κ0 (true, ())) else (
let i1784 : Int := (((List.length l2) : Nat) : Int)
bif (decide (i1784 > 20)) then (
κ0 (true, ())) else (
p_21 N ((l2, ()), ()) (fun y1785 =>
let i1786 : Int := y1785
bif (decide (i1786 > 500)) then (
κ0 (true, ())) else (
p_29_v1 N ((i1, l2, ()), ()) (fun y1787 =>
let s1788 : ByteArray := y1787.1.1
let i1789 : Int := y1787.1.2.1
p_24 N ((l2, ()), ()) (fun y1790 =>
let s1791 : ByteArray := y1790
let l1792 : (List ByteArray) := [s1791]
p_29 N ((i1, (), ()), (l1792, ())) (fun y1793 =>
let s1794 : ByteArray := y1793.1.1
let i1795 : Int := y1793.1.2.1
let l1796 : (List ByteArray) := y1793.2.1
bif (i1789 == 0) then (
bif (i1795 == 0) then (
let i1797 : Int := ((ByteArray.size s1788 : Nat) : Int)
bif (i1797 == i1) then (
κ0 ((eqS s1788 s1794), ())) else (
κ0 (false, ()))) else (
κ0 (false, ()))) else (
κ0 (false, ()))))))))))))))))))

abbrev Tp_8 (R : Type) : Type := (Int × (List ByteArray) × Unit) × (Unit) → ((Bool × (Unit)) → Option R) → Option R
def Q_8 {R : Type} (q_28 : Tp_28 R) (q_31 : Tp_31 R) (q_32 : Tp_32 R) (q_21 : Tp_21 R) (q_29_v1 : Tp_29_v1 R) (q_24 : Tp_24 R) (q_29 : Tp_29 R) (x : (Int × (List ByteArray) × Unit) × (Unit)) (κ0 : (Bool × (Unit)) → Option R) : Option R :=
let i1 : Int := x.1.1
let l2 : (List ByteArray) := x.1.2.1
q_28 ((), ()) (fun y1347 =>
let b1348 : Bool := y1347
bif (!b1348) then (
κ0 (false, ())) else (
q_31 ((i1, ()), ()) (fun y1349 =>
let i1350 : Int := y1349.1
let i1351 : Int := y1349.2.1
bif (decide (i1 < 1)) then (
bif (i1351 == 1) then (
κ0 ((i1350 == 0), ())) else (
κ0 (false, ()))) else (
bif (decide (i1 > 65536)) then (
bif (i1351 == 1) then (
κ0 ((i1350 == 0), ())) else (
κ0 (false, ()))) else (
bif (i1351 != 0) then (
κ0 (false, ())) else (
q_32 ((i1, ()), ()) (fun y1359 =>
let i1360 : Int := y1359
bif (i1350 != i1360) then (
κ0 (false, ())) else (
bif (decide (i1 > 64)) then (
let i1361 : Int := mulA .i64 32 i1350
let i1362 : Int := subA .i64 i1 i1361
bif (decide (i1362 < 33)) then (
κ0 (false, ())) else (
let i1363 : Int := mulA .i64 32 i1350
let i1364 : Int := subA .i64 i1 i1363
bif (decide (i1364 > 64)) then (
κ0 (false, ())) else (
bif (decide (i1 > 3000)) then (
κ0 (true, ())) else (
let i1365 : Int := (((List.length l2) : Nat) : Int)
bif (decide (i1365 > 20)) then (
κ0 (true, ())) else (
q_21 ((l2, ()), ()) (fun y1377 =>
let i1378 : Int := y1377
bif (decide (i1378 > 500)) then (
κ0 (true, ())) else (
q_29_v1 ((i1, l2, ()), ()) (fun y1763 =>
let s1764 : ByteArray := y1763.1.1
let i1765 : Int := y1763.1.2.1
q_24 ((l2, ()), ()) (fun y1776 =>
let s1777 : ByteArray := y1776
let l1778 : (List ByteArray) := [s1777]
q_29 ((i1, (), ()), (l1778, ())) (fun y1779 =>
let s1780 : ByteArray := y1779.1.1
let i1781 : Int := y1779.1.2.1
let l1782 : (List ByteArray) := y1779.2.1
bif (i1765 == 0) then (
bif (i1781 == 0) then (
let i1783 : Int := ((ByteArray.size s1764 : Nat) : Int)
bif (i1783 == i1) then (
κ0 ((eqS s1764 s1780), ())) else (
κ0 (false, ()))) else (
κ0 (false, ()))) else (
κ0 (false, ())))))))))))) else (
bif (decide (i1 > 3000)) then (
κ0 (true, ())) else (
let i1784 : Int := (((List.length l2) : Nat) : Int)
bif (decide (i1784 > 20)) then (
κ0 (true, ())) else (
q_21 ((l2, ()), ()) (fun y1785 =>
let i1786 : Int := y1785
bif (decide (i1786 > 500)) then (
κ0 (true, ())) else (
q_29_v1 ((i1, l2, ()), ()) (fun y1787 =>
let s1788 : ByteArray := y1787.1.1
let i1789 : Int := y1787.1.2.1
q_24 ((l2, ()), ()) (fun y1790 =>
let s1791 : ByteArray := y1790
let l1792 : (List ByteArray) := [s1791]
q_29 ((i1, (), ()), (l1792, ())) (fun y1793 =>
let s1794 : ByteArray := y1793.1.1
let i1795 : Int := y1793.1.2.1
let l1796 : (List ByteArray) := y1793.2.1
bif (i1789 == 0) then (
bif (i1795 == 0) then (
let i1797 : Int := ((ByteArray.size s1788 : Nat) : Int)
bif (i1797 == i1) then (
κ0 ((eqS s1788 s1794), ())) else (
κ0 (false, ()))) else (
κ0 (false, ()))) else (
κ0 (false, ()))))))))))))))))))
def EG_8 {R : Type} (q_28 : Tp_28 R) (q_31 : Tp_31 R) (q_32 : Tp_32 R) (q_21 : Tp_21 R) (q_29_v1 : Tp_29_v1 R) (q_24 : Tp_24 R) (q_29 : Tp_29 R) : Env R := (((((((Env.base QQ LN).add 28 ap_28 hp_28 (fun (x : aden ap_28 × hden hp_28) k => q_28 x (fun y => k (Pat.inst (.bool) y) (instH hp_28 x.2)))).add 31 ap_31 hp_31 (fun (x : aden ap_31 × hden hp_31) k => q_31 x (fun y => k (Pat.inst (.tup (.fcons (.int .i64) (.fcons (.int .i64) (.fnil)))) y) (instH hp_31 x.2)))).add 32 ap_32 hp_32 (fun (x : aden ap_32 × hden hp_32) k => q_32 x (fun y => k (Pat.inst (.int .i64) y) (instH hp_32 x.2)))).add 21 ap_21 hp_21 (fun (x : aden ap_21 × hden hp_21) k => q_21 x (fun y => k (Pat.inst (.int .i64) y) (instH hp_21 x.2)))).add 29 ap_29_v1 hp_29_v1 (fun (x : aden ap_29_v1 × hden hp_29_v1) k => q_29_v1 x (fun y => k (Pat.inst (.tup (.fcons (.str) (.fcons (.int .i64) (.fnil)))) y.1) (instH [] y.2)))).add 24 ap_24 hp_24 (fun (x : aden ap_24 × hden hp_24) k => q_24 x (fun y => k (Pat.inst (.str) y) (instH hp_24 x.2)))).add 29 ap_29 hp_29 (fun (x : aden ap_29 × hden hp_29) k => q_29 x (fun y => k (Pat.inst (.tup (.fcons (.str) (.fcons (.int .i64) (.fnil)))) y.1) (instH [some (.lst (.str), 9)] y.2)))
def LG_8 {R : Type} : Loops R := Loops.none
def E_8 {R : Type} (N : Nat) : Env R := EG_8 (p_28 N) (p_31 N) (p_32 N) (p_21 N) (p_29_v1 N) (p_24 N) (p_29 N)
theorem eok_8 {R : Type} (N : Nat) : EK Try.prog (E_8 (R := R) N) := ek_add (ek_add (ek_add (ek_add (ek_add (ek_add (ek_add (ek_base _ _) (good_28 N)) (good_31 N)) (good_32 N)) (good_21 N)) (good_29_v1 N)) (good_24 N)) (good_29 N)
def L_8 {R : Type} (N : Nat) : Loops R := LG_8
theorem lok_8 {R : Type} (N : Nat) : LOK 0 TT (E_8 (R := R) N) (drawAny TT WW) (L_8 N) (bodyOf Try.f8) := loops_nil (by kernel_rfl)
theorem grun_8 {R : Type} (q_28 : Tp_28 R) (q_31 : Tp_31 R) (q_32 : Tp_32 R) (q_21 : Tp_21 R) (q_29_v1 : Tp_29_v1 R) (q_24 : Tp_24 R) (q_29 : Tp_29 R) (x : aden ap_8 × hden hp_8) (k : KF R) : fnrun TT (EG_8 q_28 q_31 q_32 q_21 q_29_v1 q_24 q_29) (drawAny TT WW) (LG_8) true Try.f8 (instA ap_8 x.1) (instH hp_8 x.2) k = Q_8 q_28 q_31 q_32 q_21 q_29_v1 q_24 q_29 x (fun y => k (Pat.inst (.bool) y.1) (instH [] y.2)) := by kernel_rfl
theorem run_8 {R : Type} (N : Nat) (x : aden ap_8 × hden hp_8) (k : KF R) : fnrun TT (E_8 (R := R) N) (drawAny TT WW) (L_8 N) true Try.f8 (instA ap_8 x.1) (instH hp_8 x.2) k = p_8 N x (fun y => k (Pat.inst (.bool) y.1) (instH [] y.2)) := (grun_8 (p_28 N) (p_31 N) (p_32 N) (p_21 N) (p_29_v1 N) (p_24 N) (p_29 N) x k).trans (by kernel_rfl)
theorem good_8 {R : Type} (N : Nat) : GD (X := R) Try.prog QQ 8 ap_8 hp_8 (fun (x : aden ap_8 × hden hp_8) k => p_8 N x (fun y => k (Pat.inst (.bool) y.1) (instH [] y.2))) :=
  gd_loud (E := E_8 N) (p := fun (x : aden ap_8 × hden hp_8) k => p_8 N x (fun y => k (Pat.inst (.bool) y.1) (instH [] y.2))) mixed tyok (eok_8 N) Try.func8 (by kernel_rfl) (by kernel_rfl) (by kernel_rfl) (lok_8 N) (fun x k => run_8 N x k)

end Go.Proofs.Ytnfhngcdddjilaa.Eng
