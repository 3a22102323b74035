/-
Plain functions that the functions of the program are shown to come to, printed by a program of the prover; each with its proof.
Conditions: none.
-/
import Derived.Test.YtnfhngcdddjilaaMirBlakeSumsA
import Derived.KernelRfl
set_option linter.unusedVariables false
namespace Go.Proofs.Ytnfhngcdddjilaa.Eng
def lv_26_v5_4 : Live := [(0, none), (14, none), (15, none), (16, none)]
def pt_26_v5_4 : SPat := ⟨[(0, .ptr 0 []), (14, .ros (.sl (.int .u8))), (15, .int .i64), (16, .int .i64)], [some (.node (.fcons (.ptr 1 []) (.fcons (.vec (.int .u64) 8) (.fcons (.int .i64) (.fcons (.int .u64) (.fnil))))), 115), some (.node (.fcons (.int .i64) (.fcons (.bool) (.fcons (.sl 3) (.fcons (.int .i64) (.fnil))))), 151), none, some (.lst (.int .u8), 5)]⟩
def px_26_v5_4_0 : SPat := ⟨[(0, .ptr 0 [])], [some (.node (.fcons (.ptr 1 []) (.fcons (.vec (.int .u64) 8) (.fcons (.int .i64) (.fcons (.int .u64) (.fnil))))), 115), some (.node (.fcons (.int .i64) (.fcons (.bool) (.fcons (.sl 3) (.fcons (.int .i64) (.fnil))))), 151), none, some (.lst (.int .u8), 5)]⟩
def lo_26_v5_4 : Exit → Live
  | .exit 0 => [(0, none)]
  | _ => []
def B_26_v5_4 {R : Type} (N : Nat) (rec : ((Unit × (List (List Int)) × Int × Int × Unit) × ((Unit × ((Nat → Int) × (Int × (Int × Unit)))) × (Int × (Bool × (Unit × (Int × Unit)))) × (List Int) × Unit)) → Option R) (x : ((Unit × (List (List Int)) × Int × Int × Unit) × ((Unit × ((Nat → Int) × (Int × (Int × Unit)))) × (Int × (Bool × (Unit × (Int × Unit)))) × (List Int) × Unit))) (κ0 : ((Unit × Unit) × ((Unit × ((Nat → Int) × (Int × (Int × Unit)))) × (Int × (Bool × (Unit × (Int × Unit)))) × (List Int) × Unit)) → Option R) : Option R :=
let l1377 : (List (List Int)) := x.1.2.1
let i1378 : Int := x.1.2.2.1
let i1379 : Int := x.1.2.2.2.1
let a1380 : (Nat → Int) := x.2.1.2.1
let i1381 : Int := x.2.1.2.2.1
let i1382 : Int := x.2.1.2.2.2.1
let i1383 : Int := x.2.2.1.1
let b1384 : Bool := x.2.2.1.2.1
let i1385 : Int := x.2.2.1.2.2.2.1
let l1386 : (List Int) := x.2.2.2.1
bif (decide (i1379 < i1378)) then (
bif decide (0 ≤ i1379) then (
bif decide (i1379 < ((List.length l1377) : Int)) then (
let p1387 : (List Int) := (List.getD l1377 ((Int.toNat i1379)) (Sch.zero (.sl (.int .u8))))
let i1388 : Int := addA .u64 i1382 128
p_12 N ((a1380, p1387, i1388, false, ()), ()) (fun y1389 =>
let a1390 : (Nat → Int) := y1389.1
let i1391 : Int := y1389.2.1
let i1392 : Int := addA .i64 i1379 1
rec (((), l1377, i1378, i1392, ()), (((), (a1390, (i1381, (i1388, ())))), (i1383, (b1384, ((), (i1385, ())))), l1386, ())))) else none) else none) else (
κ0 (((), ()), (((), (a1380, (i1381, (i1382, ())))), (i1383, (b1384, ((), (i1385, ())))), l1386, ())))
def l_26_v5_4 {R : Type} (N : Nat) : Nat → ((Unit × (List (List Int)) × Int × Int × Unit) × ((Unit × ((Nat → Int) × (Int × (Int × Unit)))) × (Int × (Bool × (Unit × (Int × Unit)))) × (List Int) × Unit)) → (((Unit × Unit) × ((Unit × ((Nat → Int) × (Int × (Int × Unit)))) × (Int × (Bool × (Unit × (Int × Unit)))) × (List Int) × Unit)) → Option R) → Option R
  | 0, _, _ => none
  | n + 1, x, κ0 => B_26_v5_4 N (fun y => l_26_v5_4 N n y κ0) x κ0
def ap_26_v5 : List Pat := [.ptr 0 [], .ros (.str)]
def hp_26_v5 : List (Option (Pat × Nat)) := [some (.node (.fcons (.ptr 1 []) (.fcons (.vec (.int .u64) 8) (.fcons (.int .i64) (.fcons (.int .u64) (.fnil))))), 115), some (.node (.fcons (.int .i64) (.fcons (.bool) (.fcons (.sl 2) (.fcons (.int .i64) (.fnil))))), 151), some (.lst (.int .u8), 5)]
def p_26_v5 {R : Type} (N : Nat) (x : (Unit × (List ByteArray) × Unit) × ((Unit × ((Nat → Int) × (Int × (Int × Unit)))) × (Int × (Bool × (Unit × (Int × Unit)))) × (List Int) × Unit)) (κ0 : (Unit × ((Unit × ((Nat → Int) × (Int × (Int × Unit)))) × (Int × (Bool × (Unit × (Int × Unit)))) × (List Int) × Unit)) → Option R) : Option R :=
let l1208 : (List ByteArray) := x.1.2.1
let a1209 : (Nat → Int) := x.2.1.2.1
let i1210 : Int := x.2.1.2.2.1
let i1211 : Int := x.2.1.2.2.2.1
let i1212 : Int := x.2.2.1.1
let b1213 : Bool := x.2.2.1.2.1
let i1214 : Int := x.2.2.1.2.2.2.1
let l1215 : (List Int) := x.2.2.2.1
p_57_v3 N (((), l1208, ()), ((i1212, (b1213, ((), (i1214, ())))), l1215, ())) (fun y1347 =>
let l1348 : (List (List Int)) := y1347.1
let i1349 : Int := y1347.2.1.1
let b1350 : Bool := y1347.2.1.2.1
let i1351 : Int := y1347.2.1.2.2.2.1
let l1352 : (List Int) := y1347.2.2.1
let i1353 : Int := (((List.length l1348) : Nat) : Int)
none) (fun y1370 =>
let l1371 : (List (List Int)) := y1370.1
let i1372 : Int := y1370.2.1.1
let b1373 : Bool := y1370.2.1.2.1
let i1374 : Int := y1370.2.1.2.2.2.1
let l1375 : (List Int) := y1370.2.2.1
let i1376 : Int := (((List.length l1371) : Nat) : Int)
l_26_v5_4 N N (((), l1371, i1376, 0, ()), (((), (a1209, (i1210, (i1211, ())))), (i1372, (b1373, ((), (i1374, ())))), l1375, ())) (fun y1393 =>
let a1394 : (Nat → Int) := y1393.2.1.2.1
let i1395 : Int := y1393.2.1.2.2.1
let i1396 : Int := y1393.2.1.2.2.2.1
let i1397 : Int := y1393.2.2.1.1
let b1398 : Bool := y1393.2.2.1.2.1
let i1399 : Int := y1393.2.2.1.2.2.2.1
let l1400 : (List Int) := y1393.2.2.2.1
κ0 ((), (((), (a1394, (i1395, (i1396, ())))), (i1397, (b1398, ((), (i1399, ())))), l1400, ()))))

abbrev Tl_26_v5_4 (R : Type) : Type := ((Unit × (List (List Int)) × Int × Int × Unit) × ((Unit × ((Nat → Int) × (Int × (Int × Unit)))) × (Int × (Bool × (Unit × (Int × Unit)))) × (List Int) × Unit)) → (((Unit × Unit) × ((Unit × ((Nat → Int) × (Int × (Int × Unit)))) × (Int × (Bool × (Unit × (Int × Unit)))) × (List Int) × Unit)) → Option R) → Option R
abbrev Tp_26_v5 (R : Type) : Type := (Unit × (List ByteArray) × Unit) × ((Unit × ((Nat → Int) × (Int × (Int × Unit)))) × (Int × (Bool × (Unit × (Int × Unit)))) × (List Int) × Unit) → ((Unit × ((Unit × ((Nat → Int) × (Int × (Int × Unit)))) × (Int × (Bool × (Unit × (Int × Unit)))) × (List Int) × Unit)) → Option R) → Option R
def Q_26_v5 {R : Type} (q_57_v3 : Tp_57_v3 R) (q_12 : Tp_12 R) (m_26_v5_4 : Tl_26_v5_4 R) (x : (Unit × (List ByteArray) × Unit) × ((Unit × ((Nat → Int) × (Int × (Int × Unit)))) × (Int × (Bool × (Unit × (Int × Unit)))) × (List Int) × Unit)) (κ0 : (Unit × ((Unit × ((Nat → Int) × (Int × (Int × Unit)))) × (Int × (Bool × (Unit × (Int × Unit)))) × (List Int) × Unit)) → Option R) : Option R :=
let l1208 : (List ByteArray) := x.1.2.1
let a1209 : (Nat → Int) := x.2.1.2.1
let i1210 : Int := x.2.1.2.2.1
let i1211 : Int := x.2.1.2.2.2.1
let i1212 : Int := x.2.2.1.1
let b1213 : Bool := x.2.2.1.2.1
let i1214 : Int := x.2.2.1.2.2.2.1
let l1215 : (List Int) := x.2.2.2.1
q_57_v3 (((), l1208, ()), ((i1212, (b1213, ((), (i1214, ())))), l1215, ())) (fun y1347 =>
let l1348 : (List (List Int)) := y1347.1
let i1349 : Int := y1347.2.1.1
let b1350 : Bool := y1347.2.1.2.1
let i1351 : Int := y1347.2.1.2.2.2.1
let l1352 : (List Int) := y1347.2.2.1
let i1353 : Int := (((List.length l1348) : Nat) : Int)
none) (fun y1370 =>
let l1371 : (List (List Int)) := y1370.1
let i1372 : Int := y1370.2.1.1
let b1373 : Bool := y1370.2.1.2.1
let i1374 : Int := y1370.2.1.2.2.2.1
let l1375 : (List Int) := y1370.2.2.1
let i1376 : Int := (((List.length l1371) : Nat) : Int)
m_26_v5_4 (((), l1371, i1376, 0, ()), (((), (a1209, (i1210, (i1211, ())))), (i1372, (b1373, ((), (i1374, ())))), l1375, ())) (fun y1393 =>
let a1394 : (Nat → Int) := y1393.2.1.2.1
let i1395 : Int := y1393.2.1.2.2.1
let i1396 : Int := y1393.2.1.2.2.2.1
let i1397 : Int := y1393.2.2.1.1
let b1398 : Bool := y1393.2.2.1.2.1
let i1399 : Int := y1393.2.2.1.2.2.2.1
let l1400 : (List Int) := y1393.2.2.2.1
κ0 ((), (((), (a1394, (i1395, (i1396, ())))), (i1397, (b1398, ((), (i1399, ())))), l1400, ()))))
def C_26_v5_4 {R : Type} (q_57_v3 : Tp_57_v3 R) (q_12 : Tp_12 R) (m_26_v5_4 : Tl_26_v5_4 R) (rec : ((Unit × (List (List Int)) × Int × Int × Unit) × ((Unit × ((Nat → Int) × (Int × (Int × Unit)))) × (Int × (Bool × (Unit × (Int × Unit)))) × (List Int) × Unit)) → Option R) (x : ((Unit × (List (List Int)) × Int × Int × Unit) × ((Unit × ((Nat → Int) × (Int × (Int × Unit)))) × (Int × (Bool × (Unit × (Int × Unit)))) × (List Int) × Unit))) (κ0 : ((Unit × Unit) × ((Unit × ((Nat → Int) × (Int × (Int × Unit)))) × (Int × (Bool × (Unit × (Int × Unit)))) × (List Int) × Unit)) → Option R) : Option R :=
let l1377 : (List (List Int)) := x.1.2.1
let i1378 : Int := x.1.2.2.1
let i1379 : Int := x.1.2.2.2.1
let a1380 : (Nat → Int) := x.2.1.2.1
let i1381 : Int := x.2.1.2.2.1
let i1382 : Int := x.2.1.2.2.2.1
let i1383 : Int := x.2.2.1.1
let b1384 : Bool := x.2.2.1.2.1
let i1385 : Int := x.2.2.1.2.2.2.1
let l1386 : (List Int) := x.2.2.2.1
bif (decide (i1379 < i1378)) then (
bif decide (0 ≤ i1379) then (
bif decide (i1379 < ((List.length l1377) : Int)) then (
let p1387 : (List Int) := (List.getD l1377 ((Int.toNat i1379)) (Sch.zero (.sl (.int .u8))))
let i1388 : Int := addA .u64 i1382 128
q_12 ((a1380, p1387, i1388, false, ()), ()) (fun y1389 =>
let a1390 : (Nat → Int) := y1389.1
let i1391 : Int := y1389.2.1
let i1392 : Int := addA .i64 i1379 1
rec (((), l1377, i1378, i1392, ()), (((), (a1390, (i1381, (i1388, ())))), (i1383, (b1384, ((), (i1385, ())))), l1386, ())))) else none) else none) else (
κ0 (((), ()), (((), (a1380, (i1381, (i1382, ())))), (i1383, (b1384, ((), (i1385, ())))), l1386, ())))
def EG_26_v5 {R : Type} (q_57_v3 : Tp_57_v3 R) (q_12 : Tp_12 R) : Env R := ((Env.base QQ LN).add 57 ap_57_v3 hp_57_v3 (fun (x : aden ap_57_v3 × hden hp_57_v3) k => q_57_v3 x (fun y => k (Pat.inst (.ros (.sl (.int .u8))) y.1) (instH [some (.node (.fcons (.int .i64) (.fcons (.bool) (.fcons (.sl 1) (.fcons (.int .i64) (.fnil))))), 151), some (.lst (.int .u8), 5)] y.2)) (fun y => k (Pat.inst (.ros (.sl (.int .u8))) y.1) (instH [some (.node (.fcons (.int .i64) (.fcons (.bool) (.fcons (.sl 2) (.fcons (.int .i64) (.fnil))))), 151), none, some (.lst (.int .u8), 5)] y.2)))).add 12 ap_12 hp_12 (fun (x : aden ap_12 × hden hp_12) k => q_12 x (fun y => k (Pat.inst (.tup (.fcons (.vec (.int .u64) 8) (.fcons (.int .i64) (.fnil)))) y) (instH hp_12 x.2)))
def LG_26_v5 {R : Type} (m_26_v5_4 : Tl_26_v5_4 R) : Loops R := (Loops.none).add 4 (loopBy 3 lv_26_v5_4 pt_26_v5_4 (fun x k => m_26_v5_4 x (fun y => k (.exit 0) (px_26_v5_4_0.inst y))))
def E_26_v5 {R : Type} (N : Nat) : Env R := EG_26_v5 (p_57_v3 N) (p_12 N)
theorem eok_26_v5 {R : Type} (N : Nat) : EK Try.prog (E_26_v5 (R := R) N) := ek_add (ek_add (ek_base _ _) (good_57_v3 N)) (good_12 N)
def L_26_v5 {R : Type} (N : Nat) : Loops R := LG_26_v5 (l_26_v5_4 N N)
theorem gstep_26_v5_4 {R : Type} (q_57_v3 : Tp_57_v3 R) (q_12 : Tp_12 R) (m_26_v5_4 : Tl_26_v5_4 R) (n : Nat) (x : pt_26_v5_4.den) (k : Exit → St → Option R) : iter 3 lv_26_v5_4 lo_26_v5_4 (aexec TT (EG_26_v5 q_57_v3 q_12) (drawAny TT WW) (LG_26_v5 m_26_v5_4) (loopAt 4 (bodyOf Try.f26))) (n + 1) (pt_26_v5_4.inst x) k = C_26_v5_4 q_57_v3 q_12 m_26_v5_4 (fun y => iter 3 lv_26_v5_4 lo_26_v5_4 (aexec TT (EG_26_v5 q_57_v3 q_12) (drawAny TT WW) (LG_26_v5 m_26_v5_4) (loopAt 4 (bodyOf Try.f26))) n (pt_26_v5_4.inst y) k) x (fun y => k (.exit 0) (px_26_v5_4_0.inst y)) := by kernel_rfl
theorem step_26_v5_4 {R : Type} (N n : Nat) (x : pt_26_v5_4.den) (k : Exit → St → Option R) : iter 3 lv_26_v5_4 lo_26_v5_4 (aexec TT (E_26_v5 (R := R) N) (drawAny TT WW) (L_26_v5 N) (loopAt 4 (bodyOf Try.f26))) (n + 1) (pt_26_v5_4.inst x) k = B_26_v5_4 N (fun y => iter 3 lv_26_v5_4 lo_26_v5_4 (aexec TT (E_26_v5 (R := R) N) (drawAny TT WW) (L_26_v5 N) (loopAt 4 (bodyOf Try.f26))) n (pt_26_v5_4.inst y) k) x (fun y => k (.exit 0) (px_26_v5_4_0.inst y)) := (gstep_26_v5_4 (p_57_v3 N) (p_12 N) (l_26_v5_4 N N) n x k).trans (by kernel_rfl)
theorem eq_26_v5_4 {R : Type} (N : Nat) : ∀ (n : Nat) (x : pt_26_v5_4.den) (k : Exit → St → Option R), iter 3 lv_26_v5_4 lo_26_v5_4 (aexec TT (E_26_v5 (R := R) N) (drawAny TT WW) (L_26_v5 N) (loopAt 4 (bodyOf Try.f26))) n (pt_26_v5_4.inst x) k = l_26_v5_4 N n x (fun y => k (.exit 0) (px_26_v5_4_0.inst y)) :=
  iter_eq (K := Exit → St → Option R) (ks := fun k => k) (l := fun n (x : pt_26_v5_4.den) k => l_26_v5_4 N n x (fun y => k (.exit 0) (px_26_v5_4_0.inst y))) (B := fun (rec : pt_26_v5_4.den → Option R) (x : pt_26_v5_4.den) k => B_26_v5_4 N rec x (fun y => k (.exit 0) (px_26_v5_4_0.inst y))) (fun _ _ => rfl) (fun _ _ _ => rfl) (fun n x k => step_26_v5_4 N n x k)
theorem rounds_26_v5_4 {R : Type} (N : Nat) : Rounds 3 TT (E_26_v5 (R := R) N) (drawAny TT WW) (L_26_v5 N) 4 (loopAt 4 (bodyOf Try.f26)) :=
  rounds_of (p := pt_26_v5_4) (l := fun (x : pt_26_v5_4.den) k => l_26_v5_4 N N x (fun y => k (.exit 0) (px_26_v5_4_0.inst y))) (fun s k => rfl) (fun x k => eq_26_v5_4 N N x k)
theorem loops_26_v5 : loopsIn (bodyOf Try.f26) = [(4, loopAt 4 (bodyOf Try.f26))] := by kernel_rfl
theorem lok_26_v5 {R : Type} (N : Nat) : LOK 3 TT (E_26_v5 (R := R) N) (drawAny TT WW) (L_26_v5 N) (bodyOf Try.f26) := loops_all loops_26_v5 (by
  simp only [List.forall_mem_cons, List.not_mem_nil, false_implies, implies_true, and_true]
  exact rounds_26_v5_4 N)
theorem grun_26_v5 {R : Type} (q_57_v3 : Tp_57_v3 R) (q_12 : Tp_12 R) (m_26_v5_4 : Tl_26_v5_4 R) (x : aden ap_26_v5 × hden hp_26_v5) (k : KF R) : fnrun TT (EG_26_v5 q_57_v3 q_12) (drawAny TT WW) (LG_26_v5 m_26_v5_4) true Try.f26 (instA ap_26_v5 x.1) (instH hp_26_v5 x.2) k = Q_26_v5 q_57_v3 q_12 m_26_v5_4 x (fun y => k (Pat.inst (.ptr 0 []) y.1) (instH [some (.node (.fcons (.ptr 1 []) (.fcons (.vec (.int .u64) 8) (.fcons (.int .i64) (.fcons (.int .u64) (.fnil))))), 115), some (.node (.fcons (.int .i64) (.fcons (.bool) (.fcons (.sl 3) (.fcons (.int .i64) (.fnil))))), 151), none, some (.lst (.int .u8), 5)] y.2)) := by kernel_rfl
theorem run_26_v5 {R : Type} (N : Nat) (x : aden ap_26_v5 × hden hp_26_v5) (k : KF R) : fnrun TT (E_26_v5 (R := R) N) (drawAny TT WW) (L_26_v5 N) true Try.f26 (instA ap_26_v5 x.1) (instH hp_26_v5 x.2) k = p_26_v5 N x (fun y => k (Pat.inst (.ptr 0 []) y.1) (instH [some (.node (.fcons (.ptr 1 []) (.fcons (.vec (.int .u64) 8) (.fcons (.int .i64) (.fcons (.int .u64) (.fnil))))), 115), some (.node (.fcons (.int .i64) (.fcons (.bool) (.fcons (.sl 3) (.fcons (.int .i64) (.fnil))))), 151), none, some (.lst (.int .u8), 5)] y.2)) := (grun_26_v5 (p_57_v3 N) (p_12 N) (l_26_v5_4 N N) x k).trans (by kernel_rfl)
theorem good_26_v5 {R : Type} (N : Nat) : GD (X := R) Try.prog QQ 26 ap_26_v5 hp_26_v5 (fun (x : aden ap_26_v5 × hden hp_26_v5) k => p_26_v5 N x (fun y => k (Pat.inst (.ptr 0 []) y.1) (instH [some (.node (.fcons (.ptr 1 []) (.fcons (.vec (.int .u64) 8) (.fcons (.int .i64) (.fcons (.int .u64) (.fnil))))), 115), some (.node (.fcons (.int .i64) (.fcons (.bool) (.fcons (.sl 3) (.fcons (.int .i64) (.fnil))))), 151), none, some (.lst (.int .u8), 5)] y.2))) :=
  gd_loud (E := E_26_v5 N) (p := fun (x : aden ap_26_v5 × hden hp_26_v5) k => p_26_v5 N x (fun y => k (Pat.inst (.ptr 0 []) y.1) (instH [some (.node (.fcons (.ptr 1 []) (.fcons (.vec (.int .u64) 8) (.fcons (.int .i64) (.fcons (.int .u64) (.fnil))))), 115), some (.node (.fcons (.int .i64) (.fcons (.bool) (.fcons (.sl 3) (.fcons (.int .i64) (.fnil))))), 151), none, some (.lst (.int .u8), 5)] y.2))) mixed tyok (eok_26_v5 N) Try.func26 (by kernel_rfl) (by kernel_rfl) (by kernel_rfl) (lok_26_v5 N) (fun x k => run_26_v5 N x k)

def ap_22_v1 : List Pat := [.int .i64, .str, .ros (.str)]
def hp_22_v1 : List (Option (Pat × Nat)) := []
def p_22_v1 {R : Type} (N : Nat) (x : (Int × ByteArray × (List ByteArray) × Unit) × (Unit)) (κ0 : ((ByteArray × (Int × Unit)) × (Unit)) → Option R) : Option R :=
let i1152 : Int := x.1.1
let s1153 : ByteArray := x.1.2.1
let l1154 : (List ByteArray) := x.1.2.2.1
p_27 N ((i1152, s1153, ()), ()) (fun y1155 =>
let i1156 : Int := y1155.1.2.1
bif (i1156 != 0) then (
κ0 ((⟨#[]⟩, (i1156, ())), ())) else (
p_26_v3 N (((), l1154, ()), ()) (fun y1158 =>
p_25 N (((), ()), ()) (fun y1159 =>
let s1160 : ByteArray := y1159.1
κ0 ((s1160, (0, ())), ()))))) (fun y1161 =>
let i1162 : Int := y1161.1.2.1
let a1163 : (Nat → Int) := y1161.2.1.2.1
let i1164 : Int := y1161.2.1.2.2.1
let i1165 : Int := y1161.2.1.2.2.2.1
bif (i1162 != 0) then (
κ0 ((⟨#[]⟩, (i1162, ())), ())) else (
p_26_v4 N (((), l1154, ()), (((), (a1163, (i1164, (i1165, ())))), ())) (fun y1190 =>
let a1191 : (Nat → Int) := y1190.2.1.2.1
let i1192 : Int := y1190.2.1.2.2.1
let i1193 : Int := y1190.2.1.2.2.2.1
p_25_v1 N (((), ()), (((), (a1191, (i1192, (i1193, ())))), ())) (fun y1194 =>
let s1195 : ByteArray := y1194.1
let a1196 : (Nat → Int) := y1194.2.1.2.1
let i1197 : Int := y1194.2.1.2.2.1
let i1198 : Int := y1194.2.1.2.2.2.1
κ0 ((s1195, (0, ())), ()))))) (fun y1199 =>
let i1200 : Int := y1199.1.2.1
let a1201 : (Nat → Int) := y1199.2.1.2.1
let i1202 : Int := y1199.2.1.2.2.1
let i1203 : Int := y1199.2.1.2.2.2.1
let i1204 : Int := y1199.2.2.1.1
let b1205 : Bool := y1199.2.2.1.2.1
let i1206 : Int := y1199.2.2.1.2.2.2.1
let l1207 : (List Int) := y1199.2.2.2.1
bif (i1200 != 0) then (
κ0 ((⟨#[]⟩, (i1200, ())), ())) else (
p_26_v5 N (((), l1154, ()), (((), (a1201, (i1202, (i1203, ())))), (i1204, (b1205, ((), (i1206, ())))), l1207, ())) (fun y1401 =>
let a1402 : (Nat → Int) := y1401.2.1.2.1
let i1403 : Int := y1401.2.1.2.2.1
let i1404 : Int := y1401.2.1.2.2.2.1
let i1405 : Int := y1401.2.2.1.1
let b1406 : Bool := y1401.2.2.1.2.1
let i1407 : Int := y1401.2.2.1.2.2.2.1
let l1408 : (List Int) := y1401.2.2.2.1
p_25_v2 N (((), ()), (((), (a1402, (i1403, (i1404, ())))), (i1405, (b1406, ((), (i1407, ())))), l1408, ())) (fun y1409 =>
let s1410 : ByteArray := y1409.1
let a1411 : (Nat → Int) := y1409.2.1.2.1
let i1412 : Int := y1409.2.1.2.2.1
let i1413 : Int := y1409.2.1.2.2.2.1
let i1414 : Int := y1409.2.2.1.1
let b1415 : Bool := y1409.2.2.1.2.1
let i1416 : Int := y1409.2.2.1.2.2.2.1
let l1417 : (List Int) := y1409.2.2.2.1
κ0 ((s1410, (0, ())), ())))))

abbrev Tp_22_v1 (R : Type) : Type := (Int × ByteArray × (List ByteArray) × Unit) × (Unit) → (((ByteArray × (Int × Unit)) × (Unit)) → Option R) → Option R
def Q_22_v1 {R : Type} (q_27 : Tp_27 R) (q_26_v3 : Tp_26_v3 R) (q_25 : Tp_25 R) (q_26_v4 : Tp_26_v4 R) (q_25_v1 : Tp_25_v1 R) (q_26_v5 : Tp_26_v5 R) (q_25_v2 : Tp_25_v2 R) (x : (Int × ByteArray × (List ByteArray) × Unit) × (Unit)) (κ0 : ((ByteArray × (Int × Unit)) × (Unit)) → Option R) : Option R :=
let i1152 : Int := x.1.1
let s1153 : ByteArray := x.1.2.1
let l1154 : (List ByteArray) := x.1.2.2.1
q_27 ((i1152, s1153, ()), ()) (fun y1155 =>
let i1156 : Int := y1155.1.2.1
bif (i1156 != 0) then (
κ0 ((⟨#[]⟩, (i1156, ())), ())) else (
q_26_v3 (((), l1154, ()), ()) (fun y1158 =>
q_25 (((), ()), ()) (fun y1159 =>
let s1160 : ByteArray := y1159.1
κ0 ((s1160, (0, ())), ()))))) (fun y1161 =>
let i1162 : Int := y1161.1.2.1
let a1163 : (Nat → Int) := y1161.2.1.2.1
let i1164 : Int := y1161.2.1.2.2.1
let i1165 : Int := y1161.2.1.2.2.2.1
bif (i1162 != 0) then (
κ0 ((⟨#[]⟩, (i1162, ())), ())) else (
q_26_v4 (((), l1154, ()), (((), (a1163, (i1164, (i1165, ())))), ())) (fun y1190 =>
let a1191 : (Nat → Int) := y1190.2.1.2.1
let i1192 : Int := y1190.2.1.2.2.1
let i1193 : Int := y1190.2.1.2.2.2.1
q_25_v1 (((), ()), (((), (a1191, (i1192, (i1193, ())))), ())) (fun y1194 =>
let s1195 : ByteArray := y1194.1
let a1196 : (Nat → Int) := y1194.2.1.2.1
let i1197 : Int := y1194.2.1.2.2.1
let i1198 : Int := y1194.2.1.2.2.2.1
κ0 ((s1195, (0, ())), ()))))) (fun y1199 =>
let i1200 : Int := y1199.1.2.1
let a1201 : (Nat → Int) := y1199.2.1.2.1
let i1202 : Int := y1199.2.1.2.2.1
let i1203 : Int := y1199.2.1.2.2.2.1
let i1204 : Int := y1199.2.2.1.1
let b1205 : Bool := y1199.2.2.1.2.1
let i1206 : Int := y1199.2.2.1.2.2.2.1
let l1207 : (List Int) := y1199.2.2.2.1
bif (i1200 != 0) then (
κ0 ((⟨#[]⟩, (i1200, ())), ())) else (
q_26_v5 (((), l1154, ()), (((), (a1201, (i1202, (i1203, ())))), (i1204, (b1205, ((), (i1206, ())))), l1207, ())) (fun y1401 =>
let a1402 : (Nat → Int) := y1401.2.1.2.1
let i1403 : Int := y1401.2.1.2.2.1
let i1404 : Int := y1401.2.1.2.2.2.1
let i1405 : Int := y1401.2.2.1.1
let b1406 : Bool := y1401.2.2.1.2.1
let i1407 : Int := y1401.2.2.1.2.2.2.1
let l1408 : (List Int) := y1401.2.2.2.1
q_25_v2 (((), ()), (((), (a1402, (i1403, (i1404, ())))), (i1405, (b1406, ((), (i1407, ())))), l1408, ())) (fun y1409 =>
let s1410 : ByteArray := y1409.1
let a1411 : (Nat → Int) := y1409.2.1.2.1
let i1412 : Int := y1409.2.1.2.2.1
let i1413 : Int := y1409.2.1.2.2.2.1
let i1414 : Int := y1409.2.2.1.1
let b1415 : Bool := y1409.2.2.1.2.1
let i1416 : Int := y1409.2.2.1.2.2.2.1
let l1417 : (List Int) := y1409.2.2.2.1
κ0 ((s1410, (0, ())), ())))))
def EG_22_v1 {R : Type} (q_27 : Tp_27 R) (q_26_v3 : Tp_26_v3 R) (q_25 : Tp_25 R) (q_26_v4 : Tp_26_v4 R) (q_25_v1 : Tp_25_v1 R) (q_26_v5 : Tp_26_v5 R) (q_25_v2 : Tp_25_v2 R) : Env R := (((((((Env.base QQ LN).add 27 ap_27 hp_27 (fun (x : aden ap_27 × hden hp_27) k => q_27 x (fun y => k (Pat.inst (.tup (.fcons (.nilp) (.fcons (.int .i64) (.fnil)))) y.1) (instH [] y.2)) (fun y => k (Pat.inst (.tup (.fcons (.ptr 0 []) (.fcons (.int .i64) (.fnil)))) y.1) (instH [some (.node (.fcons (.nilp) (.fcons (.vec (.int .u64) 8) (.fcons (.int .i64) (.fcons (.int .u64) (.fnil))))), 115)] y.2)) (fun y => k (Pat.inst (.tup (.fcons (.ptr 0 []) (.fcons (.int .i64) (.fnil)))) y.1) (instH [some (.node (.fcons (.ptr 1 []) (.fcons (.vec (.int .u64) 8) (.fcons (.int .i64) (.fcons (.int .u64) (.fnil))))), 115), some (.node (.fcons (.int .i64) (.fcons (.bool) (.fcons (.sl 2) (.fcons (.int .i64) (.fnil))))), 151), some (.lst (.int .u8), 5)] y.2)))).add 26 ap_26_v3 hp_26_v3 (fun (x : aden ap_26_v3 × hden hp_26_v3) k => q_26_v3 x (fun y => k (Pat.inst (.nilp) y.1) (instH [] y.2)))).add 25 ap_25 hp_25 (fun (x : aden ap_25 × hden hp_25) k => q_25 x (fun y => k (Pat.inst (.str) y.1) (instH [] y.2)))).add 26 ap_26_v4 hp_26_v4 (fun (x : aden ap_26_v4 × hden hp_26_v4) k => q_26_v4 x (fun y => k (Pat.inst (.ptr 0 []) y.1) (instH [some (.node (.fcons (.nilp) (.fcons (.vec (.int .u64) 8) (.fcons (.int .i64) (.fcons (.int .u64) (.fnil))))), 115)] y.2)))).add 25 ap_25_v1 hp_25_v1 (fun (x : aden ap_25_v1 × hden hp_25_v1) k => q_25_v1 x (fun y => k (Pat.inst (.str) y.1) (instH [some (.node (.fcons (.nilp) (.fcons (.vec (.int .u64) 8) (.fcons (.int .i64) (.fcons (.int .u64) (.fnil))))), 115)] y.2)))).add 26 ap_26_v5 hp_26_v5 (fun (x : aden ap_26_v5 × hden hp_26_v5) k => q_26_v5 x (fun y => k (Pat.inst (.ptr 0 []) y.1) (instH [some (.node (.fcons (.ptr 1 []) (.fcons (.vec (.int .u64) 8) (.fcons (.int .i64) (.fcons (.int .u64) (.fnil))))), 115), some (.node (.fcons (.int .i64) (.fcons (.bool) (.fcons (.sl 3) (.fcons (.int .i64) (.fnil))))), 151), none, some (.lst (.int .u8), 5)] y.2)))).add 25 ap_25_v2 hp_25_v2 (fun (x : aden ap_25_v2 × hden hp_25_v2) k => q_25_v2 x (fun y => k (Pat.inst (.str) y.1) (instH [some (.node (.fcons (.ptr 1 []) (.fcons (.vec (.int .u64) 8) (.fcons (.int .i64) (.fcons (.int .u64) (.fnil))))), 115), some (.node (.fcons (.int .i64) (.fcons (.bool) (.fcons (.sl 2) (.fcons (.int .i64) (.fnil))))), 151), some (.lst (.int .u8), 5)] y.2)))
def LG_22_v1 {R : Type} : Loops R := Loops.none
def E_22_v1 {R : Type} (N : Nat) : Env R := EG_22_v1 (p_27 N) (p_26_v3 N) (p_25 N) (p_26_v4 N) (p_25_v1 N) (p_26_v5 N) (p_25_v2 N)
theorem eok_22_v1 {R : Type} (N : Nat) : EK Try.prog (E_22_v1 (R := R) N) := ek_add (ek_add (ek_add (ek_add (ek_add (ek_add (ek_add (ek_base _ _) (good_27 N)) (good_26_v3 N)) (good_25 N)) (good_26_v4 N)) (good_25_v1 N)) (good_26_v5 N)) (good_25_v2 N)
def L_22_v1 {R : Type} (N : Nat) : Loops R := LG_22_v1
theorem lok_22_v1 {R : Type} (N : Nat) : LOK 0 TT (E_22_v1 (R := R) N) (drawAny TT WW) (L_22_v1 N) (bodyOf Try.f22) := loops_nil (by kernel_rfl)
theorem grun_22_v1 {R : Type} (q_27 : Tp_27 R) (q_26_v3 : Tp_26_v3 R) (q_25 : Tp_25 R) (q_26_v4 : Tp_26_v4 R) (q_25_v1 : Tp_25_v1 R) (q_26_v5 : Tp_26_v5 R) (q_25_v2 : Tp_25_v2 R) (x : aden ap_22_v1 × hden hp_22_v1) (k : KF R) : fnrun TT (EG_22_v1 q_27 q_26_v3 q_25 q_26_v4 q_25_v1 q_26_v5 q_25_v2) (drawAny TT WW) (LG_22_v1) true Try.f22 (instA ap_22_v1 x.1) (instH hp_22_v1 x.2) k = Q_22_v1 q_27 q_26_v3 q_25 q_26_v4 q_25_v1 q_26_v5 q_25_v2 x (fun y => k (Pat.inst (.tup (.fcons (.str) (.fcons (.int .i64) (.fnil)))) y.1) (instH [] y.2)) := by kernel_rfl
theorem run_22_v1 {R : Type} (N : Nat) (x : aden ap_22_v1 × hden hp_22_v1) (k : KF R) : fnrun TT (E_22_v1 (R := R) N) (drawAny TT WW) (L_22_v1 N) true Try.f22 (instA ap_22_v1 x.1) (instH hp_22_v1 x.2) k = p_22_v1 N x (fun y => k (Pat.inst (.tup (.fcons (.str) (.fcons (.int .i64) (.fnil)))) y.1) (instH [] y.2)) := (grun_22_v1 (p_27 N) (p_26_v3 N) (p_25 N) (p_26_v4 N) (p_25_v1 N) (p_26_v5 N) (p_25_v2 N) x k).trans (by kernel_rfl)
theorem good_22_v1 {R : Type} (N : Nat) : GD (X := R) Try.prog QQ 22 ap_22_v1 hp_22_v1 (fun (x : aden ap_22_v1 × hden hp_22_v1) k => p_22_v1 N x (fun y => k (Pat.inst (.tup (.fcons (.str) (.fcons (.int .i64) (.fnil)))) y.1) (instH [] y.2))) :=
  gd_loud (E := E_22_v1 N) (p := fun (x : aden ap_22_v1 × hden hp_22_v1) k => p_22_v1 N x (fun y => k (Pat.inst (.tup (.fcons (.str) (.fcons (.int .i64) (.fnil)))) y.1) (instH [] y.2))) mixed tyok (eok_22_v1 N) Try.func22 (by kernel_rfl) (by kernel_rfl) (by kernel_rfl) (lok_22_v1 N) (fun x k => run_22_v1 N x k)

def ap_14 : List Pat := []
def hp_14 : List (Option (Pat × Nat)) := []
def p_14 {R : Type} (N : Nat) (x : (Unit) × (Unit)) (κ0 : (Nat → Int) → Option R) : Option R :=
let a1422 : (Nat → Int) := (upd ((upd ((upd ((upd ((upd ((upd ((upd ((upd ((Sch.zero (.arr 8 (.int .u64)))) 0 7640891576956012808)) 1 13503953896175478587)) 2 4354685564936845355)) 3 11912009170470909681)) 4 5840696475078001361)) 5 11170449401992604703)) 6 2270897969802886507)) 7 6620516959819538809)
κ0 a1422

abbrev Tp_14 (R : Type) : Type := (Unit) × (Unit) → ((Nat → Int) → Option R) → Option R
def Q_14 {R : Type} (x : (Unit) × (Unit)) (κ0 : (Nat → Int) → Option R) : Option R :=
let a1422 : (Nat → Int) := (upd ((upd ((upd ((upd ((upd ((upd ((upd ((upd ((Sch.zero (.arr 8 (.int .u64)))) 0 7640891576956012808)) 1 13503953896175478587)) 2 4354685564936845355)) 3 11912009170470909681)) 4 5840696475078001361)) 5 11170449401992604703)) 6 2270897969802886507)) 7 6620516959819538809)
κ0 a1422
def EG_14 {R : Type} : Env R := Env.base QQ LN
def LG_14 {R : Type} : Loops R := Loops.none
def E_14 {R : Type} (N : Nat) : Env R := EG_14
theorem eok_14 {R : Type} (N : Nat) : EK Try.prog (E_14 (R := R) N) := ek_base _ _
def L_14 {R : Type} (N : Nat) : Loops R := LG_14
theorem lok_14 {R : Type} (N : Nat) : LOK 0 TT (E_14 (R := R) N) (drawAny TT WW) (L_14 N) (bodyOf Try.f14) := loops_nil (by kernel_rfl)
theorem grun_14 {R : Type} (x : aden ap_14 × hden hp_14) (k : KF R) : fnrun TT (EG_14) (drawAny TT WW) (LG_14) true Try.f14 (instA ap_14 x.1) (instH hp_14 x.2) k = Q_14 x (fun y => k (Pat.inst (.vec (.int .u64) 8) y) (instH hp_14 x.2)) := by kernel_rfl
theorem run_14 {R : Type} (N : Nat) (x : aden ap_14 × hden hp_14) (k : KF R) : fnrun TT (E_14 (R := R) N) (drawAny TT WW) (L_14 N) true Try.f14 (instA ap_14 x.1) (instH hp_14 x.2) k = p_14 N x (fun y => k (Pat.inst (.vec (.int .u64) 8) y) (instH hp_14 x.2)) := (grun_14 x k).trans (by kernel_rfl)
theorem good_14 {R : Type} (N : Nat) : GD (X := R) Try.prog QQ 14 ap_14 hp_14 (fun (x : aden ap_14 × hden hp_14) k => p_14 N x (fun y => k (Pat.inst (.vec (.int .u64) 8) y) (instH hp_14 x.2))) :=
  gd_quiet (E := E_14 N) (p := fun (x : aden ap_14 × hden hp_14) κ => p_14 N x (fun y => κ (Pat.inst (.vec (.int .u64) 8) y))) mixed tyok (eok_14 N) Try.func14 (by kernel_rfl) (by kernel_rfl) (lok_14 N) (fun x k => run_14 N x k)

def lv_24_3 : Live := [(0, none), (3, none), (4, none)]
def pt_24_3 : SPat := ⟨[(0, .ros (.str)), (3, .str), (4, .int .i64)], []⟩
def px_24_3_0 : SPat := ⟨[(3, .str)], []⟩
def lo_24_3 : Exit → Live
  | .exit 0 => [(3, none)]
  | _ => []
def B_24_3 {R : Type} (N : Nat) (rec : (((List ByteArray) × ByteArray × Int × Unit) × (Unit)) → Option R) (x : (((List ByteArray) × ByteArray × Int × Unit) × (Unit))) (κ0 : ((ByteArray × Unit) × (Unit)) → Option R) : Option R :=
let l1426 : (List ByteArray) := x.1.1
let s1427 : ByteArray := x.1.2.1
let i1428 : Int := x.1.2.2.1
let i1429 : Int := (((List.length l1426) : Nat) : Int)
bif (decide (i1428 < i1429)) then (
bif decide (0 ≤ i1428) then (
bif decide (i1428 < ((List.length l1426) : Int)) then (
let p1430 : ByteArray := (List.getD l1426 ((Int.toNat i1428)) (Sch.zero (.str)))
bif decide (ByteArray.size s1427 + ByteArray.size p1430 ≤ maxI64) then (
let s1431 : ByteArray := (s1427 ++ p1430)
let i1432 : Int := addA .i64 i1428 1
rec ((l1426, s1431, i1432, ()), ())) else none) else none) else none) else (
κ0 ((s1427, ()), ()))
def l_24_3 {R : Type} (N : Nat) : Nat → (((List ByteArray) × ByteArray × Int × Unit) × (Unit)) → (((ByteArray × Unit) × (Unit)) → Option R) → Option R
  | 0, _, _ => none
  | n + 1, x, κ0 => B_24_3 N (fun y => l_24_3 N n y κ0) x κ0
def ap_24 : List Pat := [.ros (.str)]
def hp_24 : List (Option (Pat × Nat)) := []
def p_24 {R : Type} (N : Nat) (x : ((List ByteArray) × Unit) × (Unit)) (κ0 : ByteArray → Option R) : Option R :=
let l1425 : (List ByteArray) := x.1.1
l_24_3 N N ((l1425, ⟨#[]⟩, 0, ()), ()) (fun y1433 =>
let s1434 : ByteArray := y1433.1.1
κ0 s1434)

abbrev Tl_24_3 (R : Type) : Type := (((List ByteArray) × ByteArray × Int × Unit) × (Unit)) → (((ByteArray × Unit) × (Unit)) → Option R) → Option R
abbrev Tp_24 (R : Type) : Type := ((List ByteArray) × Unit) × (Unit) → (ByteArray → Option R) → Option R
def Q_24 {R : Type} (m_24_3 : Tl_24_3 R) (x : ((List ByteArray) × Unit) × (Unit)) (κ0 : ByteArray → Option R) : Option R :=
let l1425 : (List ByteArray) := x.1.1
m_24_3 ((l1425, ⟨#[]⟩, 0, ()), ()) (fun y1433 =>
let s1434 : ByteArray := y1433.1.1
κ0 s1434)
def C_24_3 {R : Type} (m_24_3 : Tl_24_3 R) (rec : (((List ByteArray) × ByteArray × Int × Unit) × (Unit)) → Option R) (x : (((List ByteArray) × ByteArray × Int × Unit) × (Unit))) (κ0 : ((ByteArray × Unit) × (Unit)) → Option R) : Option R :=
let l1426 : (List ByteArray) := x.1.1
let s1427 : ByteArray := x.1.2.1
let i1428 : Int := x.1.2.2.1
let i1429 : Int := (((List.length l1426) : Nat) : Int)
bif (decide (i1428 < i1429)) then (
bif decide (0 ≤ i1428) then (
bif decide (i1428 < ((List.length l1426) : Int)) then (
let p1430 : ByteArray := (List.getD l1426 ((Int.toNat i1428)) (Sch.zero (.str)))
bif decide (ByteArray.size s1427 + ByteArray.size p1430 ≤ maxI64) then (
let s1431 : ByteArray := (s1427 ++ p1430)
let i1432 : Int := addA .i64 i1428 1
rec ((l1426, s1431, i1432, ()), ())) else none) else none) else none) else (
κ0 ((s1427, ()), ()))
def EG_24 {R : Type} : Env R := Env.base QQ LN
def LG_24 {R : Type} (m_24_3 : Tl_24_3 R) : Loops R := (Loops.none).add 3 (loopBy 0 lv_24_3 pt_24_3 (fun x k => m_24_3 x (fun y => k (.exit 0) (px_24_3_0.inst y))))
def E_24 {R : Type} (N : Nat) : Env R := EG_24
theorem eok_24 {R : Type} (N : Nat) : EK Try.prog (E_24 (R := R) N) := ek_base _ _
def L_24 {R : Type} (N : Nat) : Loops R := LG_24 (l_24_3 N N)
theorem gstep_24_3 {R : Type} (m_24_3 : Tl_24_3 R) (n : Nat) (x : pt_24_3.den) (k : Exit → St → Option R) : iter 0 lv_24_3 lo_24_3 (aexec TT (EG_24) (drawAny TT WW) (LG_24 m_24_3) (loopAt 3 (bodyOf Try.f24))) (n + 1) (pt_24_3.inst x) k = C_24_3 m_24_3 (fun y => iter 0 lv_24_3 lo_24_3 (aexec TT (EG_24) (drawAny TT WW) (LG_24 m_24_3) (loopAt 3 (bodyOf Try.f24))) n (pt_24_3.inst y) k) x (fun y => k (.exit 0) (px_24_3_0.inst y)) := by kernel_rfl
theorem step_24_3 {R : Type} (N n : Nat) (x : pt_24_3.den) (k : Exit → St → Option R) : iter 0 lv_24_3 lo_24_3 (aexec TT (E_24 (R := R) N) (drawAny TT WW) (L_24 N) (loopAt 3 (bodyOf Try.f24))) (n + 1) (pt_24_3.inst x) k = B_24_3 N (fun y => iter 0 lv_24_3 lo_24_3 (aexec TT (E_24 (R := R) N) (drawAny TT WW) (L_24 N) (loopAt 3 (bodyOf Try.f24))) n (pt_24_3.inst y) k) x (fun y => k (.exit 0) (px_24_3_0.inst y)) := (gstep_24_3 (l_24_3 N N) n x k).trans (by kernel_rfl)
theorem eq_24_3 {R : Type} (N : Nat) : ∀ (n : Nat) (x : pt_24_3.den) (k : Exit → St → Option R), iter 0 lv_24_3 lo_24_3 (aexec TT (E_24 (R := R) N) (drawAny TT WW) (L_24 N) (loopAt 3 (bodyOf Try.f24))) n (pt_24_3.inst x) k = l_24_3 N n x (fun y => k (.exit 0) (px_24_3_0.inst y)) :=
  iter_eq (K := Exit → St → Option R) (ks := fun k => k) (l := fun n (x : pt_24_3.den) k => l_24_3 N n x (fun y => k (.exit 0) (px_24_3_0.inst y))) (B := fun (rec : pt_24_3.den → Option R) (x : pt_24_3.den) k => B_24_3 N rec x (fun y => k (.exit 0) (px_24_3_0.inst y))) (fun _ _ => rfl) (fun _ _ _ => rfl) (fun n x k => step_24_3 N n x k)
theorem rounds_24_3 {R : Type} (N : Nat) : Rounds 0 TT (E_24 (R := R) N) (drawAny TT WW) (L_24 N) 3 (loopAt 3 (bodyOf Try.f24)) :=
  rounds_of (p := pt_24_3) (l := fun (x : pt_24_3.den) k => l_24_3 N N x (fun y => k (.exit 0) (px_24_3_0.inst y))) (fun s k => rfl) (fun x k => eq_24_3 N N x k)
theorem loops_24 : loopsIn (bodyOf Try.f24) = [(3, loopAt 3 (bodyOf Try.f24))] := by kernel_rfl
theorem lok_24 {R : Type} (N : Nat) : LOK 0 TT (E_24 (R := R) N) (drawAny TT WW) (L_24 N) (bodyOf Try.f24) := loops_all loops_24 (by
  simp only [List.forall_mem_cons, List.not_mem_nil, false_implies, implies_true, and_true]
  exact rounds_24_3 N)
theorem grun_24 {R : Type} (m_24_3 : Tl_24_3 R) (x : aden ap_24 × hden hp_24) (k : KF R) : fnrun TT (EG_24) (drawAny TT WW) (LG_24 m_24_3) true Try.f24 (instA ap_24 x.1) (instH hp_24 x.2) k = Q_24 m_24_3 x (fun y => k (Pat.inst (.str) y) (instH hp_24 x.2)) := by kernel_rfl
theorem run_24 {R : Type} (N : Nat) (x : aden ap_24 × hden hp_24) (k : KF R) : fnrun TT (E_24 (R := R) N) (drawAny TT WW) (L_24 N) true Try.f24 (instA ap_24 x.1) (instH hp_24 x.2) k = p_24 N x (fun y => k (Pat.inst (.str) y) (instH hp_24 x.2)) := (grun_24 (l_24_3 N N) x k).trans (by kernel_rfl)
theorem good_24 {R : Type} (N : Nat) : GD (X := R) Try.prog QQ 24 ap_24 hp_24 (fun (x : aden ap_24 × hden hp_24) k => p_24 N x (fun y => k (Pat.inst (.str) y) (instH hp_24 x.2))) :=
  gd_quiet (E := E_24 N) (p := fun (x : aden ap_24 × hden hp_24) κ => p_24 N x (fun y => κ (Pat.inst (.str) y))) mixed tyok (eok_24 N) Try.func24 (by kernel_rfl) (by kernel_rfl) (lok_24 N) (fun x k => run_24 N x k)

def lv_53_1 : Live := [(0, none), (1, none)]
def pt_53_1 : SPat := ⟨[(0, .str), (1, .int .i64)], []⟩
def px_53_1_0 : SPat := ⟨[(0, .str)], []⟩
def lo_53_1 : Exit → Live
  | .exit 0 => [(0, none)]
  | _ => []
def B_53_1 {R : Type} (N : Nat) (rec : ((ByteArray × Int × Unit) × (Unit)) → Option R) (x : ((ByteArray × Int × Unit) × (Unit))) (κ0 : ((ByteArray × Unit) × (Unit)) → Option R) : Option R :=
let s1452 : ByteArray := x.1.1
let i1453 : Int := x.1.2.1
let i1454 : Int := ((ByteArray.size s1452 : Nat) : Int)
bif (decide (i1454 < i1453)) then (
bif decide (ByteArray.size s1452 + ByteArray.size (⟨#[0]⟩) ≤ maxI64) then (
let s1455 : ByteArray := (s1452 ++ ⟨#[0]⟩)
rec ((s1455, i1453, ()), ())) else none) else (
κ0 ((s1452, ()), ()))
def l_53_1 {R : Type} (N : Nat) : Nat → ((ByteArray × Int × Unit) × (Unit)) → (((ByteArray × Unit) × (Unit)) → Option R) → Option R
  | 0, _, _ => none
  | n + 1, x, κ0 => B_53_1 N (fun y => l_53_1 N n y κ0) x κ0
def ap_53 : List Pat := [.str, .int .i64]
def hp_53 : List (Option (Pat × Nat)) := []
def p_53 {R : Type} (N : Nat) (x : (ByteArray × Int × Unit) × (Unit)) (κ0 : ByteArray → Option R) : Option R :=
let s1450 : ByteArray := x.1.1
let i1451 : Int := x.1.2.1
l_53_1 N N ((s1450, i1451, ()), ()) (fun y1456 =>
let s1457 : ByteArray := y1456.1.1
κ0 s1457)

abbrev Tl_53_1 (R : Type) : Type := ((ByteArray × Int × Unit) × (Unit)) → (((ByteArray × Unit) × (Unit)) → Option R) → Option R
abbrev Tp_53 (R : Type) : Type := (ByteArray × Int × Unit) × (Unit) → (ByteArray → Option R) → Option R
def Q_53 {R : Type} (m_53_1 : Tl_53_1 R) (x : (ByteArray × Int × Unit) × (Unit)) (κ0 : ByteArray → Option R) : Option R :=
let s1450 : ByteArray := x.1.1
let i1451 : Int := x.1.2.1
m_53_1 ((s1450, i1451, ()), ()) (fun y1456 =>
let s1457 : ByteArray := y1456.1.1
κ0 s1457)
def C_53_1 {R : Type} (m_53_1 : Tl_53_1 R) (rec : ((ByteArray × Int × Unit) × (Unit)) → Option R) (x : ((ByteArray × Int × Unit) × (Unit))) (κ0 : ((ByteArray × Unit) × (Unit)) → Option R) : Option R :=
let s1452 : ByteArray := x.1.1
let i1453 : Int := x.1.2.1
let i1454 : Int := ((ByteArray.size s1452 : Nat) : Int)
bif (decide (i1454 < i1453)) then (
bif decide (ByteArray.size s1452 + ByteArray.size (⟨#[0]⟩) ≤ maxI64) then (
let s1455 : ByteArray := (s1452 ++ ⟨#[0]⟩)
rec ((s1455, i1453, ()), ())) else none) else (
κ0 ((s1452, ()), ()))
def EG_53 {R : Type} : Env R := Env.base QQ LN
def LG_53 {R : Type} (m_53_1 : Tl_53_1 R) : Loops R := (Loops.none).add 1 (loopBy 0 lv_53_1 pt_53_1 (fun x k => m_53_1 x (fun y => k (.exit 0) (px_53_1_0.inst y))))
def E_53 {R : Type} (N : Nat) : Env R := EG_53
theorem eok_53 {R : Type} (N : Nat) : EK Try.prog (E_53 (R := R) N) := ek_base _ _
def L_53 {R : Type} (N : Nat) : Loops R := LG_53 (l_53_1 N N)
theorem gstep_53_1 {R : Type} (m_53_1 : Tl_53_1 R) (n : Nat) (x : pt_53_1.den) (k : Exit → St → Option R) : iter 0 lv_53_1 lo_53_1 (aexec TT (EG_53) (drawAny TT WW) (LG_53 m_53_1) (loopAt 1 (bodyOf Try.f53))) (n + 1) (pt_53_1.inst x) k = C_53_1 m_53_1 (fun y => iter 0 lv_53_1 lo_53_1 (aexec TT (EG_53) (drawAny TT WW) (LG_53 m_53_1) (loopAt 1 (bodyOf Try.f53))) n (pt_53_1.inst y) k) x (fun y => k (.exit 0) (px_53_1_0.inst y)) := by kernel_rfl
theorem step_53_1 {R : Type} (N n : Nat) (x : pt_53_1.den) (k : Exit → St → Option R) : iter 0 lv_53_1 lo_53_1 (aexec TT (E_53 (R := R) N) (drawAny TT WW) (L_53 N) (loopAt 1 (bodyOf Try.f53))) (n + 1) (pt_53_1.inst x) k = B_53_1 N (fun y => iter 0 lv_53_1 lo_53_1 (aexec TT (E_53 (R := R) N) (drawAny TT WW) (L_53 N) (loopAt 1 (bodyOf Try.f53))) n (pt_53_1.inst y) k) x (fun y => k (.exit 0) (px_53_1_0.inst y)) := (gstep_53_1 (l_53_1 N N) n x k).trans (by kernel_rfl)
theorem eq_53_1 {R : Type} (N : Nat) : ∀ (n : Nat) (x : pt_53_1.den) (k : Exit → St → Option R), iter 0 lv_53_1 lo_53_1 (aexec TT (E_53 (R := R) N) (drawAny TT WW) (L_53 N) (loopAt 1 (bodyOf Try.f53))) n (pt_53_1.inst x) k = l_53_1 N n x (fun y => k (.exit 0) (px_53_1_0.inst y)) :=
  iter_eq (K := Exit → St → Option R) (ks := fun k => k) (l := fun n (x : pt_53_1.den) k => l_53_1 N n x (fun y => k (.exit 0) (px_53_1_0.inst y))) (B := fun (rec : pt_53_1.den → Option R) (x : pt_53_1.den) k => B_53_1 N rec x (fun y => k (.exit 0) (px_53_1_0.inst y))) (fun _ _ => rfl) (fun _ _ _ => rfl) (fun n x k => step_53_1 N n x k)
theorem rounds_53_1 {R : Type} (N : Nat) : Rounds 0 TT (E_53 (R := R) N) (drawAny TT WW) (L_53 N) 1 (loopAt 1 (bodyOf Try.f53)) :=
  rounds_of (p := pt_53_1) (l := fun (x : pt_53_1.den) k => l_53_1 N N x (fun y => k (.exit 0) (px_53_1_0.inst y))) (fun s k => rfl) (fun x k => eq_53_1 N N x k)
theorem loops_53 : loopsIn (bodyOf Try.f53) = [(1, loopAt 1 (bodyOf Try.f53))] := by kernel_rfl
theorem lok_53 {R : Type} (N : Nat) : LOK 0 TT (E_53 (R := R) N) (drawAny TT WW) (L_53 N) (bodyOf Try.f53) := loops_all loops_53 (by
  simp only [List.forall_mem_cons, List.not_mem_nil, false_implies, implies_true, and_true]
  exact rounds_53_1 N)
theorem grun_53 {R : Type} (m_53_1 : Tl_53_1 R) (x : aden ap_53 × hden hp_53) (k : KF R) : fnrun TT (EG_53) (drawAny TT WW) (LG_53 m_53_1) true Try.f53 (instA ap_53 x.1) (instH hp_53 x.2) k = Q_53 m_53_1 x (fun y => k (Pat.inst (.str) y) (instH hp_53 x.2)) := by kernel_rfl
theorem run_53 {R : Type} (N : Nat) (x : aden ap_53 × hden hp_53) (k : KF R) : fnrun TT (E_53 (R := R) N) (drawAny TT WW) (L_53 N) true Try.f53 (instA ap_53 x.1) (instH hp_53 x.2) k = p_53 N x (fun y => k (Pat.inst (.str) y) (instH hp_53 x.2)) := (grun_53 (l_53_1 N N) x k).trans (by kernel_rfl)
theorem good_53 {R : Type} (N : Nat) : GD (X := R) Try.prog QQ 53 ap_53 hp_53 (fun (x : aden ap_53 × hden hp_53) k => p_53 N x (fun y => k (Pat.inst (.str) y) (instH hp_53 x.2))) :=
  gd_quiet (E := E_53 N) (p := fun (x : aden ap_53 × hden hp_53) κ => p_53 N x (fun y => κ (Pat.inst (.str) y))) mixed tyok (eok_53 N) Try.func53 (by kernel_rfl) (by kernel_rfl) (lok_53 N) (fun x k => run_53 N x k)

def lv_49_9 : Live := [(0, none), (1, none), (6, none), (7, none), (8, none), (9, none)]
def pt_49_9 : SPat := ⟨[(0, .sl 0), (1, .int .i64), (6, .sl 1), (7, .int .i64), (8, .int .u64), (9, .int .i64)], [some (.lst (.int .u8), 5), some (.lst (.int .u64), 22)]⟩
def px_49_9_0 : SPat := ⟨[(0, .sl 0), (1, .int .i64), (6, .sl 1), (7, .int .i64), (8, .int .u64)], [some (.lst (.int .u8), 5), some (.lst (.int .u64), 22)]⟩
def lo_49_9 : Exit → Live
  | .exit 2 => [(0, none), (1, none), (6, none), (7, none), (8, none)]
  | _ => []
def B_49_9 {R : Type} (N : Nat) (rec : ((Unit × Int × Unit × Int × Int × Int × Unit) × ((List Int) × (List Int) × Unit)) → Option R) (x : ((Unit × Int × Unit × Int × Int × Int × Unit) × ((List Int) × (List Int) × Unit))) (κ0 : ((Unit × Int × Unit × Int × Int × Unit) × ((List Int) × (List Int) × Unit)) → Option R) : Option R :=
let i1511 : Int := x.1.2.1
let i1512 : Int := x.1.2.2.2.1
let i1513 : Int := x.1.2.2.2.2.1
let i1514 : Int := x.1.2.2.2.2.2.1
let l1515 : (List Int) := x.2.1
let l1516 : (List Int) := x.2.2.1
bif (decide (i1514 ≥ 0)) then (
let i1517 : Int := mulA .u64 256 i1513
let i1518 : Int := addA .i64 i1512 i1514
bif decide (0 ≤ i1518) then (
bif decide (i1518 < ((List.length l1515) : Int)) then (
let i1519 : Int := (List.getD l1515 ((Int.toNat i1518)) (Sch.zero (.int .u8)))
let i1520 : Int := IntKind.wrap .u64 i1519
let i1521 : Int := addA .u64 i1517 i1520
let i1522 : Int := subA .i64 i1514 1
rec (((), i1511, (), i1512, i1521, i1522, ()), (l1515, l1516, ()))) else none) else none) else (
κ0 (((), i1511, (), i1512, i1513, ()), (l1515, l1516, ())))
def l_49_9 {R : Type} (N : Nat) : Nat → ((Unit × Int × Unit × Int × Int × Int × Unit) × ((List Int) × (List Int) × Unit)) → (((Unit × Int × Unit × Int × Int × Unit) × ((List Int) × (List Int) × Unit)) → Option R) → Option R
  | 0, _, _ => none
  | n + 1, x, κ0 => B_49_9 N (fun y => l_49_9 N n y κ0) x κ0
def lv_49_5 : Live := [(0, none), (1, none), (6, some (.int .u64, 22)), (7, none)]
def pt_49_5 : SPat := ⟨[(0, .sl 0), (1, .int .i64), (6, .sl 1), (7, .int .i64)], [some (.lst (.int .u8), 5), some (.lst (.int .u64), 22)]⟩
def px_49_5_0 : SPat := ⟨[(6, .sl 1)], [some (.lst (.int .u8), 5), some (.lst (.int .u64), 22)]⟩
def lo_49_5 : Exit → Live
  | .exit 0 => [(6, none)]
  | _ => []
def B_49_5 {R : Type} (N : Nat) (rec : ((Unit × Int × Unit × Int × Unit) × ((List Int) × (List Int) × Unit)) → Option R) (x : ((Unit × Int × Unit × Int × Unit) × ((List Int) × (List Int) × Unit))) (κ0 : ((Unit × Unit) × ((List Int) × (List Int) × Unit)) → Option R) : Option R :=
let i1505 : Int := x.1.2.1
let i1506 : Int := x.1.2.2.2.1
let l1507 : (List Int) := x.2.1
let l1508 : (List Int) := x.2.2.1
let i1509 : Int := (((List.length l1507) : Nat) : Int)
bif (decide (i1506 < i1509)) then (
let i1510 : Int := subA .i64 i1505 1
l_49_9 N N (((), i1505, (), i1506, 0, i1510, ()), (l1507, l1508, ())) (fun y1523 =>
let i1524 : Int := y1523.1.2.1
let i1525 : Int := y1523.1.2.2.2.1
let i1526 : Int := y1523.1.2.2.2.2.1
let l1527 : (List Int) := y1523.2.1
let l1528 : (List Int) := y1523.2.2.1
let l1529 : (List Int) := [i1526]
bif (decide ((List.length l1528 + List.length l1529) * 8 ≤ 140737488355328) && true) then (
let l1530 : (List Int) := (l1528 ++ l1529)
let i1531 : Int := addA .i64 i1525 i1524
rec (((), i1524, (), i1531, ()), (l1527, l1530, ()))) else none)) else (
κ0 (((), ()), (l1507, l1508, ())))
def l_49_5 {R : Type} (N : Nat) : Nat → ((Unit × Int × Unit × Int × Unit) × ((List Int) × (List Int) × Unit)) → (((Unit × Unit) × ((List Int) × (List Int) × Unit)) → Option R) → Option R
  | 0, _, _ => none
  | n + 1, x, κ0 => B_49_5 N (fun y => l_49_5 N n y κ0) x κ0
def ap_49 : List Pat := [.sl 0, .int .i64]
def hp_49 : List (Option (Pat × Nat)) := [some (.lst (.int .u8), 5)]
def p_49 {R : Type} (N : Nat) (x : (Unit × Int × Unit) × ((List Int) × Unit)) (κ0 : (((List Int) × (Bool × Unit)) × ((List Int) × Unit)) → Option R) : Option R :=
let i1478 : Int := x.1.2.1
let l1479 : (List Int) := x.2.1
let i1480 : Int := (((List.length l1479) : Nat) : Int)
bif decide (i1478 = 0) then none else (
let i1481 : Int := remA .i64 i1480 i1478
bif (i1481 != 0) then (
κ0 (([], (false, ())), (l1479, ()))) else (
l_49_5 N N (((), i1478, (), 0, ()), (l1479, [], ())) (fun y1532 =>
let l1533 : (List Int) := y1532.2.1
let l1534 : (List Int) := y1532.2.2.1
κ0 ((l1534, (true, ())), (l1533, ())))))

abbrev Tl_49_9 (R : Type) : Type := ((Unit × Int × Unit × Int × Int × Int × Unit) × ((List Int) × (List Int) × Unit)) → (((Unit × Int × Unit × Int × Int × Unit) × ((List Int) × (List Int) × Unit)) → Option R) → Option R
abbrev Tl_49_5 (R : Type) : Type := ((Unit × Int × Unit × Int × Unit) × ((List Int) × (List Int) × Unit)) → (((Unit × Unit) × ((List Int) × (List Int) × Unit)) → Option R) → Option R
abbrev Tp_49 (R : Type) : Type := (Unit × Int × Unit) × ((List Int) × Unit) → ((((List Int) × (Bool × Unit)) × ((List Int) × Unit)) → Option R) → Option R
def Q_49 {R : Type} (m_49_9 : Tl_49_9 R) (m_49_5 : Tl_49_5 R) (x : (Unit × Int × Unit) × ((List Int) × Unit)) (κ0 : (((List Int) × (Bool × Unit)) × ((List Int) × Unit)) → Option R) : Option R :=
let i1478 : Int := x.1.2.1
let l1479 : (List Int) := x.2.1
let i1480 : Int := (((List.length l1479) : Nat) : Int)
bif decide (i1478 = 0) then none else (
let i1481 : Int := remA .i64 i1480 i1478
bif (i1481 != 0) then (
κ0 (([], (false, ())), (l1479, ()))) else (
m_49_5 (((), i1478, (), 0, ()), (l1479, [], ())) (fun y1532 =>
let l1533 : (List Int) := y1532.2.1
let l1534 : (List Int) := y1532.2.2.1
κ0 ((l1534, (true, ())), (l1533, ())))))
def C_49_9 {R : Type} (m_49_9 : Tl_49_9 R) (m_49_5 : Tl_49_5 R) (rec : ((Unit × Int × Unit × Int × Int × Int × Unit) × ((List Int) × (List Int) × Unit)) → Option R) (x : ((Unit × Int × Unit × Int × Int × Int × Unit) × ((List Int) × (List Int) × Unit))) (κ0 : ((Unit × Int × Unit × Int × Int × Unit) × ((List Int) × (List Int) × Unit)) → Option R) : Option R :=
let i1511 : Int := x.1.2.1
let i1512 : Int := x.1.2.2.2.1
let i1513 : Int := x.1.2.2.2.2.1
let i1514 : Int := x.1.2.2.2.2.2.1
let l1515 : (List Int) := x.2.1
let l1516 : (List Int) := x.2.2.1
bif (decide (i1514 ≥ 0)) then (
let i1517 : Int := mulA .u64 256 i1513
let i1518 : Int := addA .i64 i1512 i1514
bif decide (0 ≤ i1518) then (
bif decide (i1518 < ((List.length l1515) : Int)) then (
let i1519 : Int := (List.getD l1515 ((Int.toNat i1518)) (Sch.zero (.int .u8)))
let i1520 : Int := IntKind.wrap .u64 i1519
let i1521 : Int := addA .u64 i1517 i1520
let i1522 : Int := subA .i64 i1514 1
rec (((), i1511, (), i1512, i1521, i1522, ()), (l1515, l1516, ()))) else none) else none) else (
κ0 (((), i1511, (), i1512, i1513, ()), (l1515, l1516, ())))
def C_49_5 {R : Type} (m_49_9 : Tl_49_9 R) (m_49_5 : Tl_49_5 R) (rec : ((Unit × Int × Unit × Int × Unit) × ((List Int) × (List Int) × Unit)) → Option R) (x : ((Unit × Int × Unit × Int × Unit) × ((List Int) × (List Int) × Unit))) (κ0 : ((Unit × Unit) × ((List Int) × (List Int) × Unit)) → Option R) : Option R :=
let i1505 : Int := x.1.2.1
let i1506 : Int := x.1.2.2.2.1
let l1507 : (List Int) := x.2.1
let l1508 : (List Int) := x.2.2.1
let i1509 : Int := (((List.length l1507) : Nat) : Int)
bif (decide (i1506 < i1509)) then (
let i1510 : Int := subA .i64 i1505 1
m_49_9 (((), i1505, (), i1506, 0, i1510, ()), (l1507, l1508, ())) (fun y1523 =>
let i1524 : Int := y1523.1.2.1
let i1525 : Int := y1523.1.2.2.2.1
let i1526 : Int := y1523.1.2.2.2.2.1
let l1527 : (List Int) := y1523.2.1
let l1528 : (List Int) := y1523.2.2.1
let l1529 : (List Int) := [i1526]
bif (decide ((List.length l1528 + List.length l1529) * 8 ≤ 140737488355328) && true) then (
let l1530 : (List Int) := (l1528 ++ l1529)
let i1531 : Int := addA .i64 i1525 i1524
rec (((), i1524, (), i1531, ()), (l1527, l1530, ()))) else none)) else (
κ0 (((), ()), (l1507, l1508, ())))
def EG_49 {R : Type} : Env R := Env.base QQ LN
def LG_49 {R : Type} (m_49_9 : Tl_49_9 R) (m_49_5 : Tl_49_5 R) : Loops R := ((Loops.none).add 9 (loopBy 1 lv_49_9 pt_49_9 (fun x k => m_49_9 x (fun y => k (.exit 2) (px_49_9_0.inst y))))).add 5 (loopBy 1 lv_49_5 pt_49_5 (fun x k => m_49_5 x (fun y => k (.exit 0) (px_49_5_0.inst y))))
def E_49 {R : Type} (N : Nat) : Env R := EG_49
theorem eok_49 {R : Type} (N : Nat) : EK Try.prog (E_49 (R := R) N) := ek_base _ _
def L_49 {R : Type} (N : Nat) : Loops R := LG_49 (l_49_9 N N) (l_49_5 N N)
theorem gstep_49_9 {R : Type} (m_49_9 : Tl_49_9 R) (m_49_5 : Tl_49_5 R) (n : Nat) (x : pt_49_9.den) (k : Exit → St → Option R) : iter 1 lv_49_9 lo_49_9 (aexec TT (EG_49) (drawAny TT WW) (LG_49 m_49_9 m_49_5) (loopAt 9 (bodyOf Try.f49))) (n + 1) (pt_49_9.inst x) k = C_49_9 m_49_9 m_49_5 (fun y => iter 1 lv_49_9 lo_49_9 (aexec TT (EG_49) (drawAny TT WW) (LG_49 m_49_9 m_49_5) (loopAt 9 (bodyOf Try.f49))) n (pt_49_9.inst y) k) x (fun y => k (.exit 2) (px_49_9_0.inst y)) := by kernel_rfl
theorem step_49_9 {R : Type} (N n : Nat) (x : pt_49_9.den) (k : Exit → St → Option R) : iter 1 lv_49_9 lo_49_9 (aexec TT (E_49 (R := R) N) (drawAny TT WW) (L_49 N) (loopAt 9 (bodyOf Try.f49))) (n + 1) (pt_49_9.inst x) k = B_49_9 N (fun y => iter 1 lv_49_9 lo_49_9 (aexec TT (E_49 (R := R) N) (drawAny TT WW) (L_49 N) (loopAt 9 (bodyOf Try.f49))) n (pt_49_9.inst y) k) x (fun y => k (.exit 2) (px_49_9_0.inst y)) := (gstep_49_9 (l_49_9 N N) (l_49_5 N N) n x k).trans (by kernel_rfl)
theorem eq_49_9 {R : Type} (N : Nat) : ∀ (n : Nat) (x : pt_49_9.den) (k : Exit → St → Option R), iter 1 lv_49_9 lo_49_9 (aexec TT (E_49 (R := R) N) (drawAny TT WW) (L_49 N) (loopAt 9 (bodyOf Try.f49))) n (pt_49_9.inst x) k = l_49_9 N n x (fun y => k (.exit 2) (px_49_9_0.inst y)) :=
  iter_eq (K := Exit → St → Option R) (ks := fun k => k) (l := fun n (x : pt_49_9.den) k => l_49_9 N n x (fun y => k (.exit 2) (px_49_9_0.inst y))) (B := fun (rec : pt_49_9.den → Option R) (x : pt_49_9.den) k => B_49_9 N rec x (fun y => k (.exit 2) (px_49_9_0.inst y))) (fun _ _ => rfl) (fun _ _ _ => rfl) (fun n x k => step_49_9 N n x k)
theorem rounds_49_9 {R : Type} (N : Nat) : Rounds 1 TT (E_49 (R := R) N) (drawAny TT WW) (L_49 N) 9 (loopAt 9 (bodyOf Try.f49)) :=
  rounds_of (p := pt_49_9) (l := fun (x : pt_49_9.den) k => l_49_9 N N x (fun y => k (.exit 2) (px_49_9_0.inst y))) (fun s k => rfl) (fun x k => eq_49_9 N N x k)
theorem gstep_49_5 {R : Type} (m_49_9 : Tl_49_9 R) (m_49_5 : Tl_49_5 R) (n : Nat) (x : pt_49_5.den) (k : Exit → St → Option R) : iter 1 lv_49_5 lo_49_5 (aexec TT (EG_49) (drawAny TT WW) (LG_49 m_49_9 m_49_5) (loopAt 5 (bodyOf Try.f49))) (n + 1) (pt_49_5.inst x) k = C_49_5 m_49_9 m_49_5 (fun y => iter 1 lv_49_5 lo_49_5 (aexec TT (EG_49) (drawAny TT WW) (LG_49 m_49_9 m_49_5) (loopAt 5 (bodyOf Try.f49))) n (pt_49_5.inst y) k) x (fun y => k (.exit 0) (px_49_5_0.inst y)) := by kernel_rfl
theorem step_49_5 {R : Type} (N n : Nat) (x : pt_49_5.den) (k : Exit → St → Option R) : iter 1 lv_49_5 lo_49_5 (aexec TT (E_49 (R := R) N) (drawAny TT WW) (L_49 N) (loopAt 5 (bodyOf Try.f49))) (n + 1) (pt_49_5.inst x) k = B_49_5 N (fun y => iter 1 lv_49_5 lo_49_5 (aexec TT (E_49 (R := R) N) (drawAny TT WW) (L_49 N) (loopAt 5 (bodyOf Try.f49))) n (pt_49_5.inst y) k) x (fun y => k (.exit 0) (px_49_5_0.inst y)) := (gstep_49_5 (l_49_9 N N) (l_49_5 N N) n x k).trans (by kernel_rfl)
theorem eq_49_5 {R : Type} (N : Nat) : ∀ (n : Nat) (x : pt_49_5.den) (k : Exit → St → Option R), iter 1 lv_49_5 lo_49_5 (aexec TT (E_49 (R := R) N) (drawAny TT WW) (L_49 N) (loopAt 5 (bodyOf Try.f49))) n (pt_49_5.inst x) k = l_49_5 N n x (fun y => k (.exit 0) (px_49_5_0.inst y)) :=
  iter_eq (K := Exit → St → Option R) (ks := fun k => k) (l := fun n (x : pt_49_5.den) k => l_49_5 N n x (fun y => k (.exit 0) (px_49_5_0.inst y))) (B := fun (rec : pt_49_5.den → Option R) (x : pt_49_5.den) k => B_49_5 N rec x (fun y => k (.exit 0) (px_49_5_0.inst y))) (fun _ _ => rfl) (fun _ _ _ => rfl) (fun n x k => step_49_5 N n x k)
theorem rounds_49_5 {R : Type} (N : Nat) : Rounds 1 TT (E_49 (R := R) N) (drawAny TT WW) (L_49 N) 5 (loopAt 5 (bodyOf Try.f49)) :=
  rounds_of (p := pt_49_5) (l := fun (x : pt_49_5.den) k => l_49_5 N N x (fun y => k (.exit 0) (px_49_5_0.inst y))) (fun s k => rfl) (fun x k => eq_49_5 N N x k)
theorem loops_49 : loopsIn (bodyOf Try.f49) = [(5, loopAt 5 (bodyOf Try.f49)), (9, loopAt 9 (bodyOf Try.f49))] := by kernel_rfl
theorem lok_49 {R : Type} (N : Nat) : LOK 1 TT (E_49 (R := R) N) (drawAny TT WW) (L_49 N) (bodyOf Try.f49) := loops_all loops_49 (by
  simp only [List.forall_mem_cons, List.not_mem_nil, false_implies, implies_true, and_true]
  exact ⟨rounds_49_5 N, rounds_49_9 N⟩)
theorem grun_49 {R : Type} (m_49_9 : Tl_49_9 R) (m_49_5 : Tl_49_5 R) (x : aden ap_49 × hden hp_49) (k : KF R) : fnrun TT (EG_49) (drawAny TT WW) (LG_49 m_49_9 m_49_5) true Try.f49 (instA ap_49 x.1) (instH hp_49 x.2) k = Q_49 m_49_9 m_49_5 x (fun y => k (Pat.inst (.tup (.fcons (.ros (.int .u64)) (.fcons (.bool) (.fnil)))) y.1) (instH [some (.lst (.int .u8), 5)] y.2)) := by kernel_rfl
theorem run_49 {R : Type} (N : Nat) (x : aden ap_49 × hden hp_49) (k : KF R) : fnrun TT (E_49 (R := R) N) (drawAny TT WW) (L_49 N) true Try.f49 (instA ap_49 x.1) (instH hp_49 x.2) k = p_49 N x (fun y => k (Pat.inst (.tup (.fcons (.ros (.int .u64)) (.fcons (.bool) (.fnil)))) y.1) (instH [some (.lst (.int .u8), 5)] y.2)) := (grun_49 (l_49_9 N N) (l_49_5 N N) x k).trans (by kernel_rfl)
theorem good_49 {R : Type} (N : Nat) : GD (X := R) Try.prog QQ 49 ap_49 hp_49 (fun (x : aden ap_49 × hden hp_49) k => p_49 N x (fun y => k (Pat.inst (.tup (.fcons (.ros (.int .u64)) (.fcons (.bool) (.fnil)))) y.1) (instH [some (.lst (.int .u8), 5)] y.2))) :=
  gd_loud (E := E_49 N) (p := fun (x : aden ap_49 × hden hp_49) k => p_49 N x (fun y => k (Pat.inst (.tup (.fcons (.ros (.int .u64)) (.fcons (.bool) (.fnil)))) y.1) (instH [some (.lst (.int .u8), 5)] y.2))) mixed tyok (eok_49 N) Try.func49 (by kernel_rfl) (by kernel_rfl) (by kernel_rfl) (lok_49 N) (fun x k => run_49 N x k)

def lv_20_11 : Live := [(2, none), (4, none), (5, none), (6, none), (7, none), (8, none)]
def pt_20_11 : SPat := ⟨[(2, .ptr 0 []), (4, .ptr 1 []), (5, .str), (6, .str), (7, .int .i64), (8, .int .i64)], [some (.vec (.int .i64) 16, 38), some (.vec (.int .i64) 16, 38)]⟩
def px_20_11_0 : SPat := ⟨[(2, .ptr 0 []), (4, .ptr 1 []), (5, .str), (6, .str), (7, .int .i64)], [some (.vec (.int .i64) 16, 38), some (.vec (.int .i64) 16, 38)]⟩
def lo_20_11 : Exit → Live
  | .exit 2 => [(2, none), (4, none), (5, none), (6, none), (7, none)]
  | _ => []
def B_20_11 {R : Type} (N : Nat) (rec : ((Unit × Unit × ByteArray × ByteArray × Int × Int × Unit) × ((Nat → Int) × (Nat → Int) × Unit)) → Option R) (x : ((Unit × Unit × ByteArray × ByteArray × Int × Int × Unit) × ((Nat → Int) × (Nat → Int) × Unit))) (κ0 : ((Unit × Unit × ByteArray × ByteArray × Int × Unit) × ((Nat → Int) × (Nat → Int) × Unit)) → Option R) : Option R :=
let s1582 : ByteArray := x.1.2.2.1
let s1583 : ByteArray := x.1.2.2.2.1
let i1584 : Int := x.1.2.2.2.2.1
let i1585 : Int := x.1.2.2.2.2.2.1
let a1586 : (Nat → Int) := x.2.1
let a1587 : (Nat → Int) := x.2.2.1
bif (decide (i1585 < 16)) then (
bif decide (0 ≤ i1585) then (
bif decide (i1585 < (ByteArray.size s1583 : Int)) then (
let i1588 : Int := byteAt s1583 ((Int.toNat i1585))
bif decide (0 ≤ i1584) then (
bif decide (i1584 < (ByteArray.size s1582 : Int)) then (
let i1589 : Int := byteAt s1582 ((Int.toNat i1584))
bif (i1588 == i1589) then (
bif decide (0 ≤ i1584) then (
bif decide (i1584 < (16 : Int)) then (
let a1590 : (Nat → Int) := (upd a1587 ((Int.toNat i1584)) i1585)
let i1591 : Int := addA .i64 i1585 1
rec (((), (), s1582, s1583, i1584, i1591, ()), (a1586, a1590, ()))) else none) else none) else (
let i1592 : Int := addA .i64 i1585 1
rec (((), (), s1582, s1583, i1584, i1592, ()), (a1586, a1587, ())))) else none) else none) else none) else none) else (
κ0 (((), (), s1582, s1583, i1584, ()), (a1586, a1587, ())))
def l_20_11 {R : Type} (N : Nat) : Nat → ((Unit × Unit × ByteArray × ByteArray × Int × Int × Unit) × ((Nat → Int) × (Nat → Int) × Unit)) → (((Unit × Unit × ByteArray × ByteArray × Int × Unit) × ((Nat → Int) × (Nat → Int) × Unit)) → Option R) → Option R
  | 0, _, _ => none
  | n + 1, x, κ0 => B_20_11 N (fun y => l_20_11 N n y κ0) x κ0
def lv_20_8 : Live := [(2, none), (4, none), (5, none), (6, none), (7, none)]
def pt_20_8 : SPat := ⟨[(2, .ptr 0 []), (4, .ptr 1 []), (5, .str), (6, .str), (7, .int .i64)], [some (.vec (.int .i64) 16, 38), some (.vec (.int .i64) 16, 38)]⟩
def px_20_8_0 : SPat := ⟨[(2, .ptr 0 []), (4, .ptr 1 [])], [some (.vec (.int .i64) 16, 38), some (.vec (.int .i64) 16, 38)]⟩
def lo_20_8 : Exit → Live
  | .exit 0 => [(2, none), (4, none)]
  | _ => []
def B_20_8 {R : Type} (N : Nat) (rec : ((Unit × Unit × ByteArray × ByteArray × Int × Unit) × ((Nat → Int) × (Nat → Int) × Unit)) → Option R) (x : ((Unit × Unit × ByteArray × ByteArray × Int × Unit) × ((Nat → Int) × (Nat → Int) × Unit))) (κ0 : ((Unit × Unit × Unit) × ((Nat → Int) × (Nat → Int) × Unit)) → Option R) : Option R :=
let s1577 : ByteArray := x.1.2.2.1
let s1578 : ByteArray := x.1.2.2.2.1
let i1579 : Int := x.1.2.2.2.2.1
let a1580 : (Nat → Int) := x.2.1
let a1581 : (Nat → Int) := x.2.2.1
bif (decide (i1579 < 16)) then (
l_20_11 N N (((), (), s1577, s1578, i1579, 0, ()), (a1580, a1581, ())) (fun y1593 =>
let s1594 : ByteArray := y1593.1.2.2.1
let s1595 : ByteArray := y1593.1.2.2.2.1
let i1596 : Int := y1593.1.2.2.2.2.1
let a1597 : (Nat → Int) := y1593.2.1
let a1598 : (Nat → Int) := y1593.2.2.1
let i1599 : Int := addA .i64 i1596 1
rec (((), (), s1594, s1595, i1599, ()), (a1597, a1598, ())))) else (
κ0 (((), (), ()), (a1580, a1581, ())))
def l_20_8 {R : Type} (N : Nat) : Nat → ((Unit × Unit × ByteArray × ByteArray × Int × Unit) × ((Nat → Int) × (Nat → Int) × Unit)) → (((Unit × Unit × Unit) × ((Nat → Int) × (Nat → Int) × Unit)) → Option R) → Option R
  | 0, _, _ => none
  | n + 1, x, κ0 => B_20_8 N (fun y => l_20_8 N n y κ0) x κ0
def ap_20 : List Pat := [.int .i64]
def hp_20 : List (Option (Pat × Nat)) := []
def p_20 {R : Type} (N : Nat) (x : (Int × Unit) × (Unit)) (κ0 : (Nat → Int) → Option R) : Option R :=
let i1571 : Int := x.1.1
let l1572 : (List ByteArray) := [⟨#[48, 49, 50, 51, 52, 53, 54, 55, 56, 57, 97, 98, 99, 100, 101, 102]⟩, ⟨#[101, 97, 52, 56, 57, 102, 100, 54, 49, 99, 48, 50, 98, 55, 53, 51]⟩, ⟨#[98, 56, 99, 48, 53, 50, 102, 100, 97, 101, 51, 54, 55, 49, 57, 52]⟩, ⟨#[55, 57, 51, 49, 100, 99, 98, 101, 50, 54, 53, 97, 52, 48, 102, 56]⟩, ⟨#[57, 48, 53, 55, 50, 52, 97, 102, 101, 49, 98, 99, 54, 56, 51, 100]⟩, ⟨#[50, 99, 54, 97, 48, 98, 56, 51, 52, 100, 55, 53, 102, 101, 49, 57]⟩, ⟨#[99, 53, 49, 102, 101, 100, 52, 97, 48, 55, 54, 51, 57, 50, 56, 98]⟩, ⟨#[100, 98, 55, 101, 99, 49, 51, 57, 53, 48, 102, 52, 56, 54, 50, 97]⟩, ⟨#[54, 102, 101, 57, 98, 51, 48, 56, 99, 50, 100, 55, 49, 52, 97, 53]⟩, ⟨#[97, 50, 56, 52, 55, 54, 49, 53, 102, 98, 57, 101, 51, 99, 100, 48]⟩]
bif (decide (i1571 < 0)) then (
let a1573 : (Nat → Int) := (Sch.zero (.arr 16 (.int .i64)))
κ0 a1573) else (
let i1574 : Int := remA .i64 i1571 10
bif decide (0 ≤ i1574) then (
bif decide (i1574 < ((List.length l1572) : Int)) then (
let s1575 : ByteArray := (List.getD l1572 ((Int.toNat i1574)) (Sch.zero (.str)))
bif decide (0 < ((List.length l1572) : Int)) then (
let s1576 : ByteArray := (List.getD l1572 0 (Sch.zero (.str)))
l_20_8 N N (((), (), s1575, s1576, 0, ()), ((Sch.zero (.arr 16 (.int .i64))), (Sch.zero (.arr 16 (.int .i64))), ())) (fun y1600 =>
let a1601 : (Nat → Int) := y1600.2.1
let a1602 : (Nat → Int) := y1600.2.2.1
κ0 a1602)) else none) else none) else none)

abbrev Tl_20_11 (R : Type) : Type := ((Unit × Unit × ByteArray × ByteArray × Int × Int × Unit) × ((Nat → Int) × (Nat → Int) × Unit)) → (((Unit × Unit × ByteArray × ByteArray × Int × Unit) × ((Nat → Int) × (Nat → Int) × Unit)) → Option R) → Option R
abbrev Tl_20_8 (R : Type) : Type := ((Unit × Unit × ByteArray × ByteArray × Int × Unit) × ((Nat → Int) × (Nat → Int) × Unit)) → (((Unit × Unit × Unit) × ((Nat → Int) × (Nat → Int) × Unit)) → Option R) → Option R
abbrev Tp_20 (R : Type) : Type := (Int × Unit) × (Unit) → ((Nat → Int) → Option R) → Option R
def Q_20 {R : Type} (m_20_11 : Tl_20_11 R) (m_20_8 : Tl_20_8 R) (x : (Int × Unit) × (Unit)) (κ0 : (Nat → Int) → Option R) : Option R :=
let i1571 : Int := x.1.1
let l1572 : (List ByteArray) := [⟨#[48, 49, 50, 51, 52, 53, 54, 55, 56, 57, 97, 98, 99, 100, 101, 102]⟩, ⟨#[101, 97, 52, 56, 57, 102, 100, 54, 49, 99, 48, 50, 98, 55, 53, 51]⟩, ⟨#[98, 56, 99, 48, 53, 50, 102, 100, 97, 101, 51, 54, 55, 49, 57, 52]⟩, ⟨#[55, 57, 51, 49, 100, 99, 98, 101, 50, 54, 53, 97, 52, 48, 102, 56]⟩, ⟨#[57, 48, 53, 55, 50, 52, 97, 102, 101, 49, 98, 99, 54, 56, 51, 100]⟩, ⟨#[50, 99, 54, 97, 48, 98, 56, 51, 52, 100, 55, 53, 102, 101, 49, 57]⟩, ⟨#[99, 53, 49, 102, 101, 100, 52, 97, 48, 55, 54, 51, 57, 50, 56, 98]⟩, ⟨#[100, 98, 55, 101, 99, 49, 51, 57, 53, 48, 102, 52, 56, 54, 50, 97]⟩, ⟨#[54, 102, 101, 57, 98, 51, 48, 56, 99, 50, 100, 55, 49, 52, 97, 53]⟩, ⟨#[97, 50, 56, 52, 55, 54, 49, 53, 102, 98, 57, 101, 51, 99, 100, 48]⟩]
bif (decide (i1571 < 0)) then (
let a1573 : (Nat → Int) := (Sch.zero (.arr 16 (.int .i64)))
κ0 a1573) else (
let i1574 : Int := remA .i64 i1571 10
bif decide (0 ≤ i1574) then (
bif decide (i1574 < ((List.length l1572) : Int)) then (
let s1575 : ByteArray := (List.getD l1572 ((Int.toNat i1574)) (Sch.zero (.str)))
bif decide (0 < ((List.length l1572) : Int)) then (
let s1576 : ByteArray := (List.getD l1572 0 (Sch.zero (.str)))
m_20_8 (((), (), s1575, s1576, 0, ()), ((Sch.zero (.arr 16 (.int .i64))), (Sch.zero (.arr 16 (.int .i64))), ())) (fun y1600 =>
let a1601 : (Nat → Int) := y1600.2.1
let a1602 : (Nat → Int) := y1600.2.2.1
κ0 a1602)) else none) else none) else none)
def C_20_11 {R : Type} (m_20_11 : Tl_20_11 R) (m_20_8 : Tl_20_8 R) (rec : ((Unit × Unit × ByteArray × ByteArray × Int × Int × Unit) × ((Nat → Int) × (Nat → Int) × Unit)) → Option R) (x : ((Unit × Unit × ByteArray × ByteArray × Int × Int × Unit) × ((Nat → Int) × (Nat → Int) × Unit))) (κ0 : ((Unit × Unit × ByteArray × ByteArray × Int × Unit) × ((Nat → Int) × (Nat → Int) × Unit)) → Option R) : Option R :=
let s1582 : ByteArray := x.1.2.2.1
let s1583 : ByteArray := x.1.2.2.2.1
let i1584 : Int := x.1.2.2.2.2.1
let i1585 : Int := x.1.2.2.2.2.2.1
let a1586 : (Nat → Int) := x.2.1
let a1587 : (Nat → Int) := x.2.2.1
bif (decide (i1585 < 16)) then (
bif decide (0 ≤ i1585) then (
bif decide (i1585 < (ByteArray.size s1583 : Int)) then (
let i1588 : Int := byteAt s1583 ((Int.toNat i1585))
bif decide (0 ≤ i1584) then (
bif decide (i1584 < (ByteArray.size s1582 : Int)) then (
let i1589 : Int := byteAt s1582 ((Int.toNat i1584))
bif (i1588 == i1589) then (
bif decide (0 ≤ i1584) then (
bif decide (i1584 < (16 : Int)) then (
let a1590 : (Nat → Int) := (upd a1587 ((Int.toNat i1584)) i1585)
let i1591 : Int := addA .i64 i1585 1
rec (((), (), s1582, s1583, i1584, i1591, ()), (a1586, a1590, ()))) else none) else none) else (
let i1592 : Int := addA .i64 i1585 1
rec (((), (), s1582, s1583, i1584, i1592, ()), (a1586, a1587, ())))) else none) else none) else none) else none) else (
κ0 (((), (), s1582, s1583, i1584, ()), (a1586, a1587, ())))
def C_20_8 {R : Type} (m_20_11 : Tl_20_11 R) (m_20_8 : Tl_20_8 R) (rec : ((Unit × Unit × ByteArray × ByteArray × Int × Unit) × ((Nat → Int) × (Nat → Int) × Unit)) → Option R) (x : ((Unit × Unit × ByteArray × ByteArray × Int × Unit) × ((Nat → Int) × (Nat → Int) × Unit))) (κ0 : ((Unit × Unit × Unit) × ((Nat → Int) × (Nat → Int) × Unit)) → Option R) : Option R :=
let s1577 : ByteArray := x.1.2.2.1
let s1578 : ByteArray := x.1.2.2.2.1
let i1579 : Int := x.1.2.2.2.2.1
let a1580 : (Nat → Int) := x.2.1
let a1581 : (Nat → Int) := x.2.2.1
bif (decide (i1579 < 16)) then (
m_20_11 (((), (), s1577, s1578, i1579, 0, ()), (a1580, a1581, ())) (fun y1593 =>
let s1594 : ByteArray := y1593.1.2.2.1
let s1595 : ByteArray := y1593.1.2.2.2.1
let i1596 : Int := y1593.1.2.2.2.2.1
let a1597 : (Nat → Int) := y1593.2.1
let a1598 : (Nat → Int) := y1593.2.2.1
let i1599 : Int := addA .i64 i1596 1
rec (((), (), s1594, s1595, i1599, ()), (a1597, a1598, ())))) else (
κ0 (((), (), ()), (a1580, a1581, ())))
def EG_20 {R : Type} : Env R := Env.base QQ LN
def LG_20 {R : Type} (m_20_11 : Tl_20_11 R) (m_20_8 : Tl_20_8 R) : Loops R := ((Loops.none).add 11 (loopBy 0 lv_20_11 pt_20_11 (fun x k => m_20_11 x (fun y => k (.exit 2) (px_20_11_0.inst y))))).add 8 (loopBy 0 lv_20_8 pt_20_8 (fun x k => m_20_8 x (fun y => k (.exit 0) (px_20_8_0.inst y))))
def E_20 {R : Type} (N : Nat) : Env R := EG_20
theorem eok_20 {R : Type} (N : Nat) : EK Try.prog (E_20 (R := R) N) := ek_base _ _
def L_20 {R : Type} (N : Nat) : Loops R := LG_20 (l_20_11 N N) (l_20_8 N N)
theorem gstep_20_11 {R : Type} (m_20_11 : Tl_20_11 R) (m_20_8 : Tl_20_8 R) (n : Nat) (x : pt_20_11.den) (k : Exit → St → Option R) : iter 0 lv_20_11 lo_20_11 (aexec TT (EG_20) (drawAny TT WW) (LG_20 m_20_11 m_20_8) (loopAt 11 (bodyOf Try.f20))) (n + 1) (pt_20_11.inst x) k = C_20_11 m_20_11 m_20_8 (fun y => iter 0 lv_20_11 lo_20_11 (aexec TT (EG_20) (drawAny TT WW) (LG_20 m_20_11 m_20_8) (loopAt 11 (bodyOf Try.f20))) n (pt_20_11.inst y) k) x (fun y => k (.exit 2) (px_20_11_0.inst y)) := by kernel_rfl
theorem step_20_11 {R : Type} (N n : Nat) (x : pt_20_11.den) (k : Exit → St → Option R) : iter 0 lv_20_11 lo_20_11 (aexec TT (E_20 (R := R) N) (drawAny TT WW) (L_20 N) (loopAt 11 (bodyOf Try.f20))) (n + 1) (pt_20_11.inst x) k = B_20_11 N (fun y => iter 0 lv_20_11 lo_20_11 (aexec TT (E_20 (R := R) N) (drawAny TT WW) (L_20 N) (loopAt 11 (bodyOf Try.f20))) n (pt_20_11.inst y) k) x (fun y => k (.exit 2) (px_20_11_0.inst y)) := (gstep_20_11 (l_20_11 N N) (l_20_8 N N) n x k).trans (by kernel_rfl)
theorem eq_20_11 {R : Type} (N : Nat) : ∀ (n : Nat) (x : pt_20_11.den) (k : Exit → St → Option R), iter 0 lv_20_11 lo_20_11 (aexec TT (E_20 (R := R) N) (drawAny TT WW) (L_20 N) (loopAt 11 (bodyOf Try.f20))) n (pt_20_11.inst x) k = l_20_11 N n x (fun y => k (.exit 2) (px_20_11_0.inst y)) :=
  iter_eq (K := Exit → St → Option R) (ks := fun k => k) (l := fun n (x : pt_20_11.den) k => l_20_11 N n x (fun y => k (.exit 2) (px_20_11_0.inst y))) (B := fun (rec : pt_20_11.den → Option R) (x : pt_20_11.den) k => B_20_11 N rec x (fun y => k (.exit 2) (px_20_11_0.inst y))) (fun _ _ => rfl) (fun _ _ _ => rfl) (fun n x k => step_20_11 N n x k)
theorem rounds_20_11 {R : Type} (N : Nat) : Rounds 0 TT (E_20 (R := R) N) (drawAny TT WW) (L_20 N) 11 (loopAt 11 (bodyOf Try.f20)) :=
  rounds_of (p := pt_20_11) (l := fun (x : pt_20_11.den) k => l_20_11 N N x (fun y => k (.exit 2) (px_20_11_0.inst y))) (fun s k => rfl) (fun x k => eq_20_11 N N x k)
theorem gstep_20_8 {R : Type} (m_20_11 : Tl_20_11 R) (m_20_8 : Tl_20_8 R) (n : Nat) (x : pt_20_8.den) (k : Exit → St → Option R) : iter 0 lv_20_8 lo_20_8 (aexec TT (EG_20) (drawAny TT WW) (LG_20 m_20_11 m_20_8) (loopAt 8 (bodyOf Try.f20))) (n + 1) (pt_20_8.inst x) k = C_20_8 m_20_11 m_20_8 (fun y => iter 0 lv_20_8 lo_20_8 (aexec TT (EG_20) (drawAny TT WW) (LG_20 m_20_11 m_20_8) (loopAt 8 (bodyOf Try.f20))) n (pt_20_8.inst y) k) x (fun y => k (.exit 0) (px_20_8_0.inst y)) := by kernel_rfl
theorem step_20_8 {R : Type} (N n : Nat) (x : pt_20_8.den) (k : Exit → St → Option R) : iter 0 lv_20_8 lo_20_8 (aexec TT (E_20 (R := R) N) (drawAny TT WW) (L_20 N) (loopAt 8 (bodyOf Try.f20))) (n + 1) (pt_20_8.inst x) k = B_20_8 N (fun y => iter 0 lv_20_8 lo_20_8 (aexec TT (E_20 (R := R) N) (drawAny TT WW) (L_20 N) (loopAt 8 (bodyOf Try.f20))) n (pt_20_8.inst y) k) x (fun y => k (.exit 0) (px_20_8_0.inst y)) := (gstep_20_8 (l_20_11 N N) (l_20_8 N N) n x k).trans (by kernel_rfl)
theorem eq_20_8 {R : Type} (N : Nat) : ∀ (n : Nat) (x : pt_20_8.den) (k : Exit → St → Option R), iter 0 lv_20_8 lo_20_8 (aexec TT (E_20 (R := R) N) (drawAny TT WW) (L_20 N) (loopAt 8 (bodyOf Try.f20))) n (pt_20_8.inst x) k = l_20_8 N n x (fun y => k (.exit 0) (px_20_8_0.inst y)) :=
  iter_eq (K := Exit → St → Option R) (ks := fun k => k) (l := fun n (x : pt_20_8.den) k => l_20_8 N n x (fun y => k (.exit 0) (px_20_8_0.inst y))) (B := fun (rec : pt_20_8.den → Option R) (x : pt_20_8.den) k => B_20_8 N rec x (fun y => k (.exit 0) (px_20_8_0.inst y))) (fun _ _ => rfl) (fun _ _ _ => rfl) (fun n x k => step_20_8 N n x k)
theorem rounds_20_8 {R : Type} (N : Nat) : Rounds 0 TT (E_20 (R := R) N) (drawAny TT WW) (L_20 N) 8 (loopAt 8 (bodyOf Try.f20)) :=
  rounds_of (p := pt_20_8) (l := fun (x : pt_20_8.den) k => l_20_8 N N x (fun y => k (.exit 0) (px_20_8_0.inst y))) (fun s k => rfl) (fun x k => eq_20_8 N N x k)
theorem loops_20 : loopsIn (bodyOf Try.f20) = [(8, loopAt 8 (bodyOf Try.f20)), (11, loopAt 11 (bodyOf Try.f20))] := by kernel_rfl
theorem lok_20 {R : Type} (N : Nat) : LOK 0 TT (E_20 (R := R) N) (drawAny TT WW) (L_20 N) (bodyOf Try.f20) := loops_all loops_20 (by
  simp only [List.forall_mem_cons, List.not_mem_nil, false_implies, implies_true, and_true]
  exact ⟨rounds_20_8 N, rounds_20_11 N⟩)
theorem grun_20 {R : Type} (m_20_11 : Tl_20_11 R) (m_20_8 : Tl_20_8 R) (x : aden ap_20 × hden hp_20) (k : KF R) : fnrun TT (EG_20) (drawAny TT WW) (LG_20 m_20_11 m_20_8) true Try.f20 (instA ap_20 x.1) (instH hp_20 x.2) k = Q_20 m_20_11 m_20_8 x (fun y => k (Pat.inst (.vec (.int .i64) 16) y) (instH hp_20 x.2)) := by kernel_rfl
theorem run_20 {R : Type} (N : Nat) (x : aden ap_20 × hden hp_20) (k : KF R) : fnrun TT (E_20 (R := R) N) (drawAny TT WW) (L_20 N) true Try.f20 (instA ap_20 x.1) (instH hp_20 x.2) k = p_20 N x (fun y => k (Pat.inst (.vec (.int .i64) 16) y) (instH hp_20 x.2)) := (grun_20 (l_20_11 N N) (l_20_8 N N) x k).trans (by kernel_rfl)
theorem good_20 {R : Type} (N : Nat) : GD (X := R) Try.prog QQ 20 ap_20 hp_20 (fun (x : aden ap_20 × hden hp_20) k => p_20 N x (fun y => k (Pat.inst (.vec (.int .i64) 16) y) (instH hp_20 x.2))) :=
  gd_quiet (E := E_20 N) (p := fun (x : aden ap_20 × hden hp_20) κ => p_20 N x (fun y => κ (Pat.inst (.vec (.int .i64) 16) y))) mixed tyok (eok_20 N) Try.func20 (by kernel_rfl) (by kernel_rfl) (lok_20 N) (fun x k => run_20 N x k)

def ap_50 : List Pat := [.int .i64]
def hp_50 : List (Option (Pat × Nat)) := []
def p_50 {R : Type} (N : Nat) (x : (Int × Unit) × (Unit)) (κ0 : (Nat → Int) → Option R) : Option R :=
let i1612 : Int := x.1.1
bif (decide (i1612 < 4)) then (
let i1613 : Int := addA .i64 i1612 4
let i1614 : Int := addA .i64 i1612 8
let i1615 : Int := addA .i64 i1612 12
let a1616 : (Nat → Int) := (upd ((upd ((upd ((upd ((Sch.zero (.arr 4 (.int .i64)))) 0 i1612)) 1 i1613)) 2 i1614)) 3 i1615)
κ0 a1616) else (
let i1617 : Int := subA .i64 i1612 4
let i1618 : Int := addA .i64 i1617 1
let i1619 : Int := remA .i64 i1618 4
let i1620 : Int := addA .i64 4 i1619
let i1621 : Int := addA .i64 i1617 2
let i1622 : Int := remA .i64 i1621 4
let i1623 : Int := addA .i64 8 i1622
let i1624 : Int := addA .i64 i1617 3
let i1625 : Int := remA .i64 i1624 4
let i1626 : Int := addA .i64 12 i1625
let a1627 : (Nat → Int) := (upd ((upd ((upd ((upd ((Sch.zero (.arr 4 (.int .i64)))) 0 i1617)) 1 i1620)) 2 i1623)) 3 i1626)
κ0 a1627)

abbrev Tp_50 (R : Type) : Type := (Int × Unit) × (Unit) → ((Nat → Int) → Option R) → Option R
def Q_50 {R : Type} (x : (Int × Unit) × (Unit)) (κ0 : (Nat → Int) → Option R) : Option R :=
let i1612 : Int := x.1.1
bif (decide (i1612 < 4)) then (
let i1613 : Int := addA .i64 i1612 4
let i1614 : Int := addA .i64 i1612 8
let i1615 : Int := addA .i64 i1612 12
let a1616 : (Nat → Int) := (upd ((upd ((upd ((upd ((Sch.zero (.arr 4 (.int .i64)))) 0 i1612)) 1 i1613)) 2 i1614)) 3 i1615)
κ0 a1616) else (
let i1617 : Int := subA .i64 i1612 4
let i1618 : Int := addA .i64 i1617 1
let i1619 : Int := remA .i64 i1618 4
let i1620 : Int := addA .i64 4 i1619
let i1621 : Int := addA .i64 i1617 2
let i1622 : Int := remA .i64 i1621 4
let i1623 : Int := addA .i64 8 i1622
let i1624 : Int := addA .i64 i1617 3
let i1625 : Int := remA .i64 i1624 4
let i1626 : Int := addA .i64 12 i1625
let a1627 : (Nat → Int) := (upd ((upd ((upd ((upd ((Sch.zero (.arr 4 (.int .i64)))) 0 i1617)) 1 i1620)) 2 i1623)) 3 i1626)
κ0 a1627)
def EG_50 {R : Type} : Env R := Env.base QQ LN
def LG_50 {R : Type} : Loops R := Loops.none
def E_50 {R : Type} (N : Nat) : Env R := EG_50
theorem eok_50 {R : Type} (N : Nat) : EK Try.prog (E_50 (R := R) N) := ek_base _ _
def L_50 {R : Type} (N : Nat) : Loops R := LG_50
theorem lok_50 {R : Type} (N : Nat) : LOK 0 TT (E_50 (R := R) N) (drawAny TT WW) (L_50 N) (bodyOf Try.f50) := loops_nil (by kernel_rfl)
theorem grun_50 {R : Type} (x : aden ap_50 × hden hp_50) (k : KF R) : fnrun TT (EG_50) (drawAny TT WW) (LG_50) true Try.f50 (instA ap_50 x.1) (instH hp_50 x.2) k = Q_50 x (fun y => k (Pat.inst (.vec (.int .i64) 4) y) (instH hp_50 x.2)) := by kernel_rfl
theorem run_50 {R : Type} (N : Nat) (x : aden ap_50 × hden hp_50) (k : KF R) : fnrun TT (E_50 (R := R) N) (drawAny TT WW) (L_50 N) true Try.f50 (instA ap_50 x.1) (instH hp_50 x.2) k = p_50 N x (fun y => k (Pat.inst (.vec (.int .i64) 4) y) (instH hp_50 x.2)) := (grun_50 x k).trans (by kernel_rfl)
theorem good_50 {R : Type} (N : Nat) : GD (X := R) Try.prog QQ 50 ap_50 hp_50 (fun (x : aden ap_50 × hden hp_50) k => p_50 N x (fun y => k (Pat.inst (.vec (.int .i64) 4) y) (instH hp_50 x.2))) :=
  gd_quiet (E := E_50 N) (p := fun (x : aden ap_50 × hden hp_50) κ => p_50 N x (fun y => κ (Pat.inst (.vec (.int .i64) 4) y))) mixed tyok (eok_50 N) Try.func50 (by kernel_rfl) (by kernel_rfl) (lok_50 N) (fun x k => run_50 N x k)

def ap_52 : List Pat := [.int .u64, .int .u64, .int .u64]
def hp_52 : List (Option (Pat × Nat)) := []
def p_52 {R : Type} (N : Nat) (x : (Int × Int × Int × Unit) × (Unit)) (κ0 : Int → Option R) : Option R :=
let i1657 : Int := x.1.1
let i1658 : Int := x.1.2.1
let i1659 : Int := x.1.2.2.1
bif decide (i1658 = 0) then none else (
let i1660 : Int := quoA .u64 i1657 i1658
bif decide (i1658 = 0) then none else (
let i1661 : Int := remA .u64 i1657 i1658
let i1662 : Int := mulA .u64 i1661 i1659
let i1663 : Int := addA .u64 i1660 i1662
κ0 i1663))

abbrev Tp_52 (R : Type) : Type := (Int × Int × Int × Unit) × (Unit) → (Int → Option R) → Option R
def Q_52 {R : Type} (x : (Int × Int × Int × Unit) × (Unit)) (κ0 : Int → Option R) : Option R :=
let i1657 : Int := x.1.1
let i1658 : Int := x.1.2.1
let i1659 : Int := x.1.2.2.1
bif decide (i1658 = 0) then none else (
let i1660 : Int := quoA .u64 i1657 i1658
bif decide (i1658 = 0) then none else (
let i1661 : Int := remA .u64 i1657 i1658
let i1662 : Int := mulA .u64 i1661 i1659
let i1663 : Int := addA .u64 i1660 i1662
κ0 i1663))
def EG_52 {R : Type} : Env R := Env.base QQ LN
def LG_52 {R : Type} : Loops R := Loops.none
def E_52 {R : Type} (N : Nat) : Env R := EG_52
theorem eok_52 {R : Type} (N : Nat) : EK Try.prog (E_52 (R := R) N) := ek_base _ _
def L_52 {R : Type} (N : Nat) : Loops R := LG_52
theorem lok_52 {R : Type} (N : Nat) : LOK 0 TT (E_52 (R := R) N) (drawAny TT WW) (L_52 N) (bodyOf Try.f52) := loops_nil (by kernel_rfl)
theorem grun_52 {R : Type} (x : aden ap_52 × hden hp_52) (k : KF R) : fnrun TT (EG_52) (drawAny TT WW) (LG_52) true Try.f52 (instA ap_52 x.1) (instH hp_52 x.2) k = Q_52 x (fun y => k (Pat.inst (.int .u64) y) (instH hp_52 x.2)) := by kernel_rfl
theorem run_52 {R : Type} (N : Nat) (x : aden ap_52 × hden hp_52) (k : KF R) : fnrun TT (E_52 (R := R) N) (drawAny TT WW) (L_52 N) true Try.f52 (instA ap_52 x.1) (instH hp_52 x.2) k = p_52 N x (fun y => k (Pat.inst (.int .u64) y) (instH hp_52 x.2)) := (grun_52 x k).trans (by kernel_rfl)
theorem good_52 {R : Type} (N : Nat) : GD (X := R) Try.prog QQ 52 ap_52 hp_52 (fun (x : aden ap_52 × hden hp_52) k => p_52 N x (fun y => k (Pat.inst (.int .u64) y) (instH hp_52 x.2))) :=
  gd_quiet (E := E_52 N) (p := fun (x : aden ap_52 × hden hp_52) κ => p_52 N x (fun y => κ (Pat.inst (.int .u64) y))) mixed tyok (eok_52 N) Try.func52 (by kernel_rfl) (by kernel_rfl) (lok_52 N) (fun x k => run_52 N x k)

def ap_18 : List Pat := [.vec (.int .u64) 4, .int .u64, .int .u64]
def hp_18 : List (Option (Pat × Nat)) := []
def p_18 {R : Type} (N : Nat) (x : ((Nat → Int) × Int × Int × Unit) × (Unit)) (κ0 : (Nat → Int) → Option R) : Option R :=
let a1646 : (Nat → Int) := x.1.1
let i1647 : Int := x.1.2.1
let i1648 : Int := x.1.2.2.1
let i1649 : Int := (a1646 0)
let i1650 : Int := (a1646 1)
let i1651 : Int := addA .u64 i1649 i1650
let i1652 : Int := addA .u64 i1651 i1647
let a1653 : (Nat → Int) := (upd a1646 0 i1652)
let i1654 : Int := (a1653 3)
let i1655 : Int := (a1653 0)
let i1656 : Int := xorA .u64 i1654 i1655
p_52 N ((i1656, 4294967296, 4294967296, ()), ()) (fun y1664 =>
let i1665 : Int := y1664
let a1666 : (Nat → Int) := (upd a1653 3 i1665)
let i1667 : Int := (a1666 2)
let i1668 : Int := (a1666 3)
let i1669 : Int := addA .u64 i1667 i1668
let a1670 : (Nat → Int) := (upd a1666 2 i1669)
let i1671 : Int := (a1670 1)
let i1672 : Int := (a1670 2)
let i1673 : Int := xorA .u64 i1671 i1672
p_52 N ((i1673, 16777216, 1099511627776, ()), ()) (fun y1674 =>
let i1675 : Int := y1674
let a1676 : (Nat → Int) := (upd a1670 1 i1675)
let i1677 : Int := (a1676 0)
let i1678 : Int := (a1676 1)
let i1679 : Int := addA .u64 i1677 i1678
let i1680 : Int := addA .u64 i1679 i1648
let a1681 : (Nat → Int) := (upd a1676 0 i1680)
let i1682 : Int := (a1681 3)
let i1683 : Int := (a1681 0)
let i1684 : Int := xorA .u64 i1682 i1683
p_52 N ((i1684, 65536, 281474976710656, ()), ()) (fun y1685 =>
let i1686 : Int := y1685
let a1687 : (Nat → Int) := (upd a1681 3 i1686)
let i1688 : Int := (a1687 2)
let i1689 : Int := (a1687 3)
let i1690 : Int := addA .u64 i1688 i1689
let a1691 : (Nat → Int) := (upd a1687 2 i1690)
let i1692 : Int := (a1691 1)
let i1693 : Int := (a1691 2)
let i1694 : Int := xorA .u64 i1692 i1693
p_52 N ((i1694, 9223372036854775808, 2, ()), ()) (fun y1695 =>
let i1696 : Int := y1695
let a1697 : (Nat → Int) := (upd a1691 1 i1696)
κ0 a1697))))

abbrev Tp_18 (R : Type) : Type := ((Nat → Int) × Int × Int × Unit) × (Unit) → ((Nat → Int) → Option R) → Option R
def Q_18 {R : Type} (q_52 : Tp_52 R) (x : ((Nat → Int) × Int × Int × Unit) × (Unit)) (κ0 : (Nat → Int) → Option R) : Option R :=
let a1646 : (Nat → Int) := x.1.1
let i1647 : Int := x.1.2.1
let i1648 : Int := x.1.2.2.1
let i1649 : Int := (a1646 0)
let i1650 : Int := (a1646 1)
let i1651 : Int := addA .u64 i1649 i1650
let i1652 : Int := addA .u64 i1651 i1647
let a1653 : (Nat → Int) := (upd a1646 0 i1652)
let i1654 : Int := (a1653 3)
let i1655 : Int := (a1653 0)
let i1656 : Int := xorA .u64 i1654 i1655
q_52 ((i1656, 4294967296, 4294967296, ()), ()) (fun y1664 =>
let i1665 : Int := y1664
let a1666 : (Nat → Int) := (upd a1653 3 i1665)
let i1667 : Int := (a1666 2)
let i1668 : Int := (a1666 3)
let i1669 : Int := addA .u64 i1667 i1668
let a1670 : (Nat → Int) := (upd a1666 2 i1669)
let i1671 : Int := (a1670 1)
let i1672 : Int := (a1670 2)
let i1673 : Int := xorA .u64 i1671 i1672
q_52 ((i1673, 16777216, 1099511627776, ()), ()) (fun y1674 =>
let i1675 : Int := y1674
let a1676 : (Nat → Int) := (upd a1670 1 i1675)
let i1677 : Int := (a1676 0)
let i1678 : Int := (a1676 1)
let i1679 : Int := addA .u64 i1677 i1678
let i1680 : Int := addA .u64 i1679 i1648
let a1681 : (Nat → Int) := (upd a1676 0 i1680)
let i1682 : Int := (a1681 3)
let i1683 : Int := (a1681 0)
let i1684 : Int := xorA .u64 i1682 i1683
q_52 ((i1684, 65536, 281474976710656, ()), ()) (fun y1685 =>
let i1686 : Int := y1685
let a1687 : (Nat → Int) := (upd a1681 3 i1686)
let i1688 : Int := (a1687 2)
let i1689 : Int := (a1687 3)
let i1690 : Int := addA .u64 i1688 i1689
let a1691 : (Nat → Int) := (upd a1687 2 i1690)
let i1692 : Int := (a1691 1)
let i1693 : Int := (a1691 2)
let i1694 : Int := xorA .u64 i1692 i1693
q_52 ((i1694, 9223372036854775808, 2, ()), ()) (fun y1695 =>
let i1696 : Int := y1695
let a1697 : (Nat → Int) := (upd a1691 1 i1696)
κ0 a1697))))
def EG_18 {R : Type} (q_52 : Tp_52 R) : Env R := (Env.base QQ LN).add 52 ap_52 hp_52 (fun (x : aden ap_52 × hden hp_52) k => q_52 x (fun y => k (Pat.inst (.int .u64) y) (instH hp_52 x.2)))
def LG_18 {R : Type} : Loops R := Loops.none
def E_18 {R : Type} (N : Nat) : Env R := EG_18 (p_52 N)
theorem eok_18 {R : Type} (N : Nat) : EK Try.prog (E_18 (R := R) N) := ek_add (ek_base _ _) (good_52 N)
def L_18 {R : Type} (N : Nat) : Loops R := LG_18
theorem lok_18 {R : Type} (N : Nat) : LOK 0 TT (E_18 (R := R) N) (drawAny TT WW) (L_18 N) (bodyOf Try.f18) := loops_nil (by kernel_rfl)
theorem grun_18 {R : Type} (q_52 : Tp_52 R) (x : aden ap_18 × hden hp_18) (k : KF R) : fnrun TT (EG_18 q_52) (drawAny TT WW) (LG_18) true Try.f18 (instA ap_18 x.1) (instH hp_18 x.2) k = Q_18 q_52 x (fun y => k (Pat.inst (.vec (.int .u64) 4) y) (instH hp_18 x.2)) := by kernel_rfl
theorem run_18 {R : Type} (N : Nat) (x : aden ap_18 × hden hp_18) (k : KF R) : fnrun TT (E_18 (R := R) N) (drawAny TT WW) (L_18 N) true Try.f18 (instA ap_18 x.1) (instH hp_18 x.2) k = p_18 N x (fun y => k (Pat.inst (.vec (.int .u64) 4) y) (instH hp_18 x.2)) := (grun_18 (p_52 N) x k).trans (by kernel_rfl)
theorem good_18 {R : Type} (N : Nat) : GD (X := R) Try.prog QQ 18 ap_18 hp_18 (fun (x : aden ap_18 × hden hp_18) k => p_18 N x (fun y => k (Pat.inst (.vec (.int .u64) 4) y) (instH hp_18 x.2))) :=
  gd_quiet (E := E_18 N) (p := fun (x : aden ap_18 × hden hp_18) κ => p_18 N x (fun y => κ (Pat.inst (.vec (.int .u64) 4) y))) mixed tyok (eok_18 N) Try.func18 (by kernel_rfl) (by kernel_rfl) (lok_18 N) (fun x k => run_18 N x k)

def lv_16_4 : Live := [(3, none), (4, none), (5, none), (6, none), (10, none), (11, none), (13, none), (14, none)]
def pt_16_4 : SPat := ⟨[(3, .int .u64), (4, .bool), (5, .ptr 0 []), (6, .ptr 1 []), (10, .ptr 2 []), (11, .ros (.int .u64)), (13, .ptr 3 []), (14, .int .i64)], [some (.vec (.int .u64) 8, 29), some (.vec (.int .u64) 8, 23), some (.vec (.int .u64) 8, 23), some (.vec (.int .u64) 16, 97)]⟩
def px_16_4_0 : SPat := ⟨[(3, .int .u64), (4, .bool), (6, .ptr 0 []), (10, .ptr 1 []), (11, .ros (.int .u64)), (13, .ptr 2 [])], [some (.vec (.int .u64) 8, 23), some (.vec (.int .u64) 8, 23), some (.vec (.int .u64) 16, 97)]⟩
def lo_16_4 : Exit → Live
  | .exit 0 => [(3, none), (4, none), (6, none), (10, none), (11, none), (13, none)]
  | _ => []
def B_16_4 {R : Type} (N : Nat) (rec : ((Int × Bool × Unit × Unit × Unit × (List Int) × Unit × Int × Unit) × ((Nat → Int) × (Nat → Int) × (Nat → Int) × (Nat → Int) × Unit)) → Option R) (x : ((Int × Bool × Unit × Unit × Unit × (List Int) × Unit × Int × Unit) × ((Nat → Int) × (Nat → Int) × (Nat → Int) × (Nat → Int) × Unit))) (κ0 : ((Int × Bool × Unit × Unit × (List Int) × Unit × Unit) × ((Nat → Int) × (Nat → Int) × (Nat → Int) × Unit)) → Option R) : Option R :=
let i1539 : Int := x.1.1
let b1540 : Bool := x.1.2.1
let l1541 : (List Int) := x.1.2.2.2.2.2.1
let i1542 : Int := x.1.2.2.2.2.2.2.2.1
let a1543 : (Nat → Int) := x.2.1
let a1544 : (Nat → Int) := x.2.2.1
let a1545 : (Nat → Int) := x.2.2.2.1
let a1546 : (Nat → Int) := x.2.2.2.2.1
bif (decide (i1542 < 8)) then (
bif decide (0 ≤ i1542) then (
bif decide (i1542 < (8 : Int)) then (
let i1547 : Int := (a1544 ((Int.toNat i1542)))
bif decide (0 ≤ i1542) then (
bif decide (i1542 < (16 : Int)) then (
let a1548 : (Nat → Int) := (upd a1546 ((Int.toNat i1542)) i1547)
let i1549 : Int := addA .i64 i1542 8
bif decide (0 ≤ i1542) then (
bif decide (i1542 < (8 : Int)) then (
let i1550 : Int := (a1543 ((Int.toNat i1542)))
bif decide (0 ≤ i1549) then (
bif decide (i1549 < (16 : Int)) then (
let a1551 : (Nat → Int) := (upd a1548 ((Int.toNat i1549)) i1550)
let i1552 : Int := addA .i64 i1542 1
rec ((i1539, b1540, (), (), (), l1541, (), i1552, ()), (a1543, a1544, a1545, a1551, ()))) else none) else none) else none) else none) else none) else none) else none) else none) else (
κ0 ((i1539, b1540, (), (), l1541, (), ()), (a1544, a1545, a1546, ())))
def l_16_4 {R : Type} (N : Nat) : Nat → ((Int × Bool × Unit × Unit × Unit × (List Int) × Unit × Int × Unit) × ((Nat → Int) × (Nat → Int) × (Nat → Int) × (Nat → Int) × Unit)) → (((Int × Bool × Unit × Unit × (List Int) × Unit × Unit) × ((Nat → Int) × (Nat → Int) × (Nat → Int) × Unit)) → Option R) → Option R
  | 0, _, _ => none
  | n + 1, x, κ0 => B_16_4 N (fun y => l_16_4 N n y κ0) x κ0
def lv_16_21 : Live := [(6, none), (10, none), (11, none), (13, none), (15, none), (16, none), (17, none), (18, none), (19, none), (20, none)]
def pt_16_21 : SPat := ⟨[(6, .ptr 0 []), (10, .ptr 1 []), (11, .ros (.int .u64)), (13, .ptr 2 []), (15, .int .i64), (16, .ptr 3 []), (17, .int .i64), (18, .ptr 4 []), (19, .ptr 5 []), (20, .int .i64)], [some (.vec (.int .u64) 8, 23), some (.vec (.int .u64) 8, 23), some (.vec (.int .u64) 16, 97), some (.vec (.int .i64) 16, 38), some (.vec (.int .i64) 4, 98), some (.vec (.int .u64) 4, 36)]⟩
def px_16_21_0 : SPat := ⟨[(6, .ptr 0 []), (10, .ptr 1 []), (11, .ros (.int .u64)), (13, .ptr 2 []), (15, .int .i64), (16, .ptr 3 []), (17, .int .i64)], [some (.vec (.int .u64) 8, 23), some (.vec (.int .u64) 8, 23), some (.vec (.int .u64) 16, 97), some (.vec (.int .i64) 16, 38)]⟩
def lo_16_21 : Exit → Live
  | .exit 6 => [(6, none), (10, none), (11, none), (13, none), (15, none), (16, none), (17, none)]
  | _ => []
def B_16_21 {R : Type} (N : Nat) (rec : ((Unit × Unit × (List Int) × Unit × Int × Unit × Int × Unit × Unit × Int × Unit) × ((Nat → Int) × (Nat → Int) × (Nat → Int) × (Nat → Int) × (Nat → Int) × (Nat → Int) × Unit)) → Option R) (x : ((Unit × Unit × (List Int) × Unit × Int × Unit × Int × Unit × Unit × Int × Unit) × ((Nat → Int) × (Nat → Int) × (Nat → Int) × (Nat → Int) × (Nat → Int) × (Nat → Int) × Unit))) (κ0 : ((Unit × Unit × (List Int) × Unit × Int × Unit × Int × Unit) × ((Nat → Int) × (Nat → Int) × (Nat → Int) × (Nat → Int) × Unit)) → Option R) : Option R :=
let l1783 : (List Int) := x.1.2.2.1
let i1784 : Int := x.1.2.2.2.2.1
let i1785 : Int := x.1.2.2.2.2.2.2.1
let i1786 : Int := x.1.2.2.2.2.2.2.2.2.2.1
let a1787 : (Nat → Int) := x.2.1
let a1788 : (Nat → Int) := x.2.2.1
let a1789 : (Nat → Int) := x.2.2.2.1
let a1790 : (Nat → Int) := x.2.2.2.2.1
let a1791 : (Nat → Int) := x.2.2.2.2.2.1
let a1792 : (Nat → Int) := x.2.2.2.2.2.2.1
bif (decide (i1786 < 4)) then (
bif decide (0 ≤ i1786) then (
bif decide (i1786 < (4 : Int)) then (
let i1793 : Int := (a1791 ((Int.toNat i1786)))
bif decide (0 ≤ i1786) then (
bif decide (i1786 < (4 : Int)) then (
let i1794 : Int := (a1792 ((Int.toNat i1786)))
bif decide (0 ≤ i1793) then (
bif decide (i1793 < (16 : Int)) then (
let a1795 : (Nat → Int) := (upd a1789 ((Int.toNat i1793)) i1794)
let i1796 : Int := addA .i64 i1786 1
rec (((), (), l1783, (), i1784, (), i1785, (), (), i1796, ()), (a1787, a1788, a1795, a1790, a1791, a1792, ()))) else none) else none) else none) else none) else none) else none) else (
κ0 (((), (), l1783, (), i1784, (), i1785, ()), (a1787, a1788, a1789, a1790, ())))
def l_16_21 {R : Type} (N : Nat) : Nat → ((Unit × Unit × (List Int) × Unit × Int × Unit × Int × Unit × Unit × Int × Unit) × ((Nat → Int) × (Nat → Int) × (Nat → Int) × (Nat → Int) × (Nat → Int) × (Nat → Int) × Unit)) → (((Unit × Unit × (List Int) × Unit × Int × Unit × Int × Unit) × ((Nat → Int) × (Nat → Int) × (Nat → Int) × (Nat → Int) × Unit)) → Option R) → Option R
  | 0, _, _ => none
  | n + 1, x, κ0 => B_16_21 N (fun y => l_16_21 N n y κ0) x κ0
def lv_16_16 : Live := [(6, none), (10, none), (11, none), (13, none), (15, none), (16, none), (17, none)]
def pt_16_16 : SPat := ⟨[(6, .ptr 0 []), (10, .ptr 1 []), (11, .ros (.int .u64)), (13, .ptr 2 []), (15, .int .i64), (16, .ptr 3 []), (17, .int .i64)], [some (.vec (.int .u64) 8, 23), some (.vec (.int .u64) 8, 23), some (.vec (.int .u64) 16, 97), some (.vec (.int .i64) 16, 38)]⟩
def px_16_16_0 : SPat := ⟨[(6, .ptr 0 []), (10, .ptr 1 []), (11, .ros (.int .u64)), (13, .ptr 2 []), (15, .int .i64)], [some (.vec (.int .u64) 8, 23), some (.vec (.int .u64) 8, 23), some (.vec (.int .u64) 16, 97)]⟩
def lo_16_16 : Exit → Live
  | .exit 4 => [(6, none), (10, none), (11, none), (13, none), (15, none)]
  | _ => []
def B_16_16 {R : Type} (N : Nat) (rec : ((Unit × Unit × (List Int) × Unit × Int × Unit × Int × Unit) × ((Nat → Int) × (Nat → Int) × (Nat → Int) × (Nat → Int) × Unit)) → Option R) (x : ((Unit × Unit × (List Int) × Unit × Int × Unit × Int × Unit) × ((Nat → Int) × (Nat → Int) × (Nat → Int) × (Nat → Int) × Unit))) (κ0 : ((Unit × Unit × (List Int) × Unit × Int × Unit) × ((Nat → Int) × (Nat → Int) × (Nat → Int) × Unit)) → Option R) : Option R :=
let l1756 : (List Int) := x.1.2.2.1
let i1757 : Int := x.1.2.2.2.2.1
let i1758 : Int := x.1.2.2.2.2.2.2.1
let a1759 : (Nat → Int) := x.2.1
let a1760 : (Nat → Int) := x.2.2.1
let a1761 : (Nat → Int) := x.2.2.2.1
let a1762 : (Nat → Int) := x.2.2.2.2.1
bif (decide (i1758 < 8)) then (
p_50 N ((i1758, ()), ()) (fun y1763 =>
let a1764 : (Nat → Int) := y1763
let i1765 : Int := (a1764 0)
bif decide (0 ≤ i1765) then (
bif decide (i1765 < (16 : Int)) then (
let i1766 : Int := (a1761 ((Int.toNat i1765)))
let i1767 : Int := (a1764 1)
bif decide (0 ≤ i1767) then (
bif decide (i1767 < (16 : Int)) then (
let i1768 : Int := (a1761 ((Int.toNat i1767)))
let i1769 : Int := (a1764 2)
bif decide (0 ≤ i1769) then (
bif decide (i1769 < (16 : Int)) then (
let i1770 : Int := (a1761 ((Int.toNat i1769)))
let i1771 : Int := (a1764 3)
bif decide (0 ≤ i1771) then (
bif decide (i1771 < (16 : Int)) then (
let i1772 : Int := (a1761 ((Int.toNat i1771)))
let a1773 : (Nat → Int) := (upd ((upd ((upd ((upd ((Sch.zero (.arr 4 (.int .u64)))) 0 i1766)) 1 i1768)) 2 i1770)) 3 i1772)
let i1774 : Int := mulA .i64 2 i1758
bif decide (0 ≤ i1774) then (
bif decide (i1774 < (16 : Int)) then (
let i1775 : Int := (a1762 ((Int.toNat i1774)))
bif decide (0 ≤ i1775) then (
bif decide (i1775 < ((List.length l1756) : Int)) then (
let p1776 : Int := (List.getD l1756 ((Int.toNat i1775)) (Sch.zero (.int .u64)))
let i1777 : Int := mulA .i64 2 i1758
let i1778 : Int := addA .i64 i1777 1
bif decide (0 ≤ i1778) then (
bif decide (i1778 < (16 : Int)) then (
let i1779 : Int := (a1762 ((Int.toNat i1778)))
bif decide (0 ≤ i1779) then (
bif decide (i1779 < ((List.length l1756) : Int)) then (
let p1780 : Int := (List.getD l1756 ((Int.toNat i1779)) (Sch.zero (.int .u64)))
p_18 N ((a1773, p1776, p1780, ()), ()) (fun y1781 =>
let a1782 : (Nat → Int) := y1781
l_16_21 N N (((), (), l1756, (), i1757, (), i1758, (), (), 0, ()), (a1759, a1760, a1761, a1762, a1764, a1782, ())) (fun y1797 =>
let l1798 : (List Int) := y1797.1.2.2.1
let i1799 : Int := y1797.1.2.2.2.2.1
let i1800 : Int := y1797.1.2.2.2.2.2.2.1
let a1801 : (Nat → Int) := y1797.2.1
let a1802 : (Nat → Int) := y1797.2.2.1
let a1803 : (Nat → Int) := y1797.2.2.2.1
let a1804 : (Nat → Int) := y1797.2.2.2.2.1
let i1805 : Int := addA .i64 i1800 1
rec (((), (), l1798, (), i1799, (), i1805, ()), (a1801, a1802, a1803, a1804, ()))))) else none) else none) else none) else none) else none) else none) else none) else none) else none) else none) else none) else none) else none) else none) else none) else none)) else (
κ0 (((), (), l1756, (), i1757, ()), (a1759, a1760, a1761, ())))
def l_16_16 {R : Type} (N : Nat) : Nat → ((Unit × Unit × (List Int) × Unit × Int × Unit × Int × Unit) × ((Nat → Int) × (Nat → Int) × (Nat → Int) × (Nat → Int) × Unit)) → (((Unit × Unit × (List Int) × Unit × Int × Unit) × ((Nat → Int) × (Nat → Int) × (Nat → Int) × Unit)) → Option R) → Option R
  | 0, _, _ => none
  | n + 1, x, κ0 => B_16_16 N (fun y => l_16_16 N n y κ0) x κ0
def lv_16_12 : Live := [(6, none), (10, none), (11, none), (13, none), (15, none)]
def pt_16_12 : SPat := ⟨[(6, .ptr 0 []), (10, .ptr 1 []), (11, .ros (.int .u64)), (13, .ptr 2 []), (15, .int .i64)], [some (.vec (.int .u64) 8, 23), some (.vec (.int .u64) 8, 23), some (.vec (.int .u64) 16, 97)]⟩
def px_16_12_0 : SPat := ⟨[(6, .ptr 0 []), (10, .ptr 1 []), (13, .ptr 2 [])], [some (.vec (.int .u64) 8, 23), some (.vec (.int .u64) 8, 23), some (.vec (.int .u64) 16, 97)]⟩
def lo_16_12 : Exit → Live
  | .exit 2 => [(6, none), (10, none), (13, none)]
  | _ => []
def B_16_12 {R : Type} (N : Nat) (rec : ((Unit × Unit × (List Int) × Unit × Int × Unit) × ((Nat → Int) × (Nat → Int) × (Nat → Int) × Unit)) → Option R) (x : ((Unit × Unit × (List Int) × Unit × Int × Unit) × ((Nat → Int) × (Nat → Int) × (Nat → Int) × Unit))) (κ0 : ((Unit × Unit × Unit × Unit) × ((Nat → Int) × (Nat → Int) × (Nat → Int) × Unit)) → Option R) : Option R :=
let l1749 : (List Int) := x.1.2.2.1
let i1750 : Int := x.1.2.2.2.2.1
let a1751 : (Nat → Int) := x.2.1
let a1752 : (Nat → Int) := x.2.2.1
let a1753 : (Nat → Int) := x.2.2.2.1
bif (decide (i1750 < 12)) then (
p_20 N ((i1750, ()), ()) (fun y1754 =>
let a1755 : (Nat → Int) := y1754
l_16_16 N N (((), (), l1749, (), i1750, (), 0, ()), (a1751, a1752, a1753, a1755, ())) (fun y1806 =>
let l1807 : (List Int) := y1806.1.2.2.1
let i1808 : Int := y1806.1.2.2.2.2.1
let a1809 : (Nat → Int) := y1806.2.1
let a1810 : (Nat → Int) := y1806.2.2.1
let a1811 : (Nat → Int) := y1806.2.2.2.1
let i1812 : Int := addA .i64 i1808 1
rec (((), (), l1807, (), i1812, ()), (a1809, a1810, a1811, ()))))) else (
κ0 (((), (), (), ()), (a1751, a1752, a1753, ())))
def l_16_12 {R : Type} (N : Nat) : Nat → ((Unit × Unit × (List Int) × Unit × Int × Unit) × ((Nat → Int) × (Nat → Int) × (Nat → Int) × Unit)) → (((Unit × Unit × Unit × Unit) × ((Nat → Int) × (Nat → Int) × (Nat → Int) × Unit)) → Option R) → Option R
  | 0, _, _ => none
  | n + 1, x, κ0 => B_16_12 N (fun y => l_16_12 N n y κ0) x κ0
def lv_16_25 : Live := [(6, none), (10, none), (13, none), (21, none)]
def pt_16_25 : SPat := ⟨[(6, .ptr 0 []), (10, .ptr 1 []), (13, .ptr 2 []), (21, .int .i64)], [some (.vec (.int .u64) 8, 23), some (.vec (.int .u64) 8, 23), some (.vec (.int .u64) 16, 97)]⟩
def px_16_25_0 : SPat := ⟨[(6, .ptr 0 []), (10, .ptr 1 [])], [some (.vec (.int .u64) 8, 23), some (.vec (.int .u64) 8, 23)]⟩
def lo_16_25 : Exit → Live
  | .exit 8 => [(6, none), (10, none)]
  | _ => []
def B_16_25 {R : Type} (N : Nat) (rec : ((Unit × Unit × Unit × Int × Unit) × ((Nat → Int) × (Nat → Int) × (Nat → Int) × Unit)) → Option R) (x : ((Unit × Unit × Unit × Int × Unit) × ((Nat → Int) × (Nat → Int) × (Nat → Int) × Unit))) (κ0 : ((Unit × Unit × Unit) × ((Nat → Int) × (Nat → Int) × Unit)) → Option R) : Option R :=
let i1817 : Int := x.1.2.2.2.1
let a1818 : (Nat → Int) := x.2.1
let a1819 : (Nat → Int) := x.2.2.1
let a1820 : (Nat → Int) := x.2.2.2.1
bif (decide (i1817 < 8)) then (
bif decide (0 ≤ i1817) then (
bif decide (i1817 < (8 : Int)) then (
let i1821 : Int := (a1818 ((Int.toNat i1817)))
bif decide (0 ≤ i1817) then (
bif decide (i1817 < (16 : Int)) then (
let i1822 : Int := (a1820 ((Int.toNat i1817)))
let i1823 : Int := xorA .u64 i1821 i1822
let i1824 : Int := addA .i64 i1817 8
bif decide (0 ≤ i1824) then (
bif decide (i1824 < (16 : Int)) then (
let i1825 : Int := (a1820 ((Int.toNat i1824)))
let i1826 : Int := xorA .u64 i1823 i1825
bif decide (0 ≤ i1817) then (
bif decide (i1817 < (8 : Int)) then (
let a1827 : (Nat → Int) := (upd a1818 ((Int.toNat i1817)) i1826)
let i1828 : Int := addA .i64 i1817 1
rec (((), (), (), i1828, ()), (a1827, a1819, a1820, ()))) else none) else none) else none) else none) else none) else none) else none) else none) else (
κ0 (((), (), ()), (a1818, a1819, ())))
def l_16_25 {R : Type} (N : Nat) : Nat → ((Unit × Unit × Unit × Int × Unit) × ((Nat → Int) × (Nat → Int) × (Nat → Int) × Unit)) → (((Unit × Unit × Unit) × ((Nat → Int) × (Nat → Int) × Unit)) → Option R) → Option R
  | 0, _, _ => none
  | n + 1, x, κ0 => B_16_25 N (fun y => l_16_25 N n y κ0) x κ0
def ap_16 : List Pat := [.vec (.int .u64) 8, .vec (.int .u64) 8, .str, .int .u64, .bool]
def hp_16 : List (Option (Pat × Nat)) := []
def p_16 {R : Type} (N : Nat) (x : ((Nat → Int) × (Nat → Int) × ByteArray × Int × Bool × Unit) × (Unit)) (κ0 : (Nat → Int) → Option R) : Option R :=
let a1472 : (Nat → Int) := x.1.1
let a1473 : (Nat → Int) := x.1.2.1
let s1474 : ByteArray := x.1.2.2.1
let i1475 : Int := x.1.2.2.2.1
let b1476 : Bool := x.1.2.2.2.2.1
bif decide (ByteArray.size s1474 ≤ maxI64) then (
let l1477 : (List Int) := strList s1474
p_49 N (((), 8, ()), (l1477, ())) (fun y1535 =>
let l1536 : (List Int) := y1535.1.1
let b1537 : Bool := y1535.1.2.1
let l1538 : (List Int) := y1535.2.1
l_16_4 N N ((i1475, b1476, (), (), (), l1536, (), 0, ()), (a1472, a1473, (Sch.zero (.arr 8 (.int .u64))), (Sch.zero (.arr 16 (.int .u64))), ())) (fun y1553 =>
let i1554 : Int := y1553.1.1
let b1555 : Bool := y1553.1.2.1
let l1556 : (List Int) := y1553.1.2.2.2.2.1
let a1557 : (Nat → Int) := y1553.2.1
let a1558 : (Nat → Int) := y1553.2.2.1
let a1559 : (Nat → Int) := y1553.2.2.2.1
let i1560 : Int := (a1559 12)
let i1561 : Int := xorA .u64 i1560 i1554
let a1562 : (Nat → Int) := (upd a1559 12 i1561)
bif b1555 then (
let i1563 : Int := (a1562 14)
let i1564 : Int := subA .u64 18446744073709551615 i1563
let a1565 : (Nat → Int) := (upd a1562 14 i1564)
l_16_12 N N (((), (), l1556, (), 0, ()), (a1557, a1558, a1565, ())) (fun y1730 =>
let a1731 : (Nat → Int) := y1730.2.1
let a1732 : (Nat → Int) := y1730.2.2.1
let a1733 : (Nat → Int) := y1730.2.2.2.1
l_16_25 N N (((), (), (), 0, ()), (a1731, a1732, a1733, ())) (fun y1746 =>
let a1747 : (Nat → Int) := y1746.2.1
let a1748 : (Nat → Int) := y1746.2.2.1
κ0 a1747))) else (
l_16_12 N N (((), (), l1556, (), 0, ()), (a1557, a1558, a1562, ())) (fun y1813 =>
let a1814 : (Nat → Int) := y1813.2.1
let a1815 : (Nat → Int) := y1813.2.2.1
let a1816 : (Nat → Int) := y1813.2.2.2.1
l_16_25 N N (((), (), (), 0, ()), (a1814, a1815, a1816, ())) (fun y1829 =>
let a1830 : (Nat → Int) := y1829.2.1
let a1831 : (Nat → Int) := y1829.2.2.1
κ0 a1830)))))) else none

abbrev Tl_16_4 (R : Type) : Type := ((Int × Bool × Unit × Unit × Unit × (List Int) × Unit × Int × Unit) × ((Nat → Int) × (Nat → Int) × (Nat → Int) × (Nat → Int) × Unit)) → (((Int × Bool × Unit × Unit × (List Int) × Unit × Unit) × ((Nat → Int) × (Nat → Int) × (Nat → Int) × Unit)) → Option R) → Option R
abbrev Tl_16_21 (R : Type) : Type := ((Unit × Unit × (List Int) × Unit × Int × Unit × Int × Unit × Unit × Int × Unit) × ((Nat → Int) × (Nat → Int) × (Nat → Int) × (Nat → Int) × (Nat → Int) × (Nat → Int) × Unit)) → (((Unit × Unit × (List Int) × Unit × Int × Unit × Int × Unit) × ((Nat → Int) × (Nat → Int) × (Nat → Int) × (Nat → Int) × Unit)) → Option R) → Option R
abbrev Tl_16_16 (R : Type) : Type := ((Unit × Unit × (List Int) × Unit × Int × Unit × Int × Unit) × ((Nat → Int) × (Nat → Int) × (Nat → Int) × (Nat → Int) × Unit)) → (((Unit × Unit × (List Int) × Unit × Int × Unit) × ((Nat → Int) × (Nat → Int) × (Nat → Int) × Unit)) → Option R) → Option R
abbrev Tl_16_12 (R : Type) : Type := ((Unit × Unit × (List Int) × Unit × Int × Unit) × ((Nat → Int) × (Nat → Int) × (Nat → Int) × Unit)) → (((Unit × Unit × Unit × Unit) × ((Nat → Int) × (Nat → Int) × (Nat → Int) × Unit)) → Option R) → Option R
abbrev Tl_16_25 (R : Type) : Type := ((Unit × Unit × Unit × Int × Unit) × ((Nat → Int) × (Nat → Int) × (Nat → Int) × Unit)) → (((Unit × Unit × Unit) × ((Nat → Int) × (Nat → Int) × Unit)) → Option R) → Option R
abbrev Tp_16 (R : Type) : Type := ((Nat → Int) × (Nat → Int) × ByteArray × Int × Bool × Unit) × (Unit) → ((Nat → Int) → Option R) → Option R
def Q_16 {R : Type} (q_49 : Tp_49 R) (q_50 : Tp_50 R) (q_18 : Tp_18 R) (q_20 : Tp_20 R) (m_16_4 : Tl_16_4 R) (m_16_21 : Tl_16_21 R) (m_16_16 : Tl_16_16 R) (m_16_12 : Tl_16_12 R) (m_16_25 : Tl_16_25 R) (x : ((Nat → Int) × (Nat → Int) × ByteArray × Int × Bool × Unit) × (Unit)) (κ0 : (Nat → Int) → Option R) : Option R :=
let a1472 : (Nat → Int) := x.1.1
let a1473 : (Nat → Int) := x.1.2.1
let s1474 : ByteArray := x.1.2.2.1
let i1475 : Int := x.1.2.2.2.1
let b1476 : Bool := x.1.2.2.2.2.1
bif decide (ByteArray.size s1474 ≤ maxI64) then (
let l1477 : (List Int) := strList s1474
q_49 (((), 8, ()), (l1477, ())) (fun y1535 =>
let l1536 : (List Int) := y1535.1.1
let b1537 : Bool := y1535.1.2.1
let l1538 : (List Int) := y1535.2.1
m_16_4 ((i1475, b1476, (), (), (), l1536, (), 0, ()), (a1472, a1473, (Sch.zero (.arr 8 (.int .u64))), (Sch.zero (.arr 16 (.int .u64))), ())) (fun y1553 =>
let i1554 : Int := y1553.1.1
let b1555 : Bool := y1553.1.2.1
let l1556 : (List Int) := y1553.1.2.2.2.2.1
let a1557 : (Nat → Int) := y1553.2.1
let a1558 : (Nat → Int) := y1553.2.2.1
let a1559 : (Nat → Int) := y1553.2.2.2.1
let i1560 : Int := (a1559 12)
let i1561 : Int := xorA .u64 i1560 i1554
let a1562 : (Nat → Int) := (upd a1559 12 i1561)
bif b1555 then (
let i1563 : Int := (a1562 14)
let i1564 : Int := subA .u64 18446744073709551615 i1563
let a1565 : (Nat → Int) := (upd a1562 14 i1564)
m_16_12 (((), (), l1556, (), 0, ()), (a1557, a1558, a1565, ())) (fun y1730 =>
let a1731 : (Nat → Int) := y1730.2.1
let a1732 : (Nat → Int) := y1730.2.2.1
let a1733 : (Nat → Int) := y1730.2.2.2.1
m_16_25 (((), (), (), 0, ()), (a1731, a1732, a1733, ())) (fun y1746 =>
let a1747 : (Nat → Int) := y1746.2.1
let a1748 : (Nat → Int) := y1746.2.2.1
κ0 a1747))) else (
m_16_12 (((), (), l1556, (), 0, ()), (a1557, a1558, a1562, ())) (fun y1813 =>
let a1814 : (Nat → Int) := y1813.2.1
let a1815 : (Nat → Int) := y1813.2.2.1
let a1816 : (Nat → Int) := y1813.2.2.2.1
m_16_25 (((), (), (), 0, ()), (a1814, a1815, a1816, ())) (fun y1829 =>
let a1830 : (Nat → Int) := y1829.2.1
let a1831 : (Nat → Int) := y1829.2.2.1
κ0 a1830)))))) else none
def C_16_4 {R : Type} (q_49 : Tp_49 R) (q_50 : Tp_50 R) (q_18 : Tp_18 R) (q_20 : Tp_20 R) (m_16_4 : Tl_16_4 R) (m_16_21 : Tl_16_21 R) (m_16_16 : Tl_16_16 R) (m_16_12 : Tl_16_12 R) (m_16_25 : Tl_16_25 R) (rec : ((Int × Bool × Unit × Unit × Unit × (List Int) × Unit × Int × Unit) × ((Nat → Int) × (Nat → Int) × (Nat → Int) × (Nat → Int) × Unit)) → Option R) (x : ((Int × Bool × Unit × Unit × Unit × (List Int) × Unit × Int × Unit) × ((Nat → Int) × (Nat → Int) × (Nat → Int) × (Nat → Int) × Unit))) (κ0 : ((Int × Bool × Unit × Unit × (List Int) × Unit × Unit) × ((Nat → Int) × (Nat → Int) × (Nat → Int) × Unit)) → Option R) : Option R :=
let i1539 : Int := x.1.1
let b1540 : Bool := x.1.2.1
let l1541 : (List Int) := x.1.2.2.2.2.2.1
let i1542 : Int := x.1.2.2.2.2.2.2.2.1
let a1543 : (Nat → Int) := x.2.1
let a1544 : (Nat → Int) := x.2.2.1
let a1545 : (Nat → Int) := x.2.2.2.1
let a1546 : (Nat → Int) := x.2.2.2.2.1
bif (decide (i1542 < 8)) then (
bif decide (0 ≤ i1542) then (
bif decide (i1542 < (8 : Int)) then (
let i1547 : Int := (a1544 ((Int.toNat i1542)))
bif decide (0 ≤ i1542) then (
bif decide (i1542 < (16 : Int)) then (
let a1548 : (Nat → Int) := (upd a1546 ((Int.toNat i1542)) i1547)
let i1549 : Int := addA .i64 i1542 8
bif decide (0 ≤ i1542) then (
bif decide (i1542 < (8 : Int)) then (
let i1550 : Int := (a1543 ((Int.toNat i1542)))
bif decide (0 ≤ i1549) then (
bif decide (i1549 < (16 : Int)) then (
let a1551 : (Nat → Int) := (upd a1548 ((Int.toNat i1549)) i1550)
let i1552 : Int := addA .i64 i1542 1
rec ((i1539, b1540, (), (), (), l1541, (), i1552, ()), (a1543, a1544, a1545, a1551, ()))) else none) else none) else none) else none) else none) else none) else none) else none) else (
κ0 ((i1539, b1540, (), (), l1541, (), ()), (a1544, a1545, a1546, ())))
def C_16_21 {R : Type} (q_49 : Tp_49 R) (q_50 : Tp_50 R) (q_18 : Tp_18 R) (q_20 : Tp_20 R) (m_16_4 : Tl_16_4 R) (m_16_21 : Tl_16_21 R) (m_16_16 : Tl_16_16 R) (m_16_12 : Tl_16_12 R) (m_16_25 : Tl_16_25 R) (rec : ((Unit × Unit × (List Int) × Unit × Int × Unit × Int × Unit × Unit × Int × Unit) × ((Nat → Int) × (Nat → Int) × (Nat → Int) × (Nat → Int) × (Nat → Int) × (Nat → Int) × Unit)) → Option R) (x : ((Unit × Unit × (List Int) × Unit × Int × Unit × Int × Unit × Unit × Int × Unit) × ((Nat → Int) × (Nat → Int) × (Nat → Int) × (Nat → Int) × (Nat → Int) × (Nat → Int) × Unit))) (κ0 : ((Unit × Unit × (List Int) × Unit × Int × Unit × Int × Unit) × ((Nat → Int) × (Nat → Int) × (Nat → Int) × (Nat → Int) × Unit)) → Option R) : Option R :=
let l1783 : (List Int) := x.1.2.2.1
let i1784 : Int := x.1.2.2.2.2.1
let i1785 : Int := x.1.2.2.2.2.2.2.1
let i1786 : Int := x.1.2.2.2.2.2.2.2.2.2.1
let a1787 : (Nat → Int) := x.2.1
let a1788 : (Nat → Int) := x.2.2.1
let a1789 : (Nat → Int) := x.2.2.2.1
let a1790 : (Nat → Int) := x.2.2.2.2.1
let a1791 : (Nat → Int) := x.2.2.2.2.2.1
let a1792 : (Nat → Int) := x.2.2.2.2.2.2.1
bif (decide (i1786 < 4)) then (
bif decide (0 ≤ i1786) then (
bif decide (i1786 < (4 : Int)) then (
let i1793 : Int := (a1791 ((Int.toNat i1786)))
bif decide (0 ≤ i1786) then (
bif decide (i1786 < (4 : Int)) then (
let i1794 : Int := (a1792 ((Int.toNat i1786)))
bif decide (0 ≤ i1793) then (
bif decide (i1793 < (16 : Int)) then (
let a1795 : (Nat → Int) := (upd a1789 ((Int.toNat i1793)) i1794)
let i1796 : Int := addA .i64 i1786 1
rec (((), (), l1783, (), i1784, (), i1785, (), (), i1796, ()), (a1787, a1788, a1795, a1790, a1791, a1792, ()))) else none) else none) else none) else none) else none) else none) else (
κ0 (((), (), l1783, (), i1784, (), i1785, ()), (a1787, a1788, a1789, a1790, ())))
def C_16_16 {R : Type} (q_49 : Tp_49 R) (q_50 : Tp_50 R) (q_18 : Tp_18 R) (q_20 : Tp_20 R) (m_16_4 : Tl_16_4 R) (m_16_21 : Tl_16_21 R) (m_16_16 : Tl_16_16 R) (m_16_12 : Tl_16_12 R) (m_16_25 : Tl_16_25 R) (rec : ((Unit × Unit × (List Int) × Unit × Int × Unit × Int × Unit) × ((Nat → Int) × (Nat → Int) × (Nat → Int) × (Nat → Int) × Unit)) → Option R) (x : ((Unit × Unit × (List Int) × Unit × Int × Unit × Int × Unit) × ((Nat → Int) × (Nat → Int) × (Nat → Int) × (Nat → Int) × Unit))) (κ0 : ((Unit × Unit × (List Int) × Unit × Int × Unit) × ((Nat → Int) × (Nat → Int) × (Nat → Int) × Unit)) → Option R) : Option R :=
let l1756 : (List Int) := x.1.2.2.1
let i1757 : Int := x.1.2.2.2.2.1
let i1758 : Int := x.1.2.2.2.2.2.2.1
let a1759 : (Nat → Int) := x.2.1
let a1760 : (Nat → Int) := x.2.2.1
let a1761 : (Nat → Int) := x.2.2.2.1
let a1762 : (Nat → Int) := x.2.2.2.2.1
bif (decide (i1758 < 8)) then (
q_50 ((i1758, ()), ()) (fun y1763 =>
let a1764 : (Nat → Int) := y1763
let i1765 : Int := (a1764 0)
bif decide (0 ≤ i1765) then (
bif decide (i1765 < (16 : Int)) then (
let i1766 : Int := (a1761 ((Int.toNat i1765)))
let i1767 : Int := (a1764 1)
bif decide (0 ≤ i1767) then (
bif decide (i1767 < (16 : Int)) then (
let i1768 : Int := (a1761 ((Int.toNat i1767)))
let i1769 : Int := (a1764 2)
bif decide (0 ≤ i1769) then (
bif decide (i1769 < (16 : Int)) then (
let i1770 : Int := (a1761 ((Int.toNat i1769)))
let i1771 : Int := (a1764 3)
bif decide (0 ≤ i1771) then (
bif decide (i1771 < (16 : Int)) then (
let i1772 : Int := (a1761 ((Int.toNat i1771)))
let a1773 : (Nat → Int) := (upd ((upd ((upd ((upd ((Sch.zero (.arr 4 (.int .u64)))) 0 i1766)) 1 i1768)) 2 i1770)) 3 i1772)
let i1774 : Int := mulA .i64 2 i1758
bif decide (0 ≤ i1774) then (
bif decide (i1774 < (16 : Int)) then (
let i1775 : Int := (a1762 ((Int.toNat i1774)))
bif decide (0 ≤ i1775) then (
bif decide (i1775 < ((List.length l1756) : Int)) then (
let p1776 : Int := (List.getD l1756 ((Int.toNat i1775)) (Sch.zero (.int .u64)))
let i1777 : Int := mulA .i64 2 i1758
let i1778 : Int := addA .i64 i1777 1
bif decide (0 ≤ i1778) then (
bif decide (i1778 < (16 : Int)) then (
let i1779 : Int := (a1762 ((Int.toNat i1778)))
bif decide (0 ≤ i1779) then (
bif decide (i1779 < ((List.length l1756) : Int)) then (
let p1780 : Int := (List.getD l1756 ((Int.toNat i1779)) (Sch.zero (.int .u64)))
q_18 ((a1773, p1776, p1780, ()), ()) (fun y1781 =>
let a1782 : (Nat → Int) := y1781
m_16_21 (((), (), l1756, (), i1757, (), i1758, (), (), 0, ()), (a1759, a1760, a1761, a1762, a1764, a1782, ())) (fun y1797 =>
let l1798 : (List Int) := y1797.1.2.2.1
let i1799 : Int := y1797.1.2.2.2.2.1
let i1800 : Int := y1797.1.2.2.2.2.2.2.1
let a1801 : (Nat → Int) := y1797.2.1
let a1802 : (Nat → Int) := y1797.2.2.1
let a1803 : (Nat → Int) := y1797.2.2.2.1
let a1804 : (Nat → Int) := y1797.2.2.2.2.1
let i1805 : Int := addA .i64 i1800 1
rec (((), (), l1798, (), i1799, (), i1805, ()), (a1801, a1802, a1803, a1804, ()))))) else none) else none) else none) else none) else none) else none) else none) else none) else none) else none) else none) else none) else none) else none) else none) else none)) else (
κ0 (((), (), l1756, (), i1757, ()), (a1759, a1760, a1761, ())))
def C_16_12 {R : Type} (q_49 : Tp_49 R) (q_50 : Tp_50 R) (q_18 : Tp_18 R) (q_20 : Tp_20 R) (m_16_4 : Tl_16_4 R) (m_16_21 : Tl_16_21 R) (m_16_16 : Tl_16_16 R) (m_16_12 : Tl_16_12 R) (m_16_25 : Tl_16_25 R) (rec : ((Unit × Unit × (List Int) × Unit × Int × Unit) × ((Nat → Int) × (Nat → Int) × (Nat → Int) × Unit)) → Option R) (x : ((Unit × Unit × (List Int) × Unit × Int × Unit) × ((Nat → Int) × (Nat → Int) × (Nat → Int) × Unit))) (κ0 : ((Unit × Unit × Unit × Unit) × ((Nat → Int) × (Nat → Int) × (Nat → Int) × Unit)) → Option R) : Option R :=
let l1749 : (List Int) := x.1.2.2.1
let i1750 : Int := x.1.2.2.2.2.1
let a1751 : (Nat → Int) := x.2.1
let a1752 : (Nat → Int) := x.2.2.1
let a1753 : (Nat → Int) := x.2.2.2.1
bif (decide (i1750 < 12)) then (
q_20 ((i1750, ()), ()) (fun y1754 =>
let a1755 : (Nat → Int) := y1754
m_16_16 (((), (), l1749, (), i1750, (), 0, ()), (a1751, a1752, a1753, a1755, ())) (fun y1806 =>
let l1807 : (List Int) := y1806.1.2.2.1
let i1808 : Int := y1806.1.2.2.2.2.1
let a1809 : (Nat → Int) := y1806.2.1
let a1810 : (Nat → Int) := y1806.2.2.1
let a1811 : (Nat → Int) := y1806.2.2.2.1
let i1812 : Int := addA .i64 i1808 1
rec (((), (), l1807, (), i1812, ()), (a1809, a1810, a1811, ()))))) else (
κ0 (((), (), (), ()), (a1751, a1752, a1753, ())))
def C_16_25 {R : Type} (q_49 : Tp_49 R) (q_50 : Tp_50 R) (q_18 : Tp_18 R) (q_20 : Tp_20 R) (m_16_4 : Tl_16_4 R) (m_16_21 : Tl_16_21 R) (m_16_16 : Tl_16_16 R) (m_16_12 : Tl_16_12 R) (m_16_25 : Tl_16_25 R) (rec : ((Unit × Unit × Unit × Int × Unit) × ((Nat → Int) × (Nat → Int) × (Nat → Int) × Unit)) → Option R) (x : ((Unit × Unit × Unit × Int × Unit) × ((Nat → Int) × (Nat → Int) × (Nat → Int) × Unit))) (κ0 : ((Unit × Unit × Unit) × ((Nat → Int) × (Nat → Int) × Unit)) → Option R) : Option R :=
let i1817 : Int := x.1.2.2.2.1
let a1818 : (Nat → Int) := x.2.1
let a1819 : (Nat → Int) := x.2.2.1
let a1820 : (Nat → Int) := x.2.2.2.1
bif (decide (i1817 < 8)) then (
bif decide (0 ≤ i1817) then (
bif decide (i1817 < (8 : Int)) then (
let i1821 : Int := (a1818 ((Int.toNat i1817)))
bif decide (0 ≤ i1817) then (
bif decide (i1817 < (16 : Int)) then (
let i1822 : Int := (a1820 ((Int.toNat i1817)))
let i1823 : Int := xorA .u64 i1821 i1822
let i1824 : Int := addA .i64 i1817 8
bif decide (0 ≤ i1824) then (
bif decide (i1824 < (16 : Int)) then (
let i1825 : Int := (a1820 ((Int.toNat i1824)))
let i1826 : Int := xorA .u64 i1823 i1825
bif decide (0 ≤ i1817) then (
bif decide (i1817 < (8 : Int)) then (
let a1827 : (Nat → Int) := (upd a1818 ((Int.toNat i1817)) i1826)
let i1828 : Int := addA .i64 i1817 1
rec (((), (), (), i1828, ()), (a1827, a1819, a1820, ()))) else none) else none) else none) else none) else none) else none) else none) else none) else (
κ0 (((), (), ()), (a1818, a1819, ())))
def EG_16 {R : Type} (q_49 : Tp_49 R) (q_50 : Tp_50 R) (q_18 : Tp_18 R) (q_20 : Tp_20 R) : Env R := ((((Env.base QQ LN).add 49 ap_49 hp_49 (fun (x : aden ap_49 × hden hp_49) k => q_49 x (fun y => k (Pat.inst (.tup (.fcons (.ros (.int .u64)) (.fcons (.bool) (.fnil)))) y.1) (instH [some (.lst (.int .u8), 5)] y.2)))).add 50 ap_50 hp_50 (fun (x : aden ap_50 × hden hp_50) k => q_50 x (fun y => k (Pat.inst (.vec (.int .i64) 4) y) (instH hp_50 x.2)))).add 18 ap_18 hp_18 (fun (x : aden ap_18 × hden hp_18) k => q_18 x (fun y => k (Pat.inst (.vec (.int .u64) 4) y) (instH hp_18 x.2)))).add 20 ap_20 hp_20 (fun (x : aden ap_20 × hden hp_20) k => q_20 x (fun y => k (Pat.inst (.vec (.int .i64) 16) y) (instH hp_20 x.2)))
def LG_16 {R : Type} (m_16_4 : Tl_16_4 R) (m_16_21 : Tl_16_21 R) (m_16_16 : Tl_16_16 R) (m_16_12 : Tl_16_12 R) (m_16_25 : Tl_16_25 R) : Loops R := (((((Loops.none).add 4 (loopBy 0 lv_16_4 pt_16_4 (fun x k => m_16_4 x (fun y => k (.exit 0) (px_16_4_0.inst y))))).add 21 (loopBy 0 lv_16_21 pt_16_21 (fun x k => m_16_21 x (fun y => k (.exit 6) (px_16_21_0.inst y))))).add 16 (loopBy 0 lv_16_16 pt_16_16 (fun x k => m_16_16 x (fun y => k (.exit 4) (px_16_16_0.inst y))))).add 12 (loopBy 0 lv_16_12 pt_16_12 (fun x k => m_16_12 x (fun y => k (.exit 2) (px_16_12_0.inst y))))).add 25 (loopBy 0 lv_16_25 pt_16_25 (fun x k => m_16_25 x (fun y => k (.exit 8) (px_16_25_0.inst y))))
def E_16 {R : Type} (N : Nat) : Env R := EG_16 (p_49 N) (p_50 N) (p_18 N) (p_20 N)
theorem eok_16 {R : Type} (N : Nat) : EK Try.prog (E_16 (R := R) N) := ek_add (ek_add (ek_add (ek_add (ek_base _ _) (good_49 N)) (good_50 N)) (good_18 N)) (good_20 N)
def L_16 {R : Type} (N : Nat) : Loops R := LG_16 (l_16_4 N N) (l_16_21 N N) (l_16_16 N N) (l_16_12 N N) (l_16_25 N N)
theorem gstep_16_4 {R : Type} (q_49 : Tp_49 R) (q_50 : Tp_50 R) (q_18 : Tp_18 R) (q_20 : Tp_20 R) (m_16_4 : Tl_16_4 R) (m_16_21 : Tl_16_21 R) (m_16_16 : Tl_16_16 R) (m_16_12 : Tl_16_12 R) (m_16_25 : Tl_16_25 R) (n : Nat) (x : pt_16_4.den) (k : Exit → St → Option R) : iter 0 lv_16_4 lo_16_4 (aexec TT (EG_16 q_49 q_50 q_18 q_20) (drawAny TT WW) (LG_16 m_16_4 m_16_21 m_16_16 m_16_12 m_16_25) (loopAt 4 (bodyOf Try.f16))) (n + 1) (pt_16_4.inst x) k = C_16_4 q_49 q_50 q_18 q_20 m_16_4 m_16_21 m_16_16 m_16_12 m_16_25 (fun y => iter 0 lv_16_4 lo_16_4 (aexec TT (EG_16 q_49 q_50 q_18 q_20) (drawAny TT WW) (LG_16 m_16_4 m_16_21 m_16_16 m_16_12 m_16_25) (loopAt 4 (bodyOf Try.f16))) n (pt_16_4.inst y) k) x (fun y => k (.exit 0) (px_16_4_0.inst y)) := by kernel_rfl
theorem step_16_4 {R : Type} (N n : Nat) (x : pt_16_4.den) (k : Exit → St → Option R) : iter 0 lv_16_4 lo_16_4 (aexec TT (E_16 (R := R) N) (drawAny TT WW) (L_16 N) (loopAt 4 (bodyOf Try.f16))) (n + 1) (pt_16_4.inst x) k = B_16_4 N (fun y => iter 0 lv_16_4 lo_16_4 (aexec TT (E_16 (R := R) N) (drawAny TT WW) (L_16 N) (loopAt 4 (bodyOf Try.f16))) n (pt_16_4.inst y) k) x (fun y => k (.exit 0) (px_16_4_0.inst y)) := (gstep_16_4 (p_49 N) (p_50 N) (p_18 N) (p_20 N) (l_16_4 N N) (l_16_21 N N) (l_16_16 N N) (l_16_12 N N) (l_16_25 N N) n x k).trans (by kernel_rfl)
theorem eq_16_4 {R : Type} (N : Nat) : ∀ (n : Nat) (x : pt_16_4.den) (k : Exit → St → Option R), iter 0 lv_16_4 lo_16_4 (aexec TT (E_16 (R := R) N) (drawAny TT WW) (L_16 N) (loopAt 4 (bodyOf Try.f16))) n (pt_16_4.inst x) k = l_16_4 N n x (fun y => k (.exit 0) (px_16_4_0.inst y)) :=
  iter_eq (K := Exit → St → Option R) (ks := fun k => k) (l := fun n (x : pt_16_4.den) k => l_16_4 N n x (fun y => k (.exit 0) (px_16_4_0.inst y))) (B := fun (rec : pt_16_4.den → Option R) (x : pt_16_4.den) k => B_16_4 N rec x (fun y => k (.exit 0) (px_16_4_0.inst y))) (fun _ _ => rfl) (fun _ _ _ => rfl) (fun n x k => step_16_4 N n x k)
theorem rounds_16_4 {R : Type} (N : Nat) : Rounds 0 TT (E_16 (R := R) N) (drawAny TT WW) (L_16 N) 4 (loopAt 4 (bodyOf Try.f16)) :=
  rounds_of (p := pt_16_4) (l := fun (x : pt_16_4.den) k => l_16_4 N N x (fun y => k (.exit 0) (px_16_4_0.inst y))) (fun s k => rfl) (fun x k => eq_16_4 N N x k)
theorem gstep_16_21 {R : Type} (q_49 : Tp_49 R) (q_50 : Tp_50 R) (q_18 : Tp_18 R) (q_20 : Tp_20 R) (m_16_4 : Tl_16_4 R) (m_16_21 : Tl_16_21 R) (m_16_16 : Tl_16_16 R) (m_16_12 : Tl_16_12 R) (m_16_25 : Tl_16_25 R) (n : Nat) (x : pt_16_21.den) (k : Exit → St → Option R) : iter 0 lv_16_21 lo_16_21 (aexec TT (EG_16 q_49 q_50 q_18 q_20) (drawAny TT WW) (LG_16 m_16_4 m_16_21 m_16_16 m_16_12 m_16_25) (loopAt 21 (bodyOf Try.f16))) (n + 1) (pt_16_21.inst x) k = C_16_21 q_49 q_50 q_18 q_20 m_16_4 m_16_21 m_16_16 m_16_12 m_16_25 (fun y => iter 0 lv_16_21 lo_16_21 (aexec TT (EG_16 q_49 q_50 q_18 q_20) (drawAny TT WW) (LG_16 m_16_4 m_16_21 m_16_16 m_16_12 m_16_25) (loopAt 21 (bodyOf Try.f16))) n (pt_16_21.inst y) k) x (fun y => k (.exit 6) (px_16_21_0.inst y)) := by kernel_rfl
theorem step_16_21 {R : Type} (N n : Nat) (x : pt_16_21.den) (k : Exit → St → Option R) : iter 0 lv_16_21 lo_16_21 (aexec TT (E_16 (R := R) N) (drawAny TT WW) (L_16 N) (loopAt 21 (bodyOf Try.f16))) (n + 1) (pt_16_21.inst x) k = B_16_21 N (fun y => iter 0 lv_16_21 lo_16_21 (aexec TT (E_16 (R := R) N) (drawAny TT WW) (L_16 N) (loopAt 21 (bodyOf Try.f16))) n (pt_16_21.inst y) k) x (fun y => k (.exit 6) (px_16_21_0.inst y)) := (gstep_16_21 (p_49 N) (p_50 N) (p_18 N) (p_20 N) (l_16_4 N N) (l_16_21 N N) (l_16_16 N N) (l_16_12 N N) (l_16_25 N N) n x k).trans (by kernel_rfl)
theorem eq_16_21 {R : Type} (N : Nat) : ∀ (n : Nat) (x : pt_16_21.den) (k : Exit → St → Option R), iter 0 lv_16_21 lo_16_21 (aexec TT (E_16 (R := R) N) (drawAny TT WW) (L_16 N) (loopAt 21 (bodyOf Try.f16))) n (pt_16_21.inst x) k = l_16_21 N n x (fun y => k (.exit 6) (px_16_21_0.inst y)) :=
  iter_eq (K := Exit → St → Option R) (ks := fun k => k) (l := fun n (x : pt_16_21.den) k => l_16_21 N n x (fun y => k (.exit 6) (px_16_21_0.inst y))) (B := fun (rec : pt_16_21.den → Option R) (x : pt_16_21.den) k => B_16_21 N rec x (fun y => k (.exit 6) (px_16_21_0.inst y))) (fun _ _ => rfl) (fun _ _ _ => rfl) (fun n x k => step_16_21 N n x k)
theorem rounds_16_21 {R : Type} (N : Nat) : Rounds 0 TT (E_16 (R := R) N) (drawAny TT WW) (L_16 N) 21 (loopAt 21 (bodyOf Try.f16)) :=
  rounds_of (p := pt_16_21) (l := fun (x : pt_16_21.den) k => l_16_21 N N x (fun y => k (.exit 6) (px_16_21_0.inst y))) (fun s k => rfl) (fun x k => eq_16_21 N N x k)
theorem gstep_16_16 {R : Type} (q_49 : Tp_49 R) (q_50 : Tp_50 R) (q_18 : Tp_18 R) (q_20 : Tp_20 R) (m_16_4 : Tl_16_4 R) (m_16_21 : Tl_16_21 R) (m_16_16 : Tl_16_16 R) (m_16_12 : Tl_16_12 R) (m_16_25 : Tl_16_25 R) (n : Nat) (x : pt_16_16.den) (k : Exit → St → Option R) : iter 0 lv_16_16 lo_16_16 (aexec TT (EG_16 q_49 q_50 q_18 q_20) (drawAny TT WW) (LG_16 m_16_4 m_16_21 m_16_16 m_16_12 m_16_25) (loopAt 16 (bodyOf Try.f16))) (n + 1) (pt_16_16.inst x) k = C_16_16 q_49 q_50 q_18 q_20 m_16_4 m_16_21 m_16_16 m_16_12 m_16_25 (fun y => iter 0 lv_16_16 lo_16_16 (aexec TT (EG_16 q_49 q_50 q_18 q_20) (drawAny TT WW) (LG_16 m_16_4 m_16_21 m_16_16 m_16_12 m_16_25) (loopAt 16 (bodyOf Try.f16))) n (pt_16_16.inst y) k) x (fun y => k (.exit 4) (px_16_16_0.inst y)) := by kernel_rfl
theorem step_16_16 {R : Type} (N n : Nat) (x : pt_16_16.den) (k : Exit → St → Option R) : iter 0 lv_16_16 lo_16_16 (aexec TT (E_16 (R := R) N) (drawAny TT WW) (L_16 N) (loopAt 16 (bodyOf Try.f16))) (n + 1) (pt_16_16.inst x) k = B_16_16 N (fun y => iter 0 lv_16_16 lo_16_16 (aexec TT (E_16 (R := R) N) (drawAny TT WW) (L_16 N) (loopAt 16 (bodyOf Try.f16))) n (pt_16_16.inst y) k) x (fun y => k (.exit 4) (px_16_16_0.inst y)) := (gstep_16_16 (p_49 N) (p_50 N) (p_18 N) (p_20 N) (l_16_4 N N) (l_16_21 N N) (l_16_16 N N) (l_16_12 N N) (l_16_25 N N) n x k).trans (by kernel_rfl)
theorem eq_16_16 {R : Type} (N : Nat) : ∀ (n : Nat) (x : pt_16_16.den) (k : Exit → St → Option R), iter 0 lv_16_16 lo_16_16 (aexec TT (E_16 (R := R) N) (drawAny TT WW) (L_16 N) (loopAt 16 (bodyOf Try.f16))) n (pt_16_16.inst x) k = l_16_16 N n x (fun y => k (.exit 4) (px_16_16_0.inst y)) :=
  iter_eq (K := Exit → St → Option R) (ks := fun k => k) (l := fun n (x : pt_16_16.den) k => l_16_16 N n x (fun y => k (.exit 4) (px_16_16_0.inst y))) (B := fun (rec : pt_16_16.den → Option R) (x : pt_16_16.den) k => B_16_16 N rec x (fun y => k (.exit 4) (px_16_16_0.inst y))) (fun _ _ => rfl) (fun _ _ _ => rfl) (fun n x k => step_16_16 N n x k)
theorem rounds_16_16 {R : Type} (N : Nat) : Rounds 0 TT (E_16 (R := R) N) (drawAny TT WW) (L_16 N) 16 (loopAt 16 (bodyOf Try.f16)) :=
  rounds_of (p := pt_16_16) (l := fun (x : pt_16_16.den) k => l_16_16 N N x (fun y => k (.exit 4) (px_16_16_0.inst y))) (fun s k => rfl) (fun x k => eq_16_16 N N x k)
theorem gstep_16_12 {R : Type} (q_49 : Tp_49 R) (q_50 : Tp_50 R) (q_18 : Tp_18 R) (q_20 : Tp_20 R) (m_16_4 : Tl_16_4 R) (m_16_21 : Tl_16_21 R) (m_16_16 : Tl_16_16 R) (m_16_12 : Tl_16_12 R) (m_16_25 : Tl_16_25 R) (n : Nat) (x : pt_16_12.den) (k : Exit → St → Option R) : iter 0 lv_16_12 lo_16_12 (aexec TT (EG_16 q_49 q_50 q_18 q_20) (drawAny TT WW) (LG_16 m_16_4 m_16_21 m_16_16 m_16_12 m_16_25) (loopAt 12 (bodyOf Try.f16))) (n + 1) (pt_16_12.inst x) k = C_16_12 q_49 q_50 q_18 q_20 m_16_4 m_16_21 m_16_16 m_16_12 m_16_25 (fun y => iter 0 lv_16_12 lo_16_12 (aexec TT (EG_16 q_49 q_50 q_18 q_20) (drawAny TT WW) (LG_16 m_16_4 m_16_21 m_16_16 m_16_12 m_16_25) (loopAt 12 (bodyOf Try.f16))) n (pt_16_12.inst y) k) x (fun y => k (.exit 2) (px_16_12_0.inst y)) := by kernel_rfl
theorem step_16_12 {R : Type} (N n : Nat) (x : pt_16_12.den) (k : Exit → St → Option R) : iter 0 lv_16_12 lo_16_12 (aexec TT (E_16 (R := R) N) (drawAny TT WW) (L_16 N) (loopAt 12 (bodyOf Try.f16))) (n + 1) (pt_16_12.inst x) k = B_16_12 N (fun y => iter 0 lv_16_12 lo_16_12 (aexec TT (E_16 (R := R) N) (drawAny TT WW) (L_16 N) (loopAt 12 (bodyOf Try.f16))) n (pt_16_12.inst y) k) x (fun y => k (.exit 2) (px_16_12_0.inst y)) := (gstep_16_12 (p_49 N) (p_50 N) (p_18 N) (p_20 N) (l_16_4 N N) (l_16_21 N N) (l_16_16 N N) (l_16_12 N N) (l_16_25 N N) n x k).trans (by kernel_rfl)
theorem eq_16_12 {R : Type} (N : Nat) : ∀ (n : Nat) (x : pt_16_12.den) (k : Exit → St → Option R), iter 0 lv_16_12 lo_16_12 (aexec TT (E_16 (R := R) N) (drawAny TT WW) (L_16 N) (loopAt 12 (bodyOf Try.f16))) n (pt_16_12.inst x) k = l_16_12 N n x (fun y => k (.exit 2) (px_16_12_0.inst y)) :=
  iter_eq (K := Exit → St → Option R) (ks := fun k => k) (l := fun n (x : pt_16_12.den) k => l_16_12 N n x (fun y => k (.exit 2) (px_16_12_0.inst y))) (B := fun (rec : pt_16_12.den → Option R) (x : pt_16_12.den) k => B_16_12 N rec x (fun y => k (.exit 2) (px_16_12_0.inst y))) (fun _ _ => rfl) (fun _ _ _ => rfl) (fun n x k => step_16_12 N n x k)
theorem rounds_16_12 {R : Type} (N : Nat) : Rounds 0 TT (E_16 (R := R) N) (drawAny TT WW) (L_16 N) 12 (loopAt 12 (bodyOf Try.f16)) :=
  rounds_of (p := pt_16_12) (l := fun (x : pt_16_12.den) k => l_16_12 N N x (fun y => k (.exit 2) (px_16_12_0.inst y))) (fun s k => rfl) (fun x k => eq_16_12 N N x k)
theorem gstep_16_25 {R : Type} (q_49 : Tp_49 R) (q_50 : Tp_50 R) (q_18 : Tp_18 R) (q_20 : Tp_20 R) (m_16_4 : Tl_16_4 R) (m_16_21 : Tl_16_21 R) (m_16_16 : Tl_16_16 R) (m_16_12 : Tl_16_12 R) (m_16_25 : Tl_16_25 R) (n : Nat) (x : pt_16_25.den) (k : Exit → St → Option R) : iter 0 lv_16_25 lo_16_25 (aexec TT (EG_16 q_49 q_50 q_18 q_20) (drawAny TT WW) (LG_16 m_16_4 m_16_21 m_16_16 m_16_12 m_16_25) (loopAt 25 (bodyOf Try.f16))) (n + 1) (pt_16_25.inst x) k = C_16_25 q_49 q_50 q_18 q_20 m_16_4 m_16_21 m_16_16 m_16_12 m_16_25 (fun y => iter 0 lv_16_25 lo_16_25 (aexec TT (EG_16 q_49 q_50 q_18 q_20) (drawAny TT WW) (LG_16 m_16_4 m_16_21 m_16_16 m_16_12 m_16_25) (loopAt 25 (bodyOf Try.f16))) n (pt_16_25.inst y) k) x (fun y => k (.exit 8) (px_16_25_0.inst y)) := by kernel_rfl
theorem step_16_25 {R : Type} (N n : Nat) (x : pt_16_25.den) (k : Exit → St → Option R) : iter 0 lv_16_25 lo_16_25 (aexec TT (E_16 (R := R) N) (drawAny TT WW) (L_16 N) (loopAt 25 (bodyOf Try.f16))) (n + 1) (pt_16_25.inst x) k = B_16_25 N (fun y => iter 0 lv_16_25 lo_16_25 (aexec TT (E_16 (R := R) N) (drawAny TT WW) (L_16 N) (loopAt 25 (bodyOf Try.f16))) n (pt_16_25.inst y) k) x (fun y => k (.exit 8) (px_16_25_0.inst y)) := (gstep_16_25 (p_49 N) (p_50 N) (p_18 N) (p_20 N) (l_16_4 N N) (l_16_21 N N) (l_16_16 N N) (l_16_12 N N) (l_16_25 N N) n x k).trans (by kernel_rfl)
theorem eq_16_25 {R : Type} (N : Nat) : ∀ (n : Nat) (x : pt_16_25.den) (k : Exit → St → Option R), iter 0 lv_16_25 lo_16_25 (aexec TT (E_16 (R := R) N) (drawAny TT WW) (L_16 N) (loopAt 25 (bodyOf Try.f16))) n (pt_16_25.inst x) k = l_16_25 N n x (fun y => k (.exit 8) (px_16_25_0.inst y)) :=
  iter_eq (K := Exit → St → Option R) (ks := fun k => k) (l := fun n (x : pt_16_25.den) k => l_16_25 N n x (fun y => k (.exit 8) (px_16_25_0.inst y))) (B := fun (rec : pt_16_25.den → Option R) (x : pt_16_25.den) k => B_16_25 N rec x (fun y => k (.exit 8) (px_16_25_0.inst y))) (fun _ _ => rfl) (fun _ _ _ => rfl) (fun n x k => step_16_25 N n x k)
theorem rounds_16_25 {R : Type} (N : Nat) : Rounds 0 TT (E_16 (R := R) N) (drawAny TT WW) (L_16 N) 25 (loopAt 25 (bodyOf Try.f16)) :=
  rounds_of (p := pt_16_25) (l := fun (x : pt_16_25.den) k => l_16_25 N N x (fun y => k (.exit 8) (px_16_25_0.inst y))) (fun s k => rfl) (fun x k => eq_16_25 N N x k)
theorem loops_16 : loopsIn (bodyOf Try.f16) = [(4, loopAt 4 (bodyOf Try.f16)), (12, loopAt 12 (bodyOf Try.f16)), (16, loopAt 16 (bodyOf Try.f16)), (21, loopAt 21 (bodyOf Try.f16)), (25, loopAt 25 (bodyOf Try.f16))] := by kernel_rfl
theorem lok_16 {R : Type} (N : Nat) : LOK 0 TT (E_16 (R := R) N) (drawAny TT WW) (L_16 N) (bodyOf Try.f16) := loops_all loops_16 (by
  simp only [List.forall_mem_cons, List.not_mem_nil, false_implies, implies_true, and_true]
  exact ⟨rounds_16_4 N, rounds_16_12 N, rounds_16_16 N, rounds_16_21 N, rounds_16_25 N⟩)
theorem grun_16 {R : Type} (q_49 : Tp_49 R) (q_50 : Tp_50 R) (q_18 : Tp_18 R) (q_20 : Tp_20 R) (m_16_4 : Tl_16_4 R) (m_16_21 : Tl_16_21 R) (m_16_16 : Tl_16_16 R) (m_16_12 : Tl_16_12 R) (m_16_25 : Tl_16_25 R) (x : aden ap_16 × hden hp_16) (k : KF R) : fnrun TT (EG_16 q_49 q_50 q_18 q_20) (drawAny TT WW) (LG_16 m_16_4 m_16_21 m_16_16 m_16_12 m_16_25) true Try.f16 (instA ap_16 x.1) (instH hp_16 x.2) k = Q_16 q_49 q_50 q_18 q_20 m_16_4 m_16_21 m_16_16 m_16_12 m_16_25 x (fun y => k (Pat.inst (.vec (.int .u64) 8) y) (instH hp_16 x.2)) := by kernel_rfl
theorem run_16 {R : Type} (N : Nat) (x : aden ap_16 × hden hp_16) (k : KF R) : fnrun TT (E_16 (R := R) N) (drawAny TT WW) (L_16 N) true Try.f16 (instA ap_16 x.1) (instH hp_16 x.2) k = p_16 N x (fun y => k (Pat.inst (.vec (.int .u64) 8) y) (instH hp_16 x.2)) := (grun_16 (p_49 N) (p_50 N) (p_18 N) (p_20 N) (l_16_4 N N) (l_16_21 N N) (l_16_16 N N) (l_16_12 N N) (l_16_25 N N) x k).trans (by kernel_rfl)
theorem good_16 {R : Type} (N : Nat) : GD (X := R) Try.prog QQ 16 ap_16 hp_16 (fun (x : aden ap_16 × hden hp_16) k => p_16 N x (fun y => k (Pat.inst (.vec (.int .u64) 8) y) (instH hp_16 x.2))) :=
  gd_quiet (E := E_16 N) (p := fun (x : aden ap_16 × hden hp_16) κ => p_16 N x (fun y => κ (Pat.inst (.vec (.int .u64) 8) y))) mixed tyok (eok_16 N) Try.func16 (by kernel_rfl) (by kernel_rfl) (lok_16 N) (fun x k => run_16 N x k)

def lv_54_3 : Live := [(0, none), (3, some (.int .u8, 5)), (4, none)]
def pt_54_3 : SPat := ⟨[(0, .int .u64), (3, .sl 0), (4, .int .i64)], [some (.lst (.int .u8), 5)]⟩
def px_54_3_0 : SPat := ⟨[(3, .sl 0)], [some (.lst (.int .u8), 5)]⟩
def lo_54_3 : Exit → Live
  | .exit 0 => [(3, none)]
  | _ => []
def B_54_3 {R : Type} (N : Nat) (rec : ((Int × Unit × Int × Unit) × ((List Int) × Unit)) → Option R) (x : ((Int × Unit × Int × Unit) × ((List Int) × Unit))) (κ0 : ((Unit × Unit) × ((List Int) × Unit)) → Option R) : Option R :=
let i1860 : Int := x.1.1
let i1861 : Int := x.1.2.2.1
let l1862 : (List Int) := x.2.1
bif (decide (i1861 < 8)) then (
let i1863 : Int := remA .u64 i1860 256
let i1864 : Int := IntKind.wrap .u8 i1863
let l1865 : (List Int) := [i1864]
bif (decide ((List.length l1862 + List.length l1865) * 1 ≤ 140737488355328) && true) then (
let l1866 : (List Int) := (l1862 ++ l1865)
let i1867 : Int := quoA .u64 i1860 256
let i1868 : Int := addA .i64 i1861 1
rec ((i1867, (), i1868, ()), (l1866, ()))) else none) else (
κ0 (((), ()), (l1862, ())))
def l_54_3 {R : Type} (N : Nat) : Nat → ((Int × Unit × Int × Unit) × ((List Int) × Unit)) → (((Unit × Unit) × ((List Int) × Unit)) → Option R) → Option R
  | 0, _, _ => none
  | n + 1, x, κ0 => B_54_3 N (fun y => l_54_3 N n y κ0) x κ0
def ap_54 : List Pat := [.int .u64]
def hp_54 : List (Option (Pat × Nat)) := []
def p_54 {R : Type} (N : Nat) (x : (Int × Unit) × (Unit)) (κ0 : (List Int) → Option R) : Option R :=
let i1852 : Int := x.1.1
l_54_3 N N ((i1852, (), 0, ()), ([], ())) (fun y1869 =>
let l1870 : (List Int) := y1869.2.1
κ0 l1870)

abbrev Tl_54_3 (R : Type) : Type := ((Int × Unit × Int × Unit) × ((List Int) × Unit)) → (((Unit × Unit) × ((List Int) × Unit)) → Option R) → Option R
abbrev Tp_54 (R : Type) : Type := (Int × Unit) × (Unit) → ((List Int) → Option R) → Option R
def Q_54 {R : Type} (m_54_3 : Tl_54_3 R) (x : (Int × Unit) × (Unit)) (κ0 : (List Int) → Option R) : Option R :=
let i1852 : Int := x.1.1
m_54_3 ((i1852, (), 0, ()), ([], ())) (fun y1869 =>
let l1870 : (List Int) := y1869.2.1
κ0 l1870)
def C_54_3 {R : Type} (m_54_3 : Tl_54_3 R) (rec : ((Int × Unit × Int × Unit) × ((List Int) × Unit)) → Option R) (x : ((Int × Unit × Int × Unit) × ((List Int) × Unit))) (κ0 : ((Unit × Unit) × ((List Int) × Unit)) → Option R) : Option R :=
let i1860 : Int := x.1.1
let i1861 : Int := x.1.2.2.1
let l1862 : (List Int) := x.2.1
bif (decide (i1861 < 8)) then (
let i1863 : Int := remA .u64 i1860 256
let i1864 : Int := IntKind.wrap .u8 i1863
let l1865 : (List Int) := [i1864]
bif (decide ((List.length l1862 + List.length l1865) * 1 ≤ 140737488355328) && true) then (
let l1866 : (List Int) := (l1862 ++ l1865)
let i1867 : Int := quoA .u64 i1860 256
let i1868 : Int := addA .i64 i1861 1
rec ((i1867, (), i1868, ()), (l1866, ()))) else none) else (
κ0 (((), ()), (l1862, ())))
def EG_54 {R : Type} : Env R := Env.base QQ LN
def LG_54 {R : Type} (m_54_3 : Tl_54_3 R) : Loops R := (Loops.none).add 3 (loopBy 0 lv_54_3 pt_54_3 (fun x k => m_54_3 x (fun y => k (.exit 0) (px_54_3_0.inst y))))
def E_54 {R : Type} (N : Nat) : Env R := EG_54
theorem eok_54 {R : Type} (N : Nat) : EK Try.prog (E_54 (R := R) N) := ek_base _ _
def L_54 {R : Type} (N : Nat) : Loops R := LG_54 (l_54_3 N N)
theorem gstep_54_3 {R : Type} (m_54_3 : Tl_54_3 R) (n : Nat) (x : pt_54_3.den) (k : Exit → St → Option R) : iter 0 lv_54_3 lo_54_3 (aexec TT (EG_54) (drawAny TT WW) (LG_54 m_54_3) (loopAt 3 (bodyOf Try.f54))) (n + 1) (pt_54_3.inst x) k = C_54_3 m_54_3 (fun y => iter 0 lv_54_3 lo_54_3 (aexec TT (EG_54) (drawAny TT WW) (LG_54 m_54_3) (loopAt 3 (bodyOf Try.f54))) n (pt_54_3.inst y) k) x (fun y => k (.exit 0) (px_54_3_0.inst y)) := by kernel_rfl
theorem step_54_3 {R : Type} (N n : Nat) (x : pt_54_3.den) (k : Exit → St → Option R) : iter 0 lv_54_3 lo_54_3 (aexec TT (E_54 (R := R) N) (drawAny TT WW) (L_54 N) (loopAt 3 (bodyOf Try.f54))) (n + 1) (pt_54_3.inst x) k = B_54_3 N (fun y => iter 0 lv_54_3 lo_54_3 (aexec TT (E_54 (R := R) N) (drawAny TT WW) (L_54 N) (loopAt 3 (bodyOf Try.f54))) n (pt_54_3.inst y) k) x (fun y => k (.exit 0) (px_54_3_0.inst y)) := (gstep_54_3 (l_54_3 N N) n x k).trans (by kernel_rfl)
theorem eq_54_3 {R : Type} (N : Nat) : ∀ (n : Nat) (x : pt_54_3.den) (k : Exit → St → Option R), iter 0 lv_54_3 lo_54_3 (aexec TT (E_54 (R := R) N) (drawAny TT WW) (L_54 N) (loopAt 3 (bodyOf Try.f54))) n (pt_54_3.inst x) k = l_54_3 N n x (fun y => k (.exit 0) (px_54_3_0.inst y)) :=
  iter_eq (K := Exit → St → Option R) (ks := fun k => k) (l := fun n (x : pt_54_3.den) k => l_54_3 N n x (fun y => k (.exit 0) (px_54_3_0.inst y))) (B := fun (rec : pt_54_3.den → Option R) (x : pt_54_3.den) k => B_54_3 N rec x (fun y => k (.exit 0) (px_54_3_0.inst y))) (fun _ _ => rfl) (fun _ _ _ => rfl) (fun n x k => step_54_3 N n x k)
theorem rounds_54_3 {R : Type} (N : Nat) : Rounds 0 TT (E_54 (R := R) N) (drawAny TT WW) (L_54 N) 3 (loopAt 3 (bodyOf Try.f54)) :=
  rounds_of (p := pt_54_3) (l := fun (x : pt_54_3.den) k => l_54_3 N N x (fun y => k (.exit 0) (px_54_3_0.inst y))) (fun s k => rfl) (fun x k => eq_54_3 N N x k)
theorem loops_54 : loopsIn (bodyOf Try.f54) = [(3, loopAt 3 (bodyOf Try.f54))] := by kernel_rfl
theorem lok_54 {R : Type} (N : Nat) : LOK 0 TT (E_54 (R := R) N) (drawAny TT WW) (L_54 N) (bodyOf Try.f54) := loops_all loops_54 (by
  simp only [List.forall_mem_cons, List.not_mem_nil, false_implies, implies_true, and_true]
  exact rounds_54_3 N)
theorem grun_54 {R : Type} (m_54_3 : Tl_54_3 R) (x : aden ap_54 × hden hp_54) (k : KF R) : fnrun TT (EG_54) (drawAny TT WW) (LG_54 m_54_3) true Try.f54 (instA ap_54 x.1) (instH hp_54 x.2) k = Q_54 m_54_3 x (fun y => k (Pat.inst (.ros (.int .u8)) y) (instH hp_54 x.2)) := by kernel_rfl
theorem run_54 {R : Type} (N : Nat) (x : aden ap_54 × hden hp_54) (k : KF R) : fnrun TT (E_54 (R := R) N) (drawAny TT WW) (L_54 N) true Try.f54 (instA ap_54 x.1) (instH hp_54 x.2) k = p_54 N x (fun y => k (Pat.inst (.ros (.int .u8)) y) (instH hp_54 x.2)) := (grun_54 (l_54_3 N N) x k).trans (by kernel_rfl)
theorem good_54 {R : Type} (N : Nat) : GD (X := R) Try.prog QQ 54 ap_54 hp_54 (fun (x : aden ap_54 × hden hp_54) k => p_54 N x (fun y => k (Pat.inst (.ros (.int .u8)) y) (instH hp_54 x.2))) :=
  gd_quiet (E := E_54 N) (p := fun (x : aden ap_54 × hden hp_54) κ => p_54 N x (fun y => κ (Pat.inst (.ros (.int .u8)) y))) mixed tyok (eok_54 N) Try.func54 (by kernel_rfl) (by kernel_rfl) (lok_54 N) (fun x k => run_54 N x k)

def lv_23_6 : Live := [(1, none), (3, none), (4, none), (9, none), (10, none)]
def pt_23_6 : SPat := ⟨[(1, .int .i64), (3, .str), (4, .ptr 0 []), (9, .ptr 1 []), (10, .int .i64)], [some (.vec (.int .u64) 8, 29), some (.vec (.int .u64) 8, 23)]⟩
def px_23_6_0 : SPat := ⟨[(1, .int .i64), (3, .str), (4, .ptr 0 []), (9, .ptr 1 []), (10, .int .i64)], [some (.vec (.int .u64) 8, 29), some (.vec (.int .u64) 8, 23)]⟩
def lo_23_6 : Exit → Live
  | .exit 0 => [(1, none), (3, none), (4, none), (9, none), (10, none)]
  | _ => []
def B_23_6 {R : Type} (N : Nat) (rec : ((Int × ByteArray × Unit × Unit × Int × Unit) × ((Nat → Int) × (Nat → Int) × Unit)) → Option R) (x : ((Int × ByteArray × Unit × Unit × Int × Unit) × ((Nat → Int) × (Nat → Int) × Unit))) (κ0 : ((Int × ByteArray × Unit × Unit × Int × Unit) × ((Nat → Int) × (Nat → Int) × Unit)) → Option R) : Option R :=
let i1887 : Int := x.1.1
let s1888 : ByteArray := x.1.2.1
let i1889 : Int := x.1.2.2.2.2.1
let a1890 : (Nat → Int) := x.2.1
let a1891 : (Nat → Int) := x.2.2.1
let i1892 : Int := ((ByteArray.size s1888 : Nat) : Int)
let i1893 : Int := subA .i64 i1892 i1889
bif (decide (i1893 > 128)) then (
let i1894 : Int := addA .i64 i1889 128
bif decide (0 ≤ i1894) then (
bif decide (i1894 ≤ ((ByteArray.size s1888 : Nat) : Int)) then (
bif decide (0 ≤ i1889) then (
bif decide (i1889 ≤ i1894) then (
let s1895 : ByteArray := ByteArray.extract s1888 ((Int.toNat i1889)) ((Int.toNat i1894))
let i1896 : Int := addA .i64 i1889 128
let i1897 : Int := IntKind.wrap .u64 i1896
p_16 N ((a1890, a1891, s1895, i1897, false, ()), ()) (fun y1898 =>
let a1899 : (Nat → Int) := y1898
let i1900 : Int := addA .i64 i1889 128
rec ((i1887, s1888, (), (), i1900, ()), (a1890, a1899, ())))) else none) else none) else none) else none) else (
κ0 ((i1887, s1888, (), (), i1889, ()), (a1890, a1891, ())))
def l_23_6 {R : Type} (N : Nat) : Nat → ((Int × ByteArray × Unit × Unit × Int × Unit) × ((Nat → Int) × (Nat → Int) × Unit)) → (((Int × ByteArray × Unit × Unit × Int × Unit) × ((Nat → Int) × (Nat → Int) × Unit)) → Option R) → Option R
  | 0, _, _ => none
  | n + 1, x, κ0 => B_23_6 N (fun y => l_23_6 N n y κ0) x κ0
def lv_23_12 : Live := [(1, none), (9, none), (11, some (.int .u8, 5)), (12, none)]
def pt_23_12 : SPat := ⟨[(1, .int .i64), (9, .ptr 0 []), (11, .sl 1), (12, .int .i64)], [some (.vec (.int .u64) 8, 23), some (.lst (.int .u8), 5)]⟩
def px_23_12_0 : SPat := ⟨[(1, .int .i64), (11, .sl 0)], [some (.lst (.int .u8), 5)]⟩
def lo_23_12 : Exit → Live
  | .exit 2 => [(1, none), (11, none)]
  | _ => []
def B_23_12 {R : Type} (N : Nat) (rec : ((Int × Unit × Unit × Int × Unit) × ((Nat → Int) × (List Int) × Unit)) → Option R) (x : ((Int × Unit × Unit × Int × Unit) × ((Nat → Int) × (List Int) × Unit))) (κ0 : ((Int × Unit × Unit) × ((List Int) × Unit)) → Option R) : Option R :=
let i1914 : Int := x.1.1
let i1915 : Int := x.1.2.2.2.1
let a1916 : (Nat → Int) := x.2.1
let l1917 : (List Int) := x.2.2.1
bif (decide (i1915 < 8)) then (
bif decide (0 ≤ i1915) then (
bif decide (i1915 < (8 : Int)) then (
let i1918 : Int := (a1916 ((Int.toNat i1915)))
p_54 N ((i1918, ()), ()) (fun y1919 =>
let l1920 : (List Int) := y1919
bif (decide ((List.length l1917 + List.length l1920) * 1 ≤ 140737488355328) && true) then (
let l1921 : (List Int) := (l1917 ++ l1920)
let i1922 : Int := addA .i64 i1915 1
rec ((i1914, (), (), i1922, ()), (a1916, l1921, ()))) else none)) else none) else none) else (
κ0 ((i1914, (), ()), (l1917, ())))
def l_23_12 {R : Type} (N : Nat) : Nat → ((Int × Unit × Unit × Int × Unit) × ((Nat → Int) × (List Int) × Unit)) → (((Int × Unit × Unit) × ((List Int) × Unit)) → Option R) → Option R
  | 0, _, _ => none
  | n + 1, x, κ0 => B_23_12 N (fun y => l_23_12 N n y κ0) x κ0
def ap_23 : List Pat := [.vec (.int .u64) 8, .int .i64, .str, .str]
def hp_23 : List (Option (Pat × Nat)) := []
def p_23 {R : Type} (N : Nat) (x : ((Nat → Int) × Int × ByteArray × ByteArray × Unit) × (Unit)) (κ0 : ByteArray → Option R) : Option R :=
let a1437 : (Nat → Int) := x.1.1
let i1438 : Int := x.1.2.1
let s1439 : ByteArray := x.1.2.2.1
let s1440 : ByteArray := x.1.2.2.2.1
let i1441 : Int := (a1437 0)
let i1442 : Int := ((ByteArray.size s1439 : Nat) : Int)
let i1443 : Int := IntKind.wrap .u64 i1442
let i1444 : Int := mulA .u64 256 i1443
let i1445 : Int := addA .u64 16842752 i1444
let i1446 : Int := IntKind.wrap .u64 i1438
let i1447 : Int := addA .u64 i1445 i1446
let i1448 : Int := xorA .u64 i1441 i1447
let a1449 : (Nat → Int) := (upd a1437 0 i1448)
bif (!eqS s1439 (⟨#[]⟩)) then (
p_53 N ((s1439, 128, ()), ()) (fun y1458 =>
let s1459 : ByteArray := y1458
bif decide (ByteArray.size s1459 + ByteArray.size s1440 ≤ maxI64) then (
let s1460 : ByteArray := (s1459 ++ s1440)
l_23_6 N N ((i1438, s1460, (), (), 0, ()), (a1437, a1449, ())) (fun y1835 =>
let i1836 : Int := y1835.1.1
let s1837 : ByteArray := y1835.1.2.1
let i1838 : Int := y1835.1.2.2.2.2.1
let a1839 : (Nat → Int) := y1835.2.1
let a1840 : (Nat → Int) := y1835.2.2.1
bif decide (0 ≤ ((ByteArray.size s1837 : Nat) : Int)) then (
bif decide (((ByteArray.size s1837 : Nat) : Int) ≤ ((ByteArray.size s1837 : Nat) : Int)) then (
bif decide (0 ≤ i1838) then (
bif decide (i1838 ≤ ((ByteArray.size s1837 : Nat) : Int)) then (
let s1841 : ByteArray := ByteArray.extract s1837 ((Int.toNat i1838)) (ByteArray.size s1837)
p_53 N ((s1841, 128, ()), ()) (fun y1842 =>
let s1843 : ByteArray := y1842
let i1844 : Int := ((ByteArray.size s1837 : Nat) : Int)
let i1845 : Int := IntKind.wrap .u64 i1844
p_16 N ((a1839, a1840, s1843, i1845, true, ()), ()) (fun y1846 =>
let a1847 : (Nat → Int) := y1846
l_23_12 N N ((i1836, (), (), 0, ()), (a1847, [], ())) (fun y1883 =>
let i1884 : Int := y1883.1.1
let l1885 : (List Int) := y1883.2.1
bif decide (0 ≤ i1884) then (
bif decide (i1884 ≤ (((List.length l1885) : Nat) : Int)) then (
bif decide (0 ≤ i1884) then (
let s1886 : ByteArray := listStr ((List.take (((Int.toNat i1884) - 0)) (List.drop 0 l1885)))
κ0 s1886) else none) else none) else none)))) else none) else none) else none) else none)) else none)) else (
l_23_6 N N ((i1438, s1440, (), (), 0, ()), (a1437, a1449, ())) (fun y1901 =>
let i1902 : Int := y1901.1.1
let s1903 : ByteArray := y1901.1.2.1
let i1904 : Int := y1901.1.2.2.2.2.1
let a1905 : (Nat → Int) := y1901.2.1
let a1906 : (Nat → Int) := y1901.2.2.1
bif decide (0 ≤ ((ByteArray.size s1903 : Nat) : Int)) then (
bif decide (((ByteArray.size s1903 : Nat) : Int) ≤ ((ByteArray.size s1903 : Nat) : Int)) then (
bif decide (0 ≤ i1904) then (
bif decide (i1904 ≤ ((ByteArray.size s1903 : Nat) : Int)) then (
let s1907 : ByteArray := ByteArray.extract s1903 ((Int.toNat i1904)) (ByteArray.size s1903)
p_53 N ((s1907, 128, ()), ()) (fun y1908 =>
let s1909 : ByteArray := y1908
let i1910 : Int := ((ByteArray.size s1903 : Nat) : Int)
let i1911 : Int := IntKind.wrap .u64 i1910
p_16 N ((a1905, a1906, s1909, i1911, true, ()), ()) (fun y1912 =>
let a1913 : (Nat → Int) := y1912
l_23_12 N N ((i1902, (), (), 0, ()), (a1913, [], ())) (fun y1923 =>
let i1924 : Int := y1923.1.1
let l1925 : (List Int) := y1923.2.1
bif decide (0 ≤ i1924) then (
bif decide (i1924 ≤ (((List.length l1925) : Nat) : Int)) then (
bif decide (0 ≤ i1924) then (
let s1926 : ByteArray := listStr ((List.take (((Int.toNat i1924) - 0)) (List.drop 0 l1925)))
κ0 s1926) else none) else none) else none)))) else none) else none) else none) else none))

abbrev Tl_23_6 (R : Type) : Type := ((Int × ByteArray × Unit × Unit × Int × Unit) × ((Nat → Int) × (Nat → Int) × Unit)) → (((Int × ByteArray × Unit × Unit × Int × Unit) × ((Nat → Int) × (Nat → Int) × Unit)) → Option R) → Option R
abbrev Tl_23_12 (R : Type) : Type := ((Int × Unit × Unit × Int × Unit) × ((Nat → Int) × (List Int) × Unit)) → (((Int × Unit × Unit) × ((List Int) × Unit)) → Option R) → Option R
abbrev Tp_23 (R : Type) : Type := ((Nat → Int) × Int × ByteArray × ByteArray × Unit) × (Unit) → (ByteArray → Option R) → Option R
def Q_23 {R : Type} (q_53 : Tp_53 R) (q_16 : Tp_16 R) (q_54 : Tp_54 R) (m_23_6 : Tl_23_6 R) (m_23_12 : Tl_23_12 R) (x : ((Nat → Int) × Int × ByteArray × ByteArray × Unit) × (Unit)) (κ0 : ByteArray → Option R) : Option R :=
let a1437 : (Nat → Int) := x.1.1
let i1438 : Int := x.1.2.1
let s1439 : ByteArray := x.1.2.2.1
let s1440 : ByteArray := x.1.2.2.2.1
let i1441 : Int := (a1437 0)
let i1442 : Int := ((ByteArray.size s1439 : Nat) : Int)
let i1443 : Int := IntKind.wrap .u64 i1442
let i1444 : Int := mulA .u64 256 i1443
let i1445 : Int := addA .u64 16842752 i1444
let i1446 : Int := IntKind.wrap .u64 i1438
let i1447 : Int := addA .u64 i1445 i1446
let i1448 : Int := xorA .u64 i1441 i1447
let a1449 : (Nat → Int) := (upd a1437 0 i1448)
bif (!eqS s1439 (⟨#[]⟩)) then (
q_53 ((s1439, 128, ()), ()) (fun y1458 =>
let s1459 : ByteArray := y1458
bif decide (ByteArray.size s1459 + ByteArray.size s1440 ≤ maxI64) then (
let s1460 : ByteArray := (s1459 ++ s1440)
m_23_6 ((i1438, s1460, (), (), 0, ()), (a1437, a1449, ())) (fun y1835 =>
let i1836 : Int := y1835.1.1
let s1837 : ByteArray := y1835.1.2.1
let i1838 : Int := y1835.1.2.2.2.2.1
let a1839 : (Nat → Int) := y1835.2.1
let a1840 : (Nat → Int) := y1835.2.2.1
bif decide (0 ≤ ((ByteArray.size s1837 : Nat) : Int)) then (
bif decide (((ByteArray.size s1837 : Nat) : Int) ≤ ((ByteArray.size s1837 : Nat) : Int)) then (
bif decide (0 ≤ i1838) then (
bif decide (i1838 ≤ ((ByteArray.size s1837 : Nat) : Int)) then (
let s1841 : ByteArray := ByteArray.extract s1837 ((Int.toNat i1838)) (ByteArray.size s1837)
q_53 ((s1841, 128, ()), ()) (fun y1842 =>
let s1843 : ByteArray := y1842
let i1844 : Int := ((ByteArray.size s1837 : Nat) : Int)
let i1845 : Int := IntKind.wrap .u64 i1844
q_16 ((a1839, a1840, s1843, i1845, true, ()), ()) (fun y1846 =>
let a1847 : (Nat → Int) := y1846
m_23_12 ((i1836, (), (), 0, ()), (a1847, [], ())) (fun y1883 =>
let i1884 : Int := y1883.1.1
let l1885 : (List Int) := y1883.2.1
bif decide (0 ≤ i1884) then (
bif decide (i1884 ≤ (((List.length l1885) : Nat) : Int)) then (
bif decide (0 ≤ i1884) then (
let s1886 : ByteArray := listStr ((List.take (((Int.toNat i1884) - 0)) (List.drop 0 l1885)))
κ0 s1886) else none) else none) else none)))) else none) else none) else none) else none)) else none)) else (
m_23_6 ((i1438, s1440, (), (), 0, ()), (a1437, a1449, ())) (fun y1901 =>
let i1902 : Int := y1901.1.1
let s1903 : ByteArray := y1901.1.2.1
let i1904 : Int := y1901.1.2.2.2.2.1
let a1905 : (Nat → Int) := y1901.2.1
let a1906 : (Nat → Int) := y1901.2.2.1
bif decide (0 ≤ ((ByteArray.size s1903 : Nat) : Int)) then (
bif decide (((ByteArray.size s1903 : Nat) : Int) ≤ ((ByteArray.size s1903 : Nat) : Int)) then (
bif decide (0 ≤ i1904) then (
bif decide (i1904 ≤ ((ByteArray.size s1903 : Nat) : Int)) then (
let s1907 : ByteArray := ByteArray.extract s1903 ((Int.toNat i1904)) (ByteArray.size s1903)
q_53 ((s1907, 128, ()), ()) (fun y1908 =>
let s1909 : ByteArray := y1908
let i1910 : Int := ((ByteArray.size s1903 : Nat) : Int)
let i1911 : Int := IntKind.wrap .u64 i1910
q_16 ((a1905, a1906, s1909, i1911, true, ()), ()) (fun y1912 =>
let a1913 : (Nat → Int) := y1912
m_23_12 ((i1902, (), (), 0, ()), (a1913, [], ())) (fun y1923 =>
let i1924 : Int := y1923.1.1
let l1925 : (List Int) := y1923.2.1
bif decide (0 ≤ i1924) then (
bif decide (i1924 ≤ (((List.length l1925) : Nat) : Int)) then (
bif decide (0 ≤ i1924) then (
let s1926 : ByteArray := listStr ((List.take (((Int.toNat i1924) - 0)) (List.drop 0 l1925)))
κ0 s1926) else none) else none) else none)))) else none) else none) else none) else none))
def C_23_6 {R : Type} (q_53 : Tp_53 R) (q_16 : Tp_16 R) (q_54 : Tp_54 R) (m_23_6 : Tl_23_6 R) (m_23_12 : Tl_23_12 R) (rec : ((Int × ByteArray × Unit × Unit × Int × Unit) × ((Nat → Int) × (Nat → Int) × Unit)) → Option R) (x : ((Int × ByteArray × Unit × Unit × Int × Unit) × ((Nat → Int) × (Nat → Int) × Unit))) (κ0 : ((Int × ByteArray × Unit × Unit × Int × Unit) × ((Nat → Int) × (Nat → Int) × Unit)) → Option R) : Option R :=
let i1887 : Int := x.1.1
let s1888 : ByteArray := x.1.2.1
let i1889 : Int := x.1.2.2.2.2.1
let a1890 : (Nat → Int) := x.2.1
let a1891 : (Nat → Int) := x.2.2.1
let i1892 : Int := ((ByteArray.size s1888 : Nat) : Int)
let i1893 : Int := subA .i64 i1892 i1889
bif (decide (i1893 > 128)) then (
let i1894 : Int := addA .i64 i1889 128
bif decide (0 ≤ i1894) then (
bif decide (i1894 ≤ ((ByteArray.size s1888 : Nat) : Int)) then (
bif decide (0 ≤ i1889) then (
bif decide (i1889 ≤ i1894) then (
let s1895 : ByteArray := ByteArray.extract s1888 ((Int.toNat i1889)) ((Int.toNat i1894))
let i1896 : Int := addA .i64 i1889 128
let i1897 : Int := IntKind.wrap .u64 i1896
q_16 ((a1890, a1891, s1895, i1897, false, ()), ()) (fun y1898 =>
let a1899 : (Nat → Int) := y1898
let i1900 : Int := addA .i64 i1889 128
rec ((i1887, s1888, (), (), i1900, ()), (a1890, a1899, ())))) else none) else none) else none) else none) else (
κ0 ((i1887, s1888, (), (), i1889, ()), (a1890, a1891, ())))
def C_23_12 {R : Type} (q_53 : Tp_53 R) (q_16 : Tp_16 R) (q_54 : Tp_54 R) (m_23_6 : Tl_23_6 R) (m_23_12 : Tl_23_12 R) (rec : ((Int × Unit × Unit × Int × Unit) × ((Nat → Int) × (List Int) × Unit)) → Option R) (x : ((Int × Unit × Unit × Int × Unit) × ((Nat → Int) × (List Int) × Unit))) (κ0 : ((Int × Unit × Unit) × ((List Int) × Unit)) → Option R) : Option R :=
let i1914 : Int := x.1.1
let i1915 : Int := x.1.2.2.2.1
let a1916 : (Nat → Int) := x.2.1
let l1917 : (List Int) := x.2.2.1
bif (decide (i1915 < 8)) then (
bif decide (0 ≤ i1915) then (
bif decide (i1915 < (8 : Int)) then (
let i1918 : Int := (a1916 ((Int.toNat i1915)))
q_54 ((i1918, ()), ()) (fun y1919 =>
let l1920 : (List Int) := y1919
bif (decide ((List.length l1917 + List.length l1920) * 1 ≤ 140737488355328) && true) then (
let l1921 : (List Int) := (l1917 ++ l1920)
let i1922 : Int := addA .i64 i1915 1
rec ((i1914, (), (), i1922, ()), (a1916, l1921, ()))) else none)) else none) else none) else (
κ0 ((i1914, (), ()), (l1917, ())))
def EG_23 {R : Type} (q_53 : Tp_53 R) (q_16 : Tp_16 R) (q_54 : Tp_54 R) : Env R := (((Env.base QQ LN).add 53 ap_53 hp_53 (fun (x : aden ap_53 × hden hp_53) k => q_53 x (fun y => k (Pat.inst (.str) y) (instH hp_53 x.2)))).add 16 ap_16 hp_16 (fun (x : aden ap_16 × hden hp_16) k => q_16 x (fun y => k (Pat.inst (.vec (.int .u64) 8) y) (instH hp_16 x.2)))).add 54 ap_54 hp_54 (fun (x : aden ap_54 × hden hp_54) k => q_54 x (fun y => k (Pat.inst (.ros (.int .u8)) y) (instH hp_54 x.2)))
def LG_23 {R : Type} (m_23_6 : Tl_23_6 R) (m_23_12 : Tl_23_12 R) : Loops R := ((Loops.none).add 6 (loopBy 0 lv_23_6 pt_23_6 (fun x k => m_23_6 x (fun y => k (.exit 0) (px_23_6_0.inst y))))).add 12 (loopBy 0 lv_23_12 pt_23_12 (fun x k => m_23_12 x (fun y => k (.exit 2) (px_23_12_0.inst y))))
def E_23 {R : Type} (N : Nat) : Env R := EG_23 (p_53 N) (p_16 N) (p_54 N)
theorem eok_23 {R : Type} (N : Nat) : EK Try.prog (E_23 (R := R) N) := ek_add (ek_add (ek_add (ek_base _ _) (good_53 N)) (good_16 N)) (good_54 N)
def L_23 {R : Type} (N : Nat) : Loops R := LG_23 (l_23_6 N N) (l_23_12 N N)
theorem gstep_23_6 {R : Type} (q_53 : Tp_53 R) (q_16 : Tp_16 R) (q_54 : Tp_54 R) (m_23_6 : Tl_23_6 R) (m_23_12 : Tl_23_12 R) (n : Nat) (x : pt_23_6.den) (k : Exit → St → Option R) : iter 0 lv_23_6 lo_23_6 (aexec TT (EG_23 q_53 q_16 q_54) (drawAny TT WW) (LG_23 m_23_6 m_23_12) (loopAt 6 (bodyOf Try.f23))) (n + 1) (pt_23_6.inst x) k = C_23_6 q_53 q_16 q_54 m_23_6 m_23_12 (fun y => iter 0 lv_23_6 lo_23_6 (aexec TT (EG_23 q_53 q_16 q_54) (drawAny TT WW) (LG_23 m_23_6 m_23_12) (loopAt 6 (bodyOf Try.f23))) n (pt_23_6.inst y) k) x (fun y => k (.exit 0) (px_23_6_0.inst y)) := by kernel_rfl
theorem step_23_6 {R : Type} (N n : Nat) (x : pt_23_6.den) (k : Exit → St → Option R) : iter 0 lv_23_6 lo_23_6 (aexec TT (E_23 (R := R) N) (drawAny TT WW) (L_23 N) (loopAt 6 (bodyOf Try.f23))) (n + 1) (pt_23_6.inst x) k = B_23_6 N (fun y => iter 0 lv_23_6 lo_23_6 (aexec TT (E_23 (R := R) N) (drawAny TT WW) (L_23 N) (loopAt 6 (bodyOf Try.f23))) n (pt_23_6.inst y) k) x (fun y => k (.exit 0) (px_23_6_0.inst y)) := (gstep_23_6 (p_53 N) (p_16 N) (p_54 N) (l_23_6 N N) (l_23_12 N N) n x k).trans (by kernel_rfl)
theorem eq_23_6 {R : Type} (N : Nat) : ∀ (n : Nat) (x : pt_23_6.den) (k : Exit → St → Option R), iter 0 lv_23_6 lo_23_6 (aexec TT (E_23 (R := R) N) (drawAny TT WW) (L_23 N) (loopAt 6 (bodyOf Try.f23))) n (pt_23_6.inst x) k = l_23_6 N n x (fun y => k (.exit 0) (px_23_6_0.inst y)) :=
  iter_eq (K := Exit → St → Option R) (ks := fun k => k) (l := fun n (x : pt_23_6.den) k => l_23_6 N n x (fun y => k (.exit 0) (px_23_6_0.inst y))) (B := fun (rec : pt_23_6.den → Option R) (x : pt_23_6.den) k => B_23_6 N rec x (fun y => k (.exit 0) (px_23_6_0.inst y))) (fun _ _ => rfl) (fun _ _ _ => rfl) (fun n x k => step_23_6 N n x k)
theorem rounds_23_6 {R : Type} (N : Nat) : Rounds 0 TT (E_23 (R := R) N) (drawAny TT WW) (L_23 N) 6 (loopAt 6 (bodyOf Try.f23)) :=
  rounds_of (p := pt_23_6) (l := fun (x : pt_23_6.den) k => l_23_6 N N x (fun y => k (.exit 0) (px_23_6_0.inst y))) (fun s k => rfl) (fun x k => eq_23_6 N N x k)
theorem gstep_23_12 {R : Type} (q_53 : Tp_53 R) (q_16 : Tp_16 R) (q_54 : Tp_54 R) (m_23_6 : Tl_23_6 R) (m_23_12 : Tl_23_12 R) (n : Nat) (x : pt_23_12.den) (k : Exit → St → Option R) : iter 0 lv_23_12 lo_23_12 (aexec TT (EG_23 q_53 q_16 q_54) (drawAny TT WW) (LG_23 m_23_6 m_23_12) (loopAt 12 (bodyOf Try.f23))) (n + 1) (pt_23_12.inst x) k = C_23_12 q_53 q_16 q_54 m_23_6 m_23_12 (fun y => iter 0 lv_23_12 lo_23_12 (aexec TT (EG_23 q_53 q_16 q_54) (drawAny TT WW) (LG_23 m_23_6 m_23_12) (loopAt 12 (bodyOf Try.f23))) n (pt_23_12.inst y) k) x (fun y => k (.exit 2) (px_23_12_0.inst y)) := by kernel_rfl
theorem step_23_12 {R : Type} (N n : Nat) (x : pt_23_12.den) (k : Exit → St → Option R) : iter 0 lv_23_12 lo_23_12 (aexec TT (E_23 (R := R) N) (drawAny TT WW) (L_23 N) (loopAt 12 (bodyOf Try.f23))) (n + 1) (pt_23_12.inst x) k = B_23_12 N (fun y => iter 0 lv_23_12 lo_23_12 (aexec TT (E_23 (R := R) N) (drawAny TT WW) (L_23 N) (loopAt 12 (bodyOf Try.f23))) n (pt_23_12.inst y) k) x (fun y => k (.exit 2) (px_23_12_0.inst y)) := (gstep_23_12 (p_53 N) (p_16 N) (p_54 N) (l_23_6 N N) (l_23_12 N N) n x k).trans (by kernel_rfl)
theorem eq_23_12 {R : Type} (N : Nat) : ∀ (n : Nat) (x : pt_23_12.den) (k : Exit → St → Option R), iter 0 lv_23_12 lo_23_12 (aexec TT (E_23 (R := R) N) (drawAny TT WW) (L_23 N) (loopAt 12 (bodyOf Try.f23))) n (pt_23_12.inst x) k = l_23_12 N n x (fun y => k (.exit 2) (px_23_12_0.inst y)) :=
  iter_eq (K := Exit → St → Option R) (ks := fun k => k) (l := fun n (x : pt_23_12.den) k => l_23_12 N n x (fun y => k (.exit 2) (px_23_12_0.inst y))) (B := fun (rec : pt_23_12.den → Option R) (x : pt_23_12.den) k => B_23_12 N rec x (fun y => k (.exit 2) (px_23_12_0.inst y))) (fun _ _ => rfl) (fun _ _ _ => rfl) (fun n x k => step_23_12 N n x k)
theorem rounds_23_12 {R : Type} (N : Nat) : Rounds 0 TT (E_23 (R := R) N) (drawAny TT WW) (L_23 N) 12 (loopAt 12 (bodyOf Try.f23)) :=
  rounds_of (p := pt_23_12) (l := fun (x : pt_23_12.den) k => l_23_12 N N x (fun y => k (.exit 2) (px_23_12_0.inst y))) (fun s k => rfl) (fun x k => eq_23_12 N N x k)
theorem loops_23 : loopsIn (bodyOf Try.f23) = [(6, loopAt 6 (bodyOf Try.f23)), (12, loopAt 12 (bodyOf Try.f23))] := by kernel_rfl
theorem lok_23 {R : Type} (N : Nat) : LOK 0 TT (E_23 (R := R) N) (drawAny TT WW) (L_23 N) (bodyOf Try.f23) := loops_all loops_23 (by
  simp only [List.forall_mem_cons, List.not_mem_nil, false_implies, implies_true, and_true]
  exact ⟨rounds_23_6 N, rounds_23_12 N⟩)
theorem grun_23 {R : Type} (q_53 : Tp_53 R) (q_16 : Tp_16 R) (q_54 : Tp_54 R) (m_23_6 : Tl_23_6 R) (m_23_12 : Tl_23_12 R) (x : aden ap_23 × hden hp_23) (k : KF R) : fnrun TT (EG_23 q_53 q_16 q_54) (drawAny TT WW) (LG_23 m_23_6 m_23_12) true Try.f23 (instA ap_23 x.1) (instH hp_23 x.2) k = Q_23 q_53 q_16 q_54 m_23_6 m_23_12 x (fun y => k (Pat.inst (.str) y) (instH hp_23 x.2)) := by kernel_rfl
theorem run_23 {R : Type} (N : Nat) (x : aden ap_23 × hden hp_23) (k : KF R) : fnrun TT (E_23 (R := R) N) (drawAny TT WW) (L_23 N) true Try.f23 (instA ap_23 x.1) (instH hp_23 x.2) k = p_23 N x (fun y => k (Pat.inst (.str) y) (instH hp_23 x.2)) := (grun_23 (p_53 N) (p_16 N) (p_54 N) (l_23_6 N N) (l_23_12 N N) x k).trans (by kernel_rfl)
theorem good_23 {R : Type} (N : Nat) : GD (X := R) Try.prog QQ 23 ap_23 hp_23 (fun (x : aden ap_23 × hden hp_23) k => p_23 N x (fun y => k (Pat.inst (.str) y) (instH hp_23 x.2))) :=
  gd_quiet (E := E_23 N) (p := fun (x : aden ap_23 × hden hp_23) κ => p_23 N x (fun y => κ (Pat.inst (.str) y))) mixed tyok (eok_23 N) Try.func23 (by kernel_rfl) (by kernel_rfl) (lok_23 N) (fun x k => run_23 N x k)

def ap_5 : List Pat := [.int .i64, .str, .ros (.str)]
def hp_5 : List (Option (Pat × Nat)) := []
def p_5 {R : Type} (N : Nat) (x : (Int × ByteArray × (List ByteArray) × Unit) × (Unit)) (κ0 : (Bool × (Unit)) → Option R) : Option R :=
let i1 : Int := x.1.1
let s2 : ByteArray := x.1.2.1
let l3 : (List ByteArray) := x.1.2.2.1
p_11 N ((), ()) (fun y1135 =>
let b1136 : Bool := y1135
bif (!b1136) then (
κ0 (false, ())) else (
let i1137 : Int := ((ByteArray.size s2 : Nat) : Int)
bif (decide (i1137 > 300)) then (
κ0 (true, ())) else (
let i1138 : Int := (((List.length l3) : Nat) : Int)
bif (decide (i1138 > 20)) then (
κ0 (true, ())) else (
p_21 N ((l3, ()), ()) (fun y1150 =>
let i1151 : Int := y1150
bif (decide (i1151 > 1000)) then (
κ0 (true, ())) else (
p_22_v1 N ((i1, s2, l3, ()), ()) (fun y1418 =>
let s1419 : ByteArray := y1418.1.1
let i1420 : Int := y1418.1.2.1
bif (decide (i1 < 1)) then (
bif (i1420 == 1) then (
κ0 ((eqS s1419 (⟨#[]⟩)), ())) else (
κ0 (false, ()))) else (
bif (decide (i1 > 64)) then (
bif (i1420 == 1) then (
κ0 ((eqS s1419 (⟨#[]⟩)), ())) else (
κ0 (false, ()))) else (
let i1421 : Int := ((ByteArray.size s2 : Nat) : Int)
bif (decide (i1421 > 64)) then (
bif (i1420 == 1) then (
κ0 ((eqS s1419 (⟨#[]⟩)), ())) else (
κ0 (false, ()))) else (
bif (i1420 == 0) then (
p_14 N ((), ()) (fun y1423 =>
let a1424 : (Nat → Int) := y1423
p_24 N ((l3, ()), ()) (fun y1435 =>
let s1436 : ByteArray := y1435
p_23 N ((a1424, i1, s2, s1436, ()), ()) (fun y1927 =>
let s1928 : ByteArray := y1927
κ0 ((eqS s1419 s1928), ()))))) else (
κ0 (false, ()))))))))))))

abbrev Tp_5 (R : Type) : Type := (Int × ByteArray × (List ByteArray) × Unit) × (Unit) → ((Bool × (Unit)) → Option R) → Option R
def Q_5 {R : Type} (q_11 : Tp_11 R) (q_21 : Tp_21 R) (q_22_v1 : Tp_22_v1 R) (q_14 : Tp_14 R) (q_24 : Tp_24 R) (q_23 : Tp_23 R) (x : (Int × ByteArray × (List ByteArray) × Unit) × (Unit)) (κ0 : (Bool × (Unit)) → Option R) : Option R :=
let i1 : Int := x.1.1
let s2 : ByteArray := x.1.2.1
let l3 : (List ByteArray) := x.1.2.2.1
q_11 ((), ()) (fun y1135 =>
let b1136 : Bool := y1135
bif (!b1136) then (
κ0 (false, ())) else (
let i1137 : Int := ((ByteArray.size s2 : Nat) : Int)
bif (decide (i1137 > 300)) then (
κ0 (true, ())) else (
let i1138 : Int := (((List.length l3) : Nat) : Int)
bif (decide (i1138 > 20)) then (
κ0 (true, ())) else (
q_21 ((l3, ()), ()) (fun y1150 =>
let i1151 : Int := y1150
bif (decide (i1151 > 1000)) then (
κ0 (true, ())) else (
q_22_v1 ((i1, s2, l3, ()), ()) (fun y1418 =>
let s1419 : ByteArray := y1418.1.1
let i1420 : Int := y1418.1.2.1
bif (decide (i1 < 1)) then (
bif (i1420 == 1) then (
κ0 ((eqS s1419 (⟨#[]⟩)), ())) else (
κ0 (false, ()))) else (
bif (decide (i1 > 64)) then (
bif (i1420 == 1) then (
κ0 ((eqS s1419 (⟨#[]⟩)), ())) else (
κ0 (false, ()))) else (
let i1421 : Int := ((ByteArray.size s2 : Nat) : Int)
bif (decide (i1421 > 64)) then (
bif (i1420 == 1) then (
κ0 ((eqS s1419 (⟨#[]⟩)), ())) else (
κ0 (false, ()))) else (
bif (i1420 == 0) then (
q_14 ((), ()) (fun y1423 =>
let a1424 : (Nat → Int) := y1423
q_24 ((l3, ()), ()) (fun y1435 =>
let s1436 : ByteArray := y1435
q_23 ((a1424, i1, s2, s1436, ()), ()) (fun y1927 =>
let s1928 : ByteArray := y1927
κ0 ((eqS s1419 s1928), ()))))) else (
κ0 (false, ()))))))))))))
def EG_5 {R : Type} (q_11 : Tp_11 R) (q_21 : Tp_21 R) (q_22_v1 : Tp_22_v1 R) (q_14 : Tp_14 R) (q_24 : Tp_24 R) (q_23 : Tp_23 R) : Env R := ((((((Env.base QQ LN).add 11 ap_11 hp_11 (fun (x : aden ap_11 × hden hp_11) k => q_11 x (fun y => k (Pat.inst (.bool) y) (instH hp_11 x.2)))).add 21 ap_21 hp_21 (fun (x : aden ap_21 × hden hp_21) k => q_21 x (fun y => k (Pat.inst (.int .i64) y) (instH hp_21 x.2)))).add 22 ap_22_v1 hp_22_v1 (fun (x : aden ap_22_v1 × hden hp_22_v1) k => q_22_v1 x (fun y => k (Pat.inst (.tup (.fcons (.str) (.fcons (.int .i64) (.fnil)))) y.1) (instH [] y.2)))).add 14 ap_14 hp_14 (fun (x : aden ap_14 × hden hp_14) k => q_14 x (fun y => k (Pat.inst (.vec (.int .u64) 8) y) (instH hp_14 x.2)))).add 24 ap_24 hp_24 (fun (x : aden ap_24 × hden hp_24) k => q_24 x (fun y => k (Pat.inst (.str) y) (instH hp_24 x.2)))).add 23 ap_23 hp_23 (fun (x : aden ap_23 × hden hp_23) k => q_23 x (fun y => k (Pat.inst (.str) y) (instH hp_23 x.2)))
def LG_5 {R : Type} : Loops R := Loops.none
def E_5 {R : Type} (N : Nat) : Env R := EG_5 (p_11 N) (p_21 N) (p_22_v1 N) (p_14 N) (p_24 N) (p_23 N)
theorem eok_5 {R : Type} (N : Nat) : EK Try.prog (E_5 (R := R) N) := ek_add (ek_add (ek_add (ek_add (ek_add (ek_add (ek_base _ _) (good_11 N)) (good_21 N)) (good_22_v1 N)) (good_14 N)) (good_24 N)) (good_23 N)
def L_5 {R : Type} (N : Nat) : Loops R := LG_5
theorem lok_5 {R : Type} (N : Nat) : LOK 0 TT (E_5 (R := R) N) (drawAny TT WW) (L_5 N) (bodyOf Try.f5) := loops_nil (by kernel_rfl)
theorem grun_5 {R : Type} (q_11 : Tp_11 R) (q_21 : Tp_21 R) (q_22_v1 : Tp_22_v1 R) (q_14 : Tp_14 R) (q_24 : Tp_24 R) (q_23 : Tp_23 R) (x : aden ap_5 × hden hp_5) (k : KF R) : fnrun TT (EG_5 q_11 q_21 q_22_v1 q_14 q_24 q_23) (drawAny TT WW) (LG_5) true Try.f5 (instA ap_5 x.1) (instH hp_5 x.2) k = Q_5 q_11 q_21 q_22_v1 q_14 q_24 q_23 x (fun y => k (Pat.inst (.bool) y.1) (instH [] y.2)) := by kernel_rfl
theorem run_5 {R : Type} (N : Nat) (x : aden ap_5 × hden hp_5) (k : KF R) : fnrun TT (E_5 (R := R) N) (drawAny TT WW) (L_5 N) true Try.f5 (instA ap_5 x.1) (instH hp_5 x.2) k = p_5 N x (fun y => k (Pat.inst (.bool) y.1) (instH [] y.2)) := (grun_5 (p_11 N) (p_21 N) (p_22_v1 N) (p_14 N) (p_24 N) (p_23 N) x k).trans (by kernel_rfl)
theorem good_5 {R : Type} (N : Nat) : GD (X := R) Try.prog QQ 5 ap_5 hp_5 (fun (x : aden ap_5 × hden hp_5) k => p_5 N x (fun y => k (Pat.inst (.bool) y.1) (instH [] y.2))) :=
  gd_loud (E := E_5 N) (p := fun (x : aden ap_5 × hden hp_5) k => p_5 N x (fun y => k (Pat.inst (.bool) y.1) (instH [] y.2))) mixed tyok (eok_5 N) Try.func5 (by kernel_rfl) (by kernel_rfl) (by kernel_rfl) (lok_5 N) (fun x k => run_5 N x k)

end Go.Proofs.Ytnfhngcdddjilaa.Eng
