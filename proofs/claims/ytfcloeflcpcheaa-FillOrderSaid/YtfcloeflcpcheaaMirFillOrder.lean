/-
Plain functions that the functions of the program are shown to come to, printed by a program of the prover; each with its proof.
Conditions: none.
-/
import Derived.Test.YtfcloeflcpcheaaMirFillOrderA
import Derived.KernelRfl
set_option linter.unusedVariables false
namespace Go.Proofs.Ytfcloeflcpcheaa.Eng
def lv_80_4 : Live := [(0, none), (14, none), (15, none), (16, none)]
def pt_80_4 : SPat := ⟨[(0, .ptr 0 []), (14, .ros (.sl (.int .u8))), (15, .int .i64), (16, .int .i64)], J11⟩
def px_80_4_0 : SPat := ⟨[(0, .ptr 0 [])], J11⟩
def lo_80_4 : Exit → Live
  | .exit 0 => [(0, none)]
  | _ => []
def ap_80 : List Pat := [.ptr 0 [], .sl 1]
def hp_80 : List (Option (Pat × Nat)) := J11
abbrev Tl_80_4 (R : Type) : Type := ((Unit × (List (List Int)) × Int × Int × Unit) × (Y8 × (List ByteArray) × Unit)) → (((Unit × Unit) × (Y8 × (List ByteArray) × Unit)) → Option R) → Option R
abbrev Tp_80 (R : Type) : Type := (Unit × Unit × Unit) × (Y8 × (List ByteArray) × Unit) → ((Unit × (Y8 × (List ByteArray) × Unit)) → Option R) → Option R
def C_80_4 {R : Type} (q_99 : Tp_99 R) (rec : ((Unit × (List (List Int)) × Int × Int × Unit) × (Y8 × (List ByteArray) × Unit)) → Option R) (x : ((Unit × (List (List Int)) × Int × Int × Unit) × (Y8 × (List ByteArray) × Unit))) (κ0 : ((Unit × Unit) × (Y8 × (List ByteArray) × Unit)) → Option R) : Option R :=
let l1073 := x.1.2.1
let i1074 := x.1.2.2.1
let i1075 := x.1.2.2.2.1
let a1076 := x.2.1.2.1
let i1077 := x.2.1.2.2.1
let i1078 := x.2.1.2.2.2.1
let l1079 := x.2.2.1
bif (decide (i1075 < i1074)) then (
bif decide (0 ≤ i1075) then (
bif decide (i1075 < ((List.length l1073) : Int)) then (
let p1080 : (List Int) := (List.getD l1073 ((Int.toNat i1075)) (Sch.zero (.sl (.int .u8))))
let i1081 : Int := addA .u64 i1078 128
q_99 ((a1076, p1080, i1081, false, ()), ()) (fun y1778 =>
let a1779 := y1778.1
let i1781 : Int := addA .i64 i1075 1
rec (((), l1073, i1074, i1781, ()), (((), (a1779, (i1077, (i1081, ())))), l1079, ())))) else none) else none) else (
κ0 (((), ()), (x.2.1, l1079, ())))
def B_80_4 {R : Type} (N : Nat) (rec : ((Unit × (List (List Int)) × Int × Int × Unit) × (Y8 × (List ByteArray) × Unit)) → Option R) (x : ((Unit × (List (List Int)) × Int × Int × Unit) × (Y8 × (List ByteArray) × Unit))) (κ0 : ((Unit × Unit) × (Y8 × (List ByteArray) × Unit)) → Option R) : Option R := C_80_4 (p_99 N) rec x κ0
def l_80_4 {R : Type} (N : Nat) : Nat → ((Unit × (List (List Int)) × Int × Int × Unit) × (Y8 × (List ByteArray) × Unit)) → (((Unit × Unit) × (Y8 × (List ByteArray) × Unit)) → Option R) → Option R
  | 0, _, _ => none
  | n + 1, x, κ0 => B_80_4 N (fun y => l_80_4 N n y κ0) x κ0
def Q_80 {R : Type} (q_98 : Tp_98 R) (q_99 : Tp_99 R) (m_80_4 : Tl_80_4 R) (x : (Unit × Unit × Unit) × (Y8 × (List ByteArray) × Unit)) (κ0 : (Unit × (Y8 × (List ByteArray) × Unit)) → Option R) : Option R :=
q_98 (((), (), ()), x.2.2) (fun y1069 =>
let l1070 := y1069.1
let l1071 := y1069.2.1
let i1072 : Int := (((List.length l1070) : Nat) : Int)
m_80_4 (((), l1070, i1072, 0, ()), (x.2.1, l1071, ())) (fun y1782 =>
let l1786 := y1782.2.2.1
κ0 ((), (y1782.2.1, l1786, ()))))
def p_80 {R : Type} (N : Nat) (x : (Unit × Unit × Unit) × (Y8 × (List ByteArray) × Unit)) (κ0 : (Unit × (Y8 × (List ByteArray) × Unit)) → Option R) : Option R := Q_80 (p_98 N) (p_99 N) (l_80_4 N N) x κ0
def EG_80 {R : Type} (q_98 : Tp_98 R) (q_99 : Tp_99 R) : Env R := ((Env.base QQ LN AA).add 98 ap_98 hp_98 (fun (x : aden ap_98 × hden hp_98) k => q_98 x (fun y => k (Pat.inst (.ros (.sl (.int .u8))) y.1) (instH [some (.lst (.str), 9)] y.2)))).add 99 ap_99 hp_99 (fun (x : aden ap_99 × hden hp_99) k => q_99 x (fun y => k (Pat.inst (.tup (.fcons (.vec (.int .u64) 8) (.fcons (.int .i64) (.fnil)))) y) (instH hp_99 x.2)))
def LG_80 {R : Type} (m_80_4 : Tl_80_4 R) : Loops R := (Loops.none).add 4 (loopBy 2 lv_80_4 pt_80_4 (fun x k => m_80_4 x (fun y => k (.exit 0) (px_80_4_0.inst y))))
def E_80 {R : Type} (N : Nat) : Env R := EG_80 (p_98 N) (p_99 N)
theorem eok_80 {R : Type} (N : Nat) : EK Try.prog (E_80 (R := R) N) := ek_add (ek_add (ek_base _ _ _) (good_98 N)) (good_99 N)
def L_80 {R : Type} (N : Nat) : Loops R := LG_80 (l_80_4 N N)
theorem gstep_80_4 {R : Type} (q_98 : Tp_98 R) (q_99 : Tp_99 R) (m_80_4 : Tl_80_4 R) (n : Nat) (x : pt_80_4.den) (k : Exit → St → Option R) : iter 2 lv_80_4 lo_80_4 (aexec TT (EG_80 q_98 q_99) (drawAny TT WW) (LG_80 m_80_4) (loopAt 4 (bodyOf Try.f80))) (n + 1) (pt_80_4.inst x) k = C_80_4 q_99 (fun y => iter 2 lv_80_4 lo_80_4 (aexec TT (EG_80 q_98 q_99) (drawAny TT WW) (LG_80 m_80_4) (loopAt 4 (bodyOf Try.f80))) n (pt_80_4.inst y) k) x (fun y => k (.exit 0) (px_80_4_0.inst y)) := by kernel_rfl
theorem step_80_4 {R : Type} (N n : Nat) (x : pt_80_4.den) (k : Exit → St → Option R) : iter 2 lv_80_4 lo_80_4 (aexec TT (E_80 (R := R) N) (drawAny TT WW) (L_80 N) (loopAt 4 (bodyOf Try.f80))) (n + 1) (pt_80_4.inst x) k = B_80_4 N (fun y => iter 2 lv_80_4 lo_80_4 (aexec TT (E_80 (R := R) N) (drawAny TT WW) (L_80 N) (loopAt 4 (bodyOf Try.f80))) n (pt_80_4.inst y) k) x (fun y => k (.exit 0) (px_80_4_0.inst y)) := (gstep_80_4 (p_98 N) (p_99 N) (l_80_4 N N) n x k).trans (by kernel_rfl)
theorem eq_80_4 {R : Type} (N : Nat) : ∀ (n : Nat) (x : pt_80_4.den) (k : Exit → St → Option R), iter 2 lv_80_4 lo_80_4 (aexec TT (E_80 (R := R) N) (drawAny TT WW) (L_80 N) (loopAt 4 (bodyOf Try.f80))) n (pt_80_4.inst x) k = l_80_4 N n x (fun y => k (.exit 0) (px_80_4_0.inst y)) :=
  iter_eq (K := Exit → St → Option R) (ks := fun k => k) (l := fun n (x : pt_80_4.den) k => l_80_4 N n x (fun y => k (.exit 0) (px_80_4_0.inst y))) (B := fun (rec : pt_80_4.den → Option R) (x : pt_80_4.den) k => B_80_4 N rec x (fun y => k (.exit 0) (px_80_4_0.inst y))) (fun _ _ => rfl) (fun _ _ _ => rfl) (fun n x k => step_80_4 N n x k)
theorem rounds_80_4 {R : Type} (N : Nat) : Rounds 2 TT (E_80 (R := R) N) (drawAny TT WW) (L_80 N) 4 (loopAt 4 (bodyOf Try.f80)) :=
  rounds_of (p := pt_80_4) (l := fun (x : pt_80_4.den) k => l_80_4 N N x (fun y => k (.exit 0) (px_80_4_0.inst y))) (fun s k => rfl) (fun x k => eq_80_4 N N x k)
theorem loops_80 : loopsIn (bodyOf Try.f80) = [(4, loopAt 4 (bodyOf Try.f80))] := by kernel_rfl
theorem lok_80 {R : Type} (N : Nat) : LOK 2 TT (E_80 (R := R) N) (drawAny TT WW) (L_80 N) (bodyOf Try.f80) := loops_all loops_80 (by
  simp only [List.forall_mem_cons, List.not_mem_nil, false_implies, implies_true, and_true]
  exact rounds_80_4 N)
theorem grun_80 {R : Type} (q_98 : Tp_98 R) (q_99 : Tp_99 R) (m_80_4 : Tl_80_4 R) (x : aden ap_80 × hden hp_80) (k : KF R) : fnrun TT (EG_80 q_98 q_99) (drawAny TT WW) (LG_80 m_80_4) true Try.f80 (instA ap_80 x.1) (instH hp_80 x.2) k = Q_80 q_98 q_99 m_80_4 x (fun y => k (Pat.inst (.ptr 0 []) y.1) (instH J11 y.2)) := by kernel_rfl
theorem run_80 {R : Type} (N : Nat) (x : aden ap_80 × hden hp_80) (k : KF R) : fnrun TT (E_80 (R := R) N) (drawAny TT WW) (L_80 N) true Try.f80 (instA ap_80 x.1) (instH hp_80 x.2) k = p_80 N x (fun y => k (Pat.inst (.ptr 0 []) y.1) (instH J11 y.2)) := (grun_80 (p_98 N) (p_99 N) (l_80_4 N N) x k).trans (by kernel_rfl)
theorem good_80 {R : Type} (N : Nat) : GD (X := R) Try.prog QQ AA 80 ap_80 hp_80 (fun (x : aden ap_80 × hden hp_80) k => p_80 N x (fun y => k (Pat.inst (.ptr 0 []) y.1) (instH J11 y.2))) :=
  gd_loud (E := E_80 N) (p := fun (x : aden ap_80 × hden hp_80) k => p_80 N x (fun y => k (Pat.inst (.ptr 0 []) y.1) (instH J11 y.2))) mixed tyok (eok_80 N) Try.func80 (by kernel_rfl) (by kernel_rfl) (by kernel_rfl) (by kernel_rfl) (lok_80 N) (fun x k => run_80 N x k)

def ap_106 : List Pat := [.ptr 0 []]
def hp_106 : List (Option (Pat × Nat)) := [some (Z8, 189), some (.lst (.int .u8), 5)]
abbrev Tp_106 (R : Type) : Type := (Unit × Unit) × (Y5 × (List Int) × Unit) → (Bool → Option R) → Option R
def Q_106 {R : Type} (x : (Unit × Unit) × (Y5 × (List Int) × Unit)) (κ0 : Bool → Option R) : Option R :=
let i1846 := x.2.1.1
let b1847 := x.2.1.2.1
let l1849 := x.2.2.1
bif b1847 then (
let i1850 : Int := (((List.length l1849) : Nat) : Int)
κ0 ((decide (i1850 > i1846)))) else (
let i1851 : Int := (((List.length l1849) : Nat) : Int)
κ0 ((decide (i1851 ≥ i1846))))
def p_106 {R : Type} (N : Nat) (x : (Unit × Unit) × (Y5 × (List Int) × Unit)) (κ0 : Bool → Option R) : Option R := Q_106 x κ0
def EG_106 {R : Type} : Env R := Env.base QQ LN AA
def LG_106 {R : Type} : Loops R := Loops.none
def E_106 {R : Type} (N : Nat) : Env R := EG_106
theorem eok_106 {R : Type} (N : Nat) : EK Try.prog (E_106 (R := R) N) := ek_base _ _ _
def L_106 {R : Type} (N : Nat) : Loops R := LG_106
theorem lok_106 {R : Type} (N : Nat) : LOK 2 TT (E_106 (R := R) N) (drawAny TT WW) (L_106 N) (bodyOf Try.f106) := loops_nil (by kernel_rfl)
theorem grun_106 {R : Type} (x : aden ap_106 × hden hp_106) (k : KF R) : fnrun TT (EG_106) (drawAny TT WW) (LG_106) true Try.f106 (instA ap_106 x.1) (instH hp_106 x.2) k = Q_106 x (fun y => k (Pat.inst (.bool) y) (instH hp_106 x.2)) := by kernel_rfl
theorem run_106 {R : Type} (N : Nat) (x : aden ap_106 × hden hp_106) (k : KF R) : fnrun TT (E_106 (R := R) N) (drawAny TT WW) (L_106 N) true Try.f106 (instA ap_106 x.1) (instH hp_106 x.2) k = p_106 N x (fun y => k (Pat.inst (.bool) y) (instH hp_106 x.2)) := (grun_106 x k).trans (by kernel_rfl)
theorem good_106 {R : Type} (N : Nat) : GD (X := R) Try.prog QQ AA 106 ap_106 hp_106 (fun (x : aden ap_106 × hden hp_106) k => p_106 N x (fun y => k (Pat.inst (.bool) y) (instH hp_106 x.2))) :=
  gd_quiet (E := E_106 N) (p := fun (x : aden ap_106 × hden hp_106) κ => p_106 N x (fun y => κ (Pat.inst (.bool) y))) mixed tyok (eok_106 N) Try.func106 (by kernel_rfl) (by kernel_rfl) (lok_106 N) (fun x k => run_106 N x k)

def lv_98_v1_9 : Live := [(0, none), (5, some (.sl (.int .u8), 114)), (17, none), (18, none), (19, none)]
def pt_98_v1_9 : SPat := ⟨[(0, .ptr 0 []), (5, .sl 4), (17, .sl 2), (18, .int .i64), (19, .int .i64)], J14⟩
def px_98_v1_9_0 : SPat := ⟨[(0, .ptr 0 []), (5, .sl 4), (17, .sl 2), (18, .int .i64), (19, .int .i64)], J14⟩
def lo_98_v1_9 : Exit → Live
  | .exit 2 => [(0, none), (5, none), (17, none), (18, none), (19, none)]
  | _ => []
def lv_98_v1_5 : Live := [(0, some (.fnil, 2)), (5, some (.sl (.int .u8), 114)), (17, none), (18, none), (19, none)]
def pt_98_v1_5 : SPat := ⟨[(0, .ptr 0 []), (5, .sl 4), (17, .sl 2), (18, .int .i64), (19, .int .i64)], J14⟩
def px_98_v1_5_0 : SPat := ⟨[(0, .ptr 0 []), (5, .sl 4)], J14⟩
def lo_98_v1_5 : Exit → Live
  | .exit 0 => [(0, none), (5, none)]
  | _ => []
def ap_98_v1 : List Pat := [.ptr 0 [], .sl 2]
def hp_98_v1 : List (Option (Pat × Nat)) := J13
abbrev Tl_98_v1_9 (R : Type) : Type := Y10 → (Y10 → Option R) → Option R
abbrev Tl_98_v1_5 (R : Type) : Type := Y10 → (((Unit × Unit × Unit) × (Y5 × (List ByteArray) × (List Int) × (List (List Int)) × Unit)) → Option R) → Option R
abbrev Tp_98_v1 (R : Type) : Type := (Unit × Unit × Unit) × (Y5 × (List Int) × (List ByteArray) × Unit) → (((List (List Int)) × (Y5 × (List Int) × (List ByteArray) × Unit)) → Option R) → (((List (List Int)) × (Y5 × (List ByteArray) × (List Int) × Unit)) → Option R) → Option R
def C_98_v1_9 {R : Type} (q_106 : Tp_106 R) (rec : Y10 → Option R) (x : Y10) (κ0 : Y10 → Option R) : Option R :=
let i1929 := x.1.2.2.2.1
let i1930 := x.1.2.2.2.2.1
let i1931 := x.2.1.1
let l1934 := x.2.2.1
let l1935 := x.2.2.2.1
let l1936 := x.2.2.2.2.1
q_106 (((), ()), (x.2.1, l1935, ())) (fun y1937 =>
let b1938 : Bool := y1937
bif b1938 then (
bif decide (0 ≤ i1931) then (
bif decide (i1931 ≤ (((List.length l1935) : Nat) : Int)) then (
bif decide (0 ≤ i1931) then (
bif decide (List.length ((List.take (((Int.toNat i1931) - 0)) (List.drop 0 l1935))) * 1 ≤ 140737488355328) then (
let l1939 : (List Int) := (List.take (((Int.toNat i1931) - 0)) (List.drop 0 l1935))
let l1940 : (List (List Int)) := [l1939]
bif (decide ((List.length l1936 + List.length l1940) * 24 ≤ 140737488355328) && true) then (
let l1941 : (List (List Int)) := (l1936 ++ l1940)
bif decide (0 ≤ (((List.length l1935) : Nat) : Int)) then (
bif decide ((((List.length l1935) : Nat) : Int) ≤ (((List.length l1935) : Nat) : Int)) then (
bif decide (0 ≤ i1931) then (
bif decide (i1931 ≤ (((List.length l1935) : Nat) : Int)) then (
let l1942 : (List Int) := List.take (((List.length l1935) - (Int.toNat i1931))) (List.drop ((Int.toNat i1931)) l1935)
rec (((), (), (), i1929, i1930, ()), (x.2.1, l1934, l1942, l1941, ()))) else none) else none) else none) else none) else none) else none) else none) else none) else none) else (
κ0 (((), (), (), i1929, i1930, ()), (x.2.1, l1934, l1935, l1936, ()))))
def C_98_v1_5 {R : Type} (m_98_v1_9 : Tl_98_v1_9 R) (rec : Y10 → Option R) (x : Y10) (κ0 : ((Unit × Unit × Unit) × (Y5 × (List ByteArray) × (List Int) × (List (List Int)) × Unit)) → Option R) : Option R :=
let i1917 := x.1.2.2.2.1
let i1918 := x.1.2.2.2.2.1
let i1919 := x.2.1.1
let b1920 := x.2.1.2.1
let i1921 := x.2.1.2.2.2.1
let l1922 := x.2.2.1
let l1923 := x.2.2.2.1
let l1924 := x.2.2.2.2.1
bif (decide (i1918 < i1917)) then (
bif decide (0 ≤ i1918) then (
bif decide (i1918 < ((List.length l1922) : Int)) then (
let s1925 : ByteArray := (List.getD l1922 ((Int.toNat i1918)) (Sch.zero (.str)))
let i1926 : Int := ((ByteArray.size s1925 : Nat) : Int)
let i1927 : Int := addA .i64 i1921 i1926
bif (decide ((List.length l1923 + List.length (strList s1925)) * 1 ≤ 140737488355328) && true) then (
let l1928 : (List Int) := (l1923 ++ strList s1925)
m_98_v1_9 (((), (), (), i1917, i1918, ()), ((i1919, (b1920, ((), (i1927, ())))), l1922, l1928, l1924, ())) (fun y1943 =>
let i1944 := y1943.1.2.2.2.1
let i1945 := y1943.1.2.2.2.2.1
let l1949 := y1943.2.2.1
let l1950 := y1943.2.2.2.1
let l1951 := y1943.2.2.2.2.1
let i1952 : Int := addA .i64 i1945 1
rec (((), (), (), i1944, i1952, ()), (y1943.2.1, l1949, l1950, l1951, ())))) else none) else none) else none) else (
κ0 (((), (), ()), (x.2.1, l1922, l1923, l1924, ())))
def B_98_v1_9 {R : Type} (N : Nat) (rec : Y10 → Option R) (x : Y10) (κ0 : Y10 → Option R) : Option R := C_98_v1_9 (p_106 N) rec x κ0
def l_98_v1_9 {R : Type} (N : Nat) : Nat → Y10 → (Y10 → Option R) → Option R
  | 0, _, _ => none
  | n + 1, x, κ0 => B_98_v1_9 N (fun y => l_98_v1_9 N n y κ0) x κ0
def B_98_v1_5 {R : Type} (N : Nat) (rec : Y10 → Option R) (x : Y10) (κ0 : ((Unit × Unit × Unit) × (Y5 × (List ByteArray) × (List Int) × (List (List Int)) × Unit)) → Option R) : Option R := C_98_v1_5 (l_98_v1_9 N N) rec x κ0
def l_98_v1_5 {R : Type} (N : Nat) : Nat → Y10 → (((Unit × Unit × Unit) × (Y5 × (List ByteArray) × (List Int) × (List (List Int)) × Unit)) → Option R) → Option R
  | 0, _, _ => none
  | n + 1, x, κ0 => B_98_v1_5 N (fun y => l_98_v1_5 N n y κ0) x κ0
def Q_98_v1 {R : Type} (q_106 : Tp_106 R) (m_98_v1_9 : Tl_98_v1_9 R) (m_98_v1_5 : Tl_98_v1_5 R) (x : (Unit × Unit × Unit) × (Y5 × (List Int) × (List ByteArray) × Unit)) (κ0 : ((List (List Int)) × (Y5 × (List Int) × (List ByteArray) × Unit)) → Option R) (κ1 : ((List (List Int)) × (Y5 × (List ByteArray) × (List Int) × Unit)) → Option R) : Option R :=
let i1822 := x.2.1.1
let l1825 := x.2.2.1
let l1826 := x.2.2.2.1
bif (i1822 == 0) then (
κ0 ([], (x.2.1, l1825, l1826, ()))) else (
let i1827 : Int := (((List.length l1826) : Nat) : Int)
m_98_v1_5 (((), (), (), i1827, 0, ()), (x.2.1, l1826, l1825, [], ())) (fun y1953 =>
let l1957 := y1953.2.2.1
let l1958 := y1953.2.2.2.1
let l1959 := y1953.2.2.2.2.1
bif decide (List.length l1958 * 1 ≤ 140737488355328) then (
κ1 (l1959, (y1953.2.1, l1957, l1958, ()))) else none))
def p_98_v1 {R : Type} (N : Nat) (x : (Unit × Unit × Unit) × (Y5 × (List Int) × (List ByteArray) × Unit)) (κ0 : ((List (List Int)) × (Y5 × (List Int) × (List ByteArray) × Unit)) → Option R) (κ1 : ((List (List Int)) × (Y5 × (List ByteArray) × (List Int) × Unit)) → Option R) : Option R := Q_98_v1 (p_106 N) (l_98_v1_9 N N) (l_98_v1_5 N N) x κ0 κ1
def EG_98_v1 {R : Type} (q_106 : Tp_106 R) : Env R := (Env.base QQ LN AA).add 106 ap_106 hp_106 (fun (x : aden ap_106 × hden hp_106) k => q_106 x (fun y => k (Pat.inst (.bool) y) (instH hp_106 x.2)))
def LG_98_v1 {R : Type} (m_98_v1_9 : Tl_98_v1_9 R) (m_98_v1_5 : Tl_98_v1_5 R) : Loops R := ((Loops.none).add 9 (loopBy 3 lv_98_v1_9 pt_98_v1_9 (fun x k => m_98_v1_9 x (fun y => k (.exit 2) (px_98_v1_9_0.inst y))))).add 5 (loopBy 3 lv_98_v1_5 pt_98_v1_5 (fun x k => m_98_v1_5 x (fun y => k (.exit 0) (px_98_v1_5_0.inst y))))
def E_98_v1 {R : Type} (N : Nat) : Env R := EG_98_v1 (p_106 N)
theorem eok_98_v1 {R : Type} (N : Nat) : EK Try.prog (E_98_v1 (R := R) N) := ek_add (ek_base _ _ _) (good_106 N)
def L_98_v1 {R : Type} (N : Nat) : Loops R := LG_98_v1 (l_98_v1_9 N N) (l_98_v1_5 N N)
theorem gstep_98_v1_9 {R : Type} (q_106 : Tp_106 R) (m_98_v1_9 : Tl_98_v1_9 R) (m_98_v1_5 : Tl_98_v1_5 R) (n : Nat) (x : pt_98_v1_9.den) (k : Exit → St → Option R) : iter 3 lv_98_v1_9 lo_98_v1_9 (aexec TT (EG_98_v1 q_106) (drawAny TT WW) (LG_98_v1 m_98_v1_9 m_98_v1_5) (loopAt 9 (bodyOf Try.f98))) (n + 1) (pt_98_v1_9.inst x) k = C_98_v1_9 q_106 (fun y => iter 3 lv_98_v1_9 lo_98_v1_9 (aexec TT (EG_98_v1 q_106) (drawAny TT WW) (LG_98_v1 m_98_v1_9 m_98_v1_5) (loopAt 9 (bodyOf Try.f98))) n (pt_98_v1_9.inst y) k) x (fun y => k (.exit 2) (px_98_v1_9_0.inst y)) := by kernel_rfl
theorem step_98_v1_9 {R : Type} (N n : Nat) (x : pt_98_v1_9.den) (k : Exit → St → Option R) : iter 3 lv_98_v1_9 lo_98_v1_9 (aexec TT (E_98_v1 (R := R) N) (drawAny TT WW) (L_98_v1 N) (loopAt 9 (bodyOf Try.f98))) (n + 1) (pt_98_v1_9.inst x) k = B_98_v1_9 N (fun y => iter 3 lv_98_v1_9 lo_98_v1_9 (aexec TT (E_98_v1 (R := R) N) (drawAny TT WW) (L_98_v1 N) (loopAt 9 (bodyOf Try.f98))) n (pt_98_v1_9.inst y) k) x (fun y => k (.exit 2) (px_98_v1_9_0.inst y)) := (gstep_98_v1_9 (p_106 N) (l_98_v1_9 N N) (l_98_v1_5 N N) n x k).trans (by kernel_rfl)
theorem eq_98_v1_9 {R : Type} (N : Nat) : ∀ (n : Nat) (x : pt_98_v1_9.den) (k : Exit → St → Option R), iter 3 lv_98_v1_9 lo_98_v1_9 (aexec TT (E_98_v1 (R := R) N) (drawAny TT WW) (L_98_v1 N) (loopAt 9 (bodyOf Try.f98))) n (pt_98_v1_9.inst x) k = l_98_v1_9 N n x (fun y => k (.exit 2) (px_98_v1_9_0.inst y)) :=
  iter_eq (K := Exit → St → Option R) (ks := fun k => k) (l := fun n (x : pt_98_v1_9.den) k => l_98_v1_9 N n x (fun y => k (.exit 2) (px_98_v1_9_0.inst y))) (B := fun (rec : pt_98_v1_9.den → Option R) (x : pt_98_v1_9.den) k => B_98_v1_9 N rec x (fun y => k (.exit 2) (px_98_v1_9_0.inst y))) (fun _ _ => rfl) (fun _ _ _ => rfl) (fun n x k => step_98_v1_9 N n x k)
theorem rounds_98_v1_9 {R : Type} (N : Nat) : Rounds 3 TT (E_98_v1 (R := R) N) (drawAny TT WW) (L_98_v1 N) 9 (loopAt 9 (bodyOf Try.f98)) :=
  rounds_of (p := pt_98_v1_9) (l := fun (x : pt_98_v1_9.den) k => l_98_v1_9 N N x (fun y => k (.exit 2) (px_98_v1_9_0.inst y))) (fun s k => rfl) (fun x k => eq_98_v1_9 N N x k)
theorem gstep_98_v1_5 {R : Type} (q_106 : Tp_106 R) (m_98_v1_9 : Tl_98_v1_9 R) (m_98_v1_5 : Tl_98_v1_5 R) (n : Nat) (x : pt_98_v1_5.den) (k : Exit → St → Option R) : iter 3 lv_98_v1_5 lo_98_v1_5 (aexec TT (EG_98_v1 q_106) (drawAny TT WW) (LG_98_v1 m_98_v1_9 m_98_v1_5) (loopAt 5 (bodyOf Try.f98))) (n + 1) (pt_98_v1_5.inst x) k = C_98_v1_5 m_98_v1_9 (fun y => iter 3 lv_98_v1_5 lo_98_v1_5 (aexec TT (EG_98_v1 q_106) (drawAny TT WW) (LG_98_v1 m_98_v1_9 m_98_v1_5) (loopAt 5 (bodyOf Try.f98))) n (pt_98_v1_5.inst y) k) x (fun y => k (.exit 0) (px_98_v1_5_0.inst y)) := by kernel_rfl
theorem step_98_v1_5 {R : Type} (N n : Nat) (x : pt_98_v1_5.den) (k : Exit → St → Option R) : iter 3 lv_98_v1_5 lo_98_v1_5 (aexec TT (E_98_v1 (R := R) N) (drawAny TT WW) (L_98_v1 N) (loopAt 5 (bodyOf Try.f98))) (n + 1) (pt_98_v1_5.inst x) k = B_98_v1_5 N (fun y => iter 3 lv_98_v1_5 lo_98_v1_5 (aexec TT (E_98_v1 (R := R) N) (drawAny TT WW) (L_98_v1 N) (loopAt 5 (bodyOf Try.f98))) n (pt_98_v1_5.inst y) k) x (fun y => k (.exit 0) (px_98_v1_5_0.inst y)) := (gstep_98_v1_5 (p_106 N) (l_98_v1_9 N N) (l_98_v1_5 N N) n x k).trans (by kernel_rfl)
theorem eq_98_v1_5 {R : Type} (N : Nat) : ∀ (n : Nat) (x : pt_98_v1_5.den) (k : Exit → St → Option R), iter 3 lv_98_v1_5 lo_98_v1_5 (aexec TT (E_98_v1 (R := R) N) (drawAny TT WW) (L_98_v1 N) (loopAt 5 (bodyOf Try.f98))) n (pt_98_v1_5.inst x) k = l_98_v1_5 N n x (fun y => k (.exit 0) (px_98_v1_5_0.inst y)) :=
  iter_eq (K := Exit → St → Option R) (ks := fun k => k) (l := fun n (x : pt_98_v1_5.den) k => l_98_v1_5 N n x (fun y => k (.exit 0) (px_98_v1_5_0.inst y))) (B := fun (rec : pt_98_v1_5.den → Option R) (x : pt_98_v1_5.den) k => B_98_v1_5 N rec x (fun y => k (.exit 0) (px_98_v1_5_0.inst y))) (fun _ _ => rfl) (fun _ _ _ => rfl) (fun n x k => step_98_v1_5 N n x k)
theorem rounds_98_v1_5 {R : Type} (N : Nat) : Rounds 3 TT (E_98_v1 (R := R) N) (drawAny TT WW) (L_98_v1 N) 5 (loopAt 5 (bodyOf Try.f98)) :=
  rounds_of (p := pt_98_v1_5) (l := fun (x : pt_98_v1_5.den) k => l_98_v1_5 N N x (fun y => k (.exit 0) (px_98_v1_5_0.inst y))) (fun s k => rfl) (fun x k => eq_98_v1_5 N N x k)
theorem loops_98_v1 : loopsIn (bodyOf Try.f98) = [(5, loopAt 5 (bodyOf Try.f98)), (9, loopAt 9 (bodyOf Try.f98))] := by kernel_rfl
theorem lok_98_v1 {R : Type} (N : Nat) : LOK 3 TT (E_98_v1 (R := R) N) (drawAny TT WW) (L_98_v1 N) (bodyOf Try.f98) := loops_all loops_98_v1 (by
  simp only [List.forall_mem_cons, List.not_mem_nil, false_implies, implies_true, and_true]
  exact ⟨rounds_98_v1_5 N, rounds_98_v1_9 N⟩)
theorem grun_98_v1 {R : Type} (q_106 : Tp_106 R) (m_98_v1_9 : Tl_98_v1_9 R) (m_98_v1_5 : Tl_98_v1_5 R) (x : aden ap_98_v1 × hden hp_98_v1) (k : KF R) : fnrun TT (EG_98_v1 q_106) (drawAny TT WW) (LG_98_v1 m_98_v1_9 m_98_v1_5) true Try.f98 (instA ap_98_v1 x.1) (instH hp_98_v1 x.2) k = Q_98_v1 q_106 m_98_v1_9 m_98_v1_5 x (fun y => k (Pat.inst (.ros (.sl (.int .u8))) y.1) (instH J13 y.2)) (fun y => k (Pat.inst (.ros (.sl (.int .u8))) y.1) (instH [some (Z11, 189), none, some (.lst (.str), 9), some (.lst (.int .u8), 5)] y.2)) := by kernel_rfl
theorem run_98_v1 {R : Type} (N : Nat) (x : aden ap_98_v1 × hden hp_98_v1) (k : KF R) : fnrun TT (E_98_v1 (R := R) N) (drawAny TT WW) (L_98_v1 N) true Try.f98 (instA ap_98_v1 x.1) (instH hp_98_v1 x.2) k = p_98_v1 N x (fun y => k (Pat.inst (.ros (.sl (.int .u8))) y.1) (instH J13 y.2)) (fun y => k (Pat.inst (.ros (.sl (.int .u8))) y.1) (instH [some (Z11, 189), none, some (.lst (.str), 9), some (.lst (.int .u8), 5)] y.2)) := (grun_98_v1 (p_106 N) (l_98_v1_9 N N) (l_98_v1_5 N N) x k).trans (by kernel_rfl)
theorem good_98_v1 {R : Type} (N : Nat) : GD (X := R) Try.prog QQ AA 98 ap_98_v1 hp_98_v1 (fun (x : aden ap_98_v1 × hden hp_98_v1) k => p_98_v1 N x (fun y => k (Pat.inst (.ros (.sl (.int .u8))) y.1) (instH J13 y.2)) (fun y => k (Pat.inst (.ros (.sl (.int .u8))) y.1) (instH [some (Z11, 189), none, some (.lst (.str), 9), some (.lst (.int .u8), 5)] y.2))) :=
  gd_loud (E := E_98_v1 N) (p := fun (x : aden ap_98_v1 × hden hp_98_v1) k => p_98_v1 N x (fun y => k (Pat.inst (.ros (.sl (.int .u8))) y.1) (instH J13 y.2)) (fun y => k (Pat.inst (.ros (.sl (.int .u8))) y.1) (instH [some (Z11, 189), none, some (.lst (.str), 9), some (.lst (.int .u8), 5)] y.2))) mixed tyok (eok_98_v1 N) Try.func98 (by kernel_rfl) (by kernel_rfl) (by kernel_rfl) (by kernel_rfl) (lok_98_v1 N) (fun x k => run_98_v1 N x k)

def lv_80_v1_4 : Live := [(0, none), (14, none), (15, none), (16, none)]
def pt_80_v1_4 : SPat := ⟨[(0, .ptr 0 []), (14, .ros (.sl (.int .u8))), (15, .int .i64), (16, .int .i64)], J6⟩
def px_80_v1_4_0 : SPat := ⟨[(0, .ptr 0 [])], J6⟩
def lo_80_v1_4 : Exit → Live
  | .exit 0 => [(0, none)]
  | _ => []
def ap_80_v1 : List Pat := [.ptr 0 [], .sl 3]
def hp_80_v1 : List (Option (Pat × Nat)) := [some (Z5, 178), some (Z10, 189), some (.lst (.int .u8), 5), some (.lst (.str), 9)]
abbrev Tl_80_v1_4 (R : Type) : Type := ((Unit × (List (List Int)) × Int × Int × Unit) × (Y8 × Y5 × (List ByteArray) × (List Int) × Unit)) → (((Unit × Unit) × (Y8 × Y5 × (List ByteArray) × (List Int) × Unit)) → Option R) → Option R
abbrev Tp_80_v1 (R : Type) : Type := (Unit × Unit × Unit) × (Y8 × Y5 × (List Int) × (List ByteArray) × Unit) → ((Unit × (Y8 × Y5 × (List ByteArray) × (List Int) × Unit)) → Option R) → Option R
def C_80_v1_4 {R : Type} (q_99 : Tp_99 R) (rec : ((Unit × (List (List Int)) × Int × Int × Unit) × (Y8 × Y5 × (List ByteArray) × (List Int) × Unit)) → Option R) (x : ((Unit × (List (List Int)) × Int × Int × Unit) × (Y8 × Y5 × (List ByteArray) × (List Int) × Unit))) (κ0 : ((Unit × Unit) × (Y8 × Y5 × (List ByteArray) × (List Int) × Unit)) → Option R) : Option R :=
let l1993 := x.1.2.1
let i1994 := x.1.2.2.1
let i1995 := x.1.2.2.2.1
let a1996 := x.2.1.2.1
let i1997 := x.2.1.2.2.1
let i1998 := x.2.1.2.2.2.1
let l2002 := x.2.2.2.1
let l2003 := x.2.2.2.2.1
bif (decide (i1995 < i1994)) then (
bif decide (0 ≤ i1995) then (
bif decide (i1995 < ((List.length l1993) : Int)) then (
let p2004 : (List Int) := (List.getD l1993 ((Int.toNat i1995)) (Sch.zero (.sl (.int .u8))))
let i2005 : Int := addA .u64 i1998 128
q_99 ((a1996, p2004, i2005, false, ()), ()) (fun y2006 =>
let a2007 := y2006.1
let i2009 : Int := addA .i64 i1995 1
rec (((), l1993, i1994, i2009, ()), (((), (a2007, (i1997, (i2005, ())))), x.2.2.1, l2002, l2003, ())))) else none) else none) else (
κ0 (((), ()), (x.2.1, x.2.2.1, l2002, l2003, ())))
def B_80_v1_4 {R : Type} (N : Nat) (rec : ((Unit × (List (List Int)) × Int × Int × Unit) × (Y8 × Y5 × (List ByteArray) × (List Int) × Unit)) → Option R) (x : ((Unit × (List (List Int)) × Int × Int × Unit) × (Y8 × Y5 × (List ByteArray) × (List Int) × Unit))) (κ0 : ((Unit × Unit) × (Y8 × Y5 × (List ByteArray) × (List Int) × Unit)) → Option R) : Option R := C_80_v1_4 (p_99 N) rec x κ0
def l_80_v1_4 {R : Type} (N : Nat) : Nat → ((Unit × (List (List Int)) × Int × Int × Unit) × (Y8 × Y5 × (List ByteArray) × (List Int) × Unit)) → (((Unit × Unit) × (Y8 × Y5 × (List ByteArray) × (List Int) × Unit)) → Option R) → Option R
  | 0, _, _ => none
  | n + 1, x, κ0 => B_80_v1_4 N (fun y => l_80_v1_4 N n y κ0) x κ0
def Q_80_v1 {R : Type} (q_98_v1 : Tp_98_v1 R) (q_99 : Tp_99 R) (m_80_v1_4 : Tl_80_v1_4 R) (x : (Unit × Unit × Unit) × (Y8 × Y5 × (List Int) × (List ByteArray) × Unit)) (κ0 : (Unit × (Y8 × Y5 × (List ByteArray) × (List Int) × Unit)) → Option R) : Option R :=
let l1820 := x.2.2.2.1
let l1821 := x.2.2.2.2.1
q_98_v1 (((), (), ()), (x.2.2.1, l1820, l1821, ())) (fun y1960 =>
let l1961 := y1960.1
let i1967 : Int := (((List.length l1961) : Nat) : Int)
none) (fun y1985 =>
let l1986 := y1985.1
let l1990 := y1985.2.2.1
let l1991 := y1985.2.2.2.1
let i1992 : Int := (((List.length l1986) : Nat) : Int)
m_80_v1_4 (((), l1986, i1992, 0, ()), (x.2.1, y1985.2.1, l1990, l1991, ())) (fun y2010 =>
let l2017 := y2010.2.2.2.1
let l2018 := y2010.2.2.2.2.1
κ0 ((), (y2010.2.1, y2010.2.2.1, l2017, l2018, ()))))
def p_80_v1 {R : Type} (N : Nat) (x : (Unit × Unit × Unit) × (Y8 × Y5 × (List Int) × (List ByteArray) × Unit)) (κ0 : (Unit × (Y8 × Y5 × (List ByteArray) × (List Int) × Unit)) → Option R) : Option R := Q_80_v1 (p_98_v1 N) (p_99 N) (l_80_v1_4 N N) x κ0
def EG_80_v1 {R : Type} (q_98_v1 : Tp_98_v1 R) (q_99 : Tp_99 R) : Env R := ((Env.base QQ LN AA).add 98 ap_98_v1 hp_98_v1 (fun (x : aden ap_98_v1 × hden hp_98_v1) k => q_98_v1 x (fun y => k (Pat.inst (.ros (.sl (.int .u8))) y.1) (instH J13 y.2)) (fun y => k (Pat.inst (.ros (.sl (.int .u8))) y.1) (instH [some (Z11, 189), none, some (.lst (.str), 9), some (.lst (.int .u8), 5)] y.2)))).add 99 ap_99 hp_99 (fun (x : aden ap_99 × hden hp_99) k => q_99 x (fun y => k (Pat.inst (.tup (.fcons (.vec (.int .u64) 8) (.fcons (.int .i64) (.fnil)))) y) (instH hp_99 x.2)))
def LG_80_v1 {R : Type} (m_80_v1_4 : Tl_80_v1_4 R) : Loops R := (Loops.none).add 4 (loopBy 4 lv_80_v1_4 pt_80_v1_4 (fun x k => m_80_v1_4 x (fun y => k (.exit 0) (px_80_v1_4_0.inst y))))
def E_80_v1 {R : Type} (N : Nat) : Env R := EG_80_v1 (p_98_v1 N) (p_99 N)
theorem eok_80_v1 {R : Type} (N : Nat) : EK Try.prog (E_80_v1 (R := R) N) := ek_add (ek_add (ek_base _ _ _) (good_98_v1 N)) (good_99 N)
def L_80_v1 {R : Type} (N : Nat) : Loops R := LG_80_v1 (l_80_v1_4 N N)
theorem gstep_80_v1_4 {R : Type} (q_98_v1 : Tp_98_v1 R) (q_99 : Tp_99 R) (m_80_v1_4 : Tl_80_v1_4 R) (n : Nat) (x : pt_80_v1_4.den) (k : Exit → St → Option R) : iter 4 lv_80_v1_4 lo_80_v1_4 (aexec TT (EG_80_v1 q_98_v1 q_99) (drawAny TT WW) (LG_80_v1 m_80_v1_4) (loopAt 4 (bodyOf Try.f80))) (n + 1) (pt_80_v1_4.inst x) k = C_80_v1_4 q_99 (fun y => iter 4 lv_80_v1_4 lo_80_v1_4 (aexec TT (EG_80_v1 q_98_v1 q_99) (drawAny TT WW) (LG_80_v1 m_80_v1_4) (loopAt 4 (bodyOf Try.f80))) n (pt_80_v1_4.inst y) k) x (fun y => k (.exit 0) (px_80_v1_4_0.inst y)) := by kernel_rfl
theorem step_80_v1_4 {R : Type} (N n : Nat) (x : pt_80_v1_4.den) (k : Exit → St → Option R) : iter 4 lv_80_v1_4 lo_80_v1_4 (aexec TT (E_80_v1 (R := R) N) (drawAny TT WW) (L_80_v1 N) (loopAt 4 (bodyOf Try.f80))) (n + 1) (pt_80_v1_4.inst x) k = B_80_v1_4 N (fun y => iter 4 lv_80_v1_4 lo_80_v1_4 (aexec TT (E_80_v1 (R := R) N) (drawAny TT WW) (L_80_v1 N) (loopAt 4 (bodyOf Try.f80))) n (pt_80_v1_4.inst y) k) x (fun y => k (.exit 0) (px_80_v1_4_0.inst y)) := (gstep_80_v1_4 (p_98_v1 N) (p_99 N) (l_80_v1_4 N N) n x k).trans (by kernel_rfl)
theorem eq_80_v1_4 {R : Type} (N : Nat) : ∀ (n : Nat) (x : pt_80_v1_4.den) (k : Exit → St → Option R), iter 4 lv_80_v1_4 lo_80_v1_4 (aexec TT (E_80_v1 (R := R) N) (drawAny TT WW) (L_80_v1 N) (loopAt 4 (bodyOf Try.f80))) n (pt_80_v1_4.inst x) k = l_80_v1_4 N n x (fun y => k (.exit 0) (px_80_v1_4_0.inst y)) :=
  iter_eq (K := Exit → St → Option R) (ks := fun k => k) (l := fun n (x : pt_80_v1_4.den) k => l_80_v1_4 N n x (fun y => k (.exit 0) (px_80_v1_4_0.inst y))) (B := fun (rec : pt_80_v1_4.den → Option R) (x : pt_80_v1_4.den) k => B_80_v1_4 N rec x (fun y => k (.exit 0) (px_80_v1_4_0.inst y))) (fun _ _ => rfl) (fun _ _ _ => rfl) (fun n x k => step_80_v1_4 N n x k)
theorem rounds_80_v1_4 {R : Type} (N : Nat) : Rounds 4 TT (E_80_v1 (R := R) N) (drawAny TT WW) (L_80_v1 N) 4 (loopAt 4 (bodyOf Try.f80)) :=
  rounds_of (p := pt_80_v1_4) (l := fun (x : pt_80_v1_4.den) k => l_80_v1_4 N N x (fun y => k (.exit 0) (px_80_v1_4_0.inst y))) (fun s k => rfl) (fun x k => eq_80_v1_4 N N x k)
theorem loops_80_v1 : loopsIn (bodyOf Try.f80) = [(4, loopAt 4 (bodyOf Try.f80))] := by kernel_rfl
theorem lok_80_v1 {R : Type} (N : Nat) : LOK 4 TT (E_80_v1 (R := R) N) (drawAny TT WW) (L_80_v1 N) (bodyOf Try.f80) := loops_all loops_80_v1 (by
  simp only [List.forall_mem_cons, List.not_mem_nil, false_implies, implies_true, and_true]
  exact rounds_80_v1_4 N)
theorem grun_80_v1 {R : Type} (q_98_v1 : Tp_98_v1 R) (q_99 : Tp_99 R) (m_80_v1_4 : Tl_80_v1_4 R) (x : aden ap_80_v1 × hden hp_80_v1) (k : KF R) : fnrun TT (EG_80_v1 q_98_v1 q_99) (drawAny TT WW) (LG_80_v1 m_80_v1_4) true Try.f80 (instA ap_80_v1 x.1) (instH hp_80_v1 x.2) k = Q_80_v1 q_98_v1 q_99 m_80_v1_4 x (fun y => k (Pat.inst (.ptr 0 []) y.1) (instH J6 y.2)) := by kernel_rfl
theorem run_80_v1 {R : Type} (N : Nat) (x : aden ap_80_v1 × hden hp_80_v1) (k : KF R) : fnrun TT (E_80_v1 (R := R) N) (drawAny TT WW) (L_80_v1 N) true Try.f80 (instA ap_80_v1 x.1) (instH hp_80_v1 x.2) k = p_80_v1 N x (fun y => k (Pat.inst (.ptr 0 []) y.1) (instH J6 y.2)) := (grun_80_v1 (p_98_v1 N) (p_99 N) (l_80_v1_4 N N) x k).trans (by kernel_rfl)
theorem good_80_v1 {R : Type} (N : Nat) : GD (X := R) Try.prog QQ AA 80 ap_80_v1 hp_80_v1 (fun (x : aden ap_80_v1 × hden hp_80_v1) k => p_80_v1 N x (fun y => k (Pat.inst (.ptr 0 []) y.1) (instH J6 y.2))) :=
  gd_loud (E := E_80_v1 N) (p := fun (x : aden ap_80_v1 × hden hp_80_v1) k => p_80_v1 N x (fun y => k (Pat.inst (.ptr 0 []) y.1) (instH J6 y.2))) mixed tyok (eok_80_v1 N) Try.func80 (by kernel_rfl) (by kernel_rfl) (by kernel_rfl) (by kernel_rfl) (lok_80_v1 N) (fun x k => run_80_v1 N x k)

def ap_79 : List Pat := [.int .i64, .str]
def hp_79 : List (Option (Pat × Nat)) := []
abbrev Tp_79 (R : Type) : Type := (Int × ByteArray × Unit) × (Unit) → (((Unit × (Int × Unit)) × (Unit)) → Option R) → (((Unit × (Int × Unit)) × (Y8 × Unit)) → Option R) → (((Unit × (Int × Unit)) × (Y8 × Y5 × (List Int) × Unit)) → Option R) → Option R
def Q_79 {R : Type} (q_96 : Tp_96 R) (q_97 : Tp_97 R) (q_80 : Tp_80 R) (q_80_v1 : Tp_80_v1 R) (x : (Int × ByteArray × Unit) × (Unit)) (κ0 : ((Unit × (Int × Unit)) × (Unit)) → Option R) (κ1 : ((Unit × (Int × Unit)) × (Y8 × Unit)) → Option R) (κ2 : ((Unit × (Int × Unit)) × (Y8 × Y5 × (List Int) × Unit)) → Option R) : Option R :=
let i1040 := x.1.1
let s1041 := x.1.2.1
bif (decide (i1040 < 1)) then (
κ0 (((), (1, ())), ())) else (
bif (decide (i1040 > 64)) then (
κ0 (((), (1, ())), ())) else (
let i1042 : Int := ((ByteArray.size s1041 : Nat) : Int)
bif (decide (i1042 > 64)) then (
κ0 (((), (1, ())), ())) else (
q_96 ((128, true, ()), ()) (fun y1045 =>
q_97 ((), ()) (fun y1048 =>
let a1049 : (Nat → Int) := y1048
let i1050 : Int := (a1049 0)
let i1051 : Int := ((ByteArray.size s1041 : Nat) : Int)
let i1052 : Int := IntKind.wrap .u64 i1051
let i1053 : Int := shlA .u64 i1052 8
let i1054 : Int := xorA .u64 16842752 i1053
let i1055 : Int := IntKind.wrap .u64 i1040
let i1056 : Int := xorA .u64 i1054 i1055
let i1057 : Int := xorA .u64 i1050 i1056
bif (!eqS s1041 (⟨#[]⟩)) then (
let i1058 : Int := ((ByteArray.size s1041 : Nat) : Int)
let i1059 : Int := subA .i64 128 i1058
bif decide (0 ≤ i1059) then (
bif decide (i1059 ≤ i1059) then (
bif decide (((1 : Nat) : Int) * i1059 ≤ 281474976710656) then (
bif decide (i1059 ≤ 9223372036854775807) then (
let l1060 : (List Int) := List.replicate ((Int.toNat i1059)) (Sch.zero (.int .u8))
let s1061 : ByteArray := listStr l1060
bif decide (ByteArray.size s1041 + ByteArray.size s1061 ≤ maxI64) then (
let s1062 : ByteArray := (s1041 ++ s1061)
let l1063 : (List ByteArray) := [s1062]
q_80 (((), (), ()), (((), ((upd a1049 0 i1057), (i1040, (0, ())))), l1063, ())) (fun y1787 =>
κ1 (((), (0, ())), (y1787.2.1, ())))) else none) else none) else none) else none) else none) else (
κ1 (((), (0, ())), (((), ((upd a1049 0 i1057), (i1040, (0, ())))), ()))))) (fun y1792 =>
let l1797 := y1792.2.2.1
q_97 ((), ()) (fun y1798 =>
let a1799 : (Nat → Int) := y1798
let i1800 : Int := (a1799 0)
let i1801 : Int := ((ByteArray.size s1041 : Nat) : Int)
let i1802 : Int := IntKind.wrap .u64 i1801
let i1803 : Int := shlA .u64 i1802 8
let i1804 : Int := xorA .u64 16842752 i1803
let i1805 : Int := IntKind.wrap .u64 i1040
let i1806 : Int := xorA .u64 i1804 i1805
let i1807 : Int := xorA .u64 i1800 i1806
bif (!eqS s1041 (⟨#[]⟩)) then (
let i1808 : Int := ((ByteArray.size s1041 : Nat) : Int)
let i1809 : Int := subA .i64 128 i1808
bif decide (0 ≤ i1809) then (
bif decide (i1809 ≤ i1809) then (
bif decide (((1 : Nat) : Int) * i1809 ≤ 281474976710656) then (
bif decide (i1809 ≤ 9223372036854775807) then (
let l1810 : (List Int) := List.replicate ((Int.toNat i1809)) (Sch.zero (.int .u8))
let s1811 : ByteArray := listStr l1810
bif decide (ByteArray.size s1041 + ByteArray.size s1811 ≤ maxI64) then (
let s1812 : ByteArray := (s1041 ++ s1811)
let l1813 : (List ByteArray) := [s1812]
q_80_v1 (((), (), ()), (((), ((upd a1799 0 i1807), (i1040, (0, ())))), y1792.2.1, l1797, l1813, ())) (fun y2019 =>
let l2027 := y2019.2.2.2.2.1
κ2 (((), (0, ())), (y2019.2.1, y2019.2.2.1, l2027, ())))) else none) else none) else none) else none) else none) else (
κ2 (((), (0, ())), (((), ((upd a1799 0 i1807), (i1040, (0, ())))), y1792.2.1, l1797, ()))))))))
def p_79 {R : Type} (N : Nat) (x : (Int × ByteArray × Unit) × (Unit)) (κ0 : ((Unit × (Int × Unit)) × (Unit)) → Option R) (κ1 : ((Unit × (Int × Unit)) × (Y8 × Unit)) → Option R) (κ2 : ((Unit × (Int × Unit)) × (Y8 × Y5 × (List Int) × Unit)) → Option R) : Option R := Q_79 (p_96 N) (p_97 N) (p_80 N) (p_80_v1 N) x κ0 κ1 κ2
def EG_79 {R : Type} (q_96 : Tp_96 R) (q_97 : Tp_97 R) (q_80 : Tp_80 R) (q_80_v1 : Tp_80_v1 R) : Env R := ((((Env.base QQ LN AA).add 96 ap_96 hp_96 (fun (x : aden ap_96 × hden hp_96) k => q_96 x (fun y => k (Pat.inst (.tup (.fcons (.nilp) (.fcons (.int .i64) (.fnil)))) y.1) (instH [] y.2)) (fun y => k (Pat.inst (.tup (.fcons (.ptr 0 []) (.fcons (.int .i64) (.fnil)))) y.1) (instH [some (Z8, 189), some (.lst (.int .u8), 5)] y.2)))).add 97 ap_97 hp_97 (fun (x : aden ap_97 × hden hp_97) k => q_97 x (fun y => k (Pat.inst (.vec (.int .u64) 8) y) (instH hp_97 x.2)))).add 80 ap_80 hp_80 (fun (x : aden ap_80 × hden hp_80) k => q_80 x (fun y => k (Pat.inst (.ptr 0 []) y.1) (instH J11 y.2)))).add 80 ap_80_v1 hp_80_v1 (fun (x : aden ap_80_v1 × hden hp_80_v1) k => q_80_v1 x (fun y => k (Pat.inst (.ptr 0 []) y.1) (instH J6 y.2)))
def LG_79 {R : Type} : Loops R := Loops.none
def E_79 {R : Type} (N : Nat) : Env R := EG_79 (p_96 N) (p_97 N) (p_80 N) (p_80_v1 N)
theorem eok_79 {R : Type} (N : Nat) : EK Try.prog (E_79 (R := R) N) := ek_add (ek_add (ek_add (ek_add (ek_base _ _ _) (good_96 N)) (good_97 N)) (good_80 N)) (good_80_v1 N)
def L_79 {R : Type} (N : Nat) : Loops R := LG_79
theorem lok_79 {R : Type} (N : Nat) : LOK 0 TT (E_79 (R := R) N) (drawAny TT WW) (L_79 N) (bodyOf Try.f79) := loops_nil (by kernel_rfl)
theorem grun_79 {R : Type} (q_96 : Tp_96 R) (q_97 : Tp_97 R) (q_80 : Tp_80 R) (q_80_v1 : Tp_80_v1 R) (x : aden ap_79 × hden hp_79) (k : KF R) : fnrun TT (EG_79 q_96 q_97 q_80 q_80_v1) (drawAny TT WW) (LG_79) true Try.f79 (instA ap_79 x.1) (instH hp_79 x.2) k = Q_79 q_96 q_97 q_80 q_80_v1 x (fun y => k (Pat.inst (.tup (.fcons (.nilp) (.fcons (.int .i64) (.fnil)))) y.1) (instH [] y.2)) (fun y => k (Pat.inst (.tup (.fcons (.ptr 0 []) (.fcons (.int .i64) (.fnil)))) y.1) (instH [some (Z6, 178)] y.2)) (fun y => k (Pat.inst (.tup (.fcons (.ptr 0 []) (.fcons (.int .i64) (.fnil)))) y.1) (instH J5 y.2)) := by kernel_rfl
theorem run_79 {R : Type} (N : Nat) (x : aden ap_79 × hden hp_79) (k : KF R) : fnrun TT (E_79 (R := R) N) (drawAny TT WW) (L_79 N) true Try.f79 (instA ap_79 x.1) (instH hp_79 x.2) k = p_79 N x (fun y => k (Pat.inst (.tup (.fcons (.nilp) (.fcons (.int .i64) (.fnil)))) y.1) (instH [] y.2)) (fun y => k (Pat.inst (.tup (.fcons (.ptr 0 []) (.fcons (.int .i64) (.fnil)))) y.1) (instH [some (Z6, 178)] y.2)) (fun y => k (Pat.inst (.tup (.fcons (.ptr 0 []) (.fcons (.int .i64) (.fnil)))) y.1) (instH J5 y.2)) := (grun_79 (p_96 N) (p_97 N) (p_80 N) (p_80_v1 N) x k).trans (by kernel_rfl)
theorem good_79 {R : Type} (N : Nat) : GD (X := R) Try.prog QQ AA 79 ap_79 hp_79 (fun (x : aden ap_79 × hden hp_79) k => p_79 N x (fun y => k (Pat.inst (.tup (.fcons (.nilp) (.fcons (.int .i64) (.fnil)))) y.1) (instH [] y.2)) (fun y => k (Pat.inst (.tup (.fcons (.ptr 0 []) (.fcons (.int .i64) (.fnil)))) y.1) (instH [some (Z6, 178)] y.2)) (fun y => k (Pat.inst (.tup (.fcons (.ptr 0 []) (.fcons (.int .i64) (.fnil)))) y.1) (instH J5 y.2))) :=
  gd_loud (E := E_79 N) (p := fun (x : aden ap_79 × hden hp_79) k => p_79 N x (fun y => k (Pat.inst (.tup (.fcons (.nilp) (.fcons (.int .i64) (.fnil)))) y.1) (instH [] y.2)) (fun y => k (Pat.inst (.tup (.fcons (.ptr 0 []) (.fcons (.int .i64) (.fnil)))) y.1) (instH [some (Z6, 178)] y.2)) (fun y => k (Pat.inst (.tup (.fcons (.ptr 0 []) (.fcons (.int .i64) (.fnil)))) y.1) (instH J5 y.2))) mixed tyok (eok_79 N) Try.func79 (by kernel_rfl) (by kernel_rfl) (by kernel_rfl) (by kernel_rfl) (lok_79 N) (fun x k => run_79 N x k)

def ap_80_v2 : List Pat := [.nilp, .sl 0]
def hp_80_v2 : List (Option (Pat × Nat)) := [some (.lst (.str), 9)]
abbrev Tp_80_v2 (R : Type) : Type := (Unit × Unit × Unit) × Y23 → ((Unit × Y23) → Option R) → Option R
def Q_80_v2 {R : Type} (x : (Unit × Unit × Unit) × Y23) (κ0 : (Unit × Y23) → Option R) : Option R :=
κ0 ((), x.2)
def p_80_v2 {R : Type} (N : Nat) (x : (Unit × Unit × Unit) × Y23) (κ0 : (Unit × Y23) → Option R) : Option R := Q_80_v2 x κ0
def EG_80_v2 {R : Type} : Env R := Env.base QQ LN AA
def LG_80_v2 {R : Type} : Loops R := Loops.none
def E_80_v2 {R : Type} (N : Nat) : Env R := EG_80_v2
theorem eok_80_v2 {R : Type} (N : Nat) : EK Try.prog (E_80_v2 (R := R) N) := ek_base _ _ _
def L_80_v2 {R : Type} (N : Nat) : Loops R := LG_80_v2
theorem loops_80_v2 : loopsIn (bodyOf Try.f80) = [(4, loopAt 4 (bodyOf Try.f80))] := by kernel_rfl
theorem lok_80_v2 {R : Type} (N : Nat) : LOK 1 TT (E_80_v2 (R := R) N) (drawAny TT WW) (L_80_v2 N) (bodyOf Try.f80) := loops_all loops_80_v2 (by
  simp only [List.forall_mem_cons, List.not_mem_nil, false_implies, implies_true, and_true]
  exact rounds_none (fun _ _ => rfl))
theorem grun_80_v2 {R : Type} (x : aden ap_80_v2 × hden hp_80_v2) (k : KF R) : fnrun TT (EG_80_v2) (drawAny TT WW) (LG_80_v2) true Try.f80 (instA ap_80_v2 x.1) (instH hp_80_v2 x.2) k = Q_80_v2 x (fun y => k (Pat.inst (.nilp) y.1) (instH [some (.lst (.str), 9)] y.2)) := by kernel_rfl
theorem run_80_v2 {R : Type} (N : Nat) (x : aden ap_80_v2 × hden hp_80_v2) (k : KF R) : fnrun TT (E_80_v2 (R := R) N) (drawAny TT WW) (L_80_v2 N) true Try.f80 (instA ap_80_v2 x.1) (instH hp_80_v2 x.2) k = p_80_v2 N x (fun y => k (Pat.inst (.nilp) y.1) (instH [some (.lst (.str), 9)] y.2)) := (grun_80_v2 x k).trans (by kernel_rfl)
theorem good_80_v2 {R : Type} (N : Nat) : GD (X := R) Try.prog QQ AA 80 ap_80_v2 hp_80_v2 (fun (x : aden ap_80_v2 × hden hp_80_v2) k => p_80_v2 N x (fun y => k (Pat.inst (.nilp) y.1) (instH [some (.lst (.str), 9)] y.2))) :=
  gd_loud (E := E_80_v2 N) (p := fun (x : aden ap_80_v2 × hden hp_80_v2) k => p_80_v2 N x (fun y => k (Pat.inst (.nilp) y.1) (instH [some (.lst (.str), 9)] y.2))) mixed tyok (eok_80_v2 N) Try.func80 (by kernel_rfl) (by kernel_rfl) (by kernel_rfl) (by kernel_rfl) (lok_80_v2 N) (fun x k => run_80_v2 N x k)

def ap_81 : List Pat := [.nilp]
def hp_81 : List (Option (Pat × Nat)) := []
abbrev Tp_81 (R : Type) : Type := (Unit × Unit) × (Unit) → ((ByteArray × (Unit)) → Option R) → Option R
def Q_81 {R : Type} (x : (Unit × Unit) × (Unit)) (κ0 : (ByteArray × (Unit)) → Option R) : Option R :=
κ0 (⟨#[]⟩, ())
def p_81 {R : Type} (N : Nat) (x : (Unit × Unit) × (Unit)) (κ0 : (ByteArray × (Unit)) → Option R) : Option R := Q_81 x κ0
def EG_81 {R : Type} : Env R := Env.base QQ LN AA
def LG_81 {R : Type} : Loops R := Loops.none
def E_81 {R : Type} (N : Nat) : Env R := EG_81
theorem eok_81 {R : Type} (N : Nat) : EK Try.prog (E_81 (R := R) N) := ek_base _ _ _
def L_81 {R : Type} (N : Nat) : Loops R := LG_81
theorem lok_81 {R : Type} (N : Nat) : LOK 0 TT (E_81 (R := R) N) (drawAny TT WW) (L_81 N) (bodyOf Try.f81) := loops_nil (by kernel_rfl)
theorem grun_81 {R : Type} (x : aden ap_81 × hden hp_81) (k : KF R) : fnrun TT (EG_81) (drawAny TT WW) (LG_81) true Try.f81 (instA ap_81 x.1) (instH hp_81 x.2) k = Q_81 x (fun y => k (Pat.inst (.str) y.1) (instH [] y.2)) := by kernel_rfl
theorem run_81 {R : Type} (N : Nat) (x : aden ap_81 × hden hp_81) (k : KF R) : fnrun TT (E_81 (R := R) N) (drawAny TT WW) (L_81 N) true Try.f81 (instA ap_81 x.1) (instH hp_81 x.2) k = p_81 N x (fun y => k (Pat.inst (.str) y.1) (instH [] y.2)) := (grun_81 x k).trans (by kernel_rfl)
theorem good_81 {R : Type} (N : Nat) : GD (X := R) Try.prog QQ AA 81 ap_81 hp_81 (fun (x : aden ap_81 × hden hp_81) k => p_81 N x (fun y => k (Pat.inst (.str) y.1) (instH [] y.2))) :=
  gd_loud (E := E_81 N) (p := fun (x : aden ap_81 × hden hp_81) k => p_81 N x (fun y => k (Pat.inst (.str) y.1) (instH [] y.2))) mixed tyok (eok_81 N) Try.func81 (by kernel_rfl) (by kernel_rfl) (by kernel_rfl) (by kernel_rfl) (lok_81 N) (fun x k => run_81 N x k)

def ap_100 : List Pat := [.nilp]
def hp_100 : List (Option (Pat × Nat)) := []
abbrev Tp_100 (R : Type) : Type := (Unit × Unit) × (Unit) → ((Unit × (Unit)) → Option R) → Option R
def Q_100 {R : Type} (x : (Unit × Unit) × (Unit)) (κ0 : (Unit × (Unit)) → Option R) : Option R :=
κ0 ((), ())
def p_100 {R : Type} (N : Nat) (x : (Unit × Unit) × (Unit)) (κ0 : (Unit × (Unit)) → Option R) : Option R := Q_100 x κ0
def EG_100 {R : Type} : Env R := Env.base QQ LN AA
def LG_100 {R : Type} : Loops R := Loops.none
def E_100 {R : Type} (N : Nat) : Env R := EG_100
theorem eok_100 {R : Type} (N : Nat) : EK Try.prog (E_100 (R := R) N) := ek_base _ _ _
def L_100 {R : Type} (N : Nat) : Loops R := LG_100
theorem lok_100 {R : Type} (N : Nat) : LOK 0 TT (E_100 (R := R) N) (drawAny TT WW) (L_100 N) (bodyOf Try.f100) := loops_nil (by kernel_rfl)
theorem grun_100 {R : Type} (x : aden ap_100 × hden hp_100) (k : KF R) : fnrun TT (EG_100) (drawAny TT WW) (LG_100) false Try.f100 (instA ap_100 x.1) (instH hp_100 x.2) k = Q_100 x (fun y => k (Pat.inst (.nils) y.1) (instH [] y.2)) := by kernel_rfl
theorem run_100 {R : Type} (N : Nat) (x : aden ap_100 × hden hp_100) (k : KF R) : fnrun TT (E_100 (R := R) N) (drawAny TT WW) (L_100 N) false Try.f100 (instA ap_100 x.1) (instH hp_100 x.2) k = p_100 N x (fun y => k (Pat.inst (.nils) y.1) (instH [] y.2)) := (grun_100 x k).trans (by kernel_rfl)
theorem good_100 {R : Type} (N : Nat) : GD (X := R) Try.prog QQ AA 100 ap_100 hp_100 (fun (x : aden ap_100 × hden hp_100) k => p_100 N x (fun y => k (Pat.inst (.nils) y.1) (instH [] y.2))) :=
  gd_loud (E := E_100 N) (p := fun (x : aden ap_100 × hden hp_100) k => p_100 N x (fun y => k (Pat.inst (.nils) y.1) (instH [] y.2))) mixed tyok (eok_100 N) Try.func100 (by kernel_rfl) (by kernel_rfl) (by kernel_rfl) (by kernel_rfl) (lok_100 N) (fun x k => run_100 N x k)

def lv_83_6 : Live := [(3, none), (5, none), (11, none), (12, none), (13, none), (17, none)]
def pt_83_6 : SPat := ⟨[(3, .sl 0), (5, .int .u64), (11, .ros (.int .u64)), (12, .int .i64), (13, .int .i64), (17, .int .i64)], J9⟩
def px_83_6_0 : SPat := ⟨[(3, .sl 0), (11, .ros (.int .u64)), (12, .int .i64), (13, .int .i64)], J9⟩
def lo_83_6 : Exit → Live
  | .exit 2 => [(3, none), (11, none), (12, none), (13, none)]
  | _ => []
def lv_83_3 : Live := [(3, none), (11, none), (12, none), (13, none)]
def pt_83_3 : SPat := ⟨[(3, .sl 0), (11, .ros (.int .u64)), (12, .int .i64), (13, .int .i64)], J9⟩
def px_83_3_0 : SPat := ⟨[(3, .sl 0)], J9⟩
def lo_83_3 : Exit → Live
  | .exit 0 => [(3, none)]
  | _ => []
def ap_83 : List Pat := [.ros (.int .u64)]
def hp_83 : List (Option (Pat × Nat)) := []
abbrev Tl_83_6 (R : Type) : Type := ((Unit × Int × (List Int) × Int × Int × Int × Unit) × ((List Int) × Unit)) → (Y16 → Option R) → Option R
abbrev Tl_83_3 (R : Type) : Type := Y16 → (((Unit × Unit) × ((List Int) × Unit)) → Option R) → Option R
abbrev Tp_83 (R : Type) : Type := ((List Int) × Unit) × (Unit) → ((Unit × ((List Int) × Unit)) → Option R) → Option R
def C_83_6 {R : Type} (rec : ((Unit × Int × (List Int) × Int × Int × Int × Unit) × ((List Int) × Unit)) → Option R) (x : ((Unit × Int × (List Int) × Int × Int × Int × Unit) × ((List Int) × Unit))) (κ0 : Y16 → Option R) : Option R :=
let i2093 := x.1.2.1
let l2094 := x.1.2.2.1
let i2095 := x.1.2.2.2.1
let i2096 := x.1.2.2.2.2.1
let i2097 := x.1.2.2.2.2.2.1
let l2098 := x.2.1
bif (decide (i2097 < 8)) then (
let i2099 : Int := mulA .i64 8 i2097
bif decide (i2099 < 0) then none else (
let i2100 : Int := shrA .u64 i2093 i2099
let i2101 : Int := IntKind.wrap .u8 i2100
let l2102 : (List Int) := [i2101]
bif (decide ((List.length l2098 + List.length l2102) * 1 ≤ 140737488355328) && true) then (
let l2103 : (List Int) := (l2098 ++ l2102)
let i2104 : Int := addA .i64 i2097 1
rec (((), i2093, l2094, i2095, i2096, i2104, ()), (l2103, ()))) else none)) else (
κ0 (((), l2094, i2095, i2096, ()), x.2))
def C_83_3 {R : Type} (m_83_6 : Tl_83_6 R) (rec : Y16 → Option R) (x : Y16) (κ0 : ((Unit × Unit) × ((List Int) × Unit)) → Option R) : Option R :=
let l2088 := x.1.2.1
let i2089 := x.1.2.2.1
let i2090 := x.1.2.2.2.1
bif (decide (i2090 < i2089)) then (
bif decide (0 ≤ i2090) then (
bif decide (i2090 < ((List.length l2088) : Int)) then (
let p2092 : Int := (List.getD l2088 ((Int.toNat i2090)) (Sch.zero (.int .u64)))
m_83_6 (((), p2092, l2088, i2089, i2090, 0, ()), x.2) (fun y2105 =>
let l2106 := y2105.1.2.1
let i2107 := y2105.1.2.2.1
let i2108 := y2105.1.2.2.2.1
let i2110 : Int := addA .i64 i2108 1
rec (((), l2106, i2107, i2110, ()), y2105.2))) else none) else none) else (
κ0 (((), ()), x.2))
def B_83_6 {R : Type} (N : Nat) (rec : ((Unit × Int × (List Int) × Int × Int × Int × Unit) × ((List Int) × Unit)) → Option R) (x : ((Unit × Int × (List Int) × Int × Int × Int × Unit) × ((List Int) × Unit))) (κ0 : Y16 → Option R) : Option R := C_83_6 rec x κ0
def l_83_6 {R : Type} (N : Nat) : Nat → ((Unit × Int × (List Int) × Int × Int × Int × Unit) × ((List Int) × Unit)) → (Y16 → Option R) → Option R
  | 0, _, _ => none
  | n + 1, x, κ0 => B_83_6 N (fun y => l_83_6 N n y κ0) x κ0
def B_83_3 {R : Type} (N : Nat) (rec : Y16 → Option R) (x : Y16) (κ0 : ((Unit × Unit) × ((List Int) × Unit)) → Option R) : Option R := C_83_3 (l_83_6 N N) rec x κ0
def l_83_3 {R : Type} (N : Nat) : Nat → Y16 → (((Unit × Unit) × ((List Int) × Unit)) → Option R) → Option R
  | 0, _, _ => none
  | n + 1, x, κ0 => B_83_3 N (fun y => l_83_3 N n y κ0) x κ0
def Q_83 {R : Type} (m_83_6 : Tl_83_6 R) (m_83_3 : Tl_83_3 R) (x : ((List Int) × Unit) × (Unit)) (κ0 : (Unit × ((List Int) × Unit)) → Option R) : Option R :=
let l2083 := x.1.1
let i2084 : Int := (((List.length l2083) : Nat) : Int)
let i2085 : Int := mulA .i64 8 i2084
bif decide (0 ≤ i2085) then (
bif decide (((1 : Nat) : Int) * i2085 ≤ 281474976710656) then (
bif decide (i2085 ≤ 9223372036854775807) then (
let l2086 : (List Int) := List.replicate 0 (Sch.zero (.int .u8))
let i2087 : Int := (((List.length l2083) : Nat) : Int)
m_83_3 (((), l2083, i2087, 0, ()), (l2086, ())) (fun y2111 =>
κ0 ((), y2111.2))) else none) else none) else none
def p_83 {R : Type} (N : Nat) (x : ((List Int) × Unit) × (Unit)) (κ0 : (Unit × ((List Int) × Unit)) → Option R) : Option R := Q_83 (l_83_6 N N) (l_83_3 N N) x κ0
def EG_83 {R : Type} : Env R := Env.base QQ LN AA
def LG_83 {R : Type} (m_83_6 : Tl_83_6 R) (m_83_3 : Tl_83_3 R) : Loops R := ((Loops.none).add 6 (loopBy 0 lv_83_6 pt_83_6 (fun x k => m_83_6 x (fun y => k (.exit 2) (px_83_6_0.inst y))))).add 3 (loopBy 0 lv_83_3 pt_83_3 (fun x k => m_83_3 x (fun y => k (.exit 0) (px_83_3_0.inst y))))
def E_83 {R : Type} (N : Nat) : Env R := EG_83
theorem eok_83 {R : Type} (N : Nat) : EK Try.prog (E_83 (R := R) N) := ek_base _ _ _
def L_83 {R : Type} (N : Nat) : Loops R := LG_83 (l_83_6 N N) (l_83_3 N N)
theorem gstep_83_6 {R : Type} (m_83_6 : Tl_83_6 R) (m_83_3 : Tl_83_3 R) (n : Nat) (x : pt_83_6.den) (k : Exit → St → Option R) : iter 0 lv_83_6 lo_83_6 (aexec TT (EG_83) (drawAny TT WW) (LG_83 m_83_6 m_83_3) (loopAt 6 (bodyOf Try.f83))) (n + 1) (pt_83_6.inst x) k = C_83_6 (fun y => iter 0 lv_83_6 lo_83_6 (aexec TT (EG_83) (drawAny TT WW) (LG_83 m_83_6 m_83_3) (loopAt 6 (bodyOf Try.f83))) n (pt_83_6.inst y) k) x (fun y => k (.exit 2) (px_83_6_0.inst y)) := by kernel_rfl
theorem step_83_6 {R : Type} (N n : Nat) (x : pt_83_6.den) (k : Exit → St → Option R) : iter 0 lv_83_6 lo_83_6 (aexec TT (E_83 (R := R) N) (drawAny TT WW) (L_83 N) (loopAt 6 (bodyOf Try.f83))) (n + 1) (pt_83_6.inst x) k = B_83_6 N (fun y => iter 0 lv_83_6 lo_83_6 (aexec TT (E_83 (R := R) N) (drawAny TT WW) (L_83 N) (loopAt 6 (bodyOf Try.f83))) n (pt_83_6.inst y) k) x (fun y => k (.exit 2) (px_83_6_0.inst y)) := (gstep_83_6 (l_83_6 N N) (l_83_3 N N) n x k).trans (by kernel_rfl)
theorem eq_83_6 {R : Type} (N : Nat) : ∀ (n : Nat) (x : pt_83_6.den) (k : Exit → St → Option R), iter 0 lv_83_6 lo_83_6 (aexec TT (E_83 (R := R) N) (drawAny TT WW) (L_83 N) (loopAt 6 (bodyOf Try.f83))) n (pt_83_6.inst x) k = l_83_6 N n x (fun y => k (.exit 2) (px_83_6_0.inst y)) :=
  iter_eq (K := Exit → St → Option R) (ks := fun k => k) (l := fun n (x : pt_83_6.den) k => l_83_6 N n x (fun y => k (.exit 2) (px_83_6_0.inst y))) (B := fun (rec : pt_83_6.den → Option R) (x : pt_83_6.den) k => B_83_6 N rec x (fun y => k (.exit 2) (px_83_6_0.inst y))) (fun _ _ => rfl) (fun _ _ _ => rfl) (fun n x k => step_83_6 N n x k)
theorem rounds_83_6 {R : Type} (N : Nat) : Rounds 0 TT (E_83 (R := R) N) (drawAny TT WW) (L_83 N) 6 (loopAt 6 (bodyOf Try.f83)) :=
  rounds_of (p := pt_83_6) (l := fun (x : pt_83_6.den) k => l_83_6 N N x (fun y => k (.exit 2) (px_83_6_0.inst y))) (fun s k => rfl) (fun x k => eq_83_6 N N x k)
theorem gstep_83_3 {R : Type} (m_83_6 : Tl_83_6 R) (m_83_3 : Tl_83_3 R) (n : Nat) (x : pt_83_3.den) (k : Exit → St → Option R) : iter 0 lv_83_3 lo_83_3 (aexec TT (EG_83) (drawAny TT WW) (LG_83 m_83_6 m_83_3) (loopAt 3 (bodyOf Try.f83))) (n + 1) (pt_83_3.inst x) k = C_83_3 m_83_6 (fun y => iter 0 lv_83_3 lo_83_3 (aexec TT (EG_83) (drawAny TT WW) (LG_83 m_83_6 m_83_3) (loopAt 3 (bodyOf Try.f83))) n (pt_83_3.inst y) k) x (fun y => k (.exit 0) (px_83_3_0.inst y)) := by kernel_rfl
theorem step_83_3 {R : Type} (N n : Nat) (x : pt_83_3.den) (k : Exit → St → Option R) : iter 0 lv_83_3 lo_83_3 (aexec TT (E_83 (R := R) N) (drawAny TT WW) (L_83 N) (loopAt 3 (bodyOf Try.f83))) (n + 1) (pt_83_3.inst x) k = B_83_3 N (fun y => iter 0 lv_83_3 lo_83_3 (aexec TT (E_83 (R := R) N) (drawAny TT WW) (L_83 N) (loopAt 3 (bodyOf Try.f83))) n (pt_83_3.inst y) k) x (fun y => k (.exit 0) (px_83_3_0.inst y)) := (gstep_83_3 (l_83_6 N N) (l_83_3 N N) n x k).trans (by kernel_rfl)
theorem eq_83_3 {R : Type} (N : Nat) : ∀ (n : Nat) (x : pt_83_3.den) (k : Exit → St → Option R), iter 0 lv_83_3 lo_83_3 (aexec TT (E_83 (R := R) N) (drawAny TT WW) (L_83 N) (loopAt 3 (bodyOf Try.f83))) n (pt_83_3.inst x) k = l_83_3 N n x (fun y => k (.exit 0) (px_83_3_0.inst y)) :=
  iter_eq (K := Exit → St → Option R) (ks := fun k => k) (l := fun n (x : pt_83_3.den) k => l_83_3 N n x (fun y => k (.exit 0) (px_83_3_0.inst y))) (B := fun (rec : pt_83_3.den → Option R) (x : pt_83_3.den) k => B_83_3 N rec x (fun y => k (.exit 0) (px_83_3_0.inst y))) (fun _ _ => rfl) (fun _ _ _ => rfl) (fun n x k => step_83_3 N n x k)
theorem rounds_83_3 {R : Type} (N : Nat) : Rounds 0 TT (E_83 (R := R) N) (drawAny TT WW) (L_83 N) 3 (loopAt 3 (bodyOf Try.f83)) :=
  rounds_of (p := pt_83_3) (l := fun (x : pt_83_3.den) k => l_83_3 N N x (fun y => k (.exit 0) (px_83_3_0.inst y))) (fun s k => rfl) (fun x k => eq_83_3 N N x k)
theorem loops_83 : loopsIn (bodyOf Try.f83) = [(3, loopAt 3 (bodyOf Try.f83)), (6, loopAt 6 (bodyOf Try.f83))] := by kernel_rfl
theorem lok_83 {R : Type} (N : Nat) : LOK 0 TT (E_83 (R := R) N) (drawAny TT WW) (L_83 N) (bodyOf Try.f83) := loops_all loops_83 (by
  simp only [List.forall_mem_cons, List.not_mem_nil, false_implies, implies_true, and_true]
  exact ⟨rounds_83_3 N, rounds_83_6 N⟩)
theorem grun_83 {R : Type} (m_83_6 : Tl_83_6 R) (m_83_3 : Tl_83_3 R) (x : aden ap_83 × hden hp_83) (k : KF R) : fnrun TT (EG_83) (drawAny TT WW) (LG_83 m_83_6 m_83_3) false Try.f83 (instA ap_83 x.1) (instH hp_83 x.2) k = Q_83 m_83_6 m_83_3 x (fun y => k (Pat.inst (.sl 0) y.1) (instH J9 y.2)) := by kernel_rfl
theorem run_83 {R : Type} (N : Nat) (x : aden ap_83 × hden hp_83) (k : KF R) : fnrun TT (E_83 (R := R) N) (drawAny TT WW) (L_83 N) false Try.f83 (instA ap_83 x.1) (instH hp_83 x.2) k = p_83 N x (fun y => k (Pat.inst (.sl 0) y.1) (instH J9 y.2)) := (grun_83 (l_83_6 N N) (l_83_3 N N) x k).trans (by kernel_rfl)
theorem good_83 {R : Type} (N : Nat) : GD (X := R) Try.prog QQ AA 83 ap_83 hp_83 (fun (x : aden ap_83 × hden hp_83) k => p_83 N x (fun y => k (Pat.inst (.sl 0) y.1) (instH J9 y.2))) :=
  gd_loud (E := E_83 N) (p := fun (x : aden ap_83 × hden hp_83) k => p_83 N x (fun y => k (Pat.inst (.sl 0) y.1) (instH J9 y.2))) mixed tyok (eok_83 N) Try.func83 (by kernel_rfl) (by kernel_rfl) (by kernel_rfl) (by kernel_rfl) (lok_83 N) (fun x k => run_83 N x k)

def ap_81_v1 : List Pat := [.ptr 0 []]
def hp_81_v1 : List (Option (Pat × Nat)) := [some (Z6, 178)]
abbrev Tp_81_v1 (R : Type) : Type := (Unit × Unit) × (Y8 × Unit) → ((ByteArray × (Y8 × Unit)) → Option R) → Option R
def Q_81_v1 {R : Type} (q_100 : Tp_100 R) (q_99 : Tp_99 R) (q_83 : Tp_83 R) (x : (Unit × Unit) × (Y8 × Unit)) (κ0 : (ByteArray × (Y8 × Unit)) → Option R) : Option R :=
let a2072 := x.2.1.2.1
let i2073 := x.2.1.2.2.1
let i2074 := x.2.1.2.2.2.1
q_100 (((), ()), ()) (fun y2075 =>
let i2076 : Int := IntKind.wrap .u64 0
let i2077 : Int := addA .u64 i2074 i2076
let i2078 : Int := subA .i64 128 0
bif decide (0 ≤ i2078) then (
bif decide (i2078 ≤ 140737488355328) then (
bif decide (List.length (List.replicate ((Int.toNat i2078)) (Sch.zero (.int .u8))) * 1 ≤ 140737488355328) then (
let l2079 : (List Int) := List.replicate ((Int.toNat i2078)) (Sch.zero (.int .u8))
q_99 ((a2072, l2079, i2077, true, ()), ()) (fun y2080 =>
let a2081 := y2080.1
q_83 ((((List.range 8).map fun j => a2081 (0 + j)), ()), ()) (fun y2113 =>
let l2114 := y2113.2.1
bif decide (0 ≤ i2073) then (
bif decide (i2073 ≤ (((List.length l2114) : Nat) : Int)) then (
bif decide (0 ≤ i2073) then (
let l2115 : (List Int) := List.take ((Int.toNat i2073) - 0) (List.drop 0 l2114)
let s2116 : ByteArray := listStr l2115
κ0 (s2116, x.2)) else none) else none) else none))) else none) else none) else none)
def p_81_v1 {R : Type} (N : Nat) (x : (Unit × Unit) × (Y8 × Unit)) (κ0 : (ByteArray × (Y8 × Unit)) → Option R) : Option R := Q_81_v1 (p_100 N) (p_99 N) (p_83 N) x κ0
def EG_81_v1 {R : Type} (q_100 : Tp_100 R) (q_99 : Tp_99 R) (q_83 : Tp_83 R) : Env R := (((Env.base QQ LN AA).add 100 ap_100 hp_100 (fun (x : aden ap_100 × hden hp_100) k => q_100 x (fun y => k (Pat.inst (.nils) y.1) (instH [] y.2)))).add 99 ap_99 hp_99 (fun (x : aden ap_99 × hden hp_99) k => q_99 x (fun y => k (Pat.inst (.tup (.fcons (.vec (.int .u64) 8) (.fcons (.int .i64) (.fnil)))) y) (instH hp_99 x.2)))).add 83 ap_83 hp_83 (fun (x : aden ap_83 × hden hp_83) k => q_83 x (fun y => k (Pat.inst (.sl 0) y.1) (instH J9 y.2)))
def LG_81_v1 {R : Type} : Loops R := Loops.none
def E_81_v1 {R : Type} (N : Nat) : Env R := EG_81_v1 (p_100 N) (p_99 N) (p_83 N)
theorem eok_81_v1 {R : Type} (N : Nat) : EK Try.prog (E_81_v1 (R := R) N) := ek_add (ek_add (ek_add (ek_base _ _ _) (good_100 N)) (good_99 N)) (good_83 N)
def L_81_v1 {R : Type} (N : Nat) : Loops R := LG_81_v1
theorem lok_81_v1 {R : Type} (N : Nat) : LOK 1 TT (E_81_v1 (R := R) N) (drawAny TT WW) (L_81_v1 N) (bodyOf Try.f81) := loops_nil (by kernel_rfl)
theorem grun_81_v1 {R : Type} (q_100 : Tp_100 R) (q_99 : Tp_99 R) (q_83 : Tp_83 R) (x : aden ap_81_v1 × hden hp_81_v1) (k : KF R) : fnrun TT (EG_81_v1 q_100 q_99 q_83) (drawAny TT WW) (LG_81_v1) true Try.f81 (instA ap_81_v1 x.1) (instH hp_81_v1 x.2) k = Q_81_v1 q_100 q_99 q_83 x (fun y => k (Pat.inst (.str) y.1) (instH [some (Z6, 178)] y.2)) := by kernel_rfl
theorem run_81_v1 {R : Type} (N : Nat) (x : aden ap_81_v1 × hden hp_81_v1) (k : KF R) : fnrun TT (E_81_v1 (R := R) N) (drawAny TT WW) (L_81_v1 N) true Try.f81 (instA ap_81_v1 x.1) (instH hp_81_v1 x.2) k = p_81_v1 N x (fun y => k (Pat.inst (.str) y.1) (instH [some (Z6, 178)] y.2)) := (grun_81_v1 (p_100 N) (p_99 N) (p_83 N) x k).trans (by kernel_rfl)
theorem good_81_v1 {R : Type} (N : Nat) : GD (X := R) Try.prog QQ AA 81 ap_81_v1 hp_81_v1 (fun (x : aden ap_81_v1 × hden hp_81_v1) k => p_81_v1 N x (fun y => k (Pat.inst (.str) y.1) (instH [some (Z6, 178)] y.2))) :=
  gd_loud (E := E_81_v1 N) (p := fun (x : aden ap_81_v1 × hden hp_81_v1) k => p_81_v1 N x (fun y => k (Pat.inst (.str) y.1) (instH [some (Z6, 178)] y.2))) mixed tyok (eok_81_v1 N) Try.func81 (by kernel_rfl) (by kernel_rfl) (by kernel_rfl) (by kernel_rfl) (lok_81_v1 N) (fun x k => run_81_v1 N x k)

def ap_100_v1 : List Pat := [.ptr 0 []]
def hp_100_v1 : List (Option (Pat × Nat)) := [some (Z8, 189), some (.lst (.int .u8), 5)]
abbrev Tp_100_v1 (R : Type) : Type := (Unit × Unit) × (Y5 × (List Int) × Unit) → ((Unit × (Y5 × (List Int) × (List Int) × Unit)) → Option R) → Option R
def Q_100_v1 {R : Type} (x : (Unit × Unit) × (Y5 × (List Int) × Unit)) (κ0 : (Unit × (Y5 × (List Int) × (List Int) × Unit)) → Option R) : Option R :=
let l2150 := x.2.2.1
bif decide (List.length l2150 * 1 ≤ 140737488355328) then (
κ0 ((), (x.2.1, l2150, l2150, ()))) else none
def p_100_v1 {R : Type} (N : Nat) (x : (Unit × Unit) × (Y5 × (List Int) × Unit)) (κ0 : (Unit × (Y5 × (List Int) × (List Int) × Unit)) → Option R) : Option R := Q_100_v1 x κ0
def EG_100_v1 {R : Type} : Env R := Env.base QQ LN AA
def LG_100_v1 {R : Type} : Loops R := Loops.none
def E_100_v1 {R : Type} (N : Nat) : Env R := EG_100_v1
theorem eok_100_v1 {R : Type} (N : Nat) : EK Try.prog (E_100_v1 (R := R) N) := ek_base _ _ _
def L_100_v1 {R : Type} (N : Nat) : Loops R := LG_100_v1
theorem lok_100_v1 {R : Type} (N : Nat) : LOK 2 TT (E_100_v1 (R := R) N) (drawAny TT WW) (L_100_v1 N) (bodyOf Try.f100) := loops_nil (by kernel_rfl)
theorem grun_100_v1 {R : Type} (x : aden ap_100_v1 × hden hp_100_v1) (k : KF R) : fnrun TT (EG_100_v1) (drawAny TT WW) (LG_100_v1) false Try.f100 (instA ap_100_v1 x.1) (instH hp_100_v1 x.2) k = Q_100_v1 x (fun y => k (Pat.inst (.sl 2) y.1) (instH [some (Z8, 189), some (.lst (.int .u8), 5), some (.lst (.int .u8), 5)] y.2)) := by kernel_rfl
theorem run_100_v1 {R : Type} (N : Nat) (x : aden ap_100_v1 × hden hp_100_v1) (k : KF R) : fnrun TT (E_100_v1 (R := R) N) (drawAny TT WW) (L_100_v1 N) false Try.f100 (instA ap_100_v1 x.1) (instH hp_100_v1 x.2) k = p_100_v1 N x (fun y => k (Pat.inst (.sl 2) y.1) (instH [some (Z8, 189), some (.lst (.int .u8), 5), some (.lst (.int .u8), 5)] y.2)) := (grun_100_v1 x k).trans (by kernel_rfl)
theorem good_100_v1 {R : Type} (N : Nat) : GD (X := R) Try.prog QQ AA 100 ap_100_v1 hp_100_v1 (fun (x : aden ap_100_v1 × hden hp_100_v1) k => p_100_v1 N x (fun y => k (Pat.inst (.sl 2) y.1) (instH [some (Z8, 189), some (.lst (.int .u8), 5), some (.lst (.int .u8), 5)] y.2))) :=
  gd_loud (E := E_100_v1 N) (p := fun (x : aden ap_100_v1 × hden hp_100_v1) k => p_100_v1 N x (fun y => k (Pat.inst (.sl 2) y.1) (instH [some (Z8, 189), some (.lst (.int .u8), 5), some (.lst (.int .u8), 5)] y.2))) mixed tyok (eok_100_v1 N) Try.func100 (by kernel_rfl) (by kernel_rfl) (by kernel_rfl) (by kernel_rfl) (lok_100_v1 N) (fun x k => run_100_v1 N x k)

def ap_81_v2 : List Pat := [.ptr 0 []]
def hp_81_v2 : List (Option (Pat × Nat)) := J5
abbrev Tp_81_v2 (R : Type) : Type := (Unit × Unit) × (Y8 × Y5 × (List Int) × Unit) → ((ByteArray × (Y8 × Y5 × (List Int) × Unit)) → Option R) → Option R
def Q_81_v2 {R : Type} (q_100_v1 : Tp_100_v1 R) (q_99 : Tp_99 R) (q_83 : Tp_83 R) (x : (Unit × Unit) × (Y8 × Y5 × (List Int) × Unit)) (κ0 : (ByteArray × (Y8 × Y5 × (List Int) × Unit)) → Option R) : Option R :=
let a2140 := x.2.1.2.1
let i2141 := x.2.1.2.2.1
let i2142 := x.2.1.2.2.2.1
let l2146 := x.2.2.2.1
q_100_v1 (((), ()), (x.2.2.1, l2146, ())) (fun y2151 =>
let l2155 := y2151.2.2.1
let l2156 := y2151.2.2.2.1
let i2157 : Int := (((List.length l2156) : Nat) : Int)
let i2158 : Int := IntKind.wrap .u64 i2157
let i2159 : Int := addA .u64 i2142 i2158
let i2160 : Int := (((List.length l2156) : Nat) : Int)
let i2161 : Int := subA .i64 128 i2160
bif decide (0 ≤ i2161) then (
bif decide (i2161 ≤ 140737488355328) then (
bif (decide ((List.length l2156 + List.length (List.replicate ((Int.toNat i2161)) (Sch.zero (.int .u8)))) * 1 ≤ 140737488355328) && true) then (
let l2162 : (List Int) := (l2156 ++ List.replicate ((Int.toNat i2161)) (Sch.zero (.int .u8)))
q_99 ((a2140, l2162, i2159, true, ()), ()) (fun y2163 =>
let a2164 := y2163.1
q_83 ((((List.range 8).map fun j => a2164 (0 + j)), ()), ()) (fun y2166 =>
let l2167 := y2166.2.1
bif decide (0 ≤ i2141) then (
bif decide (i2141 ≤ (((List.length l2167) : Nat) : Int)) then (
bif decide (0 ≤ i2141) then (
let l2168 : (List Int) := List.take ((Int.toNat i2141) - 0) (List.drop 0 l2167)
let s2169 : ByteArray := listStr l2168
κ0 (s2169, (x.2.1, y2151.2.1, l2155, ()))) else none) else none) else none))) else none) else none) else none)
def p_81_v2 {R : Type} (N : Nat) (x : (Unit × Unit) × (Y8 × Y5 × (List Int) × Unit)) (κ0 : (ByteArray × (Y8 × Y5 × (List Int) × Unit)) → Option R) : Option R := Q_81_v2 (p_100_v1 N) (p_99 N) (p_83 N) x κ0
def EG_81_v2 {R : Type} (q_100_v1 : Tp_100_v1 R) (q_99 : Tp_99 R) (q_83 : Tp_83 R) : Env R := (((Env.base QQ LN AA).add 100 ap_100_v1 hp_100_v1 (fun (x : aden ap_100_v1 × hden hp_100_v1) k => q_100_v1 x (fun y => k (Pat.inst (.sl 2) y.1) (instH [some (Z8, 189), some (.lst (.int .u8), 5), some (.lst (.int .u8), 5)] y.2)))).add 99 ap_99 hp_99 (fun (x : aden ap_99 × hden hp_99) k => q_99 x (fun y => k (Pat.inst (.tup (.fcons (.vec (.int .u64) 8) (.fcons (.int .i64) (.fnil)))) y) (instH hp_99 x.2)))).add 83 ap_83 hp_83 (fun (x : aden ap_83 × hden hp_83) k => q_83 x (fun y => k (Pat.inst (.sl 0) y.1) (instH J9 y.2)))
def LG_81_v2 {R : Type} : Loops R := Loops.none
def E_81_v2 {R : Type} (N : Nat) : Env R := EG_81_v2 (p_100_v1 N) (p_99 N) (p_83 N)
theorem eok_81_v2 {R : Type} (N : Nat) : EK Try.prog (E_81_v2 (R := R) N) := ek_add (ek_add (ek_add (ek_base _ _ _) (good_100_v1 N)) (good_99 N)) (good_83 N)
def L_81_v2 {R : Type} (N : Nat) : Loops R := LG_81_v2
theorem lok_81_v2 {R : Type} (N : Nat) : LOK 3 TT (E_81_v2 (R := R) N) (drawAny TT WW) (L_81_v2 N) (bodyOf Try.f81) := loops_nil (by kernel_rfl)
theorem grun_81_v2 {R : Type} (q_100_v1 : Tp_100_v1 R) (q_99 : Tp_99 R) (q_83 : Tp_83 R) (x : aden ap_81_v2 × hden hp_81_v2) (k : KF R) : fnrun TT (EG_81_v2 q_100_v1 q_99 q_83) (drawAny TT WW) (LG_81_v2) true Try.f81 (instA ap_81_v2 x.1) (instH hp_81_v2 x.2) k = Q_81_v2 q_100_v1 q_99 q_83 x (fun y => k (Pat.inst (.str) y.1) (instH J5 y.2)) := by kernel_rfl
theorem run_81_v2 {R : Type} (N : Nat) (x : aden ap_81_v2 × hden hp_81_v2) (k : KF R) : fnrun TT (E_81_v2 (R := R) N) (drawAny TT WW) (L_81_v2 N) true Try.f81 (instA ap_81_v2 x.1) (instH hp_81_v2 x.2) k = p_81_v2 N x (fun y => k (Pat.inst (.str) y.1) (instH J5 y.2)) := (grun_81_v2 (p_100_v1 N) (p_99 N) (p_83 N) x k).trans (by kernel_rfl)
theorem good_81_v2 {R : Type} (N : Nat) : GD (X := R) Try.prog QQ AA 81 ap_81_v2 hp_81_v2 (fun (x : aden ap_81_v2 × hden hp_81_v2) k => p_81_v2 N x (fun y => k (Pat.inst (.str) y.1) (instH J5 y.2))) :=
  gd_loud (E := E_81_v2 N) (p := fun (x : aden ap_81_v2 × hden hp_81_v2) k => p_81_v2 N x (fun y => k (Pat.inst (.str) y.1) (instH J5 y.2))) mixed tyok (eok_81_v2 N) Try.func81 (by kernel_rfl) (by kernel_rfl) (by kernel_rfl) (by kernel_rfl) (lok_81_v2 N) (fun x k => run_81_v2 N x k)

def ap_82 : List Pat := [.int .i64, .str, .sl 0]
def hp_82 : List (Option (Pat × Nat)) := [some (.lst (.str), 9)]
abbrev Tp_82 (R : Type) : Type := (Int × ByteArray × Unit × Unit) × Y23 → (((ByteArray × (Int × Unit)) × Y23) → Option R) → Option R
def Q_82 {R : Type} (q_79 : Tp_79 R) (q_80_v2 : Tp_80_v2 R) (q_81 : Tp_81 R) (q_80 : Tp_80 R) (q_81_v1 : Tp_81_v1 R) (q_80_v1 : Tp_80_v1 R) (q_81_v2 : Tp_81_v2 R) (x : (Int × ByteArray × Unit × Unit) × Y23) (κ0 : ((ByteArray × (Int × Unit)) × Y23) → Option R) : Option R :=
let i2053 := x.1.1
let s2054 := x.1.2.1
let l2055 := x.2.1
q_79 ((i2053, s2054, ()), ()) (fun y2056 =>
let i2057 := y2056.1.2.1
bif (i2057 != 0) then (
κ0 ((⟨#[]⟩, y2056.1.2), x.2)) else (
q_80_v2 (((), (), ()), x.2) (fun y2058 =>
q_81 (((), ()), ()) (fun y2060 =>
let s2061 := y2060.1
κ0 ((s2061, (0, ())), y2058.2))))) (fun y2062 =>
let i2063 := y2062.1.2.1
bif (i2063 != 0) then (
κ0 ((⟨#[]⟩, y2062.1.2), x.2)) else (
q_80 (((), (), ()), (y2062.2.1, l2055, ())) (fun y2067 =>
q_81_v1 (((), ()), (y2067.2.1, ())) (fun y2117 =>
let s2118 := y2117.1
κ0 ((s2118, (0, ())), y2067.2.2))))) (fun y2122 =>
let i2123 := y2122.1.2.1
let l2130 := y2122.2.2.2.1
bif (i2123 != 0) then (
κ0 ((⟨#[]⟩, y2122.1.2), x.2)) else (
q_80_v1 (((), (), ()), (y2122.2.1, y2122.2.2.1, l2130, l2055, ())) (fun y2131 =>
let l2138 := y2131.2.2.2.1
let l2139 := y2131.2.2.2.2.1
q_81_v2 (((), ()), (y2131.2.1, y2131.2.2.1, l2139, ())) (fun y2170 =>
let s2171 := y2170.1
κ0 ((s2171, (0, ())), (l2138, ()))))))
def p_82 {R : Type} (N : Nat) (x : (Int × ByteArray × Unit × Unit) × Y23) (κ0 : ((ByteArray × (Int × Unit)) × Y23) → Option R) : Option R := Q_82 (p_79 N) (p_80_v2 N) (p_81 N) (p_80 N) (p_81_v1 N) (p_80_v1 N) (p_81_v2 N) x κ0
def EG_82 {R : Type} (q_79 : Tp_79 R) (q_80_v2 : Tp_80_v2 R) (q_81 : Tp_81 R) (q_80 : Tp_80 R) (q_81_v1 : Tp_81_v1 R) (q_80_v1 : Tp_80_v1 R) (q_81_v2 : Tp_81_v2 R) : Env R := (((((((Env.base QQ LN AA).add 79 ap_79 hp_79 (fun (x : aden ap_79 × hden hp_79) k => q_79 x (fun y => k (Pat.inst (.tup (.fcons (.nilp) (.fcons (.int .i64) (.fnil)))) y.1) (instH [] y.2)) (fun y => k (Pat.inst (.tup (.fcons (.ptr 0 []) (.fcons (.int .i64) (.fnil)))) y.1) (instH [some (Z6, 178)] y.2)) (fun y => k (Pat.inst (.tup (.fcons (.ptr 0 []) (.fcons (.int .i64) (.fnil)))) y.1) (instH J5 y.2)))).add 80 ap_80_v2 hp_80_v2 (fun (x : aden ap_80_v2 × hden hp_80_v2) k => q_80_v2 x (fun y => k (Pat.inst (.nilp) y.1) (instH [some (.lst (.str), 9)] y.2)))).add 81 ap_81 hp_81 (fun (x : aden ap_81 × hden hp_81) k => q_81 x (fun y => k (Pat.inst (.str) y.1) (instH [] y.2)))).add 80 ap_80 hp_80 (fun (x : aden ap_80 × hden hp_80) k => q_80 x (fun y => k (Pat.inst (.ptr 0 []) y.1) (instH J11 y.2)))).add 81 ap_81_v1 hp_81_v1 (fun (x : aden ap_81_v1 × hden hp_81_v1) k => q_81_v1 x (fun y => k (Pat.inst (.str) y.1) (instH [some (Z6, 178)] y.2)))).add 80 ap_80_v1 hp_80_v1 (fun (x : aden ap_80_v1 × hden hp_80_v1) k => q_80_v1 x (fun y => k (Pat.inst (.ptr 0 []) y.1) (instH J6 y.2)))).add 81 ap_81_v2 hp_81_v2 (fun (x : aden ap_81_v2 × hden hp_81_v2) k => q_81_v2 x (fun y => k (Pat.inst (.str) y.1) (instH J5 y.2)))
def LG_82 {R : Type} : Loops R := Loops.none
def E_82 {R : Type} (N : Nat) : Env R := EG_82 (p_79 N) (p_80_v2 N) (p_81 N) (p_80 N) (p_81_v1 N) (p_80_v1 N) (p_81_v2 N)
theorem eok_82 {R : Type} (N : Nat) : EK Try.prog (E_82 (R := R) N) := ek_add (ek_add (ek_add (ek_add (ek_add (ek_add (ek_add (ek_base _ _ _) (good_79 N)) (good_80_v2 N)) (good_81 N)) (good_80 N)) (good_81_v1 N)) (good_80_v1 N)) (good_81_v2 N)
def L_82 {R : Type} (N : Nat) : Loops R := LG_82
theorem lok_82 {R : Type} (N : Nat) : LOK 1 TT (E_82 (R := R) N) (drawAny TT WW) (L_82 N) (bodyOf Try.f82) := loops_nil (by kernel_rfl)
theorem grun_82 {R : Type} (q_79 : Tp_79 R) (q_80_v2 : Tp_80_v2 R) (q_81 : Tp_81 R) (q_80 : Tp_80 R) (q_81_v1 : Tp_81_v1 R) (q_80_v1 : Tp_80_v1 R) (q_81_v2 : Tp_81_v2 R) (x : aden ap_82 × hden hp_82) (k : KF R) : fnrun TT (EG_82 q_79 q_80_v2 q_81 q_80 q_81_v1 q_80_v1 q_81_v2) (drawAny TT WW) (LG_82) true Try.f82 (instA ap_82 x.1) (instH hp_82 x.2) k = Q_82 q_79 q_80_v2 q_81 q_80 q_81_v1 q_80_v1 q_81_v2 x (fun y => k (Pat.inst (.tup (.fcons (.str) (.fcons (.int .i64) (.fnil)))) y.1) (instH [some (.lst (.str), 9)] y.2)) := by kernel_rfl
theorem run_82 {R : Type} (N : Nat) (x : aden ap_82 × hden hp_82) (k : KF R) : fnrun TT (E_82 (R := R) N) (drawAny TT WW) (L_82 N) true Try.f82 (instA ap_82 x.1) (instH hp_82 x.2) k = p_82 N x (fun y => k (Pat.inst (.tup (.fcons (.str) (.fcons (.int .i64) (.fnil)))) y.1) (instH [some (.lst (.str), 9)] y.2)) := (grun_82 (p_79 N) (p_80_v2 N) (p_81 N) (p_80 N) (p_81_v1 N) (p_80_v1 N) (p_81_v2 N) x k).trans (by kernel_rfl)
theorem good_82 {R : Type} (N : Nat) : GD (X := R) Try.prog QQ AA 82 ap_82 hp_82 (fun (x : aden ap_82 × hden hp_82) k => p_82 N x (fun y => k (Pat.inst (.tup (.fcons (.str) (.fcons (.int .i64) (.fnil)))) y.1) (instH [some (.lst (.str), 9)] y.2))) :=
  gd_loud (E := E_82 N) (p := fun (x : aden ap_82 × hden hp_82) k => p_82 N x (fun y => k (Pat.inst (.tup (.fcons (.str) (.fcons (.int .i64) (.fnil)))) y.1) (instH [some (.lst (.str), 9)] y.2))) mixed tyok (eok_82 N) Try.func82 (by kernel_rfl) (by kernel_rfl) (by kernel_rfl) (by kernel_rfl) (lok_82 N) (fun x k => run_82 N x k)

def lv_49_8 : Live := [(0, none), (8, none), (9, none)]
def pt_49_8 : SPat := ⟨[(0, .int .i64), (8, .str), (9, .sl 1)], [some (.lst (.str), 9), some (.lst (.int .u8), 5)]⟩
def px_49_8_0 : SPat := ⟨[(0, .int .i64), (8, .str), (9, .sl 1)], [some (.lst (.str), 9), some (.lst (.int .u8), 5)]⟩
def lo_49_8 : Exit → Live
  | .exit 0 => [(0, none), (8, none), (9, none)]
  | _ => []
def ap_49 : List Pat := [.int .i64, .sl 0]
def hp_49 : List (Option (Pat × Nat)) := [some (.lst (.str), 9)]
abbrev Tl_49_8 (R : Type) : Type := Y25 → (Y25 → Option R) → Option R
abbrev Tp_49 (R : Type) : Type := (Int × Unit × Unit) × Y23 → (((ByteArray × (Int × Unit)) × Y23) → Option R) → Option R
def C_49_8 {R : Type} (q_82 : Tp_82 R) (rec : Y25 → Option R) (x : Y25) (κ0 : Y25 → Option R) : Option R :=
let i2300 := x.1.1
let s2301 := x.1.2.1
let l2302 := x.2.1
let l2303 := x.2.2.1
let i2304 : Int := (((List.length l2303) : Nat) : Int)
let i2305 : Int := subA .i64 i2300 i2304
bif (decide (i2305 > 64)) then (
let l2306 : (List ByteArray) := [s2301]
q_82 ((64, ⟨#[]⟩, (), ()), (l2306, ())) (fun y2307 =>
let s2308 := y2307.1.1
bif decide (32 ≤ ((ByteArray.size s2308 : Nat) : Int)) then (
let s2311 : ByteArray := ByteArray.extract s2308 0 32
bif (decide ((List.length l2303 + List.length (strList s2311)) * 1 ≤ 140737488355328) && true) then (
let l2312 : (List Int) := (l2303 ++ strList s2311)
rec ((i2300, s2308, (), ()), (l2302, l2312, ()))) else none) else none)) else (
κ0 ((i2300, s2301, (), ()), (l2302, l2303, ())))
def B_49_8 {R : Type} (N : Nat) (rec : Y25 → Option R) (x : Y25) (κ0 : Y25 → Option R) : Option R := C_49_8 (p_82 N) rec x κ0
def l_49_8 {R : Type} (N : Nat) : Nat → Y25 → (Y25 → Option R) → Option R
  | 0, _, _ => none
  | n + 1, x, κ0 => B_49_8 N (fun y => l_49_8 N n y κ0) x κ0
def Q_49 {R : Type} (q_79 : Tp_79 R) (q_53 : Tp_53 R) (q_80_v2 : Tp_80_v2 R) (q_81 : Tp_81 R) (q_82 : Tp_82 R) (q_80 : Tp_80 R) (q_81_v1 : Tp_81_v1 R) (q_80_v1 : Tp_80_v1 R) (q_81_v2 : Tp_81_v2 R) (m_49_8 : Tl_49_8 R) (x : (Int × Unit × Unit) × Y23) (κ0 : ((ByteArray × (Int × Unit)) × Y23) → Option R) : Option R :=
let i1037 := x.1.1
let l1038 := x.2.1
bif (decide (i1037 < 1)) then (
κ0 ((⟨#[]⟩, (1, ())), x.2)) else (
bif (decide (i1037 > 65536)) then (
κ0 ((⟨#[]⟩, (1, ())), x.2)) else (
let i1039 : Int := minA i1037 64
q_79 ((i1039, ⟨#[]⟩, ()), ()) (fun y2028 =>
let i2030 : Int := IntKind.wrap .u32 i1037
let l2031 : (List Int) := [i2030]
q_53 (((), ()), (l2031, ())) (fun y2032 =>
let l2033 := y2032.1
let s2035 : ByteArray := listStr l2033
let l2036 : (List ByteArray) := [s2035]
q_80_v2 (((), (), ()), (l2036, ())) (fun y2038 =>
q_80_v2 (((), (), ()), x.2) (fun y2040 =>
let l2041 := y2040.2.1
q_81 (((), ()), ()) (fun y2042 =>
let s2043 := y2042.1
bif (decide (i1037 ≤ 64)) then (
κ0 ((s2043, (0, ())), y2040.2)) else (
bif decide (32 ≤ ((ByteArray.size s2043 : Nat) : Int)) then (
let s2044 : ByteArray := ByteArray.extract s2043 0 32
bif decide (ByteArray.size s2044 ≤ maxI64) then (
let l2045 : (List Int) := strList s2044
m_49_8 ((i1037, s2043, (), ()), (l2041, l2045, ())) (fun y2185 =>
let i2186 := y2185.1.1
let s2187 := y2185.1.2.1
let l2188 := y2185.2.1
let l2189 := y2185.2.2.1
let i2190 : Int := (((List.length l2189) : Nat) : Int)
let i2191 : Int := subA .i64 i2186 i2190
let l2192 : (List ByteArray) := [s2187]
q_82 ((i2191, ⟨#[]⟩, (), ()), (l2192, ())) (fun y2193 =>
let s2194 := y2193.1.1
bif (decide ((List.length l2189 + List.length (strList s2194)) * 1 ≤ 140737488355328) && true) then (
let l2197 : (List Int) := (l2189 ++ strList s2194)
let s2198 : ByteArray := listStr l2197
κ0 ((s2198, (0, ())), (l2188, ()))) else none))) else none) else none)))))) (fun y2199 =>
let i2204 : Int := IntKind.wrap .u32 i1037
let l2205 : (List Int) := [i2204]
q_53 (((), ()), (l2205, ())) (fun y2206 =>
let l2207 := y2206.1
let s2209 : ByteArray := listStr l2207
let l2210 : (List ByteArray) := [s2209]
q_80 (((), (), ()), (y2199.2.1, l2210, ())) (fun y2211 =>
q_80 (((), (), ()), (y2211.2.1, l1038, ())) (fun y2216 =>
let l2220 := y2216.2.2.1
q_81_v1 (((), ()), (y2216.2.1, ())) (fun y2221 =>
let s2222 := y2221.1
bif (decide (i1037 ≤ 64)) then (
κ0 ((s2222, (0, ())), y2216.2.2)) else (
bif decide (32 ≤ ((ByteArray.size s2222 : Nat) : Int)) then (
let s2226 : ByteArray := ByteArray.extract s2222 0 32
bif decide (ByteArray.size s2226 ≤ maxI64) then (
let l2227 : (List Int) := strList s2226
m_49_8 ((i1037, s2222, (), ()), (l2220, l2227, ())) (fun y2241 =>
let i2242 := y2241.1.1
let s2243 := y2241.1.2.1
let l2244 := y2241.2.1
let l2245 := y2241.2.2.1
let i2246 : Int := (((List.length l2245) : Nat) : Int)
let i2247 : Int := subA .i64 i2242 i2246
let l2248 : (List ByteArray) := [s2243]
q_82 ((i2247, ⟨#[]⟩, (), ()), (l2248, ())) (fun y2249 =>
let s2250 := y2249.1.1
bif (decide ((List.length l2245 + List.length (strList s2250)) * 1 ≤ 140737488355328) && true) then (
let l2253 : (List Int) := (l2245 ++ strList s2250)
let s2254 : ByteArray := listStr l2253
κ0 ((s2254, (0, ())), (l2244, ()))) else none))) else none) else none)))))) (fun y2255 =>
let l2263 := y2255.2.2.2.1
let i2264 : Int := IntKind.wrap .u32 i1037
let l2265 : (List Int) := [i2264]
q_53 (((), ()), (l2265, ())) (fun y2266 =>
let l2267 := y2266.1
let s2269 : ByteArray := listStr l2267
let l2270 : (List ByteArray) := [s2269]
q_80_v1 (((), (), ()), (y2255.2.1, y2255.2.2.1, l2263, l2270, ())) (fun y2271 =>
let l2279 := y2271.2.2.2.2.1
q_80_v1 (((), (), ()), (y2271.2.1, y2271.2.2.1, l2279, l1038, ())) (fun y2280 =>
let l2287 := y2280.2.2.2.1
let l2288 := y2280.2.2.2.2.1
q_81_v2 (((), ()), (y2280.2.1, y2280.2.2.1, l2288, ())) (fun y2289 =>
let s2290 := y2289.1
bif (decide (i1037 ≤ 64)) then (
κ0 ((s2290, (0, ())), (l2287, ()))) else (
bif decide (32 ≤ ((ByteArray.size s2290 : Nat) : Int)) then (
let s2298 : ByteArray := ByteArray.extract s2290 0 32
bif decide (ByteArray.size s2298 ≤ maxI64) then (
let l2299 : (List Int) := strList s2298
m_49_8 ((i1037, s2290, (), ()), (l2287, l2299, ())) (fun y2313 =>
let i2314 := y2313.1.1
let s2315 := y2313.1.2.1
let l2316 := y2313.2.1
let l2317 := y2313.2.2.1
let i2318 : Int := (((List.length l2317) : Nat) : Int)
let i2319 : Int := subA .i64 i2314 i2318
let l2320 : (List ByteArray) := [s2315]
q_82 ((i2319, ⟨#[]⟩, (), ()), (l2320, ())) (fun y2321 =>
let s2322 := y2321.1.1
bif (decide ((List.length l2317 + List.length (strList s2322)) * 1 ≤ 140737488355328) && true) then (
let l2325 : (List Int) := (l2317 ++ strList s2322)
let s2326 : ByteArray := listStr l2325
κ0 ((s2326, (0, ())), (l2316, ()))) else none))) else none) else none))))))))
def p_49 {R : Type} (N : Nat) (x : (Int × Unit × Unit) × Y23) (κ0 : ((ByteArray × (Int × Unit)) × Y23) → Option R) : Option R := Q_49 (p_79 N) (p_53 N) (p_80_v2 N) (p_81 N) (p_82 N) (p_80 N) (p_81_v1 N) (p_80_v1 N) (p_81_v2 N) (l_49_8 N N) x κ0
def EG_49 {R : Type} (q_79 : Tp_79 R) (q_53 : Tp_53 R) (q_80_v2 : Tp_80_v2 R) (q_81 : Tp_81 R) (q_82 : Tp_82 R) (q_80 : Tp_80 R) (q_81_v1 : Tp_81_v1 R) (q_80_v1 : Tp_80_v1 R) (q_81_v2 : Tp_81_v2 R) : Env R := (((((((((Env.base QQ LN AA).add 79 ap_79 hp_79 (fun (x : aden ap_79 × hden hp_79) k => q_79 x (fun y => k (Pat.inst (.tup (.fcons (.nilp) (.fcons (.int .i64) (.fnil)))) y.1) (instH [] y.2)) (fun y => k (Pat.inst (.tup (.fcons (.ptr 0 []) (.fcons (.int .i64) (.fnil)))) y.1) (instH [some (Z6, 178)] y.2)) (fun y => k (Pat.inst (.tup (.fcons (.ptr 0 []) (.fcons (.int .i64) (.fnil)))) y.1) (instH J5 y.2)))).add 53 ap_53 hp_53 (fun (x : aden ap_53 × hden hp_53) k => q_53 x (fun y => k (Pat.inst (.ros (.int .u8)) y.1) (instH [some (.lst (.int .u32), 78)] y.2)))).add 80 ap_80_v2 hp_80_v2 (fun (x : aden ap_80_v2 × hden hp_80_v2) k => q_80_v2 x (fun y => k (Pat.inst (.nilp) y.1) (instH [some (.lst (.str), 9)] y.2)))).add 81 ap_81 hp_81 (fun (x : aden ap_81 × hden hp_81) k => q_81 x (fun y => k (Pat.inst (.str) y.1) (instH [] y.2)))).add 82 ap_82 hp_82 (fun (x : aden ap_82 × hden hp_82) k => q_82 x (fun y => k (Pat.inst (.tup (.fcons (.str) (.fcons (.int .i64) (.fnil)))) y.1) (instH [some (.lst (.str), 9)] y.2)))).add 80 ap_80 hp_80 (fun (x : aden ap_80 × hden hp_80) k => q_80 x (fun y => k (Pat.inst (.ptr 0 []) y.1) (instH J11 y.2)))).add 81 ap_81_v1 hp_81_v1 (fun (x : aden ap_81_v1 × hden hp_81_v1) k => q_81_v1 x (fun y => k (Pat.inst (.str) y.1) (instH [some (Z6, 178)] y.2)))).add 80 ap_80_v1 hp_80_v1 (fun (x : aden ap_80_v1 × hden hp_80_v1) k => q_80_v1 x (fun y => k (Pat.inst (.ptr 0 []) y.1) (instH J6 y.2)))).add 81 ap_81_v2 hp_81_v2 (fun (x : aden ap_81_v2 × hden hp_81_v2) k => q_81_v2 x (fun y => k (Pat.inst (.str) y.1) (instH J5 y.2)))
def LG_49 {R : Type} (m_49_8 : Tl_49_8 R) : Loops R := (Loops.none).add 8 (loopBy 1 lv_49_8 pt_49_8 (fun x k => m_49_8 x (fun y => k (.exit 0) (px_49_8_0.inst y))))
def E_49 {R : Type} (N : Nat) : Env R := EG_49 (p_79 N) (p_53 N) (p_80_v2 N) (p_81 N) (p_82 N) (p_80 N) (p_81_v1 N) (p_80_v1 N) (p_81_v2 N)
theorem eok_49 {R : Type} (N : Nat) : EK Try.prog (E_49 (R := R) N) := ek_add (ek_add (ek_add (ek_add (ek_add (ek_add (ek_add (ek_add (ek_add (ek_base _ _ _) (good_79 N)) (good_53 N)) (good_80_v2 N)) (good_81 N)) (good_82 N)) (good_80 N)) (good_81_v1 N)) (good_80_v1 N)) (good_81_v2 N)
def L_49 {R : Type} (N : Nat) : Loops R := LG_49 (l_49_8 N N)
theorem gstep_49_8 {R : Type} (q_79 : Tp_79 R) (q_53 : Tp_53 R) (q_80_v2 : Tp_80_v2 R) (q_81 : Tp_81 R) (q_82 : Tp_82 R) (q_80 : Tp_80 R) (q_81_v1 : Tp_81_v1 R) (q_80_v1 : Tp_80_v1 R) (q_81_v2 : Tp_81_v2 R) (m_49_8 : Tl_49_8 R) (n : Nat) (x : pt_49_8.den) (k : Exit → St → Option R) : iter 1 lv_49_8 lo_49_8 (aexec TT (EG_49 q_79 q_53 q_80_v2 q_81 q_82 q_80 q_81_v1 q_80_v1 q_81_v2) (drawAny TT WW) (LG_49 m_49_8) (loopAt 8 (bodyOf Try.f49))) (n + 1) (pt_49_8.inst x) k = C_49_8 q_82 (fun y => iter 1 lv_49_8 lo_49_8 (aexec TT (EG_49 q_79 q_53 q_80_v2 q_81 q_82 q_80 q_81_v1 q_80_v1 q_81_v2) (drawAny TT WW) (LG_49 m_49_8) (loopAt 8 (bodyOf Try.f49))) n (pt_49_8.inst y) k) x (fun y => k (.exit 0) (px_49_8_0.inst y)) := by kernel_rfl
theorem step_49_8 {R : Type} (N n : Nat) (x : pt_49_8.den) (k : Exit → St → Option R) : iter 1 lv_49_8 lo_49_8 (aexec TT (E_49 (R := R) N) (drawAny TT WW) (L_49 N) (loopAt 8 (bodyOf Try.f49))) (n + 1) (pt_49_8.inst x) k = B_49_8 N (fun y => iter 1 lv_49_8 lo_49_8 (aexec TT (E_49 (R := R) N) (drawAny TT WW) (L_49 N) (loopAt 8 (bodyOf Try.f49))) n (pt_49_8.inst y) k) x (fun y => k (.exit 0) (px_49_8_0.inst y)) := (gstep_49_8 (p_79 N) (p_53 N) (p_80_v2 N) (p_81 N) (p_82 N) (p_80 N) (p_81_v1 N) (p_80_v1 N) (p_81_v2 N) (l_49_8 N N) n x k).trans (by kernel_rfl)
theorem eq_49_8 {R : Type} (N : Nat) : ∀ (n : Nat) (x : pt_49_8.den) (k : Exit → St → Option R), iter 1 lv_49_8 lo_49_8 (aexec TT (E_49 (R := R) N) (drawAny TT WW) (L_49 N) (loopAt 8 (bodyOf Try.f49))) n (pt_49_8.inst x) k = l_49_8 N n x (fun y => k (.exit 0) (px_49_8_0.inst y)) :=
  iter_eq (K := Exit → St → Option R) (ks := fun k => k) (l := fun n (x : pt_49_8.den) k => l_49_8 N n x (fun y => k (.exit 0) (px_49_8_0.inst y))) (B := fun (rec : pt_49_8.den → Option R) (x : pt_49_8.den) k => B_49_8 N rec x (fun y => k (.exit 0) (px_49_8_0.inst y))) (fun _ _ => rfl) (fun _ _ _ => rfl) (fun n x k => step_49_8 N n x k)
theorem rounds_49_8 {R : Type} (N : Nat) : Rounds 1 TT (E_49 (R := R) N) (drawAny TT WW) (L_49 N) 8 (loopAt 8 (bodyOf Try.f49)) :=
  rounds_of (p := pt_49_8) (l := fun (x : pt_49_8.den) k => l_49_8 N N x (fun y => k (.exit 0) (px_49_8_0.inst y))) (fun s k => rfl) (fun x k => eq_49_8 N N x k)
theorem loops_49 : loopsIn (bodyOf Try.f49) = [(8, loopAt 8 (bodyOf Try.f49))] := by kernel_rfl
theorem lok_49 {R : Type} (N : Nat) : LOK 1 TT (E_49 (R := R) N) (drawAny TT WW) (L_49 N) (bodyOf Try.f49) := loops_all loops_49 (by
  simp only [List.forall_mem_cons, List.not_mem_nil, false_implies, implies_true, and_true]
  exact rounds_49_8 N)
theorem grun_49 {R : Type} (q_79 : Tp_79 R) (q_53 : Tp_53 R) (q_80_v2 : Tp_80_v2 R) (q_81 : Tp_81 R) (q_82 : Tp_82 R) (q_80 : Tp_80 R) (q_81_v1 : Tp_81_v1 R) (q_80_v1 : Tp_80_v1 R) (q_81_v2 : Tp_81_v2 R) (m_49_8 : Tl_49_8 R) (x : aden ap_49 × hden hp_49) (k : KF R) : fnrun TT (EG_49 q_79 q_53 q_80_v2 q_81 q_82 q_80 q_81_v1 q_80_v1 q_81_v2) (drawAny TT WW) (LG_49 m_49_8) true Try.f49 (instA ap_49 x.1) (instH hp_49 x.2) k = Q_49 q_79 q_53 q_80_v2 q_81 q_82 q_80 q_81_v1 q_80_v1 q_81_v2 m_49_8 x (fun y => k (Pat.inst (.tup (.fcons (.str) (.fcons (.int .i64) (.fnil)))) y.1) (instH [some (.lst (.str), 9)] y.2)) := by kernel_rfl
theorem run_49 {R : Type} (N : Nat) (x : aden ap_49 × hden hp_49) (k : KF R) : fnrun TT (E_49 (R := R) N) (drawAny TT WW) (L_49 N) true Try.f49 (instA ap_49 x.1) (instH hp_49 x.2) k = p_49 N x (fun y => k (Pat.inst (.tup (.fcons (.str) (.fcons (.int .i64) (.fnil)))) y.1) (instH [some (.lst (.str), 9)] y.2)) := (grun_49 (p_79 N) (p_53 N) (p_80_v2 N) (p_81 N) (p_82 N) (p_80 N) (p_81_v1 N) (p_80_v1 N) (p_81_v2 N) (l_49_8 N N) x k).trans (by kernel_rfl)
theorem good_49 {R : Type} (N : Nat) : GD (X := R) Try.prog QQ AA 49 ap_49 hp_49 (fun (x : aden ap_49 × hden hp_49) k => p_49 N x (fun y => k (Pat.inst (.tup (.fcons (.str) (.fcons (.int .i64) (.fnil)))) y.1) (instH [some (.lst (.str), 9)] y.2))) :=
  gd_loud (E := E_49 N) (p := fun (x : aden ap_49 × hden hp_49) k => p_49 N x (fun y => k (Pat.inst (.tup (.fcons (.str) (.fcons (.int .i64) (.fnil)))) y.1) (instH [some (.lst (.str), 9)] y.2))) mixed tyok (eok_49 N) Try.func49 (by kernel_rfl) (by kernel_rfl) (by kernel_rfl) (by kernel_rfl) (lok_49 N) (fun x k => run_49 N x k)

def ap_52 : List Pat := [.sl 0]
def hp_52 : List (Option (Pat × Nat)) := [some (.lst (.str), 9)]
abbrev Tp_52 (R : Type) : Type := (Unit × Unit) × Y23 → ((ByteArray × Y23) → Option R) → Option R
def Q_52 {R : Type} (q_49 : Tp_49 R) (x : (Unit × Unit) × Y23) (κ0 : (ByteArray × Y23) → Option R) : Option R :=
q_49 ((1024, (), ()), x.2) (fun y2327 =>
let s2328 := y2327.1.1
κ0 (s2328, y2327.2))
def p_52 {R : Type} (N : Nat) (x : (Unit × Unit) × Y23) (κ0 : (ByteArray × Y23) → Option R) : Option R := Q_52 (p_49 N) x κ0
def EG_52 {R : Type} (q_49 : Tp_49 R) : Env R := (Env.base QQ LN AA).add 49 ap_49 hp_49 (fun (x : aden ap_49 × hden hp_49) k => q_49 x (fun y => k (Pat.inst (.tup (.fcons (.str) (.fcons (.int .i64) (.fnil)))) y.1) (instH [some (.lst (.str), 9)] y.2)))
def LG_52 {R : Type} : Loops R := Loops.none
def E_52 {R : Type} (N : Nat) : Env R := EG_52 (p_49 N)
theorem eok_52 {R : Type} (N : Nat) : EK Try.prog (E_52 (R := R) N) := ek_add (ek_base _ _ _) (good_49 N)
def L_52 {R : Type} (N : Nat) : Loops R := LG_52
theorem lok_52 {R : Type} (N : Nat) : LOK 1 TT (E_52 (R := R) N) (drawAny TT WW) (L_52 N) (bodyOf Try.f52) := loops_nil (by kernel_rfl)
theorem grun_52 {R : Type} (q_49 : Tp_49 R) (x : aden ap_52 × hden hp_52) (k : KF R) : fnrun TT (EG_52 q_49) (drawAny TT WW) (LG_52) true Try.f52 (instA ap_52 x.1) (instH hp_52 x.2) k = Q_52 q_49 x (fun y => k (Pat.inst (.str) y.1) (instH [some (.lst (.str), 9)] y.2)) := by kernel_rfl
theorem run_52 {R : Type} (N : Nat) (x : aden ap_52 × hden hp_52) (k : KF R) : fnrun TT (E_52 (R := R) N) (drawAny TT WW) (L_52 N) true Try.f52 (instA ap_52 x.1) (instH hp_52 x.2) k = p_52 N x (fun y => k (Pat.inst (.str) y.1) (instH [some (.lst (.str), 9)] y.2)) := (grun_52 (p_49 N) x k).trans (by kernel_rfl)
theorem good_52 {R : Type} (N : Nat) : GD (X := R) Try.prog QQ AA 52 ap_52 hp_52 (fun (x : aden ap_52 × hden hp_52) k => p_52 N x (fun y => k (Pat.inst (.str) y.1) (instH [some (.lst (.str), 9)] y.2))) :=
  gd_loud (E := E_52 N) (p := fun (x : aden ap_52 × hden hp_52) k => p_52 N x (fun y => k (Pat.inst (.str) y.1) (instH [some (.lst (.str), 9)] y.2))) mixed tyok (eok_52 N) Try.func52 (by kernel_rfl) (by kernel_rfl) (by kernel_rfl) (by kernel_rfl) (lok_52 N) (fun x k => run_52 N x k)

def lv_84_v1_5 : Live := [(4, none), (15, none), (16, none), (17, none)]
def pt_84_v1_5 : SPat := ⟨[(4, .sl 1), (15, .sl 0), (16, .int .i64), (17, .int .i64)], [some (.lst (.int .u8), 5), some (.lst (.int .u64), 27)]⟩
def px_84_v1_5_0 : SPat := ⟨[(4, .sl 1)], [some (.lst (.int .u8), 5), some (.lst (.int .u64), 27)]⟩
def lo_84_v1_5 : Exit → Live
  | .exit 0 => [(4, none)]
  | _ => []
def ap_84_v1 : List Pat := [.sl 0]
def hp_84_v1 : List (Option (Pat × Nat)) := J9
abbrev Tl_84_v1_5 (R : Type) : Type := (Y15 × ((List Int) × (List Int) × Unit)) → (((Unit × Unit) × ((List Int) × (List Int) × Unit)) → Option R) → Option R
abbrev Tp_84_v1 (R : Type) : Type := (Unit × Unit) × ((List Int) × Unit) → ((((List Int) × (Int × Unit)) × ((List Int) × Unit)) → Option R) → Option R
def C_84_v1_5 {R : Type} (rec : (Y15 × ((List Int) × (List Int) × Unit)) → Option R) (x : (Y15 × ((List Int) × (List Int) × Unit))) (κ0 : ((Unit × Unit) × ((List Int) × (List Int) × Unit)) → Option R) : Option R :=
let i2345 := x.1.2.2.1
let i2346 := x.1.2.2.2.1
let l2347 := x.2.1
let l2348 := x.2.2.1
bif (decide (i2346 < i2345)) then (
bif decide (0 ≤ i2346) then (
bif decide (i2346 < ((List.length l2347) : Int)) then (
let i2349 : Int := (List.getD l2347 ((Int.toNat i2346)) (Sch.zero (.int .u8)))
let i2350 : Int := quoA .i64 i2346 8
bif decide (0 ≤ i2350) then (
bif decide (i2350 < ((List.length l2348) : Int)) then (
let i2351 : Int := (List.getD l2348 ((Int.toNat i2350)) (Sch.zero (.int .u64)))
let i2352 : Int := IntKind.wrap .u64 i2349
let i2353 : Int := remA .i64 i2346 8
let i2354 : Int := mulA .i64 8 i2353
bif decide (i2354 < 0) then none else (
let i2355 : Int := shlA .u64 i2352 i2354
let i2356 : Int := orA .u64 i2351 i2355
bif decide (0 ≤ i2350) then (
bif decide (i2350 < ((List.length l2348) : Int)) then (
let l2357 : (List Int) := (List.set l2348 ((Int.toNat i2350)) i2356)
let i2358 : Int := addA .i64 i2346 1
rec (((), (), i2345, i2358, ()), (l2347, l2357, ()))) else none) else none)) else none) else none) else none) else none) else (
κ0 (((), ()), (l2347, l2348, ())))
def B_84_v1_5 {R : Type} (N : Nat) (rec : (Y15 × ((List Int) × (List Int) × Unit)) → Option R) (x : (Y15 × ((List Int) × (List Int) × Unit))) (κ0 : ((Unit × Unit) × ((List Int) × (List Int) × Unit)) → Option R) : Option R := C_84_v1_5 rec x κ0
def l_84_v1_5 {R : Type} (N : Nat) : Nat → (Y15 × ((List Int) × (List Int) × Unit)) → (((Unit × Unit) × ((List Int) × (List Int) × Unit)) → Option R) → Option R
  | 0, _, _ => none
  | n + 1, x, κ0 => B_84_v1_5 N (fun y => l_84_v1_5 N n y κ0) x κ0
def Q_84_v1 {R : Type} (m_84_v1_5 : Tl_84_v1_5 R) (x : (Unit × Unit) × ((List Int) × Unit)) (κ0 : (((List Int) × (Int × Unit)) × ((List Int) × Unit)) → Option R) : Option R :=
let l2338 := x.2.1
let i2339 : Int := (((List.length l2338) : Nat) : Int)
let i2340 : Int := remA .i64 i2339 8
bif (i2340 != 0) then (
κ0 (([], (9, ())), x.2)) else (
let i2341 : Int := (((List.length l2338) : Nat) : Int)
let i2342 : Int := quoA .i64 i2341 8
bif decide (0 ≤ i2342) then (
bif decide (i2342 ≤ i2342) then (
bif decide (((8 : Nat) : Int) * i2342 ≤ 281474976710656) then (
bif decide (i2342 ≤ 9223372036854775807) then (
let l2343 : (List Int) := List.replicate ((Int.toNat i2342)) (Sch.zero (.int .u64))
let i2344 : Int := (((List.length l2338) : Nat) : Int)
m_84_v1_5 (((), (), i2344, 0, ()), (l2338, l2343, ())) (fun y2359 =>
let l2360 := y2359.2.1
let l2361 := y2359.2.2.1
κ0 ((l2361, (0, ())), (l2360, ())))) else none) else none) else none) else none)
def p_84_v1 {R : Type} (N : Nat) (x : (Unit × Unit) × ((List Int) × Unit)) (κ0 : (((List Int) × (Int × Unit)) × ((List Int) × Unit)) → Option R) : Option R := Q_84_v1 (l_84_v1_5 N N) x κ0
def EG_84_v1 {R : Type} : Env R := Env.base QQ LN AA
def LG_84_v1 {R : Type} (m_84_v1_5 : Tl_84_v1_5 R) : Loops R := (Loops.none).add 5 (loopBy 1 lv_84_v1_5 pt_84_v1_5 (fun x k => m_84_v1_5 x (fun y => k (.exit 0) (px_84_v1_5_0.inst y))))
def E_84_v1 {R : Type} (N : Nat) : Env R := EG_84_v1
theorem eok_84_v1 {R : Type} (N : Nat) : EK Try.prog (E_84_v1 (R := R) N) := ek_base _ _ _
def L_84_v1 {R : Type} (N : Nat) : Loops R := LG_84_v1 (l_84_v1_5 N N)
theorem gstep_84_v1_5 {R : Type} (m_84_v1_5 : Tl_84_v1_5 R) (n : Nat) (x : pt_84_v1_5.den) (k : Exit → St → Option R) : iter 1 lv_84_v1_5 lo_84_v1_5 (aexec TT (EG_84_v1) (drawAny TT WW) (LG_84_v1 m_84_v1_5) (loopAt 5 (bodyOf Try.f84))) (n + 1) (pt_84_v1_5.inst x) k = C_84_v1_5 (fun y => iter 1 lv_84_v1_5 lo_84_v1_5 (aexec TT (EG_84_v1) (drawAny TT WW) (LG_84_v1 m_84_v1_5) (loopAt 5 (bodyOf Try.f84))) n (pt_84_v1_5.inst y) k) x (fun y => k (.exit 0) (px_84_v1_5_0.inst y)) := by kernel_rfl
theorem step_84_v1_5 {R : Type} (N n : Nat) (x : pt_84_v1_5.den) (k : Exit → St → Option R) : iter 1 lv_84_v1_5 lo_84_v1_5 (aexec TT (E_84_v1 (R := R) N) (drawAny TT WW) (L_84_v1 N) (loopAt 5 (bodyOf Try.f84))) (n + 1) (pt_84_v1_5.inst x) k = B_84_v1_5 N (fun y => iter 1 lv_84_v1_5 lo_84_v1_5 (aexec TT (E_84_v1 (R := R) N) (drawAny TT WW) (L_84_v1 N) (loopAt 5 (bodyOf Try.f84))) n (pt_84_v1_5.inst y) k) x (fun y => k (.exit 0) (px_84_v1_5_0.inst y)) := (gstep_84_v1_5 (l_84_v1_5 N N) n x k).trans (by kernel_rfl)
theorem eq_84_v1_5 {R : Type} (N : Nat) : ∀ (n : Nat) (x : pt_84_v1_5.den) (k : Exit → St → Option R), iter 1 lv_84_v1_5 lo_84_v1_5 (aexec TT (E_84_v1 (R := R) N) (drawAny TT WW) (L_84_v1 N) (loopAt 5 (bodyOf Try.f84))) n (pt_84_v1_5.inst x) k = l_84_v1_5 N n x (fun y => k (.exit 0) (px_84_v1_5_0.inst y)) :=
  iter_eq (K := Exit → St → Option R) (ks := fun k => k) (l := fun n (x : pt_84_v1_5.den) k => l_84_v1_5 N n x (fun y => k (.exit 0) (px_84_v1_5_0.inst y))) (B := fun (rec : pt_84_v1_5.den → Option R) (x : pt_84_v1_5.den) k => B_84_v1_5 N rec x (fun y => k (.exit 0) (px_84_v1_5_0.inst y))) (fun _ _ => rfl) (fun _ _ _ => rfl) (fun n x k => step_84_v1_5 N n x k)
theorem rounds_84_v1_5 {R : Type} (N : Nat) : Rounds 1 TT (E_84_v1 (R := R) N) (drawAny TT WW) (L_84_v1 N) 5 (loopAt 5 (bodyOf Try.f84)) :=
  rounds_of (p := pt_84_v1_5) (l := fun (x : pt_84_v1_5.den) k => l_84_v1_5 N N x (fun y => k (.exit 0) (px_84_v1_5_0.inst y))) (fun s k => rfl) (fun x k => eq_84_v1_5 N N x k)
theorem loops_84_v1 : loopsIn (bodyOf Try.f84) = [(5, loopAt 5 (bodyOf Try.f84))] := by kernel_rfl
theorem lok_84_v1 {R : Type} (N : Nat) : LOK 1 TT (E_84_v1 (R := R) N) (drawAny TT WW) (L_84_v1 N) (bodyOf Try.f84) := loops_all loops_84_v1 (by
  simp only [List.forall_mem_cons, List.not_mem_nil, false_implies, implies_true, and_true]
  exact rounds_84_v1_5 N)
theorem grun_84_v1 {R : Type} (m_84_v1_5 : Tl_84_v1_5 R) (x : aden ap_84_v1 × hden hp_84_v1) (k : KF R) : fnrun TT (EG_84_v1) (drawAny TT WW) (LG_84_v1 m_84_v1_5) true Try.f84 (instA ap_84_v1 x.1) (instH hp_84_v1 x.2) k = Q_84_v1 m_84_v1_5 x (fun y => k (Pat.inst (.tup (.fcons (.ros (.int .u64)) (.fcons (.int .i64) (.fnil)))) y.1) (instH J9 y.2)) := by kernel_rfl
theorem run_84_v1 {R : Type} (N : Nat) (x : aden ap_84_v1 × hden hp_84_v1) (k : KF R) : fnrun TT (E_84_v1 (R := R) N) (drawAny TT WW) (L_84_v1 N) true Try.f84 (instA ap_84_v1 x.1) (instH hp_84_v1 x.2) k = p_84_v1 N x (fun y => k (Pat.inst (.tup (.fcons (.ros (.int .u64)) (.fcons (.int .i64) (.fnil)))) y.1) (instH J9 y.2)) := (grun_84_v1 (l_84_v1_5 N N) x k).trans (by kernel_rfl)
theorem good_84_v1 {R : Type} (N : Nat) : GD (X := R) Try.prog QQ AA 84 ap_84_v1 hp_84_v1 (fun (x : aden ap_84_v1 × hden hp_84_v1) k => p_84_v1 N x (fun y => k (Pat.inst (.tup (.fcons (.ros (.int .u64)) (.fcons (.int .i64) (.fnil)))) y.1) (instH J9 y.2))) :=
  gd_loud (E := E_84_v1 N) (p := fun (x : aden ap_84_v1 × hden hp_84_v1) k => p_84_v1 N x (fun y => k (Pat.inst (.tup (.fcons (.ros (.int .u64)) (.fcons (.int .i64) (.fnil)))) y.1) (instH J9 y.2))) mixed tyok (eok_84_v1 N) Try.func84 (by kernel_rfl) (by kernel_rfl) (by kernel_rfl) (by kernel_rfl) (lok_84_v1 N) (fun x k => run_84_v1 N x k)

def ap_54 : List Pat := [.str]
def hp_54 : List (Option (Pat × Nat)) := []
abbrev Tp_54 (R : Type) : Type := (ByteArray × Unit) × (Unit) → (((Nat → Int) × (Int × Unit)) → Option R) → Option R
def Q_54 {R : Type} (q_84_v1 : Tp_84_v1 R) (x : (ByteArray × Unit) × (Unit)) (κ0 : ((Nat → Int) × (Int × Unit)) → Option R) : Option R :=
let s2334 := x.1.1
let i2335 : Int := ((ByteArray.size s2334 : Nat) : Int)
bif (i2335 != 1024) then (
let a2336 : (Nat → Int) := (Sch.zero (.arr 128 (.int .u64)))
κ0 ((a2336, (9, ())))) else (
bif decide (ByteArray.size s2334 ≤ maxI64) then (
let l2337 : (List Int) := strList s2334
q_84_v1 (((), ()), (l2337, ())) (fun y2362 =>
let l2363 := y2362.1.1
bif decide (128 ≤ List.length l2363) then (
let p2366 : (Nat → Int) := (fun i => List.getD l2363 i (Sch.zero (.int .u64)))
κ0 ((p2366, (0, ())))) else none)) else none)
def p_54 {R : Type} (N : Nat) (x : (ByteArray × Unit) × (Unit)) (κ0 : ((Nat → Int) × (Int × Unit)) → Option R) : Option R := Q_54 (p_84_v1 N) x κ0
def EG_54 {R : Type} (q_84_v1 : Tp_84_v1 R) : Env R := (Env.base QQ LN AA).add 84 ap_84_v1 hp_84_v1 (fun (x : aden ap_84_v1 × hden hp_84_v1) k => q_84_v1 x (fun y => k (Pat.inst (.tup (.fcons (.ros (.int .u64)) (.fcons (.int .i64) (.fnil)))) y.1) (instH J9 y.2)))
def LG_54 {R : Type} : Loops R := Loops.none
def E_54 {R : Type} (N : Nat) : Env R := EG_54 (p_84_v1 N)
theorem eok_54 {R : Type} (N : Nat) : EK Try.prog (E_54 (R := R) N) := ek_add (ek_base _ _ _) (good_84_v1 N)
def L_54 {R : Type} (N : Nat) : Loops R := LG_54
theorem lok_54 {R : Type} (N : Nat) : LOK 0 TT (E_54 (R := R) N) (drawAny TT WW) (L_54 N) (bodyOf Try.f54) := loops_nil (by kernel_rfl)
theorem grun_54 {R : Type} (q_84_v1 : Tp_84_v1 R) (x : aden ap_54 × hden hp_54) (k : KF R) : fnrun TT (EG_54 q_84_v1) (drawAny TT WW) (LG_54) true Try.f54 (instA ap_54 x.1) (instH hp_54 x.2) k = Q_54 q_84_v1 x (fun y => k (Pat.inst (.tup (.fcons (.vec (.int .u64) 128) (.fcons (.int .i64) (.fnil)))) y) (instH hp_54 x.2)) := by kernel_rfl
theorem run_54 {R : Type} (N : Nat) (x : aden ap_54 × hden hp_54) (k : KF R) : fnrun TT (E_54 (R := R) N) (drawAny TT WW) (L_54 N) true Try.f54 (instA ap_54 x.1) (instH hp_54 x.2) k = p_54 N x (fun y => k (Pat.inst (.tup (.fcons (.vec (.int .u64) 128) (.fcons (.int .i64) (.fnil)))) y) (instH hp_54 x.2)) := (grun_54 (p_84_v1 N) x k).trans (by kernel_rfl)
theorem good_54 {R : Type} (N : Nat) : GD (X := R) Try.prog QQ AA 54 ap_54 hp_54 (fun (x : aden ap_54 × hden hp_54) k => p_54 N x (fun y => k (Pat.inst (.tup (.fcons (.vec (.int .u64) 128) (.fcons (.int .i64) (.fnil)))) y) (instH hp_54 x.2))) :=
  gd_quiet (E := E_54 N) (p := fun (x : aden ap_54 × hden hp_54) κ => p_54 N x (fun y => κ (Pat.inst (.tup (.fcons (.vec (.int .u64) 128) (.fcons (.int .i64) (.fnil)))) y))) mixed tyok (eok_54 N) Try.func54 (by kernel_rfl) (by kernel_rfl) (lok_54 N) (fun x k => run_54 N x k)

def ap_51 : List Pat := [.ptr 0 [], .int .i64, .vec (.int .u64) 128]
def hp_51 : List (Option (Pat × Nat)) := J4
abbrev Tp_51 (R : Type) : Type := (Unit × Int × (Nat → Int) × Unit) × (Y3 × Y2 × (List (Nat → Int)) × Unit) → ((Int × (Y3 × Y2 × (List (Nat → Int)) × Unit)) → Option R) → Option R
def Q_51 {R : Type} (q_47 : Tp_47 R) (x : (Unit × Int × (Nat → Int) × Unit) × (Y3 × Y2 × (List (Nat → Int)) × Unit)) (κ0 : (Int × (Y3 × Y2 × (List (Nat → Int)) × Unit)) → Option R) : Option R :=
let i2389 := x.1.2.1
let a2390 := x.1.2.2.1
let l2396 := x.2.2.2.1
q_47 (((), i2389, ()), (x.2.1, x.2.2.1, l2396, ())) (fun y2397 =>
let i2399 := y2397.2.1
bif (i2399 != 0) then (
κ0 (i2399, (x.2.1, x.2.2.1, l2396, ()))) else (
bif decide (0 ≤ i2389) then (
bif decide (i2389 < ((List.length l2396) : Int)) then (
let l2400 : (List (Nat → Int)) := (List.set l2396 ((Int.toNat i2389)) a2390)
κ0 (0, (x.2.1, x.2.2.1, l2400, ()))) else none) else none))
def p_51 {R : Type} (N : Nat) (x : (Unit × Int × (Nat → Int) × Unit) × (Y3 × Y2 × (List (Nat → Int)) × Unit)) (κ0 : (Int × (Y3 × Y2 × (List (Nat → Int)) × Unit)) → Option R) : Option R := Q_51 (p_47 N) x κ0
def EG_51 {R : Type} (q_47 : Tp_47 R) : Env R := (Env.base QQ LN AA).add 47 ap_47 hp_47 (fun (x : aden ap_47 × hden hp_47) k => q_47 x (fun y => k (Pat.inst (.tup (.fcons (.vec (.int .u64) 128) (.fcons (.int .i64) (.fnil)))) y) (instH hp_47 x.2)))
def LG_51 {R : Type} : Loops R := Loops.none
def E_51 {R : Type} (N : Nat) : Env R := EG_51 (p_47 N)
theorem eok_51 {R : Type} (N : Nat) : EK Try.prog (E_51 (R := R) N) := ek_add (ek_base _ _ _) (good_47 N)
def L_51 {R : Type} (N : Nat) : Loops R := LG_51
theorem lok_51 {R : Type} (N : Nat) : LOK 3 TT (E_51 (R := R) N) (drawAny TT WW) (L_51 N) (bodyOf Try.f51) := loops_nil (by kernel_rfl)
theorem grun_51 {R : Type} (q_47 : Tp_47 R) (x : aden ap_51 × hden hp_51) (k : KF R) : fnrun TT (EG_51 q_47) (drawAny TT WW) (LG_51) true Try.f51 (instA ap_51 x.1) (instH hp_51 x.2) k = Q_51 q_47 x (fun y => k (Pat.inst (.int .i64) y.1) (instH J4 y.2)) := by kernel_rfl
theorem run_51 {R : Type} (N : Nat) (x : aden ap_51 × hden hp_51) (k : KF R) : fnrun TT (E_51 (R := R) N) (drawAny TT WW) (L_51 N) true Try.f51 (instA ap_51 x.1) (instH hp_51 x.2) k = p_51 N x (fun y => k (Pat.inst (.int .i64) y.1) (instH J4 y.2)) := (grun_51 (p_47 N) x k).trans (by kernel_rfl)
theorem good_51 {R : Type} (N : Nat) : GD (X := R) Try.prog QQ AA 51 ap_51 hp_51 (fun (x : aden ap_51 × hden hp_51) k => p_51 N x (fun y => k (Pat.inst (.int .i64) y.1) (instH J4 y.2))) :=
  gd_loud (E := E_51 N) (p := fun (x : aden ap_51 × hden hp_51) k => p_51 N x (fun y => k (Pat.inst (.int .i64) y.1) (instH J4 y.2))) mixed tyok (eok_51 N) Try.func51 (by kernel_rfl) (by kernel_rfl) (by kernel_rfl) (by kernel_rfl) (lok_51 N) (fun x k => run_51 N x k)

def ap_12 : List Pat := [.ptr 0 [], .node (.fcons (.int .i64) (.fcons (.int .i64) (.fnil))), .vec (.int .u64) 128]
def hp_12 : List (Option (Pat × Nat)) := J0
abbrev Tp_12 (R : Type) : Type := (Unit × (Int × (Int × Unit)) × (Nat → Int) × Unit) × Y1 → ((Int × Y1) → Option R) → Option R
def Q_12 {R : Type} (q_46 : Tp_46 R) (q_51 : Tp_51 R) (x : (Unit × (Int × (Int × Unit)) × (Nat → Int) × Unit) × Y1) (κ0 : (Int × Y1) → Option R) : Option R :=
let a2372 := x.1.2.2.1
let l2386 := x.2.2.2.2.1
q_46 (((), x.1.2.1, ()), (x.2.1, x.2.2.1, x.2.2.2.1, l2386, ())) (fun y2387 =>
let i2388 : Int := y2387
bif (decide (i2388 < 0)) then (
κ0 (11, (x.2.1, x.2.2.1, x.2.2.2.1, l2386, ()))) else (
q_51 (((), i2388, a2372, ()), (x.2.2.1, x.2.2.2.1, l2386, ())) (fun y2401 =>
let i2402 := y2401.1
let l2408 := y2401.2.2.2.1
κ0 (i2402, (x.2.1, y2401.2.1, y2401.2.2.1, l2408, ())))))
def p_12 {R : Type} (N : Nat) (x : (Unit × (Int × (Int × Unit)) × (Nat → Int) × Unit) × Y1) (κ0 : (Int × Y1) → Option R) : Option R := Q_12 (p_46 N) (p_51 N) x κ0
def EG_12 {R : Type} (q_46 : Tp_46 R) (q_51 : Tp_51 R) : Env R := ((Env.base QQ LN AA).add 46 ap_46 hp_46 (fun (x : aden ap_46 × hden hp_46) k => q_46 x (fun y => k (Pat.inst (.int .i64) y) (instH hp_46 x.2)))).add 51 ap_51 hp_51 (fun (x : aden ap_51 × hden hp_51) k => q_51 x (fun y => k (Pat.inst (.int .i64) y.1) (instH J4 y.2)))
def LG_12 {R : Type} : Loops R := Loops.none
def E_12 {R : Type} (N : Nat) : Env R := EG_12 (p_46 N) (p_51 N)
theorem eok_12 {R : Type} (N : Nat) : EK Try.prog (E_12 (R := R) N) := ek_add (ek_add (ek_base _ _ _) (good_46 N)) (good_51 N)
def L_12 {R : Type} (N : Nat) : Loops R := LG_12
theorem lok_12 {R : Type} (N : Nat) : LOK 4 TT (E_12 (R := R) N) (drawAny TT WW) (L_12 N) (bodyOf Try.f12) := loops_nil (by kernel_rfl)
theorem grun_12 {R : Type} (q_46 : Tp_46 R) (q_51 : Tp_51 R) (x : aden ap_12 × hden hp_12) (k : KF R) : fnrun TT (EG_12 q_46 q_51) (drawAny TT WW) (LG_12) true Try.f12 (instA ap_12 x.1) (instH hp_12 x.2) k = Q_12 q_46 q_51 x (fun y => k (Pat.inst (.int .i64) y.1) (instH J0 y.2)) := by kernel_rfl
theorem run_12 {R : Type} (N : Nat) (x : aden ap_12 × hden hp_12) (k : KF R) : fnrun TT (E_12 (R := R) N) (drawAny TT WW) (L_12 N) true Try.f12 (instA ap_12 x.1) (instH hp_12 x.2) k = p_12 N x (fun y => k (Pat.inst (.int .i64) y.1) (instH J0 y.2)) := (grun_12 (p_46 N) (p_51 N) x k).trans (by kernel_rfl)
theorem good_12 {R : Type} (N : Nat) : GD (X := R) Try.prog QQ AA 12 ap_12 hp_12 (fun (x : aden ap_12 × hden hp_12) k => p_12 N x (fun y => k (Pat.inst (.int .i64) y.1) (instH J0 y.2))) :=
  gd_loud (E := E_12 N) (p := fun (x : aden ap_12 × hden hp_12) k => p_12 N x (fun y => k (Pat.inst (.int .i64) y.1) (instH J0 y.2))) mixed tyok (eok_12 N) Try.func12 (by kernel_rfl) (by kernel_rfl) (by kernel_rfl) (by kernel_rfl) (lok_12 N) (fun x k => run_12 N x k)

def lv_13_7 : Live := [(0, none), (1, none), (5, none), (17, none), (18, none), (21, none)]
def pt_13_7 : SPat := ⟨[(0, .ptr 0 []), (1, .str), (5, .int .i64), (17, .int .i64), (18, .int .i64), (21, .int .i64)], J0⟩
def px_13_7_0 : SPat := ⟨[(4, .int .i64)], J0⟩
def px_13_7_1 : SPat := ⟨[(0, .ptr 0 []), (1, .str), (17, .int .i64), (18, .int .i64)], J0⟩
def lo_13_7 : Exit → Live
  | .ret => [(4, none)]
  | .exit 2 => [(0, none), (1, none), (17, none), (18, none)]
  | _ => []
def lv_13_4 : Live := [(0, none), (1, none), (17, none), (18, none)]
def pt_13_4 : SPat := ⟨[(0, .ptr 0 []), (1, .str), (17, .int .i64), (18, .int .i64)], J0⟩
def px_13_4_0 : SPat := ⟨[(4, .int .i64)], J0⟩
def px_13_4_1 : SPat := ⟨[], J0⟩
def lo_13_4 : Exit → Live
  | .ret => [(4, none)]
  | .exit 0 => []
  | _ => []
def ap_13 : List Pat := [.ptr 0 [], .str]
def hp_13 : List (Option (Pat × Nat)) := J0
abbrev Tl_13_7 (R : Type) : Type := ((Unit × ByteArray × Int × Int × Int × Int × Unit) × Y1) → (((Int × Unit) × Y1) → Option R) → (((Unit × ByteArray × Int × Int × Unit) × Y1) → Option R) → Option R
abbrev Tl_13_4 (R : Type) : Type := ((Unit × ByteArray × Int × Int × Unit) × Y1) → (((Int × Unit) × Y1) → Option R) → (((Unit) × Y1) → Option R) → Option R
abbrev Tp_13 (R : Type) : Type := (Unit × ByteArray × Unit) × Y1 → ((Int × Y1) → Option R) → Option R
def C_13_7 {R : Type} (q_53 : Tp_53 R) (q_52 : Tp_52 R) (q_54 : Tp_54 R) (q_12 : Tp_12 R) (rec : ((Unit × ByteArray × Int × Int × Int × Int × Unit) × Y1) → Option R) (x : ((Unit × ByteArray × Int × Int × Int × Int × Unit) × Y1)) (κ0 : ((Int × Unit) × Y1) → Option R) (κ1 : ((Unit × ByteArray × Int × Int × Unit) × Y1) → Option R) : Option R :=
let s986 := x.1.2.1
let i987 := x.1.2.2.1
let i988 := x.1.2.2.2.1
let i989 := x.1.2.2.2.2.1
let i990 := x.1.2.2.2.2.2.1
let l1004 := x.2.2.2.2.1
bif (decide (i990 < 2)) then (
let i1005 : Int := IntKind.wrap .u32 i990
let i1006 : Int := IntKind.wrap .u32 i987
let l1007 : (List Int) := [i1005, i1006]
q_53 (((), ()), (l1007, ())) (fun y1031 =>
let l1032 := y1031.1
let s1034 : ByteArray := listStr l1032
let l1035 : (List ByteArray) := [s986, s1034]
q_52 (((), ()), (l1035, ())) (fun y2331 =>
let s2332 := y2331.1
q_54 ((s2332, ()), ()) (fun y2367 =>
let a2368 := y2367.1
q_12 (((), (i987, (i990, ())), a2368, ()), (x.2.1, x.2.2.1, x.2.2.2.1, l1004, ())) (fun y2409 =>
let i2410 := y2409.1
let l2424 := y2409.2.2.2.2.1
bif (i2410 != 0) then (
κ0 ((i2410, ()), (y2409.2.1, y2409.2.2.1, y2409.2.2.2.1, l2424, ()))) else (
let i2425 : Int := addA .i64 i990 1
rec (((), s986, i987, i988, i989, i2425, ()), (y2409.2.1, y2409.2.2.1, y2409.2.2.2.1, l2424, ())))))))) else (
κ1 (((), s986, i988, i989, ()), (x.2.1, x.2.2.1, x.2.2.2.1, l1004, ())))
def C_13_4 {R : Type} (m_13_7 : Tl_13_7 R) (rec : ((Unit × ByteArray × Int × Int × Unit) × Y1) → Option R) (x : ((Unit × ByteArray × Int × Int × Unit) × Y1)) (κ0 : ((Int × Unit) × Y1) → Option R) (κ1 : ((Unit) × Y1) → Option R) : Option R :=
let s969 := x.1.2.1
let i970 := x.1.2.2.1
let i971 := x.1.2.2.2.1
let l985 := x.2.2.2.2.1
bif (decide (i971 < i970)) then (
m_13_7 (((), s969, i971, i970, i971, 0, ()), (x.2.1, x.2.2.1, x.2.2.2.1, l985, ())) (fun y2426 =>
let l2441 := y2426.2.2.2.2.1
κ0 (y2426.1, (y2426.2.1, y2426.2.2.1, y2426.2.2.2.1, l2441, ()))) (fun y2442 =>
let s2443 := y2442.1.2.1
let i2444 := y2442.1.2.2.1
let i2445 := y2442.1.2.2.2.1
let l2459 := y2442.2.2.2.2.1
let i2460 : Int := addA .i64 i2445 1
rec (((), s2443, i2444, i2460, ()), (y2442.2.1, y2442.2.2.1, y2442.2.2.2.1, l2459, ())))) else (
κ1 ((), (x.2.1, x.2.2.1, x.2.2.2.1, l985, ())))
def B_13_7 {R : Type} (N : Nat) (rec : ((Unit × ByteArray × Int × Int × Int × Int × Unit) × Y1) → Option R) (x : ((Unit × ByteArray × Int × Int × Int × Int × Unit) × Y1)) (κ0 : ((Int × Unit) × Y1) → Option R) (κ1 : ((Unit × ByteArray × Int × Int × Unit) × Y1) → Option R) : Option R := C_13_7 (p_53 N) (p_52 N) (p_54 N) (p_12 N) rec x κ0 κ1
def l_13_7 {R : Type} (N : Nat) : Nat → ((Unit × ByteArray × Int × Int × Int × Int × Unit) × Y1) → (((Int × Unit) × Y1) → Option R) → (((Unit × ByteArray × Int × Int × Unit) × Y1) → Option R) → Option R
  | 0, _, _, _ => none
  | n + 1, x, κ0, κ1 => B_13_7 N (fun y => l_13_7 N n y κ0 κ1) x κ0 κ1
def B_13_4 {R : Type} (N : Nat) (rec : ((Unit × ByteArray × Int × Int × Unit) × Y1) → Option R) (x : ((Unit × ByteArray × Int × Int × Unit) × Y1)) (κ0 : ((Int × Unit) × Y1) → Option R) (κ1 : ((Unit) × Y1) → Option R) : Option R := C_13_4 (l_13_7 N N) rec x κ0 κ1
def l_13_4 {R : Type} (N : Nat) : Nat → ((Unit × ByteArray × Int × Int × Unit) × Y1) → (((Int × Unit) × Y1) → Option R) → (((Unit) × Y1) → Option R) → Option R
  | 0, _, _, _ => none
  | n + 1, x, κ0, κ1 => B_13_4 N (fun y => l_13_4 N n y κ0 κ1) x κ0 κ1
def Q_13 {R : Type} (q_53 : Tp_53 R) (q_52 : Tp_52 R) (q_54 : Tp_54 R) (q_12 : Tp_12 R) (m_13_7 : Tl_13_7 R) (m_13_4 : Tl_13_4 R) (x : (Unit × ByteArray × Unit) × Y1) (κ0 : (Int × Y1) → Option R) : Option R :=
let s954 := x.1.2.1
let i957 := x.2.1.2.1.2.2.1
let l968 := x.2.2.2.2.1
m_13_4 (((), s954, i957, 0, ()), (x.2.1, x.2.2.1, x.2.2.2.1, l968, ())) (fun y2461 =>
let i2462 := y2461.1.1
let l2476 := y2461.2.2.2.2.1
κ0 (i2462, (y2461.2.1, y2461.2.2.1, y2461.2.2.2.1, l2476, ()))) (fun y2477 =>
let l2491 := y2477.2.2.2.2.1
κ0 (0, (y2477.2.1, y2477.2.2.1, y2477.2.2.2.1, l2491, ())))
def p_13 {R : Type} (N : Nat) (x : (Unit × ByteArray × Unit) × Y1) (κ0 : (Int × Y1) → Option R) : Option R := Q_13 (p_53 N) (p_52 N) (p_54 N) (p_12 N) (l_13_7 N N) (l_13_4 N N) x κ0
def EG_13 {R : Type} (q_53 : Tp_53 R) (q_52 : Tp_52 R) (q_54 : Tp_54 R) (q_12 : Tp_12 R) : Env R := ((((Env.base QQ LN AA).add 53 ap_53 hp_53 (fun (x : aden ap_53 × hden hp_53) k => q_53 x (fun y => k (Pat.inst (.ros (.int .u8)) y.1) (instH [some (.lst (.int .u32), 78)] y.2)))).add 52 ap_52 hp_52 (fun (x : aden ap_52 × hden hp_52) k => q_52 x (fun y => k (Pat.inst (.str) y.1) (instH [some (.lst (.str), 9)] y.2)))).add 54 ap_54 hp_54 (fun (x : aden ap_54 × hden hp_54) k => q_54 x (fun y => k (Pat.inst (.tup (.fcons (.vec (.int .u64) 128) (.fcons (.int .i64) (.fnil)))) y) (instH hp_54 x.2)))).add 12 ap_12 hp_12 (fun (x : aden ap_12 × hden hp_12) k => q_12 x (fun y => k (Pat.inst (.int .i64) y.1) (instH J0 y.2)))
def LG_13 {R : Type} (m_13_7 : Tl_13_7 R) (m_13_4 : Tl_13_4 R) : Loops R := ((Loops.none).add 7 (loopBy 4 lv_13_7 pt_13_7 (fun x k => m_13_7 x (fun y => k .ret (px_13_7_0.inst y)) (fun y => k (.exit 2) (px_13_7_1.inst y))))).add 4 (loopBy 4 lv_13_4 pt_13_4 (fun x k => m_13_4 x (fun y => k .ret (px_13_4_0.inst y)) (fun y => k (.exit 0) (px_13_4_1.inst y))))
def E_13 {R : Type} (N : Nat) : Env R := EG_13 (p_53 N) (p_52 N) (p_54 N) (p_12 N)
theorem eok_13 {R : Type} (N : Nat) : EK Try.prog (E_13 (R := R) N) := ek_add (ek_add (ek_add (ek_add (ek_base _ _ _) (good_53 N)) (good_52 N)) (good_54 N)) (good_12 N)
def L_13 {R : Type} (N : Nat) : Loops R := LG_13 (l_13_7 N N) (l_13_4 N N)
theorem gstep_13_7 {R : Type} (q_53 : Tp_53 R) (q_52 : Tp_52 R) (q_54 : Tp_54 R) (q_12 : Tp_12 R) (m_13_7 : Tl_13_7 R) (m_13_4 : Tl_13_4 R) (n : Nat) (x : pt_13_7.den) (k : Exit → St → Option R) : iter 4 lv_13_7 lo_13_7 (aexec TT (EG_13 q_53 q_52 q_54 q_12) (drawAny TT WW) (LG_13 m_13_7 m_13_4) (loopAt 7 (bodyOf Try.f13))) (n + 1) (pt_13_7.inst x) k = C_13_7 q_53 q_52 q_54 q_12 (fun y => iter 4 lv_13_7 lo_13_7 (aexec TT (EG_13 q_53 q_52 q_54 q_12) (drawAny TT WW) (LG_13 m_13_7 m_13_4) (loopAt 7 (bodyOf Try.f13))) n (pt_13_7.inst y) k) x (fun y => k .ret (px_13_7_0.inst y)) (fun y => k (.exit 2) (px_13_7_1.inst y)) := by kernel_rfl
theorem step_13_7 {R : Type} (N n : Nat) (x : pt_13_7.den) (k : Exit → St → Option R) : iter 4 lv_13_7 lo_13_7 (aexec TT (E_13 (R := R) N) (drawAny TT WW) (L_13 N) (loopAt 7 (bodyOf Try.f13))) (n + 1) (pt_13_7.inst x) k = B_13_7 N (fun y => iter 4 lv_13_7 lo_13_7 (aexec TT (E_13 (R := R) N) (drawAny TT WW) (L_13 N) (loopAt 7 (bodyOf Try.f13))) n (pt_13_7.inst y) k) x (fun y => k .ret (px_13_7_0.inst y)) (fun y => k (.exit 2) (px_13_7_1.inst y)) := (gstep_13_7 (p_53 N) (p_52 N) (p_54 N) (p_12 N) (l_13_7 N N) (l_13_4 N N) n x k).trans (by kernel_rfl)
theorem eq_13_7 {R : Type} (N : Nat) : ∀ (n : Nat) (x : pt_13_7.den) (k : Exit → St → Option R), iter 4 lv_13_7 lo_13_7 (aexec TT (E_13 (R := R) N) (drawAny TT WW) (L_13 N) (loopAt 7 (bodyOf Try.f13))) n (pt_13_7.inst x) k = l_13_7 N n x (fun y => k .ret (px_13_7_0.inst y)) (fun y => k (.exit 2) (px_13_7_1.inst y)) :=
  iter_eq (K := Exit → St → Option R) (ks := fun k => k) (l := fun n (x : pt_13_7.den) k => l_13_7 N n x (fun y => k .ret (px_13_7_0.inst y)) (fun y => k (.exit 2) (px_13_7_1.inst y))) (B := fun (rec : pt_13_7.den → Option R) (x : pt_13_7.den) k => B_13_7 N rec x (fun y => k .ret (px_13_7_0.inst y)) (fun y => k (.exit 2) (px_13_7_1.inst y))) (fun _ _ => rfl) (fun _ _ _ => rfl) (fun n x k => step_13_7 N n x k)
theorem rounds_13_7 {R : Type} (N : Nat) : Rounds 4 TT (E_13 (R := R) N) (drawAny TT WW) (L_13 N) 7 (loopAt 7 (bodyOf Try.f13)) :=
  rounds_of (p := pt_13_7) (l := fun (x : pt_13_7.den) k => l_13_7 N N x (fun y => k .ret (px_13_7_0.inst y)) (fun y => k (.exit 2) (px_13_7_1.inst y))) (fun s k => rfl) (fun x k => eq_13_7 N N x k)
theorem gstep_13_4 {R : Type} (q_53 : Tp_53 R) (q_52 : Tp_52 R) (q_54 : Tp_54 R) (q_12 : Tp_12 R) (m_13_7 : Tl_13_7 R) (m_13_4 : Tl_13_4 R) (n : Nat) (x : pt_13_4.den) (k : Exit → St → Option R) : iter 4 lv_13_4 lo_13_4 (aexec TT (EG_13 q_53 q_52 q_54 q_12) (drawAny TT WW) (LG_13 m_13_7 m_13_4) (loopAt 4 (bodyOf Try.f13))) (n + 1) (pt_13_4.inst x) k = C_13_4 m_13_7 (fun y => iter 4 lv_13_4 lo_13_4 (aexec TT (EG_13 q_53 q_52 q_54 q_12) (drawAny TT WW) (LG_13 m_13_7 m_13_4) (loopAt 4 (bodyOf Try.f13))) n (pt_13_4.inst y) k) x (fun y => k .ret (px_13_4_0.inst y)) (fun y => k (.exit 0) (px_13_4_1.inst y)) := by kernel_rfl
theorem step_13_4 {R : Type} (N n : Nat) (x : pt_13_4.den) (k : Exit → St → Option R) : iter 4 lv_13_4 lo_13_4 (aexec TT (E_13 (R := R) N) (drawAny TT WW) (L_13 N) (loopAt 4 (bodyOf Try.f13))) (n + 1) (pt_13_4.inst x) k = B_13_4 N (fun y => iter 4 lv_13_4 lo_13_4 (aexec TT (E_13 (R := R) N) (drawAny TT WW) (L_13 N) (loopAt 4 (bodyOf Try.f13))) n (pt_13_4.inst y) k) x (fun y => k .ret (px_13_4_0.inst y)) (fun y => k (.exit 0) (px_13_4_1.inst y)) := (gstep_13_4 (p_53 N) (p_52 N) (p_54 N) (p_12 N) (l_13_7 N N) (l_13_4 N N) n x k).trans (by kernel_rfl)
theorem eq_13_4 {R : Type} (N : Nat) : ∀ (n : Nat) (x : pt_13_4.den) (k : Exit → St → Option R), iter 4 lv_13_4 lo_13_4 (aexec TT (E_13 (R := R) N) (drawAny TT WW) (L_13 N) (loopAt 4 (bodyOf Try.f13))) n (pt_13_4.inst x) k = l_13_4 N n x (fun y => k .ret (px_13_4_0.inst y)) (fun y => k (.exit 0) (px_13_4_1.inst y)) :=
  iter_eq (K := Exit → St → Option R) (ks := fun k => k) (l := fun n (x : pt_13_4.den) k => l_13_4 N n x (fun y => k .ret (px_13_4_0.inst y)) (fun y => k (.exit 0) (px_13_4_1.inst y))) (B := fun (rec : pt_13_4.den → Option R) (x : pt_13_4.den) k => B_13_4 N rec x (fun y => k .ret (px_13_4_0.inst y)) (fun y => k (.exit 0) (px_13_4_1.inst y))) (fun _ _ => rfl) (fun _ _ _ => rfl) (fun n x k => step_13_4 N n x k)
theorem rounds_13_4 {R : Type} (N : Nat) : Rounds 4 TT (E_13 (R := R) N) (drawAny TT WW) (L_13 N) 4 (loopAt 4 (bodyOf Try.f13)) :=
  rounds_of (p := pt_13_4) (l := fun (x : pt_13_4.den) k => l_13_4 N N x (fun y => k .ret (px_13_4_0.inst y)) (fun y => k (.exit 0) (px_13_4_1.inst y))) (fun s k => rfl) (fun x k => eq_13_4 N N x k)
theorem loops_13 : loopsIn (bodyOf Try.f13) = [(4, loopAt 4 (bodyOf Try.f13)), (7, loopAt 7 (bodyOf Try.f13))] := by kernel_rfl
theorem lok_13 {R : Type} (N : Nat) : LOK 4 TT (E_13 (R := R) N) (drawAny TT WW) (L_13 N) (bodyOf Try.f13) := loops_all loops_13 (by
  simp only [List.forall_mem_cons, List.not_mem_nil, false_implies, implies_true, and_true]
  exact ⟨rounds_13_4 N, rounds_13_7 N⟩)
theorem grun_13 {R : Type} (q_53 : Tp_53 R) (q_52 : Tp_52 R) (q_54 : Tp_54 R) (q_12 : Tp_12 R) (m_13_7 : Tl_13_7 R) (m_13_4 : Tl_13_4 R) (x : aden ap_13 × hden hp_13) (k : KF R) : fnrun TT (EG_13 q_53 q_52 q_54 q_12) (drawAny TT WW) (LG_13 m_13_7 m_13_4) true Try.f13 (instA ap_13 x.1) (instH hp_13 x.2) k = Q_13 q_53 q_52 q_54 q_12 m_13_7 m_13_4 x (fun y => k (Pat.inst (.int .i64) y.1) (instH J0 y.2)) := by kernel_rfl
theorem run_13 {R : Type} (N : Nat) (x : aden ap_13 × hden hp_13) (k : KF R) : fnrun TT (E_13 (R := R) N) (drawAny TT WW) (L_13 N) true Try.f13 (instA ap_13 x.1) (instH hp_13 x.2) k = p_13 N x (fun y => k (Pat.inst (.int .i64) y.1) (instH J0 y.2)) := (grun_13 (p_53 N) (p_52 N) (p_54 N) (p_12 N) (l_13_7 N N) (l_13_4 N N) x k).trans (by kernel_rfl)
theorem good_13 {R : Type} (N : Nat) : GD (X := R) Try.prog QQ AA 13 ap_13 hp_13 (fun (x : aden ap_13 × hden hp_13) k => p_13 N x (fun y => k (Pat.inst (.int .i64) y.1) (instH J0 y.2))) :=
  gd_loud (E := E_13 N) (p := fun (x : aden ap_13 × hden hp_13) k => p_13 N x (fun y => k (Pat.inst (.int .i64) y.1) (instH J0 y.2))) mixed tyok (eok_13 N) Try.func13 (by kernel_rfl) (by kernel_rfl) (by kernel_rfl) (by kernel_rfl) (lok_13 N) (fun x k => run_13 N x k)

def ap_13_v1 : List Pat := [.nilp, .str]
def hp_13_v1 : List (Option (Pat × Nat)) := []
abbrev Tp_13_v1 (R : Type) : Type := (Unit × ByteArray × Unit) × (Unit) → ((Int × (Unit)) → Option R) → Option R
def Q_13_v1 {R : Type} (x : (Unit × ByteArray × Unit) × (Unit)) (κ0 : (Int × (Unit)) → Option R) : Option R :=
κ0 (11, ())
def p_13_v1 {R : Type} (N : Nat) (x : (Unit × ByteArray × Unit) × (Unit)) (κ0 : (Int × (Unit)) → Option R) : Option R := Q_13_v1 x κ0
def EG_13_v1 {R : Type} : Env R := Env.base QQ LN AA
def LG_13_v1 {R : Type} : Loops R := Loops.none
def E_13_v1 {R : Type} (N : Nat) : Env R := EG_13_v1
theorem eok_13_v1 {R : Type} (N : Nat) : EK Try.prog (E_13_v1 (R := R) N) := ek_base _ _ _
def L_13_v1 {R : Type} (N : Nat) : Loops R := LG_13_v1
theorem loops_13_v1 : loopsIn (bodyOf Try.f13) = [(4, loopAt 4 (bodyOf Try.f13)), (7, loopAt 7 (bodyOf Try.f13))] := by kernel_rfl
theorem lok_13_v1 {R : Type} (N : Nat) : LOK 0 TT (E_13_v1 (R := R) N) (drawAny TT WW) (L_13_v1 N) (bodyOf Try.f13) := loops_all loops_13_v1 (by
  simp only [List.forall_mem_cons, List.not_mem_nil, false_implies, implies_true, and_true]
  exact ⟨rounds_none (fun _ _ => rfl), rounds_none (fun _ _ => rfl)⟩)
theorem grun_13_v1 {R : Type} (x : aden ap_13_v1 × hden hp_13_v1) (k : KF R) : fnrun TT (EG_13_v1) (drawAny TT WW) (LG_13_v1) true Try.f13 (instA ap_13_v1 x.1) (instH hp_13_v1 x.2) k = Q_13_v1 x (fun y => k (Pat.inst (.int .i64) y.1) (instH [] y.2)) := by kernel_rfl
theorem run_13_v1 {R : Type} (N : Nat) (x : aden ap_13_v1 × hden hp_13_v1) (k : KF R) : fnrun TT (E_13_v1 (R := R) N) (drawAny TT WW) (L_13_v1 N) true Try.f13 (instA ap_13_v1 x.1) (instH hp_13_v1 x.2) k = p_13_v1 N x (fun y => k (Pat.inst (.int .i64) y.1) (instH [] y.2)) := (grun_13_v1 x k).trans (by kernel_rfl)
theorem good_13_v1 {R : Type} (N : Nat) : GD (X := R) Try.prog QQ AA 13 ap_13_v1 hp_13_v1 (fun (x : aden ap_13_v1 × hden hp_13_v1) k => p_13_v1 N x (fun y => k (Pat.inst (.int .i64) y.1) (instH [] y.2))) :=
  gd_loud (E := E_13_v1 N) (p := fun (x : aden ap_13_v1 × hden hp_13_v1) k => p_13_v1 N x (fun y => k (Pat.inst (.int .i64) y.1) (instH [] y.2))) mixed tyok (eok_13_v1 N) Try.func13 (by kernel_rfl) (by kernel_rfl) (by kernel_rfl) (by kernel_rfl) (lok_13_v1 N) (fun x k => run_13_v1 N x k)

def ap_75 : List Pat := [.vec (.int .u64) 128, .vec (.int .u64) 128, .sl 0]
def hp_75 : List (Option (Pat × Nat)) := [some (.lst (.arr 128 (.int .u64)), 29)]
abbrev Tp_75 (R : Type) : Type := ((Nat → Int) × (Nat → Int) × Unit × Unit) × ((List (Nat → Int)) × Unit) → ((Nat → Int) → Option R) → Option R
def Q_75 {R : Type} (q_95 : Tp_95 R) (q_48 : Tp_48 R) (x : ((Nat → Int) × (Nat → Int) × Unit × Unit) × ((List (Nat → Int)) × Unit)) (κ0 : (Nat → Int) → Option R) : Option R :=
let a2692 := x.1.1
let a2693 := x.1.2.1
let l2694 := x.2.1
q_95 ((a2692, a2693, ()), ()) (fun y2695 =>
let a2696 : (Nat → Int) := y2695
let l2697 : (List (Nat → Int)) := [a2696]
bif (decide ((List.length l2697 + List.length l2694) * 1024 ≤ 140737488355328) && true) then (
let l2698 : (List (Nat → Int)) := (l2697 ++ l2694)
q_48 ((l2698, ()), ()) (fun y2699 =>
let a2700 : (Nat → Int) := y2699
κ0 a2700)) else none)
def p_75 {R : Type} (N : Nat) (x : ((Nat → Int) × (Nat → Int) × Unit × Unit) × ((List (Nat → Int)) × Unit)) (κ0 : (Nat → Int) → Option R) : Option R := Q_75 (p_95 N) (p_48 N) x κ0
def EG_75 {R : Type} (q_95 : Tp_95 R) (q_48 : Tp_48 R) : Env R := ((Env.base QQ LN AA).add 95 ap_95 hp_95 (fun (x : aden ap_95 × hden hp_95) k => q_95 x (fun y => k (Pat.inst (.vec (.int .u64) 128) y) (instH hp_95 x.2)))).add 48 ap_48 hp_48 (fun (x : aden ap_48 × hden hp_48) k => q_48 x (fun y => k (Pat.inst (.vec (.int .u64) 128) y) (instH hp_48 x.2)))
def LG_75 {R : Type} : Loops R := Loops.none
def E_75 {R : Type} (N : Nat) : Env R := EG_75 (p_95 N) (p_48 N)
theorem eok_75 {R : Type} (N : Nat) : EK Try.prog (E_75 (R := R) N) := ek_add (ek_add (ek_base _ _ _) (good_95 N)) (good_48 N)
def L_75 {R : Type} (N : Nat) : Loops R := LG_75
theorem lok_75 {R : Type} (N : Nat) : LOK 1 TT (E_75 (R := R) N) (drawAny TT WW) (L_75 N) (bodyOf Try.f75) := loops_nil (by kernel_rfl)
theorem grun_75 {R : Type} (q_95 : Tp_95 R) (q_48 : Tp_48 R) (x : aden ap_75 × hden hp_75) (k : KF R) : fnrun TT (EG_75 q_95 q_48) (drawAny TT WW) (LG_75) true Try.f75 (instA ap_75 x.1) (instH hp_75 x.2) k = Q_75 q_95 q_48 x (fun y => k (Pat.inst (.vec (.int .u64) 128) y) (instH hp_75 x.2)) := by kernel_rfl
theorem run_75 {R : Type} (N : Nat) (x : aden ap_75 × hden hp_75) (k : KF R) : fnrun TT (E_75 (R := R) N) (drawAny TT WW) (L_75 N) true Try.f75 (instA ap_75 x.1) (instH hp_75 x.2) k = p_75 N x (fun y => k (Pat.inst (.vec (.int .u64) 128) y) (instH hp_75 x.2)) := (grun_75 (p_95 N) (p_48 N) x k).trans (by kernel_rfl)
theorem good_75 {R : Type} (N : Nat) : GD (X := R) Try.prog QQ AA 75 ap_75 hp_75 (fun (x : aden ap_75 × hden hp_75) k => p_75 N x (fun y => k (Pat.inst (.vec (.int .u64) 128) y) (instH hp_75 x.2))) :=
  gd_quiet (E := E_75 N) (p := fun (x : aden ap_75 × hden hp_75) κ => p_75 N x (fun y => κ (Pat.inst (.vec (.int .u64) 128) y))) mixed tyok (eok_75 N) Try.func75 (by kernel_rfl) (by kernel_rfl) (lok_75 N) (fun x k => run_75 N x k)

def ap_39 : List Pat := [.ptr 0 [], .node (.fcons (.int .i64) (.fcons (.int .i64) (.fnil))), .node (.fcons Z7 (.fcons Z7 (.fcons Z7 (.fnil))))]
def hp_39 : List (Option (Pat × Nat)) := J0
abbrev Tp_39 (R : Type) : Type := (Unit × (Int × (Int × Unit)) × ((Int × (Int × Unit)) × ((Int × (Int × Unit)) × ((Int × (Int × Unit)) × Unit))) × Unit) × Y1 → ((Int × Y1) → Option R) → Option R
def Q_39 {R : Type} (q_9 : Tp_9 R) (q_75 : Tp_75 R) (q_12 : Tp_12 R) (x : (Unit × (Int × (Int × Unit)) × ((Int × (Int × Unit)) × ((Int × (Int × Unit)) × ((Int × (Int × Unit)) × Unit))) × Unit) × Y1) (κ0 : (Int × Y1) → Option R) : Option R :=
let i2659 := x.1.2.1.1
let l2680 := x.2.2.2.2.1
q_9 (((), x.1.2.2.1.2.1, ()), (x.2.1, x.2.2.1, x.2.2.2.1, l2680, ())) (fun y2681 =>
let a2682 := y2681.1
let i2683 := y2681.2.1
bif (i2683 != 0) then (
κ0 (i2683, (x.2.1, x.2.2.1, x.2.2.2.1, l2680, ()))) else (
q_9 (((), x.1.2.2.1.2.2.1, ()), (x.2.1, x.2.2.1, x.2.2.2.1, l2680, ())) (fun y2684 =>
let a2685 := y2684.1
let i2686 := y2684.2.1
bif (i2686 != 0) then (
κ0 (i2686, (x.2.1, x.2.2.1, x.2.2.2.1, l2680, ()))) else (
q_9 (((), x.1.2.2.1.1, ()), (x.2.1, x.2.2.1, x.2.2.2.1, l2680, ())) (fun y2687 =>
let a2688 := y2687.1
let i2689 := y2687.2.1
bif (i2689 != 0) then (
κ0 (i2689, (x.2.1, x.2.2.1, x.2.2.2.1, l2680, ()))) else (
bif (i2659 == 0) then (
let a2690 : (Nat → Int) := (Sch.zero (.arr 128 (.int .u64)))
let l2691 : (List (Nat → Int)) := [a2690]
q_75 ((a2682, a2685, (), ()), (l2691, ())) (fun y2701 =>
let a2702 := y2701
q_12 (((), x.1.2.2.1.1, a2702, ()), (x.2.1, x.2.2.1, x.2.2.2.1, l2680, ())) (fun y2703 =>
let i2704 := y2703.1
let l2718 := y2703.2.2.2.2.1
κ0 (i2704, (y2703.2.1, y2703.2.2.1, y2703.2.2.2.1, l2718, ()))))) else (
let l2719 : (List (Nat → Int)) := [a2688]
q_75 ((a2682, a2685, (), ()), (l2719, ())) (fun y2720 =>
let a2721 : (Nat → Int) := y2720
q_12 (((), x.1.2.2.1.1, a2721, ()), (x.2.1, x.2.2.1, x.2.2.2.1, l2680, ())) (fun y2722 =>
let i2723 := y2722.1
let l2737 := y2722.2.2.2.2.1
κ0 (i2723, (y2722.2.1, y2722.2.2.1, y2722.2.2.2.1, l2737, ())))))))))))
def p_39 {R : Type} (N : Nat) (x : (Unit × (Int × (Int × Unit)) × ((Int × (Int × Unit)) × ((Int × (Int × Unit)) × ((Int × (Int × Unit)) × Unit))) × Unit) × Y1) (κ0 : (Int × Y1) → Option R) : Option R := Q_39 (p_9 N) (p_75 N) (p_12 N) x κ0
def EG_39 {R : Type} (q_9 : Tp_9 R) (q_75 : Tp_75 R) (q_12 : Tp_12 R) : Env R := (((Env.base QQ LN AA).add 9 ap_9 hp_9 (fun (x : aden ap_9 × hden hp_9) k => q_9 x (fun y => k (Pat.inst (.tup (.fcons (.vec (.int .u64) 128) (.fcons (.int .i64) (.fnil)))) y) (instH hp_9 x.2)))).add 75 ap_75 hp_75 (fun (x : aden ap_75 × hden hp_75) k => q_75 x (fun y => k (Pat.inst (.vec (.int .u64) 128) y) (instH hp_75 x.2)))).add 12 ap_12 hp_12 (fun (x : aden ap_12 × hden hp_12) k => q_12 x (fun y => k (Pat.inst (.int .i64) y.1) (instH J0 y.2)))
def LG_39 {R : Type} : Loops R := Loops.none
def E_39 {R : Type} (N : Nat) : Env R := EG_39 (p_9 N) (p_75 N) (p_12 N)
theorem eok_39 {R : Type} (N : Nat) : EK Try.prog (E_39 (R := R) N) := ek_add (ek_add (ek_add (ek_base _ _ _) (good_9 N)) (good_75 N)) (good_12 N)
def L_39 {R : Type} (N : Nat) : Loops R := LG_39
theorem lok_39 {R : Type} (N : Nat) : LOK 4 TT (E_39 (R := R) N) (drawAny TT WW) (L_39 N) (bodyOf Try.f39) := loops_nil (by kernel_rfl)
theorem grun_39 {R : Type} (q_9 : Tp_9 R) (q_75 : Tp_75 R) (q_12 : Tp_12 R) (x : aden ap_39 × hden hp_39) (k : KF R) : fnrun TT (EG_39 q_9 q_75 q_12) (drawAny TT WW) (LG_39) true Try.f39 (instA ap_39 x.1) (instH hp_39 x.2) k = Q_39 q_9 q_75 q_12 x (fun y => k (Pat.inst (.int .i64) y.1) (instH J0 y.2)) := by kernel_rfl
theorem run_39 {R : Type} (N : Nat) (x : aden ap_39 × hden hp_39) (k : KF R) : fnrun TT (E_39 (R := R) N) (drawAny TT WW) (L_39 N) true Try.f39 (instA ap_39 x.1) (instH hp_39 x.2) k = p_39 N x (fun y => k (Pat.inst (.int .i64) y.1) (instH J0 y.2)) := (grun_39 (p_9 N) (p_75 N) (p_12 N) x k).trans (by kernel_rfl)
theorem good_39 {R : Type} (N : Nat) : GD (X := R) Try.prog QQ AA 39 ap_39 hp_39 (fun (x : aden ap_39 × hden hp_39) k => p_39 N x (fun y => k (Pat.inst (.int .i64) y.1) (instH J0 y.2))) :=
  gd_loud (E := E_39 N) (p := fun (x : aden ap_39 × hden hp_39) k => p_39 N x (fun y => k (Pat.inst (.int .i64) y.1) (instH J0 y.2))) mixed tyok (eok_39 N) Try.func39 (by kernel_rfl) (by kernel_rfl) (by kernel_rfl) (by kernel_rfl) (lok_39 N) (fun x k => run_39 N x k)

def lv_31_5 : Live := [(0, none), (2, none), (4, none), (7, none), (8, none)]
def pt_31_5 : SPat := ⟨[(0, .ptr 0 []), (2, .int .i64), (4, .ptr 4 []), (7, .ptr 5 []), (8, .int .i64)], [some (Z4, 49), some (Z2, 147), some (Z1, 145), some (.lst (.arr 128 (.int .u64)), 29), some (Z7, 69), some (Z3, 132)]⟩
def px_31_5_0 : SPat := ⟨[(6, .int .i64)], J0⟩
def px_31_5_1 : SPat := ⟨[], J0⟩
def lo_31_5 : Exit → Live
  | .ret => [(6, none)]
  | .exit 0 => []
  | _ => []
def ap_31 : List Pat := [.ptr 0 [], .node (.fcons (.int .i64) (.fcons (.int .i64) (.fnil))), .int .i64]
def hp_31 : List (Option (Pat × Nat)) := J0
abbrev Tl_31_5 (R : Type) : Type := ((Unit × Int × Unit × Unit × Int × Unit) × ((Unit × (Y0 × Unit)) × Y3 × Y2 × (List (Nat → Int)) × (Int × (Int × Unit)) × Y9 × Unit)) → (((Int × Unit) × Y1) → Option R) → (((Unit) × Y1) → Option R) → Option R
abbrev Tp_31 (R : Type) : Type := (Unit × (Int × (Int × Unit)) × Int × Unit) × Y1 → ((Int × Y1) → Option R) → Option R
def C_31_5 {R : Type} (q_35 : Tp_35 R) (q_39 : Tp_39 R) (rec : ((Unit × Int × Unit × Unit × Int × Unit) × ((Unit × (Y0 × Unit)) × Y3 × Y2 × (List (Nat → Int)) × (Int × (Int × Unit)) × Y9 × Unit)) → Option R) (x : ((Unit × Int × Unit × Unit × Int × Unit) × ((Unit × (Y0 × Unit)) × Y3 × Y2 × (List (Nat → Int)) × (Int × (Int × Unit)) × Y9 × Unit))) (κ0 : ((Int × Unit) × Y1) → Option R) (κ1 : ((Unit) × Y1) → Option R) : Option R :=
let i2593 := x.1.2.1
let i2594 := x.1.2.2.2.2.1
let i2601 := x.2.1.2.1.2.2.2.2.2.2.1
let l2608 := x.2.2.2.2.1
bif (decide (i2594 < i2601)) then (
q_35 (((), x.2.2.2.2.2.1, i2593, i2594, (), ()), (x.2.1, x.2.2.1, x.2.2.2.1, l2608, x.2.2.2.2.2.2.1, ())) (fun y2624 =>
let i2631 := y2624.1.2.1
let l2645 := y2624.2.2.2.2.1
bif (i2631 != 0) then (
κ0 (y2624.1.2, (y2624.2.1, y2624.2.2.1, y2624.2.2.2.1, l2645, ()))) else (
q_39 (((), x.2.2.2.2.2.1, y2624.1.1, ()), (y2624.2.1, y2624.2.2.1, y2624.2.2.2.1, l2645, ())) (fun y2738 =>
let i2739 := y2738.1
let l2753 := y2738.2.2.2.2.1
bif (i2739 != 0) then (
κ0 ((i2739, ()), (y2738.2.1, y2738.2.2.1, y2738.2.2.2.1, l2753, ()))) else (
let i2754 : Int := addA .i64 i2594 1
rec (((), i2593, (), (), i2754, ()), (y2738.2.1, y2738.2.2.1, y2738.2.2.2.1, l2753, x.2.2.2.2.2.1, y2624.2.2.2.2.2.1, ()))))))) else (
κ1 ((), (x.2.1, x.2.2.1, x.2.2.2.1, l2608, ())))
def B_31_5 {R : Type} (N : Nat) (rec : ((Unit × Int × Unit × Unit × Int × Unit) × ((Unit × (Y0 × Unit)) × Y3 × Y2 × (List (Nat → Int)) × (Int × (Int × Unit)) × Y9 × Unit)) → Option R) (x : ((Unit × Int × Unit × Unit × Int × Unit) × ((Unit × (Y0 × Unit)) × Y3 × Y2 × (List (Nat → Int)) × (Int × (Int × Unit)) × Y9 × Unit))) (κ0 : ((Int × Unit) × Y1) → Option R) (κ1 : ((Unit) × Y1) → Option R) : Option R := C_31_5 (p_35 N) (p_39 N) rec x κ0 κ1
def l_31_5 {R : Type} (N : Nat) : Nat → ((Unit × Int × Unit × Unit × Int × Unit) × ((Unit × (Y0 × Unit)) × Y3 × Y2 × (List (Nat → Int)) × (Int × (Int × Unit)) × Y9 × Unit)) → (((Int × Unit) × Y1) → Option R) → (((Unit) × Y1) → Option R) → Option R
  | 0, _, _, _ => none
  | n + 1, x, κ0, κ1 => B_31_5 N (fun y => l_31_5 N n y κ0 κ1) x κ0 κ1
def Q_31 {R : Type} (q_33 : Tp_33 R) (q_30 : Tp_30 R) (q_35 : Tp_35 R) (q_39 : Tp_39 R) (m_31_5 : Tl_31_5 R) (x : (Unit × (Int × (Int × Unit)) × Int × Unit) × Y1) (κ0 : (Int × Y1) → Option R) : Option R :=
let i2560 := x.1.2.1.1
let i2561 := x.1.2.1.2.1
let i2562 := x.1.2.2.1
let l2576 := x.2.2.2.2.1
q_33 ((x.2.1.2.1, x.1.2.1, i2562, ()), ()) (fun y2577 =>
q_30 ((x.2.1.2.1, i2560, i2561, ()), ()) (fun y2591 =>
let i2592 := y2591
m_31_5 (((), i2562, (), (), i2592, ()), (x.2.1, x.2.2.1, x.2.2.2.1, l2576, x.1.2.1, y2577.2.1, ())) (fun y2755 =>
let i2756 := y2755.1.1
let l2770 := y2755.2.2.2.2.1
κ0 (i2756, (y2755.2.1, y2755.2.2.1, y2755.2.2.2.1, l2770, ()))) (fun y2771 =>
let l2785 := y2771.2.2.2.2.1
κ0 (0, (y2771.2.1, y2771.2.2.1, y2771.2.2.2.1, l2785, ())))))
def p_31 {R : Type} (N : Nat) (x : (Unit × (Int × (Int × Unit)) × Int × Unit) × Y1) (κ0 : (Int × Y1) → Option R) : Option R := Q_31 (p_33 N) (p_30 N) (p_35 N) (p_39 N) (l_31_5 N N) x κ0
def EG_31 {R : Type} (q_33 : Tp_33 R) (q_30 : Tp_30 R) (q_35 : Tp_35 R) (q_39 : Tp_39 R) : Env R := ((((Env.base QQ LN AA).add 33 ap_33 hp_33 (fun (x : aden ap_33 × hden hp_33) k => q_33 x (fun y => k (Pat.inst (.ptr 0 []) y.1) (instH hp_33 x.2 ++ instH [some (Z3, 132)] y.2)))).add 30 ap_30 hp_30 (fun (x : aden ap_30 × hden hp_30) k => q_30 x (fun y => k (Pat.inst (.int .i64) y) (instH hp_30 x.2)))).add 35 ap_35 hp_35 (fun (x : aden ap_35 × hden hp_35) k => q_35 x (fun y => k (Pat.inst (.tup (.fcons (.node (.fcons Z7 (.fcons Z7 (.fcons Z7 (.fnil))))) (.fcons (.int .i64) (.fnil)))) y.1) (instH J1 y.2)))).add 39 ap_39 hp_39 (fun (x : aden ap_39 × hden hp_39) k => q_39 x (fun y => k (Pat.inst (.int .i64) y.1) (instH J0 y.2)))
def LG_31 {R : Type} (m_31_5 : Tl_31_5 R) : Loops R := (Loops.none).add 5 (loopBy 4 lv_31_5 pt_31_5 (fun x k => m_31_5 x (fun y => k .ret (px_31_5_0.inst y)) (fun y => k (.exit 0) (px_31_5_1.inst y))))
def E_31 {R : Type} (N : Nat) : Env R := EG_31 (p_33 N) (p_30 N) (p_35 N) (p_39 N)
theorem eok_31 {R : Type} (N : Nat) : EK Try.prog (E_31 (R := R) N) := ek_add (ek_add (ek_add (ek_add (ek_base _ _ _) (good_33 N)) (good_30 N)) (good_35 N)) (good_39 N)
def L_31 {R : Type} (N : Nat) : Loops R := LG_31 (l_31_5 N N)
theorem gstep_31_5 {R : Type} (q_33 : Tp_33 R) (q_30 : Tp_30 R) (q_35 : Tp_35 R) (q_39 : Tp_39 R) (m_31_5 : Tl_31_5 R) (n : Nat) (x : pt_31_5.den) (k : Exit → St → Option R) : iter 4 lv_31_5 lo_31_5 (aexec TT (EG_31 q_33 q_30 q_35 q_39) (drawAny TT WW) (LG_31 m_31_5) (loopAt 5 (bodyOf Try.f31))) (n + 1) (pt_31_5.inst x) k = C_31_5 q_35 q_39 (fun y => iter 4 lv_31_5 lo_31_5 (aexec TT (EG_31 q_33 q_30 q_35 q_39) (drawAny TT WW) (LG_31 m_31_5) (loopAt 5 (bodyOf Try.f31))) n (pt_31_5.inst y) k) x (fun y => k .ret (px_31_5_0.inst y)) (fun y => k (.exit 0) (px_31_5_1.inst y)) := by kernel_rfl
theorem step_31_5 {R : Type} (N n : Nat) (x : pt_31_5.den) (k : Exit → St → Option R) : iter 4 lv_31_5 lo_31_5 (aexec TT (E_31 (R := R) N) (drawAny TT WW) (L_31 N) (loopAt 5 (bodyOf Try.f31))) (n + 1) (pt_31_5.inst x) k = B_31_5 N (fun y => iter 4 lv_31_5 lo_31_5 (aexec TT (E_31 (R := R) N) (drawAny TT WW) (L_31 N) (loopAt 5 (bodyOf Try.f31))) n (pt_31_5.inst y) k) x (fun y => k .ret (px_31_5_0.inst y)) (fun y => k (.exit 0) (px_31_5_1.inst y)) := (gstep_31_5 (p_33 N) (p_30 N) (p_35 N) (p_39 N) (l_31_5 N N) n x k).trans (by kernel_rfl)
theorem eq_31_5 {R : Type} (N : Nat) : ∀ (n : Nat) (x : pt_31_5.den) (k : Exit → St → Option R), iter 4 lv_31_5 lo_31_5 (aexec TT (E_31 (R := R) N) (drawAny TT WW) (L_31 N) (loopAt 5 (bodyOf Try.f31))) n (pt_31_5.inst x) k = l_31_5 N n x (fun y => k .ret (px_31_5_0.inst y)) (fun y => k (.exit 0) (px_31_5_1.inst y)) :=
  iter_eq (K := Exit → St → Option R) (ks := fun k => k) (l := fun n (x : pt_31_5.den) k => l_31_5 N n x (fun y => k .ret (px_31_5_0.inst y)) (fun y => k (.exit 0) (px_31_5_1.inst y))) (B := fun (rec : pt_31_5.den → Option R) (x : pt_31_5.den) k => B_31_5 N rec x (fun y => k .ret (px_31_5_0.inst y)) (fun y => k (.exit 0) (px_31_5_1.inst y))) (fun _ _ => rfl) (fun _ _ _ => rfl) (fun n x k => step_31_5 N n x k)
theorem rounds_31_5 {R : Type} (N : Nat) : Rounds 4 TT (E_31 (R := R) N) (drawAny TT WW) (L_31 N) 5 (loopAt 5 (bodyOf Try.f31)) :=
  rounds_of (p := pt_31_5) (l := fun (x : pt_31_5.den) k => l_31_5 N N x (fun y => k .ret (px_31_5_0.inst y)) (fun y => k (.exit 0) (px_31_5_1.inst y))) (fun s k => rfl) (fun x k => eq_31_5 N N x k)
theorem loops_31 : loopsIn (bodyOf Try.f31) = [(5, loopAt 5 (bodyOf Try.f31))] := by kernel_rfl
theorem lok_31 {R : Type} (N : Nat) : LOK 4 TT (E_31 (R := R) N) (drawAny TT WW) (L_31 N) (bodyOf Try.f31) := loops_all loops_31 (by
  simp only [List.forall_mem_cons, List.not_mem_nil, false_implies, implies_true, and_true]
  exact rounds_31_5 N)
theorem grun_31 {R : Type} (q_33 : Tp_33 R) (q_30 : Tp_30 R) (q_35 : Tp_35 R) (q_39 : Tp_39 R) (m_31_5 : Tl_31_5 R) (x : aden ap_31 × hden hp_31) (k : KF R) : fnrun TT (EG_31 q_33 q_30 q_35 q_39) (drawAny TT WW) (LG_31 m_31_5) true Try.f31 (instA ap_31 x.1) (instH hp_31 x.2) k = Q_31 q_33 q_30 q_35 q_39 m_31_5 x (fun y => k (Pat.inst (.int .i64) y.1) (instH J0 y.2)) := by kernel_rfl
theorem run_31 {R : Type} (N : Nat) (x : aden ap_31 × hden hp_31) (k : KF R) : fnrun TT (E_31 (R := R) N) (drawAny TT WW) (L_31 N) true Try.f31 (instA ap_31 x.1) (instH hp_31 x.2) k = p_31 N x (fun y => k (Pat.inst (.int .i64) y.1) (instH J0 y.2)) := (grun_31 (p_33 N) (p_30 N) (p_35 N) (p_39 N) (l_31_5 N N) x k).trans (by kernel_rfl)
theorem good_31 {R : Type} (N : Nat) : GD (X := R) Try.prog QQ AA 31 ap_31 hp_31 (fun (x : aden ap_31 × hden hp_31) k => p_31 N x (fun y => k (Pat.inst (.int .i64) y.1) (instH J0 y.2))) :=
  gd_loud (E := E_31 N) (p := fun (x : aden ap_31 × hden hp_31) k => p_31 N x (fun y => k (Pat.inst (.int .i64) y.1) (instH J0 y.2))) mixed tyok (eok_31 N) Try.func31 (by kernel_rfl) (by kernel_rfl) (by kernel_rfl) (by kernel_rfl) (lok_31 N) (fun x k => run_31 N x k)

def ap_41 : List Pat := [.node (.fcons (.int .i64) (.fcons (.int .i64) (.fcons (.int .i64) (.fcons (.int .i64) (.fcons (.int .i64) (.fcons (.int .i64) (.fcons (.int .i64) (.fcons (.int .i64) (.fnil))))))))), .node (.fcons (.int .i64) (.fcons (.int .i64) (.fnil)))]
def hp_41 : List (Option (Pat × Nat)) := []
abbrev Tp_41 (R : Type) : Type := (Y0 × (Int × (Int × Unit)) × Unit) × (Unit) → (((Int × (Int × Unit)) × (Bool × Unit)) → Option R) → Option R
def Q_41 {R : Type} (x : (Y0 × (Int × (Int × Unit)) × Unit) × (Unit)) (κ0 : ((Int × (Int × Unit)) × (Bool × Unit)) → Option R) : Option R :=
let i2837 := x.1.1.2.1
let i2844 := x.1.2.1.1
let i2845 := x.1.2.1.2.1
let i2846 : Int := addA .i64 i2845 1
bif (decide (i2846 < 4)) then (
let i2847 : Int := addA .i64 i2845 1
κ0 (((i2844, (i2847, ())), (true, ())))) else (
let i2848 : Int := subA .i64 i2837 1
bif (decide (i2844 < i2848)) then (
let i2849 : Int := addA .i64 i2844 1
κ0 (((i2849, (0, ())), (true, ())))) else (
κ0 (((0, (0, ())), (false, ())))))
def p_41 {R : Type} (N : Nat) (x : (Y0 × (Int × (Int × Unit)) × Unit) × (Unit)) (κ0 : ((Int × (Int × Unit)) × (Bool × Unit)) → Option R) : Option R := Q_41 x κ0
def EG_41 {R : Type} : Env R := Env.base QQ LN AA
def LG_41 {R : Type} : Loops R := Loops.none
def E_41 {R : Type} (N : Nat) : Env R := EG_41
theorem eok_41 {R : Type} (N : Nat) : EK Try.prog (E_41 (R := R) N) := ek_base _ _ _
def L_41 {R : Type} (N : Nat) : Loops R := LG_41
theorem lok_41 {R : Type} (N : Nat) : LOK 0 TT (E_41 (R := R) N) (drawAny TT WW) (L_41 N) (bodyOf Try.f41) := loops_nil (by kernel_rfl)
theorem grun_41 {R : Type} (x : aden ap_41 × hden hp_41) (k : KF R) : fnrun TT (EG_41) (drawAny TT WW) (LG_41) true Try.f41 (instA ap_41 x.1) (instH hp_41 x.2) k = Q_41 x (fun y => k (Pat.inst (.tup (.fcons Z7 (.fcons (.bool) (.fnil)))) y) (instH hp_41 x.2)) := by kernel_rfl
theorem run_41 {R : Type} (N : Nat) (x : aden ap_41 × hden hp_41) (k : KF R) : fnrun TT (E_41 (R := R) N) (drawAny TT WW) (L_41 N) true Try.f41 (instA ap_41 x.1) (instH hp_41 x.2) k = p_41 N x (fun y => k (Pat.inst (.tup (.fcons Z7 (.fcons (.bool) (.fnil)))) y) (instH hp_41 x.2)) := (grun_41 x k).trans (by kernel_rfl)
theorem good_41 {R : Type} (N : Nat) : GD (X := R) Try.prog QQ AA 41 ap_41 hp_41 (fun (x : aden ap_41 × hden hp_41) k => p_41 N x (fun y => k (Pat.inst (.tup (.fcons Z7 (.fcons (.bool) (.fnil)))) y) (instH hp_41 x.2))) :=
  gd_quiet (E := E_41 N) (p := fun (x : aden ap_41 × hden hp_41) κ => p_41 N x (fun y => κ (Pat.inst (.tup (.fcons Z7 (.fcons (.bool) (.fnil)))) y))) mixed tyok (eok_41 N) Try.func41 (by kernel_rfl) (by kernel_rfl) (lok_41 N) (fun x k => run_41 N x k)

def lv_40_v1_7 : Live := [(0, none), (3, none), (24, none), (25, none)]
def pt_40_v1_7 : SPat := ⟨[(0, .ptr 0 []), (3, .ptr 4 []), (24, .int .i64), (25, .int .i64)], [some (Z4, 49), some (Z2, 147), some (Z1, 145), some (.lst (.arr 128 (.int .u64)), 29), some (Z7, 69)]⟩
def px_40_v1_7_0 : SPat := ⟨[(2, .int .i64)], J0⟩
def px_40_v1_7_1 : SPat := ⟨[(0, .ptr 0 []), (3, .ptr 4 [])], [some (Z4, 49), some (Z2, 147), some (Z1, 145), some (.lst (.arr 128 (.int .u64)), 29), some (Z7, 69)]⟩
def lo_40_v1_7 : Exit → Live
  | .ret => [(2, none)]
  | .exit 2 => [(0, none), (3, none)]
  | _ => []
def lv_40_v1_4 : Live := [(0, none), (3, none), (4, none)]
def pt_40_v1_4 : SPat := ⟨[(0, .ptr 0 []), (3, .ptr 4 []), (4, .bool)], [some (Z4, 49), some (Z2, 147), some (Z1, 145), some (.lst (.arr 128 (.int .u64)), 29), some (Z7, 69)]⟩
def px_40_v1_4_0 : SPat := ⟨[(2, .int .i64)], J0⟩
def px_40_v1_4_1 : SPat := ⟨[], J0⟩
def lo_40_v1_4 : Exit → Live
  | .ret => [(2, none)]
  | .exit 0 => []
  | _ => []
def ap_40_v1 : List Pat := [.ptr 0 []]
def hp_40_v1 : List (Option (Pat × Nat)) := J0
abbrev Tl_40_v1_7 (R : Type) : Type := (Y15 × Y12) → (((Int × Unit) × Y1) → Option R) → (((Unit × Unit × Unit) × Y12) → Option R) → Option R
abbrev Tl_40_v1_4 (R : Type) : Type := ((Unit × Unit × Bool × Unit) × Y12) → (((Int × Unit) × Y1) → Option R) → (((Unit) × Y1) → Option R) → Option R
abbrev Tp_40_v1 (R : Type) : Type := (Unit × Unit) × Y1 → ((Int × Y1) → Option R) → Option R
def C_40_v1_7 {R : Type} (q_31 : Tp_31 R) (rec : (Y15 × Y12) → Option R) (x : (Y15 × Y12)) (κ0 : ((Int × Unit) × Y1) → Option R) (κ1 : ((Unit × Unit × Unit) × Y12) → Option R) : Option R :=
let i2542 := x.1.2.2.1
let i2543 := x.1.2.2.2.1
let l2557 := x.2.2.2.2.1
bif (decide (i2543 < i2542)) then (
q_31 (((), x.2.2.2.2.2.1, i2543, ()), (x.2.1, x.2.2.1, x.2.2.2.1, l2557, ())) (fun y2786 =>
let i2787 := y2786.1
let l2801 := y2786.2.2.2.2.1
bif (i2787 != 0) then (
κ0 ((i2787, ()), (y2786.2.1, y2786.2.2.1, y2786.2.2.2.1, l2801, ()))) else (
let i2802 : Int := addA .i64 i2543 1
rec (((), (), i2542, i2802, ()), (y2786.2.1, y2786.2.2.1, y2786.2.2.2.1, l2801, x.2.2.2.2.2.1, ()))))) else (
κ1 (((), (), ()), (x.2.1, x.2.2.1, x.2.2.2.1, l2557, x.2.2.2.2.2.1, ())))
def C_40_v1_4 {R : Type} (q_41 : Tp_41 R) (m_40_v1_7 : Tl_40_v1_7 R) (rec : ((Unit × Unit × Bool × Unit) × Y12) → Option R) (x : ((Unit × Unit × Bool × Unit) × Y12)) (κ0 : ((Int × Unit) × Y1) → Option R) (κ1 : ((Unit) × Y1) → Option R) : Option R :=
let b2525 := x.1.2.2.1
let i2528 := x.2.1.2.1.2.2.1
let l2539 := x.2.2.2.2.1
bif b2525 then (
m_40_v1_7 (((), (), i2528, 0, ()), (x.2.1, x.2.2.1, x.2.2.2.1, l2539, x.2.2.2.2.2.1, ())) (fun y2803 =>
let l2818 := y2803.2.2.2.2.1
κ0 (y2803.1, (y2803.2.1, y2803.2.2.1, y2803.2.2.2.1, l2818, ()))) (fun y2819 =>
let l2833 := y2819.2.2.2.2.1
q_41 ((y2819.2.1.2.1, y2819.2.2.2.2.2.1, ()), ()) (fun y2850 =>
let b2853 := y2850.2.1
rec (((), (), b2853, ()), (y2819.2.1, y2819.2.2.1, y2819.2.2.2.1, l2833, y2850.1, ()))))) else (
κ1 ((), (x.2.1, x.2.2.1, x.2.2.2.1, l2539, ())))
def B_40_v1_7 {R : Type} (N : Nat) (rec : (Y15 × Y12) → Option R) (x : (Y15 × Y12)) (κ0 : ((Int × Unit) × Y1) → Option R) (κ1 : ((Unit × Unit × Unit) × Y12) → Option R) : Option R := C_40_v1_7 (p_31 N) rec x κ0 κ1
def l_40_v1_7 {R : Type} (N : Nat) : Nat → (Y15 × Y12) → (((Int × Unit) × Y1) → Option R) → (((Unit × Unit × Unit) × Y12) → Option R) → Option R
  | 0, _, _, _ => none
  | n + 1, x, κ0, κ1 => B_40_v1_7 N (fun y => l_40_v1_7 N n y κ0 κ1) x κ0 κ1
def B_40_v1_4 {R : Type} (N : Nat) (rec : ((Unit × Unit × Bool × Unit) × Y12) → Option R) (x : ((Unit × Unit × Bool × Unit) × Y12)) (κ0 : ((Int × Unit) × Y1) → Option R) (κ1 : ((Unit) × Y1) → Option R) : Option R := C_40_v1_4 (p_41 N) (l_40_v1_7 N N) rec x κ0 κ1
def l_40_v1_4 {R : Type} (N : Nat) : Nat → ((Unit × Unit × Bool × Unit) × Y12) → (((Int × Unit) × Y1) → Option R) → (((Unit) × Y1) → Option R) → Option R
  | 0, _, _, _ => none
  | n + 1, x, κ0, κ1 => B_40_v1_4 N (fun y => l_40_v1_4 N n y κ0 κ1) x κ0 κ1
def Q_40_v1 {R : Type} (q_31 : Tp_31 R) (q_41 : Tp_41 R) (m_40_v1_7 : Tl_40_v1_7 R) (m_40_v1_4 : Tl_40_v1_4 R) (x : (Unit × Unit) × Y1) (κ0 : (Int × Y1) → Option R) : Option R :=
let l2524 := x.2.2.2.2.1
m_40_v1_4 (((), (), true, ()), (x.2.1, x.2.2.1, x.2.2.2.1, l2524, (0, (0, ())), ())) (fun y2854 =>
let i2855 := y2854.1.1
let l2869 := y2854.2.2.2.2.1
κ0 (i2855, (y2854.2.1, y2854.2.2.1, y2854.2.2.2.1, l2869, ()))) (fun y2870 =>
let l2884 := y2870.2.2.2.2.1
κ0 (0, (y2870.2.1, y2870.2.2.1, y2870.2.2.2.1, l2884, ())))
def p_40_v1 {R : Type} (N : Nat) (x : (Unit × Unit) × Y1) (κ0 : (Int × Y1) → Option R) : Option R := Q_40_v1 (p_31 N) (p_41 N) (l_40_v1_7 N N) (l_40_v1_4 N N) x κ0
def EG_40_v1 {R : Type} (q_31 : Tp_31 R) (q_41 : Tp_41 R) : Env R := ((Env.base QQ LN AA).add 31 ap_31 hp_31 (fun (x : aden ap_31 × hden hp_31) k => q_31 x (fun y => k (Pat.inst (.int .i64) y.1) (instH J0 y.2)))).add 41 ap_41 hp_41 (fun (x : aden ap_41 × hden hp_41) k => q_41 x (fun y => k (Pat.inst (.tup (.fcons Z7 (.fcons (.bool) (.fnil)))) y) (instH hp_41 x.2)))
def LG_40_v1 {R : Type} (m_40_v1_7 : Tl_40_v1_7 R) (m_40_v1_4 : Tl_40_v1_4 R) : Loops R := ((Loops.none).add 7 (loopBy 4 lv_40_v1_7 pt_40_v1_7 (fun x k => m_40_v1_7 x (fun y => k .ret (px_40_v1_7_0.inst y)) (fun y => k (.exit 2) (px_40_v1_7_1.inst y))))).add 4 (loopBy 4 lv_40_v1_4 pt_40_v1_4 (fun x k => m_40_v1_4 x (fun y => k .ret (px_40_v1_4_0.inst y)) (fun y => k (.exit 0) (px_40_v1_4_1.inst y))))
def E_40_v1 {R : Type} (N : Nat) : Env R := EG_40_v1 (p_31 N) (p_41 N)
theorem eok_40_v1 {R : Type} (N : Nat) : EK Try.prog (E_40_v1 (R := R) N) := ek_add (ek_add (ek_base _ _ _) (good_31 N)) (good_41 N)
def L_40_v1 {R : Type} (N : Nat) : Loops R := LG_40_v1 (l_40_v1_7 N N) (l_40_v1_4 N N)
theorem gstep_40_v1_7 {R : Type} (q_31 : Tp_31 R) (q_41 : Tp_41 R) (m_40_v1_7 : Tl_40_v1_7 R) (m_40_v1_4 : Tl_40_v1_4 R) (n : Nat) (x : pt_40_v1_7.den) (k : Exit → St → Option R) : iter 4 lv_40_v1_7 lo_40_v1_7 (aexec TT (EG_40_v1 q_31 q_41) (drawAny TT WW) (LG_40_v1 m_40_v1_7 m_40_v1_4) (loopAt 7 (bodyOf Try.f40))) (n + 1) (pt_40_v1_7.inst x) k = C_40_v1_7 q_31 (fun y => iter 4 lv_40_v1_7 lo_40_v1_7 (aexec TT (EG_40_v1 q_31 q_41) (drawAny TT WW) (LG_40_v1 m_40_v1_7 m_40_v1_4) (loopAt 7 (bodyOf Try.f40))) n (pt_40_v1_7.inst y) k) x (fun y => k .ret (px_40_v1_7_0.inst y)) (fun y => k (.exit 2) (px_40_v1_7_1.inst y)) := by kernel_rfl
theorem step_40_v1_7 {R : Type} (N n : Nat) (x : pt_40_v1_7.den) (k : Exit → St → Option R) : iter 4 lv_40_v1_7 lo_40_v1_7 (aexec TT (E_40_v1 (R := R) N) (drawAny TT WW) (L_40_v1 N) (loopAt 7 (bodyOf Try.f40))) (n + 1) (pt_40_v1_7.inst x) k = B_40_v1_7 N (fun y => iter 4 lv_40_v1_7 lo_40_v1_7 (aexec TT (E_40_v1 (R := R) N) (drawAny TT WW) (L_40_v1 N) (loopAt 7 (bodyOf Try.f40))) n (pt_40_v1_7.inst y) k) x (fun y => k .ret (px_40_v1_7_0.inst y)) (fun y => k (.exit 2) (px_40_v1_7_1.inst y)) := (gstep_40_v1_7 (p_31 N) (p_41 N) (l_40_v1_7 N N) (l_40_v1_4 N N) n x k).trans (by kernel_rfl)
theorem eq_40_v1_7 {R : Type} (N : Nat) : ∀ (n : Nat) (x : pt_40_v1_7.den) (k : Exit → St → Option R), iter 4 lv_40_v1_7 lo_40_v1_7 (aexec TT (E_40_v1 (R := R) N) (drawAny TT WW) (L_40_v1 N) (loopAt 7 (bodyOf Try.f40))) n (pt_40_v1_7.inst x) k = l_40_v1_7 N n x (fun y => k .ret (px_40_v1_7_0.inst y)) (fun y => k (.exit 2) (px_40_v1_7_1.inst y)) :=
  iter_eq (K := Exit → St → Option R) (ks := fun k => k) (l := fun n (x : pt_40_v1_7.den) k => l_40_v1_7 N n x (fun y => k .ret (px_40_v1_7_0.inst y)) (fun y => k (.exit 2) (px_40_v1_7_1.inst y))) (B := fun (rec : pt_40_v1_7.den → Option R) (x : pt_40_v1_7.den) k => B_40_v1_7 N rec x (fun y => k .ret (px_40_v1_7_0.inst y)) (fun y => k (.exit 2) (px_40_v1_7_1.inst y))) (fun _ _ => rfl) (fun _ _ _ => rfl) (fun n x k => step_40_v1_7 N n x k)
theorem rounds_40_v1_7 {R : Type} (N : Nat) : Rounds 4 TT (E_40_v1 (R := R) N) (drawAny TT WW) (L_40_v1 N) 7 (loopAt 7 (bodyOf Try.f40)) :=
  rounds_of (p := pt_40_v1_7) (l := fun (x : pt_40_v1_7.den) k => l_40_v1_7 N N x (fun y => k .ret (px_40_v1_7_0.inst y)) (fun y => k (.exit 2) (px_40_v1_7_1.inst y))) (fun s k => rfl) (fun x k => eq_40_v1_7 N N x k)
theorem gstep_40_v1_4 {R : Type} (q_31 : Tp_31 R) (q_41 : Tp_41 R) (m_40_v1_7 : Tl_40_v1_7 R) (m_40_v1_4 : Tl_40_v1_4 R) (n : Nat) (x : pt_40_v1_4.den) (k : Exit → St → Option R) : iter 4 lv_40_v1_4 lo_40_v1_4 (aexec TT (EG_40_v1 q_31 q_41) (drawAny TT WW) (LG_40_v1 m_40_v1_7 m_40_v1_4) (loopAt 4 (bodyOf Try.f40))) (n + 1) (pt_40_v1_4.inst x) k = C_40_v1_4 q_41 m_40_v1_7 (fun y => iter 4 lv_40_v1_4 lo_40_v1_4 (aexec TT (EG_40_v1 q_31 q_41) (drawAny TT WW) (LG_40_v1 m_40_v1_7 m_40_v1_4) (loopAt 4 (bodyOf Try.f40))) n (pt_40_v1_4.inst y) k) x (fun y => k .ret (px_40_v1_4_0.inst y)) (fun y => k (.exit 0) (px_40_v1_4_1.inst y)) := by kernel_rfl
theorem step_40_v1_4 {R : Type} (N n : Nat) (x : pt_40_v1_4.den) (k : Exit → St → Option R) : iter 4 lv_40_v1_4 lo_40_v1_4 (aexec TT (E_40_v1 (R := R) N) (drawAny TT WW) (L_40_v1 N) (loopAt 4 (bodyOf Try.f40))) (n + 1) (pt_40_v1_4.inst x) k = B_40_v1_4 N (fun y => iter 4 lv_40_v1_4 lo_40_v1_4 (aexec TT (E_40_v1 (R := R) N) (drawAny TT WW) (L_40_v1 N) (loopAt 4 (bodyOf Try.f40))) n (pt_40_v1_4.inst y) k) x (fun y => k .ret (px_40_v1_4_0.inst y)) (fun y => k (.exit 0) (px_40_v1_4_1.inst y)) := (gstep_40_v1_4 (p_31 N) (p_41 N) (l_40_v1_7 N N) (l_40_v1_4 N N) n x k).trans (by kernel_rfl)
theorem eq_40_v1_4 {R : Type} (N : Nat) : ∀ (n : Nat) (x : pt_40_v1_4.den) (k : Exit → St → Option R), iter 4 lv_40_v1_4 lo_40_v1_4 (aexec TT (E_40_v1 (R := R) N) (drawAny TT WW) (L_40_v1 N) (loopAt 4 (bodyOf Try.f40))) n (pt_40_v1_4.inst x) k = l_40_v1_4 N n x (fun y => k .ret (px_40_v1_4_0.inst y)) (fun y => k (.exit 0) (px_40_v1_4_1.inst y)) :=
  iter_eq (K := Exit → St → Option R) (ks := fun k => k) (l := fun n (x : pt_40_v1_4.den) k => l_40_v1_4 N n x (fun y => k .ret (px_40_v1_4_0.inst y)) (fun y => k (.exit 0) (px_40_v1_4_1.inst y))) (B := fun (rec : pt_40_v1_4.den → Option R) (x : pt_40_v1_4.den) k => B_40_v1_4 N rec x (fun y => k .ret (px_40_v1_4_0.inst y)) (fun y => k (.exit 0) (px_40_v1_4_1.inst y))) (fun _ _ => rfl) (fun _ _ _ => rfl) (fun n x k => step_40_v1_4 N n x k)
theorem rounds_40_v1_4 {R : Type} (N : Nat) : Rounds 4 TT (E_40_v1 (R := R) N) (drawAny TT WW) (L_40_v1 N) 4 (loopAt 4 (bodyOf Try.f40)) :=
  rounds_of (p := pt_40_v1_4) (l := fun (x : pt_40_v1_4.den) k => l_40_v1_4 N N x (fun y => k .ret (px_40_v1_4_0.inst y)) (fun y => k (.exit 0) (px_40_v1_4_1.inst y))) (fun s k => rfl) (fun x k => eq_40_v1_4 N N x k)
theorem loops_40_v1 : loopsIn (bodyOf Try.f40) = [(4, loopAt 4 (bodyOf Try.f40)), (7, loopAt 7 (bodyOf Try.f40))] := by kernel_rfl
theorem lok_40_v1 {R : Type} (N : Nat) : LOK 4 TT (E_40_v1 (R := R) N) (drawAny TT WW) (L_40_v1 N) (bodyOf Try.f40) := loops_all loops_40_v1 (by
  simp only [List.forall_mem_cons, List.not_mem_nil, false_implies, implies_true, and_true]
  exact ⟨rounds_40_v1_4 N, rounds_40_v1_7 N⟩)
theorem grun_40_v1 {R : Type} (q_31 : Tp_31 R) (q_41 : Tp_41 R) (m_40_v1_7 : Tl_40_v1_7 R) (m_40_v1_4 : Tl_40_v1_4 R) (x : aden ap_40_v1 × hden hp_40_v1) (k : KF R) : fnrun TT (EG_40_v1 q_31 q_41) (drawAny TT WW) (LG_40_v1 m_40_v1_7 m_40_v1_4) true Try.f40 (instA ap_40_v1 x.1) (instH hp_40_v1 x.2) k = Q_40_v1 q_31 q_41 m_40_v1_7 m_40_v1_4 x (fun y => k (Pat.inst (.int .i64) y.1) (instH J0 y.2)) := by kernel_rfl
theorem run_40_v1 {R : Type} (N : Nat) (x : aden ap_40_v1 × hden hp_40_v1) (k : KF R) : fnrun TT (E_40_v1 (R := R) N) (drawAny TT WW) (L_40_v1 N) true Try.f40 (instA ap_40_v1 x.1) (instH hp_40_v1 x.2) k = p_40_v1 N x (fun y => k (Pat.inst (.int .i64) y.1) (instH J0 y.2)) := (grun_40_v1 (p_31 N) (p_41 N) (l_40_v1_7 N N) (l_40_v1_4 N N) x k).trans (by kernel_rfl)
theorem good_40_v1 {R : Type} (N : Nat) : GD (X := R) Try.prog QQ AA 40 ap_40_v1 hp_40_v1 (fun (x : aden ap_40_v1 × hden hp_40_v1) k => p_40_v1 N x (fun y => k (Pat.inst (.int .i64) y.1) (instH J0 y.2))) :=
  gd_loud (E := E_40_v1 N) (p := fun (x : aden ap_40_v1 × hden hp_40_v1) k => p_40_v1 N x (fun y => k (Pat.inst (.int .i64) y.1) (instH J0 y.2))) mixed tyok (eok_40_v1 N) Try.func40 (by kernel_rfl) (by kernel_rfl) (by kernel_rfl) (by kernel_rfl) (lok_40_v1 N) (fun x k => run_40_v1 N x k)

def lv_15_3 : Live := [(1, none), (3, some (.fcons (.arr 29 (.fnil)) (.arr 128 (.int .u64)), 52)), (4, none)]
def pt_15_3 : SPat := ⟨[(1, .ptr 0 []), (3, .sl 1), (4, .int .i64)], [some (Z0, 45), some (.fam 29 (.arr 128 (.int .u64)), 52)]⟩
def px_15_3_0 : SPat := ⟨[(3, .sl 0)], [some (.fam 29 (.arr 128 (.int .u64)), 52)]⟩
def lo_15_3 : Exit → Live
  | .exit 0 => [(3, none)]
  | _ => []
def ap_15 : List Pat := [.node (.fcons (.int .i64) (.fcons (.int .i64) (.fcons (.int .i64) (.fcons (.int .i64) (.fcons (.int .i64) (.fcons (.int .i64) (.fcons (.int .i64) (.fcons (.int .i64) (.fnil)))))))))]
def hp_15 : List (Option (Pat × Nat)) := []
abbrev Tl_15_3 (R : Type) : Type := ((Unit × Unit × Int × Unit) × (Y0 × Y4 × Unit)) → (((Unit × Unit) × (Y4 × Unit)) → Option R) → Option R
abbrev Tp_15 (R : Type) : Type := (Y0 × Unit) × (Unit) → ((Unit × (Y4 × Unit)) → Option R) → Option R
def C_15_3 {R : Type} (rec : ((Unit × Unit × Int × Unit) × (Y0 × Y4 × Unit)) → Option R) (x : ((Unit × Unit × Int × Unit) × (Y0 × Y4 × Unit))) (κ0 : ((Unit × Unit) × (Y4 × Unit)) → Option R) : Option R :=
let i3261 := x.1.2.2.1
let i3264 := x.2.1.2.2.1
let i3267 := x.2.1.2.2.2.2.2.1
let r3270 := x.2.2.1
bif (decide (i3261 < i3264)) then (
bif decide (0 ≤ i3267) then (
bif decide (i3267 ≤ i3267) then (
bif decide (((1024 : Nat) : Int) * i3267 ≤ 281474976710656) then (
bif decide (i3267 ≤ 9223372036854775807) then (
let l3271 : (List (Nat → Int)) := List.replicate ((Int.toNat i3267)) (Sch.zero (.arr 128 (.int .u64)))
let r3272 : Y4 := [l3271]
bif (((decide ((List.length r3270 + List.length r3272) * 24 ≤ 140737488355328) && true) && true) && true) then (
let r3273 : Y4 := (r3270 ++ r3272)
let i3274 : Int := addA .i64 i3261 1
rec (((), (), i3274, ()), (x.2.1, r3273, ()))) else none) else none) else none) else none) else none) else (
κ0 (((), ()), x.2.2))
def B_15_3 {R : Type} (N : Nat) (rec : ((Unit × Unit × Int × Unit) × (Y0 × Y4 × Unit)) → Option R) (x : ((Unit × Unit × Int × Unit) × (Y0 × Y4 × Unit))) (κ0 : ((Unit × Unit) × (Y4 × Unit)) → Option R) : Option R := C_15_3 rec x κ0
def l_15_3 {R : Type} (N : Nat) : Nat → ((Unit × Unit × Int × Unit) × (Y0 × Y4 × Unit)) → (((Unit × Unit) × (Y4 × Unit)) → Option R) → Option R
  | 0, _, _ => none
  | n + 1, x, κ0 => B_15_3 N (fun y => l_15_3 N n y κ0) x κ0
def Q_15 {R : Type} (m_15_3 : Tl_15_3 R) (x : (Y0 × Unit) × (Unit)) (κ0 : (Unit × (Y4 × Unit)) → Option R) : Option R :=
m_15_3 (((), (), 0, ()), (x.1.1, [], ())) (fun y3275 =>
κ0 ((), y3275.2))
def p_15 {R : Type} (N : Nat) (x : (Y0 × Unit) × (Unit)) (κ0 : (Unit × (Y4 × Unit)) → Option R) : Option R := Q_15 (l_15_3 N N) x κ0
def EG_15 {R : Type} : Env R := Env.base QQ LN AA
def LG_15 {R : Type} (m_15_3 : Tl_15_3 R) : Loops R := (Loops.none).add 3 (loopBy 0 lv_15_3 pt_15_3 (fun x k => m_15_3 x (fun y => k (.exit 0) (px_15_3_0.inst y))))
def E_15 {R : Type} (N : Nat) : Env R := EG_15
theorem eok_15 {R : Type} (N : Nat) : EK Try.prog (E_15 (R := R) N) := ek_base _ _ _
def L_15 {R : Type} (N : Nat) : Loops R := LG_15 (l_15_3 N N)
theorem gstep_15_3 {R : Type} (m_15_3 : Tl_15_3 R) (n : Nat) (x : pt_15_3.den) (k : Exit → St → Option R) : iter 0 lv_15_3 lo_15_3 (aexec TT (EG_15) (drawAny TT WW) (LG_15 m_15_3) (loopAt 3 (bodyOf Try.f15))) (n + 1) (pt_15_3.inst x) k = C_15_3 (fun y => iter 0 lv_15_3 lo_15_3 (aexec TT (EG_15) (drawAny TT WW) (LG_15 m_15_3) (loopAt 3 (bodyOf Try.f15))) n (pt_15_3.inst y) k) x (fun y => k (.exit 0) (px_15_3_0.inst y)) := by kernel_rfl
theorem step_15_3 {R : Type} (N n : Nat) (x : pt_15_3.den) (k : Exit → St → Option R) : iter 0 lv_15_3 lo_15_3 (aexec TT (E_15 (R := R) N) (drawAny TT WW) (L_15 N) (loopAt 3 (bodyOf Try.f15))) (n + 1) (pt_15_3.inst x) k = B_15_3 N (fun y => iter 0 lv_15_3 lo_15_3 (aexec TT (E_15 (R := R) N) (drawAny TT WW) (L_15 N) (loopAt 3 (bodyOf Try.f15))) n (pt_15_3.inst y) k) x (fun y => k (.exit 0) (px_15_3_0.inst y)) := (gstep_15_3 (l_15_3 N N) n x k).trans (by kernel_rfl)
theorem eq_15_3 {R : Type} (N : Nat) : ∀ (n : Nat) (x : pt_15_3.den) (k : Exit → St → Option R), iter 0 lv_15_3 lo_15_3 (aexec TT (E_15 (R := R) N) (drawAny TT WW) (L_15 N) (loopAt 3 (bodyOf Try.f15))) n (pt_15_3.inst x) k = l_15_3 N n x (fun y => k (.exit 0) (px_15_3_0.inst y)) :=
  iter_eq (K := Exit → St → Option R) (ks := fun k => k) (l := fun n (x : pt_15_3.den) k => l_15_3 N n x (fun y => k (.exit 0) (px_15_3_0.inst y))) (B := fun (rec : pt_15_3.den → Option R) (x : pt_15_3.den) k => B_15_3 N rec x (fun y => k (.exit 0) (px_15_3_0.inst y))) (fun _ _ => rfl) (fun _ _ _ => rfl) (fun n x k => step_15_3 N n x k)
theorem rounds_15_3 {R : Type} (N : Nat) : Rounds 0 TT (E_15 (R := R) N) (drawAny TT WW) (L_15 N) 3 (loopAt 3 (bodyOf Try.f15)) :=
  rounds_of (p := pt_15_3) (l := fun (x : pt_15_3.den) k => l_15_3 N N x (fun y => k (.exit 0) (px_15_3_0.inst y))) (fun s k => rfl) (fun x k => eq_15_3 N N x k)
theorem loops_15 : loopsIn (bodyOf Try.f15) = [(3, loopAt 3 (bodyOf Try.f15))] := by kernel_rfl
theorem lok_15 {R : Type} (N : Nat) : LOK 0 TT (E_15 (R := R) N) (drawAny TT WW) (L_15 N) (bodyOf Try.f15) := loops_all loops_15 (by
  simp only [List.forall_mem_cons, List.not_mem_nil, false_implies, implies_true, and_true]
  exact rounds_15_3 N)
theorem grun_15 {R : Type} (m_15_3 : Tl_15_3 R) (x : aden ap_15 × hden hp_15) (k : KF R) : fnrun TT (EG_15) (drawAny TT WW) (LG_15 m_15_3) true Try.f15 (instA ap_15 x.1) (instH hp_15 x.2) k = Q_15 m_15_3 x (fun y => k (Pat.inst (.sl 0) y.1) (instH [some (.fam 29 (.arr 128 (.int .u64)), 52)] y.2)) := by kernel_rfl
theorem run_15 {R : Type} (N : Nat) (x : aden ap_15 × hden hp_15) (k : KF R) : fnrun TT (E_15 (R := R) N) (drawAny TT WW) (L_15 N) true Try.f15 (instA ap_15 x.1) (instH hp_15 x.2) k = p_15 N x (fun y => k (Pat.inst (.sl 0) y.1) (instH [some (.fam 29 (.arr 128 (.int .u64)), 52)] y.2)) := (grun_15 (l_15_3 N N) x k).trans (by kernel_rfl)
theorem good_15 {R : Type} (N : Nat) : GD (X := R) Try.prog QQ AA 15 ap_15 hp_15 (fun (x : aden ap_15 × hden hp_15) k => p_15 N x (fun y => k (Pat.inst (.sl 0) y.1) (instH [some (.fam 29 (.arr 128 (.int .u64)), 52)] y.2))) :=
  gd_loud (E := E_15 N) (p := fun (x : aden ap_15 × hden hp_15) k => p_15 N x (fun y => k (Pat.inst (.sl 0) y.1) (instH [some (.fam 29 (.arr 128 (.int .u64)), 52)] y.2))) mixed tyok (eok_15 N) Try.func15 (by kernel_rfl) (by kernel_rfl) (by kernel_rfl) (by kernel_rfl) (lok_15 N) (fun x k => run_15 N x k)

def lv_17_6 : Live := [(0, none), (3, none), (4, none), (12, none), (13, none), (20, none), (21, none)]
def pt_17_6 : SPat := ⟨[(0, .ptr 0 []), (3, .sl 4), (4, .int .i64), (12, .int .i64), (13, .int .i64), (20, .int .i64), (21, .int .i64)], J2⟩
def px_17_6_0 : SPat := ⟨[(0, .ptr 0 []), (3, .sl 4), (12, .int .i64), (13, .int .i64)], J2⟩
def lo_17_6 : Exit → Live
  | .exit 2 => [(0, none), (3, none), (12, none), (13, none)]
  | _ => []
def lv_17_3 : Live := [(0, none), (3, none), (12, none), (13, none)]
def pt_17_3 : SPat := ⟨[(0, .ptr 0 []), (3, .sl 4), (12, .int .i64), (13, .int .i64)], J2⟩
def px_17_3_0 : SPat := ⟨[(3, .sl 4)], J2⟩
def lo_17_3 : Exit → Live
  | .exit 0 => [(3, none)]
  | _ => []
def ap_17 : List Pat := [.ptr 0 []]
def hp_17 : List (Option (Pat × Nat)) := J0
abbrev Tl_17_6 (R : Type) : Type := ((Unit × Unit × Int × Int × Int × Int × Int × Unit) × Y11) → ((Y15 × Y11) → Option R) → Option R
abbrev Tl_17_3 (R : Type) : Type := (Y15 × Y11) → (((Unit × Unit) × Y11) → Option R) → Option R
abbrev Tp_17 (R : Type) : Type := (Unit × Unit) × Y1 → ((Unit × Y11) → Option R) → Option R
def C_17_6 {R : Type} (q_9 : Tp_9 R) (rec : ((Unit × Unit × Int × Int × Int × Int × Int × Unit) × Y11) → Option R) (x : ((Unit × Unit × Int × Int × Int × Int × Int × Unit) × Y11)) (κ0 : (Y15 × Y11) → Option R) : Option R :=
let i3298 := x.1.2.2.1
let i3299 := x.1.2.2.2.1
let i3300 := x.1.2.2.2.2.1
let i3301 := x.1.2.2.2.2.2.1
let i3302 := x.1.2.2.2.2.2.2.1
let l3316 := x.2.2.2.2.1
let r3317 := x.2.2.2.2.2.1
bif (decide (i3302 < i3301)) then (
bif decide (0 ≤ i3298) then (
bif decide (i3298 < ((List.length r3317) : Int)) then (
q_9 (((), (i3298, (i3302, ())), ()), (x.2.1, x.2.2.1, x.2.2.2.1, l3316, ())) (fun y3318 =>
let a3319 := y3318.1
bif decide (0 ≤ i3302) then (
bif decide (i3302 < ((List.length ((List.getD r3317 ((Int.toNat i3298)) []))) : Int)) then (
let r3321 : Y4 := (List.set r3317 ((Int.toNat i3298)) ((List.set ((List.getD r3317 ((Int.toNat i3298)) [])) ((Int.toNat i3302)) a3319)))
let i3322 : Int := addA .i64 i3302 1
rec (((), (), i3298, i3299, i3300, i3301, i3322, ()), (x.2.1, x.2.2.1, x.2.2.2.1, l3316, r3321, ()))) else none) else none)) else none) else none) else (
κ0 (((), (), i3299, i3300, ()), (x.2.1, x.2.2.1, x.2.2.2.1, l3316, r3317, ())))
def C_17_3 {R : Type} (m_17_6 : Tl_17_6 R) (rec : (Y15 × Y11) → Option R) (x : (Y15 × Y11)) (κ0 : ((Unit × Unit) × Y11) → Option R) : Option R :=
let i3280 := x.1.2.2.1
let i3281 := x.1.2.2.2.1
let l3295 := x.2.2.2.2.1
let r3296 := x.2.2.2.2.2.1
bif (decide (i3281 < i3280)) then (
bif decide (0 ≤ i3281) then (
bif decide (i3281 < ((List.length r3296) : Int)) then (
let i3297 : Int := (((List.length ((List.getD r3296 ((Int.toNat i3281)) []))) : Nat) : Int)
m_17_6 (((), (), i3281, i3280, i3281, i3297, 0, ()), (x.2.1, x.2.2.1, x.2.2.2.1, l3295, r3296, ())) (fun y3323 =>
let i3324 := y3323.1.2.2.1
let i3325 := y3323.1.2.2.2.1
let l3339 := y3323.2.2.2.2.1
let r3340 := y3323.2.2.2.2.2.1
let i3341 : Int := addA .i64 i3325 1
rec (((), (), i3324, i3341, ()), (y3323.2.1, y3323.2.2.1, y3323.2.2.2.1, l3339, r3340, ())))) else none) else none) else (
κ0 (((), ()), (x.2.1, x.2.2.1, x.2.2.2.1, l3295, r3296, ())))
def B_17_6 {R : Type} (N : Nat) (rec : ((Unit × Unit × Int × Int × Int × Int × Int × Unit) × Y11) → Option R) (x : ((Unit × Unit × Int × Int × Int × Int × Int × Unit) × Y11)) (κ0 : (Y15 × Y11) → Option R) : Option R := C_17_6 (p_9 N) rec x κ0
def l_17_6 {R : Type} (N : Nat) : Nat → ((Unit × Unit × Int × Int × Int × Int × Int × Unit) × Y11) → ((Y15 × Y11) → Option R) → Option R
  | 0, _, _ => none
  | n + 1, x, κ0 => B_17_6 N (fun y => l_17_6 N n y κ0) x κ0
def B_17_3 {R : Type} (N : Nat) (rec : (Y15 × Y11) → Option R) (x : (Y15 × Y11)) (κ0 : ((Unit × Unit) × Y11) → Option R) : Option R := C_17_3 (l_17_6 N N) rec x κ0
def l_17_3 {R : Type} (N : Nat) : Nat → (Y15 × Y11) → (((Unit × Unit) × Y11) → Option R) → Option R
  | 0, _, _ => none
  | n + 1, x, κ0 => B_17_3 N (fun y => l_17_3 N n y κ0) x κ0
def Q_17 {R : Type} (q_15 : Tp_15 R) (q_9 : Tp_9 R) (m_17_6 : Tl_17_6 R) (m_17_3 : Tl_17_3 R) (x : (Unit × Unit) × Y1) (κ0 : (Unit × Y11) → Option R) : Option R :=
let l3240 := x.2.2.2.2.1
q_15 (x.2.1.2, ()) (fun y3277 =>
let r3278 := y3277.2.1
let i3279 : Int := (((List.length r3278) : Nat) : Int)
m_17_3 (((), (), i3279, 0, ()), (x.2.1, x.2.2.1, x.2.2.2.1, l3240, r3278, ())) (fun y3342 =>
let l3356 := y3342.2.2.2.2.1
let r3357 := y3342.2.2.2.2.2.1
κ0 ((), (y3342.2.1, y3342.2.2.1, y3342.2.2.2.1, l3356, r3357, ()))))
def p_17 {R : Type} (N : Nat) (x : (Unit × Unit) × Y1) (κ0 : (Unit × Y11) → Option R) : Option R := Q_17 (p_15 N) (p_9 N) (l_17_6 N N) (l_17_3 N N) x κ0
def EG_17 {R : Type} (q_15 : Tp_15 R) (q_9 : Tp_9 R) : Env R := ((Env.base QQ LN AA).add 15 ap_15 hp_15 (fun (x : aden ap_15 × hden hp_15) k => q_15 x (fun y => k (Pat.inst (.sl 0) y.1) (instH [some (.fam 29 (.arr 128 (.int .u64)), 52)] y.2)))).add 9 ap_9 hp_9 (fun (x : aden ap_9 × hden hp_9) k => q_9 x (fun y => k (Pat.inst (.tup (.fcons (.vec (.int .u64) 128) (.fcons (.int .i64) (.fnil)))) y) (instH hp_9 x.2)))
def LG_17 {R : Type} (m_17_6 : Tl_17_6 R) (m_17_3 : Tl_17_3 R) : Loops R := ((Loops.none).add 6 (loopBy 4 lv_17_6 pt_17_6 (fun x k => m_17_6 x (fun y => k (.exit 2) (px_17_6_0.inst y))))).add 3 (loopBy 4 lv_17_3 pt_17_3 (fun x k => m_17_3 x (fun y => k (.exit 0) (px_17_3_0.inst y))))
def E_17 {R : Type} (N : Nat) : Env R := EG_17 (p_15 N) (p_9 N)
theorem eok_17 {R : Type} (N : Nat) : EK Try.prog (E_17 (R := R) N) := ek_add (ek_add (ek_base _ _ _) (good_15 N)) (good_9 N)
def L_17 {R : Type} (N : Nat) : Loops R := LG_17 (l_17_6 N N) (l_17_3 N N)
theorem gstep_17_6 {R : Type} (q_15 : Tp_15 R) (q_9 : Tp_9 R) (m_17_6 : Tl_17_6 R) (m_17_3 : Tl_17_3 R) (n : Nat) (x : pt_17_6.den) (k : Exit → St → Option R) : iter 4 lv_17_6 lo_17_6 (aexec TT (EG_17 q_15 q_9) (drawAny TT WW) (LG_17 m_17_6 m_17_3) (loopAt 6 (bodyOf Try.f17))) (n + 1) (pt_17_6.inst x) k = C_17_6 q_9 (fun y => iter 4 lv_17_6 lo_17_6 (aexec TT (EG_17 q_15 q_9) (drawAny TT WW) (LG_17 m_17_6 m_17_3) (loopAt 6 (bodyOf Try.f17))) n (pt_17_6.inst y) k) x (fun y => k (.exit 2) (px_17_6_0.inst y)) := by kernel_rfl
theorem step_17_6 {R : Type} (N n : Nat) (x : pt_17_6.den) (k : Exit → St → Option R) : iter 4 lv_17_6 lo_17_6 (aexec TT (E_17 (R := R) N) (drawAny TT WW) (L_17 N) (loopAt 6 (bodyOf Try.f17))) (n + 1) (pt_17_6.inst x) k = B_17_6 N (fun y => iter 4 lv_17_6 lo_17_6 (aexec TT (E_17 (R := R) N) (drawAny TT WW) (L_17 N) (loopAt 6 (bodyOf Try.f17))) n (pt_17_6.inst y) k) x (fun y => k (.exit 2) (px_17_6_0.inst y)) := (gstep_17_6 (p_15 N) (p_9 N) (l_17_6 N N) (l_17_3 N N) n x k).trans (by kernel_rfl)
theorem eq_17_6 {R : Type} (N : Nat) : ∀ (n : Nat) (x : pt_17_6.den) (k : Exit → St → Option R), iter 4 lv_17_6 lo_17_6 (aexec TT (E_17 (R := R) N) (drawAny TT WW) (L_17 N) (loopAt 6 (bodyOf Try.f17))) n (pt_17_6.inst x) k = l_17_6 N n x (fun y => k (.exit 2) (px_17_6_0.inst y)) :=
  iter_eq (K := Exit → St → Option R) (ks := fun k => k) (l := fun n (x : pt_17_6.den) k => l_17_6 N n x (fun y => k (.exit 2) (px_17_6_0.inst y))) (B := fun (rec : pt_17_6.den → Option R) (x : pt_17_6.den) k => B_17_6 N rec x (fun y => k (.exit 2) (px_17_6_0.inst y))) (fun _ _ => rfl) (fun _ _ _ => rfl) (fun n x k => step_17_6 N n x k)
theorem rounds_17_6 {R : Type} (N : Nat) : Rounds 4 TT (E_17 (R := R) N) (drawAny TT WW) (L_17 N) 6 (loopAt 6 (bodyOf Try.f17)) :=
  rounds_of (p := pt_17_6) (l := fun (x : pt_17_6.den) k => l_17_6 N N x (fun y => k (.exit 2) (px_17_6_0.inst y))) (fun s k => rfl) (fun x k => eq_17_6 N N x k)
theorem gstep_17_3 {R : Type} (q_15 : Tp_15 R) (q_9 : Tp_9 R) (m_17_6 : Tl_17_6 R) (m_17_3 : Tl_17_3 R) (n : Nat) (x : pt_17_3.den) (k : Exit → St → Option R) : iter 4 lv_17_3 lo_17_3 (aexec TT (EG_17 q_15 q_9) (drawAny TT WW) (LG_17 m_17_6 m_17_3) (loopAt 3 (bodyOf Try.f17))) (n + 1) (pt_17_3.inst x) k = C_17_3 m_17_6 (fun y => iter 4 lv_17_3 lo_17_3 (aexec TT (EG_17 q_15 q_9) (drawAny TT WW) (LG_17 m_17_6 m_17_3) (loopAt 3 (bodyOf Try.f17))) n (pt_17_3.inst y) k) x (fun y => k (.exit 0) (px_17_3_0.inst y)) := by kernel_rfl
theorem step_17_3 {R : Type} (N n : Nat) (x : pt_17_3.den) (k : Exit → St → Option R) : iter 4 lv_17_3 lo_17_3 (aexec TT (E_17 (R := R) N) (drawAny TT WW) (L_17 N) (loopAt 3 (bodyOf Try.f17))) (n + 1) (pt_17_3.inst x) k = B_17_3 N (fun y => iter 4 lv_17_3 lo_17_3 (aexec TT (E_17 (R := R) N) (drawAny TT WW) (L_17 N) (loopAt 3 (bodyOf Try.f17))) n (pt_17_3.inst y) k) x (fun y => k (.exit 0) (px_17_3_0.inst y)) := (gstep_17_3 (p_15 N) (p_9 N) (l_17_6 N N) (l_17_3 N N) n x k).trans (by kernel_rfl)
theorem eq_17_3 {R : Type} (N : Nat) : ∀ (n : Nat) (x : pt_17_3.den) (k : Exit → St → Option R), iter 4 lv_17_3 lo_17_3 (aexec TT (E_17 (R := R) N) (drawAny TT WW) (L_17 N) (loopAt 3 (bodyOf Try.f17))) n (pt_17_3.inst x) k = l_17_3 N n x (fun y => k (.exit 0) (px_17_3_0.inst y)) :=
  iter_eq (K := Exit → St → Option R) (ks := fun k => k) (l := fun n (x : pt_17_3.den) k => l_17_3 N n x (fun y => k (.exit 0) (px_17_3_0.inst y))) (B := fun (rec : pt_17_3.den → Option R) (x : pt_17_3.den) k => B_17_3 N rec x (fun y => k (.exit 0) (px_17_3_0.inst y))) (fun _ _ => rfl) (fun _ _ _ => rfl) (fun n x k => step_17_3 N n x k)
theorem rounds_17_3 {R : Type} (N : Nat) : Rounds 4 TT (E_17 (R := R) N) (drawAny TT WW) (L_17 N) 3 (loopAt 3 (bodyOf Try.f17)) :=
  rounds_of (p := pt_17_3) (l := fun (x : pt_17_3.den) k => l_17_3 N N x (fun y => k (.exit 0) (px_17_3_0.inst y))) (fun s k => rfl) (fun x k => eq_17_3 N N x k)
theorem loops_17 : loopsIn (bodyOf Try.f17) = [(3, loopAt 3 (bodyOf Try.f17)), (6, loopAt 6 (bodyOf Try.f17))] := by kernel_rfl
theorem lok_17 {R : Type} (N : Nat) : LOK 4 TT (E_17 (R := R) N) (drawAny TT WW) (L_17 N) (bodyOf Try.f17) := loops_all loops_17 (by
  simp only [List.forall_mem_cons, List.not_mem_nil, false_implies, implies_true, and_true]
  exact ⟨rounds_17_3 N, rounds_17_6 N⟩)
theorem grun_17 {R : Type} (q_15 : Tp_15 R) (q_9 : Tp_9 R) (m_17_6 : Tl_17_6 R) (m_17_3 : Tl_17_3 R) (x : aden ap_17 × hden hp_17) (k : KF R) : fnrun TT (EG_17 q_15 q_9) (drawAny TT WW) (LG_17 m_17_6 m_17_3) true Try.f17 (instA ap_17 x.1) (instH hp_17 x.2) k = Q_17 q_15 q_9 m_17_6 m_17_3 x (fun y => k (Pat.inst (.sl 4) y.1) (instH J2 y.2)) := by kernel_rfl
theorem run_17 {R : Type} (N : Nat) (x : aden ap_17 × hden hp_17) (k : KF R) : fnrun TT (E_17 (R := R) N) (drawAny TT WW) (L_17 N) true Try.f17 (instA ap_17 x.1) (instH hp_17 x.2) k = p_17 N x (fun y => k (Pat.inst (.sl 4) y.1) (instH J2 y.2)) := (grun_17 (p_15 N) (p_9 N) (l_17_6 N N) (l_17_3 N N) x k).trans (by kernel_rfl)
theorem good_17 {R : Type} (N : Nat) : GD (X := R) Try.prog QQ AA 17 ap_17 hp_17 (fun (x : aden ap_17 × hden hp_17) k => p_17 N x (fun y => k (Pat.inst (.sl 4) y.1) (instH J2 y.2))) :=
  gd_loud (E := E_17 N) (p := fun (x : aden ap_17 × hden hp_17) k => p_17 N x (fun y => k (Pat.inst (.sl 4) y.1) (instH J2 y.2))) mixed tyok (eok_17 N) Try.func17 (by kernel_rfl) (by kernel_rfl) (by kernel_rfl) (by kernel_rfl) (lok_17 N) (fun x k => run_17 N x k)

def lv_16_9 : Live := [(0, none), (1, none), (5, none), (6, none)]
def pt_16_9 : SPat := ⟨[(0, .sl 0), (1, .sl 1), (5, .int .i64), (6, .int .i64)], J3⟩
def px_16_9_0 : SPat := ⟨[(4, .bool)], J3⟩
def px_16_9_1 : SPat := ⟨[(0, .sl 0), (1, .sl 1), (5, .int .i64)], J3⟩
def lo_16_9 : Exit → Live
  | .ret => [(4, none)]
  | .exit 2 => [(0, none), (1, none), (5, none)]
  | _ => []
def lv_16_4 : Live := [(0, none), (1, none), (5, none)]
def pt_16_4 : SPat := ⟨[(0, .sl 0), (1, .sl 1), (5, .int .i64)], J3⟩
def px_16_4_0 : SPat := ⟨[(4, .bool)], J3⟩
def px_16_4_1 : SPat := ⟨[], J3⟩
def lo_16_4 : Exit → Live
  | .ret => [(4, none)]
  | .exit 0 => []
  | _ => []
def ap_16 : List Pat := [.sl 0, .sl 1]
def hp_16 : List (Option (Pat × Nat)) := J3
abbrev Tl_16_9 (R : Type) : Type := (Y15 × (Y4 × Y4 × Unit)) → (((Bool × Unit) × (Y4 × Y4 × Unit)) → Option R) → (((Unit × Unit × Int × Unit) × (Y4 × Y4 × Unit)) → Option R) → Option R
abbrev Tl_16_4 (R : Type) : Type := ((Unit × Unit × Int × Unit) × (Y4 × Y4 × Unit)) → (((Bool × Unit) × (Y4 × Y4 × Unit)) → Option R) → (((Unit) × (Y4 × Y4 × Unit)) → Option R) → Option R
abbrev Tp_16 (R : Type) : Type := (Unit × Unit × Unit) × (Y4 × Y4 × Unit) → ((Bool × (Y4 × Y4 × Unit)) → Option R) → Option R
def C_16_9 {R : Type} (rec : (Y15 × (Y4 × Y4 × Unit)) → Option R) (x : (Y15 × (Y4 × Y4 × Unit))) (κ0 : ((Bool × Unit) × (Y4 × Y4 × Unit)) → Option R) (κ1 : ((Unit × Unit × Int × Unit) × (Y4 × Y4 × Unit)) → Option R) : Option R :=
let i3400 := x.1.2.2.1
let i3401 := x.1.2.2.2.1
let r3402 := x.2.1
let r3403 := x.2.2.1
bif decide (0 ≤ i3400) then (
bif decide (i3400 < ((List.length r3402) : Int)) then (
let i3404 : Int := (((List.length ((List.getD r3402 ((Int.toNat i3400)) []))) : Nat) : Int)
bif (decide (i3401 < i3404)) then (
bif decide (0 ≤ i3400) then (
bif decide (i3400 < ((List.length r3402) : Int)) then (
bif decide (0 ≤ i3401) then (
bif decide (i3401 < ((List.length ((List.getD r3402 ((Int.toNat i3400)) []))) : Int)) then (
let a3405 : (Nat → Int) := (List.getD ((List.getD r3402 ((Int.toNat i3400)) [])) ((Int.toNat i3401)) (Sch.zero (.arr 128 (.int .u64))))
bif decide (0 ≤ i3400) then (
bif decide (i3400 < ((List.length r3403) : Int)) then (
bif decide (0 ≤ i3401) then (
bif decide (i3401 < ((List.length ((List.getD r3403 ((Int.toNat i3400)) []))) : Int)) then (
let a3406 : (Nat → Int) := (List.getD ((List.getD r3403 ((Int.toNat i3400)) [])) ((Int.toNat i3401)) (Sch.zero (.arr 128 (.int .u64))))
bif (!(schEq (.arr 128 (.int .u64)) a3405 a3406)) then (
κ0 ((false, ()), (r3402, r3403, ()))) else (
let i3407 : Int := addA .i64 i3401 1
rec (((), (), i3400, i3407, ()), (r3402, r3403, ())))) else none) else none) else none) else none) else none) else none) else none) else none) else (
κ1 (((), (), i3400, ()), (r3402, r3403, ())))) else none) else none
def C_16_4 {R : Type} (m_16_9 : Tl_16_9 R) (rec : ((Unit × Unit × Int × Unit) × (Y4 × Y4 × Unit)) → Option R) (x : ((Unit × Unit × Int × Unit) × (Y4 × Y4 × Unit))) (κ0 : ((Bool × Unit) × (Y4 × Y4 × Unit)) → Option R) (κ1 : ((Unit) × (Y4 × Y4 × Unit)) → Option R) : Option R :=
let i3394 := x.1.2.2.1
let r3395 := x.2.1
let r3396 := x.2.2.1
let i3397 : Int := (((List.length r3395) : Nat) : Int)
bif (decide (i3394 < i3397)) then (
bif decide (0 ≤ i3394) then (
bif decide (i3394 < ((List.length r3395) : Int)) then (
let i3398 : Int := (((List.length ((List.getD r3395 ((Int.toNat i3394)) []))) : Nat) : Int)
bif decide (0 ≤ i3394) then (
bif decide (i3394 < ((List.length r3396) : Int)) then (
let i3399 : Int := (((List.length ((List.getD r3396 ((Int.toNat i3394)) []))) : Nat) : Int)
bif (i3398 != i3399) then (
κ0 ((false, ()), (r3395, r3396, ()))) else (
m_16_9 (((), (), i3394, 0, ()), (r3395, r3396, ())) (fun y3408 =>
let r3410 := y3408.2.1
let r3411 := y3408.2.2.1
κ0 (y3408.1, (r3410, r3411, ()))) (fun y3412 =>
let i3413 := y3412.1.2.2.1
let r3414 := y3412.2.1
let r3415 := y3412.2.2.1
let i3416 : Int := addA .i64 i3413 1
rec (((), (), i3416, ()), (r3414, r3415, ()))))) else none) else none) else none) else none) else (
κ1 ((), (r3395, r3396, ())))
def B_16_9 {R : Type} (N : Nat) (rec : (Y15 × (Y4 × Y4 × Unit)) → Option R) (x : (Y15 × (Y4 × Y4 × Unit))) (κ0 : ((Bool × Unit) × (Y4 × Y4 × Unit)) → Option R) (κ1 : ((Unit × Unit × Int × Unit) × (Y4 × Y4 × Unit)) → Option R) : Option R := C_16_9 rec x κ0 κ1
def l_16_9 {R : Type} (N : Nat) : Nat → (Y15 × (Y4 × Y4 × Unit)) → (((Bool × Unit) × (Y4 × Y4 × Unit)) → Option R) → (((Unit × Unit × Int × Unit) × (Y4 × Y4 × Unit)) → Option R) → Option R
  | 0, _, _, _ => none
  | n + 1, x, κ0, κ1 => B_16_9 N (fun y => l_16_9 N n y κ0 κ1) x κ0 κ1
def B_16_4 {R : Type} (N : Nat) (rec : ((Unit × Unit × Int × Unit) × (Y4 × Y4 × Unit)) → Option R) (x : ((Unit × Unit × Int × Unit) × (Y4 × Y4 × Unit))) (κ0 : ((Bool × Unit) × (Y4 × Y4 × Unit)) → Option R) (κ1 : ((Unit) × (Y4 × Y4 × Unit)) → Option R) : Option R := C_16_4 (l_16_9 N N) rec x κ0 κ1
def l_16_4 {R : Type} (N : Nat) : Nat → ((Unit × Unit × Int × Unit) × (Y4 × Y4 × Unit)) → (((Bool × Unit) × (Y4 × Y4 × Unit)) → Option R) → (((Unit) × (Y4 × Y4 × Unit)) → Option R) → Option R
  | 0, _, _, _ => none
  | n + 1, x, κ0, κ1 => B_16_4 N (fun y => l_16_4 N n y κ0 κ1) x κ0 κ1
def Q_16 {R : Type} (m_16_9 : Tl_16_9 R) (m_16_4 : Tl_16_4 R) (x : (Unit × Unit × Unit) × (Y4 × Y4 × Unit)) (κ0 : (Bool × (Y4 × Y4 × Unit)) → Option R) : Option R :=
let r3390 := x.2.1
let r3391 := x.2.2.1
let i3392 : Int := (((List.length r3390) : Nat) : Int)
let i3393 : Int := (((List.length r3391) : Nat) : Int)
bif (i3392 != i3393) then (
κ0 (false, (r3390, r3391, ()))) else (
m_16_4 (((), (), 0, ()), (r3390, r3391, ())) (fun y3417 =>
let b3418 := y3417.1.1
let r3419 := y3417.2.1
let r3420 := y3417.2.2.1
κ0 (b3418, (r3419, r3420, ()))) (fun y3421 =>
let r3422 := y3421.2.1
let r3423 := y3421.2.2.1
κ0 (true, (r3422, r3423, ()))))
def p_16 {R : Type} (N : Nat) (x : (Unit × Unit × Unit) × (Y4 × Y4 × Unit)) (κ0 : (Bool × (Y4 × Y4 × Unit)) → Option R) : Option R := Q_16 (l_16_9 N N) (l_16_4 N N) x κ0
def EG_16 {R : Type} : Env R := Env.base QQ LN AA
def LG_16 {R : Type} (m_16_9 : Tl_16_9 R) (m_16_4 : Tl_16_4 R) : Loops R := ((Loops.none).add 9 (loopBy 2 lv_16_9 pt_16_9 (fun x k => m_16_9 x (fun y => k .ret (px_16_9_0.inst y)) (fun y => k (.exit 2) (px_16_9_1.inst y))))).add 4 (loopBy 2 lv_16_4 pt_16_4 (fun x k => m_16_4 x (fun y => k .ret (px_16_4_0.inst y)) (fun y => k (.exit 0) (px_16_4_1.inst y))))
def E_16 {R : Type} (N : Nat) : Env R := EG_16
theorem eok_16 {R : Type} (N : Nat) : EK Try.prog (E_16 (R := R) N) := ek_base _ _ _
def L_16 {R : Type} (N : Nat) : Loops R := LG_16 (l_16_9 N N) (l_16_4 N N)
theorem gstep_16_9 {R : Type} (m_16_9 : Tl_16_9 R) (m_16_4 : Tl_16_4 R) (n : Nat) (x : pt_16_9.den) (k : Exit → St → Option R) : iter 2 lv_16_9 lo_16_9 (aexec TT (EG_16) (drawAny TT WW) (LG_16 m_16_9 m_16_4) (loopAt 9 (bodyOf Try.f16))) (n + 1) (pt_16_9.inst x) k = C_16_9 (fun y => iter 2 lv_16_9 lo_16_9 (aexec TT (EG_16) (drawAny TT WW) (LG_16 m_16_9 m_16_4) (loopAt 9 (bodyOf Try.f16))) n (pt_16_9.inst y) k) x (fun y => k .ret (px_16_9_0.inst y)) (fun y => k (.exit 2) (px_16_9_1.inst y)) := by kernel_rfl
theorem step_16_9 {R : Type} (N n : Nat) (x : pt_16_9.den) (k : Exit → St → Option R) : iter 2 lv_16_9 lo_16_9 (aexec TT (E_16 (R := R) N) (drawAny TT WW) (L_16 N) (loopAt 9 (bodyOf Try.f16))) (n + 1) (pt_16_9.inst x) k = B_16_9 N (fun y => iter 2 lv_16_9 lo_16_9 (aexec TT (E_16 (R := R) N) (drawAny TT WW) (L_16 N) (loopAt 9 (bodyOf Try.f16))) n (pt_16_9.inst y) k) x (fun y => k .ret (px_16_9_0.inst y)) (fun y => k (.exit 2) (px_16_9_1.inst y)) := (gstep_16_9 (l_16_9 N N) (l_16_4 N N) n x k).trans (by kernel_rfl)
theorem eq_16_9 {R : Type} (N : Nat) : ∀ (n : Nat) (x : pt_16_9.den) (k : Exit → St → Option R), iter 2 lv_16_9 lo_16_9 (aexec TT (E_16 (R := R) N) (drawAny TT WW) (L_16 N) (loopAt 9 (bodyOf Try.f16))) n (pt_16_9.inst x) k = l_16_9 N n x (fun y => k .ret (px_16_9_0.inst y)) (fun y => k (.exit 2) (px_16_9_1.inst y)) :=
  iter_eq (K := Exit → St → Option R) (ks := fun k => k) (l := fun n (x : pt_16_9.den) k => l_16_9 N n x (fun y => k .ret (px_16_9_0.inst y)) (fun y => k (.exit 2) (px_16_9_1.inst y))) (B := fun (rec : pt_16_9.den → Option R) (x : pt_16_9.den) k => B_16_9 N rec x (fun y => k .ret (px_16_9_0.inst y)) (fun y => k (.exit 2) (px_16_9_1.inst y))) (fun _ _ => rfl) (fun _ _ _ => rfl) (fun n x k => step_16_9 N n x k)
theorem rounds_16_9 {R : Type} (N : Nat) : Rounds 2 TT (E_16 (R := R) N) (drawAny TT WW) (L_16 N) 9 (loopAt 9 (bodyOf Try.f16)) :=
  rounds_of (p := pt_16_9) (l := fun (x : pt_16_9.den) k => l_16_9 N N x (fun y => k .ret (px_16_9_0.inst y)) (fun y => k (.exit 2) (px_16_9_1.inst y))) (fun s k => rfl) (fun x k => eq_16_9 N N x k)
theorem gstep_16_4 {R : Type} (m_16_9 : Tl_16_9 R) (m_16_4 : Tl_16_4 R) (n : Nat) (x : pt_16_4.den) (k : Exit → St → Option R) : iter 2 lv_16_4 lo_16_4 (aexec TT (EG_16) (drawAny TT WW) (LG_16 m_16_9 m_16_4) (loopAt 4 (bodyOf Try.f16))) (n + 1) (pt_16_4.inst x) k = C_16_4 m_16_9 (fun y => iter 2 lv_16_4 lo_16_4 (aexec TT (EG_16) (drawAny TT WW) (LG_16 m_16_9 m_16_4) (loopAt 4 (bodyOf Try.f16))) n (pt_16_4.inst y) k) x (fun y => k .ret (px_16_4_0.inst y)) (fun y => k (.exit 0) (px_16_4_1.inst y)) := by kernel_rfl
theorem step_16_4 {R : Type} (N n : Nat) (x : pt_16_4.den) (k : Exit → St → Option R) : iter 2 lv_16_4 lo_16_4 (aexec TT (E_16 (R := R) N) (drawAny TT WW) (L_16 N) (loopAt 4 (bodyOf Try.f16))) (n + 1) (pt_16_4.inst x) k = B_16_4 N (fun y => iter 2 lv_16_4 lo_16_4 (aexec TT (E_16 (R := R) N) (drawAny TT WW) (L_16 N) (loopAt 4 (bodyOf Try.f16))) n (pt_16_4.inst y) k) x (fun y => k .ret (px_16_4_0.inst y)) (fun y => k (.exit 0) (px_16_4_1.inst y)) := (gstep_16_4 (l_16_9 N N) (l_16_4 N N) n x k).trans (by kernel_rfl)
theorem eq_16_4 {R : Type} (N : Nat) : ∀ (n : Nat) (x : pt_16_4.den) (k : Exit → St → Option R), iter 2 lv_16_4 lo_16_4 (aexec TT (E_16 (R := R) N) (drawAny TT WW) (L_16 N) (loopAt 4 (bodyOf Try.f16))) n (pt_16_4.inst x) k = l_16_4 N n x (fun y => k .ret (px_16_4_0.inst y)) (fun y => k (.exit 0) (px_16_4_1.inst y)) :=
  iter_eq (K := Exit → St → Option R) (ks := fun k => k) (l := fun n (x : pt_16_4.den) k => l_16_4 N n x (fun y => k .ret (px_16_4_0.inst y)) (fun y => k (.exit 0) (px_16_4_1.inst y))) (B := fun (rec : pt_16_4.den → Option R) (x : pt_16_4.den) k => B_16_4 N rec x (fun y => k .ret (px_16_4_0.inst y)) (fun y => k (.exit 0) (px_16_4_1.inst y))) (fun _ _ => rfl) (fun _ _ _ => rfl) (fun n x k => step_16_4 N n x k)
theorem rounds_16_4 {R : Type} (N : Nat) : Rounds 2 TT (E_16 (R := R) N) (drawAny TT WW) (L_16 N) 4 (loopAt 4 (bodyOf Try.f16)) :=
  rounds_of (p := pt_16_4) (l := fun (x : pt_16_4.den) k => l_16_4 N N x (fun y => k .ret (px_16_4_0.inst y)) (fun y => k (.exit 0) (px_16_4_1.inst y))) (fun s k => rfl) (fun x k => eq_16_4 N N x k)
theorem loops_16 : loopsIn (bodyOf Try.f16) = [(4, loopAt 4 (bodyOf Try.f16)), (9, loopAt 9 (bodyOf Try.f16))] := by kernel_rfl
theorem lok_16 {R : Type} (N : Nat) : LOK 2 TT (E_16 (R := R) N) (drawAny TT WW) (L_16 N) (bodyOf Try.f16) := loops_all loops_16 (by
  simp only [List.forall_mem_cons, List.not_mem_nil, false_implies, implies_true, and_true]
  exact ⟨rounds_16_4 N, rounds_16_9 N⟩)
theorem grun_16 {R : Type} (m_16_9 : Tl_16_9 R) (m_16_4 : Tl_16_4 R) (x : aden ap_16 × hden hp_16) (k : KF R) : fnrun TT (EG_16) (drawAny TT WW) (LG_16 m_16_9 m_16_4) true Try.f16 (instA ap_16 x.1) (instH hp_16 x.2) k = Q_16 m_16_9 m_16_4 x (fun y => k (Pat.inst (.bool) y.1) (instH J3 y.2)) := by kernel_rfl
theorem run_16 {R : Type} (N : Nat) (x : aden ap_16 × hden hp_16) (k : KF R) : fnrun TT (E_16 (R := R) N) (drawAny TT WW) (L_16 N) true Try.f16 (instA ap_16 x.1) (instH hp_16 x.2) k = p_16 N x (fun y => k (Pat.inst (.bool) y.1) (instH J3 y.2)) := (grun_16 (l_16_9 N N) (l_16_4 N N) x k).trans (by kernel_rfl)
theorem good_16 {R : Type} (N : Nat) : GD (X := R) Try.prog QQ AA 16 ap_16 hp_16 (fun (x : aden ap_16 × hden hp_16) k => p_16 N x (fun y => k (Pat.inst (.bool) y.1) (instH J3 y.2))) :=
  gd_loud (E := E_16 N) (p := fun (x : aden ap_16 × hden hp_16) k => p_16 N x (fun y => k (Pat.inst (.bool) y.1) (instH J3 y.2))) mixed tyok (eok_16 N) Try.func16 (by kernel_rfl) (by kernel_rfl) (by kernel_rfl) (by kernel_rfl) (lok_16 N) (fun x k => run_16 N x k)

def lv_7_16 : Live := [(2, none), (7, none), (8, none), (9, none), (10, none), (12, none), (55, none), (56, none)]
def pt_7_16 : SPat := ⟨[(2, .ros (.int .i64)), (7, .ptr 0 []), (8, .ptr 4 []), (9, .int .i64), (10, .ptr 8 []), (12, .sl 9), (55, .int .i64), (56, .int .i64)], J12⟩
def px_7_16_0 : SPat := ⟨[(2, .ros (.int .i64)), (7, .ptr 0 []), (8, .ptr 4 []), (9, .int .i64), (10, .ptr 8 []), (12, .sl 9)], J12⟩
def lo_7_16 : Exit → Live
  | .exit 2 => [(2, none), (7, none), (8, none), (9, none), (10, none), (12, none)]
  | _ => []
def lv_7_20 : Live := [(2, none), (7, none), (8, none), (9, none), (10, none), (12, none)]
def pt_7_20 : SPat := ⟨[(2, .ros (.int .i64)), (7, .ptr 0 []), (8, .ptr 4 []), (9, .int .i64), (10, .ptr 8 []), (12, .sl 9)], J12⟩
def px_7_20_0 : SPat := ⟨[(6, .bool)], []⟩
def px_7_20_1 : SPat := ⟨[(2, .ros (.int .i64)), (7, .ptr 0 []), (8, .ptr 4 []), (9, .int .i64), (10, .ptr 8 [])], [some (Z4, 49), some (Z2, 147), some (Z1, 145), some (.lst (.arr 128 (.int .u64)), 29), some (.node (.fcons (.ptr 5 []) (.fcons Z0 (.fnil))), 49), some (Z13, 147), some (Z1, 145), some (.lst (.arr 128 (.int .u64)), 29), some (Z7, 69)]⟩
def lo_7_20 : Exit → Live
  | .ret => [(6, none)]
  | .exit 4 => [(2, none), (7, none), (8, none), (9, none), (10, none)]
  | _ => []
def lv_7_12 : Live := [(2, none), (7, none), (8, none), (9, none), (10, none), (11, none)]
def pt_7_12 : SPat := ⟨[(2, .ros (.int .i64)), (7, .ptr 0 []), (8, .ptr 4 []), (9, .int .i64), (10, .ptr 8 []), (11, .bool)], [some (Z4, 49), some (Z2, 147), some (Z1, 145), some (.lst (.arr 128 (.int .u64)), 29), some (.node (.fcons (.ptr 5 []) (.fcons Z0 (.fnil))), 49), some (Z13, 147), some (Z1, 145), some (.lst (.arr 128 (.int .u64)), 29), some (Z7, 69)]⟩
def px_7_12_0 : SPat := ⟨[(6, .bool)], []⟩
def px_7_12_1 : SPat := ⟨[(7, .ptr 0 []), (8, .ptr 4 [])], [some (Z4, 49), some (Z2, 147), some (Z1, 145), some (.lst (.arr 128 (.int .u64)), 29), some (.node (.fcons (.ptr 5 []) (.fcons Z0 (.fnil))), 49), some (Z13, 147), some (Z1, 145), some (.lst (.arr 128 (.int .u64)), 29)]⟩
def lo_7_12 : Exit → Live
  | .ret => [(6, none)]
  | .exit 0 => [(7, none), (8, none)]
  | _ => []
def ap_7 : List Pat := [.node (.fcons (.int .i64) (.fcons (.int .i64) (.fcons (.int .i64) (.fcons (.int .i64) (.fcons (.int .i64) (.fnil)))))), .str, .ros (.int .i64)]
def hp_7 : List (Option (Pat × Nat)) := []
abbrev Tl_7_16 (R : Type) : Type := (((List Int) × Unit × Unit × Int × Unit × Unit × Int × Int × Unit) × Y7) → ((((List Int) × Unit × Unit × Int × Unit × Unit × Unit) × Y7) → Option R) → Option R
abbrev Tl_7_20 (R : Type) : Type := (((List Int) × Unit × Unit × Int × Unit × Unit × Unit) × Y7) → (((Bool × Unit) × (Unit)) → Option R) → ((((List Int) × Unit × Unit × Int × Unit × Unit) × Y13) → Option R) → Option R
abbrev Tl_7_12 (R : Type) : Type := (((List Int) × Unit × Unit × Int × Unit × Bool × Unit) × Y13) → (((Bool × Unit) × (Unit)) → Option R) → (((Unit × Unit × Unit) × ((Unit × (Y0 × Unit)) × Y3 × Y2 × (List (Nat → Int)) × (Unit × (Y0 × Unit)) × Y3 × Y2 × (List (Nat → Int)) × Unit)) → Option R) → Option R
abbrev Tp_7 (R : Type) : Type := ((Int × Y2) × ByteArray × (List Int) × Unit) × (Unit) → ((Bool × (Unit)) → Option R) → Option R
def C_7_16 {R : Type} (rec : (((List Int) × Unit × Unit × Int × Unit × Unit × Int × Int × Unit) × Y7) → Option R) (x : (((List Int) × Unit × Unit × Int × Unit × Unit × Int × Int × Unit) × Y7)) (κ0 : (((List Int) × Unit × Unit × Int × Unit × Unit × Unit) × Y7) → Option R) : Option R :=
let l3000 := x.1.1
let i3001 := x.1.2.2.2.1
let i3002 := x.1.2.2.2.2.2.2.1
let i3003 := x.1.2.2.2.2.2.2.2.1
let l3017 := x.2.2.2.2.1
let l3031 := x.2.2.2.2.2.2.2.2.1
let i3032 := x.2.2.2.2.2.2.2.2.2.1.1
let i3033 := x.2.2.2.2.2.2.2.2.2.1.2.1
let l3034 := x.2.2.2.2.2.2.2.2.2.2.1
bif (decide (i3003 < i3002)) then (
bif decide (0 ≤ i3003) then (
bif decide (i3003 < ((List.length l3034) : Int)) then (
let l3035 : (List Int) := (List.set l3034 ((Int.toNat i3003)) i3003)
let i3036 : Int := addA .i64 i3003 1
rec ((l3000, (), (), i3001, (), (), i3002, i3036, ()), (x.2.1, x.2.2.1, x.2.2.2.1, l3017, x.2.2.2.2.2.1, x.2.2.2.2.2.2.1, x.2.2.2.2.2.2.2.1, l3031, (i3032, (i3033, ())), l3035, ()))) else none) else none) else (
κ0 ((l3000, (), (), i3001, (), (), ()), (x.2.1, x.2.2.1, x.2.2.2.1, l3017, x.2.2.2.2.2.1, x.2.2.2.2.2.2.1, x.2.2.2.2.2.2.2.1, l3031, (i3032, (i3033, ())), l3034, ())))
def C_7_20 {R : Type} (q_31 : Tp_31 R) (rec : (((List Int) × Unit × Unit × Int × Unit × Unit × Unit) × Y7) → Option R) (x : (((List Int) × Unit × Unit × Int × Unit × Unit × Unit) × Y7)) (κ0 : ((Bool × Unit) × (Unit)) → Option R) (κ1 : (((List Int) × Unit × Unit × Int × Unit × Unit) × Y13) → Option R) : Option R :=
let l3071 := x.1.1
let i3072 := x.1.2.2.2.1
let l3086 := x.2.2.2.2.1
let l3100 := x.2.2.2.2.2.2.2.2.1
let i3101 := x.2.2.2.2.2.2.2.2.2.1.1
let i3102 := x.2.2.2.2.2.2.2.2.2.1.2.1
let l3103 := x.2.2.2.2.2.2.2.2.2.2.1
let i3104 : Int := (((List.length l3103) : Nat) : Int)
bif (decide (i3104 > 0)) then (
let i3105 : Int := (((List.length l3071) : Nat) : Int)
bif (decide (i3072 < i3105)) then (
bif decide (0 ≤ i3072) then (
bif decide (i3072 < ((List.length l3071) : Int)) then (
let p3106 : Int := (List.getD l3071 ((Int.toNat i3072)) (Sch.zero (.int .i64)))
let i3107 : Int := (((List.length l3103) : Nat) : Int)
bif decide (i3107 = 0) then none else (
let i3108 : Int := remA .i64 p3106 i3107
let i3109 : Int := (((List.length l3103) : Nat) : Int)
let i3110 : Int := addA .i64 i3108 i3109
let i3111 : Int := (((List.length l3103) : Nat) : Int)
bif decide (i3111 = 0) then none else (
let i3112 : Int := remA .i64 i3110 i3111
let i3113 : Int := addA .i64 i3072 1
bif decide (0 ≤ i3112) then (
bif decide (i3112 < ((List.length l3103) : Int)) then (
let i3114 : Int := (List.getD l3103 ((Int.toNat i3112)) (Sch.zero (.int .i64)))
q_31 (((), (i3101, (i3102, ())), i3114, ()), (x.2.2.2.2.2.1, x.2.2.2.2.2.2.1, x.2.2.2.2.2.2.2.1, l3100, ())) (fun y3115 =>
let i3116 := y3115.1
let l3130 := y3115.2.2.2.2.1
bif (i3116 != 0) then (
κ0 ((false, ()), ())) else (
let l3131 : (List Int) := []
bif decide (0 ≤ i3112) then (
bif decide (i3112 ≤ (((List.length l3103) : Nat) : Int)) then (
bif decide (0 ≤ i3112) then (
bif (decide ((List.length l3131 + List.length ((List.take (((Int.toNat i3112) - 0)) (List.drop 0 l3103)))) * 8 ≤ 140737488355328) && true) then (
let l3132 : (List Int) := (l3131 ++ (List.take (((Int.toNat i3112) - 0)) (List.drop 0 l3103)))
let i3133 : Int := addA .i64 i3112 1
bif decide (0 ≤ (((List.length l3103) : Nat) : Int)) then (
bif decide ((((List.length l3103) : Nat) : Int) ≤ (((List.length l3103) : Nat) : Int)) then (
bif decide (0 ≤ i3133) then (
bif decide (i3133 ≤ (((List.length l3103) : Nat) : Int)) then (
bif (decide ((List.length l3132 + List.length ((List.take (((List.length l3103) - (Int.toNat i3133))) (List.drop ((Int.toNat i3133)) l3103)))) * 8 ≤ 140737488355328) && true) then (
let l3134 : (List Int) := (l3132 ++ (List.take (((List.length l3103) - (Int.toNat i3133))) (List.drop ((Int.toNat i3133)) l3103)))
rec ((l3071, (), (), i3113, (), (), ()), (x.2.1, x.2.2.1, x.2.2.2.1, l3086, y3115.2.1, y3115.2.2.1, y3115.2.2.2.1, l3130, (i3101, (i3102, ())), l3134, ()))) else none) else none) else none) else none) else none) else none) else none) else none) else none))) else none) else none))) else none) else none) else (
let i3135 : Int := addA .i64 i3072 1
bif decide (0 < ((List.length l3103) : Int)) then (
let i3136 : Int := (List.getD l3103 0 (Sch.zero (.int .i64)))
q_31 (((), (i3101, (i3102, ())), i3136, ()), (x.2.2.2.2.2.1, x.2.2.2.2.2.2.1, x.2.2.2.2.2.2.2.1, l3100, ())) (fun y3137 =>
let i3138 := y3137.1
let l3152 := y3137.2.2.2.2.1
bif (i3138 != 0) then (
κ0 ((false, ()), ())) else (
let l3153 : (List Int) := []
bif decide (0 ≤ (((List.length l3103) : Nat) : Int)) then (
bif (decide ((List.length l3153 + List.length ((List.take ((0 - 0)) (List.drop 0 l3103)))) * 8 ≤ 140737488355328) && true) then (
let l3154 : (List Int) := (l3153 ++ (List.take ((0 - 0)) (List.drop 0 l3103)))
let i3155 : Int := addA .i64 0 1
bif decide (0 ≤ (((List.length l3103) : Nat) : Int)) then (
bif decide ((((List.length l3103) : Nat) : Int) ≤ (((List.length l3103) : Nat) : Int)) then (
bif decide (0 ≤ i3155) then (
bif decide (i3155 ≤ (((List.length l3103) : Nat) : Int)) then (
bif (decide ((List.length l3154 + List.length ((List.take (((List.length l3103) - (Int.toNat i3155))) (List.drop ((Int.toNat i3155)) l3103)))) * 8 ≤ 140737488355328) && true) then (
let l3156 : (List Int) := (l3154 ++ (List.take (((List.length l3103) - (Int.toNat i3155))) (List.drop ((Int.toNat i3155)) l3103)))
rec ((l3071, (), (), i3135, (), (), ()), (x.2.1, x.2.2.1, x.2.2.2.1, l3086, y3137.2.1, y3137.2.2.1, y3137.2.2.2.1, l3152, (i3101, (i3102, ())), l3156, ()))) else none) else none) else none) else none) else none) else none) else none))) else none)) else (
κ1 ((l3071, (), (), i3072, (), ()), (x.2.1, x.2.2.1, x.2.2.2.1, l3086, x.2.2.2.2.2.1, x.2.2.2.2.2.2.1, x.2.2.2.2.2.2.2.1, l3100, (i3101, (i3102, ())), ())))
def C_7_12 {R : Type} (q_41 : Tp_41 R) (m_7_16 : Tl_7_16 R) (m_7_20 : Tl_7_20 R) (rec : (((List Int) × Unit × Unit × Int × Unit × Bool × Unit) × Y13) → Option R) (x : (((List Int) × Unit × Unit × Int × Unit × Bool × Unit) × Y13)) (κ0 : ((Bool × Unit) × (Unit)) → Option R) (κ1 : ((Unit × Unit × Unit) × ((Unit × (Y0 × Unit)) × Y3 × Y2 × (List (Nat → Int)) × (Unit × (Y0 × Unit)) × Y3 × Y2 × (List (Nat → Int)) × Unit)) → Option R) : Option R :=
let l2965 := x.1.1
let i2966 := x.1.2.2.2.1
let b2967 := x.1.2.2.2.2.2.1
let l2981 := x.2.2.2.2.1
let i2984 := x.2.2.2.2.2.1.2.1.2.2.1
let l2995 := x.2.2.2.2.2.2.2.2.1
let i2996 := x.2.2.2.2.2.2.2.2.2.1.1
let i2997 := x.2.2.2.2.2.2.2.2.2.1.2.1
bif b2967 then (
bif decide (0 ≤ i2984) then (
bif decide (i2984 ≤ i2984) then (
bif decide (((8 : Nat) : Int) * i2984 ≤ 281474976710656) then (
bif decide (i2984 ≤ 9223372036854775807) then (
let l2998 : (List Int) := List.replicate ((Int.toNat i2984)) (Sch.zero (.int .i64))
let i2999 : Int := (((List.length l2998) : Nat) : Int)
m_7_16 ((l2965, (), (), i2966, (), (), i2999, 0, ()), (x.2.1, x.2.2.1, x.2.2.2.1, l2981, x.2.2.2.2.2.1, x.2.2.2.2.2.2.1, x.2.2.2.2.2.2.2.1, l2995, (i2996, (i2997, ())), l2998, ())) (fun y3037 =>
let l3038 := y3037.1.1
let i3039 := y3037.1.2.2.2.1
let l3053 := y3037.2.2.2.2.1
let l3067 := y3037.2.2.2.2.2.2.2.2.1
let i3068 := y3037.2.2.2.2.2.2.2.2.2.1.1
let i3069 := y3037.2.2.2.2.2.2.2.2.2.1.2.1
let l3070 := y3037.2.2.2.2.2.2.2.2.2.2.1
m_7_20 ((l3038, (), (), i3039, (), (), ()), (y3037.2.1, y3037.2.2.1, y3037.2.2.2.1, l3053, y3037.2.2.2.2.2.1, y3037.2.2.2.2.2.2.1, y3037.2.2.2.2.2.2.2.1, l3067, (i3068, (i3069, ())), l3070, ())) (fun y3157 =>
κ0 (y3157.1, ())) (fun y3159 =>
let l3160 := y3159.1.1
let i3161 := y3159.1.2.2.2.1
let l3175 := y3159.2.2.2.2.1
let l3189 := y3159.2.2.2.2.2.2.2.2.1
let i3190 := y3159.2.2.2.2.2.2.2.2.2.1.1
let i3191 := y3159.2.2.2.2.2.2.2.2.2.1.2.1
q_41 ((y3159.2.2.2.2.2.1.2.1, (i3190, (i3191, ())), ()), ()) (fun y3192 =>
let b3195 := y3192.2.1
rec ((l3160, (), (), i3161, (), b3195, ()), (y3159.2.1, y3159.2.2.1, y3159.2.2.2.1, l3175, y3159.2.2.2.2.2.1, y3159.2.2.2.2.2.2.1, y3159.2.2.2.2.2.2.2.1, l3189, y3192.1, ())))))) else none) else none) else none) else none) else (
κ1 (((), (), ()), (x.2.1, x.2.2.1, x.2.2.2.1, l2981, x.2.2.2.2.2.1, x.2.2.2.2.2.2.1, x.2.2.2.2.2.2.2.1, l2995, ())))
def B_7_16 {R : Type} (N : Nat) (rec : (((List Int) × Unit × Unit × Int × Unit × Unit × Int × Int × Unit) × Y7) → Option R) (x : (((List Int) × Unit × Unit × Int × Unit × Unit × Int × Int × Unit) × Y7)) (κ0 : (((List Int) × Unit × Unit × Int × Unit × Unit × Unit) × Y7) → Option R) : Option R := C_7_16 rec x κ0
def l_7_16 {R : Type} (N : Nat) : Nat → (((List Int) × Unit × Unit × Int × Unit × Unit × Int × Int × Unit) × Y7) → ((((List Int) × Unit × Unit × Int × Unit × Unit × Unit) × Y7) → Option R) → Option R
  | 0, _, _ => none
  | n + 1, x, κ0 => B_7_16 N (fun y => l_7_16 N n y κ0) x κ0
def B_7_20 {R : Type} (N : Nat) (rec : (((List Int) × Unit × Unit × Int × Unit × Unit × Unit) × Y7) → Option R) (x : (((List Int) × Unit × Unit × Int × Unit × Unit × Unit) × Y7)) (κ0 : ((Bool × Unit) × (Unit)) → Option R) (κ1 : (((List Int) × Unit × Unit × Int × Unit × Unit) × Y13) → Option R) : Option R := C_7_20 (p_31 N) rec x κ0 κ1
def l_7_20 {R : Type} (N : Nat) : Nat → (((List Int) × Unit × Unit × Int × Unit × Unit × Unit) × Y7) → (((Bool × Unit) × (Unit)) → Option R) → ((((List Int) × Unit × Unit × Int × Unit × Unit) × Y13) → Option R) → Option R
  | 0, _, _, _ => none
  | n + 1, x, κ0, κ1 => B_7_20 N (fun y => l_7_20 N n y κ0 κ1) x κ0 κ1
def B_7_12 {R : Type} (N : Nat) (rec : (((List Int) × Unit × Unit × Int × Unit × Bool × Unit) × Y13) → Option R) (x : (((List Int) × Unit × Unit × Int × Unit × Bool × Unit) × Y13)) (κ0 : ((Bool × Unit) × (Unit)) → Option R) (κ1 : ((Unit × Unit × Unit) × ((Unit × (Y0 × Unit)) × Y3 × Y2 × (List (Nat → Int)) × (Unit × (Y0 × Unit)) × Y3 × Y2 × (List (Nat → Int)) × Unit)) → Option R) : Option R := C_7_12 (p_41 N) (l_7_16 N N) (l_7_20 N N) rec x κ0 κ1
def l_7_12 {R : Type} (N : Nat) : Nat → (((List Int) × Unit × Unit × Int × Unit × Bool × Unit) × Y13) → (((Bool × Unit) × (Unit)) → Option R) → (((Unit × Unit × Unit) × ((Unit × (Y0 × Unit)) × Y3 × Y2 × (List (Nat → Int)) × (Unit × (Y0 × Unit)) × Y3 × Y2 × (List (Nat → Int)) × Unit)) → Option R) → Option R
  | 0, _, _, _ => none
  | n + 1, x, κ0, κ1 => B_7_12 N (fun y => l_7_12 N n y κ0 κ1) x κ0 κ1
def Q_7 {R : Type} (q_28 : Tp_28 R) (q_14 : Tp_14 R) (q_13 : Tp_13 R) (q_13_v1 : Tp_13_v1 R) (q_40_v1 : Tp_40_v1 R) (q_17 : Tp_17 R) (q_16 : Tp_16 R) (q_31 : Tp_31 R) (q_41 : Tp_41 R) (m_7_16 : Tl_7_16 R) (m_7_20 : Tl_7_20 R) (m_7_12 : Tl_7_12 R) (x : ((Int × Y2) × ByteArray × (List Int) × Unit) × (Unit)) (κ0 : (Bool × (Unit)) → Option R) : Option R :=
let s6 := x.1.2.1
let l7 := x.1.2.2.1
q_28 ((), ()) (fun y918 =>
let b919 : Bool := y918
bif (!b919) then (
κ0 (false, ())) else (
q_14 ((x.1.1, ()), ()) (fun y920 =>
q_14 ((x.1.1, ()), ()) (fun y921 =>
κ0 (true, ())) (fun y922 =>
κ0 (true, ()))) (fun y937 =>
let l951 := y937.2.2.2.2.1
q_14 ((x.1.1, ()), ()) (fun y952 =>
let i953 : Int := ((ByteArray.size s6 : Nat) : Int)
bif (decide (i953 > 200)) then (
κ0 (true, ())) else (
q_13 (((), s6, ()), (y937.2.1, y937.2.2.1, y937.2.2.2.1, l951, ())) (fun y2492 =>
let l2507 := y2492.2.2.2.2.1
q_13_v1 (((), s6, ()), ()) (fun y2509 =>
q_40_v1 (((), ()), (y2492.2.1, y2492.2.2.1, y2492.2.2.2.1, l2507, ())) (fun y2885 =>
let i2886 := y2885.1
bif (i2886 != 0) then (
κ0 (false, ())) else (
none)))))) (fun y2901 =>
let l2915 := y2901.2.2.2.2.1
let i2916 : Int := ((ByteArray.size s6 : Nat) : Int)
bif (decide (i2916 > 200)) then (
κ0 (true, ())) else (
q_13 (((), s6, ()), (y937.2.1, y937.2.2.1, y937.2.2.2.1, l951, ())) (fun y2917 =>
let l2932 := y2917.2.2.2.2.1
q_13 (((), s6, ()), (y2901.2.1, y2901.2.2.1, y2901.2.2.2.1, l2915, ())) (fun y2933 =>
let l2948 := y2933.2.2.2.2.1
q_40_v1 (((), ()), (y2917.2.1, y2917.2.2.1, y2917.2.2.2.1, l2932, ())) (fun y2949 =>
let i2950 := y2949.1
let l2964 := y2949.2.2.2.2.1
bif (i2950 != 0) then (
κ0 (false, ())) else (
m_7_12 ((l7, (), (), 0, (), true, ()), (y2949.2.1, y2949.2.2.1, y2949.2.2.2.1, l2964, y2933.2.1, y2933.2.2.1, y2933.2.2.2.1, l2948, (0, (0, ())), ())) (fun y3196 =>
κ0 y3196.1) (fun y3198 =>
let l3212 := y3198.2.2.2.2.1
let l3226 := y3198.2.2.2.2.2.2.2.2.1
q_17 (((), ()), (y3198.2.1, y3198.2.2.1, y3198.2.2.2.1, l3212, ())) (fun y3358 =>
let r3373 := y3358.2.2.2.2.2.1
q_17 (((), ()), (y3198.2.2.2.2.2.1, y3198.2.2.2.2.2.2.1, y3198.2.2.2.2.2.2.2.1, l3226, ())) (fun y3374 =>
let r3389 := y3374.2.2.2.2.2.1
q_16 (((), (), ()), (r3373, r3389, ())) (fun y3424 =>
let b3425 := y3424.1
κ0 (b3425, ()))))))))))))))
def p_7 {R : Type} (N : Nat) (x : ((Int × Y2) × ByteArray × (List Int) × Unit) × (Unit)) (κ0 : (Bool × (Unit)) → Option R) : Option R := Q_7 (p_28 N) (p_14 N) (p_13 N) (p_13_v1 N) (p_40_v1 N) (p_17 N) (p_16 N) (p_31 N) (p_41 N) (l_7_16 N N) (l_7_20 N N) (l_7_12 N N) x κ0
def EG_7 {R : Type} (q_28 : Tp_28 R) (q_14 : Tp_14 R) (q_13 : Tp_13 R) (q_13_v1 : Tp_13_v1 R) (q_40_v1 : Tp_40_v1 R) (q_17 : Tp_17 R) (q_16 : Tp_16 R) (q_31 : Tp_31 R) (q_41 : Tp_41 R) : Env R := (((((((((Env.base QQ LN AA).add 28 ap_28 hp_28 (fun (x : aden ap_28 × hden hp_28) k => q_28 x (fun y => k (Pat.inst (.bool) y) (instH hp_28 x.2)))).add 14 ap_14 hp_14 (fun (x : aden ap_14 × hden hp_14) k => q_14 x (fun y => k (Pat.inst (.nilp) y.1) (instH [] y.2)) (fun y => k (Pat.inst (.ptr 0 []) y.1) (instH J0 y.2)))).add 13 ap_13 hp_13 (fun (x : aden ap_13 × hden hp_13) k => q_13 x (fun y => k (Pat.inst (.int .i64) y.1) (instH J0 y.2)))).add 13 ap_13_v1 hp_13_v1 (fun (x : aden ap_13_v1 × hden hp_13_v1) k => q_13_v1 x (fun y => k (Pat.inst (.int .i64) y.1) (instH [] y.2)))).add 40 ap_40_v1 hp_40_v1 (fun (x : aden ap_40_v1 × hden hp_40_v1) k => q_40_v1 x (fun y => k (Pat.inst (.int .i64) y.1) (instH J0 y.2)))).add 17 ap_17 hp_17 (fun (x : aden ap_17 × hden hp_17) k => q_17 x (fun y => k (Pat.inst (.sl 4) y.1) (instH J2 y.2)))).add 16 ap_16 hp_16 (fun (x : aden ap_16 × hden hp_16) k => q_16 x (fun y => k (Pat.inst (.bool) y.1) (instH J3 y.2)))).add 31 ap_31 hp_31 (fun (x : aden ap_31 × hden hp_31) k => q_31 x (fun y => k (Pat.inst (.int .i64) y.1) (instH J0 y.2)))).add 41 ap_41 hp_41 (fun (x : aden ap_41 × hden hp_41) k => q_41 x (fun y => k (Pat.inst (.tup (.fcons Z7 (.fcons (.bool) (.fnil)))) y) (instH hp_41 x.2)))
def LG_7 {R : Type} (m_7_16 : Tl_7_16 R) (m_7_20 : Tl_7_20 R) (m_7_12 : Tl_7_12 R) : Loops R := (((Loops.none).add 16 (loopBy 0 lv_7_16 pt_7_16 (fun x k => m_7_16 x (fun y => k (.exit 2) (px_7_16_0.inst y))))).add 20 (loopBy 0 lv_7_20 pt_7_20 (fun x k => m_7_20 x (fun y => k .ret (px_7_20_0.inst y)) (fun y => k (.exit 4) (px_7_20_1.inst y))))).add 12 (loopBy 0 lv_7_12 pt_7_12 (fun x k => m_7_12 x (fun y => k .ret (px_7_12_0.inst y)) (fun y => k (.exit 0) (px_7_12_1.inst y))))
def E_7 {R : Type} (N : Nat) : Env R := EG_7 (p_28 N) (p_14 N) (p_13 N) (p_13_v1 N) (p_40_v1 N) (p_17 N) (p_16 N) (p_31 N) (p_41 N)
theorem eok_7 {R : Type} (N : Nat) : EK Try.prog (E_7 (R := R) N) := ek_add (ek_add (ek_add (ek_add (ek_add (ek_add (ek_add (ek_add (ek_add (ek_base _ _ _) (good_28 N)) (good_14 N)) (good_13 N)) (good_13_v1 N)) (good_40_v1 N)) (good_17 N)) (good_16 N)) (good_31 N)) (good_41 N)
def L_7 {R : Type} (N : Nat) : Loops R := LG_7 (l_7_16 N N) (l_7_20 N N) (l_7_12 N N)
theorem gstep_7_16 {R : Type} (q_28 : Tp_28 R) (q_14 : Tp_14 R) (q_13 : Tp_13 R) (q_13_v1 : Tp_13_v1 R) (q_40_v1 : Tp_40_v1 R) (q_17 : Tp_17 R) (q_16 : Tp_16 R) (q_31 : Tp_31 R) (q_41 : Tp_41 R) (m_7_16 : Tl_7_16 R) (m_7_20 : Tl_7_20 R) (m_7_12 : Tl_7_12 R) (n : Nat) (x : pt_7_16.den) (k : Exit → St → Option R) : iter 0 lv_7_16 lo_7_16 (aexec TT (EG_7 q_28 q_14 q_13 q_13_v1 q_40_v1 q_17 q_16 q_31 q_41) (drawAny TT WW) (LG_7 m_7_16 m_7_20 m_7_12) (loopAt 16 (bodyOf Try.f7))) (n + 1) (pt_7_16.inst x) k = C_7_16 (fun y => iter 0 lv_7_16 lo_7_16 (aexec TT (EG_7 q_28 q_14 q_13 q_13_v1 q_40_v1 q_17 q_16 q_31 q_41) (drawAny TT WW) (LG_7 m_7_16 m_7_20 m_7_12) (loopAt 16 (bodyOf Try.f7))) n (pt_7_16.inst y) k) x (fun y => k (.exit 2) (px_7_16_0.inst y)) := by kernel_rfl
theorem step_7_16 {R : Type} (N n : Nat) (x : pt_7_16.den) (k : Exit → St → Option R) : iter 0 lv_7_16 lo_7_16 (aexec TT (E_7 (R := R) N) (drawAny TT WW) (L_7 N) (loopAt 16 (bodyOf Try.f7))) (n + 1) (pt_7_16.inst x) k = B_7_16 N (fun y => iter 0 lv_7_16 lo_7_16 (aexec TT (E_7 (R := R) N) (drawAny TT WW) (L_7 N) (loopAt 16 (bodyOf Try.f7))) n (pt_7_16.inst y) k) x (fun y => k (.exit 2) (px_7_16_0.inst y)) := (gstep_7_16 (p_28 N) (p_14 N) (p_13 N) (p_13_v1 N) (p_40_v1 N) (p_17 N) (p_16 N) (p_31 N) (p_41 N) (l_7_16 N N) (l_7_20 N N) (l_7_12 N N) n x k).trans (by kernel_rfl)
theorem eq_7_16 {R : Type} (N : Nat) : ∀ (n : Nat) (x : pt_7_16.den) (k : Exit → St → Option R), iter 0 lv_7_16 lo_7_16 (aexec TT (E_7 (R := R) N) (drawAny TT WW) (L_7 N) (loopAt 16 (bodyOf Try.f7))) n (pt_7_16.inst x) k = l_7_16 N n x (fun y => k (.exit 2) (px_7_16_0.inst y)) :=
  iter_eq (K := Exit → St → Option R) (ks := fun k => k) (l := fun n (x : pt_7_16.den) k => l_7_16 N n x (fun y => k (.exit 2) (px_7_16_0.inst y))) (B := fun (rec : pt_7_16.den → Option R) (x : pt_7_16.den) k => B_7_16 N rec x (fun y => k (.exit 2) (px_7_16_0.inst y))) (fun _ _ => rfl) (fun _ _ _ => rfl) (fun n x k => step_7_16 N n x k)
theorem rounds_7_16 {R : Type} (N : Nat) : Rounds 0 TT (E_7 (R := R) N) (drawAny TT WW) (L_7 N) 16 (loopAt 16 (bodyOf Try.f7)) :=
  rounds_of (p := pt_7_16) (l := fun (x : pt_7_16.den) k => l_7_16 N N x (fun y => k (.exit 2) (px_7_16_0.inst y))) (fun s k => rfl) (fun x k => eq_7_16 N N x k)
theorem gstep_7_20 {R : Type} (q_28 : Tp_28 R) (q_14 : Tp_14 R) (q_13 : Tp_13 R) (q_13_v1 : Tp_13_v1 R) (q_40_v1 : Tp_40_v1 R) (q_17 : Tp_17 R) (q_16 : Tp_16 R) (q_31 : Tp_31 R) (q_41 : Tp_41 R) (m_7_16 : Tl_7_16 R) (m_7_20 : Tl_7_20 R) (m_7_12 : Tl_7_12 R) (n : Nat) (x : pt_7_20.den) (k : Exit → St → Option R) : iter 0 lv_7_20 lo_7_20 (aexec TT (EG_7 q_28 q_14 q_13 q_13_v1 q_40_v1 q_17 q_16 q_31 q_41) (drawAny TT WW) (LG_7 m_7_16 m_7_20 m_7_12) (loopAt 20 (bodyOf Try.f7))) (n + 1) (pt_7_20.inst x) k = C_7_20 q_31 (fun y => iter 0 lv_7_20 lo_7_20 (aexec TT (EG_7 q_28 q_14 q_13 q_13_v1 q_40_v1 q_17 q_16 q_31 q_41) (drawAny TT WW) (LG_7 m_7_16 m_7_20 m_7_12) (loopAt 20 (bodyOf Try.f7))) n (pt_7_20.inst y) k) x (fun y => k .ret (px_7_20_0.inst y)) (fun y => k (.exit 4) (px_7_20_1.inst y)) := by kernel_rfl
theorem step_7_20 {R : Type} (N n : Nat) (x : pt_7_20.den) (k : Exit → St → Option R) : iter 0 lv_7_20 lo_7_20 (aexec TT (E_7 (R := R) N) (drawAny TT WW) (L_7 N) (loopAt 20 (bodyOf Try.f7))) (n + 1) (pt_7_20.inst x) k = B_7_20 N (fun y => iter 0 lv_7_20 lo_7_20 (aexec TT (E_7 (R := R) N) (drawAny TT WW) (L_7 N) (loopAt 20 (bodyOf Try.f7))) n (pt_7_20.inst y) k) x (fun y => k .ret (px_7_20_0.inst y)) (fun y => k (.exit 4) (px_7_20_1.inst y)) := (gstep_7_20 (p_28 N) (p_14 N) (p_13 N) (p_13_v1 N) (p_40_v1 N) (p_17 N) (p_16 N) (p_31 N) (p_41 N) (l_7_16 N N) (l_7_20 N N) (l_7_12 N N) n x k).trans (by kernel_rfl)
theorem eq_7_20 {R : Type} (N : Nat) : ∀ (n : Nat) (x : pt_7_20.den) (k : Exit → St → Option R), iter 0 lv_7_20 lo_7_20 (aexec TT (E_7 (R := R) N) (drawAny TT WW) (L_7 N) (loopAt 20 (bodyOf Try.f7))) n (pt_7_20.inst x) k = l_7_20 N n x (fun y => k .ret (px_7_20_0.inst y)) (fun y => k (.exit 4) (px_7_20_1.inst y)) :=
  iter_eq (K := Exit → St → Option R) (ks := fun k => k) (l := fun n (x : pt_7_20.den) k => l_7_20 N n x (fun y => k .ret (px_7_20_0.inst y)) (fun y => k (.exit 4) (px_7_20_1.inst y))) (B := fun (rec : pt_7_20.den → Option R) (x : pt_7_20.den) k => B_7_20 N rec x (fun y => k .ret (px_7_20_0.inst y)) (fun y => k (.exit 4) (px_7_20_1.inst y))) (fun _ _ => rfl) (fun _ _ _ => rfl) (fun n x k => step_7_20 N n x k)
theorem rounds_7_20 {R : Type} (N : Nat) : Rounds 0 TT (E_7 (R := R) N) (drawAny TT WW) (L_7 N) 20 (loopAt 20 (bodyOf Try.f7)) :=
  rounds_of (p := pt_7_20) (l := fun (x : pt_7_20.den) k => l_7_20 N N x (fun y => k .ret (px_7_20_0.inst y)) (fun y => k (.exit 4) (px_7_20_1.inst y))) (fun s k => rfl) (fun x k => eq_7_20 N N x k)
theorem gstep_7_12 {R : Type} (q_28 : Tp_28 R) (q_14 : Tp_14 R) (q_13 : Tp_13 R) (q_13_v1 : Tp_13_v1 R) (q_40_v1 : Tp_40_v1 R) (q_17 : Tp_17 R) (q_16 : Tp_16 R) (q_31 : Tp_31 R) (q_41 : Tp_41 R) (m_7_16 : Tl_7_16 R) (m_7_20 : Tl_7_20 R) (m_7_12 : Tl_7_12 R) (n : Nat) (x : pt_7_12.den) (k : Exit → St → Option R) : iter 0 lv_7_12 lo_7_12 (aexec TT (EG_7 q_28 q_14 q_13 q_13_v1 q_40_v1 q_17 q_16 q_31 q_41) (drawAny TT WW) (LG_7 m_7_16 m_7_20 m_7_12) (loopAt 12 (bodyOf Try.f7))) (n + 1) (pt_7_12.inst x) k = C_7_12 q_41 m_7_16 m_7_20 (fun y => iter 0 lv_7_12 lo_7_12 (aexec TT (EG_7 q_28 q_14 q_13 q_13_v1 q_40_v1 q_17 q_16 q_31 q_41) (drawAny TT WW) (LG_7 m_7_16 m_7_20 m_7_12) (loopAt 12 (bodyOf Try.f7))) n (pt_7_12.inst y) k) x (fun y => k .ret (px_7_12_0.inst y)) (fun y => k (.exit 0) (px_7_12_1.inst y)) := by kernel_rfl
theorem step_7_12 {R : Type} (N n : Nat) (x : pt_7_12.den) (k : Exit → St → Option R) : iter 0 lv_7_12 lo_7_12 (aexec TT (E_7 (R := R) N) (drawAny TT WW) (L_7 N) (loopAt 12 (bodyOf Try.f7))) (n + 1) (pt_7_12.inst x) k = B_7_12 N (fun y => iter 0 lv_7_12 lo_7_12 (aexec TT (E_7 (R := R) N) (drawAny TT WW) (L_7 N) (loopAt 12 (bodyOf Try.f7))) n (pt_7_12.inst y) k) x (fun y => k .ret (px_7_12_0.inst y)) (fun y => k (.exit 0) (px_7_12_1.inst y)) := (gstep_7_12 (p_28 N) (p_14 N) (p_13 N) (p_13_v1 N) (p_40_v1 N) (p_17 N) (p_16 N) (p_31 N) (p_41 N) (l_7_16 N N) (l_7_20 N N) (l_7_12 N N) n x k).trans (by kernel_rfl)
theorem eq_7_12 {R : Type} (N : Nat) : ∀ (n : Nat) (x : pt_7_12.den) (k : Exit → St → Option R), iter 0 lv_7_12 lo_7_12 (aexec TT (E_7 (R := R) N) (drawAny TT WW) (L_7 N) (loopAt 12 (bodyOf Try.f7))) n (pt_7_12.inst x) k = l_7_12 N n x (fun y => k .ret (px_7_12_0.inst y)) (fun y => k (.exit 0) (px_7_12_1.inst y)) :=
  iter_eq (K := Exit → St → Option R) (ks := fun k => k) (l := fun n (x : pt_7_12.den) k => l_7_12 N n x (fun y => k .ret (px_7_12_0.inst y)) (fun y => k (.exit 0) (px_7_12_1.inst y))) (B := fun (rec : pt_7_12.den → Option R) (x : pt_7_12.den) k => B_7_12 N rec x (fun y => k .ret (px_7_12_0.inst y)) (fun y => k (.exit 0) (px_7_12_1.inst y))) (fun _ _ => rfl) (fun _ _ _ => rfl) (fun n x k => step_7_12 N n x k)
theorem rounds_7_12 {R : Type} (N : Nat) : Rounds 0 TT (E_7 (R := R) N) (drawAny TT WW) (L_7 N) 12 (loopAt 12 (bodyOf Try.f7)) :=
  rounds_of (p := pt_7_12) (l := fun (x : pt_7_12.den) k => l_7_12 N N x (fun y => k .ret (px_7_12_0.inst y)) (fun y => k (.exit 0) (px_7_12_1.inst y))) (fun s k => rfl) (fun x k => eq_7_12 N N x k)
theorem loops_7 : loopsIn (bodyOf Try.f7) = [(12, loopAt 12 (bodyOf Try.f7)), (16, loopAt 16 (bodyOf Try.f7)), (20, loopAt 20 (bodyOf Try.f7))] := by kernel_rfl
theorem lok_7 {R : Type} (N : Nat) : LOK 0 TT (E_7 (R := R) N) (drawAny TT WW) (L_7 N) (bodyOf Try.f7) := loops_all loops_7 (by
  simp only [List.forall_mem_cons, List.not_mem_nil, false_implies, implies_true, and_true]
  exact ⟨rounds_7_12 N, rounds_7_16 N, rounds_7_20 N⟩)
theorem grun_7 {R : Type} (q_28 : Tp_28 R) (q_14 : Tp_14 R) (q_13 : Tp_13 R) (q_13_v1 : Tp_13_v1 R) (q_40_v1 : Tp_40_v1 R) (q_17 : Tp_17 R) (q_16 : Tp_16 R) (q_31 : Tp_31 R) (q_41 : Tp_41 R) (m_7_16 : Tl_7_16 R) (m_7_20 : Tl_7_20 R) (m_7_12 : Tl_7_12 R) (x : aden ap_7 × hden hp_7) (k : KF R) : fnrun TT (EG_7 q_28 q_14 q_13 q_13_v1 q_40_v1 q_17 q_16 q_31 q_41) (drawAny TT WW) (LG_7 m_7_16 m_7_20 m_7_12) true Try.f7 (instA ap_7 x.1) (instH hp_7 x.2) k = Q_7 q_28 q_14 q_13 q_13_v1 q_40_v1 q_17 q_16 q_31 q_41 m_7_16 m_7_20 m_7_12 x (fun y => k (Pat.inst (.bool) y.1) (instH [] y.2)) := by kernel_rfl
theorem run_7 {R : Type} (N : Nat) (x : aden ap_7 × hden hp_7) (k : KF R) : fnrun TT (E_7 (R := R) N) (drawAny TT WW) (L_7 N) true Try.f7 (instA ap_7 x.1) (instH hp_7 x.2) k = p_7 N x (fun y => k (Pat.inst (.bool) y.1) (instH [] y.2)) := (grun_7 (p_28 N) (p_14 N) (p_13 N) (p_13_v1 N) (p_40_v1 N) (p_17 N) (p_16 N) (p_31 N) (p_41 N) (l_7_16 N N) (l_7_20 N N) (l_7_12 N N) x k).trans (by kernel_rfl)
theorem good_7 {R : Type} (N : Nat) : GD (X := R) Try.prog QQ AA 7 ap_7 hp_7 (fun (x : aden ap_7 × hden hp_7) k => p_7 N x (fun y => k (Pat.inst (.bool) y.1) (instH [] y.2))) :=
  gd_loud (E := E_7 N) (p := fun (x : aden ap_7 × hden hp_7) k => p_7 N x (fun y => k (Pat.inst (.bool) y.1) (instH [] y.2))) mixed tyok (eok_7 N) Try.func7 (by kernel_rfl) (by kernel_rfl) (by kernel_rfl) (by kernel_rfl) (lok_7 N) (fun x k => run_7 N x k)

end Go.Proofs.Ytfcloeflcpcheaa.Eng
