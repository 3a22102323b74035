/-
Plain functions that the functions of the program are shown to come to, printed by a program of the prover; each with its proof.
Conditions: none.
-/
import Derived.Test.YtfcloeflcpcheaaMirFillLooksA
import Derived.KernelRfl
set_option linter.unusedVariables false
namespace Go.Proofs.Ytfcloeflcpcheaa.Eng
def lv_80_4 : Live := [(0, none), (14, none), (15, none), (16, none)]
def pt_80_4 : SPat := ⟨[(0, .ptr 0 []), (14, .ros (.sl (.int .u8))), (15, .int .i64), (16, .int .i64)], J11⟩
def px_80_4_0 : SPat := ⟨[(0, .ptr 0 [])], J11⟩
def lo_80_4 : Exit → Live
  | .exit 0 => [(0, none)]
  | _ => []
def ap_80 : List Pat := [.ptr 0 [], .sl 1]
def hp_80 : List (Option (Pat × Nat)) := J11
abbrev Tl_80_4 (R : Type) : Type := ((Unit × (List (List Int)) × Int × Int × Unit) × (Y6 × (List ByteArray) × Unit)) → (((Unit × Unit) × (Y6 × (List ByteArray) × Unit)) → Option R) → Option R
abbrev Tp_80 (R : Type) : Type := (Unit × Unit × Unit) × (Y6 × (List ByteArray) × Unit) → ((Unit × (Y6 × (List ByteArray) × Unit)) → Option R) → Option R
def C_80_4 {R : Type} (q_99 : Tp_99 R) (rec : ((Unit × (List (List Int)) × Int × Int × Unit) × (Y6 × (List ByteArray) × Unit)) → Option R) (x : ((Unit × (List (List Int)) × Int × Int × Unit) × (Y6 × (List ByteArray) × Unit))) (κ0 : ((Unit × Unit) × (Y6 × (List ByteArray) × Unit)) → Option R) : Option R :=
let l1063 := x.1.2.1
let i1064 := x.1.2.2.1
let i1065 := x.1.2.2.2.1
let a1066 := x.2.1.2.1
let i1067 := x.2.1.2.2.1
let i1068 := x.2.1.2.2.2.1
let l1069 := x.2.2.1
bif (decide (i1065 < i1064)) then (
bif decide (0 ≤ i1065) then (
bif decide (i1065 < ((List.length l1063) : Int)) then (
let p1070 : (List Int) := (List.getD l1063 ((Int.toNat i1065)) (Sch.zero (.sl (.int .u8))))
let i1071 : Int := addA .u64 i1068 128
q_99 ((a1066, p1070, i1071, false, ()), ()) (fun y1768 =>
let a1769 := y1768.1
let i1771 : Int := addA .i64 i1065 1
rec (((), l1063, i1064, i1771, ()), (((), (a1769, (i1067, (i1071, ())))), l1069, ())))) else none) else none) else (
κ0 (((), ()), (x.2.1, l1069, ())))
def B_80_4 {R : Type} (N : Nat) (rec : ((Unit × (List (List Int)) × Int × Int × Unit) × (Y6 × (List ByteArray) × Unit)) → Option R) (x : ((Unit × (List (List Int)) × Int × Int × Unit) × (Y6 × (List ByteArray) × Unit))) (κ0 : ((Unit × Unit) × (Y6 × (List ByteArray) × Unit)) → Option R) : Option R := C_80_4 (p_99 N) rec x κ0
def l_80_4 {R : Type} (N : Nat) : Nat → ((Unit × (List (List Int)) × Int × Int × Unit) × (Y6 × (List ByteArray) × Unit)) → (((Unit × Unit) × (Y6 × (List ByteArray) × Unit)) → Option R) → Option R
  | 0, _, _ => none
  | n + 1, x, κ0 => B_80_4 N (fun y => l_80_4 N n y κ0) x κ0
def Q_80 {R : Type} (q_98 : Tp_98 R) (q_99 : Tp_99 R) (m_80_4 : Tl_80_4 R) (x : (Unit × Unit × Unit) × (Y6 × (List ByteArray) × Unit)) (κ0 : (Unit × (Y6 × (List ByteArray) × Unit)) → Option R) : Option R :=
q_98 (((), (), ()), x.2.2) (fun y1059 =>
let l1060 := y1059.1
let l1061 := y1059.2.1
let i1062 : Int := (((List.length l1060) : Nat) : Int)
m_80_4 (((), l1060, i1062, 0, ()), (x.2.1, l1061, ())) (fun y1772 =>
let l1776 := y1772.2.2.1
κ0 ((), (y1772.2.1, l1776, ()))))
def p_80 {R : Type} (N : Nat) (x : (Unit × Unit × Unit) × (Y6 × (List ByteArray) × Unit)) (κ0 : (Unit × (Y6 × (List ByteArray) × Unit)) → Option R) : Option R := Q_80 (p_98 N) (p_99 N) (l_80_4 N N) x κ0
def EG_80 {R : Type} (q_98 : Tp_98 R) (q_99 : Tp_99 R) : Env R := ((Env.base QQ LN AA).add 98 ap_98 hp_98 (fun (x : aden ap_98 × hden hp_98) k => q_98 x (fun y => k (Pat.inst (.ros (.sl (.int .u8))) y.1) (instH [some (.lst (.str), 9)] y.2)))).add 99 ap_99 hp_99 (fun (x : aden ap_99 × hden hp_99) k => q_99 x (fun y => k (Pat.inst (.tup (.fcons (.vec (.int .u64) 8) (.fcons (.int .i64) (.fnil)))) y) (instH hp_99 x.2)))
def LG_80 {R : Type} (m_80_4 : Tl_80_4 R) : Loops R := (Loops.none).add 4 (loopBy 2 lv_80_4 pt_80_4 (fun x k => m_80_4 x (fun y => k (.exit 0) (px_80_4_0.inst y))))
def E_80 {R : Type} (N : Nat) : Env R := EG_80 (p_98 N) (p_99 N)
theorem eok_80 {R : Type} (N : Nat) : EK Try.prog (E_80 (R := R) N) := ek_add (ek_add (ek_base _ _ _) (good_98 N)) (good_99 N)
def L_80 {R : Type} (N : Nat) : Loops R := LG_80 (l_80_4 N N)
theorem gstep_80_4 {R : Type} (q_98 : Tp_98 R) (q_99 : Tp_99 R) (m_80_4 : Tl_80_4 R) (n : Nat) (x : pt_80_4.den) (k : Exit → St → Option R) : iter 2 lv_80_4 lo_80_4 (aexec TT (EG_80 q_98 q_99) (drawAny TT WW) (LG_80 m_80_4) (loopAt 4 (bodyOf Try.f80))) (n + 1) (pt_80_4.inst x) k = C_80_4 q_99 (fun y => iter 2 lv_80_4 lo_80_4 (aexec TT (EG_80 q_98 q_99) (drawAny TT WW) (LG_80 m_80_4) (loopAt 4 (bodyOf Try.f80))) n (pt_80_4.inst y) k) x (fun y => k (.exit 0) (px_80_4_0.inst y)) := by kernel_rfl
theorem step_80_4 {R : Type} (N n : Nat) (x : pt_80_4.den) (k : Exit → St → Option R) : iter 2 lv_80_4 lo_80_4 (aexec TT (E_80 (R := R) N) (drawAny TT WW) (L_80 N) (loopAt 4 (bodyOf Try.f80))) (n + 1) (pt_80_4.inst x) k = B_80_4 N (fun y => iter 2 lv_80_4 lo_80_4 (aexec TT (E_80 (R := R) N) (drawAny TT WW) (L_80 N) (loopAt 4 (bodyOf Try.f80))) n (pt_80_4.inst y) k) x (fun y => k (.exit 0) (px_80_4_0.inst y)) := (gstep_80_4 (p_98 N) (p_99 N) (l_80_4 N N) n x k).trans (by kernel_rfl)
theorem eq_80_4 {R : Type} (N : Nat) : ∀ (n : Nat) (x : pt_80_4.den) (k : Exit → St → Option R), iter 2 lv_80_4 lo_80_4 (aexec TT (E_80 (R := R) N) (drawAny TT WW) (L_80 N) (loopAt 4 (bodyOf Try.f80))) n (pt_80_4.inst x) k = l_80_4 N n x (fun y => k (.exit 0) (px_80_4_0.inst y)) :=
  iter_eq (K := Exit → St → Option R) (ks := fun k => k) (l := fun n (x : pt_80_4.den) k => l_80_4 N n x (fun y => k (.exit 0) (px_80_4_0.inst y))) (B := fun (rec : pt_80_4.den → Option R) (x : pt_80_4.den) k => B_80_4 N rec x (fun y => k (.exit 0) (px_80_4_0.inst y))) (fun _ _ => rfl) (fun _ _ _ => rfl) (fun n x k => step_80_4 N n x k)
theorem rounds_80_4 {R : Type} (N : Nat) : Rounds 2 TT (E_80 (R := R) N) (drawAny TT WW) (L_80 N) 4 (loopAt 4 (bodyOf Try.f80)) :=
  rounds_of (p := pt_80_4) (l := fun (x : pt_80_4.den) k => l_80_4 N N x (fun y => k (.exit 0) (px_80_4_0.inst y))) (fun s k => rfl) (fun x k => eq_80_4 N N x k)
theorem loops_80 : loopsIn (bodyOf Try.f80) = [(4, loopAt 4 (bodyOf Try.f80))] := by kernel_rfl
theorem lok_80 {R : Type} (N : Nat) : LOK 2 TT (E_80 (R := R) N) (drawAny TT WW) (L_80 N) (bodyOf Try.f80) := loops_all loops_80 (by
  simp only [List.forall_mem_cons, List.not_mem_nil, false_implies, implies_true, and_true]
  exact rounds_80_4 N)
theorem grun_80 {R : Type} (q_98 : Tp_98 R) (q_99 : Tp_99 R) (m_80_4 : Tl_80_4 R) (x : aden ap_80 × hden hp_80) (k : KF R) : fnrun TT (EG_80 q_98 q_99) (drawAny TT WW) (LG_80 m_80_4) true Try.f80 (instA ap_80 x.1) (instH hp_80 x.2) k = Q_80 q_98 q_99 m_80_4 x (fun y => k (Pat.inst (.ptr 0 []) y.1) (instH J11 y.2)) := by kernel_rfl
theorem run_80 {R : Type} (N : Nat) (x : aden ap_80 × hden hp_80) (k : KF R) : fnrun TT (E_80 (R := R) N) (drawAny TT WW) (L_80 N) true Try.f80 (instA ap_80 x.1) (instH hp_80 x.2) k = p_80 N x (fun y => k (Pat.inst (.ptr 0 []) y.1) (instH J11 y.2)) := (grun_80 (p_98 N) (p_99 N) (l_80_4 N N) x k).trans (by kernel_rfl)
theorem good_80 {R : Type} (N : Nat) : GD (X := R) Try.prog QQ AA 80 ap_80 hp_80 (fun (x : aden ap_80 × hden hp_80) k => p_80 N x (fun y => k (Pat.inst (.ptr 0 []) y.1) (instH J11 y.2))) :=
  gd_loud (E := E_80 N) (p := fun (x : aden ap_80 × hden hp_80) k => p_80 N x (fun y => k (Pat.inst (.ptr 0 []) y.1) (instH J11 y.2))) mixed tyok (eok_80 N) Try.func80 (by kernel_rfl) (by kernel_rfl) (by kernel_rfl) (by kernel_rfl) (lok_80 N) (fun x k => run_80 N x k)

def ap_106 : List Pat := [.ptr 0 []]
def hp_106 : List (Option (Pat × Nat)) := [some (Z8, 189), some (.lst (.int .u8), 5)]
abbrev Tp_106 (R : Type) : Type := (Unit × Unit) × (Y4 × (List Int) × Unit) → (Bool → Option R) → Option R
def Q_106 {R : Type} (x : (Unit × Unit) × (Y4 × (List Int) × Unit)) (κ0 : Bool → Option R) : Option R :=
let i1836 := x.2.1.1
let b1837 := x.2.1.2.1
let l1839 := x.2.2.1
bif b1837 then (
let i1840 : Int := (((List.length l1839) : Nat) : Int)
κ0 ((decide (i1840 > i1836)))) else (
let i1841 : Int := (((List.length l1839) : Nat) : Int)
κ0 ((decide (i1841 ≥ i1836))))
def p_106 {R : Type} (N : Nat) (x : (Unit × Unit) × (Y4 × (List Int) × Unit)) (κ0 : Bool → Option R) : Option R := Q_106 x κ0
def EG_106 {R : Type} : Env R := Env.base QQ LN AA
def LG_106 {R : Type} : Loops R := Loops.none
def E_106 {R : Type} (N : Nat) : Env R := EG_106
theorem eok_106 {R : Type} (N : Nat) : EK Try.prog (E_106 (R := R) N) := ek_base _ _ _
def L_106 {R : Type} (N : Nat) : Loops R := LG_106
theorem lok_106 {R : Type} (N : Nat) : LOK 2 TT (E_106 (R := R) N) (drawAny TT WW) (L_106 N) (bodyOf Try.f106) := loops_nil (by kernel_rfl)
theorem grun_106 {R : Type} (x : aden ap_106 × hden hp_106) (k : KF R) : fnrun TT (EG_106) (drawAny TT WW) (LG_106) true Try.f106 (instA ap_106 x.1) (instH hp_106 x.2) k = Q_106 x (fun y => k (Pat.inst (.bool) y) (instH hp_106 x.2)) := by kernel_rfl
theorem run_106 {R : Type} (N : Nat) (x : aden ap_106 × hden hp_106) (k : KF R) : fnrun TT (E_106 (R := R) N) (drawAny TT WW) (L_106 N) true Try.f106 (instA ap_106 x.1) (instH hp_106 x.2) k = p_106 N x (fun y => k (Pat.inst (.bool) y) (instH hp_106 x.2)) := (grun_106 x k).trans (by kernel_rfl)
theorem good_106 {R : Type} (N : Nat) : GD (X := R) Try.prog QQ AA 106 ap_106 hp_106 (fun (x : aden ap_106 × hden hp_106) k => p_106 N x (fun y => k (Pat.inst (.bool) y) (instH hp_106 x.2))) :=
  gd_quiet (E := E_106 N) (p := fun (x : aden ap_106 × hden hp_106) κ => p_106 N x (fun y => κ (Pat.inst (.bool) y))) mixed tyok (eok_106 N) Try.func106 (by kernel_rfl) (by kernel_rfl) (lok_106 N) (fun x k => run_106 N x k)

def lv_98_v1_9 : Live := [(0, none), (5, some (.sl (.int .u8), 114)), (17, none), (18, none), (19, none)]
def pt_98_v1_9 : SPat := ⟨[(0, .ptr 0 []), (5, .sl 4), (17, .sl 2), (18, .int .i64), (19, .int .i64)], J13⟩
def px_98_v1_9_0 : SPat := ⟨[(0, .ptr 0 []), (5, .sl 4), (17, .sl 2), (18, .int .i64), (19, .int .i64)], J13⟩
def lo_98_v1_9 : Exit → Live
  | .exit 2 => [(0, none), (5, none), (17, none), (18, none), (19, none)]
  | _ => []
def lv_98_v1_5 : Live := [(0, some (.fnil, 2)), (5, some (.sl (.int .u8), 114)), (17, none), (18, none), (19, none)]
def pt_98_v1_5 : SPat := ⟨[(0, .ptr 0 []), (5, .sl 4), (17, .sl 2), (18, .int .i64), (19, .int .i64)], J13⟩
def px_98_v1_5_0 : SPat := ⟨[(0, .ptr 0 []), (5, .sl 4)], J13⟩
def lo_98_v1_5 : Exit → Live
  | .exit 0 => [(0, none), (5, none)]
  | _ => []
def ap_98_v1 : List Pat := [.ptr 0 [], .sl 2]
def hp_98_v1 : List (Option (Pat × Nat)) := J12
abbrev Tl_98_v1_9 (R : Type) : Type := Y9 → (Y9 → Option R) → Option R
abbrev Tl_98_v1_5 (R : Type) : Type := Y9 → (((Unit × Unit × Unit) × (Y4 × (List ByteArray) × (List Int) × (List (List Int)) × Unit)) → Option R) → Option R
abbrev Tp_98_v1 (R : Type) : Type := (Unit × Unit × Unit) × (Y4 × (List Int) × (List ByteArray) × Unit) → (((List (List Int)) × (Y4 × (List Int) × (List ByteArray) × Unit)) → Option R) → (((List (List Int)) × (Y4 × (List ByteArray) × (List Int) × Unit)) → Option R) → Option R
def C_98_v1_9 {R : Type} (q_106 : Tp_106 R) (rec : Y9 → Option R) (x : Y9) (κ0 : Y9 → Option R) : Option R :=
let i1919 := x.1.2.2.2.1
let i1920 := x.1.2.2.2.2.1
let i1921 := x.2.1.1
let l1924 := x.2.2.1
let l1925 := x.2.2.2.1
let l1926 := x.2.2.2.2.1
q_106 (((), ()), (x.2.1, l1925, ())) (fun y1927 =>
let b1928 : Bool := y1927
bif b1928 then (
bif decide (0 ≤ i1921) then (
bif decide (i1921 ≤ (((List.length l1925) : Nat) : Int)) then (
bif decide (0 ≤ i1921) then (
bif decide (List.length ((List.take (((Int.toNat i1921) - 0)) (List.drop 0 l1925))) * 1 ≤ 140737488355328) then (
let l1929 : (List Int) := (List.take (((Int.toNat i1921) - 0)) (List.drop 0 l1925))
let l1930 : (List (List Int)) := [l1929]
bif (decide ((List.length l1926 + List.length l1930) * 24 ≤ 140737488355328) && true) then (
let l1931 : (List (List Int)) := (l1926 ++ l1930)
bif decide (0 ≤ (((List.length l1925) : Nat) : Int)) then (
bif decide ((((List.length l1925) : Nat) : Int) ≤ (((List.length l1925) : Nat) : Int)) then (
bif decide (0 ≤ i1921) then (
bif decide (i1921 ≤ (((List.length l1925) : Nat) : Int)) then (
let l1932 : (List Int) := List.take (((List.length l1925) - (Int.toNat i1921))) (List.drop ((Int.toNat i1921)) l1925)
rec (((), (), (), i1919, i1920, ()), (x.2.1, l1924, l1932, l1931, ()))) else none) else none) else none) else none) else none) else none) else none) else none) else none) else (
κ0 (((), (), (), i1919, i1920, ()), (x.2.1, l1924, l1925, l1926, ()))))
def C_98_v1_5 {R : Type} (m_98_v1_9 : Tl_98_v1_9 R) (rec : Y9 → Option R) (x : Y9) (κ0 : ((Unit × Unit × Unit) × (Y4 × (List ByteArray) × (List Int) × (List (List Int)) × Unit)) → Option R) : Option R :=
let i1907 := x.1.2.2.2.1
let i1908 := x.1.2.2.2.2.1
let i1909 := x.2.1.1
let b1910 := x.2.1.2.1
let i1911 := x.2.1.2.2.2.1
let l1912 := x.2.2.1
let l1913 := x.2.2.2.1
let l1914 := x.2.2.2.2.1
bif (decide (i1908 < i1907)) then (
bif decide (0 ≤ i1908) then (
bif decide (i1908 < ((List.length l1912) : Int)) then (
let s1915 : ByteArray := (List.getD l1912 ((Int.toNat i1908)) (Sch.zero (.str)))
let i1916 : Int := ((ByteArray.size s1915 : Nat) : Int)
let i1917 : Int := addA .i64 i1911 i1916
bif (decide ((List.length l1913 + List.length (strList s1915)) * 1 ≤ 140737488355328) && true) then (
let l1918 : (List Int) := (l1913 ++ strList s1915)
m_98_v1_9 (((), (), (), i1907, i1908, ()), ((i1909, (b1910, ((), (i1917, ())))), l1912, l1918, l1914, ())) (fun y1933 =>
let i1934 := y1933.1.2.2.2.1
let i1935 := y1933.1.2.2.2.2.1
let l1939 := y1933.2.2.1
let l1940 := y1933.2.2.2.1
let l1941 := y1933.2.2.2.2.1
let i1942 : Int := addA .i64 i1935 1
rec (((), (), (), i1934, i1942, ()), (y1933.2.1, l1939, l1940, l1941, ())))) else none) else none) else none) else (
κ0 (((), (), ()), (x.2.1, l1912, l1913, l1914, ())))
def B_98_v1_9 {R : Type} (N : Nat) (rec : Y9 → Option R) (x : Y9) (κ0 : Y9 → Option R) : Option R := C_98_v1_9 (p_106 N) rec x κ0
def l_98_v1_9 {R : Type} (N : Nat) : Nat → Y9 → (Y9 → Option R) → Option R
  | 0, _, _ => none
  | n + 1, x, κ0 => B_98_v1_9 N (fun y => l_98_v1_9 N n y κ0) x κ0
def B_98_v1_5 {R : Type} (N : Nat) (rec : Y9 → Option R) (x : Y9) (κ0 : ((Unit × Unit × Unit) × (Y4 × (List ByteArray) × (List Int) × (List (List Int)) × Unit)) → Option R) : Option R := C_98_v1_5 (l_98_v1_9 N N) rec x κ0
def l_98_v1_5 {R : Type} (N : Nat) : Nat → Y9 → (((Unit × Unit × Unit) × (Y4 × (List ByteArray) × (List Int) × (List (List Int)) × Unit)) → Option R) → Option R
  | 0, _, _ => none
  | n + 1, x, κ0 => B_98_v1_5 N (fun y => l_98_v1_5 N n y κ0) x κ0
def Q_98_v1 {R : Type} (q_106 : Tp_106 R) (m_98_v1_9 : Tl_98_v1_9 R) (m_98_v1_5 : Tl_98_v1_5 R) (x : (Unit × Unit × Unit) × (Y4 × (List Int) × (List ByteArray) × Unit)) (κ0 : ((List (List Int)) × (Y4 × (List Int) × (List ByteArray) × Unit)) → Option R) (κ1 : ((List (List Int)) × (Y4 × (List ByteArray) × (List Int) × Unit)) → Option R) : Option R :=
let i1812 := x.2.1.1
let l1815 := x.2.2.1
let l1816 := x.2.2.2.1
bif (i1812 == 0) then (
κ0 ([], (x.2.1, l1815, l1816, ()))) else (
let i1817 : Int := (((List.length l1816) : Nat) : Int)
m_98_v1_5 (((), (), (), i1817, 0, ()), (x.2.1, l1816, l1815, [], ())) (fun y1943 =>
let l1947 := y1943.2.2.1
let l1948 := y1943.2.2.2.1
let l1949 := y1943.2.2.2.2.1
bif decide (List.length l1948 * 1 ≤ 140737488355328) then (
κ1 (l1949, (y1943.2.1, l1947, l1948, ()))) else none))
def p_98_v1 {R : Type} (N : Nat) (x : (Unit × Unit × Unit) × (Y4 × (List Int) × (List ByteArray) × Unit)) (κ0 : ((List (List Int)) × (Y4 × (List Int) × (List ByteArray) × Unit)) → Option R) (κ1 : ((List (List Int)) × (Y4 × (List ByteArray) × (List Int) × Unit)) → Option R) : Option R := Q_98_v1 (p_106 N) (l_98_v1_9 N N) (l_98_v1_5 N N) x κ0 κ1
def EG_98_v1 {R : Type} (q_106 : Tp_106 R) : Env R := (Env.base QQ LN AA).add 106 ap_106 hp_106 (fun (x : aden ap_106 × hden hp_106) k => q_106 x (fun y => k (Pat.inst (.bool) y) (instH hp_106 x.2)))
def LG_98_v1 {R : Type} (m_98_v1_9 : Tl_98_v1_9 R) (m_98_v1_5 : Tl_98_v1_5 R) : Loops R := ((Loops.none).add 9 (loopBy 3 lv_98_v1_9 pt_98_v1_9 (fun x k => m_98_v1_9 x (fun y => k (.exit 2) (px_98_v1_9_0.inst y))))).add 5 (loopBy 3 lv_98_v1_5 pt_98_v1_5 (fun x k => m_98_v1_5 x (fun y => k (.exit 0) (px_98_v1_5_0.inst y))))
def E_98_v1 {R : Type} (N : Nat) : Env R := EG_98_v1 (p_106 N)
theorem eok_98_v1 {R : Type} (N : Nat) : EK Try.prog (E_98_v1 (R := R) N) := ek_add (ek_base _ _ _) (good_106 N)
def L_98_v1 {R : Type} (N : Nat) : Loops R := LG_98_v1 (l_98_v1_9 N N) (l_98_v1_5 N N)
theorem gstep_98_v1_9 {R : Type} (q_106 : Tp_106 R) (m_98_v1_9 : Tl_98_v1_9 R) (m_98_v1_5 : Tl_98_v1_5 R) (n : Nat) (x : pt_98_v1_9.den) (k : Exit → St → Option R) : iter 3 lv_98_v1_9 lo_98_v1_9 (aexec TT (EG_98_v1 q_106) (drawAny TT WW) (LG_98_v1 m_98_v1_9 m_98_v1_5) (loopAt 9 (bodyOf Try.f98))) (n + 1) (pt_98_v1_9.inst x) k = C_98_v1_9 q_106 (fun y => iter 3 lv_98_v1_9 lo_98_v1_9 (aexec TT (EG_98_v1 q_106) (drawAny TT WW) (LG_98_v1 m_98_v1_9 m_98_v1_5) (loopAt 9 (bodyOf Try.f98))) n (pt_98_v1_9.inst y) k) x (fun y => k (.exit 2) (px_98_v1_9_0.inst y)) := by kernel_rfl
theorem step_98_v1_9 {R : Type} (N n : Nat) (x : pt_98_v1_9.den) (k : Exit → St → Option R) : iter 3 lv_98_v1_9 lo_98_v1_9 (aexec TT (E_98_v1 (R := R) N) (drawAny TT WW) (L_98_v1 N) (loopAt 9 (bodyOf Try.f98))) (n + 1) (pt_98_v1_9.inst x) k = B_98_v1_9 N (fun y => iter 3 lv_98_v1_9 lo_98_v1_9 (aexec TT (E_98_v1 (R := R) N) (drawAny TT WW) (L_98_v1 N) (loopAt 9 (bodyOf Try.f98))) n (pt_98_v1_9.inst y) k) x (fun y => k (.exit 2) (px_98_v1_9_0.inst y)) := (gstep_98_v1_9 (p_106 N) (l_98_v1_9 N N) (l_98_v1_5 N N) n x k).trans (by kernel_rfl)
theorem eq_98_v1_9 {R : Type} (N : Nat) : ∀ (n : Nat) (x : pt_98_v1_9.den) (k : Exit → St → Option R), iter 3 lv_98_v1_9 lo_98_v1_9 (aexec TT (E_98_v1 (R := R) N) (drawAny TT WW) (L_98_v1 N) (loopAt 9 (bodyOf Try.f98))) n (pt_98_v1_9.inst x) k = l_98_v1_9 N n x (fun y => k (.exit 2) (px_98_v1_9_0.inst y)) :=
  iter_eq (K := Exit → St → Option R) (ks := fun k => k) (l := fun n (x : pt_98_v1_9.den) k => l_98_v1_9 N n x (fun y => k (.exit 2) (px_98_v1_9_0.inst y))) (B := fun (rec : pt_98_v1_9.den → Option R) (x : pt_98_v1_9.den) k => B_98_v1_9 N rec x (fun y => k (.exit 2) (px_98_v1_9_0.inst y))) (fun _ _ => rfl) (fun _ _ _ => rfl) (fun n x k => step_98_v1_9 N n x k)
theorem rounds_98_v1_9 {R : Type} (N : Nat) : Rounds 3 TT (E_98_v1 (R := R) N) (drawAny TT WW) (L_98_v1 N) 9 (loopAt 9 (bodyOf Try.f98)) :=
  rounds_of (p := pt_98_v1_9) (l := fun (x : pt_98_v1_9.den) k => l_98_v1_9 N N x (fun y => k (.exit 2) (px_98_v1_9_0.inst y))) (fun s k => rfl) (fun x k => eq_98_v1_9 N N x k)
theorem gstep_98_v1_5 {R : Type} (q_106 : Tp_106 R) (m_98_v1_9 : Tl_98_v1_9 R) (m_98_v1_5 : Tl_98_v1_5 R) (n : Nat) (x : pt_98_v1_5.den) (k : Exit → St → Option R) : iter 3 lv_98_v1_5 lo_98_v1_5 (aexec TT (EG_98_v1 q_106) (drawAny TT WW) (LG_98_v1 m_98_v1_9 m_98_v1_5) (loopAt 5 (bodyOf Try.f98))) (n + 1) (pt_98_v1_5.inst x) k = C_98_v1_5 m_98_v1_9 (fun y => iter 3 lv_98_v1_5 lo_98_v1_5 (aexec TT (EG_98_v1 q_106) (drawAny TT WW) (LG_98_v1 m_98_v1_9 m_98_v1_5) (loopAt 5 (bodyOf Try.f98))) n (pt_98_v1_5.inst y) k) x (fun y => k (.exit 0) (px_98_v1_5_0.inst y)) := by kernel_rfl
theorem step_98_v1_5 {R : Type} (N n : Nat) (x : pt_98_v1_5.den) (k : Exit → St → Option R) : iter 3 lv_98_v1_5 lo_98_v1_5 (aexec TT (E_98_v1 (R := R) N) (drawAny TT WW) (L_98_v1 N) (loopAt 5 (bodyOf Try.f98))) (n + 1) (pt_98_v1_5.inst x) k = B_98_v1_5 N (fun y => iter 3 lv_98_v1_5 lo_98_v1_5 (aexec TT (E_98_v1 (R := R) N) (drawAny TT WW) (L_98_v1 N) (loopAt 5 (bodyOf Try.f98))) n (pt_98_v1_5.inst y) k) x (fun y => k (.exit 0) (px_98_v1_5_0.inst y)) := (gstep_98_v1_5 (p_106 N) (l_98_v1_9 N N) (l_98_v1_5 N N) n x k).trans (by kernel_rfl)
theorem eq_98_v1_5 {R : Type} (N : Nat) : ∀ (n : Nat) (x : pt_98_v1_5.den) (k : Exit → St → Option R), iter 3 lv_98_v1_5 lo_98_v1_5 (aexec TT (E_98_v1 (R := R) N) (drawAny TT WW) (L_98_v1 N) (loopAt 5 (bodyOf Try.f98))) n (pt_98_v1_5.inst x) k = l_98_v1_5 N n x (fun y => k (.exit 0) (px_98_v1_5_0.inst y)) :=
  iter_eq (K := Exit → St → Option R) (ks := fun k => k) (l := fun n (x : pt_98_v1_5.den) k => l_98_v1_5 N n x (fun y => k (.exit 0) (px_98_v1_5_0.inst y))) (B := fun (rec : pt_98_v1_5.den → Option R) (x : pt_98_v1_5.den) k => B_98_v1_5 N rec x (fun y => k (.exit 0) (px_98_v1_5_0.inst y))) (fun _ _ => rfl) (fun _ _ _ => rfl) (fun n x k => step_98_v1_5 N n x k)
theorem rounds_98_v1_5 {R : Type} (N : Nat) : Rounds 3 TT (E_98_v1 (R := R) N) (drawAny TT WW) (L_98_v1 N) 5 (loopAt 5 (bodyOf Try.f98)) :=
  rounds_of (p := pt_98_v1_5) (l := fun (x : pt_98_v1_5.den) k => l_98_v1_5 N N x (fun y => k (.exit 0) (px_98_v1_5_0.inst y))) (fun s k => rfl) (fun x k => eq_98_v1_5 N N x k)
theorem loops_98_v1 : loopsIn (bodyOf Try.f98) = [(5, loopAt 5 (bodyOf Try.f98)), (9, loopAt 9 (bodyOf Try.f98))] := by kernel_rfl
theorem lok_98_v1 {R : Type} (N : Nat) : LOK 3 TT (E_98_v1 (R := R) N) (drawAny TT WW) (L_98_v1 N) (bodyOf Try.f98) := loops_all loops_98_v1 (by
  simp only [List.forall_mem_cons, List.not_mem_nil, false_implies, implies_true, and_true]
  exact ⟨rounds_98_v1_5 N, rounds_98_v1_9 N⟩)
theorem grun_98_v1 {R : Type} (q_106 : Tp_106 R) (m_98_v1_9 : Tl_98_v1_9 R) (m_98_v1_5 : Tl_98_v1_5 R) (x : aden ap_98_v1 × hden hp_98_v1) (k : KF R) : fnrun TT (EG_98_v1 q_106) (drawAny TT WW) (LG_98_v1 m_98_v1_9 m_98_v1_5) true Try.f98 (instA ap_98_v1 x.1) (instH hp_98_v1 x.2) k = Q_98_v1 q_106 m_98_v1_9 m_98_v1_5 x (fun y => k (Pat.inst (.ros (.sl (.int .u8))) y.1) (instH J12 y.2)) (fun y => k (Pat.inst (.ros (.sl (.int .u8))) y.1) (instH [some (Z11, 189), none, some (.lst (.str), 9), some (.lst (.int .u8), 5)] y.2)) := by kernel_rfl
theorem run_98_v1 {R : Type} (N : Nat) (x : aden ap_98_v1 × hden hp_98_v1) (k : KF R) : fnrun TT (E_98_v1 (R := R) N) (drawAny TT WW) (L_98_v1 N) true Try.f98 (instA ap_98_v1 x.1) (instH hp_98_v1 x.2) k = p_98_v1 N x (fun y => k (Pat.inst (.ros (.sl (.int .u8))) y.1) (instH J12 y.2)) (fun y => k (Pat.inst (.ros (.sl (.int .u8))) y.1) (instH [some (Z11, 189), none, some (.lst (.str), 9), some (.lst (.int .u8), 5)] y.2)) := (grun_98_v1 (p_106 N) (l_98_v1_9 N N) (l_98_v1_5 N N) x k).trans (by kernel_rfl)
theorem good_98_v1 {R : Type} (N : Nat) : GD (X := R) Try.prog QQ AA 98 ap_98_v1 hp_98_v1 (fun (x : aden ap_98_v1 × hden hp_98_v1) k => p_98_v1 N x (fun y => k (Pat.inst (.ros (.sl (.int .u8))) y.1) (instH J12 y.2)) (fun y => k (Pat.inst (.ros (.sl (.int .u8))) y.1) (instH [some (Z11, 189), none, some (.lst (.str), 9), some (.lst (.int .u8), 5)] y.2))) :=
  gd_loud (E := E_98_v1 N) (p := fun (x : aden ap_98_v1 × hden hp_98_v1) k => p_98_v1 N x (fun y => k (Pat.inst (.ros (.sl (.int .u8))) y.1) (instH J12 y.2)) (fun y => k (Pat.inst (.ros (.sl (.int .u8))) y.1) (instH [some (Z11, 189), none, some (.lst (.str), 9), some (.lst (.int .u8), 5)] y.2))) mixed tyok (eok_98_v1 N) Try.func98 (by kernel_rfl) (by kernel_rfl) (by kernel_rfl) (by kernel_rfl) (lok_98_v1 N) (fun x k => run_98_v1 N x k)

def lv_80_v1_4 : Live := [(0, none), (14, none), (15, none), (16, none)]
def pt_80_v1_4 : SPat := ⟨[(0, .ptr 0 []), (14, .ros (.sl (.int .u8))), (15, .int .i64), (16, .int .i64)], J7⟩
def px_80_v1_4_0 : SPat := ⟨[(0, .ptr 0 [])], J7⟩
def lo_80_v1_4 : Exit → Live
  | .exit 0 => [(0, none)]
  | _ => []
def ap_80_v1 : List Pat := [.ptr 0 [], .sl 3]
def hp_80_v1 : List (Option (Pat × Nat)) := [some (Z5, 178), some (Z10, 189), some (.lst (.int .u8), 5), some (.lst (.str), 9)]
abbrev Tl_80_v1_4 (R : Type) : Type := ((Unit × (List (List Int)) × Int × Int × Unit) × (Y6 × Y4 × (List ByteArray) × (List Int) × Unit)) → (((Unit × Unit) × (Y6 × Y4 × (List ByteArray) × (List Int) × Unit)) → Option R) → Option R
abbrev Tp_80_v1 (R : Type) : Type := (Unit × Unit × Unit) × (Y6 × Y4 × (List Int) × (List ByteArray) × Unit) → ((Unit × (Y6 × Y4 × (List ByteArray) × (List Int) × Unit)) → Option R) → Option R
def C_80_v1_4 {R : Type} (q_99 : Tp_99 R) (rec : ((Unit × (List (List Int)) × Int × Int × Unit) × (Y6 × Y4 × (List ByteArray) × (List Int) × Unit)) → Option R) (x : ((Unit × (List (List Int)) × Int × Int × Unit) × (Y6 × Y4 × (List ByteArray) × (List Int) × Unit))) (κ0 : ((Unit × Unit) × (Y6 × Y4 × (List ByteArray) × (List Int) × Unit)) → Option R) : Option R :=
let l1983 := x.1.2.1
let i1984 := x.1.2.2.1
let i1985 := x.1.2.2.2.1
let a1986 := x.2.1.2.1
let i1987 := x.2.1.2.2.1
let i1988 := x.2.1.2.2.2.1
let l1992 := x.2.2.2.1
let l1993 := x.2.2.2.2.1
bif (decide (i1985 < i1984)) then (
bif decide (0 ≤ i1985) then (
bif decide (i1985 < ((List.length l1983) : Int)) then (
let p1994 : (List Int) := (List.getD l1983 ((Int.toNat i1985)) (Sch.zero (.sl (.int .u8))))
let i1995 : Int := addA .u64 i1988 128
q_99 ((a1986, p1994, i1995, false, ()), ()) (fun y1996 =>
let a1997 := y1996.1
let i1999 : Int := addA .i64 i1985 1
rec (((), l1983, i1984, i1999, ()), (((), (a1997, (i1987, (i1995, ())))), x.2.2.1, l1992, l1993, ())))) else none) else none) else (
κ0 (((), ()), (x.2.1, x.2.2.1, l1992, l1993, ())))
def B_80_v1_4 {R : Type} (N : Nat) (rec : ((Unit × (List (List Int)) × Int × Int × Unit) × (Y6 × Y4 × (List ByteArray) × (List Int) × Unit)) → Option R) (x : ((Unit × (List (List Int)) × Int × Int × Unit) × (Y6 × Y4 × (List ByteArray) × (List Int) × Unit))) (κ0 : ((Unit × Unit) × (Y6 × Y4 × (List ByteArray) × (List Int) × Unit)) → Option R) : Option R := C_80_v1_4 (p_99 N) rec x κ0
def l_80_v1_4 {R : Type} (N : Nat) : Nat → ((Unit × (List (List Int)) × Int × Int × Unit) × (Y6 × Y4 × (List ByteArray) × (List Int) × Unit)) → (((Unit × Unit) × (Y6 × Y4 × (List ByteArray) × (List Int) × Unit)) → Option R) → Option R
  | 0, _, _ => none
  | n + 1, x, κ0 => B_80_v1_4 N (fun y => l_80_v1_4 N n y κ0) x κ0
def Q_80_v1 {R : Type} (q_98_v1 : Tp_98_v1 R) (q_99 : Tp_99 R) (m_80_v1_4 : Tl_80_v1_4 R) (x : (Unit × Unit × Unit) × (Y6 × Y4 × (List Int) × (List ByteArray) × Unit)) (κ0 : (Unit × (Y6 × Y4 × (List ByteArray) × (List Int) × Unit)) → Option R) : Option R :=
let l1810 := x.2.2.2.1
let l1811 := x.2.2.2.2.1
q_98_v1 (((), (), ()), (x.2.2.1, l1810, l1811, ())) (fun y1950 =>
let l1951 := y1950.1
let i1957 : Int := (((List.length l1951) : Nat) : Int)
none) (fun y1975 =>
let l1976 := y1975.1
let l1980 := y1975.2.2.1
let l1981 := y1975.2.2.2.1
let i1982 : Int := (((List.length l1976) : Nat) : Int)
m_80_v1_4 (((), l1976, i1982, 0, ()), (x.2.1, y1975.2.1, l1980, l1981, ())) (fun y2000 =>
let l2007 := y2000.2.2.2.1
let l2008 := y2000.2.2.2.2.1
κ0 ((), (y2000.2.1, y2000.2.2.1, l2007, l2008, ()))))
def p_80_v1 {R : Type} (N : Nat) (x : (Unit × Unit × Unit) × (Y6 × Y4 × (List Int) × (List ByteArray) × Unit)) (κ0 : (Unit × (Y6 × Y4 × (List ByteArray) × (List Int) × Unit)) → Option R) : Option R := Q_80_v1 (p_98_v1 N) (p_99 N) (l_80_v1_4 N N) x κ0
def EG_80_v1 {R : Type} (q_98_v1 : Tp_98_v1 R) (q_99 : Tp_99 R) : Env R := ((Env.base QQ LN AA).add 98 ap_98_v1 hp_98_v1 (fun (x : aden ap_98_v1 × hden hp_98_v1) k => q_98_v1 x (fun y => k (Pat.inst (.ros (.sl (.int .u8))) y.1) (instH J12 y.2)) (fun y => k (Pat.inst (.ros (.sl (.int .u8))) y.1) (instH [some (Z11, 189), none, some (.lst (.str), 9), some (.lst (.int .u8), 5)] y.2)))).add 99 ap_99 hp_99 (fun (x : aden ap_99 × hden hp_99) k => q_99 x (fun y => k (Pat.inst (.tup (.fcons (.vec (.int .u64) 8) (.fcons (.int .i64) (.fnil)))) y) (instH hp_99 x.2)))
def LG_80_v1 {R : Type} (m_80_v1_4 : Tl_80_v1_4 R) : Loops R := (Loops.none).add 4 (loopBy 4 lv_80_v1_4 pt_80_v1_4 (fun x k => m_80_v1_4 x (fun y => k (.exit 0) (px_80_v1_4_0.inst y))))
def E_80_v1 {R : Type} (N : Nat) : Env R := EG_80_v1 (p_98_v1 N) (p_99 N)
theorem eok_80_v1 {R : Type} (N : Nat) : EK Try.prog (E_80_v1 (R := R) N) := ek_add (ek_add (ek_base _ _ _) (good_98_v1 N)) (good_99 N)
def L_80_v1 {R : Type} (N : Nat) : Loops R := LG_80_v1 (l_80_v1_4 N N)
theorem gstep_80_v1_4 {R : Type} (q_98_v1 : Tp_98_v1 R) (q_99 : Tp_99 R) (m_80_v1_4 : Tl_80_v1_4 R) (n : Nat) (x : pt_80_v1_4.den) (k : Exit → St → Option R) : iter 4 lv_80_v1_4 lo_80_v1_4 (aexec TT (EG_80_v1 q_98_v1 q_99) (drawAny TT WW) (LG_80_v1 m_80_v1_4) (loopAt 4 (bodyOf Try.f80))) (n + 1) (pt_80_v1_4.inst x) k = C_80_v1_4 q_99 (fun y => iter 4 lv_80_v1_4 lo_80_v1_4 (aexec TT (EG_80_v1 q_98_v1 q_99) (drawAny TT WW) (LG_80_v1 m_80_v1_4) (loopAt 4 (bodyOf Try.f80))) n (pt_80_v1_4.inst y) k) x (fun y => k (.exit 0) (px_80_v1_4_0.inst y)) := by kernel_rfl
theorem step_80_v1_4 {R : Type} (N n : Nat) (x : pt_80_v1_4.den) (k : Exit → St → Option R) : iter 4 lv_80_v1_4 lo_80_v1_4 (aexec TT (E_80_v1 (R := R) N) (drawAny TT WW) (L_80_v1 N) (loopAt 4 (bodyOf Try.f80))) (n + 1) (pt_80_v1_4.inst x) k = B_80_v1_4 N (fun y => iter 4 lv_80_v1_4 lo_80_v1_4 (aexec TT (E_80_v1 (R := R) N) (drawAny TT WW) (L_80_v1 N) (loopAt 4 (bodyOf Try.f80))) n (pt_80_v1_4.inst y) k) x (fun y => k (.exit 0) (px_80_v1_4_0.inst y)) := (gstep_80_v1_4 (p_98_v1 N) (p_99 N) (l_80_v1_4 N N) n x k).trans (by kernel_rfl)
theorem eq_80_v1_4 {R : Type} (N : Nat) : ∀ (n : Nat) (x : pt_80_v1_4.den) (k : Exit → St → Option R), iter 4 lv_80_v1_4 lo_80_v1_4 (aexec TT (E_80_v1 (R := R) N) (drawAny TT WW) (L_80_v1 N) (loopAt 4 (bodyOf Try.f80))) n (pt_80_v1_4.inst x) k = l_80_v1_4 N n x (fun y => k (.exit 0) (px_80_v1_4_0.inst y)) :=
  iter_eq (K := Exit → St → Option R) (ks := fun k => k) (l := fun n (x : pt_80_v1_4.den) k => l_80_v1_4 N n x (fun y => k (.exit 0) (px_80_v1_4_0.inst y))) (B := fun (rec : pt_80_v1_4.den → Option R) (x : pt_80_v1_4.den) k => B_80_v1_4 N rec x (fun y => k (.exit 0) (px_80_v1_4_0.inst y))) (fun _ _ => rfl) (fun _ _ _ => rfl) (fun n x k => step_80_v1_4 N n x k)
theorem rounds_80_v1_4 {R : Type} (N : Nat) : Rounds 4 TT (E_80_v1 (R := R) N) (drawAny TT WW) (L_80_v1 N) 4 (loopAt 4 (bodyOf Try.f80)) :=
  rounds_of (p := pt_80_v1_4) (l := fun (x : pt_80_v1_4.den) k => l_80_v1_4 N N x (fun y => k (.exit 0) (px_80_v1_4_0.inst y))) (fun s k => rfl) (fun x k => eq_80_v1_4 N N x k)
theorem loops_80_v1 : loopsIn (bodyOf Try.f80) = [(4, loopAt 4 (bodyOf Try.f80))] := by kernel_rfl
theorem lok_80_v1 {R : Type} (N : Nat) : LOK 4 TT (E_80_v1 (R := R) N) (drawAny TT WW) (L_80_v1 N) (bodyOf Try.f80) := loops_all loops_80_v1 (by
  simp only [List.forall_mem_cons, List.not_mem_nil, false_implies, implies_true, and_true]
  exact rounds_80_v1_4 N)
theorem grun_80_v1 {R : Type} (q_98_v1 : Tp_98_v1 R) (q_99 : Tp_99 R) (m_80_v1_4 : Tl_80_v1_4 R) (x : aden ap_80_v1 × hden hp_80_v1) (k : KF R) : fnrun TT (EG_80_v1 q_98_v1 q_99) (drawAny TT WW) (LG_80_v1 m_80_v1_4) true Try.f80 (instA ap_80_v1 x.1) (instH hp_80_v1 x.2) k = Q_80_v1 q_98_v1 q_99 m_80_v1_4 x (fun y => k (Pat.inst (.ptr 0 []) y.1) (instH J7 y.2)) := by kernel_rfl
theorem run_80_v1 {R : Type} (N : Nat) (x : aden ap_80_v1 × hden hp_80_v1) (k : KF R) : fnrun TT (E_80_v1 (R := R) N) (drawAny TT WW) (L_80_v1 N) true Try.f80 (instA ap_80_v1 x.1) (instH hp_80_v1 x.2) k = p_80_v1 N x (fun y => k (Pat.inst (.ptr 0 []) y.1) (instH J7 y.2)) := (grun_80_v1 (p_98_v1 N) (p_99 N) (l_80_v1_4 N N) x k).trans (by kernel_rfl)
theorem good_80_v1 {R : Type} (N : Nat) : GD (X := R) Try.prog QQ AA 80 ap_80_v1 hp_80_v1 (fun (x : aden ap_80_v1 × hden hp_80_v1) k => p_80_v1 N x (fun y => k (Pat.inst (.ptr 0 []) y.1) (instH J7 y.2))) :=
  gd_loud (E := E_80_v1 N) (p := fun (x : aden ap_80_v1 × hden hp_80_v1) k => p_80_v1 N x (fun y => k (Pat.inst (.ptr 0 []) y.1) (instH J7 y.2))) mixed tyok (eok_80_v1 N) Try.func80 (by kernel_rfl) (by kernel_rfl) (by kernel_rfl) (by kernel_rfl) (lok_80_v1 N) (fun x k => run_80_v1 N x k)

def ap_79 : List Pat := [.int .i64, .str]
def hp_79 : List (Option (Pat × Nat)) := []
abbrev Tp_79 (R : Type) : Type := (Int × ByteArray × Unit) × (Unit) → (((Unit × (Int × Unit)) × (Unit)) → Option R) → (((Unit × (Int × Unit)) × (Y6 × Unit)) → Option R) → (((Unit × (Int × Unit)) × (Y6 × Y4 × (List Int) × Unit)) → Option R) → Option R
def Q_79 {R : Type} (q_96 : Tp_96 R) (q_97 : Tp_97 R) (q_80 : Tp_80 R) (q_80_v1 : Tp_80_v1 R) (x : (Int × ByteArray × Unit) × (Unit)) (κ0 : ((Unit × (Int × Unit)) × (Unit)) → Option R) (κ1 : ((Unit × (Int × Unit)) × (Y6 × Unit)) → Option R) (κ2 : ((Unit × (Int × Unit)) × (Y6 × Y4 × (List Int) × Unit)) → Option R) : Option R :=
let i1030 := x.1.1
let s1031 := x.1.2.1
bif (decide (i1030 < 1)) then (
κ0 (((), (1, ())), ())) else (
bif (decide (i1030 > 64)) then (
κ0 (((), (1, ())), ())) else (
let i1032 : Int := ((ByteArray.size s1031 : Nat) : Int)
bif (decide (i1032 > 64)) then (
κ0 (((), (1, ())), ())) else (
q_96 ((128, true, ()), ()) (fun y1035 =>
q_97 ((), ()) (fun y1038 =>
let a1039 : (Nat → Int) := y1038
let i1040 : Int := (a1039 0)
let i1041 : Int := ((ByteArray.size s1031 : Nat) : Int)
let i1042 : Int := IntKind.wrap .u64 i1041
let i1043 : Int := shlA .u64 i1042 8
let i1044 : Int := xorA .u64 16842752 i1043
let i1045 : Int := IntKind.wrap .u64 i1030
let i1046 : Int := xorA .u64 i1044 i1045
let i1047 : Int := xorA .u64 i1040 i1046
bif (!eqS s1031 (⟨#[]⟩)) then (
let i1048 : Int := ((ByteArray.size s1031 : Nat) : Int)
let i1049 : Int := subA .i64 128 i1048
bif decide (0 ≤ i1049) then (
bif decide (i1049 ≤ i1049) then (
bif decide (((1 : Nat) : Int) * i1049 ≤ 281474976710656) then (
bif decide (i1049 ≤ 9223372036854775807) then (
let l1050 : (List Int) := List.replicate ((Int.toNat i1049)) (Sch.zero (.int .u8))
let s1051 : ByteArray := listStr l1050
bif decide (ByteArray.size s1031 + ByteArray.size s1051 ≤ maxI64) then (
let s1052 : ByteArray := (s1031 ++ s1051)
let l1053 : (List ByteArray) := [s1052]
q_80 (((), (), ()), (((), ((upd a1039 0 i1047), (i1030, (0, ())))), l1053, ())) (fun y1777 =>
κ1 (((), (0, ())), (y1777.2.1, ())))) else none) else none) else none) else none) else none) else (
κ1 (((), (0, ())), (((), ((upd a1039 0 i1047), (i1030, (0, ())))), ()))))) (fun y1782 =>
let l1787 := y1782.2.2.1
q_97 ((), ()) (fun y1788 =>
let a1789 : (Nat → Int) := y1788
let i1790 : Int := (a1789 0)
let i1791 : Int := ((ByteArray.size s1031 : Nat) : Int)
let i1792 : Int := IntKind.wrap .u64 i1791
let i1793 : Int := shlA .u64 i1792 8
let i1794 : Int := xorA .u64 16842752 i1793
let i1795 : Int := IntKind.wrap .u64 i1030
let i1796 : Int := xorA .u64 i1794 i1795
let i1797 : Int := xorA .u64 i1790 i1796
bif (!eqS s1031 (⟨#[]⟩)) then (
let i1798 : Int := ((ByteArray.size s1031 : Nat) : Int)
let i1799 : Int := subA .i64 128 i1798
bif decide (0 ≤ i1799) then (
bif decide (i1799 ≤ i1799) then (
bif decide (((1 : Nat) : Int) * i1799 ≤ 281474976710656) then (
bif decide (i1799 ≤ 9223372036854775807) then (
let l1800 : (List Int) := List.replicate ((Int.toNat i1799)) (Sch.zero (.int .u8))
let s1801 : ByteArray := listStr l1800
bif decide (ByteArray.size s1031 + ByteArray.size s1801 ≤ maxI64) then (
let s1802 : ByteArray := (s1031 ++ s1801)
let l1803 : (List ByteArray) := [s1802]
q_80_v1 (((), (), ()), (((), ((upd a1789 0 i1797), (i1030, (0, ())))), y1782.2.1, l1787, l1803, ())) (fun y2009 =>
let l2017 := y2009.2.2.2.2.1
κ2 (((), (0, ())), (y2009.2.1, y2009.2.2.1, l2017, ())))) else none) else none) else none) else none) else none) else (
κ2 (((), (0, ())), (((), ((upd a1789 0 i1797), (i1030, (0, ())))), y1782.2.1, l1787, ()))))))))
def p_79 {R : Type} (N : Nat) (x : (Int × ByteArray × Unit) × (Unit)) (κ0 : ((Unit × (Int × Unit)) × (Unit)) → Option R) (κ1 : ((Unit × (Int × Unit)) × (Y6 × Unit)) → Option R) (κ2 : ((Unit × (Int × Unit)) × (Y6 × Y4 × (List Int) × Unit)) → Option R) : Option R := Q_79 (p_96 N) (p_97 N) (p_80 N) (p_80_v1 N) x κ0 κ1 κ2
def EG_79 {R : Type} (q_96 : Tp_96 R) (q_97 : Tp_97 R) (q_80 : Tp_80 R) (q_80_v1 : Tp_80_v1 R) : Env R := ((((Env.base QQ LN AA).add 96 ap_96 hp_96 (fun (x : aden ap_96 × hden hp_96) k => q_96 x (fun y => k (Pat.inst (.tup (.fcons (.nilp) (.fcons (.int .i64) (.fnil)))) y.1) (instH [] y.2)) (fun y => k (Pat.inst (.tup (.fcons (.ptr 0 []) (.fcons (.int .i64) (.fnil)))) y.1) (instH [some (Z8, 189), some (.lst (.int .u8), 5)] y.2)))).add 97 ap_97 hp_97 (fun (x : aden ap_97 × hden hp_97) k => q_97 x (fun y => k (Pat.inst (.vec (.int .u64) 8) y) (instH hp_97 x.2)))).add 80 ap_80 hp_80 (fun (x : aden ap_80 × hden hp_80) k => q_80 x (fun y => k (Pat.inst (.ptr 0 []) y.1) (instH J11 y.2)))).add 80 ap_80_v1 hp_80_v1 (fun (x : aden ap_80_v1 × hden hp_80_v1) k => q_80_v1 x (fun y => k (Pat.inst (.ptr 0 []) y.1) (instH J7 y.2)))
def LG_79 {R : Type} : Loops R := Loops.none
def E_79 {R : Type} (N : Nat) : Env R := EG_79 (p_96 N) (p_97 N) (p_80 N) (p_80_v1 N)
theorem eok_79 {R : Type} (N : Nat) : EK Try.prog (E_79 (R := R) N) := ek_add (ek_add (ek_add (ek_add (ek_base _ _ _) (good_96 N)) (good_97 N)) (good_80 N)) (good_80_v1 N)
def L_79 {R : Type} (N : Nat) : Loops R := LG_79
theorem lok_79 {R : Type} (N : Nat) : LOK 0 TT (E_79 (R := R) N) (drawAny TT WW) (L_79 N) (bodyOf Try.f79) := loops_nil (by kernel_rfl)
theorem grun_79 {R : Type} (q_96 : Tp_96 R) (q_97 : Tp_97 R) (q_80 : Tp_80 R) (q_80_v1 : Tp_80_v1 R) (x : aden ap_79 × hden hp_79) (k : KF R) : fnrun TT (EG_79 q_96 q_97 q_80 q_80_v1) (drawAny TT WW) (LG_79) true Try.f79 (instA ap_79 x.1) (instH hp_79 x.2) k = Q_79 q_96 q_97 q_80 q_80_v1 x (fun y => k (Pat.inst (.tup (.fcons (.nilp) (.fcons (.int .i64) (.fnil)))) y.1) (instH [] y.2)) (fun y => k (Pat.inst (.tup (.fcons (.ptr 0 []) (.fcons (.int .i64) (.fnil)))) y.1) (instH [some (Z6, 178)] y.2)) (fun y => k (Pat.inst (.tup (.fcons (.ptr 0 []) (.fcons (.int .i64) (.fnil)))) y.1) (instH J6 y.2)) := by kernel_rfl
theorem run_79 {R : Type} (N : Nat) (x : aden ap_79 × hden hp_79) (k : KF R) : fnrun TT (E_79 (R := R) N) (drawAny TT WW) (L_79 N) true Try.f79 (instA ap_79 x.1) (instH hp_79 x.2) k = p_79 N x (fun y => k (Pat.inst (.tup (.fcons (.nilp) (.fcons (.int .i64) (.fnil)))) y.1) (instH [] y.2)) (fun y => k (Pat.inst (.tup (.fcons (.ptr 0 []) (.fcons (.int .i64) (.fnil)))) y.1) (instH [some (Z6, 178)] y.2)) (fun y => k (Pat.inst (.tup (.fcons (.ptr 0 []) (.fcons (.int .i64) (.fnil)))) y.1) (instH J6 y.2)) := (grun_79 (p_96 N) (p_97 N) (p_80 N) (p_80_v1 N) x k).trans (by kernel_rfl)
theorem good_79 {R : Type} (N : Nat) : GD (X := R) Try.prog QQ AA 79 ap_79 hp_79 (fun (x : aden ap_79 × hden hp_79) k => p_79 N x (fun y => k (Pat.inst (.tup (.fcons (.nilp) (.fcons (.int .i64) (.fnil)))) y.1) (instH [] y.2)) (fun y => k (Pat.inst (.tup (.fcons (.ptr 0 []) (.fcons (.int .i64) (.fnil)))) y.1) (instH [some (Z6, 178)] y.2)) (fun y => k (Pat.inst (.tup (.fcons (.ptr 0 []) (.fcons (.int .i64) (.fnil)))) y.1) (instH J6 y.2))) :=
  gd_loud (E := E_79 N) (p := fun (x : aden ap_79 × hden hp_79) k => p_79 N x (fun y => k (Pat.inst (.tup (.fcons (.nilp) (.fcons (.int .i64) (.fnil)))) y.1) (instH [] y.2)) (fun y => k (Pat.inst (.tup (.fcons (.ptr 0 []) (.fcons (.int .i64) (.fnil)))) y.1) (instH [some (Z6, 178)] y.2)) (fun y => k (Pat.inst (.tup (.fcons (.ptr 0 []) (.fcons (.int .i64) (.fnil)))) y.1) (instH J6 y.2))) mixed tyok (eok_79 N) Try.func79 (by kernel_rfl) (by kernel_rfl) (by kernel_rfl) (by kernel_rfl) (lok_79 N) (fun x k => run_79 N x k)

def ap_80_v2 : List Pat := [.nilp, .sl 0]
def hp_80_v2 : List (Option (Pat × Nat)) := [some (.lst (.str), 9)]
abbrev Tp_80_v2 (R : Type) : Type := (Unit × Unit × Unit) × Y23 → ((Unit × Y23) → Option R) → Option R
def Q_80_v2 {R : Type} (x : (Unit × Unit × Unit) × Y23) (κ0 : (Unit × Y23) → Option R) : Option R :=
κ0 ((), x.2)
def p_80_v2 {R : Type} (N : Nat) (x : (Unit × Unit × Unit) × Y23) (κ0 : (Unit × Y23) → Option R) : Option R := Q_80_v2 x κ0
def EG_80_v2 {R : Type} : Env R := Env.base QQ LN AA
def LG_80_v2 {R : Type} : Loops R := Loops.none
def E_80_v2 {R : Type} (N : Nat) : Env R := EG_80_v2
theorem eok_80_v2 {R : Type} (N : Nat) : EK Try.prog (E_80_v2 (R := R) N) := ek_base _ _ _
def L_80_v2 {R : Type} (N : Nat) : Loops R := LG_80_v2
theorem loops_80_v2 : loopsIn (bodyOf Try.f80) = [(4, loopAt 4 (bodyOf Try.f80))] := by kernel_rfl
theorem lok_80_v2 {R : Type} (N : Nat) : LOK 1 TT (E_80_v2 (R := R) N) (drawAny TT WW) (L_80_v2 N) (bodyOf Try.f80) := loops_all loops_80_v2 (by
  simp only [List.forall_mem_cons, List.not_mem_nil, false_implies, implies_true, and_true]
  exact rounds_none (fun _ _ => rfl))
theorem grun_80_v2 {R : Type} (x : aden ap_80_v2 × hden hp_80_v2) (k : KF R) : fnrun TT (EG_80_v2) (drawAny TT WW) (LG_80_v2) true Try.f80 (instA ap_80_v2 x.1) (instH hp_80_v2 x.2) k = Q_80_v2 x (fun y => k (Pat.inst (.nilp) y.1) (instH [some (.lst (.str), 9)] y.2)) := by kernel_rfl
theorem run_80_v2 {R : Type} (N : Nat) (x : aden ap_80_v2 × hden hp_80_v2) (k : KF R) : fnrun TT (E_80_v2 (R := R) N) (drawAny TT WW) (L_80_v2 N) true Try.f80 (instA ap_80_v2 x.1) (instH hp_80_v2 x.2) k = p_80_v2 N x (fun y => k (Pat.inst (.nilp) y.1) (instH [some (.lst (.str), 9)] y.2)) := (grun_80_v2 x k).trans (by kernel_rfl)
theorem good_80_v2 {R : Type} (N : Nat) : GD (X := R) Try.prog QQ AA 80 ap_80_v2 hp_80_v2 (fun (x : aden ap_80_v2 × hden hp_80_v2) k => p_80_v2 N x (fun y => k (Pat.inst (.nilp) y.1) (instH [some (.lst (.str), 9)] y.2))) :=
  gd_loud (E := E_80_v2 N) (p := fun (x : aden ap_80_v2 × hden hp_80_v2) k => p_80_v2 N x (fun y => k (Pat.inst (.nilp) y.1) (instH [some (.lst (.str), 9)] y.2))) mixed tyok (eok_80_v2 N) Try.func80 (by kernel_rfl) (by kernel_rfl) (by kernel_rfl) (by kernel_rfl) (lok_80_v2 N) (fun x k => run_80_v2 N x k)

def ap_81 : List Pat := [.nilp]
def hp_81 : List (Option (Pat × Nat)) := []
abbrev Tp_81 (R : Type) : Type := (Unit × Unit) × (Unit) → ((ByteArray × (Unit)) → Option R) → Option R
def Q_81 {R : Type} (x : (Unit × Unit) × (Unit)) (κ0 : (ByteArray × (Unit)) → Option R) : Option R :=
κ0 (⟨#[]⟩, ())
def p_81 {R : Type} (N : Nat) (x : (Unit × Unit) × (Unit)) (κ0 : (ByteArray × (Unit)) → Option R) : Option R := Q_81 x κ0
def EG_81 {R : Type} : Env R := Env.base QQ LN AA
def LG_81 {R : Type} : Loops R := Loops.none
def E_81 {R : Type} (N : Nat) : Env R := EG_81
theorem eok_81 {R : Type} (N : Nat) : EK Try.prog (E_81 (R := R) N) := ek_base _ _ _
def L_81 {R : Type} (N : Nat) : Loops R := LG_81
theorem lok_81 {R : Type} (N : Nat) : LOK 0 TT (E_81 (R := R) N) (drawAny TT WW) (L_81 N) (bodyOf Try.f81) := loops_nil (by kernel_rfl)
theorem grun_81 {R : Type} (x : aden ap_81 × hden hp_81) (k : KF R) : fnrun TT (EG_81) (drawAny TT WW) (LG_81) true Try.f81 (instA ap_81 x.1) (instH hp_81 x.2) k = Q_81 x (fun y => k (Pat.inst (.str) y.1) (instH [] y.2)) := by kernel_rfl
theorem run_81 {R : Type} (N : Nat) (x : aden ap_81 × hden hp_81) (k : KF R) : fnrun TT (E_81 (R := R) N) (drawAny TT WW) (L_81 N) true Try.f81 (instA ap_81 x.1) (instH hp_81 x.2) k = p_81 N x (fun y => k (Pat.inst (.str) y.1) (instH [] y.2)) := (grun_81 x k).trans (by kernel_rfl)
theorem good_81 {R : Type} (N : Nat) : GD (X := R) Try.prog QQ AA 81 ap_81 hp_81 (fun (x : aden ap_81 × hden hp_81) k => p_81 N x (fun y => k (Pat.inst (.str) y.1) (instH [] y.2))) :=
  gd_loud (E := E_81 N) (p := fun (x : aden ap_81 × hden hp_81) k => p_81 N x (fun y => k (Pat.inst (.str) y.1) (instH [] y.2))) mixed tyok (eok_81 N) Try.func81 (by kernel_rfl) (by kernel_rfl) (by kernel_rfl) (by kernel_rfl) (lok_81 N) (fun x k => run_81 N x k)

def ap_100 : List Pat := [.nilp]
def hp_100 : List (Option (Pat × Nat)) := []
abbrev Tp_100 (R : Type) : Type := (Unit × Unit) × (Unit) → ((Unit × (Unit)) → Option R) → Option R
def Q_100 {R : Type} (x : (Unit × Unit) × (Unit)) (κ0 : (Unit × (Unit)) → Option R) : Option R :=
κ0 ((), ())
def p_100 {R : Type} (N : Nat) (x : (Unit × Unit) × (Unit)) (κ0 : (Unit × (Unit)) → Option R) : Option R := Q_100 x κ0
def EG_100 {R : Type} : Env R := Env.base QQ LN AA
def LG_100 {R : Type} : Loops R := Loops.none
def E_100 {R : Type} (N : Nat) : Env R := EG_100
theorem eok_100 {R : Type} (N : Nat) : EK Try.prog (E_100 (R := R) N) := ek_base _ _ _
def L_100 {R : Type} (N : Nat) : Loops R := LG_100
theorem lok_100 {R : Type} (N : Nat) : LOK 0 TT (E_100 (R := R) N) (drawAny TT WW) (L_100 N) (bodyOf Try.f100) := loops_nil (by kernel_rfl)
theorem grun_100 {R : Type} (x : aden ap_100 × hden hp_100) (k : KF R) : fnrun TT (EG_100) (drawAny TT WW) (LG_100) false Try.f100 (instA ap_100 x.1) (instH hp_100 x.2) k = Q_100 x (fun y => k (Pat.inst (.nils) y.1) (instH [] y.2)) := by kernel_rfl
theorem run_100 {R : Type} (N : Nat) (x : aden ap_100 × hden hp_100) (k : KF R) : fnrun TT (E_100 (R := R) N) (drawAny TT WW) (L_100 N) false Try.f100 (instA ap_100 x.1) (instH hp_100 x.2) k = p_100 N x (fun y => k (Pat.inst (.nils) y.1) (instH [] y.2)) := (grun_100 x k).trans (by kernel_rfl)
theorem good_100 {R : Type} (N : Nat) : GD (X := R) Try.prog QQ AA 100 ap_100 hp_100 (fun (x : aden ap_100 × hden hp_100) k => p_100 N x (fun y => k (Pat.inst (.nils) y.1) (instH [] y.2))) :=
  gd_loud (E := E_100 N) (p := fun (x : aden ap_100 × hden hp_100) k => p_100 N x (fun y => k (Pat.inst (.nils) y.1) (instH [] y.2))) mixed tyok (eok_100 N) Try.func100 (by kernel_rfl) (by kernel_rfl) (by kernel_rfl) (by kernel_rfl) (lok_100 N) (fun x k => run_100 N x k)

def lv_83_6 : Live := [(3, none), (5, none), (11, none), (12, none), (13, none), (17, none)]
def pt_83_6 : SPat := ⟨[(3, .sl 0), (5, .int .u64), (11, .ros (.int .u64)), (12, .int .i64), (13, .int .i64), (17, .int .i64)], J10⟩
def px_83_6_0 : SPat := ⟨[(3, .sl 0), (11, .ros (.int .u64)), (12, .int .i64), (13, .int .i64)], J10⟩
def lo_83_6 : Exit → Live
  | .exit 2 => [(3, none), (11, none), (12, none), (13, none)]
  | _ => []
def lv_83_3 : Live := [(3, none), (11, none), (12, none), (13, none)]
def pt_83_3 : SPat := ⟨[(3, .sl 0), (11, .ros (.int .u64)), (12, .int .i64), (13, .int .i64)], J10⟩
def px_83_3_0 : SPat := ⟨[(3, .sl 0)], J10⟩
def lo_83_3 : Exit → Live
  | .exit 0 => [(3, none)]
  | _ => []
def ap_83 : List Pat := [.ros (.int .u64)]
def hp_83 : List (Option (Pat × Nat)) := []
abbrev Tl_83_6 (R : Type) : Type := ((Unit × Int × (List Int) × Int × Int × Int × Unit) × ((List Int) × Unit)) → (Y16 → Option R) → Option R
abbrev Tl_83_3 (R : Type) : Type := Y16 → (((Unit × Unit) × ((List Int) × Unit)) → Option R) → Option R
abbrev Tp_83 (R : Type) : Type := ((List Int) × Unit) × (Unit) → ((Unit × ((List Int) × Unit)) → Option R) → Option R
def C_83_6 {R : Type} (rec : ((Unit × Int × (List Int) × Int × Int × Int × Unit) × ((List Int) × Unit)) → Option R) (x : ((Unit × Int × (List Int) × Int × Int × Int × Unit) × ((List Int) × Unit))) (κ0 : Y16 → Option R) : Option R :=
let i2083 := x.1.2.1
let l2084 := x.1.2.2.1
let i2085 := x.1.2.2.2.1
let i2086 := x.1.2.2.2.2.1
let i2087 := x.1.2.2.2.2.2.1
let l2088 := x.2.1
bif (decide (i2087 < 8)) then (
let i2089 : Int := mulA .i64 8 i2087
bif decide (i2089 < 0) then none else (
let i2090 : Int := shrA .u64 i2083 i2089
let i2091 : Int := IntKind.wrap .u8 i2090
let l2092 : (List Int) := [i2091]
bif (decide ((List.length l2088 + List.length l2092) * 1 ≤ 140737488355328) && true) then (
let l2093 : (List Int) := (l2088 ++ l2092)
let i2094 : Int := addA .i64 i2087 1
rec (((), i2083, l2084, i2085, i2086, i2094, ()), (l2093, ()))) else none)) else (
κ0 (((), l2084, i2085, i2086, ()), x.2))
def C_83_3 {R : Type} (m_83_6 : Tl_83_6 R) (rec : Y16 → Option R) (x : Y16) (κ0 : ((Unit × Unit) × ((List Int) × Unit)) → Option R) : Option R :=
let l2078 := x.1.2.1
let i2079 := x.1.2.2.1
let i2080 := x.1.2.2.2.1
bif (decide (i2080 < i2079)) then (
bif decide (0 ≤ i2080) then (
bif decide (i2080 < ((List.length l2078) : Int)) then (
let p2082 : Int := (List.getD l2078 ((Int.toNat i2080)) (Sch.zero (.int .u64)))
m_83_6 (((), p2082, l2078, i2079, i2080, 0, ()), x.2) (fun y2095 =>
let l2096 := y2095.1.2.1
let i2097 := y2095.1.2.2.1
let i2098 := y2095.1.2.2.2.1
let i2100 : Int := addA .i64 i2098 1
rec (((), l2096, i2097, i2100, ()), y2095.2))) else none) else none) else (
κ0 (((), ()), x.2))
def B_83_6 {R : Type} (N : Nat) (rec : ((Unit × Int × (List Int) × Int × Int × Int × Unit) × ((List Int) × Unit)) → Option R) (x : ((Unit × Int × (List Int) × Int × Int × Int × Unit) × ((List Int) × Unit))) (κ0 : Y16 → Option R) : Option R := C_83_6 rec x κ0
def l_83_6 {R : Type} (N : Nat) : Nat → ((Unit × Int × (List Int) × Int × Int × Int × Unit) × ((List Int) × Unit)) → (Y16 → Option R) → Option R
  | 0, _, _ => none
  | n + 1, x, κ0 => B_83_6 N (fun y => l_83_6 N n y κ0) x κ0
def B_83_3 {R : Type} (N : Nat) (rec : Y16 → Option R) (x : Y16) (κ0 : ((Unit × Unit) × ((List Int) × Unit)) → Option R) : Option R := C_83_3 (l_83_6 N N) rec x κ0
def l_83_3 {R : Type} (N : Nat) : Nat → Y16 → (((Unit × Unit) × ((List Int) × Unit)) → Option R) → Option R
  | 0, _, _ => none
  | n + 1, x, κ0 => B_83_3 N (fun y => l_83_3 N n y κ0) x κ0
def Q_83 {R : Type} (m_83_6 : Tl_83_6 R) (m_83_3 : Tl_83_3 R) (x : ((List Int) × Unit) × (Unit)) (κ0 : (Unit × ((List Int) × Unit)) → Option R) : Option R :=
let l2073 := x.1.1
let i2074 : Int := (((List.length l2073) : Nat) : Int)
let i2075 : Int := mulA .i64 8 i2074
bif decide (0 ≤ i2075) then (
bif decide (((1 : Nat) : Int) * i2075 ≤ 281474976710656) then (
bif decide (i2075 ≤ 9223372036854775807) then (
let l2076 : (List Int) := List.replicate 0 (Sch.zero (.int .u8))
let i2077 : Int := (((List.length l2073) : Nat) : Int)
m_83_3 (((), l2073, i2077, 0, ()), (l2076, ())) (fun y2101 =>
κ0 ((), y2101.2))) else none) else none) else none
def p_83 {R : Type} (N : Nat) (x : ((List Int) × Unit) × (Unit)) (κ0 : (Unit × ((List Int) × Unit)) → Option R) : Option R := Q_83 (l_83_6 N N) (l_83_3 N N) x κ0
def EG_83 {R : Type} : Env R := Env.base QQ LN AA
def LG_83 {R : Type} (m_83_6 : Tl_83_6 R) (m_83_3 : Tl_83_3 R) : Loops R := ((Loops.none).add 6 (loopBy 0 lv_83_6 pt_83_6 (fun x k => m_83_6 x (fun y => k (.exit 2) (px_83_6_0.inst y))))).add 3 (loopBy 0 lv_83_3 pt_83_3 (fun x k => m_83_3 x (fun y => k (.exit 0) (px_83_3_0.inst y))))
def E_83 {R : Type} (N : Nat) : Env R := EG_83
theorem eok_83 {R : Type} (N : Nat) : EK Try.prog (E_83 (R := R) N) := ek_base _ _ _
def L_83 {R : Type} (N : Nat) : Loops R := LG_83 (l_83_6 N N) (l_83_3 N N)
theorem gstep_83_6 {R : Type} (m_83_6 : Tl_83_6 R) (m_83_3 : Tl_83_3 R) (n : Nat) (x : pt_83_6.den) (k : Exit → St → Option R) : iter 0 lv_83_6 lo_83_6 (aexec TT (EG_83) (drawAny TT WW) (LG_83 m_83_6 m_83_3) (loopAt 6 (bodyOf Try.f83))) (n + 1) (pt_83_6.inst x) k = C_83_6 (fun y => iter 0 lv_83_6 lo_83_6 (aexec TT (EG_83) (drawAny TT WW) (LG_83 m_83_6 m_83_3) (loopAt 6 (bodyOf Try.f83))) n (pt_83_6.inst y) k) x (fun y => k (.exit 2) (px_83_6_0.inst y)) := by kernel_rfl
theorem step_83_6 {R : Type} (N n : Nat) (x : pt_83_6.den) (k : Exit → St → Option R) : iter 0 lv_83_6 lo_83_6 (aexec TT (E_83 (R := R) N) (drawAny TT WW) (L_83 N) (loopAt 6 (bodyOf Try.f83))) (n + 1) (pt_83_6.inst x) k = B_83_6 N (fun y => iter 0 lv_83_6 lo_83_6 (aexec TT (E_83 (R := R) N) (drawAny TT WW) (L_83 N) (loopAt 6 (bodyOf Try.f83))) n (pt_83_6.inst y) k) x (fun y => k (.exit 2) (px_83_6_0.inst y)) := (gstep_83_6 (l_83_6 N N) (l_83_3 N N) n x k).trans (by kernel_rfl)
theorem eq_83_6 {R : Type} (N : Nat) : ∀ (n : Nat) (x : pt_83_6.den) (k : Exit → St → Option R), iter 0 lv_83_6 lo_83_6 (aexec TT (E_83 (R := R) N) (drawAny TT WW) (L_83 N) (loopAt 6 (bodyOf Try.f83))) n (pt_83_6.inst x) k = l_83_6 N n x (fun y => k (.exit 2) (px_83_6_0.inst y)) :=
  iter_eq (K := Exit → St → Option R) (ks := fun k => k) (l := fun n (x : pt_83_6.den) k => l_83_6 N n x (fun y => k (.exit 2) (px_83_6_0.inst y))) (B := fun (rec : pt_83_6.den → Option R) (x : pt_83_6.den) k => B_83_6 N rec x (fun y => k (.exit 2) (px_83_6_0.inst y))) (fun _ _ => rfl) (fun _ _ _ => rfl) (fun n x k => step_83_6 N n x k)
theorem rounds_83_6 {R : Type} (N : Nat) : Rounds 0 TT (E_83 (R := R) N) (drawAny TT WW) (L_83 N) 6 (loopAt 6 (bodyOf Try.f83)) :=
  rounds_of (p := pt_83_6) (l := fun (x : pt_83_6.den) k => l_83_6 N N x (fun y => k (.exit 2) (px_83_6_0.inst y))) (fun s k => rfl) (fun x k => eq_83_6 N N x k)
theorem gstep_83_3 {R : Type} (m_83_6 : Tl_83_6 R) (m_83_3 : Tl_83_3 R) (n : Nat) (x : pt_83_3.den) (k : Exit → St → Option R) : iter 0 lv_83_3 lo_83_3 (aexec TT (EG_83) (drawAny TT WW) (LG_83 m_83_6 m_83_3) (loopAt 3 (bodyOf Try.f83))) (n + 1) (pt_83_3.inst x) k = C_83_3 m_83_6 (fun y => iter 0 lv_83_3 lo_83_3 (aexec TT (EG_83) (drawAny TT WW) (LG_83 m_83_6 m_83_3) (loopAt 3 (bodyOf Try.f83))) n (pt_83_3.inst y) k) x (fun y => k (.exit 0) (px_83_3_0.inst y)) := by kernel_rfl
theorem step_83_3 {R : Type} (N n : Nat) (x : pt_83_3.den) (k : Exit → St → Option R) : iter 0 lv_83_3 lo_83_3 (aexec TT (E_83 (R := R) N) (drawAny TT WW) (L_83 N) (loopAt 3 (bodyOf Try.f83))) (n + 1) (pt_83_3.inst x) k = B_83_3 N (fun y => iter 0 lv_83_3 lo_83_3 (aexec TT (E_83 (R := R) N) (drawAny TT WW) (L_83 N) (loopAt 3 (bodyOf Try.f83))) n (pt_83_3.inst y) k) x (fun y => k (.exit 0) (px_83_3_0.inst y)) := (gstep_83_3 (l_83_6 N N) (l_83_3 N N) n x k).trans (by kernel_rfl)
theorem eq_83_3 {R : Type} (N : Nat) : ∀ (n : Nat) (x : pt_83_3.den) (k : Exit → St → Option R), iter 0 lv_83_3 lo_83_3 (aexec TT (E_83 (R := R) N) (drawAny TT WW) (L_83 N) (loopAt 3 (bodyOf Try.f83))) n (pt_83_3.inst x) k = l_83_3 N n x (fun y => k (.exit 0) (px_83_3_0.inst y)) :=
  iter_eq (K := Exit → St → Option R) (ks := fun k => k) (l := fun n (x : pt_83_3.den) k => l_83_3 N n x (fun y => k (.exit 0) (px_83_3_0.inst y))) (B := fun (rec : pt_83_3.den → Option R) (x : pt_83_3.den) k => B_83_3 N rec x (fun y => k (.exit 0) (px_83_3_0.inst y))) (fun _ _ => rfl) (fun _ _ _ => rfl) (fun n x k => step_83_3 N n x k)
theorem rounds_83_3 {R : Type} (N : Nat) : Rounds 0 TT (E_83 (R := R) N) (drawAny TT WW) (L_83 N) 3 (loopAt 3 (bodyOf Try.f83)) :=
  rounds_of (p := pt_83_3) (l := fun (x : pt_83_3.den) k => l_83_3 N N x (fun y => k (.exit 0) (px_83_3_0.inst y))) (fun s k => rfl) (fun x k => eq_83_3 N N x k)
theorem loops_83 : loopsIn (bodyOf Try.f83) = [(3, loopAt 3 (bodyOf Try.f83)), (6, loopAt 6 (bodyOf Try.f83))] := by kernel_rfl
theorem lok_83 {R : Type} (N : Nat) : LOK 0 TT (E_83 (R := R) N) (drawAny TT WW) (L_83 N) (bodyOf Try.f83) := loops_all loops_83 (by
  simp only [List.forall_mem_cons, List.not_mem_nil, false_implies, implies_true, and_true]
  exact ⟨rounds_83_3 N, rounds_83_6 N⟩)
theorem grun_83 {R : Type} (m_83_6 : Tl_83_6 R) (m_83_3 : Tl_83_3 R) (x : aden ap_83 × hden hp_83) (k : KF R) : fnrun TT (EG_83) (drawAny TT WW) (LG_83 m_83_6 m_83_3) false Try.f83 (instA ap_83 x.1) (instH hp_83 x.2) k = Q_83 m_83_6 m_83_3 x (fun y => k (Pat.inst (.sl 0) y.1) (instH J10 y.2)) := by kernel_rfl
theorem run_83 {R : Type} (N : Nat) (x : aden ap_83 × hden hp_83) (k : KF R) : fnrun TT (E_83 (R := R) N) (drawAny TT WW) (L_83 N) false Try.f83 (instA ap_83 x.1) (instH hp_83 x.2) k = p_83 N x (fun y => k (Pat.inst (.sl 0) y.1) (instH J10 y.2)) := (grun_83 (l_83_6 N N) (l_83_3 N N) x k).trans (by kernel_rfl)
theorem good_83 {R : Type} (N : Nat) : GD (X := R) Try.prog QQ AA 83 ap_83 hp_83 (fun (x : aden ap_83 × hden hp_83) k => p_83 N x (fun y => k (Pat.inst (.sl 0) y.1) (instH J10 y.2))) :=
  gd_loud (E := E_83 N) (p := fun (x : aden ap_83 × hden hp_83) k => p_83 N x (fun y => k (Pat.inst (.sl 0) y.1) (instH J10 y.2))) mixed tyok (eok_83 N) Try.func83 (by kernel_rfl) (by kernel_rfl) (by kernel_rfl) (by kernel_rfl) (lok_83 N) (fun x k => run_83 N x k)

def ap_81_v1 : List Pat := [.ptr 0 []]
def hp_81_v1 : List (Option (Pat × Nat)) := [some (Z6, 178)]
abbrev Tp_81_v1 (R : Type) : Type := (Unit × Unit) × (Y6 × Unit) → ((ByteArray × (Y6 × Unit)) → Option R) → Option R
def Q_81_v1 {R : Type} (q_100 : Tp_100 R) (q_99 : Tp_99 R) (q_83 : Tp_83 R) (x : (Unit × Unit) × (Y6 × Unit)) (κ0 : (ByteArray × (Y6 × Unit)) → Option R) : Option R :=
let a2062 := x.2.1.2.1
let i2063 := x.2.1.2.2.1
let i2064 := x.2.1.2.2.2.1
q_100 (((), ()), ()) (fun y2065 =>
let i2066 : Int := IntKind.wrap .u64 0
let i2067 : Int := addA .u64 i2064 i2066
let i2068 : Int := subA .i64 128 0
bif decide (0 ≤ i2068) then (
bif decide (i2068 ≤ 140737488355328) then (
bif decide (List.length (List.replicate ((Int.toNat i2068)) (Sch.zero (.int .u8))) * 1 ≤ 140737488355328) then (
let l2069 : (List Int) := List.replicate ((Int.toNat i2068)) (Sch.zero (.int .u8))
q_99 ((a2062, l2069, i2067, true, ()), ()) (fun y2070 =>
let a2071 := y2070.1
q_83 ((((List.range 8).map fun j => a2071 (0 + j)), ()), ()) (fun y2103 =>
let l2104 := y2103.2.1
bif decide (0 ≤ i2063) then (
bif decide (i2063 ≤ (((List.length l2104) : Nat) : Int)) then (
bif decide (0 ≤ i2063) then (
let l2105 : (List Int) := List.take ((Int.toNat i2063) - 0) (List.drop 0 l2104)
let s2106 : ByteArray := listStr l2105
κ0 (s2106, x.2)) else none) else none) else none))) else none) else none) else none)
def p_81_v1 {R : Type} (N : Nat) (x : (Unit × Unit) × (Y6 × Unit)) (κ0 : (ByteArray × (Y6 × Unit)) → Option R) : Option R := Q_81_v1 (p_100 N) (p_99 N) (p_83 N) x κ0
def EG_81_v1 {R : Type} (q_100 : Tp_100 R) (q_99 : Tp_99 R) (q_83 : Tp_83 R) : Env R := (((Env.base QQ LN AA).add 100 ap_100 hp_100 (fun (x : aden ap_100 × hden hp_100) k => q_100 x (fun y => k (Pat.inst (.nils) y.1) (instH [] y.2)))).add 99 ap_99 hp_99 (fun (x : aden ap_99 × hden hp_99) k => q_99 x (fun y => k (Pat.inst (.tup (.fcons (.vec (.int .u64) 8) (.fcons (.int .i64) (.fnil)))) y) (instH hp_99 x.2)))).add 83 ap_83 hp_83 (fun (x : aden ap_83 × hden hp_83) k => q_83 x (fun y => k (Pat.inst (.sl 0) y.1) (instH J10 y.2)))
def LG_81_v1 {R : Type} : Loops R := Loops.none
def E_81_v1 {R : Type} (N : Nat) : Env R := EG_81_v1 (p_100 N) (p_99 N) (p_83 N)
theorem eok_81_v1 {R : Type} (N : Nat) : EK Try.prog (E_81_v1 (R := R) N) := ek_add (ek_add (ek_add (ek_base _ _ _) (good_100 N)) (good_99 N)) (good_83 N)
def L_81_v1 {R : Type} (N : Nat) : Loops R := LG_81_v1
theorem lok_81_v1 {R : Type} (N : Nat) : LOK 1 TT (E_81_v1 (R := R) N) (drawAny TT WW) (L_81_v1 N) (bodyOf Try.f81) := loops_nil (by kernel_rfl)
theorem grun_81_v1 {R : Type} (q_100 : Tp_100 R) (q_99 : Tp_99 R) (q_83 : Tp_83 R) (x : aden ap_81_v1 × hden hp_81_v1) (k : KF R) : fnrun TT (EG_81_v1 q_100 q_99 q_83) (drawAny TT WW) (LG_81_v1) true Try.f81 (instA ap_81_v1 x.1) (instH hp_81_v1 x.2) k = Q_81_v1 q_100 q_99 q_83 x (fun y => k (Pat.inst (.str) y.1) (instH [some (Z6, 178)] y.2)) := by kernel_rfl
theorem run_81_v1 {R : Type} (N : Nat) (x : aden ap_81_v1 × hden hp_81_v1) (k : KF R) : fnrun TT (E_81_v1 (R := R) N) (drawAny TT WW) (L_81_v1 N) true Try.f81 (instA ap_81_v1 x.1) (instH hp_81_v1 x.2) k = p_81_v1 N x (fun y => k (Pat.inst (.str) y.1) (instH [some (Z6, 178)] y.2)) := (grun_81_v1 (p_100 N) (p_99 N) (p_83 N) x k).trans (by kernel_rfl)
theorem good_81_v1 {R : Type} (N : Nat) : GD (X := R) Try.prog QQ AA 81 ap_81_v1 hp_81_v1 (fun (x : aden ap_81_v1 × hden hp_81_v1) k => p_81_v1 N x (fun y => k (Pat.inst (.str) y.1) (instH [some (Z6, 178)] y.2))) :=
  gd_loud (E := E_81_v1 N) (p := fun (x : aden ap_81_v1 × hden hp_81_v1) k => p_81_v1 N x (fun y => k (Pat.inst (.str) y.1) (instH [some (Z6, 178)] y.2))) mixed tyok (eok_81_v1 N) Try.func81 (by kernel_rfl) (by kernel_rfl) (by kernel_rfl) (by kernel_rfl) (lok_81_v1 N) (fun x k => run_81_v1 N x k)

def ap_100_v1 : List Pat := [.ptr 0 []]
def hp_100_v1 : List (Option (Pat × Nat)) := [some (Z8, 189), some (.lst (.int .u8), 5)]
abbrev Tp_100_v1 (R : Type) : Type := (Unit × Unit) × (Y4 × (List Int) × Unit) → ((Unit × (Y4 × (List Int) × (List Int) × Unit)) → Option R) → Option R
def Q_100_v1 {R : Type} (x : (Unit × Unit) × (Y4 × (List Int) × Unit)) (κ0 : (Unit × (Y4 × (List Int) × (List Int) × Unit)) → Option R) : Option R :=
let l2140 := x.2.2.1
bif decide (List.length l2140 * 1 ≤ 140737488355328) then (
κ0 ((), (x.2.1, l2140, l2140, ()))) else none
def p_100_v1 {R : Type} (N : Nat) (x : (Unit × Unit) × (Y4 × (List Int) × Unit)) (κ0 : (Unit × (Y4 × (List Int) × (List Int) × Unit)) → Option R) : Option R := Q_100_v1 x κ0
def EG_100_v1 {R : Type} : Env R := Env.base QQ LN AA
def LG_100_v1 {R : Type} : Loops R := Loops.none
def E_100_v1 {R : Type} (N : Nat) : Env R := EG_100_v1
theorem eok_100_v1 {R : Type} (N : Nat) : EK Try.prog (E_100_v1 (R := R) N) := ek_base _ _ _
def L_100_v1 {R : Type} (N : Nat) : Loops R := LG_100_v1
theorem lok_100_v1 {R : Type} (N : Nat) : LOK 2 TT (E_100_v1 (R := R) N) (drawAny TT WW) (L_100_v1 N) (bodyOf Try.f100) := loops_nil (by kernel_rfl)
theorem grun_100_v1 {R : Type} (x : aden ap_100_v1 × hden hp_100_v1) (k : KF R) : fnrun TT (EG_100_v1) (drawAny TT WW) (LG_100_v1) false Try.f100 (instA ap_100_v1 x.1) (instH hp_100_v1 x.2) k = Q_100_v1 x (fun y => k (Pat.inst (.sl 2) y.1) (instH [some (Z8, 189), some (.lst (.int .u8), 5), some (.lst (.int .u8), 5)] y.2)) := by kernel_rfl
theorem run_100_v1 {R : Type} (N : Nat) (x : aden ap_100_v1 × hden hp_100_v1) (k : KF R) : fnrun TT (E_100_v1 (R := R) N) (drawAny TT WW) (L_100_v1 N) false Try.f100 (instA ap_100_v1 x.1) (instH hp_100_v1 x.2) k = p_100_v1 N x (fun y => k (Pat.inst (.sl 2) y.1) (instH [some (Z8, 189), some (.lst (.int .u8), 5), some (.lst (.int .u8), 5)] y.2)) := (grun_100_v1 x k).trans (by kernel_rfl)
theorem good_100_v1 {R : Type} (N : Nat) : GD (X := R) Try.prog QQ AA 100 ap_100_v1 hp_100_v1 (fun (x : aden ap_100_v1 × hden hp_100_v1) k => p_100_v1 N x (fun y => k (Pat.inst (.sl 2) y.1) (instH [some (Z8, 189), some (.lst (.int .u8), 5), some (.lst (.int .u8), 5)] y.2))) :=
  gd_loud (E := E_100_v1 N) (p := fun (x : aden ap_100_v1 × hden hp_100_v1) k => p_100_v1 N x (fun y => k (Pat.inst (.sl 2) y.1) (instH [some (Z8, 189), some (.lst (.int .u8), 5), some (.lst (.int .u8), 5)] y.2))) mixed tyok (eok_100_v1 N) Try.func100 (by kernel_rfl) (by kernel_rfl) (by kernel_rfl) (by kernel_rfl) (lok_100_v1 N) (fun x k => run_100_v1 N x k)

def ap_81_v2 : List Pat := [.ptr 0 []]
def hp_81_v2 : List (Option (Pat × Nat)) := J6
abbrev Tp_81_v2 (R : Type) : Type := (Unit × Unit) × (Y6 × Y4 × (List Int) × Unit) → ((ByteArray × (Y6 × Y4 × (List Int) × Unit)) → Option R) → Option R
def Q_81_v2 {R : Type} (q_100_v1 : Tp_100_v1 R) (q_99 : Tp_99 R) (q_83 : Tp_83 R) (x : (Unit × Unit) × (Y6 × Y4 × (List Int) × Unit)) (κ0 : (ByteArray × (Y6 × Y4 × (List Int) × Unit)) → Option R) : Option R :=
let a2130 := x.2.1.2.1
let i2131 := x.2.1.2.2.1
let i2132 := x.2.1.2.2.2.1
let l2136 := x.2.2.2.1
q_100_v1 (((), ()), (x.2.2.1, l2136, ())) (fun y2141 =>
let l2145 := y2141.2.2.1
let l2146 := y2141.2.2.2.1
let i2147 : Int := (((List.length l2146) : Nat) : Int)
let i2148 : Int := IntKind.wrap .u64 i2147
let i2149 : Int := addA .u64 i2132 i2148
let i2150 : Int := (((List.length l2146) : Nat) : Int)
let i2151 : Int := subA .i64 128 i2150
bif decide (0 ≤ i2151) then (
bif decide (i2151 ≤ 140737488355328) then (
bif (decide ((List.length l2146 + List.length (List.replicate ((Int.toNat i2151)) (Sch.zero (.int .u8)))) * 1 ≤ 140737488355328) && true) then (
let l2152 : (List Int) := (l2146 ++ List.replicate ((Int.toNat i2151)) (Sch.zero (.int .u8)))
q_99 ((a2130, l2152, i2149, true, ()), ()) (fun y2153 =>
let a2154 := y2153.1
q_83 ((((List.range 8).map fun j => a2154 (0 + j)), ()), ()) (fun y2156 =>
let l2157 := y2156.2.1
bif decide (0 ≤ i2131) then (
bif decide (i2131 ≤ (((List.length l2157) : Nat) : Int)) then (
bif decide (0 ≤ i2131) then (
let l2158 : (List Int) := List.take ((Int.toNat i2131) - 0) (List.drop 0 l2157)
let s2159 : ByteArray := listStr l2158
κ0 (s2159, (x.2.1, y2141.2.1, l2145, ()))) else none) else none) else none))) else none) else none) else none)
def p_81_v2 {R : Type} (N : Nat) (x : (Unit × Unit) × (Y6 × Y4 × (List Int) × Unit)) (κ0 : (ByteArray × (Y6 × Y4 × (List Int) × Unit)) → Option R) : Option R := Q_81_v2 (p_100_v1 N) (p_99 N) (p_83 N) x κ0
def EG_81_v2 {R : Type} (q_100_v1 : Tp_100_v1 R) (q_99 : Tp_99 R) (q_83 : Tp_83 R) : Env R := (((Env.base QQ LN AA).add 100 ap_100_v1 hp_100_v1 (fun (x : aden ap_100_v1 × hden hp_100_v1) k => q_100_v1 x (fun y => k (Pat.inst (.sl 2) y.1) (instH [some (Z8, 189), some (.lst (.int .u8), 5), some (.lst (.int .u8), 5)] y.2)))).add 99 ap_99 hp_99 (fun (x : aden ap_99 × hden hp_99) k => q_99 x (fun y => k (Pat.inst (.tup (.fcons (.vec (.int .u64) 8) (.fcons (.int .i64) (.fnil)))) y) (instH hp_99 x.2)))).add 83 ap_83 hp_83 (fun (x : aden ap_83 × hden hp_83) k => q_83 x (fun y => k (Pat.inst (.sl 0) y.1) (instH J10 y.2)))
def LG_81_v2 {R : Type} : Loops R := Loops.none
def E_81_v2 {R : Type} (N : Nat) : Env R := EG_81_v2 (p_100_v1 N) (p_99 N) (p_83 N)
theorem eok_81_v2 {R : Type} (N : Nat) : EK Try.prog (E_81_v2 (R := R) N) := ek_add (ek_add (ek_add (ek_base _ _ _) (good_100_v1 N)) (good_99 N)) (good_83 N)
def L_81_v2 {R : Type} (N : Nat) : Loops R := LG_81_v2
theorem lok_81_v2 {R : Type} (N : Nat) : LOK 3 TT (E_81_v2 (R := R) N) (drawAny TT WW) (L_81_v2 N) (bodyOf Try.f81) := loops_nil (by kernel_rfl)
theorem grun_81_v2 {R : Type} (q_100_v1 : Tp_100_v1 R) (q_99 : Tp_99 R) (q_83 : Tp_83 R) (x : aden ap_81_v2 × hden hp_81_v2) (k : KF R) : fnrun TT (EG_81_v2 q_100_v1 q_99 q_83) (drawAny TT WW) (LG_81_v2) true Try.f81 (instA ap_81_v2 x.1) (instH hp_81_v2 x.2) k = Q_81_v2 q_100_v1 q_99 q_83 x (fun y => k (Pat.inst (.str) y.1) (instH J6 y.2)) := by kernel_rfl
theorem run_81_v2 {R : Type} (N : Nat) (x : aden ap_81_v2 × hden hp_81_v2) (k : KF R) : fnrun TT (E_81_v2 (R := R) N) (drawAny TT WW) (L_81_v2 N) true Try.f81 (instA ap_81_v2 x.1) (instH hp_81_v2 x.2) k = p_81_v2 N x (fun y => k (Pat.inst (.str) y.1) (instH J6 y.2)) := (grun_81_v2 (p_100_v1 N) (p_99 N) (p_83 N) x k).trans (by kernel_rfl)
theorem good_81_v2 {R : Type} (N : Nat) : GD (X := R) Try.prog QQ AA 81 ap_81_v2 hp_81_v2 (fun (x : aden ap_81_v2 × hden hp_81_v2) k => p_81_v2 N x (fun y => k (Pat.inst (.str) y.1) (instH J6 y.2))) :=
  gd_loud (E := E_81_v2 N) (p := fun (x : aden ap_81_v2 × hden hp_81_v2) k => p_81_v2 N x (fun y => k (Pat.inst (.str) y.1) (instH J6 y.2))) mixed tyok (eok_81_v2 N) Try.func81 (by kernel_rfl) (by kernel_rfl) (by kernel_rfl) (by kernel_rfl) (lok_81_v2 N) (fun x k => run_81_v2 N x k)

def ap_82 : List Pat := [.int .i64, .str, .sl 0]
def hp_82 : List (Option (Pat × Nat)) := [some (.lst (.str), 9)]
abbrev Tp_82 (R : Type) : Type := (Int × ByteArray × Unit × Unit) × Y23 → (((ByteArray × (Int × Unit)) × Y23) → Option R) → Option R
def Q_82 {R : Type} (q_79 : Tp_79 R) (q_80_v2 : Tp_80_v2 R) (q_81 : Tp_81 R) (q_80 : Tp_80 R) (q_81_v1 : Tp_81_v1 R) (q_80_v1 : Tp_80_v1 R) (q_81_v2 : Tp_81_v2 R) (x : (Int × ByteArray × Unit × Unit) × Y23) (κ0 : ((ByteArray × (Int × Unit)) × Y23) → Option R) : Option R :=
let i2043 := x.1.1
let s2044 := x.1.2.1
let l2045 := x.2.1
q_79 ((i2043, s2044, ()), ()) (fun y2046 =>
let i2047 := y2046.1.2.1
bif (i2047 != 0) then (
κ0 ((⟨#[]⟩, y2046.1.2), x.2)) else (
q_80_v2 (((), (), ()), x.2) (fun y2048 =>
q_81 (((), ()), ()) (fun y2050 =>
let s2051 := y2050.1
κ0 ((s2051, (0, ())), y2048.2))))) (fun y2052 =>
let i2053 := y2052.1.2.1
bif (i2053 != 0) then (
κ0 ((⟨#[]⟩, y2052.1.2), x.2)) else (
q_80 (((), (), ()), (y2052.2.1, l2045, ())) (fun y2057 =>
q_81_v1 (((), ()), (y2057.2.1, ())) (fun y2107 =>
let s2108 := y2107.1
κ0 ((s2108, (0, ())), y2057.2.2))))) (fun y2112 =>
let i2113 := y2112.1.2.1
let l2120 := y2112.2.2.2.1
bif (i2113 != 0) then (
κ0 ((⟨#[]⟩, y2112.1.2), x.2)) else (
q_80_v1 (((), (), ()), (y2112.2.1, y2112.2.2.1, l2120, l2045, ())) (fun y2121 =>
let l2128 := y2121.2.2.2.1
let l2129 := y2121.2.2.2.2.1
q_81_v2 (((), ()), (y2121.2.1, y2121.2.2.1, l2129, ())) (fun y2160 =>
let s2161 := y2160.1
κ0 ((s2161, (0, ())), (l2128, ()))))))
def p_82 {R : Type} (N : Nat) (x : (Int × ByteArray × Unit × Unit) × Y23) (κ0 : ((ByteArray × (Int × Unit)) × Y23) → Option R) : Option R := Q_82 (p_79 N) (p_80_v2 N) (p_81 N) (p_80 N) (p_81_v1 N) (p_80_v1 N) (p_81_v2 N) x κ0
def EG_82 {R : Type} (q_79 : Tp_79 R) (q_80_v2 : Tp_80_v2 R) (q_81 : Tp_81 R) (q_80 : Tp_80 R) (q_81_v1 : Tp_81_v1 R) (q_80_v1 : Tp_80_v1 R) (q_81_v2 : Tp_81_v2 R) : Env R := (((((((Env.base QQ LN AA).add 79 ap_79 hp_79 (fun (x : aden ap_79 × hden hp_79) k => q_79 x (fun y => k (Pat.inst (.tup (.fcons (.nilp) (.fcons (.int .i64) (.fnil)))) y.1) (instH [] y.2)) (fun y => k (Pat.inst (.tup (.fcons (.ptr 0 []) (.fcons (.int .i64) (.fnil)))) y.1) (instH [some (Z6, 178)] y.2)) (fun y => k (Pat.inst (.tup (.fcons (.ptr 0 []) (.fcons (.int .i64) (.fnil)))) y.1) (instH J6 y.2)))).add 80 ap_80_v2 hp_80_v2 (fun (x : aden ap_80_v2 × hden hp_80_v2) k => q_80_v2 x (fun y => k (Pat.inst (.nilp) y.1) (instH [some (.lst (.str), 9)] y.2)))).add 81 ap_81 hp_81 (fun (x : aden ap_81 × hden hp_81) k => q_81 x (fun y => k (Pat.inst (.str) y.1) (instH [] y.2)))).add 80 ap_80 hp_80 (fun (x : aden ap_80 × hden hp_80) k => q_80 x (fun y => k (Pat.inst (.ptr 0 []) y.1) (instH J11 y.2)))).add 81 ap_81_v1 hp_81_v1 (fun (x : aden ap_81_v1 × hden hp_81_v1) k => q_81_v1 x (fun y => k (Pat.inst (.str) y.1) (instH [some (Z6, 178)] y.2)))).add 80 ap_80_v1 hp_80_v1 (fun (x : aden ap_80_v1 × hden hp_80_v1) k => q_80_v1 x (fun y => k (Pat.inst (.ptr 0 []) y.1) (instH J7 y.2)))).add 81 ap_81_v2 hp_81_v2 (fun (x : aden ap_81_v2 × hden hp_81_v2) k => q_81_v2 x (fun y => k (Pat.inst (.str) y.1) (instH J6 y.2)))
def LG_82 {R : Type} : Loops R := Loops.none
def E_82 {R : Type} (N : Nat) : Env R := EG_82 (p_79 N) (p_80_v2 N) (p_81 N) (p_80 N) (p_81_v1 N) (p_80_v1 N) (p_81_v2 N)
theorem eok_82 {R : Type} (N : Nat) : EK Try.prog (E_82 (R := R) N) := ek_add (ek_add (ek_add (ek_add (ek_add (ek_add (ek_add (ek_base _ _ _) (good_79 N)) (good_80_v2 N)) (good_81 N)) (good_80 N)) (good_81_v1 N)) (good_80_v1 N)) (good_81_v2 N)
def L_82 {R : Type} (N : Nat) : Loops R := LG_82
theorem lok_82 {R : Type} (N : Nat) : LOK 1 TT (E_82 (R := R) N) (drawAny TT WW) (L_82 N) (bodyOf Try.f82) := loops_nil (by kernel_rfl)
theorem grun_82 {R : Type} (q_79 : Tp_79 R) (q_80_v2 : Tp_80_v2 R) (q_81 : Tp_81 R) (q_80 : Tp_80 R) (q_81_v1 : Tp_81_v1 R) (q_80_v1 : Tp_80_v1 R) (q_81_v2 : Tp_81_v2 R) (x : aden ap_82 × hden hp_82) (k : KF R) : fnrun TT (EG_82 q_79 q_80_v2 q_81 q_80 q_81_v1 q_80_v1 q_81_v2) (drawAny TT WW) (LG_82) true Try.f82 (instA ap_82 x.1) (instH hp_82 x.2) k = Q_82 q_79 q_80_v2 q_81 q_80 q_81_v1 q_80_v1 q_81_v2 x (fun y => k (Pat.inst (.tup (.fcons (.str) (.fcons (.int .i64) (.fnil)))) y.1) (instH [some (.lst (.str), 9)] y.2)) := by kernel_rfl
theorem run_82 {R : Type} (N : Nat) (x : aden ap_82 × hden hp_82) (k : KF R) : fnrun TT (E_82 (R := R) N) (drawAny TT WW) (L_82 N) true Try.f82 (instA ap_82 x.1) (instH hp_82 x.2) k = p_82 N x (fun y => k (Pat.inst (.tup (.fcons (.str) (.fcons (.int .i64) (.fnil)))) y.1) (instH [some (.lst (.str), 9)] y.2)) := (grun_82 (p_79 N) (p_80_v2 N) (p_81 N) (p_80 N) (p_81_v1 N) (p_80_v1 N) (p_81_v2 N) x k).trans (by kernel_rfl)
theorem good_82 {R : Type} (N : Nat) : GD (X := R) Try.prog QQ AA 82 ap_82 hp_82 (fun (x : aden ap_82 × hden hp_82) k => p_82 N x (fun y => k (Pat.inst (.tup (.fcons (.str) (.fcons (.int .i64) (.fnil)))) y.1) (instH [some (.lst (.str), 9)] y.2))) :=
  gd_loud (E := E_82 N) (p := fun (x : aden ap_82 × hden hp_82) k => p_82 N x (fun y => k (Pat.inst (.tup (.fcons (.str) (.fcons (.int .i64) (.fnil)))) y.1) (instH [some (.lst (.str), 9)] y.2))) mixed tyok (eok_82 N) Try.func82 (by kernel_rfl) (by kernel_rfl) (by kernel_rfl) (by kernel_rfl) (lok_82 N) (fun x k => run_82 N x k)

def lv_49_8 : Live := [(0, none), (8, none), (9, none)]
def pt_49_8 : SPat := ⟨[(0, .int .i64), (8, .str), (9, .sl 1)], [some (.lst (.str), 9), some (.lst (.int .u8), 5)]⟩
def px_49_8_0 : SPat := ⟨[(0, .int .i64), (8, .str), (9, .sl 1)], [some (.lst (.str), 9), some (.lst (.int .u8), 5)]⟩
def lo_49_8 : Exit → Live
  | .exit 0 => [(0, none), (8, none), (9, none)]
  | _ => []
def ap_49 : List Pat := [.int .i64, .sl 0]
def hp_49 : List (Option (Pat × Nat)) := [some (.lst (.str), 9)]
abbrev Tl_49_8 (R : Type) : Type := Y26 → (Y26 → Option R) → Option R
abbrev Tp_49 (R : Type) : Type := (Int × Unit × Unit) × Y23 → (((ByteArray × (Int × Unit)) × Y23) → Option R) → Option R
def C_49_8 {R : Type} (q_82 : Tp_82 R) (rec : Y26 → Option R) (x : Y26) (κ0 : Y26 → Option R) : Option R :=
let i2290 := x.1.1
let s2291 := x.1.2.1
let l2292 := x.2.1
let l2293 := x.2.2.1
let i2294 : Int := (((List.length l2293) : Nat) : Int)
let i2295 : Int := subA .i64 i2290 i2294
bif (decide (i2295 > 64)) then (
let l2296 : (List ByteArray) := [s2291]
q_82 ((64, ⟨#[]⟩, (), ()), (l2296, ())) (fun y2297 =>
let s2298 := y2297.1.1
bif decide (32 ≤ ((ByteArray.size s2298 : Nat) : Int)) then (
let s2301 : ByteArray := ByteArray.extract s2298 0 32
bif (decide ((List.length l2293 + List.length (strList s2301)) * 1 ≤ 140737488355328) && true) then (
let l2302 : (List Int) := (l2293 ++ strList s2301)
rec ((i2290, s2298, (), ()), (l2292, l2302, ()))) else none) else none)) else (
κ0 ((i2290, s2291, (), ()), (l2292, l2293, ())))
def B_49_8 {R : Type} (N : Nat) (rec : Y26 → Option R) (x : Y26) (κ0 : Y26 → Option R) : Option R := C_49_8 (p_82 N) rec x κ0
def l_49_8 {R : Type} (N : Nat) : Nat → Y26 → (Y26 → Option R) → Option R
  | 0, _, _ => none
  | n + 1, x, κ0 => B_49_8 N (fun y => l_49_8 N n y κ0) x κ0
def Q_49 {R : Type} (q_79 : Tp_79 R) (q_53 : Tp_53 R) (q_80_v2 : Tp_80_v2 R) (q_81 : Tp_81 R) (q_82 : Tp_82 R) (q_80 : Tp_80 R) (q_81_v1 : Tp_81_v1 R) (q_80_v1 : Tp_80_v1 R) (q_81_v2 : Tp_81_v2 R) (m_49_8 : Tl_49_8 R) (x : (Int × Unit × Unit) × Y23) (κ0 : ((ByteArray × (Int × Unit)) × Y23) → Option R) : Option R :=
let i1027 := x.1.1
let l1028 := x.2.1
bif (decide (i1027 < 1)) then (
κ0 ((⟨#[]⟩, (1, ())), x.2)) else (
bif (decide (i1027 > 65536)) then (
κ0 ((⟨#[]⟩, (1, ())), x.2)) else (
let i1029 : Int := minA i1027 64
q_79 ((i1029, ⟨#[]⟩, ()), ()) (fun y2018 =>
let i2020 : Int := IntKind.wrap .u32 i1027
let l2021 : (List Int) := [i2020]
q_53 (((), ()), (l2021, ())) (fun y2022 =>
let l2023 := y2022.1
let s2025 : ByteArray := listStr l2023
let l2026 : (List ByteArray) := [s2025]
q_80_v2 (((), (), ()), (l2026, ())) (fun y2028 =>
q_80_v2 (((), (), ()), x.2) (fun y2030 =>
let l2031 := y2030.2.1
q_81 (((), ()), ()) (fun y2032 =>
let s2033 := y2032.1
bif (decide (i1027 ≤ 64)) then (
κ0 ((s2033, (0, ())), y2030.2)) else (
bif decide (32 ≤ ((ByteArray.size s2033 : Nat) : Int)) then (
let s2034 : ByteArray := ByteArray.extract s2033 0 32
bif decide (ByteArray.size s2034 ≤ maxI64) then (
let l2035 : (List Int) := strList s2034
m_49_8 ((i1027, s2033, (), ()), (l2031, l2035, ())) (fun y2175 =>
let i2176 := y2175.1.1
let s2177 := y2175.1.2.1
let l2178 := y2175.2.1
let l2179 := y2175.2.2.1
let i2180 : Int := (((List.length l2179) : Nat) : Int)
let i2181 : Int := subA .i64 i2176 i2180
let l2182 : (List ByteArray) := [s2177]
q_82 ((i2181, ⟨#[]⟩, (), ()), (l2182, ())) (fun y2183 =>
let s2184 := y2183.1.1
bif (decide ((List.length l2179 + List.length (strList s2184)) * 1 ≤ 140737488355328) && true) then (
let l2187 : (List Int) := (l2179 ++ strList s2184)
let s2188 : ByteArray := listStr l2187
κ0 ((s2188, (0, ())), (l2178, ()))) else none))) else none) else none)))))) (fun y2189 =>
let i2194 : Int := IntKind.wrap .u32 i1027
let l2195 : (List Int) := [i2194]
q_53 (((), ()), (l2195, ())) (fun y2196 =>
let l2197 := y2196.1
let s2199 : ByteArray := listStr l2197
let l2200 : (List ByteArray) := [s2199]
q_80 (((), (), ()), (y2189.2.1, l2200, ())) (fun y2201 =>
q_80 (((), (), ()), (y2201.2.1, l1028, ())) (fun y2206 =>
let l2210 := y2206.2.2.1
q_81_v1 (((), ()), (y2206.2.1, ())) (fun y2211 =>
let s2212 := y2211.1
bif (decide (i1027 ≤ 64)) then (
κ0 ((s2212, (0, ())), y2206.2.2)) else (
bif decide (32 ≤ ((ByteArray.size s2212 : Nat) : Int)) then (
let s2216 : ByteArray := ByteArray.extract s2212 0 32
bif decide (ByteArray.size s2216 ≤ maxI64) then (
let l2217 : (List Int) := strList s2216
m_49_8 ((i1027, s2212, (), ()), (l2210, l2217, ())) (fun y2231 =>
let i2232 := y2231.1.1
let s2233 := y2231.1.2.1
let l2234 := y2231.2.1
let l2235 := y2231.2.2.1
let i2236 : Int := (((List.length l2235) : Nat) : Int)
let i2237 : Int := subA .i64 i2232 i2236
let l2238 : (List ByteArray) := [s2233]
q_82 ((i2237, ⟨#[]⟩, (), ()), (l2238, ())) (fun y2239 =>
let s2240 := y2239.1.1
bif (decide ((List.length l2235 + List.length (strList s2240)) * 1 ≤ 140737488355328) && true) then (
let l2243 : (List Int) := (l2235 ++ strList s2240)
let s2244 : ByteArray := listStr l2243
κ0 ((s2244, (0, ())), (l2234, ()))) else none))) else none) else none)))))) (fun y2245 =>
let l2253 := y2245.2.2.2.1
let i2254 : Int := IntKind.wrap .u32 i1027
let l2255 : (List Int) := [i2254]
q_53 (((), ()), (l2255, ())) (fun y2256 =>
let l2257 := y2256.1
let s2259 : ByteArray := listStr l2257
let l2260 : (List ByteArray) := [s2259]
q_80_v1 (((), (), ()), (y2245.2.1, y2245.2.2.1, l2253, l2260, ())) (fun y2261 =>
let l2269 := y2261.2.2.2.2.1
q_80_v1 (((), (), ()), (y2261.2.1, y2261.2.2.1, l2269, l1028, ())) (fun y2270 =>
let l2277 := y2270.2.2.2.1
let l2278 := y2270.2.2.2.2.1
q_81_v2 (((), ()), (y2270.2.1, y2270.2.2.1, l2278, ())) (fun y2279 =>
let s2280 := y2279.1
bif (decide (i1027 ≤ 64)) then (
κ0 ((s2280, (0, ())), (l2277, ()))) else (
bif decide (32 ≤ ((ByteArray.size s2280 : Nat) : Int)) then (
let s2288 : ByteArray := ByteArray.extract s2280 0 32
bif decide (ByteArray.size s2288 ≤ maxI64) then (
let l2289 : (List Int) := strList s2288
m_49_8 ((i1027, s2280, (), ()), (l2277, l2289, ())) (fun y2303 =>
let i2304 := y2303.1.1
let s2305 := y2303.1.2.1
let l2306 := y2303.2.1
let l2307 := y2303.2.2.1
let i2308 : Int := (((List.length l2307) : Nat) : Int)
let i2309 : Int := subA .i64 i2304 i2308
let l2310 : (List ByteArray) := [s2305]
q_82 ((i2309, ⟨#[]⟩, (), ()), (l2310, ())) (fun y2311 =>
let s2312 := y2311.1.1
bif (decide ((List.length l2307 + List.length (strList s2312)) * 1 ≤ 140737488355328) && true) then (
let l2315 : (List Int) := (l2307 ++ strList s2312)
let s2316 : ByteArray := listStr l2315
κ0 ((s2316, (0, ())), (l2306, ()))) else none))) else none) else none))))))))
def p_49 {R : Type} (N : Nat) (x : (Int × Unit × Unit) × Y23) (κ0 : ((ByteArray × (Int × Unit)) × Y23) → Option R) : Option R := Q_49 (p_79 N) (p_53 N) (p_80_v2 N) (p_81 N) (p_82 N) (p_80 N) (p_81_v1 N) (p_80_v1 N) (p_81_v2 N) (l_49_8 N N) x κ0
def EG_49 {R : Type} (q_79 : Tp_79 R) (q_53 : Tp_53 R) (q_80_v2 : Tp_80_v2 R) (q_81 : Tp_81 R) (q_82 : Tp_82 R) (q_80 : Tp_80 R) (q_81_v1 : Tp_81_v1 R) (q_80_v1 : Tp_80_v1 R) (q_81_v2 : Tp_81_v2 R) : Env R := (((((((((Env.base QQ LN AA).add 79 ap_79 hp_79 (fun (x : aden ap_79 × hden hp_79) k => q_79 x (fun y => k (Pat.inst (.tup (.fcons (.nilp) (.fcons (.int .i64) (.fnil)))) y.1) (instH [] y.2)) (fun y => k (Pat.inst (.tup (.fcons (.ptr 0 []) (.fcons (.int .i64) (.fnil)))) y.1) (instH [some (Z6, 178)] y.2)) (fun y => k (Pat.inst (.tup (.fcons (.ptr 0 []) (.fcons (.int .i64) (.fnil)))) y.1) (instH J6 y.2)))).add 53 ap_53 hp_53 (fun (x : aden ap_53 × hden hp_53) k => q_53 x (fun y => k (Pat.inst (.ros (.int .u8)) y.1) (instH [some (.lst (.int .u32), 78)] y.2)))).add 80 ap_80_v2 hp_80_v2 (fun (x : aden ap_80_v2 × hden hp_80_v2) k => q_80_v2 x (fun y => k (Pat.inst (.nilp) y.1) (instH [some (.lst (.str), 9)] y.2)))).add 81 ap_81 hp_81 (fun (x : aden ap_81 × hden hp_81) k => q_81 x (fun y => k (Pat.inst (.str) y.1) (instH [] y.2)))).add 82 ap_82 hp_82 (fun (x : aden ap_82 × hden hp_82) k => q_82 x (fun y => k (Pat.inst (.tup (.fcons (.str) (.fcons (.int .i64) (.fnil)))) y.1) (instH [some (.lst (.str), 9)] y.2)))).add 80 ap_80 hp_80 (fun (x : aden ap_80 × hden hp_80) k => q_80 x (fun y => k (Pat.inst (.ptr 0 []) y.1) (instH J11 y.2)))).add 81 ap_81_v1 hp_81_v1 (fun (x : aden ap_81_v1 × hden hp_81_v1) k => q_81_v1 x (fun y => k (Pat.inst (.str) y.1) (instH [some (Z6, 178)] y.2)))).add 80 ap_80_v1 hp_80_v1 (fun (x : aden ap_80_v1 × hden hp_80_v1) k => q_80_v1 x (fun y => k (Pat.inst (.ptr 0 []) y.1) (instH J7 y.2)))).add 81 ap_81_v2 hp_81_v2 (fun (x : aden ap_81_v2 × hden hp_81_v2) k => q_81_v2 x (fun y => k (Pat.inst (.str) y.1) (instH J6 y.2)))
def LG_49 {R : Type} (m_49_8 : Tl_49_8 R) : Loops R := (Loops.none).add 8 (loopBy 1 lv_49_8 pt_49_8 (fun x k => m_49_8 x (fun y => k (.exit 0) (px_49_8_0.inst y))))
def E_49 {R : Type} (N : Nat) : Env R := EG_49 (p_79 N) (p_53 N) (p_80_v2 N) (p_81 N) (p_82 N) (p_80 N) (p_81_v1 N) (p_80_v1 N) (p_81_v2 N)
theorem eok_49 {R : Type} (N : Nat) : EK Try.prog (E_49 (R := R) N) := ek_add (ek_add (ek_add (ek_add (ek_add (ek_add (ek_add (ek_add (ek_add (ek_base _ _ _) (good_79 N)) (good_53 N)) (good_80_v2 N)) (good_81 N)) (good_82 N)) (good_80 N)) (good_81_v1 N)) (good_80_v1 N)) (good_81_v2 N)
def L_49 {R : Type} (N : Nat) : Loops R := LG_49 (l_49_8 N N)
theorem gstep_49_8 {R : Type} (q_79 : Tp_79 R) (q_53 : Tp_53 R) (q_80_v2 : Tp_80_v2 R) (q_81 : Tp_81 R) (q_82 : Tp_82 R) (q_80 : Tp_80 R) (q_81_v1 : Tp_81_v1 R) (q_80_v1 : Tp_80_v1 R) (q_81_v2 : Tp_81_v2 R) (m_49_8 : Tl_49_8 R) (n : Nat) (x : pt_49_8.den) (k : Exit → St → Option R) : iter 1 lv_49_8 lo_49_8 (aexec TT (EG_49 q_79 q_53 q_80_v2 q_81 q_82 q_80 q_81_v1 q_80_v1 q_81_v2) (drawAny TT WW) (LG_49 m_49_8) (loopAt 8 (bodyOf Try.f49))) (n + 1) (pt_49_8.inst x) k = C_49_8 q_82 (fun y => iter 1 lv_49_8 lo_49_8 (aexec TT (EG_49 q_79 q_53 q_80_v2 q_81 q_82 q_80 q_81_v1 q_80_v1 q_81_v2) (drawAny TT WW) (LG_49 m_49_8) (loopAt 8 (bodyOf Try.f49))) n (pt_49_8.inst y) k) x (fun y => k (.exit 0) (px_49_8_0.inst y)) := by kernel_rfl
theorem step_49_8 {R : Type} (N n : Nat) (x : pt_49_8.den) (k : Exit → St → Option R) : iter 1 lv_49_8 lo_49_8 (aexec TT (E_49 (R := R) N) (drawAny TT WW) (L_49 N) (loopAt 8 (bodyOf Try.f49))) (n + 1) (pt_49_8.inst x) k = B_49_8 N (fun y => iter 1 lv_49_8 lo_49_8 (aexec TT (E_49 (R := R) N) (drawAny TT WW) (L_49 N) (loopAt 8 (bodyOf Try.f49))) n (pt_49_8.inst y) k) x (fun y => k (.exit 0) (px_49_8_0.inst y)) := (gstep_49_8 (p_79 N) (p_53 N) (p_80_v2 N) (p_81 N) (p_82 N) (p_80 N) (p_81_v1 N) (p_80_v1 N) (p_81_v2 N) (l_49_8 N N) n x k).trans (by kernel_rfl)
theorem eq_49_8 {R : Type} (N : Nat) : ∀ (n : Nat) (x : pt_49_8.den) (k : Exit → St → Option R), iter 1 lv_49_8 lo_49_8 (aexec TT (E_49 (R := R) N) (drawAny TT WW) (L_49 N) (loopAt 8 (bodyOf Try.f49))) n (pt_49_8.inst x) k = l_49_8 N n x (fun y => k (.exit 0) (px_49_8_0.inst y)) :=
  iter_eq (K := Exit → St → Option R) (ks := fun k => k) (l := fun n (x : pt_49_8.den) k => l_49_8 N n x (fun y => k (.exit 0) (px_49_8_0.inst y))) (B := fun (rec : pt_49_8.den → Option R) (x : pt_49_8.den) k => B_49_8 N rec x (fun y => k (.exit 0) (px_49_8_0.inst y))) (fun _ _ => rfl) (fun _ _ _ => rfl) (fun n x k => step_49_8 N n x k)
theorem rounds_49_8 {R : Type} (N : Nat) : Rounds 1 TT (E_49 (R := R) N) (drawAny TT WW) (L_49 N) 8 (loopAt 8 (bodyOf Try.f49)) :=
  rounds_of (p := pt_49_8) (l := fun (x : pt_49_8.den) k => l_49_8 N N x (fun y => k (.exit 0) (px_49_8_0.inst y))) (fun s k => rfl) (fun x k => eq_49_8 N N x k)
theorem loops_49 : loopsIn (bodyOf Try.f49) = [(8, loopAt 8 (bodyOf Try.f49))] := by kernel_rfl
theorem lok_49 {R : Type} (N : Nat) : LOK 1 TT (E_49 (R := R) N) (drawAny TT WW) (L_49 N) (bodyOf Try.f49) := loops_all loops_49 (by
  simp only [List.forall_mem_cons, List.not_mem_nil, false_implies, implies_true, and_true]
  exact rounds_49_8 N)
theorem grun_49 {R : Type} (q_79 : Tp_79 R) (q_53 : Tp_53 R) (q_80_v2 : Tp_80_v2 R) (q_81 : Tp_81 R) (q_82 : Tp_82 R) (q_80 : Tp_80 R) (q_81_v1 : Tp_81_v1 R) (q_80_v1 : Tp_80_v1 R) (q_81_v2 : Tp_81_v2 R) (m_49_8 : Tl_49_8 R) (x : aden ap_49 × hden hp_49) (k : KF R) : fnrun TT (EG_49 q_79 q_53 q_80_v2 q_81 q_82 q_80 q_81_v1 q_80_v1 q_81_v2) (drawAny TT WW) (LG_49 m_49_8) true Try.f49 (instA ap_49 x.1) (instH hp_49 x.2) k = Q_49 q_79 q_53 q_80_v2 q_81 q_82 q_80 q_81_v1 q_80_v1 q_81_v2 m_49_8 x (fun y => k (Pat.inst (.tup (.fcons (.str) (.fcons (.int .i64) (.fnil)))) y.1) (instH [some (.lst (.str), 9)] y.2)) := by kernel_rfl
theorem run_49 {R : Type} (N : Nat) (x : aden ap_49 × hden hp_49) (k : KF R) : fnrun TT (E_49 (R := R) N) (drawAny TT WW) (L_49 N) true Try.f49 (instA ap_49 x.1) (instH hp_49 x.2) k = p_49 N x (fun y => k (Pat.inst (.tup (.fcons (.str) (.fcons (.int .i64) (.fnil)))) y.1) (instH [some (.lst (.str), 9)] y.2)) := (grun_49 (p_79 N) (p_53 N) (p_80_v2 N) (p_81 N) (p_82 N) (p_80 N) (p_81_v1 N) (p_80_v1 N) (p_81_v2 N) (l_49_8 N N) x k).trans (by kernel_rfl)
theorem good_49 {R : Type} (N : Nat) : GD (X := R) Try.prog QQ AA 49 ap_49 hp_49 (fun (x : aden ap_49 × hden hp_49) k => p_49 N x (fun y => k (Pat.inst (.tup (.fcons (.str) (.fcons (.int .i64) (.fnil)))) y.1) (instH [some (.lst (.str), 9)] y.2))) :=
  gd_loud (E := E_49 N) (p := fun (x : aden ap_49 × hden hp_49) k => p_49 N x (fun y => k (Pat.inst (.tup (.fcons (.str) (.fcons (.int .i64) (.fnil)))) y.1) (instH [some (.lst (.str), 9)] y.2))) mixed tyok (eok_49 N) Try.func49 (by kernel_rfl) (by kernel_rfl) (by kernel_rfl) (by kernel_rfl) (lok_49 N) (fun x k => run_49 N x k)

def ap_52 : List Pat := [.sl 0]
def hp_52 : List (Option (Pat × Nat)) := [some (.lst (.str), 9)]
abbrev Tp_52 (R : Type) : Type := (Unit × Unit) × Y23 → ((ByteArray × Y23) → Option R) → Option R
def Q_52 {R : Type} (q_49 : Tp_49 R) (x : (Unit × Unit) × Y23) (κ0 : (ByteArray × Y23) → Option R) : Option R :=
q_49 ((1024, (), ()), x.2) (fun y2317 =>
let s2318 := y2317.1.1
κ0 (s2318, y2317.2))
def p_52 {R : Type} (N : Nat) (x : (Unit × Unit) × Y23) (κ0 : (ByteArray × Y23) → Option R) : Option R := Q_52 (p_49 N) x κ0
def EG_52 {R : Type} (q_49 : Tp_49 R) : Env R := (Env.base QQ LN AA).add 49 ap_49 hp_49 (fun (x : aden ap_49 × hden hp_49) k => q_49 x (fun y => k (Pat.inst (.tup (.fcons (.str) (.fcons (.int .i64) (.fnil)))) y.1) (instH [some (.lst (.str), 9)] y.2)))
def LG_52 {R : Type} : Loops R := Loops.none
def E_52 {R : Type} (N : Nat) : Env R := EG_52 (p_49 N)
theorem eok_52 {R : Type} (N : Nat) : EK Try.prog (E_52 (R := R) N) := ek_add (ek_base _ _ _) (good_49 N)
def L_52 {R : Type} (N : Nat) : Loops R := LG_52
theorem lok_52 {R : Type} (N : Nat) : LOK 1 TT (E_52 (R := R) N) (drawAny TT WW) (L_52 N) (bodyOf Try.f52) := loops_nil (by kernel_rfl)
theorem grun_52 {R : Type} (q_49 : Tp_49 R) (x : aden ap_52 × hden hp_52) (k : KF R) : fnrun TT (EG_52 q_49) (drawAny TT WW) (LG_52) true Try.f52 (instA ap_52 x.1) (instH hp_52 x.2) k = Q_52 q_49 x (fun y => k (Pat.inst (.str) y.1) (instH [some (.lst (.str), 9)] y.2)) := by kernel_rfl
theorem run_52 {R : Type} (N : Nat) (x : aden ap_52 × hden hp_52) (k : KF R) : fnrun TT (E_52 (R := R) N) (drawAny TT WW) (L_52 N) true Try.f52 (instA ap_52 x.1) (instH hp_52 x.2) k = p_52 N x (fun y => k (Pat.inst (.str) y.1) (instH [some (.lst (.str), 9)] y.2)) := (grun_52 (p_49 N) x k).trans (by kernel_rfl)
theorem good_52 {R : Type} (N : Nat) : GD (X := R) Try.prog QQ AA 52 ap_52 hp_52 (fun (x : aden ap_52 × hden hp_52) k => p_52 N x (fun y => k (Pat.inst (.str) y.1) (instH [some (.lst (.str), 9)] y.2))) :=
  gd_loud (E := E_52 N) (p := fun (x : aden ap_52 × hden hp_52) k => p_52 N x (fun y => k (Pat.inst (.str) y.1) (instH [some (.lst (.str), 9)] y.2))) mixed tyok (eok_52 N) Try.func52 (by kernel_rfl) (by kernel_rfl) (by kernel_rfl) (by kernel_rfl) (lok_52 N) (fun x k => run_52 N x k)

def lv_84_v1_5 : Live := [(4, none), (15, none), (16, none), (17, none)]
def pt_84_v1_5 : SPat := ⟨[(4, .sl 1), (15, .sl 0), (16, .int .i64), (17, .int .i64)], [some (.lst (.int .u8), 5), some (.lst (.int .u64), 27)]⟩
def px_84_v1_5_0 : SPat := ⟨[(4, .sl 1)], [some (.lst (.int .u8), 5), some (.lst (.int .u64), 27)]⟩
def lo_84_v1_5 : Exit → Live
  | .exit 0 => [(4, none)]
  | _ => []
def ap_84_v1 : List Pat := [.sl 0]
def hp_84_v1 : List (Option (Pat × Nat)) := J10
abbrev Tl_84_v1_5 (R : Type) : Type := (Y13 × ((List Int) × (List Int) × Unit)) → (((Unit × Unit) × ((List Int) × (List Int) × Unit)) → Option R) → Option R
abbrev Tp_84_v1 (R : Type) : Type := (Unit × Unit) × ((List Int) × Unit) → ((((List Int) × (Int × Unit)) × ((List Int) × Unit)) → Option R) → Option R
def C_84_v1_5 {R : Type} (rec : (Y13 × ((List Int) × (List Int) × Unit)) → Option R) (x : (Y13 × ((List Int) × (List Int) × Unit))) (κ0 : ((Unit × Unit) × ((List Int) × (List Int) × Unit)) → Option R) : Option R :=
let i2335 := x.1.2.2.1
let i2336 := x.1.2.2.2.1
let l2337 := x.2.1
let l2338 := x.2.2.1
bif (decide (i2336 < i2335)) then (
bif decide (0 ≤ i2336) then (
bif decide (i2336 < ((List.length l2337) : Int)) then (
let i2339 : Int := (List.getD l2337 ((Int.toNat i2336)) (Sch.zero (.int .u8)))
let i2340 : Int := quoA .i64 i2336 8
bif decide (0 ≤ i2340) then (
bif decide (i2340 < ((List.length l2338) : Int)) then (
let i2341 : Int := (List.getD l2338 ((Int.toNat i2340)) (Sch.zero (.int .u64)))
let i2342 : Int := IntKind.wrap .u64 i2339
let i2343 : Int := remA .i64 i2336 8
let i2344 : Int := mulA .i64 8 i2343
bif decide (i2344 < 0) then none else (
let i2345 : Int := shlA .u64 i2342 i2344
let i2346 : Int := orA .u64 i2341 i2345
bif decide (0 ≤ i2340) then (
bif decide (i2340 < ((List.length l2338) : Int)) then (
let l2347 : (List Int) := (List.set l2338 ((Int.toNat i2340)) i2346)
let i2348 : Int := addA .i64 i2336 1
rec (((), (), i2335, i2348, ()), (l2337, l2347, ()))) else none) else none)) else none) else none) else none) else none) else (
κ0 (((), ()), (l2337, l2338, ())))
def B_84_v1_5 {R : Type} (N : Nat) (rec : (Y13 × ((List Int) × (List Int) × Unit)) → Option R) (x : (Y13 × ((List Int) × (List Int) × Unit))) (κ0 : ((Unit × Unit) × ((List Int) × (List Int) × Unit)) → Option R) : Option R := C_84_v1_5 rec x κ0
def l_84_v1_5 {R : Type} (N : Nat) : Nat → (Y13 × ((List Int) × (List Int) × Unit)) → (((Unit × Unit) × ((List Int) × (List Int) × Unit)) → Option R) → Option R
  | 0, _, _ => none
  | n + 1, x, κ0 => B_84_v1_5 N (fun y => l_84_v1_5 N n y κ0) x κ0
def Q_84_v1 {R : Type} (m_84_v1_5 : Tl_84_v1_5 R) (x : (Unit × Unit) × ((List Int) × Unit)) (κ0 : (((List Int) × (Int × Unit)) × ((List Int) × Unit)) → Option R) : Option R :=
let l2328 := x.2.1
let i2329 : Int := (((List.length l2328) : Nat) : Int)
let i2330 : Int := remA .i64 i2329 8
bif (i2330 != 0) then (
κ0 (([], (9, ())), x.2)) else (
let i2331 : Int := (((List.length l2328) : Nat) : Int)
let i2332 : Int := quoA .i64 i2331 8
bif decide (0 ≤ i2332) then (
bif decide (i2332 ≤ i2332) then (
bif decide (((8 : Nat) : Int) * i2332 ≤ 281474976710656) then (
bif decide (i2332 ≤ 9223372036854775807) then (
let l2333 : (List Int) := List.replicate ((Int.toNat i2332)) (Sch.zero (.int .u64))
let i2334 : Int := (((List.length l2328) : Nat) : Int)
m_84_v1_5 (((), (), i2334, 0, ()), (l2328, l2333, ())) (fun y2349 =>
let l2350 := y2349.2.1
let l2351 := y2349.2.2.1
κ0 ((l2351, (0, ())), (l2350, ())))) else none) else none) else none) else none)
def p_84_v1 {R : Type} (N : Nat) (x : (Unit × Unit) × ((List Int) × Unit)) (κ0 : (((List Int) × (Int × Unit)) × ((List Int) × Unit)) → Option R) : Option R := Q_84_v1 (l_84_v1_5 N N) x κ0
def EG_84_v1 {R : Type} : Env R := Env.base QQ LN AA
def LG_84_v1 {R : Type} (m_84_v1_5 : Tl_84_v1_5 R) : Loops R := (Loops.none).add 5 (loopBy 1 lv_84_v1_5 pt_84_v1_5 (fun x k => m_84_v1_5 x (fun y => k (.exit 0) (px_84_v1_5_0.inst y))))
def E_84_v1 {R : Type} (N : Nat) : Env R := EG_84_v1
theorem eok_84_v1 {R : Type} (N : Nat) : EK Try.prog (E_84_v1 (R := R) N) := ek_base _ _ _
def L_84_v1 {R : Type} (N : Nat) : Loops R := LG_84_v1 (l_84_v1_5 N N)
theorem gstep_84_v1_5 {R : Type} (m_84_v1_5 : Tl_84_v1_5 R) (n : Nat) (x : pt_84_v1_5.den) (k : Exit → St → Option R) : iter 1 lv_84_v1_5 lo_84_v1_5 (aexec TT (EG_84_v1) (drawAny TT WW) (LG_84_v1 m_84_v1_5) (loopAt 5 (bodyOf Try.f84))) (n + 1) (pt_84_v1_5.inst x) k = C_84_v1_5 (fun y => iter 1 lv_84_v1_5 lo_84_v1_5 (aexec TT (EG_84_v1) (drawAny TT WW) (LG_84_v1 m_84_v1_5) (loopAt 5 (bodyOf Try.f84))) n (pt_84_v1_5.inst y) k) x (fun y => k (.exit 0) (px_84_v1_5_0.inst y)) := by kernel_rfl
theorem step_84_v1_5 {R : Type} (N n : Nat) (x : pt_84_v1_5.den) (k : Exit → St → Option R) : iter 1 lv_84_v1_5 lo_84_v1_5 (aexec TT (E_84_v1 (R := R) N) (drawAny TT WW) (L_84_v1 N) (loopAt 5 (bodyOf Try.f84))) (n + 1) (pt_84_v1_5.inst x) k = B_84_v1_5 N (fun y => iter 1 lv_84_v1_5 lo_84_v1_5 (aexec TT (E_84_v1 (R := R) N) (drawAny TT WW) (L_84_v1 N) (loopAt 5 (bodyOf Try.f84))) n (pt_84_v1_5.inst y) k) x (fun y => k (.exit 0) (px_84_v1_5_0.inst y)) := (gstep_84_v1_5 (l_84_v1_5 N N) n x k).trans (by kernel_rfl)
theorem eq_84_v1_5 {R : Type} (N : Nat) : ∀ (n : Nat) (x : pt_84_v1_5.den) (k : Exit → St → Option R), iter 1 lv_84_v1_5 lo_84_v1_5 (aexec TT (E_84_v1 (R := R) N) (drawAny TT WW) (L_84_v1 N) (loopAt 5 (bodyOf Try.f84))) n (pt_84_v1_5.inst x) k = l_84_v1_5 N n x (fun y => k (.exit 0) (px_84_v1_5_0.inst y)) :=
  iter_eq (K := Exit → St → Option R) (ks := fun k => k) (l := fun n (x : pt_84_v1_5.den) k => l_84_v1_5 N n x (fun y => k (.exit 0) (px_84_v1_5_0.inst y))) (B := fun (rec : pt_84_v1_5.den → Option R) (x : pt_84_v1_5.den) k => B_84_v1_5 N rec x (fun y => k (.exit 0) (px_84_v1_5_0.inst y))) (fun _ _ => rfl) (fun _ _ _ => rfl) (fun n x k => step_84_v1_5 N n x k)
theorem rounds_84_v1_5 {R : Type} (N : Nat) : Rounds 1 TT (E_84_v1 (R := R) N) (drawAny TT WW) (L_84_v1 N) 5 (loopAt 5 (bodyOf Try.f84)) :=
  rounds_of (p := pt_84_v1_5) (l := fun (x : pt_84_v1_5.den) k => l_84_v1_5 N N x (fun y => k (.exit 0) (px_84_v1_5_0.inst y))) (fun s k => rfl) (fun x k => eq_84_v1_5 N N x k)
theorem loops_84_v1 : loopsIn (bodyOf Try.f84) = [(5, loopAt 5 (bodyOf Try.f84))] := by kernel_rfl
theorem lok_84_v1 {R : Type} (N : Nat) : LOK 1 TT (E_84_v1 (R := R) N) (drawAny TT WW) (L_84_v1 N) (bodyOf Try.f84) := loops_all loops_84_v1 (by
  simp only [List.forall_mem_cons, List.not_mem_nil, false_implies, implies_true, and_true]
  exact rounds_84_v1_5 N)
theorem grun_84_v1 {R : Type} (m_84_v1_5 : Tl_84_v1_5 R) (x : aden ap_84_v1 × hden hp_84_v1) (k : KF R) : fnrun TT (EG_84_v1) (drawAny TT WW) (LG_84_v1 m_84_v1_5) true Try.f84 (instA ap_84_v1 x.1) (instH hp_84_v1 x.2) k = Q_84_v1 m_84_v1_5 x (fun y => k (Pat.inst (.tup (.fcons (.ros (.int .u64)) (.fcons (.int .i64) (.fnil)))) y.1) (instH J10 y.2)) := by kernel_rfl
theorem run_84_v1 {R : Type} (N : Nat) (x : aden ap_84_v1 × hden hp_84_v1) (k : KF R) : fnrun TT (E_84_v1 (R := R) N) (drawAny TT WW) (L_84_v1 N) true Try.f84 (instA ap_84_v1 x.1) (instH hp_84_v1 x.2) k = p_84_v1 N x (fun y => k (Pat.inst (.tup (.fcons (.ros (.int .u64)) (.fcons (.int .i64) (.fnil)))) y.1) (instH J10 y.2)) := (grun_84_v1 (l_84_v1_5 N N) x k).trans (by kernel_rfl)
theorem good_84_v1 {R : Type} (N : Nat) : GD (X := R) Try.prog QQ AA 84 ap_84_v1 hp_84_v1 (fun (x : aden ap_84_v1 × hden hp_84_v1) k => p_84_v1 N x (fun y => k (Pat.inst (.tup (.fcons (.ros (.int .u64)) (.fcons (.int .i64) (.fnil)))) y.1) (instH J10 y.2))) :=
  gd_loud (E := E_84_v1 N) (p := fun (x : aden ap_84_v1 × hden hp_84_v1) k => p_84_v1 N x (fun y => k (Pat.inst (.tup (.fcons (.ros (.int .u64)) (.fcons (.int .i64) (.fnil)))) y.1) (instH J10 y.2))) mixed tyok (eok_84_v1 N) Try.func84 (by kernel_rfl) (by kernel_rfl) (by kernel_rfl) (by kernel_rfl) (lok_84_v1 N) (fun x k => run_84_v1 N x k)

def ap_54 : List Pat := [.str]
def hp_54 : List (Option (Pat × Nat)) := []
abbrev Tp_54 (R : Type) : Type := (ByteArray × Unit) × (Unit) → (((Nat → Int) × (Int × Unit)) → Option R) → Option R
def Q_54 {R : Type} (q_84_v1 : Tp_84_v1 R) (x : (ByteArray × Unit) × (Unit)) (κ0 : ((Nat → Int) × (Int × Unit)) → Option R) : Option R :=
let s2324 := x.1.1
let i2325 : Int := ((ByteArray.size s2324 : Nat) : Int)
bif (i2325 != 1024) then (
let a2326 : (Nat → Int) := (Sch.zero (.arr 128 (.int .u64)))
κ0 ((a2326, (9, ())))) else (
bif decide (ByteArray.size s2324 ≤ maxI64) then (
let l2327 : (List Int) := strList s2324
q_84_v1 (((), ()), (l2327, ())) (fun y2352 =>
let l2353 := y2352.1.1
bif decide (128 ≤ List.length l2353) then (
let p2356 : (Nat → Int) := (fun i => List.getD l2353 i (Sch.zero (.int .u64)))
κ0 ((p2356, (0, ())))) else none)) else none)
def p_54 {R : Type} (N : Nat) (x : (ByteArray × Unit) × (Unit)) (κ0 : ((Nat → Int) × (Int × Unit)) → Option R) : Option R := Q_54 (p_84_v1 N) x κ0
def EG_54 {R : Type} (q_84_v1 : Tp_84_v1 R) : Env R := (Env.base QQ LN AA).add 84 ap_84_v1 hp_84_v1 (fun (x : aden ap_84_v1 × hden hp_84_v1) k => q_84_v1 x (fun y => k (Pat.inst (.tup (.fcons (.ros (.int .u64)) (.fcons (.int .i64) (.fnil)))) y.1) (instH J10 y.2)))
def LG_54 {R : Type} : Loops R := Loops.none
def E_54 {R : Type} (N : Nat) : Env R := EG_54 (p_84_v1 N)
theorem eok_54 {R : Type} (N : Nat) : EK Try.prog (E_54 (R := R) N) := ek_add (ek_base _ _ _) (good_84_v1 N)
def L_54 {R : Type} (N : Nat) : Loops R := LG_54
theorem lok_54 {R : Type} (N : Nat) : LOK 0 TT (E_54 (R := R) N) (drawAny TT WW) (L_54 N) (bodyOf Try.f54) := loops_nil (by kernel_rfl)
theorem grun_54 {R : Type} (q_84_v1 : Tp_84_v1 R) (x : aden ap_54 × hden hp_54) (k : KF R) : fnrun TT (EG_54 q_84_v1) (drawAny TT WW) (LG_54) true Try.f54 (instA ap_54 x.1) (instH hp_54 x.2) k = Q_54 q_84_v1 x (fun y => k (Pat.inst (.tup (.fcons (.vec (.int .u64) 128) (.fcons (.int .i64) (.fnil)))) y) (instH hp_54 x.2)) := by kernel_rfl
theorem run_54 {R : Type} (N : Nat) (x : aden ap_54 × hden hp_54) (k : KF R) : fnrun TT (E_54 (R := R) N) (drawAny TT WW) (L_54 N) true Try.f54 (instA ap_54 x.1) (instH hp_54 x.2) k = p_54 N x (fun y => k (Pat.inst (.tup (.fcons (.vec (.int .u64) 128) (.fcons (.int .i64) (.fnil)))) y) (instH hp_54 x.2)) := (grun_54 (p_84_v1 N) x k).trans (by kernel_rfl)
theorem good_54 {R : Type} (N : Nat) : GD (X := R) Try.prog QQ AA 54 ap_54 hp_54 (fun (x : aden ap_54 × hden hp_54) k => p_54 N x (fun y => k (Pat.inst (.tup (.fcons (.vec (.int .u64) 128) (.fcons (.int .i64) (.fnil)))) y) (instH hp_54 x.2))) :=
  gd_quiet (E := E_54 N) (p := fun (x : aden ap_54 × hden hp_54) κ => p_54 N x (fun y => κ (Pat.inst (.tup (.fcons (.vec (.int .u64) 128) (.fcons (.int .i64) (.fnil)))) y))) mixed tyok (eok_54 N) Try.func54 (by kernel_rfl) (by kernel_rfl) (lok_54 N) (fun x k => run_54 N x k)

def ap_51 : List Pat := [.ptr 0 [], .int .i64, .vec (.int .u64) 128]
def hp_51 : List (Option (Pat × Nat)) := J5
abbrev Tp_51 (R : Type) : Type := (Unit × Int × (Nat → Int) × Unit) × (Y11 × Y5 × (List (Nat → Int)) × Unit) → ((Int × (Y11 × Y5 × (List (Nat → Int)) × Unit)) → Option R) → Option R
def Q_51 {R : Type} (q_47 : Tp_47 R) (x : (Unit × Int × (Nat → Int) × Unit) × (Y11 × Y5 × (List (Nat → Int)) × Unit)) (κ0 : (Int × (Y11 × Y5 × (List (Nat → Int)) × Unit)) → Option R) : Option R :=
let i2379 := x.1.2.1
let a2380 := x.1.2.2.1
let l2386 := x.2.2.2.1
q_47 (((), i2379, ()), (x.2.1, x.2.2.1, l2386, ())) (fun y2387 =>
let i2389 := y2387.2.1
bif (i2389 != 0) then (
κ0 (i2389, (x.2.1, x.2.2.1, l2386, ()))) else (
bif decide (0 ≤ i2379) then (
bif decide (i2379 < ((List.length l2386) : Int)) then (
let l2390 : (List (Nat → Int)) := (List.set l2386 ((Int.toNat i2379)) a2380)
κ0 (0, (x.2.1, x.2.2.1, l2390, ()))) else none) else none))
def p_51 {R : Type} (N : Nat) (x : (Unit × Int × (Nat → Int) × Unit) × (Y11 × Y5 × (List (Nat → Int)) × Unit)) (κ0 : (Int × (Y11 × Y5 × (List (Nat → Int)) × Unit)) → Option R) : Option R := Q_51 (p_47 N) x κ0
def EG_51 {R : Type} (q_47 : Tp_47 R) : Env R := (Env.base QQ LN AA).add 47 ap_47 hp_47 (fun (x : aden ap_47 × hden hp_47) k => q_47 x (fun y => k (Pat.inst (.tup (.fcons (.vec (.int .u64) 128) (.fcons (.int .i64) (.fnil)))) y) (instH hp_47 x.2)))
def LG_51 {R : Type} : Loops R := Loops.none
def E_51 {R : Type} (N : Nat) : Env R := EG_51 (p_47 N)
theorem eok_51 {R : Type} (N : Nat) : EK Try.prog (E_51 (R := R) N) := ek_add (ek_base _ _ _) (good_47 N)
def L_51 {R : Type} (N : Nat) : Loops R := LG_51
theorem lok_51 {R : Type} (N : Nat) : LOK 3 TT (E_51 (R := R) N) (drawAny TT WW) (L_51 N) (bodyOf Try.f51) := loops_nil (by kernel_rfl)
theorem grun_51 {R : Type} (q_47 : Tp_47 R) (x : aden ap_51 × hden hp_51) (k : KF R) : fnrun TT (EG_51 q_47) (drawAny TT WW) (LG_51) true Try.f51 (instA ap_51 x.1) (instH hp_51 x.2) k = Q_51 q_47 x (fun y => k (Pat.inst (.int .i64) y.1) (instH J5 y.2)) := by kernel_rfl
theorem run_51 {R : Type} (N : Nat) (x : aden ap_51 × hden hp_51) (k : KF R) : fnrun TT (E_51 (R := R) N) (drawAny TT WW) (L_51 N) true Try.f51 (instA ap_51 x.1) (instH hp_51 x.2) k = p_51 N x (fun y => k (Pat.inst (.int .i64) y.1) (instH J5 y.2)) := (grun_51 (p_47 N) x k).trans (by kernel_rfl)
theorem good_51 {R : Type} (N : Nat) : GD (X := R) Try.prog QQ AA 51 ap_51 hp_51 (fun (x : aden ap_51 × hden hp_51) k => p_51 N x (fun y => k (Pat.inst (.int .i64) y.1) (instH J5 y.2))) :=
  gd_loud (E := E_51 N) (p := fun (x : aden ap_51 × hden hp_51) k => p_51 N x (fun y => k (Pat.inst (.int .i64) y.1) (instH J5 y.2))) mixed tyok (eok_51 N) Try.func51 (by kernel_rfl) (by kernel_rfl) (by kernel_rfl) (by kernel_rfl) (lok_51 N) (fun x k => run_51 N x k)

def ap_12 : List Pat := [.ptr 0 [], .node (.fcons (.int .i64) (.fcons (.int .i64) (.fnil))), .vec (.int .u64) 128]
def hp_12 : List (Option (Pat × Nat)) := J0
abbrev Tp_12 (R : Type) : Type := (Unit × (Int × (Int × Unit)) × (Nat → Int) × Unit) × Y1 → ((Int × Y1) → Option R) → Option R
def Q_12 {R : Type} (q_46 : Tp_46 R) (q_51 : Tp_51 R) (x : (Unit × (Int × (Int × Unit)) × (Nat → Int) × Unit) × Y1) (κ0 : (Int × Y1) → Option R) : Option R :=
let a2362 := x.1.2.2.1
let l2376 := x.2.2.2.2.1
q_46 (((), x.1.2.1, ()), (x.2.1, x.2.2.1, x.2.2.2.1, l2376, ())) (fun y2377 =>
let i2378 : Int := y2377
bif (decide (i2378 < 0)) then (
κ0 (11, (x.2.1, x.2.2.1, x.2.2.2.1, l2376, ()))) else (
q_51 (((), i2378, a2362, ()), (x.2.2.1, x.2.2.2.1, l2376, ())) (fun y2391 =>
let i2392 := y2391.1
let l2398 := y2391.2.2.2.1
κ0 (i2392, (x.2.1, y2391.2.1, y2391.2.2.1, l2398, ())))))
def p_12 {R : Type} (N : Nat) (x : (Unit × (Int × (Int × Unit)) × (Nat → Int) × Unit) × Y1) (κ0 : (Int × Y1) → Option R) : Option R := Q_12 (p_46 N) (p_51 N) x κ0
def EG_12 {R : Type} (q_46 : Tp_46 R) (q_51 : Tp_51 R) : Env R := ((Env.base QQ LN AA).add 46 ap_46 hp_46 (fun (x : aden ap_46 × hden hp_46) k => q_46 x (fun y => k (Pat.inst (.int .i64) y) (instH hp_46 x.2)))).add 51 ap_51 hp_51 (fun (x : aden ap_51 × hden hp_51) k => q_51 x (fun y => k (Pat.inst (.int .i64) y.1) (instH J5 y.2)))
def LG_12 {R : Type} : Loops R := Loops.none
def E_12 {R : Type} (N : Nat) : Env R := EG_12 (p_46 N) (p_51 N)
theorem eok_12 {R : Type} (N : Nat) : EK Try.prog (E_12 (R := R) N) := ek_add (ek_add (ek_base _ _ _) (good_46 N)) (good_51 N)
def L_12 {R : Type} (N : Nat) : Loops R := LG_12
theorem lok_12 {R : Type} (N : Nat) : LOK 4 TT (E_12 (R := R) N) (drawAny TT WW) (L_12 N) (bodyOf Try.f12) := loops_nil (by kernel_rfl)
theorem grun_12 {R : Type} (q_46 : Tp_46 R) (q_51 : Tp_51 R) (x : aden ap_12 × hden hp_12) (k : KF R) : fnrun TT (EG_12 q_46 q_51) (drawAny TT WW) (LG_12) true Try.f12 (instA ap_12 x.1) (instH hp_12 x.2) k = Q_12 q_46 q_51 x (fun y => k (Pat.inst (.int .i64) y.1) (instH J0 y.2)) := by kernel_rfl
theorem run_12 {R : Type} (N : Nat) (x : aden ap_12 × hden hp_12) (k : KF R) : fnrun TT (E_12 (R := R) N) (drawAny TT WW) (L_12 N) true Try.f12 (instA ap_12 x.1) (instH hp_12 x.2) k = p_12 N x (fun y => k (Pat.inst (.int .i64) y.1) (instH J0 y.2)) := (grun_12 (p_46 N) (p_51 N) x k).trans (by kernel_rfl)
theorem good_12 {R : Type} (N : Nat) : GD (X := R) Try.prog QQ AA 12 ap_12 hp_12 (fun (x : aden ap_12 × hden hp_12) k => p_12 N x (fun y => k (Pat.inst (.int .i64) y.1) (instH J0 y.2))) :=
  gd_loud (E := E_12 N) (p := fun (x : aden ap_12 × hden hp_12) k => p_12 N x (fun y => k (Pat.inst (.int .i64) y.1) (instH J0 y.2))) mixed tyok (eok_12 N) Try.func12 (by kernel_rfl) (by kernel_rfl) (by kernel_rfl) (by kernel_rfl) (lok_12 N) (fun x k => run_12 N x k)

def lv_13_7 : Live := [(0, none), (1, none), (5, none), (17, none), (18, none), (21, none)]
def pt_13_7 : SPat := ⟨[(0, .ptr 0 []), (1, .str), (5, .int .i64), (17, .int .i64), (18, .int .i64), (21, .int .i64)], J0⟩
def px_13_7_0 : SPat := ⟨[(4, .int .i64)], J0⟩
def px_13_7_1 : SPat := ⟨[(0, .ptr 0 []), (1, .str), (17, .int .i64), (18, .int .i64)], J0⟩
def lo_13_7 : Exit → Live
  | .ret => [(4, none)]
  | .exit 2 => [(0, none), (1, none), (17, none), (18, none)]
  | _ => []
def lv_13_4 : Live := [(0, none), (1, none), (17, none), (18, none)]
def pt_13_4 : SPat := ⟨[(0, .ptr 0 []), (1, .str), (17, .int .i64), (18, .int .i64)], J0⟩
def px_13_4_0 : SPat := ⟨[(4, .int .i64)], J0⟩
def px_13_4_1 : SPat := ⟨[], J0⟩
def lo_13_4 : Exit → Live
  | .ret => [(4, none)]
  | .exit 0 => []
  | _ => []
def ap_13 : List Pat := [.ptr 0 [], .str]
def hp_13 : List (Option (Pat × Nat)) := J0
abbrev Tl_13_7 (R : Type) : Type := ((Unit × ByteArray × Int × Int × Int × Int × Unit) × Y1) → (((Int × Unit) × Y1) → Option R) → (((Unit × ByteArray × Int × Int × Unit) × Y1) → Option R) → Option R
abbrev Tl_13_4 (R : Type) : Type := ((Unit × ByteArray × Int × Int × Unit) × Y1) → (((Int × Unit) × Y1) → Option R) → (((Unit) × Y1) → Option R) → Option R
abbrev Tp_13 (R : Type) : Type := (Unit × ByteArray × Unit) × Y1 → ((Int × Y1) → Option R) → Option R
def C_13_7 {R : Type} (q_53 : Tp_53 R) (q_52 : Tp_52 R) (q_54 : Tp_54 R) (q_12 : Tp_12 R) (rec : ((Unit × ByteArray × Int × Int × Int × Int × Unit) × Y1) → Option R) (x : ((Unit × ByteArray × Int × Int × Int × Int × Unit) × Y1)) (κ0 : ((Int × Unit) × Y1) → Option R) (κ1 : ((Unit × ByteArray × Int × Int × Unit) × Y1) → Option R) : Option R :=
let s976 := x.1.2.1
let i977 := x.1.2.2.1
let i978 := x.1.2.2.2.1
let i979 := x.1.2.2.2.2.1
let i980 := x.1.2.2.2.2.2.1
let l994 := x.2.2.2.2.1
bif (decide (i980 < 2)) then (
let i995 : Int := IntKind.wrap .u32 i980
let i996 : Int := IntKind.wrap .u32 i977
let l997 : (List Int) := [i995, i996]
q_53 (((), ()), (l997, ())) (fun y1021 =>
let l1022 := y1021.1
let s1024 : ByteArray := listStr l1022
let l1025 : (List ByteArray) := [s976, s1024]
q_52 (((), ()), (l1025, ())) (fun y2321 =>
let s2322 := y2321.1
q_54 ((s2322, ()), ()) (fun y2357 =>
let a2358 := y2357.1
q_12 (((), (i977, (i980, ())), a2358, ()), (x.2.1, x.2.2.1, x.2.2.2.1, l994, ())) (fun y2399 =>
let i2400 := y2399.1
let l2414 := y2399.2.2.2.2.1
bif (i2400 != 0) then (
κ0 ((i2400, ()), (y2399.2.1, y2399.2.2.1, y2399.2.2.2.1, l2414, ()))) else (
let i2415 : Int := addA .i64 i980 1
rec (((), s976, i977, i978, i979, i2415, ()), (y2399.2.1, y2399.2.2.1, y2399.2.2.2.1, l2414, ())))))))) else (
κ1 (((), s976, i978, i979, ()), (x.2.1, x.2.2.1, x.2.2.2.1, l994, ())))
def C_13_4 {R : Type} (m_13_7 : Tl_13_7 R) (rec : ((Unit × ByteArray × Int × Int × Unit) × Y1) → Option R) (x : ((Unit × ByteArray × Int × Int × Unit) × Y1)) (κ0 : ((Int × Unit) × Y1) → Option R) (κ1 : ((Unit) × Y1) → Option R) : Option R :=
let s959 := x.1.2.1
let i960 := x.1.2.2.1
let i961 := x.1.2.2.2.1
let l975 := x.2.2.2.2.1
bif (decide (i961 < i960)) then (
m_13_7 (((), s959, i961, i960, i961, 0, ()), (x.2.1, x.2.2.1, x.2.2.2.1, l975, ())) (fun y2416 =>
let l2431 := y2416.2.2.2.2.1
κ0 (y2416.1, (y2416.2.1, y2416.2.2.1, y2416.2.2.2.1, l2431, ()))) (fun y2432 =>
let s2433 := y2432.1.2.1
let i2434 := y2432.1.2.2.1
let i2435 := y2432.1.2.2.2.1
let l2449 := y2432.2.2.2.2.1
let i2450 : Int := addA .i64 i2435 1
rec (((), s2433, i2434, i2450, ()), (y2432.2.1, y2432.2.2.1, y2432.2.2.2.1, l2449, ())))) else (
κ1 ((), (x.2.1, x.2.2.1, x.2.2.2.1, l975, ())))
def B_13_7 {R : Type} (N : Nat) (rec : ((Unit × ByteArray × Int × Int × Int × Int × Unit) × Y1) → Option R) (x : ((Unit × ByteArray × Int × Int × Int × Int × Unit) × Y1)) (κ0 : ((Int × Unit) × Y1) → Option R) (κ1 : ((Unit × ByteArray × Int × Int × Unit) × Y1) → Option R) : Option R := C_13_7 (p_53 N) (p_52 N) (p_54 N) (p_12 N) rec x κ0 κ1
def l_13_7 {R : Type} (N : Nat) : Nat → ((Unit × ByteArray × Int × Int × Int × Int × Unit) × Y1) → (((Int × Unit) × Y1) → Option R) → (((Unit × ByteArray × Int × Int × Unit) × Y1) → Option R) → Option R
  | 0, _, _, _ => none
  | n + 1, x, κ0, κ1 => B_13_7 N (fun y => l_13_7 N n y κ0 κ1) x κ0 κ1
def B_13_4 {R : Type} (N : Nat) (rec : ((Unit × ByteArray × Int × Int × Unit) × Y1) → Option R) (x : ((Unit × ByteArray × Int × Int × Unit) × Y1)) (κ0 : ((Int × Unit) × Y1) → Option R) (κ1 : ((Unit) × Y1) → Option R) : Option R := C_13_4 (l_13_7 N N) rec x κ0 κ1
def l_13_4 {R : Type} (N : Nat) : Nat → ((Unit × ByteArray × Int × Int × Unit) × Y1) → (((Int × Unit) × Y1) → Option R) → (((Unit) × Y1) → Option R) → Option R
  | 0, _, _, _ => none
  | n + 1, x, κ0, κ1 => B_13_4 N (fun y => l_13_4 N n y κ0 κ1) x κ0 κ1
def Q_13 {R : Type} (q_53 : Tp_53 R) (q_52 : Tp_52 R) (q_54 : Tp_54 R) (q_12 : Tp_12 R) (m_13_7 : Tl_13_7 R) (m_13_4 : Tl_13_4 R) (x : (Unit × ByteArray × Unit) × Y1) (κ0 : (Int × Y1) → Option R) : Option R :=
let s944 := x.1.2.1
let i947 := x.2.1.2.1.2.2.1
let l958 := x.2.2.2.2.1
m_13_4 (((), s944, i947, 0, ()), (x.2.1, x.2.2.1, x.2.2.2.1, l958, ())) (fun y2451 =>
let i2452 := y2451.1.1
let l2466 := y2451.2.2.2.2.1
κ0 (i2452, (y2451.2.1, y2451.2.2.1, y2451.2.2.2.1, l2466, ()))) (fun y2467 =>
let l2481 := y2467.2.2.2.2.1
κ0 (0, (y2467.2.1, y2467.2.2.1, y2467.2.2.2.1, l2481, ())))
def p_13 {R : Type} (N : Nat) (x : (Unit × ByteArray × Unit) × Y1) (κ0 : (Int × Y1) → Option R) : Option R := Q_13 (p_53 N) (p_52 N) (p_54 N) (p_12 N) (l_13_7 N N) (l_13_4 N N) x κ0
def EG_13 {R : Type} (q_53 : Tp_53 R) (q_52 : Tp_52 R) (q_54 : Tp_54 R) (q_12 : Tp_12 R) : Env R := ((((Env.base QQ LN AA).add 53 ap_53 hp_53 (fun (x : aden ap_53 × hden hp_53) k => q_53 x (fun y => k (Pat.inst (.ros (.int .u8)) y.1) (instH [some (.lst (.int .u32), 78)] y.2)))).add 52 ap_52 hp_52 (fun (x : aden ap_52 × hden hp_52) k => q_52 x (fun y => k (Pat.inst (.str) y.1) (instH [some (.lst (.str), 9)] y.2)))).add 54 ap_54 hp_54 (fun (x : aden ap_54 × hden hp_54) k => q_54 x (fun y => k (Pat.inst (.tup (.fcons (.vec (.int .u64) 128) (.fcons (.int .i64) (.fnil)))) y) (instH hp_54 x.2)))).add 12 ap_12 hp_12 (fun (x : aden ap_12 × hden hp_12) k => q_12 x (fun y => k (Pat.inst (.int .i64) y.1) (instH J0 y.2)))
def LG_13 {R : Type} (m_13_7 : Tl_13_7 R) (m_13_4 : Tl_13_4 R) : Loops R := ((Loops.none).add 7 (loopBy 4 lv_13_7 pt_13_7 (fun x k => m_13_7 x (fun y => k .ret (px_13_7_0.inst y)) (fun y => k (.exit 2) (px_13_7_1.inst y))))).add 4 (loopBy 4 lv_13_4 pt_13_4 (fun x k => m_13_4 x (fun y => k .ret (px_13_4_0.inst y)) (fun y => k (.exit 0) (px_13_4_1.inst y))))
def E_13 {R : Type} (N : Nat) : Env R := EG_13 (p_53 N) (p_52 N) (p_54 N) (p_12 N)
theorem eok_13 {R : Type} (N : Nat) : EK Try.prog (E_13 (R := R) N) := ek_add (ek_add (ek_add (ek_add (ek_base _ _ _) (good_53 N)) (good_52 N)) (good_54 N)) (good_12 N)
def L_13 {R : Type} (N : Nat) : Loops R := LG_13 (l_13_7 N N) (l_13_4 N N)
theorem gstep_13_7 {R : Type} (q_53 : Tp_53 R) (q_52 : Tp_52 R) (q_54 : Tp_54 R) (q_12 : Tp_12 R) (m_13_7 : Tl_13_7 R) (m_13_4 : Tl_13_4 R) (n : Nat) (x : pt_13_7.den) (k : Exit → St → Option R) : iter 4 lv_13_7 lo_13_7 (aexec TT (EG_13 q_53 q_52 q_54 q_12) (drawAny TT WW) (LG_13 m_13_7 m_13_4) (loopAt 7 (bodyOf Try.f13))) (n + 1) (pt_13_7.inst x) k = C_13_7 q_53 q_52 q_54 q_12 (fun y => iter 4 lv_13_7 lo_13_7 (aexec TT (EG_13 q_53 q_52 q_54 q_12) (drawAny TT WW) (LG_13 m_13_7 m_13_4) (loopAt 7 (bodyOf Try.f13))) n (pt_13_7.inst y) k) x (fun y => k .ret (px_13_7_0.inst y)) (fun y => k (.exit 2) (px_13_7_1.inst y)) := by kernel_rfl
theorem step_13_7 {R : Type} (N n : Nat) (x : pt_13_7.den) (k : Exit → St → Option R) : iter 4 lv_13_7 lo_13_7 (aexec TT (E_13 (R := R) N) (drawAny TT WW) (L_13 N) (loopAt 7 (bodyOf Try.f13))) (n + 1) (pt_13_7.inst x) k = B_13_7 N (fun y => iter 4 lv_13_7 lo_13_7 (aexec TT (E_13 (R := R) N) (drawAny TT WW) (L_13 N) (loopAt 7 (bodyOf Try.f13))) n (pt_13_7.inst y) k) x (fun y => k .ret (px_13_7_0.inst y)) (fun y => k (.exit 2) (px_13_7_1.inst y)) := (gstep_13_7 (p_53 N) (p_52 N) (p_54 N) (p_12 N) (l_13_7 N N) (l_13_4 N N) n x k).trans (by kernel_rfl)
theorem eq_13_7 {R : Type} (N : Nat) : ∀ (n : Nat) (x : pt_13_7.den) (k : Exit → St → Option R), iter 4 lv_13_7 lo_13_7 (aexec TT (E_13 (R := R) N) (drawAny TT WW) (L_13 N) (loopAt 7 (bodyOf Try.f13))) n (pt_13_7.inst x) k = l_13_7 N n x (fun y => k .ret (px_13_7_0.inst y)) (fun y => k (.exit 2) (px_13_7_1.inst y)) :=
  iter_eq (K := Exit → St → Option R) (ks := fun k => k) (l := fun n (x : pt_13_7.den) k => l_13_7 N n x (fun y => k .ret (px_13_7_0.inst y)) (fun y => k (.exit 2) (px_13_7_1.inst y))) (B := fun (rec : pt_13_7.den → Option R) (x : pt_13_7.den) k => B_13_7 N rec x (fun y => k .ret (px_13_7_0.inst y)) (fun y => k (.exit 2) (px_13_7_1.inst y))) (fun _ _ => rfl) (fun _ _ _ => rfl) (fun n x k => step_13_7 N n x k)
theorem rounds_13_7 {R : Type} (N : Nat) : Rounds 4 TT (E_13 (R := R) N) (drawAny TT WW) (L_13 N) 7 (loopAt 7 (bodyOf Try.f13)) :=
  rounds_of (p := pt_13_7) (l := fun (x : pt_13_7.den) k => l_13_7 N N x (fun y => k .ret (px_13_7_0.inst y)) (fun y => k (.exit 2) (px_13_7_1.inst y))) (fun s k => rfl) (fun x k => eq_13_7 N N x k)
theorem gstep_13_4 {R : Type} (q_53 : Tp_53 R) (q_52 : Tp_52 R) (q_54 : Tp_54 R) (q_12 : Tp_12 R) (m_13_7 : Tl_13_7 R) (m_13_4 : Tl_13_4 R) (n : Nat) (x : pt_13_4.den) (k : Exit → St → Option R) : iter 4 lv_13_4 lo_13_4 (aexec TT (EG_13 q_53 q_52 q_54 q_12) (drawAny TT WW) (LG_13 m_13_7 m_13_4) (loopAt 4 (bodyOf Try.f13))) (n + 1) (pt_13_4.inst x) k = C_13_4 m_13_7 (fun y => iter 4 lv_13_4 lo_13_4 (aexec TT (EG_13 q_53 q_52 q_54 q_12) (drawAny TT WW) (LG_13 m_13_7 m_13_4) (loopAt 4 (bodyOf Try.f13))) n (pt_13_4.inst y) k) x (fun y => k .ret (px_13_4_0.inst y)) (fun y => k (.exit 0) (px_13_4_1.inst y)) := by kernel_rfl
theorem step_13_4 {R : Type} (N n : Nat) (x : pt_13_4.den) (k : Exit → St → Option R) : iter 4 lv_13_4 lo_13_4 (aexec TT (E_13 (R := R) N) (drawAny TT WW) (L_13 N) (loopAt 4 (bodyOf Try.f13))) (n + 1) (pt_13_4.inst x) k = B_13_4 N (fun y => iter 4 lv_13_4 lo_13_4 (aexec TT (E_13 (R := R) N) (drawAny TT WW) (L_13 N) (loopAt 4 (bodyOf Try.f13))) n (pt_13_4.inst y) k) x (fun y => k .ret (px_13_4_0.inst y)) (fun y => k (.exit 0) (px_13_4_1.inst y)) := (gstep_13_4 (p_53 N) (p_52 N) (p_54 N) (p_12 N) (l_13_7 N N) (l_13_4 N N) n x k).trans (by kernel_rfl)
theorem eq_13_4 {R : Type} (N : Nat) : ∀ (n : Nat) (x : pt_13_4.den) (k : Exit → St → Option R), iter 4 lv_13_4 lo_13_4 (aexec TT (E_13 (R := R) N) (drawAny TT WW) (L_13 N) (loopAt 4 (bodyOf Try.f13))) n (pt_13_4.inst x) k = l_13_4 N n x (fun y => k .ret (px_13_4_0.inst y)) (fun y => k (.exit 0) (px_13_4_1.inst y)) :=
  iter_eq (K := Exit → St → Option R) (ks := fun k => k) (l := fun n (x : pt_13_4.den) k => l_13_4 N n x (fun y => k .ret (px_13_4_0.inst y)) (fun y => k (.exit 0) (px_13_4_1.inst y))) (B := fun (rec : pt_13_4.den → Option R) (x : pt_13_4.den) k => B_13_4 N rec x (fun y => k .ret (px_13_4_0.inst y)) (fun y => k (.exit 0) (px_13_4_1.inst y))) (fun _ _ => rfl) (fun _ _ _ => rfl) (fun n x k => step_13_4 N n x k)
theorem rounds_13_4 {R : Type} (N : Nat) : Rounds 4 TT (E_13 (R := R) N) (drawAny TT WW) (L_13 N) 4 (loopAt 4 (bodyOf Try.f13)) :=
  rounds_of (p := pt_13_4) (l := fun (x : pt_13_4.den) k => l_13_4 N N x (fun y => k .ret (px_13_4_0.inst y)) (fun y => k (.exit 0) (px_13_4_1.inst y))) (fun s k => rfl) (fun x k => eq_13_4 N N x k)
theorem loops_13 : loopsIn (bodyOf Try.f13) = [(4, loopAt 4 (bodyOf Try.f13)), (7, loopAt 7 (bodyOf Try.f13))] := by kernel_rfl
theorem lok_13 {R : Type} (N : Nat) : LOK 4 TT (E_13 (R := R) N) (drawAny TT WW) (L_13 N) (bodyOf Try.f13) := loops_all loops_13 (by
  simp only [List.forall_mem_cons, List.not_mem_nil, false_implies, implies_true, and_true]
  exact ⟨rounds_13_4 N, rounds_13_7 N⟩)
theorem grun_13 {R : Type} (q_53 : Tp_53 R) (q_52 : Tp_52 R) (q_54 : Tp_54 R) (q_12 : Tp_12 R) (m_13_7 : Tl_13_7 R) (m_13_4 : Tl_13_4 R) (x : aden ap_13 × hden hp_13) (k : KF R) : fnrun TT (EG_13 q_53 q_52 q_54 q_12) (drawAny TT WW) (LG_13 m_13_7 m_13_4) true Try.f13 (instA ap_13 x.1) (instH hp_13 x.2) k = Q_13 q_53 q_52 q_54 q_12 m_13_7 m_13_4 x (fun y => k (Pat.inst (.int .i64) y.1) (instH J0 y.2)) := by kernel_rfl
theorem run_13 {R : Type} (N : Nat) (x : aden ap_13 × hden hp_13) (k : KF R) : fnrun TT (E_13 (R := R) N) (drawAny TT WW) (L_13 N) true Try.f13 (instA ap_13 x.1) (instH hp_13 x.2) k = p_13 N x (fun y => k (Pat.inst (.int .i64) y.1) (instH J0 y.2)) := (grun_13 (p_53 N) (p_52 N) (p_54 N) (p_12 N) (l_13_7 N N) (l_13_4 N N) x k).trans (by kernel_rfl)
theorem good_13 {R : Type} (N : Nat) : GD (X := R) Try.prog QQ AA 13 ap_13 hp_13 (fun (x : aden ap_13 × hden hp_13) k => p_13 N x (fun y => k (Pat.inst (.int .i64) y.1) (instH J0 y.2))) :=
  gd_loud (E := E_13 N) (p := fun (x : aden ap_13 × hden hp_13) k => p_13 N x (fun y => k (Pat.inst (.int .i64) y.1) (instH J0 y.2))) mixed tyok (eok_13 N) Try.func13 (by kernel_rfl) (by kernel_rfl) (by kernel_rfl) (by kernel_rfl) (lok_13 N) (fun x k => run_13 N x k)

def ap_75 : List Pat := [.vec (.int .u64) 128, .vec (.int .u64) 128, .sl 0]
def hp_75 : List (Option (Pat × Nat)) := [some (.lst (.arr 128 (.int .u64)), 29)]
abbrev Tp_75 (R : Type) : Type := ((Nat → Int) × (Nat → Int) × Unit × Unit) × ((List (Nat → Int)) × Unit) → ((Nat → Int) → Option R) → Option R
def Q_75 {R : Type} (q_95 : Tp_95 R) (q_48 : Tp_48 R) (x : ((Nat → Int) × (Nat → Int) × Unit × Unit) × ((List (Nat → Int)) × Unit)) (κ0 : (Nat → Int) → Option R) : Option R :=
let a2630 := x.1.1
let a2631 := x.1.2.1
let l2632 := x.2.1
q_95 ((a2630, a2631, ()), ()) (fun y2633 =>
let a2634 : (Nat → Int) := y2633
let l2635 : (List (Nat → Int)) := [a2634]
bif (decide ((List.length l2635 + List.length l2632) * 1024 ≤ 140737488355328) && true) then (
let l2636 : (List (Nat → Int)) := (l2635 ++ l2632)
q_48 ((l2636, ()), ()) (fun y2637 =>
let a2638 : (Nat → Int) := y2637
κ0 a2638)) else none)
def p_75 {R : Type} (N : Nat) (x : ((Nat → Int) × (Nat → Int) × Unit × Unit) × ((List (Nat → Int)) × Unit)) (κ0 : (Nat → Int) → Option R) : Option R := Q_75 (p_95 N) (p_48 N) x κ0
def EG_75 {R : Type} (q_95 : Tp_95 R) (q_48 : Tp_48 R) : Env R := ((Env.base QQ LN AA).add 95 ap_95 hp_95 (fun (x : aden ap_95 × hden hp_95) k => q_95 x (fun y => k (Pat.inst (.vec (.int .u64) 128) y) (instH hp_95 x.2)))).add 48 ap_48 hp_48 (fun (x : aden ap_48 × hden hp_48) k => q_48 x (fun y => k (Pat.inst (.vec (.int .u64) 128) y) (instH hp_48 x.2)))
def LG_75 {R : Type} : Loops R := Loops.none
def E_75 {R : Type} (N : Nat) : Env R := EG_75 (p_95 N) (p_48 N)
theorem eok_75 {R : Type} (N : Nat) : EK Try.prog (E_75 (R := R) N) := ek_add (ek_add (ek_base _ _ _) (good_95 N)) (good_48 N)
def L_75 {R : Type} (N : Nat) : Loops R := LG_75
theorem lok_75 {R : Type} (N : Nat) : LOK 1 TT (E_75 (R := R) N) (drawAny TT WW) (L_75 N) (bodyOf Try.f75) := loops_nil (by kernel_rfl)
theorem grun_75 {R : Type} (q_95 : Tp_95 R) (q_48 : Tp_48 R) (x : aden ap_75 × hden hp_75) (k : KF R) : fnrun TT (EG_75 q_95 q_48) (drawAny TT WW) (LG_75) true Try.f75 (instA ap_75 x.1) (instH hp_75 x.2) k = Q_75 q_95 q_48 x (fun y => k (Pat.inst (.vec (.int .u64) 128) y) (instH hp_75 x.2)) := by kernel_rfl
theorem run_75 {R : Type} (N : Nat) (x : aden ap_75 × hden hp_75) (k : KF R) : fnrun TT (E_75 (R := R) N) (drawAny TT WW) (L_75 N) true Try.f75 (instA ap_75 x.1) (instH hp_75 x.2) k = p_75 N x (fun y => k (Pat.inst (.vec (.int .u64) 128) y) (instH hp_75 x.2)) := (grun_75 (p_95 N) (p_48 N) x k).trans (by kernel_rfl)
theorem good_75 {R : Type} (N : Nat) : GD (X := R) Try.prog QQ AA 75 ap_75 hp_75 (fun (x : aden ap_75 × hden hp_75) k => p_75 N x (fun y => k (Pat.inst (.vec (.int .u64) 128) y) (instH hp_75 x.2))) :=
  gd_quiet (E := E_75 N) (p := fun (x : aden ap_75 × hden hp_75) κ => p_75 N x (fun y => κ (Pat.inst (.vec (.int .u64) 128) y))) mixed tyok (eok_75 N) Try.func75 (by kernel_rfl) (by kernel_rfl) (lok_75 N) (fun x k => run_75 N x k)

def ap_39 : List Pat := [.ptr 0 [], .node (.fcons (.int .i64) (.fcons (.int .i64) (.fnil))), .node (.fcons Z7 (.fcons Z7 (.fcons Z7 (.fnil))))]
def hp_39 : List (Option (Pat × Nat)) := J0
abbrev Tp_39 (R : Type) : Type := (Unit × (Int × (Int × Unit)) × ((Int × (Int × Unit)) × ((Int × (Int × Unit)) × ((Int × (Int × Unit)) × Unit))) × Unit) × Y1 → ((Int × Y1) → Option R) → Option R
def Q_39 {R : Type} (q_9 : Tp_9 R) (q_75 : Tp_75 R) (q_12 : Tp_12 R) (x : (Unit × (Int × (Int × Unit)) × ((Int × (Int × Unit)) × ((Int × (Int × Unit)) × ((Int × (Int × Unit)) × Unit))) × Unit) × Y1) (κ0 : (Int × Y1) → Option R) : Option R :=
let i2597 := x.1.2.1.1
let l2618 := x.2.2.2.2.1
q_9 (((), x.1.2.2.1.2.1, ()), (x.2.1, x.2.2.1, x.2.2.2.1, l2618, ())) (fun y2619 =>
let a2620 := y2619.1
let i2621 := y2619.2.1
bif (i2621 != 0) then (
κ0 (i2621, (x.2.1, x.2.2.1, x.2.2.2.1, l2618, ()))) else (
q_9 (((), x.1.2.2.1.2.2.1, ()), (x.2.1, x.2.2.1, x.2.2.2.1, l2618, ())) (fun y2622 =>
let a2623 := y2622.1
let i2624 := y2622.2.1
bif (i2624 != 0) then (
κ0 (i2624, (x.2.1, x.2.2.1, x.2.2.2.1, l2618, ()))) else (
q_9 (((), x.1.2.2.1.1, ()), (x.2.1, x.2.2.1, x.2.2.2.1, l2618, ())) (fun y2625 =>
let a2626 := y2625.1
let i2627 := y2625.2.1
bif (i2627 != 0) then (
κ0 (i2627, (x.2.1, x.2.2.1, x.2.2.2.1, l2618, ()))) else (
bif (i2597 == 0) then (
let a2628 : (Nat → Int) := (Sch.zero (.arr 128 (.int .u64)))
let l2629 : (List (Nat → Int)) := [a2628]
q_75 ((a2620, a2623, (), ()), (l2629, ())) (fun y2639 =>
let a2640 : (Nat → Int) := y2639
q_12 (((), x.1.2.2.1.1, a2640, ()), (x.2.1, x.2.2.1, x.2.2.2.1, l2618, ())) (fun y2641 =>
let i2642 := y2641.1
let l2656 := y2641.2.2.2.2.1
κ0 (i2642, (y2641.2.1, y2641.2.2.1, y2641.2.2.2.1, l2656, ()))))) else (
let l2657 : (List (Nat → Int)) := [a2626]
q_75 ((a2620, a2623, (), ()), (l2657, ())) (fun y2658 =>
let a2659 : (Nat → Int) := y2658
q_12 (((), x.1.2.2.1.1, a2659, ()), (x.2.1, x.2.2.1, x.2.2.2.1, l2618, ())) (fun y2660 =>
let i2661 := y2660.1
let l2675 := y2660.2.2.2.2.1
κ0 (i2661, (y2660.2.1, y2660.2.2.1, y2660.2.2.2.1, l2675, ())))))))))))
def p_39 {R : Type} (N : Nat) (x : (Unit × (Int × (Int × Unit)) × ((Int × (Int × Unit)) × ((Int × (Int × Unit)) × ((Int × (Int × Unit)) × Unit))) × Unit) × Y1) (κ0 : (Int × Y1) → Option R) : Option R := Q_39 (p_9 N) (p_75 N) (p_12 N) x κ0
def EG_39 {R : Type} (q_9 : Tp_9 R) (q_75 : Tp_75 R) (q_12 : Tp_12 R) : Env R := (((Env.base QQ LN AA).add 9 ap_9 hp_9 (fun (x : aden ap_9 × hden hp_9) k => q_9 x (fun y => k (Pat.inst (.tup (.fcons (.vec (.int .u64) 128) (.fcons (.int .i64) (.fnil)))) y) (instH hp_9 x.2)))).add 75 ap_75 hp_75 (fun (x : aden ap_75 × hden hp_75) k => q_75 x (fun y => k (Pat.inst (.vec (.int .u64) 128) y) (instH hp_75 x.2)))).add 12 ap_12 hp_12 (fun (x : aden ap_12 × hden hp_12) k => q_12 x (fun y => k (Pat.inst (.int .i64) y.1) (instH J0 y.2)))
def LG_39 {R : Type} : Loops R := Loops.none
def E_39 {R : Type} (N : Nat) : Env R := EG_39 (p_9 N) (p_75 N) (p_12 N)
theorem eok_39 {R : Type} (N : Nat) : EK Try.prog (E_39 (R := R) N) := ek_add (ek_add (ek_add (ek_base _ _ _) (good_9 N)) (good_75 N)) (good_12 N)
def L_39 {R : Type} (N : Nat) : Loops R := LG_39
theorem lok_39 {R : Type} (N : Nat) : LOK 4 TT (E_39 (R := R) N) (drawAny TT WW) (L_39 N) (bodyOf Try.f39) := loops_nil (by kernel_rfl)
theorem grun_39 {R : Type} (q_9 : Tp_9 R) (q_75 : Tp_75 R) (q_12 : Tp_12 R) (x : aden ap_39 × hden hp_39) (k : KF R) : fnrun TT (EG_39 q_9 q_75 q_12) (drawAny TT WW) (LG_39) true Try.f39 (instA ap_39 x.1) (instH hp_39 x.2) k = Q_39 q_9 q_75 q_12 x (fun y => k (Pat.inst (.int .i64) y.1) (instH J0 y.2)) := by kernel_rfl
theorem run_39 {R : Type} (N : Nat) (x : aden ap_39 × hden hp_39) (k : KF R) : fnrun TT (E_39 (R := R) N) (drawAny TT WW) (L_39 N) true Try.f39 (instA ap_39 x.1) (instH hp_39 x.2) k = p_39 N x (fun y => k (Pat.inst (.int .i64) y.1) (instH J0 y.2)) := (grun_39 (p_9 N) (p_75 N) (p_12 N) x k).trans (by kernel_rfl)
theorem good_39 {R : Type} (N : Nat) : GD (X := R) Try.prog QQ AA 39 ap_39 hp_39 (fun (x : aden ap_39 × hden hp_39) k => p_39 N x (fun y => k (Pat.inst (.int .i64) y.1) (instH J0 y.2))) :=
  gd_loud (E := E_39 N) (p := fun (x : aden ap_39 × hden hp_39) k => p_39 N x (fun y => k (Pat.inst (.int .i64) y.1) (instH J0 y.2))) mixed tyok (eok_39 N) Try.func39 (by kernel_rfl) (by kernel_rfl) (by kernel_rfl) (by kernel_rfl) (lok_39 N) (fun x k => run_39 N x k)

def lv_31_5 : Live := [(0, none), (2, none), (4, none), (7, none), (8, none)]
def pt_31_5 : SPat := ⟨[(0, .ptr 0 []), (2, .int .i64), (4, .ptr 4 []), (7, .ptr 5 []), (8, .int .i64)], [some (Z4, 49), some (Z3, 147), some (Z1, 145), some (.lst (.arr 128 (.int .u64)), 29), some (Z7, 69), some (Z2, 132)]⟩
def px_31_5_0 : SPat := ⟨[(6, .int .i64)], J0⟩
def px_31_5_1 : SPat := ⟨[], J0⟩
def lo_31_5 : Exit → Live
  | .ret => [(6, none)]
  | .exit 0 => []
  | _ => []
def ap_31 : List Pat := [.ptr 0 [], .node (.fcons (.int .i64) (.fcons (.int .i64) (.fnil))), .int .i64]
def hp_31 : List (Option (Pat × Nat)) := J0
abbrev Tl_31_5 (R : Type) : Type := ((Unit × Int × Unit × Unit × Int × Unit) × ((Unit × (Y0 × Unit)) × Y11 × Y5 × (List (Nat → Int)) × (Int × (Int × Unit)) × Y8 × Unit)) → (((Int × Unit) × Y1) → Option R) → (((Unit) × Y1) → Option R) → Option R
abbrev Tp_31 (R : Type) : Type := (Unit × (Int × (Int × Unit)) × Int × Unit) × Y1 → ((Int × Y1) → Option R) → Option R
def C_31_5 {R : Type} (q_35 : Tp_35 R) (q_39 : Tp_39 R) (rec : ((Unit × Int × Unit × Unit × Int × Unit) × ((Unit × (Y0 × Unit)) × Y11 × Y5 × (List (Nat → Int)) × (Int × (Int × Unit)) × Y8 × Unit)) → Option R) (x : ((Unit × Int × Unit × Unit × Int × Unit) × ((Unit × (Y0 × Unit)) × Y11 × Y5 × (List (Nat → Int)) × (Int × (Int × Unit)) × Y8 × Unit))) (κ0 : ((Int × Unit) × Y1) → Option R) (κ1 : ((Unit) × Y1) → Option R) : Option R :=
let i2531 := x.1.2.1
let i2532 := x.1.2.2.2.2.1
let i2539 := x.2.1.2.1.2.2.2.2.2.2.1
let l2546 := x.2.2.2.2.1
bif (decide (i2532 < i2539)) then (
q_35 (((), x.2.2.2.2.2.1, i2531, i2532, (), ()), (x.2.1, x.2.2.1, x.2.2.2.1, l2546, x.2.2.2.2.2.2.1, ())) (fun y2562 =>
let i2569 := y2562.1.2.1
let l2583 := y2562.2.2.2.2.1
bif (i2569 != 0) then (
κ0 (y2562.1.2, (y2562.2.1, y2562.2.2.1, y2562.2.2.2.1, l2583, ()))) else (
q_39 (((), x.2.2.2.2.2.1, y2562.1.1, ()), (y2562.2.1, y2562.2.2.1, y2562.2.2.2.1, l2583, ())) (fun y2676 =>
let i2677 := y2676.1
let l2691 := y2676.2.2.2.2.1
bif (i2677 != 0) then (
κ0 ((i2677, ()), (y2676.2.1, y2676.2.2.1, y2676.2.2.2.1, l2691, ()))) else (
let i2692 : Int := addA .i64 i2532 1
rec (((), i2531, (), (), i2692, ()), (y2676.2.1, y2676.2.2.1, y2676.2.2.2.1, l2691, x.2.2.2.2.2.1, y2562.2.2.2.2.2.1, ()))))))) else (
κ1 ((), (x.2.1, x.2.2.1, x.2.2.2.1, l2546, ())))
def B_31_5 {R : Type} (N : Nat) (rec : ((Unit × Int × Unit × Unit × Int × Unit) × ((Unit × (Y0 × Unit)) × Y11 × Y5 × (List (Nat → Int)) × (Int × (Int × Unit)) × Y8 × Unit)) → Option R) (x : ((Unit × Int × Unit × Unit × Int × Unit) × ((Unit × (Y0 × Unit)) × Y11 × Y5 × (List (Nat → Int)) × (Int × (Int × Unit)) × Y8 × Unit))) (κ0 : ((Int × Unit) × Y1) → Option R) (κ1 : ((Unit) × Y1) → Option R) : Option R := C_31_5 (p_35 N) (p_39 N) rec x κ0 κ1
def l_31_5 {R : Type} (N : Nat) : Nat → ((Unit × Int × Unit × Unit × Int × Unit) × ((Unit × (Y0 × Unit)) × Y11 × Y5 × (List (Nat → Int)) × (Int × (Int × Unit)) × Y8 × Unit)) → (((Int × Unit) × Y1) → Option R) → (((Unit) × Y1) → Option R) → Option R
  | 0, _, _, _ => none
  | n + 1, x, κ0, κ1 => B_31_5 N (fun y => l_31_5 N n y κ0 κ1) x κ0 κ1
def Q_31 {R : Type} (q_33 : Tp_33 R) (q_30 : Tp_30 R) (q_35 : Tp_35 R) (q_39 : Tp_39 R) (m_31_5 : Tl_31_5 R) (x : (Unit × (Int × (Int × Unit)) × Int × Unit) × Y1) (κ0 : (Int × Y1) → Option R) : Option R :=
let i2498 := x.1.2.1.1
let i2499 := x.1.2.1.2.1
let i2500 := x.1.2.2.1
let l2514 := x.2.2.2.2.1
q_33 ((x.2.1.2.1, x.1.2.1, i2500, ()), ()) (fun y2515 =>
q_30 ((x.2.1.2.1, i2498, i2499, ()), ()) (fun y2529 =>
let i2530 : Int := y2529
m_31_5 (((), i2500, (), (), i2530, ()), (x.2.1, x.2.2.1, x.2.2.2.1, l2514, x.1.2.1, y2515.2.1, ())) (fun y2693 =>
let i2694 := y2693.1.1
let l2708 := y2693.2.2.2.2.1
κ0 (i2694, (y2693.2.1, y2693.2.2.1, y2693.2.2.2.1, l2708, ()))) (fun y2709 =>
let l2723 := y2709.2.2.2.2.1
κ0 (0, (y2709.2.1, y2709.2.2.1, y2709.2.2.2.1, l2723, ())))))
def p_31 {R : Type} (N : Nat) (x : (Unit × (Int × (Int × Unit)) × Int × Unit) × Y1) (κ0 : (Int × Y1) → Option R) : Option R := Q_31 (p_33 N) (p_30 N) (p_35 N) (p_39 N) (l_31_5 N N) x κ0
def EG_31 {R : Type} (q_33 : Tp_33 R) (q_30 : Tp_30 R) (q_35 : Tp_35 R) (q_39 : Tp_39 R) : Env R := ((((Env.base QQ LN AA).add 33 ap_33 hp_33 (fun (x : aden ap_33 × hden hp_33) k => q_33 x (fun y => k (Pat.inst (.ptr 0 []) y.1) (instH hp_33 x.2 ++ instH [some (Z2, 132)] y.2)))).add 30 ap_30 hp_30 (fun (x : aden ap_30 × hden hp_30) k => q_30 x (fun y => k (Pat.inst (.int .i64) y) (instH hp_30 x.2)))).add 35 ap_35 hp_35 (fun (x : aden ap_35 × hden hp_35) k => q_35 x (fun y => k (Pat.inst (.tup (.fcons (.node (.fcons Z7 (.fcons Z7 (.fcons Z7 (.fnil))))) (.fcons (.int .i64) (.fnil)))) y.1) (instH J1 y.2)))).add 39 ap_39 hp_39 (fun (x : aden ap_39 × hden hp_39) k => q_39 x (fun y => k (Pat.inst (.int .i64) y.1) (instH J0 y.2)))
def LG_31 {R : Type} (m_31_5 : Tl_31_5 R) : Loops R := (Loops.none).add 5 (loopBy 4 lv_31_5 pt_31_5 (fun x k => m_31_5 x (fun y => k .ret (px_31_5_0.inst y)) (fun y => k (.exit 0) (px_31_5_1.inst y))))
def E_31 {R : Type} (N : Nat) : Env R := EG_31 (p_33 N) (p_30 N) (p_35 N) (p_39 N)
theorem eok_31 {R : Type} (N : Nat) : EK Try.prog (E_31 (R := R) N) := ek_add (ek_add (ek_add (ek_add (ek_base _ _ _) (good_33 N)) (good_30 N)) (good_35 N)) (good_39 N)
def L_31 {R : Type} (N : Nat) : Loops R := LG_31 (l_31_5 N N)
theorem gstep_31_5 {R : Type} (q_33 : Tp_33 R) (q_30 : Tp_30 R) (q_35 : Tp_35 R) (q_39 : Tp_39 R) (m_31_5 : Tl_31_5 R) (n : Nat) (x : pt_31_5.den) (k : Exit → St → Option R) : iter 4 lv_31_5 lo_31_5 (aexec TT (EG_31 q_33 q_30 q_35 q_39) (drawAny TT WW) (LG_31 m_31_5) (loopAt 5 (bodyOf Try.f31))) (n + 1) (pt_31_5.inst x) k = C_31_5 q_35 q_39 (fun y => iter 4 lv_31_5 lo_31_5 (aexec TT (EG_31 q_33 q_30 q_35 q_39) (drawAny TT WW) (LG_31 m_31_5) (loopAt 5 (bodyOf Try.f31))) n (pt_31_5.inst y) k) x (fun y => k .ret (px_31_5_0.inst y)) (fun y => k (.exit 0) (px_31_5_1.inst y)) := by kernel_rfl
theorem step_31_5 {R : Type} (N n : Nat) (x : pt_31_5.den) (k : Exit → St → Option R) : iter 4 lv_31_5 lo_31_5 (aexec TT (E_31 (R := R) N) (drawAny TT WW) (L_31 N) (loopAt 5 (bodyOf Try.f31))) (n + 1) (pt_31_5.inst x) k = B_31_5 N (fun y => iter 4 lv_31_5 lo_31_5 (aexec TT (E_31 (R := R) N) (drawAny TT WW) (L_31 N) (loopAt 5 (bodyOf Try.f31))) n (pt_31_5.inst y) k) x (fun y => k .ret (px_31_5_0.inst y)) (fun y => k (.exit 0) (px_31_5_1.inst y)) := (gstep_31_5 (p_33 N) (p_30 N) (p_35 N) (p_39 N) (l_31_5 N N) n x k).trans (by kernel_rfl)
theorem eq_31_5 {R : Type} (N : Nat) : ∀ (n : Nat) (x : pt_31_5.den) (k : Exit → St → Option R), iter 4 lv_31_5 lo_31_5 (aexec TT (E_31 (R := R) N) (drawAny TT WW) (L_31 N) (loopAt 5 (bodyOf Try.f31))) n (pt_31_5.inst x) k = l_31_5 N n x (fun y => k .ret (px_31_5_0.inst y)) (fun y => k (.exit 0) (px_31_5_1.inst y)) :=
  iter_eq (K := Exit → St → Option R) (ks := fun k => k) (l := fun n (x : pt_31_5.den) k => l_31_5 N n x (fun y => k .ret (px_31_5_0.inst y)) (fun y => k (.exit 0) (px_31_5_1.inst y))) (B := fun (rec : pt_31_5.den → Option R) (x : pt_31_5.den) k => B_31_5 N rec x (fun y => k .ret (px_31_5_0.inst y)) (fun y => k (.exit 0) (px_31_5_1.inst y))) (fun _ _ => rfl) (fun _ _ _ => rfl) (fun n x k => step_31_5 N n x k)
theorem rounds_31_5 {R : Type} (N : Nat) : Rounds 4 TT (E_31 (R := R) N) (drawAny TT WW) (L_31 N) 5 (loopAt 5 (bodyOf Try.f31)) :=
  rounds_of (p := pt_31_5) (l := fun (x : pt_31_5.den) k => l_31_5 N N x (fun y => k .ret (px_31_5_0.inst y)) (fun y => k (.exit 0) (px_31_5_1.inst y))) (fun s k => rfl) (fun x k => eq_31_5 N N x k)
theorem loops_31 : loopsIn (bodyOf Try.f31) = [(5, loopAt 5 (bodyOf Try.f31))] := by kernel_rfl
theorem lok_31 {R : Type} (N : Nat) : LOK 4 TT (E_31 (R := R) N) (drawAny TT WW) (L_31 N) (bodyOf Try.f31) := loops_all loops_31 (by
  simp only [List.forall_mem_cons, List.not_mem_nil, false_implies, implies_true, and_true]
  exact rounds_31_5 N)
theorem grun_31 {R : Type} (q_33 : Tp_33 R) (q_30 : Tp_30 R) (q_35 : Tp_35 R) (q_39 : Tp_39 R) (m_31_5 : Tl_31_5 R) (x : aden ap_31 × hden hp_31) (k : KF R) : fnrun TT (EG_31 q_33 q_30 q_35 q_39) (drawAny TT WW) (LG_31 m_31_5) true Try.f31 (instA ap_31 x.1) (instH hp_31 x.2) k = Q_31 q_33 q_30 q_35 q_39 m_31_5 x (fun y => k (Pat.inst (.int .i64) y.1) (instH J0 y.2)) := by kernel_rfl
theorem run_31 {R : Type} (N : Nat) (x : aden ap_31 × hden hp_31) (k : KF R) : fnrun TT (E_31 (R := R) N) (drawAny TT WW) (L_31 N) true Try.f31 (instA ap_31 x.1) (instH hp_31 x.2) k = p_31 N x (fun y => k (Pat.inst (.int .i64) y.1) (instH J0 y.2)) := (grun_31 (p_33 N) (p_30 N) (p_35 N) (p_39 N) (l_31_5 N N) x k).trans (by kernel_rfl)
theorem good_31 {R : Type} (N : Nat) : GD (X := R) Try.prog QQ AA 31 ap_31 hp_31 (fun (x : aden ap_31 × hden hp_31) k => p_31 N x (fun y => k (Pat.inst (.int .i64) y.1) (instH J0 y.2))) :=
  gd_loud (E := E_31 N) (p := fun (x : aden ap_31 × hden hp_31) k => p_31 N x (fun y => k (Pat.inst (.int .i64) y.1) (instH J0 y.2))) mixed tyok (eok_31 N) Try.func31 (by kernel_rfl) (by kernel_rfl) (by kernel_rfl) (by kernel_rfl) (lok_31 N) (fun x k => run_31 N x k)

def lv_15_3 : Live := [(1, none), (3, some (.fcons (.arr 29 (.fnil)) (.arr 128 (.int .u64)), 52)), (4, none)]
def pt_15_3 : SPat := ⟨[(1, .ptr 0 []), (3, .sl 1), (4, .int .i64)], [some (Z0, 45), some (.fam 29 (.arr 128 (.int .u64)), 52)]⟩
def px_15_3_0 : SPat := ⟨[(3, .sl 0)], [some (.fam 29 (.arr 128 (.int .u64)), 52)]⟩
def lo_15_3 : Exit → Live
  | .exit 0 => [(3, none)]
  | _ => []
def ap_15 : List Pat := [.node (.fcons (.int .i64) (.fcons (.int .i64) (.fcons (.int .i64) (.fcons (.int .i64) (.fcons (.int .i64) (.fcons (.int .i64) (.fcons (.int .i64) (.fcons (.int .i64) (.fnil)))))))))]
def hp_15 : List (Option (Pat × Nat)) := []
abbrev Tl_15_3 (R : Type) : Type := (Y18 × (Y0 × (List (List (Nat → Int))) × Unit)) → (((Unit × Unit) × ((List (List (Nat → Int))) × Unit)) → Option R) → Option R
abbrev Tp_15 (R : Type) : Type := (Y0 × Unit) × (Unit) → ((Unit × ((List (List (Nat → Int))) × Unit)) → Option R) → Option R
def C_15_3 {R : Type} (rec : (Y18 × (Y0 × (List (List (Nat → Int))) × Unit)) → Option R) (x : (Y18 × (Y0 × (List (List (Nat → Int))) × Unit))) (κ0 : ((Unit × Unit) × ((List (List (Nat → Int))) × Unit)) → Option R) : Option R :=
let i2774 := x.1.2.2.1
let i2777 := x.2.1.2.2.1
let i2780 := x.2.1.2.2.2.2.2.1
let r2783 := x.2.2.1
bif (decide (i2774 < i2777)) then (
bif decide (0 ≤ i2780) then (
bif decide (i2780 ≤ i2780) then (
bif decide (((1024 : Nat) : Int) * i2780 ≤ 281474976710656) then (
bif decide (i2780 ≤ 9223372036854775807) then (
let l2784 : (List (Nat → Int)) := List.replicate ((Int.toNat i2780)) (Sch.zero (.arr 128 (.int .u64)))
let r2785 : (List (List (Nat → Int))) := [l2784]
bif (((decide ((List.length r2783 + List.length r2785) * 24 ≤ 140737488355328) && true) && true) && true) then (
let r2786 : (List (List (Nat → Int))) := (r2783 ++ r2785)
let i2787 : Int := addA .i64 i2774 1
rec (((), (), i2787, ()), (x.2.1, r2786, ()))) else none) else none) else none) else none) else none) else (
κ0 (((), ()), x.2.2))
def B_15_3 {R : Type} (N : Nat) (rec : (Y18 × (Y0 × (List (List (Nat → Int))) × Unit)) → Option R) (x : (Y18 × (Y0 × (List (List (Nat → Int))) × Unit))) (κ0 : ((Unit × Unit) × ((List (List (Nat → Int))) × Unit)) → Option R) : Option R := C_15_3 rec x κ0
def l_15_3 {R : Type} (N : Nat) : Nat → (Y18 × (Y0 × (List (List (Nat → Int))) × Unit)) → (((Unit × Unit) × ((List (List (Nat → Int))) × Unit)) → Option R) → Option R
  | 0, _, _ => none
  | n + 1, x, κ0 => B_15_3 N (fun y => l_15_3 N n y κ0) x κ0
def Q_15 {R : Type} (m_15_3 : Tl_15_3 R) (x : (Y0 × Unit) × (Unit)) (κ0 : (Unit × ((List (List (Nat → Int))) × Unit)) → Option R) : Option R :=
m_15_3 (((), (), 0, ()), (x.1.1, [], ())) (fun y2788 =>
κ0 ((), y2788.2))
def p_15 {R : Type} (N : Nat) (x : (Y0 × Unit) × (Unit)) (κ0 : (Unit × ((List (List (Nat → Int))) × Unit)) → Option R) : Option R := Q_15 (l_15_3 N N) x κ0
def EG_15 {R : Type} : Env R := Env.base QQ LN AA
def LG_15 {R : Type} (m_15_3 : Tl_15_3 R) : Loops R := (Loops.none).add 3 (loopBy 0 lv_15_3 pt_15_3 (fun x k => m_15_3 x (fun y => k (.exit 0) (px_15_3_0.inst y))))
def E_15 {R : Type} (N : Nat) : Env R := EG_15
theorem eok_15 {R : Type} (N : Nat) : EK Try.prog (E_15 (R := R) N) := ek_base _ _ _
def L_15 {R : Type} (N : Nat) : Loops R := LG_15 (l_15_3 N N)
theorem gstep_15_3 {R : Type} (m_15_3 : Tl_15_3 R) (n : Nat) (x : pt_15_3.den) (k : Exit → St → Option R) : iter 0 lv_15_3 lo_15_3 (aexec TT (EG_15) (drawAny TT WW) (LG_15 m_15_3) (loopAt 3 (bodyOf Try.f15))) (n + 1) (pt_15_3.inst x) k = C_15_3 (fun y => iter 0 lv_15_3 lo_15_3 (aexec TT (EG_15) (drawAny TT WW) (LG_15 m_15_3) (loopAt 3 (bodyOf Try.f15))) n (pt_15_3.inst y) k) x (fun y => k (.exit 0) (px_15_3_0.inst y)) := by kernel_rfl
theorem step_15_3 {R : Type} (N n : Nat) (x : pt_15_3.den) (k : Exit → St → Option R) : iter 0 lv_15_3 lo_15_3 (aexec TT (E_15 (R := R) N) (drawAny TT WW) (L_15 N) (loopAt 3 (bodyOf Try.f15))) (n + 1) (pt_15_3.inst x) k = B_15_3 N (fun y => iter 0 lv_15_3 lo_15_3 (aexec TT (E_15 (R := R) N) (drawAny TT WW) (L_15 N) (loopAt 3 (bodyOf Try.f15))) n (pt_15_3.inst y) k) x (fun y => k (.exit 0) (px_15_3_0.inst y)) := (gstep_15_3 (l_15_3 N N) n x k).trans (by kernel_rfl)
theorem eq_15_3 {R : Type} (N : Nat) : ∀ (n : Nat) (x : pt_15_3.den) (k : Exit → St → Option R), iter 0 lv_15_3 lo_15_3 (aexec TT (E_15 (R := R) N) (drawAny TT WW) (L_15 N) (loopAt 3 (bodyOf Try.f15))) n (pt_15_3.inst x) k = l_15_3 N n x (fun y => k (.exit 0) (px_15_3_0.inst y)) :=
  iter_eq (K := Exit → St → Option R) (ks := fun k => k) (l := fun n (x : pt_15_3.den) k => l_15_3 N n x (fun y => k (.exit 0) (px_15_3_0.inst y))) (B := fun (rec : pt_15_3.den → Option R) (x : pt_15_3.den) k => B_15_3 N rec x (fun y => k (.exit 0) (px_15_3_0.inst y))) (fun _ _ => rfl) (fun _ _ _ => rfl) (fun n x k => step_15_3 N n x k)
theorem rounds_15_3 {R : Type} (N : Nat) : Rounds 0 TT (E_15 (R := R) N) (drawAny TT WW) (L_15 N) 3 (loopAt 3 (bodyOf Try.f15)) :=
  rounds_of (p := pt_15_3) (l := fun (x : pt_15_3.den) k => l_15_3 N N x (fun y => k (.exit 0) (px_15_3_0.inst y))) (fun s k => rfl) (fun x k => eq_15_3 N N x k)
theorem loops_15 : loopsIn (bodyOf Try.f15) = [(3, loopAt 3 (bodyOf Try.f15))] := by kernel_rfl
theorem lok_15 {R : Type} (N : Nat) : LOK 0 TT (E_15 (R := R) N) (drawAny TT WW) (L_15 N) (bodyOf Try.f15) := loops_all loops_15 (by
  simp only [List.forall_mem_cons, List.not_mem_nil, false_implies, implies_true, and_true]
  exact rounds_15_3 N)
theorem grun_15 {R : Type} (m_15_3 : Tl_15_3 R) (x : aden ap_15 × hden hp_15) (k : KF R) : fnrun TT (EG_15) (drawAny TT WW) (LG_15 m_15_3) true Try.f15 (instA ap_15 x.1) (instH hp_15 x.2) k = Q_15 m_15_3 x (fun y => k (Pat.inst (.sl 0) y.1) (instH [some (.fam 29 (.arr 128 (.int .u64)), 52)] y.2)) := by kernel_rfl
theorem run_15 {R : Type} (N : Nat) (x : aden ap_15 × hden hp_15) (k : KF R) : fnrun TT (E_15 (R := R) N) (drawAny TT WW) (L_15 N) true Try.f15 (instA ap_15 x.1) (instH hp_15 x.2) k = p_15 N x (fun y => k (Pat.inst (.sl 0) y.1) (instH [some (.fam 29 (.arr 128 (.int .u64)), 52)] y.2)) := (grun_15 (l_15_3 N N) x k).trans (by kernel_rfl)
theorem good_15 {R : Type} (N : Nat) : GD (X := R) Try.prog QQ AA 15 ap_15 hp_15 (fun (x : aden ap_15 × hden hp_15) k => p_15 N x (fun y => k (Pat.inst (.sl 0) y.1) (instH [some (.fam 29 (.arr 128 (.int .u64)), 52)] y.2))) :=
  gd_loud (E := E_15 N) (p := fun (x : aden ap_15 × hden hp_15) k => p_15 N x (fun y => k (Pat.inst (.sl 0) y.1) (instH [some (.fam 29 (.arr 128 (.int .u64)), 52)] y.2))) mixed tyok (eok_15 N) Try.func15 (by kernel_rfl) (by kernel_rfl) (by kernel_rfl) (by kernel_rfl) (lok_15 N) (fun x k => run_15 N x k)

def lv_17_6 : Live := [(0, none), (3, none), (4, none), (12, none), (13, none), (20, none), (21, none)]
def pt_17_6 : SPat := ⟨[(0, .ptr 0 []), (3, .sl 4), (4, .int .i64), (12, .int .i64), (13, .int .i64), (20, .int .i64), (21, .int .i64)], J2⟩
def px_17_6_0 : SPat := ⟨[(0, .ptr 0 []), (3, .sl 4), (12, .int .i64), (13, .int .i64)], J2⟩
def lo_17_6 : Exit → Live
  | .exit 2 => [(0, none), (3, none), (12, none), (13, none)]
  | _ => []
def lv_17_3 : Live := [(0, none), (3, none), (12, none), (13, none)]
def pt_17_3 : SPat := ⟨[(0, .ptr 0 []), (3, .sl 4), (12, .int .i64), (13, .int .i64)], J2⟩
def px_17_3_0 : SPat := ⟨[(3, .sl 4)], J2⟩
def lo_17_3 : Exit → Live
  | .exit 0 => [(3, none)]
  | _ => []
def ap_17 : List Pat := [.ptr 0 []]
def hp_17 : List (Option (Pat × Nat)) := J0
abbrev Tl_17_6 (R : Type) : Type := ((Unit × Unit × Int × Int × Int × Int × Int × Unit) × Y3) → ((Y13 × Y3) → Option R) → Option R
abbrev Tl_17_3 (R : Type) : Type := (Y13 × Y3) → (((Unit × Unit) × Y3) → Option R) → Option R
abbrev Tp_17 (R : Type) : Type := (Unit × Unit) × Y1 → ((Unit × Y3) → Option R) → Option R
def C_17_6 {R : Type} (q_9 : Tp_9 R) (rec : ((Unit × Unit × Int × Int × Int × Int × Int × Unit) × Y3) → Option R) (x : ((Unit × Unit × Int × Int × Int × Int × Int × Unit) × Y3)) (κ0 : (Y13 × Y3) → Option R) : Option R :=
let i2811 := x.1.2.2.1
let i2812 := x.1.2.2.2.1
let i2813 := x.1.2.2.2.2.1
let i2814 := x.1.2.2.2.2.2.1
let i2815 := x.1.2.2.2.2.2.2.1
let l2829 := x.2.2.2.2.1
let r2830 := x.2.2.2.2.2.1
bif (decide (i2815 < i2814)) then (
bif decide (0 ≤ i2811) then (
bif decide (i2811 < ((List.length r2830) : Int)) then (
q_9 (((), (i2811, (i2815, ())), ()), (x.2.1, x.2.2.1, x.2.2.2.1, l2829, ())) (fun y2831 =>
let a2832 := y2831.1
bif decide (0 ≤ i2815) then (
bif decide (i2815 < ((List.length ((List.getD r2830 ((Int.toNat i2811)) []))) : Int)) then (
let r2834 : (List (List (Nat → Int))) := (List.set r2830 ((Int.toNat i2811)) ((List.set ((List.getD r2830 ((Int.toNat i2811)) [])) ((Int.toNat i2815)) a2832)))
let i2835 : Int := addA .i64 i2815 1
rec (((), (), i2811, i2812, i2813, i2814, i2835, ()), (x.2.1, x.2.2.1, x.2.2.2.1, l2829, r2834, ()))) else none) else none)) else none) else none) else (
κ0 (((), (), i2812, i2813, ()), (x.2.1, x.2.2.1, x.2.2.2.1, l2829, r2830, ())))
def C_17_3 {R : Type} (m_17_6 : Tl_17_6 R) (rec : (Y13 × Y3) → Option R) (x : (Y13 × Y3)) (κ0 : ((Unit × Unit) × Y3) → Option R) : Option R :=
let i2793 := x.1.2.2.1
let i2794 := x.1.2.2.2.1
let l2808 := x.2.2.2.2.1
let r2809 := x.2.2.2.2.2.1
bif (decide (i2794 < i2793)) then (
bif decide (0 ≤ i2794) then (
bif decide (i2794 < ((List.length r2809) : Int)) then (
let i2810 : Int := (((List.length ((List.getD r2809 ((Int.toNat i2794)) []))) : Nat) : Int)
m_17_6 (((), (), i2794, i2793, i2794, i2810, 0, ()), (x.2.1, x.2.2.1, x.2.2.2.1, l2808, r2809, ())) (fun y2836 =>
let i2837 := y2836.1.2.2.1
let i2838 := y2836.1.2.2.2.1
let l2852 := y2836.2.2.2.2.1
let r2853 := y2836.2.2.2.2.2.1
let i2854 : Int := addA .i64 i2838 1
rec (((), (), i2837, i2854, ()), (y2836.2.1, y2836.2.2.1, y2836.2.2.2.1, l2852, r2853, ())))) else none) else none) else (
κ0 (((), ()), (x.2.1, x.2.2.1, x.2.2.2.1, l2808, r2809, ())))
def B_17_6 {R : Type} (N : Nat) (rec : ((Unit × Unit × Int × Int × Int × Int × Int × Unit) × Y3) → Option R) (x : ((Unit × Unit × Int × Int × Int × Int × Int × Unit) × Y3)) (κ0 : (Y13 × Y3) → Option R) : Option R := C_17_6 (p_9 N) rec x κ0
def l_17_6 {R : Type} (N : Nat) : Nat → ((Unit × Unit × Int × Int × Int × Int × Int × Unit) × Y3) → ((Y13 × Y3) → Option R) → Option R
  | 0, _, _ => none
  | n + 1, x, κ0 => B_17_6 N (fun y => l_17_6 N n y κ0) x κ0
def B_17_3 {R : Type} (N : Nat) (rec : (Y13 × Y3) → Option R) (x : (Y13 × Y3)) (κ0 : ((Unit × Unit) × Y3) → Option R) : Option R := C_17_3 (l_17_6 N N) rec x κ0
def l_17_3 {R : Type} (N : Nat) : Nat → (Y13 × Y3) → (((Unit × Unit) × Y3) → Option R) → Option R
  | 0, _, _ => none
  | n + 1, x, κ0 => B_17_3 N (fun y => l_17_3 N n y κ0) x κ0
def Q_17 {R : Type} (q_15 : Tp_15 R) (q_9 : Tp_9 R) (m_17_6 : Tl_17_6 R) (m_17_3 : Tl_17_3 R) (x : (Unit × Unit) × Y1) (κ0 : (Unit × Y3) → Option R) : Option R :=
let l2753 := x.2.2.2.2.1
q_15 (x.2.1.2, ()) (fun y2790 =>
let r2791 := y2790.2.1
let i2792 : Int := (((List.length r2791) : Nat) : Int)
m_17_3 (((), (), i2792, 0, ()), (x.2.1, x.2.2.1, x.2.2.2.1, l2753, r2791, ())) (fun y2855 =>
let l2869 := y2855.2.2.2.2.1
let r2870 := y2855.2.2.2.2.2.1
κ0 ((), (y2855.2.1, y2855.2.2.1, y2855.2.2.2.1, l2869, r2870, ()))))
def p_17 {R : Type} (N : Nat) (x : (Unit × Unit) × Y1) (κ0 : (Unit × Y3) → Option R) : Option R := Q_17 (p_15 N) (p_9 N) (l_17_6 N N) (l_17_3 N N) x κ0
def EG_17 {R : Type} (q_15 : Tp_15 R) (q_9 : Tp_9 R) : Env R := ((Env.base QQ LN AA).add 15 ap_15 hp_15 (fun (x : aden ap_15 × hden hp_15) k => q_15 x (fun y => k (Pat.inst (.sl 0) y.1) (instH [some (.fam 29 (.arr 128 (.int .u64)), 52)] y.2)))).add 9 ap_9 hp_9 (fun (x : aden ap_9 × hden hp_9) k => q_9 x (fun y => k (Pat.inst (.tup (.fcons (.vec (.int .u64) 128) (.fcons (.int .i64) (.fnil)))) y) (instH hp_9 x.2)))
def LG_17 {R : Type} (m_17_6 : Tl_17_6 R) (m_17_3 : Tl_17_3 R) : Loops R := ((Loops.none).add 6 (loopBy 4 lv_17_6 pt_17_6 (fun x k => m_17_6 x (fun y => k (.exit 2) (px_17_6_0.inst y))))).add 3 (loopBy 4 lv_17_3 pt_17_3 (fun x k => m_17_3 x (fun y => k (.exit 0) (px_17_3_0.inst y))))
def E_17 {R : Type} (N : Nat) : Env R := EG_17 (p_15 N) (p_9 N)
theorem eok_17 {R : Type} (N : Nat) : EK Try.prog (E_17 (R := R) N) := ek_add (ek_add (ek_base _ _ _) (good_15 N)) (good_9 N)
def L_17 {R : Type} (N : Nat) : Loops R := LG_17 (l_17_6 N N) (l_17_3 N N)
theorem gstep_17_6 {R : Type} (q_15 : Tp_15 R) (q_9 : Tp_9 R) (m_17_6 : Tl_17_6 R) (m_17_3 : Tl_17_3 R) (n : Nat) (x : pt_17_6.den) (k : Exit → St → Option R) : iter 4 lv_17_6 lo_17_6 (aexec TT (EG_17 q_15 q_9) (drawAny TT WW) (LG_17 m_17_6 m_17_3) (loopAt 6 (bodyOf Try.f17))) (n + 1) (pt_17_6.inst x) k = C_17_6 q_9 (fun y => iter 4 lv_17_6 lo_17_6 (aexec TT (EG_17 q_15 q_9) (drawAny TT WW) (LG_17 m_17_6 m_17_3) (loopAt 6 (bodyOf Try.f17))) n (pt_17_6.inst y) k) x (fun y => k (.exit 2) (px_17_6_0.inst y)) := by kernel_rfl
theorem step_17_6 {R : Type} (N n : Nat) (x : pt_17_6.den) (k : Exit → St → Option R) : iter 4 lv_17_6 lo_17_6 (aexec TT (E_17 (R := R) N) (drawAny TT WW) (L_17 N) (loopAt 6 (bodyOf Try.f17))) (n + 1) (pt_17_6.inst x) k = B_17_6 N (fun y => iter 4 lv_17_6 lo_17_6 (aexec TT (E_17 (R := R) N) (drawAny TT WW) (L_17 N) (loopAt 6 (bodyOf Try.f17))) n (pt_17_6.inst y) k) x (fun y => k (.exit 2) (px_17_6_0.inst y)) := (gstep_17_6 (p_15 N) (p_9 N) (l_17_6 N N) (l_17_3 N N) n x k).trans (by kernel_rfl)
theorem eq_17_6 {R : Type} (N : Nat) : ∀ (n : Nat) (x : pt_17_6.den) (k : Exit → St → Option R), iter 4 lv_17_6 lo_17_6 (aexec TT (E_17 (R := R) N) (drawAny TT WW) (L_17 N) (loopAt 6 (bodyOf Try.f17))) n (pt_17_6.inst x) k = l_17_6 N n x (fun y => k (.exit 2) (px_17_6_0.inst y)) :=
  iter_eq (K := Exit → St → Option R) (ks := fun k => k) (l := fun n (x : pt_17_6.den) k => l_17_6 N n x (fun y => k (.exit 2) (px_17_6_0.inst y))) (B := fun (rec : pt_17_6.den → Option R) (x : pt_17_6.den) k => B_17_6 N rec x (fun y => k (.exit 2) (px_17_6_0.inst y))) (fun _ _ => rfl) (fun _ _ _ => rfl) (fun n x k => step_17_6 N n x k)
theorem rounds_17_6 {R : Type} (N : Nat) : Rounds 4 TT (E_17 (R := R) N) (drawAny TT WW) (L_17 N) 6 (loopAt 6 (bodyOf Try.f17)) :=
  rounds_of (p := pt_17_6) (l := fun (x : pt_17_6.den) k => l_17_6 N N x (fun y => k (.exit 2) (px_17_6_0.inst y))) (fun s k => rfl) (fun x k => eq_17_6 N N x k)
theorem gstep_17_3 {R : Type} (q_15 : Tp_15 R) (q_9 : Tp_9 R) (m_17_6 : Tl_17_6 R) (m_17_3 : Tl_17_3 R) (n : Nat) (x : pt_17_3.den) (k : Exit → St → Option R) : iter 4 lv_17_3 lo_17_3 (aexec TT (EG_17 q_15 q_9) (drawAny TT WW) (LG_17 m_17_6 m_17_3) (loopAt 3 (bodyOf Try.f17))) (n + 1) (pt_17_3.inst x) k = C_17_3 m_17_6 (fun y => iter 4 lv_17_3 lo_17_3 (aexec TT (EG_17 q_15 q_9) (drawAny TT WW) (LG_17 m_17_6 m_17_3) (loopAt 3 (bodyOf Try.f17))) n (pt_17_3.inst y) k) x (fun y => k (.exit 0) (px_17_3_0.inst y)) := by kernel_rfl
theorem step_17_3 {R : Type} (N n : Nat) (x : pt_17_3.den) (k : Exit → St → Option R) : iter 4 lv_17_3 lo_17_3 (aexec TT (E_17 (R := R) N) (drawAny TT WW) (L_17 N) (loopAt 3 (bodyOf Try.f17))) (n + 1) (pt_17_3.inst x) k = B_17_3 N (fun y => iter 4 lv_17_3 lo_17_3 (aexec TT (E_17 (R := R) N) (drawAny TT WW) (L_17 N) (loopAt 3 (bodyOf Try.f17))) n (pt_17_3.inst y) k) x (fun y => k (.exit 0) (px_17_3_0.inst y)) := (gstep_17_3 (p_15 N) (p_9 N) (l_17_6 N N) (l_17_3 N N) n x k).trans (by kernel_rfl)
theorem eq_17_3 {R : Type} (N : Nat) : ∀ (n : Nat) (x : pt_17_3.den) (k : Exit → St → Option R), iter 4 lv_17_3 lo_17_3 (aexec TT (E_17 (R := R) N) (drawAny TT WW) (L_17 N) (loopAt 3 (bodyOf Try.f17))) n (pt_17_3.inst x) k = l_17_3 N n x (fun y => k (.exit 0) (px_17_3_0.inst y)) :=
  iter_eq (K := Exit → St → Option R) (ks := fun k => k) (l := fun n (x : pt_17_3.den) k => l_17_3 N n x (fun y => k (.exit 0) (px_17_3_0.inst y))) (B := fun (rec : pt_17_3.den → Option R) (x : pt_17_3.den) k => B_17_3 N rec x (fun y => k (.exit 0) (px_17_3_0.inst y))) (fun _ _ => rfl) (fun _ _ _ => rfl) (fun n x k => step_17_3 N n x k)
theorem rounds_17_3 {R : Type} (N : Nat) : Rounds 4 TT (E_17 (R := R) N) (drawAny TT WW) (L_17 N) 3 (loopAt 3 (bodyOf Try.f17)) :=
  rounds_of (p := pt_17_3) (l := fun (x : pt_17_3.den) k => l_17_3 N N x (fun y => k (.exit 0) (px_17_3_0.inst y))) (fun s k => rfl) (fun x k => eq_17_3 N N x k)
theorem loops_17 : loopsIn (bodyOf Try.f17) = [(3, loopAt 3 (bodyOf Try.f17)), (6, loopAt 6 (bodyOf Try.f17))] := by kernel_rfl
theorem lok_17 {R : Type} (N : Nat) : LOK 4 TT (E_17 (R := R) N) (drawAny TT WW) (L_17 N) (bodyOf Try.f17) := loops_all loops_17 (by
  simp only [List.forall_mem_cons, List.not_mem_nil, false_implies, implies_true, and_true]
  exact ⟨rounds_17_3 N, rounds_17_6 N⟩)
theorem grun_17 {R : Type} (q_15 : Tp_15 R) (q_9 : Tp_9 R) (m_17_6 : Tl_17_6 R) (m_17_3 : Tl_17_3 R) (x : aden ap_17 × hden hp_17) (k : KF R) : fnrun TT (EG_17 q_15 q_9) (drawAny TT WW) (LG_17 m_17_6 m_17_3) true Try.f17 (instA ap_17 x.1) (instH hp_17 x.2) k = Q_17 q_15 q_9 m_17_6 m_17_3 x (fun y => k (Pat.inst (.sl 4) y.1) (instH J2 y.2)) := by kernel_rfl
theorem run_17 {R : Type} (N : Nat) (x : aden ap_17 × hden hp_17) (k : KF R) : fnrun TT (E_17 (R := R) N) (drawAny TT WW) (L_17 N) true Try.f17 (instA ap_17 x.1) (instH hp_17 x.2) k = p_17 N x (fun y => k (Pat.inst (.sl 4) y.1) (instH J2 y.2)) := (grun_17 (p_15 N) (p_9 N) (l_17_6 N N) (l_17_3 N N) x k).trans (by kernel_rfl)
theorem good_17 {R : Type} (N : Nat) : GD (X := R) Try.prog QQ AA 17 ap_17 hp_17 (fun (x : aden ap_17 × hden hp_17) k => p_17 N x (fun y => k (Pat.inst (.sl 4) y.1) (instH J2 y.2))) :=
  gd_loud (E := E_17 N) (p := fun (x : aden ap_17 × hden hp_17) k => p_17 N x (fun y => k (Pat.inst (.sl 4) y.1) (instH J2 y.2))) mixed tyok (eok_17 N) Try.func17 (by kernel_rfl) (by kernel_rfl) (by kernel_rfl) (by kernel_rfl) (lok_17 N) (fun x k => run_17 N x k)

def ap_71 : List Pat := [.node (.fcons (.int .i64) (.fcons (.int .i64) (.fcons (.int .i64) (.fcons (.int .i64) (.fcons (.int .i64) (.fcons (.int .i64) (.fcons (.int .i64) (.fcons (.int .i64) (.fnil))))))))), .int .i64, .int .i64]
def hp_71 : List (Option (Pat × Nat)) := []
abbrev Tp_71 (R : Type) : Type := (Y0 × Int × Int × Unit) × (Unit) → (Bool → Option R) → Option R
def Q_71 {R : Type} (x : (Y0 × Int × Int × Unit) × (Unit)) (κ0 : Bool → Option R) : Option R :=
let i3008 := x.1.1.1
let i3016 := x.1.2.1
let i3017 := x.1.2.2.1
bif (i3008 == 3) then (
bif (i3016 == 0) then (
κ0 ((decide (i3017 < 2)))) else (
κ0 false)) else (
κ0 ((i3008 == 2)))
def p_71 {R : Type} (N : Nat) (x : (Y0 × Int × Int × Unit) × (Unit)) (κ0 : Bool → Option R) : Option R := Q_71 x κ0
def EG_71 {R : Type} : Env R := Env.base QQ LN AA
def LG_71 {R : Type} : Loops R := Loops.none
def E_71 {R : Type} (N : Nat) : Env R := EG_71
theorem eok_71 {R : Type} (N : Nat) : EK Try.prog (E_71 (R := R) N) := ek_base _ _ _
def L_71 {R : Type} (N : Nat) : Loops R := LG_71
theorem lok_71 {R : Type} (N : Nat) : LOK 0 TT (E_71 (R := R) N) (drawAny TT WW) (L_71 N) (bodyOf Try.f71) := loops_nil (by kernel_rfl)
theorem grun_71 {R : Type} (x : aden ap_71 × hden hp_71) (k : KF R) : fnrun TT (EG_71) (drawAny TT WW) (LG_71) true Try.f71 (instA ap_71 x.1) (instH hp_71 x.2) k = Q_71 x (fun y => k (Pat.inst (.bool) y) (instH hp_71 x.2)) := by kernel_rfl
theorem run_71 {R : Type} (N : Nat) (x : aden ap_71 × hden hp_71) (k : KF R) : fnrun TT (E_71 (R := R) N) (drawAny TT WW) (L_71 N) true Try.f71 (instA ap_71 x.1) (instH hp_71 x.2) k = p_71 N x (fun y => k (Pat.inst (.bool) y) (instH hp_71 x.2)) := (grun_71 x k).trans (by kernel_rfl)
theorem good_71 {R : Type} (N : Nat) : GD (X := R) Try.prog QQ AA 71 ap_71 hp_71 (fun (x : aden ap_71 × hden hp_71) k => p_71 N x (fun y => k (Pat.inst (.bool) y) (instH hp_71 x.2))) :=
  gd_quiet (E := E_71 N) (p := fun (x : aden ap_71 × hden hp_71) κ => p_71 N x (fun y => κ (Pat.inst (.bool) y))) mixed tyok (eok_71 N) Try.func71 (by kernel_rfl) (by kernel_rfl) (lok_71 N) (fun x k => run_71 N x k)

def lv_60_6 : Live := [(0, none), (2, none), (3, none), (4, none), (5, none)]
def pt_60_6 : SPat := ⟨[(0, .ros (.arr 128 (.int .u64))), (2, .ptr 0 []), (3, .ptr 1 []), (4, .int .i64), (5, .int .i64)], J3⟩
def px_60_6_0 : SPat := ⟨[(0, .ros (.arr 128 (.int .u64))), (2, .ptr 0 []), (3, .ptr 1 []), (4, .int .i64)], J3⟩
def lo_60_6 : Exit → Live
  | .exit 2 => [(0, none), (2, none), (3, none), (4, none)]
  | _ => []
def lv_60_3 : Live := [(0, none), (2, none), (3, none), (4, none)]
def pt_60_3 : SPat := ⟨[(0, .ros (.arr 128 (.int .u64))), (2, .ptr 0 []), (3, .ptr 1 []), (4, .int .i64)], J3⟩
def px_60_3_0 : SPat := ⟨[(2, .ptr 0 []), (3, .ptr 1 [])], J3⟩
def lo_60_3 : Exit → Live
  | .exit 0 => [(2, none), (3, none)]
  | _ => []
def ap_60 : List Pat := [.ros (.arr 128 (.int .u64))]
def hp_60 : List (Option (Pat × Nat)) := []
abbrev Tl_60_6 (R : Type) : Type := (((List (Nat → Int)) × Unit × Unit × Int × Int × Unit) × Y2) → ((((List (Nat → Int)) × Unit × Unit × Int × Unit) × Y2) → Option R) → Option R
abbrev Tl_60_3 (R : Type) : Type := (((List (Nat → Int)) × Unit × Unit × Int × Unit) × Y2) → (Y15 → Option R) → Option R
abbrev Tp_60 (R : Type) : Type := ((List (Nat → Int)) × Unit) × (Unit) → ((Nat → Int) → Option R) → Option R
def C_60_6 {R : Type} (rec : (((List (Nat → Int)) × Unit × Unit × Int × Int × Unit) × Y2) → Option R) (x : (((List (Nat → Int)) × Unit × Unit × Int × Int × Unit) × Y2)) (κ0 : (((List (Nat → Int)) × Unit × Unit × Int × Unit) × Y2) → Option R) : Option R :=
let l3071 := x.1.1
let i3072 := x.1.2.2.2.1
let i3073 := x.1.2.2.2.2.1
let a3074 := x.2.1
let a3075 := x.2.2.1
let i3076 : Int := (((List.length l3071) : Nat) : Int)
bif (decide (i3073 < i3076)) then (
bif decide (0 ≤ i3072) then (
bif decide (i3072 < (128 : Int)) then (
let i3077 : Int := (a3075 ((Int.toNat i3072)))
bif decide (0 ≤ i3073) then (
bif decide (i3073 < ((List.length l3071) : Int)) then (
let p3078 : (Nat → Int) := (List.getD l3071 ((Int.toNat i3073)) (Sch.zero (.arr 128 (.int .u64))))
bif decide (0 ≤ i3072) then (
bif decide (i3072 < (128 : Int)) then (
let i3079 : Int := (p3078 ((Int.toNat i3072)))
let i3080 : Int := xorA .u64 i3077 i3079
bif decide (0 ≤ i3072) then (
bif decide (i3072 < (128 : Int)) then (
let a3081 : (Nat → Int) := (upd a3075 ((Int.toNat i3072)) i3080)
let i3082 : Int := addA .i64 i3073 1
rec ((l3071, (), (), i3072, i3082, ()), (a3074, a3081, ()))) else none) else none) else none) else none) else none) else none) else none) else none) else (
κ0 ((l3071, (), (), i3072, ()), (a3074, a3075, ())))
def C_60_3 {R : Type} (m_60_6 : Tl_60_6 R) (rec : (((List (Nat → Int)) × Unit × Unit × Int × Unit) × Y2) → Option R) (x : (((List (Nat → Int)) × Unit × Unit × Int × Unit) × Y2)) (κ0 : Y15 → Option R) : Option R :=
let l3067 := x.1.1
let i3068 := x.1.2.2.2.1
let a3069 := x.2.1
let a3070 := x.2.2.1
bif (decide (i3068 < 128)) then (
m_60_6 ((l3067, (), (), i3068, 0, ()), (a3069, a3070, ())) (fun y3083 =>
let l3084 := y3083.1.1
let i3085 := y3083.1.2.2.2.1
let a3086 := y3083.2.1
let a3087 := y3083.2.2.1
let i3088 : Int := addA .i64 i3085 1
rec ((l3084, (), (), i3088, ()), (a3086, a3087, ())))) else (
κ0 (((), (), ()), (a3069, a3070, ())))
def B_60_6 {R : Type} (N : Nat) (rec : (((List (Nat → Int)) × Unit × Unit × Int × Int × Unit) × Y2) → Option R) (x : (((List (Nat → Int)) × Unit × Unit × Int × Int × Unit) × Y2)) (κ0 : (((List (Nat → Int)) × Unit × Unit × Int × Unit) × Y2) → Option R) : Option R := C_60_6 rec x κ0
def l_60_6 {R : Type} (N : Nat) : Nat → (((List (Nat → Int)) × Unit × Unit × Int × Int × Unit) × Y2) → ((((List (Nat → Int)) × Unit × Unit × Int × Unit) × Y2) → Option R) → Option R
  | 0, _, _ => none
  | n + 1, x, κ0 => B_60_6 N (fun y => l_60_6 N n y κ0) x κ0
def B_60_3 {R : Type} (N : Nat) (rec : (((List (Nat → Int)) × Unit × Unit × Int × Unit) × Y2) → Option R) (x : (((List (Nat → Int)) × Unit × Unit × Int × Unit) × Y2)) (κ0 : Y15 → Option R) : Option R := C_60_3 (l_60_6 N N) rec x κ0
def l_60_3 {R : Type} (N : Nat) : Nat → (((List (Nat → Int)) × Unit × Unit × Int × Unit) × Y2) → (Y15 → Option R) → Option R
  | 0, _, _ => none
  | n + 1, x, κ0 => B_60_3 N (fun y => l_60_3 N n y κ0) x κ0
def Q_60 {R : Type} (m_60_6 : Tl_60_6 R) (m_60_3 : Tl_60_3 R) (x : ((List (Nat → Int)) × Unit) × (Unit)) (κ0 : (Nat → Int) → Option R) : Option R :=
let l3066 := x.1.1
m_60_3 ((l3066, (), (), 0, ()), ((Sch.zero (.arr 128 (.int .u64))), (Sch.zero (.arr 128 (.int .u64))), ())) (fun y3089 =>
let a3091 := y3089.2.2.1
κ0 a3091)
def p_60 {R : Type} (N : Nat) (x : ((List (Nat → Int)) × Unit) × (Unit)) (κ0 : (Nat → Int) → Option R) : Option R := Q_60 (l_60_6 N N) (l_60_3 N N) x κ0
def EG_60 {R : Type} : Env R := Env.base QQ LN AA
def LG_60 {R : Type} (m_60_6 : Tl_60_6 R) (m_60_3 : Tl_60_3 R) : Loops R := ((Loops.none).add 6 (loopBy 0 lv_60_6 pt_60_6 (fun x k => m_60_6 x (fun y => k (.exit 2) (px_60_6_0.inst y))))).add 3 (loopBy 0 lv_60_3 pt_60_3 (fun x k => m_60_3 x (fun y => k (.exit 0) (px_60_3_0.inst y))))
def E_60 {R : Type} (N : Nat) : Env R := EG_60
theorem eok_60 {R : Type} (N : Nat) : EK Try.prog (E_60 (R := R) N) := ek_base _ _ _
def L_60 {R : Type} (N : Nat) : Loops R := LG_60 (l_60_6 N N) (l_60_3 N N)
theorem gstep_60_6 {R : Type} (m_60_6 : Tl_60_6 R) (m_60_3 : Tl_60_3 R) (n : Nat) (x : pt_60_6.den) (k : Exit → St → Option R) : iter 0 lv_60_6 lo_60_6 (aexec TT (EG_60) (drawAny TT WW) (LG_60 m_60_6 m_60_3) (loopAt 6 (bodyOf Try.f60))) (n + 1) (pt_60_6.inst x) k = C_60_6 (fun y => iter 0 lv_60_6 lo_60_6 (aexec TT (EG_60) (drawAny TT WW) (LG_60 m_60_6 m_60_3) (loopAt 6 (bodyOf Try.f60))) n (pt_60_6.inst y) k) x (fun y => k (.exit 2) (px_60_6_0.inst y)) := by kernel_rfl
theorem step_60_6 {R : Type} (N n : Nat) (x : pt_60_6.den) (k : Exit → St → Option R) : iter 0 lv_60_6 lo_60_6 (aexec TT (E_60 (R := R) N) (drawAny TT WW) (L_60 N) (loopAt 6 (bodyOf Try.f60))) (n + 1) (pt_60_6.inst x) k = B_60_6 N (fun y => iter 0 lv_60_6 lo_60_6 (aexec TT (E_60 (R := R) N) (drawAny TT WW) (L_60 N) (loopAt 6 (bodyOf Try.f60))) n (pt_60_6.inst y) k) x (fun y => k (.exit 2) (px_60_6_0.inst y)) := (gstep_60_6 (l_60_6 N N) (l_60_3 N N) n x k).trans (by kernel_rfl)
theorem eq_60_6 {R : Type} (N : Nat) : ∀ (n : Nat) (x : pt_60_6.den) (k : Exit → St → Option R), iter 0 lv_60_6 lo_60_6 (aexec TT (E_60 (R := R) N) (drawAny TT WW) (L_60 N) (loopAt 6 (bodyOf Try.f60))) n (pt_60_6.inst x) k = l_60_6 N n x (fun y => k (.exit 2) (px_60_6_0.inst y)) :=
  iter_eq (K := Exit → St → Option R) (ks := fun k => k) (l := fun n (x : pt_60_6.den) k => l_60_6 N n x (fun y => k (.exit 2) (px_60_6_0.inst y))) (B := fun (rec : pt_60_6.den → Option R) (x : pt_60_6.den) k => B_60_6 N rec x (fun y => k (.exit 2) (px_60_6_0.inst y))) (fun _ _ => rfl) (fun _ _ _ => rfl) (fun n x k => step_60_6 N n x k)
theorem rounds_60_6 {R : Type} (N : Nat) : Rounds 0 TT (E_60 (R := R) N) (drawAny TT WW) (L_60 N) 6 (loopAt 6 (bodyOf Try.f60)) :=
  rounds_of (p := pt_60_6) (l := fun (x : pt_60_6.den) k => l_60_6 N N x (fun y => k (.exit 2) (px_60_6_0.inst y))) (fun s k => rfl) (fun x k => eq_60_6 N N x k)
theorem gstep_60_3 {R : Type} (m_60_6 : Tl_60_6 R) (m_60_3 : Tl_60_3 R) (n : Nat) (x : pt_60_3.den) (k : Exit → St → Option R) : iter 0 lv_60_3 lo_60_3 (aexec TT (EG_60) (drawAny TT WW) (LG_60 m_60_6 m_60_3) (loopAt 3 (bodyOf Try.f60))) (n + 1) (pt_60_3.inst x) k = C_60_3 m_60_6 (fun y => iter 0 lv_60_3 lo_60_3 (aexec TT (EG_60) (drawAny TT WW) (LG_60 m_60_6 m_60_3) (loopAt 3 (bodyOf Try.f60))) n (pt_60_3.inst y) k) x (fun y => k (.exit 0) (px_60_3_0.inst y)) := by kernel_rfl
theorem step_60_3 {R : Type} (N n : Nat) (x : pt_60_3.den) (k : Exit → St → Option R) : iter 0 lv_60_3 lo_60_3 (aexec TT (E_60 (R := R) N) (drawAny TT WW) (L_60 N) (loopAt 3 (bodyOf Try.f60))) (n + 1) (pt_60_3.inst x) k = B_60_3 N (fun y => iter 0 lv_60_3 lo_60_3 (aexec TT (E_60 (R := R) N) (drawAny TT WW) (L_60 N) (loopAt 3 (bodyOf Try.f60))) n (pt_60_3.inst y) k) x (fun y => k (.exit 0) (px_60_3_0.inst y)) := (gstep_60_3 (l_60_6 N N) (l_60_3 N N) n x k).trans (by kernel_rfl)
theorem eq_60_3 {R : Type} (N : Nat) : ∀ (n : Nat) (x : pt_60_3.den) (k : Exit → St → Option R), iter 0 lv_60_3 lo_60_3 (aexec TT (E_60 (R := R) N) (drawAny TT WW) (L_60 N) (loopAt 3 (bodyOf Try.f60))) n (pt_60_3.inst x) k = l_60_3 N n x (fun y => k (.exit 0) (px_60_3_0.inst y)) :=
  iter_eq (K := Exit → St → Option R) (ks := fun k => k) (l := fun n (x : pt_60_3.den) k => l_60_3 N n x (fun y => k (.exit 0) (px_60_3_0.inst y))) (B := fun (rec : pt_60_3.den → Option R) (x : pt_60_3.den) k => B_60_3 N rec x (fun y => k (.exit 0) (px_60_3_0.inst y))) (fun _ _ => rfl) (fun _ _ _ => rfl) (fun n x k => step_60_3 N n x k)
theorem rounds_60_3 {R : Type} (N : Nat) : Rounds 0 TT (E_60 (R := R) N) (drawAny TT WW) (L_60 N) 3 (loopAt 3 (bodyOf Try.f60)) :=
  rounds_of (p := pt_60_3) (l := fun (x : pt_60_3.den) k => l_60_3 N N x (fun y => k (.exit 0) (px_60_3_0.inst y))) (fun s k => rfl) (fun x k => eq_60_3 N N x k)
theorem loops_60 : loopsIn (bodyOf Try.f60) = [(3, loopAt 3 (bodyOf Try.f60)), (6, loopAt 6 (bodyOf Try.f60))] := by kernel_rfl
theorem lok_60 {R : Type} (N : Nat) : LOK 0 TT (E_60 (R := R) N) (drawAny TT WW) (L_60 N) (bodyOf Try.f60) := loops_all loops_60 (by
  simp only [List.forall_mem_cons, List.not_mem_nil, false_implies, implies_true, and_true]
  exact ⟨rounds_60_3 N, rounds_60_6 N⟩)
theorem grun_60 {R : Type} (m_60_6 : Tl_60_6 R) (m_60_3 : Tl_60_3 R) (x : aden ap_60 × hden hp_60) (k : KF R) : fnrun TT (EG_60) (drawAny TT WW) (LG_60 m_60_6 m_60_3) true Try.f60 (instA ap_60 x.1) (instH hp_60 x.2) k = Q_60 m_60_6 m_60_3 x (fun y => k (Pat.inst (.vec (.int .u64) 128) y) (instH hp_60 x.2)) := by kernel_rfl
theorem run_60 {R : Type} (N : Nat) (x : aden ap_60 × hden hp_60) (k : KF R) : fnrun TT (E_60 (R := R) N) (drawAny TT WW) (L_60 N) true Try.f60 (instA ap_60 x.1) (instH hp_60 x.2) k = p_60 N x (fun y => k (Pat.inst (.vec (.int .u64) 128) y) (instH hp_60 x.2)) := (grun_60 (l_60_6 N N) (l_60_3 N N) x k).trans (by kernel_rfl)
theorem good_60 {R : Type} (N : Nat) : GD (X := R) Try.prog QQ AA 60 ap_60 hp_60 (fun (x : aden ap_60 × hden hp_60) k => p_60 N x (fun y => k (Pat.inst (.vec (.int .u64) 128) y) (instH hp_60 x.2))) :=
  gd_quiet (E := E_60 N) (p := fun (x : aden ap_60 × hden hp_60) κ => p_60 N x (fun y => κ (Pat.inst (.vec (.int .u64) 128) y))) mixed tyok (eok_60 N) Try.func60 (by kernel_rfl) (by kernel_rfl) (lok_60 N) (fun x k => run_60 N x k)

def ap_119 : List Pat := [.int .u64, .int .u64]
def hp_119 : List (Option (Pat × Nat)) := []
abbrev Tp_119 (R : Type) : Type := (Int × Int × Unit) × (Unit) → (Int → Option R) → Option R
def Q_119 {R : Type} (x : (Int × Int × Unit) × (Unit)) (κ0 : Int → Option R) : Option R :=
let i3168 := x.1.1
let i3169 := x.1.2.1
let i3170 : Int := addA .u64 i3168 i3169
let i3171 : Int := remA .u64 i3168 4294967296
let i3172 : Int := mulA .u64 2 i3171
let i3173 : Int := remA .u64 i3169 4294967296
let i3174 : Int := mulA .u64 i3172 i3173
let i3175 : Int := addA .u64 i3170 i3174
κ0 i3175
def p_119 {R : Type} (N : Nat) (x : (Int × Int × Unit) × (Unit)) (κ0 : Int → Option R) : Option R := Q_119 x κ0
def EG_119 {R : Type} : Env R := Env.base QQ LN AA
def LG_119 {R : Type} : Loops R := Loops.none
def E_119 {R : Type} (N : Nat) : Env R := EG_119
theorem eok_119 {R : Type} (N : Nat) : EK Try.prog (E_119 (R := R) N) := ek_base _ _ _
def L_119 {R : Type} (N : Nat) : Loops R := LG_119
theorem lok_119 {R : Type} (N : Nat) : LOK 0 TT (E_119 (R := R) N) (drawAny TT WW) (L_119 N) (bodyOf Try.f119) := loops_nil (by kernel_rfl)
theorem grun_119 {R : Type} (x : aden ap_119 × hden hp_119) (k : KF R) : fnrun TT (EG_119) (drawAny TT WW) (LG_119) true Try.f119 (instA ap_119 x.1) (instH hp_119 x.2) k = Q_119 x (fun y => k (Pat.inst (.int .u64) y) (instH hp_119 x.2)) := by kernel_rfl
theorem run_119 {R : Type} (N : Nat) (x : aden ap_119 × hden hp_119) (k : KF R) : fnrun TT (E_119 (R := R) N) (drawAny TT WW) (L_119 N) true Try.f119 (instA ap_119 x.1) (instH hp_119 x.2) k = p_119 N x (fun y => k (Pat.inst (.int .u64) y) (instH hp_119 x.2)) := (grun_119 x k).trans (by kernel_rfl)
theorem good_119 {R : Type} (N : Nat) : GD (X := R) Try.prog QQ AA 119 ap_119 hp_119 (fun (x : aden ap_119 × hden hp_119) k => p_119 N x (fun y => k (Pat.inst (.int .u64) y) (instH hp_119 x.2))) :=
  gd_quiet (E := E_119 N) (p := fun (x : aden ap_119 × hden hp_119) κ => p_119 N x (fun y => κ (Pat.inst (.int .u64) y))) mixed tyok (eok_119 N) Try.func119 (by kernel_rfl) (by kernel_rfl) (lok_119 N) (fun x k => run_119 N x k)

def ap_118 : List Pat := [.int .u64, .int .u64, .int .u64]
def hp_118 : List (Option (Pat × Nat)) := []
abbrev Tp_118 (R : Type) : Type := (Int × Int × Int × Unit) × (Unit) → (Int → Option R) → Option R
def Q_118 {R : Type} (x : (Int × Int × Int × Unit) × (Unit)) (κ0 : Int → Option R) : Option R :=
let i3182 := x.1.1
let i3183 := x.1.2.1
let i3184 := x.1.2.2.1
bif decide (i3183 = 0) then none else (
let i3185 : Int := quoA .u64 i3182 i3183
bif decide (i3183 = 0) then none else (
let i3186 : Int := remA .u64 i3182 i3183
let i3187 : Int := mulA .u64 i3186 i3184
let i3188 : Int := addA .u64 i3185 i3187
κ0 i3188))
def p_118 {R : Type} (N : Nat) (x : (Int × Int × Int × Unit) × (Unit)) (κ0 : Int → Option R) : Option R := Q_118 x κ0
def EG_118 {R : Type} : Env R := Env.base QQ LN AA
def LG_118 {R : Type} : Loops R := Loops.none
def E_118 {R : Type} (N : Nat) : Env R := EG_118
theorem eok_118 {R : Type} (N : Nat) : EK Try.prog (E_118 (R := R) N) := ek_base _ _ _
def L_118 {R : Type} (N : Nat) : Loops R := LG_118
theorem lok_118 {R : Type} (N : Nat) : LOK 0 TT (E_118 (R := R) N) (drawAny TT WW) (L_118 N) (bodyOf Try.f118) := loops_nil (by kernel_rfl)
theorem grun_118 {R : Type} (x : aden ap_118 × hden hp_118) (k : KF R) : fnrun TT (EG_118) (drawAny TT WW) (LG_118) true Try.f118 (instA ap_118 x.1) (instH hp_118 x.2) k = Q_118 x (fun y => k (Pat.inst (.int .u64) y) (instH hp_118 x.2)) := by kernel_rfl
theorem run_118 {R : Type} (N : Nat) (x : aden ap_118 × hden hp_118) (k : KF R) : fnrun TT (E_118 (R := R) N) (drawAny TT WW) (L_118 N) true Try.f118 (instA ap_118 x.1) (instH hp_118 x.2) k = p_118 N x (fun y => k (Pat.inst (.int .u64) y) (instH hp_118 x.2)) := (grun_118 x k).trans (by kernel_rfl)
theorem good_118 {R : Type} (N : Nat) : GD (X := R) Try.prog QQ AA 118 ap_118 hp_118 (fun (x : aden ap_118 × hden hp_118) k => p_118 N x (fun y => k (Pat.inst (.int .u64) y) (instH hp_118 x.2))) :=
  gd_quiet (E := E_118 N) (p := fun (x : aden ap_118 × hden hp_118) κ => p_118 N x (fun y => κ (Pat.inst (.int .u64) y))) mixed tyok (eok_118 N) Try.func118 (by kernel_rfl) (by kernel_rfl) (lok_118 N) (fun x k => run_118 N x k)

def ap_114 : List Pat := [.vec (.int .u64) 4]
def hp_114 : List (Option (Pat × Nat)) := []
abbrev Tp_114 (R : Type) : Type := ((Nat → Int) × Unit) × (Unit) → ((Nat → Int) → Option R) → Option R
def Q_114 {R : Type} (q_119 : Tp_119 R) (q_118 : Tp_118 R) (x : ((Nat → Int) × Unit) × (Unit)) (κ0 : (Nat → Int) → Option R) : Option R :=
let a3165 := x.1.1
let i3166 : Int := (a3165 0)
let i3167 : Int := (a3165 1)
q_119 ((i3166, i3167, ()), ()) (fun y3176 =>
let i3177 : Int := y3176
let a3178 : (Nat → Int) := (upd a3165 0 i3177)
let i3179 : Int := (a3178 3)
let i3180 : Int := (a3178 0)
let i3181 : Int := xorA .u64 i3179 i3180
q_118 ((i3181, 4294967296, 4294967296, ()), ()) (fun y3189 =>
let i3190 : Int := y3189
let a3191 : (Nat → Int) := (upd a3178 3 i3190)
let i3192 : Int := (a3191 2)
let i3193 : Int := (a3191 3)
q_119 ((i3192, i3193, ()), ()) (fun y3194 =>
let i3195 : Int := y3194
let a3196 : (Nat → Int) := (upd a3191 2 i3195)
let i3197 : Int := (a3196 1)
let i3198 : Int := (a3196 2)
let i3199 : Int := xorA .u64 i3197 i3198
q_118 ((i3199, 16777216, 1099511627776, ()), ()) (fun y3200 =>
let i3201 : Int := y3200
let a3202 : (Nat → Int) := (upd a3196 1 i3201)
let i3203 : Int := (a3202 0)
let i3204 : Int := (a3202 1)
q_119 ((i3203, i3204, ()), ()) (fun y3205 =>
let i3206 : Int := y3205
let a3207 : (Nat → Int) := (upd a3202 0 i3206)
let i3208 : Int := (a3207 3)
let i3209 : Int := (a3207 0)
let i3210 : Int := xorA .u64 i3208 i3209
q_118 ((i3210, 65536, 281474976710656, ()), ()) (fun y3211 =>
let i3212 := y3211
let a3213 : (Nat → Int) := (upd a3207 3 i3212)
let i3214 : Int := (a3213 2)
let i3215 : Int := (a3213 3)
q_119 ((i3214, i3215, ()), ()) (fun y3216 =>
let i3217 : Int := y3216
let a3218 : (Nat → Int) := (upd a3213 2 i3217)
let i3219 : Int := (a3218 1)
let i3220 : Int := (a3218 2)
let i3221 : Int := xorA .u64 i3219 i3220
q_118 ((i3221, 9223372036854775808, 2, ()), ()) (fun y3222 =>
let i3223 := y3222
let a3224 : (Nat → Int) := (upd a3218 1 i3223)
κ0 a3224))))))))
def p_114 {R : Type} (N : Nat) (x : ((Nat → Int) × Unit) × (Unit)) (κ0 : (Nat → Int) → Option R) : Option R := Q_114 (p_119 N) (p_118 N) x κ0
def EG_114 {R : Type} (q_119 : Tp_119 R) (q_118 : Tp_118 R) : Env R := ((Env.base QQ LN AA).add 119 ap_119 hp_119 (fun (x : aden ap_119 × hden hp_119) k => q_119 x (fun y => k (Pat.inst (.int .u64) y) (instH hp_119 x.2)))).add 118 ap_118 hp_118 (fun (x : aden ap_118 × hden hp_118) k => q_118 x (fun y => k (Pat.inst (.int .u64) y) (instH hp_118 x.2)))
def LG_114 {R : Type} : Loops R := Loops.none
def E_114 {R : Type} (N : Nat) : Env R := EG_114 (p_119 N) (p_118 N)
theorem eok_114 {R : Type} (N : Nat) : EK Try.prog (E_114 (R := R) N) := ek_add (ek_add (ek_base _ _ _) (good_119 N)) (good_118 N)
def L_114 {R : Type} (N : Nat) : Loops R := LG_114
theorem lok_114 {R : Type} (N : Nat) : LOK 0 TT (E_114 (R := R) N) (drawAny TT WW) (L_114 N) (bodyOf Try.f114) := loops_nil (by kernel_rfl)
theorem grun_114 {R : Type} (q_119 : Tp_119 R) (q_118 : Tp_118 R) (x : aden ap_114 × hden hp_114) (k : KF R) : fnrun TT (EG_114 q_119 q_118) (drawAny TT WW) (LG_114) true Try.f114 (instA ap_114 x.1) (instH hp_114 x.2) k = Q_114 q_119 q_118 x (fun y => k (Pat.inst (.vec (.int .u64) 4) y) (instH hp_114 x.2)) := by kernel_rfl
theorem run_114 {R : Type} (N : Nat) (x : aden ap_114 × hden hp_114) (k : KF R) : fnrun TT (E_114 (R := R) N) (drawAny TT WW) (L_114 N) true Try.f114 (instA ap_114 x.1) (instH hp_114 x.2) k = p_114 N x (fun y => k (Pat.inst (.vec (.int .u64) 4) y) (instH hp_114 x.2)) := (grun_114 (p_119 N) (p_118 N) x k).trans (by kernel_rfl)
theorem good_114 {R : Type} (N : Nat) : GD (X := R) Try.prog QQ AA 114 ap_114 hp_114 (fun (x : aden ap_114 × hden hp_114) k => p_114 N x (fun y => k (Pat.inst (.vec (.int .u64) 4) y) (instH hp_114 x.2))) :=
  gd_quiet (E := E_114 N) (p := fun (x : aden ap_114 × hden hp_114) κ => p_114 N x (fun y => κ (Pat.inst (.vec (.int .u64) 4) y))) mixed tyok (eok_114 N) Try.func114 (by kernel_rfl) (by kernel_rfl) (lok_114 N) (fun x k => run_114 N x k)

def lv_104_7 : Live := [(1, none), (2, none), (3, none), (4, none), (5, none), (6, none)]
def pt_104_7 : SPat := ⟨[(1, .ptr 0 []), (2, .ptr 1 []), (3, .int .i64), (4, .ptr 2 []), (5, .ptr 3 []), (6, .int .i64)], [some (.vec (.int .u64) 16, 186), some (.vec (.int .u64) 16, 186), some (.vec (.int .i64) 4, 65), some (.vec (.int .u64) 4, 197)]⟩
def px_104_7_0 : SPat := ⟨[(1, .ptr 0 []), (2, .ptr 1 []), (3, .int .i64), (4, .ptr 2 []), (5, .ptr 3 [])], [some (.vec (.int .u64) 16, 186), some (.vec (.int .u64) 16, 186), some (.vec (.int .i64) 4, 65), some (.vec (.int .u64) 4, 197)]⟩
def lo_104_7 : Exit → Live
  | .exit 2 => [(1, none), (2, none), (3, none), (4, none), (5, none)]
  | _ => []
def lv_104_15 : Live := [(1, none), (2, none), (3, none), (4, none), (5, none), (7, none)]
def pt_104_15 : SPat := ⟨[(1, .ptr 0 []), (2, .ptr 1 []), (3, .int .i64), (4, .ptr 2 []), (5, .ptr 3 []), (7, .int .i64)], [some (.vec (.int .u64) 16, 186), some (.vec (.int .u64) 16, 186), some (.vec (.int .i64) 4, 65), some (.vec (.int .u64) 4, 197)]⟩
def px_104_15_0 : SPat := ⟨[(1, .ptr 0 []), (2, .ptr 1 []), (3, .int .i64)], [some (.vec (.int .u64) 16, 186), some (.vec (.int .u64) 16, 186)]⟩
def lo_104_15 : Exit → Live
  | .exit 4 => [(1, none), (2, none), (3, none)]
  | _ => []
def lv_104_2 : Live := [(1, none), (2, none), (3, none)]
def pt_104_2 : SPat := ⟨[(1, .ptr 0 []), (2, .ptr 1 []), (3, .int .i64)], [some (.vec (.int .u64) 16, 186), some (.vec (.int .u64) 16, 186)]⟩
def px_104_2_0 : SPat := ⟨[(1, .ptr 0 []), (2, .ptr 1 [])], [some (.vec (.int .u64) 16, 186), some (.vec (.int .u64) 16, 186)]⟩
def lo_104_2 : Exit → Live
  | .exit 0 => [(1, none), (2, none)]
  | _ => []
def ap_104 : List Pat := [.vec (.int .u64) 16]
def hp_104 : List (Option (Pat × Nat)) := []
abbrev Tl_104_7 (R : Type) : Type := Y10 → (((Unit × Unit × Int × Unit × Unit × Unit) × ((Nat → Int) × (Nat → Int) × (Nat → Int) × (Nat → Int) × Unit)) → Option R) → Option R
abbrev Tl_104_15 (R : Type) : Type := Y10 → ((Y18 × Y2) → Option R) → Option R
abbrev Tl_104_2 (R : Type) : Type := (Y18 × Y2) → (Y15 → Option R) → Option R
abbrev Tp_104 (R : Type) : Type := ((Nat → Int) × Unit) × (Unit) → ((Nat → Int) → Option R) → Option R
def C_104_7 {R : Type} (rec : Y10 → Option R) (x : Y10) (κ0 : ((Unit × Unit × Int × Unit × Unit × Unit) × ((Nat → Int) × (Nat → Int) × (Nat → Int) × (Nat → Int) × Unit)) → Option R) : Option R :=
let i3136 := x.1.2.2.1
let i3137 := x.1.2.2.2.2.2.1
let a3138 := x.2.1
let a3139 := x.2.2.1
let a3140 := x.2.2.2.1
let a3141 := x.2.2.2.2.1
bif (decide (i3137 < 4)) then (
let i3142 : Int := mulA .i64 4 i3137
let i3143 : Int := remA .i64 i3136 4
let i3144 : Int := addA .i64 i3142 i3143
bif decide (0 ≤ i3137) then (
bif decide (i3137 < (4 : Int)) then (
let a3145 : (Nat → Int) := (upd a3140 ((Int.toNat i3137)) i3144)
bif (decide (i3136 ≥ 4)) then (
let i3146 : Int := mulA .i64 4 i3137
let i3147 : Int := addA .i64 i3136 i3137
let i3148 : Int := remA .i64 i3147 4
let i3149 : Int := addA .i64 i3146 i3148
bif decide (0 ≤ i3137) then (
bif decide (i3137 < (4 : Int)) then (
let a3150 : (Nat → Int) := (upd a3145 ((Int.toNat i3137)) i3149)
bif decide (0 ≤ i3137) then (
bif decide (i3137 < (4 : Int)) then (
let i3151 : Int := (a3150 ((Int.toNat i3137)))
bif decide (0 ≤ i3151) then (
bif decide (i3151 < (16 : Int)) then (
let i3152 : Int := (a3138 ((Int.toNat i3151)))
bif decide (0 ≤ i3137) then (
bif decide (i3137 < (4 : Int)) then (
let a3153 : (Nat → Int) := (upd a3141 ((Int.toNat i3137)) i3152)
let i3154 : Int := addA .i64 i3137 1
rec (((), (), i3136, (), (), i3154, ()), (a3138, a3139, a3150, a3153, ()))) else none) else none) else none) else none) else none) else none) else none) else none) else (
bif decide (0 ≤ i3137) then (
bif decide (i3137 < (4 : Int)) then (
let i3155 : Int := (a3145 ((Int.toNat i3137)))
bif decide (0 ≤ i3155) then (
bif decide (i3155 < (16 : Int)) then (
let i3156 : Int := (a3138 ((Int.toNat i3155)))
bif decide (0 ≤ i3137) then (
bif decide (i3137 < (4 : Int)) then (
let a3157 : (Nat → Int) := (upd a3141 ((Int.toNat i3137)) i3156)
let i3158 : Int := addA .i64 i3137 1
rec (((), (), i3136, (), (), i3158, ()), (a3138, a3139, a3145, a3157, ()))) else none) else none) else none) else none) else none) else none)) else none) else none) else (
κ0 (((), (), i3136, (), (), ()), (a3138, a3139, a3140, a3141, ())))
def C_104_15 {R : Type} (rec : Y10 → Option R) (x : Y10) (κ0 : (Y18 × Y2) → Option R) : Option R :=
let i3227 := x.1.2.2.1
let i3228 := x.1.2.2.2.2.2.1
let a3229 := x.2.1
let a3230 := x.2.2.1
let a3231 := x.2.2.2.1
let a3232 := x.2.2.2.2.1
bif (decide (i3228 < 4)) then (
bif decide (0 ≤ i3228) then (
bif decide (i3228 < (4 : Int)) then (
let i3233 : Int := (a3231 ((Int.toNat i3228)))
bif decide (0 ≤ i3228) then (
bif decide (i3228 < (4 : Int)) then (
let i3234 : Int := (a3232 ((Int.toNat i3228)))
bif decide (0 ≤ i3233) then (
bif decide (i3233 < (16 : Int)) then (
let a3235 : (Nat → Int) := (upd a3229 ((Int.toNat i3233)) i3234)
let i3236 : Int := addA .i64 i3228 1
rec (((), (), i3227, (), (), i3236, ()), (a3235, a3230, a3231, a3232, ()))) else none) else none) else none) else none) else none) else none) else (
κ0 (((), (), i3227, ()), (a3229, a3230, ())))
def C_104_2 {R : Type} (q_114 : Tp_114 R) (m_104_7 : Tl_104_7 R) (m_104_15 : Tl_104_15 R) (rec : (Y18 × Y2) → Option R) (x : (Y18 × Y2)) (κ0 : Y15 → Option R) : Option R :=
let i3133 := x.1.2.2.1
let a3134 := x.2.1
let a3135 := x.2.2.1
bif (decide (i3133 < 8)) then (
m_104_7 (((), (), i3133, (), (), 0, ()), (a3134, a3135, (Sch.zero (.arr 4 (.int .i64))), (Sch.zero (.arr 4 (.int .u64))), ())) (fun y3159 =>
let i3160 := y3159.1.2.2.1
let a3161 := y3159.2.1
let a3162 := y3159.2.2.1
let a3163 := y3159.2.2.2.1
let a3164 := y3159.2.2.2.2.1
q_114 ((a3164, ()), ()) (fun y3225 =>
let a3226 : (Nat → Int) := y3225
m_104_15 (((), (), i3160, (), (), 0, ()), (a3161, a3162, a3163, a3226, ())) (fun y3237 =>
let i3238 := y3237.1.2.2.1
let a3239 := y3237.2.1
let a3240 := y3237.2.2.1
let i3241 : Int := addA .i64 i3238 1
rec (((), (), i3241, ()), (a3239, a3240, ())))))) else (
κ0 (((), (), ()), (a3134, a3135, ())))
def B_104_7 {R : Type} (N : Nat) (rec : Y10 → Option R) (x : Y10) (κ0 : ((Unit × Unit × Int × Unit × Unit × Unit) × ((Nat → Int) × (Nat → Int) × (Nat → Int) × (Nat → Int) × Unit)) → Option R) : Option R := C_104_7 rec x κ0
def l_104_7 {R : Type} (N : Nat) : Nat → Y10 → (((Unit × Unit × Int × Unit × Unit × Unit) × ((Nat → Int) × (Nat → Int) × (Nat → Int) × (Nat → Int) × Unit)) → Option R) → Option R
  | 0, _, _ => none
  | n + 1, x, κ0 => B_104_7 N (fun y => l_104_7 N n y κ0) x κ0
def B_104_15 {R : Type} (N : Nat) (rec : Y10 → Option R) (x : Y10) (κ0 : (Y18 × Y2) → Option R) : Option R := C_104_15 rec x κ0
def l_104_15 {R : Type} (N : Nat) : Nat → Y10 → ((Y18 × Y2) → Option R) → Option R
  | 0, _, _ => none
  | n + 1, x, κ0 => B_104_15 N (fun y => l_104_15 N n y κ0) x κ0
def B_104_2 {R : Type} (N : Nat) (rec : (Y18 × Y2) → Option R) (x : (Y18 × Y2)) (κ0 : Y15 → Option R) : Option R := C_104_2 (p_114 N) (l_104_7 N N) (l_104_15 N N) rec x κ0
def l_104_2 {R : Type} (N : Nat) : Nat → (Y18 × Y2) → (Y15 → Option R) → Option R
  | 0, _, _ => none
  | n + 1, x, κ0 => B_104_2 N (fun y => l_104_2 N n y κ0) x κ0
def Q_104 {R : Type} (q_114 : Tp_114 R) (m_104_7 : Tl_104_7 R) (m_104_15 : Tl_104_15 R) (m_104_2 : Tl_104_2 R) (x : ((Nat → Int) × Unit) × (Unit)) (κ0 : (Nat → Int) → Option R) : Option R :=
let a3132 := x.1.1
m_104_2 (((), (), 0, ()), (a3132, (Sch.zero (.arr 16 (.int .u64))), ())) (fun y3242 =>
let a3243 := y3242.2.1
κ0 a3243)
def p_104 {R : Type} (N : Nat) (x : ((Nat → Int) × Unit) × (Unit)) (κ0 : (Nat → Int) → Option R) : Option R := Q_104 (p_114 N) (l_104_7 N N) (l_104_15 N N) (l_104_2 N N) x κ0
def EG_104 {R : Type} (q_114 : Tp_114 R) : Env R := (Env.base QQ LN AA).add 114 ap_114 hp_114 (fun (x : aden ap_114 × hden hp_114) k => q_114 x (fun y => k (Pat.inst (.vec (.int .u64) 4) y) (instH hp_114 x.2)))
def LG_104 {R : Type} (m_104_7 : Tl_104_7 R) (m_104_15 : Tl_104_15 R) (m_104_2 : Tl_104_2 R) : Loops R := (((Loops.none).add 7 (loopBy 0 lv_104_7 pt_104_7 (fun x k => m_104_7 x (fun y => k (.exit 2) (px_104_7_0.inst y))))).add 15 (loopBy 0 lv_104_15 pt_104_15 (fun x k => m_104_15 x (fun y => k (.exit 4) (px_104_15_0.inst y))))).add 2 (loopBy 0 lv_104_2 pt_104_2 (fun x k => m_104_2 x (fun y => k (.exit 0) (px_104_2_0.inst y))))
def E_104 {R : Type} (N : Nat) : Env R := EG_104 (p_114 N)
theorem eok_104 {R : Type} (N : Nat) : EK Try.prog (E_104 (R := R) N) := ek_add (ek_base _ _ _) (good_114 N)
def L_104 {R : Type} (N : Nat) : Loops R := LG_104 (l_104_7 N N) (l_104_15 N N) (l_104_2 N N)
theorem gstep_104_7 {R : Type} (q_114 : Tp_114 R) (m_104_7 : Tl_104_7 R) (m_104_15 : Tl_104_15 R) (m_104_2 : Tl_104_2 R) (n : Nat) (x : pt_104_7.den) (k : Exit → St → Option R) : iter 0 lv_104_7 lo_104_7 (aexec TT (EG_104 q_114) (drawAny TT WW) (LG_104 m_104_7 m_104_15 m_104_2) (loopAt 7 (bodyOf Try.f104))) (n + 1) (pt_104_7.inst x) k = C_104_7 (fun y => iter 0 lv_104_7 lo_104_7 (aexec TT (EG_104 q_114) (drawAny TT WW) (LG_104 m_104_7 m_104_15 m_104_2) (loopAt 7 (bodyOf Try.f104))) n (pt_104_7.inst y) k) x (fun y => k (.exit 2) (px_104_7_0.inst y)) := by kernel_rfl
theorem step_104_7 {R : Type} (N n : Nat) (x : pt_104_7.den) (k : Exit → St → Option R) : iter 0 lv_104_7 lo_104_7 (aexec TT (E_104 (R := R) N) (drawAny TT WW) (L_104 N) (loopAt 7 (bodyOf Try.f104))) (n + 1) (pt_104_7.inst x) k = B_104_7 N (fun y => iter 0 lv_104_7 lo_104_7 (aexec TT (E_104 (R := R) N) (drawAny TT WW) (L_104 N) (loopAt 7 (bodyOf Try.f104))) n (pt_104_7.inst y) k) x (fun y => k (.exit 2) (px_104_7_0.inst y)) := (gstep_104_7 (p_114 N) (l_104_7 N N) (l_104_15 N N) (l_104_2 N N) n x k).trans (by kernel_rfl)
theorem eq_104_7 {R : Type} (N : Nat) : ∀ (n : Nat) (x : pt_104_7.den) (k : Exit → St → Option R), iter 0 lv_104_7 lo_104_7 (aexec TT (E_104 (R := R) N) (drawAny TT WW) (L_104 N) (loopAt 7 (bodyOf Try.f104))) n (pt_104_7.inst x) k = l_104_7 N n x (fun y => k (.exit 2) (px_104_7_0.inst y)) :=
  iter_eq (K := Exit → St → Option R) (ks := fun k => k) (l := fun n (x : pt_104_7.den) k => l_104_7 N n x (fun y => k (.exit 2) (px_104_7_0.inst y))) (B := fun (rec : pt_104_7.den → Option R) (x : pt_104_7.den) k => B_104_7 N rec x (fun y => k (.exit 2) (px_104_7_0.inst y))) (fun _ _ => rfl) (fun _ _ _ => rfl) (fun n x k => step_104_7 N n x k)
theorem rounds_104_7 {R : Type} (N : Nat) : Rounds 0 TT (E_104 (R := R) N) (drawAny TT WW) (L_104 N) 7 (loopAt 7 (bodyOf Try.f104)) :=
  rounds_of (p := pt_104_7) (l := fun (x : pt_104_7.den) k => l_104_7 N N x (fun y => k (.exit 2) (px_104_7_0.inst y))) (fun s k => rfl) (fun x k => eq_104_7 N N x k)
theorem gstep_104_15 {R : Type} (q_114 : Tp_114 R) (m_104_7 : Tl_104_7 R) (m_104_15 : Tl_104_15 R) (m_104_2 : Tl_104_2 R) (n : Nat) (x : pt_104_15.den) (k : Exit → St → Option R) : iter 0 lv_104_15 lo_104_15 (aexec TT (EG_104 q_114) (drawAny TT WW) (LG_104 m_104_7 m_104_15 m_104_2) (loopAt 15 (bodyOf Try.f104))) (n + 1) (pt_104_15.inst x) k = C_104_15 (fun y => iter 0 lv_104_15 lo_104_15 (aexec TT (EG_104 q_114) (drawAny TT WW) (LG_104 m_104_7 m_104_15 m_104_2) (loopAt 15 (bodyOf Try.f104))) n (pt_104_15.inst y) k) x (fun y => k (.exit 4) (px_104_15_0.inst y)) := by kernel_rfl
theorem step_104_15 {R : Type} (N n : Nat) (x : pt_104_15.den) (k : Exit → St → Option R) : iter 0 lv_104_15 lo_104_15 (aexec TT (E_104 (R := R) N) (drawAny TT WW) (L_104 N) (loopAt 15 (bodyOf Try.f104))) (n + 1) (pt_104_15.inst x) k = B_104_15 N (fun y => iter 0 lv_104_15 lo_104_15 (aexec TT (E_104 (R := R) N) (drawAny TT WW) (L_104 N) (loopAt 15 (bodyOf Try.f104))) n (pt_104_15.inst y) k) x (fun y => k (.exit 4) (px_104_15_0.inst y)) := (gstep_104_15 (p_114 N) (l_104_7 N N) (l_104_15 N N) (l_104_2 N N) n x k).trans (by kernel_rfl)
theorem eq_104_15 {R : Type} (N : Nat) : ∀ (n : Nat) (x : pt_104_15.den) (k : Exit → St → Option R), iter 0 lv_104_15 lo_104_15 (aexec TT (E_104 (R := R) N) (drawAny TT WW) (L_104 N) (loopAt 15 (bodyOf Try.f104))) n (pt_104_15.inst x) k = l_104_15 N n x (fun y => k (.exit 4) (px_104_15_0.inst y)) :=
  iter_eq (K := Exit → St → Option R) (ks := fun k => k) (l := fun n (x : pt_104_15.den) k => l_104_15 N n x (fun y => k (.exit 4) (px_104_15_0.inst y))) (B := fun (rec : pt_104_15.den → Option R) (x : pt_104_15.den) k => B_104_15 N rec x (fun y => k (.exit 4) (px_104_15_0.inst y))) (fun _ _ => rfl) (fun _ _ _ => rfl) (fun n x k => step_104_15 N n x k)
theorem rounds_104_15 {R : Type} (N : Nat) : Rounds 0 TT (E_104 (R := R) N) (drawAny TT WW) (L_104 N) 15 (loopAt 15 (bodyOf Try.f104)) :=
  rounds_of (p := pt_104_15) (l := fun (x : pt_104_15.den) k => l_104_15 N N x (fun y => k (.exit 4) (px_104_15_0.inst y))) (fun s k => rfl) (fun x k => eq_104_15 N N x k)
theorem gstep_104_2 {R : Type} (q_114 : Tp_114 R) (m_104_7 : Tl_104_7 R) (m_104_15 : Tl_104_15 R) (m_104_2 : Tl_104_2 R) (n : Nat) (x : pt_104_2.den) (k : Exit → St → Option R) : iter 0 lv_104_2 lo_104_2 (aexec TT (EG_104 q_114) (drawAny TT WW) (LG_104 m_104_7 m_104_15 m_104_2) (loopAt 2 (bodyOf Try.f104))) (n + 1) (pt_104_2.inst x) k = C_104_2 q_114 m_104_7 m_104_15 (fun y => iter 0 lv_104_2 lo_104_2 (aexec TT (EG_104 q_114) (drawAny TT WW) (LG_104 m_104_7 m_104_15 m_104_2) (loopAt 2 (bodyOf Try.f104))) n (pt_104_2.inst y) k) x (fun y => k (.exit 0) (px_104_2_0.inst y)) := by kernel_rfl
theorem step_104_2 {R : Type} (N n : Nat) (x : pt_104_2.den) (k : Exit → St → Option R) : iter 0 lv_104_2 lo_104_2 (aexec TT (E_104 (R := R) N) (drawAny TT WW) (L_104 N) (loopAt 2 (bodyOf Try.f104))) (n + 1) (pt_104_2.inst x) k = B_104_2 N (fun y => iter 0 lv_104_2 lo_104_2 (aexec TT (E_104 (R := R) N) (drawAny TT WW) (L_104 N) (loopAt 2 (bodyOf Try.f104))) n (pt_104_2.inst y) k) x (fun y => k (.exit 0) (px_104_2_0.inst y)) := (gstep_104_2 (p_114 N) (l_104_7 N N) (l_104_15 N N) (l_104_2 N N) n x k).trans (by kernel_rfl)
theorem eq_104_2 {R : Type} (N : Nat) : ∀ (n : Nat) (x : pt_104_2.den) (k : Exit → St → Option R), iter 0 lv_104_2 lo_104_2 (aexec TT (E_104 (R := R) N) (drawAny TT WW) (L_104 N) (loopAt 2 (bodyOf Try.f104))) n (pt_104_2.inst x) k = l_104_2 N n x (fun y => k (.exit 0) (px_104_2_0.inst y)) :=
  iter_eq (K := Exit → St → Option R) (ks := fun k => k) (l := fun n (x : pt_104_2.den) k => l_104_2 N n x (fun y => k (.exit 0) (px_104_2_0.inst y))) (B := fun (rec : pt_104_2.den → Option R) (x : pt_104_2.den) k => B_104_2 N rec x (fun y => k (.exit 0) (px_104_2_0.inst y))) (fun _ _ => rfl) (fun _ _ _ => rfl) (fun n x k => step_104_2 N n x k)
theorem rounds_104_2 {R : Type} (N : Nat) : Rounds 0 TT (E_104 (R := R) N) (drawAny TT WW) (L_104 N) 2 (loopAt 2 (bodyOf Try.f104)) :=
  rounds_of (p := pt_104_2) (l := fun (x : pt_104_2.den) k => l_104_2 N N x (fun y => k (.exit 0) (px_104_2_0.inst y))) (fun s k => rfl) (fun x k => eq_104_2 N N x k)
theorem loops_104 : loopsIn (bodyOf Try.f104) = [(2, loopAt 2 (bodyOf Try.f104)), (7, loopAt 7 (bodyOf Try.f104)), (15, loopAt 15 (bodyOf Try.f104))] := by kernel_rfl
theorem lok_104 {R : Type} (N : Nat) : LOK 0 TT (E_104 (R := R) N) (drawAny TT WW) (L_104 N) (bodyOf Try.f104) := loops_all loops_104 (by
  simp only [List.forall_mem_cons, List.not_mem_nil, false_implies, implies_true, and_true]
  exact ⟨rounds_104_2 N, rounds_104_7 N, rounds_104_15 N⟩)
theorem grun_104 {R : Type} (q_114 : Tp_114 R) (m_104_7 : Tl_104_7 R) (m_104_15 : Tl_104_15 R) (m_104_2 : Tl_104_2 R) (x : aden ap_104 × hden hp_104) (k : KF R) : fnrun TT (EG_104 q_114) (drawAny TT WW) (LG_104 m_104_7 m_104_15 m_104_2) true Try.f104 (instA ap_104 x.1) (instH hp_104 x.2) k = Q_104 q_114 m_104_7 m_104_15 m_104_2 x (fun y => k (Pat.inst (.vec (.int .u64) 16) y) (instH hp_104 x.2)) := by kernel_rfl
theorem run_104 {R : Type} (N : Nat) (x : aden ap_104 × hden hp_104) (k : KF R) : fnrun TT (E_104 (R := R) N) (drawAny TT WW) (L_104 N) true Try.f104 (instA ap_104 x.1) (instH hp_104 x.2) k = p_104 N x (fun y => k (Pat.inst (.vec (.int .u64) 16) y) (instH hp_104 x.2)) := (grun_104 (p_114 N) (l_104_7 N N) (l_104_15 N N) (l_104_2 N N) x k).trans (by kernel_rfl)
theorem good_104 {R : Type} (N : Nat) : GD (X := R) Try.prog QQ AA 104 ap_104 hp_104 (fun (x : aden ap_104 × hden hp_104) k => p_104 N x (fun y => k (Pat.inst (.vec (.int .u64) 16) y) (instH hp_104 x.2))) :=
  gd_quiet (E := E_104 N) (p := fun (x : aden ap_104 × hden hp_104) κ => p_104 N x (fun y => κ (Pat.inst (.vec (.int .u64) 16) y))) mixed tyok (eok_104 N) Try.func104 (by kernel_rfl) (by kernel_rfl) (lok_104 N) (fun x k => run_104 N x k)

def lv_94_9 : Live := [(1, none), (2, none), (3, none), (4, none), (5, none), (6, none)]
def pt_94_9 : SPat := ⟨[(1, .ptr 0 []), (2, .ptr 1 []), (3, .int .i64), (4, .int .i64), (5, .ptr 2 []), (6, .int .i64)], [some (.vec (.int .u64) 128, 29), some (.vec (.int .u64) 128, 29), some (.vec (.int .u64) 16, 186)]⟩
def px_94_9_0 : SPat := ⟨[(1, .ptr 0 []), (2, .ptr 1 []), (3, .int .i64), (4, .int .i64), (5, .ptr 2 [])], [some (.vec (.int .u64) 128, 29), some (.vec (.int .u64) 128, 29), some (.vec (.int .u64) 16, 186)]⟩
def lo_94_9 : Exit → Live
  | .exit 4 => [(1, none), (2, none), (3, none), (4, none), (5, none)]
  | _ => []
def lv_94_19 : Live := [(1, none), (2, none), (3, none), (4, none), (5, none), (9, none)]
def pt_94_19 : SPat := ⟨[(1, .ptr 0 []), (2, .ptr 1 []), (3, .int .i64), (4, .int .i64), (5, .ptr 2 []), (9, .int .i64)], [some (.vec (.int .u64) 128, 29), some (.vec (.int .u64) 128, 29), some (.vec (.int .u64) 16, 186)]⟩
def px_94_19_0 : SPat := ⟨[(1, .ptr 0 []), (2, .ptr 1 []), (3, .int .i64), (4, .int .i64)], J3⟩
def lo_94_19 : Exit → Live
  | .exit 6 => [(1, none), (2, none), (3, none), (4, none)]
  | _ => []
def lv_94_5 : Live := [(1, none), (2, none), (3, none), (4, none)]
def pt_94_5 : SPat := ⟨[(1, .ptr 0 []), (2, .ptr 1 []), (3, .int .i64), (4, .int .i64)], J3⟩
def px_94_5_0 : SPat := ⟨[(1, .ptr 0 []), (2, .ptr 1 []), (3, .int .i64)], J3⟩
def lo_94_5 : Exit → Live
  | .exit 2 => [(1, none), (2, none), (3, none)]
  | _ => []
def lv_94_2 : Live := [(1, none), (2, none), (3, none)]
def pt_94_2 : SPat := ⟨[(1, .ptr 0 []), (2, .ptr 1 []), (3, .int .i64)], J3⟩
def px_94_2_0 : SPat := ⟨[(1, .ptr 0 []), (2, .ptr 1 [])], J3⟩
def lo_94_2 : Exit → Live
  | .exit 0 => [(1, none), (2, none)]
  | _ => []
def ap_94 : List Pat := [.vec (.int .u64) 128]
def hp_94 : List (Option (Pat × Nat)) := []
abbrev Tl_94_9 (R : Type) : Type := ((Unit × Unit × Int × Int × Unit × Int × Unit) × Y12) → (((Unit × Unit × Int × Int × Unit × Unit) × Y12) → Option R) → Option R
abbrev Tl_94_19 (R : Type) : Type := ((Unit × Unit × Int × Int × Unit × Int × Unit) × Y12) → ((Y13 × Y2) → Option R) → Option R
abbrev Tl_94_5 (R : Type) : Type := (Y13 × Y2) → ((Y18 × Y2) → Option R) → Option R
abbrev Tl_94_2 (R : Type) : Type := (Y18 × Y2) → (Y15 → Option R) → Option R
abbrev Tp_94 (R : Type) : Type := ((Nat → Int) × Unit) × (Unit) → ((Nat → Int) → Option R) → Option R
def C_94_9 {R : Type} (rec : ((Unit × Unit × Int × Int × Unit × Int × Unit) × Y12) → Option R) (x : ((Unit × Unit × Int × Int × Unit × Int × Unit) × Y12)) (κ0 : ((Unit × Unit × Int × Int × Unit × Unit) × Y12) → Option R) : Option R :=
let i3102 := x.1.2.2.1
let i3103 := x.1.2.2.2.1
let i3104 := x.1.2.2.2.2.2.1
let a3105 := x.2.1
let a3106 := x.2.2.1
let a3107 := x.2.2.2.1
bif (decide (i3104 < 16)) then (
let i3108 : Int := quoA .i64 i3104 2
bif (i3102 == 1) then (
let i3109 : Int := quoA .i64 i3104 2
let i3110 : Int := mulA .i64 16 i3109
let i3111 : Int := mulA .i64 2 i3103
let i3112 : Int := addA .i64 i3110 i3111
let i3113 : Int := remA .i64 i3104 2
let i3114 : Int := addA .i64 i3112 i3113
bif decide (0 ≤ i3114) then (
bif decide (i3114 < (128 : Int)) then (
let i3115 : Int := (a3105 ((Int.toNat i3114)))
bif decide (0 ≤ i3104) then (
bif decide (i3104 < (16 : Int)) then (
let a3116 : (Nat → Int) := (upd a3107 ((Int.toNat i3104)) i3115)
let i3117 : Int := addA .i64 i3104 1
rec (((), (), i3102, i3103, (), i3117, ()), (a3105, a3106, a3116, ()))) else none) else none) else none) else none) else (
let i3118 : Int := mulA .i64 16 i3103
let i3119 : Int := mulA .i64 2 i3108
let i3120 : Int := addA .i64 i3118 i3119
let i3121 : Int := remA .i64 i3104 2
let i3122 : Int := addA .i64 i3120 i3121
bif decide (0 ≤ i3122) then (
bif decide (i3122 < (128 : Int)) then (
let i3123 : Int := (a3105 ((Int.toNat i3122)))
bif decide (0 ≤ i3104) then (
bif decide (i3104 < (16 : Int)) then (
let a3124 : (Nat → Int) := (upd a3107 ((Int.toNat i3104)) i3123)
let i3125 : Int := addA .i64 i3104 1
rec (((), (), i3102, i3103, (), i3125, ()), (a3105, a3106, a3124, ()))) else none) else none) else none) else none)) else (
κ0 (((), (), i3102, i3103, (), ()), (a3105, a3106, a3107, ())))
def C_94_19 {R : Type} (rec : ((Unit × Unit × Int × Int × Unit × Int × Unit) × Y12) → Option R) (x : ((Unit × Unit × Int × Int × Unit × Int × Unit) × Y12)) (κ0 : (Y13 × Y2) → Option R) : Option R :=
let i3247 := x.1.2.2.1
let i3248 := x.1.2.2.2.1
let i3249 := x.1.2.2.2.2.2.1
let a3250 := x.2.1
let a3251 := x.2.2.1
let a3252 := x.2.2.2.1
bif (decide (i3249 < 16)) then (
let i3253 : Int := quoA .i64 i3249 2
bif (i3247 == 1) then (
let i3254 : Int := quoA .i64 i3249 2
let i3255 : Int := mulA .i64 16 i3254
let i3256 : Int := mulA .i64 2 i3248
let i3257 : Int := addA .i64 i3255 i3256
let i3258 : Int := remA .i64 i3249 2
let i3259 : Int := addA .i64 i3257 i3258
bif decide (0 ≤ i3249) then (
bif decide (i3249 < (16 : Int)) then (
let i3260 : Int := (a3252 ((Int.toNat i3249)))
bif decide (0 ≤ i3259) then (
bif decide (i3259 < (128 : Int)) then (
let a3261 : (Nat → Int) := (upd a3250 ((Int.toNat i3259)) i3260)
let i3262 : Int := addA .i64 i3249 1
rec (((), (), i3247, i3248, (), i3262, ()), (a3261, a3251, a3252, ()))) else none) else none) else none) else none) else (
let i3263 : Int := mulA .i64 16 i3248
let i3264 : Int := mulA .i64 2 i3253
let i3265 : Int := addA .i64 i3263 i3264
let i3266 : Int := remA .i64 i3249 2
let i3267 : Int := addA .i64 i3265 i3266
bif decide (0 ≤ i3249) then (
bif decide (i3249 < (16 : Int)) then (
let i3268 : Int := (a3252 ((Int.toNat i3249)))
bif decide (0 ≤ i3267) then (
bif decide (i3267 < (128 : Int)) then (
let a3269 : (Nat → Int) := (upd a3250 ((Int.toNat i3267)) i3268)
let i3270 : Int := addA .i64 i3249 1
rec (((), (), i3247, i3248, (), i3270, ()), (a3269, a3251, a3252, ()))) else none) else none) else none) else none)) else (
κ0 (((), (), i3247, i3248, ()), (a3250, a3251, ())))
def C_94_5 {R : Type} (q_104 : Tp_104 R) (m_94_9 : Tl_94_9 R) (m_94_19 : Tl_94_19 R) (rec : (Y13 × Y2) → Option R) (x : (Y13 × Y2)) (κ0 : (Y18 × Y2) → Option R) : Option R :=
let i3098 := x.1.2.2.1
let i3099 := x.1.2.2.2.1
let a3100 := x.2.1
let a3101 := x.2.2.1
bif (decide (i3099 < 8)) then (
m_94_9 (((), (), i3098, i3099, (), 0, ()), (a3100, a3101, (Sch.zero (.arr 16 (.int .u64))), ())) (fun y3126 =>
let i3127 := y3126.1.2.2.1
let i3128 := y3126.1.2.2.2.1
let a3129 := y3126.2.1
let a3130 := y3126.2.2.1
let a3131 := y3126.2.2.2.1
q_104 ((a3131, ()), ()) (fun y3245 =>
let a3246 : (Nat → Int) := y3245
m_94_19 (((), (), i3127, i3128, (), 0, ()), (a3129, a3130, a3246, ())) (fun y3271 =>
let i3272 := y3271.1.2.2.1
let i3273 := y3271.1.2.2.2.1
let a3274 := y3271.2.1
let a3275 := y3271.2.2.1
let i3276 : Int := addA .i64 i3273 1
rec (((), (), i3272, i3276, ()), (a3274, a3275, ())))))) else (
κ0 (((), (), i3098, ()), (a3100, a3101, ())))
def C_94_2 {R : Type} (m_94_5 : Tl_94_5 R) (rec : (Y18 × Y2) → Option R) (x : (Y18 × Y2)) (κ0 : Y15 → Option R) : Option R :=
let i3095 := x.1.2.2.1
let a3096 := x.2.1
let a3097 := x.2.2.1
bif (decide (i3095 < 2)) then (
m_94_5 (((), (), i3095, 0, ()), (a3096, a3097, ())) (fun y3277 =>
let i3278 := y3277.1.2.2.1
let a3279 := y3277.2.1
let a3280 := y3277.2.2.1
let i3281 : Int := addA .i64 i3278 1
rec (((), (), i3281, ()), (a3279, a3280, ())))) else (
κ0 (((), (), ()), (a3096, a3097, ())))
def B_94_9 {R : Type} (N : Nat) (rec : ((Unit × Unit × Int × Int × Unit × Int × Unit) × Y12) → Option R) (x : ((Unit × Unit × Int × Int × Unit × Int × Unit) × Y12)) (κ0 : ((Unit × Unit × Int × Int × Unit × Unit) × Y12) → Option R) : Option R := C_94_9 rec x κ0
def l_94_9 {R : Type} (N : Nat) : Nat → ((Unit × Unit × Int × Int × Unit × Int × Unit) × Y12) → (((Unit × Unit × Int × Int × Unit × Unit) × Y12) → Option R) → Option R
  | 0, _, _ => none
  | n + 1, x, κ0 => B_94_9 N (fun y => l_94_9 N n y κ0) x κ0
def B_94_19 {R : Type} (N : Nat) (rec : ((Unit × Unit × Int × Int × Unit × Int × Unit) × Y12) → Option R) (x : ((Unit × Unit × Int × Int × Unit × Int × Unit) × Y12)) (κ0 : (Y13 × Y2) → Option R) : Option R := C_94_19 rec x κ0
def l_94_19 {R : Type} (N : Nat) : Nat → ((Unit × Unit × Int × Int × Unit × Int × Unit) × Y12) → ((Y13 × Y2) → Option R) → Option R
  | 0, _, _ => none
  | n + 1, x, κ0 => B_94_19 N (fun y => l_94_19 N n y κ0) x κ0
def B_94_5 {R : Type} (N : Nat) (rec : (Y13 × Y2) → Option R) (x : (Y13 × Y2)) (κ0 : (Y18 × Y2) → Option R) : Option R := C_94_5 (p_104 N) (l_94_9 N N) (l_94_19 N N) rec x κ0
def l_94_5 {R : Type} (N : Nat) : Nat → (Y13 × Y2) → ((Y18 × Y2) → Option R) → Option R
  | 0, _, _ => none
  | n + 1, x, κ0 => B_94_5 N (fun y => l_94_5 N n y κ0) x κ0
def B_94_2 {R : Type} (N : Nat) (rec : (Y18 × Y2) → Option R) (x : (Y18 × Y2)) (κ0 : Y15 → Option R) : Option R := C_94_2 (l_94_5 N N) rec x κ0
def l_94_2 {R : Type} (N : Nat) : Nat → (Y18 × Y2) → (Y15 → Option R) → Option R
  | 0, _, _ => none
  | n + 1, x, κ0 => B_94_2 N (fun y => l_94_2 N n y κ0) x κ0
def Q_94 {R : Type} (q_104 : Tp_104 R) (m_94_9 : Tl_94_9 R) (m_94_19 : Tl_94_19 R) (m_94_5 : Tl_94_5 R) (m_94_2 : Tl_94_2 R) (x : ((Nat → Int) × Unit) × (Unit)) (κ0 : (Nat → Int) → Option R) : Option R :=
let a3094 := x.1.1
m_94_2 (((), (), 0, ()), (a3094, (Sch.zero (.arr 128 (.int .u64))), ())) (fun y3282 =>
let a3283 := y3282.2.1
κ0 a3283)
def p_94 {R : Type} (N : Nat) (x : ((Nat → Int) × Unit) × (Unit)) (κ0 : (Nat → Int) → Option R) : Option R := Q_94 (p_104 N) (l_94_9 N N) (l_94_19 N N) (l_94_5 N N) (l_94_2 N N) x κ0
def EG_94 {R : Type} (q_104 : Tp_104 R) : Env R := (Env.base QQ LN AA).add 104 ap_104 hp_104 (fun (x : aden ap_104 × hden hp_104) k => q_104 x (fun y => k (Pat.inst (.vec (.int .u64) 16) y) (instH hp_104 x.2)))
def LG_94 {R : Type} (m_94_9 : Tl_94_9 R) (m_94_19 : Tl_94_19 R) (m_94_5 : Tl_94_5 R) (m_94_2 : Tl_94_2 R) : Loops R := ((((Loops.none).add 9 (loopBy 0 lv_94_9 pt_94_9 (fun x k => m_94_9 x (fun y => k (.exit 4) (px_94_9_0.inst y))))).add 19 (loopBy 0 lv_94_19 pt_94_19 (fun x k => m_94_19 x (fun y => k (.exit 6) (px_94_19_0.inst y))))).add 5 (loopBy 0 lv_94_5 pt_94_5 (fun x k => m_94_5 x (fun y => k (.exit 2) (px_94_5_0.inst y))))).add 2 (loopBy 0 lv_94_2 pt_94_2 (fun x k => m_94_2 x (fun y => k (.exit 0) (px_94_2_0.inst y))))
def E_94 {R : Type} (N : Nat) : Env R := EG_94 (p_104 N)
theorem eok_94 {R : Type} (N : Nat) : EK Try.prog (E_94 (R := R) N) := ek_add (ek_base _ _ _) (good_104 N)
def L_94 {R : Type} (N : Nat) : Loops R := LG_94 (l_94_9 N N) (l_94_19 N N) (l_94_5 N N) (l_94_2 N N)
theorem gstep_94_9 {R : Type} (q_104 : Tp_104 R) (m_94_9 : Tl_94_9 R) (m_94_19 : Tl_94_19 R) (m_94_5 : Tl_94_5 R) (m_94_2 : Tl_94_2 R) (n : Nat) (x : pt_94_9.den) (k : Exit → St → Option R) : iter 0 lv_94_9 lo_94_9 (aexec TT (EG_94 q_104) (drawAny TT WW) (LG_94 m_94_9 m_94_19 m_94_5 m_94_2) (loopAt 9 (bodyOf Try.f94))) (n + 1) (pt_94_9.inst x) k = C_94_9 (fun y => iter 0 lv_94_9 lo_94_9 (aexec TT (EG_94 q_104) (drawAny TT WW) (LG_94 m_94_9 m_94_19 m_94_5 m_94_2) (loopAt 9 (bodyOf Try.f94))) n (pt_94_9.inst y) k) x (fun y => k (.exit 4) (px_94_9_0.inst y)) := by kernel_rfl
theorem step_94_9 {R : Type} (N n : Nat) (x : pt_94_9.den) (k : Exit → St → Option R) : iter 0 lv_94_9 lo_94_9 (aexec TT (E_94 (R := R) N) (drawAny TT WW) (L_94 N) (loopAt 9 (bodyOf Try.f94))) (n + 1) (pt_94_9.inst x) k = B_94_9 N (fun y => iter 0 lv_94_9 lo_94_9 (aexec TT (E_94 (R := R) N) (drawAny TT WW) (L_94 N) (loopAt 9 (bodyOf Try.f94))) n (pt_94_9.inst y) k) x (fun y => k (.exit 4) (px_94_9_0.inst y)) := (gstep_94_9 (p_104 N) (l_94_9 N N) (l_94_19 N N) (l_94_5 N N) (l_94_2 N N) n x k).trans (by kernel_rfl)
theorem eq_94_9 {R : Type} (N : Nat) : ∀ (n : Nat) (x : pt_94_9.den) (k : Exit → St → Option R), iter 0 lv_94_9 lo_94_9 (aexec TT (E_94 (R := R) N) (drawAny TT WW) (L_94 N) (loopAt 9 (bodyOf Try.f94))) n (pt_94_9.inst x) k = l_94_9 N n x (fun y => k (.exit 4) (px_94_9_0.inst y)) :=
  iter_eq (K := Exit → St → Option R) (ks := fun k => k) (l := fun n (x : pt_94_9.den) k => l_94_9 N n x (fun y => k (.exit 4) (px_94_9_0.inst y))) (B := fun (rec : pt_94_9.den → Option R) (x : pt_94_9.den) k => B_94_9 N rec x (fun y => k (.exit 4) (px_94_9_0.inst y))) (fun _ _ => rfl) (fun _ _ _ => rfl) (fun n x k => step_94_9 N n x k)
theorem rounds_94_9 {R : Type} (N : Nat) : Rounds 0 TT (E_94 (R := R) N) (drawAny TT WW) (L_94 N) 9 (loopAt 9 (bodyOf Try.f94)) :=
  rounds_of (p := pt_94_9) (l := fun (x : pt_94_9.den) k => l_94_9 N N x (fun y => k (.exit 4) (px_94_9_0.inst y))) (fun s k => rfl) (fun x k => eq_94_9 N N x k)
theorem gstep_94_19 {R : Type} (q_104 : Tp_104 R) (m_94_9 : Tl_94_9 R) (m_94_19 : Tl_94_19 R) (m_94_5 : Tl_94_5 R) (m_94_2 : Tl_94_2 R) (n : Nat) (x : pt_94_19.den) (k : Exit → St → Option R) : iter 0 lv_94_19 lo_94_19 (aexec TT (EG_94 q_104) (drawAny TT WW) (LG_94 m_94_9 m_94_19 m_94_5 m_94_2) (loopAt 19 (bodyOf Try.f94))) (n + 1) (pt_94_19.inst x) k = C_94_19 (fun y => iter 0 lv_94_19 lo_94_19 (aexec TT (EG_94 q_104) (drawAny TT WW) (LG_94 m_94_9 m_94_19 m_94_5 m_94_2) (loopAt 19 (bodyOf Try.f94))) n (pt_94_19.inst y) k) x (fun y => k (.exit 6) (px_94_19_0.inst y)) := by kernel_rfl
theorem step_94_19 {R : Type} (N n : Nat) (x : pt_94_19.den) (k : Exit → St → Option R) : iter 0 lv_94_19 lo_94_19 (aexec TT (E_94 (R := R) N) (drawAny TT WW) (L_94 N) (loopAt 19 (bodyOf Try.f94))) (n + 1) (pt_94_19.inst x) k = B_94_19 N (fun y => iter 0 lv_94_19 lo_94_19 (aexec TT (E_94 (R := R) N) (drawAny TT WW) (L_94 N) (loopAt 19 (bodyOf Try.f94))) n (pt_94_19.inst y) k) x (fun y => k (.exit 6) (px_94_19_0.inst y)) := (gstep_94_19 (p_104 N) (l_94_9 N N) (l_94_19 N N) (l_94_5 N N) (l_94_2 N N) n x k).trans (by kernel_rfl)
theorem eq_94_19 {R : Type} (N : Nat) : ∀ (n : Nat) (x : pt_94_19.den) (k : Exit → St → Option R), iter 0 lv_94_19 lo_94_19 (aexec TT (E_94 (R := R) N) (drawAny TT WW) (L_94 N) (loopAt 19 (bodyOf Try.f94))) n (pt_94_19.inst x) k = l_94_19 N n x (fun y => k (.exit 6) (px_94_19_0.inst y)) :=
  iter_eq (K := Exit → St → Option R) (ks := fun k => k) (l := fun n (x : pt_94_19.den) k => l_94_19 N n x (fun y => k (.exit 6) (px_94_19_0.inst y))) (B := fun (rec : pt_94_19.den → Option R) (x : pt_94_19.den) k => B_94_19 N rec x (fun y => k (.exit 6) (px_94_19_0.inst y))) (fun _ _ => rfl) (fun _ _ _ => rfl) (fun n x k => step_94_19 N n x k)
theorem rounds_94_19 {R : Type} (N : Nat) : Rounds 0 TT (E_94 (R := R) N) (drawAny TT WW) (L_94 N) 19 (loopAt 19 (bodyOf Try.f94)) :=
  rounds_of (p := pt_94_19) (l := fun (x : pt_94_19.den) k => l_94_19 N N x (fun y => k (.exit 6) (px_94_19_0.inst y))) (fun s k => rfl) (fun x k => eq_94_19 N N x k)
theorem gstep_94_5 {R : Type} (q_104 : Tp_104 R) (m_94_9 : Tl_94_9 R) (m_94_19 : Tl_94_19 R) (m_94_5 : Tl_94_5 R) (m_94_2 : Tl_94_2 R) (n : Nat) (x : pt_94_5.den) (k : Exit → St → Option R) : iter 0 lv_94_5 lo_94_5 (aexec TT (EG_94 q_104) (drawAny TT WW) (LG_94 m_94_9 m_94_19 m_94_5 m_94_2) (loopAt 5 (bodyOf Try.f94))) (n + 1) (pt_94_5.inst x) k = C_94_5 q_104 m_94_9 m_94_19 (fun y => iter 0 lv_94_5 lo_94_5 (aexec TT (EG_94 q_104) (drawAny TT WW) (LG_94 m_94_9 m_94_19 m_94_5 m_94_2) (loopAt 5 (bodyOf Try.f94))) n (pt_94_5.inst y) k) x (fun y => k (.exit 2) (px_94_5_0.inst y)) := by kernel_rfl
theorem step_94_5 {R : Type} (N n : Nat) (x : pt_94_5.den) (k : Exit → St → Option R) : iter 0 lv_94_5 lo_94_5 (aexec TT (E_94 (R := R) N) (drawAny TT WW) (L_94 N) (loopAt 5 (bodyOf Try.f94))) (n + 1) (pt_94_5.inst x) k = B_94_5 N (fun y => iter 0 lv_94_5 lo_94_5 (aexec TT (E_94 (R := R) N) (drawAny TT WW) (L_94 N) (loopAt 5 (bodyOf Try.f94))) n (pt_94_5.inst y) k) x (fun y => k (.exit 2) (px_94_5_0.inst y)) := (gstep_94_5 (p_104 N) (l_94_9 N N) (l_94_19 N N) (l_94_5 N N) (l_94_2 N N) n x k).trans (by kernel_rfl)
theorem eq_94_5 {R : Type} (N : Nat) : ∀ (n : Nat) (x : pt_94_5.den) (k : Exit → St → Option R), iter 0 lv_94_5 lo_94_5 (aexec TT (E_94 (R := R) N) (drawAny TT WW) (L_94 N) (loopAt 5 (bodyOf Try.f94))) n (pt_94_5.inst x) k = l_94_5 N n x (fun y => k (.exit 2) (px_94_5_0.inst y)) :=
  iter_eq (K := Exit → St → Option R) (ks := fun k => k) (l := fun n (x : pt_94_5.den) k => l_94_5 N n x (fun y => k (.exit 2) (px_94_5_0.inst y))) (B := fun (rec : pt_94_5.den → Option R) (x : pt_94_5.den) k => B_94_5 N rec x (fun y => k (.exit 2) (px_94_5_0.inst y))) (fun _ _ => rfl) (fun _ _ _ => rfl) (fun n x k => step_94_5 N n x k)
theorem rounds_94_5 {R : Type} (N : Nat) : Rounds 0 TT (E_94 (R := R) N) (drawAny TT WW) (L_94 N) 5 (loopAt 5 (bodyOf Try.f94)) :=
  rounds_of (p := pt_94_5) (l := fun (x : pt_94_5.den) k => l_94_5 N N x (fun y => k (.exit 2) (px_94_5_0.inst y))) (fun s k => rfl) (fun x k => eq_94_5 N N x k)
theorem gstep_94_2 {R : Type} (q_104 : Tp_104 R) (m_94_9 : Tl_94_9 R) (m_94_19 : Tl_94_19 R) (m_94_5 : Tl_94_5 R) (m_94_2 : Tl_94_2 R) (n : Nat) (x : pt_94_2.den) (k : Exit → St → Option R) : iter 0 lv_94_2 lo_94_2 (aexec TT (EG_94 q_104) (drawAny TT WW) (LG_94 m_94_9 m_94_19 m_94_5 m_94_2) (loopAt 2 (bodyOf Try.f94))) (n + 1) (pt_94_2.inst x) k = C_94_2 m_94_5 (fun y => iter 0 lv_94_2 lo_94_2 (aexec TT (EG_94 q_104) (drawAny TT WW) (LG_94 m_94_9 m_94_19 m_94_5 m_94_2) (loopAt 2 (bodyOf Try.f94))) n (pt_94_2.inst y) k) x (fun y => k (.exit 0) (px_94_2_0.inst y)) := by kernel_rfl
theorem step_94_2 {R : Type} (N n : Nat) (x : pt_94_2.den) (k : Exit → St → Option R) : iter 0 lv_94_2 lo_94_2 (aexec TT (E_94 (R := R) N) (drawAny TT WW) (L_94 N) (loopAt 2 (bodyOf Try.f94))) (n + 1) (pt_94_2.inst x) k = B_94_2 N (fun y => iter 0 lv_94_2 lo_94_2 (aexec TT (E_94 (R := R) N) (drawAny TT WW) (L_94 N) (loopAt 2 (bodyOf Try.f94))) n (pt_94_2.inst y) k) x (fun y => k (.exit 0) (px_94_2_0.inst y)) := (gstep_94_2 (p_104 N) (l_94_9 N N) (l_94_19 N N) (l_94_5 N N) (l_94_2 N N) n x k).trans (by kernel_rfl)
theorem eq_94_2 {R : Type} (N : Nat) : ∀ (n : Nat) (x : pt_94_2.den) (k : Exit → St → Option R), iter 0 lv_94_2 lo_94_2 (aexec TT (E_94 (R := R) N) (drawAny TT WW) (L_94 N) (loopAt 2 (bodyOf Try.f94))) n (pt_94_2.inst x) k = l_94_2 N n x (fun y => k (.exit 0) (px_94_2_0.inst y)) :=
  iter_eq (K := Exit → St → Option R) (ks := fun k => k) (l := fun n (x : pt_94_2.den) k => l_94_2 N n x (fun y => k (.exit 0) (px_94_2_0.inst y))) (B := fun (rec : pt_94_2.den → Option R) (x : pt_94_2.den) k => B_94_2 N rec x (fun y => k (.exit 0) (px_94_2_0.inst y))) (fun _ _ => rfl) (fun _ _ _ => rfl) (fun n x k => step_94_2 N n x k)
theorem rounds_94_2 {R : Type} (N : Nat) : Rounds 0 TT (E_94 (R := R) N) (drawAny TT WW) (L_94 N) 2 (loopAt 2 (bodyOf Try.f94)) :=
  rounds_of (p := pt_94_2) (l := fun (x : pt_94_2.den) k => l_94_2 N N x (fun y => k (.exit 0) (px_94_2_0.inst y))) (fun s k => rfl) (fun x k => eq_94_2 N N x k)
theorem loops_94 : loopsIn (bodyOf Try.f94) = [(2, loopAt 2 (bodyOf Try.f94)), (5, loopAt 5 (bodyOf Try.f94)), (9, loopAt 9 (bodyOf Try.f94)), (19, loopAt 19 (bodyOf Try.f94))] := by kernel_rfl
theorem lok_94 {R : Type} (N : Nat) : LOK 0 TT (E_94 (R := R) N) (drawAny TT WW) (L_94 N) (bodyOf Try.f94) := loops_all loops_94 (by
  simp only [List.forall_mem_cons, List.not_mem_nil, false_implies, implies_true, and_true]
  exact ⟨rounds_94_2 N, rounds_94_5 N, rounds_94_9 N, rounds_94_19 N⟩)
theorem grun_94 {R : Type} (q_104 : Tp_104 R) (m_94_9 : Tl_94_9 R) (m_94_19 : Tl_94_19 R) (m_94_5 : Tl_94_5 R) (m_94_2 : Tl_94_2 R) (x : aden ap_94 × hden hp_94) (k : KF R) : fnrun TT (EG_94 q_104) (drawAny TT WW) (LG_94 m_94_9 m_94_19 m_94_5 m_94_2) true Try.f94 (instA ap_94 x.1) (instH hp_94 x.2) k = Q_94 q_104 m_94_9 m_94_19 m_94_5 m_94_2 x (fun y => k (Pat.inst (.vec (.int .u64) 128) y) (instH hp_94 x.2)) := by kernel_rfl
theorem run_94 {R : Type} (N : Nat) (x : aden ap_94 × hden hp_94) (k : KF R) : fnrun TT (E_94 (R := R) N) (drawAny TT WW) (L_94 N) true Try.f94 (instA ap_94 x.1) (instH hp_94 x.2) k = p_94 N x (fun y => k (Pat.inst (.vec (.int .u64) 128) y) (instH hp_94 x.2)) := (grun_94 (p_104 N) (l_94_9 N N) (l_94_19 N N) (l_94_5 N N) (l_94_2 N N) x k).trans (by kernel_rfl)
theorem good_94 {R : Type} (N : Nat) : GD (X := R) Try.prog QQ AA 94 ap_94 hp_94 (fun (x : aden ap_94 × hden hp_94) k => p_94 N x (fun y => k (Pat.inst (.vec (.int .u64) 128) y) (instH hp_94 x.2))) :=
  gd_quiet (E := E_94 N) (p := fun (x : aden ap_94 × hden hp_94) κ => p_94 N x (fun y => κ (Pat.inst (.vec (.int .u64) 128) y))) mixed tyok (eok_94 N) Try.func94 (by kernel_rfl) (by kernel_rfl) (lok_94 N) (fun x k => run_94 N x k)

def ap_74 : List Pat := [.vec (.int .u64) 128, .vec (.int .u64) 128]
def hp_74 : List (Option (Pat × Nat)) := []
abbrev Tp_74 (R : Type) : Type := Y2 × (Unit) → ((Nat → Int) → Option R) → Option R
def Q_74 {R : Type} (q_60 : Tp_60 R) (q_94 : Tp_94 R) (x : Y2 × (Unit)) (κ0 : (Nat → Int) → Option R) : Option R :=
let a3063 := x.1.1
let a3064 := x.1.2.1
let l3065 : (List (Nat → Int)) := [a3063, a3064]
q_60 ((l3065, ()), ()) (fun y3092 =>
let a3093 := y3092
q_94 ((a3093, ()), ()) (fun y3285 =>
let a3286 : (Nat → Int) := y3285
let l3287 : (List (Nat → Int)) := [a3093, a3286]
q_60 ((l3287, ()), ()) (fun y3288 =>
let a3289 : (Nat → Int) := y3288
κ0 a3289)))
def p_74 {R : Type} (N : Nat) (x : Y2 × (Unit)) (κ0 : (Nat → Int) → Option R) : Option R := Q_74 (p_60 N) (p_94 N) x κ0
def EG_74 {R : Type} (q_60 : Tp_60 R) (q_94 : Tp_94 R) : Env R := ((Env.base QQ LN AA).add 60 ap_60 hp_60 (fun (x : aden ap_60 × hden hp_60) k => q_60 x (fun y => k (Pat.inst (.vec (.int .u64) 128) y) (instH hp_60 x.2)))).add 94 ap_94 hp_94 (fun (x : aden ap_94 × hden hp_94) k => q_94 x (fun y => k (Pat.inst (.vec (.int .u64) 128) y) (instH hp_94 x.2)))
def LG_74 {R : Type} : Loops R := Loops.none
def E_74 {R : Type} (N : Nat) : Env R := EG_74 (p_60 N) (p_94 N)
theorem eok_74 {R : Type} (N : Nat) : EK Try.prog (E_74 (R := R) N) := ek_add (ek_add (ek_base _ _ _) (good_60 N)) (good_94 N)
def L_74 {R : Type} (N : Nat) : Loops R := LG_74
theorem lok_74 {R : Type} (N : Nat) : LOK 0 TT (E_74 (R := R) N) (drawAny TT WW) (L_74 N) (bodyOf Try.f74) := loops_nil (by kernel_rfl)
theorem grun_74 {R : Type} (q_60 : Tp_60 R) (q_94 : Tp_94 R) (x : aden ap_74 × hden hp_74) (k : KF R) : fnrun TT (EG_74 q_60 q_94) (drawAny TT WW) (LG_74) true Try.f74 (instA ap_74 x.1) (instH hp_74 x.2) k = Q_74 q_60 q_94 x (fun y => k (Pat.inst (.vec (.int .u64) 128) y) (instH hp_74 x.2)) := by kernel_rfl
theorem run_74 {R : Type} (N : Nat) (x : aden ap_74 × hden hp_74) (k : KF R) : fnrun TT (E_74 (R := R) N) (drawAny TT WW) (L_74 N) true Try.f74 (instA ap_74 x.1) (instH hp_74 x.2) k = p_74 N x (fun y => k (Pat.inst (.vec (.int .u64) 128) y) (instH hp_74 x.2)) := (grun_74 (p_60 N) (p_94 N) x k).trans (by kernel_rfl)
theorem good_74 {R : Type} (N : Nat) : GD (X := R) Try.prog QQ AA 74 ap_74 hp_74 (fun (x : aden ap_74 × hden hp_74) k => p_74 N x (fun y => k (Pat.inst (.vec (.int .u64) 128) y) (instH hp_74 x.2))) :=
  gd_quiet (E := E_74 N) (p := fun (x : aden ap_74 × hden hp_74) κ => p_74 N x (fun y => κ (Pat.inst (.vec (.int .u64) 128) y))) mixed tyok (eok_74 N) Try.func74 (by kernel_rfl) (by kernel_rfl) (lok_74 N) (fun x k => run_74 N x k)

def ap_91 : List Pat := [.node (.fcons (.int .i64) (.fcons (.int .i64) (.fcons (.int .i64) (.fcons (.int .i64) (.fcons (.int .i64) (.fcons (.int .i64) (.fcons (.int .i64) (.fcons (.int .i64) (.fnil))))))))), .int .i64, .int .i64, .int .i64, .int .i64]
def hp_91 : List (Option (Pat × Nat)) := []
abbrev Tp_91 (R : Type) : Type := (Y0 × Int × Int × Int × Int × Unit) × (Unit) → ((Nat → Int) → Option R) → Option R
def Q_91 {R : Type} (q_74 : Tp_74 R) (x : (Y0 × Int × Int × Int × Int × Unit) × (Unit)) (κ0 : (Nat → Int) → Option R) : Option R :=
let i3034 := x.1.1.1
let i3035 := x.1.1.2.1
let i3038 := x.1.1.2.2.2.2.1
let i3042 := x.1.2.1
let i3043 := x.1.2.2.1
let i3044 := x.1.2.2.2.1
let i3045 := x.1.2.2.2.2.1
let i3046 : Int := IntKind.wrap .u64 i3042
let a3047 : (Nat → Int) := (upd ((Sch.zero (.arr 128 (.int .u64)))) 0 i3046)
let i3048 : Int := IntKind.wrap .u64 i3044
let a3049 : (Nat → Int) := (upd a3047 1 i3048)
let i3050 : Int := IntKind.wrap .u64 i3043
let a3051 : (Nat → Int) := (upd a3049 2 i3050)
let i3052 : Int := IntKind.wrap .u64 i3038
let a3053 : (Nat → Int) := (upd a3051 3 i3052)
let i3054 : Int := IntKind.wrap .u64 i3035
let a3055 : (Nat → Int) := (upd a3053 4 i3054)
let i3056 : Int := subA .i64 i3034 1
let i3057 : Int := IntKind.wrap .u64 i3056
let a3058 : (Nat → Int) := (upd a3055 5 i3057)
let i3059 : Int := IntKind.wrap .u64 i3045
let a3060 : (Nat → Int) := (upd a3058 6 i3059)
let a3061 : (Nat → Int) := (Sch.zero (.arr 128 (.int .u64)))
let a3062 : (Nat → Int) := (Sch.zero (.arr 128 (.int .u64)))
q_74 ((a3062, a3060, ()), ()) (fun y3290 =>
let a3291 : (Nat → Int) := y3290
q_74 ((a3061, a3291, ()), ()) (fun y3292 =>
let a3293 := y3292
κ0 a3293))
def p_91 {R : Type} (N : Nat) (x : (Y0 × Int × Int × Int × Int × Unit) × (Unit)) (κ0 : (Nat → Int) → Option R) : Option R := Q_91 (p_74 N) x κ0
def EG_91 {R : Type} (q_74 : Tp_74 R) : Env R := (Env.base QQ LN AA).add 74 ap_74 hp_74 (fun (x : aden ap_74 × hden hp_74) k => q_74 x (fun y => k (Pat.inst (.vec (.int .u64) 128) y) (instH hp_74 x.2)))
def LG_91 {R : Type} : Loops R := Loops.none
def E_91 {R : Type} (N : Nat) : Env R := EG_91 (p_74 N)
theorem eok_91 {R : Type} (N : Nat) : EK Try.prog (E_91 (R := R) N) := ek_add (ek_base _ _ _) (good_74 N)
def L_91 {R : Type} (N : Nat) : Loops R := LG_91
theorem lok_91 {R : Type} (N : Nat) : LOK 0 TT (E_91 (R := R) N) (drawAny TT WW) (L_91 N) (bodyOf Try.f91) := loops_nil (by kernel_rfl)
theorem grun_91 {R : Type} (q_74 : Tp_74 R) (x : aden ap_91 × hden hp_91) (k : KF R) : fnrun TT (EG_91 q_74) (drawAny TT WW) (LG_91) true Try.f91 (instA ap_91 x.1) (instH hp_91 x.2) k = Q_91 q_74 x (fun y => k (Pat.inst (.vec (.int .u64) 128) y) (instH hp_91 x.2)) := by kernel_rfl
theorem run_91 {R : Type} (N : Nat) (x : aden ap_91 × hden hp_91) (k : KF R) : fnrun TT (E_91 (R := R) N) (drawAny TT WW) (L_91 N) true Try.f91 (instA ap_91 x.1) (instH hp_91 x.2) k = p_91 N x (fun y => k (Pat.inst (.vec (.int .u64) 128) y) (instH hp_91 x.2)) := (grun_91 (p_74 N) x k).trans (by kernel_rfl)
theorem good_91 {R : Type} (N : Nat) : GD (X := R) Try.prog QQ AA 91 ap_91 hp_91 (fun (x : aden ap_91 × hden hp_91) k => p_91 N x (fun y => k (Pat.inst (.vec (.int .u64) 128) y) (instH hp_91 x.2))) :=
  gd_quiet (E := E_91 N) (p := fun (x : aden ap_91 × hden hp_91) κ => p_91 N x (fun y => κ (Pat.inst (.vec (.int .u64) 128) y))) mixed tyok (eok_91 N) Try.func91 (by kernel_rfl) (by kernel_rfl) (lok_91 N) (fun x k => run_91 N x k)

def ap_72 : List Pat := [.node (.fcons (.int .i64) (.fcons (.int .i64) (.fcons (.int .i64) (.fcons (.int .i64) (.fcons (.int .i64) (.fcons (.int .i64) (.fcons (.int .i64) (.fcons (.int .i64) (.fnil))))))))), .int .i64, .int .i64, .int .i64, .int .i64]
def hp_72 : List (Option (Pat × Nat)) := []
abbrev Tp_72 (R : Type) : Type := (Y0 × Int × Int × Int × Int × Unit) × (Unit) → (Int → Option R) → Option R
def Q_72 {R : Type} (q_91 : Tp_91 R) (x : (Y0 × Int × Int × Int × Int × Unit) × (Unit)) (κ0 : Int → Option R) : Option R :=
let i3028 := x.1.2.1
let i3029 := x.1.2.2.1
let i3030 := x.1.2.2.2.1
let i3031 := x.1.2.2.2.2.1
let i3032 : Int := quoA .i64 i3031 128
let i3033 : Int := addA .i64 i3032 1
q_91 ((x.1.1, i3028, i3029, i3030, i3033, ()), ()) (fun y3294 =>
let a3295 : (Nat → Int) := y3294
let i3296 : Int := remA .i64 i3031 128
bif decide (0 ≤ i3296) then (
bif decide (i3296 < (128 : Int)) then (
let i3297 : Int := (a3295 ((Int.toNat i3296)))
κ0 i3297) else none) else none)
def p_72 {R : Type} (N : Nat) (x : (Y0 × Int × Int × Int × Int × Unit) × (Unit)) (κ0 : Int → Option R) : Option R := Q_72 (p_91 N) x κ0
def EG_72 {R : Type} (q_91 : Tp_91 R) : Env R := (Env.base QQ LN AA).add 91 ap_91 hp_91 (fun (x : aden ap_91 × hden hp_91) k => q_91 x (fun y => k (Pat.inst (.vec (.int .u64) 128) y) (instH hp_91 x.2)))
def LG_72 {R : Type} : Loops R := Loops.none
def E_72 {R : Type} (N : Nat) : Env R := EG_72 (p_91 N)
theorem eok_72 {R : Type} (N : Nat) : EK Try.prog (E_72 (R := R) N) := ek_add (ek_base _ _ _) (good_91 N)
def L_72 {R : Type} (N : Nat) : Loops R := LG_72
theorem lok_72 {R : Type} (N : Nat) : LOK 0 TT (E_72 (R := R) N) (drawAny TT WW) (L_72 N) (bodyOf Try.f72) := loops_nil (by kernel_rfl)
theorem grun_72 {R : Type} (q_91 : Tp_91 R) (x : aden ap_72 × hden hp_72) (k : KF R) : fnrun TT (EG_72 q_91) (drawAny TT WW) (LG_72) true Try.f72 (instA ap_72 x.1) (instH hp_72 x.2) k = Q_72 q_91 x (fun y => k (Pat.inst (.int .u64) y) (instH hp_72 x.2)) := by kernel_rfl
theorem run_72 {R : Type} (N : Nat) (x : aden ap_72 × hden hp_72) (k : KF R) : fnrun TT (E_72 (R := R) N) (drawAny TT WW) (L_72 N) true Try.f72 (instA ap_72 x.1) (instH hp_72 x.2) k = p_72 N x (fun y => k (Pat.inst (.int .u64) y) (instH hp_72 x.2)) := (grun_72 (p_91 N) x k).trans (by kernel_rfl)
theorem good_72 {R : Type} (N : Nat) : GD (X := R) Try.prog QQ AA 72 ap_72 hp_72 (fun (x : aden ap_72 × hden hp_72) k => p_72 N x (fun y => k (Pat.inst (.int .u64) y) (instH hp_72 x.2))) :=
  gd_quiet (E := E_72 N) (p := fun (x : aden ap_72 × hden hp_72) κ => p_72 N x (fun y => κ (Pat.inst (.int .u64) y))) mixed tyok (eok_72 N) Try.func72 (by kernel_rfl) (by kernel_rfl) (lok_72 N) (fun x k => run_72 N x k)

def lv_92_5 : Live := [(3, none), (4, none), (5, none), (11, none), (12, some (.int .i64, 3)), (13, none)]
def pt_92_5 : SPat := ⟨[(3, .int .i64), (4, .bool), (5, .ptr 0 []), (11, .int .i64), (12, .sl 1), (13, .int .i64)], [some (Z0, 45), some (.lst (.int .i64), 3)]⟩
def px_92_5_0 : SPat := ⟨[(3, .int .i64), (4, .bool), (11, .int .i64), (12, .sl 0)], [some (.lst (.int .i64), 3)]⟩
def lo_92_5 : Exit → Live
  | .exit 0 => [(3, none), (4, none), (11, none), (12, none)]
  | _ => []
def lv_92_9 : Live := [(3, none), (4, none), (11, none), (12, some (.int .i64, 3)), (14, none)]
def pt_92_9 : SPat := ⟨[(3, .int .i64), (4, .bool), (11, .int .i64), (12, .sl 0), (14, .int .i64)], [some (.lst (.int .i64), 3)]⟩
def px_92_9_0 : SPat := ⟨[(3, .int .i64), (4, .bool), (11, .int .i64), (12, .sl 0)], [some (.lst (.int .i64), 3)]⟩
def lo_92_9 : Exit → Live
  | .exit 2 => [(3, none), (4, none), (11, none), (12, none)]
  | _ => []
def lv_92_14 : Live := [(3, none), (4, none), (11, none), (12, none), (15, none)]
def pt_92_14 : SPat := ⟨[(3, .int .i64), (4, .bool), (11, .int .i64), (12, .sl 0), (15, .int .i64)], [some (.lst (.int .i64), 3)]⟩
def px_92_14_0 : SPat := ⟨[(3, .int .i64), (4, .bool), (12, .sl 0)], [some (.lst (.int .i64), 3)]⟩
def lo_92_14 : Exit → Live
  | .exit 4 => [(3, none), (4, none), (12, none)]
  | _ => []
def ap_92 : List Pat := [.node (.fcons (.int .i64) (.fcons (.int .i64) (.fcons (.int .i64) (.fcons (.int .i64) (.fcons (.int .i64) (.fcons (.int .i64) (.fcons (.int .i64) (.fcons (.int .i64) (.fnil))))))))), .int .i64, .int .i64, .int .i64, .bool]
def hp_92 : List (Option (Pat × Nat)) := []
abbrev Tl_92_5 (R : Type) : Type := ((Int × Bool × Unit × Int × Unit × Int × Unit) × (Y0 × (List Int) × Unit)) → (((Int × Bool × Int × Unit × Unit) × ((List Int) × Unit)) → Option R) → Option R
abbrev Tl_92_14 (R : Type) : Type := Y24 → (((Int × Bool × Unit × Unit) × ((List Int) × Unit)) → Option R) → Option R
abbrev Tl_92_9 (R : Type) : Type := Y24 → (((Int × Bool × Int × Unit × Unit) × ((List Int) × Unit)) → Option R) → Option R
abbrev Tp_92 (R : Type) : Type := (Y0 × Int × Int × Int × Bool × Unit) × (Unit) → ((List Int) → Option R) → Option R
def C_92_5 {R : Type} (rec : ((Int × Bool × Unit × Int × Unit × Int × Unit) × (Y0 × (List Int) × Unit)) → Option R) (x : ((Int × Bool × Unit × Int × Unit × Int × Unit) × (Y0 × (List Int) × Unit))) (κ0 : ((Int × Bool × Int × Unit × Unit) × ((List Int) × Unit)) → Option R) : Option R :=
let i3351 := x.1.1
let b3352 := x.1.2.1
let i3353 := x.1.2.2.2.1
let i3354 := x.1.2.2.2.2.2.1
let i3360 := x.2.1.2.2.2.2.2.1
let i3361 := x.2.1.2.2.2.2.2.2.1
let l3363 := x.2.2.1
let i3364 : Int := subA .i64 i3360 i3361
bif (decide (i3354 < i3364)) then (
let i3365 : Int := addA .i64 i3353 i3361
let i3366 : Int := addA .i64 i3365 i3354
bif decide (i3360 = 0) then none else (
let i3367 : Int := remA .i64 i3366 i3360
let l3368 : (List Int) := [i3367]
bif (decide ((List.length l3363 + List.length l3368) * 8 ≤ 140737488355328) && true) then (
let l3369 : (List Int) := (l3363 ++ l3368)
let i3370 : Int := addA .i64 i3354 1
rec ((i3351, b3352, (), i3353, (), i3370, ()), (x.2.1, l3369, ()))) else none)) else (
κ0 ((i3351, b3352, i3353, (), ()), x.2.2))
def C_92_14 {R : Type} (rec : Y24 → Option R) (x : Y24) (κ0 : ((Int × Bool × Unit × Unit) × ((List Int) × Unit)) → Option R) : Option R :=
let i3416 := x.1.1
let b3417 := x.1.2.1
let i3418 := x.1.2.2.1
let i3419 := x.1.2.2.2.2.1
let l3420 := x.2.1
bif (decide (i3419 < i3416)) then (
let i3421 : Int := addA .i64 i3418 i3419
let l3422 : (List Int) := [i3421]
bif (decide ((List.length l3420 + List.length l3422) * 8 ≤ 140737488355328) && true) then (
let l3423 : (List Int) := (l3420 ++ l3422)
let i3424 : Int := addA .i64 i3419 1
rec ((i3416, b3417, i3418, (), i3424, ()), (l3423, ()))) else none) else (
κ0 ((i3416, b3417, (), ()), x.2))
def C_92_9 {R : Type} (rec : Y24 → Option R) (x : Y24) (κ0 : ((Int × Bool × Int × Unit × Unit) × ((List Int) × Unit)) → Option R) : Option R :=
let i3403 := x.1.1
let b3404 := x.1.2.1
let i3405 := x.1.2.2.1
let i3406 := x.1.2.2.2.2.1
let l3407 := x.2.1
bif (decide (i3406 < i3405)) then (
let l3408 : (List Int) := [i3406]
bif (decide ((List.length l3407 + List.length l3408) * 8 ≤ 140737488355328) && true) then (
let l3409 : (List Int) := (l3407 ++ l3408)
let i3410 : Int := addA .i64 i3406 1
rec ((i3403, b3404, i3405, (), i3410, ()), (l3409, ()))) else none) else (
κ0 ((i3403, b3404, i3405, (), ()), x.2))
def B_92_5 {R : Type} (N : Nat) (rec : ((Int × Bool × Unit × Int × Unit × Int × Unit) × (Y0 × (List Int) × Unit)) → Option R) (x : ((Int × Bool × Unit × Int × Unit × Int × Unit) × (Y0 × (List Int) × Unit))) (κ0 : ((Int × Bool × Int × Unit × Unit) × ((List Int) × Unit)) → Option R) : Option R := C_92_5 rec x κ0
def l_92_5 {R : Type} (N : Nat) : Nat → ((Int × Bool × Unit × Int × Unit × Int × Unit) × (Y0 × (List Int) × Unit)) → (((Int × Bool × Int × Unit × Unit) × ((List Int) × Unit)) → Option R) → Option R
  | 0, _, _ => none
  | n + 1, x, κ0 => B_92_5 N (fun y => l_92_5 N n y κ0) x κ0
def B_92_9 {R : Type} (N : Nat) (rec : Y24 → Option R) (x : Y24) (κ0 : ((Int × Bool × Int × Unit × Unit) × ((List Int) × Unit)) → Option R) : Option R := C_92_9 rec x κ0
def l_92_9 {R : Type} (N : Nat) : Nat → Y24 → (((Int × Bool × Int × Unit × Unit) × ((List Int) × Unit)) → Option R) → Option R
  | 0, _, _ => none
  | n + 1, x, κ0 => B_92_9 N (fun y => l_92_9 N n y κ0) x κ0
def B_92_14 {R : Type} (N : Nat) (rec : Y24 → Option R) (x : Y24) (κ0 : ((Int × Bool × Unit × Unit) × ((List Int) × Unit)) → Option R) : Option R := C_92_14 rec x κ0
def l_92_14 {R : Type} (N : Nat) : Nat → Y24 → (((Int × Bool × Unit × Unit) × ((List Int) × Unit)) → Option R) → Option R
  | 0, _, _ => none
  | n + 1, x, κ0 => B_92_14 N (fun y => l_92_14 N n y κ0) x κ0
def Q_92 {R : Type} (m_92_5 : Tl_92_5 R) (m_92_14 : Tl_92_14 R) (m_92_9 : Tl_92_9 R) (x : (Y0 × Int × Int × Int × Bool × Unit) × (Unit)) (κ0 : (List Int) → Option R) : Option R :=
let i3326 := x.1.1.2.2.2.2.2.2.1
let i3328 := x.1.2.1
let i3329 := x.1.2.2.1
let i3330 := x.1.2.2.2.1
let b3331 := x.1.2.2.2.2.1
let i3332 : Int := mulA .i64 i3329 i3326
bif (decide (i3328 > 0)) then (
m_92_5 ((i3330, b3331, (), i3332, (), 0, ()), (x.1.1, [], ())) (fun y3371 =>
let i3372 := y3371.1.1
let b3373 := y3371.1.2.1
let i3374 := y3371.1.2.2.1
let l3375 := y3371.2.1
bif b3373 then (
m_92_14 ((i3372, b3373, i3374, (), 0, ()), y3371.2) (fun y3385 =>
let i3386 := y3385.1.1
let b3387 := y3385.1.2.1
let l3388 := y3385.2.1
bif b3387 then (
let i3389 : Int := (((List.length l3388) : Nat) : Int)
let i3390 : Int := subA .i64 i3389 1
bif decide (0 ≤ i3390) then (
bif decide (i3390 ≤ (((List.length l3388) : Nat) : Int)) then (
bif decide (0 ≤ i3390) then (
κ0 ((List.take (((Int.toNat i3390) - 0)) (List.drop 0 l3388)))) else none) else none) else none) else (
bif (i3386 == 0) then (
let i3391 : Int := (((List.length l3388) : Nat) : Int)
let i3392 : Int := subA .i64 i3391 1
bif decide (0 ≤ i3392) then (
bif decide (i3392 ≤ (((List.length l3388) : Nat) : Int)) then (
bif decide (0 ≤ i3392) then (
κ0 ((List.take (((Int.toNat i3392) - 0)) (List.drop 0 l3388)))) else none) else none) else none) else (
κ0 l3388)))) else (
bif b3373 then (
let i3393 : Int := (((List.length l3375) : Nat) : Int)
let i3394 : Int := subA .i64 i3393 1
bif decide (0 ≤ i3394) then (
bif decide (i3394 ≤ (((List.length l3375) : Nat) : Int)) then (
bif decide (0 ≤ i3394) then (
κ0 ((List.take (((Int.toNat i3394) - 0)) (List.drop 0 l3375)))) else none) else none) else none) else (
bif (i3372 == 0) then (
let i3395 : Int := (((List.length l3375) : Nat) : Int)
let i3396 : Int := subA .i64 i3395 1
bif decide (0 ≤ i3396) then (
bif decide (i3396 ≤ (((List.length l3375) : Nat) : Int)) then (
bif decide (0 ≤ i3396) then (
κ0 ((List.take (((Int.toNat i3396) - 0)) (List.drop 0 l3375)))) else none) else none) else none) else (
κ0 l3375))))) else (
m_92_9 ((i3330, b3331, i3332, (), 0, ()), ([], ())) (fun y3411 =>
let i3412 := y3411.1.1
let b3413 := y3411.1.2.1
let i3414 := y3411.1.2.2.1
let l3415 := y3411.2.1
bif b3413 then (
m_92_14 ((i3412, b3413, i3414, (), 0, ()), y3411.2) (fun y3425 =>
let i3426 := y3425.1.1
let b3427 := y3425.1.2.1
let l3428 := y3425.2.1
bif b3427 then (
let i3429 : Int := (((List.length l3428) : Nat) : Int)
let i3430 : Int := subA .i64 i3429 1
bif decide (0 ≤ i3430) then (
bif decide (i3430 ≤ (((List.length l3428) : Nat) : Int)) then (
bif decide (0 ≤ i3430) then (
κ0 ((List.take (((Int.toNat i3430) - 0)) (List.drop 0 l3428)))) else none) else none) else none) else (
bif (i3426 == 0) then (
let i3431 : Int := (((List.length l3428) : Nat) : Int)
let i3432 : Int := subA .i64 i3431 1
bif decide (0 ≤ i3432) then (
bif decide (i3432 ≤ (((List.length l3428) : Nat) : Int)) then (
bif decide (0 ≤ i3432) then (
κ0 ((List.take (((Int.toNat i3432) - 0)) (List.drop 0 l3428)))) else none) else none) else none) else (
κ0 l3428)))) else (
bif b3413 then (
let i3433 : Int := (((List.length l3415) : Nat) : Int)
let i3434 : Int := subA .i64 i3433 1
bif decide (0 ≤ i3434) then (
bif decide (i3434 ≤ (((List.length l3415) : Nat) : Int)) then (
bif decide (0 ≤ i3434) then (
κ0 ((List.take (((Int.toNat i3434) - 0)) (List.drop 0 l3415)))) else none) else none) else none) else (
bif (i3412 == 0) then (
let i3435 : Int := (((List.length l3415) : Nat) : Int)
let i3436 : Int := subA .i64 i3435 1
bif decide (0 ≤ i3436) then (
bif decide (i3436 ≤ (((List.length l3415) : Nat) : Int)) then (
bif decide (0 ≤ i3436) then (
κ0 ((List.take (((Int.toNat i3436) - 0)) (List.drop 0 l3415)))) else none) else none) else none) else (
κ0 l3415)))))
def p_92 {R : Type} (N : Nat) (x : (Y0 × Int × Int × Int × Bool × Unit) × (Unit)) (κ0 : (List Int) → Option R) : Option R := Q_92 (l_92_5 N N) (l_92_14 N N) (l_92_9 N N) x κ0
def EG_92 {R : Type} : Env R := Env.base QQ LN AA
def LG_92 {R : Type} (m_92_5 : Tl_92_5 R) (m_92_14 : Tl_92_14 R) (m_92_9 : Tl_92_9 R) : Loops R := (((Loops.none).add 5 (loopBy 0 lv_92_5 pt_92_5 (fun x k => m_92_5 x (fun y => k (.exit 0) (px_92_5_0.inst y))))).add 14 (loopBy 0 lv_92_14 pt_92_14 (fun x k => m_92_14 x (fun y => k (.exit 4) (px_92_14_0.inst y))))).add 9 (loopBy 0 lv_92_9 pt_92_9 (fun x k => m_92_9 x (fun y => k (.exit 2) (px_92_9_0.inst y))))
def E_92 {R : Type} (N : Nat) : Env R := EG_92
theorem eok_92 {R : Type} (N : Nat) : EK Try.prog (E_92 (R := R) N) := ek_base _ _ _
def L_92 {R : Type} (N : Nat) : Loops R := LG_92 (l_92_5 N N) (l_92_14 N N) (l_92_9 N N)
theorem gstep_92_5 {R : Type} (m_92_5 : Tl_92_5 R) (m_92_14 : Tl_92_14 R) (m_92_9 : Tl_92_9 R) (n : Nat) (x : pt_92_5.den) (k : Exit → St → Option R) : iter 0 lv_92_5 lo_92_5 (aexec TT (EG_92) (drawAny TT WW) (LG_92 m_92_5 m_92_14 m_92_9) (loopAt 5 (bodyOf Try.f92))) (n + 1) (pt_92_5.inst x) k = C_92_5 (fun y => iter 0 lv_92_5 lo_92_5 (aexec TT (EG_92) (drawAny TT WW) (LG_92 m_92_5 m_92_14 m_92_9) (loopAt 5 (bodyOf Try.f92))) n (pt_92_5.inst y) k) x (fun y => k (.exit 0) (px_92_5_0.inst y)) := by kernel_rfl
theorem step_92_5 {R : Type} (N n : Nat) (x : pt_92_5.den) (k : Exit → St → Option R) : iter 0 lv_92_5 lo_92_5 (aexec TT (E_92 (R := R) N) (drawAny TT WW) (L_92 N) (loopAt 5 (bodyOf Try.f92))) (n + 1) (pt_92_5.inst x) k = B_92_5 N (fun y => iter 0 lv_92_5 lo_92_5 (aexec TT (E_92 (R := R) N) (drawAny TT WW) (L_92 N) (loopAt 5 (bodyOf Try.f92))) n (pt_92_5.inst y) k) x (fun y => k (.exit 0) (px_92_5_0.inst y)) := (gstep_92_5 (l_92_5 N N) (l_92_14 N N) (l_92_9 N N) n x k).trans (by kernel_rfl)
theorem eq_92_5 {R : Type} (N : Nat) : ∀ (n : Nat) (x : pt_92_5.den) (k : Exit → St → Option R), iter 0 lv_92_5 lo_92_5 (aexec TT (E_92 (R := R) N) (drawAny TT WW) (L_92 N) (loopAt 5 (bodyOf Try.f92))) n (pt_92_5.inst x) k = l_92_5 N n x (fun y => k (.exit 0) (px_92_5_0.inst y)) :=
  iter_eq (K := Exit → St → Option R) (ks := fun k => k) (l := fun n (x : pt_92_5.den) k => l_92_5 N n x (fun y => k (.exit 0) (px_92_5_0.inst y))) (B := fun (rec : pt_92_5.den → Option R) (x : pt_92_5.den) k => B_92_5 N rec x (fun y => k (.exit 0) (px_92_5_0.inst y))) (fun _ _ => rfl) (fun _ _ _ => rfl) (fun n x k => step_92_5 N n x k)
theorem rounds_92_5 {R : Type} (N : Nat) : Rounds 0 TT (E_92 (R := R) N) (drawAny TT WW) (L_92 N) 5 (loopAt 5 (bodyOf Try.f92)) :=
  rounds_of (p := pt_92_5) (l := fun (x : pt_92_5.den) k => l_92_5 N N x (fun y => k (.exit 0) (px_92_5_0.inst y))) (fun s k => rfl) (fun x k => eq_92_5 N N x k)
theorem gstep_92_14 {R : Type} (m_92_5 : Tl_92_5 R) (m_92_14 : Tl_92_14 R) (m_92_9 : Tl_92_9 R) (n : Nat) (x : pt_92_14.den) (k : Exit → St → Option R) : iter 0 lv_92_14 lo_92_14 (aexec TT (EG_92) (drawAny TT WW) (LG_92 m_92_5 m_92_14 m_92_9) (loopAt 14 (bodyOf Try.f92))) (n + 1) (pt_92_14.inst x) k = C_92_14 (fun y => iter 0 lv_92_14 lo_92_14 (aexec TT (EG_92) (drawAny TT WW) (LG_92 m_92_5 m_92_14 m_92_9) (loopAt 14 (bodyOf Try.f92))) n (pt_92_14.inst y) k) x (fun y => k (.exit 4) (px_92_14_0.inst y)) := by kernel_rfl
theorem step_92_14 {R : Type} (N n : Nat) (x : pt_92_14.den) (k : Exit → St → Option R) : iter 0 lv_92_14 lo_92_14 (aexec TT (E_92 (R := R) N) (drawAny TT WW) (L_92 N) (loopAt 14 (bodyOf Try.f92))) (n + 1) (pt_92_14.inst x) k = B_92_14 N (fun y => iter 0 lv_92_14 lo_92_14 (aexec TT (E_92 (R := R) N) (drawAny TT WW) (L_92 N) (loopAt 14 (bodyOf Try.f92))) n (pt_92_14.inst y) k) x (fun y => k (.exit 4) (px_92_14_0.inst y)) := (gstep_92_14 (l_92_5 N N) (l_92_14 N N) (l_92_9 N N) n x k).trans (by kernel_rfl)
theorem eq_92_14 {R : Type} (N : Nat) : ∀ (n : Nat) (x : pt_92_14.den) (k : Exit → St → Option R), iter 0 lv_92_14 lo_92_14 (aexec TT (E_92 (R := R) N) (drawAny TT WW) (L_92 N) (loopAt 14 (bodyOf Try.f92))) n (pt_92_14.inst x) k = l_92_14 N n x (fun y => k (.exit 4) (px_92_14_0.inst y)) :=
  iter_eq (K := Exit → St → Option R) (ks := fun k => k) (l := fun n (x : pt_92_14.den) k => l_92_14 N n x (fun y => k (.exit 4) (px_92_14_0.inst y))) (B := fun (rec : pt_92_14.den → Option R) (x : pt_92_14.den) k => B_92_14 N rec x (fun y => k (.exit 4) (px_92_14_0.inst y))) (fun _ _ => rfl) (fun _ _ _ => rfl) (fun n x k => step_92_14 N n x k)
theorem rounds_92_14 {R : Type} (N : Nat) : Rounds 0 TT (E_92 (R := R) N) (drawAny TT WW) (L_92 N) 14 (loopAt 14 (bodyOf Try.f92)) :=
  rounds_of (p := pt_92_14) (l := fun (x : pt_92_14.den) k => l_92_14 N N x (fun y => k (.exit 4) (px_92_14_0.inst y))) (fun s k => rfl) (fun x k => eq_92_14 N N x k)
theorem gstep_92_9 {R : Type} (m_92_5 : Tl_92_5 R) (m_92_14 : Tl_92_14 R) (m_92_9 : Tl_92_9 R) (n : Nat) (x : pt_92_9.den) (k : Exit → St → Option R) : iter 0 lv_92_9 lo_92_9 (aexec TT (EG_92) (drawAny TT WW) (LG_92 m_92_5 m_92_14 m_92_9) (loopAt 9 (bodyOf Try.f92))) (n + 1) (pt_92_9.inst x) k = C_92_9 (fun y => iter 0 lv_92_9 lo_92_9 (aexec TT (EG_92) (drawAny TT WW) (LG_92 m_92_5 m_92_14 m_92_9) (loopAt 9 (bodyOf Try.f92))) n (pt_92_9.inst y) k) x (fun y => k (.exit 2) (px_92_9_0.inst y)) := by kernel_rfl
theorem step_92_9 {R : Type} (N n : Nat) (x : pt_92_9.den) (k : Exit → St → Option R) : iter 0 lv_92_9 lo_92_9 (aexec TT (E_92 (R := R) N) (drawAny TT WW) (L_92 N) (loopAt 9 (bodyOf Try.f92))) (n + 1) (pt_92_9.inst x) k = B_92_9 N (fun y => iter 0 lv_92_9 lo_92_9 (aexec TT (E_92 (R := R) N) (drawAny TT WW) (L_92 N) (loopAt 9 (bodyOf Try.f92))) n (pt_92_9.inst y) k) x (fun y => k (.exit 2) (px_92_9_0.inst y)) := (gstep_92_9 (l_92_5 N N) (l_92_14 N N) (l_92_9 N N) n x k).trans (by kernel_rfl)
theorem eq_92_9 {R : Type} (N : Nat) : ∀ (n : Nat) (x : pt_92_9.den) (k : Exit → St → Option R), iter 0 lv_92_9 lo_92_9 (aexec TT (E_92 (R := R) N) (drawAny TT WW) (L_92 N) (loopAt 9 (bodyOf Try.f92))) n (pt_92_9.inst x) k = l_92_9 N n x (fun y => k (.exit 2) (px_92_9_0.inst y)) :=
  iter_eq (K := Exit → St → Option R) (ks := fun k => k) (l := fun n (x : pt_92_9.den) k => l_92_9 N n x (fun y => k (.exit 2) (px_92_9_0.inst y))) (B := fun (rec : pt_92_9.den → Option R) (x : pt_92_9.den) k => B_92_9 N rec x (fun y => k (.exit 2) (px_92_9_0.inst y))) (fun _ _ => rfl) (fun _ _ _ => rfl) (fun n x k => step_92_9 N n x k)
theorem rounds_92_9 {R : Type} (N : Nat) : Rounds 0 TT (E_92 (R := R) N) (drawAny TT WW) (L_92 N) 9 (loopAt 9 (bodyOf Try.f92)) :=
  rounds_of (p := pt_92_9) (l := fun (x : pt_92_9.den) k => l_92_9 N N x (fun y => k (.exit 2) (px_92_9_0.inst y))) (fun s k => rfl) (fun x k => eq_92_9 N N x k)
theorem loops_92 : loopsIn (bodyOf Try.f92) = [(5, loopAt 5 (bodyOf Try.f92)), (9, loopAt 9 (bodyOf Try.f92)), (14, loopAt 14 (bodyOf Try.f92))] := by kernel_rfl
theorem lok_92 {R : Type} (N : Nat) : LOK 0 TT (E_92 (R := R) N) (drawAny TT WW) (L_92 N) (bodyOf Try.f92) := loops_all loops_92 (by
  simp only [List.forall_mem_cons, List.not_mem_nil, false_implies, implies_true, and_true]
  exact ⟨rounds_92_5 N, rounds_92_9 N, rounds_92_14 N⟩)
theorem grun_92 {R : Type} (m_92_5 : Tl_92_5 R) (m_92_14 : Tl_92_14 R) (m_92_9 : Tl_92_9 R) (x : aden ap_92 × hden hp_92) (k : KF R) : fnrun TT (EG_92) (drawAny TT WW) (LG_92 m_92_5 m_92_14 m_92_9) true Try.f92 (instA ap_92 x.1) (instH hp_92 x.2) k = Q_92 m_92_5 m_92_14 m_92_9 x (fun y => k (Pat.inst (.ros (.int .i64)) y) (instH hp_92 x.2)) := by kernel_rfl
theorem run_92 {R : Type} (N : Nat) (x : aden ap_92 × hden hp_92) (k : KF R) : fnrun TT (E_92 (R := R) N) (drawAny TT WW) (L_92 N) true Try.f92 (instA ap_92 x.1) (instH hp_92 x.2) k = p_92 N x (fun y => k (Pat.inst (.ros (.int .i64)) y) (instH hp_92 x.2)) := (grun_92 (l_92_5 N N) (l_92_14 N N) (l_92_9 N N) x k).trans (by kernel_rfl)
theorem good_92 {R : Type} (N : Nat) : GD (X := R) Try.prog QQ AA 92 ap_92 hp_92 (fun (x : aden ap_92 × hden hp_92) k => p_92 N x (fun y => k (Pat.inst (.ros (.int .i64)) y) (instH hp_92 x.2))) :=
  gd_quiet (E := E_92 N) (p := fun (x : aden ap_92 × hden hp_92) κ => p_92 N x (fun y => κ (Pat.inst (.ros (.int .i64)) y))) mixed tyok (eok_92 N) Try.func92 (by kernel_rfl) (by kernel_rfl) (lok_92 N) (fun x k => run_92 N x k)

def ap_93 : List Pat := [.int .i64, .int .u32]
def hp_93 : List (Option (Pat × Nat)) := []
abbrev Tp_93 (R : Type) : Type := (Int × Int × Unit) × (Unit) → (Int → Option R) → Option R
def Q_93 {R : Type} (x : (Int × Int × Unit) × (Unit)) (κ0 : Int → Option R) : Option R :=
let i3440 := x.1.1
let i3441 := x.1.2.1
let i3442 : Int := IntKind.wrap .u64 i3441
let i3443 : Int := IntKind.wrap .u64 i3441
let i3444 : Int := mulA .u64 i3442 i3443
let i3445 : Int := quoA .u64 i3444 4294967296
let i3446 : Int := IntKind.wrap .u64 i3440
let i3447 : Int := mulA .u64 i3446 i3445
let i3448 : Int := quoA .u64 i3447 4294967296
let i3449 : Int := subA .i64 i3440 1
let i3450 : Int := IntKind.wrap .i64 i3448
let i3451 : Int := subA .i64 i3449 i3450
κ0 i3451
def p_93 {R : Type} (N : Nat) (x : (Int × Int × Unit) × (Unit)) (κ0 : Int → Option R) : Option R := Q_93 x κ0
def EG_93 {R : Type} : Env R := Env.base QQ LN AA
def LG_93 {R : Type} : Loops R := Loops.none
def E_93 {R : Type} (N : Nat) : Env R := EG_93
theorem eok_93 {R : Type} (N : Nat) : EK Try.prog (E_93 (R := R) N) := ek_base _ _ _
def L_93 {R : Type} (N : Nat) : Loops R := LG_93
theorem lok_93 {R : Type} (N : Nat) : LOK 0 TT (E_93 (R := R) N) (drawAny TT WW) (L_93 N) (bodyOf Try.f93) := loops_nil (by kernel_rfl)
theorem grun_93 {R : Type} (x : aden ap_93 × hden hp_93) (k : KF R) : fnrun TT (EG_93) (drawAny TT WW) (LG_93) true Try.f93 (instA ap_93 x.1) (instH hp_93 x.2) k = Q_93 x (fun y => k (Pat.inst (.int .i64) y) (instH hp_93 x.2)) := by kernel_rfl
theorem run_93 {R : Type} (N : Nat) (x : aden ap_93 × hden hp_93) (k : KF R) : fnrun TT (E_93 (R := R) N) (drawAny TT WW) (L_93 N) true Try.f93 (instA ap_93 x.1) (instH hp_93 x.2) k = p_93 N x (fun y => k (Pat.inst (.int .i64) y) (instH hp_93 x.2)) := (grun_93 x k).trans (by kernel_rfl)
theorem good_93 {R : Type} (N : Nat) : GD (X := R) Try.prog QQ AA 93 ap_93 hp_93 (fun (x : aden ap_93 × hden hp_93) k => p_93 N x (fun y => k (Pat.inst (.int .i64) y) (instH hp_93 x.2))) :=
  gd_quiet (E := E_93 N) (p := fun (x : aden ap_93 × hden hp_93) κ => p_93 N x (fun y => κ (Pat.inst (.int .i64) y))) mixed tyok (eok_93 N) Try.func93 (by kernel_rfl) (by kernel_rfl) (lok_93 N) (fun x k => run_93 N x k)

def ap_73 : List Pat := [.node (.fcons (.int .i64) (.fcons (.int .i64) (.fcons (.int .i64) (.fcons (.int .i64) (.fcons (.int .i64) (.fcons (.int .i64) (.fcons (.int .i64) (.fcons (.int .i64) (.fnil))))))))), .int .i64, .int .i64, .int .i64, .int .i64, .int .u32, .int .u32]
def hp_73 : List (Option (Pat × Nat)) := []
abbrev Tp_73 (R : Type) : Type := (Y0 × Int × Int × Int × Int × Int × Int × Unit) × (Unit) → ((Int × (Int × Unit)) → Option R) → Option R
def Q_73 {R : Type} (q_92 : Tp_92 R) (q_93 : Tp_93 R) (x : (Y0 × Int × Int × Int × Int × Int × Int × Unit) × (Unit)) (κ0 : (Int × (Int × Unit)) → Option R) : Option R :=
let i3306 := x.1.1.2.2.1
let i3312 := x.1.2.1
let i3313 := x.1.2.2.1
let i3314 := x.1.2.2.2.1
let i3315 := x.1.2.2.2.2.1
let i3316 := x.1.2.2.2.2.2.1
let i3317 := x.1.2.2.2.2.2.2.1
let i3318 : Int := IntKind.wrap .i64 i3317
bif decide (i3306 = 0) then none else (
let i3319 : Int := remA .i64 i3318 i3306
bif (i3312 == 0) then (
bif (i3313 == 0) then (
q_92 ((x.1.1, i3312, i3313, i3315, (i3314 == i3314), ()), ()) (fun y3437 =>
let l3438 : (List Int) := y3437
let i3439 : Int := (((List.length l3438) : Nat) : Int)
q_93 ((i3439, i3316, ()), ()) (fun y3452 =>
let i3453 := y3452
bif decide (0 ≤ i3453) then (
bif decide (i3453 < ((List.length l3438) : Int)) then (
let p3454 : Int := (List.getD l3438 ((Int.toNat i3453)) (Sch.zero (.int .i64)))
κ0 ((i3314, (p3454, ())))) else none) else none))) else (
q_92 ((x.1.1, i3312, i3313, i3315, (i3319 == i3314), ()), ()) (fun y3455 =>
let l3456 : (List Int) := y3455
let i3457 : Int := (((List.length l3456) : Nat) : Int)
q_93 ((i3457, i3316, ()), ()) (fun y3458 =>
let i3459 : Int := y3458
bif decide (0 ≤ i3459) then (
bif decide (i3459 < ((List.length l3456) : Int)) then (
let p3460 : Int := (List.getD l3456 ((Int.toNat i3459)) (Sch.zero (.int .i64)))
κ0 ((i3319, (p3460, ())))) else none) else none)))) else (
q_92 ((x.1.1, i3312, i3313, i3315, (i3319 == i3314), ()), ()) (fun y3461 =>
let l3462 := y3461
let i3463 : Int := (((List.length l3462) : Nat) : Int)
q_93 ((i3463, i3316, ()), ()) (fun y3464 =>
let i3465 : Int := y3464
bif decide (0 ≤ i3465) then (
bif decide (i3465 < ((List.length l3462) : Int)) then (
let p3466 : Int := (List.getD l3462 ((Int.toNat i3465)) (Sch.zero (.int .i64)))
κ0 ((i3319, (p3466, ())))) else none) else none))))
def p_73 {R : Type} (N : Nat) (x : (Y0 × Int × Int × Int × Int × Int × Int × Unit) × (Unit)) (κ0 : (Int × (Int × Unit)) → Option R) : Option R := Q_73 (p_92 N) (p_93 N) x κ0
def EG_73 {R : Type} (q_92 : Tp_92 R) (q_93 : Tp_93 R) : Env R := ((Env.base QQ LN AA).add 92 ap_92 hp_92 (fun (x : aden ap_92 × hden hp_92) k => q_92 x (fun y => k (Pat.inst (.ros (.int .i64)) y) (instH hp_92 x.2)))).add 93 ap_93 hp_93 (fun (x : aden ap_93 × hden hp_93) k => q_93 x (fun y => k (Pat.inst (.int .i64) y) (instH hp_93 x.2)))
def LG_73 {R : Type} : Loops R := Loops.none
def E_73 {R : Type} (N : Nat) : Env R := EG_73 (p_92 N) (p_93 N)
theorem eok_73 {R : Type} (N : Nat) : EK Try.prog (E_73 (R := R) N) := ek_add (ek_add (ek_base _ _ _) (good_92 N)) (good_93 N)
def L_73 {R : Type} (N : Nat) : Loops R := LG_73
theorem lok_73 {R : Type} (N : Nat) : LOK 0 TT (E_73 (R := R) N) (drawAny TT WW) (L_73 N) (bodyOf Try.f73) := loops_nil (by kernel_rfl)
theorem grun_73 {R : Type} (q_92 : Tp_92 R) (q_93 : Tp_93 R) (x : aden ap_73 × hden hp_73) (k : KF R) : fnrun TT (EG_73 q_92 q_93) (drawAny TT WW) (LG_73) true Try.f73 (instA ap_73 x.1) (instH hp_73 x.2) k = Q_73 q_92 q_93 x (fun y => k (Pat.inst (.tup (.fcons (.int .i64) (.fcons (.int .i64) (.fnil)))) y) (instH hp_73 x.2)) := by kernel_rfl
theorem run_73 {R : Type} (N : Nat) (x : aden ap_73 × hden hp_73) (k : KF R) : fnrun TT (E_73 (R := R) N) (drawAny TT WW) (L_73 N) true Try.f73 (instA ap_73 x.1) (instH hp_73 x.2) k = p_73 N x (fun y => k (Pat.inst (.tup (.fcons (.int .i64) (.fcons (.int .i64) (.fnil)))) y) (instH hp_73 x.2)) := (grun_73 (p_92 N) (p_93 N) x k).trans (by kernel_rfl)
theorem good_73 {R : Type} (N : Nat) : GD (X := R) Try.prog QQ AA 73 ap_73 hp_73 (fun (x : aden ap_73 × hden hp_73) k => p_73 N x (fun y => k (Pat.inst (.tup (.fcons (.int .i64) (.fcons (.int .i64) (.fnil)))) y) (instH hp_73 x.2))) :=
  gd_quiet (E := E_73 N) (p := fun (x : aden ap_73 × hden hp_73) κ => p_73 N x (fun y => κ (Pat.inst (.tup (.fcons (.int .i64) (.fcons (.int .i64) (.fnil)))) y))) mixed tyok (eok_73 N) Try.func73 (by kernel_rfl) (by kernel_rfl) (lok_73 N) (fun x k => run_73 N x k)

end Go.Proofs.Ytfcloeflcpcheaa.Eng
