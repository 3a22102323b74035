/-
Plain functions that the functions of the program are shown to come to, printed by a program of the prover; each with its proof.
Conditions: none.
-/
import Derived.Test.YtfcloeflcpcheaaMirGridTagsA
import Derived.KernelRfl
set_option linter.unusedVariables false
namespace Go.Proofs.Ytfcloeflcpcheaa.Eng
def ap_54 : List Pat := [.str]
def hp_54 : List (Option (Pat × Nat)) := []
abbrev Tp_54 (R : Type) : Type := (ByteArray × Unit) × (Unit) → (((Nat → Int) × (Int × Unit)) → Option R) → Option R
def Q_54 {R : Type} (q_84_v1 : Tp_84_v1 R) (x : (ByteArray × Unit) × (Unit)) (κ0 : ((Nat → Int) × (Int × Unit)) → Option R) : Option R :=
let s2128 := x.1.1
let i2129 : Int := ((ByteArray.size s2128 : Nat) : Int)
bif (i2129 != 1024) then (
let a2130 : (Nat → Int) := (Sch.zero (.arr 128 (.int .u64)))
κ0 ((a2130, (9, ())))) else (
bif decide (ByteArray.size s2128 ≤ maxI64) then (
let l2131 : (List Int) := strList s2128
q_84_v1 (((), ()), (l2131, ())) (fun y2156 =>
let l2157 := y2156.1.1
bif decide (128 ≤ List.length l2157) then (
let p2160 : (Nat → Int) := (fun i => List.getD l2157 i (Sch.zero (.int .u64)))
κ0 ((p2160, (0, ())))) else none)) else none)
def p_54 {R : Type} (N : Nat) (x : (ByteArray × Unit) × (Unit)) (κ0 : ((Nat → Int) × (Int × Unit)) → Option R) : Option R := Q_54 (p_84_v1 N) x κ0
def EG_54 {R : Type} (q_84_v1 : Tp_84_v1 R) : Env R := (Env.base QQ LN AA).add 84 ap_84_v1 hp_84_v1 (fun (x : aden ap_84_v1 × hden hp_84_v1) k => q_84_v1 x (fun y => k (Pat.inst (.tup (.fcons (.ros (.int .u64)) (.fcons (.int .i64) (.fnil)))) y.1) (instH J4 y.2)))
def LG_54 {R : Type} : Loops R := Loops.none
def E_54 {R : Type} (N : Nat) : Env R := EG_54 (p_84_v1 N)
theorem eok_54 {R : Type} (N : Nat) : EK Try.prog (E_54 (R := R) N) := ek_add (ek_base _ _ _) (good_84_v1 N)
def L_54 {R : Type} (N : Nat) : Loops R := LG_54
theorem lok_54 {R : Type} (N : Nat) : LOK 0 TT (E_54 (R := R) N) (drawAny TT WW) (L_54 N) (bodyOf Try.f54) := loops_nil (by kernel_rfl)
theorem grun_54 {R : Type} (q_84_v1 : Tp_84_v1 R) (x : aden ap_54 × hden hp_54) (k : KF R) : fnrun TT (EG_54 q_84_v1) (drawAny TT WW) (LG_54) true Try.f54 (instA ap_54 x.1) (instH hp_54 x.2) k = Q_54 q_84_v1 x (fun y => k (Pat.inst (.tup (.fcons (.vec (.int .u64) 128) (.fcons (.int .i64) (.fnil)))) y) (instH hp_54 x.2)) := by kernel_rfl
theorem run_54 {R : Type} (N : Nat) (x : aden ap_54 × hden hp_54) (k : KF R) : fnrun TT (E_54 (R := R) N) (drawAny TT WW) (L_54 N) true Try.f54 (instA ap_54 x.1) (instH hp_54 x.2) k = p_54 N x (fun y => k (Pat.inst (.tup (.fcons (.vec (.int .u64) 128) (.fcons (.int .i64) (.fnil)))) y) (instH hp_54 x.2)) := (grun_54 (p_84_v1 N) x k).trans (by kernel_rfl)
theorem good_54 {R : Type} (N : Nat) : GD (X := R) Try.prog QQ AA 54 ap_54 hp_54 (fun (x : aden ap_54 × hden hp_54) k => p_54 N x (fun y => k (Pat.inst (.tup (.fcons (.vec (.int .u64) 128) (.fcons (.int .i64) (.fnil)))) y) (instH hp_54 x.2))) :=
  gd_quiet (E := E_54 N) (p := fun (x : aden ap_54 × hden hp_54) κ => p_54 N x (fun y => κ (Pat.inst (.tup (.fcons (.vec (.int .u64) 128) (.fcons (.int .i64) (.fnil)))) y))) mixed tyok (eok_54 N) Try.func54 (by kernel_rfl) (by kernel_rfl) (lok_54 N) (fun x k => run_54 N x k)

def ap_78 : List Pat := [.node (.fcons (.int .i64) (.fcons (.int .i64) (.fcons (.int .i64) (.fcons (.int .i64) (.fcons (.int .i64) (.fcons (.int .i64) (.fcons (.int .i64) (.fcons (.int .i64) (.fnil))))))))), .int .i64, .int .i64]
def hp_78 : List (Option (Pat × Nat)) := []
abbrev Tp_78 (R : Type) : Type := (Y1 × Int × Int × Unit) × (Unit) → (Int → Option R) → Option R
def Q_78 {R : Type} (x : (Y1 × Int × Int × Unit) × (Unit)) (κ0 : Int → Option R) : Option R :=
let i2202 := x.1.1.2.2.2.2.2.1
let i2205 := x.1.2.1
let i2206 := x.1.2.2.1
let i2207 : Int := mulA .i64 i2205 i2202
let i2208 : Int := addA .i64 i2207 i2206
κ0 i2208
def p_78 {R : Type} (N : Nat) (x : (Y1 × Int × Int × Unit) × (Unit)) (κ0 : Int → Option R) : Option R := Q_78 x κ0
def EG_78 {R : Type} : Env R := Env.base QQ LN AA
def LG_78 {R : Type} : Loops R := Loops.none
def E_78 {R : Type} (N : Nat) : Env R := EG_78
theorem eok_78 {R : Type} (N : Nat) : EK Try.prog (E_78 (R := R) N) := ek_base _ _ _
def L_78 {R : Type} (N : Nat) : Loops R := LG_78
theorem lok_78 {R : Type} (N : Nat) : LOK 0 TT (E_78 (R := R) N) (drawAny TT WW) (L_78 N) (bodyOf Try.f78) := loops_nil (by kernel_rfl)
theorem grun_78 {R : Type} (x : aden ap_78 × hden hp_78) (k : KF R) : fnrun TT (EG_78) (drawAny TT WW) (LG_78) true Try.f78 (instA ap_78 x.1) (instH hp_78 x.2) k = Q_78 x (fun y => k (Pat.inst (.int .i64) y) (instH hp_78 x.2)) := by kernel_rfl
theorem run_78 {R : Type} (N : Nat) (x : aden ap_78 × hden hp_78) (k : KF R) : fnrun TT (E_78 (R := R) N) (drawAny TT WW) (L_78 N) true Try.f78 (instA ap_78 x.1) (instH hp_78 x.2) k = p_78 N x (fun y => k (Pat.inst (.int .i64) y) (instH hp_78 x.2)) := (grun_78 x k).trans (by kernel_rfl)
theorem good_78 {R : Type} (N : Nat) : GD (X := R) Try.prog QQ AA 78 ap_78 hp_78 (fun (x : aden ap_78 × hden hp_78) k => p_78 N x (fun y => k (Pat.inst (.int .i64) y) (instH hp_78 x.2))) :=
  gd_quiet (E := E_78 N) (p := fun (x : aden ap_78 × hden hp_78) κ => p_78 N x (fun y => κ (Pat.inst (.int .i64) y))) mixed tyok (eok_78 N) Try.func78 (by kernel_rfl) (by kernel_rfl) (lok_78 N) (fun x k => run_78 N x k)

def ap_46 : List Pat := [.ptr 0 [], .node (.fcons (.int .i64) (.fcons (.int .i64) (.fnil)))]
def hp_46 : List (Option (Pat × Nat)) := J0
abbrev Tp_46 (R : Type) : Type := (Unit × (Int × (Int × Unit)) × Unit) × Y0 → (Int → Option R) → Option R
def Q_46 {R : Type} (q_78 : Tp_78 R) (x : (Unit × (Int × (Int × Unit)) × Unit) × Y0) (κ0 : Int → Option R) : Option R :=
let i2181 := x.1.2.1.1
let i2182 := x.1.2.1.2.1
let i2185 := x.2.1.2.1.2.2.1
let i2188 := x.2.1.2.1.2.2.2.2.2.1
bif (decide (i2181 < 0)) then (
κ0 ((-1))) else (
bif (decide (i2181 ≥ i2185)) then (
κ0 ((-1))) else (
bif (decide (i2182 < 0)) then (
κ0 ((-1))) else (
bif (decide (i2182 ≥ i2188)) then (
κ0 ((-1))) else (
q_78 ((x.2.1.2.1, i2181, i2182, ()), ()) (fun y2209 =>
let i2210 : Int := y2209
κ0 i2210)))))
def p_46 {R : Type} (N : Nat) (x : (Unit × (Int × (Int × Unit)) × Unit) × Y0) (κ0 : Int → Option R) : Option R := Q_46 (p_78 N) x κ0
def EG_46 {R : Type} (q_78 : Tp_78 R) : Env R := (Env.base QQ LN AA).add 78 ap_78 hp_78 (fun (x : aden ap_78 × hden hp_78) k => q_78 x (fun y => k (Pat.inst (.int .i64) y) (instH hp_78 x.2)))
def LG_46 {R : Type} : Loops R := Loops.none
def E_46 {R : Type} (N : Nat) : Env R := EG_46 (p_78 N)
theorem eok_46 {R : Type} (N : Nat) : EK Try.prog (E_46 (R := R) N) := ek_add (ek_base _ _ _) (good_78 N)
def L_46 {R : Type} (N : Nat) : Loops R := LG_46
theorem lok_46 {R : Type} (N : Nat) : LOK 4 TT (E_46 (R := R) N) (drawAny TT WW) (L_46 N) (bodyOf Try.f46) := loops_nil (by kernel_rfl)
theorem grun_46 {R : Type} (q_78 : Tp_78 R) (x : aden ap_46 × hden hp_46) (k : KF R) : fnrun TT (EG_46 q_78) (drawAny TT WW) (LG_46) true Try.f46 (instA ap_46 x.1) (instH hp_46 x.2) k = Q_46 q_78 x (fun y => k (Pat.inst (.int .i64) y) (instH hp_46 x.2)) := by kernel_rfl
theorem run_46 {R : Type} (N : Nat) (x : aden ap_46 × hden hp_46) (k : KF R) : fnrun TT (E_46 (R := R) N) (drawAny TT WW) (L_46 N) true Try.f46 (instA ap_46 x.1) (instH hp_46 x.2) k = p_46 N x (fun y => k (Pat.inst (.int .i64) y) (instH hp_46 x.2)) := (grun_46 (p_78 N) x k).trans (by kernel_rfl)
theorem good_46 {R : Type} (N : Nat) : GD (X := R) Try.prog QQ AA 46 ap_46 hp_46 (fun (x : aden ap_46 × hden hp_46) k => p_46 N x (fun y => k (Pat.inst (.int .i64) y) (instH hp_46 x.2))) :=
  gd_quiet (E := E_46 N) (p := fun (x : aden ap_46 × hden hp_46) κ => p_46 N x (fun y => κ (Pat.inst (.int .i64) y))) mixed tyok (eok_46 N) Try.func46 (by kernel_rfl) (by kernel_rfl) (lok_46 N) (fun x k => run_46 N x k)

def ap_47 : List Pat := [.ptr 0 [], .int .i64]
def hp_47 : List (Option (Pat × Nat)) := J1
abbrev Tp_47 (R : Type) : Type := (Unit × Int × Unit) × (Y11 × Y7 × (List (Nat → Int)) × Unit) → (((Nat → Int) × (Int × Unit)) → Option R) → Option R
def Q_47 {R : Type} (x : (Unit × Int × Unit) × (Y11 × Y7 × (List (Nat → Int)) × Unit)) (κ0 : ((Nat → Int) × (Int × Unit)) → Option R) : Option R :=
let i2221 := x.1.2.1
let b2222 := x.2.1.2.2.1
let l2227 := x.2.2.2.1
bif (decide (i2221 < 0)) then (
let a2228 : (Nat → Int) := (Sch.zero (.arr 128 (.int .u64)))
κ0 ((a2228, (11, ())))) else (
let i2229 : Int := (((List.length l2227) : Nat) : Int)
bif (decide (i2221 ≥ i2229)) then (
let a2230 : (Nat → Int) := (Sch.zero (.arr 128 (.int .u64)))
κ0 ((a2230, (11, ())))) else (
bif (!b2222) then (
let a2231 : (Nat → Int) := (Sch.zero (.arr 128 (.int .u64)))
κ0 ((a2231, (12, ())))) else (
bif decide (0 ≤ i2221) then (
bif decide (i2221 < ((List.length l2227) : Int)) then (
let a2232 : (Nat → Int) := (List.getD l2227 ((Int.toNat i2221)) (Sch.zero (.arr 128 (.int .u64))))
κ0 ((a2232, (0, ())))) else none) else none)))
def p_47 {R : Type} (N : Nat) (x : (Unit × Int × Unit) × (Y11 × Y7 × (List (Nat → Int)) × Unit)) (κ0 : ((Nat → Int) × (Int × Unit)) → Option R) : Option R := Q_47 x κ0
def EG_47 {R : Type} : Env R := Env.base QQ LN AA
def LG_47 {R : Type} : Loops R := Loops.none
def E_47 {R : Type} (N : Nat) : Env R := EG_47
theorem eok_47 {R : Type} (N : Nat) : EK Try.prog (E_47 (R := R) N) := ek_base _ _ _
def L_47 {R : Type} (N : Nat) : Loops R := LG_47
theorem lok_47 {R : Type} (N : Nat) : LOK 3 TT (E_47 (R := R) N) (drawAny TT WW) (L_47 N) (bodyOf Try.f47) := loops_nil (by kernel_rfl)
theorem grun_47 {R : Type} (x : aden ap_47 × hden hp_47) (k : KF R) : fnrun TT (EG_47) (drawAny TT WW) (LG_47) true Try.f47 (instA ap_47 x.1) (instH hp_47 x.2) k = Q_47 x (fun y => k (Pat.inst (.tup (.fcons (.vec (.int .u64) 128) (.fcons (.int .i64) (.fnil)))) y) (instH hp_47 x.2)) := by kernel_rfl
theorem run_47 {R : Type} (N : Nat) (x : aden ap_47 × hden hp_47) (k : KF R) : fnrun TT (E_47 (R := R) N) (drawAny TT WW) (L_47 N) true Try.f47 (instA ap_47 x.1) (instH hp_47 x.2) k = p_47 N x (fun y => k (Pat.inst (.tup (.fcons (.vec (.int .u64) 128) (.fcons (.int .i64) (.fnil)))) y) (instH hp_47 x.2)) := (grun_47 x k).trans (by kernel_rfl)
theorem good_47 {R : Type} (N : Nat) : GD (X := R) Try.prog QQ AA 47 ap_47 hp_47 (fun (x : aden ap_47 × hden hp_47) k => p_47 N x (fun y => k (Pat.inst (.tup (.fcons (.vec (.int .u64) 128) (.fcons (.int .i64) (.fnil)))) y) (instH hp_47 x.2))) :=
  gd_quiet (E := E_47 N) (p := fun (x : aden ap_47 × hden hp_47) κ => p_47 N x (fun y => κ (Pat.inst (.tup (.fcons (.vec (.int .u64) 128) (.fcons (.int .i64) (.fnil)))) y))) mixed tyok (eok_47 N) Try.func47 (by kernel_rfl) (by kernel_rfl) (lok_47 N) (fun x k => run_47 N x k)

def ap_51 : List Pat := [.ptr 0 [], .int .i64, .vec (.int .u64) 128]
def hp_51 : List (Option (Pat × Nat)) := J1
abbrev Tp_51 (R : Type) : Type := (Unit × Int × (Nat → Int) × Unit) × (Y11 × Y7 × (List (Nat → Int)) × Unit) → ((Int × (Y11 × Y7 × (List (Nat → Int)) × Unit)) → Option R) → Option R
def Q_51 {R : Type} (q_47 : Tp_47 R) (x : (Unit × Int × (Nat → Int) × Unit) × (Y11 × Y7 × (List (Nat → Int)) × Unit)) (κ0 : (Int × (Y11 × Y7 × (List (Nat → Int)) × Unit)) → Option R) : Option R :=
let i2213 := x.1.2.1
let a2214 := x.1.2.2.1
let l2220 := x.2.2.2.1
q_47 (((), i2213, ()), (x.2.1, x.2.2.1, l2220, ())) (fun y2233 =>
let i2235 := y2233.2.1
bif (i2235 != 0) then (
κ0 (i2235, (x.2.1, x.2.2.1, l2220, ()))) else (
bif decide (0 ≤ i2213) then (
bif decide (i2213 < ((List.length l2220) : Int)) then (
let l2236 : (List (Nat → Int)) := (List.set l2220 ((Int.toNat i2213)) a2214)
κ0 (0, (x.2.1, x.2.2.1, l2236, ()))) else none) else none))
def p_51 {R : Type} (N : Nat) (x : (Unit × Int × (Nat → Int) × Unit) × (Y11 × Y7 × (List (Nat → Int)) × Unit)) (κ0 : (Int × (Y11 × Y7 × (List (Nat → Int)) × Unit)) → Option R) : Option R := Q_51 (p_47 N) x κ0
def EG_51 {R : Type} (q_47 : Tp_47 R) : Env R := (Env.base QQ LN AA).add 47 ap_47 hp_47 (fun (x : aden ap_47 × hden hp_47) k => q_47 x (fun y => k (Pat.inst (.tup (.fcons (.vec (.int .u64) 128) (.fcons (.int .i64) (.fnil)))) y) (instH hp_47 x.2)))
def LG_51 {R : Type} : Loops R := Loops.none
def E_51 {R : Type} (N : Nat) : Env R := EG_51 (p_47 N)
theorem eok_51 {R : Type} (N : Nat) : EK Try.prog (E_51 (R := R) N) := ek_add (ek_base _ _ _) (good_47 N)
def L_51 {R : Type} (N : Nat) : Loops R := LG_51
theorem lok_51 {R : Type} (N : Nat) : LOK 3 TT (E_51 (R := R) N) (drawAny TT WW) (L_51 N) (bodyOf Try.f51) := loops_nil (by kernel_rfl)
theorem grun_51 {R : Type} (q_47 : Tp_47 R) (x : aden ap_51 × hden hp_51) (k : KF R) : fnrun TT (EG_51 q_47) (drawAny TT WW) (LG_51) true Try.f51 (instA ap_51 x.1) (instH hp_51 x.2) k = Q_51 q_47 x (fun y => k (Pat.inst (.int .i64) y.1) (instH J1 y.2)) := by kernel_rfl
theorem run_51 {R : Type} (N : Nat) (x : aden ap_51 × hden hp_51) (k : KF R) : fnrun TT (E_51 (R := R) N) (drawAny TT WW) (L_51 N) true Try.f51 (instA ap_51 x.1) (instH hp_51 x.2) k = p_51 N x (fun y => k (Pat.inst (.int .i64) y.1) (instH J1 y.2)) := (grun_51 (p_47 N) x k).trans (by kernel_rfl)
theorem good_51 {R : Type} (N : Nat) : GD (X := R) Try.prog QQ AA 51 ap_51 hp_51 (fun (x : aden ap_51 × hden hp_51) k => p_51 N x (fun y => k (Pat.inst (.int .i64) y.1) (instH J1 y.2))) :=
  gd_loud (E := E_51 N) (p := fun (x : aden ap_51 × hden hp_51) k => p_51 N x (fun y => k (Pat.inst (.int .i64) y.1) (instH J1 y.2))) mixed tyok (eok_51 N) Try.func51 (by kernel_rfl) (by kernel_rfl) (by kernel_rfl) (by kernel_rfl) (lok_51 N) (fun x k => run_51 N x k)

def ap_12 : List Pat := [.ptr 0 [], .node (.fcons (.int .i64) (.fcons (.int .i64) (.fnil))), .vec (.int .u64) 128]
def hp_12 : List (Option (Pat × Nat)) := J0
abbrev Tp_12 (R : Type) : Type := (Unit × (Int × (Int × Unit)) × (Nat → Int) × Unit) × Y0 → ((Int × Y0) → Option R) → Option R
def Q_12 {R : Type} (q_46 : Tp_46 R) (q_51 : Tp_51 R) (x : (Unit × (Int × (Int × Unit)) × (Nat → Int) × Unit) × Y0) (κ0 : (Int × Y0) → Option R) : Option R :=
let a2166 := x.1.2.2.1
let l2180 := x.2.2.2.2.1
q_46 (((), x.1.2.1, ()), (x.2.1, x.2.2.1, x.2.2.2.1, l2180, ())) (fun y2211 =>
let i2212 := y2211
bif (decide (i2212 < 0)) then (
κ0 (11, (x.2.1, x.2.2.1, x.2.2.2.1, l2180, ()))) else (
q_51 (((), i2212, a2166, ()), (x.2.2.1, x.2.2.2.1, l2180, ())) (fun y2237 =>
let i2238 := y2237.1
let l2244 := y2237.2.2.2.1
κ0 (i2238, (x.2.1, y2237.2.1, y2237.2.2.1, l2244, ())))))
def p_12 {R : Type} (N : Nat) (x : (Unit × (Int × (Int × Unit)) × (Nat → Int) × Unit) × Y0) (κ0 : (Int × Y0) → Option R) : Option R := Q_12 (p_46 N) (p_51 N) x κ0
def EG_12 {R : Type} (q_46 : Tp_46 R) (q_51 : Tp_51 R) : Env R := ((Env.base QQ LN AA).add 46 ap_46 hp_46 (fun (x : aden ap_46 × hden hp_46) k => q_46 x (fun y => k (Pat.inst (.int .i64) y) (instH hp_46 x.2)))).add 51 ap_51 hp_51 (fun (x : aden ap_51 × hden hp_51) k => q_51 x (fun y => k (Pat.inst (.int .i64) y.1) (instH J1 y.2)))
def LG_12 {R : Type} : Loops R := Loops.none
def E_12 {R : Type} (N : Nat) : Env R := EG_12 (p_46 N) (p_51 N)
theorem eok_12 {R : Type} (N : Nat) : EK Try.prog (E_12 (R := R) N) := ek_add (ek_add (ek_base _ _ _) (good_46 N)) (good_51 N)
def L_12 {R : Type} (N : Nat) : Loops R := LG_12
theorem lok_12 {R : Type} (N : Nat) : LOK 4 TT (E_12 (R := R) N) (drawAny TT WW) (L_12 N) (bodyOf Try.f12) := loops_nil (by kernel_rfl)
theorem grun_12 {R : Type} (q_46 : Tp_46 R) (q_51 : Tp_51 R) (x : aden ap_12 × hden hp_12) (k : KF R) : fnrun TT (EG_12 q_46 q_51) (drawAny TT WW) (LG_12) true Try.f12 (instA ap_12 x.1) (instH hp_12 x.2) k = Q_12 q_46 q_51 x (fun y => k (Pat.inst (.int .i64) y.1) (instH J0 y.2)) := by kernel_rfl
theorem run_12 {R : Type} (N : Nat) (x : aden ap_12 × hden hp_12) (k : KF R) : fnrun TT (E_12 (R := R) N) (drawAny TT WW) (L_12 N) true Try.f12 (instA ap_12 x.1) (instH hp_12 x.2) k = p_12 N x (fun y => k (Pat.inst (.int .i64) y.1) (instH J0 y.2)) := (grun_12 (p_46 N) (p_51 N) x k).trans (by kernel_rfl)
theorem good_12 {R : Type} (N : Nat) : GD (X := R) Try.prog QQ AA 12 ap_12 hp_12 (fun (x : aden ap_12 × hden hp_12) k => p_12 N x (fun y => k (Pat.inst (.int .i64) y.1) (instH J0 y.2))) :=
  gd_loud (E := E_12 N) (p := fun (x : aden ap_12 × hden hp_12) k => p_12 N x (fun y => k (Pat.inst (.int .i64) y.1) (instH J0 y.2))) mixed tyok (eok_12 N) Try.func12 (by kernel_rfl) (by kernel_rfl) (by kernel_rfl) (by kernel_rfl) (lok_12 N) (fun x k => run_12 N x k)

def lv_13_7 : Live := [(0, none), (1, none), (5, none), (17, none), (18, none), (21, none)]
def pt_13_7 : SPat := ⟨[(0, .ptr 0 []), (1, .str), (5, .int .i64), (17, .int .i64), (18, .int .i64), (21, .int .i64)], J0⟩
def px_13_7_0 : SPat := ⟨[(4, .int .i64)], J0⟩
def px_13_7_1 : SPat := ⟨[(0, .ptr 0 []), (1, .str), (17, .int .i64), (18, .int .i64)], J0⟩
def lo_13_7 : Exit → Live
  | .ret => [(4, none)]
  | .exit 2 => [(0, none), (1, none), (17, none), (18, none)]
  | _ => []
def lv_13_4 : Live := [(0, none), (1, none), (17, none), (18, none)]
def pt_13_4 : SPat := ⟨[(0, .ptr 0 []), (1, .str), (17, .int .i64), (18, .int .i64)], J0⟩
def px_13_4_0 : SPat := ⟨[(4, .int .i64)], J0⟩
def px_13_4_1 : SPat := ⟨[], J0⟩
def lo_13_4 : Exit → Live
  | .ret => [(4, none)]
  | .exit 0 => []
  | _ => []
def ap_13 : List Pat := [.ptr 0 [], .str]
def hp_13 : List (Option (Pat × Nat)) := J0
abbrev Tl_13_7 (R : Type) : Type := ((Unit × ByteArray × Int × Int × Int × Int × Unit) × Y0) → (((Int × Unit) × Y0) → Option R) → (((Unit × ByteArray × Int × Int × Unit) × Y0) → Option R) → Option R
abbrev Tl_13_4 (R : Type) : Type := ((Unit × ByteArray × Int × Int × Unit) × Y0) → (((Int × Unit) × Y0) → Option R) → (((Unit) × Y0) → Option R) → Option R
abbrev Tp_13 (R : Type) : Type := (Unit × ByteArray × Unit) × Y0 → ((Int × Y0) → Option R) → Option R
def C_13_7 {R : Type} (q_53 : Tp_53 R) (q_52 : Tp_52 R) (q_54 : Tp_54 R) (q_12 : Tp_12 R) (rec : ((Unit × ByteArray × Int × Int × Int × Int × Unit) × Y0) → Option R) (x : ((Unit × ByteArray × Int × Int × Int × Int × Unit) × Y0)) (κ0 : ((Int × Unit) × Y0) → Option R) (κ1 : ((Unit × ByteArray × Int × Int × Unit) × Y0) → Option R) : Option R :=
let s565 := x.1.2.1
let i566 := x.1.2.2.1
let i567 := x.1.2.2.2.1
let i568 := x.1.2.2.2.2.1
let i569 := x.1.2.2.2.2.2.1
let l583 := x.2.2.2.2.1
bif (decide (i569 < 2)) then (
let i584 : Int := IntKind.wrap .u32 i569
let i585 : Int := IntKind.wrap .u32 i566
let l586 : (List Int) := [i584, i585]
q_53 (((), ()), (l586, ())) (fun y610 =>
let l611 := y610.1
let s613 : ByteArray := listStr l611
let l614 : (List ByteArray) := [s565, s613]
q_52 (((), ()), (l614, ())) (fun y2126 =>
let s2127 : ByteArray := y2126
q_54 ((s2127, ()), ()) (fun y2161 =>
let a2162 := y2161.1
q_12 (((), (i566, (i569, ())), a2162, ()), (x.2.1, x.2.2.1, x.2.2.2.1, l583, ())) (fun y2245 =>
let i2246 := y2245.1
let l2260 := y2245.2.2.2.2.1
bif (i2246 != 0) then (
κ0 ((i2246, ()), (y2245.2.1, y2245.2.2.1, y2245.2.2.2.1, l2260, ()))) else (
let i2261 : Int := addA .i64 i569 1
rec (((), s565, i566, i567, i568, i2261, ()), (y2245.2.1, y2245.2.2.1, y2245.2.2.2.1, l2260, ())))))))) else (
κ1 (((), s565, i567, i568, ()), (x.2.1, x.2.2.1, x.2.2.2.1, l583, ())))
def C_13_4 {R : Type} (m_13_7 : Tl_13_7 R) (rec : ((Unit × ByteArray × Int × Int × Unit) × Y0) → Option R) (x : ((Unit × ByteArray × Int × Int × Unit) × Y0)) (κ0 : ((Int × Unit) × Y0) → Option R) (κ1 : ((Unit) × Y0) → Option R) : Option R :=
let s548 := x.1.2.1
let i549 := x.1.2.2.1
let i550 := x.1.2.2.2.1
let l564 := x.2.2.2.2.1
bif (decide (i550 < i549)) then (
m_13_7 (((), s548, i550, i549, i550, 0, ()), (x.2.1, x.2.2.1, x.2.2.2.1, l564, ())) (fun y2262 =>
let l2277 := y2262.2.2.2.2.1
κ0 (y2262.1, (y2262.2.1, y2262.2.2.1, y2262.2.2.2.1, l2277, ()))) (fun y2278 =>
let s2279 := y2278.1.2.1
let i2280 := y2278.1.2.2.1
let i2281 := y2278.1.2.2.2.1
let l2295 := y2278.2.2.2.2.1
let i2296 : Int := addA .i64 i2281 1
rec (((), s2279, i2280, i2296, ()), (y2278.2.1, y2278.2.2.1, y2278.2.2.2.1, l2295, ())))) else (
κ1 ((), (x.2.1, x.2.2.1, x.2.2.2.1, l564, ())))
def B_13_7 {R : Type} (N : Nat) (rec : ((Unit × ByteArray × Int × Int × Int × Int × Unit) × Y0) → Option R) (x : ((Unit × ByteArray × Int × Int × Int × Int × Unit) × Y0)) (κ0 : ((Int × Unit) × Y0) → Option R) (κ1 : ((Unit × ByteArray × Int × Int × Unit) × Y0) → Option R) : Option R := C_13_7 (p_53 N) (p_52 N) (p_54 N) (p_12 N) rec x κ0 κ1
def l_13_7 {R : Type} (N : Nat) : Nat → ((Unit × ByteArray × Int × Int × Int × Int × Unit) × Y0) → (((Int × Unit) × Y0) → Option R) → (((Unit × ByteArray × Int × Int × Unit) × Y0) → Option R) → Option R
  | 0, _, _, _ => none
  | n + 1, x, κ0, κ1 => B_13_7 N (fun y => l_13_7 N n y κ0 κ1) x κ0 κ1
def B_13_4 {R : Type} (N : Nat) (rec : ((Unit × ByteArray × Int × Int × Unit) × Y0) → Option R) (x : ((Unit × ByteArray × Int × Int × Unit) × Y0)) (κ0 : ((Int × Unit) × Y0) → Option R) (κ1 : ((Unit) × Y0) → Option R) : Option R := C_13_4 (l_13_7 N N) rec x κ0 κ1
def l_13_4 {R : Type} (N : Nat) : Nat → ((Unit × ByteArray × Int × Int × Unit) × Y0) → (((Int × Unit) × Y0) → Option R) → (((Unit) × Y0) → Option R) → Option R
  | 0, _, _, _ => none
  | n + 1, x, κ0, κ1 => B_13_4 N (fun y => l_13_4 N n y κ0 κ1) x κ0 κ1
def Q_13 {R : Type} (q_53 : Tp_53 R) (q_52 : Tp_52 R) (q_54 : Tp_54 R) (q_12 : Tp_12 R) (m_13_7 : Tl_13_7 R) (m_13_4 : Tl_13_4 R) (x : (Unit × ByteArray × Unit) × Y0) (κ0 : (Int × Y0) → Option R) : Option R :=
let s533 := x.1.2.1
let i536 := x.2.1.2.1.2.2.1
let l547 := x.2.2.2.2.1
m_13_4 (((), s533, i536, 0, ()), (x.2.1, x.2.2.1, x.2.2.2.1, l547, ())) (fun y2297 =>
let i2298 := y2297.1.1
let l2312 := y2297.2.2.2.2.1
κ0 (i2298, (y2297.2.1, y2297.2.2.1, y2297.2.2.2.1, l2312, ()))) (fun y2313 =>
let l2327 := y2313.2.2.2.2.1
κ0 (0, (y2313.2.1, y2313.2.2.1, y2313.2.2.2.1, l2327, ())))
def p_13 {R : Type} (N : Nat) (x : (Unit × ByteArray × Unit) × Y0) (κ0 : (Int × Y0) → Option R) : Option R := Q_13 (p_53 N) (p_52 N) (p_54 N) (p_12 N) (l_13_7 N N) (l_13_4 N N) x κ0
def EG_13 {R : Type} (q_53 : Tp_53 R) (q_52 : Tp_52 R) (q_54 : Tp_54 R) (q_12 : Tp_12 R) : Env R := ((((Env.base QQ LN AA).add 53 ap_53 hp_53 (fun (x : aden ap_53 × hden hp_53) k => q_53 x (fun y => k (Pat.inst (.ros (.int .u8)) y.1) (instH [some (.lst (.int .u32), 78)] y.2)))).add 52 ap_52 hp_52 (fun (x : aden ap_52 × hden hp_52) k => q_52 x (fun y => k (Pat.inst (.str) y) (instH hp_52 x.2)))).add 54 ap_54 hp_54 (fun (x : aden ap_54 × hden hp_54) k => q_54 x (fun y => k (Pat.inst (.tup (.fcons (.vec (.int .u64) 128) (.fcons (.int .i64) (.fnil)))) y) (instH hp_54 x.2)))).add 12 ap_12 hp_12 (fun (x : aden ap_12 × hden hp_12) k => q_12 x (fun y => k (Pat.inst (.int .i64) y.1) (instH J0 y.2)))
def LG_13 {R : Type} (m_13_7 : Tl_13_7 R) (m_13_4 : Tl_13_4 R) : Loops R := ((Loops.none).add 7 (loopBy 4 lv_13_7 pt_13_7 (fun x k => m_13_7 x (fun y => k .ret (px_13_7_0.inst y)) (fun y => k (.exit 2) (px_13_7_1.inst y))))).add 4 (loopBy 4 lv_13_4 pt_13_4 (fun x k => m_13_4 x (fun y => k .ret (px_13_4_0.inst y)) (fun y => k (.exit 0) (px_13_4_1.inst y))))
def E_13 {R : Type} (N : Nat) : Env R := EG_13 (p_53 N) (p_52 N) (p_54 N) (p_12 N)
theorem eok_13 {R : Type} (N : Nat) : EK Try.prog (E_13 (R := R) N) := ek_add (ek_add (ek_add (ek_add (ek_base _ _ _) (good_53 N)) (good_52 N)) (good_54 N)) (good_12 N)
def L_13 {R : Type} (N : Nat) : Loops R := LG_13 (l_13_7 N N) (l_13_4 N N)
theorem gstep_13_7 {R : Type} (q_53 : Tp_53 R) (q_52 : Tp_52 R) (q_54 : Tp_54 R) (q_12 : Tp_12 R) (m_13_7 : Tl_13_7 R) (m_13_4 : Tl_13_4 R) (n : Nat) (x : pt_13_7.den) (k : Exit → St → Option R) : iter 4 lv_13_7 lo_13_7 (aexec TT (EG_13 q_53 q_52 q_54 q_12) (drawAny TT WW) (LG_13 m_13_7 m_13_4) (loopAt 7 (bodyOf Try.f13))) (n + 1) (pt_13_7.inst x) k = C_13_7 q_53 q_52 q_54 q_12 (fun y => iter 4 lv_13_7 lo_13_7 (aexec TT (EG_13 q_53 q_52 q_54 q_12) (drawAny TT WW) (LG_13 m_13_7 m_13_4) (loopAt 7 (bodyOf Try.f13))) n (pt_13_7.inst y) k) x (fun y => k .ret (px_13_7_0.inst y)) (fun y => k (.exit 2) (px_13_7_1.inst y)) := by kernel_rfl
theorem step_13_7 {R : Type} (N n : Nat) (x : pt_13_7.den) (k : Exit → St → Option R) : iter 4 lv_13_7 lo_13_7 (aexec TT (E_13 (R := R) N) (drawAny TT WW) (L_13 N) (loopAt 7 (bodyOf Try.f13))) (n + 1) (pt_13_7.inst x) k = B_13_7 N (fun y => iter 4 lv_13_7 lo_13_7 (aexec TT (E_13 (R := R) N) (drawAny TT WW) (L_13 N) (loopAt 7 (bodyOf Try.f13))) n (pt_13_7.inst y) k) x (fun y => k .ret (px_13_7_0.inst y)) (fun y => k (.exit 2) (px_13_7_1.inst y)) := (gstep_13_7 (p_53 N) (p_52 N) (p_54 N) (p_12 N) (l_13_7 N N) (l_13_4 N N) n x k).trans (by kernel_rfl)
theorem eq_13_7 {R : Type} (N : Nat) : ∀ (n : Nat) (x : pt_13_7.den) (k : Exit → St → Option R), iter 4 lv_13_7 lo_13_7 (aexec TT (E_13 (R := R) N) (drawAny TT WW) (L_13 N) (loopAt 7 (bodyOf Try.f13))) n (pt_13_7.inst x) k = l_13_7 N n x (fun y => k .ret (px_13_7_0.inst y)) (fun y => k (.exit 2) (px_13_7_1.inst y)) :=
  iter_eq (K := Exit → St → Option R) (ks := fun k => k) (l := fun n (x : pt_13_7.den) k => l_13_7 N n x (fun y => k .ret (px_13_7_0.inst y)) (fun y => k (.exit 2) (px_13_7_1.inst y))) (B := fun (rec : pt_13_7.den → Option R) (x : pt_13_7.den) k => B_13_7 N rec x (fun y => k .ret (px_13_7_0.inst y)) (fun y => k (.exit 2) (px_13_7_1.inst y))) (fun _ _ => rfl) (fun _ _ _ => rfl) (fun n x k => step_13_7 N n x k)
theorem rounds_13_7 {R : Type} (N : Nat) : Rounds 4 TT (E_13 (R := R) N) (drawAny TT WW) (L_13 N) 7 (loopAt 7 (bodyOf Try.f13)) :=
  rounds_of (p := pt_13_7) (l := fun (x : pt_13_7.den) k => l_13_7 N N x (fun y => k .ret (px_13_7_0.inst y)) (fun y => k (.exit 2) (px_13_7_1.inst y))) (fun s k => rfl) (fun x k => eq_13_7 N N x k)
theorem gstep_13_4 {R : Type} (q_53 : Tp_53 R) (q_52 : Tp_52 R) (q_54 : Tp_54 R) (q_12 : Tp_12 R) (m_13_7 : Tl_13_7 R) (m_13_4 : Tl_13_4 R) (n : Nat) (x : pt_13_4.den) (k : Exit → St → Option R) : iter 4 lv_13_4 lo_13_4 (aexec TT (EG_13 q_53 q_52 q_54 q_12) (drawAny TT WW) (LG_13 m_13_7 m_13_4) (loopAt 4 (bodyOf Try.f13))) (n + 1) (pt_13_4.inst x) k = C_13_4 m_13_7 (fun y => iter 4 lv_13_4 lo_13_4 (aexec TT (EG_13 q_53 q_52 q_54 q_12) (drawAny TT WW) (LG_13 m_13_7 m_13_4) (loopAt 4 (bodyOf Try.f13))) n (pt_13_4.inst y) k) x (fun y => k .ret (px_13_4_0.inst y)) (fun y => k (.exit 0) (px_13_4_1.inst y)) := by kernel_rfl
theorem step_13_4 {R : Type} (N n : Nat) (x : pt_13_4.den) (k : Exit → St → Option R) : iter 4 lv_13_4 lo_13_4 (aexec TT (E_13 (R := R) N) (drawAny TT WW) (L_13 N) (loopAt 4 (bodyOf Try.f13))) (n + 1) (pt_13_4.inst x) k = B_13_4 N (fun y => iter 4 lv_13_4 lo_13_4 (aexec TT (E_13 (R := R) N) (drawAny TT WW) (L_13 N) (loopAt 4 (bodyOf Try.f13))) n (pt_13_4.inst y) k) x (fun y => k .ret (px_13_4_0.inst y)) (fun y => k (.exit 0) (px_13_4_1.inst y)) := (gstep_13_4 (p_53 N) (p_52 N) (p_54 N) (p_12 N) (l_13_7 N N) (l_13_4 N N) n x k).trans (by kernel_rfl)
theorem eq_13_4 {R : Type} (N : Nat) : ∀ (n : Nat) (x : pt_13_4.den) (k : Exit → St → Option R), iter 4 lv_13_4 lo_13_4 (aexec TT (E_13 (R := R) N) (drawAny TT WW) (L_13 N) (loopAt 4 (bodyOf Try.f13))) n (pt_13_4.inst x) k = l_13_4 N n x (fun y => k .ret (px_13_4_0.inst y)) (fun y => k (.exit 0) (px_13_4_1.inst y)) :=
  iter_eq (K := Exit → St → Option R) (ks := fun k => k) (l := fun n (x : pt_13_4.den) k => l_13_4 N n x (fun y => k .ret (px_13_4_0.inst y)) (fun y => k (.exit 0) (px_13_4_1.inst y))) (B := fun (rec : pt_13_4.den → Option R) (x : pt_13_4.den) k => B_13_4 N rec x (fun y => k .ret (px_13_4_0.inst y)) (fun y => k (.exit 0) (px_13_4_1.inst y))) (fun _ _ => rfl) (fun _ _ _ => rfl) (fun n x k => step_13_4 N n x k)
theorem rounds_13_4 {R : Type} (N : Nat) : Rounds 4 TT (E_13 (R := R) N) (drawAny TT WW) (L_13 N) 4 (loopAt 4 (bodyOf Try.f13)) :=
  rounds_of (p := pt_13_4) (l := fun (x : pt_13_4.den) k => l_13_4 N N x (fun y => k .ret (px_13_4_0.inst y)) (fun y => k (.exit 0) (px_13_4_1.inst y))) (fun s k => rfl) (fun x k => eq_13_4 N N x k)
theorem loops_13 : loopsIn (bodyOf Try.f13) = [(4, loopAt 4 (bodyOf Try.f13)), (7, loopAt 7 (bodyOf Try.f13))] := by kernel_rfl
theorem lok_13 {R : Type} (N : Nat) : LOK 4 TT (E_13 (R := R) N) (drawAny TT WW) (L_13 N) (bodyOf Try.f13) := loops_all loops_13 (by
  simp only [List.forall_mem_cons, List.not_mem_nil, false_implies, implies_true, and_true]
  exact ⟨rounds_13_4 N, rounds_13_7 N⟩)
theorem grun_13 {R : Type} (q_53 : Tp_53 R) (q_52 : Tp_52 R) (q_54 : Tp_54 R) (q_12 : Tp_12 R) (m_13_7 : Tl_13_7 R) (m_13_4 : Tl_13_4 R) (x : aden ap_13 × hden hp_13) (k : KF R) : fnrun TT (EG_13 q_53 q_52 q_54 q_12) (drawAny TT WW) (LG_13 m_13_7 m_13_4) true Try.f13 (instA ap_13 x.1) (instH hp_13 x.2) k = Q_13 q_53 q_52 q_54 q_12 m_13_7 m_13_4 x (fun y => k (Pat.inst (.int .i64) y.1) (instH J0 y.2)) := by kernel_rfl
theorem run_13 {R : Type} (N : Nat) (x : aden ap_13 × hden hp_13) (k : KF R) : fnrun TT (E_13 (R := R) N) (drawAny TT WW) (L_13 N) true Try.f13 (instA ap_13 x.1) (instH hp_13 x.2) k = p_13 N x (fun y => k (Pat.inst (.int .i64) y.1) (instH J0 y.2)) := (grun_13 (p_53 N) (p_52 N) (p_54 N) (p_12 N) (l_13_7 N N) (l_13_4 N N) x k).trans (by kernel_rfl)
theorem good_13 {R : Type} (N : Nat) : GD (X := R) Try.prog QQ AA 13 ap_13 hp_13 (fun (x : aden ap_13 × hden hp_13) k => p_13 N x (fun y => k (Pat.inst (.int .i64) y.1) (instH J0 y.2))) :=
  gd_loud (E := E_13 N) (p := fun (x : aden ap_13 × hden hp_13) k => p_13 N x (fun y => k (Pat.inst (.int .i64) y.1) (instH J0 y.2))) mixed tyok (eok_13 N) Try.func13 (by kernel_rfl) (by kernel_rfl) (by kernel_rfl) (by kernel_rfl) (lok_13 N) (fun x k => run_13 N x k)

def lv_15_3 : Live := [(1, none), (3, some (.fcons (.arr 29 (.fnil)) (.arr 128 (.int .u64)), 52)), (4, none)]
def pt_15_3 : SPat := ⟨[(1, .ptr 0 []), (3, .sl 1), (4, .int .i64)], [some (Z0, 45), some (.fam 29 (.arr 128 (.int .u64)), 52)]⟩
def px_15_3_0 : SPat := ⟨[(3, .sl 0)], J5⟩
def lo_15_3 : Exit → Live
  | .exit 0 => [(3, none)]
  | _ => []
def ap_15 : List Pat := [.node (.fcons (.int .i64) (.fcons (.int .i64) (.fcons (.int .i64) (.fcons (.int .i64) (.fcons (.int .i64) (.fcons (.int .i64) (.fcons (.int .i64) (.fcons (.int .i64) (.fnil)))))))))]
def hp_15 : List (Option (Pat × Nat)) := []
abbrev Tl_15_3 (R : Type) : Type := ((Unit × Unit × Int × Unit) × (Y1 × Y5 × Unit)) → (((Unit × Unit) × (Y5 × Unit)) → Option R) → Option R
abbrev Tp_15 (R : Type) : Type := (Y1 × Unit) × (Unit) → ((Unit × (Y5 × Unit)) → Option R) → Option R
def C_15_3 {R : Type} (rec : ((Unit × Unit × Int × Unit) × (Y1 × Y5 × Unit)) → Option R) (x : ((Unit × Unit × Int × Unit) × (Y1 × Y5 × Unit))) (κ0 : ((Unit × Unit) × (Y5 × Unit)) → Option R) : Option R :=
let i2378 := x.1.2.2.1
let i2381 := x.2.1.2.2.1
let i2384 := x.2.1.2.2.2.2.2.1
let r2387 := x.2.2.1
bif (decide (i2378 < i2381)) then (
bif decide (0 ≤ i2384) then (
bif decide (i2384 ≤ i2384) then (
bif decide (((1024 : Nat) : Int) * i2384 ≤ 281474976710656) then (
bif decide (i2384 ≤ 9223372036854775807) then (
let l2388 : (List (Nat → Int)) := List.replicate ((Int.toNat i2384)) (Sch.zero (.arr 128 (.int .u64)))
let r2389 : Y5 := [l2388]
bif (((decide ((List.length r2387 + List.length r2389) * 24 ≤ 140737488355328) && true) && true) && true) then (
let r2390 : Y5 := (r2387 ++ r2389)
let i2391 : Int := addA .i64 i2378 1
rec (((), (), i2391, ()), (x.2.1, r2390, ()))) else none) else none) else none) else none) else none) else (
κ0 (((), ()), x.2.2))
def B_15_3 {R : Type} (N : Nat) (rec : ((Unit × Unit × Int × Unit) × (Y1 × Y5 × Unit)) → Option R) (x : ((Unit × Unit × Int × Unit) × (Y1 × Y5 × Unit))) (κ0 : ((Unit × Unit) × (Y5 × Unit)) → Option R) : Option R := C_15_3 rec x κ0
def l_15_3 {R : Type} (N : Nat) : Nat → ((Unit × Unit × Int × Unit) × (Y1 × Y5 × Unit)) → (((Unit × Unit) × (Y5 × Unit)) → Option R) → Option R
  | 0, _, _ => none
  | n + 1, x, κ0 => B_15_3 N (fun y => l_15_3 N n y κ0) x κ0
def Q_15 {R : Type} (m_15_3 : Tl_15_3 R) (x : (Y1 × Unit) × (Unit)) (κ0 : (Unit × (Y5 × Unit)) → Option R) : Option R :=
m_15_3 (((), (), 0, ()), (x.1.1, [], ())) (fun y2392 =>
κ0 ((), y2392.2))
def p_15 {R : Type} (N : Nat) (x : (Y1 × Unit) × (Unit)) (κ0 : (Unit × (Y5 × Unit)) → Option R) : Option R := Q_15 (l_15_3 N N) x κ0
def EG_15 {R : Type} : Env R := Env.base QQ LN AA
def LG_15 {R : Type} (m_15_3 : Tl_15_3 R) : Loops R := (Loops.none).add 3 (loopBy 0 lv_15_3 pt_15_3 (fun x k => m_15_3 x (fun y => k (.exit 0) (px_15_3_0.inst y))))
def E_15 {R : Type} (N : Nat) : Env R := EG_15
theorem eok_15 {R : Type} (N : Nat) : EK Try.prog (E_15 (R := R) N) := ek_base _ _ _
def L_15 {R : Type} (N : Nat) : Loops R := LG_15 (l_15_3 N N)
theorem gstep_15_3 {R : Type} (m_15_3 : Tl_15_3 R) (n : Nat) (x : pt_15_3.den) (k : Exit → St → Option R) : iter 0 lv_15_3 lo_15_3 (aexec TT (EG_15) (drawAny TT WW) (LG_15 m_15_3) (loopAt 3 (bodyOf Try.f15))) (n + 1) (pt_15_3.inst x) k = C_15_3 (fun y => iter 0 lv_15_3 lo_15_3 (aexec TT (EG_15) (drawAny TT WW) (LG_15 m_15_3) (loopAt 3 (bodyOf Try.f15))) n (pt_15_3.inst y) k) x (fun y => k (.exit 0) (px_15_3_0.inst y)) := by kernel_rfl
theorem step_15_3 {R : Type} (N n : Nat) (x : pt_15_3.den) (k : Exit → St → Option R) : iter 0 lv_15_3 lo_15_3 (aexec TT (E_15 (R := R) N) (drawAny TT WW) (L_15 N) (loopAt 3 (bodyOf Try.f15))) (n + 1) (pt_15_3.inst x) k = B_15_3 N (fun y => iter 0 lv_15_3 lo_15_3 (aexec TT (E_15 (R := R) N) (drawAny TT WW) (L_15 N) (loopAt 3 (bodyOf Try.f15))) n (pt_15_3.inst y) k) x (fun y => k (.exit 0) (px_15_3_0.inst y)) := (gstep_15_3 (l_15_3 N N) n x k).trans (by kernel_rfl)
theorem eq_15_3 {R : Type} (N : Nat) : ∀ (n : Nat) (x : pt_15_3.den) (k : Exit → St → Option R), iter 0 lv_15_3 lo_15_3 (aexec TT (E_15 (R := R) N) (drawAny TT WW) (L_15 N) (loopAt 3 (bodyOf Try.f15))) n (pt_15_3.inst x) k = l_15_3 N n x (fun y => k (.exit 0) (px_15_3_0.inst y)) :=
  iter_eq (K := Exit → St → Option R) (ks := fun k => k) (l := fun n (x : pt_15_3.den) k => l_15_3 N n x (fun y => k (.exit 0) (px_15_3_0.inst y))) (B := fun (rec : pt_15_3.den → Option R) (x : pt_15_3.den) k => B_15_3 N rec x (fun y => k (.exit 0) (px_15_3_0.inst y))) (fun _ _ => rfl) (fun _ _ _ => rfl) (fun n x k => step_15_3 N n x k)
theorem rounds_15_3 {R : Type} (N : Nat) : Rounds 0 TT (E_15 (R := R) N) (drawAny TT WW) (L_15 N) 3 (loopAt 3 (bodyOf Try.f15)) :=
  rounds_of (p := pt_15_3) (l := fun (x : pt_15_3.den) k => l_15_3 N N x (fun y => k (.exit 0) (px_15_3_0.inst y))) (fun s k => rfl) (fun x k => eq_15_3 N N x k)
theorem loops_15 : loopsIn (bodyOf Try.f15) = [(3, loopAt 3 (bodyOf Try.f15))] := by kernel_rfl
theorem lok_15 {R : Type} (N : Nat) : LOK 0 TT (E_15 (R := R) N) (drawAny TT WW) (L_15 N) (bodyOf Try.f15) := loops_all loops_15 (by
  simp only [List.forall_mem_cons, List.not_mem_nil, false_implies, implies_true, and_true]
  exact rounds_15_3 N)
theorem grun_15 {R : Type} (m_15_3 : Tl_15_3 R) (x : aden ap_15 × hden hp_15) (k : KF R) : fnrun TT (EG_15) (drawAny TT WW) (LG_15 m_15_3) true Try.f15 (instA ap_15 x.1) (instH hp_15 x.2) k = Q_15 m_15_3 x (fun y => k (Pat.inst (.sl 0) y.1) (instH J5 y.2)) := by kernel_rfl
theorem run_15 {R : Type} (N : Nat) (x : aden ap_15 × hden hp_15) (k : KF R) : fnrun TT (E_15 (R := R) N) (drawAny TT WW) (L_15 N) true Try.f15 (instA ap_15 x.1) (instH hp_15 x.2) k = p_15 N x (fun y => k (Pat.inst (.sl 0) y.1) (instH J5 y.2)) := (grun_15 (l_15_3 N N) x k).trans (by kernel_rfl)
theorem good_15 {R : Type} (N : Nat) : GD (X := R) Try.prog QQ AA 15 ap_15 hp_15 (fun (x : aden ap_15 × hden hp_15) k => p_15 N x (fun y => k (Pat.inst (.sl 0) y.1) (instH J5 y.2))) :=
  gd_loud (E := E_15 N) (p := fun (x : aden ap_15 × hden hp_15) k => p_15 N x (fun y => k (Pat.inst (.sl 0) y.1) (instH J5 y.2))) mixed tyok (eok_15 N) Try.func15 (by kernel_rfl) (by kernel_rfl) (by kernel_rfl) (by kernel_rfl) (lok_15 N) (fun x k => run_15 N x k)

def ap_9 : List Pat := [.ptr 0 [], .node (.fcons (.int .i64) (.fcons (.int .i64) (.fnil)))]
def hp_9 : List (Option (Pat × Nat)) := J0
abbrev Tp_9 (R : Type) : Type := (Unit × (Int × (Int × Unit)) × Unit) × Y0 → (((Nat → Int) × (Int × Unit)) → Option R) → Option R
def Q_9 {R : Type} (q_46 : Tp_46 R) (q_47 : Tp_47 R) (x : (Unit × (Int × (Int × Unit)) × Unit) × Y0) (κ0 : ((Nat → Int) × (Int × Unit)) → Option R) : Option R :=
let l2450 := x.2.2.2.2.1
q_46 (((), x.1.2.1, ()), (x.2.1, x.2.2.1, x.2.2.2.1, l2450, ())) (fun y2451 =>
let i2452 := y2451
bif (decide (i2452 < 0)) then (
let a2453 : (Nat → Int) := (Sch.zero (.arr 128 (.int .u64)))
κ0 ((a2453, (11, ())))) else (
q_47 (((), i2452, ()), (x.2.2.1, x.2.2.2.1, l2450, ())) (fun y2454 =>
κ0 (y2454))))
def p_9 {R : Type} (N : Nat) (x : (Unit × (Int × (Int × Unit)) × Unit) × Y0) (κ0 : ((Nat → Int) × (Int × Unit)) → Option R) : Option R := Q_9 (p_46 N) (p_47 N) x κ0
def EG_9 {R : Type} (q_46 : Tp_46 R) (q_47 : Tp_47 R) : Env R := ((Env.base QQ LN AA).add 46 ap_46 hp_46 (fun (x : aden ap_46 × hden hp_46) k => q_46 x (fun y => k (Pat.inst (.int .i64) y) (instH hp_46 x.2)))).add 47 ap_47 hp_47 (fun (x : aden ap_47 × hden hp_47) k => q_47 x (fun y => k (Pat.inst (.tup (.fcons (.vec (.int .u64) 128) (.fcons (.int .i64) (.fnil)))) y) (instH hp_47 x.2)))
def LG_9 {R : Type} : Loops R := Loops.none
def E_9 {R : Type} (N : Nat) : Env R := EG_9 (p_46 N) (p_47 N)
theorem eok_9 {R : Type} (N : Nat) : EK Try.prog (E_9 (R := R) N) := ek_add (ek_add (ek_base _ _ _) (good_46 N)) (good_47 N)
def L_9 {R : Type} (N : Nat) : Loops R := LG_9
theorem lok_9 {R : Type} (N : Nat) : LOK 4 TT (E_9 (R := R) N) (drawAny TT WW) (L_9 N) (bodyOf Try.f9) := loops_nil (by kernel_rfl)
theorem grun_9 {R : Type} (q_46 : Tp_46 R) (q_47 : Tp_47 R) (x : aden ap_9 × hden hp_9) (k : KF R) : fnrun TT (EG_9 q_46 q_47) (drawAny TT WW) (LG_9) true Try.f9 (instA ap_9 x.1) (instH hp_9 x.2) k = Q_9 q_46 q_47 x (fun y => k (Pat.inst (.tup (.fcons (.vec (.int .u64) 128) (.fcons (.int .i64) (.fnil)))) y) (instH hp_9 x.2)) := by kernel_rfl
theorem run_9 {R : Type} (N : Nat) (x : aden ap_9 × hden hp_9) (k : KF R) : fnrun TT (E_9 (R := R) N) (drawAny TT WW) (L_9 N) true Try.f9 (instA ap_9 x.1) (instH hp_9 x.2) k = p_9 N x (fun y => k (Pat.inst (.tup (.fcons (.vec (.int .u64) 128) (.fcons (.int .i64) (.fnil)))) y) (instH hp_9 x.2)) := (grun_9 (p_46 N) (p_47 N) x k).trans (by kernel_rfl)
theorem good_9 {R : Type} (N : Nat) : GD (X := R) Try.prog QQ AA 9 ap_9 hp_9 (fun (x : aden ap_9 × hden hp_9) k => p_9 N x (fun y => k (Pat.inst (.tup (.fcons (.vec (.int .u64) 128) (.fcons (.int .i64) (.fnil)))) y) (instH hp_9 x.2))) :=
  gd_quiet (E := E_9 N) (p := fun (x : aden ap_9 × hden hp_9) κ => p_9 N x (fun y => κ (Pat.inst (.tup (.fcons (.vec (.int .u64) 128) (.fcons (.int .i64) (.fnil)))) y))) mixed tyok (eok_9 N) Try.func9 (by kernel_rfl) (by kernel_rfl) (lok_9 N) (fun x k => run_9 N x k)

def lv_17_6 : Live := [(0, none), (3, none), (4, none), (12, none), (13, none), (20, none), (21, none)]
def pt_17_6 : SPat := ⟨[(0, .ptr 0 []), (3, .sl 4), (4, .int .i64), (12, .int .i64), (13, .int .i64), (20, .int .i64), (21, .int .i64)], J2⟩
def px_17_6_0 : SPat := ⟨[(0, .ptr 0 []), (3, .sl 4), (12, .int .i64), (13, .int .i64)], J2⟩
def lo_17_6 : Exit → Live
  | .exit 2 => [(0, none), (3, none), (12, none), (13, none)]
  | _ => []
def lv_17_3 : Live := [(0, none), (3, none), (12, none), (13, none)]
def pt_17_3 : SPat := ⟨[(0, .ptr 0 []), (3, .sl 4), (12, .int .i64), (13, .int .i64)], J2⟩
def px_17_3_0 : SPat := ⟨[(3, .sl 4)], J2⟩
def lo_17_3 : Exit → Live
  | .exit 0 => [(3, none)]
  | _ => []
def ap_17 : List Pat := [.ptr 0 []]
def hp_17 : List (Option (Pat × Nat)) := J0
abbrev Tl_17_6 (R : Type) : Type := ((Unit × Unit × Int × Int × Int × Int × Int × Unit) × Y4) → ((Y19 × Y4) → Option R) → Option R
abbrev Tl_17_3 (R : Type) : Type := (Y19 × Y4) → (((Unit × Unit) × Y4) → Option R) → Option R
abbrev Tp_17 (R : Type) : Type := (Unit × Unit) × Y0 → ((Unit × Y4) → Option R) → Option R
def C_17_6 {R : Type} (q_9 : Tp_9 R) (rec : ((Unit × Unit × Int × Int × Int × Int × Int × Unit) × Y4) → Option R) (x : ((Unit × Unit × Int × Int × Int × Int × Int × Unit) × Y4)) (κ0 : (Y19 × Y4) → Option R) : Option R :=
let i2415 := x.1.2.2.1
let i2416 := x.1.2.2.2.1
let i2417 := x.1.2.2.2.2.1
let i2418 := x.1.2.2.2.2.2.1
let i2419 := x.1.2.2.2.2.2.2.1
let l2433 := x.2.2.2.2.1
let r2434 := x.2.2.2.2.2.1
bif (decide (i2419 < i2418)) then (
bif decide (0 ≤ i2415) then (
bif decide (i2415 < ((List.length r2434) : Int)) then (
q_9 (((), (i2415, (i2419, ())), ()), (x.2.1, x.2.2.1, x.2.2.2.1, l2433, ())) (fun y2457 =>
let a2458 := y2457.1
bif decide (0 ≤ i2419) then (
bif decide (i2419 < ((List.length ((List.getD r2434 ((Int.toNat i2415)) []))) : Int)) then (
let r2460 : Y5 := (List.set r2434 ((Int.toNat i2415)) ((List.set ((List.getD r2434 ((Int.toNat i2415)) [])) ((Int.toNat i2419)) a2458)))
let i2461 : Int := addA .i64 i2419 1
rec (((), (), i2415, i2416, i2417, i2418, i2461, ()), (x.2.1, x.2.2.1, x.2.2.2.1, l2433, r2460, ()))) else none) else none)) else none) else none) else (
κ0 (((), (), i2416, i2417, ()), (x.2.1, x.2.2.1, x.2.2.2.1, l2433, r2434, ())))
def C_17_3 {R : Type} (m_17_6 : Tl_17_6 R) (rec : (Y19 × Y4) → Option R) (x : (Y19 × Y4)) (κ0 : ((Unit × Unit) × Y4) → Option R) : Option R :=
let i2397 := x.1.2.2.1
let i2398 := x.1.2.2.2.1
let l2412 := x.2.2.2.2.1
let r2413 := x.2.2.2.2.2.1
bif (decide (i2398 < i2397)) then (
bif decide (0 ≤ i2398) then (
bif decide (i2398 < ((List.length r2413) : Int)) then (
let i2414 : Int := (((List.length ((List.getD r2413 ((Int.toNat i2398)) []))) : Nat) : Int)
m_17_6 (((), (), i2398, i2397, i2398, i2414, 0, ()), (x.2.1, x.2.2.1, x.2.2.2.1, l2412, r2413, ())) (fun y2462 =>
let i2463 := y2462.1.2.2.1
let i2464 := y2462.1.2.2.2.1
let l2478 := y2462.2.2.2.2.1
let r2479 := y2462.2.2.2.2.2.1
let i2480 : Int := addA .i64 i2464 1
rec (((), (), i2463, i2480, ()), (y2462.2.1, y2462.2.2.1, y2462.2.2.2.1, l2478, r2479, ())))) else none) else none) else (
κ0 (((), ()), (x.2.1, x.2.2.1, x.2.2.2.1, l2412, r2413, ())))
def B_17_6 {R : Type} (N : Nat) (rec : ((Unit × Unit × Int × Int × Int × Int × Int × Unit) × Y4) → Option R) (x : ((Unit × Unit × Int × Int × Int × Int × Int × Unit) × Y4)) (κ0 : (Y19 × Y4) → Option R) : Option R := C_17_6 (p_9 N) rec x κ0
def l_17_6 {R : Type} (N : Nat) : Nat → ((Unit × Unit × Int × Int × Int × Int × Int × Unit) × Y4) → ((Y19 × Y4) → Option R) → Option R
  | 0, _, _ => none
  | n + 1, x, κ0 => B_17_6 N (fun y => l_17_6 N n y κ0) x κ0
def B_17_3 {R : Type} (N : Nat) (rec : (Y19 × Y4) → Option R) (x : (Y19 × Y4)) (κ0 : ((Unit × Unit) × Y4) → Option R) : Option R := C_17_3 (l_17_6 N N) rec x κ0
def l_17_3 {R : Type} (N : Nat) : Nat → (Y19 × Y4) → (((Unit × Unit) × Y4) → Option R) → Option R
  | 0, _, _ => none
  | n + 1, x, κ0 => B_17_3 N (fun y => l_17_3 N n y κ0) x κ0
def Q_17 {R : Type} (q_15 : Tp_15 R) (q_9 : Tp_9 R) (m_17_6 : Tl_17_6 R) (m_17_3 : Tl_17_3 R) (x : (Unit × Unit) × Y0) (κ0 : (Unit × Y4) → Option R) : Option R :=
let l2357 := x.2.2.2.2.1
q_15 (x.2.1.2, ()) (fun y2394 =>
let r2395 := y2394.2.1
let i2396 : Int := (((List.length r2395) : Nat) : Int)
m_17_3 (((), (), i2396, 0, ()), (x.2.1, x.2.2.1, x.2.2.2.1, l2357, r2395, ())) (fun y2481 =>
let l2495 := y2481.2.2.2.2.1
let r2496 := y2481.2.2.2.2.2.1
κ0 ((), (y2481.2.1, y2481.2.2.1, y2481.2.2.2.1, l2495, r2496, ()))))
def p_17 {R : Type} (N : Nat) (x : (Unit × Unit) × Y0) (κ0 : (Unit × Y4) → Option R) : Option R := Q_17 (p_15 N) (p_9 N) (l_17_6 N N) (l_17_3 N N) x κ0
def EG_17 {R : Type} (q_15 : Tp_15 R) (q_9 : Tp_9 R) : Env R := ((Env.base QQ LN AA).add 15 ap_15 hp_15 (fun (x : aden ap_15 × hden hp_15) k => q_15 x (fun y => k (Pat.inst (.sl 0) y.1) (instH J5 y.2)))).add 9 ap_9 hp_9 (fun (x : aden ap_9 × hden hp_9) k => q_9 x (fun y => k (Pat.inst (.tup (.fcons (.vec (.int .u64) 128) (.fcons (.int .i64) (.fnil)))) y) (instH hp_9 x.2)))
def LG_17 {R : Type} (m_17_6 : Tl_17_6 R) (m_17_3 : Tl_17_3 R) : Loops R := ((Loops.none).add 6 (loopBy 4 lv_17_6 pt_17_6 (fun x k => m_17_6 x (fun y => k (.exit 2) (px_17_6_0.inst y))))).add 3 (loopBy 4 lv_17_3 pt_17_3 (fun x k => m_17_3 x (fun y => k (.exit 0) (px_17_3_0.inst y))))
def E_17 {R : Type} (N : Nat) : Env R := EG_17 (p_15 N) (p_9 N)
theorem eok_17 {R : Type} (N : Nat) : EK Try.prog (E_17 (R := R) N) := ek_add (ek_add (ek_base _ _ _) (good_15 N)) (good_9 N)
def L_17 {R : Type} (N : Nat) : Loops R := LG_17 (l_17_6 N N) (l_17_3 N N)
theorem gstep_17_6 {R : Type} (q_15 : Tp_15 R) (q_9 : Tp_9 R) (m_17_6 : Tl_17_6 R) (m_17_3 : Tl_17_3 R) (n : Nat) (x : pt_17_6.den) (k : Exit → St → Option R) : iter 4 lv_17_6 lo_17_6 (aexec TT (EG_17 q_15 q_9) (drawAny TT WW) (LG_17 m_17_6 m_17_3) (loopAt 6 (bodyOf Try.f17))) (n + 1) (pt_17_6.inst x) k = C_17_6 q_9 (fun y => iter 4 lv_17_6 lo_17_6 (aexec TT (EG_17 q_15 q_9) (drawAny TT WW) (LG_17 m_17_6 m_17_3) (loopAt 6 (bodyOf Try.f17))) n (pt_17_6.inst y) k) x (fun y => k (.exit 2) (px_17_6_0.inst y)) := by kernel_rfl
theorem step_17_6 {R : Type} (N n : Nat) (x : pt_17_6.den) (k : Exit → St → Option R) : iter 4 lv_17_6 lo_17_6 (aexec TT (E_17 (R := R) N) (drawAny TT WW) (L_17 N) (loopAt 6 (bodyOf Try.f17))) (n + 1) (pt_17_6.inst x) k = B_17_6 N (fun y => iter 4 lv_17_6 lo_17_6 (aexec TT (E_17 (R := R) N) (drawAny TT WW) (L_17 N) (loopAt 6 (bodyOf Try.f17))) n (pt_17_6.inst y) k) x (fun y => k (.exit 2) (px_17_6_0.inst y)) := (gstep_17_6 (p_15 N) (p_9 N) (l_17_6 N N) (l_17_3 N N) n x k).trans (by kernel_rfl)
theorem eq_17_6 {R : Type} (N : Nat) : ∀ (n : Nat) (x : pt_17_6.den) (k : Exit → St → Option R), iter 4 lv_17_6 lo_17_6 (aexec TT (E_17 (R := R) N) (drawAny TT WW) (L_17 N) (loopAt 6 (bodyOf Try.f17))) n (pt_17_6.inst x) k = l_17_6 N n x (fun y => k (.exit 2) (px_17_6_0.inst y)) :=
  iter_eq (K := Exit → St → Option R) (ks := fun k => k) (l := fun n (x : pt_17_6.den) k => l_17_6 N n x (fun y => k (.exit 2) (px_17_6_0.inst y))) (B := fun (rec : pt_17_6.den → Option R) (x : pt_17_6.den) k => B_17_6 N rec x (fun y => k (.exit 2) (px_17_6_0.inst y))) (fun _ _ => rfl) (fun _ _ _ => rfl) (fun n x k => step_17_6 N n x k)
theorem rounds_17_6 {R : Type} (N : Nat) : Rounds 4 TT (E_17 (R := R) N) (drawAny TT WW) (L_17 N) 6 (loopAt 6 (bodyOf Try.f17)) :=
  rounds_of (p := pt_17_6) (l := fun (x : pt_17_6.den) k => l_17_6 N N x (fun y => k (.exit 2) (px_17_6_0.inst y))) (fun s k => rfl) (fun x k => eq_17_6 N N x k)
theorem gstep_17_3 {R : Type} (q_15 : Tp_15 R) (q_9 : Tp_9 R) (m_17_6 : Tl_17_6 R) (m_17_3 : Tl_17_3 R) (n : Nat) (x : pt_17_3.den) (k : Exit → St → Option R) : iter 4 lv_17_3 lo_17_3 (aexec TT (EG_17 q_15 q_9) (drawAny TT WW) (LG_17 m_17_6 m_17_3) (loopAt 3 (bodyOf Try.f17))) (n + 1) (pt_17_3.inst x) k = C_17_3 m_17_6 (fun y => iter 4 lv_17_3 lo_17_3 (aexec TT (EG_17 q_15 q_9) (drawAny TT WW) (LG_17 m_17_6 m_17_3) (loopAt 3 (bodyOf Try.f17))) n (pt_17_3.inst y) k) x (fun y => k (.exit 0) (px_17_3_0.inst y)) := by kernel_rfl
theorem step_17_3 {R : Type} (N n : Nat) (x : pt_17_3.den) (k : Exit → St → Option R) : iter 4 lv_17_3 lo_17_3 (aexec TT (E_17 (R := R) N) (drawAny TT WW) (L_17 N) (loopAt 3 (bodyOf Try.f17))) (n + 1) (pt_17_3.inst x) k = B_17_3 N (fun y => iter 4 lv_17_3 lo_17_3 (aexec TT (E_17 (R := R) N) (drawAny TT WW) (L_17 N) (loopAt 3 (bodyOf Try.f17))) n (pt_17_3.inst y) k) x (fun y => k (.exit 0) (px_17_3_0.inst y)) := (gstep_17_3 (p_15 N) (p_9 N) (l_17_6 N N) (l_17_3 N N) n x k).trans (by kernel_rfl)
theorem eq_17_3 {R : Type} (N : Nat) : ∀ (n : Nat) (x : pt_17_3.den) (k : Exit → St → Option R), iter 4 lv_17_3 lo_17_3 (aexec TT (E_17 (R := R) N) (drawAny TT WW) (L_17 N) (loopAt 3 (bodyOf Try.f17))) n (pt_17_3.inst x) k = l_17_3 N n x (fun y => k (.exit 0) (px_17_3_0.inst y)) :=
  iter_eq (K := Exit → St → Option R) (ks := fun k => k) (l := fun n (x : pt_17_3.den) k => l_17_3 N n x (fun y => k (.exit 0) (px_17_3_0.inst y))) (B := fun (rec : pt_17_3.den → Option R) (x : pt_17_3.den) k => B_17_3 N rec x (fun y => k (.exit 0) (px_17_3_0.inst y))) (fun _ _ => rfl) (fun _ _ _ => rfl) (fun n x k => step_17_3 N n x k)
theorem rounds_17_3 {R : Type} (N : Nat) : Rounds 4 TT (E_17 (R := R) N) (drawAny TT WW) (L_17 N) 3 (loopAt 3 (bodyOf Try.f17)) :=
  rounds_of (p := pt_17_3) (l := fun (x : pt_17_3.den) k => l_17_3 N N x (fun y => k (.exit 0) (px_17_3_0.inst y))) (fun s k => rfl) (fun x k => eq_17_3 N N x k)
theorem loops_17 : loopsIn (bodyOf Try.f17) = [(3, loopAt 3 (bodyOf Try.f17)), (6, loopAt 6 (bodyOf Try.f17))] := by kernel_rfl
theorem lok_17 {R : Type} (N : Nat) : LOK 4 TT (E_17 (R := R) N) (drawAny TT WW) (L_17 N) (bodyOf Try.f17) := loops_all loops_17 (by
  simp only [List.forall_mem_cons, List.not_mem_nil, false_implies, implies_true, and_true]
  exact ⟨rounds_17_3 N, rounds_17_6 N⟩)
theorem grun_17 {R : Type} (q_15 : Tp_15 R) (q_9 : Tp_9 R) (m_17_6 : Tl_17_6 R) (m_17_3 : Tl_17_3 R) (x : aden ap_17 × hden hp_17) (k : KF R) : fnrun TT (EG_17 q_15 q_9) (drawAny TT WW) (LG_17 m_17_6 m_17_3) true Try.f17 (instA ap_17 x.1) (instH hp_17 x.2) k = Q_17 q_15 q_9 m_17_6 m_17_3 x (fun y => k (Pat.inst (.sl 4) y.1) (instH J2 y.2)) := by kernel_rfl
theorem run_17 {R : Type} (N : Nat) (x : aden ap_17 × hden hp_17) (k : KF R) : fnrun TT (E_17 (R := R) N) (drawAny TT WW) (L_17 N) true Try.f17 (instA ap_17 x.1) (instH hp_17 x.2) k = p_17 N x (fun y => k (Pat.inst (.sl 4) y.1) (instH J2 y.2)) := (grun_17 (p_15 N) (p_9 N) (l_17_6 N N) (l_17_3 N N) x k).trans (by kernel_rfl)
theorem good_17 {R : Type} (N : Nat) : GD (X := R) Try.prog QQ AA 17 ap_17 hp_17 (fun (x : aden ap_17 × hden hp_17) k => p_17 N x (fun y => k (Pat.inst (.sl 4) y.1) (instH J2 y.2))) :=
  gd_loud (E := E_17 N) (p := fun (x : aden ap_17 × hden hp_17) k => p_17 N x (fun y => k (Pat.inst (.sl 4) y.1) (instH J2 y.2))) mixed tyok (eok_17 N) Try.func17 (by kernel_rfl) (by kernel_rfl) (by kernel_rfl) (by kernel_rfl) (lok_17 N) (fun x k => run_17 N x k)

def lv_56_3 : Live := [(0, none), (3, some (.int .u8, 5)), (4, none)]
def pt_56_3 : SPat := ⟨[(0, .int .u32), (3, .sl 0), (4, .int .i64)], J4⟩
def px_56_3_0 : SPat := ⟨[(3, .sl 0)], J4⟩
def lo_56_3 : Exit → Live
  | .exit 0 => [(3, none)]
  | _ => []
def ap_56 : List Pat := [.int .u32]
def hp_56 : List (Option (Pat × Nat)) := []
abbrev Tl_56_3 (R : Type) : Type := ((Int × Unit × Int × Unit) × ((List Int) × Unit)) → (Y24 → Option R) → Option R
abbrev Tp_56 (R : Type) : Type := (Int × Unit) × (Unit) → ((List Int) → Option R) → Option R
def C_56_3 {R : Type} (rec : ((Int × Unit × Int × Unit) × ((List Int) × Unit)) → Option R) (x : ((Int × Unit × Int × Unit) × ((List Int) × Unit))) (κ0 : Y24 → Option R) : Option R :=
let i2559 := x.1.1
let i2560 := x.1.2.2.1
let l2561 := x.2.1
bif (decide (i2560 < 4)) then (
let i2562 : Int := remA .u32 i2559 256
let i2563 : Int := IntKind.wrap .u8 i2562
let l2564 : (List Int) := [i2563]
bif (decide ((List.length l2561 + List.length l2564) * 1 ≤ 140737488355328) && true) then (
let l2565 : (List Int) := (l2561 ++ l2564)
let i2566 : Int := quoA .u32 i2559 256
let i2567 : Int := addA .i64 i2560 1
rec ((i2566, (), i2567, ()), (l2565, ()))) else none) else (
κ0 (((), ()), x.2))
def B_56_3 {R : Type} (N : Nat) (rec : ((Int × Unit × Int × Unit) × ((List Int) × Unit)) → Option R) (x : ((Int × Unit × Int × Unit) × ((List Int) × Unit))) (κ0 : Y24 → Option R) : Option R := C_56_3 rec x κ0
def l_56_3 {R : Type} (N : Nat) : Nat → ((Int × Unit × Int × Unit) × ((List Int) × Unit)) → (Y24 → Option R) → Option R
  | 0, _, _ => none
  | n + 1, x, κ0 => B_56_3 N (fun y => l_56_3 N n y κ0) x κ0
def Q_56 {R : Type} (m_56_3 : Tl_56_3 R) (x : (Int × Unit) × (Unit)) (κ0 : (List Int) → Option R) : Option R :=
let i2551 := x.1.1
m_56_3 ((i2551, (), 0, ()), ([], ())) (fun y2568 =>
let l2569 := y2568.2.1
κ0 l2569)
def p_56 {R : Type} (N : Nat) (x : (Int × Unit) × (Unit)) (κ0 : (List Int) → Option R) : Option R := Q_56 (l_56_3 N N) x κ0
def EG_56 {R : Type} : Env R := Env.base QQ LN AA
def LG_56 {R : Type} (m_56_3 : Tl_56_3 R) : Loops R := (Loops.none).add 3 (loopBy 0 lv_56_3 pt_56_3 (fun x k => m_56_3 x (fun y => k (.exit 0) (px_56_3_0.inst y))))
def E_56 {R : Type} (N : Nat) : Env R := EG_56
theorem eok_56 {R : Type} (N : Nat) : EK Try.prog (E_56 (R := R) N) := ek_base _ _ _
def L_56 {R : Type} (N : Nat) : Loops R := LG_56 (l_56_3 N N)
theorem gstep_56_3 {R : Type} (m_56_3 : Tl_56_3 R) (n : Nat) (x : pt_56_3.den) (k : Exit → St → Option R) : iter 0 lv_56_3 lo_56_3 (aexec TT (EG_56) (drawAny TT WW) (LG_56 m_56_3) (loopAt 3 (bodyOf Try.f56))) (n + 1) (pt_56_3.inst x) k = C_56_3 (fun y => iter 0 lv_56_3 lo_56_3 (aexec TT (EG_56) (drawAny TT WW) (LG_56 m_56_3) (loopAt 3 (bodyOf Try.f56))) n (pt_56_3.inst y) k) x (fun y => k (.exit 0) (px_56_3_0.inst y)) := by kernel_rfl
theorem step_56_3 {R : Type} (N n : Nat) (x : pt_56_3.den) (k : Exit → St → Option R) : iter 0 lv_56_3 lo_56_3 (aexec TT (E_56 (R := R) N) (drawAny TT WW) (L_56 N) (loopAt 3 (bodyOf Try.f56))) (n + 1) (pt_56_3.inst x) k = B_56_3 N (fun y => iter 0 lv_56_3 lo_56_3 (aexec TT (E_56 (R := R) N) (drawAny TT WW) (L_56 N) (loopAt 3 (bodyOf Try.f56))) n (pt_56_3.inst y) k) x (fun y => k (.exit 0) (px_56_3_0.inst y)) := (gstep_56_3 (l_56_3 N N) n x k).trans (by kernel_rfl)
theorem eq_56_3 {R : Type} (N : Nat) : ∀ (n : Nat) (x : pt_56_3.den) (k : Exit → St → Option R), iter 0 lv_56_3 lo_56_3 (aexec TT (E_56 (R := R) N) (drawAny TT WW) (L_56 N) (loopAt 3 (bodyOf Try.f56))) n (pt_56_3.inst x) k = l_56_3 N n x (fun y => k (.exit 0) (px_56_3_0.inst y)) :=
  iter_eq (K := Exit → St → Option R) (ks := fun k => k) (l := fun n (x : pt_56_3.den) k => l_56_3 N n x (fun y => k (.exit 0) (px_56_3_0.inst y))) (B := fun (rec : pt_56_3.den → Option R) (x : pt_56_3.den) k => B_56_3 N rec x (fun y => k (.exit 0) (px_56_3_0.inst y))) (fun _ _ => rfl) (fun _ _ _ => rfl) (fun n x k => step_56_3 N n x k)
theorem rounds_56_3 {R : Type} (N : Nat) : Rounds 0 TT (E_56 (R := R) N) (drawAny TT WW) (L_56 N) 3 (loopAt 3 (bodyOf Try.f56)) :=
  rounds_of (p := pt_56_3) (l := fun (x : pt_56_3.den) k => l_56_3 N N x (fun y => k (.exit 0) (px_56_3_0.inst y))) (fun s k => rfl) (fun x k => eq_56_3 N N x k)
theorem loops_56 : loopsIn (bodyOf Try.f56) = [(3, loopAt 3 (bodyOf Try.f56))] := by kernel_rfl
theorem lok_56 {R : Type} (N : Nat) : LOK 0 TT (E_56 (R := R) N) (drawAny TT WW) (L_56 N) (bodyOf Try.f56) := loops_all loops_56 (by
  simp only [List.forall_mem_cons, List.not_mem_nil, false_implies, implies_true, and_true]
  exact rounds_56_3 N)
theorem grun_56 {R : Type} (m_56_3 : Tl_56_3 R) (x : aden ap_56 × hden hp_56) (k : KF R) : fnrun TT (EG_56) (drawAny TT WW) (LG_56 m_56_3) true Try.f56 (instA ap_56 x.1) (instH hp_56 x.2) k = Q_56 m_56_3 x (fun y => k (Pat.inst (.ros (.int .u8)) y) (instH hp_56 x.2)) := by kernel_rfl
theorem run_56 {R : Type} (N : Nat) (x : aden ap_56 × hden hp_56) (k : KF R) : fnrun TT (E_56 (R := R) N) (drawAny TT WW) (L_56 N) true Try.f56 (instA ap_56 x.1) (instH hp_56 x.2) k = p_56 N x (fun y => k (Pat.inst (.ros (.int .u8)) y) (instH hp_56 x.2)) := (grun_56 (l_56_3 N N) x k).trans (by kernel_rfl)
theorem good_56 {R : Type} (N : Nat) : GD (X := R) Try.prog QQ AA 56 ap_56 hp_56 (fun (x : aden ap_56 × hden hp_56) k => p_56 N x (fun y => k (Pat.inst (.ros (.int .u8)) y) (instH hp_56 x.2))) :=
  gd_quiet (E := E_56 N) (p := fun (x : aden ap_56 × hden hp_56) κ => p_56 N x (fun y => κ (Pat.inst (.ros (.int .u8)) y))) mixed tyok (eok_56 N) Try.func56 (by kernel_rfl) (by kernel_rfl) (lok_56 N) (fun x k => run_56 N x k)

def lv_101_1 : Live := [(0, none), (1, none)]
def pt_101_1 : SPat := ⟨[(0, .str), (1, .int .i64)], []⟩
def px_101_1_0 : SPat := ⟨[(0, .str)], []⟩
def lo_101_1 : Exit → Live
  | .exit 0 => [(0, none)]
  | _ => []
def ap_101 : List Pat := [.str, .int .i64]
def hp_101 : List (Option (Pat × Nat)) := []
abbrev Tl_101_1 (R : Type) : Type := ((ByteArray × Int × Unit) × (Unit)) → (((ByteArray × Unit) × (Unit)) → Option R) → Option R
abbrev Tp_101 (R : Type) : Type := (ByteArray × Int × Unit) × (Unit) → (ByteArray → Option R) → Option R
def C_101_1 {R : Type} (rec : ((ByteArray × Int × Unit) × (Unit)) → Option R) (x : ((ByteArray × Int × Unit) × (Unit))) (κ0 : ((ByteArray × Unit) × (Unit)) → Option R) : Option R :=
let s2602 := x.1.1
let i2603 := x.1.2.1
let i2604 : Int := ((ByteArray.size s2602 : Nat) : Int)
bif (decide (i2604 < i2603)) then (
bif decide (ByteArray.size s2602 + ByteArray.size (⟨#[0]⟩) ≤ maxI64) then (
let s2605 : ByteArray := (s2602 ++ ⟨#[0]⟩)
rec ((s2605, i2603, ()), ())) else none) else (
κ0 ((s2602, ()), ()))
def B_101_1 {R : Type} (N : Nat) (rec : ((ByteArray × Int × Unit) × (Unit)) → Option R) (x : ((ByteArray × Int × Unit) × (Unit))) (κ0 : ((ByteArray × Unit) × (Unit)) → Option R) : Option R := C_101_1 rec x κ0
def l_101_1 {R : Type} (N : Nat) : Nat → ((ByteArray × Int × Unit) × (Unit)) → (((ByteArray × Unit) × (Unit)) → Option R) → Option R
  | 0, _, _ => none
  | n + 1, x, κ0 => B_101_1 N (fun y => l_101_1 N n y κ0) x κ0
def Q_101 {R : Type} (m_101_1 : Tl_101_1 R) (x : (ByteArray × Int × Unit) × (Unit)) (κ0 : ByteArray → Option R) : Option R :=
let s2600 := x.1.1
let i2601 := x.1.2.1
m_101_1 ((s2600, i2601, ()), ()) (fun y2606 =>
let s2607 := y2606.1.1
κ0 s2607)
def p_101 {R : Type} (N : Nat) (x : (ByteArray × Int × Unit) × (Unit)) (κ0 : ByteArray → Option R) : Option R := Q_101 (l_101_1 N N) x κ0
def EG_101 {R : Type} : Env R := Env.base QQ LN AA
def LG_101 {R : Type} (m_101_1 : Tl_101_1 R) : Loops R := (Loops.none).add 1 (loopBy 0 lv_101_1 pt_101_1 (fun x k => m_101_1 x (fun y => k (.exit 0) (px_101_1_0.inst y))))
def E_101 {R : Type} (N : Nat) : Env R := EG_101
theorem eok_101 {R : Type} (N : Nat) : EK Try.prog (E_101 (R := R) N) := ek_base _ _ _
def L_101 {R : Type} (N : Nat) : Loops R := LG_101 (l_101_1 N N)
theorem gstep_101_1 {R : Type} (m_101_1 : Tl_101_1 R) (n : Nat) (x : pt_101_1.den) (k : Exit → St → Option R) : iter 0 lv_101_1 lo_101_1 (aexec TT (EG_101) (drawAny TT WW) (LG_101 m_101_1) (loopAt 1 (bodyOf Try.f101))) (n + 1) (pt_101_1.inst x) k = C_101_1 (fun y => iter 0 lv_101_1 lo_101_1 (aexec TT (EG_101) (drawAny TT WW) (LG_101 m_101_1) (loopAt 1 (bodyOf Try.f101))) n (pt_101_1.inst y) k) x (fun y => k (.exit 0) (px_101_1_0.inst y)) := by kernel_rfl
theorem step_101_1 {R : Type} (N n : Nat) (x : pt_101_1.den) (k : Exit → St → Option R) : iter 0 lv_101_1 lo_101_1 (aexec TT (E_101 (R := R) N) (drawAny TT WW) (L_101 N) (loopAt 1 (bodyOf Try.f101))) (n + 1) (pt_101_1.inst x) k = B_101_1 N (fun y => iter 0 lv_101_1 lo_101_1 (aexec TT (E_101 (R := R) N) (drawAny TT WW) (L_101 N) (loopAt 1 (bodyOf Try.f101))) n (pt_101_1.inst y) k) x (fun y => k (.exit 0) (px_101_1_0.inst y)) := (gstep_101_1 (l_101_1 N N) n x k).trans (by kernel_rfl)
theorem eq_101_1 {R : Type} (N : Nat) : ∀ (n : Nat) (x : pt_101_1.den) (k : Exit → St → Option R), iter 0 lv_101_1 lo_101_1 (aexec TT (E_101 (R := R) N) (drawAny TT WW) (L_101 N) (loopAt 1 (bodyOf Try.f101))) n (pt_101_1.inst x) k = l_101_1 N n x (fun y => k (.exit 0) (px_101_1_0.inst y)) :=
  iter_eq (K := Exit → St → Option R) (ks := fun k => k) (l := fun n (x : pt_101_1.den) k => l_101_1 N n x (fun y => k (.exit 0) (px_101_1_0.inst y))) (B := fun (rec : pt_101_1.den → Option R) (x : pt_101_1.den) k => B_101_1 N rec x (fun y => k (.exit 0) (px_101_1_0.inst y))) (fun _ _ => rfl) (fun _ _ _ => rfl) (fun n x k => step_101_1 N n x k)
theorem rounds_101_1 {R : Type} (N : Nat) : Rounds 0 TT (E_101 (R := R) N) (drawAny TT WW) (L_101 N) 1 (loopAt 1 (bodyOf Try.f101)) :=
  rounds_of (p := pt_101_1) (l := fun (x : pt_101_1.den) k => l_101_1 N N x (fun y => k (.exit 0) (px_101_1_0.inst y))) (fun s k => rfl) (fun x k => eq_101_1 N N x k)
theorem loops_101 : loopsIn (bodyOf Try.f101) = [(1, loopAt 1 (bodyOf Try.f101))] := by kernel_rfl
theorem lok_101 {R : Type} (N : Nat) : LOK 0 TT (E_101 (R := R) N) (drawAny TT WW) (L_101 N) (bodyOf Try.f101) := loops_all loops_101 (by
  simp only [List.forall_mem_cons, List.not_mem_nil, false_implies, implies_true, and_true]
  exact rounds_101_1 N)
theorem grun_101 {R : Type} (m_101_1 : Tl_101_1 R) (x : aden ap_101 × hden hp_101) (k : KF R) : fnrun TT (EG_101) (drawAny TT WW) (LG_101 m_101_1) true Try.f101 (instA ap_101 x.1) (instH hp_101 x.2) k = Q_101 m_101_1 x (fun y => k (Pat.inst (.str) y) (instH hp_101 x.2)) := by kernel_rfl
theorem run_101 {R : Type} (N : Nat) (x : aden ap_101 × hden hp_101) (k : KF R) : fnrun TT (E_101 (R := R) N) (drawAny TT WW) (L_101 N) true Try.f101 (instA ap_101 x.1) (instH hp_101 x.2) k = p_101 N x (fun y => k (Pat.inst (.str) y) (instH hp_101 x.2)) := (grun_101 (l_101_1 N N) x k).trans (by kernel_rfl)
theorem good_101 {R : Type} (N : Nat) : GD (X := R) Try.prog QQ AA 101 ap_101 hp_101 (fun (x : aden ap_101 × hden hp_101) k => p_101 N x (fun y => k (Pat.inst (.str) y) (instH hp_101 x.2))) :=
  gd_quiet (E := E_101 N) (p := fun (x : aden ap_101 × hden hp_101) κ => p_101 N x (fun y => κ (Pat.inst (.str) y))) mixed tyok (eok_101 N) Try.func101 (by kernel_rfl) (by kernel_rfl) (lok_101 N) (fun x k => run_101 N x k)

def lv_85_9 : Live := [(0, none), (1, none), (6, none), (7, none), (8, none), (9, none)]
def pt_85_9 : SPat := ⟨[(0, .sl 0), (1, .int .i64), (6, .sl 1), (7, .int .i64), (8, .int .u64), (9, .int .i64)], [some (.lst (.int .u8), 5), some (.lst (.int .u64), 27)]⟩
def px_85_9_0 : SPat := ⟨[(0, .sl 0), (1, .int .i64), (6, .sl 1), (7, .int .i64), (8, .int .u64)], [some (.lst (.int .u8), 5), some (.lst (.int .u64), 27)]⟩
def lo_85_9 : Exit → Live
  | .exit 2 => [(0, none), (1, none), (6, none), (7, none), (8, none)]
  | _ => []
def lv_85_5 : Live := [(0, none), (1, none), (6, some (.int .u64, 27)), (7, none)]
def pt_85_5 : SPat := ⟨[(0, .sl 0), (1, .int .i64), (6, .sl 1), (7, .int .i64)], [some (.lst (.int .u8), 5), some (.lst (.int .u64), 27)]⟩
def px_85_5_0 : SPat := ⟨[(6, .sl 1)], [some (.lst (.int .u8), 5), some (.lst (.int .u64), 27)]⟩
def lo_85_5 : Exit → Live
  | .exit 0 => [(6, none)]
  | _ => []
def ap_85 : List Pat := [.sl 0, .int .i64]
def hp_85 : List (Option (Pat × Nat)) := J4
abbrev Tl_85_9 (R : Type) : Type := ((Unit × Int × Unit × Int × Int × Int × Unit) × Y12) → (((Unit × Int × Unit × Int × Int × Unit) × Y12) → Option R) → Option R
abbrev Tl_85_5 (R : Type) : Type := ((Unit × Int × Unit × Int × Unit) × Y12) → (((Unit × Unit) × Y12) → Option R) → Option R
abbrev Tp_85 (R : Type) : Type := (Unit × Int × Unit) × ((List Int) × Unit) → ((((List Int) × (Bool × Unit)) × ((List Int) × Unit)) → Option R) → Option R
def C_85_9 {R : Type} (rec : ((Unit × Int × Unit × Int × Int × Int × Unit) × Y12) → Option R) (x : ((Unit × Int × Unit × Int × Int × Int × Unit) × Y12)) (κ0 : ((Unit × Int × Unit × Int × Int × Unit) × Y12) → Option R) : Option R :=
let i2661 := x.1.2.1
let i2662 := x.1.2.2.2.1
let i2663 := x.1.2.2.2.2.1
let i2664 := x.1.2.2.2.2.2.1
let l2665 := x.2.1
let l2666 := x.2.2.1
bif (decide (i2664 ≥ 0)) then (
let i2667 : Int := mulA .u64 256 i2663
let i2668 : Int := addA .i64 i2662 i2664
bif decide (0 ≤ i2668) then (
bif decide (i2668 < ((List.length l2665) : Int)) then (
let i2669 : Int := (List.getD l2665 ((Int.toNat i2668)) (Sch.zero (.int .u8)))
let i2670 : Int := IntKind.wrap .u64 i2669
let i2671 : Int := addA .u64 i2667 i2670
let i2672 : Int := subA .i64 i2664 1
rec (((), i2661, (), i2662, i2671, i2672, ()), (l2665, l2666, ()))) else none) else none) else (
κ0 (((), i2661, (), i2662, i2663, ()), (l2665, l2666, ())))
def C_85_5 {R : Type} (m_85_9 : Tl_85_9 R) (rec : ((Unit × Int × Unit × Int × Unit) × Y12) → Option R) (x : ((Unit × Int × Unit × Int × Unit) × Y12)) (κ0 : ((Unit × Unit) × Y12) → Option R) : Option R :=
let i2655 := x.1.2.1
let i2656 := x.1.2.2.2.1
let l2657 := x.2.1
let l2658 := x.2.2.1
let i2659 : Int := (((List.length l2657) : Nat) : Int)
bif (decide (i2656 < i2659)) then (
let i2660 : Int := subA .i64 i2655 1
m_85_9 (((), i2655, (), i2656, 0, i2660, ()), (l2657, l2658, ())) (fun y2673 =>
let i2674 := y2673.1.2.1
let i2675 := y2673.1.2.2.2.1
let i2676 := y2673.1.2.2.2.2.1
let l2677 := y2673.2.1
let l2678 := y2673.2.2.1
let l2679 : (List Int) := [i2676]
bif (decide ((List.length l2678 + List.length l2679) * 8 ≤ 140737488355328) && true) then (
let l2680 : (List Int) := (l2678 ++ l2679)
let i2681 : Int := addA .i64 i2675 i2674
rec (((), i2674, (), i2681, ()), (l2677, l2680, ()))) else none)) else (
κ0 (((), ()), (l2657, l2658, ())))
def B_85_9 {R : Type} (N : Nat) (rec : ((Unit × Int × Unit × Int × Int × Int × Unit) × Y12) → Option R) (x : ((Unit × Int × Unit × Int × Int × Int × Unit) × Y12)) (κ0 : ((Unit × Int × Unit × Int × Int × Unit) × Y12) → Option R) : Option R := C_85_9 rec x κ0
def l_85_9 {R : Type} (N : Nat) : Nat → ((Unit × Int × Unit × Int × Int × Int × Unit) × Y12) → (((Unit × Int × Unit × Int × Int × Unit) × Y12) → Option R) → Option R
  | 0, _, _ => none
  | n + 1, x, κ0 => B_85_9 N (fun y => l_85_9 N n y κ0) x κ0
def B_85_5 {R : Type} (N : Nat) (rec : ((Unit × Int × Unit × Int × Unit) × Y12) → Option R) (x : ((Unit × Int × Unit × Int × Unit) × Y12)) (κ0 : ((Unit × Unit) × Y12) → Option R) : Option R := C_85_5 (l_85_9 N N) rec x κ0
def l_85_5 {R : Type} (N : Nat) : Nat → ((Unit × Int × Unit × Int × Unit) × Y12) → (((Unit × Unit) × Y12) → Option R) → Option R
  | 0, _, _ => none
  | n + 1, x, κ0 => B_85_5 N (fun y => l_85_5 N n y κ0) x κ0
def Q_85 {R : Type} (m_85_9 : Tl_85_9 R) (m_85_5 : Tl_85_5 R) (x : (Unit × Int × Unit) × ((List Int) × Unit)) (κ0 : (((List Int) × (Bool × Unit)) × ((List Int) × Unit)) → Option R) : Option R :=
let i2628 := x.1.2.1
let l2629 := x.2.1
let i2630 : Int := (((List.length l2629) : Nat) : Int)
bif decide (i2628 = 0) then none else (
let i2631 : Int := remA .i64 i2630 i2628
bif (i2631 != 0) then (
κ0 (([], (false, ())), x.2)) else (
m_85_5 (((), i2628, (), 0, ()), (l2629, [], ())) (fun y2682 =>
let l2683 := y2682.2.1
let l2684 := y2682.2.2.1
κ0 ((l2684, (true, ())), (l2683, ())))))
def p_85 {R : Type} (N : Nat) (x : (Unit × Int × Unit) × ((List Int) × Unit)) (κ0 : (((List Int) × (Bool × Unit)) × ((List Int) × Unit)) → Option R) : Option R := Q_85 (l_85_9 N N) (l_85_5 N N) x κ0
def EG_85 {R : Type} : Env R := Env.base QQ LN AA
def LG_85 {R : Type} (m_85_9 : Tl_85_9 R) (m_85_5 : Tl_85_5 R) : Loops R := ((Loops.none).add 9 (loopBy 1 lv_85_9 pt_85_9 (fun x k => m_85_9 x (fun y => k (.exit 2) (px_85_9_0.inst y))))).add 5 (loopBy 1 lv_85_5 pt_85_5 (fun x k => m_85_5 x (fun y => k (.exit 0) (px_85_5_0.inst y))))
def E_85 {R : Type} (N : Nat) : Env R := EG_85
theorem eok_85 {R : Type} (N : Nat) : EK Try.prog (E_85 (R := R) N) := ek_base _ _ _
def L_85 {R : Type} (N : Nat) : Loops R := LG_85 (l_85_9 N N) (l_85_5 N N)
theorem gstep_85_9 {R : Type} (m_85_9 : Tl_85_9 R) (m_85_5 : Tl_85_5 R) (n : Nat) (x : pt_85_9.den) (k : Exit → St → Option R) : iter 1 lv_85_9 lo_85_9 (aexec TT (EG_85) (drawAny TT WW) (LG_85 m_85_9 m_85_5) (loopAt 9 (bodyOf Try.f85))) (n + 1) (pt_85_9.inst x) k = C_85_9 (fun y => iter 1 lv_85_9 lo_85_9 (aexec TT (EG_85) (drawAny TT WW) (LG_85 m_85_9 m_85_5) (loopAt 9 (bodyOf Try.f85))) n (pt_85_9.inst y) k) x (fun y => k (.exit 2) (px_85_9_0.inst y)) := by kernel_rfl
theorem step_85_9 {R : Type} (N n : Nat) (x : pt_85_9.den) (k : Exit → St → Option R) : iter 1 lv_85_9 lo_85_9 (aexec TT (E_85 (R := R) N) (drawAny TT WW) (L_85 N) (loopAt 9 (bodyOf Try.f85))) (n + 1) (pt_85_9.inst x) k = B_85_9 N (fun y => iter 1 lv_85_9 lo_85_9 (aexec TT (E_85 (R := R) N) (drawAny TT WW) (L_85 N) (loopAt 9 (bodyOf Try.f85))) n (pt_85_9.inst y) k) x (fun y => k (.exit 2) (px_85_9_0.inst y)) := (gstep_85_9 (l_85_9 N N) (l_85_5 N N) n x k).trans (by kernel_rfl)
theorem eq_85_9 {R : Type} (N : Nat) : ∀ (n : Nat) (x : pt_85_9.den) (k : Exit → St → Option R), iter 1 lv_85_9 lo_85_9 (aexec TT (E_85 (R := R) N) (drawAny TT WW) (L_85 N) (loopAt 9 (bodyOf Try.f85))) n (pt_85_9.inst x) k = l_85_9 N n x (fun y => k (.exit 2) (px_85_9_0.inst y)) :=
  iter_eq (K := Exit → St → Option R) (ks := fun k => k) (l := fun n (x : pt_85_9.den) k => l_85_9 N n x (fun y => k (.exit 2) (px_85_9_0.inst y))) (B := fun (rec : pt_85_9.den → Option R) (x : pt_85_9.den) k => B_85_9 N rec x (fun y => k (.exit 2) (px_85_9_0.inst y))) (fun _ _ => rfl) (fun _ _ _ => rfl) (fun n x k => step_85_9 N n x k)
theorem rounds_85_9 {R : Type} (N : Nat) : Rounds 1 TT (E_85 (R := R) N) (drawAny TT WW) (L_85 N) 9 (loopAt 9 (bodyOf Try.f85)) :=
  rounds_of (p := pt_85_9) (l := fun (x : pt_85_9.den) k => l_85_9 N N x (fun y => k (.exit 2) (px_85_9_0.inst y))) (fun s k => rfl) (fun x k => eq_85_9 N N x k)
theorem gstep_85_5 {R : Type} (m_85_9 : Tl_85_9 R) (m_85_5 : Tl_85_5 R) (n : Nat) (x : pt_85_5.den) (k : Exit → St → Option R) : iter 1 lv_85_5 lo_85_5 (aexec TT (EG_85) (drawAny TT WW) (LG_85 m_85_9 m_85_5) (loopAt 5 (bodyOf Try.f85))) (n + 1) (pt_85_5.inst x) k = C_85_5 m_85_9 (fun y => iter 1 lv_85_5 lo_85_5 (aexec TT (EG_85) (drawAny TT WW) (LG_85 m_85_9 m_85_5) (loopAt 5 (bodyOf Try.f85))) n (pt_85_5.inst y) k) x (fun y => k (.exit 0) (px_85_5_0.inst y)) := by kernel_rfl
theorem step_85_5 {R : Type} (N n : Nat) (x : pt_85_5.den) (k : Exit → St → Option R) : iter 1 lv_85_5 lo_85_5 (aexec TT (E_85 (R := R) N) (drawAny TT WW) (L_85 N) (loopAt 5 (bodyOf Try.f85))) (n + 1) (pt_85_5.inst x) k = B_85_5 N (fun y => iter 1 lv_85_5 lo_85_5 (aexec TT (E_85 (R := R) N) (drawAny TT WW) (L_85 N) (loopAt 5 (bodyOf Try.f85))) n (pt_85_5.inst y) k) x (fun y => k (.exit 0) (px_85_5_0.inst y)) := (gstep_85_5 (l_85_9 N N) (l_85_5 N N) n x k).trans (by kernel_rfl)
theorem eq_85_5 {R : Type} (N : Nat) : ∀ (n : Nat) (x : pt_85_5.den) (k : Exit → St → Option R), iter 1 lv_85_5 lo_85_5 (aexec TT (E_85 (R := R) N) (drawAny TT WW) (L_85 N) (loopAt 5 (bodyOf Try.f85))) n (pt_85_5.inst x) k = l_85_5 N n x (fun y => k (.exit 0) (px_85_5_0.inst y)) :=
  iter_eq (K := Exit → St → Option R) (ks := fun k => k) (l := fun n (x : pt_85_5.den) k => l_85_5 N n x (fun y => k (.exit 0) (px_85_5_0.inst y))) (B := fun (rec : pt_85_5.den → Option R) (x : pt_85_5.den) k => B_85_5 N rec x (fun y => k (.exit 0) (px_85_5_0.inst y))) (fun _ _ => rfl) (fun _ _ _ => rfl) (fun n x k => step_85_5 N n x k)
theorem rounds_85_5 {R : Type} (N : Nat) : Rounds 1 TT (E_85 (R := R) N) (drawAny TT WW) (L_85 N) 5 (loopAt 5 (bodyOf Try.f85)) :=
  rounds_of (p := pt_85_5) (l := fun (x : pt_85_5.den) k => l_85_5 N N x (fun y => k (.exit 0) (px_85_5_0.inst y))) (fun s k => rfl) (fun x k => eq_85_5 N N x k)
theorem loops_85 : loopsIn (bodyOf Try.f85) = [(5, loopAt 5 (bodyOf Try.f85)), (9, loopAt 9 (bodyOf Try.f85))] := by kernel_rfl
theorem lok_85 {R : Type} (N : Nat) : LOK 1 TT (E_85 (R := R) N) (drawAny TT WW) (L_85 N) (bodyOf Try.f85) := loops_all loops_85 (by
  simp only [List.forall_mem_cons, List.not_mem_nil, false_implies, implies_true, and_true]
  exact ⟨rounds_85_5 N, rounds_85_9 N⟩)
theorem grun_85 {R : Type} (m_85_9 : Tl_85_9 R) (m_85_5 : Tl_85_5 R) (x : aden ap_85 × hden hp_85) (k : KF R) : fnrun TT (EG_85) (drawAny TT WW) (LG_85 m_85_9 m_85_5) true Try.f85 (instA ap_85 x.1) (instH hp_85 x.2) k = Q_85 m_85_9 m_85_5 x (fun y => k (Pat.inst (.tup (.fcons (.ros (.int .u64)) (.fcons (.bool) (.fnil)))) y.1) (instH J4 y.2)) := by kernel_rfl
theorem run_85 {R : Type} (N : Nat) (x : aden ap_85 × hden hp_85) (k : KF R) : fnrun TT (E_85 (R := R) N) (drawAny TT WW) (L_85 N) true Try.f85 (instA ap_85 x.1) (instH hp_85 x.2) k = p_85 N x (fun y => k (Pat.inst (.tup (.fcons (.ros (.int .u64)) (.fcons (.bool) (.fnil)))) y.1) (instH J4 y.2)) := (grun_85 (l_85_9 N N) (l_85_5 N N) x k).trans (by kernel_rfl)
theorem good_85 {R : Type} (N : Nat) : GD (X := R) Try.prog QQ AA 85 ap_85 hp_85 (fun (x : aden ap_85 × hden hp_85) k => p_85 N x (fun y => k (Pat.inst (.tup (.fcons (.ros (.int .u64)) (.fcons (.bool) (.fnil)))) y.1) (instH J4 y.2))) :=
  gd_loud (E := E_85 N) (p := fun (x : aden ap_85 × hden hp_85) k => p_85 N x (fun y => k (Pat.inst (.tup (.fcons (.ros (.int .u64)) (.fcons (.bool) (.fnil)))) y.1) (instH J4 y.2))) mixed tyok (eok_85 N) Try.func85 (by kernel_rfl) (by kernel_rfl) (by kernel_rfl) (by kernel_rfl) (lok_85 N) (fun x k => run_85 N x k)

def lv_110_11 : Live := [(2, none), (4, none), (5, none), (6, none), (7, none), (8, none)]
def pt_110_11 : SPat := ⟨[(2, .ptr 0 []), (4, .ptr 1 []), (5, .str), (6, .str), (7, .int .i64), (8, .int .i64)], J14⟩
def px_110_11_0 : SPat := ⟨[(2, .ptr 0 []), (4, .ptr 1 []), (5, .str), (6, .str), (7, .int .i64)], J14⟩
def lo_110_11 : Exit → Live
  | .exit 2 => [(2, none), (4, none), (5, none), (6, none), (7, none)]
  | _ => []
def lv_110_8 : Live := [(2, none), (4, none), (5, none), (6, none), (7, none)]
def pt_110_8 : SPat := ⟨[(2, .ptr 0 []), (4, .ptr 1 []), (5, .str), (6, .str), (7, .int .i64)], J14⟩
def px_110_8_0 : SPat := ⟨[(2, .ptr 0 []), (4, .ptr 1 [])], J14⟩
def lo_110_8 : Exit → Live
  | .exit 0 => [(2, none), (4, none)]
  | _ => []
def ap_110 : List Pat := [.int .i64]
def hp_110 : List (Option (Pat × Nat)) := []
abbrev Tl_110_11 (R : Type) : Type := ((Unit × Unit × ByteArray × ByteArray × Int × Int × Unit) × Y6) → (((Unit × Unit × ByteArray × ByteArray × Int × Unit) × Y6) → Option R) → Option R
abbrev Tl_110_8 (R : Type) : Type := ((Unit × Unit × ByteArray × ByteArray × Int × Unit) × Y6) → (((Unit × Unit × Unit) × Y6) → Option R) → Option R
abbrev Tp_110 (R : Type) : Type := (Int × Unit) × (Unit) → ((Nat → Int) → Option R) → Option R
def C_110_11 {R : Type} (rec : ((Unit × Unit × ByteArray × ByteArray × Int × Int × Unit) × Y6) → Option R) (x : ((Unit × Unit × ByteArray × ByteArray × Int × Int × Unit) × Y6)) (κ0 : ((Unit × Unit × ByteArray × ByteArray × Int × Unit) × Y6) → Option R) : Option R :=
let s2732 := x.1.2.2.1
let s2733 := x.1.2.2.2.1
let i2734 := x.1.2.2.2.2.1
let i2735 := x.1.2.2.2.2.2.1
let a2736 := x.2.1
let a2737 := x.2.2.1
bif (decide (i2735 < 16)) then (
bif decide (0 ≤ i2735) then (
bif decide (i2735 < (ByteArray.size s2733 : Int)) then (
let i2738 : Int := byteAt s2733 ((Int.toNat i2735))
bif decide (0 ≤ i2734) then (
bif decide (i2734 < (ByteArray.size s2732 : Int)) then (
let i2739 : Int := byteAt s2732 ((Int.toNat i2734))
bif (i2738 == i2739) then (
bif decide (0 ≤ i2734) then (
bif decide (i2734 < (16 : Int)) then (
let a2740 : (Nat → Int) := (upd a2737 ((Int.toNat i2734)) i2735)
let i2741 : Int := addA .i64 i2735 1
rec (((), (), s2732, s2733, i2734, i2741, ()), (a2736, a2740, ()))) else none) else none) else (
let i2742 : Int := addA .i64 i2735 1
rec (((), (), s2732, s2733, i2734, i2742, ()), (a2736, a2737, ())))) else none) else none) else none) else none) else (
κ0 (((), (), s2732, s2733, i2734, ()), (a2736, a2737, ())))
def C_110_8 {R : Type} (m_110_11 : Tl_110_11 R) (rec : ((Unit × Unit × ByteArray × ByteArray × Int × Unit) × Y6) → Option R) (x : ((Unit × Unit × ByteArray × ByteArray × Int × Unit) × Y6)) (κ0 : ((Unit × Unit × Unit) × Y6) → Option R) : Option R :=
let s2727 := x.1.2.2.1
let s2728 := x.1.2.2.2.1
let i2729 := x.1.2.2.2.2.1
let a2730 := x.2.1
let a2731 := x.2.2.1
bif (decide (i2729 < 16)) then (
m_110_11 (((), (), s2727, s2728, i2729, 0, ()), (a2730, a2731, ())) (fun y2743 =>
let s2744 := y2743.1.2.2.1
let s2745 := y2743.1.2.2.2.1
let i2746 := y2743.1.2.2.2.2.1
let a2747 := y2743.2.1
let a2748 := y2743.2.2.1
let i2749 : Int := addA .i64 i2746 1
rec (((), (), s2744, s2745, i2749, ()), (a2747, a2748, ())))) else (
κ0 (((), (), ()), (a2730, a2731, ())))
def B_110_11 {R : Type} (N : Nat) (rec : ((Unit × Unit × ByteArray × ByteArray × Int × Int × Unit) × Y6) → Option R) (x : ((Unit × Unit × ByteArray × ByteArray × Int × Int × Unit) × Y6)) (κ0 : ((Unit × Unit × ByteArray × ByteArray × Int × Unit) × Y6) → Option R) : Option R := C_110_11 rec x κ0
def l_110_11 {R : Type} (N : Nat) : Nat → ((Unit × Unit × ByteArray × ByteArray × Int × Int × Unit) × Y6) → (((Unit × Unit × ByteArray × ByteArray × Int × Unit) × Y6) → Option R) → Option R
  | 0, _, _ => none
  | n + 1, x, κ0 => B_110_11 N (fun y => l_110_11 N n y κ0) x κ0
def B_110_8 {R : Type} (N : Nat) (rec : ((Unit × Unit × ByteArray × ByteArray × Int × Unit) × Y6) → Option R) (x : ((Unit × Unit × ByteArray × ByteArray × Int × Unit) × Y6)) (κ0 : ((Unit × Unit × Unit) × Y6) → Option R) : Option R := C_110_8 (l_110_11 N N) rec x κ0
def l_110_8 {R : Type} (N : Nat) : Nat → ((Unit × Unit × ByteArray × ByteArray × Int × Unit) × Y6) → (((Unit × Unit × Unit) × Y6) → Option R) → Option R
  | 0, _, _ => none
  | n + 1, x, κ0 => B_110_8 N (fun y => l_110_8 N n y κ0) x κ0
def Q_110 {R : Type} (m_110_11 : Tl_110_11 R) (m_110_8 : Tl_110_8 R) (x : (Int × Unit) × (Unit)) (κ0 : (Nat → Int) → Option R) : Option R :=
let i2721 := x.1.1
let l2722 : (List ByteArray) := [⟨#[48, 49, 50, 51, 52, 53, 54, 55, 56, 57, 97, 98, 99, 100, 101, 102]⟩, ⟨#[101, 97, 52, 56, 57, 102, 100, 54, 49, 99, 48, 50, 98, 55, 53, 51]⟩, ⟨#[98, 56, 99, 48, 53, 50, 102, 100, 97, 101, 51, 54, 55, 49, 57, 52]⟩, ⟨#[55, 57, 51, 49, 100, 99, 98, 101, 50, 54, 53, 97, 52, 48, 102, 56]⟩, ⟨#[57, 48, 53, 55, 50, 52, 97, 102, 101, 49, 98, 99, 54, 56, 51, 100]⟩, ⟨#[50, 99, 54, 97, 48, 98, 56, 51, 52, 100, 55, 53, 102, 101, 49, 57]⟩, ⟨#[99, 53, 49, 102, 101, 100, 52, 97, 48, 55, 54, 51, 57, 50, 56, 98]⟩, ⟨#[100, 98, 55, 101, 99, 49, 51, 57, 53, 48, 102, 52, 56, 54, 50, 97]⟩, ⟨#[54, 102, 101, 57, 98, 51, 48, 56, 99, 50, 100, 55, 49, 52, 97, 53]⟩, ⟨#[97, 50, 56, 52, 55, 54, 49, 53, 102, 98, 57, 101, 51, 99, 100, 48]⟩]
bif (decide (i2721 < 0)) then (
let a2723 : (Nat → Int) := (Sch.zero (.arr 16 (.int .i64)))
κ0 a2723) else (
let i2724 : Int := remA .i64 i2721 10
bif decide (0 ≤ i2724) then (
bif decide (i2724 < ((List.length l2722) : Int)) then (
let s2725 : ByteArray := (List.getD l2722 ((Int.toNat i2724)) (Sch.zero (.str)))
bif decide (0 < ((List.length l2722) : Int)) then (
let s2726 : ByteArray := (List.getD l2722 0 (Sch.zero (.str)))
m_110_8 (((), (), s2725, s2726, 0, ()), ((Sch.zero (.arr 16 (.int .i64))), (Sch.zero (.arr 16 (.int .i64))), ())) (fun y2750 =>
let a2752 := y2750.2.2.1
κ0 a2752)) else none) else none) else none)
def p_110 {R : Type} (N : Nat) (x : (Int × Unit) × (Unit)) (κ0 : (Nat → Int) → Option R) : Option R := Q_110 (l_110_11 N N) (l_110_8 N N) x κ0
def EG_110 {R : Type} : Env R := Env.base QQ LN AA
def LG_110 {R : Type} (m_110_11 : Tl_110_11 R) (m_110_8 : Tl_110_8 R) : Loops R := ((Loops.none).add 11 (loopBy 0 lv_110_11 pt_110_11 (fun x k => m_110_11 x (fun y => k (.exit 2) (px_110_11_0.inst y))))).add 8 (loopBy 0 lv_110_8 pt_110_8 (fun x k => m_110_8 x (fun y => k (.exit 0) (px_110_8_0.inst y))))
def E_110 {R : Type} (N : Nat) : Env R := EG_110
theorem eok_110 {R : Type} (N : Nat) : EK Try.prog (E_110 (R := R) N) := ek_base _ _ _
def L_110 {R : Type} (N : Nat) : Loops R := LG_110 (l_110_11 N N) (l_110_8 N N)
theorem gstep_110_11 {R : Type} (m_110_11 : Tl_110_11 R) (m_110_8 : Tl_110_8 R) (n : Nat) (x : pt_110_11.den) (k : Exit → St → Option R) : iter 0 lv_110_11 lo_110_11 (aexec TT (EG_110) (drawAny TT WW) (LG_110 m_110_11 m_110_8) (loopAt 11 (bodyOf Try.f110))) (n + 1) (pt_110_11.inst x) k = C_110_11 (fun y => iter 0 lv_110_11 lo_110_11 (aexec TT (EG_110) (drawAny TT WW) (LG_110 m_110_11 m_110_8) (loopAt 11 (bodyOf Try.f110))) n (pt_110_11.inst y) k) x (fun y => k (.exit 2) (px_110_11_0.inst y)) := by kernel_rfl
theorem step_110_11 {R : Type} (N n : Nat) (x : pt_110_11.den) (k : Exit → St → Option R) : iter 0 lv_110_11 lo_110_11 (aexec TT (E_110 (R := R) N) (drawAny TT WW) (L_110 N) (loopAt 11 (bodyOf Try.f110))) (n + 1) (pt_110_11.inst x) k = B_110_11 N (fun y => iter 0 lv_110_11 lo_110_11 (aexec TT (E_110 (R := R) N) (drawAny TT WW) (L_110 N) (loopAt 11 (bodyOf Try.f110))) n (pt_110_11.inst y) k) x (fun y => k (.exit 2) (px_110_11_0.inst y)) := (gstep_110_11 (l_110_11 N N) (l_110_8 N N) n x k).trans (by kernel_rfl)
theorem eq_110_11 {R : Type} (N : Nat) : ∀ (n : Nat) (x : pt_110_11.den) (k : Exit → St → Option R), iter 0 lv_110_11 lo_110_11 (aexec TT (E_110 (R := R) N) (drawAny TT WW) (L_110 N) (loopAt 11 (bodyOf Try.f110))) n (pt_110_11.inst x) k = l_110_11 N n x (fun y => k (.exit 2) (px_110_11_0.inst y)) :=
  iter_eq (K := Exit → St → Option R) (ks := fun k => k) (l := fun n (x : pt_110_11.den) k => l_110_11 N n x (fun y => k (.exit 2) (px_110_11_0.inst y))) (B := fun (rec : pt_110_11.den → Option R) (x : pt_110_11.den) k => B_110_11 N rec x (fun y => k (.exit 2) (px_110_11_0.inst y))) (fun _ _ => rfl) (fun _ _ _ => rfl) (fun n x k => step_110_11 N n x k)
theorem rounds_110_11 {R : Type} (N : Nat) : Rounds 0 TT (E_110 (R := R) N) (drawAny TT WW) (L_110 N) 11 (loopAt 11 (bodyOf Try.f110)) :=
  rounds_of (p := pt_110_11) (l := fun (x : pt_110_11.den) k => l_110_11 N N x (fun y => k (.exit 2) (px_110_11_0.inst y))) (fun s k => rfl) (fun x k => eq_110_11 N N x k)
theorem gstep_110_8 {R : Type} (m_110_11 : Tl_110_11 R) (m_110_8 : Tl_110_8 R) (n : Nat) (x : pt_110_8.den) (k : Exit → St → Option R) : iter 0 lv_110_8 lo_110_8 (aexec TT (EG_110) (drawAny TT WW) (LG_110 m_110_11 m_110_8) (loopAt 8 (bodyOf Try.f110))) (n + 1) (pt_110_8.inst x) k = C_110_8 m_110_11 (fun y => iter 0 lv_110_8 lo_110_8 (aexec TT (EG_110) (drawAny TT WW) (LG_110 m_110_11 m_110_8) (loopAt 8 (bodyOf Try.f110))) n (pt_110_8.inst y) k) x (fun y => k (.exit 0) (px_110_8_0.inst y)) := by kernel_rfl
theorem step_110_8 {R : Type} (N n : Nat) (x : pt_110_8.den) (k : Exit → St → Option R) : iter 0 lv_110_8 lo_110_8 (aexec TT (E_110 (R := R) N) (drawAny TT WW) (L_110 N) (loopAt 8 (bodyOf Try.f110))) (n + 1) (pt_110_8.inst x) k = B_110_8 N (fun y => iter 0 lv_110_8 lo_110_8 (aexec TT (E_110 (R := R) N) (drawAny TT WW) (L_110 N) (loopAt 8 (bodyOf Try.f110))) n (pt_110_8.inst y) k) x (fun y => k (.exit 0) (px_110_8_0.inst y)) := (gstep_110_8 (l_110_11 N N) (l_110_8 N N) n x k).trans (by kernel_rfl)
theorem eq_110_8 {R : Type} (N : Nat) : ∀ (n : Nat) (x : pt_110_8.den) (k : Exit → St → Option R), iter 0 lv_110_8 lo_110_8 (aexec TT (E_110 (R := R) N) (drawAny TT WW) (L_110 N) (loopAt 8 (bodyOf Try.f110))) n (pt_110_8.inst x) k = l_110_8 N n x (fun y => k (.exit 0) (px_110_8_0.inst y)) :=
  iter_eq (K := Exit → St → Option R) (ks := fun k => k) (l := fun n (x : pt_110_8.den) k => l_110_8 N n x (fun y => k (.exit 0) (px_110_8_0.inst y))) (B := fun (rec : pt_110_8.den → Option R) (x : pt_110_8.den) k => B_110_8 N rec x (fun y => k (.exit 0) (px_110_8_0.inst y))) (fun _ _ => rfl) (fun _ _ _ => rfl) (fun n x k => step_110_8 N n x k)
theorem rounds_110_8 {R : Type} (N : Nat) : Rounds 0 TT (E_110 (R := R) N) (drawAny TT WW) (L_110 N) 8 (loopAt 8 (bodyOf Try.f110)) :=
  rounds_of (p := pt_110_8) (l := fun (x : pt_110_8.den) k => l_110_8 N N x (fun y => k (.exit 0) (px_110_8_0.inst y))) (fun s k => rfl) (fun x k => eq_110_8 N N x k)
theorem loops_110 : loopsIn (bodyOf Try.f110) = [(8, loopAt 8 (bodyOf Try.f110)), (11, loopAt 11 (bodyOf Try.f110))] := by kernel_rfl
theorem lok_110 {R : Type} (N : Nat) : LOK 0 TT (E_110 (R := R) N) (drawAny TT WW) (L_110 N) (bodyOf Try.f110) := loops_all loops_110 (by
  simp only [List.forall_mem_cons, List.not_mem_nil, false_implies, implies_true, and_true]
  exact ⟨rounds_110_8 N, rounds_110_11 N⟩)
theorem grun_110 {R : Type} (m_110_11 : Tl_110_11 R) (m_110_8 : Tl_110_8 R) (x : aden ap_110 × hden hp_110) (k : KF R) : fnrun TT (EG_110) (drawAny TT WW) (LG_110 m_110_11 m_110_8) true Try.f110 (instA ap_110 x.1) (instH hp_110 x.2) k = Q_110 m_110_11 m_110_8 x (fun y => k (Pat.inst (.vec (.int .i64) 16) y) (instH hp_110 x.2)) := by kernel_rfl
theorem run_110 {R : Type} (N : Nat) (x : aden ap_110 × hden hp_110) (k : KF R) : fnrun TT (E_110 (R := R) N) (drawAny TT WW) (L_110 N) true Try.f110 (instA ap_110 x.1) (instH hp_110 x.2) k = p_110 N x (fun y => k (Pat.inst (.vec (.int .i64) 16) y) (instH hp_110 x.2)) := (grun_110 (l_110_11 N N) (l_110_8 N N) x k).trans (by kernel_rfl)
theorem good_110 {R : Type} (N : Nat) : GD (X := R) Try.prog QQ AA 110 ap_110 hp_110 (fun (x : aden ap_110 × hden hp_110) k => p_110 N x (fun y => k (Pat.inst (.vec (.int .i64) 16) y) (instH hp_110 x.2))) :=
  gd_quiet (E := E_110 N) (p := fun (x : aden ap_110 × hden hp_110) κ => p_110 N x (fun y => κ (Pat.inst (.vec (.int .i64) 16) y))) mixed tyok (eok_110 N) Try.func110 (by kernel_rfl) (by kernel_rfl) (lok_110 N) (fun x k => run_110 N x k)

def ap_111 : List Pat := [.int .i64]
def hp_111 : List (Option (Pat × Nat)) := []
abbrev Tp_111 (R : Type) : Type := (Int × Unit) × (Unit) → ((Nat → Int) → Option R) → Option R
def Q_111 {R : Type} (x : (Int × Unit) × (Unit)) (κ0 : (Nat → Int) → Option R) : Option R :=
let i2762 := x.1.1
bif (decide (i2762 < 4)) then (
let i2763 : Int := addA .i64 i2762 4
let i2764 : Int := addA .i64 i2762 8
let i2765 : Int := addA .i64 i2762 12
let a2766 : (Nat → Int) := (upd ((upd ((upd ((upd ((Sch.zero (.arr 4 (.int .i64)))) 0 i2762)) 1 i2763)) 2 i2764)) 3 i2765)
κ0 a2766) else (
let i2767 : Int := subA .i64 i2762 4
let i2768 : Int := addA .i64 i2767 1
let i2769 : Int := remA .i64 i2768 4
let i2770 : Int := addA .i64 4 i2769
let i2771 : Int := addA .i64 i2767 2
let i2772 : Int := remA .i64 i2771 4
let i2773 : Int := addA .i64 8 i2772
let i2774 : Int := addA .i64 i2767 3
let i2775 : Int := remA .i64 i2774 4
let i2776 : Int := addA .i64 12 i2775
let a2777 : (Nat → Int) := (upd ((upd ((upd ((upd ((Sch.zero (.arr 4 (.int .i64)))) 0 i2767)) 1 i2770)) 2 i2773)) 3 i2776)
κ0 a2777)
def p_111 {R : Type} (N : Nat) (x : (Int × Unit) × (Unit)) (κ0 : (Nat → Int) → Option R) : Option R := Q_111 x κ0
def EG_111 {R : Type} : Env R := Env.base QQ LN AA
def LG_111 {R : Type} : Loops R := Loops.none
def E_111 {R : Type} (N : Nat) : Env R := EG_111
theorem eok_111 {R : Type} (N : Nat) : EK Try.prog (E_111 (R := R) N) := ek_base _ _ _
def L_111 {R : Type} (N : Nat) : Loops R := LG_111
theorem lok_111 {R : Type} (N : Nat) : LOK 0 TT (E_111 (R := R) N) (drawAny TT WW) (L_111 N) (bodyOf Try.f111) := loops_nil (by kernel_rfl)
theorem grun_111 {R : Type} (x : aden ap_111 × hden hp_111) (k : KF R) : fnrun TT (EG_111) (drawAny TT WW) (LG_111) true Try.f111 (instA ap_111 x.1) (instH hp_111 x.2) k = Q_111 x (fun y => k (Pat.inst (.vec (.int .i64) 4) y) (instH hp_111 x.2)) := by kernel_rfl
theorem run_111 {R : Type} (N : Nat) (x : aden ap_111 × hden hp_111) (k : KF R) : fnrun TT (E_111 (R := R) N) (drawAny TT WW) (L_111 N) true Try.f111 (instA ap_111 x.1) (instH hp_111 x.2) k = p_111 N x (fun y => k (Pat.inst (.vec (.int .i64) 4) y) (instH hp_111 x.2)) := (grun_111 x k).trans (by kernel_rfl)
theorem good_111 {R : Type} (N : Nat) : GD (X := R) Try.prog QQ AA 111 ap_111 hp_111 (fun (x : aden ap_111 × hden hp_111) k => p_111 N x (fun y => k (Pat.inst (.vec (.int .i64) 4) y) (instH hp_111 x.2))) :=
  gd_quiet (E := E_111 N) (p := fun (x : aden ap_111 × hden hp_111) κ => p_111 N x (fun y => κ (Pat.inst (.vec (.int .i64) 4) y))) mixed tyok (eok_111 N) Try.func111 (by kernel_rfl) (by kernel_rfl) (lok_111 N) (fun x k => run_111 N x k)

def ap_118 : List Pat := [.int .u64, .int .u64, .int .u64]
def hp_118 : List (Option (Pat × Nat)) := []
abbrev Tp_118 (R : Type) : Type := (Int × Int × Int × Unit) × (Unit) → (Int → Option R) → Option R
def Q_118 {R : Type} (x : (Int × Int × Int × Unit) × (Unit)) (κ0 : Int → Option R) : Option R :=
let i2807 := x.1.1
let i2808 := x.1.2.1
let i2809 := x.1.2.2.1
bif decide (i2808 = 0) then none else (
let i2810 : Int := quoA .u64 i2807 i2808
bif decide (i2808 = 0) then none else (
let i2811 : Int := remA .u64 i2807 i2808
let i2812 : Int := mulA .u64 i2811 i2809
let i2813 : Int := addA .u64 i2810 i2812
κ0 i2813))
def p_118 {R : Type} (N : Nat) (x : (Int × Int × Int × Unit) × (Unit)) (κ0 : Int → Option R) : Option R := Q_118 x κ0
def EG_118 {R : Type} : Env R := Env.base QQ LN AA
def LG_118 {R : Type} : Loops R := Loops.none
def E_118 {R : Type} (N : Nat) : Env R := EG_118
theorem eok_118 {R : Type} (N : Nat) : EK Try.prog (E_118 (R := R) N) := ek_base _ _ _
def L_118 {R : Type} (N : Nat) : Loops R := LG_118
theorem lok_118 {R : Type} (N : Nat) : LOK 0 TT (E_118 (R := R) N) (drawAny TT WW) (L_118 N) (bodyOf Try.f118) := loops_nil (by kernel_rfl)
theorem grun_118 {R : Type} (x : aden ap_118 × hden hp_118) (k : KF R) : fnrun TT (EG_118) (drawAny TT WW) (LG_118) true Try.f118 (instA ap_118 x.1) (instH hp_118 x.2) k = Q_118 x (fun y => k (Pat.inst (.int .u64) y) (instH hp_118 x.2)) := by kernel_rfl
theorem run_118 {R : Type} (N : Nat) (x : aden ap_118 × hden hp_118) (k : KF R) : fnrun TT (E_118 (R := R) N) (drawAny TT WW) (L_118 N) true Try.f118 (instA ap_118 x.1) (instH hp_118 x.2) k = p_118 N x (fun y => k (Pat.inst (.int .u64) y) (instH hp_118 x.2)) := (grun_118 x k).trans (by kernel_rfl)
theorem good_118 {R : Type} (N : Nat) : GD (X := R) Try.prog QQ AA 118 ap_118 hp_118 (fun (x : aden ap_118 × hden hp_118) k => p_118 N x (fun y => k (Pat.inst (.int .u64) y) (instH hp_118 x.2))) :=
  gd_quiet (E := E_118 N) (p := fun (x : aden ap_118 × hden hp_118) κ => p_118 N x (fun y => κ (Pat.inst (.int .u64) y))) mixed tyok (eok_118 N) Try.func118 (by kernel_rfl) (by kernel_rfl) (lok_118 N) (fun x k => run_118 N x k)

def ap_112 : List Pat := [.vec (.int .u64) 4, .int .u64, .int .u64]
def hp_112 : List (Option (Pat × Nat)) := []
abbrev Tp_112 (R : Type) : Type := ((Nat → Int) × Int × Int × Unit) × (Unit) → ((Nat → Int) → Option R) → Option R
def Q_112 {R : Type} (q_118 : Tp_118 R) (x : ((Nat → Int) × Int × Int × Unit) × (Unit)) (κ0 : (Nat → Int) → Option R) : Option R :=
let a2796 := x.1.1
let i2797 := x.1.2.1
let i2798 := x.1.2.2.1
let i2799 : Int := (a2796 0)
let i2800 : Int := (a2796 1)
let i2801 : Int := addA .u64 i2799 i2800
let i2802 : Int := addA .u64 i2801 i2797
let a2803 : (Nat → Int) := (upd a2796 0 i2802)
let i2804 : Int := (a2803 3)
let i2805 : Int := (a2803 0)
let i2806 : Int := xorA .u64 i2804 i2805
q_118 ((i2806, 4294967296, 4294967296, ()), ()) (fun y2814 =>
let i2815 : Int := y2814
let a2816 : (Nat → Int) := (upd a2803 3 i2815)
let i2817 : Int := (a2816 2)
let i2818 : Int := (a2816 3)
let i2819 : Int := addA .u64 i2817 i2818
let a2820 : (Nat → Int) := (upd a2816 2 i2819)
let i2821 : Int := (a2820 1)
let i2822 : Int := (a2820 2)
let i2823 : Int := xorA .u64 i2821 i2822
q_118 ((i2823, 16777216, 1099511627776, ()), ()) (fun y2824 =>
let i2825 : Int := y2824
let a2826 : (Nat → Int) := (upd a2820 1 i2825)
let i2827 : Int := (a2826 0)
let i2828 : Int := (a2826 1)
let i2829 : Int := addA .u64 i2827 i2828
let i2830 : Int := addA .u64 i2829 i2798
let a2831 : (Nat → Int) := (upd a2826 0 i2830)
let i2832 : Int := (a2831 3)
let i2833 : Int := (a2831 0)
let i2834 : Int := xorA .u64 i2832 i2833
q_118 ((i2834, 65536, 281474976710656, ()), ()) (fun y2835 =>
let i2836 : Int := y2835
let a2837 : (Nat → Int) := (upd a2831 3 i2836)
let i2838 : Int := (a2837 2)
let i2839 : Int := (a2837 3)
let i2840 : Int := addA .u64 i2838 i2839
let a2841 : (Nat → Int) := (upd a2837 2 i2840)
let i2842 : Int := (a2841 1)
let i2843 : Int := (a2841 2)
let i2844 : Int := xorA .u64 i2842 i2843
q_118 ((i2844, 9223372036854775808, 2, ()), ()) (fun y2845 =>
let i2846 : Int := y2845
let a2847 : (Nat → Int) := (upd a2841 1 i2846)
κ0 a2847))))
def p_112 {R : Type} (N : Nat) (x : ((Nat → Int) × Int × Int × Unit) × (Unit)) (κ0 : (Nat → Int) → Option R) : Option R := Q_112 (p_118 N) x κ0
def EG_112 {R : Type} (q_118 : Tp_118 R) : Env R := (Env.base QQ LN AA).add 118 ap_118 hp_118 (fun (x : aden ap_118 × hden hp_118) k => q_118 x (fun y => k (Pat.inst (.int .u64) y) (instH hp_118 x.2)))
def LG_112 {R : Type} : Loops R := Loops.none
def E_112 {R : Type} (N : Nat) : Env R := EG_112 (p_118 N)
theorem eok_112 {R : Type} (N : Nat) : EK Try.prog (E_112 (R := R) N) := ek_add (ek_base _ _ _) (good_118 N)
def L_112 {R : Type} (N : Nat) : Loops R := LG_112
theorem lok_112 {R : Type} (N : Nat) : LOK 0 TT (E_112 (R := R) N) (drawAny TT WW) (L_112 N) (bodyOf Try.f112) := loops_nil (by kernel_rfl)
theorem grun_112 {R : Type} (q_118 : Tp_118 R) (x : aden ap_112 × hden hp_112) (k : KF R) : fnrun TT (EG_112 q_118) (drawAny TT WW) (LG_112) true Try.f112 (instA ap_112 x.1) (instH hp_112 x.2) k = Q_112 q_118 x (fun y => k (Pat.inst (.vec (.int .u64) 4) y) (instH hp_112 x.2)) := by kernel_rfl
theorem run_112 {R : Type} (N : Nat) (x : aden ap_112 × hden hp_112) (k : KF R) : fnrun TT (E_112 (R := R) N) (drawAny TT WW) (L_112 N) true Try.f112 (instA ap_112 x.1) (instH hp_112 x.2) k = p_112 N x (fun y => k (Pat.inst (.vec (.int .u64) 4) y) (instH hp_112 x.2)) := (grun_112 (p_118 N) x k).trans (by kernel_rfl)
theorem good_112 {R : Type} (N : Nat) : GD (X := R) Try.prog QQ AA 112 ap_112 hp_112 (fun (x : aden ap_112 × hden hp_112) k => p_112 N x (fun y => k (Pat.inst (.vec (.int .u64) 4) y) (instH hp_112 x.2))) :=
  gd_quiet (E := E_112 N) (p := fun (x : aden ap_112 × hden hp_112) κ => p_112 N x (fun y => κ (Pat.inst (.vec (.int .u64) 4) y))) mixed tyok (eok_112 N) Try.func112 (by kernel_rfl) (by kernel_rfl) (lok_112 N) (fun x k => run_112 N x k)

def lv_102_4 : Live := [(3, none), (4, none), (5, none), (6, none), (10, none), (11, none), (13, none), (14, none)]
def pt_102_4 : SPat := ⟨[(3, .int .u64), (4, .bool), (5, .ptr 0 []), (6, .ptr 1 []), (10, .ptr 2 []), (11, .ros (.int .u64)), (13, .ptr 3 []), (14, .int .i64)], [some (.vec (.int .u64) 8, 57), some (.vec (.int .u64) 8, 56), some (.vec (.int .u64) 8, 56), some (.vec (.int .u64) 16, 186)]⟩
def px_102_4_0 : SPat := ⟨[(3, .int .u64), (4, .bool), (6, .ptr 0 []), (10, .ptr 1 []), (11, .ros (.int .u64)), (13, .ptr 2 [])], J9⟩
def lo_102_4 : Exit → Live
  | .exit 0 => [(3, none), (4, none), (6, none), (10, none), (11, none), (13, none)]
  | _ => []
def lv_102_21 : Live := [(6, none), (10, none), (11, none), (13, none), (15, none), (16, none), (17, none), (18, none), (19, none), (20, none)]
def pt_102_21 : SPat := ⟨[(6, .ptr 0 []), (10, .ptr 1 []), (11, .ros (.int .u64)), (13, .ptr 2 []), (15, .int .i64), (16, .ptr 3 []), (17, .int .i64), (18, .ptr 4 []), (19, .ptr 5 []), (20, .int .i64)], [some (.vec (.int .u64) 8, 56), some (.vec (.int .u64) 8, 56), some (.vec (.int .u64) 16, 186), some (.vec (.int .i64) 16, 192), some (.vec (.int .i64) 4, 65), some (.vec (.int .u64) 4, 197)]⟩
def px_102_21_0 : SPat := ⟨[(6, .ptr 0 []), (10, .ptr 1 []), (11, .ros (.int .u64)), (13, .ptr 2 []), (15, .int .i64), (16, .ptr 3 []), (17, .int .i64)], [some (.vec (.int .u64) 8, 56), some (.vec (.int .u64) 8, 56), some (.vec (.int .u64) 16, 186), some (.vec (.int .i64) 16, 192)]⟩
def lo_102_21 : Exit → Live
  | .exit 6 => [(6, none), (10, none), (11, none), (13, none), (15, none), (16, none), (17, none)]
  | _ => []
def lv_102_16 : Live := [(6, none), (10, none), (11, none), (13, none), (15, none), (16, none), (17, none)]
def pt_102_16 : SPat := ⟨[(6, .ptr 0 []), (10, .ptr 1 []), (11, .ros (.int .u64)), (13, .ptr 2 []), (15, .int .i64), (16, .ptr 3 []), (17, .int .i64)], [some (.vec (.int .u64) 8, 56), some (.vec (.int .u64) 8, 56), some (.vec (.int .u64) 16, 186), some (.vec (.int .i64) 16, 192)]⟩
def px_102_16_0 : SPat := ⟨[(6, .ptr 0 []), (10, .ptr 1 []), (11, .ros (.int .u64)), (13, .ptr 2 []), (15, .int .i64)], J9⟩
def lo_102_16 : Exit → Live
  | .exit 4 => [(6, none), (10, none), (11, none), (13, none), (15, none)]
  | _ => []
def lv_102_12 : Live := [(6, none), (10, none), (11, none), (13, none), (15, none)]
def pt_102_12 : SPat := ⟨[(6, .ptr 0 []), (10, .ptr 1 []), (11, .ros (.int .u64)), (13, .ptr 2 []), (15, .int .i64)], J9⟩
def px_102_12_0 : SPat := ⟨[(6, .ptr 0 []), (10, .ptr 1 []), (13, .ptr 2 [])], J9⟩
def lo_102_12 : Exit → Live
  | .exit 2 => [(6, none), (10, none), (13, none)]
  | _ => []
def lv_102_25 : Live := [(6, none), (10, none), (13, none), (21, none)]
def pt_102_25 : SPat := ⟨[(6, .ptr 0 []), (10, .ptr 1 []), (13, .ptr 2 []), (21, .int .i64)], J9⟩
def px_102_25_0 : SPat := ⟨[(6, .ptr 0 []), (10, .ptr 1 [])], [some (.vec (.int .u64) 8, 56), some (.vec (.int .u64) 8, 56)]⟩
def lo_102_25 : Exit → Live
  | .exit 8 => [(6, none), (10, none)]
  | _ => []
def ap_102 : List Pat := [.vec (.int .u64) 8, .vec (.int .u64) 8, .str, .int .u64, .bool]
def hp_102 : List (Option (Pat × Nat)) := []
abbrev Tl_102_4 (R : Type) : Type := ((Int × Bool × Unit × Unit × Unit × (List Int) × Unit × Int × Unit) × ((Nat → Int) × (Nat → Int) × (Nat → Int) × (Nat → Int) × Unit)) → (((Int × Bool × Unit × Unit × (List Int) × Unit × Unit) × Y9) → Option R) → Option R
abbrev Tl_102_21 (R : Type) : Type := Y21 → (Y14 → Option R) → Option R
abbrev Tl_102_16 (R : Type) : Type := Y14 → (((Unit × Unit × (List Int) × Unit × Int × Unit) × Y9) → Option R) → Option R
abbrev Tl_102_12 (R : Type) : Type := ((Unit × Unit × (List Int) × Unit × Int × Unit) × Y9) → (((Unit × Unit × Unit × Unit) × Y9) → Option R) → Option R
abbrev Tl_102_25 (R : Type) : Type := ((Unit × Unit × Unit × Int × Unit) × Y9) → (((Unit × Unit × Unit) × Y6) → Option R) → Option R
abbrev Tp_102 (R : Type) : Type := ((Nat → Int) × (Nat → Int) × ByteArray × Int × Bool × Unit) × (Unit) → ((Nat → Int) → Option R) → Option R
def C_102_4 {R : Type} (rec : ((Int × Bool × Unit × Unit × Unit × (List Int) × Unit × Int × Unit) × ((Nat → Int) × (Nat → Int) × (Nat → Int) × (Nat → Int) × Unit)) → Option R) (x : ((Int × Bool × Unit × Unit × Unit × (List Int) × Unit × Int × Unit) × ((Nat → Int) × (Nat → Int) × (Nat → Int) × (Nat → Int) × Unit))) (κ0 : ((Int × Bool × Unit × Unit × (List Int) × Unit × Unit) × Y9) → Option R) : Option R :=
let i2689 := x.1.1
let b2690 := x.1.2.1
let l2691 := x.1.2.2.2.2.2.1
let i2692 := x.1.2.2.2.2.2.2.2.1
let a2693 := x.2.1
let a2694 := x.2.2.1
let a2695 := x.2.2.2.1
let a2696 := x.2.2.2.2.1
bif (decide (i2692 < 8)) then (
bif decide (0 ≤ i2692) then (
bif decide (i2692 < (8 : Int)) then (
let i2697 : Int := (a2694 ((Int.toNat i2692)))
bif decide (0 ≤ i2692) then (
bif decide (i2692 < (16 : Int)) then (
let a2698 : (Nat → Int) := (upd a2696 ((Int.toNat i2692)) i2697)
let i2699 : Int := addA .i64 i2692 8
bif decide (0 ≤ i2692) then (
bif decide (i2692 < (8 : Int)) then (
let i2700 : Int := (a2693 ((Int.toNat i2692)))
bif decide (0 ≤ i2699) then (
bif decide (i2699 < (16 : Int)) then (
let a2701 : (Nat → Int) := (upd a2698 ((Int.toNat i2699)) i2700)
let i2702 : Int := addA .i64 i2692 1
rec ((i2689, b2690, (), (), (), l2691, (), i2702, ()), (a2693, a2694, a2695, a2701, ()))) else none) else none) else none) else none) else none) else none) else none) else none) else (
κ0 ((i2689, b2690, (), (), l2691, (), ()), (a2694, a2695, a2696, ())))
def C_102_21 {R : Type} (rec : Y21 → Option R) (x : Y21) (κ0 : Y14 → Option R) : Option R :=
let l2933 := x.1.2.2.1
let i2934 := x.1.2.2.2.2.1
let i2935 := x.1.2.2.2.2.2.2.1
let i2936 := x.1.2.2.2.2.2.2.2.2.2.1
let a2937 := x.2.1
let a2938 := x.2.2.1
let a2939 := x.2.2.2.1
let a2940 := x.2.2.2.2.1
let a2941 := x.2.2.2.2.2.1
let a2942 := x.2.2.2.2.2.2.1
bif (decide (i2936 < 4)) then (
bif decide (0 ≤ i2936) then (
bif decide (i2936 < (4 : Int)) then (
let i2943 : Int := (a2941 ((Int.toNat i2936)))
bif decide (0 ≤ i2936) then (
bif decide (i2936 < (4 : Int)) then (
let i2944 : Int := (a2942 ((Int.toNat i2936)))
bif decide (0 ≤ i2943) then (
bif decide (i2943 < (16 : Int)) then (
let a2945 : (Nat → Int) := (upd a2939 ((Int.toNat i2943)) i2944)
let i2946 : Int := addA .i64 i2936 1
rec (((), (), l2933, (), i2934, (), i2935, (), (), i2946, ()), (a2937, a2938, a2945, a2940, a2941, a2942, ()))) else none) else none) else none) else none) else none) else none) else (
κ0 (((), (), l2933, (), i2934, (), i2935, ()), (a2937, a2938, a2939, a2940, ())))
def C_102_16 {R : Type} (q_111 : Tp_111 R) (q_112 : Tp_112 R) (m_102_21 : Tl_102_21 R) (rec : Y14 → Option R) (x : Y14) (κ0 : ((Unit × Unit × (List Int) × Unit × Int × Unit) × Y9) → Option R) : Option R :=
let l2906 := x.1.2.2.1
let i2907 := x.1.2.2.2.2.1
let i2908 := x.1.2.2.2.2.2.2.1
let a2909 := x.2.1
let a2910 := x.2.2.1
let a2911 := x.2.2.2.1
let a2912 := x.2.2.2.2.1
bif (decide (i2908 < 8)) then (
q_111 ((i2908, ()), ()) (fun y2913 =>
let a2914 : (Nat → Int) := y2913
let i2915 : Int := (a2914 0)
bif decide (0 ≤ i2915) then (
bif decide (i2915 < (16 : Int)) then (
let i2916 : Int := (a2911 ((Int.toNat i2915)))
let i2917 : Int := (a2914 1)
bif decide (0 ≤ i2917) then (
bif decide (i2917 < (16 : Int)) then (
let i2918 : Int := (a2911 ((Int.toNat i2917)))
let i2919 : Int := (a2914 2)
bif decide (0 ≤ i2919) then (
bif decide (i2919 < (16 : Int)) then (
let i2920 : Int := (a2911 ((Int.toNat i2919)))
let i2921 : Int := (a2914 3)
bif decide (0 ≤ i2921) then (
bif decide (i2921 < (16 : Int)) then (
let i2922 : Int := (a2911 ((Int.toNat i2921)))
let a2923 : (Nat → Int) := (upd ((upd ((upd ((upd ((Sch.zero (.arr 4 (.int .u64)))) 0 i2916)) 1 i2918)) 2 i2920)) 3 i2922)
let i2924 : Int := mulA .i64 2 i2908
bif decide (0 ≤ i2924) then (
bif decide (i2924 < (16 : Int)) then (
let i2925 : Int := (a2912 ((Int.toNat i2924)))
bif decide (0 ≤ i2925) then (
bif decide (i2925 < ((List.length l2906) : Int)) then (
let p2926 : Int := (List.getD l2906 ((Int.toNat i2925)) (Sch.zero (.int .u64)))
let i2927 : Int := mulA .i64 2 i2908
let i2928 : Int := addA .i64 i2927 1
bif decide (0 ≤ i2928) then (
bif decide (i2928 < (16 : Int)) then (
let i2929 : Int := (a2912 ((Int.toNat i2928)))
bif decide (0 ≤ i2929) then (
bif decide (i2929 < ((List.length l2906) : Int)) then (
let p2930 : Int := (List.getD l2906 ((Int.toNat i2929)) (Sch.zero (.int .u64)))
q_112 ((a2923, p2926, p2930, ()), ()) (fun y2931 =>
let a2932 := y2931
m_102_21 (((), (), l2906, (), i2907, (), i2908, (), (), 0, ()), (a2909, a2910, a2911, a2912, a2914, a2932, ())) (fun y2947 =>
let l2948 := y2947.1.2.2.1
let i2949 := y2947.1.2.2.2.2.1
let i2950 := y2947.1.2.2.2.2.2.2.1
let a2951 := y2947.2.1
let a2952 := y2947.2.2.1
let a2953 := y2947.2.2.2.1
let a2954 := y2947.2.2.2.2.1
let i2955 : Int := addA .i64 i2950 1
rec (((), (), l2948, (), i2949, (), i2955, ()), (a2951, a2952, a2953, a2954, ()))))) else none) else none) else none) else none) else none) else none) else none) else none) else none) else none) else none) else none) else none) else none) else none) else none)) else (
κ0 (((), (), l2906, (), i2907, ()), (a2909, a2910, a2911, ())))
def C_102_12 {R : Type} (q_110 : Tp_110 R) (m_102_16 : Tl_102_16 R) (rec : ((Unit × Unit × (List Int) × Unit × Int × Unit) × Y9) → Option R) (x : ((Unit × Unit × (List Int) × Unit × Int × Unit) × Y9)) (κ0 : ((Unit × Unit × Unit × Unit) × Y9) → Option R) : Option R :=
let l2899 := x.1.2.2.1
let i2900 := x.1.2.2.2.2.1
let a2901 := x.2.1
let a2902 := x.2.2.1
let a2903 := x.2.2.2.1
bif (decide (i2900 < 12)) then (
q_110 ((i2900, ()), ()) (fun y2904 =>
let a2905 : (Nat → Int) := y2904
m_102_16 (((), (), l2899, (), i2900, (), 0, ()), (a2901, a2902, a2903, a2905, ())) (fun y2956 =>
let l2957 := y2956.1.2.2.1
let i2958 := y2956.1.2.2.2.2.1
let a2959 := y2956.2.1
let a2960 := y2956.2.2.1
let a2961 := y2956.2.2.2.1
let i2962 : Int := addA .i64 i2958 1
rec (((), (), l2957, (), i2962, ()), (a2959, a2960, a2961, ()))))) else (
κ0 (((), (), (), ()), (a2901, a2902, a2903, ())))
def C_102_25 {R : Type} (rec : ((Unit × Unit × Unit × Int × Unit) × Y9) → Option R) (x : ((Unit × Unit × Unit × Int × Unit) × Y9)) (κ0 : ((Unit × Unit × Unit) × Y6) → Option R) : Option R :=
let i2967 := x.1.2.2.2.1
let a2968 := x.2.1
let a2969 := x.2.2.1
let a2970 := x.2.2.2.1
bif (decide (i2967 < 8)) then (
bif decide (0 ≤ i2967) then (
bif decide (i2967 < (8 : Int)) then (
let i2971 : Int := (a2968 ((Int.toNat i2967)))
bif decide (0 ≤ i2967) then (
bif decide (i2967 < (16 : Int)) then (
let i2972 : Int := (a2970 ((Int.toNat i2967)))
let i2973 : Int := xorA .u64 i2971 i2972
let i2974 : Int := addA .i64 i2967 8
bif decide (0 ≤ i2974) then (
bif decide (i2974 < (16 : Int)) then (
let i2975 : Int := (a2970 ((Int.toNat i2974)))
let i2976 : Int := xorA .u64 i2973 i2975
bif decide (0 ≤ i2967) then (
bif decide (i2967 < (8 : Int)) then (
let a2977 : (Nat → Int) := (upd a2968 ((Int.toNat i2967)) i2976)
let i2978 : Int := addA .i64 i2967 1
rec (((), (), (), i2978, ()), (a2977, a2969, a2970, ()))) else none) else none) else none) else none) else none) else none) else none) else none) else (
κ0 (((), (), ()), (a2968, a2969, ())))
def B_102_4 {R : Type} (N : Nat) (rec : ((Int × Bool × Unit × Unit × Unit × (List Int) × Unit × Int × Unit) × ((Nat → Int) × (Nat → Int) × (Nat → Int) × (Nat → Int) × Unit)) → Option R) (x : ((Int × Bool × Unit × Unit × Unit × (List Int) × Unit × Int × Unit) × ((Nat → Int) × (Nat → Int) × (Nat → Int) × (Nat → Int) × Unit))) (κ0 : ((Int × Bool × Unit × Unit × (List Int) × Unit × Unit) × Y9) → Option R) : Option R := C_102_4 rec x κ0
def l_102_4 {R : Type} (N : Nat) : Nat → ((Int × Bool × Unit × Unit × Unit × (List Int) × Unit × Int × Unit) × ((Nat → Int) × (Nat → Int) × (Nat → Int) × (Nat → Int) × Unit)) → (((Int × Bool × Unit × Unit × (List Int) × Unit × Unit) × Y9) → Option R) → Option R
  | 0, _, _ => none
  | n + 1, x, κ0 => B_102_4 N (fun y => l_102_4 N n y κ0) x κ0
def B_102_21 {R : Type} (N : Nat) (rec : Y21 → Option R) (x : Y21) (κ0 : Y14 → Option R) : Option R := C_102_21 rec x κ0
def l_102_21 {R : Type} (N : Nat) : Nat → Y21 → (Y14 → Option R) → Option R
  | 0, _, _ => none
  | n + 1, x, κ0 => B_102_21 N (fun y => l_102_21 N n y κ0) x κ0
def B_102_16 {R : Type} (N : Nat) (rec : Y14 → Option R) (x : Y14) (κ0 : ((Unit × Unit × (List Int) × Unit × Int × Unit) × Y9) → Option R) : Option R := C_102_16 (p_111 N) (p_112 N) (l_102_21 N N) rec x κ0
def l_102_16 {R : Type} (N : Nat) : Nat → Y14 → (((Unit × Unit × (List Int) × Unit × Int × Unit) × Y9) → Option R) → Option R
  | 0, _, _ => none
  | n + 1, x, κ0 => B_102_16 N (fun y => l_102_16 N n y κ0) x κ0
def B_102_12 {R : Type} (N : Nat) (rec : ((Unit × Unit × (List Int) × Unit × Int × Unit) × Y9) → Option R) (x : ((Unit × Unit × (List Int) × Unit × Int × Unit) × Y9)) (κ0 : ((Unit × Unit × Unit × Unit) × Y9) → Option R) : Option R := C_102_12 (p_110 N) (l_102_16 N N) rec x κ0
def l_102_12 {R : Type} (N : Nat) : Nat → ((Unit × Unit × (List Int) × Unit × Int × Unit) × Y9) → (((Unit × Unit × Unit × Unit) × Y9) → Option R) → Option R
  | 0, _, _ => none
  | n + 1, x, κ0 => B_102_12 N (fun y => l_102_12 N n y κ0) x κ0
def B_102_25 {R : Type} (N : Nat) (rec : ((Unit × Unit × Unit × Int × Unit) × Y9) → Option R) (x : ((Unit × Unit × Unit × Int × Unit) × Y9)) (κ0 : ((Unit × Unit × Unit) × Y6) → Option R) : Option R := C_102_25 rec x κ0
def l_102_25 {R : Type} (N : Nat) : Nat → ((Unit × Unit × Unit × Int × Unit) × Y9) → (((Unit × Unit × Unit) × Y6) → Option R) → Option R
  | 0, _, _ => none
  | n + 1, x, κ0 => B_102_25 N (fun y => l_102_25 N n y κ0) x κ0
def Q_102 {R : Type} (q_85 : Tp_85 R) (q_111 : Tp_111 R) (q_112 : Tp_112 R) (q_110 : Tp_110 R) (m_102_4 : Tl_102_4 R) (m_102_21 : Tl_102_21 R) (m_102_16 : Tl_102_16 R) (m_102_12 : Tl_102_12 R) (m_102_25 : Tl_102_25 R) (x : ((Nat → Int) × (Nat → Int) × ByteArray × Int × Bool × Unit) × (Unit)) (κ0 : (Nat → Int) → Option R) : Option R :=
let a2622 := x.1.1
let a2623 := x.1.2.1
let s2624 := x.1.2.2.1
let i2625 := x.1.2.2.2.1
let b2626 := x.1.2.2.2.2.1
bif decide (ByteArray.size s2624 ≤ maxI64) then (
let l2627 : (List Int) := strList s2624
q_85 (((), 8, ()), (l2627, ())) (fun y2685 =>
let l2686 := y2685.1.1
m_102_4 ((i2625, b2626, (), (), (), l2686, (), 0, ()), (a2622, a2623, (Sch.zero (.arr 8 (.int .u64))), (Sch.zero (.arr 16 (.int .u64))), ())) (fun y2703 =>
let i2704 := y2703.1.1
let b2705 := y2703.1.2.1
let l2706 := y2703.1.2.2.2.2.1
let a2707 := y2703.2.1
let a2708 := y2703.2.2.1
let a2709 := y2703.2.2.2.1
let i2710 : Int := (a2709 12)
let i2711 : Int := xorA .u64 i2710 i2704
let a2712 : (Nat → Int) := (upd a2709 12 i2711)
bif b2705 then (
let i2713 : Int := (a2712 14)
let i2714 : Int := subA .u64 18446744073709551615 i2713
let a2715 : (Nat → Int) := (upd a2712 14 i2714)
m_102_12 (((), (), l2706, (), 0, ()), (a2707, a2708, a2715, ())) (fun y2880 =>
let a2881 := y2880.2.1
let a2882 := y2880.2.2.1
let a2883 := y2880.2.2.2.1
m_102_25 (((), (), (), 0, ()), (a2881, a2882, a2883, ())) (fun y2896 =>
let a2897 := y2896.2.1
κ0 a2897))) else (
m_102_12 (((), (), l2706, (), 0, ()), (a2707, a2708, a2712, ())) (fun y2963 =>
let a2964 := y2963.2.1
let a2965 := y2963.2.2.1
let a2966 := y2963.2.2.2.1
m_102_25 (((), (), (), 0, ()), (a2964, a2965, a2966, ())) (fun y2979 =>
let a2980 := y2979.2.1
κ0 a2980)))))) else none
def p_102 {R : Type} (N : Nat) (x : ((Nat → Int) × (Nat → Int) × ByteArray × Int × Bool × Unit) × (Unit)) (κ0 : (Nat → Int) → Option R) : Option R := Q_102 (p_85 N) (p_111 N) (p_112 N) (p_110 N) (l_102_4 N N) (l_102_21 N N) (l_102_16 N N) (l_102_12 N N) (l_102_25 N N) x κ0
def EG_102 {R : Type} (q_85 : Tp_85 R) (q_111 : Tp_111 R) (q_112 : Tp_112 R) (q_110 : Tp_110 R) : Env R := ((((Env.base QQ LN AA).add 85 ap_85 hp_85 (fun (x : aden ap_85 × hden hp_85) k => q_85 x (fun y => k (Pat.inst (.tup (.fcons (.ros (.int .u64)) (.fcons (.bool) (.fnil)))) y.1) (instH J4 y.2)))).add 111 ap_111 hp_111 (fun (x : aden ap_111 × hden hp_111) k => q_111 x (fun y => k (Pat.inst (.vec (.int .i64) 4) y) (instH hp_111 x.2)))).add 112 ap_112 hp_112 (fun (x : aden ap_112 × hden hp_112) k => q_112 x (fun y => k (Pat.inst (.vec (.int .u64) 4) y) (instH hp_112 x.2)))).add 110 ap_110 hp_110 (fun (x : aden ap_110 × hden hp_110) k => q_110 x (fun y => k (Pat.inst (.vec (.int .i64) 16) y) (instH hp_110 x.2)))
def LG_102 {R : Type} (m_102_4 : Tl_102_4 R) (m_102_21 : Tl_102_21 R) (m_102_16 : Tl_102_16 R) (m_102_12 : Tl_102_12 R) (m_102_25 : Tl_102_25 R) : Loops R := (((((Loops.none).add 4 (loopBy 0 lv_102_4 pt_102_4 (fun x k => m_102_4 x (fun y => k (.exit 0) (px_102_4_0.inst y))))).add 21 (loopBy 0 lv_102_21 pt_102_21 (fun x k => m_102_21 x (fun y => k (.exit 6) (px_102_21_0.inst y))))).add 16 (loopBy 0 lv_102_16 pt_102_16 (fun x k => m_102_16 x (fun y => k (.exit 4) (px_102_16_0.inst y))))).add 12 (loopBy 0 lv_102_12 pt_102_12 (fun x k => m_102_12 x (fun y => k (.exit 2) (px_102_12_0.inst y))))).add 25 (loopBy 0 lv_102_25 pt_102_25 (fun x k => m_102_25 x (fun y => k (.exit 8) (px_102_25_0.inst y))))
def E_102 {R : Type} (N : Nat) : Env R := EG_102 (p_85 N) (p_111 N) (p_112 N) (p_110 N)
theorem eok_102 {R : Type} (N : Nat) : EK Try.prog (E_102 (R := R) N) := ek_add (ek_add (ek_add (ek_add (ek_base _ _ _) (good_85 N)) (good_111 N)) (good_112 N)) (good_110 N)
def L_102 {R : Type} (N : Nat) : Loops R := LG_102 (l_102_4 N N) (l_102_21 N N) (l_102_16 N N) (l_102_12 N N) (l_102_25 N N)
theorem gstep_102_4 {R : Type} (q_85 : Tp_85 R) (q_111 : Tp_111 R) (q_112 : Tp_112 R) (q_110 : Tp_110 R) (m_102_4 : Tl_102_4 R) (m_102_21 : Tl_102_21 R) (m_102_16 : Tl_102_16 R) (m_102_12 : Tl_102_12 R) (m_102_25 : Tl_102_25 R) (n : Nat) (x : pt_102_4.den) (k : Exit → St → Option R) : iter 0 lv_102_4 lo_102_4 (aexec TT (EG_102 q_85 q_111 q_112 q_110) (drawAny TT WW) (LG_102 m_102_4 m_102_21 m_102_16 m_102_12 m_102_25) (loopAt 4 (bodyOf Try.f102))) (n + 1) (pt_102_4.inst x) k = C_102_4 (fun y => iter 0 lv_102_4 lo_102_4 (aexec TT (EG_102 q_85 q_111 q_112 q_110) (drawAny TT WW) (LG_102 m_102_4 m_102_21 m_102_16 m_102_12 m_102_25) (loopAt 4 (bodyOf Try.f102))) n (pt_102_4.inst y) k) x (fun y => k (.exit 0) (px_102_4_0.inst y)) := by kernel_rfl
theorem step_102_4 {R : Type} (N n : Nat) (x : pt_102_4.den) (k : Exit → St → Option R) : iter 0 lv_102_4 lo_102_4 (aexec TT (E_102 (R := R) N) (drawAny TT WW) (L_102 N) (loopAt 4 (bodyOf Try.f102))) (n + 1) (pt_102_4.inst x) k = B_102_4 N (fun y => iter 0 lv_102_4 lo_102_4 (aexec TT (E_102 (R := R) N) (drawAny TT WW) (L_102 N) (loopAt 4 (bodyOf Try.f102))) n (pt_102_4.inst y) k) x (fun y => k (.exit 0) (px_102_4_0.inst y)) := (gstep_102_4 (p_85 N) (p_111 N) (p_112 N) (p_110 N) (l_102_4 N N) (l_102_21 N N) (l_102_16 N N) (l_102_12 N N) (l_102_25 N N) n x k).trans (by kernel_rfl)
theorem eq_102_4 {R : Type} (N : Nat) : ∀ (n : Nat) (x : pt_102_4.den) (k : Exit → St → Option R), iter 0 lv_102_4 lo_102_4 (aexec TT (E_102 (R := R) N) (drawAny TT WW) (L_102 N) (loopAt 4 (bodyOf Try.f102))) n (pt_102_4.inst x) k = l_102_4 N n x (fun y => k (.exit 0) (px_102_4_0.inst y)) :=
  iter_eq (K := Exit → St → Option R) (ks := fun k => k) (l := fun n (x : pt_102_4.den) k => l_102_4 N n x (fun y => k (.exit 0) (px_102_4_0.inst y))) (B := fun (rec : pt_102_4.den → Option R) (x : pt_102_4.den) k => B_102_4 N rec x (fun y => k (.exit 0) (px_102_4_0.inst y))) (fun _ _ => rfl) (fun _ _ _ => rfl) (fun n x k => step_102_4 N n x k)
theorem rounds_102_4 {R : Type} (N : Nat) : Rounds 0 TT (E_102 (R := R) N) (drawAny TT WW) (L_102 N) 4 (loopAt 4 (bodyOf Try.f102)) :=
  rounds_of (p := pt_102_4) (l := fun (x : pt_102_4.den) k => l_102_4 N N x (fun y => k (.exit 0) (px_102_4_0.inst y))) (fun s k => rfl) (fun x k => eq_102_4 N N x k)
theorem gstep_102_21 {R : Type} (q_85 : Tp_85 R) (q_111 : Tp_111 R) (q_112 : Tp_112 R) (q_110 : Tp_110 R) (m_102_4 : Tl_102_4 R) (m_102_21 : Tl_102_21 R) (m_102_16 : Tl_102_16 R) (m_102_12 : Tl_102_12 R) (m_102_25 : Tl_102_25 R) (n : Nat) (x : pt_102_21.den) (k : Exit → St → Option R) : iter 0 lv_102_21 lo_102_21 (aexec TT (EG_102 q_85 q_111 q_112 q_110) (drawAny TT WW) (LG_102 m_102_4 m_102_21 m_102_16 m_102_12 m_102_25) (loopAt 21 (bodyOf Try.f102))) (n + 1) (pt_102_21.inst x) k = C_102_21 (fun y => iter 0 lv_102_21 lo_102_21 (aexec TT (EG_102 q_85 q_111 q_112 q_110) (drawAny TT WW) (LG_102 m_102_4 m_102_21 m_102_16 m_102_12 m_102_25) (loopAt 21 (bodyOf Try.f102))) n (pt_102_21.inst y) k) x (fun y => k (.exit 6) (px_102_21_0.inst y)) := by kernel_rfl
theorem step_102_21 {R : Type} (N n : Nat) (x : pt_102_21.den) (k : Exit → St → Option R) : iter 0 lv_102_21 lo_102_21 (aexec TT (E_102 (R := R) N) (drawAny TT WW) (L_102 N) (loopAt 21 (bodyOf Try.f102))) (n + 1) (pt_102_21.inst x) k = B_102_21 N (fun y => iter 0 lv_102_21 lo_102_21 (aexec TT (E_102 (R := R) N) (drawAny TT WW) (L_102 N) (loopAt 21 (bodyOf Try.f102))) n (pt_102_21.inst y) k) x (fun y => k (.exit 6) (px_102_21_0.inst y)) := (gstep_102_21 (p_85 N) (p_111 N) (p_112 N) (p_110 N) (l_102_4 N N) (l_102_21 N N) (l_102_16 N N) (l_102_12 N N) (l_102_25 N N) n x k).trans (by kernel_rfl)
theorem eq_102_21 {R : Type} (N : Nat) : ∀ (n : Nat) (x : pt_102_21.den) (k : Exit → St → Option R), iter 0 lv_102_21 lo_102_21 (aexec TT (E_102 (R := R) N) (drawAny TT WW) (L_102 N) (loopAt 21 (bodyOf Try.f102))) n (pt_102_21.inst x) k = l_102_21 N n x (fun y => k (.exit 6) (px_102_21_0.inst y)) :=
  iter_eq (K := Exit → St → Option R) (ks := fun k => k) (l := fun n (x : pt_102_21.den) k => l_102_21 N n x (fun y => k (.exit 6) (px_102_21_0.inst y))) (B := fun (rec : pt_102_21.den → Option R) (x : pt_102_21.den) k => B_102_21 N rec x (fun y => k (.exit 6) (px_102_21_0.inst y))) (fun _ _ => rfl) (fun _ _ _ => rfl) (fun n x k => step_102_21 N n x k)
theorem rounds_102_21 {R : Type} (N : Nat) : Rounds 0 TT (E_102 (R := R) N) (drawAny TT WW) (L_102 N) 21 (loopAt 21 (bodyOf Try.f102)) :=
  rounds_of (p := pt_102_21) (l := fun (x : pt_102_21.den) k => l_102_21 N N x (fun y => k (.exit 6) (px_102_21_0.inst y))) (fun s k => rfl) (fun x k => eq_102_21 N N x k)
theorem gstep_102_16 {R : Type} (q_85 : Tp_85 R) (q_111 : Tp_111 R) (q_112 : Tp_112 R) (q_110 : Tp_110 R) (m_102_4 : Tl_102_4 R) (m_102_21 : Tl_102_21 R) (m_102_16 : Tl_102_16 R) (m_102_12 : Tl_102_12 R) (m_102_25 : Tl_102_25 R) (n : Nat) (x : pt_102_16.den) (k : Exit → St → Option R) : iter 0 lv_102_16 lo_102_16 (aexec TT (EG_102 q_85 q_111 q_112 q_110) (drawAny TT WW) (LG_102 m_102_4 m_102_21 m_102_16 m_102_12 m_102_25) (loopAt 16 (bodyOf Try.f102))) (n + 1) (pt_102_16.inst x) k = C_102_16 q_111 q_112 m_102_21 (fun y => iter 0 lv_102_16 lo_102_16 (aexec TT (EG_102 q_85 q_111 q_112 q_110) (drawAny TT WW) (LG_102 m_102_4 m_102_21 m_102_16 m_102_12 m_102_25) (loopAt 16 (bodyOf Try.f102))) n (pt_102_16.inst y) k) x (fun y => k (.exit 4) (px_102_16_0.inst y)) := by kernel_rfl
theorem step_102_16 {R : Type} (N n : Nat) (x : pt_102_16.den) (k : Exit → St → Option R) : iter 0 lv_102_16 lo_102_16 (aexec TT (E_102 (R := R) N) (drawAny TT WW) (L_102 N) (loopAt 16 (bodyOf Try.f102))) (n + 1) (pt_102_16.inst x) k = B_102_16 N (fun y => iter 0 lv_102_16 lo_102_16 (aexec TT (E_102 (R := R) N) (drawAny TT WW) (L_102 N) (loopAt 16 (bodyOf Try.f102))) n (pt_102_16.inst y) k) x (fun y => k (.exit 4) (px_102_16_0.inst y)) := (gstep_102_16 (p_85 N) (p_111 N) (p_112 N) (p_110 N) (l_102_4 N N) (l_102_21 N N) (l_102_16 N N) (l_102_12 N N) (l_102_25 N N) n x k).trans (by kernel_rfl)
theorem eq_102_16 {R : Type} (N : Nat) : ∀ (n : Nat) (x : pt_102_16.den) (k : Exit → St → Option R), iter 0 lv_102_16 lo_102_16 (aexec TT (E_102 (R := R) N) (drawAny TT WW) (L_102 N) (loopAt 16 (bodyOf Try.f102))) n (pt_102_16.inst x) k = l_102_16 N n x (fun y => k (.exit 4) (px_102_16_0.inst y)) :=
  iter_eq (K := Exit → St → Option R) (ks := fun k => k) (l := fun n (x : pt_102_16.den) k => l_102_16 N n x (fun y => k (.exit 4) (px_102_16_0.inst y))) (B := fun (rec : pt_102_16.den → Option R) (x : pt_102_16.den) k => B_102_16 N rec x (fun y => k (.exit 4) (px_102_16_0.inst y))) (fun _ _ => rfl) (fun _ _ _ => rfl) (fun n x k => step_102_16 N n x k)
theorem rounds_102_16 {R : Type} (N : Nat) : Rounds 0 TT (E_102 (R := R) N) (drawAny TT WW) (L_102 N) 16 (loopAt 16 (bodyOf Try.f102)) :=
  rounds_of (p := pt_102_16) (l := fun (x : pt_102_16.den) k => l_102_16 N N x (fun y => k (.exit 4) (px_102_16_0.inst y))) (fun s k => rfl) (fun x k => eq_102_16 N N x k)
theorem gstep_102_12 {R : Type} (q_85 : Tp_85 R) (q_111 : Tp_111 R) (q_112 : Tp_112 R) (q_110 : Tp_110 R) (m_102_4 : Tl_102_4 R) (m_102_21 : Tl_102_21 R) (m_102_16 : Tl_102_16 R) (m_102_12 : Tl_102_12 R) (m_102_25 : Tl_102_25 R) (n : Nat) (x : pt_102_12.den) (k : Exit → St → Option R) : iter 0 lv_102_12 lo_102_12 (aexec TT (EG_102 q_85 q_111 q_112 q_110) (drawAny TT WW) (LG_102 m_102_4 m_102_21 m_102_16 m_102_12 m_102_25) (loopAt 12 (bodyOf Try.f102))) (n + 1) (pt_102_12.inst x) k = C_102_12 q_110 m_102_16 (fun y => iter 0 lv_102_12 lo_102_12 (aexec TT (EG_102 q_85 q_111 q_112 q_110) (drawAny TT WW) (LG_102 m_102_4 m_102_21 m_102_16 m_102_12 m_102_25) (loopAt 12 (bodyOf Try.f102))) n (pt_102_12.inst y) k) x (fun y => k (.exit 2) (px_102_12_0.inst y)) := by kernel_rfl
theorem step_102_12 {R : Type} (N n : Nat) (x : pt_102_12.den) (k : Exit → St → Option R) : iter 0 lv_102_12 lo_102_12 (aexec TT (E_102 (R := R) N) (drawAny TT WW) (L_102 N) (loopAt 12 (bodyOf Try.f102))) (n + 1) (pt_102_12.inst x) k = B_102_12 N (fun y => iter 0 lv_102_12 lo_102_12 (aexec TT (E_102 (R := R) N) (drawAny TT WW) (L_102 N) (loopAt 12 (bodyOf Try.f102))) n (pt_102_12.inst y) k) x (fun y => k (.exit 2) (px_102_12_0.inst y)) := (gstep_102_12 (p_85 N) (p_111 N) (p_112 N) (p_110 N) (l_102_4 N N) (l_102_21 N N) (l_102_16 N N) (l_102_12 N N) (l_102_25 N N) n x k).trans (by kernel_rfl)
theorem eq_102_12 {R : Type} (N : Nat) : ∀ (n : Nat) (x : pt_102_12.den) (k : Exit → St → Option R), iter 0 lv_102_12 lo_102_12 (aexec TT (E_102 (R := R) N) (drawAny TT WW) (L_102 N) (loopAt 12 (bodyOf Try.f102))) n (pt_102_12.inst x) k = l_102_12 N n x (fun y => k (.exit 2) (px_102_12_0.inst y)) :=
  iter_eq (K := Exit → St → Option R) (ks := fun k => k) (l := fun n (x : pt_102_12.den) k => l_102_12 N n x (fun y => k (.exit 2) (px_102_12_0.inst y))) (B := fun (rec : pt_102_12.den → Option R) (x : pt_102_12.den) k => B_102_12 N rec x (fun y => k (.exit 2) (px_102_12_0.inst y))) (fun _ _ => rfl) (fun _ _ _ => rfl) (fun n x k => step_102_12 N n x k)
theorem rounds_102_12 {R : Type} (N : Nat) : Rounds 0 TT (E_102 (R := R) N) (drawAny TT WW) (L_102 N) 12 (loopAt 12 (bodyOf Try.f102)) :=
  rounds_of (p := pt_102_12) (l := fun (x : pt_102_12.den) k => l_102_12 N N x (fun y => k (.exit 2) (px_102_12_0.inst y))) (fun s k => rfl) (fun x k => eq_102_12 N N x k)
theorem gstep_102_25 {R : Type} (q_85 : Tp_85 R) (q_111 : Tp_111 R) (q_112 : Tp_112 R) (q_110 : Tp_110 R) (m_102_4 : Tl_102_4 R) (m_102_21 : Tl_102_21 R) (m_102_16 : Tl_102_16 R) (m_102_12 : Tl_102_12 R) (m_102_25 : Tl_102_25 R) (n : Nat) (x : pt_102_25.den) (k : Exit → St → Option R) : iter 0 lv_102_25 lo_102_25 (aexec TT (EG_102 q_85 q_111 q_112 q_110) (drawAny TT WW) (LG_102 m_102_4 m_102_21 m_102_16 m_102_12 m_102_25) (loopAt 25 (bodyOf Try.f102))) (n + 1) (pt_102_25.inst x) k = C_102_25 (fun y => iter 0 lv_102_25 lo_102_25 (aexec TT (EG_102 q_85 q_111 q_112 q_110) (drawAny TT WW) (LG_102 m_102_4 m_102_21 m_102_16 m_102_12 m_102_25) (loopAt 25 (bodyOf Try.f102))) n (pt_102_25.inst y) k) x (fun y => k (.exit 8) (px_102_25_0.inst y)) := by kernel_rfl
theorem step_102_25 {R : Type} (N n : Nat) (x : pt_102_25.den) (k : Exit → St → Option R) : iter 0 lv_102_25 lo_102_25 (aexec TT (E_102 (R := R) N) (drawAny TT WW) (L_102 N) (loopAt 25 (bodyOf Try.f102))) (n + 1) (pt_102_25.inst x) k = B_102_25 N (fun y => iter 0 lv_102_25 lo_102_25 (aexec TT (E_102 (R := R) N) (drawAny TT WW) (L_102 N) (loopAt 25 (bodyOf Try.f102))) n (pt_102_25.inst y) k) x (fun y => k (.exit 8) (px_102_25_0.inst y)) := (gstep_102_25 (p_85 N) (p_111 N) (p_112 N) (p_110 N) (l_102_4 N N) (l_102_21 N N) (l_102_16 N N) (l_102_12 N N) (l_102_25 N N) n x k).trans (by kernel_rfl)
theorem eq_102_25 {R : Type} (N : Nat) : ∀ (n : Nat) (x : pt_102_25.den) (k : Exit → St → Option R), iter 0 lv_102_25 lo_102_25 (aexec TT (E_102 (R := R) N) (drawAny TT WW) (L_102 N) (loopAt 25 (bodyOf Try.f102))) n (pt_102_25.inst x) k = l_102_25 N n x (fun y => k (.exit 8) (px_102_25_0.inst y)) :=
  iter_eq (K := Exit → St → Option R) (ks := fun k => k) (l := fun n (x : pt_102_25.den) k => l_102_25 N n x (fun y => k (.exit 8) (px_102_25_0.inst y))) (B := fun (rec : pt_102_25.den → Option R) (x : pt_102_25.den) k => B_102_25 N rec x (fun y => k (.exit 8) (px_102_25_0.inst y))) (fun _ _ => rfl) (fun _ _ _ => rfl) (fun n x k => step_102_25 N n x k)
theorem rounds_102_25 {R : Type} (N : Nat) : Rounds 0 TT (E_102 (R := R) N) (drawAny TT WW) (L_102 N) 25 (loopAt 25 (bodyOf Try.f102)) :=
  rounds_of (p := pt_102_25) (l := fun (x : pt_102_25.den) k => l_102_25 N N x (fun y => k (.exit 8) (px_102_25_0.inst y))) (fun s k => rfl) (fun x k => eq_102_25 N N x k)
theorem loops_102 : loopsIn (bodyOf Try.f102) = [(4, loopAt 4 (bodyOf Try.f102)), (12, loopAt 12 (bodyOf Try.f102)), (16, loopAt 16 (bodyOf Try.f102)), (21, loopAt 21 (bodyOf Try.f102)), (25, loopAt 25 (bodyOf Try.f102))] := by kernel_rfl
theorem lok_102 {R : Type} (N : Nat) : LOK 0 TT (E_102 (R := R) N) (drawAny TT WW) (L_102 N) (bodyOf Try.f102) := loops_all loops_102 (by
  simp only [List.forall_mem_cons, List.not_mem_nil, false_implies, implies_true, and_true]
  exact ⟨rounds_102_4 N, rounds_102_12 N, rounds_102_16 N, rounds_102_21 N, rounds_102_25 N⟩)
theorem grun_102 {R : Type} (q_85 : Tp_85 R) (q_111 : Tp_111 R) (q_112 : Tp_112 R) (q_110 : Tp_110 R) (m_102_4 : Tl_102_4 R) (m_102_21 : Tl_102_21 R) (m_102_16 : Tl_102_16 R) (m_102_12 : Tl_102_12 R) (m_102_25 : Tl_102_25 R) (x : aden ap_102 × hden hp_102) (k : KF R) : fnrun TT (EG_102 q_85 q_111 q_112 q_110) (drawAny TT WW) (LG_102 m_102_4 m_102_21 m_102_16 m_102_12 m_102_25) true Try.f102 (instA ap_102 x.1) (instH hp_102 x.2) k = Q_102 q_85 q_111 q_112 q_110 m_102_4 m_102_21 m_102_16 m_102_12 m_102_25 x (fun y => k (Pat.inst (.vec (.int .u64) 8) y) (instH hp_102 x.2)) := by kernel_rfl
theorem run_102 {R : Type} (N : Nat) (x : aden ap_102 × hden hp_102) (k : KF R) : fnrun TT (E_102 (R := R) N) (drawAny TT WW) (L_102 N) true Try.f102 (instA ap_102 x.1) (instH hp_102 x.2) k = p_102 N x (fun y => k (Pat.inst (.vec (.int .u64) 8) y) (instH hp_102 x.2)) := (grun_102 (p_85 N) (p_111 N) (p_112 N) (p_110 N) (l_102_4 N N) (l_102_21 N N) (l_102_16 N N) (l_102_12 N N) (l_102_25 N N) x k).trans (by kernel_rfl)
theorem good_102 {R : Type} (N : Nat) : GD (X := R) Try.prog QQ AA 102 ap_102 hp_102 (fun (x : aden ap_102 × hden hp_102) k => p_102 N x (fun y => k (Pat.inst (.vec (.int .u64) 8) y) (instH hp_102 x.2))) :=
  gd_quiet (E := E_102 N) (p := fun (x : aden ap_102 × hden hp_102) κ => p_102 N x (fun y => κ (Pat.inst (.vec (.int .u64) 8) y))) mixed tyok (eok_102 N) Try.func102 (by kernel_rfl) (by kernel_rfl) (lok_102 N) (fun x k => run_102 N x k)

def lv_87_3 : Live := [(0, none), (3, some (.int .u8, 5)), (4, none)]
def pt_87_3 : SPat := ⟨[(0, .int .u64), (3, .sl 0), (4, .int .i64)], J4⟩
def px_87_3_0 : SPat := ⟨[(3, .sl 0)], J4⟩
def lo_87_3 : Exit → Live
  | .exit 0 => [(3, none)]
  | _ => []
def ap_87 : List Pat := [.int .u64]
def hp_87 : List (Option (Pat × Nat)) := []
abbrev Tl_87_3 (R : Type) : Type := ((Int × Unit × Int × Unit) × ((List Int) × Unit)) → (Y24 → Option R) → Option R
abbrev Tp_87 (R : Type) : Type := (Int × Unit) × (Unit) → ((List Int) → Option R) → Option R
def C_87_3 {R : Type} (rec : ((Int × Unit × Int × Unit) × ((List Int) × Unit)) → Option R) (x : ((Int × Unit × Int × Unit) × ((List Int) × Unit))) (κ0 : Y24 → Option R) : Option R :=
let i3010 := x.1.1
let i3011 := x.1.2.2.1
let l3012 := x.2.1
bif (decide (i3011 < 8)) then (
let i3013 : Int := remA .u64 i3010 256
let i3014 : Int := IntKind.wrap .u8 i3013
let l3015 : (List Int) := [i3014]
bif (decide ((List.length l3012 + List.length l3015) * 1 ≤ 140737488355328) && true) then (
let l3016 : (List Int) := (l3012 ++ l3015)
let i3017 : Int := quoA .u64 i3010 256
let i3018 : Int := addA .i64 i3011 1
rec ((i3017, (), i3018, ()), (l3016, ()))) else none) else (
κ0 (((), ()), x.2))
def B_87_3 {R : Type} (N : Nat) (rec : ((Int × Unit × Int × Unit) × ((List Int) × Unit)) → Option R) (x : ((Int × Unit × Int × Unit) × ((List Int) × Unit))) (κ0 : Y24 → Option R) : Option R := C_87_3 rec x κ0
def l_87_3 {R : Type} (N : Nat) : Nat → ((Int × Unit × Int × Unit) × ((List Int) × Unit)) → (Y24 → Option R) → Option R
  | 0, _, _ => none
  | n + 1, x, κ0 => B_87_3 N (fun y => l_87_3 N n y κ0) x κ0
def Q_87 {R : Type} (m_87_3 : Tl_87_3 R) (x : (Int × Unit) × (Unit)) (κ0 : (List Int) → Option R) : Option R :=
let i3002 := x.1.1
m_87_3 ((i3002, (), 0, ()), ([], ())) (fun y3019 =>
let l3020 := y3019.2.1
κ0 l3020)
def p_87 {R : Type} (N : Nat) (x : (Int × Unit) × (Unit)) (κ0 : (List Int) → Option R) : Option R := Q_87 (l_87_3 N N) x κ0
def EG_87 {R : Type} : Env R := Env.base QQ LN AA
def LG_87 {R : Type} (m_87_3 : Tl_87_3 R) : Loops R := (Loops.none).add 3 (loopBy 0 lv_87_3 pt_87_3 (fun x k => m_87_3 x (fun y => k (.exit 0) (px_87_3_0.inst y))))
def E_87 {R : Type} (N : Nat) : Env R := EG_87
theorem eok_87 {R : Type} (N : Nat) : EK Try.prog (E_87 (R := R) N) := ek_base _ _ _
def L_87 {R : Type} (N : Nat) : Loops R := LG_87 (l_87_3 N N)
theorem gstep_87_3 {R : Type} (m_87_3 : Tl_87_3 R) (n : Nat) (x : pt_87_3.den) (k : Exit → St → Option R) : iter 0 lv_87_3 lo_87_3 (aexec TT (EG_87) (drawAny TT WW) (LG_87 m_87_3) (loopAt 3 (bodyOf Try.f87))) (n + 1) (pt_87_3.inst x) k = C_87_3 (fun y => iter 0 lv_87_3 lo_87_3 (aexec TT (EG_87) (drawAny TT WW) (LG_87 m_87_3) (loopAt 3 (bodyOf Try.f87))) n (pt_87_3.inst y) k) x (fun y => k (.exit 0) (px_87_3_0.inst y)) := by kernel_rfl
theorem step_87_3 {R : Type} (N n : Nat) (x : pt_87_3.den) (k : Exit → St → Option R) : iter 0 lv_87_3 lo_87_3 (aexec TT (E_87 (R := R) N) (drawAny TT WW) (L_87 N) (loopAt 3 (bodyOf Try.f87))) (n + 1) (pt_87_3.inst x) k = B_87_3 N (fun y => iter 0 lv_87_3 lo_87_3 (aexec TT (E_87 (R := R) N) (drawAny TT WW) (L_87 N) (loopAt 3 (bodyOf Try.f87))) n (pt_87_3.inst y) k) x (fun y => k (.exit 0) (px_87_3_0.inst y)) := (gstep_87_3 (l_87_3 N N) n x k).trans (by kernel_rfl)
theorem eq_87_3 {R : Type} (N : Nat) : ∀ (n : Nat) (x : pt_87_3.den) (k : Exit → St → Option R), iter 0 lv_87_3 lo_87_3 (aexec TT (E_87 (R := R) N) (drawAny TT WW) (L_87 N) (loopAt 3 (bodyOf Try.f87))) n (pt_87_3.inst x) k = l_87_3 N n x (fun y => k (.exit 0) (px_87_3_0.inst y)) :=
  iter_eq (K := Exit → St → Option R) (ks := fun k => k) (l := fun n (x : pt_87_3.den) k => l_87_3 N n x (fun y => k (.exit 0) (px_87_3_0.inst y))) (B := fun (rec : pt_87_3.den → Option R) (x : pt_87_3.den) k => B_87_3 N rec x (fun y => k (.exit 0) (px_87_3_0.inst y))) (fun _ _ => rfl) (fun _ _ _ => rfl) (fun n x k => step_87_3 N n x k)
theorem rounds_87_3 {R : Type} (N : Nat) : Rounds 0 TT (E_87 (R := R) N) (drawAny TT WW) (L_87 N) 3 (loopAt 3 (bodyOf Try.f87)) :=
  rounds_of (p := pt_87_3) (l := fun (x : pt_87_3.den) k => l_87_3 N N x (fun y => k (.exit 0) (px_87_3_0.inst y))) (fun s k => rfl) (fun x k => eq_87_3 N N x k)
theorem loops_87 : loopsIn (bodyOf Try.f87) = [(3, loopAt 3 (bodyOf Try.f87))] := by kernel_rfl
theorem lok_87 {R : Type} (N : Nat) : LOK 0 TT (E_87 (R := R) N) (drawAny TT WW) (L_87 N) (bodyOf Try.f87) := loops_all loops_87 (by
  simp only [List.forall_mem_cons, List.not_mem_nil, false_implies, implies_true, and_true]
  exact rounds_87_3 N)
theorem grun_87 {R : Type} (m_87_3 : Tl_87_3 R) (x : aden ap_87 × hden hp_87) (k : KF R) : fnrun TT (EG_87) (drawAny TT WW) (LG_87 m_87_3) true Try.f87 (instA ap_87 x.1) (instH hp_87 x.2) k = Q_87 m_87_3 x (fun y => k (Pat.inst (.ros (.int .u8)) y) (instH hp_87 x.2)) := by kernel_rfl
theorem run_87 {R : Type} (N : Nat) (x : aden ap_87 × hden hp_87) (k : KF R) : fnrun TT (E_87 (R := R) N) (drawAny TT WW) (L_87 N) true Try.f87 (instA ap_87 x.1) (instH hp_87 x.2) k = p_87 N x (fun y => k (Pat.inst (.ros (.int .u8)) y) (instH hp_87 x.2)) := (grun_87 (l_87_3 N N) x k).trans (by kernel_rfl)
theorem good_87 {R : Type} (N : Nat) : GD (X := R) Try.prog QQ AA 87 ap_87 hp_87 (fun (x : aden ap_87 × hden hp_87) k => p_87 N x (fun y => k (Pat.inst (.ros (.int .u8)) y) (instH hp_87 x.2))) :=
  gd_quiet (E := E_87 N) (p := fun (x : aden ap_87 × hden hp_87) κ => p_87 N x (fun y => κ (Pat.inst (.ros (.int .u8)) y))) mixed tyok (eok_87 N) Try.func87 (by kernel_rfl) (by kernel_rfl) (lok_87 N) (fun x k => run_87 N x k)

def lv_86_6 : Live := [(1, none), (3, none), (4, none), (9, none), (10, none)]
def pt_86_6 : SPat := ⟨[(1, .int .i64), (3, .str), (4, .ptr 0 []), (9, .ptr 1 []), (10, .int .i64)], [some (.vec (.int .u64) 8, 57), some (.vec (.int .u64) 8, 56)]⟩
def px_86_6_0 : SPat := ⟨[(1, .int .i64), (3, .str), (4, .ptr 0 []), (9, .ptr 1 []), (10, .int .i64)], [some (.vec (.int .u64) 8, 57), some (.vec (.int .u64) 8, 56)]⟩
def lo_86_6 : Exit → Live
  | .exit 0 => [(1, none), (3, none), (4, none), (9, none), (10, none)]
  | _ => []
def lv_86_12 : Live := [(1, none), (9, none), (11, some (.int .u8, 5)), (12, none)]
def pt_86_12 : SPat := ⟨[(1, .int .i64), (9, .ptr 0 []), (11, .sl 1), (12, .int .i64)], [some (.vec (.int .u64) 8, 56), some (.lst (.int .u8), 5)]⟩
def px_86_12_0 : SPat := ⟨[(1, .int .i64), (11, .sl 0)], J4⟩
def lo_86_12 : Exit → Live
  | .exit 2 => [(1, none), (11, none)]
  | _ => []
def ap_86 : List Pat := [.vec (.int .u64) 8, .int .i64, .str, .str]
def hp_86 : List (Option (Pat × Nat)) := []
abbrev Tl_86_6 (R : Type) : Type := ((Int × ByteArray × Unit × Unit × Int × Unit) × Y6) → (((Int × ByteArray × Unit × Unit × Int × Unit) × Y6) → Option R) → Option R
abbrev Tl_86_12 (R : Type) : Type := ((Int × Unit × Unit × Int × Unit) × ((Nat → Int) × (List Int) × Unit)) → (((Int × Unit × Unit) × ((List Int) × Unit)) → Option R) → Option R
abbrev Tp_86 (R : Type) : Type := ((Nat → Int) × Int × ByteArray × ByteArray × Unit) × (Unit) → (ByteArray → Option R) → Option R
def C_86_6 {R : Type} (q_102 : Tp_102 R) (rec : ((Int × ByteArray × Unit × Unit × Int × Unit) × Y6) → Option R) (x : ((Int × ByteArray × Unit × Unit × Int × Unit) × Y6)) (κ0 : ((Int × ByteArray × Unit × Unit × Int × Unit) × Y6) → Option R) : Option R :=
let i3037 := x.1.1
let s3038 := x.1.2.1
let i3039 := x.1.2.2.2.2.1
let a3040 := x.2.1
let a3041 := x.2.2.1
let i3042 : Int := ((ByteArray.size s3038 : Nat) : Int)
let i3043 : Int := subA .i64 i3042 i3039
bif (decide (i3043 > 128)) then (
let i3044 : Int := addA .i64 i3039 128
bif decide (0 ≤ i3044) then (
bif decide (i3044 ≤ ((ByteArray.size s3038 : Nat) : Int)) then (
bif decide (0 ≤ i3039) then (
bif decide (i3039 ≤ i3044) then (
let s3045 : ByteArray := ByteArray.extract s3038 ((Int.toNat i3039)) ((Int.toNat i3044))
let i3046 : Int := addA .i64 i3039 128
let i3047 : Int := IntKind.wrap .u64 i3046
q_102 ((a3040, a3041, s3045, i3047, false, ()), ()) (fun y3048 =>
let a3049 : (Nat → Int) := y3048
let i3050 : Int := addA .i64 i3039 128
rec ((i3037, s3038, (), (), i3050, ()), (a3040, a3049, ())))) else none) else none) else none) else none) else (
κ0 ((i3037, s3038, (), (), i3039, ()), (a3040, a3041, ())))
def C_86_12 {R : Type} (q_87 : Tp_87 R) (rec : ((Int × Unit × Unit × Int × Unit) × ((Nat → Int) × (List Int) × Unit)) → Option R) (x : ((Int × Unit × Unit × Int × Unit) × ((Nat → Int) × (List Int) × Unit))) (κ0 : ((Int × Unit × Unit) × ((List Int) × Unit)) → Option R) : Option R :=
let i3064 := x.1.1
let i3065 := x.1.2.2.2.1
let a3066 := x.2.1
let l3067 := x.2.2.1
bif (decide (i3065 < 8)) then (
bif decide (0 ≤ i3065) then (
bif decide (i3065 < (8 : Int)) then (
let i3068 : Int := (a3066 ((Int.toNat i3065)))
q_87 ((i3068, ()), ()) (fun y3069 =>
let l3070 : (List Int) := y3069
bif (decide ((List.length l3067 + List.length l3070) * 1 ≤ 140737488355328) && true) then (
let l3071 : (List Int) := (l3067 ++ l3070)
let i3072 : Int := addA .i64 i3065 1
rec ((i3064, (), (), i3072, ()), (a3066, l3071, ()))) else none)) else none) else none) else (
κ0 ((i3064, (), ()), x.2.2))
def B_86_6 {R : Type} (N : Nat) (rec : ((Int × ByteArray × Unit × Unit × Int × Unit) × Y6) → Option R) (x : ((Int × ByteArray × Unit × Unit × Int × Unit) × Y6)) (κ0 : ((Int × ByteArray × Unit × Unit × Int × Unit) × Y6) → Option R) : Option R := C_86_6 (p_102 N) rec x κ0
def l_86_6 {R : Type} (N : Nat) : Nat → ((Int × ByteArray × Unit × Unit × Int × Unit) × Y6) → (((Int × ByteArray × Unit × Unit × Int × Unit) × Y6) → Option R) → Option R
  | 0, _, _ => none
  | n + 1, x, κ0 => B_86_6 N (fun y => l_86_6 N n y κ0) x κ0
def B_86_12 {R : Type} (N : Nat) (rec : ((Int × Unit × Unit × Int × Unit) × ((Nat → Int) × (List Int) × Unit)) → Option R) (x : ((Int × Unit × Unit × Int × Unit) × ((Nat → Int) × (List Int) × Unit))) (κ0 : ((Int × Unit × Unit) × ((List Int) × Unit)) → Option R) : Option R := C_86_12 (p_87 N) rec x κ0
def l_86_12 {R : Type} (N : Nat) : Nat → ((Int × Unit × Unit × Int × Unit) × ((Nat → Int) × (List Int) × Unit)) → (((Int × Unit × Unit) × ((List Int) × Unit)) → Option R) → Option R
  | 0, _, _ => none
  | n + 1, x, κ0 => B_86_12 N (fun y => l_86_12 N n y κ0) x κ0
def Q_86 {R : Type} (q_101 : Tp_101 R) (q_102 : Tp_102 R) (q_87 : Tp_87 R) (m_86_6 : Tl_86_6 R) (m_86_12 : Tl_86_12 R) (x : ((Nat → Int) × Int × ByteArray × ByteArray × Unit) × (Unit)) (κ0 : ByteArray → Option R) : Option R :=
let a2587 := x.1.1
let i2588 := x.1.2.1
let s2589 := x.1.2.2.1
let s2590 := x.1.2.2.2.1
let i2591 : Int := (a2587 0)
let i2592 : Int := ((ByteArray.size s2589 : Nat) : Int)
let i2593 : Int := IntKind.wrap .u64 i2592
let i2594 : Int := mulA .u64 256 i2593
let i2595 : Int := addA .u64 16842752 i2594
let i2596 : Int := IntKind.wrap .u64 i2588
let i2597 : Int := addA .u64 i2595 i2596
let i2598 : Int := xorA .u64 i2591 i2597
let a2599 : (Nat → Int) := (upd a2587 0 i2598)
bif (!eqS s2589 (⟨#[]⟩)) then (
q_101 ((s2589, 128, ()), ()) (fun y2608 =>
let s2609 : ByteArray := y2608
bif decide (ByteArray.size s2609 + ByteArray.size s2590 ≤ maxI64) then (
let s2610 : ByteArray := (s2609 ++ s2590)
m_86_6 ((i2588, s2610, (), (), 0, ()), (a2587, a2599, ())) (fun y2985 =>
let i2986 := y2985.1.1
let s2987 := y2985.1.2.1
let i2988 := y2985.1.2.2.2.2.1
let a2989 := y2985.2.1
let a2990 := y2985.2.2.1
bif decide (0 ≤ ((ByteArray.size s2987 : Nat) : Int)) then (
bif decide (((ByteArray.size s2987 : Nat) : Int) ≤ ((ByteArray.size s2987 : Nat) : Int)) then (
bif decide (0 ≤ i2988) then (
bif decide (i2988 ≤ ((ByteArray.size s2987 : Nat) : Int)) then (
let s2991 : ByteArray := ByteArray.extract s2987 ((Int.toNat i2988)) (ByteArray.size s2987)
q_101 ((s2991, 128, ()), ()) (fun y2992 =>
let s2993 := y2992
let i2994 : Int := ((ByteArray.size s2987 : Nat) : Int)
let i2995 : Int := IntKind.wrap .u64 i2994
q_102 ((a2989, a2990, s2993, i2995, true, ()), ()) (fun y2996 =>
let a2997 : (Nat → Int) := y2996
m_86_12 ((i2986, (), (), 0, ()), (a2997, [], ())) (fun y3033 =>
let i3034 := y3033.1.1
let l3035 := y3033.2.1
bif decide (0 ≤ i3034) then (
bif decide (i3034 ≤ (((List.length l3035) : Nat) : Int)) then (
bif decide (0 ≤ i3034) then (
let s3036 : ByteArray := listStr ((List.take (((Int.toNat i3034) - 0)) (List.drop 0 l3035)))
κ0 s3036) else none) else none) else none)))) else none) else none) else none) else none)) else none)) else (
m_86_6 ((i2588, s2590, (), (), 0, ()), (a2587, a2599, ())) (fun y3051 =>
let i3052 := y3051.1.1
let s3053 := y3051.1.2.1
let i3054 := y3051.1.2.2.2.2.1
let a3055 := y3051.2.1
let a3056 := y3051.2.2.1
bif decide (0 ≤ ((ByteArray.size s3053 : Nat) : Int)) then (
bif decide (((ByteArray.size s3053 : Nat) : Int) ≤ ((ByteArray.size s3053 : Nat) : Int)) then (
bif decide (0 ≤ i3054) then (
bif decide (i3054 ≤ ((ByteArray.size s3053 : Nat) : Int)) then (
let s3057 : ByteArray := ByteArray.extract s3053 ((Int.toNat i3054)) (ByteArray.size s3053)
q_101 ((s3057, 128, ()), ()) (fun y3058 =>
let s3059 : ByteArray := y3058
let i3060 : Int := ((ByteArray.size s3053 : Nat) : Int)
let i3061 : Int := IntKind.wrap .u64 i3060
q_102 ((a3055, a3056, s3059, i3061, true, ()), ()) (fun y3062 =>
let a3063 := y3062
m_86_12 ((i3052, (), (), 0, ()), (a3063, [], ())) (fun y3073 =>
let i3074 := y3073.1.1
let l3075 := y3073.2.1
bif decide (0 ≤ i3074) then (
bif decide (i3074 ≤ (((List.length l3075) : Nat) : Int)) then (
bif decide (0 ≤ i3074) then (
let s3076 : ByteArray := listStr ((List.take (((Int.toNat i3074) - 0)) (List.drop 0 l3075)))
κ0 s3076) else none) else none) else none)))) else none) else none) else none) else none))
def p_86 {R : Type} (N : Nat) (x : ((Nat → Int) × Int × ByteArray × ByteArray × Unit) × (Unit)) (κ0 : ByteArray → Option R) : Option R := Q_86 (p_101 N) (p_102 N) (p_87 N) (l_86_6 N N) (l_86_12 N N) x κ0
def EG_86 {R : Type} (q_101 : Tp_101 R) (q_102 : Tp_102 R) (q_87 : Tp_87 R) : Env R := (((Env.base QQ LN AA).add 101 ap_101 hp_101 (fun (x : aden ap_101 × hden hp_101) k => q_101 x (fun y => k (Pat.inst (.str) y) (instH hp_101 x.2)))).add 102 ap_102 hp_102 (fun (x : aden ap_102 × hden hp_102) k => q_102 x (fun y => k (Pat.inst (.vec (.int .u64) 8) y) (instH hp_102 x.2)))).add 87 ap_87 hp_87 (fun (x : aden ap_87 × hden hp_87) k => q_87 x (fun y => k (Pat.inst (.ros (.int .u8)) y) (instH hp_87 x.2)))
def LG_86 {R : Type} (m_86_6 : Tl_86_6 R) (m_86_12 : Tl_86_12 R) : Loops R := ((Loops.none).add 6 (loopBy 0 lv_86_6 pt_86_6 (fun x k => m_86_6 x (fun y => k (.exit 0) (px_86_6_0.inst y))))).add 12 (loopBy 0 lv_86_12 pt_86_12 (fun x k => m_86_12 x (fun y => k (.exit 2) (px_86_12_0.inst y))))
def E_86 {R : Type} (N : Nat) : Env R := EG_86 (p_101 N) (p_102 N) (p_87 N)
theorem eok_86 {R : Type} (N : Nat) : EK Try.prog (E_86 (R := R) N) := ek_add (ek_add (ek_add (ek_base _ _ _) (good_101 N)) (good_102 N)) (good_87 N)
def L_86 {R : Type} (N : Nat) : Loops R := LG_86 (l_86_6 N N) (l_86_12 N N)
theorem gstep_86_6 {R : Type} (q_101 : Tp_101 R) (q_102 : Tp_102 R) (q_87 : Tp_87 R) (m_86_6 : Tl_86_6 R) (m_86_12 : Tl_86_12 R) (n : Nat) (x : pt_86_6.den) (k : Exit → St → Option R) : iter 0 lv_86_6 lo_86_6 (aexec TT (EG_86 q_101 q_102 q_87) (drawAny TT WW) (LG_86 m_86_6 m_86_12) (loopAt 6 (bodyOf Try.f86))) (n + 1) (pt_86_6.inst x) k = C_86_6 q_102 (fun y => iter 0 lv_86_6 lo_86_6 (aexec TT (EG_86 q_101 q_102 q_87) (drawAny TT WW) (LG_86 m_86_6 m_86_12) (loopAt 6 (bodyOf Try.f86))) n (pt_86_6.inst y) k) x (fun y => k (.exit 0) (px_86_6_0.inst y)) := by kernel_rfl
theorem step_86_6 {R : Type} (N n : Nat) (x : pt_86_6.den) (k : Exit → St → Option R) : iter 0 lv_86_6 lo_86_6 (aexec TT (E_86 (R := R) N) (drawAny TT WW) (L_86 N) (loopAt 6 (bodyOf Try.f86))) (n + 1) (pt_86_6.inst x) k = B_86_6 N (fun y => iter 0 lv_86_6 lo_86_6 (aexec TT (E_86 (R := R) N) (drawAny TT WW) (L_86 N) (loopAt 6 (bodyOf Try.f86))) n (pt_86_6.inst y) k) x (fun y => k (.exit 0) (px_86_6_0.inst y)) := (gstep_86_6 (p_101 N) (p_102 N) (p_87 N) (l_86_6 N N) (l_86_12 N N) n x k).trans (by kernel_rfl)
theorem eq_86_6 {R : Type} (N : Nat) : ∀ (n : Nat) (x : pt_86_6.den) (k : Exit → St → Option R), iter 0 lv_86_6 lo_86_6 (aexec TT (E_86 (R := R) N) (drawAny TT WW) (L_86 N) (loopAt 6 (bodyOf Try.f86))) n (pt_86_6.inst x) k = l_86_6 N n x (fun y => k (.exit 0) (px_86_6_0.inst y)) :=
  iter_eq (K := Exit → St → Option R) (ks := fun k => k) (l := fun n (x : pt_86_6.den) k => l_86_6 N n x (fun y => k (.exit 0) (px_86_6_0.inst y))) (B := fun (rec : pt_86_6.den → Option R) (x : pt_86_6.den) k => B_86_6 N rec x (fun y => k (.exit 0) (px_86_6_0.inst y))) (fun _ _ => rfl) (fun _ _ _ => rfl) (fun n x k => step_86_6 N n x k)
theorem rounds_86_6 {R : Type} (N : Nat) : Rounds 0 TT (E_86 (R := R) N) (drawAny TT WW) (L_86 N) 6 (loopAt 6 (bodyOf Try.f86)) :=
  rounds_of (p := pt_86_6) (l := fun (x : pt_86_6.den) k => l_86_6 N N x (fun y => k (.exit 0) (px_86_6_0.inst y))) (fun s k => rfl) (fun x k => eq_86_6 N N x k)
theorem gstep_86_12 {R : Type} (q_101 : Tp_101 R) (q_102 : Tp_102 R) (q_87 : Tp_87 R) (m_86_6 : Tl_86_6 R) (m_86_12 : Tl_86_12 R) (n : Nat) (x : pt_86_12.den) (k : Exit → St → Option R) : iter 0 lv_86_12 lo_86_12 (aexec TT (EG_86 q_101 q_102 q_87) (drawAny TT WW) (LG_86 m_86_6 m_86_12) (loopAt 12 (bodyOf Try.f86))) (n + 1) (pt_86_12.inst x) k = C_86_12 q_87 (fun y => iter 0 lv_86_12 lo_86_12 (aexec TT (EG_86 q_101 q_102 q_87) (drawAny TT WW) (LG_86 m_86_6 m_86_12) (loopAt 12 (bodyOf Try.f86))) n (pt_86_12.inst y) k) x (fun y => k (.exit 2) (px_86_12_0.inst y)) := by kernel_rfl
theorem step_86_12 {R : Type} (N n : Nat) (x : pt_86_12.den) (k : Exit → St → Option R) : iter 0 lv_86_12 lo_86_12 (aexec TT (E_86 (R := R) N) (drawAny TT WW) (L_86 N) (loopAt 12 (bodyOf Try.f86))) (n + 1) (pt_86_12.inst x) k = B_86_12 N (fun y => iter 0 lv_86_12 lo_86_12 (aexec TT (E_86 (R := R) N) (drawAny TT WW) (L_86 N) (loopAt 12 (bodyOf Try.f86))) n (pt_86_12.inst y) k) x (fun y => k (.exit 2) (px_86_12_0.inst y)) := (gstep_86_12 (p_101 N) (p_102 N) (p_87 N) (l_86_6 N N) (l_86_12 N N) n x k).trans (by kernel_rfl)
theorem eq_86_12 {R : Type} (N : Nat) : ∀ (n : Nat) (x : pt_86_12.den) (k : Exit → St → Option R), iter 0 lv_86_12 lo_86_12 (aexec TT (E_86 (R := R) N) (drawAny TT WW) (L_86 N) (loopAt 12 (bodyOf Try.f86))) n (pt_86_12.inst x) k = l_86_12 N n x (fun y => k (.exit 2) (px_86_12_0.inst y)) :=
  iter_eq (K := Exit → St → Option R) (ks := fun k => k) (l := fun n (x : pt_86_12.den) k => l_86_12 N n x (fun y => k (.exit 2) (px_86_12_0.inst y))) (B := fun (rec : pt_86_12.den → Option R) (x : pt_86_12.den) k => B_86_12 N rec x (fun y => k (.exit 2) (px_86_12_0.inst y))) (fun _ _ => rfl) (fun _ _ _ => rfl) (fun n x k => step_86_12 N n x k)
theorem rounds_86_12 {R : Type} (N : Nat) : Rounds 0 TT (E_86 (R := R) N) (drawAny TT WW) (L_86 N) 12 (loopAt 12 (bodyOf Try.f86)) :=
  rounds_of (p := pt_86_12) (l := fun (x : pt_86_12.den) k => l_86_12 N N x (fun y => k (.exit 2) (px_86_12_0.inst y))) (fun s k => rfl) (fun x k => eq_86_12 N N x k)
theorem loops_86 : loopsIn (bodyOf Try.f86) = [(6, loopAt 6 (bodyOf Try.f86)), (12, loopAt 12 (bodyOf Try.f86))] := by kernel_rfl
theorem lok_86 {R : Type} (N : Nat) : LOK 0 TT (E_86 (R := R) N) (drawAny TT WW) (L_86 N) (bodyOf Try.f86) := loops_all loops_86 (by
  simp only [List.forall_mem_cons, List.not_mem_nil, false_implies, implies_true, and_true]
  exact ⟨rounds_86_6 N, rounds_86_12 N⟩)
theorem grun_86 {R : Type} (q_101 : Tp_101 R) (q_102 : Tp_102 R) (q_87 : Tp_87 R) (m_86_6 : Tl_86_6 R) (m_86_12 : Tl_86_12 R) (x : aden ap_86 × hden hp_86) (k : KF R) : fnrun TT (EG_86 q_101 q_102 q_87) (drawAny TT WW) (LG_86 m_86_6 m_86_12) true Try.f86 (instA ap_86 x.1) (instH hp_86 x.2) k = Q_86 q_101 q_102 q_87 m_86_6 m_86_12 x (fun y => k (Pat.inst (.str) y) (instH hp_86 x.2)) := by kernel_rfl
theorem run_86 {R : Type} (N : Nat) (x : aden ap_86 × hden hp_86) (k : KF R) : fnrun TT (E_86 (R := R) N) (drawAny TT WW) (L_86 N) true Try.f86 (instA ap_86 x.1) (instH hp_86 x.2) k = p_86 N x (fun y => k (Pat.inst (.str) y) (instH hp_86 x.2)) := (grun_86 (p_101 N) (p_102 N) (p_87 N) (l_86_6 N N) (l_86_12 N N) x k).trans (by kernel_rfl)
theorem good_86 {R : Type} (N : Nat) : GD (X := R) Try.prog QQ AA 86 ap_86 hp_86 (fun (x : aden ap_86 × hden hp_86) k => p_86 N x (fun y => k (Pat.inst (.str) y) (instH hp_86 x.2))) :=
  gd_quiet (E := E_86 N) (p := fun (x : aden ap_86 × hden hp_86) κ => p_86 N x (fun y => κ (Pat.inst (.str) y))) mixed tyok (eok_86 N) Try.func86 (by kernel_rfl) (by kernel_rfl) (lok_86 N) (fun x k => run_86 N x k)

def lv_58_6 : Live := [(1, none), (3, none), (7, none), (8, none)]
def pt_58_6 : SPat := ⟨[(1, .int .i64), (3, .ptr 0 []), (7, .str), (8, .str)], [some (.vec (.int .u64) 8, 57)]⟩
def px_58_6_0 : SPat := ⟨[(1, .int .i64), (3, .ptr 0 []), (7, .str), (8, .str)], [some (.vec (.int .u64) 8, 57)]⟩
def lo_58_6 : Exit → Live
  | .exit 0 => [(1, none), (3, none), (7, none), (8, none)]
  | _ => []
def ap_58 : List Pat := [.vec (.int .u64) 8, .int .i64, .str]
def hp_58 : List (Option (Pat × Nat)) := []
abbrev Tl_58_6 (R : Type) : Type := ((Int × Unit × ByteArray × ByteArray × Unit) × ((Nat → Int) × Unit)) → (((Int × Unit × ByteArray × ByteArray × Unit) × ((Nat → Int) × Unit)) → Option R) → Option R
abbrev Tp_58 (R : Type) : Type := ((Nat → Int) × Int × ByteArray × Unit) × (Unit) → (ByteArray → Option R) → Option R
def C_58_6 {R : Type} (q_86 : Tp_86 R) (rec : ((Int × Unit × ByteArray × ByteArray × Unit) × ((Nat → Int) × Unit)) → Option R) (x : ((Int × Unit × ByteArray × ByteArray × Unit) × ((Nat → Int) × Unit))) (κ0 : ((Int × Unit × ByteArray × ByteArray × Unit) × ((Nat → Int) × Unit)) → Option R) : Option R :=
let i3082 := x.1.1
let s3083 := x.1.2.2.1
let s3084 := x.1.2.2.2.1
let a3085 := x.2.1
let i3086 : Int := ((ByteArray.size s3084 : Nat) : Int)
let i3087 : Int := subA .i64 i3082 i3086
bif (decide (i3087 > 64)) then (
q_86 ((a3085, 64, ⟨#[]⟩, s3083, ()), ()) (fun y3088 =>
let s3089 : ByteArray := y3088
bif decide (32 ≤ ((ByteArray.size s3089 : Nat) : Int)) then (
let s3090 : ByteArray := ByteArray.extract s3089 0 32
bif decide (ByteArray.size s3084 + ByteArray.size s3090 ≤ maxI64) then (
let s3091 : ByteArray := (s3084 ++ s3090)
rec ((i3082, (), s3089, s3091, ()), x.2)) else none) else none)) else (
κ0 ((i3082, (), s3083, s3084, ()), x.2))
def B_58_6 {R : Type} (N : Nat) (rec : ((Int × Unit × ByteArray × ByteArray × Unit) × ((Nat → Int) × Unit)) → Option R) (x : ((Int × Unit × ByteArray × ByteArray × Unit) × ((Nat → Int) × Unit))) (κ0 : ((Int × Unit × ByteArray × ByteArray × Unit) × ((Nat → Int) × Unit)) → Option R) : Option R := C_58_6 (p_86 N) rec x κ0
def l_58_6 {R : Type} (N : Nat) : Nat → ((Int × Unit × ByteArray × ByteArray × Unit) × ((Nat → Int) × Unit)) → (((Int × Unit × ByteArray × ByteArray × Unit) × ((Nat → Int) × Unit)) → Option R) → Option R
  | 0, _, _ => none
  | n + 1, x, κ0 => B_58_6 N (fun y => l_58_6 N n y κ0) x κ0
def Q_58 {R : Type} (q_56 : Tp_56 R) (q_86 : Tp_86 R) (m_58_6 : Tl_58_6 R) (x : ((Nat → Int) × Int × ByteArray × Unit) × (Unit)) (κ0 : ByteArray → Option R) : Option R :=
let a2579 := x.1.1
let i2580 := x.1.2.1
let s2581 := x.1.2.2.1
let i2582 : Int := IntKind.wrap .u32 i2580
q_56 ((i2582, ()), ()) (fun y2583 =>
let l2584 : (List Int) := y2583
let s2585 : ByteArray := listStr l2584
bif decide (ByteArray.size s2585 + ByteArray.size s2581 ≤ maxI64) then (
let s2586 : ByteArray := (s2585 ++ s2581)
bif (decide (i2580 ≤ 64)) then (
q_86 ((a2579, i2580, ⟨#[]⟩, s2586, ()), ()) (fun y3077 =>
let s3078 : ByteArray := y3077
κ0 s3078)) else (
q_86 ((a2579, 64, ⟨#[]⟩, s2586, ()), ()) (fun y3079 =>
let s3080 : ByteArray := y3079
bif decide (32 ≤ ((ByteArray.size s3080 : Nat) : Int)) then (
let s3081 : ByteArray := ByteArray.extract s3080 0 32
m_58_6 ((i2580, (), s3080, s3081, ()), (a2579, ())) (fun y3092 =>
let i3093 := y3092.1.1
let s3094 := y3092.1.2.2.1
let s3095 := y3092.1.2.2.2.1
let a3096 := y3092.2.1
let i3097 : Int := ((ByteArray.size s3095 : Nat) : Int)
let i3098 : Int := subA .i64 i3093 i3097
q_86 ((a3096, i3098, ⟨#[]⟩, s3094, ()), ()) (fun y3099 =>
let s3100 : ByteArray := y3099
bif decide (ByteArray.size s3095 + ByteArray.size s3100 ≤ maxI64) then (
let s3101 : ByteArray := (s3095 ++ s3100)
κ0 s3101) else none))) else none))) else none)
def p_58 {R : Type} (N : Nat) (x : ((Nat → Int) × Int × ByteArray × Unit) × (Unit)) (κ0 : ByteArray → Option R) : Option R := Q_58 (p_56 N) (p_86 N) (l_58_6 N N) x κ0
def EG_58 {R : Type} (q_56 : Tp_56 R) (q_86 : Tp_86 R) : Env R := ((Env.base QQ LN AA).add 56 ap_56 hp_56 (fun (x : aden ap_56 × hden hp_56) k => q_56 x (fun y => k (Pat.inst (.ros (.int .u8)) y) (instH hp_56 x.2)))).add 86 ap_86 hp_86 (fun (x : aden ap_86 × hden hp_86) k => q_86 x (fun y => k (Pat.inst (.str) y) (instH hp_86 x.2)))
def LG_58 {R : Type} (m_58_6 : Tl_58_6 R) : Loops R := (Loops.none).add 6 (loopBy 0 lv_58_6 pt_58_6 (fun x k => m_58_6 x (fun y => k (.exit 0) (px_58_6_0.inst y))))
def E_58 {R : Type} (N : Nat) : Env R := EG_58 (p_56 N) (p_86 N)
theorem eok_58 {R : Type} (N : Nat) : EK Try.prog (E_58 (R := R) N) := ek_add (ek_add (ek_base _ _ _) (good_56 N)) (good_86 N)
def L_58 {R : Type} (N : Nat) : Loops R := LG_58 (l_58_6 N N)
theorem gstep_58_6 {R : Type} (q_56 : Tp_56 R) (q_86 : Tp_86 R) (m_58_6 : Tl_58_6 R) (n : Nat) (x : pt_58_6.den) (k : Exit → St → Option R) : iter 0 lv_58_6 lo_58_6 (aexec TT (EG_58 q_56 q_86) (drawAny TT WW) (LG_58 m_58_6) (loopAt 6 (bodyOf Try.f58))) (n + 1) (pt_58_6.inst x) k = C_58_6 q_86 (fun y => iter 0 lv_58_6 lo_58_6 (aexec TT (EG_58 q_56 q_86) (drawAny TT WW) (LG_58 m_58_6) (loopAt 6 (bodyOf Try.f58))) n (pt_58_6.inst y) k) x (fun y => k (.exit 0) (px_58_6_0.inst y)) := by kernel_rfl
theorem step_58_6 {R : Type} (N n : Nat) (x : pt_58_6.den) (k : Exit → St → Option R) : iter 0 lv_58_6 lo_58_6 (aexec TT (E_58 (R := R) N) (drawAny TT WW) (L_58 N) (loopAt 6 (bodyOf Try.f58))) (n + 1) (pt_58_6.inst x) k = B_58_6 N (fun y => iter 0 lv_58_6 lo_58_6 (aexec TT (E_58 (R := R) N) (drawAny TT WW) (L_58 N) (loopAt 6 (bodyOf Try.f58))) n (pt_58_6.inst y) k) x (fun y => k (.exit 0) (px_58_6_0.inst y)) := (gstep_58_6 (p_56 N) (p_86 N) (l_58_6 N N) n x k).trans (by kernel_rfl)
theorem eq_58_6 {R : Type} (N : Nat) : ∀ (n : Nat) (x : pt_58_6.den) (k : Exit → St → Option R), iter 0 lv_58_6 lo_58_6 (aexec TT (E_58 (R := R) N) (drawAny TT WW) (L_58 N) (loopAt 6 (bodyOf Try.f58))) n (pt_58_6.inst x) k = l_58_6 N n x (fun y => k (.exit 0) (px_58_6_0.inst y)) :=
  iter_eq (K := Exit → St → Option R) (ks := fun k => k) (l := fun n (x : pt_58_6.den) k => l_58_6 N n x (fun y => k (.exit 0) (px_58_6_0.inst y))) (B := fun (rec : pt_58_6.den → Option R) (x : pt_58_6.den) k => B_58_6 N rec x (fun y => k (.exit 0) (px_58_6_0.inst y))) (fun _ _ => rfl) (fun _ _ _ => rfl) (fun n x k => step_58_6 N n x k)
theorem rounds_58_6 {R : Type} (N : Nat) : Rounds 0 TT (E_58 (R := R) N) (drawAny TT WW) (L_58 N) 6 (loopAt 6 (bodyOf Try.f58)) :=
  rounds_of (p := pt_58_6) (l := fun (x : pt_58_6.den) k => l_58_6 N N x (fun y => k (.exit 0) (px_58_6_0.inst y))) (fun s k => rfl) (fun x k => eq_58_6 N N x k)
theorem loops_58 : loopsIn (bodyOf Try.f58) = [(6, loopAt 6 (bodyOf Try.f58))] := by kernel_rfl
theorem lok_58 {R : Type} (N : Nat) : LOK 0 TT (E_58 (R := R) N) (drawAny TT WW) (L_58 N) (bodyOf Try.f58) := loops_all loops_58 (by
  simp only [List.forall_mem_cons, List.not_mem_nil, false_implies, implies_true, and_true]
  exact rounds_58_6 N)
theorem grun_58 {R : Type} (q_56 : Tp_56 R) (q_86 : Tp_86 R) (m_58_6 : Tl_58_6 R) (x : aden ap_58 × hden hp_58) (k : KF R) : fnrun TT (EG_58 q_56 q_86) (drawAny TT WW) (LG_58 m_58_6) true Try.f58 (instA ap_58 x.1) (instH hp_58 x.2) k = Q_58 q_56 q_86 m_58_6 x (fun y => k (Pat.inst (.str) y) (instH hp_58 x.2)) := by kernel_rfl
theorem run_58 {R : Type} (N : Nat) (x : aden ap_58 × hden hp_58) (k : KF R) : fnrun TT (E_58 (R := R) N) (drawAny TT WW) (L_58 N) true Try.f58 (instA ap_58 x.1) (instH hp_58 x.2) k = p_58 N x (fun y => k (Pat.inst (.str) y) (instH hp_58 x.2)) := (grun_58 (p_56 N) (p_86 N) (l_58_6 N N) x k).trans (by kernel_rfl)
theorem good_58 {R : Type} (N : Nat) : GD (X := R) Try.prog QQ AA 58 ap_58 hp_58 (fun (x : aden ap_58 × hden hp_58) k => p_58 N x (fun y => k (Pat.inst (.str) y) (instH hp_58 x.2))) :=
  gd_quiet (E := E_58 N) (p := fun (x : aden ap_58 × hden hp_58) κ => p_58 N x (fun y => κ (Pat.inst (.str) y))) mixed tyok (eok_58 N) Try.func58 (by kernel_rfl) (by kernel_rfl) (lok_58 N) (fun x k => run_58 N x k)

def lv_57_4 : Live := [(2, none), (3, none), (4, none), (6, none)]
def pt_57_4 : SPat := ⟨[(2, .ptr 0 []), (3, .ptr 1 []), (4, .ros (.int .u64)), (6, .int .i64)], J16⟩
def px_57_4_0 : SPat := ⟨[(2, .ptr 0 []), (3, .ptr 1 [])], J16⟩
def lo_57_4 : Exit → Live
  | .exit 0 => [(2, none), (3, none)]
  | _ => []
def ap_57 : List Pat := [.str]
def hp_57 : List (Option (Pat × Nat)) := []
abbrev Tl_57_4 (R : Type) : Type := ((Unit × Unit × (List Int) × Int × Unit) × Y6) → (((Unit × Unit × Unit) × Y6) → Option R) → Option R
abbrev Tp_57 (R : Type) : Type := (ByteArray × Unit) × (Unit) → ((Nat → Int) → Option R) → Option R
def C_57_4 {R : Type} (rec : ((Unit × Unit × (List Int) × Int × Unit) × Y6) → Option R) (x : ((Unit × Unit × (List Int) × Int × Unit) × Y6)) (κ0 : ((Unit × Unit × Unit) × Y6) → Option R) : Option R :=
let l3110 := x.1.2.2.1
let i3111 := x.1.2.2.2.1
let a3112 := x.2.1
let a3113 := x.2.2.1
bif (decide (i3111 < 128)) then (
bif decide (0 ≤ i3111) then (
bif decide (i3111 < ((List.length l3110) : Int)) then (
let p3114 : Int := (List.getD l3110 ((Int.toNat i3111)) (Sch.zero (.int .u64)))
bif decide (0 ≤ i3111) then (
bif decide (i3111 < (128 : Int)) then (
let a3115 : (Nat → Int) := (upd a3113 ((Int.toNat i3111)) p3114)
let i3116 : Int := addA .i64 i3111 1
rec (((), (), l3110, i3116, ()), (a3112, a3115, ()))) else none) else none) else none) else none) else (
κ0 (((), (), ()), (a3112, a3113, ())))
def B_57_4 {R : Type} (N : Nat) (rec : ((Unit × Unit × (List Int) × Int × Unit) × Y6) → Option R) (x : ((Unit × Unit × (List Int) × Int × Unit) × Y6)) (κ0 : ((Unit × Unit × Unit) × Y6) → Option R) : Option R := C_57_4 rec x κ0
def l_57_4 {R : Type} (N : Nat) : Nat → ((Unit × Unit × (List Int) × Int × Unit) × Y6) → (((Unit × Unit × Unit) × Y6) → Option R) → Option R
  | 0, _, _ => none
  | n + 1, x, κ0 => B_57_4 N (fun y => l_57_4 N n y κ0) x κ0
def Q_57 {R : Type} (q_85 : Tp_85 R) (m_57_4 : Tl_57_4 R) (x : (ByteArray × Unit) × (Unit)) (κ0 : (Nat → Int) → Option R) : Option R :=
let s3104 := x.1.1
bif decide (ByteArray.size s3104 ≤ maxI64) then (
let l3105 : (List Int) := strList s3104
q_85 (((), 8, ()), (l3105, ())) (fun y3106 =>
let l3107 := y3106.1.1
m_57_4 (((), (), l3107, 0, ()), ((Sch.zero (.arr 128 (.int .u64))), (Sch.zero (.arr 128 (.int .u64))), ())) (fun y3117 =>
let a3119 := y3117.2.2.1
κ0 a3119))) else none
def p_57 {R : Type} (N : Nat) (x : (ByteArray × Unit) × (Unit)) (κ0 : (Nat → Int) → Option R) : Option R := Q_57 (p_85 N) (l_57_4 N N) x κ0
def EG_57 {R : Type} (q_85 : Tp_85 R) : Env R := (Env.base QQ LN AA).add 85 ap_85 hp_85 (fun (x : aden ap_85 × hden hp_85) k => q_85 x (fun y => k (Pat.inst (.tup (.fcons (.ros (.int .u64)) (.fcons (.bool) (.fnil)))) y.1) (instH J4 y.2)))
def LG_57 {R : Type} (m_57_4 : Tl_57_4 R) : Loops R := (Loops.none).add 4 (loopBy 0 lv_57_4 pt_57_4 (fun x k => m_57_4 x (fun y => k (.exit 0) (px_57_4_0.inst y))))
def E_57 {R : Type} (N : Nat) : Env R := EG_57 (p_85 N)
theorem eok_57 {R : Type} (N : Nat) : EK Try.prog (E_57 (R := R) N) := ek_add (ek_base _ _ _) (good_85 N)
def L_57 {R : Type} (N : Nat) : Loops R := LG_57 (l_57_4 N N)
theorem gstep_57_4 {R : Type} (q_85 : Tp_85 R) (m_57_4 : Tl_57_4 R) (n : Nat) (x : pt_57_4.den) (k : Exit → St → Option R) : iter 0 lv_57_4 lo_57_4 (aexec TT (EG_57 q_85) (drawAny TT WW) (LG_57 m_57_4) (loopAt 4 (bodyOf Try.f57))) (n + 1) (pt_57_4.inst x) k = C_57_4 (fun y => iter 0 lv_57_4 lo_57_4 (aexec TT (EG_57 q_85) (drawAny TT WW) (LG_57 m_57_4) (loopAt 4 (bodyOf Try.f57))) n (pt_57_4.inst y) k) x (fun y => k (.exit 0) (px_57_4_0.inst y)) := by kernel_rfl
theorem step_57_4 {R : Type} (N n : Nat) (x : pt_57_4.den) (k : Exit → St → Option R) : iter 0 lv_57_4 lo_57_4 (aexec TT (E_57 (R := R) N) (drawAny TT WW) (L_57 N) (loopAt 4 (bodyOf Try.f57))) (n + 1) (pt_57_4.inst x) k = B_57_4 N (fun y => iter 0 lv_57_4 lo_57_4 (aexec TT (E_57 (R := R) N) (drawAny TT WW) (L_57 N) (loopAt 4 (bodyOf Try.f57))) n (pt_57_4.inst y) k) x (fun y => k (.exit 0) (px_57_4_0.inst y)) := (gstep_57_4 (p_85 N) (l_57_4 N N) n x k).trans (by kernel_rfl)
theorem eq_57_4 {R : Type} (N : Nat) : ∀ (n : Nat) (x : pt_57_4.den) (k : Exit → St → Option R), iter 0 lv_57_4 lo_57_4 (aexec TT (E_57 (R := R) N) (drawAny TT WW) (L_57 N) (loopAt 4 (bodyOf Try.f57))) n (pt_57_4.inst x) k = l_57_4 N n x (fun y => k (.exit 0) (px_57_4_0.inst y)) :=
  iter_eq (K := Exit → St → Option R) (ks := fun k => k) (l := fun n (x : pt_57_4.den) k => l_57_4 N n x (fun y => k (.exit 0) (px_57_4_0.inst y))) (B := fun (rec : pt_57_4.den → Option R) (x : pt_57_4.den) k => B_57_4 N rec x (fun y => k (.exit 0) (px_57_4_0.inst y))) (fun _ _ => rfl) (fun _ _ _ => rfl) (fun n x k => step_57_4 N n x k)
theorem rounds_57_4 {R : Type} (N : Nat) : Rounds 0 TT (E_57 (R := R) N) (drawAny TT WW) (L_57 N) 4 (loopAt 4 (bodyOf Try.f57)) :=
  rounds_of (p := pt_57_4) (l := fun (x : pt_57_4.den) k => l_57_4 N N x (fun y => k (.exit 0) (px_57_4_0.inst y))) (fun s k => rfl) (fun x k => eq_57_4 N N x k)
theorem loops_57 : loopsIn (bodyOf Try.f57) = [(4, loopAt 4 (bodyOf Try.f57))] := by kernel_rfl
theorem lok_57 {R : Type} (N : Nat) : LOK 0 TT (E_57 (R := R) N) (drawAny TT WW) (L_57 N) (bodyOf Try.f57) := loops_all loops_57 (by
  simp only [List.forall_mem_cons, List.not_mem_nil, false_implies, implies_true, and_true]
  exact rounds_57_4 N)
theorem grun_57 {R : Type} (q_85 : Tp_85 R) (m_57_4 : Tl_57_4 R) (x : aden ap_57 × hden hp_57) (k : KF R) : fnrun TT (EG_57 q_85) (drawAny TT WW) (LG_57 m_57_4) true Try.f57 (instA ap_57 x.1) (instH hp_57 x.2) k = Q_57 q_85 m_57_4 x (fun y => k (Pat.inst (.vec (.int .u64) 128) y) (instH hp_57 x.2)) := by kernel_rfl
theorem run_57 {R : Type} (N : Nat) (x : aden ap_57 × hden hp_57) (k : KF R) : fnrun TT (E_57 (R := R) N) (drawAny TT WW) (L_57 N) true Try.f57 (instA ap_57 x.1) (instH hp_57 x.2) k = p_57 N x (fun y => k (Pat.inst (.vec (.int .u64) 128) y) (instH hp_57 x.2)) := (grun_57 (p_85 N) (l_57_4 N N) x k).trans (by kernel_rfl)
theorem good_57 {R : Type} (N : Nat) : GD (X := R) Try.prog QQ AA 57 ap_57 hp_57 (fun (x : aden ap_57 × hden hp_57) k => p_57 N x (fun y => k (Pat.inst (.vec (.int .u64) 128) y) (instH hp_57 x.2))) :=
  gd_quiet (E := E_57 N) (p := fun (x : aden ap_57 × hden hp_57) κ => p_57 N x (fun y => κ (Pat.inst (.vec (.int .u64) 128) y))) mixed tyok (eok_57 N) Try.func57 (by kernel_rfl) (by kernel_rfl) (lok_57 N) (fun x k => run_57 N x k)

def lv_19_6 : Live := [(2, none), (3, none), (4, none), (7, none), (8, none), (9, none)]
def pt_19_6 : SPat := ⟨[(2, .str), (3, .ptr 0 []), (4, .ptr 1 []), (7, .sl 2), (8, .int .i64), (9, .int .i64)], [some (.vec (.int .u64) 8, 57), some (Z0, 45), some (.fam 29 (.arr 128 (.int .u64)), 52)]⟩
def px_19_6_0 : SPat := ⟨[(2, .str), (3, .ptr 0 []), (4, .ptr 1 []), (7, .sl 2), (8, .int .i64)], [some (.vec (.int .u64) 8, 57), some (Z0, 45), some (.fam 29 (.arr 128 (.int .u64)), 52)]⟩
def lo_19_6 : Exit → Live
  | .exit 2 => [(2, none), (3, none), (4, none), (7, none), (8, none)]
  | _ => []
def lv_19_3 : Live := [(2, none), (3, none), (4, none), (7, none), (8, none)]
def pt_19_3 : SPat := ⟨[(2, .str), (3, .ptr 0 []), (4, .ptr 1 []), (7, .sl 2), (8, .int .i64)], [some (.vec (.int .u64) 8, 57), some (Z0, 45), some (.fam 29 (.arr 128 (.int .u64)), 52)]⟩
def px_19_3_0 : SPat := ⟨[(7, .sl 0)], J5⟩
def lo_19_3 : Exit → Live
  | .exit 0 => [(7, none)]
  | _ => []
def ap_19 : List Pat := [.vec (.int .u64) 8, .node (.fcons (.int .i64) (.fcons (.int .i64) (.fcons (.int .i64) (.fcons (.int .i64) (.fcons (.int .i64) (.fcons (.int .i64) (.fcons (.int .i64) (.fcons (.int .i64) (.fnil))))))))), .str]
def hp_19 : List (Option (Pat × Nat)) := []
abbrev Tl_19_6 (R : Type) : Type := ((ByteArray × Unit × Unit × Unit × Int × Int × Unit) × ((Nat → Int) × Y1 × Y5 × Unit)) → (Y23 → Option R) → Option R
abbrev Tl_19_3 (R : Type) : Type := Y23 → (((Unit × Unit) × (Y5 × Unit)) → Option R) → Option R
abbrev Tp_19 (R : Type) : Type := ((Nat → Int) × Y1 × ByteArray × Unit) × (Unit) → ((Unit × (Y5 × Unit)) → Option R) → Option R
def C_19_6 {R : Type} (q_56 : Tp_56 R) (q_58 : Tp_58 R) (q_57 : Tp_57 R) (rec : ((ByteArray × Unit × Unit × Unit × Int × Int × Unit) × ((Nat → Int) × Y1 × Y5 × Unit)) → Option R) (x : ((ByteArray × Unit × Unit × Unit × Int × Int × Unit) × ((Nat → Int) × Y1 × Y5 × Unit))) (κ0 : Y23 → Option R) : Option R :=
let s2537 := x.1.1
let i2538 := x.1.2.2.2.2.1
let i2539 := x.1.2.2.2.2.2.1
let a2540 := x.2.1
let r2549 := x.2.2.2.1
bif (decide (i2539 < 2)) then (
let i2550 : Int := IntKind.wrap .u32 i2539
q_56 ((i2550, ()), ()) (fun y2570 =>
let l2571 : (List Int) := y2570
let s2572 : ByteArray := listStr l2571
let i2573 : Int := IntKind.wrap .u32 i2538
q_56 ((i2573, ()), ()) (fun y2574 =>
let l2575 : (List Int) := y2574
let s2576 : ByteArray := listStr l2575
bif decide (ByteArray.size s2572 + ByteArray.size s2576 ≤ maxI64) then (
let s2577 : ByteArray := (s2572 ++ s2576)
bif decide (0 ≤ i2538) then (
bif decide (i2538 < ((List.length r2549) : Int)) then (
bif decide (ByteArray.size s2537 + ByteArray.size s2577 ≤ maxI64) then (
let s2578 : ByteArray := (s2537 ++ s2577)
q_58 ((a2540, 1024, s2578, ()), ()) (fun y3102 =>
let s3103 := y3102
q_57 ((s3103, ()), ()) (fun y3120 =>
let a3121 : (Nat → Int) := y3120
bif decide (0 ≤ i2539) then (
bif decide (i2539 < ((List.length ((List.getD r2549 ((Int.toNat i2538)) []))) : Int)) then (
let r3122 : Y5 := (List.set r2549 ((Int.toNat i2538)) ((List.set ((List.getD r2549 ((Int.toNat i2538)) [])) ((Int.toNat i2539)) a3121)))
let i3123 : Int := addA .i64 i2539 1
rec ((s2537, (), (), (), i2538, i3123, ()), (a2540, x.2.2.1, r3122, ()))) else none) else none))) else none) else none) else none) else none))) else (
κ0 ((s2537, (), (), (), i2538, ()), (a2540, x.2.2.1, r2549, ())))
def C_19_3 {R : Type} (m_19_6 : Tl_19_6 R) (rec : Y23 → Option R) (x : Y23) (κ0 : ((Unit × Unit) × (Y5 × Unit)) → Option R) : Option R :=
let s2525 := x.1.1
let i2526 := x.1.2.2.2.2.1
let a2527 := x.2.1
let i2530 := x.2.2.1.2.2.1
let r2536 := x.2.2.2.1
bif (decide (i2526 < i2530)) then (
m_19_6 ((s2525, (), (), (), i2526, 0, ()), (a2527, x.2.2.1, r2536, ())) (fun y3124 =>
let s3125 := y3124.1.1
let i3126 := y3124.1.2.2.2.2.1
let a3127 := y3124.2.1
let r3136 := y3124.2.2.2.1
let i3137 : Int := addA .i64 i3126 1
rec ((s3125, (), (), (), i3137, ()), (a3127, y3124.2.2.1, r3136, ())))) else (
κ0 (((), ()), x.2.2.2))
def B_19_6 {R : Type} (N : Nat) (rec : ((ByteArray × Unit × Unit × Unit × Int × Int × Unit) × ((Nat → Int) × Y1 × Y5 × Unit)) → Option R) (x : ((ByteArray × Unit × Unit × Unit × Int × Int × Unit) × ((Nat → Int) × Y1 × Y5 × Unit))) (κ0 : Y23 → Option R) : Option R := C_19_6 (p_56 N) (p_58 N) (p_57 N) rec x κ0
def l_19_6 {R : Type} (N : Nat) : Nat → ((ByteArray × Unit × Unit × Unit × Int × Int × Unit) × ((Nat → Int) × Y1 × Y5 × Unit)) → (Y23 → Option R) → Option R
  | 0, _, _ => none
  | n + 1, x, κ0 => B_19_6 N (fun y => l_19_6 N n y κ0) x κ0
def B_19_3 {R : Type} (N : Nat) (rec : Y23 → Option R) (x : Y23) (κ0 : ((Unit × Unit) × (Y5 × Unit)) → Option R) : Option R := C_19_3 (l_19_6 N N) rec x κ0
def l_19_3 {R : Type} (N : Nat) : Nat → Y23 → (((Unit × Unit) × (Y5 × Unit)) → Option R) → Option R
  | 0, _, _ => none
  | n + 1, x, κ0 => B_19_3 N (fun y => l_19_3 N n y κ0) x κ0
def Q_19 {R : Type} (q_15 : Tp_15 R) (q_56 : Tp_56 R) (q_58 : Tp_58 R) (q_57 : Tp_57 R) (m_19_6 : Tl_19_6 R) (m_19_3 : Tl_19_3 R) (x : ((Nat → Int) × Y1 × ByteArray × Unit) × (Unit)) (κ0 : (Unit × (Y5 × Unit)) → Option R) : Option R :=
let a2513 := x.1.1
let s2522 := x.1.2.2.1
q_15 ((x.1.2.1, ()), ()) (fun y2523 =>
let r2524 := y2523.2.1
m_19_3 ((s2522, (), (), (), 0, ()), (a2513, x.1.2.1, r2524, ())) (fun y3138 =>
κ0 ((), y3138.2)))
def p_19 {R : Type} (N : Nat) (x : ((Nat → Int) × Y1 × ByteArray × Unit) × (Unit)) (κ0 : (Unit × (Y5 × Unit)) → Option R) : Option R := Q_19 (p_15 N) (p_56 N) (p_58 N) (p_57 N) (l_19_6 N N) (l_19_3 N N) x κ0
def EG_19 {R : Type} (q_15 : Tp_15 R) (q_56 : Tp_56 R) (q_58 : Tp_58 R) (q_57 : Tp_57 R) : Env R := ((((Env.base QQ LN AA).add 15 ap_15 hp_15 (fun (x : aden ap_15 × hden hp_15) k => q_15 x (fun y => k (Pat.inst (.sl 0) y.1) (instH J5 y.2)))).add 56 ap_56 hp_56 (fun (x : aden ap_56 × hden hp_56) k => q_56 x (fun y => k (Pat.inst (.ros (.int .u8)) y) (instH hp_56 x.2)))).add 58 ap_58 hp_58 (fun (x : aden ap_58 × hden hp_58) k => q_58 x (fun y => k (Pat.inst (.str) y) (instH hp_58 x.2)))).add 57 ap_57 hp_57 (fun (x : aden ap_57 × hden hp_57) k => q_57 x (fun y => k (Pat.inst (.vec (.int .u64) 128) y) (instH hp_57 x.2)))
def LG_19 {R : Type} (m_19_6 : Tl_19_6 R) (m_19_3 : Tl_19_3 R) : Loops R := ((Loops.none).add 6 (loopBy 0 lv_19_6 pt_19_6 (fun x k => m_19_6 x (fun y => k (.exit 2) (px_19_6_0.inst y))))).add 3 (loopBy 0 lv_19_3 pt_19_3 (fun x k => m_19_3 x (fun y => k (.exit 0) (px_19_3_0.inst y))))
def E_19 {R : Type} (N : Nat) : Env R := EG_19 (p_15 N) (p_56 N) (p_58 N) (p_57 N)
theorem eok_19 {R : Type} (N : Nat) : EK Try.prog (E_19 (R := R) N) := ek_add (ek_add (ek_add (ek_add (ek_base _ _ _) (good_15 N)) (good_56 N)) (good_58 N)) (good_57 N)
def L_19 {R : Type} (N : Nat) : Loops R := LG_19 (l_19_6 N N) (l_19_3 N N)
theorem gstep_19_6 {R : Type} (q_15 : Tp_15 R) (q_56 : Tp_56 R) (q_58 : Tp_58 R) (q_57 : Tp_57 R) (m_19_6 : Tl_19_6 R) (m_19_3 : Tl_19_3 R) (n : Nat) (x : pt_19_6.den) (k : Exit → St → Option R) : iter 0 lv_19_6 lo_19_6 (aexec TT (EG_19 q_15 q_56 q_58 q_57) (drawAny TT WW) (LG_19 m_19_6 m_19_3) (loopAt 6 (bodyOf Try.f19))) (n + 1) (pt_19_6.inst x) k = C_19_6 q_56 q_58 q_57 (fun y => iter 0 lv_19_6 lo_19_6 (aexec TT (EG_19 q_15 q_56 q_58 q_57) (drawAny TT WW) (LG_19 m_19_6 m_19_3) (loopAt 6 (bodyOf Try.f19))) n (pt_19_6.inst y) k) x (fun y => k (.exit 2) (px_19_6_0.inst y)) := by kernel_rfl
theorem step_19_6 {R : Type} (N n : Nat) (x : pt_19_6.den) (k : Exit → St → Option R) : iter 0 lv_19_6 lo_19_6 (aexec TT (E_19 (R := R) N) (drawAny TT WW) (L_19 N) (loopAt 6 (bodyOf Try.f19))) (n + 1) (pt_19_6.inst x) k = B_19_6 N (fun y => iter 0 lv_19_6 lo_19_6 (aexec TT (E_19 (R := R) N) (drawAny TT WW) (L_19 N) (loopAt 6 (bodyOf Try.f19))) n (pt_19_6.inst y) k) x (fun y => k (.exit 2) (px_19_6_0.inst y)) := (gstep_19_6 (p_15 N) (p_56 N) (p_58 N) (p_57 N) (l_19_6 N N) (l_19_3 N N) n x k).trans (by kernel_rfl)
theorem eq_19_6 {R : Type} (N : Nat) : ∀ (n : Nat) (x : pt_19_6.den) (k : Exit → St → Option R), iter 0 lv_19_6 lo_19_6 (aexec TT (E_19 (R := R) N) (drawAny TT WW) (L_19 N) (loopAt 6 (bodyOf Try.f19))) n (pt_19_6.inst x) k = l_19_6 N n x (fun y => k (.exit 2) (px_19_6_0.inst y)) :=
  iter_eq (K := Exit → St → Option R) (ks := fun k => k) (l := fun n (x : pt_19_6.den) k => l_19_6 N n x (fun y => k (.exit 2) (px_19_6_0.inst y))) (B := fun (rec : pt_19_6.den → Option R) (x : pt_19_6.den) k => B_19_6 N rec x (fun y => k (.exit 2) (px_19_6_0.inst y))) (fun _ _ => rfl) (fun _ _ _ => rfl) (fun n x k => step_19_6 N n x k)
theorem rounds_19_6 {R : Type} (N : Nat) : Rounds 0 TT (E_19 (R := R) N) (drawAny TT WW) (L_19 N) 6 (loopAt 6 (bodyOf Try.f19)) :=
  rounds_of (p := pt_19_6) (l := fun (x : pt_19_6.den) k => l_19_6 N N x (fun y => k (.exit 2) (px_19_6_0.inst y))) (fun s k => rfl) (fun x k => eq_19_6 N N x k)
theorem gstep_19_3 {R : Type} (q_15 : Tp_15 R) (q_56 : Tp_56 R) (q_58 : Tp_58 R) (q_57 : Tp_57 R) (m_19_6 : Tl_19_6 R) (m_19_3 : Tl_19_3 R) (n : Nat) (x : pt_19_3.den) (k : Exit → St → Option R) : iter 0 lv_19_3 lo_19_3 (aexec TT (EG_19 q_15 q_56 q_58 q_57) (drawAny TT WW) (LG_19 m_19_6 m_19_3) (loopAt 3 (bodyOf Try.f19))) (n + 1) (pt_19_3.inst x) k = C_19_3 m_19_6 (fun y => iter 0 lv_19_3 lo_19_3 (aexec TT (EG_19 q_15 q_56 q_58 q_57) (drawAny TT WW) (LG_19 m_19_6 m_19_3) (loopAt 3 (bodyOf Try.f19))) n (pt_19_3.inst y) k) x (fun y => k (.exit 0) (px_19_3_0.inst y)) := by kernel_rfl
theorem step_19_3 {R : Type} (N n : Nat) (x : pt_19_3.den) (k : Exit → St → Option R) : iter 0 lv_19_3 lo_19_3 (aexec TT (E_19 (R := R) N) (drawAny TT WW) (L_19 N) (loopAt 3 (bodyOf Try.f19))) (n + 1) (pt_19_3.inst x) k = B_19_3 N (fun y => iter 0 lv_19_3 lo_19_3 (aexec TT (E_19 (R := R) N) (drawAny TT WW) (L_19 N) (loopAt 3 (bodyOf Try.f19))) n (pt_19_3.inst y) k) x (fun y => k (.exit 0) (px_19_3_0.inst y)) := (gstep_19_3 (p_15 N) (p_56 N) (p_58 N) (p_57 N) (l_19_6 N N) (l_19_3 N N) n x k).trans (by kernel_rfl)
theorem eq_19_3 {R : Type} (N : Nat) : ∀ (n : Nat) (x : pt_19_3.den) (k : Exit → St → Option R), iter 0 lv_19_3 lo_19_3 (aexec TT (E_19 (R := R) N) (drawAny TT WW) (L_19 N) (loopAt 3 (bodyOf Try.f19))) n (pt_19_3.inst x) k = l_19_3 N n x (fun y => k (.exit 0) (px_19_3_0.inst y)) :=
  iter_eq (K := Exit → St → Option R) (ks := fun k => k) (l := fun n (x : pt_19_3.den) k => l_19_3 N n x (fun y => k (.exit 0) (px_19_3_0.inst y))) (B := fun (rec : pt_19_3.den → Option R) (x : pt_19_3.den) k => B_19_3 N rec x (fun y => k (.exit 0) (px_19_3_0.inst y))) (fun _ _ => rfl) (fun _ _ _ => rfl) (fun n x k => step_19_3 N n x k)
theorem rounds_19_3 {R : Type} (N : Nat) : Rounds 0 TT (E_19 (R := R) N) (drawAny TT WW) (L_19 N) 3 (loopAt 3 (bodyOf Try.f19)) :=
  rounds_of (p := pt_19_3) (l := fun (x : pt_19_3.den) k => l_19_3 N N x (fun y => k (.exit 0) (px_19_3_0.inst y))) (fun s k => rfl) (fun x k => eq_19_3 N N x k)
theorem loops_19 : loopsIn (bodyOf Try.f19) = [(3, loopAt 3 (bodyOf Try.f19)), (6, loopAt 6 (bodyOf Try.f19))] := by kernel_rfl
theorem lok_19 {R : Type} (N : Nat) : LOK 0 TT (E_19 (R := R) N) (drawAny TT WW) (L_19 N) (bodyOf Try.f19) := loops_all loops_19 (by
  simp only [List.forall_mem_cons, List.not_mem_nil, false_implies, implies_true, and_true]
  exact ⟨rounds_19_3 N, rounds_19_6 N⟩)
theorem grun_19 {R : Type} (q_15 : Tp_15 R) (q_56 : Tp_56 R) (q_58 : Tp_58 R) (q_57 : Tp_57 R) (m_19_6 : Tl_19_6 R) (m_19_3 : Tl_19_3 R) (x : aden ap_19 × hden hp_19) (k : KF R) : fnrun TT (EG_19 q_15 q_56 q_58 q_57) (drawAny TT WW) (LG_19 m_19_6 m_19_3) true Try.f19 (instA ap_19 x.1) (instH hp_19 x.2) k = Q_19 q_15 q_56 q_58 q_57 m_19_6 m_19_3 x (fun y => k (Pat.inst (.sl 0) y.1) (instH J5 y.2)) := by kernel_rfl
theorem run_19 {R : Type} (N : Nat) (x : aden ap_19 × hden hp_19) (k : KF R) : fnrun TT (E_19 (R := R) N) (drawAny TT WW) (L_19 N) true Try.f19 (instA ap_19 x.1) (instH hp_19 x.2) k = p_19 N x (fun y => k (Pat.inst (.sl 0) y.1) (instH J5 y.2)) := (grun_19 (p_15 N) (p_56 N) (p_58 N) (p_57 N) (l_19_6 N N) (l_19_3 N N) x k).trans (by kernel_rfl)
theorem good_19 {R : Type} (N : Nat) : GD (X := R) Try.prog QQ AA 19 ap_19 hp_19 (fun (x : aden ap_19 × hden hp_19) k => p_19 N x (fun y => k (Pat.inst (.sl 0) y.1) (instH J5 y.2))) :=
  gd_loud (E := E_19 N) (p := fun (x : aden ap_19 × hden hp_19) k => p_19 N x (fun y => k (Pat.inst (.sl 0) y.1) (instH J5 y.2))) mixed tyok (eok_19 N) Try.func19 (by kernel_rfl) (by kernel_rfl) (by kernel_rfl) (by kernel_rfl) (lok_19 N) (fun x k => run_19 N x k)

def lv_16_9 : Live := [(0, none), (1, none), (5, none), (6, none)]
def pt_16_9 : SPat := ⟨[(0, .sl 0), (1, .sl 1), (5, .int .i64), (6, .int .i64)], J3⟩
def px_16_9_0 : SPat := ⟨[(4, .bool)], J3⟩
def px_16_9_1 : SPat := ⟨[(0, .sl 0), (1, .sl 1), (5, .int .i64)], J3⟩
def lo_16_9 : Exit → Live
  | .ret => [(4, none)]
  | .exit 2 => [(0, none), (1, none), (5, none)]
  | _ => []
def lv_16_4 : Live := [(0, none), (1, none), (5, none)]
def pt_16_4 : SPat := ⟨[(0, .sl 0), (1, .sl 1), (5, .int .i64)], J3⟩
def px_16_4_0 : SPat := ⟨[(4, .bool)], J3⟩
def px_16_4_1 : SPat := ⟨[], J3⟩
def lo_16_4 : Exit → Live
  | .ret => [(4, none)]
  | .exit 0 => []
  | _ => []
def ap_16 : List Pat := [.sl 0, .sl 1]
def hp_16 : List (Option (Pat × Nat)) := J3
abbrev Tl_16_9 (R : Type) : Type := (Y19 × (Y5 × Y5 × Unit)) → (((Bool × Unit) × (Y5 × Y5 × Unit)) → Option R) → (((Unit × Unit × Int × Unit) × (Y5 × Y5 × Unit)) → Option R) → Option R
abbrev Tl_16_4 (R : Type) : Type := ((Unit × Unit × Int × Unit) × (Y5 × Y5 × Unit)) → (((Bool × Unit) × (Y5 × Y5 × Unit)) → Option R) → (((Unit) × (Y5 × Y5 × Unit)) → Option R) → Option R
abbrev Tp_16 (R : Type) : Type := (Unit × Unit × Unit) × (Y5 × Y5 × Unit) → ((Bool × (Y5 × Y5 × Unit)) → Option R) → Option R
def C_16_9 {R : Type} (rec : (Y19 × (Y5 × Y5 × Unit)) → Option R) (x : (Y19 × (Y5 × Y5 × Unit))) (κ0 : ((Bool × Unit) × (Y5 × Y5 × Unit)) → Option R) (κ1 : ((Unit × Unit × Int × Unit) × (Y5 × Y5 × Unit)) → Option R) : Option R :=
let i3152 := x.1.2.2.1
let i3153 := x.1.2.2.2.1
let r3154 := x.2.1
let r3155 := x.2.2.1
bif decide (0 ≤ i3152) then (
bif decide (i3152 < ((List.length r3154) : Int)) then (
let i3156 : Int := (((List.length ((List.getD r3154 ((Int.toNat i3152)) []))) : Nat) : Int)
bif (decide (i3153 < i3156)) then (
bif decide (0 ≤ i3152) then (
bif decide (i3152 < ((List.length r3154) : Int)) then (
bif decide (0 ≤ i3153) then (
bif decide (i3153 < ((List.length ((List.getD r3154 ((Int.toNat i3152)) []))) : Int)) then (
let a3157 : (Nat → Int) := (List.getD ((List.getD r3154 ((Int.toNat i3152)) [])) ((Int.toNat i3153)) (Sch.zero (.arr 128 (.int .u64))))
bif decide (0 ≤ i3152) then (
bif decide (i3152 < ((List.length r3155) : Int)) then (
bif decide (0 ≤ i3153) then (
bif decide (i3153 < ((List.length ((List.getD r3155 ((Int.toNat i3152)) []))) : Int)) then (
let a3158 : (Nat → Int) := (List.getD ((List.getD r3155 ((Int.toNat i3152)) [])) ((Int.toNat i3153)) (Sch.zero (.arr 128 (.int .u64))))
bif (!(schEq (.arr 128 (.int .u64)) a3157 a3158)) then (
κ0 ((false, ()), (r3154, r3155, ()))) else (
let i3159 : Int := addA .i64 i3153 1
rec (((), (), i3152, i3159, ()), (r3154, r3155, ())))) else none) else none) else none) else none) else none) else none) else none) else none) else (
κ1 (((), (), i3152, ()), (r3154, r3155, ())))) else none) else none
def C_16_4 {R : Type} (m_16_9 : Tl_16_9 R) (rec : ((Unit × Unit × Int × Unit) × (Y5 × Y5 × Unit)) → Option R) (x : ((Unit × Unit × Int × Unit) × (Y5 × Y5 × Unit))) (κ0 : ((Bool × Unit) × (Y5 × Y5 × Unit)) → Option R) (κ1 : ((Unit) × (Y5 × Y5 × Unit)) → Option R) : Option R :=
let i3146 := x.1.2.2.1
let r3147 := x.2.1
let r3148 := x.2.2.1
let i3149 : Int := (((List.length r3147) : Nat) : Int)
bif (decide (i3146 < i3149)) then (
bif decide (0 ≤ i3146) then (
bif decide (i3146 < ((List.length r3147) : Int)) then (
let i3150 : Int := (((List.length ((List.getD r3147 ((Int.toNat i3146)) []))) : Nat) : Int)
bif decide (0 ≤ i3146) then (
bif decide (i3146 < ((List.length r3148) : Int)) then (
let i3151 : Int := (((List.length ((List.getD r3148 ((Int.toNat i3146)) []))) : Nat) : Int)
bif (i3150 != i3151) then (
κ0 ((false, ()), (r3147, r3148, ()))) else (
m_16_9 (((), (), i3146, 0, ()), (r3147, r3148, ())) (fun y3160 =>
let r3162 := y3160.2.1
let r3163 := y3160.2.2.1
κ0 (y3160.1, (r3162, r3163, ()))) (fun y3164 =>
let i3165 := y3164.1.2.2.1
let r3166 := y3164.2.1
let r3167 := y3164.2.2.1
let i3168 : Int := addA .i64 i3165 1
rec (((), (), i3168, ()), (r3166, r3167, ()))))) else none) else none) else none) else none) else (
κ1 ((), (r3147, r3148, ())))
def B_16_9 {R : Type} (N : Nat) (rec : (Y19 × (Y5 × Y5 × Unit)) → Option R) (x : (Y19 × (Y5 × Y5 × Unit))) (κ0 : ((Bool × Unit) × (Y5 × Y5 × Unit)) → Option R) (κ1 : ((Unit × Unit × Int × Unit) × (Y5 × Y5 × Unit)) → Option R) : Option R := C_16_9 rec x κ0 κ1
def l_16_9 {R : Type} (N : Nat) : Nat → (Y19 × (Y5 × Y5 × Unit)) → (((Bool × Unit) × (Y5 × Y5 × Unit)) → Option R) → (((Unit × Unit × Int × Unit) × (Y5 × Y5 × Unit)) → Option R) → Option R
  | 0, _, _, _ => none
  | n + 1, x, κ0, κ1 => B_16_9 N (fun y => l_16_9 N n y κ0 κ1) x κ0 κ1
def B_16_4 {R : Type} (N : Nat) (rec : ((Unit × Unit × Int × Unit) × (Y5 × Y5 × Unit)) → Option R) (x : ((Unit × Unit × Int × Unit) × (Y5 × Y5 × Unit))) (κ0 : ((Bool × Unit) × (Y5 × Y5 × Unit)) → Option R) (κ1 : ((Unit) × (Y5 × Y5 × Unit)) → Option R) : Option R := C_16_4 (l_16_9 N N) rec x κ0 κ1
def l_16_4 {R : Type} (N : Nat) : Nat → ((Unit × Unit × Int × Unit) × (Y5 × Y5 × Unit)) → (((Bool × Unit) × (Y5 × Y5 × Unit)) → Option R) → (((Unit) × (Y5 × Y5 × Unit)) → Option R) → Option R
  | 0, _, _, _ => none
  | n + 1, x, κ0, κ1 => B_16_4 N (fun y => l_16_4 N n y κ0 κ1) x κ0 κ1
def Q_16 {R : Type} (m_16_9 : Tl_16_9 R) (m_16_4 : Tl_16_4 R) (x : (Unit × Unit × Unit) × (Y5 × Y5 × Unit)) (κ0 : (Bool × (Y5 × Y5 × Unit)) → Option R) : Option R :=
let r3142 := x.2.1
let r3143 := x.2.2.1
let i3144 : Int := (((List.length r3142) : Nat) : Int)
let i3145 : Int := (((List.length r3143) : Nat) : Int)
bif (i3144 != i3145) then (
κ0 (false, (r3142, r3143, ()))) else (
m_16_4 (((), (), 0, ()), (r3142, r3143, ())) (fun y3169 =>
let b3170 := y3169.1.1
let r3171 := y3169.2.1
let r3172 := y3169.2.2.1
κ0 (b3170, (r3171, r3172, ()))) (fun y3173 =>
let r3174 := y3173.2.1
let r3175 := y3173.2.2.1
κ0 (true, (r3174, r3175, ()))))
def p_16 {R : Type} (N : Nat) (x : (Unit × Unit × Unit) × (Y5 × Y5 × Unit)) (κ0 : (Bool × (Y5 × Y5 × Unit)) → Option R) : Option R := Q_16 (l_16_9 N N) (l_16_4 N N) x κ0
def EG_16 {R : Type} : Env R := Env.base QQ LN AA
def LG_16 {R : Type} (m_16_9 : Tl_16_9 R) (m_16_4 : Tl_16_4 R) : Loops R := ((Loops.none).add 9 (loopBy 2 lv_16_9 pt_16_9 (fun x k => m_16_9 x (fun y => k .ret (px_16_9_0.inst y)) (fun y => k (.exit 2) (px_16_9_1.inst y))))).add 4 (loopBy 2 lv_16_4 pt_16_4 (fun x k => m_16_4 x (fun y => k .ret (px_16_4_0.inst y)) (fun y => k (.exit 0) (px_16_4_1.inst y))))
def E_16 {R : Type} (N : Nat) : Env R := EG_16
theorem eok_16 {R : Type} (N : Nat) : EK Try.prog (E_16 (R := R) N) := ek_base _ _ _
def L_16 {R : Type} (N : Nat) : Loops R := LG_16 (l_16_9 N N) (l_16_4 N N)
theorem gstep_16_9 {R : Type} (m_16_9 : Tl_16_9 R) (m_16_4 : Tl_16_4 R) (n : Nat) (x : pt_16_9.den) (k : Exit → St → Option R) : iter 2 lv_16_9 lo_16_9 (aexec TT (EG_16) (drawAny TT WW) (LG_16 m_16_9 m_16_4) (loopAt 9 (bodyOf Try.f16))) (n + 1) (pt_16_9.inst x) k = C_16_9 (fun y => iter 2 lv_16_9 lo_16_9 (aexec TT (EG_16) (drawAny TT WW) (LG_16 m_16_9 m_16_4) (loopAt 9 (bodyOf Try.f16))) n (pt_16_9.inst y) k) x (fun y => k .ret (px_16_9_0.inst y)) (fun y => k (.exit 2) (px_16_9_1.inst y)) := by kernel_rfl
theorem step_16_9 {R : Type} (N n : Nat) (x : pt_16_9.den) (k : Exit → St → Option R) : iter 2 lv_16_9 lo_16_9 (aexec TT (E_16 (R := R) N) (drawAny TT WW) (L_16 N) (loopAt 9 (bodyOf Try.f16))) (n + 1) (pt_16_9.inst x) k = B_16_9 N (fun y => iter 2 lv_16_9 lo_16_9 (aexec TT (E_16 (R := R) N) (drawAny TT WW) (L_16 N) (loopAt 9 (bodyOf Try.f16))) n (pt_16_9.inst y) k) x (fun y => k .ret (px_16_9_0.inst y)) (fun y => k (.exit 2) (px_16_9_1.inst y)) := (gstep_16_9 (l_16_9 N N) (l_16_4 N N) n x k).trans (by kernel_rfl)
theorem eq_16_9 {R : Type} (N : Nat) : ∀ (n : Nat) (x : pt_16_9.den) (k : Exit → St → Option R), iter 2 lv_16_9 lo_16_9 (aexec TT (E_16 (R := R) N) (drawAny TT WW) (L_16 N) (loopAt 9 (bodyOf Try.f16))) n (pt_16_9.inst x) k = l_16_9 N n x (fun y => k .ret (px_16_9_0.inst y)) (fun y => k (.exit 2) (px_16_9_1.inst y)) :=
  iter_eq (K := Exit → St → Option R) (ks := fun k => k) (l := fun n (x : pt_16_9.den) k => l_16_9 N n x (fun y => k .ret (px_16_9_0.inst y)) (fun y => k (.exit 2) (px_16_9_1.inst y))) (B := fun (rec : pt_16_9.den → Option R) (x : pt_16_9.den) k => B_16_9 N rec x (fun y => k .ret (px_16_9_0.inst y)) (fun y => k (.exit 2) (px_16_9_1.inst y))) (fun _ _ => rfl) (fun _ _ _ => rfl) (fun n x k => step_16_9 N n x k)
theorem rounds_16_9 {R : Type} (N : Nat) : Rounds 2 TT (E_16 (R := R) N) (drawAny TT WW) (L_16 N) 9 (loopAt 9 (bodyOf Try.f16)) :=
  rounds_of (p := pt_16_9) (l := fun (x : pt_16_9.den) k => l_16_9 N N x (fun y => k .ret (px_16_9_0.inst y)) (fun y => k (.exit 2) (px_16_9_1.inst y))) (fun s k => rfl) (fun x k => eq_16_9 N N x k)
theorem gstep_16_4 {R : Type} (m_16_9 : Tl_16_9 R) (m_16_4 : Tl_16_4 R) (n : Nat) (x : pt_16_4.den) (k : Exit → St → Option R) : iter 2 lv_16_4 lo_16_4 (aexec TT (EG_16) (drawAny TT WW) (LG_16 m_16_9 m_16_4) (loopAt 4 (bodyOf Try.f16))) (n + 1) (pt_16_4.inst x) k = C_16_4 m_16_9 (fun y => iter 2 lv_16_4 lo_16_4 (aexec TT (EG_16) (drawAny TT WW) (LG_16 m_16_9 m_16_4) (loopAt 4 (bodyOf Try.f16))) n (pt_16_4.inst y) k) x (fun y => k .ret (px_16_4_0.inst y)) (fun y => k (.exit 0) (px_16_4_1.inst y)) := by kernel_rfl
theorem step_16_4 {R : Type} (N n : Nat) (x : pt_16_4.den) (k : Exit → St → Option R) : iter 2 lv_16_4 lo_16_4 (aexec TT (E_16 (R := R) N) (drawAny TT WW) (L_16 N) (loopAt 4 (bodyOf Try.f16))) (n + 1) (pt_16_4.inst x) k = B_16_4 N (fun y => iter 2 lv_16_4 lo_16_4 (aexec TT (E_16 (R := R) N) (drawAny TT WW) (L_16 N) (loopAt 4 (bodyOf Try.f16))) n (pt_16_4.inst y) k) x (fun y => k .ret (px_16_4_0.inst y)) (fun y => k (.exit 0) (px_16_4_1.inst y)) := (gstep_16_4 (l_16_9 N N) (l_16_4 N N) n x k).trans (by kernel_rfl)
theorem eq_16_4 {R : Type} (N : Nat) : ∀ (n : Nat) (x : pt_16_4.den) (k : Exit → St → Option R), iter 2 lv_16_4 lo_16_4 (aexec TT (E_16 (R := R) N) (drawAny TT WW) (L_16 N) (loopAt 4 (bodyOf Try.f16))) n (pt_16_4.inst x) k = l_16_4 N n x (fun y => k .ret (px_16_4_0.inst y)) (fun y => k (.exit 0) (px_16_4_1.inst y)) :=
  iter_eq (K := Exit → St → Option R) (ks := fun k => k) (l := fun n (x : pt_16_4.den) k => l_16_4 N n x (fun y => k .ret (px_16_4_0.inst y)) (fun y => k (.exit 0) (px_16_4_1.inst y))) (B := fun (rec : pt_16_4.den → Option R) (x : pt_16_4.den) k => B_16_4 N rec x (fun y => k .ret (px_16_4_0.inst y)) (fun y => k (.exit 0) (px_16_4_1.inst y))) (fun _ _ => rfl) (fun _ _ _ => rfl) (fun n x k => step_16_4 N n x k)
theorem rounds_16_4 {R : Type} (N : Nat) : Rounds 2 TT (E_16 (R := R) N) (drawAny TT WW) (L_16 N) 4 (loopAt 4 (bodyOf Try.f16)) :=
  rounds_of (p := pt_16_4) (l := fun (x : pt_16_4.den) k => l_16_4 N N x (fun y => k .ret (px_16_4_0.inst y)) (fun y => k (.exit 0) (px_16_4_1.inst y))) (fun s k => rfl) (fun x k => eq_16_4 N N x k)
theorem loops_16 : loopsIn (bodyOf Try.f16) = [(4, loopAt 4 (bodyOf Try.f16)), (9, loopAt 9 (bodyOf Try.f16))] := by kernel_rfl
theorem lok_16 {R : Type} (N : Nat) : LOK 2 TT (E_16 (R := R) N) (drawAny TT WW) (L_16 N) (bodyOf Try.f16) := loops_all loops_16 (by
  simp only [List.forall_mem_cons, List.not_mem_nil, false_implies, implies_true, and_true]
  exact ⟨rounds_16_4 N, rounds_16_9 N⟩)
theorem grun_16 {R : Type} (m_16_9 : Tl_16_9 R) (m_16_4 : Tl_16_4 R) (x : aden ap_16 × hden hp_16) (k : KF R) : fnrun TT (EG_16) (drawAny TT WW) (LG_16 m_16_9 m_16_4) true Try.f16 (instA ap_16 x.1) (instH hp_16 x.2) k = Q_16 m_16_9 m_16_4 x (fun y => k (Pat.inst (.bool) y.1) (instH J3 y.2)) := by kernel_rfl
theorem run_16 {R : Type} (N : Nat) (x : aden ap_16 × hden hp_16) (k : KF R) : fnrun TT (E_16 (R := R) N) (drawAny TT WW) (L_16 N) true Try.f16 (instA ap_16 x.1) (instH hp_16 x.2) k = p_16 N x (fun y => k (Pat.inst (.bool) y.1) (instH J3 y.2)) := (grun_16 (l_16_9 N N) (l_16_4 N N) x k).trans (by kernel_rfl)
theorem good_16 {R : Type} (N : Nat) : GD (X := R) Try.prog QQ AA 16 ap_16 hp_16 (fun (x : aden ap_16 × hden hp_16) k => p_16 N x (fun y => k (Pat.inst (.bool) y.1) (instH J3 y.2))) :=
  gd_loud (E := E_16 N) (p := fun (x : aden ap_16 × hden hp_16) k => p_16 N x (fun y => k (Pat.inst (.bool) y.1) (instH J3 y.2))) mixed tyok (eok_16 N) Try.func16 (by kernel_rfl) (by kernel_rfl) (by kernel_rfl) (by kernel_rfl) (lok_16 N) (fun x k => run_16 N x k)

def lv_48_6 : Live := [(2, none), (3, none), (8, none), (9, none), (10, none), (14, none), (15, none)]
def pt_48_6 : SPat := ⟨[(2, .ptr 1 []), (3, .ptr 2 []), (8, .sl 0), (9, .int .i64), (10, .int .i64), (14, .vec (.int .u64) 128), (15, .int .i64)], [some (.lst (.arr 128 (.int .u64)), 29), some (.vec (.int .u64) 128, 29), some (.vec (.int .u64) 128, 29)]⟩
def px_48_6_0 : SPat := ⟨[(2, .ptr 1 []), (3, .ptr 2 []), (8, .sl 0), (9, .int .i64), (10, .int .i64)], [some (.lst (.arr 128 (.int .u64)), 29), some (.vec (.int .u64) 128, 29), some (.vec (.int .u64) 128, 29)]⟩
def lo_48_6 : Exit → Live
  | .exit 2 => [(2, none), (3, none), (8, none), (9, none), (10, none)]
  | _ => []
def lv_48_3 : Live := [(2, none), (3, none), (8, none), (9, none), (10, none)]
def pt_48_3 : SPat := ⟨[(2, .ptr 1 []), (3, .ptr 2 []), (8, .sl 0), (9, .int .i64), (10, .int .i64)], [some (.lst (.arr 128 (.int .u64)), 29), some (.vec (.int .u64) 128, 29), some (.vec (.int .u64) 128, 29)]⟩
def px_48_3_0 : SPat := ⟨[(2, .ptr 1 []), (3, .ptr 2 [])], [some (.lst (.arr 128 (.int .u64)), 29), some (.vec (.int .u64) 128, 29), some (.vec (.int .u64) 128, 29)]⟩
def lo_48_3 : Exit → Live
  | .exit 0 => [(2, none), (3, none)]
  | _ => []
def ap_48 : List Pat := [.sl 0]
def hp_48 : List (Option (Pat × Nat)) := [some (.lst (.arr 128 (.int .u64)), 29)]
abbrev Tl_48_6 (R : Type) : Type := ((Unit × Unit × Unit × Int × Int × (Nat → Int) × Int × Unit) × Y15) → (((Unit × Unit × Unit × Int × Int × Unit) × Y15) → Option R) → Option R
abbrev Tl_48_3 (R : Type) : Type := ((Unit × Unit × Unit × Int × Int × Unit) × Y15) → (((Unit × Unit × Unit) × Y15) → Option R) → Option R
abbrev Tp_48 (R : Type) : Type := (Unit × Unit) × ((List (Nat → Int)) × Unit) → (((Nat → Int) × ((List (Nat → Int)) × Unit)) → Option R) → Option R
def C_48_6 {R : Type} (rec : ((Unit × Unit × Unit × Int × Int × (Nat → Int) × Int × Unit) × Y15) → Option R) (x : ((Unit × Unit × Unit × Int × Int × (Nat → Int) × Int × Unit) × Y15)) (κ0 : ((Unit × Unit × Unit × Int × Int × Unit) × Y15) → Option R) : Option R :=
let i3370 := x.1.2.2.2.1
let i3371 := x.1.2.2.2.2.1
let a3372 := x.1.2.2.2.2.2.1
let i3373 := x.1.2.2.2.2.2.2.1
let l3374 := x.2.1
let a3375 := x.2.2.1
let a3376 := x.2.2.2.1
bif (decide (i3373 < 128)) then (
bif decide (0 ≤ i3373) then (
bif decide (i3373 < (128 : Int)) then (
let i3377 : Int := (a3372 ((Int.toNat i3373)))
bif decide (0 ≤ i3373) then (
bif decide (i3373 < (128 : Int)) then (
let i3378 : Int := (a3376 ((Int.toNat i3373)))
let i3379 : Int := xorA .u64 i3378 i3377
bif decide (0 ≤ i3373) then (
bif decide (i3373 < (128 : Int)) then (
let a3380 : (Nat → Int) := (upd a3376 ((Int.toNat i3373)) i3379)
let i3381 : Int := addA .i64 i3373 1
rec (((), (), (), i3370, i3371, a3372, i3381, ()), (l3374, a3375, a3380, ()))) else none) else none) else none) else none) else none) else none) else (
κ0 (((), (), (), i3370, i3371, ()), (l3374, a3375, a3376, ())))
def C_48_3 {R : Type} (m_48_6 : Tl_48_6 R) (rec : ((Unit × Unit × Unit × Int × Int × Unit) × Y15) → Option R) (x : ((Unit × Unit × Unit × Int × Int × Unit) × Y15)) (κ0 : ((Unit × Unit × Unit) × Y15) → Option R) : Option R :=
let i3364 := x.1.2.2.2.1
let i3365 := x.1.2.2.2.2.1
let l3366 := x.2.1
let a3367 := x.2.2.1
let a3368 := x.2.2.2.1
bif (decide (i3365 < i3364)) then (
bif decide (0 ≤ i3365) then (
bif decide (i3365 < ((List.length l3366) : Int)) then (
let a3369 : (Nat → Int) := (List.getD l3366 ((Int.toNat i3365)) (Sch.zero (.arr 128 (.int .u64))))
m_48_6 (((), (), (), i3364, i3365, a3369, 0, ()), (l3366, a3367, a3368, ())) (fun y3382 =>
let i3383 := y3382.1.2.2.2.1
let i3384 := y3382.1.2.2.2.2.1
let l3385 := y3382.2.1
let a3386 := y3382.2.2.1
let a3387 := y3382.2.2.2.1
let i3388 : Int := addA .i64 i3384 1
rec (((), (), (), i3383, i3388, ()), (l3385, a3386, a3387, ())))) else none) else none) else (
κ0 (((), (), ()), (l3366, a3367, a3368, ())))
def B_48_6 {R : Type} (N : Nat) (rec : ((Unit × Unit × Unit × Int × Int × (Nat → Int) × Int × Unit) × Y15) → Option R) (x : ((Unit × Unit × Unit × Int × Int × (Nat → Int) × Int × Unit) × Y15)) (κ0 : ((Unit × Unit × Unit × Int × Int × Unit) × Y15) → Option R) : Option R := C_48_6 rec x κ0
def l_48_6 {R : Type} (N : Nat) : Nat → ((Unit × Unit × Unit × Int × Int × (Nat → Int) × Int × Unit) × Y15) → (((Unit × Unit × Unit × Int × Int × Unit) × Y15) → Option R) → Option R
  | 0, _, _ => none
  | n + 1, x, κ0 => B_48_6 N (fun y => l_48_6 N n y κ0) x κ0
def B_48_3 {R : Type} (N : Nat) (rec : ((Unit × Unit × Unit × Int × Int × Unit) × Y15) → Option R) (x : ((Unit × Unit × Unit × Int × Int × Unit) × Y15)) (κ0 : ((Unit × Unit × Unit) × Y15) → Option R) : Option R := C_48_3 (l_48_6 N N) rec x κ0
def l_48_3 {R : Type} (N : Nat) : Nat → ((Unit × Unit × Unit × Int × Int × Unit) × Y15) → (((Unit × Unit × Unit) × Y15) → Option R) → Option R
  | 0, _, _ => none
  | n + 1, x, κ0 => B_48_3 N (fun y => l_48_3 N n y κ0) x κ0
def Q_48 {R : Type} (m_48_6 : Tl_48_6 R) (m_48_3 : Tl_48_3 R) (x : (Unit × Unit) × ((List (Nat → Int)) × Unit)) (κ0 : ((Nat → Int) × ((List (Nat → Int)) × Unit)) → Option R) : Option R :=
let l3362 := x.2.1
let i3363 : Int := (((List.length l3362) : Nat) : Int)
m_48_3 (((), (), (), i3363, 0, ()), (l3362, (Sch.zero (.arr 128 (.int .u64))), (Sch.zero (.arr 128 (.int .u64))), ())) (fun y3389 =>
let l3390 := y3389.2.1
let a3392 := y3389.2.2.2.1
κ0 (a3392, (l3390, ())))
def p_48 {R : Type} (N : Nat) (x : (Unit × Unit) × ((List (Nat → Int)) × Unit)) (κ0 : ((Nat → Int) × ((List (Nat → Int)) × Unit)) → Option R) : Option R := Q_48 (l_48_6 N N) (l_48_3 N N) x κ0
def EG_48 {R : Type} : Env R := Env.base QQ LN AA
def LG_48 {R : Type} (m_48_6 : Tl_48_6 R) (m_48_3 : Tl_48_3 R) : Loops R := ((Loops.none).add 6 (loopBy 1 lv_48_6 pt_48_6 (fun x k => m_48_6 x (fun y => k (.exit 2) (px_48_6_0.inst y))))).add 3 (loopBy 1 lv_48_3 pt_48_3 (fun x k => m_48_3 x (fun y => k (.exit 0) (px_48_3_0.inst y))))
def E_48 {R : Type} (N : Nat) : Env R := EG_48
theorem eok_48 {R : Type} (N : Nat) : EK Try.prog (E_48 (R := R) N) := ek_base _ _ _
def L_48 {R : Type} (N : Nat) : Loops R := LG_48 (l_48_6 N N) (l_48_3 N N)
theorem gstep_48_6 {R : Type} (m_48_6 : Tl_48_6 R) (m_48_3 : Tl_48_3 R) (n : Nat) (x : pt_48_6.den) (k : Exit → St → Option R) : iter 1 lv_48_6 lo_48_6 (aexec TT (EG_48) (drawAny TT WW) (LG_48 m_48_6 m_48_3) (loopAt 6 (bodyOf Try.f48))) (n + 1) (pt_48_6.inst x) k = C_48_6 (fun y => iter 1 lv_48_6 lo_48_6 (aexec TT (EG_48) (drawAny TT WW) (LG_48 m_48_6 m_48_3) (loopAt 6 (bodyOf Try.f48))) n (pt_48_6.inst y) k) x (fun y => k (.exit 2) (px_48_6_0.inst y)) := by kernel_rfl
theorem step_48_6 {R : Type} (N n : Nat) (x : pt_48_6.den) (k : Exit → St → Option R) : iter 1 lv_48_6 lo_48_6 (aexec TT (E_48 (R := R) N) (drawAny TT WW) (L_48 N) (loopAt 6 (bodyOf Try.f48))) (n + 1) (pt_48_6.inst x) k = B_48_6 N (fun y => iter 1 lv_48_6 lo_48_6 (aexec TT (E_48 (R := R) N) (drawAny TT WW) (L_48 N) (loopAt 6 (bodyOf Try.f48))) n (pt_48_6.inst y) k) x (fun y => k (.exit 2) (px_48_6_0.inst y)) := (gstep_48_6 (l_48_6 N N) (l_48_3 N N) n x k).trans (by kernel_rfl)
theorem eq_48_6 {R : Type} (N : Nat) : ∀ (n : Nat) (x : pt_48_6.den) (k : Exit → St → Option R), iter 1 lv_48_6 lo_48_6 (aexec TT (E_48 (R := R) N) (drawAny TT WW) (L_48 N) (loopAt 6 (bodyOf Try.f48))) n (pt_48_6.inst x) k = l_48_6 N n x (fun y => k (.exit 2) (px_48_6_0.inst y)) :=
  iter_eq (K := Exit → St → Option R) (ks := fun k => k) (l := fun n (x : pt_48_6.den) k => l_48_6 N n x (fun y => k (.exit 2) (px_48_6_0.inst y))) (B := fun (rec : pt_48_6.den → Option R) (x : pt_48_6.den) k => B_48_6 N rec x (fun y => k (.exit 2) (px_48_6_0.inst y))) (fun _ _ => rfl) (fun _ _ _ => rfl) (fun n x k => step_48_6 N n x k)
theorem rounds_48_6 {R : Type} (N : Nat) : Rounds 1 TT (E_48 (R := R) N) (drawAny TT WW) (L_48 N) 6 (loopAt 6 (bodyOf Try.f48)) :=
  rounds_of (p := pt_48_6) (l := fun (x : pt_48_6.den) k => l_48_6 N N x (fun y => k (.exit 2) (px_48_6_0.inst y))) (fun s k => rfl) (fun x k => eq_48_6 N N x k)
theorem gstep_48_3 {R : Type} (m_48_6 : Tl_48_6 R) (m_48_3 : Tl_48_3 R) (n : Nat) (x : pt_48_3.den) (k : Exit → St → Option R) : iter 1 lv_48_3 lo_48_3 (aexec TT (EG_48) (drawAny TT WW) (LG_48 m_48_6 m_48_3) (loopAt 3 (bodyOf Try.f48))) (n + 1) (pt_48_3.inst x) k = C_48_3 m_48_6 (fun y => iter 1 lv_48_3 lo_48_3 (aexec TT (EG_48) (drawAny TT WW) (LG_48 m_48_6 m_48_3) (loopAt 3 (bodyOf Try.f48))) n (pt_48_3.inst y) k) x (fun y => k (.exit 0) (px_48_3_0.inst y)) := by kernel_rfl
theorem step_48_3 {R : Type} (N n : Nat) (x : pt_48_3.den) (k : Exit → St → Option R) : iter 1 lv_48_3 lo_48_3 (aexec TT (E_48 (R := R) N) (drawAny TT WW) (L_48 N) (loopAt 3 (bodyOf Try.f48))) (n + 1) (pt_48_3.inst x) k = B_48_3 N (fun y => iter 1 lv_48_3 lo_48_3 (aexec TT (E_48 (R := R) N) (drawAny TT WW) (L_48 N) (loopAt 3 (bodyOf Try.f48))) n (pt_48_3.inst y) k) x (fun y => k (.exit 0) (px_48_3_0.inst y)) := (gstep_48_3 (l_48_6 N N) (l_48_3 N N) n x k).trans (by kernel_rfl)
theorem eq_48_3 {R : Type} (N : Nat) : ∀ (n : Nat) (x : pt_48_3.den) (k : Exit → St → Option R), iter 1 lv_48_3 lo_48_3 (aexec TT (E_48 (R := R) N) (drawAny TT WW) (L_48 N) (loopAt 3 (bodyOf Try.f48))) n (pt_48_3.inst x) k = l_48_3 N n x (fun y => k (.exit 0) (px_48_3_0.inst y)) :=
  iter_eq (K := Exit → St → Option R) (ks := fun k => k) (l := fun n (x : pt_48_3.den) k => l_48_3 N n x (fun y => k (.exit 0) (px_48_3_0.inst y))) (B := fun (rec : pt_48_3.den → Option R) (x : pt_48_3.den) k => B_48_3 N rec x (fun y => k (.exit 0) (px_48_3_0.inst y))) (fun _ _ => rfl) (fun _ _ _ => rfl) (fun n x k => step_48_3 N n x k)
theorem rounds_48_3 {R : Type} (N : Nat) : Rounds 1 TT (E_48 (R := R) N) (drawAny TT WW) (L_48 N) 3 (loopAt 3 (bodyOf Try.f48)) :=
  rounds_of (p := pt_48_3) (l := fun (x : pt_48_3.den) k => l_48_3 N N x (fun y => k (.exit 0) (px_48_3_0.inst y))) (fun s k => rfl) (fun x k => eq_48_3 N N x k)
theorem loops_48 : loopsIn (bodyOf Try.f48) = [(3, loopAt 3 (bodyOf Try.f48)), (6, loopAt 6 (bodyOf Try.f48))] := by kernel_rfl
theorem lok_48 {R : Type} (N : Nat) : LOK 1 TT (E_48 (R := R) N) (drawAny TT WW) (L_48 N) (bodyOf Try.f48) := loops_all loops_48 (by
  simp only [List.forall_mem_cons, List.not_mem_nil, false_implies, implies_true, and_true]
  exact ⟨rounds_48_3 N, rounds_48_6 N⟩)
theorem grun_48 {R : Type} (m_48_6 : Tl_48_6 R) (m_48_3 : Tl_48_3 R) (x : aden ap_48 × hden hp_48) (k : KF R) : fnrun TT (EG_48) (drawAny TT WW) (LG_48 m_48_6 m_48_3) true Try.f48 (instA ap_48 x.1) (instH hp_48 x.2) k = Q_48 m_48_6 m_48_3 x (fun y => k (Pat.inst (.vec (.int .u64) 128) y.1) (instH [some (.lst (.arr 128 (.int .u64)), 29)] y.2)) := by kernel_rfl
theorem run_48 {R : Type} (N : Nat) (x : aden ap_48 × hden hp_48) (k : KF R) : fnrun TT (E_48 (R := R) N) (drawAny TT WW) (L_48 N) true Try.f48 (instA ap_48 x.1) (instH hp_48 x.2) k = p_48 N x (fun y => k (Pat.inst (.vec (.int .u64) 128) y.1) (instH [some (.lst (.arr 128 (.int .u64)), 29)] y.2)) := (grun_48 (l_48_6 N N) (l_48_3 N N) x k).trans (by kernel_rfl)
theorem good_48 {R : Type} (N : Nat) : GD (X := R) Try.prog QQ AA 48 ap_48 hp_48 (fun (x : aden ap_48 × hden hp_48) k => p_48 N x (fun y => k (Pat.inst (.vec (.int .u64) 128) y.1) (instH [some (.lst (.arr 128 (.int .u64)), 29)] y.2))) :=
  gd_loud (E := E_48 N) (p := fun (x : aden ap_48 × hden hp_48) k => p_48 N x (fun y => k (Pat.inst (.vec (.int .u64) 128) y.1) (instH [some (.lst (.arr 128 (.int .u64)), 29)] y.2))) mixed tyok (eok_48 N) Try.func48 (by kernel_rfl) (by kernel_rfl) (by kernel_rfl) (by kernel_rfl) (lok_48 N) (fun x k => run_48 N x k)

def lv_10_5 : Live := [(0, none), (2, none), (4, some (.arr 128 (.int .u64), 29)), (15, none), (16, none)]
def pt_10_5 : SPat := ⟨[(0, .ptr 0 []), (2, .ptr 4 []), (4, .sl 5), (15, .int .i64), (16, .int .i64)], [some (Z5, 49), some (Z2, 147), some (Z1, 145), some (.lst (.arr 128 (.int .u64)), 29), some (.vec (.int .u64) 128, 29), some (.lst (.arr 128 (.int .u64)), 29)]⟩
def px_10_5_0 : SPat := ⟨[(2, .ptr 4 []), (3, .int .i64)], [some (Z5, 49), some (Z2, 147), some (Z1, 145), some (.lst (.arr 128 (.int .u64)), 29), some (.vec (.int .u64) 128, 29)]⟩
def px_10_5_1 : SPat := ⟨[(2, .ptr 4 []), (4, .sl 5)], [some (Z5, 49), some (Z2, 147), some (Z1, 145), some (.lst (.arr 128 (.int .u64)), 29), some (.vec (.int .u64) 128, 29), some (.lst (.arr 128 (.int .u64)), 29)]⟩
def lo_10_5 : Exit → Live
  | .ret => [(2, none), (3, none)]
  | .exit 0 => [(2, none), (4, none)]
  | _ => []
def ap_10 : List Pat := [.ptr 0 []]
def hp_10 : List (Option (Pat × Nat)) := J0
abbrev Tl_10_5 (R : Type) : Type := ((Unit × Unit × Unit × Int × Int × Unit) × Y18) → (((Unit × Int × Unit) × ((Unit × (Y1 × Unit)) × Y11 × Y7 × (List (Nat → Int)) × (Nat → Int) × Unit)) → Option R) → (((Unit × Unit × Unit) × Y18) → Option R) → Option R
abbrev Tp_10 (R : Type) : Type := (Unit × Unit) × Y0 → ((((Nat → Int) × (Int × Unit)) × Y0) → Option R) → Option R
def C_10_5 {R : Type} (q_9 : Tp_9 R) (rec : ((Unit × Unit × Unit × Int × Int × Unit) × Y18) → Option R) (x : ((Unit × Unit × Unit × Int × Int × Unit) × Y18)) (κ0 : ((Unit × Int × Unit) × ((Unit × (Y1 × Unit)) × Y11 × Y7 × (List (Nat → Int)) × (Nat → Int) × Unit)) → Option R) (κ1 : ((Unit × Unit × Unit) × Y18) → Option R) : Option R :=
let i3302 := x.1.2.2.2.1
let i3303 := x.1.2.2.2.2.1
let i3309 := x.2.1.2.1.2.2.2.2.2.1
let l3317 := x.2.2.2.2.1
let a3318 := x.2.2.2.2.2.1
let l3319 := x.2.2.2.2.2.2.1
bif (decide (i3303 < i3302)) then (
let i3320 : Int := subA .i64 i3309 1
q_9 (((), (i3303, (i3320, ())), ()), (x.2.1, x.2.2.1, x.2.2.2.1, l3317, ())) (fun y3321 =>
let a3322 := y3321.1
let i3323 := y3321.2.1
bif (i3323 != 0) then (
let a3324 : (Nat → Int) := (Sch.zero (.arr 128 (.int .u64)))
κ0 (((), i3323, ()), (x.2.1, x.2.2.1, x.2.2.2.1, l3317, a3324, ()))) else (
let l3325 : (List (Nat → Int)) := [a3322]
bif (decide ((List.length l3319 + List.length l3325) * 1024 ≤ 140737488355328) && true) then (
let l3326 : (List (Nat → Int)) := (l3319 ++ l3325)
let i3327 : Int := addA .i64 i3303 1
rec (((), (), (), i3302, i3327, ()), (x.2.1, x.2.2.1, x.2.2.2.1, l3317, a3318, l3326, ()))) else none))) else (
κ1 (((), (), ()), (x.2.1, x.2.2.1, x.2.2.2.1, l3317, a3318, l3319, ())))
def B_10_5 {R : Type} (N : Nat) (rec : ((Unit × Unit × Unit × Int × Int × Unit) × Y18) → Option R) (x : ((Unit × Unit × Unit × Int × Int × Unit) × Y18)) (κ0 : ((Unit × Int × Unit) × ((Unit × (Y1 × Unit)) × Y11 × Y7 × (List (Nat → Int)) × (Nat → Int) × Unit)) → Option R) (κ1 : ((Unit × Unit × Unit) × Y18) → Option R) : Option R := C_10_5 (p_9 N) rec x κ0 κ1
def l_10_5 {R : Type} (N : Nat) : Nat → ((Unit × Unit × Unit × Int × Int × Unit) × Y18) → (((Unit × Int × Unit) × ((Unit × (Y1 × Unit)) × Y11 × Y7 × (List (Nat → Int)) × (Nat → Int) × Unit)) → Option R) → (((Unit × Unit × Unit) × Y18) → Option R) → Option R
  | 0, _, _, _ => none
  | n + 1, x, κ0, κ1 => B_10_5 N (fun y => l_10_5 N n y κ0 κ1) x κ0 κ1
def Q_10 {R : Type} (q_48 : Tp_48 R) (q_9 : Tp_9 R) (m_10_5 : Tl_10_5 R) (x : (Unit × Unit) × Y0) (κ0 : (((Nat → Int) × (Int × Unit)) × Y0) → Option R) : Option R :=
let i3266 := x.2.1.2.1.2.2.1
let l3277 := x.2.2.2.2.1
m_10_5 (((), (), (), i3266, 0, ()), (x.2.1, x.2.2.1, x.2.2.2.1, l3277, (Sch.zero (.arr 128 (.int .u64))), [], ())) (fun y3328 =>
let l3343 := y3328.2.2.2.2.1
let a3344 := y3328.2.2.2.2.2.1
κ0 ((a3344, y3328.1.2), (y3328.2.1, y3328.2.2.1, y3328.2.2.2.1, l3343, ()))) (fun y3345 =>
let l3359 := y3345.2.2.2.2.1
let l3361 := y3345.2.2.2.2.2.2.1
q_48 (((), ()), (l3361, ())) (fun y3393 =>
let a3394 := y3393.1
κ0 ((a3394, (0, ())), (y3345.2.1, y3345.2.2.1, y3345.2.2.2.1, l3359, ()))))
def p_10 {R : Type} (N : Nat) (x : (Unit × Unit) × Y0) (κ0 : (((Nat → Int) × (Int × Unit)) × Y0) → Option R) : Option R := Q_10 (p_48 N) (p_9 N) (l_10_5 N N) x κ0
def EG_10 {R : Type} (q_48 : Tp_48 R) (q_9 : Tp_9 R) : Env R := ((Env.base QQ LN AA).add 48 ap_48 hp_48 (fun (x : aden ap_48 × hden hp_48) k => q_48 x (fun y => k (Pat.inst (.vec (.int .u64) 128) y.1) (instH [some (.lst (.arr 128 (.int .u64)), 29)] y.2)))).add 9 ap_9 hp_9 (fun (x : aden ap_9 × hden hp_9) k => q_9 x (fun y => k (Pat.inst (.tup (.fcons (.vec (.int .u64) 128) (.fcons (.int .i64) (.fnil)))) y) (instH hp_9 x.2)))
def LG_10 {R : Type} (m_10_5 : Tl_10_5 R) : Loops R := (Loops.none).add 5 (loopBy 4 lv_10_5 pt_10_5 (fun x k => m_10_5 x (fun y => k .ret (px_10_5_0.inst y)) (fun y => k (.exit 0) (px_10_5_1.inst y))))
def E_10 {R : Type} (N : Nat) : Env R := EG_10 (p_48 N) (p_9 N)
theorem eok_10 {R : Type} (N : Nat) : EK Try.prog (E_10 (R := R) N) := ek_add (ek_add (ek_base _ _ _) (good_48 N)) (good_9 N)
def L_10 {R : Type} (N : Nat) : Loops R := LG_10 (l_10_5 N N)
theorem gstep_10_5 {R : Type} (q_48 : Tp_48 R) (q_9 : Tp_9 R) (m_10_5 : Tl_10_5 R) (n : Nat) (x : pt_10_5.den) (k : Exit → St → Option R) : iter 4 lv_10_5 lo_10_5 (aexec TT (EG_10 q_48 q_9) (drawAny TT WW) (LG_10 m_10_5) (loopAt 5 (bodyOf Try.f10))) (n + 1) (pt_10_5.inst x) k = C_10_5 q_9 (fun y => iter 4 lv_10_5 lo_10_5 (aexec TT (EG_10 q_48 q_9) (drawAny TT WW) (LG_10 m_10_5) (loopAt 5 (bodyOf Try.f10))) n (pt_10_5.inst y) k) x (fun y => k .ret (px_10_5_0.inst y)) (fun y => k (.exit 0) (px_10_5_1.inst y)) := by kernel_rfl
theorem step_10_5 {R : Type} (N n : Nat) (x : pt_10_5.den) (k : Exit → St → Option R) : iter 4 lv_10_5 lo_10_5 (aexec TT (E_10 (R := R) N) (drawAny TT WW) (L_10 N) (loopAt 5 (bodyOf Try.f10))) (n + 1) (pt_10_5.inst x) k = B_10_5 N (fun y => iter 4 lv_10_5 lo_10_5 (aexec TT (E_10 (R := R) N) (drawAny TT WW) (L_10 N) (loopAt 5 (bodyOf Try.f10))) n (pt_10_5.inst y) k) x (fun y => k .ret (px_10_5_0.inst y)) (fun y => k (.exit 0) (px_10_5_1.inst y)) := (gstep_10_5 (p_48 N) (p_9 N) (l_10_5 N N) n x k).trans (by kernel_rfl)
theorem eq_10_5 {R : Type} (N : Nat) : ∀ (n : Nat) (x : pt_10_5.den) (k : Exit → St → Option R), iter 4 lv_10_5 lo_10_5 (aexec TT (E_10 (R := R) N) (drawAny TT WW) (L_10 N) (loopAt 5 (bodyOf Try.f10))) n (pt_10_5.inst x) k = l_10_5 N n x (fun y => k .ret (px_10_5_0.inst y)) (fun y => k (.exit 0) (px_10_5_1.inst y)) :=
  iter_eq (K := Exit → St → Option R) (ks := fun k => k) (l := fun n (x : pt_10_5.den) k => l_10_5 N n x (fun y => k .ret (px_10_5_0.inst y)) (fun y => k (.exit 0) (px_10_5_1.inst y))) (B := fun (rec : pt_10_5.den → Option R) (x : pt_10_5.den) k => B_10_5 N rec x (fun y => k .ret (px_10_5_0.inst y)) (fun y => k (.exit 0) (px_10_5_1.inst y))) (fun _ _ => rfl) (fun _ _ _ => rfl) (fun n x k => step_10_5 N n x k)
theorem rounds_10_5 {R : Type} (N : Nat) : Rounds 4 TT (E_10 (R := R) N) (drawAny TT WW) (L_10 N) 5 (loopAt 5 (bodyOf Try.f10)) :=
  rounds_of (p := pt_10_5) (l := fun (x : pt_10_5.den) k => l_10_5 N N x (fun y => k .ret (px_10_5_0.inst y)) (fun y => k (.exit 0) (px_10_5_1.inst y))) (fun s k => rfl) (fun x k => eq_10_5 N N x k)
theorem loops_10 : loopsIn (bodyOf Try.f10) = [(5, loopAt 5 (bodyOf Try.f10))] := by kernel_rfl
theorem lok_10 {R : Type} (N : Nat) : LOK 4 TT (E_10 (R := R) N) (drawAny TT WW) (L_10 N) (bodyOf Try.f10) := loops_all loops_10 (by
  simp only [List.forall_mem_cons, List.not_mem_nil, false_implies, implies_true, and_true]
  exact rounds_10_5 N)
theorem grun_10 {R : Type} (q_48 : Tp_48 R) (q_9 : Tp_9 R) (m_10_5 : Tl_10_5 R) (x : aden ap_10 × hden hp_10) (k : KF R) : fnrun TT (EG_10 q_48 q_9) (drawAny TT WW) (LG_10 m_10_5) true Try.f10 (instA ap_10 x.1) (instH hp_10 x.2) k = Q_10 q_48 q_9 m_10_5 x (fun y => k (Pat.inst (.tup (.fcons (.vec (.int .u64) 128) (.fcons (.int .i64) (.fnil)))) y.1) (instH J0 y.2)) := by kernel_rfl
theorem run_10 {R : Type} (N : Nat) (x : aden ap_10 × hden hp_10) (k : KF R) : fnrun TT (E_10 (R := R) N) (drawAny TT WW) (L_10 N) true Try.f10 (instA ap_10 x.1) (instH hp_10 x.2) k = p_10 N x (fun y => k (Pat.inst (.tup (.fcons (.vec (.int .u64) 128) (.fcons (.int .i64) (.fnil)))) y.1) (instH J0 y.2)) := (grun_10 (p_48 N) (p_9 N) (l_10_5 N N) x k).trans (by kernel_rfl)
theorem good_10 {R : Type} (N : Nat) : GD (X := R) Try.prog QQ AA 10 ap_10 hp_10 (fun (x : aden ap_10 × hden hp_10) k => p_10 N x (fun y => k (Pat.inst (.tup (.fcons (.vec (.int .u64) 128) (.fcons (.int .i64) (.fnil)))) y.1) (instH J0 y.2))) :=
  gd_loud (E := E_10 N) (p := fun (x : aden ap_10 × hden hp_10) k => p_10 N x (fun y => k (Pat.inst (.tup (.fcons (.vec (.int .u64) 128) (.fcons (.int .i64) (.fnil)))) y.1) (instH J0 y.2))) mixed tyok (eok_10 N) Try.func10 (by kernel_rfl) (by kernel_rfl) (by kernel_rfl) (by kernel_rfl) (lok_10 N) (fun x k => run_10 N x k)

def ap_50 : List Pat := [.vec (.int .u64) 128]
def hp_50 : List (Option (Pat × Nat)) := []
abbrev Tp_50 (R : Type) : Type := ((Nat → Int) × Unit) × (Unit) → (ByteArray → Option R) → Option R
def Q_50 {R : Type} (q_83 : Tp_83 R) (x : ((Nat → Int) × Unit) × (Unit)) (κ0 : ByteArray → Option R) : Option R :=
let a3413 := x.1.1
q_83 ((((List.range 128).map fun j => a3413 (0 + j)), ()), ()) (fun y3414 =>
let l3415 := y3414.2.1
let s3416 : ByteArray := listStr l3415
κ0 s3416)
def p_50 {R : Type} (N : Nat) (x : ((Nat → Int) × Unit) × (Unit)) (κ0 : ByteArray → Option R) : Option R := Q_50 (p_83 N) x κ0
def EG_50 {R : Type} (q_83 : Tp_83 R) : Env R := (Env.base QQ LN AA).add 83 ap_83 hp_83 (fun (x : aden ap_83 × hden hp_83) k => q_83 x (fun y => k (Pat.inst (.sl 0) y.1) (instH J4 y.2)))
def LG_50 {R : Type} : Loops R := Loops.none
def E_50 {R : Type} (N : Nat) : Env R := EG_50 (p_83 N)
theorem eok_50 {R : Type} (N : Nat) : EK Try.prog (E_50 (R := R) N) := ek_add (ek_base _ _ _) (good_83 N)
def L_50 {R : Type} (N : Nat) : Loops R := LG_50
theorem lok_50 {R : Type} (N : Nat) : LOK 0 TT (E_50 (R := R) N) (drawAny TT WW) (L_50 N) (bodyOf Try.f50) := loops_nil (by kernel_rfl)
theorem grun_50 {R : Type} (q_83 : Tp_83 R) (x : aden ap_50 × hden hp_50) (k : KF R) : fnrun TT (EG_50 q_83) (drawAny TT WW) (LG_50) true Try.f50 (instA ap_50 x.1) (instH hp_50 x.2) k = Q_50 q_83 x (fun y => k (Pat.inst (.str) y) (instH hp_50 x.2)) := by kernel_rfl
theorem run_50 {R : Type} (N : Nat) (x : aden ap_50 × hden hp_50) (k : KF R) : fnrun TT (E_50 (R := R) N) (drawAny TT WW) (L_50 N) true Try.f50 (instA ap_50 x.1) (instH hp_50 x.2) k = p_50 N x (fun y => k (Pat.inst (.str) y) (instH hp_50 x.2)) := (grun_50 (p_83 N) x k).trans (by kernel_rfl)
theorem good_50 {R : Type} (N : Nat) : GD (X := R) Try.prog QQ AA 50 ap_50 hp_50 (fun (x : aden ap_50 × hden hp_50) k => p_50 N x (fun y => k (Pat.inst (.str) y) (instH hp_50 x.2))) :=
  gd_quiet (E := E_50 N) (p := fun (x : aden ap_50 × hden hp_50) κ => p_50 N x (fun y => κ (Pat.inst (.str) y))) mixed tyok (eok_50 N) Try.func50 (by kernel_rfl) (by kernel_rfl) (lok_50 N) (fun x k => run_50 N x k)

def ap_11 : List Pat := [.ptr 0 []]
def hp_11 : List (Option (Pat × Nat)) := J0
abbrev Tp_11 (R : Type) : Type := (Unit × Unit) × Y0 → (((ByteArray × (Int × Unit)) × Y0) → Option R) → Option R
def Q_11 {R : Type} (q_10 : Tp_10 R) (q_50 : Tp_50 R) (q_49 : Tp_49 R) (x : (Unit × Unit) × Y0) (κ0 : ((ByteArray × (Int × Unit)) × Y0) → Option R) : Option R :=
let l3263 := x.2.2.2.2.1
q_10 (((), ()), (x.2.1, x.2.2.1, x.2.2.2.1, l3263, ())) (fun y3396 =>
let a3397 := y3396.1.1
let i3398 := y3396.1.2.1
let i3406 := y3396.2.1.2.1.2.2.2.2.2.2.2.1
let l3412 := y3396.2.2.2.2.1
bif (i3398 != 0) then (
κ0 ((⟨#[]⟩, y3396.1.2), (y3396.2.1, y3396.2.2.1, y3396.2.2.2.1, l3412, ()))) else (
q_50 ((a3397, ()), ()) (fun y3417 =>
let s3418 : ByteArray := y3417
let l3419 : (List ByteArray) := [s3418]
q_49 ((i3406, l3419, ()), ()) (fun y3420 =>
κ0 (y3420, (y3396.2.1, y3396.2.2.1, y3396.2.2.2.1, l3412, ()))))))
def p_11 {R : Type} (N : Nat) (x : (Unit × Unit) × Y0) (κ0 : ((ByteArray × (Int × Unit)) × Y0) → Option R) : Option R := Q_11 (p_10 N) (p_50 N) (p_49 N) x κ0
def EG_11 {R : Type} (q_10 : Tp_10 R) (q_50 : Tp_50 R) (q_49 : Tp_49 R) : Env R := (((Env.base QQ LN AA).add 10 ap_10 hp_10 (fun (x : aden ap_10 × hden hp_10) k => q_10 x (fun y => k (Pat.inst (.tup (.fcons (.vec (.int .u64) 128) (.fcons (.int .i64) (.fnil)))) y.1) (instH J0 y.2)))).add 50 ap_50 hp_50 (fun (x : aden ap_50 × hden hp_50) k => q_50 x (fun y => k (Pat.inst (.str) y) (instH hp_50 x.2)))).add 49 ap_49 hp_49 (fun (x : aden ap_49 × hden hp_49) k => q_49 x (fun y => k (Pat.inst (.tup (.fcons (.str) (.fcons (.int .i64) (.fnil)))) y) (instH hp_49 x.2)))
def LG_11 {R : Type} : Loops R := Loops.none
def E_11 {R : Type} (N : Nat) : Env R := EG_11 (p_10 N) (p_50 N) (p_49 N)
theorem eok_11 {R : Type} (N : Nat) : EK Try.prog (E_11 (R := R) N) := ek_add (ek_add (ek_add (ek_base _ _ _) (good_10 N)) (good_50 N)) (good_49 N)
def L_11 {R : Type} (N : Nat) : Loops R := LG_11
theorem lok_11 {R : Type} (N : Nat) : LOK 4 TT (E_11 (R := R) N) (drawAny TT WW) (L_11 N) (bodyOf Try.f11) := loops_nil (by kernel_rfl)
theorem grun_11 {R : Type} (q_10 : Tp_10 R) (q_50 : Tp_50 R) (q_49 : Tp_49 R) (x : aden ap_11 × hden hp_11) (k : KF R) : fnrun TT (EG_11 q_10 q_50 q_49) (drawAny TT WW) (LG_11) true Try.f11 (instA ap_11 x.1) (instH hp_11 x.2) k = Q_11 q_10 q_50 q_49 x (fun y => k (Pat.inst (.tup (.fcons (.str) (.fcons (.int .i64) (.fnil)))) y.1) (instH J0 y.2)) := by kernel_rfl
theorem run_11 {R : Type} (N : Nat) (x : aden ap_11 × hden hp_11) (k : KF R) : fnrun TT (E_11 (R := R) N) (drawAny TT WW) (L_11 N) true Try.f11 (instA ap_11 x.1) (instH hp_11 x.2) k = p_11 N x (fun y => k (Pat.inst (.tup (.fcons (.str) (.fcons (.int .i64) (.fnil)))) y.1) (instH J0 y.2)) := (grun_11 (p_10 N) (p_50 N) (p_49 N) x k).trans (by kernel_rfl)
theorem good_11 {R : Type} (N : Nat) : GD (X := R) Try.prog QQ AA 11 ap_11 hp_11 (fun (x : aden ap_11 × hden hp_11) k => p_11 N x (fun y => k (Pat.inst (.tup (.fcons (.str) (.fcons (.int .i64) (.fnil)))) y.1) (instH J0 y.2))) :=
  gd_loud (E := E_11 N) (p := fun (x : aden ap_11 × hden hp_11) k => p_11 N x (fun y => k (Pat.inst (.tup (.fcons (.str) (.fcons (.int .i64) (.fnil)))) y.1) (instH J0 y.2))) mixed tyok (eok_11 N) Try.func11 (by kernel_rfl) (by kernel_rfl) (by kernel_rfl) (by kernel_rfl) (lok_11 N) (fun x k => run_11 N x k)

def lv_60_6 : Live := [(0, none), (2, none), (3, none), (4, none), (5, none)]
def pt_60_6 : SPat := ⟨[(0, .ros (.arr 128 (.int .u64))), (2, .ptr 0 []), (3, .ptr 1 []), (4, .int .i64), (5, .int .i64)], J16⟩
def px_60_6_0 : SPat := ⟨[(0, .ros (.arr 128 (.int .u64))), (2, .ptr 0 []), (3, .ptr 1 []), (4, .int .i64)], J16⟩
def lo_60_6 : Exit → Live
  | .exit 2 => [(0, none), (2, none), (3, none), (4, none)]
  | _ => []
def lv_60_3 : Live := [(0, none), (2, none), (3, none), (4, none)]
def pt_60_3 : SPat := ⟨[(0, .ros (.arr 128 (.int .u64))), (2, .ptr 0 []), (3, .ptr 1 []), (4, .int .i64)], J16⟩
def px_60_3_0 : SPat := ⟨[(2, .ptr 0 []), (3, .ptr 1 [])], J16⟩
def lo_60_3 : Exit → Live
  | .exit 0 => [(2, none), (3, none)]
  | _ => []
def ap_60 : List Pat := [.ros (.arr 128 (.int .u64))]
def hp_60 : List (Option (Pat × Nat)) := []
abbrev Tl_60_6 (R : Type) : Type := (((List (Nat → Int)) × Unit × Unit × Int × Int × Unit) × Y6) → ((((List (Nat → Int)) × Unit × Unit × Int × Unit) × Y6) → Option R) → Option R
abbrev Tl_60_3 (R : Type) : Type := (((List (Nat → Int)) × Unit × Unit × Int × Unit) × Y6) → (((Unit × Unit × Unit) × Y6) → Option R) → Option R
abbrev Tp_60 (R : Type) : Type := ((List (Nat → Int)) × Unit) × (Unit) → ((Nat → Int) → Option R) → Option R
def C_60_6 {R : Type} (rec : (((List (Nat → Int)) × Unit × Unit × Int × Int × Unit) × Y6) → Option R) (x : (((List (Nat → Int)) × Unit × Unit × Int × Int × Unit) × Y6)) (κ0 : (((List (Nat → Int)) × Unit × Unit × Int × Unit) × Y6) → Option R) : Option R :=
let l3515 := x.1.1
let i3516 := x.1.2.2.2.1
let i3517 := x.1.2.2.2.2.1
let a3518 := x.2.1
let a3519 := x.2.2.1
let i3520 : Int := (((List.length l3515) : Nat) : Int)
bif (decide (i3517 < i3520)) then (
bif decide (0 ≤ i3516) then (
bif decide (i3516 < (128 : Int)) then (
let i3521 : Int := (a3519 ((Int.toNat i3516)))
bif decide (0 ≤ i3517) then (
bif decide (i3517 < ((List.length l3515) : Int)) then (
let p3522 : (Nat → Int) := (List.getD l3515 ((Int.toNat i3517)) (Sch.zero (.arr 128 (.int .u64))))
bif decide (0 ≤ i3516) then (
bif decide (i3516 < (128 : Int)) then (
let i3523 : Int := (p3522 ((Int.toNat i3516)))
let i3524 : Int := xorA .u64 i3521 i3523
bif decide (0 ≤ i3516) then (
bif decide (i3516 < (128 : Int)) then (
let a3525 : (Nat → Int) := (upd a3519 ((Int.toNat i3516)) i3524)
let i3526 : Int := addA .i64 i3517 1
rec ((l3515, (), (), i3516, i3526, ()), (a3518, a3525, ()))) else none) else none) else none) else none) else none) else none) else none) else none) else (
κ0 ((l3515, (), (), i3516, ()), (a3518, a3519, ())))
def C_60_3 {R : Type} (m_60_6 : Tl_60_6 R) (rec : (((List (Nat → Int)) × Unit × Unit × Int × Unit) × Y6) → Option R) (x : (((List (Nat → Int)) × Unit × Unit × Int × Unit) × Y6)) (κ0 : ((Unit × Unit × Unit) × Y6) → Option R) : Option R :=
let l3511 := x.1.1
let i3512 := x.1.2.2.2.1
let a3513 := x.2.1
let a3514 := x.2.2.1
bif (decide (i3512 < 128)) then (
m_60_6 ((l3511, (), (), i3512, 0, ()), (a3513, a3514, ())) (fun y3527 =>
let l3528 := y3527.1.1
let i3529 := y3527.1.2.2.2.1
let a3530 := y3527.2.1
let a3531 := y3527.2.2.1
let i3532 : Int := addA .i64 i3529 1
rec ((l3528, (), (), i3532, ()), (a3530, a3531, ())))) else (
κ0 (((), (), ()), (a3513, a3514, ())))
def B_60_6 {R : Type} (N : Nat) (rec : (((List (Nat → Int)) × Unit × Unit × Int × Int × Unit) × Y6) → Option R) (x : (((List (Nat → Int)) × Unit × Unit × Int × Int × Unit) × Y6)) (κ0 : (((List (Nat → Int)) × Unit × Unit × Int × Unit) × Y6) → Option R) : Option R := C_60_6 rec x κ0
def l_60_6 {R : Type} (N : Nat) : Nat → (((List (Nat → Int)) × Unit × Unit × Int × Int × Unit) × Y6) → ((((List (Nat → Int)) × Unit × Unit × Int × Unit) × Y6) → Option R) → Option R
  | 0, _, _ => none
  | n + 1, x, κ0 => B_60_6 N (fun y => l_60_6 N n y κ0) x κ0
def B_60_3 {R : Type} (N : Nat) (rec : (((List (Nat → Int)) × Unit × Unit × Int × Unit) × Y6) → Option R) (x : (((List (Nat → Int)) × Unit × Unit × Int × Unit) × Y6)) (κ0 : ((Unit × Unit × Unit) × Y6) → Option R) : Option R := C_60_3 (l_60_6 N N) rec x κ0
def l_60_3 {R : Type} (N : Nat) : Nat → (((List (Nat → Int)) × Unit × Unit × Int × Unit) × Y6) → (((Unit × Unit × Unit) × Y6) → Option R) → Option R
  | 0, _, _ => none
  | n + 1, x, κ0 => B_60_3 N (fun y => l_60_3 N n y κ0) x κ0
def Q_60 {R : Type} (m_60_6 : Tl_60_6 R) (m_60_3 : Tl_60_3 R) (x : ((List (Nat → Int)) × Unit) × (Unit)) (κ0 : (Nat → Int) → Option R) : Option R :=
let l3510 := x.1.1
m_60_3 ((l3510, (), (), 0, ()), ((Sch.zero (.arr 128 (.int .u64))), (Sch.zero (.arr 128 (.int .u64))), ())) (fun y3533 =>
let a3535 := y3533.2.2.1
κ0 a3535)
def p_60 {R : Type} (N : Nat) (x : ((List (Nat → Int)) × Unit) × (Unit)) (κ0 : (Nat → Int) → Option R) : Option R := Q_60 (l_60_6 N N) (l_60_3 N N) x κ0
def EG_60 {R : Type} : Env R := Env.base QQ LN AA
def LG_60 {R : Type} (m_60_6 : Tl_60_6 R) (m_60_3 : Tl_60_3 R) : Loops R := ((Loops.none).add 6 (loopBy 0 lv_60_6 pt_60_6 (fun x k => m_60_6 x (fun y => k (.exit 2) (px_60_6_0.inst y))))).add 3 (loopBy 0 lv_60_3 pt_60_3 (fun x k => m_60_3 x (fun y => k (.exit 0) (px_60_3_0.inst y))))
def E_60 {R : Type} (N : Nat) : Env R := EG_60
theorem eok_60 {R : Type} (N : Nat) : EK Try.prog (E_60 (R := R) N) := ek_base _ _ _
def L_60 {R : Type} (N : Nat) : Loops R := LG_60 (l_60_6 N N) (l_60_3 N N)
theorem gstep_60_6 {R : Type} (m_60_6 : Tl_60_6 R) (m_60_3 : Tl_60_3 R) (n : Nat) (x : pt_60_6.den) (k : Exit → St → Option R) : iter 0 lv_60_6 lo_60_6 (aexec TT (EG_60) (drawAny TT WW) (LG_60 m_60_6 m_60_3) (loopAt 6 (bodyOf Try.f60))) (n + 1) (pt_60_6.inst x) k = C_60_6 (fun y => iter 0 lv_60_6 lo_60_6 (aexec TT (EG_60) (drawAny TT WW) (LG_60 m_60_6 m_60_3) (loopAt 6 (bodyOf Try.f60))) n (pt_60_6.inst y) k) x (fun y => k (.exit 2) (px_60_6_0.inst y)) := by kernel_rfl
theorem step_60_6 {R : Type} (N n : Nat) (x : pt_60_6.den) (k : Exit → St → Option R) : iter 0 lv_60_6 lo_60_6 (aexec TT (E_60 (R := R) N) (drawAny TT WW) (L_60 N) (loopAt 6 (bodyOf Try.f60))) (n + 1) (pt_60_6.inst x) k = B_60_6 N (fun y => iter 0 lv_60_6 lo_60_6 (aexec TT (E_60 (R := R) N) (drawAny TT WW) (L_60 N) (loopAt 6 (bodyOf Try.f60))) n (pt_60_6.inst y) k) x (fun y => k (.exit 2) (px_60_6_0.inst y)) := (gstep_60_6 (l_60_6 N N) (l_60_3 N N) n x k).trans (by kernel_rfl)
theorem eq_60_6 {R : Type} (N : Nat) : ∀ (n : Nat) (x : pt_60_6.den) (k : Exit → St → Option R), iter 0 lv_60_6 lo_60_6 (aexec TT (E_60 (R := R) N) (drawAny TT WW) (L_60 N) (loopAt 6 (bodyOf Try.f60))) n (pt_60_6.inst x) k = l_60_6 N n x (fun y => k (.exit 2) (px_60_6_0.inst y)) :=
  iter_eq (K := Exit → St → Option R) (ks := fun k => k) (l := fun n (x : pt_60_6.den) k => l_60_6 N n x (fun y => k (.exit 2) (px_60_6_0.inst y))) (B := fun (rec : pt_60_6.den → Option R) (x : pt_60_6.den) k => B_60_6 N rec x (fun y => k (.exit 2) (px_60_6_0.inst y))) (fun _ _ => rfl) (fun _ _ _ => rfl) (fun n x k => step_60_6 N n x k)
theorem rounds_60_6 {R : Type} (N : Nat) : Rounds 0 TT (E_60 (R := R) N) (drawAny TT WW) (L_60 N) 6 (loopAt 6 (bodyOf Try.f60)) :=
  rounds_of (p := pt_60_6) (l := fun (x : pt_60_6.den) k => l_60_6 N N x (fun y => k (.exit 2) (px_60_6_0.inst y))) (fun s k => rfl) (fun x k => eq_60_6 N N x k)
theorem gstep_60_3 {R : Type} (m_60_6 : Tl_60_6 R) (m_60_3 : Tl_60_3 R) (n : Nat) (x : pt_60_3.den) (k : Exit → St → Option R) : iter 0 lv_60_3 lo_60_3 (aexec TT (EG_60) (drawAny TT WW) (LG_60 m_60_6 m_60_3) (loopAt 3 (bodyOf Try.f60))) (n + 1) (pt_60_3.inst x) k = C_60_3 m_60_6 (fun y => iter 0 lv_60_3 lo_60_3 (aexec TT (EG_60) (drawAny TT WW) (LG_60 m_60_6 m_60_3) (loopAt 3 (bodyOf Try.f60))) n (pt_60_3.inst y) k) x (fun y => k (.exit 0) (px_60_3_0.inst y)) := by kernel_rfl
theorem step_60_3 {R : Type} (N n : Nat) (x : pt_60_3.den) (k : Exit → St → Option R) : iter 0 lv_60_3 lo_60_3 (aexec TT (E_60 (R := R) N) (drawAny TT WW) (L_60 N) (loopAt 3 (bodyOf Try.f60))) (n + 1) (pt_60_3.inst x) k = B_60_3 N (fun y => iter 0 lv_60_3 lo_60_3 (aexec TT (E_60 (R := R) N) (drawAny TT WW) (L_60 N) (loopAt 3 (bodyOf Try.f60))) n (pt_60_3.inst y) k) x (fun y => k (.exit 0) (px_60_3_0.inst y)) := (gstep_60_3 (l_60_6 N N) (l_60_3 N N) n x k).trans (by kernel_rfl)
theorem eq_60_3 {R : Type} (N : Nat) : ∀ (n : Nat) (x : pt_60_3.den) (k : Exit → St → Option R), iter 0 lv_60_3 lo_60_3 (aexec TT (E_60 (R := R) N) (drawAny TT WW) (L_60 N) (loopAt 3 (bodyOf Try.f60))) n (pt_60_3.inst x) k = l_60_3 N n x (fun y => k (.exit 0) (px_60_3_0.inst y)) :=
  iter_eq (K := Exit → St → Option R) (ks := fun k => k) (l := fun n (x : pt_60_3.den) k => l_60_3 N n x (fun y => k (.exit 0) (px_60_3_0.inst y))) (B := fun (rec : pt_60_3.den → Option R) (x : pt_60_3.den) k => B_60_3 N rec x (fun y => k (.exit 0) (px_60_3_0.inst y))) (fun _ _ => rfl) (fun _ _ _ => rfl) (fun n x k => step_60_3 N n x k)
theorem rounds_60_3 {R : Type} (N : Nat) : Rounds 0 TT (E_60 (R := R) N) (drawAny TT WW) (L_60 N) 3 (loopAt 3 (bodyOf Try.f60)) :=
  rounds_of (p := pt_60_3) (l := fun (x : pt_60_3.den) k => l_60_3 N N x (fun y => k (.exit 0) (px_60_3_0.inst y))) (fun s k => rfl) (fun x k => eq_60_3 N N x k)
theorem loops_60 : loopsIn (bodyOf Try.f60) = [(3, loopAt 3 (bodyOf Try.f60)), (6, loopAt 6 (bodyOf Try.f60))] := by kernel_rfl
theorem lok_60 {R : Type} (N : Nat) : LOK 0 TT (E_60 (R := R) N) (drawAny TT WW) (L_60 N) (bodyOf Try.f60) := loops_all loops_60 (by
  simp only [List.forall_mem_cons, List.not_mem_nil, false_implies, implies_true, and_true]
  exact ⟨rounds_60_3 N, rounds_60_6 N⟩)
theorem grun_60 {R : Type} (m_60_6 : Tl_60_6 R) (m_60_3 : Tl_60_3 R) (x : aden ap_60 × hden hp_60) (k : KF R) : fnrun TT (EG_60) (drawAny TT WW) (LG_60 m_60_6 m_60_3) true Try.f60 (instA ap_60 x.1) (instH hp_60 x.2) k = Q_60 m_60_6 m_60_3 x (fun y => k (Pat.inst (.vec (.int .u64) 128) y) (instH hp_60 x.2)) := by kernel_rfl
theorem run_60 {R : Type} (N : Nat) (x : aden ap_60 × hden hp_60) (k : KF R) : fnrun TT (E_60 (R := R) N) (drawAny TT WW) (L_60 N) true Try.f60 (instA ap_60 x.1) (instH hp_60 x.2) k = p_60 N x (fun y => k (Pat.inst (.vec (.int .u64) 128) y) (instH hp_60 x.2)) := (grun_60 (l_60_6 N N) (l_60_3 N N) x k).trans (by kernel_rfl)
theorem good_60 {R : Type} (N : Nat) : GD (X := R) Try.prog QQ AA 60 ap_60 hp_60 (fun (x : aden ap_60 × hden hp_60) k => p_60 N x (fun y => k (Pat.inst (.vec (.int .u64) 128) y) (instH hp_60 x.2))) :=
  gd_quiet (E := E_60 N) (p := fun (x : aden ap_60 × hden hp_60) κ => p_60 N x (fun y => κ (Pat.inst (.vec (.int .u64) 128) y))) mixed tyok (eok_60 N) Try.func60 (by kernel_rfl) (by kernel_rfl) (lok_60 N) (fun x k => run_60 N x k)

def lv_59_3 : Live := [(1, none), (3, some (.int .u8, 5)), (4, none)]
def pt_59_3 : SPat := ⟨[(1, .ptr 0 []), (3, .sl 1), (4, .int .i64)], [some (.vec (.int .u64) 128, 29), some (.lst (.int .u8), 5)]⟩
def px_59_3_0 : SPat := ⟨[(3, .sl 0)], J4⟩
def lo_59_3 : Exit → Live
  | .exit 0 => [(3, none)]
  | _ => []
def ap_59 : List Pat := [.vec (.int .u64) 128]
def hp_59 : List (Option (Pat × Nat)) := []
abbrev Tl_59_3 (R : Type) : Type := ((Unit × Unit × Int × Unit) × ((Nat → Int) × (List Int) × Unit)) → (Y24 → Option R) → Option R
abbrev Tp_59 (R : Type) : Type := ((Nat → Int) × Unit) × (Unit) → (ByteArray → Option R) → Option R
def C_59_3 {R : Type} (q_87 : Tp_87 R) (rec : ((Unit × Unit × Int × Unit) × ((Nat → Int) × (List Int) × Unit)) → Option R) (x : ((Unit × Unit × Int × Unit) × ((Nat → Int) × (List Int) × Unit))) (κ0 : Y24 → Option R) : Option R :=
let i3545 := x.1.2.2.1
let a3546 := x.2.1
let l3547 := x.2.2.1
bif (decide (i3545 < 128)) then (
bif decide (0 ≤ i3545) then (
bif decide (i3545 < (128 : Int)) then (
let i3548 : Int := (a3546 ((Int.toNat i3545)))
q_87 ((i3548, ()), ()) (fun y3549 =>
let l3550 : (List Int) := y3549
bif (decide ((List.length l3547 + List.length l3550) * 1 ≤ 140737488355328) && true) then (
let l3551 : (List Int) := (l3547 ++ l3550)
let i3552 : Int := addA .i64 i3545 1
rec (((), (), i3552, ()), (a3546, l3551, ()))) else none)) else none) else none) else (
κ0 (((), ()), x.2.2))
def B_59_3 {R : Type} (N : Nat) (rec : ((Unit × Unit × Int × Unit) × ((Nat → Int) × (List Int) × Unit)) → Option R) (x : ((Unit × Unit × Int × Unit) × ((Nat → Int) × (List Int) × Unit))) (κ0 : Y24 → Option R) : Option R := C_59_3 (p_87 N) rec x κ0
def l_59_3 {R : Type} (N : Nat) : Nat → ((Unit × Unit × Int × Unit) × ((Nat → Int) × (List Int) × Unit)) → (Y24 → Option R) → Option R
  | 0, _, _ => none
  | n + 1, x, κ0 => B_59_3 N (fun y => l_59_3 N n y κ0) x κ0
def Q_59 {R : Type} (q_87 : Tp_87 R) (m_59_3 : Tl_59_3 R) (x : ((Nat → Int) × Unit) × (Unit)) (κ0 : ByteArray → Option R) : Option R :=
let a3538 := x.1.1
m_59_3 (((), (), 0, ()), (a3538, [], ())) (fun y3553 =>
let l3554 := y3553.2.1
let s3555 : ByteArray := listStr l3554
κ0 s3555)
def p_59 {R : Type} (N : Nat) (x : ((Nat → Int) × Unit) × (Unit)) (κ0 : ByteArray → Option R) : Option R := Q_59 (p_87 N) (l_59_3 N N) x κ0
def EG_59 {R : Type} (q_87 : Tp_87 R) : Env R := (Env.base QQ LN AA).add 87 ap_87 hp_87 (fun (x : aden ap_87 × hden hp_87) k => q_87 x (fun y => k (Pat.inst (.ros (.int .u8)) y) (instH hp_87 x.2)))
def LG_59 {R : Type} (m_59_3 : Tl_59_3 R) : Loops R := (Loops.none).add 3 (loopBy 0 lv_59_3 pt_59_3 (fun x k => m_59_3 x (fun y => k (.exit 0) (px_59_3_0.inst y))))
def E_59 {R : Type} (N : Nat) : Env R := EG_59 (p_87 N)
theorem eok_59 {R : Type} (N : Nat) : EK Try.prog (E_59 (R := R) N) := ek_add (ek_base _ _ _) (good_87 N)
def L_59 {R : Type} (N : Nat) : Loops R := LG_59 (l_59_3 N N)
theorem gstep_59_3 {R : Type} (q_87 : Tp_87 R) (m_59_3 : Tl_59_3 R) (n : Nat) (x : pt_59_3.den) (k : Exit → St → Option R) : iter 0 lv_59_3 lo_59_3 (aexec TT (EG_59 q_87) (drawAny TT WW) (LG_59 m_59_3) (loopAt 3 (bodyOf Try.f59))) (n + 1) (pt_59_3.inst x) k = C_59_3 q_87 (fun y => iter 0 lv_59_3 lo_59_3 (aexec TT (EG_59 q_87) (drawAny TT WW) (LG_59 m_59_3) (loopAt 3 (bodyOf Try.f59))) n (pt_59_3.inst y) k) x (fun y => k (.exit 0) (px_59_3_0.inst y)) := by kernel_rfl
theorem step_59_3 {R : Type} (N n : Nat) (x : pt_59_3.den) (k : Exit → St → Option R) : iter 0 lv_59_3 lo_59_3 (aexec TT (E_59 (R := R) N) (drawAny TT WW) (L_59 N) (loopAt 3 (bodyOf Try.f59))) (n + 1) (pt_59_3.inst x) k = B_59_3 N (fun y => iter 0 lv_59_3 lo_59_3 (aexec TT (E_59 (R := R) N) (drawAny TT WW) (L_59 N) (loopAt 3 (bodyOf Try.f59))) n (pt_59_3.inst y) k) x (fun y => k (.exit 0) (px_59_3_0.inst y)) := (gstep_59_3 (p_87 N) (l_59_3 N N) n x k).trans (by kernel_rfl)
theorem eq_59_3 {R : Type} (N : Nat) : ∀ (n : Nat) (x : pt_59_3.den) (k : Exit → St → Option R), iter 0 lv_59_3 lo_59_3 (aexec TT (E_59 (R := R) N) (drawAny TT WW) (L_59 N) (loopAt 3 (bodyOf Try.f59))) n (pt_59_3.inst x) k = l_59_3 N n x (fun y => k (.exit 0) (px_59_3_0.inst y)) :=
  iter_eq (K := Exit → St → Option R) (ks := fun k => k) (l := fun n (x : pt_59_3.den) k => l_59_3 N n x (fun y => k (.exit 0) (px_59_3_0.inst y))) (B := fun (rec : pt_59_3.den → Option R) (x : pt_59_3.den) k => B_59_3 N rec x (fun y => k (.exit 0) (px_59_3_0.inst y))) (fun _ _ => rfl) (fun _ _ _ => rfl) (fun n x k => step_59_3 N n x k)
theorem rounds_59_3 {R : Type} (N : Nat) : Rounds 0 TT (E_59 (R := R) N) (drawAny TT WW) (L_59 N) 3 (loopAt 3 (bodyOf Try.f59)) :=
  rounds_of (p := pt_59_3) (l := fun (x : pt_59_3.den) k => l_59_3 N N x (fun y => k (.exit 0) (px_59_3_0.inst y))) (fun s k => rfl) (fun x k => eq_59_3 N N x k)
theorem loops_59 : loopsIn (bodyOf Try.f59) = [(3, loopAt 3 (bodyOf Try.f59))] := by kernel_rfl
theorem lok_59 {R : Type} (N : Nat) : LOK 0 TT (E_59 (R := R) N) (drawAny TT WW) (L_59 N) (bodyOf Try.f59) := loops_all loops_59 (by
  simp only [List.forall_mem_cons, List.not_mem_nil, false_implies, implies_true, and_true]
  exact rounds_59_3 N)
theorem grun_59 {R : Type} (q_87 : Tp_87 R) (m_59_3 : Tl_59_3 R) (x : aden ap_59 × hden hp_59) (k : KF R) : fnrun TT (EG_59 q_87) (drawAny TT WW) (LG_59 m_59_3) true Try.f59 (instA ap_59 x.1) (instH hp_59 x.2) k = Q_59 q_87 m_59_3 x (fun y => k (Pat.inst (.str) y) (instH hp_59 x.2)) := by kernel_rfl
theorem run_59 {R : Type} (N : Nat) (x : aden ap_59 × hden hp_59) (k : KF R) : fnrun TT (E_59 (R := R) N) (drawAny TT WW) (L_59 N) true Try.f59 (instA ap_59 x.1) (instH hp_59 x.2) k = p_59 N x (fun y => k (Pat.inst (.str) y) (instH hp_59 x.2)) := (grun_59 (p_87 N) (l_59_3 N N) x k).trans (by kernel_rfl)
theorem good_59 {R : Type} (N : Nat) : GD (X := R) Try.prog QQ AA 59 ap_59 hp_59 (fun (x : aden ap_59 × hden hp_59) k => p_59 N x (fun y => k (Pat.inst (.str) y) (instH hp_59 x.2))) :=
  gd_quiet (E := E_59 N) (p := fun (x : aden ap_59 × hden hp_59) κ => p_59 N x (fun y => κ (Pat.inst (.str) y))) mixed tyok (eok_59 N) Try.func59 (by kernel_rfl) (by kernel_rfl) (lok_59 N) (fun x k => run_59 N x k)

def lv_20_3 : Live := [(2, none), (3, none), (4, none), (7, some (.arr 128 (.int .u64), 29)), (8, none)]
def pt_20_3 : SPat := ⟨[(2, .sl 0), (3, .ptr 1 []), (4, .ptr 2 []), (7, .sl 3), (8, .int .i64)], [some (.fam 29 (.arr 128 (.int .u64)), 52), some (.vec (.int .u64) 8, 57), some (Z0, 45), some (.lst (.arr 128 (.int .u64)), 29)]⟩
def px_20_3_0 : SPat := ⟨[(3, .ptr 1 []), (4, .ptr 2 []), (7, .sl 3)], [some (.fam 29 (.arr 128 (.int .u64)), 52), some (.vec (.int .u64) 8, 57), some (Z0, 45), some (.lst (.arr 128 (.int .u64)), 29)]⟩
def lo_20_3 : Exit → Live
  | .exit 0 => [(3, none), (4, none), (7, none)]
  | _ => []
def ap_20 : List Pat := [.vec (.int .u64) 8, .node (.fcons (.int .i64) (.fcons (.int .i64) (.fcons (.int .i64) (.fcons (.int .i64) (.fcons (.int .i64) (.fcons (.int .i64) (.fcons (.int .i64) (.fcons (.int .i64) (.fnil))))))))), .sl 0]
def hp_20 : List (Option (Pat × Nat)) := J5
abbrev Tl_20_3 (R : Type) : Type := ((Unit × Unit × Unit × Unit × Int × Unit) × (Y5 × (Nat → Int) × Y1 × (List (Nat → Int)) × Unit)) → (((Unit × Unit × Unit × Unit) × (Y5 × (Nat → Int) × Y1 × (List (Nat → Int)) × Unit)) → Option R) → Option R
abbrev Tp_20 (R : Type) : Type := ((Nat → Int) × Y1 × Unit × Unit) × (Y5 × Unit) → ((ByteArray × (Y5 × Unit)) → Option R) → Option R
def C_20_3 {R : Type} (rec : ((Unit × Unit × Unit × Unit × Int × Unit) × (Y5 × (Nat → Int) × Y1 × (List (Nat → Int)) × Unit)) → Option R) (x : ((Unit × Unit × Unit × Unit × Int × Unit) × (Y5 × (Nat → Int) × Y1 × (List (Nat → Int)) × Unit))) (κ0 : ((Unit × Unit × Unit × Unit) × (Y5 × (Nat → Int) × Y1 × (List (Nat → Int)) × Unit)) → Option R) : Option R :=
let i3481 := x.1.2.2.2.2.1
let r3482 := x.2.1
let a3483 := x.2.2.1
let i3486 := x.2.2.2.1.2.2.1
let i3489 := x.2.2.2.1.2.2.2.2.2.1
let l3492 := x.2.2.2.2.1
bif (decide (i3481 < i3486)) then (
bif decide (0 ≤ i3481) then (
bif decide (i3481 < ((List.length r3482) : Int)) then (
let i3493 : Int := subA .i64 i3489 1
bif decide (0 ≤ i3493) then (
bif decide (i3493 < ((List.length ((List.getD r3482 ((Int.toNat i3481)) []))) : Int)) then (
let a3494 : (Nat → Int) := (List.getD ((List.getD r3482 ((Int.toNat i3481)) [])) ((Int.toNat i3493)) (Sch.zero (.arr 128 (.int .u64))))
let l3495 : (List (Nat → Int)) := [a3494]
bif (decide ((List.length l3492 + List.length l3495) * 1024 ≤ 140737488355328) && true) then (
let l3496 : (List (Nat → Int)) := (l3492 ++ l3495)
let i3497 : Int := addA .i64 i3481 1
rec (((), (), (), (), i3497, ()), (r3482, a3483, x.2.2.2.1, l3496, ()))) else none) else none) else none) else none) else none) else (
κ0 (((), (), (), ()), (r3482, a3483, x.2.2.2.1, l3492, ())))
def B_20_3 {R : Type} (N : Nat) (rec : ((Unit × Unit × Unit × Unit × Int × Unit) × (Y5 × (Nat → Int) × Y1 × (List (Nat → Int)) × Unit)) → Option R) (x : ((Unit × Unit × Unit × Unit × Int × Unit) × (Y5 × (Nat → Int) × Y1 × (List (Nat → Int)) × Unit))) (κ0 : ((Unit × Unit × Unit × Unit) × (Y5 × (Nat → Int) × Y1 × (List (Nat → Int)) × Unit)) → Option R) : Option R := C_20_3 rec x κ0
def l_20_3 {R : Type} (N : Nat) : Nat → ((Unit × Unit × Unit × Unit × Int × Unit) × (Y5 × (Nat → Int) × Y1 × (List (Nat → Int)) × Unit)) → (((Unit × Unit × Unit × Unit) × (Y5 × (Nat → Int) × Y1 × (List (Nat → Int)) × Unit)) → Option R) → Option R
  | 0, _, _ => none
  | n + 1, x, κ0 => B_20_3 N (fun y => l_20_3 N n y κ0) x κ0
def Q_20 {R : Type} (q_60 : Tp_60 R) (q_59 : Tp_59 R) (q_58 : Tp_58 R) (m_20_3 : Tl_20_3 R) (x : ((Nat → Int) × Y1 × Unit × Unit) × (Y5 × Unit)) (κ0 : (ByteArray × (Y5 × Unit)) → Option R) : Option R :=
let a3456 := x.1.1
let r3465 := x.2.1
m_20_3 (((), (), (), (), 0, ()), (r3465, a3456, x.1.2.1, [], ())) (fun y3498 =>
let r3499 := y3498.2.1
let a3500 := y3498.2.2.1
let i3508 := y3498.2.2.2.1.2.2.2.2.2.2.2.1
let l3509 := y3498.2.2.2.2.1
q_60 ((l3509, ()), ()) (fun y3536 =>
let a3537 : (Nat → Int) := y3536
q_59 ((a3537, ()), ()) (fun y3556 =>
let s3557 : ByteArray := y3556
q_58 ((a3500, i3508, s3557, ()), ()) (fun y3558 =>
let s3559 : ByteArray := y3558
κ0 (s3559, (r3499, ()))))))
def p_20 {R : Type} (N : Nat) (x : ((Nat → Int) × Y1 × Unit × Unit) × (Y5 × Unit)) (κ0 : (ByteArray × (Y5 × Unit)) → Option R) : Option R := Q_20 (p_60 N) (p_59 N) (p_58 N) (l_20_3 N N) x κ0
def EG_20 {R : Type} (q_60 : Tp_60 R) (q_59 : Tp_59 R) (q_58 : Tp_58 R) : Env R := (((Env.base QQ LN AA).add 60 ap_60 hp_60 (fun (x : aden ap_60 × hden hp_60) k => q_60 x (fun y => k (Pat.inst (.vec (.int .u64) 128) y) (instH hp_60 x.2)))).add 59 ap_59 hp_59 (fun (x : aden ap_59 × hden hp_59) k => q_59 x (fun y => k (Pat.inst (.str) y) (instH hp_59 x.2)))).add 58 ap_58 hp_58 (fun (x : aden ap_58 × hden hp_58) k => q_58 x (fun y => k (Pat.inst (.str) y) (instH hp_58 x.2)))
def LG_20 {R : Type} (m_20_3 : Tl_20_3 R) : Loops R := (Loops.none).add 3 (loopBy 1 lv_20_3 pt_20_3 (fun x k => m_20_3 x (fun y => k (.exit 0) (px_20_3_0.inst y))))
def E_20 {R : Type} (N : Nat) : Env R := EG_20 (p_60 N) (p_59 N) (p_58 N)
theorem eok_20 {R : Type} (N : Nat) : EK Try.prog (E_20 (R := R) N) := ek_add (ek_add (ek_add (ek_base _ _ _) (good_60 N)) (good_59 N)) (good_58 N)
def L_20 {R : Type} (N : Nat) : Loops R := LG_20 (l_20_3 N N)
theorem gstep_20_3 {R : Type} (q_60 : Tp_60 R) (q_59 : Tp_59 R) (q_58 : Tp_58 R) (m_20_3 : Tl_20_3 R) (n : Nat) (x : pt_20_3.den) (k : Exit → St → Option R) : iter 1 lv_20_3 lo_20_3 (aexec TT (EG_20 q_60 q_59 q_58) (drawAny TT WW) (LG_20 m_20_3) (loopAt 3 (bodyOf Try.f20))) (n + 1) (pt_20_3.inst x) k = C_20_3 (fun y => iter 1 lv_20_3 lo_20_3 (aexec TT (EG_20 q_60 q_59 q_58) (drawAny TT WW) (LG_20 m_20_3) (loopAt 3 (bodyOf Try.f20))) n (pt_20_3.inst y) k) x (fun y => k (.exit 0) (px_20_3_0.inst y)) := by kernel_rfl
theorem step_20_3 {R : Type} (N n : Nat) (x : pt_20_3.den) (k : Exit → St → Option R) : iter 1 lv_20_3 lo_20_3 (aexec TT (E_20 (R := R) N) (drawAny TT WW) (L_20 N) (loopAt 3 (bodyOf Try.f20))) (n + 1) (pt_20_3.inst x) k = B_20_3 N (fun y => iter 1 lv_20_3 lo_20_3 (aexec TT (E_20 (R := R) N) (drawAny TT WW) (L_20 N) (loopAt 3 (bodyOf Try.f20))) n (pt_20_3.inst y) k) x (fun y => k (.exit 0) (px_20_3_0.inst y)) := (gstep_20_3 (p_60 N) (p_59 N) (p_58 N) (l_20_3 N N) n x k).trans (by kernel_rfl)
theorem eq_20_3 {R : Type} (N : Nat) : ∀ (n : Nat) (x : pt_20_3.den) (k : Exit → St → Option R), iter 1 lv_20_3 lo_20_3 (aexec TT (E_20 (R := R) N) (drawAny TT WW) (L_20 N) (loopAt 3 (bodyOf Try.f20))) n (pt_20_3.inst x) k = l_20_3 N n x (fun y => k (.exit 0) (px_20_3_0.inst y)) :=
  iter_eq (K := Exit → St → Option R) (ks := fun k => k) (l := fun n (x : pt_20_3.den) k => l_20_3 N n x (fun y => k (.exit 0) (px_20_3_0.inst y))) (B := fun (rec : pt_20_3.den → Option R) (x : pt_20_3.den) k => B_20_3 N rec x (fun y => k (.exit 0) (px_20_3_0.inst y))) (fun _ _ => rfl) (fun _ _ _ => rfl) (fun n x k => step_20_3 N n x k)
theorem rounds_20_3 {R : Type} (N : Nat) : Rounds 1 TT (E_20 (R := R) N) (drawAny TT WW) (L_20 N) 3 (loopAt 3 (bodyOf Try.f20)) :=
  rounds_of (p := pt_20_3) (l := fun (x : pt_20_3.den) k => l_20_3 N N x (fun y => k (.exit 0) (px_20_3_0.inst y))) (fun s k => rfl) (fun x k => eq_20_3 N N x k)
theorem loops_20 : loopsIn (bodyOf Try.f20) = [(3, loopAt 3 (bodyOf Try.f20))] := by kernel_rfl
theorem lok_20 {R : Type} (N : Nat) : LOK 1 TT (E_20 (R := R) N) (drawAny TT WW) (L_20 N) (bodyOf Try.f20) := loops_all loops_20 (by
  simp only [List.forall_mem_cons, List.not_mem_nil, false_implies, implies_true, and_true]
  exact rounds_20_3 N)
theorem grun_20 {R : Type} (q_60 : Tp_60 R) (q_59 : Tp_59 R) (q_58 : Tp_58 R) (m_20_3 : Tl_20_3 R) (x : aden ap_20 × hden hp_20) (k : KF R) : fnrun TT (EG_20 q_60 q_59 q_58) (drawAny TT WW) (LG_20 m_20_3) true Try.f20 (instA ap_20 x.1) (instH hp_20 x.2) k = Q_20 q_60 q_59 q_58 m_20_3 x (fun y => k (Pat.inst (.str) y.1) (instH J5 y.2)) := by kernel_rfl
theorem run_20 {R : Type} (N : Nat) (x : aden ap_20 × hden hp_20) (k : KF R) : fnrun TT (E_20 (R := R) N) (drawAny TT WW) (L_20 N) true Try.f20 (instA ap_20 x.1) (instH hp_20 x.2) k = p_20 N x (fun y => k (Pat.inst (.str) y.1) (instH J5 y.2)) := (grun_20 (p_60 N) (p_59 N) (p_58 N) (l_20_3 N N) x k).trans (by kernel_rfl)
theorem good_20 {R : Type} (N : Nat) : GD (X := R) Try.prog QQ AA 20 ap_20 hp_20 (fun (x : aden ap_20 × hden hp_20) k => p_20 N x (fun y => k (Pat.inst (.str) y.1) (instH J5 y.2))) :=
  gd_loud (E := E_20 N) (p := fun (x : aden ap_20 × hden hp_20) k => p_20 N x (fun y => k (Pat.inst (.str) y.1) (instH J5 y.2))) mixed tyok (eok_20 N) Try.func20 (by kernel_rfl) (by kernel_rfl) (by kernel_rfl) (by kernel_rfl) (lok_20 N) (fun x k => run_20 N x k)

end Go.Proofs.Ytfcloeflcpcheaa.Eng
