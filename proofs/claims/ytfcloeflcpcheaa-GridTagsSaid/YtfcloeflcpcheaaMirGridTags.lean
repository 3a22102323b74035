/-
Plain functions that the functions of the program are shown to come to, printed by a program of the prover; each with its proof.
Conditions: none.
-/
import Derived.Test.YtfcloeflcpcheaaMirGridTagsB
import Derived.KernelRfl
set_option linter.unusedVariables false
namespace Go.Proofs.Ytfcloeflcpcheaa.Eng
def lv_4_11 : Live := [(7, none), (8, none), (9, none), (49, none), (50, none), (51, none)]
def pt_4_11 : SPat := ⟨[(7, .ptr 0 []), (8, .ptr 4 []), (9, .ptr 5 []), (49, .ros (.stru (.fcons (.int .i64) (.fcons (.int .i64) (.fcons (.int .u64) (.fnil)))))), (50, .int .i64), (51, .int .i64)], [some (Z5, 49), some (Z2, 147), some (Z1, 145), some (.lst (.arr 128 (.int .u64)), 29), some (Z0, 45), some (.vec (.int .u64) 8, 57)]⟩
def px_4_11_0 : SPat := ⟨[(7, .ptr 0 []), (8, .ptr 4 []), (9, .ptr 5 [])], [some (Z5, 49), some (Z2, 147), some (Z1, 145), some (.lst (.arr 128 (.int .u64)), 29), some (Z0, 45), some (.vec (.int .u64) 8, 57)]⟩
def lo_4_11 : Exit → Live
  | .exit 0 => [(7, none), (8, none), (9, none)]
  | _ => []
def ap_4 : List Pat := [.node (.fcons (.int .i64) (.fcons (.int .i64) (.fcons (.int .i64) (.fcons (.int .i64) (.fcons (.int .i64) (.fnil)))))), .str, .ros (.stru (.fcons (.int .i64) (.fcons (.int .i64) (.fcons (.int .u64) (.fnil)))))]
def hp_4 : List (Option (Pat × Nat)) := []
abbrev Tl_4_11 (R : Type) : Type := Y22 → (((Unit × Unit × Unit × Unit) × ((Unit × (Y1 × Unit)) × Y11 × Y7 × (List (Nat → Int)) × Y1 × (Nat → Int) × Unit)) → Option R) → Option R
abbrev Tp_4 (R : Type) : Type := ((Int × Y7) × ByteArray × (List (Int × (Int × (Int × Unit)))) × Unit) × (Unit) → ((Bool × (Unit)) → Option R) → Option R
def C_4_11 {R : Type} (q_12 : Tp_12 R) (rec : Y22 → Option R) (x : Y22) (κ0 : ((Unit × Unit × Unit × Unit) × ((Unit × (Y1 × Unit)) × Y11 × Y7 × (List (Nat → Int)) × Y1 × (Nat → Int) × Unit)) → Option R) : Option R :=
let l3181 := x.1.2.2.2.1
let i3182 := x.1.2.2.2.2.1
let i3183 := x.1.2.2.2.2.2.1
let l3197 := x.2.2.2.2.1
let a3206 := x.2.2.2.2.2.2.1
bif (decide (i3183 < i3182)) then (
bif decide (0 ≤ i3183) then (
bif decide (i3183 < ((List.length l3181) : Int)) then (
let p3207 : (Int × (Int × (Int × Unit))) := (List.getD l3181 ((Int.toNat i3183)) (Sch.zero (.stru (.fcons (.int .i64) (.fcons (.int .i64) (.fcons (.int .u64) (.fnil)))))))
let a3208 : (Nat → Int) := (upd ((Sch.zero (.arr 128 (.int .u64)))) 0 p3207.2.2.1)
q_12 (((), (p3207.1, (p3207.2.1, ())), a3208, ()), (x.2.1, x.2.2.1, x.2.2.2.1, l3197, ())) (fun y3209 =>
let l3224 := y3209.2.2.2.2.1
let i3225 : Int := addA .i64 i3183 1
rec (((), (), (), l3181, i3182, i3225, ()), (y3209.2.1, y3209.2.2.1, y3209.2.2.2.1, l3224, x.2.2.2.2.2.1, a3206, ())))) else none) else none) else (
κ0 (((), (), (), ()), (x.2.1, x.2.2.1, x.2.2.2.1, l3197, x.2.2.2.2.2.1, a3206, ())))
def B_4_11 {R : Type} (N : Nat) (rec : Y22 → Option R) (x : Y22) (κ0 : ((Unit × Unit × Unit × Unit) × ((Unit × (Y1 × Unit)) × Y11 × Y7 × (List (Nat → Int)) × Y1 × (Nat → Int) × Unit)) → Option R) : Option R := C_4_11 (p_12 N) rec x κ0
def l_4_11 {R : Type} (N : Nat) : Nat → Y22 → (((Unit × Unit × Unit × Unit) × ((Unit × (Y1 × Unit)) × Y11 × Y7 × (List (Nat → Int)) × Y1 × (Nat → Int) × Unit)) → Option R) → Option R
  | 0, _, _ => none
  | n + 1, x, κ0 => B_4_11 N (fun y => l_4_11 N n y κ0) x κ0
def Q_4 {R : Type} (q_8 : Tp_8 R) (q_14 : Tp_14 R) (q_18 : Tp_18 R) (q_13 : Tp_13 R) (q_17 : Tp_17 R) (q_19 : Tp_19 R) (q_16 : Tp_16 R) (q_11 : Tp_11 R) (q_20 : Tp_20 R) (q_12 : Tp_12 R) (m_4_11 : Tl_4_11 R) (x : ((Int × Y7) × ByteArray × (List (Int × (Int × (Int × Unit)))) × Unit) × (Unit)) (κ0 : (Bool × (Unit)) → Option R) : Option R :=
let s6 := x.1.2.1
let l7 := x.1.2.2.1
q_8 ((), ()) (fun y433 =>
let b434 : Bool := y433
bif (!b434) then (
κ0 (false, ())) else (
q_14 ((x.1.1, ()), ()) (fun y512 =>
κ0 (true, ())) (fun y513 =>
let l527 := y513.2.2.2.2.1
let i528 : Int := ((ByteArray.size s6 : Nat) : Int)
bif (decide (i528 > 200)) then (
κ0 (true, ())) else (
let i529 : Int := (((List.length l7) : Nat) : Int)
bif (decide (i529 > 50)) then (
κ0 (true, ())) else (
q_18 ((), ()) (fun y531 =>
let a532 := y531
q_13 (((), s6, ()), (y513.2.1, y513.2.2.1, y513.2.2.2.1, l527, ())) (fun y2328 =>
let i2329 := y2328.1
let l2343 := y2328.2.2.2.2.1
bif (i2329 != 0) then (
κ0 (false, ())) else (
q_17 (((), ()), (y2328.2.1, y2328.2.2.1, y2328.2.2.2.1, l2343, ())) (fun y2497 =>
let l2511 := y2497.2.2.2.2.1
let r2512 := y2497.2.2.2.2.2.1
q_19 ((a532, y513.2.1.2.1, s6, ()), ()) (fun y3140 =>
let r3141 := y3140.2.1
q_16 (((), (), ()), (r2512, r3141, ())) (fun y3176 =>
let b3177 := y3176.1
bif (!b3177) then (
κ0 (false, ())) else (
let i3180 : Int := (((List.length l7) : Nat) : Int)
m_4_11 (((), (), (), l7, i3180, 0, ()), (y2497.2.1, y2497.2.2.1, y2497.2.2.2.1, l2511, y513.2.1.2.1, a532, ())) (fun y3226 =>
let l3240 := y3226.2.2.2.2.1
let a3249 := y3226.2.2.2.2.2.2.1
q_11 (((), ()), (y3226.2.1, y3226.2.2.1, y3226.2.2.2.1, l3240, ())) (fun y3423 =>
let s3424 := y3423.1.1
let i3425 := y3423.1.2.1
let l3439 := y3423.2.2.2.2.1
bif (i3425 == 0) then (
q_17 (((), ()), (y3423.2.1, y3423.2.2.1, y3423.2.2.2.1, l3439, ())) (fun y3440 =>
let r3455 := y3440.2.2.2.2.2.1
q_20 ((a3249, y3226.2.2.2.2.2.1, (), ()), (r3455, ())) (fun y3560 =>
let s3561 := y3560.1
κ0 ((eqS s3424 s3561), ())))) else (
κ0 (false, ()))))))))))))))))
def p_4 {R : Type} (N : Nat) (x : ((Int × Y7) × ByteArray × (List (Int × (Int × (Int × Unit)))) × Unit) × (Unit)) (κ0 : (Bool × (Unit)) → Option R) : Option R := Q_4 (p_8 N) (p_14 N) (p_18 N) (p_13 N) (p_17 N) (p_19 N) (p_16 N) (p_11 N) (p_20 N) (p_12 N) (l_4_11 N N) x κ0
def EG_4 {R : Type} (q_8 : Tp_8 R) (q_14 : Tp_14 R) (q_18 : Tp_18 R) (q_13 : Tp_13 R) (q_17 : Tp_17 R) (q_19 : Tp_19 R) (q_16 : Tp_16 R) (q_11 : Tp_11 R) (q_20 : Tp_20 R) (q_12 : Tp_12 R) : Env R := ((((((((((Env.base QQ LN AA).add 8 ap_8 hp_8 (fun (x : aden ap_8 × hden hp_8) k => q_8 x (fun y => k (Pat.inst (.bool) y) (instH hp_8 x.2)))).add 14 ap_14 hp_14 (fun (x : aden ap_14 × hden hp_14) k => q_14 x (fun y => k (Pat.inst (.nilp) y.1) (instH [] y.2)) (fun y => k (Pat.inst (.ptr 0 []) y.1) (instH J0 y.2)))).add 18 ap_18 hp_18 (fun (x : aden ap_18 × hden hp_18) k => q_18 x (fun y => k (Pat.inst (.vec (.int .u64) 8) y) (instH hp_18 x.2)))).add 13 ap_13 hp_13 (fun (x : aden ap_13 × hden hp_13) k => q_13 x (fun y => k (Pat.inst (.int .i64) y.1) (instH J0 y.2)))).add 17 ap_17 hp_17 (fun (x : aden ap_17 × hden hp_17) k => q_17 x (fun y => k (Pat.inst (.sl 4) y.1) (instH J2 y.2)))).add 19 ap_19 hp_19 (fun (x : aden ap_19 × hden hp_19) k => q_19 x (fun y => k (Pat.inst (.sl 0) y.1) (instH J5 y.2)))).add 16 ap_16 hp_16 (fun (x : aden ap_16 × hden hp_16) k => q_16 x (fun y => k (Pat.inst (.bool) y.1) (instH J3 y.2)))).add 11 ap_11 hp_11 (fun (x : aden ap_11 × hden hp_11) k => q_11 x (fun y => k (Pat.inst (.tup (.fcons (.str) (.fcons (.int .i64) (.fnil)))) y.1) (instH J0 y.2)))).add 20 ap_20 hp_20 (fun (x : aden ap_20 × hden hp_20) k => q_20 x (fun y => k (Pat.inst (.str) y.1) (instH J5 y.2)))).add 12 ap_12 hp_12 (fun (x : aden ap_12 × hden hp_12) k => q_12 x (fun y => k (Pat.inst (.int .i64) y.1) (instH J0 y.2)))
def LG_4 {R : Type} (m_4_11 : Tl_4_11 R) : Loops R := (Loops.none).add 11 (loopBy 0 lv_4_11 pt_4_11 (fun x k => m_4_11 x (fun y => k (.exit 0) (px_4_11_0.inst y))))
def E_4 {R : Type} (N : Nat) : Env R := EG_4 (p_8 N) (p_14 N) (p_18 N) (p_13 N) (p_17 N) (p_19 N) (p_16 N) (p_11 N) (p_20 N) (p_12 N)
theorem eok_4 {R : Type} (N : Nat) : EK Try.prog (E_4 (R := R) N) := ek_add (ek_add (ek_add (ek_add (ek_add (ek_add (ek_add (ek_add (ek_add (ek_add (ek_base _ _ _) (good_8 N)) (good_14 N)) (good_18 N)) (good_13 N)) (good_17 N)) (good_19 N)) (good_16 N)) (good_11 N)) (good_20 N)) (good_12 N)
def L_4 {R : Type} (N : Nat) : Loops R := LG_4 (l_4_11 N N)
theorem gstep_4_11 {R : Type} (q_8 : Tp_8 R) (q_14 : Tp_14 R) (q_18 : Tp_18 R) (q_13 : Tp_13 R) (q_17 : Tp_17 R) (q_19 : Tp_19 R) (q_16 : Tp_16 R) (q_11 : Tp_11 R) (q_20 : Tp_20 R) (q_12 : Tp_12 R) (m_4_11 : Tl_4_11 R) (n : Nat) (x : pt_4_11.den) (k : Exit → St → Option R) : iter 0 lv_4_11 lo_4_11 (aexec TT (EG_4 q_8 q_14 q_18 q_13 q_17 q_19 q_16 q_11 q_20 q_12) (drawAny TT WW) (LG_4 m_4_11) (loopAt 11 (bodyOf Try.f4))) (n + 1) (pt_4_11.inst x) k = C_4_11 q_12 (fun y => iter 0 lv_4_11 lo_4_11 (aexec TT (EG_4 q_8 q_14 q_18 q_13 q_17 q_19 q_16 q_11 q_20 q_12) (drawAny TT WW) (LG_4 m_4_11) (loopAt 11 (bodyOf Try.f4))) n (pt_4_11.inst y) k) x (fun y => k (.exit 0) (px_4_11_0.inst y)) := by kernel_rfl
theorem step_4_11 {R : Type} (N n : Nat) (x : pt_4_11.den) (k : Exit → St → Option R) : iter 0 lv_4_11 lo_4_11 (aexec TT (E_4 (R := R) N) (drawAny TT WW) (L_4 N) (loopAt 11 (bodyOf Try.f4))) (n + 1) (pt_4_11.inst x) k = B_4_11 N (fun y => iter 0 lv_4_11 lo_4_11 (aexec TT (E_4 (R := R) N) (drawAny TT WW) (L_4 N) (loopAt 11 (bodyOf Try.f4))) n (pt_4_11.inst y) k) x (fun y => k (.exit 0) (px_4_11_0.inst y)) := (gstep_4_11 (p_8 N) (p_14 N) (p_18 N) (p_13 N) (p_17 N) (p_19 N) (p_16 N) (p_11 N) (p_20 N) (p_12 N) (l_4_11 N N) n x k).trans (by kernel_rfl)
theorem eq_4_11 {R : Type} (N : Nat) : ∀ (n : Nat) (x : pt_4_11.den) (k : Exit → St → Option R), iter 0 lv_4_11 lo_4_11 (aexec TT (E_4 (R := R) N) (drawAny TT WW) (L_4 N) (loopAt 11 (bodyOf Try.f4))) n (pt_4_11.inst x) k = l_4_11 N n x (fun y => k (.exit 0) (px_4_11_0.inst y)) :=
  iter_eq (K := Exit → St → Option R) (ks := fun k => k) (l := fun n (x : pt_4_11.den) k => l_4_11 N n x (fun y => k (.exit 0) (px_4_11_0.inst y))) (B := fun (rec : pt_4_11.den → Option R) (x : pt_4_11.den) k => B_4_11 N rec x (fun y => k (.exit 0) (px_4_11_0.inst y))) (fun _ _ => rfl) (fun _ _ _ => rfl) (fun n x k => step_4_11 N n x k)
theorem rounds_4_11 {R : Type} (N : Nat) : Rounds 0 TT (E_4 (R := R) N) (drawAny TT WW) (L_4 N) 11 (loopAt 11 (bodyOf Try.f4)) :=
  rounds_of (p := pt_4_11) (l := fun (x : pt_4_11.den) k => l_4_11 N N x (fun y => k (.exit 0) (px_4_11_0.inst y))) (fun s k => rfl) (fun x k => eq_4_11 N N x k)
theorem loops_4 : loopsIn (bodyOf Try.f4) = [(11, loopAt 11 (bodyOf Try.f4))] := by kernel_rfl
theorem lok_4 {R : Type} (N : Nat) : LOK 0 TT (E_4 (R := R) N) (drawAny TT WW) (L_4 N) (bodyOf Try.f4) := loops_all loops_4 (by
  simp only [List.forall_mem_cons, List.not_mem_nil, false_implies, implies_true, and_true]
  exact rounds_4_11 N)
theorem grun_4 {R : Type} (q_8 : Tp_8 R) (q_14 : Tp_14 R) (q_18 : Tp_18 R) (q_13 : Tp_13 R) (q_17 : Tp_17 R) (q_19 : Tp_19 R) (q_16 : Tp_16 R) (q_11 : Tp_11 R) (q_20 : Tp_20 R) (q_12 : Tp_12 R) (m_4_11 : Tl_4_11 R) (x : aden ap_4 × hden hp_4) (k : KF R) : fnrun TT (EG_4 q_8 q_14 q_18 q_13 q_17 q_19 q_16 q_11 q_20 q_12) (drawAny TT WW) (LG_4 m_4_11) true Try.f4 (instA ap_4 x.1) (instH hp_4 x.2) k = Q_4 q_8 q_14 q_18 q_13 q_17 q_19 q_16 q_11 q_20 q_12 m_4_11 x (fun y => k (Pat.inst (.bool) y.1) (instH [] y.2)) := by kernel_rfl
theorem run_4 {R : Type} (N : Nat) (x : aden ap_4 × hden hp_4) (k : KF R) : fnrun TT (E_4 (R := R) N) (drawAny TT WW) (L_4 N) true Try.f4 (instA ap_4 x.1) (instH hp_4 x.2) k = p_4 N x (fun y => k (Pat.inst (.bool) y.1) (instH [] y.2)) := (grun_4 (p_8 N) (p_14 N) (p_18 N) (p_13 N) (p_17 N) (p_19 N) (p_16 N) (p_11 N) (p_20 N) (p_12 N) (l_4_11 N N) x k).trans (by kernel_rfl)
theorem good_4 {R : Type} (N : Nat) : GD (X := R) Try.prog QQ AA 4 ap_4 hp_4 (fun (x : aden ap_4 × hden hp_4) k => p_4 N x (fun y => k (Pat.inst (.bool) y.1) (instH [] y.2))) :=
  gd_loud (E := E_4 N) (p := fun (x : aden ap_4 × hden hp_4) k => p_4 N x (fun y => k (Pat.inst (.bool) y.1) (instH [] y.2))) mixed tyok (eok_4 N) Try.func4 (by kernel_rfl) (by kernel_rfl) (by kernel_rfl) (by kernel_rfl) (lok_4 N) (fun x k => run_4 N x k)

end Go.Proofs.Ytfcloeflcpcheaa.Eng
