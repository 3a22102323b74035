/-
Plain functions that the functions of the program are shown to come to, printed by a program of the prover; each with its proof.
Conditions: none.
-/
import Derived.Test.YtfcloeflcpcheaaMirFillLooksB
import Derived.KernelRfl
set_option linter.unusedVariables false
namespace Go.Proofs.Ytfcloeflcpcheaa.Eng
def ap_38 : List Pat := [.node (.fcons (.int .i64) (.fcons (.int .i64) (.fcons (.int .i64) (.fcons (.int .i64) (.fcons (.int .i64) (.fcons (.int .i64) (.fcons (.int .i64) (.fcons (.int .i64) (.fnil))))))))), .sl 0, .int .i64, .int .i64, .int .i64, .int .i64]
def hp_38 : List (Option (Pat × Nat)) := [some (.fam 29 (.arr 128 (.int .u64)), 52)]
abbrev Tp_38 (R : Type) : Type := (Y0 × Unit × Int × Int × Int × Int × Unit) × ((List (List (Nat → Int))) × Unit) → ((Nat → Int) → Option R) → Option R
def Q_38 {R : Type} (q_71 : Tp_71 R) (q_72 : Tp_72 R) (q_73 : Tp_73 R) (q_74 : Tp_74 R) (q_60 : Tp_60 R) (x : (Y0 × Unit × Int × Int × Int × Int × Unit) × ((List (List (Nat → Int))) × Unit)) (κ0 : (Nat → Int) → Option R) : Option R :=
let i2994 := x.1.1.2.2.2.2.2.1
let i2995 := x.1.1.2.2.2.2.2.2.1
let i2997 := x.1.2.2.1
let i2998 := x.1.2.2.2.1
let i2999 := x.1.2.2.2.2.1
let i3000 := x.1.2.2.2.2.2.1
let r3001 := x.2.1
let i3002 : Int := mulA .i64 i2998 i2995
let i3003 : Int := addA .i64 i3002 i3000
let i3004 : Int := addA .i64 i3003 i2994
let i3005 : Int := subA .i64 i3004 1
bif decide (i2994 = 0) then none else (
let i3006 : Int := remA .i64 i3005 i2994
bif decide (0 ≤ i2999) then (
bif decide (i2999 < ((List.length r3001) : Int)) then (
bif decide (0 ≤ i3006) then (
bif decide (i3006 < ((List.length ((List.getD r3001 ((Int.toNat i2999)) []))) : Int)) then (
let i3007 : Int := ((List.getD ((List.getD r3001 ((Int.toNat i2999)) [])) ((Int.toNat i3006)) (Sch.zero (.arr 128 (.int .u64)))) 0)
q_71 ((x.1.1, i2997, i2998, ()), ()) (fun y3018 =>
let b3019 : Bool := y3018
bif b3019 then (
q_72 ((x.1.1, i2997, i2998, i2999, i3000, ()), ()) (fun y3298 =>
let i3299 : Int := y3298
let i3300 : Int := remA .u64 i3299 4294967296
let i3301 : Int := IntKind.wrap .u32 i3300
let i3302 : Int := quoA .u64 i3299 4294967296
let i3303 : Int := IntKind.wrap .u32 i3302
q_73 ((x.1.1, i2997, i2998, i2999, i3000, i3301, i3303, ()), ()) (fun y3467 =>
let i3468 := y3467.1
let i3469 := y3467.2.1
bif decide (0 ≤ i2999) then (
bif decide (i2999 < ((List.length r3001) : Int)) then (
bif decide (0 ≤ i3006) then (
bif decide (i3006 < ((List.length ((List.getD r3001 ((Int.toNat i2999)) []))) : Int)) then (
let a3470 : (Nat → Int) := (List.getD ((List.getD r3001 ((Int.toNat i2999)) [])) ((Int.toNat i3006)) (Sch.zero (.arr 128 (.int .u64))))
bif decide (0 ≤ i3468) then (
bif decide (i3468 < ((List.length r3001) : Int)) then (
bif decide (0 ≤ i3469) then (
bif decide (i3469 < ((List.length ((List.getD r3001 ((Int.toNat i3468)) []))) : Int)) then (
let a3471 : (Nat → Int) := (List.getD ((List.getD r3001 ((Int.toNat i3468)) [])) ((Int.toNat i3469)) (Sch.zero (.arr 128 (.int .u64))))
q_74 ((a3470, a3471, ()), ()) (fun y3472 =>
let a3473 := y3472
bif (decide (i2997 > 0)) then (
bif decide (0 ≤ i2999) then (
bif decide (i2999 < ((List.length r3001) : Int)) then (
bif decide (0 ≤ i3003) then (
bif decide (i3003 < ((List.length ((List.getD r3001 ((Int.toNat i2999)) []))) : Int)) then (
let a3474 : (Nat → Int) := (List.getD ((List.getD r3001 ((Int.toNat i2999)) [])) ((Int.toNat i3003)) (Sch.zero (.arr 128 (.int .u64))))
let l3475 : (List (Nat → Int)) := [a3473, a3474]
q_60 ((l3475, ()), ()) (fun y3476 =>
let a3477 : (Nat → Int) := y3476
κ0 a3477)) else none) else none) else none) else none) else (
κ0 a3473))) else none) else none) else none) else none) else none) else none) else none) else none))) else (
let i3478 : Int := remA .u64 i3007 4294967296
let i3479 : Int := IntKind.wrap .u32 i3478
let i3480 : Int := quoA .u64 i3007 4294967296
let i3481 : Int := IntKind.wrap .u32 i3480
q_73 ((x.1.1, i2997, i2998, i2999, i3000, i3479, i3481, ()), ()) (fun y3482 =>
let i3483 := y3482.1
let i3484 := y3482.2.1
bif decide (0 ≤ i2999) then (
bif decide (i2999 < ((List.length r3001) : Int)) then (
bif decide (0 ≤ i3006) then (
bif decide (i3006 < ((List.length ((List.getD r3001 ((Int.toNat i2999)) []))) : Int)) then (
let a3485 : (Nat → Int) := (List.getD ((List.getD r3001 ((Int.toNat i2999)) [])) ((Int.toNat i3006)) (Sch.zero (.arr 128 (.int .u64))))
bif decide (0 ≤ i3483) then (
bif decide (i3483 < ((List.length r3001) : Int)) then (
bif decide (0 ≤ i3484) then (
bif decide (i3484 < ((List.length ((List.getD r3001 ((Int.toNat i3483)) []))) : Int)) then (
let a3486 : (Nat → Int) := (List.getD ((List.getD r3001 ((Int.toNat i3483)) [])) ((Int.toNat i3484)) (Sch.zero (.arr 128 (.int .u64))))
q_74 ((a3485, a3486, ()), ()) (fun y3487 =>
let a3488 : (Nat → Int) := y3487
bif (decide (i2997 > 0)) then (
bif decide (0 ≤ i2999) then (
bif decide (i2999 < ((List.length r3001) : Int)) then (
bif decide (0 ≤ i3003) then (
bif decide (i3003 < ((List.length ((List.getD r3001 ((Int.toNat i2999)) []))) : Int)) then (
let a3489 : (Nat → Int) := (List.getD ((List.getD r3001 ((Int.toNat i2999)) [])) ((Int.toNat i3003)) (Sch.zero (.arr 128 (.int .u64))))
let l3490 : (List (Nat → Int)) := [a3488, a3489]
q_60 ((l3490, ()), ()) (fun y3491 =>
let a3492 := y3491
κ0 a3492)) else none) else none) else none) else none) else (
κ0 a3488))) else none) else none) else none) else none) else none) else none) else none) else none)))) else none) else none) else none) else none)
def p_38 {R : Type} (N : Nat) (x : (Y0 × Unit × Int × Int × Int × Int × Unit) × ((List (List (Nat → Int))) × Unit)) (κ0 : (Nat → Int) → Option R) : Option R := Q_38 (p_71 N) (p_72 N) (p_73 N) (p_74 N) (p_60 N) x κ0
def EG_38 {R : Type} (q_71 : Tp_71 R) (q_72 : Tp_72 R) (q_73 : Tp_73 R) (q_74 : Tp_74 R) (q_60 : Tp_60 R) : Env R := (((((Env.base QQ LN AA).add 71 ap_71 hp_71 (fun (x : aden ap_71 × hden hp_71) k => q_71 x (fun y => k (Pat.inst (.bool) y) (instH hp_71 x.2)))).add 72 ap_72 hp_72 (fun (x : aden ap_72 × hden hp_72) k => q_72 x (fun y => k (Pat.inst (.int .u64) y) (instH hp_72 x.2)))).add 73 ap_73 hp_73 (fun (x : aden ap_73 × hden hp_73) k => q_73 x (fun y => k (Pat.inst (.tup (.fcons (.int .i64) (.fcons (.int .i64) (.fnil)))) y) (instH hp_73 x.2)))).add 74 ap_74 hp_74 (fun (x : aden ap_74 × hden hp_74) k => q_74 x (fun y => k (Pat.inst (.vec (.int .u64) 128) y) (instH hp_74 x.2)))).add 60 ap_60 hp_60 (fun (x : aden ap_60 × hden hp_60) k => q_60 x (fun y => k (Pat.inst (.vec (.int .u64) 128) y) (instH hp_60 x.2)))
def LG_38 {R : Type} : Loops R := Loops.none
def E_38 {R : Type} (N : Nat) : Env R := EG_38 (p_71 N) (p_72 N) (p_73 N) (p_74 N) (p_60 N)
theorem eok_38 {R : Type} (N : Nat) : EK Try.prog (E_38 (R := R) N) := ek_add (ek_add (ek_add (ek_add (ek_add (ek_base _ _ _) (good_71 N)) (good_72 N)) (good_73 N)) (good_74 N)) (good_60 N)
def L_38 {R : Type} (N : Nat) : Loops R := LG_38
theorem lok_38 {R : Type} (N : Nat) : LOK 1 TT (E_38 (R := R) N) (drawAny TT WW) (L_38 N) (bodyOf Try.f38) := loops_nil (by kernel_rfl)
theorem grun_38 {R : Type} (q_71 : Tp_71 R) (q_72 : Tp_72 R) (q_73 : Tp_73 R) (q_74 : Tp_74 R) (q_60 : Tp_60 R) (x : aden ap_38 × hden hp_38) (k : KF R) : fnrun TT (EG_38 q_71 q_72 q_73 q_74 q_60) (drawAny TT WW) (LG_38) true Try.f38 (instA ap_38 x.1) (instH hp_38 x.2) k = Q_38 q_71 q_72 q_73 q_74 q_60 x (fun y => k (Pat.inst (.vec (.int .u64) 128) y) (instH hp_38 x.2)) := by kernel_rfl
theorem run_38 {R : Type} (N : Nat) (x : aden ap_38 × hden hp_38) (k : KF R) : fnrun TT (E_38 (R := R) N) (drawAny TT WW) (L_38 N) true Try.f38 (instA ap_38 x.1) (instH hp_38 x.2) k = p_38 N x (fun y => k (Pat.inst (.vec (.int .u64) 128) y) (instH hp_38 x.2)) := (grun_38 (p_71 N) (p_72 N) (p_73 N) (p_74 N) (p_60 N) x k).trans (by kernel_rfl)
theorem good_38 {R : Type} (N : Nat) : GD (X := R) Try.prog QQ AA 38 ap_38 hp_38 (fun (x : aden ap_38 × hden hp_38) k => p_38 N x (fun y => k (Pat.inst (.vec (.int .u64) 128) y) (instH hp_38 x.2))) :=
  gd_quiet (E := E_38 N) (p := fun (x : aden ap_38 × hden hp_38) κ => p_38 N x (fun y => κ (Pat.inst (.vec (.int .u64) 128) y))) mixed tyok (eok_38 N) Try.func38 (by kernel_rfl) (by kernel_rfl) (lok_38 N) (fun x k => run_38 N x k)

def lv_16_9 : Live := [(0, none), (1, none), (5, none), (6, none)]
def pt_16_9 : SPat := ⟨[(0, .sl 0), (1, .sl 1), (5, .int .i64), (6, .int .i64)], J4⟩
def px_16_9_0 : SPat := ⟨[(4, .bool)], J4⟩
def px_16_9_1 : SPat := ⟨[(0, .sl 0), (1, .sl 1), (5, .int .i64)], J4⟩
def lo_16_9 : Exit → Live
  | .ret => [(4, none)]
  | .exit 2 => [(0, none), (1, none), (5, none)]
  | _ => []
def lv_16_4 : Live := [(0, none), (1, none), (5, none)]
def pt_16_4 : SPat := ⟨[(0, .sl 0), (1, .sl 1), (5, .int .i64)], J4⟩
def px_16_4_0 : SPat := ⟨[(4, .bool)], J4⟩
def px_16_4_1 : SPat := ⟨[], J4⟩
def lo_16_4 : Exit → Live
  | .ret => [(4, none)]
  | .exit 0 => []
  | _ => []
def ap_16 : List Pat := [.sl 0, .sl 1]
def hp_16 : List (Option (Pat × Nat)) := J4
abbrev Tl_16_9 (R : Type) : Type := (Y13 × Y7) → (((Bool × Unit) × Y7) → Option R) → ((Y18 × Y7) → Option R) → Option R
abbrev Tl_16_4 (R : Type) : Type := (Y18 × Y7) → (((Bool × Unit) × Y7) → Option R) → (((Unit) × Y7) → Option R) → Option R
abbrev Tp_16 (R : Type) : Type := (Unit × Unit × Unit) × Y7 → ((Bool × Y7) → Option R) → Option R
def C_16_9 {R : Type} (rec : (Y13 × Y7) → Option R) (x : (Y13 × Y7)) (κ0 : ((Bool × Unit) × Y7) → Option R) (κ1 : (Y18 × Y7) → Option R) : Option R :=
let i3538 := x.1.2.2.1
let i3539 := x.1.2.2.2.1
let r3540 := x.2.1
let r3541 := x.2.2.1
bif decide (0 ≤ i3538) then (
bif decide (i3538 < ((List.length r3540) : Int)) then (
let i3542 : Int := (((List.length ((List.getD r3540 ((Int.toNat i3538)) []))) : Nat) : Int)
bif (decide (i3539 < i3542)) then (
bif decide (0 ≤ i3538) then (
bif decide (i3538 < ((List.length r3540) : Int)) then (
bif decide (0 ≤ i3539) then (
bif decide (i3539 < ((List.length ((List.getD r3540 ((Int.toNat i3538)) []))) : Int)) then (
let a3543 : (Nat → Int) := (List.getD ((List.getD r3540 ((Int.toNat i3538)) [])) ((Int.toNat i3539)) (Sch.zero (.arr 128 (.int .u64))))
bif decide (0 ≤ i3538) then (
bif decide (i3538 < ((List.length r3541) : Int)) then (
bif decide (0 ≤ i3539) then (
bif decide (i3539 < ((List.length ((List.getD r3541 ((Int.toNat i3538)) []))) : Int)) then (
let a3544 : (Nat → Int) := (List.getD ((List.getD r3541 ((Int.toNat i3538)) [])) ((Int.toNat i3539)) (Sch.zero (.arr 128 (.int .u64))))
bif (!(schEq (.arr 128 (.int .u64)) a3543 a3544)) then (
κ0 ((false, ()), (r3540, r3541, ()))) else (
let i3545 : Int := addA .i64 i3539 1
rec (((), (), i3538, i3545, ()), (r3540, r3541, ())))) else none) else none) else none) else none) else none) else none) else none) else none) else (
κ1 (((), (), i3538, ()), (r3540, r3541, ())))) else none) else none
def C_16_4 {R : Type} (m_16_9 : Tl_16_9 R) (rec : (Y18 × Y7) → Option R) (x : (Y18 × Y7)) (κ0 : ((Bool × Unit) × Y7) → Option R) (κ1 : ((Unit) × Y7) → Option R) : Option R :=
let i3532 := x.1.2.2.1
let r3533 := x.2.1
let r3534 := x.2.2.1
let i3535 : Int := (((List.length r3533) : Nat) : Int)
bif (decide (i3532 < i3535)) then (
bif decide (0 ≤ i3532) then (
bif decide (i3532 < ((List.length r3533) : Int)) then (
let i3536 : Int := (((List.length ((List.getD r3533 ((Int.toNat i3532)) []))) : Nat) : Int)
bif decide (0 ≤ i3532) then (
bif decide (i3532 < ((List.length r3534) : Int)) then (
let i3537 : Int := (((List.length ((List.getD r3534 ((Int.toNat i3532)) []))) : Nat) : Int)
bif (i3536 != i3537) then (
κ0 ((false, ()), (r3533, r3534, ()))) else (
m_16_9 (((), (), i3532, 0, ()), (r3533, r3534, ())) (fun y3546 =>
let r3548 := y3546.2.1
let r3549 := y3546.2.2.1
κ0 (y3546.1, (r3548, r3549, ()))) (fun y3550 =>
let i3551 := y3550.1.2.2.1
let r3552 := y3550.2.1
let r3553 := y3550.2.2.1
let i3554 : Int := addA .i64 i3551 1
rec (((), (), i3554, ()), (r3552, r3553, ()))))) else none) else none) else none) else none) else (
κ1 ((), (r3533, r3534, ())))
def B_16_9 {R : Type} (N : Nat) (rec : (Y13 × Y7) → Option R) (x : (Y13 × Y7)) (κ0 : ((Bool × Unit) × Y7) → Option R) (κ1 : (Y18 × Y7) → Option R) : Option R := C_16_9 rec x κ0 κ1
def l_16_9 {R : Type} (N : Nat) : Nat → (Y13 × Y7) → (((Bool × Unit) × Y7) → Option R) → ((Y18 × Y7) → Option R) → Option R
  | 0, _, _, _ => none
  | n + 1, x, κ0, κ1 => B_16_9 N (fun y => l_16_9 N n y κ0 κ1) x κ0 κ1
def B_16_4 {R : Type} (N : Nat) (rec : (Y18 × Y7) → Option R) (x : (Y18 × Y7)) (κ0 : ((Bool × Unit) × Y7) → Option R) (κ1 : ((Unit) × Y7) → Option R) : Option R := C_16_4 (l_16_9 N N) rec x κ0 κ1
def l_16_4 {R : Type} (N : Nat) : Nat → (Y18 × Y7) → (((Bool × Unit) × Y7) → Option R) → (((Unit) × Y7) → Option R) → Option R
  | 0, _, _, _ => none
  | n + 1, x, κ0, κ1 => B_16_4 N (fun y => l_16_4 N n y κ0 κ1) x κ0 κ1
def Q_16 {R : Type} (m_16_9 : Tl_16_9 R) (m_16_4 : Tl_16_4 R) (x : (Unit × Unit × Unit) × Y7) (κ0 : (Bool × Y7) → Option R) : Option R :=
let r3528 := x.2.1
let r3529 := x.2.2.1
let i3530 : Int := (((List.length r3528) : Nat) : Int)
let i3531 : Int := (((List.length r3529) : Nat) : Int)
bif (i3530 != i3531) then (
κ0 (false, (r3528, r3529, ()))) else (
m_16_4 (((), (), 0, ()), (r3528, r3529, ())) (fun y3555 =>
let b3556 := y3555.1.1
let r3557 := y3555.2.1
let r3558 := y3555.2.2.1
κ0 (b3556, (r3557, r3558, ()))) (fun y3559 =>
let r3560 := y3559.2.1
let r3561 := y3559.2.2.1
κ0 (true, (r3560, r3561, ()))))
def p_16 {R : Type} (N : Nat) (x : (Unit × Unit × Unit) × Y7) (κ0 : (Bool × Y7) → Option R) : Option R := Q_16 (l_16_9 N N) (l_16_4 N N) x κ0
def EG_16 {R : Type} : Env R := Env.base QQ LN AA
def LG_16 {R : Type} (m_16_9 : Tl_16_9 R) (m_16_4 : Tl_16_4 R) : Loops R := ((Loops.none).add 9 (loopBy 2 lv_16_9 pt_16_9 (fun x k => m_16_9 x (fun y => k .ret (px_16_9_0.inst y)) (fun y => k (.exit 2) (px_16_9_1.inst y))))).add 4 (loopBy 2 lv_16_4 pt_16_4 (fun x k => m_16_4 x (fun y => k .ret (px_16_4_0.inst y)) (fun y => k (.exit 0) (px_16_4_1.inst y))))
def E_16 {R : Type} (N : Nat) : Env R := EG_16
theorem eok_16 {R : Type} (N : Nat) : EK Try.prog (E_16 (R := R) N) := ek_base _ _ _
def L_16 {R : Type} (N : Nat) : Loops R := LG_16 (l_16_9 N N) (l_16_4 N N)
theorem gstep_16_9 {R : Type} (m_16_9 : Tl_16_9 R) (m_16_4 : Tl_16_4 R) (n : Nat) (x : pt_16_9.den) (k : Exit → St → Option R) : iter 2 lv_16_9 lo_16_9 (aexec TT (EG_16) (drawAny TT WW) (LG_16 m_16_9 m_16_4) (loopAt 9 (bodyOf Try.f16))) (n + 1) (pt_16_9.inst x) k = C_16_9 (fun y => iter 2 lv_16_9 lo_16_9 (aexec TT (EG_16) (drawAny TT WW) (LG_16 m_16_9 m_16_4) (loopAt 9 (bodyOf Try.f16))) n (pt_16_9.inst y) k) x (fun y => k .ret (px_16_9_0.inst y)) (fun y => k (.exit 2) (px_16_9_1.inst y)) := by kernel_rfl
theorem step_16_9 {R : Type} (N n : Nat) (x : pt_16_9.den) (k : Exit → St → Option R) : iter 2 lv_16_9 lo_16_9 (aexec TT (E_16 (R := R) N) (drawAny TT WW) (L_16 N) (loopAt 9 (bodyOf Try.f16))) (n + 1) (pt_16_9.inst x) k = B_16_9 N (fun y => iter 2 lv_16_9 lo_16_9 (aexec TT (E_16 (R := R) N) (drawAny TT WW) (L_16 N) (loopAt 9 (bodyOf Try.f16))) n (pt_16_9.inst y) k) x (fun y => k .ret (px_16_9_0.inst y)) (fun y => k (.exit 2) (px_16_9_1.inst y)) := (gstep_16_9 (l_16_9 N N) (l_16_4 N N) n x k).trans (by kernel_rfl)
theorem eq_16_9 {R : Type} (N : Nat) : ∀ (n : Nat) (x : pt_16_9.den) (k : Exit → St → Option R), iter 2 lv_16_9 lo_16_9 (aexec TT (E_16 (R := R) N) (drawAny TT WW) (L_16 N) (loopAt 9 (bodyOf Try.f16))) n (pt_16_9.inst x) k = l_16_9 N n x (fun y => k .ret (px_16_9_0.inst y)) (fun y => k (.exit 2) (px_16_9_1.inst y)) :=
  iter_eq (K := Exit → St → Option R) (ks := fun k => k) (l := fun n (x : pt_16_9.den) k => l_16_9 N n x (fun y => k .ret (px_16_9_0.inst y)) (fun y => k (.exit 2) (px_16_9_1.inst y))) (B := fun (rec : pt_16_9.den → Option R) (x : pt_16_9.den) k => B_16_9 N rec x (fun y => k .ret (px_16_9_0.inst y)) (fun y => k (.exit 2) (px_16_9_1.inst y))) (fun _ _ => rfl) (fun _ _ _ => rfl) (fun n x k => step_16_9 N n x k)
theorem rounds_16_9 {R : Type} (N : Nat) : Rounds 2 TT (E_16 (R := R) N) (drawAny TT WW) (L_16 N) 9 (loopAt 9 (bodyOf Try.f16)) :=
  rounds_of (p := pt_16_9) (l := fun (x : pt_16_9.den) k => l_16_9 N N x (fun y => k .ret (px_16_9_0.inst y)) (fun y => k (.exit 2) (px_16_9_1.inst y))) (fun s k => rfl) (fun x k => eq_16_9 N N x k)
theorem gstep_16_4 {R : Type} (m_16_9 : Tl_16_9 R) (m_16_4 : Tl_16_4 R) (n : Nat) (x : pt_16_4.den) (k : Exit → St → Option R) : iter 2 lv_16_4 lo_16_4 (aexec TT (EG_16) (drawAny TT WW) (LG_16 m_16_9 m_16_4) (loopAt 4 (bodyOf Try.f16))) (n + 1) (pt_16_4.inst x) k = C_16_4 m_16_9 (fun y => iter 2 lv_16_4 lo_16_4 (aexec TT (EG_16) (drawAny TT WW) (LG_16 m_16_9 m_16_4) (loopAt 4 (bodyOf Try.f16))) n (pt_16_4.inst y) k) x (fun y => k .ret (px_16_4_0.inst y)) (fun y => k (.exit 0) (px_16_4_1.inst y)) := by kernel_rfl
theorem step_16_4 {R : Type} (N n : Nat) (x : pt_16_4.den) (k : Exit → St → Option R) : iter 2 lv_16_4 lo_16_4 (aexec TT (E_16 (R := R) N) (drawAny TT WW) (L_16 N) (loopAt 4 (bodyOf Try.f16))) (n + 1) (pt_16_4.inst x) k = B_16_4 N (fun y => iter 2 lv_16_4 lo_16_4 (aexec TT (E_16 (R := R) N) (drawAny TT WW) (L_16 N) (loopAt 4 (bodyOf Try.f16))) n (pt_16_4.inst y) k) x (fun y => k .ret (px_16_4_0.inst y)) (fun y => k (.exit 0) (px_16_4_1.inst y)) := (gstep_16_4 (l_16_9 N N) (l_16_4 N N) n x k).trans (by kernel_rfl)
theorem eq_16_4 {R : Type} (N : Nat) : ∀ (n : Nat) (x : pt_16_4.den) (k : Exit → St → Option R), iter 2 lv_16_4 lo_16_4 (aexec TT (E_16 (R := R) N) (drawAny TT WW) (L_16 N) (loopAt 4 (bodyOf Try.f16))) n (pt_16_4.inst x) k = l_16_4 N n x (fun y => k .ret (px_16_4_0.inst y)) (fun y => k (.exit 0) (px_16_4_1.inst y)) :=
  iter_eq (K := Exit → St → Option R) (ks := fun k => k) (l := fun n (x : pt_16_4.den) k => l_16_4 N n x (fun y => k .ret (px_16_4_0.inst y)) (fun y => k (.exit 0) (px_16_4_1.inst y))) (B := fun (rec : pt_16_4.den → Option R) (x : pt_16_4.den) k => B_16_4 N rec x (fun y => k .ret (px_16_4_0.inst y)) (fun y => k (.exit 0) (px_16_4_1.inst y))) (fun _ _ => rfl) (fun _ _ _ => rfl) (fun n x k => step_16_4 N n x k)
theorem rounds_16_4 {R : Type} (N : Nat) : Rounds 2 TT (E_16 (R := R) N) (drawAny TT WW) (L_16 N) 4 (loopAt 4 (bodyOf Try.f16)) :=
  rounds_of (p := pt_16_4) (l := fun (x : pt_16_4.den) k => l_16_4 N N x (fun y => k .ret (px_16_4_0.inst y)) (fun y => k (.exit 0) (px_16_4_1.inst y))) (fun s k => rfl) (fun x k => eq_16_4 N N x k)
theorem loops_16 : loopsIn (bodyOf Try.f16) = [(4, loopAt 4 (bodyOf Try.f16)), (9, loopAt 9 (bodyOf Try.f16))] := by kernel_rfl
theorem lok_16 {R : Type} (N : Nat) : LOK 2 TT (E_16 (R := R) N) (drawAny TT WW) (L_16 N) (bodyOf Try.f16) := loops_all loops_16 (by
  simp only [List.forall_mem_cons, List.not_mem_nil, false_implies, implies_true, and_true]
  exact ⟨rounds_16_4 N, rounds_16_9 N⟩)
theorem grun_16 {R : Type} (m_16_9 : Tl_16_9 R) (m_16_4 : Tl_16_4 R) (x : aden ap_16 × hden hp_16) (k : KF R) : fnrun TT (EG_16) (drawAny TT WW) (LG_16 m_16_9 m_16_4) true Try.f16 (instA ap_16 x.1) (instH hp_16 x.2) k = Q_16 m_16_9 m_16_4 x (fun y => k (Pat.inst (.bool) y.1) (instH J4 y.2)) := by kernel_rfl
theorem run_16 {R : Type} (N : Nat) (x : aden ap_16 × hden hp_16) (k : KF R) : fnrun TT (E_16 (R := R) N) (drawAny TT WW) (L_16 N) true Try.f16 (instA ap_16 x.1) (instH hp_16 x.2) k = p_16 N x (fun y => k (Pat.inst (.bool) y.1) (instH J4 y.2)) := (grun_16 (l_16_9 N N) (l_16_4 N N) x k).trans (by kernel_rfl)
theorem good_16 {R : Type} (N : Nat) : GD (X := R) Try.prog QQ AA 16 ap_16 hp_16 (fun (x : aden ap_16 × hden hp_16) k => p_16 N x (fun y => k (Pat.inst (.bool) y.1) (instH J4 y.2))) :=
  gd_loud (E := E_16 N) (p := fun (x : aden ap_16 × hden hp_16) k => p_16 N x (fun y => k (Pat.inst (.bool) y.1) (instH J4 y.2))) mixed tyok (eok_16 N) Try.func16 (by kernel_rfl) (by kernel_rfl) (by kernel_rfl) (by kernel_rfl) (lok_16 N) (fun x k => run_16 N x k)

def ap_6 : List Pat := [.node (.fcons (.int .i64) (.fcons (.int .i64) (.fcons (.int .i64) (.fcons (.int .i64) (.fcons (.int .i64) (.fnil)))))), .str, .node (.fcons (.int .i64) (.fcons (.int .i64) (.fnil))), .int .i64, .int .i64]
def hp_6 : List (Option (Pat × Nat)) := []
abbrev Tp_6 (R : Type) : Type := ((Int × Y5) × ByteArray × (Int × (Int × Unit)) × Int × Int × Unit) × (Unit) → ((Bool × (Unit)) → Option R) → Option R
def Q_6 {R : Type} (q_28 : Tp_28 R) (q_14 : Tp_14 R) (q_29 : Tp_29 R) (q_30 : Tp_30 R) (q_13 : Tp_13 R) (q_31 : Tp_31 R) (q_17 : Tp_17 R) (q_33 : Tp_33 R) (q_32 : Tp_32 R) (q_34 : Tp_34 R) (q_35 : Tp_35 R) (q_36 : Tp_36 R) (q_37 : Tp_37 R) (q_38 : Tp_38 R) (q_39 : Tp_39 R) (q_16 : Tp_16 R) (x : ((Int × Y5) × ByteArray × (Int × (Int × Unit)) × Int × Int × Unit) × (Unit)) (κ0 : (Bool × (Unit)) → Option R) : Option R :=
let s6 := x.1.2.1
let i7 := x.1.2.2.1.1
let i8 := x.1.2.2.1.2.1
let i9 := x.1.2.2.2.1
let i10 := x.1.2.2.2.2.1
q_28 ((), ()) (fun y921 =>
let b922 := y921
bif (!b922) then (
κ0 (false, ())) else (
q_14 ((x.1.1, ()), ()) (fun y923 =>
κ0 (true, ())) (fun y924 =>
let i927 := y924.2.1.2.1.2.2.1
let i931 := y924.2.1.2.1.2.2.2.2.2.2.1
let l938 := y924.2.2.2.2.1
let i939 : Int := ((ByteArray.size s6 : Nat) : Int)
bif (decide (i939 > 200)) then (
κ0 (true, ())) else (
q_29 ((y924.2.1.2.1, x.1.2.2.1, ()), ()) (fun y940 =>
let b941 : Bool := y940
bif (!b941) then (
κ0 (true, ())) else (
bif (decide (i9 < 0)) then (
κ0 (true, ())) else (
bif (decide (i9 ≥ i927)) then (
κ0 (true, ())) else (
q_30 ((y924.2.1.2.1, i7, i8, ()), ()) (fun y942 =>
let i943 := y942
bif (decide (i10 < i943)) then (
κ0 (true, ())) else (
bif (decide (i10 ≥ i931)) then (
κ0 (true, ())) else (
q_13 (((), s6, ()), (y924.2.1, y924.2.2.1, y924.2.2.2.1, l938, ())) (fun y2482 =>
let l2497 := y2482.2.2.2.2.1
q_31 (((), (0, (0, ())), 0, ()), (y2482.2.1, y2482.2.2.1, y2482.2.2.2.1, l2497, ())) (fun y2724 =>
let l2739 := y2724.2.2.2.2.1
q_17 (((), ()), (y2724.2.1, y2724.2.2.1, y2724.2.2.2.1, l2739, ())) (fun y2871 =>
let l2885 := y2871.2.2.2.2.1
let r2886 := y2871.2.2.2.2.2.1
q_33 ((y2871.2.1.2.1, x.1.2.2.1, i9, ()), ()) (fun y2887 =>
q_32 (((), x.1.2.2.1, i9, i10, (), ()), (y2871.2.1, y2871.2.2.1, y2871.2.2.2.1, l2885, y2887.2.1, ())) (fun y2901 =>
let i2902 := y2901.1.1
let i2903 := y2901.1.2.1
let i2904 := y2901.1.2.2.1
let l2918 := y2901.2.2.2.2.1
q_34 ((y2901.2.1.2.1, x.1.2.2.1, i9, i10, i2902, i2903, ()), ()) (fun y2932 =>
let i2935 := y2932.2.1
q_33 ((y2901.2.1.2.1, x.1.2.2.1, i9, ()), ()) (fun y2936 =>
q_35 (((), x.1.2.2.1, i9, i10, (), ()), (y2901.2.1, y2901.2.2.1, y2901.2.2.2.1, l2918, y2936.2.1, ())) (fun y2950 =>
let i2952 := y2950.1.1.1.2.1
let i2957 := y2950.1.2.1
let l2971 := y2950.2.2.2.2.1
bif (i2957 != 0) then (
κ0 (false, ())) else (
bif (i2904 != 0) then (
κ0 (false, ())) else (
bif (i2935 != 0) then (
κ0 (false, ())) else (
bif (!(schEq (.stru (.fcons (.int .i64) (.fcons (.int .i64) (.fnil)))) (y2950.1.1.2.2.1) (y2932.1))) then (
κ0 (false, ())) else (
q_36 ((y2950.2.1.2.1, i8, i10, ()), ()) (fun y2985 =>
let i2986 : Int := y2985
bif (!(schEq (.stru (.fcons (.int .i64) (.fcons (.int .i64) (.fnil)))) (y2950.1.1.1) ((i9, (i2986, ()))))) then (
κ0 (false, ())) else (
q_37 ((y2950.2.1.2.1, i2952, ()), ()) (fun y2987 =>
let i2988 : Int := y2987
bif (!(schEq (.stru (.fcons (.int .i64) (.fcons (.int .i64) (.fnil)))) (y2950.1.1.2.1) ((i9, (i2988, ()))))) then (
κ0 (false, ())) else (
bif decide (0 ≤ i9) then (
bif decide (i9 < ((List.length r2886) : Int)) then (
q_38 ((y2950.2.1.2.1, (), i7, i8, i9, i10, ()), (r2886, ())) (fun y3493 =>
let a3494 : (Nat → Int) := y3493
bif decide (0 ≤ i2952) then (
bif decide (i2952 < ((List.length ((List.getD r2886 ((Int.toNat i9)) []))) : Int)) then (
let r3495 : (List (List (Nat → Int))) := (List.set r2886 ((Int.toNat i9)) ((List.set ((List.getD r2886 ((Int.toNat i9)) [])) ((Int.toNat i2952)) a3494)))
q_39 (((), x.1.2.2.1, y2950.1.1, ()), (y2950.2.1, y2950.2.2.1, y2950.2.2.2.1, l2971, ())) (fun y3496 =>
let i3497 := y3496.1
let l3511 := y3496.2.2.2.2.1
bif (i3497 == 0) then (
q_17 (((), ()), (y3496.2.1, y3496.2.2.1, y3496.2.2.2.1, l3511, ())) (fun y3512 =>
let r3527 := y3512.2.2.2.2.2.1
q_16 (((), (), ()), (r3527, r3495, ())) (fun y3562 =>
let b3563 := y3562.1
κ0 (b3563, ())))) else (
κ0 (false, ())))) else none) else none)) else none) else none)))))))))))))))))))))))))))
def p_6 {R : Type} (N : Nat) (x : ((Int × Y5) × ByteArray × (Int × (Int × Unit)) × Int × Int × Unit) × (Unit)) (κ0 : (Bool × (Unit)) → Option R) : Option R := Q_6 (p_28 N) (p_14 N) (p_29 N) (p_30 N) (p_13 N) (p_31 N) (p_17 N) (p_33 N) (p_32 N) (p_34 N) (p_35 N) (p_36 N) (p_37 N) (p_38 N) (p_39 N) (p_16 N) x κ0
def EG_6 {R : Type} (q_28 : Tp_28 R) (q_14 : Tp_14 R) (q_29 : Tp_29 R) (q_30 : Tp_30 R) (q_13 : Tp_13 R) (q_31 : Tp_31 R) (q_17 : Tp_17 R) (q_33 : Tp_33 R) (q_32 : Tp_32 R) (q_34 : Tp_34 R) (q_35 : Tp_35 R) (q_36 : Tp_36 R) (q_37 : Tp_37 R) (q_38 : Tp_38 R) (q_39 : Tp_39 R) (q_16 : Tp_16 R) : Env R := ((((((((((((((((Env.base QQ LN AA).add 28 ap_28 hp_28 (fun (x : aden ap_28 × hden hp_28) k => q_28 x (fun y => k (Pat.inst (.bool) y) (instH hp_28 x.2)))).add 14 ap_14 hp_14 (fun (x : aden ap_14 × hden hp_14) k => q_14 x (fun y => k (Pat.inst (.nilp) y.1) (instH [] y.2)) (fun y => k (Pat.inst (.ptr 0 []) y.1) (instH J0 y.2)))).add 29 ap_29 hp_29 (fun (x : aden ap_29 × hden hp_29) k => q_29 x (fun y => k (Pat.inst (.bool) y) (instH hp_29 x.2)))).add 30 ap_30 hp_30 (fun (x : aden ap_30 × hden hp_30) k => q_30 x (fun y => k (Pat.inst (.int .i64) y) (instH hp_30 x.2)))).add 13 ap_13 hp_13 (fun (x : aden ap_13 × hden hp_13) k => q_13 x (fun y => k (Pat.inst (.int .i64) y.1) (instH J0 y.2)))).add 31 ap_31 hp_31 (fun (x : aden ap_31 × hden hp_31) k => q_31 x (fun y => k (Pat.inst (.int .i64) y.1) (instH J0 y.2)))).add 17 ap_17 hp_17 (fun (x : aden ap_17 × hden hp_17) k => q_17 x (fun y => k (Pat.inst (.sl 4) y.1) (instH J2 y.2)))).add 33 ap_33 hp_33 (fun (x : aden ap_33 × hden hp_33) k => q_33 x (fun y => k (Pat.inst (.ptr 0 []) y.1) (instH hp_33 x.2 ++ instH [some (Z2, 132)] y.2)))).add 32 ap_32 hp_32 (fun (x : aden ap_32 × hden hp_32) k => q_32 x (fun y => k (Pat.inst (.tup (.fcons (.int .u32) (.fcons (.int .u32) (.fcons (.int .i64) (.fnil))))) y.1) (instH J1 y.2)))).add 34 ap_34 hp_34 (fun (x : aden ap_34 × hden hp_34) k => q_34 x (fun y => k (Pat.inst (.tup (.fcons Z7 (.fcons (.int .i64) (.fnil)))) y) (instH hp_34 x.2)))).add 35 ap_35 hp_35 (fun (x : aden ap_35 × hden hp_35) k => q_35 x (fun y => k (Pat.inst (.tup (.fcons (.node (.fcons Z7 (.fcons Z7 (.fcons Z7 (.fnil))))) (.fcons (.int .i64) (.fnil)))) y.1) (instH J1 y.2)))).add 36 ap_36 hp_36 (fun (x : aden ap_36 × hden hp_36) k => q_36 x (fun y => k (Pat.inst (.int .i64) y) (instH hp_36 x.2)))).add 37 ap_37 hp_37 (fun (x : aden ap_37 × hden hp_37) k => q_37 x (fun y => k (Pat.inst (.int .i64) y) (instH hp_37 x.2)))).add 38 ap_38 hp_38 (fun (x : aden ap_38 × hden hp_38) k => q_38 x (fun y => k (Pat.inst (.vec (.int .u64) 128) y) (instH hp_38 x.2)))).add 39 ap_39 hp_39 (fun (x : aden ap_39 × hden hp_39) k => q_39 x (fun y => k (Pat.inst (.int .i64) y.1) (instH J0 y.2)))).add 16 ap_16 hp_16 (fun (x : aden ap_16 × hden hp_16) k => q_16 x (fun y => k (Pat.inst (.bool) y.1) (instH J4 y.2)))
def LG_6 {R : Type} : Loops R := Loops.none
def E_6 {R : Type} (N : Nat) : Env R := EG_6 (p_28 N) (p_14 N) (p_29 N) (p_30 N) (p_13 N) (p_31 N) (p_17 N) (p_33 N) (p_32 N) (p_34 N) (p_35 N) (p_36 N) (p_37 N) (p_38 N) (p_39 N) (p_16 N)
theorem eok_6 {R : Type} (N : Nat) : EK Try.prog (E_6 (R := R) N) := ek_add (ek_add (ek_add (ek_add (ek_add (ek_add (ek_add (ek_add (ek_add (ek_add (ek_add (ek_add (ek_add (ek_add (ek_add (ek_add (ek_base _ _ _) (good_28 N)) (good_14 N)) (good_29 N)) (good_30 N)) (good_13 N)) (good_31 N)) (good_17 N)) (good_33 N)) (good_32 N)) (good_34 N)) (good_35 N)) (good_36 N)) (good_37 N)) (good_38 N)) (good_39 N)) (good_16 N)
def L_6 {R : Type} (N : Nat) : Loops R := LG_6
theorem lok_6 {R : Type} (N : Nat) : LOK 0 TT (E_6 (R := R) N) (drawAny TT WW) (L_6 N) (bodyOf Try.f6) := loops_nil (by kernel_rfl)
theorem grun_6 {R : Type} (q_28 : Tp_28 R) (q_14 : Tp_14 R) (q_29 : Tp_29 R) (q_30 : Tp_30 R) (q_13 : Tp_13 R) (q_31 : Tp_31 R) (q_17 : Tp_17 R) (q_33 : Tp_33 R) (q_32 : Tp_32 R) (q_34 : Tp_34 R) (q_35 : Tp_35 R) (q_36 : Tp_36 R) (q_37 : Tp_37 R) (q_38 : Tp_38 R) (q_39 : Tp_39 R) (q_16 : Tp_16 R) (x : aden ap_6 × hden hp_6) (k : KF R) : fnrun TT (EG_6 q_28 q_14 q_29 q_30 q_13 q_31 q_17 q_33 q_32 q_34 q_35 q_36 q_37 q_38 q_39 q_16) (drawAny TT WW) (LG_6) true Try.f6 (instA ap_6 x.1) (instH hp_6 x.2) k = Q_6 q_28 q_14 q_29 q_30 q_13 q_31 q_17 q_33 q_32 q_34 q_35 q_36 q_37 q_38 q_39 q_16 x (fun y => k (Pat.inst (.bool) y.1) (instH [] y.2)) := by kernel_rfl
theorem run_6 {R : Type} (N : Nat) (x : aden ap_6 × hden hp_6) (k : KF R) : fnrun TT (E_6 (R := R) N) (drawAny TT WW) (L_6 N) true Try.f6 (instA ap_6 x.1) (instH hp_6 x.2) k = p_6 N x (fun y => k (Pat.inst (.bool) y.1) (instH [] y.2)) := (grun_6 (p_28 N) (p_14 N) (p_29 N) (p_30 N) (p_13 N) (p_31 N) (p_17 N) (p_33 N) (p_32 N) (p_34 N) (p_35 N) (p_36 N) (p_37 N) (p_38 N) (p_39 N) (p_16 N) x k).trans (by kernel_rfl)
theorem good_6 {R : Type} (N : Nat) : GD (X := R) Try.prog QQ AA 6 ap_6 hp_6 (fun (x : aden ap_6 × hden hp_6) k => p_6 N x (fun y => k (Pat.inst (.bool) y.1) (instH [] y.2))) :=
  gd_loud (E := E_6 N) (p := fun (x : aden ap_6 × hden hp_6) k => p_6 N x (fun y => k (Pat.inst (.bool) y.1) (instH [] y.2))) mixed tyok (eok_6 N) Try.func6 (by kernel_rfl) (by kernel_rfl) (by kernel_rfl) (by kernel_rfl) (lok_6 N) (fun x k => run_6 N x k)

end Go.Proofs.Ytfcloeflcpcheaa.Eng
