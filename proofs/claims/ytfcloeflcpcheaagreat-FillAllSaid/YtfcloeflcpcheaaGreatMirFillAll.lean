/-
Plain functions that the functions of the program are shown to come to, printed by a program of the prover; each with its proof.
Conditions: none.
-/
import Derived.Test.YtfcloeflcpcheaaGreatMirFillAllB
import Derived.KernelRfl
set_option linter.unusedVariables false
namespace Go.Proofs.YtfcloeflcpcheaaGreat.Eng
variable {R : Type}
def ap_41 : List Pat := [.node (.fcons (.int .i64) (.fcons (.int .i64) (.fcons (.int .i64) (.fcons (.int .i64) (.fcons (.int .i64) (.fcons (.int .i64) (.fcons (.int .i64) (.fcons (.int .i64) (.fnil))))))))), .node (.fcons (.int .i64) (.fcons (.int .i64) (.fnil)))]
def hp_41 : List (Option (Pat × Nat)) := []
abbrev Tp_41 (R : Type) : Type := (Y0 × (Int × (Int × Unit)) × Unit) × (Unit) → (((Int × (Int × Unit)) × (Bool × Unit)) → Option R) → Option R
def Q_41 (x : (Y0 × (Int × (Int × Unit)) × Unit) × (Unit)) (κ0 : ((Int × (Int × Unit)) × (Bool × Unit)) → Option R) : Option R :=
let g := x.1.1.2.1
let a := x.1.2.1.1
let b := x.1.2.1.2.1
let d : Int := addA .i64 b 1
bif (decide (d < 4)) then (
let e : Int := addA .i64 b 1
κ0 (((a, (e, ())), (true, ())))) else (
let f : Int := subA .i64 g 1
bif (decide (a < f)) then (
let c : Int := addA .i64 a 1
κ0 (((c, (0, ())), (true, ())))) else (
κ0 (((0, (0, ())), (false, ())))))
def p_41 (N : Nat) (x : (Y0 × (Int × (Int × Unit)) × Unit) × (Unit)) (κ0 : ((Int × (Int × Unit)) × (Bool × Unit)) → Option R) : Option R := Q_41 x κ0
def EG_41 : Env R := Env.base QQ LN AA
def LG_41 : Loops R := Loops.none
def E_41 (N : Nat) : Env R := EG_41
def L_41 (N : Nat) : Loops R := LG_41
theorem grun_41 (x : aden ap_41 × hden hp_41) (k : KF R) : fnrun TT (EG_41) (drawAny TT WW) (LG_41) true Tryz.f41 (instA ap_41 x.1) (instH hp_41 x.2) k = Q_41 x (fun y => k (Pat.inst (.tup (.fcons Z7 (.fcons (.bool) (.fnil)))) y) (instH hp_41 x.2)) := by kernel_rfl
theorem good_41 (N : Nat) : GD (X := R) Tryz.prog QQ AA 41 ap_41 hp_41 (fun (x : aden ap_41 × hden hp_41) k => p_41 N x (fun y => k (Pat.inst (.tup (.fcons Z7 (.fcons (.bool) (.fnil)))) y) (instH hp_41 x.2))) :=
  gd_quiet (E := E_41 N) (p := fun (x : aden ap_41 × hden hp_41) κ => p_41 N x (fun y => κ (Pat.inst (.tup (.fcons Z7 (.fcons (.bool) (.fnil)))) y))) mixed tyok (ek_base _ _ _) Tryz.func41 (by kernel_rfl) (by kernel_rfl) (loops_nil (L := L_41 N) (by kernel_rfl)) (fun x k => (grun_41 x k).trans (by kernel_rfl))

def lv_11_v1_7 : Live := [(0, none), (3, none), (24, none), (25, none)]
def pt_11_v1_7 : SPat := ⟨[(0, .ptr 0 []), (3, .ptr 4 []), (24, .int .i64), (25, .int .i64)], [some (Z4, 34), some (Z2, 120), some (Z1, 118), some (.lst (.arr 128 (.int .u64)), 88), some (Z7, 50)]⟩
def px_11_v1_7_0 : SPat := ⟨[(2, .int .i64)], J0⟩
def px_11_v1_7_1 : SPat := ⟨[(0, .ptr 0 []), (3, .ptr 4 [])], [some (Z4, 34), some (Z2, 120), some (Z1, 118), some (.lst (.arr 128 (.int .u64)), 88), some (Z7, 50)]⟩
def lo_11_v1_7 : Exit → Live
  | .ret => [(2, none)]
  | .exit 2 => [(0, none), (3, none)]
  | _ => []
def lv_11_v1_4 : Live := [(0, none), (3, none), (4, none)]
def pt_11_v1_4 : SPat := ⟨[(0, .ptr 0 []), (3, .ptr 4 []), (4, .bool)], [some (Z4, 34), some (Z2, 120), some (Z1, 118), some (.lst (.arr 128 (.int .u64)), 88), some (Z7, 50)]⟩
def px_11_v1_4_0 : SPat := ⟨[(2, .int .i64)], J0⟩
def px_11_v1_4_1 : SPat := ⟨[], J0⟩
def lo_11_v1_4 : Exit → Live
  | .ret => [(2, none)]
  | .exit 0 => []
  | _ => []
def ap_11_v1 : List Pat := [.ptr 0 []]
def hp_11_v1 : List (Option (Pat × Nat)) := J0
abbrev Tl_11_v1_7 (R : Type) : Type := (Y11 × Y15) → (((Int × Unit) × Y1) → Option R) → (((Unit × Unit × Unit) × Y15) → Option R) → Option R
abbrev Tl_11_v1_4 (R : Type) : Type := ((Unit × Unit × Bool × Unit) × Y15) → (((Int × Unit) × Y1) → Option R) → (((Unit) × Y1) → Option R) → Option R
abbrev Tp_11_v1 (R : Type) : Type := (Unit × Unit) × Y1 → ((Int × Y1) → Option R) → Option R
def C_11_v1_7 (q_42 : Tp_42 R) (rec : (Y11 × Y15) → Option R) (x : (Y11 × Y15)) (κ0 : ((Int × Unit) × Y1) → Option R) (κ1 : ((Unit × Unit × Unit) × Y15) → Option R) : Option R :=
let c := x.1.2.2.1
let b := x.1.2.2.2.1
let f := x.2.2.2.2.1
bif (decide (b < c)) then (
q_42 (((), x.2.2.2.2.2.1, b, ()), (x.2.1, x.2.2.1, x.2.2.2.1, f, ())) (fun a =>
let e := a.1
let d := a.2.2.2.2.1
bif (e != 0) then (
κ0 ((e, ()), (a.2.1, a.2.2.1, a.2.2.2.1, d, ()))) else (
let g : Int := addA .i64 b 1
rec (((), (), c, g, ()), (a.2.1, a.2.2.1, a.2.2.2.1, d, x.2.2.2.2.2.1, ()))))) else (
κ1 (((), (), ()), (x.2.1, x.2.2.1, x.2.2.2.1, f, x.2.2.2.2.2.1, ())))
def C_11_v1_4 (q_41 : Tp_41 R) (m_11_v1_7 : Tl_11_v1_7 R) (rec : ((Unit × Unit × Bool × Unit) × Y15) → Option R) (x : ((Unit × Unit × Bool × Unit) × Y15)) (κ0 : ((Int × Unit) × Y1) → Option R) (κ1 : ((Unit) × Y1) → Option R) : Option R :=
let g := x.1.2.2.1
let e := x.2.1.2.1.2.2.1
let d := x.2.2.2.2.1
bif g then (
m_11_v1_7 (((), (), e, 0, ()), (x.2.1, x.2.2.1, x.2.2.2.1, d, x.2.2.2.2.2.1, ())) (fun b =>
let h := b.2.2.2.2.1
κ0 (b.1, (b.2.1, b.2.2.1, b.2.2.2.1, h, ()))) (fun a =>
let i := a.2.2.2.2.1
q_41 ((a.2.1.2.1, a.2.2.2.2.2.1, ()), ()) (fun c =>
let f := c.2.1
rec (((), (), f, ()), (a.2.1, a.2.2.1, a.2.2.2.1, i, c.1, ()))))) else (
κ1 ((), (x.2.1, x.2.2.1, x.2.2.2.1, d, ())))
def B_11_v1_7 (N : Nat) (rec : (Y11 × Y15) → Option R) (x : (Y11 × Y15)) (κ0 : ((Int × Unit) × Y1) → Option R) (κ1 : ((Unit × Unit × Unit) × Y15) → Option R) : Option R := C_11_v1_7 (p_42 N) rec x κ0 κ1
def l_11_v1_7 (N : Nat) : Nat → (Y11 × Y15) → (((Int × Unit) × Y1) → Option R) → (((Unit × Unit × Unit) × Y15) → Option R) → Option R
  | 0, _, _, _ => none
  | n + 1, x, κ0, κ1 => B_11_v1_7 N (fun y => l_11_v1_7 N n y κ0 κ1) x κ0 κ1
def B_11_v1_4 (N : Nat) (rec : ((Unit × Unit × Bool × Unit) × Y15) → Option R) (x : ((Unit × Unit × Bool × Unit) × Y15)) (κ0 : ((Int × Unit) × Y1) → Option R) (κ1 : ((Unit) × Y1) → Option R) : Option R := C_11_v1_4 (p_41 N) (l_11_v1_7 N N) rec x κ0 κ1
def l_11_v1_4 (N : Nat) : Nat → ((Unit × Unit × Bool × Unit) × Y15) → (((Int × Unit) × Y1) → Option R) → (((Unit) × Y1) → Option R) → Option R
  | 0, _, _, _ => none
  | n + 1, x, κ0, κ1 => B_11_v1_4 N (fun y => l_11_v1_4 N n y κ0 κ1) x κ0 κ1
def Q_11_v1 (q_42 : Tp_42 R) (q_41 : Tp_41 R) (m_11_v1_7 : Tl_11_v1_7 R) (m_11_v1_4 : Tl_11_v1_4 R) (x : (Unit × Unit) × Y1) (κ0 : (Int × Y1) → Option R) : Option R :=
let d := x.2.2.2.2.1
m_11_v1_4 (((), (), true, ()), (x.2.1, x.2.2.1, x.2.2.2.1, d, (0, (0, ())), ())) (fun a =>
let c := a.1.1
let e := a.2.2.2.2.1
κ0 (c, (a.2.1, a.2.2.1, a.2.2.2.1, e, ()))) (fun b =>
let f := b.2.2.2.2.1
κ0 (0, (b.2.1, b.2.2.1, b.2.2.2.1, f, ())))
def p_11_v1 (N : Nat) (x : (Unit × Unit) × Y1) (κ0 : (Int × Y1) → Option R) : Option R := Q_11_v1 (p_42 N) (p_41 N) (l_11_v1_7 N N) (l_11_v1_4 N N) x κ0
def EG_11_v1 (q_42 : Tp_42 R) (q_41 : Tp_41 R) : Env R := ((Env.base QQ LN AA).add 42 ap_42 hp_42 (fun (x : aden ap_42 × hden hp_42) k => q_42 x (fun y => k (Pat.inst (.int .i64) y.1) (instH J0 y.2)))).add 41 ap_41 hp_41 (fun (x : aden ap_41 × hden hp_41) k => q_41 x (fun y => k (Pat.inst (.tup (.fcons Z7 (.fcons (.bool) (.fnil)))) y) (instH hp_41 x.2)))
def LG_11_v1 (m_11_v1_7 : Tl_11_v1_7 R) (m_11_v1_4 : Tl_11_v1_4 R) : Loops R := ((Loops.none).add 7 (loopBy 4 lv_11_v1_7 pt_11_v1_7 (fun x k => m_11_v1_7 x (fun y => k .ret (px_11_v1_7_0.inst y)) (fun y => k (.exit 2) (px_11_v1_7_1.inst y))))).add 4 (loopBy 4 lv_11_v1_4 pt_11_v1_4 (fun x k => m_11_v1_4 x (fun y => k .ret (px_11_v1_4_0.inst y)) (fun y => k (.exit 0) (px_11_v1_4_1.inst y))))
def E_11_v1 (N : Nat) : Env R := EG_11_v1 (p_42 N) (p_41 N)
def L_11_v1 (N : Nat) : Loops R := LG_11_v1 (l_11_v1_7 N N) (l_11_v1_4 N N)
theorem gstep_11_v1_7 (q_42 : Tp_42 R) (q_41 : Tp_41 R) (m_11_v1_7 : Tl_11_v1_7 R) (m_11_v1_4 : Tl_11_v1_4 R) (n : Nat) (x : pt_11_v1_7.den) (k : Exit → St → Option R) : iter 4 lv_11_v1_7 lo_11_v1_7 (aexec TT (EG_11_v1 q_42 q_41) (drawAny TT WW) (LG_11_v1 m_11_v1_7 m_11_v1_4) (loopAt 7 (bodyOf Tryz.f11))) (n + 1) (pt_11_v1_7.inst x) k = C_11_v1_7 q_42 (fun y => iter 4 lv_11_v1_7 lo_11_v1_7 (aexec TT (EG_11_v1 q_42 q_41) (drawAny TT WW) (LG_11_v1 m_11_v1_7 m_11_v1_4) (loopAt 7 (bodyOf Tryz.f11))) n (pt_11_v1_7.inst y) k) x (fun y => k .ret (px_11_v1_7_0.inst y)) (fun y => k (.exit 2) (px_11_v1_7_1.inst y)) := by kernel_rfl
theorem rounds_11_v1_7 (N : Nat) : Rounds 4 TT (E_11_v1 (R := R) N) (drawAny TT WW) (L_11_v1 N) 7 (loopAt 7 (bodyOf Tryz.f11)) :=
  rounds_of (p := pt_11_v1_7) (l := fun (x : pt_11_v1_7.den) k => l_11_v1_7 N N x (fun y => k .ret (px_11_v1_7_0.inst y)) (fun y => k (.exit 2) (px_11_v1_7_1.inst y))) (fun s k => rfl) (fun x k => (iter_eq (K := Exit → St → Option R) (ks := fun k => k) (l := fun n (x : pt_11_v1_7.den) k => l_11_v1_7 N n x (fun y => k .ret (px_11_v1_7_0.inst y)) (fun y => k (.exit 2) (px_11_v1_7_1.inst y))) (B := fun (rec : pt_11_v1_7.den → Option R) (x : pt_11_v1_7.den) k => B_11_v1_7 N rec x (fun y => k .ret (px_11_v1_7_0.inst y)) (fun y => k (.exit 2) (px_11_v1_7_1.inst y))) (fun _ _ => rfl) (fun _ _ _ => rfl) (fun n x k => (gstep_11_v1_7 (p_42 N) (p_41 N) (l_11_v1_7 N N) (l_11_v1_4 N N) n x k).trans (by kernel_rfl))) N x k)
theorem gstep_11_v1_4 (q_42 : Tp_42 R) (q_41 : Tp_41 R) (m_11_v1_7 : Tl_11_v1_7 R) (m_11_v1_4 : Tl_11_v1_4 R) (n : Nat) (x : pt_11_v1_4.den) (k : Exit → St → Option R) : iter 4 lv_11_v1_4 lo_11_v1_4 (aexec TT (EG_11_v1 q_42 q_41) (drawAny TT WW) (LG_11_v1 m_11_v1_7 m_11_v1_4) (loopAt 4 (bodyOf Tryz.f11))) (n + 1) (pt_11_v1_4.inst x) k = C_11_v1_4 q_41 m_11_v1_7 (fun y => iter 4 lv_11_v1_4 lo_11_v1_4 (aexec TT (EG_11_v1 q_42 q_41) (drawAny TT WW) (LG_11_v1 m_11_v1_7 m_11_v1_4) (loopAt 4 (bodyOf Tryz.f11))) n (pt_11_v1_4.inst y) k) x (fun y => k .ret (px_11_v1_4_0.inst y)) (fun y => k (.exit 0) (px_11_v1_4_1.inst y)) := by kernel_rfl
theorem rounds_11_v1_4 (N : Nat) : Rounds 4 TT (E_11_v1 (R := R) N) (drawAny TT WW) (L_11_v1 N) 4 (loopAt 4 (bodyOf Tryz.f11)) :=
  rounds_of (p := pt_11_v1_4) (l := fun (x : pt_11_v1_4.den) k => l_11_v1_4 N N x (fun y => k .ret (px_11_v1_4_0.inst y)) (fun y => k (.exit 0) (px_11_v1_4_1.inst y))) (fun s k => rfl) (fun x k => (iter_eq (K := Exit → St → Option R) (ks := fun k => k) (l := fun n (x : pt_11_v1_4.den) k => l_11_v1_4 N n x (fun y => k .ret (px_11_v1_4_0.inst y)) (fun y => k (.exit 0) (px_11_v1_4_1.inst y))) (B := fun (rec : pt_11_v1_4.den → Option R) (x : pt_11_v1_4.den) k => B_11_v1_4 N rec x (fun y => k .ret (px_11_v1_4_0.inst y)) (fun y => k (.exit 0) (px_11_v1_4_1.inst y))) (fun _ _ => rfl) (fun _ _ _ => rfl) (fun n x k => (gstep_11_v1_4 (p_42 N) (p_41 N) (l_11_v1_7 N N) (l_11_v1_4 N N) n x k).trans (by kernel_rfl))) N x k)
theorem loops_11_v1 : loopsIn (bodyOf Tryz.f11) = [(4, loopAt 4 (bodyOf Tryz.f11)), (7, loopAt 7 (bodyOf Tryz.f11))] := by kernel_rfl
theorem grun_11_v1 (q_42 : Tp_42 R) (q_41 : Tp_41 R) (m_11_v1_7 : Tl_11_v1_7 R) (m_11_v1_4 : Tl_11_v1_4 R) (x : aden ap_11_v1 × hden hp_11_v1) (k : KF R) : fnrun TT (EG_11_v1 q_42 q_41) (drawAny TT WW) (LG_11_v1 m_11_v1_7 m_11_v1_4) true Tryz.f11 (instA ap_11_v1 x.1) (instH hp_11_v1 x.2) k = Q_11_v1 q_42 q_41 m_11_v1_7 m_11_v1_4 x (fun y => k (Pat.inst (.int .i64) y.1) (instH J0 y.2)) := by kernel_rfl
theorem good_11_v1 (N : Nat) : GD (X := R) Tryz.prog QQ AA 11 ap_11_v1 hp_11_v1 (fun (x : aden ap_11_v1 × hden hp_11_v1) k => p_11_v1 N x (fun y => k (Pat.inst (.int .i64) y.1) (instH J0 y.2))) :=
  gd_loud (E := E_11_v1 N) mixed tyok (ek_add (ek_add (ek_base _ _ _) (good_42 N)) (good_41 N)) Tryz.func11 (by kernel_rfl) (by kernel_rfl) (by kernel_rfl) (by kernel_rfl) (loops_all (L := L_11_v1 N) loops_11_v1 (by
  simp only [List.forall_mem_cons, List.not_mem_nil, false_implies, implies_true, and_true]
  exact ⟨rounds_11_v1_4 N, rounds_11_v1_7 N⟩)) (fun x k => (grun_11_v1 (p_42 N) (p_41 N) (l_11_v1_7 N N) (l_11_v1_4 N N) x k).trans (by kernel_rfl))

def lv_13_6 : Live := [(0, none), (3, none), (4, none), (12, none), (13, none), (20, none), (21, none)]
def pt_13_6 : SPat := ⟨[(0, .ptr 0 []), (3, .sl 4), (4, .int .i64), (12, .int .i64), (13, .int .i64), (20, .int .i64), (21, .int .i64)], J4⟩
def px_13_6_0 : SPat := ⟨[(0, .ptr 0 []), (3, .sl 4), (12, .int .i64), (13, .int .i64)], J4⟩
def lo_13_6 : Exit → Live
  | .exit 2 => [(0, none), (3, none), (12, none), (13, none)]
  | _ => []
def lv_13_3 : Live := [(0, none), (3, none), (12, none), (13, none)]
def pt_13_3 : SPat := ⟨[(0, .ptr 0 []), (3, .sl 4), (12, .int .i64), (13, .int .i64)], J4⟩
def px_13_3_0 : SPat := ⟨[(3, .sl 4)], J4⟩
def lo_13_3 : Exit → Live
  | .exit 0 => [(3, none)]
  | _ => []
def ap_13 : List Pat := [.ptr 0 []]
def hp_13 : List (Option (Pat × Nat)) := J0
abbrev Tl_13_6 (R : Type) : Type := ((Unit × Unit × Int × Int × Int × Int × Int × Unit) × Y13) → ((Y11 × Y13) → Option R) → Option R
abbrev Tl_13_3 (R : Type) : Type := (Y11 × Y13) → (((Unit × Unit) × Y13) → Option R) → Option R
abbrev Tp_13 (R : Type) : Type := (Unit × Unit) × Y1 → ((Unit × Y13) → Option R) → Option R
def C_13_6 (q_43 : Tp_43 R) (rec : ((Unit × Unit × Int × Int × Int × Int × Int × Unit) × Y13) → Option R) (x : ((Unit × Unit × Int × Int × Int × Int × Int × Unit) × Y13)) (κ0 : (Y11 × Y13) → Option R) : Option R :=
let a := x.1.2.2.1
let f := x.1.2.2.2.1
let e := x.1.2.2.2.2.1
let g := x.1.2.2.2.2.2.1
let b := x.1.2.2.2.2.2.2.1
let d := x.2.2.2.2.1
let c := x.2.2.2.2.2.1
bif (decide (b < g)) then (
bif decide (0 ≤ a) then (
bif decide (a < ((List.length c) : Int)) then (
q_43 (((), (a, (b, ())), ()), (x.2.1, x.2.2.1, x.2.2.2.1, d, ())) (fun h =>
let l := h.1
bif decide (0 ≤ b) then (
bif decide (b < ((List.length ((List.getD c ((Int.toNat a)) []))) : Int)) then (
let j : Y3 := (List.set c ((Int.toNat a)) ((List.set ((List.getD c ((Int.toNat a)) [])) ((Int.toNat b)) l)))
let i : Int := addA .i64 b 1
rec (((), (), a, f, e, g, i, ()), (x.2.1, x.2.2.1, x.2.2.2.1, d, j, ()))) else none) else none)) else none) else none) else (
κ0 (((), (), f, e, ()), (x.2.1, x.2.2.1, x.2.2.2.1, d, c, ())))
def C_13_3 (m_13_6 : Tl_13_6 R) (rec : (Y11 × Y13) → Option R) (x : (Y11 × Y13)) (κ0 : ((Unit × Unit) × Y13) → Option R) : Option R :=
let e := x.1.2.2.1
let b := x.1.2.2.2.1
let d := x.2.2.2.2.1
let c := x.2.2.2.2.2.1
bif (decide (b < e)) then (
bif decide (0 ≤ b) then (
bif decide (b < ((List.length c) : Int)) then (
let l : Int := (((List.length ((List.getD c ((Int.toNat b)) []))) : Nat) : Int)
m_13_6 (((), (), b, e, b, l, 0, ()), (x.2.1, x.2.2.1, x.2.2.2.1, d, c, ())) (fun a =>
let f := a.1.2.2.1
let j := a.1.2.2.2.1
let i := a.2.2.2.2.1
let g := a.2.2.2.2.2.1
let h : Int := addA .i64 j 1
rec (((), (), f, h, ()), (a.2.1, a.2.2.1, a.2.2.2.1, i, g, ())))) else none) else none) else (
κ0 (((), ()), (x.2.1, x.2.2.1, x.2.2.2.1, d, c, ())))
def B_13_6 (N : Nat) (rec : ((Unit × Unit × Int × Int × Int × Int × Int × Unit) × Y13) → Option R) (x : ((Unit × Unit × Int × Int × Int × Int × Int × Unit) × Y13)) (κ0 : (Y11 × Y13) → Option R) : Option R := C_13_6 (p_43 N) rec x κ0
def l_13_6 (N : Nat) : Nat → ((Unit × Unit × Int × Int × Int × Int × Int × Unit) × Y13) → ((Y11 × Y13) → Option R) → Option R
  | 0, _, _ => none
  | n + 1, x, κ0 => B_13_6 N (fun y => l_13_6 N n y κ0) x κ0
def B_13_3 (N : Nat) (rec : (Y11 × Y13) → Option R) (x : (Y11 × Y13)) (κ0 : ((Unit × Unit) × Y13) → Option R) : Option R := C_13_3 (l_13_6 N N) rec x κ0
def l_13_3 (N : Nat) : Nat → (Y11 × Y13) → (((Unit × Unit) × Y13) → Option R) → Option R
  | 0, _, _ => none
  | n + 1, x, κ0 => B_13_3 N (fun y => l_13_3 N n y κ0) x κ0
def Q_13 (q_37 : Tp_37 R) (q_43 : Tp_43 R) (m_13_6 : Tl_13_6 R) (m_13_3 : Tl_13_3 R) (x : (Unit × Unit) × Y1) (κ0 : (Unit × Y13) → Option R) : Option R :=
let c := x.2.2.2.2.1
q_37 (x.2.1.2, ()) (fun g =>
let b := g.2.1
let f : Int := (((List.length b) : Nat) : Int)
m_13_3 (((), (), f, 0, ()), (x.2.1, x.2.2.1, x.2.2.2.1, c, b, ())) (fun a =>
let e := a.2.2.2.2.1
let d := a.2.2.2.2.2.1
κ0 ((), (a.2.1, a.2.2.1, a.2.2.2.1, e, d, ()))))
def p_13 (N : Nat) (x : (Unit × Unit) × Y1) (κ0 : (Unit × Y13) → Option R) : Option R := Q_13 (p_37 N) (p_43 N) (l_13_6 N N) (l_13_3 N N) x κ0
def EG_13 (q_37 : Tp_37 R) (q_43 : Tp_43 R) : Env R := ((Env.base QQ LN AA).add 37 ap_37 hp_37 (fun (x : aden ap_37 × hden hp_37) k => q_37 x (fun y => k (Pat.inst (.sl 0) y.1) (instH J6 y.2)))).add 43 ap_43 hp_43 (fun (x : aden ap_43 × hden hp_43) k => q_43 x (fun y => k (Pat.inst (.tup (.fcons (.vec (.int .u64) 128) (.fcons (.int .i64) (.fnil)))) y) (instH hp_43 x.2)))
def LG_13 (m_13_6 : Tl_13_6 R) (m_13_3 : Tl_13_3 R) : Loops R := ((Loops.none).add 6 (loopBy 4 lv_13_6 pt_13_6 (fun x k => m_13_6 x (fun y => k (.exit 2) (px_13_6_0.inst y))))).add 3 (loopBy 4 lv_13_3 pt_13_3 (fun x k => m_13_3 x (fun y => k (.exit 0) (px_13_3_0.inst y))))
def E_13 (N : Nat) : Env R := EG_13 (p_37 N) (p_43 N)
def L_13 (N : Nat) : Loops R := LG_13 (l_13_6 N N) (l_13_3 N N)
theorem gstep_13_6 (q_37 : Tp_37 R) (q_43 : Tp_43 R) (m_13_6 : Tl_13_6 R) (m_13_3 : Tl_13_3 R) (n : Nat) (x : pt_13_6.den) (k : Exit → St → Option R) : iter 4 lv_13_6 lo_13_6 (aexec TT (EG_13 q_37 q_43) (drawAny TT WW) (LG_13 m_13_6 m_13_3) (loopAt 6 (bodyOf Tryz.f13))) (n + 1) (pt_13_6.inst x) k = C_13_6 q_43 (fun y => iter 4 lv_13_6 lo_13_6 (aexec TT (EG_13 q_37 q_43) (drawAny TT WW) (LG_13 m_13_6 m_13_3) (loopAt 6 (bodyOf Tryz.f13))) n (pt_13_6.inst y) k) x (fun y => k (.exit 2) (px_13_6_0.inst y)) := by kernel_rfl
theorem rounds_13_6 (N : Nat) : Rounds 4 TT (E_13 (R := R) N) (drawAny TT WW) (L_13 N) 6 (loopAt 6 (bodyOf Tryz.f13)) :=
  rounds_of (p := pt_13_6) (l := fun (x : pt_13_6.den) k => l_13_6 N N x (fun y => k (.exit 2) (px_13_6_0.inst y))) (fun s k => rfl) (fun x k => (iter_eq (K := Exit → St → Option R) (ks := fun k => k) (l := fun n (x : pt_13_6.den) k => l_13_6 N n x (fun y => k (.exit 2) (px_13_6_0.inst y))) (B := fun (rec : pt_13_6.den → Option R) (x : pt_13_6.den) k => B_13_6 N rec x (fun y => k (.exit 2) (px_13_6_0.inst y))) (fun _ _ => rfl) (fun _ _ _ => rfl) (fun n x k => (gstep_13_6 (p_37 N) (p_43 N) (l_13_6 N N) (l_13_3 N N) n x k).trans (by kernel_rfl))) N x k)
theorem gstep_13_3 (q_37 : Tp_37 R) (q_43 : Tp_43 R) (m_13_6 : Tl_13_6 R) (m_13_3 : Tl_13_3 R) (n : Nat) (x : pt_13_3.den) (k : Exit → St → Option R) : iter 4 lv_13_3 lo_13_3 (aexec TT (EG_13 q_37 q_43) (drawAny TT WW) (LG_13 m_13_6 m_13_3) (loopAt 3 (bodyOf Tryz.f13))) (n + 1) (pt_13_3.inst x) k = C_13_3 m_13_6 (fun y => iter 4 lv_13_3 lo_13_3 (aexec TT (EG_13 q_37 q_43) (drawAny TT WW) (LG_13 m_13_6 m_13_3) (loopAt 3 (bodyOf Tryz.f13))) n (pt_13_3.inst y) k) x (fun y => k (.exit 0) (px_13_3_0.inst y)) := by kernel_rfl
theorem rounds_13_3 (N : Nat) : Rounds 4 TT (E_13 (R := R) N) (drawAny TT WW) (L_13 N) 3 (loopAt 3 (bodyOf Tryz.f13)) :=
  rounds_of (p := pt_13_3) (l := fun (x : pt_13_3.den) k => l_13_3 N N x (fun y => k (.exit 0) (px_13_3_0.inst y))) (fun s k => rfl) (fun x k => (iter_eq (K := Exit → St → Option R) (ks := fun k => k) (l := fun n (x : pt_13_3.den) k => l_13_3 N n x (fun y => k (.exit 0) (px_13_3_0.inst y))) (B := fun (rec : pt_13_3.den → Option R) (x : pt_13_3.den) k => B_13_3 N rec x (fun y => k (.exit 0) (px_13_3_0.inst y))) (fun _ _ => rfl) (fun _ _ _ => rfl) (fun n x k => (gstep_13_3 (p_37 N) (p_43 N) (l_13_6 N N) (l_13_3 N N) n x k).trans (by kernel_rfl))) N x k)
theorem loops_13 : loopsIn (bodyOf Tryz.f13) = [(3, loopAt 3 (bodyOf Tryz.f13)), (6, loopAt 6 (bodyOf Tryz.f13))] := by kernel_rfl
theorem grun_13 (q_37 : Tp_37 R) (q_43 : Tp_43 R) (m_13_6 : Tl_13_6 R) (m_13_3 : Tl_13_3 R) (x : aden ap_13 × hden hp_13) (k : KF R) : fnrun TT (EG_13 q_37 q_43) (drawAny TT WW) (LG_13 m_13_6 m_13_3) true Tryz.f13 (instA ap_13 x.1) (instH hp_13 x.2) k = Q_13 q_37 q_43 m_13_6 m_13_3 x (fun y => k (Pat.inst (.sl 4) y.1) (instH J4 y.2)) := by kernel_rfl
theorem good_13 (N : Nat) : GD (X := R) Tryz.prog QQ AA 13 ap_13 hp_13 (fun (x : aden ap_13 × hden hp_13) k => p_13 N x (fun y => k (Pat.inst (.sl 4) y.1) (instH J4 y.2))) :=
  gd_loud (E := E_13 N) mixed tyok (ek_add (ek_add (ek_base _ _ _) (good_37 N)) (good_43 N)) Tryz.func13 (by kernel_rfl) (by kernel_rfl) (by kernel_rfl) (by kernel_rfl) (loops_all (L := L_13 N) loops_13 (by
  simp only [List.forall_mem_cons, List.not_mem_nil, false_implies, implies_true, and_true]
  exact ⟨rounds_13_3 N, rounds_13_6 N⟩)) (fun x k => (grun_13 (p_37 N) (p_43 N) (l_13_6 N N) (l_13_3 N N) x k).trans (by kernel_rfl))

def lv_12_9 : Live := [(0, none), (1, none), (5, none), (6, none)]
def pt_12_9 : SPat := ⟨[(0, .sl 0), (1, .sl 1), (5, .int .i64), (6, .int .i64)], J3⟩
def px_12_9_0 : SPat := ⟨[(4, .bool)], J3⟩
def px_12_9_1 : SPat := ⟨[(0, .sl 0), (1, .sl 1), (5, .int .i64)], J3⟩
def lo_12_9 : Exit → Live
  | .ret => [(4, none)]
  | .exit 2 => [(0, none), (1, none), (5, none)]
  | _ => []
def lv_12_4 : Live := [(0, none), (1, none), (5, none)]
def pt_12_4 : SPat := ⟨[(0, .sl 0), (1, .sl 1), (5, .int .i64)], J3⟩
def px_12_4_0 : SPat := ⟨[(4, .bool)], J3⟩
def px_12_4_1 : SPat := ⟨[], J3⟩
def lo_12_4 : Exit → Live
  | .ret => [(4, none)]
  | .exit 0 => []
  | _ => []
def ap_12 : List Pat := [.sl 0, .sl 1]
def hp_12 : List (Option (Pat × Nat)) := J3
abbrev Tl_12_9 (R : Type) : Type := (Y11 × (Y3 × Y3 × Unit)) → (((Bool × Unit) × (Y3 × Y3 × Unit)) → Option R) → ((Y18 × (Y3 × Y3 × Unit)) → Option R) → Option R
abbrev Tl_12_4 (R : Type) : Type := (Y18 × (Y3 × Y3 × Unit)) → (((Bool × Unit) × (Y3 × Y3 × Unit)) → Option R) → (((Unit) × (Y3 × Y3 × Unit)) → Option R) → Option R
abbrev Tp_12 (R : Type) : Type := (Unit × Unit × Unit) × (Y3 × Y3 × Unit) → ((Bool × (Y3 × Y3 × Unit)) → Option R) → Option R
def C_12_9 (rec : (Y11 × (Y3 × Y3 × Unit)) → Option R) (x : (Y11 × (Y3 × Y3 × Unit))) (κ0 : ((Bool × Unit) × (Y3 × Y3 × Unit)) → Option R) (κ1 : (Y18 × (Y3 × Y3 × Unit)) → Option R) : Option R :=
let a := x.1.2.2.1
let c := x.1.2.2.2.1
let b := x.2.1
let d := x.2.2.1
bif decide (0 ≤ a) then (
bif decide (a < ((List.length b) : Int)) then (
let g : Int := (((List.length ((List.getD b ((Int.toNat a)) []))) : Nat) : Int)
bif (decide (c < g)) then (
bif decide (0 ≤ a) then (
bif decide (a < ((List.length b) : Int)) then (
bif decide (0 ≤ c) then (
bif decide (c < ((List.length ((List.getD b ((Int.toNat a)) []))) : Int)) then (
let h : (Nat → Int) := (List.getD ((List.getD b ((Int.toNat a)) [])) ((Int.toNat c)) (Sch.zero (.arr 128 (.int .u64))))
bif decide (0 ≤ a) then (
bif decide (a < ((List.length d) : Int)) then (
bif decide (0 ≤ c) then (
bif decide (c < ((List.length ((List.getD d ((Int.toNat a)) []))) : Int)) then (
let f : (Nat → Int) := (List.getD ((List.getD d ((Int.toNat a)) [])) ((Int.toNat c)) (Sch.zero (.arr 128 (.int .u64))))
bif (!(schEq (.arr 128 (.int .u64)) h f)) then (
κ0 ((false, ()), (b, d, ()))) else (
let e : Int := addA .i64 c 1
rec (((), (), a, e, ()), (b, d, ())))) else none) else none) else none) else none) else none) else none) else none) else none) else (
κ1 (((), (), a, ()), (b, d, ())))) else none) else none
def C_12_4 (m_12_9 : Tl_12_9 R) (rec : (Y18 × (Y3 × Y3 × Unit)) → Option R) (x : (Y18 × (Y3 × Y3 × Unit))) (κ0 : ((Bool × Unit) × (Y3 × Y3 × Unit)) → Option R) (κ1 : ((Unit) × (Y3 × Y3 × Unit)) → Option R) : Option R :=
let a := x.1.2.2.1
let b := x.2.1
let c := x.2.2.1
let o : Int := (((List.length b) : Nat) : Int)
bif (decide (a < o)) then (
bif decide (0 ≤ a) then (
bif decide (a < ((List.length b) : Int)) then (
let j : Int := (((List.length ((List.getD b ((Int.toNat a)) []))) : Nat) : Int)
bif decide (0 ≤ a) then (
bif decide (a < ((List.length c) : Int)) then (
let i : Int := (((List.length ((List.getD c ((Int.toNat a)) []))) : Nat) : Int)
bif (j != i) then (
κ0 ((false, ()), (b, c, ()))) else (
m_12_9 (((), (), a, 0, ()), (b, c, ())) (fun d =>
let l := d.2.1
let m := d.2.2.1
κ0 (d.1, (l, m, ()))) (fun e =>
let f := e.1.2.2.1
let g := e.2.1
let n := e.2.2.1
let h : Int := addA .i64 f 1
rec (((), (), h, ()), (g, n, ()))))) else none) else none) else none) else none) else (
κ1 ((), (b, c, ())))
def B_12_9 (N : Nat) (rec : (Y11 × (Y3 × Y3 × Unit)) → Option R) (x : (Y11 × (Y3 × Y3 × Unit))) (κ0 : ((Bool × Unit) × (Y3 × Y3 × Unit)) → Option R) (κ1 : (Y18 × (Y3 × Y3 × Unit)) → Option R) : Option R := C_12_9 rec x κ0 κ1
def l_12_9 (N : Nat) : Nat → (Y11 × (Y3 × Y3 × Unit)) → (((Bool × Unit) × (Y3 × Y3 × Unit)) → Option R) → ((Y18 × (Y3 × Y3 × Unit)) → Option R) → Option R
  | 0, _, _, _ => none
  | n + 1, x, κ0, κ1 => B_12_9 N (fun y => l_12_9 N n y κ0 κ1) x κ0 κ1
def B_12_4 (N : Nat) (rec : (Y18 × (Y3 × Y3 × Unit)) → Option R) (x : (Y18 × (Y3 × Y3 × Unit))) (κ0 : ((Bool × Unit) × (Y3 × Y3 × Unit)) → Option R) (κ1 : ((Unit) × (Y3 × Y3 × Unit)) → Option R) : Option R := C_12_4 (l_12_9 N N) rec x κ0 κ1
def l_12_4 (N : Nat) : Nat → (Y18 × (Y3 × Y3 × Unit)) → (((Bool × Unit) × (Y3 × Y3 × Unit)) → Option R) → (((Unit) × (Y3 × Y3 × Unit)) → Option R) → Option R
  | 0, _, _, _ => none
  | n + 1, x, κ0, κ1 => B_12_4 N (fun y => l_12_4 N n y κ0 κ1) x κ0 κ1
def Q_12 (m_12_9 : Tl_12_9 R) (m_12_4 : Tl_12_4 R) (x : (Unit × Unit × Unit) × (Y3 × Y3 × Unit)) (κ0 : (Bool × (Y3 × Y3 × Unit)) → Option R) : Option R :=
let c := x.2.1
let a := x.2.2.1
let e : Int := (((List.length c) : Nat) : Int)
let i : Int := (((List.length a) : Nat) : Int)
bif (e != i) then (
κ0 (false, (c, a, ()))) else (
m_12_4 (((), (), 0, ()), (c, a, ())) (fun b =>
let l := b.1.1
let g := b.2.1
let h := b.2.2.1
κ0 (l, (g, h, ()))) (fun d =>
let j := d.2.1
let f := d.2.2.1
κ0 (true, (j, f, ()))))
def p_12 (N : Nat) (x : (Unit × Unit × Unit) × (Y3 × Y3 × Unit)) (κ0 : (Bool × (Y3 × Y3 × Unit)) → Option R) : Option R := Q_12 (l_12_9 N N) (l_12_4 N N) x κ0
def EG_12 : Env R := Env.base QQ LN AA
def LG_12 (m_12_9 : Tl_12_9 R) (m_12_4 : Tl_12_4 R) : Loops R := ((Loops.none).add 9 (loopBy 2 lv_12_9 pt_12_9 (fun x k => m_12_9 x (fun y => k .ret (px_12_9_0.inst y)) (fun y => k (.exit 2) (px_12_9_1.inst y))))).add 4 (loopBy 2 lv_12_4 pt_12_4 (fun x k => m_12_4 x (fun y => k .ret (px_12_4_0.inst y)) (fun y => k (.exit 0) (px_12_4_1.inst y))))
def E_12 (N : Nat) : Env R := EG_12
def L_12 (N : Nat) : Loops R := LG_12 (l_12_9 N N) (l_12_4 N N)
theorem gstep_12_9 (m_12_9 : Tl_12_9 R) (m_12_4 : Tl_12_4 R) (n : Nat) (x : pt_12_9.den) (k : Exit → St → Option R) : iter 2 lv_12_9 lo_12_9 (aexec TT (EG_12) (drawAny TT WW) (LG_12 m_12_9 m_12_4) (loopAt 9 (bodyOf Tryz.f12))) (n + 1) (pt_12_9.inst x) k = C_12_9 (fun y => iter 2 lv_12_9 lo_12_9 (aexec TT (EG_12) (drawAny TT WW) (LG_12 m_12_9 m_12_4) (loopAt 9 (bodyOf Tryz.f12))) n (pt_12_9.inst y) k) x (fun y => k .ret (px_12_9_0.inst y)) (fun y => k (.exit 2) (px_12_9_1.inst y)) := by kernel_rfl
theorem rounds_12_9 (N : Nat) : Rounds 2 TT (E_12 (R := R) N) (drawAny TT WW) (L_12 N) 9 (loopAt 9 (bodyOf Tryz.f12)) :=
  rounds_of (p := pt_12_9) (l := fun (x : pt_12_9.den) k => l_12_9 N N x (fun y => k .ret (px_12_9_0.inst y)) (fun y => k (.exit 2) (px_12_9_1.inst y))) (fun s k => rfl) (fun x k => (iter_eq (K := Exit → St → Option R) (ks := fun k => k) (l := fun n (x : pt_12_9.den) k => l_12_9 N n x (fun y => k .ret (px_12_9_0.inst y)) (fun y => k (.exit 2) (px_12_9_1.inst y))) (B := fun (rec : pt_12_9.den → Option R) (x : pt_12_9.den) k => B_12_9 N rec x (fun y => k .ret (px_12_9_0.inst y)) (fun y => k (.exit 2) (px_12_9_1.inst y))) (fun _ _ => rfl) (fun _ _ _ => rfl) (fun n x k => (gstep_12_9 (l_12_9 N N) (l_12_4 N N) n x k).trans (by kernel_rfl))) N x k)
theorem gstep_12_4 (m_12_9 : Tl_12_9 R) (m_12_4 : Tl_12_4 R) (n : Nat) (x : pt_12_4.den) (k : Exit → St → Option R) : iter 2 lv_12_4 lo_12_4 (aexec TT (EG_12) (drawAny TT WW) (LG_12 m_12_9 m_12_4) (loopAt 4 (bodyOf Tryz.f12))) (n + 1) (pt_12_4.inst x) k = C_12_4 m_12_9 (fun y => iter 2 lv_12_4 lo_12_4 (aexec TT (EG_12) (drawAny TT WW) (LG_12 m_12_9 m_12_4) (loopAt 4 (bodyOf Tryz.f12))) n (pt_12_4.inst y) k) x (fun y => k .ret (px_12_4_0.inst y)) (fun y => k (.exit 0) (px_12_4_1.inst y)) := by kernel_rfl
theorem rounds_12_4 (N : Nat) : Rounds 2 TT (E_12 (R := R) N) (drawAny TT WW) (L_12 N) 4 (loopAt 4 (bodyOf Tryz.f12)) :=
  rounds_of (p := pt_12_4) (l := fun (x : pt_12_4.den) k => l_12_4 N N x (fun y => k .ret (px_12_4_0.inst y)) (fun y => k (.exit 0) (px_12_4_1.inst y))) (fun s k => rfl) (fun x k => (iter_eq (K := Exit → St → Option R) (ks := fun k => k) (l := fun n (x : pt_12_4.den) k => l_12_4 N n x (fun y => k .ret (px_12_4_0.inst y)) (fun y => k (.exit 0) (px_12_4_1.inst y))) (B := fun (rec : pt_12_4.den → Option R) (x : pt_12_4.den) k => B_12_4 N rec x (fun y => k .ret (px_12_4_0.inst y)) (fun y => k (.exit 0) (px_12_4_1.inst y))) (fun _ _ => rfl) (fun _ _ _ => rfl) (fun n x k => (gstep_12_4 (l_12_9 N N) (l_12_4 N N) n x k).trans (by kernel_rfl))) N x k)
theorem loops_12 : loopsIn (bodyOf Tryz.f12) = [(4, loopAt 4 (bodyOf Tryz.f12)), (9, loopAt 9 (bodyOf Tryz.f12))] := by kernel_rfl
theorem grun_12 (m_12_9 : Tl_12_9 R) (m_12_4 : Tl_12_4 R) (x : aden ap_12 × hden hp_12) (k : KF R) : fnrun TT (EG_12) (drawAny TT WW) (LG_12 m_12_9 m_12_4) true Tryz.f12 (instA ap_12 x.1) (instH hp_12 x.2) k = Q_12 m_12_9 m_12_4 x (fun y => k (Pat.inst (.bool) y.1) (instH J3 y.2)) := by kernel_rfl
theorem good_12 (N : Nat) : GD (X := R) Tryz.prog QQ AA 12 ap_12 hp_12 (fun (x : aden ap_12 × hden hp_12) k => p_12 N x (fun y => k (Pat.inst (.bool) y.1) (instH J3 y.2))) :=
  gd_loud (E := E_12 N) mixed tyok (ek_base _ _ _) Tryz.func12 (by kernel_rfl) (by kernel_rfl) (by kernel_rfl) (by kernel_rfl) (loops_all (L := L_12 N) loops_12 (by
  simp only [List.forall_mem_cons, List.not_mem_nil, false_implies, implies_true, and_true]
  exact ⟨rounds_12_4 N, rounds_12_9 N⟩)) (fun x k => (grun_12 (l_12_9 N N) (l_12_4 N N) x k).trans (by kernel_rfl))

def ap_3 : List Pat := [.node (.fcons (.int .i64) (.fcons (.int .i64) (.fcons (.int .i64) (.fcons (.int .i64) (.fcons (.int .i64) (.fnil)))))), .str]
def hp_3 : List (Option (Pat × Nat)) := []
abbrev Tp_3 (R : Type) : Type := ((Int × Y4) × ByteArray × Unit) × (Unit) → ((Bool × (Unit)) → Option R) → Option R
def Q_3 (q_5 : Tp_5 R) (q_6 : Tp_6 R) (q_7 : Tp_7 R) (q_10 : Tp_10 R) (q_9 : Tp_9 R) (q_8 : Tp_8 R) (q_11_v1 : Tp_11_v1 R) (q_13 : Tp_13 R) (q_12 : Tp_12 R) (x : ((Int × Y4) × ByteArray × Unit) × (Unit)) (κ0 : (Bool × (Unit)) → Option R) : Option R :=
let d := x.1.2.1
q_5 ((), ()) (fun f =>
let r : Bool := f
bif (!r) then (
κ0 (false, ())) else (
q_6 ((x.1.1, ()), ()) (fun w =>
κ0 (true, ())) (fun c =>
let t := c.2.2.2.2.1
let l : Int := ((ByteArray.size d : Nat) : Int)
bif (decide (l > 200)) then (
κ0 (true, ())) else (
q_7 (((), d, ()), (c.2.1, c.2.2.1, c.2.2.2.1, t, ())) (fun a =>
let j := a.2.2.2.2.1
q_10 ((), ()) (fun p =>
let i := p
q_9 ((i, a.2.1.2.1, d, ()), ()) (fun n =>
q_8 ((a.2.1.2.1, (), ()), n.2) (fun s =>
let u := s.2.1
q_11_v1 (((), ()), (a.2.1, a.2.2.1, a.2.2.2.1, j, ())) (fun b =>
let v := b.1
let e := b.2.2.2.2.1
bif (v == 0) then (
q_13 (((), ()), (b.2.1, b.2.2.1, b.2.2.2.1, e, ())) (fun g =>
let o := g.2.2.2.2.2.1
q_12 (((), (), ()), (o, u, ())) (fun m =>
let h := m.1
κ0 (h, ())))) else (
κ0 (false, ())))))))))))
def p_3 (N : Nat) (x : ((Int × Y4) × ByteArray × Unit) × (Unit)) (κ0 : (Bool × (Unit)) → Option R) : Option R := Q_3 (p_5 N) (p_6 N) (p_7 N) (p_10 N) (p_9 N) (p_8 N) (p_11_v1 N) (p_13 N) (p_12 N) x κ0
def EG_3 (q_5 : Tp_5 R) (q_6 : Tp_6 R) (q_7 : Tp_7 R) (q_10 : Tp_10 R) (q_9 : Tp_9 R) (q_8 : Tp_8 R) (q_11_v1 : Tp_11_v1 R) (q_13 : Tp_13 R) (q_12 : Tp_12 R) : Env R := (((((((((Env.base QQ LN AA).add 5 ap_5 hp_5 (fun (x : aden ap_5 × hden hp_5) k => q_5 x (fun y => k (Pat.inst (.bool) y) (instH hp_5 x.2)))).add 6 ap_6 hp_6 (fun (x : aden ap_6 × hden hp_6) k => q_6 x (fun y => k (Pat.inst (.nilp) y.1) (instH [] y.2)) (fun y => k (Pat.inst (.ptr 0 []) y.1) (instH J0 y.2)))).add 7 ap_7 hp_7 (fun (x : aden ap_7 × hden hp_7) k => q_7 x (fun y => k (Pat.inst (.int .i64) y.1) (instH J0 y.2)))).add 10 ap_10 hp_10 (fun (x : aden ap_10 × hden hp_10) k => q_10 x (fun y => k (Pat.inst (.vec (.int .u64) 8) y) (instH hp_10 x.2)))).add 9 ap_9 hp_9 (fun (x : aden ap_9 × hden hp_9) k => q_9 x (fun y => k (Pat.inst (.sl 0) y.1) (instH J6 y.2)))).add 8 ap_8 hp_8 (fun (x : aden ap_8 × hden hp_8) k => q_8 x (fun y => k (Pat.inst (.sl 0) y.1) (instH J6 y.2)))).add 11 ap_11_v1 hp_11_v1 (fun (x : aden ap_11_v1 × hden hp_11_v1) k => q_11_v1 x (fun y => k (Pat.inst (.int .i64) y.1) (instH J0 y.2)))).add 13 ap_13 hp_13 (fun (x : aden ap_13 × hden hp_13) k => q_13 x (fun y => k (Pat.inst (.sl 4) y.1) (instH J4 y.2)))).add 12 ap_12 hp_12 (fun (x : aden ap_12 × hden hp_12) k => q_12 x (fun y => k (Pat.inst (.bool) y.1) (instH J3 y.2)))
def LG_3 : Loops R := Loops.none
def E_3 (N : Nat) : Env R := EG_3 (p_5 N) (p_6 N) (p_7 N) (p_10 N) (p_9 N) (p_8 N) (p_11_v1 N) (p_13 N) (p_12 N)
def L_3 (N : Nat) : Loops R := LG_3
theorem grun_3 (q_5 : Tp_5 R) (q_6 : Tp_6 R) (q_7 : Tp_7 R) (q_10 : Tp_10 R) (q_9 : Tp_9 R) (q_8 : Tp_8 R) (q_11_v1 : Tp_11_v1 R) (q_13 : Tp_13 R) (q_12 : Tp_12 R) (x : aden ap_3 × hden hp_3) (k : KF R) : fnrun TT (EG_3 q_5 q_6 q_7 q_10 q_9 q_8 q_11_v1 q_13 q_12) (drawAny TT WW) (LG_3) true Tryz.f3 (instA ap_3 x.1) (instH hp_3 x.2) k = Q_3 q_5 q_6 q_7 q_10 q_9 q_8 q_11_v1 q_13 q_12 x (fun y => k (Pat.inst (.bool) y.1) (instH [] y.2)) := by kernel_rfl
theorem good_3 (N : Nat) : GD (X := R) Tryz.prog QQ AA 3 ap_3 hp_3 (fun (x : aden ap_3 × hden hp_3) k => p_3 N x (fun y => k (Pat.inst (.bool) y.1) (instH [] y.2))) :=
  gd_loud (E := E_3 N) mixed tyok (ek_add (ek_add (ek_add (ek_add (ek_add (ek_add (ek_add (ek_add (ek_add (ek_base _ _ _) (good_5 N)) (good_6 N)) (good_7 N)) (good_10 N)) (good_9 N)) (good_8 N)) (good_11_v1 N)) (good_13 N)) (good_12 N)) Tryz.func3 (by kernel_rfl) (by kernel_rfl) (by kernel_rfl) (by kernel_rfl) (loops_nil (L := L_3 N) (by kernel_rfl)) (fun x k => (grun_3 (p_5 N) (p_6 N) (p_7 N) (p_10 N) (p_9 N) (p_8 N) (p_11_v1 N) (p_13 N) (p_12 N) x k).trans (by kernel_rfl))

end Go.Proofs.YtfcloeflcpcheaaGreat.Eng
