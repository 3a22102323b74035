/-
Plain functions that the functions of the program are shown to come to, printed by a program of the prover; each with its proof.
Conditions: none.
-/
import Derived.Test.YtjehpceomlnicaaProg
import Derived.Test.YtjehpceomlnicaaEngY
import Derived.KernelRfl
set_option linter.unusedVariables false
namespace Go.Proofs.Ytjehpceomlnicaa.Eng
def TT : Types := [(3, ⟨.int .i64, 1, 8, .int .i64 0, some (.int .i64), false⟩),
  (9, ⟨.str, 1, 16, .str ⟨#[]⟩, some (.str), false⟩),
  (4, ⟨.bool, 1, 1, .bool false, some (.bool), false⟩),
  (38, ⟨.int .i64, 1, 8, .int .i64 0, some (.int .i64), false⟩),
  (5, ⟨.int .u8, 1, 1, .int .u8 0, some (.int .u8), false⟩),
  (131, ⟨.slice 5, 1, 24, .nils, some (.sl (.int .u8)), false⟩),
  (159, ⟨.ptr 184, 1, 8, .nilp, none, false⟩),
  (144, ⟨.map 3 4, 1, 8, .nilm, none, false⟩),
  (184, ⟨.stru [(182, 0), (144, 1)], 2, 32, .node (.fcons (.nils) (.fcons (.nilm) (.fnil))), none, false⟩),
  (182, ⟨.slice 163, 1, 24, .nils, some (.sl (.stru (.fcons (.int .i64) (.fcons (.str) (.fnil))))), false⟩),
  (163, ⟨.stru [(3, 0), (9, 1)], 2, 24, .node (.fcons (.int .i64 0) (.fcons (.str ⟨#[]⟩) (.fnil))), some (.stru (.fcons (.int .i64) (.fcons (.str) (.fnil)))), true⟩)]
theorem tyok : TyOk Try.prog TT := TyOk.of (by kernel_rfl)
theorem mixed : Try.prog.follows .mixedOrders = true := by kernel_rfl
def QQ : FuncId → Bool := fun f => memN [65, 66, 67, 68, 87, 101, 102, 103, 117, 118] f
def LN : FuncId → Bool := fun f => memN [] f
def ap_87 : List Pat := [.int .i64, .int .i64, .int .i64]
def hp_87 : List (Option (Pat × Nat)) := []
def p_87 {R : Type} (N : Nat) (x : (Int × Int × Int × Unit) × (Unit)) (κ0 : Bool → Option R) : Option R :=
let i6 : Int := x.1.1
let i7 : Int := x.1.2.1
let i8 : Int := x.1.2.2.1
bif (decide (i6 ≥ i7)) then (
κ0 ((decide (i6 ≤ i8)))) else (
κ0 false)

abbrev Tp_87 (R : Type) : Type := (Int × Int × Int × Unit) × (Unit) → (Bool → Option R) → Option R
def Q_87 {R : Type} (x : (Int × Int × Int × Unit) × (Unit)) (κ0 : Bool → Option R) : Option R :=
let i6 : Int := x.1.1
let i7 : Int := x.1.2.1
let i8 : Int := x.1.2.2.1
bif (decide (i6 ≥ i7)) then (
κ0 ((decide (i6 ≤ i8)))) else (
κ0 false)
def EG_87 {R : Type} : Env R := Env.base QQ LN
def LG_87 {R : Type} : Loops R := Loops.none
def E_87 {R : Type} (N : Nat) : Env R := EG_87
theorem eok_87 {R : Type} (N : Nat) : EK Try.prog (E_87 (R := R) N) := ek_base _ _
def L_87 {R : Type} (N : Nat) : Loops R := LG_87
theorem lok_87 {R : Type} (N : Nat) : LOK 0 TT (E_87 (R := R) N) (drawOk TT QQ) (L_87 N) (bodyOf Try.f87) := loops_nil (by kernel_rfl)
theorem grun_87 {R : Type} (x : aden ap_87 × hden hp_87) (k : KF R) : fnrun TT (EG_87) (drawOk TT QQ) (LG_87) true Try.f87 (instA ap_87 x.1) (instH hp_87 x.2) k = Q_87 x (fun y => k (Pat.inst (.bool) y) (instH hp_87 x.2)) := by kernel_rfl
theorem run_87 {R : Type} (N : Nat) (x : aden ap_87 × hden hp_87) (k : KF R) : fnrun TT (E_87 (R := R) N) (drawOk TT QQ) (L_87 N) true Try.f87 (instA ap_87 x.1) (instH hp_87 x.2) k = p_87 N x (fun y => k (Pat.inst (.bool) y) (instH hp_87 x.2)) := (grun_87 x k).trans (by kernel_rfl)
theorem good_87 {R : Type} (N : Nat) : GD (X := R) Try.prog QQ 87 ap_87 hp_87 (fun (x : aden ap_87 × hden hp_87) k => p_87 N x (fun y => k (Pat.inst (.bool) y) (instH hp_87 x.2))) :=
  gd_quiet (E := E_87 N) (p := fun (x : aden ap_87 × hden hp_87) κ => p_87 N x (fun y => κ (Pat.inst (.bool) y))) mixed tyok (eok_87 N) Try.func87 (by kernel_rfl) (by kernel_rfl) (lok_87 N) (fun x k => run_87 N x k)

def lv_101_5 : Live := [(0, none), (3, some (.int .u8, 5)), (4, none)]
def pt_101_5 : SPat := ⟨[(0, .int .i64), (3, .sl 0), (4, .bool)], [some (.lst (.int .u8), 5)]⟩
def px_101_5_0 : SPat := ⟨[(3, .sl 0)], [some (.lst (.int .u8), 5)]⟩
def lo_101_5 : Exit → Live
  | .exit 0 => [(3, none)]
  | _ => []
def B_101_5 {R : Type} (N : Nat) (rec : ((Int × Unit × Bool × Unit) × ((List Int) × Unit)) → Option R) (x : ((Int × Unit × Bool × Unit) × ((List Int) × Unit))) (κ0 : ((Unit × Unit) × ((List Int) × Unit)) → Option R) : Option R :=
let i19 : Int := x.1.1
let b20 : Bool := x.1.2.2.1
let l21 : (List Int) := x.2.1
bif b20 then (
let i22 : Int := remA .i64 i19 10
let i23 : Int := addA .i64 48 i22
let i24 : Int := IntKind.wrap .u8 i23
let l25 : (List Int) := [i24]
bif (decide ((List.length l21 + List.length l25) * 1 ≤ 140737488355328) && true) then (
let l26 : (List Int) := (l21 ++ l25)
let i27 : Int := quoA .i64 i19 10
rec ((i27, (), (decide (i27 > 0)), ()), (l26, ()))) else none) else (
κ0 (((), ()), (l21, ())))
def l_101_5 {R : Type} (N : Nat) : Nat → ((Int × Unit × Bool × Unit) × ((List Int) × Unit)) → (((Unit × Unit) × ((List Int) × Unit)) → Option R) → Option R
  | 0, _, _ => none
  | n + 1, x, κ0 => B_101_5 N (fun y => l_101_5 N n y κ0) x κ0
def lv_101_10 : Live := [(3, none), (5, none), (6, none)]
def pt_101_10 : SPat := ⟨[(3, .sl 0), (5, .int .i64), (6, .int .i64)], [some (.lst (.int .u8), 5)]⟩
def px_101_10_0 : SPat := ⟨[(3, .sl 0)], [some (.lst (.int .u8), 5)]⟩
def lo_101_10 : Exit → Live
  | .exit 2 => [(3, none)]
  | _ => []
def B_101_10 {R : Type} (N : Nat) (rec : ((Unit × Int × Int × Unit) × ((List Int) × Unit)) → Option R) (x : ((Unit × Int × Int × Unit) × ((List Int) × Unit))) (κ0 : ((Unit × Unit) × ((List Int) × Unit)) → Option R) : Option R :=
let i32 : Int := x.1.2.1
let i33 : Int := x.1.2.2.1
let l34 : (List Int) := x.2.1
bif (decide (i32 < i33)) then (
bif decide (0 ≤ i33) then (
bif decide (i33 < ((List.length l34) : Int)) then (
let i35 : Int := (List.getD l34 ((Int.toNat i33)) (Sch.zero (.int .u8)))
bif decide (0 ≤ i32) then (
bif decide (i32 < ((List.length l34) : Int)) then (
let i36 : Int := (List.getD l34 ((Int.toNat i32)) (Sch.zero (.int .u8)))
bif decide (0 ≤ i32) then (
bif decide (i32 < ((List.length l34) : Int)) then (
let l37 : (List Int) := (List.set l34 ((Int.toNat i32)) i35)
bif decide (0 ≤ i33) then (
bif decide (i33 < ((List.length l37) : Int)) then (
let l38 : (List Int) := (List.set l37 ((Int.toNat i33)) i36)
let i39 : Int := addA .i64 i32 1
let i40 : Int := subA .i64 i33 1
rec (((), i39, i40, ()), (l38, ()))) else none) else none) else none) else none) else none) else none) else none) else none) else (
κ0 (((), ()), (l34, ())))
def l_101_10 {R : Type} (N : Nat) : Nat → ((Unit × Int × Int × Unit) × ((List Int) × Unit)) → (((Unit × Unit) × ((List Int) × Unit)) → Option R) → Option R
  | 0, _, _ => none
  | n + 1, x, κ0 => B_101_10 N (fun y => l_101_10 N n y κ0) x κ0
def ap_101 : List Pat := [.int .i64]
def hp_101 : List (Option (Pat × Nat)) := []
def p_101 {R : Type} (N : Nat) (x : (Int × Unit) × (Unit)) (κ0 : ByteArray → Option R) : Option R :=
let i11 : Int := x.1.1
bif (decide (i11 < 0)) then (
κ0 (⟨#[]⟩)) else (
l_101_5 N N ((i11, (), true, ()), ([], ())) (fun y28 =>
let l29 : (List Int) := y28.2.1
let i30 : Int := (((List.length l29) : Nat) : Int)
let i31 : Int := subA .i64 i30 1
l_101_10 N N (((), 0, i31, ()), (l29, ())) (fun y41 =>
let l42 : (List Int) := y41.2.1
let s43 : ByteArray := listStr l42
κ0 s43)))

abbrev Tl_101_5 (R : Type) : Type := ((Int × Unit × Bool × Unit) × ((List Int) × Unit)) → (((Unit × Unit) × ((List Int) × Unit)) → Option R) → Option R
abbrev Tl_101_10 (R : Type) : Type := ((Unit × Int × Int × Unit) × ((List Int) × Unit)) → (((Unit × Unit) × ((List Int) × Unit)) → Option R) → Option R
abbrev Tp_101 (R : Type) : Type := (Int × Unit) × (Unit) → (ByteArray → Option R) → Option R
def Q_101 {R : Type} (m_101_5 : Tl_101_5 R) (m_101_10 : Tl_101_10 R) (x : (Int × Unit) × (Unit)) (κ0 : ByteArray → Option R) : Option R :=
let i11 : Int := x.1.1
bif (decide (i11 < 0)) then (
κ0 (⟨#[]⟩)) else (
m_101_5 ((i11, (), true, ()), ([], ())) (fun y28 =>
let l29 : (List Int) := y28.2.1
let i30 : Int := (((List.length l29) : Nat) : Int)
let i31 : Int := subA .i64 i30 1
m_101_10 (((), 0, i31, ()), (l29, ())) (fun y41 =>
let l42 : (List Int) := y41.2.1
let s43 : ByteArray := listStr l42
κ0 s43)))
def C_101_5 {R : Type} (m_101_5 : Tl_101_5 R) (m_101_10 : Tl_101_10 R) (rec : ((Int × Unit × Bool × Unit) × ((List Int) × Unit)) → Option R) (x : ((Int × Unit × Bool × Unit) × ((List Int) × Unit))) (κ0 : ((Unit × Unit) × ((List Int) × Unit)) → Option R) : Option R :=
let i19 : Int := x.1.1
let b20 : Bool := x.1.2.2.1
let l21 : (List Int) := x.2.1
bif b20 then (
let i22 : Int := remA .i64 i19 10
let i23 : Int := addA .i64 48 i22
let i24 : Int := IntKind.wrap .u8 i23
let l25 : (List Int) := [i24]
bif (decide ((List.length l21 + List.length l25) * 1 ≤ 140737488355328) && true) then (
let l26 : (List Int) := (l21 ++ l25)
let i27 : Int := quoA .i64 i19 10
rec ((i27, (), (decide (i27 > 0)), ()), (l26, ()))) else none) else (
κ0 (((), ()), (l21, ())))
def C_101_10 {R : Type} (m_101_5 : Tl_101_5 R) (m_101_10 : Tl_101_10 R) (rec : ((Unit × Int × Int × Unit) × ((List Int) × Unit)) → Option R) (x : ((Unit × Int × Int × Unit) × ((List Int) × Unit))) (κ0 : ((Unit × Unit) × ((List Int) × Unit)) → Option R) : Option R :=
let i32 : Int := x.1.2.1
let i33 : Int := x.1.2.2.1
let l34 : (List Int) := x.2.1
bif (decide (i32 < i33)) then (
bif decide (0 ≤ i33) then (
bif decide (i33 < ((List.length l34) : Int)) then (
let i35 : Int := (List.getD l34 ((Int.toNat i33)) (Sch.zero (.int .u8)))
bif decide (0 ≤ i32) then (
bif decide (i32 < ((List.length l34) : Int)) then (
let i36 : Int := (List.getD l34 ((Int.toNat i32)) (Sch.zero (.int .u8)))
bif decide (0 ≤ i32) then (
bif decide (i32 < ((List.length l34) : Int)) then (
let l37 : (List Int) := (List.set l34 ((Int.toNat i32)) i35)
bif decide (0 ≤ i33) then (
bif decide (i33 < ((List.length l37) : Int)) then (
let l38 : (List Int) := (List.set l37 ((Int.toNat i33)) i36)
let i39 : Int := addA .i64 i32 1
let i40 : Int := subA .i64 i33 1
rec (((), i39, i40, ()), (l38, ()))) else none) else none) else none) else none) else none) else none) else none) else none) else (
κ0 (((), ()), (l34, ())))
def EG_101 {R : Type} : Env R := Env.base QQ LN
def LG_101 {R : Type} (m_101_5 : Tl_101_5 R) (m_101_10 : Tl_101_10 R) : Loops R := ((Loops.none).add 5 (loopBy 0 lv_101_5 pt_101_5 (fun x k => m_101_5 x (fun y => k (.exit 0) (px_101_5_0.inst y))))).add 10 (loopBy 0 lv_101_10 pt_101_10 (fun x k => m_101_10 x (fun y => k (.exit 2) (px_101_10_0.inst y))))
def E_101 {R : Type} (N : Nat) : Env R := EG_101
theorem eok_101 {R : Type} (N : Nat) : EK Try.prog (E_101 (R := R) N) := ek_base _ _
def L_101 {R : Type} (N : Nat) : Loops R := LG_101 (l_101_5 N N) (l_101_10 N N)
theorem gstep_101_5 {R : Type} (m_101_5 : Tl_101_5 R) (m_101_10 : Tl_101_10 R) (n : Nat) (x : pt_101_5.den) (k : Exit → St → Option R) : iter 0 lv_101_5 lo_101_5 (aexec TT (EG_101) (drawOk TT QQ) (LG_101 m_101_5 m_101_10) (loopAt 5 (bodyOf Try.f101))) (n + 1) (pt_101_5.inst x) k = C_101_5 m_101_5 m_101_10 (fun y => iter 0 lv_101_5 lo_101_5 (aexec TT (EG_101) (drawOk TT QQ) (LG_101 m_101_5 m_101_10) (loopAt 5 (bodyOf Try.f101))) n (pt_101_5.inst y) k) x (fun y => k (.exit 0) (px_101_5_0.inst y)) := by kernel_rfl
theorem step_101_5 {R : Type} (N n : Nat) (x : pt_101_5.den) (k : Exit → St → Option R) : iter 0 lv_101_5 lo_101_5 (aexec TT (E_101 (R := R) N) (drawOk TT QQ) (L_101 N) (loopAt 5 (bodyOf Try.f101))) (n + 1) (pt_101_5.inst x) k = B_101_5 N (fun y => iter 0 lv_101_5 lo_101_5 (aexec TT (E_101 (R := R) N) (drawOk TT QQ) (L_101 N) (loopAt 5 (bodyOf Try.f101))) n (pt_101_5.inst y) k) x (fun y => k (.exit 0) (px_101_5_0.inst y)) := (gstep_101_5 (l_101_5 N N) (l_101_10 N N) n x k).trans (by kernel_rfl)
theorem eq_101_5 {R : Type} (N : Nat) : ∀ (n : Nat) (x : pt_101_5.den) (k : Exit → St → Option R), iter 0 lv_101_5 lo_101_5 (aexec TT (E_101 (R := R) N) (drawOk TT QQ) (L_101 N) (loopAt 5 (bodyOf Try.f101))) n (pt_101_5.inst x) k = l_101_5 N n x (fun y => k (.exit 0) (px_101_5_0.inst y)) :=
  iter_eq (K := Exit → St → Option R) (ks := fun k => k) (l := fun n (x : pt_101_5.den) k => l_101_5 N n x (fun y => k (.exit 0) (px_101_5_0.inst y))) (B := fun (rec : pt_101_5.den → Option R) (x : pt_101_5.den) k => B_101_5 N rec x (fun y => k (.exit 0) (px_101_5_0.inst y))) (fun _ _ => rfl) (fun _ _ _ => rfl) (fun n x k => step_101_5 N n x k)
theorem rounds_101_5 {R : Type} (N : Nat) : Rounds 0 TT (E_101 (R := R) N) (drawOk TT QQ) (L_101 N) 5 (loopAt 5 (bodyOf Try.f101)) :=
  rounds_of (p := pt_101_5) (l := fun (x : pt_101_5.den) k => l_101_5 N N x (fun y => k (.exit 0) (px_101_5_0.inst y))) (fun s k => rfl) (fun x k => eq_101_5 N N x k)
theorem gstep_101_10 {R : Type} (m_101_5 : Tl_101_5 R) (m_101_10 : Tl_101_10 R) (n : Nat) (x : pt_101_10.den) (k : Exit → St → Option R) : iter 0 lv_101_10 lo_101_10 (aexec TT (EG_101) (drawOk TT QQ) (LG_101 m_101_5 m_101_10) (loopAt 10 (bodyOf Try.f101))) (n + 1) (pt_101_10.inst x) k = C_101_10 m_101_5 m_101_10 (fun y => iter 0 lv_101_10 lo_101_10 (aexec TT (EG_101) (drawOk TT QQ) (LG_101 m_101_5 m_101_10) (loopAt 10 (bodyOf Try.f101))) n (pt_101_10.inst y) k) x (fun y => k (.exit 2) (px_101_10_0.inst y)) := by kernel_rfl
theorem step_101_10 {R : Type} (N n : Nat) (x : pt_101_10.den) (k : Exit → St → Option R) : iter 0 lv_101_10 lo_101_10 (aexec TT (E_101 (R := R) N) (drawOk TT QQ) (L_101 N) (loopAt 10 (bodyOf Try.f101))) (n + 1) (pt_101_10.inst x) k = B_101_10 N (fun y => iter 0 lv_101_10 lo_101_10 (aexec TT (E_101 (R := R) N) (drawOk TT QQ) (L_101 N) (loopAt 10 (bodyOf Try.f101))) n (pt_101_10.inst y) k) x (fun y => k (.exit 2) (px_101_10_0.inst y)) := (gstep_101_10 (l_101_5 N N) (l_101_10 N N) n x k).trans (by kernel_rfl)
theorem eq_101_10 {R : Type} (N : Nat) : ∀ (n : Nat) (x : pt_101_10.den) (k : Exit → St → Option R), iter 0 lv_101_10 lo_101_10 (aexec TT (E_101 (R := R) N) (drawOk TT QQ) (L_101 N) (loopAt 10 (bodyOf Try.f101))) n (pt_101_10.inst x) k = l_101_10 N n x (fun y => k (.exit 2) (px_101_10_0.inst y)) :=
  iter_eq (K := Exit → St → Option R) (ks := fun k => k) (l := fun n (x : pt_101_10.den) k => l_101_10 N n x (fun y => k (.exit 2) (px_101_10_0.inst y))) (B := fun (rec : pt_101_10.den → Option R) (x : pt_101_10.den) k => B_101_10 N rec x (fun y => k (.exit 2) (px_101_10_0.inst y))) (fun _ _ => rfl) (fun _ _ _ => rfl) (fun n x k => step_101_10 N n x k)
theorem rounds_101_10 {R : Type} (N : Nat) : Rounds 0 TT (E_101 (R := R) N) (drawOk TT QQ) (L_101 N) 10 (loopAt 10 (bodyOf Try.f101)) :=
  rounds_of (p := pt_101_10) (l := fun (x : pt_101_10.den) k => l_101_10 N N x (fun y => k (.exit 2) (px_101_10_0.inst y))) (fun s k => rfl) (fun x k => eq_101_10 N N x k)
theorem loops_101 : loopsIn (bodyOf Try.f101) = [(5, loopAt 5 (bodyOf Try.f101)), (10, loopAt 10 (bodyOf Try.f101))] := by kernel_rfl
theorem lok_101 {R : Type} (N : Nat) : LOK 0 TT (E_101 (R := R) N) (drawOk TT QQ) (L_101 N) (bodyOf Try.f101) := loops_all loops_101 (by
  simp only [List.forall_mem_cons, List.not_mem_nil, false_implies, implies_true, and_true]
  exact ⟨rounds_101_5 N, rounds_101_10 N⟩)
theorem grun_101 {R : Type} (m_101_5 : Tl_101_5 R) (m_101_10 : Tl_101_10 R) (x : aden ap_101 × hden hp_101) (k : KF R) : fnrun TT (EG_101) (drawOk TT QQ) (LG_101 m_101_5 m_101_10) true Try.f101 (instA ap_101 x.1) (instH hp_101 x.2) k = Q_101 m_101_5 m_101_10 x (fun y => k (Pat.inst (.str) y) (instH hp_101 x.2)) := by kernel_rfl
theorem run_101 {R : Type} (N : Nat) (x : aden ap_101 × hden hp_101) (k : KF R) : fnrun TT (E_101 (R := R) N) (drawOk TT QQ) (L_101 N) true Try.f101 (instA ap_101 x.1) (instH hp_101 x.2) k = p_101 N x (fun y => k (Pat.inst (.str) y) (instH hp_101 x.2)) := (grun_101 (l_101_5 N N) (l_101_10 N N) x k).trans (by kernel_rfl)
theorem good_101 {R : Type} (N : Nat) : GD (X := R) Try.prog QQ 101 ap_101 hp_101 (fun (x : aden ap_101 × hden hp_101) k => p_101 N x (fun y => k (Pat.inst (.str) y) (instH hp_101 x.2))) :=
  gd_quiet (E := E_101 N) (p := fun (x : aden ap_101 × hden hp_101) κ => p_101 N x (fun y => κ (Pat.inst (.str) y))) mixed tyok (eok_101 N) Try.func101 (by kernel_rfl) (by kernel_rfl) (lok_101 N) (fun x k => run_101 N x k)

def ap_66 : List Pat := [.int .i64, .str]
def hp_66 : List (Option (Pat × Nat)) := []
def p_66 {R : Type} (N : Nat) (x : (Int × ByteArray × Unit) × (Unit)) (κ0 : (ByteArray × (Int × Unit)) → Option R) : Option R :=
let i4 : Int := x.1.1
let s5 : ByteArray := x.1.2.1
p_87 N ((i4, 1, 999, ()), ()) (fun y9 =>
let b10 : Bool := y9
bif (!b10) then (
κ0 ((⟨#[]⟩, (1, ())))) else (
p_101 N ((i4, ()), ()) (fun y44 =>
let s45 : ByteArray := y44
bif decide (ByteArray.size (⟨#[107]⟩) + ByteArray.size s45 ≤ maxI64) then (
let s46 : ByteArray := (⟨#[107]⟩ ++ s45)
bif decide (ByteArray.size s46 + ByteArray.size (⟨#[58]⟩) ≤ maxI64) then (
let s47 : ByteArray := (s46 ++ ⟨#[58]⟩)
bif decide (ByteArray.size s47 + ByteArray.size s5 ≤ maxI64) then (
let s48 : ByteArray := (s47 ++ s5)
κ0 ((s48, (0, ())))) else none) else none) else none)))

abbrev Tp_66 (R : Type) : Type := (Int × ByteArray × Unit) × (Unit) → ((ByteArray × (Int × Unit)) → Option R) → Option R
def Q_66 {R : Type} (q_87 : Tp_87 R) (q_101 : Tp_101 R) (x : (Int × ByteArray × Unit) × (Unit)) (κ0 : (ByteArray × (Int × Unit)) → Option R) : Option R :=
let i4 : Int := x.1.1
let s5 : ByteArray := x.1.2.1
q_87 ((i4, 1, 999, ()), ()) (fun y9 =>
let b10 : Bool := y9
bif (!b10) then (
κ0 ((⟨#[]⟩, (1, ())))) else (
q_101 ((i4, ()), ()) (fun y44 =>
let s45 : ByteArray := y44
bif decide (ByteArray.size (⟨#[107]⟩) + ByteArray.size s45 ≤ maxI64) then (
let s46 : ByteArray := (⟨#[107]⟩ ++ s45)
bif decide (ByteArray.size s46 + ByteArray.size (⟨#[58]⟩) ≤ maxI64) then (
let s47 : ByteArray := (s46 ++ ⟨#[58]⟩)
bif decide (ByteArray.size s47 + ByteArray.size s5 ≤ maxI64) then (
let s48 : ByteArray := (s47 ++ s5)
κ0 ((s48, (0, ())))) else none) else none) else none)))
def EG_66 {R : Type} (q_87 : Tp_87 R) (q_101 : Tp_101 R) : Env R := ((Env.base QQ LN).add 87 ap_87 hp_87 (fun (x : aden ap_87 × hden hp_87) k => q_87 x (fun y => k (Pat.inst (.bool) y) (instH hp_87 x.2)))).add 101 ap_101 hp_101 (fun (x : aden ap_101 × hden hp_101) k => q_101 x (fun y => k (Pat.inst (.str) y) (instH hp_101 x.2)))
def LG_66 {R : Type} : Loops R := Loops.none
def E_66 {R : Type} (N : Nat) : Env R := EG_66 (p_87 N) (p_101 N)
theorem eok_66 {R : Type} (N : Nat) : EK Try.prog (E_66 (R := R) N) := ek_add (ek_add (ek_base _ _) (good_87 N)) (good_101 N)
def L_66 {R : Type} (N : Nat) : Loops R := LG_66
theorem lok_66 {R : Type} (N : Nat) : LOK 0 TT (E_66 (R := R) N) (drawOk TT QQ) (L_66 N) (bodyOf Try.f66) := loops_nil (by kernel_rfl)
theorem grun_66 {R : Type} (q_87 : Tp_87 R) (q_101 : Tp_101 R) (x : aden ap_66 × hden hp_66) (k : KF R) : fnrun TT (EG_66 q_87 q_101) (drawOk TT QQ) (LG_66) true Try.f66 (instA ap_66 x.1) (instH hp_66 x.2) k = Q_66 q_87 q_101 x (fun y => k (Pat.inst (.tup (.fcons (.str) (.fcons (.int .i64) (.fnil)))) y) (instH hp_66 x.2)) := by kernel_rfl
theorem run_66 {R : Type} (N : Nat) (x : aden ap_66 × hden hp_66) (k : KF R) : fnrun TT (E_66 (R := R) N) (drawOk TT QQ) (L_66 N) true Try.f66 (instA ap_66 x.1) (instH hp_66 x.2) k = p_66 N x (fun y => k (Pat.inst (.tup (.fcons (.str) (.fcons (.int .i64) (.fnil)))) y) (instH hp_66 x.2)) := (grun_66 (p_87 N) (p_101 N) x k).trans (by kernel_rfl)
theorem good_66 {R : Type} (N : Nat) : GD (X := R) Try.prog QQ 66 ap_66 hp_66 (fun (x : aden ap_66 × hden hp_66) k => p_66 N x (fun y => k (Pat.inst (.tup (.fcons (.str) (.fcons (.int .i64) (.fnil)))) y) (instH hp_66 x.2))) :=
  gd_quiet (E := E_66 N) (p := fun (x : aden ap_66 × hden hp_66) κ => p_66 N x (fun y => κ (Pat.inst (.tup (.fcons (.str) (.fcons (.int .i64) (.fnil)))) y))) mixed tyok (eok_66 N) Try.func66 (by kernel_rfl) (by kernel_rfl) (lok_66 N) (fun x k => run_66 N x k)

def lv_117_5 : Live := [(0, none), (4, none), (5, none), (21, none), (22, none)]
def pt_117_5 : SPat := ⟨[(0, .str), (4, .int .i64), (5, .bool), (21, .int .i64), (22, .int .i64)], []⟩
def px_117_5_0 : SPat := ⟨[(2, .int .i64), (3, .int .i64)], []⟩
def px_117_5_1 : SPat := ⟨[(4, .int .i64), (5, .bool)], []⟩
def lo_117_5 : Exit → Live
  | .ret => [(2, none), (3, none)]
  | .exit 0 => [(4, none), (5, none)]
  | _ => []
def B_117_5 {R : Type} (N : Nat) (rec : ((ByteArray × Int × Bool × Int × Int × Unit) × (Unit)) → Option R) (x : ((ByteArray × Int × Bool × Int × Int × Unit) × (Unit))) (κ0 : ((Int × Int × Unit) × (Unit)) → Option R) (κ1 : ((Int × Bool × Unit) × (Unit)) → Option R) : Option R :=
let s91 : ByteArray := x.1.1
let i92 : Int := x.1.2.1
let b93 : Bool := x.1.2.2.1
let i94 : Int := x.1.2.2.2.1
let i95 : Int := x.1.2.2.2.2.1
bif (decide (i95 < i94)) then (
bif decide (0 ≤ i95) then (
bif decide (i95 < (ByteArray.size s91 : Int)) then (
let i96 : Int := byteAt s91 ((Int.toNat i95))
bif (decide (i96 < 48)) then (
κ0 ((0, 7, ()), ())) else (
bif decide (0 ≤ i95) then (
bif decide (i95 < (ByteArray.size s91 : Int)) then (
let i97 : Int := byteAt s91 ((Int.toNat i95))
bif (decide (i97 > 57)) then (
κ0 ((0, 7, ()), ())) else (
bif decide (0 ≤ i95) then (
bif decide (i95 < (ByteArray.size s91 : Int)) then (
let i98 : Int := byteAt s91 ((Int.toNat i95))
let i99 : Int := subA .u8 i98 48
let i100 : Int := IntKind.wrap .i64 i99
bif b93 then (
let i101 : Int := addA .i64 i95 1
rec ((s91, i92, true, i94, i101, ()), ())) else (
let i102 : Int := subA .i64 4611686018427387904 i100
let i103 : Int := quoA .i64 i102 10
bif (!(decide (i92 > i103))) then (
let i104 : Int := mulA .i64 10 i92
let i105 : Int := addA .i64 i104 i100
let i106 : Int := addA .i64 i95 1
rec ((s91, i105, (decide (i92 > i103)), i94, i106, ()), ())) else (
let i107 : Int := addA .i64 i95 1
rec ((s91, i92, (decide (i92 > i103)), i94, i107, ()), ())))) else none) else none)) else none) else none)) else none) else none) else (
κ1 ((i92, b93, ()), ()))
def l_117_5 {R : Type} (N : Nat) : Nat → ((ByteArray × Int × Bool × Int × Int × Unit) × (Unit)) → (((Int × Int × Unit) × (Unit)) → Option R) → (((Int × Bool × Unit) × (Unit)) → Option R) → Option R
  | 0, _, _, _ => none
  | n + 1, x, κ0, κ1 => B_117_5 N (fun y => l_117_5 N n y κ0 κ1) x κ0 κ1
def ap_117 : List Pat := [.str]
def hp_117 : List (Option (Pat × Nat)) := []
def p_117 {R : Type} (N : Nat) (x : (ByteArray × Unit) × (Unit)) (κ0 : (Int × (Int × Unit)) → Option R) : Option R :=
let s63 : ByteArray := x.1.1
bif (eqS s63 (⟨#[]⟩)) then (
κ0 ((0, (7, ())))) else (
let i64 : Int := ((ByteArray.size s63 : Nat) : Int)
bif (decide (i64 > 1)) then (
bif decide (0 < (ByteArray.size s63 : Int)) then (
let i65 : Int := byteAt s63 0
bif (i65 == 48) then (
κ0 ((0, (7, ())))) else (
let i66 : Int := ((ByteArray.size s63 : Nat) : Int)
l_117_5 N N ((s63, 0, false, i66, 0, ()), ()) (fun y84 =>
let i85 : Int := y84.1.1
let i86 : Int := y84.1.2.1
κ0 ((i85, (i86, ())))) (fun y87 =>
let i88 : Int := y87.1.1
let b89 : Bool := y87.1.2.1
bif b89 then (
κ0 ((0, (10, ())))) else (
κ0 ((i88, (0, ()))))))) else none) else (
let i90 : Int := ((ByteArray.size s63 : Nat) : Int)
l_117_5 N N ((s63, 0, false, i90, 0, ()), ()) (fun y108 =>
let i109 : Int := y108.1.1
let i110 : Int := y108.1.2.1
κ0 ((i109, (i110, ())))) (fun y111 =>
let i112 : Int := y111.1.1
let b113 : Bool := y111.1.2.1
bif b113 then (
κ0 ((0, (10, ())))) else (
κ0 ((i112, (0, ())))))))

abbrev Tl_117_5 (R : Type) : Type := ((ByteArray × Int × Bool × Int × Int × Unit) × (Unit)) → (((Int × Int × Unit) × (Unit)) → Option R) → (((Int × Bool × Unit) × (Unit)) → Option R) → Option R
abbrev Tp_117 (R : Type) : Type := (ByteArray × Unit) × (Unit) → ((Int × (Int × Unit)) → Option R) → Option R
def Q_117 {R : Type} (m_117_5 : Tl_117_5 R) (x : (ByteArray × Unit) × (Unit)) (κ0 : (Int × (Int × Unit)) → Option R) : Option R :=
let s63 : ByteArray := x.1.1
bif (eqS s63 (⟨#[]⟩)) then (
κ0 ((0, (7, ())))) else (
let i64 : Int := ((ByteArray.size s63 : Nat) : Int)
bif (decide (i64 > 1)) then (
bif decide (0 < (ByteArray.size s63 : Int)) then (
let i65 : Int := byteAt s63 0
bif (i65 == 48) then (
κ0 ((0, (7, ())))) else (
let i66 : Int := ((ByteArray.size s63 : Nat) : Int)
m_117_5 ((s63, 0, false, i66, 0, ()), ()) (fun y84 =>
let i85 : Int := y84.1.1
let i86 : Int := y84.1.2.1
κ0 ((i85, (i86, ())))) (fun y87 =>
let i88 : Int := y87.1.1
let b89 : Bool := y87.1.2.1
bif b89 then (
κ0 ((0, (10, ())))) else (
κ0 ((i88, (0, ()))))))) else none) else (
let i90 : Int := ((ByteArray.size s63 : Nat) : Int)
m_117_5 ((s63, 0, false, i90, 0, ()), ()) (fun y108 =>
let i109 : Int := y108.1.1
let i110 : Int := y108.1.2.1
κ0 ((i109, (i110, ())))) (fun y111 =>
let i112 : Int := y111.1.1
let b113 : Bool := y111.1.2.1
bif b113 then (
κ0 ((0, (10, ())))) else (
κ0 ((i112, (0, ())))))))
def C_117_5 {R : Type} (m_117_5 : Tl_117_5 R) (rec : ((ByteArray × Int × Bool × Int × Int × Unit) × (Unit)) → Option R) (x : ((ByteArray × Int × Bool × Int × Int × Unit) × (Unit))) (κ0 : ((Int × Int × Unit) × (Unit)) → Option R) (κ1 : ((Int × Bool × Unit) × (Unit)) → Option R) : Option R :=
let s91 : ByteArray := x.1.1
let i92 : Int := x.1.2.1
let b93 : Bool := x.1.2.2.1
let i94 : Int := x.1.2.2.2.1
let i95 : Int := x.1.2.2.2.2.1
bif (decide (i95 < i94)) then (
bif decide (0 ≤ i95) then (
bif decide (i95 < (ByteArray.size s91 : Int)) then (
let i96 : Int := byteAt s91 ((Int.toNat i95))
bif (decide (i96 < 48)) then (
κ0 ((0, 7, ()), ())) else (
bif decide (0 ≤ i95) then (
bif decide (i95 < (ByteArray.size s91 : Int)) then (
let i97 : Int := byteAt s91 ((Int.toNat i95))
bif (decide (i97 > 57)) then (
κ0 ((0, 7, ()), ())) else (
bif decide (0 ≤ i95) then (
bif decide (i95 < (ByteArray.size s91 : Int)) then (
let i98 : Int := byteAt s91 ((Int.toNat i95))
let i99 : Int := subA .u8 i98 48
let i100 : Int := IntKind.wrap .i64 i99
bif b93 then (
let i101 : Int := addA .i64 i95 1
rec ((s91, i92, true, i94, i101, ()), ())) else (
let i102 : Int := subA .i64 4611686018427387904 i100
let i103 : Int := quoA .i64 i102 10
bif (!(decide (i92 > i103))) then (
let i104 : Int := mulA .i64 10 i92
let i105 : Int := addA .i64 i104 i100
let i106 : Int := addA .i64 i95 1
rec ((s91, i105, (decide (i92 > i103)), i94, i106, ()), ())) else (
let i107 : Int := addA .i64 i95 1
rec ((s91, i92, (decide (i92 > i103)), i94, i107, ()), ())))) else none) else none)) else none) else none)) else none) else none) else (
κ1 ((i92, b93, ()), ()))
def EG_117 {R : Type} : Env R := Env.base QQ LN
def LG_117 {R : Type} (m_117_5 : Tl_117_5 R) : Loops R := (Loops.none).add 5 (loopBy 0 lv_117_5 pt_117_5 (fun x k => m_117_5 x (fun y => k .ret (px_117_5_0.inst y)) (fun y => k (.exit 0) (px_117_5_1.inst y))))
def E_117 {R : Type} (N : Nat) : Env R := EG_117
theorem eok_117 {R : Type} (N : Nat) : EK Try.prog (E_117 (R := R) N) := ek_base _ _
def L_117 {R : Type} (N : Nat) : Loops R := LG_117 (l_117_5 N N)
theorem gstep_117_5 {R : Type} (m_117_5 : Tl_117_5 R) (n : Nat) (x : pt_117_5.den) (k : Exit → St → Option R) : iter 0 lv_117_5 lo_117_5 (aexec TT (EG_117) (drawOk TT QQ) (LG_117 m_117_5) (loopAt 5 (bodyOf Try.f117))) (n + 1) (pt_117_5.inst x) k = C_117_5 m_117_5 (fun y => iter 0 lv_117_5 lo_117_5 (aexec TT (EG_117) (drawOk TT QQ) (LG_117 m_117_5) (loopAt 5 (bodyOf Try.f117))) n (pt_117_5.inst y) k) x (fun y => k .ret (px_117_5_0.inst y)) (fun y => k (.exit 0) (px_117_5_1.inst y)) := by kernel_rfl
theorem step_117_5 {R : Type} (N n : Nat) (x : pt_117_5.den) (k : Exit → St → Option R) : iter 0 lv_117_5 lo_117_5 (aexec TT (E_117 (R := R) N) (drawOk TT QQ) (L_117 N) (loopAt 5 (bodyOf Try.f117))) (n + 1) (pt_117_5.inst x) k = B_117_5 N (fun y => iter 0 lv_117_5 lo_117_5 (aexec TT (E_117 (R := R) N) (drawOk TT QQ) (L_117 N) (loopAt 5 (bodyOf Try.f117))) n (pt_117_5.inst y) k) x (fun y => k .ret (px_117_5_0.inst y)) (fun y => k (.exit 0) (px_117_5_1.inst y)) := (gstep_117_5 (l_117_5 N N) n x k).trans (by kernel_rfl)
theorem eq_117_5 {R : Type} (N : Nat) : ∀ (n : Nat) (x : pt_117_5.den) (k : Exit → St → Option R), iter 0 lv_117_5 lo_117_5 (aexec TT (E_117 (R := R) N) (drawOk TT QQ) (L_117 N) (loopAt 5 (bodyOf Try.f117))) n (pt_117_5.inst x) k = l_117_5 N n x (fun y => k .ret (px_117_5_0.inst y)) (fun y => k (.exit 0) (px_117_5_1.inst y)) :=
  iter_eq (K := Exit → St → Option R) (ks := fun k => k) (l := fun n (x : pt_117_5.den) k => l_117_5 N n x (fun y => k .ret (px_117_5_0.inst y)) (fun y => k (.exit 0) (px_117_5_1.inst y))) (B := fun (rec : pt_117_5.den → Option R) (x : pt_117_5.den) k => B_117_5 N rec x (fun y => k .ret (px_117_5_0.inst y)) (fun y => k (.exit 0) (px_117_5_1.inst y))) (fun _ _ => rfl) (fun _ _ _ => rfl) (fun n x k => step_117_5 N n x k)
theorem rounds_117_5 {R : Type} (N : Nat) : Rounds 0 TT (E_117 (R := R) N) (drawOk TT QQ) (L_117 N) 5 (loopAt 5 (bodyOf Try.f117)) :=
  rounds_of (p := pt_117_5) (l := fun (x : pt_117_5.den) k => l_117_5 N N x (fun y => k .ret (px_117_5_0.inst y)) (fun y => k (.exit 0) (px_117_5_1.inst y))) (fun s k => rfl) (fun x k => eq_117_5 N N x k)
theorem loops_117 : loopsIn (bodyOf Try.f117) = [(5, loopAt 5 (bodyOf Try.f117))] := by kernel_rfl
theorem lok_117 {R : Type} (N : Nat) : LOK 0 TT (E_117 (R := R) N) (drawOk TT QQ) (L_117 N) (bodyOf Try.f117) := loops_all loops_117 (by
  simp only [List.forall_mem_cons, List.not_mem_nil, false_implies, implies_true, and_true]
  exact rounds_117_5 N)
theorem grun_117 {R : Type} (m_117_5 : Tl_117_5 R) (x : aden ap_117 × hden hp_117) (k : KF R) : fnrun TT (EG_117) (drawOk TT QQ) (LG_117 m_117_5) true Try.f117 (instA ap_117 x.1) (instH hp_117 x.2) k = Q_117 m_117_5 x (fun y => k (Pat.inst (.tup (.fcons (.int .i64) (.fcons (.int .i64) (.fnil)))) y) (instH hp_117 x.2)) := by kernel_rfl
theorem run_117 {R : Type} (N : Nat) (x : aden ap_117 × hden hp_117) (k : KF R) : fnrun TT (E_117 (R := R) N) (drawOk TT QQ) (L_117 N) true Try.f117 (instA ap_117 x.1) (instH hp_117 x.2) k = p_117 N x (fun y => k (Pat.inst (.tup (.fcons (.int .i64) (.fcons (.int .i64) (.fnil)))) y) (instH hp_117 x.2)) := (grun_117 (l_117_5 N N) x k).trans (by kernel_rfl)
theorem good_117 {R : Type} (N : Nat) : GD (X := R) Try.prog QQ 117 ap_117 hp_117 (fun (x : aden ap_117 × hden hp_117) k => p_117 N x (fun y => k (Pat.inst (.tup (.fcons (.int .i64) (.fcons (.int .i64) (.fnil)))) y) (instH hp_117 x.2))) :=
  gd_quiet (E := E_117 N) (p := fun (x : aden ap_117 × hden hp_117) κ => p_117 N x (fun y => κ (Pat.inst (.tup (.fcons (.int .i64) (.fcons (.int .i64) (.fnil)))) y))) mixed tyok (eok_117 N) Try.func117 (by kernel_rfl) (by kernel_rfl) (lok_117 N) (fun x k => run_117 N x k)

def ap_102 : List Pat := [.str, .int .i64, .int .i64]
def hp_102 : List (Option (Pat × Nat)) := []
def p_102 {R : Type} (N : Nat) (x : (ByteArray × Int × Int × Unit) × (Unit)) (κ0 : (Int × (Int × Unit)) → Option R) : Option R :=
let s60 : ByteArray := x.1.1
let i61 : Int := x.1.2.1
let i62 : Int := x.1.2.2.1
p_117 N ((s60, ()), ()) (fun y114 =>
let i115 : Int := y114.1
let i116 : Int := y114.2.1
bif (i116 != 0) then (
κ0 ((0, (i116, ())))) else (
bif (decide (i115 < i61)) then (
κ0 ((0, (2, ())))) else (
bif (decide (i115 > i62)) then (
κ0 ((0, (2, ())))) else (
κ0 ((i115, (0, ())))))))

abbrev Tp_102 (R : Type) : Type := (ByteArray × Int × Int × Unit) × (Unit) → ((Int × (Int × Unit)) → Option R) → Option R
def Q_102 {R : Type} (q_117 : Tp_117 R) (x : (ByteArray × Int × Int × Unit) × (Unit)) (κ0 : (Int × (Int × Unit)) → Option R) : Option R :=
let s60 : ByteArray := x.1.1
let i61 : Int := x.1.2.1
let i62 : Int := x.1.2.2.1
q_117 ((s60, ()), ()) (fun y114 =>
let i115 : Int := y114.1
let i116 : Int := y114.2.1
bif (i116 != 0) then (
κ0 ((0, (i116, ())))) else (
bif (decide (i115 < i61)) then (
κ0 ((0, (2, ())))) else (
bif (decide (i115 > i62)) then (
κ0 ((0, (2, ())))) else (
κ0 ((i115, (0, ())))))))
def EG_102 {R : Type} (q_117 : Tp_117 R) : Env R := (Env.base QQ LN).add 117 ap_117 hp_117 (fun (x : aden ap_117 × hden hp_117) k => q_117 x (fun y => k (Pat.inst (.tup (.fcons (.int .i64) (.fcons (.int .i64) (.fnil)))) y) (instH hp_117 x.2)))
def LG_102 {R : Type} : Loops R := Loops.none
def E_102 {R : Type} (N : Nat) : Env R := EG_102 (p_117 N)
theorem eok_102 {R : Type} (N : Nat) : EK Try.prog (E_102 (R := R) N) := ek_add (ek_base _ _) (good_117 N)
def L_102 {R : Type} (N : Nat) : Loops R := LG_102
theorem lok_102 {R : Type} (N : Nat) : LOK 0 TT (E_102 (R := R) N) (drawOk TT QQ) (L_102 N) (bodyOf Try.f102) := loops_nil (by kernel_rfl)
theorem grun_102 {R : Type} (q_117 : Tp_117 R) (x : aden ap_102 × hden hp_102) (k : KF R) : fnrun TT (EG_102 q_117) (drawOk TT QQ) (LG_102) true Try.f102 (instA ap_102 x.1) (instH hp_102 x.2) k = Q_102 q_117 x (fun y => k (Pat.inst (.tup (.fcons (.int .i64) (.fcons (.int .i64) (.fnil)))) y) (instH hp_102 x.2)) := by kernel_rfl
theorem run_102 {R : Type} (N : Nat) (x : aden ap_102 × hden hp_102) (k : KF R) : fnrun TT (E_102 (R := R) N) (drawOk TT QQ) (L_102 N) true Try.f102 (instA ap_102 x.1) (instH hp_102 x.2) k = p_102 N x (fun y => k (Pat.inst (.tup (.fcons (.int .i64) (.fcons (.int .i64) (.fnil)))) y) (instH hp_102 x.2)) := (grun_102 (p_117 N) x k).trans (by kernel_rfl)
theorem good_102 {R : Type} (N : Nat) : GD (X := R) Try.prog QQ 102 ap_102 hp_102 (fun (x : aden ap_102 × hden hp_102) k => p_102 N x (fun y => k (Pat.inst (.tup (.fcons (.int .i64) (.fcons (.int .i64) (.fnil)))) y) (instH hp_102 x.2))) :=
  gd_quiet (E := E_102 N) (p := fun (x : aden ap_102 × hden hp_102) κ => p_102 N x (fun y => κ (Pat.inst (.tup (.fcons (.int .i64) (.fcons (.int .i64) (.fnil)))) y))) mixed tyok (eok_102 N) Try.func102 (by kernel_rfl) (by kernel_rfl) (lok_102 N) (fun x k => run_102 N x k)

def lv_67_4 : Live := [(0, none), (5, none)]
def pt_67_4 : SPat := ⟨[(0, .str), (5, .int .i64)], []⟩
def px_67_4_0 : SPat := ⟨[(2, .int .i64), (3, .str), (4, .int .i64)], []⟩
def px_67_4_1 : SPat := ⟨[], []⟩
def lo_67_4 : Exit → Live
  | .ret => [(2, none), (3, none), (4, none)]
  | .exit 0 => []
  | _ => []
def B_67_4 {R : Type} (N : Nat) (rec : ((ByteArray × Int × Unit) × (Unit)) → Option R) (x : ((ByteArray × Int × Unit) × (Unit))) (κ0 : ((Int × ByteArray × Int × Unit) × (Unit)) → Option R) (κ1 : ((Unit) × (Unit)) → Option R) : Option R :=
let s54 : ByteArray := x.1.1
let i55 : Int := x.1.2.1
let i56 : Int := ((ByteArray.size s54 : Nat) : Int)
bif (decide (i55 < i56)) then (
bif decide (0 ≤ i55) then (
bif decide (i55 < (ByteArray.size s54 : Int)) then (
let i57 : Int := byteAt s54 ((Int.toNat i55))
bif (i57 != 58) then (
let i58 : Int := addA .i64 i55 1
rec ((s54, i58, ()), ())) else (
bif decide (0 ≤ i55) then (
bif decide (i55 ≤ ((ByteArray.size s54 : Nat) : Int)) then (
bif decide (1 ≤ i55) then (
let s59 : ByteArray := ByteArray.extract s54 1 ((Int.toNat i55))
p_102 N ((s59, 1, 999, ()), ()) (fun y117 =>
let i118 : Int := y117.1
let i119 : Int := y117.2.1
bif (i119 != 0) then (
κ0 ((0, ⟨#[]⟩, i119, ()), ())) else (
let i120 : Int := addA .i64 i55 1
bif decide (0 ≤ ((ByteArray.size s54 : Nat) : Int)) then (
bif decide (((ByteArray.size s54 : Nat) : Int) ≤ ((ByteArray.size s54 : Nat) : Int)) then (
bif decide (0 ≤ i120) then (
bif decide (i120 ≤ ((ByteArray.size s54 : Nat) : Int)) then (
let s121 : ByteArray := ByteArray.extract s54 ((Int.toNat i120)) (ByteArray.size s54)
κ0 ((i118, s121, 0, ()), ())) else none) else none) else none) else none))) else none) else none) else none)) else none) else none) else (
κ1 ((), ()))
def l_67_4 {R : Type} (N : Nat) : Nat → ((ByteArray × Int × Unit) × (Unit)) → (((Int × ByteArray × Int × Unit) × (Unit)) → Option R) → (((Unit) × (Unit)) → Option R) → Option R
  | 0, _, _, _ => none
  | n + 1, x, κ0, κ1 => B_67_4 N (fun y => l_67_4 N n y κ0 κ1) x κ0 κ1
def ap_67 : List Pat := [.str]
def hp_67 : List (Option (Pat × Nat)) := []
def p_67 {R : Type} (N : Nat) (x : (ByteArray × Unit) × (Unit)) (κ0 : (Int × (ByteArray × (Int × Unit))) → Option R) : Option R :=
let s52 : ByteArray := x.1.1
bif (eqS s52 (⟨#[]⟩)) then (
κ0 ((0, (⟨#[]⟩, (5, ()))))) else (
bif decide (0 < (ByteArray.size s52 : Int)) then (
let i53 : Int := byteAt s52 0
bif (i53 != 107) then (
κ0 ((0, (⟨#[]⟩, (5, ()))))) else (
l_67_4 N N ((s52, 1, ()), ()) (fun y122 =>
let i123 : Int := y122.1.1
let s124 : ByteArray := y122.1.2.1
let i125 : Int := y122.1.2.2.1
κ0 ((i123, (s124, (i125, ()))))) (fun _ =>
κ0 ((0, (⟨#[]⟩, (5, ()))))))) else none)

abbrev Tl_67_4 (R : Type) : Type := ((ByteArray × Int × Unit) × (Unit)) → (((Int × ByteArray × Int × Unit) × (Unit)) → Option R) → (((Unit) × (Unit)) → Option R) → Option R
abbrev Tp_67 (R : Type) : Type := (ByteArray × Unit) × (Unit) → ((Int × (ByteArray × (Int × Unit))) → Option R) → Option R
def Q_67 {R : Type} (q_102 : Tp_102 R) (m_67_4 : Tl_67_4 R) (x : (ByteArray × Unit) × (Unit)) (κ0 : (Int × (ByteArray × (Int × Unit))) → Option R) : Option R :=
let s52 : ByteArray := x.1.1
bif (eqS s52 (⟨#[]⟩)) then (
κ0 ((0, (⟨#[]⟩, (5, ()))))) else (
bif decide (0 < (ByteArray.size s52 : Int)) then (
let i53 : Int := byteAt s52 0
bif (i53 != 107) then (
κ0 ((0, (⟨#[]⟩, (5, ()))))) else (
m_67_4 ((s52, 1, ()), ()) (fun y122 =>
let i123 : Int := y122.1.1
let s124 : ByteArray := y122.1.2.1
let i125 : Int := y122.1.2.2.1
κ0 ((i123, (s124, (i125, ()))))) (fun _ =>
κ0 ((0, (⟨#[]⟩, (5, ()))))))) else none)
def C_67_4 {R : Type} (q_102 : Tp_102 R) (m_67_4 : Tl_67_4 R) (rec : ((ByteArray × Int × Unit) × (Unit)) → Option R) (x : ((ByteArray × Int × Unit) × (Unit))) (κ0 : ((Int × ByteArray × Int × Unit) × (Unit)) → Option R) (κ1 : ((Unit) × (Unit)) → Option R) : Option R :=
let s54 : ByteArray := x.1.1
let i55 : Int := x.1.2.1
let i56 : Int := ((ByteArray.size s54 : Nat) : Int)
bif (decide (i55 < i56)) then (
bif decide (0 ≤ i55) then (
bif decide (i55 < (ByteArray.size s54 : Int)) then (
let i57 : Int := byteAt s54 ((Int.toNat i55))
bif (i57 != 58) then (
let i58 : Int := addA .i64 i55 1
rec ((s54, i58, ()), ())) else (
bif decide (0 ≤ i55) then (
bif decide (i55 ≤ ((ByteArray.size s54 : Nat) : Int)) then (
bif decide (1 ≤ i55) then (
let s59 : ByteArray := ByteArray.extract s54 1 ((Int.toNat i55))
q_102 ((s59, 1, 999, ()), ()) (fun y117 =>
let i118 : Int := y117.1
let i119 : Int := y117.2.1
bif (i119 != 0) then (
κ0 ((0, ⟨#[]⟩, i119, ()), ())) else (
let i120 : Int := addA .i64 i55 1
bif decide (0 ≤ ((ByteArray.size s54 : Nat) : Int)) then (
bif decide (((ByteArray.size s54 : Nat) : Int) ≤ ((ByteArray.size s54 : Nat) : Int)) then (
bif decide (0 ≤ i120) then (
bif decide (i120 ≤ ((ByteArray.size s54 : Nat) : Int)) then (
let s121 : ByteArray := ByteArray.extract s54 ((Int.toNat i120)) (ByteArray.size s54)
κ0 ((i118, s121, 0, ()), ())) else none) else none) else none) else none))) else none) else none) else none)) else none) else none) else (
κ1 ((), ()))
def EG_67 {R : Type} (q_102 : Tp_102 R) : Env R := (Env.base QQ LN).add 102 ap_102 hp_102 (fun (x : aden ap_102 × hden hp_102) k => q_102 x (fun y => k (Pat.inst (.tup (.fcons (.int .i64) (.fcons (.int .i64) (.fnil)))) y) (instH hp_102 x.2)))
def LG_67 {R : Type} (m_67_4 : Tl_67_4 R) : Loops R := (Loops.none).add 4 (loopBy 0 lv_67_4 pt_67_4 (fun x k => m_67_4 x (fun y => k .ret (px_67_4_0.inst y)) (fun y => k (.exit 0) (px_67_4_1.inst y))))
def E_67 {R : Type} (N : Nat) : Env R := EG_67 (p_102 N)
theorem eok_67 {R : Type} (N : Nat) : EK Try.prog (E_67 (R := R) N) := ek_add (ek_base _ _) (good_102 N)
def L_67 {R : Type} (N : Nat) : Loops R := LG_67 (l_67_4 N N)
theorem gstep_67_4 {R : Type} (q_102 : Tp_102 R) (m_67_4 : Tl_67_4 R) (n : Nat) (x : pt_67_4.den) (k : Exit → St → Option R) : iter 0 lv_67_4 lo_67_4 (aexec TT (EG_67 q_102) (drawOk TT QQ) (LG_67 m_67_4) (loopAt 4 (bodyOf Try.f67))) (n + 1) (pt_67_4.inst x) k = C_67_4 q_102 m_67_4 (fun y => iter 0 lv_67_4 lo_67_4 (aexec TT (EG_67 q_102) (drawOk TT QQ) (LG_67 m_67_4) (loopAt 4 (bodyOf Try.f67))) n (pt_67_4.inst y) k) x (fun y => k .ret (px_67_4_0.inst y)) (fun y => k (.exit 0) (px_67_4_1.inst y)) := by kernel_rfl
theorem step_67_4 {R : Type} (N n : Nat) (x : pt_67_4.den) (k : Exit → St → Option R) : iter 0 lv_67_4 lo_67_4 (aexec TT (E_67 (R := R) N) (drawOk TT QQ) (L_67 N) (loopAt 4 (bodyOf Try.f67))) (n + 1) (pt_67_4.inst x) k = B_67_4 N (fun y => iter 0 lv_67_4 lo_67_4 (aexec TT (E_67 (R := R) N) (drawOk TT QQ) (L_67 N) (loopAt 4 (bodyOf Try.f67))) n (pt_67_4.inst y) k) x (fun y => k .ret (px_67_4_0.inst y)) (fun y => k (.exit 0) (px_67_4_1.inst y)) := (gstep_67_4 (p_102 N) (l_67_4 N N) n x k).trans (by kernel_rfl)
theorem eq_67_4 {R : Type} (N : Nat) : ∀ (n : Nat) (x : pt_67_4.den) (k : Exit → St → Option R), iter 0 lv_67_4 lo_67_4 (aexec TT (E_67 (R := R) N) (drawOk TT QQ) (L_67 N) (loopAt 4 (bodyOf Try.f67))) n (pt_67_4.inst x) k = l_67_4 N n x (fun y => k .ret (px_67_4_0.inst y)) (fun y => k (.exit 0) (px_67_4_1.inst y)) :=
  iter_eq (K := Exit → St → Option R) (ks := fun k => k) (l := fun n (x : pt_67_4.den) k => l_67_4 N n x (fun y => k .ret (px_67_4_0.inst y)) (fun y => k (.exit 0) (px_67_4_1.inst y))) (B := fun (rec : pt_67_4.den → Option R) (x : pt_67_4.den) k => B_67_4 N rec x (fun y => k .ret (px_67_4_0.inst y)) (fun y => k (.exit 0) (px_67_4_1.inst y))) (fun _ _ => rfl) (fun _ _ _ => rfl) (fun n x k => step_67_4 N n x k)
theorem rounds_67_4 {R : Type} (N : Nat) : Rounds 0 TT (E_67 (R := R) N) (drawOk TT QQ) (L_67 N) 4 (loopAt 4 (bodyOf Try.f67)) :=
  rounds_of (p := pt_67_4) (l := fun (x : pt_67_4.den) k => l_67_4 N N x (fun y => k .ret (px_67_4_0.inst y)) (fun y => k (.exit 0) (px_67_4_1.inst y))) (fun s k => rfl) (fun x k => eq_67_4 N N x k)
theorem loops_67 : loopsIn (bodyOf Try.f67) = [(4, loopAt 4 (bodyOf Try.f67))] := by kernel_rfl
theorem lok_67 {R : Type} (N : Nat) : LOK 0 TT (E_67 (R := R) N) (drawOk TT QQ) (L_67 N) (bodyOf Try.f67) := loops_all loops_67 (by
  simp only [List.forall_mem_cons, List.not_mem_nil, false_implies, implies_true, and_true]
  exact rounds_67_4 N)
theorem grun_67 {R : Type} (q_102 : Tp_102 R) (m_67_4 : Tl_67_4 R) (x : aden ap_67 × hden hp_67) (k : KF R) : fnrun TT (EG_67 q_102) (drawOk TT QQ) (LG_67 m_67_4) true Try.f67 (instA ap_67 x.1) (instH hp_67 x.2) k = Q_67 q_102 m_67_4 x (fun y => k (Pat.inst (.tup (.fcons (.int .i64) (.fcons (.str) (.fcons (.int .i64) (.fnil))))) y) (instH hp_67 x.2)) := by kernel_rfl
theorem run_67 {R : Type} (N : Nat) (x : aden ap_67 × hden hp_67) (k : KF R) : fnrun TT (E_67 (R := R) N) (drawOk TT QQ) (L_67 N) true Try.f67 (instA ap_67 x.1) (instH hp_67 x.2) k = p_67 N x (fun y => k (Pat.inst (.tup (.fcons (.int .i64) (.fcons (.str) (.fcons (.int .i64) (.fnil))))) y) (instH hp_67 x.2)) := (grun_67 (p_102 N) (l_67_4 N N) x k).trans (by kernel_rfl)
theorem good_67 {R : Type} (N : Nat) : GD (X := R) Try.prog QQ 67 ap_67 hp_67 (fun (x : aden ap_67 × hden hp_67) k => p_67 N x (fun y => k (Pat.inst (.tup (.fcons (.int .i64) (.fcons (.str) (.fcons (.int .i64) (.fnil))))) y) (instH hp_67 x.2))) :=
  gd_quiet (E := E_67 N) (p := fun (x : aden ap_67 × hden hp_67) κ => p_67 N x (fun y => κ (Pat.inst (.tup (.fcons (.int .i64) (.fcons (.str) (.fcons (.int .i64) (.fnil))))) y))) mixed tyok (eok_67 N) Try.func67 (by kernel_rfl) (by kernel_rfl) (lok_67 N) (fun x k => run_67 N x k)

def ap_98 : List Pat := []
def hp_98 : List (Option (Pat × Nat)) := []
def p_98 {R : Type} (N : Nat) (x : (Unit) × (Unit)) (κ0 : (Unit × ((Unit × (Unit × Unit)) × (List (Int × Bool)) × Unit)) → Option R) : Option R :=
κ0 ((), (((), ((), ())), ([] : List (Int × Bool)), ()))

abbrev Tp_98 (R : Type) : Type := (Unit) × (Unit) → ((Unit × ((Unit × (Unit × Unit)) × (List (Int × Bool)) × Unit)) → Option R) → Option R
def Q_98 {R : Type} (x : (Unit) × (Unit)) (κ0 : (Unit × ((Unit × (Unit × Unit)) × (List (Int × Bool)) × Unit)) → Option R) : Option R :=
κ0 ((), (((), ((), ())), ([] : List (Int × Bool)), ()))
def EG_98 {R : Type} : Env R := Env.base QQ LN
def LG_98 {R : Type} : Loops R := Loops.none
def E_98 {R : Type} (N : Nat) : Env R := EG_98
theorem eok_98 {R : Type} (N : Nat) : EK Try.prog (E_98 (R := R) N) := ek_base _ _
def L_98 {R : Type} (N : Nat) : Loops R := LG_98
theorem lok_98 {R : Type} (N : Nat) : LOK 0 TT (E_98 (R := R) N) (drawOk TT QQ) (L_98 N) (bodyOf Try.f98) := loops_nil (by kernel_rfl)
theorem grun_98 {R : Type} (x : aden ap_98 × hden hp_98) (k : KF R) : fnrun TT (EG_98) (drawOk TT QQ) (LG_98) true Try.f98 (instA ap_98 x.1) (instH hp_98 x.2) k = Q_98 x (fun y => k (Pat.inst (.ptr 0 []) y.1) (instH [some (.node (.fcons (.nils) (.fcons (.mp 1) (.fnil))), 184), some (.kvs (.int .i64) (.bool), 144)] y.2)) := by kernel_rfl
theorem run_98 {R : Type} (N : Nat) (x : aden ap_98 × hden hp_98) (k : KF R) : fnrun TT (E_98 (R := R) N) (drawOk TT QQ) (L_98 N) true Try.f98 (instA ap_98 x.1) (instH hp_98 x.2) k = p_98 N x (fun y => k (Pat.inst (.ptr 0 []) y.1) (instH [some (.node (.fcons (.nils) (.fcons (.mp 1) (.fnil))), 184), some (.kvs (.int .i64) (.bool), 144)] y.2)) := (grun_98 x k).trans (by kernel_rfl)
theorem good_98 {R : Type} (N : Nat) : GD (X := R) Try.prog QQ 98 ap_98 hp_98 (fun (x : aden ap_98 × hden hp_98) k => p_98 N x (fun y => k (Pat.inst (.ptr 0 []) y.1) (instH [some (.node (.fcons (.nils) (.fcons (.mp 1) (.fnil))), 184), some (.kvs (.int .i64) (.bool), 144)] y.2))) :=
  gd_loud (E := E_98 N) (p := fun (x : aden ap_98 × hden hp_98) k => p_98 N x (fun y => k (Pat.inst (.ptr 0 []) y.1) (instH [some (.node (.fcons (.nils) (.fcons (.mp 1) (.fnil))), 184), some (.kvs (.int .i64) (.bool), 144)] y.2))) mixed tyok (eok_98 N) Try.func98 (by kernel_rfl) (by kernel_rfl) (by kernel_rfl) (lok_98 N) (fun x k => run_98 N x k)

def lv_99_5 : Live := [(0, none), (5, none), (15, none), (16, none), (17, none)]
def pt_99_5 : SPat := ⟨[(0, .ptr 0 []), (5, .sl 3), (15, .sl 2), (16, .int .i64), (17, .int .i64)], [some (.node (.fcons (.nils) (.fcons (.mp 1) (.fnil))), 184), some (.kvs (.int .i64) (.bool), 144), some (.lst (.stru (.fcons (.int .i64) (.fcons (.str) (.fnil)))), 163), some (.lst (.stru (.fcons (.int .i64) (.fcons (.str) (.fnil)))), 163)]⟩
def px_99_5_0 : SPat := ⟨[(4, .int .i64)], [some (.node (.fcons (.nils) (.fcons (.mp 1) (.fnil))), 184), some (.kvs (.int .i64) (.bool), 144), some (.lst (.stru (.fcons (.int .i64) (.fcons (.str) (.fnil)))), 163)]⟩
def px_99_5_1 : SPat := ⟨[(0, .ptr 0 []), (5, .sl 3)], [some (.node (.fcons (.nils) (.fcons (.mp 1) (.fnil))), 184), some (.kvs (.int .i64) (.bool), 144), some (.lst (.stru (.fcons (.int .i64) (.fcons (.str) (.fnil)))), 163), some (.lst (.stru (.fcons (.int .i64) (.fcons (.str) (.fnil)))), 163)]⟩
def lo_99_5 : Exit → Live
  | .ret => [(4, none)]
  | .exit 0 => [(0, none), (5, none)]
  | _ => []
def B_99_5 {R : Type} (N : Nat) (rec : ((Unit × Unit × Unit × Int × Int × Unit) × ((Unit × (Unit × Unit)) × (List (Int × Bool)) × (List (Int × (ByteArray × Unit))) × (List (Int × (ByteArray × Unit))) × Unit)) → Option R) (x : ((Unit × Unit × Unit × Int × Int × Unit) × ((Unit × (Unit × Unit)) × (List (Int × Bool)) × (List (Int × (ByteArray × Unit))) × (List (Int × (ByteArray × Unit))) × Unit))) (κ0 : ((Int × Unit) × ((Unit × (Unit × Unit)) × (List (Int × Bool)) × (List (Int × (ByteArray × Unit))) × Unit)) → Option R) (κ1 : ((Unit × Unit × Unit) × ((Unit × (Unit × Unit)) × (List (Int × Bool)) × (List (Int × (ByteArray × Unit))) × (List (Int × (ByteArray × Unit))) × Unit)) → Option R) : Option R :=
let i138 : Int := x.1.2.2.2.1
let i139 : Int := x.1.2.2.2.2.1
let m140 : (List (Int × Bool)) := x.2.2.1
let l141 : (List (Int × (ByteArray × Unit))) := x.2.2.2.1
let l142 : (List (Int × (ByteArray × Unit))) := x.2.2.2.2.1
bif (decide (i139 < i138)) then (
bif decide (0 ≤ i139) then (
bif decide (i139 < ((List.length l141) : Int)) then (
let i143 : Int := (List.getD l141 ((Int.toNat i139)) (Sch.zero (.stru (.fcons (.int .i64) (.fcons (.str) (.fnil)))))).1
p_87 N ((i143, 1, 999, ()), ()) (fun y144 =>
let b145 : Bool := y144
bif (!b145) then (
κ0 ((1, ()), (((), ((), ())), m140, l141, ()))) else (
let s146 : ByteArray := (List.getD l141 ((Int.toNat i139)) (Sch.zero (.stru (.fcons (.int .i64) (.fcons (.str) (.fnil)))))).2.1
let i147 : Int := ((ByteArray.size s146 : Nat) : Int)
bif (decide (i147 < 16)) then (
κ0 ((1, ()), (((), ((), ())), m140, l141, ()))) else (
let s148 : ByteArray := (List.getD l141 ((Int.toNat i139)) (Sch.zero (.stru (.fcons (.int .i64) (.fcons (.str) (.fnil)))))).2.1
let i149 : Int := ((ByteArray.size s148 : Nat) : Int)
bif (decide (i149 > 64)) then (
κ0 ((1, ()), (((), ((), ())), m140, l141, ()))) else (
let i150 : Int := (((List.length l142) : Nat) : Int)
bif (decide (i150 > 0)) then (
let i151 : Int := (List.getD l141 ((Int.toNat i139)) (Sch.zero (.stru (.fcons (.int .i64) (.fcons (.str) (.fnil)))))).1
let i152 : Int := (((List.length l142) : Nat) : Int)
let i153 : Int := subA .i64 i152 1
bif decide (0 ≤ i153) then (
bif decide (i153 < ((List.length l142) : Int)) then (
let i154 : Int := (List.getD l142 ((Int.toNat i153)) (Sch.zero (.stru (.fcons (.int .i64) (.fcons (.str) (.fnil)))))).1
bif (decide (i151 ≤ i154)) then (
κ0 ((15, ()), (((), ((), ())), m140, l141, ()))) else (
let l155 : (List (Int × (ByteArray × Unit))) := [((List.getD l141 ((Int.toNat i139)) (Sch.zero (.stru (.fcons (.int .i64) (.fcons (.str) (.fnil)))))).1, ((List.getD l141 ((Int.toNat i139)) (Sch.zero (.stru (.fcons (.int .i64) (.fcons (.str) (.fnil)))))).2.1, ()))]
bif (decide ((List.length l142 + List.length l155) * 24 ≤ 140737488355328) && true) then (
let l156 : (List (Int × (ByteArray × Unit))) := (l142 ++ l155)
let i157 : Int := addA .i64 i139 1
rec (((), (), (), i138, i157, ()), (((), ((), ())), m140, l141, l156, ()))) else none)) else none) else none) else (
let l158 : (List (Int × (ByteArray × Unit))) := [((List.getD l141 ((Int.toNat i139)) (Sch.zero (.stru (.fcons (.int .i64) (.fcons (.str) (.fnil)))))).1, ((List.getD l141 ((Int.toNat i139)) (Sch.zero (.stru (.fcons (.int .i64) (.fcons (.str) (.fnil)))))).2.1, ()))]
bif (decide ((List.length l142 + List.length l158) * 24 ≤ 140737488355328) && true) then (
let l159 : (List (Int × (ByteArray × Unit))) := (l142 ++ l158)
let i160 : Int := addA .i64 i139 1
rec (((), (), (), i138, i160, ()), (((), ((), ())), m140, l141, l159, ()))) else none)))))) else none) else none) else (
κ1 (((), (), ()), (((), ((), ())), m140, l141, l142, ())))
def l_99_5 {R : Type} (N : Nat) : Nat → ((Unit × Unit × Unit × Int × Int × Unit) × ((Unit × (Unit × Unit)) × (List (Int × Bool)) × (List (Int × (ByteArray × Unit))) × (List (Int × (ByteArray × Unit))) × Unit)) → (((Int × Unit) × ((Unit × (Unit × Unit)) × (List (Int × Bool)) × (List (Int × (ByteArray × Unit))) × Unit)) → Option R) → (((Unit × Unit × Unit) × ((Unit × (Unit × Unit)) × (List (Int × Bool)) × (List (Int × (ByteArray × Unit))) × (List (Int × (ByteArray × Unit))) × Unit)) → Option R) → Option R
  | 0, _, _, _ => none
  | n + 1, x, κ0, κ1 => B_99_5 N (fun y => l_99_5 N n y κ0 κ1) x κ0 κ1
def ap_99 : List Pat := [.ptr 0 [], .sl 2]
def hp_99 : List (Option (Pat × Nat)) := [some (.node (.fcons (.nils) (.fcons (.mp 1) (.fnil))), 184), some (.kvs (.int .i64) (.bool), 144), some (.lst (.stru (.fcons (.int .i64) (.fcons (.str) (.fnil)))), 163)]
def p_99 {R : Type} (N : Nat) (x : (Unit × Unit × Unit) × ((Unit × (Unit × Unit)) × (List (Int × Bool)) × (List (Int × (ByteArray × Unit))) × Unit)) (κ0 : (Int × ((Unit × (Unit × Unit)) × (List (Int × Bool)) × (List (Int × (ByteArray × Unit))) × Unit)) → Option R) (κ1 : (Int × ((Unit × (Unit × Unit)) × (List (Int × Bool)) × (List (Int × (ByteArray × Unit))) × (List (Int × (ByteArray × Unit))) × Unit)) → Option R) : Option R :=
let m134 : (List (Int × Bool)) := x.2.2.1
let l135 : (List (Int × (ByteArray × Unit))) := x.2.2.2.1
bif decide (List.length (([] : List (Int × (ByteArray × Unit)))) * 24 ≤ 140737488355328) then (
let l136 : (List (Int × (ByteArray × Unit))) := ([] : List (Int × (ByteArray × Unit)))
let i137 : Int := (((List.length l135) : Nat) : Int)
l_99_5 N N (((), (), (), i137, 0, ()), (((), ((), ())), m134, l135, l136, ())) (fun y161 =>
let i162 : Int := y161.1.1
let m163 : (List (Int × Bool)) := y161.2.2.1
let l164 : (List (Int × (ByteArray × Unit))) := y161.2.2.2.1
κ0 (i162, (((), ((), ())), m163, l164, ()))) (fun y165 =>
let m166 : (List (Int × Bool)) := y165.2.2.1
let l167 : (List (Int × (ByteArray × Unit))) := y165.2.2.2.1
let l168 : (List (Int × (ByteArray × Unit))) := y165.2.2.2.2.1
let i169 : Int := (((List.length l168) : Nat) : Int)
bif (decide (i169 > 64)) then (
κ0 (14, (((), ((), ())), m166, l167, ()))) else (
κ1 (0, (((), ((), ())), m166, l167, l168, ()))))) else none

abbrev Tl_99_5 (R : Type) : Type := ((Unit × Unit × Unit × Int × Int × Unit) × ((Unit × (Unit × Unit)) × (List (Int × Bool)) × (List (Int × (ByteArray × Unit))) × (List (Int × (ByteArray × Unit))) × Unit)) → (((Int × Unit) × ((Unit × (Unit × Unit)) × (List (Int × Bool)) × (List (Int × (ByteArray × Unit))) × Unit)) → Option R) → (((Unit × Unit × Unit) × ((Unit × (Unit × Unit)) × (List (Int × Bool)) × (List (Int × (ByteArray × Unit))) × (List (Int × (ByteArray × Unit))) × Unit)) → Option R) → Option R
abbrev Tp_99 (R : Type) : Type := (Unit × Unit × Unit) × ((Unit × (Unit × Unit)) × (List (Int × Bool)) × (List (Int × (ByteArray × Unit))) × Unit) → ((Int × ((Unit × (Unit × Unit)) × (List (Int × Bool)) × (List (Int × (ByteArray × Unit))) × Unit)) → Option R) → ((Int × ((Unit × (Unit × Unit)) × (List (Int × Bool)) × (List (Int × (ByteArray × Unit))) × (List (Int × (ByteArray × Unit))) × Unit)) → Option R) → Option R
def Q_99 {R : Type} (q_87 : Tp_87 R) (m_99_5 : Tl_99_5 R) (x : (Unit × Unit × Unit) × ((Unit × (Unit × Unit)) × (List (Int × Bool)) × (List (Int × (ByteArray × Unit))) × Unit)) (κ0 : (Int × ((Unit × (Unit × Unit)) × (List (Int × Bool)) × (List (Int × (ByteArray × Unit))) × Unit)) → Option R) (κ1 : (Int × ((Unit × (Unit × Unit)) × (List (Int × Bool)) × (List (Int × (ByteArray × Unit))) × (List (Int × (ByteArray × Unit))) × Unit)) → Option R) : Option R :=
let m134 : (List (Int × Bool)) := x.2.2.1
let l135 : (List (Int × (ByteArray × Unit))) := x.2.2.2.1
bif decide (List.length (([] : List (Int × (ByteArray × Unit)))) * 24 ≤ 140737488355328) then (
let l136 : (List (Int × (ByteArray × Unit))) := ([] : List (Int × (ByteArray × Unit)))
let i137 : Int := (((List.length l135) : Nat) : Int)
m_99_5 (((), (), (), i137, 0, ()), (((), ((), ())), m134, l135, l136, ())) (fun y161 =>
let i162 : Int := y161.1.1
let m163 : (List (Int × Bool)) := y161.2.2.1
let l164 : (List (Int × (ByteArray × Unit))) := y161.2.2.2.1
κ0 (i162, (((), ((), ())), m163, l164, ()))) (fun y165 =>
let m166 : (List (Int × Bool)) := y165.2.2.1
let l167 : (List (Int × (ByteArray × Unit))) := y165.2.2.2.1
let l168 : (List (Int × (ByteArray × Unit))) := y165.2.2.2.2.1
let i169 : Int := (((List.length l168) : Nat) : Int)
bif (decide (i169 > 64)) then (
κ0 (14, (((), ((), ())), m166, l167, ()))) else (
κ1 (0, (((), ((), ())), m166, l167, l168, ()))))) else none
def C_99_5 {R : Type} (q_87 : Tp_87 R) (m_99_5 : Tl_99_5 R) (rec : ((Unit × Unit × Unit × Int × Int × Unit) × ((Unit × (Unit × Unit)) × (List (Int × Bool)) × (List (Int × (ByteArray × Unit))) × (List (Int × (ByteArray × Unit))) × Unit)) → Option R) (x : ((Unit × Unit × Unit × Int × Int × Unit) × ((Unit × (Unit × Unit)) × (List (Int × Bool)) × (List (Int × (ByteArray × Unit))) × (List (Int × (ByteArray × Unit))) × Unit))) (κ0 : ((Int × Unit) × ((Unit × (Unit × Unit)) × (List (Int × Bool)) × (List (Int × (ByteArray × Unit))) × Unit)) → Option R) (κ1 : ((Unit × Unit × Unit) × ((Unit × (Unit × Unit)) × (List (Int × Bool)) × (List (Int × (ByteArray × Unit))) × (List (Int × (ByteArray × Unit))) × Unit)) → Option R) : Option R :=
let i138 : Int := x.1.2.2.2.1
let i139 : Int := x.1.2.2.2.2.1
let m140 : (List (Int × Bool)) := x.2.2.1
let l141 : (List (Int × (ByteArray × Unit))) := x.2.2.2.1
let l142 : (List (Int × (ByteArray × Unit))) := x.2.2.2.2.1
bif (decide (i139 < i138)) then (
bif decide (0 ≤ i139) then (
bif decide (i139 < ((List.length l141) : Int)) then (
let i143 : Int := (List.getD l141 ((Int.toNat i139)) (Sch.zero (.stru (.fcons (.int .i64) (.fcons (.str) (.fnil)))))).1
q_87 ((i143, 1, 999, ()), ()) (fun y144 =>
let b145 : Bool := y144
bif (!b145) then (
κ0 ((1, ()), (((), ((), ())), m140, l141, ()))) else (
let s146 : ByteArray := (List.getD l141 ((Int.toNat i139)) (Sch.zero (.stru (.fcons (.int .i64) (.fcons (.str) (.fnil)))))).2.1
let i147 : Int := ((ByteArray.size s146 : Nat) : Int)
bif (decide (i147 < 16)) then (
κ0 ((1, ()), (((), ((), ())), m140, l141, ()))) else (
let s148 : ByteArray := (List.getD l141 ((Int.toNat i139)) (Sch.zero (.stru (.fcons (.int .i64) (.fcons (.str) (.fnil)))))).2.1
let i149 : Int := ((ByteArray.size s148 : Nat) : Int)
bif (decide (i149 > 64)) then (
κ0 ((1, ()), (((), ((), ())), m140, l141, ()))) else (
let i150 : Int := (((List.length l142) : Nat) : Int)
bif (decide (i150 > 0)) then (
let i151 : Int := (List.getD l141 ((Int.toNat i139)) (Sch.zero (.stru (.fcons (.int .i64) (.fcons (.str) (.fnil)))))).1
let i152 : Int := (((List.length l142) : Nat) : Int)
let i153 : Int := subA .i64 i152 1
bif decide (0 ≤ i153) then (
bif decide (i153 < ((List.length l142) : Int)) then (
let i154 : Int := (List.getD l142 ((Int.toNat i153)) (Sch.zero (.stru (.fcons (.int .i64) (.fcons (.str) (.fnil)))))).1
bif (decide (i151 ≤ i154)) then (
κ0 ((15, ()), (((), ((), ())), m140, l141, ()))) else (
let l155 : (List (Int × (ByteArray × Unit))) := [((List.getD l141 ((Int.toNat i139)) (Sch.zero (.stru (.fcons (.int .i64) (.fcons (.str) (.fnil)))))).1, ((List.getD l141 ((Int.toNat i139)) (Sch.zero (.stru (.fcons (.int .i64) (.fcons (.str) (.fnil)))))).2.1, ()))]
bif (decide ((List.length l142 + List.length l155) * 24 ≤ 140737488355328) && true) then (
let l156 : (List (Int × (ByteArray × Unit))) := (l142 ++ l155)
let i157 : Int := addA .i64 i139 1
rec (((), (), (), i138, i157, ()), (((), ((), ())), m140, l141, l156, ()))) else none)) else none) else none) else (
let l158 : (List (Int × (ByteArray × Unit))) := [((List.getD l141 ((Int.toNat i139)) (Sch.zero (.stru (.fcons (.int .i64) (.fcons (.str) (.fnil)))))).1, ((List.getD l141 ((Int.toNat i139)) (Sch.zero (.stru (.fcons (.int .i64) (.fcons (.str) (.fnil)))))).2.1, ()))]
bif (decide ((List.length l142 + List.length l158) * 24 ≤ 140737488355328) && true) then (
let l159 : (List (Int × (ByteArray × Unit))) := (l142 ++ l158)
let i160 : Int := addA .i64 i139 1
rec (((), (), (), i138, i160, ()), (((), ((), ())), m140, l141, l159, ()))) else none)))))) else none) else none) else (
κ1 (((), (), ()), (((), ((), ())), m140, l141, l142, ())))
def EG_99 {R : Type} (q_87 : Tp_87 R) : Env R := (Env.base QQ LN).add 87 ap_87 hp_87 (fun (x : aden ap_87 × hden hp_87) k => q_87 x (fun y => k (Pat.inst (.bool) y) (instH hp_87 x.2)))
def LG_99 {R : Type} (m_99_5 : Tl_99_5 R) : Loops R := (Loops.none).add 5 (loopBy 3 lv_99_5 pt_99_5 (fun x k => m_99_5 x (fun y => k .ret (px_99_5_0.inst y)) (fun y => k (.exit 0) (px_99_5_1.inst y))))
def E_99 {R : Type} (N : Nat) : Env R := EG_99 (p_87 N)
theorem eok_99 {R : Type} (N : Nat) : EK Try.prog (E_99 (R := R) N) := ek_add (ek_base _ _) (good_87 N)
def L_99 {R : Type} (N : Nat) : Loops R := LG_99 (l_99_5 N N)
theorem gstep_99_5 {R : Type} (q_87 : Tp_87 R) (m_99_5 : Tl_99_5 R) (n : Nat) (x : pt_99_5.den) (k : Exit → St → Option R) : iter 3 lv_99_5 lo_99_5 (aexec TT (EG_99 q_87) (drawOk TT QQ) (LG_99 m_99_5) (loopAt 5 (bodyOf Try.f99))) (n + 1) (pt_99_5.inst x) k = C_99_5 q_87 m_99_5 (fun y => iter 3 lv_99_5 lo_99_5 (aexec TT (EG_99 q_87) (drawOk TT QQ) (LG_99 m_99_5) (loopAt 5 (bodyOf Try.f99))) n (pt_99_5.inst y) k) x (fun y => k .ret (px_99_5_0.inst y)) (fun y => k (.exit 0) (px_99_5_1.inst y)) := by kernel_rfl
theorem step_99_5 {R : Type} (N n : Nat) (x : pt_99_5.den) (k : Exit → St → Option R) : iter 3 lv_99_5 lo_99_5 (aexec TT (E_99 (R := R) N) (drawOk TT QQ) (L_99 N) (loopAt 5 (bodyOf Try.f99))) (n + 1) (pt_99_5.inst x) k = B_99_5 N (fun y => iter 3 lv_99_5 lo_99_5 (aexec TT (E_99 (R := R) N) (drawOk TT QQ) (L_99 N) (loopAt 5 (bodyOf Try.f99))) n (pt_99_5.inst y) k) x (fun y => k .ret (px_99_5_0.inst y)) (fun y => k (.exit 0) (px_99_5_1.inst y)) := (gstep_99_5 (p_87 N) (l_99_5 N N) n x k).trans (by kernel_rfl)
theorem eq_99_5 {R : Type} (N : Nat) : ∀ (n : Nat) (x : pt_99_5.den) (k : Exit → St → Option R), iter 3 lv_99_5 lo_99_5 (aexec TT (E_99 (R := R) N) (drawOk TT QQ) (L_99 N) (loopAt 5 (bodyOf Try.f99))) n (pt_99_5.inst x) k = l_99_5 N n x (fun y => k .ret (px_99_5_0.inst y)) (fun y => k (.exit 0) (px_99_5_1.inst y)) :=
  iter_eq (K := Exit → St → Option R) (ks := fun k => k) (l := fun n (x : pt_99_5.den) k => l_99_5 N n x (fun y => k .ret (px_99_5_0.inst y)) (fun y => k (.exit 0) (px_99_5_1.inst y))) (B := fun (rec : pt_99_5.den → Option R) (x : pt_99_5.den) k => B_99_5 N rec x (fun y => k .ret (px_99_5_0.inst y)) (fun y => k (.exit 0) (px_99_5_1.inst y))) (fun _ _ => rfl) (fun _ _ _ => rfl) (fun n x k => step_99_5 N n x k)
theorem rounds_99_5 {R : Type} (N : Nat) : Rounds 3 TT (E_99 (R := R) N) (drawOk TT QQ) (L_99 N) 5 (loopAt 5 (bodyOf Try.f99)) :=
  rounds_of (p := pt_99_5) (l := fun (x : pt_99_5.den) k => l_99_5 N N x (fun y => k .ret (px_99_5_0.inst y)) (fun y => k (.exit 0) (px_99_5_1.inst y))) (fun s k => rfl) (fun x k => eq_99_5 N N x k)
theorem loops_99 : loopsIn (bodyOf Try.f99) = [(5, loopAt 5 (bodyOf Try.f99))] := by kernel_rfl
theorem lok_99 {R : Type} (N : Nat) : LOK 3 TT (E_99 (R := R) N) (drawOk TT QQ) (L_99 N) (bodyOf Try.f99) := loops_all loops_99 (by
  simp only [List.forall_mem_cons, List.not_mem_nil, false_implies, implies_true, and_true]
  exact rounds_99_5 N)
theorem grun_99 {R : Type} (q_87 : Tp_87 R) (m_99_5 : Tl_99_5 R) (x : aden ap_99 × hden hp_99) (k : KF R) : fnrun TT (EG_99 q_87) (drawOk TT QQ) (LG_99 m_99_5) true Try.f99 (instA ap_99 x.1) (instH hp_99 x.2) k = Q_99 q_87 m_99_5 x (fun y => k (Pat.inst (.int .i64) y.1) (instH [some (.node (.fcons (.nils) (.fcons (.mp 1) (.fnil))), 184), some (.kvs (.int .i64) (.bool), 144), some (.lst (.stru (.fcons (.int .i64) (.fcons (.str) (.fnil)))), 163)] y.2)) (fun y => k (Pat.inst (.int .i64) y.1) (instH [some (.node (.fcons (.sl 3) (.fcons (.mp 1) (.fnil))), 184), some (.kvs (.int .i64) (.bool), 144), some (.lst (.stru (.fcons (.int .i64) (.fcons (.str) (.fnil)))), 163), some (.lst (.stru (.fcons (.int .i64) (.fcons (.str) (.fnil)))), 163)] y.2)) := by kernel_rfl
theorem run_99 {R : Type} (N : Nat) (x : aden ap_99 × hden hp_99) (k : KF R) : fnrun TT (E_99 (R := R) N) (drawOk TT QQ) (L_99 N) true Try.f99 (instA ap_99 x.1) (instH hp_99 x.2) k = p_99 N x (fun y => k (Pat.inst (.int .i64) y.1) (instH [some (.node (.fcons (.nils) (.fcons (.mp 1) (.fnil))), 184), some (.kvs (.int .i64) (.bool), 144), some (.lst (.stru (.fcons (.int .i64) (.fcons (.str) (.fnil)))), 163)] y.2)) (fun y => k (Pat.inst (.int .i64) y.1) (instH [some (.node (.fcons (.sl 3) (.fcons (.mp 1) (.fnil))), 184), some (.kvs (.int .i64) (.bool), 144), some (.lst (.stru (.fcons (.int .i64) (.fcons (.str) (.fnil)))), 163), some (.lst (.stru (.fcons (.int .i64) (.fcons (.str) (.fnil)))), 163)] y.2)) := (grun_99 (p_87 N) (l_99_5 N N) x k).trans (by kernel_rfl)
theorem good_99 {R : Type} (N : Nat) : GD (X := R) Try.prog QQ 99 ap_99 hp_99 (fun (x : aden ap_99 × hden hp_99) k => p_99 N x (fun y => k (Pat.inst (.int .i64) y.1) (instH [some (.node (.fcons (.nils) (.fcons (.mp 1) (.fnil))), 184), some (.kvs (.int .i64) (.bool), 144), some (.lst (.stru (.fcons (.int .i64) (.fcons (.str) (.fnil)))), 163)] y.2)) (fun y => k (Pat.inst (.int .i64) y.1) (instH [some (.node (.fcons (.sl 3) (.fcons (.mp 1) (.fnil))), 184), some (.kvs (.int .i64) (.bool), 144), some (.lst (.stru (.fcons (.int .i64) (.fcons (.str) (.fnil)))), 163), some (.lst (.stru (.fcons (.int .i64) (.fcons (.str) (.fnil)))), 163)] y.2))) :=
  gd_loud (E := E_99 N) (p := fun (x : aden ap_99 × hden hp_99) k => p_99 N x (fun y => k (Pat.inst (.int .i64) y.1) (instH [some (.node (.fcons (.nils) (.fcons (.mp 1) (.fnil))), 184), some (.kvs (.int .i64) (.bool), 144), some (.lst (.stru (.fcons (.int .i64) (.fcons (.str) (.fnil)))), 163)] y.2)) (fun y => k (Pat.inst (.int .i64) y.1) (instH [some (.node (.fcons (.sl 3) (.fcons (.mp 1) (.fnil))), 184), some (.kvs (.int .i64) (.bool), 144), some (.lst (.stru (.fcons (.int .i64) (.fcons (.str) (.fnil)))), 163), some (.lst (.stru (.fcons (.int .i64) (.fcons (.str) (.fnil)))), 163)] y.2))) mixed tyok (eok_99 N) Try.func99 (by kernel_rfl) (by kernel_rfl) (by kernel_rfl) (lok_99 N) (fun x k => run_99 N x k)

def lv_100_4 : Live := [(0, none), (4, none)]
def pt_100_4 : SPat := ⟨[(0, .ptr 0 []), (4, .int .i64)], [some (.node (.fcons (.nils) (.fcons (.mp 1) (.fnil))), 184), some (.kvs (.int .i64) (.bool), 144)]⟩
def px_100_4_0 : SPat := ⟨[], [some (.node (.fcons (.nils) (.fcons (.mp 1) (.fnil))), 184), some (.kvs (.int .i64) (.bool), 144)]⟩
def lo_100_4 : Exit → Live
  | .exit 0 => []
  | _ => []
def B_100_4 {R : Type} (N : Nat) (rec : ((Unit × Int × Unit) × ((Unit × (Unit × Unit)) × (List (Int × Bool)) × Unit)) → Option R) (x : ((Unit × Int × Unit) × ((Unit × (Unit × Unit)) × (List (Int × Bool)) × Unit))) (κ0 : ((Unit) × ((Unit × (Unit × Unit)) × (List (Int × Bool)) × Unit)) → Option R) : Option R :=
let i176 : Int := x.1.2.1
let m177 : (List (Int × Bool)) := x.2.2.1
bif (decide (i176 ≥ 0)) then (
none) else (
κ0 ((), (((), ((), ())), m177, ())))
def l_100_4 {R : Type} (N : Nat) : Nat → ((Unit × Int × Unit) × ((Unit × (Unit × Unit)) × (List (Int × Bool)) × Unit)) → (((Unit) × ((Unit × (Unit × Unit)) × (List (Int × Bool)) × Unit)) → Option R) → Option R
  | 0, _, _ => none
  | n + 1, x, κ0 => B_100_4 N (fun y => l_100_4 N n y κ0) x κ0
def ap_100 : List Pat := [.ptr 0 []]
def hp_100 : List (Option (Pat × Nat)) := [some (.node (.fcons (.nils) (.fcons (.mp 1) (.fnil))), 184), some (.kvs (.int .i64) (.bool), 144)]
def p_100 {R : Type} (N : Nat) (x : (Unit × Unit) × ((Unit × (Unit × Unit)) × (List (Int × Bool)) × Unit)) (κ0 : ((Int × (Int × Unit)) × ((Unit × (Unit × Unit)) × (List (Int × Bool)) × Unit)) → Option R) : Option R :=
let m174 : (List (Int × Bool)) := x.2.2.1
let i175 : Int := subA .i64 0 1
l_100_4 N N (((), i175, ()), (((), ((), ())), m174, ())) (fun y178 =>
let m179 : (List (Int × Bool)) := y178.2.2.1
κ0 ((0, (11, ())), (((), ((), ())), m179, ())))

abbrev Tl_100_4 (R : Type) : Type := ((Unit × Int × Unit) × ((Unit × (Unit × Unit)) × (List (Int × Bool)) × Unit)) → (((Unit) × ((Unit × (Unit × Unit)) × (List (Int × Bool)) × Unit)) → Option R) → Option R
abbrev Tp_100 (R : Type) : Type := (Unit × Unit) × ((Unit × (Unit × Unit)) × (List (Int × Bool)) × Unit) → (((Int × (Int × Unit)) × ((Unit × (Unit × Unit)) × (List (Int × Bool)) × Unit)) → Option R) → Option R
def Q_100 {R : Type} (m_100_4 : Tl_100_4 R) (x : (Unit × Unit) × ((Unit × (Unit × Unit)) × (List (Int × Bool)) × Unit)) (κ0 : ((Int × (Int × Unit)) × ((Unit × (Unit × Unit)) × (List (Int × Bool)) × Unit)) → Option R) : Option R :=
let m174 : (List (Int × Bool)) := x.2.2.1
let i175 : Int := subA .i64 0 1
m_100_4 (((), i175, ()), (((), ((), ())), m174, ())) (fun y178 =>
let m179 : (List (Int × Bool)) := y178.2.2.1
κ0 ((0, (11, ())), (((), ((), ())), m179, ())))
def C_100_4 {R : Type} (m_100_4 : Tl_100_4 R) (rec : ((Unit × Int × Unit) × ((Unit × (Unit × Unit)) × (List (Int × Bool)) × Unit)) → Option R) (x : ((Unit × Int × Unit) × ((Unit × (Unit × Unit)) × (List (Int × Bool)) × Unit))) (κ0 : ((Unit) × ((Unit × (Unit × Unit)) × (List (Int × Bool)) × Unit)) → Option R) : Option R :=
let i176 : Int := x.1.2.1
let m177 : (List (Int × Bool)) := x.2.2.1
bif (decide (i176 ≥ 0)) then (
none) else (
κ0 ((), (((), ((), ())), m177, ())))
def EG_100 {R : Type} : Env R := Env.base QQ LN
def LG_100 {R : Type} (m_100_4 : Tl_100_4 R) : Loops R := (Loops.none).add 4 (loopBy 2 lv_100_4 pt_100_4 (fun x k => m_100_4 x (fun y => k (.exit 0) (px_100_4_0.inst y))))
def E_100 {R : Type} (N : Nat) : Env R := EG_100
theorem eok_100 {R : Type} (N : Nat) : EK Try.prog (E_100 (R := R) N) := ek_base _ _
def L_100 {R : Type} (N : Nat) : Loops R := LG_100 (l_100_4 N N)
theorem gstep_100_4 {R : Type} (m_100_4 : Tl_100_4 R) (n : Nat) (x : pt_100_4.den) (k : Exit → St → Option R) : iter 2 lv_100_4 lo_100_4 (aexec TT (EG_100) (drawOk TT QQ) (LG_100 m_100_4) (loopAt 4 (bodyOf Try.f100))) (n + 1) (pt_100_4.inst x) k = C_100_4 m_100_4 (fun y => iter 2 lv_100_4 lo_100_4 (aexec TT (EG_100) (drawOk TT QQ) (LG_100 m_100_4) (loopAt 4 (bodyOf Try.f100))) n (pt_100_4.inst y) k) x (fun y => k (.exit 0) (px_100_4_0.inst y)) := by kernel_rfl
theorem step_100_4 {R : Type} (N n : Nat) (x : pt_100_4.den) (k : Exit → St → Option R) : iter 2 lv_100_4 lo_100_4 (aexec TT (E_100 (R := R) N) (drawOk TT QQ) (L_100 N) (loopAt 4 (bodyOf Try.f100))) (n + 1) (pt_100_4.inst x) k = B_100_4 N (fun y => iter 2 lv_100_4 lo_100_4 (aexec TT (E_100 (R := R) N) (drawOk TT QQ) (L_100 N) (loopAt 4 (bodyOf Try.f100))) n (pt_100_4.inst y) k) x (fun y => k (.exit 0) (px_100_4_0.inst y)) := (gstep_100_4 (l_100_4 N N) n x k).trans (by kernel_rfl)
theorem eq_100_4 {R : Type} (N : Nat) : ∀ (n : Nat) (x : pt_100_4.den) (k : Exit → St → Option R), iter 2 lv_100_4 lo_100_4 (aexec TT (E_100 (R := R) N) (drawOk TT QQ) (L_100 N) (loopAt 4 (bodyOf Try.f100))) n (pt_100_4.inst x) k = l_100_4 N n x (fun y => k (.exit 0) (px_100_4_0.inst y)) :=
  iter_eq (K := Exit → St → Option R) (ks := fun k => k) (l := fun n (x : pt_100_4.den) k => l_100_4 N n x (fun y => k (.exit 0) (px_100_4_0.inst y))) (B := fun (rec : pt_100_4.den → Option R) (x : pt_100_4.den) k => B_100_4 N rec x (fun y => k (.exit 0) (px_100_4_0.inst y))) (fun _ _ => rfl) (fun _ _ _ => rfl) (fun n x k => step_100_4 N n x k)
theorem rounds_100_4 {R : Type} (N : Nat) : Rounds 2 TT (E_100 (R := R) N) (drawOk TT QQ) (L_100 N) 4 (loopAt 4 (bodyOf Try.f100)) :=
  rounds_of (p := pt_100_4) (l := fun (x : pt_100_4.den) k => l_100_4 N N x (fun y => k (.exit 0) (px_100_4_0.inst y))) (fun s k => rfl) (fun x k => eq_100_4 N N x k)
theorem loops_100 : loopsIn (bodyOf Try.f100) = [(4, loopAt 4 (bodyOf Try.f100))] := by kernel_rfl
theorem lok_100 {R : Type} (N : Nat) : LOK 2 TT (E_100 (R := R) N) (drawOk TT QQ) (L_100 N) (bodyOf Try.f100) := loops_all loops_100 (by
  simp only [List.forall_mem_cons, List.not_mem_nil, false_implies, implies_true, and_true]
  exact rounds_100_4 N)
theorem grun_100 {R : Type} (m_100_4 : Tl_100_4 R) (x : aden ap_100 × hden hp_100) (k : KF R) : fnrun TT (EG_100) (drawOk TT QQ) (LG_100 m_100_4) true Try.f100 (instA ap_100 x.1) (instH hp_100 x.2) k = Q_100 m_100_4 x (fun y => k (Pat.inst (.tup (.fcons (.int .i64) (.fcons (.int .i64) (.fnil)))) y.1) (instH [some (.node (.fcons (.nils) (.fcons (.mp 1) (.fnil))), 184), some (.kvs (.int .i64) (.bool), 144)] y.2)) := by kernel_rfl
theorem run_100 {R : Type} (N : Nat) (x : aden ap_100 × hden hp_100) (k : KF R) : fnrun TT (E_100 (R := R) N) (drawOk TT QQ) (L_100 N) true Try.f100 (instA ap_100 x.1) (instH hp_100 x.2) k = p_100 N x (fun y => k (Pat.inst (.tup (.fcons (.int .i64) (.fcons (.int .i64) (.fnil)))) y.1) (instH [some (.node (.fcons (.nils) (.fcons (.mp 1) (.fnil))), 184), some (.kvs (.int .i64) (.bool), 144)] y.2)) := (grun_100 (l_100_4 N N) x k).trans (by kernel_rfl)
theorem good_100 {R : Type} (N : Nat) : GD (X := R) Try.prog QQ 100 ap_100 hp_100 (fun (x : aden ap_100 × hden hp_100) k => p_100 N x (fun y => k (Pat.inst (.tup (.fcons (.int .i64) (.fcons (.int .i64) (.fnil)))) y.1) (instH [some (.node (.fcons (.nils) (.fcons (.mp 1) (.fnil))), 184), some (.kvs (.int .i64) (.bool), 144)] y.2))) :=
  gd_loud (E := E_100 N) (p := fun (x : aden ap_100 × hden hp_100) k => p_100 N x (fun y => k (Pat.inst (.tup (.fcons (.int .i64) (.fcons (.int .i64) (.fnil)))) y.1) (instH [some (.node (.fcons (.nils) (.fcons (.mp 1) (.fnil))), 184), some (.kvs (.int .i64) (.bool), 144)] y.2))) mixed tyok (eok_100 N) Try.func100 (by kernel_rfl) (by kernel_rfl) (by kernel_rfl) (lok_100 N) (fun x k => run_100 N x k)

def lv_100_v1_4 : Live := [(0, none), (4, none)]
def pt_100_v1_4 : SPat := ⟨[(0, .ptr 0 []), (4, .int .i64)], [some (.node (.fcons (.sl 1) (.fcons (.mp 2) (.fnil))), 184), some (.lst (.stru (.fcons (.int .i64) (.fcons (.str) (.fnil)))), 163), some (.kvs (.int .i64) (.bool), 144)]⟩
def px_100_v1_4_0 : SPat := ⟨[(2, .int .i64), (3, .int .i64)], [some (.node (.fcons (.sl 1) (.fcons (.mp 2) (.fnil))), 184), some (.lst (.stru (.fcons (.int .i64) (.fcons (.str) (.fnil)))), 163), some (.kvs (.int .i64) (.bool), 144)]⟩
def px_100_v1_4_1 : SPat := ⟨[], [some (.node (.fcons (.sl 1) (.fcons (.mp 2) (.fnil))), 184), some (.lst (.stru (.fcons (.int .i64) (.fcons (.str) (.fnil)))), 163), some (.kvs (.int .i64) (.bool), 144)]⟩
def lo_100_v1_4 : Exit → Live
  | .ret => [(2, none), (3, none)]
  | .exit 0 => []
  | _ => []
def B_100_v1_4 {R : Type} (N : Nat) (rec : ((Unit × Int × Unit) × ((Unit × (Unit × Unit)) × (List (Int × (ByteArray × Unit))) × (List (Int × Bool)) × Unit)) → Option R) (x : ((Unit × Int × Unit) × ((Unit × (Unit × Unit)) × (List (Int × (ByteArray × Unit))) × (List (Int × Bool)) × Unit))) (κ0 : ((Int × Int × Unit) × ((Unit × (Unit × Unit)) × (List (Int × (ByteArray × Unit))) × (List (Int × Bool)) × Unit)) → Option R) (κ1 : ((Unit) × ((Unit × (Unit × Unit)) × (List (Int × (ByteArray × Unit))) × (List (Int × Bool)) × Unit)) → Option R) : Option R :=
let i193 : Int := x.1.2.1
let l194 : (List (Int × (ByteArray × Unit))) := x.2.2.1
let m195 : (List (Int × Bool)) := x.2.2.2.1
bif (decide (i193 ≥ 0)) then (
bif decide (0 ≤ i193) then (
bif decide (i193 < ((List.length l194) : Int)) then (
let i196 : Int := (List.getD l194 ((Int.toNat i193)) (Sch.zero (.stru (.fcons (.int .i64) (.fcons (.str) (.fnil)))))).1
let b197 : Bool := Option.getD (kvGet (.int .i64) i196 m195) (Sch.zero (.bool))
bif (!b197) then (
κ0 ((i196, 0, ()), (((), ((), ())), l194, m195, ()))) else (
let i198 : Int := subA .i64 i193 1
rec (((), i198, ()), (((), ((), ())), l194, m195, ())))) else none) else none) else (
κ1 ((), (((), ((), ())), l194, m195, ())))
def l_100_v1_4 {R : Type} (N : Nat) : Nat → ((Unit × Int × Unit) × ((Unit × (Unit × Unit)) × (List (Int × (ByteArray × Unit))) × (List (Int × Bool)) × Unit)) → (((Int × Int × Unit) × ((Unit × (Unit × Unit)) × (List (Int × (ByteArray × Unit))) × (List (Int × Bool)) × Unit)) → Option R) → (((Unit) × ((Unit × (Unit × Unit)) × (List (Int × (ByteArray × Unit))) × (List (Int × Bool)) × Unit)) → Option R) → Option R
  | 0, _, _, _ => none
  | n + 1, x, κ0, κ1 => B_100_v1_4 N (fun y => l_100_v1_4 N n y κ0 κ1) x κ0 κ1
def ap_100_v1 : List Pat := [.ptr 0 []]
def hp_100_v1 : List (Option (Pat × Nat)) := [some (.node (.fcons (.sl 1) (.fcons (.mp 2) (.fnil))), 184), some (.lst (.stru (.fcons (.int .i64) (.fcons (.str) (.fnil)))), 163), some (.kvs (.int .i64) (.bool), 144)]
def p_100_v1 {R : Type} (N : Nat) (x : (Unit × Unit) × ((Unit × (Unit × Unit)) × (List (Int × (ByteArray × Unit))) × (List (Int × Bool)) × Unit)) (κ0 : ((Int × (Int × Unit)) × ((Unit × (Unit × Unit)) × (List (Int × (ByteArray × Unit))) × (List (Int × Bool)) × Unit)) → Option R) : Option R :=
let l189 : (List (Int × (ByteArray × Unit))) := x.2.2.1
let m190 : (List (Int × Bool)) := x.2.2.2.1
let i191 : Int := (((List.length l189) : Nat) : Int)
let i192 : Int := subA .i64 i191 1
l_100_v1_4 N N (((), i192, ()), (((), ((), ())), l189, m190, ())) (fun y199 =>
let i200 : Int := y199.1.1
let i201 : Int := y199.1.2.1
let l202 : (List (Int × (ByteArray × Unit))) := y199.2.2.1
let m203 : (List (Int × Bool)) := y199.2.2.2.1
κ0 ((i200, (i201, ())), (((), ((), ())), l202, m203, ()))) (fun y204 =>
let l205 : (List (Int × (ByteArray × Unit))) := y204.2.2.1
let m206 : (List (Int × Bool)) := y204.2.2.2.1
κ0 ((0, (11, ())), (((), ((), ())), l205, m206, ())))

abbrev Tl_100_v1_4 (R : Type) : Type := ((Unit × Int × Unit) × ((Unit × (Unit × Unit)) × (List (Int × (ByteArray × Unit))) × (List (Int × Bool)) × Unit)) → (((Int × Int × Unit) × ((Unit × (Unit × Unit)) × (List (Int × (ByteArray × Unit))) × (List (Int × Bool)) × Unit)) → Option R) → (((Unit) × ((Unit × (Unit × Unit)) × (List (Int × (ByteArray × Unit))) × (List (Int × Bool)) × Unit)) → Option R) → Option R
abbrev Tp_100_v1 (R : Type) : Type := (Unit × Unit) × ((Unit × (Unit × Unit)) × (List (Int × (ByteArray × Unit))) × (List (Int × Bool)) × Unit) → (((Int × (Int × Unit)) × ((Unit × (Unit × Unit)) × (List (Int × (ByteArray × Unit))) × (List (Int × Bool)) × Unit)) → Option R) → Option R
def Q_100_v1 {R : Type} (m_100_v1_4 : Tl_100_v1_4 R) (x : (Unit × Unit) × ((Unit × (Unit × Unit)) × (List (Int × (ByteArray × Unit))) × (List (Int × Bool)) × Unit)) (κ0 : ((Int × (Int × Unit)) × ((Unit × (Unit × Unit)) × (List (Int × (ByteArray × Unit))) × (List (Int × Bool)) × Unit)) → Option R) : Option R :=
let l189 : (List (Int × (ByteArray × Unit))) := x.2.2.1
let m190 : (List (Int × Bool)) := x.2.2.2.1
let i191 : Int := (((List.length l189) : Nat) : Int)
let i192 : Int := subA .i64 i191 1
m_100_v1_4 (((), i192, ()), (((), ((), ())), l189, m190, ())) (fun y199 =>
let i200 : Int := y199.1.1
let i201 : Int := y199.1.2.1
let l202 : (List (Int × (ByteArray × Unit))) := y199.2.2.1
let m203 : (List (Int × Bool)) := y199.2.2.2.1
κ0 ((i200, (i201, ())), (((), ((), ())), l202, m203, ()))) (fun y204 =>
let l205 : (List (Int × (ByteArray × Unit))) := y204.2.2.1
let m206 : (List (Int × Bool)) := y204.2.2.2.1
κ0 ((0, (11, ())), (((), ((), ())), l205, m206, ())))
def C_100_v1_4 {R : Type} (m_100_v1_4 : Tl_100_v1_4 R) (rec : ((Unit × Int × Unit) × ((Unit × (Unit × Unit)) × (List (Int × (ByteArray × Unit))) × (List (Int × Bool)) × Unit)) → Option R) (x : ((Unit × Int × Unit) × ((Unit × (Unit × Unit)) × (List (Int × (ByteArray × Unit))) × (List (Int × Bool)) × Unit))) (κ0 : ((Int × Int × Unit) × ((Unit × (Unit × Unit)) × (List (Int × (ByteArray × Unit))) × (List (Int × Bool)) × Unit)) → Option R) (κ1 : ((Unit) × ((Unit × (Unit × Unit)) × (List (Int × (ByteArray × Unit))) × (List (Int × Bool)) × Unit)) → Option R) : Option R :=
let i193 : Int := x.1.2.1
let l194 : (List (Int × (ByteArray × Unit))) := x.2.2.1
let m195 : (List (Int × Bool)) := x.2.2.2.1
bif (decide (i193 ≥ 0)) then (
bif decide (0 ≤ i193) then (
bif decide (i193 < ((List.length l194) : Int)) then (
let i196 : Int := (List.getD l194 ((Int.toNat i193)) (Sch.zero (.stru (.fcons (.int .i64) (.fcons (.str) (.fnil)))))).1
let b197 : Bool := Option.getD (kvGet (.int .i64) i196 m195) (Sch.zero (.bool))
bif (!b197) then (
κ0 ((i196, 0, ()), (((), ((), ())), l194, m195, ()))) else (
let i198 : Int := subA .i64 i193 1
rec (((), i198, ()), (((), ((), ())), l194, m195, ())))) else none) else none) else (
κ1 ((), (((), ((), ())), l194, m195, ())))
def EG_100_v1 {R : Type} : Env R := Env.base QQ LN
def LG_100_v1 {R : Type} (m_100_v1_4 : Tl_100_v1_4 R) : Loops R := (Loops.none).add 4 (loopBy 3 lv_100_v1_4 pt_100_v1_4 (fun x k => m_100_v1_4 x (fun y => k .ret (px_100_v1_4_0.inst y)) (fun y => k (.exit 0) (px_100_v1_4_1.inst y))))
def E_100_v1 {R : Type} (N : Nat) : Env R := EG_100_v1
theorem eok_100_v1 {R : Type} (N : Nat) : EK Try.prog (E_100_v1 (R := R) N) := ek_base _ _
def L_100_v1 {R : Type} (N : Nat) : Loops R := LG_100_v1 (l_100_v1_4 N N)
theorem gstep_100_v1_4 {R : Type} (m_100_v1_4 : Tl_100_v1_4 R) (n : Nat) (x : pt_100_v1_4.den) (k : Exit → St → Option R) : iter 3 lv_100_v1_4 lo_100_v1_4 (aexec TT (EG_100_v1) (drawOk TT QQ) (LG_100_v1 m_100_v1_4) (loopAt 4 (bodyOf Try.f100))) (n + 1) (pt_100_v1_4.inst x) k = C_100_v1_4 m_100_v1_4 (fun y => iter 3 lv_100_v1_4 lo_100_v1_4 (aexec TT (EG_100_v1) (drawOk TT QQ) (LG_100_v1 m_100_v1_4) (loopAt 4 (bodyOf Try.f100))) n (pt_100_v1_4.inst y) k) x (fun y => k .ret (px_100_v1_4_0.inst y)) (fun y => k (.exit 0) (px_100_v1_4_1.inst y)) := by kernel_rfl
theorem step_100_v1_4 {R : Type} (N n : Nat) (x : pt_100_v1_4.den) (k : Exit → St → Option R) : iter 3 lv_100_v1_4 lo_100_v1_4 (aexec TT (E_100_v1 (R := R) N) (drawOk TT QQ) (L_100_v1 N) (loopAt 4 (bodyOf Try.f100))) (n + 1) (pt_100_v1_4.inst x) k = B_100_v1_4 N (fun y => iter 3 lv_100_v1_4 lo_100_v1_4 (aexec TT (E_100_v1 (R := R) N) (drawOk TT QQ) (L_100_v1 N) (loopAt 4 (bodyOf Try.f100))) n (pt_100_v1_4.inst y) k) x (fun y => k .ret (px_100_v1_4_0.inst y)) (fun y => k (.exit 0) (px_100_v1_4_1.inst y)) := (gstep_100_v1_4 (l_100_v1_4 N N) n x k).trans (by kernel_rfl)
theorem eq_100_v1_4 {R : Type} (N : Nat) : ∀ (n : Nat) (x : pt_100_v1_4.den) (k : Exit → St → Option R), iter 3 lv_100_v1_4 lo_100_v1_4 (aexec TT (E_100_v1 (R := R) N) (drawOk TT QQ) (L_100_v1 N) (loopAt 4 (bodyOf Try.f100))) n (pt_100_v1_4.inst x) k = l_100_v1_4 N n x (fun y => k .ret (px_100_v1_4_0.inst y)) (fun y => k (.exit 0) (px_100_v1_4_1.inst y)) :=
  iter_eq (K := Exit → St → Option R) (ks := fun k => k) (l := fun n (x : pt_100_v1_4.den) k => l_100_v1_4 N n x (fun y => k .ret (px_100_v1_4_0.inst y)) (fun y => k (.exit 0) (px_100_v1_4_1.inst y))) (B := fun (rec : pt_100_v1_4.den → Option R) (x : pt_100_v1_4.den) k => B_100_v1_4 N rec x (fun y => k .ret (px_100_v1_4_0.inst y)) (fun y => k (.exit 0) (px_100_v1_4_1.inst y))) (fun _ _ => rfl) (fun _ _ _ => rfl) (fun n x k => step_100_v1_4 N n x k)
theorem rounds_100_v1_4 {R : Type} (N : Nat) : Rounds 3 TT (E_100_v1 (R := R) N) (drawOk TT QQ) (L_100_v1 N) 4 (loopAt 4 (bodyOf Try.f100)) :=
  rounds_of (p := pt_100_v1_4) (l := fun (x : pt_100_v1_4.den) k => l_100_v1_4 N N x (fun y => k .ret (px_100_v1_4_0.inst y)) (fun y => k (.exit 0) (px_100_v1_4_1.inst y))) (fun s k => rfl) (fun x k => eq_100_v1_4 N N x k)
theorem loops_100_v1 : loopsIn (bodyOf Try.f100) = [(4, loopAt 4 (bodyOf Try.f100))] := by kernel_rfl
theorem lok_100_v1 {R : Type} (N : Nat) : LOK 3 TT (E_100_v1 (R := R) N) (drawOk TT QQ) (L_100_v1 N) (bodyOf Try.f100) := loops_all loops_100_v1 (by
  simp only [List.forall_mem_cons, List.not_mem_nil, false_implies, implies_true, and_true]
  exact rounds_100_v1_4 N)
theorem grun_100_v1 {R : Type} (m_100_v1_4 : Tl_100_v1_4 R) (x : aden ap_100_v1 × hden hp_100_v1) (k : KF R) : fnrun TT (EG_100_v1) (drawOk TT QQ) (LG_100_v1 m_100_v1_4) true Try.f100 (instA ap_100_v1 x.1) (instH hp_100_v1 x.2) k = Q_100_v1 m_100_v1_4 x (fun y => k (Pat.inst (.tup (.fcons (.int .i64) (.fcons (.int .i64) (.fnil)))) y.1) (instH [some (.node (.fcons (.sl 1) (.fcons (.mp 2) (.fnil))), 184), some (.lst (.stru (.fcons (.int .i64) (.fcons (.str) (.fnil)))), 163), some (.kvs (.int .i64) (.bool), 144)] y.2)) := by kernel_rfl
theorem run_100_v1 {R : Type} (N : Nat) (x : aden ap_100_v1 × hden hp_100_v1) (k : KF R) : fnrun TT (E_100_v1 (R := R) N) (drawOk TT QQ) (L_100_v1 N) true Try.f100 (instA ap_100_v1 x.1) (instH hp_100_v1 x.2) k = p_100_v1 N x (fun y => k (Pat.inst (.tup (.fcons (.int .i64) (.fcons (.int .i64) (.fnil)))) y.1) (instH [some (.node (.fcons (.sl 1) (.fcons (.mp 2) (.fnil))), 184), some (.lst (.stru (.fcons (.int .i64) (.fcons (.str) (.fnil)))), 163), some (.kvs (.int .i64) (.bool), 144)] y.2)) := (grun_100_v1 (l_100_v1_4 N N) x k).trans (by kernel_rfl)
theorem good_100_v1 {R : Type} (N : Nat) : GD (X := R) Try.prog QQ 100 ap_100_v1 hp_100_v1 (fun (x : aden ap_100_v1 × hden hp_100_v1) k => p_100_v1 N x (fun y => k (Pat.inst (.tup (.fcons (.int .i64) (.fcons (.int .i64) (.fnil)))) y.1) (instH [some (.node (.fcons (.sl 1) (.fcons (.mp 2) (.fnil))), 184), some (.lst (.stru (.fcons (.int .i64) (.fcons (.str) (.fnil)))), 163), some (.kvs (.int .i64) (.bool), 144)] y.2))) :=
  gd_loud (E := E_100_v1 N) (p := fun (x : aden ap_100_v1 × hden hp_100_v1) k => p_100_v1 N x (fun y => k (Pat.inst (.tup (.fcons (.int .i64) (.fcons (.int .i64) (.fnil)))) y.1) (instH [some (.node (.fcons (.sl 1) (.fcons (.mp 2) (.fnil))), 184), some (.lst (.stru (.fcons (.int .i64) (.fcons (.str) (.fnil)))), 163), some (.kvs (.int .i64) (.bool), 144)] y.2))) mixed tyok (eok_100_v1 N) Try.func100 (by kernel_rfl) (by kernel_rfl) (by kernel_rfl) (lok_100_v1 N) (fun x k => run_100_v1 N x k)

def ap_65 : List Pat := []
def hp_65 : List (Option (Pat × Nat)) := []
def p_65 {R : Type} (N : Nat) (x : (Unit) × (Unit)) (κ0 : Bool → Option R) : Option R :=
p_66 N ((7, ⟨#[120]⟩, ()), ()) (fun y49 =>
let s50 : ByteArray := y49.1
let i51 : Int := y49.2.1
p_67 N ((⟨#[107, 48, 55, 58, 120]⟩, ()), ()) (fun y127 =>
let i128 : Int := y127.1
let s129 : ByteArray := y127.2.1
let i130 : Int := y127.2.2.1
p_98 N ((), ()) (fun y131 =>
let m132 : (List (Int × Bool)) := y131.2.2.1
let l133 : (List (Int × (ByteArray × Unit))) := [(7, (⟨#[48, 49, 50, 51, 52, 53, 54, 55, 56, 57, 97, 98, 99, 100, 101, 102]⟩, ()))]
p_99 N (((), (), ()), (((), ((), ())), m132, l133, ())) (fun y170 =>
let i171 : Int := y170.1
let m172 : (List (Int × Bool)) := y170.2.2.1
let l173 : (List (Int × (ByteArray × Unit))) := y170.2.2.2.1
p_100 N (((), ()), (((), ((), ())), m172, ())) (fun y180 =>
let i181 : Int := y180.1.1
let i182 : Int := y180.1.2.1
let m183 : (List (Int × Bool)) := y180.2.2.1
bif (eqS s50 (⟨#[107, 55, 58, 120]⟩)) then (
bif (i51 == 0) then (
bif (i130 == 7) then (
bif (i171 == 0) then (
bif (i181 == 7) then (
κ0 ((i182 == 0))) else (
κ0 false)) else (
κ0 false)) else (
κ0 false)) else (
κ0 false)) else (
κ0 false))) (fun y184 =>
let i185 : Int := y184.1
let m186 : (List (Int × Bool)) := y184.2.2.1
let l187 : (List (Int × (ByteArray × Unit))) := y184.2.2.2.1
let l188 : (List (Int × (ByteArray × Unit))) := y184.2.2.2.2.1
p_100_v1 N (((), ()), (((), ((), ())), l188, m186, ())) (fun y207 =>
let i208 : Int := y207.1.1
let i209 : Int := y207.1.2.1
let l210 : (List (Int × (ByteArray × Unit))) := y207.2.2.1
let m211 : (List (Int × Bool)) := y207.2.2.2.1
bif (eqS s50 (⟨#[107, 55, 58, 120]⟩)) then (
bif (i51 == 0) then (
bif (i130 == 7) then (
bif (i185 == 0) then (
bif (i208 == 7) then (
κ0 ((i209 == 0))) else (
κ0 false)) else (
κ0 false)) else (
κ0 false)) else (
κ0 false)) else (
κ0 false))))))

abbrev Tp_65 (R : Type) : Type := (Unit) × (Unit) → (Bool → Option R) → Option R
def Q_65 {R : Type} (q_66 : Tp_66 R) (q_67 : Tp_67 R) (q_98 : Tp_98 R) (q_99 : Tp_99 R) (q_100 : Tp_100 R) (q_100_v1 : Tp_100_v1 R) (x : (Unit) × (Unit)) (κ0 : Bool → Option R) : Option R :=
q_66 ((7, ⟨#[120]⟩, ()), ()) (fun y49 =>
let s50 : ByteArray := y49.1
let i51 : Int := y49.2.1
q_67 ((⟨#[107, 48, 55, 58, 120]⟩, ()), ()) (fun y127 =>
let i128 : Int := y127.1
let s129 : ByteArray := y127.2.1
let i130 : Int := y127.2.2.1
q_98 ((), ()) (fun y131 =>
let m132 : (List (Int × Bool)) := y131.2.2.1
let l133 : (List (Int × (ByteArray × Unit))) := [(7, (⟨#[48, 49, 50, 51, 52, 53, 54, 55, 56, 57, 97, 98, 99, 100, 101, 102]⟩, ()))]
q_99 (((), (), ()), (((), ((), ())), m132, l133, ())) (fun y170 =>
let i171 : Int := y170.1
let m172 : (List (Int × Bool)) := y170.2.2.1
let l173 : (List (Int × (ByteArray × Unit))) := y170.2.2.2.1
q_100 (((), ()), (((), ((), ())), m172, ())) (fun y180 =>
let i181 : Int := y180.1.1
let i182 : Int := y180.1.2.1
let m183 : (List (Int × Bool)) := y180.2.2.1
bif (eqS s50 (⟨#[107, 55, 58, 120]⟩)) then (
bif (i51 == 0) then (
bif (i130 == 7) then (
bif (i171 == 0) then (
bif (i181 == 7) then (
κ0 ((i182 == 0))) else (
κ0 false)) else (
κ0 false)) else (
κ0 false)) else (
κ0 false)) else (
κ0 false))) (fun y184 =>
let i185 : Int := y184.1
let m186 : (List (Int × Bool)) := y184.2.2.1
let l187 : (List (Int × (ByteArray × Unit))) := y184.2.2.2.1
let l188 : (List (Int × (ByteArray × Unit))) := y184.2.2.2.2.1
q_100_v1 (((), ()), (((), ((), ())), l188, m186, ())) (fun y207 =>
let i208 : Int := y207.1.1
let i209 : Int := y207.1.2.1
let l210 : (List (Int × (ByteArray × Unit))) := y207.2.2.1
let m211 : (List (Int × Bool)) := y207.2.2.2.1
bif (eqS s50 (⟨#[107, 55, 58, 120]⟩)) then (
bif (i51 == 0) then (
bif (i130 == 7) then (
bif (i185 == 0) then (
bif (i208 == 7) then (
κ0 ((i209 == 0))) else (
κ0 false)) else (
κ0 false)) else (
κ0 false)) else (
κ0 false)) else (
κ0 false))))))
def EG_65 {R : Type} (q_66 : Tp_66 R) (q_67 : Tp_67 R) (q_98 : Tp_98 R) (q_99 : Tp_99 R) (q_100 : Tp_100 R) (q_100_v1 : Tp_100_v1 R) : Env R := ((((((Env.base QQ LN).add 66 ap_66 hp_66 (fun (x : aden ap_66 × hden hp_66) k => q_66 x (fun y => k (Pat.inst (.tup (.fcons (.str) (.fcons (.int .i64) (.fnil)))) y) (instH hp_66 x.2)))).add 67 ap_67 hp_67 (fun (x : aden ap_67 × hden hp_67) k => q_67 x (fun y => k (Pat.inst (.tup (.fcons (.int .i64) (.fcons (.str) (.fcons (.int .i64) (.fnil))))) y) (instH hp_67 x.2)))).add 98 ap_98 hp_98 (fun (x : aden ap_98 × hden hp_98) k => q_98 x (fun y => k (Pat.inst (.ptr 0 []) y.1) (instH [some (.node (.fcons (.nils) (.fcons (.mp 1) (.fnil))), 184), some (.kvs (.int .i64) (.bool), 144)] y.2)))).add 99 ap_99 hp_99 (fun (x : aden ap_99 × hden hp_99) k => q_99 x (fun y => k (Pat.inst (.int .i64) y.1) (instH [some (.node (.fcons (.nils) (.fcons (.mp 1) (.fnil))), 184), some (.kvs (.int .i64) (.bool), 144), some (.lst (.stru (.fcons (.int .i64) (.fcons (.str) (.fnil)))), 163)] y.2)) (fun y => k (Pat.inst (.int .i64) y.1) (instH [some (.node (.fcons (.sl 3) (.fcons (.mp 1) (.fnil))), 184), some (.kvs (.int .i64) (.bool), 144), some (.lst (.stru (.fcons (.int .i64) (.fcons (.str) (.fnil)))), 163), some (.lst (.stru (.fcons (.int .i64) (.fcons (.str) (.fnil)))), 163)] y.2)))).add 100 ap_100 hp_100 (fun (x : aden ap_100 × hden hp_100) k => q_100 x (fun y => k (Pat.inst (.tup (.fcons (.int .i64) (.fcons (.int .i64) (.fnil)))) y.1) (instH [some (.node (.fcons (.nils) (.fcons (.mp 1) (.fnil))), 184), some (.kvs (.int .i64) (.bool), 144)] y.2)))).add 100 ap_100_v1 hp_100_v1 (fun (x : aden ap_100_v1 × hden hp_100_v1) k => q_100_v1 x (fun y => k (Pat.inst (.tup (.fcons (.int .i64) (.fcons (.int .i64) (.fnil)))) y.1) (instH [some (.node (.fcons (.sl 1) (.fcons (.mp 2) (.fnil))), 184), some (.lst (.stru (.fcons (.int .i64) (.fcons (.str) (.fnil)))), 163), some (.kvs (.int .i64) (.bool), 144)] y.2)))
def LG_65 {R : Type} : Loops R := Loops.none
def E_65 {R : Type} (N : Nat) : Env R := EG_65 (p_66 N) (p_67 N) (p_98 N) (p_99 N) (p_100 N) (p_100_v1 N)
theorem eok_65 {R : Type} (N : Nat) : EK Try.prog (E_65 (R := R) N) := ek_add (ek_add (ek_add (ek_add (ek_add (ek_add (ek_base _ _) (good_66 N)) (good_67 N)) (good_98 N)) (good_99 N)) (good_100 N)) (good_100_v1 N)
def L_65 {R : Type} (N : Nat) : Loops R := LG_65
theorem lok_65 {R : Type} (N : Nat) : LOK 0 TT (E_65 (R := R) N) (drawOk TT QQ) (L_65 N) (bodyOf Try.f65) := loops_nil (by kernel_rfl)
theorem grun_65 {R : Type} (q_66 : Tp_66 R) (q_67 : Tp_67 R) (q_98 : Tp_98 R) (q_99 : Tp_99 R) (q_100 : Tp_100 R) (q_100_v1 : Tp_100_v1 R) (x : aden ap_65 × hden hp_65) (k : KF R) : fnrun TT (EG_65 q_66 q_67 q_98 q_99 q_100 q_100_v1) (drawOk TT QQ) (LG_65) true Try.f65 (instA ap_65 x.1) (instH hp_65 x.2) k = Q_65 q_66 q_67 q_98 q_99 q_100 q_100_v1 x (fun y => k (Pat.inst (.bool) y) (instH hp_65 x.2)) := by kernel_rfl
theorem run_65 {R : Type} (N : Nat) (x : aden ap_65 × hden hp_65) (k : KF R) : fnrun TT (E_65 (R := R) N) (drawOk TT QQ) (L_65 N) true Try.f65 (instA ap_65 x.1) (instH hp_65 x.2) k = p_65 N x (fun y => k (Pat.inst (.bool) y) (instH hp_65 x.2)) := (grun_65 (p_66 N) (p_67 N) (p_98 N) (p_99 N) (p_100 N) (p_100_v1 N) x k).trans (by kernel_rfl)
theorem good_65 {R : Type} (N : Nat) : GD (X := R) Try.prog QQ 65 ap_65 hp_65 (fun (x : aden ap_65 × hden hp_65) k => p_65 N x (fun y => k (Pat.inst (.bool) y) (instH hp_65 x.2))) :=
  gd_quiet (E := E_65 N) (p := fun (x : aden ap_65 × hden hp_65) κ => p_65 N x (fun y => κ (Pat.inst (.bool) y))) mixed tyok (eok_65 N) Try.func65 (by kernel_rfl) (by kernel_rfl) (lok_65 N) (fun x k => run_65 N x k)

def lv_118_2 : Live := [(0, none), (3, none)]
def pt_118_2 : SPat := ⟨[(0, .str), (3, .int .i64)], []⟩
def px_118_2_0 : SPat := ⟨[(2, .bool)], []⟩
def px_118_2_1 : SPat := ⟨[], []⟩
def lo_118_2 : Exit → Live
  | .ret => [(2, none)]
  | .exit 0 => []
  | _ => []
def B_118_2 {R : Type} (N : Nat) (rec : ((ByteArray × Int × Unit) × (Unit)) → Option R) (x : ((ByteArray × Int × Unit) × (Unit))) (κ0 : ((Bool × Unit) × (Unit)) → Option R) (κ1 : ((Unit) × (Unit)) → Option R) : Option R :=
let s240 : ByteArray := x.1.1
let i241 : Int := x.1.2.1
let i242 : Int := ((ByteArray.size s240 : Nat) : Int)
bif (decide (i241 < i242)) then (
bif decide (0 ≤ i241) then (
bif decide (i241 < (ByteArray.size s240 : Int)) then (
let i243 : Int := byteAt s240 ((Int.toNat i241))
bif (decide (i243 < 48)) then (
κ0 ((false, ()), ())) else (
bif decide (0 ≤ i241) then (
bif decide (i241 < (ByteArray.size s240 : Int)) then (
let i244 : Int := byteAt s240 ((Int.toNat i241))
bif (decide (i244 > 57)) then (
κ0 ((false, ()), ())) else (
let i245 : Int := addA .i64 i241 1
rec ((s240, i245, ()), ()))) else none) else none)) else none) else none) else (
κ1 ((), ()))
def l_118_2 {R : Type} (N : Nat) : Nat → ((ByteArray × Int × Unit) × (Unit)) → (((Bool × Unit) × (Unit)) → Option R) → (((Unit) × (Unit)) → Option R) → Option R
  | 0, _, _, _ => none
  | n + 1, x, κ0, κ1 => B_118_2 N (fun y => l_118_2 N n y κ0 κ1) x κ0 κ1
def ap_118 : List Pat := [.str]
def hp_118 : List (Option (Pat × Nat)) := []
def p_118 {R : Type} (N : Nat) (x : (ByteArray × Unit) × (Unit)) (κ0 : Bool → Option R) : Option R :=
let s239 : ByteArray := x.1.1
l_118_2 N N ((s239, 0, ()), ()) (fun y246 =>
let b247 : Bool := y246.1.1
κ0 b247) (fun _ =>
κ0 true)

abbrev Tl_118_2 (R : Type) : Type := ((ByteArray × Int × Unit) × (Unit)) → (((Bool × Unit) × (Unit)) → Option R) → (((Unit) × (Unit)) → Option R) → Option R
abbrev Tp_118 (R : Type) : Type := (ByteArray × Unit) × (Unit) → (Bool → Option R) → Option R
def Q_118 {R : Type} (m_118_2 : Tl_118_2 R) (x : (ByteArray × Unit) × (Unit)) (κ0 : Bool → Option R) : Option R :=
let s239 : ByteArray := x.1.1
m_118_2 ((s239, 0, ()), ()) (fun y246 =>
let b247 : Bool := y246.1.1
κ0 b247) (fun _ =>
κ0 true)
def C_118_2 {R : Type} (m_118_2 : Tl_118_2 R) (rec : ((ByteArray × Int × Unit) × (Unit)) → Option R) (x : ((ByteArray × Int × Unit) × (Unit))) (κ0 : ((Bool × Unit) × (Unit)) → Option R) (κ1 : ((Unit) × (Unit)) → Option R) : Option R :=
let s240 : ByteArray := x.1.1
let i241 : Int := x.1.2.1
let i242 : Int := ((ByteArray.size s240 : Nat) : Int)
bif (decide (i241 < i242)) then (
bif decide (0 ≤ i241) then (
bif decide (i241 < (ByteArray.size s240 : Int)) then (
let i243 : Int := byteAt s240 ((Int.toNat i241))
bif (decide (i243 < 48)) then (
κ0 ((false, ()), ())) else (
bif decide (0 ≤ i241) then (
bif decide (i241 < (ByteArray.size s240 : Int)) then (
let i244 : Int := byteAt s240 ((Int.toNat i241))
bif (decide (i244 > 57)) then (
κ0 ((false, ()), ())) else (
let i245 : Int := addA .i64 i241 1
rec ((s240, i245, ()), ()))) else none) else none)) else none) else none) else (
κ1 ((), ()))
def EG_118 {R : Type} : Env R := Env.base QQ LN
def LG_118 {R : Type} (m_118_2 : Tl_118_2 R) : Loops R := (Loops.none).add 2 (loopBy 0 lv_118_2 pt_118_2 (fun x k => m_118_2 x (fun y => k .ret (px_118_2_0.inst y)) (fun y => k (.exit 0) (px_118_2_1.inst y))))
def E_118 {R : Type} (N : Nat) : Env R := EG_118
theorem eok_118 {R : Type} (N : Nat) : EK Try.prog (E_118 (R := R) N) := ek_base _ _
def L_118 {R : Type} (N : Nat) : Loops R := LG_118 (l_118_2 N N)
theorem gstep_118_2 {R : Type} (m_118_2 : Tl_118_2 R) (n : Nat) (x : pt_118_2.den) (k : Exit → St → Option R) : iter 0 lv_118_2 lo_118_2 (aexec TT (EG_118) (drawOk TT QQ) (LG_118 m_118_2) (loopAt 2 (bodyOf Try.f118))) (n + 1) (pt_118_2.inst x) k = C_118_2 m_118_2 (fun y => iter 0 lv_118_2 lo_118_2 (aexec TT (EG_118) (drawOk TT QQ) (LG_118 m_118_2) (loopAt 2 (bodyOf Try.f118))) n (pt_118_2.inst y) k) x (fun y => k .ret (px_118_2_0.inst y)) (fun y => k (.exit 0) (px_118_2_1.inst y)) := by kernel_rfl
theorem step_118_2 {R : Type} (N n : Nat) (x : pt_118_2.den) (k : Exit → St → Option R) : iter 0 lv_118_2 lo_118_2 (aexec TT (E_118 (R := R) N) (drawOk TT QQ) (L_118 N) (loopAt 2 (bodyOf Try.f118))) (n + 1) (pt_118_2.inst x) k = B_118_2 N (fun y => iter 0 lv_118_2 lo_118_2 (aexec TT (E_118 (R := R) N) (drawOk TT QQ) (L_118 N) (loopAt 2 (bodyOf Try.f118))) n (pt_118_2.inst y) k) x (fun y => k .ret (px_118_2_0.inst y)) (fun y => k (.exit 0) (px_118_2_1.inst y)) := (gstep_118_2 (l_118_2 N N) n x k).trans (by kernel_rfl)
theorem eq_118_2 {R : Type} (N : Nat) : ∀ (n : Nat) (x : pt_118_2.den) (k : Exit → St → Option R), iter 0 lv_118_2 lo_118_2 (aexec TT (E_118 (R := R) N) (drawOk TT QQ) (L_118 N) (loopAt 2 (bodyOf Try.f118))) n (pt_118_2.inst x) k = l_118_2 N n x (fun y => k .ret (px_118_2_0.inst y)) (fun y => k (.exit 0) (px_118_2_1.inst y)) :=
  iter_eq (K := Exit → St → Option R) (ks := fun k => k) (l := fun n (x : pt_118_2.den) k => l_118_2 N n x (fun y => k .ret (px_118_2_0.inst y)) (fun y => k (.exit 0) (px_118_2_1.inst y))) (B := fun (rec : pt_118_2.den → Option R) (x : pt_118_2.den) k => B_118_2 N rec x (fun y => k .ret (px_118_2_0.inst y)) (fun y => k (.exit 0) (px_118_2_1.inst y))) (fun _ _ => rfl) (fun _ _ _ => rfl) (fun n x k => step_118_2 N n x k)
theorem rounds_118_2 {R : Type} (N : Nat) : Rounds 0 TT (E_118 (R := R) N) (drawOk TT QQ) (L_118 N) 2 (loopAt 2 (bodyOf Try.f118)) :=
  rounds_of (p := pt_118_2) (l := fun (x : pt_118_2.den) k => l_118_2 N N x (fun y => k .ret (px_118_2_0.inst y)) (fun y => k (.exit 0) (px_118_2_1.inst y))) (fun s k => rfl) (fun x k => eq_118_2 N N x k)
theorem loops_118 : loopsIn (bodyOf Try.f118) = [(2, loopAt 2 (bodyOf Try.f118))] := by kernel_rfl
theorem lok_118 {R : Type} (N : Nat) : LOK 0 TT (E_118 (R := R) N) (drawOk TT QQ) (L_118 N) (bodyOf Try.f118) := loops_all loops_118 (by
  simp only [List.forall_mem_cons, List.not_mem_nil, false_implies, implies_true, and_true]
  exact rounds_118_2 N)
theorem grun_118 {R : Type} (m_118_2 : Tl_118_2 R) (x : aden ap_118 × hden hp_118) (k : KF R) : fnrun TT (EG_118) (drawOk TT QQ) (LG_118 m_118_2) true Try.f118 (instA ap_118 x.1) (instH hp_118 x.2) k = Q_118 m_118_2 x (fun y => k (Pat.inst (.bool) y) (instH hp_118 x.2)) := by kernel_rfl
theorem run_118 {R : Type} (N : Nat) (x : aden ap_118 × hden hp_118) (k : KF R) : fnrun TT (E_118 (R := R) N) (drawOk TT QQ) (L_118 N) true Try.f118 (instA ap_118 x.1) (instH hp_118 x.2) k = p_118 N x (fun y => k (Pat.inst (.bool) y) (instH hp_118 x.2)) := (grun_118 (l_118_2 N N) x k).trans (by kernel_rfl)
theorem good_118 {R : Type} (N : Nat) : GD (X := R) Try.prog QQ 118 ap_118 hp_118 (fun (x : aden ap_118 × hden hp_118) k => p_118 N x (fun y => k (Pat.inst (.bool) y) (instH hp_118 x.2))) :=
  gd_quiet (E := E_118 N) (p := fun (x : aden ap_118 × hden hp_118) κ => p_118 N x (fun y => κ (Pat.inst (.bool) y))) mixed tyok (eok_118 N) Try.func118 (by kernel_rfl) (by kernel_rfl) (lok_118 N) (fun x k => run_118 N x k)

def lv_103_7 : Live := [(0, none), (4, none), (5, none)]
def pt_103_7 : SPat := ⟨[(0, .str), (4, .int .i64), (5, .int .i64)], []⟩
def px_103_7_0 : SPat := ⟨[(2, .int .i64), (3, .int .i64)], []⟩
def px_103_7_1 : SPat := ⟨[(4, .int .i64)], []⟩
def lo_103_7 : Exit → Live
  | .ret => [(2, none), (3, none)]
  | .exit 0 => [(4, none)]
  | _ => []
def B_103_7 {R : Type} (N : Nat) (rec : ((ByteArray × Int × Int × Unit) × (Unit)) → Option R) (x : ((ByteArray × Int × Int × Unit) × (Unit))) (κ0 : ((Int × Int × Unit) × (Unit)) → Option R) (κ1 : ((Int × Unit) × (Unit)) → Option R) : Option R :=
let s272 : ByteArray := x.1.1
let i273 : Int := x.1.2.1
let i274 : Int := x.1.2.2.1
let i275 : Int := ((ByteArray.size s272 : Nat) : Int)
bif (decide (i274 < i275)) then (
bif decide (0 ≤ i274) then (
bif decide (i274 < (ByteArray.size s272 : Int)) then (
let i276 : Int := byteAt s272 ((Int.toNat i274))
let i277 : Int := subA .u8 i276 48
let i278 : Int := IntKind.wrap .i64 i277
bif (decide (i273 > 461168601842738790)) then (
κ0 ((0, 10, ()), ())) else (
bif (i273 == 461168601842738790) then (
bif (decide (i278 > 4)) then (
κ0 ((0, 10, ()), ())) else (
let i279 : Int := mulA .i64 10 i273
let i280 : Int := addA .i64 i279 i278
let i281 : Int := addA .i64 i274 1
rec ((s272, i280, i281, ()), ()))) else (
let i282 : Int := mulA .i64 10 i273
let i283 : Int := addA .i64 i282 i278
let i284 : Int := addA .i64 i274 1
rec ((s272, i283, i284, ()), ())))) else none) else none) else (
κ1 ((i273, ()), ()))
def l_103_7 {R : Type} (N : Nat) : Nat → ((ByteArray × Int × Int × Unit) × (Unit)) → (((Int × Int × Unit) × (Unit)) → Option R) → (((Int × Unit) × (Unit)) → Option R) → Option R
  | 0, _, _, _ => none
  | n + 1, x, κ0, κ1 => B_103_7 N (fun y => l_103_7 N n y κ0 κ1) x κ0 κ1
def ap_103 : List Pat := [.str]
def hp_103 : List (Option (Pat × Nat)) := []
def p_103 {R : Type} (N : Nat) (x : (ByteArray × Unit) × (Unit)) (κ0 : (Int × (Int × Unit)) → Option R) : Option R :=
let s238 : ByteArray := x.1.1
bif (eqS s238 (⟨#[]⟩)) then (
κ0 ((0, (7, ())))) else (
p_118 N ((s238, ()), ()) (fun y249 =>
let b250 : Bool := y249
bif (!b250) then (
κ0 ((0, (7, ())))) else (
bif decide (0 < (ByteArray.size s238 : Int)) then (
let i251 : Int := byteAt s238 0
bif (i251 == 48) then (
bif (!eqS s238 (⟨#[48]⟩)) then (
κ0 ((0, (7, ())))) else (
let i252 : Int := ((ByteArray.size s238 : Nat) : Int)
bif (decide (i252 > 19)) then (
κ0 ((0, (10, ())))) else (
l_103_7 N N ((s238, 0, 0, ()), ()) (fun y266 =>
let i267 : Int := y266.1.1
let i268 : Int := y266.1.2.1
κ0 ((i267, (i268, ())))) (fun y269 =>
let i270 : Int := y269.1.1
κ0 ((i270, (0, ()))))))) else (
let i271 : Int := ((ByteArray.size s238 : Nat) : Int)
bif (decide (i271 > 19)) then (
κ0 ((0, (10, ())))) else (
l_103_7 N N ((s238, 0, 0, ()), ()) (fun y285 =>
let i286 : Int := y285.1.1
let i287 : Int := y285.1.2.1
κ0 ((i286, (i287, ())))) (fun y288 =>
let i289 : Int := y288.1.1
κ0 ((i289, (0, ()))))))) else none)))

abbrev Tl_103_7 (R : Type) : Type := ((ByteArray × Int × Int × Unit) × (Unit)) → (((Int × Int × Unit) × (Unit)) → Option R) → (((Int × Unit) × (Unit)) → Option R) → Option R
abbrev Tp_103 (R : Type) : Type := (ByteArray × Unit) × (Unit) → ((Int × (Int × Unit)) → Option R) → Option R
def Q_103 {R : Type} (q_118 : Tp_118 R) (m_103_7 : Tl_103_7 R) (x : (ByteArray × Unit) × (Unit)) (κ0 : (Int × (Int × Unit)) → Option R) : Option R :=
let s238 : ByteArray := x.1.1
bif (eqS s238 (⟨#[]⟩)) then (
κ0 ((0, (7, ())))) else (
q_118 ((s238, ()), ()) (fun y249 =>
let b250 : Bool := y249
bif (!b250) then (
κ0 ((0, (7, ())))) else (
bif decide (0 < (ByteArray.size s238 : Int)) then (
let i251 : Int := byteAt s238 0
bif (i251 == 48) then (
bif (!eqS s238 (⟨#[48]⟩)) then (
κ0 ((0, (7, ())))) else (
let i252 : Int := ((ByteArray.size s238 : Nat) : Int)
bif (decide (i252 > 19)) then (
κ0 ((0, (10, ())))) else (
m_103_7 ((s238, 0, 0, ()), ()) (fun y266 =>
let i267 : Int := y266.1.1
let i268 : Int := y266.1.2.1
κ0 ((i267, (i268, ())))) (fun y269 =>
let i270 : Int := y269.1.1
κ0 ((i270, (0, ()))))))) else (
let i271 : Int := ((ByteArray.size s238 : Nat) : Int)
bif (decide (i271 > 19)) then (
κ0 ((0, (10, ())))) else (
m_103_7 ((s238, 0, 0, ()), ()) (fun y285 =>
let i286 : Int := y285.1.1
let i287 : Int := y285.1.2.1
κ0 ((i286, (i287, ())))) (fun y288 =>
let i289 : Int := y288.1.1
κ0 ((i289, (0, ()))))))) else none)))
def C_103_7 {R : Type} (q_118 : Tp_118 R) (m_103_7 : Tl_103_7 R) (rec : ((ByteArray × Int × Int × Unit) × (Unit)) → Option R) (x : ((ByteArray × Int × Int × Unit) × (Unit))) (κ0 : ((Int × Int × Unit) × (Unit)) → Option R) (κ1 : ((Int × Unit) × (Unit)) → Option R) : Option R :=
let s272 : ByteArray := x.1.1
let i273 : Int := x.1.2.1
let i274 : Int := x.1.2.2.1
let i275 : Int := ((ByteArray.size s272 : Nat) : Int)
bif (decide (i274 < i275)) then (
bif decide (0 ≤ i274) then (
bif decide (i274 < (ByteArray.size s272 : Int)) then (
let i276 : Int := byteAt s272 ((Int.toNat i274))
let i277 : Int := subA .u8 i276 48
let i278 : Int := IntKind.wrap .i64 i277
bif (decide (i273 > 461168601842738790)) then (
κ0 ((0, 10, ()), ())) else (
bif (i273 == 461168601842738790) then (
bif (decide (i278 > 4)) then (
κ0 ((0, 10, ()), ())) else (
let i279 : Int := mulA .i64 10 i273
let i280 : Int := addA .i64 i279 i278
let i281 : Int := addA .i64 i274 1
rec ((s272, i280, i281, ()), ()))) else (
let i282 : Int := mulA .i64 10 i273
let i283 : Int := addA .i64 i282 i278
let i284 : Int := addA .i64 i274 1
rec ((s272, i283, i284, ()), ())))) else none) else none) else (
κ1 ((i273, ()), ()))
def EG_103 {R : Type} (q_118 : Tp_118 R) : Env R := (Env.base QQ LN).add 118 ap_118 hp_118 (fun (x : aden ap_118 × hden hp_118) k => q_118 x (fun y => k (Pat.inst (.bool) y) (instH hp_118 x.2)))
def LG_103 {R : Type} (m_103_7 : Tl_103_7 R) : Loops R := (Loops.none).add 7 (loopBy 0 lv_103_7 pt_103_7 (fun x k => m_103_7 x (fun y => k .ret (px_103_7_0.inst y)) (fun y => k (.exit 0) (px_103_7_1.inst y))))
def E_103 {R : Type} (N : Nat) : Env R := EG_103 (p_118 N)
theorem eok_103 {R : Type} (N : Nat) : EK Try.prog (E_103 (R := R) N) := ek_add (ek_base _ _) (good_118 N)
def L_103 {R : Type} (N : Nat) : Loops R := LG_103 (l_103_7 N N)
theorem gstep_103_7 {R : Type} (q_118 : Tp_118 R) (m_103_7 : Tl_103_7 R) (n : Nat) (x : pt_103_7.den) (k : Exit → St → Option R) : iter 0 lv_103_7 lo_103_7 (aexec TT (EG_103 q_118) (drawOk TT QQ) (LG_103 m_103_7) (loopAt 7 (bodyOf Try.f103))) (n + 1) (pt_103_7.inst x) k = C_103_7 q_118 m_103_7 (fun y => iter 0 lv_103_7 lo_103_7 (aexec TT (EG_103 q_118) (drawOk TT QQ) (LG_103 m_103_7) (loopAt 7 (bodyOf Try.f103))) n (pt_103_7.inst y) k) x (fun y => k .ret (px_103_7_0.inst y)) (fun y => k (.exit 0) (px_103_7_1.inst y)) := by kernel_rfl
theorem step_103_7 {R : Type} (N n : Nat) (x : pt_103_7.den) (k : Exit → St → Option R) : iter 0 lv_103_7 lo_103_7 (aexec TT (E_103 (R := R) N) (drawOk TT QQ) (L_103 N) (loopAt 7 (bodyOf Try.f103))) (n + 1) (pt_103_7.inst x) k = B_103_7 N (fun y => iter 0 lv_103_7 lo_103_7 (aexec TT (E_103 (R := R) N) (drawOk TT QQ) (L_103 N) (loopAt 7 (bodyOf Try.f103))) n (pt_103_7.inst y) k) x (fun y => k .ret (px_103_7_0.inst y)) (fun y => k (.exit 0) (px_103_7_1.inst y)) := (gstep_103_7 (p_118 N) (l_103_7 N N) n x k).trans (by kernel_rfl)
theorem eq_103_7 {R : Type} (N : Nat) : ∀ (n : Nat) (x : pt_103_7.den) (k : Exit → St → Option R), iter 0 lv_103_7 lo_103_7 (aexec TT (E_103 (R := R) N) (drawOk TT QQ) (L_103 N) (loopAt 7 (bodyOf Try.f103))) n (pt_103_7.inst x) k = l_103_7 N n x (fun y => k .ret (px_103_7_0.inst y)) (fun y => k (.exit 0) (px_103_7_1.inst y)) :=
  iter_eq (K := Exit → St → Option R) (ks := fun k => k) (l := fun n (x : pt_103_7.den) k => l_103_7 N n x (fun y => k .ret (px_103_7_0.inst y)) (fun y => k (.exit 0) (px_103_7_1.inst y))) (B := fun (rec : pt_103_7.den → Option R) (x : pt_103_7.den) k => B_103_7 N rec x (fun y => k .ret (px_103_7_0.inst y)) (fun y => k (.exit 0) (px_103_7_1.inst y))) (fun _ _ => rfl) (fun _ _ _ => rfl) (fun n x k => step_103_7 N n x k)
theorem rounds_103_7 {R : Type} (N : Nat) : Rounds 0 TT (E_103 (R := R) N) (drawOk TT QQ) (L_103 N) 7 (loopAt 7 (bodyOf Try.f103)) :=
  rounds_of (p := pt_103_7) (l := fun (x : pt_103_7.den) k => l_103_7 N N x (fun y => k .ret (px_103_7_0.inst y)) (fun y => k (.exit 0) (px_103_7_1.inst y))) (fun s k => rfl) (fun x k => eq_103_7 N N x k)
theorem loops_103 : loopsIn (bodyOf Try.f103) = [(7, loopAt 7 (bodyOf Try.f103))] := by kernel_rfl
theorem lok_103 {R : Type} (N : Nat) : LOK 0 TT (E_103 (R := R) N) (drawOk TT QQ) (L_103 N) (bodyOf Try.f103) := loops_all loops_103 (by
  simp only [List.forall_mem_cons, List.not_mem_nil, false_implies, implies_true, and_true]
  exact rounds_103_7 N)
theorem grun_103 {R : Type} (q_118 : Tp_118 R) (m_103_7 : Tl_103_7 R) (x : aden ap_103 × hden hp_103) (k : KF R) : fnrun TT (EG_103 q_118) (drawOk TT QQ) (LG_103 m_103_7) true Try.f103 (instA ap_103 x.1) (instH hp_103 x.2) k = Q_103 q_118 m_103_7 x (fun y => k (Pat.inst (.tup (.fcons (.int .i64) (.fcons (.int .i64) (.fnil)))) y) (instH hp_103 x.2)) := by kernel_rfl
theorem run_103 {R : Type} (N : Nat) (x : aden ap_103 × hden hp_103) (k : KF R) : fnrun TT (E_103 (R := R) N) (drawOk TT QQ) (L_103 N) true Try.f103 (instA ap_103 x.1) (instH hp_103 x.2) k = p_103 N x (fun y => k (Pat.inst (.tup (.fcons (.int .i64) (.fcons (.int .i64) (.fnil)))) y) (instH hp_103 x.2)) := (grun_103 (p_118 N) (l_103_7 N N) x k).trans (by kernel_rfl)
theorem good_103 {R : Type} (N : Nat) : GD (X := R) Try.prog QQ 103 ap_103 hp_103 (fun (x : aden ap_103 × hden hp_103) k => p_103 N x (fun y => k (Pat.inst (.tup (.fcons (.int .i64) (.fcons (.int .i64) (.fnil)))) y) (instH hp_103 x.2))) :=
  gd_quiet (E := E_103 N) (p := fun (x : aden ap_103 × hden hp_103) κ => p_103 N x (fun y => κ (Pat.inst (.tup (.fcons (.int .i64) (.fcons (.int .i64) (.fnil)))) y))) mixed tyok (eok_103 N) Try.func103 (by kernel_rfl) (by kernel_rfl) (lok_103 N) (fun x k => run_103 N x k)

def lv_68_5 : Live := [(0, none), (5, none), (6, none)]
def pt_68_5 : SPat := ⟨[(0, .str), (5, .int .i64), (6, .int .i64)], []⟩
def px_68_5_0 : SPat := ⟨[(0, .str), (5, .int .i64)], []⟩
def lo_68_5 : Exit → Live
  | .exit 0 => [(0, none), (5, none)]
  | _ => []
def B_68_5 {R : Type} (N : Nat) (rec : ((ByteArray × Int × Int × Unit) × (Unit)) → Option R) (x : ((ByteArray × Int × Int × Unit) × (Unit))) (κ0 : ((ByteArray × Int × Unit) × (Unit)) → Option R) : Option R :=
let s228 : ByteArray := x.1.1
let i229 : Int := x.1.2.1
let i230 : Int := x.1.2.2.1
bif (decide (i230 > 0)) then (
bif decide (0 ≤ i230) then (
bif decide (i230 < (ByteArray.size s228 : Int)) then (
let i231 : Int := byteAt s228 ((Int.toNat i230))
bif (i231 == 58) then (
let i232 : Int := subA .i64 i230 1
rec ((s228, i230, i232, ()), ())) else (
let i233 : Int := subA .i64 i230 1
rec ((s228, i229, i233, ()), ()))) else none) else none) else (
κ0 ((s228, i229, ()), ()))
def l_68_5 {R : Type} (N : Nat) : Nat → ((ByteArray × Int × Int × Unit) × (Unit)) → (((ByteArray × Int × Unit) × (Unit)) → Option R) → Option R
  | 0, _, _ => none
  | n + 1, x, κ0 => B_68_5 N (fun y => l_68_5 N n y κ0) x κ0
def ap_68 : List Pat := [.str]
def hp_68 : List (Option (Pat × Nat)) := []
def p_68 {R : Type} (N : Nat) (x : (ByteArray × Unit) × (Unit)) (κ0 : (Int × (ByteArray × (Int × Unit))) → Option R) : Option R :=
let s223 : ByteArray := x.1.1
let i224 : Int := ((ByteArray.size s223 : Nat) : Int)
bif (i224 == 0) then (
κ0 ((0, (⟨#[]⟩, (5, ()))))) else (
bif decide (0 < (ByteArray.size s223 : Int)) then (
let i225 : Int := byteAt s223 0
bif (i225 != 107) then (
κ0 ((0, (⟨#[]⟩, (5, ()))))) else (
let i226 : Int := ((ByteArray.size s223 : Nat) : Int)
let i227 : Int := subA .i64 i226 1
l_68_5 N N ((s223, 0, i227, ()), ()) (fun y234 =>
let s235 : ByteArray := y234.1.1
let i236 : Int := y234.1.2.1
bif (i236 == 0) then (
κ0 ((0, (⟨#[]⟩, (5, ()))))) else (
bif decide (0 ≤ i236) then (
bif decide (i236 ≤ ((ByteArray.size s235 : Nat) : Int)) then (
bif decide (1 ≤ i236) then (
let s237 : ByteArray := ByteArray.extract s235 1 ((Int.toNat i236))
p_103 N ((s237, ()), ()) (fun y290 =>
let i291 : Int := y290.1
let i292 : Int := y290.2.1
bif (i292 != 0) then (
κ0 ((0, (⟨#[]⟩, (i292, ()))))) else (
bif (decide (i291 < 1)) then (
κ0 ((0, (⟨#[]⟩, (2, ()))))) else (
bif (decide (i291 > 999)) then (
κ0 ((0, (⟨#[]⟩, (2, ()))))) else (
let i293 : Int := addA .i64 i236 1
bif decide (0 ≤ ((ByteArray.size s235 : Nat) : Int)) then (
bif decide (((ByteArray.size s235 : Nat) : Int) ≤ ((ByteArray.size s235 : Nat) : Int)) then (
bif decide (0 ≤ i293) then (
bif decide (i293 ≤ ((ByteArray.size s235 : Nat) : Int)) then (
let s294 : ByteArray := ByteArray.extract s235 ((Int.toNat i293)) (ByteArray.size s235)
κ0 ((i291, (s294, (0, ()))))) else none) else none) else none) else none))))) else none) else none) else none)))) else none)

abbrev Tl_68_5 (R : Type) : Type := ((ByteArray × Int × Int × Unit) × (Unit)) → (((ByteArray × Int × Unit) × (Unit)) → Option R) → Option R
abbrev Tp_68 (R : Type) : Type := (ByteArray × Unit) × (Unit) → ((Int × (ByteArray × (Int × Unit))) → Option R) → Option R
def Q_68 {R : Type} (q_103 : Tp_103 R) (m_68_5 : Tl_68_5 R) (x : (ByteArray × Unit) × (Unit)) (κ0 : (Int × (ByteArray × (Int × Unit))) → Option R) : Option R :=
let s223 : ByteArray := x.1.1
let i224 : Int := ((ByteArray.size s223 : Nat) : Int)
bif (i224 == 0) then (
κ0 ((0, (⟨#[]⟩, (5, ()))))) else (
bif decide (0 < (ByteArray.size s223 : Int)) then (
let i225 : Int := byteAt s223 0
bif (i225 != 107) then (
κ0 ((0, (⟨#[]⟩, (5, ()))))) else (
let i226 : Int := ((ByteArray.size s223 : Nat) : Int)
let i227 : Int := subA .i64 i226 1
m_68_5 ((s223, 0, i227, ()), ()) (fun y234 =>
let s235 : ByteArray := y234.1.1
let i236 : Int := y234.1.2.1
bif (i236 == 0) then (
κ0 ((0, (⟨#[]⟩, (5, ()))))) else (
bif decide (0 ≤ i236) then (
bif decide (i236 ≤ ((ByteArray.size s235 : Nat) : Int)) then (
bif decide (1 ≤ i236) then (
let s237 : ByteArray := ByteArray.extract s235 1 ((Int.toNat i236))
q_103 ((s237, ()), ()) (fun y290 =>
let i291 : Int := y290.1
let i292 : Int := y290.2.1
bif (i292 != 0) then (
κ0 ((0, (⟨#[]⟩, (i292, ()))))) else (
bif (decide (i291 < 1)) then (
κ0 ((0, (⟨#[]⟩, (2, ()))))) else (
bif (decide (i291 > 999)) then (
κ0 ((0, (⟨#[]⟩, (2, ()))))) else (
let i293 : Int := addA .i64 i236 1
bif decide (0 ≤ ((ByteArray.size s235 : Nat) : Int)) then (
bif decide (((ByteArray.size s235 : Nat) : Int) ≤ ((ByteArray.size s235 : Nat) : Int)) then (
bif decide (0 ≤ i293) then (
bif decide (i293 ≤ ((ByteArray.size s235 : Nat) : Int)) then (
let s294 : ByteArray := ByteArray.extract s235 ((Int.toNat i293)) (ByteArray.size s235)
κ0 ((i291, (s294, (0, ()))))) else none) else none) else none) else none))))) else none) else none) else none)))) else none)
def C_68_5 {R : Type} (q_103 : Tp_103 R) (m_68_5 : Tl_68_5 R) (rec : ((ByteArray × Int × Int × Unit) × (Unit)) → Option R) (x : ((ByteArray × Int × Int × Unit) × (Unit))) (κ0 : ((ByteArray × Int × Unit) × (Unit)) → Option R) : Option R :=
let s228 : ByteArray := x.1.1
let i229 : Int := x.1.2.1
let i230 : Int := x.1.2.2.1
bif (decide (i230 > 0)) then (
bif decide (0 ≤ i230) then (
bif decide (i230 < (ByteArray.size s228 : Int)) then (
let i231 : Int := byteAt s228 ((Int.toNat i230))
bif (i231 == 58) then (
let i232 : Int := subA .i64 i230 1
rec ((s228, i230, i232, ()), ())) else (
let i233 : Int := subA .i64 i230 1
rec ((s228, i229, i233, ()), ()))) else none) else none) else (
κ0 ((s228, i229, ()), ()))
def EG_68 {R : Type} (q_103 : Tp_103 R) : Env R := (Env.base QQ LN).add 103 ap_103 hp_103 (fun (x : aden ap_103 × hden hp_103) k => q_103 x (fun y => k (Pat.inst (.tup (.fcons (.int .i64) (.fcons (.int .i64) (.fnil)))) y) (instH hp_103 x.2)))
def LG_68 {R : Type} (m_68_5 : Tl_68_5 R) : Loops R := (Loops.none).add 5 (loopBy 0 lv_68_5 pt_68_5 (fun x k => m_68_5 x (fun y => k (.exit 0) (px_68_5_0.inst y))))
def E_68 {R : Type} (N : Nat) : Env R := EG_68 (p_103 N)
theorem eok_68 {R : Type} (N : Nat) : EK Try.prog (E_68 (R := R) N) := ek_add (ek_base _ _) (good_103 N)
def L_68 {R : Type} (N : Nat) : Loops R := LG_68 (l_68_5 N N)
theorem gstep_68_5 {R : Type} (q_103 : Tp_103 R) (m_68_5 : Tl_68_5 R) (n : Nat) (x : pt_68_5.den) (k : Exit → St → Option R) : iter 0 lv_68_5 lo_68_5 (aexec TT (EG_68 q_103) (drawOk TT QQ) (LG_68 m_68_5) (loopAt 5 (bodyOf Try.f68))) (n + 1) (pt_68_5.inst x) k = C_68_5 q_103 m_68_5 (fun y => iter 0 lv_68_5 lo_68_5 (aexec TT (EG_68 q_103) (drawOk TT QQ) (LG_68 m_68_5) (loopAt 5 (bodyOf Try.f68))) n (pt_68_5.inst y) k) x (fun y => k (.exit 0) (px_68_5_0.inst y)) := by kernel_rfl
theorem step_68_5 {R : Type} (N n : Nat) (x : pt_68_5.den) (k : Exit → St → Option R) : iter 0 lv_68_5 lo_68_5 (aexec TT (E_68 (R := R) N) (drawOk TT QQ) (L_68 N) (loopAt 5 (bodyOf Try.f68))) (n + 1) (pt_68_5.inst x) k = B_68_5 N (fun y => iter 0 lv_68_5 lo_68_5 (aexec TT (E_68 (R := R) N) (drawOk TT QQ) (L_68 N) (loopAt 5 (bodyOf Try.f68))) n (pt_68_5.inst y) k) x (fun y => k (.exit 0) (px_68_5_0.inst y)) := (gstep_68_5 (p_103 N) (l_68_5 N N) n x k).trans (by kernel_rfl)
theorem eq_68_5 {R : Type} (N : Nat) : ∀ (n : Nat) (x : pt_68_5.den) (k : Exit → St → Option R), iter 0 lv_68_5 lo_68_5 (aexec TT (E_68 (R := R) N) (drawOk TT QQ) (L_68 N) (loopAt 5 (bodyOf Try.f68))) n (pt_68_5.inst x) k = l_68_5 N n x (fun y => k (.exit 0) (px_68_5_0.inst y)) :=
  iter_eq (K := Exit → St → Option R) (ks := fun k => k) (l := fun n (x : pt_68_5.den) k => l_68_5 N n x (fun y => k (.exit 0) (px_68_5_0.inst y))) (B := fun (rec : pt_68_5.den → Option R) (x : pt_68_5.den) k => B_68_5 N rec x (fun y => k (.exit 0) (px_68_5_0.inst y))) (fun _ _ => rfl) (fun _ _ _ => rfl) (fun n x k => step_68_5 N n x k)
theorem rounds_68_5 {R : Type} (N : Nat) : Rounds 0 TT (E_68 (R := R) N) (drawOk TT QQ) (L_68 N) 5 (loopAt 5 (bodyOf Try.f68)) :=
  rounds_of (p := pt_68_5) (l := fun (x : pt_68_5.den) k => l_68_5 N N x (fun y => k (.exit 0) (px_68_5_0.inst y))) (fun s k => rfl) (fun x k => eq_68_5 N N x k)
theorem loops_68 : loopsIn (bodyOf Try.f68) = [(5, loopAt 5 (bodyOf Try.f68))] := by kernel_rfl
theorem lok_68 {R : Type} (N : Nat) : LOK 0 TT (E_68 (R := R) N) (drawOk TT QQ) (L_68 N) (bodyOf Try.f68) := loops_all loops_68 (by
  simp only [List.forall_mem_cons, List.not_mem_nil, false_implies, implies_true, and_true]
  exact rounds_68_5 N)
theorem grun_68 {R : Type} (q_103 : Tp_103 R) (m_68_5 : Tl_68_5 R) (x : aden ap_68 × hden hp_68) (k : KF R) : fnrun TT (EG_68 q_103) (drawOk TT QQ) (LG_68 m_68_5) true Try.f68 (instA ap_68 x.1) (instH hp_68 x.2) k = Q_68 q_103 m_68_5 x (fun y => k (Pat.inst (.tup (.fcons (.int .i64) (.fcons (.str) (.fcons (.int .i64) (.fnil))))) y) (instH hp_68 x.2)) := by kernel_rfl
theorem run_68 {R : Type} (N : Nat) (x : aden ap_68 × hden hp_68) (k : KF R) : fnrun TT (E_68 (R := R) N) (drawOk TT QQ) (L_68 N) true Try.f68 (instA ap_68 x.1) (instH hp_68 x.2) k = p_68 N x (fun y => k (Pat.inst (.tup (.fcons (.int .i64) (.fcons (.str) (.fcons (.int .i64) (.fnil))))) y) (instH hp_68 x.2)) := (grun_68 (p_103 N) (l_68_5 N N) x k).trans (by kernel_rfl)
theorem good_68 {R : Type} (N : Nat) : GD (X := R) Try.prog QQ 68 ap_68 hp_68 (fun (x : aden ap_68 × hden hp_68) k => p_68 N x (fun y => k (Pat.inst (.tup (.fcons (.int .i64) (.fcons (.str) (.fcons (.int .i64) (.fnil))))) y) (instH hp_68 x.2))) :=
  gd_quiet (E := E_68 N) (p := fun (x : aden ap_68 × hden hp_68) κ => p_68 N x (fun y => κ (Pat.inst (.tup (.fcons (.int .i64) (.fcons (.str) (.fcons (.int .i64) (.fnil))))) y))) mixed tyok (eok_68 N) Try.func68 (by kernel_rfl) (by kernel_rfl) (lok_68 N) (fun x k => run_68 N x k)

def ap_15 : List Pat := [.int .i64, .str, .str]
def hp_15 : List (Option (Pat × Nat)) := []
def p_15 {R : Type} (N : Nat) (x : (Int × ByteArray × ByteArray × Unit) × (Unit)) (κ0 : (Bool × (Unit)) → Option R) : Option R :=
let i1 : Int := x.1.1
let s2 : ByteArray := x.1.2.1
let s3 : ByteArray := x.1.2.2.1
p_65 N ((), ()) (fun y212 =>
let b213 : Bool := y212
bif (!b213) then (
κ0 (false, ())) else (
let i214 : Int := ((ByteArray.size s2 : Nat) : Int)
bif (decide (i214 > 500)) then (
κ0 (true, ())) else (
let i215 : Int := ((ByteArray.size s3 : Nat) : Int)
bif (decide (i215 > 500)) then (
κ0 (true, ())) else (
p_66 N ((i1, s2, ()), ()) (fun y216 =>
let s217 : ByteArray := y216.1
let i218 : Int := y216.2.1
bif (decide (i1 < 1)) then (
bif (i218 != 1) then (
κ0 (false, ())) else (
bif (!eqS s217 (⟨#[]⟩)) then (
κ0 (false, ())) else (
p_67 N ((s3, ()), ()) (fun y219 =>
let i220 : Int := y219.1
let s221 : ByteArray := y219.2.1
let i222 : Int := y219.2.2.1
p_68 N ((s3, ()), ()) (fun y295 =>
let i296 : Int := y295.1
let s297 : ByteArray := y295.2.1
let i298 : Int := y295.2.2.1
bif (i220 != i296) then (
κ0 (false, ())) else (
bif (!eqS s221 s297) then (
κ0 (false, ())) else (
bif (i222 != i298) then (
κ0 (false, ())) else (
p_66 N ((i220, s221, ()), ()) (fun y299 =>
let s300 : ByteArray := y299.1
let i301 : Int := y299.2.1
bif (i222 != 0) then (
κ0 (true, ())) else (
bif (i301 == 0) then (
κ0 ((eqS s300 s3), ())) else (
κ0 (false, ())))))))))))) else (
bif (decide (i1 > 999)) then (
bif (i218 != 1) then (
κ0 (false, ())) else (
bif (!eqS s217 (⟨#[]⟩)) then (
κ0 (false, ())) else (
p_67 N ((s3, ()), ()) (fun y302 =>
let i303 : Int := y302.1
let s304 : ByteArray := y302.2.1
let i305 : Int := y302.2.2.1
p_68 N ((s3, ()), ()) (fun y306 =>
let i307 : Int := y306.1
let s308 : ByteArray := y306.2.1
let i309 : Int := y306.2.2.1
bif (i303 != i307) then (
κ0 (false, ())) else (
bif (!eqS s304 s308) then (
κ0 (false, ())) else (
bif (i305 != i309) then (
κ0 (false, ())) else (
p_66 N ((i303, s304, ()), ()) (fun y310 =>
let s311 : ByteArray := y310.1
let i312 : Int := y310.2.1
bif (i305 != 0) then (
κ0 (true, ())) else (
bif (i312 == 0) then (
κ0 ((eqS s311 s3), ())) else (
κ0 (false, ())))))))))))) else (
p_67 N ((s217, ()), ()) (fun y313 =>
let i314 : Int := y313.1
let s315 : ByteArray := y313.2.1
let i316 : Int := y313.2.2.1
bif (i218 != 0) then (
κ0 (false, ())) else (
bif (i316 != 0) then (
κ0 (false, ())) else (
bif (i314 != i1) then (
κ0 (false, ())) else (
bif (!eqS s315 s2) then (
κ0 (false, ())) else (
p_67 N ((s3, ()), ()) (fun y317 =>
let i318 : Int := y317.1
let s319 : ByteArray := y317.2.1
let i320 : Int := y317.2.2.1
p_68 N ((s3, ()), ()) (fun y321 =>
let i322 : Int := y321.1
let s323 : ByteArray := y321.2.1
let i324 : Int := y321.2.2.1
bif (i318 != i322) then (
κ0 (false, ())) else (
bif (!eqS s319 s323) then (
κ0 (false, ())) else (
bif (i320 != i324) then (
κ0 (false, ())) else (
p_66 N ((i318, s319, ()), ()) (fun y325 =>
let s326 : ByteArray := y325.1
let i327 : Int := y325.2.1
bif (i320 != 0) then (
κ0 (true, ())) else (
bif (i327 == 0) then (
κ0 ((eqS s326 s3), ())) else (
κ0 (false, ())))))))))))))))))))))

abbrev Tp_15 (R : Type) : Type := (Int × ByteArray × ByteArray × Unit) × (Unit) → ((Bool × (Unit)) → Option R) → Option R
def Q_15 {R : Type} (q_65 : Tp_65 R) (q_66 : Tp_66 R) (q_67 : Tp_67 R) (q_68 : Tp_68 R) (x : (Int × ByteArray × ByteArray × Unit) × (Unit)) (κ0 : (Bool × (Unit)) → Option R) : Option R :=
let i1 : Int := x.1.1
let s2 : ByteArray := x.1.2.1
let s3 : ByteArray := x.1.2.2.1
q_65 ((), ()) (fun y212 =>
let b213 : Bool := y212
bif (!b213) then (
κ0 (false, ())) else (
let i214 : Int := ((ByteArray.size s2 : Nat) : Int)
bif (decide (i214 > 500)) then (
κ0 (true, ())) else (
let i215 : Int := ((ByteArray.size s3 : Nat) : Int)
bif (decide (i215 > 500)) then (
κ0 (true, ())) else (
q_66 ((i1, s2, ()), ()) (fun y216 =>
let s217 : ByteArray := y216.1
let i218 : Int := y216.2.1
bif (decide (i1 < 1)) then (
bif (i218 != 1) then (
κ0 (false, ())) else (
bif (!eqS s217 (⟨#[]⟩)) then (
κ0 (false, ())) else (
q_67 ((s3, ()), ()) (fun y219 =>
let i220 : Int := y219.1
let s221 : ByteArray := y219.2.1
let i222 : Int := y219.2.2.1
q_68 ((s3, ()), ()) (fun y295 =>
let i296 : Int := y295.1
let s297 : ByteArray := y295.2.1
let i298 : Int := y295.2.2.1
bif (i220 != i296) then (
κ0 (false, ())) else (
bif (!eqS s221 s297) then (
κ0 (false, ())) else (
bif (i222 != i298) then (
κ0 (false, ())) else (
q_66 ((i220, s221, ()), ()) (fun y299 =>
let s300 : ByteArray := y299.1
let i301 : Int := y299.2.1
bif (i222 != 0) then (
κ0 (true, ())) else (
bif (i301 == 0) then (
κ0 ((eqS s300 s3), ())) else (
κ0 (false, ())))))))))))) else (
bif (decide (i1 > 999)) then (
bif (i218 != 1) then (
κ0 (false, ())) else (
bif (!eqS s217 (⟨#[]⟩)) then (
κ0 (false, ())) else (
q_67 ((s3, ()), ()) (fun y302 =>
let i303 : Int := y302.1
let s304 : ByteArray := y302.2.1
let i305 : Int := y302.2.2.1
q_68 ((s3, ()), ()) (fun y306 =>
let i307 : Int := y306.1
let s308 : ByteArray := y306.2.1
let i309 : Int := y306.2.2.1
bif (i303 != i307) then (
κ0 (false, ())) else (
bif (!eqS s304 s308) then (
κ0 (false, ())) else (
bif (i305 != i309) then (
κ0 (false, ())) else (
q_66 ((i303, s304, ()), ()) (fun y310 =>
let s311 : ByteArray := y310.1
let i312 : Int := y310.2.1
bif (i305 != 0) then (
κ0 (true, ())) else (
bif (i312 == 0) then (
κ0 ((eqS s311 s3), ())) else (
κ0 (false, ())))))))))))) else (
q_67 ((s217, ()), ()) (fun y313 =>
let i314 : Int := y313.1
let s315 : ByteArray := y313.2.1
let i316 : Int := y313.2.2.1
bif (i218 != 0) then (
κ0 (false, ())) else (
bif (i316 != 0) then (
κ0 (false, ())) else (
bif (i314 != i1) then (
κ0 (false, ())) else (
bif (!eqS s315 s2) then (
κ0 (false, ())) else (
q_67 ((s3, ()), ()) (fun y317 =>
let i318 : Int := y317.1
let s319 : ByteArray := y317.2.1
let i320 : Int := y317.2.2.1
q_68 ((s3, ()), ()) (fun y321 =>
let i322 : Int := y321.1
let s323 : ByteArray := y321.2.1
let i324 : Int := y321.2.2.1
bif (i318 != i322) then (
κ0 (false, ())) else (
bif (!eqS s319 s323) then (
κ0 (false, ())) else (
bif (i320 != i324) then (
κ0 (false, ())) else (
q_66 ((i318, s319, ()), ()) (fun y325 =>
let s326 : ByteArray := y325.1
let i327 : Int := y325.2.1
bif (i320 != 0) then (
κ0 (true, ())) else (
bif (i327 == 0) then (
κ0 ((eqS s326 s3), ())) else (
κ0 (false, ())))))))))))))))))))))
def EG_15 {R : Type} (q_65 : Tp_65 R) (q_66 : Tp_66 R) (q_67 : Tp_67 R) (q_68 : Tp_68 R) : Env R := ((((Env.base QQ LN).add 65 ap_65 hp_65 (fun (x : aden ap_65 × hden hp_65) k => q_65 x (fun y => k (Pat.inst (.bool) y) (instH hp_65 x.2)))).add 66 ap_66 hp_66 (fun (x : aden ap_66 × hden hp_66) k => q_66 x (fun y => k (Pat.inst (.tup (.fcons (.str) (.fcons (.int .i64) (.fnil)))) y) (instH hp_66 x.2)))).add 67 ap_67 hp_67 (fun (x : aden ap_67 × hden hp_67) k => q_67 x (fun y => k (Pat.inst (.tup (.fcons (.int .i64) (.fcons (.str) (.fcons (.int .i64) (.fnil))))) y) (instH hp_67 x.2)))).add 68 ap_68 hp_68 (fun (x : aden ap_68 × hden hp_68) k => q_68 x (fun y => k (Pat.inst (.tup (.fcons (.int .i64) (.fcons (.str) (.fcons (.int .i64) (.fnil))))) y) (instH hp_68 x.2)))
def LG_15 {R : Type} : Loops R := Loops.none
def E_15 {R : Type} (N : Nat) : Env R := EG_15 (p_65 N) (p_66 N) (p_67 N) (p_68 N)
theorem eok_15 {R : Type} (N : Nat) : EK Try.prog (E_15 (R := R) N) := ek_add (ek_add (ek_add (ek_add (ek_base _ _) (good_65 N)) (good_66 N)) (good_67 N)) (good_68 N)
def L_15 {R : Type} (N : Nat) : Loops R := LG_15
theorem lok_15 {R : Type} (N : Nat) : LOK 0 TT (E_15 (R := R) N) (drawOk TT QQ) (L_15 N) (bodyOf Try.f15) := loops_nil (by kernel_rfl)
theorem grun_15 {R : Type} (q_65 : Tp_65 R) (q_66 : Tp_66 R) (q_67 : Tp_67 R) (q_68 : Tp_68 R) (x : aden ap_15 × hden hp_15) (k : KF R) : fnrun TT (EG_15 q_65 q_66 q_67 q_68) (drawOk TT QQ) (LG_15) true Try.f15 (instA ap_15 x.1) (instH hp_15 x.2) k = Q_15 q_65 q_66 q_67 q_68 x (fun y => k (Pat.inst (.bool) y.1) (instH [] y.2)) := by kernel_rfl
theorem run_15 {R : Type} (N : Nat) (x : aden ap_15 × hden hp_15) (k : KF R) : fnrun TT (E_15 (R := R) N) (drawOk TT QQ) (L_15 N) true Try.f15 (instA ap_15 x.1) (instH hp_15 x.2) k = p_15 N x (fun y => k (Pat.inst (.bool) y.1) (instH [] y.2)) := (grun_15 (p_65 N) (p_66 N) (p_67 N) (p_68 N) x k).trans (by kernel_rfl)
theorem good_15 {R : Type} (N : Nat) : GD (X := R) Try.prog QQ 15 ap_15 hp_15 (fun (x : aden ap_15 × hden hp_15) k => p_15 N x (fun y => k (Pat.inst (.bool) y.1) (instH [] y.2))) :=
  gd_loud (E := E_15 N) (p := fun (x : aden ap_15 × hden hp_15) k => p_15 N x (fun y => k (Pat.inst (.bool) y.1) (instH [] y.2))) mixed tyok (eok_15 N) Try.func15 (by kernel_rfl) (by kernel_rfl) (by kernel_rfl) (lok_15 N) (fun x k => run_15 N x k)

end Go.Proofs.Ytjehpceomlnicaa.Eng
